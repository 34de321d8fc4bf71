/- More rules: a drawn region whose last operation waits for all others; append onto a full slice that is only read; a slice with its room told. -/
import Derived.Test.YtmochicneilhhaaGreatPBv
import Derived.Test.YtmochicneilhhaaGreatPKi
import Derived.ArgAppend
namespace Go.Proofs.YtmochicneilhhaaGreat
open Go.RowKit
section
variable {P : Program} {ops : Array Oper} {Q : Exit → Act → World → Prop} {S : World → Prop} {E : List Nat}
/-- the last one waits for all others -/
def lastB (ops : Array Oper) (z : Nat) : Bool := Nat.beq (z + 1) ops.size && (List.range z).all fun j => (downs ops z (onOf ops z)).contains j
def wpIdxK (P : Program) (ops : Array Oper) (Q : Exit → Act → World → Prop) (S : World → Prop) (E : List Nat) (Kf : Act → World → Prop) : List Nat → Act → World → Prop
  | [], a, w => Kf a w
  | i :: l, a, w => stepI P ops Q S E i (wpIdxK P ops Q S E Kf l) a w
theorem wpIdxK_front {Kf : Act → World → Prop} {i : Nat} {oi : Oper} (hi : ops[i]? = some oi) (hsel : ∀ (j : Nat) (o : Oper) cs b, ops[j]? = some o → o.op ≠ .select cs b) (hQ : NoDeath Q) (l2 : List Nat) :
    ∀ (l1 : List Nat), (∀ j ∈ l1, ∃ oj, ops[j]? = some oj ∧ oj.apart ops oi = true ∧ ¬ (E.contains i = true ∧ E.contains j = true)) →
      ∀ a w, S w → wpIdxK P ops Q S E Kf (l1 ++ i :: l2) a w → wpIdxK P ops Q S E Kf (i :: (l1 ++ l2)) a w
  | [], _, _, _, _, h => h
  | j :: l1, hl, a, w, hS, h => by
    obtain ⟨oj, hj, hap, hE⟩ := hl j (List.mem_cons_self ..)
    have h' : stepI P ops Q S E j (stepI P ops Q S E i (wpIdxK P ops Q S E Kf (l1 ++ l2))) a w :=
      stepI_mono (fun a' w' hs hk => wpIdxK_front hi hsel hQ l2 l1 (fun k hk => hl k (List.mem_cons_of_mem _ hk)) a' w' hs hk) hS h
    exact stepI_swap hi hj hap (hsel i oi · · hi) (hsel j oj · · hj) hQ hE h'
theorem wpAny_of_idxK {z : Nat} (hser : serialB ops E = true) (hlast : lastB ops z = true) (hQ : NoDeath Q) : ∀ (fuel : Nat) (l : List Nat) (listed : Array Bool), l.length = fuel → l.Pairwise (· < ·) → (∀ j ∈ l, j < z) → (∀ j, (j ∈ l ∨ j = z) ↔ listed.getD j true = false) → listed.size = ops.size →
    (∀ k, listed.getD k false = true → ∀ e ∈ onOf ops k, listed.getD e false = true) → ∀ a w, S w → wpIdxK P ops Q S E (wpOp P ops Q z (Q .normal)) l a w → wpAny P .any ops Q (fuel + 1) listed a w := by
  simp only [serialB, Bool.and_eq_true, List.all_eq_true, List.mem_range, decide_eq_true_eq, Bool.or_eq_true, Bool.not_eq_true', decide_eq_false_iff_not] at hser
  obtain ⟨⟨⟨hsel, hback⟩, hap⟩, hchain⟩ := hser
  simp only [lastB, Bool.and_eq_true, List.all_eq_true, List.mem_range] at hlast
  have hzs := Nat.eq_of_beq_eq_true hlast.1
  have hdn := hlast.2
  have hsel' : ∀ (j : Nat) (o : Oper) cs b, ops[j]? = some o → o.op ≠ .select cs b := fun j o cs b ho => Region.noSelect_spec hsel j o cs b ho
  have T : ∀ (listed : Array Bool), listed.size = ops.size → ∀ j, j < ops.size → (listed.getD j true = false ↔ ¬ listed.getD j false = true) := by
    intro listed hsz j hj
    have : j < listed.size := by omega
    simp [Array.getD_eq_getD_getElem?, this]
  have setD : ∀ (listed : Array Bool) (i : Nat), listed.size = ops.size → i < ops.size → ∀ j, (listed.setIfInBounds i true).getD j true = if j = i then true else listed.getD j true := by
    intro listed i hsz hin j
    by_cases hji : j = i
    · subst hji; simp [Array.getD_eq_getD_getElem?, hsz, hin]
    · rw [if_neg hji, getD_set_ne true (Ne.symm hji)]
  intro fuel
  induction fuel with
  | zero =>
    intro l listed hl _ _ hm hsz hcl a w _ h
    obtain rfl : l = [] := List.eq_nil_of_length_eq_zero hl
    have hz : ∀ j, j = z ↔ listed.getD j true = false := fun j => by rw [← hm j]; simp
    refine ⟨fun hr => ?_, fun i hi => ?_⟩
    · exfalso
      have hx : z ∈ Region.ready .any ops listed := by
        refine mem_ready.2 ⟨(hz z).1 rfl, ops[z], by simp [← hzs], fun e he hb => ?_⟩
        have hon : e.on ∈ onOf ops z := (mem_onOf (by simp [← hzs])).2 ⟨e, he, hb, rfl⟩
        have hlt := hback z (by omega) e.on hon
        by_cases hc : listed.getD e.on false = true
        · exact hc
        · have := (hz e.on).2 ((T listed hsz e.on (by omega)).2 hc)
          omega
      rw [hr] at hx
      cases hx
    · obtain ⟨hun, _⟩ := mem_ready.1 hi
      obtain rfl := (hz i).2 hun
      refine wpOp_mono (fun a' w' hk => ⟨?_, hk⟩) h
      rw [List.eq_nil_iff_forall_not_mem]
      intro j hj
      have := (mem_ready.1 hj).1
      rw [setD listed _ hsz (by omega)] at this
      by_cases hji : j = i
      · rw [if_pos hji] at this; cases this
      · rw [if_neg hji] at this
        exact hji ((hz j).2 this)
  | succ fuel ih =>
    intro l listed hl hsort hlz hm hsz hcl a w hS h
    cases l with
    | nil => cases hl
    | cons x xs =>
      have hxz := hlz x (List.mem_cons_self ..)
      have hxun : listed.getD x true = false := (hm x).1 (.inl (List.mem_cons_self ..))
      refine ⟨fun hr => ?_, fun i hi => ?_⟩
      · exfalso
        have hx : x ∈ Region.ready .any ops listed := by
          have hxn : x < ops.size := by omega
          refine mem_ready.2 ⟨hxun, ops[x], by simp [hxn], fun e he hb => ?_⟩
          have hon : e.on ∈ onOf ops x := (mem_onOf (by simp [hxn])).2 ⟨e, he, hb, rfl⟩
          have hlt := hback x hxn e.on hon
          by_cases hc : listed.getD e.on false = true
          · exact hc
          · have := (hm e.on).2 ((T listed hsz e.on (by omega)).2 hc)
            rcases this with h' | h'
            · rcases List.mem_cons.1 h' with h' | h'
              · omega
              · have := (List.pairwise_cons.1 hsort).1 _ h'
                omega
            · omega
        rw [hr] at hx
        cases hx
      · obtain ⟨hun, oi, hoi, hall⟩ := mem_ready.1 hi
        have hon : ∀ e ∈ onOf ops i, listed.getD e false = true := fun e he => by
          obtain ⟨x, hx, hb, rfl⟩ := (mem_onOf hoi).1 he
          exact hall x hx hb
        rcases (hm i).2 hun with hil | rfl
        · have hin : i < ops.size := by have := hlz i hil; omega
          obtain ⟨l1, l2, hsplit⟩ := List.append_of_mem hil
          have hlz' := hlz
          rw [hsplit] at h hsort hl hlz'
          have hlt : ∀ j ∈ l1, j < i := fun j hj => (List.pairwise_append.1 hsort).2.2 j hj i (List.mem_cons_self ..)
          have hfront := wpIdxK_front hoi hsel' hQ l2 l1 (fun j hj => by
            have hjl : j ∈ x :: xs := by rw [hsplit]; exact List.mem_append_left _ hj
            have hjn : j < ops.size := by have := hlz j hjl; omega
            have hjun : ¬ listed.getD j false = true := (T listed hsz j hjn).1 ((hm j).1 (.inl hjl))
            refine ⟨ops[j], by simp [hjn], ?_, ?_⟩
            · have := hap i hin j (hlt j hj)
              rcases this with h' | h'
              · exact absurd (hon j (by simpa using h')) hjun
              · simpa [hjn, hin, Option.some.inj ((by simp [hin] : ops[i]? = some ops[i]).symm.trans hoi)] using h'
            · rintro ⟨hei, hej⟩
              have := hchain i (by simpa using hei) j (by simpa using hej)
              rcases this with h' | h'
              · exact h' (hlt j hj)
              · exact hjun (downs_all (p := fun e => listed.getD e false = true) (fun k hk e he => hcl k hk e he) i _ hon j (by simpa using h'))) a w hS h
          refine wpOp_mono (fun a' w' hk => ?_) (stepI_wpOp hS hfront)
          have hnd : ∀ j ∈ l1 ++ l2, j ≠ i := by
            intro j hj
            rcases List.mem_append.1 hj with h' | h'
            · exact Nat.ne_of_lt (hlt j h')
            · exact Nat.ne_of_gt ((List.pairwise_cons.1 (List.pairwise_append.1 hsort).2.1).1 j h')
          have hiz := hlz i hil
          refine ih (l1 ++ l2) _ (by simp at hl ⊢; omega) ?_ ?_ ?_ (by simp [hsz]) ?_ a' w' hk.1 hk.2
          · exact hsort.sublist (by simp)
          · intro j hj
            refine hlz' j ?_
            rcases List.mem_append.1 hj with h' | h'
            · exact List.mem_append_left _ h'
            · exact List.mem_append_right _ (List.mem_cons_of_mem _ h')
          · intro j
            rw [setD listed i hsz hin]
            have := hm j
            rw [hsplit] at this
            by_cases hji : j = i
            · subst hji
              simp only [if_true, Bool.true_eq_false, iff_false]
              rintro (h' | h')
              · exact hnd _ h' rfl
              · omega
            · simp only [hji, if_false, ← this, List.mem_append, List.mem_cons, false_or]
          · intro k hk' e he
            by_cases hki : k = i
            · subst hki; exact getD_set_true (hon e he)
            · rw [getD_set_ne false (Ne.symm hki)] at hk'
              exact getD_set_true (hcl k hk' e he)
        · exfalso
          have hxd := hdn x hxz
          have := downs_all (p := fun e => listed.getD e false = true) (fun k hk e he => hcl k hk e he) i _ hon x (by simpa using hxd)
          exact (T listed hsz x (by omega)).1 hxun this
theorem wp_deaths {o : Oper} {a : Act} {w : World} {K : Act → World → Prop} {Q1 Q2 : Exit → Act → World → Prop} (hQ : NoDeath Q1) (h : o.wp P a w K Q1) : o.wp P a w K Q2 := by
  have hlets : ¬ LetsOut Q1 := fun ⟨a, w, hq⟩ => hQ.2 a w hq
  unfold Oper.wp at *
  generalize (execOp a.eval o).run P w = r at *
  cases r with
  | ok n w' =>
    cases n <;> simp only [Oper.upon] at h ⊢ <;>
      first
        | exact h
        | exact Calls.mono h (fun e w'' he => by
            cases e with
            | returned v => exact he
            | panicked c => exact absurd he (hQ.1 _ _ _)
            | outgrown => exact absurd he hlets)
  | halt x w' =>
    cases x <;> simp only [Oper.upon] at h ⊢ <;> first
      | exact h
      | exact absurd h (hQ.1 _ _ _)
theorem wpSer_idxK {Kf : Act → World → Prop} {Q1 : Exit → Act → World → Prop} (hQ : NoDeath Q1) (hk : ∀ a w, Q1 .normal a w → Kf a w) : ∀ (l : List Oper) (i : Nat), (∀ k o, l[k]? = some o → ops[i + k]? = some o) → ∀ a w, S w → wpSer P ops Q1 S E i l a w → wpIdxK P ops Q S E Kf (List.range' i l.length) a w
  | [], _, _, _, _, _, h => hk _ _ h
  | o :: l, i, hl, a, w, hS, h => by
    have h0 : ops[i]? = some o := by simpa using hl 0 o rfl
    have hl' : ∀ k u, l[k]? = some u → ops[i + 1 + k]? = some u := fun k u hu => by have := hl (k + 1) u (by simpa using hu); rwa [show i + 1 + k = i + (k + 1) by omega]
    show stepI P ops Q S E i (wpIdxK P ops Q S E Kf (List.range' (i + 1) l.length)) a w
    refine ⟨o, h0, ?_⟩
    rcases h with ⟨v, hy, h⟩ | ⟨he, hw, h⟩
    · exact .inl ⟨v, hy, wpSer_idxK hQ hk l (i + 1) hl' _ _ hS h⟩
    · exact .inr ⟨he, hw, Oper.wp_mono (fun a' w' hk' => ⟨hk'.1, wpSer_idxK hQ hk l (i + 1) hl' a' w' hk'.1 hk'.2⟩) (wp_deaths hQ h)⟩
end
section
variable {P : Program} {n : Nat} {M : Me} {Q : Post} {t : Fr} {L : List Ck} {ops : Array Oper} {s : Way} {i : Nat} {rest : List Oper}
/-- a drawn region whose last operation waits for all others: ahead of it the chunks of L0 hold, behind it they need not -/
theorem cx_drawZ {id : Nat} {l : List Oper} (z : Nat) (E : List Nat) (L0 : List Ck) (hm' : P.follows .mixedOrders = true) (hser : serialB l.toArray E = true) (hlast : lastB l.toArray z = true) (hg : Gives L L0)
    (h : LX P n M l.toArray (.any E L0) 0 (l.take z) (cutQ fun t L => LX P n M l.toArray .seq z (l.drop z) Q t L) t L) : CX P n M (.region id l.toArray true) Q t L := fun a w hf hm => by
  have hz : z + 1 = l.length := by
    have := hlast
    simp only [lastB, Bool.and_eq_true] at this
    simpa using Nat.eq_of_beq_eq_true this.1
  have hzl : z < l.length := by omega
  have hd : l.drop z = [l[z]] := by rw [List.drop_eq_getElem_cons hzl, List.drop_eq_nil_of_le (by omega)]
  refine wp_region_any hm' ?_
  have hS : Mem M L0 w.drew := hg M _ hm.drew
  have hsz : l.toArray.size = z + 1 := by simp [hz]
  rw [hsz]
  refine wpAny_of_idxK (S := Mem M L0) (E := E) hser hlast (QQ.noDeath Q) z (List.range' 0 z) _ (by simp) (by rw [← List.range_eq_range']; exact List.pairwise_lt_range) (fun j hj => by simpa using hj) ?_ (by simp [hz]) ?_ a w.drew hS ?_
  · intro j
    simp only [List.mem_range'_1, Array.getD_eq_getD_getElem?, Array.getElem?_replicate]
    split
    · simp; omega
    · simp; omega
  · intro k hk
    simp only [Array.getD_eq_getD_getElem?, Array.getElem?_replicate] at hk
    split at hk <;> simp at hk
  · have h1 := h hg a w.drew hf hm.drew
    have hlt : (l.take z).length = z := by rw [List.length_take]; omega
    rw [← hlt]
    refine wpSer_idxK (QQ.noDeath _) (fun a' w' hq => ?_) (l.take z) 0 (fun k o ho => ?_) a w.drew hS h1
    · obtain ⟨t', L', hf', hm2, hk⟩ := hq
      have h2 : wpList P l.toArray (QQ n M Q) (l.drop z) a' w' := hk trivial a' w' hf' hm2
      rw [hd] at h2
      unfold wpOp
      rw [hlt, show l.toArray[z]? = some l[z] by simp [hzl]]
      exact h2
    · rw [List.getElem?_take] at ho
      split at ho
      · simpa using ho
      · cases ho
/-- what is appended onto a full slice that is read: the same slice, or a new row -/
theorem lx_appendR {E : Env P} {d : Nat} {x y : Operand} {T : TypeId} {ty : TypeId} {pos : String} {after : Array Edge} {guard : Option (Nat × Bool)} {p : Option Bool} {A A2 : Option Addr} {q m c2 sz : Nat} {e : TypeId} {j : TyI} {z : Value} {xs news : List Value}
    (hl : s.loud i = true) (hg : gOf ops t ⟨some d, .call ⟨.builtin .append, #[x, y], #[T, T]⟩, ty, pos, after, guard⟩ = some p) (hp : cb p = true) (hn : Nat.blt d n = true)
    (hx : o1 t x = some (.slice A q q)) (hy : o1 t y = some (.slice A2 m c2)) (hT : tyOf E.f T = .slice e) (he : E.f e = some j) (hz : j.zero = some z) (hzs : (cellsL z).length = j.size) (hsz : j.size = sz) (hpos : Nat.blt 0 sz = true)
    (hr0 : ∀ w, Mem M L w → Row w w.heap.size sz A q xs) (hr : ∀ w, Mem M L w → Row w w.heap.size sz A2 m news) (h1 : ∀ u ∈ news, u.oneCell' = true) (h63 : q + m ≤ maxLen) (hbytes : (q + m) * j.bytes ≤ 140737488355328)
    (h0 : m = 0 → LX P n M ops s (i + 1) rest Q ((d, none, .slice A q q) :: t) L)
    (h : 0 < m → ∀ A' c', LX P n M ops s (i + 1) rest Q ((d, none, .slice A' (q + m) c') :: t) (.own A' (q + m) c' e sz (xs ++ news) :: L)) : LX P n M ops s i (⟨some d, .call ⟨.builtin .append, #[x, y], #[T, T]⟩, ty, pos, after, guard⟩ :: rest) Q t L :=
  lx_loud hl hg hp fun a w hf hm hs K hK => by
    obtain ⟨g, hgi, g1, g2, g3⟩ := E.info he
    have hrow0 := hr0 w hm
    have hrow := hr w hm
    have hui := tyOf_slice hT
    unfold Oper.wp execOp
    simp only [resolve, invoke, builtin, Sem.run_bind, Sem.run_pure, Result.andThen_ok, List.map_toArray, List.map_cons, List.map_nil, hf.o1 hx, hf.o1 hy]
    rcases Nat.eq_zero_or_pos m with rfl | hm0
    · have hrun : (Builtin.append_ #[T, T] ty #[.slice A q q, .slice A2 0 c2]).run P w = .ok (.slice A q q) w := by
        cases A2 with
        | none => cases A <;> simp [Builtin.append_, run_underlying hui, sizeOf, typeInfo, hgi, Builtin.lenOf, Builtin.firstCells, storeCells]
        | some a2 =>
          have hfc := run_firstCells_some (P := P) w g.size 0 a2 0 c2 [] (by simp) (by simp)
          cases A <;> simp [Builtin.append_, run_underlying hui, sizeOf, typeInfo, hgi, Builtin.lenOf, hfc, storeCells]
      rw [hrun]
      exact hK _ _ _ _ (hf.put1 (Nat.le_of_ble_eq_true hn) _) hm hs (h0 rfl)
    · obtain ⟨b2, off2, rfl, _, hc2⟩ := hrow.2 hm0
      have key : ∃ v' w', (Builtin.append_ #[T, T] ty #[.slice A q q, .slice (some ⟨b2, off2, none⟩) m c2]).run P w = .ok v' w' ∧ w'.ownsRow w.heap.size e sz v' (q + m) (xs ++ news) ∧ w.grownBy w' none := by
        cases A with
        | none =>
          have hq : q = 0 := by
            rcases Nat.eq_zero_or_pos q with h | h
            · exact h
            · obtain ⟨_, _, h', _⟩ := hrow0.2 h; cases h'
          subst hq
          obtain rfl : xs = [] := List.eq_nil_of_length_eq_zero (by rw [hrow0.1]; simp)
          obtain ⟨v', w', hrun, r1, r2, _⟩ := run_append_own (P := P) w w.heap.size T ty e g z sz j.bytes hui hgi (g3.trans hz) (g1.trans hsz) g2 (by rw [cellsL_ok]; simp [hzs, hsz]) (Nat.le_of_ble_eq_true hpos) (.slice none 0 0) 0 [] (World.ownsRow_nil w _ e sz) ⟨b2, off2, none⟩ m c2 news hrow.1 (fun k u hu => by rw [Addr.add_lit]; exact hc2 k u hu) h1 h63 hbytes (Nat.le_refl _)
          exact ⟨v', w', hrun, r1, r2⟩
        | some b1 =>
          refine run_append_arg_grows (P := P) w T ty e g z sz j.bytes hui hgi (g3.trans hz) (g1.trans hsz) g2 (by rw [cellsL_ok]; simp [hzs, hsz]) (Nat.le_of_ble_eq_true hpos) b1 q q xs hrow0.1 (fun k u hu => ?_) ⟨b2, off2, none⟩ m c2 news hrow.1 (fun k u hu => by rw [Addr.add_lit]; exact hc2 k u hu) (by omega) h63 hbytes
          have hq : 0 < q := by
            rcases Nat.eq_zero_or_pos q with h | h
            · have hx0 := hrow0.1
              rw [h, Nat.zero_mul] at hx0
              rw [List.eq_nil_of_length_eq_zero hx0] at hu
              cases hu
            · exact h
          obtain ⟨b, off, hb, _, hc⟩ := hrow0.2 hq
          cases hb
          rw [Addr.add_lit]
          exact hc k u hu
      obtain ⟨v', w', hrun, r1, r2⟩ := key
      obtain ⟨A', c', rfl⟩ := own_shape r1
      rw [hrun]
      have hmN := Gives.nilown L e sz M w hm
      have hm3 : Mem M (.own A' (q + m) c' e sz (xs ++ news) :: L) w' := hmN.turn (k := 0) (c := .own none 0 0 e sz []) (c' := .own A' (q + m) c' e sz (xs ++ news)) rfl rfl (fun b hb => .inr ?_) r2.os r2.tape r2.output r2.size (fun b hb _ => r2.block b hb (by simp)) ?_
      · exact hK _ _ _ _ (hf.put1 (Nat.le_of_ble_eq_true hn) _) hm3 (hs.more (Gives.right [_] L)) (h hm0 A' c')
      · obtain ⟨_, h2⟩ := r1
        rcases h2 with ⟨hv, _⟩ | ⟨g', cap, cur, hv, hle, _⟩
        · simp only [Value.slice.injEq] at hv
          rw [hv.1] at hb
          cases hb
        · simp only [Value.slice.injEq] at hv
          rw [hv.1] at hb
          cases hb
          exact hle
      · obtain ⟨h2, h3⟩ := r1
        refine ⟨h2, ?_⟩
        rcases h3 with h3 | ⟨g', cap, cur, hv, hle, hr⟩
        · exact .inl h3
        · exact .inr ⟨g', cap, cur, hv, Nat.zero_le _, hr⟩
end
end Go.Proofs.YtmochicneilhhaaGreat
