/- A region that draws its order, gone through in the order of its text. The operations in E may change memory; of the others each yields one value in every world that meets S. -/
import Derived.Test.YtmochicneilhhaaGreatPMem
import Derived.OrdersHeld
namespace Go.Proofs.YtmochicneilhhaaGreat
open Go.RowKit

/-- what a list of operations leads back to, from number k - 1 down -/
def downs (ops : Array Oper) : Nat → List Nat → List Nat
  | 0, m => m
  | k + 1, m => if m.contains k then downs ops k (m ++ (((ops[k]?).map fun o => (o.after.toList.filter (Region.binds .any)).map (·.on)).getD [])) else downs ops k m
def onOf (ops : Array Oper) (i : Nat) : List Nat := ((ops[i]?).map fun o => (o.after.toList.filter (Region.binds .any)).map (·.on)).getD []

/-- edges lead back; who is not bound by an edge is apart; those of E stand in one chain -/
def serialB (ops : Array Oper) (E : List Nat) : Bool :=
  Region.noSelect ops &&
  (List.range ops.size).all (fun i => (onOf ops i).all (fun j => decide (j < i))) &&
  (List.range ops.size).all (fun i => (List.range i).all fun j => (onOf ops i).contains j || match ops[j]?, ops[i]? with
      | some oj, some oi => oj.apart ops oi
      | _, _ => true) &&
  E.all (fun i => E.all fun j => !decide (j < i) || (downs ops i (onOf ops i)).contains j)

/-- nothing ends here but by coming to an end -/
def NoDeath (Q : Exit → Act → World → Prop) : Prop := (∀ c a w, ¬ Q (.panic c) a w) ∧ ∀ a w, ¬ Q .outgrown a w
theorem NoDeath.seq {K : Act → World → Prop} {Q : Exit → Act → World → Prop} (h : NoDeath Q) : NoDeath (Exit.then K Q) := ⟨fun c a w hq => h.1 c a w hq, fun a w hq => h.2 a w hq⟩
theorem NoDeath.inBlock {id : Nat} {Q : Exit → Act → World → Prop} (h : NoDeath Q) : NoDeath (Exit.inBlock id Q) := ⟨fun c a w hq => h.1 c a w hq, fun a w hq => h.2 a w hq⟩
theorem NoDeath.body {P : Program} {fn : Func} {R : Ending → World → Prop} (h1 : ∀ c w, ¬ R (.panicked c) w) (h2 : ∀ w, ¬ R .outgrown w) : NoDeath (bodyPost P fn R) :=
  ⟨fun c _ w hq => h1 c w hq.2, fun _ w hq => h2 w hq⟩

section
variable {P : Program} {ops : Array Oper} {Q : Exit → Act → World → Prop} {S : World → Prop} {E : List Nat}

def stepI (P : Program) (ops : Array Oper) (Q : Exit → Act → World → Prop) (S : World → Prop) (E : List Nat) (i : Nat) (K : Act → World → Prop) (a : Act) (w : World) : Prop :=
  ∃ o, ops[i]? = some o ∧ ((∃ v, YieldsIf P ops S o v a ∧ K (a.put o.dst v) w) ∨
    (E.contains i = true ∧ Region.wanted o (yielded ops a.tmps) = true ∧ o.wp P a w (fun a' w' => S w' ∧ K a' w') Q))
def wpIdx (P : Program) (ops : Array Oper) (Q : Exit → Act → World → Prop) (S : World → Prop) (E : List Nat) : List Nat → Act → World → Prop
  | [], a, w => Q .normal a w
  | i :: l, a, w => stepI P ops Q S E i (wpIdx P ops Q S E l) a w

theorem stepI_mono {i : Nat} {K K' : Act → World → Prop} {a : Act} {w : World} (h : ∀ a' w', S w' → K a' w' → K' a' w') (hS : S w) (hh : stepI P ops Q S E i K a w) : stepI P ops Q S E i K' a w := by
  obtain ⟨o, ho, hh⟩ := hh
  refine ⟨o, ho, ?_⟩
  rcases hh with ⟨v, hy, hk⟩ | ⟨he, hw, hk⟩
  · exact .inl ⟨v, hy, h _ _ hS hk⟩
  · exact .inr ⟨he, hw, Oper.wp_mono (fun a' w' ⟨s, k⟩ => ⟨s, h _ _ s k⟩) hk⟩

theorem stepI_wpOp {i : Nat} {K : Act → World → Prop} {a : Act} {w : World} (hS : S w) (hh : stepI P ops Q S E i K a w) : wpOp P ops Q i (fun a' w' => S w' ∧ K a' w') a w := by
  obtain ⟨o, ho, hh⟩ := hh
  rcases hh with ⟨v, hy, hk⟩ | ⟨he, hw, hk⟩
  · exact hy.wpOp ho hS ⟨hS, hk⟩
  · unfold wpOp
    simp only [ho, hw, if_true]
    exact .inl hk

theorem wp_some {o : Oper} {a : Act} {w : World} {K : Act → World → Prop} (hQ : NoDeath Q) (h : o.wp P a w K Q) : ∃ d u w', K (({ a with defers := d } : Act).put o.dst u) w' := by
  unfold Oper.wp at h
  generalize (execOp a.eval o).run P w = r at h
  cases r with
  | ok n w' =>
    cases n <;> simp only [Oper.upon] at h
    case value v => exact ⟨a.defers, v, w', h⟩
    case skip => exact ⟨a.defers, undef, w', h⟩
    case defer d => exact ⟨d :: a.defers, undef, w', h⟩
    case enter f args =>
      obtain ⟨e, w'', fr, hr, _⟩ := h []
      cases e with
      | returned v => exact ⟨a.defers, v, w'', hr⟩
      | panicked c => exact absurd hr (hQ.1 _ _ _)
      | outgrown => obtain ⟨a₀, w₀, hq⟩ := hr; exact absurd hq (hQ.2 _ _)
    case row row args =>
      obtain ⟨v, w'', hr, _⟩ := h default []
      exact ⟨a.defers, v, w'', hr⟩
  | halt x w' =>
    cases x <;> simp only [Oper.upon] at h
    case panic v => exact absurd h (hQ.1 _ _ _)

theorem YieldsIf.away {o : Oper} {v : Value} {a : Act} (hs : ∀ cs b, o.op ≠ .select cs b) {dst : Option Tmp} (u : Value) (h : ∀ d, dst = some d → d ∉ o.looksAt ops) :
    YieldsIf P ops S o v (a.put dst u) ↔ YieldsIf P ops S o v a :=
  ⟨fun hy => hy.of_same (execOp_put o hs a dst u h).symm (wanted_put o a dst u h).symm, fun hy => hy.of_same (execOp_put o hs a dst u h) (wanted_put o a dst u h)⟩
theorem YieldsIf.defers {o : Oper} {v : Value} {a : Act} (d : List Deferred) : YieldsIf P ops S o v { a with defers := d } ↔ YieldsIf P ops S o v a :=
  ⟨fun hy => hy.of_same rfl rfl, fun hy => hy.of_same rfl rfl⟩
theorem YieldsIf.one {o : Oper} {v u : Value} {a : Act} {w : World} (hS : S w) (h : YieldsIf P ops S o v a) (k : YieldsIf P ops S o u a) : v = u := by
  rcases h with ⟨hw, hv⟩ | ⟨hw, rfl⟩ <;> rcases k with ⟨kw, kv⟩ | ⟨kw, rfl⟩
  · have := (hv w hS).symm.trans (kv w hS)
    simpa using this
  · rw [hw] at kw; cases kw
  · rw [hw] at kw; cases kw
  · rfl

/-- what another operation has yielded makes no difference to this one -/
theorem wp_put {o : Oper} {a : Act} {w : World} {K : Act → World → Prop} (hQ : NoDeath Q) (hs : ∀ cs b, o.op ≠ .select cs b) {dst : Option Tmp} (v : Value) (h : ∀ d, dst = some d → d ∉ o.looksAt ops)
    (h2 : ∀ d, dst = some d → o.dst ≠ some d) (hh : o.wp P a w (fun a' w' => K (a'.put dst v) w') Q) : o.wp P (a.put dst v) w K Q := by
  unfold Oper.wp at *
  rw [execOp_put o hs a dst v h]
  generalize (execOp a.eval o).run P w = r at *
  cases r with
  | ok n w' =>
    cases n <;> simp only [Oper.upon] at hh ⊢
    case value u => rw [Act.put_comm a v u h2]; exact hh
    case skip => rw [Act.put_comm a v undef h2]; exact hh
    case defer d => rw [Act.put_defers, Act.put_comm _ v undef h2]; exact hh
    case enter f args =>
      refine Calls.mono hh fun e w'' he => ?_
      cases e with
      | returned u => dsimp only at he ⊢; rw [Act.put_comm a v u h2]; exact he
      | panicked c => exact absurd he (hQ.1 _ _ _)
      | outgrown => exact he
    case row row args => exact Rows.mono hh fun u w'' he => by rw [Act.put_comm a v u h2]; exact he
  | halt x w' =>
    cases x <;> simp only [Oper.upon] at hh ⊢
    case panic u => exact absurd hh (hQ.1 _ _ _)
theorem wp_unput {o : Oper} {a : Act} {w : World} {K : Act → World → Prop} (hQ : NoDeath Q) (hs : ∀ cs b, o.op ≠ .select cs b) {dst : Option Tmp} (v : Value) (h : ∀ d, dst = some d → d ∉ o.looksAt ops)
    (h2 : ∀ d, dst = some d → o.dst ≠ some d) (hh : o.wp P (a.put dst v) w K Q) : o.wp P a w (fun a' w' => (∃ d u, a' = ({ a with defers := d } : Act).put o.dst u) ∧ K (a'.put dst v) w') Q := by
  unfold Oper.wp at *
  rw [execOp_put o hs a dst v h] at hh
  generalize (execOp a.eval o).run P w = r at *
  cases r with
  | ok n w' =>
    cases n <;> simp only [Oper.upon] at hh ⊢
    case value u => rw [Act.put_comm a v u h2] at hh; exact ⟨⟨a.defers, u, rfl⟩, hh⟩
    case skip => rw [Act.put_comm a v undef h2] at hh; exact ⟨⟨a.defers, undef, rfl⟩, hh⟩
    case defer d => rw [Act.put_defers, Act.put_comm _ v undef h2] at hh; exact ⟨⟨d :: a.defers, undef, rfl⟩, hh⟩
    case enter f args =>
      refine Calls.mono hh fun e w'' he => ?_
      cases e with
      | returned u => dsimp only at he ⊢; rw [Act.put_comm a v u h2] at he; exact ⟨⟨a.defers, u, rfl⟩, he⟩
      | panicked c => exact absurd he (hQ.1 _ _ _)
      | outgrown => exact he
    case row row args => exact Rows.mono hh fun u w'' he => by rw [Act.put_comm a v u h2] at he; exact ⟨⟨a.defers, u, rfl⟩, he⟩
  | halt x w' =>
    cases x <;> simp only [Oper.upon] at hh ⊢
    case panic u => exact absurd hh (hQ.1 _ _ _)
theorem wp_shape {o : Oper} {a : Act} {w : World} {K : Act → World → Prop} (hQ : NoDeath Q) (hh : o.wp P a w K Q) : o.wp P a w (fun a' w' => (∃ d u, a' = ({ a with defers := d } : Act).put o.dst u) ∧ K a' w') Q := by
  unfold Oper.wp at *
  generalize (execOp a.eval o).run P w = r at *
  cases r with
  | ok n w' =>
    cases n <;> simp only [Oper.upon] at hh ⊢
    case value u => exact ⟨⟨a.defers, u, rfl⟩, hh⟩
    case skip => exact ⟨⟨a.defers, undef, rfl⟩, hh⟩
    case defer d => exact ⟨⟨d :: a.defers, undef, rfl⟩, hh⟩
    case enter f args =>
      refine Calls.mono hh fun e w'' he => ?_
      cases e with
      | returned u => exact ⟨⟨a.defers, u, rfl⟩, he⟩
      | panicked c => exact absurd he (hQ.1 _ _ _)
      | outgrown => exact he
    case row row args => exact Rows.mono hh fun u w'' he => ⟨⟨a.defers, u, rfl⟩, he⟩
  | halt x w' =>
    cases x <;> simp only [Oper.upon] at hh ⊢
    case panic u => exact absurd hh (hQ.1 _ _ _)

theorem stepI_swap {i j : Nat} {oi oj : Oper} (hi : ops[i]? = some oi) (hj : ops[j]? = some oj) (hap : oj.apart ops oi = true) (hsi : ∀ cs b, oi.op ≠ .select cs b) (hsj : ∀ cs b, oj.op ≠ .select cs b)
    (hQ : NoDeath Q) (hE : ¬ (E.contains i = true ∧ E.contains j = true)) {K : Act → World → Prop} {a : Act} {w : World}
    (h : stepI P ops Q S E j (stepI P ops Q S E i K) a w) : stepI P ops Q S E i (stepI P ops Q S E j K) a w := by
  obtain ⟨h1, h2, h3⟩ := Oper.apart_spec hap
  have h2' : ∀ d, oi.dst = some d → oj.dst ≠ some d := fun d hd he => h2 d he hd
  obtain ⟨o, ho, h⟩ := h
  obtain rfl : oj = o := Option.some.inj (hj.symm.trans ho)
  rcases h with ⟨v, hyj, o, ho', h⟩ | ⟨hej, hwj, h⟩
  · obtain rfl : oi = o := Option.some.inj (hi.symm.trans ho')
    rcases h with ⟨u, hyi, hk⟩ | ⟨hei, hwi, hk⟩
    · refine ⟨oi, hi, .inl ⟨u, (YieldsIf.away hsi v h1).1 hyi, oj, hj, .inl ⟨v, (YieldsIf.away hsj u h3).2 hyj, ?_⟩⟩⟩
      rw [← Act.put_comm a v u h2]
      exact hk
    · refine ⟨oi, hi, .inr ⟨hei, by rw [← wanted_put oi a oj.dst v h1]; exact hwi, ?_⟩⟩
      refine Oper.wp_mono ?_ (wp_unput hQ hsi v h1 h2 hk)
      rintro a' w' ⟨⟨d, u, rfl⟩, hs, hk⟩
      exact ⟨hs, oj, hj, .inl ⟨v, (YieldsIf.away hsj u h3).2 ((YieldsIf.defers d).2 hyj), hk⟩⟩
  · have hei : E.contains i ≠ true := fun he => hE ⟨he, hej⟩
    have h := wp_shape hQ h
    obtain ⟨d0, u0, w0, ⟨d1, u1, e1⟩, hs0, o, ho', h0⟩ := wp_some hQ h
    obtain rfl : oi = o := Option.some.inj (hi.symm.trans ho')
    have back : ∀ v (d : List Deferred) u, YieldsIf P ops S oi v (({ a with defers := d } : Act).put oj.dst u) → YieldsIf P ops S oi v a := fun v d u hy =>
      (YieldsIf.defers d).1 ((YieldsIf.away hsi u h1).1 hy)
    rcases h0 with ⟨v0, hy0, _⟩ | ⟨he, _⟩
    · have hy0 := back v0 d0 u0 hy0
      refine ⟨oi, hi, .inl ⟨v0, hy0, oj, hj, .inr ⟨hej, by rw [wanted_put oj a oi.dst v0 h3]; exact hwj, ?_⟩⟩⟩
      refine wp_put hQ hsj v0 h3 h2' (Oper.wp_mono ?_ h)
      rintro a' w' ⟨⟨d, u, rfl⟩, hs, o, ho', hk⟩
      obtain rfl : oi = o := Option.some.inj (hi.symm.trans ho')
      rcases hk with ⟨v, hy, hk⟩ | ⟨he, _⟩
      · obtain rfl := YieldsIf.one hs hy0 (back v d u hy)
        exact ⟨hs, hk⟩
      · exact absurd he hei
    · exact absurd he hei

theorem wpIdx_front {i : Nat} {oi : Oper} (hi : ops[i]? = some oi) (hsel : ∀ (j : Nat) (o : Oper) cs b, ops[j]? = some o → o.op ≠ .select cs b) (hQ : NoDeath Q) (l2 : List Nat) :
    ∀ (l1 : List Nat), (∀ j ∈ l1, ∃ oj, ops[j]? = some oj ∧ oj.apart ops oi = true ∧ ¬ (E.contains i = true ∧ E.contains j = true)) →
      ∀ a w, S w → wpIdx P ops Q S E (l1 ++ i :: l2) a w → wpIdx P ops Q S E (i :: (l1 ++ l2)) a w
  | [], _, _, _, _, h => h
  | j :: l1, hl, a, w, hS, h => by
    obtain ⟨oj, hj, hap, hE⟩ := hl j (List.mem_cons_self ..)
    have h' : stepI P ops Q S E j (stepI P ops Q S E i (wpIdx P ops Q S E (l1 ++ l2))) a w :=
      stepI_mono (fun a' w' hs hk => wpIdx_front hi hsel hQ l2 l1 (fun k hk => hl k (List.mem_cons_of_mem _ hk)) a' w' hs hk) hS h
    exact stepI_swap hi hj hap (hsel i oi · · hi) (hsel j oj · · hj) hQ hE h'

theorem mem_onOf {i e : Nat} {o : Oper} (ho : ops[i]? = some o) : e ∈ onOf ops i ↔ ∃ x ∈ o.after, Region.binds .any x = true ∧ x.on = e := by
  simp only [onOf, ho, Option.map_some, Option.getD_some, List.mem_map, List.mem_filter, Array.mem_toList_iff]
  constructor
  · rintro ⟨x, ⟨h1, h2⟩, h3⟩; exact ⟨x, h1, h2, h3⟩
  · rintro ⟨x, h1, h2, h3⟩; exact ⟨x, ⟨h1, h2⟩, h3⟩

theorem downs_all {p : Nat → Prop} (hp : ∀ k, p k → ∀ e ∈ onOf ops k, p e) : ∀ (k : Nat) (m : List Nat), (∀ e ∈ m, p e) → ∀ e ∈ downs ops k m, p e
  | 0, _, h => h
  | k + 1, m, h => by
    unfold downs
    split
    · rename_i hc
      refine downs_all hp k _ fun e he => ?_
      rcases List.mem_append.1 he with he | he
      · exact h e he
      · exact hp k (h k (by simpa using hc)) e he
    · exact downs_all hp k m h

theorem wpAnyH_of_idx (hser : serialB ops E = true) (hQ : NoDeath Q) : ∀ (fuel : Nat) (l : List Nat) (listed : Array Bool), l.length = fuel → l.Pairwise (· < ·) → (∀ j, j ∈ l ↔ listed.getD j true = false) → listed.size = ops.size →
    (∀ k, listed.getD k false = true → ∀ e ∈ onOf ops k, listed.getD e false = true) → ∀ a w, S w → wpIdx P ops Q S E l a w → wpAnyH P .any ops Q S fuel listed a w := by
  simp only [serialB, Bool.and_eq_true, List.all_eq_true, List.mem_range, decide_eq_true_eq, Bool.or_eq_true, Bool.not_eq_true', decide_eq_false_iff_not] at hser
  obtain ⟨⟨⟨hsel, hback⟩, hap⟩, hchain⟩ := hser
  have hsel' : ∀ (j : Nat) (o : Oper) cs b, ops[j]? = some o → o.op ≠ .select cs b := fun j o cs b ho => Region.noSelect_spec hsel j o cs b ho
  have T : ∀ (listed : Array Bool), listed.size = ops.size → ∀ j, j < ops.size → (listed.getD j true = false ↔ ¬ listed.getD j false = true) := by
    intro listed hsz j hj
    have : j < listed.size := by omega
    simp [Array.getD_eq_getD_getElem?, this]
  intro fuel
  induction fuel with
  | zero =>
    intro l listed hl _ hm hsz _ a w _ h
    obtain rfl : l = [] := List.eq_nil_of_length_eq_zero hl
    refine ⟨?_, h⟩
    rw [List.eq_nil_iff_forall_not_mem]
    intro j hj
    exact absurd ((hm j).2 (mem_ready.1 hj).1) (by simp)
  | succ fuel ih =>
    intro l listed hl hsort hm hsz hcl a w hS h
    have inb : ∀ j ∈ l, j < ops.size := fun j hj => by
      have := (hm j).1 hj
      rcases Nat.lt_or_ge j ops.size with h' | h'
      · exact h'
      · rw [Array.getD_eq_getD_getElem?, Array.getElem?_eq_none (by omega)] at this
        cases this
    cases l with
    | nil => cases hl
    | cons x xs =>
      constructor
      · intro hr
        exfalso
        have hx : x ∈ Region.ready .any ops listed := by
          have hxn := inb x (List.mem_cons_self ..)
          refine mem_ready.2 ⟨(hm x).1 (List.mem_cons_self ..), ops[x], by simp [hxn], fun e he hb => ?_⟩
          have hon : e.on ∈ onOf ops x := (mem_onOf (by simp [hxn])).2 ⟨e, he, hb, rfl⟩
          have hlt := hback x hxn e.on hon
          by_cases hc : listed.getD e.on false = true
          · exact hc
          · have := (hm e.on).2 ((T listed hsz e.on (by omega)).2 hc)
            rcases List.mem_cons.1 this with h' | h'
            · omega
            · have := (List.pairwise_cons.1 hsort).1 _ h'
              omega
        rw [hr] at hx
        cases hx
      · intro i hi
        obtain ⟨hun, oi, hoi, hall⟩ := mem_ready.1 hi
        have hil := (hm i).2 hun
        have hin := inb i hil
        obtain ⟨l1, l2, hsplit⟩ := List.append_of_mem hil
        rw [hsplit] at h hsort hl
        have hon : ∀ e ∈ onOf ops i, listed.getD e false = true := fun e he => by
          obtain ⟨x, hx, hb, rfl⟩ := (mem_onOf hoi).1 he
          exact hall x hx hb
        have hlt : ∀ j ∈ l1, j < i := fun j hj => (List.pairwise_append.1 hsort).2.2 j hj i (List.mem_cons_self ..)
        have hfront := wpIdx_front hoi hsel' hQ l2 l1 (fun j hj => by
          have hjl : j ∈ x :: xs := by rw [hsplit]; exact List.mem_append_left _ hj
          have hjn := inb j hjl
          have hjun : ¬ listed.getD j false = true := (T listed hsz j hjn).1 ((hm j).1 hjl)
          refine ⟨ops[j], by simp [hjn], ?_, ?_⟩
          · have := hap i hin j (hlt j hj)
            rcases this with h' | h'
            · exact absurd (hon j (by simpa using h')) hjun
            · simpa [hjn, hin, Option.some.inj ((by simp [hin] : ops[i]? = some ops[i]).symm.trans hoi)] using h'
          · rintro ⟨hei, hej⟩
            have := hchain i (by simpa using hei) j (by simpa using hej)
            rcases this with h' | h'
            · exact h' (hlt j hj)
            · exact hjun (downs_all (p := fun e => listed.getD e false = true) (fun k hk e he => hcl k hk e he) i _ hon j (by simpa using h'))) a w hS h
        refine wpOp_mono (fun a' w' hk => ⟨hk.1, ?_⟩) (stepI_wpOp hS hfront)
        have hnd : ∀ j ∈ l1 ++ l2, j ≠ i := by
          intro j hj
          rcases List.mem_append.1 hj with h' | h'
          · exact Nat.ne_of_lt (hlt j h')
          · exact Nat.ne_of_gt ((List.pairwise_cons.1 (List.pairwise_append.1 hsort).2.1).1 j h')
        have setD : ∀ j, (listed.setIfInBounds i true).getD j true = if j = i then true else listed.getD j true := by
          intro j
          by_cases hji : j = i
          · subst hji; simp [Array.getD_eq_getD_getElem?, hsz, hin]
          · rw [if_neg hji, getD_set_ne true (Ne.symm hji)]
        refine ih (l1 ++ l2) _ (by simp at hl ⊢; omega) ?_ ?_ (by simp [hsz]) ?_ a' w' hk.1 hk.2
        · exact hsort.sublist (by simp)
        · intro j
          rw [setD]
          have := hm j
          rw [hsplit] at this
          by_cases hji : j = i
          · subst hji
            simp only [if_true, Bool.true_eq_false, iff_false]
            intro h'
            exact hnd _ h' rfl
          · simp only [hji, if_false, ← this, List.mem_append, List.mem_cons, false_or]
        · intro k hk' e he
          by_cases hki : k = i
          · subst hki; exact getD_set_true (hon e he)
          · rw [getD_set_ne false (Ne.symm hki)] at hk'
            exact getD_set_true (hcl k hk' e he)

/-- gone through in the order of the text, number i first -/
def wpSer (P : Program) (ops : Array Oper) (Q : Exit → Act → World → Prop) (S : World → Prop) (E : List Nat) : Nat → List Oper → Act → World → Prop
  | _, [], a, w => Q .normal a w
  | i, o :: rest, a, w => (∃ v, YieldsIf P ops S o v a ∧ wpSer P ops Q S E (i + 1) rest (a.put o.dst v) w) ∨
    (E.contains i = true ∧ Region.wanted o (yielded ops a.tmps) = true ∧ o.wp P a w (fun a' w' => S w' ∧ wpSer P ops Q S E (i + 1) rest a' w') Q)
theorem wpSer_idx : ∀ (l : List Oper) (i : Nat), (∀ k, l[k]? = ops[i + k]?) → ∀ a w, S w → wpSer P ops Q S E i l a w → wpIdx P ops Q S E (List.range' i l.length) a w
  | [], _, _, _, _, _, h => h
  | o :: l, i, hl, a, w, hS, h => by
    have h0 : ops[i]? = some o := by simpa using (hl 0).symm
    have hl' : ∀ k, l[k]? = ops[i + 1 + k]? := fun k => by have := hl (k + 1); simpa [Nat.add_assoc, Nat.add_comm 1 k] using this
    show stepI P ops Q S E i (wpIdx P ops Q S E (List.range' (i + 1) l.length)) a w
    refine ⟨o, h0, ?_⟩
    rcases h with ⟨v, hy, h⟩ | ⟨he, hw, h⟩
    · exact .inl ⟨v, hy, wpSer_idx l (i + 1) hl' _ _ hS h⟩
    · exact .inr ⟨he, hw, Oper.wp_mono (fun a' w' hk => ⟨hk.1, wpSer_idx l (i + 1) hl' a' w' hk.1 hk.2⟩) h⟩

theorem wp_region_ser {id : Nat} {l : List Oper} {a : Act} {w : World} (E : List Nat) (S : World → Prop) (hm : P.follows .mixedOrders = true) (hser : serialB l.toArray E = true) (hQ : NoDeath Q)
    (hS : S w.drew) (h : wpSer P l.toArray Q S E 0 l a w.drew) : (Code.region id l.toArray true).wp P Q a w := by
  refine wp_region_held (S := S) hm (wpAnyH_of_idx (E := E) hser hQ l.toArray.size (List.range' 0 l.length) _ (by simp) (by rw [← List.range_eq_range']; exact List.pairwise_lt_range) ?_ (by simp) ?_ a w.drew hS (wpSer_idx l 0 (by simp) a w.drew hS h))
  · intro j
    simp only [List.mem_range'_1, Array.getD_eq_getD_getElem?, Array.getElem?_replicate, List.size_toArray]
    split
    · simp; omega
    · simp; omega
  · intro k hk
    simp only [Array.getD_eq_getD_getElem?, Array.getElem?_replicate] at hk
    split at hk <;> simp at hk

/-- an operation that yields one value, whatever the world (that meets S) -/
theorem ser_quiet {i : Nat} {o : Oper} {rest : List Oper} {a : Act} {w : World} {v : Value} (hw : Region.wanted o (yielded ops a.tmps) = true) (hv : ∀ w', S w' → (execOp a.eval o).run P w' = .ok (.value v) w')
    (h : wpSer P ops Q S E (i + 1) rest (a.put o.dst v) w) : wpSer P ops Q S E i (o :: rest) a w := .inl ⟨v, .inl ⟨hw, hv⟩, h⟩
theorem ser_unwanted {i : Nat} {o : Oper} {rest : List Oper} {a : Act} {w : World} (hw : Region.wanted o (yielded ops a.tmps) = false)
    (h : wpSer P ops Q S E (i + 1) rest (a.put o.dst undef) w) : wpSer P ops Q S E i (o :: rest) a w := .inl ⟨undef, .inr ⟨hw, rfl⟩, h⟩
theorem ser_loud {i : Nat} {o : Oper} {rest : List Oper} {a : Act} {w : World} (he : E.contains i = true) (hw : Region.wanted o (yielded ops a.tmps) = true)
    (h : ∀ K : Act → World → Prop, (∀ a w, S w → wpSer P ops Q S E (i + 1) rest a w → K a w) → o.wp P a w K Q) : wpSer P ops Q S E i (o :: rest) a w :=
  .inr ⟨he, hw, h _ fun _ _ h1 h2 => ⟨h1, h2⟩⟩
end
end Go.Proofs.YtmochicneilhhaaGreat
