/- More rules: slice expressions; a row cut. More rules: calls told by the places of the chunks that they are handed. -/
import Derived.Test.YtmochicneilhhaaGreatPEt
import Derived.Deep.OwnRows
namespace Go.Proofs.YtmochicneilhhaaGreat
open Go.RowKit
/-- where a slice that was cut begins -/
def cutA (A : Option Addr) (c l size : Nat) : Option Addr := if c = l then A else A.map (·.add (l * size))
/-- elements lo up to hi of a row -/
def cutL (xs : List Value) (lo hi sz : Nat) : List Value := (xs.drop (lo * sz)).take ((hi - lo) * sz)
theorem cutL_len {xs : List Value} {m lo hi sz : Nat} (hl : xs.length = m * sz) (h1 : lo ≤ hi) (h2 : hi ≤ m) : (cutL xs lo hi sz).length = (hi - lo) * sz := by
  have h3 := Nat.mul_le_mul_right sz h1
  have h4 := Nat.mul_le_mul_right sz h2
  rw [cutL, List.length_take, List.length_drop, hl, Nat.sub_mul]
  omega
theorem Row.cut {w : World} {B sz m c lo hi : Nat} {A : Option Addr} {xs : List Value} (h : Row w B sz A m xs) (h1 : lo ≤ hi) (h2 : hi ≤ m) (hc : m ≤ c) : Row w B sz (cutA A c lo sz) (hi - lo) (cutL xs lo hi sz) := by
  refine ⟨cutL_len h.1 h1 h2, fun hn => ?_⟩
  obtain ⟨b, off, rfl, hb, hcell⟩ := h.2 (by omega)
  refine ⟨b, off + lo * sz, ?_, hb, fun j u hu => ?_⟩
  · rw [cutA, if_neg (by omega), Option.map_some, add_at]
  · rw [cutL, List.getElem?_take] at hu
    split at hu
    · rw [List.getElem?_drop] at hu
      rw [Nat.add_assoc]
      exact hcell _ u hu
    · cases hu
theorem cutL_ints (k : IntKind) (zs : List Int) (lo hi : Nat) : cutL (ints k zs) lo hi 1 = ints k ((zs.drop lo).take (hi - lo)) := by
  simp [cutL, ints, List.map_take, List.map_drop]
section
variable {P : Program} {n : Nat} {M : Me} {Q : Post} {t : Fr} {L : List Ck} {ops : Array Oper} {s : Way} {i : Nat} {rest : List Oper}
theorem yl_slice {E : Env P} {p c1 c2 c3 : Option Bool} {dst : Option Tmp} {T : TypeId} {x y z : Operand} {ty : TypeId} {pos : String} {after : Array Edge} {guard : Option (Nat × Bool)} {A : Option Addr} {m c : Nat} {κ1 κ2 : IntKind} {lo hi : Int} {e : TypeId} {j : TyI}
    (hx : ov t x = some (c1, .slice A m c)) (hy : ov t y = some (c2, .int κ1 lo)) (hz : ov t z = some (c3, .int κ2 hi)) (hT : tyOf E.f T = .slice e) (he : E.f e = some j)
    (h1 : cb p = true → cb c1 = true) (h2 : cb p = true → cb c2 = true) (h3 : cb p = true → cb c3 = true) (hb : cb p = true → 0 ≤ lo ∧ lo ≤ hi ∧ hi ≤ c) :
    Yl P n t L p ⟨dst, .slice T x (some y) (some z) none, ty, pos, after, guard⟩ (.slice (cutA A c lo.toNat j.size) (hi.toNat - lo.toNat) (c - lo.toNat)) := fun hp M a w hf hm => by
  have hu := run_underlying (P := P) (tyOf_slice hT) w
  have hs := E.size he w
  obtain ⟨hb1, hb2, hb3⟩ := hb hp
  have k1 : 0 ≤ hi ∧ hi ≤ (c : Int) := ⟨by omega, hb3⟩
  have k2 : 0 ≤ lo ∧ lo ≤ (hi.toNat : Int) := ⟨hb1, by omega⟩
  unfold execOp
  refine run_v ?_
  simp [hf.ov hx (h1 hp), hf.ov hy (h2 hp), hf.ov hz (h3 hp), Instr.sliceAt, Instr.slice, Instr.sliceBounds, Instr.sliceBound, asIntOf, hu, k1, k2, hs, cutA]
  exact fun h => absurd h (by omega)
/-- from the beginning on -/
theorem yl_sliceH {E : Env P} {p c1 c3 : Option Bool} {dst : Option Tmp} {T : TypeId} {x z : Operand} {ty : TypeId} {pos : String} {after : Array Edge} {guard : Option (Nat × Bool)} {A : Option Addr} {m c : Nat} {κ2 : IntKind} {hi : Int} {e : TypeId} {j : TyI}
    (hx : ov t x = some (c1, .slice A m c)) (hz : ov t z = some (c3, .int κ2 hi)) (hT : tyOf E.f T = .slice e) (he : E.f e = some j)
    (h1 : cb p = true → cb c1 = true) (h3 : cb p = true → cb c3 = true) (hb : cb p = true → 0 ≤ hi ∧ hi ≤ c) :
    Yl P n t L p ⟨dst, .slice T x none (some z) none, ty, pos, after, guard⟩ (.slice A hi.toNat c) := fun hp M a w hf hm => by
  have hu := run_underlying (P := P) (tyOf_slice hT) w
  have hs := E.size he w
  have k1 := hb hp
  have ha : ∀ a : Addr, a.add 0 = a := fun _ => rfl
  unfold execOp
  refine run_v ?_
  simp [hf.ov hx (h1 hp), hf.ov hz (h3 hp), Instr.sliceAt, Instr.slice, Instr.sliceBounds, Instr.sliceBound, asIntOf, hu, k1, hs, ha]
/-- up to the end -/
theorem yl_sliceL {E : Env P} {p c1 c2 : Option Bool} {dst : Option Tmp} {T : TypeId} {x y : Operand} {ty : TypeId} {pos : String} {after : Array Edge} {guard : Option (Nat × Bool)} {A : Option Addr} {m c : Nat} {κ1 : IntKind} {lo : Int} {e : TypeId} {j : TyI}
    (hx : ov t x = some (c1, .slice A m c)) (hy : ov t y = some (c2, .int κ1 lo)) (hT : tyOf E.f T = .slice e) (he : E.f e = some j)
    (h1 : cb p = true → cb c1 = true) (h2 : cb p = true → cb c2 = true) (hb : cb p = true → 0 ≤ lo ∧ lo ≤ m) :
    Yl P n t L p ⟨dst, .slice T x (some y) none none, ty, pos, after, guard⟩ (.slice (cutA A c lo.toNat j.size) (m - lo.toNat) (c - lo.toNat)) := fun hp M a w hf hm => by
  have hu := run_underlying (P := P) (tyOf_slice hT) w
  have hs := E.size he w
  have k2 := hb hp
  unfold execOp
  refine run_v ?_
  simp [hf.ov hx (h1 hp), hf.ov hy (h2 hp), Instr.sliceAt, Instr.slice, Instr.sliceBounds, Instr.sliceBound, asIntOf, hu, k2, hs, cutA]
/-- what is read of a chunk that is read, as a chunk of its own -/
theorem Gives.add (k : Nat) {d d' : Ck} (hk : L[k]? = some d) (hd : d.mut_ = false) (hd' : d'.mut_ = false) (hg : ∀ w, d.holds w → d'.holds w ∧ ∀ b, d'.on b → d.on b) : Gives L (d' :: L) := fun M w h => by
  have hw := hg w (h.get hk)
  have hmem : d ∈ L := List.mem_of_getElem? hk
  refine ⟨h.keep, fun x hx => ?_, fun x hx hm b hb => ?_, List.Pairwise.cons (fun x hx hm b hb hb' => ?_) h.sep⟩
  · rcases List.mem_cons.1 hx with rfl | hx
    · exact hw.1
    · exact h.all x hx
  · rcases List.mem_cons.1 hx with rfl | hx
    · rw [hd'] at hm; cases hm
    · exact h.out x hx hm b hb
  · have hxm : x.mut_ = true := by
      rcases hm with hm | hm
      · rw [hd'] at hm; cases hm
      · exact hm
    obtain ⟨q, hql, hqe⟩ := List.getElem_of_mem hx
    obtain ⟨q1, hql1, hqe1⟩ := List.getElem_of_mem hmem
    have hne : q ≠ q1 := by
      intro e
      subst e
      rw [hqe] at hqe1
      rw [hqe1, hd] at hxm
      cases hxm
    rcases Nat.lt_or_gt_of_ne hne with hl | hg
    · have := List.pairwise_iff_getElem.1 h.sep q q1 hql hql1 hl
      rw [hqe, hqe1] at this
      exact this.symm (.inr hxm) b (hw.2 b hb) hb'
    · have := List.pairwise_iff_getElem.1 h.sep q1 q hql1 hql hg
      rw [hqe, hqe1] at this
      exact this (.inr hxm) b (hw.2 b hb) hb'
/-- a cut of a row that is read, as a row of its own -/
theorem Gives.cut (k : Nat) {A : Option Addr} {m c sz lo hi : Nat} {xs : List Value} (hk : L[k]? = some (.ro A m sz xs)) (h1 : lo ≤ hi) (h2 : hi ≤ m) (hc : m ≤ c) : Gives L (.ro (cutA A c lo sz) (hi - lo) sz (cutL xs lo hi sz) :: L) :=
  Gives.add k hk rfl rfl fun w hr => ⟨Row.cut hr h1 h2 hc, fun b hb => by
    obtain ⟨hq, hb⟩ := hb
    obtain ⟨b0, off, rfl, _, _⟩ := hr.2 (by omega)
    rw [cutA, if_neg (by omega), Option.map_some, add_at] at hb
    exact ⟨by omega, hb⟩⟩
/-- what is known more, in the midst of a list of operations -/
theorem lx_more {L' : List Ck} (hg : Gives L L') (hb : Gives L' L) (h : LX P n M ops s i rest Q t L') : LX P n M ops s i rest Q t L := fun hs a w hf hm => h (hs.more hb) a w hf (hg M w hm)
/-- an own row, read from now on alone -/
theorem Gives.ownro {L : List Ck} (k : Nat) {A : Option Addr} {m c : Nat} {T : TypeId} {sz : Nat} {xs : List Value} (hk : L[k]? = some (.own A m c T sz xs)) : Gives L (L.set k (.ro A m sz xs)) := fun M w h => by
  have hkl : k < L.length := (List.getElem?_eq_some_iff.1 hk).1
  have hkc : L[k] = .own A m c T sz xs := (List.getElem?_eq_some_iff.1 hk).2
  refine h.turn (c' := .ro A m sz xs) hk rfl (fun b hb => .inl ?_) rfl rfl rfl (Nat.le_refl _) (fun _ _ _ => rfl) (row_own k hk h)
  exact hb.2
theorem Gives.blkro {L : List Ck} (k : Nat) {b m sz : Nat} {T : TypeId} {cs : List Value} (hk : L[k]? = some (.blk b cs T)) (hl : cs.length = m * sz) : Gives L (L.set k (.ro (some ⟨b, 0, none⟩) m sz cs)) := fun M w h => by
  refine h.turn (c' := .ro (some ⟨b, 0, none⟩) m sz cs) hk rfl (fun g hg => .inl ?_) rfl rfl rfl (Nat.le_refl _) (fun _ _ _ => rfl) (row_blk k hk hl h)
  exact Option.some.inj hg.2
/-- one that only looks, but at what others change: in its turn -/
theorem lx_val {o : Oper} {d : Nat} {p : Option Bool} {v : Value} (hl : s.loud i = true) (hg : gOf ops t o = some p) (hp : cb p = true) (hd : o.dst = some d) (hn : Nat.blt d n = true) (hy : Yl P n t L p o v)
    (h : LX P n M ops s (i + 1) rest Q ((d, none, v) :: t) L) : LX P n M ops s i (o :: rest) Q t L :=
  lx_loud hl hg hp fun a w hf hm hs K hK => by
    unfold Oper.wp
    rw [hy hp M a w hf hm]
    show K (a.put o.dst v) w
    rw [hd]
    exact hK _ _ _ _ (hf.put1 (Nat.le_of_ble_eq_true hn) v) hm hs h
/-- an element's place, where the slice's own is known -/
theorem yl_indexS {E : Env P} {p c1 c2 : Option Bool} {dst : Option Tmp} {T : TypeId} {x y : Operand} {ty : TypeId} {pos : String} {after : Array Edge} {guard : Option (Nat × Bool)} {ad : Addr} {m c : Nat} {κ : IntKind} {iv : Int} {e : TypeId} {j : TyI}
    (hx : ov t x = some (c1, .slice (some ad) m c)) (hy : ov t y = some (c2, .int κ iv)) (hT : tyOf E.f T = .slice e) (he : E.f e = some j)
    (h1 : cb p = true → cb c1 = true) (h2 : cb p = true → cb c2 = true) (hb : cb p = true → 0 ≤ iv ∧ iv < m) : Yl P n t L p ⟨dst, .indexAddr T x y, ty, pos, after, guard⟩ (atI (some ad) (mulI iv.toNat j.size)) := fun hp M a w hf hm => by
  have hu := run_underlying (P := P) (tyOf_slice hT) w
  have hs := E.size he w
  obtain ⟨hb1, hb2⟩ := hb hp
  unfold execOp
  refine run_v ?_
  rw [hf.ov hx (h1 hp), hf.ov hy (h2 hp)]
  simp [Instr.indexAt, asIntOf, hu, hb1, hb2, hs, atI, mulI_eq]
theorem own_addr {w : World} {k m c : Nat} {A : Option Addr} {T : TypeId} {sz : Nat} {xs : List Value} (hk : L[k]? = some (.own A m c T sz xs)) (h0 : 0 < m) (hm : Mem M L w) : ∃ g, A = some ⟨g, 0, none⟩ := by
  have h : w.ownsRow 0 T sz (.slice A m c) m xs := hm.get hk
  rcases h.2 with ⟨hv, hm0⟩ | ⟨g, cap, cur, hv, _⟩
  · omega
  · cases hv; exact ⟨g, rfl⟩
theorem row_addr {w : World} {k m sz : Nat} {A : Option Addr} {xs : List Value} (hk : L[k]? = some (.ro A m sz xs)) (h0 : 0 < m) (hm : Mem M L w) : ∃ g o, A = some ⟨g, o, none⟩ := by
  have h : Row w w.heap.size sz A m xs := hm.get hk
  obtain ⟨b, off, rfl, _⟩ := h.2 h0
  exact ⟨b, off, rfl⟩
end
end Go.Proofs.YtmochicneilhhaaGreat
namespace Go.Proofs.YtmochicneilhhaaGreat
open Go.RowKit
section
variable {P : Program} {n : Nat} {M : Me} {Q : Post} {t : Fr} {L : List Ck} {ops : Array Oper} {s : Way} {i : Nat} {rest : List Oper}
/-- what may change lies in the blocks of D -/
def AllD (D : List Nat) : List Ck → Prop
  | [] => True
  | .blk b _ _ :: r => b ∈ D ∧ AllD D r
  | .own A _ _ _ _ _ :: r => (∀ b, A.map (·.block) = some b → b ∈ D) ∧ AllD D r
  | .obj b _ :: r => b ∈ D ∧ AllD D r
  | _ :: r => AllD D r
theorem AllD.spec {D : List Nat} : ∀ {L : List Ck}, AllD D L → ∀ c ∈ L, c.mut_ = true → ∀ b, c.on b → b ∈ D
  | c' :: r, h, c, hc, hm, b, hb => by
    rcases List.mem_cons.1 hc with rfl | hc
    · cases c with
      | blk g cs T => cases hb; exact h.1
      | own A n c T sz xs => exact h.1 b hb
      | ro => cases hm
      | deep => cases hm
      | obj g o => cases hb; exact h.1
    · refine AllD.spec (L := r) ?_ c hc hm b hb
      cases c' with
      | blk g cs T => exact h.2
      | own A n c T sz xs => exact h.2
      | ro => exact h
      | deep => exact h
      | obj g o => exact h.2
/-- chunks that are only read, as a call is handed them -/
theorem Mem.ros {w : World} (h : Mem M L w) (ks : List Nat) (hn : ks.Nodup) {L' : List Ck} (he : pickL L ks = L') (hm : L'.all (fun c => !c.mut_) = true) : Mem ⟨w, []⟩ L' w := h.enter ks hn he fun c hc hcm => by
  have := List.all_eq_true.1 hm c hc
  rw [hcm] at this
  cases this
/-- what is known less, or otherwise -/
theorem lx_weak {L' : List Ck} (hg : Gives L L') (h : LX P n M ops .seq i rest Q t L') : LX P n M ops .seq i rest Q t L := fun _ a w hf hm => h trivial a w hf (hg M w hm)
theorem cx_weakL {c : Code} {L' : List Ck} (hg : Gives L L') (h : CX P n M c Q t L') : CX P n M c Q t L := fun a w hf hm => h a w hf (hg M w hm)
/-- a call that is handed the chunks of ki, of which it may change those of k1; those of k2 stay -/
theorem lx_callk {dst : Option Tmp} {fx : Operand} {xs : Array Operand} {ts : Array TypeId} {ty : TypeId} {pos : String} {after : Array Edge} {guard : Option (Nat × Bool)} {d : Nat} {f : FuncId} {first captured : Array Value} {vs args : List Value} {Lin : List Ck} {D : List Nat} {post : Value → List Ck → Prop}
    (h : Fn P f args Lin D post) (ki k1 k2 : List Nat) {L1 L2 : List Ck} (hi : pickL L ki = Lin) (e1 : pickL L k1 = L1) (e2 : pickL L k2 = L2) (hni : ki.Nodup) (hnn : (k1 ++ k2).Nodup) (hin : AllD D Lin) (hD : ∀ b ∈ D, ∃ c ∈ L1, c.mut_ = true ∧ c.on b) (hgs : ∀ Lo, s.gives L → s.gives (Lo ++ L2))
    (hl : s.loud i = true) {p : Option Bool} (hg : gOf ops t ⟨dst, .call ⟨.value fx, xs, ts⟩, ty, pos, after, guard⟩ = some p) (hp : cb p = true) (hd : dst = some d) (hn : Nat.blt d n = true) (hx : o1 t fx = some (.func (.func f) first captured)) (hxs : o1s t xs.toList = some vs) (hargs : first.toList ++ vs ++ captured.toList = args)
    (hk : ∀ v Lo, post v Lo → LX P n M ops s (i + 1) rest Q ((d, none, v) :: t) (Lo ++ L2)) : LX P n M ops s i (⟨dst, .call ⟨.value fx, xs, ts⟩, ty, pos, after, guard⟩ :: rest) Q t L :=
  lx_call h L1 L2 (Gives.pick (k1 ++ k2) hnn (by rw [← e1, ← e2]; exact List.filterMap_append ..)) (fun _ hm => hm.enter ki hni hi hin.spec) hD hgs hl hg hp hd hn hx hxs hargs hk
theorem made_list (z : Value) (m : Nat) : madeCells #[z] m = (List.replicate m z).toArray := by
  apply Array.ext
  · simp [madeCells]
  · intro i h1 h2
    simp [madeCells, Nat.mod_one]
/-- 'make', of so many elements of one cell each -/
theorem lx_make {E : Env P} {T : TypeId} {x y : Operand} {dst : Option Tmp} {ty : TypeId} {pos : String} {after : Array Edge} {guard : Option (Nat × Bool)} {d : Nat} {e : TypeId} {j : TyI} {z : Value} {kl kc : IntKind} {m1 m2 : Int} (m : Nat) (hl : s.loud i = true) {p : Option Bool} (hg : gOf ops t ⟨dst, .makeSlice T x y, ty, pos, after, guard⟩ = some p) (hp : cb p = true) (hd : dst = some d) (hn : Nat.blt d n = true)
    (hx : o1 t x = some (.int kl m1)) (hy : o1 t y = some (.int kc m2)) (h1 : m1 = m) (h2 : m2 = m) (hT : tyOf E.f T = .slice e) (he : E.f e = some j) (hz : j.zero = some z) (hs : j.size = 1) (hz1 : cellsL z = [z]) (hb : j.bytes * m ≤ 281474976710656) (h63 : m ≤ 9223372036854775807)
    (h : ∀ b, LX P n M ops s (i + 1) rest Q ((d, none, .slice (some ⟨b, 0, none⟩) m m) :: t) (.blk b (List.replicate m z) e :: L)) : LX P n M ops s i (⟨dst, .makeSlice T x y, ty, pos, after, guard⟩ :: rest) Q t L :=
  lx_new hl hg hp hd hn (fun b => .slice (some ⟨b, 0, none⟩) m m) (fun a w hf => by
    obtain ⟨g, hgi, g1, g2, g3⟩ := E.info he
    have hr := run_make_row (P := P) T e g z (tyOf_slice hT) hgi (g3.trans hz) (g1.trans hs) (by rw [cellsL_ok, hz1]) kl kc m (by rw [g2]; exact hb) h63 w
    have e1 := hf.o1 hx
    have e2 := hf.o1 hy
    rw [h1] at e1
    rw [h2] at e2
    rw [made_list] at hr
    unfold execOp
    refine run_v2 ?_
    rw [e1, e2]
    exact hr) h
end
end Go.Proofs.YtmochicneilhhaaGreat
