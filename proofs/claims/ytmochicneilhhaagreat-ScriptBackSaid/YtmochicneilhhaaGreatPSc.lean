/- More rules: what an operation that was passed over guards; ways that meet again. More rules: function values. A region that draws its order, where one loud operation (d) may be drawn ahead of another one (c): gone through twice. More rules: slice expressions; a row cut. -/
import Derived.Test.YtmochicneilhhaaGreatPSm
namespace Go.Proofs.YtmochicneilhhaaGreat
open Go.RowKit
section
variable {P : Program} {n : Nat} {M : Me} {Q : Post} {t : Fr} {L : List Ck} {ops : Array Oper} {s : Way} {i : Nat} {rest : List Oper}
/-- the guard itself was passed over -/
theorem lx_notu {o : Oper} {d j g : Nat} {want : Bool} (hg : o.guard = some (j, want)) (hj : (ops[j]?).bind (·.dst) = some g) (hu : lk t g = some (none, undef)) (hd : o.dst = some d) (hn : Nat.blt d n = true)
    (h : LX P n M ops s (i + 1) rest Q ((d, none, undef) :: t) L) : LX P n M ops s i (o :: rest) Q t L := fun hs a w hf hm => by
  have hw : Region.wanted o (yielded ops a.tmps) = false := by
    have hy : yielded ops a.tmps j = none := by
      unfold yielded
      simp only [hj, Option.bind_some, hf.slot g none _ hu]
      rfl
    unfold Region.wanted
    simp only [hg, hy]
    rfl
  have hx := h hs _ w (hf.put (Nat.le_of_ble_eq_true hn) none undef) hm
  cases s with
  | seq =>
    refine wpList_step fun K hK => ?_
    rw [if_neg (by rw [hw]; simp), hd]
    exact hK _ _ hx
  | any E L0 => exact ser_unwanted hw (by rw [hd]; exact hx)
/-- ways that meet again: as 'cx_seq_to', where the sequence has been entered -/
theorem cx_to {x y : Code} {α : Type} (S : α → Fr) (m : α → List Ck) (h : CX P n M x (thenQ (fun t' L' => ∃ z, Sub (S z) t' ∧ Gives L' (m z)) Q) t L) (hy : ∀ z, CX P n M y Q (S z) (m z)) : CX P n M x (thenQ (fun t' L' => CX P n M y Q t' L') Q) t L := by
  refine cx_mono (fun e t' L' hq => ?_) h
  cases e <;> first
    | exact hq
    | (obtain ⟨z, hs, hg⟩ := hq
       exact cx_weak (fun a hf => hs.frm hf) hg (hy z))
end
end Go.Proofs.YtmochicneilhhaaGreat
namespace Go.Proofs.YtmochicneilhhaaGreat
open Go.RowKit
section
variable {P : Program} {n : Nat} {M : Me} {Q : Post} {t : Fr} {L : List Ck} {ops : Array Oper} {s : Way} {i : Nat} {rest : List Oper}
/-- a function value -/
theorem yl_makeFunc {p : Option Bool} {dst : Option Tmp} {f : FuncId} {first captured : Array Operand} {ty : TypeId} {pos : String} {after : Array Edge} {guard : Option (Nat × Bool)} {vs us : List Value} (h1 : o2l t first.toList = some vs) (h2 : o2l t captured.toList = some us) (hi1 : Imps p t first.toList) (hi2 : Imps p t captured.toList) :
    Yl P n t L p ⟨dst, .makeFunc (.func f) first captured, ty, pos, after, guard⟩ (.func (.func f) vs.toArray us.toArray) := fun hp M a w hf hm => by
  have e1 : first.map a.eval = vs.toArray := by
    apply Array.ext'
    have := o2l_eval hf hp h1 hi1
    simpa using this
  have e2 : captured.map a.eval = us.toArray := by
    apply Array.ext'
    have := o2l_eval hf hp h2 hi2
    simpa using this
  unfold execOp
  refine run_v ?_
  rw [e1, e2]
  rfl
end
end Go.Proofs.YtmochicneilhhaaGreat
namespace Go.Proofs.YtmochicneilhhaaGreat
open Go.RowKit
section
variable {P : Program} {ops : Array Oper} {Q : Exit → Act → World → Prop} {S : World → Prop} {E : List Nat} {c d : Nat}
theorem unlisted_iff {listed : Array Bool} (hsz : listed.size = ops.size) {j : Nat} (hj : j < ops.size) : (listed.getD j true = false ↔ ¬ listed.getD j false = true) := by
  have : j < listed.size := by omega
  simp [Array.getD_eq_getD_getElem?, this]
theorem mem_inb {listed : Array Bool} (hsz : listed.size = ops.size) {j : Nat} (h : listed.getD j true = false) : j < ops.size := by
  rcases Nat.lt_or_ge j ops.size with h' | h'
  · exact h'
  · rw [Array.getD_eq_getD_getElem?, Array.getElem?_eq_none (by omega)] at h
    cases h
theorem setD {listed : Array Bool} (hsz : listed.size = ops.size) {i : Nat} (hin : i < ops.size) (j : Nat) : (listed.setIfInBounds i true).getD j true = if j = i then true else listed.getD j true := by
  by_cases hji : j = i
  · subst hji; simp [Array.getD_eq_getD_getElem?, hsz, hin]
  · rw [if_neg hji, getD_set_ne true (Ne.symm hji)]
/-- a list of operations in another order -/
theorem wpSer_perm {E' : List Nat} : ∀ (l : List Oper) (is : List Nat) (i : Nat), l.length = is.length → (∀ (k : Nat) (j : Nat), is[k]? = some j → l[k]? = ops[j]? ∧ (E'.contains (i + k) = true → E.contains j = true)) → ∀ a w, S w → wpSer P ops Q S E' i l a w → wpIdx P ops Q S E is a w
  | [], [], _, _, _, _, _, _, h => h
  | o :: l, j :: is, i, hl, hk, a, w, hS, h => by
    obtain ⟨h0, h1⟩ := hk 0 j rfl
    have hk' : ∀ (k : Nat) (j : Nat), is[k]? = some j → l[k]? = ops[j]? ∧ (E'.contains (i + 1 + k) = true → E.contains j = true) := fun k j hj => by
      have := hk (k + 1) j (by simpa using hj)
      simpa [Nat.add_assoc, Nat.add_comm 1 k] using this
    show stepI P ops Q S E j (wpIdx P ops Q S E is) a w
    refine ⟨o, by simpa using h0.symm, ?_⟩
    rcases h with ⟨v, hy, h⟩ | ⟨he, hw, h⟩
    · exact .inl ⟨v, hy, wpSer_perm l is (i + 1) (by simpa using hl) hk' _ _ hS h⟩
    · exact .inr ⟨h1 (by simpa using he), hw, Oper.wp_mono (fun a' w' hk => ⟨hk.1, wpSer_perm l is (i + 1) (by simpa using hl) hk' a' w' hk.1 hk.2⟩) h⟩
end
section
variable {P : Program} {n : Nat} {M : Me} {Q : Post} {t : Fr} {L : List Ck}
end
end Go.Proofs.YtmochicneilhhaaGreat
namespace Go.Proofs.YtmochicneilhhaaGreat
open Go.RowKit
/-- where a slice that was cut begins -/
def cutA (A : Option Addr) (c l size : Nat) : Option Addr := if c = l then A else A.map (·.add (l * size))
/-- elements lo up to hi of a row -/
def cutL (xs : List Value) (lo hi sz : Nat) : List Value := (xs.drop (lo * sz)).take ((hi - lo) * sz)
theorem cutL_len {xs : List Value} {m lo hi sz : Nat} (hl : xs.length = m * sz) (h1 : lo ≤ hi) (h2 : hi ≤ m) : (cutL xs lo hi sz).length = (hi - lo) * sz := by
  have h3 := Nat.mul_le_mul_right sz h1
  have h4 := Nat.mul_le_mul_right sz h2
  rw [cutL, List.length_take, List.length_drop, hl, Nat.sub_mul]
  omega
theorem Row.cut {w : World} {B sz m c lo hi : Nat} {A : Option Addr} {xs : List Value} (h : Row w B sz A m xs) (h1 : lo ≤ hi) (h2 : hi ≤ m) (hc : m ≤ c) : Row w B sz (cutA A c lo sz) (hi - lo) (cutL xs lo hi sz) := by
  refine ⟨cutL_len h.1 h1 h2, fun hn => ?_⟩
  obtain ⟨b, off, rfl, hb, hcell⟩ := h.2 (by omega)
  refine ⟨b, off + lo * sz, ?_, hb, fun j u hu => ?_⟩
  · rw [cutA, if_neg (by omega), Option.map_some, add_at]
  · rw [cutL, List.getElem?_take] at hu
    split at hu
    · rw [List.getElem?_drop] at hu
      rw [Nat.add_assoc]
      exact hcell _ u hu
    · cases hu
section
variable {P : Program} {n : Nat} {M : Me} {Q : Post} {t : Fr} {L : List Ck} {ops : Array Oper} {s : Way} {i : Nat} {rest : List Oper}
theorem yl_slice {E : Env P} {p c1 c2 c3 : Option Bool} {dst : Option Tmp} {T : TypeId} {x y z : Operand} {ty : TypeId} {pos : String} {after : Array Edge} {guard : Option (Nat × Bool)} {A : Option Addr} {m c : Nat} {κ1 κ2 : IntKind} {lo hi : Int} {e : TypeId} {j : TyI}
    (hx : ov t x = some (c1, .slice A m c)) (hy : ov t y = some (c2, .int κ1 lo)) (hz : ov t z = some (c3, .int κ2 hi)) (hT : tyOf E.f T = .slice e) (he : E.f e = some j)
    (h1 : cb p = true → cb c1 = true) (h2 : cb p = true → cb c2 = true) (h3 : cb p = true → cb c3 = true) (hb : cb p = true → 0 ≤ lo ∧ lo ≤ hi ∧ hi ≤ c) :
    Yl P n t L p ⟨dst, .slice T x (some y) (some z) none, ty, pos, after, guard⟩ (.slice (cutA A c lo.toNat j.size) (hi.toNat - lo.toNat) (c - lo.toNat)) := fun hp M a w hf hm => by
  have hu := run_underlying (P := P) (tyOf_slice hT) w
  have hs := E.size he w
  obtain ⟨hb1, hb2, hb3⟩ := hb hp
  have k1 : 0 ≤ hi ∧ hi ≤ (c : Int) := ⟨by omega, hb3⟩
  have k2 : 0 ≤ lo ∧ lo ≤ (hi.toNat : Int) := ⟨hb1, by omega⟩
  unfold execOp
  refine run_v ?_
  simp [hf.ov hx (h1 hp), hf.ov hy (h2 hp), hf.ov hz (h3 hp), Instr.sliceAt, Instr.slice, Instr.sliceBounds, Instr.sliceBound, asIntOf, hu, k1, k2, hs, cutA]
  exact fun h => absurd h (by omega)
/-- from the beginning on -/
theorem yl_sliceH {E : Env P} {p c1 c3 : Option Bool} {dst : Option Tmp} {T : TypeId} {x z : Operand} {ty : TypeId} {pos : String} {after : Array Edge} {guard : Option (Nat × Bool)} {A : Option Addr} {m c : Nat} {κ2 : IntKind} {hi : Int} {e : TypeId} {j : TyI}
    (hx : ov t x = some (c1, .slice A m c)) (hz : ov t z = some (c3, .int κ2 hi)) (hT : tyOf E.f T = .slice e) (he : E.f e = some j)
    (h1 : cb p = true → cb c1 = true) (h3 : cb p = true → cb c3 = true) (hb : cb p = true → 0 ≤ hi ∧ hi ≤ c) :
    Yl P n t L p ⟨dst, .slice T x none (some z) none, ty, pos, after, guard⟩ (.slice A hi.toNat c) := fun hp M a w hf hm => by
  have hu := run_underlying (P := P) (tyOf_slice hT) w
  have hs := E.size he w
  have k1 := hb hp
  have ha : ∀ a : Addr, a.add 0 = a := fun _ => rfl
  unfold execOp
  refine run_v ?_
  simp [hf.ov hx (h1 hp), hf.ov hz (h3 hp), Instr.sliceAt, Instr.slice, Instr.sliceBounds, Instr.sliceBound, asIntOf, hu, k1, hs, ha]
/-- up to the end -/
theorem yl_sliceL {E : Env P} {p c1 c2 : Option Bool} {dst : Option Tmp} {T : TypeId} {x y : Operand} {ty : TypeId} {pos : String} {after : Array Edge} {guard : Option (Nat × Bool)} {A : Option Addr} {m c : Nat} {κ1 : IntKind} {lo : Int} {e : TypeId} {j : TyI}
    (hx : ov t x = some (c1, .slice A m c)) (hy : ov t y = some (c2, .int κ1 lo)) (hT : tyOf E.f T = .slice e) (he : E.f e = some j)
    (h1 : cb p = true → cb c1 = true) (h2 : cb p = true → cb c2 = true) (hb : cb p = true → 0 ≤ lo ∧ lo ≤ m) :
    Yl P n t L p ⟨dst, .slice T x (some y) none none, ty, pos, after, guard⟩ (.slice (cutA A c lo.toNat j.size) (m - lo.toNat) (c - lo.toNat)) := fun hp M a w hf hm => by
  have hu := run_underlying (P := P) (tyOf_slice hT) w
  have hs := E.size he w
  have k2 := hb hp
  unfold execOp
  refine run_v ?_
  simp [hf.ov hx (h1 hp), hf.ov hy (h2 hp), Instr.sliceAt, Instr.slice, Instr.sliceBounds, Instr.sliceBound, asIntOf, hu, k2, hs, cutA]
/-- what is read of a chunk that is read, as a chunk of its own -/
theorem Gives.add (k : Nat) {d d' : Ck} (hk : L[k]? = some d) (hd : d.mut_ = false) (hd' : d'.mut_ = false) (hg : ∀ w, d.holds w → d'.holds w ∧ ∀ b, d'.on b → d.on b) : Gives L (d' :: L) := fun M w h => by
  have hw := hg w (h.get hk)
  have hmem : d ∈ L := List.mem_of_getElem? hk
  refine ⟨h.keep, fun x hx => ?_, fun x hx hm b hb => ?_, List.Pairwise.cons (fun x hx hm b hb hb' => ?_) h.sep⟩
  · rcases List.mem_cons.1 hx with rfl | hx
    · exact hw.1
    · exact h.all x hx
  · rcases List.mem_cons.1 hx with rfl | hx
    · rw [hd'] at hm; cases hm
    · exact h.out x hx hm b hb
  · have hxm : x.mut_ = true := by
      rcases hm with hm | hm
      · rw [hd'] at hm; cases hm
      · exact hm
    obtain ⟨q, hql, hqe⟩ := List.getElem_of_mem hx
    obtain ⟨q1, hql1, hqe1⟩ := List.getElem_of_mem hmem
    have hne : q ≠ q1 := by
      intro e
      subst e
      rw [hqe] at hqe1
      rw [hqe1, hd] at hxm
      cases hxm
    rcases Nat.lt_or_gt_of_ne hne with hl | hg
    · have := List.pairwise_iff_getElem.1 h.sep q q1 hql hql1 hl
      rw [hqe, hqe1] at this
      exact this.symm (.inr hxm) b (hw.2 b hb) hb'
    · have := List.pairwise_iff_getElem.1 h.sep q1 q hql1 hql hg
      rw [hqe, hqe1] at this
      exact this (.inr hxm) b (hw.2 b hb) hb'
/-- a cut of a row that is read, as a row of its own -/
theorem Gives.cut (k : Nat) {A : Option Addr} {m c sz lo hi : Nat} {xs : List Value} (hk : L[k]? = some (.ro A m sz xs)) (h1 : lo ≤ hi) (h2 : hi ≤ m) (hc : m ≤ c) : Gives L (.ro (cutA A c lo sz) (hi - lo) sz (cutL xs lo hi sz) :: L) :=
  Gives.add k hk rfl rfl fun w hr => ⟨Row.cut hr h1 h2 hc, fun b hb => by
    obtain ⟨hq, hb⟩ := hb
    obtain ⟨b0, off, rfl, _, _⟩ := hr.2 (by omega)
    rw [cutA, if_neg (by omega), Option.map_some, add_at] at hb
    exact ⟨by omega, hb⟩⟩
/-- what is known more, in the midst of a list of operations -/
theorem lx_more {L' : List Ck} (hg : Gives L L') (hb : Gives L' L) (h : LX P n M ops s i rest Q t L') : LX P n M ops s i rest Q t L := fun hs a w hf hm => h (hs.more hb) a w hf (hg M w hm)
/-- an own row, read from now on alone -/
theorem Gives.ownro {L : List Ck} (k : Nat) {A : Option Addr} {m c : Nat} {T : TypeId} {sz : Nat} {xs : List Value} (hk : L[k]? = some (.own A m c T sz xs)) : Gives L (L.set k (.ro A m sz xs)) := fun M w h => by
  have hkl : k < L.length := (List.getElem?_eq_some_iff.1 hk).1
  have hkc : L[k] = .own A m c T sz xs := (List.getElem?_eq_some_iff.1 hk).2
  refine h.turn (c' := .ro A m sz xs) hk rfl (fun b hb => .inl ?_) rfl rfl rfl (Nat.le_refl _) (fun _ _ _ => rfl) (row_own k hk h)
  exact hb.2
theorem Gives.blkro {L : List Ck} (k : Nat) {b m sz : Nat} {T : TypeId} {cs : List Value} (hk : L[k]? = some (.blk b cs T)) (hl : cs.length = m * sz) : Gives L (L.set k (.ro (some ⟨b, 0, none⟩) m sz cs)) := fun M w h => by
  refine h.turn (c' := .ro (some ⟨b, 0, none⟩) m sz cs) hk rfl (fun g hg => .inl ?_) rfl rfl rfl (Nat.le_refl _) (fun _ _ _ => rfl) (row_blk k hk hl h)
  exact Option.some.inj hg.2
/-- an element's place, where the slice's own is known -/
theorem yl_indexS {E : Env P} {p c1 c2 : Option Bool} {dst : Option Tmp} {T : TypeId} {x y : Operand} {ty : TypeId} {pos : String} {after : Array Edge} {guard : Option (Nat × Bool)} {ad : Addr} {m c : Nat} {κ : IntKind} {iv : Int} {e : TypeId} {j : TyI}
    (hx : ov t x = some (c1, .slice (some ad) m c)) (hy : ov t y = some (c2, .int κ iv)) (hT : tyOf E.f T = .slice e) (he : E.f e = some j)
    (h1 : cb p = true → cb c1 = true) (h2 : cb p = true → cb c2 = true) (hb : cb p = true → 0 ≤ iv ∧ iv < m) : Yl P n t L p ⟨dst, .indexAddr T x y, ty, pos, after, guard⟩ (atI (some ad) (mulI iv.toNat j.size)) := fun hp M a w hf hm => by
  have hu := run_underlying (P := P) (tyOf_slice hT) w
  have hs := E.size he w
  obtain ⟨hb1, hb2⟩ := hb hp
  unfold execOp
  refine run_v ?_
  rw [hf.ov hx (h1 hp), hf.ov hy (h2 hp)]
  simp [Instr.indexAt, asIntOf, hu, hb1, hb2, hs, atI, mulI_eq]
end
end Go.Proofs.YtmochicneilhhaaGreat
