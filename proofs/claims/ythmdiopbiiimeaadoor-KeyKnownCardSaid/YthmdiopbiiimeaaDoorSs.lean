/- More rules: parts of a text; scopes and labels that nothing jumps to. -/
import Derived.Test.YthmdiopbiiimeaaDoorBt
import Derived.Scope
namespace Go.Proofs.YthmdiopbiiimeaaDoor
open Go.RowKit
section
variable {P : Program} {n : Nat} {t : Fr} {L : List Ck}
theorem cx_scope {M : Me} {Q : Post} {c : Code} (h : CX P n M c Q t L) : CX P n M (.scope c) Q t L := fun a w hf hm => by
  refine wp_scope_straight (wp_mono (h a w hf hm) fun e a' w' hq => ?_)
  cases e <;> first
    | exact hq
    | exact hq.elim
theorem cx_label {M : Me} {Q : Post} {l : Nat} (h : Q .normal t L) : CX P n M (.label l) Q t L := fun _ _ hf hm => wp_label ⟨t, L, hf, hm, h⟩
/-- a text's beginning -/
theorem yl_strH {E : Env P} {p c1 c3 : Option Bool} {dst : Option Tmp} {T : TypeId} {x z : Operand} {ty : TypeId} {pos : String} {after : Array Edge} {guard : Option (Nat × Bool)} {l : List B8} {κ : IntKind} {hi : Int}
    (hx : ov t x = some (c1, .string (sb l))) (hz : ov t z = some (c3, .int κ hi)) (hT : tyOf E.f T = .string) (h1 : cb p = true → cb c1 = true) (h3 : cb p = true → cb c3 = true) (hb : cb p = true → 0 ≤ hi ∧ hi ≤ l.length) :
    Yl P n t L p ⟨dst, .slice T x none (some z) none, ty, pos, after, guard⟩ (.string (sb (l.take hi.toNat))) := fun hp M a w hf hm => by
  have hu := run_underlying (P := P) (tyOf_string hT) w
  have k1 := hb hp
  rw [← sb_size] at k1
  unfold execOp
  refine run_v ?_
  simp [hf.ov hx (h1 hp), hf.ov hz (h3 hp), Instr.sliceAt, Instr.slice, Instr.sliceBounds, Instr.sliceBound, asIntOf, hu, k1, sb_extract]
/-- a text's end -/
theorem yl_strL {E : Env P} {p c1 c2 : Option Bool} {dst : Option Tmp} {T : TypeId} {x y : Operand} {ty : TypeId} {pos : String} {after : Array Edge} {guard : Option (Nat × Bool)} {l : List B8} {κ : IntKind} {lo : Int}
    (hx : ov t x = some (c1, .string (sb l))) (hy : ov t y = some (c2, .int κ lo)) (hT : tyOf E.f T = .string) (h1 : cb p = true → cb c1 = true) (h2 : cb p = true → cb c2 = true) (hb : cb p = true → 0 ≤ lo ∧ lo ≤ l.length) :
    Yl P n t L p ⟨dst, .slice T x (some y) none none, ty, pos, after, guard⟩ (.string (sb (l.drop lo.toNat))) := fun hp M a w hf hm => by
  have hu := run_underlying (P := P) (tyOf_string hT) w
  have k1 := hb hp
  rw [← sb_size] at k1
  unfold execOp
  refine run_v ?_
  simp [hf.ov hx (h1 hp), hf.ov hy (h2 hp), Instr.sliceAt, Instr.slice, Instr.sliceBounds, Instr.sliceBound, asIntOf, hu, k1, sb_extract, sb_size]
  intro h
  rw [sb_size] at k1
  omega
end
end Go.Proofs.YthmdiopbiiimeaaDoor
