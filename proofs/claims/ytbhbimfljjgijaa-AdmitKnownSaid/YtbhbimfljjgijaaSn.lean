/- More rules: what an operation that was passed over guards; ways that meet again. -/
import Derived.Test.YtbhbimfljjgijaaSm
namespace Go.Proofs.Ytbhbimfljjgijaa
open Go.RowKit
section
variable {P : Program} {n : Nat} {M : Me} {Q : Post} {t : Fr} {L : List Ck} {ops : Array Oper} {s : Way} {i : Nat} {rest : List Oper}
/-- the guard itself was passed over -/
theorem lx_notu {o : Oper} {d j g : Nat} {want : Bool} (hg : o.guard = some (j, want)) (hj : (ops[j]?).bind (·.dst) = some g) (hu : lk t g = some (none, undef)) (hd : o.dst = some d) (hn : Nat.blt d n = true)
    (h : LX P n M ops s (i + 1) rest Q ((d, none, undef) :: t) L) : LX P n M ops s i (o :: rest) Q t L := fun hs a w hf hm => by
  have hw : Region.wanted o (yielded ops a.tmps) = false := by
    have hy : yielded ops a.tmps j = none := by
      unfold yielded
      simp only [hj, Option.bind_some, hf.slot g none _ hu]
      rfl
    unfold Region.wanted
    simp only [hg, hy]
    rfl
  have hx := h hs _ w (hf.put (Nat.le_of_ble_eq_true hn) none undef) hm
  cases s with
  | seq =>
    refine wpList_step fun K hK => ?_
    rw [if_neg (by rw [hw]; simp), hd]
    exact hK _ _ hx
  | any E L0 => exact ser_unwanted hw (by rw [hd]; exact hx)
/-- ways that meet again: as 'cx_seq_to', where the sequence has been entered -/
theorem cx_to {x y : Code} {α : Type} (S : α → Fr) (m : α → List Ck) (h : CX P n M x (thenQ (fun t' L' => ∃ z, Sub (S z) t' ∧ Gives L' (m z)) Q) t L) (hy : ∀ z, CX P n M y Q (S z) (m z)) : CX P n M x (thenQ (fun t' L' => CX P n M y Q t' L') Q) t L := by
  refine cx_mono (fun e t' L' hq => ?_) h
  cases e <;> first
    | exact hq
    | (obtain ⟨z, hs, hg⟩ := hq
       exact cx_weak (fun a hf => hs.frm hf) hg (hy z))
theorem slot_bool {c : Option Bool} {a b : Bool} (h : a = b) : some (c, Value.bool a) = some (c, Value.bool b) := by rw [h]
end
end Go.Proofs.Ytbhbimfljjgijaa
