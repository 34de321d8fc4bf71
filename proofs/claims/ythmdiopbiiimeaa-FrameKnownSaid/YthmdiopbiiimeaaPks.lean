/- packed texts: the reference's reader, on. -/
import Derived.Test.YthmdiopbiiimeaaGo
import Derived.Test.YthmdiopbiiimeaaPkr
import Derived.Test.YthmdiopbiiimeaaRow
namespace Go.Proofs.Ythmdiopbiiimeaa.pk
open Go.RowKit Go.Proofs.Ythmdiopbiiimeaa.kit
theorem dn_lt : ∀ (l : List B8) (n : Nat), dn n l < (n + 1) * 256 ^ l.length
  | [], n => by show n < _; simp
  | c :: l, n => by
    have h := dn_lt l (n * 256 + c.toNat)
    have hc := c.isLt
    refine Nat.lt_of_lt_of_le h ?_
    rw [List.length_cons, Nat.pow_succ, Nat.mul_comm (256 ^ l.length) 256, ← Nat.mul_assoc]
    exact Nat.mul_le_mul_right _ (by omega)
theorem de_lt (l : List B8) : (de 0#64 l).toNat < 256 ^ l.length := by
  rw [de_dn l 0#64 0 rfl]
  have := dn_lt l 0
  rw [Nat.zero_add, Nat.one_mul] at this
  exact Nat.lt_of_le_of_lt (Nat.mod_le _ _) this
theorem rTake_lt (l : List B8) (at' : Nat) (f : Bool) (k : Nat) : (rTake l at' f k).1.toNat < 256 ^ k := by
  unfold rTake
  split
  · exact Nat.pow_pos (by decide)
  · rename_i h
    have := de_lt ((l.drop at').take k)
    rw [List.length_take, List.length_drop, Nat.min_eq_left (by rw [not_or] at h; omega)] at this
    exact this
theorem rTake_at (l : List B8) (at' : Nat) (f : Bool) (k : Nat) : (rTake l at' f k).2.1 ≤ at' + k ∧ at' ≤ (rTake l at' f k).2.1 ∧ ((rTake l at' f k).2.2 = false → at' + k ≤ l.length ∧ (rTake l at' f k).2.1 = at' + k) := by
  unfold rTake
  split
  · simp
  · rename_i h
    rw [not_or] at h
    simp
    omega
attribute [local irreducible] LX CX Yl Gives RetIs Fn
attribute [local irreducible] be de













































def rDoneN (n at' : Nat) (f : Bool) : Int := if f = true then 20 else if at' < n then 21 else 0


















end Go.Proofs.Ythmdiopbiiimeaa.pk
