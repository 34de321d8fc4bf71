/- events: many, parsed, plainly. -/
import Derived.Test.YtbhbimfljjgijaaEn
namespace Go.Proofs.Ytbhbimfljjgijaa.ev
open Go.RowKit Go.Proofs.Ytbhbimfljjgijaa.kit Go.Proofs.Ytbhbimfljjgijaa.pk
def goA (l : List B8) : Nat → Nat → List EOp → List EOp × Int
  | 0, _, acc => (acc, 0)
  | k + 1, at', acc => if at' < l.length then (if (nx l at').2.1 ≠ 0 then ([], (nx l at').2.1) else if (nx l at').1.right ≠ 0 then ([], (nx l at').1.right) else goA l k (nx l at').2.2.1 (acc ++ [(nx l at').1])) else (acc, 0)
/-- all that is parsed -/
def pall (l : List B8) : List EOp × Int := goA l (l.length + 1) 0 []
theorem rTake_ge {l : List B8} {at' : Nat} {f : Bool} {k : Nat} : at' ≤ (rTake l at' f k).2.1 := by
  unfold rTake
  split
  · exact Nat.le_refl _
  · dsimp only; omega
theorem rText_ge {l : List B8} {at' : Nat} {f : Bool} : at' ≤ (rText l at' f).2.1 := by
  unfold rText
  split
  · exact Nat.le_refl _
  · have := rTake_ge (l := l) (at' := at') (f := f) (k := 2)
    dsimp only
    omega
theorem rTake_more {l : List B8} {at' k : Nat} (h : ¬ (rTake l at' false k).2.2 = true) : (rTake l at' false k).2.1 = at' + k := by
  unfold rTake at h ⊢
  split
  · rename_i h2
    rw [if_pos h2] at h
    exact absurd rfl h
  · rfl
theorem nx_more {l : List B8} {at' : Nat} (h : (nx l at').2.1 = 0) : at' < (nx l at').2.2.1 := by
  unfold nx at h ⊢
  split at h
  · cases h
  · rename_i h1
    have e := rTake_more h1
    rw [if_neg h1]
    split at h
    · rename_i h2
      rw [if_pos h2]
      have g1 := rText_ge (l := l) (at' := (rTake l at' false 1).2.1) (f := false)
      have g2 := rTake_ge (l := l) (at' := (rText l (rTake l at' false 1).2.1 false).2.1) (f := (rText l (rTake l at' false 1).2.1 false).2.2) (k := 8)
      have g3 := rTake_ge (l := l) (at' := (rTake l (rText l (rTake l at' false 1).2.1 false).2.1 (rText l (rTake l at' false 1).2.1 false).2.2 8).2.1) (f := (rTake l (rText l (rTake l at' false 1).2.1 false).2.1 (rText l (rTake l at' false 1).2.1 false).2.2 8).2.2) (k := 8)
      simp only [nxE]
      omega
    · rename_i h2
      rw [if_neg h2]
      split at h
      · rename_i h3
        rw [if_pos h3]
        have g1 := rTake_ge (l := l) (at' := (rTake l at' false 1).2.1) (f := false) (k := 8)
        simp only [nxM]
        omega
      · cases h
/-- on the way through the bytes -/
def OnWay (l : List B8) (at' : Nat) (acc : List EOp) : Prop := ∃ k, l.length - at' < k ∧ goA l k at' acc = pall l
theorem onWay_start (l : List B8) : OnWay l 0 [] := ⟨l.length + 1, by omega, rfl⟩
theorem onWay_next {l : List B8} {at' : Nat} {acc : List EOp} (h : OnWay l at' acc) (hlt : at' < l.length) (he : (nx l at').2.1 = 0) (hr : (nx l at').1.right = 0) : OnWay l (nx l at').2.2.1 (acc ++ [(nx l at').1]) := by
  obtain ⟨k, hk, e⟩ := h
  cases k with
  | zero => omega
  | succ k =>
    rw [goA, if_pos hlt, if_neg (by simp [he]), if_neg (by simp [hr])] at e
    have := nx_more he
    exact ⟨k, by omega, e⟩
theorem onWay_err {l : List B8} {at' : Nat} {acc : List EOp} (h : OnWay l at' acc) (hlt : at' < l.length) (he : (nx l at').2.1 ≠ 0) : pall l = ([], (nx l at').2.1) := by
  obtain ⟨k, hk, e⟩ := h
  cases k with
  | zero => omega
  | succ k => rw [goA, if_pos hlt, if_pos he] at e; exact e.symm
theorem onWay_bad {l : List B8} {at' : Nat} {acc : List EOp} (h : OnWay l at' acc) (hlt : at' < l.length) (he : (nx l at').2.1 = 0) (hr : (nx l at').1.right ≠ 0) : pall l = ([], (nx l at').1.right) := by
  obtain ⟨k, hk, e⟩ := h
  cases k with
  | zero => omega
  | succ k => rw [goA, if_pos hlt, if_neg (by simp [he]), if_pos hr] at e; exact e.symm
theorem onWay_end {l : List B8} {at' : Nat} {acc : List EOp} (h : OnWay l at' acc) (hge : ¬ at' < l.length) : pall l = (acc, 0) := by
  obtain ⟨k, hk, e⟩ := h
  cases k with
  | zero => omega
  | succ k => rw [goA, if_neg hge] at e; exact e.symm
end Go.Proofs.Ytbhbimfljjgijaa.ev
