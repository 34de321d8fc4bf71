/- events: what stands at a place of bytes, plainly; Parse. -/
import Derived.Test.YtbhbimfljjgijaaEg
namespace Go.Proofs.Ytbhbimfljjgijaa.ev
open Go.RowKit Go.Proofs.Ytbhbimfljjgijaa.kit Go.Proofs.Ytbhbimfljjgijaa.pk
attribute [local irreducible] de be
def nxE (l : List B8) (at' : Nat) (f : Bool) : EOp × Nat × Bool :=
  (⟨1#8, (rText l at' f).1, (rTake l (rText l at' f).2.1 (rText l at' f).2.2 8).1.toInt, (rTake l (rTake l (rText l at' f).2.1 (rText l at' f).2.2 8).2.1 (rTake l (rText l at' f).2.1 (rText l at' f).2.2 8).2.2 8).1.toInt⟩,
    (rTake l (rTake l (rText l at' f).2.1 (rText l at' f).2.2 8).2.1 (rTake l (rText l at' f).2.1 (rText l at' f).2.2 8).2.2 8).2)
def nxM (l : List B8) (at' : Nat) (f : Bool) : EOp × Nat × Bool := (⟨2#8, [], (rTake l at' f 8).1.toInt, 0⟩, (rTake l at' f 8).2)
theorem tE_rel {l : List B8} {r : Rs} {at' : Nat} {f : Bool} (h : Rel l r at' f) : tE r = (nxE l at' f).1 ∧ Rel l ((r.textTo.adv 8).adv 8) (nxE l at' f).2.1 (nxE l at' f).2.2 := by
  obtain ⟨h1, e1⟩ := h.text
  obtain ⟨h2, e2⟩ := h1.num 8
  obtain ⟨h3, e3⟩ := h2.num 8
  exact ⟨by rw [tE, e1, e2, e3]; rfl, h3⟩
theorem tM_rel {l : List B8} {r : Rs} {at' : Nat} {f : Bool} (h : Rel l r at' f) : tM r = (nxM l at' f).1 ∧ Rel l (r.adv 8) (nxM l at' f).2.1 (nxM l at' f).2.2 := by
  obtain ⟨h2, e2⟩ := h.num 8
  exact ⟨by rw [tM, e2]; rfl, h2⟩
def eN (f : Bool) : Int := if f = true then 20 else 0
/-- the operation at a place: it, the error, where it ends, and whether bytes lacked -/
def nx (l : List B8) (at' : Nat) : EOp × Int × Nat × Bool :=
  if (rTake l at' false 1).2.2 = true then (zOp, 20, (rTake l at' false 1).2)
  else if (rTake l at' false 1).1.setWidth 8 = 1#8 then ((nxE l (rTake l at' false 1).2.1 false).1, eN (nxE l (rTake l at' false 1).2.1 false).2.2, (nxE l (rTake l at' false 1).2.1 false).2)
  else if (rTake l at' false 1).1.setWidth 8 = 2#8 then ((nxM l (rTake l at' false 1).2.1 false).1, eN (nxM l (rTake l at' false 1).2.1 false).2.2, (nxM l (rTake l at' false 1).2.1 false).2)
  else (zOp, 80, (rTake l at' false 1).2)
theorem take_rel {l : List B8} {r : Rs} {at' : Nat} (h : Rel l r at' false) : (takeR r).1 = (nx l at').1 ∧ (takeR r).2.1 = (nx l at').2.1 ∧ Rel l (takeR r).2.2 (nx l at').2.2.1 (nx l at').2.2.2 := by
  obtain ⟨h1, e1⟩ := h.num 1
  have hk : tK r = (rTake l at' false 1).1.setWidth 8 := by rw [tK, e1]
  unfold nx
  rw [← hk]
  by_cases hf : (rTake l at' false 1).2.2 = true
  · have he : (r.adv 1).e = 20 := by rw [h1.err, if_pos hf]
    rw [if_pos hf, takeR_err (by rw [he]; decide), he]
    exact ⟨rfl, rfl, h1⟩
  · have hf' : (rTake l at' false 1).2.2 = false := by simpa using hf
    have he : (r.adv 1).e = 0 := by rw [h1.err, if_neg hf]
    rw [hf'] at h1
    rw [if_neg hf]
    by_cases k1 : tK r = 1#8
    · rw [if_pos k1, takeR_1 he k1]
      obtain ⟨a1, a2⟩ := tE_rel h1
      exact ⟨a1, a2.err, a2⟩
    · rw [if_neg k1]
      by_cases k2 : tK r = 2#8
      · rw [if_pos k2, takeR_2 he k2]
        obtain ⟨a1, a2⟩ := tM_rel h1
        exact ⟨a1, a2.err, a2⟩
      · rw [if_neg k2, takeR_0 he k1 k2]
        refine ⟨rfl, rfl, ?_⟩
        rw [hf']
        exact h1
theorem takeR_key (r : Rs) : (takeR r).1.key.length ≤ 65535 := by
  have ht : ∀ r : Rs, r.text.length ≤ 65535 := fun r => by
    have h1 := Rs.got_le (r.adv 2) r.textN
    have h2 : r.textN < 2 ^ 16 := BitVec.isLt _
    have e : r.text = (r.adv 2).got r.textN := rfl
    rw [e]
    omega
  unfold takeR
  split
  · exact Nat.zero_le _
  · split
    · exact ht _
    · split
      · exact Nat.zero_le _
      · exact Nat.zero_le _
theorem nx_key (l : List B8) (at' : Nat) (h : at' ≤ l.length) (hl : l.length ≤ 9223372036854775807) : (nx l at').1.key.length ≤ 65535 := by
  have h1 : Rel l ⟨none, l.length - at', l.length - at', l.drop at', 0⟩ at' false := ⟨⟨by rw [List.length_drop], Nat.le_refl _, by dsimp only; omega⟩, rfl, h, rfl⟩
  rw [← (take_rel h1).1]
  exact takeR_key _
/-- parsed -/
def prs (l : List B8) : EOp × Int :=
  if (nx l 0).2.1 ≠ 0 then (zOp, (nx l 0).2.1) else if (nx l 0).2.2.1 < l.length then (zOp, 21) else if (nx l 0).1.right ≠ 0 then (zOp, (nx l 0).1.right) else ((nx l 0).1, 0)
theorem eN_zero {f : Bool} (h : eN f = 0) : f = false := by
  cases f
  · rfl
  · cases h
theorem nx_f {l : List B8} {at' : Nat} (h : (nx l at').2.1 = 0) : (nx l at').2.2.2 = false := by
  unfold nx at h ⊢
  split at h
  · cases h
  · rename_i h1
    rw [if_neg h1]
    split at h
    · rename_i h2
      rw [if_pos h2]
      exact eN_zero h
    · rename_i h2
      rw [if_neg h2]
      split at h
      · rename_i h3
        rw [if_pos h3]
        exact eN_zero h
      · cases h
end Go.Proofs.Ytbhbimfljjgijaa.ev
