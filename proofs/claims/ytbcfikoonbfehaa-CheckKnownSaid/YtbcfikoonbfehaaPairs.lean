/- Three digits turned: no other check. No program. -/
import Derived.Test.YtbcfikoonbfehaaCrc
namespace Go.Proofs.Ytbcfikoonbfehaa.crc
def oneN (c : Nat) : Nat := bif Nat.beq (c % 2) 0 then c / 2 else (c / 2) ^^^ 0xEDB88320
theorem one_toNat (c : R) : (one c).toNat = oneN c.toNat := by
  unfold one oneN
  have h : c.getLsbD 0 = !Nat.beq (c.toNat % 2) 0 := by
    rw [BitVec.getLsbD, Nat.testBit_zero]
    rcases Nat.mod_two_eq_zero_or_one c.toNat with h | h <;> rw [h] <;> rfl
  rw [h]
  have h1 : (c >>> 1).toNat = c.toNat / 2 := by rw [BitVec.toNat_ushiftRight, Nat.shiftRight_eq_div_pow, Nat.pow_one]
  cases Nat.beq (c.toNat % 2) 0
  · simp only [Bool.not_false, if_true, cond_false, BitVec.toNat_xor, h1]
    rfl
  · simp [h1]
inductive Tr where
  | nil
  | leaf
  | node (l r : Tr)
def ins : Nat → Nat → Tr → Tr
  | 0, _, _ => .leaf
  | d + 1, x, .node l r => match Nat.beq (x % 2) 0 with
    | true => .node (ins d (x / 2) l) r
    | false => .node l (ins d (x / 2) r)
  | d + 1, x, _ => match Nat.beq (x % 2) 0 with
    | true => .node (ins d (x / 2) .nil) .nil
    | false => .node .nil (ins d (x / 2) .nil)
def has : Nat → Nat → Tr → Bool
  | 0, _, .leaf => true
  | d + 1, x, .node l r => match Nat.beq (x % 2) 0 with
    | true => has d (x / 2) l
    | false => has d (x / 2) r
  | _, _, _ => false
theorem has_self : ∀ (d x : Nat) (t : Tr), has d x (ins d x t) = true
  | 0, _, t => by simp [ins, has]
  | d + 1, x, t => by
    cases t <;> cases h : Nat.beq (x % 2) 0 <;> simp only [ins, h, has] <;> exact has_self d _ _
theorem has_more : ∀ (d x y : Nat) (t : Tr), has d y t = true → has d y (ins d x t) = true
  | 0, _, _, t, _ => by simp [ins, has]
  | d + 1, x, y, t, hy => by
    cases t with
    | nil => simp [has] at hy
    | leaf => simp [has] at hy
    | node l r =>
      cases h : Nat.beq (x % 2) 0 <;> cases h' : Nat.beq (y % 2) 0 <;> simp only [ins, h, has, h'] at hy ⊢ <;> first
        | exact hy
        | exact has_more d _ _ _ hy
def grow : Nat → Nat → Tr → Tr
  | 0, _, t => t
  | k + 1, c, t => grow k (oneN c) (ins 32 c t)
def none_ : Nat → Nat → Tr → Bool
  | 0, _, _ => true
  | k + 1, c, t => match has 32 (c ^^^ 1) t with
    | true => false
    | false => none_ k (oneN c) t
def it : Nat → Nat → Nat
  | 0, c => c
  | k + 1, c => it k (oneN c)
theorem grow_has : ∀ (k c : Nat) (t : Tr) (y : Nat), has 32 y t = true → has 32 y (grow k c t) = true
  | 0, _, _, _, h => h
  | k + 1, c, t, y, h => grow_has k _ _ y (has_more 32 c y t h)
theorem grow_it : ∀ (k c : Nat) (t : Tr) (j : Nat), j < k → has 32 (it j c) (grow k c t) = true
  | 0, _, _, _, h => absurd h (Nat.not_lt_zero _)
  | k + 1, c, t, 0, _ => grow_has k _ _ _ (has_self 32 c t)
  | k + 1, c, t, j + 1, h => grow_it k (oneN c) _ j (by omega)
theorem none_it : ∀ (k c : Nat) (t : Tr), none_ k c t = true → ∀ j, j < k → has 32 (it j c ^^^ 1) t = false
  | 0, _, _, _, _, h => absurd h (Nat.not_lt_zero _)
  | k + 1, c, t, h, j, hj => by
    unfold none_ at h
    split at h
    · cases h
    · rename_i hc
      cases j with
      | zero => exact hc
      | succ j => exact none_it k (oneN c) t h j (by omega)
theorem it_e : ∀ (k : Nat) (c : R), (many k c).toNat = it k c.toNat
  | 0, _ => rfl
  | k + 1, c => by rw [many, it_e k, one_toNat]; rfl
theorem pairs_ok : none_ 2401 1 (grow 2401 1 .nil) = true := by decide +kernel
theorem pairs (i j : Nat) (_ : 0 < i) (hij : i < j) (hj : j < 2401) : e 0 ^^^ (e i ^^^ e j) ≠ 0#32 := by
  intro h
  have h1 : e j = e i ^^^ 1#32 := by
    have h0 : e 0 = 1#32 := rfl
    rw [h0, BitVec.xor_comm, BitVec.xor_assoc, BitVec.xor_comm (e j), ← BitVec.xor_assoc] at h
    exact (xor_zero_iff.1 h).symm
  have h2 := grow_it 2401 1 .nil j hj
  have h3 := none_it 2401 1 _ pairs_ok i (by omega)
  have h4 : it j 1 = it i 1 ^^^ 1 := by
    have := congrArg BitVec.toNat h1
    rw [BitVec.toNat_xor, e, e, it_e, it_e] at this
    exact this
  rw [h4, h3] at h2
  cases h2
theorem flips_ne (c : R) (l : List B) (p q r : Nat) (h300 : l.length ≤ 300) (hp : p < 8 * l.length) (hq : q < 8 * l.length) (hr : r < 8 * l.length) : takes c (flip (flip (flip l p) q) r) ≠ takes c l := by
  rw [takes_flip _ _ _ (by simpa [flip_length] using hr), takes_flip _ _ _ (by simpa [flip_length] using hq), takes_flip _ _ _ hp]
  simp only [flip_length]
  intro h
  have h2 := congrArg (takes c l ^^^ ·) h
  simp only [← BitVec.xor_assoc, BitVec.xor_self, BitVec.zero_xor] at h2
  rw [BitVec.xor_assoc] at h2
  exact e_three (N := 2401) pairs (by omega) (by omega) (by omega) h2
end Go.Proofs.Ytbcfikoonbfehaa.crc
