/- keys: numbers and their bytes (as in the chapter of packed numbers, without its walks). -/
import Derived.Test.YthmdiopbiiimeaaDoorPk
namespace Go.Proofs.YthmdiopbiiimeaaDoor.ky
open Go.RowKit Go.Proofs.YthmdiopbiiimeaaDoor.pk
theorem dn_lt : ∀ (l : List B8) (n : Nat), dn n l < (n + 1) * 256 ^ l.length
  | [], n => by show n < _; simp
  | c :: l, n => by
    have h := dn_lt l (n * 256 + c.toNat)
    have hc := c.isLt
    refine Nat.lt_of_lt_of_le h ?_
    rw [List.length_cons, Nat.pow_succ, Nat.mul_comm (256 ^ l.length) 256, ← Nat.mul_assoc]
    exact Nat.mul_le_mul_right _ (by omega)
theorem de_lt (l : List B8) : (de 0#64 l).toNat < 256 ^ l.length := by
  rw [de_dn l 0#64 0 rfl]
  have := dn_lt l 0
  rw [Nat.zero_add, Nat.one_mul] at this
  exact Nat.lt_of_le_of_lt (Nat.mod_le _ _) this
theorem dn_inj : ∀ (l m : List B8) (a b : Nat), l.length = m.length → dn a l = dn b m → a = b ∧ l = m
  | [], [], _, _, _, h => ⟨h, rfl⟩
  | c :: l, d :: m, a, b, hl, h => by
    obtain ⟨h1, h2⟩ := dn_inj l m (a * 256 + c.toNat) (b * 256 + d.toNat) (by simpa using hl) h
    have hc := c.isLt
    have hd := d.isLt
    have e : c.toNat = d.toNat := by omega
    exact ⟨by omega, by rw [BitVec.eq_of_toNat_eq e, h2]⟩
theorem be_de (l : List B8) (hl : l.length ≤ 8) : be l.length (de 0#64 l) = l := by
  refine (dn_inj _ _ 0 0 (be_len _ _) ?_).2
  have h1 := dn_lt l 0
  have hp : (256 : Nat) ^ l.length ≤ 2 ^ 64 := Nat.le_trans (Nat.pow_le_pow_right (by decide) hl) (by decide)
  rw [dn_be, de_dn l 0#64 0 rfl, Nat.zero_mul, Nat.zero_add, Nat.mod_eq_of_lt (a := dn 0 l) (by omega), Nat.mod_eq_of_lt (by omega)]
/-- numbers stand as their bytes do -/
theorem ltB_be : ∀ (k : Nat) (x y : BitVec 64), ltB (be k x) (be k y) = decide (x.toNat % 256 ^ k < y.toNat % 256 ^ k)
  | 0, x, y => by simp [be, ltB, Nat.mod_one]
  | k + 1, x, y => by
    have ih := ltB_be k x y
    rw [be, be, ltB, ih]
    have e : (2 : Nat) ^ (8 * k) = 256 ^ k := by rw [Nat.pow_mul]
    have e2 : (256 : Nat) ^ (k + 1) = 256 ^ k * 256 := Nat.pow_succ ..
    have hx : ((x >>> (8 * k)).setWidth 8).toNat = x.toNat / 256 ^ k % 256 := by rw [BitVec.toNat_setWidth, BitVec.toNat_ushiftRight, Nat.shiftRight_eq_div_pow, e]
    have hy : ((y >>> (8 * k)).setWidth 8).toNat = y.toNat / 256 ^ k % 256 := by rw [BitVec.toNat_setWidth, BitVec.toNat_ushiftRight, Nat.shiftRight_eq_div_pow, e]
    have mx : x.toNat % (256 ^ k * 256) = x.toNat % 256 ^ k + 256 ^ k * (x.toNat / 256 ^ k % 256) := Nat.mod_mul
    have my : y.toNat % (256 ^ k * 256) = y.toNat % 256 ^ k + 256 ^ k * (y.toNat / 256 ^ k % 256) := Nat.mod_mul
    rw [e2, mx, my, hx, hy]
    have hp : 0 < 256 ^ k := Nat.pow_pos (by decide)
    have bx := Nat.mod_lt x.toNat hp
    have by' := Nat.mod_lt y.toNat hp
    generalize x.toNat % 256 ^ k = a at bx ⊢
    generalize y.toNat % 256 ^ k = b at by' ⊢
    have hab : ((x >>> (8 * k)).setWidth 8 = (y >>> (8 * k)).setWidth 8) ↔ x.toNat / 256 ^ k % 256 = y.toNat / 256 ^ k % 256 := by
      rw [← hx, ← hy]
      exact ⟨fun h => by rw [h], fun h => BitVec.eq_of_toNat_eq h⟩
    generalize x.toNat / 256 ^ k % 256 = u at hab ⊢
    generalize y.toNat / 256 ^ k % 256 = v at hab ⊢
    generalize (256 : Nat) ^ k = p at bx by' ⊢
    by_cases huv : u = v
    · rw [if_pos (hab.2 huv), huv]
      congr 1
      rw [Nat.add_lt_add_iff_right]
    · rw [if_neg (fun h => huv (hab.1 h))]
      rw [decide_eq_decide]
      rcases Nat.lt_or_gt_of_ne huv with h | h
      · have := Nat.mul_le_mul_left p (show u + 1 ≤ v by omega)
        rw [Nat.mul_add, Nat.mul_one] at this
        constructor <;> intro _ <;> omega
      · have := Nat.mul_le_mul_left p (show v + 1 ≤ u by omega)
        rw [Nat.mul_add, Nat.mul_one] at this
        constructor <;> intro _ <;> omega
theorem order_be (x y : BitVec 64) : (decide ((x.toNat : Int) < (y.toNat : Int)) == ltB (be 8 x) (be 8 y)) = true := by
  have e : (256 : Nat) ^ 8 = 2 ^ 64 := by decide
  rw [ltB_be, e, Nat.mod_eq_of_lt x.isLt, Nat.mod_eq_of_lt y.isLt, beq_iff_eq, decide_eq_decide]
  omega
end Go.Proofs.YthmdiopbiiimeaaDoor.ky
