/- Plain numbers behind the layer num: an int64's range, the digits of a wide number, and the bit operations on int64 as arithmetic. No program. -/
import Derived.WalkKit
import Derived.OpenShut
import Derived.Laws.BitsAllLaws
import Derived.Laws.BitsLemmas
namespace Go.Proofs.Ytbhbimfljjgijaa.num
open Go.RowKit

def inI (n : Int) : Bool := decide (-9223372036854775808 ≤ n ∧ n < 9223372036854775808)
def fitV (n : Int) : Int := if inI n then n else 0
theorem inI_true {n : Int} (h1 : -9223372036854775808 ≤ n) (h2 : n < 9223372036854775808) : inI n = true := by simp [inI, h1, h2]
theorem inI_iff {n : Int} : inI n = true ↔ -9223372036854775808 ≤ n ∧ n < 9223372036854775808 := by simp [inI]
theorem wf_i64 {n : Int} (h : (Lit.int .i64 n).wf = true) : -9223372036854775808 ≤ n ∧ n < 9223372036854775808 := by
  have := bounds_i64 h
  omega
theorem wf_of {n : Int} (h1 : -9223372036854775808 ≤ n) (h2 : n < 9223372036854775808) : (Lit.int .i64 n).wf = true := WalkArith.wf_i64 (by omega)
theorem wrap64_of {n : Int} (h1 : -9223372036854775808 ≤ n) (h2 : n < 9223372036854775808) : wrap64 n = n := by unfold wrap64; omega
theorem wf_fit (n : Int) : (Lit.int .i64 (fitV n)).wf = true := by
  unfold fitV
  split
  · rename_i h; have := inI_iff.1 h; exact wf_of this.1 this.2
  · exact wf_of (by omega) (by omega)

/-- '& (2^32 - 1)' on an int64: the rest by 2^32. -/
theorem and_mask32 (n : Int) : bits BinOp.and IntKind.i64 n 4294967295 = n % 4294967296 := by
  show IntKind.i64.wrap ((BitVec.ofInt 64 n &&& BitVec.ofInt 64 4294967295).toNat : Int) = _
  have h : (BitVec.ofInt 64 n &&& BitVec.ofInt 64 4294967295).toNat = (n % 18446744073709551616).toNat % 4294967296 := by
    rw [BitVec.toNat_and]
    have e : (BitVec.ofInt 64 (4294967295 : Int)).toNat = 2 ^ 32 - 1 := by decide
    rw [e, Nat.and_two_pow_sub_one_eq_mod, BitVec.toNat_ofInt]
    rfl
  rw [h, IntKind.wrap_i64]
  omega
/-- '& 1' on an int64. -/
theorem and_one (n : Int) : bits BinOp.and IntKind.i64 n 1 = n % 2 := by
  show IntKind.i64.wrap ((BitVec.ofInt 64 n &&& BitVec.ofInt 64 1).toNat : Int) = _
  have h : (BitVec.ofInt 64 n &&& BitVec.ofInt 64 1).toNat = (n % 18446744073709551616).toNat % 2 := by
    rw [BitVec.toNat_and]
    have e : (BitVec.ofInt 64 (1 : Int)).toNat = 2 ^ 1 - 1 := by decide
    rw [e, Nat.and_two_pow_sub_one_eq_mod, BitVec.toNat_ofInt]
    rfl
  rw [h, IntKind.wrap_i64]
  omega

/- The digits of a wide number, in places of 2^32. -/
def wA (x : Int) : Int := x % 4294967296
def wB (x : Int) : Int := x / 4294967296 % 4294967296
def wC (x : Int) : Int := x / 18446744073709551616 % 4294967296
def wD (x : Int) : Int := x / 79228162514264337593543950336
def wV (a b c d : Int) : Int := a + b * 4294967296 + c * 18446744073709551616 + d * 79228162514264337593543950336
/-- how far wide numbers go -/
def far (x : Int) : Prop := -340282366920938463463374607431768211456 ≤ x ∧ x ≤ 340282366920938463463374607431768211456
theorem wA_bd (x : Int) : 0 ≤ wA x ∧ wA x < 4294967296 := by unfold wA; omega
theorem wB_bd (x : Int) : 0 ≤ wB x ∧ wB x < 4294967296 := by unfold wB; omega
theorem wC_bd (x : Int) : 0 ≤ wC x ∧ wC x < 4294967296 := by unfold wC; omega
theorem wD_bd {x : Int} (h : far x) : -4294967296 ≤ wD x ∧ wD x ≤ 4294967296 := by unfold far at h; unfold wD; omega
theorem wV_self (x : Int) : wV (wA x) (wB x) (wC x) (wD x) = x := by unfold wV wA wB wC wD; omega
theorem wV_add (a b c d a' b' c' d' : Int) : wV (a + a') (b + b') (c + c') (d + d') = wV a b c d + wV a' b' c' d' := by unfold wV; omega
theorem wV_neg (a b c d : Int) : wV (-a) (-b) (-c) (-d) = -wV a b c d := by unfold wV; omega
theorem wV_plus (x y : Int) : wV (wA x + wA y) (wB x + wB y) (wC x + wC y) (wD x + wD y) = x + y := by rw [wV_add, wV_self, wV_self]
theorem wV_less (x : Int) : wV (-wA x) (-wB x) (-wC x) (-wD x) = -x := by rw [wV_neg, wV_self]
theorem wA_of (a b c d : Int) : a % 4294967296 = wA (wV a b c d) := by unfold wA wV; omega
theorem wB_of (a b c d : Int) : (b + a / 4294967296) % 4294967296 = wB (wV a b c d) := by unfold wB wV; omega
theorem wC_of (a b c d : Int) : (c + (b + a / 4294967296) / 4294967296) % 4294967296 = wC (wV a b c d) := by unfold wC wV; omega
theorem wD_of (a b c d : Int) : d + (c + (b + a / 4294967296) / 4294967296) / 4294967296 = wD (wV a b c d) := by unfold wD wV; omega
theorem wV_of (n : Int) : wV (n % 4294967296) (n / 4294967296) 0 0 = n := by unfold wV; omega

theorem or_digits (x : Int) : bits BinOp.or IntKind.i64 (wrap64 (wB x * 4294967296)) (wA x) = wrap64 x := by
  show IntKind.i64.wrap ((BitVec.ofInt 64 (wrap64 (wB x * 4294967296)) ||| BitVec.ofInt 64 (wA x)).toNat : Int) = _
  obtain ⟨hb1, hb2⟩ := wB_bd x
  obtain ⟨ha1, ha2⟩ := wA_bd x
  have e1 : (BitVec.ofInt 64 (wrap64 (wB x * 4294967296))).toNat = 2 ^ 32 * (wB x).toNat := by
    rw [BitVec.toNat_ofInt]
    unfold wrap64
    simp only [Nat.reducePow]
    omega
  have e2 : (BitVec.ofInt 64 (wA x)).toNat = (wA x).toNat := by
    rw [BitVec.toNat_ofInt]
    simp only [Nat.reducePow]
    omega
  rw [BitVec.toNat_or, e1, e2, ← Nat.two_pow_add_eq_or_of_lt (by simp only [Nat.reducePow]; omega), IntKind.wrap_i64]
  unfold wrap64
  have h : x % 18446744073709551616 = wB x * 4294967296 + wA x := by unfold wB wA; omega
  simp only [Nat.reducePow]
  omega
theorem digits_eq {x y : Int} (h1 : wA x = wA y) (h2 : wB x = wB y) (h3 : wC x = wC y) (h4 : wD x = wD y) : x = y := by
  rw [← wV_self x, ← wV_self y, h1, h2, h3, h4]
theorem wrap64_id_iff (x : Int) : wrap64 x = x ↔ inI x = true := by
  rw [inI_iff]
  unfold wrap64
  omega
theorem wA_wrap (x : Int) : wA (wrap64 x) = wA x := by unfold wA wrap64; omega
theorem wB_wrap (x : Int) : wB (wrap64 x) = wB x := by unfold wB wrap64; omega
theorem digits_cases (x : Int) : (inI x = true ∧ wC (wrap64 x) = wC x ∧ wD (wrap64 x) = wD x) ∨ (inI x = false ∧ (wC (wrap64 x) == wC x) = false) ∨ (inI x = false ∧ wC (wrap64 x) = wC x ∧ (wD (wrap64 x) == wD x) = false) := by
  by_cases hi : inI x = true
  · have h := (wrap64_id_iff x).2 hi
    rw [h]
    exact .inl ⟨hi, rfl, rfl⟩
  · have hf : inI x = false := by simpa using hi
    by_cases hc : wC (wrap64 x) = wC x
    · by_cases hd : wD (wrap64 x) = wD x
      · exact absurd ((wrap64_id_iff x).1 (digits_eq (wA_wrap x) (wB_wrap x) hc hd)) hi
      · exact .inr (.inr ⟨hf, hc, by simpa using hd⟩)
    · exact .inr (.inl ⟨hf, by simpa using hc⟩)

/- Multiplying digit by digit. -/
theorem tb (x k : Nat) : (x / 2 ^ k % 2 = 1) = (x.testBit k = true) := by rw [Nat.testBit_eq_decide_div_mod_eq]; simp
theorem bit_eq {x y k j : Nat} (h : x.testBit k = y.testBit j) : x / 2 ^ k % 2 = y / 2 ^ j % 2 := by
  have h1 := tb x k
  have h2 := tb y j
  rw [h] at h1
  have h3 : (x / 2 ^ k % 2 = 1) = (y / 2 ^ j % 2 = 1) := h1.trans h2.symm
  have h4 := propext_iff.1 h3
  have := Nat.mod_lt (x / 2 ^ k) (show 0 < 2 by omega)
  have := Nat.mod_lt (y / 2 ^ j) (show 0 < 2 by omega)
  omega
theorem wA_nat (y : Nat) : wA (y : Int) = ((y % 2 ^ 32 : Nat) : Int) := by unfold wA; simp only [Nat.reducePow]; omega
theorem wB_nat (y : Nat) : wB (y : Int) = ((y / 2 ^ 32 % 2 ^ 32 : Nat) : Int) := by unfold wB; simp only [Nat.reducePow]; omega
theorem cast_bit (x k : Nat) : (x : Int) / 2 ^ k % 2 = ((x / 2 ^ k % 2 : Nat) : Int) := by simp [Int.natCast_ediv]
theorem bit_low (y k : Nat) (hk : k < 32) : bits BinOp.and IntKind.i64 (wA (y : Int) / 2 ^ k) 1 = ((y / 2 ^ k % 2 : Nat) : Int) := by
  rw [and_one, wA_nat, cast_bit]
  exact congrArg _ (bit_eq (by rw [Nat.testBit_mod_two_pow]; simp [hk]))
theorem bit_high (y k : Nat) (h1 : 32 ≤ k) (hk : k < 64) : bits BinOp.and IntKind.i64 (wB (y : Int) / 2 ^ (k - 32)) 1 = ((y / 2 ^ k % 2 : Nat) : Int) := by
  rw [and_one, wB_nat, cast_bit]
  refine congrArg _ (bit_eq ?_)
  rw [Nat.testBit_mod_two_pow, Nat.testBit_div_two_pow]
  have e : k - 32 + 32 = k := by omega
  rw [e]
  simp
  omega
theorem acc_one (a : Int) (y k : Nat) (h : y / 2 ^ k % 2 = 1) : a * ((y % 2 ^ k : Nat) : Int) + a * 2 ^ k = a * ((y % 2 ^ (k + 1) : Nat) : Int) := by
  rw [Nat.mod_pow_succ, h, Nat.mul_one, Int.natCast_add, Int.mul_add]
  simp
theorem acc_none (a : Int) (y k : Nat) (h : y / 2 ^ k % 2 = 0) : a * ((y % 2 ^ k : Nat) : Int) = a * ((y % 2 ^ (k + 1) : Nat) : Int) := by
  rw [Nat.mod_pow_succ, h, Nat.mul_zero, Nat.add_zero]
theorem twice (a : Int) (k : Nat) : a * 2 ^ k + a * 2 ^ k = a * 2 ^ (k + 1) := by
  rw [Int.pow_succ, ← Int.mul_assoc]
  omega
theorem far_mul {a : Int} {m : Nat} (h1 : -9223372036854775808 ≤ a) (h2 : a ≤ 9223372036854775808) (hm : m ≤ 18446744073709551616) : far (a * (m : Int)) := by
  have h := Int.natAbs_mul a (m : Int)
  have h3 : a.natAbs * (m : Int).natAbs ≤ 9223372036854775808 * 18446744073709551616 := Nat.mul_le_mul (by omega) (by omega)
  rw [← h] at h3
  generalize a * (m : Int) = p at *
  unfold far
  omega
theorem far_mul_pow {a : Int} {k : Nat} (h1 : -9223372036854775808 ≤ a) (h2 : a ≤ 9223372036854775808) (hk : k ≤ 64) : far (a * 2 ^ k) := by
  have h := far_mul (m := 2 ^ k) h1 h2 (Nat.le_trans (Nat.pow_le_pow_right (by omega) hk) (by decide))
  simpa using h

/- Sums. -/
def tot : List Int → Int
  | [] => 0
  | x :: l => x + tot l
theorem tot_append (a b : List Int) : tot (a ++ b) = tot a + tot b := by
  induction a with
  | nil => simp [tot]
  | cons x l ih => simp only [List.cons_append, tot, ih]; omega
theorem take_snoc (zs : List Int) (k : Nat) (h : k < zs.length) : zs.take (k + 1) = zs.take k ++ [zs.getD k 0] := by
  rw [List.take_succ_eq_append_getElem h]
  simp [List.getD, h]
theorem tot_snoc (zs : List Int) (k : Nat) (h : k < zs.length) : tot (zs.take (k + 1)) = tot (zs.take k) + zs.getD k 0 := by
  rw [take_snoc zs k h, tot_append]
  simp [tot]
theorem tot_bd {l : List Int} (h : ∀ n ∈ l, (Lit.int .i64 n).wf = true) : -(9223372036854775808 * (l.length : Int)) ≤ tot l ∧ tot l ≤ 9223372036854775808 * (l.length : Int) := by
  induction l with
  | nil => simp [tot]
  | cons x l ih =>
    have h1 := wf_i64 (h x (by simp))
    have h2 := ih (fun n hn => h n (by simp [hn]))
    simp only [tot, List.length_cons]
    omega
theorem tot_take_bd {l : List Int} (h : ∀ n ∈ l, (Lit.int .i64 n).wf = true) (k : Nat) (hk : k ≤ 9223372036854775807) : -85070591730234615865843651857942052864 ≤ tot (l.take k) ∧ tot (l.take k) ≤ 85070591730234615865843651857942052864 := by
  have h1 := tot_bd (l := l.take k) (fun n hn => h n (List.mem_of_mem_take hn))
  have h2 : (l.take k).length ≤ k := List.length_take_le _ _
  omega
theorem getD_wf {l : List Int} (h : ∀ n ∈ l, (Lit.int .i64 n).wf = true) (k : Nat) : (Lit.int .i64 (l.getD k 0)).wf = true := by
  rw [List.getD_eq_getElem?_getD]
  by_cases hk : k < l.length
  · rw [List.getElem?_eq_getElem hk]
    exact h _ (List.getElem_mem hk)
  · rw [List.getElem?_eq_none (by omega)]
    rfl
end Go.Proofs.Ytbhbimfljjgijaa.num
