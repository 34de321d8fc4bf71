/- Plain numbers behind the layer num: an int64's range, the digits of a wide number, and the bit operations on int64 as arithmetic. No program. Windows as plain numbers: which are right, which a time is in. No program. -/
import Derived.WalkKit
import Derived.OpenShut
import Derived.Laws.BitsAllLaws
import Derived.Laws.BitsLemmas
namespace Go.Proofs.YtmochicneilhhaaGreat.num
open Go.RowKit

def inI (n : Int) : Bool := decide (-9223372036854775808 ≤ n ∧ n < 9223372036854775808)
def fitV (n : Int) : Int := if inI n then n else 0
theorem inI_true {n : Int} (h1 : -9223372036854775808 ≤ n) (h2 : n < 9223372036854775808) : inI n = true := by simp [inI, h1, h2]
theorem inI_iff {n : Int} : inI n = true ↔ -9223372036854775808 ≤ n ∧ n < 9223372036854775808 := by simp [inI]
theorem wf_i64 {n : Int} (h : (Lit.int .i64 n).wf = true) : -9223372036854775808 ≤ n ∧ n < 9223372036854775808 := by
  have := bounds_i64 h
  omega
theorem wf_of {n : Int} (h1 : -9223372036854775808 ≤ n) (h2 : n < 9223372036854775808) : (Lit.int .i64 n).wf = true := WalkArith.wf_i64 (by omega)
theorem wrap64_of {n : Int} (h1 : -9223372036854775808 ≤ n) (h2 : n < 9223372036854775808) : wrap64 n = n := by unfold wrap64; omega
theorem wf_fit (n : Int) : (Lit.int .i64 (fitV n)).wf = true := by
  unfold fitV
  split
  · rename_i h; have := inI_iff.1 h; exact wf_of this.1 this.2
  · exact wf_of (by omega) (by omega)

/-- '& (2^32 - 1)' on an int64: the rest by 2^32. -/
theorem and_mask32 (n : Int) : bits BinOp.and IntKind.i64 n 4294967295 = n % 4294967296 := by
  show IntKind.i64.wrap ((BitVec.ofInt 64 n &&& BitVec.ofInt 64 4294967295).toNat : Int) = _
  have h : (BitVec.ofInt 64 n &&& BitVec.ofInt 64 4294967295).toNat = (n % 18446744073709551616).toNat % 4294967296 := by
    rw [BitVec.toNat_and]
    have e : (BitVec.ofInt 64 (4294967295 : Int)).toNat = 2 ^ 32 - 1 := by decide
    rw [e, Nat.and_two_pow_sub_one_eq_mod, BitVec.toNat_ofInt]
    rfl
  rw [h, IntKind.wrap_i64]
  omega
/-- '& 1' on an int64. -/
theorem and_one (n : Int) : bits BinOp.and IntKind.i64 n 1 = n % 2 := by
  show IntKind.i64.wrap ((BitVec.ofInt 64 n &&& BitVec.ofInt 64 1).toNat : Int) = _
  have h : (BitVec.ofInt 64 n &&& BitVec.ofInt 64 1).toNat = (n % 18446744073709551616).toNat % 2 := by
    rw [BitVec.toNat_and]
    have e : (BitVec.ofInt 64 (1 : Int)).toNat = 2 ^ 1 - 1 := by decide
    rw [e, Nat.and_two_pow_sub_one_eq_mod, BitVec.toNat_ofInt]
    rfl
  rw [h, IntKind.wrap_i64]
  omega

/- The digits of a wide number, in places of 2^32. -/
def wA (x : Int) : Int := x % 4294967296
def wB (x : Int) : Int := x / 4294967296 % 4294967296
def wC (x : Int) : Int := x / 18446744073709551616 % 4294967296
def wD (x : Int) : Int := x / 79228162514264337593543950336
def wV (a b c d : Int) : Int := a + b * 4294967296 + c * 18446744073709551616 + d * 79228162514264337593543950336
/-- how far wide numbers go -/
def far (x : Int) : Prop := -340282366920938463463374607431768211456 ≤ x ∧ x ≤ 340282366920938463463374607431768211456
theorem wA_bd (x : Int) : 0 ≤ wA x ∧ wA x < 4294967296 := by unfold wA; omega
theorem wB_bd (x : Int) : 0 ≤ wB x ∧ wB x < 4294967296 := by unfold wB; omega
theorem wC_bd (x : Int) : 0 ≤ wC x ∧ wC x < 4294967296 := by unfold wC; omega
theorem wD_bd {x : Int} (h : far x) : -4294967296 ≤ wD x ∧ wD x ≤ 4294967296 := by unfold far at h; unfold wD; omega
theorem wV_self (x : Int) : wV (wA x) (wB x) (wC x) (wD x) = x := by unfold wV wA wB wC wD; omega
theorem wV_add (a b c d a' b' c' d' : Int) : wV (a + a') (b + b') (c + c') (d + d') = wV a b c d + wV a' b' c' d' := by unfold wV; omega
theorem wV_neg (a b c d : Int) : wV (-a) (-b) (-c) (-d) = -wV a b c d := by unfold wV; omega
theorem wV_plus (x y : Int) : wV (wA x + wA y) (wB x + wB y) (wC x + wC y) (wD x + wD y) = x + y := by rw [wV_add, wV_self, wV_self]
theorem wV_less (x : Int) : wV (-wA x) (-wB x) (-wC x) (-wD x) = -x := by rw [wV_neg, wV_self]
theorem wA_of (a b c d : Int) : a % 4294967296 = wA (wV a b c d) := by unfold wA wV; omega
theorem wB_of (a b c d : Int) : (b + a / 4294967296) % 4294967296 = wB (wV a b c d) := by unfold wB wV; omega
theorem wC_of (a b c d : Int) : (c + (b + a / 4294967296) / 4294967296) % 4294967296 = wC (wV a b c d) := by unfold wC wV; omega
theorem wD_of (a b c d : Int) : d + (c + (b + a / 4294967296) / 4294967296) / 4294967296 = wD (wV a b c d) := by unfold wD wV; omega
theorem wV_of (n : Int) : wV (n % 4294967296) (n / 4294967296) 0 0 = n := by unfold wV; omega

theorem or_digits (x : Int) : bits BinOp.or IntKind.i64 (wrap64 (wB x * 4294967296)) (wA x) = wrap64 x := by
  show IntKind.i64.wrap ((BitVec.ofInt 64 (wrap64 (wB x * 4294967296)) ||| BitVec.ofInt 64 (wA x)).toNat : Int) = _
  obtain ⟨hb1, hb2⟩ := wB_bd x
  obtain ⟨ha1, ha2⟩ := wA_bd x
  have e1 : (BitVec.ofInt 64 (wrap64 (wB x * 4294967296))).toNat = 2 ^ 32 * (wB x).toNat := by
    rw [BitVec.toNat_ofInt]
    unfold wrap64
    simp only [Nat.reducePow]
    omega
  have e2 : (BitVec.ofInt 64 (wA x)).toNat = (wA x).toNat := by
    rw [BitVec.toNat_ofInt]
    simp only [Nat.reducePow]
    omega
  rw [BitVec.toNat_or, e1, e2, ← Nat.two_pow_add_eq_or_of_lt (by simp only [Nat.reducePow]; omega), IntKind.wrap_i64]
  unfold wrap64
  have h : x % 18446744073709551616 = wB x * 4294967296 + wA x := by unfold wB wA; omega
  simp only [Nat.reducePow]
  omega
theorem digits_eq {x y : Int} (h1 : wA x = wA y) (h2 : wB x = wB y) (h3 : wC x = wC y) (h4 : wD x = wD y) : x = y := by
  rw [← wV_self x, ← wV_self y, h1, h2, h3, h4]
theorem wrap64_id_iff (x : Int) : wrap64 x = x ↔ inI x = true := by
  rw [inI_iff]
  unfold wrap64
  omega
theorem wA_wrap (x : Int) : wA (wrap64 x) = wA x := by unfold wA wrap64; omega
theorem wB_wrap (x : Int) : wB (wrap64 x) = wB x := by unfold wB wrap64; omega
theorem digits_cases (x : Int) : (inI x = true ∧ wC (wrap64 x) = wC x ∧ wD (wrap64 x) = wD x) ∨ (inI x = false ∧ (wC (wrap64 x) == wC x) = false) ∨ (inI x = false ∧ wC (wrap64 x) = wC x ∧ (wD (wrap64 x) == wD x) = false) := by
  by_cases hi : inI x = true
  · have h := (wrap64_id_iff x).2 hi
    rw [h]
    exact .inl ⟨hi, rfl, rfl⟩
  · have hf : inI x = false := by simpa using hi
    by_cases hc : wC (wrap64 x) = wC x
    · by_cases hd : wD (wrap64 x) = wD x
      · exact absurd ((wrap64_id_iff x).1 (digits_eq (wA_wrap x) (wB_wrap x) hc hd)) hi
      · exact .inr (.inr ⟨hf, hc, by simpa using hd⟩)
    · exact .inr (.inl ⟨hf, by simpa using hc⟩)

/- Multiplying digit by digit. -/
theorem tb (x k : Nat) : (x / 2 ^ k % 2 = 1) = (x.testBit k = true) := by rw [Nat.testBit_eq_decide_div_mod_eq]; simp
theorem bit_eq {x y k j : Nat} (h : x.testBit k = y.testBit j) : x / 2 ^ k % 2 = y / 2 ^ j % 2 := by
  have h1 := tb x k
  have h2 := tb y j
  rw [h] at h1
  have h3 : (x / 2 ^ k % 2 = 1) = (y / 2 ^ j % 2 = 1) := h1.trans h2.symm
  have h4 := propext_iff.1 h3
  have := Nat.mod_lt (x / 2 ^ k) (show 0 < 2 by omega)
  have := Nat.mod_lt (y / 2 ^ j) (show 0 < 2 by omega)
  omega
theorem wA_nat (y : Nat) : wA (y : Int) = ((y % 2 ^ 32 : Nat) : Int) := by unfold wA; simp only [Nat.reducePow]; omega
theorem wB_nat (y : Nat) : wB (y : Int) = ((y / 2 ^ 32 % 2 ^ 32 : Nat) : Int) := by unfold wB; simp only [Nat.reducePow]; omega
theorem cast_bit (x k : Nat) : (x : Int) / 2 ^ k % 2 = ((x / 2 ^ k % 2 : Nat) : Int) := by simp [Int.natCast_ediv]
theorem bit_low (y k : Nat) (hk : k < 32) : bits BinOp.and IntKind.i64 (wA (y : Int) / 2 ^ k) 1 = ((y / 2 ^ k % 2 : Nat) : Int) := by
  rw [and_one, wA_nat, cast_bit]
  exact congrArg _ (bit_eq (by rw [Nat.testBit_mod_two_pow]; simp [hk]))
theorem bit_high (y k : Nat) (h1 : 32 ≤ k) (hk : k < 64) : bits BinOp.and IntKind.i64 (wB (y : Int) / 2 ^ (k - 32)) 1 = ((y / 2 ^ k % 2 : Nat) : Int) := by
  rw [and_one, wB_nat, cast_bit]
  refine congrArg _ (bit_eq ?_)
  rw [Nat.testBit_mod_two_pow, Nat.testBit_div_two_pow]
  have e : k - 32 + 32 = k := by omega
  rw [e]
  simp
  omega
theorem acc_one (a : Int) (y k : Nat) (h : y / 2 ^ k % 2 = 1) : a * ((y % 2 ^ k : Nat) : Int) + a * 2 ^ k = a * ((y % 2 ^ (k + 1) : Nat) : Int) := by
  rw [Nat.mod_pow_succ, h, Nat.mul_one, Int.natCast_add, Int.mul_add]
  simp
theorem acc_none (a : Int) (y k : Nat) (h : y / 2 ^ k % 2 = 0) : a * ((y % 2 ^ k : Nat) : Int) = a * ((y % 2 ^ (k + 1) : Nat) : Int) := by
  rw [Nat.mod_pow_succ, h, Nat.mul_zero, Nat.add_zero]
theorem twice (a : Int) (k : Nat) : a * 2 ^ k + a * 2 ^ k = a * 2 ^ (k + 1) := by
  rw [Int.pow_succ, ← Int.mul_assoc]
  omega
theorem far_mul {a : Int} {m : Nat} (h1 : -9223372036854775808 ≤ a) (h2 : a ≤ 9223372036854775808) (hm : m ≤ 18446744073709551616) : far (a * (m : Int)) := by
  have h := Int.natAbs_mul a (m : Int)
  have h3 : a.natAbs * (m : Int).natAbs ≤ 9223372036854775808 * 18446744073709551616 := Nat.mul_le_mul (by omega) (by omega)
  rw [← h] at h3
  generalize a * (m : Int) = p at *
  unfold far
  omega
theorem far_mul_pow {a : Int} {k : Nat} (h1 : -9223372036854775808 ≤ a) (h2 : a ≤ 9223372036854775808) (hk : k ≤ 64) : far (a * 2 ^ k) := by
  have h := far_mul (m := 2 ^ k) h1 h2 (Nat.le_trans (Nat.pow_le_pow_right (by omega) hk) (by decide))
  simpa using h

/- Sums. -/
def tot : List Int → Int
  | [] => 0
  | x :: l => x + tot l
theorem tot_append (a b : List Int) : tot (a ++ b) = tot a + tot b := by
  induction a with
  | nil => simp [tot]
  | cons x l ih => simp only [List.cons_append, tot, ih]; omega
theorem take_snoc (zs : List Int) (k : Nat) (h : k < zs.length) : zs.take (k + 1) = zs.take k ++ [zs.getD k 0] := by
  rw [List.take_succ_eq_append_getElem h]
  simp [List.getD, h]
theorem tot_snoc (zs : List Int) (k : Nat) (h : k < zs.length) : tot (zs.take (k + 1)) = tot (zs.take k) + zs.getD k 0 := by
  rw [take_snoc zs k h, tot_append]
  simp [tot]
theorem tot_bd {l : List Int} (h : ∀ n ∈ l, (Lit.int .i64 n).wf = true) : -(9223372036854775808 * (l.length : Int)) ≤ tot l ∧ tot l ≤ 9223372036854775808 * (l.length : Int) := by
  induction l with
  | nil => simp [tot]
  | cons x l ih =>
    have h1 := wf_i64 (h x (by simp))
    have h2 := ih (fun n hn => h n (by simp [hn]))
    simp only [tot, List.length_cons]
    omega
theorem tot_take_bd {l : List Int} (h : ∀ n ∈ l, (Lit.int .i64 n).wf = true) (k : Nat) (hk : k ≤ 9223372036854775807) : -85070591730234615865843651857942052864 ≤ tot (l.take k) ∧ tot (l.take k) ≤ 85070591730234615865843651857942052864 := by
  have h1 := tot_bd (l := l.take k) (fun n hn => h n (List.mem_of_mem_take hn))
  have h2 : (l.take k).length ≤ k := List.length_take_le _ _
  omega
theorem getD_wf {l : List Int} (h : ∀ n ∈ l, (Lit.int .i64 n).wf = true) (k : Nat) : (Lit.int .i64 (l.getD k 0)).wf = true := by
  rw [List.getD_eq_getElem?_getD]
  by_cases hk : k < l.length
  · rw [List.getElem?_eq_getElem hk]
    exact h _ (List.getElem_mem hk)
  · rw [List.getElem?_eq_none (by omega)]
    rfl
end Go.Proofs.YtmochicneilhhaaGreat.num
namespace Go.Proofs.YtmochicneilhhaaGreat.win
open Go.RowKit
open Go.Proofs.YtmochicneilhhaaGreat.num (wf_i64 wf_of wrap64_of)

/-- may a window's number be? -/
def numB (n : Int) : Bool := decide (1 ≤ n ∧ n ≤ 1048576)
theorem numB_iff {n : Int} : numB n = true ↔ 1 ≤ n ∧ n ≤ 1048576 := by simp [numB]
/-- P14.1 -/
def rightB (k s l g : Int) : Bool :=
  (k == 1 && (numB s && (l == 0) && (g == 0))) || (k == 2 && (numB s && numB l && (g == 0) && (s % l == 0) && decide (s / l ≤ 16))) || (k == 3 && (numB g && (s == 0) && (l == 0)))
def stepV (k s l : Int) : Int := if k = 2 then l else s
def allB (zs : List Int) : Bool := zs.all numB
theorem allB_snoc (a : List Int) (x : Int) : allB (a ++ [x]) = (allB a && numB x) := by simp [allB]
theorem allB_snoc' (a : List Int) (x : Int) : allB (a ++ (some x).toList) = (allB a && numB x) := allB_snoc a x
/-- P14.2: the spans of a time's windows, q of them, one step apart; 'last' is where the last one begins -/
def winsL (last st sz : Int) (q : Nat) : List (Int × Int) := (List.range q).map fun i : Nat => (last - sz + st + i * st, last - sz + st + i * st + sz)
theorem winsL_succ (last st sz : Int) (q : Nat) : winsL last st sz (q + 1) = winsL last st sz q ++ [(last - sz + st + q * st, last - sz + st + q * st + sz)] := by
  simp [winsL, List.range_succ]
theorem winsL_length (last st sz : Int) (q : Nat) : (winsL last st sz q).length = q := by simp [winsL]
theorem winsL_get (last st sz : Int) {q i : Nat} (h : i < q) : (winsL last st sz q)[i]? = some (last - sz + st + i * st, last - sz + st + i * st + sz) := by simp [winsL, h]
def timeB (t : Int) : Bool := decide (-1099511627776 ≤ t ∧ t ≤ 1099511627776)
theorem timeB_iff {t : Int} : timeB t = true ↔ -1099511627776 ≤ t ∧ t ≤ 1099511627776 := by simp [timeB]
/-- P14.2 -/
def ofL (k s l g t : Int) : List (Int × Int) :=
  if rightB k s l g = true ∧ timeB t = true then
    if k = 3 then [(t, t + g)] else winsL (t - t % stepV k s l) (stepV k s l) s (s / stepV k s l).toNat
  else []
/-- P14.3 -/
def isB (k s l g a b : Int) : Bool :=
  rightB k s l g && decide (-2199023255552 ≤ a ∧ a ≤ 2199023255552 ∧ -4398046511104 ≤ b ∧ b ≤ 4398046511104) &&
    if k = 3 then timeB a && decide (a + g ≤ b) && decide (b ≤ 1099511627776 + g) else decide (b = a + s) && decide (a % stepV k s l = 0) && decide (-1099511627776 < b) && decide (a ≤ 1099511627776)
/-- what right windows have -/
theorem right_facts {k s l g : Int} (h : rightB k s l g = true) : (k = 3 ∧ 1 ≤ g ∧ g ≤ 1048576) ∨
    (k ≠ 3 ∧ 1 ≤ s ∧ s ≤ 1048576 ∧ 1 ≤ stepV k s l ∧ stepV k s l ≤ s ∧ s % stepV k s l = 0 ∧ 1 ≤ s / stepV k s l ∧ s / stepV k s l ≤ 16 ∧ (s / stepV k s l) * stepV k s l = s) := by
  unfold rightB at h
  simp only [Bool.or_eq_true, Bool.and_eq_true, beq_iff_eq, decide_eq_true_eq, numB_iff] at h
  rcases h with (⟨rfl, h1, h2, h3⟩ | ⟨rfl, ⟨⟨⟨h1, h2⟩, h3⟩, h4⟩, h5⟩) | ⟨rfl, ⟨h1, h2⟩, h3⟩
  · right
    have : stepV 1 s l = s := by simp [stepV]
    rw [this]
    have h6 : s / s = 1 := Int.ediv_self (by omega)
    refine ⟨by omega, by omega, by omega, by omega, by omega, by simp, by omega, by omega, by rw [h6]; omega⟩
  · right
    have : stepV 2 s l = l := by simp [stepV]
    rw [this]
    have h7 : s / l * l = s := Int.ediv_mul_cancel (Int.dvd_of_emod_eq_zero h4)
    have h8 : 1 ≤ s / l := by
      rcases Int.lt_or_le (s / l) 1 with h9 | h9
      · have := Int.mul_le_mul_of_nonneg_right (show s / l ≤ 0 by omega) (show 0 ≤ l by omega)
        omega
      · exact h9
    have h9 : l ≤ s := by
      have := Int.mul_le_mul_of_nonneg_right h8 (show 0 ≤ l by omega)
      omega
    exact ⟨by omega, by omega, by omega, by omega, h9, h4, h8, h5, h7⟩
  · left
    exact ⟨rfl, by omega, by omega⟩
/-- P14.4: what spans are together -/
def togS (a y : Int × Int) : Int × Int := (if y.1 < a.1 then y.1 else a.1, if y.2 > a.2 then y.2 else a.2)
def tog : List (Int × Int) → Int × Int
  | [] => (0, 0)
  | x :: xs => xs.foldl togS x
theorem tog_snoc {l : List (Int × Int)} (h : l ≠ []) (y : Int × Int) : tog (l ++ [y]) = togS (tog l) y := by
  cases l with
  | nil => exact absurd rfl h
  | cons x xs => simp [tog]
theorem tog_take {l : List (Int × Int)} {k : Nat} {y : Int × Int} (h : l[k]? = some y) (hk : k ≠ 0) : tog (l.take (k + 1)) = togS (tog (l.take k)) y := by
  rw [List.take_add_one, h]
  refine tog_snoc (fun e => ?_) y
  rcases List.take_eq_nil_iff.1 e with e | e
  · exact hk e
  · subst e; simp at h
theorem tog_first {l : List (Int × Int)} {y : Int × Int} (h : l[0]? = some y) : tog (l.take (0 + 1)) = y := by
  rw [List.take_add_one, h]
  simp [tog]
theorem togS_self (y : Int × Int) : togS y y = y := by simp [togS]
theorem tmod_zero {a b : Int} : (a.tmod b == 0) = decide (a % b = 0) := by
  rw [Bool.eq_iff_iff]
  simp only [beq_iff_eq, decide_eq_true_eq]
  constructor
  · intro h; exact Int.emod_eq_zero_of_dvd (Int.dvd_of_tmod_eq_zero h)
  · intro h; exact Int.tmod_eq_zero_of_dvd (Int.dvd_of_emod_eq_zero h)
theorem is_no {k s l g a b : Int} (h : (!rightB k s l g || decide (a < -2199023255552) || decide (a > 2199023255552) || decide (b < -4398046511104) || decide (b > 4398046511104)) = true) : false = isB k s l g a b := by
  unfold isB
  cases hr : rightB k s l g
  · rfl
  · simp [hr] at h
    have : decide (-2199023255552 ≤ a ∧ a ≤ 2199023255552 ∧ -4398046511104 ≤ b ∧ b ≤ 4398046511104) = false := by simp; omega
    simp [this]
theorem is_yes {k s l g a b : Int} (h : (!rightB k s l g || decide (a < -2199023255552) || decide (a > 2199023255552) || decide (b < -4398046511104) || decide (b > 4398046511104)) = false) :
    rightB k s l g = true ∧ -2199023255552 ≤ a ∧ a ≤ 2199023255552 ∧ -4398046511104 ≤ b ∧ b ≤ 4398046511104 := by
  simp at h
  obtain ⟨⟨⟨⟨h1, h2⟩, h3⟩, h4⟩, h5⟩ := h
  exact ⟨h1, by omega, by omega, by omega, by omega⟩
theorem isB_in {k s l g a b : Int} (h1 : rightB k s l g = true) (h2 : -2199023255552 ≤ a) (h3 : a ≤ 2199023255552) (h4 : -4398046511104 ≤ b) (h5 : b ≤ 4398046511104) :
    isB k s l g a b = if k = 3 then timeB a && decide (a + g ≤ b) && decide (b ≤ 1099511627776 + g) else decide (b = a + s) && decide (a % stepV k s l = 0) && decide (-1099511627776 < b) && decide (a ≤ 1099511627776) := by
  unfold isB
  rw [h1, decide_eq_true (by omega)]
  rfl
end Go.Proofs.YtmochicneilhhaaGreat.win
