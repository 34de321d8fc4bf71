import Derived.Test.YtepogieeaidnfaaRows
import Derived.Test.YtepogieeaidnfaaBase
import Derived.Test.YtepogieeaidnfaaNumP
import Derived.Shelf.Bits.Mul64
namespace Go.Proofs.Ytepogieeaidnfaa.num
open Go.ChangeShapes Go.WideShapes Go.ChangeAt Go.RowKit

/-- what is told of an exact number -/
def Told (n : Int) (w : World) (e : Ending) (w' : World) : Prop := e = .returned (.tuple #[.int .i64 (fitV n), .bool (inI n)]) ∧ w = w'
theorem told_yes {n : Int} (h1 : -9223372036854775808 ≤ n) (h2 : n < 9223372036854775808) (w : World) : Told n w (.returned (.tuple #[.int .i64 n, .bool true])) w := by
  have h := inI_true h1 h2
  unfold Told fitV
  rw [h]
  exact ⟨rfl, rfl⟩
theorem told_no {n : Int} (h : n < -9223372036854775808 ∨ 9223372036854775808 ≤ n) (w : World) : Told n w (.returned (.tuple #[.int .i64 0, .bool false])) w := by
  have h : inI n = false := by
    rw [Bool.eq_false_iff]
    intro h'
    have := inI_iff.1 h'
    omega
  unfold Told fitV
  rw [h]
  exact ⟨rfl, rfl⟩

theorem add_no {a b : Int} (wa : (Lit.int .i64 a).wf = true) (wb : (Lit.int .i64 b).wf = true) (h1 : 0 ≤ a ↔ 0 ≤ b) (h2 : (!decide (0 ≤ wrap64 (a + b)) == decide (0 ≤ b)) = true) (w : World) :
    Told (a + b) w (.returned (.tuple #[.int .i64 0, .bool false])) w := by
  have ha := wf_i64 wa
  have hb := wf_i64 wb
  unfold wrap64 at h2
  simp at h2
  exact told_no (by omega) w
theorem add_yes {a b : Int} (wa : (Lit.int .i64 a).wf = true) (wb : (Lit.int .i64 b).wf = true) (h : ¬(0 ≤ a ↔ 0 ≤ b) ∨ (0 ≤ a ↔ 0 ≤ b) ∧ (!decide (0 ≤ wrap64 (a + b)) == decide (0 ≤ b)) = false) (w : World) :
    Told (a + b) w (.returned (.tuple #[.int .i64 (wrap64 (a + b)), .bool true])) w := by
  have ha := wf_i64 wa
  have hb := wf_i64 wb
  have h1 : -9223372036854775808 ≤ a + b ∧ a + b < 9223372036854775808 := by
    unfold wrap64 at h
    simp at h
    omega
  rw [wrap64_of h1.1 h1.2]
  exact told_yes h1.1 h1.2 w
theorem sub_no {a b : Int} (wa : (Lit.int .i64 a).wf = true) (wb : (Lit.int .i64 b).wf = true) (h1 : ¬(0 ≤ a ↔ 0 ≤ b)) (h2 : (!decide (0 ≤ wrap64 (a - b)) == decide (0 ≤ a)) = true) (w : World) :
    Told (a - b) w (.returned (.tuple #[.int .i64 0, .bool false])) w := by
  have ha := wf_i64 wa
  have hb := wf_i64 wb
  unfold wrap64 at h2
  simp at h2
  exact told_no (by omega) w
theorem sub_yes {a b : Int} (wa : (Lit.int .i64 a).wf = true) (wb : (Lit.int .i64 b).wf = true) (h : (0 ≤ a ↔ 0 ≤ b) ∨ ¬(0 ≤ a ↔ 0 ≤ b) ∧ (!decide (0 ≤ wrap64 (a - b)) == decide (0 ≤ a)) = false) (w : World) :
    Told (a - b) w (.returned (.tuple #[.int .i64 (wrap64 (a - b)), .bool true])) w := by
  have ha := wf_i64 wa
  have hb := wf_i64 wb
  have h1 : -9223372036854775808 ≤ a - b ∧ a - b < 9223372036854775808 := by
    unfold wrap64 at h
    simp at h
    omega
  rw [wrap64_of h1.1 h1.2]
  exact told_yes h1.1 h1.2 w

theorem add_any (a b : Int) (w : World) (wa : (Lit.int .i64 a).wf = true) (wb : (Lit.int .i64 b).wf = true) :
    Calls Try.prog 50 #[.int .i64 a, .int .i64 b] w (Told (a + b) w) := by
  go_enter Try.func50, Try.ntmps50
  go_wp2
  · go_ret2
    exact add_no wa wb (by assumption) (by assumption) w
  · go_ret2
    exact add_yes wa wb (.inr ⟨by assumption, by assumption⟩) w
  · go_ret2
    exact add_yes wa wb (.inl (by assumption)) w


theorem sub_any (a b : Int) (w : World) (wa : (Lit.int .i64 a).wf = true) (wb : (Lit.int .i64 b).wf = true) :
    Calls Try.prog 51 #[.int .i64 a, .int .i64 b] w (Told (a - b) w) := by
  go_enter Try.func51, Try.ntmps51
  go_wp2
  · go_ret2
    exact sub_yes wa wb (.inl (by assumption)) w
  · go_ret2
    have h : (!decide (0 ≤ a) == decide (0 ≤ b)) = true ∧ (!decide (0 ≤ wrap64 (a - b)) == decide (0 ≤ a)) = true := by assumption
    exact sub_no wa wb (by assumption) h.2 w
  · go_ret2
    have h : (!decide (0 ≤ a) == decide (0 ≤ b)) = false ∨ (!decide (0 ≤ wrap64 (a - b)) == decide (0 ≤ a)) = false := by assumption
    have h' : ¬(0 ≤ a ↔ 0 ≤ b) := by assumption
    refine sub_yes wa wb (.inr ⟨h', h.resolve_left ?_⟩) w
    intro hc
    exact h' (by simpa using hc)

def absV (a : Int) : Int := if a < 0 then -a else a
theorem abs_min (w : World) {a : Int} (h : (a == -9223372036854775808) = true) : Told (absV a) w (.returned (.tuple #[.int .i64 0, .bool false])) w := by
  have : a = -9223372036854775808 := by simpa using h
  subst this
  exact told_no (by decide) w
theorem abs_else (w : World) {a r : Int} (wa : (Lit.int .i64 a).wf = true) (h : (a == -9223372036854775808) = false) (hr : r = absV a) : Told (absV a) w (.returned (.tuple #[.int .i64 r, .bool true])) w := by
  have h0 := wf_i64 wa
  have : a ≠ -9223372036854775808 := by simpa using h
  have hb : -9223372036854775808 ≤ r ∧ r < 9223372036854775808 := by rw [hr]; unfold absV; split <;> omega
  rw [← hr]
  exact told_yes hb.1 hb.2 w
theorem neg_abs {a : Int} (wa : (Lit.int .i64 a).wf = true) (h : (a == -9223372036854775808) = false) (hl : a < wrap64 (-a)) : wrap64 (-a) = absV a := by
  have h0 := wf_i64 wa
  have : a ≠ -9223372036854775808 := by simpa using h
  have e : wrap64 (-a) = -a := wrap64_of (by omega) (by omega)
  rw [e] at hl ⊢
  unfold absV
  rw [if_pos (by omega)]
theorem pos_abs {a : Int} (wa : (Lit.int .i64 a).wf = true) (h : (a == -9223372036854775808) = false) (hl : wrap64 (-a) ≤ a) : a = absV a := by
  have h0 := wf_i64 wa
  have : a ≠ -9223372036854775808 := by simpa using h
  have e : wrap64 (-a) = -a := wrap64_of (by omega) (by omega)
  rw [e] at hl
  unfold absV
  rw [if_neg (by omega)]
theorem abs_any (a : Int) (w : World) (wa : (Lit.int .i64 a).wf = true) :
    Calls Try.prog 57 #[.int .i64 a] w (Told (absV a) w) := by
  go_enter Try.func57, Try.ntmps57
  go_wp2
  · go_ret2
    exact abs_min w (by assumption)
  · go_ret2
    exact abs_else w wa (by assumption) (neg_abs wa (by assumption) (by assumption))
  · go_ret2
    exact abs_else w wa (by assumption) (pos_abs wa (by assumption) (by assumption))

/-- a number's size, as an unsigned number -/
theorem size_any (a : Int) (w : World) (wa : (Lit.int .i64 a).wf = true) :
    Calls Try.prog 80 #[.int .i64 a] w fun e w' => e = .returned (.int .u64 (a.natAbs : Nat)) ∧ w = w' := by
  have h0 := wf_i64 wa
  have HN : Hid (a < 0 → IntKind.u64.wrap (-IntKind.u64.wrap a) = ((a.natAbs : Nat) : Int)) := keep (by
    intro h
    simp only [IntKind.wrap_u64]
    omega)
  have HP : Hid (0 ≤ a → IntKind.u64.wrap a = ((a.natAbs : Nat) : Int)) := keep (by
    intro h
    simp only [IntKind.wrap_u64]
    omega)
  clear h0
  go_enter Try.func80, Try.ntmps80
  go_wp2
  · go_ret
    exact ⟨ret_int (HN.out (by assumption)), rfl⟩
  · go_ret
    exact ⟨ret_int (HP.out (by assumption)), rfl⟩

def clampV (a b c : Int) : Int := if (if c < a then c else a) < b then b else if c < a then c else a
theorem clamp_any (a b c : Int) (w : World) :
    Calls Try.prog 59 #[.int .i64 a, .int .i64 b, .int .i64 c] w fun e w' => e = .returned (.int .i64 (clampV a b c)) ∧ w = w' := by
  by_cases h1 : c < a
  · by_cases h2 : c < b
    all_goals
      go_enter Try.func59, Try.ntmps59
      go_wp2
      all_goals go_ret
      all_goals exact ⟨ret_int (by simp only [clampV]; split <;> (try split) <;> omega), rfl⟩
  · by_cases h2 : a < b
    all_goals
      go_enter Try.func59, Try.ntmps59
      go_wp2
      all_goals go_ret
      all_goals exact ⟨ret_int (by simp only [clampV]; split <;> (try split) <;> omega), rfl⟩

theorem mul64_any (x y : Nat) (hx : x < 18446744073709551616) (hy : y < 18446744073709551616) (w : World) :
    Calls Try.prog 79 #[.int .u64 x, .int .u64 y] w fun e w' => e = .returned (.tuple #[.int .u64 ((x * y / 18446744073709551616 : Nat) : Int), .int .u64 ((x * y % 18446744073709551616 : Nat) : Int)]) ∧ w = w' := by
  obtain ⟨bd, bt, bw, hhi⟩ := Lib.mul64_hi x y hx hy
  have ba := Lib.half_mul_le (a := x / 4294967296) (b := y / 4294967296) (by omega) (by omega)
  have bb := Lib.half_mul_le (a := x / 4294967296) (b := y % 4294967296) (by omega) (by omega)
  have bc := Lib.half_mul_le (a := x % 4294967296) (b := y / 4294967296) (by omega) (by omega)
  have ba' : x / 4294967296 * (y / 4294967296) < 18446744073709551616 := by omega
  have bb' : x / 4294967296 * (y % 4294967296) < 18446744073709551616 := by omega
  have bc' : x % 4294967296 * (y / 4294967296) < 18446744073709551616 := by omega
  have bh1 : x / 4294967296 * (y / 4294967296) + (x / 4294967296 * (y % 4294967296) + x % 4294967296 * (y % 4294967296) / 4294967296) / 4294967296 < 18446744073709551616 := by omega
  have bh : x / 4294967296 * (y / 4294967296) + (x / 4294967296 * (y % 4294967296) + x % 4294967296 * (y % 4294967296) / 4294967296) / 4294967296 + ((x / 4294967296 * (y % 4294967296) + x % 4294967296 * (y % 4294967296) / 4294967296) % 4294967296 + x % 4294967296 * (y / 4294967296)) / 4294967296 < 18446744073709551616 := by omega
  go_enter Try.func79, Try.ntmps79
  go_wp2
  simp only [Mul64.maskN x hx, Mul64.maskN y hy, Mul64.divN, Mul64.mulN, Mul64.addN, Mul64.wrapN _ bd, Mul64.wrapN _ bb', Mul64.wrapN _ bt, Mul64.maskN _ bt, Mul64.wrapN _ bc', Mul64.wrapN _ bw, Mul64.wrapN _ ba', Mul64.wrapN _ bh1, Mul64.wrapN _ bh, Mul64.wrapM (x * y)]
  rw [hhi]
  go_ret2
  exact ⟨rfl, rfl⟩

theorem mul_same {a b : Int} (h : a < 0 ↔ b < 0) : a * b = (a.natAbs : Int) * (b.natAbs : Int) := by
  by_cases ha : a < 0
  · have hb := h.1 ha
    have e1 : (a.natAbs : Int) = -a := by omega
    have e2 : (b.natAbs : Int) = -b := by omega
    rw [e1, e2, Int.neg_mul_neg]
  · have hb : ¬ b < 0 := fun x => ha (h.2 x)
    have e1 : (a.natAbs : Int) = a := by omega
    have e2 : (b.natAbs : Int) = b := by omega
    rw [e1, e2]
theorem mul_other {a b : Int} (h : ¬(a < 0 ↔ b < 0)) : a * b = -((a.natAbs : Int) * (b.natAbs : Int)) := by
  by_cases ha : a < 0
  · have hb : ¬ b < 0 := fun x => h ⟨fun _ => x, fun _ => ha⟩
    have e1 : (a.natAbs : Int) = -a := by omega
    have e2 : (b.natAbs : Int) = b := by omega
    rw [e1, e2, Int.neg_mul, Int.neg_neg]
  · have hb : b < 0 := by
      by_cases hb : b < 0
      · exact hb
      · exact absurd ⟨fun x => absurd x ha, fun x => absurd x hb⟩ h
    have e1 : (a.natAbs : Int) = a := by omega
    have e2 : (b.natAbs : Int) = -b := by omega
    rw [e1, e2, Int.mul_neg, Int.neg_neg]
theorem prod_nonneg (a b : Int) : 0 ≤ (a.natAbs : Int) * (b.natAbs : Int) := Int.mul_nonneg (by omega) (by omega)
theorem prod_or (a b : Int) : a * b = (a.natAbs : Int) * (b.natAbs : Int) ∨ a * b = -((a.natAbs : Int) * (b.natAbs : Int)) := by
  by_cases h : a < 0 ↔ b < 0
  · exact .inl (mul_same h)
  · exact .inr (mul_other h)
theorem mul_big {a b : Int} (h : ((a.natAbs : Int) * (b.natAbs : Int) / 18446744073709551616 != 0) = true) (w : World) : Told (a * b) w (.returned (.tuple #[.int .i64 0, .bool false])) w := by
  have h0 := prod_nonneg a b
  have h2 : (a.natAbs : Int) * (b.natAbs : Int) / 18446744073709551616 ≠ 0 := by simpa using h
  generalize hx : (a.natAbs : Int) * (b.natAbs : Int) = p at *
  refine told_no ?_ w
  rcases prod_or a b with h1 | h1 <;> rw [h1, hx] <;> omega
theorem mul_up {a b : Int} (h : ((a.natAbs : Int) * (b.natAbs : Int) / 18446744073709551616 != 0) = false) (hs : a < 0 ↔ b < 0) (hl : (a.natAbs : Int) * (b.natAbs : Int) % 18446744073709551616 ≤ 9223372036854775807) (w : World) :
    Told (a * b) w (.returned (.tuple #[.int .i64 ((a.natAbs : Int) * (b.natAbs : Int) % 18446744073709551616), .bool true])) w := by
  have h0 := prod_nonneg a b
  have h2 : (a.natAbs : Int) * (b.natAbs : Int) / 18446744073709551616 = 0 := by simpa using h
  rw [mul_same hs]
  generalize hx : (a.natAbs : Int) * (b.natAbs : Int) = p at *
  have e : p % 18446744073709551616 = p := by omega
  rw [e] at hl ⊢
  exact told_yes (by omega) (by omega) w
theorem mul_over {a b : Int} (h : ((a.natAbs : Int) * (b.natAbs : Int) / 18446744073709551616 != 0) = false) (hs : a < 0 ↔ b < 0) (hl : 9223372036854775807 < (a.natAbs : Int) * (b.natAbs : Int) % 18446744073709551616) (w : World) :
    Told (a * b) w (.returned (.tuple #[.int .i64 0, .bool false])) w := by
  have h0 := prod_nonneg a b
  have h2 : (a.natAbs : Int) * (b.natAbs : Int) / 18446744073709551616 = 0 := by simpa using h
  rw [mul_same hs]
  generalize hx : (a.natAbs : Int) * (b.natAbs : Int) = p at *
  exact told_no (by omega) w
theorem mul_down {a b : Int} (h : ((a.natAbs : Int) * (b.natAbs : Int) / 18446744073709551616 != 0) = false) (hs : ¬(a < 0 ↔ b < 0)) (hl : (a.natAbs : Int) * (b.natAbs : Int) % 18446744073709551616 ≤ 9223372036854775808) (w : World) :
    Told (a * b) w (.returned (.tuple #[.int .i64 (wrap64 (IntKind.u64.wrap (-((a.natAbs : Int) * (b.natAbs : Int) % 18446744073709551616)))), .bool true])) w := by
  have h0 := prod_nonneg a b
  have h2 : (a.natAbs : Int) * (b.natAbs : Int) / 18446744073709551616 = 0 := by simpa using h
  rw [mul_other hs]
  generalize hx : (a.natAbs : Int) * (b.natAbs : Int) = p at *
  have e : wrap64 (IntKind.u64.wrap (-(p % 18446744073709551616))) = -p := by
    rw [IntKind.wrap_u64]
    unfold wrap64
    omega
  rw [e]
  exact told_yes (by omega) (by omega) w
theorem mul_under {a b : Int} (h : ((a.natAbs : Int) * (b.natAbs : Int) / 18446744073709551616 != 0) = false) (hs : ¬(a < 0 ↔ b < 0)) (hl : 9223372036854775808 < (a.natAbs : Int) * (b.natAbs : Int) % 18446744073709551616) (w : World) :
    Told (a * b) w (.returned (.tuple #[.int .i64 0, .bool false])) w := by
  have h0 := prod_nonneg a b
  have h2 : (a.natAbs : Int) * (b.natAbs : Int) / 18446744073709551616 = 0 := by simpa using h
  rw [mul_other hs]
  generalize hx : (a.natAbs : Int) * (b.natAbs : Int) = p at *
  exact told_no (by omega) w

theorem mul_any (a b : Int) (w : World) (wa : (Lit.int .i64 a).wf = true) (wb : (Lit.int .i64 b).wf = true) :
    Calls Try.prog 53 #[.int .i64 a, .int .i64 b] w (Told (a * b) w) := by
  go_enter Try.func53, Try.ntmps53
  go_wp2_with fail
  refine (size_any a _ wa).mono ?_
  rintro e w' ⟨rfl, rfl⟩
  go_wp2_with fail
  refine (size_any b _ wb).mono ?_
  rintro e w' ⟨rfl, rfl⟩
  go_wp2_with fail
  refine (mul64_any _ _ ?_ ?_ _).mono ?_
  · have := wf_i64 wa; omega
  · have := wf_i64 wb; omega
  rintro e w' ⟨rfl, rfl⟩
  go_wp2_with fail
  · go_ret2
    exact mul_big (by assumption) w
  · go_ret2
    exact mul_up (by assumption) (by assumption) (by assumption) w
  · go_ret2
    exact mul_over (by assumption) (by assumption) (by assumption) w
  · go_ret2
    have h : (!decide (a < 0) == decide (b < 0)) = true ∧ (a.natAbs : Int) * (b.natAbs : Int) % 18446744073709551616 ≤ 9223372036854775808 := by assumption
    exact mul_down (by assumption) (by assumption) h.2 w
  · go_ret2
    have h : (!decide (a < 0) == decide (b < 0)) = false ∨ 9223372036854775808 < (a.natAbs : Int) * (b.natAbs : Int) % 18446744073709551616 := by assumption
    have h' : ¬(a < 0 ↔ b < 0) := by assumption
    refine mul_under (by assumption) h' (h.resolve_left fun hc => h' ?_) w
    simpa using hc

theorem fm_pos {n d : Int} (hd : 0 < d) (h : 0 ≤ n.tmod d) : n.tmod d = n % d := by
  have h1 := Int.tmod_eq_emod (a := n) (b := d)
  have h2 := Int.emod_nonneg n (b := d) (by omega)
  have h3 := Int.emod_lt_of_pos n hd
  split at h1 <;> omega
theorem fm_neg {n d : Int} (wd : (Lit.int .i64 d).wf = true) (hd : 0 < d) (h : n.tmod d < 0) : wrap64 (n.tmod d + d) = n % d := by
  have h0 := wf_i64 wd
  have h1 := Int.tmod_eq_emod (a := n) (b := d)
  have h2 := Int.emod_nonneg n (b := d) (by omega)
  have h3 := Int.emod_lt_of_pos n hd
  rw [wrap64_of (by split at h1 <;> omega) (by split at h1 <;> omega)]
  split at h1 <;> omega
theorem floorMod_no (n d : Int) (w : World) (hd : d ≤ 0) :
    Calls Try.prog 46 #[.int .i64 n, .int .i64 d] w fun e w' => e = .returned (.tuple #[.int .i64 0, .int .i64 2]) ∧ w = w' := by
  go_enter Try.func46, Try.ntmps46
  go_wp2
  go_ret2
  exact ⟨rfl, rfl⟩
theorem floorMod_any (n d : Int) (w : World) (wd : (Lit.int .i64 d).wf = true) (hd : 0 < d) :
    Calls Try.prog 46 #[.int .i64 n, .int .i64 d] w fun e w' => e = .returned (.tuple #[.int .i64 (n % d), .int .i64 0]) ∧ w = w' := by
  go_enter Try.func46, Try.ntmps46
  go_wp2
  · go_ret2
    exact ⟨ret_tuple2 (congrArg _ (fm_neg wd hd (by assumption))) rfl, rfl⟩
  · go_ret2
    exact ⟨ret_tuple2 (congrArg _ (fm_pos hd (by assumption))) rfl, rfl⟩
theorem ediv_bd {n d : Int} (wn : (Lit.int .i64 n).wf = true) (hd : 0 < d) : -9223372036854775808 ≤ n / d ∧ n / d < 9223372036854775808 := by
  have h0 := wf_i64 wn
  have hm := Int.emod_add_mul_ediv n d
  have h2 := Int.emod_nonneg n (b := d) (by omega)
  have h3 := Int.emod_lt_of_pos n hd
  by_cases hn : 0 ≤ n
  · have := Int.ediv_nonneg hn (by omega : 0 ≤ d)
    have := Int.ediv_le_self d hn
    omega
  · have h4 : n / d < 0 := Int.ediv_neg_of_neg_of_pos (by omega) hd
    have h5 : n ≤ n / d := by
      have := Int.mul_le_mul_of_nonneg_left (show (1 : Int) ≤ -(n / d) by omega) (show 0 ≤ d - 1 by omega)
      simp only [Int.mul_neg, Int.mul_one, Int.sub_mul, Int.one_mul] at this
      omega
    omega
theorem tdiv_bd {n d : Int} (wn : (Lit.int .i64 n).wf = true) (hd : 0 < d) : -9223372036854775808 ≤ n.tdiv d ∧ n.tdiv d < 9223372036854775808 := by
  have h0 := wf_i64 wn
  have h1 := Int.tdiv_eq_ediv (a := n) (b := d)
  have h2 := ediv_bd wn hd
  have hs : d.sign = 1 := Int.sign_eq_one_of_pos hd
  rw [hs] at h1
  by_cases hn : 0 ≤ n
  · rw [if_pos (.inl hn)] at h1
    omega
  · have h4 : n / d < 0 := Int.ediv_neg_of_neg_of_pos (by omega) hd
    split at h1 <;> omega
theorem fd_plain {n d : Int} (wn : (Lit.int .i64 n).wf = true) (hd : 0 < d) (h : n % d = 0 ∨ 0 ≤ n) : wrap64 (n.tdiv d) = n / d := by
  have h1 := Int.tdiv_eq_ediv (a := n) (b := d)
  have h2 := tdiv_bd wn hd
  rw [wrap64_of h2.1 h2.2, h1, if_pos]
  · omega
  · rcases h with h | h
    · exact .inr (Int.dvd_of_emod_eq_zero h)
    · exact .inl h
theorem fd_less {n d : Int} (wn : (Lit.int .i64 n).wf = true) (hd : 0 < d) (h : n % d ≠ 0) (hn : n < 0) : wrap64 (wrap64 (n.tdiv d) - 1) = n / d := by
  have h1 := Int.tdiv_eq_ediv (a := n) (b := d)
  have h2 := tdiv_bd wn hd
  have h3 := ediv_bd wn hd
  have hs : d.sign = 1 := Int.sign_eq_one_of_pos hd
  rw [if_neg (by rintro (h' | h'); (· omega); exact h (Int.emod_eq_zero_of_dvd h')), hs] at h1
  rw [wrap64_of h2.1 h2.2, wrap64_of (by omega) (by omega)]
  omega
theorem floorDiv_no (n d : Int) (w : World) (hd : d ≤ 0) :
    Calls Try.prog 44 #[.int .i64 n, .int .i64 d] w fun e w' => e = .returned (.tuple #[.int .i64 0, .int .i64 2]) ∧ w = w' := by
  go_enter Try.func44, Try.ntmps44
  go_wp2
  go_ret2
  exact ⟨rfl, rfl⟩
theorem floorDiv_any (n d : Int) (w : World) (wn : (Lit.int .i64 n).wf = true) (wd : (Lit.int .i64 d).wf = true) (hd : 0 < d) :
    Calls Try.prog 44 #[.int .i64 n, .int .i64 d] w fun e w' => e = .returned (.tuple #[.int .i64 (n / d), .int .i64 0]) ∧ w = w' := by
  by_cases h : n % d = 0
  · have hb : (n % d != 0) = false := by simp [h]
    have hz := keep h
    clear h
    go_enter Try.func44, Try.ntmps44
    go_wp2_with (go_at_call 46; refine (floorMod_any _ _ _ wd hd).mono ?_; rintro e w' ⟨rfl, rfl⟩)
    go_ret2
    exact ⟨ret_tuple2 (congrArg _ (fd_plain wn hd (.inl hz.out))) rfl, rfl⟩
  · have hb : (n % d != 0) = true := by simp [h]
    have hz := keep h
    clear h
    by_cases hn : n < 0
    · go_enter Try.func44, Try.ntmps44
      go_wp2_with (go_at_call 46; refine (floorMod_any _ _ _ wd hd).mono ?_; rintro e w' ⟨rfl, rfl⟩)
      go_ret2
      exact ⟨ret_tuple2 (congrArg _ (fd_less wn hd hz.out hn)) rfl, rfl⟩
    · go_enter Try.func44, Try.ntmps44
      go_wp2_with (go_at_call 46; refine (floorMod_any _ _ _ wd hd).mono ?_; rintro e w' ⟨rfl, rfl⟩)
      go_ret2
      exact ⟨ret_tuple2 (congrArg _ (fd_plain wn hd (.inr (by omega)))) rfl, rfl⟩

/-- the greatest multiple of d that is at most n -/
def downV (n d : Int) : Int := n - n % d
theorem down_no (n d : Int) (w : World) (hd : d ≤ 0) :
    Calls Try.prog 48 #[.int .i64 n, .int .i64 d] w fun e w' => e = .returned (.tuple #[.int .i64 0, .int .i64 2]) ∧ w = w' := by
  go_enter Try.func48, Try.ntmps48
  go_wp2_with (go_at_call 46; refine (floorMod_no _ _ _ hd).mono ?_; rintro e w' ⟨rfl, rfl⟩)
  go_ret2
  exact ⟨rfl, rfl⟩
theorem wf_mod {n d : Int} (wd : (Lit.int .i64 d).wf = true) (hd : 0 < d) : (Lit.int .i64 (n % d)).wf = true := by
  have h0 := wf_i64 wd
  have h2 := Int.emod_nonneg n (b := d) (by omega)
  have h3 := Int.emod_lt_of_pos n hd
  exact wf_of (by omega) (by omega)
theorem down_yes (n d : Int) (w : World) (wn : (Lit.int .i64 n).wf = true) (wd : (Lit.int .i64 d).wf = true) (hd : 0 < d) (hI : inI (downV n d) = true) :
    Calls Try.prog 48 #[.int .i64 n, .int .i64 d] w fun e w' => e = .returned (.tuple #[.int .i64 (downV n d), .int .i64 0]) ∧ w = w' := by
  have hm := wf_mod (n := n) wd hd
  have hf : fitV (n - n % d) = downV n d := by unfold fitV; rw [show n - n % d = downV n d from rfl, hI]; rfl
  have hI' : inI (n - n % d) = true := hI
  have hs := sub_any n (n % d) w wn hm
  unfold Told at hs
  rw [hf, hI'] at hs
  have hs := Lib.hid hs
  clear hf hI hI'
  go_enter Try.func48, Try.ntmps48
  go_wp2_with fail
  refine (floorMod_any _ _ _ wd hd).mono ?_
  rintro e w' ⟨rfl, rfl⟩
  go_wp2_with fail
  refine hs.out.mono ?_
  rintro e w' ⟨rfl, rfl⟩
  go_wp2_with fail
  go_ret2
  exact ⟨rfl, rfl⟩
theorem down_over (n d : Int) (w : World) (wn : (Lit.int .i64 n).wf = true) (wd : (Lit.int .i64 d).wf = true) (hd : 0 < d) (hI : inI (downV n d) = false) :
    Calls Try.prog 48 #[.int .i64 n, .int .i64 d] w fun e w' => e = .returned (.tuple #[.int .i64 0, .int .i64 30]) ∧ w = w' := by
  have hm := wf_mod (n := n) wd hd
  have hI' : inI (n - n % d) = false := hI
  have hs := sub_any n (n % d) w wn hm
  unfold Told at hs
  rw [hI'] at hs
  have hs := Lib.hid hs
  clear hI hI'
  go_enter Try.func48, Try.ntmps48
  go_wp2_with fail
  refine (floorMod_any _ _ _ wd hd).mono ?_
  rintro e w' ⟨rfl, rfl⟩
  go_wp2_with fail
  refine hs.out.mono ?_
  rintro e w' ⟨rfl, rfl⟩
  go_wp2_with fail
  go_ret2
  exact ⟨rfl, rfl⟩
end Go.Proofs.Ytepogieeaidnfaa.num
