import Derived.Test.YtepogieeaidnfaaRows
import Derived.Test.YtepogieeaidnfaaBase
import Derived.Test.YtepogieeaidnfaaSum
/- The reference's Abs, FloorMod, FloorDiv, Down, Clamp; the chapter's examples ('works'). -/
namespace Go.Proofs.Ytepogieeaidnfaa.num
open Go.ChangeShapes Go.WideShapes Go.ChangeAt Go.RowKit

theorem toldB_pos {n : Int} (wn : (Lit.int .i64 n).wf = true) {w w' : World} (hb : Below w.heap.size w w') : ToldB n w (.returned (.tuple #[.int .i64 n, .bool true])) w' := by
  have h := wf_i64 wn
  have h2 := toldB_yes (inI_true h.1 h.2) hb
  rwa [wrap64_of h.1 h.2] at h2
theorem refAbs_any (a : Int) (w : World) (wa : (Lit.int .i64 a).wf = true) :
    Calls Try.prog 58 #[.int .i64 a] w (ToldB (absV a) w) := by
  by_cases h : a < 0
  · have e : Hid (0 - a = absV a) := keep (by unfold absV; rw [if_pos h]; omega)
    have h0 : (Lit.int .i64 0).wf = true := rfl
    go_enter Try.func58, Try.ntmps58
    go_wp2_with fail
    refine (refSub_any 0 a _ h0 wa).mono ?_
    rw [e.out]
    rintro e w1 ⟨rfl, hb⟩
    go_wp2_with fail
    go_ret2
    exact ⟨rfl, hb⟩
  · have e : Hid (absV a = a) := keep (by unfold absV; rw [if_neg h])
    go_enter Try.func58, Try.ntmps58
    go_wp2_with fail
    go_ret2
    rw [e.out]
    exact toldB_pos wa (Below.refl _ _)

theorem modV_neg {n d : Int} (hd : 0 < d) : d - 1 - (-(n + 1)) % d = n % d ∧ -1 - (-(n + 1)) / d = n / d := by
  have h1 := Int.emod_add_mul_ediv (-(n + 1)) d
  have h2 := Int.emod_nonneg (-(n + 1)) (b := d) (by omega)
  have h3 := Int.emod_lt_of_pos (-(n + 1)) hd
  have h := (Int.ediv_emod_unique (a := n) (b := d) (r := d - 1 - (-(n + 1)) % d) (q := -1 - (-(n + 1)) / d) hd).2 ⟨?_, by omega, by omega⟩
  · exact ⟨h.2.symm, h.1.symm⟩
  · simp only [Int.mul_sub, Int.mul_neg, Int.mul_one]
    omega
theorem refFloorMod_no (n d : Int) (w : World) (hd : d ≤ 0) :
    Calls Try.prog 47 #[.int .i64 n, .int .i64 d] w fun e w' => e = .returned (.tuple #[.int .i64 0, .int .i64 2]) ∧ w = w' := by
  go_enter Try.func47, Try.ntmps47
  go_wp2
  go_ret2
  exact ⟨rfl, rfl⟩
theorem tmod_up {n d : Int} (_hd : 0 < d) (hn : n < 0) : (n + 1).tmod d = -((-(n + 1)) % d) := by
  have h1 : (-(n + 1)).tmod d = -((n + 1).tmod d) := Int.neg_tmod _ _
  have h2 := Int.tmod_eq_emod_of_nonneg (a := -(n + 1)) (b := d) (by omega)
  omega
theorem tdiv_up {n d : Int} (_hd : 0 < d) (hn : n < 0) : (n + 1).tdiv d = -((-(n + 1)) / d) := by
  have h1 : (-(n + 1)).tdiv d = -((n + 1).tdiv d) := Int.neg_tdiv _ _
  have h2 := Int.tdiv_eq_ediv_of_nonneg (a := -(n + 1)) (b := d) (by omega)
  omega
theorem rm_neg {n d : Int} (wd : (Lit.int .i64 d).wf = true) (hd : 0 < d) (hn : n < 0) : wrap64 (wrap64 (d - 1) + (n + 1).tmod d) = n % d := by
  have hm1 := Int.emod_nonneg (-(n + 1)) (b := d) (by omega)
  have hm2 := Int.emod_lt_of_pos (-(n + 1)) hd
  have hwd := wf_i64 wd
  have E := (modV_neg (n := n) hd).1
  rw [tmod_up hd hn, wrap64_of (n := d - 1) (by omega) (by omega), wrap64_of (by omega) (by omega)]
  omega
theorem rd_neg {n d : Int} (wn : (Lit.int .i64 n).wf = true) (hd : 0 < d) (hn : n < 0) : wrap64 (-1 - wrap64 (-(n + 1).tdiv d)) = n / d := by
  have hb := ediv_bd wn hd
  have E := (modV_neg (n := n) hd).2
  have e := tdiv_up hd hn
  have hn' := wf_i64 wn
  have h4 : 0 ≤ (-(n + 1)) / d := Int.ediv_nonneg (by omega) (by omega)
  rw [wrap64_of (n := -(n + 1).tdiv d) (by omega) (by omega), wrap64_of (by omega) (by omega)]
  omega
theorem refFloorMod_any (n d : Int) (w : World) (wn : (Lit.int .i64 n).wf = true) (wd : (Lit.int .i64 d).wf = true) (hd : 0 < d) :
    Calls Try.prog 47 #[.int .i64 n, .int .i64 d] w fun e w' => e = .returned (.tuple #[.int .i64 (n % d), .int .i64 0]) ∧ w = w' := by
  by_cases h : 0 ≤ n
  · go_enter Try.func47, Try.ntmps47
    go_wp2
    go_ret2
    exact ⟨rfl, rfl⟩
  · have hb := wf_i64 wn
    have b1 : -9223372036854775808 ≤ n := hb.1
    have E := keep (rm_neg wd hd (show n < 0 by omega))
    clear hb
    go_enter Try.func47, Try.ntmps47
    go_wp2
    go_ret2
    exact ⟨ret_tuple2 (congrArg (Value.int .i64) E.out) rfl, rfl⟩
theorem refFloorDiv_no (n d : Int) (w : World) (hd : d ≤ 0) :
    Calls Try.prog 45 #[.int .i64 n, .int .i64 d] w fun e w' => e = .returned (.tuple #[.int .i64 0, .int .i64 2]) ∧ w = w' := by
  go_enter Try.func45, Try.ntmps45
  go_wp2
  go_ret2
  exact ⟨rfl, rfl⟩
theorem refFloorDiv_any (n d : Int) (w : World) (wn : (Lit.int .i64 n).wf = true) (_wd : (Lit.int .i64 d).wf = true) (hd : 0 < d) :
    Calls Try.prog 45 #[.int .i64 n, .int .i64 d] w fun e w' => e = .returned (.tuple #[.int .i64 (n / d), .int .i64 0]) ∧ w = w' := by
  by_cases h : 0 ≤ n
  · go_enter Try.func45, Try.ntmps45
    go_wp2
    go_ret2
    exact ⟨ret_tuple2 (congrArg (Value.int .i64) (fd_plain wn hd (.inr h))) rfl, rfl⟩
  · have hb := wf_i64 wn
    have b1 : -9223372036854775808 ≤ n := hb.1
    have E := keep (rd_neg wn hd (show n < 0 by omega))
    clear hb
    go_enter Try.func45, Try.ntmps45
    go_wp2
    go_ret2
    exact ⟨ret_tuple2 (congrArg (Value.int .i64) E.out) rfl, rfl⟩

theorem down_mul (n d : Int) : n / d * d = downV n d := by
  have h := Int.emod_add_mul_ediv n d
  unfold downV
  rw [Int.mul_comm]
  omega
theorem wf_div {n d : Int} (wn : (Lit.int .i64 n).wf = true) (hd : 0 < d) : (Lit.int .i64 (n / d)).wf = true := by
  have h := ediv_bd wn hd
  exact wf_of h.1 h.2
theorem refDown_no (n d : Int) (w : World) (hd : d ≤ 0) :
    Calls Try.prog 49 #[.int .i64 n, .int .i64 d] w fun e w' => e = .returned (.tuple #[.int .i64 0, .int .i64 2]) ∧ Below w.heap.size w w' := by
  go_enter Try.func49, Try.ntmps49
  go_wp2_with fail
  refine (refFloorDiv_no n d _ hd).mono ?_
  rintro e w1 ⟨rfl, rfl⟩
  go_wp2_with fail
  go_ret2
  exact ⟨rfl, Below.refl _ _⟩
theorem refDown_any (n d : Int) (w : World) (wn : (Lit.int .i64 n).wf = true) (wd : (Lit.int .i64 d).wf = true) (hd : 0 < d) :
    Calls Try.prog 49 #[.int .i64 n, .int .i64 d] w fun e w' => e = .returned (.tuple #[.int .i64 (fitV (downV n d)), .int .i64 (if inI (downV n d) then 0 else 30)]) ∧ Below w.heap.size w w' := by
  have em := keep (down_mul n d)
  have F := keep (show fitV (downV n d) = (if inI (downV n d) then downV n d else 0) from rfl)
  cases hi : inI (downV n d)
  all_goals
    have hi' := keep hi
    clear hi
    go_enter Try.func49, Try.ntmps49
    go_wp2_with fail
    refine (refFloorDiv_any n d _ wn wd hd).mono ?_
    rintro e w1 ⟨rfl, rfl⟩
    go_wp2_with fail
    refine (refMul_any (n / d) d _ (wf_div wn hd) wd).mono ?_
    rw [em.out]
    unfold ToldB fitV
    rw [hi'.out]
    rintro e w1 ⟨rfl, hb⟩
    go_wp2_with fail
    go_ret2
    exact ⟨by rw [F.out, hi'.out]; rfl, hb⟩

theorem refClamp_any (a b c : Int) (w : World) :
    Calls Try.prog 60 #[.int .i64 a, .int .i64 b, .int .i64 c] w fun e w' => e = .returned (.int .i64 (clampV a b c)) ∧ w = w' := by
  by_cases h1 : c < a
  · by_cases h2 : c < b
    all_goals
      go_enter Try.func60, Try.ntmps60
      go_wp2
      all_goals go_ret
      all_goals exact ⟨ret_int (by simp only [clampV]; split <;> (try split) <;> omega), rfl⟩
  · by_cases h2 : a < b
    all_goals
      go_enter Try.func60, Try.ntmps60
      go_wp2
      all_goals go_ret
      all_goals exact ⟨ret_int (by simp only [clampV]; split <;> (try split) <;> omega), rfl⟩

def Yes (w : World) (e : Ending) (w' : World) : Prop := e = .returned (.bool true) ∧ Below w.heap.size w w'
theorem told_lit {n m : Int} {ok : Bool} (h : fitV n = m ∧ inI n = ok) {w w' : World} {e : Ending} (ht : Told n w e w') : e = .returned (.tuple #[.int .i64 m, .bool ok]) ∧ w = w' := by
  rw [← h.1, ← h.2]
  exact ht
theorem sumEnd_lit {n m er : Int} (h : fitV n = m ∧ ovErr n = er) {B : Nat} {w w' : World} {e : Ending} (ht : SumEnd n B w e w') : e = .returned (.tuple #[.int .i64 m, .int .i64 er]) ∧ Below B w w' := by
  rw [← h.1, ← h.2]
  exact ht
set_option maxHeartbeats 400000 in
theorem works_any (w : World) : Calls Try.prog 41 #[] w (Yes w) := by
  have H1 := Lib.hid (fun W : World => (add_any 9223372036854775807 1 W (by decide) (by decide)).mono (R' := fun e w' => e = .returned (.tuple #[.int .i64 0, .bool false]) ∧ W = w') fun _ _ h => told_lit (by decide) h)
  have H2 := Lib.hid (fun W : World => (sub_any (-9223372036854775808) 1 W (by decide) (by decide)).mono (R' := fun e w' => e = .returned (.tuple #[.int .i64 0, .bool false]) ∧ W = w') fun _ _ h => told_lit (by decide) h)
  have H3 := Lib.hid (fun W : World => (mul_any 4294967296 2147483648 W (by decide) (by decide)).mono (R' := fun e w' => e = .returned (.tuple #[.int .i64 0, .bool false]) ∧ W = w') fun _ _ h => told_lit (by decide) h)
  go_enter Try.func41, Try.ntmps41
  go_wp2_with fail
  refine (H1.out _).mono ?_
  rintro e w1 ⟨rfl, rfl⟩
  go_wp2_with fail
  refine (H2.out _).mono ?_
  rintro e w1 ⟨rfl, rfl⟩
  go_wp2_with fail
  refine (H3.out _).mono ?_
  rintro e w1 ⟨rfl, rfl⟩
  have HS := Lib.hid (fun W : World => (sum_any (some ⟨W.heap.size, 0, none⟩) 3 3 [9223372036854775807, 1, -1] (W.alloc (.cells #[.int .i64 9223372036854775807, .int .i64 1, .int .i64 (-1)] 2)) (by decide)
    (Row.born W (ints .i64 [9223372036854775807, 1, -1]) 2 1 3 rfl) (by decide)).mono (R' := fun e w' => e = .returned (.tuple #[.int .i64 9223372036854775807, .int .i64 0]) ∧ Below (W.alloc (.cells #[.int .i64 9223372036854775807, .int .i64 1, .int .i64 (-1)] 2)).heap.size (W.alloc (.cells #[.int .i64 9223372036854775807, .int .i64 1, .int .i64 (-1)] 2)) w') fun _ _ h => sumEnd_lit (by decide) h)
  have HQ := Lib.hid (fun W : World => floorDiv_any (-7) 3 W (by decide) (by decide) (by decide))
  have HM := Lib.hid (fun W : World => floorMod_any (-7) 3 W (by decide) (by decide))
  have HD := Lib.hid (fun W : World => down_yes (-7) 3 W (by decide) (by decide) (by decide) (by decide))
  have HC1 := Lib.hid (fun W : World => (clamp_any 5 1 3 W).mono (R' := fun e w' => e = .returned (.int .i64 3) ∧ W = w') fun _ _ h => h)
  have HC2 := Lib.hid (fun W : World => (clamp_any 5 9 3 W).mono (R' := fun e w' => e = .returned (.int .i64 9) ∧ W = w') fun _ _ h => h)
  go_wp2_with fail
  refine (HS.out _).mono ?_
  rintro e w1 ⟨rfl, hb⟩
  go_wp2_with fail
  refine (HQ.out _).mono ?_
  rintro e w2 ⟨rfl, rfl⟩
  go_wp2_with fail
  refine (HM.out _).mono ?_
  rintro e w2 ⟨rfl, rfl⟩
  go_wp2_with fail
  refine (HD.out _).mono ?_
  rintro e w2 ⟨rfl, rfl⟩
  go_wp2_with fail
  refine (HC1.out _).mono ?_
  rintro e w2 ⟨rfl, rfl⟩
  go_wp2_with fail
  refine (HC2.out _).mono ?_
  rintro e w2 ⟨rfl, rfl⟩
  go_wp2_with fail
  go_ret
  exact ⟨rfl, ((Below.refl _ _).alloc (Nat.le_refl _) _).trans (hb.mono (by simp))⟩
end Go.Proofs.Ytepogieeaidnfaa.num
