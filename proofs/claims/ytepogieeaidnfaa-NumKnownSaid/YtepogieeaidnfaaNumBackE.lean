/- NumBack's walk, no numbers. -/
import Derived.Test.YtepogieeaidnfaaRows
import Derived.Test.YtepogieeaidnfaaBase
import Derived.Test.YtepogieeaidnfaaNumBack
namespace Go.Proofs.Ytepogieeaidnfaa.num
open Go.ChangeShapes Go.WideShapes Go.ChangeAt Go.RowKit
set_option maxRecDepth 100000 in
set_option maxHeartbeats 4000000 in
theorem back_e_fits_ok (A : Option Addr) (len c : Nat) (zs : List Int) (by_ n d : Int) (w : World) (_hz : ∀ n ∈ zs, (Lit.int .i64 n).wf = true) (hr : Row w w.heap.size 1 A len (ints .i64 zs))
    (wn : (Lit.int .i64 n).wf = true) (wd : (Lit.int .i64 d).wf = true) (hc : len ≤ c) (h60 : len ≤ 60) (h0 : len = 0) (hA : inI (n + d) = true) (hd : 0 < d) (hI : inI (downV n d) = true) :
    Calls Try.prog 12 #[.slice A len c, .int .i64 by_, .int .i64 n, .int .i64 d] w (Yes w) := by
  obtain ⟨i0, hi, hz0, hz1, hz2⟩ := info_parts info_i64
  have hl : Hid (zs.length = len) := keep (by have := hr.1; simpa [ints] using this)
  have e1 := keep (show n + d - d = n by omega)
  have H1 := Lib.hid (fun W : World => (add_any n d W wn wd).mono fun _ _ h => told_fits hA h)
  have H2 := Lib.hid (fun W : World => (sub_any (n + d) d W (wf_of (inI_iff.1 hA).1 (inI_iff.1 hA).2) wd).mono fun _ _ h => told_fits (by rw [e1.out]; exact inI_true (wf_i64 wn).1 (wf_i64 wn).2) h)
  rw [e1.out] at H2
  obtain ⟨tf1, tf2⟩ := tail_facts (n := n) hd
  replace hI := keep hI
  have HMul := Lib.hid (fun W : World => (mul_any (n / d) d W (wf_div wn hd) wd).mono fun _ _ h => told_fits (by rw [down_mul]; exact hI.out) h)
  rw [down_mul] at HMul
  have tf5 : downV n d ≤ n := by unfold downV; omega
  obtain ⟨tf6, tf7⟩ := rest_eq (n := n) wd hd
  replace hI := hI.out
  replace hI := keep hI
  clear hA
  subst h0
  have hzs : Hid (zs = []) := keep (List.eq_nil_of_length_eq_zero hl.out)
  go_enter Try.func12, Try.ntmps12
  go_wp2_with fail
  refine (H1.out _).mono ?_
  rintro e w1 ⟨rfl, rfl⟩
  go_wp2_with fail
  refine (H2.out _).mono ?_
  rintro e w1 ⟨rfl, rfl⟩
  go_wp2_with fail
  refine (pick_any by_ 0 _ (by omega)).mono ?_
  rintro e w1 ⟨k, rfl, hk1, hk2, rfl⟩
  obtain rfl : k = 0 := by omega
  go_wp2_with fail
  go_loopw [14, 15] (fun v i wr => i = .int .i64 (-1) ∧ v = .slice none 0 0 ∧ wr = w) (fun _ i _ => (intOf i + 1).toNat)
  case atStart => exact ⟨rfl, rfl, rfl⟩
  case round =>
    obtain ⟨rfl, rfl, rfl⟩ := hrel
    go_wp2_with (at_builtin; refine wpList_append_row _ rfl (.tmp 81) (.tmp 84) 49 rfl wr.heap.size 2 i0 (.int .i64 0) 1 8 Try.underlying49 hi hz0 hz1 hz2 rfl (by decide) (.slice none 0 0) 0 [] rfl (World.ownsRow_nil _ _ _ _) wr.heap.size _ 0 _ [] rfl ⟨rfl, fun h => absurd h (by omega)⟩ (by intro u hu; cases hu) (by unfold maxLen; omega) (by omega) (Nat.le_refl _) ?_; intro v9 w9 hg9; obtain ⟨A1, c1, hv1⟩ := own_shape hg9.own; subst hv1)
    have HE := Lib.hid (fun (W : World) (A' : Option Addr) (c' : Nat) => (sum_any A' 0 c' [] W (by simp) ⟨rfl, fun h => absurd h (by omega)⟩ (by omega)).mono (R' := fun e w' => e = .returned (.tuple #[.int .i64 0, .int .i64 0]) ∧ Below W.heap.size W w') fun _ _ h => sumEnd_lit (by decide) h)
    have HZ := Lib.hid (fun W : World => (add_any 0 0 W (by decide) (by decide)).mono (R' := fun e w' => e = .returned (.tuple #[.int .i64 0, .bool true]) ∧ W = w') fun _ _ h => told_lit (by decide) h)
    have hB9 : Below wr.heap.size wr w9 := hg9.below (Nat.le_refl _) (by simp [Value.ownBlock])
    refine (HE.out _ _ _).mono ?_
    rintro e w10 ⟨rfl, hb10⟩
    go_wp2_with fail
    refine (HE.out _ _ _).mono ?_
    rintro e w11 ⟨rfl, hb11⟩
    go_wp2_with fail
    refine (HE.out _ _ _).mono ?_
    rintro e w12 ⟨rfl, hb12⟩
    go_wp2_with fail
    all_goals
      refine (HE.out _ _ _).mono ?_
      rintro e w13 ⟨rfl, hb13⟩
      have hbb := below2 (below2 (below2 (below2 hB9 hb10) hb11) hb12) hb13
      clear hb10 hb11 hb12 hb13 hg9 hB9
      go_wp2_with fail
      refine (HZ.out _).mono ?_
      rintro e w8 ⟨rfl, rfl⟩
      rcases tail_sign (n := n) hd with ⟨hs1, hs2, hs3⟩ | ⟨hs1, hs2, hs3⟩ | ⟨hs1, hs2, hs3⟩
      all_goals
        go_wp2_with fail
        refine (floorDiv_any n d _ wn wd hd).mono ?_
        rintro e w8 ⟨rfl, rfl⟩
        go_wp2_with fail
        refine (floorMod_any n d _ wd hd).mono ?_
        rintro e w8 ⟨rfl, rfl⟩
        go_wp2_with fail
        refine (down_yes n d _ wn wd hd hI.out).mono ?_
        rintro e w8 ⟨rfl, rfl⟩
        go_wp2_with fail
        refine (HMul.out _).mono ?_
        rintro e w8 ⟨rfl, rfl⟩
        go_wp2_with fail
        refine (works_any _).mono ?_
        rintro e w8 ⟨rfl, hb8⟩
        go_wp2_with fail
        go_ret
        exact ⟨rfl, below2 hbb hb8⟩
set_option maxRecDepth 100000 in
set_option maxHeartbeats 4000000 in
theorem back_e_fits_not (A : Option Addr) (len c : Nat) (zs : List Int) (by_ n d : Int) (w : World) (_hz : ∀ n ∈ zs, (Lit.int .i64 n).wf = true) (hr : Row w w.heap.size 1 A len (ints .i64 zs))
    (wn : (Lit.int .i64 n).wf = true) (wd : (Lit.int .i64 d).wf = true) (hc : len ≤ c) (h60 : len ≤ 60) (h0 : len = 0) (hA : inI (n + d) = false) (hd : 0 < d) (hI : inI (downV n d) = true) :
    Calls Try.prog 12 #[.slice A len c, .int .i64 by_, .int .i64 n, .int .i64 d] w (Yes w) := by
  obtain ⟨i0, hi, hz0, hz1, hz2⟩ := info_parts info_i64
  have hl : Hid (zs.length = len) := keep (by have := hr.1; simpa [ints] using this)
  have e1 := keep (show n + d - d = n by omega)
  have H1 := Lib.hid (fun W : World => (add_any n d W wn wd).mono fun _ _ h => told_over hA h)
  obtain ⟨tf1, tf2⟩ := tail_facts (n := n) hd
  replace hI := keep hI
  have HMul := Lib.hid (fun W : World => (mul_any (n / d) d W (wf_div wn hd) wd).mono fun _ _ h => told_fits (by rw [down_mul]; exact hI.out) h)
  rw [down_mul] at HMul
  have tf5 : downV n d ≤ n := by unfold downV; omega
  obtain ⟨tf6, tf7⟩ := rest_eq (n := n) wd hd
  replace hI := hI.out
  replace hI := keep hI
  clear hA
  subst h0
  have hzs : Hid (zs = []) := keep (List.eq_nil_of_length_eq_zero hl.out)
  go_enter Try.func12, Try.ntmps12
  go_wp2_with fail
  refine (H1.out _).mono ?_
  rintro e w1 ⟨rfl, rfl⟩
  go_wp2_with fail
  refine (pick_any by_ 0 _ (by omega)).mono ?_
  rintro e w1 ⟨k, rfl, hk1, hk2, rfl⟩
  obtain rfl : k = 0 := by omega
  go_wp2_with fail
  go_loopw [14, 15] (fun v i wr => i = .int .i64 (-1) ∧ v = .slice none 0 0 ∧ wr = w) (fun _ i _ => (intOf i + 1).toNat)
  case atStart => exact ⟨rfl, rfl, rfl⟩
  case round =>
    obtain ⟨rfl, rfl, rfl⟩ := hrel
    go_wp2_with (at_builtin; refine wpList_append_row _ rfl (.tmp 81) (.tmp 84) 49 rfl wr.heap.size 2 i0 (.int .i64 0) 1 8 Try.underlying49 hi hz0 hz1 hz2 rfl (by decide) (.slice none 0 0) 0 [] rfl (World.ownsRow_nil _ _ _ _) wr.heap.size _ 0 _ [] rfl ⟨rfl, fun h => absurd h (by omega)⟩ (by intro u hu; cases hu) (by unfold maxLen; omega) (by omega) (Nat.le_refl _) ?_; intro v9 w9 hg9; obtain ⟨A1, c1, hv1⟩ := own_shape hg9.own; subst hv1)
    have HE := Lib.hid (fun (W : World) (A' : Option Addr) (c' : Nat) => (sum_any A' 0 c' [] W (by simp) ⟨rfl, fun h => absurd h (by omega)⟩ (by omega)).mono (R' := fun e w' => e = .returned (.tuple #[.int .i64 0, .int .i64 0]) ∧ Below W.heap.size W w') fun _ _ h => sumEnd_lit (by decide) h)
    have HZ := Lib.hid (fun W : World => (add_any 0 0 W (by decide) (by decide)).mono (R' := fun e w' => e = .returned (.tuple #[.int .i64 0, .bool true]) ∧ W = w') fun _ _ h => told_lit (by decide) h)
    have hB9 : Below wr.heap.size wr w9 := hg9.below (Nat.le_refl _) (by simp [Value.ownBlock])
    refine (HE.out _ _ _).mono ?_
    rintro e w10 ⟨rfl, hb10⟩
    go_wp2_with fail
    refine (HE.out _ _ _).mono ?_
    rintro e w11 ⟨rfl, hb11⟩
    go_wp2_with fail
    refine (HE.out _ _ _).mono ?_
    rintro e w12 ⟨rfl, hb12⟩
    go_wp2_with fail
    all_goals
      refine (HE.out _ _ _).mono ?_
      rintro e w13 ⟨rfl, hb13⟩
      have hbb := below2 (below2 (below2 (below2 hB9 hb10) hb11) hb12) hb13
      clear hb10 hb11 hb12 hb13 hg9 hB9
      go_wp2_with fail
      refine (HZ.out _).mono ?_
      rintro e w8 ⟨rfl, rfl⟩
      rcases tail_sign (n := n) hd with ⟨hs1, hs2, hs3⟩ | ⟨hs1, hs2, hs3⟩ | ⟨hs1, hs2, hs3⟩
      all_goals
        go_wp2_with fail
        refine (floorDiv_any n d _ wn wd hd).mono ?_
        rintro e w8 ⟨rfl, rfl⟩
        go_wp2_with fail
        refine (floorMod_any n d _ wd hd).mono ?_
        rintro e w8 ⟨rfl, rfl⟩
        go_wp2_with fail
        refine (down_yes n d _ wn wd hd hI.out).mono ?_
        rintro e w8 ⟨rfl, rfl⟩
        go_wp2_with fail
        refine (HMul.out _).mono ?_
        rintro e w8 ⟨rfl, rfl⟩
        go_wp2_with fail
        refine (works_any _).mono ?_
        rintro e w8 ⟨rfl, hb8⟩
        go_wp2_with fail
        go_ret
        exact ⟨rfl, below2 hbb hb8⟩
set_option maxRecDepth 100000 in
set_option maxHeartbeats 4000000 in
theorem back_e_over_ok (A : Option Addr) (len c : Nat) (zs : List Int) (by_ n d : Int) (w : World) (_hz : ∀ n ∈ zs, (Lit.int .i64 n).wf = true) (hr : Row w w.heap.size 1 A len (ints .i64 zs))
    (wn : (Lit.int .i64 n).wf = true) (wd : (Lit.int .i64 d).wf = true) (hc : len ≤ c) (h60 : len ≤ 60) (h0 : len = 0) (hA : inI (n + d) = true) (hd : 0 < d) (hI : inI (downV n d) = false) :
    Calls Try.prog 12 #[.slice A len c, .int .i64 by_, .int .i64 n, .int .i64 d] w (Yes w) := by
  obtain ⟨i0, hi, hz0, hz1, hz2⟩ := info_parts info_i64
  have hl : Hid (zs.length = len) := keep (by have := hr.1; simpa [ints] using this)
  have e1 := keep (show n + d - d = n by omega)
  have H1 := Lib.hid (fun W : World => (add_any n d W wn wd).mono fun _ _ h => told_fits hA h)
  have H2 := Lib.hid (fun W : World => (sub_any (n + d) d W (wf_of (inI_iff.1 hA).1 (inI_iff.1 hA).2) wd).mono fun _ _ h => told_fits (by rw [e1.out]; exact inI_true (wf_i64 wn).1 (wf_i64 wn).2) h)
  rw [e1.out] at H2
  obtain ⟨tf1, tf2⟩ := tail_facts (n := n) hd
  replace hI := keep hI
  have HMul := Lib.hid (fun W : World => (mul_any (n / d) d W (wf_div wn hd) wd).mono fun _ _ h => told_over (by rw [down_mul]; exact hI.out) h)
  replace hI := hI.out
  replace hI := keep hI
  clear hA
  subst h0
  have hzs : Hid (zs = []) := keep (List.eq_nil_of_length_eq_zero hl.out)
  go_enter Try.func12, Try.ntmps12
  go_wp2_with fail
  refine (H1.out _).mono ?_
  rintro e w1 ⟨rfl, rfl⟩
  go_wp2_with fail
  refine (H2.out _).mono ?_
  rintro e w1 ⟨rfl, rfl⟩
  go_wp2_with fail
  refine (pick_any by_ 0 _ (by omega)).mono ?_
  rintro e w1 ⟨k, rfl, hk1, hk2, rfl⟩
  obtain rfl : k = 0 := by omega
  go_wp2_with fail
  go_loopw [14, 15] (fun v i wr => i = .int .i64 (-1) ∧ v = .slice none 0 0 ∧ wr = w) (fun _ i _ => (intOf i + 1).toNat)
  case atStart => exact ⟨rfl, rfl, rfl⟩
  case round =>
    obtain ⟨rfl, rfl, rfl⟩ := hrel
    go_wp2_with (at_builtin; refine wpList_append_row _ rfl (.tmp 81) (.tmp 84) 49 rfl wr.heap.size 2 i0 (.int .i64 0) 1 8 Try.underlying49 hi hz0 hz1 hz2 rfl (by decide) (.slice none 0 0) 0 [] rfl (World.ownsRow_nil _ _ _ _) wr.heap.size _ 0 _ [] rfl ⟨rfl, fun h => absurd h (by omega)⟩ (by intro u hu; cases hu) (by unfold maxLen; omega) (by omega) (Nat.le_refl _) ?_; intro v9 w9 hg9; obtain ⟨A1, c1, hv1⟩ := own_shape hg9.own; subst hv1)
    have HE := Lib.hid (fun (W : World) (A' : Option Addr) (c' : Nat) => (sum_any A' 0 c' [] W (by simp) ⟨rfl, fun h => absurd h (by omega)⟩ (by omega)).mono (R' := fun e w' => e = .returned (.tuple #[.int .i64 0, .int .i64 0]) ∧ Below W.heap.size W w') fun _ _ h => sumEnd_lit (by decide) h)
    have HZ := Lib.hid (fun W : World => (add_any 0 0 W (by decide) (by decide)).mono (R' := fun e w' => e = .returned (.tuple #[.int .i64 0, .bool true]) ∧ W = w') fun _ _ h => told_lit (by decide) h)
    have hB9 : Below wr.heap.size wr w9 := hg9.below (Nat.le_refl _) (by simp [Value.ownBlock])
    refine (HE.out _ _ _).mono ?_
    rintro e w10 ⟨rfl, hb10⟩
    go_wp2_with fail
    refine (HE.out _ _ _).mono ?_
    rintro e w11 ⟨rfl, hb11⟩
    go_wp2_with fail
    refine (HE.out _ _ _).mono ?_
    rintro e w12 ⟨rfl, hb12⟩
    go_wp2_with fail
    all_goals
      refine (HE.out _ _ _).mono ?_
      rintro e w13 ⟨rfl, hb13⟩
      have hbb := below2 (below2 (below2 (below2 hB9 hb10) hb11) hb12) hb13
      clear hb10 hb11 hb12 hb13 hg9 hB9
      go_wp2_with fail
      refine (HZ.out _).mono ?_
      rintro e w8 ⟨rfl, rfl⟩
      rcases tail_sign (n := n) hd with ⟨hs1, hs2, hs3⟩ | ⟨hs1, hs2, hs3⟩ | ⟨hs1, hs2, hs3⟩
      all_goals
        go_wp2_with fail
        refine (floorDiv_any n d _ wn wd hd).mono ?_
        rintro e w8 ⟨rfl, rfl⟩
        go_wp2_with fail
        refine (floorMod_any n d _ wd hd).mono ?_
        rintro e w8 ⟨rfl, rfl⟩
        go_wp2_with fail
        refine (down_over n d _ wn wd hd hI.out).mono ?_
        rintro e w8 ⟨rfl, rfl⟩
        go_wp2_with fail
        refine (HMul.out _).mono ?_
        rintro e w8 ⟨rfl, rfl⟩
        go_wp2_with fail
        refine (works_any _).mono ?_
        rintro e w8 ⟨rfl, hb8⟩
        go_wp2_with fail
        go_ret
        exact ⟨rfl, below2 hbb hb8⟩
set_option maxRecDepth 100000 in
set_option maxHeartbeats 4000000 in
theorem back_e_over_not (A : Option Addr) (len c : Nat) (zs : List Int) (by_ n d : Int) (w : World) (_hz : ∀ n ∈ zs, (Lit.int .i64 n).wf = true) (hr : Row w w.heap.size 1 A len (ints .i64 zs))
    (wn : (Lit.int .i64 n).wf = true) (wd : (Lit.int .i64 d).wf = true) (hc : len ≤ c) (h60 : len ≤ 60) (h0 : len = 0) (hA : inI (n + d) = false) (hd : 0 < d) (hI : inI (downV n d) = false) :
    Calls Try.prog 12 #[.slice A len c, .int .i64 by_, .int .i64 n, .int .i64 d] w (Yes w) := by
  obtain ⟨i0, hi, hz0, hz1, hz2⟩ := info_parts info_i64
  have hl : Hid (zs.length = len) := keep (by have := hr.1; simpa [ints] using this)
  have e1 := keep (show n + d - d = n by omega)
  have H1 := Lib.hid (fun W : World => (add_any n d W wn wd).mono fun _ _ h => told_over hA h)
  obtain ⟨tf1, tf2⟩ := tail_facts (n := n) hd
  replace hI := keep hI
  have HMul := Lib.hid (fun W : World => (mul_any (n / d) d W (wf_div wn hd) wd).mono fun _ _ h => told_over (by rw [down_mul]; exact hI.out) h)
  replace hI := hI.out
  replace hI := keep hI
  clear hA
  subst h0
  have hzs : Hid (zs = []) := keep (List.eq_nil_of_length_eq_zero hl.out)
  go_enter Try.func12, Try.ntmps12
  go_wp2_with fail
  refine (H1.out _).mono ?_
  rintro e w1 ⟨rfl, rfl⟩
  go_wp2_with fail
  refine (pick_any by_ 0 _ (by omega)).mono ?_
  rintro e w1 ⟨k, rfl, hk1, hk2, rfl⟩
  obtain rfl : k = 0 := by omega
  go_wp2_with fail
  go_loopw [14, 15] (fun v i wr => i = .int .i64 (-1) ∧ v = .slice none 0 0 ∧ wr = w) (fun _ i _ => (intOf i + 1).toNat)
  case atStart => exact ⟨rfl, rfl, rfl⟩
  case round =>
    obtain ⟨rfl, rfl, rfl⟩ := hrel
    go_wp2_with (at_builtin; refine wpList_append_row _ rfl (.tmp 81) (.tmp 84) 49 rfl wr.heap.size 2 i0 (.int .i64 0) 1 8 Try.underlying49 hi hz0 hz1 hz2 rfl (by decide) (.slice none 0 0) 0 [] rfl (World.ownsRow_nil _ _ _ _) wr.heap.size _ 0 _ [] rfl ⟨rfl, fun h => absurd h (by omega)⟩ (by intro u hu; cases hu) (by unfold maxLen; omega) (by omega) (Nat.le_refl _) ?_; intro v9 w9 hg9; obtain ⟨A1, c1, hv1⟩ := own_shape hg9.own; subst hv1)
    have HE := Lib.hid (fun (W : World) (A' : Option Addr) (c' : Nat) => (sum_any A' 0 c' [] W (by simp) ⟨rfl, fun h => absurd h (by omega)⟩ (by omega)).mono (R' := fun e w' => e = .returned (.tuple #[.int .i64 0, .int .i64 0]) ∧ Below W.heap.size W w') fun _ _ h => sumEnd_lit (by decide) h)
    have HZ := Lib.hid (fun W : World => (add_any 0 0 W (by decide) (by decide)).mono (R' := fun e w' => e = .returned (.tuple #[.int .i64 0, .bool true]) ∧ W = w') fun _ _ h => told_lit (by decide) h)
    have hB9 : Below wr.heap.size wr w9 := hg9.below (Nat.le_refl _) (by simp [Value.ownBlock])
    refine (HE.out _ _ _).mono ?_
    rintro e w10 ⟨rfl, hb10⟩
    go_wp2_with fail
    refine (HE.out _ _ _).mono ?_
    rintro e w11 ⟨rfl, hb11⟩
    go_wp2_with fail
    refine (HE.out _ _ _).mono ?_
    rintro e w12 ⟨rfl, hb12⟩
    go_wp2_with fail
    all_goals
      refine (HE.out _ _ _).mono ?_
      rintro e w13 ⟨rfl, hb13⟩
      have hbb := below2 (below2 (below2 (below2 hB9 hb10) hb11) hb12) hb13
      clear hb10 hb11 hb12 hb13 hg9 hB9
      go_wp2_with fail
      refine (HZ.out _).mono ?_
      rintro e w8 ⟨rfl, rfl⟩
      rcases tail_sign (n := n) hd with ⟨hs1, hs2, hs3⟩ | ⟨hs1, hs2, hs3⟩ | ⟨hs1, hs2, hs3⟩
      all_goals
        go_wp2_with fail
        refine (floorDiv_any n d _ wn wd hd).mono ?_
        rintro e w8 ⟨rfl, rfl⟩
        go_wp2_with fail
        refine (floorMod_any n d _ wd hd).mono ?_
        rintro e w8 ⟨rfl, rfl⟩
        go_wp2_with fail
        refine (down_over n d _ wn wd hd hI.out).mono ?_
        rintro e w8 ⟨rfl, rfl⟩
        go_wp2_with fail
        refine (HMul.out _).mono ?_
        rintro e w8 ⟨rfl, rfl⟩
        go_wp2_with fail
        refine (works_any _).mono ?_
        rintro e w8 ⟨rfl, hb8⟩
        go_wp2_with fail
        go_ret
        exact ⟨rfl, below2 hbb hb8⟩
end Go.Proofs.Ytepogieeaidnfaa.num
