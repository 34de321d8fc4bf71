/- NumBack's walk where the multiple does not fit, some numbers. -/
import Derived.Test.YtepogieeaidnfaaRows
import Derived.Test.YtepogieeaidnfaaBase
import Derived.Test.YtepogieeaidnfaaNumBack
namespace Go.Proofs.Ytepogieeaidnfaa.num
open Go.ChangeShapes Go.WideShapes Go.ChangeAt Go.RowKit
set_option maxRecDepth 100000 in
set_option maxHeartbeats 4000000 in
theorem back_over_ok (A : Option Addr) (len c : Nat) (zs : List Int) (by_ n d : Int) (w : World) (hz : ∀ n ∈ zs, (Lit.int .i64 n).wf = true) (hr : Row w w.heap.size 1 A len (ints .i64 zs))
    (wn : (Lit.int .i64 n).wf = true) (wd : (Lit.int .i64 d).wf = true) (hc : len ≤ c) (h60 : len ≤ 60) (h0 : 0 < len) (hA : inI (n + d) = true) (hd : 0 < d) (hI : inI (downV n d) = false) :
    Calls Try.prog 12 #[.slice A len c, .int .i64 by_, .int .i64 n, .int .i64 d] w (Yes w) := by
  obtain ⟨i0, hi, hz0, hz1, hz2⟩ := info_parts info_i64
  have hl : Hid (zs.length = len) := keep (by have := hr.1; simpa [ints] using this)
  have e1 := keep (show n + d - d = n by omega)
  have H1 := Lib.hid (fun W : World => (add_any n d W wn wd).mono fun _ _ h => told_fits hA h)
  have H2 := Lib.hid (fun W : World => (sub_any (n + d) d W (wf_of (inI_iff.1 hA).1 (inI_iff.1 hA).2) wd).mono fun _ _ h => told_fits (by rw [e1.out]; exact inI_true (wf_i64 wn).1 (wf_i64 wn).2) h)
  rw [e1.out] at H2
  obtain ⟨tf1, tf2⟩ := tail_facts (n := n) hd
  replace hI := keep hI
  have HMul := Lib.hid (fun W : World => (mul_any (n / d) d W (wf_div wn hd) wd).mono fun _ _ h => told_over (by rw [down_mul]; exact hI.out) h)
  replace hI := hI.out
  replace hI := keep hI
  clear hA
  obtain ⟨b, off, rfl, hbB, hcell⟩ := hr.2 h0
  replace hcell := keep hcell
  go_enter Try.func12, Try.ntmps12
  go_wp2_with fail
  refine (H1.out _).mono ?_
  rintro e w1 ⟨rfl, rfl⟩
  go_wp2_with fail
  refine (H2.out _).mono ?_
  rintro e w1 ⟨rfl, rfl⟩
  go_wp2_with fail
  refine (pick_any by_ len _ (by omega)).mono ?_
  rintro e w1 ⟨k, rfl, hk1, hk2, rfl⟩
  go_wp2_with fail
  go_loopw [14, 15] (fun v i wr => ∃ j : Nat, j ≤ len - k ∧ i = .int .i64 ((len : Int) - 1 - (j : Int)) ∧ wr.ownsRow w.heap.size 2 1 v j (ints .i64 (zs.reverse.take j)) ∧ Below w.heap.size w wr) (fun _ i _ => (intOf i + 1).toNat)
  case atStart => exact ⟨0, by omega, by simp, by simpa [ints] using World.ownsRow_nil _ _ _ _, Below.refl _ _⟩
  case round =>
    obtain ⟨j, hj, rfl, hown, hB⟩ := hrel
    have hbsz := hB.size
    by_cases hlt : j < len - k
    · have hc1 : wr.cell? ⟨b, off + (len - 1 - j), none⟩ = some (.int .i64 (zs.getD (len - 1 - j) 0)) := (hB.cell (p := ⟨b, off + (len - 1 - j), none⟩) hbB).trans (hcell.out _ _ (ints_at (by rw [hl.out]; omega)))
      have hj0 : (0 : Int) ≤ (len : Int) - 1 - (j : Int) := by omega
      have hj1 : (len : Int) - 1 - (j : Int) < (len : Int) := by omega
      have hjn : ((len : Int) - 1 - (j : Int)).toNat = len - 1 - j := by omega
      have hge : (k : Int) ≤ (len : Int) - 1 - (j : Int) := by omega
      have er := keep (rev_at zs j (by rw [hl.out]; omega))
      rw [hl.out] at er
      obtain ⟨x, hx⟩ : ∃ x, x = zs.getD (len - 1 - j) 0 := ⟨_, rfl⟩
      rw [← hx] at hc1 er
      replace hx := keep hx
      go_wp2_with (at_builtin; refine wpList_append_row _ rfl (.tmp 74) (.tmp 79) 49 rfl w.heap.size 2 i0 (.int .i64 0) 1 8 Try.underlying49 hi hz0 hz1 hz2 rfl (by decide) _ j _ rfl (hown.alloc _) _ (some ⟨wr.heap.size, 0, none⟩) 1 1 [.int .i64 x] rfl (Row.born wr [.int .i64 x] 2 1 1 rfl) (by intro u hu; simp at hu; subst hu; rfl) (by unfold maxLen; omega) (by omega) (by simp; omega) ?_; intro v9 w9 hg9)
      have hB9 : Below w.heap.size w w9 := (hB.alloc (by omega) _).trans (hg9.below (by simp; omega) (fun k hk => (hown.lt k hk).1))
      have ho9 := hg9.own
      rw [show ints .i64 (zs.reverse.take j) ++ [.int .i64 x] = ints .i64 (zs.reverse.take (j + 1)) by rw [er.out]; simp [ints]] at ho9
      go_roundw
      case rel => exact ⟨j + 1, by omega, by congr 1; omega, ho9, hB9⟩
      case measure => simp [intOf]; omega
    · obtain rfl : j = len - k := by omega
      have hlk : Hid ((len : Int) - 1 - ((len - k : Nat) : Int) = (k : Int) - 1) := keep (by omega)
      have hlt3 : (len : Int) - 1 - ((len - k : Nat) : Int) < (k : Int) := by omega
      have hr9 := (hr.below hB)
      go_wp2_with (at_builtin; refine wpList_append_row _ rfl (.tmp 81) (.tmp 84) 49 rfl w.heap.size 2 i0 (.int .i64 0) 1 8 Try.underlying49 hi hz0 hz1 hz2 rfl (by decide) _ (len - k) _ rfl hown _ (some ⟨b, off, none⟩) k c ((ints .i64 zs).take k) rfl (Row_take hr9 hk1) (fun u hu => ints_one u (List.mem_of_mem_take hu)) (by unfold maxLen; omega) (by omega) hbsz ?_; intro v9 w9 hg9; obtain ⟨A1, c1, hv1⟩ := own_shape hg9.own; subst hv1)
      have hB9 : Below w.heap.size w w9 := hB.trans (hg9.below hbsz (fun k hk => (hown.lt k hk).1))
      have ho9 : Row w9 w9.heap.size 1 A1 (len - k + k) (ints .i64 (zs.reverse.take (len - k) ++ zs.take k)) := by
        have := row_of_own hg9.own
        simpa [ints] using this
      have hlen : Hid (len - k + k = len) := keep (by omega)
      have htot : Hid (tot (zs.reverse.take (len - k) ++ zs.take k) = tot zs) := keep (by have := tot_turned zs k (by rw [hl.out]; exact hk1); rwa [hl.out] at this)
      have hwt : ∀ n ∈ zs.reverse.take (len - k) ++ zs.take k, (Lit.int .i64 n).wf = true := by
        intro n hn
        rcases List.mem_append.1 hn with h | h
        · exact hz n (by simpa using List.mem_of_mem_take h)
        · exact hz n (List.mem_of_mem_take h)
      have hr10 : Row w9 w9.heap.size 1 (some ⟨b, off, none⟩) len (ints .i64 zs) := (hr.below hB9).wider hB9.size
      refine (sum_any _ len c zs _ hz hr10 (by omega)).mono ?_
      rintro e w10 ⟨rfl, hb10⟩
      have hr11 : Row w10 w10.heap.size 1 (some ⟨b, off, none⟩) len (ints .i64 zs) := (hr10.below hb10).wider hb10.size
      rw [hlen.out] at ho9
      have HT := Lib.hid (fun W (h : Row W W.heap.size 1 A1 len (ints .i64 (zs.reverse.take (len - k) ++ zs.take k))) => sum_any A1 len c1 (zs.reverse.take (len - k) ++ zs.take k) W hwt h (by omega))
      clear hwt
      rw [htot.out] at HT
      go_wp2_with fail
      refine (HT.out _ ((ho9.below hb10).wider hb10.size)).mono ?_
      rintro e w11 ⟨rfl, hb11⟩
      have hr12 : Row w11 w11.heap.size 1 (some ⟨b, off, none⟩) len (ints .i64 zs) := (hr11.below hb11).wider hb11.size
      go_wp2_with fail
      have hkl : k < len := by omega
      have hck : ¬ c = k := by omega
      have hp := keep (tot_parts zs k)
      have hE : (ovErr (tot zs) == 0) = inI (tot zs) := by unfold ovErr; cases inI (tot zs) <;> rfl
      have hbb : Below w.heap.size w w11 := below2 (below2 hB9 hb10) hb11
      refine (sum_any (some ⟨b, off, none⟩) k c (zs.take k) _ (fun n hn => hz n (List.mem_of_mem_take hn)) (by have := Row_take hr12 hk1; simpa [ints] using this) (by omega)).mono ?_
      rintro e w12 ⟨rfl, hb12⟩
      have hr13 : Row w12 w12.heap.size 1 (some ⟨b, off, none⟩) len (ints .i64 zs) := (hr12.below hb12).wider hb12.size
      replace hbb := below2 hbb hb12
      clear hb10 hb11 hr10 hr11 ho9 hg9 hB9 hown hr9 hb12
      go_wp2_with fail
      refine (sum_any (some ⟨b, off + k, none⟩) (len - k) (c - k) (zs.drop k) _ (fun n hn => hz n (List.mem_of_mem_drop hn)) (by have := Row_drop (k := k) hr13; simpa [ints] using this) (by omega)).mono ?_
      rintro e w13 ⟨rfl, hb13⟩
      replace hbb := below2 hbb hb13
      clear hb13
      go_upto_region 21 with fail
      go_cut [123] (fun t wc => Below w.heap.size w wc ∧ t = .bool ((ovErr (tot (zs.take k)) == 0) && (ovErr (tot (zs.drop k)) == 0)))
      case first =>
        cases g1 : (ovErr (tot (zs.take k)) == 0)
        · go_wp2_with fail
          go_meet
          case rel => exact ⟨hbb, by simp [g1]⟩
        · cases g2 : (ovErr (tot (zs.drop k)) == 0)
          all_goals
            go_wp2_with fail
            go_meet
            case rel => exact ⟨hbb, by simp [g1, g2]⟩
      case rest =>
      clear hbb
      obtain ⟨hbb, rfl⟩ := hcut
      go_upto_if 123 with fail
      go_cut [24, 25] (fun z f wc => Below w.heap.size w wc)
      case first =>
        cases g1 : ((ovErr (tot (zs.take k)) == 0) && (ovErr (tot (zs.drop k)) == 0))
        · go_wp2_with fail
          go_meet
          case rel => exact hbb
        · have g2 := Bool.and_eq_true_iff.1 g1
          have hG := ovErr_zero g2.1
          have hH := ovErr_zero g2.2
          have v1 : tot (zs.take k) = fitV (tot (zs.take k)) := by unfold fitV; rw [hG]; rfl
          have v2 : tot (zs.drop k) = fitV (tot (zs.drop k)) := by unfold fitV; rw [hH]; rfl
          have HZ := Lib.hid (fun W : World => add_any (tot (zs.take k)) (tot (zs.drop k)) W (wf_of (inI_iff.1 hG).1 (inI_iff.1 hG).2) (wf_of (inI_iff.1 hH).1 (inI_iff.1 hH).2))
          rw [hp.out, v1, v2] at HZ
          clear hG hH v1 v2 g2
          go_wp2_with fail
          refine (HZ.out _).mono ?_
          rintro e w8 ⟨rfl, rfl⟩
          go_wp2_with fail
          go_meet
          case rel => exact hbb
      case rest =>
      clear hbb
      have hbb : Below w.heap.size w wc := hcut
      clear hcut
      rcases tail_sign (n := n) hd with ⟨hs1, hs2, hs3⟩ | ⟨hs1, hs2, hs3⟩ | ⟨hs1, hs2, hs3⟩
      all_goals
        go_wp2_with fail
        refine (floorDiv_any n d _ wn wd hd).mono ?_
        rintro e w8 ⟨rfl, rfl⟩
        go_wp2_with fail
        refine (floorMod_any n d _ wd hd).mono ?_
        rintro e w8 ⟨rfl, rfl⟩
        go_wp2_with fail
        refine (down_over n d _ wn wd hd hI.out).mono ?_
        rintro e w8 ⟨rfl, rfl⟩
        go_wp2_with fail
        refine (HMul.out _).mono ?_
        rintro e w8 ⟨rfl, rfl⟩
        go_wp2_with fail
        refine (works_any _).mono ?_
        rintro e w8 ⟨rfl, hb8⟩
        go_wp2_with fail
        go_ret
        exact ⟨rfl, below2 hbb hb8⟩
set_option maxRecDepth 100000 in
set_option maxHeartbeats 4000000 in
theorem back_over_not (A : Option Addr) (len c : Nat) (zs : List Int) (by_ n d : Int) (w : World) (hz : ∀ n ∈ zs, (Lit.int .i64 n).wf = true) (hr : Row w w.heap.size 1 A len (ints .i64 zs))
    (wn : (Lit.int .i64 n).wf = true) (wd : (Lit.int .i64 d).wf = true) (hc : len ≤ c) (h60 : len ≤ 60) (h0 : 0 < len) (hA : inI (n + d) = false) (hd : 0 < d) (hI : inI (downV n d) = false) :
    Calls Try.prog 12 #[.slice A len c, .int .i64 by_, .int .i64 n, .int .i64 d] w (Yes w) := by
  obtain ⟨i0, hi, hz0, hz1, hz2⟩ := info_parts info_i64
  have hl : Hid (zs.length = len) := keep (by have := hr.1; simpa [ints] using this)
  have e1 := keep (show n + d - d = n by omega)
  have H1 := Lib.hid (fun W : World => (add_any n d W wn wd).mono fun _ _ h => told_over hA h)
  obtain ⟨tf1, tf2⟩ := tail_facts (n := n) hd
  replace hI := keep hI
  have HMul := Lib.hid (fun W : World => (mul_any (n / d) d W (wf_div wn hd) wd).mono fun _ _ h => told_over (by rw [down_mul]; exact hI.out) h)
  replace hI := hI.out
  replace hI := keep hI
  clear hA
  obtain ⟨b, off, rfl, hbB, hcell⟩ := hr.2 h0
  replace hcell := keep hcell
  go_enter Try.func12, Try.ntmps12
  go_wp2_with fail
  refine (H1.out _).mono ?_
  rintro e w1 ⟨rfl, rfl⟩
  go_wp2_with fail
  refine (pick_any by_ len _ (by omega)).mono ?_
  rintro e w1 ⟨k, rfl, hk1, hk2, rfl⟩
  go_wp2_with fail
  go_loopw [14, 15] (fun v i wr => ∃ j : Nat, j ≤ len - k ∧ i = .int .i64 ((len : Int) - 1 - (j : Int)) ∧ wr.ownsRow w.heap.size 2 1 v j (ints .i64 (zs.reverse.take j)) ∧ Below w.heap.size w wr) (fun _ i _ => (intOf i + 1).toNat)
  case atStart => exact ⟨0, by omega, by simp, by simpa [ints] using World.ownsRow_nil _ _ _ _, Below.refl _ _⟩
  case round =>
    obtain ⟨j, hj, rfl, hown, hB⟩ := hrel
    have hbsz := hB.size
    by_cases hlt : j < len - k
    · have hc1 : wr.cell? ⟨b, off + (len - 1 - j), none⟩ = some (.int .i64 (zs.getD (len - 1 - j) 0)) := (hB.cell (p := ⟨b, off + (len - 1 - j), none⟩) hbB).trans (hcell.out _ _ (ints_at (by rw [hl.out]; omega)))
      have hj0 : (0 : Int) ≤ (len : Int) - 1 - (j : Int) := by omega
      have hj1 : (len : Int) - 1 - (j : Int) < (len : Int) := by omega
      have hjn : ((len : Int) - 1 - (j : Int)).toNat = len - 1 - j := by omega
      have hge : (k : Int) ≤ (len : Int) - 1 - (j : Int) := by omega
      have er := keep (rev_at zs j (by rw [hl.out]; omega))
      rw [hl.out] at er
      obtain ⟨x, hx⟩ : ∃ x, x = zs.getD (len - 1 - j) 0 := ⟨_, rfl⟩
      rw [← hx] at hc1 er
      replace hx := keep hx
      go_wp2_with (at_builtin; refine wpList_append_row _ rfl (.tmp 74) (.tmp 79) 49 rfl w.heap.size 2 i0 (.int .i64 0) 1 8 Try.underlying49 hi hz0 hz1 hz2 rfl (by decide) _ j _ rfl (hown.alloc _) _ (some ⟨wr.heap.size, 0, none⟩) 1 1 [.int .i64 x] rfl (Row.born wr [.int .i64 x] 2 1 1 rfl) (by intro u hu; simp at hu; subst hu; rfl) (by unfold maxLen; omega) (by omega) (by simp; omega) ?_; intro v9 w9 hg9)
      have hB9 : Below w.heap.size w w9 := (hB.alloc (by omega) _).trans (hg9.below (by simp; omega) (fun k hk => (hown.lt k hk).1))
      have ho9 := hg9.own
      rw [show ints .i64 (zs.reverse.take j) ++ [.int .i64 x] = ints .i64 (zs.reverse.take (j + 1)) by rw [er.out]; simp [ints]] at ho9
      go_roundw
      case rel => exact ⟨j + 1, by omega, by congr 1; omega, ho9, hB9⟩
      case measure => simp [intOf]; omega
    · obtain rfl : j = len - k := by omega
      have hlk : Hid ((len : Int) - 1 - ((len - k : Nat) : Int) = (k : Int) - 1) := keep (by omega)
      have hlt3 : (len : Int) - 1 - ((len - k : Nat) : Int) < (k : Int) := by omega
      have hr9 := (hr.below hB)
      go_wp2_with (at_builtin; refine wpList_append_row _ rfl (.tmp 81) (.tmp 84) 49 rfl w.heap.size 2 i0 (.int .i64 0) 1 8 Try.underlying49 hi hz0 hz1 hz2 rfl (by decide) _ (len - k) _ rfl hown _ (some ⟨b, off, none⟩) k c ((ints .i64 zs).take k) rfl (Row_take hr9 hk1) (fun u hu => ints_one u (List.mem_of_mem_take hu)) (by unfold maxLen; omega) (by omega) hbsz ?_; intro v9 w9 hg9; obtain ⟨A1, c1, hv1⟩ := own_shape hg9.own; subst hv1)
      have hB9 : Below w.heap.size w w9 := hB.trans (hg9.below hbsz (fun k hk => (hown.lt k hk).1))
      have ho9 : Row w9 w9.heap.size 1 A1 (len - k + k) (ints .i64 (zs.reverse.take (len - k) ++ zs.take k)) := by
        have := row_of_own hg9.own
        simpa [ints] using this
      have hlen : Hid (len - k + k = len) := keep (by omega)
      have htot : Hid (tot (zs.reverse.take (len - k) ++ zs.take k) = tot zs) := keep (by have := tot_turned zs k (by rw [hl.out]; exact hk1); rwa [hl.out] at this)
      have hwt : ∀ n ∈ zs.reverse.take (len - k) ++ zs.take k, (Lit.int .i64 n).wf = true := by
        intro n hn
        rcases List.mem_append.1 hn with h | h
        · exact hz n (by simpa using List.mem_of_mem_take h)
        · exact hz n (List.mem_of_mem_take h)
      have hr10 : Row w9 w9.heap.size 1 (some ⟨b, off, none⟩) len (ints .i64 zs) := (hr.below hB9).wider hB9.size
      refine (sum_any _ len c zs _ hz hr10 (by omega)).mono ?_
      rintro e w10 ⟨rfl, hb10⟩
      have hr11 : Row w10 w10.heap.size 1 (some ⟨b, off, none⟩) len (ints .i64 zs) := (hr10.below hb10).wider hb10.size
      rw [hlen.out] at ho9
      have HT := Lib.hid (fun W (h : Row W W.heap.size 1 A1 len (ints .i64 (zs.reverse.take (len - k) ++ zs.take k))) => sum_any A1 len c1 (zs.reverse.take (len - k) ++ zs.take k) W hwt h (by omega))
      clear hwt
      rw [htot.out] at HT
      go_wp2_with fail
      refine (HT.out _ ((ho9.below hb10).wider hb10.size)).mono ?_
      rintro e w11 ⟨rfl, hb11⟩
      have hr12 : Row w11 w11.heap.size 1 (some ⟨b, off, none⟩) len (ints .i64 zs) := (hr11.below hb11).wider hb11.size
      go_wp2_with fail
      have hkl : k < len := by omega
      have hck : ¬ c = k := by omega
      have hp := keep (tot_parts zs k)
      have hE : (ovErr (tot zs) == 0) = inI (tot zs) := by unfold ovErr; cases inI (tot zs) <;> rfl
      have hbb : Below w.heap.size w w11 := below2 (below2 hB9 hb10) hb11
      refine (sum_any (some ⟨b, off, none⟩) k c (zs.take k) _ (fun n hn => hz n (List.mem_of_mem_take hn)) (by have := Row_take hr12 hk1; simpa [ints] using this) (by omega)).mono ?_
      rintro e w12 ⟨rfl, hb12⟩
      have hr13 : Row w12 w12.heap.size 1 (some ⟨b, off, none⟩) len (ints .i64 zs) := (hr12.below hb12).wider hb12.size
      replace hbb := below2 hbb hb12
      clear hb10 hb11 hr10 hr11 ho9 hg9 hB9 hown hr9 hb12
      go_wp2_with fail
      refine (sum_any (some ⟨b, off + k, none⟩) (len - k) (c - k) (zs.drop k) _ (fun n hn => hz n (List.mem_of_mem_drop hn)) (by have := Row_drop (k := k) hr13; simpa [ints] using this) (by omega)).mono ?_
      rintro e w13 ⟨rfl, hb13⟩
      replace hbb := below2 hbb hb13
      clear hb13
      go_upto_region 21 with fail
      go_cut [123] (fun t wc => Below w.heap.size w wc ∧ t = .bool ((ovErr (tot (zs.take k)) == 0) && (ovErr (tot (zs.drop k)) == 0)))
      case first =>
        cases g1 : (ovErr (tot (zs.take k)) == 0)
        · go_wp2_with fail
          go_meet
          case rel => exact ⟨hbb, by simp [g1]⟩
        · cases g2 : (ovErr (tot (zs.drop k)) == 0)
          all_goals
            go_wp2_with fail
            go_meet
            case rel => exact ⟨hbb, by simp [g1, g2]⟩
      case rest =>
      clear hbb
      obtain ⟨hbb, rfl⟩ := hcut
      go_upto_if 123 with fail
      go_cut [24, 25] (fun z f wc => Below w.heap.size w wc)
      case first =>
        cases g1 : ((ovErr (tot (zs.take k)) == 0) && (ovErr (tot (zs.drop k)) == 0))
        · go_wp2_with fail
          go_meet
          case rel => exact hbb
        · have g2 := Bool.and_eq_true_iff.1 g1
          have hG := ovErr_zero g2.1
          have hH := ovErr_zero g2.2
          have v1 : tot (zs.take k) = fitV (tot (zs.take k)) := by unfold fitV; rw [hG]; rfl
          have v2 : tot (zs.drop k) = fitV (tot (zs.drop k)) := by unfold fitV; rw [hH]; rfl
          have HZ := Lib.hid (fun W : World => add_any (tot (zs.take k)) (tot (zs.drop k)) W (wf_of (inI_iff.1 hG).1 (inI_iff.1 hG).2) (wf_of (inI_iff.1 hH).1 (inI_iff.1 hH).2))
          rw [hp.out, v1, v2] at HZ
          clear hG hH v1 v2 g2
          go_wp2_with fail
          refine (HZ.out _).mono ?_
          rintro e w8 ⟨rfl, rfl⟩
          go_wp2_with fail
          go_meet
          case rel => exact hbb
      case rest =>
      clear hbb
      have hbb : Below w.heap.size w wc := hcut
      clear hcut
      rcases tail_sign (n := n) hd with ⟨hs1, hs2, hs3⟩ | ⟨hs1, hs2, hs3⟩ | ⟨hs1, hs2, hs3⟩
      all_goals
        go_wp2_with fail
        refine (floorDiv_any n d _ wn wd hd).mono ?_
        rintro e w8 ⟨rfl, rfl⟩
        go_wp2_with fail
        refine (floorMod_any n d _ wd hd).mono ?_
        rintro e w8 ⟨rfl, rfl⟩
        go_wp2_with fail
        refine (down_over n d _ wn wd hd hI.out).mono ?_
        rintro e w8 ⟨rfl, rfl⟩
        go_wp2_with fail
        refine (HMul.out _).mono ?_
        rintro e w8 ⟨rfl, rfl⟩
        go_wp2_with fail
        refine (works_any _).mono ?_
        rintro e w8 ⟨rfl, hb8⟩
        go_wp2_with fail
        go_ret
        exact ⟨rfl, below2 hbb hb8⟩
end Go.Proofs.Ytepogieeaidnfaa.num
