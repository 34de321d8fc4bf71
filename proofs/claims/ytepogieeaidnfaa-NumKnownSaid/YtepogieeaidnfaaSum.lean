import Derived.Test.YtepogieeaidnfaaRows
import Derived.Test.YtepogieeaidnfaaBase
import Derived.Test.YtepogieeaidnfaaWideB
import Derived.Deep.RegionHeld3
/- num.Sum, and the reference's Sum: exact, whatever the numbers. -/
namespace Go.Proofs.Ytepogieeaidnfaa.num
open Go.ChangeShapes Go.WideShapes Go.ChangeAt Go.RowKit

/-- how many times 2^64 an exact sum lies beside what is kept of it -/
def ov (n : Int) : Int := (n + 9223372036854775808) / 18446744073709551616
theorem ov_zero_iff (n : Int) : ov n = 0 ↔ inI n = true := by rw [inI_iff]; unfold ov; omega
theorem ov_step_up {S n : Int} (wn : (Lit.int .i64 n).wf = true) (h1 : 0 ≤ wrap64 S) (h2 : 0 ≤ n) (h3 : wrap64 (wrap64 S + n) < 0) : ov (S + n) = ov S + 1 := by
  have := wf_i64 wn
  unfold wrap64 at *
  unfold ov
  omega
theorem ov_step_down {S n : Int} (wn : (Lit.int .i64 n).wf = true) (h1 : wrap64 S < 0) (h2 : n < 0) (h3 : 0 ≤ wrap64 (wrap64 S + n)) : ov (S + n) = ov S - 1 := by
  have := wf_i64 wn
  unfold wrap64 at *
  unfold ov
  omega
theorem ov_step_none {S n : Int} (wn : (Lit.int .i64 n).wf = true) (h1 : ¬(0 ≤ wrap64 S ∧ 0 ≤ n ∧ wrap64 (wrap64 S + n) < 0)) (h2 : ¬(wrap64 S < 0 ∧ n < 0 ∧ 0 ≤ wrap64 (wrap64 S + n))) : ov (S + n) = ov S := by
  have := wf_i64 wn
  unfold wrap64 at *
  unfold ov
  omega
theorem wrap_step (S n : Int) : wrap64 (wrap64 S + n) = wrap64 (S + n) := by unfold wrap64; omega

def Added (S n : Int) (gs go : Nat) (w : World) (e : Ending) (w' : World) : Prop :=
  e = .returned (.tuple #[]) ∧ Blk w' gs #[.int .i64 (wrap64 (S + n))] 2 ∧ Blk w' go #[.int .i64 (ov (S + n))] 3 ∧ Below gs w w'
theorem added_two {S n v : Int} {gs go : Nat} {w : World} (hne : gs < go) (hs : Blk w gs #[.int .i64 (wrap64 S)] 2) (hov : Blk w go #[.int .i64 (ov S)] 3) (hv : ov (S + n) = v) :
    Added S n gs go w (.returned (.tuple #[])) ((w.setCell ⟨gs, 0, none⟩ (.int .i64 (wrap64 (wrap64 S + n)))).setCell ⟨go, 0, none⟩ (.int .i64 v)) := by
  refine ⟨rfl, ?_, ?_, ((Below.refl _ _).setCell (p := ⟨gs, 0, none⟩) (Nat.le_refl _) _).setCell (p := ⟨go, 0, none⟩) (Nat.le_of_lt hne) _⟩
  · rw [← wrap_step S n]
    exact (hs.put 0 _).away (p := ⟨go, 0, none⟩) (by simp; omega) _
  · rw [hv]
    exact (hov.away (p := ⟨gs, 0, none⟩) (by simp; omega) _).put 0 _
theorem added_one {S n : Int} {gs go : Nat} {w : World} (hne : gs < go) (hs : Blk w gs #[.int .i64 (wrap64 S)] 2) (hov : Blk w go #[.int .i64 (ov S)] 3) (hv : ov (S + n) = ov S) :
    Added S n gs go w (.returned (.tuple #[])) (w.setCell ⟨gs, 0, none⟩ (.int .i64 (wrap64 (wrap64 S + n)))) := by
  refine ⟨rfl, ?_, ?_, (Below.refl _ _).setCell (p := ⟨gs, 0, none⟩) (Nat.le_refl _) _⟩
  · rw [← wrap_step S n]
    exact hs.put 0 _
  · rw [hv]
    exact hov.away (p := ⟨gs, 0, none⟩) (by simp; omega) _
theorem add1_any (S n : Int) (gs go : Nat) (w : World) (wn : (Lit.int .i64 n).wf = true) (ho : -4611686018427387904 ≤ ov S ∧ ov S ≤ 4611686018427387904) (hne : gs < go)
    (hs : Blk w gs #[.int .i64 (wrap64 S)] 2) (hov : Blk w go #[.int .i64 (ov S)] 3) :
    Calls Try.prog 75 #[.int .i64 n, .pointer (some ⟨gs, 0, none⟩), .pointer (some ⟨go, 0, none⟩)] w (Added S n gs go w) := by
  obtain ⟨ho1, ho2⟩ := ho
  have c1 : w.cell? ⟨gs, 0, none⟩ = some (.int .i64 (wrap64 S)) := hs.cell 0
  have c2 : w.cell? ⟨go, 0, none⟩ = some (.int .i64 (ov S)) := hov.cell 0
  have f1 := hs.free 0
  have f2 := hov.free 0
  by_cases h1 : 0 ≤ wrap64 S ∧ 0 ≤ n ∧ wrap64 (wrap64 S + n) < 0
  · have E := keep (ov_step_up wn h1.1 h1.2.1 h1.2.2)
    obtain ⟨h11, h12, h13⟩ := h1
    go_enter Try.func75, Try.ntmps75
    go_wp2
    go_end0
    exact added_two hne hs hov E.out
  · by_cases h2 : wrap64 S < 0 ∧ n < 0 ∧ 0 ≤ wrap64 (wrap64 S + n)
    · have E := keep (ov_step_down wn h2.1 h2.2.1 h2.2.2)
      obtain ⟨h21, h22, h23⟩ := h2
      clear h1
      go_enter Try.func75, Try.ntmps75
      go_wp2
      go_end0
      exact added_two hne hs hov E.out
    · have E := keep (ov_step_none wn h1 h2)
      replace h1 := keep h1
      replace h2 := keep h2
      go_enter Try.func75, Try.ntmps75
      go_wp2
      all_goals first
        | (exfalso; exact h1.out ⟨by assumption, by assumption, by assumption⟩)
        | (exfalso; exact h2.out ⟨by assumption, by assumption, by assumption⟩)
        | (go_end0; exact added_one hne hs hov E.out)

theorem ov_bd {n : Int} (h : -85070591730234615865843651857942052864 ≤ n ∧ n ≤ 85070591730234615865843651857942052864) : -4611686018427387904 ≤ ov n ∧ ov n ≤ 4611686018427387904 := by unfold ov; omega

/-- the error that a sum is told with -/
def ovErr (n : Int) : Int := if inI n then 0 else 30
def SumEnd (n : Int) (B : Nat) (w : World) (e : Ending) (w' : World) : Prop := e = .returned (.tuple #[.int .i64 (fitV n), .int .i64 (ovErr n)]) ∧ Below B w w'
theorem sumEnd_over {n : Int} {B : Nat} {w w' : World} (h : inI n = false) (hb : Below B w w') : SumEnd n B w (.returned (.tuple #[.int .i64 0, .int .i64 30])) w' := by
  unfold SumEnd fitV ovErr
  rw [h]
  exact ⟨rfl, hb⟩
theorem sumEnd_fits {n : Int} {B : Nat} {w w' : World} (h : inI n = true) (hb : Below B w w') : SumEnd n B w (.returned (.tuple #[.int .i64 (wrap64 n), .int .i64 0])) w' := by
  have h2 := inI_iff.1 h
  unfold SumEnd fitV ovErr
  rw [h, wrap64_of h2.1 h2.2]
  exact ⟨rfl, hb⟩
theorem sumEnd_is {n : Int} {B : Nat} {w w' : World} (h : inI n = true) (hb : Below B w w') : SumEnd n B w (.returned (.tuple #[.int .i64 n, .int .i64 0])) w' := by
  unfold SumEnd fitV ovErr
  rw [h]
  exact ⟨rfl, hb⟩

theorem sum_any (A : Option Addr) (n c : Nat) (zs : List Int) (w : World) (hz : ∀ n ∈ zs, (Lit.int .i64 n).wf = true) (hr : Row w w.heap.size 1 A n (ints .i64 zs)) (hn : n ≤ 9223372036854775807) :
    Calls Try.prog 42 #[.slice A n c] w (SumEnd (tot zs) w.heap.size w) := by
  have hl : zs.length = n := by have := hr.1; simpa [ints] using this
  have HL := keep hl
  clear hl
  go_enter Try.func42, Try.ntmps42
  go_wp2_with fail
  go_loopw [8, 12] (fun x i wr => ∃ k : Nat, k ≤ n ∧ i = .int .i64 k ∧ Blk wr w.heap.size #[.int .i64 (wrap64 (tot (zs.take k)))] 2 ∧ Blk wr (w.heap.size + 1) #[.int .i64 (ov (tot (zs.take k)))] 3 ∧ Below w.heap.size w wr) (fun _ i _ => n - (intOf i).toNat)
  case atStart =>
    have ez : wrap64 (tot (zs.take 0)) = 0 := by simp [tot, wrap64]
    have eo : ov (tot (zs.take 0)) = 0 := by simp [tot, ov]
    refine ⟨0, by omega, rfl, by rw [ez]; exact (Blk.born w _ _).alloc _, ?_, ((Below.refl _ _).alloc (Nat.le_refl _) _).alloc (by simp) _⟩
    rw [eo]
    have := Blk.born (w.alloc (.cells #[.int .i64 0] 2)) #[.int .i64 0] 3
    simpa using this
  case round =>
    obtain ⟨k, hk, rfl, hs, hov, hB⟩ := hrel
    by_cases hlt : k < n
    · obtain ⟨b, off, rfl, hbB, hcell⟩ := hr.2 (by omega)
      have hc : wr.cell? ⟨b, off + k, none⟩ = some (.int .i64 (zs.getD k 0)) := (hB.cell (p := ⟨b, off + k, none⟩) hbB).trans (hcell k _ (ints_at (by rw [HL.out]; exact hlt)))
      have wn := keep (getD_wf hz k)
      have hbd := ov_bd (tot_take_bd hz k (by omega))
      have e1 := keep (tot_snoc zs k (by rw [HL.out]; exact hlt))
      clear hcell
      go_wp2_with fail
      refine (add1_any (tot (zs.take k)) _ _ _ _ wn.out hbd (by omega) hs hov).mono ?_
      rintro e w5 ⟨rfl, hs5, hov5, hb5⟩
      go_wp2_with fail
      go_roundw
      case rel => exact ⟨k + 1, by omega, by go_num, by rw [e1.out]; exact hs5, by rw [e1.out]; exact hov5, hB.trans hb5⟩
      case measure => simp [intOf]; omega
    · obtain rfl : k = n := by omega
      have e3 := keep (show zs.take k = zs by rw [List.take_of_length_le (by rw [HL.out]; omega)])
      rw [e3.out] at hs hov
      have c1 : wr.cell? ⟨w.heap.size, 0, none⟩ = some (.int .i64 (wrap64 (tot zs))) := hs.cell 0
      have c2 : wr.cell? ⟨w.heap.size + 1, 0, none⟩ = some (.int .i64 (ov (tot zs))) := hov.cell 0
      cases hi : inI (tot zs)
      · have h0 : (ov (tot zs) != 0) = true := by
          rw [bne_iff_ne, Ne, ov_zero_iff, hi]
          simp
        have HI := keep hi
        clear hi
        go_wp2_with fail
        go_ret2
        exact sumEnd_over HI.out hB
      · have h0 : (ov (tot zs) != 0) = false := by
          have := (ov_zero_iff (tot zs)).2 hi
          simp [this]
        have HI := keep hi
        clear hi
        go_wp2_with fail
        go_ret2
        exact sumEnd_fits HI.out hB

set_option maxHeartbeats 2000000 in
theorem refSum_any (A : Option Addr) (n c : Nat) (zs : List Int) (w : World) (hz : ∀ n ∈ zs, (Lit.int .i64 n).wf = true) (hr : Row w w.heap.size 1 A n (ints .i64 zs)) (hn : n ≤ 9223372036854775807) :
    Calls Try.prog 43 #[.slice A n c] w (SumEnd (tot zs) w.heap.size w) := by
  have hl : zs.length = n := by have := hr.1; simpa [ints] using this
  have HL := keep hl
  clear hl
  go_enter Try.func43, Try.ntmps43
  go_wp2_with fail
  go_loopw [5] (fun i wr => ∃ k : Nat, k ≤ n ∧ i = .int .i64 k ∧ Blk wr w.heap.size (dg (tot (zs.take k))) 84 ∧ Below w.heap.size w wr) (fun i _ => n - (intOf i).toNat)
  case atStart =>
    refine ⟨0, by omega, rfl, by exact Blk.born w _ _, (Below.refl _ _).alloc (Nat.le_refl _) _⟩
  case round =>
    obtain ⟨k, hk, rfl, hs, hB⟩ := hrel
    obtain ⟨s0, s1, s2, s3⟩ := cells4 hs
    obtain ⟨f0, f1, f2, f3⟩ := free4 hs
    have hsz := hs.lt
    by_cases hlt : k < n
    · obtain ⟨b, off, rfl, hbB, hcell⟩ := hr.2 (by omega)
      have hc : wr.cell? ⟨b, off + k, none⟩ = some (.int .i64 (zs.getD k 0)) := (hB.cell (p := ⟨b, off + k, none⟩) hbB).trans (hcell k _ (ints_at (by rw [HL.out]; exact hlt)))
      have wn := keep (getD_wf hz k)
      have ft : far (tot (zs.take k)) := by have := tot_take_bd hz k (by omega); unfold far; omega
      have HO := Lib.hid (fun W : World => of_any (zs.getD k 0) W wn.out)
      have HP := Lib.hid (fun W : World => plus_any (tot (zs.take k)) (zs.getD k 0) W ft (far_i64 wn.out))
      have e1 := keep (tot_snoc zs k (by rw [HL.out]; exact hlt))
      clear hcell ft
      go_wp2_with fail
      have hk0 : (0 : Int) ≤ (k : Int) := by omega
      have hkn : (k : Int) < (n : Int) := by omega
      go_region_with (first
        | (go_at_call 77; refine (HO.out _).mono ?_; rintro e w1 ⟨rfl, hb1⟩; have hs1 := hs.drew.call hb1; obtain ⟨s10, s11, s12, s13⟩ := cells4 hs1)
        | (go_at_call 76; refine (HP.out _).mono ?_; rintro e w2 ⟨rfl, hb2⟩; have hs2 := hs1.call hb2; obtain ⟨s20, s21, s22, s23⟩ := cells4 hs2; obtain ⟨f20, f21, f22, f23⟩ := free4 hs2))
      all_goals
        go_wp2_with fail
        go_roundw
        case rel =>
          have hw2 : w.heap.size ≤ w1.heap.size := by have := hb1.size; simp at this; omega
          have hB2 := (hB.drew.trans (hb1.mono (show w.heap.size ≤ wr.drew.heap.size by simp; omega))).trans (hb2.mono hw2)
          refine ⟨k + 1, by omega, by go_num, ?_, below_set4 hB2 (g := w.heap.size) (Nat.le_refl _) (tot (zs.take k) + zs.getD k 0)⟩
          rw [e1.out]
          exact blk_set4 hs2 (tot (zs.take k) + zs.getD k 0)
        case measure => simp [intOf]; omega
    · obtain rfl : k = n := by omega
      have e3 := keep (show zs.take k = zs by rw [List.take_of_length_le (by rw [HL.out]; omega)])
      rw [e3.out] at hs s0 s1 s2 s3
      have HF := Lib.hid (fun W : World => fit_any (tot zs) W)
      cases hi : inI (tot zs)
      all_goals
        have HI := keep hi
        go_wp2_with fail
        refine (HF.out _).mono ?_
        unfold ToldB fitV
        rw [hi]
        rintro e w7 ⟨rfl, h7⟩
        clear hi
        go_wp2_with fail
        go_ret2
      · exact sumEnd_over HI.out (hB.trans (h7.mono hB.size))
      · exact sumEnd_is HI.out (hB.trans (h7.mono hB.size))
end Go.Proofs.Ytepogieeaidnfaa.num
