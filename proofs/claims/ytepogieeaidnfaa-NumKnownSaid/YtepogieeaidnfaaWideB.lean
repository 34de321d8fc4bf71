import Derived.Test.YtepogieeaidnfaaRows
import Derived.Test.YtepogieeaidnfaaBase
import Derived.Test.YtepogieeaidnfaaWide
/- The reference's Sub, Mul, Abs, Sum, FloorMod, FloorDiv, Down, Clamp (tidepoolref03): exact. -/
namespace Go.Proofs.Ytepogieeaidnfaa.num
open Go.ChangeShapes Go.WideShapes Go.ChangeAt Go.RowKit

theorem refSub_any (a b : Int) (w : World) (wa : (Lit.int .i64 a).wf = true) (wb : (Lit.int .i64 b).wf = true) :
    Calls Try.prog 55 #[.int .i64 a, .int .i64 b] w (ToldB (a - b) w) := by
  have hs : Hid (a + -b = a - b) := keep (by omega)
  have hfb : far (-b) := by have := wf_i64 wb; unfold far; omega
  go_enter Try.func55, Try.ntmps55
  go_wp2_with fail
  refine (of_any a _ wa).mono ?_
  rintro e w1 ⟨rfl, hb1⟩
  go_wp2_with fail
  refine (of_any b _ wb).mono ?_
  rintro e w2 ⟨rfl, hb2⟩
  go_wp2_with fail
  refine (less_any b _ (far_i64 wb)).mono ?_
  rintro e w3 ⟨rfl, hb3⟩
  go_wp2_with fail
  refine (plus_any a (-b) _ (far_i64 wa) hfb).mono ?_
  rw [hs.out]
  rintro e w4 ⟨rfl, hb4⟩
  go_wp2_with fail
  refine (fit_any (a - b) _).mono ?_
  rintro e w5 ⟨rfl, hb5⟩
  go_wp2_with fail
  go_ret2
  exact ⟨rfl, (((hb1.trans (hb2.mono hb1.size)).trans (hb3.mono (Nat.le_trans hb1.size hb2.size))).trans (hb4.mono (Nat.le_trans hb1.size (Nat.le_trans hb2.size hb3.size)))).trans (hb5.mono (Nat.le_trans hb1.size (Nat.le_trans hb2.size (Nat.le_trans hb3.size hb4.size))))⟩


/-- the cells of a wide number -/
def dg (x : Int) : Array Value := #[.int .i64 (wA x), .int .i64 (wB x), .int .i64 (wC x), .int .i64 (wD x)]
theorem cells4 {w : World} {g : Nat} {x : Int} {t : TypeId} (h : Blk w g (dg x) t) :
    w.cell? ⟨g, 0, none⟩ = some (.int .i64 (wA x)) ∧ w.cell? ⟨g, 1, none⟩ = some (.int .i64 (wB x)) ∧ w.cell? ⟨g, 2, none⟩ = some (.int .i64 (wC x)) ∧ w.cell? ⟨g, 3, none⟩ = some (.int .i64 (wD x)) :=
  ⟨h.cell 0, h.cell 1, h.cell 2, h.cell 3⟩
theorem free4 {w : World} {g : Nat} {x : Int} {t : TypeId} (h : Blk w g (dg x) t) :
    w.frozen? ⟨g, 0, none⟩ = false ∧ w.frozen? ⟨g, 1, none⟩ = false ∧ w.frozen? ⟨g, 2, none⟩ = false ∧ w.frozen? ⟨g, 3, none⟩ = false :=
  ⟨h.free 0, h.free 1, h.free 2, h.free 3⟩
def set4 (w : World) (g : Nat) (y : Int) : World := (((w.setCell ⟨g, 0, none⟩ (.int .i64 (wA y))).setCell ⟨g, 1, none⟩ (.int .i64 (wB y))).setCell ⟨g, 2, none⟩ (.int .i64 (wC y))).setCell ⟨g, 3, none⟩ (.int .i64 (wD y))
theorem blk_set4 {w : World} {g : Nat} {x : Int} {t : TypeId} (h : Blk w g (dg x) t) (y : Int) : Blk (set4 w g y) g (dg y) t :=
  (((h.put 0 _).put 1 _).put 2 _).put 3 _
theorem blk_set4_away {w : World} {g g' : Nat} {cs : Array Value} {t : TypeId} (h : Blk w g cs t) (hne : g ≠ g') (y : Int) : Blk (set4 w g' y) g cs t :=
  (((h.away (p := ⟨g', 0, none⟩) hne _).away (p := ⟨g', 1, none⟩) hne _).away (p := ⟨g', 2, none⟩) hne _).away (p := ⟨g', 3, none⟩) hne _
theorem below_set4 {B : Nat} {a w : World} (h : Below B a w) {g : Nat} (hg : B ≤ g) (y : Int) : Below B a (set4 w g y) :=
  (((h.setCell (p := ⟨g, 0, none⟩) hg _).setCell (p := ⟨g, 1, none⟩) hg _).setCell (p := ⟨g, 2, none⟩) hg _).setCell (p := ⟨g, 3, none⟩) hg _
theorem size_set4 (w : World) (g : Nat) (y : Int) : (set4 w g y).heap.size = w.heap.size := by simp [set4, World.setCell]

-- MUL
set_option maxHeartbeats 1600000 in
theorem refMul_pos (a : Int) (y : Nat) (w : World) (wa : (Lit.int .i64 a).wf = true) (wb : (Lit.int .i64 (y : Int)).wf = true) :
    Calls Try.prog 56 #[.int .i64 a, .int .i64 y] w (ToldB (a * y) w) := by
  have ba : Hid (-9223372036854775808 ≤ a ∧ a ≤ 9223372036854775808) := keep (by have := wf_i64 wa; omega)
  replace ba := ba.out
  have hy : y < 18446744073709551616 := by have := wf_i64 wb; omega
  have hy' : y ≤ 18446744073709551616 := by omega
  go_enter Try.func56, Try.ntmps56
  go_wp2_with fail
  refine (of_any a _ wa).mono ?_
  rintro e w1 ⟨rfl, hb1⟩
  go_wp2_with fail
  refine (of_any y _ wb).mono ?_
  rintro e w2 ⟨rfl, hb2⟩
  have hw2 : w.heap.size ≤ w2.heap.size := Nat.le_trans hb1.size hb2.size
  go_wp2_with fail
  have HX0 : Blk (((w2.alloc (.cells (dg a) 84)).alloc (.cells (dg y) 84)).alloc (.cells (dg 0) 84)) w2.heap.size (dg (a * 2 ^ 0)) 84 := by
    rw [Int.pow_zero, Int.mul_one]; exact ((Blk.born w2 _ _).alloc _).alloc _
  have HY0 : Blk (((w2.alloc (.cells (dg a) 84)).alloc (.cells (dg y) 84)).alloc (.cells (dg 0) 84)) (w2.heap.size + 1) (dg y) 84 := by
    have := (Blk.born (w2.alloc (.cells (dg a) 84)) (dg y) 84).alloc (.cells (dg 0) 84)
    simpa using this
  have HS0 : Blk (((w2.alloc (.cells (dg a) 84)).alloc (.cells (dg y) 84)).alloc (.cells (dg 0) 84)) (w2.heap.size + 1 + 1) (dg (a * ((y % 2 ^ 0 : Nat) : Int))) 84 := by
    have := Blk.born ((w2.alloc (.cells (dg a) 84)).alloc (.cells (dg y) 84)) (dg 0) 84
    simp only [Nat.pow_zero, Nat.mod_one, Int.natCast_zero, Int.mul_zero]
    simpa using this
  have HB0 : Below w.heap.size w (((w2.alloc (.cells (dg a) 84)).alloc (.cells (dg y) 84)).alloc (.cells (dg 0) 84)) :=
    (((hb1.trans (hb2.mono hb1.size)).alloc hw2 _).alloc (by simp; omega) _).alloc (by simp; omega) _
  go_loopw [9, 10] (fun i d wr => ∃ k : Nat, k ≤ 64 ∧ i = .int .i64 k ∧ Blk wr w2.heap.size (dg (a * 2 ^ k)) 84 ∧ Blk wr (w2.heap.size + 1) (dg (y : Int)) 84 ∧ Blk wr (w2.heap.size + 1 + 1) (dg (a * ((y % 2 ^ k : Nat) : Int))) 84 ∧ Below w.heap.size w wr) (fun i _ _ => 64 - (intOf i).toNat)
  case atStart => exact ⟨0, by omega, rfl, HX0, HY0, HS0, HB0⟩
  case round =>
    obtain ⟨k, hk, rfl, hX, hY, hS, hB⟩ := hrel
    clear HX0 HY0 HS0 HB0
    obtain ⟨x0, x1, x2, x3⟩ := cells4 hX
    obtain ⟨y0, y1, y2, y3⟩ := cells4 hY
    obtain ⟨s0, s1, s2, s3⟩ := cells4 hS
    have hsz := hS.lt
    by_cases hlt : k < 64
    · have fx : far (a * 2 ^ k) := far_mul_pow ba.1 ba.2 (by omega)
      have fs : far (a * ((y % 2 ^ k : Nat) : Int)) := far_mul ba.1 ba.2 (Nat.le_trans (Nat.mod_le _ _) hy')
      have HP := Lib.hid (fun W : World => plus_any (a * ((y % 2 ^ k : Nat) : Int)) (a * 2 ^ k) W fs fx)
      have HT := Lib.hid (fun W : World => plus_any (a * 2 ^ k) (a * 2 ^ k) W fx fx)
      have e2 := keep (twice a k)
      clear fx fs
      by_cases h32 : k < 32
      · rcases Nat.mod_two_eq_zero_or_one (y / 2 ^ k) with hbit | hbit
        · have hbt : (bits BinOp.and IntKind.i64 (wA (y : Int) / 2 ^ k) 1 == 1) = false := by rw [bit_low y k h32, hbit]; rfl
          have e1 := keep (acc_none a y k hbit)
          clear hbit
          go_wp2_with fail
          refine (HT.out _).mono ?_
          rw [e2.out]
          rintro e w6 ⟨rfl, h6⟩
          have hX6 := hX.call h6
          have hS6 := hS.call h6
          have hY6 := hY.call h6
          have hB6 := hB.trans (h6.mono hB.size)
          rw [e1.out] at hS6
          clear x0 x1 x2 x3 s0 s1 s2 s3 y0 y1 y2 y3
          obtain ⟨x60, x61, x62, x63⟩ := cells4 hX6
          obtain ⟨f60, f61, f62, f63⟩ := free4 hX6
          go_wp2_with fail
          go_roundw
          case rel => exact ⟨k + 1, by omega, by go_num, blk_set4 hX6 (a * 2 ^ (k + 1)), blk_set4_away hY6 (by omega) (a * 2 ^ (k + 1)), blk_set4_away hS6 (by omega) (a * 2 ^ (k + 1)), below_set4 hB6 (g := w2.heap.size) (by omega) (a * 2 ^ (k + 1))⟩
          case measure => simp [intOf]; omega
        · have hbt : (bits BinOp.and IntKind.i64 (wA (y : Int) / 2 ^ k) 1 == 1) = true := by rw [bit_low y k h32, hbit]; rfl
          have e1 := keep (acc_one a y k hbit)
          clear hbit
          go_wp2_with fail
          refine (HP.out _).mono ?_
          rw [e1.out]
          rintro e w5 ⟨rfl, h5⟩
          have hX5 := hX.call h5
          have hS5 := hS.call h5
          obtain ⟨x50, x51, x52, x53⟩ := cells4 hX5
          obtain ⟨s50, s51, s52, s53⟩ := cells4 hS5
          obtain ⟨f50, f51, f52, f53⟩ := free4 hS5
          clear x0 x1 x2 x3 s0 s1 s2 s3 y0 y1 y2 y3
          go_wp2_with fail
          refine (HT.out _).mono ?_
          rw [e2.out]
          rintro e w6 ⟨rfl, h6⟩
          have h6' : Below (set4 w5 (w2.heap.size + 1 + 1) (a * ((y % 2 ^ (k + 1) : Nat) : Int))).heap.size (set4 w5 (w2.heap.size + 1 + 1) (a * ((y % 2 ^ (k + 1) : Nat) : Int))) w6 := h6
          clear h6
          have hX6 := (blk_set4_away hX5 (by omega) (a * ((y % 2 ^ (k + 1) : Nat) : Int))).call h6'
          have hS6 := (blk_set4 hS5 (a * ((y % 2 ^ (k + 1) : Nat) : Int))).call h6'
          have hY6 := (blk_set4_away (hY.call h5) (by omega) (a * ((y % 2 ^ (k + 1) : Nat) : Int))).call h6'
          have hB6 := (below_set4 (hB.trans (h5.mono hB.size)) (g := (w2.heap.size + 1 + 1)) (by omega) (a * ((y % 2 ^ (k + 1) : Nat) : Int))).trans (h6'.mono (by rw [size_set4]; have := hB.size; have := h5.size; omega))
          clear x50 x51 x52 x53 s50 s51 s52 s53 f50 f51 f52 f53
          obtain ⟨x60, x61, x62, x63⟩ := cells4 hX6
          obtain ⟨f60, f61, f62, f63⟩ := free4 hX6
          go_wp2_with fail
          go_roundw
          case rel => exact ⟨k + 1, by omega, by go_num, blk_set4 hX6 (a * 2 ^ (k + 1)), blk_set4_away hY6 (by omega) (a * 2 ^ (k + 1)), blk_set4_away hS6 (by omega) (a * 2 ^ (k + 1)), below_set4 hB6 (g := w2.heap.size) (by omega) (a * 2 ^ (k + 1))⟩
          case measure => simp [intOf]; omega
      · rcases Nat.mod_two_eq_zero_or_one (y / 2 ^ k) with hbit | hbit
        · have hbt : (bits BinOp.and IntKind.i64 (wB (y : Int) / 2 ^ (k - 32)) 1 == 1) = false := by rw [bit_high y k (by omega) hlt, hbit]; rfl
          have e1 := keep (acc_none a y k hbit)
          clear hbit
          go_wp2_with fail
          refine (HT.out _).mono ?_
          rw [e2.out]
          rintro e w6 ⟨rfl, h6⟩
          have hX6 := hX.call h6
          have hS6 := hS.call h6
          have hY6 := hY.call h6
          have hB6 := hB.trans (h6.mono hB.size)
          rw [e1.out] at hS6
          clear x0 x1 x2 x3 s0 s1 s2 s3 y0 y1 y2 y3
          obtain ⟨x60, x61, x62, x63⟩ := cells4 hX6
          obtain ⟨f60, f61, f62, f63⟩ := free4 hX6
          go_wp2_with fail
          go_roundw
          case rel => exact ⟨k + 1, by omega, by go_num, blk_set4 hX6 (a * 2 ^ (k + 1)), blk_set4_away hY6 (by omega) (a * 2 ^ (k + 1)), blk_set4_away hS6 (by omega) (a * 2 ^ (k + 1)), below_set4 hB6 (g := w2.heap.size) (by omega) (a * 2 ^ (k + 1))⟩
          case measure => simp [intOf]; omega
        · have hbt : (bits BinOp.and IntKind.i64 (wB (y : Int) / 2 ^ (k - 32)) 1 == 1) = true := by rw [bit_high y k (by omega) hlt, hbit]; rfl
          have e1 := keep (acc_one a y k hbit)
          clear hbit
          go_wp2_with fail
          refine (HP.out _).mono ?_
          rw [e1.out]
          rintro e w5 ⟨rfl, h5⟩
          have hX5 := hX.call h5
          have hS5 := hS.call h5
          obtain ⟨x50, x51, x52, x53⟩ := cells4 hX5
          obtain ⟨s50, s51, s52, s53⟩ := cells4 hS5
          obtain ⟨f50, f51, f52, f53⟩ := free4 hS5
          clear x0 x1 x2 x3 s0 s1 s2 s3 y0 y1 y2 y3
          go_wp2_with fail
          refine (HT.out _).mono ?_
          rw [e2.out]
          rintro e w6 ⟨rfl, h6⟩
          have h6' : Below (set4 w5 (w2.heap.size + 1 + 1) (a * ((y % 2 ^ (k + 1) : Nat) : Int))).heap.size (set4 w5 (w2.heap.size + 1 + 1) (a * ((y % 2 ^ (k + 1) : Nat) : Int))) w6 := h6
          clear h6
          have hX6 := (blk_set4_away hX5 (by omega) (a * ((y % 2 ^ (k + 1) : Nat) : Int))).call h6'
          have hS6 := (blk_set4 hS5 (a * ((y % 2 ^ (k + 1) : Nat) : Int))).call h6'
          have hY6 := (blk_set4_away (hY.call h5) (by omega) (a * ((y % 2 ^ (k + 1) : Nat) : Int))).call h6'
          have hB6 := (below_set4 (hB.trans (h5.mono hB.size)) (g := (w2.heap.size + 1 + 1)) (by omega) (a * ((y % 2 ^ (k + 1) : Nat) : Int))).trans (h6'.mono (by rw [size_set4]; have := hB.size; have := h5.size; omega))
          clear x50 x51 x52 x53 s50 s51 s52 s53 f50 f51 f52 f53
          obtain ⟨x60, x61, x62, x63⟩ := cells4 hX6
          obtain ⟨f60, f61, f62, f63⟩ := free4 hX6
          go_wp2_with fail
          go_roundw
          case rel => exact ⟨k + 1, by omega, by go_num, blk_set4 hX6 (a * 2 ^ (k + 1)), blk_set4_away hY6 (by omega) (a * 2 ^ (k + 1)), blk_set4_away hS6 (by omega) (a * 2 ^ (k + 1)), below_set4 hB6 (g := w2.heap.size) (by omega) (a * 2 ^ (k + 1))⟩
          case measure => simp [intOf]; omega
    · obtain rfl : k = 64 := by omega
      have e3 : Hid (a * ((y % 2 ^ 64 : Nat) : Int) = a * (y : Int)) := keep (by rw [Nat.mod_eq_of_lt (by omega)])
      have HF := Lib.hid (fun W : World => fit_any (a * ((y % 2 ^ 64 : Nat) : Int)) W)
      clear x0 x1 x2 x3 y0 y1 y2 y3
      go_wp2_with fail
      refine (HF.out _).mono ?_
      rw [e3.out]
      rintro e w7 ⟨rfl, h7⟩
      go_wp2_with fail
      go_ret2
      exact ⟨rfl, hB.trans (h7.mono hB.size)⟩
set_option maxHeartbeats 1600000 in
theorem refMul_neg (a b : Int) (y : Nat) (w : World) (wa : (Lit.int .i64 a).wf = true) (wb : (Lit.int .i64 b).wf = true) (hb0 : b < 0) (hby : -b = (y : Int)) :
    Calls Try.prog 56 #[.int .i64 a, .int .i64 b] w (ToldB (-a * y) w) := by
  have ba : -9223372036854775808 ≤ -a ∧ -a ≤ 9223372036854775808 := by have := wf_i64 wa; omega
  have hy : y < 18446744073709551616 := by have := wf_i64 wb; omega
  have hy' : y ≤ 18446744073709551616 := by omega
  replace hby := keep hby
  go_enter Try.func56, Try.ntmps56
  go_wp2_with fail
  refine (of_any a _ wa).mono ?_
  rintro e w1 ⟨rfl, hb1⟩
  go_wp2_with fail
  refine (of_any b _ wb).mono ?_
  rintro e w2 ⟨rfl, hb2⟩
  have hw2 : w.heap.size ≤ w2.heap.size := Nat.le_trans hb1.size hb2.size
  go_wp2_with fail
  refine (less_any a _ (far_i64 wa)).mono ?_
  rintro e w3 ⟨rfl, hb3⟩
  have hb3' : Below ((w2.alloc (.cells (dg a) 84)).alloc (.cells (dg b) 84)).heap.size ((w2.alloc (.cells (dg a) 84)).alloc (.cells (dg b) 84)) w3 := hb3
  clear hb3
  have hs3 : w2.heap.size + 1 + 1 ≤ w3.heap.size := by have := hb3'.size; simpa using this
  have kx3 : Blk w3 w2.heap.size (dg a) 84 := ((Blk.born w2 _ _).alloc _).call hb3'
  have ky3 : Blk w3 (w2.heap.size + 1) (dg b) 84 := by
    have := (Blk.born (w2.alloc (.cells (dg a) 84)) (dg b) 84).call hb3'
    simpa using this
  have kB3 : Below w.heap.size w w3 := (((hb1.trans (hb2.mono hb1.size)).alloc hw2 _).alloc (by simp; omega) _).trans (hb3'.mono (by simp; omega))
  obtain ⟨x0, x1, x2, x3⟩ := cells4 kx3
  obtain ⟨y0, y1, y2, y3⟩ := cells4 ky3
  obtain ⟨fx0, fx1, fx2, fx3⟩ := free4 kx3
  go_wp2_with fail
  refine (less_any b _ (far_i64 wb)).mono ?_
  rw [hby.out]
  rintro e w4 ⟨rfl, hb4⟩
  have hb4' : Below (set4 w3 w2.heap.size (-a)).heap.size (set4 w3 w2.heap.size (-a)) w4 := hb4
  clear hb4 x0 x1 x2 x3 y0 y1 y2 y3 fx0 fx1 fx2 fx3
  have hs4 : w2.heap.size + 1 + 1 ≤ w4.heap.size := by have := hb4'.size; rw [size_set4] at this; omega
  have kx4 := (blk_set4 kx3 (-a)).call hb4'
  have ky4 := (blk_set4_away ky3 (by omega) (-a)).call hb4'
  have kB4 := (below_set4 kB3 (g := w2.heap.size) (by omega) (-a)).trans (hb4'.mono (by rw [size_set4]; omega))
  obtain ⟨y0, y1, y2, y3⟩ := cells4 ky4
  obtain ⟨fy0, fy1, fy2, fy3⟩ := free4 ky4
  go_wp2_with fail
  clear y0 y1 y2 y3 fy0 fy1 fy2 fy3
  have HX0 : Blk ((set4 w4 (w2.heap.size + 1) y).alloc (.cells (dg 0) 84)) w2.heap.size (dg (-a * 2 ^ 0)) 84 := by
    rw [Int.pow_zero, Int.mul_one]; exact (blk_set4_away kx4 (by omega) y).alloc _
  have HY0 : Blk ((set4 w4 (w2.heap.size + 1) y).alloc (.cells (dg 0) 84)) (w2.heap.size + 1) (dg y) 84 := (blk_set4 ky4 y).alloc _
  have HS0 : Blk ((set4 w4 (w2.heap.size + 1) y).alloc (.cells (dg 0) 84)) w4.heap.size (dg (-a * ((y % 2 ^ 0 : Nat) : Int))) 84 := by
    have := Blk.born (set4 w4 (w2.heap.size + 1) y) (dg 0) 84
    rw [size_set4] at this
    simp only [Nat.pow_zero, Nat.mod_one, Int.natCast_zero, Int.mul_zero]
    exact this
  have HB0 : Below w.heap.size w ((set4 w4 (w2.heap.size + 1) y).alloc (.cells (dg 0) 84)) :=
    (below_set4 kB4 (g := w2.heap.size + 1) (by omega) y).alloc (by rw [size_set4]; omega) _
  go_loopw [9, 10] (fun i d wr => ∃ k : Nat, k ≤ 64 ∧ i = .int .i64 k ∧ Blk wr w2.heap.size (dg ((-a) * 2 ^ k)) 84 ∧ Blk wr (w2.heap.size + 1) (dg (y : Int)) 84 ∧ Blk wr w4.heap.size (dg ((-a) * ((y % 2 ^ k : Nat) : Int))) 84 ∧ Below w.heap.size w wr) (fun i _ _ => 64 - (intOf i).toNat)
  case atStart => exact ⟨0, by omega, rfl, HX0, HY0, HS0, HB0⟩
  case round =>
    obtain ⟨k, hk, rfl, hX, hY, hS, hB⟩ := hrel
    clear HX0 HY0 HS0 HB0
    obtain ⟨x0, x1, x2, x3⟩ := cells4 hX
    obtain ⟨y0, y1, y2, y3⟩ := cells4 hY
    obtain ⟨s0, s1, s2, s3⟩ := cells4 hS
    have hsz := hS.lt
    by_cases hlt : k < 64
    · have fx : far ((-a) * 2 ^ k) := far_mul_pow ba.1 ba.2 (by omega)
      have fs : far ((-a) * ((y % 2 ^ k : Nat) : Int)) := far_mul ba.1 ba.2 (Nat.le_trans (Nat.mod_le _ _) hy')
      have HP := Lib.hid (fun W : World => plus_any ((-a) * ((y % 2 ^ k : Nat) : Int)) ((-a) * 2 ^ k) W fs fx)
      have HT := Lib.hid (fun W : World => plus_any ((-a) * 2 ^ k) ((-a) * 2 ^ k) W fx fx)
      have e2 := keep (twice (-a) k)
      clear fx fs
      by_cases h32 : k < 32
      · rcases Nat.mod_two_eq_zero_or_one (y / 2 ^ k) with hbit | hbit
        · have hbt : (bits BinOp.and IntKind.i64 (wA (y : Int) / 2 ^ k) 1 == 1) = false := by rw [bit_low y k h32, hbit]; rfl
          have e1 := keep (acc_none (-a) y k hbit)
          clear hbit
          go_wp2_with fail
          refine (HT.out _).mono ?_
          rw [e2.out]
          rintro e w6 ⟨rfl, h6⟩
          have hX6 := hX.call h6
          have hS6 := hS.call h6
          have hY6 := hY.call h6
          have hB6 := hB.trans (h6.mono hB.size)
          rw [e1.out] at hS6
          clear x0 x1 x2 x3 s0 s1 s2 s3 y0 y1 y2 y3
          obtain ⟨x60, x61, x62, x63⟩ := cells4 hX6
          obtain ⟨f60, f61, f62, f63⟩ := free4 hX6
          go_wp2_with fail
          go_roundw
          case rel => exact ⟨k + 1, by omega, by go_num, blk_set4 hX6 ((-a) * 2 ^ (k + 1)), blk_set4_away hY6 (by omega) ((-a) * 2 ^ (k + 1)), blk_set4_away hS6 (by omega) ((-a) * 2 ^ (k + 1)), below_set4 hB6 (g := w2.heap.size) (by omega) ((-a) * 2 ^ (k + 1))⟩
          case measure => simp [intOf]; omega
        · have hbt : (bits BinOp.and IntKind.i64 (wA (y : Int) / 2 ^ k) 1 == 1) = true := by rw [bit_low y k h32, hbit]; rfl
          have e1 := keep (acc_one (-a) y k hbit)
          clear hbit
          go_wp2_with fail
          refine (HP.out _).mono ?_
          rw [e1.out]
          rintro e w5 ⟨rfl, h5⟩
          have hX5 := hX.call h5
          have hS5 := hS.call h5
          obtain ⟨x50, x51, x52, x53⟩ := cells4 hX5
          obtain ⟨s50, s51, s52, s53⟩ := cells4 hS5
          obtain ⟨f50, f51, f52, f53⟩ := free4 hS5
          clear x0 x1 x2 x3 s0 s1 s2 s3 y0 y1 y2 y3
          go_wp2_with fail
          refine (HT.out _).mono ?_
          rw [e2.out]
          rintro e w6 ⟨rfl, h6⟩
          have h6' : Below (set4 w5 w4.heap.size ((-a) * ((y % 2 ^ (k + 1) : Nat) : Int))).heap.size (set4 w5 w4.heap.size ((-a) * ((y % 2 ^ (k + 1) : Nat) : Int))) w6 := h6
          clear h6
          have hX6 := (blk_set4_away hX5 (by omega) ((-a) * ((y % 2 ^ (k + 1) : Nat) : Int))).call h6'
          have hS6 := (blk_set4 hS5 ((-a) * ((y % 2 ^ (k + 1) : Nat) : Int))).call h6'
          have hY6 := (blk_set4_away (hY.call h5) (by omega) ((-a) * ((y % 2 ^ (k + 1) : Nat) : Int))).call h6'
          have hB6 := (below_set4 (hB.trans (h5.mono hB.size)) (g := w4.heap.size) (by omega) ((-a) * ((y % 2 ^ (k + 1) : Nat) : Int))).trans (h6'.mono (by rw [size_set4]; have := hB.size; have := h5.size; omega))
          clear x50 x51 x52 x53 s50 s51 s52 s53 f50 f51 f52 f53
          obtain ⟨x60, x61, x62, x63⟩ := cells4 hX6
          obtain ⟨f60, f61, f62, f63⟩ := free4 hX6
          go_wp2_with fail
          go_roundw
          case rel => exact ⟨k + 1, by omega, by go_num, blk_set4 hX6 ((-a) * 2 ^ (k + 1)), blk_set4_away hY6 (by omega) ((-a) * 2 ^ (k + 1)), blk_set4_away hS6 (by omega) ((-a) * 2 ^ (k + 1)), below_set4 hB6 (g := w2.heap.size) (by omega) ((-a) * 2 ^ (k + 1))⟩
          case measure => simp [intOf]; omega
      · rcases Nat.mod_two_eq_zero_or_one (y / 2 ^ k) with hbit | hbit
        · have hbt : (bits BinOp.and IntKind.i64 (wB (y : Int) / 2 ^ (k - 32)) 1 == 1) = false := by rw [bit_high y k (by omega) hlt, hbit]; rfl
          have e1 := keep (acc_none (-a) y k hbit)
          clear hbit
          go_wp2_with fail
          refine (HT.out _).mono ?_
          rw [e2.out]
          rintro e w6 ⟨rfl, h6⟩
          have hX6 := hX.call h6
          have hS6 := hS.call h6
          have hY6 := hY.call h6
          have hB6 := hB.trans (h6.mono hB.size)
          rw [e1.out] at hS6
          clear x0 x1 x2 x3 s0 s1 s2 s3 y0 y1 y2 y3
          obtain ⟨x60, x61, x62, x63⟩ := cells4 hX6
          obtain ⟨f60, f61, f62, f63⟩ := free4 hX6
          go_wp2_with fail
          go_roundw
          case rel => exact ⟨k + 1, by omega, by go_num, blk_set4 hX6 ((-a) * 2 ^ (k + 1)), blk_set4_away hY6 (by omega) ((-a) * 2 ^ (k + 1)), blk_set4_away hS6 (by omega) ((-a) * 2 ^ (k + 1)), below_set4 hB6 (g := w2.heap.size) (by omega) ((-a) * 2 ^ (k + 1))⟩
          case measure => simp [intOf]; omega
        · have hbt : (bits BinOp.and IntKind.i64 (wB (y : Int) / 2 ^ (k - 32)) 1 == 1) = true := by rw [bit_high y k (by omega) hlt, hbit]; rfl
          have e1 := keep (acc_one (-a) y k hbit)
          clear hbit
          go_wp2_with fail
          refine (HP.out _).mono ?_
          rw [e1.out]
          rintro e w5 ⟨rfl, h5⟩
          have hX5 := hX.call h5
          have hS5 := hS.call h5
          obtain ⟨x50, x51, x52, x53⟩ := cells4 hX5
          obtain ⟨s50, s51, s52, s53⟩ := cells4 hS5
          obtain ⟨f50, f51, f52, f53⟩ := free4 hS5
          clear x0 x1 x2 x3 s0 s1 s2 s3 y0 y1 y2 y3
          go_wp2_with fail
          refine (HT.out _).mono ?_
          rw [e2.out]
          rintro e w6 ⟨rfl, h6⟩
          have h6' : Below (set4 w5 w4.heap.size ((-a) * ((y % 2 ^ (k + 1) : Nat) : Int))).heap.size (set4 w5 w4.heap.size ((-a) * ((y % 2 ^ (k + 1) : Nat) : Int))) w6 := h6
          clear h6
          have hX6 := (blk_set4_away hX5 (by omega) ((-a) * ((y % 2 ^ (k + 1) : Nat) : Int))).call h6'
          have hS6 := (blk_set4 hS5 ((-a) * ((y % 2 ^ (k + 1) : Nat) : Int))).call h6'
          have hY6 := (blk_set4_away (hY.call h5) (by omega) ((-a) * ((y % 2 ^ (k + 1) : Nat) : Int))).call h6'
          have hB6 := (below_set4 (hB.trans (h5.mono hB.size)) (g := w4.heap.size) (by omega) ((-a) * ((y % 2 ^ (k + 1) : Nat) : Int))).trans (h6'.mono (by rw [size_set4]; have := hB.size; have := h5.size; omega))
          clear x50 x51 x52 x53 s50 s51 s52 s53 f50 f51 f52 f53
          obtain ⟨x60, x61, x62, x63⟩ := cells4 hX6
          obtain ⟨f60, f61, f62, f63⟩ := free4 hX6
          go_wp2_with fail
          go_roundw
          case rel => exact ⟨k + 1, by omega, by go_num, blk_set4 hX6 ((-a) * 2 ^ (k + 1)), blk_set4_away hY6 (by omega) ((-a) * 2 ^ (k + 1)), blk_set4_away hS6 (by omega) ((-a) * 2 ^ (k + 1)), below_set4 hB6 (g := w2.heap.size) (by omega) ((-a) * 2 ^ (k + 1))⟩
          case measure => simp [intOf]; omega
    · obtain rfl : k = 64 := by omega
      have e3 : Hid ((-a) * ((y % 2 ^ 64 : Nat) : Int) = (-a) * (y : Int)) := keep (by rw [Nat.mod_eq_of_lt (by omega)])
      have HF := Lib.hid (fun W : World => fit_any ((-a) * ((y % 2 ^ 64 : Nat) : Int)) W)
      clear x0 x1 x2 x3 y0 y1 y2 y3
      go_wp2_with fail
      refine (HF.out _).mono ?_
      rw [e3.out]
      rintro e w7 ⟨rfl, h7⟩
      go_wp2_with fail
      go_ret2
      exact ⟨rfl, hB.trans (h7.mono hB.size)⟩

theorem refMul_any (a b : Int) (w : World) (wa : (Lit.int .i64 a).wf = true) (wb : (Lit.int .i64 b).wf = true) :
    Calls Try.prog 56 #[.int .i64 a, .int .i64 b] w (ToldB (a * b) w) := by
  by_cases h : b < 0
  · obtain ⟨y, hy⟩ := Int.eq_ofNat_of_zero_le (show 0 ≤ -b by omega)
    have e : a * b = -a * (y : Int) := by rw [← hy, Int.neg_mul_neg]
    rw [e]
    exact refMul_neg a b y w wa wb h hy
  · obtain ⟨y, rfl⟩ := Int.eq_ofNat_of_zero_le (show 0 ≤ b by omega)
    exact refMul_pos a y w wa wb
end Go.Proofs.Ytepogieeaidnfaa.num
