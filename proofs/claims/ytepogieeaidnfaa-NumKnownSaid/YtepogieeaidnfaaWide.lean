import Derived.Test.YtepogieeaidnfaaRows
import Derived.Test.YtepogieeaidnfaaBase
import Derived.Test.YtepogieeaidnfaaNum
/- The reference's wide numbers (tidepoolref03): of, plus, less, settle, back, fit, Mul ..: exact. -/
namespace Go.Proofs.Ytepogieeaidnfaa.num
open Go.ChangeShapes Go.WideShapes Go.ChangeAt Go.RowKit

theorem settle_any (a b c d : Int) (w : World) (ha : -17179869184 ≤ a ∧ a ≤ 17179869184) (hb : -17179869184 ≤ b ∧ b ≤ 17179869184) (hc : -17179869184 ≤ c ∧ c ≤ 17179869184) (hd : -17179869184 ≤ d ∧ d ≤ 17179869184) :
    Calls Try.prog 83 #[.agg #[.int .i64 a, .int .i64 b, .int .i64 c, .int .i64 d]] w fun e w' => e = .returned (.agg #[.int .i64 (wA (wV a b c d)), .int .i64 (wB (wV a b c d)), .int .i64 (wC (wV a b c d)), .int .i64 (wD (wV a b c d))]) ∧ Below w.heap.size w w' := by
  obtain ⟨ha1, ha2⟩ := ha
  obtain ⟨hb1, hb2⟩ := hb
  obtain ⟨hc1, hc2⟩ := hc
  obtain ⟨hd1, hd2⟩ := hd
  have eA := wA_of a b c d
  have eB := wB_of a b c d
  have eC := wC_of a b c d
  have eD := wD_of a b c d
  rw [← and_mask32] at eA eB eC
  replace eA := keep eA
  replace eB := keep eB
  replace eC := keep eC
  replace eD := keep eD
  go_enter Try.func83, Try.ntmps83
  go_wp2
  refine bodyPost_ret (v := .agg #[.int .i64 (bits BinOp.and IntKind.i64 a 4294967295), .int .i64 (bits BinOp.and IntKind.i64 (b + a / 4294967296) 4294967295), .int .i64 (bits BinOp.and IntKind.i64 (c + (b + a / 4294967296) / 4294967296) 4294967295), .int .i64 (d + (c + (b + a / 4294967296) / 4294967296) / 4294967296)]) (by simp [results, Try.results83, go_sem]) rfl ⟨?_, (((Below.refl _ _).alloc (Nat.le_refl _) _).alloc (by simp) _)⟩
  rw [eA.out, eB.out, eC.out, eD.out]

theorem of_any (n : Int) (w : World) (wn : (Lit.int .i64 n).wf = true) :
    Calls Try.prog 77 #[.int .i64 n] w fun e w' => e = .returned (.agg #[.int .i64 (wA n), .int .i64 (wB n), .int .i64 (wC n), .int .i64 (wD n)]) ∧ Below w.heap.size w w' := by
  have h0 := wf_i64 wn
  have b1 : 0 ≤ n % 4294967296 ∧ n % 4294967296 < 4294967296 := by omega
  have b2 : -4294967296 ≤ n / 4294967296 ∧ n / 4294967296 ≤ 4294967296 := by omega
  clear h0
  obtain ⟨b11, b12⟩ := b1
  obtain ⟨b21, b22⟩ := b2
  have em := and_mask32 n
  have H := Lib.hid (fun W : World => settle_any (n % 4294967296) (n / 4294967296) 0 0 W ⟨by omega, by omega⟩ ⟨by omega, by omega⟩ ⟨by omega, by omega⟩ ⟨by omega, by omega⟩)
  have eV := keep (wV_of n)
  go_enter Try.func77, Try.ntmps77
  go_wp2_with fail
  refine (H.out _).mono ?_
  rw [eV.out]
  rintro e w1 ⟨rfl, hb⟩
  obtain ⟨hc, hf⟩ := olds hb
  go_wp2_with fail
  refine bodyPost_ret (v := .agg #[.int .i64 (wA n), .int .i64 (wB n), .int .i64 (wC n), .int .i64 (wD n)]) (by simp [results, Try.results77, go_sem, hc]) rfl ⟨rfl, ?_⟩
  exact (((((((Below.refl _ _).alloc (Nat.le_refl _) _).trans (hb.mono (by simp))).setCell (by simp) _).setCell (by simp) _).setCell (by simp) _).setCell (by simp) _)

set_option maxHeartbeats 400000 in
theorem plus_any (x y : Int) (w : World) (hx : far x) (hy : far y) :
    Calls Try.prog 76 #[.agg #[.int .i64 (wA x), .int .i64 (wB x), .int .i64 (wC x), .int .i64 (wD x)], .agg #[.int .i64 (wA y), .int .i64 (wB y), .int .i64 (wC y), .int .i64 (wD y)]] w fun e w' => e = .returned (.agg #[.int .i64 (wA (x + y)), .int .i64 (wB (x + y)), .int .i64 (wC (x + y)), .int .i64 (wD (x + y))]) ∧ Below w.heap.size w w' := by
  obtain ⟨hxD1, hxD2⟩ := wD_bd hx
  obtain ⟨hxA1, hxA2⟩ := wA_bd x
  obtain ⟨hxB1, hxB2⟩ := wB_bd x
  obtain ⟨hxC1, hxC2⟩ := wC_bd x
  obtain ⟨hyD1, hyD2⟩ := wD_bd hy
  obtain ⟨hyA1, hyA2⟩ := wA_bd y
  obtain ⟨hyB1, hyB2⟩ := wB_bd y
  obtain ⟨hyC1, hyC2⟩ := wC_bd y
  clear hx hy
  have H := Lib.hid (fun W : World => settle_any (wA x + wA y) (wB x + wB y) (wC x + wC y) (wD x + wD y) W ⟨by omega, by omega⟩ ⟨by omega, by omega⟩ ⟨by omega, by omega⟩ ⟨by omega, by omega⟩)
  have eV := keep (wV_plus x y)
  go_enter Try.func76, Try.ntmps76
  go_wp2_with fail
  refine (H.out _).mono ?_
  rw [eV.out]
  rintro e w1 ⟨rfl, hb⟩
  obtain ⟨hc, hf⟩ := olds hb
  go_wp2_with fail
  refine bodyPost_ret (v := .agg #[.int .i64 (wA (x + y)), .int .i64 (wB (x + y)), .int .i64 (wC (x + y)), .int .i64 (wD (x + y))]) (by simp [results, Try.results76, go_sem, hc]) rfl ⟨rfl, ?_⟩
  exact (((((((((Below.refl _ _).alloc (Nat.le_refl _) _).alloc (by simp) _).alloc (by first | (simp; done) | (simp; omega)) _).trans (hb.mono (by first | (simp; done) | (simp; omega)))).setCell (by first | (simp; done) | (simp; omega)) _).setCell (by first | (simp; done) | (simp; omega)) _).setCell (by first | (simp; done) | (simp; omega)) _).setCell (by first | (simp; done) | (simp; omega)) _)

theorem less_any (x : Int) (w : World) (hx : far x) :
    Calls Try.prog 81 #[.agg #[.int .i64 (wA x), .int .i64 (wB x), .int .i64 (wC x), .int .i64 (wD x)]] w fun e w' => e = .returned (.agg #[.int .i64 (wA (-x)), .int .i64 (wB (-x)), .int .i64 (wC (-x)), .int .i64 (wD (-x))]) ∧ Below w.heap.size w w' := by
  obtain ⟨hxD1, hxD2⟩ := wD_bd hx
  obtain ⟨hxA1, hxA2⟩ := wA_bd x
  obtain ⟨hxB1, hxB2⟩ := wB_bd x
  obtain ⟨hxC1, hxC2⟩ := wC_bd x
  clear hx
  have H := Lib.hid (fun W : World => settle_any (-wA x) (-wB x) (-wC x) (-wD x) W ⟨by omega, by omega⟩ ⟨by omega, by omega⟩ ⟨by omega, by omega⟩ ⟨by omega, by omega⟩)
  have eV := keep (wV_less x)
  go_enter Try.func81, Try.ntmps81
  go_wp2_with fail
  refine (H.out _).mono ?_
  rw [eV.out]
  rintro e w1 ⟨rfl, hb⟩
  obtain ⟨hc, hf⟩ := olds hb
  go_wp2_with fail
  refine bodyPost_ret (v := .agg #[.int .i64 (wA (-x)), .int .i64 (wB (-x)), .int .i64 (wC (-x)), .int .i64 (wD (-x))]) (by simp [results, Try.results81, go_sem, hc]) rfl ⟨rfl, ?_⟩
  exact ((((((((Below.refl _ _).alloc (Nat.le_refl _) _).alloc (by simp) _).trans (hb.mono (by first | (simp; done) | (simp; omega)))).setCell (by first | (simp; done) | (simp; omega)) _).setCell (by first | (simp; done) | (simp; omega)) _).setCell (by first | (simp; done) | (simp; omega)) _).setCell (by first | (simp; done) | (simp; omega)) _)

set_option maxHeartbeats 1000000 in
theorem back_any (x : Int) (w : World) :
    Calls Try.prog 84 #[.agg #[.int .i64 (wA x), .int .i64 (wB x), .int .i64 (wC x), .int .i64 (wD x)]] w fun e w' => e = .returned (.tuple #[.int .i64 (wrap64 x), .bool (inI x)]) ∧ Below w.heap.size w w' := by
  have e0 := or_digits x
  have eA := wA_wrap x
  have eB := wB_wrap x
  have hw : Hid ((Lit.int .i64 (wrap64 x)).wf = true) := keep (wrap64_wf x)
  rcases digits_cases x with ⟨hi, hC, hD⟩ | ⟨hi, hC⟩ | ⟨hi, hC, hD⟩
  all_goals
    go_enter Try.func84, Try.ntmps84
    go_wp2_with fail
    go_region_with (go_at_call 77; refine (of_any (wrap64 x) _ hw.out).mono ?_; rintro e w1 ⟨rfl, hb⟩; obtain ⟨hc, hf⟩ := olds hb)
    all_goals go_wp2_with fail
    all_goals go_ret2
    all_goals exact ⟨by rw [hi]; rfl, (((Below.refl _ _).alloc (Nat.le_refl _) _).drew).trans (hb.mono (by simp))⟩

/-- what the reference tells of an exact number -/
def ToldB (n : Int) (w : World) (e : Ending) (w' : World) : Prop := e = .returned (.tuple #[.int .i64 (fitV n), .bool (inI n)]) ∧ Below w.heap.size w w'
theorem toldB_yes {n : Int} (h : inI n = true) {w w' : World} (hb : Below w.heap.size w w') : ToldB n w (.returned (.tuple #[.int .i64 (wrap64 n), .bool true])) w' := by
  have h2 := inI_iff.1 h
  unfold ToldB fitV
  rw [h, wrap64_of h2.1 h2.2]
  exact ⟨rfl, hb⟩
theorem toldB_no {n : Int} (h : inI n = false) {w w' : World} (hb : Below w.heap.size w w') : ToldB n w (.returned (.tuple #[.int .i64 0, .bool false])) w' := by
  unfold ToldB fitV
  rw [h]
  exact ⟨rfl, hb⟩

theorem fit_any (x : Int) (w : World) : Calls Try.prog 78 #[.agg #[.int .i64 (wA x), .int .i64 (wB x), .int .i64 (wC x), .int .i64 (wD x)]] w (ToldB x w) := by
  cases hi : inI x
  · have Hi := keep hi
    go_enter Try.func78, Try.ntmps78
    go_wp2_with fail
    refine (back_any x _).mono ?_
    rw [hi]
    rintro e w1 ⟨rfl, hb⟩
    go_wp2_with fail
    go_ret2
    exact toldB_no Hi.out (((Below.refl _ _).alloc (Nat.le_refl _) _).trans (hb.mono (by simp)))
  · have Hi := keep hi
    go_enter Try.func78, Try.ntmps78
    go_wp2_with fail
    refine (back_any x _).mono ?_
    rw [hi]
    rintro e w1 ⟨rfl, hb⟩
    go_wp2_with fail
    go_ret2
    exact toldB_yes Hi.out (((Below.refl _ _).alloc (Nat.le_refl _) _).trans (hb.mono (by simp)))

theorem far_i64 {n : Int} (h : (Lit.int .i64 n).wf = true) : far n := by have := wf_i64 h; unfold far; omega
theorem refAdd_any (a b : Int) (w : World) (wa : (Lit.int .i64 a).wf = true) (wb : (Lit.int .i64 b).wf = true) :
    Calls Try.prog 54 #[.int .i64 a, .int .i64 b] w (ToldB (a + b) w) := by
  go_enter Try.func54, Try.ntmps54
  go_wp2_with fail
  refine (of_any a _ wa).mono ?_
  rintro e w1 ⟨rfl, hb1⟩
  go_wp2_with fail
  refine (of_any b _ wb).mono ?_
  rintro e w2 ⟨rfl, hb2⟩
  go_wp2_with fail
  refine (plus_any a b _ (far_i64 wa) (far_i64 wb)).mono ?_
  rintro e w3 ⟨rfl, hb3⟩
  go_wp2_with fail
  refine (fit_any (a + b) _).mono ?_
  rintro e w4 ⟨rfl, hb4⟩
  go_wp2_with fail
  go_ret2
  exact ⟨rfl, ((hb1.trans (hb2.mono hb1.size)).trans (hb3.mono (Nat.le_trans hb1.size hb2.size))).trans (hb4.mono (Nat.le_trans hb1.size (Nat.le_trans hb2.size hb3.size)))⟩
end Go.Proofs.Ytepogieeaidnfaa.num
