import Derived.Test.YtepogieeaidnfaaRows
import Derived.Test.YtepogieeaidnfaaBase
import Derived.Test.YtepogieeaidnfaaRefNum
/- The laws of chapter 3 but NumSums, NumBack: their walks. -/
namespace Go.Proofs.Ytepogieeaidnfaa.num
open Go.ChangeShapes Go.WideShapes Go.ChangeAt Go.RowKit

theorem below2 {a b c : World} (h : Below a.heap.size a b) (k : Below b.heap.size b c) : Below a.heap.size a c := h.trans (k.mono h.size)

set_option maxHeartbeats 1000000 in
theorem numTwo_any (a b c : Int) (w : World) (wa : (Lit.int .i64 a).wf = true) (wb : (Lit.int .i64 b).wf = true) :
    Calls Try.prog 13 #[.int .i64 a, .int .i64 b, .int .i64 c] w (Yes w) := by
  go_enter Try.func13, Try.ntmps13
  go_wp2_with fail
  refine (add_any a b _ wa wb).mono ?_
  rintro e w1 ⟨rfl, rfl⟩
  go_wp2_with fail
  refine (refAdd_any a b _ wa wb).mono ?_
  rintro e w1 ⟨rfl, hb1⟩
  go_wp2_with fail
  refine (sub_any a b _ wa wb).mono ?_
  rintro e w3 ⟨rfl, rfl⟩
  go_wp2_with fail
  refine (refSub_any a b _ wa wb).mono ?_
  rintro e w2 ⟨rfl, hb2⟩
  go_wp2_with fail
  refine (mul_any a b _ wa wb).mono ?_
  rintro e w3 ⟨rfl, rfl⟩
  go_wp2_with fail
  refine (refMul_any a b _ wa wb).mono ?_
  rintro e w3 ⟨rfl, hb3⟩
  go_wp2_with fail
  refine (abs_any a _ wa).mono ?_
  rintro e w3 ⟨rfl, rfl⟩
  go_wp2_with fail
  refine (refAbs_any a _ wa).mono ?_
  rintro e w4 ⟨rfl, hb4⟩
  go_wp2_with fail
  refine (clamp_any a b c _).mono ?_
  rintro e w3 ⟨rfl, rfl⟩
  go_wp2_with fail
  refine (refClamp_any a b c _).mono ?_
  rintro e w3 ⟨rfl, rfl⟩
  go_wp2_with fail
  refine (works_any _).mono ?_
  rintro e w5 ⟨rfl, hb5⟩
  go_wp2_with fail
  go_ret
  exact ⟨rfl, below2 (below2 (below2 (below2 hb1 hb2) hb3) hb4) hb5⟩

set_option maxHeartbeats 1000000 in
theorem numFloors_any (n d : Int) (w : World) (wn : (Lit.int .i64 n).wf = true) (wd : (Lit.int .i64 d).wf = true) :
    Calls Try.prog 11 #[.int .i64 n, .int .i64 d] w (Yes w) := by
  by_cases hd : 0 < d
  · have HD : Hid (∀ W : World, Calls Try.prog 48 #[.int .i64 n, .int .i64 d] W fun e w' => e = .returned (.tuple #[.int .i64 (fitV (downV n d)), .int .i64 (if inI (downV n d) then 0 else 30)]) ∧ W = w') := by
      intro W
      cases hi : inI (downV n d)
      · exact (down_over n d W wn wd hd hi).mono fun _ _ h => by simpa [fitV, hi] using h
      · exact (down_yes n d W wn wd hd hi).mono fun _ _ h => by simpa [fitV, hi] using h
    have HR := Lib.hid (fun W : World => refDown_any n d W wn wd hd)
    generalize hq : (if inI (downV n d) then (0 : Int) else 30) = q at HD HR
    clear hq
    go_enter Try.func11, Try.ntmps11
    go_wp2_with fail
    refine (floorDiv_any n d _ wn wd hd).mono ?_
    rintro e w1 ⟨rfl, rfl⟩
    go_wp2_with fail
    refine (refFloorDiv_any n d _ wn wd hd).mono ?_
    rintro e w1 ⟨rfl, rfl⟩
    go_wp2_with fail
    refine (floorMod_any n d _ wd hd).mono ?_
    rintro e w1 ⟨rfl, rfl⟩
    go_wp2_with fail
    refine (refFloorMod_any n d _ wn wd hd).mono ?_
    rintro e w1 ⟨rfl, rfl⟩
    go_wp2_with fail
    refine (HD.out _).mono ?_
    rintro e w1 ⟨rfl, rfl⟩
    go_wp2_with fail
    refine (HR.out _).mono ?_
    rintro e w1 ⟨rfl, hb1⟩
    go_wp2_with fail
    refine (works_any _).mono ?_
    rintro e w2 ⟨rfl, hb2⟩
    go_wp2_with fail
    go_ret
    exact ⟨rfl, below2 hb1 hb2⟩
  · have hd : d ≤ 0 := by omega
    go_enter Try.func11, Try.ntmps11
    go_wp2_with fail
    refine (floorDiv_no n d _ hd).mono ?_
    rintro e w1 ⟨rfl, rfl⟩
    go_wp2_with fail
    refine (refFloorDiv_no n d _ hd).mono ?_
    rintro e w1 ⟨rfl, rfl⟩
    go_wp2_with fail
    refine (floorMod_no n d _ hd).mono ?_
    rintro e w1 ⟨rfl, rfl⟩
    go_wp2_with fail
    refine (refFloorMod_no n d _ hd).mono ?_
    rintro e w1 ⟨rfl, rfl⟩
    go_wp2_with fail
    refine (down_no n d _ hd).mono ?_
    rintro e w1 ⟨rfl, rfl⟩
    go_wp2_with fail
    refine (refDown_no n d _ hd).mono ?_
    rintro e w1 ⟨rfl, hb1⟩
    go_wp2_with fail
    refine (works_any _).mono ?_
    rintro e w2 ⟨rfl, hb2⟩
    go_wp2_with fail
    go_ret
    exact ⟨rfl, below2 hb1 hb2⟩
theorem numTwo_all (a b c : Int) (w : World) (wa : (Lit.int .i64 a).wf = true) (wb : (Lit.int .i64 b).wf = true) (_wc : (Lit.int .i64 c).wf = true) :
    Calls Try.prog 13 #[.int .i64 a, .int .i64 b, .int .i64 c] w (Yes w) := numTwo_any a b c w wa wb
end Go.Proofs.Ytepogieeaidnfaa.num
