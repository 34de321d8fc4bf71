/- Plain numbers behind the layer num: an int64's range, the digits of a wide number, and the bit operations on int64 as arithmetic. No program. Windows as plain numbers: which are right, which a time is in. No program. -/
import Derived.Test.YtmochicneilhhaaGreatPEnv
import Derived.Test.YtmochicneilhhaaGreatPGo
import Derived.Test.YtmochicneilhhaaGreatPSt
import Derived.WalkKit
import Derived.OpenShut
import Derived.Laws.BitsAllLaws
import Derived.Laws.BitsLemmas
namespace Go.Proofs.YtmochicneilhhaaGreat.num
open Go.RowKit

theorem wf_i64 {n : Int} (h : (Lit.int .i64 n).wf = true) : -9223372036854775808 ≤ n ∧ n < 9223372036854775808 := by
  have := bounds_i64 h
  omega
theorem wf_of {n : Int} (h1 : -9223372036854775808 ≤ n) (h2 : n < 9223372036854775808) : (Lit.int .i64 n).wf = true := WalkArith.wf_i64 (by omega)
theorem wrap64_of {n : Int} (h1 : -9223372036854775808 ≤ n) (h2 : n < 9223372036854775808) : wrap64 n = n := by unfold wrap64; omega
def wD (x : Int) : Int := x / 79228162514264337593543950336
/-- how far wide numbers go -/
def far (x : Int) : Prop := -340282366920938463463374607431768211456 ≤ x ∧ x ≤ 340282366920938463463374607431768211456
theorem twice (a : Int) (k : Nat) : a * 2 ^ k + a * 2 ^ k = a * 2 ^ (k + 1) := by
  rw [Int.pow_succ, ← Int.mul_assoc]
  omega
end Go.Proofs.YtmochicneilhhaaGreat.num
namespace Go.Proofs.YtmochicneilhhaaGreat.win
open Go.RowKit
open Go.Proofs.YtmochicneilhhaaGreat.num (wf_i64 wf_of wrap64_of)

/-- may a window's number be? -/
def numB (n : Int) : Bool := decide (1 ≤ n ∧ n ≤ 1048576)
theorem numB_iff {n : Int} : numB n = true ↔ 1 ≤ n ∧ n ≤ 1048576 := by simp [numB]
/-- P14.1 -/
def rightB (k s l g : Int) : Bool :=
  (k == 1 && (numB s && (l == 0) && (g == 0))) || (k == 2 && (numB s && numB l && (g == 0) && (s % l == 0) && decide (s / l ≤ 16))) || (k == 3 && (numB g && (s == 0) && (l == 0)))
def stepV (k s l : Int) : Int := if k = 2 then l else s
def allB (zs : List Int) : Bool := zs.all numB
theorem allB_snoc (a : List Int) (x : Int) : allB (a ++ [x]) = (allB a && numB x) := by simp [allB]
theorem allB_snoc' (a : List Int) (x : Int) : allB (a ++ (some x).toList) = (allB a && numB x) := allB_snoc a x
/-- P14.2: the spans of a time's windows, q of them, one step apart; 'last' is where the last one begins -/
def winsL (last st sz : Int) (q : Nat) : List (Int × Int) := (List.range q).map fun i : Nat => (last - sz + st + i * st, last - sz + st + i * st + sz)
def timeB (t : Int) : Bool := decide (-1099511627776 ≤ t ∧ t ≤ 1099511627776)
/-- P14.2 -/
def ofL (k s l g t : Int) : List (Int × Int) :=
  if rightB k s l g = true ∧ timeB t = true then
    if k = 3 then [(t, t + g)] else winsL (t - t % stepV k s l) (stepV k s l) s (s / stepV k s l).toNat
  else []
/-- what right windows have -/
theorem right_facts {k s l g : Int} (h : rightB k s l g = true) : (k = 3 ∧ 1 ≤ g ∧ g ≤ 1048576) ∨
    (k ≠ 3 ∧ 1 ≤ s ∧ s ≤ 1048576 ∧ 1 ≤ stepV k s l ∧ stepV k s l ≤ s ∧ s % stepV k s l = 0 ∧ 1 ≤ s / stepV k s l ∧ s / stepV k s l ≤ 16 ∧ (s / stepV k s l) * stepV k s l = s) := by
  unfold rightB at h
  simp only [Bool.or_eq_true, Bool.and_eq_true, beq_iff_eq, decide_eq_true_eq, numB_iff] at h
  rcases h with (⟨rfl, h1, h2, h3⟩ | ⟨rfl, ⟨⟨⟨h1, h2⟩, h3⟩, h4⟩, h5⟩) | ⟨rfl, ⟨h1, h2⟩, h3⟩
  · right
    have : stepV 1 s l = s := by simp [stepV]
    rw [this]
    have h6 : s / s = 1 := Int.ediv_self (by omega)
    refine ⟨by omega, by omega, by omega, by omega, by omega, by simp, by omega, by omega, by rw [h6]; omega⟩
  · right
    have : stepV 2 s l = l := by simp [stepV]
    rw [this]
    have h7 : s / l * l = s := Int.ediv_mul_cancel (Int.dvd_of_emod_eq_zero h4)
    have h8 : 1 ≤ s / l := by
      rcases Int.lt_or_le (s / l) 1 with h9 | h9
      · have := Int.mul_le_mul_of_nonneg_right (show s / l ≤ 0 by omega) (show 0 ≤ l by omega)
        omega
      · exact h9
    have h9 : l ≤ s := by
      have := Int.mul_le_mul_of_nonneg_right h8 (show 0 ≤ l by omega)
      omega
    exact ⟨by omega, by omega, by omega, by omega, h9, h4, h8, h5, h7⟩
  · left
    exact ⟨rfl, by omega, by omega⟩
end Go.Proofs.YtmochicneilhhaaGreat.win
/- window.Window, and the reference's: which are right (for seats that reach no more of the window). -/
namespace Go.Proofs.YtmochicneilhhaaGreat.win
open Go.RowKit
attribute [local irreducible] LX CX Yl Gives RetIs Fn
theorem eqWin (a0 b0 : Int) (a1 b1 : Int) (a2 b2 : Int) (a3 b3 : Int) (w : World) : (binOp .eql 32 (.agg #[.int .u8 a0, .int .i64 a1, .int .i64 a2, .int .i64 a3]) (.agg #[.int .u8 b0, .int .i64 b1, .int .i64 b2, .int .i64 b3])).run Tryz.prog w = .ok (.bool (a0 == b0 && (a1 == b1 && (a2 == b2 && (a3 == b3))))) w := by
  go_simp
  (repeat' split) <;> simp_all
theorem eqWin_g : Tryz.prog.eqGuardType Tryz.prog.depth 32 = false := by kernel_rfl
theorem ofTumbling_fn (m : Int) : Fn Tryz.prog 33 [.int .i64 m] [] [] fun v Lo => v = .agg #[.int .u8 1, .int .i64 m, .int .i64 0, .int .i64 0] ∧ Lo = [] := by
  refine fn_enter Tryz.func33 rfl rfl (by kernel_rfl) rfl ?_
  intro w0
  repeat (first | refine wz ?_ | (refine wzb ?_; intro b_) | fail)
  exact bq_ret (ret_cell (E := EV) 0 rfl rfl rfl rfl (fun _ => Nat.le_of_ble_eq_true rfl) rfl) [] (Gives.nil _) rfl ⟨rfl, rfl⟩
theorem ofSliding_fn (m n : Int) : Fn Tryz.prog 57 [.int .i64 m, .int .i64 n] [] [] fun v Lo => v = .agg #[.int .u8 2, .int .i64 m, .int .i64 n, .int .i64 0] ∧ Lo = [] := by
  refine fn_enter Tryz.func57 rfl rfl (by kernel_rfl) rfl ?_
  intro w0
  repeat (first | refine wz ?_ | (refine wzb ?_; intro b_) | fail)
  exact bq_ret (ret_cell (E := EV) 0 rfl rfl rfl rfl (fun _ => Nat.le_of_ble_eq_true rfl) rfl) [] (Gives.nil _) rfl ⟨rfl, rfl⟩
theorem ofSession_fn (m : Int) : Fn Tryz.prog 58 [.int .i64 m] [] [] fun v Lo => v = .agg #[.int .u8 3, .int .i64 0, .int .i64 0, .int .i64 m] ∧ Lo = [] := by
  refine fn_enter Tryz.func58 rfl rfl (by kernel_rfl) rfl ?_
  intro w0
  repeat (first | refine wz ?_ | (refine wzb ?_; intro b_) | fail)
  exact bq_ret (ret_cell (E := EV) 0 rfl rfl rfl rfl (fun _ => Nat.le_of_ble_eq_true rfl) rfl) [] (Gives.nil _) rfl ⟨rfl, rfl⟩
theorem allB_more {zs : List Int} {k : Nat} {x : Int} (hx : (ints .i64 zs)[k]? = some (.int .i64 x)) : allB (zs.take (k + 1)) = (allB (zs.take k) && numB x) := by
  have hx : zs[k]? = some x := by simpa [ints] using hx
  rw [List.take_add_one, hx, allB_snoc']
theorem allB_false {zs : List Int} {k : Nat} {x : Int} (hx : (ints .i64 zs)[k]? = some (.int .i64 x)) (h : numB x = false) : allB zs = false := by
  have hx : zs[k]? = some x := by simpa [ints] using hx
  unfold allB
  rw [List.all_eq_false]
  exact ⟨x, List.mem_of_getElem? hx, by simp [h]⟩
theorem all_fn (A : Option Addr) (n c : Nat) (zs : List Int) (hn : n ≤ 9223372036854775807) (hl : zs.length = n) :
    Fn Tryz.prog 87 [.slice A n c] [.ro A n 1 (ints .i64 zs)] [] fun v Lo => v = .bool (allB zs) ∧ Lo = [] := by
  refine fn_enter Tryz.func87 rfl rfl (by kernel_rfl) rfl ?_
  intro w0
  repeat (first | refine wz ?_ | (refine wzb ?_; intro b_) | fail)
  refine cx_loop (α := { k : Nat // k ≤ n ∧ allB (zs.take k) = true }) (fun x => [(5, none, .slice A n c), (6, none, .int .i64 n), (7, none, .int .i64 x.1)]) (fun _ => [.ro A n 1 (ints .i64 zs)]) (fun x => n - x.1) ⟨0, by omega, rfl⟩ ⟨rfl, rfl, rfl, trivial⟩ (Gives.refl _) ?_
  rintro ⟨k, hk, hall⟩
  dsimp only
  repeat (first | refine wz ?_ | (refine wzb ?_; intro b_) | fail)
  refine cx_cond rfl (fun h => ?_) (fun h => ?_)
  · have hlt : k < n := by simpa using h
    obtain ⟨x, hx⟩ : ∃ x, (ints .i64 zs)[k]? = some (.int .i64 x) := ⟨_, ints_at (by omega)⟩
    repeat (first | ((first | (apply lx_u; exact rfl) | (apply lx_g; exact rfl; exact rfl)); first | (apply isy_indexAddr; exact yl_index (E := EV) 0 rfl rfl rfl rfl rfl (Shows.ro ..) (by first | exact fun _ => rfl | exact fun h => h | exact fun h => (Bool.and_eq_true_iff.1 h).1) (by first | exact fun _ => rfl | exact fun h => h | exact fun h => (Bool.and_eq_true_iff.1 h).1) (fun _ => by omega)) | (apply isy_load; exact yl_loadI (E := EV) 0 rfl rfl rfl (Shows.ro ..) rfl (fun _ => hx) (by first | exact fun _ => rfl | exact fun h => h | exact fun h => (Bool.and_eq_true_iff.1 h).1)) | fail) | refine wz ?_ | (refine wzb ?_; intro b_) | fail)
    refine cx_cond rfl (fun h2 => ?_) (fun h2 => ?_)
    · repeat (first | refine wz ?_ | (refine wzb ?_; intro b_) | fail)
      exact bq_ret (ret_tmp rfl rfl) [] (Gives.nil _) rfl ⟨by rw [allB_false hx (by simp [numB]; simp at h2; omega)], rfl⟩
    · repeat (first | refine wz ?_ | (refine wzb ?_; intro b_) | fail)
      exact ⟨⟨k + 1, by omega, by rw [allB_more hx, hall]; simp [numB]; simp at h2; omega⟩, ⟨rfl, rfl, rfl, trivial⟩, Gives.refl _, by dsimp only; omega⟩
  · obtain rfl : k = n := by simp at h; omega
    repeat (first | refine wz ?_ | (refine wzb ?_; intro b_) | fail)
    exact bq_ret (ret_tmp rfl rfl) [] (Gives.nil _) rfl ⟨by rw [List.take_of_length_le (by omega)] at hall; rw [hall], rfl⟩
theorem all_one (b : Nat) (x : Int) : Fn Tryz.prog 87 [.slice (some ⟨b, 0, none⟩) 1 1] [.ro (some ⟨b, 0, none⟩) 1 1 [.int .i64 x]] [] fun v Lo => v = .bool (numB x) ∧ Lo = [] :=
  (all_fn _ 1 1 [x] (by omega) rfl).mono fun v Lo h => by simpa [allB] using h
theorem all_two (b : Nat) (x y : Int) : Fn Tryz.prog 87 [.slice (some ⟨b, 0, none⟩) 2 2] [.ro (some ⟨b, 0, none⟩) 2 1 [.int .i64 x, .int .i64 y]] [] fun v Lo => v = .bool (numB x && numB y) ∧ Lo = [] :=
  (all_fn _ 2 2 [x, y] (by omega) rfl).mono fun v Lo h => by simpa [allB] using h
theorem quo_pos {s l : Int} (hs : 0 ≤ s) (hs2 : s < 9223372036854775808) (hl : 0 < l) : IntKind.i64.wrap (s.tdiv l) = s / l := by
  rw [Int.tdiv_eq_ediv_of_nonneg hs, IntKind.wrap_i64]
  have h3 := Int.ediv_le_self l hs
  have h4 := Int.ediv_nonneg hs (show 0 ≤ l by omega)
  omega
theorem right_1 {k s l g : Int} (h : (k == 1) = true) : (numB s && (k == 1 && (s == s && (l == 0 && g == 0)))) = rightB k s l g := by
  obtain rfl : k = 1 := by simpa using h
  simp [rightB, Bool.and_assoc]
theorem right_2 {k s l g : Int} (h : (k == 2) = true) : (numB s && numB l && (k == 2 && (s == s && (l == l && g == 0))) && s.tmod l == 0 && decide (s / l ≤ 16)) = rightB k s l g := by
  obtain rfl : k = 2 := by simpa using h
  cases hn : numB s && numB l
  · simp [rightB, hn]
  · have h1 := numB_iff.1 (Bool.and_eq_true_iff.1 hn).1
    rw [Int.tmod_eq_emod_of_nonneg (by omega)]
    simp [rightB, hn]
theorem right_3 {k s l g : Int} (h : (k == 3) = true) : (numB g && (k == 3 && (s == 0 && (l == 0 && g == g)))) = rightB k s l g := by
  obtain rfl : k = 3 := by simpa using h
  simp [rightB, Bool.and_assoc]
theorem right_0 {k s l g : Int} (h1 : (k == 1) = false) (h2 : (k == 2) = false) (h3 : (k == 3) = false) : false = rightB k s l g := by simp [rightB, h1, h2, h3]
theorem rem_ok {k s l g : Int} (h : cb (some (numB s && numB l && (k == 2 && (s == s && (l == l && g == 0))))) = true) : l ≠ 0 := by
  simp [cb, numB] at h
  omega
theorem quo_ok {k s l g : Int} (h : cb (some (numB s && numB l && (k == 2 && (s == s && (l == l && g == 0))) && s.tmod l == 0)) = true) : l ≠ 0 ∧ (.int .i64 (IntKind.i64.wrap (s.tdiv l)) : Value) = .int .i64 (s / l) := by
  simp [cb, numB] at h
  exact ⟨by omega, by rw [quo_pos (by omega) (by omega) (by omega)]⟩
set_option maxRecDepth 100000 in
theorem right_fn (k s l g : Int) : Fn Tryz.prog 50 [.agg #[.int .u8 k, .int .i64 s, .int .i64 l, .int .i64 g]] [] [] fun v Lo => v = .bool (rightB k s l g) ∧ Lo = [] := by
  refine fn_enter Tryz.func50 rfl rfl (by kernel_rfl) rfl ?_
  intro w0
  repeat (first | refine wz ?_ | (refine wzb ?_; intro b_) | fail)
  refine cx_cond rfl (fun h => ?_) (fun h => ?_)
  · repeat (first | refine wz ?_ | (refine wzb ?_; intro b_) | fail)
    refine cx_draw [3, 4, 9] _ rfl (by kernel_rfl) (Gives.refl _) ?_
    repeat (first | ((first | (apply lx_u; exact rfl) | (apply lx_g; exact rfl; exact rfl)); first | (apply isy_bin_eql; exact yl_eqs eqWin_g rfl rfl (fun w => eqWin _ _ _ _ _ _ _ _ w) (by first | exact fun _ => rfl | exact fun h => h | exact fun h => (Bool.and_eq_true_iff.1 h).1) (by first | exact fun _ => rfl | exact fun h => h | exact fun h => (Bool.and_eq_true_iff.1 h).1)) | fail) | (refine isx_call ?_; refine k_gcall (all_one _ s) ((fun w hm => in_ro (row_blk 0 rfl rfl hm) (in_nil hm) rfl)) rfl rfl rfl rfl rfl rfl ?_) | (refine isx_call ?_; refine k_gcall (ofTumbling_fn s) (fun _ hm => in_nil hm) rfl rfl rfl rfl rfl rfl ?_) | refine wz ?_ | (refine wzb ?_; intro b_) | fail)
    exact bq_ret (ret_tmp rfl rfl) [] (Gives.nil _) rfl ⟨by rw [right_1 h], rfl⟩
  · repeat (first | refine wz ?_ | (refine wzb ?_; intro b_) | fail)
    refine cx_cond rfl (fun h2 => ?_) (fun h2 => ?_)
    · repeat (first | refine wz ?_ | (refine wzb ?_; intro b_) | fail)
      refine cx_draw [5, 6, 13] _ rfl (by kernel_rfl) (Gives.refl _) ?_
      repeat (first | ((first | (apply lx_u; exact rfl) | (apply lx_g; exact rfl; exact rfl)); first | (apply isy_bin_eql; exact yl_eqs eqWin_g rfl rfl (fun w => eqWin _ _ _ _ _ _ _ _ w) (by first | exact fun _ => rfl | exact fun h => h | exact fun h => (Bool.and_eq_true_iff.1 h).1) (by first | exact fun _ => rfl | exact fun h => h | exact fun h => (Bool.and_eq_true_iff.1 h).1)) | (apply isy_bin_rem; exact yl_rem rfl rfl (by first | exact fun _ => rfl | exact fun h => h | exact fun h => (Bool.and_eq_true_iff.1 h).1) (by first | exact fun _ => rfl | exact fun h => h | exact fun h => (Bool.and_eq_true_iff.1 h).1) rem_ok) | (apply isy_bin_quo; exact yl_eq (yl_quo rfl rfl (by first | exact fun _ => rfl | exact fun h => h | exact fun h => (Bool.and_eq_true_iff.1 h).1) (by first | exact fun _ => rfl | exact fun h => h | exact fun h => (Bool.and_eq_true_iff.1 h).1) (fun h_ => (quo_ok h_).1)) (fun h_ => (quo_ok h_).2)) | fail) | (refine isx_call ?_; refine k_gcall (all_two _ s l) ((fun w hm => in_ro (row_blk 0 rfl rfl hm) (in_nil hm) rfl)) rfl rfl rfl rfl rfl rfl ?_) | (refine isx_call ?_; refine k_gcall (ofSliding_fn s l) (fun _ hm => in_nil hm) rfl rfl rfl rfl rfl rfl ?_) | refine wz ?_ | (refine wzb ?_; intro b_) | fail)
      exact bq_ret (ret_tmp rfl rfl) [] (Gives.nil _) rfl ⟨by rw [right_2 h2], rfl⟩
    · repeat (first | refine wz ?_ | (refine wzb ?_; intro b_) | fail)
      refine cx_cond rfl (fun h3 => ?_) (fun h3 => ?_)
      · repeat (first | refine wz ?_ | (refine wzb ?_; intro b_) | fail)
        refine cx_draw [3, 4, 9] _ rfl (by kernel_rfl) (Gives.refl _) ?_
        repeat (first | ((first | (apply lx_u; exact rfl) | (apply lx_g; exact rfl; exact rfl)); first | (apply isy_bin_eql; exact yl_eqs eqWin_g rfl rfl (fun w => eqWin _ _ _ _ _ _ _ _ w) (by first | exact fun _ => rfl | exact fun h => h | exact fun h => (Bool.and_eq_true_iff.1 h).1) (by first | exact fun _ => rfl | exact fun h => h | exact fun h => (Bool.and_eq_true_iff.1 h).1)) | fail) | (refine isx_call ?_; refine k_gcall (all_one _ g) ((fun w hm => in_ro (row_blk 0 rfl rfl hm) (in_nil hm) rfl)) rfl rfl rfl rfl rfl rfl ?_) | (refine isx_call ?_; refine k_gcall (ofSession_fn g) (fun _ hm => in_nil hm) rfl rfl rfl rfl rfl rfl ?_) | refine wz ?_ | (refine wzb ?_; intro b_) | fail)
        exact bq_ret (ret_tmp rfl rfl) [] (Gives.nil _) rfl ⟨by rw [right_3 h3], rfl⟩
      · repeat (first | refine wz ?_ | (refine wzb ?_; intro b_) | fail)
        exact bq_ret (ret_tmp rfl rfl) [] (Gives.nil _) rfl ⟨by rw [right_0 h h2 h3], rfl⟩









































end Go.Proofs.YtmochicneilhhaaGreat.win
