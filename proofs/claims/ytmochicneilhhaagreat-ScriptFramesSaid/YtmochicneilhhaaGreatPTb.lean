/- scripts: a configuration read. -/
import Derived.Test.YtmochicneilhhaaGreatPEnv
import Derived.Test.YtmochicneilhhaaGreatPGo
import Derived.Test.YtmochicneilhhaaGreatPSm
import Derived.Test.YtmochicneilhhaaGreatPTa
import Derived.Test.YtmochicneilhhaaGreatPWinP
import Derived.WalkKit
/- window.Window, and the reference's: which are right (for seats that reach no more of the window). -/
namespace Go.Proofs.YtmochicneilhhaaGreat.win
open Go.RowKit
attribute [local irreducible] LX CX Yl Gives RetIs Fn
def winV (k s l g : Int) : Value := .agg #[.int .u8 k, .int .i64 s, .int .i64 l, .int .i64 g]
def spanV (x : Int × Int) : Value := .agg #[.int .i64 x.1, .int .i64 x.2]
theorem eqWin (a0 b0 : Int) (a1 b1 : Int) (a2 b2 : Int) (a3 b3 : Int) (w : World) : (binOp .eql 32 (.agg #[.int .u8 a0, .int .i64 a1, .int .i64 a2, .int .i64 a3]) (.agg #[.int .u8 b0, .int .i64 b1, .int .i64 b2, .int .i64 b3])).run Tryz.prog w = .ok (.bool (a0 == b0 && (a1 == b1 && (a2 == b2 && (a3 == b3))))) w := by
  go_simp
  (repeat' split) <;> simp_all
theorem eqWin_g : Tryz.prog.eqGuardType Tryz.prog.depth 32 = false := by kernel_rfl
theorem ofTumbling_fn (m : Int) : Fn Tryz.prog 33 [.int .i64 m] [] [] fun v Lo => v = .agg #[.int .u8 1, .int .i64 m, .int .i64 0, .int .i64 0] ∧ Lo = [] := by
  refine fn_enter Tryz.func33 rfl rfl (by kernel_rfl) rfl ?_
  intro w0
  repeat (first | refine wz ?_ | (refine wzb ?_; intro b_) | fail)
  exact bq_ret (ret_cell (E := EV) 0 rfl rfl rfl rfl (fun _ => Nat.le_of_ble_eq_true rfl) rfl) [] (Gives.nil _) rfl ⟨rfl, rfl⟩
theorem ofSliding_fn (m n : Int) : Fn Tryz.prog 57 [.int .i64 m, .int .i64 n] [] [] fun v Lo => v = .agg #[.int .u8 2, .int .i64 m, .int .i64 n, .int .i64 0] ∧ Lo = [] := by
  refine fn_enter Tryz.func57 rfl rfl (by kernel_rfl) rfl ?_
  intro w0
  repeat (first | refine wz ?_ | (refine wzb ?_; intro b_) | fail)
  exact bq_ret (ret_cell (E := EV) 0 rfl rfl rfl rfl (fun _ => Nat.le_of_ble_eq_true rfl) rfl) [] (Gives.nil _) rfl ⟨rfl, rfl⟩
theorem ofSession_fn (m : Int) : Fn Tryz.prog 58 [.int .i64 m] [] [] fun v Lo => v = .agg #[.int .u8 3, .int .i64 0, .int .i64 0, .int .i64 m] ∧ Lo = [] := by
  refine fn_enter Tryz.func58 rfl rfl (by kernel_rfl) rfl ?_
  intro w0
  repeat (first | refine wz ?_ | (refine wzb ?_; intro b_) | fail)
  exact bq_ret (ret_cell (E := EV) 0 rfl rfl rfl rfl (fun _ => Nat.le_of_ble_eq_true rfl) rfl) [] (Gives.nil _) rfl ⟨rfl, rfl⟩
theorem allB_more {zs : List Int} {k : Nat} {x : Int} (hx : (ints .i64 zs)[k]? = some (.int .i64 x)) : allB (zs.take (k + 1)) = (allB (zs.take k) && numB x) := by
  have hx : zs[k]? = some x := by simpa [ints] using hx
  rw [List.take_add_one, hx, allB_snoc']
theorem allB_false {zs : List Int} {k : Nat} {x : Int} (hx : (ints .i64 zs)[k]? = some (.int .i64 x)) (h : numB x = false) : allB zs = false := by
  have hx : zs[k]? = some x := by simpa [ints] using hx
  unfold allB
  rw [List.all_eq_false]
  exact ⟨x, List.mem_of_getElem? hx, by simp [h]⟩
theorem all_fn (A : Option Addr) (n c : Nat) (zs : List Int) (hn : n ≤ 9223372036854775807) (hl : zs.length = n) :
    Fn Tryz.prog 87 [.slice A n c] [.ro A n 1 (ints .i64 zs)] [] fun v Lo => v = .bool (allB zs) ∧ Lo = [] := by
  refine fn_enter Tryz.func87 rfl rfl (by kernel_rfl) rfl ?_
  intro w0
  repeat (first | refine wz ?_ | (refine wzb ?_; intro b_) | fail)
  refine cx_loop (α := { k : Nat // k ≤ n ∧ allB (zs.take k) = true }) (fun x => [(5, none, .slice A n c), (6, none, .int .i64 n), (7, none, .int .i64 x.1)]) (fun _ => [.ro A n 1 (ints .i64 zs)]) (fun x => n - x.1) ⟨0, by omega, rfl⟩ ⟨rfl, rfl, rfl, trivial⟩ (Gives.refl _) ?_
  rintro ⟨k, hk, hall⟩
  dsimp only
  repeat (first | refine wz ?_ | (refine wzb ?_; intro b_) | fail)
  refine cx_cond rfl (fun h => ?_) (fun h => ?_)
  · have hlt : k < n := by simpa using h
    obtain ⟨x, hx⟩ : ∃ x, (ints .i64 zs)[k]? = some (.int .i64 x) := ⟨_, ints_at (by omega)⟩
    repeat (first | ((first | (apply lx_u; exact rfl) | (apply lx_g; exact rfl; exact rfl)); first | (apply isy_indexAddr; exact yl_index (E := EV) 0 rfl rfl rfl rfl rfl (Shows.ro ..) (by first | exact fun _ => rfl | exact fun h => h | exact fun h => (Bool.and_eq_true_iff.1 h).1) (by first | exact fun _ => rfl | exact fun h => h | exact fun h => (Bool.and_eq_true_iff.1 h).1) (fun _ => by omega)) | (apply isy_load; exact yl_loadI (E := EV) 0 rfl rfl rfl (Shows.ro ..) rfl (fun _ => hx) (by first | exact fun _ => rfl | exact fun h => h | exact fun h => (Bool.and_eq_true_iff.1 h).1)) | fail) | refine wz ?_ | (refine wzb ?_; intro b_) | fail)
    refine cx_cond rfl (fun h2 => ?_) (fun h2 => ?_)
    · repeat (first | refine wz ?_ | (refine wzb ?_; intro b_) | fail)
      exact bq_ret (ret_tmp rfl rfl) [] (Gives.nil _) rfl ⟨by rw [allB_false hx (by simp [numB]; simp at h2; omega)], rfl⟩
    · repeat (first | refine wz ?_ | (refine wzb ?_; intro b_) | fail)
      exact ⟨⟨k + 1, by omega, by rw [allB_more hx, hall]; simp [numB]; simp at h2; omega⟩, ⟨rfl, rfl, rfl, trivial⟩, Gives.refl _, by dsimp only; omega⟩
  · obtain rfl : k = n := by simp at h; omega
    repeat (first | refine wz ?_ | (refine wzb ?_; intro b_) | fail)
    exact bq_ret (ret_tmp rfl rfl) [] (Gives.nil _) rfl ⟨by rw [List.take_of_length_le (by omega)] at hall; rw [hall], rfl⟩
theorem all_one (b : Nat) (x : Int) : Fn Tryz.prog 87 [.slice (some ⟨b, 0, none⟩) 1 1] [.ro (some ⟨b, 0, none⟩) 1 1 [.int .i64 x]] [] fun v Lo => v = .bool (numB x) ∧ Lo = [] :=
  (all_fn _ 1 1 [x] (by omega) rfl).mono fun v Lo h => by simpa [allB] using h
theorem all_two (b : Nat) (x y : Int) : Fn Tryz.prog 87 [.slice (some ⟨b, 0, none⟩) 2 2] [.ro (some ⟨b, 0, none⟩) 2 1 [.int .i64 x, .int .i64 y]] [] fun v Lo => v = .bool (numB x && numB y) ∧ Lo = [] :=
  (all_fn _ 2 2 [x, y] (by omega) rfl).mono fun v Lo h => by simpa [allB] using h
theorem quo_pos {s l : Int} (hs : 0 ≤ s) (hs2 : s < 9223372036854775808) (hl : 0 < l) : IntKind.i64.wrap (s.tdiv l) = s / l := by
  rw [Int.tdiv_eq_ediv_of_nonneg hs, IntKind.wrap_i64]
  have h3 := Int.ediv_le_self l hs
  have h4 := Int.ediv_nonneg hs (show 0 ≤ l by omega)
  omega
theorem right_1 {k s l g : Int} (h : (k == 1) = true) : (numB s && (k == 1 && (s == s && (l == 0 && g == 0)))) = rightB k s l g := by
  obtain rfl : k = 1 := by simpa using h
  simp [rightB, Bool.and_assoc]
theorem right_2 {k s l g : Int} (h : (k == 2) = true) : (numB s && numB l && (k == 2 && (s == s && (l == l && g == 0))) && s.tmod l == 0 && decide (s / l ≤ 16)) = rightB k s l g := by
  obtain rfl : k = 2 := by simpa using h
  cases hn : numB s && numB l
  · simp [rightB, hn]
  · have h1 := numB_iff.1 (Bool.and_eq_true_iff.1 hn).1
    rw [Int.tmod_eq_emod_of_nonneg (by omega)]
    simp [rightB, hn]
theorem right_3 {k s l g : Int} (h : (k == 3) = true) : (numB g && (k == 3 && (s == 0 && (l == 0 && g == g)))) = rightB k s l g := by
  obtain rfl : k = 3 := by simpa using h
  simp [rightB, Bool.and_assoc]
theorem right_0 {k s l g : Int} (h1 : (k == 1) = false) (h2 : (k == 2) = false) (h3 : (k == 3) = false) : false = rightB k s l g := by simp [rightB, h1, h2, h3]
theorem rem_ok {k s l g : Int} (h : cb (some (numB s && numB l && (k == 2 && (s == s && (l == l && g == 0))))) = true) : l ≠ 0 := by
  simp [cb, numB] at h
  omega
theorem quo_ok {k s l g : Int} (h : cb (some (numB s && numB l && (k == 2 && (s == s && (l == l && g == 0))) && s.tmod l == 0)) = true) : l ≠ 0 ∧ (.int .i64 (IntKind.i64.wrap (s.tdiv l)) : Value) = .int .i64 (s / l) := by
  simp [cb, numB] at h
  exact ⟨by omega, by rw [quo_pos (by omega) (by omega) (by omega)]⟩
set_option maxRecDepth 100000 in
theorem right_fn (k s l g : Int) : Fn Tryz.prog 50 [.agg #[.int .u8 k, .int .i64 s, .int .i64 l, .int .i64 g]] [] [] fun v Lo => v = .bool (rightB k s l g) ∧ Lo = [] := by
  refine fn_enter Tryz.func50 rfl rfl (by kernel_rfl) rfl ?_
  intro w0
  repeat (first | refine wz ?_ | (refine wzb ?_; intro b_) | fail)
  refine cx_cond rfl (fun h => ?_) (fun h => ?_)
  · repeat (first | refine wz ?_ | (refine wzb ?_; intro b_) | fail)
    refine cx_draw [3, 4, 9] _ rfl (by kernel_rfl) (Gives.refl _) ?_
    repeat (first | ((first | (apply lx_u; exact rfl) | (apply lx_g; exact rfl; exact rfl)); first | (apply isy_bin_eql; exact yl_eqs eqWin_g rfl rfl (fun w => eqWin _ _ _ _ _ _ _ _ w) (by first | exact fun _ => rfl | exact fun h => h | exact fun h => (Bool.and_eq_true_iff.1 h).1) (by first | exact fun _ => rfl | exact fun h => h | exact fun h => (Bool.and_eq_true_iff.1 h).1)) | fail) | (refine isx_call ?_; refine k_gcall (all_one _ s) ((fun w hm => in_ro (row_blk 0 rfl rfl hm) (in_nil hm) rfl)) rfl rfl rfl rfl rfl rfl ?_) | (refine isx_call ?_; refine k_gcall (ofTumbling_fn s) (fun _ hm => in_nil hm) rfl rfl rfl rfl rfl rfl ?_) | refine wz ?_ | (refine wzb ?_; intro b_) | fail)
    exact bq_ret (ret_tmp rfl rfl) [] (Gives.nil _) rfl ⟨by rw [right_1 h], rfl⟩
  · repeat (first | refine wz ?_ | (refine wzb ?_; intro b_) | fail)
    refine cx_cond rfl (fun h2 => ?_) (fun h2 => ?_)
    · repeat (first | refine wz ?_ | (refine wzb ?_; intro b_) | fail)
      refine cx_draw [5, 6, 13] _ rfl (by kernel_rfl) (Gives.refl _) ?_
      repeat (first | ((first | (apply lx_u; exact rfl) | (apply lx_g; exact rfl; exact rfl)); first | (apply isy_bin_eql; exact yl_eqs eqWin_g rfl rfl (fun w => eqWin _ _ _ _ _ _ _ _ w) (by first | exact fun _ => rfl | exact fun h => h | exact fun h => (Bool.and_eq_true_iff.1 h).1) (by first | exact fun _ => rfl | exact fun h => h | exact fun h => (Bool.and_eq_true_iff.1 h).1)) | (apply isy_bin_rem; exact yl_rem rfl rfl (by first | exact fun _ => rfl | exact fun h => h | exact fun h => (Bool.and_eq_true_iff.1 h).1) (by first | exact fun _ => rfl | exact fun h => h | exact fun h => (Bool.and_eq_true_iff.1 h).1) rem_ok) | (apply isy_bin_quo; exact yl_eq (yl_quo rfl rfl (by first | exact fun _ => rfl | exact fun h => h | exact fun h => (Bool.and_eq_true_iff.1 h).1) (by first | exact fun _ => rfl | exact fun h => h | exact fun h => (Bool.and_eq_true_iff.1 h).1) (fun h_ => (quo_ok h_).1)) (fun h_ => (quo_ok h_).2)) | fail) | (refine isx_call ?_; refine k_gcall (all_two _ s l) ((fun w hm => in_ro (row_blk 0 rfl rfl hm) (in_nil hm) rfl)) rfl rfl rfl rfl rfl rfl ?_) | (refine isx_call ?_; refine k_gcall (ofSliding_fn s l) (fun _ hm => in_nil hm) rfl rfl rfl rfl rfl rfl ?_) | refine wz ?_ | (refine wzb ?_; intro b_) | fail)
      exact bq_ret (ret_tmp rfl rfl) [] (Gives.nil _) rfl ⟨by rw [right_2 h2], rfl⟩
    · repeat (first | refine wz ?_ | (refine wzb ?_; intro b_) | fail)
      refine cx_cond rfl (fun h3 => ?_) (fun h3 => ?_)
      · repeat (first | refine wz ?_ | (refine wzb ?_; intro b_) | fail)
        refine cx_draw [3, 4, 9] _ rfl (by kernel_rfl) (Gives.refl _) ?_
        repeat (first | ((first | (apply lx_u; exact rfl) | (apply lx_g; exact rfl; exact rfl)); first | (apply isy_bin_eql; exact yl_eqs eqWin_g rfl rfl (fun w => eqWin _ _ _ _ _ _ _ _ w) (by first | exact fun _ => rfl | exact fun h => h | exact fun h => (Bool.and_eq_true_iff.1 h).1) (by first | exact fun _ => rfl | exact fun h => h | exact fun h => (Bool.and_eq_true_iff.1 h).1)) | fail) | (refine isx_call ?_; refine k_gcall (all_one _ g) ((fun w hm => in_ro (row_blk 0 rfl rfl hm) (in_nil hm) rfl)) rfl rfl rfl rfl rfl rfl ?_) | (refine isx_call ?_; refine k_gcall (ofSession_fn g) (fun _ hm => in_nil hm) rfl rfl rfl rfl rfl rfl ?_) | refine wz ?_ | (refine wzb ?_; intro b_) | fail)
        exact bq_ret (ret_tmp rfl rfl) [] (Gives.nil _) rfl ⟨by rw [right_3 h3], rfl⟩
      · repeat (first | refine wz ?_ | (refine wzb ?_; intro b_) | fail)
        exact bq_ret (ret_tmp rfl rfl) [] (Gives.nil _) rfl ⟨by rw [right_0 h h2 h3], rfl⟩









































end Go.Proofs.YtmochicneilhhaaGreat.win
namespace Go.Proofs.YtmochicneilhhaaGreat.sc
open Go.RowKit Go.Proofs.YtmochicneilhhaaGreat.pk Go.Proofs.YtmochicneilhhaaGreat.win
/-- the window that two bytes tell: kind, size, slide, gap -/
def winQ (k n : Nat) : Int × Int × Int × Int :=
  if k % 3 = 0 then (1, ((n % 16 : Nat) : Int) + 1, 0, 0)
  else if k % 3 = 1 then (2, (((n % 4 : Nat) : Int) + 1) * (((n / 4 % 4 : Nat) : Int) + 1), ((n % 4 : Nat) : Int) + 1, 0)
  else (3, 0, 0, ((n % 16 : Nat) : Int) + 1)
def wv (x : Int × Int × Int × Int) : Value := .agg #[.int .u8 x.1, .int .i64 x.2.1, .int .i64 x.2.2.1, .int .i64 x.2.2.2]
theorem modN (p d : Nat) : ((p : Nat) : Int).tmod (d : Int) = ((p % d : Nat) : Int) := by
  rw [Int.tmod_eq_emod_of_nonneg (by omega)]
  exact (Int.natCast_emod _ _).symm
theorem quoN (p d : Nat) (h : p ≤ 1000000) : IntKind.i64.wrap ((p : Int).tdiv d) = ((p / d : Nat) : Int) := by
  rw [Int.tdiv_eq_ediv_of_nonneg (by omega), ← Int.natCast_ediv, IntKind.wrap_i64]
  have : p / d ≤ p := Nat.div_le_self _ _
  generalize p / d = q at *
  omega
attribute [local irreducible] LX CX Yl Gives RetIs Fn
set_option maxRecDepth 100000 in
theorem window_fn (b : Nat) (k : Int) {A : Option Addr} {l : List B8} (r : Rd A l) (hl : l.length ≤ 9223372036854775807) : Fn Tryz.prog 64 [.pointer (some ⟨b, 0, none⟩)] [r.blk b k, .ro A l.length 1 (bvs l)] [b] fun v Lo => v = wv (winQ (at_ l r.v) (at_ l (r.v + 1))) ∧ Lo = [r.nx.nx.blk b k] := by
  have h1 := by_fn b k r 3 (by decide) hl
  have h2 := next_fn b k r.nx hl
  rw [r.nx_v] at h2
  have hn := at_lt l (r.v + 1)
  generalize r.nx.nx = r2 at *
  generalize r.nx = r1 at *
  unfold winQ wv
  generalize at_ l (r.v + 1) = n at *
  generalize at_ l r.v % 3 = q at *
  have m16 : (n : Int).tmod 16 = ((n % 16 : Nat) : Int) := modN n 16
  have m4 : (n : Int).tmod 4 = ((n % 4 : Nat) : Int) := modN n 4
  have q4 : IntKind.i64.wrap ((n : Int).tdiv 4) = ((n / 4 : Nat) : Int) := quoN n 4 (by omega)
  have m44 : ((n / 4 : Nat) : Int).tmod 4 = ((n / 4 % 4 : Nat) : Int) := modN (n / 4) 4
  have b1 := Nat.mod_lt n (show 0 < 16 by decide)
  have b2 := Nat.mod_lt n (show 0 < 4 by decide)
  have b3 := Nat.mod_lt (n / 4) (show 0 < 4 by decide)
  have b4 : (n % 4 + 1) * (n / 4 % 4 + 1) ≤ 16 := Nat.mul_le_mul (show n % 4 + 1 ≤ 4 by omega) (show n / 4 % 4 + 1 ≤ 4 by omega)
  have b5 : 0 ≤ (((n % 4 : Nat) : Int) + 1) * (((n / 4 % 4 : Nat) : Int) + 1) ∧ (((n % 4 : Nat) : Int) + 1) * (((n / 4 % 4 : Nat) : Int) + 1) ≤ 16 := by
    have e : (((n % 4 : Nat) : Int) + 1) * (((n / 4 % 4 : Nat) : Int) + 1) = (((n % 4 + 1) * (n / 4 % 4 + 1) : Nat) : Int) := by push_cast; rfl
    rw [e]
    omega
  generalize n / 4 % 4 = n44 at *
  generalize n / 4 = nq at *
  generalize n % 4 = n4 at *
  generalize n % 16 = n16 at *
  have t1 := ofTumbling_fn ((n16 : Int) + 1)
  have t2 := ofSliding_fn (((n4 : Int) + 1) * ((n44 : Int) + 1)) ((n4 : Int) + 1)
  have t3 := ofSession_fn ((n16 : Int) + 1)
  refine fn_enter Tryz.func64 rfl rfl (by kernel_rfl) rfl ?_
  intro w0
  repeat (first | (refine isx_call ?_; refine k_call (h1) [1, 2] [1] [0, 2] rfl rfl rfl rfl rfl rfl rfl rfl ?_; rintro v_ Lo_ ⟨rfl, rfl⟩) | (refine isx_call ?_; refine k_call (h2) [0, 2] [0] [1, 2] rfl rfl rfl rfl rfl rfl rfl rfl ?_; rintro v_ Lo_ ⟨rfl, rfl⟩) | refine wz ?_ | (refine wzb ?_; intro b_) | fail)
  refine cx_cond rfl (fun h => ?_) (fun h => ?_)
  · have hq : q = 0 := by simp at h; omega
    rw [if_pos hq]
    repeat (first | ((first | (apply lx_u; exact rfl) | (apply lx_g; exact rfl; exact rfl)); first | (apply isy_bin_rem; exact yl_eq (q_rem rfl rfl) (fun _ => congrArg (Value.int .i64) m16)) | fail) | (refine isx_call ?_; refine k_gcall (t1) (fun _ hm => in_nil hm) rfl rfl rfl rfl rfl rfl ?_) | (refine isx_store ?_; refine gS 1 rfl rfl rfl rfl rfl rfl rfl rfl rfl rfl ?_) | refine wz ?_ | (refine wzb ?_; intro b_) | fail)
    exact bq_ret (ret_cell (E := EV) 1 rfl rfl rfl rfl (fun _ => Nat.le_of_ble_eq_true rfl) rfl) [_] (Gives.pick [0] (by decide) rfl) rfl ⟨rfl, rfl⟩
  have hq0 : ¬ q = 0 := by simp at h; omega
  rw [if_neg hq0]
  repeat (first | refine wz ?_ | (refine wzb ?_; intro b_) | fail)
  refine cx_cond rfl (fun h => ?_) (fun h => ?_)
  · have hq : q = 1 := by simp at h; omega
    rw [if_pos hq]
    repeat (first | ((first | (apply lx_u; exact rfl) | (apply lx_g; exact rfl; exact rfl)); first | (apply isy_bin_rem; exact yl_eq (q_rem rfl rfl) (fun _ => congrArg (Value.int .i64) m4)) | (apply isy_bin_quo; exact yl_eq (q_quo rfl rfl) (fun _ => congrArg (Value.int .i64) q4)) | (apply isy_bin_rem; exact yl_eq (q_rem rfl rfl) (fun _ => congrArg (Value.int .i64) m44)) | (apply isy_bin_mul; exact q_mul rfl rfl) | fail) | (refine isx_call ?_; refine k_gcall (t2) (fun _ hm => in_nil hm) rfl rfl rfl rfl rfl rfl ?_) | (refine isx_store ?_; refine gS 1 rfl rfl rfl rfl rfl rfl rfl rfl rfl rfl ?_) | refine wz ?_ | (refine wzb ?_; intro b_) | fail)
    exact bq_ret (ret_cell (E := EV) 1 rfl rfl rfl rfl (fun _ => Nat.le_of_ble_eq_true rfl) rfl) [_] (Gives.pick [0] (by decide) rfl) rfl ⟨rfl, rfl⟩
  · have hq : ¬ q = 1 := by simp at h; omega
    rw [if_neg hq]
    repeat (first | ((first | (apply lx_u; exact rfl) | (apply lx_g; exact rfl; exact rfl)); first | (apply isy_bin_rem; exact yl_eq (q_rem rfl rfl) (fun _ => congrArg (Value.int .i64) m16)) | fail) | (refine isx_call ?_; refine k_gcall (t3) (fun _ hm => in_nil hm) rfl rfl rfl rfl rfl rfl ?_) | (refine isx_store ?_; refine gS 1 rfl rfl rfl rfl rfl rfl rfl rfl rfl rfl ?_) | refine wz ?_ | (refine wzb ?_; intro b_) | fail)
    exact bq_ret (ret_cell (E := EV) 1 rfl rfl rfl rfl (fun _ => Nat.le_of_ble_eq_true rfl) rfl) [_] (Gives.pick [0] (by decide) rfl) rfl ⟨rfl, rfl⟩
def Rd.go {A : Option Addr} {l : List B8} (r : Rd A l) : Nat → Rd A l
  | 0 => r
  | m + 1 => (r.go m).nx
theorem Rd.go_v {A : Option Addr} {l : List B8} (r : Rd A l) : ∀ m, (r.go m).v = r.v + m
  | 0 => rfl
  | m + 1 => by
    show (r.go m).nx.v = _
    rw [Rd.nx_v, r.go_v m, Nat.add_assoc]
/-- the configuration that nine bytes tell -/
def cfgL (l : List B8) (v : Nat) : List Value :=
  let w := winQ (at_ l v) (at_ l (v + 1))
  [.int .u8 w.1, .int .i64 w.2.1, .int .i64 w.2.2.1, .int .i64 w.2.2.2, .int .i64 (at_ l (v + 2) % 32 : Nat), .int .i64 ((at_ l (v + 3) : Int) + 1), .int .i64 (((at_ l (v + 4) % 64 : Nat) : Int) + 1), .int .i64 (((at_ l (v + 5) % 64 : Nat) : Int) + 1), .int .i64 (((at_ l (v + 6) % 16 : Nat) : Int) + 1), .int .i64 (((at_ l (v + 7) % 8 : Nat) : Int) + 1), .int .i64 (((at_ l (v + 8) % 16 : Nat) : Int) + 1)]
set_option maxRecDepth 100000 in
theorem config_fn (b : Nat) (k : Int) {A : Option Addr} {l : List B8} (r : Rd A l) (hl : l.length ≤ 9223372036854775807) : Fn Tryz.prog 36 [.pointer (some ⟨b, 0, none⟩)] [r.blk b k, .ro A l.length 1 (bvs l)] [b] fun v Lo => v = .agg (cfgL l r.v).toArray ∧ Lo = [(r.go 9).blk b k] := by
  have h1 : Fn Tryz.prog 64 [.pointer (some ⟨b, 0, none⟩)] [r.blk b k, .ro A l.length 1 (bvs l)] [b] fun v Lo => v = wv (winQ (at_ l r.v) (at_ l (r.v + 1))) ∧ Lo = [(r.go 2).blk b k] := window_fn b k r hl
  have h2 := by_fn b k (r.go 2) 32 (by decide) hl
  have h3 := next_fn b k (r.go 3) hl
  have h4 := by_fn b k (r.go 4) 64 (by decide) hl
  have h5 := by_fn b k (r.go 5) 64 (by decide) hl
  have h6 := by_fn b k (r.go 6) 16 (by decide) hl
  have h7 := by_fn b k (r.go 7) 8 (by decide) hl
  have h8 := by_fn b k (r.go 8) 16 (by decide) hl
  have e : ∀ m, (r.go m).nx = r.go (m + 1) := fun _ => rfl
  rw [e, r.go_v] at h2 h3 h4 h5 h6 h7 h8
  have n3 := at_lt l (r.v + 3)
  have n4 := Nat.mod_lt (at_ l (r.v + 4)) (show 0 < 64 by decide)
  have n5 := Nat.mod_lt (at_ l (r.v + 5)) (show 0 < 64 by decide)
  have n6 := Nat.mod_lt (at_ l (r.v + 6)) (show 0 < 16 by decide)
  have n7 := Nat.mod_lt (at_ l (r.v + 7)) (show 0 < 8 by decide)
  have n8 := Nat.mod_lt (at_ l (r.v + 8)) (show 0 < 16 by decide)
  unfold cfgL
  unfold wv at h1
  dsimp only
  generalize winQ (at_ l r.v) (at_ l (r.v + 1)) = w at *
  generalize at_ l (r.v + 3) = a3 at *
  generalize at_ l (r.v + 2) % 32 = a2 at *
  generalize at_ l (r.v + 4) % 64 = a4 at *
  generalize at_ l (r.v + 5) % 64 = a5 at *
  generalize at_ l (r.v + 6) % 16 = a6 at *
  generalize at_ l (r.v + 7) % 8 = a7 at *
  generalize at_ l (r.v + 8) % 16 = a8 at *
  clear e
  generalize r.go 9 = r9 at *
  generalize r.go 8 = r8 at *
  generalize r.go 7 = r7 at *
  generalize r.go 6 = r6 at *
  generalize r.go 5 = r5 at *
  generalize r.go 4 = r4 at *
  generalize r.go 3 = r3 at *
  generalize r.go 2 = r2 at *
  refine fn_enter Tryz.func36 rfl rfl (by kernel_rfl) rfl ?_
  intro w0
  repeat (first | (refine isx_call ?_; refine k_call (h1) [1, 2] [1] [0, 2] rfl rfl rfl rfl rfl rfl rfl rfl ?_; rintro v_ Lo_ ⟨rfl, rfl⟩) | (refine isx_call ?_; refine k_call (h2) [0, 2] [0] [1, 2] rfl rfl rfl rfl rfl rfl rfl rfl ?_; rintro v_ Lo_ ⟨rfl, rfl⟩) | (refine isx_call ?_; refine k_call (h3) [0, 2] [0] [1, 2] rfl rfl rfl rfl rfl rfl rfl rfl ?_; rintro v_ Lo_ ⟨rfl, rfl⟩) | (refine isx_call ?_; refine k_call (h4) [0, 2] [0] [1, 2] rfl rfl rfl rfl rfl rfl rfl rfl ?_; rintro v_ Lo_ ⟨rfl, rfl⟩) | (refine isx_call ?_; refine k_call (h5) [0, 2] [0] [1, 2] rfl rfl rfl rfl rfl rfl rfl rfl ?_; rintro v_ Lo_ ⟨rfl, rfl⟩) | (refine isx_call ?_; refine k_call (h6) [0, 2] [0] [1, 2] rfl rfl rfl rfl rfl rfl rfl rfl ?_; rintro v_ Lo_ ⟨rfl, rfl⟩) | (refine isx_call ?_; refine k_call (h7) [0, 2] [0] [1, 2] rfl rfl rfl rfl rfl rfl rfl rfl ?_; rintro v_ Lo_ ⟨rfl, rfl⟩) | (refine isx_call ?_; refine k_call (h8) [0, 2] [0] [1, 2] rfl rfl rfl rfl rfl rfl rfl rfl ?_; rintro v_ Lo_ ⟨rfl, rfl⟩) | (refine isx_store ?_; refine gS 1 rfl rfl rfl rfl rfl rfl rfl rfl rfl rfl ?_) | refine wz ?_ | (refine wzb ?_; intro b_) | fail)
  exact bq_ret (ret_cell (E := EV) 1 rfl rfl rfl rfl (fun _ => Nat.le_of_ble_eq_true rfl) rfl) [_] (Gives.pick [0] (by decide) rfl) rfl ⟨rfl, rfl⟩
end Go.Proofs.YtmochicneilhhaaGreat.sc
