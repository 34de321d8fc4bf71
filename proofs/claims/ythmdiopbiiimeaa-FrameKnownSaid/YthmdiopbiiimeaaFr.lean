/- frames: what a stream tells, as far as it goes. -/
import Derived.Test.YthmdiopbiiimeaaGo
import Derived.Test.YthmdiopbiiimeaaFq
namespace Go.Proofs.Ythmdiopbiiimeaa.fr
open Go.RowKit Go.Proofs.Ythmdiopbiiimeaa.kit Go.Proofs.Ythmdiopbiiimeaa.pk Go.Proofs.Ythmdiopbiiimeaa.chk Go.Proofs.Ythmdiopbiiimeaa.crc
theorem takeF_zero {l : List B8} (h1 : (takeF l ((0 : Nat) : Int)).2.2 ≠ 70) : ∃ b : Nat, (takeF l ((0 : Nat) : Int)).2.1 = b ∧ b ≤ l.length ∧ ((takeF l ((0 : Nat) : Int)).2.2 ≠ 71 → 8 ≤ b) := by
  by_cases h2 : (takeF l ((0 : Nat) : Int)).2.2 = 71
  · exact ⟨0, takeF_at h2, Nat.zero_le _, fun h => absurd h2 h⟩
  · obtain ⟨b, e1, e2, e3⟩ := takeF_next h1 h2
    exact ⟨b, e1, e3, fun _ => by omega⟩
abbrev ToldP (K : List B8) (sb : Nat) (A : Option Addr) (q c : Nat) (d0 : Bool) (v : Value) (Lo : List Ck) : Prop :=
  ∃ A' c' fs off Ak qk ck d, v = .slice A' (List.length fs) c' ∧ Fit fs ∧ fs.length ≤ q + 1 ∧ View A q c off Ak qk ck ∧ Rch (bif d0 then none else some K) (tell fs) (bif d then none else some (K.drop off)) ∧ (d = false → (takeF (K.drop off) ((0 : Nat) : Int)).2.2 = 70) ∧ (d = true → qk = 0) ∧
    Lo = .own A' fs.length c' 44 2 (fcells fs) :: stB sb Ak qk ck d :: bods fs
attribute [local irreducible] LX CX Yl Gives RetIs Fn
attribute [local irreducible] be de upd takeF num4 sum4 frm allF
set_option maxHeartbeats 8000000 in
theorem told_fn (sb : Nat) (A : Option Addr) (q c : Nat) (K : List B8) (d0 : Bool) (hK : K.length = q) (hc : q ≤ c ∧ c ≤ 9223372036854775807) (hn : q ≤ 2900) (hdz : d0 = true → q = 0) :
    Fn Try.prog 29 [.pointer (some ⟨sb, 0, none⟩)] [stB sb A q c d0, .ro A q 1 (bvs K)] [sb] (ToldP K sb A q c d0) := by
  refine fn_enter Try.func29 rfl rfl (by kernel_rfl) rfl ?_
  intro w0
  repeat (first | (refine isU ?_; refine gU rfl ?_) | (refine isG ?_; refine gG rfl rfl ?_) | (refine isx_box ?_; refine gB rfl rfl rfl rfl rfl rfl ?_; intro b_) | (refine isx_alloc ?_; refine gA rfl rfl rfl rfl rfl rfl rfl ?_; intro b_) | (refine isx_store ?_; refine gS 0 rfl rfl rfl rfl rfl rfl rfl rfl rfl rfl ?_) | (refine isx_store ?_; refine gS 1 rfl rfl rfl rfl rfl rfl rfl rfl rfl rfl ?_) | (refine isx_store ?_; refine gS 2 rfl rfl rfl rfl rfl rfl rfl rfl rfl rfl ?_) | (refine isx_store ?_; refine gS 3 rfl rfl rfl rfl rfl rfl rfl rfl rfl rfl ?_) | (refine isx_row ?_; refine lx_row (E := EV) rfl rfl rfl rfl rfl rfl rfl rfl rfl rfl rfl rfl rfl ?_; intro b_) | refine lx_nil ?_ | with_reducible refine tq_n ?_ | with_reducible refine tq_r ?_ | with_reducible refine tq_e ?_ | with_reducible refine bk_n ?_ | with_reducible refine bk_r ?_ | (with_reducible refine bk_e ?_ ?_; exact rfl) | (with_reducible refine bk_x ?_ ?_; exact rfl) | refine cx_seq ?_ | refine cx_region ?_ | refine cx_block ?_ | refine cx_ret ?_ | refine cx_skip ?_ | refine cx_exit ?_ | fail)
  refine cx_loop (α := TSt K A q c d0) (fun x => [(0, none, .pointer (some ⟨sb, 0, none⟩)), (3, none, .slice x.Af x.fs.length x.cf), (4, none, .int .i64 x.fs.length)])
    (fun x => .own x.Af x.fs.length x.cf 44 2 (fcells x.fs) :: stB sb x.Ak x.qk x.ck x.d :: .ro A q 1 (bvs K) :: bods x.fs) (fun x => q + 1 - x.fs.length)
    ⟨[], none, 0, 0, A, q, c, d0, View.start hc, by rw [List.drop_zero]; exact .start, fun x hx => (by cases hx), Nat.zero_le _, hdz⟩ ⟨rfl, rfl, rfl, trivial⟩ (Gives.nilown _ _ _) ?_
  rintro ⟨fs, Af, cf, off, Ak, qk, ck, d, hv, rch, fit, few, dz⟩
  dsimp only
  have hoff := hv.1
  have hqk := hv.2.1
  have hck := hv.2.2.1
  have hck2 := hv.2.2.2.1
  have hfew : fs.length ≤ q + 1 := by cases d <;> simp at few <;> omega
  repeat (first | (refine isU ?_; refine gU rfl ?_) | (refine isG ?_; refine gG rfl rfl ?_) | (refine isx_box ?_; refine gB rfl rfl rfl rfl rfl rfl ?_; intro b_) | (refine isx_alloc ?_; refine gA rfl rfl rfl rfl rfl rfl rfl ?_; intro b_) | (refine isx_store ?_; refine gS 0 rfl rfl rfl rfl rfl rfl rfl rfl rfl rfl ?_) | (refine isx_store ?_; refine gS 1 rfl rfl rfl rfl rfl rfl rfl rfl rfl rfl ?_) | (refine isx_store ?_; refine gS 2 rfl rfl rfl rfl rfl rfl rfl rfl rfl rfl ?_) | (refine isx_store ?_; refine gS 3 rfl rfl rfl rfl rfl rfl rfl rfl rfl rfl ?_) | (refine isx_row ?_; refine lx_row (E := EV) rfl rfl rfl rfl rfl rfl rfl rfl rfl rfl rfl rfl rfl ?_; intro b_) | refine lx_nil ?_ | with_reducible refine tq_n ?_ | with_reducible refine tq_r ?_ | with_reducible refine tq_e ?_ | with_reducible refine bk_n ?_ | with_reducible refine bk_r ?_ | (with_reducible refine bk_e ?_ ?_; exact rfl) | (with_reducible refine bk_x ?_ ?_; exact rfl) | refine cx_seq ?_ | refine cx_region ?_ | refine cx_block ?_ | refine cx_ret ?_ | refine cx_skip ?_ | refine cx_exit ?_ | fail)
  refine cx_cond rfl (fun _ => ?_) (fun h => by simp at h; omega)
  cases d with
  | true =>
    repeat (first | refine lx_not rfl rfl rfl rfl ?_ | refine lx_notu rfl rfl rfl rfl rfl ?_ | (refine isG ?_; refine gT rfl rfl rfl ?_) | (refine isU ?_; refine gU rfl ?_) | (refine isG ?_; refine gG rfl rfl ?_) | (refine isx_call ?_; refine lx_gcallt (nextD_fn sb Ak qk ck) ((fun w hm => in_ro (row_blk 1 rfl rfl hm) (in_nil hm) rfl)) rfl rfl rfl rfl rfl rfl rfl ?_) | (refine isx_box ?_; refine gB rfl rfl rfl rfl rfl rfl ?_; intro b_) | (refine isx_alloc ?_; refine gA rfl rfl rfl rfl rfl rfl rfl ?_; intro b_) | (refine isx_store ?_; refine gS 0 rfl rfl rfl rfl rfl rfl rfl rfl rfl rfl ?_) | (refine isx_store ?_; refine gS 1 rfl rfl rfl rfl rfl rfl rfl rfl rfl rfl ?_) | (refine isx_store ?_; refine gS 2 rfl rfl rfl rfl rfl rfl rfl rfl rfl rfl ?_) | (refine isx_store ?_; refine gS 3 rfl rfl rfl rfl rfl rfl rfl rfl rfl rfl ?_) | (refine isx_row ?_; refine lx_row (E := EV) rfl rfl rfl rfl rfl rfl rfl rfl rfl rfl rfl rfl rfl ?_; intro b_) | refine lx_nil ?_ | with_reducible refine tq_n ?_ | with_reducible refine tq_r ?_ | with_reducible refine tq_e ?_ | with_reducible refine bk_n ?_ | with_reducible refine bk_r ?_ | (with_reducible refine bk_e ?_ ?_; exact rfl) | (with_reducible refine bk_x ?_ ?_; exact rfl) | refine cx_seq ?_ | refine cx_region ?_ | refine cx_block ?_ | refine cx_ret ?_ | refine cx_skip ?_ | refine cx_exit ?_ | fail)
    refine cx_cond rfl (fun _ => ?_) (fun h => absurd h (by decide))
    repeat (first | (refine isU ?_; refine gU rfl ?_) | (refine isG ?_; refine gG rfl rfl ?_) | (refine isx_box ?_; refine gB rfl rfl rfl rfl rfl rfl ?_; intro b_) | (refine isx_alloc ?_; refine gA rfl rfl rfl rfl rfl rfl rfl ?_; intro b_) | (refine isx_store ?_; refine gS 0 rfl rfl rfl rfl rfl rfl rfl rfl rfl rfl ?_) | (refine isx_store ?_; refine gS 1 rfl rfl rfl rfl rfl rfl rfl rfl rfl rfl ?_) | (refine isx_store ?_; refine gS 2 rfl rfl rfl rfl rfl rfl rfl rfl rfl rfl ?_) | (refine isx_store ?_; refine gS 3 rfl rfl rfl rfl rfl rfl rfl rfl rfl rfl ?_) | (refine isx_row ?_; refine lx_row (E := EV) rfl rfl rfl rfl rfl rfl rfl rfl rfl rfl rfl rfl rfl ?_; intro b_) | refine lx_nil ?_ | with_reducible refine tq_n ?_ | with_reducible refine tq_r ?_ | with_reducible refine tq_e ?_ | with_reducible refine bk_n ?_ | with_reducible refine bk_r ?_ | (with_reducible refine bk_e ?_ ?_; exact rfl) | (with_reducible refine bk_x ?_ ?_; exact rfl) | refine cx_seq ?_ | refine cx_region ?_ | refine cx_block ?_ | refine cx_ret ?_ | refine cx_skip ?_ | refine cx_exit ?_ | fail)
    exact bq_ret (ret_tmp rfl rfl) (.own Af fs.length cf 44 2 (fcells fs) :: stB sb Ak qk ck true :: bods fs) (Gives.pre [_, _, _, _] [1, 2] (by decide) rfl rfl) (by rw [List.all_cons, List.all_cons, bods_mut]; rfl) ⟨Af, cf, fs, off, Ak, qk, ck, true, rfl, fit, hfew, hv, rch, fun h => (by cases h), dz, rfl⟩
  | false =>
    have few0 : fs.length ≤ off := by simpa using few
    have hKl : (K.drop off).length = qk := by rw [List.length_drop, hK, hqk]
    refine cx_weakL (Gives.view 2 rfl hv hc.1) ?_
    by_cases h70 : (takeF (K.drop off) ((0 : Nat) : Int)).2.2 = 70
    · have hnx := next0_fn sb Ak qk ck (K.drop off) hKl ⟨hck, hck2⟩ (by omega) h70
      repeat (first | refine lx_not rfl rfl rfl rfl ?_ | refine lx_notu rfl rfl rfl rfl rfl ?_ | (refine isG ?_; refine gT rfl rfl rfl ?_) | (refine isU ?_; refine gU rfl ?_) | (refine isG ?_; refine gG rfl rfl ?_) | (refine isx_call ?_; refine lx_gcallt (hnx) ((fun w hm => in_ro (row_blk 2 rfl rfl hm) (in_ro (row_ro 0 rfl hm) (in_nil hm) rfl) rfl)) rfl rfl rfl rfl rfl rfl rfl ?_) | (refine isx_box ?_; refine gB rfl rfl rfl rfl rfl rfl ?_; intro b_) | (refine isx_alloc ?_; refine gA rfl rfl rfl rfl rfl rfl rfl ?_; intro b_) | (refine isx_store ?_; refine gS 0 rfl rfl rfl rfl rfl rfl rfl rfl rfl rfl ?_) | (refine isx_store ?_; refine gS 1 rfl rfl rfl rfl rfl rfl rfl rfl rfl rfl ?_) | (refine isx_store ?_; refine gS 2 rfl rfl rfl rfl rfl rfl rfl rfl rfl rfl ?_) | (refine isx_store ?_; refine gS 3 rfl rfl rfl rfl rfl rfl rfl rfl rfl rfl ?_) | (refine isx_row ?_; refine lx_row (E := EV) rfl rfl rfl rfl rfl rfl rfl rfl rfl rfl rfl rfl rfl ?_; intro b_) | refine lx_nil ?_ | with_reducible refine tq_n ?_ | with_reducible refine tq_r ?_ | with_reducible refine tq_e ?_ | with_reducible refine bk_n ?_ | with_reducible refine bk_r ?_ | (with_reducible refine bk_e ?_ ?_; exact rfl) | (with_reducible refine bk_x ?_ ?_; exact rfl) | refine cx_seq ?_ | refine cx_region ?_ | refine cx_block ?_ | refine cx_ret ?_ | refine cx_skip ?_ | refine cx_exit ?_ | fail)
      refine cx_cond rfl (fun _ => ?_) (fun h => absurd h (by decide))
      repeat (first | (refine isU ?_; refine gU rfl ?_) | (refine isG ?_; refine gG rfl rfl ?_) | (refine isx_box ?_; refine gB rfl rfl rfl rfl rfl rfl ?_; intro b_) | (refine isx_alloc ?_; refine gA rfl rfl rfl rfl rfl rfl rfl ?_; intro b_) | (refine isx_store ?_; refine gS 0 rfl rfl rfl rfl rfl rfl rfl rfl rfl rfl ?_) | (refine isx_store ?_; refine gS 1 rfl rfl rfl rfl rfl rfl rfl rfl rfl rfl ?_) | (refine isx_store ?_; refine gS 2 rfl rfl rfl rfl rfl rfl rfl rfl rfl rfl ?_) | (refine isx_store ?_; refine gS 3 rfl rfl rfl rfl rfl rfl rfl rfl rfl rfl ?_) | (refine isx_row ?_; refine lx_row (E := EV) rfl rfl rfl rfl rfl rfl rfl rfl rfl rfl rfl rfl rfl ?_; intro b_) | refine lx_nil ?_ | with_reducible refine tq_n ?_ | with_reducible refine tq_r ?_ | with_reducible refine tq_e ?_ | with_reducible refine bk_n ?_ | with_reducible refine bk_r ?_ | (with_reducible refine bk_e ?_ ?_; exact rfl) | (with_reducible refine bk_x ?_ ?_; exact rfl) | refine cx_seq ?_ | refine cx_region ?_ | refine cx_block ?_ | refine cx_ret ?_ | refine cx_skip ?_ | refine cx_exit ?_ | fail)
      exact bq_ret (ret_tmp rfl rfl) (.own Af fs.length cf 44 2 (fcells fs) :: stB sb Ak qk ck false :: bods fs) (Gives.pre [_, _, _, _, _] [2, 3] (by decide) rfl rfl) (by rw [List.all_cons, List.all_cons, bods_mut]; rfl) ⟨Af, cf, fs, off, Ak, qk, ck, false, rfl, fit, hfew, hv, rch, fun _ => h70, dz, rfl⟩
    obtain ⟨nx, hnx, hnq, hn8⟩ := takeF_zero h70
    have hbl := (takeF_le (l := K.drop off) (at' := ((0 : Nat) : Int))).1
    have hT : takeF (K.drop off) ((0 : Nat) : Int) = ((takeF (K.drop off) ((0 : Nat) : Int)).1, (nx : Int), (takeF (K.drop off) ((0 : Nat) : Int)).2.2) := by rw [← hnx]
    generalize (takeF (K.drop off) ((0 : Nat) : Int)).1 = bd at hT hbl
    generalize (takeF (K.drop off) ((0 : Nat) : Int)).2.2 = e at hT h70 hn8
    have hnf := next1_fn sb Ak qk ck (K.drop off) hKl ⟨hck, hck2⟩ (by omega) hT h70 (by omega)
    repeat (first | refine lx_not rfl rfl rfl rfl ?_ | refine lx_notu rfl rfl rfl rfl rfl ?_ | (refine isG ?_; refine gT rfl rfl rfl ?_) | (refine isU ?_; refine gU rfl ?_) | (refine isG ?_; refine gG rfl rfl ?_) | (refine isx_call ?_; refine k_callT (hnf) [_, _, _, _] ((bods fs)) rfl [2, 0] [2] [1, 3] rfl rfl rfl rfl rfl rfl rfl rfl ?_; rintro v_ Lo_ ⟨x, hx1, hx2, hx3, rfl, rfl⟩) | (refine isx_box ?_; refine gB rfl rfl rfl rfl rfl rfl ?_; intro b_) | (refine isx_alloc ?_; refine gA rfl rfl rfl rfl rfl rfl rfl ?_; intro b_) | (refine isx_store ?_; refine gS 0 rfl rfl rfl rfl rfl rfl rfl rfl rfl rfl ?_) | (refine isx_store ?_; refine gS 1 rfl rfl rfl rfl rfl rfl rfl rfl rfl rfl ?_) | (refine isx_store ?_; refine gS 2 rfl rfl rfl rfl rfl rfl rfl rfl rfl rfl ?_) | (refine isx_store ?_; refine gS 3 rfl rfl rfl rfl rfl rfl rfl rfl rfl rfl ?_) | (refine isx_row ?_; refine lx_row (E := EV) rfl rfl rfl rfl rfl rfl rfl rfl rfl rfl rfl rfl rfl ?_; intro b_) | refine lx_nil ?_ | with_reducible refine tq_n ?_ | with_reducible refine tq_r ?_ | with_reducible refine tq_e ?_ | with_reducible refine bk_n ?_ | with_reducible refine bk_r ?_ | (with_reducible refine bk_e ?_ ?_; exact rfl) | (with_reducible refine bk_x ?_ ?_; exact rfl) | refine cx_seq ?_ | refine cx_region ?_ | refine cx_block ?_ | refine cx_ret ?_ | refine cx_skip ?_ | refine cx_exit ?_ | fail)
    refine cx_cond rfl (fun h => absurd h (by decide)) (fun _ => ?_)
    repeat (first | (refine isU ?_; refine gU rfl ?_) | (refine isG ?_; refine gG rfl rfl ?_) | (refine isx_box ?_; refine gB rfl rfl rfl rfl rfl rfl ?_; intro b_) | (refine isx_alloc ?_; refine gA rfl rfl rfl rfl rfl rfl rfl ?_; intro b_) | (refine isx_store ?_; refine gS 0 rfl rfl rfl rfl rfl rfl rfl rfl rfl rfl ?_) | (refine isx_store ?_; refine gS 1 rfl rfl rfl rfl rfl rfl rfl rfl rfl rfl ?_) | (refine isx_store ?_; refine gS 2 rfl rfl rfl rfl rfl rfl rfl rfl rfl rfl ?_) | (refine isx_store ?_; refine gS 3 rfl rfl rfl rfl rfl rfl rfl rfl rfl rfl ?_) | (refine isx_row ?_; refine lx_row (E := EV) rfl rfl rfl rfl rfl rfl rfl rfl rfl rfl rfl rfl rfl ?_; intro b_) | refine lx_nil ?_ | with_reducible refine tq_n ?_ | with_reducible refine tq_r ?_ | with_reducible refine tq_e ?_ | with_reducible refine bk_n ?_ | with_reducible refine bk_r ?_ | (with_reducible refine bk_e ?_ ?_; exact rfl) | (with_reducible refine bk_x ?_ ?_; exact rfl) | refine cx_seq ?_ | refine cx_region ?_ | refine cx_block ?_ | refine cx_ret ?_ | refine cx_skip ?_ | refine cx_exit ?_ | fail)
    refine lx_append (E := EV) 4 rfl rfl rfl rfl rfl rfl rfl rfl rfl rfl rfl rfl rfl (news := x.cells) (fun w hm => row_blk 0 rfl rfl hm) (cells_one _) (by unfold maxLen; omega) (by show (_ + _) * 32 ≤ _; omega) (fun _ _ _ => trivial) ?_
    intro A' c'
    have hlen : (fs ++ [x]).length = fs.length + 1 := by simp
    rw [← fcells_push, ← hlen]
    have fit' := fit.push (x := x) ⟨by rw [hx1, hx2], by omega⟩
    repeat (first | (refine isU ?_; refine gU rfl ?_) | (refine isG ?_; refine gG rfl rfl ?_) | (refine isx_box ?_; refine gB rfl rfl rfl rfl rfl rfl ?_; intro b_) | (refine isx_alloc ?_; refine gA rfl rfl rfl rfl rfl rfl rfl ?_; intro b_) | (refine isx_store ?_; refine gS 0 rfl rfl rfl rfl rfl rfl rfl rfl rfl rfl ?_) | (refine isx_store ?_; refine gS 1 rfl rfl rfl rfl rfl rfl rfl rfl rfl rfl ?_) | (refine isx_store ?_; refine gS 2 rfl rfl rfl rfl rfl rfl rfl rfl rfl rfl ?_) | (refine isx_store ?_; refine gS 3 rfl rfl rfl rfl rfl rfl rfl rfl rfl rfl ?_) | (refine isx_row ?_; refine lx_row (E := EV) rfl rfl rfl rfl rfl rfl rfl rfl rfl rfl rfl rfl rfl ?_; intro b_) | refine lx_nil ?_ | with_reducible refine tq_n ?_ | with_reducible refine tq_r ?_ | with_reducible refine tq_e ?_ | with_reducible refine bk_n ?_ | with_reducible refine bk_r ?_ | (with_reducible refine bk_e ?_ ?_; exact rfl) | (with_reducible refine bk_x ?_ ?_; exact rfl) | refine cx_seq ?_ | refine cx_region ?_ | refine cx_block ?_ | refine cx_ret ?_ | refine cx_skip ?_ | refine cx_exit ?_ | fail)
    by_cases he : e = 71
    · have hkn : keptN Ak qk ck nx e = stC none 0 0 true := by unfold keptN; rw [he]; rfl
      rw [hkn]
      refine ⟨⟨fs ++ [x], A', c', q, none, 0, 0, true, View.none, ?_, fit', by rw [hlen]; dsimp only [cond]; omega, fun _ => rfl⟩, ⟨rfl, rfl, slot_int (by dsimp only; omega), trivial⟩, ?_, by dsimp only; omega⟩
      · rw [tell_push, hx1, hx3, he]
        rw [he] at hT
        exact .long rch hT
      · dsimp only
        rw [bods_push]
        exact Gives.pre [_, _, _, _, _, _] [4, 2, 5, 3] (by decide) rfl rfl
    have hkn : keptN Ak qk ck nx e = stC (cutA Ak ck nx 1) (qk - nx) (ck - nx) false := by
      unfold keptN
      rw [show (e == 71) = false by simp [he]]
      rfl
    rw [hkn]
    have h8 := hn8 he
    refine ⟨⟨fs ++ [x], A', c', off + nx, cutA Ak ck nx 1, qk - nx, ck - nx, false, hv.cut (by omega), ?_, fit', by rw [hlen]; dsimp only [cond]; omega, fun h => by cases h⟩, ⟨rfl, rfl, slot_int (by dsimp only; omega), trivial⟩, ?_, by dsimp only; omega⟩
    · rw [tell_push, hx1, hx3, ← List.drop_drop]
      exact .more rch hT h70 he
    · dsimp only
      rw [bods_push]
      exact Gives.pre [_, _, _, _, _, _] [4, 2, 5, 3] (by decide) rfl rfl
end Go.Proofs.Ythmdiopbiiimeaa.fr
