/- events: the chapter's examples. -/
import Derived.Test.YtbhbimfljjgijaaGo
import Derived.Test.YtbhbimfljjgijaaEi
namespace Go.Proofs.Ytbhbimfljjgijaa.ev
open Go.RowKit Go.Proofs.Ytbhbimfljjgijaa.kit Go.Proofs.Ytbhbimfljjgijaa.pk
def wa : List B8 := [1#8, 0#8, 1#8, 97#8, 0#8, 0#8, 0#8, 0#8, 0#8, 0#8, 0#8, 2#8, 255#8, 255#8, 255#8, 255#8, 255#8, 255#8, 255#8, 255#8]
def wb : List B8 := [2#8, 0#8, 0#8, 0#8, 0#8, 0#8, 0#8, 0#8, 3#8]
theorem wr1 : EOp.right ⟨1#8, [97#8], 2, -1⟩ = 0 := by decide
theorem wp1 : EOp.packed ⟨1#8, [97#8], 2, -1⟩ = wa := by decide
theorem wr2 : EOp.right ⟨2#8, [], 3, 0⟩ = 0 := by decide
theorem wp2 : EOp.packed ⟨2#8, [], 3, 0⟩ = wb := by decide
theorem wr3 : EOp.right ⟨1#8, [], 0, 0⟩ = 60 := by decide
theorem wp3 : EOp.packed ⟨1#8, [], 0, 0⟩ = [] := by decide
theorem wr4 : EOp.right ⟨2#8, [], 1099511627777, 0⟩ = 61 := by decide
theorem wp4 : EOp.packed ⟨2#8, [], 1099511627777, 0⟩ = [] := by decide
theorem wn0 : (prs []).2 = 20 := by decide
theorem wn1 : (prs [3#8]).2 = 80 := by decide
theorem wn2 : (prs [2#8]).2 = 20 := by decide
attribute [local irreducible] LX CX Yl Gives RetIs Fn
attribute [local irreducible] be de nx prs
set_option maxHeartbeats 4000000 in
theorem works_fn : Fn Try.prog 12 [] [] [] fun v Lo => v = .bool true ∧ Lo = [] := by
  have p1 := put_fn ⟨1#8, [97#8], 2, -1⟩ (by decide)
  have p2 := put_fn ⟨2#8, [], 3, 0⟩ (by decide)
  have p3 := put_fn ⟨1#8, [], 0, 0⟩ (by decide)
  have p4 := put_fn ⟨2#8, [], 1099511627777, 0⟩ (by decide)
  rw [wr1, wp1] at p1
  rw [wr2, wp2] at p2
  rw [wr3, wp3] at p3
  rw [wr4, wp4] at p4
  have q0 := parse_fn none 0 0 [] rfl (by decide) (by decide)
  have q1 := fun A => parse_fn A 1 1 [3#8] rfl (by decide) (by decide)
  have q2 := fun A => parse_fn A 1 1 [2#8] rfl (by decide) (by decide)
  rw [wn0] at q0
  simp only [wn1] at q1
  simp only [wn2] at q2
  refine fn_enter Try.func12 rfl rfl (by kernel_rfl) rfl ?_
  intro w0
  repeat (first | refine lx_not rfl rfl rfl rfl ?_ | refine lx_notu rfl rfl rfl rfl rfl ?_ | ((first | (apply lx_gt; exact rfl; exact rfl; exact rfl) | (apply lx_u; exact rfl) | (apply lx_g; exact rfl; exact rfl)); first | (apply isy_bin_eql; exact yl_true (yl_op (E := EV) rfl) (fun _ => rfl)) | (apply isy_convert; exact q_text rfl rfl rfl rfl (fun _ _ hm => row_own 7 rfl hm)) | (apply isy_convert; exact q_text rfl rfl rfl rfl (fun _ _ hm => row_own 8 rfl hm)) | (apply isy_bin_eql; exact yl_true (q_seq wa wa rfl rfl) (fun _ => beq_self_eq_true _)) | (apply isy_bin_eql; exact yl_true (q_seq wb wb rfl rfl) (fun _ => beq_self_eq_true _)) | fail) | (refine isG ?_; refine gT rfl rfl rfl ?_) | (refine isU ?_; refine gU rfl ?_) | (refine isG ?_; refine gG rfl rfl ?_) | (refine isx_call ?_; refine lx_gcallt (eOf_fn [97#8] 2 (-1)) (fun _ hm => in_nil hm) rfl rfl rfl rfl rfl rfl rfl ?_) | (refine isx_call ?_; refine lx_gcallt (eAt_fn 3) (fun _ hm => in_nil hm) rfl rfl rfl rfl rfl rfl rfl ?_) | (refine isx_call ?_; refine lx_gcallt (eOf_fn [] 0 0) (fun _ hm => in_nil hm) rfl rfl rfl rfl rfl rfl rfl ?_) | (refine isx_call ?_; refine lx_gcallt (eAt_fn 1099511627777) (fun _ hm => in_nil hm) rfl rfl rfl rfl rfl rfl rfl ?_) | (refine isx_call ?_; (refine isx_call ?_; refine lx_call0 (p1) (fun _ hm => in_nil hm) rfl rfl rfl rfl rfl rfl rfl rfl ?_; rintro v_ Lo_ ⟨A1, c1, rfl, rfl⟩)) | (refine isx_call ?_; (refine isx_call ?_; refine lx_call0 (p2) (fun _ hm => in_nil hm) rfl rfl rfl rfl rfl rfl rfl rfl ?_; rintro v_ Lo_ ⟨A2, c2, rfl, rfl⟩)) | (refine isx_call ?_; (refine isx_call ?_; refine lx_call0 (p3) (fun _ hm => in_nil hm) rfl rfl rfl rfl rfl rfl rfl rfl ?_; rintro v_ Lo_ ⟨A3, c3, rfl, rfl⟩)) | (refine isx_call ?_; (refine isx_call ?_; refine lx_call0 (p4) (fun _ hm => in_nil hm) rfl rfl rfl rfl rfl rfl rfl rfl ?_; rintro v_ Lo_ ⟨A4, c4, rfl, rfl⟩)) | (refine isx_call ?_; refine lx_gcallt (q0) ((fun w hm => in_ro (Row.nil (A := none)) (in_nil hm) rfl)) rfl rfl rfl rfl rfl rfl rfl ?_) | (refine isx_call ?_; refine lx_gcallt (q1 _) ((fun w hm => in_ro (row_blk 0 rfl rfl hm) (in_nil hm) rfl)) rfl rfl rfl rfl rfl rfl rfl ?_) | (refine isx_call ?_; refine lx_gcallt (q2 _) ((fun w hm => in_ro (row_blk 0 rfl rfl hm) (in_nil hm) rfl)) rfl rfl rfl rfl rfl rfl rfl ?_) | (refine isx_box ?_; refine gB rfl rfl rfl rfl rfl rfl ?_; intro b_) | (refine isx_alloc ?_; refine gA rfl rfl rfl rfl rfl rfl rfl ?_; intro b_) | (refine isx_store ?_; refine gS 0 rfl rfl rfl rfl rfl rfl rfl rfl rfl rfl ?_) | (refine isx_store ?_; refine gS 1 rfl rfl rfl rfl rfl rfl rfl rfl rfl rfl ?_) | (refine isx_store ?_; refine gS 2 rfl rfl rfl rfl rfl rfl rfl rfl rfl rfl ?_) | (refine isx_store ?_; refine gS 3 rfl rfl rfl rfl rfl rfl rfl rfl rfl rfl ?_) | (refine isx_row ?_; refine lx_row (E := EV) rfl rfl rfl rfl rfl rfl rfl rfl rfl rfl rfl rfl rfl ?_; intro b_) | refine lx_nil ?_ | with_reducible refine tq_n ?_ | with_reducible refine tq_r ?_ | with_reducible refine tq_e ?_ | with_reducible refine bk_n ?_ | with_reducible refine bk_r ?_ | (with_reducible refine bk_e ?_ ?_; exact rfl) | (with_reducible refine bk_x ?_ ?_; exact rfl) | refine cx_seq ?_ | refine cx_region ?_ | refine cx_block ?_ | refine cx_ret ?_ | refine cx_skip ?_ | refine cx_exit ?_ | fail)
  exact bq_ret (ret_tmp rfl rfl) [] (Gives.nil _) rfl ⟨rfl, rfl⟩
end Go.Proofs.Ytbhbimfljjgijaa.ev
