/- packed numbers and texts: the program's reader. -/
import Derived.Test.YtmochicneilhhaaGo
import Derived.Test.YtmochicneilhhaaPks
--SHORT 2
namespace Go.Proofs.Ytmochicneilhhaa.pk
open Go.RowKit Go.Proofs.Ytmochicneilhhaa.kit
/-- a reader's state -/
structure Rs where
  A : Option Addr
  n : Nat
  c : Nat
  l : List B8
  e : Int
abbrev Rs.blk (r : Rs) (b : Nat) : Ck := .blk b [.slice r.A r.n r.c, .int .i64 r.e] 104
abbrev Rs.ro (r : Rs) : Ck := .ro r.A r.n 1 (bvs r.l)
structure Rs.Ok (r : Rs) : Prop where
  len : r.l.length = r.n
  cap : r.n ≤ r.c
  max : r.c ≤ 9223372036854775807
def Rs.may (r : Rs) (k : Nat) : Bool := decide (r.e = 0) && decide (k ≤ r.n)
def Rs.adv (r : Rs) (k : Nat) : Rs := if r.e ≠ 0 then r else if r.n < k then { r with e := 20 } else ⟨cutA r.A r.c k 1, r.n - k, r.c - k, r.l.drop k, 0⟩
def Rs.got (r : Rs) (k : Nat) : List B8 := if r.may k then r.l.take k else []
def Rs.gotV (r : Rs) (k : Nat) : Value := if r.may k then .slice r.A k r.c else .slice none 0 0
theorem Rs.Ok.adv {r : Rs} (h : r.Ok) (k : Nat) : (r.adv k).Ok := by
  obtain ⟨h1, h2, h3⟩ := h
  unfold Rs.adv
  split
  · exact ⟨h1, h2, h3⟩
  · split
    · exact ⟨h1, h2, h3⟩
    · exact ⟨by dsimp only; rw [List.length_drop]; omega, by dsimp only; omega, by dsimp only; omega⟩
theorem Rs.adv_err {r : Rs} (k : Nat) (h : r.e ≠ 0) : r.adv k = r := by rw [Rs.adv, if_pos h]
theorem Rs.adv_short {r : Rs} {k : Nat} (h : r.e = 0) (hk : r.n < k) : r.adv k = { r with e := 20 } := by rw [Rs.adv, if_neg (by simp [h]), if_pos hk]
theorem Rs.adv_ok {r : Rs} {k : Nat} (h : r.e = 0) (hk : k ≤ r.n) : r.adv k = ⟨cutA r.A r.c k 1, r.n - k, r.c - k, r.l.drop k, 0⟩ := by rw [Rs.adv, if_neg (by simp [h]), if_neg (by omega)]
theorem Rs.may_err {r : Rs} {k : Nat} (h : r.e ≠ 0) : r.may k = false := by simp [Rs.may, h]
theorem Rs.may_short {r : Rs} {k : Nat} (hk : r.n < k) : r.may k = false := by simp [Rs.may]; omega
theorem Rs.may_ok {r : Rs} {k : Nat} (h : r.e = 0) (hk : k ≤ r.n) : r.may k = true := by simp [Rs.may, h, hk]
/-- what is left, of what there was -/
theorem Rs.Ok.gives {r : Rs} (h : r.Ok) (i k : Nat) {L : List Ck} (hk : L[i]? = some r.ro) : Gives L ((r.adv k).ro :: L) := by
  by_cases he : r.e = 0
  · by_cases hn : k ≤ r.n
    · rw [Rs.adv_ok he hn]
      exact Gives.cutb i hk hn h.cap
    · rw [Rs.adv_short he (by omega)]
      exact Gives.add i hk rfl rfl fun _ h => ⟨h, fun _ hb => hb⟩
  · rw [Rs.adv_err k he]
    exact Gives.add i hk rfl rfl fun _ h => ⟨h, fun _ hb => hb⟩
theorem Rs.got_row {r : Rs} {w : World} (k : Nat) (h : Row w w.heap.size 1 r.A r.n (bvs r.l)) : r.may k = true → Row w w.heap.size 1 r.A k (bvs (r.got k)) := fun hm => by
  rw [Rs.got, if_pos hm]
  simp only [Rs.may, Bool.and_eq_true, decide_eq_true_eq] at hm
  exact h.preb hm.2
attribute [local irreducible] LX CX Yl Gives RetIs Fn
attribute [local irreducible] be de
theorem bytes_fn (b : Nat) (r : Rs) (hr : r.Ok) (k : Nat) (hk : k ≤ 1048576) : Fn Try.prog 58 [.pointer (some ⟨b, 0, none⟩), .int .i64 k] [r.blk b] [b]
    fun v Lo => v = .tuple #[r.gotV k, .bool (r.may k)] ∧ Lo = [(r.adv k).blk b] := by
  obtain ⟨h1, h2, h3⟩ := hr
  refine fn_enter Try.func58 rfl rfl (by kernel_rfl) rfl ?_
  intro w0
  repeat (first | refine lx_not rfl rfl rfl rfl ?_ | refine lx_notu rfl rfl rfl rfl rfl ?_ | (refine isU ?_; refine gU rfl ?_) | (refine isG ?_; first | refine gT rfl rfl rfl ?_ | refine gG rfl rfl ?_) | (refine isx_box ?_; refine gB rfl rfl rfl rfl rfl rfl ?_; intro b_) | (refine isx_alloc ?_; refine gA rfl rfl rfl rfl rfl rfl rfl ?_; intro b_) | (refine isx_store ?_; first | refine gS 0 rfl rfl rfl rfl rfl rfl rfl rfl rfl rfl ?_ | refine gS 1 rfl rfl rfl rfl rfl rfl rfl rfl rfl rfl ?_) | (refine isx_row ?_; refine lx_row (E := EV) rfl rfl rfl rfl rfl rfl rfl rfl rfl rfl rfl rfl rfl ?_; intro b_) | refine lx_nil ?_ | (with_reducible first | refine tq_n ?_ | refine tq_r ?_ | refine tq_e ?_ | refine bk_n ?_ | refine bk_r ?_) | (with_reducible refine bk_e ?_ ?_; exact rfl) | (with_reducible refine bk_x ?_ ?_; exact rfl) | refine cx_seq ?_ | refine cx_region ?_ | refine cx_block ?_ | refine cx_ret ?_ | refine cx_skip ?_ | refine cx_exit ?_ | fail)
  refine cx_cond rfl (fun h => ?_) (fun h => ?_)
  · have he : r.e ≠ 0 := by simpa using h
    rw [Rs.adv_err k he, Rs.gotV, Rs.may_err he]
    repeat (first | (refine isU ?_; refine gU rfl ?_) | (refine isG ?_; first | refine gG rfl rfl ?_) | (refine isx_box ?_; refine gB rfl rfl rfl rfl rfl rfl ?_; intro b_) | (refine isx_alloc ?_; refine gA rfl rfl rfl rfl rfl rfl rfl ?_; intro b_) | (refine isx_store ?_; first | refine gS 0 rfl rfl rfl rfl rfl rfl rfl rfl rfl rfl ?_ | refine gS 1 rfl rfl rfl rfl rfl rfl rfl rfl rfl rfl ?_) | (refine isx_row ?_; refine lx_row (E := EV) rfl rfl rfl rfl rfl rfl rfl rfl rfl rfl rfl rfl rfl ?_; intro b_) | refine lx_nil ?_ | (with_reducible first | refine tq_n ?_ | refine tq_r ?_ | refine tq_e ?_ | refine bk_n ?_ | refine bk_r ?_) | (with_reducible refine bk_e ?_ ?_; exact rfl) | (with_reducible refine bk_x ?_ ?_; exact rfl) | refine cx_seq ?_ | refine cx_region ?_ | refine cx_block ?_ | refine cx_ret ?_ | refine cx_skip ?_ | refine cx_exit ?_ | fail)
    exact bq_ret (ret_tmp2 rfl rfl rfl) [_] (Gives.refl _) rfl ⟨rfl, rfl⟩
  have he : r.e = 0 := by simpa using h
  repeat (first | (refine isU ?_; refine gU rfl ?_) | (refine isG ?_; first | refine gG rfl rfl ?_) | (refine isx_box ?_; refine gB rfl rfl rfl rfl rfl rfl ?_; intro b_) | (refine isx_alloc ?_; refine gA rfl rfl rfl rfl rfl rfl rfl ?_; intro b_) | (refine isx_store ?_; first | refine gS 0 rfl rfl rfl rfl rfl rfl rfl rfl rfl rfl ?_ | refine gS 1 rfl rfl rfl rfl rfl rfl rfl rfl rfl rfl ?_) | (refine isx_row ?_; refine lx_row (E := EV) rfl rfl rfl rfl rfl rfl rfl rfl rfl rfl rfl rfl rfl ?_; intro b_) | refine lx_nil ?_ | (with_reducible first | refine tq_n ?_ | refine tq_r ?_ | refine tq_e ?_ | refine bk_n ?_ | refine bk_r ?_) | (with_reducible refine bk_e ?_ ?_; exact rfl) | (with_reducible refine bk_x ?_ ?_; exact rfl) | refine cx_seq ?_ | refine cx_region ?_ | refine cx_block ?_ | refine cx_ret ?_ | refine cx_skip ?_ | refine cx_exit ?_ | fail)
  refine cx_cond rfl (fun h => ?_) (fun h => ?_)
  · have hk : r.n < k := by simpa using h
    rw [Rs.adv_short he hk, Rs.gotV, Rs.may_short hk]
    repeat (first | (refine isU ?_; refine gU rfl ?_) | (refine isG ?_; first | refine gG rfl rfl ?_) | (refine isx_box ?_; refine gB rfl rfl rfl rfl rfl rfl ?_; intro b_) | (refine isx_alloc ?_; refine gA rfl rfl rfl rfl rfl rfl rfl ?_; intro b_) | (refine isx_store ?_; first | refine gS 0 rfl rfl rfl rfl rfl rfl rfl rfl rfl rfl ?_ | refine gS 1 rfl rfl rfl rfl rfl rfl rfl rfl rfl rfl ?_) | (refine isx_row ?_; refine lx_row (E := EV) rfl rfl rfl rfl rfl rfl rfl rfl rfl rfl rfl rfl rfl ?_; intro b_) | refine lx_nil ?_ | (with_reducible first | refine tq_n ?_ | refine tq_r ?_ | refine tq_e ?_ | refine bk_n ?_ | refine bk_r ?_) | (with_reducible refine bk_e ?_ ?_; exact rfl) | (with_reducible refine bk_x ?_ ?_; exact rfl) | refine cx_seq ?_ | refine cx_region ?_ | refine cx_block ?_ | refine cx_ret ?_ | refine cx_skip ?_ | refine cx_exit ?_ | fail)
    exact bq_ret (ret_tmp2 rfl rfl rfl) [_] (Gives.refl _) rfl ⟨rfl, rfl⟩
  have hk : k ≤ r.n := by simp at h; omega
  rw [Rs.adv_ok he hk, Rs.gotV, Rs.may_ok he hk]
  repeat (first | ((first | (apply lx_u; exact rfl) | (apply lx_g; exact rfl; exact rfl)); first | (apply isy_slice; exact q_slh rfl rfl rfl rfl) | (apply isy_slice; exact q_sll rfl rfl rfl rfl) | fail) | (refine isU ?_; refine gU rfl ?_) | (refine isG ?_; first | refine gG rfl rfl ?_) | (refine isx_box ?_; refine gB rfl rfl rfl rfl rfl rfl ?_; intro b_) | (refine isx_alloc ?_; refine gA rfl rfl rfl rfl rfl rfl rfl ?_; intro b_) | (refine isx_store ?_; first | refine gS 0 rfl rfl rfl rfl rfl rfl rfl rfl rfl rfl ?_ | refine gS 1 rfl rfl rfl rfl rfl rfl rfl rfl rfl rfl ?_) | (refine isx_row ?_; refine lx_row (E := EV) rfl rfl rfl rfl rfl rfl rfl rfl rfl rfl rfl rfl rfl ?_; intro b_) | refine lx_nil ?_ | (with_reducible first | refine tq_n ?_ | refine tq_r ?_ | refine tq_e ?_ | refine bk_n ?_ | refine bk_r ?_) | (with_reducible refine bk_e ?_ ?_; exact rfl) | (with_reducible refine bk_x ?_ ?_; exact rfl) | refine cx_seq ?_ | refine cx_region ?_ | refine cx_block ?_ | refine cx_ret ?_ | refine cx_skip ?_ | refine cx_exit ?_ | fail)
  refine bq_ret (ret_tmp2 rfl rfl rfl) [_] (Gives.refl _) rfl ⟨rfl, ?_⟩
  rw [he]
  rfl
theorem bytes_nil (k : Int) : Fn Try.prog 58 [.pointer none, .int .i64 k] [] [] fun v Lo => v = .tuple #[.slice none 0 0, .bool false] ∧ Lo = [] := by
  refine fn_enter Try.func58 rfl rfl (by kernel_rfl) rfl ?_
  intro w0
  repeat (first | refine lx_not rfl rfl rfl rfl ?_ | refine lx_notu rfl rfl rfl rfl rfl ?_ | (refine isU ?_; refine gU rfl ?_) | (refine isG ?_; first | refine gT rfl rfl rfl ?_ | refine gG rfl rfl ?_) | (refine isx_box ?_; refine gB rfl rfl rfl rfl rfl rfl ?_; intro b_) | (refine isx_alloc ?_; refine gA rfl rfl rfl rfl rfl rfl rfl ?_; intro b_) | (refine isx_store ?_; first | refine gS 0 rfl rfl rfl rfl rfl rfl rfl rfl rfl rfl ?_ | refine gS 1 rfl rfl rfl rfl rfl rfl rfl rfl rfl rfl ?_) | (refine isx_row ?_; refine lx_row (E := EV) rfl rfl rfl rfl rfl rfl rfl rfl rfl rfl rfl rfl rfl ?_; intro b_) | refine lx_nil ?_ | (with_reducible first | refine tq_n ?_ | refine tq_r ?_ | refine tq_e ?_ | refine bk_n ?_ | refine bk_r ?_) | (with_reducible refine bk_e ?_ ?_; exact rfl) | (with_reducible refine bk_x ?_ ?_; exact rfl) | refine cx_seq ?_ | refine cx_region ?_ | refine cx_block ?_ | refine cx_ret ?_ | refine cx_skip ?_ | refine cx_exit ?_ | fail)
  refine cx_cond rfl (fun h => ?_) (fun h => by cases h)
  repeat (first | (refine isU ?_; refine gU rfl ?_) | (refine isG ?_; first | refine gG rfl rfl ?_) | (refine isx_box ?_; refine gB rfl rfl rfl rfl rfl rfl ?_; intro b_) | (refine isx_alloc ?_; refine gA rfl rfl rfl rfl rfl rfl rfl ?_; intro b_) | (refine isx_store ?_; first | refine gS 0 rfl rfl rfl rfl rfl rfl rfl rfl rfl rfl ?_ | refine gS 1 rfl rfl rfl rfl rfl rfl rfl rfl rfl rfl ?_) | (refine isx_row ?_; refine lx_row (E := EV) rfl rfl rfl rfl rfl rfl rfl rfl rfl rfl rfl rfl rfl ?_; intro b_) | refine lx_nil ?_ | (with_reducible first | refine tq_n ?_ | refine tq_r ?_ | refine tq_e ?_ | refine bk_n ?_ | refine bk_r ?_) | (with_reducible refine bk_e ?_ ?_; exact rfl) | (with_reducible refine bk_x ?_ ?_; exact rfl) | refine cx_seq ?_ | refine cx_region ?_ | refine cx_block ?_ | refine cx_ret ?_ | refine cx_skip ?_ | refine cx_exit ?_ | fail)
  exact bq_ret (ret_tmp2 rfl rfl rfl) [] (Gives.nil _) rfl ⟨rfl, rfl⟩
end Go.Proofs.Ytmochicneilhhaa.pk
