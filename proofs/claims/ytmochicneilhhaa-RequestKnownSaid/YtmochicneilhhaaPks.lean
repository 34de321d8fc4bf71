/- packed texts: the reference's reader, on. -/
import Derived.Test.YtmochicneilhhaaGo
import Derived.Test.YtmochicneilhhaaPkr
import Derived.Test.YtmochicneilhhaaRow
--SHORT 2
namespace Go.Proofs.Ytmochicneilhhaa.pk
open Go.RowKit Go.Proofs.Ytmochicneilhhaa.kit
theorem dn_lt : ∀ (l : List B8) (n : Nat), dn n l < (n + 1) * 256 ^ l.length
  | [], n => by show n < _; simp
  | c :: l, n => by
    have h := dn_lt l (n * 256 + c.toNat)
    have hc := c.isLt
    refine Nat.lt_of_lt_of_le h ?_
    rw [List.length_cons, Nat.pow_succ, Nat.mul_comm (256 ^ l.length) 256, ← Nat.mul_assoc]
    exact Nat.mul_le_mul_right _ (by omega)
theorem de_lt (l : List B8) : (de 0#64 l).toNat < 256 ^ l.length := by
  rw [de_dn l 0#64 0 rfl]
  have := dn_lt l 0
  rw [Nat.zero_add, Nat.one_mul] at this
  exact Nat.lt_of_le_of_lt (Nat.mod_le _ _) this
theorem rTake_lt (l : List B8) (at' : Nat) (f : Bool) (k : Nat) : (rTake l at' f k).1.toNat < 256 ^ k := by
  unfold rTake
  split
  · exact Nat.pow_pos (by decide)
  · rename_i h
    have := de_lt ((l.drop at').take k)
    rw [List.length_take, List.length_drop, Nat.min_eq_left (by rw [not_or] at h; omega)] at this
    exact this
theorem rTake_at (l : List B8) (at' : Nat) (f : Bool) (k : Nat) : (rTake l at' f k).2.1 ≤ at' + k ∧ at' ≤ (rTake l at' f k).2.1 ∧ ((rTake l at' f k).2.2 = false → at' + k ≤ l.length ∧ (rTake l at' f k).2.1 = at' + k) := by
  unfold rTake
  split
  · simp
  · rename_i h
    rw [not_or] at h
    simp
    omega
attribute [local irreducible] LX CX Yl Gives RetIs Fn
attribute [local irreducible] be de

set_option maxHeartbeats 1000000 in
theorem rTakeText_fn (A : Option Addr) (n c : Nat) (l : List B8) (at' : Nat) (f : Bool) (hl : l.length = n) (hc : n ≤ c ∧ c ≤ 9223372036854775807) (hat : at' ≤ 4611686018427387) :
    Fn Try.prog 55 [rVal A n c at' f] [.ro A n 1 (bvs l)] [] fun v Lo => v = .tuple #[.string (sb (rText l at' f).1), rVal A n c (rText l at' f).2.1 (rText l at' f).2.2] ∧ Lo = [] := by
  refine fn_enter Try.func55 rfl rfl (by kernel_rfl) rfl ?_
  intro w0
  have h1 := rTake_lt l at' f 2
  have h2 := rTake_at l at' f 2
  repeat (first | ((first | (apply lx_u; exact rfl) | (apply lx_g; exact rfl; exact rfl)); first | (apply isy_convert; exact q_cn rfl rfl rfl) | fail) | (refine isU ?_; refine gU rfl ?_) | (refine isG ?_; first | refine gG rfl rfl ?_) | (refine isx_call ?_; refine k_gcall (rTake_fn A n c l at' f 2 hl (by omega) (by omega) (by omega)) ((fun w hm => hm.ros [2] (by decide) rfl rfl)) rfl rfl rfl rfl rfl rfl ?_) | (refine isx_box ?_; refine gB rfl rfl rfl rfl rfl rfl ?_; intro b_) | (refine isx_alloc ?_; refine gA rfl rfl rfl rfl rfl rfl rfl ?_; intro b_) | (refine isx_store ?_; first | refine gS 0 rfl rfl rfl rfl rfl rfl rfl rfl rfl rfl ?_ | refine gS 1 rfl rfl rfl rfl rfl rfl rfl rfl rfl rfl ?_) | (refine isx_row ?_; refine lx_row (E := EV) rfl rfl rfl rfl rfl rfl rfl rfl rfl rfl rfl rfl rfl ?_; intro b_) | refine lx_nil ?_ | (with_reducible first | refine tq_n ?_ | refine tq_r ?_ | refine tq_e ?_ | refine bk_n ?_ | refine bk_r ?_) | (with_reducible refine bk_e ?_ ?_; exact rfl) | (with_reducible refine bk_x ?_ ?_; exact rfl) | refine cx_seq ?_ | refine cx_region ?_ | refine cx_block ?_ | refine cx_ret ?_ | refine cx_skip ?_ | refine cx_exit ?_ | fail)
  have h3 : rText l at' f = if (rTake l at' f 2).2.2 = true ∨ l.length < (rTake l at' f 2).2.1 + (rTake l at' f 2).1.toNat then ([], at', true) else ((l.drop (rTake l at' f 2).2.1).take (rTake l at' f 2).1.toNat, (rTake l at' f 2).2.1 + (rTake l at' f 2).1.toNat, false) := rfl
  generalize rTake l at' f 2 = z at h1 h2 h3 ⊢
  obtain ⟨x, a2, f2⟩ := z
  dsimp only at h1 h2 h3 ⊢
  rename_i bx b3
  refine cx_cond rfl (fun h => ?_) (fun h => ?_)
  · have hc : f2 = true ∨ l.length < a2 + x.toNat := by
      simp at h
      rcases h with h | h
      · exact .inl h
      · exact .inr (by omega)
    rw [if_pos hc] at h3
    rw [h3]
    repeat (first | (refine isU ?_; refine gU rfl ?_) | (refine isG ?_; first | refine gG rfl rfl ?_) | (refine isx_box ?_; refine gB rfl rfl rfl rfl rfl rfl ?_; intro b_) | (refine isx_alloc ?_; refine gA rfl rfl rfl rfl rfl rfl rfl ?_; intro b_) | (refine isx_store ?_; first | refine gS 0 rfl rfl rfl rfl rfl rfl rfl rfl rfl rfl ?_ | refine gS 1 rfl rfl rfl rfl rfl rfl rfl rfl rfl rfl ?_) | (refine isx_row ?_; refine lx_row (E := EV) rfl rfl rfl rfl rfl rfl rfl rfl rfl rfl rfl rfl rfl ?_; intro b_) | refine lx_nil ?_ | (with_reducible first | refine tq_n ?_ | refine tq_r ?_ | refine tq_e ?_ | refine bk_n ?_ | refine bk_r ?_) | (with_reducible refine bk_e ?_ ?_; exact rfl) | (with_reducible refine bk_x ?_ ?_; exact rfl) | refine cx_seq ?_ | refine cx_region ?_ | refine cx_block ?_ | refine cx_ret ?_ | refine cx_skip ?_ | refine cx_exit ?_ | fail)
    refine cx_draw [6] [.blk bx [.slice A n c, .int .i64 at', .bool f] 76] rfl (by kernel_rfl) (Gives.pick [2] (by decide) rfl) ?_
    repeat (first | (refine isU ?_; refine gU rfl ?_) | (refine isG ?_; first | refine gG rfl rfl ?_) | (refine isx_store ?_; refine lx_store (E := EV) 1 rfl rfl rfl rfl rfl rfl rfl rfl (Nat.le_of_ble_eq_true rfl) rfl (fun _ => Gives.pick [2] (by decide) rfl) ?_) | (refine isx_box ?_; refine gB rfl rfl rfl rfl rfl rfl ?_; intro b_) | (refine isx_alloc ?_; refine gA rfl rfl rfl rfl rfl rfl rfl ?_; intro b_) | (refine isx_store ?_; first | refine gS 0 rfl rfl rfl rfl rfl rfl rfl rfl rfl rfl ?_ | refine gS 1 rfl rfl rfl rfl rfl rfl rfl rfl rfl rfl ?_) | (refine isx_row ?_; refine lx_row (E := EV) rfl rfl rfl rfl rfl rfl rfl rfl rfl rfl rfl rfl rfl ?_; intro b_) | refine lx_nil ?_ | (with_reducible first | refine tq_n ?_ | refine tq_r ?_ | refine tq_e ?_ | refine bk_n ?_ | refine bk_r ?_) | (with_reducible refine bk_e ?_ ?_; exact rfl) | (with_reducible refine bk_x ?_ ?_; exact rfl) | refine cx_seq ?_ | refine cx_region ?_ | refine cx_block ?_ | refine cx_ret ?_ | refine cx_skip ?_ | refine cx_exit ?_ | fail)
    exact bq_ret (ret_tmp_cell (E := EV) 1 rfl rfl rfl rfl rfl (fun _ => Nat.le_of_ble_eq_true rfl) rfl) [] (Gives.nil _) rfl ⟨rfl, rfl⟩
  · have hc' : ¬ (f2 = true ∨ l.length < a2 + x.toNat) := by
      simp at h
      obtain ⟨k1, k2⟩ := h
      rw [k1]
      simp
      omega
    rw [if_neg hc'] at h3
    rw [h3]
    obtain ⟨hf, hlen⟩ : f2 = false ∧ a2 + x.toNat ≤ n := by
      rw [not_or] at hc'
      exact ⟨by simpa using hc'.1, by omega⟩
    subst hf
    clear h hc' h3
    have hadd : (a2 : Int) + (x.toNat : Int) = ((a2 + x.toNat : Nat) : Int) := by omega
    have hsub : a2 + x.toNat - a2 = x.toNat := by omega
    repeat (first | (refine isU ?_; refine gU rfl ?_) | (refine isG ?_; first | refine gG rfl rfl ?_) | (refine isx_box ?_; refine gB rfl rfl rfl rfl rfl rfl ?_; intro b_) | (refine isx_alloc ?_; refine gA rfl rfl rfl rfl rfl rfl rfl ?_; intro b_) | (refine isx_store ?_; first | refine gS 0 rfl rfl rfl rfl rfl rfl rfl rfl rfl rfl ?_ | refine gS 1 rfl rfl rfl rfl rfl rfl rfl rfl rfl rfl ?_) | (refine isx_row ?_; refine lx_row (E := EV) rfl rfl rfl rfl rfl rfl rfl rfl rfl rfl rfl rfl rfl ?_; intro b_) | refine lx_nil ?_ | (with_reducible first | refine tq_n ?_ | refine tq_r ?_ | refine tq_e ?_ | refine bk_n ?_ | refine bk_r ?_) | (with_reducible refine bk_e ?_ ?_; exact rfl) | (with_reducible refine bk_x ?_ ?_; exact rfl) | refine cx_seq ?_ | refine cx_region ?_ | refine cx_block ?_ | refine cx_ret ?_ | refine cx_skip ?_ | refine cx_exit ?_ | fail)
    refine cx_draw [20] [.blk b_ [.slice A n c, .int .i64 a2, .bool false] 76, .blk bx [.slice A n c, .int .i64 at', .bool f] 76, .ro A n 1 (bvs l)] rfl (by kernel_rfl) (Gives.pick [0, 2, 3] (by decide) rfl) ?_
    repeat (first | ((first | (apply lx_u; exact rfl) | (apply lx_g; exact rfl; exact rfl)); first | (apply isy_convert; exact q_cn rfl rfl rfl) | (apply isy_bin_add; exact yl_eq (yl_add rfl rfl (by first | exact fun _ => rfl | exact fun h => h | exact fun h => (Bool.and_eq_true_iff.1 h).1) (by first | exact fun _ => rfl | exact fun h => h | exact fun h => (Bool.and_eq_true_iff.1 h).1) (fun _ => by omega)) (fun _ => congrArg (Value.int .i64) hadd)) | (apply isy_slice; exact q_sl rfl rfl rfl rfl rfl) | (apply isy_convert; exact yl_text (E := EV) rfl rfl rfl rfl (fun _ _ hm => Row.cutb (row_ro 2 rfl hm) (lo := a2) (hi := a2 + x.toNat) (by omega) (by omega) hc.1) (by first | exact fun _ => rfl | exact fun h => h | exact fun h => (Bool.and_eq_true_iff.1 h).1)) | fail) | (refine isU ?_; refine gU rfl ?_) | (refine isG ?_; first | refine gG rfl rfl ?_) | (refine isx_store ?_; refine lx_store (E := EV) 1 rfl rfl rfl rfl rfl rfl rfl rfl (Nat.le_of_ble_eq_true rfl) rfl (fun _ => Gives.pick [0, 2, 3] (by decide) rfl) ?_) | (refine isx_box ?_; refine gB rfl rfl rfl rfl rfl rfl ?_; intro b_) | (refine isx_alloc ?_; refine gA rfl rfl rfl rfl rfl rfl rfl ?_; intro b_) | (refine isx_store ?_; first | refine gS 0 rfl rfl rfl rfl rfl rfl rfl rfl rfl rfl ?_ | refine gS 1 rfl rfl rfl rfl rfl rfl rfl rfl rfl rfl ?_) | (refine isx_row ?_; refine lx_row (E := EV) rfl rfl rfl rfl rfl rfl rfl rfl rfl rfl rfl rfl rfl ?_; intro b_) | refine lx_nil ?_ | (with_reducible first | refine tq_n ?_ | refine tq_r ?_ | refine tq_e ?_ | refine bk_n ?_ | refine bk_r ?_) | (with_reducible refine bk_e ?_ ?_; exact rfl) | (with_reducible refine bk_x ?_ ?_; exact rfl) | refine cx_seq ?_ | refine cx_region ?_ | refine cx_block ?_ | refine cx_ret ?_ | refine cx_skip ?_ | refine cx_exit ?_ | fail)
    exact bq_ret (ret_tmp_cell (E := EV) 1 rfl rfl rfl rfl rfl (fun _ => Nat.le_of_ble_eq_true rfl) rfl) [] (Gives.nil _) rfl ⟨by rw [hsub]; rfl, rfl⟩

def rDoneN (n at' : Nat) (f : Bool) : Int := if f = true then 20 else if at' < n then 21 else 0

theorem rDone_fn (A : Option Addr) (n c : Nat) (at' : Nat) (f : Bool) : Fn Try.prog 44 [rVal A n c at' f] [] [] fun v Lo => v = .int .i64 (rDoneN n at' f) ∧ Lo = [] := by
  refine fn_enter Try.func44 rfl rfl (by kernel_rfl) rfl ?_
  intro w0
  repeat (first | (refine isU ?_; refine gU rfl ?_) | (refine isG ?_; first | refine gG rfl rfl ?_) | (refine isx_box ?_; refine gB rfl rfl rfl rfl rfl rfl ?_; intro b_) | (refine isx_alloc ?_; refine gA rfl rfl rfl rfl rfl rfl rfl ?_; intro b_) | (refine isx_store ?_; first | refine gS 0 rfl rfl rfl rfl rfl rfl rfl rfl rfl rfl ?_ | refine gS 1 rfl rfl rfl rfl rfl rfl rfl rfl rfl rfl ?_) | (refine isx_row ?_; refine lx_row (E := EV) rfl rfl rfl rfl rfl rfl rfl rfl rfl rfl rfl rfl rfl ?_; intro b_) | refine lx_nil ?_ | (with_reducible first | refine tq_n ?_ | refine tq_r ?_ | refine tq_e ?_ | refine bk_n ?_ | refine bk_r ?_) | (with_reducible refine bk_e ?_ ?_; exact rfl) | (with_reducible refine bk_x ?_ ?_; exact rfl) | refine cx_seq ?_ | refine cx_region ?_ | refine cx_block ?_ | refine cx_ret ?_ | refine cx_skip ?_ | refine cx_exit ?_ | fail)
  refine cx_cond rfl (fun h => ?_) (fun h => ?_)
  · subst h
    repeat (first | (refine isU ?_; refine gU rfl ?_) | (refine isG ?_; first | refine gG rfl rfl ?_) | (refine isx_box ?_; refine gB rfl rfl rfl rfl rfl rfl ?_; intro b_) | (refine isx_alloc ?_; refine gA rfl rfl rfl rfl rfl rfl rfl ?_; intro b_) | (refine isx_store ?_; first | refine gS 0 rfl rfl rfl rfl rfl rfl rfl rfl rfl rfl ?_ | refine gS 1 rfl rfl rfl rfl rfl rfl rfl rfl rfl rfl ?_) | (refine isx_row ?_; refine lx_row (E := EV) rfl rfl rfl rfl rfl rfl rfl rfl rfl rfl rfl rfl rfl ?_; intro b_) | refine lx_nil ?_ | (with_reducible first | refine tq_n ?_ | refine tq_r ?_ | refine tq_e ?_ | refine bk_n ?_ | refine bk_r ?_) | (with_reducible refine bk_e ?_ ?_; exact rfl) | (with_reducible refine bk_x ?_ ?_; exact rfl) | refine cx_seq ?_ | refine cx_region ?_ | refine cx_block ?_ | refine cx_ret ?_ | refine cx_skip ?_ | refine cx_exit ?_ | fail)
    exact bq_ret (ret_tmp rfl rfl) [] (Gives.nil _) rfl ⟨rfl, rfl⟩
  subst h
  repeat (first | (refine isU ?_; refine gU rfl ?_) | (refine isG ?_; first | refine gG rfl rfl ?_) | (refine isx_box ?_; refine gB rfl rfl rfl rfl rfl rfl ?_; intro b_) | (refine isx_alloc ?_; refine gA rfl rfl rfl rfl rfl rfl rfl ?_; intro b_) | (refine isx_store ?_; first | refine gS 0 rfl rfl rfl rfl rfl rfl rfl rfl rfl rfl ?_ | refine gS 1 rfl rfl rfl rfl rfl rfl rfl rfl rfl rfl ?_) | (refine isx_row ?_; refine lx_row (E := EV) rfl rfl rfl rfl rfl rfl rfl rfl rfl rfl rfl rfl rfl ?_; intro b_) | refine lx_nil ?_ | (with_reducible first | refine tq_n ?_ | refine tq_r ?_ | refine tq_e ?_ | refine bk_n ?_ | refine bk_r ?_) | (with_reducible refine bk_e ?_ ?_; exact rfl) | (with_reducible refine bk_x ?_ ?_; exact rfl) | refine cx_seq ?_ | refine cx_region ?_ | refine cx_block ?_ | refine cx_ret ?_ | refine cx_skip ?_ | refine cx_exit ?_ | fail)
  refine cx_cond rfl (fun h => ?_) (fun h => ?_)
  · have e : rDoneN n at' false = 21 := by unfold rDoneN; rw [if_neg (by simp), if_pos (by simp at h; omega)]
    repeat (first | (refine isU ?_; refine gU rfl ?_) | (refine isG ?_; first | refine gG rfl rfl ?_) | (refine isx_box ?_; refine gB rfl rfl rfl rfl rfl rfl ?_; intro b_) | (refine isx_alloc ?_; refine gA rfl rfl rfl rfl rfl rfl rfl ?_; intro b_) | (refine isx_store ?_; first | refine gS 0 rfl rfl rfl rfl rfl rfl rfl rfl rfl rfl ?_ | refine gS 1 rfl rfl rfl rfl rfl rfl rfl rfl rfl rfl ?_) | (refine isx_row ?_; refine lx_row (E := EV) rfl rfl rfl rfl rfl rfl rfl rfl rfl rfl rfl rfl rfl ?_; intro b_) | refine lx_nil ?_ | (with_reducible first | refine tq_n ?_ | refine tq_r ?_ | refine tq_e ?_ | refine bk_n ?_ | refine bk_r ?_) | (with_reducible refine bk_e ?_ ?_; exact rfl) | (with_reducible refine bk_x ?_ ?_; exact rfl) | refine cx_seq ?_ | refine cx_region ?_ | refine cx_block ?_ | refine cx_ret ?_ | refine cx_skip ?_ | refine cx_exit ?_ | fail)
    exact bq_ret (ret_tmp rfl rfl) [] (Gives.nil _) rfl ⟨by rw [e], rfl⟩
  have e : rDoneN n at' false = 0 := by unfold rDoneN; rw [if_neg (by simp), if_neg (by simp at h; omega)]
  repeat (first | (refine isU ?_; refine gU rfl ?_) | (refine isG ?_; first | refine gG rfl rfl ?_) | (refine isx_box ?_; refine gB rfl rfl rfl rfl rfl rfl ?_; intro b_) | (refine isx_alloc ?_; refine gA rfl rfl rfl rfl rfl rfl rfl ?_; intro b_) | (refine isx_store ?_; first | refine gS 0 rfl rfl rfl rfl rfl rfl rfl rfl rfl rfl ?_ | refine gS 1 rfl rfl rfl rfl rfl rfl rfl rfl rfl rfl ?_) | (refine isx_row ?_; refine lx_row (E := EV) rfl rfl rfl rfl rfl rfl rfl rfl rfl rfl rfl rfl rfl ?_; intro b_) | refine lx_nil ?_ | (with_reducible first | refine tq_n ?_ | refine tq_r ?_ | refine tq_e ?_ | refine bk_n ?_ | refine bk_r ?_) | (with_reducible refine bk_e ?_ ?_; exact rfl) | (with_reducible refine bk_x ?_ ?_; exact rfl) | refine cx_seq ?_ | refine cx_region ?_ | refine cx_block ?_ | refine cx_ret ?_ | refine cx_skip ?_ | refine cx_exit ?_ | fail)
  exact bq_ret (ret_tmp rfl rfl) [] (Gives.nil _) rfl ⟨by rw [e], rfl⟩

end Go.Proofs.Ytmochicneilhhaa.pk
