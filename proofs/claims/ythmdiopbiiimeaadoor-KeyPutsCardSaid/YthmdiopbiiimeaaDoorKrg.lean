/- keys: rows, written. -/
import Derived.Test.YthmdiopbiiimeaaDoorGo
import Derived.Test.YthmdiopbiiimeaaDoorKrf
namespace Go.Proofs.YthmdiopbiiimeaaDoor.ky
open Go.RowKit Go.Proofs.YthmdiopbiiimeaaDoor.pk Go.Proofs.YthmdiopbiiimeaaDoor.bd
structure WSt (l : List KP) where
  i : Nat
  u : Bool
  A : Option Addr
  c : Nat
  hi : i ≤ l.length
  h0 : i = 0 → u = false ∧ A = none ∧ c = 0
theorem enc_ne (p : KP) : p.enc ≠ [] := by
  unfold KP.enc
  split
  · exact fun h => by cases h
  · simp
theorem encs_nil {l : List KP} (h : encs l = []) : l = [] := by
  cases l with
  | nil => rfl
  | cons p l =>
    have e : encs (p :: l) = p.enc ++ encs l := rfl
    rw [e, List.append_eq_nil_iff] at h
    exact absurd h.1 (enc_ne p)
theorem len_le {l : List KP} (h : ∀ p ∈ l, p.s.length ≤ 100) {p : KP} {i : Nat} (hx : l[i]? = some p) : p.s.length ≤ 100 := h p (List.mem_of_getElem? hx)
attribute [local irreducible] LX CX Yl Gives RetIs Fn
attribute [local irreducible] be de
set_option maxHeartbeats 4000000 in
theorem put_fn (m : Int) (A : Option Addr) (n c : Nat) (l : List KP) (hl : l.length = n) (hn : n ≤ 1000) (hs : ∀ p ∈ l, p.s.length ≤ 100) : Fn Tryd.prog 10 [.slice A n c] [.ro A n 3 (kps l), gv m] [] fun v Lo => v = .string (sb (encs l)) ∧ Lo = [] := by
  subst hl
  refine fn_enter Tryd.func10 rfl rfl (by kernel_rfl) rfl ?_
  intro w0
  repeat (first | (refine isU ?_; refine gU rfl ?_) | (refine isG ?_; refine gG rfl rfl ?_) | (refine isx_box ?_; refine gB rfl rfl rfl rfl rfl rfl ?_; intro b_) | (refine isx_alloc ?_; refine gA rfl rfl rfl rfl rfl rfl rfl ?_; intro b_) | (refine isx_store ?_; refine gS 0 rfl rfl rfl rfl rfl rfl rfl rfl rfl rfl ?_) | (refine isx_store ?_; refine gS 1 rfl rfl rfl rfl rfl rfl rfl rfl rfl rfl ?_) | (refine isx_store ?_; refine gS 2 rfl rfl rfl rfl rfl rfl rfl rfl rfl rfl ?_) | (refine isx_store ?_; refine gS 3 rfl rfl rfl rfl rfl rfl rfl rfl rfl rfl ?_) | (refine isx_row ?_; refine lx_row (E := EV) rfl rfl rfl rfl rfl rfl rfl rfl rfl rfl rfl rfl rfl ?_; intro b_) | refine lx_nil ?_ | with_reducible refine tq_n ?_ | with_reducible refine tq_r ?_ | with_reducible refine tq_e ?_ | with_reducible refine bk_n ?_ | with_reducible refine bk_r ?_ | (with_reducible refine bk_e ?_ ?_; exact rfl) | (with_reducible refine bk_x ?_ ?_; exact rfl) | refine cx_seq ?_ | refine cx_region ?_ | refine cx_block ?_ | refine cx_ret ?_ | refine cx_skip ?_ | refine cx_exit ?_ | fail)
  generalize b_ = b0
  refine cx_loop (α := WSt l) (fun x => [(3, none, .pointer (some ⟨b0, 0, none⟩)), (6, none, .slice A l.length c), (7, none, .int .i64 l.length), (8, none, .int .i64 x.i)])
    (fun x => [Bd b0 x.u x.A (encs (l.take x.i)).length x.c, .own x.A (encs (l.take x.i)).length x.c 5 1 (bvs (encs (l.take x.i))), .ro A l.length 3 (kps l), gv m]) (fun x => l.length - x.i) ⟨0, false, none, 0, Nat.zero_le _, fun _ => ⟨rfl, rfl, rfl⟩⟩ ⟨rfl, rfl, rfl, rfl, trivial⟩ ?_ ?_
  · exact (Gives.nilown _ 5 1).trans (Gives.pick [1, 0, 2, 3] (by decide) rfl)
  rintro ⟨i, u, Ab, cb', hi, hz⟩
  dsimp only
  have hle := encs_le_take i hs hn
  repeat (first | (refine isU ?_; refine gU rfl ?_) | (refine isG ?_; refine gG rfl rfl ?_) | (refine isx_box ?_; refine gB rfl rfl rfl rfl rfl rfl ?_; intro b_) | (refine isx_alloc ?_; refine gA rfl rfl rfl rfl rfl rfl rfl ?_; intro b_) | (refine isx_store ?_; refine gS 0 rfl rfl rfl rfl rfl rfl rfl rfl rfl rfl ?_) | (refine isx_store ?_; refine gS 1 rfl rfl rfl rfl rfl rfl rfl rfl rfl rfl ?_) | (refine isx_store ?_; refine gS 2 rfl rfl rfl rfl rfl rfl rfl rfl rfl rfl ?_) | (refine isx_store ?_; refine gS 3 rfl rfl rfl rfl rfl rfl rfl rfl rfl rfl ?_) | (refine isx_row ?_; refine lx_row (E := EV) rfl rfl rfl rfl rfl rfl rfl rfl rfl rfl rfl rfl rfl ?_; intro b_) | refine lx_nil ?_ | with_reducible refine tq_n ?_ | with_reducible refine tq_r ?_ | with_reducible refine tq_e ?_ | with_reducible refine bk_n ?_ | with_reducible refine bk_r ?_ | (with_reducible refine bk_e ?_ ?_; exact rfl) | (with_reducible refine bk_x ?_ ?_; exact rfl) | refine cx_seq ?_ | refine cx_region ?_ | refine cx_block ?_ | refine cx_ret ?_ | refine cx_skip ?_ | refine cx_exit ?_ | fail)
  refine cx_cond rfl (fun h => ?_) (fun h => ?_)
  · have hlt : i < l.length := by simp at h; omega
    clear h
    obtain ⟨p, hx⟩ : ∃ p, l[i]? = some p := ⟨_, List.getElem?_eq_getElem hlt⟩
    have hx0 := kps_get hx
    have hst := encs_take hx
    have hle2 := encs_le_take (i + 1) hs hn
    have hps := len_le hs hx
    rw [hst, List.length_append] at hle2
    repeat (first | ((first | (apply lx_u; exact rfl) | (apply lx_g; exact rfl; exact rfl)); first | (apply isy_indexAddr; exact q_ix 2 rfl rfl rfl rfl rfl) | (apply isy_load; exact q_ln 2 rfl rfl rfl rfl hx0 rfl rfl) | fail) | (refine isU ?_; refine gU rfl ?_) | (refine isG ?_; refine gG rfl rfl ?_) | (refine isx_call ?_; refine k_gcall (part_fn m p (by omega)) ((fun w hm => in_ro (row_ro 4 rfl hm) (in_nil hm) rfl)) rfl rfl rfl rfl rfl rfl ?_) | (refine isx_box ?_; refine gB rfl rfl rfl rfl rfl rfl ?_; intro b_) | (refine isx_alloc ?_; refine gA rfl rfl rfl rfl rfl rfl rfl ?_; intro b_) | (refine isx_store ?_; refine gS 0 rfl rfl rfl rfl rfl rfl rfl rfl rfl rfl ?_) | (refine isx_store ?_; refine gS 1 rfl rfl rfl rfl rfl rfl rfl rfl rfl rfl ?_) | (refine isx_store ?_; refine gS 2 rfl rfl rfl rfl rfl rfl rfl rfl rfl rfl ?_) | (refine isx_store ?_; refine gS 3 rfl rfl rfl rfl rfl rfl rfl rfl rfl rfl ?_) | (refine isx_row ?_; refine lx_row (E := EV) rfl rfl rfl rfl rfl rfl rfl rfl rfl rfl rfl rfl rfl ?_; intro b_) | refine lx_nil ?_ | with_reducible refine tq_n ?_ | with_reducible refine tq_r ?_ | with_reducible refine tq_e ?_ | with_reducible refine bk_n ?_ | with_reducible refine bk_r ?_ | (with_reducible refine bk_e ?_ ?_; exact rfl) | (with_reducible refine bk_x ?_ ?_; exact rfl) | refine cx_seq ?_ | refine cx_region ?_ | refine cx_block ?_ | refine cx_ret ?_ | refine cx_skip ?_ | refine cx_exit ?_ | fail)
    repeat (first | (refine isU ?_; refine gU rfl ?_) | (refine isG ?_; refine gG rfl rfl ?_) | (refine isx_call ?_; refine k_call (writeS_fn b0 u Ab (encs (l.take i)).length cb' (encs (l.take i)) p.enc rfl (by omega)) [1, 2] [1, 2] [3, 4] rfl rfl rfl rfl rfl rfl rfl rfl ?_ (hin := allD_bd _ _ _ _ _ _ _) (hD := onD_bd _ _ _ _ _ _ _); rintro v_ Lo_ ⟨A_, c_, rfl, rfl⟩) | (refine isx_box ?_; refine gB rfl rfl rfl rfl rfl rfl ?_; intro b_) | (refine isx_alloc ?_; refine gA rfl rfl rfl rfl rfl rfl rfl ?_; intro b_) | (refine isx_store ?_; refine gS 0 rfl rfl rfl rfl rfl rfl rfl rfl rfl rfl ?_) | (refine isx_store ?_; refine gS 1 rfl rfl rfl rfl rfl rfl rfl rfl rfl rfl ?_) | (refine isx_store ?_; refine gS 2 rfl rfl rfl rfl rfl rfl rfl rfl rfl rfl ?_) | (refine isx_store ?_; refine gS 3 rfl rfl rfl rfl rfl rfl rfl rfl rfl rfl ?_) | (refine isx_row ?_; refine lx_row (E := EV) rfl rfl rfl rfl rfl rfl rfl rfl rfl rfl rfl rfl rfl ?_; intro b_) | refine lx_nil ?_ | with_reducible refine tq_n ?_ | with_reducible refine tq_r ?_ | with_reducible refine tq_e ?_ | with_reducible refine bk_n ?_ | with_reducible refine bk_r ?_ | (with_reducible refine bk_e ?_ ?_; exact rfl) | (with_reducible refine bk_x ?_ ?_; exact rfl) | refine cx_seq ?_ | refine cx_region ?_ | refine cx_block ?_ | refine cx_ret ?_ | refine cx_skip ?_ | refine cx_exit ?_ | fail)
    rw [← hst]
    exact ⟨⟨i + 1, true, A_, c_, hlt, fun h => absurd h (Nat.succ_ne_zero _)⟩, ⟨rfl, rfl, rfl, slot_int (by dsimp only; omega), trivial⟩, Gives.refl _, by dsimp only; omega⟩
  obtain rfl : i = l.length := by simp at h; omega
  rw [List.take_length] at hle ⊢
  by_cases h0 : encs l = []
  · obtain ⟨rfl, rfl, rfl⟩ := hz (by rw [encs_nil h0]; rfl)
    rw [h0]
    repeat (first | (refine isU ?_; refine gU rfl ?_) | (refine isG ?_; refine gG rfl rfl ?_) | (refine isx_call ?_; refine k_call (string_nil b0 false) [0] [0] [2, 3] rfl rfl rfl rfl rfl rfl rfl rfl ?_; rintro v_ Lo_ ⟨rfl, rfl⟩) | (refine isx_box ?_; refine gB rfl rfl rfl rfl rfl rfl ?_; intro b_) | (refine isx_alloc ?_; refine gA rfl rfl rfl rfl rfl rfl rfl ?_; intro b_) | (refine isx_store ?_; refine gS 0 rfl rfl rfl rfl rfl rfl rfl rfl rfl rfl ?_) | (refine isx_store ?_; refine gS 1 rfl rfl rfl rfl rfl rfl rfl rfl rfl rfl ?_) | (refine isx_store ?_; refine gS 2 rfl rfl rfl rfl rfl rfl rfl rfl rfl rfl ?_) | (refine isx_store ?_; refine gS 3 rfl rfl rfl rfl rfl rfl rfl rfl rfl rfl ?_) | (refine isx_row ?_; refine lx_row (E := EV) rfl rfl rfl rfl rfl rfl rfl rfl rfl rfl rfl rfl rfl ?_; intro b_) | refine lx_nil ?_ | with_reducible refine tq_n ?_ | with_reducible refine tq_r ?_ | with_reducible refine tq_e ?_ | with_reducible refine bk_n ?_ | with_reducible refine bk_r ?_ | (with_reducible refine bk_e ?_ ?_; exact rfl) | (with_reducible refine bk_x ?_ ?_; exact rfl) | refine cx_seq ?_ | refine cx_region ?_ | refine cx_block ?_ | refine cx_ret ?_ | refine cx_skip ?_ | refine cx_exit ?_ | fail)
    exact bq_ret (ret_tmp rfl rfl) [] (Gives.nil _) rfl ⟨rfl, rfl⟩
  · repeat (first | (refine isU ?_; refine gU rfl ?_) | (refine isG ?_; refine gG rfl rfl ?_) | (refine isx_call ?_; refine k_call (string_fn b0 u Ab (encs l).length cb' (encs l) rfl h0) [0, 1] [0, 1] [2, 3] rfl rfl rfl rfl rfl rfl rfl rfl ?_ (hin := allD_bd _ _ _ _ _ _ _) (hD := onD_bd _ _ _ _ _ _ _); rintro v_ Lo_ ⟨rfl, rfl⟩) | (refine isx_box ?_; refine gB rfl rfl rfl rfl rfl rfl ?_; intro b_) | (refine isx_alloc ?_; refine gA rfl rfl rfl rfl rfl rfl rfl ?_; intro b_) | (refine isx_store ?_; refine gS 0 rfl rfl rfl rfl rfl rfl rfl rfl rfl rfl ?_) | (refine isx_store ?_; refine gS 1 rfl rfl rfl rfl rfl rfl rfl rfl rfl rfl ?_) | (refine isx_store ?_; refine gS 2 rfl rfl rfl rfl rfl rfl rfl rfl rfl rfl ?_) | (refine isx_store ?_; refine gS 3 rfl rfl rfl rfl rfl rfl rfl rfl rfl rfl ?_) | (refine isx_row ?_; refine lx_row (E := EV) rfl rfl rfl rfl rfl rfl rfl rfl rfl rfl rfl rfl rfl ?_; intro b_) | refine lx_nil ?_ | with_reducible refine tq_n ?_ | with_reducible refine tq_r ?_ | with_reducible refine tq_e ?_ | with_reducible refine bk_n ?_ | with_reducible refine bk_r ?_ | (with_reducible refine bk_e ?_ ?_; exact rfl) | (with_reducible refine bk_x ?_ ?_; exact rfl) | refine cx_seq ?_ | refine cx_region ?_ | refine cx_block ?_ | refine cx_ret ?_ | refine cx_skip ?_ | refine cx_exit ?_ | fail)
    exact bq_ret (ret_tmp rfl rfl) [] (Gives.nil _) rfl ⟨rfl, rfl⟩
theorem rput_fn (A : Option Addr) (n c : Nat) (l : List KP) (hl : l.length = n) (hn : n ≤ 1000) (hs : ∀ p ∈ l, p.s.length ≤ 1000000) (hle : ∀ i, (encs (l.take i)).length ≤ 1000000000) : Fn Tryd.prog 11 [.slice A n c] [.ro A n 3 (kps l)] [] fun v Lo => v = .string (sb (encs l)) ∧ Lo = [] := by
  subst hl
  refine fn_enter Tryd.func11 rfl rfl (by kernel_rfl) rfl ?_
  intro w0
  repeat (first | (refine isU ?_; refine gU rfl ?_) | (refine isG ?_; refine gG rfl rfl ?_) | (refine isx_box ?_; refine gB rfl rfl rfl rfl rfl rfl ?_; intro b_) | (refine isx_alloc ?_; refine gA rfl rfl rfl rfl rfl rfl rfl ?_; intro b_) | (refine isx_store ?_; refine gS 0 rfl rfl rfl rfl rfl rfl rfl rfl rfl rfl ?_) | (refine isx_store ?_; refine gS 1 rfl rfl rfl rfl rfl rfl rfl rfl rfl rfl ?_) | (refine isx_store ?_; refine gS 2 rfl rfl rfl rfl rfl rfl rfl rfl rfl rfl ?_) | (refine isx_store ?_; refine gS 3 rfl rfl rfl rfl rfl rfl rfl rfl rfl rfl ?_) | (refine isx_row ?_; refine lx_row (E := EV) rfl rfl rfl rfl rfl rfl rfl rfl rfl rfl rfl rfl rfl ?_; intro b_) | refine lx_nil ?_ | with_reducible refine tq_n ?_ | with_reducible refine tq_r ?_ | with_reducible refine tq_e ?_ | with_reducible refine bk_n ?_ | with_reducible refine bk_r ?_ | (with_reducible refine bk_e ?_ ?_; exact rfl) | (with_reducible refine bk_x ?_ ?_; exact rfl) | refine cx_seq ?_ | refine cx_region ?_ | refine cx_block ?_ | refine cx_ret ?_ | refine cx_skip ?_ | refine cx_exit ?_ | fail)
  refine cx_loop (α := { i : Nat // i ≤ l.length }) (fun x => [(0, none, .slice A l.length c), (3, none, .string (sb (encs (l.take x.1)))), (4, none, .int .i64 x.1)]) (fun _ => [.ro A l.length 3 (kps l)]) (fun x => l.length - x.1) ⟨0, Nat.zero_le _⟩ ⟨rfl, rfl, rfl, trivial⟩ (Gives.refl _) ?_
  rintro ⟨i, hi⟩
  dsimp only
  repeat (first | (refine isU ?_; refine gU rfl ?_) | (refine isG ?_; refine gG rfl rfl ?_) | (refine isx_box ?_; refine gB rfl rfl rfl rfl rfl rfl ?_; intro b_) | (refine isx_alloc ?_; refine gA rfl rfl rfl rfl rfl rfl rfl ?_; intro b_) | (refine isx_store ?_; refine gS 0 rfl rfl rfl rfl rfl rfl rfl rfl rfl rfl ?_) | (refine isx_store ?_; refine gS 1 rfl rfl rfl rfl rfl rfl rfl rfl rfl rfl ?_) | (refine isx_store ?_; refine gS 2 rfl rfl rfl rfl rfl rfl rfl rfl rfl rfl ?_) | (refine isx_store ?_; refine gS 3 rfl rfl rfl rfl rfl rfl rfl rfl rfl rfl ?_) | (refine isx_row ?_; refine lx_row (E := EV) rfl rfl rfl rfl rfl rfl rfl rfl rfl rfl rfl rfl rfl ?_; intro b_) | refine lx_nil ?_ | with_reducible refine tq_n ?_ | with_reducible refine tq_r ?_ | with_reducible refine tq_e ?_ | with_reducible refine bk_n ?_ | with_reducible refine bk_r ?_ | (with_reducible refine bk_e ?_ ?_; exact rfl) | (with_reducible refine bk_x ?_ ?_; exact rfl) | refine cx_seq ?_ | refine cx_region ?_ | refine cx_block ?_ | refine cx_ret ?_ | refine cx_skip ?_ | refine cx_exit ?_ | fail)
  refine cx_cond rfl (fun h => ?_) (fun h => ?_)
  · have hlt : i < l.length := by simp at h; omega
    clear h
    obtain ⟨p, hx⟩ : ∃ p, l[i]? = some p := ⟨_, List.getElem?_eq_getElem hlt⟩
    have hx0 := kps_get hx
    have hst := encs_take hx
    have hle2 := hle (i + 1)
    rw [hst, List.length_append] at hle2
    repeat (first | ((first | (apply lx_u; exact rfl) | (apply lx_g; exact rfl; exact rfl)); first | (apply isy_indexAddr; exact q_ix 0 rfl rfl rfl rfl rfl) | (apply isy_load; exact q_ln 0 rfl rfl rfl rfl hx0 rfl rfl) | (apply isy_bin_add; exact q_cat rfl rfl) | fail) | (refine isU ?_; refine gU rfl ?_) | (refine isG ?_; refine gG rfl rfl ?_) | (refine isx_call ?_; refine k_gcall (rpart_fn p (hs p (List.mem_of_getElem? hx))) (fun _ hm => in_nil hm) rfl rfl rfl rfl rfl rfl ?_) | (refine isx_box ?_; refine gB rfl rfl rfl rfl rfl rfl ?_; intro b_) | (refine isx_alloc ?_; refine gA rfl rfl rfl rfl rfl rfl rfl ?_; intro b_) | (refine isx_store ?_; refine gS 0 rfl rfl rfl rfl rfl rfl rfl rfl rfl rfl ?_) | (refine isx_store ?_; refine gS 1 rfl rfl rfl rfl rfl rfl rfl rfl rfl rfl ?_) | (refine isx_store ?_; refine gS 2 rfl rfl rfl rfl rfl rfl rfl rfl rfl rfl ?_) | (refine isx_store ?_; refine gS 3 rfl rfl rfl rfl rfl rfl rfl rfl rfl rfl ?_) | (refine isx_row ?_; refine lx_row (E := EV) rfl rfl rfl rfl rfl rfl rfl rfl rfl rfl rfl rfl rfl ?_; intro b_) | refine lx_nil ?_ | with_reducible refine tq_n ?_ | with_reducible refine tq_r ?_ | with_reducible refine tq_e ?_ | with_reducible refine bk_n ?_ | with_reducible refine bk_r ?_ | (with_reducible refine bk_e ?_ ?_; exact rfl) | (with_reducible refine bk_x ?_ ?_; exact rfl) | refine cx_seq ?_ | refine cx_region ?_ | refine cx_block ?_ | refine cx_ret ?_ | refine cx_skip ?_ | refine cx_exit ?_ | fail)
    rw [← hst]
    exact ⟨⟨i + 1, hlt⟩, ⟨rfl, rfl, slot_int (by dsimp only; omega), trivial⟩, Gives.refl _, by dsimp only; omega⟩
  obtain rfl : i = l.length := by simp at h; omega
  rw [List.take_length]
  repeat (first | (refine isU ?_; refine gU rfl ?_) | (refine isG ?_; refine gG rfl rfl ?_) | (refine isx_box ?_; refine gB rfl rfl rfl rfl rfl rfl ?_; intro b_) | (refine isx_alloc ?_; refine gA rfl rfl rfl rfl rfl rfl rfl ?_; intro b_) | (refine isx_store ?_; refine gS 0 rfl rfl rfl rfl rfl rfl rfl rfl rfl rfl ?_) | (refine isx_store ?_; refine gS 1 rfl rfl rfl rfl rfl rfl rfl rfl rfl rfl ?_) | (refine isx_store ?_; refine gS 2 rfl rfl rfl rfl rfl rfl rfl rfl rfl rfl ?_) | (refine isx_store ?_; refine gS 3 rfl rfl rfl rfl rfl rfl rfl rfl rfl rfl ?_) | (refine isx_row ?_; refine lx_row (E := EV) rfl rfl rfl rfl rfl rfl rfl rfl rfl rfl rfl rfl rfl ?_; intro b_) | refine lx_nil ?_ | with_reducible refine tq_n ?_ | with_reducible refine tq_r ?_ | with_reducible refine tq_e ?_ | with_reducible refine bk_n ?_ | with_reducible refine bk_r ?_ | (with_reducible refine bk_e ?_ ?_; exact rfl) | (with_reducible refine bk_x ?_ ?_; exact rfl) | refine cx_seq ?_ | refine cx_region ?_ | refine cx_block ?_ | refine cx_ret ?_ | refine cx_skip ?_ | refine cx_exit ?_ | fail)
  exact bq_ret (ret_tmp rfl rfl) [] (Gives.nil _) rfl ⟨rfl, rfl⟩
end Go.Proofs.YthmdiopbiiimeaaDoor.ky
