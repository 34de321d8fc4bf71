/- packed numbers and texts: the program's reader, on. -/
import Derived.Test.YthmdiopbiiimeaaGo
import Derived.Test.YthmdiopbiiimeaaPkb
namespace Go.Proofs.Ythmdiopbiiimeaa.pk
open Go.RowKit Go.Proofs.Ythmdiopbiiimeaa.kit
theorem Rs.Ok.gotS {r : Rs} (h : r.Ok) (k : Nat) : ∃ A' c', r.gotV k = .slice A' (r.got k).length c' ∧ ∀ (L : List Ck) (i : Nat), L[i]? = some r.ro → Gives L (.ro A' (r.got k).length 1 (bvs (r.got k)) :: L) := by
  by_cases hm : r.may k = true
  · have hm' := hm
    simp only [Rs.may, Bool.and_eq_true, decide_eq_true_eq] at hm'
    have hl : (r.got k).length = k := by rw [Rs.got, if_pos hm, List.length_take, h.len]; omega
    refine ⟨r.A, r.c, by rw [Rs.gotV, if_pos hm, hl], fun L i hi => Gives.add i hi rfl rfl fun w hr => ⟨by rw [hl]; exact Rs.got_row k hr hm, fun b hb => ⟨by have := hb.1; rw [hl] at this; omega, hb.2⟩⟩⟩
  · have hg : r.got k = [] := by rw [Rs.got, if_neg hm]
    refine ⟨none, 0, by rw [Rs.gotV, if_neg hm, hg]; rfl, fun L i hi => ?_⟩
    rw [hg]
    exact Gives.add i hi rfl rfl fun w hr => ⟨Row.nil, fun b hb => absurd rfl hb.1⟩
/-- a reader's text -/
def Rs.textN (r : Rs) : Nat := ((de 0#64 (r.got 2)).setWidth 16).toNat
def Rs.text (r : Rs) : List B8 := (r.adv 2).got r.textN
def Rs.textTo (r : Rs) : Rs := if (r.adv 2).may r.textN then (r.adv 2).adv r.textN else { r with e := ((r.adv 2).adv r.textN).e }
attribute [local irreducible] LX CX Yl Gives RetIs Fn
attribute [local irreducible] be de

























































































set_option maxHeartbeats 1000000 in
theorem take32_any (b : Nat) (r : Rs) (hr : r.Ok) (k : Nat) (hk : k ≤ 8) : Fn Try.prog 44 [.pointer (some ⟨b, 0, none⟩), .int .i64 k] [r.blk b, r.ro] [b]
    fun v Lo => v = .int .u32 (((de 0#64 (r.got k)).setWidth 32)).toNat ∧ Lo = [(r.adv k).blk b] := by
  obtain ⟨A', c', hgv, hgs⟩ := hr.gotS k
  have hb := bytes_fn b r hr k (by omega)
  rw [hgv] at hb
  have hlen : (r.got k).length ≤ 9223372036854775807 := by
    have h1 := hr.len
    have h2 := hr.cap
    have h3 := hr.max
    unfold Rs.got
    split
    · rw [List.length_take]; omega
    · simp
  refine fn_enter Try.func44 rfl rfl (by kernel_rfl) rfl ?_
  intro w0
  repeat (first | (refine isU ?_; refine gU rfl ?_) | (refine isG ?_; refine gG rfl rfl ?_) | (refine isx_call ?_; refine k_call (hb) [0] [0] [1] rfl rfl rfl rfl rfl rfl rfl rfl ?_; rintro v_ Lo_ ⟨rfl, rfl⟩) | (refine isx_box ?_; refine gB rfl rfl rfl rfl rfl rfl ?_; intro b_) | (refine isx_alloc ?_; refine gA rfl rfl rfl rfl rfl rfl rfl ?_; intro b_) | (refine isx_store ?_; refine gS 0 rfl rfl rfl rfl rfl rfl rfl rfl rfl rfl ?_) | (refine isx_store ?_; refine gS 1 rfl rfl rfl rfl rfl rfl rfl rfl rfl rfl ?_) | (refine isx_store ?_; refine gS 2 rfl rfl rfl rfl rfl rfl rfl rfl rfl rfl ?_) | (refine isx_store ?_; refine gS 3 rfl rfl rfl rfl rfl rfl rfl rfl rfl rfl ?_) | (refine isx_row ?_; refine lx_row (E := EV) rfl rfl rfl rfl rfl rfl rfl rfl rfl rfl rfl rfl rfl ?_; intro b_) | refine lx_nil ?_ | with_reducible refine tq_n ?_ | with_reducible refine tq_r ?_ | with_reducible refine tq_e ?_ | with_reducible refine bk_n ?_ | with_reducible refine bk_r ?_ | (with_reducible refine bk_e ?_ ?_; exact rfl) | (with_reducible refine bk_x ?_ ?_; exact rfl) | refine cx_seq ?_ | refine cx_region ?_ | refine cx_block ?_ | refine cx_ret ?_ | refine cx_skip ?_ | refine cx_exit ?_ | fail)
  generalize r.got k = g at hlen hgs ⊢
  refine cx_loop (α := { i : Nat // i ≤ g.length }) (fun y => [(7, none, .int .u64 (de 0#64 (g.take y.1)).toNat), (16, none, .slice A' g.length c'), (17, none, .int .i64 g.length), (18, none, .int .i64 y.1)])
    (fun _ => [.ro A' g.length 1 (bvs g), (r.adv k).blk b, r.ro]) (fun y => g.length - y.1) ⟨0, Nat.zero_le _⟩ ⟨by unfold de; rfl, rfl, rfl, rfl, trivial⟩ (hgs _ 1 rfl) ?_
  rintro ⟨i, hi⟩
  dsimp only
  repeat (first | (refine isU ?_; refine gU rfl ?_) | (refine isG ?_; refine gG rfl rfl ?_) | (refine isx_box ?_; refine gB rfl rfl rfl rfl rfl rfl ?_; intro b_) | (refine isx_alloc ?_; refine gA rfl rfl rfl rfl rfl rfl rfl ?_; intro b_) | (refine isx_store ?_; refine gS 0 rfl rfl rfl rfl rfl rfl rfl rfl rfl rfl ?_) | (refine isx_store ?_; refine gS 1 rfl rfl rfl rfl rfl rfl rfl rfl rfl rfl ?_) | (refine isx_store ?_; refine gS 2 rfl rfl rfl rfl rfl rfl rfl rfl rfl rfl ?_) | (refine isx_store ?_; refine gS 3 rfl rfl rfl rfl rfl rfl rfl rfl rfl rfl ?_) | (refine isx_row ?_; refine lx_row (E := EV) rfl rfl rfl rfl rfl rfl rfl rfl rfl rfl rfl rfl rfl ?_; intro b_) | refine lx_nil ?_ | with_reducible refine tq_n ?_ | with_reducible refine tq_r ?_ | with_reducible refine tq_e ?_ | with_reducible refine bk_n ?_ | with_reducible refine bk_r ?_ | (with_reducible refine bk_e ?_ ?_; exact rfl) | (with_reducible refine bk_x ?_ ?_; exact rfl) | refine cx_seq ?_ | refine cx_region ?_ | refine cx_block ?_ | refine cx_ret ?_ | refine cx_skip ?_ | refine cx_exit ?_ | fail)
  refine cx_cond rfl (fun h => ?_) (fun h => ?_)
  · have hlt : i < g.length := by simp at h; omega
    obtain ⟨x, hx⟩ : ∃ x, g[i]? = some x := ⟨_, List.getElem?_eq_getElem hlt⟩
    have hx0 : (bvs g)[mulI i 1]? = some (bv x) := bvs_get hx
    have hstep := de_take 0#64 hx
    repeat (first | ((first | (apply lx_u; exact rfl) | (apply lx_g; exact rfl; exact rfl)); first | (apply isy_indexAddr; exact q_ix 0 rfl rfl rfl rfl rfl) | (apply isy_load; exact q_li 0 rfl rfl rfl rfl hx0) | (apply isy_bin_shl; exact q_bshl uk64 _ 8 rfl rfl rfl rfl) | (apply isy_convert; exact q_cv uk64 x rfl rfl rfl rfl) | (apply isy_bin_or; exact q_bor uk64 _ _ rfl rfl rfl rfl) | fail) | (refine isU ?_; refine gU rfl ?_) | (refine isG ?_; refine gG rfl rfl ?_) | (refine isx_box ?_; refine gB rfl rfl rfl rfl rfl rfl ?_; intro b_) | (refine isx_alloc ?_; refine gA rfl rfl rfl rfl rfl rfl rfl ?_; intro b_) | (refine isx_store ?_; refine gS 0 rfl rfl rfl rfl rfl rfl rfl rfl rfl rfl ?_) | (refine isx_store ?_; refine gS 1 rfl rfl rfl rfl rfl rfl rfl rfl rfl rfl ?_) | (refine isx_store ?_; refine gS 2 rfl rfl rfl rfl rfl rfl rfl rfl rfl rfl ?_) | (refine isx_store ?_; refine gS 3 rfl rfl rfl rfl rfl rfl rfl rfl rfl rfl ?_) | (refine isx_row ?_; refine lx_row (E := EV) rfl rfl rfl rfl rfl rfl rfl rfl rfl rfl rfl rfl rfl ?_; intro b_) | refine lx_nil ?_ | with_reducible refine tq_n ?_ | with_reducible refine tq_r ?_ | with_reducible refine tq_e ?_ | with_reducible refine bk_n ?_ | with_reducible refine bk_r ?_ | (with_reducible refine bk_e ?_ ?_; exact rfl) | (with_reducible refine bk_x ?_ ?_; exact rfl) | refine cx_seq ?_ | refine cx_region ?_ | refine cx_block ?_ | refine cx_ret ?_ | refine cx_skip ?_ | refine cx_exit ?_ | fail)
    exact ⟨⟨i + 1, by omega⟩, ⟨slot_int (by dsimp only; rw [hstep]), rfl, rfl, slot_int (by dsimp only; omega), trivial⟩, Gives.refl _, by dsimp only; omega⟩
  · obtain rfl : i = g.length := by simp at h; omega
    rw [List.take_of_length_le (Nat.le_refl _)]
    repeat (first | ((first | (apply lx_u; exact rfl) | (apply lx_g; exact rfl; exact rfl)); first | (apply isy_convert; exact q_cv uk32 _ rfl rfl rfl rfl) | fail) | (refine isU ?_; refine gU rfl ?_) | (refine isG ?_; refine gG rfl rfl ?_) | (refine isx_box ?_; refine gB rfl rfl rfl rfl rfl rfl ?_; intro b_) | (refine isx_alloc ?_; refine gA rfl rfl rfl rfl rfl rfl rfl ?_; intro b_) | (refine isx_store ?_; refine gS 0 rfl rfl rfl rfl rfl rfl rfl rfl rfl rfl ?_) | (refine isx_store ?_; refine gS 1 rfl rfl rfl rfl rfl rfl rfl rfl rfl rfl ?_) | (refine isx_store ?_; refine gS 2 rfl rfl rfl rfl rfl rfl rfl rfl rfl rfl ?_) | (refine isx_store ?_; refine gS 3 rfl rfl rfl rfl rfl rfl rfl rfl rfl rfl ?_) | (refine isx_row ?_; refine lx_row (E := EV) rfl rfl rfl rfl rfl rfl rfl rfl rfl rfl rfl rfl rfl ?_; intro b_) | refine lx_nil ?_ | with_reducible refine tq_n ?_ | with_reducible refine tq_r ?_ | with_reducible refine tq_e ?_ | with_reducible refine bk_n ?_ | with_reducible refine bk_r ?_ | (with_reducible refine bk_e ?_ ?_; exact rfl) | (with_reducible refine bk_x ?_ ?_; exact rfl) | refine cx_seq ?_ | refine cx_region ?_ | refine cx_block ?_ | refine cx_ret ?_ | refine cx_skip ?_ | refine cx_exit ?_ | fail)
    exact bq_ret (ret_tmp rfl rfl) [_] (Gives.pick [1] (by decide) rfl) rfl ⟨rfl, rfl⟩
theorem take32_nil (k : Nat) : Fn Try.prog 44 [.pointer none, .int .i64 k] [] [] fun v Lo => v = .int .u32 0 ∧ Lo = [] := by
  refine fn_enter Try.func44 rfl rfl (by kernel_rfl) rfl ?_
  intro w0
  repeat (first | (refine isU ?_; refine gU rfl ?_) | (refine isG ?_; refine gG rfl rfl ?_) | (refine isx_call ?_; refine k_gcall (bytes_nil k) (fun _ hm => in_nil hm) rfl rfl rfl rfl rfl rfl ?_) | (refine isx_box ?_; refine gB rfl rfl rfl rfl rfl rfl ?_; intro b_) | (refine isx_alloc ?_; refine gA rfl rfl rfl rfl rfl rfl rfl ?_; intro b_) | (refine isx_store ?_; refine gS 0 rfl rfl rfl rfl rfl rfl rfl rfl rfl rfl ?_) | (refine isx_store ?_; refine gS 1 rfl rfl rfl rfl rfl rfl rfl rfl rfl rfl ?_) | (refine isx_store ?_; refine gS 2 rfl rfl rfl rfl rfl rfl rfl rfl rfl rfl ?_) | (refine isx_store ?_; refine gS 3 rfl rfl rfl rfl rfl rfl rfl rfl rfl rfl ?_) | (refine isx_row ?_; refine lx_row (E := EV) rfl rfl rfl rfl rfl rfl rfl rfl rfl rfl rfl rfl rfl ?_; intro b_) | refine lx_nil ?_ | with_reducible refine tq_n ?_ | with_reducible refine tq_r ?_ | with_reducible refine tq_e ?_ | with_reducible refine bk_n ?_ | with_reducible refine bk_r ?_ | (with_reducible refine bk_e ?_ ?_; exact rfl) | (with_reducible refine bk_x ?_ ?_; exact rfl) | refine cx_seq ?_ | refine cx_region ?_ | refine cx_block ?_ | refine cx_ret ?_ | refine cx_skip ?_ | refine cx_exit ?_ | fail)
  refine cx_loop (α := Unit) (fun _ => [(7, none, .int .u64 0), (16, none, .slice none 0 0), (17, none, .int .i64 0), (18, none, .int .i64 0)]) (fun _ => []) (fun _ => 0) () ⟨rfl, rfl, rfl, rfl, trivial⟩ (Gives.nil _) ?_
  rintro ⟨⟩
  repeat (first | (refine isU ?_; refine gU rfl ?_) | (refine isG ?_; refine gG rfl rfl ?_) | (refine isx_box ?_; refine gB rfl rfl rfl rfl rfl rfl ?_; intro b_) | (refine isx_alloc ?_; refine gA rfl rfl rfl rfl rfl rfl rfl ?_; intro b_) | (refine isx_store ?_; refine gS 0 rfl rfl rfl rfl rfl rfl rfl rfl rfl rfl ?_) | (refine isx_store ?_; refine gS 1 rfl rfl rfl rfl rfl rfl rfl rfl rfl rfl ?_) | (refine isx_store ?_; refine gS 2 rfl rfl rfl rfl rfl rfl rfl rfl rfl rfl ?_) | (refine isx_store ?_; refine gS 3 rfl rfl rfl rfl rfl rfl rfl rfl rfl rfl ?_) | (refine isx_row ?_; refine lx_row (E := EV) rfl rfl rfl rfl rfl rfl rfl rfl rfl rfl rfl rfl rfl ?_; intro b_) | refine lx_nil ?_ | with_reducible refine tq_n ?_ | with_reducible refine tq_r ?_ | with_reducible refine tq_e ?_ | with_reducible refine bk_n ?_ | with_reducible refine bk_r ?_ | (with_reducible refine bk_e ?_ ?_; exact rfl) | (with_reducible refine bk_x ?_ ?_; exact rfl) | refine cx_seq ?_ | refine cx_region ?_ | refine cx_block ?_ | refine cx_ret ?_ | refine cx_skip ?_ | refine cx_exit ?_ | fail)
  refine cx_cond rfl (fun h => by cases h) (fun _ => ?_)
  repeat (first | (refine isU ?_; refine gU rfl ?_) | (refine isG ?_; refine gG rfl rfl ?_) | (refine isx_box ?_; refine gB rfl rfl rfl rfl rfl rfl ?_; intro b_) | (refine isx_alloc ?_; refine gA rfl rfl rfl rfl rfl rfl rfl ?_; intro b_) | (refine isx_store ?_; refine gS 0 rfl rfl rfl rfl rfl rfl rfl rfl rfl rfl ?_) | (refine isx_store ?_; refine gS 1 rfl rfl rfl rfl rfl rfl rfl rfl rfl rfl ?_) | (refine isx_store ?_; refine gS 2 rfl rfl rfl rfl rfl rfl rfl rfl rfl rfl ?_) | (refine isx_store ?_; refine gS 3 rfl rfl rfl rfl rfl rfl rfl rfl rfl rfl ?_) | (refine isx_row ?_; refine lx_row (E := EV) rfl rfl rfl rfl rfl rfl rfl rfl rfl rfl rfl rfl rfl ?_; intro b_) | refine lx_nil ?_ | with_reducible refine tq_n ?_ | with_reducible refine tq_r ?_ | with_reducible refine tq_e ?_ | with_reducible refine bk_n ?_ | with_reducible refine bk_r ?_ | (with_reducible refine bk_e ?_ ?_; exact rfl) | (with_reducible refine bk_x ?_ ?_; exact rfl) | refine cx_seq ?_ | refine cx_region ?_ | refine cx_block ?_ | refine cx_ret ?_ | refine cx_skip ?_ | refine cx_exit ?_ | fail)
  exact bq_ret (ret_tmp rfl rfl) [] (Gives.nil _) rfl ⟨rfl, rfl⟩




































































theorem u32_fn (b : Nat) (r : Rs) (hr : r.Ok) : Fn Try.prog 36 [.pointer (some ⟨b, 0, none⟩)] [r.blk b, r.ro] [b]
    fun v Lo => v = .int .u32 (((de 0#64 (r.got 4)).setWidth 32)).toNat ∧ Lo = [(r.adv 4).blk b] := by
  refine fn_enter Try.func36 rfl rfl (by kernel_rfl) rfl ?_
  intro w0
  repeat (first | (refine isU ?_; refine gU rfl ?_) | (refine isG ?_; refine gG rfl rfl ?_) | (refine isx_call ?_; refine k_call (take32_any b r hr 4 (by omega)) [0, 1] [0] [1] rfl rfl rfl rfl rfl rfl rfl rfl ?_; rintro v_ Lo_ ⟨rfl, rfl⟩) | (refine isx_box ?_; refine gB rfl rfl rfl rfl rfl rfl ?_; intro b_) | (refine isx_alloc ?_; refine gA rfl rfl rfl rfl rfl rfl rfl ?_; intro b_) | (refine isx_store ?_; refine gS 0 rfl rfl rfl rfl rfl rfl rfl rfl rfl rfl ?_) | (refine isx_store ?_; refine gS 1 rfl rfl rfl rfl rfl rfl rfl rfl rfl rfl ?_) | (refine isx_store ?_; refine gS 2 rfl rfl rfl rfl rfl rfl rfl rfl rfl rfl ?_) | (refine isx_store ?_; refine gS 3 rfl rfl rfl rfl rfl rfl rfl rfl rfl rfl ?_) | (refine isx_row ?_; refine lx_row (E := EV) rfl rfl rfl rfl rfl rfl rfl rfl rfl rfl rfl rfl rfl ?_; intro b_) | refine lx_nil ?_ | with_reducible refine tq_n ?_ | with_reducible refine tq_r ?_ | with_reducible refine tq_e ?_ | with_reducible refine bk_n ?_ | with_reducible refine bk_r ?_ | (with_reducible refine bk_e ?_ ?_; exact rfl) | (with_reducible refine bk_x ?_ ?_; exact rfl) | refine cx_seq ?_ | refine cx_region ?_ | refine cx_block ?_ | refine cx_ret ?_ | refine cx_skip ?_ | refine cx_exit ?_ | fail)
  exact bq_ret (ret_tmp rfl rfl) [_] (Gives.pick [0] (by decide) rfl) rfl ⟨rfl, rfl⟩
theorem u32_nil : Fn Try.prog 36 [.pointer none] [] [] fun v Lo => v = .int .u32 0 ∧ Lo = [] := by
  refine fn_enter Try.func36 rfl rfl (by kernel_rfl) rfl ?_
  intro w0
  repeat (first | (refine isU ?_; refine gU rfl ?_) | (refine isG ?_; refine gG rfl rfl ?_) | (refine isx_call ?_; refine k_gcall (take32_nil 4) (fun _ hm => in_nil hm) rfl rfl rfl rfl rfl rfl ?_) | (refine isx_box ?_; refine gB rfl rfl rfl rfl rfl rfl ?_; intro b_) | (refine isx_alloc ?_; refine gA rfl rfl rfl rfl rfl rfl rfl ?_; intro b_) | (refine isx_store ?_; refine gS 0 rfl rfl rfl rfl rfl rfl rfl rfl rfl rfl ?_) | (refine isx_store ?_; refine gS 1 rfl rfl rfl rfl rfl rfl rfl rfl rfl rfl ?_) | (refine isx_store ?_; refine gS 2 rfl rfl rfl rfl rfl rfl rfl rfl rfl rfl ?_) | (refine isx_store ?_; refine gS 3 rfl rfl rfl rfl rfl rfl rfl rfl rfl rfl ?_) | (refine isx_row ?_; refine lx_row (E := EV) rfl rfl rfl rfl rfl rfl rfl rfl rfl rfl rfl rfl rfl ?_; intro b_) | refine lx_nil ?_ | with_reducible refine tq_n ?_ | with_reducible refine tq_r ?_ | with_reducible refine tq_e ?_ | with_reducible refine bk_n ?_ | with_reducible refine bk_r ?_ | (with_reducible refine bk_e ?_ ?_; exact rfl) | (with_reducible refine bk_x ?_ ?_; exact rfl) | refine cx_seq ?_ | refine cx_region ?_ | refine cx_block ?_ | refine cx_ret ?_ | refine cx_skip ?_ | refine cx_exit ?_ | fail)
  exact bq_ret (ret_tmp rfl rfl) [] (Gives.nil _) rfl ⟨rfl, rfl⟩




















































































def Rs.done (r : Rs) : Int := if r.e ≠ 0 then r.e else if r.n = 0 then 0 else 21





























theorem clone_fn (A : Option Addr) (n c : Nat) (l : List B8) (hl : l.length = n) (hn : n ≤ 140737488355328) (hc : n ≤ c) : Fn Try.prog 37 [.slice A n c] [.ro A n 1 (bvs l)] [] fun v Lo => ∃ A' c', v = .slice A' n c' ∧ Lo = [.own A' n c' 5 1 (bvs l)] := by
  refine fn_enter Try.func37 rfl rfl (by kernel_rfl) rfl ?_
  intro w0
  refine cx_fact (φ := A = none → n = 0) (fun w hm hA => ?_) fun hA => ?_
  · rcases Nat.eq_zero_or_pos n with h0 | h0
    · exact h0
    · obtain ⟨b, off, h, _⟩ := (row_ro 0 rfl hm).2 h0
      rw [hA] at h
      cases h
  repeat (first | (refine isU ?_; refine gU rfl ?_) | (refine isG ?_; refine gG rfl rfl ?_) | (refine isx_box ?_; refine gB rfl rfl rfl rfl rfl rfl ?_; intro b_) | (refine isx_alloc ?_; refine gA rfl rfl rfl rfl rfl rfl rfl ?_; intro b_) | (refine isx_store ?_; refine gS 0 rfl rfl rfl rfl rfl rfl rfl rfl rfl rfl ?_) | (refine isx_store ?_; refine gS 1 rfl rfl rfl rfl rfl rfl rfl rfl rfl rfl ?_) | (refine isx_store ?_; refine gS 2 rfl rfl rfl rfl rfl rfl rfl rfl rfl rfl ?_) | (refine isx_store ?_; refine gS 3 rfl rfl rfl rfl rfl rfl rfl rfl rfl rfl ?_) | (refine isx_row ?_; refine lx_row (E := EV) rfl rfl rfl rfl rfl rfl rfl rfl rfl rfl rfl rfl rfl ?_; intro b_) | refine lx_nil ?_ | with_reducible refine tq_n ?_ | with_reducible refine tq_r ?_ | with_reducible refine tq_e ?_ | with_reducible refine bk_n ?_ | with_reducible refine bk_r ?_ | (with_reducible refine bk_e ?_ ?_; exact rfl) | (with_reducible refine bk_x ?_ ?_; exact rfl) | refine cx_seq ?_ | refine cx_region ?_ | refine cx_block ?_ | refine cx_ret ?_ | refine cx_skip ?_ | refine cx_exit ?_ | fail)
  refine cx_cond rfl (fun h => ?_) (fun h => ?_)
  · have h0 : n = 0 := hA (by simpa using h)
    subst h0
    obtain rfl := List.eq_nil_of_length_eq_zero hl
    repeat (first | (refine isU ?_; refine gU rfl ?_) | (refine isG ?_; refine gG rfl rfl ?_) | (refine isx_box ?_; refine gB rfl rfl rfl rfl rfl rfl ?_; intro b_) | (refine isx_alloc ?_; refine gA rfl rfl rfl rfl rfl rfl rfl ?_; intro b_) | (refine isx_store ?_; refine gS 0 rfl rfl rfl rfl rfl rfl rfl rfl rfl rfl ?_) | (refine isx_store ?_; refine gS 1 rfl rfl rfl rfl rfl rfl rfl rfl rfl rfl ?_) | (refine isx_store ?_; refine gS 2 rfl rfl rfl rfl rfl rfl rfl rfl rfl rfl ?_) | (refine isx_store ?_; refine gS 3 rfl rfl rfl rfl rfl rfl rfl rfl rfl rfl ?_) | (refine isx_row ?_; refine lx_row (E := EV) rfl rfl rfl rfl rfl rfl rfl rfl rfl rfl rfl rfl rfl ?_; intro b_) | refine lx_nil ?_ | with_reducible refine tq_n ?_ | with_reducible refine tq_r ?_ | with_reducible refine tq_e ?_ | with_reducible refine bk_n ?_ | with_reducible refine bk_r ?_ | (with_reducible refine bk_e ?_ ?_; exact rfl) | (with_reducible refine bk_x ?_ ?_; exact rfl) | refine cx_seq ?_ | refine cx_region ?_ | refine cx_block ?_ | refine cx_ret ?_ | refine cx_skip ?_ | refine cx_exit ?_ | fail)
    exact bq_ret (ret_tmp rfl rfl) [_] ((Gives.nilown _ 5 1).trans (Gives.pick [0] (by decide) rfl)) rfl ⟨none, 0, rfl, rfl⟩
  repeat (first | (refine isU ?_; refine gU rfl ?_) | (refine isG ?_; refine gG rfl rfl ?_) | (refine isx_row ?_; refine lx_row0 (E := EV) rfl rfl rfl rfl rfl rfl rfl ?_; intro b_) | (refine isx_box ?_; refine gB rfl rfl rfl rfl rfl rfl ?_; intro b_) | (refine isx_alloc ?_; refine gA rfl rfl rfl rfl rfl rfl rfl ?_; intro b_) | (refine isx_store ?_; refine gS 0 rfl rfl rfl rfl rfl rfl rfl rfl rfl rfl ?_) | (refine isx_store ?_; refine gS 1 rfl rfl rfl rfl rfl rfl rfl rfl rfl rfl ?_) | (refine isx_store ?_; refine gS 2 rfl rfl rfl rfl rfl rfl rfl rfl rfl rfl ?_) | (refine isx_store ?_; refine gS 3 rfl rfl rfl rfl rfl rfl rfl rfl rfl rfl ?_) | (refine isx_row ?_; refine lx_row (E := EV) rfl rfl rfl rfl rfl rfl rfl rfl rfl rfl rfl rfl rfl ?_; intro b_) | refine lx_nil ?_ | with_reducible refine tq_n ?_ | with_reducible refine tq_r ?_ | with_reducible refine tq_e ?_ | with_reducible refine bk_n ?_ | with_reducible refine bk_r ?_ | (with_reducible refine bk_e ?_ ?_; exact rfl) | (with_reducible refine bk_x ?_ ?_; exact rfl) | refine cx_seq ?_ | refine cx_region ?_ | refine cx_block ?_ | refine cx_ret ?_ | refine cx_skip ?_ | refine cx_exit ?_ | fail)
  refine lx_weak (Gives.blkown 0 (m := 0) (sz := 1) rfl rfl (Nat.zero_le _)) ?_
  refine lx_append (E := EV) 0 rfl rfl rfl rfl rfl rfl rfl rfl rfl rfl rfl rfl rfl (news := bvs l) (fun w hm => row_ro 1 rfl hm) bvs_one (by unfold maxLen; omega) (by show (0 + n) * 1 ≤ _; omega) (fun _ _ _ => trivial) ?_
  intro A' c'
  repeat (first | (refine isU ?_; refine gU rfl ?_) | (refine isG ?_; refine gG rfl rfl ?_) | (refine isx_box ?_; refine gB rfl rfl rfl rfl rfl rfl ?_; intro b_) | (refine isx_alloc ?_; refine gA rfl rfl rfl rfl rfl rfl rfl ?_; intro b_) | (refine isx_store ?_; refine gS 0 rfl rfl rfl rfl rfl rfl rfl rfl rfl rfl ?_) | (refine isx_store ?_; refine gS 1 rfl rfl rfl rfl rfl rfl rfl rfl rfl rfl ?_) | (refine isx_store ?_; refine gS 2 rfl rfl rfl rfl rfl rfl rfl rfl rfl rfl ?_) | (refine isx_store ?_; refine gS 3 rfl rfl rfl rfl rfl rfl rfl rfl rfl rfl ?_) | (refine isx_row ?_; refine lx_row (E := EV) rfl rfl rfl rfl rfl rfl rfl rfl rfl rfl rfl rfl rfl ?_; intro b_) | refine lx_nil ?_ | with_reducible refine tq_n ?_ | with_reducible refine tq_r ?_ | with_reducible refine tq_e ?_ | with_reducible refine bk_n ?_ | with_reducible refine bk_r ?_ | (with_reducible refine bk_e ?_ ?_; exact rfl) | (with_reducible refine bk_x ?_ ?_; exact rfl) | refine cx_seq ?_ | refine cx_region ?_ | refine cx_block ?_ | refine cx_ret ?_ | refine cx_skip ?_ | refine cx_exit ?_ | fail)
  exact bq_ret (ret_tmp rfl rfl) [_] (Gives.pick [0] (by decide) rfl) rfl ⟨A', c', by rw [Nat.zero_add], by rw [Nat.zero_add]; rfl⟩


theorem of_fn (A : Option Addr) (n c : Nat) (l : List B8) (hl : l.length = n) (hn : n ≤ 140737488355328) (hc : n ≤ c) : Fn Try.prog 35 [.slice A n c] [.ro A n 1 (bvs l)] [] fun v Lo => ∃ b A' c', v = .pointer (some ⟨b, 0, none⟩) ∧ Lo = [.blk b [.slice A' n c', .int .i64 0] 94, .own A' n c' 5 1 (bvs l)] := by
  refine fn_enter Try.func35 rfl rfl (by kernel_rfl) rfl ?_
  intro w0
  repeat (first | (refine isU ?_; refine gU rfl ?_) | (refine isG ?_; refine gG rfl rfl ?_) | (refine isx_call ?_; (refine lx_call0 (clone_fn A n c l hl hn hc) ((fun w hm => hm.ros [0] (by decide) rfl rfl)) rfl rfl rfl rfl rfl rfl rfl rfl ?_; rintro v_ Lo_ ⟨A_, c_, rfl, rfl⟩)) | (refine isx_box ?_; refine gB rfl rfl rfl rfl rfl rfl ?_; intro b_) | (refine isx_alloc ?_; refine gA rfl rfl rfl rfl rfl rfl rfl ?_; intro b_) | (refine isx_store ?_; refine gS 0 rfl rfl rfl rfl rfl rfl rfl rfl rfl rfl ?_) | (refine isx_store ?_; refine gS 1 rfl rfl rfl rfl rfl rfl rfl rfl rfl rfl ?_) | (refine isx_store ?_; refine gS 2 rfl rfl rfl rfl rfl rfl rfl rfl rfl rfl ?_) | (refine isx_store ?_; refine gS 3 rfl rfl rfl rfl rfl rfl rfl rfl rfl rfl ?_) | (refine isx_row ?_; refine lx_row (E := EV) rfl rfl rfl rfl rfl rfl rfl rfl rfl rfl rfl rfl rfl ?_; intro b_) | refine lx_nil ?_ | with_reducible refine tq_n ?_ | with_reducible refine tq_r ?_ | with_reducible refine tq_e ?_ | with_reducible refine bk_n ?_ | with_reducible refine bk_r ?_ | (with_reducible refine bk_e ?_ ?_; exact rfl) | (with_reducible refine bk_x ?_ ?_; exact rfl) | refine cx_seq ?_ | refine cx_region ?_ | refine cx_block ?_ | refine cx_ret ?_ | refine cx_skip ?_ | refine cx_exit ?_ | fail)
  exact bq_ret (ret_tmp rfl rfl) [_, _] (Gives.pick [0, 1] (by decide) rfl) rfl ⟨b_, A_, c_, rfl, rfl⟩

end Go.Proofs.Ythmdiopbiiimeaa.pk
