/- events: packed. -/
import Derived.Test.YtbhbimfljjgijaaGo
import Derived.Test.YtbhbimfljjgijaaEc
namespace Go.Proofs.Ytbhbimfljjgijaa.ev
open Go.RowKit Go.Proofs.Ytbhbimfljjgijaa.kit Go.Proofs.Ytbhbimfljjgijaa.pk
def EOp.body (o : EOp) : List B8 := if o.k = 1#8 then txt o.key ++ (be 8 (BitVec.ofInt 64 o.t) ++ be 8 (BitVec.ofInt 64 o.v)) else be 8 (BitVec.ofInt 64 o.t)
def EOp.bytes (o : EOp) : List B8 := o.k :: o.body
/-- what is packed -/
def EOp.packed (o : EOp) : List B8 := if o.right = 0 then o.bytes else []
theorem body1 (s : List B8) (t v : Int) : (EOp.mk 1#8 s t v).body = txt s ++ (be 8 (BitVec.ofInt 64 t) ++ be 8 (BitVec.ofInt 64 v)) := if_pos rfl
theorem body2 (s : List B8) (t v : Int) : (EOp.mk 2#8 s t v).body = be 8 (BitVec.ofInt 64 t) := if_neg (by dsimp only; decide)
theorem be_one (k : B8) : be 1 (k.setWidth 64) = [k] := by
  simp [be]
theorem EOp.right_kind {o : EOp} (h : o.right = 0) : o.k = 1#8 ∨ o.k = 2#8 := by
  by_cases h1 : o.k = 1#8
  · exact .inl h1
  · by_cases h2 : o.k = 2#8
    · exact .inr h2
    · rw [EOp.right80 ⟨h1, h2⟩] at h
      cases h
theorem EOp.right_key {o : EOp} (h : o.right = 0) : o.key.length ≤ 32 := by
  have hk := EOp.right_kind h
  by_cases hb : o.bad
  · rw [EOp.right60 (by intro ⟨h1, h2⟩; rcases hk with h | h <;> contradiction) hb] at h
    cases h
  · rcases hk with hk | hk
    · cases o with
      | mk k s t v =>
        dsimp only at hk
        subst hk
        rw [bad1, Classical.not_not] at hb
        exact hb.2
    · by_cases hs : o.key = []
      · rw [hs]; exact Nat.zero_le _
      · exact absurd (.inr ⟨hk, .inl hs⟩) hb
theorem body_len {o : EOp} (h : o.key.length ≤ 32) : o.body.length ≤ 50 := by
  unfold EOp.body
  split
  · rw [List.length_append, List.length_append, txt_len, be_len, be_len]; omega
  · rw [be_len]; omega
attribute [local irreducible] LX CX Yl Gives RetIs Fn
attribute [local irreducible] be de
theorem joinB_fn (b : Nat) (n : Nat) (rs : List Rw) (l : List B8) (hl : rs.length = n) (hn : n ≤ 9223372036854775807) (hcat : cat rs = l) (hm : l.length ≤ 70368744177664) : Fn Try.prog 101 [.slice (some ⟨b, 0, none⟩) n n] [.rows (some ⟨b, 0, none⟩) n rs] [] fun v Lo => ∃ A' c', v = .slice A' l.length c' ∧ Lo = [.own A' l.length c' 5 1 (bvs l)] := by
  subst hcat
  exact join_fn _ n n rs hl hn hm
theorem putE_fn (s : List B8) (t v : Int) (hl : s.length ≤ 65535) : Fn Try.prog 89 [EOp.val ⟨1#8, s, t, v⟩] [] [] fun u Lo => ∃ A c, u = .slice A (EOp.mk 1#8 s t v).body.length c ∧ Lo = [.own A (EOp.mk 1#8 s t v).body.length c 5 1 (bvs (EOp.mk 1#8 s t v).body)] := by
  rw [body1]
  have e1 := txt_len s
  have e8 := be_len 8 (BitVec.ofInt 64 t)
  have e9 := be_len 8 (BitVec.ofInt 64 v)
  refine fn_enter Try.func89 rfl rfl (by kernel_rfl) rfl ?_
  intro w0
  repeat (first | (refine isU ?_; refine gU rfl ?_) | (refine isG ?_; refine gG rfl rfl ?_) | (refine isx_call ?_; (refine isx_call ?_; refine lx_call0 (putText_fn s hl) (fun _ hm => in_nil hm) rfl rfl rfl rfl rfl rfl rfl rfl ?_; rintro v_ Lo_ ⟨Ak, ck, rfl, rfl⟩)) | (refine isx_box ?_; refine gB rfl rfl rfl rfl rfl rfl ?_; intro b_) | (refine isx_alloc ?_; refine gA rfl rfl rfl rfl rfl rfl rfl ?_; intro b_) | (refine isx_store ?_; refine gS 0 rfl rfl rfl rfl rfl rfl rfl rfl rfl rfl ?_) | (refine isx_store ?_; refine gS 1 rfl rfl rfl rfl rfl rfl rfl rfl rfl rfl ?_) | (refine isx_store ?_; refine gS 2 rfl rfl rfl rfl rfl rfl rfl rfl rfl rfl ?_) | (refine isx_store ?_; refine gS 3 rfl rfl rfl rfl rfl rfl rfl rfl rfl rfl ?_) | (refine isx_row ?_; refine lx_row (E := EV) rfl rfl rfl rfl rfl rfl rfl rfl rfl rfl rfl rfl rfl ?_; intro b_) | refine lx_nil ?_ | with_reducible refine tq_n ?_ | with_reducible refine tq_r ?_ | with_reducible refine tq_e ?_ | with_reducible refine bk_n ?_ | with_reducible refine bk_r ?_ | (with_reducible refine bk_e ?_ ?_; exact rfl) | (with_reducible refine bk_x ?_ ?_; exact rfl) | refine cx_seq ?_ | refine cx_region ?_ | refine cx_block ?_ | refine cx_ret ?_ | refine cx_skip ?_ | refine cx_exit ?_ | fail)
  refine cx_fact (fun w hm => own_cap 0 hm rfl) fun hck => ?_
  refine cx_draw [3, 6, 7, 8] [.blk b_ (EOp.cells ⟨1#8, s, t, v⟩) 26] rfl (by kernel_rfl) (Gives.pick [1] (by decide) rfl) ?_
  repeat (first | (refine isU ?_; refine gU rfl ?_) | (refine isG ?_; refine gG rfl rfl ?_) | (refine isx_box ?_; refine gB rfl rfl rfl rfl rfl rfl ?_; intro b_) | (refine isx_alloc ?_; refine gA rfl rfl rfl rfl rfl rfl rfl ?_; intro b_) | (refine isx_store ?_; refine gS 0 rfl rfl rfl rfl rfl rfl rfl rfl rfl rfl ?_) | (refine isx_store ?_; refine gS 1 rfl rfl rfl rfl rfl rfl rfl rfl rfl rfl ?_) | (refine isx_store ?_; refine gS 2 rfl rfl rfl rfl rfl rfl rfl rfl rfl rfl ?_) | (refine isx_store ?_; refine gS 3 rfl rfl rfl rfl rfl rfl rfl rfl rfl rfl ?_) | (refine isx_row ?_; refine lx_row (E := EV) rfl rfl rfl rfl rfl rfl rfl rfl rfl rfl rfl rfl rfl ?_; intro b_) | refine lx_nil ?_ | with_reducible refine tq_n ?_ | with_reducible refine tq_r ?_ | with_reducible refine tq_e ?_ | with_reducible refine bk_n ?_ | with_reducible refine bk_r ?_ | (with_reducible refine bk_e ?_ ?_; exact rfl) | (with_reducible refine bk_x ?_ ?_; exact rfl) | refine cx_seq ?_ | refine cx_region ?_ | refine cx_block ?_ | refine cx_ret ?_ | refine cx_skip ?_ | refine cx_exit ?_ | fail)
  refine lx_call0 (putInt_fn t) (fun _ hm => in_nil hm) rfl rfl rfl rfl rfl rfl rfl rfl ?_
  rintro v_ Lo_ ⟨A1, c1, rfl, rfl⟩
  repeat (first | (refine isU ?_; refine gU rfl ?_) | (refine isG ?_; refine gG rfl rfl ?_) | (refine isx_box ?_; refine gB rfl rfl rfl rfl rfl rfl ?_; intro b_) | (refine isx_alloc ?_; refine gA rfl rfl rfl rfl rfl rfl rfl ?_; intro b_) | (refine isx_store ?_; refine gS 0 rfl rfl rfl rfl rfl rfl rfl rfl rfl rfl ?_) | (refine isx_store ?_; refine gS 1 rfl rfl rfl rfl rfl rfl rfl rfl rfl rfl ?_) | (refine isx_store ?_; refine gS 2 rfl rfl rfl rfl rfl rfl rfl rfl rfl rfl ?_) | (refine isx_store ?_; refine gS 3 rfl rfl rfl rfl rfl rfl rfl rfl rfl rfl ?_) | (refine isx_row ?_; refine lx_row (E := EV) rfl rfl rfl rfl rfl rfl rfl rfl rfl rfl rfl rfl rfl ?_; intro b_) | refine lx_nil ?_ | with_reducible refine tq_n ?_ | with_reducible refine tq_r ?_ | with_reducible refine tq_e ?_ | with_reducible refine bk_n ?_ | with_reducible refine bk_r ?_ | (with_reducible refine bk_e ?_ ?_; exact rfl) | (with_reducible refine bk_x ?_ ?_; exact rfl) | refine cx_seq ?_ | refine cx_region ?_ | refine cx_block ?_ | refine cx_ret ?_ | refine cx_skip ?_ | refine cx_exit ?_ | fail)
  refine lx_call0 (putInt_fn v) (fun _ hm => in_nil hm) rfl rfl rfl rfl rfl rfl rfl rfl ?_
  rintro v_ Lo_ ⟨A2, c2, rfl, rfl⟩
  refine lx_fact (fun w hm => (⟨own_cap 1 hm rfl, own_cap 0 hm rfl⟩ : (8 ≤ c1 ∧ _) ∧ (8 ≤ c2 ∧ _))) fun ⟨k1, k2⟩ => ?_
  repeat (first | (refine isU ?_; refine gU rfl ?_) | (refine isG ?_; refine gG rfl rfl ?_) | (refine isx_call ?_; (refine isx_call ?_; refine lx_call0 (joinB_fn _ 3 [⟨Ak, 2 + s.length, ck, txt s⟩, ⟨A1, 8, c1, be 8 (BitVec.ofInt 64 t)⟩, ⟨A2, 8, c2, be 8 (BitVec.ofInt 64 v)⟩] (txt s ++ (be 8 (BitVec.ofInt 64 t) ++ be 8 (BitVec.ofInt 64 v))) rfl (by omega) (by simp only [cat, List.flatMap_cons, List.flatMap_nil, List.append_nil]) (by rw [List.length_append, List.length_append]; omega)) ((fun w hm => rows_blk 0 _ hm rfl rfl (List.forall_mem_cons.2 ⟨⟨row_own 3 rfl hm, hck⟩, List.forall_mem_cons.2 ⟨⟨row_own 2 rfl hm, k1⟩, List.forall_mem_cons.2 ⟨⟨row_own 1 rfl hm, k2⟩, List.forall_mem_nil _⟩⟩⟩))) rfl rfl rfl rfl rfl rfl rfl rfl ?_; rintro v_ Lo_ ⟨A', c', rfl, rfl⟩)) | (refine isx_box ?_; refine gB rfl rfl rfl rfl rfl rfl ?_; intro b_) | (refine isx_alloc ?_; refine gA rfl rfl rfl rfl rfl rfl rfl ?_; intro b_) | (refine isx_store ?_; refine gS 0 rfl rfl rfl rfl rfl rfl rfl rfl rfl rfl ?_) | (refine isx_store ?_; refine gS 1 rfl rfl rfl rfl rfl rfl rfl rfl rfl rfl ?_) | (refine isx_store ?_; refine gS 2 rfl rfl rfl rfl rfl rfl rfl rfl rfl rfl ?_) | (refine isx_store ?_; refine gS 3 rfl rfl rfl rfl rfl rfl rfl rfl rfl rfl ?_) | (refine isx_row ?_; refine lx_row (E := EV) rfl rfl rfl rfl rfl rfl rfl rfl rfl rfl rfl rfl rfl ?_; intro b_) | refine lx_nil ?_ | with_reducible refine tq_n ?_ | with_reducible refine tq_r ?_ | with_reducible refine tq_e ?_ | with_reducible refine bk_n ?_ | with_reducible refine bk_r ?_ | (with_reducible refine bk_e ?_ ?_; exact rfl) | (with_reducible refine bk_x ?_ ?_; exact rfl) | refine cx_seq ?_ | refine cx_region ?_ | refine cx_block ?_ | refine cx_ret ?_ | refine cx_skip ?_ | refine cx_exit ?_ | fail)
  exact bq_ret (ret_tmp rfl rfl) [_] (Gives.pick [0] (by decide) rfl) rfl ⟨_, _, rfl, rfl⟩
theorem putM_fn (s : List B8) (t v : Int) (_ : s.length ≤ 65535) : Fn Try.prog 92 [EOp.val ⟨2#8, s, t, v⟩] [] [] fun u Lo => ∃ A c, u = .slice A (EOp.mk 2#8 s t v).body.length c ∧ Lo = [.own A (EOp.mk 2#8 s t v).body.length c 5 1 (bvs (EOp.mk 2#8 s t v).body)] := by
  rw [body2, be_len]
  exact putMark_fn ⟨2#8, s, t, v⟩
theorem put1_fn (s : List B8) (t v : Int) (hr : (EOp.mk 1#8 s t v).right = 0) : Fn Try.prog 18 [EOp.val ⟨1#8, s, t, v⟩] [] [] fun u Lo => ∃ A c, u = .tuple #[.slice A (EOp.mk 1#8 s t v).bytes.length c, .int .i64 0] ∧ Lo = [.own A (EOp.mk 1#8 s t v).bytes.length c 5 1 (bvs (EOp.mk 1#8 s t v).bytes)] := by
  have hs := EOp.right_key hr
  have hbl := body_len hs
  dsimp only at hs
  have hc := right_fn ⟨1#8, s, t, v⟩ (by dsimp only; omega)
  rw [hr] at hc
  have h8 := put8_fn 1#8
  rw [be_one] at h8
  refine fn_enter Try.func18 rfl rfl (by kernel_rfl) rfl ?_
  intro w0
  repeat (first | refine lx_not rfl rfl rfl rfl ?_ | refine lx_notu rfl rfl rfl rfl rfl ?_ | ((first | (apply lx_gt; exact rfl; exact rfl; exact rfl) | (apply lx_u; exact rfl) | (apply lx_g; exact rfl; exact rfl)); first | (apply isy_bin_neq; exact yl_false (yl_op (E := EV) rfl) (fun _ => rfl)) | fail) | (refine isG ?_; refine gT rfl rfl rfl ?_) | (refine isU ?_; refine gU rfl ?_) | (refine isG ?_; refine gG rfl rfl ?_) | (refine isx_call ?_; refine lx_gcallt (hc) (fun _ hm => in_nil hm) rfl rfl rfl rfl rfl rfl rfl ?_) | (refine isx_box ?_; refine gB rfl rfl rfl rfl rfl rfl ?_; intro b_) | (refine isx_alloc ?_; refine gA rfl rfl rfl rfl rfl rfl rfl ?_; intro b_) | (refine isx_store ?_; refine gS 0 rfl rfl rfl rfl rfl rfl rfl rfl rfl rfl ?_) | (refine isx_store ?_; refine gS 1 rfl rfl rfl rfl rfl rfl rfl rfl rfl rfl ?_) | (refine isx_store ?_; refine gS 2 rfl rfl rfl rfl rfl rfl rfl rfl rfl rfl ?_) | (refine isx_store ?_; refine gS 3 rfl rfl rfl rfl rfl rfl rfl rfl rfl rfl ?_) | (refine isx_row ?_; refine lx_row (E := EV) rfl rfl rfl rfl rfl rfl rfl rfl rfl rfl rfl rfl rfl ?_; intro b_) | refine lx_nil ?_ | with_reducible refine tq_n ?_ | with_reducible refine tq_r ?_ | with_reducible refine tq_e ?_ | with_reducible refine bk_n ?_ | with_reducible refine bk_r ?_ | (with_reducible refine bk_e ?_ ?_; exact rfl) | (with_reducible refine bk_x ?_ ?_; exact rfl) | refine cx_seq ?_ | refine cx_region ?_ | refine cx_block ?_ | refine cx_ret ?_ | refine cx_skip ?_ | refine cx_exit ?_ | fail)
  refine cx_cond rfl (fun h => absurd h (by decide)) (fun _ => ?_)
  repeat (first | refine lx_not rfl rfl rfl rfl ?_ | refine lx_notu rfl rfl rfl rfl rfl ?_ | (refine isG ?_; refine gT rfl rfl rfl ?_) | (refine isU ?_; refine gU rfl ?_) | (refine isG ?_; refine gG rfl rfl ?_) | (refine isx_call ?_; refine lx_gcallt (of1_fn) (fun _ hm => in_nil hm) rfl rfl rfl rfl rfl rfl rfl ?_) | (refine isx_box ?_; refine gB rfl rfl rfl rfl rfl rfl ?_; intro b_) | (refine isx_alloc ?_; refine gA rfl rfl rfl rfl rfl rfl rfl ?_; intro b_) | (refine isx_store ?_; refine gS 0 rfl rfl rfl rfl rfl rfl rfl rfl rfl rfl ?_) | (refine isx_store ?_; refine gS 1 rfl rfl rfl rfl rfl rfl rfl rfl rfl rfl ?_) | (refine isx_store ?_; refine gS 2 rfl rfl rfl rfl rfl rfl rfl rfl rfl rfl ?_) | (refine isx_store ?_; refine gS 3 rfl rfl rfl rfl rfl rfl rfl rfl rfl rfl ?_) | (refine isx_row ?_; refine lx_row (E := EV) rfl rfl rfl rfl rfl rfl rfl rfl rfl rfl rfl rfl rfl ?_; intro b_) | refine lx_nil ?_ | with_reducible refine tq_n ?_ | with_reducible refine tq_r ?_ | with_reducible refine tq_e ?_ | with_reducible refine bk_n ?_ | with_reducible refine bk_r ?_ | (with_reducible refine bk_e ?_ ?_; exact rfl) | (with_reducible refine bk_x ?_ ?_; exact rfl) | refine cx_seq ?_ | refine cx_region ?_ | refine cx_block ?_ | refine cx_ret ?_ | refine cx_skip ?_ | refine cx_exit ?_ | fail)
  rename_i b1 _
  have e : 1 + (EOp.mk 1#8 s t v).body.length = (EOp.mk 1#8 s t v).bytes.length := by rw [EOp.bytes, List.length_cons]; omega
  refine cx_draw [2, 6, 7] [.blk b_ (cellsL sortE) 99, .blk b1 (EOp.cells ⟨1#8, s, t, v⟩) 26] rfl (by kernel_rfl) (Gives.refl _) ?_
  repeat (first | (refine isU ?_; refine gU rfl ?_) | (refine isG ?_; refine gG rfl rfl ?_) | (refine isx_box ?_; refine gB rfl rfl rfl rfl rfl rfl ?_; intro b_) | (refine isx_alloc ?_; refine gA rfl rfl rfl rfl rfl rfl rfl ?_; intro b_) | (refine isx_store ?_; refine gS 0 rfl rfl rfl rfl rfl rfl rfl rfl rfl rfl ?_) | (refine isx_store ?_; refine gS 1 rfl rfl rfl rfl rfl rfl rfl rfl rfl rfl ?_) | (refine isx_store ?_; refine gS 2 rfl rfl rfl rfl rfl rfl rfl rfl rfl rfl ?_) | (refine isx_store ?_; refine gS 3 rfl rfl rfl rfl rfl rfl rfl rfl rfl rfl ?_) | (refine isx_row ?_; refine lx_row (E := EV) rfl rfl rfl rfl rfl rfl rfl rfl rfl rfl rfl rfl rfl ?_; intro b_) | refine lx_nil ?_ | with_reducible refine tq_n ?_ | with_reducible refine tq_r ?_ | with_reducible refine tq_e ?_ | with_reducible refine bk_n ?_ | with_reducible refine bk_r ?_ | (with_reducible refine bk_e ?_ ?_; exact rfl) | (with_reducible refine bk_x ?_ ?_; exact rfl) | refine cx_seq ?_ | refine cx_region ?_ | refine cx_block ?_ | refine cx_ret ?_ | refine cx_skip ?_ | refine cx_exit ?_ | fail)
  refine lx_call0 h8 (fun _ hm => in_nil hm) rfl rfl rfl rfl rfl rfl rfl rfl ?_
  rintro v_ Lo_ ⟨A8, c8, rfl, rfl⟩
  repeat (first | (refine isU ?_; refine gU rfl ?_) | (refine isG ?_; refine gG rfl rfl ?_) | (refine isx_box ?_; refine gB rfl rfl rfl rfl rfl rfl ?_; intro b_) | (refine isx_alloc ?_; refine gA rfl rfl rfl rfl rfl rfl rfl ?_; intro b_) | (refine isx_store ?_; refine gS 0 rfl rfl rfl rfl rfl rfl rfl rfl rfl rfl ?_) | (refine isx_store ?_; refine gS 1 rfl rfl rfl rfl rfl rfl rfl rfl rfl rfl ?_) | (refine isx_store ?_; refine gS 2 rfl rfl rfl rfl rfl rfl rfl rfl rfl rfl ?_) | (refine isx_store ?_; refine gS 3 rfl rfl rfl rfl rfl rfl rfl rfl rfl rfl ?_) | (refine isx_row ?_; refine lx_row (E := EV) rfl rfl rfl rfl rfl rfl rfl rfl rfl rfl rfl rfl rfl ?_; intro b_) | refine lx_nil ?_ | with_reducible refine tq_n ?_ | with_reducible refine tq_r ?_ | with_reducible refine tq_e ?_ | with_reducible refine bk_n ?_ | with_reducible refine bk_r ?_ | (with_reducible refine bk_e ?_ ?_; exact rfl) | (with_reducible refine bk_x ?_ ?_; exact rfl) | refine cx_seq ?_ | refine cx_region ?_ | refine cx_block ?_ | refine cx_ret ?_ | refine cx_skip ?_ | refine cx_exit ?_ | fail)
  refine lx_call0 (putE_fn s t v (by omega)) (fun _ hm => in_nil hm) rfl rfl rfl rfl rfl rfl rfl rfl ?_
  rintro v_ Lo_ ⟨Ab, cb', rfl, rfl⟩
  refine lx_append (E := EV) 1 rfl rfl rfl rfl rfl rfl rfl rfl rfl rfl rfl rfl rfl (news := bvs (EOp.mk 1#8 s t v).body) (fun w hm => row_own 0 rfl hm) bvs_one (by unfold maxLen; omega) (by show (1 + _) * 1 ≤ _; omega) (fun _ _ _ => Gives.pick [2, 3] (by decide) rfl) ?_
  intro A' c'
  rw [← bvs_append, e]
  repeat (first | (refine isU ?_; refine gU rfl ?_) | (refine isG ?_; refine gG rfl rfl ?_) | (refine isx_box ?_; refine gB rfl rfl rfl rfl rfl rfl ?_; intro b_) | (refine isx_alloc ?_; refine gA rfl rfl rfl rfl rfl rfl rfl ?_; intro b_) | (refine isx_store ?_; refine gS 0 rfl rfl rfl rfl rfl rfl rfl rfl rfl rfl ?_) | (refine isx_store ?_; refine gS 1 rfl rfl rfl rfl rfl rfl rfl rfl rfl rfl ?_) | (refine isx_store ?_; refine gS 2 rfl rfl rfl rfl rfl rfl rfl rfl rfl rfl ?_) | (refine isx_store ?_; refine gS 3 rfl rfl rfl rfl rfl rfl rfl rfl rfl rfl ?_) | (refine isx_row ?_; refine lx_row (E := EV) rfl rfl rfl rfl rfl rfl rfl rfl rfl rfl rfl rfl rfl ?_; intro b_) | refine lx_nil ?_ | with_reducible refine tq_n ?_ | with_reducible refine tq_r ?_ | with_reducible refine tq_e ?_ | with_reducible refine bk_n ?_ | with_reducible refine bk_r ?_ | (with_reducible refine bk_e ?_ ?_; exact rfl) | (with_reducible refine bk_x ?_ ?_; exact rfl) | refine cx_seq ?_ | refine cx_region ?_ | refine cx_block ?_ | refine cx_ret ?_ | refine cx_skip ?_ | refine cx_exit ?_ | fail)
  exact bq_ret (ret_tmp2 rfl rfl rfl) [_] (Gives.pick [1] (by decide) rfl) rfl ⟨_, _, rfl, rfl⟩
theorem put2_fn (s : List B8) (t v : Int) (hr : (EOp.mk 2#8 s t v).right = 0) : Fn Try.prog 18 [EOp.val ⟨2#8, s, t, v⟩] [] [] fun u Lo => ∃ A c, u = .tuple #[.slice A (EOp.mk 2#8 s t v).bytes.length c, .int .i64 0] ∧ Lo = [.own A (EOp.mk 2#8 s t v).bytes.length c 5 1 (bvs (EOp.mk 2#8 s t v).bytes)] := by
  have hs := EOp.right_key hr
  have hbl := body_len hs
  dsimp only at hs
  have hc := right_fn ⟨2#8, s, t, v⟩ (by dsimp only; omega)
  rw [hr] at hc
  have h8 := put8_fn 2#8
  rw [be_one] at h8
  refine fn_enter Try.func18 rfl rfl (by kernel_rfl) rfl ?_
  intro w0
  repeat (first | refine lx_not rfl rfl rfl rfl ?_ | refine lx_notu rfl rfl rfl rfl rfl ?_ | ((first | (apply lx_gt; exact rfl; exact rfl; exact rfl) | (apply lx_u; exact rfl) | (apply lx_g; exact rfl; exact rfl)); first | (apply isy_bin_neq; exact yl_false (yl_op (E := EV) rfl) (fun _ => rfl)) | fail) | (refine isG ?_; refine gT rfl rfl rfl ?_) | (refine isU ?_; refine gU rfl ?_) | (refine isG ?_; refine gG rfl rfl ?_) | (refine isx_call ?_; refine lx_gcallt (hc) (fun _ hm => in_nil hm) rfl rfl rfl rfl rfl rfl rfl ?_) | (refine isx_box ?_; refine gB rfl rfl rfl rfl rfl rfl ?_; intro b_) | (refine isx_alloc ?_; refine gA rfl rfl rfl rfl rfl rfl rfl ?_; intro b_) | (refine isx_store ?_; refine gS 0 rfl rfl rfl rfl rfl rfl rfl rfl rfl rfl ?_) | (refine isx_store ?_; refine gS 1 rfl rfl rfl rfl rfl rfl rfl rfl rfl rfl ?_) | (refine isx_store ?_; refine gS 2 rfl rfl rfl rfl rfl rfl rfl rfl rfl rfl ?_) | (refine isx_store ?_; refine gS 3 rfl rfl rfl rfl rfl rfl rfl rfl rfl rfl ?_) | (refine isx_row ?_; refine lx_row (E := EV) rfl rfl rfl rfl rfl rfl rfl rfl rfl rfl rfl rfl rfl ?_; intro b_) | refine lx_nil ?_ | with_reducible refine tq_n ?_ | with_reducible refine tq_r ?_ | with_reducible refine tq_e ?_ | with_reducible refine bk_n ?_ | with_reducible refine bk_r ?_ | (with_reducible refine bk_e ?_ ?_; exact rfl) | (with_reducible refine bk_x ?_ ?_; exact rfl) | refine cx_seq ?_ | refine cx_region ?_ | refine cx_block ?_ | refine cx_ret ?_ | refine cx_skip ?_ | refine cx_exit ?_ | fail)
  refine cx_cond rfl (fun h => absurd h (by decide)) (fun _ => ?_)
  repeat (first | refine lx_not rfl rfl rfl rfl ?_ | refine lx_notu rfl rfl rfl rfl rfl ?_ | (refine isG ?_; refine gT rfl rfl rfl ?_) | (refine isU ?_; refine gU rfl ?_) | (refine isG ?_; refine gG rfl rfl ?_) | (refine isx_call ?_; refine lx_gcallt (of2_fn) (fun _ hm => in_nil hm) rfl rfl rfl rfl rfl rfl rfl ?_) | (refine isx_box ?_; refine gB rfl rfl rfl rfl rfl rfl ?_; intro b_) | (refine isx_alloc ?_; refine gA rfl rfl rfl rfl rfl rfl rfl ?_; intro b_) | (refine isx_store ?_; refine gS 0 rfl rfl rfl rfl rfl rfl rfl rfl rfl rfl ?_) | (refine isx_store ?_; refine gS 1 rfl rfl rfl rfl rfl rfl rfl rfl rfl rfl ?_) | (refine isx_store ?_; refine gS 2 rfl rfl rfl rfl rfl rfl rfl rfl rfl rfl ?_) | (refine isx_store ?_; refine gS 3 rfl rfl rfl rfl rfl rfl rfl rfl rfl rfl ?_) | (refine isx_row ?_; refine lx_row (E := EV) rfl rfl rfl rfl rfl rfl rfl rfl rfl rfl rfl rfl rfl ?_; intro b_) | refine lx_nil ?_ | with_reducible refine tq_n ?_ | with_reducible refine tq_r ?_ | with_reducible refine tq_e ?_ | with_reducible refine bk_n ?_ | with_reducible refine bk_r ?_ | (with_reducible refine bk_e ?_ ?_; exact rfl) | (with_reducible refine bk_x ?_ ?_; exact rfl) | refine cx_seq ?_ | refine cx_region ?_ | refine cx_block ?_ | refine cx_ret ?_ | refine cx_skip ?_ | refine cx_exit ?_ | fail)
  rename_i b1 _
  have e : 1 + (EOp.mk 2#8 s t v).body.length = (EOp.mk 2#8 s t v).bytes.length := by rw [EOp.bytes, List.length_cons]; omega
  refine cx_draw [2, 6, 7] [.blk b_ (cellsL sortM) 99, .blk b1 (EOp.cells ⟨2#8, s, t, v⟩) 26] rfl (by kernel_rfl) (Gives.refl _) ?_
  repeat (first | (refine isU ?_; refine gU rfl ?_) | (refine isG ?_; refine gG rfl rfl ?_) | (refine isx_box ?_; refine gB rfl rfl rfl rfl rfl rfl ?_; intro b_) | (refine isx_alloc ?_; refine gA rfl rfl rfl rfl rfl rfl rfl ?_; intro b_) | (refine isx_store ?_; refine gS 0 rfl rfl rfl rfl rfl rfl rfl rfl rfl rfl ?_) | (refine isx_store ?_; refine gS 1 rfl rfl rfl rfl rfl rfl rfl rfl rfl rfl ?_) | (refine isx_store ?_; refine gS 2 rfl rfl rfl rfl rfl rfl rfl rfl rfl rfl ?_) | (refine isx_store ?_; refine gS 3 rfl rfl rfl rfl rfl rfl rfl rfl rfl rfl ?_) | (refine isx_row ?_; refine lx_row (E := EV) rfl rfl rfl rfl rfl rfl rfl rfl rfl rfl rfl rfl rfl ?_; intro b_) | refine lx_nil ?_ | with_reducible refine tq_n ?_ | with_reducible refine tq_r ?_ | with_reducible refine tq_e ?_ | with_reducible refine bk_n ?_ | with_reducible refine bk_r ?_ | (with_reducible refine bk_e ?_ ?_; exact rfl) | (with_reducible refine bk_x ?_ ?_; exact rfl) | refine cx_seq ?_ | refine cx_region ?_ | refine cx_block ?_ | refine cx_ret ?_ | refine cx_skip ?_ | refine cx_exit ?_ | fail)
  refine lx_call0 h8 (fun _ hm => in_nil hm) rfl rfl rfl rfl rfl rfl rfl rfl ?_
  rintro v_ Lo_ ⟨A8, c8, rfl, rfl⟩
  repeat (first | (refine isU ?_; refine gU rfl ?_) | (refine isG ?_; refine gG rfl rfl ?_) | (refine isx_box ?_; refine gB rfl rfl rfl rfl rfl rfl ?_; intro b_) | (refine isx_alloc ?_; refine gA rfl rfl rfl rfl rfl rfl rfl ?_; intro b_) | (refine isx_store ?_; refine gS 0 rfl rfl rfl rfl rfl rfl rfl rfl rfl rfl ?_) | (refine isx_store ?_; refine gS 1 rfl rfl rfl rfl rfl rfl rfl rfl rfl rfl ?_) | (refine isx_store ?_; refine gS 2 rfl rfl rfl rfl rfl rfl rfl rfl rfl rfl ?_) | (refine isx_store ?_; refine gS 3 rfl rfl rfl rfl rfl rfl rfl rfl rfl rfl ?_) | (refine isx_row ?_; refine lx_row (E := EV) rfl rfl rfl rfl rfl rfl rfl rfl rfl rfl rfl rfl rfl ?_; intro b_) | refine lx_nil ?_ | with_reducible refine tq_n ?_ | with_reducible refine tq_r ?_ | with_reducible refine tq_e ?_ | with_reducible refine bk_n ?_ | with_reducible refine bk_r ?_ | (with_reducible refine bk_e ?_ ?_; exact rfl) | (with_reducible refine bk_x ?_ ?_; exact rfl) | refine cx_seq ?_ | refine cx_region ?_ | refine cx_block ?_ | refine cx_ret ?_ | refine cx_skip ?_ | refine cx_exit ?_ | fail)
  refine lx_call0 (putM_fn s t v (by omega)) (fun _ hm => in_nil hm) rfl rfl rfl rfl rfl rfl rfl rfl ?_
  rintro v_ Lo_ ⟨Ab, cb', rfl, rfl⟩
  refine lx_append (E := EV) 1 rfl rfl rfl rfl rfl rfl rfl rfl rfl rfl rfl rfl rfl (news := bvs (EOp.mk 2#8 s t v).body) (fun w hm => row_own 0 rfl hm) bvs_one (by unfold maxLen; omega) (by show (1 + _) * 1 ≤ _; omega) (fun _ _ _ => Gives.pick [2, 3] (by decide) rfl) ?_
  intro A' c'
  rw [← bvs_append, e]
  repeat (first | (refine isU ?_; refine gU rfl ?_) | (refine isG ?_; refine gG rfl rfl ?_) | (refine isx_box ?_; refine gB rfl rfl rfl rfl rfl rfl ?_; intro b_) | (refine isx_alloc ?_; refine gA rfl rfl rfl rfl rfl rfl rfl ?_; intro b_) | (refine isx_store ?_; refine gS 0 rfl rfl rfl rfl rfl rfl rfl rfl rfl rfl ?_) | (refine isx_store ?_; refine gS 1 rfl rfl rfl rfl rfl rfl rfl rfl rfl rfl ?_) | (refine isx_store ?_; refine gS 2 rfl rfl rfl rfl rfl rfl rfl rfl rfl rfl ?_) | (refine isx_store ?_; refine gS 3 rfl rfl rfl rfl rfl rfl rfl rfl rfl rfl ?_) | (refine isx_row ?_; refine lx_row (E := EV) rfl rfl rfl rfl rfl rfl rfl rfl rfl rfl rfl rfl rfl ?_; intro b_) | refine lx_nil ?_ | with_reducible refine tq_n ?_ | with_reducible refine tq_r ?_ | with_reducible refine tq_e ?_ | with_reducible refine bk_n ?_ | with_reducible refine bk_r ?_ | (with_reducible refine bk_e ?_ ?_; exact rfl) | (with_reducible refine bk_x ?_ ?_; exact rfl) | refine cx_seq ?_ | refine cx_region ?_ | refine cx_block ?_ | refine cx_ret ?_ | refine cx_skip ?_ | refine cx_exit ?_ | fail)
  exact bq_ret (ret_tmp2 rfl rfl rfl) [_] (Gives.pick [1] (by decide) rfl) rfl ⟨_, _, rfl, rfl⟩
theorem put_fn (o : EOp) (hl : o.key.length ≤ 9223372036854775807) : Fn Try.prog 18 [o.val] [] [] fun u Lo => ∃ A c, u = .tuple #[.slice A o.packed.length c, .int .i64 o.right] ∧ Lo = [.own A o.packed.length c 5 1 (bvs o.packed)] := by
  unfold EOp.packed
  by_cases hr : o.right = 0
  · rw [if_pos hr, hr]
    rcases EOp.right_kind hr with hk | hk
    · cases o with
      | mk k s t v => dsimp only at hk; subst hk; exact put1_fn s t v hr
    · cases o with
      | mk k s t v => dsimp only at hk; subst hk; exact put2_fn s t v hr
  rw [if_neg hr]
  have hn : (o.right != 0) = true := by simp [hr]
  refine fn_enter Try.func18 rfl rfl (by kernel_rfl) rfl ?_
  intro w0
  repeat (first | refine lx_not rfl rfl rfl rfl ?_ | refine lx_notu rfl rfl rfl rfl rfl ?_ | ((first | (apply lx_gt; exact rfl; exact rfl; exact rfl) | (apply lx_u; exact rfl) | (apply lx_g; exact rfl; exact rfl)); first | (apply isy_bin_neq; exact yl_true (yl_op (E := EV) rfl) (fun _ => hn)) | fail) | (refine isG ?_; refine gT rfl rfl rfl ?_) | (refine isU ?_; refine gU rfl ?_) | (refine isG ?_; refine gG rfl rfl ?_) | (refine isx_call ?_; refine lx_gcallt (right_fn o hl) (fun _ hm => in_nil hm) rfl rfl rfl rfl rfl rfl rfl ?_) | (refine isx_box ?_; refine gB rfl rfl rfl rfl rfl rfl ?_; intro b_) | (refine isx_alloc ?_; refine gA rfl rfl rfl rfl rfl rfl rfl ?_; intro b_) | (refine isx_store ?_; refine gS 0 rfl rfl rfl rfl rfl rfl rfl rfl rfl rfl ?_) | (refine isx_store ?_; refine gS 1 rfl rfl rfl rfl rfl rfl rfl rfl rfl rfl ?_) | (refine isx_store ?_; refine gS 2 rfl rfl rfl rfl rfl rfl rfl rfl rfl rfl ?_) | (refine isx_store ?_; refine gS 3 rfl rfl rfl rfl rfl rfl rfl rfl rfl rfl ?_) | (refine isx_row ?_; refine lx_row (E := EV) rfl rfl rfl rfl rfl rfl rfl rfl rfl rfl rfl rfl rfl ?_; intro b_) | refine lx_nil ?_ | with_reducible refine tq_n ?_ | with_reducible refine tq_r ?_ | with_reducible refine tq_e ?_ | with_reducible refine bk_n ?_ | with_reducible refine bk_r ?_ | (with_reducible refine bk_e ?_ ?_; exact rfl) | (with_reducible refine bk_x ?_ ?_; exact rfl) | refine cx_seq ?_ | refine cx_region ?_ | refine cx_block ?_ | refine cx_ret ?_ | refine cx_skip ?_ | refine cx_exit ?_ | fail)
  refine cx_cond rfl (fun _ => ?_) (fun h => absurd h (by decide))
  repeat (first | refine lx_not rfl rfl rfl rfl ?_ | refine lx_notu rfl rfl rfl rfl rfl ?_ | (refine isG ?_; refine gT rfl rfl rfl ?_) | (refine isU ?_; refine gU rfl ?_) | (refine isG ?_; refine gG rfl rfl ?_) | (refine isx_box ?_; refine gB rfl rfl rfl rfl rfl rfl ?_; intro b_) | (refine isx_alloc ?_; refine gA rfl rfl rfl rfl rfl rfl rfl ?_; intro b_) | (refine isx_store ?_; refine gS 0 rfl rfl rfl rfl rfl rfl rfl rfl rfl rfl ?_) | (refine isx_store ?_; refine gS 1 rfl rfl rfl rfl rfl rfl rfl rfl rfl rfl ?_) | (refine isx_store ?_; refine gS 2 rfl rfl rfl rfl rfl rfl rfl rfl rfl rfl ?_) | (refine isx_store ?_; refine gS 3 rfl rfl rfl rfl rfl rfl rfl rfl rfl rfl ?_) | (refine isx_row ?_; refine lx_row (E := EV) rfl rfl rfl rfl rfl rfl rfl rfl rfl rfl rfl rfl rfl ?_; intro b_) | refine lx_nil ?_ | with_reducible refine tq_n ?_ | with_reducible refine tq_r ?_ | with_reducible refine tq_e ?_ | with_reducible refine bk_n ?_ | with_reducible refine bk_r ?_ | (with_reducible refine bk_e ?_ ?_; exact rfl) | (with_reducible refine bk_x ?_ ?_; exact rfl) | refine cx_seq ?_ | refine cx_region ?_ | refine cx_block ?_ | refine cx_ret ?_ | refine cx_skip ?_ | refine cx_exit ?_ | fail)
  exact bq_ret (ret_tmp2 rfl rfl rfl) [_] ((Gives.nil _).trans (Gives.nilown [] _ _)) rfl ⟨none, 0, rfl, rfl⟩
end Go.Proofs.Ytbhbimfljjgijaa.ev
