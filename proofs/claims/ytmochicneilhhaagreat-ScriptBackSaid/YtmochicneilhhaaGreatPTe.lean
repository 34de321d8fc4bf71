/- scripts: rows of the table; a step read; a script read. -/
import Derived.Test.YtmochicneilhhaaGreatPAp
import Derived.Test.YtmochicneilhhaaGreatPGo
import Derived.Test.YtmochicneilhhaaGreatPTd
namespace Go.Proofs.YtmochicneilhhaaGreat.sc
open Go.RowKit Go.Proofs.YtmochicneilhhaaGreat.kit Go.Proofs.YtmochicneilhhaaGreat.pk Go.Proofs.YtmochicneilhhaaGreat.rq Go.Proofs.YtmochicneilhhaaGreat.ev
abbrev zeroS : MS := ⟨0#8, 0, nilr, zeroO, 0#64⟩
structure FSt (A : Option Addr) (l : List B8) (v d : Nat) where
  k : Nat
  r' : Rd A l
  A' : Option Addr
  c' : Nat
  hk : k ≤ d
  hv : r'.v = v + 2 + k
attribute [local irreducible] LX CX Yl Gives RetIs Fn
attribute [local irreducible] be de fr.frm
section
variable (b n : Nat) {A : Option Addr} {l : List B8} (r : Rd A l) (hn : 0 < n) (hl : l.length ≤ 9223372036854775807)
include hn hl
set_option maxRecDepth 100000 in
theorem feed_fn : Fn Tryz.prog 69 [.pointer (some ⟨b, 0, none⟩)] [r.blk b n, .ro A l.length 1 (bvs l)] [b] (RowP (A := A) (l := l) b n (feedQ l n r.v)) := by
  have h := by_fn b n r n hn hl
  have h2 : Fn Tryz.prog 65 [.pointer (some ⟨b, 0, none⟩), .int .i64 16] [r.nx.blk b n, .ro A l.length 1 (bvs l)] [b] fun v Lo => v = .int .i64 (at_ l r.nx.v % 16 : Nat) ∧ Lo = [r.nx.nx.blk b n] := by_fn b n r.nx 16 (by decide) hl
  rw [r.nx_v] at h2
  have hd := Nat.mod_lt (at_ l (r.v + 1)) (show 0 < 16 by decide)
  have hv2 : r.nx.nx.v = r.v + 2 := by rw [Rd.nx_v, Rd.nx_v]
  unfold feedQ
  generalize at_ l (r.v + 1) % 16 = d at *
  generalize at_ l r.v % n = q at *
  generalize r.nx.nx = r2 at *
  generalize r.nx = r1 at *
  refine fn_enter Tryz.func69 rfl rfl (by kernel_rfl) rfl ?_
  intro w0
  repeat (first | (refine isx_call ?_; refine k_call (h) [1, 2] [1] [0, 2] rfl rfl rfl rfl rfl rfl rfl rfl ?_; rintro v_ Lo_ ⟨rfl, rfl⟩) | (refine isx_call ?_; refine k_call (h2) [1, 3] [1] [0, 2, 3] rfl rfl rfl rfl rfl rfl rfl rfl ?_; rintro v_ Lo_ ⟨rfl, rfl⟩) | refine wz ?_ | (refine wzb ?_; intro b_) | fail)
  rename_i b2
  generalize b_ = b3
  refine cx_loop (α := FSt A l r.v d) (fun x => [(0, none, .pointer (some ⟨b, 0, none⟩)), (2, none, .pointer (some ⟨b2, 0, none⟩)), (3, none, .pointer (some ⟨b3, 0, none⟩)), (4, none, .int .i64 ((d : Int) - (x.k : Nat)))])
    (fun x => [.own x.A' x.k x.c' 5 1 (bvs (rawQ l (r.v + 2) x.k)), .blk b3 (⟨1#8, (q : Nat), ⟨x.A', x.k, x.c', rawQ l (r.v + 2) x.k⟩, zeroO, 0#64⟩ : MS).cells 47, x.r'.blk b n, .blk b2 zeroS.cells 47, .ro A l.length 1 (bvs l)]) (fun x => d - x.k) ⟨0, r2, none, 0, Nat.zero_le _, hv2⟩ ⟨rfl, rfl, rfl, slot_int (by dsimp only; omega), trivial⟩ ((Gives.nilown _ _ _).trans (Gives.pick [0, 2, 1, 3, 4] (by decide) rfl)) ?_
  rintro ⟨k, r', A', c', hk, hv⟩
  dsimp only at hk hv ⊢
  repeat (first | refine wz ?_ | (refine wzb ?_; intro b_) | fail)
  refine cx_cond rfl (fun h => ?_) (fun h => ?_)
  · have hlt : k < d := by simp at h; omega
    clear h
    have yn := next_fn b n r' hl
    have hnx := r'.nx_v
    rw [hv] at yn
    have he : rawQ l (r.v + 2) (k + 1) = rawQ l (r.v + 2) k ++ [BitVec.ofInt 8 ((at_ l (r.v + 2 + k) : Nat) : Int)] := rfl
    have hln := rawQ_len l (r.v + 2) k
    repeat (first | refine wz ?_ | (refine wzb ?_; intro b_) | fail)
    refine cx_drawZ 8 [3, 5, 6] [.blk b3 (⟨1#8, (q : Nat), ⟨A', k, c', rawQ l (r.v + 2) k⟩, zeroO, 0#64⟩ : MS).cells 47] rfl (by kernel_rfl) (by kernel_rfl) (Gives.pick [1] (by decide) rfl) ?_
    repeat (first | ((first | (apply lx_u; exact rfl) | (apply lx_g; exact rfl; exact rfl)); first | (apply isy_convert; exact q_ci uk8 rfl rfl rfl) | fail) | (refine isx_call ?_; refine k_call (yn) [2, 4] [2] [0, 1, 3, 4] rfl rfl rfl rfl rfl rfl rfl rfl ?_ (hgs := fun Lo _ => (Gives.right Lo _).trans (Gives.pick [1] (by decide) rfl)); rintro v_ Lo_ ⟨rfl, rfl⟩) | refine wz ?_ | (refine wzb ?_; intro b_) | fail)
    refine lx_append (E := EV) 2 rfl rfl rfl rfl rfl rfl rfl rfl rfl rfl rfl rfl rfl (news := bvs [BitVec.ofInt 8 ((at_ l (r.v + 2 + k) : Nat) : Int)]) (fun w hm => row_blk 0 rfl rfl hm) bvs_one (by dsimp only; unfold maxLen; omega) (by show (k + _) * 1 ≤ _; omega) (fun _ _ _ => Gives.pick [3] (by decide) rfl) ?_
    intro A2 c2
    rw [← bvs_append, ← he]
    repeat (first | refine wz ?_ | (refine wzb ?_; intro b_) | fail)
    exact ⟨⟨k + 1, r'.nx, A2, c2, hlt, by rw [hnx, hv]; omega⟩, ⟨rfl, rfl, rfl, slot_int (by dsimp only; omega), trivial⟩, Gives.pick [2, 3, 1, 4, 5] (by decide) rfl, by dsimp only; omega⟩
  · obtain rfl : k = d := by simp at h; omega
    have hln := rawQ_len l (r.v + 2) k
    repeat (first | (refine isx_store ?_; refine gS 3 rfl rfl rfl rfl rfl rfl rfl rfl rfl rfl ?_) | refine wz ?_ | (refine wzb ?_; intro b_) | fail)
    exact bq_ret (ret_cell (E := EV) 3 rfl rfl rfl rfl (fun _ => Nat.le_of_ble_eq_true rfl) rfl) [_, _] (Gives.pick [2, 0] (by decide) rfl) rfl ⟨⟨1#8, (q : Nat), ⟨A', k, c', rawQ l (r.v + 2) k⟩, zeroO, 0#64⟩, r', rfl, rfl, hv, hln, by dsimp only; omega, rfl⟩
end
section
variable (b n : Nat) {A : Option Addr} {l : List B8} (r : Rd A l) (hl : l.length ≤ 9223372036854775807)
include hl
theorem event_fn : Fn Tryz.prog 71 [.pointer (some ⟨b, 0, none⟩)] [r.blk b n, .ro A l.length 1 (bvs l)] [b] (RowP (A := A) (l := l) b n (eventQ l r.v)) := by
  have h1 := key_fn b n r hl
  have h2 := small_fn b n r.nx hl
  have h3 := small_fn b n r.nx.nx hl
  rw [r.nx_v] at h2
  rw [r.nx.nx_v, r.nx_v, Nat.add_assoc] at h3
  have hv : r.nx.nx.nx.v = r.v + 3 := by rw [Rd.nx_v, Rd.nx_v, Rd.nx_v]
  have hof := eOf_fn (keyQ (at_ l r.v)) (small (at_ l (r.v + 1))) (small (at_ l (r.v + 2)))
  have hc := at_lt l (r.v + 2)
  unfold eventQ
  generalize r.nx.nx.nx = r3 at *
  generalize r.nx.nx = r2 at *
  generalize r.nx = r1 at *
  generalize at_ l (r.v + 2) = c at *
  generalize keyQ (at_ l r.v) = ky at *
  generalize small (at_ l (r.v + 1)) = s at *
  by_cases h127 : c = 127
  · subst h127
    rw [show small 127 = 127 from rfl] at h3 hof
    rw [show valueQ 127 = 9223372036854775807 from rfl]
    refine fn_enter Tryz.func71 rfl rfl (by kernel_rfl) rfl ?_; intro w0
    repeat (first | ((first | (apply lx_gt; exact rfl; exact rfl; exact rfl) | (apply lx_u; exact rfl) | (apply lx_g; exact rfl; exact rfl)); first | (apply isy_bin_eql; exact yl_true (yl_op (E := EV) rfl) (fun _ => rfl)) | fail) | (refine isx_call ?_; refine k_call (h1) [1, 2] [1] [0, 2] rfl rfl rfl rfl rfl rfl rfl rfl ?_; rintro v_ Lo_ ⟨rfl, rfl⟩) | (refine isx_call ?_; refine k_call (h2) [0, 2] [0] [1, 2] rfl rfl rfl rfl rfl rfl rfl rfl ?_; rintro v_ Lo_ ⟨rfl, rfl⟩) | (refine isx_call ?_; refine k_call (h3) [0, 2] [0] [1, 2] rfl rfl rfl rfl rfl rfl rfl rfl ?_; rintro v_ Lo_ ⟨rfl, rfl⟩) | (refine isx_call ?_; refine lx_gcallt (hof) (fun _ hm => in_nil hm) rfl rfl rfl rfl rfl rfl rfl ?_) | refine wzf ?_ | (refine wzb ?_; intro b_) | fail)
    refine cx_cond rfl (fun _ => ?_) (fun h => absurd h (by decide))
    repeat (first | refine wz ?_ | (refine wzb ?_; intro b_) | fail)
    exact bq_ret (ret_cell (E := EV) 2 rfl rfl rfl rfl (fun _ => Nat.le_of_ble_eq_true rfl) rfl) [_, _] ((Gives.nilown _ 5 1).trans (Gives.pick [2, 0] (by decide) rfl)) rfl ⟨⟨4#8, 0, nilr, ⟨1#8, ky, s, 9223372036854775807⟩, 0#64⟩, r3, rfl, rfl, hv, rfl, Nat.zero_le _, rfl⟩
  by_cases h128 : c = 128
  · subst h128
    rw [show small 128 = -128 from rfl] at h3 hof
    rw [show valueQ 128 = -9223372036854775808 from rfl]
    refine fn_enter Tryz.func71 rfl rfl (by kernel_rfl) rfl ?_; intro w0
    repeat (first | ((first | (apply lx_gt; exact rfl; exact rfl; exact rfl) | (apply lx_u; exact rfl) | (apply lx_g; exact rfl; exact rfl)); first | (apply isy_bin_eql; exact yl_false (yl_op (E := EV) rfl) (fun _ => rfl)) | fail) | (refine isx_call ?_; refine k_call (h1) [1, 2] [1] [0, 2] rfl rfl rfl rfl rfl rfl rfl rfl ?_; rintro v_ Lo_ ⟨rfl, rfl⟩) | (refine isx_call ?_; refine k_call (h2) [0, 2] [0] [1, 2] rfl rfl rfl rfl rfl rfl rfl rfl ?_; rintro v_ Lo_ ⟨rfl, rfl⟩) | (refine isx_call ?_; refine k_call (h3) [0, 2] [0] [1, 2] rfl rfl rfl rfl rfl rfl rfl rfl ?_; rintro v_ Lo_ ⟨rfl, rfl⟩) | (refine isx_call ?_; refine lx_gcallt (hof) (fun _ hm => in_nil hm) rfl rfl rfl rfl rfl rfl rfl ?_) | refine wzf ?_ | (refine wzb ?_; intro b_) | fail)
    refine cx_cond rfl (fun h => absurd h (by decide)) (fun _ => ?_)
    repeat (first | ((first | (apply lx_gt; exact rfl; exact rfl; exact rfl) | (apply lx_u; exact rfl) | (apply lx_g; exact rfl; exact rfl)); first | (apply isy_bin_eql; exact yl_true (yl_op (E := EV) rfl) (fun _ => rfl)) | fail) | refine wzf ?_ | (refine wzb ?_; intro b_) | fail)
    refine cx_cond rfl (fun _ => ?_) (fun h => absurd h (by decide))
    repeat (first | refine wz ?_ | (refine wzb ?_; intro b_) | fail)
    exact bq_ret (ret_cell (E := EV) 2 rfl rfl rfl rfl (fun _ => Nat.le_of_ble_eq_true rfl) rfl) [_, _] ((Gives.nilown _ 5 1).trans (Gives.pick [2, 0] (by decide) rfl)) rfl ⟨⟨4#8, 0, nilr, ⟨1#8, ky, s, -9223372036854775808⟩, 0#64⟩, r3, rfl, rfl, hv, rfl, Nat.zero_le _, rfl⟩
  have e1 : (small c == 127) = false := by unfold small; rw [beq_eq_false_iff_ne]; split <;> omega
  have e2 : (small c == -128) = false := by unfold small; rw [beq_eq_false_iff_ne]; split <;> omega
  have hq : valueQ c = small c := by unfold valueQ; rw [if_neg h127, if_neg h128]
  rw [hq]
  generalize small c = sc at *
  refine fn_enter Tryz.func71 rfl rfl (by kernel_rfl) rfl ?_
  intro w0
  repeat (first | ((first | (apply lx_gt; exact rfl; exact rfl; exact rfl) | (apply lx_u; exact rfl) | (apply lx_g; exact rfl; exact rfl)); first | (apply isy_bin_eql; exact yl_false (yl_op (E := EV) rfl) (fun _ => e1)) | fail) | (refine isx_call ?_; refine k_call (h1) [1, 2] [1] [0, 2] rfl rfl rfl rfl rfl rfl rfl rfl ?_; rintro v_ Lo_ ⟨rfl, rfl⟩) | (refine isx_call ?_; refine k_call (h2) [0, 2] [0] [1, 2] rfl rfl rfl rfl rfl rfl rfl rfl ?_; rintro v_ Lo_ ⟨rfl, rfl⟩) | (refine isx_call ?_; refine k_call (h3) [0, 2] [0] [1, 2] rfl rfl rfl rfl rfl rfl rfl rfl ?_; rintro v_ Lo_ ⟨rfl, rfl⟩) | (refine isx_call ?_; refine lx_gcallt (hof) (fun _ hm => in_nil hm) rfl rfl rfl rfl rfl rfl rfl ?_) | refine wzf ?_ | (refine wzb ?_; intro b_) | fail)
  refine cx_cond rfl (fun h => absurd h (by decide)) (fun _ => ?_)
  repeat (first | ((first | (apply lx_gt; exact rfl; exact rfl; exact rfl) | (apply lx_u; exact rfl) | (apply lx_g; exact rfl; exact rfl)); first | (apply isy_bin_eql; exact yl_false (yl_op (E := EV) rfl) (fun _ => e2)) | fail) | refine wzf ?_ | (refine wzb ?_; intro b_) | fail)
  refine cx_cond rfl (fun h => absurd h (by decide)) (fun _ => ?_)
  repeat (first | refine wz ?_ | (refine wzb ?_; intro b_) | fail)
  exact bq_ret (ret_cell (E := EV) 2 rfl rfl rfl rfl (fun _ => Nat.le_of_ble_eq_true rfl) rfl) [_, _] ((Gives.nilown _ 5 1).trans (Gives.pick [2, 0] (by decide) rfl)) rfl ⟨⟨4#8, 0, nilr, ⟨1#8, ky, s, sc⟩, 0#64⟩, r3, rfl, rfl, hv, rfl, Nat.zero_le _, rfl⟩
end
abbrev fvv (f : FuncId) : Value := .func (.func f) #[] #[]
abbrev tbl : List Value := [fvv 67, fvv 67, fvv 68, fvv 68, fvv 69, fvv 70, fvv 70, fvv 70, fvv 70, fvv 71, fvv 71, fvv 71, fvv 72, fvv 73, fvv 74, fvv 75]
theorem tbl_at (b n q : Nat) (hq : q < 16) {A : Option Addr} {l : List B8} (r : Rd A l) (hn : 0 < n) (hl : l.length ≤ 9223372036854775807) : ∃ f, tbl[q]? = some (fvv f) ∧ Fn Tryz.prog f [.pointer (some ⟨b, 0, none⟩)] [r.blk b n, .ro A l.length 1 (bvs l)] [b] (RowP (A := A) (l := l) b n (rowQ l n q r.v)) := by
  have : q = 0 ∨ q = 1 ∨ q = 2 ∨ q = 3 ∨ q = 4 ∨ q = 5 ∨ q = 6 ∨ q = 7 ∨ q = 8 ∨ q = 9 ∨ q = 10 ∨ q = 11 ∨ q = 12 ∨ q = 13 ∨ q = 14 ∨ q = 15 := by omega
  rcases this with rfl | rfl | rfl | rfl | rfl | rfl | rfl | rfl | rfl | rfl | rfl | rfl | rfl | rfl | rfl | rfl
  · exact ⟨_, rfl, serve_fn b n r hn hl⟩
  · exact ⟨_, rfl, serve_fn b n r hn hl⟩
  · exact ⟨_, rfl, decode_fn b n r hn hl⟩
  · exact ⟨_, rfl, decode_fn b n r hn hl⟩
  · exact ⟨_, rfl, feed_fn b n r hn hl⟩
  · exact ⟨_, rfl, ask_fn b n r hn hl⟩
  · exact ⟨_, rfl, ask_fn b n r hn hl⟩
  · exact ⟨_, rfl, ask_fn b n r hn hl⟩
  · exact ⟨_, rfl, ask_fn b n r hn hl⟩
  · exact ⟨_, rfl, event_fn b n r hl⟩
  · exact ⟨_, rfl, event_fn b n r hl⟩
  · exact ⟨_, rfl, event_fn b n r hl⟩
  · exact ⟨_, rfl, mark_fn b n r hl⟩
  · exact ⟨_, rfl, publish_fn b n r⟩
  · exact ⟨_, rfl, tick_fn b n r hl⟩
  · exact ⟨_, rfl, vacuum_fn b n r⟩
set_option maxRecDepth 100000 in
theorem step_fn (b n : Nat) {A : Option Addr} {l : List B8} (r : Rd A l) (hn : 0 < n) (hl : l.length ≤ 9223372036854775807) : Fn Tryz.prog 37 [.pointer (some ⟨b, 0, none⟩)] [r.blk b n, .ro A l.length 1 (bvs l)] [b] (RowP (A := A) (l := l) b n (stepQ l n r.v)) := by
  have h : Fn Tryz.prog 65 [.pointer (some ⟨b, 0, none⟩), .int .i64 16] [r.blk b n, .ro A l.length 1 (bvs l)] [b] fun v Lo => v = .int .i64 (at_ l r.v % 16 : Nat) ∧ Lo = [r.nx.blk b n] := by_fn b n r 16 (by decide) hl
  have hq := Nat.mod_lt (at_ l r.v) (show 0 < 16 by decide)
  unfold stepQ
  rw [← r.nx_v]
  generalize r.nx = r1 at *
  generalize at_ l r.v % 16 = q at *
  obtain ⟨f, hf, hF⟩ := tbl_at b n q hq r1 hn hl
  have hf' : tbl[0 + mulI ((q : Nat) : Int).toNat 1]? = some (fvv f) := by rw [Nat.zero_add]; exact hf
  refine fn_enter Tryz.func37 rfl rfl (by kernel_rfl) rfl ?_
  intro w0
  repeat (first | ((first | (apply lx_u; exact rfl) | (apply lx_g; exact rfl; exact rfl)); first | (apply isy_indexAddr; exact q_xp rfl rfl rfl rfl (hb := (fun _ => by omega))) | (apply isy_load; exact q_lv 1 rfl rfl rfl rfl hf') | fail) | (refine isx_call ?_; refine k_call (h) [2, 3] [2] [0, 1, 3] rfl rfl rfl rfl rfl rfl rfl rfl ?_; rintro v_ Lo_ ⟨rfl, rfl⟩) | (refine isx_call ?_; refine k_call (hF) [0, 3] [0] [1, 2, 3] rfl rfl rfl rfl rfl rfl rfl rfl ?_; rintro v_ Lo_ ⟨x, r', rfl, hx, hr', hx1, hx2, rfl⟩) | refine wz ?_ | (refine wzb ?_; intro b_) | fail)
  exact bq_ret (ret_cell (E := EV) 3 rfl rfl rfl rfl (fun _ => Nat.le_of_ble_eq_true rfl) rfl) [_, _] (Gives.pick [0, 1] (by decide) rfl) rfl ⟨x, r', rfl, hx, hr', hx1, hx2, rfl⟩
end Go.Proofs.YtmochicneilhhaaGreat.sc
