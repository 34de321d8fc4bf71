/- scripts: the reference's step. scripts: the reference's Read. -/
import Derived.Test.YtmochicneilhhaaGreatPGo
import Derived.Test.YtmochicneilhhaaGreatPTh
namespace Go.Proofs.YtmochicneilhhaaGreat.sc
open Go.RowKit Go.Proofs.YtmochicneilhhaaGreat.kit Go.Proofs.YtmochicneilhhaaGreat.pk Go.Proofs.YtmochicneilhhaaGreat.rq Go.Proofs.YtmochicneilhhaaGreat.ev Go.Proofs.YtmochicneilhhaaGreat.win
theorem tup2 {v : Value} {a b : Int} (h : a = b) : Value.tuple #[v, .int .i64 a] = .tuple #[v, .int .i64 b] := by rw [h]
/-- what the reference's step leaves -/
def RStepP (X : SP × Nat) (v : Value) (Lo : List Ck) : Prop := ∃ x : MS, v = .tuple #[x.val, .int .i64 (X.2 : Nat)] ∧ x.sp = X.1 ∧ x.r.l.length = x.r.n ∧ x.r.n ≤ 1000 ∧ Lo = [x.body]
structure GSt (m : Nat) where
  k : Nat
  A' : Option Addr
  c' : Nat
  hk : k ≤ m
attribute [local irreducible] LX CX Yl Gives RetIs Fn
attribute [local irreducible] be de fr.frm
section
variable (A : Option Addr) (n c : Nat) (l : List B8) (hl : l.length = n)
include hl
set_option maxRecDepth 100000 in
set_option maxHeartbeats 8000000 in
theorem rstep_fn (v0 : Nat) {j : Int} (hj : j = v0) (hv0 : v0 ≤ 900000) (k : Nat) (hk0 : 0 < k) : Fn Tryz.prog 35 [.slice A n c, .int .i64 j, .int .i64 k] [.ro A n 1 (bvs l)] [] (RStepP (stepQ l k v0)) := by
  subst hj
  have h1 := rat_fn (A := A) (n := n) (c := c) (l := l) v0 hl rfl
  have h2 := rat_fn (A := A) (n := n) (c := c) (l := l) (i := (v0 : Int) + 1) (v0 + 1) hl (by omega)
  have h3 := rat_fn (A := A) (n := n) (c := c) (l := l) (i := (v0 : Int) + 2) (v0 + 1 + 1) hl (by omega)
  have h4 := rat_fn (A := A) (n := n) (c := c) (l := l) (i := (v0 : Int) + 3) (v0 + 1 + 2) hl (by omega)
  have m16 : (at_ l v0 : Int).tmod 16 = ((at_ l v0 % 16 : Nat) : Int) := modN _ 16
  have mk : (at_ l (v0 + 1) : Int).tmod k = ((at_ l (v0 + 1) % k : Nat) : Int) := modN _ k
  have md : (at_ l (v0 + 1 + 1) : Int).tmod 16 = ((at_ l (v0 + 1 + 1) % 16 : Nat) : Int) := modN _ 16
  have hq16 := Nat.mod_lt (at_ l v0) (show 0 < 16 by decide)
  have c256 := at_lt l (v0 + 1)
  have d256 := at_lt l (v0 + 1 + 1)
  have e256 := at_lt l (v0 + 1 + 2)
  obtain ⟨X, hX⟩ : ∃ X, stepQ l k v0 = X := ⟨_, rfl⟩
  rw [hX]
  unfold stepQ rowQ at hX
  generalize at_ l v0 % 16 = q at *
  refine fn_enter Tryz.func35 rfl rfl (by kernel_rfl) rfl ?_
  intro w0
  repeat (first | ((first | (apply lx_u; exact rfl) | (apply lx_g; exact rfl; exact rfl)); first | (apply isy_bin_rem; exact yl_eq (q_rem rfl rfl) (fun _ => congrArg (Value.int .i64) m16)) | fail) | (refine isx_call ?_; refine k_gcall (h1) ((fun w hm => in_ro (row_ro 1 rfl hm) (in_nil hm) rfl)) rfl rfl rfl rfl rfl rfl ?_) | (refine isx_call ?_; refine k_gcall (h2) ((fun w hm => in_ro (row_ro 1 rfl hm) (in_nil hm) rfl)) rfl rfl rfl rfl rfl rfl ?_) | (refine isx_call ?_; refine k_gcall (h3) ((fun w hm => in_ro (row_ro 1 rfl hm) (in_nil hm) rfl)) rfl rfl rfl rfl rfl rfl ?_) | refine wz ?_ | (refine wzb ?_; intro b_) | fail)
  refine cx_cond rfl (fun h => ?_) (fun h => ?_)
  · have hq : q ≤ 1 := by simp at h; omega
    rw [if_pos hq] at hX
    repeat (first | ((first | (apply lx_u; exact rfl) | (apply lx_g; exact rfl; exact rfl)); first | (apply isy_bin_rem; exact yl_eq (q_rem rfl rfl) (fun _ => congrArg (Value.int .i64) mk)) | fail) | refine wz ?_ | (refine wzb ?_; intro b_) | fail)
    exact bq_ret (ret_cell_tmp (E := EV) 0 rfl rfl rfl rfl rfl (fun _ => Nat.le_of_ble_eq_true rfl) rfl) [_] ((Gives.nilown _ 5 1).trans (Gives.pick [0] (by decide) rfl)) rfl ⟨⟨3#8, _, nilr, zeroO, 0#64⟩, by rw [← hX]; exact tup2 (by show (v0 : Int) + 2 = ((v0 + 1 + 1 : Nat) : Int); omega), by rw [← hX]; rfl, rfl, Nat.zero_le _, rfl⟩
  have hq : ¬ q ≤ 1 := by simp at h; omega
  rw [if_neg hq] at hX
  clear hq h
  repeat (first | refine wz ?_ | (refine wzb ?_; intro b_) | fail)
  refine cx_cond rfl (fun h => ?_) (fun h => ?_)
  · have hq : q ≤ 3 := by simp at h; omega
    rw [if_pos hq] at hX
    repeat (first | ((first | (apply lx_u; exact rfl) | (apply lx_g; exact rfl; exact rfl)); first | (apply isy_bin_rem; exact yl_eq (q_rem rfl rfl) (fun _ => congrArg (Value.int .i64) mk)) | fail) | refine wz ?_ | (refine wzb ?_; intro b_) | fail)
    exact bq_ret (ret_cell_tmp (E := EV) 0 rfl rfl rfl rfl rfl (fun _ => Nat.le_of_ble_eq_true rfl) rfl) [_] ((Gives.nilown _ 5 1).trans (Gives.pick [0] (by decide) rfl)) rfl ⟨⟨2#8, _, nilr, zeroO, 0#64⟩, by rw [← hX]; exact tup2 (by show (v0 : Int) + 2 = ((v0 + 1 + 1 : Nat) : Int); omega), by rw [← hX]; rfl, rfl, Nat.zero_le _, rfl⟩
  have hq : ¬ q ≤ 3 := by simp at h; omega
  rw [if_neg hq] at hX
  clear hq h
  repeat (first | refine wz ?_ | (refine wzb ?_; intro b_) | fail)
  refine cx_cond rfl (fun h => ?_) (fun h => ?_)
  · have hq : q = 4 := by simp at h; omega
    rw [if_pos hq] at hX
    repeat (first | ((first | (apply lx_u; exact rfl) | (apply lx_g; exact rfl; exact rfl)); first | (apply isy_bin_rem; exact yl_eq (q_rem rfl rfl) (fun _ => congrArg (Value.int .i64) mk)) | fail) | refine wz ?_ | (refine wzb ?_; intro b_) | fail)
    rename_i b6
    generalize b_ = b11
    unfold feedQ at hX
    have hd := Nat.mod_lt (at_ l (v0 + 1 + 1)) (show 0 < 16 by decide)
    generalize at_ l (v0 + 1 + 1) % 16 = m at *
    generalize at_ l (v0 + 1 + 1) = d at *
    generalize at_ l (v0 + 1) % k = ck at *
    refine cx_loop (α := GSt m) (fun x => [(0, none, .slice A n c), (1, none, .int .i64 v0), (6, none, .pointer (some ⟨b6, 0, none⟩)), (10, none, .int .i64 d), (11, none, .pointer (some ⟨b11, 0, none⟩)), (12, none, .int .i64 x.k)])
      (fun x => [.own x.A' x.k x.c' 5 1 (bvs (rawQ l (v0 + 1 + 2) x.k)), .blk b11 (⟨1#8, (ck : Nat), ⟨x.A', x.k, x.c', rawQ l (v0 + 1 + 2) x.k⟩, zeroO, 0#64⟩ : MS).cells 68, .blk b6 zeroS.cells 68, .ro A n 1 (bvs l)]) (fun x => m - x.k) ⟨0, none, 0, Nat.zero_le _⟩ ⟨rfl, rfl, rfl, rfl, rfl, rfl, trivial⟩ ((Gives.nilown _ _ _).trans (Gives.pick [0, 1, 2, 3] (by decide) rfl)) ?_
    rintro ⟨i, A', c', hi⟩
    dsimp only at hi ⊢
    have hln := rawQ_len l (v0 + 1 + 2) i
    repeat (first | ((first | (apply lx_u; exact rfl) | (apply lx_g; exact rfl; exact rfl)); first | (apply isy_bin_rem; exact yl_eq (q_rem rfl rfl) (fun _ => congrArg (Value.int .i64) md)) | fail) | refine wz ?_ | (refine wzb ?_; intro b_) | fail)
    refine cx_cond rfl (fun h => ?_) (fun h => ?_)
    · have hlt : i < m := by simp at h; omega
      clear h
      have h5 := rat_fn (A := A) (n := n) (c := c) (l := l) (i := (v0 : Int) + 3 + i) (v0 + 1 + 2 + i) hl (by omega)
      have he : rawQ l (v0 + 1 + 2) (i + 1) = rawQ l (v0 + 1 + 2) i ++ [BitVec.ofInt 8 ((at_ l (v0 + 1 + 2 + i) : Nat) : Int)] := rfl
      repeat (first | refine wz ?_ | (refine wzb ?_; intro b_) | fail)
      refine cx_drawZ 12 [7, 9, 10] [.blk b11 (⟨1#8, (ck : Nat), ⟨A', i, c', rawQ l (v0 + 1 + 2) i⟩, zeroO, 0#64⟩ : MS).cells 68] rfl (by kernel_rfl) (by kernel_rfl) (Gives.pick [1] (by decide) rfl) ?_
      repeat (first | ((first | (apply lx_u; exact rfl) | (apply lx_g; exact rfl; exact rfl)); first | (apply isy_convert; exact q_ci uk8 rfl rfl rfl) | fail) | (refine isx_call ?_; refine k_gcall (h5) ((fun w hm => in_ro (row_ro 3 rfl hm) (in_nil hm) rfl)) rfl rfl rfl rfl rfl rfl ?_) | refine wz ?_ | (refine wzb ?_; intro b_) | fail)
      refine lx_append (E := EV) 1 rfl rfl rfl rfl rfl rfl rfl rfl rfl rfl rfl rfl rfl (news := bvs [BitVec.ofInt 8 ((at_ l (v0 + 1 + 2 + i) : Nat) : Int)]) (fun w hm => row_blk 0 rfl rfl hm) bvs_one (by dsimp only; unfold maxLen; omega) (by show (i + _) * 1 ≤ _; omega) (fun _ _ _ => Gives.pick [2] (by decide) rfl) ?_
      intro A2 c2
      rw [← bvs_append, ← he]
      repeat (first | refine wz ?_ | (refine wzb ?_; intro b_) | fail)
      exact ⟨⟨i + 1, A2, c2, hlt⟩, ⟨rfl, rfl, rfl, rfl, rfl, slot_int (by dsimp only; omega), trivial⟩, Gives.pick [1, 2, 3, 4] (by decide) rfl, by dsimp only; omega⟩
    · obtain rfl : i = m := by simp at h; omega
      repeat (first | ((first | (apply lx_u; exact rfl) | (apply lx_g; exact rfl; exact rfl)); first | (apply isy_bin_rem; exact yl_eq (q_rem rfl rfl) (fun _ => congrArg (Value.int .i64) md)) | fail) | refine wz ?_ | (refine wzb ?_; intro b_) | fail)
      exact bq_ret (ret_cell_tmp (E := EV) 2 rfl rfl rfl rfl rfl (fun _ => Nat.le_of_ble_eq_true rfl) rfl) [_] (Gives.pick [0] (by decide) rfl) rfl ⟨⟨1#8, (ck : Nat), ⟨A', i, c', rawQ l (v0 + 1 + 2) i⟩, zeroO, 0#64⟩, by rw [← hX]; exact tup2 (by show (v0 : Int) + 3 + (i : Nat) = ((v0 + 1 + 2 + i : Nat) : Int); omega), by rw [← hX]; rfl, hln, by dsimp only; omega, rfl⟩
  have hq : ¬ q = 4 := by simp at h; omega
  rw [if_neg hq] at hX
  clear hq h
  repeat (first | refine wz ?_ | (refine wzb ?_; intro b_) | fail)
  refine cx_cond rfl (fun h => ?_) (fun h => ?_)
  · have hq : q ≤ 8 := by simp at h; omega
    rw [if_pos hq] at hX
    have hr := rrequest_fn A n c l hl (v0 + 1 + 1) (j := (v0 : Int) + 2) (by omega) (by omega)
    have hf := rframe_fn (reqQ l (v0 + 1 + 1)).1
    have hle := frameQ_le (reqQ l (v0 + 1 + 1)).1
    unfold askQ at hX
    generalize reqQ l (v0 + 1 + 1) = q2 at *
    generalize frameQ q2.1 = u at *
    repeat (first | (refine isx_call ?_; refine k_gcall (hr) ((fun w hm => in_ro (row_ro 1 rfl hm) (in_nil hm) rfl)) rfl rfl rfl rfl rfl rfl ?_) | refine wz ?_ | (refine wzb ?_; intro b_) | fail)
    refine cx_draw [4, 7] [.blk b_ q2.1.cells 53] rfl (by kernel_rfl) (Gives.pick [0] (by decide) rfl) ?_
    repeat (first | ((first | (apply lx_u; exact rfl) | (apply lx_g; exact rfl; exact rfl)); first | (apply isy_bin_rem; exact yl_eq (q_rem rfl rfl) (fun _ => congrArg (Value.int .i64) mk)) | fail) | (refine isx_call ?_; refine k_call hf [] [] [0, 1, 2] rfl rfl rfl rfl rfl rfl rfl rfl ?_ (hgs := fun Lo _ => (Gives.right Lo _).trans (Gives.pick [0] (by decide) rfl)); rintro v_ Lo_ ⟨A2, c2, rfl, rfl⟩) | (refine isx_store ?_; refine gS 2 rfl rfl rfl rfl rfl rfl rfl rfl rfl rfl ?_ (hgs := fun _ => Gives.pick [1] (by decide) rfl)) | refine wz ?_ | (refine wzb ?_; intro b_) | fail)
    exact bq_ret (ret_cell_tmp (E := EV) 2 rfl rfl rfl rfl rfl (fun _ => Nat.le_of_ble_eq_true rfl) rfl) [_] (Gives.pick [0] (by decide) rfl) rfl ⟨⟨1#8, _, ⟨A2, u.length, c2, u⟩, zeroO, 0#64⟩, by rw [← hX]; exact tup2 (by rfl), by rw [← hX]; rfl, rfl, by dsimp only; omega, rfl⟩
  have hq : ¬ q ≤ 8 := by simp at h; omega
  rw [if_neg hq] at hX
  clear hq h
  repeat (first | refine wz ?_ | (refine wzb ?_; intro b_) | fail)
  refine cx_cond rfl (fun h => ?_) (fun h => ?_)
  · have hq : q ≤ 11 := by simp at h; omega
    rw [if_pos hq] at hX
    have hle := rletter_fn (at_ l (v0 + 1)) rfl
    have hs := rsmall_fn (at_ l (v0 + 1 + 1)) rfl d256
    have hv := rvalue_fn (at_ l (v0 + 1 + 2)) rfl e256
    repeat (first | (refine isx_call ?_; refine k_gcall (hle) (fun _ hm => in_nil hm) rfl rfl rfl rfl rfl rfl ?_) | (refine isx_call ?_; refine k_gcall (hs) (fun _ hm => in_nil hm) rfl rfl rfl rfl rfl rfl ?_) | (refine isx_call ?_; refine k_gcall (h4) ((fun w hm => in_ro (row_ro 1 rfl hm) (in_nil hm) rfl)) rfl rfl rfl rfl rfl rfl ?_) | (refine isx_call ?_; refine k_gcall (hv) (fun _ hm => in_nil hm) rfl rfl rfl rfl rfl rfl ?_) | refine wz ?_ | (refine wzb ?_; intro b_) | fail)
    exact bq_ret (ret_cell_tmp (E := EV) 0 rfl rfl rfl rfl rfl (fun _ => Nat.le_of_ble_eq_true rfl) rfl) [_] ((Gives.nilown _ 5 1).trans (Gives.pick [0] (by decide) rfl)) rfl ⟨⟨4#8, 0, nilr, ⟨1#8, _, _, _⟩, 0#64⟩, by rw [← hX]; exact tup2 (by show (v0 : Int) + 4 = ((v0 + 1 + 3 : Nat) : Int); omega), by rw [← hX]; rfl, rfl, Nat.zero_le _, rfl⟩
  have hq : ¬ q ≤ 11 := by simp at h; omega
  rw [if_neg hq] at hX
  clear hq h
  repeat (first | refine wz ?_ | (refine wzb ?_; intro b_) | fail)
  refine cx_cond rfl (fun h => ?_) (fun h => ?_)
  · have hq : q = 12 := by simp at h; omega
    rw [if_pos hq] at hX
    have hs := rsmall_fn (at_ l (v0 + 1)) rfl c256
    repeat (first | (refine isx_call ?_; refine k_gcall (hs) (fun _ hm => in_nil hm) rfl rfl rfl rfl rfl rfl ?_) | refine wz ?_ | (refine wzb ?_; intro b_) | fail)
    exact bq_ret (ret_cell_tmp (E := EV) 0 rfl rfl rfl rfl rfl (fun _ => Nat.le_of_ble_eq_true rfl) rfl) [_] ((Gives.nilown _ 5 1).trans (Gives.pick [0] (by decide) rfl)) rfl ⟨⟨4#8, 0, nilr, ⟨2#8, [], _, 0⟩, 0#64⟩, by rw [← hX]; exact tup2 (by show (v0 : Int) + 2 = ((v0 + 1 + 1 : Nat) : Int); omega), by rw [← hX]; rfl, rfl, Nat.zero_le _, rfl⟩
  have hq : ¬ q = 12 := by simp at h; omega
  rw [if_neg hq] at hX
  clear hq h
  repeat (first | refine wz ?_ | (refine wzb ?_; intro b_) | fail)
  refine cx_cond rfl (fun h => ?_) (fun h => ?_)
  · have hq : q = 13 := by simp at h; omega
    rw [if_pos hq] at hX
    repeat (first | refine wz ?_ | (refine wzb ?_; intro b_) | fail)
    exact bq_ret (ret_cell_tmp (E := EV) 0 rfl rfl rfl rfl rfl (fun _ => Nat.le_of_ble_eq_true rfl) rfl) [_] ((Gives.nilown _ 5 1).trans (Gives.pick [0] (by decide) rfl)) rfl ⟨⟨5#8, 0, nilr, zeroO, 0#64⟩, by rw [← hX]; exact tup2 (by show (v0 : Int) + 1 = ((v0 + 1 : Nat) : Int); omega), by rw [← hX]; rfl, rfl, Nat.zero_le _, rfl⟩
  have hq : ¬ q = 13 := by simp at h; omega
  rw [if_neg hq] at hX
  clear hq h
  repeat (first | refine wz ?_ | (refine wzb ?_; intro b_) | fail)
  refine cx_cond rfl (fun h => ?_) (fun h => ?_)
  · have hq : q = 14 := by simp at h; omega
    rw [if_pos hq] at hX
    repeat (first | ((first | (apply lx_u; exact rfl) | (apply lx_g; exact rfl; exact rfl)); first | (apply isy_convert; exact q_ci uk64 rfl rfl rfl) | fail) | refine wz ?_ | (refine wzb ?_; intro b_) | fail)
    exact bq_ret (ret_cell_tmp (E := EV) 0 rfl rfl rfl rfl rfl (fun _ => Nat.le_of_ble_eq_true rfl) rfl) [_] ((Gives.nilown _ 5 1).trans (Gives.pick [0] (by decide) rfl)) rfl ⟨⟨6#8, 0, nilr, zeroO, BitVec.ofInt 64 ((at_ l (v0 + 1) : Nat) : Int)⟩, by rw [← hX]; exact tup2 (by show (v0 : Int) + 2 = ((v0 + 1 + 1 : Nat) : Int); omega), by rw [← hX]; rfl, rfl, Nat.zero_le _, rfl⟩
  have hq : ¬ q = 14 := by simp at h; omega
  rw [if_neg hq] at hX
  clear hq h
  repeat (first | refine wz ?_ | (refine wzb ?_; intro b_) | fail)
  exact bq_ret (ret_cell_tmp (E := EV) 0 rfl rfl rfl rfl rfl (fun _ => Nat.le_of_ble_eq_true rfl) rfl) [_] ((Gives.nilown _ 5 1).trans (Gives.pick [0] (by decide) rfl)) rfl ⟨⟨7#8, 0, nilr, zeroO, 0#64⟩, by rw [← hX]; exact tup2 (by show (v0 : Int) + 1 = ((v0 + 1 : Nat) : Int); omega), by rw [← hX]; rfl, rfl, Nat.zero_le _, rfl⟩
end
end Go.Proofs.YtmochicneilhhaaGreat.sc
namespace Go.Proofs.YtmochicneilhhaaGreat.sc
open Go.RowKit Go.Proofs.YtmochicneilhhaaGreat.kit Go.Proofs.YtmochicneilhhaaGreat.pk Go.Proofs.YtmochicneilhhaaGreat.rq Go.Proofs.YtmochicneilhhaaGreat.ev Go.Proofs.YtmochicneilhhaaGreat.win
attribute [local irreducible] LX CX Yl Gives RetIs Fn
attribute [local irreducible] be de fr.frm
end Go.Proofs.YtmochicneilhhaaGreat.sc
