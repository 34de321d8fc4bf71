/- scripts: the reference's step. scripts: the reference's Read. scripts: steps compared, named, and copied. -/
import Derived.Test.YtmochicneilhhaaGreatPGo
import Derived.Test.YtmochicneilhhaaGreatPTh
namespace Go.Proofs.YtmochicneilhhaaGreat.sc
open Go.RowKit Go.Proofs.YtmochicneilhhaaGreat.kit Go.Proofs.YtmochicneilhhaaGreat.pk Go.Proofs.YtmochicneilhhaaGreat.rq Go.Proofs.YtmochicneilhhaaGreat.ev Go.Proofs.YtmochicneilhhaaGreat.win
theorem tup2 {v : Value} {a b : Int} (h : a = b) : Value.tuple #[v, .int .i64 a] = .tuple #[v, .int .i64 b] := by rw [h]
/-- what the reference's step leaves -/
def RStepP (X : SP × Nat) (v : Value) (Lo : List Ck) : Prop := ∃ x : MS, v = .tuple #[x.val, .int .i64 (X.2 : Nat)] ∧ x.sp = X.1 ∧ x.r.l.length = x.r.n ∧ x.r.n ≤ 1000 ∧ Lo = [x.body]
structure GSt (m : Nat) where
  k : Nat
  A' : Option Addr
  c' : Nat
  hk : k ≤ m
attribute [local irreducible] LX CX Yl Gives RetIs Fn
attribute [local irreducible] be de fr.frm
section
variable (A : Option Addr) (n c : Nat) (l : List B8) (hl : l.length = n)
include hl
set_option maxRecDepth 100000 in
set_option maxHeartbeats 8000000 in
theorem rstep_fn (v0 : Nat) {j : Int} (hj : j = v0) (hv0 : v0 ≤ 900000) (k : Nat) (hk0 : 0 < k) : Fn Tryz.prog 35 [.slice A n c, .int .i64 j, .int .i64 k] [.ro A n 1 (bvs l)] [] (RStepP (stepQ l k v0)) := by
  subst hj
  have h1 := rat_fn (A := A) (n := n) (c := c) (l := l) v0 hl rfl
  have h2 := rat_fn (A := A) (n := n) (c := c) (l := l) (i := (v0 : Int) + 1) (v0 + 1) hl (by omega)
  have h3 := rat_fn (A := A) (n := n) (c := c) (l := l) (i := (v0 : Int) + 2) (v0 + 1 + 1) hl (by omega)
  have h4 := rat_fn (A := A) (n := n) (c := c) (l := l) (i := (v0 : Int) + 3) (v0 + 1 + 2) hl (by omega)
  have m16 : (at_ l v0 : Int).tmod 16 = ((at_ l v0 % 16 : Nat) : Int) := modN _ 16
  have mk : (at_ l (v0 + 1) : Int).tmod k = ((at_ l (v0 + 1) % k : Nat) : Int) := modN _ k
  have md : (at_ l (v0 + 1 + 1) : Int).tmod 16 = ((at_ l (v0 + 1 + 1) % 16 : Nat) : Int) := modN _ 16
  have hq16 := Nat.mod_lt (at_ l v0) (show 0 < 16 by decide)
  have c256 := at_lt l (v0 + 1)
  have d256 := at_lt l (v0 + 1 + 1)
  have e256 := at_lt l (v0 + 1 + 2)
  obtain ⟨X, hX⟩ : ∃ X, stepQ l k v0 = X := ⟨_, rfl⟩
  rw [hX]
  unfold stepQ rowQ at hX
  generalize at_ l v0 % 16 = q at *
  refine fn_enter Tryz.func35 rfl rfl (by kernel_rfl) rfl ?_
  intro w0
  repeat (first | ((first | (apply lx_u; exact rfl) | (apply lx_g; exact rfl; exact rfl)); first | (apply isy_bin_rem; exact yl_eq (q_rem rfl rfl) (fun _ => congrArg (Value.int .i64) m16)) | fail) | (refine isx_call ?_; refine k_gcall (h1) ((fun w hm => in_ro (row_ro 1 rfl hm) (in_nil hm) rfl)) rfl rfl rfl rfl rfl rfl ?_) | (refine isx_call ?_; refine k_gcall (h2) ((fun w hm => in_ro (row_ro 1 rfl hm) (in_nil hm) rfl)) rfl rfl rfl rfl rfl rfl ?_) | (refine isx_call ?_; refine k_gcall (h3) ((fun w hm => in_ro (row_ro 1 rfl hm) (in_nil hm) rfl)) rfl rfl rfl rfl rfl rfl ?_) | refine wz ?_ | (refine wzb ?_; intro b_) | fail)
  refine cx_cond rfl (fun h => ?_) (fun h => ?_)
  · have hq : q ≤ 1 := by simp at h; omega
    rw [if_pos hq] at hX
    repeat (first | ((first | (apply lx_u; exact rfl) | (apply lx_g; exact rfl; exact rfl)); first | (apply isy_bin_rem; exact yl_eq (q_rem rfl rfl) (fun _ => congrArg (Value.int .i64) mk)) | fail) | refine wz ?_ | (refine wzb ?_; intro b_) | fail)
    exact bq_ret (ret_cell_tmp (E := EV) 0 rfl rfl rfl rfl rfl (fun _ => Nat.le_of_ble_eq_true rfl) rfl) [_] ((Gives.nilown _ 5 1).trans (Gives.pick [0] (by decide) rfl)) rfl ⟨⟨3#8, _, nilr, zeroO, 0#64⟩, by rw [← hX]; exact tup2 (by show (v0 : Int) + 2 = ((v0 + 1 + 1 : Nat) : Int); omega), by rw [← hX]; rfl, rfl, Nat.zero_le _, rfl⟩
  have hq : ¬ q ≤ 1 := by simp at h; omega
  rw [if_neg hq] at hX
  clear hq h
  repeat (first | refine wz ?_ | (refine wzb ?_; intro b_) | fail)
  refine cx_cond rfl (fun h => ?_) (fun h => ?_)
  · have hq : q ≤ 3 := by simp at h; omega
    rw [if_pos hq] at hX
    repeat (first | ((first | (apply lx_u; exact rfl) | (apply lx_g; exact rfl; exact rfl)); first | (apply isy_bin_rem; exact yl_eq (q_rem rfl rfl) (fun _ => congrArg (Value.int .i64) mk)) | fail) | refine wz ?_ | (refine wzb ?_; intro b_) | fail)
    exact bq_ret (ret_cell_tmp (E := EV) 0 rfl rfl rfl rfl rfl (fun _ => Nat.le_of_ble_eq_true rfl) rfl) [_] ((Gives.nilown _ 5 1).trans (Gives.pick [0] (by decide) rfl)) rfl ⟨⟨2#8, _, nilr, zeroO, 0#64⟩, by rw [← hX]; exact tup2 (by show (v0 : Int) + 2 = ((v0 + 1 + 1 : Nat) : Int); omega), by rw [← hX]; rfl, rfl, Nat.zero_le _, rfl⟩
  have hq : ¬ q ≤ 3 := by simp at h; omega
  rw [if_neg hq] at hX
  clear hq h
  repeat (first | refine wz ?_ | (refine wzb ?_; intro b_) | fail)
  refine cx_cond rfl (fun h => ?_) (fun h => ?_)
  · have hq : q = 4 := by simp at h; omega
    rw [if_pos hq] at hX
    repeat (first | ((first | (apply lx_u; exact rfl) | (apply lx_g; exact rfl; exact rfl)); first | (apply isy_bin_rem; exact yl_eq (q_rem rfl rfl) (fun _ => congrArg (Value.int .i64) mk)) | fail) | refine wz ?_ | (refine wzb ?_; intro b_) | fail)
    rename_i b6
    generalize b_ = b11
    unfold feedQ at hX
    have hd := Nat.mod_lt (at_ l (v0 + 1 + 1)) (show 0 < 16 by decide)
    generalize at_ l (v0 + 1 + 1) % 16 = m at *
    generalize at_ l (v0 + 1 + 1) = d at *
    generalize at_ l (v0 + 1) % k = ck at *
    refine cx_loop (α := GSt m) (fun x => [(0, none, .slice A n c), (1, none, .int .i64 v0), (6, none, .pointer (some ⟨b6, 0, none⟩)), (10, none, .int .i64 d), (11, none, .pointer (some ⟨b11, 0, none⟩)), (12, none, .int .i64 x.k)])
      (fun x => [.own x.A' x.k x.c' 5 1 (bvs (rawQ l (v0 + 1 + 2) x.k)), .blk b11 (⟨1#8, (ck : Nat), ⟨x.A', x.k, x.c', rawQ l (v0 + 1 + 2) x.k⟩, zeroO, 0#64⟩ : MS).cells 68, .blk b6 zeroS.cells 68, .ro A n 1 (bvs l)]) (fun x => m - x.k) ⟨0, none, 0, Nat.zero_le _⟩ ⟨rfl, rfl, rfl, rfl, rfl, rfl, trivial⟩ ((Gives.nilown _ _ _).trans (Gives.pick [0, 1, 2, 3] (by decide) rfl)) ?_
    rintro ⟨i, A', c', hi⟩
    dsimp only at hi ⊢
    have hln := rawQ_len l (v0 + 1 + 2) i
    repeat (first | ((first | (apply lx_u; exact rfl) | (apply lx_g; exact rfl; exact rfl)); first | (apply isy_bin_rem; exact yl_eq (q_rem rfl rfl) (fun _ => congrArg (Value.int .i64) md)) | fail) | refine wz ?_ | (refine wzb ?_; intro b_) | fail)
    refine cx_cond rfl (fun h => ?_) (fun h => ?_)
    · have hlt : i < m := by simp at h; omega
      clear h
      have h5 := rat_fn (A := A) (n := n) (c := c) (l := l) (i := (v0 : Int) + 3 + i) (v0 + 1 + 2 + i) hl (by omega)
      have he : rawQ l (v0 + 1 + 2) (i + 1) = rawQ l (v0 + 1 + 2) i ++ [BitVec.ofInt 8 ((at_ l (v0 + 1 + 2 + i) : Nat) : Int)] := rfl
      repeat (first | refine wz ?_ | (refine wzb ?_; intro b_) | fail)
      refine cx_drawZ 12 [7, 9, 10] [.blk b11 (⟨1#8, (ck : Nat), ⟨A', i, c', rawQ l (v0 + 1 + 2) i⟩, zeroO, 0#64⟩ : MS).cells 68] rfl (by kernel_rfl) (by kernel_rfl) (Gives.pick [1] (by decide) rfl) ?_
      repeat (first | ((first | (apply lx_u; exact rfl) | (apply lx_g; exact rfl; exact rfl)); first | (apply isy_convert; exact q_ci uk8 rfl rfl rfl) | fail) | (refine isx_call ?_; refine k_gcall (h5) ((fun w hm => in_ro (row_ro 3 rfl hm) (in_nil hm) rfl)) rfl rfl rfl rfl rfl rfl ?_) | refine wz ?_ | (refine wzb ?_; intro b_) | fail)
      refine lx_append (E := EV) 1 rfl rfl rfl rfl rfl rfl rfl rfl rfl rfl rfl rfl rfl (news := bvs [BitVec.ofInt 8 ((at_ l (v0 + 1 + 2 + i) : Nat) : Int)]) (fun w hm => row_blk 0 rfl rfl hm) bvs_one (by dsimp only; unfold maxLen; omega) (by show (i + _) * 1 ≤ _; omega) (fun _ _ _ => Gives.pick [2] (by decide) rfl) ?_
      intro A2 c2
      rw [← bvs_append, ← he]
      repeat (first | refine wz ?_ | (refine wzb ?_; intro b_) | fail)
      exact ⟨⟨i + 1, A2, c2, hlt⟩, ⟨rfl, rfl, rfl, rfl, rfl, slot_int (by dsimp only; omega), trivial⟩, Gives.pick [1, 2, 3, 4] (by decide) rfl, by dsimp only; omega⟩
    · obtain rfl : i = m := by simp at h; omega
      repeat (first | ((first | (apply lx_u; exact rfl) | (apply lx_g; exact rfl; exact rfl)); first | (apply isy_bin_rem; exact yl_eq (q_rem rfl rfl) (fun _ => congrArg (Value.int .i64) md)) | fail) | refine wz ?_ | (refine wzb ?_; intro b_) | fail)
      exact bq_ret (ret_cell_tmp (E := EV) 2 rfl rfl rfl rfl rfl (fun _ => Nat.le_of_ble_eq_true rfl) rfl) [_] (Gives.pick [0] (by decide) rfl) rfl ⟨⟨1#8, (ck : Nat), ⟨A', i, c', rawQ l (v0 + 1 + 2) i⟩, zeroO, 0#64⟩, by rw [← hX]; exact tup2 (by show (v0 : Int) + 3 + (i : Nat) = ((v0 + 1 + 2 + i : Nat) : Int); omega), by rw [← hX]; rfl, hln, by dsimp only; omega, rfl⟩
  have hq : ¬ q = 4 := by simp at h; omega
  rw [if_neg hq] at hX
  clear hq h
  repeat (first | refine wz ?_ | (refine wzb ?_; intro b_) | fail)
  refine cx_cond rfl (fun h => ?_) (fun h => ?_)
  · have hq : q ≤ 8 := by simp at h; omega
    rw [if_pos hq] at hX
    have hr := rrequest_fn A n c l hl (v0 + 1 + 1) (j := (v0 : Int) + 2) (by omega) (by omega)
    have hf := rframe_fn (reqQ l (v0 + 1 + 1)).1
    have hle := frameQ_le (reqQ l (v0 + 1 + 1)).1
    unfold askQ at hX
    generalize reqQ l (v0 + 1 + 1) = q2 at *
    generalize frameQ q2.1 = u at *
    repeat (first | (refine isx_call ?_; refine k_gcall (hr) ((fun w hm => in_ro (row_ro 1 rfl hm) (in_nil hm) rfl)) rfl rfl rfl rfl rfl rfl ?_) | refine wz ?_ | (refine wzb ?_; intro b_) | fail)
    refine cx_draw [4, 7] [.blk b_ q2.1.cells 53] rfl (by kernel_rfl) (Gives.pick [0] (by decide) rfl) ?_
    repeat (first | ((first | (apply lx_u; exact rfl) | (apply lx_g; exact rfl; exact rfl)); first | (apply isy_bin_rem; exact yl_eq (q_rem rfl rfl) (fun _ => congrArg (Value.int .i64) mk)) | fail) | (refine isx_call ?_; refine k_call hf [] [] [0, 1, 2] rfl rfl rfl rfl rfl rfl rfl rfl ?_ (hgs := fun Lo _ => (Gives.right Lo _).trans (Gives.pick [0] (by decide) rfl)); rintro v_ Lo_ ⟨A2, c2, rfl, rfl⟩) | (refine isx_store ?_; refine gS 2 rfl rfl rfl rfl rfl rfl rfl rfl rfl rfl ?_ (hgs := fun _ => Gives.pick [1] (by decide) rfl)) | refine wz ?_ | (refine wzb ?_; intro b_) | fail)
    exact bq_ret (ret_cell_tmp (E := EV) 2 rfl rfl rfl rfl rfl (fun _ => Nat.le_of_ble_eq_true rfl) rfl) [_] (Gives.pick [0] (by decide) rfl) rfl ⟨⟨1#8, _, ⟨A2, u.length, c2, u⟩, zeroO, 0#64⟩, by rw [← hX]; exact tup2 (by rfl), by rw [← hX]; rfl, rfl, by dsimp only; omega, rfl⟩
  have hq : ¬ q ≤ 8 := by simp at h; omega
  rw [if_neg hq] at hX
  clear hq h
  repeat (first | refine wz ?_ | (refine wzb ?_; intro b_) | fail)
  refine cx_cond rfl (fun h => ?_) (fun h => ?_)
  · have hq : q ≤ 11 := by simp at h; omega
    rw [if_pos hq] at hX
    have hle := rletter_fn (at_ l (v0 + 1)) rfl
    have hs := rsmall_fn (at_ l (v0 + 1 + 1)) rfl d256
    have hv := rvalue_fn (at_ l (v0 + 1 + 2)) rfl e256
    repeat (first | (refine isx_call ?_; refine k_gcall (hle) (fun _ hm => in_nil hm) rfl rfl rfl rfl rfl rfl ?_) | (refine isx_call ?_; refine k_gcall (hs) (fun _ hm => in_nil hm) rfl rfl rfl rfl rfl rfl ?_) | (refine isx_call ?_; refine k_gcall (h4) ((fun w hm => in_ro (row_ro 1 rfl hm) (in_nil hm) rfl)) rfl rfl rfl rfl rfl rfl ?_) | (refine isx_call ?_; refine k_gcall (hv) (fun _ hm => in_nil hm) rfl rfl rfl rfl rfl rfl ?_) | refine wz ?_ | (refine wzb ?_; intro b_) | fail)
    exact bq_ret (ret_cell_tmp (E := EV) 0 rfl rfl rfl rfl rfl (fun _ => Nat.le_of_ble_eq_true rfl) rfl) [_] ((Gives.nilown _ 5 1).trans (Gives.pick [0] (by decide) rfl)) rfl ⟨⟨4#8, 0, nilr, ⟨1#8, _, _, _⟩, 0#64⟩, by rw [← hX]; exact tup2 (by show (v0 : Int) + 4 = ((v0 + 1 + 3 : Nat) : Int); omega), by rw [← hX]; rfl, rfl, Nat.zero_le _, rfl⟩
  have hq : ¬ q ≤ 11 := by simp at h; omega
  rw [if_neg hq] at hX
  clear hq h
  repeat (first | refine wz ?_ | (refine wzb ?_; intro b_) | fail)
  refine cx_cond rfl (fun h => ?_) (fun h => ?_)
  · have hq : q = 12 := by simp at h; omega
    rw [if_pos hq] at hX
    have hs := rsmall_fn (at_ l (v0 + 1)) rfl c256
    repeat (first | (refine isx_call ?_; refine k_gcall (hs) (fun _ hm => in_nil hm) rfl rfl rfl rfl rfl rfl ?_) | refine wz ?_ | (refine wzb ?_; intro b_) | fail)
    exact bq_ret (ret_cell_tmp (E := EV) 0 rfl rfl rfl rfl rfl (fun _ => Nat.le_of_ble_eq_true rfl) rfl) [_] ((Gives.nilown _ 5 1).trans (Gives.pick [0] (by decide) rfl)) rfl ⟨⟨4#8, 0, nilr, ⟨2#8, [], _, 0⟩, 0#64⟩, by rw [← hX]; exact tup2 (by show (v0 : Int) + 2 = ((v0 + 1 + 1 : Nat) : Int); omega), by rw [← hX]; rfl, rfl, Nat.zero_le _, rfl⟩
  have hq : ¬ q = 12 := by simp at h; omega
  rw [if_neg hq] at hX
  clear hq h
  repeat (first | refine wz ?_ | (refine wzb ?_; intro b_) | fail)
  refine cx_cond rfl (fun h => ?_) (fun h => ?_)
  · have hq : q = 13 := by simp at h; omega
    rw [if_pos hq] at hX
    repeat (first | refine wz ?_ | (refine wzb ?_; intro b_) | fail)
    exact bq_ret (ret_cell_tmp (E := EV) 0 rfl rfl rfl rfl rfl (fun _ => Nat.le_of_ble_eq_true rfl) rfl) [_] ((Gives.nilown _ 5 1).trans (Gives.pick [0] (by decide) rfl)) rfl ⟨⟨5#8, 0, nilr, zeroO, 0#64⟩, by rw [← hX]; exact tup2 (by show (v0 : Int) + 1 = ((v0 + 1 : Nat) : Int); omega), by rw [← hX]; rfl, rfl, Nat.zero_le _, rfl⟩
  have hq : ¬ q = 13 := by simp at h; omega
  rw [if_neg hq] at hX
  clear hq h
  repeat (first | refine wz ?_ | (refine wzb ?_; intro b_) | fail)
  refine cx_cond rfl (fun h => ?_) (fun h => ?_)
  · have hq : q = 14 := by simp at h; omega
    rw [if_pos hq] at hX
    repeat (first | ((first | (apply lx_u; exact rfl) | (apply lx_g; exact rfl; exact rfl)); first | (apply isy_convert; exact q_ci uk64 rfl rfl rfl) | fail) | refine wz ?_ | (refine wzb ?_; intro b_) | fail)
    exact bq_ret (ret_cell_tmp (E := EV) 0 rfl rfl rfl rfl rfl (fun _ => Nat.le_of_ble_eq_true rfl) rfl) [_] ((Gives.nilown _ 5 1).trans (Gives.pick [0] (by decide) rfl)) rfl ⟨⟨6#8, 0, nilr, zeroO, BitVec.ofInt 64 ((at_ l (v0 + 1) : Nat) : Int)⟩, by rw [← hX]; exact tup2 (by show (v0 : Int) + 2 = ((v0 + 1 + 1 : Nat) : Int); omega), by rw [← hX]; rfl, rfl, Nat.zero_le _, rfl⟩
  have hq : ¬ q = 14 := by simp at h; omega
  rw [if_neg hq] at hX
  clear hq h
  repeat (first | refine wz ?_ | (refine wzb ?_; intro b_) | fail)
  exact bq_ret (ret_cell_tmp (E := EV) 0 rfl rfl rfl rfl rfl (fun _ => Nat.le_of_ble_eq_true rfl) rfl) [_] ((Gives.nilown _ 5 1).trans (Gives.pick [0] (by decide) rfl)) rfl ⟨⟨7#8, 0, nilr, zeroO, 0#64⟩, by rw [← hX]; exact tup2 (by show (v0 : Int) + 1 = ((v0 + 1 : Nat) : Int); omega), by rw [← hX]; rfl, rfl, Nat.zero_le _, rfl⟩
end
end Go.Proofs.YtmochicneilhhaaGreat.sc
namespace Go.Proofs.YtmochicneilhhaaGreat.sc
open Go.RowKit Go.Proofs.YtmochicneilhhaaGreat.kit Go.Proofs.YtmochicneilhhaaGreat.pk Go.Proofs.YtmochicneilhhaaGreat.rq Go.Proofs.YtmochicneilhhaaGreat.ev Go.Proofs.YtmochicneilhhaaGreat.win
structure QSt (l : List B8) where
  v : Nat
  xs : List MS
  A' : Option Addr
  c' : Nat
  hx : readS l (clientsQ l) 9 = xs.map MS.sp ++ readS l (clientsQ l) v
  few : xs.length + 9 ≤ v
  le : xs.length ≤ l.length
  fit : Fit xs
attribute [local irreducible] LX CX Yl Gives RetIs Fn
attribute [local irreducible] be de fr.frm
set_option maxRecDepth 100000 in
theorem rread_fn (A : Option Addr) (n c : Nat) (l0 l : List B8) (hl : l0.length = n) (hc : n ≤ c ∧ c ≤ 9223372036854775807) (hcut : l0.take 16384 = l) : Fn Tryz.prog 10 [.slice A n c] [.ro A n 1 (bvs l0)] [] (ReadP 68 l) := by
  have hll : l.length = min n 16384 := by rw [← hcut, List.length_take, hl, Nat.min_comm]
  have hn0 : 0 < clientsQ l := Nat.succ_pos _
  refine fn_enter Tryz.func10 rfl rfl (by kernel_rfl) rfl ?_
  intro w0
  repeat (first | refine wz ?_ | (refine wzb ?_; intro b_) | fail)
  generalize b_ = b2
  refine cx_to (α := Unit) (fun _ => [(0, none, .slice A l.length c), (2, none, .pointer (some ⟨b2, 0, none⟩))]) (fun _ => [.blk b2 (.int .u8 0 :: List.replicate 10 (.int .i64 0)) 28, .ro A l.length 1 (bvs l)]) ?_ (fun _ => ?_)
  · refine cx_cond rfl (fun h => ?_) (fun h => ?_)
    · have h16 : l.length = 16384 := by simp at h; omega
      have hb : (16384 : Int).toNat = l.length := by rw [h16]; rfl
      repeat (first | ((first | (apply lx_u; exact rfl) | (apply lx_g; exact rfl; exact rfl)); first | (apply isy_slice; exact q_slh rfl rfl rfl rfl) | fail) | refine wz ?_ | (refine wzb ?_; intro b_) | fail)
      refine ⟨(), ⟨by rw [← hb]; rfl, rfl, trivial⟩, ?_⟩
      rw [h16, ← hcut]
      exact (Gives.preb 1 rfl (by simp at h; omega) (by simp at h; omega)).trans (Gives.pick [1, 0] (by decide) rfl)
    · have h16 : n = l.length := by simp at h; omega
      have he : l0 = l := by rw [← hcut, List.take_of_length_le (by omega)]
      repeat (first | refine wz ?_ | (refine wzb ?_; intro b_) | fail)
      exact ⟨(), ⟨by rw [← h16]; rfl, rfl, trivial⟩, by rw [h16, he]; exact Gives.refl _⟩
  have hcf := rconfig_fn A l.length c l rfl
  repeat (first | (refine isx_call ?_; refine k_gcall (hcf) ((fun w hm => in_ro (row_ro 1 rfl hm) (in_nil hm) rfl)) rfl rfl rfl rfl rfl rfl ?_) | refine wz ?_ | (refine wzb ?_; intro b_) | fail)
  generalize b_ = b4
  refine cx_loop (α := QSt l) (fun x => [(0, none, .slice A l.length c), (2, none, .pointer (some ⟨b2, 0, none⟩)), (4, none, .pointer (some ⟨b4, 0, none⟩)), (5, none, .slice x.A' x.xs.length x.c'), (6, none, .int .i64 x.v)])
    (fun x => .own x.A' x.xs.length x.c' 68 8 (scells x.xs) :: .blk b4 (cfgL l 0) 28 :: .blk b2 (.int .u8 0 :: List.replicate 10 (.int .i64 0)) 28 :: .ro A l.length 1 (bvs l) :: sbods x.xs) (fun x => l.length - x.v)
    ⟨9, [], none, 0, rfl, Nat.le_refl _, Nat.zero_le _, fun x hx => by cases hx⟩ ⟨rfl, rfl, rfl, rfl, rfl, trivial⟩ ((Gives.nilown _ _ _).trans (Gives.pick [0, 1, 2, 3] (by decide) rfl)) ?_
  rintro ⟨v, xs, A', c', hx0, few, le, fit⟩
  dsimp only at hx0 few le fit ⊢
  repeat (first | refine wz ?_ | (refine wzb ?_; intro b_) | fail)
  refine cx_cond rfl (fun h => ?_) (fun h => ?_)
  · have hv : v < l.length := by simp at h; omega
    clear h
    have hgt := stepQ_gt l (clientsQ l) v
    rw [readS_lt hv] at hx0
    have hst := rstep_fn A l.length c l rfl v rfl (by omega) (clientsQ l) hn0
    have hcl : (cfgL l 0)[0 + 9]? = some (.int .i64 (clientsQ l : Nat)) := rfl
    repeat (first | ((first | (apply lx_u; exact rfl) | (apply lx_g; exact rfl; exact rfl)); first | (apply isy_load; exact q_lv 1 rfl rfl rfl rfl hcl) | fail) | (refine isx_call ?_; refine k_callT (hst) [_, _, _, _] ((sbods xs)) rfl [3] [] [0, 1, 2, 3] rfl rfl rfl rfl rfl rfl rfl rfl ?_; rintro v_ Lo_ ⟨x, rfl, hx, hx1, hx2, rfl⟩) | refine wz ?_ | (refine wzb ?_; intro b_) | fail)
    refine lx_append (E := EV) 3 rfl rfl rfl rfl rfl rfl rfl rfl rfl rfl rfl rfl rfl (news := x.cells) (fun w hm => row_blk 0 rfl rfl hm) (scells_one _) (by unfold maxLen; omega) (by show (_ + _) * 88 ≤ _; omega) (fun _ _ _ => trivial) ?_
    intro A2 c2
    have hlen : (xs ++ [x]).length = xs.length + 1 := by simp
    rw [← scells_push, ← hlen]
    repeat (first | refine wz ?_ | (refine wzb ?_; intro b_) | fail)
    refine ⟨⟨(stepQ l (clientsQ l) v).2, xs ++ [x], A2, c2, by rw [hx0, List.map_append, List.append_assoc, ← hx]; rfl, by rw [hlen]; omega, by rw [hlen]; omega, fit.push ⟨hx1, hx2⟩⟩, ⟨rfl, rfl, rfl, rfl, rfl, trivial⟩, ?_, by dsimp only; omega⟩
    dsimp only
    rw [sbods_push]
    exact Gives.pre [_, _, _, _, _, _, _] [3, 4, 5, 6, 2] (by decide) rfl rfl
  · have hv : ¬ v < l.length := by simp at h; omega
    rw [readS_ge hv, List.append_nil] at hx0
    repeat (first | refine wz ?_ | (refine wzb ?_; intro b_) | fail)
    exact bq_ret (ret_cell_tmp (E := EV) 2 rfl rfl rfl rfl rfl (fun _ => Nat.le_of_ble_eq_true rfl) rfl) (.own A' xs.length c' 68 8 (scells xs) :: sbods xs) (Gives.pre [_, _, _, _] [0] (by decide) rfl rfl) (by rw [List.all_cons, sbods_mut]; rfl) ⟨A', c', xs, rfl, hx0.symm, fit, by omega, rfl⟩
end Go.Proofs.YtmochicneilhhaaGreat.sc
namespace Go.Proofs.YtmochicneilhhaaGreat.sc
open Go.RowKit Go.Proofs.YtmochicneilhhaaGreat.kit Go.Proofs.YtmochicneilhhaaGreat.pk Go.Proofs.YtmochicneilhhaaGreat.rq Go.Proofs.YtmochicneilhhaaGreat.ev
def SP.eqB (a b : SP) : Bool := ((((((a.k.toNat : Int) == (b.k.toNat : Int)) && (a.cl == b.cl)) && (a.bs == b.bs)) && a.op.eqB b.op) && ((a.by_.toNat : Int) == (b.by_.toNat : Int)))
theorem eop_iff (a b : EOp) : a.eqB b = true ↔ a = b := by
  obtain ⟨k, key, t, v⟩ := a
  obtain ⟨k', key', t', v'⟩ := b
  simp only [EOp.eqB, Bool.and_eq_true, beq_iff_eq, Int.natCast_inj, BitVec.toNat_inj, EOp.mk.injEq]
theorem SP.eqB_iff (a b : SP) : a.eqB b = true ↔ a = b := by
  obtain ⟨k, cl, bs, op, by_⟩ := a
  obtain ⟨k', cl', bs', op', by'⟩ := b
  simp only [SP.eqB, Bool.and_eq_true, eop_iff, beq_iff_eq, Int.natCast_inj, BitVec.toNat_inj, SP.mk.injEq, and_assoc]
theorem SP.eqB_self (a : SP) : a.eqB a = true := (SP.eqB_iff a a).2 rfl
/-- steps that are read -/
def stP (A : Option Addr) (n : Nat) (xs : List MS) (w : World) : Prop := Row w w.heap.size 8 A n (scells xs) ∧ ∀ x ∈ xs, x.r.ok w
def stOn (A : Option Addr) (n : Nat) (xs : List MS) (g : Nat) : Prop := (n ≠ 0 ∧ A.map (·.block) = some g) ∨ ∃ x ∈ xs, x.r.n ≠ 0 ∧ x.r.A.map (·.block) = some g
theorem st_stable (A : Option Addr) (n : Nat) (xs : List MS) : Stable (stOn A n xs) (stP A n xs) := fun w h => by
  refine ⟨fun b hb => ?_, fun w' hsz hk => ⟨Row.stay h.1 hsz fun b hb => hk b (.inl hb), fun r hr => ?_⟩⟩
  · rcases hb with hb | ⟨r, hr, hb⟩
    · exact Row.lt_of h.1 hb.1 hb.2
    · exact Row.lt_of (h.2 r hr).1 hb.1 hb.2
  · obtain ⟨h1, h2⟩ := h.2 r hr
    exact ⟨Row.stay h1 hsz fun b hb => hk b (.inr ⟨r, hr, hb⟩), h2⟩
abbrev Ck.sts (A : Option Addr) (n : Nat) (xs : List MS) : Ck := .deep (stOn A n xs) (stP A n xs) (st_stable A n xs)
section
variable {L : List Ck}
theorem Gives.sts (k : Nat) {A : Option Addr} {n : Nat} {xs : List MS} (hk : L[k]? = some (Ck.sts A n xs)) : Gives L (.ro A n 8 (scells xs) :: L) := Gives.add k hk rfl rfl fun _ h => ⟨h.1, fun _ hb => .inl hb⟩
theorem Gives.stsAt (k : Nat) {A : Option Addr} {n i : Nat} {xs : List MS} {x : MS} (hk : L[k]? = some (Ck.sts A n xs)) (hi : xs[i]? = some x) : Gives L (.ro x.r.A x.r.n 1 (bvs x.r.l) :: L) :=
  Gives.add k hk rfl rfl fun _ h => ⟨(h.2 x (List.mem_of_getElem? hi)).1, fun _ hb => .inr ⟨x, List.mem_of_getElem? hi, hb⟩⟩
theorem sts_ok {M : Me} {w : World} (k : Nat) {A : Option Addr} {n i : Nat} {xs : List MS} {x : MS} (hk : L[k]? = some (Ck.sts A n xs)) (hi : xs[i]? = some x) (hm : Mem M L w) : x.r.l.length = x.r.n ∧ x.r.n ≤ x.r.c ∧ x.r.c ≤ 9223372036854775807 := by
  have h : stP A n xs w := hm.get hk
  obtain ⟨h1, h2, h3⟩ := h.2 x (List.mem_of_getElem? hi)
  have := h1.1
  rw [bvs_len] at this
  omega
theorem sts_in {w : World} {Lin : List Ck} {A : Option Addr} {m : Nat} {xs : List MS} (h : stP A m xs w) (hin : Mem ⟨w, []⟩ Lin w) (hro : Lin.all (fun c => !c.mut_) = true) : Mem ⟨w, []⟩ (Ck.sts A m xs :: Lin) w := by
  refine ⟨hin.keep, fun c hc => ?_, fun c hc hm => ?_, List.Pairwise.cons (fun c hc hm => ?_) hin.sep⟩
  · rcases List.mem_cons.1 hc with rfl | hc
    · exact h
    · exact hin.all c hc
  · rcases List.mem_cons.1 hc with rfl | hc
    · cases hm
    · exact hin.out c hc hm
  · have := List.all_eq_true.1 hro c hc
    rcases hm with hm | hm
    · cases hm
    · rw [hm] at this; cases this
theorem sbody_ok {M : Me} {w : World} {x : MS} (hc : x.body ∈ L) (hm : Mem M L w) : x.r.ok w := by
  obtain ⟨k, hk⟩ := List.getElem?_of_mem hc
  exact ⟨row_own k hk hm, own_cap k hm hk⟩
/-- of a row that is one's own, and its bytes -/
theorem sts_own {M : Me} {w : World} {A : Option Addr} {n c : Nat} {T : TypeId} {xs : List MS} (k : Nat) (hm : Mem M L w) (hk : L[k]? = some (.own A n c T 8 (scells xs))) (hb : ∀ x ∈ sbods xs, x ∈ L) : stP A n xs w :=
  ⟨row_own k hk hm, fun x hx => sbody_ok (hb _ (List.mem_map.2 ⟨x, List.mem_reverse.2 hx, rfl⟩)) hm⟩
end
theorem scells_at {xs : List MS} {i : Nat} {x : MS} (h : xs[i]? = some x) : cellsAt (scells xs) (mulI i 8) 8 = x.cells := flat_at (f := MS.cells) (m := 8) (fun _ => rfl) h
abbrev wordsL : List (List B8) := [[], [102#8, 101#8, 101#8, 100#8], [100#8, 101#8, 99#8, 111#8, 100#8, 101#8], [115#8, 101#8, 114#8, 118#8, 101#8], [105#8, 110#8, 103#8, 101#8, 115#8, 116#8], [112#8, 117#8, 98#8, 108#8, 105#8, 115#8, 104#8], [116#8, 105#8, 99#8, 107#8], [118#8, 97#8, 99#8, 117#8, 117#8, 109#8]]
abbrev wordsV : List Value := [.string (sb []), .string (sb [102#8, 101#8, 101#8, 100#8]), .string (sb [100#8, 101#8, 99#8, 111#8, 100#8, 101#8]), .string (sb [115#8, 101#8, 114#8, 118#8, 101#8]), .string (sb [105#8, 110#8, 103#8, 101#8, 115#8, 116#8]), .string (sb [112#8, 117#8, 98#8, 108#8, 105#8, 115#8, 104#8]), .string (sb [116#8, 105#8, 99#8, 107#8]), .string (sb [118#8, 97#8, 99#8, 117#8, 117#8, 109#8])]
def wordQ (k : B8) : List B8 := (wordsL[k.toNat]?).getD []
theorem words_at {k : B8} (h : k.toNat < 8) : wordsV[mulI ((k.toNat : Nat) : Int).toNat 1]? = some (.string (sb (wordQ k))) := by
  unfold wordQ
  show wordsV[k.toNat]? = _
  generalize k.toNat = q at *
  have : q = 0 ∨ q = 1 ∨ q = 2 ∨ q = 3 ∨ q = 4 ∨ q = 5 ∨ q = 6 ∨ q = 7 := by omega
  rcases this with rfl | rfl | rfl | rfl | rfl | rfl | rfl | rfl <;> rfl
attribute [local irreducible] LX CX Yl Gives RetIs Fn
attribute [local irreducible] be de fr.frm
theorem equal_fn (A A' : Option Addr) (n c n' c' : Nat) (l l' : List B8) : Fn Tryz.prog 56 [.slice A n c, .slice A' n' c'] [.ro A n 1 (bvs l), .ro A' n' 1 (bvs l')] [] fun v Lo => v = .bool (l == l') ∧ Lo = [] := by
  refine fn_enter Tryz.func56 rfl rfl (by kernel_rfl) rfl ?_
  intro w0
  repeat (first | ((first | (apply lx_u; exact rfl) | (apply lx_g; exact rfl; exact rfl)); first | (apply isy_convert; exact q_text rfl rfl rfl rfl (fun _ _ hm => row_ro 0 rfl hm)) | (apply isy_convert; exact q_text rfl rfl rfl rfl (fun _ _ hm => row_ro 1 rfl hm)) | (apply isy_bin_eql; exact q_seq l l' rfl rfl) | fail) | refine wz ?_ | (refine wzb ?_; intro b_) | fail)
  exact bq_ret (ret_tmp rfl rfl) [] (Gives.nil _) rfl ⟨rfl, rfl⟩
set_option maxRecDepth 100000 in
set_option maxHeartbeats 4000000 in
theorem same_fn (x y : MS) : Fn Tryz.prog 27 [x.val, y.val] [.ro x.r.A x.r.n 1 (bvs x.r.l), .ro y.r.A y.r.n 1 (bvs y.r.l)] [] fun v Lo => v = .bool (x.sp.eqB y.sp) ∧ Lo = [] := by
  have h := equal_fn x.r.A y.r.A x.r.n x.r.c y.r.n y.r.c x.r.l y.r.l
  refine fn_enter Tryz.func27 rfl rfl (by kernel_rfl) rfl ?_
  intro w0
  repeat (first | ((first | (apply lx_u; exact rfl) | (apply lx_g; exact rfl; exact rfl)); first | (apply isy_bin_eql; exact yl_eqs op_eq_g rfl rfl (fun w => op_eq x.op y.op w) (by first | exact fun _ => rfl | exact fun h => h | exact fun h => (Bool.and_eq_true_iff.1 h).1) (by first | exact fun _ => rfl | exact fun h => h | exact fun h => (Bool.and_eq_true_iff.1 h).1)) | fail) | (refine isx_call ?_; refine k_gcall (h) ((fun w hm => in_ro (row_ro 2 rfl hm) (in_ro (row_ro 3 rfl hm) (in_nil hm) rfl) rfl)) rfl rfl rfl rfl rfl rfl ?_) | refine wz ?_ | (refine wzb ?_; intro b_) | fail)
  exact bq_ret (ret_tmp rfl rfl) [] (Gives.nil _) rfl ⟨rfl, rfl⟩
theorem wordQ_no {k : B8} (h : ¬ k.toNat < 8) : wordQ k = [] := by unfold wordQ; rw [List.getElem?_eq_none (by simp; omega)]; rfl
theorem word_fn (k : B8) : Fn Tryz.prog 25 [bv k] [] [] fun v Lo => v = .string (sb (wordQ k)) ∧ Lo = [] := by
  by_cases h8 : k.toNat < 8
  · have hw := words_at h8
    refine fn_enter Tryz.func25 rfl rfl (by kernel_rfl) rfl ?_; intro w0
    repeat (first | ((first | (apply lx_u; exact rfl) | (apply lx_g; exact rfl; exact rfl)); first | (apply isy_convert; exact q_cn rfl rfl rfl) | fail) | refine wz ?_ | (refine wzb ?_; intro b_) | fail)
    refine cx_cond rfl (fun h => absurd h (by simp; omega)) (fun _ => ?_)
    refine cx_weakL (Gives.blkown (m := 8) (sz := 1) 0 rfl rfl (by decide)) ?_
    repeat (first | ((first | (apply lx_u; exact rfl) | (apply lx_g; exact rfl; exact rfl)); first | (apply isy_indexAddr; exact q_ixo 0 rfl rfl rfl rfl rfl (hb := (fun _ => by omega))) | (apply isy_load; exact q_lio 0 rfl rfl rfl rfl hw) | fail) | refine wz ?_ | (refine wzb ?_; intro b_) | fail)
    exact bq_ret (ret_tmp rfl rfl) [] (Gives.nil _) rfl ⟨rfl, rfl⟩
  · rw [wordQ_no h8]
    refine fn_enter Tryz.func25 rfl rfl (by kernel_rfl) rfl ?_; intro w0
    repeat (first | ((first | (apply lx_u; exact rfl) | (apply lx_g; exact rfl; exact rfl)); first | (apply isy_convert; exact q_cn rfl rfl rfl) | fail) | refine wz ?_ | (refine wzb ?_; intro b_) | fail)
    refine cx_cond rfl (fun _ => ?_) (fun h => absurd h (by simp; omega))
    repeat (first | refine wz ?_ | (refine wzb ?_; intro b_) | fail)
    exact bq_ret (ret_tmp rfl rfl) [] (Gives.nil _) rfl ⟨rfl, rfl⟩
theorem rword_fn (k : B8) : Fn Tryz.prog 26 [bv k] [] [] fun v Lo => v = .string (sb (wordQ k)) ∧ Lo = [] := by
  by_cases h8 : k.toNat < 8
  · have hw := words_at h8
    refine fn_enter Tryz.func26 rfl rfl (by kernel_rfl) rfl ?_; intro w0
    repeat (first | refine wz ?_ | (refine wzb ?_; intro b_) | fail)
    refine cx_cond rfl (fun h => absurd h (by simp; omega)) (fun _ => ?_)
    repeat (first | refine wz ?_ | (refine wzb ?_; intro b_) | fail)
    refine lx_weak (Gives.blkown (m := 8) (sz := 1) 0 rfl rfl (by decide)) ?_
    repeat (first | ((first | (apply lx_u; exact rfl) | (apply lx_g; exact rfl; exact rfl)); first | (apply isy_indexAddr; exact q_ixo 0 rfl rfl rfl rfl rfl (hb := (fun _ => by omega))) | (apply isy_load; exact q_lio 0 rfl rfl rfl rfl hw) | fail) | refine wz ?_ | (refine wzb ?_; intro b_) | fail)
    exact bq_ret (ret_tmp rfl rfl) [] (Gives.nil _) rfl ⟨rfl, rfl⟩
  · rw [wordQ_no h8]
    refine fn_enter Tryz.func26 rfl rfl (by kernel_rfl) rfl ?_; intro w0
    repeat (first | refine wz ?_ | (refine wzb ?_; intro b_) | fail)
    refine cx_cond rfl (fun _ => ?_) (fun h => absurd h (by simp; omega))
    repeat (first | refine wz ?_ | (refine wzb ?_; intro b_) | fail)
    exact bq_ret (ret_tmp rfl rfl) [] (Gives.nil _) rfl ⟨rfl, rfl⟩
set_option maxRecDepth 100000 in
set_option maxHeartbeats 4000000 in
theorem rsame_fn (x y : MS) (hx : x.r.l.length = x.r.n) (hy : y.r.l.length = y.r.n) (hn : x.r.n ≤ 9223372036854775807) : Fn Tryz.prog 28 [x.val, y.val] [.ro x.r.A x.r.n 1 (bvs x.r.l), .ro y.r.A y.r.n 1 (bvs y.r.l)] [] fun v Lo => v = .bool (x.sp.eqB y.sp) ∧ Lo = [] := by
  by_cases hl : x.r.l = y.r.l
  · have hnn : x.r.n = y.r.n := by rw [← hx, hl, hy]
    have hq : x.sp.eqB y.sp = (((((x.k.toNat : Int) == (y.k.toNat : Int)) && (x.cl == y.cl)) && x.op.eqB y.op) && ((x.by_.toNat : Int) == (y.by_.toNat : Int))) := by
      have hb : (x.r.l == y.r.l) = true := by rw [hl]; exact beq_self_eq_true _
      show ((((_ && _) && (x.r.l == y.r.l)) && _) && _) = _
      rw [hb, Bool.and_true]
      rfl
    have hne : ((x.r.n : Int) != (y.r.n : Int)) = false := by rw [hnn]; exact bne_self_eq_false _
    rw [hq]
    refine fn_enter Tryz.func28 rfl rfl (by kernel_rfl) rfl ?_; intro w0
    repeat (first | ((first | (apply lx_gt; exact rfl; exact rfl; exact rfl) | (apply lx_u; exact rfl) | (apply lx_g; exact rfl; exact rfl)); first | (apply isy_bin_neq; exact yl_false (yl_op (E := EV) rfl) (fun _ => hne)) | fail) | refine wzf ?_ | (refine wzb ?_; intro b_) | fail)
    refine cx_cond rfl (fun h => absurd h (by decide)) (fun _ => ?_)
    repeat (first | refine wz ?_ | (refine wzb ?_; intro b_) | fail)
    rename_i b2 hff
    generalize b_ = b3
    refine cx_loop (α := { i : Nat // i ≤ x.r.n }) (fun i => [(2, none, .pointer (some ⟨b2, 0, none⟩)), (3, none, .pointer (some ⟨b3, 0, none⟩)), (5, none, .int .i64 i.1)]) (fun _ => [.blk b3 y.cells 68, .blk b2 x.cells 68, .ro x.r.A x.r.n 1 (bvs x.r.l), .ro y.r.A y.r.n 1 (bvs y.r.l)]) (fun i => x.r.n - i.1) ⟨0, Nat.zero_le _⟩ ⟨rfl, rfl, rfl, trivial⟩ (Gives.refl _) ?_
    rintro ⟨i, hi⟩
    dsimp only
    repeat (first | refine wz ?_ | (refine wzb ?_; intro b_) | fail)
    refine cx_cond rfl (fun h => ?_) (fun h => ?_)
    · have hlt : i < x.r.n := by simp at h; omega
      clear h
      obtain ⟨u, hu⟩ : ∃ u, x.r.l[i]? = some u := ⟨_, List.getElem?_eq_getElem (by omega)⟩
      have hu1 : (bvs x.r.l)[mulI i 1]? = some (bv u) := bvs_get hu
      have hu2 : (bvs y.r.l)[mulI i 1]? = some (bv u) := bvs_get (by rw [← hl]; exact hu)
      repeat (first | refine wz ?_ | (refine wzb ?_; intro b_) | fail)
      refine cx_draw [] _ rfl (by kernel_rfl) (Gives.refl _) ?_
      repeat (first | ((first | (apply lx_gt; exact rfl; exact rfl; exact rfl) | (apply lx_u; exact rfl) | (apply lx_g; exact rfl; exact rfl)); first | (apply isy_indexAddr; exact q_ix 2 rfl rfl rfl rfl rfl) | (apply isy_load; exact q_li 2 rfl rfl rfl rfl hu1) | (apply isy_indexAddr; exact q_ix 3 rfl rfl rfl rfl rfl) | (apply isy_load; exact q_li 3 rfl rfl rfl rfl hu2) | (apply isy_bin_neq; exact yl_false (yl_op (E := EV) rfl) (fun _ => bne_self_eq_false _)) | fail) | refine wzf ?_ | (refine wzb ?_; intro b_) | fail)
      refine cx_cond rfl (fun h => absurd h (by decide)) (fun _ => ?_)
      repeat (first | refine wz ?_ | (refine wzb ?_; intro b_) | fail)
      exact ⟨⟨i + 1, by omega⟩, ⟨rfl, rfl, slot_int (by dsimp only; omega), trivial⟩, Gives.refl _, by dsimp only; omega⟩
    · repeat (first | ((first | (apply lx_u; exact rfl) | (apply lx_g; exact rfl; exact rfl)); first | (apply isy_bin_eql; exact yl_eqs rop_eq_g rfl rfl (fun w => rop_eq x.op y.op w) (by first | exact fun _ => rfl | exact fun h => h | exact fun h => (Bool.and_eq_true_iff.1 h).1) (by first | exact fun _ => rfl | exact fun h => h | exact fun h => (Bool.and_eq_true_iff.1 h).1)) | fail) | refine wz ?_ | (refine wzb ?_; intro b_) | fail)
      exact bq_ret (ret_tmp rfl rfl) [] (Gives.nil _) rfl ⟨rfl, rfl⟩
  · have hq : x.sp.eqB y.sp = false := by
      have hb : (x.r.l == y.r.l) = false := by rw [beq_eq_false_iff_ne]; exact hl
      show ((((_ && _) && (x.r.l == y.r.l)) && _) && _) = _
      rw [hb, Bool.and_false, Bool.false_and, Bool.false_and]
    rw [hq]
    by_cases hnn : x.r.n = y.r.n
    · have hne : ((x.r.n : Int) != (y.r.n : Int)) = false := by rw [hnn]; exact bne_self_eq_false _
      refine fn_enter Tryz.func28 rfl rfl (by kernel_rfl) rfl ?_; intro w0
      repeat (first | ((first | (apply lx_gt; exact rfl; exact rfl; exact rfl) | (apply lx_u; exact rfl) | (apply lx_g; exact rfl; exact rfl)); first | (apply isy_bin_neq; exact yl_false (yl_op (E := EV) rfl) (fun _ => hne)) | fail) | refine wzf ?_ | (refine wzb ?_; intro b_) | fail)
      refine cx_cond rfl (fun h => absurd h (by decide)) (fun _ => ?_)
      repeat (first | refine wz ?_ | (refine wzb ?_; intro b_) | fail)
      rename_i b2 hff
      generalize b_ = b3
      refine cx_loop (α := { i : Nat // i ≤ x.r.n ∧ x.r.l.take i = y.r.l.take i }) (fun i => [(2, none, .pointer (some ⟨b2, 0, none⟩)), (3, none, .pointer (some ⟨b3, 0, none⟩)), (5, none, .int .i64 i.1)]) (fun _ => [.blk b3 y.cells 68, .blk b2 x.cells 68, .ro x.r.A x.r.n 1 (bvs x.r.l), .ro y.r.A y.r.n 1 (bvs y.r.l)]) (fun i => x.r.n - i.1) ⟨0, Nat.zero_le _, rfl⟩ ⟨rfl, rfl, rfl, trivial⟩ (Gives.refl _) ?_
      rintro ⟨i, hi, ht⟩
      dsimp only
      repeat (first | refine wz ?_ | (refine wzb ?_; intro b_) | fail)
      refine cx_cond rfl (fun h => ?_) (fun h => ?_)
      · have hlt : i < x.r.n := by simp at h; omega
        clear h
        obtain ⟨u, hu⟩ : ∃ u, x.r.l[i]? = some u := ⟨_, List.getElem?_eq_getElem (by omega)⟩
        obtain ⟨z, hz⟩ : ∃ z, y.r.l[i]? = some z := ⟨_, List.getElem?_eq_getElem (by omega)⟩
        have hu1 : (bvs x.r.l)[mulI i 1]? = some (bv u) := bvs_get hu
        have hu2 : (bvs y.r.l)[mulI i 1]? = some (bv z) := bvs_get hz
        repeat (first | refine wz ?_ | (refine wzb ?_; intro b_) | fail)
        refine cx_draw [] _ rfl (by kernel_rfl) (Gives.refl _) ?_
        repeat (first | ((first | (apply lx_u; exact rfl) | (apply lx_g; exact rfl; exact rfl)); first | (apply isy_indexAddr; exact q_ix 2 rfl rfl rfl rfl rfl) | (apply isy_load; exact q_li 2 rfl rfl rfl rfl hu1) | (apply isy_indexAddr; exact q_ix 3 rfl rfl rfl rfl rfl) | (apply isy_load; exact q_li 3 rfl rfl rfl rfl hu2) | (apply isy_bin_neq; exact q_bne u z rfl rfl rfl rfl) | fail) | refine wz ?_ | (refine wzb ?_; intro b_) | fail)
        refine cx_cond rfl (fun h => ?_) (fun h => ?_)
        · repeat (first | refine wz ?_ | (refine wzb ?_; intro b_) | fail)
          exact bq_ret (ret_tmp rfl rfl) [] (Gives.nil _) rfl ⟨rfl, rfl⟩
        · have huz : u = z := by simpa using h
          repeat (first | refine wz ?_ | (refine wzb ?_; intro b_) | fail)
          exact ⟨⟨i + 1, by omega, by rw [List.take_add_one, List.take_add_one, hu, hz, ht, huz]⟩, ⟨rfl, rfl, slot_int (by dsimp only; omega), trivial⟩, Gives.refl _, by dsimp only; omega⟩
      · exfalso
        have hii : i = x.r.n := by simp at h; omega
        rw [List.take_of_length_le (by omega), List.take_of_length_le (by omega)] at ht
        exact hl ht
    · have hne : ((x.r.n : Int) != (y.r.n : Int)) = true := by simp; omega
      refine fn_enter Tryz.func28 rfl rfl (by kernel_rfl) rfl ?_; intro w0
      repeat (first | ((first | (apply lx_gt; exact rfl; exact rfl; exact rfl) | (apply lx_u; exact rfl) | (apply lx_g; exact rfl; exact rfl)); first | (apply isy_bin_neq; exact yl_true (yl_op (E := EV) rfl) (fun _ => hne)) | fail) | refine wzf ?_ | (refine wzb ?_; intro b_) | fail)
      refine cx_cond rfl (fun _ => ?_) (fun h => absurd h (by decide))
      repeat (first | refine wz ?_ | (refine wzb ?_; intro b_) | fail)
      exact bq_ret (ret_tmp rfl rfl) [] (Gives.nil _) rfl ⟨rfl, rfl⟩
end Go.Proofs.YtmochicneilhhaaGreat.sc
