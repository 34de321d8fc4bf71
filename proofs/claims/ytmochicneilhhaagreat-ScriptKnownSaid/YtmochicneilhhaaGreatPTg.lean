/- scripts: the reference's reader. -/
import Derived.Test.YtmochicneilhhaaGreatPGo
import Derived.Test.YtmochicneilhhaaGreatPTf
namespace Go.Proofs.YtmochicneilhhaaGreat.sc
open Go.RowKit Go.Proofs.YtmochicneilhhaaGreat.kit Go.Proofs.YtmochicneilhhaaGreat.pk Go.Proofs.YtmochicneilhhaaGreat.rq Go.Proofs.YtmochicneilhhaaGreat.ev Go.Proofs.YtmochicneilhhaaGreat.win
theorem ofInt_97 (k : Nat) : BitVec.ofInt 8 (97 + (k : Int)) = BitVec.ofNat 8 (97 + k) := by
  have e : (97 + (k : Int)) = ((97 + k : Nat) : Int) := by omega
  rw [e]
  exact BitVec.ofInt_natCast ..
attribute [local irreducible] LX CX Yl Gives RetIs Fn
attribute [local irreducible] be de fr.frm
theorem rat_fn {A : Option Addr} {n c : Nat} {l : List B8} (k : Nat) {i : Int} (hl : l.length = n) (hi : i = k) : Fn Tryz.prog 59 [.slice A n c, .int .i64 i] [.ro A n 1 (bvs l)] [] fun v Lo => v = .int .i64 (at_ l k) ∧ Lo = [] := by
  subst hl hi
  by_cases h : k < l.length
  · obtain ⟨x, hx⟩ : ∃ x, l[k]? = some x := ⟨_, List.getElem?_eq_getElem h⟩
    have hx0 : (bvs l)[mulI k 1]? = some (bv x) := bvs_get hx
    have e1 : at_ l k = x.toNat := by unfold at_; rw [hx]
    have h0 : decide ((k : Int) < (l.length : Nat)) = true := by simp; omega
    rw [e1]
    refine fn_enter Tryz.func59 rfl rfl (by kernel_rfl) rfl ?_; intro w0
    repeat (first | ((first | (apply lx_gt; exact rfl; exact rfl; exact rfl) | (apply lx_u; exact rfl) | (apply lx_g; exact rfl; exact rfl)); first | (apply isy_bin; exact yl_true (yl_op (E := EV) rfl) (fun _ => h0)) | fail) | refine wzf ?_ | (refine wzb ?_; intro b_) | fail)
    refine cx_cond rfl (fun _ => ?_) (fun h => absurd h (by decide))
    repeat (first | ((first | (apply lx_u; exact rfl) | (apply lx_g; exact rfl; exact rfl)); first | (apply isy_indexAddr; exact q_ix 0 rfl rfl rfl rfl rfl) | (apply isy_load; exact q_li 0 rfl rfl rfl rfl hx0) | (apply isy_convert; exact q_cn rfl rfl rfl) | fail) | refine wz ?_ | (refine wzb ?_; intro b_) | fail)
    exact bq_ret (ret_tmp rfl rfl) [] (Gives.nil _) rfl ⟨rfl, rfl⟩
  · have e1 : at_ l k = 0 := by unfold at_; rw [List.getElem?_eq_none (by omega)]
    have h0 : decide ((k : Int) < (l.length : Nat)) = false := by simp; omega
    rw [e1]
    refine fn_enter Tryz.func59 rfl rfl (by kernel_rfl) rfl ?_; intro w0
    repeat (first | ((first | (apply lx_gt; exact rfl; exact rfl; exact rfl) | (apply lx_u; exact rfl) | (apply lx_g; exact rfl; exact rfl)); first | (apply isy_bin; exact yl_false (yl_op (E := EV) rfl) (fun _ => h0)) | fail) | refine wzf ?_ | (refine wzb ?_; intro b_) | fail)
    refine cx_cond rfl (fun h => absurd h (by decide)) (fun _ => ?_)
    repeat (first | refine wz ?_ | (refine wzb ?_; intro b_) | fail)
    exact bq_ret (ret_tmp rfl rfl) [] (Gives.nil _) rfl ⟨rfl, rfl⟩
theorem rsmall_fn (k : Nat) {i : Int} (hi : i = k) (hk : k < 256) : Fn Tryz.prog 62 [.int .i64 i] [] [] fun v Lo => v = .int .i64 (small k) ∧ Lo = [] := by
  subst hi
  unfold small
  refine fn_enter Tryz.func62 rfl rfl (by kernel_rfl) rfl ?_
  intro w0
  repeat (first | refine wz ?_ | (refine wzb ?_; intro b_) | fail)
  refine cx_cond rfl (fun h => ?_) (fun h => ?_)
  · have h' : k ≥ 128 := by simp at h; omega
    rw [if_pos h']
    repeat (first | refine wz ?_ | (refine wzb ?_; intro b_) | fail)
    exact bq_ret (ret_tmp rfl rfl) [] (Gives.nil _) rfl ⟨rfl, rfl⟩
  · have h' : ¬ k ≥ 128 := by simp at h; omega
    rw [if_neg h']
    repeat (first | refine wz ?_ | (refine wzb ?_; intro b_) | fail)
    exact bq_ret (ret_tmp rfl rfl) [] (Gives.nil _) rfl ⟨rfl, rfl⟩
theorem rvalue_fn (k : Nat) {i : Int} (hi : i = k) (hk : k < 256) : Fn Tryz.prog 63 [.int .i64 i] [] [] fun v Lo => v = .int .i64 (valueQ k) ∧ Lo = [] := by
  subst hi
  unfold valueQ
  have hs := rsmall_fn k rfl hk
  refine fn_enter Tryz.func63 rfl rfl (by kernel_rfl) rfl ?_
  intro w0
  repeat (first | refine wz ?_ | (refine wzb ?_; intro b_) | fail)
  refine cx_cond rfl (fun h => ?_) (fun h => ?_)
  · have h' : k = 127 := by simp at h; omega
    rw [if_pos h']
    repeat (first | refine wz ?_ | (refine wzb ?_; intro b_) | fail)
    exact bq_ret (ret_tmp rfl rfl) [] (Gives.nil _) rfl ⟨rfl, rfl⟩
  · have h' : ¬ k = 127 := by simp at h; omega
    rw [if_neg h']
    repeat (first | refine wz ?_ | (refine wzb ?_; intro b_) | fail)
    refine cx_cond rfl (fun h => ?_) (fun h => ?_)
    · have h' : k = 128 := by simp at h; omega
      rw [if_pos h']
      repeat (first | refine wz ?_ | (refine wzb ?_; intro b_) | fail)
      exact bq_ret (ret_tmp rfl rfl) [] (Gives.nil _) rfl ⟨rfl, rfl⟩
    · have h' : ¬ k = 128 := by simp at h; omega
      rw [if_neg h']
      repeat (first | (refine isx_call ?_; refine k_gcall (hs) (fun _ hm => in_nil hm) rfl rfl rfl rfl rfl rfl ?_) | refine wz ?_ | (refine wzb ?_; intro b_) | fail)
      exact bq_ret (ret_tmp rfl rfl) [] (Gives.nil _) rfl ⟨rfl, rfl⟩
theorem rletter_fn (k : Nat) {i : Int} (hi : i = k) : Fn Tryz.prog 61 [.int .i64 i] [] [] fun v Lo => v = .string (sb (keyQ k)) ∧ Lo = [] := by
  subst hi
  unfold keyQ
  have m4 : (k : Int).tmod 4 = ((k % 4 : Nat) : Int) := modN k 4
  have b4 := Nat.mod_lt k (show 0 < 4 by decide)
  rw [← ofInt_97]
  generalize k % 4 = q at *
  refine fn_enter Tryz.func61 rfl rfl (by kernel_rfl) rfl ?_
  intro w0
  repeat (first | ((first | (apply lx_u; exact rfl) | (apply lx_g; exact rfl; exact rfl)); first | (apply isy_bin_rem; exact yl_eq (q_rem rfl rfl) (fun _ => congrArg (Value.int .i64) m4)) | (apply isy_convert; exact q_ci uk8 rfl rfl rfl) | (apply isy_convert; exact q_text (l := [BitVec.ofInt 8 (97 + (q : Int))]) rfl rfl rfl rfl (fun _ _ hm => row_blk 0 rfl rfl hm)) | fail) | refine wz ?_ | (refine wzb ?_; intro b_) | fail)
  exact bq_ret (ret_tmp rfl rfl) [] (Gives.nil _) rfl ⟨rfl, rfl⟩
theorem redge_fn (k : Nat) {i : Int} (hi : i = k) : Fn Tryz.prog 96 [.int .i64 i] [] [] fun v Lo => v = .string (sb (edgeQ k)) ∧ Lo = [] := by
  subst hi
  unfold edgeQ
  have m5 : (k : Int).tmod 5 = ((k % 5 : Nat) : Int) := modN k 5
  have b5 := Nat.mod_lt k (show 0 < 5 by decide)
  rw [← ofInt_97]
  generalize k % 5 = q at *
  refine fn_enter Tryz.func96 rfl rfl (by kernel_rfl) rfl ?_
  intro w0
  repeat (first | ((first | (apply lx_u; exact rfl) | (apply lx_g; exact rfl; exact rfl)); first | (apply isy_bin_rem; exact yl_eq (q_rem rfl rfl) (fun _ => congrArg (Value.int .i64) m5)) | fail) | refine wz ?_ | (refine wzb ?_; intro b_) | fail)
  refine cx_cond rfl (fun h => ?_) (fun h => ?_)
  · have h' : ¬ q < 4 := by simp at h; omega
    rw [if_neg h']
    repeat (first | refine wz ?_ | (refine wzb ?_; intro b_) | fail)
    exact bq_ret (ret_tmp rfl rfl) [] (Gives.nil _) rfl ⟨rfl, rfl⟩
  · have h' : q < 4 := by simp at h; omega
    rw [if_pos h']
    repeat (first | ((first | (apply lx_u; exact rfl) | (apply lx_g; exact rfl; exact rfl)); first | (apply isy_bin_rem; exact yl_eq (q_rem rfl rfl) (fun _ => congrArg (Value.int .i64) m5)) | (apply isy_convert; exact q_ci uk8 rfl rfl rfl) | (apply isy_convert; exact q_text (l := [BitVec.ofInt 8 (97 + (q : Int))]) rfl rfl rfl rfl (fun _ _ hm => row_blk 0 rfl rfl hm)) | fail) | refine wz ?_ | (refine wzb ?_; intro b_) | fail)
    exact bq_ret (ret_tmp rfl rfl) [] (Gives.nil _) rfl ⟨rfl, rfl⟩
theorem rframe_fn (r : RQ) : Fn Tryz.prog 18 [r.val] [] [] fun v Lo => ∃ A c, v = .slice A (frameQ r).length c ∧ Lo = [.own A (frameQ r).length c 5 1 (bvs (frameQ r))] := by
  have h := rput_fn r
  unfold Packed at h
  unfold frameQ
  cases hr : r.right with
  | false =>
    rw [putQ_n hr] at h
    refine fn_enter Tryz.func18 rfl rfl (by kernel_rfl) rfl ?_; intro w0
    repeat (first | ((first | (apply lx_gt; exact rfl; exact rfl; exact rfl) | (apply lx_u; exact rfl) | (apply lx_g; exact rfl; exact rfl)); first | (apply isy_bin_neq; exact yl_true (yl_op (E := EV) rfl) (fun _ => rfl)) | fail) | (refine isx_call ?_; (refine isx_call ?_; refine lx_call0 (h) (fun _ hm => in_nil hm) rfl rfl rfl rfl rfl rfl rfl rfl ?_; rintro v_ Lo_ ⟨A, c, rfl, rfl⟩)) | refine wzf ?_ | (refine wzb ?_; intro b_) | fail)
    refine cx_cond rfl (fun _ => ?_) (fun h => absurd h (by decide))
    repeat (first | refine wz ?_ | (refine wzb ?_; intro b_) | fail)
    exact bq_ret (ret_tmp rfl rfl) [_] ((Gives.nilown _ _ _).trans (Gives.pick [0] (by decide) rfl)) rfl ⟨none, 0, rfl, rfl⟩
  | true =>
    rw [putQ_y hr] at h
    have hle := encQ_le hr
    dsimp only at h
    rw [if_pos rfl]
    generalize r.enc = u at *
    refine fn_enter Tryz.func18 rfl rfl (by kernel_rfl) rfl ?_; intro w0
    repeat (first | ((first | (apply lx_gt; exact rfl; exact rfl; exact rfl) | (apply lx_u; exact rfl) | (apply lx_g; exact rfl; exact rfl)); first | (apply isy_bin_neq; exact yl_false (yl_op (E := EV) rfl) (fun _ => rfl)) | fail) | (refine isx_call ?_; (refine isx_call ?_; refine lx_call0 (h) (fun _ hm => in_nil hm) rfl rfl rfl rfl rfl rfl rfl rfl ?_; rintro v_ Lo_ ⟨A, c, rfl, rfl⟩)) | refine wzf ?_ | (refine wzb ?_; intro b_) | fail)
    refine cx_cond rfl (fun h => absurd h (by decide)) (fun _ => ?_)
    refine cx_fact (fun w hm => own_cap 0 hm rfl) fun hco => ?_
    have hp := fr.rput_fn A u.length c u rfl hco
    rw [fr.putR_ok (by omega)] at hp
    repeat (first | (refine isx_call ?_; (refine isx_call ?_; refine lx_call0 (hp) ((fun w hm => own_ro 0 hm rfl)) rfl rfl rfl rfl rfl rfl rfl rfl ?_; rintro v_ Lo_ ⟨A2, c2, rfl, rfl⟩)) | refine wz ?_ | (refine wzb ?_; intro b_) | fail)
    exact bq_ret (ret_tmp rfl rfl) [_] (Gives.pick [0] (by decide) rfl) rfl ⟨A2, c2, rfl, rfl⟩
section
variable (A : Option Addr) (n c : Nat) (l : List B8) (hl : l.length = n)
include hl
set_option maxRecDepth 100000 in
set_option maxHeartbeats 4000000 in
theorem rconfig_fn : Fn Tryz.prog 34 [.slice A n c] [.ro A n 1 (bvs l)] [] fun v Lo => v = .agg (cfgL l 0).toArray ∧ Lo = [] := by
  have hq : at_ l 0 % 3 = 0 ∨ at_ l 0 % 3 = 1 ∨ at_ l 0 % 3 = 2 := by omega
  have r0 := rat_fn (A := A) (n := n) (c := c) (l := l) 0 hl rfl
  have r1 := rat_fn (A := A) (n := n) (c := c) (l := l) 1 hl rfl
  have r2 := rat_fn (A := A) (n := n) (c := c) (l := l) 2 hl rfl
  have r3 := rat_fn (A := A) (n := n) (c := c) (l := l) 3 hl rfl
  have r4 := rat_fn (A := A) (n := n) (c := c) (l := l) 4 hl rfl
  have r5 := rat_fn (A := A) (n := n) (c := c) (l := l) 5 hl rfl
  have r6 := rat_fn (A := A) (n := n) (c := c) (l := l) 6 hl rfl
  have r7 := rat_fn (A := A) (n := n) (c := c) (l := l) 7 hl rfl
  have r8 := rat_fn (A := A) (n := n) (c := c) (l := l) 8 hl rfl
  have m0 : (at_ l 0 : Int).tmod 3 = ((at_ l 0 % 3 : Nat) : Int) := modN _ 3
  have m2 : (at_ l 2 : Int).tmod 32 = ((at_ l 2 % 32 : Nat) : Int) := modN _ 32
  have m4 : (at_ l 4 : Int).tmod 64 = ((at_ l 4 % 64 : Nat) : Int) := modN _ 64
  have m5 : (at_ l 5 : Int).tmod 64 = ((at_ l 5 % 64 : Nat) : Int) := modN _ 64
  have m6 : (at_ l 6 : Int).tmod 16 = ((at_ l 6 % 16 : Nat) : Int) := modN _ 16
  have m7 : (at_ l 7 : Int).tmod 8 = ((at_ l 7 % 8 : Nat) : Int) := modN _ 8
  have m8 : (at_ l 8 : Int).tmod 16 = ((at_ l 8 % 16 : Nat) : Int) := modN _ 16
  have k16 : (at_ l 1 : Int).tmod 16 = ((at_ l 1 % 16 : Nat) : Int) := modN _ 16
  have k4 : (at_ l 1 : Int).tmod 4 = ((at_ l 1 % 4 : Nat) : Int) := modN _ 4
  have k44 : IntKind.i64.wrap ((at_ l 1 : Int).tdiv 4) = ((at_ l 1 / 4 : Nat) : Int) := quoN _ 4 (by have := at_lt l 1; omega)
  have k444 : ((at_ l 1 / 4 : Nat) : Int).tmod 4 = ((at_ l 1 / 4 % 4 : Nat) : Int) := modN _ 4
  have b3 := at_lt l 3
  have b1 := Nat.mod_lt (at_ l 1) (show 0 < 16 by decide)
  have b14 := Nat.mod_lt (at_ l 1) (show 0 < 4 by decide)
  have b144 := Nat.mod_lt (at_ l 1 / 4) (show 0 < 4 by decide)
  have b4 := Nat.mod_lt (at_ l 4) (show 0 < 64 by decide)
  have b5 := Nat.mod_lt (at_ l 5) (show 0 < 64 by decide)
  have b6 := Nat.mod_lt (at_ l 6) (show 0 < 16 by decide)
  have b7 := Nat.mod_lt (at_ l 7) (show 0 < 8 by decide)
  have b8 := Nat.mod_lt (at_ l 8) (show 0 < 16 by decide)
  have bm : 0 ≤ (((at_ l 1 % 4 : Nat) : Int) + 1) * (((at_ l 1 / 4 % 4 : Nat) : Int) + 1) ∧ (((at_ l 1 % 4 : Nat) : Int) + 1) * (((at_ l 1 / 4 % 4 : Nat) : Int) + 1) ≤ 16 := by
    have h16 : (at_ l 1 % 4 + 1) * (at_ l 1 / 4 % 4 + 1) ≤ 16 := Nat.mul_le_mul (show at_ l 1 % 4 + 1 ≤ 4 by omega) (show at_ l 1 / 4 % 4 + 1 ≤ 4 by omega)
    have e : (((at_ l 1 % 4 : Nat) : Int) + 1) * (((at_ l 1 / 4 % 4 : Nat) : Int) + 1) = (((at_ l 1 % 4 + 1) * (at_ l 1 / 4 % 4 + 1) : Nat) : Int) := by push_cast; rfl
    rw [e]
    omega
  have hw0 : at_ l 0 % 3 = 0 → winQ (at_ l 0) (at_ l 1) = (1, ((at_ l 1 % 16 : Nat) : Int) + 1, 0, 0) := fun h => by unfold winQ; rw [if_pos h]
  have hw1 : at_ l 0 % 3 = 1 → winQ (at_ l 0) (at_ l 1) = (2, (((at_ l 1 % 4 : Nat) : Int) + 1) * (((at_ l 1 / 4 % 4 : Nat) : Int) + 1), ((at_ l 1 % 4 : Nat) : Int) + 1, 0) := fun h => by unfold winQ; rw [if_neg (by omega), if_pos h]
  have hw2 : at_ l 0 % 3 = 2 → winQ (at_ l 0) (at_ l 1) = (3, 0, 0, ((at_ l 1 % 16 : Nat) : Int) + 1) := fun h => by unfold winQ; rw [if_neg (by omega), if_neg (by omega)]
  unfold cfgL
  rw [Nat.zero_add, Nat.zero_add, Nat.zero_add, Nat.zero_add, Nat.zero_add, Nat.zero_add, Nat.zero_add, Nat.zero_add]
  generalize winQ (at_ l 0) (at_ l 1) = W at *
  generalize at_ l 0 % 3 = a0 at *
  generalize at_ l 1 / 4 % 4 = n44 at *
  generalize at_ l 1 / 4 = nq at *
  generalize at_ l 1 % 4 = n4 at *
  generalize at_ l 1 % 16 = n16 at *
  generalize at_ l 2 % 32 = a2 at *
  generalize at_ l 4 % 64 = a4 at *
  generalize at_ l 5 % 64 = a5 at *
  generalize at_ l 6 % 16 = a6 at *
  generalize at_ l 7 % 8 = a7 at *
  generalize at_ l 8 % 16 = a8 at *
  rcases hq with rfl | rfl | rfl
  · rw [hw0 rfl]
    refine fn_enter Tryz.func34 rfl rfl (by kernel_rfl) rfl ?_; intro w0
    repeat (first | ((first | (apply lx_u; exact rfl) | (apply lx_g; exact rfl; exact rfl)); first | (apply isy_bin_rem; exact yl_eq (q_rem rfl rfl) (fun _ => congrArg (Value.int .i64) m0)) | (apply isy_convert; exact q_ci uk8 rfl rfl rfl) | fail) | (refine isx_call ?_; refine k_gcall (r0) ((fun w hm => in_ro (row_ro 1 rfl hm) (in_nil hm) rfl)) rfl rfl rfl rfl rfl rfl ?_) | (refine isx_call ?_; refine k_gcall (r1) ((fun w hm => in_ro (row_ro 1 rfl hm) (in_nil hm) rfl)) rfl rfl rfl rfl rfl rfl ?_) | refine wz ?_ | (refine wzb ?_; intro b_) | fail)
    refine cx_cond rfl (fun _ => ?_) (fun h => absurd h (by decide))
    repeat (first | ((first | (apply lx_u; exact rfl) | (apply lx_g; exact rfl; exact rfl)); first | (apply isy_bin_rem; exact yl_eq (q_rem rfl rfl) (fun _ => congrArg (Value.int .i64) k16)) | fail) | refine wz ?_ | (refine wzb ?_; intro b_) | fail)
    refine cx_draw [2, 5, 8, 12, 16, 20, 24, 28] _ rfl (by kernel_rfl) (Gives.pick [0, 2] (by decide) rfl) ?_
    repeat (first | ((first | (apply lx_u; exact rfl) | (apply lx_g; exact rfl; exact rfl)); first | (apply isy_bin_rem; exact yl_eq (q_rem rfl rfl) (fun _ => congrArg (Value.int .i64) m2)) | (apply isy_bin_rem; exact yl_eq (q_rem rfl rfl) (fun _ => congrArg (Value.int .i64) m4)) | (apply isy_bin_rem; exact yl_eq (q_rem rfl rfl) (fun _ => congrArg (Value.int .i64) m5)) | (apply isy_bin_rem; exact yl_eq (q_rem rfl rfl) (fun _ => congrArg (Value.int .i64) m6)) | (apply isy_bin_rem; exact yl_eq (q_rem rfl rfl) (fun _ => congrArg (Value.int .i64) m7)) | (apply isy_bin_rem; exact yl_eq (q_rem rfl rfl) (fun _ => congrArg (Value.int .i64) m8)) | fail) | (refine isx_call ?_; refine k_gcall (r2) ((fun w hm => in_ro (row_ro 2 rfl hm) (in_nil hm) rfl)) rfl rfl rfl rfl rfl rfl ?_) | (refine isx_call ?_; refine k_gcall (r3) ((fun w hm => in_ro (row_ro 2 rfl hm) (in_nil hm) rfl)) rfl rfl rfl rfl rfl rfl ?_) | (refine isx_call ?_; refine k_gcall (r4) ((fun w hm => in_ro (row_ro 2 rfl hm) (in_nil hm) rfl)) rfl rfl rfl rfl rfl rfl ?_) | (refine isx_call ?_; refine k_gcall (r5) ((fun w hm => in_ro (row_ro 2 rfl hm) (in_nil hm) rfl)) rfl rfl rfl rfl rfl rfl ?_) | (refine isx_call ?_; refine k_gcall (r6) ((fun w hm => in_ro (row_ro 2 rfl hm) (in_nil hm) rfl)) rfl rfl rfl rfl rfl rfl ?_) | (refine isx_call ?_; refine k_gcall (r7) ((fun w hm => in_ro (row_ro 2 rfl hm) (in_nil hm) rfl)) rfl rfl rfl rfl rfl rfl ?_) | (refine isx_call ?_; refine k_gcall (r8) ((fun w hm => in_ro (row_ro 2 rfl hm) (in_nil hm) rfl)) rfl rfl rfl rfl rfl rfl ?_) | (refine isx_store ?_; refine gS 1 rfl rfl rfl rfl rfl rfl rfl rfl rfl rfl ?_ (hgs := fun _ => Gives.pick [0, 2] (by decide) rfl)) | refine wz ?_ | (refine wzb ?_; intro b_) | fail)
    exact bq_ret (ret_cell (E := EV) 1 rfl rfl rfl rfl (fun _ => Nat.le_of_ble_eq_true rfl) rfl) [] (Gives.nil _) rfl ⟨rfl, rfl⟩
  · rw [hw1 rfl]
    refine fn_enter Tryz.func34 rfl rfl (by kernel_rfl) rfl ?_; intro w0
    repeat (first | ((first | (apply lx_u; exact rfl) | (apply lx_g; exact rfl; exact rfl)); first | (apply isy_bin_rem; exact yl_eq (q_rem rfl rfl) (fun _ => congrArg (Value.int .i64) m0)) | (apply isy_convert; exact q_ci uk8 rfl rfl rfl) | fail) | (refine isx_call ?_; refine k_gcall (r0) ((fun w hm => in_ro (row_ro 1 rfl hm) (in_nil hm) rfl)) rfl rfl rfl rfl rfl rfl ?_) | (refine isx_call ?_; refine k_gcall (r1) ((fun w hm => in_ro (row_ro 1 rfl hm) (in_nil hm) rfl)) rfl rfl rfl rfl rfl rfl ?_) | refine wz ?_ | (refine wzb ?_; intro b_) | fail)
    refine cx_cond rfl (fun h => absurd h (by decide)) (fun _ => ?_)
    repeat (first | refine wz ?_ | (refine wzb ?_; intro b_) | fail)
    refine cx_cond rfl (fun _ => ?_) (fun h => absurd h (by decide))
    repeat (first | ((first | (apply lx_u; exact rfl) | (apply lx_g; exact rfl; exact rfl)); first | (apply isy_bin_rem; exact yl_eq (q_rem rfl rfl) (fun _ => congrArg (Value.int .i64) k4)) | (apply isy_bin_quo; exact yl_eq (q_quo rfl rfl) (fun _ => congrArg (Value.int .i64) k44)) | (apply isy_bin_rem; exact yl_eq (q_rem rfl rfl) (fun _ => congrArg (Value.int .i64) k444)) | (apply isy_bin_mul; exact q_mul rfl rfl) | fail) | refine wz ?_ | (refine wzb ?_; intro b_) | fail)
    refine cx_draw [2, 5, 8, 12, 16, 20, 24, 28] _ rfl (by kernel_rfl) (Gives.pick [0, 2] (by decide) rfl) ?_
    repeat (first | ((first | (apply lx_u; exact rfl) | (apply lx_g; exact rfl; exact rfl)); first | (apply isy_bin_rem; exact yl_eq (q_rem rfl rfl) (fun _ => congrArg (Value.int .i64) m2)) | (apply isy_bin_rem; exact yl_eq (q_rem rfl rfl) (fun _ => congrArg (Value.int .i64) m4)) | (apply isy_bin_rem; exact yl_eq (q_rem rfl rfl) (fun _ => congrArg (Value.int .i64) m5)) | (apply isy_bin_rem; exact yl_eq (q_rem rfl rfl) (fun _ => congrArg (Value.int .i64) m6)) | (apply isy_bin_rem; exact yl_eq (q_rem rfl rfl) (fun _ => congrArg (Value.int .i64) m7)) | (apply isy_bin_rem; exact yl_eq (q_rem rfl rfl) (fun _ => congrArg (Value.int .i64) m8)) | fail) | (refine isx_call ?_; refine k_gcall (r2) ((fun w hm => in_ro (row_ro 2 rfl hm) (in_nil hm) rfl)) rfl rfl rfl rfl rfl rfl ?_) | (refine isx_call ?_; refine k_gcall (r3) ((fun w hm => in_ro (row_ro 2 rfl hm) (in_nil hm) rfl)) rfl rfl rfl rfl rfl rfl ?_) | (refine isx_call ?_; refine k_gcall (r4) ((fun w hm => in_ro (row_ro 2 rfl hm) (in_nil hm) rfl)) rfl rfl rfl rfl rfl rfl ?_) | (refine isx_call ?_; refine k_gcall (r5) ((fun w hm => in_ro (row_ro 2 rfl hm) (in_nil hm) rfl)) rfl rfl rfl rfl rfl rfl ?_) | (refine isx_call ?_; refine k_gcall (r6) ((fun w hm => in_ro (row_ro 2 rfl hm) (in_nil hm) rfl)) rfl rfl rfl rfl rfl rfl ?_) | (refine isx_call ?_; refine k_gcall (r7) ((fun w hm => in_ro (row_ro 2 rfl hm) (in_nil hm) rfl)) rfl rfl rfl rfl rfl rfl ?_) | (refine isx_call ?_; refine k_gcall (r8) ((fun w hm => in_ro (row_ro 2 rfl hm) (in_nil hm) rfl)) rfl rfl rfl rfl rfl rfl ?_) | (refine isx_store ?_; refine gS 1 rfl rfl rfl rfl rfl rfl rfl rfl rfl rfl ?_ (hgs := fun _ => Gives.pick [0, 2] (by decide) rfl)) | refine wz ?_ | (refine wzb ?_; intro b_) | fail)
    exact bq_ret (ret_cell (E := EV) 1 rfl rfl rfl rfl (fun _ => Nat.le_of_ble_eq_true rfl) rfl) [] (Gives.nil _) rfl ⟨rfl, rfl⟩
  · rw [hw2 rfl]
    refine fn_enter Tryz.func34 rfl rfl (by kernel_rfl) rfl ?_; intro w0
    repeat (first | ((first | (apply lx_u; exact rfl) | (apply lx_g; exact rfl; exact rfl)); first | (apply isy_bin_rem; exact yl_eq (q_rem rfl rfl) (fun _ => congrArg (Value.int .i64) m0)) | (apply isy_convert; exact q_ci uk8 rfl rfl rfl) | fail) | (refine isx_call ?_; refine k_gcall (r0) ((fun w hm => in_ro (row_ro 1 rfl hm) (in_nil hm) rfl)) rfl rfl rfl rfl rfl rfl ?_) | (refine isx_call ?_; refine k_gcall (r1) ((fun w hm => in_ro (row_ro 1 rfl hm) (in_nil hm) rfl)) rfl rfl rfl rfl rfl rfl ?_) | refine wz ?_ | (refine wzb ?_; intro b_) | fail)
    refine cx_cond rfl (fun h => absurd h (by decide)) (fun _ => ?_)
    repeat (first | refine wz ?_ | (refine wzb ?_; intro b_) | fail)
    refine cx_cond rfl (fun h => absurd h (by decide)) (fun _ => ?_)
    repeat (first | ((first | (apply lx_u; exact rfl) | (apply lx_g; exact rfl; exact rfl)); first | (apply isy_bin_rem; exact yl_eq (q_rem rfl rfl) (fun _ => congrArg (Value.int .i64) k16)) | fail) | refine wz ?_ | (refine wzb ?_; intro b_) | fail)
    refine cx_draw [2, 5, 8, 12, 16, 20, 24, 28] _ rfl (by kernel_rfl) (Gives.pick [0, 2] (by decide) rfl) ?_
    repeat (first | ((first | (apply lx_u; exact rfl) | (apply lx_g; exact rfl; exact rfl)); first | (apply isy_bin_rem; exact yl_eq (q_rem rfl rfl) (fun _ => congrArg (Value.int .i64) m2)) | (apply isy_bin_rem; exact yl_eq (q_rem rfl rfl) (fun _ => congrArg (Value.int .i64) m4)) | (apply isy_bin_rem; exact yl_eq (q_rem rfl rfl) (fun _ => congrArg (Value.int .i64) m5)) | (apply isy_bin_rem; exact yl_eq (q_rem rfl rfl) (fun _ => congrArg (Value.int .i64) m6)) | (apply isy_bin_rem; exact yl_eq (q_rem rfl rfl) (fun _ => congrArg (Value.int .i64) m7)) | (apply isy_bin_rem; exact yl_eq (q_rem rfl rfl) (fun _ => congrArg (Value.int .i64) m8)) | fail) | (refine isx_call ?_; refine k_gcall (r2) ((fun w hm => in_ro (row_ro 2 rfl hm) (in_nil hm) rfl)) rfl rfl rfl rfl rfl rfl ?_) | (refine isx_call ?_; refine k_gcall (r3) ((fun w hm => in_ro (row_ro 2 rfl hm) (in_nil hm) rfl)) rfl rfl rfl rfl rfl rfl ?_) | (refine isx_call ?_; refine k_gcall (r4) ((fun w hm => in_ro (row_ro 2 rfl hm) (in_nil hm) rfl)) rfl rfl rfl rfl rfl rfl ?_) | (refine isx_call ?_; refine k_gcall (r5) ((fun w hm => in_ro (row_ro 2 rfl hm) (in_nil hm) rfl)) rfl rfl rfl rfl rfl rfl ?_) | (refine isx_call ?_; refine k_gcall (r6) ((fun w hm => in_ro (row_ro 2 rfl hm) (in_nil hm) rfl)) rfl rfl rfl rfl rfl rfl ?_) | (refine isx_call ?_; refine k_gcall (r7) ((fun w hm => in_ro (row_ro 2 rfl hm) (in_nil hm) rfl)) rfl rfl rfl rfl rfl rfl ?_) | (refine isx_call ?_; refine k_gcall (r8) ((fun w hm => in_ro (row_ro 2 rfl hm) (in_nil hm) rfl)) rfl rfl rfl rfl rfl rfl ?_) | (refine isx_store ?_; refine gS 1 rfl rfl rfl rfl rfl rfl rfl rfl rfl rfl ?_ (hgs := fun _ => Gives.pick [0, 2] (by decide) rfl)) | refine wz ?_ | (refine wzb ?_; intro b_) | fail)
    exact bq_ret (ret_cell (E := EV) 1 rfl rfl rfl rfl (fun _ => Nat.le_of_ble_eq_true rfl) rfl) [] (Gives.nil _) rfl ⟨rfl, rfl⟩
end
end Go.Proofs.YtmochicneilhhaaGreat.sc
