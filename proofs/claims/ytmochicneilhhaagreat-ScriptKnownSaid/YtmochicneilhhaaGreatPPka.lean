/- packed numbers and texts: what the program's functions put, and the reference's. -/
import Derived.Test.YtmochicneilhhaaGreatPGo
import Derived.Test.YtmochicneilhhaaGreatPKi
--SHORT 1
namespace Go.Proofs.YtmochicneilhhaaGreat.pk
open Go.RowKit Go.Proofs.YtmochicneilhhaaGreat.kit
attribute [local irreducible] LX CX Yl Gives RetIs Fn
attribute [local irreducible] be

set_option maxHeartbeats 1000000 in
theorem put8_any (n : BitVec 8) (k : Nat) (hk : k ≤ 8) : Fn Tryz.prog 101 [.int .u8 n.toNat, .int .i64 k] [] [] fun v Lo => ∃ A c, v = .slice A k c ∧ Lo = [.own A k c 5 1 (bvs (be k (n.setWidth 64)))] := by
  refine fn_enter Tryz.func101 rfl rfl (by kernel_rfl) rfl ?_
  intro w0
  repeat (first | (refine isx_make ?_; (refine isx_make ?_; refine lx_make (E := EV) k rfl rfl rfl rfl rfl rfl rfl rfl rfl rfl rfl rfl rfl rfl (by show 1 * k ≤ _; omega) (by omega) ?_; intro b_)) | refine wz ?_ | (refine wzb ?_; intro b_) | fail)
  have hbl := be_len k (n.setWidth 64)
  refine cx_loop (α := { i : Nat // i ≤ k }) (fun y => [(0, none, .int .u8 n.toNat), (1, none, .int .i64 k), (5, none, .slice (some ⟨b_, 0, none⟩) k k), (10, none, .int .i64 k), (11, none, .int .i64 y.1)])
    (fun y => [.own (some ⟨b_, 0, none⟩) k k 5 1 (bvs ((be k (n.setWidth 64)).take y.1 ++ List.replicate (k - y.1) 0#8))]) (fun y => k - y.1) ⟨0, Nat.zero_le _⟩ ⟨rfl, rfl, rfl, rfl, rfl, trivial⟩ ?_ ?_
  · dsimp only
    rw [List.take_zero, List.nil_append, Nat.sub_zero, ← bvs_zero]
    exact Gives.blkown 0 (m := k) (sz := 1) rfl (by simp) (by unfold maxLen; omega)
  rintro ⟨i, hi⟩
  dsimp only
  repeat (first | refine wz ?_ | (refine wzb ?_; intro b_) | fail)
  refine cx_cond rfl (fun h => ?_) (fun h => ?_)
  · have hlt : i < k := by simp at h; omega
    have hy := be_get (n.setWidth 64) hlt
    have hset := fill_step (k := k) hbl hy
    have hm : (8 : Int) * ((k : Int) - 1 - (i : Int)) = ((8 * (k - 1 - i) : Nat) : Int) := by omega
    generalize (be k (n.setWidth 64)) = l at hbl hset hy ⊢
    repeat (first | ((first | (apply lx_u; exact rfl) | (apply lx_g; exact rfl; exact rfl)); first | (apply isy_convert; exact q_cv uk64 n rfl rfl rfl rfl) | (apply isy_bin_mul; exact yl_eq (yl_mul rfl rfl (by first | exact fun _ => rfl | exact fun h => h | exact fun h => (Bool.and_eq_true_iff.1 h).1) (by first | exact fun _ => rfl | exact fun h => h | exact fun h => (Bool.and_eq_true_iff.1 h).1) (fun _ => by omega)) (fun _ => congrArg (Value.int .i64) hm)) | (apply isy_bin_shr; exact q_bshr uk64 (n.setWidth 64) (8 * (k - 1 - i)) rfl rfl rfl rfl) | (apply isy_convert; exact q_cv uk8 _ rfl rfl rfl rfl) | (apply isy_indexAddr; exact q_xs rfl rfl rfl rfl) | fail) | (refine isx_store ?_; refine lx_storeI (E := EV) 0 rfl rfl rfl rfl rfl rfl rfl rfl rfl (by show i + 1 ≤ (bvs _).length; simp [bvs_len]; omega) rfl (fun _ => trivial) ?_) | refine wz ?_ | (refine wzb ?_; intro b_) | fail)
    refine ⟨⟨i + 1, by omega⟩, ⟨rfl, rfl, rfl, rfl, slot_int (by dsimp only; omega), trivial⟩, ?_, by dsimp only; omega⟩
    dsimp only
    rw [← hset]
    exact Gives.refl _
  · obtain rfl : i = k := by simp at h; omega
    rw [Nat.sub_self, List.take_of_length_le (by omega), List.replicate_zero, List.append_nil]
    repeat (first | refine wz ?_ | (refine wzb ?_; intro b_) | fail)
    exact bq_ret (ret_tmp rfl rfl) [_] (Gives.refl _) rfl ⟨_, _, rfl, rfl⟩


set_option maxHeartbeats 1000000 in
theorem put16_any (n : BitVec 16) (k : Nat) (hk : k ≤ 8) : Fn Tryz.prog 167 [.int .u16 n.toNat, .int .i64 k] [] [] fun v Lo => ∃ A c, v = .slice A k c ∧ Lo = [.own A k c 5 1 (bvs (be k (n.setWidth 64)))] := by
  refine fn_enter Tryz.func167 rfl rfl (by kernel_rfl) rfl ?_
  intro w0
  repeat (first | (refine isx_make ?_; (refine isx_make ?_; refine lx_make (E := EV) k rfl rfl rfl rfl rfl rfl rfl rfl rfl rfl rfl rfl rfl rfl (by show 1 * k ≤ _; omega) (by omega) ?_; intro b_)) | refine wz ?_ | (refine wzb ?_; intro b_) | fail)
  have hbl := be_len k (n.setWidth 64)
  refine cx_loop (α := { i : Nat // i ≤ k }) (fun y => [(0, none, .int .u16 n.toNat), (1, none, .int .i64 k), (5, none, .slice (some ⟨b_, 0, none⟩) k k), (10, none, .int .i64 k), (11, none, .int .i64 y.1)])
    (fun y => [.own (some ⟨b_, 0, none⟩) k k 5 1 (bvs ((be k (n.setWidth 64)).take y.1 ++ List.replicate (k - y.1) 0#8))]) (fun y => k - y.1) ⟨0, Nat.zero_le _⟩ ⟨rfl, rfl, rfl, rfl, rfl, trivial⟩ ?_ ?_
  · dsimp only
    rw [List.take_zero, List.nil_append, Nat.sub_zero, ← bvs_zero]
    exact Gives.blkown 0 (m := k) (sz := 1) rfl (by simp) (by unfold maxLen; omega)
  rintro ⟨i, hi⟩
  dsimp only
  repeat (first | refine wz ?_ | (refine wzb ?_; intro b_) | fail)
  refine cx_cond rfl (fun h => ?_) (fun h => ?_)
  · have hlt : i < k := by simp at h; omega
    have hy := be_get (n.setWidth 64) hlt
    have hset := fill_step (k := k) hbl hy
    have hm : (8 : Int) * ((k : Int) - 1 - (i : Int)) = ((8 * (k - 1 - i) : Nat) : Int) := by omega
    generalize (be k (n.setWidth 64)) = l at hbl hset hy ⊢
    repeat (first | ((first | (apply lx_u; exact rfl) | (apply lx_g; exact rfl; exact rfl)); first | (apply isy_convert; exact q_cv uk64 n rfl rfl rfl rfl) | (apply isy_bin_mul; exact yl_eq (yl_mul rfl rfl (by first | exact fun _ => rfl | exact fun h => h | exact fun h => (Bool.and_eq_true_iff.1 h).1) (by first | exact fun _ => rfl | exact fun h => h | exact fun h => (Bool.and_eq_true_iff.1 h).1) (fun _ => by omega)) (fun _ => congrArg (Value.int .i64) hm)) | (apply isy_bin_shr; exact q_bshr uk64 (n.setWidth 64) (8 * (k - 1 - i)) rfl rfl rfl rfl) | (apply isy_convert; exact q_cv uk8 _ rfl rfl rfl rfl) | (apply isy_indexAddr; exact q_xs rfl rfl rfl rfl) | fail) | (refine isx_store ?_; refine lx_storeI (E := EV) 0 rfl rfl rfl rfl rfl rfl rfl rfl rfl (by show i + 1 ≤ (bvs _).length; simp [bvs_len]; omega) rfl (fun _ => trivial) ?_) | refine wz ?_ | (refine wzb ?_; intro b_) | fail)
    refine ⟨⟨i + 1, by omega⟩, ⟨rfl, rfl, rfl, rfl, slot_int (by dsimp only; omega), trivial⟩, ?_, by dsimp only; omega⟩
    dsimp only
    rw [← hset]
    exact Gives.refl _
  · obtain rfl : i = k := by simp at h; omega
    rw [Nat.sub_self, List.take_of_length_le (by omega), List.replicate_zero, List.append_nil]
    repeat (first | refine wz ?_ | (refine wzb ?_; intro b_) | fail)
    exact bq_ret (ret_tmp rfl rfl) [_] (Gives.refl _) rfl ⟨_, _, rfl, rfl⟩


set_option maxHeartbeats 1000000 in
theorem put32_any (n : BitVec 32) (k : Nat) (hk : k ≤ 8) : Fn Tryz.prog 102 [.int .u32 n.toNat, .int .i64 k] [] [] fun v Lo => ∃ A c, v = .slice A k c ∧ Lo = [.own A k c 5 1 (bvs (be k (n.setWidth 64)))] := by
  refine fn_enter Tryz.func102 rfl rfl (by kernel_rfl) rfl ?_
  intro w0
  repeat (first | (refine isx_make ?_; (refine isx_make ?_; refine lx_make (E := EV) k rfl rfl rfl rfl rfl rfl rfl rfl rfl rfl rfl rfl rfl rfl (by show 1 * k ≤ _; omega) (by omega) ?_; intro b_)) | refine wz ?_ | (refine wzb ?_; intro b_) | fail)
  have hbl := be_len k (n.setWidth 64)
  refine cx_loop (α := { i : Nat // i ≤ k }) (fun y => [(0, none, .int .u32 n.toNat), (1, none, .int .i64 k), (5, none, .slice (some ⟨b_, 0, none⟩) k k), (10, none, .int .i64 k), (11, none, .int .i64 y.1)])
    (fun y => [.own (some ⟨b_, 0, none⟩) k k 5 1 (bvs ((be k (n.setWidth 64)).take y.1 ++ List.replicate (k - y.1) 0#8))]) (fun y => k - y.1) ⟨0, Nat.zero_le _⟩ ⟨rfl, rfl, rfl, rfl, rfl, trivial⟩ ?_ ?_
  · dsimp only
    rw [List.take_zero, List.nil_append, Nat.sub_zero, ← bvs_zero]
    exact Gives.blkown 0 (m := k) (sz := 1) rfl (by simp) (by unfold maxLen; omega)
  rintro ⟨i, hi⟩
  dsimp only
  repeat (first | refine wz ?_ | (refine wzb ?_; intro b_) | fail)
  refine cx_cond rfl (fun h => ?_) (fun h => ?_)
  · have hlt : i < k := by simp at h; omega
    have hy := be_get (n.setWidth 64) hlt
    have hset := fill_step (k := k) hbl hy
    have hm : (8 : Int) * ((k : Int) - 1 - (i : Int)) = ((8 * (k - 1 - i) : Nat) : Int) := by omega
    generalize (be k (n.setWidth 64)) = l at hbl hset hy ⊢
    repeat (first | ((first | (apply lx_u; exact rfl) | (apply lx_g; exact rfl; exact rfl)); first | (apply isy_convert; exact q_cv uk64 n rfl rfl rfl rfl) | (apply isy_bin_mul; exact yl_eq (yl_mul rfl rfl (by first | exact fun _ => rfl | exact fun h => h | exact fun h => (Bool.and_eq_true_iff.1 h).1) (by first | exact fun _ => rfl | exact fun h => h | exact fun h => (Bool.and_eq_true_iff.1 h).1) (fun _ => by omega)) (fun _ => congrArg (Value.int .i64) hm)) | (apply isy_bin_shr; exact q_bshr uk64 (n.setWidth 64) (8 * (k - 1 - i)) rfl rfl rfl rfl) | (apply isy_convert; exact q_cv uk8 _ rfl rfl rfl rfl) | (apply isy_indexAddr; exact q_xs rfl rfl rfl rfl) | fail) | (refine isx_store ?_; refine lx_storeI (E := EV) 0 rfl rfl rfl rfl rfl rfl rfl rfl rfl (by show i + 1 ≤ (bvs _).length; simp [bvs_len]; omega) rfl (fun _ => trivial) ?_) | refine wz ?_ | (refine wzb ?_; intro b_) | fail)
    refine ⟨⟨i + 1, by omega⟩, ⟨rfl, rfl, rfl, rfl, slot_int (by dsimp only; omega), trivial⟩, ?_, by dsimp only; omega⟩
    dsimp only
    rw [← hset]
    exact Gives.refl _
  · obtain rfl : i = k := by simp at h; omega
    rw [Nat.sub_self, List.take_of_length_le (by omega), List.replicate_zero, List.append_nil]
    repeat (first | refine wz ?_ | (refine wzb ?_; intro b_) | fail)
    exact bq_ret (ret_tmp rfl rfl) [_] (Gives.refl _) rfl ⟨_, _, rfl, rfl⟩


set_option maxHeartbeats 1000000 in
theorem put64_any (n : BitVec 64) (k : Nat) (hk : k ≤ 8) : Fn Tryz.prog 168 [.int .u64 n.toNat, .int .i64 k] [] [] fun v Lo => ∃ A c, v = .slice A k c ∧ Lo = [.own A k c 5 1 (bvs (be k n))] := by
  refine fn_enter Tryz.func168 rfl rfl (by kernel_rfl) rfl ?_
  intro w0
  repeat (first | (refine isx_make ?_; (refine isx_make ?_; refine lx_make (E := EV) k rfl rfl rfl rfl rfl rfl rfl rfl rfl rfl rfl rfl rfl rfl (by show 1 * k ≤ _; omega) (by omega) ?_; intro b_)) | refine wz ?_ | (refine wzb ?_; intro b_) | fail)
  have hbl := be_len k n
  refine cx_loop (α := { i : Nat // i ≤ k }) (fun y => [(0, none, .int .u64 n.toNat), (1, none, .int .i64 k), (5, none, .slice (some ⟨b_, 0, none⟩) k k), (10, none, .int .i64 k), (11, none, .int .i64 y.1)])
    (fun y => [.own (some ⟨b_, 0, none⟩) k k 5 1 (bvs ((be k n).take y.1 ++ List.replicate (k - y.1) 0#8))]) (fun y => k - y.1) ⟨0, Nat.zero_le _⟩ ⟨rfl, rfl, rfl, rfl, rfl, trivial⟩ ?_ ?_
  · dsimp only
    rw [List.take_zero, List.nil_append, Nat.sub_zero, ← bvs_zero]
    exact Gives.blkown 0 (m := k) (sz := 1) rfl (by simp) (by unfold maxLen; omega)
  rintro ⟨i, hi⟩
  dsimp only
  repeat (first | refine wz ?_ | (refine wzb ?_; intro b_) | fail)
  refine cx_cond rfl (fun h => ?_) (fun h => ?_)
  · have hlt : i < k := by simp at h; omega
    have hy := be_get n hlt
    have hset := fill_step (k := k) hbl hy
    have hm : (8 : Int) * ((k : Int) - 1 - (i : Int)) = ((8 * (k - 1 - i) : Nat) : Int) := by omega
    generalize (be k n) = l at hbl hset hy ⊢
    repeat (first | ((first | (apply lx_u; exact rfl) | (apply lx_g; exact rfl; exact rfl)); first | (apply isy_convert; exact q_cv uk64 n rfl rfl rfl rfl) | (apply isy_bin_mul; exact yl_eq (yl_mul rfl rfl (by first | exact fun _ => rfl | exact fun h => h | exact fun h => (Bool.and_eq_true_iff.1 h).1) (by first | exact fun _ => rfl | exact fun h => h | exact fun h => (Bool.and_eq_true_iff.1 h).1) (fun _ => by omega)) (fun _ => congrArg (Value.int .i64) hm)) | (apply isy_bin_shr; exact q_bshr uk64 n (8 * (k - 1 - i)) rfl rfl rfl rfl) | (apply isy_convert; exact q_cv uk8 _ rfl rfl rfl rfl) | (apply isy_indexAddr; exact q_xs rfl rfl rfl rfl) | fail) | (refine isx_store ?_; refine lx_storeI (E := EV) 0 rfl rfl rfl rfl rfl rfl rfl rfl rfl (by show i + 1 ≤ (bvs _).length; simp [bvs_len]; omega) rfl (fun _ => trivial) ?_) | refine wz ?_ | (refine wzb ?_; intro b_) | fail)
    refine ⟨⟨i + 1, by omega⟩, ⟨rfl, rfl, rfl, rfl, slot_int (by dsimp only; omega), trivial⟩, ?_, by dsimp only; omega⟩
    dsimp only
    rw [← hset]
    exact Gives.refl _
  · obtain rfl : i = k := by simp at h; omega
    rw [Nat.sub_self, List.take_of_length_le (by omega), List.replicate_zero, List.append_nil]
    repeat (first | refine wz ?_ | (refine wzb ?_; intro b_) | fail)
    exact bq_ret (ret_tmp rfl rfl) [_] (Gives.refl _) rfl ⟨_, _, rfl, rfl⟩


theorem put8_fn (n : BitVec 8) : Fn Tryz.prog 77 [.int .u8 n.toNat] [] [] fun v Lo => ∃ A c, v = .slice A 1 c ∧ Lo = [.own A 1 c 5 1 (bvs (be 1 (n.setWidth 64)))] := by
  refine fn_enter Tryz.func77 rfl rfl (by kernel_rfl) rfl ?_
  intro w0
  repeat (first | (refine isx_call ?_; (refine lx_call0 (put8_any n 1 (by omega)) (fun _ hm => in_nil hm) rfl rfl rfl rfl rfl rfl rfl rfl ?_; rintro v_ Lo_ ⟨A_, c_, rfl, rfl⟩)) | refine wz ?_ | (refine wzb ?_; intro b_) | fail)
  exact bq_ret (ret_tmp rfl rfl) [_] (Gives.refl _) rfl ⟨_, _, rfl, rfl⟩


theorem put16_fn (n : BitVec 16) : Fn Tryz.prog 150 [.int .u16 n.toNat] [] [] fun v Lo => ∃ A c, v = .slice A 2 c ∧ Lo = [.own A 2 c 5 1 (bvs (be 2 (n.setWidth 64)))] := by
  refine fn_enter Tryz.func150 rfl rfl (by kernel_rfl) rfl ?_
  intro w0
  repeat (first | (refine isx_call ?_; (refine lx_call0 (put16_any n 2 (by omega)) (fun _ hm => in_nil hm) rfl rfl rfl rfl rfl rfl rfl rfl ?_; rintro v_ Lo_ ⟨A_, c_, rfl, rfl⟩)) | refine wz ?_ | (refine wzb ?_; intro b_) | fail)
  exact bq_ret (ret_tmp rfl rfl) [_] (Gives.refl _) rfl ⟨_, _, rfl, rfl⟩


theorem put32_fn (n : BitVec 32) : Fn Tryz.prog 78 [.int .u32 n.toNat] [] [] fun v Lo => ∃ A c, v = .slice A 4 c ∧ Lo = [.own A 4 c 5 1 (bvs (be 4 (n.setWidth 64)))] := by
  refine fn_enter Tryz.func78 rfl rfl (by kernel_rfl) rfl ?_
  intro w0
  repeat (first | (refine isx_call ?_; (refine lx_call0 (put32_any n 4 (by omega)) (fun _ hm => in_nil hm) rfl rfl rfl rfl rfl rfl rfl rfl ?_; rintro v_ Lo_ ⟨A_, c_, rfl, rfl⟩)) | refine wz ?_ | (refine wzb ?_; intro b_) | fail)
  exact bq_ret (ret_tmp rfl rfl) [_] (Gives.refl _) rfl ⟨_, _, rfl, rfl⟩


theorem put64_fn (n : BitVec 64) : Fn Tryz.prog 151 [.int .u64 n.toNat] [] [] fun v Lo => ∃ A c, v = .slice A 8 c ∧ Lo = [.own A 8 c 5 1 (bvs (be 8 n))] := by
  refine fn_enter Tryz.func151 rfl rfl (by kernel_rfl) rfl ?_
  intro w0
  repeat (first | (refine isx_call ?_; (refine lx_call0 (put64_any n 8 (by omega)) (fun _ hm => in_nil hm) rfl rfl rfl rfl rfl rfl rfl rfl ?_; rintro v_ Lo_ ⟨A_, c_, rfl, rfl⟩)) | refine wz ?_ | (refine wzb ?_; intro b_) | fail)
  exact bq_ret (ret_tmp rfl rfl) [_] (Gives.refl _) rfl ⟨_, _, rfl, rfl⟩


theorem putInt_fn (n : Int) : Fn Tryz.prog 136 [.int .i64 n] [] [] fun v Lo => ∃ A c, v = .slice A 8 c ∧ Lo = [.own A 8 c 5 1 (bvs (be 8 (BitVec.ofInt 64 n)))] := by
  refine fn_enter Tryz.func136 rfl rfl (by kernel_rfl) rfl ?_
  intro w0
  repeat (first | ((first | (apply lx_u; exact rfl) | (apply lx_g; exact rfl; exact rfl)); first | (apply isy_convert; exact q_ci uk64 rfl rfl rfl) | fail) | (refine isx_call ?_; (refine lx_call0 (put64_fn (BitVec.ofInt 64 n)) (fun _ hm => in_nil hm) rfl rfl rfl rfl rfl rfl rfl rfl ?_; rintro v_ Lo_ ⟨A_, c_, rfl, rfl⟩)) | refine wz ?_ | (refine wzb ?_; intro b_) | fail)
  exact bq_ret (ret_tmp rfl rfl) [_] (Gives.refl _) rfl ⟨_, _, rfl, rfl⟩

/-- a text, packed -/
def txt (l : List B8) : List B8 := be 2 (BitVec.ofNat 64 l.length) ++ l
theorem len16 (l : List B8) (h : l.length ≤ 65535) : ((BitVec.ofInt 16 (l.length : Int)).setWidth 64 : BitVec 64) = BitVec.ofNat 64 l.length := by
  apply BitVec.eq_of_toNat_eq
  rw [ofInt_nat]
  simp only [BitVec.toNat_setWidth, BitVec.toNat_ofNat]
  omega
theorem txt_len (l : List B8) : (txt l).length = 2 + l.length := by rw [txt, List.length_append, be_len]

theorem putText_fn (l : List B8) (hl : l.length ≤ 65535) : Fn Tryz.prog 135 [.string (sb l)] [] [] fun v Lo => ∃ A c, v = .tuple #[.slice A (2 + l.length) c, .int .i64 0] ∧ Lo = [.own A (2 + l.length) c 5 1 (bvs (txt l))] := by
  refine fn_enter Tryz.func135 rfl rfl (by kernel_rfl) rfl ?_
  intro w0
  repeat (first | ((first | (apply lx_u; exact rfl) | (apply lx_g; exact rfl; exact rfl)); first | (apply isy_blt; exact q_slen rfl rfl) | fail) | refine wz ?_ | (refine wzb ?_; intro b_) | fail)
  refine cx_cond rfl (fun h => by simp at h; omega) (fun _ => ?_)
  repeat (first | ((first | (apply lx_u; exact rfl) | (apply lx_g; exact rfl; exact rfl)); first | (apply isy_blt; exact q_slen rfl rfl) | (apply isy_convert; exact q_ci uk16 rfl rfl rfl) | fail) | (refine isx_call ?_; (refine lx_call0 (put16_fn (BitVec.ofInt 16 (l.length : Int))) (fun _ hm => in_nil hm) rfl rfl rfl rfl rfl rfl rfl rfl ?_; rintro v_ Lo_ ⟨A_, c_, rfl, rfl⟩)) | refine wz ?_ | (refine wzb ?_; intro b_) | fail)
  refine lx_appendS (E := EV) 0 rfl rfl rfl rfl rfl rfl rfl rfl rfl rfl rfl rfl rfl (by omega) (fun _ _ _ => trivial) ?_
  intro A' c'
  rw [← bvs_append, len16 l hl]
  repeat (first | refine wz ?_ | (refine wzb ?_; intro b_) | fail)
  exact bq_ret (ret_tmp2 rfl rfl rfl) [_] (Gives.refl _) rfl ⟨_, _, rfl, rfl⟩
theorem grow_fn (m : Nat) (hm : m ≤ 140737488355328) : Fn Tryz.prog 127 [.slice none 0 0, .int .i64 m] [] [] fun v Lo => ∃ A c, v = .slice A 0 c ∧ Lo = [.own A 0 c 5 1 []] := by
  refine fn_enter Tryz.func127 rfl rfl (by kernel_rfl) rfl ?_
  intro w0
  repeat (first | refine wz ?_ | (refine wzb ?_; intro b_) | fail)
  refine cx_cond rfl (fun h => by simp at h; omega) (fun _ => ?_)
  repeat (first | refine wz ?_ | (refine wzb ?_; intro b_) | fail)
  refine cx_cond rfl (fun h => ?_) (fun h => ?_)
  · have h0 : 0 < m := by simp at h; omega
    repeat (first | ((first | (apply lx_u; exact rfl) | (apply lx_g; exact rfl; exact rfl)); first | (apply isy_slice; exact q_slh rfl rfl rfl rfl) | fail) | refine wz ?_ | (refine wzb ?_; intro b_) | fail)
    refine lx_zeros (E := EV) rfl rfl rfl rfl rfl rfl (m := m) (by simp) rfl rfl rfl rfl rfl rfl h0 hm ?_
    intro A' c'
    repeat (first | ((first | (apply lx_u; exact rfl) | (apply lx_g; exact rfl; exact rfl)); first | (apply isy_slice; exact q_slh rfl rfl rfl rfl) | fail) | refine wz ?_ | (refine wzb ?_; intro b_) | fail)
    exact bq_ret (ret_tmp rfl rfl) [_] ((Gives.owncut 0 0 rfl (Nat.zero_le _)).trans (Gives.refl _)) rfl ⟨_, _, rfl, rfl⟩
  · repeat (first | refine wz ?_ | (refine wzb ?_; intro b_) | fail)
    exact bq_ret (ret_tmp rfl rfl) [_] (Gives.nilown _ 5 1) rfl ⟨_, _, rfl, rfl⟩


set_option maxHeartbeats 1000000 in
theorem concat_fn (A : Option Addr) (n c : Nat) (rs : List Rw) (hl : rs.length = n) (hn : n ≤ 9223372036854775807) (hm : (cat rs).length ≤ 70368744177664) : Fn Tryz.prog 100 [.slice A n c] [.rows A n rs] [] fun v Lo => ∃ A' c', v = .slice A' (cat rs).length c' ∧ Lo = [.own A' (cat rs).length c' 5 1 (bvs (cat rs))] := by
  refine fn_enter Tryz.func100 rfl rfl (by kernel_rfl) rfl ?_
  intro w0
  repeat (first | refine wz ?_ | (refine wzb ?_; intro b_) | fail)
  refine cx_loop (α := { i : Nat // i ≤ n }) (fun x => [(0, none, .slice A n c), (3, none, .int .i64 (cat (rs.take x.1)).length), (9, none, .slice A n c), (10, none, .int .i64 n), (11, none, .int .i64 x.1)]) (fun _ => [.rows A n rs]) (fun x => n - x.1) ⟨0, Nat.zero_le _⟩ ⟨rfl, rfl, rfl, rfl, rfl, trivial⟩ (Gives.refl _) ?_
  rintro ⟨i, hi⟩
  dsimp only
  have hle := cat_le rs i
  repeat (first | refine wz ?_ | (refine wzb ?_; intro b_) | fail)
  refine cx_cond rfl (fun h => ?_) (fun h => ?_)
  · have hlt : i < n := by simp at h; omega
    obtain ⟨r, hr⟩ : ∃ r, rs[i]? = some r := ⟨_, List.getElem?_eq_getElem (by omega)⟩
    have hr0 := rwv_get hr
    have hstep := cat_take hr
    have hle2 := cat_le rs (i + 1)
    repeat (first | refine wz ?_ | (refine wzb ?_; intro b_) | fail)
    refine lx_fact (fun w hm => rows_ok 0 rfl hr hm) fun ⟨hrl, hrc, hrm⟩ => ?_
    refine lx_more (L' := [.ro A n 1 (rwv rs), .rows A n rs]) (Gives.rows 0 rfl) (Gives.pick [1] (by decide) rfl) ?_
    rw [hstep, List.length_append, hrl] at hle2
    repeat (first | ((first | (apply lx_u; exact rfl) | (apply lx_g; exact rfl; exact rfl)); first | (apply isy_indexAddr; exact q_ix 0 rfl rfl rfl rfl rfl) | (apply isy_load; exact q_li 0 rfl rfl rfl rfl hr0) | fail) | refine wz ?_ | (refine wzb ?_; intro b_) | fail)
    refine cx_cond rfl (fun h => by simp at h; omega) (fun _ => ?_)
    repeat (first | refine wz ?_ | (refine wzb ?_; intro b_) | fail)
    exact ⟨⟨i + 1, by omega⟩, ⟨rfl, slot_int (by dsimp only; rw [hstep, List.length_append, hrl]; omega), rfl, rfl, slot_int (by dsimp only; omega), trivial⟩, Gives.pick [1] (by decide) rfl, by dsimp only; omega⟩
  obtain rfl : i = n := by simp at h; omega
  rw [List.take_of_length_le (by omega)]
  repeat (first | (refine isx_call ?_; (refine lx_call0 (grow_fn (cat rs).length (by omega)) (fun _ hm => in_nil hm) rfl rfl rfl rfl rfl rfl rfl rfl ?_; rintro v_ Lo_ ⟨A_, c_, rfl, rfl⟩)) | refine wz ?_ | (refine wzb ?_; intro b_) | fail)
  refine cx_loop (α := { x : Nat × Option Addr × Nat // x.1 ≤ i }) (fun x => [(6, none, .slice x.1.2.1 (cat (rs.take x.1.1)).length x.1.2.2), (25, none, .slice A i c), (26, none, .int .i64 i), (27, none, .int .i64 x.1.1)])
    (fun x => [.own x.1.2.1 (cat (rs.take x.1.1)).length x.1.2.2 5 1 (bvs (cat (rs.take x.1.1))), .rows A i rs]) (fun x => i - x.1.1) ⟨(0, A_, c_), Nat.zero_le _⟩ ⟨rfl, rfl, rfl, rfl, trivial⟩ (Gives.refl _) ?_
  rintro ⟨⟨j, Aj, cj⟩, hj⟩
  dsimp only at hj ⊢
  repeat (first | refine wz ?_ | (refine wzb ?_; intro b_) | fail)
  refine cx_cond rfl (fun h => ?_) (fun h => ?_)
  · have hlt : j < i := by simp at h; omega
    obtain ⟨r, hr⟩ : ∃ r, rs[j]? = some r := ⟨_, List.getElem?_eq_getElem (by omega)⟩
    have hr0 := rwv_get hr
    have hstep := cat_take hr
    have hle2 := cat_le rs (j + 1)
    repeat (first | refine wz ?_ | (refine wzb ?_; intro b_) | fail)
    refine lx_fact (fun w hm => rows_ok 1 rfl hr hm) fun ⟨hrl, hrc, hrm⟩ => ?_
    refine lx_more (L' := [.own Aj (cat (rs.take j)).length cj 5 1 (bvs (cat (rs.take j))), .ro r.A r.n 1 (bvs r.l), .ro A i 1 (rwv rs), .rows A i rs]) (((Gives.rows 1 rfl).trans (Gives.rowsAt 2 rfl hr)).trans (Gives.pick [2, 0, 1, 3] (by decide) rfl)) (Gives.pick [0, 3] (by decide) rfl) ?_
    rw [hstep, List.length_append, hrl] at hle2
    repeat (first | ((first | (apply lx_u; exact rfl) | (apply lx_g; exact rfl; exact rfl)); first | (apply isy_indexAddr; exact q_ix 2 rfl rfl rfl rfl rfl) | (apply isy_load; exact q_li 2 rfl rfl rfl rfl hr0) | fail) | refine wz ?_ | (refine wzb ?_; intro b_) | fail)
    refine lx_append (E := EV) 0 rfl rfl rfl rfl rfl rfl rfl rfl rfl rfl rfl rfl rfl (news := bvs r.l) (fun w hm => row_ro 1 rfl hm) bvs_one (by unfold maxLen; omega) (by show ((cat (rs.take j)).length + r.n) * 1 ≤ _; omega) (fun _ _ _ => trivial) ?_
    intro A' c'
    repeat (first | refine wz ?_ | (refine wzb ?_; intro b_) | fail)
    have e : (cat (rs.take j)).length + r.n = (cat (rs.take (j + 1))).length := by rw [hstep, List.length_append, hrl]
    rw [e, ← bvs_append, ← hstep]
    exact ⟨⟨(j + 1, A', c'), by dsimp only; omega⟩, ⟨rfl, rfl, rfl, slot_int (by dsimp only; omega), trivial⟩, Gives.pick [0, 3] (by decide) rfl, by dsimp only; omega⟩
  obtain rfl : j = i := by simp at h; omega
  rw [List.take_of_length_le (by omega)]
  repeat (first | refine wz ?_ | (refine wzb ?_; intro b_) | fail)
  exact bq_ret (ret_tmp rfl rfl) [_] (Gives.pick [0] (by decide) rfl) rfl ⟨_, _, rfl, rfl⟩
theorem join_fn (A : Option Addr) (n c : Nat) (rs : List Rw) (hl : rs.length = n) (hn : n ≤ 9223372036854775807) (hm : (cat rs).length ≤ 70368744177664) : Fn Tryz.prog 76 [.slice A n c] [.rows A n rs] [] fun v Lo => ∃ A' c', v = .slice A' (cat rs).length c' ∧ Lo = [.own A' (cat rs).length c' 5 1 (bvs (cat rs))] := by
  refine fn_enter Tryz.func76 rfl rfl (by kernel_rfl) rfl ?_
  intro w0
  repeat (first | (refine isx_call ?_; (refine lx_call0 (concat_fn A n c rs hl hn hm) ((fun w hm => hm.ros [0] (by decide) rfl rfl)) rfl rfl rfl rfl rfl rfl rfl rfl ?_; rintro v_ Lo_ ⟨A_, c_, rfl, rfl⟩)) | refine wz ?_ | (refine wzb ?_; intro b_) | fail)
  exact bq_ret (ret_tmp rfl rfl) [_] (Gives.pick [0] (by decide) rfl) rfl ⟨_, _, rfl, rfl⟩

end Go.Proofs.YtmochicneilhhaaGreat.pk
