/- checks: the last of the program's functions, and the reference's. -/
import Derived.Test.YtmochicneilhhaaGreatPCc
import Derived.Test.YtmochicneilhhaaGreatPGo
namespace Go.Proofs.YtmochicneilhhaaGreat.chk
open Go.RowKit Go.Proofs.YtmochicneilhhaaGreat.crc
def ofL (c : R) : List B := [(c >>> 24).setWidth 8, (c >>> 16).setWidth 8, (c >>> 8).setWidth 8, c.setWidth 8]
theorem two_rem (x : R) : (x % 2#32 == 1#32) = (x &&& 1#32 == 1#32) := by
  have h1 : (x % 2#32).toNat = x.toNat % 2 := by rw [BitVec.toNat_umod]; rfl
  have h2 : (x &&& 1#32).toNat = x.toNat % 2 := by rw [BitVec.toNat_and]; exact Nat.and_one_is_mod _
  have : x % 2#32 = x &&& 1#32 := BitVec.eq_of_toNat_eq (by rw [h1, h2])
  rw [this]
theorem two_quo (x : R) : x / 2#32 = x >>> 1 := by
  apply BitVec.eq_of_toNat_eq
  rw [BitVec.toNat_udiv, BitVec.toNat_ushiftRight, Nat.shiftRight_eq_div_pow]
  rfl
theorem sub_ones (x : R) : ones - x = x ^^^ ones := by
  have h : ones = BitVec.allOnes 32 := by decide
  rw [h, BitVec.allOnes_sub_eq_not, BitVec.not_def, BitVec.xor_comm]
theorem sumR_flat (s : R) (rs : List Rw) : sumR s rs = upd s (rs.flatMap (·.l)) := by
  induction rs generalizing s with
  | nil => exact (upd_nil s).symm
  | cons r rs ih =>
    show sumR (upd s r.l) rs = _
    rw [ih, upd_append]
    rfl
theorem byte_quo (c : R) : (c / 16777216#32).setWidth 8 = (c >>> 24).setWidth 8 ∧ ((c / 65536#32) % 256#32).setWidth 8 = (c >>> 16).setWidth 8 ∧ ((c / 256#32) % 256#32).setWidth 8 = (c >>> 8).setWidth 8 ∧ (c % 256#32).setWidth 8 = c.setWidth 8 := by
  refine ⟨?_, ?_, ?_, ?_⟩ <;> apply BitVec.eq_of_toNat_eq <;> simp only [BitVec.toNat_setWidth, BitVec.toNat_udiv, BitVec.toNat_umod, BitVec.toNat_ushiftRight, Nat.shiftRight_eq_div_pow, BitVec.toNat_ofNat, Nat.reducePow, Nat.reduceMod] <;> omega
attribute [local irreducible] LX CX Yl Gives RetIs Fn
attribute [local irreducible] crc.many crc.row crc.one tabS takes take

theorem sum1_fn (b : Nat) (A : Option Addr) (n c : Nat) (l : List B) : Fn Tryz.prog 79 [.slice (some ⟨b, 0, none⟩) 1 1] [.rows (some ⟨b, 0, none⟩) 1 [⟨A, n, c, l⟩]] [] fun v Lo => v = .int .u32 (upd 0#32 l).toNat ∧ Lo = [] := sum_fn _ 1 1 [⟨A, n, c, l⟩] rfl (by omega)









theorem is_fn (A : Option Addr) (n c : Nat) (l : List B) (s : R) (hc : n ≤ c ∧ c ≤ 9223372036854775807) : Fn Tryz.prog 158 [.slice A n c, .int .u32 s.toNat] [.ro A n 1 (bvs l)] [] fun v Lo => v = .bool (upd 0#32 l == s) ∧ Lo = [] := by
  refine fn_enter Tryz.func158 rfl rfl (by kernel_rfl) rfl ?_
  intro w0
  repeat (first | ((first | (apply lx_u; exact rfl) | (apply lx_g; exact rfl; exact rfl)); first | (apply isy_bin_eql; exact yl_beq _ _ rfl rfl rfl rfl (by first | exact fun _ => rfl | exact fun h => h | exact fun h => (Bool.and_eq_true_iff.1 h).1) (by first | exact fun _ => rfl | exact fun h => h | exact fun h => (Bool.and_eq_true_iff.1 h).1)) | fail) | (refine isx_call ?_; refine k_gcall (sum1_fn _ A n c l) ((fun w hm => rows_one hm rfl (row_ro 1 rfl hm) hc)) rfl rfl rfl rfl rfl rfl ?_) | refine wz ?_ | (refine wzb ?_; intro b_) | fail)
  exact bq_ret (ret_tmp rfl rfl) [] (Gives.nil _) rfl ⟨rfl, rfl⟩











theorem rTake_fn (r : R) (x : B) : Fn Tryz.prog 130 [.int .u32 r.toNat, bv x] [] [] fun v Lo => v = .int .u32 (take r x).toNat ∧ Lo = [] := by
  refine fn_enter Tryz.func130 rfl rfl (by kernel_rfl) rfl ?_
  intro w0
  repeat (first | ((first | (apply lx_u; exact rfl) | (apply lx_g; exact rfl; exact rfl)); first | (apply isy_convert; exact yl_cv (E := EV) uk32 _ rfl rfl rfl rfl (by first | exact fun _ => rfl | exact fun h => h | exact fun h => (Bool.and_eq_true_iff.1 h).1)) | (apply isy_bin_xor; exact yl_xor uk32 _ _ rfl rfl rfl rfl (by first | exact fun _ => rfl | exact fun h => h | exact fun h => (Bool.and_eq_true_iff.1 h).1) (by first | exact fun _ => rfl | exact fun h => h | exact fun h => (Bool.and_eq_true_iff.1 h).1)) | fail) | refine wz ?_ | (refine wzb ?_; intro b_) | fail)
  have ht : take r x = many 8 (r ^^^ x.setWidth 32) := by unfold take; rfl
  rw [ht]
  generalize r ^^^ x.setWidth 32 = c0
  refine cx_loop (α := { k : Nat // k ≤ 8 }) (fun x => [(5, none, .int .u32 (crc.many x.1 c0).toNat), (6, none, .int .i64 x.1)]) (fun _ => []) (fun x => 8 - x.1) ⟨0, Nat.zero_le _⟩ ⟨by unfold crc.many; rfl, rfl, trivial⟩ (Gives.refl _) ?_
  rintro ⟨k, hk⟩
  dsimp only
  repeat (first | refine wz ?_ | (refine wzb ?_; intro b_) | fail)
  refine cx_cond rfl (fun h => ?_) (fun h => ?_)
  · have hk2 : k < 8 := by simp at h; omega
    repeat (first | ((first | (apply lx_u; exact rfl) | (apply lx_g; exact rfl; exact rfl)); first | (apply isy_bin_rem; exact yl_brem uk32 _ 2#32 rfl rfl rfl rfl (by first | exact fun _ => rfl | exact fun h => h | exact fun h => (Bool.and_eq_true_iff.1 h).1) (by first | exact fun _ => rfl | exact fun h => h | exact fun h => (Bool.and_eq_true_iff.1 h).1) (fun _ => by decide)) | (apply isy_bin_eql; exact yl_beq _ 1#32 rfl rfl rfl rfl (by first | exact fun _ => rfl | exact fun h => h | exact fun h => (Bool.and_eq_true_iff.1 h).1) (by first | exact fun _ => rfl | exact fun h => h | exact fun h => (Bool.and_eq_true_iff.1 h).1)) | fail) | refine wz ?_ | (refine wzb ?_; intro b_) | fail)
    refine cx_cond rfl (fun h1 => ?_) (fun h1 => ?_)
    · repeat (first | ((first | (apply lx_u; exact rfl) | (apply lx_g; exact rfl; exact rfl)); first | (apply isy_bin_quo; exact yl_bquo uk32 _ 2#32 rfl rfl rfl rfl (by first | exact fun _ => rfl | exact fun h => h | exact fun h => (Bool.and_eq_true_iff.1 h).1) (by first | exact fun _ => rfl | exact fun h => h | exact fun h => (Bool.and_eq_true_iff.1 h).1) (fun _ => by decide)) | (apply isy_bin_xor; exact yl_xor uk32 _ 0xEDB88320#32 rfl rfl rfl rfl (by first | exact fun _ => rfl | exact fun h => h | exact fun h => (Bool.and_eq_true_iff.1 h).1) (by first | exact fun _ => rfl | exact fun h => h | exact fun h => (Bool.and_eq_true_iff.1 h).1)) | fail) | refine wz ?_ | (refine wzb ?_; intro b_) | fail)
      exact ⟨⟨k + 1, by omega⟩, ⟨slot_int (by dsimp only; rw [many_succ, one_odd (by rw [← two_rem]; exact h1), two_quo]), slot_int (by dsimp only; omega), trivial⟩, Gives.refl _, by dsimp only; omega⟩
    · repeat (first | ((first | (apply lx_u; exact rfl) | (apply lx_g; exact rfl; exact rfl)); first | (apply isy_bin_quo; exact yl_bquo uk32 _ 2#32 rfl rfl rfl rfl (by first | exact fun _ => rfl | exact fun h => h | exact fun h => (Bool.and_eq_true_iff.1 h).1) (by first | exact fun _ => rfl | exact fun h => h | exact fun h => (Bool.and_eq_true_iff.1 h).1) (fun _ => by decide)) | fail) | refine wz ?_ | (refine wzb ?_; intro b_) | fail)
      exact ⟨⟨k + 1, by omega⟩, ⟨slot_int (by dsimp only; rw [many_succ, one_even (by rw [← two_rem]; exact h1), two_quo]), slot_int (by dsimp only; omega), trivial⟩, Gives.refl _, by dsimp only; omega⟩
  · obtain rfl : k = 8 := by simp at h; omega
    repeat (first | refine wz ?_ | (refine wzb ?_; intro b_) | fail)
    exact bq_ret (ret_tmp rfl rfl) [] (Gives.nil _) rfl ⟨rfl, rfl⟩























set_option maxHeartbeats 1000000 in
theorem rSum_fn (A : Option Addr) (n c : Nat) (rs : List Rw) (hl : rs.length = n) (hn : n ≤ 9223372036854775807) : Fn Tryz.prog 108 [.slice A n c] [.rows A n rs] [] fun v Lo => v = .int .u32 (sumR 0#32 rs).toNat ∧ Lo = [] := by
  refine fn_enter Tryz.func108 rfl rfl (by kernel_rfl) rfl ?_
  intro w0
  repeat (first | refine wz ?_ | (refine wzb ?_; intro b_) | fail)
  rw [sumR_flat]
  refine cx_loop (α := { i : Nat // i ≤ n }) (fun x => [(0, none, .slice A n c), (3, none, .int .u32 (takes ones ((rs.take x.1).flatMap (·.l))).toNat), (4, none, .int .i64 x.1)]) (fun _ => [.rows A n rs]) (fun x => n - x.1)
    ⟨0, Nat.zero_le _⟩ ⟨rfl, by unfold takes; rfl, rfl, trivial⟩ (Gives.refl _) ?_
  rintro ⟨i, hi⟩
  dsimp only
  repeat (first | refine wz ?_ | (refine wzb ?_; intro b_) | fail)
  refine cx_cond rfl (fun h => ?_) (fun h => ?_)
  · have hlt : i < n := by simp at h; omega
    obtain ⟨r, hr⟩ : ∃ r, rs[i]? = some r := ⟨_, List.getElem?_eq_getElem (by omega)⟩
    have hr0 := rwv_get hr
    repeat (first | refine wz ?_ | (refine wzb ?_; intro b_) | fail)
    refine cx_fact (fun w hm => rows_ok 0 rfl hr hm) fun ⟨hrl, hrc, hrm⟩ => ?_
    refine cx_loop (α := { k : Nat // k ≤ r.n }) (fun x => [(0, none, .slice A n c), (3, none, .int .u32 (takes ones ((rs.take i).flatMap (·.l) ++ r.l.take x.1)).toNat), (4, none, .int .i64 i), (5, none, .int .i64 x.1)]) (fun _ => [.ro r.A r.n 1 (bvs r.l), .ro A n 1 (rwv rs), .rows A n rs]) (fun x => r.n - x.1)
      ⟨0, Nat.zero_le _⟩ ⟨rfl, by simp only [List.take_zero, List.append_nil]; rfl, rfl, rfl, trivial⟩ ((Gives.rows 0 rfl).trans (Gives.rowsAt 1 rfl hr)) ?_
    rintro ⟨k, hk⟩
    dsimp only
    repeat (first | ((first | (apply lx_u; exact rfl) | (apply lx_g; exact rfl; exact rfl)); first | (apply isy_indexAddr; exact yl_index (E := EV) 1 rfl rfl rfl rfl rfl (Shows.ro ..) (by first | exact fun _ => rfl | exact fun h => h | exact fun h => (Bool.and_eq_true_iff.1 h).1) (by first | exact fun _ => rfl | exact fun h => h | exact fun h => (Bool.and_eq_true_iff.1 h).1) (fun _ => by omega)) | (apply isy_load; exact yl_loadI (E := EV) 1 rfl rfl rfl (Shows.ro ..) rfl (fun _ => hr0) (by first | exact fun _ => rfl | exact fun h => h | exact fun h => (Bool.and_eq_true_iff.1 h).1)) | fail) | refine wz ?_ | (refine wzb ?_; intro b_) | fail)
    refine cx_cond rfl (fun h => ?_) (fun h => ?_)
    · have hklt : k < r.n := by simp at h; omega
      obtain ⟨x, hx⟩ : ∃ x, r.l[k]? = some x := ⟨_, List.getElem?_eq_getElem (by omega)⟩
      have hx0 : (bvs r.l)[mulI k 1]? = some (bv x) := bvs_get hx
      repeat (first | ((first | (apply lx_u; exact rfl) | (apply lx_g; exact rfl; exact rfl)); first | (apply isy_indexAddr; exact yl_index (E := EV) 1 rfl rfl rfl rfl rfl (Shows.ro ..) (by first | exact fun _ => rfl | exact fun h => h | exact fun h => (Bool.and_eq_true_iff.1 h).1) (by first | exact fun _ => rfl | exact fun h => h | exact fun h => (Bool.and_eq_true_iff.1 h).1) (fun _ => by omega)) | (apply isy_indexAddr; exact yl_index (E := EV) 0 rfl rfl rfl rfl rfl (Shows.ro ..) (by first | exact fun _ => rfl | exact fun h => h | exact fun h => (Bool.and_eq_true_iff.1 h).1) (by first | exact fun _ => rfl | exact fun h => h | exact fun h => (Bool.and_eq_true_iff.1 h).1) (fun _ => by omega)) | (apply isy_load; exact yl_loadI (E := EV) 1 rfl rfl rfl (Shows.ro ..) rfl (fun _ => hr0) (by first | exact fun _ => rfl | exact fun h => h | exact fun h => (Bool.and_eq_true_iff.1 h).1)) | (apply isy_load; exact yl_loadI (E := EV) 0 rfl rfl rfl (Shows.ro ..) rfl (fun _ => hx0) (by first | exact fun _ => rfl | exact fun h => h | exact fun h => (Bool.and_eq_true_iff.1 h).1)) | fail) | (refine isx_call ?_; refine k_gcall (rTake_fn _ x) (fun _ hm => in_nil hm) rfl rfl rfl rfl rfl rfl ?_) | refine wz ?_ | (refine wzb ?_; intro b_) | fail)
      refine ⟨⟨k + 1, by omega⟩, ⟨rfl, slot_int ?_, rfl, slot_int (by dsimp only; omega), trivial⟩, Gives.refl _, by dsimp only; omega⟩
      dsimp only
      rw [takes_append, takes_append, takes_take _ hx]
    · obtain rfl : k = r.n := by simp at h; omega
      repeat (first | refine wz ?_ | (refine wzb ?_; intro b_) | fail)
      refine ⟨⟨i + 1, by omega⟩, ⟨rfl, slot_int ?_, slot_int (by dsimp only; omega), trivial⟩, Gives.pick [2] (by decide) rfl, by dsimp only; omega⟩
      dsimp only
      rw [show r.l.take r.n = r.l from List.take_of_length_le (by omega), List.take_add_one, hr]
      simp
  · obtain rfl : i = n := by simp at h; omega
    rw [List.take_of_length_le (by omega)]
    repeat (first | ((first | (apply lx_u; exact rfl) | (apply lx_g; exact rfl; exact rfl)); first | (apply isy_bin_sub; exact yl_bsub uk32 ones _ rfl rfl rfl rfl (by first | exact fun _ => rfl | exact fun h => h | exact fun h => (Bool.and_eq_true_iff.1 h).1) (by first | exact fun _ => rfl | exact fun h => h | exact fun h => (Bool.and_eq_true_iff.1 h).1)) | fail) | refine wz ?_ | (refine wzb ?_; intro b_) | fail)
    exact bq_ret (ret_tmp rfl rfl) [] (Gives.nil _) rfl ⟨by rw [sub_ones]; rfl, rfl⟩


theorem rSum1_fn (b : Nat) (A : Option Addr) (n c : Nat) (l : List B) : Fn Tryz.prog 108 [.slice (some ⟨b, 0, none⟩) 1 1] [.rows (some ⟨b, 0, none⟩) 1 [⟨A, n, c, l⟩]] [] fun v Lo => v = .int .u32 (upd 0#32 l).toNat ∧ Lo = [] := rSum_fn _ 1 1 [⟨A, n, c, l⟩] rfl (by omega)


theorem rOf_fn (A : Option Addr) (n c : Nat) (l : List B) (hc : n ≤ c ∧ c ≤ 9223372036854775807) : Fn Tryz.prog 84 [.slice A n c] [.ro A n 1 (bvs l)] [] fun v Lo => ∃ b, v = .slice (some ⟨b, 0, none⟩) 4 4 ∧ Lo = [.blk b (bvs (ofL (upd 0#32 l))) 5] := by
  refine fn_enter Tryz.func84 rfl rfl (by kernel_rfl) rfl ?_
  intro w0
  repeat (first | ((first | (apply lx_u; exact rfl) | (apply lx_g; exact rfl; exact rfl)); first | (apply isy_bin_quo; exact yl_bquo uk32 _ 16777216#32 rfl rfl rfl rfl (by first | exact fun _ => rfl | exact fun h => h | exact fun h => (Bool.and_eq_true_iff.1 h).1) (by first | exact fun _ => rfl | exact fun h => h | exact fun h => (Bool.and_eq_true_iff.1 h).1) (fun _ => by decide)) | (apply isy_bin_quo; exact yl_bquo uk32 _ 65536#32 rfl rfl rfl rfl (by first | exact fun _ => rfl | exact fun h => h | exact fun h => (Bool.and_eq_true_iff.1 h).1) (by first | exact fun _ => rfl | exact fun h => h | exact fun h => (Bool.and_eq_true_iff.1 h).1) (fun _ => by decide)) | (apply isy_bin_quo; exact yl_bquo uk32 _ 256#32 rfl rfl rfl rfl (by first | exact fun _ => rfl | exact fun h => h | exact fun h => (Bool.and_eq_true_iff.1 h).1) (by first | exact fun _ => rfl | exact fun h => h | exact fun h => (Bool.and_eq_true_iff.1 h).1) (fun _ => by decide)) | (apply isy_bin_rem; exact yl_brem uk32 _ 256#32 rfl rfl rfl rfl (by first | exact fun _ => rfl | exact fun h => h | exact fun h => (Bool.and_eq_true_iff.1 h).1) (by first | exact fun _ => rfl | exact fun h => h | exact fun h => (Bool.and_eq_true_iff.1 h).1) (fun _ => by decide)) | (apply isy_convert; exact yl_cv (E := EV) uk8 _ rfl rfl rfl rfl (by first | exact fun _ => rfl | exact fun h => h | exact fun h => (Bool.and_eq_true_iff.1 h).1)) | fail) | (refine isx_call ?_; refine k_gcall (rSum1_fn _ A n c l) ((fun w hm => rows_one hm rfl (row_ro 1 rfl hm) hc)) rfl rfl rfl rfl rfl rfl ?_) | refine wz ?_ | (refine wzb ?_; intro b_) | fail)
  refine bq_ret (ret_tmp rfl rfl) [_] (Gives.pick [0] (by decide) rfl) rfl ⟨b_, rfl, ?_⟩
  obtain ⟨h1, h2, h3, h4⟩ := byte_quo (upd 0#32 l)
  rw [h1, h2, h3, h4]
  rfl

end Go.Proofs.YtmochicneilhhaaGreat.chk
