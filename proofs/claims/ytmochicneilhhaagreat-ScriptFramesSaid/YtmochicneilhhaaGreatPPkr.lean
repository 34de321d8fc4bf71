/- packed numbers and texts: the reference's functions. -/
import Derived.Test.YtmochicneilhhaaGreatPGo
import Derived.Test.YtmochicneilhhaaGreatPPka
--SHORT 1
namespace Go.Proofs.YtmochicneilhhaaGreat
open Go.RowKit
section
variable {P : Program} {n : Nat} {t : Fr} {L : List Ck}
theorem ret_tmp_cell {E : Env P} {fn : Func} {d b off e : Nat} {T T' : TypeId} {v u : Value} (k : Nat) {cs : List Value} {j : TyI} (hr : fn.results = #[.tmp e, .cell d T]) (hd : lk t d = some (none, .pointer (some ⟨b, off, none⟩))) (he : lk t e = some (none, u)) (hT : E.f T = some j) (hk : L[k]? = some (.blk b cs T'))
    (hin : isAggD j.desc = true → off + j.size ≤ cs.length) (hv : evPart E.f T cs off = some v) : RetIs P fn t L (.tuple #[u, v]) := fun n M a w hf hm => by
  have hd' := hf.tmpq hd
  have he' := hf.tmpq he
  simp [results, hr, hd', he', asAddr, hm.loadVar hT hk hv hin]
end
end Go.Proofs.YtmochicneilhhaaGreat
namespace Go.Proofs.YtmochicneilhhaaGreat.pk
open Go.RowKit Go.Proofs.YtmochicneilhhaaGreat.kit
attribute [local irreducible] LX CX Yl Gives RetIs Fn
attribute [local irreducible] be

set_option maxHeartbeats 1000000 in
theorem rNumber_fn (n : BitVec 64) (k : Nat) (hk : k ≤ 8) : Fn Tryz.prog 81 [.int .u64 n.toNat, .int .i64 k] [] [] fun v Lo => ∃ A c, v = .slice A k c ∧ Lo = [.own A k c 5 1 (bvs (be k n))] := by
  refine fn_enter Tryz.func81 rfl rfl (by kernel_rfl) rfl ?_
  intro w0
  repeat (first | (refine isx_make ?_; (refine isx_make ?_; refine lx_make (E := EV) k rfl rfl rfl rfl rfl rfl rfl rfl rfl rfl rfl rfl rfl rfl (by show 1 * k ≤ _; omega) (by omega) ?_; intro b_)) | refine wz ?_ | (refine wzb ?_; intro b_) | fail)
  have hbl := be_len k n
  refine cx_loop (α := { j : Nat // j ≤ k }) (fun y => [(0, none, .int .u64 (n >>> (8 * y.1)).toNat), (5, none, .slice (some ⟨b_, 0, none⟩) k k), (6, none, .int .i64 ((k : Int) - 1 - y.1))])
    (fun y => [.own (some ⟨b_, 0, none⟩) k k 5 1 (bvs (List.replicate (k - y.1) 0#8 ++ (be k n).drop (k - y.1)))]) (fun y => k - y.1) ⟨0, Nat.zero_le _⟩ ⟨slot_int (by simp), rfl, slot_int (by dsimp only; omega), trivial⟩ ?_ ?_
  · dsimp only
    rw [Nat.sub_zero, List.drop_eq_nil_of_le (by omega), List.append_nil, ← bvs_zero]
    exact Gives.blkown 0 (m := k) (sz := 1) rfl (by simp) (by unfold maxLen; omega)
  rintro ⟨j, hj⟩
  dsimp only
  repeat (first | refine wz ?_ | (refine wzb ?_; intro b_) | fail)
  refine cx_cond rfl (fun h => ?_) (fun h => ?_)
  · have hlt : j < k := by simp at h; omega
    have hy := be_get n (show k - 1 - j < k by omega)
    rw [show k - 1 - (k - 1 - j) = j by omega] at hy
    have hset := fill_back (k := k) hbl hlt hy
    have hat : ((k : Int) - 1 - j).toNat = k - 1 - j := by omega
    generalize (be k n) = l at hbl hset hy ⊢
    have hq := quo256 n j
    repeat (first | ((first | (apply lx_u; exact rfl) | (apply lx_g; exact rfl; exact rfl)); first | (apply isy_bin_rem; exact q_brem uk64 _ 256#64 rfl rfl rfl rfl) | (apply isy_bin_quo; exact q_bquo uk64 _ 256#64 rfl rfl rfl rfl) | (apply isy_convert; exact yl_eq (yl_cv (E := EV) uk8 _ rfl rfl rfl rfl (by first | exact fun _ => rfl | exact fun h => h | exact fun h => (Bool.and_eq_true_iff.1 h).1)) (fun _ => congrArg (Value.int .u8) (show (((n >>> (8 * j) % 256#64).setWidth 8).toNat : Int) = ((n >>> (8 * j)).setWidth 8).toNat by rw [rem256]))) | (apply isy_indexAddr; exact yl_eq (yl_indexS (E := EV) rfl rfl rfl rfl (by first | exact fun _ => rfl | exact fun h => h | exact fun h => (Bool.and_eq_true_iff.1 h).1) (by first | exact fun _ => rfl | exact fun h => h | exact fun h => (Bool.and_eq_true_iff.1 h).1) (fun _ => by omega)) (fun _ => by rw [hat])) | fail) | (refine isx_store ?_; refine lx_storeI (E := EV) 0 rfl rfl rfl rfl rfl rfl rfl rfl rfl (by show k - 1 - j + 1 ≤ (bvs _).length; simp [bvs_len]; omega) rfl (fun _ => trivial) ?_) | refine wz ?_ | (refine wzb ?_; intro b_) | fail)
    refine ⟨⟨j + 1, by omega⟩, ⟨slot_int (by dsimp only; rw [hq]), rfl, slot_int (by dsimp only; omega), trivial⟩, ?_, by dsimp only; omega⟩
    dsimp only
    rw [← hset]
    exact Gives.refl _
  · obtain rfl : j = k := by simp at h; omega
    rw [Nat.sub_self, List.drop_zero, List.replicate_zero, List.nil_append]
    repeat (first | refine wz ?_ | (refine wzb ?_; intro b_) | fail)
    exact bq_ret (ret_tmp rfl rfl) [_] (Gives.refl _) rfl ⟨_, _, rfl, rfl⟩


theorem rInt_fn (n : Int) : Fn Tryz.prog 107 [.int .i64 n] [] [] fun v Lo => ∃ A c, v = .slice A 8 c ∧ Lo = [.own A 8 c 5 1 (bvs (be 8 (BitVec.ofInt 64 n)))] := by
  refine fn_enter Tryz.func107 rfl rfl (by kernel_rfl) rfl ?_
  intro w0
  repeat (first | ((first | (apply lx_u; exact rfl) | (apply lx_g; exact rfl; exact rfl)); first | (apply isy_convert; exact q_ci uk64 rfl rfl rfl) | fail) | (refine isx_call ?_; (refine lx_call0 (rNumber_fn (BitVec.ofInt 64 n) 8 (by omega)) (fun _ hm => in_nil hm) rfl rfl rfl rfl rfl rfl rfl rfl ?_; rintro v_ Lo_ ⟨A_, c_, rfl, rfl⟩)) | refine wz ?_ | (refine wzb ?_; intro b_) | fail)
  exact bq_ret (ret_tmp rfl rfl) [_] (Gives.refl _) rfl ⟨_, _, rfl, rfl⟩


theorem rText_fn (l : List B8) (hl : l.length ≤ 65535) : Fn Tryz.prog 106 [.string (sb l)] [] [] fun v Lo => ∃ A c, v = .tuple #[.slice A (2 + l.length) c, .int .i64 0] ∧ Lo = [.own A (2 + l.length) c 5 1 (bvs (txt l))] := by
  refine fn_enter Tryz.func106 rfl rfl (by kernel_rfl) rfl ?_
  intro w0
  repeat (first | ((first | (apply lx_u; exact rfl) | (apply lx_g; exact rfl; exact rfl)); first | (apply isy_blt; exact q_slen rfl rfl) | fail) | refine wz ?_ | (refine wzb ?_; intro b_) | fail)
  refine cx_cond rfl (fun h => by simp at h; omega) (fun _ => ?_)
  repeat (first | ((first | (apply lx_u; exact rfl) | (apply lx_g; exact rfl; exact rfl)); first | (apply isy_blt; exact q_slen rfl rfl) | (apply isy_convert; exact q_ci uk64 rfl rfl rfl) | fail) | (refine isx_call ?_; (refine lx_call0 (rNumber_fn (BitVec.ofInt 64 (l.length : Int)) 2 (by omega)) (fun _ hm => in_nil hm) rfl rfl rfl rfl rfl rfl rfl rfl ?_; rintro v_ Lo_ ⟨A_, c_, rfl, rfl⟩)) | refine wz ?_ | (refine wzb ?_; intro b_) | fail)
  refine lx_appendS (E := EV) 0 rfl rfl rfl rfl rfl rfl rfl rfl rfl rfl rfl rfl rfl (by omega) (fun _ _ _ => trivial) ?_
  intro A' c'
  rw [← bvs_append, ofInt_nat]
  repeat (first | refine wz ?_ | (refine wzb ?_; intro b_) | fail)
  exact bq_ret (ret_tmp2 rfl rfl rfl) [_] (Gives.refl _) rfl ⟨_, _, rfl, rfl⟩
theorem rText_long (l : List B8) (hl : 65535 < l.length) : Fn Tryz.prog 106 [.string (sb l)] [] [] fun v Lo => v = .tuple #[.slice none 0 0, .int .i64 3] ∧ Lo = [] := by
  refine fn_enter Tryz.func106 rfl rfl (by kernel_rfl) rfl ?_
  intro w0
  repeat (first | ((first | (apply lx_u; exact rfl) | (apply lx_g; exact rfl; exact rfl)); first | (apply isy_blt; exact q_slen rfl rfl) | fail) | refine wz ?_ | (refine wzb ?_; intro b_) | fail)
  refine cx_cond rfl (fun _ => ?_) (fun h => by simp at h; omega)
  repeat (first | refine wz ?_ | (refine wzb ?_; intro b_) | fail)
  exact bq_ret (ret_tmp2 rfl rfl rfl) [] (Gives.nil _) rfl ⟨rfl, rfl⟩

































/- the reference's reader: bytes, a place, and whether it has failed -/
def rTake (l : List B8) (at' : Nat) (f : Bool) (k : Nat) : BitVec 64 × Nat × Bool := if f = true ∨ l.length < at' + k then (0#64, at', true) else (de 0#64 ((l.drop at').take k), at' + k, false)
def rVal (A : Option Addr) (n c : Nat) (at' : Nat) (f : Bool) : Value := .agg #[.slice A n c, .int .i64 at', .bool f]
attribute [local irreducible] de

set_option maxHeartbeats 1000000 in
theorem rTake_fn (A : Option Addr) (n c : Nat) (l : List B8) (at' : Nat) (f : Bool) (k : Nat) (hl : l.length = n) (hn : n ≤ 9223372036854775807) (hat : at' ≤ 4611686018427387904) (hk : k ≤ 1048576) :
    Fn Tryz.prog 163 [rVal A n c at' f, .int .i64 k] [.ro A n 1 (bvs l)] [] fun v Lo => v = .tuple #[.int .u64 (rTake l at' f k).1.toNat, rVal A n c (rTake l at' f k).2.1 (rTake l at' f k).2.2] ∧ Lo = [] := by
  refine fn_enter Tryz.func163 rfl rfl (by kernel_rfl) rfl ?_
  intro w0
  repeat (first | refine wz ?_ | (refine wzb ?_; intro b_) | fail)
  refine cx_cond rfl (fun h => ?_) (fun h => ?_)
  · have hc : f = true ∨ l.length < at' + k := by
      simp at h
      rcases h with h | h
      · exact .inl h
      · exact .inr (by omega)
    rw [rTake, if_pos hc]
    rename_i bx
    repeat (first | refine wz ?_ | (refine wzb ?_; intro b_) | fail)
    refine cx_draw [6] [.blk bx [.slice A n c, .int .i64 at', .bool f] 209] rfl (by kernel_rfl) (Gives.pick [1] (by decide) rfl) ?_
    repeat (first | (refine isx_store ?_; refine lx_store (E := EV) 0 rfl rfl rfl rfl rfl rfl rfl rfl (Nat.le_of_ble_eq_true rfl) rfl (fun _ => Gives.pick [1] (by decide) rfl) ?_) | refine wz ?_ | (refine wzb ?_; intro b_) | fail)
    exact bq_ret (ret_tmp_cell (E := EV) 0 rfl rfl rfl rfl rfl (fun _ => Nat.le_of_ble_eq_true rfl) rfl) [] (Gives.nil _) rfl ⟨rfl, rfl⟩
  · have hc : ¬ (f = true ∨ l.length < at' + k) := by
      simp at h
      obtain ⟨h1, h2⟩ := h
      rw [h1]
      simp
      omega
    obtain ⟨hf, hlen⟩ : f = false ∧ at' + k ≤ n := by
      rw [not_or] at hc
      exact ⟨by simpa using hc.1, by omega⟩
    rw [rTake, if_neg hc]
    subst hf
    clear h hc
    rename_i bx
    repeat (first | refine wz ?_ | (refine wzb ?_; intro b_) | fail)
    refine cx_loop (α := { i : Nat // i ≤ k }) (fun y => [(1, none, .int .i64 k), (2, none, .pointer (some ⟨bx, 0, none⟩)), (5, none, .pointer (some ⟨b_, 0, none⟩)), (6, none, .int .u64 (de 0#64 ((l.drop at').take y.1)).toNat), (7, none, .int .i64 y.1)])
      (fun _ => [.blk b_ [.slice none 0 0, .int .i64 0, .bool false] 209, .blk bx [.slice A n c, .int .i64 at', .bool false] 209, .ro A n 1 (bvs l)]) (fun y => k - y.1) ⟨0, Nat.zero_le _⟩ ⟨rfl, rfl, rfl, by unfold de; rfl, rfl, trivial⟩ (Gives.refl _) ?_
    rintro ⟨i, hi⟩
    dsimp only
    repeat (first | refine wz ?_ | (refine wzb ?_; intro b_) | fail)
    refine cx_cond rfl (fun h => ?_) (fun h => ?_)
    · have hlt : i < k := by simp at h; omega
      obtain ⟨x, hx⟩ : ∃ x, l[at' + i]? = some x := ⟨_, List.getElem?_eq_getElem (by omega)⟩
      have hx0 : (bvs l)[mulI (at' + i) 1]? = some (bv x) := bvs_get hx
      have hd : (l.drop at')[i]? = some x := by rw [List.getElem?_drop]; exact hx
      have hstep := de_take 0#64 hd
      have hadd : (at' : Int) + (i : Int) = ((at' + i : Nat) : Int) := by omega
      repeat (first | ((first | (apply lx_u; exact rfl) | (apply lx_g; exact rfl; exact rfl)); first | (apply isy_bin_mul; exact q_bmul uk64 _ 256#64 rfl rfl rfl rfl) | (apply isy_bin_add; exact q_badd uk64 _ _ rfl rfl rfl rfl) | (apply isy_bin_add; exact yl_eq (yl_add rfl rfl (by first | exact fun _ => rfl | exact fun h => h | exact fun h => (Bool.and_eq_true_iff.1 h).1) (by first | exact fun _ => rfl | exact fun h => h | exact fun h => (Bool.and_eq_true_iff.1 h).1) (fun _ => by omega)) (fun _ => congrArg (Value.int .i64) hadd)) | (apply isy_indexAddr; exact q_ix 2 rfl rfl rfl rfl rfl) | (apply isy_load; exact q_li 2 rfl rfl rfl rfl hx0) | (apply isy_convert; exact q_cv uk64 x rfl rfl rfl rfl) | fail) | refine wz ?_ | (refine wzb ?_; intro b_) | fail)
      exact ⟨⟨i + 1, by omega⟩, ⟨rfl, rfl, rfl, slot_int (by dsimp only; rw [hstep, ← add_or]), slot_int (by dsimp only; omega), trivial⟩, Gives.refl _, by dsimp only; omega⟩
    · obtain rfl : i = k := by simp at h; omega
      have hadd : (at' : Int) + (i : Int) = ((at' + i : Nat) : Int) := by omega
      repeat (first | refine wz ?_ | (refine wzb ?_; intro b_) | fail)
      refine cx_draw [9] [.blk bx [.slice A n c, .int .i64 at', .bool false] 209] rfl (by kernel_rfl) (Gives.pick [1] (by decide) rfl) ?_
      repeat (first | ((first | (apply lx_u; exact rfl) | (apply lx_g; exact rfl; exact rfl)); first | (apply isy_bin_add; exact yl_eq (yl_add rfl rfl (by first | exact fun _ => rfl | exact fun h => h | exact fun h => (Bool.and_eq_true_iff.1 h).1) (by first | exact fun _ => rfl | exact fun h => h | exact fun h => (Bool.and_eq_true_iff.1 h).1) (fun _ => by omega)) (fun _ => congrArg (Value.int .i64) hadd)) | fail) | (refine isx_store ?_; refine lx_store (E := EV) 0 rfl rfl rfl rfl rfl rfl rfl rfl (Nat.le_of_ble_eq_true rfl) rfl (fun _ => Gives.pick [1] (by decide) rfl) ?_) | refine wz ?_ | (refine wzb ?_; intro b_) | fail)
      exact bq_ret (ret_tmp_cell (E := EV) 0 rfl rfl rfl rfl rfl (fun _ => Nat.le_of_ble_eq_true rfl) rfl) [] (Gives.nil _) rfl ⟨rfl, rfl⟩

def rText (l : List B8) (at' : Nat) (f : Bool) : List B8 × Nat × Bool :=
  if (rTake l at' f 2).2.2 = true ∨ l.length < (rTake l at' f 2).2.1 + (rTake l at' f 2).1.toNat then ([], at', true)
  else ((l.drop (rTake l at' f 2).2.1).take (rTake l at' f 2).1.toNat, (rTake l at' f 2).2.1 + (rTake l at' f 2).1.toNat, false)
end Go.Proofs.YtmochicneilhhaaGreat.pk
