/- packed numbers and texts: the reference's functions. packed texts: the reference's reader, on. packed numbers and texts: the program's reader. -/
import Derived.Test.YtmochicneilhhaaGreatPGo
import Derived.Test.YtmochicneilhhaaGreatPKi
import Derived.Test.YtmochicneilhhaaGreatPPka
--SHORT 1
namespace Go.Proofs.YtmochicneilhhaaGreat
open Go.RowKit
section
variable {P : Program} {n : Nat} {t : Fr} {L : List Ck}
theorem ret_tmp_cell {E : Env P} {fn : Func} {d b off e : Nat} {T T' : TypeId} {v u : Value} (k : Nat) {cs : List Value} {j : TyI} (hr : fn.results = #[.tmp e, .cell d T]) (hd : lk t d = some (none, .pointer (some ⟨b, off, none⟩))) (he : lk t e = some (none, u)) (hT : E.f T = some j) (hk : L[k]? = some (.blk b cs T'))
    (hin : isAggD j.desc = true → off + j.size ≤ cs.length) (hv : evPart E.f T cs off = some v) : RetIs P fn t L (.tuple #[u, v]) := fun n M a w hf hm => by
  have hd' := hf.tmpq hd
  have he' := hf.tmpq he
  simp [results, hr, hd', he', asAddr, hm.loadVar hT hk hv hin]
end
end Go.Proofs.YtmochicneilhhaaGreat
namespace Go.Proofs.YtmochicneilhhaaGreat.pk
open Go.RowKit Go.Proofs.YtmochicneilhhaaGreat.kit
attribute [local irreducible] LX CX Yl Gives RetIs Fn
attribute [local irreducible] be

set_option maxHeartbeats 1000000 in
theorem rNumber_fn (n : BitVec 64) (k : Nat) (hk : k ≤ 8) : Fn Tryz.prog 81 [.int .u64 n.toNat, .int .i64 k] [] [] fun v Lo => ∃ A c, v = .slice A k c ∧ Lo = [.own A k c 5 1 (bvs (be k n))] := by
  refine fn_enter Tryz.func81 rfl rfl (by kernel_rfl) rfl ?_
  intro w0
  repeat (first | (refine isx_make ?_; (refine isx_make ?_; refine lx_make (E := EV) k rfl rfl rfl rfl rfl rfl rfl rfl rfl rfl rfl rfl rfl rfl (by show 1 * k ≤ _; omega) (by omega) ?_; intro b_)) | refine wz ?_ | (refine wzb ?_; intro b_) | fail)
  have hbl := be_len k n
  refine cx_loop (α := { j : Nat // j ≤ k }) (fun y => [(0, none, .int .u64 (n >>> (8 * y.1)).toNat), (5, none, .slice (some ⟨b_, 0, none⟩) k k), (6, none, .int .i64 ((k : Int) - 1 - y.1))])
    (fun y => [.own (some ⟨b_, 0, none⟩) k k 5 1 (bvs (List.replicate (k - y.1) 0#8 ++ (be k n).drop (k - y.1)))]) (fun y => k - y.1) ⟨0, Nat.zero_le _⟩ ⟨slot_int (by simp), rfl, slot_int (by dsimp only; omega), trivial⟩ ?_ ?_
  · dsimp only
    rw [Nat.sub_zero, List.drop_eq_nil_of_le (by omega), List.append_nil, ← bvs_zero]
    exact Gives.blkown 0 (m := k) (sz := 1) rfl (by simp) (by unfold maxLen; omega)
  rintro ⟨j, hj⟩
  dsimp only
  repeat (first | refine wz ?_ | (refine wzb ?_; intro b_) | fail)
  refine cx_cond rfl (fun h => ?_) (fun h => ?_)
  · have hlt : j < k := by simp at h; omega
    have hy := be_get n (show k - 1 - j < k by omega)
    rw [show k - 1 - (k - 1 - j) = j by omega] at hy
    have hset := fill_back (k := k) hbl hlt hy
    have hat : ((k : Int) - 1 - j).toNat = k - 1 - j := by omega
    generalize (be k n) = l at hbl hset hy ⊢
    have hq := quo256 n j
    repeat (first | ((first | (apply lx_u; exact rfl) | (apply lx_g; exact rfl; exact rfl)); first | (apply isy_bin_rem; exact q_brem uk64 _ 256#64 rfl rfl rfl rfl) | (apply isy_bin_quo; exact q_bquo uk64 _ 256#64 rfl rfl rfl rfl) | (apply isy_convert; exact yl_eq (yl_cv (E := EV) uk8 _ rfl rfl rfl rfl (by first | exact fun _ => rfl | exact fun h => h | exact fun h => (Bool.and_eq_true_iff.1 h).1)) (fun _ => congrArg (Value.int .u8) (show (((n >>> (8 * j) % 256#64).setWidth 8).toNat : Int) = ((n >>> (8 * j)).setWidth 8).toNat by rw [rem256]))) | (apply isy_indexAddr; exact yl_eq (yl_indexS (E := EV) rfl rfl rfl rfl (by first | exact fun _ => rfl | exact fun h => h | exact fun h => (Bool.and_eq_true_iff.1 h).1) (by first | exact fun _ => rfl | exact fun h => h | exact fun h => (Bool.and_eq_true_iff.1 h).1) (fun _ => by omega)) (fun _ => by rw [hat])) | fail) | (refine isx_store ?_; refine lx_storeI (E := EV) 0 rfl rfl rfl rfl rfl rfl rfl rfl rfl (by show k - 1 - j + 1 ≤ (bvs _).length; simp [bvs_len]; omega) rfl (fun _ => trivial) ?_) | refine wz ?_ | (refine wzb ?_; intro b_) | fail)
    refine ⟨⟨j + 1, by omega⟩, ⟨slot_int (by dsimp only; rw [hq]), rfl, slot_int (by dsimp only; omega), trivial⟩, ?_, by dsimp only; omega⟩
    dsimp only
    rw [← hset]
    exact Gives.refl _
  · obtain rfl : j = k := by simp at h; omega
    rw [Nat.sub_self, List.drop_zero, List.replicate_zero, List.nil_append]
    repeat (first | refine wz ?_ | (refine wzb ?_; intro b_) | fail)
    exact bq_ret (ret_tmp rfl rfl) [_] (Gives.refl _) rfl ⟨_, _, rfl, rfl⟩


theorem rInt_fn (n : Int) : Fn Tryz.prog 107 [.int .i64 n] [] [] fun v Lo => ∃ A c, v = .slice A 8 c ∧ Lo = [.own A 8 c 5 1 (bvs (be 8 (BitVec.ofInt 64 n)))] := by
  refine fn_enter Tryz.func107 rfl rfl (by kernel_rfl) rfl ?_
  intro w0
  repeat (first | ((first | (apply lx_u; exact rfl) | (apply lx_g; exact rfl; exact rfl)); first | (apply isy_convert; exact q_ci uk64 rfl rfl rfl) | fail) | (refine isx_call ?_; (refine lx_call0 (rNumber_fn (BitVec.ofInt 64 n) 8 (by omega)) (fun _ hm => in_nil hm) rfl rfl rfl rfl rfl rfl rfl rfl ?_; rintro v_ Lo_ ⟨A_, c_, rfl, rfl⟩)) | refine wz ?_ | (refine wzb ?_; intro b_) | fail)
  exact bq_ret (ret_tmp rfl rfl) [_] (Gives.refl _) rfl ⟨_, _, rfl, rfl⟩


theorem rText_fn (l : List B8) (hl : l.length ≤ 65535) : Fn Tryz.prog 106 [.string (sb l)] [] [] fun v Lo => ∃ A c, v = .tuple #[.slice A (2 + l.length) c, .int .i64 0] ∧ Lo = [.own A (2 + l.length) c 5 1 (bvs (txt l))] := by
  refine fn_enter Tryz.func106 rfl rfl (by kernel_rfl) rfl ?_
  intro w0
  repeat (first | ((first | (apply lx_u; exact rfl) | (apply lx_g; exact rfl; exact rfl)); first | (apply isy_blt; exact q_slen rfl rfl) | fail) | refine wz ?_ | (refine wzb ?_; intro b_) | fail)
  refine cx_cond rfl (fun h => by simp at h; omega) (fun _ => ?_)
  repeat (first | ((first | (apply lx_u; exact rfl) | (apply lx_g; exact rfl; exact rfl)); first | (apply isy_blt; exact q_slen rfl rfl) | (apply isy_convert; exact q_ci uk64 rfl rfl rfl) | fail) | (refine isx_call ?_; (refine lx_call0 (rNumber_fn (BitVec.ofInt 64 (l.length : Int)) 2 (by omega)) (fun _ hm => in_nil hm) rfl rfl rfl rfl rfl rfl rfl rfl ?_; rintro v_ Lo_ ⟨A_, c_, rfl, rfl⟩)) | refine wz ?_ | (refine wzb ?_; intro b_) | fail)
  refine lx_appendS (E := EV) 0 rfl rfl rfl rfl rfl rfl rfl rfl rfl rfl rfl rfl rfl (by omega) (fun _ _ _ => trivial) ?_
  intro A' c'
  rw [← bvs_append, ofInt_nat]
  repeat (first | refine wz ?_ | (refine wzb ?_; intro b_) | fail)
  exact bq_ret (ret_tmp2 rfl rfl rfl) [_] (Gives.refl _) rfl ⟨_, _, rfl, rfl⟩
/- the reference's reader: bytes, a place, and whether it has failed -/
def rTake (l : List B8) (at' : Nat) (f : Bool) (k : Nat) : BitVec 64 × Nat × Bool := if f = true ∨ l.length < at' + k then (0#64, at', true) else (de 0#64 ((l.drop at').take k), at' + k, false)
def rVal (A : Option Addr) (n c : Nat) (at' : Nat) (f : Bool) : Value := .agg #[.slice A n c, .int .i64 at', .bool f]
attribute [local irreducible] de

set_option maxHeartbeats 1000000 in
theorem rTake_fn (A : Option Addr) (n c : Nat) (l : List B8) (at' : Nat) (f : Bool) (k : Nat) (hl : l.length = n) (hn : n ≤ 9223372036854775807) (hat : at' ≤ 4611686018427387904) (hk : k ≤ 1048576) :
    Fn Tryz.prog 163 [rVal A n c at' f, .int .i64 k] [.ro A n 1 (bvs l)] [] fun v Lo => v = .tuple #[.int .u64 (rTake l at' f k).1.toNat, rVal A n c (rTake l at' f k).2.1 (rTake l at' f k).2.2] ∧ Lo = [] := by
  refine fn_enter Tryz.func163 rfl rfl (by kernel_rfl) rfl ?_
  intro w0
  repeat (first | refine wz ?_ | (refine wzb ?_; intro b_) | fail)
  refine cx_cond rfl (fun h => ?_) (fun h => ?_)
  · have hc : f = true ∨ l.length < at' + k := by
      simp at h
      rcases h with h | h
      · exact .inl h
      · exact .inr (by omega)
    rw [rTake, if_pos hc]
    rename_i bx
    repeat (first | refine wz ?_ | (refine wzb ?_; intro b_) | fail)
    refine cx_draw [6] [.blk bx [.slice A n c, .int .i64 at', .bool f] 209] rfl (by kernel_rfl) (Gives.pick [1] (by decide) rfl) ?_
    repeat (first | (refine isx_store ?_; refine lx_store (E := EV) 0 rfl rfl rfl rfl rfl rfl rfl rfl (Nat.le_of_ble_eq_true rfl) rfl (fun _ => Gives.pick [1] (by decide) rfl) ?_) | refine wz ?_ | (refine wzb ?_; intro b_) | fail)
    exact bq_ret (ret_tmp_cell (E := EV) 0 rfl rfl rfl rfl rfl (fun _ => Nat.le_of_ble_eq_true rfl) rfl) [] (Gives.nil _) rfl ⟨rfl, rfl⟩
  · have hc : ¬ (f = true ∨ l.length < at' + k) := by
      simp at h
      obtain ⟨h1, h2⟩ := h
      rw [h1]
      simp
      omega
    obtain ⟨hf, hlen⟩ : f = false ∧ at' + k ≤ n := by
      rw [not_or] at hc
      exact ⟨by simpa using hc.1, by omega⟩
    rw [rTake, if_neg hc]
    subst hf
    clear h hc
    rename_i bx
    repeat (first | refine wz ?_ | (refine wzb ?_; intro b_) | fail)
    refine cx_loop (α := { i : Nat // i ≤ k }) (fun y => [(1, none, .int .i64 k), (2, none, .pointer (some ⟨bx, 0, none⟩)), (5, none, .pointer (some ⟨b_, 0, none⟩)), (6, none, .int .u64 (de 0#64 ((l.drop at').take y.1)).toNat), (7, none, .int .i64 y.1)])
      (fun _ => [.blk b_ [.slice none 0 0, .int .i64 0, .bool false] 209, .blk bx [.slice A n c, .int .i64 at', .bool false] 209, .ro A n 1 (bvs l)]) (fun y => k - y.1) ⟨0, Nat.zero_le _⟩ ⟨rfl, rfl, rfl, by unfold de; rfl, rfl, trivial⟩ (Gives.refl _) ?_
    rintro ⟨i, hi⟩
    dsimp only
    repeat (first | refine wz ?_ | (refine wzb ?_; intro b_) | fail)
    refine cx_cond rfl (fun h => ?_) (fun h => ?_)
    · have hlt : i < k := by simp at h; omega
      obtain ⟨x, hx⟩ : ∃ x, l[at' + i]? = some x := ⟨_, List.getElem?_eq_getElem (by omega)⟩
      have hx0 : (bvs l)[mulI (at' + i) 1]? = some (bv x) := bvs_get hx
      have hd : (l.drop at')[i]? = some x := by rw [List.getElem?_drop]; exact hx
      have hstep := de_take 0#64 hd
      have hadd : (at' : Int) + (i : Int) = ((at' + i : Nat) : Int) := by omega
      repeat (first | ((first | (apply lx_u; exact rfl) | (apply lx_g; exact rfl; exact rfl)); first | (apply isy_bin_mul; exact q_bmul uk64 _ 256#64 rfl rfl rfl rfl) | (apply isy_bin_add; exact q_badd uk64 _ _ rfl rfl rfl rfl) | (apply isy_bin_add; exact yl_eq (yl_add rfl rfl (by first | exact fun _ => rfl | exact fun h => h | exact fun h => (Bool.and_eq_true_iff.1 h).1) (by first | exact fun _ => rfl | exact fun h => h | exact fun h => (Bool.and_eq_true_iff.1 h).1) (fun _ => by omega)) (fun _ => congrArg (Value.int .i64) hadd)) | (apply isy_indexAddr; exact q_ix 2 rfl rfl rfl rfl rfl) | (apply isy_load; exact q_li 2 rfl rfl rfl rfl hx0) | (apply isy_convert; exact q_cv uk64 x rfl rfl rfl rfl) | fail) | refine wz ?_ | (refine wzb ?_; intro b_) | fail)
      exact ⟨⟨i + 1, by omega⟩, ⟨rfl, rfl, rfl, slot_int (by dsimp only; rw [hstep, ← add_or]), slot_int (by dsimp only; omega), trivial⟩, Gives.refl _, by dsimp only; omega⟩
    · obtain rfl : i = k := by simp at h; omega
      have hadd : (at' : Int) + (i : Int) = ((at' + i : Nat) : Int) := by omega
      repeat (first | refine wz ?_ | (refine wzb ?_; intro b_) | fail)
      refine cx_draw [9] [.blk bx [.slice A n c, .int .i64 at', .bool false] 209] rfl (by kernel_rfl) (Gives.pick [1] (by decide) rfl) ?_
      repeat (first | ((first | (apply lx_u; exact rfl) | (apply lx_g; exact rfl; exact rfl)); first | (apply isy_bin_add; exact yl_eq (yl_add rfl rfl (by first | exact fun _ => rfl | exact fun h => h | exact fun h => (Bool.and_eq_true_iff.1 h).1) (by first | exact fun _ => rfl | exact fun h => h | exact fun h => (Bool.and_eq_true_iff.1 h).1) (fun _ => by omega)) (fun _ => congrArg (Value.int .i64) hadd)) | fail) | (refine isx_store ?_; refine lx_store (E := EV) 0 rfl rfl rfl rfl rfl rfl rfl rfl (Nat.le_of_ble_eq_true rfl) rfl (fun _ => Gives.pick [1] (by decide) rfl) ?_) | refine wz ?_ | (refine wzb ?_; intro b_) | fail)
      exact bq_ret (ret_tmp_cell (E := EV) 0 rfl rfl rfl rfl rfl (fun _ => Nat.le_of_ble_eq_true rfl) rfl) [] (Gives.nil _) rfl ⟨rfl, rfl⟩

def rText (l : List B8) (at' : Nat) (f : Bool) : List B8 × Nat × Bool :=
  if (rTake l at' f 2).2.2 = true ∨ l.length < (rTake l at' f 2).2.1 + (rTake l at' f 2).1.toNat then ([], at', true)
  else ((l.drop (rTake l at' f 2).2.1).take (rTake l at' f 2).1.toNat, (rTake l at' f 2).2.1 + (rTake l at' f 2).1.toNat, false)
end Go.Proofs.YtmochicneilhhaaGreat.pk
--SHORT 2
namespace Go.Proofs.YtmochicneilhhaaGreat.pk
open Go.RowKit Go.Proofs.YtmochicneilhhaaGreat.kit
theorem dn_lt : ∀ (l : List B8) (n : Nat), dn n l < (n + 1) * 256 ^ l.length
  | [], n => by show n < _; simp
  | c :: l, n => by
    have h := dn_lt l (n * 256 + c.toNat)
    have hc := c.isLt
    refine Nat.lt_of_lt_of_le h ?_
    rw [List.length_cons, Nat.pow_succ, Nat.mul_comm (256 ^ l.length) 256, ← Nat.mul_assoc]
    exact Nat.mul_le_mul_right _ (by omega)
theorem de_lt (l : List B8) : (de 0#64 l).toNat < 256 ^ l.length := by
  rw [de_dn l 0#64 0 rfl]
  have := dn_lt l 0
  rw [Nat.zero_add, Nat.one_mul] at this
  exact Nat.lt_of_le_of_lt (Nat.mod_le _ _) this
theorem rTake_lt (l : List B8) (at' : Nat) (f : Bool) (k : Nat) : (rTake l at' f k).1.toNat < 256 ^ k := by
  unfold rTake
  split
  · exact Nat.pow_pos (by decide)
  · rename_i h
    have := de_lt ((l.drop at').take k)
    rw [List.length_take, List.length_drop, Nat.min_eq_left (by rw [not_or] at h; omega)] at this
    exact this
theorem rTake_at (l : List B8) (at' : Nat) (f : Bool) (k : Nat) : (rTake l at' f k).2.1 ≤ at' + k ∧ at' ≤ (rTake l at' f k).2.1 ∧ ((rTake l at' f k).2.2 = false → at' + k ≤ l.length ∧ (rTake l at' f k).2.1 = at' + k) := by
  unfold rTake
  split
  · simp
  · rename_i h
    rw [not_or] at h
    simp
    omega
attribute [local irreducible] LX CX Yl Gives RetIs Fn
attribute [local irreducible] be de

set_option maxHeartbeats 1000000 in
theorem rTakeText_fn (A : Option Addr) (n c : Nat) (l : List B8) (at' : Nat) (f : Bool) (hl : l.length = n) (hc : n ≤ c ∧ c ≤ 9223372036854775807) (hat : at' ≤ 4611686018427387) :
    Fn Tryz.prog 164 [rVal A n c at' f] [.ro A n 1 (bvs l)] [] fun v Lo => v = .tuple #[.string (sb (rText l at' f).1), rVal A n c (rText l at' f).2.1 (rText l at' f).2.2] ∧ Lo = [] := by
  refine fn_enter Tryz.func164 rfl rfl (by kernel_rfl) rfl ?_
  intro w0
  have h1 := rTake_lt l at' f 2
  have h2 := rTake_at l at' f 2
  repeat (first | ((first | (apply lx_u; exact rfl) | (apply lx_g; exact rfl; exact rfl)); first | (apply isy_convert; exact q_cn rfl rfl rfl) | fail) | (refine isx_call ?_; refine k_gcall (rTake_fn A n c l at' f 2 hl (by omega) (by omega) (by omega)) ((fun w hm => hm.ros [2] (by decide) rfl rfl)) rfl rfl rfl rfl rfl rfl ?_) | refine wz ?_ | (refine wzb ?_; intro b_) | fail)
  have h3 : rText l at' f = if (rTake l at' f 2).2.2 = true ∨ l.length < (rTake l at' f 2).2.1 + (rTake l at' f 2).1.toNat then ([], at', true) else ((l.drop (rTake l at' f 2).2.1).take (rTake l at' f 2).1.toNat, (rTake l at' f 2).2.1 + (rTake l at' f 2).1.toNat, false) := rfl
  generalize rTake l at' f 2 = z at h1 h2 h3 ⊢
  obtain ⟨x, a2, f2⟩ := z
  dsimp only at h1 h2 h3 ⊢
  rename_i bx b3
  refine cx_cond rfl (fun h => ?_) (fun h => ?_)
  · have hc : f2 = true ∨ l.length < a2 + x.toNat := by
      simp at h
      rcases h with h | h
      · exact .inl h
      · exact .inr (by omega)
    rw [if_pos hc] at h3
    rw [h3]
    repeat (first | refine wz ?_ | (refine wzb ?_; intro b_) | fail)
    refine cx_draw [6] [.blk bx [.slice A n c, .int .i64 at', .bool f] 209] rfl (by kernel_rfl) (Gives.pick [2] (by decide) rfl) ?_
    repeat (first | (refine isx_store ?_; refine lx_store (E := EV) 1 rfl rfl rfl rfl rfl rfl rfl rfl (Nat.le_of_ble_eq_true rfl) rfl (fun _ => Gives.pick [2] (by decide) rfl) ?_) | refine wz ?_ | (refine wzb ?_; intro b_) | fail)
    exact bq_ret (ret_tmp_cell (E := EV) 1 rfl rfl rfl rfl rfl (fun _ => Nat.le_of_ble_eq_true rfl) rfl) [] (Gives.nil _) rfl ⟨rfl, rfl⟩
  · have hc' : ¬ (f2 = true ∨ l.length < a2 + x.toNat) := by
      simp at h
      obtain ⟨k1, k2⟩ := h
      rw [k1]
      simp
      omega
    rw [if_neg hc'] at h3
    rw [h3]
    obtain ⟨hf, hlen⟩ : f2 = false ∧ a2 + x.toNat ≤ n := by
      rw [not_or] at hc'
      exact ⟨by simpa using hc'.1, by omega⟩
    subst hf
    clear h hc' h3
    have hadd : (a2 : Int) + (x.toNat : Int) = ((a2 + x.toNat : Nat) : Int) := by omega
    have hsub : a2 + x.toNat - a2 = x.toNat := by omega
    repeat (first | refine wz ?_ | (refine wzb ?_; intro b_) | fail)
    refine cx_draw [20] [.blk b_ [.slice A n c, .int .i64 a2, .bool false] 209, .blk bx [.slice A n c, .int .i64 at', .bool f] 209, .ro A n 1 (bvs l)] rfl (by kernel_rfl) (Gives.pick [0, 2, 3] (by decide) rfl) ?_
    repeat (first | ((first | (apply lx_u; exact rfl) | (apply lx_g; exact rfl; exact rfl)); first | (apply isy_convert; exact q_cn rfl rfl rfl) | (apply isy_bin_add; exact yl_eq (yl_add rfl rfl (by first | exact fun _ => rfl | exact fun h => h | exact fun h => (Bool.and_eq_true_iff.1 h).1) (by first | exact fun _ => rfl | exact fun h => h | exact fun h => (Bool.and_eq_true_iff.1 h).1) (fun _ => by omega)) (fun _ => congrArg (Value.int .i64) hadd)) | (apply isy_slice; exact q_sl rfl rfl rfl rfl rfl) | (apply isy_convert; exact yl_text (E := EV) rfl rfl rfl rfl (fun _ _ hm => Row.cutb (row_ro 2 rfl hm) (lo := a2) (hi := a2 + x.toNat) (by omega) (by omega) hc.1) (by first | exact fun _ => rfl | exact fun h => h | exact fun h => (Bool.and_eq_true_iff.1 h).1)) | fail) | (refine isx_store ?_; refine lx_store (E := EV) 1 rfl rfl rfl rfl rfl rfl rfl rfl (Nat.le_of_ble_eq_true rfl) rfl (fun _ => Gives.pick [0, 2, 3] (by decide) rfl) ?_) | refine wz ?_ | (refine wzb ?_; intro b_) | fail)
    exact bq_ret (ret_tmp_cell (E := EV) 1 rfl rfl rfl rfl rfl (fun _ => Nat.le_of_ble_eq_true rfl) rfl) [] (Gives.nil _) rfl ⟨by rw [hsub]; rfl, rfl⟩

def rDoneN (n at' : Nat) (f : Bool) : Int := if f = true then 20 else if at' < n then 21 else 0

theorem rDone_fn (A : Option Addr) (n c : Nat) (at' : Nat) (f : Bool) : Fn Tryz.prog 144 [rVal A n c at' f] [] [] fun v Lo => v = .int .i64 (rDoneN n at' f) ∧ Lo = [] := by
  refine fn_enter Tryz.func144 rfl rfl (by kernel_rfl) rfl ?_
  intro w0
  repeat (first | refine wz ?_ | (refine wzb ?_; intro b_) | fail)
  refine cx_cond rfl (fun h => ?_) (fun h => ?_)
  · subst h
    repeat (first | refine wz ?_ | (refine wzb ?_; intro b_) | fail)
    exact bq_ret (ret_tmp rfl rfl) [] (Gives.nil _) rfl ⟨rfl, rfl⟩
  subst h
  repeat (first | refine wz ?_ | (refine wzb ?_; intro b_) | fail)
  refine cx_cond rfl (fun h => ?_) (fun h => ?_)
  · have e : rDoneN n at' false = 21 := by unfold rDoneN; rw [if_neg (by simp), if_pos (by simp at h; omega)]
    repeat (first | refine wz ?_ | (refine wzb ?_; intro b_) | fail)
    exact bq_ret (ret_tmp rfl rfl) [] (Gives.nil _) rfl ⟨by rw [e], rfl⟩
  have e : rDoneN n at' false = 0 := by unfold rDoneN; rw [if_neg (by simp), if_neg (by simp at h; omega)]
  repeat (first | refine wz ?_ | (refine wzb ?_; intro b_) | fail)
  exact bq_ret (ret_tmp rfl rfl) [] (Gives.nil _) rfl ⟨by rw [e], rfl⟩

end Go.Proofs.YtmochicneilhhaaGreat.pk
--SHORT 2
namespace Go.Proofs.YtmochicneilhhaaGreat.pk
open Go.RowKit Go.Proofs.YtmochicneilhhaaGreat.kit
/-- a reader's state -/
structure Rs where
  A : Option Addr
  n : Nat
  c : Nat
  l : List B8
  e : Int
abbrev Rs.blk (r : Rs) (b : Nat) : Ck := .blk b [.slice r.A r.n r.c, .int .i64 r.e] 220
abbrev Rs.ro (r : Rs) : Ck := .ro r.A r.n 1 (bvs r.l)
structure Rs.Ok (r : Rs) : Prop where
  len : r.l.length = r.n
  cap : r.n ≤ r.c
  max : r.c ≤ 9223372036854775807
def Rs.may (r : Rs) (k : Nat) : Bool := decide (r.e = 0) && decide (k ≤ r.n)
def Rs.adv (r : Rs) (k : Nat) : Rs := if r.e ≠ 0 then r else if r.n < k then { r with e := 20 } else ⟨cutA r.A r.c k 1, r.n - k, r.c - k, r.l.drop k, 0⟩
def Rs.got (r : Rs) (k : Nat) : List B8 := if r.may k then r.l.take k else []
def Rs.gotV (r : Rs) (k : Nat) : Value := if r.may k then .slice r.A k r.c else .slice none 0 0
theorem Rs.Ok.adv {r : Rs} (h : r.Ok) (k : Nat) : (r.adv k).Ok := by
  obtain ⟨h1, h2, h3⟩ := h
  unfold Rs.adv
  split
  · exact ⟨h1, h2, h3⟩
  · split
    · exact ⟨h1, h2, h3⟩
    · exact ⟨by dsimp only; rw [List.length_drop]; omega, by dsimp only; omega, by dsimp only; omega⟩
theorem Rs.adv_err {r : Rs} (k : Nat) (h : r.e ≠ 0) : r.adv k = r := by rw [Rs.adv, if_pos h]
theorem Rs.adv_short {r : Rs} {k : Nat} (h : r.e = 0) (hk : r.n < k) : r.adv k = { r with e := 20 } := by rw [Rs.adv, if_neg (by simp [h]), if_pos hk]
theorem Rs.adv_ok {r : Rs} {k : Nat} (h : r.e = 0) (hk : k ≤ r.n) : r.adv k = ⟨cutA r.A r.c k 1, r.n - k, r.c - k, r.l.drop k, 0⟩ := by rw [Rs.adv, if_neg (by simp [h]), if_neg (by omega)]
theorem Rs.may_err {r : Rs} {k : Nat} (h : r.e ≠ 0) : r.may k = false := by simp [Rs.may, h]
theorem Rs.may_short {r : Rs} {k : Nat} (hk : r.n < k) : r.may k = false := by simp [Rs.may]; omega
theorem Rs.may_ok {r : Rs} {k : Nat} (h : r.e = 0) (hk : k ≤ r.n) : r.may k = true := by simp [Rs.may, h, hk]
/-- what is left, of what there was -/
theorem Rs.Ok.gives {r : Rs} (h : r.Ok) (i k : Nat) {L : List Ck} (hk : L[i]? = some r.ro) : Gives L ((r.adv k).ro :: L) := by
  by_cases he : r.e = 0
  · by_cases hn : k ≤ r.n
    · rw [Rs.adv_ok he hn]
      exact Gives.cutb i hk hn h.cap
    · rw [Rs.adv_short he (by omega)]
      exact Gives.add i hk rfl rfl fun _ h => ⟨h, fun _ hb => hb⟩
  · rw [Rs.adv_err k he]
    exact Gives.add i hk rfl rfl fun _ h => ⟨h, fun _ hb => hb⟩
theorem Rs.got_row {r : Rs} {w : World} (k : Nat) (h : Row w w.heap.size 1 r.A r.n (bvs r.l)) : r.may k = true → Row w w.heap.size 1 r.A k (bvs (r.got k)) := fun hm => by
  rw [Rs.got, if_pos hm]
  simp only [Rs.may, Bool.and_eq_true, decide_eq_true_eq] at hm
  exact h.preb hm.2
attribute [local irreducible] LX CX Yl Gives RetIs Fn
attribute [local irreducible] be de
theorem bytes_fn (b : Nat) (r : Rs) (hr : r.Ok) (k : Nat) (hk : k ≤ 1048576) : Fn Tryz.prog 152 [.pointer (some ⟨b, 0, none⟩), .int .i64 k] [r.blk b] [b]
    fun v Lo => v = .tuple #[r.gotV k, .bool (r.may k)] ∧ Lo = [(r.adv k).blk b] := by
  obtain ⟨h1, h2, h3⟩ := hr
  refine fn_enter Tryz.func152 rfl rfl (by kernel_rfl) rfl ?_
  intro w0
  repeat (first | refine wzf ?_ | (refine wzb ?_; intro b_) | fail)
  refine cx_cond rfl (fun h => ?_) (fun h => ?_)
  · have he : r.e ≠ 0 := by simpa using h
    rw [Rs.adv_err k he, Rs.gotV, Rs.may_err he]
    repeat (first | refine wz ?_ | (refine wzb ?_; intro b_) | fail)
    exact bq_ret (ret_tmp2 rfl rfl rfl) [_] (Gives.refl _) rfl ⟨rfl, rfl⟩
  have he : r.e = 0 := by simpa using h
  repeat (first | refine wz ?_ | (refine wzb ?_; intro b_) | fail)
  refine cx_cond rfl (fun h => ?_) (fun h => ?_)
  · have hk : r.n < k := by simpa using h
    rw [Rs.adv_short he hk, Rs.gotV, Rs.may_short hk]
    repeat (first | refine wz ?_ | (refine wzb ?_; intro b_) | fail)
    exact bq_ret (ret_tmp2 rfl rfl rfl) [_] (Gives.refl _) rfl ⟨rfl, rfl⟩
  have hk : k ≤ r.n := by simp at h; omega
  rw [Rs.adv_ok he hk, Rs.gotV, Rs.may_ok he hk]
  repeat (first | ((first | (apply lx_u; exact rfl) | (apply lx_g; exact rfl; exact rfl)); first | (apply isy_slice; exact q_slh rfl rfl rfl rfl) | (apply isy_slice; exact q_sll rfl rfl rfl rfl) | fail) | refine wz ?_ | (refine wzb ?_; intro b_) | fail)
  refine bq_ret (ret_tmp2 rfl rfl rfl) [_] (Gives.refl _) rfl ⟨rfl, ?_⟩
  rw [he]
  rfl
end Go.Proofs.YtmochicneilhhaaGreat.pk
