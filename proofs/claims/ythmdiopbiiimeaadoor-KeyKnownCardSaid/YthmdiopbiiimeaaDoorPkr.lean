/- packed numbers and texts: the reference's functions. -/
import Derived.Test.YthmdiopbiiimeaaDoorGo
import Derived.Test.YthmdiopbiiimeaaDoorPka
namespace Go.Proofs.YthmdiopbiiimeaaDoor
open Go.RowKit
section
variable {P : Program} {n : Nat} {t : Fr} {L : List Ck}
theorem ret_tmp_cell {E : Env P} {fn : Func} {d b off e : Nat} {T T' : TypeId} {v u : Value} (k : Nat) {cs : List Value} {j : TyI} (hr : fn.results = #[.tmp e, .cell d T]) (hd : lk t d = some (none, .pointer (some ⟨b, off, none⟩))) (he : lk t e = some (none, u)) (hT : E.f T = some j) (hk : L[k]? = some (.blk b cs T'))
    (hin : isAggD j.desc = true → off + j.size ≤ cs.length) (hv : evPart E.f T cs off = some v) : RetIs P fn t L (.tuple #[u, v]) := fun n M a w hf hm => by
  have hd' := hf.tmpq hd
  have he' := hf.tmpq he
  simp [results, hr, hd', he', asAddr, hm.loadVar hT hk hv hin]
end
end Go.Proofs.YthmdiopbiiimeaaDoor
namespace Go.Proofs.YthmdiopbiiimeaaDoor.pk
open Go.RowKit Go.Proofs.YthmdiopbiiimeaaDoor.kit
attribute [local irreducible] LX CX Yl Gives RetIs Fn
attribute [local irreducible] be

set_option maxHeartbeats 1000000 in
theorem rNumber_fn (n : BitVec 64) (k : Nat) (hk : k ≤ 8) : Fn Tryd.prog 53 [.int .u64 n.toNat, .int .i64 k] [] [] fun v Lo => ∃ A c, v = .slice A k c ∧ Lo = [.own A k c 5 1 (bvs (be k n))] := by
  refine fn_enter Tryd.func53 rfl rfl (by kernel_rfl) rfl ?_
  intro w0
  repeat (first | (refine isU ?_; refine gU rfl ?_) | (refine isG ?_; refine gG rfl rfl ?_) | (refine isx_make ?_; (refine isx_make ?_; refine lx_make (E := EV) k rfl rfl rfl rfl rfl rfl rfl rfl rfl rfl rfl rfl rfl rfl (by show 1 * k ≤ _; omega) (by omega) ?_; intro b_)) | (refine isx_box ?_; refine gB rfl rfl rfl rfl rfl rfl ?_; intro b_) | (refine isx_alloc ?_; refine gA rfl rfl rfl rfl rfl rfl rfl ?_; intro b_) | (refine isx_store ?_; refine gS 0 rfl rfl rfl rfl rfl rfl rfl rfl rfl rfl ?_) | (refine isx_store ?_; refine gS 1 rfl rfl rfl rfl rfl rfl rfl rfl rfl rfl ?_) | (refine isx_store ?_; refine gS 2 rfl rfl rfl rfl rfl rfl rfl rfl rfl rfl ?_) | (refine isx_store ?_; refine gS 3 rfl rfl rfl rfl rfl rfl rfl rfl rfl rfl ?_) | (refine isx_row ?_; refine lx_row (E := EV) rfl rfl rfl rfl rfl rfl rfl rfl rfl rfl rfl rfl rfl ?_; intro b_) | refine lx_nil ?_ | with_reducible refine tq_n ?_ | with_reducible refine tq_r ?_ | with_reducible refine tq_e ?_ | with_reducible refine bk_n ?_ | with_reducible refine bk_r ?_ | (with_reducible refine bk_e ?_ ?_; exact rfl) | (with_reducible refine bk_x ?_ ?_; exact rfl) | refine cx_seq ?_ | refine cx_region ?_ | refine cx_block ?_ | refine cx_ret ?_ | refine cx_skip ?_ | refine cx_exit ?_ | fail)
  have hbl := be_len k n
  refine cx_loop (α := { j : Nat // j ≤ k }) (fun y => [(0, none, .int .u64 (n >>> (8 * y.1)).toNat), (5, none, .slice (some ⟨b_, 0, none⟩) k k), (6, none, .int .i64 ((k : Int) - 1 - y.1))])
    (fun y => [.own (some ⟨b_, 0, none⟩) k k 5 1 (bvs (List.replicate (k - y.1) 0#8 ++ (be k n).drop (k - y.1)))]) (fun y => k - y.1) ⟨0, Nat.zero_le _⟩ ⟨slot_int (by simp), rfl, slot_int (by dsimp only; omega), trivial⟩ ?_ ?_
  · dsimp only
    rw [Nat.sub_zero, List.drop_eq_nil_of_le (by omega), List.append_nil, ← bvs_zero]
    exact Gives.blkown 0 (m := k) (sz := 1) rfl (by simp) (by unfold maxLen; omega)
  rintro ⟨j, hj⟩
  dsimp only
  repeat (first | (refine isU ?_; refine gU rfl ?_) | (refine isG ?_; refine gG rfl rfl ?_) | (refine isx_box ?_; refine gB rfl rfl rfl rfl rfl rfl ?_; intro b_) | (refine isx_alloc ?_; refine gA rfl rfl rfl rfl rfl rfl rfl ?_; intro b_) | (refine isx_store ?_; refine gS 0 rfl rfl rfl rfl rfl rfl rfl rfl rfl rfl ?_) | (refine isx_store ?_; refine gS 1 rfl rfl rfl rfl rfl rfl rfl rfl rfl rfl ?_) | (refine isx_store ?_; refine gS 2 rfl rfl rfl rfl rfl rfl rfl rfl rfl rfl ?_) | (refine isx_store ?_; refine gS 3 rfl rfl rfl rfl rfl rfl rfl rfl rfl rfl ?_) | (refine isx_row ?_; refine lx_row (E := EV) rfl rfl rfl rfl rfl rfl rfl rfl rfl rfl rfl rfl rfl ?_; intro b_) | refine lx_nil ?_ | with_reducible refine tq_n ?_ | with_reducible refine tq_r ?_ | with_reducible refine tq_e ?_ | with_reducible refine bk_n ?_ | with_reducible refine bk_r ?_ | (with_reducible refine bk_e ?_ ?_; exact rfl) | (with_reducible refine bk_x ?_ ?_; exact rfl) | refine cx_seq ?_ | refine cx_region ?_ | refine cx_block ?_ | refine cx_ret ?_ | refine cx_skip ?_ | refine cx_exit ?_ | fail)
  refine cx_cond rfl (fun h => ?_) (fun h => ?_)
  · have hlt : j < k := by simp at h; omega
    have hy := be_get n (show k - 1 - j < k by omega)
    rw [show k - 1 - (k - 1 - j) = j by omega] at hy
    have hset := fill_back (k := k) hbl hlt hy
    have hat : ((k : Int) - 1 - j).toNat = k - 1 - j := by omega
    generalize (be k n) = l at hbl hset hy ⊢
    have hq := quo256 n j
    repeat (first | ((first | (apply lx_u; exact rfl) | (apply lx_g; exact rfl; exact rfl)); first | (apply isy_bin_rem; exact q_brem uk64 _ 256#64 rfl rfl rfl rfl) | (apply isy_bin_quo; exact q_bquo uk64 _ 256#64 rfl rfl rfl rfl) | (apply isy_convert; exact yl_eq (yl_cv (E := EV) uk8 _ rfl rfl rfl rfl (by first | exact fun _ => rfl | exact fun h => h | exact fun h => (Bool.and_eq_true_iff.1 h).1)) (fun _ => congrArg (Value.int .u8) (show (((n >>> (8 * j) % 256#64).setWidth 8).toNat : Int) = ((n >>> (8 * j)).setWidth 8).toNat by rw [rem256]))) | (apply isy_indexAddr; exact yl_eq (yl_indexS (E := EV) rfl rfl rfl rfl (by first | exact fun _ => rfl | exact fun h => h | exact fun h => (Bool.and_eq_true_iff.1 h).1) (by first | exact fun _ => rfl | exact fun h => h | exact fun h => (Bool.and_eq_true_iff.1 h).1) (fun _ => by omega)) (fun _ => by rw [hat])) | fail) | (refine isU ?_; refine gU rfl ?_) | (refine isG ?_; refine gG rfl rfl ?_) | (refine isx_store ?_; refine lx_storeI (E := EV) 0 rfl rfl rfl rfl rfl rfl rfl rfl rfl (by show k - 1 - j + 1 ≤ (bvs _).length; simp [bvs_len]; omega) rfl (fun _ => trivial) ?_) | (refine isx_box ?_; refine gB rfl rfl rfl rfl rfl rfl ?_; intro b_) | (refine isx_alloc ?_; refine gA rfl rfl rfl rfl rfl rfl rfl ?_; intro b_) | (refine isx_store ?_; refine gS 0 rfl rfl rfl rfl rfl rfl rfl rfl rfl rfl ?_) | (refine isx_store ?_; refine gS 1 rfl rfl rfl rfl rfl rfl rfl rfl rfl rfl ?_) | (refine isx_store ?_; refine gS 2 rfl rfl rfl rfl rfl rfl rfl rfl rfl rfl ?_) | (refine isx_store ?_; refine gS 3 rfl rfl rfl rfl rfl rfl rfl rfl rfl rfl ?_) | (refine isx_row ?_; refine lx_row (E := EV) rfl rfl rfl rfl rfl rfl rfl rfl rfl rfl rfl rfl rfl ?_; intro b_) | refine lx_nil ?_ | with_reducible refine tq_n ?_ | with_reducible refine tq_r ?_ | with_reducible refine tq_e ?_ | with_reducible refine bk_n ?_ | with_reducible refine bk_r ?_ | (with_reducible refine bk_e ?_ ?_; exact rfl) | (with_reducible refine bk_x ?_ ?_; exact rfl) | refine cx_seq ?_ | refine cx_region ?_ | refine cx_block ?_ | refine cx_ret ?_ | refine cx_skip ?_ | refine cx_exit ?_ | fail)
    refine ⟨⟨j + 1, by omega⟩, ⟨slot_int (by dsimp only; rw [hq]), rfl, slot_int (by dsimp only; omega), trivial⟩, ?_, by dsimp only; omega⟩
    dsimp only
    rw [← hset]
    exact Gives.refl _
  · obtain rfl : j = k := by simp at h; omega
    rw [Nat.sub_self, List.drop_zero, List.replicate_zero, List.nil_append]
    repeat (first | (refine isU ?_; refine gU rfl ?_) | (refine isG ?_; refine gG rfl rfl ?_) | (refine isx_box ?_; refine gB rfl rfl rfl rfl rfl rfl ?_; intro b_) | (refine isx_alloc ?_; refine gA rfl rfl rfl rfl rfl rfl rfl ?_; intro b_) | (refine isx_store ?_; refine gS 0 rfl rfl rfl rfl rfl rfl rfl rfl rfl rfl ?_) | (refine isx_store ?_; refine gS 1 rfl rfl rfl rfl rfl rfl rfl rfl rfl rfl ?_) | (refine isx_store ?_; refine gS 2 rfl rfl rfl rfl rfl rfl rfl rfl rfl rfl ?_) | (refine isx_store ?_; refine gS 3 rfl rfl rfl rfl rfl rfl rfl rfl rfl rfl ?_) | (refine isx_row ?_; refine lx_row (E := EV) rfl rfl rfl rfl rfl rfl rfl rfl rfl rfl rfl rfl rfl ?_; intro b_) | refine lx_nil ?_ | with_reducible refine tq_n ?_ | with_reducible refine tq_r ?_ | with_reducible refine tq_e ?_ | with_reducible refine bk_n ?_ | with_reducible refine bk_r ?_ | (with_reducible refine bk_e ?_ ?_; exact rfl) | (with_reducible refine bk_x ?_ ?_; exact rfl) | refine cx_seq ?_ | refine cx_region ?_ | refine cx_block ?_ | refine cx_ret ?_ | refine cx_skip ?_ | refine cx_exit ?_ | fail)
    exact bq_ret (ret_tmp rfl rfl) [_] (Gives.refl _) rfl ⟨_, _, rfl, rfl⟩


theorem rInt_fn (n : Int) : Fn Tryd.prog 45 [.int .i64 n] [] [] fun v Lo => ∃ A c, v = .slice A 8 c ∧ Lo = [.own A 8 c 5 1 (bvs (be 8 (BitVec.ofInt 64 n)))] := by
  refine fn_enter Tryd.func45 rfl rfl (by kernel_rfl) rfl ?_
  intro w0
  repeat (first | ((first | (apply lx_u; exact rfl) | (apply lx_g; exact rfl; exact rfl)); first | (apply isy_convert; exact q_ci uk64 rfl rfl rfl) | fail) | (refine isU ?_; refine gU rfl ?_) | (refine isG ?_; refine gG rfl rfl ?_) | (refine isx_call ?_; (refine lx_call0 (rNumber_fn (BitVec.ofInt 64 n) 8 (by omega)) (fun _ hm => in_nil hm) rfl rfl rfl rfl rfl rfl rfl rfl ?_; rintro v_ Lo_ ⟨A_, c_, rfl, rfl⟩)) | (refine isx_box ?_; refine gB rfl rfl rfl rfl rfl rfl ?_; intro b_) | (refine isx_alloc ?_; refine gA rfl rfl rfl rfl rfl rfl rfl ?_; intro b_) | (refine isx_store ?_; refine gS 0 rfl rfl rfl rfl rfl rfl rfl rfl rfl rfl ?_) | (refine isx_store ?_; refine gS 1 rfl rfl rfl rfl rfl rfl rfl rfl rfl rfl ?_) | (refine isx_store ?_; refine gS 2 rfl rfl rfl rfl rfl rfl rfl rfl rfl rfl ?_) | (refine isx_store ?_; refine gS 3 rfl rfl rfl rfl rfl rfl rfl rfl rfl rfl ?_) | (refine isx_row ?_; refine lx_row (E := EV) rfl rfl rfl rfl rfl rfl rfl rfl rfl rfl rfl rfl rfl ?_; intro b_) | refine lx_nil ?_ | with_reducible refine tq_n ?_ | with_reducible refine tq_r ?_ | with_reducible refine tq_e ?_ | with_reducible refine bk_n ?_ | with_reducible refine bk_r ?_ | (with_reducible refine bk_e ?_ ?_; exact rfl) | (with_reducible refine bk_x ?_ ?_; exact rfl) | refine cx_seq ?_ | refine cx_region ?_ | refine cx_block ?_ | refine cx_ret ?_ | refine cx_skip ?_ | refine cx_exit ?_ | fail)
  exact bq_ret (ret_tmp rfl rfl) [_] (Gives.refl _) rfl ⟨_, _, rfl, rfl⟩



















































/- the reference's reader: bytes, a place, and whether it has failed -/
def rTake (l : List B8) (at' : Nat) (f : Bool) (k : Nat) : BitVec 64 × Nat × Bool := if f = true ∨ l.length < at' + k then (0#64, at', true) else (de 0#64 ((l.drop at').take k), at' + k, false)
def rVal (A : Option Addr) (n c : Nat) (at' : Nat) (f : Bool) : Value := .agg #[.slice A n c, .int .i64 at', .bool f]
attribute [local irreducible] de





















































def rText (l : List B8) (at' : Nat) (f : Bool) : List B8 × Nat × Bool :=
  if (rTake l at' f 2).2.2 = true ∨ l.length < (rTake l at' f 2).2.1 + (rTake l at' f 2).1.toNat then ([], at', true)
  else ((l.drop (rTake l at' f 2).2.1).take (rTake l at' f 2).1.toNat, (rTake l at' f 2).2.1 + (rTake l at' f 2).1.toNat, false)
end Go.Proofs.YthmdiopbiiimeaaDoor.pk
