/- checks: the program's functions, on. -/
import Derived.Test.YtmochicneilhhaaGreatPCb
import Derived.Test.YtmochicneilhhaaGreatPGo
namespace Go.Proofs.YtmochicneilhhaaGreat.chk
open Go.RowKit Go.Proofs.YtmochicneilhhaaGreat.crc
attribute [local irreducible] LX CX Yl Gives RetIs Fn
attribute [local irreducible] crc.many crc.row crc.one tabS takes take

theorem next_fn (b : Nat) (r : R) (x : B) : Fn Tryz.prog 129 [.pointer (some ⟨b, 0, none⟩), .int .u32 r.toNat, bv x] [.ro (some ⟨b, 0, none⟩) 259 1 (tabS true)] [] fun v Lo => v = .int .u32 (take r x).toNat ∧ Lo = [] := by
  refine fn_enter Tryz.func129 rfl rfl (by kernel_rfl) rfl ?_
  intro w0
  have hc : (tabS true)[3 + (r.setWidth 8 ^^^ x).toNat]? = some (.int .u32 (crc.row (r.setWidth 8 ^^^ x)).toNat) := by unfold tabS; exact tabC_get 1 0 _
  have hlt := (r.setWidth 8 ^^^ x).isLt
  repeat (first | ((first | (apply lx_u; exact rfl) | (apply lx_g; exact rfl; exact rfl)); first | (apply isy_convert; exact yl_cv (E := EV) uk8 _ rfl rfl rfl rfl (by first | exact fun _ => rfl | exact fun h => h | exact fun h => (Bool.and_eq_true_iff.1 h).1)) | (apply isy_bin_xor; exact yl_xor uk8 _ _ rfl rfl rfl rfl (by first | exact fun _ => rfl | exact fun h => h | exact fun h => (Bool.and_eq_true_iff.1 h).1) (by first | exact fun _ => rfl | exact fun h => h | exact fun h => (Bool.and_eq_true_iff.1 h).1)) | (apply isy_bin_xor; exact yl_xor uk32 _ _ rfl rfl rfl rfl (by first | exact fun _ => rfl | exact fun h => h | exact fun h => (Bool.and_eq_true_iff.1 h).1) (by first | exact fun _ => rfl | exact fun h => h | exact fun h => (Bool.and_eq_true_iff.1 h).1)) | (apply isy_indexAddr; exact yl_indexP (E := EV) rfl rfl rfl rfl (by first | exact fun _ => rfl | exact fun h => h | exact fun h => (Bool.and_eq_true_iff.1 h).1) (by first | exact fun _ => rfl | exact fun h => h | exact fun h => (Bool.and_eq_true_iff.1 h).1) (fun _ => by omega)) | (apply isy_load; exact yl_loadVR (E := EV) 0 rfl rfl rfl rfl (fun _ => hc) (by first | exact fun _ => rfl | exact fun h => h | exact fun h => (Bool.and_eq_true_iff.1 h).1)) | (apply isy_bin_shr; exact yl_bshr uk32 _ 8 rfl rfl rfl rfl (by first | exact fun _ => rfl | exact fun h => h | exact fun h => (Bool.and_eq_true_iff.1 h).1) (by first | exact fun _ => rfl | exact fun h => h | exact fun h => (Bool.and_eq_true_iff.1 h).1)) | fail) | refine wz ?_ | (refine wzb ?_; intro b_) | fail)
  rw [take_row]
  exact bq_ret (ret_tmp rfl rfl) [] (Gives.nil _) rfl ⟨rfl, rfl⟩


set_option maxHeartbeats 1000000 in
theorem tUpdate_fn (b : Nat) (e : Bool) (s : R) (A : Option Addr) (n c : Nat) (l : List B) (hl : l.length = n) (hn : n ≤ 9223372036854775807) : Fn Tryz.prog 103 [.pointer (some ⟨b, 0, none⟩), .int .u32 s.toNat, .slice A n c] [.blk b (tabS e) 181, .ro A n 1 (bvs l)] [b]
    fun v Lo => v = .int .u32 (upd s l).toNat ∧ Lo = [.blk b (tabS true) 181] := by
  refine fn_enter Tryz.func103 rfl rfl (by kernel_rfl) rfl ?_
  intro w0
  repeat (first | refine wz ?_ | (refine wzb ?_; intro b_) | fail)
  refine lx_call (full_fn b e) [.blk b (tabS e) 181] [.ro A n 1 (bvs l)] (Gives.refl _) (fun w hm => hm.enter [0] (by decide) rfl (fun c hc _ g hg => ?_)) (fun g hg => ⟨_, List.mem_cons_self .., rfl, (List.mem_singleton.1 hg).symm⟩) (fun _ _ => trivial) rfl rfl rfl rfl rfl rfl rfl rfl ?_
  · obtain rfl := List.mem_singleton.1 hc
    cases hg
    exact List.mem_cons_self ..
  rintro v_ Lo_ ⟨rfl, rfl⟩
  repeat (first | ((first | (apply lx_u; exact rfl) | (apply lx_g; exact rfl; exact rfl)); first | (apply isy_bin_xor; exact yl_xor uk32 _ ones rfl rfl rfl rfl (by first | exact fun _ => rfl | exact fun h => h | exact fun h => (Bool.and_eq_true_iff.1 h).1) (by first | exact fun _ => rfl | exact fun h => h | exact fun h => (Bool.and_eq_true_iff.1 h).1)) | fail) | refine wz ?_ | (refine wzb ?_; intro b_) | fail)
  refine cx_loop (α := { i : Nat // i ≤ n }) (fun x => [(0, none, .pointer (some ⟨b, 0, none⟩)), (7, none, .int .u32 (takes (s ^^^ ones) (l.take x.1)).toNat), (14, none, .slice A n c), (15, none, .int .i64 n), (16, none, .int .i64 x.1)]) (fun _ => [.blk b (tabS true) 181, .ro A n 1 (bvs l)]) (fun x => n - x.1)
    ⟨0, Nat.zero_le _⟩ ⟨rfl, by unfold takes; rfl, rfl, rfl, rfl, trivial⟩ (Gives.refl _) ?_
  rintro ⟨i, hi⟩
  dsimp only
  repeat (first | refine wz ?_ | (refine wzb ?_; intro b_) | fail)
  refine cx_cond rfl (fun h => ?_) (fun h => ?_)
  · have hlt : i < n := by simp at h; omega
    obtain ⟨x, hx⟩ : ∃ x, l[i]? = some x := ⟨_, List.getElem?_eq_getElem (by omega)⟩
    have hx0 : (bvs l)[mulI i 1]? = some (bv x) := bvs_get hx
    repeat (first | ((first | (apply lx_u; exact rfl) | (apply lx_g; exact rfl; exact rfl)); first | (apply isy_indexAddr; exact yl_index (E := EV) 1 rfl rfl rfl rfl rfl (Shows.ro ..) (by first | exact fun _ => rfl | exact fun h => h | exact fun h => (Bool.and_eq_true_iff.1 h).1) (by first | exact fun _ => rfl | exact fun h => h | exact fun h => (Bool.and_eq_true_iff.1 h).1) (fun _ => by omega)) | (apply isy_load; exact yl_loadI (E := EV) 1 rfl rfl rfl (Shows.ro ..) rfl (fun _ => hx0) (by first | exact fun _ => rfl | exact fun h => h | exact fun h => (Bool.and_eq_true_iff.1 h).1)) | fail) | (refine isx_call ?_; refine k_gcall (next_fn b _ x) ((fun w hm => in_ro (row_blk 0 rfl (tabS_len true) hm) (in_nil hm) rfl)) rfl rfl rfl rfl rfl rfl ?_) | refine wz ?_ | (refine wzb ?_; intro b_) | fail)
    exact ⟨⟨i + 1, by omega⟩, ⟨rfl, slot_int (by dsimp only; rw [takes_take _ hx]), rfl, rfl, slot_int (by dsimp only; omega), trivial⟩, Gives.refl _, by dsimp only; omega⟩
  · obtain rfl : i = n := by simp at h; omega
    rw [List.take_of_length_le (by omega)]
    repeat (first | ((first | (apply lx_u; exact rfl) | (apply lx_g; exact rfl; exact rfl)); first | (apply isy_bin_xor; exact yl_xor uk32 _ ones rfl rfl rfl rfl (by first | exact fun _ => rfl | exact fun h => h | exact fun h => (Bool.and_eq_true_iff.1 h).1) (by first | exact fun _ => rfl | exact fun h => h | exact fun h => (Bool.and_eq_true_iff.1 h).1)) | fail) | refine wz ?_ | (refine wzb ?_; intro b_) | fail)
    exact bq_ret (ret_tmp rfl rfl) [_] (Gives.pick [0] (by decide) rfl) rfl ⟨rfl, rfl⟩

















































set_option maxHeartbeats 1000000 in
theorem sum_fn (A : Option Addr) (n c : Nat) (rs : List Rw) (hl : rs.length = n) (hn : n ≤ 9223372036854775807) : Fn Tryz.prog 79 [.slice A n c] [.rows A n rs] [] fun v Lo => v = .int .u32 (sumR 0#32 rs).toNat ∧ Lo = [] := by
  refine fn_enter Tryz.func79 rfl rfl (by kernel_rfl) rfl ?_
  intro w0
  repeat (first | refine wz ?_ | (refine wzb ?_; intro b_) | fail)
  refine cx_loop (α := { x : Nat × Bool // x.1 ≤ n }) (fun x => [(2, none, .int .u32 (sumR 0#32 (rs.take x.1.1)).toNat), (3, none, .pointer (some ⟨b_, 0, none⟩)), (8, none, .slice A n c), (9, none, .int .i64 n), (10, none, .int .i64 x.1.1)]) (fun x => [.blk b_ (tabS x.1.2) 181, .rows A n rs]) (fun x => n - x.1.1)
    ⟨(0, false), Nat.zero_le _⟩ ⟨rfl, rfl, rfl, rfl, rfl, trivial⟩ (Gives.blkeq 0 rfl tab_zero) ?_
  rintro ⟨⟨i, e⟩, hi⟩
  dsimp only at hi ⊢
  repeat (first | refine wz ?_ | (refine wzb ?_; intro b_) | fail)
  refine cx_cond rfl (fun h => ?_) (fun h => ?_)
  · have hlt : i < n := by simp at h; omega
    obtain ⟨r, hr⟩ : ∃ r, rs[i]? = some r := ⟨_, List.getElem?_eq_getElem (by omega)⟩
    have hr0 := rwv_get hr
    repeat (first | refine wz ?_ | (refine wzb ?_; intro b_) | fail)
    refine lx_fact (fun w hm => rows_ok 1 rfl hr hm) fun ⟨hrl, hrc, hrm⟩ => ?_
    refine lx_more (L' := [.ro r.A r.n 1 (bvs r.l), .ro A n 1 (rwv rs), .blk b_ (tabS e) 181, .rows A n rs]) ((Gives.rows 1 rfl).trans (Gives.rowsAt 2 rfl hr)) (Gives.pick [2, 3] (by decide) rfl) ?_
    repeat (first | ((first | (apply lx_u; exact rfl) | (apply lx_g; exact rfl; exact rfl)); first | (apply isy_indexAddr; exact yl_index (E := EV) 1 rfl rfl rfl rfl rfl (Shows.ro ..) (by first | exact fun _ => rfl | exact fun h => h | exact fun h => (Bool.and_eq_true_iff.1 h).1) (by first | exact fun _ => rfl | exact fun h => h | exact fun h => (Bool.and_eq_true_iff.1 h).1) (fun _ => by omega)) | (apply isy_load; exact yl_loadI (E := EV) 1 rfl rfl rfl (Shows.ro ..) rfl (fun _ => hr0) (by first | exact fun _ => rfl | exact fun h => h | exact fun h => (Bool.and_eq_true_iff.1 h).1)) | fail) | refine wz ?_ | (refine wzb ?_; intro b_) | fail)
    refine lx_call (tUpdate_fn b_ e _ r.A r.n r.c r.l hrl (by omega)) [.blk b_ (tabS e) 181] [.rows A n rs] (Gives.pick [2, 3] (by decide) rfl) (fun w hm => hm.enter [2, 0] (by decide) rfl (fun c hc hcm g hg => ?_)) (fun g hg => ⟨_, List.mem_cons_self .., rfl, (List.mem_singleton.1 hg).symm⟩) (fun _ _ => trivial) rfl rfl rfl rfl rfl rfl rfl rfl ?_
    · rcases List.mem_cons.1 hc with rfl | hc
      · cases hg; exact List.mem_cons_self ..
      · obtain rfl := List.mem_singleton.1 hc
        cases hcm
    rintro v_ Lo_ ⟨rfl, rfl⟩
    repeat (first | refine wz ?_ | (refine wzb ?_; intro b_) | fail)
    exact ⟨⟨(i + 1, true), by dsimp only; omega⟩, ⟨slot_int (by dsimp only; rw [sumR_take _ hr]), rfl, rfl, rfl, slot_int (by dsimp only; omega), trivial⟩, Gives.refl _, by dsimp only; omega⟩
  · obtain rfl : i = n := by simp at h; omega
    rw [List.take_of_length_le (by omega)]
    repeat (first | refine wz ?_ | (refine wzb ?_; intro b_) | fail)
    exact bq_ret (ret_tmp rfl rfl) [] (Gives.nil _) rfl ⟨rfl, rfl⟩

end Go.Proofs.YtmochicneilhhaaGreat.chk
