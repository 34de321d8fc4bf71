/- scripts: the reference's guesses at a configuration and a request. -/
import Derived.Test.YtmochicneilhhaaGreatPGo
import Derived.Test.YtmochicneilhhaaGreatPTy
namespace Go.Proofs.YtmochicneilhhaaGreat.sc
open Go.RowKit Go.Proofs.YtmochicneilhhaaGreat.kit Go.Proofs.YtmochicneilhhaaGreat.pk Go.Proofs.YtmochicneilhhaaGreat.rq Go.Proofs.YtmochicneilhhaaGreat.ev Go.Proofs.YtmochicneilhhaaGreat.win
abbrev W64 (n : Int) : Int := IntKind.i64.wrap n
def guessN (c : Cf) : Int := if (c.k == 2 && decide (c.l > 0)) = true then W64 (W64 (c.l - 1) + W64 (4 * W64 (W64 (c.s.tdiv c.l) - 1))) else W64 (W64 (c.s + c.g) - 1)
def guessQ (c : Cf) : List B8 := [BitVec.ofInt 8 (IntKind.u8.wrap (c.k - 1)), BitVec.ofInt 8 (guessN c), BitVec.ofInt 8 c.la, BitVec.ofInt 8 (W64 (c.ca - 1)), BitVec.ofInt 8 (W64 (c.pg - 1)), BitVec.ofInt 8 (W64 (c.bu - 1)), BitVec.ofInt 8 (W64 (c.qu - 1)), BitVec.ofInt 8 (W64 (c.cl - 1)), BitVec.ofInt 8 (W64 (c.le - 1))]
theorem u8_wrap (n : Int) : IntKind.u8.wrap n = ((BitVec.ofInt 8 (IntKind.u8.wrap n)).toNat : Int) := by
  unfold IntKind.wrap
  simp only [IntKind.bits, IntKind.signed]
  simp
  omega
attribute [local irreducible] LX CX Yl Gives RetIs Fn
attribute [local irreducible] be de fr.frm
set_option maxRecDepth 100000 in
set_option maxHeartbeats 4000000 in
theorem rguess_fn (c : Cf) : Fn Tryz.prog 54 [c.val] [] [] fun v Lo => ∃ b, v = .slice (some ⟨b, 0, none⟩) 9 9 ∧ Lo = [.blk b (bvs (guessQ c)) 5] := by
  unfold guessQ guessN
  by_cases h2 : (c.k == 2 && decide (c.l > 0)) = true
  · rw [if_pos h2]
    have hl : 0 < c.l := by simp at h2; omega
    have hl0 : c.l ≠ 0 := by omega
    clear hl
    refine fn_enter Tryz.func54 rfl rfl (by kernel_rfl) rfl ?_; intro w0
    repeat (first | refine wz ?_ | (refine wzb ?_; intro b_) | fail)
    refine cx_cond rfl (fun _ => ?_) (fun h => absurd h (by rw [h2]; decide))
    repeat (first | refine wz ?_ | (refine wzb ?_; intro b_) | fail)
    refine cx_draw [] _ rfl (by kernel_rfl) (Gives.refl _) ?_
    repeat (first | ((first | (apply lx_u; exact rfl) | (apply lx_g; exact rfl; exact rfl)); first | (apply isy_bin_quo; exact q_quo rfl rfl) | (apply isy_bin_sub; exact yl_eq (yl_op (E := EV) rfl) (fun _ => congrArg (Value.int .u8) (u8_wrap (c.k - 1)))) | (apply isy_convert; exact q_ci uk8 rfl rfl rfl) | fail) | refine wz ?_ | (refine wzb ?_; intro b_) | fail)
    exact bq_ret (ret_tmp rfl rfl) [_] (Gives.pick [0] (by decide) rfl) rfl ⟨_, rfl, rfl⟩
  · rw [if_neg h2]
    refine fn_enter Tryz.func54 rfl rfl (by kernel_rfl) rfl ?_; intro w0
    repeat (first | refine wz ?_ | (refine wzb ?_; intro b_) | fail)
    refine cx_cond rfl (fun h => absurd h h2) (fun _ => ?_)
    repeat (first | ((first | (apply lx_u; exact rfl) | (apply lx_g; exact rfl; exact rfl)); first | (apply isy_bin_sub; exact yl_eq (yl_op (E := EV) rfl) (fun _ => congrArg (Value.int .u8) (u8_wrap (c.k - 1)))) | (apply isy_convert; exact q_ci uk8 rfl rfl rfl) | fail) | refine wz ?_ | (refine wzb ?_; intro b_) | fail)
    exact bq_ret (ret_tmp rfl rfl) [_] (Gives.pick [0] (by decide) rfl) rfl ⟨_, rfl, rfl⟩
theorem rname_fn (s : List B8) : Fn Tryz.prog 123 [.string (sb s)] [] [] fun v Lo => v = .int .u8 (nameQ s).toNat ∧ Lo = [] := by
  match s with
  | [] =>
    refine fn_enter Tryz.func123 rfl rfl (by kernel_rfl) rfl ?_; intro w0
    repeat (first | ((first | (apply lx_gt; exact rfl; exact rfl; exact rfl) | (apply lx_u; exact rfl) | (apply lx_g; exact rfl; exact rfl)); first | (apply isy_bin_eql; exact yl_true (q_seq [] [] rfl rfl) (fun _ => rfl)) | fail) | refine wzf ?_ | (refine wzb ?_; intro b_) | fail)
    refine cx_cond rfl (fun _ => ?_) (fun h => absurd h (by decide))
    repeat (first | refine wz ?_ | (refine wzb ?_; intro b_) | fail)
    exact bq_ret (ret_tmp rfl rfl) [] (Gives.nil _) rfl ⟨rfl, rfl⟩
  | x :: m =>
    have he : ((x :: m) == ([] : List B8)) = false := rfl
    refine fn_enter Tryz.func123 rfl rfl (by kernel_rfl) rfl ?_; intro w0
    repeat (first | ((first | (apply lx_gt; exact rfl; exact rfl; exact rfl) | (apply lx_u; exact rfl) | (apply lx_g; exact rfl; exact rfl)); first | (apply isy_bin_eql; exact yl_false (q_seq (x :: m) [] rfl rfl) (fun _ => he)) | fail) | refine wzf ?_ | (refine wzb ?_; intro b_) | fail)
    refine cx_cond rfl (fun h => absurd h (by decide)) (fun _ => ?_)
    repeat (first | ((first | (apply lx_u; exact rfl) | (apply lx_g; exact rfl; exact rfl)); first | (apply isy_index; exact q_sat rfl rfl rfl (fun _ => ⟨Int.le_refl 0, rfl⟩)) | (apply isy_bin_sub; exact q_bsub uk8 x 97#8 rfl rfl rfl rfl) | fail) | refine wz ?_ | (refine wzb ?_; intro b_) | fail)
    exact bq_ret (ret_tmp rfl rfl) [] (Gives.nil _) rfl ⟨rfl, rfl⟩
structure HSt (r : RQ) where
  i : Nat
  A' : Option Addr
  c' : Nat
  hi : i ≤ (pts r.k).length
theorem rpart_len (r : RQ) (q : Pt) : (rpart r q).length ≤ 3 := by
  cases q <;> unfold rpart <;> dsimp only
  · exact Nat.le_of_ble_eq_true rfl
  · exact Nat.le_of_ble_eq_true rfl
  · exact Nat.le_of_ble_eq_true rfl
  · split <;> exact Nat.le_of_ble_eq_true rfl
  · split
    · exact Nat.le_of_ble_eq_true rfl
    · split <;> exact Nat.le_of_ble_eq_true rfl
theorem rparts_len (r : RQ) : ∀ ps : List Pt, (ps.flatMap (rpart r)).length ≤ 3 * ps.length
  | [] => Nat.le_refl _
  | q :: ps => by
    have := rpart_len r q
    have := rparts_len r ps
    rw [List.flatMap_cons, List.length_append, List.length_cons]
    omega
set_option maxRecDepth 100000 in
set_option maxHeartbeats 8000000 in
theorem rasks_fn (r : RQ) : Fn Tryz.prog 122 [r.val] [] [] fun v Lo => ∃ A c, v = .slice A (asksQ r).length c ∧ Lo = [.own A (asksQ r).length c 5 1 (bvs (asksQ r))] := by
  have hr := rright_fn r
  unfold asksQ
  cases hR : r.right with
  | false =>
    rw [hR] at hr
    refine fn_enter Tryz.func122 rfl rfl (by kernel_rfl) rfl ?_; intro w0
    repeat (first | (refine isx_call ?_; refine lx_gcallt (hr) (fun _ hm => in_nil hm) rfl rfl rfl rfl rfl rfl rfl ?_) | refine wzf ?_ | (refine wzb ?_; intro b_) | fail)
    refine cx_cond rfl (fun _ => ?_) (fun h => absurd h (by decide))
    repeat (first | refine wz ?_ | (refine wzb ?_; intro b_) | fail)
    exact bq_ret (ret_tmp rfl rfl) [_] ((Gives.nilown _ _ _).trans (Gives.pick [0] (by decide) rfl)) rfl ⟨none, 0, rfl, rfl⟩
  | true =>
    rw [hR] at hr
    rw [if_pos rfl]
    have hk8 := (right_known hR).2
    have hna := names_at hk8
    have hnl : (names r.k).length = (pts r.k).length := List.length_map ..
    have hpl := pts_len r.k
    refine fn_enter Tryz.func122 rfl rfl (by kernel_rfl) rfl ?_; intro w0
    repeat (first | (refine isx_call ?_; refine lx_gcallt (hr) (fun _ hm => in_nil hm) rfl rfl rfl rfl rfl rfl rfl ?_) | refine wzf ?_ | (refine wzb ?_; intro b_) | fail)
    refine cx_cond rfl (fun h => absurd h (by decide)) (fun _ => ?_)
    repeat (first | ((first | (apply lx_u; exact rfl) | (apply lx_g; exact rfl; exact rfl)); first | (apply isy_bin_sub; exact q_bsub uk8 r.k 1#8 rfl rfl rfl rfl) | (apply isy_convert; exact q_cv uk8 r.id rfl rfl rfl rfl) | fail) | refine wz ?_ | (refine wzb ?_; intro b_) | fail)
    rename_i b1 hh b2
    refine lx_weak (L' := [.own (some ⟨b_, 0, none⟩) 9 9 9 1 ptsV, .own (some ⟨b2, 0, none⟩) 2 2 5 1 (bvs [r.k - 1#8, r.id.setWidth 8]), .blk b1 r.cells 53]) ((Gives.blkown (m := 9) (sz := 1) 0 rfl rfl (by decide)).trans (Gives.blkown (m := 2) (sz := 1) 1 rfl rfl (by decide))) ?_
    repeat (first | ((first | (apply lx_u; exact rfl) | (apply lx_g; exact rfl; exact rfl)); first | (apply isy_indexAddr; exact q_ixo 0 rfl rfl rfl rfl rfl (hb := (fun _ => by omega))) | (apply isy_load; exact q_lio 0 rfl rfl rfl rfl hna) | fail) | refine wz ?_ | (refine wzb ?_; intro b_) | fail)
    refine cx_loop (α := HSt r) (fun x => [(1, none, .pointer (some ⟨b1, 0, none⟩)), (3, none, .slice x.A' ([r.k - 1#8, r.id.setWidth 8] ++ ((pts r.k).take x.i).flatMap (rpart r)).length x.c'), (4, none, .string (sb (names r.k))), (5, none, .int .i64 x.i)])
      (fun x => [.own x.A' ([r.k - 1#8, r.id.setWidth 8] ++ ((pts r.k).take x.i).flatMap (rpart r)).length x.c' 5 1 (bvs ([r.k - 1#8, r.id.setWidth 8] ++ ((pts r.k).take x.i).flatMap (rpart r))), .blk b1 r.cells 53]) (fun x => (pts r.k).length - x.i) ⟨0, some ⟨b2, 0, none⟩, 2, Nat.zero_le _⟩ ⟨rfl, rfl, rfl, rfl, trivial⟩ (Gives.pick [1, 2] (by decide) rfl) ?_
    rintro ⟨i, A', c', hi⟩
    dsimp only at hi ⊢
    have hul : ([r.k - 1#8, r.id.setWidth 8] ++ ((pts r.k).take i).flatMap (rpart r)).length ≤ 100 := by
      have := rparts_len r ((pts r.k).take i)
      rw [List.length_take] at this
      rw [List.length_append]
      show 2 + _ ≤ 100
      omega
    generalize hu : [r.k - 1#8, r.id.setWidth 8] ++ ((pts r.k).take i).flatMap (rpart r) = u at *
    repeat (first | ((first | (apply lx_u; exact rfl) | (apply lx_g; exact rfl; exact rfl)); first | (apply isy_blt; exact q_slen rfl rfl) | fail) | refine wz ?_ | (refine wzb ?_; intro b_) | fail)
    by_cases hlt : i < (pts r.k).length
    · obtain ⟨q, hq⟩ : ∃ q, (pts r.k)[i]? = some q := ⟨_, List.getElem?_eq_getElem hlt⟩
      refine cx_cond rfl (fun _ => ?_) (fun h => absurd h (by simp; omega))
      have hnx : [r.k - 1#8, r.id.setWidth 8] ++ ((pts r.k).take (i + 1)).flatMap (rpart r) = u ++ rpart r q := by rw [flat_take hq, ← hu, List.append_assoc]
      have hgt := names_get hq
      clear hu
      cases q
      · skip
        repeat (first | ((first | (apply lx_u; exact rfl) | (apply lx_g; exact rfl; exact rfl)); first | (apply isy_index; exact q_sat rfl rfl rfl (fun _ => ⟨Int.natCast_nonneg _, hgt⟩)) | fail) | refine wz ?_ | (refine wzb ?_; intro b_) | fail)
        refine cx_cond rfl (fun _ => ?_) (fun h => absurd h (by decide))
        repeat (first | ((first | (apply lx_u; exact rfl) | (apply lx_g; exact rfl; exact rfl)); first | (apply isy_convert; exact q_cv uk8 r.at_ rfl rfl rfl rfl) | fail) | (refine isx_blt ?_; refine lx_appB (E := EV) 1 u [r.at_.setWidth 8] rfl rfl rfl rfl rfl rfl rfl rfl rfl rfl rfl rfl rfl (fun w hm => row_blk 0 rfl rfl hm) (by simp only [List.length_append, pk.be_len, pk.txt_len, List.length_cons, List.length_nil]; omega) (fun _ _ _ => trivial) ?_; intro A_ c_) | refine wz ?_ | (refine wzb ?_; intro b_) | fail)
        exact ⟨⟨i + 1, A_, c_, hlt⟩, ⟨rfl, by dsimp only; rw [hnx]; rfl, rfl, slot_int (by dsimp only; omega), trivial⟩, by dsimp only; rw [hnx]; exact Gives.pick [1, 2] (by decide) rfl, by dsimp only; omega⟩
      · skip
        repeat (first | ((first | (apply lx_u; exact rfl) | (apply lx_g; exact rfl; exact rfl)); first | (apply isy_index; exact q_sat rfl rfl rfl (fun _ => ⟨Int.natCast_nonneg _, hgt⟩)) | fail) | refine wz ?_ | (refine wzb ?_; intro b_) | fail)
        refine cx_cond rfl (fun h => absurd h (by decide)) (fun _ => ?_)
        repeat (first | refine wz ?_ | (refine wzb ?_; intro b_) | fail)
        refine cx_cond rfl (fun _ => ?_) (fun h => absurd h (by decide))
        repeat (first | ((first | (apply lx_u; exact rfl) | (apply lx_g; exact rfl; exact rfl)); first | (apply isy_convert; exact q_cv uk8 r.le rfl rfl rfl rfl) | fail) | (refine isx_blt ?_; refine lx_appB (E := EV) 1 u [r.le.setWidth 8] rfl rfl rfl rfl rfl rfl rfl rfl rfl rfl rfl rfl rfl (fun w hm => row_blk 0 rfl rfl hm) (by simp only [List.length_append, pk.be_len, pk.txt_len, List.length_cons, List.length_nil]; omega) (fun _ _ _ => trivial) ?_; intro A_ c_) | refine wz ?_ | (refine wzb ?_; intro b_) | fail)
        exact ⟨⟨i + 1, A_, c_, hlt⟩, ⟨rfl, by dsimp only; rw [hnx]; rfl, rfl, slot_int (by dsimp only; omega), trivial⟩, by dsimp only; rw [hnx]; exact Gives.pick [1, 2] (by decide) rfl, by dsimp only; omega⟩
      · skip
        repeat (first | ((first | (apply lx_u; exact rfl) | (apply lx_g; exact rfl; exact rfl)); first | (apply isy_index; exact q_sat rfl rfl rfl (fun _ => ⟨Int.natCast_nonneg _, hgt⟩)) | fail) | refine wz ?_ | (refine wzb ?_; intro b_) | fail)
        refine cx_cond rfl (fun h => absurd h (by decide)) (fun _ => ?_)
        repeat (first | refine wz ?_ | (refine wzb ?_; intro b_) | fail)
        refine cx_cond rfl (fun h => absurd h (by decide)) (fun _ => ?_)
        repeat (first | refine wz ?_ | (refine wzb ?_; intro b_) | fail)
        refine cx_cond rfl (fun _ => ?_) (fun h => absurd h (by decide))
        repeat (first | (refine isx_blt ?_; refine lx_appB (E := EV) 1 u [r.pg] rfl rfl rfl rfl rfl rfl rfl rfl rfl rfl rfl rfl rfl (fun w hm => row_blk 0 rfl rfl hm) (by simp only [List.length_append, pk.be_len, pk.txt_len, List.length_cons, List.length_nil]; omega) (fun _ _ _ => trivial) ?_; intro A_ c_) | refine wz ?_ | (refine wzb ?_; intro b_) | fail)
        exact ⟨⟨i + 1, A_, c_, hlt⟩, ⟨rfl, by dsimp only; rw [hnx]; rfl, rfl, slot_int (by dsimp only; omega), trivial⟩, by dsimp only; rw [hnx]; exact Gives.pick [1, 2] (by decide) rfl, by dsimp only; omega⟩
      · skip
        repeat (first | ((first | (apply lx_u; exact rfl) | (apply lx_g; exact rfl; exact rfl)); first | (apply isy_index; exact q_sat rfl rfl rfl (fun _ => ⟨Int.natCast_nonneg _, hgt⟩)) | fail) | refine wz ?_ | (refine wzb ?_; intro b_) | fail)
        refine cx_cond rfl (fun h => absurd h (by decide)) (fun _ => ?_)
        repeat (first | refine wz ?_ | (refine wzb ?_; intro b_) | fail)
        refine cx_cond rfl (fun h => absurd h (by decide)) (fun _ => ?_)
        repeat (first | refine wz ?_ | (refine wzb ?_; intro b_) | fail)
        refine cx_cond rfl (fun h => absurd h (by decide)) (fun _ => ?_)
        repeat (first | refine wz ?_ | (refine wzb ?_; intro b_) | fail)
        refine cx_cond rfl (fun _ => ?_) (fun h => absurd h (by decide))
        by_cases h6 : r.k = 6#8
        · have g6 : (r.k == 6#8) = true := by rw [h6]; rfl
          have hpd : rpart r .d = [r.du.setWidth 8] := by unfold rpart; dsimp only; rw [if_pos h6]
          rw [hpd] at hnx
          repeat (first | ((first | (apply lx_gt; exact rfl; exact rfl; exact rfl) | (apply lx_u; exact rfl) | (apply lx_g; exact rfl; exact rfl)); first | (apply isy_bin_eql; exact yl_true (q_beq r.k 6#8 rfl rfl rfl rfl) (fun _ => g6)) | fail) | refine wzf ?_ | (refine wzb ?_; intro b_) | fail)
          refine cx_cond rfl (fun _ => ?_) (fun h => absurd h (by decide))
          repeat (first | ((first | (apply lx_u; exact rfl) | (apply lx_g; exact rfl; exact rfl)); first | (apply isy_convert; exact q_cv uk8 r.du rfl rfl rfl rfl) | fail) | (refine isx_blt ?_; refine lx_appB (E := EV) 1 u [r.du.setWidth 8] rfl rfl rfl rfl rfl rfl rfl rfl rfl rfl rfl rfl rfl (fun w hm => row_blk 0 rfl rfl hm) (by simp only [List.length_append, pk.be_len, pk.txt_len, List.length_cons, List.length_nil]; omega) (fun _ _ _ => trivial) ?_; intro A_ c_) | refine wz ?_ | (refine wzb ?_; intro b_) | fail)
          exact ⟨⟨i + 1, A_, c_, hlt⟩, ⟨rfl, by dsimp only; rw [hnx]; rfl, rfl, slot_int (by dsimp only; omega), trivial⟩, by dsimp only; rw [hnx]; exact Gives.pick [1, 2] (by decide) rfl, by dsimp only; omega⟩
        · have g6 : (r.k == 6#8) = false := by rw [beq_eq_false_iff_ne]; exact h6
          have hpd : rpart r .d = [(r.du - 1#16).setWidth 8] := by unfold rpart; dsimp only; rw [if_neg h6]
          rw [hpd] at hnx
          repeat (first | ((first | (apply lx_gt; exact rfl; exact rfl; exact rfl) | (apply lx_u; exact rfl) | (apply lx_g; exact rfl; exact rfl)); first | (apply isy_bin_eql; exact yl_false (q_beq r.k 6#8 rfl rfl rfl rfl) (fun _ => g6)) | fail) | refine wzf ?_ | (refine wzb ?_; intro b_) | fail)
          refine cx_cond rfl (fun h => absurd h (by decide)) (fun _ => ?_)
          repeat (first | ((first | (apply lx_u; exact rfl) | (apply lx_g; exact rfl; exact rfl)); first | (apply isy_bin_sub; exact q_bsub uk16 r.du 1#16 rfl rfl rfl rfl) | (apply isy_convert; exact q_cv uk8 (r.du - 1#16) rfl rfl rfl rfl) | fail) | (refine isx_blt ?_; refine lx_appB (E := EV) 1 u [(r.du - 1#16).setWidth 8] rfl rfl rfl rfl rfl rfl rfl rfl rfl rfl rfl rfl rfl (fun w hm => row_blk 0 rfl rfl hm) (by simp only [List.length_append, pk.be_len, pk.txt_len, List.length_cons, List.length_nil]; omega) (fun _ _ _ => trivial) ?_; intro A_ c_) | refine wz ?_ | (refine wzb ?_; intro b_) | fail)
          exact ⟨⟨i + 1, A_, c_, hlt⟩, ⟨rfl, by dsimp only; rw [hnx]; rfl, rfl, slot_int (by dsimp only; omega), trivial⟩, by dsimp only; rw [hnx]; exact Gives.pick [1, 2] (by decide) rfl, by dsimp only; omega⟩
      · skip
        repeat (first | ((first | (apply lx_u; exact rfl) | (apply lx_g; exact rfl; exact rfl)); first | (apply isy_index; exact q_sat rfl rfl rfl (fun _ => ⟨Int.natCast_nonneg _, hgt⟩)) | fail) | refine wz ?_ | (refine wzb ?_; intro b_) | fail)
        refine cx_cond rfl (fun h => absurd h (by decide)) (fun _ => ?_)
        repeat (first | refine wz ?_ | (refine wzb ?_; intro b_) | fail)
        refine cx_cond rfl (fun h => absurd h (by decide)) (fun _ => ?_)
        repeat (first | refine wz ?_ | (refine wzb ?_; intro b_) | fail)
        refine cx_cond rfl (fun h => absurd h (by decide)) (fun _ => ?_)
        repeat (first | refine wz ?_ | (refine wzb ?_; intro b_) | fail)
        refine cx_cond rfl (fun h => absurd h (by decide)) (fun _ => ?_)
        have n1 := rname_fn r.ky
        have n2 := rname_fn r.to_
        by_cases e1 : r.so = 1#8
        · have g1 : (r.so == 1#8) = true := by rw [e1]; rfl
          have hpd : rpart r .w = [r.so - 1#8] ++ [nameQ r.ky, BitVec.ofInt 8 r.ls] := by unfold rpart; dsimp only; rw [if_pos e1]
          rw [hpd, ← List.append_assoc] at hnx
          repeat (first | ((first | (apply lx_gt; exact rfl; exact rfl; exact rfl) | (apply lx_u; exact rfl) | (apply lx_g; exact rfl; exact rfl)); first | (apply isy_bin_sub; exact q_bsub uk8 r.so 1#8 rfl rfl rfl rfl) | (apply isy_bin_eql; exact yl_true (q_beq r.so 1#8 rfl rfl rfl rfl) (fun _ => g1)) | fail) | (refine isx_blt ?_; refine lx_appB (E := EV) 1 u [r.so - 1#8] rfl rfl rfl rfl rfl rfl rfl rfl rfl rfl rfl rfl rfl (fun w hm => row_blk 0 rfl rfl hm) (by simp only [List.length_append, pk.be_len, pk.txt_len, List.length_cons, List.length_nil]; omega) (fun _ _ _ => trivial) ?_; intro A_ c_) | refine wzf ?_ | (refine wzb ?_; intro b_) | fail)
          refine cx_cond rfl (fun _ => ?_) (fun h => absurd h (by decide))
          repeat (first | refine wz ?_ | (refine wzb ?_; intro b_) | fail)
          refine cx_draw [3, 7, 8] [.blk b1 r.cells 53] rfl (by kernel_rfl) (Gives.pick [2] (by decide) rfl) ?_
          repeat (first | ((first | (apply lx_u; exact rfl) | (apply lx_g; exact rfl; exact rfl)); first | (apply isy_convert; exact q_ci uk8 rfl rfl rfl) | fail) | (refine isx_call ?_; refine k_gcall (n1) (fun _ hm => in_nil hm) rfl rfl rfl rfl rfl rfl ?_) | (refine isx_blt ?_; refine lx_appB (E := EV) 2 (u ++ [r.so - 1#8]) [nameQ r.ky, BitVec.ofInt 8 r.ls] rfl rfl rfl rfl rfl rfl rfl rfl rfl rfl rfl rfl rfl (fun w hm => row_blk 0 rfl rfl hm) (by simp only [List.length_append, pk.be_len, pk.txt_len, List.length_cons, List.length_nil]; omega) (fun _ _ _ => Gives.pick [3] (by decide) rfl) ?_; intro A_ c_) | refine wz ?_ | (refine wzb ?_; intro b_) | fail)
          exact ⟨⟨i + 1, A_, c_, hlt⟩, ⟨rfl, by dsimp only; rw [hnx]; rfl, rfl, slot_int (by dsimp only; omega), trivial⟩, by dsimp only; rw [hnx]; exact Gives.pick [2, 3] (by decide) rfl, by dsimp only; omega⟩
        have g1 : (r.so == 1#8) = false := by rw [beq_eq_false_iff_ne]; exact e1
        by_cases e2 : r.so = 2#8
        · have g2 : (r.so == 2#8) = true := by rw [e2]; rfl
          have hpd : rpart r .w = [r.so - 1#8] ++ [nameQ r.ky, nameQ r.to_] := by unfold rpart; dsimp only; rw [if_neg e1, if_pos e2]
          rw [hpd, ← List.append_assoc] at hnx
          repeat (first | ((first | (apply lx_gt; exact rfl; exact rfl; exact rfl) | (apply lx_u; exact rfl) | (apply lx_g; exact rfl; exact rfl)); first | (apply isy_bin_sub; exact q_bsub uk8 r.so 1#8 rfl rfl rfl rfl) | (apply isy_bin_eql; exact yl_false (q_beq r.so 1#8 rfl rfl rfl rfl) (fun _ => g1)) | fail) | (refine isx_blt ?_; refine lx_appB (E := EV) 1 u [r.so - 1#8] rfl rfl rfl rfl rfl rfl rfl rfl rfl rfl rfl rfl rfl (fun w hm => row_blk 0 rfl rfl hm) (by simp only [List.length_append, pk.be_len, pk.txt_len, List.length_cons, List.length_nil]; omega) (fun _ _ _ => trivial) ?_; intro A_ c_) | refine wzf ?_ | (refine wzb ?_; intro b_) | fail)
          refine cx_cond rfl (fun h => absurd h (by decide)) (fun _ => ?_)
          repeat (first | ((first | (apply lx_gt; exact rfl; exact rfl; exact rfl) | (apply lx_u; exact rfl) | (apply lx_g; exact rfl; exact rfl)); first | (apply isy_bin_eql; exact yl_true (q_beq r.so 2#8 rfl rfl rfl rfl) (fun _ => g2)) | fail) | refine wzf ?_ | (refine wzb ?_; intro b_) | fail)
          refine cx_cond rfl (fun _ => ?_) (fun h => absurd h (by decide))
          repeat (first | refine wz ?_ | (refine wzb ?_; intro b_) | fail)
          refine cx_draw [3, 6, 7, 8] [.blk b1 r.cells 53] rfl (by kernel_rfl) (Gives.pick [2] (by decide) rfl) ?_
          repeat (first | (refine isx_call ?_; refine k_gcall (n1) (fun _ hm => in_nil hm) rfl rfl rfl rfl rfl rfl ?_) | (refine isx_call ?_; refine k_gcall (n2) (fun _ hm => in_nil hm) rfl rfl rfl rfl rfl rfl ?_) | (refine isx_blt ?_; refine lx_appB (E := EV) 2 (u ++ [r.so - 1#8]) [nameQ r.ky, nameQ r.to_] rfl rfl rfl rfl rfl rfl rfl rfl rfl rfl rfl rfl rfl (fun w hm => row_blk 0 rfl rfl hm) (by simp only [List.length_append, pk.be_len, pk.txt_len, List.length_cons, List.length_nil]; omega) (fun _ _ _ => Gives.pick [3] (by decide) rfl) ?_; intro A_ c_) | refine wz ?_ | (refine wzb ?_; intro b_) | fail)
          exact ⟨⟨i + 1, A_, c_, hlt⟩, ⟨rfl, by dsimp only; rw [hnx]; rfl, rfl, slot_int (by dsimp only; omega), trivial⟩, by dsimp only; rw [hnx]; exact Gives.pick [2, 3] (by decide) rfl, by dsimp only; omega⟩
        · have g2 : (r.so == 2#8) = false := by rw [beq_eq_false_iff_ne]; exact e2
          have hpd : rpart r .w = [r.so - 1#8] ++ [BitVec.ofInt 8 r.ls, BitVec.ofInt 8 r.ms] := by unfold rpart; dsimp only; rw [if_neg e1, if_neg e2]
          rw [hpd, ← List.append_assoc] at hnx
          repeat (first | ((first | (apply lx_gt; exact rfl; exact rfl; exact rfl) | (apply lx_u; exact rfl) | (apply lx_g; exact rfl; exact rfl)); first | (apply isy_bin_sub; exact q_bsub uk8 r.so 1#8 rfl rfl rfl rfl) | (apply isy_bin_eql; exact yl_false (q_beq r.so 1#8 rfl rfl rfl rfl) (fun _ => g1)) | fail) | (refine isx_blt ?_; refine lx_appB (E := EV) 1 u [r.so - 1#8] rfl rfl rfl rfl rfl rfl rfl rfl rfl rfl rfl rfl rfl (fun w hm => row_blk 0 rfl rfl hm) (by simp only [List.length_append, pk.be_len, pk.txt_len, List.length_cons, List.length_nil]; omega) (fun _ _ _ => trivial) ?_; intro A_ c_) | refine wzf ?_ | (refine wzb ?_; intro b_) | fail)
          refine cx_cond rfl (fun h => absurd h (by decide)) (fun _ => ?_)
          repeat (first | ((first | (apply lx_gt; exact rfl; exact rfl; exact rfl) | (apply lx_u; exact rfl) | (apply lx_g; exact rfl; exact rfl)); first | (apply isy_bin_eql; exact yl_false (q_beq r.so 2#8 rfl rfl rfl rfl) (fun _ => g2)) | fail) | refine wzf ?_ | (refine wzb ?_; intro b_) | fail)
          refine cx_cond rfl (fun h => absurd h (by decide)) (fun _ => ?_)
          repeat (first | ((first | (apply lx_u; exact rfl) | (apply lx_g; exact rfl; exact rfl)); first | (apply isy_convert; exact q_ci uk8 rfl rfl rfl) | fail) | (refine isx_blt ?_; refine lx_appB (E := EV) 2 (u ++ [r.so - 1#8]) [BitVec.ofInt 8 r.ls, BitVec.ofInt 8 r.ms] rfl rfl rfl rfl rfl rfl rfl rfl rfl rfl rfl rfl rfl (fun w hm => row_blk 0 rfl rfl hm) (by simp only [List.length_append, pk.be_len, pk.txt_len, List.length_cons, List.length_nil]; omega) (fun _ _ _ => trivial) ?_; intro A_ c_) | refine wz ?_ | (refine wzb ?_; intro b_) | fail)
          exact ⟨⟨i + 1, A_, c_, hlt⟩, ⟨rfl, by dsimp only; rw [hnx]; rfl, rfl, slot_int (by dsimp only; omega), trivial⟩, by dsimp only; rw [hnx]; exact Gives.pick [2, 3] (by decide) rfl, by dsimp only; omega⟩
    · obtain rfl : i = (pts r.k).length := by omega
      refine cx_cond rfl (fun h => absurd h (by simp; omega)) (fun _ => ?_)
      rw [List.take_length] at hu
      rw [hu]
      repeat (first | refine wz ?_ | (refine wzb ?_; intro b_) | fail)
      exact bq_ret (ret_tmp rfl rfl) [_] (Gives.pick [0] (by decide) rfl) rfl ⟨A', c', rfl, rfl⟩
end Go.Proofs.YtmochicneilhhaaGreat.sc
