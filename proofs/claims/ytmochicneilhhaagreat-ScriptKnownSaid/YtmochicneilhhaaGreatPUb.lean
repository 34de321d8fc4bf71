/- scripts: the reference's guesses at a step. -/
import Derived.Test.YtmochicneilhhaaGreatPGo
import Derived.Test.YtmochicneilhhaaGreatPSh
import Derived.Test.YtmochicneilhhaaGreatPUa
namespace Go.Proofs.YtmochicneilhhaaGreat.sc
open Go.RowKit Go.Proofs.YtmochicneilhhaaGreat.kit Go.Proofs.YtmochicneilhhaaGreat.pk Go.Proofs.YtmochicneilhhaaGreat.rq Go.Proofs.YtmochicneilhhaaGreat.ev Go.Proofs.YtmochicneilhhaaGreat.win
abbrev rbody (r : Rw) : Ck := .own r.A r.n r.c 5 1 (bvs r.l)
def rbods (rs : List Rw) : List Ck := rs.reverse.map rbody
theorem rbods_push (rs : List Rw) (r : Rw) : rbods (rs ++ [r]) = rbody r :: rbods rs := by simp [rbods]
theorem rbods_mut (rs : List Rw) : (rbods rs).all Ck.mut_ = true := by
  rw [List.all_eq_true]
  intro c hc
  obtain ⟨x, _, rfl⟩ := List.mem_map.1 hc
  rfl
theorem rbods_mem {rs : List Rw} {r : Rw} (h : r ∈ rs) : rbody r ∈ rbods rs := List.mem_map.2 ⟨r, List.mem_reverse.2 h, rfl⟩
theorem rbody_row {M : Me} {L : List Ck} {w : World} {r : Rw} (hc : rbody r ∈ L) (hm : Mem M L w) : Row w w.heap.size 1 r.A r.n (bvs r.l) := by
  obtain ⟨k, hk⟩ := List.getElem?_of_mem hc
  exact row_own k hk hm
theorem rwv_push (rs : List Rw) (r : Rw) : rwv (rs ++ [r]) = rwv rs ++ [.slice r.A r.n r.c] := by simp [rwv, Rw.val]
def RFit (rs : List Rw) : Prop := ∀ r ∈ rs, r.l.length = r.n ∧ r.n ≤ 1100000
def GuessP (x : MS) (v : Value) (Lo : List Ck) : Prop := ∃ A c rs, v = .slice A (List.length rs) c ∧ rs.map Rw.l = guessesQ x.sp ∧ RFit rs ∧ rs.length ≤ 2 ∧ Lo = .own A rs.length c 22 1 (rwv rs) :: rbods rs
structure FeedSt (x : SP) where
  rs : List Rw
  A : Option Addr
  c : Nat
  hr : rs.map Rw.l ++ [rawG x] = feedG x
  fit : RFit rs
  few : rs.length ≤ 1
theorem asksQ_le (r : RQ) : (asksQ r).length ≤ 100 := by
  unfold asksQ
  split
  · have := rparts_len r (pts r.k)
    have := pts_len r.k
    rw [List.length_append]
    show 2 + _ ≤ 100
    omega
  · exact Nat.zero_le _
theorem asksQ_pos {r : RQ} (h : r.right = true) : 0 < (asksQ r).length := by
  unfold asksQ
  rw [if_pos h, List.length_append]
  show 0 < 2 + _
  omega
attribute [local irreducible] LX CX Yl Gives RetIs Fn
attribute [local irreducible] be de fr.frm fr.takeF
set_option maxRecDepth 100000 in
set_option maxHeartbeats 16000000 in
theorem rguesses_fn (x : MS) (hx : x.r.l.length = x.r.n) (hc : x.r.n ≤ x.r.c ∧ x.r.c ≤ 9223372036854775807) (hn : x.r.n ≤ 1000000) : Fn Tryz.prog 95 [x.val] [.ro x.r.A x.r.n 1 (bvs x.r.l)] [] (GuessP x) := by
  have ek : x.sp.k = x.k := rfl
  have eo : x.sp.op = x.op := rfl
  have ecl : x.sp.cl = x.cl := rfl
  have eb : x.sp.by_ = x.by_ := rfl
  have ebs : x.sp.bs = x.r.l := rfl
  unfold GuessP guessesQ
  rw [ek, eo, ecl, eb]
  by_cases e1 : x.k = 1#8
  · rw [if_pos e1]
    have g1 : (x.k == 1#8) = true := by rw [e1]; rfl
    have ht := fr.rtake_fn x.r.A x.r.n x.r.c x.r.l 0 hx hc hn (by decide)
    have hle := fr.takeF_le (l := x.r.l) (at' := 0)
    unfold fr.TakeP at ht
    have ha : askedQ x.sp.bs = if ((fr.takeF x.r.l 0).2.2 == 0 && (parseQ (fr.takeF x.r.l 0).1).2 == 0 && (fr.takeF x.r.l 0).2.1 == (x.r.n : Nat)) = true then some (parseQ (fr.takeF x.r.l 0).1).1 else none := by
      unfold askedQ
      rw [ebs, hx]
      by_cases h1 : (fr.takeF x.r.l 0).2.2 = 0 <;> by_cases h2 : (parseQ (fr.takeF x.r.l 0).1).2 = 0 <;> by_cases h3 : (fr.takeF x.r.l 0).2.1 = (x.r.n : Nat) <;> simp [h1, h2, h3]
    generalize fr.takeF x.r.l 0 = T at *
    obtain ⟨bd, nx, e⟩ := T
    dsimp only at ht hle ha
    have hpc := fun (A2 : Option Addr) (c2 : Nat) (h : bd.length ≤ c2 ∧ c2 ≤ 9223372036854775807) => rparse_fn A2 bd.length c2 bd rfl (by omega) h
    generalize parseQ bd = p at *
    obtain ⟨q, f⟩ := p
    dsimp only at hpc ha
    refine fn_enter Tryz.func95 rfl rfl (by kernel_rfl) rfl ?_; intro w0
    repeat (first | ((first | (apply lx_gt; exact rfl; exact rfl; exact rfl) | (apply lx_u; exact rfl) | (apply lx_g; exact rfl; exact rfl)); first | (apply isy_bin_eql; exact yl_true (q_beq x.k 1#8 rfl rfl rfl rfl) (fun _ => g1)) | fail) | refine wzf ?_ | (refine wzb ?_; intro b_) | fail)
    refine cx_cond rfl (fun _ => ?_) (fun h => absurd h (by decide))
    repeat (first | refine wzo ?_ | (refine wzb ?_; intro b_) | fail)
    generalize b_ = b1
    repeat (first | (refine isx_call ?_; (refine isx_call ?_; refine lx_call0 (ht) ((fun w hm => in_ro (row_ro 1 rfl hm) (in_nil hm) rfl)) rfl rfl rfl rfl rfl rfl rfl rfl ?_; rintro v_ Lo_ ⟨A2, c2, rfl, rfl⟩)) | refine wz ?_ | (refine wzb ?_; intro b_) | fail)
    refine lx_fact (fun w hm => own_cap 0 hm rfl) fun hco => ?_
    have hp := hpc A2 c2 hco
    repeat (first | (refine isx_call ?_; refine k_gcall (hp) ((fun w hm => own_ro 0 hm rfl)) rfl rfl rfl rfl rfl rfl ?_) | refine wz ?_ | (refine wzb ?_; intro b_) | fail)
    generalize b_ = b7
    refine cx_to (α := FeedSt x.sp) (fun s => [(1, none, .pointer (some ⟨b1, 0, none⟩)), (3, none, .slice s.A s.rs.length s.c)]) (fun s => [.own s.A s.rs.length s.c 22 1 (rwv s.rs), .blk b1 x.cells 68, .ro x.r.A x.r.n 1 (bvs x.r.l)] ++ rbods s.rs) ?_ ?_
    · refine cx_cond rfl (fun h => ?_) (fun h => ?_)
      · rw [if_pos h] at ha
        have hqr := asked_right ha
        have hql := asksQ_le q
        have hqp := asksQ_pos hqr
        have hfg : feedG x.sp = [[5#8, BitVec.ofInt 8 x.cl] ++ asksQ q, rawG x.sp] := by unfold feedG; rw [ha]; rfl
        have hq := rasks_fn q
        generalize asksQ q = a at *
        refine cx_tree [4, 6, 7, 8, 9] [0, 1, 2, 3, 5] (.alt 4 [] (.alt 6 [] (.alt 7 [] (.alt 8 [] (.alt 9 [10] .fin .none) .none) .none) .none) (.alt 6 [] (.alt 4 [] (.alt 7 [] (.alt 8 [] (.alt 9 [10] .fin .none) .none) .none) .none) .none)) [.blk b7 q.cells 53, .blk b1 x.cells 68] rfl (by kernel_rfl) (by kernel_rfl) (by kernel_rfl) (by kernel_rfl) (Gives.pick [0, 2] (by decide) rfl) ?_
        repeat (first | ((first | (apply lx_u; exact rfl) | (apply lx_g; exact rfl; exact rfl)); first | (apply isy_convert; exact q_ci uk8 rfl rfl rfl) | fail) | refine wzo ?_ | (refine wzb ?_; intro b_) | fail)
        refine ⟨Gives.pick [0, 2] (by decide) rfl, ?_, ?_, trivial⟩
        · repeat (first | refine wzo ?_ | (refine wzb ?_; intro b_) | fail)
          refine ⟨Gives.pick [1, 3] (by decide) rfl, ?_, trivial⟩
          generalize b_ = b5
          repeat (first | (refine isx_call ?_; (refine isx_call ?_; refine lx_call0 (hq) (fun _ hm => in_nil hm) rfl rfl rfl rfl rfl rfl rfl rfl ?_; rintro v_ Lo_ ⟨A3, c3, rfl, rfl⟩)) | refine wzo ?_ | (refine wzb ?_; intro b_) | fail)
          refine ⟨Gives.pick [2, 4] (by decide) rfl, ?_, trivial⟩
          refine lx_appendR (E := EV) rfl rfl rfl rfl rfl rfl rfl rfl rfl rfl rfl rfl (xs := bvs [5#8, BitVec.ofInt 8 x.cl]) (news := bvs a) (fun w hm => row_blk 1 rfl rfl hm) (fun w hm => row_own 0 rfl hm) bvs_one (by unfold maxLen; omega) (by show (2 + _) * 1 ≤ _; omega) (fun h0 => absurd h0 (by omega)) (fun _ A5 c5 => ?_)
          rw [← bvs_append]
          repeat (first | refine wzo ?_ | (refine wzb ?_; intro b_) | fail)
          refine ⟨Gives.pick [3, 5] (by decide) rfl, ?_, trivial⟩
          repeat (first | refine wzo ?_ | (refine wzb ?_; intro b_) | fail)
          refine ⟨Gives.pick [4, 6] (by decide) rfl, ?_, trivial⟩
          refine lx_appendR (E := EV) rfl rfl rfl rfl rfl rfl rfl rfl rfl rfl rfl rfl (xs := []) (news := [.slice A5 (2 + a.length) c5]) (fun w hm => Row.nil) (fun w hm => row_blk 0 rfl rfl hm) (fun u hu => by obtain rfl := List.mem_singleton.1 hu; rfl) (by unfold maxLen; omega) (by decide) (fun h0 => absurd h0 (by decide)) (fun _ A0 c0 => ?_)
          repeat (first | refine wzo ?_ | (refine wzb ?_; intro b_) | fail)
          exact ⟨Gives.pick [5, 7] (by decide) rfl, ⟨[⟨A5, 2 + a.length, c5, [5#8, BitVec.ofInt 8 x.cl] ++ a⟩], A0, c0, by rw [hfg]; rfl, fun r hr => by obtain rfl := List.mem_singleton.1 hr; exact ⟨by dsimp only; rw [List.length_append]; rfl, by dsimp only; omega⟩, Nat.le_refl _⟩, ⟨rfl, rfl, trivial⟩, Gives.pick [0, 7, 8, 2] (by decide) rfl⟩
        · repeat (first | (refine isx_call ?_; (refine isx_call ?_; refine lx_call0 (hq) (fun _ hm => in_nil hm) rfl rfl rfl rfl rfl rfl rfl rfl ?_; rintro v_ Lo_ ⟨A3, c3, rfl, rfl⟩)) | refine wzo ?_ | (refine wzb ?_; intro b_) | fail)
          refine ⟨Gives.pick [1, 3] (by decide) rfl, ?_, trivial⟩
          repeat (first | refine wzo ?_ | (refine wzb ?_; intro b_) | fail)
          refine ⟨Gives.pick [2, 4] (by decide) rfl, ?_, trivial⟩
          refine lx_appendR (E := EV) rfl rfl rfl rfl rfl rfl rfl rfl rfl rfl rfl rfl (xs := bvs [5#8, BitVec.ofInt 8 x.cl]) (news := bvs a) (fun w hm => row_blk 0 rfl rfl hm) (fun w hm => row_own 1 rfl hm) bvs_one (by unfold maxLen; omega) (by show (2 + _) * 1 ≤ _; omega) (fun h0 => absurd h0 (by omega)) (fun _ A5 c5 => ?_)
          rw [← bvs_append]
          repeat (first | refine wzo ?_ | (refine wzb ?_; intro b_) | fail)
          refine ⟨Gives.pick [3, 5] (by decide) rfl, ?_, trivial⟩
          repeat (first | refine wzo ?_ | (refine wzb ?_; intro b_) | fail)
          refine ⟨Gives.pick [4, 6] (by decide) rfl, ?_, trivial⟩
          refine lx_appendR (E := EV) rfl rfl rfl rfl rfl rfl rfl rfl rfl rfl rfl rfl (xs := []) (news := [.slice A5 (2 + a.length) c5]) (fun w hm => Row.nil) (fun w hm => row_blk 0 rfl rfl hm) (fun u hu => by obtain rfl := List.mem_singleton.1 hu; rfl) (by unfold maxLen; omega) (by decide) (fun h0 => absurd h0 (by decide)) (fun _ A0 c0 => ?_)
          repeat (first | refine wzo ?_ | (refine wzb ?_; intro b_) | fail)
          exact ⟨Gives.pick [5, 7] (by decide) rfl, ⟨[⟨A5, 2 + a.length, c5, [5#8, BitVec.ofInt 8 x.cl] ++ a⟩], A0, c0, by rw [hfg]; rfl, fun r hr => by obtain rfl := List.mem_singleton.1 hr; exact ⟨by dsimp only; rw [List.length_append]; rfl, by dsimp only; omega⟩, Nat.le_refl _⟩, ⟨rfl, rfl, trivial⟩, Gives.pick [0, 7, 8, 2] (by decide) rfl⟩
      · rw [if_neg (by rw [h]; decide)] at ha
        have hfg : feedG x.sp = [rawG x.sp] := by unfold feedG; rw [ha]
        repeat (first | refine wz ?_ | (refine wzb ?_; intro b_) | fail)
        exact ⟨⟨[], none, 0, by rw [hfg]; rfl, fun r hr => (by cases hr), Nat.zero_le _⟩, ⟨rfl, rfl, trivial⟩, (Gives.nilown _ _ _).trans (Gives.pick [0, 3, 4] (by decide) rfl)⟩
    · rintro ⟨rs, A0, c0, hr, fit, few⟩
      dsimp only
      have hraw : rawG x.sp = [4#8, BitVec.ofInt 8 x.cl, BitVec.ofInt 8 ((x.r.n : Nat) : Int)] ++ x.r.l := by unfold rawG; rw [ebs, hx, ecl]
      rw [hraw] at hr
      repeat (first | ((first | (apply lx_u; exact rfl) | (apply lx_g; exact rfl; exact rfl)); first | (apply isy_convert; exact q_ci uk8 rfl rfl rfl) | fail) | refine wz ?_ | (refine wzb ?_; intro b_) | fail)
      refine lx_weak (Gives.blkown (m := 3) (sz := 1) 0 rfl rfl (by decide)) ?_
      repeat (first | (refine isx_blt ?_; refine lx_appB (E := EV) 0 [4#8, BitVec.ofInt 8 x.cl, BitVec.ofInt 8 ((x.r.n : Nat) : Int)] x.r.l rfl hx.symm rfl rfl rfl rfl rfl rfl rfl rfl rfl rfl rfl (fun w hm => row_ro 3 rfl hm) (by simp only [List.length_append, pk.be_len, pk.txt_len, List.length_cons, List.length_nil]; omega) (fun _ _ _ => trivial) ?_; intro A_ c_) | refine wz ?_ | (refine wzb ?_; intro b_) | fail)
      refine lx_append (E := EV) 2 rfl rfl rfl rfl rfl rfl rfl rfl rfl rfl rfl rfl rfl (news := [.slice A_ ([4#8, BitVec.ofInt 8 x.cl, BitVec.ofInt 8 ((x.r.n : Nat) : Int)] ++ x.r.l).length c_]) (fun w hm => row_blk 0 rfl rfl hm) (fun u hu => by obtain rfl := List.mem_singleton.1 hu; rfl) (by unfold maxLen; omega) (by show (_ + _) * 24 ≤ _; omega) (fun _ _ _ => trivial) ?_
      intro A9 c9
      have hlen : (rs ++ [(⟨A_, ([4#8, BitVec.ofInt 8 x.cl, BitVec.ofInt 8 ((x.r.n : Nat) : Int)] ++ x.r.l).length, c_, [4#8, BitVec.ofInt 8 x.cl, BitVec.ofInt 8 ((x.r.n : Nat) : Int)] ++ x.r.l⟩ : Rw)]).length = rs.length + 1 := by simp
      have hpush := rwv_push rs ⟨A_, ([4#8, BitVec.ofInt 8 x.cl, BitVec.ofInt 8 ((x.r.n : Nat) : Int)] ++ x.r.l).length, c_, [4#8, BitVec.ofInt 8 x.cl, BitVec.ofInt 8 ((x.r.n : Nat) : Int)] ++ x.r.l⟩
      dsimp only at hpush
      rw [← hpush, ← hlen]
      repeat (first | refine wz ?_ | (refine wzb ?_; intro b_) | fail)
      refine bq_ret (ret_tmp rfl rfl) (.own A9 (rs ++ [(⟨A_, ([4#8, BitVec.ofInt 8 x.cl, BitVec.ofInt 8 ((x.r.n : Nat) : Int)] ++ x.r.l).length, c_, [4#8, BitVec.ofInt 8 x.cl, BitVec.ofInt 8 ((x.r.n : Nat) : Int)] ++ x.r.l⟩ : Rw)]).length c9 22 1 (rwv (rs ++ [⟨A_, ([4#8, BitVec.ofInt 8 x.cl, BitVec.ofInt 8 ((x.r.n : Nat) : Int)] ++ x.r.l).length, c_, [4#8, BitVec.ofInt 8 x.cl, BitVec.ofInt 8 ((x.r.n : Nat) : Int)] ++ x.r.l⟩])) :: rbods (rs ++ [⟨A_, ([4#8, BitVec.ofInt 8 x.cl, BitVec.ofInt 8 ((x.r.n : Nat) : Int)] ++ x.r.l).length, c_, [4#8, BitVec.ofInt 8 x.cl, BitVec.ofInt 8 ((x.r.n : Nat) : Int)] ++ x.r.l⟩])) ?_ (by rw [List.all_cons, rbods_mut]; rfl) ⟨A9, c9, _, rfl, by rw [List.map_append]; exact hr, fun r hr' => ?_, by rw [hlen]; omega, rfl⟩
      · rw [rbods_push]
        exact Gives.pre [_, _, _, _, _] [2, 1] (by decide) rfl rfl
      · rcases List.mem_append.1 hr' with h | h
        · exact fit r h
        · obtain rfl := List.mem_singleton.1 h
          exact ⟨rfl, by dsimp only; rw [List.length_append, hx]; show 3 + x.r.n ≤ _; omega⟩
  rw [if_neg e1]
  have g1 : (x.k == 1#8) = false := by rw [beq_eq_false_iff_ne]; exact e1
  by_cases e2 : x.k = 2#8
  · rw [if_pos e2]
    have g2 : (x.k == 2#8) = true := by rw [e2]; rfl
    refine fn_enter Tryz.func95 rfl rfl (by kernel_rfl) rfl ?_; intro w0
    repeat (first | ((first | (apply lx_gt; exact rfl; exact rfl; exact rfl) | (apply lx_u; exact rfl) | (apply lx_g; exact rfl; exact rfl)); first | (apply isy_bin_eql; exact yl_false (q_beq x.k 1#8 rfl rfl rfl rfl) (fun _ => g1)) | fail) | refine wzf ?_ | (refine wzb ?_; intro b_) | fail)
    refine cx_cond rfl (fun h => absurd h (by decide)) (fun _ => ?_)
    repeat (first | ((first | (apply lx_gt; exact rfl; exact rfl; exact rfl) | (apply lx_u; exact rfl) | (apply lx_g; exact rfl; exact rfl)); first | (apply isy_bin_eql; exact yl_true (q_beq x.k 2#8 rfl rfl rfl rfl) (fun _ => g2)) | fail) | refine wzf ?_ | (refine wzb ?_; intro b_) | fail)
    refine cx_cond rfl (fun _ => ?_) (fun h => absurd h (by decide))
    repeat (first | ((first | (apply lx_u; exact rfl) | (apply lx_g; exact rfl; exact rfl)); first | (apply isy_convert; exact q_ci uk8 rfl rfl rfl) | fail) | refine wz ?_ | (refine wzb ?_; intro b_) | fail)
    exact bq_ret (ret_tmp rfl rfl) [_, _] ((Gives.blkown (m := 1) (sz := 1) 0 rfl rfl (by decide)).trans ((Gives.blkown (m := 2) (sz := 1) 1 rfl rfl (by decide)).trans (Gives.pick [0, 1] (by decide) rfl))) rfl ⟨_, 1, [⟨some ⟨_, 0, none⟩, 2, 2, [2#8, BitVec.ofInt 8 x.cl]⟩], rfl, rfl, fun r hr => by obtain rfl := List.mem_singleton.1 hr; exact ⟨rfl, Nat.le_of_ble_eq_true rfl⟩, Nat.le_of_ble_eq_true rfl, rfl⟩
  rw [if_neg e2]
  have g2 : (x.k == 2#8) = false := by rw [beq_eq_false_iff_ne]; exact e2
  by_cases e3 : x.k = 3#8
  · rw [if_pos e3]
    have g3 : (x.k == 3#8) = true := by rw [e3]; rfl
    refine fn_enter Tryz.func95 rfl rfl (by kernel_rfl) rfl ?_; intro w0
    repeat (first | ((first | (apply lx_gt; exact rfl; exact rfl; exact rfl) | (apply lx_u; exact rfl) | (apply lx_g; exact rfl; exact rfl)); first | (apply isy_bin_eql; exact yl_false (q_beq x.k 1#8 rfl rfl rfl rfl) (fun _ => g1)) | fail) | refine wzf ?_ | (refine wzb ?_; intro b_) | fail)
    refine cx_cond rfl (fun h => absurd h (by decide)) (fun _ => ?_)
    repeat (first | ((first | (apply lx_gt; exact rfl; exact rfl; exact rfl) | (apply lx_u; exact rfl) | (apply lx_g; exact rfl; exact rfl)); first | (apply isy_bin_eql; exact yl_false (q_beq x.k 2#8 rfl rfl rfl rfl) (fun _ => g2)) | fail) | refine wzf ?_ | (refine wzb ?_; intro b_) | fail)
    refine cx_cond rfl (fun h => absurd h (by decide)) (fun _ => ?_)
    repeat (first | ((first | (apply lx_gt; exact rfl; exact rfl; exact rfl) | (apply lx_u; exact rfl) | (apply lx_g; exact rfl; exact rfl)); first | (apply isy_bin_eql; exact yl_true (q_beq x.k 3#8 rfl rfl rfl rfl) (fun _ => g3)) | fail) | refine wzf ?_ | (refine wzb ?_; intro b_) | fail)
    refine cx_cond rfl (fun _ => ?_) (fun h => absurd h (by decide))
    repeat (first | ((first | (apply lx_u; exact rfl) | (apply lx_g; exact rfl; exact rfl)); first | (apply isy_convert; exact q_ci uk8 rfl rfl rfl) | fail) | refine wz ?_ | (refine wzb ?_; intro b_) | fail)
    exact bq_ret (ret_tmp rfl rfl) [_, _] ((Gives.blkown (m := 1) (sz := 1) 0 rfl rfl (by decide)).trans ((Gives.blkown (m := 2) (sz := 1) 1 rfl rfl (by decide)).trans (Gives.pick [0, 1] (by decide) rfl))) rfl ⟨_, 1, [⟨some ⟨_, 0, none⟩, 2, 2, [0#8, BitVec.ofInt 8 x.cl]⟩], rfl, rfl, fun r hr => by obtain rfl := List.mem_singleton.1 hr; exact ⟨rfl, Nat.le_of_ble_eq_true rfl⟩, Nat.le_of_ble_eq_true rfl, rfl⟩
  rw [if_neg e3]
  have g3 : (x.k == 3#8) = false := by rw [beq_eq_false_iff_ne]; exact e3
  by_cases e4 : x.k = 4#8
  · rw [if_pos e4]
    have g4 : (x.k == 4#8) = true := by rw [e4]; rfl
    have hnm := rname_fn x.op.key
    by_cases eo2 : x.op.k = 2#8
    · rw [if_pos eo2]
      have go2 : (x.op.k == 2#8) = true := by rw [eo2]; rfl
      refine fn_enter Tryz.func95 rfl rfl (by kernel_rfl) rfl ?_; intro w0
      repeat (first | ((first | (apply lx_gt; exact rfl; exact rfl; exact rfl) | (apply lx_u; exact rfl) | (apply lx_g; exact rfl; exact rfl)); first | (apply isy_bin_eql; exact yl_false (q_beq x.k 1#8 rfl rfl rfl rfl) (fun _ => g1)) | fail) | refine wzf ?_ | (refine wzb ?_; intro b_) | fail)
      refine cx_cond rfl (fun h => absurd h (by decide)) (fun _ => ?_)
      repeat (first | ((first | (apply lx_gt; exact rfl; exact rfl; exact rfl) | (apply lx_u; exact rfl) | (apply lx_g; exact rfl; exact rfl)); first | (apply isy_bin_eql; exact yl_false (q_beq x.k 2#8 rfl rfl rfl rfl) (fun _ => g2)) | fail) | refine wzf ?_ | (refine wzb ?_; intro b_) | fail)
      refine cx_cond rfl (fun h => absurd h (by decide)) (fun _ => ?_)
      repeat (first | ((first | (apply lx_gt; exact rfl; exact rfl; exact rfl) | (apply lx_u; exact rfl) | (apply lx_g; exact rfl; exact rfl)); first | (apply isy_bin_eql; exact yl_false (q_beq x.k 3#8 rfl rfl rfl rfl) (fun _ => g3)) | fail) | refine wzf ?_ | (refine wzb ?_; intro b_) | fail)
      refine cx_cond rfl (fun h => absurd h (by decide)) (fun _ => ?_)
      repeat (first | ((first | (apply lx_gt; exact rfl; exact rfl; exact rfl) | (apply lx_u; exact rfl) | (apply lx_g; exact rfl; exact rfl)); first | (apply isy_bin_eql; exact yl_true (q_beq x.k 4#8 rfl rfl rfl rfl) (fun _ => g4)) | fail) | refine wzf ?_ | (refine wzb ?_; intro b_) | fail)
      refine cx_cond rfl (fun _ => ?_) (fun h => absurd h (by decide))
      repeat (first | ((first | (apply lx_gt; exact rfl; exact rfl; exact rfl) | (apply lx_u; exact rfl) | (apply lx_g; exact rfl; exact rfl)); first | (apply isy_bin_eql; exact yl_true (q_beq x.op.k 2#8 rfl rfl rfl rfl) (fun _ => go2)) | fail) | refine wzf ?_ | (refine wzb ?_; intro b_) | fail)
      refine cx_cond rfl (fun _ => ?_) (fun h => absurd h (by decide))
      repeat (first | ((first | (apply lx_u; exact rfl) | (apply lx_g; exact rfl; exact rfl)); first | (apply isy_convert; exact q_ci uk8 rfl rfl rfl) | fail) | refine wz ?_ | (refine wzb ?_; intro b_) | fail)
      exact bq_ret (ret_tmp rfl rfl) [_, _] ((Gives.blkown (m := 1) (sz := 1) 0 rfl rfl (by decide)).trans ((Gives.blkown (m := 2) (sz := 1) 1 rfl rfl (by decide)).trans (Gives.pick [0, 1] (by decide) rfl))) rfl ⟨_, 1, [⟨some ⟨_, 0, none⟩, 2, 2, [12#8, BitVec.ofInt 8 x.op.t]⟩], rfl, rfl, fun r hr => by obtain rfl := List.mem_singleton.1 hr; exact ⟨rfl, Nat.le_of_ble_eq_true rfl⟩, Nat.le_of_ble_eq_true rfl, rfl⟩
    · rw [if_neg eo2]
      have go2 : (x.op.k == 2#8) = false := by rw [beq_eq_false_iff_ne]; exact eo2
      unfold vbyte
      by_cases v1 : x.op.v = 9223372036854775807
      · rw [if_pos v1]
        have gv1 : (x.op.v == 9223372036854775807) = true := by rw [v1]; rfl
        have gv2 : (x.op.v == -9223372036854775808) = false := by rw [v1]; rfl
        refine fn_enter Tryz.func95 rfl rfl (by kernel_rfl) rfl ?_; intro w0
        repeat (first | ((first | (apply lx_gt; exact rfl; exact rfl; exact rfl) | (apply lx_u; exact rfl) | (apply lx_g; exact rfl; exact rfl)); first | (apply isy_bin_eql; exact yl_false (q_beq x.k 1#8 rfl rfl rfl rfl) (fun _ => g1)) | fail) | refine wzf ?_ | (refine wzb ?_; intro b_) | fail)
        refine cx_cond rfl (fun h => absurd h (by decide)) (fun _ => ?_)
        repeat (first | ((first | (apply lx_gt; exact rfl; exact rfl; exact rfl) | (apply lx_u; exact rfl) | (apply lx_g; exact rfl; exact rfl)); first | (apply isy_bin_eql; exact yl_false (q_beq x.k 2#8 rfl rfl rfl rfl) (fun _ => g2)) | fail) | refine wzf ?_ | (refine wzb ?_; intro b_) | fail)
        refine cx_cond rfl (fun h => absurd h (by decide)) (fun _ => ?_)
        repeat (first | ((first | (apply lx_gt; exact rfl; exact rfl; exact rfl) | (apply lx_u; exact rfl) | (apply lx_g; exact rfl; exact rfl)); first | (apply isy_bin_eql; exact yl_false (q_beq x.k 3#8 rfl rfl rfl rfl) (fun _ => g3)) | fail) | refine wzf ?_ | (refine wzb ?_; intro b_) | fail)
        refine cx_cond rfl (fun h => absurd h (by decide)) (fun _ => ?_)
        repeat (first | ((first | (apply lx_gt; exact rfl; exact rfl; exact rfl) | (apply lx_u; exact rfl) | (apply lx_g; exact rfl; exact rfl)); first | (apply isy_bin_eql; exact yl_true (q_beq x.k 4#8 rfl rfl rfl rfl) (fun _ => g4)) | fail) | refine wzf ?_ | (refine wzb ?_; intro b_) | fail)
        refine cx_cond rfl (fun _ => ?_) (fun h => absurd h (by decide))
        repeat (first | ((first | (apply lx_gt; exact rfl; exact rfl; exact rfl) | (apply lx_u; exact rfl) | (apply lx_g; exact rfl; exact rfl)); first | (apply isy_bin_eql; exact yl_false (q_beq x.op.k 2#8 rfl rfl rfl rfl) (fun _ => go2)) | fail) | refine wzf ?_ | (refine wzb ?_; intro b_) | fail)
        refine cx_cond rfl (fun h => absurd h (by decide)) (fun _ => ?_)
        repeat (first | ((first | (apply lx_gt; exact rfl; exact rfl; exact rfl) | (apply lx_u; exact rfl) | (apply lx_g; exact rfl; exact rfl)); first | (apply isy_convert; exact q_ci uk8 rfl rfl rfl) | (apply isy_bin_eql; exact yl_true (yl_op (E := EV) rfl) (fun _ => gv1)) | fail) | refine wzf ?_ | (refine wzb ?_; intro b_) | fail)
        refine cx_cond rfl (fun _ => ?_) (fun h => absurd h (by decide))
        repeat (first | ((first | (apply lx_gt; exact rfl; exact rfl; exact rfl) | (apply lx_u; exact rfl) | (apply lx_g; exact rfl; exact rfl)); first | (apply isy_bin_eql; exact yl_false (yl_op (E := EV) rfl) (fun _ => gv2)) | fail) | refine wzf ?_ | (refine wzb ?_; intro b_) | fail)
        refine cx_cond rfl (fun h => absurd h (by decide)) (fun _ => ?_)
        repeat (first | refine wz ?_ | (refine wzb ?_; intro b_) | fail)
        refine cx_draw [3, 9, 10] _ rfl (by kernel_rfl) (Gives.refl _) ?_
        repeat (first | ((first | (apply lx_u; exact rfl) | (apply lx_g; exact rfl; exact rfl)); first | (apply isy_convert; exact q_ci uk8 rfl rfl rfl) | fail) | (refine isx_call ?_; refine k_gcall (hnm) (fun _ hm => in_nil hm) rfl rfl rfl rfl rfl rfl ?_) | refine wz ?_ | (refine wzb ?_; intro b_) | fail)
        exact bq_ret (ret_tmp rfl rfl) [_, _] ((Gives.blkown (m := 1) (sz := 1) 0 rfl rfl (by decide)).trans ((Gives.blkown (m := 4) (sz := 1) 1 rfl rfl (by decide)).trans (Gives.pick [0, 1] (by decide) rfl))) rfl ⟨_, 1, [⟨some ⟨_, 0, none⟩, 4, 4, [9#8, nameQ x.op.key, BitVec.ofInt 8 x.op.t, 127#8]⟩], rfl, rfl, fun r hr => by obtain rfl := List.mem_singleton.1 hr; exact ⟨rfl, Nat.le_of_ble_eq_true rfl⟩, Nat.le_of_ble_eq_true rfl, rfl⟩
      have gv1 : (x.op.v == 9223372036854775807) = false := by rw [beq_eq_false_iff_ne]; exact v1
      rw [if_neg v1]
      by_cases v2 : x.op.v = -9223372036854775808
      · rw [if_pos v2]
        have gv2 : (x.op.v == -9223372036854775808) = true := by rw [v2]; rfl
        refine fn_enter Tryz.func95 rfl rfl (by kernel_rfl) rfl ?_; intro w0
        repeat (first | ((first | (apply lx_gt; exact rfl; exact rfl; exact rfl) | (apply lx_u; exact rfl) | (apply lx_g; exact rfl; exact rfl)); first | (apply isy_bin_eql; exact yl_false (q_beq x.k 1#8 rfl rfl rfl rfl) (fun _ => g1)) | fail) | refine wzf ?_ | (refine wzb ?_; intro b_) | fail)
        refine cx_cond rfl (fun h => absurd h (by decide)) (fun _ => ?_)
        repeat (first | ((first | (apply lx_gt; exact rfl; exact rfl; exact rfl) | (apply lx_u; exact rfl) | (apply lx_g; exact rfl; exact rfl)); first | (apply isy_bin_eql; exact yl_false (q_beq x.k 2#8 rfl rfl rfl rfl) (fun _ => g2)) | fail) | refine wzf ?_ | (refine wzb ?_; intro b_) | fail)
        refine cx_cond rfl (fun h => absurd h (by decide)) (fun _ => ?_)
        repeat (first | ((first | (apply lx_gt; exact rfl; exact rfl; exact rfl) | (apply lx_u; exact rfl) | (apply lx_g; exact rfl; exact rfl)); first | (apply isy_bin_eql; exact yl_false (q_beq x.k 3#8 rfl rfl rfl rfl) (fun _ => g3)) | fail) | refine wzf ?_ | (refine wzb ?_; intro b_) | fail)
        refine cx_cond rfl (fun h => absurd h (by decide)) (fun _ => ?_)
        repeat (first | ((first | (apply lx_gt; exact rfl; exact rfl; exact rfl) | (apply lx_u; exact rfl) | (apply lx_g; exact rfl; exact rfl)); first | (apply isy_bin_eql; exact yl_true (q_beq x.k 4#8 rfl rfl rfl rfl) (fun _ => g4)) | fail) | refine wzf ?_ | (refine wzb ?_; intro b_) | fail)
        refine cx_cond rfl (fun _ => ?_) (fun h => absurd h (by decide))
        repeat (first | ((first | (apply lx_gt; exact rfl; exact rfl; exact rfl) | (apply lx_u; exact rfl) | (apply lx_g; exact rfl; exact rfl)); first | (apply isy_bin_eql; exact yl_false (q_beq x.op.k 2#8 rfl rfl rfl rfl) (fun _ => go2)) | fail) | refine wzf ?_ | (refine wzb ?_; intro b_) | fail)
        refine cx_cond rfl (fun h => absurd h (by decide)) (fun _ => ?_)
        repeat (first | ((first | (apply lx_gt; exact rfl; exact rfl; exact rfl) | (apply lx_u; exact rfl) | (apply lx_g; exact rfl; exact rfl)); first | (apply isy_convert; exact q_ci uk8 rfl rfl rfl) | (apply isy_bin_eql; exact yl_false (yl_op (E := EV) rfl) (fun _ => gv1)) | fail) | refine wzf ?_ | (refine wzb ?_; intro b_) | fail)
        refine cx_cond rfl (fun h => absurd h (by decide)) (fun _ => ?_)
        repeat (first | ((first | (apply lx_gt; exact rfl; exact rfl; exact rfl) | (apply lx_u; exact rfl) | (apply lx_g; exact rfl; exact rfl)); first | (apply isy_bin_eql; exact yl_true (yl_op (E := EV) rfl) (fun _ => gv2)) | fail) | refine wzf ?_ | (refine wzb ?_; intro b_) | fail)
        refine cx_cond rfl (fun _ => ?_) (fun h => absurd h (by decide))
        repeat (first | refine wz ?_ | (refine wzb ?_; intro b_) | fail)
        refine cx_draw [3, 9, 10] _ rfl (by kernel_rfl) (Gives.refl _) ?_
        repeat (first | ((first | (apply lx_u; exact rfl) | (apply lx_g; exact rfl; exact rfl)); first | (apply isy_convert; exact q_ci uk8 rfl rfl rfl) | fail) | (refine isx_call ?_; refine k_gcall (hnm) (fun _ hm => in_nil hm) rfl rfl rfl rfl rfl rfl ?_) | refine wz ?_ | (refine wzb ?_; intro b_) | fail)
        exact bq_ret (ret_tmp rfl rfl) [_, _] ((Gives.blkown (m := 1) (sz := 1) 0 rfl rfl (by decide)).trans ((Gives.blkown (m := 4) (sz := 1) 1 rfl rfl (by decide)).trans (Gives.pick [0, 1] (by decide) rfl))) rfl ⟨_, 1, [⟨some ⟨_, 0, none⟩, 4, 4, [9#8, nameQ x.op.key, BitVec.ofInt 8 x.op.t, 128#8]⟩], rfl, rfl, fun r hr => by obtain rfl := List.mem_singleton.1 hr; exact ⟨rfl, Nat.le_of_ble_eq_true rfl⟩, Nat.le_of_ble_eq_true rfl, rfl⟩
      · rw [if_neg v2]
        have gv2 : (x.op.v == -9223372036854775808) = false := by rw [beq_eq_false_iff_ne]; exact v2
        refine fn_enter Tryz.func95 rfl rfl (by kernel_rfl) rfl ?_; intro w0
        repeat (first | ((first | (apply lx_gt; exact rfl; exact rfl; exact rfl) | (apply lx_u; exact rfl) | (apply lx_g; exact rfl; exact rfl)); first | (apply isy_bin_eql; exact yl_false (q_beq x.k 1#8 rfl rfl rfl rfl) (fun _ => g1)) | fail) | refine wzf ?_ | (refine wzb ?_; intro b_) | fail)
        refine cx_cond rfl (fun h => absurd h (by decide)) (fun _ => ?_)
        repeat (first | ((first | (apply lx_gt; exact rfl; exact rfl; exact rfl) | (apply lx_u; exact rfl) | (apply lx_g; exact rfl; exact rfl)); first | (apply isy_bin_eql; exact yl_false (q_beq x.k 2#8 rfl rfl rfl rfl) (fun _ => g2)) | fail) | refine wzf ?_ | (refine wzb ?_; intro b_) | fail)
        refine cx_cond rfl (fun h => absurd h (by decide)) (fun _ => ?_)
        repeat (first | ((first | (apply lx_gt; exact rfl; exact rfl; exact rfl) | (apply lx_u; exact rfl) | (apply lx_g; exact rfl; exact rfl)); first | (apply isy_bin_eql; exact yl_false (q_beq x.k 3#8 rfl rfl rfl rfl) (fun _ => g3)) | fail) | refine wzf ?_ | (refine wzb ?_; intro b_) | fail)
        refine cx_cond rfl (fun h => absurd h (by decide)) (fun _ => ?_)
        repeat (first | ((first | (apply lx_gt; exact rfl; exact rfl; exact rfl) | (apply lx_u; exact rfl) | (apply lx_g; exact rfl; exact rfl)); first | (apply isy_bin_eql; exact yl_true (q_beq x.k 4#8 rfl rfl rfl rfl) (fun _ => g4)) | fail) | refine wzf ?_ | (refine wzb ?_; intro b_) | fail)
        refine cx_cond rfl (fun _ => ?_) (fun h => absurd h (by decide))
        repeat (first | ((first | (apply lx_gt; exact rfl; exact rfl; exact rfl) | (apply lx_u; exact rfl) | (apply lx_g; exact rfl; exact rfl)); first | (apply isy_bin_eql; exact yl_false (q_beq x.op.k 2#8 rfl rfl rfl rfl) (fun _ => go2)) | fail) | refine wzf ?_ | (refine wzb ?_; intro b_) | fail)
        refine cx_cond rfl (fun h => absurd h (by decide)) (fun _ => ?_)
        repeat (first | ((first | (apply lx_gt; exact rfl; exact rfl; exact rfl) | (apply lx_u; exact rfl) | (apply lx_g; exact rfl; exact rfl)); first | (apply isy_convert; exact q_ci uk8 rfl rfl rfl) | (apply isy_bin_eql; exact yl_false (yl_op (E := EV) rfl) (fun _ => gv1)) | fail) | refine wzf ?_ | (refine wzb ?_; intro b_) | fail)
        refine cx_cond rfl (fun h => absurd h (by decide)) (fun _ => ?_)
        repeat (first | ((first | (apply lx_gt; exact rfl; exact rfl; exact rfl) | (apply lx_u; exact rfl) | (apply lx_g; exact rfl; exact rfl)); first | (apply isy_bin_eql; exact yl_false (yl_op (E := EV) rfl) (fun _ => gv2)) | fail) | refine wzf ?_ | (refine wzb ?_; intro b_) | fail)
        refine cx_cond rfl (fun h => absurd h (by decide)) (fun _ => ?_)
        repeat (first | refine wz ?_ | (refine wzb ?_; intro b_) | fail)
        refine cx_draw [3, 9, 10] _ rfl (by kernel_rfl) (Gives.refl _) ?_
        repeat (first | ((first | (apply lx_u; exact rfl) | (apply lx_g; exact rfl; exact rfl)); first | (apply isy_convert; exact q_ci uk8 rfl rfl rfl) | fail) | (refine isx_call ?_; refine k_gcall (hnm) (fun _ hm => in_nil hm) rfl rfl rfl rfl rfl rfl ?_) | refine wz ?_ | (refine wzb ?_; intro b_) | fail)
        exact bq_ret (ret_tmp rfl rfl) [_, _] ((Gives.blkown (m := 1) (sz := 1) 0 rfl rfl (by decide)).trans ((Gives.blkown (m := 4) (sz := 1) 1 rfl rfl (by decide)).trans (Gives.pick [0, 1] (by decide) rfl))) rfl ⟨_, 1, [⟨some ⟨_, 0, none⟩, 4, 4, [9#8, nameQ x.op.key, BitVec.ofInt 8 x.op.t, BitVec.ofInt 8 x.op.v]⟩], rfl, rfl, fun r hr => by obtain rfl := List.mem_singleton.1 hr; exact ⟨rfl, Nat.le_of_ble_eq_true rfl⟩, Nat.le_of_ble_eq_true rfl, rfl⟩
  rw [if_neg e4]
  have g4 : (x.k == 4#8) = false := by rw [beq_eq_false_iff_ne]; exact e4
  by_cases e5 : x.k = 5#8
  · rw [if_pos e5]
    have g5 : (x.k == 5#8) = true := by rw [e5]; rfl
    refine fn_enter Tryz.func95 rfl rfl (by kernel_rfl) rfl ?_; intro w0
    repeat (first | ((first | (apply lx_gt; exact rfl; exact rfl; exact rfl) | (apply lx_u; exact rfl) | (apply lx_g; exact rfl; exact rfl)); first | (apply isy_bin_eql; exact yl_false (q_beq x.k 1#8 rfl rfl rfl rfl) (fun _ => g1)) | fail) | refine wzf ?_ | (refine wzb ?_; intro b_) | fail)
    refine cx_cond rfl (fun h => absurd h (by decide)) (fun _ => ?_)
    repeat (first | ((first | (apply lx_gt; exact rfl; exact rfl; exact rfl) | (apply lx_u; exact rfl) | (apply lx_g; exact rfl; exact rfl)); first | (apply isy_bin_eql; exact yl_false (q_beq x.k 2#8 rfl rfl rfl rfl) (fun _ => g2)) | fail) | refine wzf ?_ | (refine wzb ?_; intro b_) | fail)
    refine cx_cond rfl (fun h => absurd h (by decide)) (fun _ => ?_)
    repeat (first | ((first | (apply lx_gt; exact rfl; exact rfl; exact rfl) | (apply lx_u; exact rfl) | (apply lx_g; exact rfl; exact rfl)); first | (apply isy_bin_eql; exact yl_false (q_beq x.k 3#8 rfl rfl rfl rfl) (fun _ => g3)) | fail) | refine wzf ?_ | (refine wzb ?_; intro b_) | fail)
    refine cx_cond rfl (fun h => absurd h (by decide)) (fun _ => ?_)
    repeat (first | ((first | (apply lx_gt; exact rfl; exact rfl; exact rfl) | (apply lx_u; exact rfl) | (apply lx_g; exact rfl; exact rfl)); first | (apply isy_bin_eql; exact yl_false (q_beq x.k 4#8 rfl rfl rfl rfl) (fun _ => g4)) | fail) | refine wzf ?_ | (refine wzb ?_; intro b_) | fail)
    refine cx_cond rfl (fun h => absurd h (by decide)) (fun _ => ?_)
    repeat (first | ((first | (apply lx_gt; exact rfl; exact rfl; exact rfl) | (apply lx_u; exact rfl) | (apply lx_g; exact rfl; exact rfl)); first | (apply isy_bin_eql; exact yl_true (q_beq x.k 5#8 rfl rfl rfl rfl) (fun _ => g5)) | fail) | refine wzf ?_ | (refine wzb ?_; intro b_) | fail)
    refine cx_cond rfl (fun _ => ?_) (fun h => absurd h (by decide))
    repeat (first | refine wz ?_ | (refine wzb ?_; intro b_) | fail)
    exact bq_ret (ret_tmp rfl rfl) [_, _] ((Gives.blkown (m := 1) (sz := 1) 0 rfl rfl (by decide)).trans ((Gives.blkown (m := 1) (sz := 1) 1 rfl rfl (by decide)).trans (Gives.pick [0, 1] (by decide) rfl))) rfl ⟨_, 1, [⟨some ⟨_, 0, none⟩, 1, 1, [13#8]⟩], rfl, rfl, fun r hr => by obtain rfl := List.mem_singleton.1 hr; exact ⟨rfl, Nat.le_of_ble_eq_true rfl⟩, Nat.le_of_ble_eq_true rfl, rfl⟩
  rw [if_neg e5]
  have g5 : (x.k == 5#8) = false := by rw [beq_eq_false_iff_ne]; exact e5
  by_cases e6 : x.k = 6#8
  · rw [if_pos e6]
    have g6 : (x.k == 6#8) = true := by rw [e6]; rfl
    refine fn_enter Tryz.func95 rfl rfl (by kernel_rfl) rfl ?_; intro w0
    repeat (first | ((first | (apply lx_gt; exact rfl; exact rfl; exact rfl) | (apply lx_u; exact rfl) | (apply lx_g; exact rfl; exact rfl)); first | (apply isy_bin_eql; exact yl_false (q_beq x.k 1#8 rfl rfl rfl rfl) (fun _ => g1)) | fail) | refine wzf ?_ | (refine wzb ?_; intro b_) | fail)
    refine cx_cond rfl (fun h => absurd h (by decide)) (fun _ => ?_)
    repeat (first | ((first | (apply lx_gt; exact rfl; exact rfl; exact rfl) | (apply lx_u; exact rfl) | (apply lx_g; exact rfl; exact rfl)); first | (apply isy_bin_eql; exact yl_false (q_beq x.k 2#8 rfl rfl rfl rfl) (fun _ => g2)) | fail) | refine wzf ?_ | (refine wzb ?_; intro b_) | fail)
    refine cx_cond rfl (fun h => absurd h (by decide)) (fun _ => ?_)
    repeat (first | ((first | (apply lx_gt; exact rfl; exact rfl; exact rfl) | (apply lx_u; exact rfl) | (apply lx_g; exact rfl; exact rfl)); first | (apply isy_bin_eql; exact yl_false (q_beq x.k 3#8 rfl rfl rfl rfl) (fun _ => g3)) | fail) | refine wzf ?_ | (refine wzb ?_; intro b_) | fail)
    refine cx_cond rfl (fun h => absurd h (by decide)) (fun _ => ?_)
    repeat (first | ((first | (apply lx_gt; exact rfl; exact rfl; exact rfl) | (apply lx_u; exact rfl) | (apply lx_g; exact rfl; exact rfl)); first | (apply isy_bin_eql; exact yl_false (q_beq x.k 4#8 rfl rfl rfl rfl) (fun _ => g4)) | fail) | refine wzf ?_ | (refine wzb ?_; intro b_) | fail)
    refine cx_cond rfl (fun h => absurd h (by decide)) (fun _ => ?_)
    repeat (first | ((first | (apply lx_gt; exact rfl; exact rfl; exact rfl) | (apply lx_u; exact rfl) | (apply lx_g; exact rfl; exact rfl)); first | (apply isy_bin_eql; exact yl_false (q_beq x.k 5#8 rfl rfl rfl rfl) (fun _ => g5)) | fail) | refine wzf ?_ | (refine wzb ?_; intro b_) | fail)
    refine cx_cond rfl (fun h => absurd h (by decide)) (fun _ => ?_)
    repeat (first | ((first | (apply lx_gt; exact rfl; exact rfl; exact rfl) | (apply lx_u; exact rfl) | (apply lx_g; exact rfl; exact rfl)); first | (apply isy_bin_eql; exact yl_true (q_beq x.k 6#8 rfl rfl rfl rfl) (fun _ => g6)) | fail) | refine wzf ?_ | (refine wzb ?_; intro b_) | fail)
    refine cx_cond rfl (fun _ => ?_) (fun h => absurd h (by decide))
    repeat (first | ((first | (apply lx_u; exact rfl) | (apply lx_g; exact rfl; exact rfl)); first | (apply isy_convert; exact q_cv uk8 x.by_ rfl rfl rfl rfl) | fail) | refine wz ?_ | (refine wzb ?_; intro b_) | fail)
    exact bq_ret (ret_tmp rfl rfl) [_, _] ((Gives.blkown (m := 1) (sz := 1) 0 rfl rfl (by decide)).trans ((Gives.blkown (m := 2) (sz := 1) 1 rfl rfl (by decide)).trans (Gives.pick [0, 1] (by decide) rfl))) rfl ⟨_, 1, [⟨some ⟨_, 0, none⟩, 2, 2, [14#8, x.by_.setWidth 8]⟩], rfl, rfl, fun r hr => by obtain rfl := List.mem_singleton.1 hr; exact ⟨rfl, Nat.le_of_ble_eq_true rfl⟩, Nat.le_of_ble_eq_true rfl, rfl⟩
  rw [if_neg e6]
  have g6 : (x.k == 6#8) = false := by rw [beq_eq_false_iff_ne]; exact e6
  refine fn_enter Tryz.func95 rfl rfl (by kernel_rfl) rfl ?_; intro w0
  repeat (first | ((first | (apply lx_gt; exact rfl; exact rfl; exact rfl) | (apply lx_u; exact rfl) | (apply lx_g; exact rfl; exact rfl)); first | (apply isy_bin_eql; exact yl_false (q_beq x.k 1#8 rfl rfl rfl rfl) (fun _ => g1)) | fail) | refine wzf ?_ | (refine wzb ?_; intro b_) | fail)
  refine cx_cond rfl (fun h => absurd h (by decide)) (fun _ => ?_)
  repeat (first | ((first | (apply lx_gt; exact rfl; exact rfl; exact rfl) | (apply lx_u; exact rfl) | (apply lx_g; exact rfl; exact rfl)); first | (apply isy_bin_eql; exact yl_false (q_beq x.k 2#8 rfl rfl rfl rfl) (fun _ => g2)) | fail) | refine wzf ?_ | (refine wzb ?_; intro b_) | fail)
  refine cx_cond rfl (fun h => absurd h (by decide)) (fun _ => ?_)
  repeat (first | ((first | (apply lx_gt; exact rfl; exact rfl; exact rfl) | (apply lx_u; exact rfl) | (apply lx_g; exact rfl; exact rfl)); first | (apply isy_bin_eql; exact yl_false (q_beq x.k 3#8 rfl rfl rfl rfl) (fun _ => g3)) | fail) | refine wzf ?_ | (refine wzb ?_; intro b_) | fail)
  refine cx_cond rfl (fun h => absurd h (by decide)) (fun _ => ?_)
  repeat (first | ((first | (apply lx_gt; exact rfl; exact rfl; exact rfl) | (apply lx_u; exact rfl) | (apply lx_g; exact rfl; exact rfl)); first | (apply isy_bin_eql; exact yl_false (q_beq x.k 4#8 rfl rfl rfl rfl) (fun _ => g4)) | fail) | refine wzf ?_ | (refine wzb ?_; intro b_) | fail)
  refine cx_cond rfl (fun h => absurd h (by decide)) (fun _ => ?_)
  repeat (first | ((first | (apply lx_gt; exact rfl; exact rfl; exact rfl) | (apply lx_u; exact rfl) | (apply lx_g; exact rfl; exact rfl)); first | (apply isy_bin_eql; exact yl_false (q_beq x.k 5#8 rfl rfl rfl rfl) (fun _ => g5)) | fail) | refine wzf ?_ | (refine wzb ?_; intro b_) | fail)
  refine cx_cond rfl (fun h => absurd h (by decide)) (fun _ => ?_)
  repeat (first | ((first | (apply lx_gt; exact rfl; exact rfl; exact rfl) | (apply lx_u; exact rfl) | (apply lx_g; exact rfl; exact rfl)); first | (apply isy_bin_eql; exact yl_false (q_beq x.k 6#8 rfl rfl rfl rfl) (fun _ => g6)) | fail) | refine wzf ?_ | (refine wzb ?_; intro b_) | fail)
  refine cx_cond rfl (fun h => absurd h (by decide)) (fun _ => ?_)
  repeat (first | refine wz ?_ | (refine wzb ?_; intro b_) | fail)
  exact bq_ret (ret_tmp rfl rfl) [_, _] ((Gives.blkown (m := 1) (sz := 1) 0 rfl rfl (by decide)).trans ((Gives.blkown (m := 1) (sz := 1) 1 rfl rfl (by decide)).trans (Gives.pick [0, 1] (by decide) rfl))) rfl ⟨_, 1, [⟨some ⟨_, 0, none⟩, 1, 1, [15#8]⟩], rfl, rfl, fun r hr => by obtain rfl := List.mem_singleton.1 hr; exact ⟨rfl, Nat.le_of_ble_eq_true rfl⟩, Nat.le_of_ble_eq_true rfl, rfl⟩
end Go.Proofs.YtmochicneilhhaaGreat.sc
