/- scripts: ScriptFrames, ScriptReads. -/
import Derived.Test.YtmochicneilhhaaGreatPAp
import Derived.Test.YtmochicneilhhaaGreatPGo
import Derived.Test.YtmochicneilhhaaGreatPTm
namespace Go.Proofs.YtmochicneilhhaaGreat.sc
open Go.RowKit Go.Proofs.YtmochicneilhhaaGreat.kit Go.Proofs.YtmochicneilhhaaGreat.pk Go.Proofs.YtmochicneilhhaaGreat.rq Go.Proofs.YtmochicneilhhaaGreat.ev Go.Proofs.YtmochicneilhhaaGreat.win
section
variable {P : Program} {n : Nat} {M : Me} {Q : Post} {t : Fr} {L : List Ck} {ops : Array Oper} {s : Way} {i : Nat} {rest : List Oper}
theorem lx_weakG {L' : List Ck} (hg : Gives L L') (h0 : s.gives L') (h : LX P n M ops s i rest Q t L') : LX P n M ops s i rest Q t L := fun _ a w hf hm => h h0 a w hf (hg _ _ hm)
end
theorem Gives.mid {c : Ck} {S T : List Ck} : Gives ((c :: S) ++ T) (c :: (T ++ S)) := Gives.perm (show ([c] ++ S ++ T).Perm ([c] ++ (T ++ S)) by rw [List.append_assoc]; exact List.Perm.append_left _ List.perm_append_comm)
theorem scells_len (xs : List MS) : (scells xs).length = xs.length * 8 := flat_len (f := MS.cells) (m := 8) (fun _ => rfl) xs
theorem scells_put (ys zs : List MS) (z x : MS) : setL (scells (ys ++ z :: zs)) (mulI ys.length 8) x.cells = scells (ys ++ x :: zs) := by
  have e : ∀ u, scells (ys ++ u :: zs) = scells ys ++ (u.cells ++ scells zs) := fun u => by simp [scells]
  have hl := scells_len ys
  have h8 : x.cells.length = 8 := rfl
  have hfit : ys.length * 8 + x.cells.length ≤ (scells (ys ++ z :: zs)).length := by
    rw [h8, scells_len, List.length_append, List.length_cons]
    omega
  rw [mulI_eq, setL_eq _ _ _ hfit, e, e, ← hl, List.take_left, List.append_assoc, List.drop_append, List.drop_eq_nil_of_le (by omega), List.nil_append, h8, Nat.add_sub_cancel_left]
  rfl
theorem frame_right (r : RQ) : (((((frameQ r).length : Nat) : Int) == 0) == r.right) = false := by
  unfold frameQ
  cases r.right with
  | true =>
    have := fr.frm_len r.enc
    have h : ((((if true = true then fr.frm r.enc else []).length : Nat) : Int) == 0) = false := by rw [if_pos rfl, beq_eq_false_iff_ne]; omega
    rw [h]
    rfl
  | false => rfl
theorem Gives.mid2 {c d : Ck} {S T : List Ck} : Gives ((c :: d :: S) ++ T) (c :: d :: (T ++ S)) := Gives.perm (show ([c, d] ++ S ++ T).Perm ([c, d] ++ (T ++ S)) by rw [List.append_assoc]; exact List.Perm.append_left _ List.perm_append_comm)
theorem Gives.bods2 (L0 : List Ck) (ss xs : List MS) : Gives (L0 ++ (sbods ss ++ sbods xs)) (L0 ++ (xs.map MS.body ++ sbods ss)) := Gives.perm (List.Perm.append_left _ (List.perm_append_comm.trans (List.Perm.append_right _ ((List.reverse_perm xs).map _))))
theorem put_zero (xs : List MS) {i : Nat} {x : MS} : setL (scells (List.replicate i zeroS ++ x :: xs.drop (i + 1))) (mulI i 8) zeroS.cells = scells (List.replicate (i + 1) zeroS ++ xs.drop (i + 1)) := by
  have h := scells_put (List.replicate i zeroS) (xs.drop (i + 1)) x zeroS
  rw [List.length_replicate] at h
  rw [h, List.replicate_succ', List.append_assoc]
  rfl
attribute [local irreducible] LX CX Yl Gives RetIs Fn
attribute [local irreducible] be de fr.frm
set_option maxRecDepth 100000 in
set_option maxHeartbeats 4000000 in
theorem frames_fn (r : RQ) : Fn Tryz.prog 4 [r.val] [] [] fun v Lo => v = .bool true ∧ Lo = [] := by
  have h1 := frame_fn r
  have h2 := rframe_fn r
  have h3 := right_fn r
  have hle := frameQ_le r
  have hr := frame_right r
  have hs : ∀ A A' c c', Fn Tryz.prog 15 [.slice A (frameQ r).length c, .slice A' (frameQ r).length c'] [.ro A (frameQ r).length 1 (bvs (frameQ r)), .ro A' (frameQ r).length 1 (bvs (frameQ r))] [] fun v Lo => v = .bool true ∧ Lo = [] := fun A A' c c' => by
    have := kit.same_fn A A' (frameQ r).length c (frameQ r).length c' (frameQ r) (frameQ r) rfl rfl (by omega) (by omega)
    rwa [beq_self_eq_true] at this
  generalize frameQ r = u at *
  refine fn_enter Tryz.func4 rfl rfl (by kernel_rfl) rfl ?_
  intro w0
  repeat (first | ((first | (apply lx_u; exact rfl) | (apply lx_g; exact rfl; exact rfl)); first | (apply isy_blt; exact q_slen rfl rfl) | fail) | refine wz ?_ | (refine wzb ?_; intro b_) | fail)
  refine cx_cond rfl (fun h => ?_) (fun _ => ?_)
  · repeat (first | (refine isx_call ?_; refine k_gcall (works_fn) (fun _ hm => in_nil hm) rfl rfl rfl rfl rfl rfl ?_) | refine wz ?_ | (refine wzb ?_; intro b_) | fail)
    exact bq_ret (ret_tmp rfl rfl) [] (Gives.nil _) rfl ⟨rfl, rfl⟩
  repeat (first | refine wz ?_ | (refine wzb ?_; intro b_) | fail)
  rename_i b1 hff
  generalize b_ = b3
  refine cx_loop (α := { t : Nat // t ≤ 2 }) (fun x => [(1, none, .pointer (some ⟨b1, 0, none⟩)), (3, none, .pointer (some ⟨b3, 0, none⟩)), (4, none, .int .i64 x.1)]) (fun _ => [.blk b3 r.cells 53, .blk b1 r.cells 52]) (fun x => 2 - x.1) ⟨0, Nat.zero_le _⟩ ⟨rfl, rfl, rfl, trivial⟩ (Gives.refl _) ?_
  rintro ⟨t, ht⟩
  dsimp only
  repeat (first | refine wz ?_ | (refine wzb ?_; intro b_) | fail)
  refine cx_cond rfl (fun h => ?_) (fun h => ?_)
  · have ht2 : t < 2 := by simp at h; omega
    clear h
    repeat (first | (refine isx_call ?_; (refine isx_call ?_; refine lx_call0 (h1) (fun _ hm => in_nil hm) rfl rfl rfl rfl rfl rfl rfl rfl ?_; rintro v_ Lo_ ⟨A2, c2, rfl, rfl⟩)) | refine wz ?_ | (refine wzb ?_; intro b_) | fail)
    repeat (first | ((first | (apply lx_gt; exact rfl; exact rfl; exact rfl) | (apply lx_u; exact rfl) | (apply lx_g; exact rfl; exact rfl)); first | (apply isy_bin_eql; exact yl_false (yl_op (E := EV) rfl) (fun _ => hr)) | fail) | (refine isx_call ?_; (refine isx_call ?_; refine lx_call0 (h2) (fun _ hm => in_nil hm) rfl rfl rfl rfl rfl rfl rfl rfl ?_; rintro v_ Lo_ ⟨A3, c3, rfl, rfl⟩)) | (refine isx_call ?_; refine lx_gcallt ((hs A2 A3 c2 c3)) ((fun w hm => in_ro (row_own 1 rfl hm) (in_ro (row_own 0 rfl hm) (in_nil hm) rfl) rfl)) rfl rfl rfl rfl rfl rfl rfl ?_) | (refine isx_call ?_; refine lx_gcallt (h3) (fun _ hm => in_nil hm) rfl rfl rfl rfl rfl rfl rfl ?_) | refine wzf ?_ | (refine wzb ?_; intro b_) | fail)
    refine cx_cond rfl (fun h => absurd h (by decide)) (fun _ => ?_)
    repeat (first | (refine isx_call ?_; refine k_call ((spoil_own A2 u.length c2 _ u (by omega) rfl)) [1] [1] [0, 2, 3] rfl rfl rfl rfl rfl rfl rfl rfl ?_; rintro v_ Lo_ ⟨rfl, rfl⟩) | refine wz ?_ | (refine wzb ?_; intro b_) | fail)
    exact ⟨⟨t + 1, by omega⟩, ⟨rfl, rfl, slot_int (by dsimp only; omega), trivial⟩, Gives.pick [2, 3] (by decide) rfl, by dsimp only; omega⟩
  · repeat (first | (refine isx_call ?_; refine k_gcall (works_fn) (fun _ hm => in_nil hm) rfl rfl rfl rfl rfl rfl ?_) | refine wz ?_ | (refine wzb ?_; intro b_) | fail)
    exact bq_ret (ret_tmp rfl rfl) [] (Gives.nil _) rfl ⟨rfl, rfl⟩
set_option maxRecDepth 100000 in
set_option maxHeartbeats 8000000 in
theorem reads_fn (A : Option Addr) (n c : Nat) (l : List B8) (hl : l.length = n) (hc : n ≤ c ∧ c ≤ 9223372036854775807) : Fn Tryz.prog 3 [.slice A n c] [.ro A n 1 (bvs l)] [] fun v Lo => v = .bool true ∧ Lo = [] := by
  subst hl
  have hcc : (cfgQ l).eqB (cfgQ l) = true := Cf.eqB_self _
  have hb : ∀ A' c', l.length ≤ 2000 → Fn Tryz.prog 15 [.slice A l.length c, .slice A' l.length c'] [.ro A l.length 1 (bvs l), .ro A' l.length 1 (bvs l)] [] fun v Lo => v = .bool true ∧ Lo = [] := fun A' c' h => by
    have := kit.same_fn A A' l.length c l.length c' l l rfl rfl (by omega) (by omega)
    rwa [beq_self_eq_true] at this
  refine fn_enter Tryz.func3 rfl rfl (by kernel_rfl) rfl ?_
  intro w0
  repeat (first | refine wz ?_ | (refine wzb ?_; intro b_) | fail)
  refine cx_cond rfl (fun h => ?_) (fun h => ?_)
  · repeat (first | (refine isx_call ?_; refine k_gcall (works_fn) (fun _ hm => in_nil hm) rfl rfl rfl rfl rfl rfl ?_) | refine wz ?_ | (refine wzb ?_; intro b_) | fail)
    exact bq_ret (ret_tmp rfl rfl) [] (Gives.nil _) rfl ⟨rfl, rfl⟩
  have h2000 : l.length ≤ 2000 := by simp at h; omega
  clear h
  have hcut : l.take 16384 = l := List.take_of_length_le (by omega)
  obtain ⟨C, hC⟩ : ∃ C, cfgQ l = C := ⟨_, rfl⟩
  have hread := (read_fn A l.length c l l rfl hc hcut).mono fun _ _ => read_val hC
  rw [hC] at hcc
  repeat (first | refine wzo ?_ | (refine wzb ?_; intro b_) | fail)
  repeat (first | (refine isx_call ?_; (refine isx_call ?_; refine lx_call0 (own_fn A l.length c l (by omega)) ((fun w hm => in_ro (row_ro 0 rfl hm) (in_nil hm) rfl)) rfl rfl rfl rfl rfl rfl rfl rfl ?_; rintro v_ Lo_ ⟨Ao, co, rfl, rfl⟩)) | refine wz ?_ | (refine wzb ?_; intro b_) | fail)
  refine lx_fact (fun w hm => own_cap 0 hm rfl) fun hco => ?_
  refine lx_weak (Gives.ownro 0 rfl) ?_
  have hread2 := (rread_fn Ao l.length co l l rfl hco hcut).mono fun _ _ => read_val hC
  repeat (first | (refine isx_call ?_; (refine isx_call ?_; refine lx_call0 (hread2) ((fun w hm => in_ro (row_ro 0 rfl hm) (in_nil hm) rfl)) rfl rfl rfl rfl rfl rfl rfl rfl ?_; rintro v_ Lo_ ⟨As, cs, ss, rfl, hss, fits, les, rfl⟩)) | refine wz ?_ | (refine wzb ?_; intro b_) | fail)
  generalize b_ = b4
  refine cx_loop (α := { t : Nat // t ≤ 2 }) (fun x => [(0, none, .slice A l.length c), (3, none, .slice Ao l.length co), (4, none, .pointer (some ⟨b4, 0, none⟩)), (5, none, .slice As ss.length cs), (6, none, .int .i64 x.1)])
    (fun _ => [.blk b4 C.cells 28, .own As ss.length cs 68 8 (scells ss), .ro Ao l.length 1 (bvs l), .ro A l.length 1 (bvs l)] ++ sbods ss) (fun x => 2 - x.1) ⟨0, Nat.zero_le _⟩ ⟨rfl, rfl, rfl, rfl, rfl, trivial⟩ Gives.mid2 ?_
  rintro ⟨t, ht⟩
  dsimp only
  repeat (first | refine wz ?_ | (refine wzb ?_; intro b_) | fail)
  refine cx_cond rfl (fun h => ?_) (fun h => ?_)
  · have ht2 : t < 2 := by simp at h; omega
    clear h
    repeat (first | (refine isx_call ?_; (refine isx_call ?_; refine lx_call0 (hread) ((fun w hm => in_ro (row_ro 3 rfl hm) (in_nil hm) rfl)) rfl rfl rfl rfl rfl rfl rfl rfl ?_; rintro v_ Lo_ ⟨A7, c7, xs, rfl, hxs, fit, le, rfl⟩)) | refine wz ?_ | (refine wzb ?_; intro b_) | fail)
    generalize b_ = b7
    have hxss : xs.map MS.sp = ss.map MS.sp := by rw [hxs, hss]
    refine cx_weakL (L' := [.blk b7 C.cells 34, .own A7 xs.length c7 47 8 (scells xs), .blk b4 C.cells 28, .own As ss.length cs 68 8 (scells ss), .ro Ao l.length 1 (bvs l), .ro A l.length 1 (bvs l)] ++ (sbods ss ++ sbods xs)) Gives.mid2 ?_
    refine cx_draw [1, 6, 8, 14] [.blk b7 C.cells 34, .blk b4 C.cells 28] rfl (by kernel_rfl) ((Gives.pre [_, _, _, _, _, _] [0, 2] (by decide) rfl rfl).trans (Gives.left _ _)) ?_
    repeat (first | ((first | (apply lx_gt; exact rfl; exact rfl; exact rfl) | (apply lx_u; exact rfl) | (apply lx_g; exact rfl; exact rfl)); first | (apply isy_bin_neq; exact yl_false (yl_nes rcfe_g rfl rfl (fun w => rcfe C C w) (by first | exact fun _ => rfl | exact fun h => h | exact fun h => (Bool.and_eq_true_iff.1 h).1) (by first | exact fun _ => rfl | exact fun h => h | exact fun h => (Bool.and_eq_true_iff.1 h).1)) (fun _ => by rw [hcc]; rfl)) | fail) | (refine isx_call ?_; refine lx_gcallt (config_law C) (fun _ hm => in_nil hm) rfl rfl rfl rfl rfl rfl rfl ?_) | (refine isx_call ?_; (refine isx_call ?_; refine lx_call0 (refs_fn A7 xs.length c7 xs rfl (by omega) fit) ((fun w hm => sts_in (sts_own 1 hm rfl fun x hx => by simp [hx]) (in_nil hm) rfl)) rfl rfl rfl rfl rfl rfl rfl rfl ?_; rintro v_ Lo_ ⟨A8, c8, ys, rfl, hys, fity, rfl⟩)) | refine wzf ?_ | (refine wzb ?_; intro b_) | fail)
    refine lx_weakG (L' := [.own A8 ys.length c8 68 8 (scells ys), .blk b7 C.cells 34, .own A7 xs.length c7 47 8 (scells xs), .blk b4 C.cells 28, .own As ss.length cs 68 8 (scells ss), .ro Ao l.length 1 (bvs l), .ro A l.length 1 (bvs l)] ++ ((sbods ss ++ sbods xs) ++ sbods ys)) Gives.mid ((Gives.pre [_, _, _, _, _, _, _] [1, 3] (by decide) rfl rfl).trans (Gives.left _ _)) ?_
    repeat (first | (refine isx_call ?_; refine lx_gcallt (same_law A8 As ys.length c8 ss.length cs ys ss rfl rfl (hys.trans hxss) (by have := map_len hys; omega)) ((fun w hm => sts_in (sts_own 0 hm rfl fun x hx => by simp [hx]) (sts_in (sts_own 4 hm rfl fun x hx => by simp [hx]) (in_nil hm) rfl) rfl)) rfl rfl rfl rfl rfl rfl rfl ?_) | (refine isx_call ?_; refine lx_gcallt (hb Ao co h2000) ((fun w hm => in_ro (row_ro 6 rfl hm) (in_ro (row_ro 5 rfl hm) (in_nil hm) rfl) rfl)) rfl rfl rfl rfl rfl rfl rfl ?_) | refine wzf ?_ | (refine wzb ?_; intro b_) | fail)
    refine cx_cond rfl (fun h => absurd h (by decide)) (fun _ => ?_)
    refine cx_weakL (L' := [.own A7 xs.length c7 47 8 (scells xs), .blk b4 C.cells 28, .own As ss.length cs 68 8 (scells ss), .ro Ao l.length 1 (bvs l), .ro A l.length 1 (bvs l)] ++ (xs.map MS.body ++ sbods ss)) (Gives.trans (Gives.trans (Gives.pre [_, _, _, _, _, _, _] [2, 3, 4, 5, 6] (by decide) rfl rfl) (Gives.sub (List.Sublist.append_left (List.sublist_append_left _ _) _))) (Gives.bods2 _ _ _)) ?_
    repeat (first | refine wz ?_ | (refine wzb ?_; intro b_) | fail)
    refine cx_loop (α := { i : Nat // i ≤ xs.length }) (fun x => [(0, none, .slice A l.length c), (3, none, .slice Ao l.length co), (4, none, .pointer (some ⟨b4, 0, none⟩)), (5, none, .slice As ss.length cs), (6, none, .int .i64 t), (8, none, .slice A7 xs.length c7), (9, none, .int .i64 x.1)])
      (fun x => [.own A7 xs.length c7 47 8 (scells (List.replicate x.1 zeroS ++ xs.drop x.1)), .blk b4 C.cells 28, .own As ss.length cs 68 8 (scells ss), .ro Ao l.length 1 (bvs l), .ro A l.length 1 (bvs l)] ++ ((xs.drop x.1).map MS.body ++ sbods ss)) (fun x => xs.length - x.1) ⟨0, Nat.zero_le _⟩ ⟨rfl, rfl, rfl, rfl, rfl, rfl, rfl, trivial⟩ (Gives.refl _) ?_
    rintro ⟨i, hi⟩
    dsimp only
    repeat (first | refine wz ?_ | (refine wzb ?_; intro b_) | fail)
    refine cx_cond rfl (fun h => ?_) (fun h => ?_)
    · have hlt : i < xs.length := by simp at h; omega
      clear h
      obtain ⟨x, hx⟩ : ∃ x, xs[i]? = some x := ⟨_, List.getElem?_eq_getElem hlt⟩
      have hfx := fit x (List.mem_of_getElem? hx)
      have hdx : xs.drop i = x :: xs.drop (i + 1) := by
        obtain ⟨h1, rfl⟩ := List.getElem?_eq_some_iff.1 hx
        exact List.drop_eq_getElem_cons h1
      have hput := put_zero xs (i := i) (x := x)
      have hzi : (List.replicate i zeroS ++ x :: xs.drop (i + 1))[i]? = some x := by
        rw [List.getElem?_append_right (by rw [List.length_replicate]; exact Nat.le_refl _), List.length_replicate, Nat.sub_self]
        rfl
      have hx2 : (scells (List.replicate i zeroS ++ x :: xs.drop (i + 1)))[mulI i 8 + 2]? = some (.slice x.r.A x.r.n x.r.c) := scells_get hzi 2 (by decide)
      have hfit : mulI i 8 + 8 ≤ (scells (List.replicate i zeroS ++ x :: xs.drop (i + 1))).length := by
        rw [scells_len, List.length_append, List.length_replicate, List.length_cons, mulI_eq]
        omega
      rw [hdx]
      repeat (first | ((first | (apply lx_u; exact rfl) | (apply lx_g; exact rfl; exact rfl)); first | (apply isy_indexAddr; exact q_ixo 0 rfl rfl rfl rfl rfl) | (apply isy_fieldAddr; exact q_fio 0 rfl rfl rfl rfl rfl rfl) | (apply isy_load; exact q_lio 0 rfl rfl rfl rfl hx2) | (apply isy_indexAddr; exact q_ixo 1 rfl rfl rfl rfl rfl) | fail) | (refine isx_call ?_; refine k_callT (spoil_own x.r.A x.r.n x.r.c _ x.r.l (by omega) hfx.1) [_, _, _, _, _, _] (((xs.drop (i + 1)).map MS.body ++ sbods ss)) rfl [5] [5] [0, 1, 2, 3, 4] rfl rfl rfl rfl rfl rfl rfl rfl ?_; rintro v_ Lo_ ⟨rfl, rfl⟩) | (refine isx_store ?_; refine gSI 1 rfl rfl rfl rfl rfl rfl rfl rfl rfl (hfit) rfl ?_) | refine wz ?_ | (refine wzb ?_; intro b_) | fail)
      refine ⟨⟨i + 1, by omega⟩, ⟨rfl, rfl, rfl, rfl, rfl, rfl, slot_int (by dsimp only; omega), trivial⟩, ?_, by dsimp only; omega⟩
      dsimp only
      rw [← hput]
      exact Gives.pre [_, _, _, _, _, _] [1, 2, 3, 4, 5] (by decide) rfl rfl
    · repeat (first | refine wz ?_ | (refine wzb ?_; intro b_) | fail)
      exact ⟨⟨t + 1, by omega⟩, ⟨rfl, rfl, rfl, rfl, slot_int (by dsimp only; omega), trivial⟩, Gives.trans (Gives.pre [_, _, _, _, _] [1, 2, 3, 4] (by decide) rfl rfl) (Gives.sub (List.Sublist.append_left (List.sublist_append_right _ _) _)), by dsimp only; omega⟩
  · repeat (first | (refine isx_call ?_; refine k_gcall (works_fn) (fun _ hm => in_nil hm) rfl rfl rfl rfl rfl rfl ?_) | refine wz ?_ | (refine wzb ?_; intro b_) | fail)
    exact bq_ret (ret_tmp rfl rfl) [] (Gives.nil _) rfl ⟨rfl, rfl⟩
end Go.Proofs.YtmochicneilhhaaGreat.sc
