/- scripts: the writer's steps. -/
import Derived.Test.YtmochicneilhhaaGreatPGo
import Derived.Test.YtmochicneilhhaaGreatPTo
namespace Go.Proofs.YtmochicneilhhaaGreat.sc
open Go.RowKit Go.Proofs.YtmochicneilhhaaGreat.kit Go.Proofs.YtmochicneilhhaaGreat.pk Go.Proofs.YtmochicneilhhaaGreat.rq Go.Proofs.YtmochicneilhhaaGreat.ev Go.Proofs.YtmochicneilhhaaGreat.win
/-- the request whose frame some bytes are -/
def askedQ (l : List B8) : Option RQ :=
  if (fr.takeF l 0).2.2 = 0 ∧ (fr.takeF l 0).2.1 = (l.length : Nat) then (if (parseQ (fr.takeF l 0).1).2 = 0 then some (parseQ (fr.takeF l 0).1).1 else none) else none
def wraw (x : SP) (w : Wt) : Wt := ((wput (x.bs.length : Nat) 16 (w.1 ++ [4#8, BitVec.ofInt 8 x.cl], w.2)).1 ++ x.bs, (wput (x.bs.length : Nat) 16 (w.1 ++ [4#8, BitVec.ofInt 8 x.cl], w.2)).2)
def wask (r : RQ) (cl : Int) : Wt := wreq r ([5#8, BitVec.ofInt 8 cl], false)
def wfeed (x : SP) (w : Wt) : Wt := match askedQ x.bs with
  | some r => if (wask r x.cl).2 then wraw x w else (w.1 ++ (wask r x.cl).1, w.2)
  | none => wraw x w
def wvalue (v : Int) (w : Wt) : Wt := if v = 9223372036854775807 then wsmall 127 w else if v = -9223372036854775808 then wsmall (-128) w else wsmall v (w.1, (w.2 || v == 127) || v == -128)
def wop (o : EOp) (w : Wt) : Wt := if o.k = 1#8 then wvalue o.v (wsmall o.t (wletter o.key (w.1 ++ [9#8], w.2))) else wsmall o.t (w.1 ++ [12#8], w.2)
def blankQ (x : SP) : SP :=
  if x.k = 1#8 then ⟨x.k, x.cl, x.bs, zeroO, 0#64⟩ else if x.k = 2#8 ∨ x.k = 3#8 then ⟨x.k, x.cl, [], zeroO, 0#64⟩ else if x.k = 4#8 then ⟨x.k, 0, [], x.op, 0#64⟩ else if x.k = 6#8 then ⟨x.k, 0, [], zeroO, x.by_⟩ else ⟨x.k, 0, [], zeroO, 0#64⟩
def wstep (n : Int) (w : Wt) (x : SP) : Wt :=
  if (decide (x.cl < 0) || decide (x.cl ≥ n)) || !(x.eqB (blankQ x)) then (w.1, true)
  else if x.k = 1#8 then wfeed x w
  else if x.k = 2#8 then (w.1 ++ [2#8, BitVec.ofInt 8 x.cl], w.2)
  else if x.k = 3#8 then (w.1 ++ [0#8, BitVec.ofInt 8 x.cl], w.2)
  else if x.k = 4#8 then wop x.op (w.1, w.2 || x.op.right != 0)
  else if x.k = 5#8 then (w.1 ++ [13#8], w.2)
  else if x.k = 7#8 then (w.1 ++ [15#8], w.2)
  else if x.k = 6#8 then wnumber x.by_ 256 (w.1 ++ [14#8], w.2)
  else (w.1, true)
theorem wraw_len (x : SP) (w : Wt) : (wraw x w).1.length = w.1.length + 3 + x.bs.length := by
  unfold wraw
  rw [List.length_append, wput_len, List.length_append]
  rfl
theorem wask_len (r : RQ) (cl : Int) : (wask r cl).1.length ≤ 13 := wreq_len r _
theorem wfeed_len (x : SP) (w : Wt) : (wfeed x w).1.length ≤ w.1.length + 20 + x.bs.length := by
  unfold wfeed
  have h1 := wraw_len x w
  split
  · rename_i r _
    have h2 := wask_len r x.cl
    split
    · omega
    · rw [List.length_append]; omega
  · omega
theorem wvalue_len (v : Int) (w : Wt) : (wvalue v w).1.length = w.1.length + 1 := by
  unfold wvalue
  split
  · exact wsmall_len _ _
  · split <;> exact wsmall_len _ _
theorem wop_len (o : EOp) (w : Wt) : (wop o w).1.length ≤ w.1.length + 4 := by
  unfold wop
  split
  · have h := wletter_len o.key (w.1 ++ [9#8], w.2)
    rw [List.length_append, List.length_singleton] at h
    rw [wvalue_len, wsmall_len]
    omega
  · rw [wsmall_len, List.length_append, List.length_singleton]; omega
theorem wstep_len (n : Int) (w : Wt) (x : SP) : (wstep n w x).1.length ≤ w.1.length + 20 + x.bs.length := by
  unfold wstep
  have h1 := wfeed_len x w
  have h2 := wop_len x.op (w.1, w.2 || x.op.right != 0)
  have h3 : (wnumber x.by_ 256 (w.1 ++ [14#8], w.2)).1.length = w.1.length + 2 := by unfold wnumber; rw [wput_len, List.length_append]; rfl
  dsimp only at h2
  (repeat' split) <;> first | omega | (dsimp only; omega) | (dsimp only; rw [List.length_append]; simp only [List.length_cons, List.length_nil]; omega)
attribute [local irreducible] LX CX Yl Gives RetIs Fn
attribute [local irreducible] be de fr.frm fr.takeF
set_option maxHeartbeats 4000000 in
theorem asked_fn (A : Option Addr) (n c : Nat) (l : List B8) (hl : l.length = n) (hc : n ≤ c ∧ c ≤ 9223372036854775807) (hn : n ≤ 1000000) : Fn Tryz.prog 116 [.slice A n c] [.ro A n 1 (bvs l)] []
    fun v Lo => (∃ q : RQ, ∃ b : Bool, v = .tuple #[q.val, .bool b] ∧ askedQ l = (if b then some q else none)) ∧ Lo = [] := by
  have ht := fr.take_fn A n c l 0 hl hc hn (by decide)
  have hle := fr.takeF_le (l := l) (at' := 0)
  unfold askedQ
  unfold fr.TakeP at ht
  generalize fr.takeF l 0 = T at *
  obtain ⟨bd, nx, e⟩ := T
  dsimp only at ht hle ⊢
  by_cases he : e = 0 ∧ nx = (l.length : Nat)
  · rw [if_pos he]
    obtain ⟨rfl, hx⟩ := he
    have h1 : (nx != (n : Nat)) = false := by rw [hx, hl]; exact bne_self_eq_false _
    refine fn_enter Tryz.func116 rfl rfl (by kernel_rfl) rfl ?_; intro w0
    repeat (first | ((first | (apply lx_gt; exact rfl; exact rfl; exact rfl) | (apply lx_u; exact rfl) | (apply lx_g; exact rfl; exact rfl)); first | (apply isy_bin_neq; exact yl_false (yl_op (E := EV) rfl) (fun _ => rfl)) | (apply isy_bin_neq; exact yl_false (yl_op (E := EV) rfl) (fun _ => h1)) | fail) | (refine isx_call ?_; (refine isx_call ?_; refine lx_call0 (ht) ((fun w hm => in_ro (row_ro 1 rfl hm) (in_nil hm) rfl)) rfl rfl rfl rfl rfl rfl rfl rfl ?_; rintro v_ Lo_ ⟨A2, c2, rfl, rfl⟩)) | refine wzf ?_ | (refine wzb ?_; intro b_) | fail)
    refine cx_cond rfl (fun h => absurd h (by decide)) (fun _ => ?_)
    refine cx_fact (fun w hm => own_cap 0 hm rfl) fun hco => ?_
    have hp := parse_fn A2 bd.length c2 bd rfl (by omega) hco.1
    generalize hq : parseQ bd = p at *
    obtain ⟨q, e2⟩ := p
    dsimp only at hp ⊢
    repeat (first | (refine isx_call ?_; refine k_gcall (hp) ((fun w hm => own_ro 0 hm rfl)) rfl rfl rfl rfl rfl rfl ?_) | refine wz ?_ | (refine wzb ?_; intro b_) | fail)
    exact bq_ret (ret_cell_tmp (E := EV) 2 rfl rfl rfl rfl rfl (fun _ => Nat.le_of_ble_eq_true rfl) rfl) [] (Gives.nil _) rfl ⟨⟨q, e2 == 0, rfl, by simp⟩, rfl⟩
  · rw [if_neg he]
    have hne : ((e != 0) || (nx != (n : Nat))) = true := by
      rw [Bool.or_eq_true, bne_iff_ne, bne_iff_ne]
      by_cases h0 : e = 0
      · exact .inr fun h => he ⟨h0, by rw [h, hl]⟩
      · exact .inl h0
    refine fn_enter Tryz.func116 rfl rfl (by kernel_rfl) rfl ?_; intro w0
    repeat (first | (refine isx_call ?_; (refine isx_call ?_; refine lx_call0 (ht) ((fun w hm => in_ro (row_ro 1 rfl hm) (in_nil hm) rfl)) rfl rfl rfl rfl rfl rfl rfl rfl ?_; rintro v_ Lo_ ⟨A2, c2, rfl, rfl⟩)) | refine wz ?_ | (refine wzb ?_; intro b_) | fail)
    refine cx_cond rfl (fun _ => ?_) (fun h => absurd h (by rw [hne]; decide))
    repeat (first | refine wz ?_ | (refine wzb ?_; intro b_) | fail)
    exact bq_ret (ret_cell_tmp (E := EV) 1 rfl rfl rfl rfl rfl (fun _ => Nat.le_of_ble_eq_true rfl) rfl) [] (Gives.nil _) rfl ⟨⟨zeroQ, false, rfl, rfl⟩, rfl⟩
theorem parse_right {l : List B8} (h : (parseQ l).2 = 0) : (parseQ l).1.right = true := by
  unfold parseQ at h ⊢
  split
  · rename_i h1; rw [if_pos h1] at h; cases h
  · rename_i h1
    rw [if_neg h1] at h
    split
    · rename_i h2; rw [if_pos h2] at h; exact absurd h h2
    · rename_i h2
      rw [if_neg h2] at h
      split
      · rename_i h3; exact h3
      · rename_i h3; rw [if_neg h3] at h; cases h
theorem asked_right {l : List B8} {q : RQ} (h : askedQ l = some q) : q.right = true := by
  unfold askedQ at h
  split at h
  · split at h
    · rename_i h2
      cases h
      exact parse_right h2
    · cases h
  · cases h
section
variable (bw : Nat) (A : Option Addr) (c : Nat) (w : Wt)
set_option maxRecDepth 100000 in
set_option maxHeartbeats 8000000 in
theorem wfeed_fn (hw : w.1.length ≤ 7000000000000) (x : MS) (hx : x.r.l.length = x.r.n) (hc : x.r.n ≤ x.r.c ∧ x.r.c ≤ 9223372036854775807) (hn : x.r.n ≤ 1000000) : Fn Tryz.prog 92 [.pointer (some ⟨bw, 0, none⟩), x.val] (wrB bw A c w ++ [.ro x.r.A x.r.n 1 (bvs x.r.l)]) (wD bw A) (WP bw (wfeed x.sp w)) := by
  have ha := asked_fn x.r.A x.r.n x.r.c x.r.l hx hc hn
  obtain ⟨u, bad⟩ := w
  dsimp only at hw
  refine fn_enter Tryz.func92 rfl rfl (by kernel_rfl) rfl ?_
  intro w0
  repeat (first | (refine isx_call ?_; (refine isx_call ?_; refine lx_call0 (ha) ((fun w hm => in_ro (row_ro 3 rfl hm) (in_nil hm) rfl)) rfl rfl rfl rfl rfl rfl rfl rfl ?_; rintro v_ Lo_ ⟨⟨q, bb, rfl, hq⟩, rfl⟩)) | refine wz ?_ | (refine wzb ?_; intro b_) | fail)
  rename_i b3
  generalize b_ = b4
  refine cx_to (α := { _u : Unit // wfeed x.sp (u, bad) = wraw x.sp (u, bad) }) (fun _ => [(0, none, .pointer (some ⟨bw, 0, none⟩)), (3, none, .pointer (some ⟨b3, 0, none⟩))]) (fun _ => [.blk b3 x.cells 47, .blk bw [.slice A u.length c, .bool bad] 109, .own A u.length c 5 1 (bvs u), .ro x.r.A x.r.n 1 (bvs x.r.l)]) ?_ ?_
  · cases bb with
    | false =>
      refine cx_cond rfl (fun h => absurd h (by decide)) (fun _ => ?_)
      repeat (first | refine wz ?_ | (refine wzb ?_; intro b_) | fail)
      refine ⟨⟨(), ?_⟩, ⟨rfl, rfl, trivial⟩, Gives.pick [1, 2, 3, 4] (by decide) rfl⟩
      unfold wfeed
      rw [show askedQ x.sp.bs = none from hq]
    | true =>
      have hk := (right_known (asked_right (q := q) hq)).2
      have hfe : wfeed x.sp (u, bad) = if (wask q x.cl).2 then wraw x.sp (u, bad) else (u ++ (wask q x.cl).1, bad) := by
        unfold wfeed
        rw [show askedQ x.sp.bs = some q from hq]
        rfl
      have hal := wask_len q x.cl
      have hwr := fun b6 A6 c6 => wreq_fn b6 A6 c6 ([5#8, BitVec.ofInt 8 x.cl], false) (by simp) q hk
      unfold wask at hfe hal
      rw [hfe]
      generalize wreq q ([5#8, BitVec.ofInt 8 x.cl], false) = v at *
      obtain ⟨vb, vbad⟩ := v
      dsimp only at hal
      refine cx_cond rfl (fun _ => ?_) (fun h => absurd h (by decide))
      repeat (first | ((first | (apply lx_u; exact rfl) | (apply lx_g; exact rfl; exact rfl)); first | (apply isy_convert; exact q_ci uk8 rfl rfl rfl) | fail) | refine wz ?_ | (refine wzb ?_; intro b_) | fail)
      refine lx_weak (Gives.blkown (m := 2) (sz := 1) 1 rfl rfl (by decide)) ?_
      rename_i bs hh
      generalize b_ = b6
      repeat (first | (refine isx_call ?_; refine k_call ((hwr b6 (some ⟨_, 0, none⟩) 2)) [0, 1] [0, 1] [2, 3, 4, 5, 6] rfl rfl rfl rfl rfl rfl rfl rfl ?_ (hin := allD_bd _ _ _ _ _ _ _) (hD := onD_bd _ _ _ _ _ _ _); rintro v_ Lo_ ⟨A_, c_, rfl, rfl⟩) | refine wz ?_ | (refine wzb ?_; intro b_) | fail)
      cases vbad with
      | true =>
        refine cx_cond rfl (fun h => absurd h (by simp)) (fun _ => ?_)
        repeat (first | refine wz ?_ | (refine wzb ?_; intro b_) | fail)
        exact ⟨⟨(), rfl⟩, ⟨rfl, rfl, trivial⟩, Gives.pick [3, 4, 5, 6] (by decide) rfl⟩
      | false =>
        refine cx_cond rfl (fun _ => ?_) (fun h => absurd h (by simp))
        repeat (first | refine wz ?_ | (refine wzb ?_; intro b_) | fail)
        refine cx_drawZ 12 [9] [.blk bw [.slice A u.length c, .bool bad] 109, .blk b6 [.slice A_ vb.length c_, .bool false] 109] rfl (by kernel_rfl) (by kernel_rfl) (Gives.pick [4, 0] (by decide) rfl) ?_
        repeat (first | (refine isx_blt ?_; refine lx_appB (E := EV) 5 u vb rfl rfl rfl rfl rfl rfl rfl rfl rfl rfl rfl rfl rfl (fun w hm => row_own 1 rfl hm) (by simp only [List.length_append, pk.be_len, pk.txt_len, List.length_cons, List.length_nil]; omega) (fun _ _ _ => Gives.pick [4, 0] (by decide) rfl) ?_; intro A_ c_) | refine wz ?_ | (refine wzb ?_; intro b_) | fail)
        refine cut_n ?_
        repeat (first | (refine isx_store ?_; refine gS 4 rfl rfl rfl rfl rfl rfl rfl rfl rfl rfl ?_) | refine wz ?_ | (refine wzb ?_; intro b_) | fail)
        exact bq_ret (ret_none rfl) [_, _] (Gives.pick [4, 5] (by decide) rfl) rfl ⟨_, _, rfl, rfl⟩
  · rintro ⟨_, hfe⟩
    have hwp := fun A' c' => wput_fn bw A' c' (u ++ [4#8, BitVec.ofInt 8 x.cl], bad) (by rw [List.length_append]; show u.length + 2 ≤ _; omega) (x.r.n : Nat) 16
    have hlb : x.sp.bs.length = x.r.n := hx
    have e1 : x.sp.cl = x.cl := rfl
    have e2 : x.sp.bs = x.r.l := rfl
    have hl3 : (wput (x.r.n : Nat) 16 (u ++ [4#8, BitVec.ofInt 8 x.cl], bad)).1.length = u.length + 2 + 1 := by rw [wput_len, List.length_append]; rfl
    unfold wraw at hfe
    rw [hlb, e1, e2] at hfe
    dsimp only at hfe
    rw [hfe]
    clear hfe
    generalize wput (x.r.n : Nat) 16 (u ++ [4#8, BitVec.ofInt 8 x.cl], bad) = w1 at *
    obtain ⟨u1, bad1⟩ := w1
    dsimp only at hl3
    repeat (first | refine wz ?_ | (refine wzb ?_; intro b_) | fail)
    refine cx_drawZ 12 [8, 9] [.blk bw [.slice A u.length c, .bool bad] 109, .blk b3 x.cells 47] rfl (by kernel_rfl) (by kernel_rfl) (Gives.pick [1, 0] (by decide) rfl) ?_
    repeat (first | ((first | (apply lx_u; exact rfl) | (apply lx_g; exact rfl; exact rfl)); first | (apply isy_convert; exact q_ci uk8 rfl rfl rfl) | fail) | (refine isx_blt ?_; refine lx_appB (E := EV) 3 u [4#8, BitVec.ofInt 8 x.cl] rfl rfl rfl rfl rfl rfl rfl rfl rfl rfl rfl rfl rfl (fun w hm => row_blk 0 rfl rfl hm) (by simp only [List.length_append, pk.be_len, pk.txt_len, List.length_cons, List.length_nil]; omega) (fun _ _ _ => Gives.pick [2, 1] (by decide) rfl) ?_; intro A_ c_) | refine wz ?_ | (refine wzb ?_; intro b_) | fail)
    refine cut_n ?_
    repeat (first | (refine isx_store ?_; refine gS 2 rfl rfl rfl rfl rfl rfl rfl rfl rfl rfl ?_) | (refine isx_call ?_; refine k_call ((hwp _ _)) [2, 3] [2, 3] [1, 4] rfl rfl rfl rfl rfl rfl rfl rfl ?_ (hin := allD_bd _ _ _ _ _ _ _) (hD := onD_bd _ _ _ _ _ _ _); rintro v_ Lo_ ⟨A_, c_, rfl, rfl⟩) | refine wz ?_ | (refine wzb ?_; intro b_) | fail)
    refine cx_drawZ 10 [7] [.blk bw [.slice A_ u1.length c_, .bool bad1] 109, .blk b3 x.cells 47] rfl (by kernel_rfl) (by kernel_rfl) (Gives.pick [0, 2] (by decide) rfl) ?_
    repeat (first | (refine isx_blt ?_; refine lx_appB (E := EV) 1 u1 x.r.l rfl hx.symm rfl rfl rfl rfl rfl rfl rfl rfl rfl rfl rfl (fun w hm => row_ro 3 rfl hm) (by simp only [List.length_append, pk.be_len, pk.txt_len, List.length_cons, List.length_nil]; omega) (fun _ _ _ => Gives.pick [0, 2] (by decide) rfl) ?_; intro A_ c_) | refine wz ?_ | (refine wzb ?_; intro b_) | fail)
    exact bq_end (ret_none rfl) [_, _] (Gives.pick [0, 1] (by decide) rfl) rfl ⟨_, _, rfl, rfl⟩
set_option maxRecDepth 100000 in
set_option maxHeartbeats 8000000 in
theorem wop_fn (hw : w.1.length ≤ 7000000000000) (o : EOp) : Fn Tryz.prog 93 [.pointer (some ⟨bw, 0, none⟩), o.val] (wrB bw A c w) (wD bw A) (WP bw (wop o w)) := by
  obtain ⟨u, bad⟩ := w
  dsimp only at hw
  unfold wop
  by_cases hk : o.k = 1#8
  · rw [if_pos hk]
    have g1 : (o.k != 1#8) = false := by rw [hk]; rfl
    have h1 := fun A' c' => wletter_fn bw A' c' (u ++ [9#8], bad) (by rw [List.length_append]; show u.length + 1 ≤ _; omega) o.key
    have l1 := wletter_len o.key (u ++ [9#8], bad)
    rw [List.length_append, List.length_singleton] at l1
    generalize wletter o.key (u ++ [9#8], bad) = w1 at *
    have h2 := fun A' c' => wsmall_fn bw A' c' w1 (by omega) o.t
    have l2 := wsmall_len o.t w1
    generalize wsmall o.t w1 = w2 at *
    obtain ⟨u2, bad2⟩ := w2
    dsimp only at l2
    unfold wvalue
    by_cases e1 : o.v = 9223372036854775807
    · rw [if_pos e1]
      have g2 : (o.v == 9223372036854775807) = true := by rw [e1]; rfl
      have h3 := fun A' c' => wsmall_fn bw A' c' (u2, bad2) (by dsimp only; omega) 127
      refine fn_enter Tryz.func93 rfl rfl (by kernel_rfl) rfl ?_; intro w0
      repeat (first | ((first | (apply lx_gt; exact rfl; exact rfl; exact rfl) | (apply lx_u; exact rfl) | (apply lx_g; exact rfl; exact rfl)); first | (apply isy_bin_neq; exact yl_false (q_bne o.k 1#8 rfl rfl rfl rfl) (fun _ => g1)) | fail) | refine wzf ?_ | (refine wzb ?_; intro b_) | fail)
      refine cx_cond rfl (fun h => absurd h (by decide)) (fun _ => ?_)
      repeat (first | ((first | (apply lx_gt; exact rfl; exact rfl; exact rfl) | (apply lx_u; exact rfl) | (apply lx_g; exact rfl; exact rfl)); first | (apply isy_bin_eql; exact yl_true (yl_op (E := EV) rfl) (fun _ => g2)) | fail) | (refine isx_blt ?_; refine lx_appB (E := EV) 3 u [9#8] rfl rfl rfl rfl rfl rfl rfl rfl rfl rfl rfl rfl rfl (fun w hm => row_blk 0 rfl rfl hm) (by simp only [List.length_append, pk.be_len, pk.txt_len, List.length_cons, List.length_nil]; omega) (fun _ _ _ => trivial) ?_; intro A_ c_) | (refine isx_call ?_; refine k_call ((h1 _ _)) [2, 3] [2, 3] [1] rfl rfl rfl rfl rfl rfl rfl rfl ?_ (hin := allD_bd _ _ _ _ _ _ _) (hD := onD_bd _ _ _ _ _ _ _); rintro v_ Lo_ ⟨A_, c_, rfl, rfl⟩) | (refine isx_call ?_; refine k_call ((h2 _ _)) [0, 1] [0, 1] [2] rfl rfl rfl rfl rfl rfl rfl rfl ?_ (hin := allD_bd _ _ _ _ _ _ _) (hD := onD_bd _ _ _ _ _ _ _); rintro v_ Lo_ ⟨A_, c_, rfl, rfl⟩) | refine wzf ?_ | (refine wzb ?_; intro b_) | fail)
      refine cx_cond rfl (fun _ => ?_) (fun h => absurd h (by decide))
      repeat (first | (refine isx_call ?_; refine k_call ((h3 _ _)) [0, 1] [0, 1] [2] rfl rfl rfl rfl rfl rfl rfl rfl ?_ (hin := allD_bd _ _ _ _ _ _ _) (hD := onD_bd _ _ _ _ _ _ _); rintro v_ Lo_ ⟨A_, c_, rfl, rfl⟩) | refine wz ?_ | (refine wzb ?_; intro b_) | fail)
      exact bq_end (ret_none rfl) [_, _] (Gives.pick [0, 1] (by decide) rfl) rfl ⟨_, _, rfl, rfl⟩
    rw [if_neg e1]
    have g2 : (o.v == 9223372036854775807) = false := by rw [beq_eq_false_iff_ne]; exact e1
    by_cases e2 : o.v = -9223372036854775808
    · rw [if_pos e2]
      have g3 : (o.v == -9223372036854775808) = true := by rw [e2]; rfl
      have h3 := fun A' c' => wsmall_fn bw A' c' (u2, bad2) (by dsimp only; omega) (-128)
      refine fn_enter Tryz.func93 rfl rfl (by kernel_rfl) rfl ?_; intro w0
      repeat (first | ((first | (apply lx_gt; exact rfl; exact rfl; exact rfl) | (apply lx_u; exact rfl) | (apply lx_g; exact rfl; exact rfl)); first | (apply isy_bin_neq; exact yl_false (q_bne o.k 1#8 rfl rfl rfl rfl) (fun _ => g1)) | fail) | refine wzf ?_ | (refine wzb ?_; intro b_) | fail)
      refine cx_cond rfl (fun h => absurd h (by decide)) (fun _ => ?_)
      repeat (first | ((first | (apply lx_gt; exact rfl; exact rfl; exact rfl) | (apply lx_u; exact rfl) | (apply lx_g; exact rfl; exact rfl)); first | (apply isy_bin_eql; exact yl_false (yl_op (E := EV) rfl) (fun _ => g2)) | fail) | (refine isx_blt ?_; refine lx_appB (E := EV) 3 u [9#8] rfl rfl rfl rfl rfl rfl rfl rfl rfl rfl rfl rfl rfl (fun w hm => row_blk 0 rfl rfl hm) (by simp only [List.length_append, pk.be_len, pk.txt_len, List.length_cons, List.length_nil]; omega) (fun _ _ _ => trivial) ?_; intro A_ c_) | (refine isx_call ?_; refine k_call ((h1 _ _)) [2, 3] [2, 3] [1] rfl rfl rfl rfl rfl rfl rfl rfl ?_ (hin := allD_bd _ _ _ _ _ _ _) (hD := onD_bd _ _ _ _ _ _ _); rintro v_ Lo_ ⟨A_, c_, rfl, rfl⟩) | (refine isx_call ?_; refine k_call ((h2 _ _)) [0, 1] [0, 1] [2] rfl rfl rfl rfl rfl rfl rfl rfl ?_ (hin := allD_bd _ _ _ _ _ _ _) (hD := onD_bd _ _ _ _ _ _ _); rintro v_ Lo_ ⟨A_, c_, rfl, rfl⟩) | refine wzf ?_ | (refine wzb ?_; intro b_) | fail)
      refine cx_cond rfl (fun h => absurd h (by decide)) (fun _ => ?_)
      repeat (first | ((first | (apply lx_gt; exact rfl; exact rfl; exact rfl) | (apply lx_u; exact rfl) | (apply lx_g; exact rfl; exact rfl)); first | (apply isy_bin_eql; exact yl_true (yl_op (E := EV) rfl) (fun _ => g3)) | fail) | refine wzf ?_ | (refine wzb ?_; intro b_) | fail)
      refine cx_cond rfl (fun _ => ?_) (fun h => absurd h (by decide))
      repeat (first | (refine isx_call ?_; refine k_call ((h3 _ _)) [0, 1] [0, 1] [2] rfl rfl rfl rfl rfl rfl rfl rfl ?_ (hin := allD_bd _ _ _ _ _ _ _) (hD := onD_bd _ _ _ _ _ _ _); rintro v_ Lo_ ⟨A_, c_, rfl, rfl⟩) | refine wz ?_ | (refine wzb ?_; intro b_) | fail)
      exact bq_end (ret_none rfl) [_, _] (Gives.pick [0, 1] (by decide) rfl) rfl ⟨_, _, rfl, rfl⟩
    · rw [if_neg e2]
      have g3 : (o.v == -9223372036854775808) = false := by rw [beq_eq_false_iff_ne]; exact e2
      have h3 := fun A' c' => wsmall_fn bw A' c' (u2, (bad2 || o.v == 127) || o.v == -128) (by dsimp only; omega) o.v
      refine fn_enter Tryz.func93 rfl rfl (by kernel_rfl) rfl ?_; intro w0
      repeat (first | ((first | (apply lx_gt; exact rfl; exact rfl; exact rfl) | (apply lx_u; exact rfl) | (apply lx_g; exact rfl; exact rfl)); first | (apply isy_bin_neq; exact yl_false (q_bne o.k 1#8 rfl rfl rfl rfl) (fun _ => g1)) | fail) | refine wzf ?_ | (refine wzb ?_; intro b_) | fail)
      refine cx_cond rfl (fun h => absurd h (by decide)) (fun _ => ?_)
      repeat (first | ((first | (apply lx_gt; exact rfl; exact rfl; exact rfl) | (apply lx_u; exact rfl) | (apply lx_g; exact rfl; exact rfl)); first | (apply isy_bin_eql; exact yl_false (yl_op (E := EV) rfl) (fun _ => g2)) | fail) | (refine isx_blt ?_; refine lx_appB (E := EV) 3 u [9#8] rfl rfl rfl rfl rfl rfl rfl rfl rfl rfl rfl rfl rfl (fun w hm => row_blk 0 rfl rfl hm) (by simp only [List.length_append, pk.be_len, pk.txt_len, List.length_cons, List.length_nil]; omega) (fun _ _ _ => trivial) ?_; intro A_ c_) | (refine isx_call ?_; refine k_call ((h1 _ _)) [2, 3] [2, 3] [1] rfl rfl rfl rfl rfl rfl rfl rfl ?_ (hin := allD_bd _ _ _ _ _ _ _) (hD := onD_bd _ _ _ _ _ _ _); rintro v_ Lo_ ⟨A_, c_, rfl, rfl⟩) | (refine isx_call ?_; refine k_call ((h2 _ _)) [0, 1] [0, 1] [2] rfl rfl rfl rfl rfl rfl rfl rfl ?_ (hin := allD_bd _ _ _ _ _ _ _) (hD := onD_bd _ _ _ _ _ _ _); rintro v_ Lo_ ⟨A_, c_, rfl, rfl⟩) | refine wzf ?_ | (refine wzb ?_; intro b_) | fail)
      refine cx_cond rfl (fun h => absurd h (by decide)) (fun _ => ?_)
      repeat (first | ((first | (apply lx_gt; exact rfl; exact rfl; exact rfl) | (apply lx_u; exact rfl) | (apply lx_g; exact rfl; exact rfl)); first | (apply isy_bin_eql; exact yl_false (yl_op (E := EV) rfl) (fun _ => g3)) | fail) | refine wzf ?_ | (refine wzb ?_; intro b_) | fail)
      refine cx_cond rfl (fun h => absurd h (by decide)) (fun _ => ?_)
      repeat (first | (refine isx_call ?_; refine k_call ((h3 _ _)) [0, 1] [0, 1] [2] rfl rfl rfl rfl rfl rfl rfl rfl ?_ (hin := allD_bd _ _ _ _ _ _ _) (hD := onD_bd _ _ _ _ _ _ _); rintro v_ Lo_ ⟨A_, c_, rfl, rfl⟩) | refine wz ?_ | (refine wzb ?_; intro b_) | fail)
      exact bq_end (ret_none rfl) [_, _] (Gives.pick [0, 1] (by decide) rfl) rfl ⟨_, _, rfl, rfl⟩
  · rw [if_neg hk]
    have g1 : (o.k != 1#8) = true := by rw [bne_iff_ne]; exact hk
    have h1 := fun A' c' => wsmall_fn bw A' c' (u ++ [12#8], bad) (by rw [List.length_append]; show u.length + 1 ≤ _; omega) o.t
    refine fn_enter Tryz.func93 rfl rfl (by kernel_rfl) rfl ?_; intro w0
    repeat (first | ((first | (apply lx_gt; exact rfl; exact rfl; exact rfl) | (apply lx_u; exact rfl) | (apply lx_g; exact rfl; exact rfl)); first | (apply isy_bin_neq; exact yl_true (q_bne o.k 1#8 rfl rfl rfl rfl) (fun _ => g1)) | fail) | refine wzf ?_ | (refine wzb ?_; intro b_) | fail)
    refine cx_cond rfl (fun _ => ?_) (fun h => absurd h (by decide))
    repeat (first | (refine isx_blt ?_; refine lx_appB (E := EV) 3 u [12#8] rfl rfl rfl rfl rfl rfl rfl rfl rfl rfl rfl rfl rfl (fun w hm => row_blk 0 rfl rfl hm) (by simp only [List.length_append, pk.be_len, pk.txt_len, List.length_cons, List.length_nil]; omega) (fun _ _ _ => trivial) ?_; intro A_ c_) | (refine isx_call ?_; refine k_call ((h1 _ _)) [2, 3] [2, 3] [1] rfl rfl rfl rfl rfl rfl rfl rfl ?_ (hin := allD_bd _ _ _ _ _ _ _) (hD := onD_bd _ _ _ _ _ _ _); rintro v_ Lo_ ⟨A_, c_, rfl, rfl⟩) | refine wz ?_ | (refine wzb ?_; intro b_) | fail)
    exact bq_ret (ret_none rfl) [_, _] (Gives.pick [0, 1] (by decide) rfl) rfl ⟨_, _, rfl, rfl⟩
end
/-- a step with the parts of its kind alone, as it lies in memory -/
def blankM (x : MS) : MS :=
  if x.k = 1#8 then ⟨x.k, x.cl, x.r, zeroO, 0#64⟩ else if x.k = 2#8 ∨ x.k = 3#8 then ⟨x.k, x.cl, nilr, zeroO, 0#64⟩ else if x.k = 4#8 then ⟨x.k, 0, nilr, x.op, 0#64⟩ else if x.k = 6#8 then ⟨x.k, 0, nilr, zeroO, x.by_⟩ else ⟨x.k, 0, nilr, zeroO, 0#64⟩
theorem blankM_sp (x : MS) : (blankM x).sp = blankQ x.sp := by
  unfold blankM blankQ
  show _ = if x.k = 1#8 then _ else if x.k = 2#8 ∨ x.k = 3#8 then _ else if x.k = 4#8 then _ else if x.k = 6#8 then _ else _
  (repeat' split) <;> rfl
theorem blankM_r (x : MS) : (blankM x).r = x.r ∨ (blankM x).r = nilr := by
  unfold blankM
  (repeat' split) <;> first | exact .inl rfl | exact .inr rfl
set_option maxRecDepth 100000 in
set_option maxHeartbeats 8000000 in
theorem blank_fn (x : MS) : Fn Tryz.prog 91 [x.val] [] [] fun v Lo => v = (blankM x).val ∧ Lo = [] := by
  unfold blankM
  by_cases e1 : x.k = 1#8
  · rw [if_pos e1]
    have g1 : (x.k == 1#8) = true := by rw [e1]; rfl
    refine fn_enter Tryz.func91 rfl rfl (by kernel_rfl) rfl ?_; intro w0
    repeat (first | ((first | (apply lx_gt; exact rfl; exact rfl; exact rfl) | (apply lx_u; exact rfl) | (apply lx_g; exact rfl; exact rfl)); first | (apply isy_bin_eql; exact yl_true (q_beq x.k 1#8 rfl rfl rfl rfl) (fun _ => g1)) | fail) | refine wzf ?_ | (refine wzb ?_; intro b_) | fail)
    refine cx_cond rfl (fun _ => ?_) (fun h => absurd h (by decide))
    repeat (first | refine wz ?_ | (refine wzb ?_; intro b_) | fail)
    rename_i b1 b2 hh
    refine cx_draw [5, 7] [.blk b1 x.cells 47] rfl (by kernel_rfl) (Gives.pick [2] (by decide) rfl) ?_
    repeat (first | (refine isx_store ?_; refine gS 0 rfl rfl rfl rfl rfl rfl rfl rfl rfl rfl ?_ (hgs := fun _ => Gives.pick [2] (by decide) rfl)) | refine wz ?_ | (refine wzb ?_; intro b_) | fail)
    exact bq_ret (ret_cell (E := EV) 1 rfl rfl rfl rfl (fun _ => Nat.le_of_ble_eq_true rfl) rfl) [] (Gives.nil _) rfl ⟨rfl, rfl⟩
  rw [if_neg e1]
  have g1 : (x.k == 1#8) = false := by rw [beq_eq_false_iff_ne]; exact e1
  by_cases e2 : x.k = 2#8
  · rw [if_pos (.inl e2)]
    have g2 : (x.k == 2#8) = true := by rw [e2]; rfl
    refine fn_enter Tryz.func91 rfl rfl (by kernel_rfl) rfl ?_; intro w0
    repeat (first | ((first | (apply lx_gt; exact rfl; exact rfl; exact rfl) | (apply lx_u; exact rfl) | (apply lx_g; exact rfl; exact rfl)); first | (apply isy_bin_eql; exact yl_false (q_beq x.k 1#8 rfl rfl rfl rfl) (fun _ => g1)) | fail) | refine wzf ?_ | (refine wzb ?_; intro b_) | fail)
    refine cx_cond rfl (fun h => absurd h (by decide)) (fun _ => ?_)
    repeat (first | ((first | (apply lx_gt; exact rfl; exact rfl; exact rfl) | (apply lx_u; exact rfl) | (apply lx_g; exact rfl; exact rfl)); first | (apply isy_bin_eql; exact yl_true (q_beq x.k 2#8 rfl rfl rfl rfl) (fun _ => g2)) | fail) | refine wzf ?_ | (refine wzb ?_; intro b_) | fail)
    refine cx_cond rfl (fun _ => ?_) (fun h => absurd h (by decide))
    repeat (first | refine wzf ?_ | (refine wzb ?_; intro b_) | fail)
    refine cx_cond rfl (fun _ => ?_) (fun h => absurd h (by decide))
    repeat (first | refine wz ?_ | (refine wzb ?_; intro b_) | fail)
    exact bq_ret (ret_cell (E := EV) 1 rfl rfl rfl rfl (fun _ => Nat.le_of_ble_eq_true rfl) rfl) [] (Gives.nil _) rfl ⟨rfl, rfl⟩
  have g2 : (x.k == 2#8) = false := by rw [beq_eq_false_iff_ne]; exact e2
  by_cases e3 : x.k = 3#8
  · rw [if_pos (.inr e3)]
    have g3 : (x.k == 3#8) = true := by rw [e3]; rfl
    refine fn_enter Tryz.func91 rfl rfl (by kernel_rfl) rfl ?_; intro w0
    repeat (first | ((first | (apply lx_gt; exact rfl; exact rfl; exact rfl) | (apply lx_u; exact rfl) | (apply lx_g; exact rfl; exact rfl)); first | (apply isy_bin_eql; exact yl_false (q_beq x.k 1#8 rfl rfl rfl rfl) (fun _ => g1)) | fail) | refine wzf ?_ | (refine wzb ?_; intro b_) | fail)
    refine cx_cond rfl (fun h => absurd h (by decide)) (fun _ => ?_)
    repeat (first | ((first | (apply lx_gt; exact rfl; exact rfl; exact rfl) | (apply lx_u; exact rfl) | (apply lx_g; exact rfl; exact rfl)); first | (apply isy_bin_eql; exact yl_false (q_beq x.k 2#8 rfl rfl rfl rfl) (fun _ => g2)) | fail) | refine wzf ?_ | (refine wzb ?_; intro b_) | fail)
    refine cx_cond rfl (fun h => absurd h (by decide)) (fun _ => ?_)
    repeat (first | ((first | (apply lx_gt; exact rfl; exact rfl; exact rfl) | (apply lx_u; exact rfl) | (apply lx_g; exact rfl; exact rfl)); first | (apply isy_bin_eql; exact yl_true (q_beq x.k 3#8 rfl rfl rfl rfl) (fun _ => g3)) | fail) | refine wzf ?_ | (refine wzb ?_; intro b_) | fail)
    refine cx_cond rfl (fun _ => ?_) (fun h => absurd h (by decide))
    repeat (first | refine wz ?_ | (refine wzb ?_; intro b_) | fail)
    exact bq_ret (ret_cell (E := EV) 1 rfl rfl rfl rfl (fun _ => Nat.le_of_ble_eq_true rfl) rfl) [] (Gives.nil _) rfl ⟨rfl, rfl⟩
  have g3 : (x.k == 3#8) = false := by rw [beq_eq_false_iff_ne]; exact e3
  rw [if_neg (fun h => h.elim e2 e3)]
  by_cases e4 : x.k = 4#8
  · rw [if_pos e4]
    have g4 : (x.k == 4#8) = true := by rw [e4]; rfl
    refine fn_enter Tryz.func91 rfl rfl (by kernel_rfl) rfl ?_; intro w0
    repeat (first | ((first | (apply lx_gt; exact rfl; exact rfl; exact rfl) | (apply lx_u; exact rfl) | (apply lx_g; exact rfl; exact rfl)); first | (apply isy_bin_eql; exact yl_false (q_beq x.k 1#8 rfl rfl rfl rfl) (fun _ => g1)) | fail) | refine wzf ?_ | (refine wzb ?_; intro b_) | fail)
    refine cx_cond rfl (fun h => absurd h (by decide)) (fun _ => ?_)
    repeat (first | ((first | (apply lx_gt; exact rfl; exact rfl; exact rfl) | (apply lx_u; exact rfl) | (apply lx_g; exact rfl; exact rfl)); first | (apply isy_bin_eql; exact yl_false (q_beq x.k 2#8 rfl rfl rfl rfl) (fun _ => g2)) | fail) | refine wzf ?_ | (refine wzb ?_; intro b_) | fail)
    refine cx_cond rfl (fun h => absurd h (by decide)) (fun _ => ?_)
    repeat (first | ((first | (apply lx_gt; exact rfl; exact rfl; exact rfl) | (apply lx_u; exact rfl) | (apply lx_g; exact rfl; exact rfl)); first | (apply isy_bin_eql; exact yl_false (q_beq x.k 3#8 rfl rfl rfl rfl) (fun _ => g3)) | fail) | refine wzf ?_ | (refine wzb ?_; intro b_) | fail)
    refine cx_cond rfl (fun h => absurd h (by decide)) (fun _ => ?_)
    repeat (first | ((first | (apply lx_gt; exact rfl; exact rfl; exact rfl) | (apply lx_u; exact rfl) | (apply lx_g; exact rfl; exact rfl)); first | (apply isy_bin_eql; exact yl_true (q_beq x.k 4#8 rfl rfl rfl rfl) (fun _ => g4)) | fail) | refine wzf ?_ | (refine wzb ?_; intro b_) | fail)
    refine cx_cond rfl (fun _ => ?_) (fun h => absurd h (by decide))
    repeat (first | refine wz ?_ | (refine wzb ?_; intro b_) | fail)
    exact bq_ret (ret_cell (E := EV) 1 rfl rfl rfl rfl (fun _ => Nat.le_of_ble_eq_true rfl) rfl) [] (Gives.nil _) rfl ⟨rfl, rfl⟩
  have g4 : (x.k == 4#8) = false := by rw [beq_eq_false_iff_ne]; exact e4
  rw [if_neg e4]
  by_cases e6 : x.k = 6#8
  · rw [if_pos e6]
    have g6 : (x.k == 6#8) = true := by rw [e6]; rfl
    refine fn_enter Tryz.func91 rfl rfl (by kernel_rfl) rfl ?_; intro w0
    repeat (first | ((first | (apply lx_gt; exact rfl; exact rfl; exact rfl) | (apply lx_u; exact rfl) | (apply lx_g; exact rfl; exact rfl)); first | (apply isy_bin_eql; exact yl_false (q_beq x.k 1#8 rfl rfl rfl rfl) (fun _ => g1)) | fail) | refine wzf ?_ | (refine wzb ?_; intro b_) | fail)
    refine cx_cond rfl (fun h => absurd h (by decide)) (fun _ => ?_)
    repeat (first | ((first | (apply lx_gt; exact rfl; exact rfl; exact rfl) | (apply lx_u; exact rfl) | (apply lx_g; exact rfl; exact rfl)); first | (apply isy_bin_eql; exact yl_false (q_beq x.k 2#8 rfl rfl rfl rfl) (fun _ => g2)) | fail) | refine wzf ?_ | (refine wzb ?_; intro b_) | fail)
    refine cx_cond rfl (fun h => absurd h (by decide)) (fun _ => ?_)
    repeat (first | ((first | (apply lx_gt; exact rfl; exact rfl; exact rfl) | (apply lx_u; exact rfl) | (apply lx_g; exact rfl; exact rfl)); first | (apply isy_bin_eql; exact yl_false (q_beq x.k 3#8 rfl rfl rfl rfl) (fun _ => g3)) | fail) | refine wzf ?_ | (refine wzb ?_; intro b_) | fail)
    refine cx_cond rfl (fun h => absurd h (by decide)) (fun _ => ?_)
    repeat (first | ((first | (apply lx_gt; exact rfl; exact rfl; exact rfl) | (apply lx_u; exact rfl) | (apply lx_g; exact rfl; exact rfl)); first | (apply isy_bin_eql; exact yl_false (q_beq x.k 4#8 rfl rfl rfl rfl) (fun _ => g4)) | fail) | refine wzf ?_ | (refine wzb ?_; intro b_) | fail)
    refine cx_cond rfl (fun h => absurd h (by decide)) (fun _ => ?_)
    repeat (first | ((first | (apply lx_gt; exact rfl; exact rfl; exact rfl) | (apply lx_u; exact rfl) | (apply lx_g; exact rfl; exact rfl)); first | (apply isy_bin_eql; exact yl_true (q_beq x.k 6#8 rfl rfl rfl rfl) (fun _ => g6)) | fail) | refine wzf ?_ | (refine wzb ?_; intro b_) | fail)
    refine cx_cond rfl (fun _ => ?_) (fun h => absurd h (by decide))
    repeat (first | refine wz ?_ | (refine wzb ?_; intro b_) | fail)
    exact bq_ret (ret_cell (E := EV) 1 rfl rfl rfl rfl (fun _ => Nat.le_of_ble_eq_true rfl) rfl) [] (Gives.nil _) rfl ⟨rfl, rfl⟩
  have g6 : (x.k == 6#8) = false := by rw [beq_eq_false_iff_ne]; exact e6
  · rw [if_neg e6]
    refine fn_enter Tryz.func91 rfl rfl (by kernel_rfl) rfl ?_; intro w0
    repeat (first | ((first | (apply lx_gt; exact rfl; exact rfl; exact rfl) | (apply lx_u; exact rfl) | (apply lx_g; exact rfl; exact rfl)); first | (apply isy_bin_eql; exact yl_false (q_beq x.k 1#8 rfl rfl rfl rfl) (fun _ => g1)) | fail) | refine wzf ?_ | (refine wzb ?_; intro b_) | fail)
    refine cx_cond rfl (fun h => absurd h (by decide)) (fun _ => ?_)
    repeat (first | ((first | (apply lx_gt; exact rfl; exact rfl; exact rfl) | (apply lx_u; exact rfl) | (apply lx_g; exact rfl; exact rfl)); first | (apply isy_bin_eql; exact yl_false (q_beq x.k 2#8 rfl rfl rfl rfl) (fun _ => g2)) | fail) | refine wzf ?_ | (refine wzb ?_; intro b_) | fail)
    refine cx_cond rfl (fun h => absurd h (by decide)) (fun _ => ?_)
    repeat (first | ((first | (apply lx_gt; exact rfl; exact rfl; exact rfl) | (apply lx_u; exact rfl) | (apply lx_g; exact rfl; exact rfl)); first | (apply isy_bin_eql; exact yl_false (q_beq x.k 3#8 rfl rfl rfl rfl) (fun _ => g3)) | fail) | refine wzf ?_ | (refine wzb ?_; intro b_) | fail)
    refine cx_cond rfl (fun h => absurd h (by decide)) (fun _ => ?_)
    repeat (first | ((first | (apply lx_gt; exact rfl; exact rfl; exact rfl) | (apply lx_u; exact rfl) | (apply lx_g; exact rfl; exact rfl)); first | (apply isy_bin_eql; exact yl_false (q_beq x.k 4#8 rfl rfl rfl rfl) (fun _ => g4)) | fail) | refine wzf ?_ | (refine wzb ?_; intro b_) | fail)
    refine cx_cond rfl (fun h => absurd h (by decide)) (fun _ => ?_)
    repeat (first | ((first | (apply lx_gt; exact rfl; exact rfl; exact rfl) | (apply lx_u; exact rfl) | (apply lx_g; exact rfl; exact rfl)); first | (apply isy_bin_eql; exact yl_false (q_beq x.k 6#8 rfl rfl rfl rfl) (fun _ => g6)) | fail) | refine wzf ?_ | (refine wzb ?_; intro b_) | fail)
    refine cx_cond rfl (fun h => absurd h (by decide)) (fun _ => ?_)
    repeat (first | refine wz ?_ | (refine wzb ?_; intro b_) | fail)
    exact bq_ret (ret_cell (E := EV) 1 rfl rfl rfl rfl (fun _ => Nat.le_of_ble_eq_true rfl) rfl) [] (Gives.nil _) rfl ⟨rfl, rfl⟩
section
variable (bw : Nat) (A : Option Addr) (c : Nat) (w : Wt)
theorem row_blank {M : Me} {L : List Ck} {w0 : World} (x : MS) (k : Nat) (hk : L[k]? = some (.ro x.r.A x.r.n 1 (bvs x.r.l))) (hm : Mem M L w0) : Row w0 w0.heap.size 1 (blankM x).r.A (blankM x).r.n (bvs (blankM x).r.l) := by
  rcases blankM_r x with h | h
  · rw [h]; exact row_ro k hk hm
  · rw [h]; exact Row.nil
theorem allD_bdr (b : Nat) (u : Bool) (A : Option Addr) (m c : Nat) (T : TypeId) (xs : List Value) (A2 : Option Addr) (m2 sz : Nat) (ys : List Value) : AllD (wD b A) [.blk b [.slice A m c, .bool u] 109, .own A m c T 1 xs, .ro A2 m2 sz ys] :=
  ⟨List.mem_cons_self .., fun _ hg => List.mem_cons_of_mem _ (Option.mem_toList.2 hg), trivial⟩
set_option maxRecDepth 100000 in
set_option maxHeartbeats 16000000 in
theorem wstep_fn (hw : w.1.length ≤ 6000000000000) (x : MS) (hx : x.r.l.length = x.r.n) (hc : x.r.n ≤ x.r.c ∧ x.r.c ≤ 9223372036854775807) (hn : x.r.n ≤ 1000000) (hky : x.op.key.length ≤ 9223372036854775807) (n : Int) : Fn Tryz.prog 53 [.pointer (some ⟨bw, 0, none⟩), x.val, .int .i64 n] (wrB bw A c w ++ [.ro x.r.A x.r.n 1 (bvs x.r.l)]) (wD bw A) (WP bw (wstep n w x.sp)) := by
  have hb := blank_fn x
  have hs := same_fn x (blankM x)
  have hfe := wfeed_fn bw A c w (by omega) x hx hc hn
  have hr := right_fn x.op hky
  rw [blankM_sp] at hs
  obtain ⟨u, bad⟩ := w
  dsimp only at hw
  unfold wstep
  have e0 : x.sp.cl = x.cl := rfl
  have ek : x.sp.k = x.k := rfl
  have eo : x.sp.op = x.op := rfl
  have ey : x.sp.by_ = x.by_ := rfl
  rw [e0, ek, eo, ey]
  generalize x.sp.eqB (blankQ x.sp) = sm at *
  refine fn_enter Tryz.func53 rfl rfl (by kernel_rfl) rfl ?_
  intro w0
  repeat (first | refine wz ?_ | (refine wzb ?_; intro b_) | fail)
  generalize b_ = b4
  refine cx_draw [12, 13] [.blk b4 x.cells 47] rfl (by kernel_rfl) (Gives.pick [0] (by decide) rfl) ?_
  repeat (first | (refine isx_call ?_; refine k_gcall (hb) (fun _ hm => in_nil hm) rfl rfl rfl rfl rfl rfl ?_) | (refine isx_call ?_; refine k_gcall (hs) ((fun w hm => in_ro (row_ro 3 rfl hm) (in_ro (row_blank x 3 rfl hm) (in_nil hm) rfl) rfl)) rfl rfl rfl rfl rfl rfl ?_) | refine wz ?_ | (refine wzb ?_; intro b_) | fail)
  refine cx_cond rfl (fun h => ?_) (fun h => ?_)
  · rw [if_pos h]
    repeat (first | refine wz ?_ | (refine wzb ?_; intro b_) | fail)
    exact bq_ret (ret_none rfl) [_, _] (Gives.pick [1, 2] (by decide) rfl) rfl ⟨_, _, rfl, rfl⟩
  rw [if_neg (by rw [h]; decide)]
  clear h
  by_cases e1 : x.k = 1#8
  · rw [if_pos e1]
    have g1 : (x.k == 1#8) = true := by rw [e1]; rfl
    repeat (first | ((first | (apply lx_gt; exact rfl; exact rfl; exact rfl) | (apply lx_u; exact rfl) | (apply lx_g; exact rfl; exact rfl)); first | (apply isy_bin_eql; exact yl_true (q_beq x.k 1#8 rfl rfl rfl rfl) (fun _ => g1)) | fail) | refine wzf ?_ | (refine wzb ?_; intro b_) | fail)
    refine cx_cond rfl (fun _ => ?_) (fun h => absurd h (by decide))
    repeat (first | (refine isx_call ?_; refine k_call hfe [1, 2, 3] [1, 2] [0, 3] rfl rfl rfl rfl rfl rfl rfl rfl ?_ (hin := allD_bdr _ _ _ _ _ _ _ _ _ _ _) (hD := onD_bd _ _ _ _ _ _ _); rintro v_ Lo_ ⟨A_, c_, rfl, rfl⟩) | refine wz ?_ | (refine wzb ?_; intro b_) | fail)
    exact bq_end (ret_none rfl) [_, _] (Gives.pick [0, 1] (by decide) rfl) rfl ⟨_, _, rfl, rfl⟩
  rw [if_neg e1]
  have g1 : (x.k == 1#8) = false := by rw [beq_eq_false_iff_ne]; exact e1
  by_cases e2 : x.k = 2#8
  · rw [if_pos e2]
    have g2 : (x.k == 2#8) = true := by rw [e2]; rfl
    repeat (first | ((first | (apply lx_gt; exact rfl; exact rfl; exact rfl) | (apply lx_u; exact rfl) | (apply lx_g; exact rfl; exact rfl)); first | (apply isy_bin_eql; exact yl_false (q_beq x.k 1#8 rfl rfl rfl rfl) (fun _ => g1)) | fail) | refine wzf ?_ | (refine wzb ?_; intro b_) | fail)
    refine cx_cond rfl (fun h => absurd h (by decide)) (fun _ => ?_)
    repeat (first | ((first | (apply lx_gt; exact rfl; exact rfl; exact rfl) | (apply lx_u; exact rfl) | (apply lx_g; exact rfl; exact rfl)); first | (apply isy_bin_eql; exact yl_true (q_beq x.k 2#8 rfl rfl rfl rfl) (fun _ => g2)) | fail) | refine wzf ?_ | (refine wzb ?_; intro b_) | fail)
    refine cx_cond rfl (fun _ => ?_) (fun h => absurd h (by decide))
    repeat (first | refine wz ?_ | (refine wzb ?_; intro b_) | fail)
    refine cx_drawZ 12 [8, 9] [.blk bw [.slice A u.length c, .bool bad] 109, .blk b4 x.cells 47] rfl (by kernel_rfl) (by kernel_rfl) (Gives.pick [1, 0] (by decide) rfl) ?_
    repeat (first | ((first | (apply lx_u; exact rfl) | (apply lx_g; exact rfl; exact rfl)); first | (apply isy_convert; exact q_ci uk8 rfl rfl rfl) | fail) | (refine isx_blt ?_; refine lx_appB (E := EV) 3 u [2#8, BitVec.ofInt 8 x.cl] rfl rfl rfl rfl rfl rfl rfl rfl rfl rfl rfl rfl rfl (fun w hm => row_blk 0 rfl rfl hm) (by simp only [List.length_append, pk.be_len, pk.txt_len, List.length_cons, List.length_nil]; omega) (fun _ _ _ => Gives.pick [2, 1] (by decide) rfl) ?_; intro A_ c_) | refine wz ?_ | (refine wzb ?_; intro b_) | fail)
    (try refine cut_n ?_)
    repeat (first | refine wz ?_ | (refine wzb ?_; intro b_) | fail)
    exact bq_end (ret_none rfl) [_, _] (Gives.pick [2, 3] (by decide) rfl) rfl ⟨_, _, rfl, rfl⟩
  rw [if_neg e2]
  have g2 : (x.k == 2#8) = false := by rw [beq_eq_false_iff_ne]; exact e2
  by_cases e3 : x.k = 3#8
  · rw [if_pos e3]
    have g3 : (x.k == 3#8) = true := by rw [e3]; rfl
    repeat (first | ((first | (apply lx_gt; exact rfl; exact rfl; exact rfl) | (apply lx_u; exact rfl) | (apply lx_g; exact rfl; exact rfl)); first | (apply isy_bin_eql; exact yl_false (q_beq x.k 1#8 rfl rfl rfl rfl) (fun _ => g1)) | fail) | refine wzf ?_ | (refine wzb ?_; intro b_) | fail)
    refine cx_cond rfl (fun h => absurd h (by decide)) (fun _ => ?_)
    repeat (first | ((first | (apply lx_gt; exact rfl; exact rfl; exact rfl) | (apply lx_u; exact rfl) | (apply lx_g; exact rfl; exact rfl)); first | (apply isy_bin_eql; exact yl_false (q_beq x.k 2#8 rfl rfl rfl rfl) (fun _ => g2)) | fail) | refine wzf ?_ | (refine wzb ?_; intro b_) | fail)
    refine cx_cond rfl (fun h => absurd h (by decide)) (fun _ => ?_)
    repeat (first | ((first | (apply lx_gt; exact rfl; exact rfl; exact rfl) | (apply lx_u; exact rfl) | (apply lx_g; exact rfl; exact rfl)); first | (apply isy_bin_eql; exact yl_true (q_beq x.k 3#8 rfl rfl rfl rfl) (fun _ => g3)) | fail) | refine wzf ?_ | (refine wzb ?_; intro b_) | fail)
    refine cx_cond rfl (fun _ => ?_) (fun h => absurd h (by decide))
    repeat (first | refine wz ?_ | (refine wzb ?_; intro b_) | fail)
    refine cx_drawZ 12 [8, 9] [.blk bw [.slice A u.length c, .bool bad] 109, .blk b4 x.cells 47] rfl (by kernel_rfl) (by kernel_rfl) (Gives.pick [1, 0] (by decide) rfl) ?_
    repeat (first | ((first | (apply lx_u; exact rfl) | (apply lx_g; exact rfl; exact rfl)); first | (apply isy_convert; exact q_ci uk8 rfl rfl rfl) | fail) | (refine isx_blt ?_; refine lx_appB (E := EV) 3 u [0#8, BitVec.ofInt 8 x.cl] rfl rfl rfl rfl rfl rfl rfl rfl rfl rfl rfl rfl rfl (fun w hm => row_blk 0 rfl rfl hm) (by simp only [List.length_append, pk.be_len, pk.txt_len, List.length_cons, List.length_nil]; omega) (fun _ _ _ => Gives.pick [2, 1] (by decide) rfl) ?_; intro A_ c_) | refine wz ?_ | (refine wzb ?_; intro b_) | fail)
    (try refine cut_n ?_)
    repeat (first | refine wz ?_ | (refine wzb ?_; intro b_) | fail)
    exact bq_end (ret_none rfl) [_, _] (Gives.pick [2, 3] (by decide) rfl) rfl ⟨_, _, rfl, rfl⟩
  rw [if_neg e3]
  have g3 : (x.k == 3#8) = false := by rw [beq_eq_false_iff_ne]; exact e3
  by_cases e4 : x.k = 4#8
  · rw [if_pos e4]
    have g4 : (x.k == 4#8) = true := by rw [e4]; rfl
    repeat (first | ((first | (apply lx_gt; exact rfl; exact rfl; exact rfl) | (apply lx_u; exact rfl) | (apply lx_g; exact rfl; exact rfl)); first | (apply isy_bin_eql; exact yl_false (q_beq x.k 1#8 rfl rfl rfl rfl) (fun _ => g1)) | fail) | refine wzf ?_ | (refine wzb ?_; intro b_) | fail)
    refine cx_cond rfl (fun h => absurd h (by decide)) (fun _ => ?_)
    repeat (first | ((first | (apply lx_gt; exact rfl; exact rfl; exact rfl) | (apply lx_u; exact rfl) | (apply lx_g; exact rfl; exact rfl)); first | (apply isy_bin_eql; exact yl_false (q_beq x.k 2#8 rfl rfl rfl rfl) (fun _ => g2)) | fail) | refine wzf ?_ | (refine wzb ?_; intro b_) | fail)
    refine cx_cond rfl (fun h => absurd h (by decide)) (fun _ => ?_)
    repeat (first | ((first | (apply lx_gt; exact rfl; exact rfl; exact rfl) | (apply lx_u; exact rfl) | (apply lx_g; exact rfl; exact rfl)); first | (apply isy_bin_eql; exact yl_false (q_beq x.k 3#8 rfl rfl rfl rfl) (fun _ => g3)) | fail) | refine wzf ?_ | (refine wzb ?_; intro b_) | fail)
    refine cx_cond rfl (fun h => absurd h (by decide)) (fun _ => ?_)
    repeat (first | ((first | (apply lx_gt; exact rfl; exact rfl; exact rfl) | (apply lx_u; exact rfl) | (apply lx_g; exact rfl; exact rfl)); first | (apply isy_bin_eql; exact yl_true (q_beq x.k 4#8 rfl rfl rfl rfl) (fun _ => g4)) | fail) | refine wzf ?_ | (refine wzb ?_; intro b_) | fail)
    refine cx_cond rfl (fun _ => ?_) (fun h => absurd h (by decide))
    have hop := fun A' c' => wop_fn bw A' c' (u, bad || x.op.right != 0) (by dsimp only; omega) x.op
    repeat (first | (refine isx_call ?_; refine k_gcall (hr) (fun _ hm => in_nil hm) rfl rfl rfl rfl rfl rfl ?_) | (refine isx_call ?_; refine k_call ((hop _ _)) [1, 2] [1, 2] [0, 3] rfl rfl rfl rfl rfl rfl rfl rfl ?_ (hin := allD_bd _ _ _ _ _ _ _) (hD := onD_bd _ _ _ _ _ _ _); rintro v_ Lo_ ⟨A_, c_, rfl, rfl⟩) | refine wz ?_ | (refine wzb ?_; intro b_) | fail)
    exact bq_end (ret_none rfl) [_, _] (Gives.pick [0, 1] (by decide) rfl) rfl ⟨_, _, rfl, rfl⟩
  rw [if_neg e4]
  have g4 : (x.k == 4#8) = false := by rw [beq_eq_false_iff_ne]; exact e4
  by_cases e5 : x.k = 5#8
  · rw [if_pos e5]
    have g5 : (x.k == 5#8) = true := by rw [e5]; rfl
    repeat (first | ((first | (apply lx_gt; exact rfl; exact rfl; exact rfl) | (apply lx_u; exact rfl) | (apply lx_g; exact rfl; exact rfl)); first | (apply isy_bin_eql; exact yl_false (q_beq x.k 1#8 rfl rfl rfl rfl) (fun _ => g1)) | fail) | refine wzf ?_ | (refine wzb ?_; intro b_) | fail)
    refine cx_cond rfl (fun h => absurd h (by decide)) (fun _ => ?_)
    repeat (first | ((first | (apply lx_gt; exact rfl; exact rfl; exact rfl) | (apply lx_u; exact rfl) | (apply lx_g; exact rfl; exact rfl)); first | (apply isy_bin_eql; exact yl_false (q_beq x.k 2#8 rfl rfl rfl rfl) (fun _ => g2)) | fail) | refine wzf ?_ | (refine wzb ?_; intro b_) | fail)
    refine cx_cond rfl (fun h => absurd h (by decide)) (fun _ => ?_)
    repeat (first | ((first | (apply lx_gt; exact rfl; exact rfl; exact rfl) | (apply lx_u; exact rfl) | (apply lx_g; exact rfl; exact rfl)); first | (apply isy_bin_eql; exact yl_false (q_beq x.k 3#8 rfl rfl rfl rfl) (fun _ => g3)) | fail) | refine wzf ?_ | (refine wzb ?_; intro b_) | fail)
    refine cx_cond rfl (fun h => absurd h (by decide)) (fun _ => ?_)
    repeat (first | ((first | (apply lx_gt; exact rfl; exact rfl; exact rfl) | (apply lx_u; exact rfl) | (apply lx_g; exact rfl; exact rfl)); first | (apply isy_bin_eql; exact yl_false (q_beq x.k 4#8 rfl rfl rfl rfl) (fun _ => g4)) | fail) | refine wzf ?_ | (refine wzb ?_; intro b_) | fail)
    refine cx_cond rfl (fun h => absurd h (by decide)) (fun _ => ?_)
    repeat (first | ((first | (apply lx_gt; exact rfl; exact rfl; exact rfl) | (apply lx_u; exact rfl) | (apply lx_g; exact rfl; exact rfl)); first | (apply isy_bin_eql; exact yl_true (q_beq x.k 5#8 rfl rfl rfl rfl) (fun _ => g5)) | fail) | refine wzf ?_ | (refine wzb ?_; intro b_) | fail)
    refine cx_cond rfl (fun _ => ?_) (fun h => absurd h (by decide))
    repeat (first | refine wzf ?_ | (refine wzb ?_; intro b_) | fail)
    refine cx_cond rfl (fun _ => ?_) (fun h => absurd h (by decide))
    have hkb : 13#8 + (x.k - 5#8) = 13#8 := by rw [e5]; rfl
    repeat (first | refine wz ?_ | (refine wzb ?_; intro b_) | fail)
    refine cx_drawZ 13 [9, 10] [.blk bw [.slice A u.length c, .bool bad] 109, .blk b4 x.cells 47] rfl (by kernel_rfl) (by kernel_rfl) (Gives.pick [1, 0] (by decide) rfl) ?_
    repeat (first | ((first | (apply lx_u; exact rfl) | (apply lx_g; exact rfl; exact rfl)); first | (apply isy_bin_sub; exact q_bsub uk8 x.k 5#8 rfl rfl rfl rfl) | (apply isy_bin_add; exact yl_eq (q_badd uk8 13#8 (x.k - 5#8) rfl rfl rfl rfl) (fun _ => congrArg (fun y : B8 => Value.int .u8 y.toNat) hkb)) | fail) | (refine isx_blt ?_; refine lx_appB (E := EV) 3 u [13#8] rfl rfl rfl rfl rfl rfl rfl rfl rfl rfl rfl rfl rfl (fun w hm => row_blk 0 rfl rfl hm) (by simp only [List.length_append, pk.be_len, pk.txt_len, List.length_cons, List.length_nil]; omega) (fun _ _ _ => Gives.pick [2, 1] (by decide) rfl) ?_; intro A_ c_) | refine wz ?_ | (refine wzb ?_; intro b_) | fail)
    (try refine cut_n ?_)
    repeat (first | refine wz ?_ | (refine wzb ?_; intro b_) | fail)
    exact bq_end (ret_none rfl) [_, _] (Gives.pick [2, 3] (by decide) rfl) rfl ⟨_, _, rfl, rfl⟩
  rw [if_neg e5]
  have g5 : (x.k == 5#8) = false := by rw [beq_eq_false_iff_ne]; exact e5
  by_cases e7 : x.k = 7#8
  · rw [if_pos e7]
    have g7 : (x.k == 7#8) = true := by rw [e7]; rfl
    repeat (first | ((first | (apply lx_gt; exact rfl; exact rfl; exact rfl) | (apply lx_u; exact rfl) | (apply lx_g; exact rfl; exact rfl)); first | (apply isy_bin_eql; exact yl_false (q_beq x.k 1#8 rfl rfl rfl rfl) (fun _ => g1)) | fail) | refine wzf ?_ | (refine wzb ?_; intro b_) | fail)
    refine cx_cond rfl (fun h => absurd h (by decide)) (fun _ => ?_)
    repeat (first | ((first | (apply lx_gt; exact rfl; exact rfl; exact rfl) | (apply lx_u; exact rfl) | (apply lx_g; exact rfl; exact rfl)); first | (apply isy_bin_eql; exact yl_false (q_beq x.k 2#8 rfl rfl rfl rfl) (fun _ => g2)) | fail) | refine wzf ?_ | (refine wzb ?_; intro b_) | fail)
    refine cx_cond rfl (fun h => absurd h (by decide)) (fun _ => ?_)
    repeat (first | ((first | (apply lx_gt; exact rfl; exact rfl; exact rfl) | (apply lx_u; exact rfl) | (apply lx_g; exact rfl; exact rfl)); first | (apply isy_bin_eql; exact yl_false (q_beq x.k 3#8 rfl rfl rfl rfl) (fun _ => g3)) | fail) | refine wzf ?_ | (refine wzb ?_; intro b_) | fail)
    refine cx_cond rfl (fun h => absurd h (by decide)) (fun _ => ?_)
    repeat (first | ((first | (apply lx_gt; exact rfl; exact rfl; exact rfl) | (apply lx_u; exact rfl) | (apply lx_g; exact rfl; exact rfl)); first | (apply isy_bin_eql; exact yl_false (q_beq x.k 4#8 rfl rfl rfl rfl) (fun _ => g4)) | fail) | refine wzf ?_ | (refine wzb ?_; intro b_) | fail)
    refine cx_cond rfl (fun h => absurd h (by decide)) (fun _ => ?_)
    repeat (first | ((first | (apply lx_gt; exact rfl; exact rfl; exact rfl) | (apply lx_u; exact rfl) | (apply lx_g; exact rfl; exact rfl)); first | (apply isy_bin_eql; exact yl_false (q_beq x.k 5#8 rfl rfl rfl rfl) (fun _ => g5)) | fail) | refine wzf ?_ | (refine wzb ?_; intro b_) | fail)
    refine cx_cond rfl (fun h => absurd h (by decide)) (fun _ => ?_)
    repeat (first | ((first | (apply lx_gt; exact rfl; exact rfl; exact rfl) | (apply lx_u; exact rfl) | (apply lx_g; exact rfl; exact rfl)); first | (apply isy_bin_eql; exact yl_true (q_beq x.k 7#8 rfl rfl rfl rfl) (fun _ => g7)) | fail) | refine wzf ?_ | (refine wzb ?_; intro b_) | fail)
    refine cx_cond rfl (fun _ => ?_) (fun h => absurd h (by decide))
    have hkb : 13#8 + (x.k - 5#8) = 15#8 := by rw [e7]; rfl
    repeat (first | refine wz ?_ | (refine wzb ?_; intro b_) | fail)
    refine cx_drawZ 13 [9, 10] [.blk bw [.slice A u.length c, .bool bad] 109, .blk b4 x.cells 47] rfl (by kernel_rfl) (by kernel_rfl) (Gives.pick [1, 0] (by decide) rfl) ?_
    repeat (first | ((first | (apply lx_u; exact rfl) | (apply lx_g; exact rfl; exact rfl)); first | (apply isy_bin_sub; exact q_bsub uk8 x.k 5#8 rfl rfl rfl rfl) | (apply isy_bin_add; exact yl_eq (q_badd uk8 13#8 (x.k - 5#8) rfl rfl rfl rfl) (fun _ => congrArg (fun y : B8 => Value.int .u8 y.toNat) hkb)) | fail) | (refine isx_blt ?_; refine lx_appB (E := EV) 3 u [15#8] rfl rfl rfl rfl rfl rfl rfl rfl rfl rfl rfl rfl rfl (fun w hm => row_blk 0 rfl rfl hm) (by simp only [List.length_append, pk.be_len, pk.txt_len, List.length_cons, List.length_nil]; omega) (fun _ _ _ => Gives.pick [2, 1] (by decide) rfl) ?_; intro A_ c_) | refine wz ?_ | (refine wzb ?_; intro b_) | fail)
    (try refine cut_n ?_)
    repeat (first | refine wz ?_ | (refine wzb ?_; intro b_) | fail)
    exact bq_end (ret_none rfl) [_, _] (Gives.pick [2, 3] (by decide) rfl) rfl ⟨_, _, rfl, rfl⟩
  rw [if_neg e7]
  have g7 : (x.k == 7#8) = false := by rw [beq_eq_false_iff_ne]; exact e7
  by_cases e6 : x.k = 6#8
  · rw [if_pos e6]
    have g6 : (x.k == 6#8) = true := by rw [e6]; rfl
    repeat (first | ((first | (apply lx_gt; exact rfl; exact rfl; exact rfl) | (apply lx_u; exact rfl) | (apply lx_g; exact rfl; exact rfl)); first | (apply isy_bin_eql; exact yl_false (q_beq x.k 1#8 rfl rfl rfl rfl) (fun _ => g1)) | fail) | refine wzf ?_ | (refine wzb ?_; intro b_) | fail)
    refine cx_cond rfl (fun h => absurd h (by decide)) (fun _ => ?_)
    repeat (first | ((first | (apply lx_gt; exact rfl; exact rfl; exact rfl) | (apply lx_u; exact rfl) | (apply lx_g; exact rfl; exact rfl)); first | (apply isy_bin_eql; exact yl_false (q_beq x.k 2#8 rfl rfl rfl rfl) (fun _ => g2)) | fail) | refine wzf ?_ | (refine wzb ?_; intro b_) | fail)
    refine cx_cond rfl (fun h => absurd h (by decide)) (fun _ => ?_)
    repeat (first | ((first | (apply lx_gt; exact rfl; exact rfl; exact rfl) | (apply lx_u; exact rfl) | (apply lx_g; exact rfl; exact rfl)); first | (apply isy_bin_eql; exact yl_false (q_beq x.k 3#8 rfl rfl rfl rfl) (fun _ => g3)) | fail) | refine wzf ?_ | (refine wzb ?_; intro b_) | fail)
    refine cx_cond rfl (fun h => absurd h (by decide)) (fun _ => ?_)
    repeat (first | ((first | (apply lx_gt; exact rfl; exact rfl; exact rfl) | (apply lx_u; exact rfl) | (apply lx_g; exact rfl; exact rfl)); first | (apply isy_bin_eql; exact yl_false (q_beq x.k 4#8 rfl rfl rfl rfl) (fun _ => g4)) | fail) | refine wzf ?_ | (refine wzb ?_; intro b_) | fail)
    refine cx_cond rfl (fun h => absurd h (by decide)) (fun _ => ?_)
    repeat (first | ((first | (apply lx_gt; exact rfl; exact rfl; exact rfl) | (apply lx_u; exact rfl) | (apply lx_g; exact rfl; exact rfl)); first | (apply isy_bin_eql; exact yl_false (q_beq x.k 5#8 rfl rfl rfl rfl) (fun _ => g5)) | fail) | refine wzf ?_ | (refine wzb ?_; intro b_) | fail)
    refine cx_cond rfl (fun h => absurd h (by decide)) (fun _ => ?_)
    repeat (first | ((first | (apply lx_gt; exact rfl; exact rfl; exact rfl) | (apply lx_u; exact rfl) | (apply lx_g; exact rfl; exact rfl)); first | (apply isy_bin_eql; exact yl_false (q_beq x.k 7#8 rfl rfl rfl rfl) (fun _ => g7)) | fail) | refine wzf ?_ | (refine wzb ?_; intro b_) | fail)
    refine cx_cond rfl (fun h => absurd h (by decide)) (fun _ => ?_)
    repeat (first | ((first | (apply lx_gt; exact rfl; exact rfl; exact rfl) | (apply lx_u; exact rfl) | (apply lx_g; exact rfl; exact rfl)); first | (apply isy_bin_eql; exact yl_true (q_beq x.k 6#8 rfl rfl rfl rfl) (fun _ => g6)) | fail) | refine wzf ?_ | (refine wzb ?_; intro b_) | fail)
    refine cx_cond rfl (fun _ => ?_) (fun h => absurd h (by decide))
    have hnu := fun A' c' => wnumber_fn bw A' c' (u ++ [14#8], bad) (by rw [List.length_append]; show u.length + 1 ≤ _; omega) x.by_ 256 (by decide)
    repeat (first | (refine isx_blt ?_; refine lx_appB (E := EV) 3 u [14#8] rfl rfl rfl rfl rfl rfl rfl rfl rfl rfl rfl rfl rfl (fun w hm => row_blk 0 rfl rfl hm) (by simp only [List.length_append, pk.be_len, pk.txt_len, List.length_cons, List.length_nil]; omega) (fun _ _ _ => trivial) ?_; intro A_ c_) | (refine isx_call ?_; refine k_call ((hnu _ _)) [2, 3] [2, 3] [0, 1, 4] rfl rfl rfl rfl rfl rfl rfl rfl ?_ (hin := allD_bd _ _ _ _ _ _ _) (hD := onD_bd _ _ _ _ _ _ _); rintro v_ Lo_ ⟨A_, c_, rfl, rfl⟩) | refine wz ?_ | (refine wzb ?_; intro b_) | fail)
    exact bq_end (ret_none rfl) [_, _] (Gives.pick [0, 1] (by decide) rfl) rfl ⟨_, _, rfl, rfl⟩
  rw [if_neg e6]
  have g6 : (x.k == 6#8) = false := by rw [beq_eq_false_iff_ne]; exact e6
  repeat (first | ((first | (apply lx_gt; exact rfl; exact rfl; exact rfl) | (apply lx_u; exact rfl) | (apply lx_g; exact rfl; exact rfl)); first | (apply isy_bin_eql; exact yl_false (q_beq x.k 1#8 rfl rfl rfl rfl) (fun _ => g1)) | fail) | refine wzf ?_ | (refine wzb ?_; intro b_) | fail)
  refine cx_cond rfl (fun h => absurd h (by decide)) (fun _ => ?_)
  repeat (first | ((first | (apply lx_gt; exact rfl; exact rfl; exact rfl) | (apply lx_u; exact rfl) | (apply lx_g; exact rfl; exact rfl)); first | (apply isy_bin_eql; exact yl_false (q_beq x.k 2#8 rfl rfl rfl rfl) (fun _ => g2)) | fail) | refine wzf ?_ | (refine wzb ?_; intro b_) | fail)
  refine cx_cond rfl (fun h => absurd h (by decide)) (fun _ => ?_)
  repeat (first | ((first | (apply lx_gt; exact rfl; exact rfl; exact rfl) | (apply lx_u; exact rfl) | (apply lx_g; exact rfl; exact rfl)); first | (apply isy_bin_eql; exact yl_false (q_beq x.k 3#8 rfl rfl rfl rfl) (fun _ => g3)) | fail) | refine wzf ?_ | (refine wzb ?_; intro b_) | fail)
  refine cx_cond rfl (fun h => absurd h (by decide)) (fun _ => ?_)
  repeat (first | ((first | (apply lx_gt; exact rfl; exact rfl; exact rfl) | (apply lx_u; exact rfl) | (apply lx_g; exact rfl; exact rfl)); first | (apply isy_bin_eql; exact yl_false (q_beq x.k 4#8 rfl rfl rfl rfl) (fun _ => g4)) | fail) | refine wzf ?_ | (refine wzb ?_; intro b_) | fail)
  refine cx_cond rfl (fun h => absurd h (by decide)) (fun _ => ?_)
  repeat (first | ((first | (apply lx_gt; exact rfl; exact rfl; exact rfl) | (apply lx_u; exact rfl) | (apply lx_g; exact rfl; exact rfl)); first | (apply isy_bin_eql; exact yl_false (q_beq x.k 5#8 rfl rfl rfl rfl) (fun _ => g5)) | fail) | refine wzf ?_ | (refine wzb ?_; intro b_) | fail)
  refine cx_cond rfl (fun h => absurd h (by decide)) (fun _ => ?_)
  repeat (first | ((first | (apply lx_gt; exact rfl; exact rfl; exact rfl) | (apply lx_u; exact rfl) | (apply lx_g; exact rfl; exact rfl)); first | (apply isy_bin_eql; exact yl_false (q_beq x.k 7#8 rfl rfl rfl rfl) (fun _ => g7)) | fail) | refine wzf ?_ | (refine wzb ?_; intro b_) | fail)
  refine cx_cond rfl (fun h => absurd h (by decide)) (fun _ => ?_)
  repeat (first | ((first | (apply lx_gt; exact rfl; exact rfl; exact rfl) | (apply lx_u; exact rfl) | (apply lx_g; exact rfl; exact rfl)); first | (apply isy_bin_eql; exact yl_false (q_beq x.k 6#8 rfl rfl rfl rfl) (fun _ => g6)) | fail) | refine wzf ?_ | (refine wzb ?_; intro b_) | fail)
  refine cx_cond rfl (fun h => absurd h (by decide)) (fun _ => ?_)
  repeat (first | refine wz ?_ | (refine wzb ?_; intro b_) | fail)
  exact bq_end (ret_none rfl) [_, _] (Gives.pick [1, 2] (by decide) rfl) rfl ⟨_, _, rfl, rfl⟩
end
end Go.Proofs.YtmochicneilhhaaGreat.sc
