/- scripts: ScriptKnown, from its long script on. scripts: ScriptKnown, from its loop over the steps on. scripts: ScriptKnown, from its loop over answers on. -/
import Derived.Test.YtmochicneilhhaaGreatPGo
import Derived.Test.YtmochicneilhhaaGreatPUk
namespace Go.Proofs.YtmochicneilhhaaGreat.sc
open Go.RowKit Go.Proofs.YtmochicneilhhaaGreat.kit Go.Proofs.YtmochicneilhhaaGreat.pk Go.Proofs.YtmochicneilhhaaGreat.rq Go.Proofs.YtmochicneilhhaaGreat.ev Go.Proofs.YtmochicneilhhaaGreat.win
/-- a code from its k-th part on -/
def tailC : Nat → Option Code → Option Code
  | 0, c => c
  | k + 1, some (.seq _ y) => tailC k (some y)
  | _ + 1, _ => none
def tailD (k : Nat) (c : Option Code) : Code := (tailC k c).getD .skip
theorem cx_open {P : Program} {n k : Nat} {M : Me} {Q : Post} {t : Fr} {L : List Ck} {b : Option Code} {c : Code} (hb : tailC k b = some c) (h : CX P n M c Q t L) : CX P n M (tailD k b) Q t L := by
  unfold tailD
  rw [hb]
  exact h
abbrev KCX (k : Nat) (w0 : World) (t : Fr) (L : List Ck) : Prop := CX Tryz.prog Tryz.f7.ntmps ⟨w0, []⟩ (tailD k Tryz.f7.body) (bodyQ Tryz.prog Tryz.f7 fun v Lo => v = .bool true ∧ Lo = []) t L
abbrev servS : SP := ⟨3#8, 0, [], zeroO, 0#64⟩
theorem step_zero {l : List B8} {n v : Nat} (h0 : at_ l v = 0) (h1 : at_ l (v + 1) = 0) : stepQ l n v = (servS, v + 2) := by
  unfold stepQ
  rw [h0]
  show serveQ l n (v + 1) = _
  unfold serveQ
  rw [h1, Nat.zero_mod]
  rfl
theorem zeros_read {l : List B8} {n : Nat} (hl : l.length = 16384) (h : ∀ i, i < 16383 → at_ l i = 0) (k : Nat) (hk : 2 * k ≤ 16374) : readS l n (16383 - 2 * k) = List.replicate k servS ++ readS l n 16383 := by
  induction k with
  | zero => rw [Nat.mul_zero, Nat.sub_zero, List.replicate_zero, List.nil_append]
  | succ k ih =>
    have hs := step_zero (n := n) (h (16383 - 2 * (k + 1)) (by omega)) (h (16383 - 2 * (k + 1) + 1) (by omega))
    rw [readS_lt (by omega), hs]
    dsimp only
    rw [show 16383 - 2 * (k + 1) + 2 = 16383 - 2 * k by omega, ih (by omega), List.replicate_succ]
    rfl
theorem zeros_all {l : List B8} {n : Nat} (hl : l.length = 16384) (h : ∀ i, i < 16383 → at_ l i = 0) : readS l n 9 = List.replicate 8187 servS ++ [(stepQ l n 16383).1] := by
  have hgt := stepQ_gt l n 16383
  have h1 : readS l n 16383 = [(stepQ l n 16383).1] := by rw [readS_lt (by omega), readS_ge (by omega)]
  have := zeros_read (n := n) hl h 8187 (by omega)
  rw [h1, show 16383 - 2 * 8187 = 9 from rfl] at this
  exact this
theorem feed_two (x : SP) : 2 ≤ (wfeed x ([], false)).1.length := by
  have hraw : 2 ≤ (wraw x ([], false)).1.length := by
    unfold wraw
    dsimp only
    rw [List.length_append, wput_len]
    dsimp only
    simp
    omega
  unfold wfeed
  split
  · split
    · exact hraw
    · rw [wask_eq]
      simp
  · exact hraw
theorem long_limit {l : List B8} (hl : l.length = 16384) (h : ∀ i, i < 16383 → at_ l i = 0) (h4 : at_ l 16383 = 4) : writeQ (cfgQ l) (readS l (clientsQ l) 9) = ([], 3) := by
  have hn1 : 1 ≤ clientsQ l := Nat.succ_pos _
  have hg := read_good hn1 l (l.length - 9) 9 (Nat.le_refl _)
  have hw := cfg_same (cfg_flag l)
  have hst : (stepQ l (clientsQ l) 16383).1.k = 1#8 := by
    unfold stepQ
    rw [h4]
    rfl
  rw [zeros_all hl h] at hg ⊢
  generalize (stepQ l (clientsQ l) 16383).1 = x at *
  have hgx : goodS (clientsQ l) x := hg x (List.mem_append.2 (.inr (List.mem_singleton.2 rfl)))
  have hx2 : 2 ≤ (encS (clientsQ l) x).length := by
    unfold encS
    obtain ⟨a, b, c⟩ := wstep_good hgx
    rw [wstep_in _ a b c, if_pos hst]
    exact feed_two x
  have hs2 : (encS (clientsQ l) servS).length = 2 := by
    unfold encS
    rw [wstep_in _ (by decide) (by show (0 : Int) < _; omega) rfl]
    rfl
  have hW : writeW (cfgQ l) (List.replicate 8187 servS ++ [x]) = (guessQ (cfgQ l) ++ (List.replicate 8187 servS ++ [x]).flatMap (encS (clientsQ l)), false) := by
    unfold writeW
    rw [cfg_cl, enc_all _ _ hg, hw]
  have hlen : ∀ k : Nat, ((List.replicate k servS).flatMap (encS (clientsQ l))).length = 2 * k := fun k => by
    induction k with
    | zero => rfl
    | succ k ih => rw [List.replicate_succ, List.flatMap_cons, List.length_append, hs2, ih]; omega
  have h9 : (guessQ (cfgQ l)).length = 9 := rfl
  unfold writeQ
  rw [hW]
  dsimp only
  rw [if_neg Bool.false_ne_true, if_pos]
  rw [List.length_append, h9, List.flatMap_append, List.length_append, hlen]
  simp only [List.flatMap_cons, List.flatMap_nil, List.append_nil]
  omega
attribute [local irreducible] LX CX Yl Gives RetIs Fn
attribute [local irreducible] be de fr.frm fr.takeF
theorem at_rep {n : Nat} (i : Nat) : at_ (List.replicate n 0#8) i = 0 := by
  unfold at_
  rw [List.getElem?_replicate]
  split <;> rename_i h
  · split at h
    · cases h; rfl
    · cases h
  · rfl
theorem bvs_rep (n : Nat) : List.replicate n (Value.int .u8 0) = bvs (List.replicate n 0#8) := by
  unfold bvs
  rw [List.map_replicate]
  rfl
abbrev zeroRQ : RQ := ⟨0#8, 0#32, 0#8, 0#16, 0#64, 0#64, 0#8, [], [], 0, 0⟩
theorem long_one {zs : List B8} (hz : zs = List.replicate 16400 0#8) (n : Nat) : (readS (zs.take 16384) n 9).length = 8188 := by
  have h1 : zs.take 16384 = List.replicate 16384 0#8 := by rw [hz, List.take_replicate]; rfl
  rw [zeros_all (by rw [h1, List.length_replicate]) (fun i _ => by rw [h1]; exact at_rep i), List.length_append, List.length_replicate]
  rfl
theorem long_two {zs : List B8} (hz : zs = List.replicate 16400 0#8) : ((zs.set 16383 4#8).take 16384).length = 16384 ∧ (∀ i, i < 16383 → at_ ((zs.set 16383 4#8).take 16384) i = 0) ∧ at_ ((zs.set 16383 4#8).take 16384) 16383 = 4 := by
  have hl : zs.length = 16400 := by rw [hz, List.length_replicate]
  refine ⟨by rw [List.length_take, List.length_set, hl]; rfl, fun i hi => ?_, ?_⟩
  · unfold at_
    rw [List.getElem?_take_of_lt (by omega), List.getElem?_set_ne (by omega)]
    have := at_rep (n := 16400) i
    rw [← hz] at this
    exact this
  · unfold at_
    rw [List.getElem?_take_of_lt (by omega), List.getElem?_set_self (by omega)]
    rfl
set_option maxHeartbeats 4000000 in
theorem known_long (w0 : World) : KCX 11 w0 [] [] := by
  have hfr := frames_fn zeroRQ
  obtain ⟨zs, hz⟩ : ∃ zs, zs = List.replicate 16400 0#8 := ⟨_, rfl⟩
  have hzl : zs.length = 16400 := by rw [hz, List.length_replicate]
  have hrep : List.replicate 16400 (Value.int .u8 0) = bvs zs := by rw [bvs_rep, hz]
  have h1 := long_one hz
  obtain ⟨h2, h3, h4⟩ := long_two hz
  obtain ⟨l1, hl1⟩ : ∃ l, zs.take 16384 = l := ⟨_, rfl⟩
  obtain ⟨zt, hzt⟩ : ∃ l, zs.set 16383 4#8 = l := ⟨_, rfl⟩
  have hztl : zt.length = 16400 := by rw [← hzt, List.length_set, hzl]
  rw [hzt] at h2 h3 h4
  obtain ⟨l2, hl2⟩ : ∃ l, zt.take 16384 = l := ⟨_, rfl⟩
  rw [hl1] at h1
  rw [hl2] at h2 h3 h4
  have hlim := long_limit h2 h3 h4
  have hlen2 : (readS l2 (clientsQ l2) 9).length = 8188 := by rw [zeros_all h2 h3, List.length_append, List.length_replicate]; rfl
  have hg2 := read_good (n := clientsQ l2) (Nat.succ_pos _) l2 (l2.length - 9) 9 (Nat.le_refl _)
  obtain ⟨C1, hC1⟩ : ∃ C, cfgQ l1 = C := ⟨_, rfl⟩
  obtain ⟨C2, hC2⟩ : ∃ C, cfgQ l2 = C := ⟨_, rfl⟩
  rw [hC2] at hlim
  clear hz h2 h3 h4
  refine cx_open rfl ?_
  repeat (first | refine wz ?_ | (refine wzb ?_; intro b_) | fail)
  refine lx_make (E := EV) 16400 rfl rfl rfl rfl rfl rfl rfl rfl rfl rfl rfl rfl rfl rfl (by decide) (by decide) (fun b => ?_)
  rw [hrep]
  refine lx_weak (Gives.blkown (m := 16400) (sz := 1) 0 rfl (by rw [bvs_len, hzl]) (by decide)) ?_
  have hr1 := (read_fn (some ⟨b, 0, none⟩) 16400 16400 zs l1 hzl (by decide) hl1).mono fun _ _ => read_val hC1
  repeat (first | (refine isx_call ?_; (refine isx_call ?_; refine lx_call0 (hr1) ((fun w hm => own_ro 0 hm rfl)) rfl rfl rfl rfl rfl rfl rfl rfl ?_; rintro v_ Lo_ ⟨A1, c1, xs, rfl, hxs, fit, le, rfl⟩)) | refine wz ?_ | (refine wzb ?_; intro b_) | fail)
  refine lx_weak (L' := [.own (some ⟨b, 0, none⟩) 16400 16400 5 1 (bvs zs)]) (Gives.right (_ :: _ :: sbods xs) [_]) ?_
  have hfit : mulI 16383 1 + 1 ≤ (bvs zs).length := by rw [bvs_len, hzl]; decide
  have hset : setL (bvs zs) (mulI 16383 1) [bv 4#8] = bvs zt := by rw [setL_at 4#8 (by omega), hzt]
  repeat (first | ((first | (apply lx_u; exact rfl) | (apply lx_g; exact rfl; exact rfl)); first | (apply isy_indexAddr; exact q_ixo 0 rfl rfl rfl rfl rfl (hb := (fun _ => by omega))) | fail) | (refine isx_store ?_; refine gSI 0 rfl rfl rfl rfl rfl rfl rfl rfl rfl (hfit) rfl ?_) | refine wz ?_ | (refine wzb ?_; intro b_) | fail)
  refine lx_weak (L' := [.own (some ⟨b, 0, none⟩) 16400 16400 5 1 (bvs zt)]) (show Gives [.own (some ⟨b, 0, none⟩) 16400 16400 5 1 (setL (bvs zs) (mulI 16383 1) [bv 4#8])] _ from by rw [hset]; exact Gives.refl _) ?_
  have hr2 := (read_fn (some ⟨b, 0, none⟩) 16400 16400 zt l2 hztl (by decide) hl2).mono fun _ _ => read_val hC2
  repeat (first | (refine isx_call ?_; (refine isx_call ?_; refine lx_call0 (hr2) ((fun w hm => own_ro 0 hm rfl)) rfl rfl rfl rfl rfl rfl rfl rfl ?_; rintro v_ Lo_ ⟨A2, c2, ys, rfl, hys, fit2, le2, rfl⟩)) | refine wz ?_ | (refine wzb ?_; intro b_) | fail)
  have hxl : ((xs.length : Int) == 8188) = true := by
    have := congrArg List.length hxs
    rw [List.length_map, h1] at this
    rw [this]
    rfl
  have hyl : ((ys.length : Int) == 8188) = true := by
    have := congrArg List.length hys
    rw [List.length_map, hlen2] at this
    rw [this]
    rfl
  rw [← hys] at hlim hg2
  have hw := write_fn C2 A2 ys.length c2 ys rfl (by omega) (fun x hx => ⟨by have := (fit2 x hx).2; omega, good_key (hg2 x.sp (List.mem_map.2 ⟨x, hx, rfl⟩))⟩) (fun y hy => (fit2 y hy).1)
  rw [hlim] at hw
  refine lx_weak (L' := [.blk b_ C2.cells 34, .own A2 ys.length c2 47 8 (scells ys), .own (some ⟨b, 0, none⟩) 16400 16400 5 1 (bvs zt)] ++ sbods ys) Gives.mid2 ?_
  repeat (first | ((first | (apply lx_gt; exact rfl; exact rfl; exact rfl) | (apply lx_u; exact rfl) | (apply lx_g; exact rfl; exact rfl)); first | (apply isy_bin_eql; exact yl_true (yl_op (E := EV) rfl) (fun _ => hxl)) | (apply isy_bin_eql; exact yl_true (yl_op (E := EV) rfl) (fun _ => hyl)) | (apply isy_bin_eql; exact yl_true (yl_op (E := EV) rfl) (fun _ => rfl)) | fail) | (refine isx_call ?_; (refine isx_call ?_; refine lx_call0 (hw) ((fun w hm => sts_in (sts_own 1 hm rfl fun x hx => by simp [hx]) (in_nil hm) rfl)) rfl rfl rfl rfl rfl rfl rfl rfl ?_; rintro v_ Lo_ ⟨A3, c3, rfl, rfl⟩)) | (refine isx_call ?_; refine lx_gcallt (hfr) (fun _ hm => in_nil hm) rfl rfl rfl rfl rfl rfl rfl ?_) | (refine isx_call ?_; refine lx_gcallt (works_fn) (fun _ hm => in_nil hm) rfl rfl rfl rfl rfl rfl rfl ?_) | refine wzf ?_ | (refine wzb ?_; intro b_) | fail)
  exact bq_ret (ret_tmp rfl rfl) [] (Gives.nil _) rfl ⟨rfl, rfl⟩
end Go.Proofs.YtmochicneilhhaaGreat.sc
namespace Go.Proofs.YtmochicneilhhaaGreat.sc
open Go.RowKit Go.Proofs.YtmochicneilhhaaGreat.kit Go.Proofs.YtmochicneilhhaaGreat.pk Go.Proofs.YtmochicneilhhaaGreat.rq Go.Proofs.YtmochicneilhhaaGreat.ev Go.Proofs.YtmochicneilhhaaGreat.win
theorem cut_one {xs : List MS} {i : Nat} {x : MS} (h : xs[i]? = some x) : cutL (scells xs) i (i + 1) 8 = scells [x] := by
  have h1 := scells_at h
  unfold cutL
  rw [show i + 1 - i = 1 by omega, Nat.one_mul]
  unfold cellsAt at h1
  rw [mulI_eq] at h1
  rw [h1]
  rfl
def Steps (m : Nat) (xs : List MS) : Prop := 3 ≤ xs.length ∧ xs.length ≤ m ∧ ∀ x ∈ xs, x.r.l.length = x.r.n
attribute [local irreducible] LX CX Yl Gives RetIs Fn
attribute [local irreducible] be de fr.frm fr.takeF
set_option maxRecDepth 100000 in
set_option maxHeartbeats 4000000 in
theorem known_steps (w0 : World) (b9 : Nat) (d : Cf) (A : Option Addr) (c : Nat) (xs : List MS) (hs : Steps 1000 xs) : KCX 10 w0 [(9, none, .pointer (some ⟨b9, 0, none⟩)), (10, none, .slice A xs.length c)] ([.own A xs.length c 47 8 (scells xs), .blk b9 d.cells 34] ++ sbods xs) := by
  obtain ⟨h3, hle, hsp⟩ := hs
  refine cx_open rfl ?_
  refine cx_seq_to (α := Unit) (fun _ => []) (fun _ => []) ?_ (fun _ => known_long w0)
  refine cx_fact (fun w hm => own_cap 0 hm rfl) fun hc => ?_
  refine cx_weakL (Gives.ownro 0 rfl) ?_
  repeat (first | refine wz ?_ | (refine wzb ?_; intro b_) | fail)
  refine cx_loop (α := { i : Nat // i ≤ xs.length }) (fun x => [(9, none, .pointer (some ⟨b9, 0, none⟩)), (10, none, .slice A xs.length c), (18, none, .int .i64 x.1)]) (fun _ => [.ro A xs.length 8 (scells xs), .blk b9 d.cells 34] ++ sbods xs) (fun x => xs.length - x.1) ⟨0, Nat.zero_le _⟩ ⟨rfl, rfl, rfl, trivial⟩ (Gives.refl _) ?_
  rintro ⟨i, hi⟩
  dsimp only
  repeat (first | refine wz ?_ | (refine wzb ?_; intro b_) | fail)
  refine cx_cond rfl (fun h => ?_) (fun h => ?_)
  · have hlt : i < xs.length := by simp at h; omega
    clear h
    obtain ⟨x, hx⟩ : ∃ x, xs[i]? = some x := ⟨_, List.getElem?_eq_getElem hlt⟩
    obtain ⟨x2, hx2⟩ : ∃ x, xs[2]? = some x := ⟨_, List.getElem?_eq_getElem (by omega)⟩
    have hxm := List.mem_of_getElem? hx
    have hxm2 := List.mem_of_getElem? hx2
    have hcx := scells_at hx
    have hcx2 := scells_at hx2
    have hbody : ∀ (L0 : List Ck) (z : MS), z ∈ xs → z.body ∈ L0 ++ sbods xs := fun L0 z hz => List.mem_append.2 (.inr (List.mem_map.2 ⟨z, List.mem_reverse.2 hz, rfl⟩))
    have hg : Gives ([.ro A xs.length 8 (scells xs), .blk b9 d.cells 34] ++ sbods xs) (.ro (cutA A c i 8) 1 8 (scells [x]) :: ([.ro A xs.length 8 (scells xs), .blk b9 d.cells 34] ++ sbods xs)) := by
      have := Gives.cut (L := [.ro A xs.length 8 (scells xs), .blk b9 d.cells 34] ++ sbods xs) 0 (lo := i) (hi := i + 1) rfl (by omega) (by omega) hc.1
      rw [cut_one hx, show i + 1 - i = 1 by omega] at this
      exact this
    refine cx_weakL hg ?_
    have hw1 := fun k => writes_fn d (cutA A c i 8) 1 (c - i) [x] k rfl (by decide) (fun y hy => by obtain rfl := List.mem_singleton.1 hy; exact hsp _ hxm)
    have hw2 := fun b => writes_fn d (some ⟨b, 0, none⟩) 2 2 [x2, x] 0#8 rfl (by decide) (fun y hy => by
      rcases List.mem_cons.1 hy with rfl | hy
      · exact hsp _ hxm2
      · obtain rfl := List.mem_singleton.1 hy; exact hsp _ hxm)
    repeat (first | refine wz ?_ | (refine wzb ?_; intro b_) | fail)
    refine cx_draw [8, 19, 20] _ rfl (by kernel_rfl) (Gives.refl _) ?_
    have hsl : Value.slice (cutA A c (i : Int).toNat 8) (((i : Int) + 1).toNat - (i : Int).toNat) (c - (i : Int).toNat) = .slice (cutA A c i 8) 1 (c - i) := by rw [Int.toNat_natCast, show ((i : Int) + 1).toNat = i + 1 by omega, Nat.add_sub_cancel_left]
    have h2n : 2 < xs.length := by omega
    repeat (first | ((first | (apply lx_gt; exact rfl; exact rfl; exact rfl) | (apply lx_u; exact rfl) | (apply lx_g; exact rfl; exact rfl)); first | (apply isy_slice; exact yl_eq (q_sl rfl rfl rfl rfl rfl) (fun _ => hsl)) | (apply isy_convert; exact q_ci uk8 rfl rfl rfl) | (apply isy_indexAddr; exact q_ix 1 rfl rfl rfl rfl rfl) | (apply isy_indexAddr; exact q_ix 1 rfl rfl rfl rfl rfl (hb := (fun _ => by omega))) | (apply isy_load; exact q_ln 1 rfl rfl rfl rfl hcx2 rfl rfl) | (apply isy_load; exact q_ln 1 rfl rfl rfl rfl hcx rfl rfl) | fail) | (refine isx_call ?_; refine lx_gcallt (hw1 (BitVec.ofInt 8 (i : Int))) ((fun w hm => sts_in ⟨row_ro 0 rfl hm, fun y hy => by obtain rfl := List.mem_singleton.1 hy; exact sbody_ok (hbody [_, _, _] _ hxm) hm⟩ (in_nil hm) rfl)) rfl rfl rfl rfl rfl rfl rfl ?_) | (refine isx_call ?_; refine lx_gcallt (hw2 _) ((fun w hm => sts_in ⟨row_blk 0 rfl rfl hm, fun y hy => by rcases List.mem_cons.1 hy with rfl | hy; exact sbody_ok (hbody [_, _, _, _] _ hxm2) hm; obtain rfl := List.mem_singleton.1 hy; exact sbody_ok (hbody [_, _, _, _] _ hxm) hm⟩ (in_nil hm) rfl)) rfl rfl rfl rfl rfl rfl rfl ?_) | refine wzf ?_ | (refine wzb ?_; intro b_) | fail)
    refine cx_cond rfl (fun h => absurd h (by decide)) (fun _ => ?_)
    repeat (first | refine wz ?_ | (refine wzb ?_; intro b_) | fail)
    exact ⟨⟨i + 1, by omega⟩, ⟨rfl, rfl, slot_int (by dsimp only; omega), trivial⟩, Gives.pre [_, _, _, _] [2, 3] (by decide) rfl rfl, by dsimp only; omega⟩
  · repeat (first | refine wz ?_ | (refine wzb ?_; intro b_) | fail)
    exact ⟨(), trivial, Gives.nil _⟩
end Go.Proofs.YtmochicneilhhaaGreat.sc
namespace Go.Proofs.YtmochicneilhhaaGreat.sc
open Go.RowKit Go.Proofs.YtmochicneilhhaaGreat.kit Go.Proofs.YtmochicneilhhaaGreat.pk Go.Proofs.YtmochicneilhhaaGreat.rq Go.Proofs.YtmochicneilhhaaGreat.ev Go.Proofs.YtmochicneilhhaaGreat.win
theorem remQ (p d : Nat) : (p : Int).tmod d = ((p % d : Nat) : Int) := by
  rw [Int.tmod_eq_emod_of_nonneg (by omega)]
  exact (Int.natCast_emod _ _).symm
theorem quoQ (p d : Nat) (h : p ≤ 1000) : IntKind.i64.wrap ((p : Int).tdiv d) = ((p / d : Nat) : Int) := by
  rw [Int.tdiv_eq_ediv_of_nonneg (by omega), ← Int.natCast_ediv, IntKind.wrap_i64]
  have : p / d ≤ p := Nat.div_le_self _ _
  generalize p / d = q at *
  omega
theorem atI_b0 (b off : Nat) : atI (some ⟨b, 0, none⟩) off = .pointer (some ⟨b, off, none⟩) := by
  unfold atI Addr.add
  simp only [Option.map_some]
  by_cases h : off = 0
  · simp [h]
  · simp [h]
theorem yl_loadB {P : Program} {n : Nat} {t : Fr} {L : List Ck} {E : Env P} {p c : Option Bool} {dst : Option Tmp} {T : TypeId} {x : Operand} {ty : TypeId} {pos : String} {after : Array Edge} {guard : Option (Nat × Bool)} {b off : Nat} {v : Value} (k : Nat) {cs : List Value} {T' : TypeId} {j : TyI} (hx : ov t x = some (c, atI (some ⟨b, 0, none⟩) off)) (hT : E.f T = some j) (hk : L[k]? = some (.blk b cs T'))
    (ha : isAggD j.desc = false) (hv : cs[off]? = some v) (hc : cb p = true → cb c = true) : Yl P n t L p ⟨dst, .load T x, ty, pos, after, guard⟩ v := by
  rw [atI_b0] at hx
  exact yl_loadV (E := E) k hx hT hk ha (fun _ => hv) hc
abbrev keys4 : List Value := [.string (sb [97#8]), .string (sb []), .string (sb [100#8]), .string (sb [101#8])]
abbrev keys2 : List Value := [.string (sb []), .string (sb [98#8])]
theorem keys4_at {i : Nat} (h : i < 4) : ∃ s, keys4[mulI ((i : Nat) : Int).toNat 1]? = some (.string (sb s)) := by
  have : i = 0 ∨ i = 1 ∨ i = 2 ∨ i = 3 := by omega
  rcases this with rfl | rfl | rfl | rfl <;> exact ⟨_, rfl⟩
theorem keys2_at {i : Nat} (h : i < 2) : ∃ s, keys2[mulI ((i : Nat) : Int).toNat 1]? = some (.string (sb s)) := by
  have : i = 0 ∨ i = 1 := by omega
  rcases this with rfl | rfl <;> exact ⟨_, rfl⟩
structure StSt (m k base : Nat) where
  n : Nat
  A : Option Addr
  c : Nat
  xs : List MS
  hn : n ≤ m
  ok : Steps (base + k * n) xs
theorem scells_app (xs ys : List MS) : scells (xs ++ ys) = scells xs ++ scells ys := by simp [scells]
theorem sbods_app (xs ys : List MS) : sbods (xs ++ ys) = sbods ys ++ sbods xs := by simp [sbods]
theorem scells_all (xs : List MS) : ∀ u ∈ scells xs, u.oneCell' = true := by
  intro u hu
  obtain ⟨x, _, hx⟩ := List.mem_flatMap.1 hu
  exact scells_one x u hx
theorem Steps.app {m k : Nat} {xs ys : List MS} (h : Steps m xs) (hy : ∀ y ∈ ys, y.r.l.length = y.r.n) (hk : ys.length = k) : Steps (m + k) (xs ++ ys) := by
  obtain ⟨h1, h2, h3⟩ := h
  refine ⟨by rw [List.length_append]; omega, by rw [List.length_append]; omega, fun y hy' => ?_⟩
  rcases List.mem_append.1 hy' with h' | h'
  · exact h3 y h'
  · exact hy y h'
abbrev feedM (A : Option Addr) (c : Nat) (r : RQ) : MS := ⟨1#8, 0, ⟨A, (frameQ r).length, c, frameQ r⟩, zeroO, 0#64⟩
attribute [local irreducible] LX CX Yl Gives RetIs Fn
attribute [local irreducible] be de fr.frm fr.takeF
set_option maxRecDepth 100000 in
set_option maxHeartbeats 8000000 in
theorem known_answers (w0 : World) (b9 : Nat) (d : Cf) (A : Option Addr) (c : Nat) (xs : List MS) (hs : Steps 500 xs) : KCX 9 w0 [(9, none, .pointer (some ⟨b9, 0, none⟩)), (10, none, .slice A xs.length c)] ([.own A xs.length c 47 8 (scells xs), .blk b9 d.cells 34] ++ sbods xs) := by
  refine cx_open rfl ?_
  refine cx_seq_to (α := StSt 8 2 500) (fun x => [(9, none, .pointer (some ⟨b9, 0, none⟩)), (10, none, .slice x.A x.xs.length x.c)]) (fun x => [.own x.A x.xs.length x.c 47 8 (scells x.xs), .blk b9 d.cells 34] ++ sbods x.xs) ?_ ?_
  rotate_left
  · intro x
    have hx := x.hn
    have ho := x.ok
    have hk := known_steps w0 b9 d x.A x.c x.xs ⟨ho.1, by have := ho.2.1; omega, ho.2.2⟩
    unfold KCX tailD at hk
    exact hk
  repeat (first | refine wz ?_ | (refine wzb ?_; intro b_) | fail)
  refine cx_loop (α := StSt 8 2 500) (fun x => [(9, none, .pointer (some ⟨b9, 0, none⟩)), (10, none, .slice x.A x.xs.length x.c), (15, none, .int .i64 x.n)]) (fun x => [.own x.A x.xs.length x.c 47 8 (scells x.xs), .blk b9 d.cells 34] ++ sbods x.xs) (fun x => 8 - x.n) ⟨0, A, c, xs, Nat.zero_le _, hs⟩ ⟨rfl, rfl, rfl, trivial⟩ (Gives.refl _) ?_
  rintro ⟨n, A, c, xs, hn, hs⟩
  dsimp only at hn hs ⊢
  repeat (first | refine wz ?_ | (refine wzb ?_; intro b_) | fail)
  refine cx_cond rfl (fun h => ?_) (fun h => ?_)
  · have hlt : n < 8 := by simp at h; omega
    clear h
    have m4 := remQ n 4
    have q4 := quoQ n 4 (by omega)
    obtain ⟨s1, hs1⟩ := keys4_at (i := n % 4) (by omega)
    obtain ⟨s2, hs2⟩ := keys2_at (i := n / 4) (by omega)
    have l4 : n % 4 < 4 := by omega
    have l2 : n / 4 < 2 := by omega
    repeat (first | refine wz ?_ | (refine wzb ?_; intro b_) | fail)
    refine cx_to (α := Nat) (fun b => [(9, none, .pointer (some ⟨b9, 0, none⟩)), (10, none, .slice A xs.length c), (15, none, .int .i64 n), (16, none, .pointer (some ⟨b, 0, none⟩))]) (fun b => [.blk b (⟨1#8, 3#32, 0#8, 0#16, 0#64, 0#64, 2#8, s1, s2, 0, 0⟩ : RQ).cells 52, .own A xs.length c 47 8 (scells xs), .blk b9 d.cells 34] ++ sbods xs) ?_ ?_
    · refine cx_tree [0, 4, 5, 9, 11, 12] [1, 2, 6, 7] (.alt 0 [3] (.alt 4 [] (.alt 5 [8] (.alt 9 [10] (.alt 11 [] (.alt 12 [] .fin .none) .none) (.alt 11 [] (.alt 9 [10] (.alt 12 [] .fin .none) .none) .none)) (.alt 11 [] (.alt 5 [8] (.alt 9 [10] (.alt 12 [] .fin .none) .none) .none) .none)) (.alt 5 [8] (.alt 4 [] (.alt 9 [10] (.alt 11 [] (.alt 12 [] .fin .none) .none) (.alt 11 [] (.alt 9 [10] (.alt 12 [] .fin .none) .none) .none)) (.alt 9 [] (.alt 4 [10] (.alt 11 [] (.alt 12 [] .fin .none) .none) (.alt 11 [] (.alt 4 [10] (.alt 12 [] .fin .none) .none) .none)) (.alt 11 [] (.alt 4 [] (.alt 9 [10] (.alt 12 [] .fin .none) .none) (.alt 9 [] (.alt 4 [10] (.alt 12 [] .fin .none) .none) .none)) .none))) (.alt 11 [] (.alt 4 [] (.alt 5 [8] (.alt 9 [10] (.alt 12 [] .fin .none) .none) .none) (.alt 5 [8] (.alt 4 [] (.alt 9 [10] (.alt 12 [] .fin .none) .none) (.alt 9 [] (.alt 4 [10] (.alt 12 [] .fin .none) .none) .none)) .none)) .none))) (.alt 5 [8] (.alt 0 [3] (.alt 4 [] (.alt 9 [10] (.alt 11 [] (.alt 12 [] .fin .none) .none) (.alt 11 [] (.alt 9 [10] (.alt 12 [] .fin .none) .none) .none)) (.alt 9 [] (.alt 4 [10] (.alt 11 [] (.alt 12 [] .fin .none) .none) (.alt 11 [] (.alt 4 [10] (.alt 12 [] .fin .none) .none) .none)) (.alt 11 [] (.alt 4 [] (.alt 9 [10] (.alt 12 [] .fin .none) .none) (.alt 9 [] (.alt 4 [10] (.alt 12 [] .fin .none) .none) .none)) .none))) (.alt 9 [] (.alt 0 [3] (.alt 4 [10] (.alt 11 [] (.alt 12 [] .fin .none) .none) (.alt 11 [] (.alt 4 [10] (.alt 12 [] .fin .none) .none) .none)) (.alt 11 [] (.alt 0 [3] (.alt 4 [10] (.alt 12 [] .fin .none) .none) .none) .none)) (.alt 11 [] (.alt 0 [3] (.alt 4 [] (.alt 9 [10] (.alt 12 [] .fin .none) .none) (.alt 9 [] (.alt 4 [10] (.alt 12 [] .fin .none) .none) .none)) (.alt 9 [] (.alt 0 [3] (.alt 4 [10] (.alt 12 [] .fin .none) .none) .none) .none)) .none))) (.alt 11 [] (.alt 0 [3] (.alt 4 [] (.alt 5 [8] (.alt 9 [10] (.alt 12 [] .fin .none) .none) .none) (.alt 5 [8] (.alt 4 [] (.alt 9 [10] (.alt 12 [] .fin .none) .none) (.alt 9 [] (.alt 4 [10] (.alt 12 [] .fin .none) .none) .none)) .none)) (.alt 5 [8] (.alt 0 [3] (.alt 4 [] (.alt 9 [10] (.alt 12 [] .fin .none) .none) (.alt 9 [] (.alt 4 [10] (.alt 12 [] .fin .none) .none) .none)) (.alt 9 [] (.alt 0 [3] (.alt 4 [10] (.alt 12 [] .fin .none) .none) .none) .none)) .none)) .none))) [] rfl (by kernel_rfl) (by kernel_rfl) (by kernel_rfl) (by kernel_rfl) (Gives.nil _) ?_
      generalize n % 4 = a4 at *
      generalize n / 4 = a2 at *
      repeat (first | ((first | (apply lx_u; exact rfl) | (apply lx_g; exact rfl; exact rfl)); first | (apply isy_bin_rem; exact yl_eq (q_rem rfl rfl) (fun _ => congrArg (Value.int .i64) m4)) | (apply isy_bin_quo; exact yl_eq (q_quo rfl rfl) (fun _ => congrArg (Value.int .i64) q4)) | fail) | refine wz ?_ | (refine wzb ?_; intro b_) | fail)
      repeat' (first | (refine ⟨Gives.nil _, ?_, ?_, ?_, trivial⟩) | (refine ⟨Gives.nil _, ?_, ?_, trivial⟩) | (refine ⟨Gives.nil _, ?_, trivial⟩) | exact ⟨Gives.nil _, _, ⟨rfl, rfl, rfl, rfl, trivial⟩, Gives.pre [_, _, _, _, _] [0, 3, 4] (by decide) rfl rfl⟩ | exact ⟨Gives.nil _, _, ⟨rfl, rfl, rfl, rfl, trivial⟩, Gives.pre [_, _, _, _, _] [1, 3, 4] (by decide) rfl rfl⟩ | exact ⟨Gives.nil _, _, ⟨rfl, rfl, rfl, rfl, trivial⟩, Gives.pre [_, _, _, _, _] [2, 3, 4] (by decide) rfl rfl⟩ | (first | ((first | (apply lx_u; exact rfl) | (apply lx_g; exact rfl; exact rfl)); first | (apply isy_indexAddr; exact q_xs rfl rfl rfl rfl) | fail) | (refine isx_load ?_; refine lx_val rfl rfl rfl rfl rfl (yl_loadB (E := EV) 0 rfl rfl rfl rfl hs1 (by first | exact fun _ => rfl | exact fun h => h | exact fun h => (Bool.and_eq_true_iff.1 h).1)) ?_) | (refine isx_load ?_; refine lx_val rfl rfl rfl rfl rfl (yl_loadB (E := EV) 0 rfl rfl rfl rfl hs2 (by first | exact fun _ => rfl | exact fun h => h | exact fun h => (Bool.and_eq_true_iff.1 h).1)) ?_) | (refine isx_load ?_; refine lx_val rfl rfl rfl rfl rfl (yl_loadB (E := EV) 1 rfl rfl rfl rfl hs1 (by first | exact fun _ => rfl | exact fun h => h | exact fun h => (Bool.and_eq_true_iff.1 h).1)) ?_) | (refine isx_load ?_; refine lx_val rfl rfl rfl rfl rfl (yl_loadB (E := EV) 1 rfl rfl rfl rfl hs2 (by first | exact fun _ => rfl | exact fun h => h | exact fun h => (Bool.and_eq_true_iff.1 h).1)) ?_) | (refine isx_load ?_; refine lx_val rfl rfl rfl rfl rfl (yl_loadB (E := EV) 2 rfl rfl rfl rfl hs1 (by first | exact fun _ => rfl | exact fun h => h | exact fun h => (Bool.and_eq_true_iff.1 h).1)) ?_) | (refine isx_load ?_; refine lx_val rfl rfl rfl rfl rfl (yl_loadB (E := EV) 2 rfl rfl rfl rfl hs2 (by first | exact fun _ => rfl | exact fun h => h | exact fun h => (Bool.and_eq_true_iff.1 h).1)) ?_) | (refine isx_store ?_; refine gS 0 rfl rfl rfl rfl rfl rfl rfl rfl rfl rfl ?_ (hgs := fun _ => Gives.pick [] (by decide) rfl)) | (refine isx_store ?_; refine gS 1 rfl rfl rfl rfl rfl rfl rfl rfl rfl rfl ?_ (hgs := fun _ => Gives.pick [] (by decide) rfl)) | (refine isx_store ?_; refine gS 2 rfl rfl rfl rfl rfl rfl rfl rfl rfl rfl ?_ (hgs := fun _ => Gives.pick [] (by decide) rfl)) | refine wz ?_ | (refine wzb ?_; intro b_) | fail))
    · intro b
      have hf1 := frame_fn ⟨1#8, 3#32, 0#8, 0#16, 0#64, 0#64, 2#8, s1, s2, 0, 0⟩
      have hf2 := frame_fn ⟨8#8, BitVec.ofInt 32 (254 + (n : Int)), 0#8, 0#16, 0#64, 0#64, 0#8, [], [], 0, 0⟩
      repeat (first | ((first | (apply lx_u; exact rfl) | (apply lx_g; exact rfl; exact rfl)); first | (apply isy_convert; exact q_ci uk32 rfl rfl rfl) | fail) | refine wz ?_ | (refine wzb ?_; intro b_) | fail)
      generalize b_ = b2
      refine cx_draw [2, 5, 7, 8] [.blk b2 (⟨8#8, BitVec.ofInt 32 (254 + (n : Int)), 0#8, 0#16, 0#64, 0#64, 0#8, [], [], 0, 0⟩ : RQ).cells 52, .blk b (⟨1#8, 3#32, 0#8, 0#16, 0#64, 0#64, 2#8, s1, s2, 0, 0⟩ : RQ).cells 52] rfl (by kernel_rfl) ((Gives.pre [_, _, _, _] [0, 1] (by decide) rfl rfl).trans (Gives.left _ _)) ?_
      repeat (first | (refine isx_call ?_; (refine isx_call ?_; refine lx_call0 (hf1) (fun _ hm => in_nil hm) rfl rfl rfl rfl rfl rfl rfl rfl ?_; rintro v_ Lo_ ⟨A1, c1, rfl, rfl⟩)) | (refine isx_call ?_; (refine isx_call ?_; refine lx_call0 (hf2) (fun _ hm => in_nil hm) rfl rfl rfl rfl rfl rfl rfl rfl ?_; rintro v_ Lo_ ⟨A2, c2, rfl, rfl⟩)) | refine wz ?_ | (refine wzb ?_; intro b_) | fail)
      obtain ⟨ys, hys⟩ : ∃ ys : List MS, [feedM A1 c1 ⟨1#8, 3#32, 0#8, 0#16, 0#64, 0#64, 2#8, s1, s2, 0, 0⟩, feedM A2 c2 ⟨8#8, BitVec.ofInt 32 (254 + (n : Int)), 0#8, 0#16, 0#64, 0#64, 0#8, [], [], 0, 0⟩] = ys := ⟨_, rfl⟩
      have hy2 : ys.length = 2 := by rw [← hys]; rfl
      have hyr : ∀ y ∈ ys, y.r.l.length = y.r.n := fun y hy => by
        rw [← hys] at hy
        rcases List.mem_cons.1 hy with rfl | hy
        · rfl
        · obtain rfl := List.mem_singleton.1 hy; rfl
      have hle := hs.2.1
      refine lx_append (E := EV) 5 rfl rfl rfl rfl rfl rfl rfl rfl rfl rfl rfl rfl rfl (news := scells ys) (fun w hm => by rw [← hys]; exact row_blk 0 rfl rfl hm) (scells_all ys) (by unfold maxLen; omega) (by show (_ + _) * 88 ≤ _; omega) (fun _ _ _ => (Gives.pre [_, _, _, _, _, _, _] [3, 4] (by decide) rfl rfl).trans (Gives.left _ _)) ?_
      intro A3 c3
      have hlen : (xs ++ ys).length = xs.length + 2 := by rw [List.length_append, hy2]
      rw [← scells_app, ← hlen]
      repeat (first | refine wz ?_ | (refine wzb ?_; intro b_) | fail)
      refine ⟨⟨n + 1, A3, c3, xs ++ ys, hlt, by have := hs.app hyr hy2; rw [show 500 + 2 * (n + 1) = 500 + 2 * n + 2 by omega]; exact this⟩, ⟨rfl, rfl, slot_int (by dsimp only; omega), trivial⟩, ?_, by dsimp only; omega⟩
      dsimp only
      rw [sbods_app, ← hys]
      exact Gives.pre [_, _, _, _, _, _, _] [5, 6, 1, 2] (by decide) rfl rfl
  · repeat (first | refine wz ?_ | (refine wzb ?_; intro b_) | fail)
    exact ⟨⟨n, A, c, xs, hn, hs⟩, ⟨rfl, rfl, trivial⟩, Gives.refl _⟩
end Go.Proofs.YtmochicneilhhaaGreat.sc
