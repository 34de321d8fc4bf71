/- scripts: what is read, written, and read again: plainly. scripts: ScriptBack. -/
import Derived.Test.YtmochicneilhhaaGreatPGo
import Derived.Test.YtmochicneilhhaaGreatPTn
import Derived.Test.YtmochicneilhhaaGreatPUe
namespace Go.Proofs.YtmochicneilhhaaGreat.sc
open Go.RowKit Go.Proofs.YtmochicneilhhaaGreat.kit Go.Proofs.YtmochicneilhhaaGreat.pk Go.Proofs.YtmochicneilhhaaGreat.rq Go.Proofs.YtmochicneilhhaaGreat.ev Go.Proofs.YtmochicneilhhaaGreat.win
def encS (n : Int) (x : SP) : List B8 := (wstep n ([], false) x).1
def goodS (n : Int) (x : SP) : Prop := (wstep n ([], false) x).2 = false
theorem good_step {n : Int} {x : SP} (h : goodS n x) : (1 ≤ x.k.toNat ∧ x.k.toNat ≤ 7) ∧ (0 ≤ x.cl ∧ x.cl < n) ∧ (x.k = 4#8 → x.op.right = 0) ∧ (x.k ≠ 4#8 → x.op = zeroO) ∧ (x.k ≠ 1#8 → x.bs = []) ∧ (x.k ≠ 6#8 → x.by_ = 0#64) := by
  unfold goodS at h
  obtain ⟨h1, h2, h3⟩ := wstep_good h
  rw [wstep_in _ h1 h2 h3] at h
  unfold blankQ at h3
  have hf : ∀ a : SP, a = x → a.op = x.op ∧ a.bs = x.bs ∧ a.by_ = x.by_ := fun a e => by rw [e]; exact ⟨rfl, rfl, rfl⟩
  have h4 := hf _ h3
  clear hf h3
  by_cases e1 : x.k = 1#8
  · rw [if_pos e1] at h4
    exact ⟨by rw [e1]; decide, ⟨h1, h2⟩, fun e => absurd (e1.symm.trans e) (by decide), fun _ => h4.1.symm, fun e => absurd e1 e, fun _ => h4.2.2.symm⟩
  rw [if_neg e1] at h h4
  by_cases e4 : x.k = 4#8
  · rw [if_neg (by rw [e4]; decide), if_pos e4] at h4
    rw [if_neg (by rw [e4]; decide), if_neg (by rw [e4]; decide), if_pos e4] at h
    have hem := em_op x.op ([], false || x.op.right != 0)
    rw [hem] at h
    dsimp only at h
    refine ⟨by rw [e4]; decide, ⟨h1, h2⟩, fun _ => ?_, fun e => absurd e4 e, fun _ => h4.2.1.symm, fun _ => h4.2.2.symm⟩
    rw [Bool.or_eq_false_iff] at h
    simpa using h.1
  by_cases e6 : x.k = 6#8
  · rw [if_neg (by rw [e6]; decide), if_neg e4, if_pos e6] at h4
    exact ⟨by rw [e6]; decide, ⟨h1, h2⟩, fun e => absurd e e4, fun _ => h4.1.symm, fun _ => h4.2.1.symm, fun e => absurd e6 e⟩
  have h5 : x.op = zeroO ∧ x.bs = [] ∧ x.by_ = 0#64 := by
    rw [if_neg e4, if_neg e6] at h4
    by_cases e2 : x.k = 2#8 ∨ x.k = 3#8
    · rw [if_pos e2] at h4; exact ⟨h4.1.symm, h4.2.1.symm, h4.2.2.symm⟩
    · rw [if_neg e2] at h4; exact ⟨h4.1.symm, h4.2.1.symm, h4.2.2.symm⟩
  refine ⟨?_, ⟨h1, h2⟩, fun e => absurd e e4, fun _ => h5.1, fun _ => h5.2.1, fun _ => h5.2.2⟩
  rw [if_neg e4] at h
  by_cases e2 : x.k = 2#8
  · rw [e2]; decide
  by_cases e3 : x.k = 3#8
  · rw [e3]; decide
  by_cases e5 : x.k = 5#8
  · rw [e5]; decide
  by_cases e7 : x.k = 7#8
  · rw [e7]; decide
  rw [if_neg e2, if_neg e3, if_neg e5, if_neg e7, if_neg e6] at h
  cases h
theorem enc_all {n : Int} : ∀ (ss : List SP) (w : Wt), (∀ x ∈ ss, goodS n x) → ss.foldl (wstep n) w = (w.1 ++ ss.flatMap (encS n), w.2)
  | [], w, _ => by simp
  | x :: ss, w, h => by
    have hx := em_step n x w
    dsimp only at hx
    have hg : (wstep n ([], false) x).2 = false := h x (List.mem_cons_self ..)
    rw [hg, Bool.or_false] at hx
    rw [List.foldl_cons, hx, enc_all ss _ fun y hy => h y (List.mem_cons_of_mem _ hy)]
    dsimp only
    rw [List.flatMap_cons, List.append_assoc]
    rfl
theorem read_good {n : Nat} (hn : 1 ≤ n) (l : List B8) : ∀ (d v : Nat), l.length - v ≤ d → ∀ x ∈ readS l n v, goodS n x
  | d, v, hd, x, hx => by
    by_cases hv : v < l.length
    · rw [readS_lt hv] at hx
      have hgt := stepQ_gt l n v
      rcases List.mem_cons.1 hx with rfl | hx
      · exact (step_ok hn l v).1
      · match d with
        | 0 => omega
        | d + 1 => exact read_good hn l d _ (by omega) x hx
    · rw [readS_ge hv] at hx
      cases hx
theorem read_len {n : Nat} (hn : 1 ≤ n) (l : List B8) : ∀ (d v : Nat), l.length - v ≤ d → v < l.length → (∀ x ∈ readS l n v, x.bs.length ≤ 1000) → v + ((readS l n v).flatMap (encS n)).length ≤ l.length + 1020
  | d, v, hd, hv, hb => by
    have hgt := stepQ_gt l n v
    have hso := (step_ok hn l v).2
    rw [readS_lt hv] at hb ⊢
    have hb0 := hb _ (List.mem_cons_self ..)
    have hb1 : ∀ x ∈ readS l n (stepQ l n v).2, x.bs.length ≤ 1000 := fun x hx => hb x (List.mem_cons_of_mem _ hx)
    have hle := wstep_len n ([], false) (stepQ l n v).1
    rw [List.flatMap_cons, List.length_append]
    have he : (encS n (stepQ l n v).1).length = (wstep n ([], false) (stepQ l n v).1).1.length := rfl
    rw [he]
    simp only [List.length_nil] at hle
    generalize (wstep n ([], false) (stepQ l n v).1).1.length = q at *
    by_cases hv2 : (stepQ l n v).2 < l.length
    · match d with
      | 0 => omega
      | d + 1 =>
        have := read_len hn l d _ (by omega) hv2 hb1
        omega
    · rw [readS_ge hv2]
      show v + (q + 0) ≤ _
      omega
theorem back_read {n : Nat} (hn : n ≤ 8) : ∀ (ss : List SP) (p : List B8), (∀ x ∈ ss, goodS n x) → readS (p ++ ss.flatMap (encS n)) n p.length = ss
  | [], p, _ => by
    rw [readS_ge]
    simp
  | x :: ss, p, h => by
    have hb := step_back hn (h x (List.mem_cons_self ..)) (ss.flatMap (encS n))
    have hgt := stepQ_gt ((wstep n ([], false) x).1 ++ ss.flatMap (encS n)) n 0
    rw [hb] at hgt
    have hsh := stepQ_shift p ((wstep n ([], false) x).1 ++ ss.flatMap (encS n)) n 0
    rw [hb] at hsh
    dsimp only at hsh hgt
    rw [Nat.add_zero] at hsh
    have ih := back_read hn ss (p ++ (wstep n ([], false) x).1) fun y hy => h y (List.mem_cons_of_mem _ hy)
    rw [List.append_assoc, List.length_append] at ih
    rw [List.flatMap_cons]
    show readS (p ++ ((wstep n ([], false) x).1 ++ _)) n p.length = _
    rw [readS_lt (by rw [List.length_append, List.length_append]; omega), hsh]
    dsimp only
    rw [ih]
def bytesQ (l : List B8) : List B8 := guessQ (cfgQ l) ++ (readS l (clientsQ l) 9).flatMap (encS (clientsQ l))
theorem cfg_cl (l : List B8) : (cfgQ l).cl = (clientsQ l : Nat) := by
  unfold cfgQ clientsQ
  dsimp only
  omega
theorem write_read (l : List B8) (hl : l.length ≤ 15000) (hb : ∀ x ∈ readS l (clientsQ l) 9, x.bs.length ≤ 1000) : writeQ (cfgQ l) (readS l (clientsQ l) 9) = (bytesQ l, 0) ∧ (bytesQ l).length ≤ 16384 := by
  have hn1 : 1 ≤ clientsQ l := Nat.succ_pos _
  have hg := read_good hn1 l (l.length - 9) 9 (Nat.le_refl _)
  have hw := cfg_same (cfg_flag l)
  have hlen : (bytesQ l).length ≤ 16384 := by
    unfold bytesQ
    have h9 : (guessQ (cfgQ l)).length = 9 := rfl
    rw [List.length_append, h9]
    by_cases hv : 9 < l.length
    · have := read_len hn1 l (l.length - 9) 9 (Nat.le_refl _) hv hb
      omega
    · rw [readS_ge hv]
      exact Nat.le_of_ble_eq_true rfl
  refine ⟨?_, hlen⟩
  have hq : writeW (cfgQ l) (readS l (clientsQ l) 9) = (bytesQ l, false) := by
    unfold writeW
    rw [cfg_cl, enc_all _ _ hg, hw]
    rfl
  unfold writeQ
  rw [hq]
  dsimp only
  rw [if_neg Bool.false_ne_true, if_neg (by omega)]
theorem read_back (l : List B8) : cfgQ (bytesQ l) = cfgQ l ∧ readS (bytesQ l) (clientsQ (bytesQ l)) 9 = readS l (clientsQ l) 9 := by
  have hc : cfgQ (bytesQ l) = cfgQ l := cfg_back (cfg_flag l) _
  have hcl : clientsQ (bytesQ l) = clientsQ l := by
    have h1 := cfg_cl (bytesQ l)
    rw [hc, cfg_cl] at h1
    omega
  refine ⟨hc, ?_⟩
  rw [hcl]
  exact back_read (by unfold clientsQ; omega) _ _ (read_good (Nat.succ_pos _) l (l.length - 9) 9 (Nat.le_refl _))
end Go.Proofs.YtmochicneilhhaaGreat.sc
namespace Go.Proofs.YtmochicneilhhaaGreat.sc
open Go.RowKit Go.Proofs.YtmochicneilhhaaGreat.kit Go.Proofs.YtmochicneilhhaaGreat.pk Go.Proofs.YtmochicneilhhaaGreat.rq Go.Proofs.YtmochicneilhhaaGreat.ev Go.Proofs.YtmochicneilhhaaGreat.win
theorem good_key {n : Int} {x : SP} (h : goodS n x) : x.op.key.length ≤ 9223372036854775807 := by
  obtain ⟨_, _, h3, h4, _, _⟩ := good_step h
  by_cases e : x.k = 4#8
  · obtain ⟨h5, h6, _⟩ := right_cases (h3 e)
    by_cases hk : 32 < x.op.key.length
    · rcases h5 with h5 | h5
      · exact absurd (.inl ⟨h5, .inr hk⟩) h6
      · refine absurd (.inr ⟨h5, .inl fun h0 => ?_⟩) h6
        rw [h0] at hk
        exact absurd hk (by decide)
    · omega
  · rw [h4 e]
    exact Nat.zero_le _
attribute [local irreducible] LX CX Yl Gives RetIs Fn
attribute [local irreducible] be de fr.frm fr.takeF
set_option maxRecDepth 100000 in
set_option maxHeartbeats 8000000 in
theorem back_fn (A : Option Addr) (n c : Nat) (l : List B8) (hl : l.length = n) (hc : n ≤ c ∧ c ≤ 9223372036854775807) : Fn Tryz.prog 5 [.slice A n c] [.ro A n 1 (bvs l)] [] fun v Lo => v = .bool true ∧ Lo = [] := by
  subst hl
  refine fn_enter Tryz.func5 rfl rfl (by kernel_rfl) rfl ?_
  intro w0
  repeat (first | refine wz ?_ | (refine wzb ?_; intro b_) | fail)
  refine cx_cond rfl (fun h => ?_) (fun h => ?_)
  · repeat (first | (refine isx_call ?_; refine k_gcall (works_fn) (fun _ hm => in_nil hm) rfl rfl rfl rfl rfl rfl ?_) | refine wz ?_ | (refine wzb ?_; intro b_) | fail)
    exact bq_ret (ret_tmp rfl rfl) [] (Gives.nil _) rfl ⟨rfl, rfl⟩
  have h1500 : l.length ≤ 1500 := by simp at h; omega
  clear h
  have hcut : l.take 16384 = l := List.take_of_length_le (by omega)
  have hrc := cfg_right l
  have hccl := cfg_cl l
  obtain ⟨C, hC⟩ : ∃ C, cfgQ l = C := ⟨_, rfl⟩
  have hread := (read_fn A l.length c l l rfl hc hcut).mono fun _ _ => read_val hC
  have hcr := cright_fn C
  rw [hC] at hrc hccl
  rw [hrc] at hcr
  have hgood := read_good (n := clientsQ l) (Nat.succ_pos _) l (l.length - 9) 9 (Nat.le_refl _)
  repeat (first | (refine isx_call ?_; (refine isx_call ?_; refine lx_call0 (hread) ((fun w hm => in_ro (row_ro 0 rfl hm) (in_nil hm) rfl)) rfl rfl rfl rfl rfl rfl rfl rfl ?_; rintro v_ Lo_ ⟨A7, c7, xs, rfl, hxs, fit, le, rfl⟩)) | refine wz ?_ | (refine wzb ?_; intro b_) | fail)
  generalize b_ = b3
  refine lx_weak (L' := [.blk b3 C.cells 34, .own A7 xs.length c7 47 8 (scells xs), .ro A l.length 1 (bvs l)] ++ sbods xs) Gives.mid2 ?_
  repeat (first | (refine isx_call ?_; refine lx_gcallt (hcr) (fun _ hm => in_nil hm) rfl rfl rfl rfl rfl rfl rfl ?_) | refine wzf ?_ | (refine wzb ?_; intro b_) | fail)
  refine cx_cond rfl (fun h => absurd h (by decide)) (fun _ => ?_)
  repeat (first | refine wz ?_ | (refine wzb ?_; intro b_) | fail)
  refine cx_loop (α := { i : Nat // i ≤ xs.length }) (fun x => [(3, none, .pointer (some ⟨b3, 0, none⟩)), (4, none, .slice A7 xs.length c7), (5, none, .int .i64 x.1)]) (fun _ => [.own A7 xs.length c7 47 8 (scells xs), .blk b3 C.cells 34] ++ sbods xs) (fun x => xs.length - x.1) ⟨0, Nat.zero_le _⟩ ⟨rfl, rfl, rfl, trivial⟩ (Gives.pre [_, _, _] [1, 0] (by decide) rfl rfl) ?_
  rintro ⟨i, hi⟩
  dsimp only
  repeat (first | refine wz ?_ | (refine wzb ?_; intro b_) | fail)
  refine cx_cond rfl (fun h => ?_) (fun h => ?_)
  · have hlt : i < xs.length := by simp at h; omega
    clear h
    obtain ⟨x, hx⟩ : ∃ x, xs[i]? = some x := ⟨_, List.getElem?_eq_getElem hlt⟩
    have hxm := List.mem_of_getElem? hx
    have hgx := good_step (hgood x.sp (hxs ▸ List.mem_map.2 ⟨x, hxm, rfl⟩))
    have hfx := fit x hxm
    have hcell := scells_at hx
    have hev := right_fn x.op (good_key (hgood x.sp (hxs ▸ List.mem_map.2 ⟨x, hxm, rfl⟩)))
    repeat (first | ((first | (apply lx_u; exact rfl) | (apply lx_g; exact rfl; exact rfl)); first | (apply isy_indexAddr; exact q_ixo 0 rfl rfl rfl rfl rfl) | (apply isy_load; exact q_lno 0 rfl rfl rfl rfl hcell rfl rfl) | (apply isy_bin_neq; exact yl_nes op_eq_g rfl rfl (fun w => op_eq x.op ⟨0#8, [], 0, 0⟩ w) (by first | exact fun _ => rfl | exact fun h => h | exact fun h => (Bool.and_eq_true_iff.1 h).1) (by first | exact fun _ => rfl | exact fun h => h | exact fun h => (Bool.and_eq_true_iff.1 h).1)) | fail) | (refine isx_call ?_; refine k_gcall (hev) (fun _ hm => in_nil hm) rfl rfl rfl rfl rfl rfl ?_) | refine wz ?_ | (refine wzb ?_; intro b_) | fail)
    obtain ⟨g1, g2, g3, g4, g5, g6⟩ := hgx
    have g1' : 1 ≤ x.k.toNat ∧ x.k.toNat ≤ 7 := g1
    have g2' : 0 ≤ x.cl ∧ x.cl < C.cl := by rw [hccl]; exact g2
    have g5' : x.k ≠ 1#8 → x.r.n = 0 := fun h0 => by
      have h1 : x.r.l = [] := g5 h0
      rw [← hfx.1, h1]
      rfl
    have g4' : x.k ≠ 4#8 → x.op = zeroO := g4
    have g3' : x.k = 4#8 → x.op.right = 0 := g3
    have g6' : x.k ≠ 6#8 → x.by_ = 0#64 := g6
    have hkn : ∀ q : Nat, q < 256 → (x.k.toNat : Int) ≠ (q : Int) → x.k ≠ BitVec.ofNat 8 q := fun q hq h0 h1 => by
      rw [h1, BitVec.toNat_ofNat, Nat.mod_eq_of_lt (by omega)] at h0
      exact h0 rfl
    refine cx_cond rfl (fun h => absurd h ?_) (fun _ => ?_)
    · simp only [Bool.or_eq_true, Bool.and_eq_true, decide_eq_true_eq, beq_iff_eq, bne_iff_ne, Bool.not_eq_true']
      rintro (((((((h | h) | h) | h) | ⟨h, h'⟩) | ⟨h, h'⟩) | ⟨h, h'⟩) | ⟨h, h'⟩)
      · omega
      · omega
      · omega
      · omega
      · exact h' (g3' (BitVec.eq_of_toNat_eq (by show _ = 4; omega)))
      · rw [g4' (hkn 4 (by decide) h)] at h'
        exact absurd h' (by decide)
      · rw [g5' (hkn 1 (by decide) h)] at h'
        exact h' rfl
      · rw [g6' (hkn 6 (by decide) h)] at h'
        exact h' rfl
    · repeat (first | refine wz ?_ | (refine wzb ?_; intro b_) | fail)
      exact ⟨⟨i + 1, by omega⟩, ⟨rfl, rfl, slot_int (by dsimp only; omega), trivial⟩, Gives.pre [_, _, _] [1, 2] (by decide) rfl rfl, by dsimp only; omega⟩
  · have hcc : C.eqB C = true := Cf.eqB_self C
    have hbs : ∀ x ∈ readS l (clientsQ l) 9, x.bs.length ≤ 1000 := fun y hy => by
      rw [← hxs] at hy
      obtain ⟨x, hx, rfl⟩ := List.mem_map.1 hy
      have := fit x hx
      show x.r.l.length ≤ 1000
      omega
    obtain ⟨hwq, hul⟩ := write_read l (by omega) hbs
    obtain ⟨hCu, hru⟩ := read_back l
    rw [hC] at hwq hCu
    rw [← hxs] at hwq hru hgood
    generalize bytesQ l = u at *
    have hfit2 : ∀ zs : List MS, zs.map MS.sp = xs.map MS.sp → Fit zs → Fit2 zs := fun zs hz hf x hx => ⟨by have := (hf x hx).2; omega, good_key (hgood x.sp (hz ▸ List.mem_map.2 ⟨x, hx, rfl⟩))⟩
    have hwr := write_fn C A7 xs.length c7 xs rfl (by omega) (hfit2 xs rfl fit) (fun y hy => (fit y hy).1)
    rw [hwq] at hwr
    dsimp only at hwr
    have hb : ∀ A' c' A'' c'', Fn Tryz.prog 15 [.slice A' u.length c', .slice A'' u.length c''] [.ro A' u.length 1 (bvs u), .ro A'' u.length 1 (bvs u)] [] fun v Lo => v = .bool true ∧ Lo = [] := fun A' c' A'' c'' => by
      have := kit.same_fn A' A'' u.length c' u.length c'' u u rfl rfl (by omega) (by omega)
      rwa [beq_self_eq_true] at this
    repeat (first | (refine isx_call ?_; (refine isx_call ?_; refine lx_call0 (hwr) ((fun w hm => sts_in (sts_own 0 hm rfl fun x hx => by simp [hx]) (in_nil hm) rfl)) rfl rfl rfl rfl rfl rfl rfl rfl ?_; rintro v_ Lo_ ⟨A8, c8, rfl, rfl⟩)) | refine wz ?_ | (refine wzb ?_; intro b_) | fail)
    refine lx_fact (fun w hm => own_cap 0 hm rfl) fun hc8 => ?_
    have hread2 := (read_fn A8 u.length c8 u u rfl hc8 (List.take_of_length_le hul)).mono fun _ _ => read_val hCu
    repeat (first | (refine isx_call ?_; (refine isx_call ?_; refine lx_call0 (hread2) ((fun w hm => own_ro 0 hm rfl)) rfl rfl rfl rfl rfl rfl rfl rfl ?_; rintro v_ Lo_ ⟨A9, c9, ys, rfl, hys, fity, ley, rfl⟩)) | refine wz ?_ | (refine wzb ?_; intro b_) | fail)
    generalize b_ = b9
    refine lx_weak (L' := [.blk b9 C.cells 34, .own A9 ys.length c9 47 8 (scells ys), .own A8 u.length c8 5 1 (bvs u), .own A7 xs.length c7 47 8 (scells xs), .blk b3 C.cells 34] ++ (sbods xs ++ sbods ys)) Gives.mid2 ?_
    rw [hru] at hys
    have hyl := map_len hys
    have hw2 := write_fn C A9 ys.length c9 ys rfl (by omega) (hfit2 ys hys fity) (fun y hy => (fity y hy).1)
    rw [hys, hwq] at hw2
    dsimp only at hw2
    have hr1 := refs_fn A9 ys.length c9 ys rfl (by omega) fity
    have hr2 := refs_fn A7 xs.length c7 xs rfl (by omega) fit
    repeat (first | ((first | (apply lx_gt; exact rfl; exact rfl; exact rfl) | (apply lx_u; exact rfl) | (apply lx_g; exact rfl; exact rfl)); first | (apply isy_bin_eql; exact yl_true (yl_op (E := EV) rfl) (fun _ => rfl)) | (apply isy_load; exact q_lr 5 rfl rfl rfl rfl rfl) | (apply isy_bin_eql; exact yl_true (yl_eqs cfe_g rfl rfl (fun w => cfe C C w) (by first | exact fun _ => rfl | exact fun h => h | exact fun h => (Bool.and_eq_true_iff.1 h).1) (by first | exact fun _ => rfl | exact fun h => h | exact fun h => (Bool.and_eq_true_iff.1 h).1)) (fun _ => hcc)) | fail) | (refine isx_call ?_; (refine isx_call ?_; refine lx_call0 (hw2) ((fun w hm => sts_in (sts_own 1 hm rfl fun x hx => by simp [hx]) (in_nil hm) rfl)) rfl rfl rfl rfl rfl rfl rfl rfl ?_; rintro v_ Lo_ ⟨A10, c10, rfl, rfl⟩)) | (refine isx_call ?_; (refine isx_call ?_; refine lx_call0 (hr1) ((fun w hm => sts_in (sts_own 2 hm rfl fun x hx => by simp [hx]) (in_nil hm) rfl)) rfl rfl rfl rfl rfl rfl rfl rfl ?_; rintro v_ Lo_ ⟨A11, c11, zs, rfl, hzs, fitz, rfl⟩)) | refine wzf ?_ | (refine wzb ?_; intro b_) | fail)
    refine lx_weak (L' := [.own A11 zs.length c11 68 8 (scells zs), .own A10 u.length c10 5 1 (bvs u), .blk b9 C.cells 34, .own A9 ys.length c9 47 8 (scells ys), .own A8 u.length c8 5 1 (bvs u), .own A7 xs.length c7 47 8 (scells xs), .blk b3 C.cells 34] ++ ((sbods xs ++ sbods ys) ++ sbods zs)) Gives.mid ?_
    repeat (first | (refine isx_call ?_; (refine isx_call ?_; refine lx_call0 (hr2) ((fun w hm => sts_in (sts_own 5 hm rfl fun x hx => by simp [hx]) (in_nil hm) rfl)) rfl rfl rfl rfl rfl rfl rfl rfl ?_; rintro v_ Lo_ ⟨A12, c12, us, rfl, hus, fitu, rfl⟩)) | refine wzf ?_ | (refine wzb ?_; intro b_) | fail)
    refine lx_weak (L' := [.own A12 us.length c12 68 8 (scells us), .own A11 zs.length c11 68 8 (scells zs), .own A10 u.length c10 5 1 (bvs u), .blk b9 C.cells 34, .own A9 ys.length c9 47 8 (scells ys), .own A8 u.length c8 5 1 (bvs u), .own A7 xs.length c7 47 8 (scells xs), .blk b3 C.cells 34] ++ (((sbods xs ++ sbods ys) ++ sbods zs) ++ sbods us)) Gives.mid ?_
    have hsame := same_law A11 A12 zs.length c11 us.length c12 zs us rfl rfl (hzs.trans (hys.trans hus.symm)) (by have := map_len hzs; omega)
    repeat (first | ((first | (apply lx_gt; exact rfl; exact rfl; exact rfl) | (apply lx_u; exact rfl) | (apply lx_g; exact rfl; exact rfl)); first | (apply isy_bin_eql; exact yl_true (yl_op (E := EV) rfl) (fun _ => rfl)) | fail) | (refine isx_call ?_; refine lx_gcallt (hsame) ((fun w hm => sts_in (sts_own 1 hm rfl fun x hx => by simp [hx]) (sts_in (sts_own 0 hm rfl fun x hx => by simp [hx]) (in_nil hm) rfl) rfl)) rfl rfl rfl rfl rfl rfl rfl ?_) | (refine isx_call ?_; refine lx_gcallt (hb A10 c10 A8 c8) ((fun w hm => in_ro (row_own 2 rfl hm) (in_ro (row_own 5 rfl hm) (in_nil hm) rfl) rfl)) rfl rfl rfl rfl rfl rfl rfl ?_) | (refine isx_call ?_; refine lx_gcallt (works_fn) (fun _ hm => in_nil hm) rfl rfl rfl rfl rfl rfl rfl ?_) | refine wzf ?_ | (refine wzb ?_; intro b_) | fail)
    exact bq_ret (ret_tmp rfl rfl) [] (Gives.nil _) rfl ⟨rfl, rfl⟩
end Go.Proofs.YtmochicneilhhaaGreat.sc
