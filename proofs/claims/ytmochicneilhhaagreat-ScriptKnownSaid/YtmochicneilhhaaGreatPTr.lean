/- scripts: the writer's configuration; Write. -/
import Derived.Test.YtmochicneilhhaaGreatPGo
import Derived.Test.YtmochicneilhhaaGreatPTq
namespace Go.Proofs.YtmochicneilhhaaGreat.sc
open Go.RowKit Go.Proofs.YtmochicneilhhaaGreat.kit Go.Proofs.YtmochicneilhhaaGreat.pk Go.Proofs.YtmochicneilhhaaGreat.rq Go.Proofs.YtmochicneilhhaaGreat.ev Go.Proofs.YtmochicneilhhaaGreat.win
abbrev badP (p : Int × Int) : Bool := decide (p.1 < 1) || decide (p.1 > p.2)
abbrev bcell (p : Int × Int) : List Value := [.int .i64 p.1, .int .i64 p.2]
abbrev bnds (c : Cf) : List (Int × Int) := [(c.ca, 4096), (c.pg, 64), (c.bu, 64), (c.qu, 16), (c.cl, 8), (c.le, 16)]
def rightC (c : Cf) : Bool := rightB c.k c.s c.l c.g && decide (c.la ≥ 0) && decide (c.la ≤ 1048576) && !(bnds c).any badP
attribute [local irreducible] LX CX Yl Gives RetIs Fn
theorem clo_fn (n m : Int) : Fn Tryz.prog 49 [.agg #[.int .i64 n, .int .i64 m]] [] [] fun v Lo => v = .bool (badP (n, m)) ∧ Lo = [] := by
  refine fn_enter Tryz.func49 rfl rfl (by kernel_rfl) rfl ?_
  intro w0
  repeat (first | ((first | (apply lx_u; exact rfl) | (apply lx_g; exact rfl; exact rfl)); first | (apply isy_load; exact q_lv 0 rfl rfl rfl rfl rfl) | fail) | refine wz ?_ | (refine wzb ?_; intro b_) | fail)
  exact bq_ret (ret_tmp rfl rfl) [] (Gives.nil _) rfl ⟨rfl, rfl⟩
theorem index_fn (A : Option Addr) (n c : Nat) (l : List (Int × Int)) (hl : l.length = n) (hn : n ≤ 1000) : Fn Tryz.prog 86 [.slice A n c, .func (.func 49) #[] #[]] [.ro A n 2 (l.flatMap bcell)] [] fun v Lo => (∃ r : Int, v = .int .i64 r ∧ decide (r ≥ 0) = l.any badP) ∧ Lo = [] := by
  subst hl
  refine fn_enter Tryz.func86 rfl rfl (by kernel_rfl) rfl ?_
  intro w0
  repeat (first | refine wz ?_ | (refine wzb ?_; intro b_) | fail)
  refine cx_loop (α := { i : Nat // i ≤ l.length ∧ (l.take i).any badP = false }) (fun x => [(0, none, .slice A l.length c), (1, none, .func (.func 49) #[] #[]), (7, none, .int .i64 l.length), (8, none, .int .i64 x.1)]) (fun _ => [.ro A l.length 2 (l.flatMap bcell)]) (fun x => l.length - x.1) ⟨0, Nat.zero_le _, rfl⟩ ⟨rfl, rfl, rfl, rfl, trivial⟩ (Gives.refl _) ?_
  rintro ⟨i, hi, ha⟩
  dsimp only
  repeat (first | refine wz ?_ | (refine wzb ?_; intro b_) | fail)
  refine cx_cond rfl (fun h => ?_) (fun h => ?_)
  · have hlt : i < l.length := by simp at h; omega
    clear h
    obtain ⟨p, hp⟩ : ∃ p, l[i]? = some p := ⟨_, List.getElem?_eq_getElem hlt⟩
    have hcell := flat_at (f := bcell) (m := 2) (fun _ => rfl) hp
    have hcl := clo_fn p.1 p.2
    have hne : (l.take (i + 1)).any badP = badP p := by rw [List.take_add_one, hp, List.any_append, ha]; simp
    repeat (first | ((first | (apply lx_u; exact rfl) | (apply lx_g; exact rfl; exact rfl)); first | (apply isy_indexAddr; exact q_ix 0 rfl rfl rfl rfl rfl) | (apply isy_load; exact q_ln 0 rfl rfl rfl rfl hcell rfl rfl) | fail) | (refine isx_call ?_; refine k_gcall (hcl) (fun _ hm => in_nil hm) rfl rfl rfl rfl rfl rfl ?_) | refine wz ?_ | (refine wzb ?_; intro b_) | fail)
    refine cx_cond rfl (fun h => ?_) (fun h => ?_)
    · repeat (first | refine wz ?_ | (refine wzb ?_; intro b_) | fail)
      have hany : l.any badP = true := List.any_eq_true.2 ⟨p, List.mem_of_getElem? hp, h⟩
      exact bq_ret (ret_tmp rfl rfl) [] (Gives.nil _) rfl ⟨⟨i, rfl, by rw [hany]; simp⟩, rfl⟩
    · repeat (first | refine wz ?_ | (refine wzb ?_; intro b_) | fail)
      exact ⟨⟨i + 1, hlt, by rw [hne]; exact h⟩, ⟨rfl, rfl, rfl, slot_int (by dsimp only; omega), trivial⟩, Gives.refl _, by dsimp only; omega⟩
  · obtain rfl : i = l.length := by simp at h; omega
    repeat (first | refine wz ?_ | (refine wzb ?_; intro b_) | fail)
    exact bq_ret (ret_tmp rfl rfl) [] (Gives.nil _) rfl ⟨⟨-1, rfl, by rw [List.take_length] at ha; rw [ha]; rfl⟩, rfl⟩
theorem contains_fn (A : Option Addr) (n c : Nat) (l : List (Int × Int)) (hl : l.length = n) (hn : n ≤ 1000) : Fn Tryz.prog 48 [.slice A n c, .func (.func 49) #[] #[]] [.ro A n 2 (l.flatMap bcell)] [] fun v Lo => v = .bool (l.any badP) ∧ Lo = [] := by
  have hi := index_fn A n c l hl hn
  refine fn_enter Tryz.func48 rfl rfl (by kernel_rfl) rfl ?_
  intro w0
  repeat (first | (refine isx_call ?_; (refine isx_call ?_; refine lx_call0 (hi) ((fun w hm => in_ro (row_ro 0 rfl hm) (in_nil hm) rfl)) rfl rfl rfl rfl rfl rfl rfl rfl ?_; rintro v_ Lo_ ⟨⟨r, rfl, hr⟩, rfl⟩)) | refine wz ?_ | (refine wzb ?_; intro b_) | fail)
  exact bq_ret (ret_tmp rfl rfl) [] (Gives.nil _) rfl ⟨by rw [← hr], rfl⟩
set_option maxRecDepth 100000 in
theorem cright_fn (c : Cf) : Fn Tryz.prog 20 [c.val] [] [] fun v Lo => v = .bool (rightC c) ∧ Lo = [] := by
  have hw := right_fn c.k c.s c.l c.g
  have hc := fun b => contains_fn (some ⟨b, 0, none⟩) 6 6 (bnds c) rfl (by decide)
  unfold rightC
  generalize rightB c.k c.s c.l c.g = rb at hw ⊢
  cases ha : (bnds c).any badP with
  | true =>
    rw [ha] at hc
    refine fn_enter Tryz.func20 rfl rfl (by kernel_rfl) rfl ?_; intro w0
    repeat (first | ((first | (apply lx_u; exact rfl) | (apply lx_g; exact rfl; exact rfl)); first | (apply isy_load; exact q_lv 0 rfl rfl rfl rfl rfl) | fail) | (refine isx_call ?_; refine k_gcall ((hc _)) ((fun w hm => in_ro (row_blk 0 rfl rfl hm) (in_nil hm) rfl)) rfl rfl rfl rfl rfl rfl ?_) | refine wz ?_ | (refine wzb ?_; intro b_) | fail)
    refine cx_cond rfl (fun _ => ?_) (fun h => absurd h (by decide))
    repeat (first | refine wz ?_ | (refine wzb ?_; intro b_) | fail)
    exact bq_ret (ret_tmp rfl rfl) [] (Gives.nil _) rfl ⟨by simp, rfl⟩
  | false =>
    rw [ha] at hc
    refine fn_enter Tryz.func20 rfl rfl (by kernel_rfl) rfl ?_; intro w0
    repeat (first | ((first | (apply lx_u; exact rfl) | (apply lx_g; exact rfl; exact rfl)); first | (apply isy_load; exact q_lv 0 rfl rfl rfl rfl rfl) | fail) | (refine isx_call ?_; refine k_gcall ((hc _)) ((fun w hm => in_ro (row_blk 0 rfl rfl hm) (in_nil hm) rfl)) rfl rfl rfl rfl rfl rfl ?_) | refine wz ?_ | (refine wzb ?_; intro b_) | fail)
    refine cx_cond rfl (fun h => absurd h (by decide)) (fun _ => ?_)
    repeat (first | ((first | (apply lx_u; exact rfl) | (apply lx_g; exact rfl; exact rfl)); first | (apply isy_load; exact q_lr 1 rfl rfl rfl rfl rfl) | (apply isy_load; exact q_lv 1 rfl rfl rfl rfl rfl) | fail) | (refine isx_call ?_; refine k_gcall (hw) (fun _ hm => in_nil hm) rfl rfl rfl rfl rfl rfl ?_) | refine wz ?_ | (refine wzb ?_; intro b_) | fail)
    exact bq_ret (ret_tmp rfl rfl) [] (Gives.nil _) rfl ⟨by simp, rfl⟩
def wwin (c : Cf) (w : Wt) : Wt := if c.k = 1 then wput (c.s - 1) 16 w else if c.k = 2 then wput (c.l - 1 + 4 * (c.s / c.l - 1)) 16 (w.1, (w.2 || decide (c.l > 4)) || decide (c.s / c.l > 4)) else wput (c.g - 1) 16 w
def wcfgR (c : Cf) : Wt := wput (c.le - 1) 16 (wput (c.cl - 1) 8 (wput (c.qu - 1) 16 (wput (c.bu - 1) 64 (wput (c.pg - 1) 64 (wput (c.ca - 1) 256 (wput c.la 32 (wwin c (wput (c.k - 1) 3 ([], false)))))))))
def wcfg (c : Cf) : Wt := if rightC c then wcfgR c else ([], true)
theorem wwin_len (c : Cf) (w : Wt) : (wwin c w).1.length = w.1.length + 1 := by
  unfold wwin
  (repeat' split) <;> rw [wput_len]
theorem wcfg_len (c : Cf) : (wcfg c).1.length ≤ 9 := by
  unfold wcfg wcfgR
  split
  · rw [wput_len, wput_len, wput_len, wput_len, wput_len, wput_len, wput_len, wwin_len, wput_len]
    exact Nat.le_refl _
  · exact Nat.zero_le _
structure RightF (c : Cf) : Prop where
  k : c.k = 1 ∨ c.k = 2 ∨ c.k = 3
  s : c.k ≠ 3 → 1 ≤ c.s ∧ c.s ≤ 1048576
  l : c.k = 2 → 1 ≤ c.l ∧ c.l ≤ 1048576 ∧ c.s % c.l = 0 ∧ c.s / c.l ≤ 16 ∧ 1 ≤ c.s / c.l
  g : c.k = 3 → 1 ≤ c.g ∧ c.g ≤ 1048576
  la : 0 ≤ c.la ∧ c.la ≤ 1048576
  ca : 1 ≤ c.ca ∧ c.ca ≤ 4096
  pg : 1 ≤ c.pg ∧ c.pg ≤ 64
  bu : 1 ≤ c.bu ∧ c.bu ≤ 64
  qu : 1 ≤ c.qu ∧ c.qu ≤ 16
  cl : 1 ≤ c.cl ∧ c.cl ≤ 8
  le : 1 ≤ c.le ∧ c.le ≤ 16
theorem right_f {c : Cf} (h : rightC c = true) : RightF c := by
  unfold rightC at h
  simp only [Bool.and_eq_true, Bool.not_eq_true', decide_eq_true_eq] at h
  obtain ⟨⟨⟨h1, h2⟩, h3⟩, h4⟩ := h
  have hb : ∀ p ∈ bnds c, badP p = false := fun p hp => by
    rw [List.any_eq_false] at h4
    have := h4 p hp
    simpa using this
  have hb' : ∀ p ∈ bnds c, 1 ≤ p.1 ∧ p.1 ≤ p.2 := fun p hp => by
    have := hb p hp
    simp [badP] at this
    omega
  have f := right_facts h1
  unfold rightB at h1
  simp only [Bool.or_eq_true, Bool.and_eq_true, beq_iff_eq, decide_eq_true_eq, numB_iff] at h1
  refine ⟨by omega, by omega, fun hk => ?_, by omega, ⟨by omega, by omega⟩, hb' (c.ca, 4096) (by simp), hb' (c.pg, 64) (by simp), hb' (c.bu, 64) (by simp), hb' (c.qu, 16) (by simp), hb' (c.cl, 8) (by simp), hb' (c.le, 16) (by simp)⟩
  have hl : 1 ≤ c.l ∧ c.l ≤ 1048576 ∧ c.s % c.l = 0 ∧ c.s / c.l ≤ 16 ∧ 1 ≤ c.s := by omega
  have hst : stepV c.k c.s c.l = c.l := by unfold stepV; rw [if_pos hk]
  rw [hst] at f
  exact ⟨hl.1, hl.2.1, hl.2.2.1, hl.2.2.2.1, by omega⟩
section
variable (bw : Nat)
set_option maxRecDepth 100000 in
set_option maxHeartbeats 16000000 in
theorem wconfig_fn (c : Cf) : Fn Tryz.prog 52 [.pointer (some ⟨bw, 0, none⟩), c.val] (wrB bw none 0 ([], false)) (wD bw none) (WP bw (wcfg c)) := by
  have hr := cright_fn c
  unfold wcfg
  cases hR : rightC c with
  | false =>
    rw [hR] at hr
    refine fn_enter Tryz.func52 rfl rfl (by kernel_rfl) rfl ?_; intro w0
    repeat (first | (refine isx_call ?_; refine lx_gcallt (hr) (fun _ hm => in_nil hm) rfl rfl rfl rfl rfl rfl rfl ?_) | refine wzf ?_ | (refine wzb ?_; intro b_) | fail)
    refine cx_cond rfl (fun _ => ?_) (fun h => absurd h (by decide))
    repeat (first | refine wz ?_ | (refine wzb ?_; intro b_) | fail)
    exact bq_ret (ret_none rfl) [_, _] (Gives.pick [2, 3] (by decide) rfl) rfl ⟨_, _, rfl, rfl⟩
  | true =>
    rw [hR] at hr
    rw [if_pos rfl]
    obtain ⟨fk, fs, fl, fg, fla, fca, fpg, fbu, fqu, fcl, fle⟩ := right_f hR
    unfold wcfgR
    have h1 := wints_fn bw none 0 ([], false) (by decide) c.k 3 (by omega)
    have l1 := wput_len (c.k - 1) 3 ([], false)
    generalize wput (c.k - 1) 3 ([], false) = w1 at *
    have E1 : c.k = 1 → wwin c w1 = wput (c.s - 1) 16 w1 := fun h => if_pos h
    have E2 : c.k = 2 → wwin c w1 = wput (c.l - 1 + 4 * (c.s / c.l - 1)) 16 (w1.1, (w1.2 || decide (c.l > 4)) || decide (c.s / c.l > 4)) := fun h => by unfold wwin; rw [if_neg (by omega), if_pos h]
    have E3 : c.k = 3 → wwin c w1 = wput (c.g - 1) 16 w1 := fun h => by unfold wwin; rw [if_neg (by omega), if_neg (by omega)]
    have l2 := wwin_len c w1
    generalize wwin c w1 = w2 at *
    have l1' : w1.1.length = 1 := l1
    have h3 := fun A' c' => wput_fn bw A' c' w2 (by omega) c.la 32
    have l3 := wput_len c.la 32 w2
    generalize wput c.la 32 w2 = w3 at *
    have h4 := fun A' c' => wints_fn bw A' c' w3 (by omega) c.ca 256 (by omega)
    have l4 := wput_len (c.ca - 1) 256 w3
    generalize wput (c.ca - 1) 256 w3 = w4 at *
    have h5 := fun A' c' => wints_fn bw A' c' w4 (by omega) c.pg 64 (by omega)
    have l5 := wput_len (c.pg - 1) 64 w4
    generalize wput (c.pg - 1) 64 w4 = w5 at *
    have h6 := fun A' c' => wints_fn bw A' c' w5 (by omega) c.bu 64 (by omega)
    have l6 := wput_len (c.bu - 1) 64 w5
    generalize wput (c.bu - 1) 64 w5 = w6 at *
    have h7 := fun A' c' => wints_fn bw A' c' w6 (by omega) c.qu 16 (by omega)
    have l7 := wput_len (c.qu - 1) 16 w6
    generalize wput (c.qu - 1) 16 w6 = w7 at *
    have h8 := fun A' c' => wints_fn bw A' c' w7 (by omega) c.cl 8 (by omega)
    have l8 := wput_len (c.cl - 1) 8 w7
    generalize wput (c.cl - 1) 8 w7 = w8 at *
    have h9 := fun A' c' => wints_fn bw A' c' w8 (by omega) c.le 16 (by omega)
    have l9 := wput_len (c.le - 1) 16 w8
    generalize wput (c.le - 1) 16 w8 = w9 at *
    rcases fk with hk | hk | hk
    · have h2 := fun A' c' => wput_fn bw A' c' w1 (by omega) (c.s - 1) 16
      rw [← E1 hk] at h2
      have hs := fs (by omega)
      have g1 : (c.k == 1) = true := by rw [hk]; rfl
      refine fn_enter Tryz.func52 rfl rfl (by kernel_rfl) rfl ?_; intro w0
      repeat (first | (refine isx_call ?_; refine lx_gcallt (hr) (fun _ hm => in_nil hm) rfl rfl rfl rfl rfl rfl rfl ?_) | refine wzf ?_ | (refine wzb ?_; intro b_) | fail)
      refine cx_cond rfl (fun h => absurd h (by decide)) (fun _ => ?_)
      repeat (first | ((first | (apply lx_gt; exact rfl; exact rfl; exact rfl) | (apply lx_u; exact rfl) | (apply lx_g; exact rfl; exact rfl)); first | (apply isy_convert; exact q_cn rfl rfl rfl) | (apply isy_bin_eql; exact yl_true (yl_op (E := EV) rfl) (fun _ => g1)) | fail) | (refine isx_call ?_; refine k_call (h1) [2, 3] [2, 3] [0, 1] rfl rfl rfl rfl rfl rfl rfl rfl ?_ (hin := allD_bd _ _ _ _ _ _ _) (hD := onD_bd _ _ _ _ _ _ _); rintro v_ Lo_ ⟨A_, c_, rfl, rfl⟩) | refine wzf ?_ | (refine wzb ?_; intro b_) | fail)
      refine cx_cond rfl (fun _ => ?_) (fun h => absurd h (by decide))
      repeat (first | (refine isx_call ?_; refine k_call ((h2 _ _)) [0, 1] [0, 1] [2, 3] rfl rfl rfl rfl rfl rfl rfl rfl ?_ (hin := allD_bd _ _ _ _ _ _ _) (hD := onD_bd _ _ _ _ _ _ _); rintro v_ Lo_ ⟨A_, c_, rfl, rfl⟩) | (refine isx_call ?_; refine k_call ((h3 _ _)) [0, 1] [0, 1] [2, 3] rfl rfl rfl rfl rfl rfl rfl rfl ?_ (hin := allD_bd _ _ _ _ _ _ _) (hD := onD_bd _ _ _ _ _ _ _); rintro v_ Lo_ ⟨A_, c_, rfl, rfl⟩) | (refine isx_call ?_; refine k_call ((h4 _ _)) [0, 1] [0, 1] [2, 3] rfl rfl rfl rfl rfl rfl rfl rfl ?_ (hin := allD_bd _ _ _ _ _ _ _) (hD := onD_bd _ _ _ _ _ _ _); rintro v_ Lo_ ⟨A_, c_, rfl, rfl⟩) | (refine isx_call ?_; refine k_call ((h5 _ _)) [0, 1] [0, 1] [2, 3] rfl rfl rfl rfl rfl rfl rfl rfl ?_ (hin := allD_bd _ _ _ _ _ _ _) (hD := onD_bd _ _ _ _ _ _ _); rintro v_ Lo_ ⟨A_, c_, rfl, rfl⟩) | (refine isx_call ?_; refine k_call ((h6 _ _)) [0, 1] [0, 1] [2, 3] rfl rfl rfl rfl rfl rfl rfl rfl ?_ (hin := allD_bd _ _ _ _ _ _ _) (hD := onD_bd _ _ _ _ _ _ _); rintro v_ Lo_ ⟨A_, c_, rfl, rfl⟩) | (refine isx_call ?_; refine k_call ((h7 _ _)) [0, 1] [0, 1] [2, 3] rfl rfl rfl rfl rfl rfl rfl rfl ?_ (hin := allD_bd _ _ _ _ _ _ _) (hD := onD_bd _ _ _ _ _ _ _); rintro v_ Lo_ ⟨A_, c_, rfl, rfl⟩) | (refine isx_call ?_; refine k_call ((h8 _ _)) [0, 1] [0, 1] [2, 3] rfl rfl rfl rfl rfl rfl rfl rfl ?_ (hin := allD_bd _ _ _ _ _ _ _) (hD := onD_bd _ _ _ _ _ _ _); rintro v_ Lo_ ⟨A_, c_, rfl, rfl⟩) | (refine isx_call ?_; refine k_call ((h9 _ _)) [0, 1] [0, 1] [2, 3] rfl rfl rfl rfl rfl rfl rfl rfl ?_ (hin := allD_bd _ _ _ _ _ _ _) (hD := onD_bd _ _ _ _ _ _ _); rintro v_ Lo_ ⟨A_, c_, rfl, rfl⟩) | refine wz ?_ | (refine wzb ?_; intro b_) | fail)
      exact bq_end (ret_none rfl) [_, _] (Gives.pick [0, 1] (by decide) rfl) rfl ⟨_, _, rfl, rfl⟩
    · have hl := fl hk
      have hs := fs (by omega)
      have hqq : IntKind.i64.wrap (c.s.tdiv c.l) = c.s / c.l := quo_pos (by omega) (by omega) (by omega)
      have hl0 : c.l ≠ 0 := by omega
      have hlq := hl.2.2.2
      have E2' := E2 hk
      generalize c.s / c.l = q at *
      have h2 := fun A' c' => wput_fn bw A' c' (w1.1, (w1.2 || decide (c.l > 4)) || decide (q > 4)) (by dsimp only; omega) (c.l - 1 + 4 * (q - 1)) 16
      rw [← E2'] at h2
      have g1 : (c.k == 1) = false := by rw [hk]; rfl
      have g2 : (c.k == 2) = true := by rw [hk]; rfl
      refine fn_enter Tryz.func52 rfl rfl (by kernel_rfl) rfl ?_; intro w0
      repeat (first | (refine isx_call ?_; refine lx_gcallt (hr) (fun _ hm => in_nil hm) rfl rfl rfl rfl rfl rfl rfl ?_) | refine wzf ?_ | (refine wzb ?_; intro b_) | fail)
      refine cx_cond rfl (fun h => absurd h (by decide)) (fun _ => ?_)
      repeat (first | ((first | (apply lx_gt; exact rfl; exact rfl; exact rfl) | (apply lx_u; exact rfl) | (apply lx_g; exact rfl; exact rfl)); first | (apply isy_convert; exact q_cn rfl rfl rfl) | (apply isy_bin_eql; exact yl_false (yl_op (E := EV) rfl) (fun _ => g1)) | fail) | (refine isx_call ?_; refine k_call (h1) [2, 3] [2, 3] [0, 1] rfl rfl rfl rfl rfl rfl rfl rfl ?_ (hin := allD_bd _ _ _ _ _ _ _) (hD := onD_bd _ _ _ _ _ _ _); rintro v_ Lo_ ⟨A_, c_, rfl, rfl⟩) | refine wzf ?_ | (refine wzb ?_; intro b_) | fail)
      refine cx_cond rfl (fun h => absurd h (by decide)) (fun _ => ?_)
      repeat (first | ((first | (apply lx_gt; exact rfl; exact rfl; exact rfl) | (apply lx_u; exact rfl) | (apply lx_g; exact rfl; exact rfl)); first | (apply isy_bin_eql; exact yl_true (yl_op (E := EV) rfl) (fun _ => g2)) | fail) | refine wzf ?_ | (refine wzb ?_; intro b_) | fail)
      refine cx_cond rfl (fun _ => ?_) (fun h => absurd h (by decide))
      repeat (first | ((first | (apply lx_u; exact rfl) | (apply lx_g; exact rfl; exact rfl)); first | (apply isy_bin_quo; exact yl_eq (q_quo rfl rfl) (fun _ => congrArg (Value.int .i64) hqq)) | (apply isy_bin_mul; exact q_mul rfl rfl) | fail) | (refine isx_call ?_; refine k_call ((h2 _ _)) [0, 1] [0, 1] [2, 3] rfl rfl rfl rfl rfl rfl rfl rfl ?_ (hin := allD_bd _ _ _ _ _ _ _) (hD := onD_bd _ _ _ _ _ _ _); rintro v_ Lo_ ⟨A_, c_, rfl, rfl⟩) | (refine isx_call ?_; refine k_call ((h3 _ _)) [0, 1] [0, 1] [2, 3] rfl rfl rfl rfl rfl rfl rfl rfl ?_ (hin := allD_bd _ _ _ _ _ _ _) (hD := onD_bd _ _ _ _ _ _ _); rintro v_ Lo_ ⟨A_, c_, rfl, rfl⟩) | (refine isx_call ?_; refine k_call ((h4 _ _)) [0, 1] [0, 1] [2, 3] rfl rfl rfl rfl rfl rfl rfl rfl ?_ (hin := allD_bd _ _ _ _ _ _ _) (hD := onD_bd _ _ _ _ _ _ _); rintro v_ Lo_ ⟨A_, c_, rfl, rfl⟩) | (refine isx_call ?_; refine k_call ((h5 _ _)) [0, 1] [0, 1] [2, 3] rfl rfl rfl rfl rfl rfl rfl rfl ?_ (hin := allD_bd _ _ _ _ _ _ _) (hD := onD_bd _ _ _ _ _ _ _); rintro v_ Lo_ ⟨A_, c_, rfl, rfl⟩) | (refine isx_call ?_; refine k_call ((h6 _ _)) [0, 1] [0, 1] [2, 3] rfl rfl rfl rfl rfl rfl rfl rfl ?_ (hin := allD_bd _ _ _ _ _ _ _) (hD := onD_bd _ _ _ _ _ _ _); rintro v_ Lo_ ⟨A_, c_, rfl, rfl⟩) | (refine isx_call ?_; refine k_call ((h7 _ _)) [0, 1] [0, 1] [2, 3] rfl rfl rfl rfl rfl rfl rfl rfl ?_ (hin := allD_bd _ _ _ _ _ _ _) (hD := onD_bd _ _ _ _ _ _ _); rintro v_ Lo_ ⟨A_, c_, rfl, rfl⟩) | (refine isx_call ?_; refine k_call ((h8 _ _)) [0, 1] [0, 1] [2, 3] rfl rfl rfl rfl rfl rfl rfl rfl ?_ (hin := allD_bd _ _ _ _ _ _ _) (hD := onD_bd _ _ _ _ _ _ _); rintro v_ Lo_ ⟨A_, c_, rfl, rfl⟩) | (refine isx_call ?_; refine k_call ((h9 _ _)) [0, 1] [0, 1] [2, 3] rfl rfl rfl rfl rfl rfl rfl rfl ?_ (hin := allD_bd _ _ _ _ _ _ _) (hD := onD_bd _ _ _ _ _ _ _); rintro v_ Lo_ ⟨A_, c_, rfl, rfl⟩) | refine wz ?_ | (refine wzb ?_; intro b_) | fail)
      exact bq_end (ret_none rfl) [_, _] (Gives.pick [0, 1] (by decide) rfl) rfl ⟨_, _, rfl, rfl⟩
    · have h2 := fun A' c' => wput_fn bw A' c' w1 (by omega) (c.g - 1) 16
      rw [← E3 hk] at h2
      have hg := fg hk
      have g1 : (c.k == 1) = false := by rw [hk]; rfl
      have g2 : (c.k == 2) = false := by rw [hk]; rfl
      refine fn_enter Tryz.func52 rfl rfl (by kernel_rfl) rfl ?_; intro w0
      repeat (first | (refine isx_call ?_; refine lx_gcallt (hr) (fun _ hm => in_nil hm) rfl rfl rfl rfl rfl rfl rfl ?_) | refine wzf ?_ | (refine wzb ?_; intro b_) | fail)
      refine cx_cond rfl (fun h => absurd h (by decide)) (fun _ => ?_)
      repeat (first | ((first | (apply lx_gt; exact rfl; exact rfl; exact rfl) | (apply lx_u; exact rfl) | (apply lx_g; exact rfl; exact rfl)); first | (apply isy_convert; exact q_cn rfl rfl rfl) | (apply isy_bin_eql; exact yl_false (yl_op (E := EV) rfl) (fun _ => g1)) | fail) | (refine isx_call ?_; refine k_call (h1) [2, 3] [2, 3] [0, 1] rfl rfl rfl rfl rfl rfl rfl rfl ?_ (hin := allD_bd _ _ _ _ _ _ _) (hD := onD_bd _ _ _ _ _ _ _); rintro v_ Lo_ ⟨A_, c_, rfl, rfl⟩) | refine wzf ?_ | (refine wzb ?_; intro b_) | fail)
      refine cx_cond rfl (fun h => absurd h (by decide)) (fun _ => ?_)
      repeat (first | ((first | (apply lx_gt; exact rfl; exact rfl; exact rfl) | (apply lx_u; exact rfl) | (apply lx_g; exact rfl; exact rfl)); first | (apply isy_bin_eql; exact yl_false (yl_op (E := EV) rfl) (fun _ => g2)) | fail) | refine wzf ?_ | (refine wzb ?_; intro b_) | fail)
      refine cx_cond rfl (fun h => absurd h (by decide)) (fun _ => ?_)
      repeat (first | (refine isx_call ?_; refine k_call ((h2 _ _)) [0, 1] [0, 1] [2, 3] rfl rfl rfl rfl rfl rfl rfl rfl ?_ (hin := allD_bd _ _ _ _ _ _ _) (hD := onD_bd _ _ _ _ _ _ _); rintro v_ Lo_ ⟨A_, c_, rfl, rfl⟩) | (refine isx_call ?_; refine k_call ((h3 _ _)) [0, 1] [0, 1] [2, 3] rfl rfl rfl rfl rfl rfl rfl rfl ?_ (hin := allD_bd _ _ _ _ _ _ _) (hD := onD_bd _ _ _ _ _ _ _); rintro v_ Lo_ ⟨A_, c_, rfl, rfl⟩) | (refine isx_call ?_; refine k_call ((h4 _ _)) [0, 1] [0, 1] [2, 3] rfl rfl rfl rfl rfl rfl rfl rfl ?_ (hin := allD_bd _ _ _ _ _ _ _) (hD := onD_bd _ _ _ _ _ _ _); rintro v_ Lo_ ⟨A_, c_, rfl, rfl⟩) | (refine isx_call ?_; refine k_call ((h5 _ _)) [0, 1] [0, 1] [2, 3] rfl rfl rfl rfl rfl rfl rfl rfl ?_ (hin := allD_bd _ _ _ _ _ _ _) (hD := onD_bd _ _ _ _ _ _ _); rintro v_ Lo_ ⟨A_, c_, rfl, rfl⟩) | (refine isx_call ?_; refine k_call ((h6 _ _)) [0, 1] [0, 1] [2, 3] rfl rfl rfl rfl rfl rfl rfl rfl ?_ (hin := allD_bd _ _ _ _ _ _ _) (hD := onD_bd _ _ _ _ _ _ _); rintro v_ Lo_ ⟨A_, c_, rfl, rfl⟩) | (refine isx_call ?_; refine k_call ((h7 _ _)) [0, 1] [0, 1] [2, 3] rfl rfl rfl rfl rfl rfl rfl rfl ?_ (hin := allD_bd _ _ _ _ _ _ _) (hD := onD_bd _ _ _ _ _ _ _); rintro v_ Lo_ ⟨A_, c_, rfl, rfl⟩) | (refine isx_call ?_; refine k_call ((h8 _ _)) [0, 1] [0, 1] [2, 3] rfl rfl rfl rfl rfl rfl rfl rfl ?_ (hin := allD_bd _ _ _ _ _ _ _) (hD := onD_bd _ _ _ _ _ _ _); rintro v_ Lo_ ⟨A_, c_, rfl, rfl⟩) | (refine isx_call ?_; refine k_call ((h9 _ _)) [0, 1] [0, 1] [2, 3] rfl rfl rfl rfl rfl rfl rfl rfl ?_ (hin := allD_bd _ _ _ _ _ _ _) (hD := onD_bd _ _ _ _ _ _ _); rintro v_ Lo_ ⟨A_, c_, rfl, rfl⟩) | refine wz ?_ | (refine wzb ?_; intro b_) | fail)
      exact bq_end (ret_none rfl) [_, _] (Gives.pick [0, 1] (by decide) rfl) rfl ⟨_, _, rfl, rfl⟩
end
end Go.Proofs.YtmochicneilhhaaGreat.sc
