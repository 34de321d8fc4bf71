/- scripts: Write. scripts: what is written is read so again, and what is read may be written: plainly. scripts: frames and requests, there and back: plainly. -/
import Derived.Test.YtmochicneilhhaaGreatPGo
import Derived.Test.YtmochicneilhhaaGreatPQtd
import Derived.Test.YtmochicneilhhaaGreatPTr
namespace Go.Proofs.YtmochicneilhhaaGreat.sc
open Go.RowKit Go.Proofs.YtmochicneilhhaaGreat.kit Go.Proofs.YtmochicneilhhaaGreat.pk Go.Proofs.YtmochicneilhhaaGreat.rq Go.Proofs.YtmochicneilhhaaGreat.ev Go.Proofs.YtmochicneilhhaaGreat.win
def writeW (c : Cf) (l : List SP) : Wt := l.foldl (wstep c.cl) (wcfg c)
def writeQ (c : Cf) (l : List SP) : List B8 × Int := if (writeW c l).2 then ([], 2) else if (writeW c l).1.length > 16384 then ([], 3) else ((writeW c l).1, 0)
theorem wsteps_len (n : Int) : ∀ (l : List SP) (w : Wt), (∀ x ∈ l, x.bs.length ≤ 1000000) → (l.foldl (wstep n) w).1.length ≤ w.1.length + 1000020 * l.length
  | [], _, _ => Nat.le_refl _
  | x :: l, w, h => by
    have h1 := wstep_len n w x
    have h2 := wsteps_len n l (wstep n w x) fun y hy => h y (List.mem_cons_of_mem _ hy)
    have h3 := h x (List.mem_cons_self ..)
    rw [List.foldl_cons, List.length_cons]
    omega
def Fit2 (xs : List MS) : Prop := ∀ x ∈ xs, x.r.n ≤ 1000000 ∧ x.op.key.length ≤ 9223372036854775807
structure VSt (n : Nat) where
  i : Nat
  A' : Option Addr
  c' : Nat
  hi : i ≤ n
attribute [local irreducible] LX CX Yl Gives RetIs Fn
attribute [local irreducible] be de fr.frm
set_option maxRecDepth 100000 in
set_option maxHeartbeats 8000000 in
theorem write_fn (c : Cf) (A : Option Addr) (n cc : Nat) (xs : List MS) (hl : xs.length = n) (hn : n ≤ 1000000) (hf : Fit2 xs) (hsp : ∀ x ∈ xs, x.r.l.length = x.r.n) : Fn Tryz.prog 22 [c.val, .slice A n cc] [Ck.sts A n xs] []
    fun v Lo => ∃ A' c', v = .tuple #[.slice A' (writeQ c (xs.map MS.sp)).1.length c', .int .i64 (writeQ c (xs.map MS.sp)).2] ∧ Lo = [.own A' (writeQ c (xs.map MS.sp)).1.length c' 5 1 (bvs (writeQ c (xs.map MS.sp)).1)] := by
  subst hl
  have hw9 := wcfg_len c
  have hlen : ∀ i, ((((xs.take i).map MS.sp).foldl (wstep c.cl) (wcfg c)).1).length ≤ 2000000000000 := fun i => by
    have h := wsteps_len c.cl ((xs.take i).map MS.sp) (wcfg c) (fun y hy => by
      obtain ⟨x, hx, rfl⟩ := List.mem_map.1 hy
      have h1 := hf x (List.mem_of_mem_take hx)
      have h2 := hsp x (List.mem_of_mem_take hx)
      show x.r.l.length ≤ _
      omega)
    rw [List.length_map, List.length_take] at h
    omega
  unfold writeQ writeW
  refine fn_enter Tryz.func22 rfl rfl (by kernel_rfl) rfl ?_
  intro w0
  repeat (first | refine wz ?_ | (refine wzb ?_; intro b_) | fail)
  rename_i b2
  generalize b_ = b10
  refine lx_weak (Gives.nilown _ 5 1) ?_
  repeat (first | (refine isx_call ?_; refine k_call (wconfig_fn b10 c) [1, 0] [1, 0] [2, 3] rfl rfl rfl rfl rfl rfl rfl rfl ?_ (hin := allD_bd _ _ _ _ _ _ _) (hD := onD_bd _ _ _ _ _ _ _); rintro v_ Lo_ ⟨A_, c_, rfl, rfl⟩) | refine wz ?_ | (refine wzb ?_; intro b_) | fail)
  refine cx_loop (α := VSt xs.length) (fun x => [(2, none, .pointer (some ⟨b2, 0, none⟩)), (6, none, .pointer (some ⟨b10, 0, none⟩)), (14, none, .slice A xs.length cc), (15, none, .int .i64 xs.length), (16, none, .int .i64 x.i)])
    (fun x => wrB b10 x.A' x.c' (((xs.take x.i).map MS.sp).foldl (wstep c.cl) (wcfg c)) ++ [.blk b2 c.cells 34, Ck.sts A xs.length xs]) (fun x => xs.length - x.i) ⟨0, A_, c_, Nat.zero_le _⟩ ⟨rfl, rfl, rfl, rfl, rfl, trivial⟩ (Gives.refl _) ?_
  rintro ⟨i, A', c', hi⟩
  dsimp only at hi ⊢
  have hli := hlen i
  generalize hw : ((xs.take i).map MS.sp).foldl (wstep c.cl) (wcfg c) = w at *
  repeat (first | refine wz ?_ | (refine wzb ?_; intro b_) | fail)
  refine cx_cond rfl (fun h => ?_) (fun h => ?_)
  · have hlt : i < xs.length := by simp at h; omega
    clear h
    obtain ⟨x, hx⟩ : ∃ x, xs[i]? = some x := ⟨_, List.getElem?_eq_getElem hlt⟩
    have hfx := hf x (List.mem_of_getElem? hx)
    have hnx : ((xs.take (i + 1)).map MS.sp).foldl (wstep c.cl) (wcfg c) = wstep c.cl w x.sp := by
      rw [List.take_add_one, hx, List.map_append, List.foldl_append, hw]
      rfl
    refine cx_fact (fun w hm => sts_ok 3 rfl hx hm) fun hk => ?_
    have hst := wstep_fn b10 A' c' w (by omega) x hk.1 hk.2 hfx.1 hfx.2 c.cl
    refine cx_weakL ((Gives.stsAt 3 rfl hx).trans (Gives.sts 4 rfl)) ?_
    have hcell := scells_at hx
    repeat (first | ((first | (apply lx_u; exact rfl) | (apply lx_g; exact rfl; exact rfl)); first | (apply isy_indexAddr; exact q_ix 0 rfl rfl rfl rfl rfl) | (apply isy_load; exact q_ln 0 rfl rfl rfl rfl hcell rfl rfl) | (apply isy_load; exact q_lr 5 rfl rfl rfl rfl rfl) | fail) | (refine isx_call ?_; refine k_call hst [3, 4, 2] [3, 4] [0, 1, 2, 5, 6] rfl rfl rfl rfl rfl rfl rfl rfl ?_ (hin := allD_bdr _ _ _ _ _ _ _ _ _ _ _) (hD := onD_bd _ _ _ _ _ _ _); rintro v_ Lo_ ⟨A_, c_, rfl, rfl⟩) | refine wz ?_ | (refine wzb ?_; intro b_) | fail)
    exact ⟨⟨i + 1, A_, c_, hlt⟩, ⟨rfl, rfl, rfl, rfl, slot_int (by dsimp only; omega), trivial⟩, by dsimp only; rw [hnx]; exact Gives.pick [0, 1, 5, 6] (by decide) rfl, by dsimp only; omega⟩
  · have hii : i = xs.length := by simp at h; omega
    rw [hii, List.take_length] at hw
    rw [hw]
    obtain ⟨u, bad⟩ := w
    dsimp only
    repeat (first | refine wz ?_ | (refine wzb ?_; intro b_) | fail)
    cases bad with
    | true =>
      refine cx_cond rfl (fun _ => ?_) (fun h => absurd h (by simp))
      repeat (first | refine wz ?_ | (refine wzb ?_; intro b_) | fail)
      exact bq_ret (ret_tmp2 rfl rfl rfl) [_] ((Gives.nilown _ _ _).trans (Gives.pick [0] (by decide) rfl)) rfl ⟨none, 0, rfl, rfl⟩
    | false =>
      refine cx_cond rfl (fun h => absurd h (by simp)) (fun _ => ?_)
      rw [if_neg (by decide)]
      repeat (first | refine wz ?_ | (refine wzb ?_; intro b_) | fail)
      refine cx_cond rfl (fun h => ?_) (fun h => ?_)
      · rw [if_pos (by simp at h; omega)]
        repeat (first | refine wz ?_ | (refine wzb ?_; intro b_) | fail)
        exact bq_ret (ret_tmp2 rfl rfl rfl) [_] ((Gives.nilown _ _ _).trans (Gives.pick [0] (by decide) rfl)) rfl ⟨none, 0, rfl, rfl⟩
      · rw [if_neg (by simp at h; omega)]
        repeat (first | refine wz ?_ | (refine wzb ?_; intro b_) | fail)
        exact bq_ret (ret_tmp2 rfl rfl rfl) [_] (Gives.pick [1] (by decide) rfl) rfl ⟨A', c', rfl, rfl⟩
end Go.Proofs.YtmochicneilhhaaGreat.sc
namespace Go.Proofs.YtmochicneilhhaaGreat.sc
open Go.RowKit Go.Proofs.YtmochicneilhhaaGreat.kit Go.Proofs.YtmochicneilhhaaGreat.pk Go.Proofs.YtmochicneilhhaaGreat.rq Go.Proofs.YtmochicneilhhaaGreat.ev Go.Proofs.YtmochicneilhhaaGreat.win
theorem at_zero (x : B8) (l : List B8) : at_ (x :: l) 0 = x.toNat := rfl
theorem at_app (p m : List B8) (i : Nat) : at_ (p ++ m) (p.length + i) = at_ m i := by
  unfold at_
  rw [List.getElem?_append_right (by omega), Nat.add_sub_cancel_left]
theorem ofInt8 {n : Int} (h : 0 ≤ n ∧ n < 256) : (BitVec.ofInt 8 n).toNat = n.toNat := by
  rw [BitVec.toNat_ofInt]
  have : (n % ((2 ^ 8 : Nat) : Int)) = n := Int.emod_eq_of_lt h.1 (by have := h.2; simpa using this)
  rw [this]
/- what a writer puts hangs on nothing that it put before -/
def Em (f : Wt → Wt) : Prop := ∀ w, f w = (w.1 ++ (f ([], false)).1, w.2 || (f ([], false)).2)
theorem Em.comp {f g : Wt → Wt} (hf : Em f) (hg : Em g) : Em fun w => f (g w) := fun w => by
  show f (g w) = (w.1 ++ (f (g ([], false))).1, w.2 || (f (g ([], false))).2)
  rw [hf (g w), hg w, hf (g ([], false))]
  simp [List.append_assoc, Bool.or_assoc]
theorem em_add (u : List B8) (b : Bool) : Em fun w => (w.1 ++ u, w.2 || b) := fun w => by simp
theorem em_put (n b : Int) : Em (wput n b) := fun w => by simp [wput, Bool.or_assoc]
theorem em_small (n : Int) : Em (wsmall n) := fun w => by simp [wsmall]
theorem em_letter (s : List B8) : Em (wletter s) := fun w => by
  unfold wletter
  split
  · exact em_put _ _ w
  · simp
theorem em_edge (s : List B8) : Em (wedge s) := fun w => by
  unfold wedge
  split
  · exact em_put _ _ w
  · exact em_letter s w
theorem em_number (n : BitVec 64) (b : Nat) : Em (wnumber n b) := em_put _ _
theorem em_panes (r : RQ) : Em (wpanes r) := fun w => by
  unfold wpanes
  dsimp only
  split
  · exact ((em_small r.ls).comp ((em_letter r.ky).comp (em_put _ 3))) w
  · split
    · exact ((em_edge r.to_).comp ((em_edge r.ky).comp (em_put _ 3))) w
    · exact ((em_small r.ms).comp ((em_small r.ls).comp (em_put _ 3))) w
theorem em_part (r : RQ) (q : Pt) : Em fun w => wpart r w q := by
  cases q
  · exact em_number _ _
  · exact em_number _ _
  · exact em_put _ _
  · exact em_put _ _
  · exact em_panes r
theorem em_fold {α : Type} {f : Wt → α → Wt} (h : ∀ x, Em fun w => f w x) : ∀ l : List α, Em fun w => l.foldl f w
  | [] => fun w => by simp
  | x :: l => (em_fold h l).comp (h x)
theorem em_req (r : RQ) : Em (wreq r) := (em_fold (em_part r) (pts r.k)).comp ((em_put _ 256).comp (em_put _ 8))
theorem em_raw (x : SP) : Em (wraw x) := fun w => by
  have h := ((em_add x.bs false).comp ((em_put (x.bs.length : Nat) 16).comp (em_add [4#8, BitVec.ofInt 8 x.cl] false))) w
  simp only [Bool.or_false] at h
  exact h
theorem em_feed (x : SP) : Em (wfeed x) := fun w => by
  unfold wfeed
  split
  · split
    · exact em_raw x w
    · simp
  · exact em_raw x w
theorem em_value (v : Int) : Em (wvalue v) := fun w => by
  unfold wvalue
  split
  · exact em_small _ w
  · split
    · exact em_small _ w
    · have h := ((em_small v).comp (em_add [] (v == 127 || v == -128))) w
      simp only [List.append_nil, Bool.false_or, ← Bool.or_assoc] at h
      simpa using h
theorem em_op (o : EOp) : Em (wop o) := fun w => by
  unfold wop
  split
  · have h := ((em_value o.v).comp ((em_small o.t).comp ((em_letter o.key).comp (em_add [9#8] false)))) w
    simpa using h
  · have h := ((em_small o.t).comp (em_add [12#8] false)) w
    simpa using h
theorem em_step (n : Int) (x : SP) : Em fun w => wstep n w x := fun w => by
  dsimp only
  unfold wstep
  split
  · simp
  split
  · exact em_feed x w
  split
  · simp
  split
  · simp
  split
  · have h := ((em_op x.op).comp (em_add [] (x.op.right != 0))) w
    simpa using h
  split
  · simp
  split
  · simp
  split
  · have h := ((em_number x.by_ 256).comp (em_add [14#8] false)) w
    simpa using h
  · simp
end Go.Proofs.YtmochicneilhhaaGreat.sc
namespace Go.Proofs.YtmochicneilhhaaGreat.sc
open Go.RowKit Go.Proofs.YtmochicneilhhaaGreat.kit Go.Proofs.YtmochicneilhhaaGreat.pk Go.Proofs.YtmochicneilhhaaGreat.rq Go.Proofs.YtmochicneilhhaaGreat.ev Go.Proofs.YtmochicneilhhaaGreat.win
section
open Go.Proofs.YtmochicneilhhaaGreat.fr Go.Proofs.YtmochicneilhhaaGreat.crc Go.Proofs.YtmochicneilhhaaGreat.chk
theorem take_frm (l : List B8) (h : l.length ≤ 8192) : fr.takeF (fr.frm l) 0 = (l, (((fr.frm l).length : Nat) : Int), 0) := by
  have hb4 : (be4 l.length).length = 4 := be_len _ _
  have hl := frm_len l
  have e1 : l4 (frm l) 0 = be4 l.length := by rw [l4, List.drop_zero, frm, List.take_left' hb4]
  have e2 : num4 (frm l) 0 = l.length := by
    rw [num4, e1, be4, de_mod 4 _ (by decide), BitVec.toNat_ofNat]
    have : (256 : Nat) ^ 4 = 4294967296 := by decide
    omega
  have hd4 : (frm l).drop (0 + 4) = l ++ sumL l := by rw [frm, List.drop_left' hb4]
  have e3 : bod (frm l) 0 l.length = l := by rw [bod, hd4, List.take_left' rfl]
  have h9 := sum4_be (l := frm l) (a := 0) (n := l.length) (by omega)
  have e4 : l4 (frm l) (0 + 4 + l.length) = sumL l := by
    rw [l4, ← List.drop_drop, hd4, List.drop_left' rfl, List.take_of_length_le (by rw [sumL_len]; exact Nat.le_refl _)]
  rw [e4] at h9
  have hg := takeF_good (l := frm l) (a := 0) (by omega) (by omega) (by rw [e2, e3]; exact (be4_inj h9).symm)
  rw [e2, e3] at hg
  have e5 : (0 + 8 + l.length : Nat) = (frm l).length := by omega
  rw [e5] at hg
  exact hg
theorem take_inv {l bd : List B8} (h : fr.takeF l 0 = (bd, ((l.length : Nat) : Int), 0)) : l = fr.frm bd := by
  have h0 : ¬ ((0 : Int) < 0 ∨ (l.length : Int) < 0 + 4) := fun hh => by rw [takeF_more hh] at h; have := congrArg (·.2.2) h; exact absurd this (by simp)
  have h4 : 0 + 4 ≤ l.length := by omega
  have h1 : ¬ 8192 < num4 l 0 := fun hh => by
    have := takeF_long (l := l) (a := 0) h4 hh
    rw [show ((0 : Nat) : Int) = 0 from rfl, h] at this
    exact absurd (congrArg (·.2.2) this) (by simp)
  have h2 : ¬ l.length < 0 + 8 + num4 l 0 := fun hh => by
    have := takeF_short (l := l) (a := 0) h4 h1 hh
    rw [show ((0 : Nat) : Int) = 0 from rfl, h] at this
    exact absurd (congrArg (·.2.2) this) (by simp)
  by_cases h3 : upd 0#32 (bod l 0 (num4 l 0)) = sum4 l 0 (num4 l 0)
  · have hg := takeF_good (l := l) (a := 0) h1 h2 h3
    rw [show ((0 : Nat) : Int) = 0 from rfl, h] at hg
    have hbd : bd = bod l 0 (num4 l 0) := congrArg (·.1) hg
    have hln : ((l.length : Nat) : Int) = ((0 + 8 + num4 l 0 : Nat) : Int) := congrArg (·.2.1) hg
    have hnum := be4_num (l := l) (a := 0) h4
    have h9 := sum4_be (l := l) (a := 0) (n := num4 l 0) (by omega)
    have hbl := bod_len (l := l) (a := 0) (n := num4 l 0) (by omega)
    have hs : sumL bd = l4 l (0 + 4 + num4 l 0) := by rw [hbd, sumL, h3, h9]
    rw [frm, hs, hbd, hbl, hnum]
    generalize num4 l 0 = n at *
    have e1 : l = l.take 4 ++ ((l.drop 4).take n ++ (l.drop (4 + n)).take 4) := by
      have e2 : (l.drop (4 + n)).take 4 = l.drop (4 + n) := List.take_of_length_le (by rw [List.length_drop]; omega)
      rw [e2, ← List.drop_drop, List.take_append_drop, List.take_append_drop]
    rw [l4, bod, l4, List.drop_zero, Nat.zero_add]
    exact e1
  · have hg := takeF_bad (l := l) (a := 0) h1 h2 h3
    rw [show ((0 : Nat) : Int) = 0 from rfl, h] at hg
    exact absurd (congrArg (·.2.2) hg) (by simp)
end
theorem asked_frm {r : RQ} (h : r.right = true) (hf : r.Fits) : askedQ (fr.frm r.enc) = some r := by
  have hle := (rq.enc_le h).1
  have ht := take_frm r.enc (by omega)
  unfold askedQ
  rw [ht]
  dsimp only
  rw [if_pos ⟨rfl, rfl⟩, parse_enc h hf]
  rfl
theorem asked_inv {l : List B8} {r : RQ} (h : askedQ l = some r) : r.right = true ∧ r.Fits ∧ l = fr.frm r.enc := by
  unfold askedQ at h
  split at h
  · rename_i h1
    split at h
    · rename_i h2
      cases h
      have hp := parse_ok h2
      refine ⟨hp.1, hp.2.1, ?_⟩
      rw [← hp.2.2]
      exact take_inv (Prod.ext rfl (Prod.ext h1.2 h1.1))
    · cases h
  · cases h
theorem frm_inj {a b : List B8} (ha : a.length ≤ 8192) (hb : b.length ≤ 8192) (h : fr.frm a = fr.frm b) : a = b := by
  have h1 := take_frm a ha
  rw [h, take_frm b hb] at h1
  exact (congrArg (·.1) h1).symm
/- flags -/
theorem wput_ok {n b : Int} {w : Wt} : (wput n b w).2 = false ↔ w.2 = false ∧ 0 ≤ n ∧ n < b := by
  simp [wput, and_assoc]
theorem i8_wrap (n : Int) : -128 ≤ IntKind.i64.wrap (IntKind.i8.wrap n) ∧ IntKind.i64.wrap (IntKind.i8.wrap n) ≤ 127 ∧ ((-128 ≤ n ∧ n ≤ 127) → IntKind.i64.wrap (IntKind.i8.wrap n) = n) := by
  rw [IntKind.wrap_i64]
  unfold IntKind.wrap
  simp only [IntKind.bits, IntKind.signed]
  simp
  split <;> omega
theorem wsmall_ok {n : Int} {w : Wt} : (wsmall n w).2 = false ↔ w.2 = false ∧ -128 ≤ n ∧ n ≤ 127 := by
  have h := i8_wrap n
  simp only [wsmall, Bool.or_eq_false_iff, bne_eq_false_iff_eq]
  refine and_congr Iff.rfl ⟨fun e => ?_, fun e => ?_⟩
  · rw [← e] at h; omega
  · exact (h.2.2 e).symm
theorem wletter_ok {s : List B8} {w : Wt} : (wletter s w).2 = false ↔ w.2 = false ∧ ∃ x : B8, s = [x] ∧ 97 ≤ x.toNat ∧ x.toNat < 101 := by
  unfold wletter
  split
  · rename_i x
    rw [wput_ok]
    refine and_congr Iff.rfl ⟨fun e => ⟨x, rfl, by omega, by omega⟩, fun ⟨y, e, h1, h2⟩ => ?_⟩
    cases e
    omega
  · rename_i h
    refine ⟨fun e => (by cases e), fun ⟨_, x, e, _⟩ => absurd e (h x)⟩
theorem wedge_ok {s : List B8} {w : Wt} : (wedge s w).2 = false ↔ w.2 = false ∧ (s = [] ∨ ∃ x : B8, s = [x] ∧ 97 ≤ x.toNat ∧ x.toNat < 101) := by
  unfold wedge
  split
  · rename_i h
    rw [wput_ok]
    exact and_congr Iff.rfl ⟨fun _ => .inl h, fun _ => by decide⟩
  · rename_i h
    rw [wletter_ok]
    exact and_congr Iff.rfl ⟨fun e => .inr e, fun e => e.resolve_left h⟩
theorem wnumber_ok {n : BitVec 64} {b : Nat} {w : Wt} : (wnumber n b w).2 = false ↔ w.2 = false ∧ n.toNat < b := by
  unfold wnumber
  rw [wput_ok]
  refine and_congr Iff.rfl ?_
  have := Nat.min_le_right n.toNat b
  have := Nat.min_le_left n.toNat b
  constructor
  · intro h; have := h.2; omega
  · intro h; rw [Nat.min_eq_left (by omega)]; omega
theorem small_fit {n : Nat} (h : n < 256) : -128 ≤ small n ∧ small n ≤ 127 := by unfold small; split <;> omega
theorem ofInt_small {n : Int} (h : -128 ≤ n ∧ n ≤ 127) : small (BitVec.ofInt 8 n).toNat = n := by
  rw [BitVec.toNat_ofInt]
  have e : ((2 ^ 8 : Nat) : Int) = 256 := rfl
  rw [e]
  unfold small
  split <;> omega
theorem letter_back {x : B8} (h : 97 ≤ x.toNat ∧ x.toNat < 101) : keyQ (BitVec.ofInt 8 ((x.toNat : Int) - 97)).toNat = [x] := by
  rw [ofInt8 (by omega)]
  unfold keyQ
  refine congrArg (fun y : B8 => [y]) (BitVec.eq_of_toNat_eq ?_)
  rw [BitVec.toNat_ofNat]
  have := x.isLt
  omega
theorem edge_back {x : B8} (h : 97 ≤ x.toNat ∧ x.toNat < 101) : edgeQ (BitVec.ofInt 8 ((x.toNat : Int) - 97)).toNat = [x] := by
  rw [ofInt8 (by omega)]
  unfold edgeQ
  rw [if_pos (by omega)]
  refine congrArg (fun y : B8 => [y]) (BitVec.eq_of_toNat_eq ?_)
  rw [BitVec.toNat_ofNat]
  have := x.isLt
  omega
end Go.Proofs.YtmochicneilhhaaGreat.sc
