/- scripts: a step, there and back: plainly. -/
import Derived.Test.YtmochicneilhhaaGreatPTw
namespace Go.Proofs.YtmochicneilhhaaGreat.sc
open Go.RowKit Go.Proofs.YtmochicneilhhaaGreat.kit Go.Proofs.YtmochicneilhhaaGreat.pk Go.Proofs.YtmochicneilhhaaGreat.rq Go.Proofs.YtmochicneilhhaaGreat.ev Go.Proofs.YtmochicneilhhaaGreat.win
theorem rawQ_shift (p m : List B8) (v : Nat) : ∀ d, rawQ (p ++ m) (p.length + v) d = rawQ m v d
  | 0 => rfl
  | d + 1 => by rw [rawQ, rawQ, rawQ_shift p m v d, Nat.add_assoc, at_app]
theorem rawQ_take (l : List B8) : ∀ d, d ≤ l.length → rawQ l 0 d = l.take d
  | 0, _ => rfl
  | d + 1, h => by
    have hx : l[d]? = some l[d] := List.getElem?_eq_getElem (by omega)
    rw [rawQ, rawQ_take l d (by omega), List.take_add_one, hx, Nat.zero_add]
    have e : at_ l d = l[d].toNat := by unfold at_; rw [hx]
    rw [e, bv_nat]
    rfl
theorem rowQ_shift (p m : List B8) (n q v : Nat) : rowQ (p ++ m) n q (p.length + v) = ((rowQ m n q v).1, p.length + (rowQ m n q v).2) := by
  unfold rowQ serveQ decodeQ feedQ askQ eventQ markQ publishQ tickQ vacuumQ
  simp only [Nat.add_assoc, at_app, rawQ_shift, reqQ_shift]
  (repeat' split) <;> rfl
theorem stepQ_shift (p m : List B8) (n v : Nat) : stepQ (p ++ m) n (p.length + v) = ((stepQ m n v).1, p.length + (stepQ m n v).2) := by
  unfold stepQ
  rw [at_app, Nat.add_assoc]
  exact rowQ_shift p m n _ _
theorem wstep_in {n : Int} {x : SP} (w : Wt) (h1 : 0 ≤ x.cl) (h2 : x.cl < n) (h3 : blankQ x = x) : wstep n w x =
    if x.k = 1#8 then wfeed x w else if x.k = 2#8 then (w.1 ++ [2#8, BitVec.ofInt 8 x.cl], w.2) else if x.k = 3#8 then (w.1 ++ [0#8, BitVec.ofInt 8 x.cl], w.2)
    else if x.k = 4#8 then wop x.op (w.1, w.2 || x.op.right != 0) else if x.k = 5#8 then (w.1 ++ [13#8], w.2) else if x.k = 7#8 then (w.1 ++ [15#8], w.2) else if x.k = 6#8 then wnumber x.by_ 256 (w.1 ++ [14#8], w.2) else (w.1, true) := by
  unfold wstep
  rw [if_neg]
  rw [h3, SP.eqB_self]
  simp
  omega
theorem wstep_good {n : Int} {x : SP} {w : Wt} (h : (wstep n w x).2 = false) : 0 ≤ x.cl ∧ x.cl < n ∧ blankQ x = x := by
  unfold wstep at h
  by_cases hb : ((decide (x.cl < 0) || decide (x.cl ≥ n)) || !(x.eqB (blankQ x))) = true
  · rw [if_pos hb] at h; cases h
  · simp at hb
    exact ⟨by omega, by omega, ((SP.eqB_iff _ _).1 (by simpa using hb.2)).symm⟩
theorem right_cases {o : EOp} (h : o.right = 0) : (o.k = 1#8 ∨ o.k = 2#8) ∧ ¬ o.bad ∧ ¬ o.late := by
  unfold EOp.right at h
  split at h
  · cases h
  · rename_i h1
    split at h
    · cases h
    · rename_i h2
      split at h
      · cases h
      · rename_i h3
        refine ⟨?_, h2, h3⟩
        by_cases h4 : o.k = 1#8
        · exact .inl h4
        · exact .inr (Decidable.byContradiction fun h5 => h1 ⟨h4, h5⟩)
theorem small_val {v : Int} (h : -128 ≤ v ∧ v ≤ 127) (h1 : v ≠ 127) (h2 : v ≠ -128) : valueQ (BitVec.ofInt 8 v).toNat = v := by
  have hs := ofInt_small h
  have hb : (BitVec.ofInt 8 v).toNat ≠ 127 ∧ (BitVec.ofInt 8 v).toNat ≠ 128 := by
    rw [BitVec.toNat_ofInt]
    have e : ((2 ^ 8 : Nat) : Int) = 256 := rfl
    rw [e]
    omega
  unfold valueQ
  rw [if_neg hb.1, if_neg hb.2, hs]
theorem value_back {v : Int} {w : Wt} (h : (wvalue v w).2 = false) : w.2 = false ∧ ∃ b : B8, (wvalue v w).1 = w.1 ++ [b] ∧ valueQ b.toNat = v := by
  unfold wvalue at h ⊢
  by_cases h1 : v = 9223372036854775807
  · rw [if_pos h1] at h ⊢
    rw [wsmall_ok] at h
    exact ⟨h.1, _, rfl, by rw [h1]; rfl⟩
  · rw [if_neg h1] at h ⊢
    by_cases h2 : v = -9223372036854775808
    · rw [if_pos h2] at h ⊢
      rw [wsmall_ok] at h
      exact ⟨h.1, _, rfl, by rw [h2]; rfl⟩
    · rw [if_neg h2] at h ⊢
      rw [wsmall_ok] at h
      simp only [Bool.or_eq_false_iff, beq_eq_false_iff_ne] at h
      exact ⟨h.1.1.1, _, rfl, small_val h.2 h.1.1.2 h.1.2⟩
theorem op_back {o : EOp} (hr : o.right = 0) (h : (wop o ([], false)).2 = false) (n : Nat) (t : List B8) : stepQ ((wop o ([], false)).1 ++ t) n 0 = (⟨4#8, 0, [], o, 0#64⟩, (wop o ([], false)).1.length) := by
  obtain ⟨hk, hb, _⟩ := right_cases hr
  unfold EOp.bad at hb
  obtain ⟨k, key, tm, vl⟩ := o
  dsimp only at hk hb
  unfold wop at h ⊢
  dsimp only at h ⊢
  rcases hk with rfl | rfl
  · rw [if_pos rfl] at h ⊢
    obtain ⟨h1, b3, e3, v3⟩ := value_back h
    rw [wsmall_ok, wletter_ok] at h1
    obtain ⟨⟨_, x, rfl, hx⟩, ht⟩ := h1
    rw [e3]
    have hs := ofInt_small ht
    show ((⟨4#8, 0, [], ⟨1#8, keyQ (BitVec.ofInt 8 ((x.toNat : Int) - 97)).toNat, small (BitVec.ofInt 8 tm).toNat, valueQ b3.toNat⟩, 0#64⟩ : SP), 4) = _
    rw [letter_back hx, hs, v3]
    rfl
  · rw [if_neg (by decide)] at h ⊢
    rw [wsmall_ok] at h
    have hb2 : key = [] ∧ vl = 0 := by
      refine ⟨Decidable.byContradiction fun h1 => hb (.inr ⟨rfl, .inl h1⟩), Decidable.byContradiction fun h1 => hb (.inr ⟨rfl, .inr h1⟩)⟩
    obtain ⟨rfl, rfl⟩ := hb2
    show ((⟨4#8, 0, [], ⟨2#8, [], small (BitVec.ofInt 8 tm).toNat, 0⟩, 0#64⟩ : SP), 2) = _
    rw [ofInt_small h.2]
    rfl
theorem cl_back {n : Nat} {cl : Int} (h1 : 0 ≤ cl) (h2 : cl < n) (hn : n ≤ 8) : (((BitVec.ofInt 8 cl).toNat % n : Nat) : Int) = cl := by
  rw [ofInt8 (by omega), Nat.mod_eq_of_lt (by omega)]
  omega
theorem raw_back {n : Nat} (hn : n ≤ 8) {x : SP} (h1 : 0 ≤ x.cl) (h2 : x.cl < n) (hk : x = ⟨1#8, x.cl, x.bs, zeroO, 0#64⟩) (h : (wraw x ([], false)).2 = false) (t : List B8) : stepQ ((wraw x ([], false)).1 ++ t) n 0 = (x, (wraw x ([], false)).1.length) := by
  have hl : x.bs.length < 16 := by
    have hh : (wput (x.bs.length : Nat) 16 ([] ++ [4#8, BitVec.ofInt 8 x.cl], false)).2 = false := h
    have := (wput_ok.1 hh).2
    omega
  have e : (wraw x ([], false)).1 = [4#8, BitVec.ofInt 8 x.cl, BitVec.ofInt 8 ((x.bs.length : Nat) : Int)] ++ x.bs := rfl
  rw [e, List.append_assoc]
  have hb : (BitVec.ofInt 8 ((x.bs.length : Nat) : Int)).toNat % 16 = x.bs.length := by rw [ofInt8 (by omega), Int.toNat_natCast, Nat.mod_eq_of_lt hl]
  show ((⟨1#8, ((BitVec.ofInt 8 x.cl).toNat % n : Nat), rawQ ([4#8, BitVec.ofInt 8 x.cl, BitVec.ofInt 8 ((x.bs.length : Nat) : Int)] ++ (x.bs ++ t)) ([4#8, BitVec.ofInt 8 x.cl, BitVec.ofInt 8 ((x.bs.length : Nat) : Int)].length + 0) ((BitVec.ofInt 8 ((x.bs.length : Nat) : Int)).toNat % 16), zeroO, 0#64⟩ : SP), 1 + 2 + (BitVec.ofInt 8 ((x.bs.length : Nat) : Int)).toNat % 16) = _
  rw [hb, rawQ_shift, rawQ_take _ _ (by rw [List.length_append]; omega), List.take_left' rfl, cl_back h1 h2 hn, ← hk, List.length_append]
  rfl
theorem wask_eq (r : RQ) (cl : Int) : wask r cl = ([5#8, BitVec.ofInt 8 cl] ++ (wreq r ([], false)).1, (wreq r ([], false)).2) := em_req r _
theorem ask_step (n : Nat) (cl : Int) (r : RQ) (m : List B8) : stepQ ([5#8, BitVec.ofInt 8 cl] ++ m) n 0 = (⟨1#8, ((BitVec.ofInt 8 cl).toNat % n : Nat), frameQ (reqQ m 0).1, zeroO, 0#64⟩, 2 + (reqQ m 0).2) := by
  have h := reqQ_shift [5#8, BitVec.ofInt 8 cl] m 0
  show ((⟨1#8, ((BitVec.ofInt 8 cl).toNat % n : Nat), frameQ (reqQ ([5#8, BitVec.ofInt 8 cl] ++ m) ([5#8, BitVec.ofInt 8 cl].length + 0)).1, zeroO, 0#64⟩ : SP), (reqQ ([5#8, BitVec.ofInt 8 cl] ++ m) ([5#8, BitVec.ofInt 8 cl].length + 0)).2) = _
  rw [h]
  rfl
theorem frameQ_right {r : RQ} (h : r.right = true) : frameQ r = fr.frm r.enc := by unfold frameQ; rw [if_pos h]
theorem feed_back {n : Nat} (hn : n ≤ 8) {x : SP} (h1 : 0 ≤ x.cl) (h2 : x.cl < n) (hk : x = ⟨1#8, x.cl, x.bs, zeroO, 0#64⟩) (h : (wfeed x ([], false)).2 = false) (t : List B8) : stepQ ((wfeed x ([], false)).1 ++ t) n 0 = (x, (wfeed x ([], false)).1.length) := by
  unfold wfeed at h ⊢
  cases ha : askedQ x.bs with
  | none =>
    rw [ha] at h
    exact raw_back hn h1 h2 hk h t
  | some r =>
    rw [ha] at h
    dsimp only at h ⊢
    by_cases hb : (wask r x.cl).2 = true
    · rw [if_pos hb] at h ⊢
      exact raw_back hn h1 h2 hk h t
    · rw [if_neg hb] at h ⊢
      obtain ⟨hr, hf, hbs⟩ := asked_inv ha
      rw [wask_eq] at hb ⊢
      dsimp only at hb ⊢
      have hq := req_back hr (by simpa using hb) t
      rw [List.nil_append, List.append_assoc, ask_step n x.cl r, hq]
      dsimp only
      rw [frameQ_right hr, ← hbs, cl_back h1 h2 hn, ← hk, List.length_append]
      rfl
theorem step_back {n : Nat} (hn : n ≤ 8) {x : SP} (h : (wstep n ([], false) x).2 = false) (t : List B8) : stepQ ((wstep n ([], false) x).1 ++ t) n 0 = (x, (wstep n ([], false) x).1.length) := by
  obtain ⟨h1, h2, h3⟩ := wstep_good h
  rw [wstep_in _ h1 h2 h3] at h ⊢
  unfold blankQ at h3
  by_cases e1 : x.k = 1#8
  · rw [if_pos e1] at h h3 ⊢
    exact feed_back hn h1 h2 (by rw [← e1]; exact h3.symm) h t
  rw [if_neg e1] at h h3 ⊢
  by_cases e2 : x.k = 2#8
  · rw [if_pos e2] at h ⊢
    rw [if_pos (.inl e2)] at h3
    show ((⟨2#8, ((BitVec.ofInt 8 x.cl).toNat % n : Nat), [], zeroO, 0#64⟩ : SP), 2) = _
    rw [cl_back h1 h2 hn, ← e2, h3]
    rfl
  rw [if_neg e2] at h ⊢
  by_cases e3 : x.k = 3#8
  · rw [if_pos e3] at h ⊢
    rw [if_pos (.inr e3)] at h3
    show ((⟨3#8, ((BitVec.ofInt 8 x.cl).toNat % n : Nat), [], zeroO, 0#64⟩ : SP), 2) = _
    rw [cl_back h1 h2 hn, ← e3, h3]
    rfl
  rw [if_neg e3] at h ⊢
  rw [if_neg (fun hh => hh.elim e2 e3)] at h3
  by_cases e4 : x.k = 4#8
  · rw [if_pos e4] at h h3 ⊢
    have e := ((em_op x.op).comp (em_add [] (x.op.right != 0))) ([], false)
    have hm := em_op x.op ([], false || x.op.right != 0)
    rw [hm] at h ⊢
    dsimp only at h ⊢
    rw [Bool.or_eq_false_iff] at h
    have hr : x.op.right = 0 := by
      have := h.1
      simpa using this
    rw [List.nil_append, op_back hr h.2 n t, ← e4, h3]
  rw [if_neg e4] at h h3 ⊢
  by_cases e5 : x.k = 5#8
  · rw [if_pos e5] at h ⊢
    rw [if_neg (by rw [e5]; decide)] at h3
    show ((⟨5#8, 0, [], zeroO, 0#64⟩ : SP), 1) = _
    rw [← e5, h3]
    rfl
  rw [if_neg e5] at h ⊢
  by_cases e7 : x.k = 7#8
  · rw [if_pos e7] at h ⊢
    rw [if_neg (by rw [e7]; decide)] at h3
    show ((⟨7#8, 0, [], zeroO, 0#64⟩ : SP), 1) = _
    rw [← e7, h3]
    rfl
  rw [if_neg e7] at h ⊢
  by_cases e6 : x.k = 6#8
  · rw [if_pos e6] at h h3 ⊢
    rw [wnumber_ok] at h
    have eb : (BitVec.ofInt 8 ((min x.by_.toNat 256 : Nat) : Int)).toNat = x.by_.toNat := by
      rw [Nat.min_eq_left (by omega), ofInt8 (by omega), Int.toNat_natCast]
    show ((⟨6#8, 0, [], zeroO, BitVec.ofInt 64 (((BitVec.ofInt 8 ((min x.by_.toNat 256 : Nat) : Int)).toNat : Nat) : Int)⟩ : SP), 2) = _
    rw [eb, bv_nat, ← e6, h3]
    rfl
  · rw [if_neg e6] at h
    cases h
theorem raw_ok {x : SP} (h : x.bs.length < 16) : (wraw x ([], false)).2 = false ∧ (wraw x ([], false)).1.length = 3 + x.bs.length := by
  refine ⟨?_, by rw [wraw_len]; simp⟩
  show (wput (x.bs.length : Nat) 16 ([] ++ [4#8, BitVec.ofInt 8 x.cl], false)).2 = false
  rw [wput_ok]
  exact ⟨rfl, by omega, by omega⟩
theorem value_ok {e : Nat} (he : e < 256) (w : Wt) (hw : w.2 = false) : (wvalue (valueQ e) w).2 = false := by
  unfold valueQ wvalue
  by_cases h1 : e = 127
  · rw [if_pos h1, if_pos rfl, wsmall_ok]
    exact ⟨hw, by decide, by decide⟩
  · rw [if_neg h1]
    by_cases h2 : e = 128
    · rw [if_pos h2, if_neg (by decide), if_pos rfl, wsmall_ok]
      exact ⟨hw, by decide, by decide⟩
    · rw [if_neg h2]
      have hs := small_fit he
      have e1 : small e ≠ 127 := by unfold small; split <;> omega
      have e2 : small e ≠ -128 := by unfold small; split <;> omega
      rw [if_neg (by omega), if_neg (by omega), wsmall_ok]
      dsimp only
      rw [hw, beq_eq_false_iff_ne.2 e1, beq_eq_false_iff_ne.2 e2]
      exact ⟨rfl, hs⟩
theorem key_fit (c : Nat) : ∃ x : B8, keyQ c = [x] ∧ 97 ≤ x.toNat ∧ x.toNat < 101 := ⟨_, rfl, by
  rw [BitVec.toNat_ofNat]
  have := Nat.mod_lt c (show 0 < 4 by decide)
  omega⟩
theorem event_right {c d : Nat} (hd : d < 256) (v : Int) : EOp.right ⟨1#8, keyQ c, small d, v⟩ = 0 := by
  have hs := small_fit hd
  refine EOp.right0 (by simp) ?_ ?_
  · unfold EOp.bad
    simp [keyQ]
  · unfold EOp.late
    dsimp only
    omega
theorem mark_right {d : Nat} (hd : d < 256) : EOp.right ⟨2#8, [], small d, 0⟩ = 0 := by
  have hs := small_fit hd
  refine EOp.right0 (by simp) ?_ ?_
  · unfold EOp.bad
    simp
  · unfold EOp.late
    dsimp only
    omega
theorem step_ok {n : Nat} (hn : 1 ≤ n) (l : List B8) (v : Nat) : (wstep n ([], false) (stepQ l n v).1).2 = false ∧ v + (wstep n ([], false) (stepQ l n v).1).1.length ≤ (stepQ l n v).2 := by
  have hcl : ∀ c : Nat, (0 : Int) ≤ (c % n : Nat) ∧ ((c % n : Nat) : Int) < n := fun c => by
    have := Nat.mod_lt c (show 0 < n by omega)
    omega
  unfold stepQ rowQ
  split
  · have e : wstep n ([], false) (serveQ l n (v + 1)).1 = _ := wstep_in _ (hcl _).1 (hcl _).2 rfl
    rw [e]
    exact ⟨rfl, Nat.le_refl _⟩
  split
  · have e : wstep n ([], false) (decodeQ l n (v + 1)).1 = _ := wstep_in _ (hcl _).1 (hcl _).2 rfl
    rw [e]
    exact ⟨rfl, Nat.le_refl _⟩
  split
  · have e : wstep n ([], false) (feedQ l n (v + 1)).1 = wfeed (feedQ l n (v + 1)).1 ([], false) := (wstep_in _ (hcl _).1 (hcl _).2 rfl).trans rfl
    rw [e]
    have hbl : (feedQ l n (v + 1)).1.bs.length = at_ l (v + 1 + 1) % 16 := rawQ_len _ _ _
    have h16 := Nat.mod_lt (at_ l (v + 1 + 1)) (show 0 < 16 by decide)
    have hr := raw_ok (x := (feedQ l n (v + 1)).1) (by omega)
    have hnx : (feedQ l n (v + 1)).2 = v + 1 + 2 + at_ l (v + 1 + 1) % 16 := rfl
    rw [hnx]
    unfold wfeed
    cases ha : askedQ (feedQ l n (v + 1)).1.bs with
    | none =>
      dsimp only
      rw [hr.1, hr.2, hbl]
      exact ⟨rfl, by omega⟩
    | some r =>
      dsimp only
      by_cases hb : (wask r (feedQ l n (v + 1)).1.cl).2 = true
      · rw [if_pos hb, hr.1, hr.2, hbl]
        exact ⟨rfl, by omega⟩
      · rw [if_neg hb]
        obtain ⟨h1, h2, h3⟩ := asked_inv ha
        have h4 := wask_len r (feedQ l n (v + 1)).1.cl
        have h5 := (rq.enc_le h1).2
        have h6 := congrArg List.length h3
        rw [hbl, fr.frm_len] at h6
        exact ⟨rfl, by rw [List.nil_append]; show v + (wask r (feedQ l n (v + 1)).1.cl).1.length ≤ _; omega⟩
  split
  · have e : wstep n ([], false) (askQ l n (v + 1)).1 = wfeed (askQ l n (v + 1)).1 ([], false) := (wstep_in _ (hcl _).1 (hcl _).2 rfl).trans rfl
    rw [e]
    obtain ⟨h1, h2, h3, h4⟩ := req_ok l (v + 1 + 1)
    have ha : askedQ (askQ l n (v + 1)).1.bs = some (reqQ l (v + 1 + 1)).1 := by
      show askedQ (frameQ (reqQ l (v + 1 + 1)).1) = _
      rw [frameQ_right h1, asked_frm h1 h2]
    have hnx : (askQ l n (v + 1)).2 = (reqQ l (v + 1 + 1)).2 := rfl
    unfold wfeed
    rw [ha, hnx]
    dsimp only
    rw [wask_eq, h3, if_neg (by decide)]
    refine ⟨rfl, ?_⟩
    dsimp only
    rw [List.nil_append, List.length_append, ← h4]
    show v + (2 + _) ≤ _
    omega
  split
  · have e : wstep n ([], false) (eventQ l (v + 1)).1 = wop (eventQ l (v + 1)).1.op ([], false || (eventQ l (v + 1)).1.op.right != 0) := (wstep_in _ (Int.le_refl 0) (by show (0 : Int) < n; omega) rfl).trans rfl
    have hr : (eventQ l (v + 1)).1.op.right = 0 := event_right (at_lt _ _) _
    rw [e, hr]
    obtain ⟨x, hx, hx2⟩ := key_fit (at_ l (v + 1))
    have hw : wop (eventQ l (v + 1)).1.op ([], false) = wvalue (valueQ (at_ l (v + 1 + 2))) (wsmall (small (at_ l (v + 1 + 1))) (wletter (keyQ (at_ l (v + 1))) ([9#8], false))) := rfl
    show (wop (eventQ l (v + 1)).1.op ([], false)).2 = false ∧ v + (wop (eventQ l (v + 1)).1.op ([], false)).1.length ≤ _
    rw [hw]
    refine ⟨value_ok (at_lt _ _) _ (wsmall_ok.2 ⟨wletter_ok.2 ⟨rfl, x, hx, hx2⟩, small_fit (at_lt _ _)⟩), ?_⟩
    rw [wvalue_len, wsmall_len, hx]
    exact Nat.le_refl _
  split
  · have e : wstep n ([], false) (markQ l (v + 1)).1 = wop (markQ l (v + 1)).1.op ([], false || (markQ l (v + 1)).1.op.right != 0) := (wstep_in _ (Int.le_refl 0) (by show (0 : Int) < n; omega) rfl).trans rfl
    have hr : (markQ l (v + 1)).1.op.right = 0 := mark_right (at_lt _ _)
    rw [e, hr]
    have hw : wop (markQ l (v + 1)).1.op ([], false) = wsmall (small (at_ l (v + 1))) ([12#8], false) := rfl
    show (wop (markQ l (v + 1)).1.op ([], false)).2 = false ∧ v + (wop (markQ l (v + 1)).1.op ([], false)).1.length ≤ _
    rw [hw]
    refine ⟨wsmall_ok.2 ⟨rfl, small_fit (at_lt _ _)⟩, ?_⟩
    rw [wsmall_len]
    exact Nat.le_refl _
  split
  · have e : wstep n ([], false) (publishQ (v + 1)).1 = _ := wstep_in _ (Int.le_refl 0) (by show (0 : Int) < n; omega) rfl
    rw [e]
    exact ⟨rfl, Nat.le_refl _⟩
  split
  · have e : wstep n ([], false) (tickQ l (v + 1)).1 = wnumber (tickQ l (v + 1)).1.by_ 256 ([14#8], false) := (wstep_in _ (Int.le_refl 0) (by show (0 : Int) < n; omega) rfl).trans rfl
    rw [e]
    refine ⟨wnumber_ok.2 ⟨rfl, ofInt_lt (w := 64) (at_lt l (v + 1)) (by decide)⟩, ?_⟩
    exact Nat.le_refl _
  · have e : wstep n ([], false) (vacuumQ (v + 1)).1 = _ := wstep_in _ (Int.le_refl 0) (by show (0 : Int) < n; omega) rfl
    rw [e]
    exact ⟨rfl, Nat.le_refl _⟩
end Go.Proofs.YtmochicneilhhaaGreat.sc
