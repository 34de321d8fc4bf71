/- scripts: a step, there and back: plainly. scripts: what the reference guesses is what is written: plainly. -/
import Derived.Test.YtmochicneilhhaaGreatPTw
namespace Go.Proofs.YtmochicneilhhaaGreat.sc
open Go.RowKit Go.Proofs.YtmochicneilhhaaGreat.kit Go.Proofs.YtmochicneilhhaaGreat.pk Go.Proofs.YtmochicneilhhaaGreat.rq Go.Proofs.YtmochicneilhhaaGreat.ev Go.Proofs.YtmochicneilhhaaGreat.win
theorem rawQ_shift (p m : List B8) (v : Nat) : ∀ d, rawQ (p ++ m) (p.length + v) d = rawQ m v d
  | 0 => rfl
  | d + 1 => by rw [rawQ, rawQ, rawQ_shift p m v d, Nat.add_assoc, at_app]
theorem rawQ_take (l : List B8) : ∀ d, d ≤ l.length → rawQ l 0 d = l.take d
  | 0, _ => rfl
  | d + 1, h => by
    have hx : l[d]? = some l[d] := List.getElem?_eq_getElem (by omega)
    rw [rawQ, rawQ_take l d (by omega), List.take_add_one, hx, Nat.zero_add]
    have e : at_ l d = l[d].toNat := by unfold at_; rw [hx]
    rw [e, bv_nat]
    rfl
theorem rowQ_shift (p m : List B8) (n q v : Nat) : rowQ (p ++ m) n q (p.length + v) = ((rowQ m n q v).1, p.length + (rowQ m n q v).2) := by
  unfold rowQ serveQ decodeQ feedQ askQ eventQ markQ publishQ tickQ vacuumQ
  simp only [Nat.add_assoc, at_app, rawQ_shift, reqQ_shift]
  (repeat' split) <;> rfl
theorem stepQ_shift (p m : List B8) (n v : Nat) : stepQ (p ++ m) n (p.length + v) = ((stepQ m n v).1, p.length + (stepQ m n v).2) := by
  unfold stepQ
  rw [at_app, Nat.add_assoc]
  exact rowQ_shift p m n _ _
theorem wstep_in {n : Int} {x : SP} (w : Wt) (h1 : 0 ≤ x.cl) (h2 : x.cl < n) (h3 : blankQ x = x) : wstep n w x =
    if x.k = 1#8 then wfeed x w else if x.k = 2#8 then (w.1 ++ [2#8, BitVec.ofInt 8 x.cl], w.2) else if x.k = 3#8 then (w.1 ++ [0#8, BitVec.ofInt 8 x.cl], w.2)
    else if x.k = 4#8 then wop x.op (w.1, w.2 || x.op.right != 0) else if x.k = 5#8 then (w.1 ++ [13#8], w.2) else if x.k = 7#8 then (w.1 ++ [15#8], w.2) else if x.k = 6#8 then wnumber x.by_ 256 (w.1 ++ [14#8], w.2) else (w.1, true) := by
  unfold wstep
  rw [if_neg]
  rw [h3, SP.eqB_self]
  simp
  omega
theorem wstep_good {n : Int} {x : SP} {w : Wt} (h : (wstep n w x).2 = false) : 0 ≤ x.cl ∧ x.cl < n ∧ blankQ x = x := by
  unfold wstep at h
  by_cases hb : ((decide (x.cl < 0) || decide (x.cl ≥ n)) || !(x.eqB (blankQ x))) = true
  · rw [if_pos hb] at h; cases h
  · simp at hb
    exact ⟨by omega, by omega, ((SP.eqB_iff _ _).1 (by simpa using hb.2)).symm⟩
theorem right_cases {o : EOp} (h : o.right = 0) : (o.k = 1#8 ∨ o.k = 2#8) ∧ ¬ o.bad ∧ ¬ o.late := by
  unfold EOp.right at h
  split at h
  · cases h
  · rename_i h1
    split at h
    · cases h
    · rename_i h2
      split at h
      · cases h
      · rename_i h3
        refine ⟨?_, h2, h3⟩
        by_cases h4 : o.k = 1#8
        · exact .inl h4
        · exact .inr (Decidable.byContradiction fun h5 => h1 ⟨h4, h5⟩)
theorem small_val {v : Int} (h : -128 ≤ v ∧ v ≤ 127) (h1 : v ≠ 127) (h2 : v ≠ -128) : valueQ (BitVec.ofInt 8 v).toNat = v := by
  have hs := ofInt_small h
  have hb : (BitVec.ofInt 8 v).toNat ≠ 127 ∧ (BitVec.ofInt 8 v).toNat ≠ 128 := by
    rw [BitVec.toNat_ofInt]
    have e : ((2 ^ 8 : Nat) : Int) = 256 := rfl
    rw [e]
    omega
  unfold valueQ
  rw [if_neg hb.1, if_neg hb.2, hs]
theorem value_back {v : Int} {w : Wt} (h : (wvalue v w).2 = false) : w.2 = false ∧ ∃ b : B8, (wvalue v w).1 = w.1 ++ [b] ∧ valueQ b.toNat = v := by
  unfold wvalue at h ⊢
  by_cases h1 : v = 9223372036854775807
  · rw [if_pos h1] at h ⊢
    rw [wsmall_ok] at h
    exact ⟨h.1, _, rfl, by rw [h1]; rfl⟩
  · rw [if_neg h1] at h ⊢
    by_cases h2 : v = -9223372036854775808
    · rw [if_pos h2] at h ⊢
      rw [wsmall_ok] at h
      exact ⟨h.1, _, rfl, by rw [h2]; rfl⟩
    · rw [if_neg h2] at h ⊢
      rw [wsmall_ok] at h
      simp only [Bool.or_eq_false_iff, beq_eq_false_iff_ne] at h
      exact ⟨h.1.1.1, _, rfl, small_val h.2 h.1.1.2 h.1.2⟩
theorem op_back {o : EOp} (hr : o.right = 0) (h : (wop o ([], false)).2 = false) (n : Nat) (t : List B8) : stepQ ((wop o ([], false)).1 ++ t) n 0 = (⟨4#8, 0, [], o, 0#64⟩, (wop o ([], false)).1.length) := by
  obtain ⟨hk, hb, _⟩ := right_cases hr
  unfold EOp.bad at hb
  obtain ⟨k, key, tm, vl⟩ := o
  dsimp only at hk hb
  unfold wop at h ⊢
  dsimp only at h ⊢
  rcases hk with rfl | rfl
  · rw [if_pos rfl] at h ⊢
    obtain ⟨h1, b3, e3, v3⟩ := value_back h
    rw [wsmall_ok, wletter_ok] at h1
    obtain ⟨⟨_, x, rfl, hx⟩, ht⟩ := h1
    rw [e3]
    have hs := ofInt_small ht
    show ((⟨4#8, 0, [], ⟨1#8, keyQ (BitVec.ofInt 8 ((x.toNat : Int) - 97)).toNat, small (BitVec.ofInt 8 tm).toNat, valueQ b3.toNat⟩, 0#64⟩ : SP), 4) = _
    rw [letter_back hx, hs, v3]
    rfl
  · rw [if_neg (by decide)] at h ⊢
    rw [wsmall_ok] at h
    have hb2 : key = [] ∧ vl = 0 := by
      refine ⟨Decidable.byContradiction fun h1 => hb (.inr ⟨rfl, .inl h1⟩), Decidable.byContradiction fun h1 => hb (.inr ⟨rfl, .inr h1⟩)⟩
    obtain ⟨rfl, rfl⟩ := hb2
    show ((⟨4#8, 0, [], ⟨2#8, [], small (BitVec.ofInt 8 tm).toNat, 0⟩, 0#64⟩ : SP), 2) = _
    rw [ofInt_small h.2]
    rfl
theorem cl_back {n : Nat} {cl : Int} (h1 : 0 ≤ cl) (h2 : cl < n) (hn : n ≤ 8) : (((BitVec.ofInt 8 cl).toNat % n : Nat) : Int) = cl := by
  rw [ofInt8 (by omega), Nat.mod_eq_of_lt (by omega)]
  omega
theorem raw_back {n : Nat} (hn : n ≤ 8) {x : SP} (h1 : 0 ≤ x.cl) (h2 : x.cl < n) (hk : x = ⟨1#8, x.cl, x.bs, zeroO, 0#64⟩) (h : (wraw x ([], false)).2 = false) (t : List B8) : stepQ ((wraw x ([], false)).1 ++ t) n 0 = (x, (wraw x ([], false)).1.length) := by
  have hl : x.bs.length < 16 := by
    have hh : (wput (x.bs.length : Nat) 16 ([] ++ [4#8, BitVec.ofInt 8 x.cl], false)).2 = false := h
    have := (wput_ok.1 hh).2
    omega
  have e : (wraw x ([], false)).1 = [4#8, BitVec.ofInt 8 x.cl, BitVec.ofInt 8 ((x.bs.length : Nat) : Int)] ++ x.bs := rfl
  rw [e, List.append_assoc]
  have hb : (BitVec.ofInt 8 ((x.bs.length : Nat) : Int)).toNat % 16 = x.bs.length := by rw [ofInt8 (by omega), Int.toNat_natCast, Nat.mod_eq_of_lt hl]
  show ((⟨1#8, ((BitVec.ofInt 8 x.cl).toNat % n : Nat), rawQ ([4#8, BitVec.ofInt 8 x.cl, BitVec.ofInt 8 ((x.bs.length : Nat) : Int)] ++ (x.bs ++ t)) ([4#8, BitVec.ofInt 8 x.cl, BitVec.ofInt 8 ((x.bs.length : Nat) : Int)].length + 0) ((BitVec.ofInt 8 ((x.bs.length : Nat) : Int)).toNat % 16), zeroO, 0#64⟩ : SP), 1 + 2 + (BitVec.ofInt 8 ((x.bs.length : Nat) : Int)).toNat % 16) = _
  rw [hb, rawQ_shift, rawQ_take _ _ (by rw [List.length_append]; omega), List.take_left' rfl, cl_back h1 h2 hn, ← hk, List.length_append]
  rfl
theorem wask_eq (r : RQ) (cl : Int) : wask r cl = ([5#8, BitVec.ofInt 8 cl] ++ (wreq r ([], false)).1, (wreq r ([], false)).2) := em_req r _
theorem ask_step (n : Nat) (cl : Int) (r : RQ) (m : List B8) : stepQ ([5#8, BitVec.ofInt 8 cl] ++ m) n 0 = (⟨1#8, ((BitVec.ofInt 8 cl).toNat % n : Nat), frameQ (reqQ m 0).1, zeroO, 0#64⟩, 2 + (reqQ m 0).2) := by
  have h := reqQ_shift [5#8, BitVec.ofInt 8 cl] m 0
  show ((⟨1#8, ((BitVec.ofInt 8 cl).toNat % n : Nat), frameQ (reqQ ([5#8, BitVec.ofInt 8 cl] ++ m) ([5#8, BitVec.ofInt 8 cl].length + 0)).1, zeroO, 0#64⟩ : SP), (reqQ ([5#8, BitVec.ofInt 8 cl] ++ m) ([5#8, BitVec.ofInt 8 cl].length + 0)).2) = _
  rw [h]
  rfl
theorem frameQ_right {r : RQ} (h : r.right = true) : frameQ r = fr.frm r.enc := by unfold frameQ; rw [if_pos h]
theorem feed_back {n : Nat} (hn : n ≤ 8) {x : SP} (h1 : 0 ≤ x.cl) (h2 : x.cl < n) (hk : x = ⟨1#8, x.cl, x.bs, zeroO, 0#64⟩) (h : (wfeed x ([], false)).2 = false) (t : List B8) : stepQ ((wfeed x ([], false)).1 ++ t) n 0 = (x, (wfeed x ([], false)).1.length) := by
  unfold wfeed at h ⊢
  cases ha : askedQ x.bs with
  | none =>
    rw [ha] at h
    exact raw_back hn h1 h2 hk h t
  | some r =>
    rw [ha] at h
    dsimp only at h ⊢
    by_cases hb : (wask r x.cl).2 = true
    · rw [if_pos hb] at h ⊢
      exact raw_back hn h1 h2 hk h t
    · rw [if_neg hb] at h ⊢
      obtain ⟨hr, hf, hbs⟩ := asked_inv ha
      rw [wask_eq] at hb ⊢
      dsimp only at hb ⊢
      have hq := req_back hr (by simpa using hb) t
      rw [List.nil_append, List.append_assoc, ask_step n x.cl r, hq]
      dsimp only
      rw [frameQ_right hr, ← hbs, cl_back h1 h2 hn, ← hk, List.length_append]
      rfl
theorem step_back {n : Nat} (hn : n ≤ 8) {x : SP} (h : (wstep n ([], false) x).2 = false) (t : List B8) : stepQ ((wstep n ([], false) x).1 ++ t) n 0 = (x, (wstep n ([], false) x).1.length) := by
  obtain ⟨h1, h2, h3⟩ := wstep_good h
  rw [wstep_in _ h1 h2 h3] at h ⊢
  unfold blankQ at h3
  by_cases e1 : x.k = 1#8
  · rw [if_pos e1] at h h3 ⊢
    exact feed_back hn h1 h2 (by rw [← e1]; exact h3.symm) h t
  rw [if_neg e1] at h h3 ⊢
  by_cases e2 : x.k = 2#8
  · rw [if_pos e2] at h ⊢
    rw [if_pos (.inl e2)] at h3
    show ((⟨2#8, ((BitVec.ofInt 8 x.cl).toNat % n : Nat), [], zeroO, 0#64⟩ : SP), 2) = _
    rw [cl_back h1 h2 hn, ← e2, h3]
    rfl
  rw [if_neg e2] at h ⊢
  by_cases e3 : x.k = 3#8
  · rw [if_pos e3] at h ⊢
    rw [if_pos (.inr e3)] at h3
    show ((⟨3#8, ((BitVec.ofInt 8 x.cl).toNat % n : Nat), [], zeroO, 0#64⟩ : SP), 2) = _
    rw [cl_back h1 h2 hn, ← e3, h3]
    rfl
  rw [if_neg e3] at h ⊢
  rw [if_neg (fun hh => hh.elim e2 e3)] at h3
  by_cases e4 : x.k = 4#8
  · rw [if_pos e4] at h h3 ⊢
    have e := ((em_op x.op).comp (em_add [] (x.op.right != 0))) ([], false)
    have hm := em_op x.op ([], false || x.op.right != 0)
    rw [hm] at h ⊢
    dsimp only at h ⊢
    rw [Bool.or_eq_false_iff] at h
    have hr : x.op.right = 0 := by
      have := h.1
      simpa using this
    rw [List.nil_append, op_back hr h.2 n t, ← e4, h3]
  rw [if_neg e4] at h h3 ⊢
  by_cases e5 : x.k = 5#8
  · rw [if_pos e5] at h ⊢
    rw [if_neg (by rw [e5]; decide)] at h3
    show ((⟨5#8, 0, [], zeroO, 0#64⟩ : SP), 1) = _
    rw [← e5, h3]
    rfl
  rw [if_neg e5] at h ⊢
  by_cases e7 : x.k = 7#8
  · rw [if_pos e7] at h ⊢
    rw [if_neg (by rw [e7]; decide)] at h3
    show ((⟨7#8, 0, [], zeroO, 0#64⟩ : SP), 1) = _
    rw [← e7, h3]
    rfl
  rw [if_neg e7] at h ⊢
  by_cases e6 : x.k = 6#8
  · rw [if_pos e6] at h h3 ⊢
    rw [wnumber_ok] at h
    have eb : (BitVec.ofInt 8 ((min x.by_.toNat 256 : Nat) : Int)).toNat = x.by_.toNat := by
      rw [Nat.min_eq_left (by omega), ofInt8 (by omega), Int.toNat_natCast]
    show ((⟨6#8, 0, [], zeroO, BitVec.ofInt 64 (((BitVec.ofInt 8 ((min x.by_.toNat 256 : Nat) : Int)).toNat : Nat) : Int)⟩ : SP), 2) = _
    rw [eb, bv_nat, ← e6, h3]
    rfl
  · rw [if_neg e6] at h
    cases h
theorem raw_ok {x : SP} (h : x.bs.length < 16) : (wraw x ([], false)).2 = false ∧ (wraw x ([], false)).1.length = 3 + x.bs.length := by
  refine ⟨?_, by rw [wraw_len]; simp⟩
  show (wput (x.bs.length : Nat) 16 ([] ++ [4#8, BitVec.ofInt 8 x.cl], false)).2 = false
  rw [wput_ok]
  exact ⟨rfl, by omega, by omega⟩
theorem value_ok {e : Nat} (he : e < 256) (w : Wt) (hw : w.2 = false) : (wvalue (valueQ e) w).2 = false := by
  unfold valueQ wvalue
  by_cases h1 : e = 127
  · rw [if_pos h1, if_pos rfl, wsmall_ok]
    exact ⟨hw, by decide, by decide⟩
  · rw [if_neg h1]
    by_cases h2 : e = 128
    · rw [if_pos h2, if_neg (by decide), if_pos rfl, wsmall_ok]
      exact ⟨hw, by decide, by decide⟩
    · rw [if_neg h2]
      have hs := small_fit he
      have e1 : small e ≠ 127 := by unfold small; split <;> omega
      have e2 : small e ≠ -128 := by unfold small; split <;> omega
      rw [if_neg (by omega), if_neg (by omega), wsmall_ok]
      dsimp only
      rw [hw, beq_eq_false_iff_ne.2 e1, beq_eq_false_iff_ne.2 e2]
      exact ⟨rfl, hs⟩
theorem key_fit (c : Nat) : ∃ x : B8, keyQ c = [x] ∧ 97 ≤ x.toNat ∧ x.toNat < 101 := ⟨_, rfl, by
  rw [BitVec.toNat_ofNat]
  have := Nat.mod_lt c (show 0 < 4 by decide)
  omega⟩
theorem event_right {c d : Nat} (hd : d < 256) (v : Int) : EOp.right ⟨1#8, keyQ c, small d, v⟩ = 0 := by
  have hs := small_fit hd
  refine EOp.right0 (by simp) ?_ ?_
  · unfold EOp.bad
    simp [keyQ]
  · unfold EOp.late
    dsimp only
    omega
theorem mark_right {d : Nat} (hd : d < 256) : EOp.right ⟨2#8, [], small d, 0⟩ = 0 := by
  have hs := small_fit hd
  refine EOp.right0 (by simp) ?_ ?_
  · unfold EOp.bad
    simp
  · unfold EOp.late
    dsimp only
    omega
theorem step_ok {n : Nat} (hn : 1 ≤ n) (l : List B8) (v : Nat) : (wstep n ([], false) (stepQ l n v).1).2 = false ∧ v + (wstep n ([], false) (stepQ l n v).1).1.length ≤ (stepQ l n v).2 := by
  have hcl : ∀ c : Nat, (0 : Int) ≤ (c % n : Nat) ∧ ((c % n : Nat) : Int) < n := fun c => by
    have := Nat.mod_lt c (show 0 < n by omega)
    omega
  unfold stepQ rowQ
  split
  · have e : wstep n ([], false) (serveQ l n (v + 1)).1 = _ := wstep_in _ (hcl _).1 (hcl _).2 rfl
    rw [e]
    exact ⟨rfl, Nat.le_refl _⟩
  split
  · have e : wstep n ([], false) (decodeQ l n (v + 1)).1 = _ := wstep_in _ (hcl _).1 (hcl _).2 rfl
    rw [e]
    exact ⟨rfl, Nat.le_refl _⟩
  split
  · have e : wstep n ([], false) (feedQ l n (v + 1)).1 = wfeed (feedQ l n (v + 1)).1 ([], false) := (wstep_in _ (hcl _).1 (hcl _).2 rfl).trans rfl
    rw [e]
    have hbl : (feedQ l n (v + 1)).1.bs.length = at_ l (v + 1 + 1) % 16 := rawQ_len _ _ _
    have h16 := Nat.mod_lt (at_ l (v + 1 + 1)) (show 0 < 16 by decide)
    have hr := raw_ok (x := (feedQ l n (v + 1)).1) (by omega)
    have hnx : (feedQ l n (v + 1)).2 = v + 1 + 2 + at_ l (v + 1 + 1) % 16 := rfl
    rw [hnx]
    unfold wfeed
    cases ha : askedQ (feedQ l n (v + 1)).1.bs with
    | none =>
      dsimp only
      rw [hr.1, hr.2, hbl]
      exact ⟨rfl, by omega⟩
    | some r =>
      dsimp only
      by_cases hb : (wask r (feedQ l n (v + 1)).1.cl).2 = true
      · rw [if_pos hb, hr.1, hr.2, hbl]
        exact ⟨rfl, by omega⟩
      · rw [if_neg hb]
        obtain ⟨h1, h2, h3⟩ := asked_inv ha
        have h4 := wask_len r (feedQ l n (v + 1)).1.cl
        have h5 := (rq.enc_le h1).2
        have h6 := congrArg List.length h3
        rw [hbl, fr.frm_len] at h6
        exact ⟨rfl, by rw [List.nil_append]; show v + (wask r (feedQ l n (v + 1)).1.cl).1.length ≤ _; omega⟩
  split
  · have e : wstep n ([], false) (askQ l n (v + 1)).1 = wfeed (askQ l n (v + 1)).1 ([], false) := (wstep_in _ (hcl _).1 (hcl _).2 rfl).trans rfl
    rw [e]
    obtain ⟨h1, h2, h3, h4⟩ := req_ok l (v + 1 + 1)
    have ha : askedQ (askQ l n (v + 1)).1.bs = some (reqQ l (v + 1 + 1)).1 := by
      show askedQ (frameQ (reqQ l (v + 1 + 1)).1) = _
      rw [frameQ_right h1, asked_frm h1 h2]
    have hnx : (askQ l n (v + 1)).2 = (reqQ l (v + 1 + 1)).2 := rfl
    unfold wfeed
    rw [ha, hnx]
    dsimp only
    rw [wask_eq, h3, if_neg (by decide)]
    refine ⟨rfl, ?_⟩
    dsimp only
    rw [List.nil_append, List.length_append, ← h4]
    show v + (2 + _) ≤ _
    omega
  split
  · have e : wstep n ([], false) (eventQ l (v + 1)).1 = wop (eventQ l (v + 1)).1.op ([], false || (eventQ l (v + 1)).1.op.right != 0) := (wstep_in _ (Int.le_refl 0) (by show (0 : Int) < n; omega) rfl).trans rfl
    have hr : (eventQ l (v + 1)).1.op.right = 0 := event_right (at_lt _ _) _
    rw [e, hr]
    obtain ⟨x, hx, hx2⟩ := key_fit (at_ l (v + 1))
    have hw : wop (eventQ l (v + 1)).1.op ([], false) = wvalue (valueQ (at_ l (v + 1 + 2))) (wsmall (small (at_ l (v + 1 + 1))) (wletter (keyQ (at_ l (v + 1))) ([9#8], false))) := rfl
    show (wop (eventQ l (v + 1)).1.op ([], false)).2 = false ∧ v + (wop (eventQ l (v + 1)).1.op ([], false)).1.length ≤ _
    rw [hw]
    refine ⟨value_ok (at_lt _ _) _ (wsmall_ok.2 ⟨wletter_ok.2 ⟨rfl, x, hx, hx2⟩, small_fit (at_lt _ _)⟩), ?_⟩
    rw [wvalue_len, wsmall_len, hx]
    exact Nat.le_refl _
  split
  · have e : wstep n ([], false) (markQ l (v + 1)).1 = wop (markQ l (v + 1)).1.op ([], false || (markQ l (v + 1)).1.op.right != 0) := (wstep_in _ (Int.le_refl 0) (by show (0 : Int) < n; omega) rfl).trans rfl
    have hr : (markQ l (v + 1)).1.op.right = 0 := mark_right (at_lt _ _)
    rw [e, hr]
    have hw : wop (markQ l (v + 1)).1.op ([], false) = wsmall (small (at_ l (v + 1))) ([12#8], false) := rfl
    show (wop (markQ l (v + 1)).1.op ([], false)).2 = false ∧ v + (wop (markQ l (v + 1)).1.op ([], false)).1.length ≤ _
    rw [hw]
    refine ⟨wsmall_ok.2 ⟨rfl, small_fit (at_lt _ _)⟩, ?_⟩
    rw [wsmall_len]
    exact Nat.le_refl _
  split
  · have e : wstep n ([], false) (publishQ (v + 1)).1 = _ := wstep_in _ (Int.le_refl 0) (by show (0 : Int) < n; omega) rfl
    rw [e]
    exact ⟨rfl, Nat.le_refl _⟩
  split
  · have e : wstep n ([], false) (tickQ l (v + 1)).1 = wnumber (tickQ l (v + 1)).1.by_ 256 ([14#8], false) := (wstep_in _ (Int.le_refl 0) (by show (0 : Int) < n; omega) rfl).trans rfl
    rw [e]
    refine ⟨wnumber_ok.2 ⟨rfl, ofInt_lt (w := 64) (at_lt l (v + 1)) (by decide)⟩, ?_⟩
    exact Nat.le_refl _
  · have e : wstep n ([], false) (vacuumQ (v + 1)).1 = _ := wstep_in _ (Int.le_refl 0) (by show (0 : Int) < n; omega) rfl
    rw [e]
    exact ⟨rfl, Nat.le_refl _⟩
end Go.Proofs.YtmochicneilhhaaGreat.sc
namespace Go.Proofs.YtmochicneilhhaaGreat.sc
open Go.RowKit Go.Proofs.YtmochicneilhhaaGreat.kit Go.Proofs.YtmochicneilhhaaGreat.pk Go.Proofs.YtmochicneilhhaaGreat.rq Go.Proofs.YtmochicneilhhaaGreat.ev Go.Proofs.YtmochicneilhhaaGreat.win
def nameQ (s : List B8) : B8 := match s with
  | [] => 4#8
  | x :: _ => x - 97#8
def rpart (r : RQ) : Pt → List B8
  | .a => [r.at_.setWidth 8]
  | .l => [r.le.setWidth 8]
  | .p => [r.pg]
  | .d => if r.k = 6#8 then [r.du.setWidth 8] else [(r.du - 1#16).setWidth 8]
  | .w => [r.so - 1#8] ++ (if r.so = 1#8 then [nameQ r.ky, BitVec.ofInt 8 r.ls] else if r.so = 2#8 then [nameQ r.ky, nameQ r.to_] else [BitVec.ofInt 8 r.ls, BitVec.ofInt 8 r.ms])
def asksQ (r : RQ) : List B8 := if r.right then [r.k - 1#8, r.id.setWidth 8] ++ (pts r.k).flatMap (rpart r) else []
theorem width8 {w : Nat} (x : BitVec w) (h : x.toNat < 256) : BitVec.ofInt 8 ((x.toNat : Nat) : Int) = x.setWidth 8 := by
  refine BitVec.eq_of_toNat_eq ?_
  rw [ofInt8 (by omega), Int.toNat_natCast, BitVec.toNat_setWidth, Nat.mod_eq_of_lt h]
theorem less1 {x : B8} (h : 1 ≤ x.toNat) : BitVec.ofInt 8 ((x.toNat : Int) - 1) = x - 1#8 := by
  have := x.isLt
  refine BitVec.eq_of_toNat_eq ?_
  rw [ofInt8 (by omega), BitVec.toNat_sub]
  show _ = (256 - 1 + x.toNat) % 256
  omega
theorem less97 {x : B8} (h : 97 ≤ x.toNat) : BitVec.ofInt 8 ((x.toNat : Int) - 97) = x - 97#8 := by
  have := x.isLt
  refine BitVec.eq_of_toNat_eq ?_
  rw [ofInt8 (by omega), BitVec.toNat_sub]
  show _ = (256 - 97 + x.toNat) % 256
  omega
theorem edge_name {s : List B8} {w : Wt} (h : s = [] ∨ ∃ x : B8, s = [x] ∧ 97 ≤ x.toNat ∧ x.toNat < 101) : (wedge s w).1 = w.1 ++ [nameQ s] := by
  rcases h with rfl | ⟨x, rfl, hx, _⟩
  · rfl
  · show w.1 ++ [BitVec.ofInt 8 ((x.toNat : Int) - 97)] = w.1 ++ [x - 97#8]
    rw [less97 hx]
theorem panes_name {r : RQ} (hw : r.which = true) (h : (wpanes r ([], false)).2 = false) : (wpanes r ([], false)).1 = rpart r .w := by
  unfold rpart
  rcases which_so hw with ⟨h1, h2, h3⟩ | ⟨h1, h2, h3⟩ | ⟨h1, h2, h3⟩
  · have e : wpanes r ([], false) = wsmall r.ls (wletter r.ky (wput ((r.so.toNat : Int) - 1) 3 ([], false))) := if_pos h1
    rw [e] at h ⊢
    rw [wsmall_ok, wletter_ok] at h
    obtain ⟨⟨_, x, hx, hx2⟩, hl⟩ := h
    dsimp only
    rw [hx, if_pos h1]
    show [BitVec.ofInt 8 ((r.so.toNat : Int) - 1), BitVec.ofInt 8 ((x.toNat : Int) - 97), BitVec.ofInt 8 r.ls] = [r.so - 1#8, x - 97#8, BitVec.ofInt 8 r.ls]
    rw [less97 hx2.1, less1 (by rw [h1]; decide)]
  · have e : wpanes r ([], false) = wedge r.to_ (wedge r.ky (wput ((r.so.toNat : Int) - 1) 3 ([], false))) := by unfold wpanes; rw [if_neg (by rw [h1]; decide), if_pos h1]
    rw [e] at h ⊢
    rw [wedge_ok, wedge_ok] at h
    dsimp only
    rw [edge_name h.2, edge_name h.1.2, if_neg (by rw [h1]; decide), if_pos h1]
    show [BitVec.ofInt 8 ((r.so.toNat : Int) - 1), _, _] = [r.so - 1#8, _, _]
    rw [less1 (by rw [h1]; decide)]
  · have e : wpanes r ([], false) = wsmall r.ms (wsmall r.ls (wput ((r.so.toNat : Int) - 1) 3 ([], false))) := by unfold wpanes; rw [if_neg (by rw [h1]; decide), if_neg (by rw [h1]; decide)]
    rw [e]
    dsimp only
    rw [if_neg (by rw [h1]; decide), if_neg (by rw [h1]; decide)]
    show [BitVec.ofInt 8 ((r.so.toNat : Int) - 1), _, _] = [r.so - 1#8, _, _]
    rw [less1 (by rw [h1]; decide)]
theorem part_name {r : RQ} {q : Pt} (hw : q = .w → r.which = true) (h : (wpart r ([], false) q).2 = false) : (wpart r ([], false) q).1 = rpart r q := by
  have hnum : ∀ n : BitVec 64, (wnumber n 16 ([], false)).2 = false → (wnumber n 16 ([], false)).1 = [n.setWidth 8] := fun n hn => by
    rw [wnumber_ok] at hn
    show [BitVec.ofInt 8 ((min n.toNat 16 : Nat) : Int)] = _
    rw [Nat.min_eq_left (by omega), width8 n (by omega)]
  cases q with
  | a => exact hnum _ h
  | l => exact hnum _ h
  | p =>
    show [BitVec.ofInt 8 ((r.pg.toNat : Nat) : Int)] = [r.pg]
    rw [bv_nat]
  | d =>
    unfold rpart
    by_cases h6 : r.k = 6#8
    · have e : wpart r ([], false) .d = wput (r.du.toNat : Int) 256 ([], false) := by unfold wpart; dsimp only; rw [if_pos h6]
      rw [e, wput_ok] at h
      rw [e]
      dsimp only
      rw [if_pos h6]
      show [BitVec.ofInt 8 ((r.du.toNat : Nat) : Int)] = _
      rw [width8 r.du (by omega)]
    · have e : wpart r ([], false) .d = wput ((r.du.toNat : Int) - 1) 256 ([], false) := by unfold wpart; dsimp only; rw [if_neg h6]
      rw [e, wput_ok] at h
      rw [e]
      dsimp only
      rw [if_neg h6]
      show [BitVec.ofInt 8 ((r.du.toNat : Int) - 1)] = _
      refine congrArg (fun x : B8 => [x]) (BitVec.eq_of_toNat_eq ?_)
      have := r.du.isLt
      rw [ofInt8 (by omega), BitVec.toNat_setWidth, BitVec.toNat_sub]
      show _ = (65536 - 1 + r.du.toNat) % 65536 % 256
      omega
  | w => exact panes_name (hw rfl) h
theorem parts_name {r : RQ} : ∀ ps : List Pt, (Pt.w ∈ ps → r.which = true) → (ps.foldl (wpart r) ([], false)).2 = false → (ps.foldl (wpart r) ([], false)).1 = ps.flatMap (rpart r)
  | [], _, _ => rfl
  | q :: ps, hw, h => by
    have e : (q :: ps).foldl (wpart r) ([], false) = _ := em_fold (em_part r) ps (wpart r ([], false) q)
    rw [e] at h ⊢
    dsimp only at h ⊢
    rw [Bool.or_eq_false_iff] at h
    rw [part_name (fun hq => hw (by rw [hq]; exact List.mem_cons_self ..)) h.1, parts_name ps (fun hm => hw (List.mem_cons_of_mem _ hm)) h.2, List.flatMap_cons]
theorem asks_eq {r : RQ} (hr : r.right = true) (h : (wreq r ([], false)).2 = false) : asksQ r = (wreq r ([], false)).1 := by
  have e := em_fold (em_part r) (pts r.k) (wput (r.id.toNat : Nat) 256 (wput ((r.k.toNat : Int) - 1) 8 ([], false)))
  dsimp only at e
  have hri := (right_iff r).1 hr
  unfold asksQ
  rw [if_pos hr]
  unfold wreq at h ⊢
  rw [e] at h ⊢
  dsimp only at h ⊢
  rw [Bool.or_eq_false_iff, wput_ok, wput_ok] at h
  obtain ⟨⟨⟨_, hk⟩, hid⟩, hf⟩ := h
  rw [parts_name (pts r.k) (fun hm => by
    have hw := hri.2.2.2.1
    have hh : has r.k .w = true := List.any_eq_true.2 ⟨.w, hm, rfl⟩
    rw [hh] at hw
    simpa using hw) hf]
  show _ = [BitVec.ofInt 8 ((r.k.toNat : Int) - 1), BitVec.ofInt 8 ((r.id.toNat : Nat) : Int)] ++ _
  rw [less1 (by omega), width8 r.id (by omega)]
def vbyte (v : Int) : B8 := if v = 9223372036854775807 then 127#8 else if v = -9223372036854775808 then 128#8 else BitVec.ofInt 8 v
def rawG (x : SP) : List B8 := [4#8, BitVec.ofInt 8 x.cl, BitVec.ofInt 8 ((x.bs.length : Nat) : Int)] ++ x.bs
def feedG (x : SP) : List (List B8) := match askedQ x.bs with
  | some r => [[5#8, BitVec.ofInt 8 x.cl] ++ asksQ r, rawG x]
  | none => [rawG x]
/-- the bytes of a step, if it may be written -/
def guessesQ (x : SP) : List (List B8) :=
  if x.k = 1#8 then feedG x else if x.k = 2#8 then [[2#8, BitVec.ofInt 8 x.cl]] else if x.k = 3#8 then [[0#8, BitVec.ofInt 8 x.cl]]
  else if x.k = 4#8 then (if x.op.k = 2#8 then [[12#8, BitVec.ofInt 8 x.op.t]] else [[9#8, nameQ x.op.key, BitVec.ofInt 8 x.op.t, vbyte x.op.v]])
  else if x.k = 5#8 then [[13#8]] else if x.k = 6#8 then [[14#8, x.by_.setWidth 8]] else [[15#8]]
def testG (n : Nat) (x : SP) (g : List B8) : Bool := ((stepQ g n 0).2 == g.length) && x.eqB (stepQ g n 0).1
def writeR (n : Nat) (x : SP) : Option (List B8) := (guessesQ x).find? (testG n x)
theorem test_eq {n : Nat} {x : SP} {g : List B8} (h : testG n x g = true) : x = (stepQ g n 0).1 := by
  unfold testG at h
  rw [Bool.and_eq_true] at h
  exact (SP.eqB_iff _ _).1 h.2
theorem test_good {n : Nat} (hn : 1 ≤ n ∧ n ≤ 8) {x : SP} (h : (wstep n ([], false) x).2 = false) : testG n x (wstep n ([], false) x).1 = true := by
  have hb := step_back hn.2 h []
  rw [List.append_nil] at hb
  unfold testG
  rw [hb]
  dsimp only
  rw [SP.eqB_self, beq_self_eq_true]
  rfl
theorem write_bad {n : Nat} (hn : 1 ≤ n ∧ n ≤ 8) {x : SP} (h : (wstep n ([], false) x).2 = true) : writeR n x = none := by
  unfold writeR
  rw [List.find?_eq_none]
  intro g _ ht
  have hx := test_eq ht
  have ho := (step_ok hn.1 g 0).1
  rw [← hx, h] at ho
  cases ho
theorem feed_good {n : Nat} (hn : 1 ≤ n ∧ n ≤ 8) {x : SP} (hk : x.k = 1#8) (h : (wstep n ([], false) x).2 = false) : (feedG x).find? (testG n x) = some (wstep n ([], false) x).1 := by
  have ht := test_good hn h
  obtain ⟨h1, h2, h3⟩ := wstep_good h
  rw [wstep_in _ h1 h2 h3, if_pos hk] at h ht ⊢
  unfold feedG
  unfold wfeed at h ht ⊢
  cases ha : askedQ x.bs with
  | none =>
    rw [ha] at ht
    exact List.find?_cons_of_pos ht
  | some r =>
    rw [ha] at ht h
    dsimp only at ht h ⊢
    obtain ⟨hr, hf, hbs⟩ := asked_inv ha
    by_cases hb : (wask r x.cl).2 = true
    · rw [if_pos hb] at ht ⊢
      rw [List.find?_cons_of_neg, List.find?_cons_of_pos]
      · rfl
      · exact ht
      · intro ht2
        have hx := test_eq ht2
        rw [ask_step n x.cl r (asksQ r)] at hx
        have hbx : x.bs = frameQ (reqQ (asksQ r) 0).1 := congrArg SP.bs hx
        obtain ⟨g1, g2, g3, _⟩ := req_ok (asksQ r) 0
        generalize (reqQ (asksQ r) 0).1 = r' at *
        rw [frameQ_right g1, hbs] at hbx
        have he := frm_inj (by have := (rq.enc_le hr).1; omega) (by have := (rq.enc_le g1).1; omega) hbx
        have p1 := parse_enc hr hf
        have p2 := parse_enc g1 g2
        rw [he, p2] at p1
        have hrr : r' = r := congrArg (·.1) p1
        rw [wask_eq, ← hrr, g3] at hb
        cases hb
    · rw [if_neg hb] at ht ⊢
      have hb' : (wreq r ([], false)).2 = false := by
        rw [wask_eq] at hb
        simpa using hb
      rw [wask_eq] at ht ⊢
      dsimp only at ht ⊢
      rw [← asks_eq hr hb', List.nil_append] at ht ⊢
      exact List.find?_cons_of_pos ht
theorem write_good {n : Nat} (hn : 1 ≤ n ∧ n ≤ 8) {x : SP} (h : (wstep n ([], false) x).2 = false) : writeR n x = some (wstep n ([], false) x).1 := by
  unfold writeR guessesQ
  by_cases e1 : x.k = 1#8
  · rw [if_pos e1]
    exact feed_good hn e1 h
  rw [if_neg e1]
  have ht := test_good hn h
  obtain ⟨h1, h2, h3⟩ := wstep_good h
  rw [wstep_in _ h1 h2 h3, if_neg e1] at h ht ⊢
  by_cases e2 : x.k = 2#8
  · rw [if_pos e2] at ht ⊢
    rw [if_pos e2]
    exact List.find?_cons_of_pos ht
  rw [if_neg e2] at h ht ⊢
  rw [if_neg e2]
  by_cases e3 : x.k = 3#8
  · rw [if_pos e3] at ht ⊢
    rw [if_pos e3]
    exact List.find?_cons_of_pos ht
  rw [if_neg e3] at h ht ⊢
  rw [if_neg e3]
  by_cases e4 : x.k = 4#8
  · rw [if_pos e4] at h ht ⊢
    rw [if_pos e4]
    have hm := em_op x.op ([], false || x.op.right != 0)
    rw [hm] at h ht ⊢
    dsimp only at h ht ⊢
    rw [Bool.or_eq_false_iff] at h
    have hr : x.op.right = 0 := by
      have := h.1
      simpa using this
    obtain ⟨hk, _, _⟩ := right_cases hr
    rw [List.nil_append] at ht ⊢
    by_cases ek : x.op.k = 2#8
    · rw [if_pos ek]
      have e : (wop x.op ([], false)).1 = [12#8, BitVec.ofInt 8 x.op.t] := by unfold wop; rw [if_neg (by rw [ek]; decide)]; rfl
      rw [e] at ht ⊢
      exact List.find?_cons_of_pos ht
    · rw [if_neg ek]
      have ek1 := hk.resolve_right ek
      have hf := h.2
      have e0 : wop x.op ([], false) = wvalue x.op.v (wsmall x.op.t (wletter x.op.key ([9#8], false))) := by unfold wop; rw [if_pos ek1]; rfl
      rw [e0] at ht hf ⊢
      have hv : ∀ w : Wt, (wvalue x.op.v w).1 = w.1 ++ [vbyte x.op.v] := fun w => by
        unfold wvalue vbyte
        split
        · rfl
        · split <;> rfl
      obtain ⟨hw1, _⟩ := value_back hf
      rw [wsmall_ok, wletter_ok] at hw1
      obtain ⟨⟨_, y, hy, hy2⟩, _⟩ := hw1
      have e : (wvalue x.op.v (wsmall x.op.t (wletter x.op.key ([9#8], false)))).1 = [9#8, nameQ x.op.key, BitVec.ofInt 8 x.op.t, vbyte x.op.v] := by
        rw [hv, hy]
        show [9#8, BitVec.ofInt 8 ((y.toNat : Int) - 97), BitVec.ofInt 8 x.op.t, vbyte x.op.v] = [9#8, y - 97#8, BitVec.ofInt 8 x.op.t, vbyte x.op.v]
        rw [less97 hy2.1]
      rw [e] at ht ⊢
      exact List.find?_cons_of_pos ht
  rw [if_neg e4] at h ht ⊢
  rw [if_neg e4]
  by_cases e5 : x.k = 5#8
  · rw [if_pos e5] at ht ⊢
    rw [if_pos e5]
    exact List.find?_cons_of_pos ht
  rw [if_neg e5] at h ht ⊢
  rw [if_neg e5]
  by_cases e7 : x.k = 7#8
  · rw [if_pos e7] at ht ⊢
    rw [if_neg (by rw [e7]; decide)]
    exact List.find?_cons_of_pos ht
  rw [if_neg e7] at h ht ⊢
  by_cases e6 : x.k = 6#8
  · rw [if_pos e6] at h ht ⊢
    rw [if_pos e6]
    rw [wnumber_ok] at h
    have e : (wnumber x.by_ 256 ([] ++ [14#8], false)).1 = [14#8, x.by_.setWidth 8] := by
      show [14#8, BitVec.ofInt 8 ((min x.by_.toNat 256 : Nat) : Int)] = _
      rw [Nat.min_eq_left (by omega), width8 x.by_ (by omega)]
    rw [e] at ht ⊢
    exact List.find?_cons_of_pos ht
  · rw [if_neg e6] at h
    cases h
end Go.Proofs.YtmochicneilhhaaGreat.sc
