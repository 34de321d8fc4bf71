/- scripts: a request, there and back: plainly. -/
import Derived.Test.YtmochicneilhhaaGreatPTu
namespace Go.Proofs.YtmochicneilhhaaGreat.sc
open Go.RowKit Go.Proofs.YtmochicneilhhaaGreat.kit Go.Proofs.YtmochicneilhhaaGreat.pk Go.Proofs.YtmochicneilhhaaGreat.rq Go.Proofs.YtmochicneilhhaaGreat.ev Go.Proofs.YtmochicneilhhaaGreat.win
theorem partQ_shift (p m : List B8) (s : RQ) (v : Nat) (q : Pt) : partQ (p ++ m) (s, p.length + v) q = ((partQ m (s, v) q).1, p.length + (partQ m (s, v) q).2) := by
  cases q <;> simp only [partQ, at_app, Nat.add_assoc]
theorem fold_shift (p m : List B8) : ∀ (ps : List Pt) (s : RQ) (v : Nat), ps.foldl (partQ (p ++ m)) (s, p.length + v) = ((ps.foldl (partQ m) (s, v)).1, p.length + (ps.foldl (partQ m) (s, v)).2)
  | [], _, _ => rfl
  | q :: ps, s, v => by
    rw [List.foldl_cons, List.foldl_cons, partQ_shift]
    exact fold_shift p m ps _ _
theorem reqK_shift (p m : List B8) (v : Nat) : reqK (p ++ m) (p.length + v) = reqK m v := by unfold reqK; rw [at_app]
theorem reqQ_shift (p m : List B8) (v : Nat) : reqQ (p ++ m) (p.length + v) = ((reqQ m v).1, p.length + (reqQ m v).2) := by
  unfold reqQ
  rw [reqK_shift, Nat.add_assoc, at_app, Nat.add_assoc]
  exact fold_shift p m _ _ _
theorem bv_nat {w : Nat} (x : BitVec w) : BitVec.ofInt w (x.toNat : Int) = x := by
  rw [BitVec.ofInt_natCast, BitVec.ofNat_toNat, BitVec.setWidth_eq]
structure ZeroW (s : RQ) : Prop where
  so : s.so = 0#8
  ky : s.ky = []
  to_ : s.to_ = []
  ls : s.ls = 0
  ms : s.ms = 0
theorem which_so {r : RQ} (h : r.which = true) : (r.so = 1#8 ∧ r.to_ = [] ∧ r.ms = 0) ∨ (r.so = 2#8 ∧ r.ls = 0 ∧ r.ms = 0) ∨ (r.so = 3#8 ∧ r.ky = [] ∧ r.to_ = []) := by
  unfold RQ.which at h
  split at h
  · rename_i h1
    simp only [Bool.and_eq_true, beq_iff_eq] at h
    exact .inl ⟨h1, h.1.2, h.2⟩
  · split at h
    · rename_i h1
      simp only [Bool.and_eq_true, beq_iff_eq] at h
      exact .inr (.inl ⟨h1, h.1.2, h.2⟩)
    · split at h
      · rename_i h1
        simp only [Bool.and_eq_true, beq_iff_eq] at h
        exact .inr (.inr ⟨h1, h.1, h.2⟩)
      · cases h
theorem panes_back (r s : RQ) (t : List B8) (hw : r.which = true) (hz : ZeroW s) (h : (wpanes r ([], false)).2 = false) : partQ ((wpanes r ([], false)).1 ++ t) (s, 0) .w = (r.upd s .w, (wpanes r ([], false)).1.length) := by
  obtain ⟨z1, z2, z3, z4, z5⟩ := hz
  rcases which_so hw with ⟨h1, h2, h3⟩ | ⟨h1, h2, h3⟩ | ⟨h1, h2, h3⟩
  · have e : wpanes r ([], false) = wsmall r.ls (wletter r.ky (wput ((r.so.toNat : Int) - 1) 3 ([], false))) := if_pos h1
    rw [e] at h ⊢
    rw [wsmall_ok, wletter_ok] at h
    obtain ⟨⟨_, x, hx, hx2⟩, hl⟩ := h
    rw [hx]
    show (panesQ s (at_ (BitVec.ofInt 8 ((r.so.toNat : Int) - 1) :: BitVec.ofInt 8 ((x.toNat : Int) - 97) :: BitVec.ofInt 8 r.ls :: t) 0) (at_ (BitVec.ofInt 8 ((r.so.toNat : Int) - 1) :: BitVec.ofInt 8 ((x.toNat : Int) - 97) :: BitVec.ofInt 8 r.ls :: t) (0 + 1)) (at_ (BitVec.ofInt 8 ((r.so.toNat : Int) - 1) :: BitVec.ofInt 8 ((x.toNat : Int) - 97) :: BitVec.ofInt 8 r.ls :: t) (0 + 2)), _) = _
    rw [at_zero, show at_ (BitVec.ofInt 8 ((r.so.toNat : Int) - 1) :: BitVec.ofInt 8 ((x.toNat : Int) - 97) :: BitVec.ofInt 8 r.ls :: t) (0 + 1) = (BitVec.ofInt 8 ((x.toNat : Int) - 97)).toNat from rfl, show at_ (BitVec.ofInt 8 ((r.so.toNat : Int) - 1) :: BitVec.ofInt 8 ((x.toNat : Int) - 97) :: BitVec.ofInt 8 r.ls :: t) (0 + 2) = (BitVec.ofInt 8 r.ls).toNat from rfl]
    unfold panesQ
    rw [letter_back hx2, ofInt_small hl, h1, if_pos (by decide), ← hx]
    unfold RQ.upd
    dsimp only
    rw [h1, h2, h3, z3, z5, hx]
    rfl
  · have e : wpanes r ([], false) = wedge r.to_ (wedge r.ky (wput ((r.so.toNat : Int) - 1) 3 ([], false))) := by unfold wpanes; rw [if_neg (by rw [h1]; decide), if_pos h1]
    rw [e] at h ⊢
    rw [wedge_ok, wedge_ok] at h
    obtain ⟨⟨_, hk⟩, ht⟩ := h
    have hb : ∀ (u : List B8) (w : Wt), (u = [] ∨ ∃ x : B8, u = [x] ∧ 97 ≤ x.toNat ∧ x.toNat < 101) → ∃ b : B8, (wedge u w).1 = w.1 ++ [b] ∧ edgeQ b.toNat = u := fun u w hu => by
      rcases hu with rfl | ⟨x, rfl, hx⟩
      · exact ⟨4#8, rfl, rfl⟩
      · exact ⟨_, rfl, edge_back hx⟩
    obtain ⟨b1, e1, e2⟩ := hb r.ky (wput ((r.so.toNat : Int) - 1) 3 ([], false)) hk
    obtain ⟨b2, e3, e4⟩ := hb r.to_ (wedge r.ky (wput ((r.so.toNat : Int) - 1) 3 ([], false))) ht
    rw [e3, e1]
    show (panesQ s (at_ (BitVec.ofInt 8 ((r.so.toNat : Int) - 1) :: b1 :: b2 :: t) 0) (at_ (BitVec.ofInt 8 ((r.so.toNat : Int) - 1) :: b1 :: b2 :: t) (0 + 1)) (at_ (BitVec.ofInt 8 ((r.so.toNat : Int) - 1) :: b1 :: b2 :: t) (0 + 2)), _) = _
    rw [at_zero, show at_ (BitVec.ofInt 8 ((r.so.toNat : Int) - 1) :: b1 :: b2 :: t) (0 + 1) = b1.toNat from rfl, show at_ (BitVec.ofInt 8 ((r.so.toNat : Int) - 1) :: b1 :: b2 :: t) (0 + 2) = b2.toNat from rfl]
    unfold panesQ
    rw [e2, e4, h1, if_neg (by decide), if_pos (by decide)]
    unfold RQ.upd
    dsimp only
    rw [h1, h2, h3, z4, z5]
    rfl
  · have e : wpanes r ([], false) = wsmall r.ms (wsmall r.ls (wput ((r.so.toNat : Int) - 1) 3 ([], false))) := by unfold wpanes; rw [if_neg (by rw [h1]; decide), if_neg (by rw [h1]; decide)]
    rw [e] at h ⊢
    rw [wsmall_ok, wsmall_ok] at h
    obtain ⟨⟨_, hl⟩, hm⟩ := h
    show (panesQ s (at_ (BitVec.ofInt 8 ((r.so.toNat : Int) - 1) :: BitVec.ofInt 8 r.ls :: BitVec.ofInt 8 r.ms :: t) 0) (at_ (BitVec.ofInt 8 ((r.so.toNat : Int) - 1) :: BitVec.ofInt 8 r.ls :: BitVec.ofInt 8 r.ms :: t) (0 + 1)) (at_ (BitVec.ofInt 8 ((r.so.toNat : Int) - 1) :: BitVec.ofInt 8 r.ls :: BitVec.ofInt 8 r.ms :: t) (0 + 2)), _) = _
    rw [at_zero, show at_ (BitVec.ofInt 8 ((r.so.toNat : Int) - 1) :: BitVec.ofInt 8 r.ls :: BitVec.ofInt 8 r.ms :: t) (0 + 1) = (BitVec.ofInt 8 r.ls).toNat from rfl, show at_ (BitVec.ofInt 8 ((r.so.toNat : Int) - 1) :: BitVec.ofInt 8 r.ls :: BitVec.ofInt 8 r.ms :: t) (0 + 2) = (BitVec.ofInt 8 r.ms).toNat from rfl]
    unfold panesQ
    rw [ofInt_small hl, ofInt_small hm, h1, if_neg (by decide), if_neg (by decide)]
    unfold RQ.upd
    dsimp only
    rw [h1, h2, h3, z2, z3]
    rfl
theorem part_back (r s : RQ) (t : List B8) (q : Pt) (hk : s.k = r.k) (hw : q = .w → r.which = true ∧ ZeroW s) (h : (wpart r ([], false) q).2 = false) : partQ ((wpart r ([], false) q).1 ++ t) (s, 0) q = (r.upd s q, (wpart r ([], false) q).1.length) := by
  have hnum : ∀ n : BitVec 64, (wnumber n 16 ([], false)).2 = false → BitVec.ofInt 64 (((at_ ((wnumber n 16 ([], false)).1 ++ t) 0 % 16 : Nat) : Nat) : Int) = n := fun n hn => by
    rw [wnumber_ok] at hn
    show BitVec.ofInt 64 (((BitVec.ofInt 8 ((min n.toNat 16 : Nat) : Int)).toNat % 16 : Nat) : Int) = n
    rw [Nat.min_eq_left (by omega), ofInt8 (by omega), Int.toNat_natCast, Nat.mod_eq_of_lt hn.2]
    exact bv_nat n
  cases q with
  | a =>
    show ({ s with at_ := BitVec.ofInt 64 (((at_ ((wnumber r.at_ 16 ([], false)).1 ++ t) 0 % 16 : Nat) : Nat) : Int) }, _) = _
    rw [hnum r.at_ h]
    rfl
  | l =>
    show ({ s with le := BitVec.ofInt 64 (((at_ ((wnumber r.le 16 ([], false)).1 ++ t) 0 % 16 : Nat) : Nat) : Int) }, _) = _
    rw [hnum r.le h]
    rfl
  | p =>
    have h2 : (wput (r.pg.toNat : Nat) 65 ([], false)).2 = false := h
    rw [wput_ok] at h2
    show ({ s with pg := BitVec.ofInt 8 ((((BitVec.ofInt 8 ((r.pg.toNat : Nat) : Int)).toNat % 65 : Nat) : Nat) : Int) }, _) = _
    rw [ofInt8 (by omega), Int.toNat_natCast, Nat.mod_eq_of_lt (by omega), bv_nat]
    rfl
  | d =>
    by_cases h6 : r.k = 6#8
    · have e : wpart r ([], false) .d = wput (r.du.toNat : Int) 256 ([], false) := by unfold wpart; dsimp only; rw [if_pos h6]
      rw [e] at h ⊢
      rw [wput_ok] at h
      show ({ s with du := if s.k = 6#8 then BitVec.ofInt 16 (((BitVec.ofInt 8 (r.du.toNat : Int)).toNat : Nat) : Int) else _ }, _) = _
      rw [if_pos (by rw [hk, h6]), ofInt8 (by omega), Int.toNat_natCast, bv_nat]
      rfl
    · have e : wpart r ([], false) .d = wput ((r.du.toNat : Int) - 1) 256 ([], false) := by unfold wpart; dsimp only; rw [if_neg h6]
      rw [e] at h ⊢
      rw [wput_ok] at h
      show ({ s with du := if s.k = 6#8 then _ else BitVec.ofInt 16 (((BitVec.ofInt 8 ((r.du.toNat : Int) - 1)).toNat : Nat) : Int) + 1#16 }, _) = _
      rw [if_neg (by rw [hk]; exact h6), ofInt8 (by omega)]
      have hd : BitVec.ofInt 16 ((((r.du.toNat : Int) - 1).toNat : Nat) : Int) + 1#16 = r.du := by
        refine BitVec.eq_of_toNat_eq ?_
        have := r.du.isLt
        rw [BitVec.toNat_add, BitVec.ofInt_natCast, BitVec.toNat_ofNat]
        show (((r.du.toNat : Int) - 1).toNat % 65536 + 1) % 65536 = r.du.toNat
        omega
      rw [hd]
      rfl
  | w => exact panes_back r s t (hw rfl).1 (hw rfl).2 h
/-- which panes come last -/
def okW : List Pt → Bool
  | [] => true
  | .w :: ps => ps.isEmpty
  | _ :: ps => okW ps
theorem okW_pts (k : B8) : okW (pts k) = true := by
  unfold pts
  (repeat' split) <;> rfl
theorem fold_back (r : RQ) : ∀ (ps : List Pt) (s : RQ) (t : List B8), s.k = r.k → okW ps = true → (Pt.w ∈ ps → r.which = true ∧ ZeroW s) → (ps.foldl (wpart r) ([], false)).2 = false →
    ps.foldl (partQ ((ps.foldl (wpart r) ([], false)).1 ++ t)) (s, 0) = (ps.foldl r.upd s, (ps.foldl (wpart r) ([], false)).1.length)
  | [], _, _, _, _, _, _ => rfl
  | q :: ps, s, t, hk, ho, hw, h => by
    have e : (q :: ps).foldl (wpart r) ([], false) = _ := em_fold (em_part r) ps (wpart r ([], false) q)
    rw [e] at h ⊢
    dsimp only at h ⊢
    rw [Bool.or_eq_false_iff] at h
    have h1 := part_back r s ((ps.foldl (wpart r) ([], false)).1 ++ t) q hk (fun hq => hw (by rw [hq]; exact List.mem_cons_self ..)) h.1
    rw [List.foldl_cons, List.foldl_cons, List.append_assoc, h1]
    have h2 := fold_shift (wpart r ([], false) q).1 ((ps.foldl (wpart r) ([], false)).1 ++ t) ps (r.upd s q) 0
    rw [Nat.add_zero] at h2
    rw [h2, fold_back r ps (r.upd s q) t (by cases q <;> exact hk) (by
      cases q with
      | w => cases ps with
        | nil => rfl
        | cons => cases ho
      | _ => exact ho) (fun hm => by
      cases q with
      | w => cases ps with
        | nil => cases hm
        | cons => cases ho
      | _ => exact ⟨(hw (List.mem_cons_of_mem _ hm)).1, ⟨(hw (List.mem_cons_of_mem _ hm)).2.1, (hw (List.mem_cons_of_mem _ hm)).2.2, (hw (List.mem_cons_of_mem _ hm)).2.3, (hw (List.mem_cons_of_mem _ hm)).2.4, (hw (List.mem_cons_of_mem _ hm)).2.5⟩⟩) h.2, List.length_append]
theorem req_back {r : RQ} (hr : r.right = true) (h : (wreq r ([], false)).2 = false) (t : List B8) : reqQ ((wreq r ([], false)).1 ++ t) 0 = (r, (wreq r ([], false)).1.length) := by
  have e := em_fold (em_part r) (pts r.k) (wput (r.id.toNat : Nat) 256 (wput ((r.k.toNat : Int) - 1) 8 ([], false)))
  dsimp only at e
  have hri := (right_iff r).1 hr
  unfold wreq at h ⊢
  rw [e] at h ⊢
  dsimp only at h ⊢
  rw [Bool.or_eq_false_iff, wput_ok, wput_ok] at h
  obtain ⟨⟨⟨_, hk⟩, hid⟩, hf⟩ := h
  have hfb := fold_back r (pts r.k) ⟨r.k, r.id, 0#8, 0#16, 0#64, 0#64, 0#8, [], [], 0, 0⟩ t rfl (okW_pts _) (fun hm => ⟨by
    have hw := hri.2.2.2.1
    have hh : has r.k .w = true := List.any_eq_true.2 ⟨.w, hm, rfl⟩
    rw [hh] at hw
    simpa using hw, rfl, rfl, rfl, rfl, rfl⟩) hf
  generalize ((pts r.k).foldl (wpart r) ([], false)).1 = bs at *
  have hb : (wput (r.id.toNat : Nat) 256 (wput ((r.k.toNat : Int) - 1) 8 ([], false))).1 = [BitVec.ofInt 8 ((r.k.toNat : Int) - 1), BitVec.ofInt 8 ((r.id.toNat : Nat) : Int)] := rfl
  rw [hb, List.append_assoc]
  unfold reqQ
  have hK : reqK ([BitVec.ofInt 8 ((r.k.toNat : Int) - 1), BitVec.ofInt 8 ((r.id.toNat : Nat) : Int)] ++ (bs ++ t)) 0 = r.k := by
    show BitVec.ofInt 8 ((((BitVec.ofInt 8 ((r.k.toNat : Int) - 1)).toNat % 8 : Nat) : Int) + 1) = r.k
    rw [ofInt8 (by omega)]
    have e1 : (((((r.k.toNat : Int) - 1).toNat % 8 : Nat) : Int) + 1) = (r.k.toNat : Int) := by omega
    rw [e1, bv_nat]
  have hI : BitVec.ofInt 32 ((at_ ([BitVec.ofInt 8 ((r.k.toNat : Int) - 1), BitVec.ofInt 8 ((r.id.toNat : Nat) : Int)] ++ (bs ++ t)) (0 + 1) : Nat) : Int) = r.id := by
    show BitVec.ofInt 32 (((BitVec.ofInt 8 ((r.id.toNat : Nat) : Int)).toNat : Nat) : Int) = r.id
    rw [ofInt8 (by omega), Int.toNat_natCast, bv_nat]
  rw [hK, hI]
  have h2 := fold_shift [BitVec.ofInt 8 ((r.k.toNat : Int) - 1), BitVec.ofInt 8 ((r.id.toNat : Nat) : Int)] (bs ++ t) (pts r.k) ⟨r.k, r.id, 0#8, 0#16, 0#64, 0#64, 0#8, [], [], 0, 0⟩ 0
  have h3 : ((pts r.k).foldl r.upd ⟨r.k, r.id, 0#8, 0#16, 0#64, 0#64, 0#8, [], [], 0, 0⟩) = r := by
    rw [upd_fold]
    exact right_only hr
  rw [hfb, h3] at h2
  exact h2.trans (by rw [List.length_append])
end Go.Proofs.YtmochicneilhhaaGreat.sc
