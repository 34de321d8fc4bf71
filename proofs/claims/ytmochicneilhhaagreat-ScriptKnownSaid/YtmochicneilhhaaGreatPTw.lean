/- scripts: a request, there and back: plainly. scripts: what is read of a request may be written: plainly. -/
import Derived.Test.YtmochicneilhhaaGreatPTu
namespace Go.Proofs.YtmochicneilhhaaGreat.sc
open Go.RowKit Go.Proofs.YtmochicneilhhaaGreat.kit Go.Proofs.YtmochicneilhhaaGreat.pk Go.Proofs.YtmochicneilhhaaGreat.rq Go.Proofs.YtmochicneilhhaaGreat.ev Go.Proofs.YtmochicneilhhaaGreat.win
theorem partQ_shift (p m : List B8) (s : RQ) (v : Nat) (q : Pt) : partQ (p ++ m) (s, p.length + v) q = ((partQ m (s, v) q).1, p.length + (partQ m (s, v) q).2) := by
  cases q <;> simp only [partQ, at_app, Nat.add_assoc]
theorem fold_shift (p m : List B8) : ∀ (ps : List Pt) (s : RQ) (v : Nat), ps.foldl (partQ (p ++ m)) (s, p.length + v) = ((ps.foldl (partQ m) (s, v)).1, p.length + (ps.foldl (partQ m) (s, v)).2)
  | [], _, _ => rfl
  | q :: ps, s, v => by
    rw [List.foldl_cons, List.foldl_cons, partQ_shift]
    exact fold_shift p m ps _ _
theorem reqK_shift (p m : List B8) (v : Nat) : reqK (p ++ m) (p.length + v) = reqK m v := by unfold reqK; rw [at_app]
theorem reqQ_shift (p m : List B8) (v : Nat) : reqQ (p ++ m) (p.length + v) = ((reqQ m v).1, p.length + (reqQ m v).2) := by
  unfold reqQ
  rw [reqK_shift, Nat.add_assoc, at_app, Nat.add_assoc]
  exact fold_shift p m _ _ _
theorem bv_nat {w : Nat} (x : BitVec w) : BitVec.ofInt w (x.toNat : Int) = x := by
  rw [BitVec.ofInt_natCast, BitVec.ofNat_toNat, BitVec.setWidth_eq]
structure ZeroW (s : RQ) : Prop where
  so : s.so = 0#8
  ky : s.ky = []
  to_ : s.to_ = []
  ls : s.ls = 0
  ms : s.ms = 0
theorem which_so {r : RQ} (h : r.which = true) : (r.so = 1#8 ∧ r.to_ = [] ∧ r.ms = 0) ∨ (r.so = 2#8 ∧ r.ls = 0 ∧ r.ms = 0) ∨ (r.so = 3#8 ∧ r.ky = [] ∧ r.to_ = []) := by
  unfold RQ.which at h
  split at h
  · rename_i h1
    simp only [Bool.and_eq_true, beq_iff_eq] at h
    exact .inl ⟨h1, h.1.2, h.2⟩
  · split at h
    · rename_i h1
      simp only [Bool.and_eq_true, beq_iff_eq] at h
      exact .inr (.inl ⟨h1, h.1.2, h.2⟩)
    · split at h
      · rename_i h1
        simp only [Bool.and_eq_true, beq_iff_eq] at h
        exact .inr (.inr ⟨h1, h.1, h.2⟩)
      · cases h
theorem panes_back (r s : RQ) (t : List B8) (hw : r.which = true) (hz : ZeroW s) (h : (wpanes r ([], false)).2 = false) : partQ ((wpanes r ([], false)).1 ++ t) (s, 0) .w = (r.upd s .w, (wpanes r ([], false)).1.length) := by
  obtain ⟨z1, z2, z3, z4, z5⟩ := hz
  rcases which_so hw with ⟨h1, h2, h3⟩ | ⟨h1, h2, h3⟩ | ⟨h1, h2, h3⟩
  · have e : wpanes r ([], false) = wsmall r.ls (wletter r.ky (wput ((r.so.toNat : Int) - 1) 3 ([], false))) := if_pos h1
    rw [e] at h ⊢
    rw [wsmall_ok, wletter_ok] at h
    obtain ⟨⟨_, x, hx, hx2⟩, hl⟩ := h
    rw [hx]
    show (panesQ s (at_ (BitVec.ofInt 8 ((r.so.toNat : Int) - 1) :: BitVec.ofInt 8 ((x.toNat : Int) - 97) :: BitVec.ofInt 8 r.ls :: t) 0) (at_ (BitVec.ofInt 8 ((r.so.toNat : Int) - 1) :: BitVec.ofInt 8 ((x.toNat : Int) - 97) :: BitVec.ofInt 8 r.ls :: t) (0 + 1)) (at_ (BitVec.ofInt 8 ((r.so.toNat : Int) - 1) :: BitVec.ofInt 8 ((x.toNat : Int) - 97) :: BitVec.ofInt 8 r.ls :: t) (0 + 2)), _) = _
    rw [at_zero, show at_ (BitVec.ofInt 8 ((r.so.toNat : Int) - 1) :: BitVec.ofInt 8 ((x.toNat : Int) - 97) :: BitVec.ofInt 8 r.ls :: t) (0 + 1) = (BitVec.ofInt 8 ((x.toNat : Int) - 97)).toNat from rfl, show at_ (BitVec.ofInt 8 ((r.so.toNat : Int) - 1) :: BitVec.ofInt 8 ((x.toNat : Int) - 97) :: BitVec.ofInt 8 r.ls :: t) (0 + 2) = (BitVec.ofInt 8 r.ls).toNat from rfl]
    unfold panesQ
    rw [letter_back hx2, ofInt_small hl, h1, if_pos (by decide), ← hx]
    unfold RQ.upd
    dsimp only
    rw [h1, h2, h3, z3, z5, hx]
    rfl
  · have e : wpanes r ([], false) = wedge r.to_ (wedge r.ky (wput ((r.so.toNat : Int) - 1) 3 ([], false))) := by unfold wpanes; rw [if_neg (by rw [h1]; decide), if_pos h1]
    rw [e] at h ⊢
    rw [wedge_ok, wedge_ok] at h
    obtain ⟨⟨_, hk⟩, ht⟩ := h
    have hb : ∀ (u : List B8) (w : Wt), (u = [] ∨ ∃ x : B8, u = [x] ∧ 97 ≤ x.toNat ∧ x.toNat < 101) → ∃ b : B8, (wedge u w).1 = w.1 ++ [b] ∧ edgeQ b.toNat = u := fun u w hu => by
      rcases hu with rfl | ⟨x, rfl, hx⟩
      · exact ⟨4#8, rfl, rfl⟩
      · exact ⟨_, rfl, edge_back hx⟩
    obtain ⟨b1, e1, e2⟩ := hb r.ky (wput ((r.so.toNat : Int) - 1) 3 ([], false)) hk
    obtain ⟨b2, e3, e4⟩ := hb r.to_ (wedge r.ky (wput ((r.so.toNat : Int) - 1) 3 ([], false))) ht
    rw [e3, e1]
    show (panesQ s (at_ (BitVec.ofInt 8 ((r.so.toNat : Int) - 1) :: b1 :: b2 :: t) 0) (at_ (BitVec.ofInt 8 ((r.so.toNat : Int) - 1) :: b1 :: b2 :: t) (0 + 1)) (at_ (BitVec.ofInt 8 ((r.so.toNat : Int) - 1) :: b1 :: b2 :: t) (0 + 2)), _) = _
    rw [at_zero, show at_ (BitVec.ofInt 8 ((r.so.toNat : Int) - 1) :: b1 :: b2 :: t) (0 + 1) = b1.toNat from rfl, show at_ (BitVec.ofInt 8 ((r.so.toNat : Int) - 1) :: b1 :: b2 :: t) (0 + 2) = b2.toNat from rfl]
    unfold panesQ
    rw [e2, e4, h1, if_neg (by decide), if_pos (by decide)]
    unfold RQ.upd
    dsimp only
    rw [h1, h2, h3, z4, z5]
    rfl
  · have e : wpanes r ([], false) = wsmall r.ms (wsmall r.ls (wput ((r.so.toNat : Int) - 1) 3 ([], false))) := by unfold wpanes; rw [if_neg (by rw [h1]; decide), if_neg (by rw [h1]; decide)]
    rw [e] at h ⊢
    rw [wsmall_ok, wsmall_ok] at h
    obtain ⟨⟨_, hl⟩, hm⟩ := h
    show (panesQ s (at_ (BitVec.ofInt 8 ((r.so.toNat : Int) - 1) :: BitVec.ofInt 8 r.ls :: BitVec.ofInt 8 r.ms :: t) 0) (at_ (BitVec.ofInt 8 ((r.so.toNat : Int) - 1) :: BitVec.ofInt 8 r.ls :: BitVec.ofInt 8 r.ms :: t) (0 + 1)) (at_ (BitVec.ofInt 8 ((r.so.toNat : Int) - 1) :: BitVec.ofInt 8 r.ls :: BitVec.ofInt 8 r.ms :: t) (0 + 2)), _) = _
    rw [at_zero, show at_ (BitVec.ofInt 8 ((r.so.toNat : Int) - 1) :: BitVec.ofInt 8 r.ls :: BitVec.ofInt 8 r.ms :: t) (0 + 1) = (BitVec.ofInt 8 r.ls).toNat from rfl, show at_ (BitVec.ofInt 8 ((r.so.toNat : Int) - 1) :: BitVec.ofInt 8 r.ls :: BitVec.ofInt 8 r.ms :: t) (0 + 2) = (BitVec.ofInt 8 r.ms).toNat from rfl]
    unfold panesQ
    rw [ofInt_small hl, ofInt_small hm, h1, if_neg (by decide), if_neg (by decide)]
    unfold RQ.upd
    dsimp only
    rw [h1, h2, h3, z2, z3]
    rfl
theorem part_back (r s : RQ) (t : List B8) (q : Pt) (hk : s.k = r.k) (hw : q = .w → r.which = true ∧ ZeroW s) (h : (wpart r ([], false) q).2 = false) : partQ ((wpart r ([], false) q).1 ++ t) (s, 0) q = (r.upd s q, (wpart r ([], false) q).1.length) := by
  have hnum : ∀ n : BitVec 64, (wnumber n 16 ([], false)).2 = false → BitVec.ofInt 64 (((at_ ((wnumber n 16 ([], false)).1 ++ t) 0 % 16 : Nat) : Nat) : Int) = n := fun n hn => by
    rw [wnumber_ok] at hn
    show BitVec.ofInt 64 (((BitVec.ofInt 8 ((min n.toNat 16 : Nat) : Int)).toNat % 16 : Nat) : Int) = n
    rw [Nat.min_eq_left (by omega), ofInt8 (by omega), Int.toNat_natCast, Nat.mod_eq_of_lt hn.2]
    exact bv_nat n
  cases q with
  | a =>
    show ({ s with at_ := BitVec.ofInt 64 (((at_ ((wnumber r.at_ 16 ([], false)).1 ++ t) 0 % 16 : Nat) : Nat) : Int) }, _) = _
    rw [hnum r.at_ h]
    rfl
  | l =>
    show ({ s with le := BitVec.ofInt 64 (((at_ ((wnumber r.le 16 ([], false)).1 ++ t) 0 % 16 : Nat) : Nat) : Int) }, _) = _
    rw [hnum r.le h]
    rfl
  | p =>
    have h2 : (wput (r.pg.toNat : Nat) 65 ([], false)).2 = false := h
    rw [wput_ok] at h2
    show ({ s with pg := BitVec.ofInt 8 ((((BitVec.ofInt 8 ((r.pg.toNat : Nat) : Int)).toNat % 65 : Nat) : Nat) : Int) }, _) = _
    rw [ofInt8 (by omega), Int.toNat_natCast, Nat.mod_eq_of_lt (by omega), bv_nat]
    rfl
  | d =>
    by_cases h6 : r.k = 6#8
    · have e : wpart r ([], false) .d = wput (r.du.toNat : Int) 256 ([], false) := by unfold wpart; dsimp only; rw [if_pos h6]
      rw [e] at h ⊢
      rw [wput_ok] at h
      show ({ s with du := if s.k = 6#8 then BitVec.ofInt 16 (((BitVec.ofInt 8 (r.du.toNat : Int)).toNat : Nat) : Int) else _ }, _) = _
      rw [if_pos (by rw [hk, h6]), ofInt8 (by omega), Int.toNat_natCast, bv_nat]
      rfl
    · have e : wpart r ([], false) .d = wput ((r.du.toNat : Int) - 1) 256 ([], false) := by unfold wpart; dsimp only; rw [if_neg h6]
      rw [e] at h ⊢
      rw [wput_ok] at h
      show ({ s with du := if s.k = 6#8 then _ else BitVec.ofInt 16 (((BitVec.ofInt 8 ((r.du.toNat : Int) - 1)).toNat : Nat) : Int) + 1#16 }, _) = _
      rw [if_neg (by rw [hk]; exact h6), ofInt8 (by omega)]
      have hd : BitVec.ofInt 16 ((((r.du.toNat : Int) - 1).toNat : Nat) : Int) + 1#16 = r.du := by
        refine BitVec.eq_of_toNat_eq ?_
        have := r.du.isLt
        rw [BitVec.toNat_add, BitVec.ofInt_natCast, BitVec.toNat_ofNat]
        show (((r.du.toNat : Int) - 1).toNat % 65536 + 1) % 65536 = r.du.toNat
        omega
      rw [hd]
      rfl
  | w => exact panes_back r s t (hw rfl).1 (hw rfl).2 h
/-- which panes come last -/
def okW : List Pt → Bool
  | [] => true
  | .w :: ps => ps.isEmpty
  | _ :: ps => okW ps
theorem okW_pts (k : B8) : okW (pts k) = true := by
  unfold pts
  (repeat' split) <;> rfl
theorem fold_back (r : RQ) : ∀ (ps : List Pt) (s : RQ) (t : List B8), s.k = r.k → okW ps = true → (Pt.w ∈ ps → r.which = true ∧ ZeroW s) → (ps.foldl (wpart r) ([], false)).2 = false →
    ps.foldl (partQ ((ps.foldl (wpart r) ([], false)).1 ++ t)) (s, 0) = (ps.foldl r.upd s, (ps.foldl (wpart r) ([], false)).1.length)
  | [], _, _, _, _, _, _ => rfl
  | q :: ps, s, t, hk, ho, hw, h => by
    have e : (q :: ps).foldl (wpart r) ([], false) = _ := em_fold (em_part r) ps (wpart r ([], false) q)
    rw [e] at h ⊢
    dsimp only at h ⊢
    rw [Bool.or_eq_false_iff] at h
    have h1 := part_back r s ((ps.foldl (wpart r) ([], false)).1 ++ t) q hk (fun hq => hw (by rw [hq]; exact List.mem_cons_self ..)) h.1
    rw [List.foldl_cons, List.foldl_cons, List.append_assoc, h1]
    have h2 := fold_shift (wpart r ([], false) q).1 ((ps.foldl (wpart r) ([], false)).1 ++ t) ps (r.upd s q) 0
    rw [Nat.add_zero] at h2
    rw [h2, fold_back r ps (r.upd s q) t (by cases q <;> exact hk) (by
      cases q with
      | w => cases ps with
        | nil => rfl
        | cons => cases ho
      | _ => exact ho) (fun hm => by
      cases q with
      | w => cases ps with
        | nil => cases hm
        | cons => cases ho
      | _ => exact ⟨(hw (List.mem_cons_of_mem _ hm)).1, ⟨(hw (List.mem_cons_of_mem _ hm)).2.1, (hw (List.mem_cons_of_mem _ hm)).2.2, (hw (List.mem_cons_of_mem _ hm)).2.3, (hw (List.mem_cons_of_mem _ hm)).2.4, (hw (List.mem_cons_of_mem _ hm)).2.5⟩⟩) h.2, List.length_append]
theorem req_back {r : RQ} (hr : r.right = true) (h : (wreq r ([], false)).2 = false) (t : List B8) : reqQ ((wreq r ([], false)).1 ++ t) 0 = (r, (wreq r ([], false)).1.length) := by
  have e := em_fold (em_part r) (pts r.k) (wput (r.id.toNat : Nat) 256 (wput ((r.k.toNat : Int) - 1) 8 ([], false)))
  dsimp only at e
  have hri := (right_iff r).1 hr
  unfold wreq at h ⊢
  rw [e] at h ⊢
  dsimp only at h ⊢
  rw [Bool.or_eq_false_iff, wput_ok, wput_ok] at h
  obtain ⟨⟨⟨_, hk⟩, hid⟩, hf⟩ := h
  have hfb := fold_back r (pts r.k) ⟨r.k, r.id, 0#8, 0#16, 0#64, 0#64, 0#8, [], [], 0, 0⟩ t rfl (okW_pts _) (fun hm => ⟨by
    have hw := hri.2.2.2.1
    have hh : has r.k .w = true := List.any_eq_true.2 ⟨.w, hm, rfl⟩
    rw [hh] at hw
    simpa using hw, rfl, rfl, rfl, rfl, rfl⟩) hf
  generalize ((pts r.k).foldl (wpart r) ([], false)).1 = bs at *
  have hb : (wput (r.id.toNat : Nat) 256 (wput ((r.k.toNat : Int) - 1) 8 ([], false))).1 = [BitVec.ofInt 8 ((r.k.toNat : Int) - 1), BitVec.ofInt 8 ((r.id.toNat : Nat) : Int)] := rfl
  rw [hb, List.append_assoc]
  unfold reqQ
  have hK : reqK ([BitVec.ofInt 8 ((r.k.toNat : Int) - 1), BitVec.ofInt 8 ((r.id.toNat : Nat) : Int)] ++ (bs ++ t)) 0 = r.k := by
    show BitVec.ofInt 8 ((((BitVec.ofInt 8 ((r.k.toNat : Int) - 1)).toNat % 8 : Nat) : Int) + 1) = r.k
    rw [ofInt8 (by omega)]
    have e1 : (((((r.k.toNat : Int) - 1).toNat % 8 : Nat) : Int) + 1) = (r.k.toNat : Int) := by omega
    rw [e1, bv_nat]
  have hI : BitVec.ofInt 32 ((at_ ([BitVec.ofInt 8 ((r.k.toNat : Int) - 1), BitVec.ofInt 8 ((r.id.toNat : Nat) : Int)] ++ (bs ++ t)) (0 + 1) : Nat) : Int) = r.id := by
    show BitVec.ofInt 32 (((BitVec.ofInt 8 ((r.id.toNat : Nat) : Int)).toNat : Nat) : Int) = r.id
    rw [ofInt8 (by omega), Int.toNat_natCast, bv_nat]
  rw [hK, hI]
  have h2 := fold_shift [BitVec.ofInt 8 ((r.k.toNat : Int) - 1), BitVec.ofInt 8 ((r.id.toNat : Nat) : Int)] (bs ++ t) (pts r.k) ⟨r.k, r.id, 0#8, 0#16, 0#64, 0#64, 0#8, [], [], 0, 0⟩ 0
  have h3 : ((pts r.k).foldl r.upd ⟨r.k, r.id, 0#8, 0#16, 0#64, 0#64, 0#8, [], [], 0, 0⟩) = r := by
    rw [upd_fold]
    exact right_only hr
  rw [hfb, h3] at h2
  exact h2.trans (by rw [List.length_append])
end Go.Proofs.YtmochicneilhhaaGreat.sc
namespace Go.Proofs.YtmochicneilhhaaGreat.sc
open Go.RowKit Go.Proofs.YtmochicneilhhaaGreat.kit Go.Proofs.YtmochicneilhhaaGreat.pk Go.Proofs.YtmochicneilhhaaGreat.rq Go.Proofs.YtmochicneilhhaaGreat.ev Go.Proofs.YtmochicneilhhaaGreat.win
theorem only_of {r : RQ} (hp : has r.k .p = false → r.pg = 0#8) (hd : has r.k .d = false → r.du = 0#16) (ha : has r.k .a = false → r.at_ = 0#64) (hl : has r.k .l = false → r.le = 0#64) (hw : has r.k .w = false → ZeroW r) : r.only = r := by
  obtain ⟨k, id, pg, du, at_, le, so, ky, to_, ls, ms⟩ := r
  dsimp only at hp hd ha hl hw
  unfold RQ.only
  dsimp only
  have e1 : (if has k .p then pg else 0#8) = pg := by
    cases h : has k .p with
    | true => rfl
    | false => exact (hp h).symm
  have e2 : (if has k .d then du else 0#16) = du := by
    cases h : has k .d with
    | true => rfl
    | false => exact (hd h).symm
  have e3 : (if has k .a then at_ else 0#64) = at_ := by
    cases h : has k .a with
    | true => rfl
    | false => exact (ha h).symm
  have e4 : (if has k .l then le else 0#64) = le := by
    cases h : has k .l with
    | true => rfl
    | false => exact (hl h).symm
  rw [e1, e2, e3, e4]
  cases h : has k .w with
  | true => rfl
  | false =>
    obtain ⟨z1, z2, z3, z4, z5⟩ := hw h
    dsimp only at z1 z2 z3 z4 z5
    rw [z1, z2, z3, z4, z5]
    rfl
def plen : Pt → Nat
  | .w => 3
  | _ => 1
structure PartsOk (r : RQ) : Prop where
  pg : r.pg.toNat < 65
  at_ : r.at_.toNat < 16
  le : r.le.toNat < 16
  d6 : r.k = 6#8 → r.du.toNat < 256
  d : has r.k .d = true → r.k ≠ 6#8 → 1 ≤ r.du.toNat ∧ r.du.toNat ≤ 256
  w : has r.k .w = true → r.which = true ∧ (wpanes r ([], false)).2 = false ∧ (wpanes r ([], false)).1.length = 3
theorem part_ok {r : RQ} (h : PartsOk r) {q : Pt} (hq : has r.k q = true) : (wpart r ([], false) q).2 = false ∧ (wpart r ([], false) q).1.length = plen q := by
  cases q with
  | a => exact ⟨wnumber_ok.2 ⟨rfl, h.at_⟩, rfl⟩
  | l => exact ⟨wnumber_ok.2 ⟨rfl, h.le⟩, rfl⟩
  | p => exact ⟨wput_ok.2 ⟨rfl, by omega, by have := h.pg; omega⟩, rfl⟩
  | d =>
    refine ⟨?_, rfl⟩
    by_cases h6 : r.k = 6#8
    · have e : wpart r ([], false) .d = wput (r.du.toNat : Int) 256 ([], false) := by unfold wpart; dsimp only; rw [if_pos h6]
      rw [e, wput_ok]
      have := h.d6 h6
      exact ⟨rfl, by omega, by omega⟩
    · have e : wpart r ([], false) .d = wput ((r.du.toNat : Int) - 1) 256 ([], false) := by unfold wpart; dsimp only; rw [if_neg h6]
      rw [e, wput_ok]
      have := h.d hq h6
      exact ⟨rfl, by omega, by omega⟩
  | w => exact (h.w hq).2
theorem parts_ok {r : RQ} (h : PartsOk r) : ∀ ps : List Pt, (∀ q ∈ ps, has r.k q = true) → (ps.foldl (wpart r) ([], false)).2 = false ∧ (ps.foldl (wpart r) ([], false)).1.length = (ps.map plen).sum
  | [], _ => ⟨rfl, rfl⟩
  | q :: ps, hq => by
    have e : (q :: ps).foldl (wpart r) ([], false) = _ := em_fold (em_part r) ps (wpart r ([], false) q)
    have h1 := part_ok h (hq q (List.mem_cons_self ..))
    have h2 := parts_ok h ps fun x hx => hq x (List.mem_cons_of_mem _ hx)
    rw [e]
    dsimp only
    rw [h1.1, h2.1, List.length_append, h1.2, h2.2, List.map_cons, List.sum_cons]
    exact ⟨rfl, rfl⟩
theorem pt_beq (q : Pt) : Pt.beq q q = true := by cases q <;> rfl
theorem fin_ok {r : RQ} (hk : 1 ≤ r.k.toNat ∧ r.k.toNat ≤ 8) (hid : r.id.toNat < 256) (h : PartsOk r) (ho : r.only = r) : r.right = true ∧ (wreq r ([], false)).2 = false ∧ (wreq r ([], false)).1.length = 2 + ((pts r.k).map plen).sum := by
  have hp := parts_ok h (pts r.k) fun q hq => List.any_eq_true.2 ⟨q, hq, pt_beq q⟩
  have e := em_fold (em_part r) (pts r.k) (wput (r.id.toNat : Nat) 256 (wput ((r.k.toNat : Int) - 1) 8 ([], false)))
  dsimp only at e
  have hkn : known r.k = true := by unfold known; rw [decide_eq_true hk.1, decide_eq_true hk.2]; rfl
  refine ⟨(right_iff r).2 ⟨hkn, by have := h.pg; omega, ?_, ?_, (RQ.eqB_iff _ _).2 ho⟩, ?_, ?_⟩
  · cases hd : has r.k .d with
    | false => rfl
    | true =>
      by_cases h6 : r.k = 6#8
      · rw [h6]; simp
      · have h1 := (h.d hd h6).1
        have hz : (r.du == 0#16) = false := by
          rw [beq_eq_false_iff_ne]
          intro hh
          rw [hh] at h1
          exact absurd h1 (by decide)
        rw [hz]
        rfl
  · cases hw : has r.k .w with
    | false => rfl
    | true => rw [(h.w hw).1]; rfl
  · unfold wreq
    rw [e]
    dsimp only
    rw [Bool.or_eq_false_iff, wput_ok, wput_ok]
    exact ⟨⟨⟨rfl, by omega, by omega⟩, by omega, by omega⟩, hp.1⟩
  · unfold wreq
    rw [e]
    dsimp only
    rw [List.length_append, hp.2]
    rfl
theorem panes_ok (q : RQ) (hz : ZeroW q) (a : Nat) {x y : Nat} (hx : x < 256) (hy : y < 256) : (panesQ q a x y).which = true ∧ (panesQ q a x y).Fits ∧ (wpanes (panesQ q a x y) ([], false)).2 = false ∧ (wpanes (panesQ q a x y) ([], false)).1.length = 3 ∧ (panesQ q a x y).k = q.k ∧ (panesQ q a x y).id = q.id ∧ (panesQ q a x y).pg = q.pg ∧ (panesQ q a x y).du = q.du ∧ (panesQ q a x y).at_ = q.at_ ∧ (panesQ q a x y).le = q.le := by
  obtain ⟨z1, z2, z3, z4, z5⟩ := hz
  have s1 := small_fit hx
  have s2 := small_fit hy
  have hkq : ∀ n : Nat, ∃ b : B8, keyQ n = [b] ∧ 97 ≤ b.toNat ∧ b.toNat < 101 := fun n => ⟨_, rfl, by
    rw [BitVec.toNat_ofNat]
    have := Nat.mod_lt n (show 0 < 4 by decide)
    omega⟩
  have heq : ∀ n : Nat, edgeQ n = [] ∨ ∃ b : B8, edgeQ n = [b] ∧ 97 ≤ b.toNat ∧ b.toNat < 101 := fun n => by
    unfold edgeQ
    split
    · exact .inr ⟨_, rfl, by rw [BitVec.toNat_ofNat]; omega⟩
    · exact .inl rfl
  unfold panesQ
  split
  · obtain ⟨b, hb, hb2⟩ := hkq x
    rw [hb]
    refine ⟨?_, ⟨by show 1 ≤ _; decide, by show q.to_.length ≤ _; rw [z3]; decide, by show _ ∧ _; exact ⟨by dsimp only; omega, by dsimp only; omega⟩, by dsimp only; rw [z5]; decide⟩, ?_, rfl, rfl, rfl, rfl, rfl, rfl, rfl⟩
    · unfold RQ.which RQ.long
      rw [if_pos rfl]
      dsimp only
      rw [z3, z5]
      rfl
    · have e : wpanes { q with so := 1#8, ky := [b], ls := small y } ([], false) = wsmall (small y) (wletter [b] (wput 0 3 ([], false))) := rfl
      rw [e, wsmall_ok, wletter_ok, wput_ok]
      exact ⟨⟨⟨rfl, by decide, by decide⟩, b, rfl, hb2⟩, s2⟩
  · split
    · have hh := heq x
      have hh2 := heq y
      have hl : ∀ n : Nat, (edgeQ n).length ≤ 1 := fun n => by unfold edgeQ; split <;> simp
      refine ⟨?_, ⟨by dsimp only; have := hl x; omega, by dsimp only; have := hl y; omega, by dsimp only; rw [z4]; decide, by dsimp only; rw [z5]; decide⟩, ?_, ?_, rfl, rfl, rfl, rfl, rfl, rfl⟩
      · unfold RQ.which RQ.long
        rw [if_neg (by dsimp only; decide), if_pos rfl]
        dsimp only
        rw [z4, z5, decide_eq_true (by have := hl x; omega : (edgeQ x).length ≤ 32), decide_eq_true (by have := hl y; omega : (edgeQ y).length ≤ 32)]
        rfl
      · have e : wpanes { q with so := 2#8, ky := edgeQ x, to_ := edgeQ y } ([], false) = wedge (edgeQ y) (wedge (edgeQ x) (wput 1 3 ([], false))) := rfl
        rw [e, wedge_ok, wedge_ok, wput_ok]
        exact ⟨⟨⟨rfl, by decide, by decide⟩, hh⟩, hh2⟩
      · have e : wpanes { q with so := 2#8, ky := edgeQ x, to_ := edgeQ y } ([], false) = wedge (edgeQ y) (wedge (edgeQ x) (wput 1 3 ([], false))) := rfl
        rw [e]
        have hwl : ∀ (u : List B8) (w : Wt), (u = [] ∨ ∃ b : B8, u = [b] ∧ 97 ≤ b.toNat ∧ b.toNat < 101) → (wedge u w).1.length = w.1.length + 1 := fun u w hu => by
          rcases hu with rfl | ⟨b, rfl, _⟩
          · exact wput_len _ _ _
          · exact wput_len _ _ _
        rw [hwl _ _ hh2, hwl _ _ hh, wput_len]
        rfl
    · refine ⟨?_, ⟨by dsimp only; rw [z2]; decide, by dsimp only; rw [z3]; decide, ⟨by dsimp only; omega, by dsimp only; omega⟩, ⟨by dsimp only; omega, by dsimp only; omega⟩⟩, ?_, rfl, rfl, rfl, rfl, rfl, rfl, rfl⟩
      · unfold RQ.which
        rw [if_neg (by dsimp only; decide), if_neg (by dsimp only; decide), if_pos rfl]
        dsimp only
        rw [z2, z3]
        rfl
      · have e : wpanes { q with so := 3#8, ls := small x, ms := small y } ([], false) = wsmall (small y) (wsmall (small x) (wput 2 3 ([], false))) := rfl
        rw [e, wsmall_ok, wsmall_ok, wput_ok]
        exact ⟨⟨⟨rfl, by decide, by decide⟩, s1⟩, s2⟩
theorem ofInt_lt {w : Nat} {n m : Nat} (hn : n < m) (hm : m ≤ 2 ^ w) : (BitVec.ofInt w (n : Int)).toNat < m := by
  rw [BitVec.ofInt_natCast, BitVec.toNat_ofNat, Nat.mod_eq_of_lt (by omega)]
  exact hn
theorem zeroW_0 : ∀ (k : B8) (id : BitVec 32) (pg : B8) (du : BitVec 16) (at_ le : BitVec 64), ZeroW ⟨k, id, pg, du, at_, le, 0#8, [], [], 0, 0⟩ := fun _ _ _ _ _ _ => ⟨rfl, rfl, rfl, rfl, rfl⟩
theorem du_ok {x : Nat} (h : x < 256) : 1 ≤ (BitVec.ofInt 16 ((x : Nat) : Int) + 1#16).toNat ∧ (BitVec.ofInt 16 ((x : Nat) : Int) + 1#16).toNat ≤ 256 := by
  rw [BitVec.toNat_add, BitVec.ofInt_natCast, BitVec.toNat_ofNat]
  show 1 ≤ (x % 65536 + 1) % 65536 ∧ (x % 65536 + 1) % 65536 ≤ 256
  omega
theorem fits_0 {r : RQ} (h : ZeroW r) : r.Fits := ⟨by rw [h.ky]; decide, by rw [h.to_]; decide, by rw [h.ls]; decide, by rw [h.ms]; decide⟩
theorem req_ok (l : List B8) (v : Nat) : (reqQ l v).1.right = true ∧ (reqQ l v).1.Fits ∧ (wreq (reqQ l v).1 ([], false)).2 = false ∧ v + (wreq (reqQ l v).1 ([], false)).1.length = (reqQ l v).2 := by
  have hid := ofInt_lt (w := 32) (at_lt l (v + 1)) (by decide)
  have hA := fun i => ofInt_lt (w := 64) (Nat.mod_lt (at_ l i) (show 0 < 16 by decide)) (by decide)
  have hP := fun i => ofInt_lt (w := 8) (Nat.mod_lt (at_ l i) (show 0 < 65 by decide)) (by decide)
  have hD := fun i => ofInt_lt (w := 16) (at_lt l i) (by decide)
  have hD1 := fun i => du_ok (at_lt l i)
  have hK : reqK l v = 1#8 ∨ reqK l v = 2#8 ∨ reqK l v = 3#8 ∨ reqK l v = 4#8 ∨ reqK l v = 5#8 ∨ reqK l v = 6#8 ∨ reqK l v = 7#8 ∨ reqK l v = 8#8 := by
    unfold reqK
    have h := Nat.mod_lt (at_ l v) (show 0 < 8 by decide)
    generalize at_ l v % 8 = q at *
    have : q = 0 ∨ q = 1 ∨ q = 2 ∨ q = 3 ∨ q = 4 ∨ q = 5 ∨ q = 6 ∨ q = 7 := by omega
    rcases this with rfl | rfl | rfl | rfl | rfl | rfl | rfl | rfl <;> simp
  have fin : ∀ (r : RQ) (n : Nat), reqQ l v = (r, v + 2 + n) → r.Fits → PartsOk r → r.only = r → 1 ≤ r.k.toNat ∧ r.k.toNat ≤ 8 → r.id.toNat < 256 → ((pts r.k).map plen).sum = n → (reqQ l v).1.right = true ∧ (reqQ l v).1.Fits ∧ (wreq (reqQ l v).1 ([], false)).2 = false ∧ v + (wreq (reqQ l v).1 ([], false)).1.length = (reqQ l v).2 := fun r n e hf hp ho hk hi hn => by
    rw [e]
    dsimp only
    obtain ⟨h1, h2, h3⟩ := fin_ok hk hi hp ho
    exact ⟨h1, hf, h2, by rw [h3, hn]; omega⟩
  rcases hK with h | h | h | h | h | h | h | h
  · have hp := panes_ok ⟨1#8, BitVec.ofInt 32 ((at_ l (v + 1) : Nat) : Int), BitVec.ofInt 8 ((at_ l (v + 3) % 65 : Nat) : Int), 0#16, BitVec.ofInt 64 ((at_ l (v + 2) % 16 : Nat) : Int), 0#64, 0#8, [], [], 0, 0⟩ (zeroW_0 _ _ _ _ _ _) (at_ l (v + 4)) (at_lt l (v + 4 + 1)) (at_lt l (v + 4 + 2))
    refine fin _ 5 (show reqQ l v = (panesQ ⟨1#8, BitVec.ofInt 32 ((at_ l (v + 1) : Nat) : Int), BitVec.ofInt 8 ((at_ l (v + 3) % 65 : Nat) : Int), 0#16, BitVec.ofInt 64 ((at_ l (v + 2) % 16 : Nat) : Int), 0#64, 0#8, [], [], 0, 0⟩ (at_ l (v + 4)) (at_ l (v + 4 + 1)) (at_ l (v + 4 + 2)), v + 2 + 5) by unfold reqQ; rw [h]; rfl) hp.2.1 ⟨by rw [hp.2.2.2.2.2.2.1]; exact hP _, by rw [hp.2.2.2.2.2.2.2.2.1]; exact hA _, by rw [hp.2.2.2.2.2.2.2.2.2]; dsimp only; decide, fun hh => by rw [hp.2.2.2.2.1] at hh; exact absurd hh (by dsimp only; decide), fun hh _ => absurd hh (by rw [hp.2.2.2.2.1]; dsimp only; decide), fun _ => ⟨hp.1, hp.2.2.1, hp.2.2.2.1⟩⟩ (only_of (fun hh => absurd hh (by rw [hp.2.2.2.2.1]; dsimp only; decide)) (fun _ => by rw [hp.2.2.2.2.2.2.2.1]) (fun hh => absurd hh (by rw [hp.2.2.2.2.1]; dsimp only; decide)) (fun _ => by rw [hp.2.2.2.2.2.2.2.2.2]) (fun hh => absurd hh (by rw [hp.2.2.2.2.1]; dsimp only; decide))) (by rw [hp.2.2.2.2.1]; dsimp only; decide) (by rw [hp.2.2.2.2.2.1]; exact hid) (by rw [hp.2.2.2.2.1]; rfl)
  · refine fin ⟨2#8, BitVec.ofInt 32 ((at_ l (v + 1) : Nat) : Int), 0#8, BitVec.ofInt 16 ((at_ l (v + 3) : Nat) : Int) + 1#16, BitVec.ofInt 64 ((at_ l (v + 2) % 16 : Nat) : Int), 0#64, 0#8, [], [], 0, 0⟩ 2 (by unfold reqQ; rw [h]; rfl) (fits_0 (zeroW_0 _ _ _ _ _ _)) ⟨by dsimp only; decide, hA _, by dsimp only; decide, fun hh => absurd hh (by dsimp only; decide), fun _ _ => hD1 _, fun hh => absurd hh (by simp [has, pts, Pt.beq])⟩ (only_of (fun _ => rfl) (fun hh => absurd hh (by simp [has, pts, Pt.beq])) (fun hh => absurd hh (by simp [has, pts, Pt.beq])) (fun _ => rfl) (fun _ => (zeroW_0 _ _ _ _ _ _))) (by dsimp only; decide) hid rfl
  · refine fin ⟨3#8, BitVec.ofInt 32 ((at_ l (v + 1) : Nat) : Int), 0#8, BitVec.ofInt 16 ((at_ l (v + 3) : Nat) : Int) + 1#16, 0#64, BitVec.ofInt 64 ((at_ l (v + 2) % 16 : Nat) : Int), 0#8, [], [], 0, 0⟩ 2 (by unfold reqQ; rw [h]; rfl) (fits_0 (zeroW_0 _ _ _ _ _ _)) ⟨by dsimp only; decide, by dsimp only; decide, hA _, fun hh => absurd hh (by dsimp only; decide), fun _ _ => hD1 _, fun hh => absurd hh (by simp [has, pts, Pt.beq])⟩ (only_of (fun _ => rfl) (fun hh => absurd hh (by simp [has, pts, Pt.beq])) (fun _ => rfl) (fun hh => absurd hh (by simp [has, pts, Pt.beq])) (fun _ => (zeroW_0 _ _ _ _ _ _))) (by dsimp only; decide) hid rfl
  · refine fin ⟨4#8, BitVec.ofInt 32 ((at_ l (v + 1) : Nat) : Int), 0#8, 0#16, 0#64, BitVec.ofInt 64 ((at_ l (v + 2) % 16 : Nat) : Int), 0#8, [], [], 0, 0⟩ 1 (by unfold reqQ; rw [h]; rfl) (fits_0 (zeroW_0 _ _ _ _ _ _)) ⟨by dsimp only; decide, by dsimp only; decide, hA _, fun hh => absurd hh (by dsimp only; decide), fun hh => absurd hh (by simp [has, pts, Pt.beq]), fun hh => absurd hh (by simp [has, pts, Pt.beq])⟩ (only_of (fun _ => rfl) (fun _ => rfl) (fun _ => rfl) (fun hh => absurd hh (by simp [has, pts, Pt.beq])) (fun _ => (zeroW_0 _ _ _ _ _ _))) (by dsimp only; decide) hid rfl
  · have hp := panes_ok ⟨5#8, BitVec.ofInt 32 ((at_ l (v + 1) : Nat) : Int), 0#8, BitVec.ofInt 16 ((at_ l (v + 2) : Nat) : Int) + 1#16, 0#64, 0#64, 0#8, [], [], 0, 0⟩ (zeroW_0 _ _ _ _ _ _) (at_ l (v + 3)) (at_lt l (v + 3 + 1)) (at_lt l (v + 3 + 2))
    refine fin _ 4 (show reqQ l v = (panesQ ⟨5#8, BitVec.ofInt 32 ((at_ l (v + 1) : Nat) : Int), 0#8, BitVec.ofInt 16 ((at_ l (v + 2) : Nat) : Int) + 1#16, 0#64, 0#64, 0#8, [], [], 0, 0⟩ (at_ l (v + 3)) (at_ l (v + 3 + 1)) (at_ l (v + 3 + 2)), v + 2 + 4) by unfold reqQ; rw [h]; rfl) hp.2.1 ⟨by rw [hp.2.2.2.2.2.2.1]; dsimp only; decide, by rw [hp.2.2.2.2.2.2.2.2.1]; dsimp only; decide, by rw [hp.2.2.2.2.2.2.2.2.2]; dsimp only; decide, fun hh => by rw [hp.2.2.2.2.1] at hh; exact absurd hh (by dsimp only; decide), fun hh _ => by rw [hp.2.2.2.2.2.2.2.1]; exact hD1 _, fun _ => ⟨hp.1, hp.2.2.1, hp.2.2.2.1⟩⟩ (only_of (fun _ => by rw [hp.2.2.2.2.2.2.1]) (fun hh => absurd hh (by rw [hp.2.2.2.2.1]; dsimp only; decide)) (fun _ => by rw [hp.2.2.2.2.2.2.2.2.1]) (fun _ => by rw [hp.2.2.2.2.2.2.2.2.2]) (fun hh => absurd hh (by rw [hp.2.2.2.2.1]; dsimp only; decide))) (by rw [hp.2.2.2.2.1]; dsimp only; decide) (by rw [hp.2.2.2.2.2.1]; exact hid) (by rw [hp.2.2.2.2.1]; rfl)
  · refine fin ⟨6#8, BitVec.ofInt 32 ((at_ l (v + 1) : Nat) : Int), BitVec.ofInt 8 ((at_ l (v + 3) % 65 : Nat) : Int), BitVec.ofInt 16 ((at_ l (v + 4) : Nat) : Int), 0#64, BitVec.ofInt 64 ((at_ l (v + 2) % 16 : Nat) : Int), 0#8, [], [], 0, 0⟩ 3 (by unfold reqQ; rw [h]; rfl) (fits_0 (zeroW_0 _ _ _ _ _ _)) ⟨hP _, by dsimp only; decide, hA _, fun _ => hD _, fun _ hh => absurd rfl hh, fun hh => absurd hh (by simp [has, pts, Pt.beq])⟩ (only_of (fun hh => absurd hh (by simp [has, pts, Pt.beq])) (fun hh => absurd hh (by simp [has, pts, Pt.beq])) (fun _ => rfl) (fun hh => absurd hh (by simp [has, pts, Pt.beq])) (fun _ => (zeroW_0 _ _ _ _ _ _))) (by dsimp only; decide) hid rfl
  · refine fin ⟨7#8, BitVec.ofInt 32 ((at_ l (v + 1) : Nat) : Int), 0#8, 0#16, 0#64, BitVec.ofInt 64 ((at_ l (v + 2) % 16 : Nat) : Int), 0#8, [], [], 0, 0⟩ 1 (by unfold reqQ; rw [h]; rfl) (fits_0 (zeroW_0 _ _ _ _ _ _)) ⟨by dsimp only; decide, by dsimp only; decide, hA _, fun hh => absurd hh (by dsimp only; decide), fun hh => absurd hh (by simp [has, pts, Pt.beq]), fun hh => absurd hh (by simp [has, pts, Pt.beq])⟩ (only_of (fun _ => rfl) (fun _ => rfl) (fun _ => rfl) (fun hh => absurd hh (by simp [has, pts, Pt.beq])) (fun _ => (zeroW_0 _ _ _ _ _ _))) (by dsimp only; decide) hid rfl
  · refine fin ⟨8#8, BitVec.ofInt 32 ((at_ l (v + 1) : Nat) : Int), 0#8, 0#16, 0#64, 0#64, 0#8, [], [], 0, 0⟩ 0 (by unfold reqQ; rw [h]; rfl) (fits_0 (zeroW_0 _ _ _ _ _ _)) ⟨by dsimp only; decide, by dsimp only; decide, by dsimp only; decide, fun hh => absurd hh (by dsimp only; decide), fun hh => absurd hh (by simp [has, pts, Pt.beq]), fun hh => absurd hh (by simp [has, pts, Pt.beq])⟩ (only_of (fun _ => rfl) (fun _ => rfl) (fun _ => rfl) (fun _ => rfl) (fun _ => (zeroW_0 _ _ _ _ _ _))) (by dsimp only; decide) hid rfl
end Go.Proofs.YtmochicneilhhaaGreat.sc
