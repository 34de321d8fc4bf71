/- scripts: a configuration, there and back: plainly. scripts: the reference's bytes of a step. scripts: the reference's Write. -/
import Derived.Test.YtmochicneilhhaaGreatPGo
import Derived.Test.YtmochicneilhhaaGreatPTn
import Derived.Test.YtmochicneilhhaaGreatPUb
namespace Go.Proofs.YtmochicneilhhaaGreat.sc
open Go.RowKit Go.Proofs.YtmochicneilhhaaGreat.kit Go.Proofs.YtmochicneilhhaaGreat.pk Go.Proofs.YtmochicneilhhaaGreat.rq Go.Proofs.YtmochicneilhhaaGreat.ev Go.Proofs.YtmochicneilhhaaGreat.win
theorem wwin_ok {c : Cf} {w : Wt} : (wwin c w).2 = false ↔ w.2 = false ∧ (c.k = 1 → 0 ≤ c.s - 1 ∧ c.s - 1 < 16) ∧ (c.k = 2 → c.l ≤ 4 ∧ c.s / c.l ≤ 4 ∧ 0 ≤ c.l - 1 + 4 * (c.s / c.l - 1) ∧ c.l - 1 + 4 * (c.s / c.l - 1) < 16) ∧ (c.k ≠ 1 → c.k ≠ 2 → 0 ≤ c.g - 1 ∧ c.g - 1 < 16) := by
  unfold wwin
  by_cases h1 : c.k = 1
  · rw [if_pos h1, wput_ok]
    exact ⟨fun h => ⟨h.1, fun _ => h.2, fun h2 => by omega, fun h2 => absurd h1 h2⟩, fun h => ⟨h.1, h.2.1 h1⟩⟩
  · rw [if_neg h1]
    by_cases h2 : c.k = 2
    · rw [if_pos h2, wput_ok]
      generalize c.s / c.l = q at *
      simp only [Bool.or_eq_false_iff, decide_eq_false_iff_not]
      exact ⟨fun h => ⟨h.1.1.1, fun h3 => absurd h3 h1, fun _ => ⟨by omega, by omega, h.2.1, h.2.2⟩, fun _ h3 => absurd h2 h3⟩, fun h => ⟨⟨⟨h.1, by have := h.2.2.1 h2; omega⟩, by have := h.2.2.1 h2; omega⟩, (h.2.2.1 h2).2.2⟩⟩
    · rw [if_neg h2, wput_ok]
      exact ⟨fun h => ⟨h.1, fun h3 => absurd h3 h1, fun h3 => absurd h3 h2, fun _ _ => h.2⟩, fun h => ⟨h.1, h.2.2.2 h1 h2⟩⟩
theorem wcfg_ok {c : Cf} : (wcfg c).2 = false ↔ rightC c = true ∧ (0 ≤ c.k - 1 ∧ c.k - 1 < 3) ∧ (c.k = 1 → 0 ≤ c.s - 1 ∧ c.s - 1 < 16) ∧ (c.k = 2 → c.l ≤ 4 ∧ c.s / c.l ≤ 4 ∧ 0 ≤ c.l - 1 + 4 * (c.s / c.l - 1) ∧ c.l - 1 + 4 * (c.s / c.l - 1) < 16) ∧ (c.k ≠ 1 → c.k ≠ 2 → 0 ≤ c.g - 1 ∧ c.g - 1 < 16) ∧ (0 ≤ c.la ∧ c.la < 32) ∧ (0 ≤ c.ca - 1 ∧ c.ca - 1 < 256) ∧ (0 ≤ c.pg - 1 ∧ c.pg - 1 < 64) ∧ (0 ≤ c.bu - 1 ∧ c.bu - 1 < 64) ∧ (0 ≤ c.qu - 1 ∧ c.qu - 1 < 16) ∧ (0 ≤ c.cl - 1 ∧ c.cl - 1 < 8) ∧ (0 ≤ c.le - 1 ∧ c.le - 1 < 16) := by
  unfold wcfg wcfgR
  cases h : rightC c with
  | false => simp
  | true =>
    rw [if_pos rfl, wput_ok, wput_ok, wput_ok, wput_ok, wput_ok, wput_ok, wput_ok, wwin_ok, wput_ok]
    constructor
    · rintro ⟨⟨⟨⟨⟨⟨⟨⟨⟨_, h1⟩, h2⟩, h3⟩, h4⟩, h5⟩, h6⟩, h7⟩, h8⟩, h9⟩
      exact ⟨rfl, h1, h2.1, h2.2.1, h2.2.2, h3, h4, h5, h6, h7, h8, h9⟩
    · rintro ⟨_, h1, a, b, d, h3, h4, h5, h6, h7, h8, h9⟩
      exact ⟨⟨⟨⟨⟨⟨⟨⟨⟨rfl, h1⟩, a, b, d⟩, h3⟩, h4⟩, h5⟩, h6⟩, h7⟩, h8⟩, h9⟩
theorem win_right (k n : Nat) (hn : n < 256) : rightB (winQ k n).1 (winQ k n).2.1 (winQ k n).2.2.1 (winQ k n).2.2.2 = true := by
  have h16 := Nat.mod_lt n (show 0 < 16 by decide)
  have h4 := Nat.mod_lt n (show 0 < 4 by decide)
  have h44 := Nat.mod_lt (n / 4) (show 0 < 4 by decide)
  unfold winQ rightB
  split
  · simp [numB]; omega
  · split
    · have e1 : ((((n % 4 : Nat) : Int) + 1) * (((n / 4 % 4 : Nat) : Int) + 1)) / (((n % 4 : Nat) : Int) + 1) = ((n / 4 % 4 : Nat) : Int) + 1 := Int.mul_ediv_cancel_left _ (by omega)
      have e2 : ((((n % 4 : Nat) : Int) + 1) * (((n / 4 % 4 : Nat) : Int) + 1)) % (((n % 4 : Nat) : Int) + 1) = 0 := Int.mul_emod_right _ _
      have h16' : (n % 4 + 1) * (n / 4 % 4 + 1) ≤ 16 := Nat.mul_le_mul (show n % 4 + 1 ≤ 4 by omega) (show n / 4 % 4 + 1 ≤ 4 by omega)
      have hp : 1 ≤ (n % 4 + 1) * (n / 4 % 4 + 1) := Nat.mul_pos (by omega) (by omega)
      have e3 : (((n % 4 : Nat) : Int) + 1) * (((n / 4 % 4 : Nat) : Int) + 1) = (((n % 4 + 1) * (n / 4 % 4 + 1) : Nat) : Int) := by push_cast; rfl
      dsimp only
      rw [e1, e2, e3]
      generalize (n % 4 + 1) * (n / 4 % 4 + 1) = z at *
      simp [numB]
      omega
    · simp [numB]; omega
theorem cfg_right (l : List B8) : rightC (cfgQ l) = true := by
  unfold rightC
  have h1 := win_right (at_ l 0) (at_ l 1) (at_lt l 1)
  have hb : (bnds (cfgQ l)).any badP = false := by
    rw [List.any_eq_false]
    intro p hp
    have h3 := at_lt l 3
    have h4 := Nat.mod_lt (at_ l 4) (show 0 < 64 by decide)
    have h5 := Nat.mod_lt (at_ l 5) (show 0 < 64 by decide)
    have h6 := Nat.mod_lt (at_ l 6) (show 0 < 16 by decide)
    have h7 := Nat.mod_lt (at_ l 7) (show 0 < 8 by decide)
    have h8 := Nat.mod_lt (at_ l 8) (show 0 < 16 by decide)
    simp only [bnds, cfgQ, List.mem_cons, List.not_mem_nil, or_false] at hp
    unfold badP
    rcases hp with rfl | rfl | rfl | rfl | rfl | rfl <;> (simp; omega)
  have hl := Nat.mod_lt (at_ l 2) (show 0 < 32 by decide)
  rw [hb, show rightB (cfgQ l).k (cfgQ l).s (cfgQ l).l (cfgQ l).g = true from h1]
  have e1 : decide ((cfgQ l).la ≥ 0) = true := decide_eq_true (by show (0 : Int) ≤ (at_ l 2 % 32 : Nat); omega)
  have e2 : decide ((cfgQ l).la ≤ 1048576) = true := decide_eq_true (by show ((at_ l 2 % 32 : Nat) : Int) ≤ 1048576; omega)
  rw [e1, e2]
  rfl
theorem cfg_flag (l : List B8) : (wcfg (cfgQ l)).2 = false := by
  have h1 := at_lt l 1
  have h3 := at_lt l 3
  have h2 := Nat.mod_lt (at_ l 2) (show 0 < 32 by decide)
  have h4 := Nat.mod_lt (at_ l 4) (show 0 < 64 by decide)
  have h5 := Nat.mod_lt (at_ l 5) (show 0 < 64 by decide)
  have h6 := Nat.mod_lt (at_ l 6) (show 0 < 16 by decide)
  have h7 := Nat.mod_lt (at_ l 7) (show 0 < 8 by decide)
  have h8 := Nat.mod_lt (at_ l 8) (show 0 < 16 by decide)
  have hn16 := Nat.mod_lt (at_ l 1) (show 0 < 16 by decide)
  have hn4 := Nat.mod_lt (at_ l 1) (show 0 < 4 by decide)
  have hn44 := Nat.mod_lt (at_ l 1 / 4) (show 0 < 4 by decide)
  rw [wcfg_ok]
  refine ⟨cfg_right l, ?_⟩
  have e1 : ((((at_ l 1 % 4 : Nat) : Int) + 1) * (((at_ l 1 / 4 % 4 : Nat) : Int) + 1)) / (((at_ l 1 % 4 : Nat) : Int) + 1) = ((at_ l 1 / 4 % 4 : Nat) : Int) + 1 := Int.mul_ediv_cancel_left _ (by omega)
  unfold cfgQ winQ
  dsimp only
  refine ⟨?_, ?_, ?_, ?_, by omega, by omega, by omega, by omega, by omega, by omega, by omega⟩
  · (repeat' split) <;> dsimp only <;> omega
  · intro hk
    split at hk
    · rename_i hh; rw [if_pos hh]; dsimp only; omega
    · split at hk <;> cases hk
  · intro hk
    split at hk
    · cases hk
    · rename_i hh
      split at hk
      · rename_i hh2
        rw [if_neg hh, if_pos hh2]
        dsimp only
        rw [e1]
        omega
      · cases hk
  · intro hk1 hk2
    split at hk1
    · exact absurd rfl hk1
    · rename_i hh
      split at hk2
      · rename_i hh1; exact absurd hh1 hh
      · split at hk2
        · exact absurd rfl hk2
        · rename_i hh3
          rw [if_neg hh, if_neg hh3]
          dsimp only
          omega
theorem W64_id {n : Int} (h : -9223372036854775808 ≤ n ∧ n < 9223372036854775808) : W64 n = n := by
  unfold W64
  rw [IntKind.wrap_i64]
  omega
theorem u8_id {n : Int} (h : 0 ≤ n ∧ n < 256) : IntKind.u8.wrap n = n := by
  unfold IntKind.wrap
  simp only [IntKind.bits, IntKind.signed]
  simp
  omega
theorem cfg_same {c : Cf} (h : (wcfg c).2 = false) : wcfg c = (guessQ c, false) := by
  refine Prod.ext ?_ h
  have hok := wcfg_ok.1 h
  obtain ⟨hR, hk, a, b, d, hla, hca, hpg, hbu, hqu, hcl, hle⟩ := hok
  obtain ⟨fk, fs, fl, fg, _⟩ := right_f hR
  have hRB := hR
  unfold rightC at hRB
  simp only [Bool.and_eq_true] at hRB
  have hrb := hRB.1.1.1
  unfold rightB at hrb
  simp only [Bool.or_eq_true, Bool.and_eq_true, beq_iff_eq, decide_eq_true_eq, numB_iff] at hrb
  unfold wcfg guessQ
  rw [if_pos hR, u8_id (by omega), W64_id (n := c.ca - 1) (by omega), W64_id (n := c.pg - 1) (by omega), W64_id (n := c.bu - 1) (by omega), W64_id (n := c.qu - 1) (by omega), W64_id (n := c.cl - 1) (by omega), W64_id (n := c.le - 1) (by omega)]
  have hN : guessN c = if c.k = 1 then c.s - 1 else if c.k = 2 then c.l - 1 + 4 * (c.s / c.l - 1) else c.g - 1 := by
    unfold guessN
    rcases fk with hk1 | hk1 | hk1
    · have hg0 : c.g = 0 := by omega
      have hs := fs (by omega)
      have hc : ¬ (c.k == 2 && decide (c.l > 0)) = true := by rw [hk1]; simp
      rw [if_neg hc, if_pos hk1, hg0, Int.add_zero, W64_id (n := c.s) (by omega), W64_id (by omega)]
    · have hl := fl hk1
      have hs := fs (by omega)
      have hc : (c.k == 2 && decide (c.l > 0)) = true := by rw [hk1]; simp; omega
      have hq : c.s.tdiv c.l = c.s / c.l := Int.tdiv_eq_ediv_of_nonneg (by omega)
      have hq2 := b hk1
      rw [if_pos hc, if_neg (by omega), if_pos hk1, hq]
      have hq1 := hl.2.2.2
      generalize c.s / c.l = q at *
      rw [W64_id (n := q) (by omega), W64_id (n := q - 1) (by omega), W64_id (n := 4 * (q - 1)) (by omega), W64_id (n := c.l - 1) (by omega), W64_id (by omega)]
    · have hs0 : c.s = 0 := by omega
      have hg := fg hk1
      have hc : ¬ (c.k == 2 && decide (c.l > 0)) = true := by rw [hk1]; simp
      rw [if_neg hc, if_neg (by omega), if_neg (by omega), hs0, Int.zero_add, W64_id (n := c.g) (by omega), W64_id (by omega)]
  rw [hN]
  unfold wcfgR wwin
  rcases fk with hk1 | hk1 | hk1
  · rw [if_pos hk1, if_pos hk1]; rfl
  · rw [if_neg (by omega), if_pos hk1, if_neg (by omega), if_pos hk1]; rfl
  · rw [if_neg (by omega), if_neg (by omega), if_neg (by omega), if_neg (by omega)]; rfl
theorem cfg_back {c : Cf} (h : (wcfg c).2 = false) (t : List B8) : cfgQ (guessQ c ++ t) = c := by
  have hs := congrArg (·.1) (cfg_same h)
  dsimp only at hs
  rw [← hs]
  obtain ⟨hR, hk, a, b, d, hla, hca, hpg, hbu, hqu, hcl, hle⟩ := wcfg_ok.1 h
  obtain ⟨fk, fs, fl, fg, _⟩ := right_f hR
  have hRB := hR
  unfold rightC at hRB
  simp only [Bool.and_eq_true] at hRB
  have hrb := hRB.1.1.1
  unfold rightB at hrb
  simp only [Bool.or_eq_true, Bool.and_eq_true, beq_iff_eq, decide_eq_true_eq, numB_iff] at hrb
  have hw : (wcfg c).1 = [BitVec.ofInt 8 (c.k - 1), BitVec.ofInt 8 (if c.k = 1 then c.s - 1 else if c.k = 2 then c.l - 1 + 4 * (c.s / c.l - 1) else c.g - 1), BitVec.ofInt 8 c.la, BitVec.ofInt 8 (c.ca - 1), BitVec.ofInt 8 (c.pg - 1), BitVec.ofInt 8 (c.bu - 1), BitVec.ofInt 8 (c.qu - 1), BitVec.ofInt 8 (c.cl - 1), BitVec.ofInt 8 (c.le - 1)] := by
    unfold wcfg
    rw [if_pos hR]
    unfold wcfgR wwin
    rcases fk with hk1 | hk1 | hk1
    · rw [if_pos hk1, if_pos hk1]; rfl
    · rw [if_neg (by omega), if_pos hk1, if_neg (by omega), if_pos hk1]; rfl
    · rw [if_neg (by omega), if_neg (by omega), if_neg (by omega), if_neg (by omega)]; rfl
  rw [hw]
  have hb0 : (BitVec.ofInt 8 (c.k - 1)).toNat = (c.k - 1).toNat := ofInt8 (by omega)
  have hw2 : winQ (BitVec.ofInt 8 (c.k - 1)).toNat (BitVec.ofInt 8 (if c.k = 1 then c.s - 1 else if c.k = 2 then c.l - 1 + 4 * (c.s / c.l - 1) else c.g - 1)).toNat = (c.k, c.s, c.l, c.g) := by
    rw [hb0]
    rcases fk with hk1 | hk1 | hk1
    · have ha := a hk1
      have hg0 : c.g = 0 ∧ c.l = 0 := by omega
      rw [if_pos hk1, ofInt8 (by omega)]
      unfold winQ
      rw [if_pos (by omega), hk1, hg0.1, hg0.2]
      refine congrArg (fun x : Int => ((1 : Int), x, (0 : Int), (0 : Int))) ?_
      omega
    · have hb2 := b hk1
      have hl := fl hk1
      have hg0 : c.g = 0 := by omega
      have hmul : c.l * (c.s / c.l) = c.s := Int.mul_ediv_cancel' (Int.dvd_of_emod_eq_zero hl.2.2.1)
      have hq1 := hl.2.2.2
      have hl1 := hl.1
      generalize c.s / c.l = q at *
      rw [if_neg (by omega), if_pos hk1, ofInt8 (by omega)]
      unfold winQ
      rw [if_neg (by omega), if_pos (by omega)]
      have e1 : (((c.l - 1 + 4 * (q - 1)).toNat % 4 : Nat) : Int) + 1 = c.l := by omega
      have e2 : (((c.l - 1 + 4 * (q - 1)).toNat / 4 % 4 : Nat) : Int) + 1 = q := by omega
      rw [e1, e2, hmul, hk1, hg0]
    · have hd := d (by omega) (by omega)
      have hs0 : c.s = 0 ∧ c.l = 0 := by omega
      rw [if_neg (by omega), if_neg (by omega), ofInt8 (by omega)]
      unfold winQ
      rw [if_neg (by omega), if_neg (by omega), hk1, hs0.1, hs0.2]
      refine congrArg (fun x : Int => ((3 : Int), (0 : Int), (0 : Int), x)) ?_
      omega
  generalize BitVec.ofInt 8 (if c.k = 1 then c.s - 1 else if c.k = 2 then c.l - 1 + 4 * (c.s / c.l - 1) else c.g - 1) = gb at *
  have hq : cfgQ ([BitVec.ofInt 8 (c.k - 1), gb, BitVec.ofInt 8 c.la, BitVec.ofInt 8 (c.ca - 1), BitVec.ofInt 8 (c.pg - 1), BitVec.ofInt 8 (c.bu - 1), BitVec.ofInt 8 (c.qu - 1), BitVec.ofInt 8 (c.cl - 1), BitVec.ofInt 8 (c.le - 1)] ++ t) = ⟨(winQ (BitVec.ofInt 8 (c.k - 1)).toNat gb.toNat).1, (winQ (BitVec.ofInt 8 (c.k - 1)).toNat gb.toNat).2.1, (winQ (BitVec.ofInt 8 (c.k - 1)).toNat gb.toNat).2.2.1, (winQ (BitVec.ofInt 8 (c.k - 1)).toNat gb.toNat).2.2.2, ((BitVec.ofInt 8 c.la).toNat % 32 : Nat), ((BitVec.ofInt 8 (c.ca - 1)).toNat : Int) + 1, (((BitVec.ofInt 8 (c.pg - 1)).toNat % 64 : Nat) : Int) + 1, (((BitVec.ofInt 8 (c.bu - 1)).toNat % 64 : Nat) : Int) + 1, (((BitVec.ofInt 8 (c.qu - 1)).toNat % 16 : Nat) : Int) + 1, (((BitVec.ofInt 8 (c.cl - 1)).toNat % 8 : Nat) : Int) + 1, (((BitVec.ofInt 8 (c.le - 1)).toNat % 16 : Nat) : Int) + 1⟩ := rfl
  rw [hq, hw2, ofInt8 (by omega), ofInt8 (by omega), ofInt8 (by omega), ofInt8 (by omega), ofInt8 (by omega), ofInt8 (by omega), ofInt8 (by omega)]
  obtain ⟨k, s, l, g, la, ca, pg, bu, qu, cl, le⟩ := c
  dsimp only at *
  rw [Cf.mk.injEq]
  refine ⟨rfl, rfl, rfl, rfl, ?_, ?_, ?_, ?_, ?_, ?_, ?_⟩ <;> omega
end Go.Proofs.YtmochicneilhhaaGreat.sc
namespace Go.Proofs.YtmochicneilhhaaGreat.sc
open Go.RowKit Go.Proofs.YtmochicneilhhaaGreat.kit Go.Proofs.YtmochicneilhhaaGreat.pk Go.Proofs.YtmochicneilhhaaGreat.rq Go.Proofs.YtmochicneilhhaaGreat.ev Go.Proofs.YtmochicneilhhaaGreat.win
theorem Gives.one {L : List Ck} {d : Ck} (h : d ∈ L) : Gives L [d] := by
  obtain ⟨k, hk⟩ := List.getElem?_of_mem h
  exact Gives.pick [k] (List.nodup_cons.2 ⟨List.not_mem_nil, List.nodup_nil⟩) (by unfold pickL; simp [hk])
theorem rwv_at {rs : List Rw} {i : Nat} {r : Rw} (h : rs[i]? = some r) : (rwv rs)[mulI ((i : Nat) : Int).toNat 1]? = some (.slice r.A r.n r.c) := by
  show (rwv rs)[i]? = _
  unfold rwv
  rw [List.getElem?_map, h]
  rfl
def RWriteP (n : Nat) (x : SP) (v : Value) (Lo : List Ck) : Prop := ∃ (A : Option Addr) (c : Nat) (b : List B8) (ok : Bool), v = .tuple #[.slice A b.length c, .bool ok] ∧ writeR n x = (if ok then some b else none) ∧ b.length ≤ 1100000 ∧ Lo = [.own A b.length c 5 1 (bvs b)]
structure LookSt (n : Nat) (x : SP) (rs : List Rw) where
  i : Nat
  hi : i ≤ rs.length
  no : ∀ j, j < i → ∀ r, rs[j]? = some r → testG n x r.l = false
theorem look_none {n : Nat} {x : SP} {rs : List Rw} (hg : rs.map Rw.l = guessesQ x) (h : ∀ j, j < rs.length → ∀ r, rs[j]? = some r → testG n x r.l = false) : writeR n x = none := by
  unfold writeR
  rw [← hg, List.find?_eq_none]
  intro g hgm
  obtain ⟨r, hr, rfl⟩ := List.mem_map.1 hgm
  obtain ⟨j, hj⟩ := List.getElem?_of_mem hr
  have := h j (by rw [List.getElem?_eq_some_iff] at hj; exact hj.1) r hj
  rw [this]
  decide
theorem look_some {n : Nat} {x : SP} {rs : List Rw} {i : Nat} {r : Rw} (hg : rs.map Rw.l = guessesQ x) (h : ∀ j, j < i → ∀ r, rs[j]? = some r → testG n x r.l = false) (hi : rs[i]? = some r) (ht : testG n x r.l = true) : writeR n x = some r.l := by
  unfold writeR
  rw [← hg, List.find?_eq_some_iff_getElem]
  obtain ⟨hlt, he⟩ := List.getElem?_eq_some_iff.1 hi
  refine ⟨ht, i, by rw [List.length_map]; exact hlt, by rw [List.getElem_map, he], fun j hj => ?_⟩
  rw [List.getElem_map, h j hj _ (List.getElem?_eq_getElem (by omega))]
  rfl
attribute [local irreducible] LX CX Yl Gives RetIs Fn
attribute [local irreducible] be de fr.frm fr.takeF
set_option maxRecDepth 100000 in
set_option maxHeartbeats 8000000 in
theorem rwrite_fn (x : MS) (n : Nat) (hn0 : 0 < n) (hx : x.r.l.length = x.r.n) (hc : x.r.n ≤ x.r.c ∧ x.r.c ≤ 9223372036854775807) (hn : x.r.n ≤ 1000000) : Fn Tryz.prog 55 [x.val, .int .i64 n] [.ro x.r.A x.r.n 1 (bvs x.r.l)] [] (RWriteP n x.sp) := by
  have hg := rguesses_fn x hx hc hn
  unfold GuessP at hg
  refine fn_enter Tryz.func55 rfl rfl (by kernel_rfl) rfl ?_; intro w0
  repeat (first | refine wz ?_ | (refine wzb ?_; intro b_) | fail)
  generalize b_ = b2
  repeat (first | (refine isx_call ?_; (refine isx_call ?_; refine lx_call0 (hg) ((fun w hm => in_ro (row_ro 1 rfl hm) (in_nil hm) rfl)) rfl rfl rfl rfl rfl rfl rfl rfl ?_; rintro v_ Lo_ ⟨A0, c0, rs, rfl, hgs, fit, few, rfl⟩)) | refine wz ?_ | (refine wzb ?_; intro b_) | fail)
  refine cx_weakL (Gives.mid (S := rbods rs) (T := [.blk b2 x.cells 68, .ro x.r.A x.r.n 1 (bvs x.r.l)])) ?_
  refine cx_loop (α := LookSt n x.sp rs) (fun s => [(1, none, .int .i64 n), (2, none, .pointer (some ⟨b2, 0, none⟩)), (6, none, .slice A0 rs.length c0), (7, none, .int .i64 s.i)])
    (fun _ => [.own A0 rs.length c0 22 1 (rwv rs), .blk b2 x.cells 68, .ro x.r.A x.r.n 1 (bvs x.r.l)] ++ rbods rs) (fun s => rs.length - s.i)
    ⟨0, Nat.zero_le _, fun j hj => absurd hj (Nat.not_lt_zero j)⟩ ⟨rfl, rfl, rfl, rfl, trivial⟩ (Gives.refl _) ?_
  rintro ⟨i, hi, no⟩
  dsimp only
  repeat (first | refine wz ?_ | (refine wzb ?_; intro b_) | fail)
  refine cx_cond rfl (fun h => ?_) (fun h => ?_)
  · have hlt : i < rs.length := by simp at h; omega
    clear h
    obtain ⟨r, hr⟩ : ∃ r, rs[i]? = some r := ⟨_, List.getElem?_eq_getElem hlt⟩
    have hmem := List.mem_of_getElem? hr
    have hfr := fit r hmem
    have hst := rstep_fn r.A r.n r.c r.l hfr.1 0 (j := 0) rfl (by omega) n hn0
    have hr1 := rwv_at hr
    have hrb : ∀ (L0 : List Ck), rbody r ∈ L0 ++ rbods rs := fun L0 => List.mem_append.2 (.inr (rbods_mem hmem))
    repeat (first | ((first | (apply lx_u; exact rfl) | (apply lx_g; exact rfl; exact rfl)); first | (apply isy_indexAddr; exact q_ixo 0 rfl rfl rfl rfl rfl) | (apply isy_load; exact q_lio 0 rfl rfl rfl rfl hr1) | (apply isy_indexAddr; exact q_ixo 2 rfl rfl rfl rfl rfl) | (apply isy_load; exact q_lio 2 rfl rfl rfl rfl hr1) | fail) | (refine isx_call ?_; (refine isx_call ?_; refine lx_call0 (hst) ((fun w hm => in_ro (rbody_row (hrb _) hm) (in_nil hm) rfl)) rfl rfl rfl rfl rfl rfl rfl rfl ?_; rintro v_ Lo_ ⟨y, rfl, hy, hy1, hy2, rfl⟩)) | (refine isx_call ?_; refine k_gcall ((rsame_fn x y hx hy1 (by omega))) ((fun w hm => in_ro (row_ro 4 rfl hm) (in_ro (row_own 1 rfl hm) (in_nil hm) rfl) rfl)) rfl rfl rfl rfl rfl rfl ?_) | refine wz ?_ | (refine wzb ?_; intro b_) | fail)
    have htq : testG n x.sp r.l = ((((stepQ r.l n 0).2 : Nat) : Int) == ((r.n : Nat) : Int) && x.sp.eqB y.sp) := by
      unfold testG
      rw [hfr.1, hy]
      refine congrArg (· && _) ?_
      rw [Bool.eq_iff_iff, beq_iff_eq, beq_iff_eq]
      omega
    refine cx_cond rfl (fun h => ?_) (fun h => ?_)
    · have ht : testG n x.sp r.l = true := by rw [htq]; exact h
      have hws := look_some hgs no hr ht
      repeat (first | ((first | (apply lx_u; exact rfl) | (apply lx_g; exact rfl; exact rfl)); first | (apply isy_indexAddr; exact q_ixo 2 rfl rfl rfl rfl rfl) | (apply isy_load; exact q_lio 2 rfl rfl rfl rfl hr1) | fail) | refine wz ?_ | (refine wzb ?_; intro b_) | fail)
      refine bq_ret (ret_tmp2 rfl rfl rfl) [rbody r] (Gives.one (hrb [_, _, _, _, _])) rfl ⟨r.A, r.c, r.l, true, by rw [hfr.1], by rw [hws]; rfl, by rw [hfr.1]; exact hfr.2, by rw [hfr.1]⟩
    · have ht : testG n x.sp r.l = false := by rw [htq]; exact h
      repeat (first | refine wz ?_ | (refine wzb ?_; intro b_) | fail)
      refine ⟨⟨i + 1, hlt, fun j hj r' hr' => ?_⟩, ⟨rfl, rfl, rfl, slot_int (by dsimp only; omega), trivial⟩, Gives.pre [_, _, _, _, _] [2, 3, 4] (by decide) rfl rfl, by dsimp only; omega⟩
      by_cases hji : j = i
      · rw [hji, hr] at hr'
        cases hr'
        exact ht
      · exact no j (by omega) r' hr'
  · have hii : i = rs.length := by simp at h; omega
    have hno := look_none hgs (by rw [← hii]; exact no)
    repeat (first | refine wz ?_ | (refine wzb ?_; intro b_) | fail)
    exact bq_ret (ret_tmp2 rfl rfl rfl) [_] ((Gives.nilown _ _ _).trans (Gives.pick [0] (by decide) rfl)) rfl ⟨none, 0, [], false, rfl, by rw [hno]; rfl, Nat.zero_le _, rfl⟩
end Go.Proofs.YtmochicneilhhaaGreat.sc
namespace Go.Proofs.YtmochicneilhhaaGreat.sc
open Go.RowKit Go.Proofs.YtmochicneilhhaaGreat.kit Go.Proofs.YtmochicneilhhaaGreat.pk Go.Proofs.YtmochicneilhhaaGreat.rq Go.Proofs.YtmochicneilhhaaGreat.ev Go.Proofs.YtmochicneilhhaaGreat.win
theorem writeW_bad {c : Cf} {l : List SP} (i : Nat) (h : ((l.take i).foldl (wstep c.cl) (wcfg c)).2 = true) : (writeW c l).2 = true := by
  have e : writeW c l = (l.drop i).foldl (wstep c.cl) ((l.take i).foldl (wstep c.cl) (wcfg c)) := by
    unfold writeW
    rw [← List.foldl_append, List.take_append_drop]
  rw [e]
  have hem : Em fun w => (l.drop i).foldl (wstep c.cl) w := em_fold (fun x => em_step c.cl x) _
  have h2 := hem ((l.take i).foldl (wstep c.cl) (wcfg c))
  dsimp only at h2
  rw [h2, h]
  rfl
theorem writeQ_bad {c : Cf} {l : List SP} (i : Nat) (h : ((l.take i).foldl (wstep c.cl) (wcfg c)).2 = true) : writeQ c l = ([], 2) := by
  unfold writeQ
  rw [if_pos (writeW_bad i h)]
structure OutSt (c : Cf) (xs : List MS) where
  i : Nat
  A' : Option Addr
  c' : Nat
  hi : i ≤ xs.length
  ok : (((xs.take i).map MS.sp).foldl (wstep c.cl) (wcfg c)).2 = false
attribute [local irreducible] LX CX Yl Gives RetIs Fn
attribute [local irreducible] be de fr.frm fr.takeF
set_option maxRecDepth 100000 in
set_option maxHeartbeats 8000000 in
theorem rWrite_fn (c : Cf) (A : Option Addr) (n cc : Nat) (xs : List MS) (hl : xs.length = n) (hn : n ≤ 1000000) (hf : Fit2 xs) (hsp : ∀ x ∈ xs, x.r.l.length = x.r.n) : Fn Tryz.prog 24 [c.val, .slice A n cc] [Ck.sts A n xs] []
    fun v Lo => ∃ A' c', v = .tuple #[.slice A' (writeQ c (xs.map MS.sp)).1.length c', .int .i64 (writeQ c (xs.map MS.sp)).2] ∧ Lo = [.own A' (writeQ c (xs.map MS.sp)).1.length c' 5 1 (bvs (writeQ c (xs.map MS.sp)).1)] := by
  subst hl
  have hlen : ∀ i, ((((xs.take i).map MS.sp).foldl (wstep c.cl) (wcfg c)).1).length ≤ 2000000000000 := fun i => by
    have hw9 := wcfg_len c
    have h := wsteps_len c.cl ((xs.take i).map MS.sp) (wcfg c) (fun y hy => by
      obtain ⟨x, hx, rfl⟩ := List.mem_map.1 hy
      have h1 := hf x (List.mem_of_mem_take hx)
      have h2 := hsp x (List.mem_of_mem_take hx)
      show x.r.l.length ≤ _
      omega)
    rw [List.length_map, List.length_take] at h
    omega
  have hgu := rguess_fn c
  have hgl : (guessQ c).length = 9 := rfl
  have hcf := fun b => rconfig_fn (some ⟨b, 0, none⟩) 9 9 (guessQ c) hgl
  have hcmp := fun w => rcfe (cfgQ (guessQ c)) c w
  have hval := cfgQ_val (guessQ c)
  generalize hG : guessQ c = G at *
  rw [hval] at hcf
  by_cases he : cfgQ G = c
  · have hfl : (wcfg c).2 = false := by rw [← he]; exact cfg_flag G
    have hwc : wcfg c = (G, false) := by rw [← hG]; exact cfg_same hfl
    obtain ⟨m, hm1, hm8, hcl⟩ : ∃ m : Nat, 1 ≤ m ∧ m ≤ 8 ∧ c.cl = m := ⟨at_ G 7 % 8 + 1, by omega, by omega, by
      have h1 : (cfgQ G).cl = ((at_ G 7 % 8 : Nat) : Int) + 1 := rfl
      rw [he] at h1
      rw [h1]
      rfl⟩
    have hst0 : ((xs.take 0).map MS.sp).foldl (wstep c.cl) (wcfg c) = (G, false) := hwc
    rw [he] at hcf hcmp
    refine fn_enter Tryz.func24 rfl rfl (by kernel_rfl) rfl ?_; intro w0
    repeat (first | (refine isx_call ?_; (refine isx_call ?_; refine lx_call0 (hgu) (fun _ hm => in_nil hm) rfl rfl rfl rfl rfl rfl rfl rfl ?_; rintro v_ Lo_ ⟨b6, rfl, rfl⟩)) | refine wz ?_ | (refine wzb ?_; intro b_) | fail)
    generalize b_ = b2
    refine cx_weakL (Gives.blkown (m := 9) (sz := 1) 0 rfl (by rw [bvs_len, hgl]) (by decide)) ?_
    have hcf6 := hcf b6
    repeat (first | refine wz ?_ | (refine wzb ?_; intro b_) | fail)
    refine cx_draw [1] _ rfl (by kernel_rfl) (Gives.refl _) ?_
    repeat (first | ((first | (apply lx_gt; exact rfl; exact rfl; exact rfl) | (apply lx_u; exact rfl) | (apply lx_g; exact rfl; exact rfl)); first | (apply isy_bin_neq; exact yl_false (yl_nes rcfe_g rfl rfl hcmp (by first | exact fun _ => rfl | exact fun h => h | exact fun h => (Bool.and_eq_true_iff.1 h).1) (by first | exact fun _ => rfl | exact fun h => h | exact fun h => (Bool.and_eq_true_iff.1 h).1)) (fun _ => by rw [Cf.eqB_self]; rfl)) | fail) | (refine isx_call ?_; refine lx_gcallt (hcf6) ((fun w hm => in_ro (row_own 0 rfl hm) (in_nil hm) rfl)) rfl rfl rfl rfl rfl rfl rfl ?_) | refine wzf ?_ | (refine wzb ?_; intro b_) | fail)
    refine cx_cond rfl (fun h => absurd h (by decide)) (fun _ => ?_)
    repeat (first | refine wz ?_ | (refine wzb ?_; intro b_) | fail)
    refine cx_loop (α := OutSt c xs) (fun x => [(1, none, .slice A xs.length cc), (2, none, .pointer (some ⟨b2, 0, none⟩)), (6, none, .slice x.A' (((xs.take x.i).map MS.sp).foldl (wstep c.cl) (wcfg c)).1.length x.c'), (7, none, .int .i64 x.i)])
      (fun x => [.own x.A' (((xs.take x.i).map MS.sp).foldl (wstep c.cl) (wcfg c)).1.length x.c' 5 1 (bvs (((xs.take x.i).map MS.sp).foldl (wstep c.cl) (wcfg c)).1), .blk b2 c.cells 28, Ck.sts A xs.length xs]) (fun x => xs.length - x.i)
      ⟨0, some ⟨b6, 0, none⟩, 9, Nat.zero_le _, hfl⟩ ⟨rfl, rfl, by dsimp only; rw [hst0, ← hgl]; rfl, rfl, trivial⟩ (by dsimp only; rw [hst0]; dsimp only; rw [hgl]; exact Gives.refl _) ?_
    rintro ⟨i, A', c', hi, hok⟩
    dsimp only at hi hok ⊢
    have hli := hlen i
    have hqb := writeQ_bad (c := c) (l := xs.map MS.sp) (i + 1)
    rw [← List.map_take] at hqb
    generalize hw : ((xs.take i).map MS.sp).foldl (wstep c.cl) (wcfg c) = w at *
    repeat (first | refine wz ?_ | (refine wzb ?_; intro b_) | fail)
    refine cx_cond rfl (fun h => ?_) (fun h => ?_)
    · have hlt : i < xs.length := by simp at h; omega
      clear h
      obtain ⟨x, hx⟩ : ∃ x, xs[i]? = some x := ⟨_, List.getElem?_eq_getElem hlt⟩
      have hfx := hf x (List.mem_of_getElem? hx)
      have hnx : ((xs.take (i + 1)).map MS.sp).foldl (wstep c.cl) (wcfg c) = wstep c.cl w x.sp := by
        rw [List.take_add_one, hx, List.map_append, List.foldl_append, hw]
        rfl
      have hem := em_step c.cl x.sp w
      dsimp only at hem
      rw [hok, Bool.false_or] at hem
      rw [hnx, hem] at hqb
      refine cx_fact (fun w hm => sts_ok 2 rfl hx hm) fun hk => ?_
      have hrw := rwrite_fn x m (by omega) hk.1 hk.2 hfx.1
      rw [← hcl] at hrw
      refine cx_weakL ((Gives.stsAt 2 rfl hx).trans (Gives.sts 3 rfl)) ?_
      have hcell := scells_at hx
      repeat (first | refine wz ?_ | (refine wzb ?_; intro b_) | fail)
      refine cx_draw [6] _ rfl (by kernel_rfl) (Gives.refl _) ?_
      repeat (first | ((first | (apply lx_u; exact rfl) | (apply lx_g; exact rfl; exact rfl)); first | (apply isy_indexAddr; exact q_ix 0 rfl rfl rfl rfl rfl) | (apply isy_load; exact q_ln 0 rfl rfl rfl rfl hcell rfl rfl) | (apply isy_load; exact q_lr 3 rfl rfl rfl rfl rfl) | fail) | (refine isx_call ?_; (refine isx_call ?_; refine lx_call0 (hrw) ((fun w hm => in_ro (row_ro 1 rfl hm) (in_nil hm) rfl)) rfl rfl rfl rfl rfl rfl rfl rfl ?_; rintro v_ Lo_ ⟨Ab, cb, b, ok, rfl, hwr, hbl, rfl⟩)) | refine wz ?_ | (refine wzb ?_; intro b_) | fail)
      have hwb := @write_bad m ⟨hm1, hm8⟩ x.sp
      have hwg := @write_good m ⟨hm1, hm8⟩ x.sp
      rw [← hcl] at hwb hwg
      generalize wstep c.cl ([], false) x.sp = z at *
      obtain ⟨zb, zf⟩ := z
      dsimp only at hem hqb hwb hwg
      cases zf with
      | true =>
        rw [hwb rfl] at hwr
        have hko : ok = false := by cases ok; rfl; cases hwr
        subst hko
        rw [hqb rfl]
        repeat (first | refine wzt ?_ | (refine wzb ?_; intro b_) | fail)
        refine cx_cond rfl (fun _ => ?_) (fun h => absurd h (by decide))
        repeat (first | refine wz ?_ | (refine wzb ?_; intro b_) | fail)
        exact bq_ret (ret_tmp2 rfl rfl rfl) [_] ((Gives.nilown _ _ _).trans (Gives.pick [0] (by decide) rfl)) rfl ⟨none, 0, rfl, rfl⟩
      | false =>
        rw [hwg rfl] at hwr
        have hko : ok = true := by cases ok; cases hwr; rfl
        subst hko
        have hzb : zb = b := by simpa using hwr
        subst hzb
        repeat (first | refine wzt ?_ | (refine wzb ?_; intro b_) | fail)
        refine cx_cond rfl (fun h => absurd h (by decide)) (fun _ => ?_)
        repeat (first | (refine isx_blt ?_; refine lx_appB (E := EV) 3 w.1 zb rfl rfl rfl rfl rfl rfl rfl rfl rfl rfl rfl rfl rfl (fun w hm => row_own 0 rfl hm) (by simp only [List.length_append, pk.be_len, pk.txt_len, List.length_cons, List.length_nil]; omega) (fun _ _ _ => trivial) ?_; intro A_ c_) | refine wz ?_ | (refine wzb ?_; intro b_) | fail)
        refine ⟨⟨i + 1, A_, c_, hlt, by rw [hnx, hem]⟩, ⟨rfl, rfl, by dsimp only; rw [hnx, hem]; rfl, slot_int (by dsimp only; omega), trivial⟩, by dsimp only; rw [hnx, hem]; exact Gives.pick [3, 4, 5] (by decide) rfl, by dsimp only; omega⟩
    · have hii : i = xs.length := by simp at h; omega
      rw [hii, List.take_length] at hw
      have hq : writeQ c (xs.map MS.sp) = if w.1.length > 16384 then ([], 3) else (w.1, 0) := by
        unfold writeQ writeW
        rw [hw, hok]
        exact if_neg (by decide)
      rw [hq]
      repeat (first | refine wz ?_ | (refine wzb ?_; intro b_) | fail)
      refine cx_cond rfl (fun h => ?_) (fun h => ?_)
      · rw [if_pos (by simp at h; omega)]
        repeat (first | refine wz ?_ | (refine wzb ?_; intro b_) | fail)
        exact bq_ret (ret_tmp2 rfl rfl rfl) [_] ((Gives.nilown _ _ _).trans (Gives.pick [0] (by decide) rfl)) rfl ⟨none, 0, rfl, rfl⟩
      · rw [if_neg (by simp at h; omega)]
        repeat (first | refine wz ?_ | (refine wzb ?_; intro b_) | fail)
        exact bq_ret (ret_tmp2 rfl rfl rfl) [_] (Gives.pick [0] (by decide) rfl) rfl ⟨A', c', rfl, rfl⟩
  · have hbad : (wcfg c).2 = true := by
      by_cases h0 : (wcfg c).2 = false
      · have := cfg_back h0 []
        rw [List.append_nil, hG] at this
        exact absurd this he
      · simpa using h0
    have hq : writeQ c (xs.map MS.sp) = ([], 2) := writeQ_bad 0 hbad
    have hne : (cfgQ G).eqB c = false := by
      cases h0 : (cfgQ G).eqB c with
      | false => rfl
      | true => exact absurd ((Cf.eqB_iff _ _).1 h0) he
    rw [hq]
    refine fn_enter Tryz.func24 rfl rfl (by kernel_rfl) rfl ?_; intro w0
    repeat (first | (refine isx_call ?_; (refine isx_call ?_; refine lx_call0 (hgu) (fun _ hm => in_nil hm) rfl rfl rfl rfl rfl rfl rfl rfl ?_; rintro v_ Lo_ ⟨b6, rfl, rfl⟩)) | refine wz ?_ | (refine wzb ?_; intro b_) | fail)
    refine cx_weakL (Gives.blkown (m := 9) (sz := 1) 0 rfl (by rw [bvs_len, hgl]) (by decide)) ?_
    have hcf6 := hcf b6
    repeat (first | refine wz ?_ | (refine wzb ?_; intro b_) | fail)
    refine cx_draw [1] _ rfl (by kernel_rfl) (Gives.refl _) ?_
    repeat (first | ((first | (apply lx_gt; exact rfl; exact rfl; exact rfl) | (apply lx_u; exact rfl) | (apply lx_g; exact rfl; exact rfl)); first | (apply isy_bin_neq; exact yl_true (yl_nes rcfe_g rfl rfl hcmp (by first | exact fun _ => rfl | exact fun h => h | exact fun h => (Bool.and_eq_true_iff.1 h).1) (by first | exact fun _ => rfl | exact fun h => h | exact fun h => (Bool.and_eq_true_iff.1 h).1)) (fun _ => by rw [hne]; rfl)) | fail) | (refine isx_call ?_; refine lx_gcallt (hcf6) ((fun w hm => in_ro (row_own 0 rfl hm) (in_nil hm) rfl)) rfl rfl rfl rfl rfl rfl rfl ?_) | refine wzf ?_ | (refine wzb ?_; intro b_) | fail)
    refine cx_cond rfl (fun _ => ?_) (fun h => absurd h (by decide))
    repeat (first | refine wz ?_ | (refine wzb ?_; intro b_) | fail)
    exact bq_ret (ret_tmp2 rfl rfl rfl) [_] ((Gives.nilown _ _ _).trans (Gives.pick [0] (by decide) rfl)) rfl ⟨none, 0, rfl, rfl⟩
end Go.Proofs.YtmochicneilhhaaGreat.sc
