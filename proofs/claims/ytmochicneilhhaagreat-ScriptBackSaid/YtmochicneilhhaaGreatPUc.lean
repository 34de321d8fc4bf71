/- scripts: what the reference guesses is what is written: plainly. scripts: the reference's guesses at a configuration and a request. A region that draws its order, whatever its loud operations wait for: a tree of the ways in which they may come. scripts: the reference's guesses at a step. scripts: a configuration, there and back: plainly. -/
import Derived.Test.YtmochicneilhhaaGreatPGo
import Derived.Test.YtmochicneilhhaaGreatPSf
import Derived.Test.YtmochicneilhhaaGreatPTx
namespace Go.Proofs.YtmochicneilhhaaGreat.sc
open Go.RowKit Go.Proofs.YtmochicneilhhaaGreat.kit Go.Proofs.YtmochicneilhhaaGreat.pk Go.Proofs.YtmochicneilhhaaGreat.rq Go.Proofs.YtmochicneilhhaaGreat.ev Go.Proofs.YtmochicneilhhaaGreat.win
end Go.Proofs.YtmochicneilhhaaGreat.sc
namespace Go.Proofs.YtmochicneilhhaaGreat.sc
open Go.RowKit Go.Proofs.YtmochicneilhhaaGreat.kit Go.Proofs.YtmochicneilhhaaGreat.pk Go.Proofs.YtmochicneilhhaaGreat.rq Go.Proofs.YtmochicneilhhaaGreat.ev Go.Proofs.YtmochicneilhhaaGreat.win
abbrev W64 (n : Int) : Int := IntKind.i64.wrap n
def guessN (c : Cf) : Int := if (c.k == 2 && decide (c.l > 0)) = true then W64 (W64 (c.l - 1) + W64 (4 * W64 (W64 (c.s.tdiv c.l) - 1))) else W64 (W64 (c.s + c.g) - 1)
def guessQ (c : Cf) : List B8 := [BitVec.ofInt 8 (IntKind.u8.wrap (c.k - 1)), BitVec.ofInt 8 (guessN c), BitVec.ofInt 8 c.la, BitVec.ofInt 8 (W64 (c.ca - 1)), BitVec.ofInt 8 (W64 (c.pg - 1)), BitVec.ofInt 8 (W64 (c.bu - 1)), BitVec.ofInt 8 (W64 (c.qu - 1)), BitVec.ofInt 8 (W64 (c.cl - 1)), BitVec.ofInt 8 (W64 (c.le - 1))]
attribute [local irreducible] LX CX Yl Gives RetIs Fn
attribute [local irreducible] be de fr.frm
end Go.Proofs.YtmochicneilhhaaGreat.sc
namespace Go.Proofs.YtmochicneilhhaaGreat
open Go.RowKit
section
variable {P : Program} {ops : Array Oper} {Q Q' : Exit → Act → World → Prop} {S S1 : World → Prop} {E : List Nat} {K0 : Act → World → Prop}
end
section
variable {P : Program} {n : Nat} {M : Me} {Q : Post} {t : Fr} {L : List Ck}
end
end Go.Proofs.YtmochicneilhhaaGreat
namespace Go.Proofs.YtmochicneilhhaaGreat.sc
open Go.RowKit Go.Proofs.YtmochicneilhhaaGreat.kit Go.Proofs.YtmochicneilhhaaGreat.pk Go.Proofs.YtmochicneilhhaaGreat.rq Go.Proofs.YtmochicneilhhaaGreat.ev Go.Proofs.YtmochicneilhhaaGreat.win
attribute [local irreducible] LX CX Yl Gives RetIs Fn
attribute [local irreducible] be de fr.frm fr.takeF
end Go.Proofs.YtmochicneilhhaaGreat.sc
namespace Go.Proofs.YtmochicneilhhaaGreat.sc
open Go.RowKit Go.Proofs.YtmochicneilhhaaGreat.kit Go.Proofs.YtmochicneilhhaaGreat.pk Go.Proofs.YtmochicneilhhaaGreat.rq Go.Proofs.YtmochicneilhhaaGreat.ev Go.Proofs.YtmochicneilhhaaGreat.win
theorem wwin_ok {c : Cf} {w : Wt} : (wwin c w).2 = false ↔ w.2 = false ∧ (c.k = 1 → 0 ≤ c.s - 1 ∧ c.s - 1 < 16) ∧ (c.k = 2 → c.l ≤ 4 ∧ c.s / c.l ≤ 4 ∧ 0 ≤ c.l - 1 + 4 * (c.s / c.l - 1) ∧ c.l - 1 + 4 * (c.s / c.l - 1) < 16) ∧ (c.k ≠ 1 → c.k ≠ 2 → 0 ≤ c.g - 1 ∧ c.g - 1 < 16) := by
  unfold wwin
  by_cases h1 : c.k = 1
  · rw [if_pos h1, wput_ok]
    exact ⟨fun h => ⟨h.1, fun _ => h.2, fun h2 => by omega, fun h2 => absurd h1 h2⟩, fun h => ⟨h.1, h.2.1 h1⟩⟩
  · rw [if_neg h1]
    by_cases h2 : c.k = 2
    · rw [if_pos h2, wput_ok]
      generalize c.s / c.l = q at *
      simp only [Bool.or_eq_false_iff, decide_eq_false_iff_not]
      exact ⟨fun h => ⟨h.1.1.1, fun h3 => absurd h3 h1, fun _ => ⟨by omega, by omega, h.2.1, h.2.2⟩, fun _ h3 => absurd h2 h3⟩, fun h => ⟨⟨⟨h.1, by have := h.2.2.1 h2; omega⟩, by have := h.2.2.1 h2; omega⟩, (h.2.2.1 h2).2.2⟩⟩
    · rw [if_neg h2, wput_ok]
      exact ⟨fun h => ⟨h.1, fun h3 => absurd h3 h1, fun h3 => absurd h3 h2, fun _ _ => h.2⟩, fun h => ⟨h.1, h.2.2.2 h1 h2⟩⟩
theorem wcfg_ok {c : Cf} : (wcfg c).2 = false ↔ rightC c = true ∧ (0 ≤ c.k - 1 ∧ c.k - 1 < 3) ∧ (c.k = 1 → 0 ≤ c.s - 1 ∧ c.s - 1 < 16) ∧ (c.k = 2 → c.l ≤ 4 ∧ c.s / c.l ≤ 4 ∧ 0 ≤ c.l - 1 + 4 * (c.s / c.l - 1) ∧ c.l - 1 + 4 * (c.s / c.l - 1) < 16) ∧ (c.k ≠ 1 → c.k ≠ 2 → 0 ≤ c.g - 1 ∧ c.g - 1 < 16) ∧ (0 ≤ c.la ∧ c.la < 32) ∧ (0 ≤ c.ca - 1 ∧ c.ca - 1 < 256) ∧ (0 ≤ c.pg - 1 ∧ c.pg - 1 < 64) ∧ (0 ≤ c.bu - 1 ∧ c.bu - 1 < 64) ∧ (0 ≤ c.qu - 1 ∧ c.qu - 1 < 16) ∧ (0 ≤ c.cl - 1 ∧ c.cl - 1 < 8) ∧ (0 ≤ c.le - 1 ∧ c.le - 1 < 16) := by
  unfold wcfg wcfgR
  cases h : rightC c with
  | false => simp
  | true =>
    rw [if_pos rfl, wput_ok, wput_ok, wput_ok, wput_ok, wput_ok, wput_ok, wput_ok, wwin_ok, wput_ok]
    constructor
    · rintro ⟨⟨⟨⟨⟨⟨⟨⟨⟨_, h1⟩, h2⟩, h3⟩, h4⟩, h5⟩, h6⟩, h7⟩, h8⟩, h9⟩
      exact ⟨rfl, h1, h2.1, h2.2.1, h2.2.2, h3, h4, h5, h6, h7, h8, h9⟩
    · rintro ⟨_, h1, a, b, d, h3, h4, h5, h6, h7, h8, h9⟩
      exact ⟨⟨⟨⟨⟨⟨⟨⟨⟨rfl, h1⟩, a, b, d⟩, h3⟩, h4⟩, h5⟩, h6⟩, h7⟩, h8⟩, h9⟩
theorem win_right (k n : Nat) (hn : n < 256) : rightB (winQ k n).1 (winQ k n).2.1 (winQ k n).2.2.1 (winQ k n).2.2.2 = true := by
  have h16 := Nat.mod_lt n (show 0 < 16 by decide)
  have h4 := Nat.mod_lt n (show 0 < 4 by decide)
  have h44 := Nat.mod_lt (n / 4) (show 0 < 4 by decide)
  unfold winQ rightB
  split
  · simp [numB]; omega
  · split
    · have e1 : ((((n % 4 : Nat) : Int) + 1) * (((n / 4 % 4 : Nat) : Int) + 1)) / (((n % 4 : Nat) : Int) + 1) = ((n / 4 % 4 : Nat) : Int) + 1 := Int.mul_ediv_cancel_left _ (by omega)
      have e2 : ((((n % 4 : Nat) : Int) + 1) * (((n / 4 % 4 : Nat) : Int) + 1)) % (((n % 4 : Nat) : Int) + 1) = 0 := Int.mul_emod_right _ _
      have h16' : (n % 4 + 1) * (n / 4 % 4 + 1) ≤ 16 := Nat.mul_le_mul (show n % 4 + 1 ≤ 4 by omega) (show n / 4 % 4 + 1 ≤ 4 by omega)
      have hp : 1 ≤ (n % 4 + 1) * (n / 4 % 4 + 1) := Nat.mul_pos (by omega) (by omega)
      have e3 : (((n % 4 : Nat) : Int) + 1) * (((n / 4 % 4 : Nat) : Int) + 1) = (((n % 4 + 1) * (n / 4 % 4 + 1) : Nat) : Int) := by push_cast; rfl
      dsimp only
      rw [e1, e2, e3]
      generalize (n % 4 + 1) * (n / 4 % 4 + 1) = z at *
      simp [numB]
      omega
    · simp [numB]; omega
theorem cfg_right (l : List B8) : rightC (cfgQ l) = true := by
  unfold rightC
  have h1 := win_right (at_ l 0) (at_ l 1) (at_lt l 1)
  have hb : (bnds (cfgQ l)).any badP = false := by
    rw [List.any_eq_false]
    intro p hp
    have h3 := at_lt l 3
    have h4 := Nat.mod_lt (at_ l 4) (show 0 < 64 by decide)
    have h5 := Nat.mod_lt (at_ l 5) (show 0 < 64 by decide)
    have h6 := Nat.mod_lt (at_ l 6) (show 0 < 16 by decide)
    have h7 := Nat.mod_lt (at_ l 7) (show 0 < 8 by decide)
    have h8 := Nat.mod_lt (at_ l 8) (show 0 < 16 by decide)
    simp only [bnds, cfgQ, List.mem_cons, List.not_mem_nil, or_false] at hp
    unfold badP
    rcases hp with rfl | rfl | rfl | rfl | rfl | rfl <;> (simp; omega)
  have hl := Nat.mod_lt (at_ l 2) (show 0 < 32 by decide)
  rw [hb, show rightB (cfgQ l).k (cfgQ l).s (cfgQ l).l (cfgQ l).g = true from h1]
  have e1 : decide ((cfgQ l).la ≥ 0) = true := decide_eq_true (by show (0 : Int) ≤ (at_ l 2 % 32 : Nat); omega)
  have e2 : decide ((cfgQ l).la ≤ 1048576) = true := decide_eq_true (by show ((at_ l 2 % 32 : Nat) : Int) ≤ 1048576; omega)
  rw [e1, e2]
  rfl
theorem cfg_flag (l : List B8) : (wcfg (cfgQ l)).2 = false := by
  have h1 := at_lt l 1
  have h3 := at_lt l 3
  have h2 := Nat.mod_lt (at_ l 2) (show 0 < 32 by decide)
  have h4 := Nat.mod_lt (at_ l 4) (show 0 < 64 by decide)
  have h5 := Nat.mod_lt (at_ l 5) (show 0 < 64 by decide)
  have h6 := Nat.mod_lt (at_ l 6) (show 0 < 16 by decide)
  have h7 := Nat.mod_lt (at_ l 7) (show 0 < 8 by decide)
  have h8 := Nat.mod_lt (at_ l 8) (show 0 < 16 by decide)
  have hn16 := Nat.mod_lt (at_ l 1) (show 0 < 16 by decide)
  have hn4 := Nat.mod_lt (at_ l 1) (show 0 < 4 by decide)
  have hn44 := Nat.mod_lt (at_ l 1 / 4) (show 0 < 4 by decide)
  rw [wcfg_ok]
  refine ⟨cfg_right l, ?_⟩
  have e1 : ((((at_ l 1 % 4 : Nat) : Int) + 1) * (((at_ l 1 / 4 % 4 : Nat) : Int) + 1)) / (((at_ l 1 % 4 : Nat) : Int) + 1) = ((at_ l 1 / 4 % 4 : Nat) : Int) + 1 := Int.mul_ediv_cancel_left _ (by omega)
  unfold cfgQ winQ
  dsimp only
  refine ⟨?_, ?_, ?_, ?_, by omega, by omega, by omega, by omega, by omega, by omega, by omega⟩
  · (repeat' split) <;> dsimp only <;> omega
  · intro hk
    split at hk
    · rename_i hh; rw [if_pos hh]; dsimp only; omega
    · split at hk <;> cases hk
  · intro hk
    split at hk
    · cases hk
    · rename_i hh
      split at hk
      · rename_i hh2
        rw [if_neg hh, if_pos hh2]
        dsimp only
        rw [e1]
        omega
      · cases hk
  · intro hk1 hk2
    split at hk1
    · exact absurd rfl hk1
    · rename_i hh
      split at hk2
      · rename_i hh1; exact absurd hh1 hh
      · split at hk2
        · exact absurd rfl hk2
        · rename_i hh3
          rw [if_neg hh, if_neg hh3]
          dsimp only
          omega
theorem W64_id {n : Int} (h : -9223372036854775808 ≤ n ∧ n < 9223372036854775808) : W64 n = n := by
  unfold W64
  rw [IntKind.wrap_i64]
  omega
theorem u8_id {n : Int} (h : 0 ≤ n ∧ n < 256) : IntKind.u8.wrap n = n := by
  unfold IntKind.wrap
  simp only [IntKind.bits, IntKind.signed]
  simp
  omega
theorem cfg_same {c : Cf} (h : (wcfg c).2 = false) : wcfg c = (guessQ c, false) := by
  refine Prod.ext ?_ h
  have hok := wcfg_ok.1 h
  obtain ⟨hR, hk, a, b, d, hla, hca, hpg, hbu, hqu, hcl, hle⟩ := hok
  obtain ⟨fk, fs, fl, fg, _⟩ := right_f hR
  have hRB := hR
  unfold rightC at hRB
  simp only [Bool.and_eq_true] at hRB
  have hrb := hRB.1.1.1
  unfold rightB at hrb
  simp only [Bool.or_eq_true, Bool.and_eq_true, beq_iff_eq, decide_eq_true_eq, numB_iff] at hrb
  unfold wcfg guessQ
  rw [if_pos hR, u8_id (by omega), W64_id (n := c.ca - 1) (by omega), W64_id (n := c.pg - 1) (by omega), W64_id (n := c.bu - 1) (by omega), W64_id (n := c.qu - 1) (by omega), W64_id (n := c.cl - 1) (by omega), W64_id (n := c.le - 1) (by omega)]
  have hN : guessN c = if c.k = 1 then c.s - 1 else if c.k = 2 then c.l - 1 + 4 * (c.s / c.l - 1) else c.g - 1 := by
    unfold guessN
    rcases fk with hk1 | hk1 | hk1
    · have hg0 : c.g = 0 := by omega
      have hs := fs (by omega)
      have hc : ¬ (c.k == 2 && decide (c.l > 0)) = true := by rw [hk1]; simp
      rw [if_neg hc, if_pos hk1, hg0, Int.add_zero, W64_id (n := c.s) (by omega), W64_id (by omega)]
    · have hl := fl hk1
      have hs := fs (by omega)
      have hc : (c.k == 2 && decide (c.l > 0)) = true := by rw [hk1]; simp; omega
      have hq : c.s.tdiv c.l = c.s / c.l := Int.tdiv_eq_ediv_of_nonneg (by omega)
      have hq2 := b hk1
      rw [if_pos hc, if_neg (by omega), if_pos hk1, hq]
      have hq1 := hl.2.2.2
      generalize c.s / c.l = q at *
      rw [W64_id (n := q) (by omega), W64_id (n := q - 1) (by omega), W64_id (n := 4 * (q - 1)) (by omega), W64_id (n := c.l - 1) (by omega), W64_id (by omega)]
    · have hs0 : c.s = 0 := by omega
      have hg := fg hk1
      have hc : ¬ (c.k == 2 && decide (c.l > 0)) = true := by rw [hk1]; simp
      rw [if_neg hc, if_neg (by omega), if_neg (by omega), hs0, Int.zero_add, W64_id (n := c.g) (by omega), W64_id (by omega)]
  rw [hN]
  unfold wcfgR wwin
  rcases fk with hk1 | hk1 | hk1
  · rw [if_pos hk1, if_pos hk1]; rfl
  · rw [if_neg (by omega), if_pos hk1, if_neg (by omega), if_pos hk1]; rfl
  · rw [if_neg (by omega), if_neg (by omega), if_neg (by omega), if_neg (by omega)]; rfl
theorem cfg_back {c : Cf} (h : (wcfg c).2 = false) (t : List B8) : cfgQ (guessQ c ++ t) = c := by
  have hs := congrArg (·.1) (cfg_same h)
  dsimp only at hs
  rw [← hs]
  obtain ⟨hR, hk, a, b, d, hla, hca, hpg, hbu, hqu, hcl, hle⟩ := wcfg_ok.1 h
  obtain ⟨fk, fs, fl, fg, _⟩ := right_f hR
  have hRB := hR
  unfold rightC at hRB
  simp only [Bool.and_eq_true] at hRB
  have hrb := hRB.1.1.1
  unfold rightB at hrb
  simp only [Bool.or_eq_true, Bool.and_eq_true, beq_iff_eq, decide_eq_true_eq, numB_iff] at hrb
  have hw : (wcfg c).1 = [BitVec.ofInt 8 (c.k - 1), BitVec.ofInt 8 (if c.k = 1 then c.s - 1 else if c.k = 2 then c.l - 1 + 4 * (c.s / c.l - 1) else c.g - 1), BitVec.ofInt 8 c.la, BitVec.ofInt 8 (c.ca - 1), BitVec.ofInt 8 (c.pg - 1), BitVec.ofInt 8 (c.bu - 1), BitVec.ofInt 8 (c.qu - 1), BitVec.ofInt 8 (c.cl - 1), BitVec.ofInt 8 (c.le - 1)] := by
    unfold wcfg
    rw [if_pos hR]
    unfold wcfgR wwin
    rcases fk with hk1 | hk1 | hk1
    · rw [if_pos hk1, if_pos hk1]; rfl
    · rw [if_neg (by omega), if_pos hk1, if_neg (by omega), if_pos hk1]; rfl
    · rw [if_neg (by omega), if_neg (by omega), if_neg (by omega), if_neg (by omega)]; rfl
  rw [hw]
  have hb0 : (BitVec.ofInt 8 (c.k - 1)).toNat = (c.k - 1).toNat := ofInt8 (by omega)
  have hw2 : winQ (BitVec.ofInt 8 (c.k - 1)).toNat (BitVec.ofInt 8 (if c.k = 1 then c.s - 1 else if c.k = 2 then c.l - 1 + 4 * (c.s / c.l - 1) else c.g - 1)).toNat = (c.k, c.s, c.l, c.g) := by
    rw [hb0]
    rcases fk with hk1 | hk1 | hk1
    · have ha := a hk1
      have hg0 : c.g = 0 ∧ c.l = 0 := by omega
      rw [if_pos hk1, ofInt8 (by omega)]
      unfold winQ
      rw [if_pos (by omega), hk1, hg0.1, hg0.2]
      refine congrArg (fun x : Int => ((1 : Int), x, (0 : Int), (0 : Int))) ?_
      omega
    · have hb2 := b hk1
      have hl := fl hk1
      have hg0 : c.g = 0 := by omega
      have hmul : c.l * (c.s / c.l) = c.s := Int.mul_ediv_cancel' (Int.dvd_of_emod_eq_zero hl.2.2.1)
      have hq1 := hl.2.2.2
      have hl1 := hl.1
      generalize c.s / c.l = q at *
      rw [if_neg (by omega), if_pos hk1, ofInt8 (by omega)]
      unfold winQ
      rw [if_neg (by omega), if_pos (by omega)]
      have e1 : (((c.l - 1 + 4 * (q - 1)).toNat % 4 : Nat) : Int) + 1 = c.l := by omega
      have e2 : (((c.l - 1 + 4 * (q - 1)).toNat / 4 % 4 : Nat) : Int) + 1 = q := by omega
      rw [e1, e2, hmul, hk1, hg0]
    · have hd := d (by omega) (by omega)
      have hs0 : c.s = 0 ∧ c.l = 0 := by omega
      rw [if_neg (by omega), if_neg (by omega), ofInt8 (by omega)]
      unfold winQ
      rw [if_neg (by omega), if_neg (by omega), hk1, hs0.1, hs0.2]
      refine congrArg (fun x : Int => ((3 : Int), (0 : Int), (0 : Int), x)) ?_
      omega
  generalize BitVec.ofInt 8 (if c.k = 1 then c.s - 1 else if c.k = 2 then c.l - 1 + 4 * (c.s / c.l - 1) else c.g - 1) = gb at *
  have hq : cfgQ ([BitVec.ofInt 8 (c.k - 1), gb, BitVec.ofInt 8 c.la, BitVec.ofInt 8 (c.ca - 1), BitVec.ofInt 8 (c.pg - 1), BitVec.ofInt 8 (c.bu - 1), BitVec.ofInt 8 (c.qu - 1), BitVec.ofInt 8 (c.cl - 1), BitVec.ofInt 8 (c.le - 1)] ++ t) = ⟨(winQ (BitVec.ofInt 8 (c.k - 1)).toNat gb.toNat).1, (winQ (BitVec.ofInt 8 (c.k - 1)).toNat gb.toNat).2.1, (winQ (BitVec.ofInt 8 (c.k - 1)).toNat gb.toNat).2.2.1, (winQ (BitVec.ofInt 8 (c.k - 1)).toNat gb.toNat).2.2.2, ((BitVec.ofInt 8 c.la).toNat % 32 : Nat), ((BitVec.ofInt 8 (c.ca - 1)).toNat : Int) + 1, (((BitVec.ofInt 8 (c.pg - 1)).toNat % 64 : Nat) : Int) + 1, (((BitVec.ofInt 8 (c.bu - 1)).toNat % 64 : Nat) : Int) + 1, (((BitVec.ofInt 8 (c.qu - 1)).toNat % 16 : Nat) : Int) + 1, (((BitVec.ofInt 8 (c.cl - 1)).toNat % 8 : Nat) : Int) + 1, (((BitVec.ofInt 8 (c.le - 1)).toNat % 16 : Nat) : Int) + 1⟩ := rfl
  rw [hq, hw2, ofInt8 (by omega), ofInt8 (by omega), ofInt8 (by omega), ofInt8 (by omega), ofInt8 (by omega), ofInt8 (by omega), ofInt8 (by omega)]
  obtain ⟨k, s, l, g, la, ca, pg, bu, qu, cl, le⟩ := c
  dsimp only at *
  rw [Cf.mk.injEq]
  refine ⟨rfl, rfl, rfl, rfl, ?_, ?_, ?_, ?_, ?_, ?_, ?_⟩ <;> omega
end Go.Proofs.YtmochicneilhhaaGreat.sc
