/- packed numbers and texts, plainly: what is put is taken as it was, and what is taken was put so. -/
import Derived.Test.YthmdiopbiiimeaaPta
namespace Go.Proofs.Ythmdiopbiiimeaa.pk
open Go.RowKit Go.Proofs.Ythmdiopbiiimeaa.kit
theorem dn_inj : ∀ (l m : List B8) (a b : Nat), l.length = m.length → dn a l = dn b m → a = b ∧ l = m
  | [], [], _, _, _, h => ⟨h, rfl⟩
  | c :: l, d :: m, a, b, hl, h => by
    obtain ⟨h1, h2⟩ := dn_inj l m (a * 256 + c.toNat) (b * 256 + d.toNat) (by simpa using hl) h
    have hc := c.isLt
    have hd := d.isLt
    have e : c.toNat = d.toNat := by omega
    exact ⟨by omega, by rw [BitVec.eq_of_toNat_eq e, h2]⟩
theorem be_de (l : List B8) (hl : l.length ≤ 8) : be l.length (de 0#64 l) = l := by
  refine (dn_inj _ _ 0 0 (be_len _ _) ?_).2
  have h1 := dn_lt l 0
  have hp : (256 : Nat) ^ l.length ≤ 2 ^ 64 := Nat.le_trans (Nat.pow_le_pow_right (by decide) hl) (by decide)
  rw [dn_be, de_dn l 0#64 0 rfl, Nat.zero_mul, Nat.zero_add, Nat.mod_eq_of_lt (a := dn 0 l) (by omega), Nat.mod_eq_of_lt (by omega)]
theorem de_mod (k : Nat) (x : BitVec 64) (hk : k ≤ 8) : (de 0#64 (be k x)).toNat = x.toNat % 256 ^ k := by
  rw [de_dn (be k x) 0#64 0 rfl, dn_be, Nat.zero_mul, Nat.zero_add, Nat.mod_eq_of_lt]
  refine Nat.lt_of_le_of_lt (Nat.mod_le _ _) x.isLt
theorem de_w (k w : Nat) (x : BitVec 64) (hk : k ≤ 8) (hw : 256 ^ k = 2 ^ w) : (de 0#64 (be k x)).setWidth w = x.setWidth w := by
  apply BitVec.eq_of_toNat_eq
  rw [BitVec.toNat_setWidth, BitVec.toNat_setWidth, de_mod k x hk, hw, Nat.mod_mod]
theorem de_8 (x : BitVec 64) : de 0#64 (be 8 x) = x := by
  apply BitVec.eq_of_toNat_eq
  rw [de_mod 8 x (Nat.le_refl _), Nat.mod_eq_of_lt (Nat.lt_of_lt_of_le x.isLt (by decide))]
theorem de2_len (g : List B8) (hg : g.length ≤ 65535) : (de 0#64 (be 2 (BitVec.ofNat 64 g.length))).toNat = g.length := by
  rw [de_mod 2 _ (by decide), BitVec.toNat_ofNat]
  have : (256 : Nat) ^ 2 = 65536 := rfl
  rw [this]
  omega
theorem rTake_put {l g rest : List B8} {at' k : Nat} (hd : l.drop at' = g ++ rest) (hg : g.length = k) (hat : at' ≤ l.length) : rTake l at' false k = (de 0#64 g, at' + k, false) ∧ l.drop (at' + k) = rest ∧ at' + k ≤ l.length := by
  have hlen : l.length - at' = g.length + rest.length := by rw [← List.length_drop, hd, List.length_append]
  refine ⟨by rw [rTake, if_neg (by simp; omega), hd, ← hg, List.take_left], by rw [← List.drop_drop, hd, ← hg, List.drop_left], by omega⟩
theorem rText_put {l s rest : List B8} {at' : Nat} (hd : l.drop at' = txt s ++ rest) (hs : s.length ≤ 65535) (hat : at' ≤ l.length) : rText l at' false = (s, at' + (txt s).length, false) ∧ l.drop (at' + (txt s).length) = rest ∧ at' + (txt s).length ≤ l.length := by
  have ht := txt_len s
  rw [txt, List.append_assoc] at hd
  obtain ⟨e1, d1, h1⟩ := rTake_put hd (be_len _ _) hat
  have e2 := de2_len s hs
  have hlen : l.length - (at' + 2) = s.length + rest.length := by rw [← List.length_drop, d1, List.length_append]
  rw [ht, ← Nat.add_assoc]
  refine ⟨?_, by rw [← List.drop_drop, d1, List.drop_left], by omega⟩
  rw [rText, e1]
  dsimp only
  rw [e2, if_neg (by simp; omega), d1, List.take_left]
theorem rTake_true (l : List B8) (at' k : Nat) : rTake l at' true k = (0#64, at', true) := by rw [rTake, if_pos (.inl rfl)]
theorem rTake_f {l : List B8} {at' k : Nat} {f : Bool} (h : (rTake l at' f k).2.2 = false) : f = false := by
  cases f
  · rfl
  · rw [rTake_true] at h; cases h
theorem rTake_got {l : List B8} {at' k : Nat} (h : (rTake l at' false k).2.2 = false) (hk : k ≤ 8) : l.drop at' = be k (rTake l at' false k).1 ++ l.drop (rTake l at' false k).2.1 ∧ (rTake l at' false k).2.1 = at' + k ∧ at' + k ≤ l.length := by
  unfold rTake at h ⊢
  split at h
  · cases h
  · rename_i hc
    rw [not_or] at hc
    rw [if_neg (by simpa using hc.2)]
    dsimp only
    have e : ((l.drop at').take k).length = k := by rw [List.length_take, List.length_drop]; omega
    have hb := be_de ((l.drop at').take k) (by omega)
    rw [e] at hb
    refine ⟨?_, rfl, by omega⟩
    rw [hb, ← List.drop_drop, List.take_append_drop]
theorem rText_f {l : List B8} {at' : Nat} {f : Bool} (h : (rText l at' f).2.2 = false) : f = false := by
  unfold rText at h
  split at h
  · cases h
  · rename_i hc
    rw [not_or] at hc
    exact rTake_f (by simpa using hc.1)
theorem rText_got {l : List B8} {at' : Nat} (h : (rText l at' false).2.2 = false) : l.drop at' = txt (rText l at' false).1 ++ l.drop (rText l at' false).2.1 ∧ (rText l at' false).2.1 = at' + (txt (rText l at' false).1).length ∧ (rText l at' false).2.1 ≤ l.length ∧ (rText l at' false).1.length ≤ 65535 := by
  unfold rText at h ⊢
  split at h
  · cases h
  · rename_i hc
    rw [not_or] at hc
    have h2 : (rTake l at' false 2).2.2 = false := by simpa using hc.1
    obtain ⟨d, e, hle⟩ := rTake_got h2 (by decide)
    rw [if_neg (by simpa using hc)]
    dsimp only
    have hN : (rTake l at' false 2).1.toNat < 65536 := by
      have h3 : rTake l at' false 2 = (de 0#64 ((l.drop at').take 2), at' + 2, false) := by rw [rTake, if_neg (by simp; omega)]
      rw [h3]
      refine Nat.lt_of_lt_of_le (de_lt _) (Nat.le_trans (Nat.pow_le_pow_right (by decide) (List.length_take_le ..)) (by decide))
    have el : ((l.drop (rTake l at' false 2).2.1).take (rTake l at' false 2).1.toNat).length = (rTake l at' false 2).1.toNat := by rw [List.length_take, List.length_drop]; omega
    rw [txt_len, el]
    refine ⟨?_, by omega, by omega, by omega⟩
    rw [txt, el, BitVec.ofNat_toNat, BitVec.setWidth_eq, List.append_assoc, ← List.drop_drop (i := (rTake l at' false 2).1.toNat), List.take_append_drop]
    exact d
end Go.Proofs.Ythmdiopbiiimeaa.pk
