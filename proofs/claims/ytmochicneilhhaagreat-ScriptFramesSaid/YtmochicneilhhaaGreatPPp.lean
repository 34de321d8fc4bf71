/- packed numbers and texts: the reader beside the reference's. packed numbers and texts, plainly: what is put is taken as it was, and what is taken was put so. -/
import Derived.Test.YtmochicneilhhaaGreatPPkc
namespace Go.Proofs.YtmochicneilhhaaGreat.pk
open Go.RowKit Go.Proofs.YtmochicneilhhaaGreat.kit
/-- a reader stands where the reference does -/
structure Rel (l : List B8) (r : Rs) (at' : Nat) (f : Bool) : Prop where
  ok : r.Ok
  left : r.l = l.drop at'
  le : at' ≤ l.length
  err : r.e = if f = true then 20 else 0
theorem Rel.n {l : List B8} {r : Rs} {at' : Nat} {f : Bool} (h : Rel l r at' f) : r.n = l.length - at' := by
  rw [← h.ok.len, h.left, List.length_drop]
theorem Rel.start (A : Option Addr) (n c : Nat) (l : List B8) (hl : l.length = n) (hc : n ≤ c ∧ c ≤ 9223372036854775807) : Rel l ⟨A, n, c, l, 0⟩ 0 false := ⟨⟨hl, hc.1, hc.2⟩, rfl, Nat.zero_le _, rfl⟩
theorem Rel.num {l : List B8} {r : Rs} {at' : Nat} {f : Bool} (h : Rel l r at' f) (k : Nat) : Rel l (r.adv k) (rTake l at' f k).2.1 (rTake l at' f k).2.2 ∧ de 0#64 (r.got k) = (rTake l at' f k).1 := by
  have hn := h.n
  have hle := h.le
  cases f with
  | true =>
    have he : r.e ≠ 0 := by rw [h.err]; decide
    rw [Rs.adv_err k he, Rs.got, if_neg (by rw [Rs.may_err he]; simp), rTake, if_pos (.inl rfl)]
    exact ⟨⟨h.ok, h.left, h.le, h.err⟩, rfl⟩
  | false =>
    have he : r.e = 0 := h.err
    by_cases hk : k ≤ r.n
    · rw [Rs.got, if_pos (Rs.may_ok he hk), rTake, if_neg (by simp; omega)]
      refine ⟨⟨h.ok.adv k, ?_, by dsimp only; omega, ?_⟩, by rw [h.left]⟩
      · rw [Rs.adv_ok he hk]
        dsimp only
        rw [h.left, List.drop_drop]
      · rw [Rs.adv_ok he hk]
        rfl
    · rw [Rs.got, if_neg (by rw [Rs.may_short (by omega)]; simp), rTake, if_pos (.inr (by omega))]
      refine ⟨⟨h.ok.adv k, ?_, h.le, ?_⟩, rfl⟩
      · rw [Rs.adv_short he (by omega)]
        exact h.left
      · rw [Rs.adv_short he (by omega)]
        rfl
theorem Rs.got_le (r : Rs) (k : Nat) : (r.got k).length ≤ k := by
  unfold Rs.got
  split
  · rw [List.length_take]; omega
  · simp
theorem got_lt (r : Rs) (k : Nat) : (de 0#64 (r.got k)).toNat < 256 ^ k := Nat.lt_of_lt_of_le (de_lt _) (Nat.pow_le_pow_right (by decide) (r.got_le k))
theorem wide_id {w : Nat} (x : BitVec 64) (h : x.toNat < 2 ^ w) : (x.setWidth w).setWidth 64 = x := by
  apply BitVec.eq_of_toNat_eq
  rw [BitVec.toNat_setWidth, BitVec.toNat_setWidth, Nat.mod_eq_of_lt h, Nat.mod_eq_of_lt x.isLt]
theorem Rs.textN_eq (r : Rs) : r.textN = (de 0#64 (r.got 2)).toNat := by
  have := got_lt r 2
  rw [Rs.textN, BitVec.toNat_setWidth, Nat.mod_eq_of_lt (Nat.lt_of_lt_of_le this (by decide))]
theorem Rel.text {l : List B8} {r : Rs} {at' : Nat} {f : Bool} (h : Rel l r at' f) : Rel l r.textTo (rText l at' f).2.1 (rText l at' f).2.2 ∧ r.text = (rText l at' f).1 := by
  obtain ⟨h2, hd⟩ := h.num 2
  have hN := r.textN_eq
  rw [hd] at hN
  have ha := rTake_at l at' f 2
  have hE : ((r.adv 2).adv r.textN).e = if (r.adv 2).may r.textN = true then 0 else 20 := by
    by_cases he : (r.adv 2).e = 0
    · by_cases hk : r.textN ≤ (r.adv 2).n
      · rw [Rs.adv_ok he hk, Rs.may_ok he hk]; rfl
      · rw [Rs.adv_short he (by omega), Rs.may_short (by omega)]; rfl
    · rw [Rs.adv_err _ he, Rs.may_err he]
      have := h2.err
      split at this
      · rw [this]; rfl
      · exact absurd this he
  unfold rText Rs.text
  by_cases hm : (r.adv 2).may r.textN = true
  · have hm' := hm
    simp only [Rs.may, Bool.and_eq_true, decide_eq_true_eq] at hm'
    have hf : (rTake l at' f 2).2.2 = false := by
      have := h2.err
      rw [hm'.1] at this
      cases hq : (rTake l at' f 2).2.2
      · rfl
      · rw [hq] at this; simp at this
    have hlen := h2.n
    have hle := h2.le
    rw [if_neg (by rw [hf]; simp; omega), Rs.textTo, if_pos hm, Rs.got, if_pos hm, h2.left, hN]
    refine ⟨⟨h2.ok.adv _, ?_, by dsimp only; omega, ?_⟩, rfl⟩
    · rw [Rs.adv_ok hm'.1 (by omega)]
      dsimp only
      rw [h2.left, List.drop_drop]
    · rw [← hN, hE, if_pos hm]
      rfl
  · have hc : (rTake l at' f 2).2.2 = true ∨ l.length < (rTake l at' f 2).2.1 + (rTake l at' f 2).1.toNat := by
      by_cases hf : (rTake l at' f 2).2.2 = true
      · exact .inl hf
      · right
        have he : (r.adv 2).e = 0 := by rw [h2.err, if_neg hf]
        rcases Nat.lt_or_ge (r.adv 2).n r.textN with hk | hk
        · have := h2.n
          have := h2.le
          omega
        · exact absurd (Rs.may_ok he hk) hm
    rw [if_pos hc, Rs.textTo, if_neg hm, Rs.got, if_neg hm]
    refine ⟨⟨⟨h.ok.len, h.ok.cap, h.ok.max⟩, h.left, h.le, ?_⟩, rfl⟩
    dsimp only
    rw [hE, if_neg hm]
    rfl
def Der (r r' : Rs) : Prop := ∀ (L : List Ck) (i : Nat), L[i]? = some r.ro → Gives L (r'.ro :: L)
theorem Rs.Ok.der {r : Rs} (h : r.Ok) (k : Nat) : Der r (r.adv k) := fun _ i hi => h.gives i k hi
theorem Rs.Ok.derText {r : Rs} (h : r.Ok) : Der r r.textTo := by
  intro L i hi
  unfold Rs.textTo
  split
  · have h1 := h.gives i 2 hi
    have h2 := (h.adv 2).gives 0 r.textN (L := (r.adv 2).ro :: L) rfl
    have h3 : Gives (((r.adv 2).adv r.textN).ro :: (r.adv 2).ro :: L) (((r.adv 2).adv r.textN).ro :: L) := by
      intro M w hm
      exact ⟨hm.keep, fun c hc => hm.all c (by
        rcases List.mem_cons.1 hc with rfl | hc
        · exact List.mem_cons_self ..
        · exact List.mem_cons_of_mem _ (List.mem_cons_of_mem _ hc)), fun c hc => hm.out c (by
        rcases List.mem_cons.1 hc with rfl | hc
        · exact List.mem_cons_self ..
        · exact List.mem_cons_of_mem _ (List.mem_cons_of_mem _ hc)), by
        have s1 := List.pairwise_cons.1 hm.sep
        have s2 := List.pairwise_cons.1 s1.2
        exact List.Pairwise.cons (fun c hc => s1.1 c (List.mem_cons_of_mem _ hc)) s2.2⟩
    exact (h1.trans h2).trans h3
  · exact Gives.add i hi rfl rfl fun _ h => ⟨h, fun _ hb => hb⟩
theorem Rel.done {l : List B8} {r : Rs} {at' : Nat} {f : Bool} (h : Rel l r at' f) : r.done = rDoneN l.length at' f := by
  have hn := h.n
  unfold Rs.done rDoneN
  cases f with
  | true => rw [if_pos (by rw [h.err]; decide), if_pos rfl, h.err]; rfl
  | false =>
    have he : r.e = 0 := h.err
    rw [if_neg (show ¬ r.e ≠ 0 by simp [he]), if_neg (show ¬ (false = true) by simp)]
    by_cases h0 : r.n = 0
    · rw [if_pos h0, if_neg (by have := h.le; omega)]
    · rw [if_neg h0, if_pos (by omega)]
/- the examples -/
theorem we1 (A : Option Addr) (c : Nat) : (de 0#64 (Rs.got ⟨A, 3, c, [1#8, 2#8, 3#8], 0⟩ 1)).setWidth 8 = 1#8 := by
  rw [Rs.got, if_pos (Rs.may_ok rfl (by dsimp only; omega))]; dsimp only; decide
theorem we2 (A : Option Addr) (c : Nat) : (Rs.adv ⟨A, 3, c, [1#8, 2#8, 3#8], 0⟩ 1) = ⟨cutA A c 1 1, 2, c - 1, [2#8, 3#8], 0⟩ := Rs.adv_ok rfl (by dsimp only; omega)
theorem we3 (A : Option Addr) (c : Nat) : (de 0#64 (Rs.got ⟨A, 2, c, [2#8, 3#8], 0⟩ 2)).setWidth 16 = 515#16 := by
  rw [Rs.got, if_pos (Rs.may_ok rfl (by dsimp only; omega))]; dsimp only; decide
theorem we4 (A : Option Addr) (c : Nat) : (Rs.adv ⟨A, 2, c, [2#8, 3#8], 0⟩ 2) = ⟨cutA A c 2 1, 0, c - 2, [], 0⟩ := Rs.adv_ok rfl (by dsimp only; omega)
theorem we5 (A : Option Addr) (c : Nat) : (de 0#64 (Rs.got ⟨A, 3, c, [1#8, 2#8, 3#8], 0⟩ 2)).setWidth 16 = 258#16 := by
  rw [Rs.got, if_pos (Rs.may_ok rfl (by dsimp only; omega))]; dsimp only; decide
theorem we6 (A : Option Addr) (c : Nat) : (Rs.adv ⟨A, 3, c, [1#8, 2#8, 3#8], 0⟩ 2) = ⟨cutA A c 2 1, 1, c - 2, [3#8], 0⟩ := Rs.adv_ok rfl (by dsimp only; omega)
theorem we7 (A : Option Addr) (c : Nat) : (de 0#64 (Rs.got ⟨A, 1, c, [3#8], 0⟩ 2)).setWidth 16 = 0#16 := by
  rw [Rs.got, if_neg (by rw [Rs.may_short (by dsimp only; omega)]; simp)]; decide
theorem we8 (A : Option Addr) (c : Nat) : (Rs.adv ⟨A, 1, c, [3#8], 0⟩ 2) = ⟨A, 1, c, [3#8], 20⟩ := Rs.adv_short rfl (by dsimp only; omega)
theorem we9 (A : Option Addr) (c : Nat) : Rs.textN ⟨A, 3, c, [0#8, 5#8, 97#8], 0⟩ = 5 := by
  rw [Rs.textN, Rs.got, if_pos (Rs.may_ok rfl (by dsimp only; omega))]; dsimp only; decide
theorem we10 (A : Option Addr) (c : Nat) : Rs.text ⟨A, 3, c, [0#8, 5#8, 97#8], 0⟩ = [] := by
  rw [Rs.text, we9, Rs.adv_ok rfl (by dsimp only; omega), Rs.got, if_neg (by rw [Rs.may_short (by dsimp only; omega)]; simp)]
theorem we11 (A : Option Addr) (c : Nat) : Rs.textTo ⟨A, 3, c, [0#8, 5#8, 97#8], 0⟩ = ⟨A, 3, c, [0#8, 5#8, 97#8], 20⟩ := by
  rw [Rs.textTo, we9, Rs.adv_ok rfl (by dsimp only; omega), if_neg (by rw [Rs.may_short (by dsimp only; omega)]; simp), Rs.adv_short rfl (by dsimp only; omega)]
theorem we12 : be 2 ((258#16).setWidth 64) = [1#8, 2#8] := by decide
theorem we13 : be 8 (BitVec.ofInt 64 (-2)) = [255#8, 255#8, 255#8, 255#8, 255#8, 255#8, 255#8, 254#8] := by decide
theorem we14 : txt [97#8, 98#8] = [0#8, 2#8, 97#8, 98#8] := by decide
end Go.Proofs.YtmochicneilhhaaGreat.pk
namespace Go.Proofs.YtmochicneilhhaaGreat.pk
open Go.RowKit Go.Proofs.YtmochicneilhhaaGreat.kit
theorem dn_inj : ∀ (l m : List B8) (a b : Nat), l.length = m.length → dn a l = dn b m → a = b ∧ l = m
  | [], [], _, _, _, h => ⟨h, rfl⟩
  | c :: l, d :: m, a, b, hl, h => by
    obtain ⟨h1, h2⟩ := dn_inj l m (a * 256 + c.toNat) (b * 256 + d.toNat) (by simpa using hl) h
    have hc := c.isLt
    have hd := d.isLt
    have e : c.toNat = d.toNat := by omega
    exact ⟨by omega, by rw [BitVec.eq_of_toNat_eq e, h2]⟩
theorem be_de (l : List B8) (hl : l.length ≤ 8) : be l.length (de 0#64 l) = l := by
  refine (dn_inj _ _ 0 0 (be_len _ _) ?_).2
  have h1 := dn_lt l 0
  have hp : (256 : Nat) ^ l.length ≤ 2 ^ 64 := Nat.le_trans (Nat.pow_le_pow_right (by decide) hl) (by decide)
  rw [dn_be, de_dn l 0#64 0 rfl, Nat.zero_mul, Nat.zero_add, Nat.mod_eq_of_lt (a := dn 0 l) (by omega), Nat.mod_eq_of_lt (by omega)]
theorem de_mod (k : Nat) (x : BitVec 64) (hk : k ≤ 8) : (de 0#64 (be k x)).toNat = x.toNat % 256 ^ k := by
  rw [de_dn (be k x) 0#64 0 rfl, dn_be, Nat.zero_mul, Nat.zero_add, Nat.mod_eq_of_lt]
  refine Nat.lt_of_le_of_lt (Nat.mod_le _ _) x.isLt
theorem de_w (k w : Nat) (x : BitVec 64) (hk : k ≤ 8) (hw : 256 ^ k = 2 ^ w) : (de 0#64 (be k x)).setWidth w = x.setWidth w := by
  apply BitVec.eq_of_toNat_eq
  rw [BitVec.toNat_setWidth, BitVec.toNat_setWidth, de_mod k x hk, hw, Nat.mod_mod]
theorem de_8 (x : BitVec 64) : de 0#64 (be 8 x) = x := by
  apply BitVec.eq_of_toNat_eq
  rw [de_mod 8 x (Nat.le_refl _), Nat.mod_eq_of_lt (Nat.lt_of_lt_of_le x.isLt (by decide))]
theorem de2_len (g : List B8) (hg : g.length ≤ 65535) : (de 0#64 (be 2 (BitVec.ofNat 64 g.length))).toNat = g.length := by
  rw [de_mod 2 _ (by decide), BitVec.toNat_ofNat]
  have : (256 : Nat) ^ 2 = 65536 := rfl
  rw [this]
  omega
theorem rTake_put {l g rest : List B8} {at' k : Nat} (hd : l.drop at' = g ++ rest) (hg : g.length = k) (hat : at' ≤ l.length) : rTake l at' false k = (de 0#64 g, at' + k, false) ∧ l.drop (at' + k) = rest ∧ at' + k ≤ l.length := by
  have hlen : l.length - at' = g.length + rest.length := by rw [← List.length_drop, hd, List.length_append]
  refine ⟨by rw [rTake, if_neg (by simp; omega), hd, ← hg, List.take_left], by rw [← List.drop_drop, hd, ← hg, List.drop_left], by omega⟩
theorem rText_put {l s rest : List B8} {at' : Nat} (hd : l.drop at' = txt s ++ rest) (hs : s.length ≤ 65535) (hat : at' ≤ l.length) : rText l at' false = (s, at' + (txt s).length, false) ∧ l.drop (at' + (txt s).length) = rest ∧ at' + (txt s).length ≤ l.length := by
  have ht := txt_len s
  rw [txt, List.append_assoc] at hd
  obtain ⟨e1, d1, h1⟩ := rTake_put hd (be_len _ _) hat
  have e2 := de2_len s hs
  have hlen : l.length - (at' + 2) = s.length + rest.length := by rw [← List.length_drop, d1, List.length_append]
  rw [ht, ← Nat.add_assoc]
  refine ⟨?_, by rw [← List.drop_drop, d1, List.drop_left], by omega⟩
  rw [rText, e1]
  dsimp only
  rw [e2, if_neg (by simp; omega), d1, List.take_left]
theorem rTake_true (l : List B8) (at' k : Nat) : rTake l at' true k = (0#64, at', true) := by rw [rTake, if_pos (.inl rfl)]
theorem rTake_f {l : List B8} {at' k : Nat} {f : Bool} (h : (rTake l at' f k).2.2 = false) : f = false := by
  cases f
  · rfl
  · rw [rTake_true] at h; cases h
theorem rTake_got {l : List B8} {at' k : Nat} (h : (rTake l at' false k).2.2 = false) (hk : k ≤ 8) : l.drop at' = be k (rTake l at' false k).1 ++ l.drop (rTake l at' false k).2.1 ∧ (rTake l at' false k).2.1 = at' + k ∧ at' + k ≤ l.length := by
  unfold rTake at h ⊢
  split at h
  · cases h
  · rename_i hc
    rw [not_or] at hc
    rw [if_neg (by simpa using hc.2)]
    dsimp only
    have e : ((l.drop at').take k).length = k := by rw [List.length_take, List.length_drop]; omega
    have hb := be_de ((l.drop at').take k) (by omega)
    rw [e] at hb
    refine ⟨?_, rfl, by omega⟩
    rw [hb, ← List.drop_drop, List.take_append_drop]
theorem rText_f {l : List B8} {at' : Nat} {f : Bool} (h : (rText l at' f).2.2 = false) : f = false := by
  unfold rText at h
  split at h
  · cases h
  · rename_i hc
    rw [not_or] at hc
    exact rTake_f (by simpa using hc.1)
theorem rText_got {l : List B8} {at' : Nat} (h : (rText l at' false).2.2 = false) : l.drop at' = txt (rText l at' false).1 ++ l.drop (rText l at' false).2.1 ∧ (rText l at' false).2.1 = at' + (txt (rText l at' false).1).length ∧ (rText l at' false).2.1 ≤ l.length ∧ (rText l at' false).1.length ≤ 65535 := by
  unfold rText at h ⊢
  split at h
  · cases h
  · rename_i hc
    rw [not_or] at hc
    have h2 : (rTake l at' false 2).2.2 = false := by simpa using hc.1
    obtain ⟨d, e, hle⟩ := rTake_got h2 (by decide)
    rw [if_neg (by simpa using hc)]
    dsimp only
    have hN : (rTake l at' false 2).1.toNat < 65536 := by
      have h3 : rTake l at' false 2 = (de 0#64 ((l.drop at').take 2), at' + 2, false) := by rw [rTake, if_neg (by simp; omega)]
      rw [h3]
      refine Nat.lt_of_lt_of_le (de_lt _) (Nat.le_trans (Nat.pow_le_pow_right (by decide) (List.length_take_le ..)) (by decide))
    have el : ((l.drop (rTake l at' false 2).2.1).take (rTake l at' false 2).1.toNat).length = (rTake l at' false 2).1.toNat := by rw [List.length_take, List.length_drop]; omega
    rw [txt_len, el]
    refine ⟨?_, by omega, by omega, by omega⟩
    rw [txt, el, BitVec.ofNat_toNat, BitVec.setWidth_eq, List.append_assoc, ← List.drop_drop (i := (rTake l at' false 2).1.toNat), List.take_append_drop]
    exact d
end Go.Proofs.YtmochicneilhhaaGreat.pk
