/- packed numbers and texts: PackBack, plainly, and a step of each reader. -/
import Derived.Test.YtbcfikoonbfehaaPte
namespace Go.Proofs.Ytbcfikoonbfehaa.pk
open Go.RowKit Go.Proofs.Ytbcfikoonbfehaa.kit
/-- the five ways of a number -/
def numB (x : BitVec 64) : List B8 := be 1 x ++ (be 2 x ++ (be 4 x ++ (be 8 x ++ be 8 x)))
def nums (zs : List (BitVec 64)) : List B8 := zs.flatMap numB
def txts (ss : List (List B8)) : List B8 := ss.flatMap txt
theorem nums_cons (x : BitVec 64) (zs : List (BitVec 64)) : nums (x :: zs) = numB x ++ nums zs := rfl
theorem txts_cons (s : List B8) (ss : List (List B8)) : txts (s :: ss) = txt s ++ txts ss := rfl
theorem nums_take {zs : List (BitVec 64)} {i : Nat} {x : BitVec 64} (h : zs[i]? = some x) : nums (zs.take (i + 1)) = nums (zs.take i) ++ numB x := by
  rw [List.take_add_one, h, nums, List.flatMap_append]
  simp [nums]
theorem txts_take {ss : List (List B8)} {i : Nat} {s : List B8} (h : ss[i]? = some s) : txts (ss.take (i + 1)) = txts (ss.take i) ++ txt s := by
  rw [List.take_add_one, h, txts, List.flatMap_append]
  simp [txts]
theorem drop_get {α : Type} {l : List α} {i : Nat} {x : α} (h : l[i]? = some x) : l.drop i = x :: l.drop (i + 1) := by
  have hlt := (List.getElem?_eq_some_iff.1 h).1
  have hx := (List.getElem?_eq_some_iff.1 h).2
  rw [List.drop_eq_getElem_cons hlt, hx]
theorem numB_len (x : BitVec 64) : (numB x).length = 23 := by simp only [numB, List.length_append, be_len]
theorem nums_len (zs : List (BitVec 64)) : (nums zs).length = 23 * zs.length := by
  induction zs with
  | nil => rfl
  | cons x zs ih => rw [nums_cons, List.length_append, numB_len, ih, List.length_cons]; omega
theorem txts_le (ss : List (List B8)) (h : ∀ s ∈ ss, s.length ≤ 300) : (txts ss).length ≤ 302 * ss.length := by
  induction ss with
  | nil => exact Nat.zero_le _
  | cons s ss ih =>
    have h1 := h s (List.mem_cons_self ..)
    have h2 := ih fun x hx => h x (List.mem_cons_of_mem _ hx)
    rw [txts_cons, List.length_append, txt_len, List.length_cons]
    omega
/-- one thing taken where it was put -/
theorem Rel.step {l g rest : List B8} {r : Rs} {at' k : Nat} (h : Rel l r at' false) (hd : l.drop at' = g ++ rest) (hg : g.length = k) : r.got k = g ∧ Rel l (r.adv k) (at' + k) false ∧ l.drop (at' + k) = rest := by
  have hn := h.n
  have hlen : l.length - at' = g.length + rest.length := by rw [← List.length_drop, hd, List.length_append]
  have he : r.e = 0 := h.err
  have hk : k ≤ r.n := by omega
  have hdr : l.drop (at' + k) = rest := by rw [← List.drop_drop, hd, ← hg, List.drop_left]
  refine ⟨by rw [Rs.got, if_pos (Rs.may_ok he hk), h.left, hd, ← hg, List.take_left], ⟨h.ok.adv k, ?_, by have := h.le; omega, ?_⟩, hdr⟩
  · rw [Rs.adv_ok he hk]
    dsimp only
    rw [h.left, List.drop_drop]
  · rw [Rs.adv_ok he hk]
    rfl
theorem de_mod (k : Nat) (x : BitVec 64) (hk : k ≤ 8) : (de 0#64 (be k x)).toNat = x.toNat % 256 ^ k := by
  rw [de_dn (be k x) 0#64 0 rfl, dn_be, Nat.zero_mul, Nat.zero_add, Nat.mod_eq_of_lt]
  refine Nat.lt_of_le_of_lt (Nat.mod_le _ _) x.isLt
theorem de_w (k w : Nat) (x : BitVec 64) (hk : k ≤ 8) (hw : 256 ^ k = 2 ^ w) : (de 0#64 (be k x)).setWidth w = x.setWidth w := by
  apply BitVec.eq_of_toNat_eq
  rw [BitVec.toNat_setWidth, BitVec.toNat_setWidth, de_mod k x hk, hw, Nat.mod_mod]
theorem de_8 (x : BitVec 64) : de 0#64 (be 8 x) = x := by
  apply BitVec.eq_of_toNat_eq
  rw [de_mod 8 x (Nat.le_refl _), Nat.mod_eq_of_lt (Nat.lt_of_lt_of_le x.isLt (by decide))]
theorem be2_len (g : List B8) (hg : g.length ≤ 65535) : (de 0#64 (be 2 (BitVec.ofNat 64 g.length))).toNat = g.length := by
  rw [de_mod 2 _ (by decide), BitVec.toNat_ofNat]
  have : (256 : Nat) ^ 2 = 65536 := rfl
  rw [this]
  omega
theorem Rel.stepText {l g rest : List B8} {r : Rs} {at' : Nat} (h : Rel l r at' false) (hd : l.drop at' = txt g ++ rest) (hg : g.length ≤ 65535) : r.text = g ∧ Rel l r.textTo (at' + 2 + g.length) false ∧ l.drop (at' + 2 + g.length) = rest := by
  rw [txt, List.append_assoc] at hd
  obtain ⟨e1, r1, d1⟩ := h.step hd (be_len _ _)
  have hN : r.textN = g.length := by rw [r.textN_eq, e1, be2_len g hg]
  obtain ⟨e2, r2, d2⟩ := r1.step d1 (show g.length = r.textN from hN.symm)
  have hn := r1.n
  have hlen : l.length - (at' + 2) = g.length + rest.length := by rw [← List.length_drop, d1, List.length_append]
  have hm : (r.adv 2).may r.textN = true := Rs.may_ok r1.err (by omega)
  refine ⟨e2, ?_, by rw [← hN]; exact d2⟩
  rw [Rs.textTo, if_pos hm, ← hN]
  exact r2
/-- the other reader, of bytes of which the last one lacks -/
structure Syn (W : List B8) (r : Rs) (at' : Nat) : Prop where
  rel : ∃ a f, Rel (W.take (W.length - 1)) r a f ∧ (f = false → a = at')
theorem Syn.num {W : List B8} {r : Rs} {at' : Nat} (h : Syn W r at') (k : Nat) : Syn W (r.adv k) (at' + k) := by
  obtain ⟨a, f, h1, h2⟩ := h.rel
  refine ⟨_, _, (h1.num k).1, fun hf => ?_⟩
  have h3 := rTake_at (W.take (W.length - 1)) a f k
  have h4 : f = false := by
    cases f with
    | false => rfl
    | true =>
      rw [rTake, if_pos (.inl rfl)] at hf
      cases hf
  rw [(h3.2.2 hf).2, h2 h4]
theorem Syn.text {W g rest : List B8} {r : Rs} {at' : Nat} (h : Syn W r at') (hd : W.drop at' = txt g ++ rest) (hg : g.length ≤ 65535) : Syn W r.textTo (at' + 2 + g.length) := by
  obtain ⟨a, f, h1, h2⟩ := h.rel
  refine ⟨_, _, h1.text.1, fun hf => ?_⟩
  have h3 := rTake_at (W.take (W.length - 1)) a f 2
  unfold rText at hf ⊢
  split at hf
  · cases hf
  · rename_i hc
    rw [not_or] at hc
    rw [if_neg (not_or.2 hc)]
    have hf2 : (rTake (W.take (W.length - 1)) a f 2).2.2 = false := by simpa using hc.1
    have h4 : f = false := by
      cases f with
      | false => rfl
      | true =>
        rw [rTake, if_pos (.inl rfl)] at hf2
        cases hf2
    obtain ⟨k1, k2⟩ := h3.2.2 hf2
    have ha := h2 h4
    subst ha h4
    dsimp only
    rw [k2]
    have e1 : (rTake (W.take (W.length - 1)) a false 2).1 = de 0#64 (be 2 (BitVec.ofNat 64 g.length)) := by
      rw [rTake, if_neg (by simp; rw [List.length_take] at k1; omega)]
      dsimp only
      congr 1
      have : ((W.take (W.length - 1)).drop a).take 2 = (W.drop a).take 2 := by
        rw [List.drop_take, List.take_take, Nat.min_eq_left (by rw [List.length_take] at k1; omega)]
      rw [this, hd, txt, List.append_assoc, List.take_append_of_le_length (by rw [be_len]; omega), List.take_of_length_le (by rw [be_len]; omega)]
    rw [e1, be2_len g hg]
theorem Syn.last {W : List B8} {r : Rs} {at' : Nat} (h : Syn W r at') (ha : W.drop at' = []) (hw : W ≠ []) : r.e = 20 := by
  obtain ⟨a, f, h1, h2⟩ := h.rel
  have hlen : W.length ≤ at' := by
    have := congrArg List.length ha
    rw [List.length_drop] at this
    simp at this
    omega
  cases f with
  | true => exact h1.err
  | false =>
    have := h1.le
    rw [h2 rfl, List.length_take] at this
    have : W.length ≠ 0 := fun h0 => hw (List.eq_nil_of_length_eq_zero h0)
    omega
/-- numbers stand as their bytes do -/
theorem ltB_be : ∀ (k : Nat) (x y : BitVec 64), ltB (be k x) (be k y) = decide (x.toNat % 256 ^ k < y.toNat % 256 ^ k)
  | 0, x, y => by simp [be, ltB, Nat.mod_one]
  | k + 1, x, y => by
    have ih := ltB_be k x y
    rw [be, be, ltB, ih]
    have e : (2 : Nat) ^ (8 * k) = 256 ^ k := by rw [Nat.pow_mul]
    have e2 : (256 : Nat) ^ (k + 1) = 256 ^ k * 256 := Nat.pow_succ ..
    have hx : ((x >>> (8 * k)).setWidth 8).toNat = x.toNat / 256 ^ k % 256 := by rw [BitVec.toNat_setWidth, BitVec.toNat_ushiftRight, Nat.shiftRight_eq_div_pow, e]
    have hy : ((y >>> (8 * k)).setWidth 8).toNat = y.toNat / 256 ^ k % 256 := by rw [BitVec.toNat_setWidth, BitVec.toNat_ushiftRight, Nat.shiftRight_eq_div_pow, e]
    have mx : x.toNat % (256 ^ k * 256) = x.toNat % 256 ^ k + 256 ^ k * (x.toNat / 256 ^ k % 256) := Nat.mod_mul
    have my : y.toNat % (256 ^ k * 256) = y.toNat % 256 ^ k + 256 ^ k * (y.toNat / 256 ^ k % 256) := Nat.mod_mul
    rw [e2, mx, my, hx, hy]
    have hp : 0 < 256 ^ k := Nat.pow_pos (by decide)
    have bx := Nat.mod_lt x.toNat hp
    have by' := Nat.mod_lt y.toNat hp
    generalize x.toNat % 256 ^ k = a at bx ⊢
    generalize y.toNat % 256 ^ k = b at by' ⊢
    have hab : ((x >>> (8 * k)).setWidth 8 = (y >>> (8 * k)).setWidth 8) ↔ x.toNat / 256 ^ k % 256 = y.toNat / 256 ^ k % 256 := by
      rw [← hx, ← hy]
      exact ⟨fun h => by rw [h], fun h => BitVec.eq_of_toNat_eq h⟩
    generalize x.toNat / 256 ^ k % 256 = u at hab ⊢
    generalize y.toNat / 256 ^ k % 256 = v at hab ⊢
    generalize (256 : Nat) ^ k = p at bx by' ⊢
    by_cases huv : u = v
    · rw [if_pos (hab.2 huv), huv]
      congr 1
      rw [Nat.add_lt_add_iff_right]
    · rw [if_neg (fun h => huv (hab.1 h))]
      rw [decide_eq_decide]
      rcases Nat.lt_or_gt_of_ne huv with h | h
      · have := Nat.mul_le_mul_left p (show u + 1 ≤ v by omega)
        rw [Nat.mul_add, Nat.mul_one] at this
        constructor <;> intro _ <;> omega
      · have := Nat.mul_le_mul_left p (show v + 1 ≤ u by omega)
        rw [Nat.mul_add, Nat.mul_one] at this
        constructor <;> intro _ <;> omega
theorem order_be (x y : BitVec 64) : (decide ((x.toNat : Int) < (y.toNat : Int)) == ltB (be 8 x) (be 8 y)) = true := by
  have e : (256 : Nat) ^ 8 = 2 ^ 64 := by decide
  rw [ltB_be, e, Nat.mod_eq_of_lt x.isLt, Nat.mod_eq_of_lt y.isLt, beq_iff_eq, decide_eq_decide]
  omega
attribute [local irreducible] LX CX Yl Gives RetIs Fn
attribute [local irreducible] be de
theorem u8_at (b : Nat) {l rest : List B8} {r : Rs} {at' : Nat} (x : BitVec 64) (h : Rel l r at' false) (hd : l.drop at' = be 1 x ++ rest) : ∃ r', Der r r' ∧ Rel l r' (at' + 1) false ∧ l.drop (at' + 1) = rest ∧ Fn Try.prog 33 [.pointer (some ⟨b, 0, none⟩)] [r.blk b, r.ro] [b] fun v Lo => v = .int .u8 (x.setWidth 8).toNat ∧ Lo = [r'.blk b] := by
  obtain ⟨e, h2, d2⟩ := h.step hd (be_len _ _)
  have hf := u8_fn b r h.ok
  rw [e, de_w 1 8 x (by decide) (by decide)] at hf
  exact ⟨_, h.ok.der 1, h2, d2, hf⟩
theorem u16_at (b : Nat) {l rest : List B8} {r : Rs} {at' : Nat} (x : BitVec 64) (h : Rel l r at' false) (hd : l.drop at' = be 2 x ++ rest) : ∃ r', Der r r' ∧ Rel l r' (at' + 2) false ∧ l.drop (at' + 2) = rest ∧ Fn Try.prog 34 [.pointer (some ⟨b, 0, none⟩)] [r.blk b, r.ro] [b] fun v Lo => v = .int .u16 (x.setWidth 16).toNat ∧ Lo = [r'.blk b] := by
  obtain ⟨e, h2, d2⟩ := h.step hd (be_len _ _)
  have hf := u16_fn b r h.ok
  rw [e, de_w 2 16 x (by decide) (by decide)] at hf
  exact ⟨_, h.ok.der 2, h2, d2, hf⟩
theorem u32_at (b : Nat) {l rest : List B8} {r : Rs} {at' : Nat} (x : BitVec 64) (h : Rel l r at' false) (hd : l.drop at' = be 4 x ++ rest) : ∃ r', Der r r' ∧ Rel l r' (at' + 4) false ∧ l.drop (at' + 4) = rest ∧ Fn Try.prog 35 [.pointer (some ⟨b, 0, none⟩)] [r.blk b, r.ro] [b] fun v Lo => v = .int .u32 (x.setWidth 32).toNat ∧ Lo = [r'.blk b] := by
  obtain ⟨e, h2, d2⟩ := h.step hd (be_len _ _)
  have hf := u32_fn b r h.ok
  rw [e, de_w 4 32 x (by decide) (by decide)] at hf
  exact ⟨_, h.ok.der 4, h2, d2, hf⟩
theorem u64_at (b : Nat) {l rest : List B8} {r : Rs} {at' : Nat} (x : BitVec 64) (h : Rel l r at' false) (hd : l.drop at' = be 8 x ++ rest) : ∃ r', Der r r' ∧ Rel l r' (at' + 8) false ∧ l.drop (at' + 8) = rest ∧ Fn Try.prog 36 [.pointer (some ⟨b, 0, none⟩)] [r.blk b, r.ro] [b] fun v Lo => v = .int .u64 x.toNat ∧ Lo = [r'.blk b] := by
  obtain ⟨e, h2, d2⟩ := h.step hd (be_len _ _)
  have hf := u64_fn b r h.ok
  rw [e, de_8 x] at hf
  exact ⟨_, h.ok.der 8, h2, d2, hf⟩
theorem int_at (b : Nat) {l rest : List B8} {r : Rs} {at' : Nat} (x : BitVec 64) (h : Rel l r at' false) (hd : l.drop at' = be 8 x ++ rest) : ∃ r', Der r r' ∧ Rel l r' (at' + 8) false ∧ l.drop (at' + 8) = rest ∧ Fn Try.prog 37 [.pointer (some ⟨b, 0, none⟩)] [r.blk b, r.ro] [b] fun v Lo => v = .int .i64 x.toInt ∧ Lo = [r'.blk b] := by
  obtain ⟨e, h2, d2⟩ := h.step hd (be_len _ _)
  have hf := int_fn b r h.ok
  rw [e, de_8 x] at hf
  exact ⟨_, h.ok.der 8, h2, d2, hf⟩
theorem text_at (b : Nat) {l g rest : List B8} {r : Rs} {at' : Nat} (h : Rel l r at' false) (hd : l.drop at' = txt g ++ rest) (hg : g.length ≤ 65535) : ∃ r', Der r r' ∧ Rel l r' (at' + 2 + g.length) false ∧ l.drop (at' + 2 + g.length) = rest ∧ Fn Try.prog 38 [.pointer (some ⟨b, 0, none⟩)] [r.blk b, r.ro] [b] fun v Lo => v = .string (sb g) ∧ Lo = [r'.blk b] := by
  obtain ⟨e, h2, d2⟩ := h.stepText hd hg
  have hf := text_fn b r h.ok
  rw [e] at hf
  exact ⟨_, h.ok.derText, h2, d2, hf⟩
theorem Syn.ok {W : List B8} {r : Rs} {at' : Nat} (h : Syn W r at') : r.Ok := by
  obtain ⟨a, f, h1, _⟩ := h.rel
  exact h1.ok
theorem sU8_at (b : Nat) {W : List B8} {r : Rs} {at' : Nat} (h : Syn W r at') : ∃ r', Der r r' ∧ Syn W r' (at' + 1) ∧ Fn Try.prog 33 [.pointer (some ⟨b, 0, none⟩)] [r.blk b, r.ro] [b] fun _ Lo => Lo = [r'.blk b] :=
  ⟨_, h.ok.der 1, h.num 1, (u8_fn b r h.ok).mono fun _ _ h => h.2⟩
theorem sU16_at (b : Nat) {W : List B8} {r : Rs} {at' : Nat} (h : Syn W r at') : ∃ r', Der r r' ∧ Syn W r' (at' + 2) ∧ Fn Try.prog 34 [.pointer (some ⟨b, 0, none⟩)] [r.blk b, r.ro] [b] fun _ Lo => Lo = [r'.blk b] :=
  ⟨_, h.ok.der 2, h.num 2, (u16_fn b r h.ok).mono fun _ _ h => h.2⟩
theorem sU32_at (b : Nat) {W : List B8} {r : Rs} {at' : Nat} (h : Syn W r at') : ∃ r', Der r r' ∧ Syn W r' (at' + 4) ∧ Fn Try.prog 35 [.pointer (some ⟨b, 0, none⟩)] [r.blk b, r.ro] [b] fun _ Lo => Lo = [r'.blk b] :=
  ⟨_, h.ok.der 4, h.num 4, (u32_fn b r h.ok).mono fun _ _ h => h.2⟩
theorem sU64_at (b : Nat) {W : List B8} {r : Rs} {at' : Nat} (h : Syn W r at') : ∃ r', Der r r' ∧ Syn W r' (at' + 8) ∧ Fn Try.prog 36 [.pointer (some ⟨b, 0, none⟩)] [r.blk b, r.ro] [b] fun _ Lo => Lo = [r'.blk b] :=
  ⟨_, h.ok.der 8, h.num 8, (u64_fn b r h.ok).mono fun _ _ h => h.2⟩
theorem sInt_at (b : Nat) {W : List B8} {r : Rs} {at' : Nat} (h : Syn W r at') : ∃ r', Der r r' ∧ Syn W r' (at' + 8) ∧ Fn Try.prog 37 [.pointer (some ⟨b, 0, none⟩)] [r.blk b, r.ro] [b] fun _ Lo => Lo = [r'.blk b] :=
  ⟨_, h.ok.der 8, h.num 8, (int_fn b r h.ok).mono fun _ _ h => h.2⟩
theorem stext_at (b : Nat) {W g rest : List B8} {r : Rs} {at' : Nat} (h : Syn W r at') (hd : W.drop at' = txt g ++ rest) (hg : g.length ≤ 65535) : ∃ r', Der r r' ∧ Syn W r' (at' + 2 + g.length) ∧ Fn Try.prog 38 [.pointer (some ⟨b, 0, none⟩)] [r.blk b, r.ro] [b] fun _ Lo => Lo = [r'.blk b] :=
  ⟨_, h.ok.derText, h.text hd hg, (text_fn b r h.ok).mono fun _ _ h => h.2⟩
end Go.Proofs.Ytbcfikoonbfehaa.pk
