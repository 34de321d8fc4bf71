/- keys: numbers and their bytes (as in the chapter of packed numbers, without its walks); keys: rows of parts and the texts that write them, in plain lists; keys: how parts, rows and texts stand, in plain lists. -/
import Derived.Test.YthmdiopbiiimeaaDoorPk
namespace Go.Proofs.YthmdiopbiiimeaaDoor.ky
open Go.RowKit Go.Proofs.YthmdiopbiiimeaaDoor.pk
theorem dn_lt : ∀ (l : List B8) (n : Nat), dn n l < (n + 1) * 256 ^ l.length
  | [], n => by show n < _; simp
  | c :: l, n => by
    have h := dn_lt l (n * 256 + c.toNat)
    have hc := c.isLt
    refine Nat.lt_of_lt_of_le h ?_
    rw [List.length_cons, Nat.pow_succ, Nat.mul_comm (256 ^ l.length) 256, ← Nat.mul_assoc]
    exact Nat.mul_le_mul_right _ (by omega)
theorem de_lt (l : List B8) : (de 0#64 l).toNat < 256 ^ l.length := by
  rw [de_dn l 0#64 0 rfl]
  have := dn_lt l 0
  rw [Nat.zero_add, Nat.one_mul] at this
  exact Nat.lt_of_le_of_lt (Nat.mod_le _ _) this
theorem dn_inj : ∀ (l m : List B8) (a b : Nat), l.length = m.length → dn a l = dn b m → a = b ∧ l = m
  | [], [], _, _, _, h => ⟨h, rfl⟩
  | c :: l, d :: m, a, b, hl, h => by
    obtain ⟨h1, h2⟩ := dn_inj l m (a * 256 + c.toNat) (b * 256 + d.toNat) (by simpa using hl) h
    have hc := c.isLt
    have hd := d.isLt
    have e : c.toNat = d.toNat := by omega
    exact ⟨by omega, by rw [BitVec.eq_of_toNat_eq e, h2]⟩
theorem be_de (l : List B8) (hl : l.length ≤ 8) : be l.length (de 0#64 l) = l := by
  refine (dn_inj _ _ 0 0 (be_len _ _) ?_).2
  have h1 := dn_lt l 0
  have hp : (256 : Nat) ^ l.length ≤ 2 ^ 64 := Nat.le_trans (Nat.pow_le_pow_right (by decide) hl) (by decide)
  rw [dn_be, de_dn l 0#64 0 rfl, Nat.zero_mul, Nat.zero_add, Nat.mod_eq_of_lt (a := dn 0 l) (by omega), Nat.mod_eq_of_lt (by omega)]
/-- numbers stand as their bytes do -/
theorem ltB_be : ∀ (k : Nat) (x y : BitVec 64), ltB (be k x) (be k y) = decide (x.toNat % 256 ^ k < y.toNat % 256 ^ k)
  | 0, x, y => by simp [be, ltB, Nat.mod_one]
  | k + 1, x, y => by
    have ih := ltB_be k x y
    rw [be, be, ltB, ih]
    have e : (2 : Nat) ^ (8 * k) = 256 ^ k := by rw [Nat.pow_mul]
    have e2 : (256 : Nat) ^ (k + 1) = 256 ^ k * 256 := Nat.pow_succ ..
    have hx : ((x >>> (8 * k)).setWidth 8).toNat = x.toNat / 256 ^ k % 256 := by rw [BitVec.toNat_setWidth, BitVec.toNat_ushiftRight, Nat.shiftRight_eq_div_pow, e]
    have hy : ((y >>> (8 * k)).setWidth 8).toNat = y.toNat / 256 ^ k % 256 := by rw [BitVec.toNat_setWidth, BitVec.toNat_ushiftRight, Nat.shiftRight_eq_div_pow, e]
    have mx : x.toNat % (256 ^ k * 256) = x.toNat % 256 ^ k + 256 ^ k * (x.toNat / 256 ^ k % 256) := Nat.mod_mul
    have my : y.toNat % (256 ^ k * 256) = y.toNat % 256 ^ k + 256 ^ k * (y.toNat / 256 ^ k % 256) := Nat.mod_mul
    rw [e2, mx, my, hx, hy]
    have hp : 0 < 256 ^ k := Nat.pow_pos (by decide)
    have bx := Nat.mod_lt x.toNat hp
    have by' := Nat.mod_lt y.toNat hp
    generalize x.toNat % 256 ^ k = a at bx ⊢
    generalize y.toNat % 256 ^ k = b at by' ⊢
    have hab : ((x >>> (8 * k)).setWidth 8 = (y >>> (8 * k)).setWidth 8) ↔ x.toNat / 256 ^ k % 256 = y.toNat / 256 ^ k % 256 := by
      rw [← hx, ← hy]
      exact ⟨fun h => by rw [h], fun h => BitVec.eq_of_toNat_eq h⟩
    generalize x.toNat / 256 ^ k % 256 = u at hab ⊢
    generalize y.toNat / 256 ^ k % 256 = v at hab ⊢
    generalize (256 : Nat) ^ k = p at bx by' ⊢
    by_cases huv : u = v
    · rw [if_pos (hab.2 huv), huv]
      congr 1
      rw [Nat.add_lt_add_iff_right]
    · rw [if_neg (fun h => huv (hab.1 h))]
      rw [decide_eq_decide]
      rcases Nat.lt_or_gt_of_ne huv with h | h
      · have := Nat.mul_le_mul_left p (show u + 1 ≤ v by omega)
        rw [Nat.mul_add, Nat.mul_one] at this
        constructor <;> intro _ <;> omega
      · have := Nat.mul_le_mul_left p (show v + 1 ≤ u by omega)
        rw [Nat.mul_add, Nat.mul_one] at this
        constructor <;> intro _ <;> omega
theorem order_be (x y : BitVec 64) : (decide ((x.toNat : Int) < (y.toNat : Int)) == ltB (be 8 x) (be 8 y)) = true := by
  have e : (256 : Nat) ^ 8 = 2 ^ 64 := by decide
  rw [ltB_be, e, Nat.mod_eq_of_lt x.isLt, Nat.mod_eq_of_lt y.isLt, beq_iff_eq, decide_eq_decide]
  omega
end Go.Proofs.YthmdiopbiiimeaaDoor.ky
namespace Go.Proofs.YthmdiopbiiimeaaDoor.ky
open Go.RowKit Go.Proofs.YthmdiopbiiimeaaDoor.pk
structure KP where
  k : B8
  n : Int
  s : List B8
def esc : List B8 → List B8
  | [] => []
  | x :: l => if x = 0#8 then 0#8 :: 255#8 :: esc l else x :: esc l
abbrev hi64 : BitVec 64 := 9223372036854775808#64
def turn (n : Int) : BitVec 64 := BitVec.ofInt 64 n ^^^ hi64
def KP.enc (p : KP) : List B8 := if p.k = 1#8 then be 8 (turn p.n) else esc p.s ++ [0#8, 0#8]
def encs (l : List KP) : List B8 := l.flatMap KP.enc
theorem encs_take {l : List KP} {i : Nat} {p : KP} (h : l[i]? = some p) : encs (l.take (i + 1)) = encs (l.take i) ++ p.enc := by
  rw [encs, encs, List.take_add_one, h, List.flatMap_append]
  simp
theorem esc_append (a b : List B8) : esc (a ++ b) = esc a ++ esc b := by
  induction a with
  | nil => rfl
  | cons x a ih =>
    rw [List.cons_append, esc, esc, ih]
    split <;> rfl
theorem esc_le (a : List B8) : (esc a).length ≤ 2 * a.length := by
  induction a with
  | nil => simp [esc]
  | cons x a ih =>
    rw [esc]
    split <;> simp only [List.length_cons] <;> omega
/-- the lowest digit of 2^w more: the highest turned -/
theorem xor_hi (x : BitVec 64) : x ^^^ hi64 = x + hi64 := by
  apply BitVec.eq_of_toNat_eq
  rw [BitVec.toNat_xor, BitVec.toNat_add]
  have h1 : (x.toNat ^^^ 2 ^ 63) / 2 ^ 63 = (x.toNat / 2 ^ 63) ^^^ 1 := by rw [Nat.xor_div_two_pow, Nat.div_self (Nat.two_pow_pos 63)]
  have h2 : (x.toNat ^^^ 2 ^ 63) % 2 ^ 63 = x.toNat % 2 ^ 63 := by rw [Nat.xor_mod_two_pow, Nat.mod_self, Nat.xor_zero]
  have h3 : x.toNat / 2 ^ 63 = 0 ∨ x.toNat / 2 ^ 63 = 1 := by have := x.isLt; omega
  have e : hi64.toNat = 2 ^ 63 := rfl
  rw [e]
  rcases h3 with h3 | h3 <;> rw [h3] at h1
  · have h1 : (x.toNat ^^^ 2 ^ 63) / 2 ^ 63 = 1 := h1
    omega
  · have h1 : (x.toNat ^^^ 2 ^ 63) / 2 ^ 63 = 0 := h1
    omega
theorem xor_hi8 (x : B8) : x ^^^ 128#8 = x + 128#8 := by
  apply BitVec.eq_of_toNat_eq
  rw [BitVec.toNat_xor, BitVec.toNat_add]
  have h1 : (x.toNat ^^^ 2 ^ 7) / 2 ^ 7 = (x.toNat / 2 ^ 7) ^^^ 1 := by rw [Nat.xor_div_two_pow, Nat.div_self (Nat.two_pow_pos 7)]
  have h2 : (x.toNat ^^^ 2 ^ 7) % 2 ^ 7 = x.toNat % 2 ^ 7 := by rw [Nat.xor_mod_two_pow, Nat.mod_self, Nat.xor_zero]
  have h3 : x.toNat / 2 ^ 7 = 0 ∨ x.toNat / 2 ^ 7 = 1 := by have := x.isLt; omega
  have e : (128#8).toNat = 2 ^ 7 := rfl
  rw [e]
  rcases h3 with h3 | h3 <;> rw [h3] at h1
  · have h1 : (x.toNat ^^^ 2 ^ 7) / 2 ^ 7 = 1 := h1
    omega
  · have h1 : (x.toNat ^^^ 2 ^ 7) / 2 ^ 7 = 0 := h1
    omega
theorem sub_hi (x : BitVec 64) : x - hi64 = x + hi64 := by
  apply BitVec.eq_of_toNat_eq
  rw [BitVec.toNat_sub, BitVec.toNat_add]
  have e : hi64.toNat = 2 ^ 63 := rfl
  rw [e]
  have := x.isLt
  omega
theorem sub_hi8 (x : B8) : x - 128#8 = x + 128#8 := by
  apply BitVec.eq_of_toNat_eq
  rw [BitVec.toNat_sub, BitVec.toNat_add]
  have e : (128#8).toNat = 2 ^ 7 := rfl
  rw [e]
  have := x.isLt
  omega
theorem be8_hi (x : BitVec 64) : be 8 (x ^^^ hi64) = ((be 8 x).headD 0#8 + 128#8) :: (be 8 x).tail := by
  apply List.ext_getElem?
  intro i
  have hx := be_len 8 x
  have ht : (be 8 x).tail.length = 7 := by rw [List.length_tail, hx]
  have hh : (be 8 x).headD 0#8 = (x >>> 56).setWidth 8 := by
    have := be_get (k := 8) (i := 0) x (by decide)
    cases hb : be 8 x with
    | nil => rw [hb] at hx; cases hx
    | cons a l =>
      rw [hb] at this
      simpa using this
  match i with
  | 0 =>
    rw [be_get _ (by decide), List.getElem?_cons_zero, hh, ← xor_hi8]
    congr 1
    show ((x ^^^ hi64) >>> 56).setWidth 8 = _
    rw [BitVec.ushiftRight_xor_distrib, BitVec.setWidth_xor]
    rfl
  | i + 1 =>
    rw [List.getElem?_cons_succ, List.getElem?_tail]
    by_cases hi : i + 1 < 8
    · rw [be_get _ hi, be_get _ hi, BitVec.ushiftRight_xor_distrib, BitVec.setWidth_xor]
      have : (hi64 >>> (8 * (8 - 1 - (i + 1)))).setWidth 8 = 0#8 := by
        have : i = 0 ∨ i = 1 ∨ i = 2 ∨ i = 3 ∨ i = 4 ∨ i = 5 ∨ i = 6 := by omega
        rcases this with rfl | rfl | rfl | rfl | rfl | rfl | rfl <;> decide
      rw [this, BitVec.xor_zero]
    · rw [List.getElem?_eq_none (by rw [be_len]; omega), List.getElem?_eq_none (by rw [be_len]; omega)]
abbrev Fit (n : Int) : Prop := -9223372036854775808 ≤ n ∧ n < 9223372036854775808
theorem turn_nat {n : Int} (h : Fit n) : ((turn n).toNat : Int) = n + 9223372036854775808 := by
  obtain ⟨h0, h1⟩ := h
  rw [turn, xor_hi, BitVec.toNat_add, BitVec.toNat_ofInt]
  have e : hi64.toNat = 2 ^ 63 := rfl
  rw [e]
  omega
theorem turn_back {n : Int} (h : Fit n) : (turn n ^^^ hi64).toInt = n := by
  obtain ⟨h0, h1⟩ := h
  rw [turn, BitVec.xor_assoc, BitVec.xor_self, BitVec.xor_zero, BitVec.toInt_ofInt]
  exact Int.bmod_eq_of_le (by omega) (by omega)
/-- a text as the program reads it, and what is left; as the reference does -/
def rdT : List B8 → Option (List B8 × List B8)
  | [] => none
  | [_] => none
  | x :: y :: m => if x = 0#8 then (if y = 0#8 then some ([], m) else if y = 255#8 then (rdT m).map (fun p => (0#8 :: p.1, p.2)) else none) else (rdT (y :: m)).map (fun p => (x :: p.1, p.2))
def ldT : List B8 → Option (List B8 × List B8)
  | [] => none
  | [_] => none
  | x :: y :: m => if x = 0#8 then (if y = 0#8 then some ([], m) else (ldT m).map (fun p => (0#8 :: p.1, p.2))) else (ldT (y :: m)).map (fun p => (x :: p.1, p.2))
theorem esc_ne (a r : List B8) : ∃ y m, esc a ++ 0#8 :: 0#8 :: r = y :: m := by
  cases a with
  | nil => exact ⟨_, _, rfl⟩
  | cons x a =>
    rw [esc]
    split <;> exact ⟨_, _, rfl⟩
theorem rdT_esc (a r : List B8) : rdT (esc a ++ 0#8 :: 0#8 :: r) = some (a, r) := by
  induction a with
  | nil => simp [esc, rdT]
  | cons x a ih =>
    rw [esc]
    by_cases h : x = 0#8
    · rw [if_pos h, List.cons_append, List.cons_append, rdT, if_pos rfl, if_neg (by decide), if_pos rfl, ih, h]
      rfl
    · rw [if_neg h, List.cons_append]
      obtain ⟨y, m, e⟩ := esc_ne a r
      rw [e] at ih ⊢
      rw [rdT, if_neg h, ih]
      rfl
theorem ldT_esc (a r : List B8) : ldT (esc a ++ 0#8 :: 0#8 :: r) = some (a, r) := by
  induction a with
  | nil => simp [esc, ldT]
  | cons x a ih =>
    rw [esc]
    by_cases h : x = 0#8
    · rw [if_pos h, List.cons_append, List.cons_append, ldT, if_pos rfl, if_neg (by decide), ih, h]
      rfl
    · rw [if_neg h, List.cons_append]
      obtain ⟨y, m, e⟩ := esc_ne a r
      rw [e] at ih ⊢
      rw [ldT, if_neg h, ih]
      rfl
theorem rdT_some (l : List B8) : ∀ a r, rdT l = some (a, r) → l = esc a ++ 0#8 :: 0#8 :: r := by
  induction l using rdT.induct with
  | case1 => intro a r h; cases h
  | case2 => intro a r h; cases h
  | case3 m => intro a r h; rw [rdT, if_pos rfl, if_pos rfl] at h; cases h; rfl
  | case4 m _ ih =>
    intro a r h
    rw [rdT, if_pos rfl, if_neg (by decide), if_pos rfl] at h
    cases hm : rdT m with
    | none => rw [hm] at h; cases h
    | some p =>
      obtain ⟨b, t⟩ := p
      rw [hm] at h
      cases h
      rw [ih _ _ hm, esc, if_pos rfl]
      rfl
  | case5 y m h0 h1 => intro a r h; rw [rdT, if_pos rfl, if_neg h0, if_neg h1] at h; cases h
  | case6 x y m h0 ih =>
    intro a r h
    rw [rdT, if_neg h0] at h
    cases hm : rdT (y :: m) with
    | none => rw [hm] at h; cases h
    | some p =>
      obtain ⟨b, t⟩ := p
      rw [hm] at h
      cases h
      rw [ih _ _ hm, esc, if_neg h0]
      rfl
def KP.num (n : Int) : KP := ⟨1#8, n, []⟩
def KP.txt (s : List B8) : KP := ⟨2#8, 0, s⟩
theorem num_enc (n : Int) : (KP.num n).enc = be 8 (turn n) := if_pos rfl
theorem txt_enc (s : List B8) : (KP.txt s).enc = esc s ++ [0#8, 0#8] := if_neg (show ¬ (2#8 : B8) = 1#8 by decide)
def rd1 (k : B8) (l : List B8) : Option (KP × List B8) :=
  if k = 1#8 then (if 8 ≤ l.length then some (KP.num (de 0#64 (l.take 8) ^^^ hi64).toInt, l.drop 8) else none)
  else if k = 2#8 then (rdT l).map (fun p => (KP.txt p.1, p.2)) else none
def ld1 (k : B8) (l : List B8) : Option (KP × List B8) :=
  if k = 1#8 then (if 8 ≤ l.length then some (KP.num (de 0#64 (l.take 8) ^^^ hi64).toInt, l.drop 8) else none)
  else if k = 2#8 then (ldT l).map (fun p => (KP.txt p.1, p.2)) else none
def rdAll : List B8 → List B8 → Option (List KP)
  | [], l => if l = [] then some [] else none
  | k :: ks, l => match rd1 k l with
    | none => none
    | some (p, r) => (rdAll ks r).map (p :: ·)
def ldAll : List B8 → List B8 → Option (List KP)
  | [], _ => some []
  | k :: ks, l => match ld1 k l with
    | none => none
    | some (p, r) => (ldAll ks r).map (p :: ·)
/-- a part as it may be read -/
def KP.Ok (p : KP) : Prop := (∃ n, Fit n ∧ p = KP.num n) ∨ ∃ s, p = KP.txt s
theorem be_de8 (l : List B8) (h : l.length = 8) : be 8 (de 0#64 l) = l := by
  have := be_de l (by omega)
  rwa [h] at this
theorem rd1_some {k : B8} {l r : List B8} {p : KP} (h : rd1 k l = some (p, r)) : l = p.enc ++ r ∧ p.Ok ∧ p.k = k ∧ ld1 k l = some (p, r) := by
  unfold rd1 at h
  unfold ld1
  by_cases h1 : k = 1#8
  · rw [if_pos h1] at h ⊢
    by_cases hl : 8 ≤ l.length
    · rw [if_pos hl] at h ⊢
      cases h
      refine ⟨?_, .inl ⟨_, ⟨by have := BitVec.le_toInt (de 0#64 (l.take 8) ^^^ hi64); omega, by have := BitVec.toInt_lt (x := de 0#64 (l.take 8) ^^^ hi64); omega⟩, rfl⟩, h1.symm, rfl⟩
      rw [num_enc, turn, BitVec.ofInt_toInt, BitVec.xor_assoc, BitVec.xor_self, BitVec.xor_zero, be_de8 _ (by rw [List.length_take]; omega), List.take_append_drop]
    · rw [if_neg hl] at h; cases h
  · rw [if_neg h1] at h ⊢
    by_cases h2 : k = 2#8
    · rw [if_pos h2] at h ⊢
      cases hm : rdT l with
      | none => rw [hm] at h; cases h
      | some q =>
        obtain ⟨a, t⟩ := q
        rw [hm] at h
        cases h
        have e := rdT_some l a t hm
        refine ⟨?_, .inr ⟨_, rfl⟩, h2.symm, ?_⟩
        · rw [txt_enc, e, List.append_assoc]
          rfl
        · rw [e, ldT_esc]
          rfl
    · rw [if_neg h2] at h; cases h
theorem rd1_enc {p : KP} (h : p.Ok) (r : List B8) : rd1 p.k (p.enc ++ r) = some (p, r) := by
  rcases h with ⟨n, hn, rfl⟩ | ⟨s, rfl⟩
  · have hl := be_len 8 (turn n)
    have hk : (KP.num n).k = 1#8 := rfl
    rw [num_enc, hk, rd1, if_pos rfl, if_pos (by rw [List.length_append]; omega)]
    have e8 := List.take_left' (l₂ := r) hl
    have d8 := List.drop_left' (l₂ := r) hl
    rw [e8, d8, de_be 8 _ (by decide) (by have := (turn n).isLt; omega), turn_back hn]
  · have hk : (KP.txt s).k = 2#8 := rfl
    rw [txt_enc, hk, rd1, if_neg (by decide), if_pos rfl, List.append_assoc]
    show (rdT (esc s ++ 0#8 :: 0#8 :: r)).map _ = _
    rw [rdT_esc]
    rfl
theorem rdAll_encs : ∀ (l : List KP), (∀ p ∈ l, p.Ok) → rdAll (l.map KP.k) (encs l) = some l
  | [], _ => rfl
  | p :: l, h => by
    rw [List.map_cons, rdAll]
    have e : encs (p :: l) = p.enc ++ encs l := rfl
    rw [e, rd1_enc (h p (List.mem_cons_self ..))]
    show (rdAll _ _).map _ = _
    rw [rdAll_encs l fun q hq => h q (List.mem_cons_of_mem _ hq)]
    rfl
theorem rdAll_some : ∀ (ks : List B8) (s : List B8) (l : List KP), rdAll ks s = some l → s = encs l ∧ (∀ p ∈ l, p.Ok) ∧ l.map KP.k = ks ∧ ldAll ks s = some l
  | [], s, l, h => by
    rw [rdAll] at h
    split at h
    · rename_i hs
      cases h
      exact ⟨hs, fun _ h => (List.not_mem_nil h).elim, rfl, rfl⟩
    · cases h
  | k :: ks, s, l, h => by
    rw [rdAll] at h
    cases h1 : rd1 k s with
    | none => rw [h1] at h; cases h
    | some q =>
      obtain ⟨p, r⟩ := q
      rw [h1] at h
      cases h2 : rdAll ks r with
      | none => simp only [h2] at h; cases h
      | some m =>
        simp only [h2] at h
        cases h
        obtain ⟨e1, o1, k1, l1⟩ := rd1_some h1
        obtain ⟨e2, o2, k2, l2⟩ := rdAll_some ks r m h2
        refine ⟨?_, ?_, ?_, ?_⟩
        · rw [e1, e2]; rfl
        · intro q hq
          rcases List.mem_cons.1 hq with rfl | hq
          · exact o1
          · exact o2 q hq
        · rw [List.map_cons, k1, k2]
        · rw [ldAll, l1]
          show (ldAll ks r).map _ = _
          rw [l2]
          rfl
theorem ld1_ok {k : B8} {l r : List B8} {p : KP} (h : ld1 k l = some (p, r)) : p.Ok ∧ p.k = k := by
  unfold ld1 at h
  split at h
  · rename_i hk
    split at h
    · cases h
      exact ⟨.inl ⟨_, ⟨by have := BitVec.le_toInt (de 0#64 (l.take 8) ^^^ hi64); omega, by have := BitVec.toInt_lt (x := de 0#64 (l.take 8) ^^^ hi64); omega⟩, rfl⟩, hk.symm⟩
    · cases h
  · split at h
    · rename_i hk
      cases hm : ldT l with
      | none => rw [hm] at h; cases h
      | some q =>
        rw [hm] at h
        cases h
        exact ⟨.inr ⟨_, rfl⟩, hk.symm⟩
    · cases h
theorem ldAll_ok : ∀ (ks : List B8) (s : List B8) (l : List KP), ldAll ks s = some l → (∀ p ∈ l, p.Ok) ∧ l.map KP.k = ks
  | [], s, l, h => by
    cases h
    exact ⟨fun _ h => (List.not_mem_nil h).elim, rfl⟩
  | k :: ks, s, l, h => by
    rw [ldAll] at h
    cases h1 : ld1 k s with
    | none => rw [h1] at h; cases h
    | some q =>
      obtain ⟨p, r⟩ := q
      rw [h1] at h
      cases h2 : ldAll ks r with
      | none => simp only [h2] at h; cases h
      | some m =>
        simp only [h2] at h
        cases h
        obtain ⟨o1, k1⟩ := ld1_ok h1
        obtain ⟨o2, k2⟩ := ldAll_ok ks r m h2
        refine ⟨?_, by rw [List.map_cons, k1, k2]⟩
        intro q hq
        rcases List.mem_cons.1 hq with rfl | hq
        · exact o1
        · exact o2 q hq
/-- what might be read and is written so is what is read -/
theorem ref_parse (ks s : List B8) : (match ldAll ks s with | none => none | some l => if encs l = s then some l else none) = rdAll ks s := by
  cases h : rdAll ks s with
  | some l =>
    obtain ⟨e, _, _, hl⟩ := rdAll_some ks s l h
    rw [hl]
    exact if_pos e.symm
  | none =>
    cases hl : ldAll ks s with
    | none => rfl
    | some l =>
      refine if_neg fun e => ?_
      obtain ⟨o, k⟩ := ldAll_ok ks s l hl
      have := rdAll_encs l o
      rw [k, e, h] at this
      cases this
end Go.Proofs.YthmdiopbiiimeaaDoor.ky
namespace Go.Proofs.YthmdiopbiiimeaaDoor.ky
open Go.RowKit Go.Proofs.YthmdiopbiiimeaaDoor.pk
theorem ltB_irr : ∀ l : List B8, ltB l l = false
  | [] => rfl
  | a :: l => by rw [ltB, if_pos rfl, ltB_irr l]
theorem ltB_tri : ∀ l m : List B8, ltB l m = true ∨ l = m ∨ ltB m l = true
  | [], [] => .inr (.inl rfl)
  | [], _ :: _ => .inl rfl
  | _ :: _, [] => .inr (.inr rfl)
  | a :: l, b :: m => by
    by_cases h : a = b
    · subst h
      rcases ltB_tri l m with h | h | h
      · exact .inl (by rw [ltB, if_pos rfl, h])
      · exact .inr (.inl (by rw [h]))
      · exact .inr (.inr (by rw [ltB, if_pos rfl, h]))
    · have hn : a.toNat ≠ b.toNat := fun e => h (BitVec.eq_of_toNat_eq e)
      rcases Nat.lt_or_gt_of_ne hn with hl | hl
      · exact .inl (by rw [ltB, if_neg h, decide_eq_true hl])
      · exact .inr (.inr (by rw [ltB, if_neg (fun e => h e.symm), decide_eq_true hl]))
theorem ltB_asym : ∀ l m : List B8, ltB l m = true → ltB m l = false
  | [], [], h => by cases h
  | [], _ :: _, _ => rfl
  | _ :: _, [], h => by cases h
  | a :: l, b :: m, h => by
    by_cases e : a = b
    · subst e
      rw [ltB, if_pos rfl] at h ⊢
      exact ltB_asym l m h
    · rw [ltB, if_neg e] at h
      rw [ltB, if_neg (fun x => e x.symm)]
      simp only [decide_eq_true_eq] at h
      simp only [decide_eq_false_iff_not]
      omega
/-- they part at a byte that both have -/
def Div (a b : List B8) : Prop := ∃ p x y r t, a = p ++ x :: r ∧ b = p ++ y :: t ∧ x.toNat < y.toNat
theorem Div.cons {a b : List B8} (x : B8) (h : Div a b) : Div (x :: a) (x :: b) := by
  obtain ⟨p, u, v, r, t, rfl, rfl, h⟩ := h
  exact ⟨x :: p, u, v, r, t, rfl, rfl, h⟩
theorem Div.app {a b : List B8} (p : List B8) (h : Div a b) : Div (p ++ a) (p ++ b) := by
  obtain ⟨q, u, v, r, t, rfl, rfl, h⟩ := h
  exact ⟨p ++ q, u, v, r, t, by rw [List.append_assoc], by rw [List.append_assoc], h⟩
theorem Div.more {a b : List B8} (r t : List B8) (h : Div a b) : Div (a ++ r) (b ++ t) := by
  obtain ⟨p, u, v, r', t', rfl, rfl, h⟩ := h
  exact ⟨p, u, v, r' ++ r, t' ++ t, by rw [List.append_assoc]; rfl, by rw [List.append_assoc]; rfl, h⟩
theorem ltB_app (p a b : List B8) : ltB (p ++ a) (p ++ b) = ltB a b := by
  induction p with
  | nil => rfl
  | cons x p ih => rw [List.cons_append, List.cons_append, ltB, if_pos rfl, ih]
theorem Div.lt {a b : List B8} (h : Div a b) : ltB a b = true := by
  obtain ⟨p, u, v, r, t, rfl, rfl, h⟩ := h
  rw [ltB_app, ltB, if_neg (fun e => by rw [e] at h; omega), decide_eq_true h]
theorem Div.ne {a b : List B8} (h : Div a b) : a ≠ b := fun e => by
  have := h.lt
  rw [e, ltB_irr] at this
  cases this
theorem pre_app {p a b : List B8} : (p ++ a) <+: (p ++ b) ↔ a <+: b := List.prefix_append_right_inj p
theorem Div.pre {a b : List B8} (h : Div a b) : ¬ a <+: b ∧ ¬ b <+: a := by
  obtain ⟨p, u, v, r, t, rfl, rfl, h⟩ := h
  rw [pre_app, pre_app, List.cons_prefix_cons, List.cons_prefix_cons]
  exact ⟨fun e => by have := congrArg BitVec.toNat e.1; omega, fun e => by have := congrArg BitVec.toNat e.1; omega⟩
theorem div_len : ∀ (a b : List B8), a.length = b.length → ltB a b = true → Div a b
  | [], [], _, h => by cases h
  | [], _ :: _, h, _ => by cases h
  | _ :: _, [], h, _ => by cases h
  | x :: a, y :: b, hl, h => by
    by_cases e : x = y
    · subst e
      rw [ltB, if_pos rfl] at h
      exact (div_len a b (by simpa using hl) h).cons x
    · rw [ltB, if_neg e] at h
      exact ⟨[], x, y, a, b, rfl, rfl, by simpa using h⟩
theorem div_esc : ∀ (a b : List B8), ltB a b = true → Div (esc a ++ [0#8, 0#8]) (esc b ++ [0#8, 0#8])
  | _, [], h => by cases ‹List B8› <;> cases h
  | [], y :: b, _ => by
    rw [esc, esc]
    by_cases hy : y = 0#8
    · rw [if_pos hy]
      exact ⟨[0#8], 0#8, 255#8, [], _, rfl, rfl, by decide⟩
    · rw [if_neg hy]
      exact ⟨[], 0#8, y, [0#8], _, rfl, rfl, by
        have : y.toNat ≠ 0 := fun e => hy (BitVec.eq_of_toNat_eq e)
        show 0 < _
        omega⟩
  | x :: a, y :: b, h => by
    rw [ltB] at h
    rw [esc, esc]
    by_cases e : x = y
    · subst e
      rw [if_pos rfl] at h
      have ih := div_esc a b h
      by_cases hx : x = 0#8
      · rw [if_pos hx, if_pos hx]
        exact (ih.cons 255#8).cons 0#8
      · rw [if_neg hx, if_neg hx]
        exact ih.cons x
    · rw [if_neg e] at h
      have hl : x.toNat < y.toNat := by simpa using h
      have hy : y ≠ 0#8 := fun e => by rw [e] at hl; exact absurd hl (Nat.not_lt_zero _)
      rw [if_neg hy]
      by_cases hx : x = 0#8
      · rw [if_pos hx]
        exact ⟨[], 0#8, y, _, _, rfl, rfl, by rw [hx] at hl; exact hl⟩
      · rw [if_neg hx]
        exact ⟨[], x, y, _, _, rfl, rfl, hl⟩
def cmpI (a b : Int) : Int := if a < b then -1 else if b < a then 1 else 0
def cmpS (a b : List B8) : Int := if ltB a b then -1 else if ltB b a then 1 else 0
def cmpP (a b : KP) : Int := if a.k ≠ b.k then (if a.k.toNat < b.k.toNat then -1 else 1) else if a.k = 1#8 then cmpI a.n b.n else cmpS a.s b.s
def cmpR : List KP → List KP → Int
  | [], [] => 0
  | [], _ :: _ => -1
  | _ :: _, [] => 1
  | a :: l, b :: m => if cmpP a b ≠ 0 then cmpP a b else cmpR l m
theorem cmpP_self (a : KP) : cmpP a a = 0 := by
  unfold cmpP cmpI cmpS
  rw [if_neg (fun h => h rfl)]
  split
  · rw [if_neg (Int.lt_irrefl _), if_neg (Int.lt_irrefl _)]
  · rw [ltB_irr]; rfl
theorem cmpR_self : ∀ l : List KP, cmpR l l = 0
  | [] => rfl
  | a :: l => by rw [cmpR, if_neg (fun h => h (cmpP_self a)), cmpR_self l]
theorem part_tri {a b : KP} (ha : a.Ok) (hb : b.Ok) (hk : a.k = b.k) : a = b ∨ (cmpP a b = -1 ∧ Div a.enc b.enc) ∨ (cmpP a b = 1 ∧ Div b.enc a.enc) := by
  rcases ha with ⟨n, hn, rfl⟩ | ⟨s, rfl⟩ <;> rcases hb with ⟨m, hm, rfl⟩ | ⟨u, rfl⟩
  · have key : ∀ {x y : Int}, Fit x → Fit y → x < y → Div (be 8 (turn x)) (be 8 (turn y)) := fun {x y} hx hy h => by
      refine div_len _ _ (by rw [be_len, be_len]) ?_
      have := order_be (turn x) (turn y)
      rw [beq_iff_eq] at this
      rw [← this, decide_eq_true_eq, turn_nat hx, turn_nat hy]
      omega
    have e1 : (KP.num n).enc = be 8 (turn n) := rfl
    have e2 : (KP.num m).enc = be 8 (turn m) := rfl
    have ec : cmpP (KP.num n) (KP.num m) = cmpI n m := rfl
    rw [e1, e2, ec, cmpI]
    rcases Int.lt_trichotomy n m with h | h | h
    · exact .inr (.inl ⟨if_pos h, key hn hm h⟩)
    · exact .inl (by rw [h])
    · exact .inr (.inr ⟨by rw [if_neg (by omega), if_pos h], key hm hn h⟩)
  · cases hk
  · cases hk
  · have e1 : (KP.txt s).enc = esc s ++ [0#8, 0#8] := rfl
    have e2 : (KP.txt u).enc = esc u ++ [0#8, 0#8] := rfl
    have ec : cmpP (KP.txt s) (KP.txt u) = cmpS s u := rfl
    rw [e1, e2, ec, cmpS]
    rcases ltB_tri s u with h | h | h
    · exact .inr (.inl ⟨by rw [h]; rfl, div_esc _ _ h⟩)
    · exact .inl (by rw [h])
    · exact .inr (.inr ⟨by rw [ltB_asym _ _ h, h]; rfl, div_esc _ _ h⟩)
theorem row_tri : ∀ {a b : List KP}, (∀ p ∈ a, p.Ok) → (∀ p ∈ b, p.Ok) → a.map KP.k = b.map KP.k → a = b ∨ (cmpR a b = -1 ∧ Div (encs a) (encs b)) ∨ (cmpR a b = 1 ∧ Div (encs b) (encs a))
  | [], [], _, _, _ => .inl rfl
  | [], _ :: _, _, _, h => by cases h
  | _ :: _, [], _, _, h => by cases h
  | p :: a, q :: b, ha, hb, hk => by
    rw [List.map_cons, List.map_cons] at hk
    injection hk with h1 h2
    have e1 : encs (p :: a) = p.enc ++ encs a := rfl
    have e2 : encs (q :: b) = q.enc ++ encs b := rfl
    rw [e1, e2, cmpR]
    rcases part_tri (ha p (List.mem_cons_self ..)) (hb q (List.mem_cons_self ..)) h1 with h | ⟨hc, hd⟩ | ⟨hc, hd⟩
    · subst h
      rw [if_neg (fun h => h (cmpP_self p))]
      rcases row_tri (fun x hx => ha x (List.mem_cons_of_mem _ hx)) (fun x hx => hb x (List.mem_cons_of_mem _ hx)) h2 with h | ⟨hc, hd⟩ | ⟨hc, hd⟩
      · exact .inl (by rw [h])
      · exact .inr (.inl ⟨hc, hd.app _⟩)
      · exact .inr (.inr ⟨hc, hd.app _⟩)
    · rw [if_pos (by rw [hc]; decide)]
      exact .inr (.inl ⟨hc, hd.more _ _⟩)
    · rw [if_pos (by rw [hc]; decide)]
      exact .inr (.inr ⟨hc, hd.more _ _⟩)
/-- how the texts stand -/
def signS (a b : List B8) : Int := if ltB a b then -1 else if ltB b a then 1 else 0
theorem row_order {a b : List KP} (ha : ∀ p ∈ a, p.Ok) (hb : ∀ p ∈ b, p.Ok) (hk : a.map KP.k = b.map KP.k) : signS (encs a) (encs b) = cmpR a b ∧ (encs a ≠ encs b → ¬ encs a <+: encs b ∧ ¬ encs b <+: encs a) := by
  rcases row_tri ha hb hk with h | ⟨hc, hd⟩ | ⟨hc, hd⟩
  · subst h
    exact ⟨by rw [signS, ltB_irr, cmpR_self]; rfl, fun h => (h rfl).elim⟩
  · exact ⟨by rw [signS, hd.lt, hc]; rfl, fun _ => hd.pre⟩
  · exact ⟨by rw [signS, ltB_asym _ _ hd.lt, hd.lt, hc]; rfl, fun _ => hd.pre.symm⟩
/-- the least text behind all that begin so -/
def aft : List B8 → Option (List B8)
  | [] => none
  | x :: l => match aft l with
    | some m => some (x :: m)
    | none => if x = 255#8 then none else some [x + 1#8]
theorem aft_255 : ∀ (l m : List B8), (∀ x ∈ m, x = 255#8) → aft (l ++ m) = aft l
  | [], [], _ => rfl
  | [], x :: m, h => by
    have := aft_255 [] m fun y hy => h y (List.mem_cons_of_mem _ hy)
    rw [List.nil_append] at this
    have e : aft (x :: m) = match aft m with | some k => some (x :: k) | none => if x = 255#8 then none else some [x + 1#8] := by rw [aft]
    rw [List.nil_append, e, this, h x (List.mem_cons_self ..)]
    rfl
  | x :: l, m, h => by rw [List.cons_append, aft, aft, aft_255 l m h]
theorem aft_end (l : List B8) (x : B8) (h : x ≠ 255#8) : aft (l ++ [x]) = some (l ++ [x + 1#8]) := by
  induction l with
  | nil => simp [aft, h]
  | cons y l ih => rw [List.cons_append, aft, ih]; rfl
theorem aft_law : ∀ (p t : List B8), decide (p <+: t) = (!ltB t p && (match aft p with | none => true | some m => ltB t m))
  | [], t => by cases t <;> simp [ltB, aft]
  | x :: p, [] => by simp [ltB]
  | x :: p, y :: t => by
    have ih := aft_law p t
    have e : decide (x :: p <+: y :: t) = (decide (x = y) && decide (p <+: t)) := by rw [Bool.eq_iff_iff]; simp [List.cons_prefix_cons]
    rw [e, ltB, aft, ih]
    by_cases h : x = y
    · subst h
      rw [decide_eq_true rfl, if_pos rfl, Bool.true_and]
      cases ha : aft p with
      | some m => simp [ltB]
      | none =>
        by_cases h2 : x = 255#8
        · simp [h2]
        · have : x.toNat < (x + 1#8).toNat := by
            have := x.isLt
            have h3 : x.toNat ≠ 255 := fun e => h2 (BitVec.eq_of_toNat_eq e)
            rw [BitVec.toNat_add]
            show _ < (x.toNat + 1) % 2 ^ 8
            omega
          have h4 : x ≠ x + 1#8 := fun e => by rw [← e] at this; omega
          simp only [if_neg h2, ltB, if_neg h4, decide_eq_true this, Bool.and_true]
    · rw [decide_eq_false h, if_neg (fun e => h e.symm), Bool.false_and]
      by_cases hl : y.toNat < x.toNat
      · rw [decide_eq_true hl]; rfl
      · have hn : x.toNat ≠ y.toNat := fun e => h (BitVec.eq_of_toNat_eq e)
        rw [decide_eq_false hl, Bool.not_false, Bool.true_and]
        cases ha : aft p with
        | some m => simp only [ltB]; rw [if_neg (fun e => h e.symm), decide_eq_false hl]
        | none =>
          by_cases h2 : x = 255#8
          · subst h2
            have := y.isLt
            have : (255#8).toNat = 255 := rfl
            omega
          · have h5 : (x + 1#8).toNat = x.toNat + 1 := by
              have := x.isLt
              have h3 : x.toNat ≠ 255 := fun e => h2 (BitVec.eq_of_toNat_eq e)
              rw [BitVec.toNat_add]
              show (x.toNat + 1) % 2 ^ 8 = _
              omega
            simp only [if_neg h2, ltB]
            by_cases h6 : y = x + 1#8
            · rw [if_pos h6]
            · rw [if_neg h6, h5, decide_eq_false (by omega)]
end Go.Proofs.YthmdiopbiiimeaaDoor.ky
