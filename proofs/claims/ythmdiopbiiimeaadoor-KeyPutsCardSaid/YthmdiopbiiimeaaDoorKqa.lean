/- keys: rows of parts and the texts that write them, in plain lists. -/
import Derived.Test.YthmdiopbiiimeaaDoorKq0
namespace Go.Proofs.YthmdiopbiiimeaaDoor.ky
open Go.RowKit Go.Proofs.YthmdiopbiiimeaaDoor.pk
structure KP where
  k : B8
  n : Int
  s : List B8
def esc : List B8 → List B8
  | [] => []
  | x :: l => if x = 0#8 then 0#8 :: 255#8 :: esc l else x :: esc l
abbrev hi64 : BitVec 64 := 9223372036854775808#64
def turn (n : Int) : BitVec 64 := BitVec.ofInt 64 n ^^^ hi64
def KP.enc (p : KP) : List B8 := if p.k = 1#8 then be 8 (turn p.n) else esc p.s ++ [0#8, 0#8]
def encs (l : List KP) : List B8 := l.flatMap KP.enc
theorem encs_take {l : List KP} {i : Nat} {p : KP} (h : l[i]? = some p) : encs (l.take (i + 1)) = encs (l.take i) ++ p.enc := by
  rw [encs, encs, List.take_add_one, h, List.flatMap_append]
  simp
theorem esc_append (a b : List B8) : esc (a ++ b) = esc a ++ esc b := by
  induction a with
  | nil => rfl
  | cons x a ih =>
    rw [List.cons_append, esc, esc, ih]
    split <;> rfl
theorem esc_le (a : List B8) : (esc a).length ≤ 2 * a.length := by
  induction a with
  | nil => simp [esc]
  | cons x a ih =>
    rw [esc]
    split <;> simp only [List.length_cons] <;> omega
/-- the lowest digit of 2^w more: the highest turned -/
theorem xor_hi (x : BitVec 64) : x ^^^ hi64 = x + hi64 := by
  apply BitVec.eq_of_toNat_eq
  rw [BitVec.toNat_xor, BitVec.toNat_add]
  have h1 : (x.toNat ^^^ 2 ^ 63) / 2 ^ 63 = (x.toNat / 2 ^ 63) ^^^ 1 := by rw [Nat.xor_div_two_pow, Nat.div_self (Nat.two_pow_pos 63)]
  have h2 : (x.toNat ^^^ 2 ^ 63) % 2 ^ 63 = x.toNat % 2 ^ 63 := by rw [Nat.xor_mod_two_pow, Nat.mod_self, Nat.xor_zero]
  have h3 : x.toNat / 2 ^ 63 = 0 ∨ x.toNat / 2 ^ 63 = 1 := by have := x.isLt; omega
  have e : hi64.toNat = 2 ^ 63 := rfl
  rw [e]
  rcases h3 with h3 | h3 <;> rw [h3] at h1
  · have h1 : (x.toNat ^^^ 2 ^ 63) / 2 ^ 63 = 1 := h1
    omega
  · have h1 : (x.toNat ^^^ 2 ^ 63) / 2 ^ 63 = 0 := h1
    omega
theorem xor_hi8 (x : B8) : x ^^^ 128#8 = x + 128#8 := by
  apply BitVec.eq_of_toNat_eq
  rw [BitVec.toNat_xor, BitVec.toNat_add]
  have h1 : (x.toNat ^^^ 2 ^ 7) / 2 ^ 7 = (x.toNat / 2 ^ 7) ^^^ 1 := by rw [Nat.xor_div_two_pow, Nat.div_self (Nat.two_pow_pos 7)]
  have h2 : (x.toNat ^^^ 2 ^ 7) % 2 ^ 7 = x.toNat % 2 ^ 7 := by rw [Nat.xor_mod_two_pow, Nat.mod_self, Nat.xor_zero]
  have h3 : x.toNat / 2 ^ 7 = 0 ∨ x.toNat / 2 ^ 7 = 1 := by have := x.isLt; omega
  have e : (128#8).toNat = 2 ^ 7 := rfl
  rw [e]
  rcases h3 with h3 | h3 <;> rw [h3] at h1
  · have h1 : (x.toNat ^^^ 2 ^ 7) / 2 ^ 7 = 1 := h1
    omega
  · have h1 : (x.toNat ^^^ 2 ^ 7) / 2 ^ 7 = 0 := h1
    omega
theorem sub_hi (x : BitVec 64) : x - hi64 = x + hi64 := by
  apply BitVec.eq_of_toNat_eq
  rw [BitVec.toNat_sub, BitVec.toNat_add]
  have e : hi64.toNat = 2 ^ 63 := rfl
  rw [e]
  have := x.isLt
  omega
theorem sub_hi8 (x : B8) : x - 128#8 = x + 128#8 := by
  apply BitVec.eq_of_toNat_eq
  rw [BitVec.toNat_sub, BitVec.toNat_add]
  have e : (128#8).toNat = 2 ^ 7 := rfl
  rw [e]
  have := x.isLt
  omega
theorem be8_hi (x : BitVec 64) : be 8 (x ^^^ hi64) = ((be 8 x).headD 0#8 + 128#8) :: (be 8 x).tail := by
  apply List.ext_getElem?
  intro i
  have hx := be_len 8 x
  have ht : (be 8 x).tail.length = 7 := by rw [List.length_tail, hx]
  have hh : (be 8 x).headD 0#8 = (x >>> 56).setWidth 8 := by
    have := be_get (k := 8) (i := 0) x (by decide)
    cases hb : be 8 x with
    | nil => rw [hb] at hx; cases hx
    | cons a l =>
      rw [hb] at this
      simpa using this
  match i with
  | 0 =>
    rw [be_get _ (by decide), List.getElem?_cons_zero, hh, ← xor_hi8]
    congr 1
    show ((x ^^^ hi64) >>> 56).setWidth 8 = _
    rw [BitVec.ushiftRight_xor_distrib, BitVec.setWidth_xor]
    rfl
  | i + 1 =>
    rw [List.getElem?_cons_succ, List.getElem?_tail]
    by_cases hi : i + 1 < 8
    · rw [be_get _ hi, be_get _ hi, BitVec.ushiftRight_xor_distrib, BitVec.setWidth_xor]
      have : (hi64 >>> (8 * (8 - 1 - (i + 1)))).setWidth 8 = 0#8 := by
        have : i = 0 ∨ i = 1 ∨ i = 2 ∨ i = 3 ∨ i = 4 ∨ i = 5 ∨ i = 6 := by omega
        rcases this with rfl | rfl | rfl | rfl | rfl | rfl | rfl <;> decide
      rw [this, BitVec.xor_zero]
    · rw [List.getElem?_eq_none (by rw [be_len]; omega), List.getElem?_eq_none (by rw [be_len]; omega)]
abbrev Fit (n : Int) : Prop := -9223372036854775808 ≤ n ∧ n < 9223372036854775808
theorem turn_nat {n : Int} (h : Fit n) : ((turn n).toNat : Int) = n + 9223372036854775808 := by
  obtain ⟨h0, h1⟩ := h
  rw [turn, xor_hi, BitVec.toNat_add, BitVec.toNat_ofInt]
  have e : hi64.toNat = 2 ^ 63 := rfl
  rw [e]
  omega
theorem turn_back {n : Int} (h : Fit n) : (turn n ^^^ hi64).toInt = n := by
  obtain ⟨h0, h1⟩ := h
  rw [turn, BitVec.xor_assoc, BitVec.xor_self, BitVec.xor_zero, BitVec.toInt_ofInt]
  exact Int.bmod_eq_of_le (by omega) (by omega)
/-- a text as the program reads it, and what is left; as the reference does -/
def rdT : List B8 → Option (List B8 × List B8)
  | [] => none
  | [_] => none
  | x :: y :: m => if x = 0#8 then (if y = 0#8 then some ([], m) else if y = 255#8 then (rdT m).map (fun p => (0#8 :: p.1, p.2)) else none) else (rdT (y :: m)).map (fun p => (x :: p.1, p.2))
def ldT : List B8 → Option (List B8 × List B8)
  | [] => none
  | [_] => none
  | x :: y :: m => if x = 0#8 then (if y = 0#8 then some ([], m) else (ldT m).map (fun p => (0#8 :: p.1, p.2))) else (ldT (y :: m)).map (fun p => (x :: p.1, p.2))
theorem esc_ne (a r : List B8) : ∃ y m, esc a ++ 0#8 :: 0#8 :: r = y :: m := by
  cases a with
  | nil => exact ⟨_, _, rfl⟩
  | cons x a =>
    rw [esc]
    split <;> exact ⟨_, _, rfl⟩
theorem rdT_esc (a r : List B8) : rdT (esc a ++ 0#8 :: 0#8 :: r) = some (a, r) := by
  induction a with
  | nil => simp [esc, rdT]
  | cons x a ih =>
    rw [esc]
    by_cases h : x = 0#8
    · rw [if_pos h, List.cons_append, List.cons_append, rdT, if_pos rfl, if_neg (by decide), if_pos rfl, ih, h]
      rfl
    · rw [if_neg h, List.cons_append]
      obtain ⟨y, m, e⟩ := esc_ne a r
      rw [e] at ih ⊢
      rw [rdT, if_neg h, ih]
      rfl
theorem ldT_esc (a r : List B8) : ldT (esc a ++ 0#8 :: 0#8 :: r) = some (a, r) := by
  induction a with
  | nil => simp [esc, ldT]
  | cons x a ih =>
    rw [esc]
    by_cases h : x = 0#8
    · rw [if_pos h, List.cons_append, List.cons_append, ldT, if_pos rfl, if_neg (by decide), ih, h]
      rfl
    · rw [if_neg h, List.cons_append]
      obtain ⟨y, m, e⟩ := esc_ne a r
      rw [e] at ih ⊢
      rw [ldT, if_neg h, ih]
      rfl
theorem rdT_some (l : List B8) : ∀ a r, rdT l = some (a, r) → l = esc a ++ 0#8 :: 0#8 :: r := by
  induction l using rdT.induct with
  | case1 => intro a r h; cases h
  | case2 => intro a r h; cases h
  | case3 m => intro a r h; rw [rdT, if_pos rfl, if_pos rfl] at h; cases h; rfl
  | case4 m _ ih =>
    intro a r h
    rw [rdT, if_pos rfl, if_neg (by decide), if_pos rfl] at h
    cases hm : rdT m with
    | none => rw [hm] at h; cases h
    | some p =>
      obtain ⟨b, t⟩ := p
      rw [hm] at h
      cases h
      rw [ih _ _ hm, esc, if_pos rfl]
      rfl
  | case5 y m h0 h1 => intro a r h; rw [rdT, if_pos rfl, if_neg h0, if_neg h1] at h; cases h
  | case6 x y m h0 ih =>
    intro a r h
    rw [rdT, if_neg h0] at h
    cases hm : rdT (y :: m) with
    | none => rw [hm] at h; cases h
    | some p =>
      obtain ⟨b, t⟩ := p
      rw [hm] at h
      cases h
      rw [ih _ _ hm, esc, if_neg h0]
      rfl
def KP.num (n : Int) : KP := ⟨1#8, n, []⟩
def KP.txt (s : List B8) : KP := ⟨2#8, 0, s⟩
theorem num_enc (n : Int) : (KP.num n).enc = be 8 (turn n) := if_pos rfl
theorem txt_enc (s : List B8) : (KP.txt s).enc = esc s ++ [0#8, 0#8] := if_neg (show ¬ (2#8 : B8) = 1#8 by decide)
def rd1 (k : B8) (l : List B8) : Option (KP × List B8) :=
  if k = 1#8 then (if 8 ≤ l.length then some (KP.num (de 0#64 (l.take 8) ^^^ hi64).toInt, l.drop 8) else none)
  else if k = 2#8 then (rdT l).map (fun p => (KP.txt p.1, p.2)) else none
def ld1 (k : B8) (l : List B8) : Option (KP × List B8) :=
  if k = 1#8 then (if 8 ≤ l.length then some (KP.num (de 0#64 (l.take 8) ^^^ hi64).toInt, l.drop 8) else none)
  else if k = 2#8 then (ldT l).map (fun p => (KP.txt p.1, p.2)) else none
def rdAll : List B8 → List B8 → Option (List KP)
  | [], l => if l = [] then some [] else none
  | k :: ks, l => match rd1 k l with
    | none => none
    | some (p, r) => (rdAll ks r).map (p :: ·)
def ldAll : List B8 → List B8 → Option (List KP)
  | [], _ => some []
  | k :: ks, l => match ld1 k l with
    | none => none
    | some (p, r) => (ldAll ks r).map (p :: ·)
/-- a part as it may be read -/
def KP.Ok (p : KP) : Prop := (∃ n, Fit n ∧ p = KP.num n) ∨ ∃ s, p = KP.txt s
theorem be_de8 (l : List B8) (h : l.length = 8) : be 8 (de 0#64 l) = l := by
  have := be_de l (by omega)
  rwa [h] at this
theorem rd1_some {k : B8} {l r : List B8} {p : KP} (h : rd1 k l = some (p, r)) : l = p.enc ++ r ∧ p.Ok ∧ p.k = k ∧ ld1 k l = some (p, r) := by
  unfold rd1 at h
  unfold ld1
  by_cases h1 : k = 1#8
  · rw [if_pos h1] at h ⊢
    by_cases hl : 8 ≤ l.length
    · rw [if_pos hl] at h ⊢
      cases h
      refine ⟨?_, .inl ⟨_, ⟨by have := BitVec.le_toInt (de 0#64 (l.take 8) ^^^ hi64); omega, by have := BitVec.toInt_lt (x := de 0#64 (l.take 8) ^^^ hi64); omega⟩, rfl⟩, h1.symm, rfl⟩
      rw [num_enc, turn, BitVec.ofInt_toInt, BitVec.xor_assoc, BitVec.xor_self, BitVec.xor_zero, be_de8 _ (by rw [List.length_take]; omega), List.take_append_drop]
    · rw [if_neg hl] at h; cases h
  · rw [if_neg h1] at h ⊢
    by_cases h2 : k = 2#8
    · rw [if_pos h2] at h ⊢
      cases hm : rdT l with
      | none => rw [hm] at h; cases h
      | some q =>
        obtain ⟨a, t⟩ := q
        rw [hm] at h
        cases h
        have e := rdT_some l a t hm
        refine ⟨?_, .inr ⟨_, rfl⟩, h2.symm, ?_⟩
        · rw [txt_enc, e, List.append_assoc]
          rfl
        · rw [e, ldT_esc]
          rfl
    · rw [if_neg h2] at h; cases h
theorem rd1_enc {p : KP} (h : p.Ok) (r : List B8) : rd1 p.k (p.enc ++ r) = some (p, r) := by
  rcases h with ⟨n, hn, rfl⟩ | ⟨s, rfl⟩
  · have hl := be_len 8 (turn n)
    have hk : (KP.num n).k = 1#8 := rfl
    rw [num_enc, hk, rd1, if_pos rfl, if_pos (by rw [List.length_append]; omega)]
    have e8 := List.take_left' (l₂ := r) hl
    have d8 := List.drop_left' (l₂ := r) hl
    rw [e8, d8, de_be 8 _ (by decide) (by have := (turn n).isLt; omega), turn_back hn]
  · have hk : (KP.txt s).k = 2#8 := rfl
    rw [txt_enc, hk, rd1, if_neg (by decide), if_pos rfl, List.append_assoc]
    show (rdT (esc s ++ 0#8 :: 0#8 :: r)).map _ = _
    rw [rdT_esc]
    rfl
theorem rdAll_encs : ∀ (l : List KP), (∀ p ∈ l, p.Ok) → rdAll (l.map KP.k) (encs l) = some l
  | [], _ => rfl
  | p :: l, h => by
    rw [List.map_cons, rdAll]
    have e : encs (p :: l) = p.enc ++ encs l := rfl
    rw [e, rd1_enc (h p (List.mem_cons_self ..))]
    show (rdAll _ _).map _ = _
    rw [rdAll_encs l fun q hq => h q (List.mem_cons_of_mem _ hq)]
    rfl
theorem rdAll_some : ∀ (ks : List B8) (s : List B8) (l : List KP), rdAll ks s = some l → s = encs l ∧ (∀ p ∈ l, p.Ok) ∧ l.map KP.k = ks ∧ ldAll ks s = some l
  | [], s, l, h => by
    rw [rdAll] at h
    split at h
    · rename_i hs
      cases h
      exact ⟨hs, fun _ h => (List.not_mem_nil h).elim, rfl, rfl⟩
    · cases h
  | k :: ks, s, l, h => by
    rw [rdAll] at h
    cases h1 : rd1 k s with
    | none => rw [h1] at h; cases h
    | some q =>
      obtain ⟨p, r⟩ := q
      rw [h1] at h
      cases h2 : rdAll ks r with
      | none => simp only [h2] at h; cases h
      | some m =>
        simp only [h2] at h
        cases h
        obtain ⟨e1, o1, k1, l1⟩ := rd1_some h1
        obtain ⟨e2, o2, k2, l2⟩ := rdAll_some ks r m h2
        refine ⟨?_, ?_, ?_, ?_⟩
        · rw [e1, e2]; rfl
        · intro q hq
          rcases List.mem_cons.1 hq with rfl | hq
          · exact o1
          · exact o2 q hq
        · rw [List.map_cons, k1, k2]
        · rw [ldAll, l1]
          show (ldAll ks r).map _ = _
          rw [l2]
          rfl
theorem ld1_ok {k : B8} {l r : List B8} {p : KP} (h : ld1 k l = some (p, r)) : p.Ok ∧ p.k = k := by
  unfold ld1 at h
  split at h
  · rename_i hk
    split at h
    · cases h
      exact ⟨.inl ⟨_, ⟨by have := BitVec.le_toInt (de 0#64 (l.take 8) ^^^ hi64); omega, by have := BitVec.toInt_lt (x := de 0#64 (l.take 8) ^^^ hi64); omega⟩, rfl⟩, hk.symm⟩
    · cases h
  · split at h
    · rename_i hk
      cases hm : ldT l with
      | none => rw [hm] at h; cases h
      | some q =>
        rw [hm] at h
        cases h
        exact ⟨.inr ⟨_, rfl⟩, hk.symm⟩
    · cases h
theorem ldAll_ok : ∀ (ks : List B8) (s : List B8) (l : List KP), ldAll ks s = some l → (∀ p ∈ l, p.Ok) ∧ l.map KP.k = ks
  | [], s, l, h => by
    cases h
    exact ⟨fun _ h => (List.not_mem_nil h).elim, rfl⟩
  | k :: ks, s, l, h => by
    rw [ldAll] at h
    cases h1 : ld1 k s with
    | none => rw [h1] at h; cases h
    | some q =>
      obtain ⟨p, r⟩ := q
      rw [h1] at h
      cases h2 : ldAll ks r with
      | none => simp only [h2] at h; cases h
      | some m =>
        simp only [h2] at h
        cases h
        obtain ⟨o1, k1⟩ := ld1_ok h1
        obtain ⟨o2, k2⟩ := ldAll_ok ks r m h2
        refine ⟨?_, by rw [List.map_cons, k1, k2]⟩
        intro q hq
        rcases List.mem_cons.1 hq with rfl | hq
        · exact o1
        · exact o2 q hq
/-- what might be read and is written so is what is read -/
theorem ref_parse (ks s : List B8) : (match ldAll ks s with | none => none | some l => if encs l = s then some l else none) = rdAll ks s := by
  cases h : rdAll ks s with
  | some l =>
    obtain ⟨e, _, _, hl⟩ := rdAll_some ks s l h
    rw [hl]
    exact if_pos e.symm
  | none =>
    cases hl : ldAll ks s with
    | none => rfl
    | some l =>
      refine if_neg fun e => ?_
      obtain ⟨o, k⟩ := ldAll_ok ks s l hl
      have := rdAll_encs l o
      rw [k, e, h] at this
      cases this
end Go.Proofs.YthmdiopbiiimeaaDoor.ky
