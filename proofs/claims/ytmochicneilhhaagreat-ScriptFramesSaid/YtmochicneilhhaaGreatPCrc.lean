/- Checks of bytes, plainly: registers of 32 digits, a digit at a time. No program. -/

namespace Go.Proofs.YtmochicneilhhaaGreat.crc
abbrev R := BitVec 32
abbrev B := BitVec 8
/-- a register, a digit on -/
def one (c : R) : R := (c >>> 1) ^^^ (if c.getLsbD 0 then 0xEDB88320#32 else 0#32)
def many : Nat → R → R
  | 0, c => c
  | n + 1, c => many n (one c)
theorem xor_swap (a b c d : R) : (a ^^^ b) ^^^ (c ^^^ d) = (a ^^^ c) ^^^ (b ^^^ d) := by
  rw [BitVec.xor_assoc, BitVec.xor_assoc, ← BitVec.xor_assoc b, BitVec.xor_comm b c, BitVec.xor_assoc c]
theorem one_xor (a b : R) : one (a ^^^ b) = one a ^^^ one b := by
  unfold one
  rw [BitVec.ushiftRight_xor_distrib, xor_swap, BitVec.getLsbD_xor]
  congr 1
  cases a.getLsbD 0 <;> cases b.getLsbD 0 <;> simp
theorem many_xor : ∀ (n : Nat) (a b : R), many n (a ^^^ b) = many n a ^^^ many n b
  | 0, _, _ => rfl
  | n + 1, a, b => by rw [many, one_xor, many_xor n]; rfl
theorem many_add : ∀ (m n : Nat) (a : R), many (m + n) a = many n (many m a)
  | 0, n, a => by rw [Nat.zero_add]; rfl
  | m + 1, n, a => by rw [Nat.add_right_comm, many, many_add m n]; rfl
theorem one_zero : one 0#32 = 0#32 := by decide
theorem many_zero : ∀ n, many n 0#32 = 0#32
  | 0 => rfl
  | n + 1 => by rw [many, one_zero, many_zero n]
theorem one_ne {a : R} (h : a ≠ 0#32) : one a ≠ 0#32 := by
  intro h0
  unfold one at h0
  cases hb : a.getLsbD 0
  · rw [hb] at h0
    apply h
    have h1 : a >>> 1 = 0#32 := by simpa using h0
    apply BitVec.eq_of_getLsbD_eq
    intro i hi
    cases i with
    | zero => rw [hb]; simp
    | succ i =>
      have := congrArg (fun x => x.getLsbD i) h1
      rw [BitVec.getLsbD_ushiftRight, Nat.add_comm] at this
      simpa using this
  · rw [hb] at h0
    have h1 : (a >>> 1).getLsbD 31 = true := by
      have h2 : a >>> 1 = 0xEDB88320#32 := by
        have := congrArg (· ^^^ 0xEDB88320#32) h0
        simpa [BitVec.xor_assoc] using this
      rw [h2]
      decide
    rw [BitVec.getLsbD_ushiftRight] at h1
    simp at h1
theorem many_ne : ∀ (n : Nat) {a : R}, a ≠ 0#32 → many n a ≠ 0#32
  | 0, _, h => h
  | n + 1, _, h => many_ne n (one_ne h)
theorem xor_zero_iff {a b : R} : a ^^^ b = 0#32 ↔ a = b := by
  constructor
  · intro h
    have := congrArg (· ^^^ b) h
    simpa [BitVec.xor_assoc] using this
  · rintro rfl; simp
theorem many_inj {n : Nat} {a b : R} (h : many n a = many n b) : a = b := by
  apply Classical.byContradiction
  intro hne
  refine many_ne n (a := a ^^^ b) (fun h0 => hne (xor_zero_iff.1 h0)) ?_
  rw [many_xor, h, BitVec.xor_self]
/-- digits that are shifted out are 0 -/
theorem many_shl : ∀ (k : Nat) (x : R), x.toNat < 2 ^ (32 - k) → k ≤ 32 → many k (x <<< k) = x
  | 0, x, _, _ => by simp [many]
  | k + 1, x, h, hk => by
    have h0 : (x <<< (k + 1)).getLsbD 0 = false := by simp
    have h1 : one (x <<< (k + 1)) = x <<< k := by
      unfold one
      rw [h0]
      simp only [Bool.false_eq_true, if_false, BitVec.xor_zero]
      apply BitVec.eq_of_toNat_eq
      have hlt : x.toNat < 2 ^ (32 - (k + 1)) := h
      have h2 : x.toNat <<< (k + 1) < 2 ^ 32 := by
        rw [Nat.shiftLeft_eq]
        calc x.toNat * 2 ^ (k + 1) < 2 ^ (32 - (k + 1)) * 2 ^ (k + 1) := Nat.mul_lt_mul_of_pos_right hlt (Nat.two_pow_pos _)
          _ = 2 ^ 32 := by rw [← Nat.pow_add]; congr 1; omega
      have h3 : x.toNat <<< k < 2 ^ 32 := by
        refine Nat.lt_of_le_of_lt ?_ h2
        rw [Nat.shiftLeft_eq, Nat.shiftLeft_eq]
        exact Nat.mul_le_mul_left _ (Nat.pow_le_pow_right (by decide) (Nat.le_succ k))
      rw [BitVec.toNat_ushiftRight, BitVec.toNat_shiftLeft, BitVec.toNat_shiftLeft, Nat.mod_eq_of_lt h2, Nat.mod_eq_of_lt h3, Nat.shiftLeft_eq, Nat.shiftLeft_eq, Nat.shiftRight_eq_div_pow, Nat.pow_succ, ← Nat.mul_assoc, Nat.pow_one, Nat.mul_div_cancel _ (by decide)]
    rw [many, h1]
    exact many_shl k x (Nat.lt_of_lt_of_le h (Nat.pow_le_pow_right (by decide) (by omega))) (by omega)
/-- a byte taken -/
def take (c : R) (b : B) : R := many 8 (c ^^^ b.setWidth 32)
def takes (c : R) (l : List B) : R := l.foldl take c
theorem takes_append (c : R) (l m : List B) : takes c (l ++ m) = takes (takes c l) m := List.foldl_append ..
/-- what a register is besides its last eight digits -/
theorem many8_split (x : R) : many 8 x = many 8 ((x.setWidth 8).setWidth 32) ^^^ (x >>> 8) := by
  have h : x = (x.setWidth 8).setWidth 32 ^^^ ((x >>> 8) <<< 8) := by
    apply BitVec.eq_of_getLsbD_eq
    intro i hi
    simp only [BitVec.getLsbD_xor, BitVec.getLsbD_setWidth, BitVec.getLsbD_shiftLeft, BitVec.getLsbD_ushiftRight]
    by_cases h8 : i < 8
    · simp [h8, hi]
    · have : 8 + (i - 8) = i := by omega
      simp [h8, hi, this]
  have h2 : many 8 ((x >>> 8) <<< 8) = x >>> 8 := by
    refine many_shl 8 _ ?_ (by decide)
    rw [BitVec.toNat_ushiftRight, Nat.shiftRight_eq_div_pow]
    have := x.isLt
    omega
  conv => lhs; rw [h, many_xor, h2]
/-- the table's row -/
def row (i : B) : R := many 8 (i.setWidth 32)
theorem take_row (c : R) (b : B) : take c b = row (c.setWidth 8 ^^^ b) ^^^ (c >>> 8) := by
  unfold take row
  rw [many8_split]
  congr 1
  · congr 1
    apply BitVec.eq_of_getLsbD_eq
    intro i hi
    by_cases h8 : i < 8 <;> simp [h8, hi]
  · apply BitVec.eq_of_getLsbD_eq
    intro i hi
    simp [BitVec.getLsbD_ushiftRight]
theorem take_xor (a d : R) (b x : B) : take (a ^^^ d) (b ^^^ x) = take a b ^^^ many 8 (d ^^^ x.setWidth 32) := by
  unfold take
  rw [← many_xor, BitVec.setWidth_xor, xor_swap]
theorem takes_xor (a d : R) (l : List B) : takes (a ^^^ d) l = takes a l ^^^ many (8 * l.length) d := by
  induction l generalizing a d with
  | nil => rfl
  | cons b l ih =>
    have h : take (a ^^^ d) b = take a b ^^^ many 8 d := by
      have := take_xor a d b 0#8
      simpa using this
    show takes (take (a ^^^ d) b) l = takes (take a b) l ^^^ _
    rw [h, ih, List.length_cons, Nat.mul_add, Nat.mul_one, Nat.add_comm (8 * l.length), many_add]
/-- a digit turned -/
def flip (l : List B) (p : Nat) : List B := l.set (p / 8) (l.getD (p / 8) 0#8 ^^^ (1#8 <<< (p % 8)))
theorem flip_length (l : List B) (p : Nat) : (flip l p).length = l.length := by simp [flip]
def e (k : Nat) : R := many k 1#32
theorem many_bit {k q : Nat} (hq : q < 32) (hk : q ≤ k) : many k (1#32 <<< q) = e (k - q) := by
  have : k = q + (k - q) := by omega
  rw [this, many_add, many_shl q 1#32 (by show 1 < _; exact Nat.one_lt_two_pow (by omega)) (by omega), Nat.add_sub_cancel_left]
  rfl
theorem one_shl_wide {q : Nat} (hq : q < 8) : (1#8 <<< q).setWidth 32 = 1#32 <<< q := by
  apply BitVec.eq_of_toNat_eq
  rw [BitVec.toNat_setWidth, BitVec.toNat_shiftLeft, BitVec.toNat_shiftLeft, Nat.shiftLeft_eq]
  have h : 2 ^ q < 2 ^ 8 := Nat.pow_lt_pow_right (by decide) hq
  simp only [BitVec.toNat_ofNat, Nat.reducePow, Nat.reduceMod, Nat.one_mul, Nat.shiftLeft_eq] at h ⊢
  generalize 2 ^ q = y at h ⊢
  omega
theorem takes_flip (c : R) (l : List B) (p : Nat) (hp : p < 8 * l.length) : takes c (flip l p) = takes c l ^^^ e (8 * l.length - p) := by
  have hlt : p / 8 < l.length := by omega
  have hs : l = l.take (p / 8) ++ l[p / 8] :: l.drop (p / 8 + 1) := by
    rw [List.getElem_cons_drop, List.take_append_drop]
  have hf : flip l p = l.take (p / 8) ++ (l[p / 8] ^^^ (1#8 <<< (p % 8))) :: l.drop (p / 8 + 1) := by
    rw [flip, List.set_eq_take_append_cons_drop, if_pos hlt]
    congr 2
    rw [List.getD_eq_getElem?_getD, List.getElem?_eq_getElem hlt]
    rfl
  have hq : p % 8 < 8 := Nat.mod_lt _ (by decide)
  rw [hf]
  conv => rhs; rw [hs]
  rw [takes_append, takes_append]
  generalize takes c (l.take (p / 8)) = a
  show takes (take a (l[p / 8] ^^^ (1#8 <<< (p % 8)))) _ = takes (take a l[p / 8]) _ ^^^ _
  have h1 : take a (l[p / 8] ^^^ (1#8 <<< (p % 8))) = take a l[p / 8] ^^^ many 8 (1#32 <<< (p % 8)) := by
    have := take_xor a 0#32 l[p / 8] (1#8 <<< (p % 8))
    rw [BitVec.xor_zero, BitVec.zero_xor, one_shl_wide hq] at this
    exact this
  rw [h1, takes_xor, ← many_add, many_bit (by omega) (by omega)]
  congr 2
  rw [List.length_drop, List.length_append, List.length_take, List.length_cons, List.length_drop]
  omega
/-- three digits turned -/
theorem e_ne (k : Nat) : e k ≠ 0#32 := many_ne k (by decide)
theorem e_add (a b : Nat) : e (a + b) = many a (e b) := by rw [e, Nat.add_comm, many_add]; rfl
theorem e_three {N : Nat} (hN : ∀ i j, 0 < i → i < j → j < N → e 0 ^^^ (e i ^^^ e j) ≠ 0#32) {a b c : Nat} (ha : a < N) (hb : b < N) (hc : c < N) : e a ^^^ (e b ^^^ e c) ≠ 0#32 := by
  have key : ∀ x y z, x < y → y < z → z < N → e x ^^^ (e y ^^^ e z) ≠ 0#32 := by
    intro x y z h1 h2 h3
    have hx : e x = many x (e 0) := by rw [← e_add, Nat.add_zero]
    have hy : e y = many x (e (y - x)) := by rw [← e_add]; congr 1; omega
    have hz : e z = many x (e (z - x)) := by rw [← e_add]; congr 1; omega
    rw [hx, hy, hz, ← many_xor, ← many_xor]
    exact many_ne x (hN _ _ (by omega) (by omega) (by omega))
  by_cases hab : a = b
  · subst hab; rw [← BitVec.xor_assoc, BitVec.xor_self, BitVec.zero_xor]; exact e_ne c
  by_cases hbc : b = c
  · subst hbc; rw [BitVec.xor_self, BitVec.xor_zero]; exact e_ne a
  by_cases hac : a = c
  · subst hac; rw [BitVec.xor_comm (e b), ← BitVec.xor_assoc, BitVec.xor_self, BitVec.zero_xor]; exact e_ne b
  have c1 : ∀ x y z : R, x ^^^ (y ^^^ z) = x ^^^ (z ^^^ y) := fun x y z => by rw [BitVec.xor_comm y]
  have c2 : ∀ x y z : R, x ^^^ (y ^^^ z) = y ^^^ (x ^^^ z) := fun x y z => by rw [← BitVec.xor_assoc, BitVec.xor_comm x, BitVec.xor_assoc]
  rcases Nat.lt_or_gt_of_ne hab with h1 | h1 <;> rcases Nat.lt_or_gt_of_ne hbc with h2 | h2 <;> rcases Nat.lt_or_gt_of_ne hac with h3 | h3
  · exact key a b c h1 h2 hc
  · omega
  · rw [c1]; exact key a c b h3 h2 hb
  · rw [c1, c2]; exact key c a b h3 h1 hb
  · rw [c2]; exact key b a c h1 h3 hc
  · rw [c2, c1]; exact key b c a h2 h3 ha
  · omega
  · rw [c1, c2, c1]; exact key c b a h2 h1 ha
/-- 32 digits that stand one behind the other -/
theorem mod_succ (x : R) (i : Nat) (hi : i < 32) : BitVec.ofNat 32 (x.toNat % 2 ^ (i + 1)) = BitVec.ofNat 32 (x.toNat % 2 ^ i) ^^^ (if x.getLsbD i then 1#32 <<< i else 0#32) := by
  apply BitVec.eq_of_getLsbD_eq
  intro j hj
  rw [BitVec.getLsbD_xor]
  simp only [BitVec.getLsbD_ofNat, hj, decide_true, Bool.true_and, Nat.testBit_mod_two_pow]
  cases hx : x.getLsbD i
  · simp only [Bool.false_eq_true, if_false, BitVec.getLsbD_zero, Bool.xor_false]
    by_cases h1 : j < i
    · simp [h1, show j < i + 1 by omega]
    · by_cases h2 : j = i
      · subst h2
        have : x.toNat.testBit j = false := hx
        simp [this]
      · simp [h1, show ¬ j < i + 1 by omega]
  · simp only [if_true, BitVec.getLsbD_shiftLeft, hj, decide_true, Bool.true_and]
    by_cases h1 : j < i
    · simp [h1, show j < i + 1 by omega]
    · by_cases h2 : j = i
      · subst h2
        have : x.toNat.testBit j = true := hx
        simp [this]
      · have h3 : (1#32).getLsbD (j - i) = false := by
          have : j - i ≠ 0 := by omega
          simp [this]
        simp [h1, h3, show ¬ j < i + 1 by omega]
/-- as many rounds of the turning -/
def burst (l : List B) (first : Nat) (x : R) : Nat → List B
  | 0 => l
  | i + 1 => if x.getLsbD i then flip (burst l first x i) (first + i) else burst l first x i
theorem burst_succ (l : List B) (first : Nat) (x : R) (i : Nat) : burst l first x (i + 1) = if x.getLsbD i then flip (burst l first x i) (first + i) else burst l first x i := rfl
theorem burst_length (l : List B) (first : Nat) (x : R) : ∀ i, (burst l first x i).length = l.length
  | 0 => rfl
  | i + 1 => by
    rw [burst_succ]
    split
    · rw [flip_length, burst_length l first x i]
    · exact burst_length l first x i
theorem takes_burst (c : R) (l : List B) (first : Nat) (x : R) (hf : first + 32 ≤ 8 * l.length) : ∀ i, i ≤ 32 → takes c (burst l first x i) = takes c l ^^^ many (8 * l.length - first) (BitVec.ofNat 32 (x.toNat % 2 ^ i))
  | 0, _ => by simp [burst, Nat.mod_one, many_zero]
  | i + 1, hi => by
    have ih := takes_burst c l first x hf i (by omega)
    rw [mod_succ x i (by omega), many_xor, ← BitVec.xor_assoc, ← ih]
    rw [burst_succ]
    split
    · rw [takes_flip _ _ _ (by rw [burst_length]; omega), many_bit (by omega) (by omega), burst_length, Nat.sub_sub]
    · rw [many_zero, BitVec.xor_zero]
theorem burst_ne (c : R) (l : List B) (first : Nat) (x : R) (hf : first + 32 ≤ 8 * l.length) (hx : x ≠ 0#32) : takes c (burst l first x 32) ≠ takes c l := by
  rw [takes_burst c l first x hf 32 (Nat.le_refl _), Nat.mod_eq_of_lt x.isLt]
  intro h
  have h2 := congrArg (takes c l ^^^ ·) h
  simp only [← BitVec.xor_assoc, BitVec.xor_self, BitVec.zero_xor] at h2
  exact many_ne _ (by simpa using hx) h2
attribute [local irreducible] many
theorem word_split (w : R) : w = ((((w >>> 24).setWidth 8).setWidth 32 <<< 24 ^^^ ((w >>> 16).setWidth 8).setWidth 32 <<< 16) ^^^ ((w >>> 8).setWidth 8).setWidth 32 <<< 8) ^^^ (w.setWidth 8).setWidth 32 := by
  apply BitVec.eq_of_getLsbD_eq
  intro i hi
  simp only [BitVec.getLsbD_xor, BitVec.getLsbD_setWidth, BitVec.getLsbD_shiftLeft, BitVec.getLsbD_ushiftRight]
  by_cases h8 : i < 8
  · simp [h8, hi, show i < 16 by omega, show i < 24 by omega]
  · by_cases h16 : i < 16
    · have e : 8 + (i - 8) = i := by omega
      simp [h8, hi, h16, show i < 24 by omega, show i - 8 < 8 by omega, show i - 8 < 32 by omega, e]
    · by_cases h24 : i < 24
      · have e : 16 + (i - 16) = i := by omega
        simp [h8, hi, h16, h24, show i - 16 < 8 by omega, show ¬ i - 8 < 8 by omega, show i - 16 < 32 by omega, e]
      · have e : 24 + (i - 24) = i := by omega
        simp [h8, hi, h16, h24, show i - 24 < 8 by omega, show ¬ i - 8 < 8 by omega, show ¬ i - 16 < 8 by omega, show i - 24 < 32 by omega, e]
theorem four_takes (c : R) (w0 w1 w2 w3 : B) : takes c [w0, w1, w2, w3] = many 32 (c ^^^ (((w3.setWidth 32 <<< 24 ^^^ w2.setWidth 32 <<< 16) ^^^ w1.setWidth 32 <<< 8) ^^^ w0.setWidth 32)) := by
  have lt : ∀ b : B, (b.setWidth 32).toNat < 2 ^ 8 := fun b => by
    rw [BitVec.toNat_setWidth]
    have := b.isLt
    omega
  have s1 : ∀ b : B, many 8 (b.setWidth 32 <<< 8) = b.setWidth 32 := fun b => many_shl 8 _ (Nat.lt_of_lt_of_le (lt b) (by decide)) (by decide)
  have s2 : ∀ b : B, many 16 (b.setWidth 32 <<< 16) = b.setWidth 32 := fun b => many_shl 16 _ (Nat.lt_of_lt_of_le (lt b) (by decide)) (by decide)
  have s3 : ∀ b : B, many 24 (b.setWidth 32 <<< 24) = b.setWidth 32 := fun b => many_shl 24 _ (lt b) (by decide)
  have t1 : takes c [w0, w1, w2, w3] = many 8 (many 8 (many 8 (many 8 (c ^^^ w0.setWidth 32) ^^^ w1.setWidth 32) ^^^ w2.setWidth 32) ^^^ w3.setWidth 32) := rfl
  rw [t1]
  conv => lhs; rw [← s1 w1, ← s2 w2, ← s3 w3]
  generalize w0.setWidth 32 = a0
  generalize w1.setWidth 32 <<< 8 = a1
  generalize w2.setWidth 32 <<< 16 = a2
  generalize w3.setWidth 32 <<< 24 = a3
  rw [← many_xor, ← many_add, ← many_xor, ← many_add, ← many_xor, ← many_add]
  congr 1
  ac_rfl
/-- the check behind its bytes -/
theorem takes_word (c w : R) : takes c [w.setWidth 8, (w >>> 8).setWidth 8, (w >>> 16).setWidth 8, (w >>> 24).setWidth 8] = many 32 (c ^^^ w) := by
  rw [four_takes, ← word_split]
theorem residue (c : R) : ~~~ (takes c [(~~~ c).setWidth 8, ((~~~ c) >>> 8).setWidth 8, ((~~~ c) >>> 16).setWidth 8, ((~~~ c) >>> 24).setWidth 8]) = 0x2144DF1C#32 := by
  rw [takes_word]
  have : c ^^^ ~~~ c = BitVec.allOnes 32 := by
    rw [BitVec.not_def, BitVec.xor_comm (BitVec.allOnes 32), ← BitVec.xor_assoc, BitVec.xor_self, BitVec.zero_xor]
  rw [this]
  decide +kernel
end Go.Proofs.YtmochicneilhhaaGreat.crc
