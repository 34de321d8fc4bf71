/- packed numbers, plainly: bytes, the highest first. -/
import Derived.Test.YtmochicneilhhaaAp
import Derived.Test.YtmochicneilhhaaDp
namespace Go.Proofs.Ytmochicneilhhaa.pk
open Go.RowKit
/-- a number's last k bytes, the highest first -/
def be : Nat → BitVec 64 → List B8
  | 0, _ => []
  | k + 1, x => (x >>> (8 * k)).setWidth 8 :: be k x
theorem be_len : ∀ (k : Nat) (x : BitVec 64), (be k x).length = k
  | 0, _ => rfl
  | k + 1, x => by rw [be, List.length_cons, be_len k x]
theorem be_get : ∀ {k i : Nat} (x : BitVec 64), i < k → (be k x)[i]? = some ((x >>> (8 * (k - 1 - i))).setWidth 8)
  | 0, _, _, h => absurd h (Nat.not_lt_zero _)
  | k + 1, 0, x, _ => by rw [be]; simp
  | k + 1, i + 1, x, h => by
    rw [be, List.getElem?_cons_succ, be_get x (by omega)]
    congr 4
    omega
/-- bytes, as a number -/
def de (n : BitVec 64) (l : List B8) : BitVec 64 := l.foldl (fun n c => n <<< 8 ||| c.setWidth 64) n
theorem de_take {l : List B8} {i : Nat} {c : B8} (n : BitVec 64) (h : l[i]? = some c) : de n (l.take (i + 1)) = (de n (l.take i)) <<< 8 ||| c.setWidth 64 := by
  rw [List.take_add_one, h, de, List.foldl_append]
  rfl
theorem shl_mul (n : BitVec 64) : n <<< 8 = n * 256#64 := by
  apply BitVec.eq_of_toNat_eq
  rw [BitVec.toNat_shiftLeft, BitVec.toNat_mul, Nat.shiftLeft_eq]
  rfl
theorem add_or (n : BitVec 64) (c : B8) : n * 256#64 + c.setWidth 64 = n <<< 8 ||| c.setWidth 64 := by
  rw [← shl_mul, BitVec.add_eq_or_of_and_eq_zero]
  apply BitVec.eq_of_getLsbD_eq
  intro i hi
  simp only [BitVec.getLsbD_and, BitVec.getLsbD_shiftLeft, BitVec.getLsbD_setWidth, BitVec.getLsbD_zero]
  by_cases h : i < 8
  · simp [h]
  · rw [BitVec.getLsbD_of_ge c i (by omega)]
    simp
theorem quo256 (x : BitVec 64) (j : Nat) : (x >>> (8 * j)) / 256#64 = x >>> (8 * (j + 1)) := by
  apply BitVec.eq_of_toNat_eq
  rw [BitVec.toNat_udiv, BitVec.toNat_ushiftRight, BitVec.toNat_ushiftRight, Nat.shiftRight_eq_div_pow, Nat.shiftRight_eq_div_pow, Nat.mul_add, Nat.pow_add, ← Nat.div_div_eq_div_mul]
  rfl
theorem rem256 (x : BitVec 64) : (x % 256#64).setWidth 8 = x.setWidth 8 := by
  apply BitVec.eq_of_toNat_eq
  rw [BitVec.toNat_setWidth, BitVec.toNat_setWidth, BitVec.toNat_umod]
  show x.toNat % 256 % 256 = x.toNat % 256
  omega
theorem bvs_zero (k : Nat) : List.replicate k (Value.int .u8 0) = bvs (List.replicate k 0#8) := by simp [bvs, bv]
theorem setL_at {l : List B8} {i : Nat} (y : B8) (h : i < l.length) : setL (bvs l) (mulI i 1) [bv y] = bvs (l.set i y) := by
  have : ∀ (cs : List Value) (i : Nat) (v : Value), i < cs.length → setL cs i [v] = cs.set i v := by
    intro cs
    induction cs with
    | nil => intro i v h; exact absurd h (Nat.not_lt_zero _)
    | cons c cs ih =>
      intro i v h
      cases i with
      | zero => cases cs <;> simp [setL]
      | succ i => rw [setL, ih i v (by simpa using h), List.set_cons_succ]
  rw [mulI, this _ _ _ (by rw [bvs_len]; exact h), bvs, bvs, List.map_set]
/-- filled from the beginning -/
theorem fill_step {l : List B8} {i k : Nat} {y : B8} (hl : l.length = k) (h : l[i]? = some y) : setL (bvs (l.take i ++ List.replicate (k - i) 0#8)) (mulI i 1) [bv y] = bvs (l.take (i + 1) ++ List.replicate (k - (i + 1)) 0#8) := by
  have hi : i < l.length := (List.getElem?_eq_some_iff.1 h).1
  rw [setL_at _ (by simp; omega), List.set_append, if_neg (by simp; omega)]
  congr 1
  rw [List.take_add_one, h, List.length_take, Nat.min_eq_left (by omega), Nat.sub_self, show k - i = k - (i + 1) + 1 by omega, List.replicate_succ, List.set_cons_zero]
  simp
/-- filled from the end -/
theorem fill_back {l : List B8} {j k : Nat} {y : B8} (hl : l.length = k) (hj : j < k) (h : l[k - 1 - j]? = some y) : setL (bvs (List.replicate (k - j) 0#8 ++ l.drop (k - j))) (mulI (k - 1 - j) 1) [bv y] = bvs (List.replicate (k - (j + 1)) 0#8 ++ l.drop (k - (j + 1))) := by
  have hd : l.drop (k - (j + 1)) = y :: l.drop (k - j) := by
    have hlt : k - 1 - j < l.length := (List.getElem?_eq_some_iff.1 h).1
    have hy : l[k - 1 - j] = y := (List.getElem?_eq_some_iff.1 h).2
    rw [show k - (j + 1) = k - 1 - j by omega, List.drop_eq_getElem_cons hlt, hy, show k - 1 - j + 1 = k - j by omega]
  rw [setL_at _ (by simp; omega), List.set_append, if_pos (by simp; omega), hd]
  congr 1
  have e : List.replicate (k - j) 0#8 = List.replicate (k - 1 - j) 0#8 ++ [0#8] := by rw [show k - j = k - 1 - j + 1 by omega, List.replicate_succ']
  rw [e, List.set_append, if_neg (by simp), List.length_replicate, Nat.sub_self, List.set_cons_zero, List.append_assoc, show k - (j + 1) = k - 1 - j by omega]
  rfl
/-- all rows, one behind the other -/
def cat (rs : List Rw) : List B8 := rs.flatMap (·.l)
theorem cat_take {rs : List Rw} {i : Nat} {r : Rw} (h : rs[i]? = some r) : cat (rs.take (i + 1)) = cat (rs.take i) ++ r.l := by
  rw [List.take_add_one, h, cat, List.flatMap_append]
  simp [cat]
theorem cat_le (rs : List Rw) (i : Nat) : (cat (rs.take i)).length ≤ (cat rs).length := by
  have : cat rs = cat (rs.take i) ++ cat (rs.drop i) := by rw [cat, cat, cat, ← List.flatMap_append, List.take_append_drop]
  rw [this, List.length_append]
  omega
/-- bytes to a number, by natural numbers -/
def dn (n : Nat) (l : List B8) : Nat := l.foldl (fun n c => n * 256 + c.toNat) n
theorem de_dn (l : List B8) : ∀ n : BitVec 64, ∀ m : Nat, n.toNat = m % 2 ^ 64 → (de n l).toNat = dn m l % 2 ^ 64 := by
  induction l with
  | nil => intro n m h; exact h
  | cons c l ih =>
    intro n m h
    refine ih _ _ ?_
    show (n <<< 8 ||| c.setWidth 64).toNat = (m * 256 + c.toNat) % 2 ^ 64
    rw [← add_or, BitVec.toNat_add, BitVec.toNat_mul, BitVec.toNat_setWidth, h]
    have := c.isLt
    show (m % 2 ^ 64 * 256 % 2 ^ 64 + c.toNat % 2 ^ 64) % 2 ^ 64 = _
    omega
theorem dn_be : ∀ (k n : Nat) (x : BitVec 64), dn n (be k x) = n * 256 ^ k + x.toNat % 256 ^ k
  | 0, n, x => by simp [be, dn, Nat.mod_one]
  | k + 1, n, x => by
    show dn (n * 256 + ((x >>> (8 * k)).setWidth 8).toNat) (be k x) = _
    rw [dn_be k, BitVec.toNat_setWidth, BitVec.toNat_ushiftRight, Nat.shiftRight_eq_div_pow]
    have e : (2 : Nat) ^ (8 * k) = 256 ^ k := by rw [Nat.pow_mul]
    have e2 : (256 : Nat) ^ (k + 1) = 256 ^ k * 256 := Nat.pow_succ ..
    rw [e, e2]
    generalize hp : (256 : Nat) ^ k = p
    have hpos : 0 < p := by rw [← hp]; exact Nat.pow_pos (by decide)
    have h1 : x.toNat % (p * 256) = x.toNat % p + p * (x.toNat / p % 256) := Nat.mod_mul
    rw [h1, Nat.add_mul, Nat.mul_assoc, Nat.mul_comm 256 p, Nat.mul_comm (x.toNat / p % 2 ^ 8) p]
    show n * (p * 256) + p * (x.toNat / p % 256) + x.toNat % p = _
    omega
/-- what is packed is taken as it was -/
theorem de_be (k : Nat) (x : BitVec 64) (hk : k ≤ 8) (hx : x.toNat < 256 ^ k) : de 0#64 (be k x) = x := by
  apply BitVec.eq_of_toNat_eq
  rw [de_dn (be k x) 0#64 0 rfl, dn_be, Nat.zero_mul, Nat.zero_add, Nat.mod_eq_of_lt hx, Nat.mod_eq_of_lt x.isLt]
end Go.Proofs.Ytmochicneilhhaa.pk
