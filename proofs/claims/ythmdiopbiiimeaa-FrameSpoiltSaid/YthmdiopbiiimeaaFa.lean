/- frames, plainly. -/
import Derived.Test.YthmdiopbiiimeaaCd
import Derived.Test.YthmdiopbiiimeaaPp
namespace Go.Proofs.Ythmdiopbiiimeaa.fr
open Go.RowKit Go.Proofs.Ythmdiopbiiimeaa.kit Go.Proofs.Ythmdiopbiiimeaa.pk Go.Proofs.Ythmdiopbiiimeaa.chk Go.Proofs.Ythmdiopbiiimeaa.crc
abbrev be4 (n : Nat) : List B8 := be 4 (BitVec.ofNat 64 n)
def sumL (l : List B8) : List B8 := be 4 ((upd 0#32 l).setWidth 64)
theorem be_4 (x : BitVec 64) : be 4 x = [(x >>> 24).setWidth 8, (x >>> 16).setWidth 8, (x >>> 8).setWidth 8, x.setWidth 8] := by
  unfold be; unfold be; unfold be; unfold be; unfold be
  simp
theorem shr_set (c : BitVec 32) (k : Nat) : ((c.setWidth 64) >>> k).setWidth 8 = (c >>> k).setWidth 8 := by
  apply BitVec.eq_of_toNat_eq
  have : c.toNat % 2 ^ 64 = c.toNat := Nat.mod_eq_of_lt (Nat.lt_of_lt_of_le c.isLt (by decide))
  simp only [BitVec.toNat_setWidth, BitVec.toNat_ushiftRight, this]
theorem ofL_be (c : BitVec 32) : ofL c = be 4 (c.setWidth 64) := by
  have h0 : (c.setWidth 64).setWidth 8 = c.setWidth 8 := by simp
  rw [be_4, ofL, shr_set, shr_set, shr_set, h0]
theorem len32 (n : Nat) (h : n < 4294967296) : be 4 ((BitVec.ofInt 32 (n : Int)).setWidth 64) = be4 n := by
  congr 1
  apply BitVec.eq_of_toNat_eq
  have e : (BitVec.ofInt 32 (n : Int)).toNat = n := by
    rw [show BitVec.ofInt 32 (n : Int) = BitVec.ofNat 32 n from BitVec.ofInt_natCast 32 n, BitVec.toNat_ofNat, Nat.mod_eq_of_lt (by omega)]
  rw [BitVec.toNat_setWidth, e, BitVec.toNat_ofNat]
/-- a body's frame -/
def frm (l : List B8) : List B8 := be4 l.length ++ (l ++ sumL l)
theorem sumL_len (l : List B8) : (sumL l).length = 4 := be_len _ _
theorem frm_len (l : List B8) : (frm l).length = l.length + 8 := by rw [frm, List.length_append, List.length_append, sumL_len, be_len]; omega
def putR (l : List B8) : List B8 × Int := if l.length ≤ 8192 then (frm l, 0) else ([], 71)
theorem putR_ok {l : List B8} (h : l.length ≤ 8192) : putR l = (frm l, 0) := if_pos h
theorem putR_long {l : List B8} (h : ¬ l.length ≤ 8192) : putR l = ([], 71) := if_neg h
/-- many -/
def frms (rs : List Rw) : List B8 := rs.flatMap fun r => frm r.l
def okTo (rs : List Rw) : Prop := ∀ r ∈ rs, r.l.length ≤ 8192
instance (rs : List Rw) : Decidable (okTo rs) := by unfold okTo; infer_instance
def joinR (rs : List Rw) : List B8 × Int := if okTo rs then (frms rs, 0) else ([], 71)
theorem frms_take {rs : List Rw} {i : Nat} {r : Rw} (h : rs[i]? = some r) : frms (rs.take (i + 1)) = frms (rs.take i) ++ frm r.l := by
  rw [frms, frms, List.take_add_one, h, List.flatMap_append]
  simp
theorem frms_le : ∀ (rs : List Rw), okTo rs → (frms rs).length ≤ 8200 * rs.length
  | [], _ => by simp [frms]
  | r :: rs, h => by
    have h1 := frms_le rs (fun x hx => h x (List.mem_cons_of_mem _ hx))
    have h2 := h r (List.mem_cons_self ..)
    have e : frms (r :: rs) = frm r.l ++ frms rs := rfl
    rw [e, List.length_append, frm_len, List.length_cons]
    omega
theorem okTo_next {rs : List Rw} {i : Nat} {r : Rw} (h0 : okTo (rs.take i)) (h : rs[i]? = some r) (hr : r.l.length ≤ 8192) : okTo (rs.take (i + 1)) := by
  intro x hx
  rw [List.take_add_one, h] at hx
  rcases List.mem_append.1 hx with hx | hx
  · exact h0 x hx
  · obtain rfl : x = r := by simpa using hx
    exact hr
theorem joinR_bad {rs : List Rw} {r : Rw} (h : r ∈ rs) (hr : ¬ r.l.length ≤ 8192) : joinR rs = ([], 71) := if_neg fun h0 => hr (h0 r h)
theorem joinR_ok {rs : List Rw} (h : okTo rs) : joinR rs = (frms rs, 0) := if_pos h
/-- numbers of whole division -/
theorem quoN (p d : Nat) (_ : 0 < d) (h : p < 4611686018427387904) : IntKind.i64.wrap ((p : Int).tdiv d) = ((p / d : Nat) : Int) := by
  have h1 : p / d ≤ p := Nat.div_le_self ..
  have h2 : (p : Int).tdiv d = ((p / d : Nat) : Int) := by
    rw [Int.tdiv_eq_ediv_of_nonneg (by omega)]
    rfl
  rw [h2, IntKind.wrap_i64]
  generalize p / d = q at h1
  omega
theorem remN (p d : Nat) : (p : Int).tmod d = ((p % d : Nat) : Int) := by
  rw [Int.tmod_eq_emod_of_nonneg (by omega)]
  rfl
theorem four_eq (n : Nat) (hn : n ≤ 8192) : [Value.int .u8 (BitVec.ofInt 8 ((n / 16777216 : Nat) : Int)).toNat, .int .u8 (BitVec.ofInt 8 ((n / 65536 % 256 : Nat) : Int)).toNat, .int .u8 (BitVec.ofInt 8 ((n / 256 % 256 : Nat) : Int)).toNat, .int .u8 (BitVec.ofInt 8 ((n % 256 : Nat) : Int)).toNat] = bvs (be4 n) := by
  have e : ∀ m : Nat, BitVec.ofInt 8 (m : Int) = BitVec.ofNat 8 m := fun m => BitVec.ofInt_natCast 8 m
  have k : ∀ (j : Nat), ((BitVec.ofNat 64 n) >>> j).setWidth 8 = BitVec.ofNat 8 (n / 2 ^ j) := fun j => by
    apply BitVec.eq_of_toNat_eq
    rw [BitVec.toNat_setWidth, BitVec.toNat_ushiftRight, BitVec.toNat_ofNat, BitVec.toNat_ofNat, Nat.mod_eq_of_lt (a := n) (b := 2 ^ 64) (by omega), Nat.shiftRight_eq_div_pow]
  have k0 : (BitVec.ofNat 64 n).setWidth 8 = BitVec.ofNat 8 n := by
    apply BitVec.eq_of_toNat_eq
    rw [BitVec.toNat_setWidth, BitVec.toNat_ofNat, BitVec.toNat_ofNat, Nat.mod_eq_of_lt (a := n) (b := 2 ^ 64) (by omega)]
  have m256 : ∀ m : Nat, BitVec.ofNat 8 (m % 256) = BitVec.ofNat 8 m := fun m => by
    apply BitVec.eq_of_toNat_eq
    rw [BitVec.toNat_ofNat, BitVec.toNat_ofNat]
    show m % 256 % 256 = m % 256
    omega
  rw [be4, be_4, k, k, k, k0, e, e, e, e, m256, m256, m256]
  rfl
end Go.Proofs.Ythmdiopbiiimeaa.fr
