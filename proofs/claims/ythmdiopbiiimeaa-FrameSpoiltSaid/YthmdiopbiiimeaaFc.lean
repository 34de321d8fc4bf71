/- frames: taken, plainly. -/
import Derived.Test.YthmdiopbiiimeaaFb
namespace Go.Proofs.Ythmdiopbiiimeaa.fr
open Go.RowKit Go.Proofs.Ythmdiopbiiimeaa.kit Go.Proofs.Ythmdiopbiiimeaa.pk Go.Proofs.Ythmdiopbiiimeaa.chk Go.Proofs.Ythmdiopbiiimeaa.crc
def l4 (l : List B8) (a : Nat) : List B8 := (l.drop a).take 4
def num4 (l : List B8) (a : Nat) : Nat := (de 0#64 (l4 l a)).toNat
def bod (l : List B8) (a n : Nat) : List B8 := (l.drop (a + 4)).take n
def sum4 (l : List B8) (a n : Nat) : BitVec 32 := (de 0#64 (l4 l (a + 4 + n))).setWidth 32
/-- what stands at a place: the body, the place behind, the error -/
def takeF (l : List B8) (at' : Int) : List B8 × Int × Int :=
  if at' < 0 ∨ (l.length : Int) < at' + 4 then ([], at', 70)
  else if 8192 < num4 l at'.toNat then ([], at', 71)
  else if l.length < at'.toNat + 8 + num4 l at'.toNat then ([], at', 70)
  else if upd 0#32 (bod l at'.toNat (num4 l at'.toNat)) = sum4 l at'.toNat (num4 l at'.toNat) then (bod l at'.toNat (num4 l at'.toNat), (at'.toNat + 8 + num4 l at'.toNat : Nat), 0)
  else ([], (at'.toNat + 8 + num4 l at'.toNat : Nat), 72)
theorem takeF_more {l : List B8} {at' : Int} (h : at' < 0 ∨ (l.length : Int) < at' + 4) : takeF l at' = ([], at', 70) := if_pos h
theorem takeF_long {l : List B8} {a : Nat} (h : a + 4 ≤ l.length) (h1 : 8192 < num4 l a) : takeF l a = ([], (a : Int), 71) := by
  rw [takeF, if_neg (by omega), Int.toNat_natCast, if_pos h1]
theorem takeF_short {l : List B8} {a : Nat} (h : a + 4 ≤ l.length) (h1 : ¬ 8192 < num4 l a) (h2 : l.length < a + 8 + num4 l a) : takeF l a = ([], (a : Int), 70) := by
  rw [takeF, if_neg (by omega), Int.toNat_natCast, if_neg h1, if_pos h2]
theorem takeF_good {l : List B8} {a : Nat} (h1 : ¬ 8192 < num4 l a) (h2 : ¬ l.length < a + 8 + num4 l a) (h3 : upd 0#32 (bod l a (num4 l a)) = sum4 l a (num4 l a)) : takeF l a = (bod l a (num4 l a), ((a + 8 + num4 l a : Nat) : Int), 0) := by
  rw [takeF, if_neg (by omega), Int.toNat_natCast, if_neg h1, if_neg h2, if_pos h3]
theorem takeF_bad {l : List B8} {a : Nat} (h1 : ¬ 8192 < num4 l a) (h2 : ¬ l.length < a + 8 + num4 l a) (h3 : ¬ upd 0#32 (bod l a (num4 l a)) = sum4 l a (num4 l a)) : takeF l a = ([], ((a + 8 + num4 l a : Nat) : Int), 72) := by
  rw [takeF, if_neg (by omega), Int.toNat_natCast, if_neg h1, if_neg h2, if_neg h3]
theorem l4_len {l : List B8} {a : Nat} (h : a + 4 ≤ l.length) : (l4 l a).length = 4 := by rw [l4, List.length_take, List.length_drop]; omega
theorem bod_len {l : List B8} {a n : Nat} (h : a + 4 + n ≤ l.length) : (bod l a n).length = n := by rw [bod, List.length_take, List.length_drop]; omega
theorem num4_lt {l : List B8} {a : Nat} (h : a + 4 ≤ l.length) : num4 l a < 4294967296 := by
  have := de_lt (l4 l a)
  rw [l4_len h] at this
  exact this
theorem num4_u32 {l : List B8} {a : Nat} (h : a + 4 ≤ l.length) : ((de 0#64 (l4 l a)).setWidth 32).toNat = num4 l a := by
  have := num4_lt h
  rw [BitVec.toNat_setWidth]
  exact Nat.mod_eq_of_lt this
theorem num4_dn {l : List B8} {a : Nat} (h : a + 4 ≤ l.length) : num4 l a = dn 0 (l4 l a) := by
  have h1 := dn_lt (l4 l a) 0
  rw [l4_len h] at h1
  rw [num4, de_dn _ 0#64 0 rfl, Nat.mod_eq_of_lt]
  have : (0 + 1) * 256 ^ 4 = 4294967296 := by decide
  omega
theorem dn_step {l : List B8} {i : Nat} {c : B8} (h : l[i]? = some c) : dn 0 (l.take (i + 1)) = dn 0 (l.take i) * 256 + c.toNat := by
  rw [List.take_add_one, h, dn, List.foldl_append]
  rfl
theorem be4_num {l : List B8} {a : Nat} (h : a + 4 ≤ l.length) : be4 (num4 l a) = l4 l a := by
  have h1 := be_de (l4 l a) (by rw [l4_len h]; decide)
  rw [l4_len h] at h1
  rw [be4, num4, BitVec.ofNat_toNat, BitVec.setWidth_eq, h1]
theorem be4_inj {x y : BitVec 32} (h : be 4 (x.setWidth 64) = be 4 (y.setWidth 64)) : x = y := by
  have h1 := congrArg (fun l => (de 0#64 l).toNat) h
  have ex := x.isLt
  have ey := y.isLt
  simp only [de_mod 4 _ (by decide), BitVec.toNat_setWidth] at h1
  have : (256 : Nat) ^ 4 = 4294967296 := by decide
  rw [this] at h1
  refine BitVec.eq_of_toNat_eq ?_
  omega
theorem sum4_be {l : List B8} {a n : Nat} (h : a + 8 + n ≤ l.length) : be 4 ((sum4 l a n).setWidth 64) = l4 l (a + 4 + n) := by
  have h4 : a + 4 + n + 4 ≤ l.length := by omega
  have h1 := be_de (l4 l (a + 4 + n)) (by rw [l4_len h4]; decide)
  rw [l4_len h4] at h1
  have h2 := num4_lt h4
  rw [sum4, wide_id (w := 32) _ h2, h1]
theorem drop_split {l : List B8} {a n : Nat} (h : a + 8 + n ≤ l.length) : (l.drop a).take (n + 8) = l4 l a ++ (bod l a n ++ l4 l (a + 4 + n)) := by
  have e : n + 8 = 4 + (n + 4) := by omega
  rw [e, List.take_add, l4, bod, List.drop_drop, List.take_add, List.drop_drop, l4]
theorem frm_iff {l : List B8} {a n : Nat} (h : a + 8 + n ≤ l.length) (hn : num4 l a = n) : frm (bod l a n) = (l.drop a).take (n + 8) ↔ upd 0#32 (bod l a n) = sum4 l a n := by
  have hb : (bod l a n).length = n := bod_len (by omega)
  rw [drop_split h, frm, hb, ← be4_num (by omega), hn, List.append_cancel_left_eq, List.append_cancel_left_eq, ← sum4_be h, sumL]
  exact ⟨fun h => be4_inj h, fun h => by rw [h]⟩
theorem frm_get {l : List B8} {a n j : Nat} (h : a + 8 + n ≤ l.length) (hj : j < n + 8) : ((l.drop a).take (n + 8))[j]? = l[a + j]? := by
  rw [List.getElem?_take, if_pos hj, List.getElem?_drop]
theorem takeF_le {l : List B8} {at' : Int} : (takeF l at').1.length ≤ 8192 ∧ (takeF l at').1.length ≤ l.length := by
  unfold takeF
  split
  · exact ⟨Nat.zero_le _, Nat.zero_le _⟩
  · split
    · exact ⟨Nat.zero_le _, Nat.zero_le _⟩
    · split
      · exact ⟨Nat.zero_le _, Nat.zero_le _⟩
      · rename_i h1 h2
        split
        · have := bod_len (l := l) (a := at'.toNat) (n := num4 l at'.toNat) (by omega)
          dsimp only
          omega
        · exact ⟨Nat.zero_le _, Nat.zero_le _⟩
end Go.Proofs.Ythmdiopbiiimeaa.fr
