/- events, plainly: what is packed is taken as it was; what is taken was packed so. -/
import Derived.Test.YtbhbimfljjgijaaEo
import Derived.Test.YtbhbimfljjgijaaPp
namespace Go.Proofs.Ytbhbimfljjgijaa.ev
open Go.RowKit Go.Proofs.Ytbhbimfljjgijaa.kit Go.Proofs.Ytbhbimfljjgijaa.pk
attribute [local irreducible] be
theorem de_one (k : B8) : (de 0#64 [k]).setWidth 8 = k := by simp [de]
def In64 (x : Int) : Prop := -9223372036854775808 ≤ x ∧ x < 9223372036854775808
theorem toInt_ofInt {x : Int} (h : In64 x) : (BitVec.ofInt 64 x).toInt = x := by
  obtain ⟨h1, h2⟩ := h
  rw [BitVec.toInt_ofInt, Int.bmod_def]
  show (if x % 18446744073709551616 < (18446744073709551616 + 1) / 2 then x % 18446744073709551616 else x % 18446744073709551616 - 18446744073709551616) = x
  omega
theorem EOp.eqB_iff (a b : EOp) : a.eqB b = true ↔ a = b := by
  cases a; cases b
  simp only [EOp.eqB, Bool.and_eq_true, beq_iff_eq, EOp.mk.injEq]
  refine and_congr_left fun _ => ⟨fun h => BitVec.eq_of_toNat_eq (by exact_mod_cast h), fun h => by rw [h]⟩
theorem EOp.right_mark {o : EOp} (h : o.right = 0) (hk : o.k = 2#8) : o.key = [] ∧ o.v = 0 := by
  by_cases hb : o.bad
  · rw [EOp.right60 (by intro ⟨_, h2⟩; exact h2 hk) hb] at h
    cases h
  · have h1 : ¬ (o.key ≠ [] ∨ o.v ≠ 0) := fun h2 => hb (.inr ⟨hk, h2⟩)
    rw [not_or, Classical.not_not, Classical.not_not] at h1
    exact h1
theorem bytes1 (s : List B8) (t v : Int) : (EOp.mk 1#8 s t v).bytes = [1#8] ++ (txt s ++ (be 8 (BitVec.ofInt 64 t) ++ be 8 (BitVec.ofInt 64 v))) := by rw [EOp.bytes, body1]; rfl
theorem bytes2 (s : List B8) (t v : Int) : (EOp.mk 2#8 s t v).bytes = [2#8] ++ be 8 (BitVec.ofInt 64 t) := by rw [EOp.bytes, body2]; rfl
structure EOp.In (o : EOp) : Prop where
  t : In64 o.t
  v : In64 o.v
theorem nx_put {l rest : List B8} {at' : Nat} {o : EOp} (hr : o.right = 0) (hw : o.In) (hd : l.drop at' = o.bytes ++ rest) (hat : at' ≤ l.length) :
    nx l at' = (o, 0, at' + o.bytes.length, false) ∧ l.drop (at' + o.bytes.length) = rest ∧ at' + o.bytes.length ≤ l.length := by
  have hkey := EOp.right_key hr
  rcases EOp.right_kind hr with hk | hk
  · obtain ⟨k, s, t, v⟩ := o
    dsimp only at hk hkey
    subst hk
    rw [bytes1] at hd ⊢
    simp only [List.append_assoc] at hd
    obtain ⟨e1, d1, h1⟩ := rTake_put hd (k := 1) rfl hat
    obtain ⟨e2, d2, h2⟩ := rText_put d1 (by omega) h1
    obtain ⟨e3, d3, h3⟩ := rTake_put d2 (be_len 8 _) h2
    obtain ⟨e4, d4, h4⟩ := rTake_put d3 (be_len 8 _) h3
    have el : at' + ([1#8] ++ (txt s ++ (be 8 (BitVec.ofInt 64 t) ++ be 8 (BitVec.ofInt 64 v)))).length = at' + 1 + (txt s).length + 8 + 8 := by simp only [List.length_append, be_len, List.length_singleton]; omega
    rw [el]
    refine ⟨?_, d4, h4⟩
    unfold nx
    rw [e1]
    dsimp only
    rw [if_neg (by decide), de_one, if_pos rfl]
    unfold nxE
    rw [e2]
    dsimp only
    rw [e3]
    dsimp only
    rw [e4]
    dsimp only
    rw [de_8, de_8, toInt_ofInt hw.t, toInt_ofInt hw.v]
    rfl
  · obtain ⟨hs, hv⟩ := EOp.right_mark hr hk
    obtain ⟨k, s, t, v⟩ := o
    dsimp only at hk hs hv
    subst hk hs hv
    rw [bytes2] at hd ⊢
    simp only [List.append_assoc] at hd
    obtain ⟨e1, d1, h1⟩ := rTake_put hd (k := 1) rfl hat
    obtain ⟨e2, d2, h2⟩ := rTake_put d1 (be_len 8 _) h1
    have el : at' + ([2#8] ++ be 8 (BitVec.ofInt 64 t)).length = at' + 1 + 8 := by simp only [List.length_append, be_len, List.length_singleton] <;> omega
    rw [el]
    refine ⟨?_, d2, h2⟩
    unfold nx
    rw [e1]
    dsimp only
    rw [if_neg (by decide), de_one, if_neg (by decide), if_pos rfl]
    unfold nxM
    rw [e2]
    dsimp only
    rw [de_8, toInt_ofInt hw.t]
    rfl
theorem be_one' (x : BitVec 64) : be 1 x = [x.setWidth 8] := by unfold be; unfold be; simp
theorem nx_got {l : List B8} {at' : Nat} (h : (nx l at').2.1 = 0) : l.drop at' = (nx l at').1.bytes ++ l.drop (nx l at').2.2.1 ∧ (nx l at').2.2.1 = at' + (nx l at').1.bytes.length ∧ (nx l at').2.2.1 ≤ l.length := by
  unfold nx at h ⊢
  split at h
  · cases h
  · rename_i h1
    rw [if_neg h1]
    obtain ⟨d1, e1, g1⟩ := rTake_got (by simpa using h1) (by decide)
    rw [be_one'] at d1
    split at h
    · rename_i hk
      rw [if_pos hk]
      have hf := eN_zero h
      have hf3 := rTake_f hf
      have hf2 := rTake_f hf3
      obtain ⟨d2, e2, g2, _⟩ := rText_got hf2
      simp only [nxE, hf2] at *
      rw [hf3] at hf ⊢
      obtain ⟨d3, e3, g3⟩ := rTake_got hf3 (by decide)
      obtain ⟨d4, e4, g4⟩ := rTake_got hf (by decide)
      rw [bytes1, BitVec.ofInt_toInt, BitVec.ofInt_toInt]
      refine ⟨?_, ?_, by rw [e4]; exact g4⟩
      · rw [List.append_assoc, List.append_assoc, List.append_assoc, ← d4, ← d3, ← d2, ← hk, ← d1]
      · simp only [List.length_append, be_len, List.length_singleton]
        omega
    · rename_i hk1
      rw [if_neg hk1]
      split at h
      · rename_i hk
        rw [if_pos hk]
        have hf := eN_zero h
        simp only [nxM] at *
        obtain ⟨d2, e2, g2⟩ := rTake_got hf (by decide)
        rw [bytes2, BitVec.ofInt_toInt]
        refine ⟨?_, ?_, by rw [e2]; exact g2⟩
        · rw [List.append_assoc, ← d2, ← hk, ← d1]
        · simp only [List.length_append, be_len, List.length_singleton]
          omega
      · cases h
theorem prs_put {o : EOp} (hr : o.right = 0) (hw : o.In) : prs o.bytes = (o, 0) := by
  obtain ⟨e, _, _⟩ := nx_put (l := o.bytes) (at' := 0) (rest := []) hr hw (by simp) (Nat.zero_le _)
  unfold prs
  rw [e]
  dsimp only
  rw [if_neg (by simp), if_neg (by omega), if_neg (by simp [hr])]
theorem prs_got {l : List B8} (h : (prs l).2 = 0) : (prs l).1.right = 0 ∧ (prs l).1.bytes = l := by
  unfold prs at h ⊢
  split at h
  · rename_i h1; exact absurd h h1
  · rename_i h1
    rw [Classical.not_not] at h1
    rw [if_neg (by simp [h1])]
    split at h
    · cases h
    · rename_i h2
      rw [if_neg h2]
      split at h
      · rename_i h3; exact absurd h h3
      · rename_i h3
        rw [if_neg h3]
        obtain ⟨d, e, g⟩ := nx_got h1
        refine ⟨by simpa using h3, ?_⟩
        dsimp only
        rw [List.drop_zero, List.drop_eq_nil_of_le (by omega), List.append_nil] at d
        exact d.symm
theorem prs_err {l : List B8} (h : (prs l).2 ≠ 0) : (prs l).1 = zOp := by
  unfold prs at h ⊢
  split at h
  · rename_i h1; rw [if_pos h1]
  · rename_i h1
    rw [if_neg h1]
    split at h
    · rename_i h2; rw [if_pos h2]
    · rename_i h2
      rw [if_neg h2]
      split at h
      · rename_i h3; rw [if_pos h3]
      · exact absurd rfl h
theorem bytes_pos (o : EOp) : 0 < o.bytes.length := by simp [EOp.bytes]
theorem cats_drop (os : List EOp) (i : Nat) : (cats os).drop (cats (os.take i)).length = cats (os.drop i) := by
  have : cats os = cats (os.take i) ++ cats (os.drop i) := by
    rw [cats, cats, cats, ← List.flatMap_append, List.take_append_drop]
  rw [this, List.drop_left]
theorem cats_take_le (os : List EOp) (i : Nat) : (cats (os.take i)).length ≤ (cats os).length := by
  have : cats os = cats (os.take i) ++ cats (os.drop i) := by
    rw [cats, cats, cats, ← List.flatMap_append, List.take_append_drop]
  rw [this, List.length_append]
  omega
theorem pall_put {os : List EOp} (hr : ∀ o ∈ os, o.right = 0) (hw : ∀ o ∈ os, o.In) : pall (cats os) = (os, 0) := by
  have key : ∀ i, i ≤ os.length → OnWay (cats os) (cats (os.take i)).length (os.take i) := by
    intro i
    induction i with
    | zero => intro _; exact onWay_start _
    | succ i ih =>
      intro hi
      obtain ⟨o, hx⟩ : ∃ o, os[i]? = some o := ⟨_, List.getElem?_eq_getElem (by omega)⟩
      have ho := List.mem_of_getElem? hx
      have hd := cats_drop os i
      have hdr : os.drop i = o :: os.drop (i + 1) := by
        rw [List.drop_eq_getElem_cons (by omega), (List.getElem?_eq_some_iff.1 hx).2]
      have hc : cats (o :: os.drop (i + 1)) = o.bytes ++ cats (os.drop (i + 1)) := rfl
      rw [hdr, hc] at hd
      obtain ⟨e, _, hle⟩ := nx_put (hr o ho) (hw o ho) hd (cats_take_le os i)
      have hpos := bytes_pos o
      have := onWay_next (ih (by omega)) (by omega) (by rw [e]) (by rw [e]; exact hr o ho)
      rw [e] at this
      dsimp only at this
      rw [cats_take hx, List.length_append, List.take_add_one, hx]
      exact this
  have := key os.length (Nat.le_refl _)
  rw [List.take_of_length_le (Nat.le_refl _)] at this
  exact onWay_end this (by omega)
/-- none is packed as the beginning of another one -/
theorem bytes_pre {a b : EOp} (ha : a.right = 0) (hb : b.right = 0) (wa : a.In) (wb : b.In) (h : b.bytes.take a.bytes.length = a.bytes) : a = b := by
  obtain ⟨e1, _, _⟩ := nx_put (l := b.bytes) (at' := 0) (rest := []) hb wb (by simp) (Nat.zero_le _)
  obtain ⟨e2, _, _⟩ := nx_put (l := b.bytes) (at' := 0) (rest := b.bytes.drop a.bytes.length) ha wa (by rw [List.drop_zero]; conv => { rhs; lhs; rw [← h] }; rw [List.take_append_drop]) (Nat.zero_le _)
  rw [e1] at e2
  exact (congrArg (·.1) e2).symm
end Go.Proofs.Ytbhbimfljjgijaa.ev
