/- frames: streams, plainly. -/
import Derived.Test.YthmdiopbiiimeaaFr
namespace Go.Proofs.Ythmdiopbiiimeaa.fr
open Go.RowKit Go.Proofs.Ythmdiopbiiimeaa.kit Go.Proofs.Ythmdiopbiiimeaa.pk Go.Proofs.Ythmdiopbiiimeaa.chk Go.Proofs.Ythmdiopbiiimeaa.crc
theorem takeF_drop {l : List B8} {a : Nat} (ha : a ≤ l.length) : takeF l (a : Int) = ((takeF (l.drop a) ((0 : Nat) : Int)).1, (takeF (l.drop a) ((0 : Nat) : Int)).2.1 + a, (takeF (l.drop a) ((0 : Nat) : Int)).2.2) := by
  have e1 : l4 (l.drop a) 0 = l4 l a := by rw [l4, l4, List.drop_zero]
  have e2 : num4 (l.drop a) 0 = num4 l a := by rw [num4, num4, e1]
  have e3 : ∀ n, bod (l.drop a) 0 n = bod l a n := fun n => by rw [bod, bod, List.drop_drop, Nat.zero_add]
  have e4 : ∀ n, sum4 (l.drop a) 0 n = sum4 l a n := fun n => by rw [sum4, sum4, l4, l4, List.drop_drop, show a + (0 + 4 + n) = a + 4 + n by omega]
  have e5 : (l.drop a).length = l.length - a := List.length_drop
  by_cases h1 : l.length < a + 4
  · rw [takeF_more (by omega), takeF_more (l := l.drop a) (by rw [e5]; omega)]
    simp
  by_cases h2 : 8192 < num4 l a
  · rw [takeF_long (by omega) h2, takeF_long (l := l.drop a) (by rw [e5]; omega) (by rw [e2]; exact h2)]
    simp
  by_cases h3 : l.length < a + 8 + num4 l a
  · rw [takeF_short (by omega) h2 h3, takeF_short (l := l.drop a) (by rw [e5]; omega) (by rw [e2]; exact h2) (by rw [e5, e2]; omega)]
    simp
  have e6 : ((a + 8 + num4 l a : Nat) : Int) = ((0 + 8 + num4 l a : Nat) : Int) + a := by omega
  by_cases hs : upd 0#32 (bod l a (num4 l a)) = sum4 l a (num4 l a)
  · rw [takeF_good h2 h3 hs, takeF_good (l := l.drop a) (by rw [e2]; exact h2) (by rw [e2, e5]; omega) (by rw [e2, e3, e4]; exact hs), e2, e3, e6]
  · rw [takeF_bad h2 h3 hs, takeF_bad (l := l.drop a) (by rw [e2]; exact h2) (by rw [e2, e5]; omega) (by rw [e2, e3, e4]; exact hs), e2, e6]
theorem takeF_take {l : List B8} {p : Nat} (hp : p ≤ l.length) (h : (takeF (l.take p) ((0 : Nat) : Int)).2.2 ≠ 70) : takeF l ((0 : Nat) : Int) = takeF (l.take p) ((0 : Nat) : Int) := by
  have e5 : (l.take p).length = p := by rw [List.length_take]; omega
  have hp4 : 4 ≤ p := by
    rcases Nat.lt_or_ge p 4 with h4 | h4
    · exact absurd (by rw [takeF_more (by rw [e5]; omega)]) h
    · exact h4
  have e1 : l4 (l.take p) 0 = l4 l 0 := by rw [l4, l4, List.drop_zero, List.drop_zero, List.take_take, Nat.min_eq_left hp4]
  have e2 : num4 (l.take p) 0 = num4 l 0 := by rw [num4, num4, e1]
  by_cases h2 : 8192 < num4 l 0
  · rw [takeF_long (by omega) h2, takeF_long (by rw [e5]; omega) (by rw [e2]; exact h2)]
  · have hp8 : 8 + num4 l 0 ≤ p := by
      rcases Nat.lt_or_ge p (8 + num4 l 0) with h4 | h4
      · exact absurd (by rw [takeF_short (by rw [e5]; omega) (by rw [e2]; exact h2) (by rw [e5, e2]; omega)]) h
      · exact h4
    generalize hN : num4 l 0 = N at *
    have e3 : bod (l.take p) 0 N = bod l 0 N := by rw [bod, bod, List.drop_take, List.take_take, Nat.min_eq_left (by omega)]
    have e4 : sum4 (l.take p) 0 N = sum4 l 0 N := by rw [sum4, sum4, l4, l4, List.drop_take, List.take_take, Nat.min_eq_left (by omega)]
    by_cases hs : upd 0#32 (bod l 0 N) = sum4 l 0 N
    · rw [takeF_good (by rw [hN]; exact h2) (by rw [hN]; omega) (by rw [hN]; exact hs), takeF_good (by rw [e2]; exact h2) (by rw [e2, e5]; omega) (by rw [e2, e3, e4]; exact hs), hN, e2, e3]
    · rw [takeF_bad (by rw [hN]; exact h2) (by rw [hN]; omega) (by rw [hN]; exact hs), takeF_bad (by rw [e2]; exact h2) (by rw [e2, e5]; omega) (by rw [e2, e3, e4]; exact hs), hN, e2]
/-- where a stream stands that was fed the first p bytes: what it told, what it keeps -/
def Sst (l : List B8) (p : Nat) (tl : Told) : Option (List B8) → Prop
  | some K => ∃ a, a ≤ p ∧ K = (l.take p).drop a ∧ OnAll l a tl ∧ ∀ x ∈ tl, x.2 ≠ 71
  | none => (allF l).1 = tl ∧ ∃ t0 bd, tl = t0 ++ [(bd, 71)]
theorem Sst.start (l : List B8) : Sst l 0 [] (some []) := ⟨0, Nat.le_refl _, by simp, onAll_start l, fun x hx => by cases hx⟩
theorem Sst.at_ {l : List B8} {p : Nat} {K bd : List B8} {nx : Nat} {e : Int} {a : Nat} (hp : p ≤ l.length) (ha : a ≤ p) (hK : K = (l.take p).drop a) (hT : takeF K ((0 : Nat) : Int) = (bd, (nx : Int), e)) (h70 : e ≠ 70) : takeF l (a : Int) = (bd, (nx : Int) + a, e) := by
  have e1 : K = (l.drop a).take (p - a) := by rw [hK, List.drop_take]
  have h1 := takeF_take (l := l.drop a) (p := p - a) (by rw [List.length_drop]; omega) (by rw [← e1, hT]; exact h70)
  rw [← e1, hT] at h1
  rw [takeF_drop (by omega), h1]
theorem Sst.rch {l : List B8} {p : Nat} {tl0 : Told} {o0 : Option (List B8)} (hp : p ≤ l.length) (h0 : Sst l p tl0 o0) {tl : Told} {o : Option (List B8)} (h : Rch o0 tl o) : Sst l p (tl0 ++ tl) o := by
  induction h with
  | start => rwa [List.append_nil]
  | more _ hT h70 h71 ih =>
    rename_i tl K bd nx e _
    obtain ⟨a, ha, hK, hon, hne⟩ := ih
    have hl := Sst.at_ hp ha hK hT h70
    have hlen : K.length = p - a := by rw [hK, List.length_drop, List.length_take]; omega
    obtain ⟨b, hb1, hb2, hb3⟩ := takeF_next (l := K) (a := 0) (by rw [hT]; exact h70) (by rw [hT]; exact h71)
    rw [hT] at hb1
    have hbn : nx = b := by dsimp only at hb1; omega
    have hnx := onAll_next (b := a + nx) hon (by rw [hl]; exact h70) (by rw [hl]; exact h71) (by rw [hl]; dsimp only; omega)
    rw [hl] at hnx
    refine ⟨a + nx, by omega, by rw [hK, List.drop_drop], by rw [← List.append_assoc]; exact hnx, fun x hx => ?_⟩
    rw [← List.append_assoc] at hx
    rcases List.mem_append.1 hx with hx | hx
    · exact hne x hx
    · obtain rfl := List.mem_singleton.1 hx
      exact h71
  | long _ hT ih =>
    rename_i tl K bd nx _
    obtain ⟨a, ha, hK, hon, hne⟩ := ih
    have hl := Sst.at_ hp ha hK hT (by decide)
    have := onAll_long hon (by rw [hl])
    rw [hl] at this
    refine ⟨by rw [this, ← List.append_assoc], tl0 ++ tl, bd, by rw [List.append_assoc]⟩
theorem Sst.feed {l : List B8} {p m : Nat} {tl : Told} {o : Option (List B8)} (hp : p + m ≤ l.length) (h : Sst l p tl o) : Sst l (p + m) tl (o.map (· ++ (l.drop p).take m)) := by
  cases o with
  | none => exact h
  | some K =>
    obtain ⟨a, ha, hK, hon, hne⟩ := h
    refine ⟨a, by omega, ?_, hon, hne⟩
    rw [hK, List.take_add, List.drop_append_of_le_length (by rw [List.length_take]; omega)]
theorem Sst.len {l : List B8} {p : Nat} {tl : Told} {K : List B8} (hp : p ≤ l.length) (h : Sst l p tl (some K)) : K.length ≤ p := by
  obtain ⟨a, ha, hK, _⟩ := h
  rw [hK, List.length_drop, List.length_take]
  omega
theorem Sst.fin {l : List B8} {tl : Told} {K : List B8} (h : Sst l l.length tl (some K)) (h70 : (takeF K ((0 : Nat) : Int)).2.2 = 70) : allF l = (tl, l.length - K.length) ∧ K.length ≤ l.length ∧ ∀ x ∈ tl, x.2 ≠ 71 := by
  have hle := h.len (Nat.le_refl _)
  obtain ⟨a, ha, hK, hon, hne⟩ := h
  rw [List.take_length] at hK
  have hl := takeF_drop (l := l) (a := a) ha
  rw [← hK] at hl
  refine ⟨?_, hle, hne⟩
  rw [onAll_end hon (by rw [hl]; exact h70), hK, List.length_drop, show l.length - (l.length - a) = a by omega]
end Go.Proofs.Ythmdiopbiiimeaa.fr
