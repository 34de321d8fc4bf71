import Derived.Test.YtepogieeaidnfaaWu
/- What a time's windows are: plain facts. No program. -/
namespace Go.Proofs.Ytepogieeaidnfaa.win
open Go.RowKit
/-- a time's windows: each has the time, is one, and is a step from the one before; sessions left out -/
theorem of_facts {k s l g t : Int} {xs : List (Int × Int)} (hx : ofL k s l g t = xs) (hr : rightB k s l g = true) (ht : timeB t = true) (h3 : k ≠ 3) :
    xs.length = (s / stepV k s l).toNat ∧ ∀ (i : Nat) (y : Int × Int), xs[i]? = some y → y.1 ≤ t ∧ t < y.2 ∧ y.2 = y.1 + s ∧ y.1 % stepV k s l = 0 ∧ -2199023255552 ≤ y.1 ∧ (0 < i → k = 2 ∧ ∃ z, xs[i - 1]? = some z ∧ y.1 - z.1 = l ∧ y.2 - z.2 = l) := by
  have hf := right_facts hr
  obtain ⟨_, hs1, hs2, hst, hst2, hm, hq1, hq2, hq⟩ := hf.resolve_left (by omega)
  have hT := timeB_iff.1 ht
  rw [of_wins hr ht h3] at hx
  subst hx
  refine ⟨winsL_length .., fun i y hy => ?_⟩
  have hi : i < (s / stepV k s l).toNat := by
    have := (List.getElem?_eq_some_iff.1 hy).1
    rwa [winsL_length] at this
  rw [winsL_get _ _ _ hi] at hy
  have hstep : 0 < i → k = 2 := by
    intro h0
    refine Decidable.byContradiction fun h2 => ?_
    have e : stepV k s l = s := by simp [stepV, h2]
    rw [e, Int.ediv_self (by omega)] at hi
    omega
  have hstl : k = 2 → stepV k s l = l := fun h => by simp [stepV, h]
  have hprev : 0 < i → (winsL (t - t % stepV k s l) (stepV k s l) s (s / stepV k s l).toNat)[i - 1]? = some (t - t % stepV k s l - s + stepV k s l + ((i - 1 : Nat) : Int) * stepV k s l, t - t % stepV k s l - s + stepV k s l + ((i - 1 : Nat) : Int) * stepV k s l + s) := fun h0 => winsL_get _ _ _ (by omega)
  generalize hqe : s / stepV k s l = q at *
  obtain ⟨q, rfl⟩ := Int.eq_ofNat_of_zero_le (show 0 ≤ q by omega)
  generalize stepV k s l = st at *
  have hd : ∃ c, (t - t % st) - s + st + i * st = st * c := by
    have e1 : t - t % st = st * (t / st) := by have := Int.emod_add_mul_ediv t st; omega
    refine ⟨t / st - q + 1 + i, ?_⟩
    rw [e1, ← hq, Int.mul_add, Int.mul_add, Int.mul_sub, Int.mul_one, Int.mul_comm st q, Int.mul_comm st (i : Int)]
  have hw := try_facts (x := (i : Int)) (t := t) hst hq rfl (by omega) (by omega)
  have h2 := Int.emod_nonneg t (b := st) (by omega)
  have h3' := Int.emod_lt_of_pos t (show 0 < st by omega)
  obtain ⟨w1, w2, w3, w4, w5⟩ := hw
  have hi' : (i : Int) < q := by omega
  have w3 := w3.2 hi'
  have w4 := w4.2 hi'
  have w5 := w5.2 (by omega)
  have w6 : 0 ≤ (i : Int) * st := Int.mul_nonneg (by omega) (by omega)
  cases hy
  dsimp only
  refine ⟨w4, w5, rfl, ?_, by omega, fun h0 => ⟨hstep h0, _, hprev h0, ?_⟩⟩
  · obtain ⟨c, hc⟩ := hd
    rw [hc]
    exact Int.mul_emod_right ..
  · have e : (i : Int) * st = ((i - 1 : Nat) : Int) * st + st := by
      have : (i : Int) = ((i - 1 : Nat) : Int) + 1 := by omega
      rw [this, Int.add_mul, Int.one_mul]
    have := hstl (hstep h0)
    dsimp only
    omega
theorem of_len {k s l g t : Int} {xs : List (Int × Int)} (hx : ofL k s l g t = xs) : xs.length ≤ 16 := by
  by_cases h : rightB k s l g = true ∧ timeB t = true
  · obtain ⟨hr, ht⟩ := h
    by_cases h3 : k = 3
    · rw [of_ses hr ht h3] at hx
      subst hx
      simp
    · have h1 := (of_facts hx hr ht h3).1
      have h2 := (right_facts hr).resolve_left (by omega)
      omega
  · have : ofL k s l g t = [] := by rw [ofL, if_neg h]
    rw [this] at hx
    subst hx
    simp
/-- each of a time's windows is one -/
theorem of_is {k s l g t : Int} {xs : List (Int × Int)} (hx : ofL k s l g t = xs) {i : Nat} {y : Int × Int} (hy : xs[i]? = some y) : isB k s l g y.1 y.2 = true := by
  by_cases h : rightB k s l g = true ∧ timeB t = true
  · obtain ⟨hr, ht⟩ := h
    have hT := timeB_iff.1 ht
    by_cases h3 : k = 3
    · have hf := right_facts hr
      rw [of_ses hr ht h3] at hx
      subst hx
      have hi : i = 0 := by
        have := (List.getElem?_eq_some_iff.1 hy).1
        simp at this
        exact this
      subst hi
      cases hy
      dsimp only
      have hg : 1 ≤ g ∧ g ≤ 1048576 := by omega
      rw [isB_in hr (by omega) (by omega) (by omega) (by omega), if_pos h3, ht]
      simp
      omega
    · have hf := right_facts hr
      have hf := hf.resolve_left (by omega)
      obtain ⟨_, hall⟩ := of_facts hx hr ht h3
      obtain ⟨f1, f2, f3, f4, f5, _⟩ := hall i y hy
      rw [isB_in hr (by omega) (by omega) (by omega) (by omega), if_neg h3]
      simp [f4, f3]
      omega
  · have : ofL k s l g t = [] := by rw [ofL, if_neg h]
    rw [this] at hx
    subst hx
    cases hy
/-- a window has the time iff it is among the time's -/
theorem of_found {k s l g t a b : Int} {xs : List (Int × Int)} (hx : ofL k s l g t = xs) (ht : timeB t = true) (h3 : k ≠ 3) (hb : isB k s l g a b = true) : (decide (t ≥ a) && decide (t < b)) = xs.any fun y => y.1 == a && y.2 == b := by
  have hr : rightB k s l g = true := by
    unfold isB at hb
    simp only [Bool.and_eq_true] at hb
    exact hb.1.1
  have hI : -2199023255552 ≤ a ∧ a ≤ 2199023255552 ∧ -4398046511104 ≤ b ∧ b ≤ 4398046511104 := by
    unfold isB at hb
    simp only [Bool.and_eq_true, decide_eq_true_eq] at hb
    exact hb.1.2
  rw [isB_in hr hI.1 hI.2.1 hI.2.2.1 hI.2.2.2, if_neg h3] at hb
  simp only [Bool.and_eq_true, decide_eq_true_eq] at hb
  obtain ⟨⟨⟨hba, ha0⟩, _⟩, _⟩ := hb
  rw [Bool.eq_iff_iff]
  simp only [Bool.and_eq_true, decide_eq_true_eq, List.any_eq_true, beq_iff_eq]
  constructor
  · rintro ⟨h1, h2⟩
    obtain ⟨_, hs1, hs2, hst, hst2, hm, hq1, hq2, hq⟩ := (right_facts hr).resolve_left (by omega)
    rw [of_wins hr ht h3] at hx
    subst hx
    generalize hqe : s / stepV k s l = q at *
    obtain ⟨q, rfl⟩ := Int.eq_ofNat_of_zero_le (show 0 ≤ q by omega)
    generalize stepV k s l = st at *
    have h4 := Int.emod_nonneg t (b := st) (by omega)
    have h5 := Int.emod_lt_of_pos t (show 0 < st by omega)
    have e1 : t - t % st = st * (t / st) := by have := Int.emod_add_mul_ediv t st; omega
    have e2 : a = st * (a / st) := by have := Int.emod_add_mul_ediv a st; omega
    -- the number of the window
    have e3 : (a / st - t / st + q - 1) * st = a - (t - t % st) + s - st := by
      rw [e1, ← hq, Int.sub_mul, Int.add_mul, Int.sub_mul, Int.one_mul, Int.mul_comm (a / st) st, ← e2, Int.mul_comm (t / st) st]
    have n1 : 0 ≤ a / st - t / st + q - 1 := by
      refine Decidable.byContradiction fun h => ?_
      have := Int.mul_le_mul_of_nonneg_right (show a / st - t / st + q - 1 ≤ -1 by omega) (show 0 ≤ st by omega)
      omega
    have n2 : a / st - t / st + q - 1 < q := by
      refine Decidable.byContradiction fun h => ?_
      have := Int.mul_le_mul_of_nonneg_right (show (q : Int) ≤ a / st - t / st + q - 1 by omega) (show 0 ≤ st by omega)
      omega
    obtain ⟨i, hi⟩ := Int.eq_ofNat_of_zero_le n1
    rw [hi] at e3 n2
    refine ⟨_, List.mem_of_getElem? (winsL_get _ _ _ (i := i) (by omega)), ?_, ?_⟩
    · dsimp only; omega
    · dsimp only; omega
  · rintro ⟨y, hy, h1, h2⟩
    obtain ⟨i, hi⟩ := List.getElem?_of_mem hy
    obtain ⟨f1, f2, _⟩ := (of_facts hx hr ht h3).2 i y hi
    omega
end Go.Proofs.Ytepogieeaidnfaa.win
