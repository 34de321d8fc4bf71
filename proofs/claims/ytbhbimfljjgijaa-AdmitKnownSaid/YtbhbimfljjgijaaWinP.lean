/- Windows as plain numbers: which are right, which a time is in. No program. -/
import Derived.Test.YtbhbimfljjgijaaNumP
namespace Go.Proofs.Ytbhbimfljjgijaa.win
open Go.RowKit
open Go.Proofs.Ytbhbimfljjgijaa.num (wf_i64 wf_of wrap64_of)

/-- may a window's number be? -/
def numB (n : Int) : Bool := decide (1 ≤ n ∧ n ≤ 1048576)
theorem numB_iff {n : Int} : numB n = true ↔ 1 ≤ n ∧ n ≤ 1048576 := by simp [numB]
/-- P14.1 -/
def rightB (k s l g : Int) : Bool :=
  (k == 1 && (numB s && (l == 0) && (g == 0))) || (k == 2 && (numB s && numB l && (g == 0) && (s % l == 0) && decide (s / l ≤ 16))) || (k == 3 && (numB g && (s == 0) && (l == 0)))
def stepV (k s l : Int) : Int := if k = 2 then l else s
def allB (zs : List Int) : Bool := zs.all numB
theorem allB_snoc (a : List Int) (x : Int) : allB (a ++ [x]) = (allB a && numB x) := by simp [allB]
theorem allB_snoc' (a : List Int) (x : Int) : allB (a ++ (some x).toList) = (allB a && numB x) := allB_snoc a x
/-- P14.2: the spans of a time's windows, q of them, one step apart; 'last' is where the last one begins -/
def winsL (last st sz : Int) (q : Nat) : List (Int × Int) := (List.range q).map fun i : Nat => (last - sz + st + i * st, last - sz + st + i * st + sz)
theorem winsL_succ (last st sz : Int) (q : Nat) : winsL last st sz (q + 1) = winsL last st sz q ++ [(last - sz + st + q * st, last - sz + st + q * st + sz)] := by
  simp [winsL, List.range_succ]
theorem winsL_length (last st sz : Int) (q : Nat) : (winsL last st sz q).length = q := by simp [winsL]
theorem winsL_get (last st sz : Int) {q i : Nat} (h : i < q) : (winsL last st sz q)[i]? = some (last - sz + st + i * st, last - sz + st + i * st + sz) := by simp [winsL, h]
def timeB (t : Int) : Bool := decide (-1099511627776 ≤ t ∧ t ≤ 1099511627776)
theorem timeB_iff {t : Int} : timeB t = true ↔ -1099511627776 ≤ t ∧ t ≤ 1099511627776 := by simp [timeB]
/-- P14.2 -/
def ofL (k s l g t : Int) : List (Int × Int) :=
  if rightB k s l g = true ∧ timeB t = true then
    if k = 3 then [(t, t + g)] else winsL (t - t % stepV k s l) (stepV k s l) s (s / stepV k s l).toNat
  else []
/-- P14.3 -/
def isB (k s l g a b : Int) : Bool :=
  rightB k s l g && decide (-2199023255552 ≤ a ∧ a ≤ 2199023255552 ∧ -4398046511104 ≤ b ∧ b ≤ 4398046511104) &&
    if k = 3 then timeB a && decide (a + g ≤ b) && decide (b ≤ 1099511627776 + g) else decide (b = a + s) && decide (a % stepV k s l = 0) && decide (-1099511627776 < b) && decide (a ≤ 1099511627776)
/-- what right windows have -/
theorem right_facts {k s l g : Int} (h : rightB k s l g = true) : (k = 3 ∧ 1 ≤ g ∧ g ≤ 1048576) ∨
    (k ≠ 3 ∧ 1 ≤ s ∧ s ≤ 1048576 ∧ 1 ≤ stepV k s l ∧ stepV k s l ≤ s ∧ s % stepV k s l = 0 ∧ 1 ≤ s / stepV k s l ∧ s / stepV k s l ≤ 16 ∧ (s / stepV k s l) * stepV k s l = s) := by
  unfold rightB at h
  simp only [Bool.or_eq_true, Bool.and_eq_true, beq_iff_eq, decide_eq_true_eq, numB_iff] at h
  rcases h with (⟨rfl, h1, h2, h3⟩ | ⟨rfl, ⟨⟨⟨h1, h2⟩, h3⟩, h4⟩, h5⟩) | ⟨rfl, ⟨h1, h2⟩, h3⟩
  · right
    have : stepV 1 s l = s := by simp [stepV]
    rw [this]
    have h6 : s / s = 1 := Int.ediv_self (by omega)
    refine ⟨by omega, by omega, by omega, by omega, by omega, by simp, by omega, by omega, by rw [h6]; omega⟩
  · right
    have : stepV 2 s l = l := by simp [stepV]
    rw [this]
    have h7 : s / l * l = s := Int.ediv_mul_cancel (Int.dvd_of_emod_eq_zero h4)
    have h8 : 1 ≤ s / l := by
      rcases Int.lt_or_le (s / l) 1 with h9 | h9
      · have := Int.mul_le_mul_of_nonneg_right (show s / l ≤ 0 by omega) (show 0 ≤ l by omega)
        omega
      · exact h9
    have h9 : l ≤ s := by
      have := Int.mul_le_mul_of_nonneg_right h8 (show 0 ≤ l by omega)
      omega
    exact ⟨by omega, by omega, by omega, by omega, h9, h4, h8, h5, h7⟩
  · left
    exact ⟨rfl, by omega, by omega⟩
/-- P14.4: what spans are together -/
def togS (a y : Int × Int) : Int × Int := (if y.1 < a.1 then y.1 else a.1, if y.2 > a.2 then y.2 else a.2)
def tog : List (Int × Int) → Int × Int
  | [] => (0, 0)
  | x :: xs => xs.foldl togS x
theorem tog_snoc {l : List (Int × Int)} (h : l ≠ []) (y : Int × Int) : tog (l ++ [y]) = togS (tog l) y := by
  cases l with
  | nil => exact absurd rfl h
  | cons x xs => simp [tog]
theorem tog_take {l : List (Int × Int)} {k : Nat} {y : Int × Int} (h : l[k]? = some y) (hk : k ≠ 0) : tog (l.take (k + 1)) = togS (tog (l.take k)) y := by
  rw [List.take_add_one, h]
  refine tog_snoc (fun e => ?_) y
  rcases List.take_eq_nil_iff.1 e with e | e
  · exact hk e
  · subst e; simp at h
theorem tog_first {l : List (Int × Int)} {y : Int × Int} (h : l[0]? = some y) : tog (l.take (0 + 1)) = y := by
  rw [List.take_add_one, h]
  simp [tog]
theorem togS_self (y : Int × Int) : togS y y = y := by simp [togS]
theorem tmod_zero {a b : Int} : (a.tmod b == 0) = decide (a % b = 0) := by
  rw [Bool.eq_iff_iff]
  simp only [beq_iff_eq, decide_eq_true_eq]
  constructor
  · intro h; exact Int.emod_eq_zero_of_dvd (Int.dvd_of_tmod_eq_zero h)
  · intro h; exact Int.tmod_eq_zero_of_dvd (Int.dvd_of_emod_eq_zero h)
theorem is_no {k s l g a b : Int} (h : (!rightB k s l g || decide (a < -2199023255552) || decide (a > 2199023255552) || decide (b < -4398046511104) || decide (b > 4398046511104)) = true) : false = isB k s l g a b := by
  unfold isB
  cases hr : rightB k s l g
  · rfl
  · simp [hr] at h
    have : decide (-2199023255552 ≤ a ∧ a ≤ 2199023255552 ∧ -4398046511104 ≤ b ∧ b ≤ 4398046511104) = false := by simp; omega
    simp [this]
theorem is_yes {k s l g a b : Int} (h : (!rightB k s l g || decide (a < -2199023255552) || decide (a > 2199023255552) || decide (b < -4398046511104) || decide (b > 4398046511104)) = false) :
    rightB k s l g = true ∧ -2199023255552 ≤ a ∧ a ≤ 2199023255552 ∧ -4398046511104 ≤ b ∧ b ≤ 4398046511104 := by
  simp at h
  obtain ⟨⟨⟨⟨h1, h2⟩, h3⟩, h4⟩, h5⟩ := h
  exact ⟨h1, by omega, by omega, by omega, by omega⟩
theorem isB_in {k s l g a b : Int} (h1 : rightB k s l g = true) (h2 : -2199023255552 ≤ a) (h3 : a ≤ 2199023255552) (h4 : -4398046511104 ≤ b) (h5 : b ≤ 4398046511104) :
    isB k s l g a b = if k = 3 then timeB a && decide (a + g ≤ b) && decide (b ≤ 1099511627776 + g) else decide (b = a + s) && decide (a % stepV k s l = 0) && decide (-1099511627776 < b) && decide (a ≤ 1099511627776) := by
  unfold isB
  rw [h1, decide_eq_true (by omega)]
  rfl
end Go.Proofs.Ytbhbimfljjgijaa.win
