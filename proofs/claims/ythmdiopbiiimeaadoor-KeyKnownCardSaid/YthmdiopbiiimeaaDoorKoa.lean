/- keys: the rows of KeyOrder, in plain lists. -/
import Derived.Test.YthmdiopbiiimeaaDoorKrs
namespace Go.Proofs.YthmdiopbiiimeaaDoor.ky
open Go.RowKit Go.Proofs.YthmdiopbiiimeaaDoor.pk Go.Proofs.YthmdiopbiiimeaaDoor.bd
def at_ {α : Type} (l : List α) (i : Nat) (d : α) : α := (l[i % l.length]?).getD d
theorem at_mem {α : Type} {l : List α} {d : α} (i : Nat) (h : l ≠ []) : ∃ x, l[i % l.length]? = some x ∧ at_ l i d = x ∧ x ∈ l := by
  have hp : 0 < l.length := by cases l with | nil => exact (h rfl).elim | cons => simp
  have hlt := Nat.mod_lt i hp
  refine ⟨_, List.getElem?_eq_getElem hlt, by rw [at_, List.getElem?_eq_getElem hlt]; rfl, List.getElem_mem _⟩
theorem at_nil {α : Type} {d : α} (i : Nat) : at_ [] i d = d := rfl
theorem at_all {α : Type} {l : List α} {d : α} {φ : α → Prop} (i : Nat) (h : ∀ x ∈ l, φ x) (hd : φ d) : φ (at_ l i d) := by
  by_cases hl : l = []
  · subst hl; exact hd
  · obtain ⟨x, _, e, hx⟩ := at_mem (d := d) i hl
    rw [e]; exact h x hx
def rowI (n : List Int) (s : List (List B8)) (i : Nat) (k : B8) : KP := if k = 1#8 then KP.num (at_ n i 0) else KP.txt (at_ s i [])
def rowP (l : List KP) (n : List Int) (s : List (List B8)) : Nat → List KP
  | 0 => []
  | j + 1 => rowP l n s j ++ (l[j]?.map fun p => rowI n s j p.k).toList
theorem rowP_succ {l : List KP} {n : List Int} {s : List (List B8)} {j : Nat} {p : KP} (h : l[j]? = some p) : rowP l n s (j + 1) = rowP l n s j ++ [rowI n s j p.k] := by
  rw [rowP, h]; rfl
theorem rowP_len {l : List KP} {n : List Int} {s : List (List B8)} : ∀ {j : Nat}, j ≤ l.length → (rowP l n s j).length = j
  | 0, _ => rfl
  | j + 1, h => by
    rw [rowP_succ (List.getElem?_eq_getElem (show j < l.length by omega)), List.length_append, rowP_len (by omega)]
    rfl
theorem rowI_k (n : List Int) (s : List (List B8)) (i : Nat) (k : B8) : (rowI n s i k).k = if k = 1#8 then 1#8 else 2#8 := by
  unfold rowI
  split <;> rfl
theorem rowP_k (l : List KP) (n n' : List Int) (s s' : List (List B8)) : ∀ j, (rowP l n s j).map KP.k = (rowP l n' s' j).map KP.k
  | 0 => rfl
  | j + 1 => by
    rw [rowP, rowP, List.map_append, List.map_append, rowP_k l n n' s s' j]
    cases l[j]? with
    | none => rfl
    | some p => simp [rowI_k]
theorem rowP_all {l : List KP} {n : List Int} {s : List (List B8)} {φ : KP → Prop} (h : ∀ i k, φ (rowI n s i k)) : ∀ j, ∀ p ∈ rowP l n s j, φ p
  | 0, p, hp => by cases hp
  | j + 1, p, hp => by
    rw [rowP] at hp
    rcases List.mem_append.1 hp with hp | hp
    · exact rowP_all h j p hp
    · cases hl : l[j]? with
      | none => rw [hl] at hp; cases hp
      | some q =>
        rw [hl] at hp
        obtain rfl : p = rowI n s j q.k := by simpa using hp
        exact h _ _
theorem rowP_ok {l : List KP} {n : List Int} {s : List (List B8)} (hn : ∀ x ∈ n, Fit x) (j : Nat) : ∀ p ∈ rowP l n s j, p.Ok :=
  rowP_all (fun i k => by
    unfold rowI
    split
    · exact .inl ⟨_, at_all i hn ⟨by decide, by decide⟩, rfl⟩
    · exact .inr ⟨_, rfl⟩) j
theorem rowP_s {l : List KP} {n : List Int} {s : List (List B8)} (hs : ∀ x ∈ s, x.length ≤ 100) (j : Nat) : ∀ p ∈ rowP l n s j, p.s.length ≤ 100 :=
  rowP_all (fun i k => by
    unfold rowI
    split
    · exact Nat.zero_le _
    · exact at_all (φ := fun x : List B8 => x.length ≤ 100) i hs (Nat.zero_le _)) j
/-- texts, in a row -/
def strs (l : List (List B8)) : List Value := l.flatMap fun s => [.string (sb s)]
theorem strs_get {l : List (List B8)} {i : Nat} {x : List B8} (h : l[i]? = some x) : (strs l)[mulI i 1]? = some (.string (sb x)) := by
  have := flat_get (f := fun s : List B8 => [Value.string (sb s)]) (m := 1) (fun _ => rfl) h (j := 0) (by decide)
  exact this.trans rfl
theorem strs_len (l : List (List B8)) : (strs l).length = l.length := by
  rw [strs, flat_len (f := fun s : List B8 => [Value.string (sb s)]) (m := 1) (fun _ => rfl), Nat.mul_one]
theorem strs_drop (l : List (List B8)) (i : Nat) : strs (l.drop i) = (strs l).drop i := by
  have h : ∀ l : List (List B8), strs l = l.map fun s => .string (sb s) := fun l => by
    induction l with
    | nil => rfl
    | cons x l ih => rw [strs, List.flatMap_cons]; rw [strs] at ih; rw [ih]; rfl
  rw [h, h, List.map_drop]
/-- how a text begins -/
theorem take_pre (p t : List B8) (h : p.length ≤ t.length) : (t.take p.length == p) = decide (p <+: t) := by
  rw [Bool.eq_iff_iff, beq_iff_eq, decide_eq_true_eq, List.prefix_iff_eq_take]
  exact eq_comm
theorem pre_len {p t : List B8} (h : ¬ p.length ≤ t.length) : decide (p <+: t) = false := decide_eq_false fun e => h e.length_le
end Go.Proofs.YthmdiopbiiimeaaDoor.ky
