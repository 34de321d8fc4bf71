/- keys: strings.ReplaceAll, where each byte 0 becomes two. -/
import Derived.Test.YthmdiopbiiimeaaDoorKqb
import Derived.Test.YthmdiopbiiimeaaDoorShf
import Derived.Test.YthmdiopbiiimeaaDoorKra
namespace Go.Proofs.YthmdiopbiiimeaaDoor.ky
open Go.RowKit Go.Proofs.YthmdiopbiiimeaaDoor.pk Go.Proofs.YthmdiopbiiimeaaDoor.bd
def escU : List UInt8 → List UInt8
  | [] => []
  | x :: l => if x = 0 then 0 :: 255 :: escU l else x :: escU l
theorem esc_map (l : List B8) : (esc l).map UInt8.ofBitVec = escU (l.map UInt8.ofBitVec) := by
  induction l with
  | nil => rfl
  | cons x l ih =>
    rw [esc, List.map_cons, escU, ← ih]
    by_cases h : x = 0#8
    · subst h
      rfl
    · rw [if_neg h, if_neg (fun e => h (by cases e; rfl))]
      rfl
theorem escU_index : ∀ s : List UInt8, (Lib.index s [0] = -1 ∧ escU s = s) ∨ ∃ i : Nat, Lib.index s [0] = i ∧ i < s.length ∧ escU s = s.take i ++ [0, 255] ++ escU (s.drop (i + 1))
  | [] => .inl ⟨rfl, rfl⟩
  | b :: l => by
    rw [Lib.index, escU]
    have hp : List.isPrefixOf [0] (b :: l) = (0 == b) := by simp [List.isPrefixOf]
    rw [hp]
    by_cases hb : b = 0
    · subst hb
      exact .inr ⟨0, rfl, by simp, rfl⟩
    · rw [if_neg (fun e => hb (beq_iff_eq.1 e).symm), if_neg hb]
      rcases escU_index l with ⟨h1, h2⟩ | ⟨i, h1, h2, h3⟩
      · rw [h1, h2]
        exact .inl ⟨rfl, rfl⟩
      · rw [h1, if_neg (by rw [beq_iff_eq]; omega), h3]
        exact .inr ⟨i + 1, rfl, by simp; omega, rfl⟩
theorem escU_replace : ∀ (f : Nat) (s : List UInt8), s.length < f → Lib.replaceK [0] [0, 255] (Lib.countFrom [0] f s) s = escU s
  | 0, _, h => absurd h (Nat.not_lt_zero _)
  | f + 1, s, h => by
    rw [Lib.countFrom]
    rcases escU_index s with ⟨h1, h2⟩ | ⟨i, h1, h2, h3⟩
    · rw [h1, if_pos (show ((-1 : Int) == -1) = true from rfl), h2]
      rfl
    · have ih := escU_replace f (s.drop (i + 1)) (by rw [List.length_drop]; omega)
      have hn : ((i : Int) == -1) = false := by rw [beq_eq_false_iff_ne]; omega
      have e1 : (i : Int).toNat + [(0 : UInt8)].length = i + 1 := rfl
      rw [h1, hn, if_neg (by decide), e1, Nat.add_comm, Lib.replaceK, h1, hn, if_neg (by decide), e1, ih, h3]
      rfl
theorem escU_all (s : List UInt8) : Lib.replaceAll s [0] [0, 255] = escU s := by
  have := escU_replace (s.length + 1) s (Nat.lt_succ_self _)
  unfold Lib.replaceAll Lib.replace Lib.replaceNum
  rw [if_neg (by decide), if_pos (.inl (by decide))]
  exact this
/-- the cell of internal/bytealg.MaxLen, as it is read -/
abbrev gv (m : Int) : Ck := .ro (some ⟨0, 0, none⟩) 1 1 [.int .i64 m]
theorem replace_fn (m : Int) (s : List B8) (hs : s.length ≤ 1000000) : Fn Tryd.prog 44 [.string (sb s), .string (sb [0#8]), .string (sb [0#8, 255#8])] [gv m] [] fun v Lo => v = .string (sb (esc s)) ∧ Lo = [] := by
  refine Fn.of_calls (r := .string (sb (esc s))) (goes_of Tryd.func44 (by kernel_rfl) (by kernel_rfl)) ⟨rfl, rfl⟩ fun w hm => ?_
  have hc : w.cell? ⟨0, 0, none⟩ = some (.int .i64 m) := ro_cell hm (k := 0) rfl rfl
  have hcb := Lib.countB_le (sb [0#8]) (by rw [sb_size]; decide) _ (sb s) (Nat.le_refl _)
  have h := Tryd.strings_ReplaceAll (sb s) (sb [0#8]) (sb [0#8, 255#8]) m w (by rw [sb_size]; omega) hc (by rw [sb_size]; decide) (by rw [sb_size, sb_size] at *; show s.length + _ * 2 ≤ _; omega)
  refine h.mono fun e w' ⟨he, hb⟩ => ⟨?_, hb⟩
  rw [he, sb_list, sb_list, sb_list]
  show _ = Ending.returned (.string ⟨((esc s).map UInt8.ofBitVec).toArray⟩)
  rw [esc_map, ← escU_all]
  rfl
end Go.Proofs.YthmdiopbiiimeaaDoor.ky
