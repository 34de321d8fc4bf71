import Derived.Test.YtepogieeaidnfaaRows
import Derived.Test.YtepogieeaidnfaaBase
import Derived.Test.YtepogieeaidnfaaNumSums
import Derived.Deep.DeepCutAuto
/- The law NumBack: its walk. -/
namespace Go.Proofs.Ytepogieeaidnfaa.num
open Go.ChangeShapes Go.WideShapes Go.ChangeAt Go.RowKit

def Picked (n : Nat) (w : World) (e : Ending) (w' : World) : Prop := ∃ k : Nat, e = .returned (.int .i64 (k : Int)) ∧ k ≤ n ∧ (k = 0 ∨ k < n) ∧ w = w'
theorem pick_val {i : Int} {n : Nat} (hn : 0 < n) (hn2 : n ≤ 1000000) : ∃ k : Nat, (wrap64 (i.tmod n + n)).tmod n = (k : Int) ∧ k < n := by
  have h0 : (0 : Int) < (n : Int) := by omega
  have h1 := Int.tmod_eq_emod (a := i) (b := (n : Int))
  have h2 := Int.emod_nonneg i (b := (n : Int)) (by omega)
  have h3 := Int.emod_lt_of_pos i h0
  have hb : 0 ≤ i.tmod n + n ∧ i.tmod n + n < 2 * (n : Int) := by split at h1 <;> omega
  rw [wrap64_of (by omega) (by omega)]
  have h4 := Int.tmod_eq_emod_of_nonneg (a := i.tmod n + n) (b := (n : Int)) hb.1
  have h5 := Int.emod_nonneg (i.tmod n + n) (b := (n : Int)) (by omega)
  have h6 := Int.emod_lt_of_pos (i.tmod n + n) h0
  obtain ⟨k, hk⟩ := Int.eq_ofNat_of_zero_le (show 0 ≤ (i.tmod n + n).tmod n by omega)
  exact ⟨k, hk, by omega⟩
theorem pick_any (i : Int) (n : Nat) (w : World) (hn : n ≤ 1000000) :
    Calls Try.prog 52 #[.int .i64 i, .int .i64 n] w (Picked n w) := by
  by_cases h : 0 < n
  · obtain ⟨k, hk, hlt⟩ := pick_val (i := i) h hn
    have hk' := keep hk
    clear hk
    go_enter Try.func52, Try.ntmps52
    go_wp2
    go_ret
    refine ⟨k, ret_int hk'.out, by omega, by omega, rfl⟩
  · obtain rfl : n = 0 := by omega
    go_enter Try.func52, Try.ntmps52
    go_wp2
    go_ret
    exact ⟨0, rfl, by omega, by omega, rfl⟩

theorem told_fits {n : Int} (h : inI n = true) {w w' : World} {e : Ending} (ht : Told n w e w') : e = .returned (.tuple #[.int .i64 n, .bool true]) ∧ w = w' := by
  unfold Told fitV at ht
  rw [h] at ht
  exact ht
theorem told_over {n : Int} (h : inI n = false) {w w' : World} {e : Ending} (ht : Told n w e w') : e = .returned (.tuple #[.int .i64 0, .bool false]) ∧ w = w' := by
  unfold Told fitV at ht
  rw [h] at ht
  exact ht
theorem Row_take {w : World} {B n k : Nat} {A : Option Addr} {xs : List Value} (h : Row w B 1 A n xs) (hk : k ≤ n) : Row w B 1 A k (xs.take k) := by
  refine ⟨by rw [List.length_take, h.1]; omega, fun h0 => ?_⟩
  obtain ⟨b, off, e, hb, hc⟩ := h.2 (by omega)
  refine ⟨b, off, e, hb, fun j u hu => hc j u ?_⟩
  rw [List.getElem?_take] at hu
  split at hu
  · exact hu
  · cases hu
theorem Row_drop {w : World} {B n k b off : Nat} {xs : List Value} (h : Row w B 1 (some ⟨b, off, none⟩) n xs) : Row w B 1 (some ⟨b, off + k, none⟩) (n - k) (xs.drop k) := by
  refine ⟨by rw [List.length_drop, h.1]; omega, fun h0 => ?_⟩
  obtain ⟨b', off', e, hb, hc⟩ := h.2 (by omega)
  simp only [Option.some.injEq, Addr.mk.injEq, and_true] at e
  obtain ⟨rfl, rfl⟩ := e
  refine ⟨b, off + k, rfl, hb, fun j u hu => ?_⟩
  rw [List.getElem?_drop] at hu
  rw [← hc _ u hu, Nat.add_assoc]
theorem tot_reverse (l : List Int) : tot l.reverse = tot l := by
  induction l with
  | nil => rfl
  | cons x l ih => rw [List.reverse_cons, tot_append, ih]; simp only [tot]; omega
theorem tot_turned (zs : List Int) (k : Nat) (hk : k ≤ zs.length) : tot (zs.reverse.take (zs.length - k) ++ zs.take k) = tot zs := by
  rw [List.take_reverse, tot_append, tot_reverse]
  have h := tot_append (zs.take k) (zs.drop k)
  rw [List.take_append_drop] at h
  rw [show zs.length - (zs.length - k) = k by omega]
  omega
theorem tot_parts (zs : List Int) (k : Nat) : tot (zs.take k) + tot (zs.drop k) = tot zs := by
  rw [← tot_append, List.take_append_drop]
theorem rev_at (zs : List Int) (j : Nat) (h : j < zs.length) : zs.reverse.take (j + 1) = zs.reverse.take j ++ [zs.getD (zs.length - 1 - j) 0] := by
  rw [take_snoc _ _ (by simpa using h)]
  congr 2
  rw [List.getD_eq_getElem?_getD, List.getD_eq_getElem?_getD, List.getElem?_reverse h]

-- BACK
theorem ovErr_zero {n : Int} (h : (ovErr n == 0) = true) : inI n = true := by
  unfold ovErr at h
  cases hi : inI n
  · rw [hi] at h; simp at h
  · rfl
theorem sum_fits {n : Int} (h : Hid (inI n = true)) {B : Nat} {w w' : World} {e : Ending} (ht : SumEnd n B w e w') : e = .returned (.tuple #[.int .i64 n, .int .i64 0]) ∧ Below B w w' := by
  unfold SumEnd fitV ovErr at ht
  rw [h.out] at ht
  exact ht
theorem sum_over {n : Int} (h : Hid (inI n = false)) {B : Nat} {w w' : World} {e : Ending} (ht : SumEnd n B w e w') : e = .returned (.tuple #[.int .i64 0, .int .i64 30]) ∧ Below B w w' := by
  unfold SumEnd fitV ovErr at ht
  rw [h.out] at ht
  exact ht
/-- what stands once for all ways of NumBack's tail -/
theorem tail_facts {n d : Int} (hd : 0 < d) : 0 ≤ n % d ∧ n % d < d := ⟨Int.emod_nonneg n (by omega), Int.emod_lt_of_pos n hd⟩
theorem tail_sign {n d : Int} (hd : 0 < d) : (n < 0 ∧ n / d < 0 ∧ n / d ≤ 0) ∨ (0 ≤ n ∧ 0 ≤ n / d ∧ n / d ≤ 0) ∨ (0 ≤ n ∧ 0 ≤ n / d ∧ 0 < n / d) := by
  by_cases hn : n < 0
  · have := Int.ediv_neg_of_neg_of_pos hn hd
    omega
  · have := Int.ediv_nonneg (show 0 ≤ n by omega) (show 0 ≤ d by omega)
    omega
theorem rest_eq {n d : Int} (wd : (Lit.int .i64 d).wf = true) (hd : 0 < d) : (wrap64 (n - downV n d) == n % d) = true ∧ (n - downV n d == n % d) = true := by
  have h := wf_i64 wd
  obtain ⟨h1, h2⟩ := tail_facts (n := n) hd
  have e : n - downV n d = n % d := by unfold downV; omega
  rw [e, wrap64_of (by omega) (by omega)]
  simp
end Go.Proofs.Ytepogieeaidnfaa.num
