/- checks: the table and what is taken by it. -/
import Derived.Test.YthmdiopbiiimeaaGo
import Derived.Test.YthmdiopbiiimeaaOn
import Derived.Test.YthmdiopbiiimeaaBv
import Derived.Test.YthmdiopbiiimeaaDp
import Derived.Test.YthmdiopbiiimeaaSp
import Derived.Test.YthmdiopbiiimeaaCrc
namespace Go.Proofs.Ythmdiopbiiimeaa.chk
open Go.RowKit Go.Proofs.Ythmdiopbiiimeaa.crc
def rowI (i : Nat) : Value := .int .u32 (crc.row (BitVec.ofNat 8 i)).toNat
def rowsI (i : Nat) : List Value := (List.range 256).map fun j => if j < i then rowI j else .int .u32 0
def tabC (d m : Int) (i : Nat) : List Value := .int .u32 d :: .int .i32 m :: .int .u32 0 :: rowsI i
theorem rowsI_len (i : Nat) : (rowsI i).length = 256 := by simp [rowsI]
theorem rowsI_zero : rowsI 0 = List.replicate 256 (.int .u32 0) := by
  simp only [rowsI, Nat.not_lt_zero, if_false, List.map_const', List.length_range]
theorem rowsI_set (i : Nat) : (rowsI i).set i (rowI i) = rowsI (i + 1) := by
  apply List.ext_getElem
  · simp [rowsI]
  · intro j h1 h2
    simp only [rowsI, List.getElem_set, List.getElem_map, List.getElem_range]
    by_cases hj : i = j
    · subst hj; simp
    · by_cases hl : j < i
      · simp [hj, hl, show j < i + 1 by omega]
      · simp [hj, hl, show ¬ j < i + 1 by omega]
theorem setL_one : ∀ (cs : List Value) (i : Nat) (v : Value), i < cs.length → setL cs i [v] = cs.set i v
  | [], _, _, h => absurd h (Nat.not_lt_zero _)
  | c :: cs, 0, v, _ => by cases cs <;> simp [setL]
  | c :: cs, i + 1, v, h => by rw [setL, setL_one cs i v (by simpa using h), List.set_cons_succ]
theorem tabC_set (d m : Int) {i : Nat} (hi : i < 256) : setL (tabC d m i) (3 + i) [rowI i] = tabC d m (i + 1) := by
  rw [setL_one _ _ _ (by simp [tabC, rowsI_len]; omega), show 3 + i = i + 1 + 1 + 1 by omega]
  simp [tabC, rowsI_set]
theorem tabC_get (d m : Int) (x : B) : (tabC d m 256)[3 + x.toNat]? = some (.int .u32 (crc.row x).toNat) := by
  rw [show 3 + x.toNat = x.toNat + 1 + 1 + 1 by omega]
  have : x.toNat < 256 := x.isLt
  simp [tabC, rowsI, rowI, this]
theorem many_succ (k : Nat) (c : R) : many (k + 1) c = one (many k c) := by rw [many_add]; rfl
theorem one_odd {x : R} (h : (x &&& 1#32 == 1#32) = true) : one x = (x >>> 1) ^^^ 0xEDB88320#32 := by
  have : x.getLsbD 0 = true := by
    have h := congrArg (fun y : R => y.getLsbD 0) (beq_iff_eq.1 h)
    simpa using h
  rw [one, this]
  rfl
theorem one_even {x : R} (h : (x &&& 1#32 == 1#32) = false) : one x = x >>> 1 := by
  have : x.getLsbD 0 = false := by
    cases hb : x.getLsbD 0
    · rfl
    · exfalso
      have h2 : x &&& 1#32 = 1#32 := by
        apply BitVec.eq_of_getLsbD_eq
        intro i hi
        cases i with
        | zero => simpa using hb
        | succ i => simp
      rw [h2] at h
      exact absurd h (by decide)
  rw [one, this]
  simp
theorem row_of {i : Nat} (hi : i < 256) : many 8 (BitVec.ofInt 32 (i : Int)) = crc.row (BitVec.ofNat 8 i) := by
  rw [crc.row, ofInt_nat]
  congr 1
  apply BitVec.eq_of_toNat_eq
  simp only [BitVec.toNat_ofNat, BitVec.toNat_setWidth]
  omega
attribute [local irreducible] LX CX Yl Gives RetIs Fn
attribute [local irreducible] crc.many crc.row crc.one
set_option maxHeartbeats 2000000 in
theorem fill_fn (b bt : Nat) : Fn Try.prog 52 [.pointer (some ⟨bt, 0, none⟩)] [.blk b (tabC 0 1 0) 90, .ro (some ⟨bt, 0, none⟩) 1 1 [.pointer (some ⟨b, 0, none⟩)]] [b]
    fun v Lo => v = .tuple #[] ∧ Lo = [.blk b (tabC 0 1 256) 90] := by
  refine fn_enter Try.func52 rfl rfl (by kernel_rfl) rfl ?_
  intro w0
  repeat (first | (refine isU ?_; refine gU rfl ?_) | (refine isG ?_; refine gG rfl rfl ?_) | (refine isx_box ?_; refine gB rfl rfl rfl rfl rfl rfl ?_; intro b_) | (refine isx_alloc ?_; refine gA rfl rfl rfl rfl rfl rfl rfl ?_; intro b_) | (refine isx_store ?_; refine gS 0 rfl rfl rfl rfl rfl rfl rfl rfl rfl rfl ?_) | (refine isx_store ?_; refine gS 1 rfl rfl rfl rfl rfl rfl rfl rfl rfl rfl ?_) | (refine isx_store ?_; refine gS 2 rfl rfl rfl rfl rfl rfl rfl rfl rfl rfl ?_) | (refine isx_store ?_; refine gS 3 rfl rfl rfl rfl rfl rfl rfl rfl rfl rfl ?_) | (refine isx_row ?_; refine lx_row (E := EV) rfl rfl rfl rfl rfl rfl rfl rfl rfl rfl rfl rfl rfl ?_; intro b_) | refine lx_nil ?_ | with_reducible refine tq_n ?_ | with_reducible refine tq_r ?_ | with_reducible refine tq_e ?_ | with_reducible refine bk_n ?_ | with_reducible refine bk_r ?_ | (with_reducible refine bk_e ?_ ?_; exact rfl) | (with_reducible refine bk_x ?_ ?_; exact rfl) | refine cx_seq ?_ | refine cx_region ?_ | refine cx_block ?_ | refine cx_ret ?_ | refine cx_skip ?_ | refine cx_exit ?_ | fail)
  refine cx_loop (α := { i : Nat // i ≤ 256 }) (fun x => [(0, none, .pointer (some ⟨bt, 0, none⟩)), (4, none, .int .i64 x.1)]) (fun x => [.blk b (tabC 0 1 x.1) 90, .ro (some ⟨bt, 0, none⟩) 1 1 [.pointer (some ⟨b, 0, none⟩)]]) (fun x => 256 - x.1)
    ⟨0, Nat.zero_le _⟩ ⟨rfl, rfl, trivial⟩ (Gives.refl _) ?_
  rintro ⟨i, hi⟩
  dsimp only
  repeat (first | (refine isU ?_; refine gU rfl ?_) | (refine isG ?_; refine gG rfl rfl ?_) | (refine isx_box ?_; refine gB rfl rfl rfl rfl rfl rfl ?_; intro b_) | (refine isx_alloc ?_; refine gA rfl rfl rfl rfl rfl rfl rfl ?_; intro b_) | (refine isx_store ?_; refine gS 0 rfl rfl rfl rfl rfl rfl rfl rfl rfl rfl ?_) | (refine isx_store ?_; refine gS 1 rfl rfl rfl rfl rfl rfl rfl rfl rfl rfl ?_) | (refine isx_store ?_; refine gS 2 rfl rfl rfl rfl rfl rfl rfl rfl rfl rfl ?_) | (refine isx_store ?_; refine gS 3 rfl rfl rfl rfl rfl rfl rfl rfl rfl rfl ?_) | (refine isx_row ?_; refine lx_row (E := EV) rfl rfl rfl rfl rfl rfl rfl rfl rfl rfl rfl rfl rfl ?_; intro b_) | refine lx_nil ?_ | with_reducible refine tq_n ?_ | with_reducible refine tq_r ?_ | with_reducible refine tq_e ?_ | with_reducible refine bk_n ?_ | with_reducible refine bk_r ?_ | (with_reducible refine bk_e ?_ ?_; exact rfl) | (with_reducible refine bk_x ?_ ?_; exact rfl) | refine cx_seq ?_ | refine cx_region ?_ | refine cx_block ?_ | refine cx_ret ?_ | refine cx_skip ?_ | refine cx_exit ?_ | fail)
  refine cx_cond rfl (fun h => ?_) (fun h => ?_)
  · have hi2 : i < 256 := by simp at h; omega
    repeat (first | ((first | (apply lx_u; exact rfl) | (apply lx_g; exact rfl; exact rfl)); first | (apply isy_convert; exact yl_ci (E := EV) uk32 rfl rfl rfl (by first | exact fun _ => rfl | exact fun h => h | exact fun h => (Bool.and_eq_true_iff.1 h).1)) | fail) | (refine isU ?_; refine gU rfl ?_) | (refine isG ?_; refine gG rfl rfl ?_) | (refine isx_box ?_; refine gB rfl rfl rfl rfl rfl rfl ?_; intro b_) | (refine isx_alloc ?_; refine gA rfl rfl rfl rfl rfl rfl rfl ?_; intro b_) | (refine isx_store ?_; refine gS 0 rfl rfl rfl rfl rfl rfl rfl rfl rfl rfl ?_) | (refine isx_store ?_; refine gS 1 rfl rfl rfl rfl rfl rfl rfl rfl rfl rfl ?_) | (refine isx_store ?_; refine gS 2 rfl rfl rfl rfl rfl rfl rfl rfl rfl rfl ?_) | (refine isx_store ?_; refine gS 3 rfl rfl rfl rfl rfl rfl rfl rfl rfl rfl ?_) | (refine isx_row ?_; refine lx_row (E := EV) rfl rfl rfl rfl rfl rfl rfl rfl rfl rfl rfl rfl rfl ?_; intro b_) | refine lx_nil ?_ | with_reducible refine tq_n ?_ | with_reducible refine tq_r ?_ | with_reducible refine tq_e ?_ | with_reducible refine bk_n ?_ | with_reducible refine bk_r ?_ | (with_reducible refine bk_e ?_ ?_; exact rfl) | (with_reducible refine bk_x ?_ ?_; exact rfl) | refine cx_seq ?_ | refine cx_region ?_ | refine cx_block ?_ | refine cx_ret ?_ | refine cx_skip ?_ | refine cx_exit ?_ | fail)
    have hrow := row_of hi2
    generalize hc0 : BitVec.ofInt 32 (i : Int) = c0 at hrow ⊢
    refine cx_loop (α := { k : Nat // k ≤ 8 }) (fun x => [(0, none, .pointer (some ⟨bt, 0, none⟩)), (1, none, .int .i64 i), (2, none, .int .u32 (crc.many x.1 c0).toNat), (4, none, .int .i64 i), (9, none, .int .i64 x.1)]) (fun _ => [.blk b (tabC 0 1 i) 90, .ro (some ⟨bt, 0, none⟩) 1 1 [.pointer (some ⟨b, 0, none⟩)]]) (fun x => 8 - x.1)
      ⟨0, Nat.zero_le _⟩ ⟨rfl, rfl, by unfold crc.many; rfl, rfl, rfl, trivial⟩ (Gives.refl _) ?_
    rintro ⟨k, hk⟩
    dsimp only
    repeat (first | (refine isU ?_; refine gU rfl ?_) | (refine isG ?_; refine gG rfl rfl ?_) | (refine isx_box ?_; refine gB rfl rfl rfl rfl rfl rfl ?_; intro b_) | (refine isx_alloc ?_; refine gA rfl rfl rfl rfl rfl rfl rfl ?_; intro b_) | (refine isx_store ?_; refine gS 0 rfl rfl rfl rfl rfl rfl rfl rfl rfl rfl ?_) | (refine isx_store ?_; refine gS 1 rfl rfl rfl rfl rfl rfl rfl rfl rfl rfl ?_) | (refine isx_store ?_; refine gS 2 rfl rfl rfl rfl rfl rfl rfl rfl rfl rfl ?_) | (refine isx_store ?_; refine gS 3 rfl rfl rfl rfl rfl rfl rfl rfl rfl rfl ?_) | (refine isx_row ?_; refine lx_row (E := EV) rfl rfl rfl rfl rfl rfl rfl rfl rfl rfl rfl rfl rfl ?_; intro b_) | refine lx_nil ?_ | with_reducible refine tq_n ?_ | with_reducible refine tq_r ?_ | with_reducible refine tq_e ?_ | with_reducible refine bk_n ?_ | with_reducible refine bk_r ?_ | (with_reducible refine bk_e ?_ ?_; exact rfl) | (with_reducible refine bk_x ?_ ?_; exact rfl) | refine cx_seq ?_ | refine cx_region ?_ | refine cx_block ?_ | refine cx_ret ?_ | refine cx_skip ?_ | refine cx_exit ?_ | fail)
    refine cx_cond rfl (fun h => ?_) (fun h => ?_)
    · have hk2 : k < 8 := by simp at h; omega
      repeat (first | ((first | (apply lx_u; exact rfl) | (apply lx_g; exact rfl; exact rfl)); first | (apply isy_bin_and; exact yl_band uk32 _ 1#32 rfl rfl rfl rfl (by first | exact fun _ => rfl | exact fun h => h | exact fun h => (Bool.and_eq_true_iff.1 h).1) (by first | exact fun _ => rfl | exact fun h => h | exact fun h => (Bool.and_eq_true_iff.1 h).1)) | (apply isy_bin_shr; exact yl_bshr uk32 _ 1 rfl rfl rfl rfl (by first | exact fun _ => rfl | exact fun h => h | exact fun h => (Bool.and_eq_true_iff.1 h).1) (by first | exact fun _ => rfl | exact fun h => h | exact fun h => (Bool.and_eq_true_iff.1 h).1)) | (apply isy_bin_eql; exact yl_beq _ 1#32 rfl rfl rfl rfl (by first | exact fun _ => rfl | exact fun h => h | exact fun h => (Bool.and_eq_true_iff.1 h).1) (by first | exact fun _ => rfl | exact fun h => h | exact fun h => (Bool.and_eq_true_iff.1 h).1)) | fail) | (refine isU ?_; refine gU rfl ?_) | (refine isG ?_; refine gG rfl rfl ?_) | (refine isx_box ?_; refine gB rfl rfl rfl rfl rfl rfl ?_; intro b_) | (refine isx_alloc ?_; refine gA rfl rfl rfl rfl rfl rfl rfl ?_; intro b_) | (refine isx_store ?_; refine gS 0 rfl rfl rfl rfl rfl rfl rfl rfl rfl rfl ?_) | (refine isx_store ?_; refine gS 1 rfl rfl rfl rfl rfl rfl rfl rfl rfl rfl ?_) | (refine isx_store ?_; refine gS 2 rfl rfl rfl rfl rfl rfl rfl rfl rfl rfl ?_) | (refine isx_store ?_; refine gS 3 rfl rfl rfl rfl rfl rfl rfl rfl rfl rfl ?_) | (refine isx_row ?_; refine lx_row (E := EV) rfl rfl rfl rfl rfl rfl rfl rfl rfl rfl rfl rfl rfl ?_; intro b_) | refine lx_nil ?_ | with_reducible refine tq_n ?_ | with_reducible refine tq_r ?_ | with_reducible refine tq_e ?_ | with_reducible refine bk_n ?_ | with_reducible refine bk_r ?_ | (with_reducible refine bk_e ?_ ?_; exact rfl) | (with_reducible refine bk_x ?_ ?_; exact rfl) | refine cx_seq ?_ | refine cx_region ?_ | refine cx_block ?_ | refine cx_ret ?_ | refine cx_skip ?_ | refine cx_exit ?_ | fail)
      refine cx_cond rfl (fun h1 => ?_) (fun h1 => ?_)
      · repeat (first | ((first | (apply lx_u; exact rfl) | (apply lx_g; exact rfl; exact rfl)); first | (apply isy_bin_xor; exact yl_xor uk32 _ 0xEDB88320#32 rfl rfl rfl rfl (by first | exact fun _ => rfl | exact fun h => h | exact fun h => (Bool.and_eq_true_iff.1 h).1) (by first | exact fun _ => rfl | exact fun h => h | exact fun h => (Bool.and_eq_true_iff.1 h).1)) | fail) | (refine isU ?_; refine gU rfl ?_) | (refine isG ?_; refine gG rfl rfl ?_) | (refine isx_box ?_; refine gB rfl rfl rfl rfl rfl rfl ?_; intro b_) | (refine isx_alloc ?_; refine gA rfl rfl rfl rfl rfl rfl rfl ?_; intro b_) | (refine isx_store ?_; refine gS 0 rfl rfl rfl rfl rfl rfl rfl rfl rfl rfl ?_) | (refine isx_store ?_; refine gS 1 rfl rfl rfl rfl rfl rfl rfl rfl rfl rfl ?_) | (refine isx_store ?_; refine gS 2 rfl rfl rfl rfl rfl rfl rfl rfl rfl rfl ?_) | (refine isx_store ?_; refine gS 3 rfl rfl rfl rfl rfl rfl rfl rfl rfl rfl ?_) | (refine isx_row ?_; refine lx_row (E := EV) rfl rfl rfl rfl rfl rfl rfl rfl rfl rfl rfl rfl rfl ?_; intro b_) | refine lx_nil ?_ | with_reducible refine tq_n ?_ | with_reducible refine tq_r ?_ | with_reducible refine tq_e ?_ | with_reducible refine bk_n ?_ | with_reducible refine bk_r ?_ | (with_reducible refine bk_e ?_ ?_; exact rfl) | (with_reducible refine bk_x ?_ ?_; exact rfl) | refine cx_seq ?_ | refine cx_region ?_ | refine cx_block ?_ | refine cx_ret ?_ | refine cx_skip ?_ | refine cx_exit ?_ | fail)
        exact ⟨⟨k + 1, by omega⟩, ⟨rfl, rfl, slot_int (by dsimp only; rw [many_succ, one_odd h1]), rfl, slot_int (by dsimp only; omega), trivial⟩, Gives.refl _, by dsimp only; omega⟩
      · repeat (first | (refine isU ?_; refine gU rfl ?_) | (refine isG ?_; refine gG rfl rfl ?_) | (refine isx_box ?_; refine gB rfl rfl rfl rfl rfl rfl ?_; intro b_) | (refine isx_alloc ?_; refine gA rfl rfl rfl rfl rfl rfl rfl ?_; intro b_) | (refine isx_store ?_; refine gS 0 rfl rfl rfl rfl rfl rfl rfl rfl rfl rfl ?_) | (refine isx_store ?_; refine gS 1 rfl rfl rfl rfl rfl rfl rfl rfl rfl rfl ?_) | (refine isx_store ?_; refine gS 2 rfl rfl rfl rfl rfl rfl rfl rfl rfl rfl ?_) | (refine isx_store ?_; refine gS 3 rfl rfl rfl rfl rfl rfl rfl rfl rfl rfl ?_) | (refine isx_row ?_; refine lx_row (E := EV) rfl rfl rfl rfl rfl rfl rfl rfl rfl rfl rfl rfl rfl ?_; intro b_) | refine lx_nil ?_ | with_reducible refine tq_n ?_ | with_reducible refine tq_r ?_ | with_reducible refine tq_e ?_ | with_reducible refine bk_n ?_ | with_reducible refine bk_r ?_ | (with_reducible refine bk_e ?_ ?_; exact rfl) | (with_reducible refine bk_x ?_ ?_; exact rfl) | refine cx_seq ?_ | refine cx_region ?_ | refine cx_block ?_ | refine cx_ret ?_ | refine cx_skip ?_ | refine cx_exit ?_ | fail)
        exact ⟨⟨k + 1, by omega⟩, ⟨rfl, rfl, slot_int (by dsimp only; rw [many_succ, one_even h1]), rfl, slot_int (by dsimp only; omega), trivial⟩, Gives.refl _, by dsimp only; omega⟩
    · obtain rfl : k = 8 := by simp at h; omega
      repeat (first | ((first | (apply lx_u; exact rfl) | (apply lx_g; exact rfl; exact rfl)); first | (apply isy_indexAddr; exact yl_indexP (E := EV) rfl rfl rfl rfl (by first | exact fun _ => rfl | exact fun h => h | exact fun h => (Bool.and_eq_true_iff.1 h).1) (by first | exact fun _ => rfl | exact fun h => h | exact fun h => (Bool.and_eq_true_iff.1 h).1) (fun _ => by omega)) | fail) | (refine isU ?_; refine gU rfl ?_) | (refine isG ?_; refine gG rfl rfl ?_) | (refine isx_store ?_; refine lx_storeV (E := EV) 0 rfl rfl rfl rfl rfl rfl rfl rfl (by show 3 + i + 1 ≤ (tabC 0 1 i).length; simp [tabC, rowsI_len]; omega) rfl (fun _ => trivial) ?_) | (refine isx_box ?_; refine gB rfl rfl rfl rfl rfl rfl ?_; intro b_) | (refine isx_alloc ?_; refine gA rfl rfl rfl rfl rfl rfl rfl ?_; intro b_) | (refine isx_store ?_; refine gS 0 rfl rfl rfl rfl rfl rfl rfl rfl rfl rfl ?_) | (refine isx_store ?_; refine gS 1 rfl rfl rfl rfl rfl rfl rfl rfl rfl rfl ?_) | (refine isx_store ?_; refine gS 2 rfl rfl rfl rfl rfl rfl rfl rfl rfl rfl ?_) | (refine isx_store ?_; refine gS 3 rfl rfl rfl rfl rfl rfl rfl rfl rfl rfl ?_) | (refine isx_row ?_; refine lx_row (E := EV) rfl rfl rfl rfl rfl rfl rfl rfl rfl rfl rfl rfl rfl ?_; intro b_) | refine lx_nil ?_ | with_reducible refine tq_n ?_ | with_reducible refine tq_r ?_ | with_reducible refine tq_e ?_ | with_reducible refine bk_n ?_ | with_reducible refine bk_r ?_ | (with_reducible refine bk_e ?_ ?_; exact rfl) | (with_reducible refine bk_x ?_ ?_; exact rfl) | refine cx_seq ?_ | refine cx_region ?_ | refine cx_block ?_ | refine cx_ret ?_ | refine cx_skip ?_ | refine cx_exit ?_ | fail)
      refine ⟨⟨i + 1, by omega⟩, ⟨rfl, slot_int (by dsimp only; omega), trivial⟩, ?_, by dsimp only; omega⟩
      dsimp only
      rw [← tabC_set 0 1 hi2, rowI, ← hrow]
      exact Gives.refl _
  · obtain rfl : i = 256 := by simp at h; omega
    repeat (first | (refine isU ?_; refine gU rfl ?_) | (refine isG ?_; refine gG rfl rfl ?_) | (refine isx_box ?_; refine gB rfl rfl rfl rfl rfl rfl ?_; intro b_) | (refine isx_alloc ?_; refine gA rfl rfl rfl rfl rfl rfl rfl ?_; intro b_) | (refine isx_store ?_; refine gS 0 rfl rfl rfl rfl rfl rfl rfl rfl rfl rfl ?_) | (refine isx_store ?_; refine gS 1 rfl rfl rfl rfl rfl rfl rfl rfl rfl rfl ?_) | (refine isx_store ?_; refine gS 2 rfl rfl rfl rfl rfl rfl rfl rfl rfl rfl ?_) | (refine isx_store ?_; refine gS 3 rfl rfl rfl rfl rfl rfl rfl rfl rfl rfl ?_) | (refine isx_row ?_; refine lx_row (E := EV) rfl rfl rfl rfl rfl rfl rfl rfl rfl rfl rfl rfl rfl ?_; intro b_) | refine lx_nil ?_ | with_reducible refine tq_n ?_ | with_reducible refine tq_r ?_ | with_reducible refine tq_e ?_ | with_reducible refine bk_n ?_ | with_reducible refine bk_r ?_ | (with_reducible refine bk_e ?_ ?_; exact rfl) | (with_reducible refine bk_x ?_ ?_; exact rfl) | refine cx_seq ?_ | refine cx_region ?_ | refine cx_block ?_ | refine cx_ret ?_ | refine cx_skip ?_ | refine cx_exit ?_ | fail)
    exact bq_end (ret_none rfl) [_] (Gives.pick [0] (by decide) rfl) rfl ⟨rfl, rfl⟩
end Go.Proofs.Ythmdiopbiiimeaa.chk
