/- scripts: the reference's request. -/
import Derived.Test.YtmochicneilhhaaGreatPGo
import Derived.Test.YtmochicneilhhaaGreatPTg
namespace Go.Proofs.YtmochicneilhhaaGreat.sc
open Go.RowKit Go.Proofs.YtmochicneilhhaaGreat.kit Go.Proofs.YtmochicneilhhaaGreat.pk Go.Proofs.YtmochicneilhhaaGreat.rq Go.Proofs.YtmochicneilhhaaGreat.ev Go.Proofs.YtmochicneilhhaaGreat.win
theorem partQ_le (l : List B8) (s : RQ × Nat) (q : Pt) : (partQ l s q).2 ≤ s.2 + 3 := by cases q <;> (show s.2 + _ ≤ s.2 + 3; omega)
theorem fold_le (l : List B8) : ∀ (ps : List Pt) (s : RQ × Nat), (ps.foldl (partQ l) s).2 ≤ s.2 + 3 * ps.length
  | [], _ => Nat.le_refl _
  | q :: ps, s => by
    have := partQ_le l s q
    have := fold_le l ps (partQ l s q)
    rw [List.foldl_cons, List.length_cons]
    omega
theorem names_at {k : B8} (h : k.toNat ≤ 8) : ptsV[mulI ((k.toNat : Nat) : Int).toNat 1]? = some (.string (sb (names k))) := by
  rcases le8 h with rfl | rfl | rfl | rfl | rfl | rfl | rfl | rfl | rfl <;> rfl
attribute [local irreducible] LX CX Yl Gives RetIs Fn
attribute [local irreducible] be de fr.frm
section
variable (A : Option Addr) (n c : Nat) (l : List B8) (hl : l.length = n)
include hl
set_option maxRecDepth 100000 in
set_option maxHeartbeats 8000000 in
theorem rrequest_fn (v0 : Nat) {j : Int} (hj : j = v0) (hv0 : v0 ≤ 1000000) : Fn Tryz.prog 60 [.slice A n c, .int .i64 j] [.ro A n 1 (bvs l)] [] fun v Lo => v = .tuple #[(reqQ l v0).1.val, .int .i64 ((reqQ l v0).2 : Nat)] ∧ Lo = [] := by
  subst hj
  have h1 := rat_fn (A := A) (n := n) (c := c) (l := l) v0 hl rfl
  have h2 := rat_fn (A := A) (n := n) (c := c) (l := l) (i := (v0 : Int) + 1) (v0 + 1) hl (by omega)
  have m8 : (at_ l v0 : Int).tmod 8 = ((at_ l v0 % 8 : Nat) : Int) := modN _ 8
  have hm := Nat.mod_lt (at_ l v0) (show 0 < 8 by decide)
  have hk8 := reqK_le l v0
  have hna := names_at hk8
  have hnl : (names (reqK l v0)).length = (pts (reqK l v0)).length := List.length_map ..
  have hpl := pts_len (reqK l v0)
  obtain ⟨q0, hq0⟩ : ∃ q0 : RQ, q0 = ⟨reqK l v0, BitVec.ofInt 32 ((at_ l (v0 + 1) : Nat) : Int), 0#8, 0#16, 0#64, 0#64, 0#8, [], [], 0, 0⟩ := ⟨_, rfl⟩
  have hrq : reqQ l v0 = (pts (reqK l v0)).foldl (partQ l) (q0, v0 + 2) := by rw [hq0]; rfl
  have hkv : BitVec.ofInt 8 (((at_ l v0 % 8 : Nat) : Int) + 1) = reqK l v0 := rfl
  rw [hrq]
  have hkk : q0.k = reqK l v0 := by rw [hq0]
  generalize reqK l v0 = kk at *
  generalize at_ l v0 % 8 = a8 at *
  generalize at_ l (v0 + 1) = a1 at *
  refine fn_enter Tryz.func60 rfl rfl (by kernel_rfl) rfl ?_
  intro w0
  repeat (first | ((first | (apply lx_u; exact rfl) | (apply lx_g; exact rfl; exact rfl)); first | (apply isy_bin_rem; exact yl_eq (q_rem rfl rfl) (fun _ => congrArg (Value.int .i64) m8)) | (apply isy_convert; exact yl_eq (q_ci uk8 rfl rfl rfl) (fun _ => congrArg (fun x : B8 => Value.int .u8 x.toNat) hkv)) | (apply isy_convert; exact q_ci uk32 rfl rfl rfl) | fail) | (refine isx_call ?_; refine k_gcall (h1) ((fun w hm => in_ro (row_ro 1 rfl hm) (in_nil hm) rfl)) rfl rfl rfl rfl rfl rfl ?_) | (refine isx_call ?_; refine k_gcall (h2) ((fun w hm => in_ro (row_ro 1 rfl hm) (in_nil hm) rfl)) rfl rfl rfl rfl rfl rfl ?_) | refine wz ?_ | (refine wzb ?_; intro b_) | fail)
  refine lx_weak (Gives.blkown (m := 9) (sz := 1) 0 rfl rfl (by decide)) ?_
  repeat (first | ((first | (apply lx_u; exact rfl) | (apply lx_g; exact rfl; exact rfl)); first | (apply isy_indexAddr; exact q_ixo 0 rfl rfl rfl rfl rfl (hb := (fun _ => by omega))) | (apply isy_load; exact q_lio 0 rfl rfl rfl rfl hna) | fail) | refine wz ?_ | (refine wzb ?_; intro b_) | fail)
  rename_i b4 b6
  refine cx_loop (α := { i : Nat // i ≤ (pts kk).length }) (fun x => [(0, none, .slice A n c), (1, none, .int .i64 ((((pts kk).take x.1).foldl (partQ l) (q0, v0 + 2)).2 : Nat)), (4, none, .pointer (some ⟨b4, 0, none⟩)), (6, none, .pointer (some ⟨b6, 0, none⟩)), (7, none, .string (sb (names kk))), (8, none, .int .i64 x.1)])
    (fun x => [.blk b6 (((pts kk).take x.1).foldl (partQ l) (q0, v0 + 2)).1.cells 53, .blk b4 zeroQ.cells 53, .ro A n 1 (bvs l)]) (fun x => (pts kk).length - x.1) ⟨0, Nat.zero_le _⟩ ⟨rfl, slot_int (by dsimp only; show (v0 : Int) + 2 = ((v0 + 2 : Nat) : Int); omega), rfl, rfl, rfl, rfl, trivial⟩ (by dsimp only; rw [List.take_zero, List.foldl_nil, hq0]; exact Gives.pick [1, 2, 3] (by decide) rfl) ?_
  rintro ⟨i, hi⟩
  dsimp only at hi ⊢
  have hsl := fold_le l ((pts kk).take i) (q0, v0 + 2)
  rw [List.length_take] at hsl
  generalize hs : ((pts kk).take i).foldl (partQ l) (q0, v0 + 2) = s1 at *
  dsimp only at hsl
  have hs2 : s1.2 ≤ 1000100 := by omega
  clear hsl
  repeat (first | ((first | (apply lx_u; exact rfl) | (apply lx_g; exact rfl; exact rfl)); first | (apply isy_blt; exact q_slen rfl rfl) | fail) | refine wz ?_ | (refine wzb ?_; intro b_) | fail)
  by_cases hlt : i < (pts kk).length
  · obtain ⟨q, hq⟩ : ∃ q, (pts kk)[i]? = some q := ⟨_, List.getElem?_eq_getElem hlt⟩
    refine cx_cond rfl (fun _ => ?_) (fun h => absurd h (by simp; omega))
    have hnx : ((pts kk).take (i + 1)).foldl (partQ l) (q0, v0 + 2) = partQ l s1 q := by rw [List.take_add_one, hq, List.foldl_append, hs]; rfl
    have hc := rat_fn (A := A) (n := n) (c := c) (l := l) s1.2 hl rfl
    have hx := rat_fn (A := A) (n := n) (c := c) (l := l) (i := (s1.2 : Int) + 1) (s1.2 + 1) hl (by omega)
    have hy := rat_fn (A := A) (n := n) (c := c) (l := l) (i := (s1.2 : Int) + 1 + 1) (s1.2 + 2) hl (by omega)
    have hx256 := at_lt l (s1.2 + 1)
    have hy256 := at_lt l (s1.2 + 2)
    have m16 : (at_ l s1.2 : Int).tmod 16 = ((at_ l s1.2 % 16 : Nat) : Int) := modN _ 16
    have m65 : (at_ l s1.2 : Int).tmod 65 = ((at_ l s1.2 % 65 : Nat) : Int) := modN _ 65
    have m3 : (at_ l s1.2 : Int).tmod 3 = ((at_ l s1.2 % 3 : Nat) : Int) := modN _ 3
    have n1 : ((s1.2 : Int) + 1) = ((s1.2 + 1 : Nat) : Int) := by omega
    have hgt := names_get hq
    cases q
    · skip
      repeat (first | ((first | (apply lx_u; exact rfl) | (apply lx_g; exact rfl; exact rfl)); first | (apply isy_index; exact q_sat rfl rfl rfl (fun _ => ⟨Int.natCast_nonneg _, hgt⟩)) | fail) | (refine isx_call ?_; refine k_gcall (hc) ((fun w hm => in_ro (row_ro 2 rfl hm) (in_nil hm) rfl)) rfl rfl rfl rfl rfl rfl ?_) | refine wz ?_ | (refine wzb ?_; intro b_) | fail)
      refine cx_cond rfl (fun _ => ?_) (fun h => absurd h (by decide))
      repeat (first | ((first | (apply lx_u; exact rfl) | (apply lx_g; exact rfl; exact rfl)); first | (apply isy_bin_rem; exact yl_eq (q_rem rfl rfl) (fun _ => congrArg (Value.int .i64) m16)) | (apply isy_convert; exact q_ci uk64 rfl rfl rfl) | fail) | refine wz ?_ | (refine wzb ?_; intro b_) | fail)
      exact ⟨⟨i + 1, hlt⟩, ⟨rfl, slot_int (by dsimp only; rw [hnx]; exact n1), rfl, rfl, rfl, slot_int (by dsimp only; omega), trivial⟩, by dsimp only; rw [hnx]; exact Gives.refl _, by dsimp only; omega⟩
    · skip
      repeat (first | ((first | (apply lx_u; exact rfl) | (apply lx_g; exact rfl; exact rfl)); first | (apply isy_index; exact q_sat rfl rfl rfl (fun _ => ⟨Int.natCast_nonneg _, hgt⟩)) | fail) | (refine isx_call ?_; refine k_gcall (hc) ((fun w hm => in_ro (row_ro 2 rfl hm) (in_nil hm) rfl)) rfl rfl rfl rfl rfl rfl ?_) | refine wz ?_ | (refine wzb ?_; intro b_) | fail)
      refine cx_cond rfl (fun h => absurd h (by decide)) (fun _ => ?_)
      repeat (first | refine wz ?_ | (refine wzb ?_; intro b_) | fail)
      refine cx_cond rfl (fun _ => ?_) (fun h => absurd h (by decide))
      repeat (first | ((first | (apply lx_u; exact rfl) | (apply lx_g; exact rfl; exact rfl)); first | (apply isy_bin_rem; exact yl_eq (q_rem rfl rfl) (fun _ => congrArg (Value.int .i64) m16)) | (apply isy_convert; exact q_ci uk64 rfl rfl rfl) | fail) | refine wz ?_ | (refine wzb ?_; intro b_) | fail)
      exact ⟨⟨i + 1, hlt⟩, ⟨rfl, slot_int (by dsimp only; rw [hnx]; exact n1), rfl, rfl, rfl, slot_int (by dsimp only; omega), trivial⟩, by dsimp only; rw [hnx]; exact Gives.refl _, by dsimp only; omega⟩
    · skip
      repeat (first | ((first | (apply lx_u; exact rfl) | (apply lx_g; exact rfl; exact rfl)); first | (apply isy_index; exact q_sat rfl rfl rfl (fun _ => ⟨Int.natCast_nonneg _, hgt⟩)) | fail) | (refine isx_call ?_; refine k_gcall (hc) ((fun w hm => in_ro (row_ro 2 rfl hm) (in_nil hm) rfl)) rfl rfl rfl rfl rfl rfl ?_) | refine wz ?_ | (refine wzb ?_; intro b_) | fail)
      refine cx_cond rfl (fun h => absurd h (by decide)) (fun _ => ?_)
      repeat (first | refine wz ?_ | (refine wzb ?_; intro b_) | fail)
      refine cx_cond rfl (fun h => absurd h (by decide)) (fun _ => ?_)
      repeat (first | refine wz ?_ | (refine wzb ?_; intro b_) | fail)
      refine cx_cond rfl (fun _ => ?_) (fun h => absurd h (by decide))
      repeat (first | ((first | (apply lx_u; exact rfl) | (apply lx_g; exact rfl; exact rfl)); first | (apply isy_bin_rem; exact yl_eq (q_rem rfl rfl) (fun _ => congrArg (Value.int .i64) m65)) | (apply isy_convert; exact q_ci uk8 rfl rfl rfl) | fail) | refine wz ?_ | (refine wzb ?_; intro b_) | fail)
      exact ⟨⟨i + 1, hlt⟩, ⟨rfl, slot_int (by dsimp only; rw [hnx]; exact n1), rfl, rfl, rfl, slot_int (by dsimp only; omega), trivial⟩, by dsimp only; rw [hnx]; exact Gives.refl _, by dsimp only; omega⟩
    · skip
      repeat (first | ((first | (apply lx_u; exact rfl) | (apply lx_g; exact rfl; exact rfl)); first | (apply isy_index; exact q_sat rfl rfl rfl (fun _ => ⟨Int.natCast_nonneg _, hgt⟩)) | fail) | (refine isx_call ?_; refine k_gcall (hc) ((fun w hm => in_ro (row_ro 2 rfl hm) (in_nil hm) rfl)) rfl rfl rfl rfl rfl rfl ?_) | refine wz ?_ | (refine wzb ?_; intro b_) | fail)
      refine cx_cond rfl (fun h => absurd h (by decide)) (fun _ => ?_)
      repeat (first | refine wz ?_ | (refine wzb ?_; intro b_) | fail)
      refine cx_cond rfl (fun h => absurd h (by decide)) (fun _ => ?_)
      repeat (first | refine wz ?_ | (refine wzb ?_; intro b_) | fail)
      refine cx_cond rfl (fun h => absurd h (by decide)) (fun _ => ?_)
      repeat (first | refine wz ?_ | (refine wzb ?_; intro b_) | fail)
      refine cx_cond rfl (fun _ => ?_) (fun h => absurd h (by decide))
      repeat (first | ((first | (apply lx_u; exact rfl) | (apply lx_g; exact rfl; exact rfl)); first | (apply isy_convert; exact q_ci uk16 rfl rfl rfl) | (apply isy_load; exact q_lv 0 rfl rfl rfl rfl rfl) | (apply isy_bin_neq; exact q_bne s1.1.k 6#8 rfl rfl rfl rfl) | fail) | refine wz ?_ | (refine wzb ?_; intro b_) | fail)
      refine cx_cond rfl (fun h => ?_) (fun h => ?_)
      · have hk6 : s1.1.k ≠ 6#8 := by simpa using h
        have hpd : partQ l s1 .d = ({ s1.1 with du := BitVec.ofInt 16 ((at_ l s1.2 : Nat) : Int) + 1#16 }, s1.2 + 1) := by unfold partQ; dsimp only; rw [if_neg hk6]
        repeat (first | ((first | (apply lx_u; exact rfl) | (apply lx_g; exact rfl; exact rfl)); first | (apply isy_load; exact q_lv 0 rfl rfl rfl rfl rfl) | (apply isy_bin_add; exact q_badd uk16 (BitVec.ofInt 16 ((at_ l s1.2 : Nat) : Int)) 1#16 rfl rfl rfl rfl) | fail) | refine wz ?_ | (refine wzb ?_; intro b_) | fail)
        exact ⟨⟨i + 1, hlt⟩, ⟨rfl, slot_int (by dsimp only; rw [hnx, hpd]; exact n1), rfl, rfl, rfl, slot_int (by dsimp only; omega), trivial⟩, by dsimp only; rw [hnx, hpd]; exact Gives.refl _, by dsimp only; omega⟩
      · have hk6 : s1.1.k = 6#8 := by simpa using h
        have hpd : partQ l s1 .d = ({ s1.1 with du := BitVec.ofInt 16 ((at_ l s1.2 : Nat) : Int) }, s1.2 + 1) := by unfold partQ; dsimp only; rw [if_pos hk6]
        repeat (first | refine wz ?_ | (refine wzb ?_; intro b_) | fail)
        exact ⟨⟨i + 1, hlt⟩, ⟨rfl, slot_int (by dsimp only; rw [hnx, hpd]; exact n1), rfl, rfl, rfl, slot_int (by dsimp only; omega), trivial⟩, by dsimp only; rw [hnx, hpd]; exact Gives.refl _, by dsimp only; omega⟩
    · have n3 : ((s1.2 : Int) + 1 + 2) = ((s1.2 + 3 : Nat) : Int) := by omega
      have hpw : partQ l s1 .w = (panesQ s1.1 (at_ l s1.2) (at_ l (s1.2 + 1)) (at_ l (s1.2 + 2)), s1.2 + 3) := rfl
      have hle := rletter_fn (at_ l (s1.2 + 1)) rfl
      have he1 := redge_fn (at_ l (s1.2 + 1)) rfl
      have he2 := redge_fn (at_ l (s1.2 + 2)) rfl
      have hs1 := rsmall_fn (at_ l (s1.2 + 1)) rfl hx256
      have hs2' := rsmall_fn (at_ l (s1.2 + 2)) rfl hy256
      have h3 : at_ l s1.2 % 3 = 0 ∨ at_ l s1.2 % 3 = 1 ∨ at_ l s1.2 % 3 = 2 := by omega
      unfold panesQ at hpw
      generalize at_ l s1.2 % 3 = a3 at *
      rcases h3 with rfl | rfl | rfl
      · have hpd := hpw
        rw [if_pos rfl] at hpd
        repeat (first | ((first | (apply lx_u; exact rfl) | (apply lx_g; exact rfl; exact rfl)); first | (apply isy_index; exact q_sat rfl rfl rfl (fun _ => ⟨Int.natCast_nonneg _, hgt⟩)) | fail) | (refine isx_call ?_; refine k_gcall (hc) ((fun w hm => in_ro (row_ro 2 rfl hm) (in_nil hm) rfl)) rfl rfl rfl rfl rfl rfl ?_) | refine wz ?_ | (refine wzb ?_; intro b_) | fail)
        refine cx_cond rfl (fun h => absurd h (by decide)) (fun _ => ?_)
        repeat (first | refine wz ?_ | (refine wzb ?_; intro b_) | fail)
        refine cx_cond rfl (fun h => absurd h (by decide)) (fun _ => ?_)
        repeat (first | refine wz ?_ | (refine wzb ?_; intro b_) | fail)
        refine cx_cond rfl (fun h => absurd h (by decide)) (fun _ => ?_)
        repeat (first | refine wz ?_ | (refine wzb ?_; intro b_) | fail)
        refine cx_cond rfl (fun h => absurd h (by decide)) (fun _ => ?_)
        repeat (first | refine wz ?_ | (refine wzb ?_; intro b_) | fail)
        repeat (first | ((first | (apply lx_u; exact rfl) | (apply lx_g; exact rfl; exact rfl)); first | (apply isy_bin_rem; exact yl_eq (q_rem rfl rfl) (fun _ => congrArg (Value.int .i64) m3)) | (apply isy_convert; exact q_ci uk8 rfl rfl rfl) | fail) | (refine isx_call ?_; refine k_gcall (hx) ((fun w hm => in_ro (row_ro 2 rfl hm) (in_nil hm) rfl)) rfl rfl rfl rfl rfl rfl ?_) | (refine isx_call ?_; refine k_gcall (hy) ((fun w hm => in_ro (row_ro 2 rfl hm) (in_nil hm) rfl)) rfl rfl rfl rfl rfl rfl ?_) | refine wz ?_ | (refine wzb ?_; intro b_) | fail)
        refine cx_cond rfl (fun _ => ?_) (fun h => absurd h (by decide))
        repeat (first | (refine isx_call ?_; refine k_gcall (hle) (fun _ hm => in_nil hm) rfl rfl rfl rfl rfl rfl ?_) | (refine isx_call ?_; refine k_gcall (hs2') (fun _ hm => in_nil hm) rfl rfl rfl rfl rfl rfl ?_) | refine wz ?_ | (refine wzb ?_; intro b_) | fail)
        exact ⟨⟨i + 1, hlt⟩, ⟨rfl, slot_int (by dsimp only; rw [hnx, hpd]; exact n3), rfl, rfl, rfl, slot_int (by dsimp only; omega), trivial⟩, by dsimp only; rw [hnx, hpd]; exact Gives.refl _, by dsimp only; omega⟩
      · have hpd := hpw
        rw [if_neg (by decide), if_pos rfl] at hpd
        repeat (first | ((first | (apply lx_u; exact rfl) | (apply lx_g; exact rfl; exact rfl)); first | (apply isy_index; exact q_sat rfl rfl rfl (fun _ => ⟨Int.natCast_nonneg _, hgt⟩)) | fail) | (refine isx_call ?_; refine k_gcall (hc) ((fun w hm => in_ro (row_ro 2 rfl hm) (in_nil hm) rfl)) rfl rfl rfl rfl rfl rfl ?_) | refine wz ?_ | (refine wzb ?_; intro b_) | fail)
        refine cx_cond rfl (fun h => absurd h (by decide)) (fun _ => ?_)
        repeat (first | refine wz ?_ | (refine wzb ?_; intro b_) | fail)
        refine cx_cond rfl (fun h => absurd h (by decide)) (fun _ => ?_)
        repeat (first | refine wz ?_ | (refine wzb ?_; intro b_) | fail)
        refine cx_cond rfl (fun h => absurd h (by decide)) (fun _ => ?_)
        repeat (first | refine wz ?_ | (refine wzb ?_; intro b_) | fail)
        refine cx_cond rfl (fun h => absurd h (by decide)) (fun _ => ?_)
        repeat (first | refine wz ?_ | (refine wzb ?_; intro b_) | fail)
        repeat (first | ((first | (apply lx_u; exact rfl) | (apply lx_g; exact rfl; exact rfl)); first | (apply isy_bin_rem; exact yl_eq (q_rem rfl rfl) (fun _ => congrArg (Value.int .i64) m3)) | (apply isy_convert; exact q_ci uk8 rfl rfl rfl) | fail) | (refine isx_call ?_; refine k_gcall (hx) ((fun w hm => in_ro (row_ro 2 rfl hm) (in_nil hm) rfl)) rfl rfl rfl rfl rfl rfl ?_) | (refine isx_call ?_; refine k_gcall (hy) ((fun w hm => in_ro (row_ro 2 rfl hm) (in_nil hm) rfl)) rfl rfl rfl rfl rfl rfl ?_) | refine wz ?_ | (refine wzb ?_; intro b_) | fail)
        refine cx_cond rfl (fun h => absurd h (by decide)) (fun _ => ?_)
        repeat (first | refine wz ?_ | (refine wzb ?_; intro b_) | fail)
        refine cx_cond rfl (fun _ => ?_) (fun h => absurd h (by decide))
        repeat (first | (refine isx_call ?_; refine k_gcall (he1) (fun _ hm => in_nil hm) rfl rfl rfl rfl rfl rfl ?_) | (refine isx_call ?_; refine k_gcall (he2) (fun _ hm => in_nil hm) rfl rfl rfl rfl rfl rfl ?_) | refine wz ?_ | (refine wzb ?_; intro b_) | fail)
        exact ⟨⟨i + 1, hlt⟩, ⟨rfl, slot_int (by dsimp only; rw [hnx, hpd]; exact n3), rfl, rfl, rfl, slot_int (by dsimp only; omega), trivial⟩, by dsimp only; rw [hnx, hpd]; exact Gives.refl _, by dsimp only; omega⟩
      · have hpd := hpw
        rw [if_neg (by decide), if_neg (by decide)] at hpd
        repeat (first | ((first | (apply lx_u; exact rfl) | (apply lx_g; exact rfl; exact rfl)); first | (apply isy_index; exact q_sat rfl rfl rfl (fun _ => ⟨Int.natCast_nonneg _, hgt⟩)) | fail) | (refine isx_call ?_; refine k_gcall (hc) ((fun w hm => in_ro (row_ro 2 rfl hm) (in_nil hm) rfl)) rfl rfl rfl rfl rfl rfl ?_) | refine wz ?_ | (refine wzb ?_; intro b_) | fail)
        refine cx_cond rfl (fun h => absurd h (by decide)) (fun _ => ?_)
        repeat (first | refine wz ?_ | (refine wzb ?_; intro b_) | fail)
        refine cx_cond rfl (fun h => absurd h (by decide)) (fun _ => ?_)
        repeat (first | refine wz ?_ | (refine wzb ?_; intro b_) | fail)
        refine cx_cond rfl (fun h => absurd h (by decide)) (fun _ => ?_)
        repeat (first | refine wz ?_ | (refine wzb ?_; intro b_) | fail)
        refine cx_cond rfl (fun h => absurd h (by decide)) (fun _ => ?_)
        repeat (first | refine wz ?_ | (refine wzb ?_; intro b_) | fail)
        repeat (first | ((first | (apply lx_u; exact rfl) | (apply lx_g; exact rfl; exact rfl)); first | (apply isy_bin_rem; exact yl_eq (q_rem rfl rfl) (fun _ => congrArg (Value.int .i64) m3)) | (apply isy_convert; exact q_ci uk8 rfl rfl rfl) | fail) | (refine isx_call ?_; refine k_gcall (hx) ((fun w hm => in_ro (row_ro 2 rfl hm) (in_nil hm) rfl)) rfl rfl rfl rfl rfl rfl ?_) | (refine isx_call ?_; refine k_gcall (hy) ((fun w hm => in_ro (row_ro 2 rfl hm) (in_nil hm) rfl)) rfl rfl rfl rfl rfl rfl ?_) | refine wz ?_ | (refine wzb ?_; intro b_) | fail)
        refine cx_cond rfl (fun h => absurd h (by decide)) (fun _ => ?_)
        repeat (first | refine wz ?_ | (refine wzb ?_; intro b_) | fail)
        refine cx_cond rfl (fun h => absurd h (by decide)) (fun _ => ?_)
        repeat (first | (refine isx_call ?_; refine k_gcall (hs1) (fun _ hm => in_nil hm) rfl rfl rfl rfl rfl rfl ?_) | (refine isx_call ?_; refine k_gcall (hs2') (fun _ hm => in_nil hm) rfl rfl rfl rfl rfl rfl ?_) | refine wz ?_ | (refine wzb ?_; intro b_) | fail)
        exact ⟨⟨i + 1, hlt⟩, ⟨rfl, slot_int (by dsimp only; rw [hnx, hpd]; exact n3), rfl, rfl, rfl, slot_int (by dsimp only; omega), trivial⟩, by dsimp only; rw [hnx, hpd]; exact Gives.refl _, by dsimp only; omega⟩
  · obtain rfl : i = (pts kk).length := by omega
    rw [List.take_length] at hs
    refine cx_cond rfl (fun h => absurd h (by simp; omega)) (fun _ => ?_)
    repeat (first | refine wz ?_ | (refine wzb ?_; intro b_) | fail)
    exact bq_ret (ret_cell_tmp (E := EV) 1 rfl rfl rfl rfl rfl (fun _ => Nat.le_of_ble_eq_true rfl) rfl) [] (Gives.nil _) rfl ⟨by rw [hs]; rfl, rfl⟩
end
end Go.Proofs.YtmochicneilhhaaGreat.sc
