/- frames: all that stands one behind the other, plainly; by the reference; frames: all that stands one behind the other; frames: All. -/
import Derived.Test.YthmdiopbiiimeaaGo
import Derived.Test.YthmdiopbiiimeaaFta
import Derived.Test.YthmdiopbiiimeaaRf
namespace Go.Proofs.Ythmdiopbiiimeaa.fr
open Go.RowKit Go.Proofs.Ythmdiopbiiimeaa.kit Go.Proofs.Ythmdiopbiiimeaa.pk Go.Proofs.Ythmdiopbiiimeaa.chk Go.Proofs.Ythmdiopbiiimeaa.crc
abbrev Told := List (List B8 × Int)
def goAll (l : List B8) : Nat → Nat → Told → Told × Nat
  | 0, a, acc => (acc, a)
  | k + 1, a, acc => if (takeF l (a : Int)).2.2 = 70 then (acc, a) else if (takeF l (a : Int)).2.2 = 71 then (acc ++ [((takeF l (a : Int)).1, 71)], a) else goAll l k (takeF l (a : Int)).2.1.toNat (acc ++ [((takeF l (a : Int)).1, (takeF l (a : Int)).2.2)])
def allF (l : List B8) : Told × Nat := goAll l (l.length + 1) 0 []
theorem takeF_next {l : List B8} {a : Nat} (h1 : (takeF l (a : Int)).2.2 ≠ 70) (h2 : (takeF l (a : Int)).2.2 ≠ 71) : ∃ b : Nat, (takeF l (a : Int)).2.1 = b ∧ a + 8 ≤ b ∧ b ≤ l.length := by
  unfold takeF at h1 h2 ⊢
  split
  · rename_i h; rw [if_pos h] at h1; exact absurd rfl h1
  · rename_i h
    rw [if_neg h] at h1 h2
    rw [Int.toNat_natCast] at *
    split
    · rename_i h3; rw [if_pos h3] at h2; exact absurd rfl h2
    · rename_i h3
      rw [if_neg h3] at h1 h2
      split
      · rename_i h4; rw [if_pos h4] at h1; exact absurd rfl h1
      · rename_i h4
        refine ⟨a + 8 + num4 l a, ?_, by omega, by omega⟩
        split <;> rfl
theorem takeF_at {l : List B8} {a : Nat} (h : (takeF l (a : Int)).2.2 = 71) : (takeF l (a : Int)).2.1 = a := by
  unfold takeF at h ⊢
  split
  · rfl
  · rename_i h0
    rw [if_neg h0] at h
    rw [Int.toNat_natCast] at *
    split
    · rfl
    · rename_i h3
      rw [if_neg h3] at h
      split
      · rfl
      · rename_i h4
        rw [if_neg h4] at h
        split at h <;> cases h
/-- on the way -/
def OnAll (l : List B8) (a : Nat) (acc : Told) : Prop := ∃ k, l.length - a < k ∧ goAll l k a acc = allF l
theorem onAll_start (l : List B8) : OnAll l 0 [] := ⟨l.length + 1, by omega, rfl⟩
theorem onAll_end {l : List B8} {a : Nat} {acc : Told} (h : OnAll l a acc) (he : (takeF l (a : Int)).2.2 = 70) : allF l = (acc, a) := by
  obtain ⟨k, hk, e⟩ := h
  cases k with
  | zero => omega
  | succ k => rw [goAll, if_pos he] at e; exact e.symm
theorem onAll_long {l : List B8} {a : Nat} {acc : Told} (h : OnAll l a acc) (he : (takeF l (a : Int)).2.2 = 71) : allF l = (acc ++ [((takeF l (a : Int)).1, 71)], a) := by
  obtain ⟨k, hk, e⟩ := h
  cases k with
  | zero => omega
  | succ k => rw [goAll, if_neg (by rw [he]; decide), if_pos he] at e; exact e.symm
theorem onAll_next {l : List B8} {a b : Nat} {acc : Told} (h : OnAll l a acc) (h1 : (takeF l (a : Int)).2.2 ≠ 70) (h2 : (takeF l (a : Int)).2.2 ≠ 71) (hb : (takeF l (a : Int)).2.1 = b) : OnAll l b (acc ++ [((takeF l (a : Int)).1, (takeF l (a : Int)).2.2)]) := by
  obtain ⟨k, hk, e⟩ := h
  obtain ⟨b', h3, h4, h5⟩ := takeF_next h1 h2
  obtain rfl : b = b' := by omega
  cases k with
  | zero => omega
  | succ k =>
    rw [goAll, if_neg h1, if_neg h2, hb, Int.toNat_natCast] at e
    exact ⟨k, by omega, e⟩
/-- what is told, in memory -/
structure Fd where
  r : Rw
  e : Int
def Fd.cells (x : Fd) : List Value := [.slice x.r.A x.r.n x.r.c, .int .i64 x.e]
def Fd.val (x : Fd) : Value := .agg #[.slice x.r.A x.r.n x.r.c, .int .i64 x.e]
def fcells (fs : List Fd) : List Value := fs.flatMap Fd.cells
def Fd.body (x : Fd) : Ck := .own x.r.A x.r.n x.r.c 5 1 (bvs x.r.l)
/-- the bodies, the newest first -/
def bods (fs : List Fd) : List Ck := fs.reverse.map Fd.body
theorem bods_nil : bods [] = [] := rfl
theorem bods_push (fs : List Fd) (x : Fd) : bods (fs ++ [x]) = x.body :: bods fs := by simp [bods]
theorem bods_mut (fs : List Fd) : (bods fs).all Ck.mut_ = true := by
  rw [List.all_eq_true]
  intro c hc
  obtain ⟨x, _, rfl⟩ := List.mem_map.1 hc
  rfl
def tell (fs : List Fd) : Told := fs.map fun x => (x.r.l, x.e)
theorem tell_push (fs : List Fd) (x : Fd) : tell (fs ++ [x]) = tell fs ++ [(x.r.l, x.e)] := by simp [tell]
theorem fcells_push (fs : List Fd) (x : Fd) : fcells (fs ++ [x]) = fcells fs ++ x.cells := by simp [fcells]
def Fit (fs : List Fd) : Prop := ∀ x ∈ fs, x.r.l.length = x.r.n ∧ x.r.n ≤ 8192
theorem Fit.push {fs : List Fd} {x : Fd} (h : Fit fs) (hx : x.r.l.length = x.r.n ∧ x.r.n ≤ 8192) : Fit (fs ++ [x]) := by
  intro y hy
  rcases List.mem_append.1 hy with hy | hy
  · exact h y hy
  · obtain rfl := List.mem_singleton.1 hy; exact hx
theorem fcells_get {fs : List Fd} {i : Nat} {x : Fd} (h : fs[i]? = some x) (j : Nat) (hj : j < 2) : (fcells fs)[mulI i 2 + j]? = x.cells[j]? := flat_get (f := Fd.cells) (m := 2) (fun _ => rfl) h hj
theorem cells_one (x : Fd) : ∀ u ∈ x.cells, u.oneCell' = true := by
  intro u hu
  simp [Fd.cells] at hu
  rcases hu with rfl | rfl <;> rfl
structure ASt (l : List B8) where
  a : Nat
  fs : List Fd
  A : Option Addr
  c : Nat
  le : a ≤ l.length
  way : OnAll l a (tell fs)
  few : fs.length ≤ a
  fit : Fit fs
abbrev AllP (T : TypeId) (l : List B8) (v : Value) (Lo : List Ck) : Prop := ∃ A' c' fs, v = .tuple #[.slice A' (List.length fs) c', .int .i64 ((allF l).2 : Nat)] ∧ tell fs = (allF l).1 ∧ Fit fs ∧ fs.length ≤ l.length + 1 ∧ Lo = .own A' fs.length c' T 2 (fcells fs) :: bods fs
attribute [local irreducible] LX CX Yl Gives RetIs Fn
attribute [local irreducible] be de upd takeF num4 sum4 frm allF
set_option maxHeartbeats 2000000 in
theorem rall_fn (A : Option Addr) (n c : Nat) (l : List B8) (hl : l.length = n) (hc : n ≤ c ∧ c ≤ 9223372036854775807) (hn : n ≤ 1000000) : Fn Try.prog 21 [.slice A n c] [.ro A n 1 (bvs l)] [] (AllP 58 l) := by
  subst hl
  refine fn_enter Try.func21 rfl rfl (by kernel_rfl) rfl ?_
  intro w0
  repeat (first | (refine isU ?_; refine gU rfl ?_) | (refine isG ?_; refine gG rfl rfl ?_) | (refine isx_box ?_; refine gB rfl rfl rfl rfl rfl rfl ?_; intro b_) | (refine isx_alloc ?_; refine gA rfl rfl rfl rfl rfl rfl rfl ?_; intro b_) | (refine isx_store ?_; refine gS 0 rfl rfl rfl rfl rfl rfl rfl rfl rfl rfl ?_) | (refine isx_store ?_; refine gS 1 rfl rfl rfl rfl rfl rfl rfl rfl rfl rfl ?_) | (refine isx_store ?_; refine gS 2 rfl rfl rfl rfl rfl rfl rfl rfl rfl rfl ?_) | (refine isx_store ?_; refine gS 3 rfl rfl rfl rfl rfl rfl rfl rfl rfl rfl ?_) | (refine isx_row ?_; refine lx_row (E := EV) rfl rfl rfl rfl rfl rfl rfl rfl rfl rfl rfl rfl rfl ?_; intro b_) | refine lx_nil ?_ | with_reducible refine tq_n ?_ | with_reducible refine tq_r ?_ | with_reducible refine tq_e ?_ | with_reducible refine bk_n ?_ | with_reducible refine bk_r ?_ | (with_reducible refine bk_e ?_ ?_; exact rfl) | (with_reducible refine bk_x ?_ ?_; exact rfl) | refine cx_seq ?_ | refine cx_region ?_ | refine cx_block ?_ | refine cx_ret ?_ | refine cx_skip ?_ | refine cx_exit ?_ | fail)
  refine cx_loop (α := ASt l) (fun x => [(0, none, .slice A l.length c), (4, none, .slice x.A x.fs.length x.c), (5, none, .int .i64 x.a)])
    (fun x => .own x.A x.fs.length x.c 58 2 (fcells x.fs) :: .ro A l.length 1 (bvs l) :: bods x.fs) (fun x => l.length - x.a) ⟨0, [], none, 0, Nat.zero_le _, onAll_start l, Nat.le_refl _, fun x hx => by cases hx⟩ ⟨rfl, rfl, rfl, trivial⟩ (Gives.nilown _ _ _) ?_
  rintro ⟨a, fs, Af, cf, le, way, few, fit⟩
  dsimp only
  have ht := rtake_fn A l.length c l (a : Int) rfl hc hn (by omega)
  have hbl := (takeF_le (l := l) (at' := (a : Int))).1
  have w1 := fun h => onAll_end way h
  have w2 := fun h => onAll_long way h
  have w3 := fun h1 h2 (b : Nat) hb => onAll_next (b := b) way h1 h2 hb
  have w4 := @takeF_next l a
  unfold TakeP at ht
  generalize hTf : takeF l (a : Int) = T at *
  obtain ⟨bd, nx, e⟩ := T
  dsimp only at ht hbl w1 w2 w3 w4
  by_cases he : e = 70
  · have hA := w1 he
    subst he
    repeat (first | refine lx_not rfl rfl rfl rfl ?_ | refine lx_notu rfl rfl rfl rfl rfl ?_ | ((first | (apply lx_gt; exact rfl; exact rfl; exact rfl) | (apply lx_u; exact rfl) | (apply lx_g; exact rfl; exact rfl)); first | (apply isy_bin_eql; exact yl_true (yl_op (E := EV) rfl) (fun _ => rfl)) | fail) | (refine isG ?_; refine gT rfl rfl rfl ?_) | (refine isU ?_; refine gU rfl ?_) | (refine isG ?_; refine gG rfl rfl ?_) | (refine isx_call ?_; (refine isx_call ?_; refine lx_call0 (ht) ((fun w hm => in_ro (row_ro 1 rfl hm) (in_nil hm) rfl)) rfl rfl rfl rfl rfl rfl rfl rfl ?_; rintro v_ Lo_ ⟨Ab, cb', rfl, rfl⟩)) | (refine isx_box ?_; refine gB rfl rfl rfl rfl rfl rfl ?_; intro b_) | (refine isx_alloc ?_; refine gA rfl rfl rfl rfl rfl rfl rfl ?_; intro b_) | (refine isx_store ?_; refine gS 0 rfl rfl rfl rfl rfl rfl rfl rfl rfl rfl ?_) | (refine isx_store ?_; refine gS 1 rfl rfl rfl rfl rfl rfl rfl rfl rfl rfl ?_) | (refine isx_store ?_; refine gS 2 rfl rfl rfl rfl rfl rfl rfl rfl rfl rfl ?_) | (refine isx_store ?_; refine gS 3 rfl rfl rfl rfl rfl rfl rfl rfl rfl rfl ?_) | (refine isx_row ?_; refine lx_row (E := EV) rfl rfl rfl rfl rfl rfl rfl rfl rfl rfl rfl rfl rfl ?_; intro b_) | refine lx_nil ?_ | with_reducible refine tq_n ?_ | with_reducible refine tq_r ?_ | with_reducible refine tq_e ?_ | with_reducible refine bk_n ?_ | with_reducible refine bk_r ?_ | (with_reducible refine bk_e ?_ ?_; exact rfl) | (with_reducible refine bk_x ?_ ?_; exact rfl) | refine cx_seq ?_ | refine cx_region ?_ | refine cx_block ?_ | refine cx_ret ?_ | refine cx_skip ?_ | refine cx_exit ?_ | fail)
    refine cx_cond rfl (fun _ => ?_) (fun h => absurd h (by decide))
    repeat (first | (refine isU ?_; refine gU rfl ?_) | (refine isG ?_; refine gG rfl rfl ?_) | (refine isx_box ?_; refine gB rfl rfl rfl rfl rfl rfl ?_; intro b_) | (refine isx_alloc ?_; refine gA rfl rfl rfl rfl rfl rfl rfl ?_; intro b_) | (refine isx_store ?_; refine gS 0 rfl rfl rfl rfl rfl rfl rfl rfl rfl rfl ?_) | (refine isx_store ?_; refine gS 1 rfl rfl rfl rfl rfl rfl rfl rfl rfl rfl ?_) | (refine isx_store ?_; refine gS 2 rfl rfl rfl rfl rfl rfl rfl rfl rfl rfl ?_) | (refine isx_store ?_; refine gS 3 rfl rfl rfl rfl rfl rfl rfl rfl rfl rfl ?_) | (refine isx_row ?_; refine lx_row (E := EV) rfl rfl rfl rfl rfl rfl rfl rfl rfl rfl rfl rfl rfl ?_; intro b_) | refine lx_nil ?_ | with_reducible refine tq_n ?_ | with_reducible refine tq_r ?_ | with_reducible refine tq_e ?_ | with_reducible refine bk_n ?_ | with_reducible refine bk_r ?_ | (with_reducible refine bk_e ?_ ?_; exact rfl) | (with_reducible refine bk_x ?_ ?_; exact rfl) | refine cx_seq ?_ | refine cx_region ?_ | refine cx_block ?_ | refine cx_ret ?_ | refine cx_skip ?_ | refine cx_exit ?_ | fail)
    exact bq_ret (ret_tmp2 rfl rfl rfl) (.own Af fs.length cf 58 2 (fcells fs) :: bods fs) (Gives.sub (.cons _ (.cons_cons _ (.cons _ (.refl _))))) (by rw [List.all_cons, bods_mut]; rfl) ⟨Af, cf, fs, by rw [hA], by rw [hA], fit, by omega, rfl⟩
  have h70 : (e == 70) = false := by simp [he]
  repeat (first | refine lx_not rfl rfl rfl rfl ?_ | refine lx_notu rfl rfl rfl rfl rfl ?_ | ((first | (apply lx_gt; exact rfl; exact rfl; exact rfl) | (apply lx_u; exact rfl) | (apply lx_g; exact rfl; exact rfl)); first | (apply isy_bin_eql; exact yl_false (yl_op (E := EV) rfl) (fun _ => h70)) | fail) | (refine isG ?_; refine gT rfl rfl rfl ?_) | (refine isU ?_; refine gU rfl ?_) | (refine isG ?_; refine gG rfl rfl ?_) | (refine isx_call ?_; (refine isx_call ?_; refine lx_call0 (ht) ((fun w hm => in_ro (row_ro 1 rfl hm) (in_nil hm) rfl)) rfl rfl rfl rfl rfl rfl rfl rfl ?_; rintro v_ Lo_ ⟨Ab, cb', rfl, rfl⟩)) | (refine isx_box ?_; refine gB rfl rfl rfl rfl rfl rfl ?_; intro b_) | (refine isx_alloc ?_; refine gA rfl rfl rfl rfl rfl rfl rfl ?_; intro b_) | (refine isx_store ?_; refine gS 0 rfl rfl rfl rfl rfl rfl rfl rfl rfl rfl ?_) | (refine isx_store ?_; refine gS 1 rfl rfl rfl rfl rfl rfl rfl rfl rfl rfl ?_) | (refine isx_store ?_; refine gS 2 rfl rfl rfl rfl rfl rfl rfl rfl rfl rfl ?_) | (refine isx_store ?_; refine gS 3 rfl rfl rfl rfl rfl rfl rfl rfl rfl rfl ?_) | (refine isx_row ?_; refine lx_row (E := EV) rfl rfl rfl rfl rfl rfl rfl rfl rfl rfl rfl rfl rfl ?_; intro b_) | refine lx_nil ?_ | with_reducible refine tq_n ?_ | with_reducible refine tq_r ?_ | with_reducible refine tq_e ?_ | with_reducible refine bk_n ?_ | with_reducible refine bk_r ?_ | (with_reducible refine bk_e ?_ ?_; exact rfl) | (with_reducible refine bk_x ?_ ?_; exact rfl) | refine cx_seq ?_ | refine cx_region ?_ | refine cx_block ?_ | refine cx_ret ?_ | refine cx_skip ?_ | refine cx_exit ?_ | fail)
  refine cx_cond rfl (fun h => absurd h (by decide)) (fun _ => ?_)
  repeat (first | (refine isU ?_; refine gU rfl ?_) | (refine isG ?_; refine gG rfl rfl ?_) | (refine isx_box ?_; refine gB rfl rfl rfl rfl rfl rfl ?_; intro b_) | (refine isx_alloc ?_; refine gA rfl rfl rfl rfl rfl rfl rfl ?_; intro b_) | (refine isx_store ?_; refine gS 0 rfl rfl rfl rfl rfl rfl rfl rfl rfl rfl ?_) | (refine isx_store ?_; refine gS 1 rfl rfl rfl rfl rfl rfl rfl rfl rfl rfl ?_) | (refine isx_store ?_; refine gS 2 rfl rfl rfl rfl rfl rfl rfl rfl rfl rfl ?_) | (refine isx_store ?_; refine gS 3 rfl rfl rfl rfl rfl rfl rfl rfl rfl rfl ?_) | (refine isx_row ?_; refine lx_row (E := EV) rfl rfl rfl rfl rfl rfl rfl rfl rfl rfl rfl rfl rfl ?_; intro b_) | refine lx_nil ?_ | with_reducible refine tq_n ?_ | with_reducible refine tq_r ?_ | with_reducible refine tq_e ?_ | with_reducible refine bk_n ?_ | with_reducible refine bk_r ?_ | (with_reducible refine bk_e ?_ ?_; exact rfl) | (with_reducible refine bk_x ?_ ?_; exact rfl) | refine cx_seq ?_ | refine cx_region ?_ | refine cx_block ?_ | refine cx_ret ?_ | refine cx_skip ?_ | refine cx_exit ?_ | fail)
  refine lx_append (E := EV) 2 rfl rfl rfl rfl rfl rfl rfl rfl rfl rfl rfl rfl rfl (news := Fd.cells ⟨⟨Ab, bd.length, cb', bd⟩, e⟩) (fun w hm => row_blk 0 rfl rfl hm) (cells_one _) (by unfold maxLen; omega) (by show (_ + _) * 32 ≤ _; omega) (fun _ _ _ => trivial) ?_
  intro A' c'
  have hlen : (fs ++ [(⟨⟨Ab, bd.length, cb', bd⟩, e⟩ : Fd)]).length = fs.length + 1 := by simp
  rw [← fcells_push, ← hlen]
  have fit' := fit.push (x := ⟨⟨Ab, bd.length, cb', bd⟩, e⟩) ⟨rfl, hbl⟩
  by_cases hl : e = 71
  · have hA := w2 hl
    subst hl
    repeat (first | refine lx_not rfl rfl rfl rfl ?_ | refine lx_notu rfl rfl rfl rfl rfl ?_ | ((first | (apply lx_gt; exact rfl; exact rfl; exact rfl) | (apply lx_u; exact rfl) | (apply lx_g; exact rfl; exact rfl)); first | (apply isy_bin_eql; exact yl_true (yl_op (E := EV) rfl) (fun _ => rfl)) | fail) | (refine isG ?_; refine gT rfl rfl rfl ?_) | (refine isU ?_; refine gU rfl ?_) | (refine isG ?_; refine gG rfl rfl ?_) | (refine isx_box ?_; refine gB rfl rfl rfl rfl rfl rfl ?_; intro b_) | (refine isx_alloc ?_; refine gA rfl rfl rfl rfl rfl rfl rfl ?_; intro b_) | (refine isx_store ?_; refine gS 0 rfl rfl rfl rfl rfl rfl rfl rfl rfl rfl ?_) | (refine isx_store ?_; refine gS 1 rfl rfl rfl rfl rfl rfl rfl rfl rfl rfl ?_) | (refine isx_store ?_; refine gS 2 rfl rfl rfl rfl rfl rfl rfl rfl rfl rfl ?_) | (refine isx_store ?_; refine gS 3 rfl rfl rfl rfl rfl rfl rfl rfl rfl rfl ?_) | (refine isx_row ?_; refine lx_row (E := EV) rfl rfl rfl rfl rfl rfl rfl rfl rfl rfl rfl rfl rfl ?_; intro b_) | refine lx_nil ?_ | with_reducible refine tq_n ?_ | with_reducible refine tq_r ?_ | with_reducible refine tq_e ?_ | with_reducible refine bk_n ?_ | with_reducible refine bk_r ?_ | (with_reducible refine bk_e ?_ ?_; exact rfl) | (with_reducible refine bk_x ?_ ?_; exact rfl) | refine cx_seq ?_ | refine cx_region ?_ | refine cx_block ?_ | refine cx_ret ?_ | refine cx_skip ?_ | refine cx_exit ?_ | fail)
    refine cx_cond rfl (fun _ => ?_) (fun h => absurd h (by decide))
    repeat (first | (refine isU ?_; refine gU rfl ?_) | (refine isG ?_; refine gG rfl rfl ?_) | (refine isx_box ?_; refine gB rfl rfl rfl rfl rfl rfl ?_; intro b_) | (refine isx_alloc ?_; refine gA rfl rfl rfl rfl rfl rfl rfl ?_; intro b_) | (refine isx_store ?_; refine gS 0 rfl rfl rfl rfl rfl rfl rfl rfl rfl rfl ?_) | (refine isx_store ?_; refine gS 1 rfl rfl rfl rfl rfl rfl rfl rfl rfl rfl ?_) | (refine isx_store ?_; refine gS 2 rfl rfl rfl rfl rfl rfl rfl rfl rfl rfl ?_) | (refine isx_store ?_; refine gS 3 rfl rfl rfl rfl rfl rfl rfl rfl rfl rfl ?_) | (refine isx_row ?_; refine lx_row (E := EV) rfl rfl rfl rfl rfl rfl rfl rfl rfl rfl rfl rfl rfl ?_; intro b_) | refine lx_nil ?_ | with_reducible refine tq_n ?_ | with_reducible refine tq_r ?_ | with_reducible refine tq_e ?_ | with_reducible refine bk_n ?_ | with_reducible refine bk_r ?_ | (with_reducible refine bk_e ?_ ?_; exact rfl) | (with_reducible refine bk_x ?_ ?_; exact rfl) | refine cx_seq ?_ | refine cx_region ?_ | refine cx_block ?_ | refine cx_ret ?_ | refine cx_skip ?_ | refine cx_exit ?_ | fail)
    refine bq_ret (ret_tmp2 rfl rfl rfl) (.own A' (fs ++ [(⟨⟨Ab, bd.length, cb', bd⟩, 71⟩ : Fd)]).length c' 58 2 (fcells (fs ++ [(⟨⟨Ab, bd.length, cb', bd⟩, 71⟩ : Fd)])) :: bods (fs ++ [(⟨⟨Ab, bd.length, cb', bd⟩, 71⟩ : Fd)])) ?_ (by rw [List.all_cons, bods_mut]; rfl) ⟨A', c', fs ++ [(⟨⟨Ab, bd.length, cb', bd⟩, 71⟩ : Fd)], by rw [hA], by rw [hA, tell_push], fit', by omega, rfl⟩
    rw [bods_push]
    exact Gives.pre [_, _, _, _] [2, 1] (by decide) rfl rfl
  have h71 : (e == 71) = false := by simp [hl]
  obtain ⟨b, rfl, hab, hble⟩ := w4 he hl
  repeat (first | refine lx_not rfl rfl rfl rfl ?_ | refine lx_notu rfl rfl rfl rfl rfl ?_ | ((first | (apply lx_gt; exact rfl; exact rfl; exact rfl) | (apply lx_u; exact rfl) | (apply lx_g; exact rfl; exact rfl)); first | (apply isy_bin_eql; exact yl_false (yl_op (E := EV) rfl) (fun _ => h71)) | fail) | (refine isG ?_; refine gT rfl rfl rfl ?_) | (refine isU ?_; refine gU rfl ?_) | (refine isG ?_; refine gG rfl rfl ?_) | (refine isx_box ?_; refine gB rfl rfl rfl rfl rfl rfl ?_; intro b_) | (refine isx_alloc ?_; refine gA rfl rfl rfl rfl rfl rfl rfl ?_; intro b_) | (refine isx_store ?_; refine gS 0 rfl rfl rfl rfl rfl rfl rfl rfl rfl rfl ?_) | (refine isx_store ?_; refine gS 1 rfl rfl rfl rfl rfl rfl rfl rfl rfl rfl ?_) | (refine isx_store ?_; refine gS 2 rfl rfl rfl rfl rfl rfl rfl rfl rfl rfl ?_) | (refine isx_store ?_; refine gS 3 rfl rfl rfl rfl rfl rfl rfl rfl rfl rfl ?_) | (refine isx_row ?_; refine lx_row (E := EV) rfl rfl rfl rfl rfl rfl rfl rfl rfl rfl rfl rfl rfl ?_; intro b_) | refine lx_nil ?_ | with_reducible refine tq_n ?_ | with_reducible refine tq_r ?_ | with_reducible refine tq_e ?_ | with_reducible refine bk_n ?_ | with_reducible refine bk_r ?_ | (with_reducible refine bk_e ?_ ?_; exact rfl) | (with_reducible refine bk_x ?_ ?_; exact rfl) | refine cx_seq ?_ | refine cx_region ?_ | refine cx_block ?_ | refine cx_ret ?_ | refine cx_skip ?_ | refine cx_exit ?_ | fail)
  refine cx_cond rfl (fun h => absurd h (by decide)) (fun _ => ?_)
  repeat (first | (refine isU ?_; refine gU rfl ?_) | (refine isG ?_; refine gG rfl rfl ?_) | (refine isx_box ?_; refine gB rfl rfl rfl rfl rfl rfl ?_; intro b_) | (refine isx_alloc ?_; refine gA rfl rfl rfl rfl rfl rfl rfl ?_; intro b_) | (refine isx_store ?_; refine gS 0 rfl rfl rfl rfl rfl rfl rfl rfl rfl rfl ?_) | (refine isx_store ?_; refine gS 1 rfl rfl rfl rfl rfl rfl rfl rfl rfl rfl ?_) | (refine isx_store ?_; refine gS 2 rfl rfl rfl rfl rfl rfl rfl rfl rfl rfl ?_) | (refine isx_store ?_; refine gS 3 rfl rfl rfl rfl rfl rfl rfl rfl rfl rfl ?_) | (refine isx_row ?_; refine lx_row (E := EV) rfl rfl rfl rfl rfl rfl rfl rfl rfl rfl rfl rfl rfl ?_; intro b_) | refine lx_nil ?_ | with_reducible refine tq_n ?_ | with_reducible refine tq_r ?_ | with_reducible refine tq_e ?_ | with_reducible refine bk_n ?_ | with_reducible refine bk_r ?_ | (with_reducible refine bk_e ?_ ?_; exact rfl) | (with_reducible refine bk_x ?_ ?_; exact rfl) | refine cx_seq ?_ | refine cx_region ?_ | refine cx_block ?_ | refine cx_ret ?_ | refine cx_skip ?_ | refine cx_exit ?_ | fail)
  refine ⟨⟨b, fs ++ [⟨⟨Ab, bd.length, cb', bd⟩, e⟩], A', c', hble, by rw [tell_push]; exact w3 he hl b rfl, by omega, fit'⟩, ⟨rfl, rfl, rfl, trivial⟩, ?_, by dsimp only; omega⟩
  dsimp only
  rw [bods_push]
  exact Gives.pre [_, _, _, _] [2, 3, 1] (by decide) rfl rfl
end Go.Proofs.Ythmdiopbiiimeaa.fr
namespace Go.Proofs.Ythmdiopbiiimeaa
open Go.RowKit
theorem ret_cells2 {P : Program} {t : Fr} {L : List Ck} {E : Env P} {fn : Func} {d b e g : Nat} {T T' U U' : TypeId} {v u : Value} (k k' : Nat) {cs cs' : List Value} {j j' : TyI} (hr : fn.results = #[.cell d T, .cell e U]) (hd : lk t d = some (none, .pointer (some ⟨b, 0, none⟩))) (he : lk t e = some (none, .pointer (some ⟨g, 0, none⟩))) (hT : E.f T = some j) (hU : E.f U = some j')
    (hk : L[k]? = some (.blk b cs T')) (hk' : L[k']? = some (.blk g cs' U')) (hin : isAggD j.desc = true → 0 + j.size ≤ cs.length) (hin' : isAggD j'.desc = true → 0 + j'.size ≤ cs'.length) (hv : evPart E.f T cs 0 = some v) (hu : evPart E.f U cs' 0 = some u) : RetIs P fn t L (.tuple #[v, u]) := fun n M a w hf hm => by
  have hd' := hf.tmpq hd
  have he' := hf.tmpq he
  simp [results, hr, hd', he', asAddr, hm.loadVar hT hk hv hin, hm.loadVar hU hk' hu hin']
end Go.Proofs.Ythmdiopbiiimeaa
namespace Go.Proofs.Ythmdiopbiiimeaa.fr
open Go.RowKit Go.Proofs.Ythmdiopbiiimeaa.kit Go.Proofs.Ythmdiopbiiimeaa.pk Go.Proofs.Ythmdiopbiiimeaa.chk Go.Proofs.Ythmdiopbiiimeaa.crc
abbrev ClA (l : Nat) (rec : Loop) (b2 b3 : Nat) (A : Option Addr) (c k : Nat) (cells : List Value) (nx : Nat) : List Ck :=
  [.obj l (.loop rec), .own A k c 44 2 cells, .blk b2 [.slice A k c] 36, .blk b3 [.int .i64 nx] 3]
attribute [local irreducible] LX CX Yl Gives RetIs Fn
attribute [local irreducible] be de upd takeF num4 sum4 frm allF
theorem found_fn (A : Option Addr) (n c : Nat) : Fn Try.prog 39 [.slice A n c] [] [] fun v Lo => ∃ b, v = .func (.func 45) #[] #[.pointer (some ⟨b, 0, none⟩)] ∧ Lo = [.blk b [.slice A n c] 24] := by
  refine fn_enter Try.func39 rfl rfl (by kernel_rfl) rfl ?_
  intro w0
  repeat (first | ((first | (apply lx_u; exact rfl) | (apply lx_g; exact rfl; exact rfl)); first | (apply isy_makeFunc; exact yl_makeFunc rfl rfl (by (repeat (first | exact trivial | refine And.intro ?_ ?_ | exact fun _ => rfl | exact fun h => h | exact fun h => (Bool.and_eq_true_iff.1 h).1)); done) (by (repeat (first | exact trivial | refine And.intro ?_ ?_ | exact fun _ => rfl | exact fun h => h | exact fun h => (Bool.and_eq_true_iff.1 h).1)); done)) | fail) | (refine isU ?_; refine gU rfl ?_) | (refine isG ?_; refine gG rfl rfl ?_) | (refine isx_box ?_; refine gB rfl rfl rfl rfl rfl rfl ?_; intro b_) | (refine isx_alloc ?_; refine gA rfl rfl rfl rfl rfl rfl rfl ?_; intro b_) | (refine isx_store ?_; refine gS 0 rfl rfl rfl rfl rfl rfl rfl rfl rfl rfl ?_) | (refine isx_store ?_; refine gS 1 rfl rfl rfl rfl rfl rfl rfl rfl rfl rfl ?_) | (refine isx_store ?_; refine gS 2 rfl rfl rfl rfl rfl rfl rfl rfl rfl rfl ?_) | (refine isx_store ?_; refine gS 3 rfl rfl rfl rfl rfl rfl rfl rfl rfl rfl ?_) | (refine isx_row ?_; refine lx_row (E := EV) rfl rfl rfl rfl rfl rfl rfl rfl rfl rfl rfl rfl rfl ?_; intro b_) | refine lx_nil ?_ | with_reducible refine tq_n ?_ | with_reducible refine tq_r ?_ | with_reducible refine tq_e ?_ | with_reducible refine bk_n ?_ | with_reducible refine bk_r ?_ | (with_reducible refine bk_e ?_ ?_; exact rfl) | (with_reducible refine bk_x ?_ ?_; exact rfl) | refine cx_seq ?_ | refine cx_region ?_ | refine cx_block ?_ | refine cx_ret ?_ | refine cx_skip ?_ | refine cx_exit ?_ | fail)
  exact bq_ret (ret_tmp rfl rfl) [_] (Gives.pick [0] (by decide) rfl) rfl ⟨_, rfl, rfl⟩
set_option maxHeartbeats 2000000 in
theorem found1_all (l b b2 b3 : Nat) (rec : Loop) (A : Option Addr) (n c : Nat) (bs : List B8) (hl : bs.length = n) (hc : n ≤ c ∧ c ≤ 9223372036854775807) (hn : n ≤ 1000000)
    (hR : ∀ (Ao : Option Addr) (k co : Nat) (cells : List Value) (nx : Nat) (x : Fd) (m : Nat), k ≤ 1000001 → RD Try.prog l rec [.int .i64 m, x.val] (ClA l rec b2 b3 Ao co k cells nx) (l :: b2 :: b3 :: (Ao.map (·.block)).toList)
      fun r Lo => r = true ∧ ∃ A' c', Lo = ClA l rec b2 b3 A' c' (k + 1) (cells ++ x.cells) m) :
    Fn Try.prog 45 [.func (.yield l) #[] #[], .pointer (some ⟨b, 0, none⟩)] (ClA l rec b2 b3 none 0 0 [] 0 ++ [.ro (some ⟨b, 0, none⟩) 1 1 [.slice A n c], .ro A n 1 (bvs bs)]) [l, b2, b3]
      fun _ Lo => ∃ A' c' fs, tell fs = (allF bs).1 ∧ Fit fs ∧ fs.length ≤ n + 1 ∧ Lo = ClA l rec b2 b3 A' c' fs.length (fcells fs) (allF bs).2 ++ bods fs := by
  subst hl
  refine fn_enter_m Try.func45 rfl rfl (by kernel_rfl) rfl ?_
  intro w0
  repeat (first | (refine isU ?_; refine gU rfl ?_) | (refine isG ?_; refine gG rfl rfl ?_) | (refine isx_box ?_; refine gB rfl rfl rfl rfl rfl rfl ?_; intro b_) | (refine isx_alloc ?_; refine gA rfl rfl rfl rfl rfl rfl rfl ?_; intro b_) | (refine isx_store ?_; refine gS 0 rfl rfl rfl rfl rfl rfl rfl rfl rfl rfl ?_) | (refine isx_store ?_; refine gS 1 rfl rfl rfl rfl rfl rfl rfl rfl rfl rfl ?_) | (refine isx_store ?_; refine gS 2 rfl rfl rfl rfl rfl rfl rfl rfl rfl rfl ?_) | (refine isx_store ?_; refine gS 3 rfl rfl rfl rfl rfl rfl rfl rfl rfl rfl ?_) | (refine isx_row ?_; refine lx_row (E := EV) rfl rfl rfl rfl rfl rfl rfl rfl rfl rfl rfl rfl rfl ?_; intro b_) | refine lx_nil ?_ | with_reducible refine tq_n ?_ | with_reducible refine tq_r ?_ | with_reducible refine tq_e ?_ | with_reducible refine bk_n ?_ | with_reducible refine bk_r ?_ | (with_reducible refine bk_e ?_ ?_; exact rfl) | (with_reducible refine bk_x ?_ ?_; exact rfl) | refine cx_seq ?_ | refine cx_region ?_ | refine cx_block ?_ | refine cx_ret ?_ | refine cx_skip ?_ | refine cx_exit ?_ | with_reducible refine tr_n ?_ | with_reducible refine tr_r ?_ | with_reducible refine tr_e ?_ | with_reducible refine br_n ?_ | with_reducible refine br_r ?_ | (with_reducible refine br_e ?_ ?_; exact rfl) | (with_reducible refine br_x ?_ ?_; exact rfl) | with_reducible refine cut_n ?_ | refine cr_seq ?_ | refine cr_region rfl ?_ | refine cr_block ?_ | refine cr_ret ?_ | refine cr_skip ?_ | refine cr_exit ?_ | fail)
  refine cr_loop (α := ASt bs) (fun x => [(0, none, .func (.yield l) #[] #[]), (1, none, .pointer (some ⟨b, 0, none⟩)), (3, none, .int .i64 x.a)])
    (fun x => ClA l rec b2 b3 x.A x.c x.fs.length (fcells x.fs) x.a ++ (.ro (some ⟨b, 0, none⟩) 1 1 [.slice A bs.length c] :: .ro A bs.length 1 (bvs bs) :: bods x.fs)) (fun x => bs.length - x.a) ⟨0, [], none, 0, Nat.zero_le _, onAll_start bs, Nat.le_refl _, fun x hx => by cases hx⟩ ⟨rfl, rfl, rfl, trivial⟩ (Gives.refl _) ?_
  rintro ⟨a, fs, Af, cf, le, way, few, fit⟩
  dsimp only
  have ht := take_fn A bs.length c bs (a : Int) rfl hc hn (by omega)
  have hbl := (takeF_le (l := bs) (at' := (a : Int))).1
  have w1 := fun h => onAll_end way h
  have w2 := fun h => onAll_long way h
  have w3 := fun h1 h2 (b : Nat) hb => onAll_next (b := b) way h1 h2 hb
  have w4 := @takeF_next bs a
  have w5 := @takeF_at bs a
  unfold TakeP at ht
  generalize hTf : takeF bs (a : Int) = T at *
  obtain ⟨bd, nx, e⟩ := T
  dsimp only at ht hbl w1 w2 w3 w4 w5
  refine cr_block ?_
  repeat (refine cr_seq ?_)
  refine cr_region rfl ?_
  repeat (first | ((first | (apply lx_u; exact rfl) | (apply lx_g; exact rfl; exact rfl)); first | (apply isy_load; exact q_lvr 4 rfl rfl rfl rfl rfl) | fail) | (refine isU ?_; refine gU rfl ?_) | (refine isG ?_; refine gG rfl rfl ?_) | (refine isx_call ?_; (refine isx_call ?_; refine lx_call0 (ht) ((fun w hm => in_ro (row_ro 5 rfl hm) (in_nil hm) rfl)) rfl rfl rfl rfl rfl rfl rfl rfl ?_; rintro v_ Lo_ ⟨Ab, cb', rfl, rfl⟩)) | (refine isx_box ?_; refine gB rfl rfl rfl rfl rfl rfl ?_; intro b_) | (refine isx_alloc ?_; refine gA rfl rfl rfl rfl rfl rfl rfl ?_; intro b_) | (refine isx_store ?_; refine gS 0 rfl rfl rfl rfl rfl rfl rfl rfl rfl rfl ?_) | (refine isx_store ?_; refine gS 1 rfl rfl rfl rfl rfl rfl rfl rfl rfl rfl ?_) | (refine isx_store ?_; refine gS 2 rfl rfl rfl rfl rfl rfl rfl rfl rfl rfl ?_) | (refine isx_store ?_; refine gS 3 rfl rfl rfl rfl rfl rfl rfl rfl rfl rfl ?_) | (refine isx_row ?_; refine lx_row (E := EV) rfl rfl rfl rfl rfl rfl rfl rfl rfl rfl rfl rfl rfl ?_; intro b_) | refine lx_nil ?_ | with_reducible refine tq_n ?_ | with_reducible refine tq_r ?_ | with_reducible refine tq_e ?_ | with_reducible refine bk_n ?_ | with_reducible refine bk_r ?_ | (with_reducible refine bk_e ?_ ?_; exact rfl) | (with_reducible refine bk_x ?_ ?_; exact rfl) | refine cx_seq ?_ | refine cx_region ?_ | refine cx_block ?_ | refine cx_ret ?_ | refine cx_skip ?_ | refine cx_exit ?_ | fail)
  repeat (with_reducible refine tr_n ?_)
  repeat (refine cr_seq ?_)
  by_cases he : e = 70
  · have hA := w1 he
    subst he
    refine cr_region rfl ?_
    repeat (first | refine lx_not rfl rfl rfl rfl ?_ | refine lx_notu rfl rfl rfl rfl rfl ?_ | ((first | (apply lx_gt; exact rfl; exact rfl; exact rfl) | (apply lx_u; exact rfl) | (apply lx_g; exact rfl; exact rfl)); first | (apply isy_bin_eql; exact yl_true (yl_op (E := EV) rfl) (fun _ => rfl)) | fail) | (refine isG ?_; refine gT rfl rfl rfl ?_) | (refine isU ?_; refine gU rfl ?_) | (refine isG ?_; refine gG rfl rfl ?_) | (refine isx_box ?_; refine gB rfl rfl rfl rfl rfl rfl ?_; intro b_) | (refine isx_alloc ?_; refine gA rfl rfl rfl rfl rfl rfl rfl ?_; intro b_) | (refine isx_store ?_; refine gS 0 rfl rfl rfl rfl rfl rfl rfl rfl rfl rfl ?_) | (refine isx_store ?_; refine gS 1 rfl rfl rfl rfl rfl rfl rfl rfl rfl rfl ?_) | (refine isx_store ?_; refine gS 2 rfl rfl rfl rfl rfl rfl rfl rfl rfl rfl ?_) | (refine isx_store ?_; refine gS 3 rfl rfl rfl rfl rfl rfl rfl rfl rfl rfl ?_) | (refine isx_row ?_; refine lx_row (E := EV) rfl rfl rfl rfl rfl rfl rfl rfl rfl rfl rfl rfl rfl ?_; intro b_) | refine lx_nil ?_ | with_reducible refine tq_n ?_ | with_reducible refine tq_r ?_ | with_reducible refine tq_e ?_ | with_reducible refine bk_n ?_ | with_reducible refine bk_r ?_ | (with_reducible refine bk_e ?_ ?_; exact rfl) | (with_reducible refine bk_x ?_ ?_; exact rfl) | refine cx_seq ?_ | refine cx_region ?_ | refine cx_block ?_ | refine cx_ret ?_ | refine cx_skip ?_ | refine cx_exit ?_ | with_reducible refine tr_n ?_ | with_reducible refine tr_r ?_ | with_reducible refine tr_e ?_ | with_reducible refine br_n ?_ | with_reducible refine br_r ?_ | (with_reducible refine br_e ?_ ?_; exact rfl) | (with_reducible refine br_x ?_ ?_; exact rfl) | with_reducible refine cut_n ?_ | refine cr_seq ?_ | refine cr_region rfl ?_ | refine cr_block ?_ | refine cr_ret ?_ | refine cr_skip ?_ | refine cr_exit ?_ | fail)
    refine cr_cond rfl (fun _ => ?_) (fun h => absurd h (by decide))
    repeat (first | (refine isU ?_; refine gU rfl ?_) | (refine isG ?_; refine gG rfl rfl ?_) | (refine isx_box ?_; refine gB rfl rfl rfl rfl rfl rfl ?_; intro b_) | (refine isx_alloc ?_; refine gA rfl rfl rfl rfl rfl rfl rfl ?_; intro b_) | (refine isx_store ?_; refine gS 0 rfl rfl rfl rfl rfl rfl rfl rfl rfl rfl ?_) | (refine isx_store ?_; refine gS 1 rfl rfl rfl rfl rfl rfl rfl rfl rfl rfl ?_) | (refine isx_store ?_; refine gS 2 rfl rfl rfl rfl rfl rfl rfl rfl rfl rfl ?_) | (refine isx_store ?_; refine gS 3 rfl rfl rfl rfl rfl rfl rfl rfl rfl rfl ?_) | (refine isx_row ?_; refine lx_row (E := EV) rfl rfl rfl rfl rfl rfl rfl rfl rfl rfl rfl rfl rfl ?_; intro b_) | refine lx_nil ?_ | with_reducible refine tq_n ?_ | with_reducible refine tq_r ?_ | with_reducible refine tq_e ?_ | with_reducible refine bk_n ?_ | with_reducible refine bk_r ?_ | (with_reducible refine bk_e ?_ ?_; exact rfl) | (with_reducible refine bk_x ?_ ?_; exact rfl) | refine cx_seq ?_ | refine cx_region ?_ | refine cx_block ?_ | refine cx_ret ?_ | refine cx_skip ?_ | refine cx_exit ?_ | with_reducible refine tr_n ?_ | with_reducible refine tr_r ?_ | with_reducible refine tr_e ?_ | with_reducible refine br_n ?_ | with_reducible refine br_r ?_ | (with_reducible refine br_e ?_ ?_; exact rfl) | (with_reducible refine br_x ?_ ?_; exact rfl) | with_reducible refine cut_n ?_ | refine cr_seq ?_ | refine cr_region rfl ?_ | refine cr_block ?_ | refine cr_ret ?_ | refine cr_skip ?_ | refine cr_exit ?_ | fail)
    refine .inl ⟨rfl, bq_ret (ret_none rfl) (ClA l rec b2 b3 Af cf fs.length (fcells fs) a ++ bods fs) (Gives.pre [_, _, _, _, _, _, _] [1, 2, 3, 4] (by decide) rfl rfl) ?_ ⟨Af, cf, fs, by rw [hA], fit, by omega, by rw [hA]⟩⟩
    rw [List.all_append, bods_mut]; rfl
  have h70 : (e == 70) = false := by simp [he]
  obtain ⟨m, hm⟩ : ∃ m : Nat, nx = m := by
    by_cases hl : e = 71
    · exact ⟨a, w5 hl⟩
    · obtain ⟨b, hb, _⟩ := w4 he hl
      exact ⟨b, hb⟩
  subst hm
  have fit' := fit.push (x := ⟨⟨Ab, bd.length, cb', bd⟩, e⟩) ⟨rfl, hbl⟩
  have hlen : (fs ++ [(⟨⟨Ab, bd.length, cb', bd⟩, e⟩ : Fd)]).length = fs.length + 1 := by simp
  refine cr_list ?_
  refine lr_cut 8 rfl ?_
  repeat (first | refine lx_not rfl rfl rfl rfl ?_ | refine lx_notu rfl rfl rfl rfl rfl ?_ | ((first | (apply lx_gt; exact rfl; exact rfl; exact rfl) | (apply lx_u; exact rfl) | (apply lx_g; exact rfl; exact rfl)); first | (apply isy_bin_eql; exact yl_false (yl_op (E := EV) rfl) (fun _ => h70)) | fail) | (refine isG ?_; refine gT rfl rfl rfl ?_) | (refine isU ?_; refine gU rfl ?_) | (refine isG ?_; refine gG rfl rfl ?_) | (refine isx_box ?_; refine gB rfl rfl rfl rfl rfl rfl ?_; intro b_) | (refine isx_alloc ?_; refine gA rfl rfl rfl rfl rfl rfl rfl ?_; intro b_) | (refine isx_store ?_; refine gS 0 rfl rfl rfl rfl rfl rfl rfl rfl rfl rfl ?_) | (refine isx_store ?_; refine gS 1 rfl rfl rfl rfl rfl rfl rfl rfl rfl rfl ?_) | (refine isx_store ?_; refine gS 2 rfl rfl rfl rfl rfl rfl rfl rfl rfl rfl ?_) | (refine isx_store ?_; refine gS 3 rfl rfl rfl rfl rfl rfl rfl rfl rfl rfl ?_) | (refine isx_row ?_; refine lx_row (E := EV) rfl rfl rfl rfl rfl rfl rfl rfl rfl rfl rfl rfl rfl ?_; intro b_) | refine lx_nil ?_ | with_reducible refine tq_n ?_ | with_reducible refine tq_r ?_ | with_reducible refine tq_e ?_ | with_reducible refine bk_n ?_ | with_reducible refine bk_r ?_ | (with_reducible refine bk_e ?_ ?_; exact rfl) | (with_reducible refine bk_x ?_ ?_; exact rfl) | refine cx_seq ?_ | refine cx_region ?_ | refine cx_block ?_ | refine cx_ret ?_ | refine cx_skip ?_ | refine cx_exit ?_ | fail)
  refine cut_n ?_
  refine lr_yield (hR Af fs.length cf (fcells fs) a ⟨⟨Ab, bd.length, cb', bd⟩, e⟩ m (by omega)) 1 (ClA l rec b2 b3 Af cf fs.length (fcells fs) a) (.own Ab bd.length cb' 5 1 (bvs bd) :: .ro (some ⟨b, 0, none⟩) 1 1 [.slice A bs.length c] :: .ro A bs.length 1 (bvs bs) :: bods fs) rfl (Gives.pre [_, _, _, _, _, _, _] [1, 2, 3, 4, 0, 5, 6] (by decide) rfl rfl) (fun w hm => hm.enter [1, 2, 3, 4] (by decide) rfl (AllD.spec ?_)) ?_ rfl rfl rfl rfl rfl rfl ?_
  · refine ⟨List.mem_cons_self .., fun g hg => ?_, by simp, by simp, trivial⟩
    refine List.mem_cons_of_mem _ (List.mem_cons_of_mem _ (List.mem_cons_of_mem _ ?_))
    rw [hg]; exact List.mem_cons_self ..
  · intro g hg
    rcases List.mem_cons.1 hg with rfl | hg
    · exact ⟨_, List.mem_cons_self .., rfl, rfl⟩
    rcases List.mem_cons.1 hg with rfl | hg
    · exact ⟨_, List.mem_cons_of_mem _ (List.mem_cons_of_mem _ (List.mem_cons_self ..)), rfl, rfl⟩
    rcases List.mem_cons.1 hg with rfl | hg
    · exact ⟨_, List.mem_cons_of_mem _ (List.mem_cons_of_mem _ (List.mem_cons_of_mem _ (List.mem_cons_self ..))), rfl, rfl⟩
    · exact ⟨_, List.mem_cons_of_mem _ (List.mem_cons_self ..), rfl, Option.mem_toList.1 hg⟩
  rintro _ _ ⟨rfl, A', c', rfl⟩
  refine lr_lx rfl ?_
  rw [← fcells_push, ← hlen]
  by_cases hl : e = 71
  · have hA := w2 hl
    have ha := w5 hl
    obtain rfl : m = a := by omega
    subst hl
    repeat (first | refine lx_not rfl rfl rfl rfl ?_ | refine lx_notu rfl rfl rfl rfl rfl ?_ | ((first | (apply lx_gt; exact rfl; exact rfl; exact rfl) | (apply lx_u; exact rfl) | (apply lx_g; exact rfl; exact rfl)); first | (apply isy_bin_eql; exact yl_true (yl_op (E := EV) rfl) (fun _ => rfl)) | fail) | (refine isG ?_; refine gT rfl rfl rfl ?_) | (refine isU ?_; refine gU rfl ?_) | (refine isG ?_; refine gG rfl rfl ?_) | (refine isx_box ?_; refine gB rfl rfl rfl rfl rfl rfl ?_; intro b_) | (refine isx_alloc ?_; refine gA rfl rfl rfl rfl rfl rfl rfl ?_; intro b_) | (refine isx_store ?_; refine gS 0 rfl rfl rfl rfl rfl rfl rfl rfl rfl rfl ?_) | (refine isx_store ?_; refine gS 1 rfl rfl rfl rfl rfl rfl rfl rfl rfl rfl ?_) | (refine isx_store ?_; refine gS 2 rfl rfl rfl rfl rfl rfl rfl rfl rfl rfl ?_) | (refine isx_store ?_; refine gS 3 rfl rfl rfl rfl rfl rfl rfl rfl rfl rfl ?_) | (refine isx_row ?_; refine lx_row (E := EV) rfl rfl rfl rfl rfl rfl rfl rfl rfl rfl rfl rfl rfl ?_; intro b_) | refine lx_nil ?_ | with_reducible refine tq_n ?_ | with_reducible refine tq_r ?_ | with_reducible refine tq_e ?_ | with_reducible refine bk_n ?_ | with_reducible refine bk_r ?_ | (with_reducible refine bk_e ?_ ?_; exact rfl) | (with_reducible refine bk_x ?_ ?_; exact rfl) | refine cx_seq ?_ | refine cx_region ?_ | refine cx_block ?_ | refine cx_ret ?_ | refine cx_skip ?_ | refine cx_exit ?_ | with_reducible refine tr_n ?_ | with_reducible refine tr_r ?_ | with_reducible refine tr_e ?_ | with_reducible refine br_n ?_ | with_reducible refine br_r ?_ | (with_reducible refine br_e ?_ ?_; exact rfl) | (with_reducible refine br_x ?_ ?_; exact rfl) | with_reducible refine cut_n ?_ | refine cr_seq ?_ | refine cr_region rfl ?_ | refine cr_block ?_ | refine cr_ret ?_ | refine cr_skip ?_ | refine cr_exit ?_ | fail)
    refine cr_cond rfl (fun _ => ?_) (fun h => absurd h (by decide))
    repeat (first | (refine isU ?_; refine gU rfl ?_) | (refine isG ?_; refine gG rfl rfl ?_) | (refine isx_box ?_; refine gB rfl rfl rfl rfl rfl rfl ?_; intro b_) | (refine isx_alloc ?_; refine gA rfl rfl rfl rfl rfl rfl rfl ?_; intro b_) | (refine isx_store ?_; refine gS 0 rfl rfl rfl rfl rfl rfl rfl rfl rfl rfl ?_) | (refine isx_store ?_; refine gS 1 rfl rfl rfl rfl rfl rfl rfl rfl rfl rfl ?_) | (refine isx_store ?_; refine gS 2 rfl rfl rfl rfl rfl rfl rfl rfl rfl rfl ?_) | (refine isx_store ?_; refine gS 3 rfl rfl rfl rfl rfl rfl rfl rfl rfl rfl ?_) | (refine isx_row ?_; refine lx_row (E := EV) rfl rfl rfl rfl rfl rfl rfl rfl rfl rfl rfl rfl rfl ?_; intro b_) | refine lx_nil ?_ | with_reducible refine tq_n ?_ | with_reducible refine tq_r ?_ | with_reducible refine tq_e ?_ | with_reducible refine bk_n ?_ | with_reducible refine bk_r ?_ | (with_reducible refine bk_e ?_ ?_; exact rfl) | (with_reducible refine bk_x ?_ ?_; exact rfl) | refine cx_seq ?_ | refine cx_region ?_ | refine cx_block ?_ | refine cx_ret ?_ | refine cx_skip ?_ | refine cx_exit ?_ | with_reducible refine tr_n ?_ | with_reducible refine tr_r ?_ | with_reducible refine tr_e ?_ | with_reducible refine br_n ?_ | with_reducible refine br_r ?_ | (with_reducible refine br_e ?_ ?_; exact rfl) | (with_reducible refine br_x ?_ ?_; exact rfl) | with_reducible refine cut_n ?_ | refine cr_seq ?_ | refine cr_region rfl ?_ | refine cr_block ?_ | refine cr_ret ?_ | refine cr_skip ?_ | refine cr_exit ?_ | fail)
    refine .inl ⟨rfl, bq_ret (ret_none rfl) (ClA l rec b2 b3 A' c' (fs ++ [(⟨⟨Ab, bd.length, cb', bd⟩, 71⟩ : Fd)]).length (fcells (fs ++ [(⟨⟨Ab, bd.length, cb', bd⟩, 71⟩ : Fd)])) m ++ bods (fs ++ [(⟨⟨Ab, bd.length, cb', bd⟩, 71⟩ : Fd)])) ?_ ?_ ⟨A', c', fs ++ [(⟨⟨Ab, bd.length, cb', bd⟩, 71⟩ : Fd)], by rw [hA, tell_push], fit', by omega, by rw [hA]⟩⟩
    · rw [bods_push]
      exact Gives.pre [_, _, _, _, _, _, _] [0, 1, 2, 3, 4] (by decide) rfl rfl
    · rw [List.all_append, bods_mut]; rfl
  have h71 : (e == 71) = false := by simp [hl]
  obtain ⟨b', hb', hab, hble⟩ := w4 he hl
  obtain rfl : m = b' := by omega
  repeat (first | refine lx_not rfl rfl rfl rfl ?_ | refine lx_notu rfl rfl rfl rfl rfl ?_ | ((first | (apply lx_gt; exact rfl; exact rfl; exact rfl) | (apply lx_u; exact rfl) | (apply lx_g; exact rfl; exact rfl)); first | (apply isy_bin_eql; exact yl_false (yl_op (E := EV) rfl) (fun _ => h71)) | fail) | (refine isG ?_; refine gT rfl rfl rfl ?_) | (refine isU ?_; refine gU rfl ?_) | (refine isG ?_; refine gG rfl rfl ?_) | (refine isx_box ?_; refine gB rfl rfl rfl rfl rfl rfl ?_; intro b_) | (refine isx_alloc ?_; refine gA rfl rfl rfl rfl rfl rfl rfl ?_; intro b_) | (refine isx_store ?_; refine gS 0 rfl rfl rfl rfl rfl rfl rfl rfl rfl rfl ?_) | (refine isx_store ?_; refine gS 1 rfl rfl rfl rfl rfl rfl rfl rfl rfl rfl ?_) | (refine isx_store ?_; refine gS 2 rfl rfl rfl rfl rfl rfl rfl rfl rfl rfl ?_) | (refine isx_store ?_; refine gS 3 rfl rfl rfl rfl rfl rfl rfl rfl rfl rfl ?_) | (refine isx_row ?_; refine lx_row (E := EV) rfl rfl rfl rfl rfl rfl rfl rfl rfl rfl rfl rfl rfl ?_; intro b_) | refine lx_nil ?_ | with_reducible refine tq_n ?_ | with_reducible refine tq_r ?_ | with_reducible refine tq_e ?_ | with_reducible refine bk_n ?_ | with_reducible refine bk_r ?_ | (with_reducible refine bk_e ?_ ?_; exact rfl) | (with_reducible refine bk_x ?_ ?_; exact rfl) | refine cx_seq ?_ | refine cx_region ?_ | refine cx_block ?_ | refine cx_ret ?_ | refine cx_skip ?_ | refine cx_exit ?_ | with_reducible refine tr_n ?_ | with_reducible refine tr_r ?_ | with_reducible refine tr_e ?_ | with_reducible refine br_n ?_ | with_reducible refine br_r ?_ | (with_reducible refine br_e ?_ ?_; exact rfl) | (with_reducible refine br_x ?_ ?_; exact rfl) | with_reducible refine cut_n ?_ | refine cr_seq ?_ | refine cr_region rfl ?_ | refine cr_block ?_ | refine cr_ret ?_ | refine cr_skip ?_ | refine cr_exit ?_ | fail)
  refine cr_cond rfl (fun h => absurd h (by decide)) (fun _ => ?_)
  repeat (first | (refine isU ?_; refine gU rfl ?_) | (refine isG ?_; refine gG rfl rfl ?_) | (refine isx_box ?_; refine gB rfl rfl rfl rfl rfl rfl ?_; intro b_) | (refine isx_alloc ?_; refine gA rfl rfl rfl rfl rfl rfl rfl ?_; intro b_) | (refine isx_store ?_; refine gS 0 rfl rfl rfl rfl rfl rfl rfl rfl rfl rfl ?_) | (refine isx_store ?_; refine gS 1 rfl rfl rfl rfl rfl rfl rfl rfl rfl rfl ?_) | (refine isx_store ?_; refine gS 2 rfl rfl rfl rfl rfl rfl rfl rfl rfl rfl ?_) | (refine isx_store ?_; refine gS 3 rfl rfl rfl rfl rfl rfl rfl rfl rfl rfl ?_) | (refine isx_row ?_; refine lx_row (E := EV) rfl rfl rfl rfl rfl rfl rfl rfl rfl rfl rfl rfl rfl ?_; intro b_) | refine lx_nil ?_ | with_reducible refine tq_n ?_ | with_reducible refine tq_r ?_ | with_reducible refine tq_e ?_ | with_reducible refine bk_n ?_ | with_reducible refine bk_r ?_ | (with_reducible refine bk_e ?_ ?_; exact rfl) | (with_reducible refine bk_x ?_ ?_; exact rfl) | refine cx_seq ?_ | refine cx_region ?_ | refine cx_block ?_ | refine cx_ret ?_ | refine cx_skip ?_ | refine cx_exit ?_ | with_reducible refine tr_n ?_ | with_reducible refine tr_r ?_ | with_reducible refine tr_e ?_ | with_reducible refine br_n ?_ | with_reducible refine br_r ?_ | (with_reducible refine br_e ?_ ?_; exact rfl) | (with_reducible refine br_x ?_ ?_; exact rfl) | with_reducible refine cut_n ?_ | refine cr_seq ?_ | refine cr_region rfl ?_ | refine cr_block ?_ | refine cr_ret ?_ | refine cr_skip ?_ | refine cr_exit ?_ | fail)
  refine ⟨rfl, ⟨m, fs ++ [⟨⟨Ab, bd.length, cb', bd⟩, e⟩], A', c', hble, by rw [tell_push]; exact w3 he hl m rfl, by omega, fit'⟩, ⟨rfl, rfl, rfl, trivial⟩, ?_, by dsimp only; omega⟩
  dsimp only
  rw [bods_push]
  exact Gives.pre [_, _, _, _, _, _, _] [0, 1, 2, 3, 5, 6, 4] (by decide) rfl rfl
end Go.Proofs.Ythmdiopbiiimeaa.fr
namespace Go.Proofs.Ythmdiopbiiimeaa.fr
open Go.RowKit Go.Proofs.Ythmdiopbiiimeaa.kit Go.Proofs.Ythmdiopbiiimeaa.pk Go.Proofs.Ythmdiopbiiimeaa.chk Go.Proofs.Ythmdiopbiiimeaa.crc
theorem Gives.ten {A B C : Ck} {T S : List Ck} : Gives ((A :: B :: C :: T) ++ S) (A :: B :: C :: (S ++ T)) := Gives.perm (show ([A, B, C] ++ T ++ S).Perm ([A, B, C] ++ (S ++ T)) by rw [List.append_assoc]; exact List.Perm.append_left _ List.perm_append_comm)
theorem zip2 (tmps : Array Value) (p q : Nat) (u v : Value) : ((#[p, q] : Array Tmp).zip #[u, v]).foldl (fun tmps (t, a) => tmps.setIfInBounds t a) tmps = (tmps.setIfInBounds p u).setIfInBounds q v := by simp
theorem zip2f {n : Nat} {t : Fr} {tmps : Array Value} {p q : Nat} {u v : Value} (h : Frm n t ((({ tmps := tmps, defers := [] } : Act).put (some p) u).put (some q) v)) : Frm n t { tmps := ((#[p, q] : Array Tmp).zip #[u, v]).foldl (fun tmps (t, a) => tmps.setIfInBounds t a) tmps, defers := [] } := by
  rw [zip2]
  exact h
attribute [local irreducible] LX CX Yl Gives RetIs Fn
attribute [local irreducible] be de upd takeF num4 sum4 frm allF
set_option maxHeartbeats 2000000 in
theorem all_fn (A : Option Addr) (n c : Nat) (l : List B8) (hl : l.length = n) (hc : n ≤ c ∧ c ≤ 9223372036854775807) (hn : n ≤ 1000000) : Fn Try.prog 20 [.slice A n c] [.ro A n 1 (bvs l)] [] (AllP 44 l) := by
  refine fn_enter_m Try.func20 rfl rfl (by kernel_rfl) rfl ?_
  intro w0
  repeat (first | (refine isU ?_; refine gU rfl ?_) | (refine isG ?_; refine gG rfl rfl ?_) | (refine isx_call ?_; (refine isx_call ?_; refine lx_call0 (found_fn A n c) (fun _ hm => in_nil hm) rfl rfl rfl rfl rfl rfl rfl rfl ?_; rintro v_ Lo_ ⟨bx, rfl, rfl⟩)) | (refine isx_box ?_; refine gB rfl rfl rfl rfl rfl rfl ?_; intro b_) | (refine isx_alloc ?_; refine gA rfl rfl rfl rfl rfl rfl rfl ?_; intro b_) | (refine isx_store ?_; refine gS 0 rfl rfl rfl rfl rfl rfl rfl rfl rfl rfl ?_) | (refine isx_store ?_; refine gS 1 rfl rfl rfl rfl rfl rfl rfl rfl rfl rfl ?_) | (refine isx_store ?_; refine gS 2 rfl rfl rfl rfl rfl rfl rfl rfl rfl rfl ?_) | (refine isx_store ?_; refine gS 3 rfl rfl rfl rfl rfl rfl rfl rfl rfl rfl ?_) | (refine isx_row ?_; refine lx_row (E := EV) rfl rfl rfl rfl rfl rfl rfl rfl rfl rfl rfl rfl rfl ?_; intro b_) | refine lx_nil ?_ | with_reducible refine tq_n ?_ | with_reducible refine tq_r ?_ | with_reducible refine tq_e ?_ | with_reducible refine bk_n ?_ | with_reducible refine bk_r ?_ | (with_reducible refine bk_e ?_ ?_; exact rfl) | (with_reducible refine bk_x ?_ ?_; exact rfl) | refine cx_seq ?_ | refine cx_region ?_ | refine cx_block ?_ | refine cx_ret ?_ | refine cx_skip ?_ | refine cx_exit ?_ | with_reducible refine tr_n ?_ | with_reducible refine tr_r ?_ | with_reducible refine tr_e ?_ | with_reducible refine br_n ?_ | with_reducible refine br_r ?_ | (with_reducible refine br_e ?_ ?_; exact rfl) | (with_reducible refine br_x ?_ ?_; exact rfl) | with_reducible refine cut_n ?_ | refine cr_seq ?_ | refine cr_region rfl ?_ | refine cr_block ?_ | refine cr_ret ?_ | refine cr_skip ?_ | refine cr_exit ?_ | fail)
  refine cr_weakL ((Gives.blkro 0 (m := 1) (sz := 1) rfl rfl).trans ((Gives.nilown _ 44 2).trans (Gives.pick [0, 3, 2, 1, 4] (by decide) rfl))) ?_
  refine cr_range rfl ?_
  intro lp d tmps fn hfr
  refine ⟨ClA lp _ _ _ none 0 0 [] 0 ++ [.ro (some ⟨bx, 0, none⟩) 1 1 [.slice A n c], .ro A n 1 (bvs l)], ClA lp _ _ _ none 0 0 [] 0, [.obj d (.deferred (some [])), .ro (some ⟨bx, 0, none⟩) 1 1 [.slice A n c], .ro A n 1 (bvs l)], _, _, found1_all lp bx _ _ _ A n c l hl hc hn ?_, fun w hm => hm.enter [0, 2, 3, 4, 5, 6] (by decide) rfl (AllD.spec ?_), Gives.pick [0, 2, 3, 4, 1, 5, 6] (by decide) rfl, ?_, ?_⟩
  · intro Ao k co cells nx x m hk
    refine round_fn rfl rfl (zip2f ((hfr.put1 (Nat.le_of_ble_eq_true rfl) (.int .i64 m)).put1 (Nat.le_of_ble_eq_true rfl) x.val)) ?_
    intro w1
    repeat (first | (refine isU ?_; refine gU rfl ?_) | (refine isG ?_; refine gG rfl rfl ?_) | (refine isx_box ?_; refine gB rfl rfl rfl rfl rfl rfl ?_; intro b_) | (refine isx_alloc ?_; refine gA rfl rfl rfl rfl rfl rfl rfl ?_; intro b_) | (refine isx_store ?_; refine gS 0 rfl rfl rfl rfl rfl rfl rfl rfl rfl rfl ?_) | (refine isx_store ?_; refine gS 1 rfl rfl rfl rfl rfl rfl rfl rfl rfl rfl ?_) | (refine isx_store ?_; refine gS 2 rfl rfl rfl rfl rfl rfl rfl rfl rfl rfl ?_) | (refine isx_store ?_; refine gS 3 rfl rfl rfl rfl rfl rfl rfl rfl rfl rfl ?_) | (refine isx_row ?_; refine lx_row (E := EV) rfl rfl rfl rfl rfl rfl rfl rfl rfl rfl rfl rfl rfl ?_; intro b_) | refine lx_nil ?_ | with_reducible refine tq_n ?_ | with_reducible refine tq_r ?_ | with_reducible refine tq_e ?_ | with_reducible refine bk_n ?_ | with_reducible refine bk_r ?_ | (with_reducible refine bk_e ?_ ?_; exact rfl) | (with_reducible refine bk_x ?_ ?_; exact rfl) | refine cx_seq ?_ | refine cx_region ?_ | refine cx_block ?_ | refine cx_ret ?_ | refine cx_skip ?_ | refine cx_exit ?_ | with_reducible refine tr_n ?_ | with_reducible refine tr_r ?_ | with_reducible refine tr_e ?_ | with_reducible refine br_n ?_ | with_reducible refine br_r ?_ | (with_reducible refine br_e ?_ ?_; exact rfl) | (with_reducible refine br_x ?_ ?_; exact rfl) | with_reducible refine cut_n ?_ | refine cr_seq ?_ | refine cr_region rfl ?_ | refine cr_block ?_ | refine cr_ret ?_ | refine cr_skip ?_ | refine cr_exit ?_ | fail)
    refine ⟨_, Gives.pick [1, 0, 2, 3, 4] (by decide) rfl, ?_⟩
    repeat (first | (refine isU ?_; refine gU rfl ?_) | (refine isG ?_; refine gG rfl rfl ?_) | (refine isx_box ?_; refine gB rfl rfl rfl rfl rfl rfl ?_; intro b_) | (refine isx_alloc ?_; refine gA rfl rfl rfl rfl rfl rfl rfl ?_; intro b_) | (refine isx_store ?_; refine gS 0 rfl rfl rfl rfl rfl rfl rfl rfl rfl rfl ?_) | (refine isx_store ?_; refine gS 1 rfl rfl rfl rfl rfl rfl rfl rfl rfl rfl ?_) | (refine isx_store ?_; refine gS 2 rfl rfl rfl rfl rfl rfl rfl rfl rfl rfl ?_) | (refine isx_store ?_; refine gS 3 rfl rfl rfl rfl rfl rfl rfl rfl rfl rfl ?_) | (refine isx_row ?_; refine lx_row (E := EV) rfl rfl rfl rfl rfl rfl rfl rfl rfl rfl rfl rfl rfl ?_; intro b_) | refine lx_nil ?_ | with_reducible refine tq_n ?_ | with_reducible refine tq_r ?_ | with_reducible refine tq_e ?_ | with_reducible refine bk_n ?_ | with_reducible refine bk_r ?_ | (with_reducible refine bk_e ?_ ?_; exact rfl) | (with_reducible refine bk_x ?_ ?_; exact rfl) | refine cx_seq ?_ | refine cx_region ?_ | refine cx_block ?_ | refine cx_ret ?_ | refine cx_skip ?_ | refine cx_exit ?_ | with_reducible refine tr_n ?_ | with_reducible refine tr_r ?_ | with_reducible refine tr_e ?_ | with_reducible refine br_n ?_ | with_reducible refine br_r ?_ | (with_reducible refine br_e ?_ ?_; exact rfl) | (with_reducible refine br_x ?_ ?_; exact rfl) | with_reducible refine cut_n ?_ | refine cr_seq ?_ | refine cr_region rfl ?_ | refine cr_block ?_ | refine cr_ret ?_ | refine cr_skip ?_ | refine cr_exit ?_ | fail)
    refine lx_append (E := EV) 3 rfl rfl rfl rfl rfl rfl rfl rfl rfl rfl rfl rfl rfl (news := x.cells) (fun w hm => row_blk 0 rfl rfl hm) (cells_one _) (by unfold maxLen; omega) (by show (_ + _) * 32 ≤ _; omega) (fun _ _ _ => trivial) ?_
    intro A' c'
    repeat (first | (refine isU ?_; refine gU rfl ?_) | (refine isG ?_; refine gG rfl rfl ?_) | (refine isx_store ?_; refine gS 4 rfl rfl rfl rfl rfl rfl rfl rfl rfl rfl ?_) | (refine isx_store ?_; refine gS 5 rfl rfl rfl rfl rfl rfl rfl rfl rfl rfl ?_) | (refine isx_box ?_; refine gB rfl rfl rfl rfl rfl rfl ?_; intro b_) | (refine isx_alloc ?_; refine gA rfl rfl rfl rfl rfl rfl rfl ?_; intro b_) | (refine isx_store ?_; refine gS 0 rfl rfl rfl rfl rfl rfl rfl rfl rfl rfl ?_) | (refine isx_store ?_; refine gS 1 rfl rfl rfl rfl rfl rfl rfl rfl rfl rfl ?_) | (refine isx_store ?_; refine gS 2 rfl rfl rfl rfl rfl rfl rfl rfl rfl rfl ?_) | (refine isx_store ?_; refine gS 3 rfl rfl rfl rfl rfl rfl rfl rfl rfl rfl ?_) | (refine isx_row ?_; refine lx_row (E := EV) rfl rfl rfl rfl rfl rfl rfl rfl rfl rfl rfl rfl rfl ?_; intro b_) | refine lx_nil ?_ | with_reducible refine tq_n ?_ | with_reducible refine tq_r ?_ | with_reducible refine tq_e ?_ | with_reducible refine bk_n ?_ | with_reducible refine bk_r ?_ | (with_reducible refine bk_e ?_ ?_; exact rfl) | (with_reducible refine bk_x ?_ ?_; exact rfl) | refine cx_seq ?_ | refine cx_region ?_ | refine cx_block ?_ | refine cx_ret ?_ | refine cx_skip ?_ | refine cx_exit ?_ | with_reducible refine tr_n ?_ | with_reducible refine tr_r ?_ | with_reducible refine tr_e ?_ | with_reducible refine br_n ?_ | with_reducible refine br_r ?_ | (with_reducible refine br_e ?_ ?_; exact rfl) | (with_reducible refine br_x ?_ ?_; exact rfl) | with_reducible refine cut_n ?_ | refine cr_seq ?_ | refine cr_region rfl ?_ | refine cr_block ?_ | refine cr_ret ?_ | refine cr_skip ?_ | refine cr_exit ?_ | fail)
    exact ⟨_, Gives.pick [1, 0, 2, 3, 4, 5] (by decide) rfl, _, Gives.pick [0, 3, 4, 5] (by decide) rfl, rfl, rfl, A', c', rfl⟩
  · exact ⟨List.mem_cons_self .., fun g hg => (by cases hg), by simp, by simp, trivial⟩
  · intro g hg
    rcases List.mem_cons.1 hg with rfl | hg
    · exact ⟨_, List.mem_cons_self .., rfl, rfl⟩
    rcases List.mem_cons.1 hg with rfl | hg
    · exact ⟨_, List.mem_cons_of_mem _ (List.mem_cons_of_mem _ (List.mem_cons_self ..)), rfl, rfl⟩
    obtain rfl := List.mem_singleton.1 hg
    exact ⟨_, List.mem_cons_of_mem _ (List.mem_cons_of_mem _ (List.mem_cons_of_mem _ (List.mem_cons_self ..))), rfl, rfl⟩
  · rintro v Lo ⟨A', c', fs, htell, fit, hle, rfl⟩
    refine ⟨_, _, Gives.refl _, by simp, ?_⟩
    refine br_n ?_
    refine tr_n ?_
    refine cr_weakL (Gives.ten.trans (Gives.pre [_, _, _, _, _, _] [3, 1, 2, 0] (by decide) rfl rfl)) ?_
    repeat (refine cr_seq ?_)
    refine cr_draw [2, 3] _ rfl rfl (by kernel_rfl) (Gives.pick [1, 2] (by decide) rfl) ?_
    repeat (first | (refine isU ?_; refine gU rfl ?_) | (refine isG ?_; refine gG rfl rfl ?_) | (refine isx_store ?_; refine gS 1 rfl rfl rfl rfl rfl rfl rfl rfl rfl rfl ?_ (hgs := fun _ => Gives.pick [1, 2] (by decide) rfl)) | (refine isx_store ?_; refine gS 2 rfl rfl rfl rfl rfl rfl rfl rfl rfl rfl ?_ (hgs := fun _ => Gives.pick [1, 2] (by decide) rfl)) | (refine isx_box ?_; refine gB rfl rfl rfl rfl rfl rfl ?_; intro b_) | (refine isx_alloc ?_; refine gA rfl rfl rfl rfl rfl rfl rfl ?_; intro b_) | (refine isx_store ?_; refine gS 0 rfl rfl rfl rfl rfl rfl rfl rfl rfl rfl ?_) | (refine isx_store ?_; refine gS 1 rfl rfl rfl rfl rfl rfl rfl rfl rfl rfl ?_) | (refine isx_store ?_; refine gS 2 rfl rfl rfl rfl rfl rfl rfl rfl rfl rfl ?_) | (refine isx_store ?_; refine gS 3 rfl rfl rfl rfl rfl rfl rfl rfl rfl rfl ?_) | (refine isx_row ?_; refine lx_row (E := EV) rfl rfl rfl rfl rfl rfl rfl rfl rfl rfl rfl rfl rfl ?_; intro b_) | refine lx_nil ?_ | with_reducible refine tq_n ?_ | with_reducible refine tq_r ?_ | with_reducible refine tq_e ?_ | with_reducible refine bk_n ?_ | with_reducible refine bk_r ?_ | (with_reducible refine bk_e ?_ ?_; exact rfl) | (with_reducible refine bk_x ?_ ?_; exact rfl) | refine cx_seq ?_ | refine cx_region ?_ | refine cx_block ?_ | refine cx_ret ?_ | refine cx_skip ?_ | refine cx_exit ?_ | with_reducible refine tr_n ?_ | with_reducible refine tr_r ?_ | with_reducible refine tr_e ?_ | with_reducible refine br_n ?_ | with_reducible refine br_r ?_ | (with_reducible refine br_e ?_ ?_; exact rfl) | (with_reducible refine br_x ?_ ?_; exact rfl) | with_reducible refine cut_n ?_ | refine cr_seq ?_ | refine cr_region rfl ?_ | refine cr_block ?_ | refine cr_ret ?_ | refine cr_skip ?_ | refine cr_exit ?_ | fail)
    refine .inr ⟨d, _, rfl, Gives.refl _, ⟨_, ret_cells2 (E := EV) 0 1 rfl rfl rfl rfl rfl rfl rfl (fun _ => Nat.le_of_ble_eq_true rfl) (fun _ => Nat.le_of_ble_eq_true rfl) rfl rfl, .own A' fs.length c' 44 2 (fcells fs) :: bods fs, Gives.pre [_, _, _] [2] (by decide) rfl rfl, by rw [List.all_cons, bods_mut]; rfl, A', c', fs, rfl, htell, fit, by omega, rfl⟩⟩
end Go.Proofs.Ythmdiopbiiimeaa.fr
