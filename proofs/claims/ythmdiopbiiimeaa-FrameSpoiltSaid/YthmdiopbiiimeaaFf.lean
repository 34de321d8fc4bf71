/- frames: all that stands one behind the other, plainly; by the reference. -/
import Derived.Test.YthmdiopbiiimeaaGo
import Derived.Test.YthmdiopbiiimeaaFe
import Derived.Test.YthmdiopbiiimeaaRf
namespace Go.Proofs.Ythmdiopbiiimeaa.fr
open Go.RowKit Go.Proofs.Ythmdiopbiiimeaa.kit Go.Proofs.Ythmdiopbiiimeaa.pk Go.Proofs.Ythmdiopbiiimeaa.chk Go.Proofs.Ythmdiopbiiimeaa.crc
abbrev Told := List (List B8 × Int)
def goAll (l : List B8) : Nat → Nat → Told → Told × Nat
  | 0, a, acc => (acc, a)
  | k + 1, a, acc => if (takeF l (a : Int)).2.2 = 70 then (acc, a) else if (takeF l (a : Int)).2.2 = 71 then (acc ++ [((takeF l (a : Int)).1, 71)], a) else goAll l k (takeF l (a : Int)).2.1.toNat (acc ++ [((takeF l (a : Int)).1, (takeF l (a : Int)).2.2)])
def allF (l : List B8) : Told × Nat := goAll l (l.length + 1) 0 []
theorem takeF_next {l : List B8} {a : Nat} (h1 : (takeF l (a : Int)).2.2 ≠ 70) (h2 : (takeF l (a : Int)).2.2 ≠ 71) : ∃ b : Nat, (takeF l (a : Int)).2.1 = b ∧ a + 8 ≤ b ∧ b ≤ l.length := by
  unfold takeF at h1 h2 ⊢
  split
  · rename_i h; rw [if_pos h] at h1; exact absurd rfl h1
  · rename_i h
    rw [if_neg h] at h1 h2
    rw [Int.toNat_natCast] at *
    split
    · rename_i h3; rw [if_pos h3] at h2; exact absurd rfl h2
    · rename_i h3
      rw [if_neg h3] at h1 h2
      split
      · rename_i h4; rw [if_pos h4] at h1; exact absurd rfl h1
      · rename_i h4
        refine ⟨a + 8 + num4 l a, ?_, by omega, by omega⟩
        split <;> rfl
theorem takeF_at {l : List B8} {a : Nat} (h : (takeF l (a : Int)).2.2 = 71) : (takeF l (a : Int)).2.1 = a := by
  unfold takeF at h ⊢
  split
  · rfl
  · rename_i h0
    rw [if_neg h0] at h
    rw [Int.toNat_natCast] at *
    split
    · rfl
    · rename_i h3
      rw [if_neg h3] at h
      split
      · rfl
      · rename_i h4
        rw [if_neg h4] at h
        split at h <;> cases h
/-- on the way -/
def OnAll (l : List B8) (a : Nat) (acc : Told) : Prop := ∃ k, l.length - a < k ∧ goAll l k a acc = allF l
theorem onAll_start (l : List B8) : OnAll l 0 [] := ⟨l.length + 1, by omega, rfl⟩
theorem onAll_end {l : List B8} {a : Nat} {acc : Told} (h : OnAll l a acc) (he : (takeF l (a : Int)).2.2 = 70) : allF l = (acc, a) := by
  obtain ⟨k, hk, e⟩ := h
  cases k with
  | zero => omega
  | succ k => rw [goAll, if_pos he] at e; exact e.symm
theorem onAll_long {l : List B8} {a : Nat} {acc : Told} (h : OnAll l a acc) (he : (takeF l (a : Int)).2.2 = 71) : allF l = (acc ++ [((takeF l (a : Int)).1, 71)], a) := by
  obtain ⟨k, hk, e⟩ := h
  cases k with
  | zero => omega
  | succ k => rw [goAll, if_neg (by rw [he]; decide), if_pos he] at e; exact e.symm
theorem onAll_next {l : List B8} {a b : Nat} {acc : Told} (h : OnAll l a acc) (h1 : (takeF l (a : Int)).2.2 ≠ 70) (h2 : (takeF l (a : Int)).2.2 ≠ 71) (hb : (takeF l (a : Int)).2.1 = b) : OnAll l b (acc ++ [((takeF l (a : Int)).1, (takeF l (a : Int)).2.2)]) := by
  obtain ⟨k, hk, e⟩ := h
  obtain ⟨b', h3, h4, h5⟩ := takeF_next h1 h2
  obtain rfl : b = b' := by omega
  cases k with
  | zero => omega
  | succ k =>
    rw [goAll, if_neg h1, if_neg h2, hb, Int.toNat_natCast] at e
    exact ⟨k, by omega, e⟩
/-- what is told, in memory -/
structure Fd where
  r : Rw
  e : Int
def Fd.cells (x : Fd) : List Value := [.slice x.r.A x.r.n x.r.c, .int .i64 x.e]
def Fd.val (x : Fd) : Value := .agg #[.slice x.r.A x.r.n x.r.c, .int .i64 x.e]
def fcells (fs : List Fd) : List Value := fs.flatMap Fd.cells
def Fd.body (x : Fd) : Ck := .own x.r.A x.r.n x.r.c 5 1 (bvs x.r.l)
/-- the bodies, the newest first -/
def bods (fs : List Fd) : List Ck := fs.reverse.map Fd.body
theorem bods_nil : bods [] = [] := rfl
theorem bods_push (fs : List Fd) (x : Fd) : bods (fs ++ [x]) = x.body :: bods fs := by simp [bods]
theorem bods_mut (fs : List Fd) : (bods fs).all Ck.mut_ = true := by
  rw [List.all_eq_true]
  intro c hc
  obtain ⟨x, _, rfl⟩ := List.mem_map.1 hc
  rfl
def tell (fs : List Fd) : Told := fs.map fun x => (x.r.l, x.e)
theorem tell_push (fs : List Fd) (x : Fd) : tell (fs ++ [x]) = tell fs ++ [(x.r.l, x.e)] := by simp [tell]
theorem fcells_push (fs : List Fd) (x : Fd) : fcells (fs ++ [x]) = fcells fs ++ x.cells := by simp [fcells]
def Fit (fs : List Fd) : Prop := ∀ x ∈ fs, x.r.l.length = x.r.n ∧ x.r.n ≤ 8192
theorem Fit.push {fs : List Fd} {x : Fd} (h : Fit fs) (hx : x.r.l.length = x.r.n ∧ x.r.n ≤ 8192) : Fit (fs ++ [x]) := by
  intro y hy
  rcases List.mem_append.1 hy with hy | hy
  · exact h y hy
  · obtain rfl := List.mem_singleton.1 hy; exact hx
theorem fcells_get {fs : List Fd} {i : Nat} {x : Fd} (h : fs[i]? = some x) (j : Nat) (hj : j < 2) : (fcells fs)[mulI i 2 + j]? = x.cells[j]? := flat_get (f := Fd.cells) (m := 2) (fun _ => rfl) h hj
theorem cells_one (x : Fd) : ∀ u ∈ x.cells, u.oneCell' = true := by
  intro u hu
  simp [Fd.cells] at hu
  rcases hu with rfl | rfl <;> rfl
structure ASt (l : List B8) where
  a : Nat
  fs : List Fd
  A : Option Addr
  c : Nat
  le : a ≤ l.length
  way : OnAll l a (tell fs)
  few : fs.length ≤ a
  fit : Fit fs
abbrev AllP (T : TypeId) (l : List B8) (v : Value) (Lo : List Ck) : Prop := ∃ A' c' fs, v = .tuple #[.slice A' (List.length fs) c', .int .i64 ((allF l).2 : Nat)] ∧ tell fs = (allF l).1 ∧ Fit fs ∧ fs.length ≤ l.length + 1 ∧ Lo = .own A' fs.length c' T 2 (fcells fs) :: bods fs
attribute [local irreducible] LX CX Yl Gives RetIs Fn
attribute [local irreducible] be de upd takeF num4 sum4 frm allF
set_option maxHeartbeats 2000000 in
theorem rall_fn (A : Option Addr) (n c : Nat) (l : List B8) (hl : l.length = n) (hc : n ≤ c ∧ c ≤ 9223372036854775807) (hn : n ≤ 1000000) : Fn Try.prog 21 [.slice A n c] [.ro A n 1 (bvs l)] [] (AllP 58 l) := by
  subst hl
  refine fn_enter Try.func21 rfl rfl (by kernel_rfl) rfl ?_
  intro w0
  repeat (first | (refine isU ?_; refine gU rfl ?_) | (refine isG ?_; refine gG rfl rfl ?_) | (refine isx_box ?_; refine gB rfl rfl rfl rfl rfl rfl ?_; intro b_) | (refine isx_alloc ?_; refine gA rfl rfl rfl rfl rfl rfl rfl ?_; intro b_) | (refine isx_store ?_; refine gS 0 rfl rfl rfl rfl rfl rfl rfl rfl rfl rfl ?_) | (refine isx_store ?_; refine gS 1 rfl rfl rfl rfl rfl rfl rfl rfl rfl rfl ?_) | (refine isx_store ?_; refine gS 2 rfl rfl rfl rfl rfl rfl rfl rfl rfl rfl ?_) | (refine isx_store ?_; refine gS 3 rfl rfl rfl rfl rfl rfl rfl rfl rfl rfl ?_) | (refine isx_row ?_; refine lx_row (E := EV) rfl rfl rfl rfl rfl rfl rfl rfl rfl rfl rfl rfl rfl ?_; intro b_) | refine lx_nil ?_ | with_reducible refine tq_n ?_ | with_reducible refine tq_r ?_ | with_reducible refine tq_e ?_ | with_reducible refine bk_n ?_ | with_reducible refine bk_r ?_ | (with_reducible refine bk_e ?_ ?_; exact rfl) | (with_reducible refine bk_x ?_ ?_; exact rfl) | refine cx_seq ?_ | refine cx_region ?_ | refine cx_block ?_ | refine cx_ret ?_ | refine cx_skip ?_ | refine cx_exit ?_ | fail)
  refine cx_loop (α := ASt l) (fun x => [(0, none, .slice A l.length c), (4, none, .slice x.A x.fs.length x.c), (5, none, .int .i64 x.a)])
    (fun x => .own x.A x.fs.length x.c 58 2 (fcells x.fs) :: .ro A l.length 1 (bvs l) :: bods x.fs) (fun x => l.length - x.a) ⟨0, [], none, 0, Nat.zero_le _, onAll_start l, Nat.le_refl _, fun x hx => by cases hx⟩ ⟨rfl, rfl, rfl, trivial⟩ (Gives.nilown _ _ _) ?_
  rintro ⟨a, fs, Af, cf, le, way, few, fit⟩
  dsimp only
  have ht := rtake_fn A l.length c l (a : Int) rfl hc hn (by omega)
  have hbl := (takeF_le (l := l) (at' := (a : Int))).1
  have w1 := fun h => onAll_end way h
  have w2 := fun h => onAll_long way h
  have w3 := fun h1 h2 (b : Nat) hb => onAll_next (b := b) way h1 h2 hb
  have w4 := @takeF_next l a
  unfold TakeP at ht
  generalize hTf : takeF l (a : Int) = T at *
  obtain ⟨bd, nx, e⟩ := T
  dsimp only at ht hbl w1 w2 w3 w4
  by_cases he : e = 70
  · have hA := w1 he
    subst he
    repeat (first | refine lx_not rfl rfl rfl rfl ?_ | refine lx_notu rfl rfl rfl rfl rfl ?_ | ((first | (apply lx_gt; exact rfl; exact rfl; exact rfl) | (apply lx_u; exact rfl) | (apply lx_g; exact rfl; exact rfl)); first | (apply isy_bin_eql; exact yl_true (yl_op (E := EV) rfl) (fun _ => rfl)) | fail) | (refine isG ?_; refine gT rfl rfl rfl ?_) | (refine isU ?_; refine gU rfl ?_) | (refine isG ?_; refine gG rfl rfl ?_) | (refine isx_call ?_; (refine isx_call ?_; refine lx_call0 (ht) ((fun w hm => in_ro (row_ro 1 rfl hm) (in_nil hm) rfl)) rfl rfl rfl rfl rfl rfl rfl rfl ?_; rintro v_ Lo_ ⟨Ab, cb', rfl, rfl⟩)) | (refine isx_box ?_; refine gB rfl rfl rfl rfl rfl rfl ?_; intro b_) | (refine isx_alloc ?_; refine gA rfl rfl rfl rfl rfl rfl rfl ?_; intro b_) | (refine isx_store ?_; refine gS 0 rfl rfl rfl rfl rfl rfl rfl rfl rfl rfl ?_) | (refine isx_store ?_; refine gS 1 rfl rfl rfl rfl rfl rfl rfl rfl rfl rfl ?_) | (refine isx_store ?_; refine gS 2 rfl rfl rfl rfl rfl rfl rfl rfl rfl rfl ?_) | (refine isx_store ?_; refine gS 3 rfl rfl rfl rfl rfl rfl rfl rfl rfl rfl ?_) | (refine isx_row ?_; refine lx_row (E := EV) rfl rfl rfl rfl rfl rfl rfl rfl rfl rfl rfl rfl rfl ?_; intro b_) | refine lx_nil ?_ | with_reducible refine tq_n ?_ | with_reducible refine tq_r ?_ | with_reducible refine tq_e ?_ | with_reducible refine bk_n ?_ | with_reducible refine bk_r ?_ | (with_reducible refine bk_e ?_ ?_; exact rfl) | (with_reducible refine bk_x ?_ ?_; exact rfl) | refine cx_seq ?_ | refine cx_region ?_ | refine cx_block ?_ | refine cx_ret ?_ | refine cx_skip ?_ | refine cx_exit ?_ | fail)
    refine cx_cond rfl (fun _ => ?_) (fun h => absurd h (by decide))
    repeat (first | (refine isU ?_; refine gU rfl ?_) | (refine isG ?_; refine gG rfl rfl ?_) | (refine isx_box ?_; refine gB rfl rfl rfl rfl rfl rfl ?_; intro b_) | (refine isx_alloc ?_; refine gA rfl rfl rfl rfl rfl rfl rfl ?_; intro b_) | (refine isx_store ?_; refine gS 0 rfl rfl rfl rfl rfl rfl rfl rfl rfl rfl ?_) | (refine isx_store ?_; refine gS 1 rfl rfl rfl rfl rfl rfl rfl rfl rfl rfl ?_) | (refine isx_store ?_; refine gS 2 rfl rfl rfl rfl rfl rfl rfl rfl rfl rfl ?_) | (refine isx_store ?_; refine gS 3 rfl rfl rfl rfl rfl rfl rfl rfl rfl rfl ?_) | (refine isx_row ?_; refine lx_row (E := EV) rfl rfl rfl rfl rfl rfl rfl rfl rfl rfl rfl rfl rfl ?_; intro b_) | refine lx_nil ?_ | with_reducible refine tq_n ?_ | with_reducible refine tq_r ?_ | with_reducible refine tq_e ?_ | with_reducible refine bk_n ?_ | with_reducible refine bk_r ?_ | (with_reducible refine bk_e ?_ ?_; exact rfl) | (with_reducible refine bk_x ?_ ?_; exact rfl) | refine cx_seq ?_ | refine cx_region ?_ | refine cx_block ?_ | refine cx_ret ?_ | refine cx_skip ?_ | refine cx_exit ?_ | fail)
    exact bq_ret (ret_tmp2 rfl rfl rfl) (.own Af fs.length cf 58 2 (fcells fs) :: bods fs) (Gives.sub (.cons _ (.cons_cons _ (.cons _ (.refl _))))) (by rw [List.all_cons, bods_mut]; rfl) ⟨Af, cf, fs, by rw [hA], by rw [hA], fit, by omega, rfl⟩
  have h70 : (e == 70) = false := by simp [he]
  repeat (first | refine lx_not rfl rfl rfl rfl ?_ | refine lx_notu rfl rfl rfl rfl rfl ?_ | ((first | (apply lx_gt; exact rfl; exact rfl; exact rfl) | (apply lx_u; exact rfl) | (apply lx_g; exact rfl; exact rfl)); first | (apply isy_bin_eql; exact yl_false (yl_op (E := EV) rfl) (fun _ => h70)) | fail) | (refine isG ?_; refine gT rfl rfl rfl ?_) | (refine isU ?_; refine gU rfl ?_) | (refine isG ?_; refine gG rfl rfl ?_) | (refine isx_call ?_; (refine isx_call ?_; refine lx_call0 (ht) ((fun w hm => in_ro (row_ro 1 rfl hm) (in_nil hm) rfl)) rfl rfl rfl rfl rfl rfl rfl rfl ?_; rintro v_ Lo_ ⟨Ab, cb', rfl, rfl⟩)) | (refine isx_box ?_; refine gB rfl rfl rfl rfl rfl rfl ?_; intro b_) | (refine isx_alloc ?_; refine gA rfl rfl rfl rfl rfl rfl rfl ?_; intro b_) | (refine isx_store ?_; refine gS 0 rfl rfl rfl rfl rfl rfl rfl rfl rfl rfl ?_) | (refine isx_store ?_; refine gS 1 rfl rfl rfl rfl rfl rfl rfl rfl rfl rfl ?_) | (refine isx_store ?_; refine gS 2 rfl rfl rfl rfl rfl rfl rfl rfl rfl rfl ?_) | (refine isx_store ?_; refine gS 3 rfl rfl rfl rfl rfl rfl rfl rfl rfl rfl ?_) | (refine isx_row ?_; refine lx_row (E := EV) rfl rfl rfl rfl rfl rfl rfl rfl rfl rfl rfl rfl rfl ?_; intro b_) | refine lx_nil ?_ | with_reducible refine tq_n ?_ | with_reducible refine tq_r ?_ | with_reducible refine tq_e ?_ | with_reducible refine bk_n ?_ | with_reducible refine bk_r ?_ | (with_reducible refine bk_e ?_ ?_; exact rfl) | (with_reducible refine bk_x ?_ ?_; exact rfl) | refine cx_seq ?_ | refine cx_region ?_ | refine cx_block ?_ | refine cx_ret ?_ | refine cx_skip ?_ | refine cx_exit ?_ | fail)
  refine cx_cond rfl (fun h => absurd h (by decide)) (fun _ => ?_)
  repeat (first | (refine isU ?_; refine gU rfl ?_) | (refine isG ?_; refine gG rfl rfl ?_) | (refine isx_box ?_; refine gB rfl rfl rfl rfl rfl rfl ?_; intro b_) | (refine isx_alloc ?_; refine gA rfl rfl rfl rfl rfl rfl rfl ?_; intro b_) | (refine isx_store ?_; refine gS 0 rfl rfl rfl rfl rfl rfl rfl rfl rfl rfl ?_) | (refine isx_store ?_; refine gS 1 rfl rfl rfl rfl rfl rfl rfl rfl rfl rfl ?_) | (refine isx_store ?_; refine gS 2 rfl rfl rfl rfl rfl rfl rfl rfl rfl rfl ?_) | (refine isx_store ?_; refine gS 3 rfl rfl rfl rfl rfl rfl rfl rfl rfl rfl ?_) | (refine isx_row ?_; refine lx_row (E := EV) rfl rfl rfl rfl rfl rfl rfl rfl rfl rfl rfl rfl rfl ?_; intro b_) | refine lx_nil ?_ | with_reducible refine tq_n ?_ | with_reducible refine tq_r ?_ | with_reducible refine tq_e ?_ | with_reducible refine bk_n ?_ | with_reducible refine bk_r ?_ | (with_reducible refine bk_e ?_ ?_; exact rfl) | (with_reducible refine bk_x ?_ ?_; exact rfl) | refine cx_seq ?_ | refine cx_region ?_ | refine cx_block ?_ | refine cx_ret ?_ | refine cx_skip ?_ | refine cx_exit ?_ | fail)
  refine lx_append (E := EV) 2 rfl rfl rfl rfl rfl rfl rfl rfl rfl rfl rfl rfl rfl (news := Fd.cells ⟨⟨Ab, bd.length, cb', bd⟩, e⟩) (fun w hm => row_blk 0 rfl rfl hm) (cells_one _) (by unfold maxLen; omega) (by show (_ + _) * 32 ≤ _; omega) (fun _ _ _ => trivial) ?_
  intro A' c'
  have hlen : (fs ++ [(⟨⟨Ab, bd.length, cb', bd⟩, e⟩ : Fd)]).length = fs.length + 1 := by simp
  rw [← fcells_push, ← hlen]
  have fit' := fit.push (x := ⟨⟨Ab, bd.length, cb', bd⟩, e⟩) ⟨rfl, hbl⟩
  by_cases hl : e = 71
  · have hA := w2 hl
    subst hl
    repeat (first | refine lx_not rfl rfl rfl rfl ?_ | refine lx_notu rfl rfl rfl rfl rfl ?_ | ((first | (apply lx_gt; exact rfl; exact rfl; exact rfl) | (apply lx_u; exact rfl) | (apply lx_g; exact rfl; exact rfl)); first | (apply isy_bin_eql; exact yl_true (yl_op (E := EV) rfl) (fun _ => rfl)) | fail) | (refine isG ?_; refine gT rfl rfl rfl ?_) | (refine isU ?_; refine gU rfl ?_) | (refine isG ?_; refine gG rfl rfl ?_) | (refine isx_box ?_; refine gB rfl rfl rfl rfl rfl rfl ?_; intro b_) | (refine isx_alloc ?_; refine gA rfl rfl rfl rfl rfl rfl rfl ?_; intro b_) | (refine isx_store ?_; refine gS 0 rfl rfl rfl rfl rfl rfl rfl rfl rfl rfl ?_) | (refine isx_store ?_; refine gS 1 rfl rfl rfl rfl rfl rfl rfl rfl rfl rfl ?_) | (refine isx_store ?_; refine gS 2 rfl rfl rfl rfl rfl rfl rfl rfl rfl rfl ?_) | (refine isx_store ?_; refine gS 3 rfl rfl rfl rfl rfl rfl rfl rfl rfl rfl ?_) | (refine isx_row ?_; refine lx_row (E := EV) rfl rfl rfl rfl rfl rfl rfl rfl rfl rfl rfl rfl rfl ?_; intro b_) | refine lx_nil ?_ | with_reducible refine tq_n ?_ | with_reducible refine tq_r ?_ | with_reducible refine tq_e ?_ | with_reducible refine bk_n ?_ | with_reducible refine bk_r ?_ | (with_reducible refine bk_e ?_ ?_; exact rfl) | (with_reducible refine bk_x ?_ ?_; exact rfl) | refine cx_seq ?_ | refine cx_region ?_ | refine cx_block ?_ | refine cx_ret ?_ | refine cx_skip ?_ | refine cx_exit ?_ | fail)
    refine cx_cond rfl (fun _ => ?_) (fun h => absurd h (by decide))
    repeat (first | (refine isU ?_; refine gU rfl ?_) | (refine isG ?_; refine gG rfl rfl ?_) | (refine isx_box ?_; refine gB rfl rfl rfl rfl rfl rfl ?_; intro b_) | (refine isx_alloc ?_; refine gA rfl rfl rfl rfl rfl rfl rfl ?_; intro b_) | (refine isx_store ?_; refine gS 0 rfl rfl rfl rfl rfl rfl rfl rfl rfl rfl ?_) | (refine isx_store ?_; refine gS 1 rfl rfl rfl rfl rfl rfl rfl rfl rfl rfl ?_) | (refine isx_store ?_; refine gS 2 rfl rfl rfl rfl rfl rfl rfl rfl rfl rfl ?_) | (refine isx_store ?_; refine gS 3 rfl rfl rfl rfl rfl rfl rfl rfl rfl rfl ?_) | (refine isx_row ?_; refine lx_row (E := EV) rfl rfl rfl rfl rfl rfl rfl rfl rfl rfl rfl rfl rfl ?_; intro b_) | refine lx_nil ?_ | with_reducible refine tq_n ?_ | with_reducible refine tq_r ?_ | with_reducible refine tq_e ?_ | with_reducible refine bk_n ?_ | with_reducible refine bk_r ?_ | (with_reducible refine bk_e ?_ ?_; exact rfl) | (with_reducible refine bk_x ?_ ?_; exact rfl) | refine cx_seq ?_ | refine cx_region ?_ | refine cx_block ?_ | refine cx_ret ?_ | refine cx_skip ?_ | refine cx_exit ?_ | fail)
    refine bq_ret (ret_tmp2 rfl rfl rfl) (.own A' (fs ++ [(⟨⟨Ab, bd.length, cb', bd⟩, 71⟩ : Fd)]).length c' 58 2 (fcells (fs ++ [(⟨⟨Ab, bd.length, cb', bd⟩, 71⟩ : Fd)])) :: bods (fs ++ [(⟨⟨Ab, bd.length, cb', bd⟩, 71⟩ : Fd)])) ?_ (by rw [List.all_cons, bods_mut]; rfl) ⟨A', c', fs ++ [(⟨⟨Ab, bd.length, cb', bd⟩, 71⟩ : Fd)], by rw [hA], by rw [hA, tell_push], fit', by omega, rfl⟩
    rw [bods_push]
    exact Gives.pre [_, _, _, _] [2, 1] (by decide) rfl rfl
  have h71 : (e == 71) = false := by simp [hl]
  obtain ⟨b, rfl, hab, hble⟩ := w4 he hl
  repeat (first | refine lx_not rfl rfl rfl rfl ?_ | refine lx_notu rfl rfl rfl rfl rfl ?_ | ((first | (apply lx_gt; exact rfl; exact rfl; exact rfl) | (apply lx_u; exact rfl) | (apply lx_g; exact rfl; exact rfl)); first | (apply isy_bin_eql; exact yl_false (yl_op (E := EV) rfl) (fun _ => h71)) | fail) | (refine isG ?_; refine gT rfl rfl rfl ?_) | (refine isU ?_; refine gU rfl ?_) | (refine isG ?_; refine gG rfl rfl ?_) | (refine isx_box ?_; refine gB rfl rfl rfl rfl rfl rfl ?_; intro b_) | (refine isx_alloc ?_; refine gA rfl rfl rfl rfl rfl rfl rfl ?_; intro b_) | (refine isx_store ?_; refine gS 0 rfl rfl rfl rfl rfl rfl rfl rfl rfl rfl ?_) | (refine isx_store ?_; refine gS 1 rfl rfl rfl rfl rfl rfl rfl rfl rfl rfl ?_) | (refine isx_store ?_; refine gS 2 rfl rfl rfl rfl rfl rfl rfl rfl rfl rfl ?_) | (refine isx_store ?_; refine gS 3 rfl rfl rfl rfl rfl rfl rfl rfl rfl rfl ?_) | (refine isx_row ?_; refine lx_row (E := EV) rfl rfl rfl rfl rfl rfl rfl rfl rfl rfl rfl rfl rfl ?_; intro b_) | refine lx_nil ?_ | with_reducible refine tq_n ?_ | with_reducible refine tq_r ?_ | with_reducible refine tq_e ?_ | with_reducible refine bk_n ?_ | with_reducible refine bk_r ?_ | (with_reducible refine bk_e ?_ ?_; exact rfl) | (with_reducible refine bk_x ?_ ?_; exact rfl) | refine cx_seq ?_ | refine cx_region ?_ | refine cx_block ?_ | refine cx_ret ?_ | refine cx_skip ?_ | refine cx_exit ?_ | fail)
  refine cx_cond rfl (fun h => absurd h (by decide)) (fun _ => ?_)
  repeat (first | (refine isU ?_; refine gU rfl ?_) | (refine isG ?_; refine gG rfl rfl ?_) | (refine isx_box ?_; refine gB rfl rfl rfl rfl rfl rfl ?_; intro b_) | (refine isx_alloc ?_; refine gA rfl rfl rfl rfl rfl rfl rfl ?_; intro b_) | (refine isx_store ?_; refine gS 0 rfl rfl rfl rfl rfl rfl rfl rfl rfl rfl ?_) | (refine isx_store ?_; refine gS 1 rfl rfl rfl rfl rfl rfl rfl rfl rfl rfl ?_) | (refine isx_store ?_; refine gS 2 rfl rfl rfl rfl rfl rfl rfl rfl rfl rfl ?_) | (refine isx_store ?_; refine gS 3 rfl rfl rfl rfl rfl rfl rfl rfl rfl rfl ?_) | (refine isx_row ?_; refine lx_row (E := EV) rfl rfl rfl rfl rfl rfl rfl rfl rfl rfl rfl rfl rfl ?_; intro b_) | refine lx_nil ?_ | with_reducible refine tq_n ?_ | with_reducible refine tq_r ?_ | with_reducible refine tq_e ?_ | with_reducible refine bk_n ?_ | with_reducible refine bk_r ?_ | (with_reducible refine bk_e ?_ ?_; exact rfl) | (with_reducible refine bk_x ?_ ?_; exact rfl) | refine cx_seq ?_ | refine cx_region ?_ | refine cx_block ?_ | refine cx_ret ?_ | refine cx_skip ?_ | refine cx_exit ?_ | fail)
  refine ⟨⟨b, fs ++ [⟨⟨Ab, bd.length, cb', bd⟩, e⟩], A', c', hble, by rw [tell_push]; exact w3 he hl b rfl, by omega, fit'⟩, ⟨rfl, rfl, rfl, trivial⟩, ?_, by dsimp only; omega⟩
  dsimp only
  rw [bods_push]
  exact Gives.pre [_, _, _, _] [2, 3, 1] (by decide) rfl rfl
end Go.Proofs.Ythmdiopbiiimeaa.fr
