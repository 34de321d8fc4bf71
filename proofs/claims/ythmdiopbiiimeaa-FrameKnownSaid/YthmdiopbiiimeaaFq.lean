/- frames: FrameNone; what a stream tells, as far as it goes. -/
import Derived.Test.YthmdiopbiiimeaaGo
import Derived.Test.YthmdiopbiiimeaaFtd
import Derived.Test.YthmdiopbiiimeaaFtc
namespace Go.Proofs.Ythmdiopbiiimeaa.fr
open Go.RowKit Go.Proofs.Ythmdiopbiiimeaa.kit Go.Proofs.Ythmdiopbiiimeaa.pk Go.Proofs.Ythmdiopbiiimeaa.chk Go.Proofs.Ythmdiopbiiimeaa.crc
theorem addr_add2 (a : Addr) (x y : Nat) : (a.add x).add y = a.add (x + y) := by
  obtain ⟨b, off, v⟩ := a
  by_cases hx : x = 0 <;> by_cases hy : y = 0 <;> cases v <;> simp [Addr.add, hx, hy, Nat.add_assoc]
/-- the rest of a row, from a place on, as a slice that was cut (perhaps more than once) -/
def View (A : Option Addr) (q c off : Nat) (Ak : Option Addr) (qk ck : Nat) : Prop := off ≤ q ∧ qk = q - off ∧ qk ≤ ck ∧ ck ≤ 9223372036854775807 ∧ (0 < qk → Ak = cutA A c off 1 ∧ ck = c - off)
theorem View.start {A : Option Addr} {q c : Nat} (hc : q ≤ c ∧ c ≤ 9223372036854775807) : View A q c 0 A q c := by
  refine ⟨Nat.zero_le _, rfl, hc.1, hc.2, fun _ => ⟨?_, rfl⟩⟩
  unfold cutA
  split
  · rfl
  · cases A with
    | none => rfl
    | some a => simp [Addr.add]
theorem View.none {A : Option Addr} {q c : Nat} : View A q c q none 0 0 := ⟨Nat.le_refl _, by omega, Nat.le_refl _, by omega, fun h => absurd h (by omega)⟩
theorem View.cut {A Ak : Option Addr} {q c off qk ck : Nat} (h : View A q c off Ak qk ck) {m : Nat} (hm : m ≤ qk) : View A q c (off + m) (cutA Ak ck m 1) (qk - m) (ck - m) := by
  obtain ⟨h1, h2, h3, h4, h5⟩ := h
  refine ⟨by omega, by omega, by omega, by omega, fun hp => ?_⟩
  obtain ⟨rfl, rfl⟩ := h5 (by omega)
  refine ⟨?_, by omega⟩
  unfold cutA
  rw [if_neg (by omega), if_neg (by omega), if_neg (by omega)]
  cases A with
  | none => rfl
  | some a =>
    simp only [Option.map_some, Nat.mul_one]
    rw [addr_add2]
theorem View.row {A Ak : Option Addr} {q c off qk ck : Nat} (h : View A q c off Ak qk ck) (hc : q ≤ c) {w : World} {B : Nat} {K : List B8} (hr : Row w B 1 A q (bvs K)) : Row w B 1 Ak qk (bvs (K.drop off)) := by
  obtain ⟨h1, rfl, h3, h4, h5⟩ := h
  have hs := hr.sufb h1 hc
  refine ⟨hs.1, fun hp => ?_⟩
  obtain ⟨rfl, _⟩ := h5 hp
  exact hs.2 hp
theorem Gives.view {L : List Ck} (k : Nat) {A Ak : Option Addr} {q c off qk ck : Nat} {K : List B8} (hk : L[k]? = some (.ro A q 1 (bvs K))) (h : View A q c off Ak qk ck) (hc : q ≤ c) : Gives L (.ro Ak qk 1 (bvs (K.drop off)) :: L) :=
  Gives.add k hk rfl rfl fun w hr => ⟨h.row hc hr, fun b hb => by
    obtain ⟨hq, hb⟩ := hb
    obtain ⟨h1, rfl, h3, h4, h5⟩ := h
    have hs := Row.sufb hr h1 hc
    obtain ⟨rfl, _⟩ := h5 (by omega)
    obtain ⟨b0, o0, hA, _, _⟩ := hs.2 (by omega)
    obtain ⟨b1, o1, rfl, _, _⟩ := hr.2 (by omega)
    refine ⟨by omega, ?_⟩
    rw [← hb]
    unfold cutA
    split
    · rfl
    · simp [add_at]⟩
/-- what is told of bytes, one behind the other: what was told, and what is left (nothing behind what is too long) -/
inductive Rch (o0 : Option (List B8)) : Told → Option (List B8) → Prop
  | start : Rch o0 [] o0
  | more {tl : Told} {K bd : List B8} {nx : Nat} {e : Int} : Rch o0 tl (some K) → takeF K ((0 : Nat) : Int) = (bd, (nx : Int), e) → e ≠ 70 → e ≠ 71 → Rch o0 (tl ++ [(bd, e)]) (some (K.drop nx))
  | long {tl : Told} {K bd : List B8} {nx : Nat} : Rch o0 tl (some K) → takeF K ((0 : Nat) : Int) = (bd, (nx : Int), 71) → Rch o0 (tl ++ [(bd, 71)]) none
structure TSt (K : List B8) (A : Option Addr) (q c : Nat) (d0 : Bool) where
  fs : List Fd
  Af : Option Addr
  cf : Nat
  off : Nat
  Ak : Option Addr
  qk : Nat
  ck : Nat
  d : Bool
  hv : View A q c off Ak qk ck
  rch : Rch (bif d0 then none else some K) (tell fs) (bif d then none else some (K.drop off))
  fit : Fit fs
  few : fs.length ≤ off + (bif d then 1 else 0)
  dz : d = true → qk = 0
attribute [local irreducible] LX CX Yl Gives RetIs Fn
attribute [local irreducible] be de upd takeF num4 sum4 frm allF
theorem none_fn (A : Option Addr) (n c : Nat) (l : List B8) (hl : l.length = n) : Fn Try.prog 6 [.slice A n c] [.ro A n 1 (bvs l)] [] fun v Lo => v = .bool true ∧ Lo = [] := by
  refine fn_enter Try.func6 rfl rfl (by kernel_rfl) rfl ?_
  intro w0
  repeat (first | refine lx_not rfl rfl rfl rfl ?_ | refine lx_notu rfl rfl rfl rfl rfl ?_ | ((first | (apply lx_gt; exact rfl; exact rfl; exact rfl) | (apply lx_u; exact rfl) | (apply lx_g; exact rfl; exact rfl)); first | (apply isy_bin_eql; exact yl_true (yl_op (E := EV) rfl) (fun _ => rfl)) | fail) | (refine isG ?_; refine gT rfl rfl rfl ?_) | (refine isU ?_; refine gU rfl ?_) | (refine isG ?_; refine gG rfl rfl ?_) | (refine isx_call ?_; (refine isx_call ?_; refine lx_call0 (feedN_fn _ _ _) (fun _ hm => in_nil hm) rfl rfl rfl rfl rfl rfl rfl rfl ?_; rintro v_ Lo_ rfl)) | (refine isx_call ?_; refine lx_gcallt (nextN_fn) (fun _ hm => in_nil hm) rfl rfl rfl rfl rfl rfl rfl ?_) | (refine isx_call ?_; refine lx_gcallt (leftN_fn) (fun _ hm => in_nil hm) rfl rfl rfl rfl rfl rfl rfl ?_) | (refine isx_call ?_; refine lx_gcallt (deadN_fn) (fun _ hm => in_nil hm) rfl rfl rfl rfl rfl rfl rfl ?_) | (refine isx_call ?_; refine lx_gcallt (works_fn) (fun _ hm => in_nil hm) rfl rfl rfl rfl rfl rfl rfl ?_) | (refine isx_box ?_; refine gB rfl rfl rfl rfl rfl rfl ?_; intro b_) | (refine isx_alloc ?_; refine gA rfl rfl rfl rfl rfl rfl rfl ?_; intro b_) | (refine isx_store ?_; refine gS 0 rfl rfl rfl rfl rfl rfl rfl rfl rfl rfl ?_) | (refine isx_store ?_; refine gS 1 rfl rfl rfl rfl rfl rfl rfl rfl rfl rfl ?_) | (refine isx_store ?_; refine gS 2 rfl rfl rfl rfl rfl rfl rfl rfl rfl rfl ?_) | (refine isx_store ?_; refine gS 3 rfl rfl rfl rfl rfl rfl rfl rfl rfl rfl ?_) | (refine isx_row ?_; refine lx_row (E := EV) rfl rfl rfl rfl rfl rfl rfl rfl rfl rfl rfl rfl rfl ?_; intro b_) | refine lx_nil ?_ | with_reducible refine tq_n ?_ | with_reducible refine tq_r ?_ | with_reducible refine tq_e ?_ | with_reducible refine bk_n ?_ | with_reducible refine bk_r ?_ | (with_reducible refine bk_e ?_ ?_; exact rfl) | (with_reducible refine bk_x ?_ ?_; exact rfl) | refine cx_seq ?_ | refine cx_region ?_ | refine cx_block ?_ | refine cx_ret ?_ | refine cx_skip ?_ | refine cx_exit ?_ | fail)
  exact bq_ret (ret_tmp rfl rfl) [] (Gives.nil _) rfl ⟨rfl, rfl⟩
theorem none_all (x0 : Sl B8) (W : World) (h0 : u8ok W x0) :
    Calls Try.prog 6 #[.slice x0.A x0.n x0.c] W fun e W' => e = .returned (.bool true) ∧ Below W.heap.size W W' :=
  (none_fn x0.A x0.n x0.c x0.l h0.2.1).yes W (in_ro h0.1 (mem0 W) rfl)
end Go.Proofs.Ythmdiopbiiimeaa.fr
