/- scripts: a request's frame; a step read. -/
import Derived.Test.YtmochicneilhhaaGreatPEa
import Derived.Test.YtmochicneilhhaaGreatPFta
import Derived.Test.YtmochicneilhhaaGreatPGo
import Derived.Test.YtmochicneilhhaaGreatPQtb
import Derived.Test.YtmochicneilhhaaGreatPTc
namespace Go.Proofs.YtmochicneilhhaaGreat.sc
open Go.RowKit Go.Proofs.YtmochicneilhhaaGreat.kit Go.Proofs.YtmochicneilhhaaGreat.pk Go.Proofs.YtmochicneilhhaaGreat.rq Go.Proofs.YtmochicneilhhaaGreat.ev
theorem putQ_y {r : RQ} (h : r.right = true) : putQ r = (r.enc, 0) := by unfold putQ; rw [h]; rfl
theorem putQ_n {r : RQ} (h : r.right = false) : putQ r = ([], 81) := by unfold putQ; rw [h]; rfl
theorem encQ_le {r : RQ} (h : r.right = true) : r.enc.length ≤ 300 := by
  have ⟨hk, ht⟩ := right_texts h
  have : ∀ ps : List Pt, (ps.flatMap r.encP).length ≤ 85 * ps.length := by
    intro ps
    induction ps with
    | nil => simp
    | cons q ps ih =>
      have := encP_len r hk ht q
      rw [List.flatMap_cons, List.length_append, List.length_cons]
      omega
  have h1 := this (pts r.k)
  have h2 := pts_len r.k
  have h3 := hd_len r
  rw [RQ.enc, List.length_append]
  omega
/-- a request's frame -/
def frameQ (r : RQ) : List B8 := if r.right then fr.frm r.enc else []
theorem frameQ_le (r : RQ) : (frameQ r).length ≤ 308 := by
  unfold frameQ
  split
  · rename_i h
    have := encQ_le h
    rw [fr.frm_len]
    omega
  · simp
attribute [local irreducible] LX CX Yl Gives RetIs Fn
attribute [local irreducible] be de fr.frm
theorem frame_fn (r : RQ) : Fn Tryz.prog 17 [r.val] [] [] fun v Lo => ∃ A c, v = .slice A (frameQ r).length c ∧ Lo = [.own A (frameQ r).length c 5 1 (bvs (frameQ r))] := by
  have h := put_fn r
  unfold Packed at h
  unfold frameQ
  cases hr : r.right with
  | false =>
    rw [putQ_n hr] at h
    refine fn_enter Tryz.func17 rfl rfl (by kernel_rfl) rfl ?_; intro w0
    repeat (first | ((first | (apply lx_gt; exact rfl; exact rfl; exact rfl) | (apply lx_u; exact rfl) | (apply lx_g; exact rfl; exact rfl)); first | (apply isy_bin_neq; exact yl_true (yl_op (E := EV) rfl) (fun _ => rfl)) | fail) | (refine isx_call ?_; (refine isx_call ?_; refine lx_call0 (h) (fun _ hm => in_nil hm) rfl rfl rfl rfl rfl rfl rfl rfl ?_; rintro v_ Lo_ ⟨A, c, rfl, rfl⟩)) | refine wzf ?_ | (refine wzb ?_; intro b_) | fail)
    refine cx_cond rfl (fun _ => ?_) (fun h => absurd h (by decide))
    repeat (first | refine wz ?_ | (refine wzb ?_; intro b_) | fail)
    exact bq_ret (ret_tmp rfl rfl) [_] ((Gives.nilown _ _ _).trans (Gives.pick [0] (by decide) rfl)) rfl ⟨none, 0, rfl, rfl⟩
  | true =>
    rw [putQ_y hr] at h
    have hle := encQ_le hr
    dsimp only at h
    rw [if_pos rfl]
    generalize r.enc = u at *
    refine fn_enter Tryz.func17 rfl rfl (by kernel_rfl) rfl ?_; intro w0
    repeat (first | ((first | (apply lx_gt; exact rfl; exact rfl; exact rfl) | (apply lx_u; exact rfl) | (apply lx_g; exact rfl; exact rfl)); first | (apply isy_bin_neq; exact yl_false (yl_op (E := EV) rfl) (fun _ => rfl)) | fail) | (refine isx_call ?_; (refine isx_call ?_; refine lx_call0 (h) (fun _ hm => in_nil hm) rfl rfl rfl rfl rfl rfl rfl rfl ?_; rintro v_ Lo_ ⟨A, c, rfl, rfl⟩)) | refine wzf ?_ | (refine wzb ?_; intro b_) | fail)
    refine cx_cond rfl (fun h => absurd h (by decide)) (fun _ => ?_)
    refine cx_fact (fun w hm => own_cap 0 hm rfl) fun hco => ?_
    have hp := fr.put_fn A u.length c u rfl hco
    rw [fr.putR_ok (by omega)] at hp
    repeat (first | (refine isx_call ?_; (refine isx_call ?_; refine lx_call0 (hp) ((fun w hm => own_ro 0 hm rfl)) rfl rfl rfl rfl rfl rfl rfl rfl ?_; rintro v_ Lo_ ⟨A2, c2, rfl, rfl⟩)) | refine wz ?_ | (refine wzb ?_; intro b_) | fail)
    exact bq_ret (ret_tmp rfl rfl) [_] (Gives.pick [0] (by decide) rfl) rfl ⟨A2, c2, rfl, rfl⟩
/-- a step -/
structure SP where
  k : B8
  cl : Int
  bs : List B8
  op : EOp
  by_ : BitVec 64
abbrev zeroO : EOp := ⟨0#8, [], 0, 0⟩
/-- a step, as it lies in memory -/
structure MS where
  k : B8
  cl : Int
  r : Rw
  op : EOp
  by_ : BitVec 64
abbrev MS.cells (x : MS) : List Value := [.int .u8 x.k.toNat, .int .i64 x.cl, .slice x.r.A x.r.n x.r.c, .int .u8 x.op.k.toNat, .string (sb x.op.key), .int .i64 x.op.t, .int .i64 x.op.v, .int .u64 x.by_.toNat]
abbrev MS.val (x : MS) : Value := .agg #[.int .u8 x.k.toNat, .int .i64 x.cl, .slice x.r.A x.r.n x.r.c, .int .u8 x.op.k.toNat, .string (sb x.op.key), .int .i64 x.op.t, .int .i64 x.op.v, .int .u64 x.by_.toNat]
abbrev MS.body (x : MS) : Ck := .own x.r.A x.r.n x.r.c 5 1 (bvs x.r.l)
def MS.sp (x : MS) : SP := ⟨x.k, x.cl, x.r.l, x.op, x.by_⟩
abbrev nilr : Rw := ⟨none, 0, 0, []⟩
def valueQ (c : Nat) : Int := if c = 127 then 9223372036854775807 else if c = 128 then -9223372036854775808 else small c
/-- so many bytes from a place on -/
def rawQ (l : List B8) (v : Nat) : Nat → List B8
  | 0 => []
  | m + 1 => rawQ l v m ++ [BitVec.ofInt 8 ((at_ l (v + m) : Nat) : Int)]
theorem rawQ_len (l : List B8) (v : Nat) : ∀ m, (rawQ l v m).length = m
  | 0 => rfl
  | m + 1 => by rw [rawQ, List.length_append, rawQ_len l v m]; rfl
/-- a row of the table, from the byte at v on -/
def serveQ (l : List B8) (n v : Nat) : SP × Nat := (⟨3#8, (at_ l v % n : Nat), [], zeroO, 0#64⟩, v + 1)
def decodeQ (l : List B8) (n v : Nat) : SP × Nat := (⟨2#8, (at_ l v % n : Nat), [], zeroO, 0#64⟩, v + 1)
def feedQ (l : List B8) (n v : Nat) : SP × Nat := (⟨1#8, (at_ l v % n : Nat), rawQ l (v + 2) (at_ l (v + 1) % 16), zeroO, 0#64⟩, v + 2 + at_ l (v + 1) % 16)
def askQ (l : List B8) (n v : Nat) : SP × Nat := (⟨1#8, (at_ l v % n : Nat), frameQ (reqQ l (v + 1)).1, zeroO, 0#64⟩, (reqQ l (v + 1)).2)
def eventQ (l : List B8) (v : Nat) : SP × Nat := (⟨4#8, 0, [], ⟨1#8, keyQ (at_ l v), small (at_ l (v + 1)), valueQ (at_ l (v + 2))⟩, 0#64⟩, v + 3)
def markQ (l : List B8) (v : Nat) : SP × Nat := (⟨4#8, 0, [], ⟨2#8, [], small (at_ l v), 0⟩, 0#64⟩, v + 1)
def publishQ (v : Nat) : SP × Nat := (⟨5#8, 0, [], zeroO, 0#64⟩, v)
def tickQ (l : List B8) (v : Nat) : SP × Nat := (⟨6#8, 0, [], zeroO, BitVec.ofInt 64 ((at_ l v : Nat) : Int)⟩, v + 1)
def vacuumQ (v : Nat) : SP × Nat := (⟨7#8, 0, [], zeroO, 0#64⟩, v)
def rowQ (l : List B8) (n q v : Nat) : SP × Nat :=
  if q ≤ 1 then serveQ l n v else if q ≤ 3 then decodeQ l n v else if q = 4 then feedQ l n v else if q ≤ 8 then askQ l n v else if q ≤ 11 then eventQ l v else if q = 12 then markQ l v else if q = 13 then publishQ v else if q = 14 then tickQ l v else vacuumQ v
def stepQ (l : List B8) (n v : Nat) : SP × Nat := rowQ l n (at_ l v % 16) (v + 1)
/-- what a row's function leaves -/
def RowP {A : Option Addr} {l : List B8} (b n : Nat) (X : SP × Nat) (v : Value) (Lo : List Ck) : Prop := ∃ (x : MS) (r' : Rd A l), v = x.val ∧ x.sp = X.1 ∧ r'.v = X.2 ∧ x.r.l.length = x.r.n ∧ x.r.n ≤ 1000 ∧ Lo = [r'.blk b n, x.body]
section
variable (b n : Nat) {A : Option Addr} {l : List B8} (r : Rd A l) (hn : 0 < n) (hl : l.length ≤ 9223372036854775807)
include hn hl
theorem serve_fn : Fn Tryz.prog 67 [.pointer (some ⟨b, 0, none⟩)] [r.blk b n, .ro A l.length 1 (bvs l)] [b] (RowP (A := A) (l := l) b n (serveQ l n r.v)) := by
  have h := by_fn b n r n hn hl
  have hv := r.nx_v
  unfold serveQ
  generalize r.nx = r' at *
  refine fn_enter Tryz.func67 rfl rfl (by kernel_rfl) rfl ?_
  intro w0
  repeat (first | (refine isx_call ?_; refine k_call (h) [1, 2] [1] [0, 2] rfl rfl rfl rfl rfl rfl rfl rfl ?_; rintro v_ Lo_ ⟨rfl, rfl⟩) | (refine isx_store ?_; refine gS 1 rfl rfl rfl rfl rfl rfl rfl rfl rfl rfl ?_) | refine wz ?_ | (refine wzb ?_; intro b_) | fail)
  exact bq_ret (ret_cell (E := EV) 1 rfl rfl rfl rfl (fun _ => Nat.le_of_ble_eq_true rfl) rfl) [_, _] ((Gives.nilown _ 5 1).trans (Gives.pick [1, 0] (by decide) rfl)) rfl ⟨⟨3#8, _, nilr, zeroO, 0#64⟩, r', rfl, rfl, hv, rfl, Nat.zero_le _, rfl⟩
theorem decode_fn : Fn Tryz.prog 68 [.pointer (some ⟨b, 0, none⟩)] [r.blk b n, .ro A l.length 1 (bvs l)] [b] (RowP (A := A) (l := l) b n (decodeQ l n r.v)) := by
  have h := by_fn b n r n hn hl
  have hv := r.nx_v
  unfold decodeQ
  generalize r.nx = r' at *
  refine fn_enter Tryz.func68 rfl rfl (by kernel_rfl) rfl ?_
  intro w0
  repeat (first | (refine isx_call ?_; refine k_call (h) [1, 2] [1] [0, 2] rfl rfl rfl rfl rfl rfl rfl rfl ?_; rintro v_ Lo_ ⟨rfl, rfl⟩) | (refine isx_store ?_; refine gS 1 rfl rfl rfl rfl rfl rfl rfl rfl rfl rfl ?_) | refine wz ?_ | (refine wzb ?_; intro b_) | fail)
  exact bq_ret (ret_cell (E := EV) 1 rfl rfl rfl rfl (fun _ => Nat.le_of_ble_eq_true rfl) rfl) [_, _] ((Gives.nilown _ 5 1).trans (Gives.pick [1, 0] (by decide) rfl)) rfl ⟨⟨2#8, _, nilr, zeroO, 0#64⟩, r', rfl, rfl, hv, rfl, Nat.zero_le _, rfl⟩
theorem ask_fn : Fn Tryz.prog 70 [.pointer (some ⟨b, 0, none⟩)] [r.blk b n, .ro A l.length 1 (bvs l)] [b] (RowP (A := A) (l := l) b n (askQ l n r.v)) := by
  have h := by_fn b n r n hn hl
  have h2 := request_fn b n r.nx hl
  have hf := frame_fn (reqQ l r.nx.v).1
  have hle := frameQ_le (reqQ l r.nx.v).1
  rw [r.nx_v] at h2 hf hle
  unfold askQ
  generalize reqQ l (r.v + 1) = q at *
  generalize frameQ q.1 = u at *
  generalize r.nx = r' at *
  refine fn_enter Tryz.func70 rfl rfl (by kernel_rfl) rfl ?_
  intro w0
  repeat (first | (refine isx_call ?_; refine k_call (h) [1, 2] [1] [0, 2] rfl rfl rfl rfl rfl rfl rfl rfl ?_; rintro v_ Lo_ ⟨rfl, rfl⟩) | (refine isx_call ?_; refine k_call (h2) [0, 2] [0] [1, 2] rfl rfl rfl rfl rfl rfl rfl rfl ?_; rintro v_ Lo_ ⟨rfl, r2, hr2, rfl⟩) | (refine isx_call ?_; (refine isx_call ?_; refine lx_call0 (hf) (fun _ hm => in_nil hm) rfl rfl rfl rfl rfl rfl rfl rfl ?_; rintro v_ Lo_ ⟨A2, c2, rfl, rfl⟩)) | (refine isx_store ?_; refine gS 2 rfl rfl rfl rfl rfl rfl rfl rfl rfl rfl ?_) | refine wz ?_ | (refine wzb ?_; intro b_) | fail)
  exact bq_ret (ret_cell (E := EV) 2 rfl rfl rfl rfl (fun _ => Nat.le_of_ble_eq_true rfl) rfl) [_, _] (Gives.pick [1, 0] (by decide) rfl) rfl ⟨⟨1#8, _, ⟨A2, u.length, c2, u⟩, zeroO, 0#64⟩, r2, rfl, rfl, hr2, rfl, by dsimp only; omega, rfl⟩
end
section
variable (b n : Nat) {A : Option Addr} {l : List B8} (r : Rd A l) (hl : l.length ≤ 9223372036854775807)
include hl
theorem mark_fn : Fn Tryz.prog 72 [.pointer (some ⟨b, 0, none⟩)] [r.blk b n, .ro A l.length 1 (bvs l)] [b] (RowP (A := A) (l := l) b n (markQ l r.v)) := by
  have h := small_fn b n r hl
  have hv := r.nx_v
  have hat := eAt_fn (small (at_ l r.v))
  unfold markQ
  generalize small (at_ l r.v) = s at *
  generalize r.nx = r' at *
  refine fn_enter Tryz.func72 rfl rfl (by kernel_rfl) rfl ?_
  intro w0
  repeat (first | (refine isx_call ?_; refine k_call (h) [1, 2] [1] [0, 2] rfl rfl rfl rfl rfl rfl rfl rfl ?_; rintro v_ Lo_ ⟨rfl, rfl⟩) | (refine isx_call ?_; refine k_gcall (hat) (fun _ hm => in_nil hm) rfl rfl rfl rfl rfl rfl ?_) | (refine isx_store ?_; refine gS 1 rfl rfl rfl rfl rfl rfl rfl rfl rfl rfl ?_) | refine wz ?_ | (refine wzb ?_; intro b_) | fail)
  exact bq_ret (ret_cell (E := EV) 1 rfl rfl rfl rfl (fun _ => Nat.le_of_ble_eq_true rfl) rfl) [_, _] ((Gives.nilown _ 5 1).trans (Gives.pick [1, 0] (by decide) rfl)) rfl ⟨⟨4#8, 0, nilr, ⟨2#8, [], s, 0⟩, 0#64⟩, r', rfl, rfl, hv, rfl, Nat.zero_le _, rfl⟩
theorem tick_fn : Fn Tryz.prog 74 [.pointer (some ⟨b, 0, none⟩)] [r.blk b n, .ro A l.length 1 (bvs l)] [b] (RowP (A := A) (l := l) b n (tickQ l r.v)) := by
  have h := next_fn b n r hl
  have hv := r.nx_v
  unfold tickQ
  generalize at_ l r.v = s at *
  generalize r.nx = r' at *
  refine fn_enter Tryz.func74 rfl rfl (by kernel_rfl) rfl ?_
  intro w0
  repeat (first | ((first | (apply lx_u; exact rfl) | (apply lx_g; exact rfl; exact rfl)); first | (apply isy_convert; exact q_ci uk64 rfl rfl rfl) | fail) | (refine isx_call ?_; refine k_call (h) [1, 2] [1] [0, 2] rfl rfl rfl rfl rfl rfl rfl rfl ?_; rintro v_ Lo_ ⟨rfl, rfl⟩) | (refine isx_store ?_; refine gS 1 rfl rfl rfl rfl rfl rfl rfl rfl rfl rfl ?_) | refine wz ?_ | (refine wzb ?_; intro b_) | fail)
  exact bq_ret (ret_cell (E := EV) 1 rfl rfl rfl rfl (fun _ => Nat.le_of_ble_eq_true rfl) rfl) [_, _] ((Gives.nilown _ 5 1).trans (Gives.pick [1, 0] (by decide) rfl)) rfl ⟨⟨6#8, 0, nilr, zeroO, BitVec.ofInt 64 (s : Int)⟩, r', rfl, rfl, hv, rfl, Nat.zero_le _, rfl⟩
end
theorem publish_fn (b n : Nat) {A : Option Addr} {l : List B8} (r : Rd A l) : Fn Tryz.prog 73 [.pointer (some ⟨b, 0, none⟩)] [r.blk b n, .ro A l.length 1 (bvs l)] [b] (RowP (A := A) (l := l) b n (publishQ r.v)) := by
  refine fn_enter Tryz.func73 rfl rfl (by kernel_rfl) rfl ?_
  intro w0
  repeat (first | refine wz ?_ | (refine wzb ?_; intro b_) | fail)
  exact bq_ret (ret_cell (E := EV) 0 rfl rfl rfl rfl (fun _ => Nat.le_of_ble_eq_true rfl) rfl) [_, _] ((Gives.nilown _ 5 1).trans (Gives.pick [2, 0] (by decide) rfl)) rfl ⟨⟨5#8, 0, nilr, zeroO, 0#64⟩, r, rfl, rfl, rfl, rfl, Nat.zero_le _, rfl⟩
theorem vacuum_fn (b n : Nat) {A : Option Addr} {l : List B8} (r : Rd A l) : Fn Tryz.prog 75 [.pointer (some ⟨b, 0, none⟩)] [r.blk b n, .ro A l.length 1 (bvs l)] [b] (RowP (A := A) (l := l) b n (vacuumQ r.v)) := by
  refine fn_enter Tryz.func75 rfl rfl (by kernel_rfl) rfl ?_
  intro w0
  repeat (first | refine wz ?_ | (refine wzb ?_; intro b_) | fail)
  exact bq_ret (ret_cell (E := EV) 0 rfl rfl rfl rfl (fun _ => Nat.le_of_ble_eq_true rfl) rfl) [_, _] ((Gives.nilown _ 5 1).trans (Gives.pick [2, 0] (by decide) rfl)) rfl ⟨⟨7#8, 0, nilr, zeroO, 0#64⟩, r, rfl, rfl, rfl, rfl, Nat.zero_le _, rfl⟩
end Go.Proofs.YtmochicneilhhaaGreat.sc
