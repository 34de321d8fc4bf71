/- scripts: the writer. -/
import Derived.Test.YtmochicneilhhaaGreatPEb
import Derived.Test.YtmochicneilhhaaGreatPGo
import Derived.Test.YtmochicneilhhaaGreatPQtc
import Derived.Test.YtmochicneilhhaaGreatPTm
namespace Go.Proofs.YtmochicneilhhaaGreat.sc
open Go.RowKit Go.Proofs.YtmochicneilhhaaGreat.kit Go.Proofs.YtmochicneilhhaaGreat.pk Go.Proofs.YtmochicneilhhaaGreat.rq Go.Proofs.YtmochicneilhhaaGreat.ev Go.Proofs.YtmochicneilhhaaGreat.win
/-- what a writer has put, and whether it may not be -/
abbrev Wt := List B8 × Bool
abbrev wrB (bw : Nat) (A : Option Addr) (c : Nat) (w : Wt) : List Ck := [.blk bw [.slice A w.1.length c, .bool w.2] 109, .own A w.1.length c 5 1 (bvs w.1)]
abbrev wD (bw : Nat) (A : Option Addr) : List Nat := bw :: (A.map (·.block)).toList
def WP (bw : Nat) (w : Wt) (v : Value) (Lo : List Ck) : Prop := ∃ A c, v = .tuple #[] ∧ Lo = wrB bw A c w
theorem allD_bd (b : Nat) (u : Bool) (A : Option Addr) (m c : Nat) (T : TypeId) (xs : List Value) : AllD (wD b A) [.blk b [.slice A m c, .bool u] 109, .own A m c T 1 xs] :=
  ⟨List.mem_cons_self .., fun _ hg => List.mem_cons_of_mem _ (Option.mem_toList.2 hg), trivial⟩
theorem onD_bd (b : Nat) (u : Bool) (A : Option Addr) (m c : Nat) (T : TypeId) (xs : List Value) : ∀ g ∈ wD b A, ∃ k ∈ [Ck.blk b [.slice A m c, .bool u] 109, .own A m c T 1 xs], k.mut_ = true ∧ k.on g := fun g hg => by
  rcases List.mem_cons.1 hg with rfl | hg
  · exact ⟨_, List.mem_cons_self .., rfl, rfl⟩
  · exact ⟨_, List.mem_cons_of_mem _ (List.mem_cons_self ..), rfl, Option.mem_toList.1 hg⟩
def wput (n b : Int) (w : Wt) : Wt := (w.1 ++ [BitVec.ofInt 8 n], (w.2 || decide (n < 0)) || decide (n ≥ b))
def wsmall (n : Int) (w : Wt) : Wt := (w.1 ++ [BitVec.ofInt 8 n], w.2 || (n != IntKind.i64.wrap (IntKind.i8.wrap n)))
def wletter (s : List B8) (w : Wt) : Wt := match s with
  | [x] => wput ((x.toNat : Int) - 97) 4 w
  | _ => (w.1, true)
def wedge (s : List B8) (w : Wt) : Wt := if s = [] then wput 4 5 w else wletter s w
def wnumber (n : BitVec 64) (b : Nat) (w : Wt) : Wt := wput (min n.toNat b : Nat) b w
def wpanes (r : RQ) (w : Wt) : Wt :=
  let w1 := wput ((r.so.toNat : Int) - 1) 3 w
  if r.so = 1#8 then wsmall r.ls (wletter r.ky w1) else if r.so = 2#8 then wedge r.to_ (wedge r.ky w1) else wsmall r.ms (wsmall r.ls w1)
theorem wput_len (n b : Int) (w : Wt) : (wput n b w).1.length = w.1.length + 1 := by simp [wput]
theorem wsmall_len (n : Int) (w : Wt) : (wsmall n w).1.length = w.1.length + 1 := by simp [wsmall]
theorem wletter_len (s : List B8) (w : Wt) : (wletter s w).1.length ≤ w.1.length + 1 := by
  unfold wletter
  split
  · rw [wput_len]; omega
  · dsimp only; omega
theorem wedge_len (s : List B8) (w : Wt) : (wedge s w).1.length ≤ w.1.length + 1 := by
  unfold wedge
  split
  · rw [wput_len]; omega
  · exact wletter_len s w
theorem wpanes_len (r : RQ) (w : Wt) : (wpanes r w).1.length ≤ w.1.length + 3 := by
  unfold wpanes
  dsimp only
  have h1 := wput_len ((r.so.toNat : Int) - 1) 3 w
  have h2 := wletter_len r.ky (wput ((r.so.toNat : Int) - 1) 3 w)
  have h3 := wedge_len r.ky (wput ((r.so.toNat : Int) - 1) 3 w)
  have h4 := wedge_len r.to_ (wedge r.ky (wput ((r.so.toNat : Int) - 1) 3 w))
  split
  · rw [wsmall_len]; omega
  · split
    · omega
    · rw [wsmall_len, wsmall_len]; omega
attribute [local irreducible] LX CX Yl Gives RetIs Fn
attribute [local irreducible] be de fr.frm
section
variable (bw : Nat) (A : Option Addr) (c : Nat) (w : Wt) (hw : w.1.length ≤ 10000000000000)
include hw
theorem wput_fn (n b : Int) : Fn Tryz.prog 90 [.pointer (some ⟨bw, 0, none⟩), .int .i64 n, .int .i64 b] (wrB bw A c w) (wD bw A) (WP bw (wput n b w)) := by
  obtain ⟨u, bad⟩ := w
  dsimp only at hw
  unfold wput
  refine fn_enter Tryz.func90 rfl rfl (by kernel_rfl) rfl ?_
  intro w0
  repeat (first | ((first | (apply lx_u; exact rfl) | (apply lx_g; exact rfl; exact rfl)); first | (apply isy_convert; exact q_ci uk8 rfl rfl rfl) | fail) | (refine isx_blt ?_; refine lx_appB (E := EV) 2 u [BitVec.ofInt 8 n] rfl rfl rfl rfl rfl rfl rfl rfl rfl rfl rfl rfl rfl (fun w hm => row_blk 0 rfl rfl hm) (by simp only [List.length_append, pk.be_len, pk.txt_len, List.length_cons, List.length_nil]; omega) (fun _ _ _ => trivial) ?_; intro A_ c_) | refine wz ?_ | (refine wzb ?_; intro b_) | fail)
  exact bq_end (ret_none rfl) [_, _] (Gives.pick [1, 2] (by decide) rfl) rfl ⟨_, _, rfl, rfl⟩
theorem wsmall_fn (n : Int) : Fn Tryz.prog 118 [.pointer (some ⟨bw, 0, none⟩), .int .i64 n] (wrB bw A c w) (wD bw A) (WP bw (wsmall n w)) := by
  obtain ⟨u, bad⟩ := w
  dsimp only at hw
  unfold wsmall
  refine fn_enter Tryz.func118 rfl rfl (by kernel_rfl) rfl ?_
  intro w0
  repeat (first | ((first | (apply lx_u; exact rfl) | (apply lx_g; exact rfl; exact rfl)); first | (apply isy_convert; exact q_ci uk8 rfl rfl rfl) | fail) | (refine isx_blt ?_; refine lx_appB (E := EV) 2 u [BitVec.ofInt 8 n] rfl rfl rfl rfl rfl rfl rfl rfl rfl rfl rfl rfl rfl (fun w hm => row_blk 0 rfl rfl hm) (by simp only [List.length_append, pk.be_len, pk.txt_len, List.length_cons, List.length_nil]; omega) (fun _ _ _ => trivial) ?_; intro A_ c_) | refine wz ?_ | (refine wzb ?_; intro b_) | fail)
  exact bq_end (ret_none rfl) [_, _] (Gives.pick [1, 2] (by decide) rfl) rfl ⟨_, _, rfl, rfl⟩
theorem wints_fn (n b : Int) (hn : -9223372036854775807 ≤ n ∧ n ≤ 9223372036854775807) : Fn Tryz.prog 89 [.pointer (some ⟨bw, 0, none⟩), .int .i64 n, .int .i64 b] (wrB bw A c w) (wD bw A) (WP bw (wput (n - 1) b w)) := by
  have h := wput_fn bw A c w hw (n - 1) b
  refine fn_enter Tryz.func89 rfl rfl (by kernel_rfl) rfl ?_
  intro w0
  repeat (first | (refine isx_call ?_; refine k_call (h) [0, 1] [0, 1] [] rfl rfl rfl rfl rfl rfl rfl rfl ?_ (hin := allD_bd _ _ _ _ _ _ _) (hD := onD_bd _ _ _ _ _ _ _); rintro v_ Lo_ ⟨A_, c_, rfl, rfl⟩) | refine wz ?_ | (refine wzb ?_; intro b_) | fail)
  exact bq_end (ret_none rfl) [_, _] (Gives.pick [0, 1] (by decide) rfl) rfl ⟨_, _, rfl, rfl⟩
theorem wletter_fn (s : List B8) : Fn Tryz.prog 119 [.pointer (some ⟨bw, 0, none⟩), .string (sb s)] (wrB bw A c w) (wD bw A) (WP bw (wletter s w)) := by
  by_cases h1 : s.length = 1
  · match s, h1 with
    | [x], _ =>
      have hx := x.isLt
      have h := wput_fn bw A c w hw ((x.toNat : Int) - 97) 4
      unfold wletter
      refine fn_enter Tryz.func119 rfl rfl (by kernel_rfl) rfl ?_; intro w0
      repeat (first | ((first | (apply lx_u; exact rfl) | (apply lx_g; exact rfl; exact rfl)); first | (apply isy_blt; exact q_slen rfl rfl) | fail) | refine wz ?_ | (refine wzb ?_; intro b_) | fail)
      refine cx_cond rfl (fun h => absurd h (by simp)) (fun _ => ?_)
      repeat (first | ((first | (apply lx_u; exact rfl) | (apply lx_g; exact rfl; exact rfl)); first | (apply isy_index; exact q_sat rfl rfl rfl (fun _ => ⟨Int.le_refl 0, rfl⟩)) | (apply isy_convert; exact q_cn rfl rfl rfl) | fail) | (refine isx_call ?_; refine k_call (h) [0, 1] [0, 1] [] rfl rfl rfl rfl rfl rfl rfl rfl ?_ (hin := allD_bd _ _ _ _ _ _ _) (hD := onD_bd _ _ _ _ _ _ _); rintro v_ Lo_ ⟨A_, c_, rfl, rfl⟩) | refine wz ?_ | (refine wzb ?_; intro b_) | fail)
      exact bq_end (ret_none rfl) [_, _] (Gives.pick [0, 1] (by decide) rfl) rfl ⟨_, _, rfl, rfl⟩
  · have hq : wletter s w = (w.1, true) := by
      unfold wletter
      split
      · exact absurd rfl h1
      · rfl
    rw [hq]
    have hne : ((s.length : Int) != 1) = true := by simp; omega
    refine fn_enter Tryz.func119 rfl rfl (by kernel_rfl) rfl ?_; intro w0
    repeat (first | ((first | (apply lx_gt; exact rfl; exact rfl; exact rfl) | (apply lx_u; exact rfl) | (apply lx_g; exact rfl; exact rfl)); first | (apply isy_blt; exact q_slen rfl rfl) | (apply isy_bin_neq; exact yl_true (yl_op (E := EV) rfl) (fun _ => hne)) | fail) | refine wzf ?_ | (refine wzb ?_; intro b_) | fail)
    refine cx_cond rfl (fun _ => ?_) (fun h => absurd h (by decide))
    repeat (first | refine wz ?_ | (refine wzb ?_; intro b_) | fail)
    exact bq_end (ret_none rfl) [_, _] (Gives.pick [0, 1] (by decide) rfl) rfl ⟨_, _, rfl, rfl⟩
theorem wedge_fn (s : List B8) : Fn Tryz.prog 162 [.pointer (some ⟨bw, 0, none⟩), .string (sb s)] (wrB bw A c w) (wD bw A) (WP bw (wedge s w)) := by
  unfold wedge
  by_cases h1 : s = []
  · rw [if_pos h1]
    have h := wput_fn bw A c w hw 4 5
    have he : (s == []) = true := by rw [h1]; rfl
    refine fn_enter Tryz.func162 rfl rfl (by kernel_rfl) rfl ?_; intro w0
    repeat (first | ((first | (apply lx_gt; exact rfl; exact rfl; exact rfl) | (apply lx_u; exact rfl) | (apply lx_g; exact rfl; exact rfl)); first | (apply isy_bin_eql; exact yl_true (q_seq s [] rfl rfl) (fun _ => he)) | fail) | refine wzf ?_ | (refine wzb ?_; intro b_) | fail)
    refine cx_cond rfl (fun _ => ?_) (fun h => absurd h (by decide))
    repeat (first | (refine isx_call ?_; refine k_call (h) [0, 1] [0, 1] [] rfl rfl rfl rfl rfl rfl rfl rfl ?_ (hin := allD_bd _ _ _ _ _ _ _) (hD := onD_bd _ _ _ _ _ _ _); rintro v_ Lo_ ⟨A_, c_, rfl, rfl⟩) | refine wz ?_ | (refine wzb ?_; intro b_) | fail)
    exact bq_end (ret_none rfl) [_, _] (Gives.pick [0, 1] (by decide) rfl) rfl ⟨_, _, rfl, rfl⟩
  · rw [if_neg h1]
    have h := wletter_fn bw A c w hw s
    have he : (s == []) = false := by rw [beq_eq_false_iff_ne]; exact h1
    refine fn_enter Tryz.func162 rfl rfl (by kernel_rfl) rfl ?_; intro w0
    repeat (first | ((first | (apply lx_gt; exact rfl; exact rfl; exact rfl) | (apply lx_u; exact rfl) | (apply lx_g; exact rfl; exact rfl)); first | (apply isy_bin_eql; exact yl_false (q_seq s [] rfl rfl) (fun _ => he)) | fail) | refine wzf ?_ | (refine wzb ?_; intro b_) | fail)
    refine cx_cond rfl (fun h => absurd h (by decide)) (fun _ => ?_)
    repeat (first | (refine isx_call ?_; refine k_call (h) [0, 1] [0, 1] [] rfl rfl rfl rfl rfl rfl rfl rfl ?_ (hin := allD_bd _ _ _ _ _ _ _) (hD := onD_bd _ _ _ _ _ _ _); rintro v_ Lo_ ⟨A_, c_, rfl, rfl⟩) | refine wz ?_ | (refine wzb ?_; intro b_) | fail)
    exact bq_end (ret_none rfl) [_, _] (Gives.pick [0, 1] (by decide) rfl) rfl ⟨_, _, rfl, rfl⟩
theorem wnumber_fn (n : BitVec 64) (b : Nat) (hb : b ≤ 1000) : Fn Tryz.prog 94 [.pointer (some ⟨bw, 0, none⟩), .int .u64 n.toNat, .int .u64 b] (wrB bw A c w) (wD bw A) (WP bw (wnumber n b w)) := by
  unfold wnumber
  have h := wput_fn bw A c w hw (min n.toNat b : Nat) b
  have hm : (if (b : Int) < (n.toNat : Nat) then (b : Int) else (n.toNat : Nat)) = (min n.toNat b : Nat) := by split <;> omega
  have hmb : min n.toNat b ≤ b := Nat.min_le_right _ _
  generalize min n.toNat b = m at *
  refine fn_enter Tryz.func94 rfl rfl (by kernel_rfl) rfl ?_
  intro w0
  repeat (first | ((first | (apply lx_u; exact rfl) | (apply lx_g; exact rfl; exact rfl)); first | (apply isy_blt; exact yl_eq (yl_op (E := EV) rfl) (fun _ => congrArg (Value.int .u64) hm)) | (apply isy_convert; exact q_cn rfl rfl rfl) | fail) | (refine isx_call ?_; refine k_call (h) [0, 1] [0, 1] [] rfl rfl rfl rfl rfl rfl rfl rfl ?_ (hin := allD_bd _ _ _ _ _ _ _) (hD := onD_bd _ _ _ _ _ _ _); rintro v_ Lo_ ⟨A_, c_, rfl, rfl⟩) | refine wz ?_ | (refine wzb ?_; intro b_) | fail)
  exact bq_end (ret_none rfl) [_, _] (Gives.pick [0, 1] (by decide) rfl) rfl ⟨_, _, rfl, rfl⟩
set_option maxRecDepth 100000 in
set_option maxHeartbeats 4000000 in
theorem wpanes_fn (r : RQ) (hw' : w.1.length ≤ 9000000000000) : Fn Tryz.prog 141 [.pointer (some ⟨bw, 0, none⟩), r.val] (wrB bw A c w) (wD bw A) (WP bw (wpanes r w)) := by
  have h1 := wput_fn bw A c w hw ((r.so.toNat : Int) - 1) 3
  have hso := r.so.isLt
  have l1 := wput_len ((r.so.toNat : Int) - 1) 3 w
  unfold wpanes
  dsimp only
  generalize wput ((r.so.toNat : Int) - 1) 3 w = w1 at *
  by_cases e1 : r.so = 1#8
  · rw [if_pos e1]
    have g1 : (r.so == 1#8) = true := by rw [e1]; rfl
    have l2 := wletter_len r.ky w1
    refine fn_enter Tryz.func141 rfl rfl (by kernel_rfl) rfl ?_; intro w0
    repeat (first | ((first | (apply lx_gt; exact rfl; exact rfl; exact rfl) | (apply lx_u; exact rfl) | (apply lx_g; exact rfl; exact rfl)); first | (apply isy_convert; exact q_cn rfl rfl rfl) | (apply isy_bin_eql; exact yl_true (q_beq r.so 1#8 rfl rfl rfl rfl) (fun _ => g1)) | fail) | (refine isx_call ?_; refine k_call (h1) [1, 2] [1, 2] [0] rfl rfl rfl rfl rfl rfl rfl rfl ?_ (hin := allD_bd _ _ _ _ _ _ _) (hD := onD_bd _ _ _ _ _ _ _); rintro v_ Lo_ ⟨A_, c_, rfl, rfl⟩) | refine wzf ?_ | (refine wzb ?_; intro b_) | fail)
    refine cx_cond rfl (fun _ => ?_) (fun h => absurd h (by decide))
    repeat (first | (refine isx_call ?_; refine k_call (wletter_fn bw A_ c_ w1 (by omega) r.ky) [0, 1] [0, 1] [2] rfl rfl rfl rfl rfl rfl rfl rfl ?_ (hin := allD_bd _ _ _ _ _ _ _) (hD := onD_bd _ _ _ _ _ _ _); rintro v_ Lo_ ⟨A_, c_, rfl, rfl⟩) | refine wz ?_ | (refine wzb ?_; intro b_) | fail)
    generalize wletter r.ky w1 = w2 at *
    repeat (first | (refine isx_call ?_; refine k_call (wsmall_fn bw A_ c_ w2 (by omega) r.ls) [0, 1] [0, 1] [2] rfl rfl rfl rfl rfl rfl rfl rfl ?_ (hin := allD_bd _ _ _ _ _ _ _) (hD := onD_bd _ _ _ _ _ _ _); rintro v_ Lo_ ⟨A_, c_, rfl, rfl⟩) | refine wz ?_ | (refine wzb ?_; intro b_) | fail)
    exact bq_end (ret_none rfl) [_, _] (Gives.pick [0, 1] (by decide) rfl) rfl ⟨_, _, rfl, rfl⟩
  rw [if_neg e1]
  have g1 : (r.so == 1#8) = false := by rw [beq_eq_false_iff_ne]; exact e1
  by_cases e2 : r.so = 2#8
  · rw [if_pos e2]
    have g2 : (r.so == 2#8) = true := by rw [e2]; rfl
    have l2 := wedge_len r.ky w1
    refine fn_enter Tryz.func141 rfl rfl (by kernel_rfl) rfl ?_; intro w0
    repeat (first | ((first | (apply lx_gt; exact rfl; exact rfl; exact rfl) | (apply lx_u; exact rfl) | (apply lx_g; exact rfl; exact rfl)); first | (apply isy_convert; exact q_cn rfl rfl rfl) | (apply isy_bin_eql; exact yl_false (q_beq r.so 1#8 rfl rfl rfl rfl) (fun _ => g1)) | fail) | (refine isx_call ?_; refine k_call (h1) [1, 2] [1, 2] [0] rfl rfl rfl rfl rfl rfl rfl rfl ?_ (hin := allD_bd _ _ _ _ _ _ _) (hD := onD_bd _ _ _ _ _ _ _); rintro v_ Lo_ ⟨A_, c_, rfl, rfl⟩) | refine wzf ?_ | (refine wzb ?_; intro b_) | fail)
    refine cx_cond rfl (fun h => absurd h (by decide)) (fun _ => ?_)
    repeat (first | ((first | (apply lx_gt; exact rfl; exact rfl; exact rfl) | (apply lx_u; exact rfl) | (apply lx_g; exact rfl; exact rfl)); first | (apply isy_bin_eql; exact yl_true (q_beq r.so 2#8 rfl rfl rfl rfl) (fun _ => g2)) | fail) | refine wzf ?_ | (refine wzb ?_; intro b_) | fail)
    refine cx_cond rfl (fun _ => ?_) (fun h => absurd h (by decide))
    repeat (first | (refine isx_call ?_; refine k_call (wedge_fn bw A_ c_ w1 (by omega) r.ky) [0, 1] [0, 1] [2] rfl rfl rfl rfl rfl rfl rfl rfl ?_ (hin := allD_bd _ _ _ _ _ _ _) (hD := onD_bd _ _ _ _ _ _ _); rintro v_ Lo_ ⟨A_, c_, rfl, rfl⟩) | refine wz ?_ | (refine wzb ?_; intro b_) | fail)
    generalize wedge r.ky w1 = w2 at *
    repeat (first | (refine isx_call ?_; refine k_call (wedge_fn bw A_ c_ w2 (by omega) r.to_) [0, 1] [0, 1] [2] rfl rfl rfl rfl rfl rfl rfl rfl ?_ (hin := allD_bd _ _ _ _ _ _ _) (hD := onD_bd _ _ _ _ _ _ _); rintro v_ Lo_ ⟨A_, c_, rfl, rfl⟩) | refine wz ?_ | (refine wzb ?_; intro b_) | fail)
    exact bq_end (ret_none rfl) [_, _] (Gives.pick [0, 1] (by decide) rfl) rfl ⟨_, _, rfl, rfl⟩
  · rw [if_neg e2]
    have g2 : (r.so == 2#8) = false := by rw [beq_eq_false_iff_ne]; exact e2
    have l2 := wsmall_len r.ls w1
    refine fn_enter Tryz.func141 rfl rfl (by kernel_rfl) rfl ?_; intro w0
    repeat (first | ((first | (apply lx_gt; exact rfl; exact rfl; exact rfl) | (apply lx_u; exact rfl) | (apply lx_g; exact rfl; exact rfl)); first | (apply isy_convert; exact q_cn rfl rfl rfl) | (apply isy_bin_eql; exact yl_false (q_beq r.so 1#8 rfl rfl rfl rfl) (fun _ => g1)) | fail) | (refine isx_call ?_; refine k_call (h1) [1, 2] [1, 2] [0] rfl rfl rfl rfl rfl rfl rfl rfl ?_ (hin := allD_bd _ _ _ _ _ _ _) (hD := onD_bd _ _ _ _ _ _ _); rintro v_ Lo_ ⟨A_, c_, rfl, rfl⟩) | refine wzf ?_ | (refine wzb ?_; intro b_) | fail)
    refine cx_cond rfl (fun h => absurd h (by decide)) (fun _ => ?_)
    repeat (first | ((first | (apply lx_gt; exact rfl; exact rfl; exact rfl) | (apply lx_u; exact rfl) | (apply lx_g; exact rfl; exact rfl)); first | (apply isy_bin_eql; exact yl_false (q_beq r.so 2#8 rfl rfl rfl rfl) (fun _ => g2)) | fail) | refine wzf ?_ | (refine wzb ?_; intro b_) | fail)
    refine cx_cond rfl (fun h => absurd h (by decide)) (fun _ => ?_)
    repeat (first | (refine isx_call ?_; refine k_call (wsmall_fn bw A_ c_ w1 (by omega) r.ls) [0, 1] [0, 1] [2] rfl rfl rfl rfl rfl rfl rfl rfl ?_ (hin := allD_bd _ _ _ _ _ _ _) (hD := onD_bd _ _ _ _ _ _ _); rintro v_ Lo_ ⟨A_, c_, rfl, rfl⟩) | refine wz ?_ | (refine wzb ?_; intro b_) | fail)
    generalize wsmall r.ls w1 = w2 at *
    repeat (first | (refine isx_call ?_; refine k_call (wsmall_fn bw A_ c_ w2 (by omega) r.ms) [0, 1] [0, 1] [2] rfl rfl rfl rfl rfl rfl rfl rfl ?_ (hin := allD_bd _ _ _ _ _ _ _) (hD := onD_bd _ _ _ _ _ _ _); rintro v_ Lo_ ⟨A_, c_, rfl, rfl⟩) | refine wz ?_ | (refine wzb ?_; intro b_) | fail)
    exact bq_end (ret_none rfl) [_, _] (Gives.pick [0, 1] (by decide) rfl) rfl ⟨_, _, rfl, rfl⟩
end
/-- one part of a request, put -/
def wpart (r : RQ) (w : Wt) : Pt → Wt
  | .a => wnumber r.at_ 16 w
  | .l => wnumber r.le 16 w
  | .p => wput (r.pg.toNat : Nat) 65 w
  | .d => wput (if r.k = 6#8 then (r.du.toNat : Int) else (r.du.toNat : Int) - 1) 256 w
  | .w => wpanes r w
def wreq (r : RQ) (w : Wt) : Wt := (pts r.k).foldl (wpart r) (wput (r.id.toNat : Nat) 256 (wput ((r.k.toNat : Int) - 1) 8 w))
theorem wpart_len (r : RQ) (w : Wt) (q : Pt) : (wpart r w q).1.length ≤ w.1.length + 3 := by
  cases q
  · show (wput _ _ w).1.length ≤ _; rw [wput_len]; omega
  · show (wput _ _ w).1.length ≤ _; rw [wput_len]; omega
  · show (wput _ _ w).1.length ≤ _; rw [wput_len]; omega
  · show (wput _ _ w).1.length ≤ _; rw [wput_len]; omega
  · exact wpanes_len r w
theorem wparts_len (r : RQ) : ∀ (ps : List Pt) (w : Wt), (ps.foldl (wpart r) w).1.length ≤ w.1.length + 3 * ps.length
  | [], _ => Nat.le_refl _
  | q :: ps, w => by
    have h1 := wpart_len r w q
    have h2 := wparts_len r ps (wpart r w q)
    rw [List.foldl_cons, List.length_cons]
    omega
theorem wreq_len (r : RQ) (w : Wt) : (wreq r w).1.length ≤ w.1.length + 11 := by
  have h := wparts_len r (pts r.k) (wput (r.id.toNat : Nat) 256 (wput ((r.k.toNat : Int) - 1) 8 w))
  have := pts_len r.k
  rw [wput_len, wput_len] at h
  unfold wreq
  omega
set_option maxRecDepth 100000 in
set_option maxHeartbeats 8000000 in
theorem wreq_fn (bw : Nat) (A : Option Addr) (c : Nat) (w : Wt) (hw : w.1.length ≤ 8000000000000) (r : RQ) (hk : r.k.toNat ≤ 8) : Fn Tryz.prog 117 [.pointer (some ⟨bw, 0, none⟩), r.val] (wrB bw A c w) (wD bw A) (WP bw (wreq r w)) := by
  have h1 := wput_fn bw A c w (by omega) ((r.k.toNat : Int) - 1) 8
  have hkl := r.k.isLt
  have hid := r.id.isLt
  have hpp := parts_names r.k hk
  have hnl : (names r.k).length = (pts r.k).length := List.length_map ..
  have hp3 := pts_len r.k
  have l1 := wput_len ((r.k.toNat : Int) - 1) 8 w
  have l2 := wput_len (r.id.toNat : Nat) 256 (wput ((r.k.toNat : Int) - 1) 8 w)
  unfold wreq
  generalize hw1 : wput ((r.k.toNat : Int) - 1) 8 w = w1 at *
  have h2 := fun A' c' => wput_fn bw A' c' w1 (by omega) (r.id.toNat : Nat) 256
  generalize wput (r.id.toNat : Nat) 256 w1 = w2 at *
  refine fn_enter Tryz.func117 rfl rfl (by kernel_rfl) rfl ?_
  intro w0
  repeat (first | ((first | (apply lx_u; exact rfl) | (apply lx_g; exact rfl; exact rfl)); first | (apply isy_convert; exact q_cn rfl rfl rfl) | fail) | (refine isx_call ?_; refine k_call (h1) [1, 2] [1, 2] [0] rfl rfl rfl rfl rfl rfl rfl rfl ?_ (hin := allD_bd _ _ _ _ _ _ _) (hD := onD_bd _ _ _ _ _ _ _); rintro v_ Lo_ ⟨A_, c_, rfl, rfl⟩) | (refine isx_call ?_; refine k_call ((h2 _ _)) [0, 1] [0, 1] [2] rfl rfl rfl rfl rfl rfl rfl rfl ?_ (hin := allD_bd _ _ _ _ _ _ _) (hD := onD_bd _ _ _ _ _ _ _); rintro v_ Lo_ ⟨A_, c_, rfl, rfl⟩) | (refine isx_call ?_; refine k_gcall (hpp) (fun _ hm => in_nil hm) rfl rfl rfl rfl rfl rfl ?_) | (refine isx_range ?_; refine lx_range (E := EV) rfl rfl rfl rfl rfl rfl rfl (fun _ _ => trivial) ?_; intro bi) | refine wz ?_ | (refine wzb ?_; intro b_) | fail)
  generalize b_ = b3
  refine cx_loop (α := { x : Nat × Option Addr × Nat // x.1 ≤ (pts r.k).length }) (fun x => [(0, none, .pointer (some ⟨bw, 0, none⟩)), (3, none, .pointer (some ⟨b3, 0, none⟩)), (21, none, .pointer (some ⟨bi, 0, none⟩))])
    (fun x => .obj bi (.stringIter (sb (names r.k)) x.1.1) :: (wrB bw x.1.2.1 x.1.2.2 (((pts r.k).take x.1.1).foldl (wpart r) w2) ++ [.blk b3 r.cells 52])) (fun x => (pts r.k).length - x.1.1) ⟨(0, A_, c_), Nat.zero_le _⟩ ⟨rfl, rfl, rfl, trivial⟩ (Gives.refl _) ?_
  rintro ⟨⟨i, A2, c2⟩, hi⟩
  dsimp only at hi ⊢
  have hls := wparts_len r ((pts r.k).take i) w2
  rw [List.length_take] at hls
  generalize hs : ((pts r.k).take i).foldl (wpart r) w2 = s1 at *
  have hsl : s1.1.length ≤ 8500000000000 := by omega
  by_cases hlt : i < (pts r.k).length
  · obtain ⟨q, hq⟩ : ∃ q, (pts r.k)[i]? = some q := ⟨_, List.getElem?_eq_getElem hlt⟩
    have hx := dec_ascii (names_get hq) (ltr_lt q)
    have hsz : i < (sb (names r.k)).size := by rw [sb_size, hnl]; exact hlt
    have hnx : ((pts r.k).take (i + 1)).foldl (wpart r) w2 = wpart r s1 q := by rw [List.take_add_one, hq, List.foldl_append, hs]; rfl
    repeat (first | (refine isx_next ?_; refine lx_next 0 rfl rfl rfl rfl rfl rfl rfl hsz hx (fun _ => trivial) ?_) | refine wz ?_ | (refine wzb ?_; intro b_) | fail)
    refine cx_cond rfl (fun _ => ?_) (fun h => absurd h (by decide))
    cases q
    · skip
      repeat (first | refine wz ?_ | (refine wzb ?_; intro b_) | fail)
      refine cx_cond rfl (fun _ => ?_) (fun h => absurd h (by decide))
      repeat (first | (refine isx_call ?_; refine k_call (wnumber_fn bw A2 c2 s1 (by omega) r.at_ 16 (by decide)) [1, 2] [1, 2] [0, 3] rfl rfl rfl rfl rfl rfl rfl rfl ?_ (hin := allD_bd _ _ _ _ _ _ _) (hD := onD_bd _ _ _ _ _ _ _); rintro v_ Lo_ ⟨A_, c_, rfl, rfl⟩) | refine wz ?_ | (refine wzb ?_; intro b_) | fail)
      exact ⟨⟨(i + 1, A_, c_), hlt⟩, ⟨rfl, rfl, rfl, trivial⟩, by dsimp only; rw [hnx]; exact Gives.pick [2, 0, 1, 3] (by decide) rfl, by dsimp only; omega⟩
    · skip
      repeat (first | refine wz ?_ | (refine wzb ?_; intro b_) | fail)
      refine cx_cond rfl (fun h => absurd h (by decide)) (fun _ => ?_)
      repeat (first | refine wz ?_ | (refine wzb ?_; intro b_) | fail)
      refine cx_cond rfl (fun _ => ?_) (fun h => absurd h (by decide))
      repeat (first | (refine isx_call ?_; refine k_call (wnumber_fn bw A2 c2 s1 (by omega) r.le 16 (by decide)) [1, 2] [1, 2] [0, 3] rfl rfl rfl rfl rfl rfl rfl rfl ?_ (hin := allD_bd _ _ _ _ _ _ _) (hD := onD_bd _ _ _ _ _ _ _); rintro v_ Lo_ ⟨A_, c_, rfl, rfl⟩) | refine wz ?_ | (refine wzb ?_; intro b_) | fail)
      exact ⟨⟨(i + 1, A_, c_), hlt⟩, ⟨rfl, rfl, rfl, trivial⟩, by dsimp only; rw [hnx]; exact Gives.pick [2, 0, 1, 3] (by decide) rfl, by dsimp only; omega⟩
    · skip
      repeat (first | refine wz ?_ | (refine wzb ?_; intro b_) | fail)
      refine cx_cond rfl (fun h => absurd h (by decide)) (fun _ => ?_)
      repeat (first | refine wz ?_ | (refine wzb ?_; intro b_) | fail)
      refine cx_cond rfl (fun h => absurd h (by decide)) (fun _ => ?_)
      repeat (first | refine wz ?_ | (refine wzb ?_; intro b_) | fail)
      refine cx_cond rfl (fun _ => ?_) (fun h => absurd h (by decide))
      have hpg := r.pg.isLt
      repeat (first | ((first | (apply lx_u; exact rfl) | (apply lx_g; exact rfl; exact rfl)); first | (apply isy_convert; exact q_cn rfl rfl rfl) | fail) | (refine isx_call ?_; refine k_call (wput_fn bw A2 c2 s1 (by omega) (r.pg.toNat : Nat) 65) [1, 2] [1, 2] [0, 3] rfl rfl rfl rfl rfl rfl rfl rfl ?_ (hin := allD_bd _ _ _ _ _ _ _) (hD := onD_bd _ _ _ _ _ _ _); rintro v_ Lo_ ⟨A_, c_, rfl, rfl⟩) | refine wz ?_ | (refine wzb ?_; intro b_) | fail)
      exact ⟨⟨(i + 1, A_, c_), hlt⟩, ⟨rfl, rfl, rfl, trivial⟩, by dsimp only; rw [hnx]; exact Gives.pick [2, 0, 1, 3] (by decide) rfl, by dsimp only; omega⟩
    · skip
      repeat (first | refine wz ?_ | (refine wzb ?_; intro b_) | fail)
      refine cx_cond rfl (fun h => absurd h (by decide)) (fun _ => ?_)
      repeat (first | refine wz ?_ | (refine wzb ?_; intro b_) | fail)
      refine cx_cond rfl (fun h => absurd h (by decide)) (fun _ => ?_)
      repeat (first | refine wz ?_ | (refine wzb ?_; intro b_) | fail)
      refine cx_cond rfl (fun h => absurd h (by decide)) (fun _ => ?_)
      repeat (first | refine wz ?_ | (refine wzb ?_; intro b_) | fail)
      refine cx_cond rfl (fun _ => ?_) (fun h => absurd h (by decide))
      have hdu := r.du.isLt
      repeat (first | ((first | (apply lx_u; exact rfl) | (apply lx_g; exact rfl; exact rfl)); first | (apply isy_convert; exact q_cn rfl rfl rfl) | (apply isy_load; exact q_lv 3 rfl rfl rfl rfl rfl) | (apply isy_bin_neq; exact q_bne r.k 6#8 rfl rfl rfl rfl) | fail) | refine wz ?_ | (refine wzb ?_; intro b_) | fail)
      refine cx_cond rfl (fun h => ?_) (fun h => ?_)
      · have hk6 : r.k ≠ 6#8 := by simpa using h
        have hpd : wpart r s1 .d = wput ((r.du.toNat : Int) - 1) 256 s1 := by unfold wpart; dsimp only; rw [if_neg hk6]
        rw [hpd] at hnx
        repeat (first | (refine isx_call ?_; refine k_call (wput_fn bw A2 c2 s1 (by omega) ((r.du.toNat : Int) - 1) 256) [1, 2] [1, 2] [0, 3] rfl rfl rfl rfl rfl rfl rfl rfl ?_ (hin := allD_bd _ _ _ _ _ _ _) (hD := onD_bd _ _ _ _ _ _ _); rintro v_ Lo_ ⟨A_, c_, rfl, rfl⟩) | refine wz ?_ | (refine wzb ?_; intro b_) | fail)
        exact ⟨⟨(i + 1, A_, c_), hlt⟩, ⟨rfl, rfl, rfl, trivial⟩, by dsimp only; rw [hnx]; exact Gives.pick [2, 0, 1, 3] (by decide) rfl, by dsimp only; omega⟩
      · have hk6 : r.k = 6#8 := by simpa using h
        have hpd : wpart r s1 .d = wput (r.du.toNat : Int) 256 s1 := by unfold wpart; dsimp only; rw [if_pos hk6]
        rw [hpd] at hnx
        repeat (first | (refine isx_call ?_; refine k_call (wput_fn bw A2 c2 s1 (by omega) (r.du.toNat : Int) 256) [1, 2] [1, 2] [0, 3] rfl rfl rfl rfl rfl rfl rfl rfl ?_ (hin := allD_bd _ _ _ _ _ _ _) (hD := onD_bd _ _ _ _ _ _ _); rintro v_ Lo_ ⟨A_, c_, rfl, rfl⟩) | refine wz ?_ | (refine wzb ?_; intro b_) | fail)
        exact ⟨⟨(i + 1, A_, c_), hlt⟩, ⟨rfl, rfl, rfl, trivial⟩, by dsimp only; rw [hnx]; exact Gives.pick [2, 0, 1, 3] (by decide) rfl, by dsimp only; omega⟩
    · skip
      repeat (first | refine wz ?_ | (refine wzb ?_; intro b_) | fail)
      refine cx_cond rfl (fun h => absurd h (by decide)) (fun _ => ?_)
      repeat (first | refine wz ?_ | (refine wzb ?_; intro b_) | fail)
      refine cx_cond rfl (fun h => absurd h (by decide)) (fun _ => ?_)
      repeat (first | refine wz ?_ | (refine wzb ?_; intro b_) | fail)
      refine cx_cond rfl (fun h => absurd h (by decide)) (fun _ => ?_)
      repeat (first | refine wz ?_ | (refine wzb ?_; intro b_) | fail)
      refine cx_cond rfl (fun h => absurd h (by decide)) (fun _ => ?_)
      repeat (first | refine wz ?_ | (refine wzb ?_; intro b_) | fail)
      refine cx_cond rfl (fun _ => ?_) (fun h => absurd h (by decide))
      repeat (first | (refine isx_call ?_; refine k_call (wpanes_fn bw A2 c2 s1 (by omega) r (by omega)) [1, 2] [1, 2] [0, 3] rfl rfl rfl rfl rfl rfl rfl rfl ?_ (hin := allD_bd _ _ _ _ _ _ _) (hD := onD_bd _ _ _ _ _ _ _); rintro v_ Lo_ ⟨A_, c_, rfl, rfl⟩) | refine wz ?_ | (refine wzb ?_; intro b_) | fail)
      exact ⟨⟨(i + 1, A_, c_), hlt⟩, ⟨rfl, rfl, rfl, trivial⟩, by dsimp only; rw [hnx]; exact Gives.pick [2, 0, 1, 3] (by decide) rfl, by dsimp only; omega⟩
  · obtain rfl : i = (pts r.k).length := by omega
    have hsz : ¬ (pts r.k).length < (sb (names r.k)).size := by rw [sb_size, hnl]; exact Nat.lt_irrefl _
    rw [List.take_length] at hs
    repeat (first | (refine isx_next ?_; refine lx_nextEnd 0 rfl rfl rfl rfl rfl rfl rfl hsz ?_) | refine wz ?_ | (refine wzb ?_; intro b_) | fail)
    refine cx_cond rfl (fun h => absurd h (by decide)) (fun _ => ?_)
    repeat (first | refine wz ?_ | (refine wzb ?_; intro b_) | fail)
    exact bq_end (ret_none rfl) [_, _] (Gives.pick [1, 2] (by decide) rfl) rfl ⟨_, _, rfl, by rw [hs]⟩
end Go.Proofs.YtmochicneilhhaaGreat.sc
