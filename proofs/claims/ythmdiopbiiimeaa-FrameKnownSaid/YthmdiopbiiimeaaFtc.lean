/- frames: the chapter's examples; FramePuts; a stream that is not there; frames: what is told, as it is read; FrameTakes; frames: what is put is taken as it was; one digit another one: plainly; frames: FrameSpoilt. -/
import Derived.Test.YthmdiopbiiimeaaGo
import Derived.Test.YthmdiopbiiimeaaFta
import Derived.Test.YthmdiopbiiimeaaZa
import Derived.Test.YthmdiopbiiimeaaRd
import Derived.Test.YthmdiopbiiimeaaFtb
namespace Go.Proofs.Ythmdiopbiiimeaa.fr
open Go.RowKit Go.Proofs.Ythmdiopbiiimeaa.kit Go.Proofs.Ythmdiopbiiimeaa.pk Go.Proofs.Ythmdiopbiiimeaa.chk Go.Proofs.Ythmdiopbiiimeaa.crc
abbrev wa : List B8 := [0#8, 0#8, 0#8, 1#8, 97#8, 232#8, 183#8, 190#8, 67#8]
abbrev wo : List B8 := [0#8, 0#8, 0#8, 1#8, 98#8, 232#8, 183#8, 190#8, 67#8]
theorem wp0 : putR [] = (List.replicate 8 0#8, 0) := by decide +kernel
theorem wp1 : putR [97#8] = (wa, 0) := by decide +kernel
theorem wt0 : takeF wa 0 = ([97#8], 9, 0) := by decide +kernel
theorem wt1 : takeF (wa.take 8) 0 = ([], 0, 70) := by decide +kernel
theorem wt2 : takeF wo 0 = ([], 9, 72) := by decide +kernel
theorem wt3 : takeF [0#8, 0#8, 32#8, 1#8] 0 = ([], 0, 71) := by decide +kernel
theorem bvs_rep (m : Nat) (b : B8) : bvs (List.replicate m b) = List.replicate m (bv b) := by unfold bvs; rw [List.map_replicate]
theorem zeros_row {M : Me} {L : List Ck} {w : World} {b m : Nat} {T : TypeId} (k : Nat) (hk : L[k]? = some (.blk b (List.replicate m (.int .u8 0)) T)) (hm : Mem M L w) : Row w w.heap.size 1 (some ⟨b, 0, none⟩) m (bvs (List.replicate m 0#8)) := by
  rw [bvs_rep]
  exact row_blk k hk (by rw [List.length_replicate, Nat.mul_one]) hm
attribute [local irreducible] LX CX Yl Gives RetIs Fn
attribute [local irreducible] be de upd takeF num4 sum4 frm
theorem sameB_fn (A A' : Option Addr) (n c n' c' : Nat) (l l' : List B8) (hl : l.length = n) (hl' : l'.length = n') (hn : n ≤ 9223372036854775807) (hn' : n' ≤ 9223372036854775807) (he : l = l') :
    Fn Try.prog 13 [.slice A n c, .slice A' n' c'] [.ro A n 1 (bvs l), .ro A' n' 1 (bvs l')] [] fun v Lo => v = .bool true ∧ Lo = [] := by
  have := same_fn A A' n c n' c' l l' hl hl' hn hn'
  rwa [beq_iff_eq.2 he] at this
theorem takeV (A : Option Addr) (n c : Nat) (l : List B8) (at' : Int) (hl : l.length = n) (hc : n ≤ c ∧ c ≤ 9223372036854775807) (hn : n ≤ 1000000) (hat : -9223372036854775808 ≤ at' ∧ at' < 9223372036854775808) {bd : List B8} {nx e : Int} (h : takeF l at' = (bd, nx, e)) :
    Fn Try.prog 18 [.slice A n c, .int .i64 at'] [.ro A n 1 (bvs l)] [] fun v Lo => ∃ A' c', v = .tuple #[.slice A' bd.length c', .int .i64 nx, .int .i64 e] ∧ Lo = [.own A' bd.length c' 5 1 (bvs bd)] := by
  have := take_fn A n c l at' hl hc hn hat
  unfold TakeP at this
  rwa [h] at this
set_option maxHeartbeats 4000000 in
theorem works_fn : Fn Try.prog 10 [] [] [] fun v Lo => v = .bool true ∧ Lo = [] := by
  have p0 := put_fn none 0 0 [] rfl (by decide)
  have p1 := fun b => put_fn (some ⟨b, 0, none⟩) 1 1 [97#8] rfl (by decide)
  rw [wp0] at p0
  dsimp only at p0
  simp only [wp1] at p1
  have t0 := fun A c hc => takeV A 9 c wa 0 rfl hc (by decide) (by decide) wt0
  have t1 := fun A c hc => takeV A 8 c (wa.take 8) 0 rfl hc (by decide) (by decide) wt1
  have t2 := fun A c hc => takeV A 9 c wo 0 rfl hc (by decide) (by decide) wt2
  have t3 := fun A => takeV A 4 4 [0#8, 0#8, 32#8, 1#8] 0 rfl (by decide) (by decide) (by decide) wt3
  refine fn_enter Try.func10 rfl rfl (by kernel_rfl) rfl ?_
  intro w0
  repeat (first | refine lx_not rfl rfl rfl rfl ?_ | refine lx_notu rfl rfl rfl rfl rfl ?_ | (refine isG ?_; refine gT rfl rfl rfl ?_) | (refine isU ?_; refine gU rfl ?_) | (refine isG ?_; refine gG rfl rfl ?_) | (refine isx_call ?_; (refine isx_call ?_; refine lx_call0 (p0) ((fun w hm => in_ro (Row.nil (A := none)) (in_nil hm) rfl)) rfl rfl rfl rfl rfl rfl rfl rfl ?_; rintro v_ Lo_ ⟨A1, c1, rfl, rfl⟩)) | (refine lx_cvslice (E := EV) 0 rfl rfl rfl rfl rfl rfl rfl rfl rfl rfl (fun _ => trivial) ?_) | (refine isx_call ?_; (refine isx_call ?_; refine lx_call0 (p1 _) ((fun w hm => in_ro (row_ro 0 rfl hm) (in_nil hm) rfl)) rfl rfl rfl rfl rfl rfl rfl rfl ?_; rintro v_ Lo_ ⟨A2, c2, rfl, rfl⟩)) | (refine isx_box ?_; refine gB rfl rfl rfl rfl rfl rfl ?_; intro b_) | (refine isx_alloc ?_; refine gA rfl rfl rfl rfl rfl rfl rfl ?_; intro b_) | (refine isx_store ?_; refine gS 0 rfl rfl rfl rfl rfl rfl rfl rfl rfl rfl ?_) | (refine isx_store ?_; refine gS 1 rfl rfl rfl rfl rfl rfl rfl rfl rfl rfl ?_) | (refine isx_store ?_; refine gS 2 rfl rfl rfl rfl rfl rfl rfl rfl rfl rfl ?_) | (refine isx_store ?_; refine gS 3 rfl rfl rfl rfl rfl rfl rfl rfl rfl rfl ?_) | (refine isx_row ?_; refine lx_row (E := EV) rfl rfl rfl rfl rfl rfl rfl rfl rfl rfl rfl rfl rfl ?_; intro b_) | refine lx_nil ?_ | with_reducible refine tq_n ?_ | with_reducible refine tq_r ?_ | with_reducible refine tq_e ?_ | with_reducible refine bk_n ?_ | with_reducible refine bk_r ?_ | (with_reducible refine bk_e ?_ ?_; exact rfl) | (with_reducible refine bk_x ?_ ?_; exact rfl) | refine cx_seq ?_ | refine cx_region ?_ | refine cx_block ?_ | refine cx_ret ?_ | refine cx_skip ?_ | refine cx_exit ?_ | fail)
  repeat (first | refine lx_not rfl rfl rfl rfl ?_ | refine lx_notu rfl rfl rfl rfl rfl ?_ | ((first | (apply lx_gt; exact rfl; exact rfl; exact rfl) | (apply lx_u; exact rfl) | (apply lx_g; exact rfl; exact rfl)); first | (apply isy_bin_neq; exact yl_false (yl_op (E := EV) rfl) (fun _ => rfl)) | fail) | (refine isG ?_; refine gT rfl rfl rfl ?_) | (refine isU ?_; refine gU rfl ?_) | (refine isG ?_; refine gG rfl rfl ?_) | (refine isx_make ?_; (refine isx_make ?_; refine lx_make (E := EV) 8 rfl rfl rfl rfl rfl rfl rfl rfl rfl rfl rfl rfl rfl rfl (by decide) (by decide) ?_; intro b_)) | (refine isx_call ?_; refine lx_gcallt (sameB_fn A1 (some ⟨_, 0, none⟩) 8 c1 8 8 (List.replicate 8 0#8) (List.replicate 8 0#8) rfl rfl (by decide) (by decide) rfl) ((fun w hm => in_ro (row_own 3 rfl hm) (in_ro (zeros_row 0 rfl hm) (in_nil hm) rfl) rfl)) rfl rfl rfl rfl rfl rfl rfl ?_) | (refine isx_call ?_; refine lx_gcallt (sameB_fn A2 (some ⟨_, 0, none⟩) 9 c2 9 9 wa wa rfl rfl (by decide) (by decide) rfl) ((fun w hm => in_ro (row_own 2 rfl hm) (in_ro (row_blk 0 rfl rfl hm) (in_nil hm) rfl) rfl)) rfl rfl rfl rfl rfl rfl rfl ?_) | (refine isx_box ?_; refine gB rfl rfl rfl rfl rfl rfl ?_; intro b_) | (refine isx_alloc ?_; refine gA rfl rfl rfl rfl rfl rfl rfl ?_; intro b_) | (refine isx_store ?_; refine gS 0 rfl rfl rfl rfl rfl rfl rfl rfl rfl rfl ?_) | (refine isx_store ?_; refine gS 1 rfl rfl rfl rfl rfl rfl rfl rfl rfl rfl ?_) | (refine isx_store ?_; refine gS 2 rfl rfl rfl rfl rfl rfl rfl rfl rfl rfl ?_) | (refine isx_store ?_; refine gS 3 rfl rfl rfl rfl rfl rfl rfl rfl rfl rfl ?_) | (refine isx_row ?_; refine lx_row (E := EV) rfl rfl rfl rfl rfl rfl rfl rfl rfl rfl rfl rfl rfl ?_; intro b_) | refine lx_nil ?_ | with_reducible refine tq_n ?_ | with_reducible refine tq_r ?_ | with_reducible refine tq_e ?_ | with_reducible refine bk_n ?_ | with_reducible refine bk_r ?_ | (with_reducible refine bk_e ?_ ?_; exact rfl) | (with_reducible refine bk_x ?_ ?_; exact rfl) | refine cx_seq ?_ | refine cx_region ?_ | refine cx_block ?_ | refine cx_ret ?_ | refine cx_skip ?_ | refine cx_exit ?_ | fail)
  refine cx_cond rfl (fun h => absurd h (by decide)) (fun _ => ?_)
  refine cx_fact (fun w hm => own_cap 2 hm rfl) fun hc2 => ?_
  have hc2' : 9 ≤ c2 ∧ c2 ≤ 9223372036854775807 := hc2
  repeat (first | refine lx_not rfl rfl rfl rfl ?_ | refine lx_notu rfl rfl rfl rfl rfl ?_ | ((first | (apply lx_gt; exact rfl; exact rfl; exact rfl) | (apply lx_u; exact rfl) | (apply lx_g; exact rfl; exact rfl)); first | (apply isy_slice; exact q_slh rfl rfl rfl rfl) | fail) | (refine isG ?_; refine gT rfl rfl rfl ?_) | (refine isU ?_; refine gU rfl ?_) | (refine isG ?_; refine gG rfl rfl ?_) | (refine isx_call ?_; (refine isx_call ?_; refine lx_call0 (t0 A2 c2 hc2') ((fun w hm => in_ro (row_own 2 rfl hm) (in_nil hm) rfl)) rfl rfl rfl rfl rfl rfl rfl rfl ?_; rintro v_ Lo_ ⟨A3, c3, rfl, rfl⟩)) | (refine isx_call ?_; (refine isx_call ?_; refine lx_call0 (t1 A2 c2 (by omega)) ((fun w hm => in_ro (Row.preb (row_own 3 rfl hm) (by decide)) (in_nil hm) rfl)) rfl rfl rfl rfl rfl rfl rfl rfl ?_; rintro v_ Lo_ ⟨A4, c4, rfl, rfl⟩)) | (refine isx_box ?_; refine gB rfl rfl rfl rfl rfl rfl ?_; intro b_) | (refine isx_alloc ?_; refine gA rfl rfl rfl rfl rfl rfl rfl ?_; intro b_) | (refine isx_store ?_; refine gS 0 rfl rfl rfl rfl rfl rfl rfl rfl rfl rfl ?_) | (refine isx_store ?_; refine gS 1 rfl rfl rfl rfl rfl rfl rfl rfl rfl rfl ?_) | (refine isx_store ?_; refine gS 2 rfl rfl rfl rfl rfl rfl rfl rfl rfl rfl ?_) | (refine isx_store ?_; refine gS 3 rfl rfl rfl rfl rfl rfl rfl rfl rfl rfl ?_) | (refine isx_row ?_; refine lx_row (E := EV) rfl rfl rfl rfl rfl rfl rfl rfl rfl rfl rfl rfl rfl ?_; intro b_) | refine lx_nil ?_ | with_reducible refine tq_n ?_ | with_reducible refine tq_r ?_ | with_reducible refine tq_e ?_ | with_reducible refine bk_n ?_ | with_reducible refine bk_r ?_ | (with_reducible refine bk_e ?_ ?_; exact rfl) | (with_reducible refine bk_x ?_ ?_; exact rfl) | refine cx_seq ?_ | refine cx_region ?_ | refine cx_block ?_ | refine cx_ret ?_ | refine cx_skip ?_ | refine cx_exit ?_ | fail)
  repeat (first | refine lx_not rfl rfl rfl rfl ?_ | refine lx_notu rfl rfl rfl rfl rfl ?_ | (refine isG ?_; refine gT rfl rfl rfl ?_) | (refine isU ?_; refine gU rfl ?_) | (refine isG ?_; refine gG rfl rfl ?_) | (refine isx_call ?_; (refine isx_call ?_; refine lx_call0 (own_fn A2 9 c2 wa (by decide)) ((fun w hm => in_ro (row_own 4 rfl hm) (in_nil hm) rfl)) rfl rfl rfl rfl rfl rfl rfl rfl ?_; rintro v_ Lo_ ⟨A5, c5, rfl, rfl⟩)) | (refine isx_box ?_; refine gB rfl rfl rfl rfl rfl rfl ?_; intro b_) | (refine isx_alloc ?_; refine gA rfl rfl rfl rfl rfl rfl rfl ?_; intro b_) | (refine isx_store ?_; refine gS 0 rfl rfl rfl rfl rfl rfl rfl rfl rfl rfl ?_) | (refine isx_store ?_; refine gS 1 rfl rfl rfl rfl rfl rfl rfl rfl rfl rfl ?_) | (refine isx_store ?_; refine gS 2 rfl rfl rfl rfl rfl rfl rfl rfl rfl rfl ?_) | (refine isx_store ?_; refine gS 3 rfl rfl rfl rfl rfl rfl rfl rfl rfl rfl ?_) | (refine isx_row ?_; refine lx_row (E := EV) rfl rfl rfl rfl rfl rfl rfl rfl rfl rfl rfl rfl rfl ?_; intro b_) | refine lx_nil ?_ | with_reducible refine tq_n ?_ | with_reducible refine tq_r ?_ | with_reducible refine tq_e ?_ | with_reducible refine bk_n ?_ | with_reducible refine bk_r ?_ | (with_reducible refine bk_e ?_ ?_; exact rfl) | (with_reducible refine bk_x ?_ ?_; exact rfl) | refine cx_seq ?_ | refine cx_region ?_ | refine cx_block ?_ | refine cx_ret ?_ | refine cx_skip ?_ | refine cx_exit ?_ | fail)
  refine lx_fact (fun w hm => own_cap 0 hm rfl) fun hc5 => ?_
  repeat (first | refine lx_not rfl rfl rfl rfl ?_ | refine lx_notu rfl rfl rfl rfl rfl ?_ | ((first | (apply lx_gt; exact rfl; exact rfl; exact rfl) | (apply lx_u; exact rfl) | (apply lx_g; exact rfl; exact rfl)); first | (apply isy_indexAddr; exact q_ixo 0 rfl rfl rfl rfl rfl) | fail) | (refine isG ?_; refine gT rfl rfl rfl ?_) | (refine isU ?_; refine gU rfl ?_) | (refine isG ?_; refine gG rfl rfl ?_) | (refine isx_store ?_; refine gSI 0 rfl rfl rfl rfl rfl rfl rfl rfl rfl ((by decide)) rfl ?_) | (refine isx_call ?_; (refine isx_call ?_; refine lx_call0 (t2 A5 c5 hc5) ((fun w hm => in_ro (row_own 0 rfl hm) (in_nil hm) rfl)) rfl rfl rfl rfl rfl rfl rfl rfl ?_; rintro v_ Lo_ ⟨A6, c6, rfl, rfl⟩)) | (refine isx_call ?_; (refine isx_call ?_; refine lx_call0 (t3 _) ((fun w hm => in_ro (row_blk 0 rfl rfl hm) (in_nil hm) rfl)) rfl rfl rfl rfl rfl rfl rfl rfl ?_; rintro v_ Lo_ ⟨A7, c7, rfl, rfl⟩)) | (refine isx_box ?_; refine gB rfl rfl rfl rfl rfl rfl ?_; intro b_) | (refine isx_alloc ?_; refine gA rfl rfl rfl rfl rfl rfl rfl ?_; intro b_) | (refine isx_store ?_; refine gS 0 rfl rfl rfl rfl rfl rfl rfl rfl rfl rfl ?_) | (refine isx_store ?_; refine gS 1 rfl rfl rfl rfl rfl rfl rfl rfl rfl rfl ?_) | (refine isx_store ?_; refine gS 2 rfl rfl rfl rfl rfl rfl rfl rfl rfl rfl ?_) | (refine isx_store ?_; refine gS 3 rfl rfl rfl rfl rfl rfl rfl rfl rfl rfl ?_) | (refine isx_row ?_; refine lx_row (E := EV) rfl rfl rfl rfl rfl rfl rfl rfl rfl rfl rfl rfl rfl ?_; intro b_) | refine lx_nil ?_ | with_reducible refine tq_n ?_ | with_reducible refine tq_r ?_ | with_reducible refine tq_e ?_ | with_reducible refine bk_n ?_ | with_reducible refine bk_r ?_ | (with_reducible refine bk_e ?_ ?_; exact rfl) | (with_reducible refine bk_x ?_ ?_; exact rfl) | refine cx_seq ?_ | refine cx_region ?_ | refine cx_block ?_ | refine cx_ret ?_ | refine cx_skip ?_ | refine cx_exit ?_ | fail)
  repeat (first | refine lx_not rfl rfl rfl rfl ?_ | refine lx_notu rfl rfl rfl rfl rfl ?_ | ((first | (apply lx_gt; exact rfl; exact rfl; exact rfl) | (apply lx_u; exact rfl) | (apply lx_g; exact rfl; exact rfl)); first | (apply isy_convert; exact q_text rfl rfl rfl rfl (fun _ _ hm => row_own 5 rfl hm)) | (apply isy_bin_eql; exact yl_true (q_seq [97#8] [97#8] rfl rfl) (fun _ => beq_self_eq_true _)) | (apply isy_bin_eql; exact yl_true (yl_op (E := EV) rfl) (fun _ => rfl)) | fail) | (refine isG ?_; refine gT rfl rfl rfl ?_) | (refine isU ?_; refine gU rfl ?_) | (refine isG ?_; refine gG rfl rfl ?_) | (refine isx_box ?_; refine gB rfl rfl rfl rfl rfl rfl ?_; intro b_) | (refine isx_alloc ?_; refine gA rfl rfl rfl rfl rfl rfl rfl ?_; intro b_) | (refine isx_store ?_; refine gS 0 rfl rfl rfl rfl rfl rfl rfl rfl rfl rfl ?_) | (refine isx_store ?_; refine gS 1 rfl rfl rfl rfl rfl rfl rfl rfl rfl rfl ?_) | (refine isx_store ?_; refine gS 2 rfl rfl rfl rfl rfl rfl rfl rfl rfl rfl ?_) | (refine isx_store ?_; refine gS 3 rfl rfl rfl rfl rfl rfl rfl rfl rfl rfl ?_) | (refine isx_row ?_; refine lx_row (E := EV) rfl rfl rfl rfl rfl rfl rfl rfl rfl rfl rfl rfl rfl ?_; intro b_) | refine lx_nil ?_ | with_reducible refine tq_n ?_ | with_reducible refine tq_r ?_ | with_reducible refine tq_e ?_ | with_reducible refine bk_n ?_ | with_reducible refine bk_r ?_ | (with_reducible refine bk_e ?_ ?_; exact rfl) | (with_reducible refine bk_x ?_ ?_; exact rfl) | refine cx_seq ?_ | refine cx_region ?_ | refine cx_block ?_ | refine cx_ret ?_ | refine cx_skip ?_ | refine cx_exit ?_ | fail)
  exact bq_ret (ret_tmp rfl rfl) [] (Gives.nil _) rfl ⟨rfl, rfl⟩
/-- at most 8 rows, of 400 bytes -/
def few (rs : List Rw) : Bool := (rs.take 9).all (fun r => decide (r.l.length ≤ 400)) && decide (rs.length ≤ 8)
theorem few_iff (rs : List Rw) : few rs = true ↔ rs.length ≤ 8 ∧ ∀ r ∈ rs, r.l.length ≤ 400 := by
  unfold few
  rw [Bool.and_eq_true, decide_eq_true_iff, List.all_eq_true]
  constructor
  · rintro ⟨h1, h2⟩
    rw [List.take_of_length_le (by omega)] at h1
    exact ⟨h2, fun r hr => by simpa using h1 r hr⟩
  · rintro ⟨h1, h2⟩
    refine ⟨fun r hr => ?_, h1⟩
    rw [List.take_of_length_le (by omega)] at hr
    simpa using h2 r hr
theorem few_step {rs : List Rw} {i : Nat} {r : Rw} (h : rs[i]? = some r) : (rs.take (i + 1)).all (fun r => decide (r.l.length ≤ 400)) = ((rs.take i).all (fun r => decide (r.l.length ≤ 400)) && decide (r.l.length ≤ 400)) := by
  rw [List.take_add_one, h, List.all_append]
  simp
theorem few_fn (A : Option Addr) (n c : Nat) (rs : List Rw) (hl : rs.length = n) (hn : n ≤ 9223372036854775807) : Fn Try.prog 9 [.slice A n c] [.rows A n rs] [] fun v Lo => v = .bool (few rs) ∧ Lo = [] := by
  subst hl
  refine fn_enter Try.func9 rfl rfl (by kernel_rfl) rfl ?_
  intro w0
  repeat (first | (refine isU ?_; refine gU rfl ?_) | (refine isG ?_; refine gG rfl rfl ?_) | (refine isx_box ?_; refine gB rfl rfl rfl rfl rfl rfl ?_; intro b_) | (refine isx_alloc ?_; refine gA rfl rfl rfl rfl rfl rfl rfl ?_; intro b_) | (refine isx_store ?_; refine gS 0 rfl rfl rfl rfl rfl rfl rfl rfl rfl rfl ?_) | (refine isx_store ?_; refine gS 1 rfl rfl rfl rfl rfl rfl rfl rfl rfl rfl ?_) | (refine isx_store ?_; refine gS 2 rfl rfl rfl rfl rfl rfl rfl rfl rfl rfl ?_) | (refine isx_store ?_; refine gS 3 rfl rfl rfl rfl rfl rfl rfl rfl rfl rfl ?_) | (refine isx_row ?_; refine lx_row (E := EV) rfl rfl rfl rfl rfl rfl rfl rfl rfl rfl rfl rfl rfl ?_; intro b_) | refine lx_nil ?_ | with_reducible refine tq_n ?_ | with_reducible refine tq_r ?_ | with_reducible refine tq_e ?_ | with_reducible refine bk_n ?_ | with_reducible refine bk_r ?_ | (with_reducible refine bk_e ?_ ?_; exact rfl) | (with_reducible refine bk_x ?_ ?_; exact rfl) | refine cx_seq ?_ | refine cx_region ?_ | refine cx_block ?_ | refine cx_ret ?_ | refine cx_skip ?_ | refine cx_exit ?_ | fail)
  refine cx_loop (α := { i : Nat // i ≤ rs.length ∧ i ≤ 9 ∧ (rs.take i).all (fun r => decide (r.l.length ≤ 400)) = true }) (fun x => [(0, none, .slice A rs.length c), (3, none, .int .i64 x.1)]) (fun _ => [.rows A rs.length rs]) (fun x => rs.length - x.1) ⟨0, Nat.zero_le _, Nat.zero_le _, rfl⟩ ⟨rfl, rfl, trivial⟩ (Gives.refl _) ?_
  rintro ⟨i, hi, hi9, hall⟩
  dsimp only
  repeat (first | (refine isU ?_; refine gU rfl ?_) | (refine isG ?_; refine gG rfl rfl ?_) | (refine isx_box ?_; refine gB rfl rfl rfl rfl rfl rfl ?_; intro b_) | (refine isx_alloc ?_; refine gA rfl rfl rfl rfl rfl rfl rfl ?_; intro b_) | (refine isx_store ?_; refine gS 0 rfl rfl rfl rfl rfl rfl rfl rfl rfl rfl ?_) | (refine isx_store ?_; refine gS 1 rfl rfl rfl rfl rfl rfl rfl rfl rfl rfl ?_) | (refine isx_store ?_; refine gS 2 rfl rfl rfl rfl rfl rfl rfl rfl rfl rfl ?_) | (refine isx_store ?_; refine gS 3 rfl rfl rfl rfl rfl rfl rfl rfl rfl rfl ?_) | (refine isx_row ?_; refine lx_row (E := EV) rfl rfl rfl rfl rfl rfl rfl rfl rfl rfl rfl rfl rfl ?_; intro b_) | refine lx_nil ?_ | with_reducible refine tq_n ?_ | with_reducible refine tq_r ?_ | with_reducible refine tq_e ?_ | with_reducible refine bk_n ?_ | with_reducible refine bk_r ?_ | (with_reducible refine bk_e ?_ ?_; exact rfl) | (with_reducible refine bk_x ?_ ?_; exact rfl) | refine cx_seq ?_ | refine cx_region ?_ | refine cx_block ?_ | refine cx_ret ?_ | refine cx_skip ?_ | refine cx_exit ?_ | fail)
  refine cx_cond rfl (fun h => ?_) (fun h => ?_)
  · have hlt : i < rs.length ∧ i < 9 := by simp at h; omega
    clear h
    obtain ⟨r, hx⟩ : ∃ r, rs[i]? = some r := ⟨_, List.getElem?_eq_getElem hlt.1⟩
    have hx0 := rwv_get hx
    have hst := few_step hx
    refine cx_fact (fun w hm => rows_ok 0 rfl hx hm) fun hrk => ?_
    refine cx_weakL (Gives.rows 0 rfl) ?_
    repeat (first | ((first | (apply lx_u; exact rfl) | (apply lx_g; exact rfl; exact rfl)); first | (apply isy_indexAddr; exact q_ix 0 rfl rfl rfl rfl rfl) | (apply isy_load; exact q_li 0 rfl rfl rfl rfl hx0) | fail) | (refine isU ?_; refine gU rfl ?_) | (refine isG ?_; refine gG rfl rfl ?_) | (refine isx_box ?_; refine gB rfl rfl rfl rfl rfl rfl ?_; intro b_) | (refine isx_alloc ?_; refine gA rfl rfl rfl rfl rfl rfl rfl ?_; intro b_) | (refine isx_store ?_; refine gS 0 rfl rfl rfl rfl rfl rfl rfl rfl rfl rfl ?_) | (refine isx_store ?_; refine gS 1 rfl rfl rfl rfl rfl rfl rfl rfl rfl rfl ?_) | (refine isx_store ?_; refine gS 2 rfl rfl rfl rfl rfl rfl rfl rfl rfl rfl ?_) | (refine isx_store ?_; refine gS 3 rfl rfl rfl rfl rfl rfl rfl rfl rfl rfl ?_) | (refine isx_row ?_; refine lx_row (E := EV) rfl rfl rfl rfl rfl rfl rfl rfl rfl rfl rfl rfl rfl ?_; intro b_) | refine lx_nil ?_ | with_reducible refine tq_n ?_ | with_reducible refine tq_r ?_ | with_reducible refine tq_e ?_ | with_reducible refine bk_n ?_ | with_reducible refine bk_r ?_ | (with_reducible refine bk_e ?_ ?_; exact rfl) | (with_reducible refine bk_x ?_ ?_; exact rfl) | refine cx_seq ?_ | refine cx_region ?_ | refine cx_block ?_ | refine cx_ret ?_ | refine cx_skip ?_ | refine cx_exit ?_ | fail)
    refine cx_cond rfl (fun h => ?_) (fun h => ?_)
    · have hf : few rs = false := by
        have h4 : ¬ r.l.length ≤ 400 := by simp at h; omega
        cases hfe : few rs
        · rfl
        · exfalso
          unfold few at hfe
          rw [Bool.and_eq_true, List.all_eq_true] at hfe
          have := hfe.1 r (by
            rw [List.mem_iff_getElem?]
            exact ⟨i, by rw [List.getElem?_take, if_pos hlt.2, hx]⟩)
          simp at this
          omega
      repeat (first | (refine isU ?_; refine gU rfl ?_) | (refine isG ?_; refine gG rfl rfl ?_) | (refine isx_box ?_; refine gB rfl rfl rfl rfl rfl rfl ?_; intro b_) | (refine isx_alloc ?_; refine gA rfl rfl rfl rfl rfl rfl rfl ?_; intro b_) | (refine isx_store ?_; refine gS 0 rfl rfl rfl rfl rfl rfl rfl rfl rfl rfl ?_) | (refine isx_store ?_; refine gS 1 rfl rfl rfl rfl rfl rfl rfl rfl rfl rfl ?_) | (refine isx_store ?_; refine gS 2 rfl rfl rfl rfl rfl rfl rfl rfl rfl rfl ?_) | (refine isx_store ?_; refine gS 3 rfl rfl rfl rfl rfl rfl rfl rfl rfl rfl ?_) | (refine isx_row ?_; refine lx_row (E := EV) rfl rfl rfl rfl rfl rfl rfl rfl rfl rfl rfl rfl rfl ?_; intro b_) | refine lx_nil ?_ | with_reducible refine tq_n ?_ | with_reducible refine tq_r ?_ | with_reducible refine tq_e ?_ | with_reducible refine bk_n ?_ | with_reducible refine bk_r ?_ | (with_reducible refine bk_e ?_ ?_; exact rfl) | (with_reducible refine bk_x ?_ ?_; exact rfl) | refine cx_seq ?_ | refine cx_region ?_ | refine cx_block ?_ | refine cx_ret ?_ | refine cx_skip ?_ | refine cx_exit ?_ | fail)
      exact bq_ret (ret_tmp rfl rfl) [] (Gives.nil _) rfl ⟨by rw [hf], rfl⟩
    repeat (first | (refine isU ?_; refine gU rfl ?_) | (refine isG ?_; refine gG rfl rfl ?_) | (refine isx_box ?_; refine gB rfl rfl rfl rfl rfl rfl ?_; intro b_) | (refine isx_alloc ?_; refine gA rfl rfl rfl rfl rfl rfl rfl ?_; intro b_) | (refine isx_store ?_; refine gS 0 rfl rfl rfl rfl rfl rfl rfl rfl rfl rfl ?_) | (refine isx_store ?_; refine gS 1 rfl rfl rfl rfl rfl rfl rfl rfl rfl rfl ?_) | (refine isx_store ?_; refine gS 2 rfl rfl rfl rfl rfl rfl rfl rfl rfl rfl ?_) | (refine isx_store ?_; refine gS 3 rfl rfl rfl rfl rfl rfl rfl rfl rfl rfl ?_) | (refine isx_row ?_; refine lx_row (E := EV) rfl rfl rfl rfl rfl rfl rfl rfl rfl rfl rfl rfl rfl ?_; intro b_) | refine lx_nil ?_ | with_reducible refine tq_n ?_ | with_reducible refine tq_r ?_ | with_reducible refine tq_e ?_ | with_reducible refine bk_n ?_ | with_reducible refine bk_r ?_ | (with_reducible refine bk_e ?_ ?_; exact rfl) | (with_reducible refine bk_x ?_ ?_; exact rfl) | refine cx_seq ?_ | refine cx_region ?_ | refine cx_block ?_ | refine cx_ret ?_ | refine cx_skip ?_ | refine cx_exit ?_ | fail)
    exact ⟨⟨i + 1, by omega, by omega, by rw [hst, hall]; simp at h ⊢; omega⟩, ⟨rfl, slot_int (by dsimp only; omega), trivial⟩, Gives.pick [1] (by decide) rfl, by dsimp only; omega⟩
  have hend : i = rs.length ∨ i = 9 := by simp at h; omega
  have hf : few rs = decide (rs.length ≤ 8) := by
    unfold few
    rcases hend with he | he
    · rw [List.take_of_length_le (by omega), Bool.and_eq_right_iff_imp.2 fun _ => by rw [he, List.take_of_length_le (by omega)] at hall; exact hall]
    · rw [he] at hall; rw [hall]; rfl
  repeat (first | (refine isU ?_; refine gU rfl ?_) | (refine isG ?_; refine gG rfl rfl ?_) | (refine isx_box ?_; refine gB rfl rfl rfl rfl rfl rfl ?_; intro b_) | (refine isx_alloc ?_; refine gA rfl rfl rfl rfl rfl rfl rfl ?_; intro b_) | (refine isx_store ?_; refine gS 0 rfl rfl rfl rfl rfl rfl rfl rfl rfl rfl ?_) | (refine isx_store ?_; refine gS 1 rfl rfl rfl rfl rfl rfl rfl rfl rfl rfl ?_) | (refine isx_store ?_; refine gS 2 rfl rfl rfl rfl rfl rfl rfl rfl rfl rfl ?_) | (refine isx_store ?_; refine gS 3 rfl rfl rfl rfl rfl rfl rfl rfl rfl rfl ?_) | (refine isx_row ?_; refine lx_row (E := EV) rfl rfl rfl rfl rfl rfl rfl rfl rfl rfl rfl rfl rfl ?_; intro b_) | refine lx_nil ?_ | with_reducible refine tq_n ?_ | with_reducible refine tq_r ?_ | with_reducible refine tq_e ?_ | with_reducible refine bk_n ?_ | with_reducible refine bk_r ?_ | (with_reducible refine bk_e ?_ ?_; exact rfl) | (with_reducible refine bk_x ?_ ?_; exact rfl) | refine cx_seq ?_ | refine cx_region ?_ | refine cx_block ?_ | refine cx_ret ?_ | refine cx_skip ?_ | refine cx_exit ?_ | fail)
  exact bq_ret (ret_tmp rfl rfl) [] (Gives.nil _) rfl ⟨by rw [hf]; congr 1; rw [decide_eq_decide]; omega, rfl⟩
/-- what is asked of them -/
def askP (rs : List Rw) : Bool := few rs || (decide (rs.length = 1) && decide (rs.all (fun r => decide (8192 < r.l.length)) = true))
theorem askP_le {rs : List Rw} (h : askP rs = true) : rs.length ≤ 8 := by
  unfold askP at h
  rw [Bool.or_eq_true, Bool.and_eq_true, decide_eq_true_iff] at h
  rcases h with h | h
  · exact ((few_iff rs).1 h).1
  · omega
set_option maxHeartbeats 8000000 in
theorem puts_fn (A : Option Addr) (n c : Nat) (rs : List Rw) (hl : rs.length = n) (hn : n ≤ 9223372036854775807) : Fn Try.prog 3 [.slice A n c] [.rows A n rs] [] fun v Lo => v = .bool true ∧ Lo = [] := by
  subst hl
  have hfew := few_fn A rs.length c rs rfl hn
  refine fn_enter Try.func3 rfl rfl (by kernel_rfl) rfl ?_
  intro w0
  refine cx_seq ?_
  refine cx_region ?_
  repeat (first | (refine isU ?_; refine gU rfl ?_) | (refine isG ?_; refine gG rfl rfl ?_) | (refine isx_box ?_; refine gB rfl rfl rfl rfl rfl rfl ?_; intro b_) | (refine isx_alloc ?_; refine gA rfl rfl rfl rfl rfl rfl rfl ?_; intro b_) | (refine isx_store ?_; refine gS 0 rfl rfl rfl rfl rfl rfl rfl rfl rfl rfl ?_) | (refine isx_store ?_; refine gS 1 rfl rfl rfl rfl rfl rfl rfl rfl rfl rfl ?_) | (refine isx_store ?_; refine gS 2 rfl rfl rfl rfl rfl rfl rfl rfl rfl rfl ?_) | (refine isx_store ?_; refine gS 3 rfl rfl rfl rfl rfl rfl rfl rfl rfl rfl ?_) | (refine isx_row ?_; refine lx_row (E := EV) rfl rfl rfl rfl rfl rfl rfl rfl rfl rfl rfl rfl rfl ?_; intro b_) | refine lx_nil ?_ | with_reducible refine tq_n ?_ | with_reducible refine tq_r ?_ | with_reducible refine tq_e ?_ | with_reducible refine bk_n ?_ | with_reducible refine bk_r ?_ | (with_reducible refine bk_e ?_ ?_; exact rfl) | (with_reducible refine bk_x ?_ ?_; exact rfl) | fail)
  refine cx_seq ?_
  refine cx_to (α := { _u : Unit // askP rs = true }) (fun _ => [(0, none, .slice A rs.length c)]) (fun _ => [.rows A rs.length rs]) ?_ ?_
  · by_cases hf : few rs = true
    · have ha : askP rs = true := by unfold askP; rw [hf]; rfl
      rw [hf] at hfew
      repeat (first | refine lx_not rfl rfl rfl rfl ?_ | refine lx_notu rfl rfl rfl rfl rfl ?_ | (refine isG ?_; refine gT rfl rfl rfl ?_) | (refine isU ?_; refine gU rfl ?_) | (refine isG ?_; refine gG rfl rfl ?_) | (refine isx_call ?_; refine lx_gcallt (hfew) ((fun w hm => rows_in (hm.get (k := 0) rfl) (in_nil hm) rfl)) rfl rfl rfl rfl rfl rfl rfl ?_) | (refine isx_box ?_; refine gB rfl rfl rfl rfl rfl rfl ?_; intro b_) | (refine isx_alloc ?_; refine gA rfl rfl rfl rfl rfl rfl rfl ?_; intro b_) | (refine isx_store ?_; refine gS 0 rfl rfl rfl rfl rfl rfl rfl rfl rfl rfl ?_) | (refine isx_store ?_; refine gS 1 rfl rfl rfl rfl rfl rfl rfl rfl rfl rfl ?_) | (refine isx_store ?_; refine gS 2 rfl rfl rfl rfl rfl rfl rfl rfl rfl rfl ?_) | (refine isx_store ?_; refine gS 3 rfl rfl rfl rfl rfl rfl rfl rfl rfl rfl ?_) | (refine isx_row ?_; refine lx_row (E := EV) rfl rfl rfl rfl rfl rfl rfl rfl rfl rfl rfl rfl rfl ?_; intro b_) | refine lx_nil ?_ | with_reducible refine tq_n ?_ | with_reducible refine tq_r ?_ | with_reducible refine tq_e ?_ | with_reducible refine bk_n ?_ | with_reducible refine bk_r ?_ | (with_reducible refine bk_e ?_ ?_; exact rfl) | (with_reducible refine bk_x ?_ ?_; exact rfl) | refine cx_seq ?_ | refine cx_region ?_ | refine cx_block ?_ | refine cx_ret ?_ | refine cx_skip ?_ | refine cx_exit ?_ | fail)
      refine cx_cond rfl (fun h => absurd h (by decide)) (fun _ => ?_)
      repeat (first | (refine isU ?_; refine gU rfl ?_) | (refine isG ?_; refine gG rfl rfl ?_) | (refine isx_box ?_; refine gB rfl rfl rfl rfl rfl rfl ?_; intro b_) | (refine isx_alloc ?_; refine gA rfl rfl rfl rfl rfl rfl rfl ?_; intro b_) | (refine isx_store ?_; refine gS 0 rfl rfl rfl rfl rfl rfl rfl rfl rfl rfl ?_) | (refine isx_store ?_; refine gS 1 rfl rfl rfl rfl rfl rfl rfl rfl rfl rfl ?_) | (refine isx_store ?_; refine gS 2 rfl rfl rfl rfl rfl rfl rfl rfl rfl rfl ?_) | (refine isx_store ?_; refine gS 3 rfl rfl rfl rfl rfl rfl rfl rfl rfl rfl ?_) | (refine isx_row ?_; refine lx_row (E := EV) rfl rfl rfl rfl rfl rfl rfl rfl rfl rfl rfl rfl rfl ?_; intro b_) | refine lx_nil ?_ | with_reducible refine tq_n ?_ | with_reducible refine tq_r ?_ | with_reducible refine tq_e ?_ | with_reducible refine bk_n ?_ | with_reducible refine bk_r ?_ | (with_reducible refine bk_e ?_ ?_; exact rfl) | (with_reducible refine bk_x ?_ ?_; exact rfl) | refine cx_seq ?_ | refine cx_region ?_ | refine cx_block ?_ | refine cx_ret ?_ | refine cx_skip ?_ | refine cx_exit ?_ | fail)
      exact ⟨⟨(), ha⟩, ⟨rfl, trivial⟩, Gives.refl _⟩
    have hff : few rs = false := by simpa using hf
    rw [hff] at hfew
    by_cases h1 : rs.length = 1
    · obtain ⟨r, rfl⟩ := List.length_eq_one_iff.1 h1
      have ha : askP [r] = decide (8192 < r.l.length) := by unfold askP; rw [hff]; simp
      have hx0 : (rwv [r])[mulI 0 1]? = some (.slice r.A r.n r.c) := rfl
      refine cx_fact (fun w hm => rows_ok (i := 0) (r := r) 0 rfl rfl hm) fun hrk => ?_
      refine cx_weakL (Gives.rows 0 rfl) ?_
      repeat (first | refine lx_not rfl rfl rfl rfl ?_ | refine lx_notu rfl rfl rfl rfl rfl ?_ | ((first | (apply lx_gt; exact rfl; exact rfl; exact rfl) | (apply lx_u; exact rfl) | (apply lx_g; exact rfl; exact rfl)); first | (apply isy_bin_neq; exact yl_false (yl_op (E := EV) rfl) (fun _ => rfl)) | (apply isy_indexAddr; exact q_ix 0 rfl rfl rfl rfl rfl) | (apply isy_load; exact q_li 0 rfl rfl rfl rfl hx0) | fail) | (refine isG ?_; refine gT rfl rfl rfl ?_) | (refine isU ?_; refine gU rfl ?_) | (refine isG ?_; refine gG rfl rfl ?_) | (refine isx_call ?_; refine lx_gcallt (hfew) ((fun w hm => rows_in (hm.get (k := 1) rfl) (in_nil hm) rfl)) rfl rfl rfl rfl rfl rfl rfl ?_) | (refine isx_box ?_; refine gB rfl rfl rfl rfl rfl rfl ?_; intro b_) | (refine isx_alloc ?_; refine gA rfl rfl rfl rfl rfl rfl rfl ?_; intro b_) | (refine isx_store ?_; refine gS 0 rfl rfl rfl rfl rfl rfl rfl rfl rfl rfl ?_) | (refine isx_store ?_; refine gS 1 rfl rfl rfl rfl rfl rfl rfl rfl rfl rfl ?_) | (refine isx_store ?_; refine gS 2 rfl rfl rfl rfl rfl rfl rfl rfl rfl rfl ?_) | (refine isx_store ?_; refine gS 3 rfl rfl rfl rfl rfl rfl rfl rfl rfl rfl ?_) | (refine isx_row ?_; refine lx_row (E := EV) rfl rfl rfl rfl rfl rfl rfl rfl rfl rfl rfl rfl rfl ?_; intro b_) | refine lx_nil ?_ | with_reducible refine tq_n ?_ | with_reducible refine tq_r ?_ | with_reducible refine tq_e ?_ | with_reducible refine bk_n ?_ | with_reducible refine bk_r ?_ | (with_reducible refine bk_e ?_ ?_; exact rfl) | (with_reducible refine bk_x ?_ ?_; exact rfl) | refine cx_seq ?_ | refine cx_region ?_ | refine cx_block ?_ | refine cx_ret ?_ | refine cx_skip ?_ | refine cx_exit ?_ | fail)
      refine cx_cond rfl (fun h => ?_) (fun h => ?_)
      · repeat (first | (refine isU ?_; refine gU rfl ?_) | (refine isG ?_; refine gG rfl rfl ?_) | (refine isx_call ?_; refine k_gcall (works_fn) (fun _ hm => in_nil hm) rfl rfl rfl rfl rfl rfl ?_) | (refine isx_box ?_; refine gB rfl rfl rfl rfl rfl rfl ?_; intro b_) | (refine isx_alloc ?_; refine gA rfl rfl rfl rfl rfl rfl rfl ?_; intro b_) | (refine isx_store ?_; refine gS 0 rfl rfl rfl rfl rfl rfl rfl rfl rfl rfl ?_) | (refine isx_store ?_; refine gS 1 rfl rfl rfl rfl rfl rfl rfl rfl rfl rfl ?_) | (refine isx_store ?_; refine gS 2 rfl rfl rfl rfl rfl rfl rfl rfl rfl rfl ?_) | (refine isx_store ?_; refine gS 3 rfl rfl rfl rfl rfl rfl rfl rfl rfl rfl ?_) | (refine isx_row ?_; refine lx_row (E := EV) rfl rfl rfl rfl rfl rfl rfl rfl rfl rfl rfl rfl rfl ?_; intro b_) | refine lx_nil ?_ | with_reducible refine tq_n ?_ | with_reducible refine tq_r ?_ | with_reducible refine tq_e ?_ | with_reducible refine bk_n ?_ | with_reducible refine bk_r ?_ | (with_reducible refine bk_e ?_ ?_; exact rfl) | (with_reducible refine bk_x ?_ ?_; exact rfl) | refine cx_seq ?_ | refine cx_region ?_ | refine cx_block ?_ | refine cx_ret ?_ | refine cx_skip ?_ | refine cx_exit ?_ | fail)
        exact bq_ret (ret_tmp rfl rfl) [] (Gives.nil _) rfl ⟨rfl, rfl⟩
      repeat (first | (refine isU ?_; refine gU rfl ?_) | (refine isG ?_; refine gG rfl rfl ?_) | (refine isx_box ?_; refine gB rfl rfl rfl rfl rfl rfl ?_; intro b_) | (refine isx_alloc ?_; refine gA rfl rfl rfl rfl rfl rfl rfl ?_; intro b_) | (refine isx_store ?_; refine gS 0 rfl rfl rfl rfl rfl rfl rfl rfl rfl rfl ?_) | (refine isx_store ?_; refine gS 1 rfl rfl rfl rfl rfl rfl rfl rfl rfl rfl ?_) | (refine isx_store ?_; refine gS 2 rfl rfl rfl rfl rfl rfl rfl rfl rfl rfl ?_) | (refine isx_store ?_; refine gS 3 rfl rfl rfl rfl rfl rfl rfl rfl rfl rfl ?_) | (refine isx_row ?_; refine lx_row (E := EV) rfl rfl rfl rfl rfl rfl rfl rfl rfl rfl rfl rfl rfl ?_; intro b_) | refine lx_nil ?_ | with_reducible refine tq_n ?_ | with_reducible refine tq_r ?_ | with_reducible refine tq_e ?_ | with_reducible refine bk_n ?_ | with_reducible refine bk_r ?_ | (with_reducible refine bk_e ?_ ?_; exact rfl) | (with_reducible refine bk_x ?_ ?_; exact rfl) | refine cx_seq ?_ | refine cx_region ?_ | refine cx_block ?_ | refine cx_ret ?_ | refine cx_skip ?_ | refine cx_exit ?_ | fail)
      exact ⟨⟨(), by rw [ha]; simp at h; simp; omega⟩, ⟨rfl, trivial⟩, Gives.pick [1] (by decide) rfl⟩
    have h1' : (((rs.length : Nat) : Int) != 1) = true := by simp; omega
    repeat (first | refine lx_not rfl rfl rfl rfl ?_ | refine lx_notu rfl rfl rfl rfl rfl ?_ | ((first | (apply lx_gt; exact rfl; exact rfl; exact rfl) | (apply lx_u; exact rfl) | (apply lx_g; exact rfl; exact rfl)); first | (apply isy_bin_neq; exact yl_true (yl_op (E := EV) rfl) (fun _ => h1')) | fail) | (refine isG ?_; refine gT rfl rfl rfl ?_) | (refine isU ?_; refine gU rfl ?_) | (refine isG ?_; refine gG rfl rfl ?_) | (refine isx_call ?_; refine lx_gcallt (hfew) ((fun w hm => rows_in (hm.get (k := 0) rfl) (in_nil hm) rfl)) rfl rfl rfl rfl rfl rfl rfl ?_) | (refine isx_box ?_; refine gB rfl rfl rfl rfl rfl rfl ?_; intro b_) | (refine isx_alloc ?_; refine gA rfl rfl rfl rfl rfl rfl rfl ?_; intro b_) | (refine isx_store ?_; refine gS 0 rfl rfl rfl rfl rfl rfl rfl rfl rfl rfl ?_) | (refine isx_store ?_; refine gS 1 rfl rfl rfl rfl rfl rfl rfl rfl rfl rfl ?_) | (refine isx_store ?_; refine gS 2 rfl rfl rfl rfl rfl rfl rfl rfl rfl rfl ?_) | (refine isx_store ?_; refine gS 3 rfl rfl rfl rfl rfl rfl rfl rfl rfl rfl ?_) | (refine isx_row ?_; refine lx_row (E := EV) rfl rfl rfl rfl rfl rfl rfl rfl rfl rfl rfl rfl rfl ?_; intro b_) | refine lx_nil ?_ | with_reducible refine tq_n ?_ | with_reducible refine tq_r ?_ | with_reducible refine tq_e ?_ | with_reducible refine bk_n ?_ | with_reducible refine bk_r ?_ | (with_reducible refine bk_e ?_ ?_; exact rfl) | (with_reducible refine bk_x ?_ ?_; exact rfl) | refine cx_seq ?_ | refine cx_region ?_ | refine cx_block ?_ | refine cx_ret ?_ | refine cx_skip ?_ | refine cx_exit ?_ | fail)
    refine cx_cond rfl (fun _ => ?_) (fun h => absurd h (by decide))
    repeat (first | (refine isU ?_; refine gU rfl ?_) | (refine isG ?_; refine gG rfl rfl ?_) | (refine isx_call ?_; refine k_gcall (works_fn) (fun _ hm => in_nil hm) rfl rfl rfl rfl rfl rfl ?_) | (refine isx_box ?_; refine gB rfl rfl rfl rfl rfl rfl ?_; intro b_) | (refine isx_alloc ?_; refine gA rfl rfl rfl rfl rfl rfl rfl ?_; intro b_) | (refine isx_store ?_; refine gS 0 rfl rfl rfl rfl rfl rfl rfl rfl rfl rfl ?_) | (refine isx_store ?_; refine gS 1 rfl rfl rfl rfl rfl rfl rfl rfl rfl rfl ?_) | (refine isx_store ?_; refine gS 2 rfl rfl rfl rfl rfl rfl rfl rfl rfl rfl ?_) | (refine isx_store ?_; refine gS 3 rfl rfl rfl rfl rfl rfl rfl rfl rfl rfl ?_) | (refine isx_row ?_; refine lx_row (E := EV) rfl rfl rfl rfl rfl rfl rfl rfl rfl rfl rfl rfl rfl ?_; intro b_) | refine lx_nil ?_ | with_reducible refine tq_n ?_ | with_reducible refine tq_r ?_ | with_reducible refine tq_e ?_ | with_reducible refine bk_n ?_ | with_reducible refine bk_r ?_ | (with_reducible refine bk_e ?_ ?_; exact rfl) | (with_reducible refine bk_x ?_ ?_; exact rfl) | refine cx_seq ?_ | refine cx_region ?_ | refine cx_block ?_ | refine cx_ret ?_ | refine cx_skip ?_ | refine cx_exit ?_ | fail)
    exact bq_ret (ret_tmp rfl rfl) [] (Gives.nil _) rfl ⟨rfl, rfl⟩
  rintro ⟨⟨⟩, ha⟩
  have h8 := askP_le ha
  have hj1 := join_fn A rs.length c rs rfl (by omega)
  have hj2 := rjoin_fn A rs.length c rs rfl (by omega)
  have hjl : (joinR rs).1.length ≤ 100000 := by
    unfold joinR
    split
    · rename_i h; have := frms_le rs h; dsimp only; omega
    · exact Nat.zero_le _
  generalize joinR rs = J at hj1 hj2 hjl
  obtain ⟨jl, je⟩ := J
  dsimp only at hj1 hj2 hjl
  repeat (first | (refine isU ?_; refine gU rfl ?_) | (refine isG ?_; refine gG rfl rfl ?_) | (refine isx_box ?_; refine gB rfl rfl rfl rfl rfl rfl ?_; intro b_) | (refine isx_alloc ?_; refine gA rfl rfl rfl rfl rfl rfl rfl ?_; intro b_) | (refine isx_store ?_; refine gS 0 rfl rfl rfl rfl rfl rfl rfl rfl rfl rfl ?_) | (refine isx_store ?_; refine gS 1 rfl rfl rfl rfl rfl rfl rfl rfl rfl rfl ?_) | (refine isx_store ?_; refine gS 2 rfl rfl rfl rfl rfl rfl rfl rfl rfl rfl ?_) | (refine isx_store ?_; refine gS 3 rfl rfl rfl rfl rfl rfl rfl rfl rfl rfl ?_) | (refine isx_row ?_; refine lx_row (E := EV) rfl rfl rfl rfl rfl rfl rfl rfl rfl rfl rfl rfl rfl ?_; intro b_) | refine lx_nil ?_ | with_reducible refine tq_n ?_ | with_reducible refine tq_r ?_ | with_reducible refine tq_e ?_ | with_reducible refine bk_n ?_ | with_reducible refine bk_r ?_ | (with_reducible refine bk_e ?_ ?_; exact rfl) | (with_reducible refine bk_x ?_ ?_; exact rfl) | refine cx_seq ?_ | refine cx_region ?_ | refine cx_block ?_ | refine cx_ret ?_ | refine cx_skip ?_ | refine cx_exit ?_ | fail)
  refine cx_loop (α := { t : Nat // t ≤ 2 }) (fun x => [(0, none, .slice A rs.length c), (3, none, .int .i64 x.1)]) (fun _ => [.rows A rs.length rs]) (fun x => 2 - x.1) ⟨0, by omega⟩ ⟨rfl, rfl, trivial⟩ (Gives.refl _) ?_
  rintro ⟨t, ht⟩
  dsimp only
  repeat (first | (refine isU ?_; refine gU rfl ?_) | (refine isG ?_; refine gG rfl rfl ?_) | (refine isx_box ?_; refine gB rfl rfl rfl rfl rfl rfl ?_; intro b_) | (refine isx_alloc ?_; refine gA rfl rfl rfl rfl rfl rfl rfl ?_; intro b_) | (refine isx_store ?_; refine gS 0 rfl rfl rfl rfl rfl rfl rfl rfl rfl rfl ?_) | (refine isx_store ?_; refine gS 1 rfl rfl rfl rfl rfl rfl rfl rfl rfl rfl ?_) | (refine isx_store ?_; refine gS 2 rfl rfl rfl rfl rfl rfl rfl rfl rfl rfl ?_) | (refine isx_store ?_; refine gS 3 rfl rfl rfl rfl rfl rfl rfl rfl rfl rfl ?_) | (refine isx_row ?_; refine lx_row (E := EV) rfl rfl rfl rfl rfl rfl rfl rfl rfl rfl rfl rfl rfl ?_; intro b_) | refine lx_nil ?_ | with_reducible refine tq_n ?_ | with_reducible refine tq_r ?_ | with_reducible refine tq_e ?_ | with_reducible refine bk_n ?_ | with_reducible refine bk_r ?_ | (with_reducible refine bk_e ?_ ?_; exact rfl) | (with_reducible refine bk_x ?_ ?_; exact rfl) | refine cx_seq ?_ | refine cx_region ?_ | refine cx_block ?_ | refine cx_ret ?_ | refine cx_skip ?_ | refine cx_exit ?_ | fail)
  refine cx_cond rfl (fun h => ?_) (fun h => ?_)
  · repeat (first | refine lx_not rfl rfl rfl rfl ?_ | refine lx_notu rfl rfl rfl rfl rfl ?_ | ((first | (apply lx_gt; exact rfl; exact rfl; exact rfl) | (apply lx_u; exact rfl) | (apply lx_g; exact rfl; exact rfl)); first | (apply isy_bin_neq; exact yl_false (yl_op (E := EV) rfl) (fun _ => bne_self_eq_false _)) | fail) | (refine isG ?_; refine gT rfl rfl rfl ?_) | (refine isU ?_; refine gU rfl ?_) | (refine isG ?_; refine gG rfl rfl ?_) | (refine isx_call ?_; (refine isx_call ?_; refine lx_call0 (hj1) ((fun w hm => rows_in (hm.get (k := 0) rfl) (in_nil hm) rfl)) rfl rfl rfl rfl rfl rfl rfl rfl ?_; rintro v_ Lo_ ⟨A1, c1, rfl, rfl⟩)) | (refine isx_call ?_; (refine isx_call ?_; refine lx_call0 (hj2) ((fun w hm => rows_in (hm.get (k := 1) rfl) (in_nil hm) rfl)) rfl rfl rfl rfl rfl rfl rfl rfl ?_; rintro v_ Lo_ ⟨A2, c2, rfl, rfl⟩)) | (refine isx_call ?_; refine lx_gcallt (sameB_fn A1 A2 jl.length c1 jl.length c2 jl jl rfl rfl (by omega) (by omega) rfl) ((fun w hm => in_ro (row_own 1 rfl hm) (in_ro (row_own 0 rfl hm) (in_nil hm) rfl) rfl)) rfl rfl rfl rfl rfl rfl rfl ?_) | (refine isx_box ?_; refine gB rfl rfl rfl rfl rfl rfl ?_; intro b_) | (refine isx_alloc ?_; refine gA rfl rfl rfl rfl rfl rfl rfl ?_; intro b_) | (refine isx_store ?_; refine gS 0 rfl rfl rfl rfl rfl rfl rfl rfl rfl rfl ?_) | (refine isx_store ?_; refine gS 1 rfl rfl rfl rfl rfl rfl rfl rfl rfl rfl ?_) | (refine isx_store ?_; refine gS 2 rfl rfl rfl rfl rfl rfl rfl rfl rfl rfl ?_) | (refine isx_store ?_; refine gS 3 rfl rfl rfl rfl rfl rfl rfl rfl rfl rfl ?_) | (refine isx_row ?_; refine lx_row (E := EV) rfl rfl rfl rfl rfl rfl rfl rfl rfl rfl rfl rfl rfl ?_; intro b_) | refine lx_nil ?_ | with_reducible refine tq_n ?_ | with_reducible refine tq_r ?_ | with_reducible refine tq_e ?_ | with_reducible refine bk_n ?_ | with_reducible refine bk_r ?_ | (with_reducible refine bk_e ?_ ?_; exact rfl) | (with_reducible refine bk_x ?_ ?_; exact rfl) | refine cx_seq ?_ | refine cx_region ?_ | refine cx_block ?_ | refine cx_ret ?_ | refine cx_skip ?_ | refine cx_exit ?_ | fail)
    refine cx_cond rfl (fun h => absurd h (by decide)) (fun _ => ?_)
    repeat (first | (refine isU ?_; refine gU rfl ?_) | (refine isG ?_; refine gG rfl rfl ?_) | (refine isx_call ?_; refine k_call (spoil_own A1 jl.length c1 _ jl (by omega) rfl) [1] [1] [0, 2] rfl rfl rfl rfl rfl rfl rfl rfl ?_; rintro v_ Lo_ ⟨rfl, rfl⟩) | (refine isx_box ?_; refine gB rfl rfl rfl rfl rfl rfl ?_; intro b_) | (refine isx_alloc ?_; refine gA rfl rfl rfl rfl rfl rfl rfl ?_; intro b_) | (refine isx_store ?_; refine gS 0 rfl rfl rfl rfl rfl rfl rfl rfl rfl rfl ?_) | (refine isx_store ?_; refine gS 1 rfl rfl rfl rfl rfl rfl rfl rfl rfl rfl ?_) | (refine isx_store ?_; refine gS 2 rfl rfl rfl rfl rfl rfl rfl rfl rfl rfl ?_) | (refine isx_store ?_; refine gS 3 rfl rfl rfl rfl rfl rfl rfl rfl rfl rfl ?_) | (refine isx_row ?_; refine lx_row (E := EV) rfl rfl rfl rfl rfl rfl rfl rfl rfl rfl rfl rfl rfl ?_; intro b_) | refine lx_nil ?_ | with_reducible refine tq_n ?_ | with_reducible refine tq_r ?_ | with_reducible refine tq_e ?_ | with_reducible refine bk_n ?_ | with_reducible refine bk_r ?_ | (with_reducible refine bk_e ?_ ?_; exact rfl) | (with_reducible refine bk_x ?_ ?_; exact rfl) | refine cx_seq ?_ | refine cx_region ?_ | refine cx_block ?_ | refine cx_ret ?_ | refine cx_skip ?_ | refine cx_exit ?_ | fail)
    have ht2 : t < 2 := by simp at h; omega
    exact ⟨⟨t + 1, by omega⟩, ⟨rfl, slot_int (by dsimp only; omega), trivial⟩, Gives.pick [2] (by decide) rfl, by dsimp only; omega⟩
  clear h
  repeat (first | (refine isU ?_; refine gU rfl ?_) | (refine isG ?_; refine gG rfl rfl ?_) | (refine isx_box ?_; refine gB rfl rfl rfl rfl rfl rfl ?_; intro b_) | (refine isx_alloc ?_; refine gA rfl rfl rfl rfl rfl rfl rfl ?_; intro b_) | (refine isx_store ?_; refine gS 0 rfl rfl rfl rfl rfl rfl rfl rfl rfl rfl ?_) | (refine isx_store ?_; refine gS 1 rfl rfl rfl rfl rfl rfl rfl rfl rfl rfl ?_) | (refine isx_store ?_; refine gS 2 rfl rfl rfl rfl rfl rfl rfl rfl rfl rfl ?_) | (refine isx_store ?_; refine gS 3 rfl rfl rfl rfl rfl rfl rfl rfl rfl rfl ?_) | (refine isx_row ?_; refine lx_row (E := EV) rfl rfl rfl rfl rfl rfl rfl rfl rfl rfl rfl rfl rfl ?_; intro b_) | refine lx_nil ?_ | with_reducible refine tq_n ?_ | with_reducible refine tq_r ?_ | with_reducible refine tq_e ?_ | with_reducible refine bk_n ?_ | with_reducible refine bk_r ?_ | (with_reducible refine bk_e ?_ ?_; exact rfl) | (with_reducible refine bk_x ?_ ?_; exact rfl) | refine cx_seq ?_ | refine cx_region ?_ | refine cx_block ?_ | refine cx_ret ?_ | refine cx_skip ?_ | refine cx_exit ?_ | fail)
  refine cx_loop (α := { i : Nat // i ≤ rs.length }) (fun x => [(0, none, .slice A rs.length c), (8, none, .int .i64 x.1)]) (fun _ => [.rows A rs.length rs]) (fun x => rs.length - x.1) ⟨0, by omega⟩ ⟨rfl, rfl, trivial⟩ (Gives.refl _) ?_
  rintro ⟨i, hi⟩
  dsimp only
  repeat (first | (refine isU ?_; refine gU rfl ?_) | (refine isG ?_; refine gG rfl rfl ?_) | (refine isx_box ?_; refine gB rfl rfl rfl rfl rfl rfl ?_; intro b_) | (refine isx_alloc ?_; refine gA rfl rfl rfl rfl rfl rfl rfl ?_; intro b_) | (refine isx_store ?_; refine gS 0 rfl rfl rfl rfl rfl rfl rfl rfl rfl rfl ?_) | (refine isx_store ?_; refine gS 1 rfl rfl rfl rfl rfl rfl rfl rfl rfl rfl ?_) | (refine isx_store ?_; refine gS 2 rfl rfl rfl rfl rfl rfl rfl rfl rfl rfl ?_) | (refine isx_store ?_; refine gS 3 rfl rfl rfl rfl rfl rfl rfl rfl rfl rfl ?_) | (refine isx_row ?_; refine lx_row (E := EV) rfl rfl rfl rfl rfl rfl rfl rfl rfl rfl rfl rfl rfl ?_; intro b_) | refine lx_nil ?_ | with_reducible refine tq_n ?_ | with_reducible refine tq_r ?_ | with_reducible refine tq_e ?_ | with_reducible refine bk_n ?_ | with_reducible refine bk_r ?_ | (with_reducible refine bk_e ?_ ?_; exact rfl) | (with_reducible refine bk_x ?_ ?_; exact rfl) | refine cx_seq ?_ | refine cx_region ?_ | refine cx_block ?_ | refine cx_ret ?_ | refine cx_skip ?_ | refine cx_exit ?_ | fail)
  refine cx_cond rfl (fun h => ?_) (fun h => ?_)
  · have hlt : i < rs.length := by simp at h; omega
    clear h
    obtain ⟨r, hx⟩ : ∃ r, rs[i]? = some r := ⟨_, List.getElem?_eq_getElem hlt⟩
    have hx0 := rwv_get hx
    refine cx_fact (fun w hm => rows_ok 0 rfl hx hm) fun hrk => ?_
    refine cx_weakL ((Gives.rowsAt 0 rfl hx).trans (Gives.rows 1 rfl)) ?_
    have hp1 := put_fn r.A r.n r.c r.l hrk.1 hrk.2
    have hp2 := rput_fn r.A r.n r.c r.l hrk.1 hrk.2
    have hpl : (putR r.l).1.length ≤ 10000 := by
      unfold putR
      split
      · dsimp only; rw [frm_len]; omega
      · exact Nat.zero_le _
    generalize putR r.l = J at hp1 hp2 hpl
    obtain ⟨pl, pe⟩ := J
    dsimp only at hp1 hp2 hpl
    repeat (first | refine lx_not rfl rfl rfl rfl ?_ | refine lx_notu rfl rfl rfl rfl rfl ?_ | ((first | (apply lx_gt; exact rfl; exact rfl; exact rfl) | (apply lx_u; exact rfl) | (apply lx_g; exact rfl; exact rfl)); first | (apply isy_indexAddr; exact q_ix 0 rfl rfl rfl rfl rfl) | (apply isy_load; exact q_li 0 rfl rfl rfl rfl hx0) | (apply isy_indexAddr; exact q_ix 1 rfl rfl rfl rfl rfl) | (apply isy_load; exact q_li 1 rfl rfl rfl rfl hx0) | (apply isy_bin_neq; exact yl_false (yl_op (E := EV) rfl) (fun _ => bne_self_eq_false _)) | fail) | (refine isG ?_; refine gT rfl rfl rfl ?_) | (refine isU ?_; refine gU rfl ?_) | (refine isG ?_; refine gG rfl rfl ?_) | (refine isx_call ?_; (refine isx_call ?_; refine lx_call0 (hp1) ((fun w hm => in_ro (row_ro 1 rfl hm) (in_nil hm) rfl)) rfl rfl rfl rfl rfl rfl rfl rfl ?_; rintro v_ Lo_ ⟨A1, c1, rfl, rfl⟩)) | (refine isx_call ?_; (refine isx_call ?_; refine lx_call0 (hp2) ((fun w hm => in_ro (row_ro 2 rfl hm) (in_nil hm) rfl)) rfl rfl rfl rfl rfl rfl rfl rfl ?_; rintro v_ Lo_ ⟨A2, c2, rfl, rfl⟩)) | (refine isx_call ?_; refine lx_gcallt (sameB_fn A1 A2 pl.length c1 pl.length c2 pl pl rfl rfl (by omega) (by omega) rfl) ((fun w hm => in_ro (row_own 1 rfl hm) (in_ro (row_own 0 rfl hm) (in_nil hm) rfl) rfl)) rfl rfl rfl rfl rfl rfl rfl ?_) | (refine isx_box ?_; refine gB rfl rfl rfl rfl rfl rfl ?_; intro b_) | (refine isx_alloc ?_; refine gA rfl rfl rfl rfl rfl rfl rfl ?_; intro b_) | (refine isx_store ?_; refine gS 0 rfl rfl rfl rfl rfl rfl rfl rfl rfl rfl ?_) | (refine isx_store ?_; refine gS 1 rfl rfl rfl rfl rfl rfl rfl rfl rfl rfl ?_) | (refine isx_store ?_; refine gS 2 rfl rfl rfl rfl rfl rfl rfl rfl rfl rfl ?_) | (refine isx_store ?_; refine gS 3 rfl rfl rfl rfl rfl rfl rfl rfl rfl rfl ?_) | (refine isx_row ?_; refine lx_row (E := EV) rfl rfl rfl rfl rfl rfl rfl rfl rfl rfl rfl rfl rfl ?_; intro b_) | refine lx_nil ?_ | with_reducible refine tq_n ?_ | with_reducible refine tq_r ?_ | with_reducible refine tq_e ?_ | with_reducible refine bk_n ?_ | with_reducible refine bk_r ?_ | (with_reducible refine bk_e ?_ ?_; exact rfl) | (with_reducible refine bk_x ?_ ?_; exact rfl) | refine cx_seq ?_ | refine cx_region ?_ | refine cx_block ?_ | refine cx_ret ?_ | refine cx_skip ?_ | refine cx_exit ?_ | fail)
    refine cx_cond rfl (fun h => absurd h (by decide)) (fun _ => ?_)
    repeat (first | (refine isU ?_; refine gU rfl ?_) | (refine isG ?_; refine gG rfl rfl ?_) | (refine isx_box ?_; refine gB rfl rfl rfl rfl rfl rfl ?_; intro b_) | (refine isx_alloc ?_; refine gA rfl rfl rfl rfl rfl rfl rfl ?_; intro b_) | (refine isx_store ?_; refine gS 0 rfl rfl rfl rfl rfl rfl rfl rfl rfl rfl ?_) | (refine isx_store ?_; refine gS 1 rfl rfl rfl rfl rfl rfl rfl rfl rfl rfl ?_) | (refine isx_store ?_; refine gS 2 rfl rfl rfl rfl rfl rfl rfl rfl rfl rfl ?_) | (refine isx_store ?_; refine gS 3 rfl rfl rfl rfl rfl rfl rfl rfl rfl rfl ?_) | (refine isx_row ?_; refine lx_row (E := EV) rfl rfl rfl rfl rfl rfl rfl rfl rfl rfl rfl rfl rfl ?_; intro b_) | refine lx_nil ?_ | with_reducible refine tq_n ?_ | with_reducible refine tq_r ?_ | with_reducible refine tq_e ?_ | with_reducible refine bk_n ?_ | with_reducible refine bk_r ?_ | (with_reducible refine bk_e ?_ ?_; exact rfl) | (with_reducible refine bk_x ?_ ?_; exact rfl) | refine cx_seq ?_ | refine cx_region ?_ | refine cx_block ?_ | refine cx_ret ?_ | refine cx_skip ?_ | refine cx_exit ?_ | fail)
    exact ⟨⟨i + 1, by omega⟩, ⟨rfl, slot_int (by dsimp only; omega), trivial⟩, Gives.pick [4] (by decide) rfl, by dsimp only; omega⟩
  repeat (first | (refine isU ?_; refine gU rfl ?_) | (refine isG ?_; refine gG rfl rfl ?_) | (refine isx_call ?_; refine k_gcall (works_fn) (fun _ hm => in_nil hm) rfl rfl rfl rfl rfl rfl ?_) | (refine isx_box ?_; refine gB rfl rfl rfl rfl rfl rfl ?_; intro b_) | (refine isx_alloc ?_; refine gA rfl rfl rfl rfl rfl rfl rfl ?_; intro b_) | (refine isx_store ?_; refine gS 0 rfl rfl rfl rfl rfl rfl rfl rfl rfl rfl ?_) | (refine isx_store ?_; refine gS 1 rfl rfl rfl rfl rfl rfl rfl rfl rfl rfl ?_) | (refine isx_store ?_; refine gS 2 rfl rfl rfl rfl rfl rfl rfl rfl rfl rfl ?_) | (refine isx_store ?_; refine gS 3 rfl rfl rfl rfl rfl rfl rfl rfl rfl rfl ?_) | (refine isx_row ?_; refine lx_row (E := EV) rfl rfl rfl rfl rfl rfl rfl rfl rfl rfl rfl rfl rfl ?_; intro b_) | refine lx_nil ?_ | with_reducible refine tq_n ?_ | with_reducible refine tq_r ?_ | with_reducible refine tq_e ?_ | with_reducible refine bk_n ?_ | with_reducible refine bk_r ?_ | (with_reducible refine bk_e ?_ ?_; exact rfl) | (with_reducible refine bk_x ?_ ?_; exact rfl) | refine cx_seq ?_ | refine cx_region ?_ | refine cx_block ?_ | refine cx_ret ?_ | refine cx_skip ?_ | refine cx_exit ?_ | fail)
  exact bq_ret (ret_tmp rfl rfl) [] (Gives.nil _) rfl ⟨rfl, rfl⟩
theorem rows_of {W : World} {x : Sl (Sl B8)} (h : Sl.ok W 1 (fun r : Sl B8 => [.slice r.A r.n r.c]) (u8ok W) x) : rowsP x.A x.n (x.l.map fun r => ⟨r.A, r.n, r.c, r.l⟩) W := by
  obtain ⟨h1, _, _, _, h5⟩ := h
  refine ⟨?_, fun r hr => ?_⟩
  · have e : (x.l.flatMap fun r : Sl B8 => [Value.slice r.A r.n r.c]) = rwv (x.l.map fun r => ⟨r.A, r.n, r.c, r.l⟩) := by
      induction x.l with
      | nil => rfl
      | cons b l ih => rw [List.flatMap_cons, ih]; rfl
    rw [← e]
    exact h1
  · obtain ⟨b, hb, rfl⟩ := List.mem_map.1 hr
    obtain ⟨k1, k2, k3, k4⟩ := h5 b hb
    exact ⟨k1, k3, k4⟩
theorem puts_all (x0 : Sl (Sl B8)) (W : World) (h0 : Sl.ok W 1 (fun r : Sl B8 => [.slice r.A r.n r.c]) (u8ok W) x0) :
    Calls Try.prog 3 #[.slice x0.A x0.n x0.c] W fun e W' => e = .returned (.bool true) ∧ Below W.heap.size W W' :=
  (puts_fn x0.A x0.n x0.c _ (by rw [List.length_map, h0.2.1]) (Nat.le_trans h0.2.2.1 h0.2.2.2.1)).yes W (rows_in (rows_of h0) (mem0 W) rfl)
end Go.Proofs.Ythmdiopbiiimeaa.fr
namespace Go.Proofs.Ythmdiopbiiimeaa.fr
open Go.RowKit Go.Proofs.Ythmdiopbiiimeaa.kit Go.Proofs.Ythmdiopbiiimeaa.pk Go.Proofs.Ythmdiopbiiimeaa.chk Go.Proofs.Ythmdiopbiiimeaa.crc
def fdP (A : Option Addr) (n : Nat) (fs : List Fd) (w : World) : Prop := Row w w.heap.size 2 A n (fcells fs) ∧ ∀ x ∈ fs, x.r.ok w
def fdOn (A : Option Addr) (n : Nat) (fs : List Fd) (g : Nat) : Prop := (n ≠ 0 ∧ A.map (·.block) = some g) ∨ ∃ x ∈ fs, x.r.n ≠ 0 ∧ x.r.A.map (·.block) = some g
theorem fd_stable (A : Option Addr) (n : Nat) (fs : List Fd) : Stable (fdOn A n fs) (fdP A n fs) := fun w h => by
  refine ⟨fun b hb => ?_, fun w' hsz hk => ⟨Row.stay h.1 hsz fun b hb => hk b (.inl hb), fun r hr => ?_⟩⟩
  · rcases hb with hb | ⟨r, hr, hb⟩
    · exact Row.lt_of h.1 hb.1 hb.2
    · exact Row.lt_of (h.2 r hr).1 hb.1 hb.2
  · obtain ⟨h1, h2⟩ := h.2 r hr
    exact ⟨Row.stay h1 hsz fun b hb => hk b (.inr ⟨r, hr, hb⟩), h2⟩
abbrev Ck.fds (A : Option Addr) (n : Nat) (fs : List Fd) : Ck := .deep (fdOn A n fs) (fdP A n fs) (fd_stable A n fs)
section
variable {L : List Ck}
theorem Gives.fds (k : Nat) {A : Option Addr} {n : Nat} {fs : List Fd} (hk : L[k]? = some (Ck.fds A n fs)) : Gives L (.ro A n 2 (fcells fs) :: L) := Gives.add k hk rfl rfl fun _ h => ⟨h.1, fun _ hb => .inl hb⟩
theorem Gives.fdsAt (k : Nat) {A : Option Addr} {n i : Nat} {fs : List Fd} {x : Fd} (hk : L[k]? = some (Ck.fds A n fs)) (hi : fs[i]? = some x) : Gives L (.ro x.r.A x.r.n 1 (bvs x.r.l) :: L) :=
  Gives.add k hk rfl rfl fun _ h => ⟨(h.2 x (List.mem_of_getElem? hi)).1, fun _ hb => .inr ⟨x, List.mem_of_getElem? hi, hb⟩⟩
theorem fds_ok {M : Me} {w : World} (k : Nat) {A : Option Addr} {n i : Nat} {fs : List Fd} {x : Fd} (hk : L[k]? = some (Ck.fds A n fs)) (hi : fs[i]? = some x) (hm : Mem M L w) : x.r.l.length = x.r.n ∧ x.r.n ≤ x.r.c ∧ x.r.c ≤ 9223372036854775807 := by
  have h : fdP A n fs w := hm.get hk
  obtain ⟨h1, h2, h3⟩ := h.2 x (List.mem_of_getElem? hi)
  have := h1.1
  rw [bvs_len] at this
  omega
theorem fds_in {w : World} {Lin : List Ck} {A : Option Addr} {m : Nat} {fs : List Fd} (h : fdP A m fs w) (hin : Mem ⟨w, []⟩ Lin w) (hro : Lin.all (fun c => !c.mut_) = true) : Mem ⟨w, []⟩ (Ck.fds A m fs :: Lin) w := by
  refine ⟨hin.keep, fun c hc => ?_, fun c hc hm => ?_, List.Pairwise.cons (fun c hc hm => ?_) hin.sep⟩
  · rcases List.mem_cons.1 hc with rfl | hc
    · exact h
    · exact hin.all c hc
  · rcases List.mem_cons.1 hc with rfl | hc
    · cases hm
    · exact hin.out c hc hm
  · have := List.all_eq_true.1 hro c hc
    rcases hm with hm | hm
    · cases hm
    · rw [hm] at this; cases this
theorem body_ok {M : Me} {w : World} {x : Fd} (hc : x.body ∈ L) (hm : Mem M L w) : x.r.ok w := by
  obtain ⟨k, hk⟩ := List.getElem?_of_mem hc
  exact ⟨row_own k hk hm, own_cap k hm hk⟩
/-- of a row that is one's own, and its bodies -/
theorem fds_own {M : Me} {w : World} {A : Option Addr} {n c : Nat} {T : TypeId} {fs : List Fd} (k : Nat) (hm : Mem M L w) (hk : L[k]? = some (.own A n c T 2 (fcells fs))) (hb : ∀ x ∈ bods fs, x ∈ L) : fdP A n fs w :=
  ⟨row_own k hk hm, fun x hx => body_ok (hb _ (List.mem_map.2 ⟨x, List.mem_reverse.2 hx, rfl⟩)) hm⟩
end
theorem tell_get {fs : List Fd} {i : Nat} {x : Fd} (h : fs[i]? = some x) : (tell fs)[i]? = some (x.r.l, x.e) := by simp [tell, h]
theorem tell_len (fs : List Fd) : (tell fs).length = fs.length := by simp [tell]
attribute [local irreducible] LX CX Yl Gives RetIs Fn
attribute [local irreducible] be de upd takeF num4 sum4 frm allF
set_option maxHeartbeats 2000000 in
theorem sameF_fn (A A' : Option Addr) (n c c' : Nat) (fs gs : List Fd) (hl : fs.length = n) (h : tell fs = tell gs) (hn : n ≤ 9223372036854775807) :
    Fn Try.prog 22 [.slice A n c, .slice A' n c'] [Ck.fds A n fs, Ck.fds A' n gs] [] fun v Lo => v = .bool true ∧ Lo = [] := by
  subst hl
  have hl2 : gs.length = fs.length := by rw [← tell_len, ← tell_len, h]
  refine fn_enter Try.func22 rfl rfl (by kernel_rfl) rfl ?_
  intro w0
  repeat (first | refine lx_not rfl rfl rfl rfl ?_ | refine lx_notu rfl rfl rfl rfl rfl ?_ | ((first | (apply lx_gt; exact rfl; exact rfl; exact rfl) | (apply lx_u; exact rfl) | (apply lx_g; exact rfl; exact rfl)); first | (apply isy_bin_neq; exact yl_false (yl_op (E := EV) rfl) (fun _ => bne_self_eq_false _)) | fail) | (refine isG ?_; refine gT rfl rfl rfl ?_) | (refine isU ?_; refine gU rfl ?_) | (refine isG ?_; refine gG rfl rfl ?_) | (refine isx_box ?_; refine gB rfl rfl rfl rfl rfl rfl ?_; intro b_) | (refine isx_alloc ?_; refine gA rfl rfl rfl rfl rfl rfl rfl ?_; intro b_) | (refine isx_store ?_; refine gS 0 rfl rfl rfl rfl rfl rfl rfl rfl rfl rfl ?_) | (refine isx_store ?_; refine gS 1 rfl rfl rfl rfl rfl rfl rfl rfl rfl rfl ?_) | (refine isx_store ?_; refine gS 2 rfl rfl rfl rfl rfl rfl rfl rfl rfl rfl ?_) | (refine isx_store ?_; refine gS 3 rfl rfl rfl rfl rfl rfl rfl rfl rfl rfl ?_) | (refine isx_row ?_; refine lx_row (E := EV) rfl rfl rfl rfl rfl rfl rfl rfl rfl rfl rfl rfl rfl ?_; intro b_) | refine lx_nil ?_ | with_reducible refine tq_n ?_ | with_reducible refine tq_r ?_ | with_reducible refine tq_e ?_ | with_reducible refine bk_n ?_ | with_reducible refine bk_r ?_ | (with_reducible refine bk_e ?_ ?_; exact rfl) | (with_reducible refine bk_x ?_ ?_; exact rfl) | refine cx_seq ?_ | refine cx_region ?_ | refine cx_block ?_ | refine cx_ret ?_ | refine cx_skip ?_ | refine cx_exit ?_ | fail)
  refine cx_cond rfl (fun h => absurd h (by decide)) (fun _ => ?_)
  repeat (first | (refine isU ?_; refine gU rfl ?_) | (refine isG ?_; refine gG rfl rfl ?_) | (refine isx_box ?_; refine gB rfl rfl rfl rfl rfl rfl ?_; intro b_) | (refine isx_alloc ?_; refine gA rfl rfl rfl rfl rfl rfl rfl ?_; intro b_) | (refine isx_store ?_; refine gS 0 rfl rfl rfl rfl rfl rfl rfl rfl rfl rfl ?_) | (refine isx_store ?_; refine gS 1 rfl rfl rfl rfl rfl rfl rfl rfl rfl rfl ?_) | (refine isx_store ?_; refine gS 2 rfl rfl rfl rfl rfl rfl rfl rfl rfl rfl ?_) | (refine isx_store ?_; refine gS 3 rfl rfl rfl rfl rfl rfl rfl rfl rfl rfl ?_) | (refine isx_row ?_; refine lx_row (E := EV) rfl rfl rfl rfl rfl rfl rfl rfl rfl rfl rfl rfl rfl ?_; intro b_) | refine lx_nil ?_ | with_reducible refine tq_n ?_ | with_reducible refine tq_r ?_ | with_reducible refine tq_e ?_ | with_reducible refine bk_n ?_ | with_reducible refine bk_r ?_ | (with_reducible refine bk_e ?_ ?_; exact rfl) | (with_reducible refine bk_x ?_ ?_; exact rfl) | refine cx_seq ?_ | refine cx_region ?_ | refine cx_block ?_ | refine cx_ret ?_ | refine cx_skip ?_ | refine cx_exit ?_ | fail)
  refine cx_loop (α := { i : Nat // i ≤ fs.length }) (fun x => [(0, none, .slice A fs.length c), (1, none, .slice A' fs.length c'), (5, none, .int .i64 x.1)]) (fun _ => [Ck.fds A fs.length fs, Ck.fds A' fs.length gs]) (fun x => fs.length - x.1) ⟨0, Nat.zero_le _⟩ ⟨rfl, rfl, rfl, trivial⟩ (Gives.refl _) ?_
  rintro ⟨i, hi⟩
  dsimp only
  repeat (first | (refine isU ?_; refine gU rfl ?_) | (refine isG ?_; refine gG rfl rfl ?_) | (refine isx_box ?_; refine gB rfl rfl rfl rfl rfl rfl ?_; intro b_) | (refine isx_alloc ?_; refine gA rfl rfl rfl rfl rfl rfl rfl ?_; intro b_) | (refine isx_store ?_; refine gS 0 rfl rfl rfl rfl rfl rfl rfl rfl rfl rfl ?_) | (refine isx_store ?_; refine gS 1 rfl rfl rfl rfl rfl rfl rfl rfl rfl rfl ?_) | (refine isx_store ?_; refine gS 2 rfl rfl rfl rfl rfl rfl rfl rfl rfl rfl ?_) | (refine isx_store ?_; refine gS 3 rfl rfl rfl rfl rfl rfl rfl rfl rfl rfl ?_) | (refine isx_row ?_; refine lx_row (E := EV) rfl rfl rfl rfl rfl rfl rfl rfl rfl rfl rfl rfl rfl ?_; intro b_) | refine lx_nil ?_ | with_reducible refine tq_n ?_ | with_reducible refine tq_r ?_ | with_reducible refine tq_e ?_ | with_reducible refine bk_n ?_ | with_reducible refine bk_r ?_ | (with_reducible refine bk_e ?_ ?_; exact rfl) | (with_reducible refine bk_x ?_ ?_; exact rfl) | refine cx_seq ?_ | refine cx_region ?_ | refine cx_block ?_ | refine cx_ret ?_ | refine cx_skip ?_ | refine cx_exit ?_ | fail)
  refine cx_cond rfl (fun hc => ?_) (fun _ => ?_)
  · have hlt : i < fs.length := by simp at hc; omega
    clear hc
    obtain ⟨x, hx⟩ : ∃ x, fs[i]? = some x := ⟨_, List.getElem?_eq_getElem hlt⟩
    obtain ⟨y, hy⟩ : ∃ y, gs[i]? = some y := ⟨_, List.getElem?_eq_getElem (by omega)⟩
    have hxy : x.r.l = y.r.l ∧ x.e = y.e := by
      have h1 := tell_get hx
      rw [h, tell_get hy] at h1
      simpa using h1.symm
    refine cx_fact (fun w hm => (⟨fds_ok 0 rfl hx hm, fds_ok 1 rfl hy hm⟩ : (_ ∧ _) ∧ (_ ∧ _))) fun ⟨kx, ky⟩ => ?_
    refine cx_weakL ((Gives.fdsAt 1 rfl hy).trans ((Gives.fds 2 rfl).trans ((Gives.fdsAt 2 rfl hx).trans (Gives.fds 3 rfl)))) ?_
    have hx0 : (fcells fs)[mulI i 2 + 0]? = some (.slice x.r.A x.r.n x.r.c) := fcells_get hx 0 (by decide)
    have hx1 : (fcells fs)[mulI i 2 + 1]? = some (.int .i64 x.e) := fcells_get hx 1 (by decide)
    have hy0 : (fcells gs)[mulI i 2 + 0]? = some (.slice y.r.A y.r.n y.r.c) := fcells_get hy 0 (by decide)
    have hy1 : (fcells gs)[mulI i 2 + 1]? = some (.int .i64 y.e) := fcells_get hy 1 (by decide)
    have he : (x.e != y.e) = false := by rw [hxy.2]; exact bne_self_eq_false _
    repeat (first | (refine isU ?_; refine gU rfl ?_) | (refine isG ?_; refine gG rfl rfl ?_) | (refine isx_box ?_; refine gB rfl rfl rfl rfl rfl rfl ?_; intro b_) | (refine isx_alloc ?_; refine gA rfl rfl rfl rfl rfl rfl rfl ?_; intro b_) | (refine isx_store ?_; refine gS 0 rfl rfl rfl rfl rfl rfl rfl rfl rfl rfl ?_) | (refine isx_store ?_; refine gS 1 rfl rfl rfl rfl rfl rfl rfl rfl rfl rfl ?_) | (refine isx_store ?_; refine gS 2 rfl rfl rfl rfl rfl rfl rfl rfl rfl rfl ?_) | (refine isx_store ?_; refine gS 3 rfl rfl rfl rfl rfl rfl rfl rfl rfl rfl ?_) | (refine isx_row ?_; refine lx_row (E := EV) rfl rfl rfl rfl rfl rfl rfl rfl rfl rfl rfl rfl rfl ?_; intro b_) | refine lx_nil ?_ | with_reducible refine tq_n ?_ | with_reducible refine tq_r ?_ | with_reducible refine tq_e ?_ | with_reducible refine bk_n ?_ | with_reducible refine bk_r ?_ | (with_reducible refine bk_e ?_ ?_; exact rfl) | (with_reducible refine bk_x ?_ ?_; exact rfl) | refine cx_seq ?_ | refine cx_region ?_ | refine cx_block ?_ | refine cx_ret ?_ | refine cx_skip ?_ | refine cx_exit ?_ | fail)
    refine cx_draw [22] _ rfl (by kernel_rfl) (Gives.refl _) ?_
    repeat (first | refine lx_not rfl rfl rfl rfl ?_ | refine lx_notu rfl rfl rfl rfl rfl ?_ | ((first | (apply lx_gt; exact rfl; exact rfl; exact rfl) | (apply lx_u; exact rfl) | (apply lx_g; exact rfl; exact rfl)); first | (apply isy_indexAddr; exact q_ix 0 rfl rfl rfl rfl rfl) | (apply isy_fieldAddr; exact q_fi 0 rfl rfl rfl rfl rfl rfl) | (apply isy_load; exact q_li 0 rfl rfl rfl rfl hx1) | (apply isy_indexAddr; exact q_ix 2 rfl rfl rfl rfl rfl) | (apply isy_fieldAddr; exact q_fi 2 rfl rfl rfl rfl rfl rfl) | (apply isy_load; exact q_li 2 rfl rfl rfl rfl hy1) | (apply isy_bin_neq; exact yl_false (yl_op (E := EV) rfl) (fun _ => he)) | (apply isy_load; exact q_li 0 rfl rfl rfl rfl hx0) | (apply isy_load; exact q_li 2 rfl rfl rfl rfl hy0) | fail) | (refine isG ?_; refine gT rfl rfl rfl ?_) | (refine isU ?_; refine gU rfl ?_) | (refine isG ?_; refine gG rfl rfl ?_) | (refine isx_call ?_; refine lx_gcallt (sameB_fn x.r.A y.r.A x.r.n x.r.c y.r.n y.r.c x.r.l y.r.l kx.1 ky.1 (by omega) (by omega) hxy.1) ((fun w hm => in_ro (row_ro 1 rfl hm) (in_ro (row_ro 3 rfl hm) (in_nil hm) rfl) rfl)) rfl rfl rfl rfl rfl rfl rfl ?_) | (refine isx_box ?_; refine gB rfl rfl rfl rfl rfl rfl ?_; intro b_) | (refine isx_alloc ?_; refine gA rfl rfl rfl rfl rfl rfl rfl ?_; intro b_) | (refine isx_store ?_; refine gS 0 rfl rfl rfl rfl rfl rfl rfl rfl rfl rfl ?_) | (refine isx_store ?_; refine gS 1 rfl rfl rfl rfl rfl rfl rfl rfl rfl rfl ?_) | (refine isx_store ?_; refine gS 2 rfl rfl rfl rfl rfl rfl rfl rfl rfl rfl ?_) | (refine isx_store ?_; refine gS 3 rfl rfl rfl rfl rfl rfl rfl rfl rfl rfl ?_) | (refine isx_row ?_; refine lx_row (E := EV) rfl rfl rfl rfl rfl rfl rfl rfl rfl rfl rfl rfl rfl ?_; intro b_) | refine lx_nil ?_ | with_reducible refine tq_n ?_ | with_reducible refine tq_r ?_ | with_reducible refine tq_e ?_ | with_reducible refine bk_n ?_ | with_reducible refine bk_r ?_ | (with_reducible refine bk_e ?_ ?_; exact rfl) | (with_reducible refine bk_x ?_ ?_; exact rfl) | refine cx_seq ?_ | refine cx_region ?_ | refine cx_block ?_ | refine cx_ret ?_ | refine cx_skip ?_ | refine cx_exit ?_ | fail)
    refine cx_cond rfl (fun h => absurd h (by decide)) (fun _ => ?_)
    repeat (first | (refine isU ?_; refine gU rfl ?_) | (refine isG ?_; refine gG rfl rfl ?_) | (refine isx_box ?_; refine gB rfl rfl rfl rfl rfl rfl ?_; intro b_) | (refine isx_alloc ?_; refine gA rfl rfl rfl rfl rfl rfl rfl ?_; intro b_) | (refine isx_store ?_; refine gS 0 rfl rfl rfl rfl rfl rfl rfl rfl rfl rfl ?_) | (refine isx_store ?_; refine gS 1 rfl rfl rfl rfl rfl rfl rfl rfl rfl rfl ?_) | (refine isx_store ?_; refine gS 2 rfl rfl rfl rfl rfl rfl rfl rfl rfl rfl ?_) | (refine isx_store ?_; refine gS 3 rfl rfl rfl rfl rfl rfl rfl rfl rfl rfl ?_) | (refine isx_row ?_; refine lx_row (E := EV) rfl rfl rfl rfl rfl rfl rfl rfl rfl rfl rfl rfl rfl ?_; intro b_) | refine lx_nil ?_ | with_reducible refine tq_n ?_ | with_reducible refine tq_r ?_ | with_reducible refine tq_e ?_ | with_reducible refine bk_n ?_ | with_reducible refine bk_r ?_ | (with_reducible refine bk_e ?_ ?_; exact rfl) | (with_reducible refine bk_x ?_ ?_; exact rfl) | refine cx_seq ?_ | refine cx_region ?_ | refine cx_block ?_ | refine cx_ret ?_ | refine cx_skip ?_ | refine cx_exit ?_ | fail)
    exact ⟨⟨i + 1, by omega⟩, ⟨rfl, rfl, slot_int (by dsimp only; omega), trivial⟩, Gives.pick [4, 5] (by decide) rfl, by dsimp only; omega⟩
  repeat (first | (refine isU ?_; refine gU rfl ?_) | (refine isG ?_; refine gG rfl rfl ?_) | (refine isx_box ?_; refine gB rfl rfl rfl rfl rfl rfl ?_; intro b_) | (refine isx_alloc ?_; refine gA rfl rfl rfl rfl rfl rfl rfl ?_; intro b_) | (refine isx_store ?_; refine gS 0 rfl rfl rfl rfl rfl rfl rfl rfl rfl rfl ?_) | (refine isx_store ?_; refine gS 1 rfl rfl rfl rfl rfl rfl rfl rfl rfl rfl ?_) | (refine isx_store ?_; refine gS 2 rfl rfl rfl rfl rfl rfl rfl rfl rfl rfl ?_) | (refine isx_store ?_; refine gS 3 rfl rfl rfl rfl rfl rfl rfl rfl rfl rfl ?_) | (refine isx_row ?_; refine lx_row (E := EV) rfl rfl rfl rfl rfl rfl rfl rfl rfl rfl rfl rfl rfl ?_; intro b_) | refine lx_nil ?_ | with_reducible refine tq_n ?_ | with_reducible refine tq_r ?_ | with_reducible refine tq_e ?_ | with_reducible refine bk_n ?_ | with_reducible refine bk_r ?_ | (with_reducible refine bk_e ?_ ?_; exact rfl) | (with_reducible refine bk_x ?_ ?_; exact rfl) | refine cx_seq ?_ | refine cx_region ?_ | refine cx_block ?_ | refine cx_ret ?_ | refine cx_skip ?_ | refine cx_exit ?_ | fail)
  exact bq_ret (ret_tmp rfl rfl) [] (Gives.nil _) rfl ⟨rfl, rfl⟩
theorem Gives.mid {c : Ck} {S T : List Ck} : Gives ((c :: S) ++ T) (c :: (T ++ S)) := Gives.perm (show ([c] ++ S ++ T).Perm ([c] ++ (T ++ S)) by rw [List.append_assoc]; exact List.Perm.append_left _ List.perm_append_comm)
theorem Gives.turned (L0 : List Ck) (fs : List Fd) : Gives (L0 ++ bods fs) (L0 ++ fs.map Fd.body) := Gives.perm (List.Perm.append_left _ ((List.reverse_perm fs).map _))
theorem bods_in {fs : List Fd} {c : Ck} (h : c ∈ fs.map Fd.body) : c ∈ bods fs := by
  obtain ⟨x, hx, rfl⟩ := List.mem_map.1 h
  exact List.mem_map.2 ⟨x, List.mem_reverse.2 hx, rfl⟩
theorem drop_body {fs : List Fd} {i : Nat} {x : Fd} (h : fs[i]? = some x) : (fs.drop i).map Fd.body = x.body :: (fs.drop (i + 1)).map Fd.body := by
  obtain ⟨hlt, rfl⟩ := List.getElem?_eq_some_iff.1 h
  rw [List.drop_eq_getElem_cons hlt]
  rfl
set_option maxHeartbeats 8000000 in
theorem takes_fn (A : Option Addr) (n c : Nat) (l : List B8) (at' : Int) (hl : l.length = n) (hc : n ≤ c ∧ c ≤ 9223372036854775807) (hat : -9223372036854775808 ≤ at' ∧ at' < 9223372036854775808) :
    Fn Try.prog 4 [.slice A n c, .int .i64 at'] [.ro A n 1 (bvs l)] [] fun v Lo => v = .bool true ∧ Lo = [] := by
  subst hl
  refine fn_enter Try.func4 rfl rfl (by kernel_rfl) rfl ?_
  intro w0
  repeat (first | (refine isU ?_; refine gU rfl ?_) | (refine isG ?_; refine gG rfl rfl ?_) | (refine isx_box ?_; refine gB rfl rfl rfl rfl rfl rfl ?_; intro b_) | (refine isx_alloc ?_; refine gA rfl rfl rfl rfl rfl rfl rfl ?_; intro b_) | (refine isx_store ?_; refine gS 0 rfl rfl rfl rfl rfl rfl rfl rfl rfl rfl ?_) | (refine isx_store ?_; refine gS 1 rfl rfl rfl rfl rfl rfl rfl rfl rfl rfl ?_) | (refine isx_store ?_; refine gS 2 rfl rfl rfl rfl rfl rfl rfl rfl rfl rfl ?_) | (refine isx_store ?_; refine gS 3 rfl rfl rfl rfl rfl rfl rfl rfl rfl rfl ?_) | (refine isx_row ?_; refine lx_row (E := EV) rfl rfl rfl rfl rfl rfl rfl rfl rfl rfl rfl rfl rfl ?_; intro b_) | refine lx_nil ?_ | with_reducible refine tq_n ?_ | with_reducible refine tq_r ?_ | with_reducible refine tq_e ?_ | with_reducible refine bk_n ?_ | with_reducible refine bk_r ?_ | (with_reducible refine bk_e ?_ ?_; exact rfl) | (with_reducible refine bk_x ?_ ?_; exact rfl) | refine cx_seq ?_ | refine cx_region ?_ | refine cx_block ?_ | refine cx_ret ?_ | refine cx_skip ?_ | refine cx_exit ?_ | fail)
  refine cx_cond rfl (fun h => ?_) (fun h => ?_)
  · repeat (first | (refine isU ?_; refine gU rfl ?_) | (refine isG ?_; refine gG rfl rfl ?_) | (refine isx_call ?_; refine k_gcall (works_fn) (fun _ hm => in_nil hm) rfl rfl rfl rfl rfl rfl ?_) | (refine isx_box ?_; refine gB rfl rfl rfl rfl rfl rfl ?_; intro b_) | (refine isx_alloc ?_; refine gA rfl rfl rfl rfl rfl rfl rfl ?_; intro b_) | (refine isx_store ?_; refine gS 0 rfl rfl rfl rfl rfl rfl rfl rfl rfl rfl ?_) | (refine isx_store ?_; refine gS 1 rfl rfl rfl rfl rfl rfl rfl rfl rfl rfl ?_) | (refine isx_store ?_; refine gS 2 rfl rfl rfl rfl rfl rfl rfl rfl rfl rfl ?_) | (refine isx_store ?_; refine gS 3 rfl rfl rfl rfl rfl rfl rfl rfl rfl rfl ?_) | (refine isx_row ?_; refine lx_row (E := EV) rfl rfl rfl rfl rfl rfl rfl rfl rfl rfl rfl rfl rfl ?_; intro b_) | refine lx_nil ?_ | with_reducible refine tq_n ?_ | with_reducible refine tq_r ?_ | with_reducible refine tq_e ?_ | with_reducible refine bk_n ?_ | with_reducible refine bk_r ?_ | (with_reducible refine bk_e ?_ ?_; exact rfl) | (with_reducible refine bk_x ?_ ?_; exact rfl) | refine cx_seq ?_ | refine cx_region ?_ | refine cx_block ?_ | refine cx_ret ?_ | refine cx_skip ?_ | refine cx_exit ?_ | fail)
    exact bq_ret (ret_tmp rfl rfl) [] (Gives.nil _) rfl ⟨rfl, rfl⟩
  have h2000 : l.length ≤ 2000 := by simp at h; omega
  clear h
  repeat (first | (refine isU ?_; refine gU rfl ?_) | (refine isG ?_; refine gG rfl rfl ?_) | (refine isx_call ?_; (refine isx_call ?_; refine lx_call0 (own_fn A l.length c l (by omega)) ((fun w hm => in_ro (row_ro 0 rfl hm) (in_nil hm) rfl)) rfl rfl rfl rfl rfl rfl rfl rfl ?_; rintro v_ Lo_ ⟨Ao, co, rfl, rfl⟩)) | (refine isx_box ?_; refine gB rfl rfl rfl rfl rfl rfl ?_; intro b_) | (refine isx_alloc ?_; refine gA rfl rfl rfl rfl rfl rfl rfl ?_; intro b_) | (refine isx_store ?_; refine gS 0 rfl rfl rfl rfl rfl rfl rfl rfl rfl rfl ?_) | (refine isx_store ?_; refine gS 1 rfl rfl rfl rfl rfl rfl rfl rfl rfl rfl ?_) | (refine isx_store ?_; refine gS 2 rfl rfl rfl rfl rfl rfl rfl rfl rfl rfl ?_) | (refine isx_store ?_; refine gS 3 rfl rfl rfl rfl rfl rfl rfl rfl rfl rfl ?_) | (refine isx_row ?_; refine lx_row (E := EV) rfl rfl rfl rfl rfl rfl rfl rfl rfl rfl rfl rfl rfl ?_; intro b_) | refine lx_nil ?_ | with_reducible refine tq_n ?_ | with_reducible refine tq_r ?_ | with_reducible refine tq_e ?_ | with_reducible refine bk_n ?_ | with_reducible refine bk_r ?_ | (with_reducible refine bk_e ?_ ?_; exact rfl) | (with_reducible refine bk_x ?_ ?_; exact rfl) | refine cx_seq ?_ | refine cx_region ?_ | refine cx_block ?_ | refine cx_ret ?_ | refine cx_skip ?_ | refine cx_exit ?_ | fail)
  refine cx_fact (fun w hm => own_cap 0 hm rfl) fun hco => ?_
  refine cx_weakL (Gives.ownro 0 rfl) ?_
  have ht1 := take_fn A l.length c l at' rfl hc (by omega) hat
  have ht2 := rtake_fn Ao l.length co l at' rfl hco (by omega) hat
  have hbl := (takeF_le (l := l) (at' := at')).2
  unfold TakeP at ht1 ht2
  generalize takeF l at' = T at ht1 ht2 hbl
  obtain ⟨bd, nx, e⟩ := T
  dsimp only at ht1 ht2 hbl
  have ha1 := all_fn A l.length c l rfl hc (by omega)
  have ha2 := rall_fn Ao l.length co l rfl hco (by omega)
  unfold AllP at ha1 ha2
  generalize allF l = al at ha1 ha2
  obtain ⟨ts, en⟩ := al
  dsimp only at ha1 ha2
  refine cx_loop (α := { t : Nat // t ≤ 2 }) (fun x => [(0, none, .slice A l.length c), (1, none, .int .i64 at'), (5, none, .slice Ao l.length co), (6, none, .int .i64 x.1)]) (fun _ => [.ro Ao l.length 1 (bvs l), .ro A l.length 1 (bvs l)]) (fun x => 2 - x.1) ⟨0, Nat.zero_le _⟩ ⟨rfl, rfl, rfl, rfl, trivial⟩ (Gives.refl _) ?_
  rintro ⟨t, ht⟩
  dsimp only
  repeat (first | (refine isU ?_; refine gU rfl ?_) | (refine isG ?_; refine gG rfl rfl ?_) | (refine isx_box ?_; refine gB rfl rfl rfl rfl rfl rfl ?_; intro b_) | (refine isx_alloc ?_; refine gA rfl rfl rfl rfl rfl rfl rfl ?_; intro b_) | (refine isx_store ?_; refine gS 0 rfl rfl rfl rfl rfl rfl rfl rfl rfl rfl ?_) | (refine isx_store ?_; refine gS 1 rfl rfl rfl rfl rfl rfl rfl rfl rfl rfl ?_) | (refine isx_store ?_; refine gS 2 rfl rfl rfl rfl rfl rfl rfl rfl rfl rfl ?_) | (refine isx_store ?_; refine gS 3 rfl rfl rfl rfl rfl rfl rfl rfl rfl rfl ?_) | (refine isx_row ?_; refine lx_row (E := EV) rfl rfl rfl rfl rfl rfl rfl rfl rfl rfl rfl rfl rfl ?_; intro b_) | refine lx_nil ?_ | with_reducible refine tq_n ?_ | with_reducible refine tq_r ?_ | with_reducible refine tq_e ?_ | with_reducible refine bk_n ?_ | with_reducible refine bk_r ?_ | (with_reducible refine bk_e ?_ ?_; exact rfl) | (with_reducible refine bk_x ?_ ?_; exact rfl) | refine cx_seq ?_ | refine cx_region ?_ | refine cx_block ?_ | refine cx_ret ?_ | refine cx_skip ?_ | refine cx_exit ?_ | fail)
  refine cx_cond rfl (fun h => ?_) (fun h => ?_)
  · have ht2' : t < 2 := by simp at h; omega
    clear h
    repeat (first | (refine isU ?_; refine gU rfl ?_) | (refine isG ?_; refine gG rfl rfl ?_) | (refine isx_call ?_; (refine isx_call ?_; refine lx_call0 (ht1) ((fun w hm => in_ro (row_ro 1 rfl hm) (in_nil hm) rfl)) rfl rfl rfl rfl rfl rfl rfl rfl ?_; rintro v_ Lo_ ⟨Ax, cx, rfl, rfl⟩)) | (refine isx_call ?_; (refine isx_call ?_; refine lx_call0 (ht2) ((fun w hm => in_ro (row_ro 1 rfl hm) (in_nil hm) rfl)) rfl rfl rfl rfl rfl rfl rfl rfl ?_; rintro v_ Lo_ ⟨Ay, cy, rfl, rfl⟩)) | (refine isx_call ?_; (refine isx_call ?_; refine lx_call0 (ha1) ((fun w hm => in_ro (row_ro 3 rfl hm) (in_nil hm) rfl)) rfl rfl rfl rfl rfl rfl rfl rfl ?_; rintro v_ Lo_ ⟨Af, cf, fs, rfl, tf, fitf, lef, rfl⟩)) | (refine isx_box ?_; refine gB rfl rfl rfl rfl rfl rfl ?_; intro b_) | (refine isx_alloc ?_; refine gA rfl rfl rfl rfl rfl rfl rfl ?_; intro b_) | (refine isx_store ?_; refine gS 0 rfl rfl rfl rfl rfl rfl rfl rfl rfl rfl ?_) | (refine isx_store ?_; refine gS 1 rfl rfl rfl rfl rfl rfl rfl rfl rfl rfl ?_) | (refine isx_store ?_; refine gS 2 rfl rfl rfl rfl rfl rfl rfl rfl rfl rfl ?_) | (refine isx_store ?_; refine gS 3 rfl rfl rfl rfl rfl rfl rfl rfl rfl rfl ?_) | (refine isx_row ?_; refine lx_row (E := EV) rfl rfl rfl rfl rfl rfl rfl rfl rfl rfl rfl rfl rfl ?_; intro b_) | refine lx_nil ?_ | with_reducible refine tq_n ?_ | with_reducible refine tq_r ?_ | with_reducible refine tq_e ?_ | with_reducible refine bk_n ?_ | with_reducible refine bk_r ?_ | (with_reducible refine bk_e ?_ ?_; exact rfl) | (with_reducible refine bk_x ?_ ?_; exact rfl) | refine cx_seq ?_ | refine cx_region ?_ | refine cx_block ?_ | refine cx_ret ?_ | refine cx_skip ?_ | refine cx_exit ?_ | fail)
    refine lx_weak (L' := [.own Af fs.length cf 44 2 (fcells fs), .own Ay bd.length cy 5 1 (bvs bd), .own Ax bd.length cx 5 1 (bvs bd), .ro Ao l.length 1 (bvs l), .ro A l.length 1 (bvs l)] ++ bods fs) Gives.mid ?_
    repeat (first | refine lx_not rfl rfl rfl rfl ?_ | refine lx_notu rfl rfl rfl rfl rfl ?_ | ((first | (apply lx_gt; exact rfl; exact rfl; exact rfl) | (apply lx_u; exact rfl) | (apply lx_g; exact rfl; exact rfl)); first | (apply isy_bin_neq; exact yl_false (yl_op (E := EV) rfl) (fun _ => bne_self_eq_false _)) | fail) | (refine isG ?_; refine gT rfl rfl rfl ?_) | (refine isU ?_; refine gU rfl ?_) | (refine isG ?_; refine gG rfl rfl ?_) | (refine isx_call ?_; (refine isx_call ?_; refine lx_call0 (ha2) ((fun w hm => in_ro (row_ro 3 rfl hm) (in_nil hm) rfl)) rfl rfl rfl rfl rfl rfl rfl rfl ?_; rintro v_ Lo_ ⟨Ag, cg, gs, rfl, tg, fitg, leg, rfl⟩)) | (refine isx_box ?_; refine gB rfl rfl rfl rfl rfl rfl ?_; intro b_) | (refine isx_alloc ?_; refine gA rfl rfl rfl rfl rfl rfl rfl ?_; intro b_) | (refine isx_store ?_; refine gS 0 rfl rfl rfl rfl rfl rfl rfl rfl rfl rfl ?_) | (refine isx_store ?_; refine gS 1 rfl rfl rfl rfl rfl rfl rfl rfl rfl rfl ?_) | (refine isx_store ?_; refine gS 2 rfl rfl rfl rfl rfl rfl rfl rfl rfl rfl ?_) | (refine isx_store ?_; refine gS 3 rfl rfl rfl rfl rfl rfl rfl rfl rfl rfl ?_) | (refine isx_row ?_; refine lx_row (E := EV) rfl rfl rfl rfl rfl rfl rfl rfl rfl rfl rfl rfl rfl ?_; intro b_) | refine lx_nil ?_ | with_reducible refine tq_n ?_ | with_reducible refine tq_r ?_ | with_reducible refine tq_e ?_ | with_reducible refine bk_n ?_ | with_reducible refine bk_r ?_ | (with_reducible refine bk_e ?_ ?_; exact rfl) | (with_reducible refine bk_x ?_ ?_; exact rfl) | refine cx_seq ?_ | refine cx_region ?_ | refine cx_block ?_ | refine cx_ret ?_ | refine cx_skip ?_ | refine cx_exit ?_ | fail)
    have hfg : fs.length = gs.length := by rw [← tell_len, ← tell_len, tf, tg]
    refine lx_weak (L' := [.own Ag gs.length cg 58 2 (fcells gs), .own Af fs.length cf 44 2 (fcells fs), .own Ay bd.length cy 5 1 (bvs bd), .own Ax bd.length cx 5 1 (bvs bd), .ro Ao l.length 1 (bvs l), .ro A l.length 1 (bvs l)] ++ (bods fs ++ bods gs)) Gives.mid ?_
    rw [← hfg]
    have hsame := sameF_fn Af Ag fs.length cf cg fs gs rfl (by rw [tf, tg]) (by omega)
    repeat (first | refine lx_not rfl rfl rfl rfl ?_ | refine lx_notu rfl rfl rfl rfl rfl ?_ | ((first | (apply lx_gt; exact rfl; exact rfl; exact rfl) | (apply lx_u; exact rfl) | (apply lx_g; exact rfl; exact rfl)); first | (apply isy_bin_neq; exact yl_false (yl_op (E := EV) rfl) (fun _ => bne_self_eq_false _)) | fail) | (refine isG ?_; refine gT rfl rfl rfl ?_) | (refine isU ?_; refine gU rfl ?_) | (refine isG ?_; refine gG rfl rfl ?_) | (refine isx_call ?_; refine lx_gcallt (sameB_fn Ax Ay bd.length cx bd.length cy bd bd rfl rfl (by omega) (by omega) rfl) ((fun w hm => in_ro (row_own 3 rfl hm) (in_ro (row_own 2 rfl hm) (in_nil hm) rfl) rfl)) rfl rfl rfl rfl rfl rfl rfl ?_) | (refine isx_call ?_; refine lx_gcallt (hsame) ((fun w hm => fds_in (fds_own 1 hm rfl fun x hx => by simp [hx]) (fds_in (fds_own 0 hm rfl fun x hx => by simp [hx]) (in_nil hm) rfl) rfl)) rfl rfl rfl rfl rfl rfl rfl ?_) | (refine isx_box ?_; refine gB rfl rfl rfl rfl rfl rfl ?_; intro b_) | (refine isx_alloc ?_; refine gA rfl rfl rfl rfl rfl rfl rfl ?_; intro b_) | (refine isx_store ?_; refine gS 0 rfl rfl rfl rfl rfl rfl rfl rfl rfl rfl ?_) | (refine isx_store ?_; refine gS 1 rfl rfl rfl rfl rfl rfl rfl rfl rfl rfl ?_) | (refine isx_store ?_; refine gS 2 rfl rfl rfl rfl rfl rfl rfl rfl rfl rfl ?_) | (refine isx_store ?_; refine gS 3 rfl rfl rfl rfl rfl rfl rfl rfl rfl rfl ?_) | (refine isx_row ?_; refine lx_row (E := EV) rfl rfl rfl rfl rfl rfl rfl rfl rfl rfl rfl rfl rfl ?_; intro b_) | refine lx_nil ?_ | with_reducible refine tq_n ?_ | with_reducible refine tq_r ?_ | with_reducible refine tq_e ?_ | with_reducible refine bk_n ?_ | with_reducible refine bk_r ?_ | (with_reducible refine bk_e ?_ ?_; exact rfl) | (with_reducible refine bk_x ?_ ?_; exact rfl) | refine cx_seq ?_ | refine cx_region ?_ | refine cx_block ?_ | refine cx_ret ?_ | refine cx_skip ?_ | refine cx_exit ?_ | fail)
    refine cx_cond rfl (fun h => absurd h (by decide)) (fun _ => ?_)
    refine cx_weakL (L' := [.own Af fs.length cf 44 2 (fcells fs), .own Ax bd.length cx 5 1 (bvs bd), .ro Ao l.length 1 (bvs l), .ro A l.length 1 (bvs l)] ++ fs.map Fd.body) (Gives.trans (Gives.trans (Gives.pre [_, _, _, _, _, _] [1, 3, 4, 5] (by decide) rfl rfl) (Gives.sub (List.Sublist.append_left (List.sublist_append_left _ _) _))) (Gives.turned _ _)) ?_
    repeat (first | (refine isU ?_; refine gU rfl ?_) | (refine isG ?_; refine gG rfl rfl ?_) | (refine isx_call ?_; refine k_callT (spoil_own Ax bd.length cx _ bd (by omega) rfl) [_, _, _, _] ((fs.map Fd.body)) rfl [1] [1] [0, 2, 3] rfl rfl rfl rfl rfl rfl rfl rfl ?_; rintro v_ Lo_ ⟨rfl, rfl⟩) | (refine isx_box ?_; refine gB rfl rfl rfl rfl rfl rfl ?_; intro b_) | (refine isx_alloc ?_; refine gA rfl rfl rfl rfl rfl rfl rfl ?_; intro b_) | (refine isx_store ?_; refine gS 0 rfl rfl rfl rfl rfl rfl rfl rfl rfl rfl ?_) | (refine isx_store ?_; refine gS 1 rfl rfl rfl rfl rfl rfl rfl rfl rfl rfl ?_) | (refine isx_store ?_; refine gS 2 rfl rfl rfl rfl rfl rfl rfl rfl rfl rfl ?_) | (refine isx_store ?_; refine gS 3 rfl rfl rfl rfl rfl rfl rfl rfl rfl rfl ?_) | (refine isx_row ?_; refine lx_row (E := EV) rfl rfl rfl rfl rfl rfl rfl rfl rfl rfl rfl rfl rfl ?_; intro b_) | refine lx_nil ?_ | with_reducible refine tq_n ?_ | with_reducible refine tq_r ?_ | with_reducible refine tq_e ?_ | with_reducible refine bk_n ?_ | with_reducible refine bk_r ?_ | (with_reducible refine bk_e ?_ ?_; exact rfl) | (with_reducible refine bk_x ?_ ?_; exact rfl) | refine cx_seq ?_ | refine cx_region ?_ | refine cx_block ?_ | refine cx_ret ?_ | refine cx_skip ?_ | refine cx_exit ?_ | fail)
    refine cx_loop (α := { i : Nat // i ≤ fs.length }) (fun x => [(0, none, .slice A l.length c), (1, none, .int .i64 at'), (5, none, .slice Ao l.length co), (6, none, .int .i64 t), (13, none, .slice Af fs.length cf), (17, none, .int .i64 x.1)])
      (fun x => [.own Af fs.length cf 44 2 (fcells fs), .ro Ao l.length 1 (bvs l), .ro A l.length 1 (bvs l)] ++ (fs.drop x.1).map Fd.body) (fun x => fs.length - x.1) ⟨0, Nat.zero_le _⟩ ⟨rfl, rfl, rfl, rfl, rfl, rfl, trivial⟩ (Gives.pre [_, _, _, _] [1, 2, 3] (by decide) rfl rfl) ?_
    rintro ⟨i, hi⟩
    dsimp only
    repeat (first | (refine isU ?_; refine gU rfl ?_) | (refine isG ?_; refine gG rfl rfl ?_) | (refine isx_box ?_; refine gB rfl rfl rfl rfl rfl rfl ?_; intro b_) | (refine isx_alloc ?_; refine gA rfl rfl rfl rfl rfl rfl rfl ?_; intro b_) | (refine isx_store ?_; refine gS 0 rfl rfl rfl rfl rfl rfl rfl rfl rfl rfl ?_) | (refine isx_store ?_; refine gS 1 rfl rfl rfl rfl rfl rfl rfl rfl rfl rfl ?_) | (refine isx_store ?_; refine gS 2 rfl rfl rfl rfl rfl rfl rfl rfl rfl rfl ?_) | (refine isx_store ?_; refine gS 3 rfl rfl rfl rfl rfl rfl rfl rfl rfl rfl ?_) | (refine isx_row ?_; refine lx_row (E := EV) rfl rfl rfl rfl rfl rfl rfl rfl rfl rfl rfl rfl rfl ?_; intro b_) | refine lx_nil ?_ | with_reducible refine tq_n ?_ | with_reducible refine tq_r ?_ | with_reducible refine tq_e ?_ | with_reducible refine bk_n ?_ | with_reducible refine bk_r ?_ | (with_reducible refine bk_e ?_ ?_; exact rfl) | (with_reducible refine bk_x ?_ ?_; exact rfl) | refine cx_seq ?_ | refine cx_region ?_ | refine cx_block ?_ | refine cx_ret ?_ | refine cx_skip ?_ | refine cx_exit ?_ | fail)
    refine cx_cond rfl (fun h => ?_) (fun h => ?_)
    · have hlt : i < fs.length := by simp at h; omega
      clear h
      obtain ⟨x, hx⟩ : ∃ x, fs[i]? = some x := ⟨_, List.getElem?_eq_getElem hlt⟩
      have hx0 : (fcells fs)[mulI i 2 + 0]? = some (.slice x.r.A x.r.n x.r.c) := fcells_get hx 0 (by decide)
      have hfx := fitf x (List.mem_of_getElem? hx)
      rw [drop_body hx]
      repeat (first | ((first | (apply lx_u; exact rfl) | (apply lx_g; exact rfl; exact rfl)); first | (apply isy_indexAddr; exact q_ixo 0 rfl rfl rfl rfl rfl) | (apply isy_fieldAddr; exact q_fio 0 rfl rfl rfl rfl rfl rfl) | (apply isy_load; exact q_lio 0 rfl rfl rfl rfl hx0) | fail) | (refine isU ?_; refine gU rfl ?_) | (refine isG ?_; refine gG rfl rfl ?_) | (refine isx_call ?_; refine k_callT (spoil_own x.r.A x.r.n x.r.c _ x.r.l (by omega) hfx.1) [_, _, _, _] (((fs.drop (i + 1)).map Fd.body)) rfl [3] [3] [0, 1, 2] rfl rfl rfl rfl rfl rfl rfl rfl ?_; rintro v_ Lo_ ⟨rfl, rfl⟩) | (refine isx_box ?_; refine gB rfl rfl rfl rfl rfl rfl ?_; intro b_) | (refine isx_alloc ?_; refine gA rfl rfl rfl rfl rfl rfl rfl ?_; intro b_) | (refine isx_store ?_; refine gS 0 rfl rfl rfl rfl rfl rfl rfl rfl rfl rfl ?_) | (refine isx_store ?_; refine gS 1 rfl rfl rfl rfl rfl rfl rfl rfl rfl rfl ?_) | (refine isx_store ?_; refine gS 2 rfl rfl rfl rfl rfl rfl rfl rfl rfl rfl ?_) | (refine isx_store ?_; refine gS 3 rfl rfl rfl rfl rfl rfl rfl rfl rfl rfl ?_) | (refine isx_row ?_; refine lx_row (E := EV) rfl rfl rfl rfl rfl rfl rfl rfl rfl rfl rfl rfl rfl ?_; intro b_) | refine lx_nil ?_ | with_reducible refine tq_n ?_ | with_reducible refine tq_r ?_ | with_reducible refine tq_e ?_ | with_reducible refine bk_n ?_ | with_reducible refine bk_r ?_ | (with_reducible refine bk_e ?_ ?_; exact rfl) | (with_reducible refine bk_x ?_ ?_; exact rfl) | refine cx_seq ?_ | refine cx_region ?_ | refine cx_block ?_ | refine cx_ret ?_ | refine cx_skip ?_ | refine cx_exit ?_ | fail)
      exact ⟨⟨i + 1, by omega⟩, ⟨rfl, rfl, rfl, rfl, rfl, slot_int (by dsimp only; omega), trivial⟩, Gives.pre [_, _, _, _] [1, 2, 3] (by decide) rfl rfl, by dsimp only; omega⟩
    repeat (first | (refine isU ?_; refine gU rfl ?_) | (refine isG ?_; refine gG rfl rfl ?_) | (refine isx_box ?_; refine gB rfl rfl rfl rfl rfl rfl ?_; intro b_) | (refine isx_alloc ?_; refine gA rfl rfl rfl rfl rfl rfl rfl ?_; intro b_) | (refine isx_store ?_; refine gS 0 rfl rfl rfl rfl rfl rfl rfl rfl rfl rfl ?_) | (refine isx_store ?_; refine gS 1 rfl rfl rfl rfl rfl rfl rfl rfl rfl rfl ?_) | (refine isx_store ?_; refine gS 2 rfl rfl rfl rfl rfl rfl rfl rfl rfl rfl ?_) | (refine isx_store ?_; refine gS 3 rfl rfl rfl rfl rfl rfl rfl rfl rfl rfl ?_) | (refine isx_row ?_; refine lx_row (E := EV) rfl rfl rfl rfl rfl rfl rfl rfl rfl rfl rfl rfl rfl ?_; intro b_) | refine lx_nil ?_ | with_reducible refine tq_n ?_ | with_reducible refine tq_r ?_ | with_reducible refine tq_e ?_ | with_reducible refine bk_n ?_ | with_reducible refine bk_r ?_ | (with_reducible refine bk_e ?_ ?_; exact rfl) | (with_reducible refine bk_x ?_ ?_; exact rfl) | refine cx_seq ?_ | refine cx_region ?_ | refine cx_block ?_ | refine cx_ret ?_ | refine cx_skip ?_ | refine cx_exit ?_ | fail)
    exact ⟨⟨t + 1, by omega⟩, ⟨rfl, rfl, rfl, slot_int (by dsimp only; omega), trivial⟩, Gives.pick [1, 2] (by decide) rfl, by dsimp only; omega⟩
  repeat (first | refine lx_not rfl rfl rfl rfl ?_ | refine lx_notu rfl rfl rfl rfl rfl ?_ | (refine isG ?_; refine gT rfl rfl rfl ?_) | (refine isU ?_; refine gU rfl ?_) | (refine isG ?_; refine gG rfl rfl ?_) | (refine isx_call ?_; refine lx_gcallt (sameB_fn A Ao l.length c l.length co l l rfl rfl (by omega) (by omega) rfl) ((fun w hm => in_ro (row_ro 1 rfl hm) (in_ro (row_ro 0 rfl hm) (in_nil hm) rfl) rfl)) rfl rfl rfl rfl rfl rfl rfl ?_) | (refine isx_call ?_; refine lx_gcallt (works_fn) (fun _ hm => in_nil hm) rfl rfl rfl rfl rfl rfl rfl ?_) | (refine isx_box ?_; refine gB rfl rfl rfl rfl rfl rfl ?_; intro b_) | (refine isx_alloc ?_; refine gA rfl rfl rfl rfl rfl rfl rfl ?_; intro b_) | (refine isx_store ?_; refine gS 0 rfl rfl rfl rfl rfl rfl rfl rfl rfl rfl ?_) | (refine isx_store ?_; refine gS 1 rfl rfl rfl rfl rfl rfl rfl rfl rfl rfl ?_) | (refine isx_store ?_; refine gS 2 rfl rfl rfl rfl rfl rfl rfl rfl rfl rfl ?_) | (refine isx_store ?_; refine gS 3 rfl rfl rfl rfl rfl rfl rfl rfl rfl rfl ?_) | (refine isx_row ?_; refine lx_row (E := EV) rfl rfl rfl rfl rfl rfl rfl rfl rfl rfl rfl rfl rfl ?_; intro b_) | refine lx_nil ?_ | with_reducible refine tq_n ?_ | with_reducible refine tq_r ?_ | with_reducible refine tq_e ?_ | with_reducible refine bk_n ?_ | with_reducible refine bk_r ?_ | (with_reducible refine bk_e ?_ ?_; exact rfl) | (with_reducible refine bk_x ?_ ?_; exact rfl) | refine cx_seq ?_ | refine cx_region ?_ | refine cx_block ?_ | refine cx_ret ?_ | refine cx_skip ?_ | refine cx_exit ?_ | fail)
  exact bq_ret (ret_tmp rfl rfl) [] (Gives.nil _) rfl ⟨rfl, rfl⟩
theorem takes_all (x0 : Sl B8) (x1 : Int) (W : World) (h0 : u8ok W x0) (h1 : Lit.wf (.int .i64 x1)) :
    Calls Try.prog 4 #[.slice x0.A x0.n x0.c, .int .i64 x1] W fun e W' => e = .returned (.bool true) ∧ Below W.heap.size W W' := by
  refine (takes_fn x0.A x0.n x0.c x0.l x1 h0.2.1 h0.2.2 ?_).yes W (in_ro h0.1 (mem0 W) rfl)
  have e1 : IntKind.i64.min = -9223372036854775808 := rfl
  simp [Lit.wf] at h1
  omega
end Go.Proofs.Ythmdiopbiiimeaa.fr
namespace Go.Proofs.Ythmdiopbiiimeaa.fr
open Go.RowKit Go.Proofs.Ythmdiopbiiimeaa.kit Go.Proofs.Ythmdiopbiiimeaa.pk Go.Proofs.Ythmdiopbiiimeaa.chk Go.Proofs.Ythmdiopbiiimeaa.crc
theorem flip_left (x r : List B8) (q : Nat) (h : q < 8 * x.length) : crc.flip (x ++ r) q = crc.flip x q ++ r := by
  have hq : q / 8 < x.length := by omega
  unfold crc.flip
  rw [List.set_append_left _ _ hq, List.getD_eq_getElem?_getD, List.getD_eq_getElem?_getD, List.getElem?_append_left hq]
theorem flip_right (x r : List B8) (q : Nat) : crc.flip (x ++ r) (8 * x.length + q) = x ++ crc.flip r q := by
  have h1 : (8 * x.length + q) / 8 = x.length + q / 8 := by omega
  have h2 : (8 * x.length + q) % 8 = q % 8 := by omega
  unfold crc.flip
  rw [h1, h2, List.set_append_right _ _ (by omega), Nat.add_sub_cancel_left, List.getD_eq_getElem?_getD, List.getD_eq_getElem?_getD, List.getElem?_append_right (by omega), Nat.add_sub_cancel_left]
theorem bit_ne (x : B8) (j : Nat) (hj : j < 8) : x ^^^ (1#8 <<< j) ≠ x := by
  intro he
  have h1 := congrArg (x ^^^ ·) he
  simp only [← BitVec.xor_assoc, BitVec.xor_self, BitVec.zero_xor] at h1
  have h2 : ∀ j : Fin 8, 1#8 <<< j.val ≠ 0#8 := by decide
  exact h2 ⟨j, hj⟩ h1
theorem flip_ne (y : List B8) (q : Nat) (h : q < 8 * y.length) : crc.flip y q ≠ y := by
  intro he
  have hq : q / 8 < y.length := by omega
  have h1 := congrArg (fun l => l[q / 8]?) he
  unfold crc.flip at h1
  simp only [List.getElem?_set_self hq, List.getD_eq_getElem?_getD, List.getElem?_eq_getElem hq, Option.getD_some] at h1
  exact bit_ne _ _ (Nat.mod_lt _ (by decide)) (Option.some.inj h1)
theorem sum_flip {b : List B8} {q : Nat} (h : q < 8 * (b.length + 4)) : ¬ sumL ((crc.flip (b ++ sumL b) q).take b.length) = (crc.flip (b ++ sumL b) q).drop b.length := by
  by_cases h1 : q < 8 * b.length
  · rw [flip_left _ _ _ h1, List.take_left' (flip_length _ _), List.drop_left' (flip_length _ _)]
    intro he
    have h2 := be4_inj he
    have h3 := congrArg (· ^^^ ones) h2
    simp only [upd, ones_ones] at h3
    rw [takes_flip _ _ _ h1] at h3
    refine e_ne (8 * b.length - q) ?_
    have h4 := congrArg (takes (0#32 ^^^ ones) b ^^^ ·) h3
    simpa only [← BitVec.xor_assoc, BitVec.xor_self, BitVec.zero_xor] using h4
  · obtain ⟨q', rfl⟩ : ∃ q', q = 8 * b.length + q' := ⟨q - 8 * b.length, by omega⟩
    rw [flip_right, List.take_left' rfl, List.drop_left' rfl]
    intro he
    exact flip_ne (sumL b) q' (by rw [sumL_len]; omega) he.symm
/-- a frame, or what looks like one: its number, and what stands behind it -/
abbrev Itm := Nat × List B8
def Itm.bytes (x : Itm) : List B8 := be4 x.1 ++ x.2
def Itm.ok (x : Itm) : Prop := x.1 ≤ 8192 ∧ x.2.length = x.1 + 4
def Itm.tell (x : Itm) : List B8 × Int := if sumL (x.2.take x.1) = x.2.drop x.1 then (x.2.take x.1, 0) else ([], 72)
theorem takeF_itm {l : List B8} {a : Nat} {x : Itm} {rest : List B8} (hd : l.drop a = x.bytes ++ rest) (hx : x.ok) :
    takeF l (a : Int) = (x.tell.1, ((a + 8 + x.1 : Nat) : Int), x.tell.2) ∧ a + 8 + x.1 ≤ l.length ∧ l.drop (a + 8 + x.1) = rest := by
  obtain ⟨n, y⟩ := x
  obtain ⟨h8, hy⟩ := hx
  dsimp only at h8 hy
  unfold Itm.bytes at hd
  dsimp only at hd
  rw [List.append_assoc] at hd
  have hb4 : (be4 n).length = 4 := be_len _ _
  have hlen := congrArg List.length hd
  rw [List.length_drop, List.length_append, List.length_append, hb4, hy] at hlen
  have hd4 : l.drop (a + 4) = y ++ rest := by rw [← List.drop_drop, hd, List.drop_left' hb4]
  have e1 : l4 l a = be4 n := by rw [l4, hd, List.take_left' hb4]
  have e2 : num4 l a = n := by
    rw [num4, e1, be4, de_mod 4 _ (by decide), BitVec.toNat_ofNat]
    have : (256 : Nat) ^ 4 = 4294967296 := by decide
    omega
  have e3 : bod l a n = y.take n := by rw [bod, hd4, List.take_append_of_le_length (by omega)]
  have e5 : l.drop (a + 4 + n) = y.drop n ++ rest := by rw [← List.drop_drop, hd4, List.drop_append_of_le_length (by omega)]
  have e4 : l4 l (a + 4 + n) = y.drop n := by rw [l4, e5, List.take_left' (by rw [List.length_drop]; omega)]
  have h9 := sum4_be (l := l) (a := a) (n := n) (by omega)
  rw [e4] at h9
  have e6 : l.drop (a + 8 + n) = rest := by
    rw [show a + 8 + n = a + 4 + n + 4 by omega, ← List.drop_drop, e5, List.drop_left' (by rw [List.length_drop]; omega)]
  refine ⟨?_, by dsimp only; omega, e6⟩
  unfold Itm.tell
  dsimp only
  by_cases hs : sumL (y.take n) = y.drop n
  · rw [if_pos hs, takeF_good (by omega) (by omega) (by rw [e2, e3]; exact be4_inj (hs.trans h9.symm)), e2, e3]
  · rw [if_neg hs, takeF_bad (by omega) (by omega) (by rw [e2, e3]; intro h; exact hs (by rw [sumL, h, h9])), e2]
theorem Itm.tell_ne (x : Itm) : x.tell.2 ≠ 70 ∧ x.tell.2 ≠ 71 := by
  unfold Itm.tell
  split
  · exact ⟨show (0 : Int) ≠ 70 by decide, show (0 : Int) ≠ 71 by decide⟩
  · exact ⟨show (72 : Int) ≠ 70 by decide, show (72 : Int) ≠ 71 by decide⟩
theorem all_items (l : List B8) : ∀ (xs : List Itm) (a : Nat) (acc : Told), a ≤ l.length → l.drop a = xs.flatMap Itm.bytes → (∀ x ∈ xs, x.ok) → OnAll l a acc → allF l = (acc ++ xs.map Itm.tell, l.length)
  | [], a, acc, ha, hd, _, h => by
    have h1 := congrArg List.length hd
    rw [List.length_drop] at h1
    have h2 : l.length - a = 0 := h1
    have he : takeF l (a : Int) = ([], (a : Int), 70) := takeF_more (by omega)
    rw [onAll_end h (by rw [he]), List.map_nil, List.append_nil, show a = l.length by omega]
  | x :: xs, a, acc, ha, hd, hok, h => by
    obtain ⟨h1, h2, h3⟩ := takeF_itm (rest := xs.flatMap Itm.bytes) hd (hok x (List.mem_cons_self ..))
    have hn := x.tell_ne
    have h4 := onAll_next (b := a + 8 + x.1) h (by rw [h1]; exact hn.1) (by rw [h1]; exact hn.2) (by rw [h1])
    rw [all_items l xs _ _ h2 h3 (fun y hy => hok y (List.mem_cons_of_mem _ hy)) h4, h1, List.append_assoc]
    rfl
def itm (r : Rw) : Itm := (r.l.length, r.l ++ sumL r.l)
theorem itm_ok {r : Rw} (h : r.l.length ≤ 8192) : (itm r).ok := ⟨h, by rw [itm, List.length_append, sumL_len]⟩
theorem itm_tell (r : Rw) : (itm r).tell = (r.l, 0) := by
  unfold Itm.tell itm
  dsimp only
  rw [List.take_left' rfl, List.drop_left' rfl, if_pos rfl]
theorem itms_bytes (rs : List Rw) : (rs.map itm).flatMap Itm.bytes = frms rs := by
  rw [List.flatMap_map]
  rfl
def oks (rs : List Rw) : Told := rs.map fun r => (r.l, 0)
theorem oks_eq (rs : List Rw) : (rs.map itm).map Itm.tell = oks rs := by
  rw [List.map_map, oks]
  exact List.map_congr_left fun r _ => itm_tell r
theorem itms_ok {rs : List Rw} (h : okTo rs) : ∀ x ∈ rs.map itm, x.ok := by
  intro x hx
  obtain ⟨r, hr, rfl⟩ := List.mem_map.1 hx
  exact itm_ok (h r hr)
theorem all_good {rs : List Rw} (h : okTo rs) : allF (frms rs) = (oks rs, (frms rs).length) := by
  have := all_items (frms rs) (rs.map itm) 0 [] (Nat.zero_le _) (itms_bytes rs).symm (itms_ok h) (onAll_start _)
  rw [this, List.nil_append, oks_eq]
theorem all_odd {rs : List Rw} {k q : Nat} {r : Rw} (h : okTo rs) (hk : rs[k]? = some r) (hq : q < 8 * (r.l.length + 4)) :
    allF (crc.flip (frms rs) (8 * (frms (rs.take k)).length + (32 + q))) = ((oks rs).set k ([], 72), (frms rs).length) := by
  obtain ⟨hlt, rfl⟩ := List.getElem?_eq_some_iff.1 hk
  generalize hr : rs[k] = r at *
  have hx : (r.l ++ sumL r.l).length = r.l.length + 4 := by rw [List.length_append, sumL_len]
  have hb4 : (be4 r.l.length).length = 4 := be_len _ _
  have e : rs = rs.take k ++ r :: rs.drop (k + 1) := by rw [← hr, ← List.drop_eq_getElem_cons hlt, List.take_append_drop]
  have e1 : frms rs = frms (rs.take k) ++ (be4 r.l.length ++ ((r.l ++ sumL r.l) ++ frms (rs.drop (k + 1)))) := by
    conv => lhs; rw [e]
    rw [frms, List.flatMap_append, List.flatMap_cons, frm, List.append_assoc, List.append_assoc, List.append_assoc]
    rfl
  have e2 : crc.flip (frms rs) (8 * (frms (rs.take k)).length + (32 + q)) = ((rs.take k).map itm ++ ((r.l.length, crc.flip (r.l ++ sumL r.l) q) : Itm) :: (rs.drop (k + 1)).map itm).flatMap Itm.bytes := by
    rw [e1, flip_right, show 32 + q = 8 * (be4 r.l.length).length + q by rw [hb4], flip_right, flip_left _ _ _ (by rw [hx]; exact hq), List.flatMap_append, List.flatMap_cons, itms_bytes, itms_bytes, Itm.bytes, List.append_assoc]
  have hl : (crc.flip (frms rs) (8 * (frms (rs.take k)).length + (32 + q))).length = (frms rs).length := flip_length _ _
  have h1 : okTo (rs.take k) := fun x hx => h x (List.mem_of_mem_take hx)
  have h2 : okTo (rs.drop (k + 1)) := fun x hx => h x (List.mem_of_mem_drop hx)
  have h3 : r.l.length ≤ 8192 := h r (List.mem_of_getElem? hk)
  have := all_items (crc.flip (frms rs) (8 * (frms (rs.take k)).length + (32 + q))) _ 0 [] (Nat.zero_le _) e2 (by
    intro x hx
    rcases List.mem_append.1 hx with hx | hx
    · exact itms_ok h1 x hx
    · rcases List.mem_cons.1 hx with rfl | hx
      · exact ⟨h3, by rw [flip_length]; exact ‹(r.l ++ sumL r.l).length = _›⟩
      · exact itms_ok h2 x hx) (onAll_start _)
  rw [this, hl, List.nil_append, List.map_append, List.map_cons, oks_eq, oks_eq, List.set_eq_take_append_cons_drop, if_pos (by rw [oks, List.length_map]; exact hlt)]
  have et : Itm.tell (r.l.length, crc.flip (r.l ++ sumL r.l) q) = ([], 72) := if_neg (sum_flip hq)
  rw [et, oks, oks, oks, List.map_take, List.map_drop]
theorem odd_get {rs : List Rw} {k i : Nat} {r : Rw} (h : rs[i]? = some r) (hne : i ≠ k) : ((oks rs).set k ([], 72))[i]? = some (r.l, 0) := by
  rw [List.getElem?_set_ne (fun e => hne e.symm), oks, List.getElem?_map, h]
  rfl
theorem oks_get {rs : List Rw} {i : Nat} {r : Rw} (h : rs[i]? = some r) : (oks rs)[i]? = some (r.l, 0) := by
  rw [oks, List.getElem?_map, h]
  rfl
end Go.Proofs.Ythmdiopbiiimeaa.fr
namespace Go.Proofs.Ythmdiopbiiimeaa.fr
open Go.RowKit Go.Proofs.Ythmdiopbiiimeaa.kit Go.Proofs.Ythmdiopbiiimeaa.pk Go.Proofs.Ythmdiopbiiimeaa.chk Go.Proofs.Ythmdiopbiiimeaa.crc
theorem flip_setL {o : List B8} {p : Nat} {x : B8} (hx : o[p / 8]? = some x) : setL (bvs o) (mulI (p / 8) 1) [bv (x ^^^ (1#8 <<< (p % 8)))] = bvs (crc.flip o p) := by
  have hlt := (List.getElem?_eq_some_iff.1 hx).1
  have hg : o.getD (p / 8) 0#8 = x := by rw [List.getD_eq_getElem?_getD, hx]; rfl
  rw [mulI, setL_one _ _ _ (by rw [bvs_len]; exact hlt), crc.flip, hg, bvs, bvs, List.map_set]
theorem quo8 (p : Nat) (h : p < 4611686018427387904) : IntKind.i64.wrap ((p : Int).tdiv 8) = ((p / 8 : Nat) : Int) := by
  rw [Int.tdiv_eq_ediv_of_nonneg (by omega), IntKind.wrap_i64]
  omega
theorem frms_len_le (rs : List Rw) (h : ∀ r ∈ rs, r.l.length ≤ 400) : (frms rs).length ≤ 408 * rs.length := by
  induction rs with
  | nil => simp [frms]
  | cons r rs ih =>
    have h1 := ih (fun x hx => h x (List.mem_cons_of_mem _ hx))
    have h2 := h r (List.mem_cons_self ..)
    have e : frms (r :: rs) = frm r.l ++ frms rs := rfl
    rw [e, List.length_append, frm_len, List.length_cons]
    omega
theorem frms_place {rs : List Rw} {k : Nat} {r : Rw} (hk : rs[k]? = some r) : (frms (rs.take k)).length + (r.l.length + 8) ≤ (frms rs).length := by
  have h1 := frms_take hk
  have h2 : frms rs = frms (rs.take (k + 1)) ++ frms (rs.drop (k + 1)) := by
    rw [frms, frms, frms, ← List.flatMap_append, List.take_append_drop]
  rw [h2, List.length_append, h1, List.length_append, frm_len]
  omega
/-- a row that is one's own, and its bodies, as they are read -/
theorem Gives.fdsOf {A : Option Addr} {n c : Nat} {T : TypeId} {fs : List Fd} (S : List Ck) : Gives ((.own A n c T 2 (fcells fs) :: S) ++ bods fs) (Ck.fds A n fs :: S) := fun M w hm => by
  have hfd : fdP A n fs w := fds_own 0 hm rfl (fun x hx => by simp [hx])
  obtain ⟨h1, _, h3⟩ := List.pairwise_append.1 hm.sep
  refine ⟨hm.keep, fun x hx => ?_, fun x hx hmu => ?_, List.Pairwise.cons (fun x hx hmu b hb hb' => ?_) (List.pairwise_cons.1 h1).2⟩
  · rcases List.mem_cons.1 hx with rfl | hx
    · exact hfd
    · exact hm.all x (by simp [hx])
  · rcases List.mem_cons.1 hx with rfl | hx
    · cases hmu
    · exact hm.out x (by simp [hx]) hmu
  · rcases hb with ⟨hn, hb⟩ | ⟨y, hy, hn, hb⟩
    · exact (List.pairwise_cons.1 h1).1 x hx (.inl rfl) b hb hb'
    · exact h3 x (List.mem_cons_of_mem _ hx) y.body (List.mem_map.2 ⟨y, List.mem_reverse.2 hy, rfl⟩) (.inr rfl) b hb' hb
theorem all_known (A : Option Addr) (n c : Nat) (l : List B8) (ts : Told) (en k : Nat) (h : allF l = (ts, en)) (hk : ts.length = k) (hl : l.length = n) (hc : n ≤ c ∧ c ≤ 9223372036854775807) (hn : n ≤ 1000000) : Fn Try.prog 20 [.slice A n c] [.ro A n 1 (bvs l)] []
    fun v Lo => ∃ A' c' fs, v = .tuple #[.slice A' k c', .int .i64 en] ∧ tell fs = ts ∧ Fit fs ∧ Lo = .own A' k c' 44 2 (fcells fs) :: bods fs := by
  have ha := all_fn A n c l hl hc hn
  unfold AllP at ha
  rw [h] at ha
  refine ha.mono ?_
  rintro v Lo ⟨A', c', fs, rfl, ht, hf, _, rfl⟩
  have : fs.length = k := by rw [← tell_len, ht, hk]
  exact ⟨A', c', fs, by rw [this], ht, hf, by rw [this]⟩
theorem oks_len (rs : List Rw) : (oks rs).length = rs.length := by rw [oks, List.length_map]
attribute [local irreducible] LX CX Yl Gives RetIs Fn
attribute [local irreducible] be de upd takeF num4 sum4 frm allF crc.flip frms oks
set_option maxHeartbeats 8000000 in
theorem spoilt_fn (A : Option Addr) (n c : Nat) (rs : List Rw) (wh bt : Int) (hl : rs.length = n) (hn : n ≤ 9223372036854775807) :
    Fn Try.prog 5 [.slice A n c, .int .i64 wh, .int .i64 bt] [.rows A n rs] [] fun v Lo => v = .bool true ∧ Lo = [] := by
  subst hl
  have hfew := few_fn A rs.length c rs rfl hn
  refine fn_enter Try.func5 rfl rfl (by kernel_rfl) rfl ?_
  intro w0
  by_cases hf : ¬ (few rs = true ∧ rs ≠ [])
  · by_cases h0 : few rs = true
    · obtain rfl : rs = [] := by
        by_cases h1 : rs = []
        · exact h1
        · exact absurd ⟨h0, h1⟩ hf
      rw [h0] at hfew
      repeat (first | refine lx_not rfl rfl rfl rfl ?_ | refine lx_notu rfl rfl rfl rfl rfl ?_ | ((first | (apply lx_gt; exact rfl; exact rfl; exact rfl) | (apply lx_u; exact rfl) | (apply lx_g; exact rfl; exact rfl)); first | (apply isy_bin_eql; exact yl_true (yl_op (E := EV) rfl) (fun _ => rfl)) | fail) | (refine isG ?_; refine gT rfl rfl rfl ?_) | (refine isU ?_; refine gU rfl ?_) | (refine isG ?_; refine gG rfl rfl ?_) | (refine isx_call ?_; refine lx_gcallt (hfew) ((fun w hm => rows_in (hm.get (k := 0) rfl) (in_nil hm) rfl)) rfl rfl rfl rfl rfl rfl rfl ?_) | (refine isx_box ?_; refine gB rfl rfl rfl rfl rfl rfl ?_; intro b_) | (refine isx_alloc ?_; refine gA rfl rfl rfl rfl rfl rfl rfl ?_; intro b_) | (refine isx_store ?_; refine gS 0 rfl rfl rfl rfl rfl rfl rfl rfl rfl rfl ?_) | (refine isx_store ?_; refine gS 1 rfl rfl rfl rfl rfl rfl rfl rfl rfl rfl ?_) | (refine isx_store ?_; refine gS 2 rfl rfl rfl rfl rfl rfl rfl rfl rfl rfl ?_) | (refine isx_store ?_; refine gS 3 rfl rfl rfl rfl rfl rfl rfl rfl rfl rfl ?_) | (refine isx_row ?_; refine lx_row (E := EV) rfl rfl rfl rfl rfl rfl rfl rfl rfl rfl rfl rfl rfl ?_; intro b_) | refine lx_nil ?_ | with_reducible refine tq_n ?_ | with_reducible refine tq_r ?_ | with_reducible refine tq_e ?_ | with_reducible refine bk_n ?_ | with_reducible refine bk_r ?_ | (with_reducible refine bk_e ?_ ?_; exact rfl) | (with_reducible refine bk_x ?_ ?_; exact rfl) | refine cx_seq ?_ | refine cx_region ?_ | refine cx_block ?_ | refine cx_ret ?_ | refine cx_skip ?_ | refine cx_exit ?_ | fail)
      refine cx_cond rfl (fun _ => ?_) (fun h => absurd h (by decide))
      repeat (first | (refine isU ?_; refine gU rfl ?_) | (refine isG ?_; refine gG rfl rfl ?_) | (refine isx_call ?_; refine k_gcall (works_fn) (fun _ hm => in_nil hm) rfl rfl rfl rfl rfl rfl ?_) | (refine isx_box ?_; refine gB rfl rfl rfl rfl rfl rfl ?_; intro b_) | (refine isx_alloc ?_; refine gA rfl rfl rfl rfl rfl rfl rfl ?_; intro b_) | (refine isx_store ?_; refine gS 0 rfl rfl rfl rfl rfl rfl rfl rfl rfl rfl ?_) | (refine isx_store ?_; refine gS 1 rfl rfl rfl rfl rfl rfl rfl rfl rfl rfl ?_) | (refine isx_store ?_; refine gS 2 rfl rfl rfl rfl rfl rfl rfl rfl rfl rfl ?_) | (refine isx_store ?_; refine gS 3 rfl rfl rfl rfl rfl rfl rfl rfl rfl rfl ?_) | (refine isx_row ?_; refine lx_row (E := EV) rfl rfl rfl rfl rfl rfl rfl rfl rfl rfl rfl rfl rfl ?_; intro b_) | refine lx_nil ?_ | with_reducible refine tq_n ?_ | with_reducible refine tq_r ?_ | with_reducible refine tq_e ?_ | with_reducible refine bk_n ?_ | with_reducible refine bk_r ?_ | (with_reducible refine bk_e ?_ ?_; exact rfl) | (with_reducible refine bk_x ?_ ?_; exact rfl) | refine cx_seq ?_ | refine cx_region ?_ | refine cx_block ?_ | refine cx_ret ?_ | refine cx_skip ?_ | refine cx_exit ?_ | fail)
      exact bq_ret (ret_tmp rfl rfl) [] (Gives.nil _) rfl ⟨rfl, rfl⟩
    have h1 : few rs = false := by simpa using h0
    rw [h1] at hfew
    repeat (first | refine lx_not rfl rfl rfl rfl ?_ | refine lx_notu rfl rfl rfl rfl rfl ?_ | (refine isG ?_; refine gT rfl rfl rfl ?_) | (refine isU ?_; refine gU rfl ?_) | (refine isG ?_; refine gG rfl rfl ?_) | (refine isx_call ?_; refine lx_gcallt (hfew) ((fun w hm => rows_in (hm.get (k := 0) rfl) (in_nil hm) rfl)) rfl rfl rfl rfl rfl rfl rfl ?_) | (refine isx_box ?_; refine gB rfl rfl rfl rfl rfl rfl ?_; intro b_) | (refine isx_alloc ?_; refine gA rfl rfl rfl rfl rfl rfl rfl ?_; intro b_) | (refine isx_store ?_; refine gS 0 rfl rfl rfl rfl rfl rfl rfl rfl rfl rfl ?_) | (refine isx_store ?_; refine gS 1 rfl rfl rfl rfl rfl rfl rfl rfl rfl rfl ?_) | (refine isx_store ?_; refine gS 2 rfl rfl rfl rfl rfl rfl rfl rfl rfl rfl ?_) | (refine isx_store ?_; refine gS 3 rfl rfl rfl rfl rfl rfl rfl rfl rfl rfl ?_) | (refine isx_row ?_; refine lx_row (E := EV) rfl rfl rfl rfl rfl rfl rfl rfl rfl rfl rfl rfl rfl ?_; intro b_) | refine lx_nil ?_ | with_reducible refine tq_n ?_ | with_reducible refine tq_r ?_ | with_reducible refine tq_e ?_ | with_reducible refine bk_n ?_ | with_reducible refine bk_r ?_ | (with_reducible refine bk_e ?_ ?_; exact rfl) | (with_reducible refine bk_x ?_ ?_; exact rfl) | refine cx_seq ?_ | refine cx_region ?_ | refine cx_block ?_ | refine cx_ret ?_ | refine cx_skip ?_ | refine cx_exit ?_ | fail)
    refine cx_cond rfl (fun _ => ?_) (fun h => absurd h (by decide))
    repeat (first | (refine isU ?_; refine gU rfl ?_) | (refine isG ?_; refine gG rfl rfl ?_) | (refine isx_call ?_; refine k_gcall (works_fn) (fun _ hm => in_nil hm) rfl rfl rfl rfl rfl rfl ?_) | (refine isx_box ?_; refine gB rfl rfl rfl rfl rfl rfl ?_; intro b_) | (refine isx_alloc ?_; refine gA rfl rfl rfl rfl rfl rfl rfl ?_; intro b_) | (refine isx_store ?_; refine gS 0 rfl rfl rfl rfl rfl rfl rfl rfl rfl rfl ?_) | (refine isx_store ?_; refine gS 1 rfl rfl rfl rfl rfl rfl rfl rfl rfl rfl ?_) | (refine isx_store ?_; refine gS 2 rfl rfl rfl rfl rfl rfl rfl rfl rfl rfl ?_) | (refine isx_store ?_; refine gS 3 rfl rfl rfl rfl rfl rfl rfl rfl rfl rfl ?_) | (refine isx_row ?_; refine lx_row (E := EV) rfl rfl rfl rfl rfl rfl rfl rfl rfl rfl rfl rfl rfl ?_; intro b_) | refine lx_nil ?_ | with_reducible refine tq_n ?_ | with_reducible refine tq_r ?_ | with_reducible refine tq_e ?_ | with_reducible refine bk_n ?_ | with_reducible refine bk_r ?_ | (with_reducible refine bk_e ?_ ?_; exact rfl) | (with_reducible refine bk_x ?_ ?_; exact rfl) | refine cx_seq ?_ | refine cx_region ?_ | refine cx_block ?_ | refine cx_ret ?_ | refine cx_skip ?_ | refine cx_exit ?_ | fail)
    exact bq_ret (ret_tmp rfl rfl) [] (Gives.nil _) rfl ⟨rfl, rfl⟩
  rw [Classical.not_not] at hf
  obtain ⟨hfw, hne⟩ := hf
  have h0 : (((rs.length : Nat) : Int) == 0) = false := by
    have := List.length_pos_iff.2 hne
    simp
    omega
  have hpos := List.length_pos_iff.2 hne
  obtain ⟨h8, h400⟩ := (few_iff rs).1 hfw
  have hok : okTo rs := fun r hr => by have := h400 r hr; omega
  have hfl := frms_len_le rs h400
  rw [hfw] at hfew
  have hj := join_fn A rs.length c rs rfl (by omega)
  rw [joinR_ok hok] at hj
  dsimp only at hj
  obtain ⟨r, hk⟩ : ∃ r, rs[pickN wh rs.length]? = some r := by
    have := pick_lt (i := wh) (n := rs.length) (by omega)
    exact ⟨_, List.getElem?_eq_getElem (by omega)⟩
  have hp := pick_fn wh rs.length (by omega)
  generalize pickN wh rs.length = k at hk hp
  have hr4 := h400 r (List.mem_of_getElem? hk)
  repeat (first | refine lx_not rfl rfl rfl rfl ?_ | refine lx_notu rfl rfl rfl rfl rfl ?_ | ((first | (apply lx_gt; exact rfl; exact rfl; exact rfl) | (apply lx_u; exact rfl) | (apply lx_g; exact rfl; exact rfl)); first | (apply isy_bin_eql; exact yl_false (yl_op (E := EV) rfl) (fun _ => h0)) | fail) | (refine isG ?_; refine gT rfl rfl rfl ?_) | (refine isU ?_; refine gU rfl ?_) | (refine isG ?_; refine gG rfl rfl ?_) | (refine isx_call ?_; refine lx_gcallt (hfew) ((fun w hm => rows_in (hm.get (k := 0) rfl) (in_nil hm) rfl)) rfl rfl rfl rfl rfl rfl rfl ?_) | (refine isx_box ?_; refine gB rfl rfl rfl rfl rfl rfl ?_; intro b_) | (refine isx_alloc ?_; refine gA rfl rfl rfl rfl rfl rfl rfl ?_; intro b_) | (refine isx_store ?_; refine gS 0 rfl rfl rfl rfl rfl rfl rfl rfl rfl rfl ?_) | (refine isx_store ?_; refine gS 1 rfl rfl rfl rfl rfl rfl rfl rfl rfl rfl ?_) | (refine isx_store ?_; refine gS 2 rfl rfl rfl rfl rfl rfl rfl rfl rfl rfl ?_) | (refine isx_store ?_; refine gS 3 rfl rfl rfl rfl rfl rfl rfl rfl rfl rfl ?_) | (refine isx_row ?_; refine lx_row (E := EV) rfl rfl rfl rfl rfl rfl rfl rfl rfl rfl rfl rfl rfl ?_; intro b_) | refine lx_nil ?_ | with_reducible refine tq_n ?_ | with_reducible refine tq_r ?_ | with_reducible refine tq_e ?_ | with_reducible refine bk_n ?_ | with_reducible refine bk_r ?_ | (with_reducible refine bk_e ?_ ?_; exact rfl) | (with_reducible refine bk_x ?_ ?_; exact rfl) | refine cx_seq ?_ | refine cx_region ?_ | refine cx_block ?_ | refine cx_ret ?_ | refine cx_skip ?_ | refine cx_exit ?_ | fail)
  refine cx_cond rfl (fun h => absurd h (by decide)) (fun _ => ?_)
  repeat (first | refine lx_not rfl rfl rfl rfl ?_ | refine lx_notu rfl rfl rfl rfl rfl ?_ | ((first | (apply lx_gt; exact rfl; exact rfl; exact rfl) | (apply lx_u; exact rfl) | (apply lx_g; exact rfl; exact rfl)); first | (apply isy_bin_neq; exact yl_false (yl_op (E := EV) rfl) (fun _ => rfl)) | fail) | (refine isG ?_; refine gT rfl rfl rfl ?_) | (refine isU ?_; refine gU rfl ?_) | (refine isG ?_; refine gG rfl rfl ?_) | (refine isx_call ?_; (refine isx_call ?_; refine lx_call0 (hj) ((fun w hm => rows_in (hm.get (k := 0) rfl) (in_nil hm) rfl)) rfl rfl rfl rfl rfl rfl rfl rfl ?_; rintro v_ Lo_ ⟨Ab, cb', rfl, rfl⟩)) | (refine isx_box ?_; refine gB rfl rfl rfl rfl rfl rfl ?_; intro b_) | (refine isx_alloc ?_; refine gA rfl rfl rfl rfl rfl rfl rfl ?_; intro b_) | (refine isx_store ?_; refine gS 0 rfl rfl rfl rfl rfl rfl rfl rfl rfl rfl ?_) | (refine isx_store ?_; refine gS 1 rfl rfl rfl rfl rfl rfl rfl rfl rfl rfl ?_) | (refine isx_store ?_; refine gS 2 rfl rfl rfl rfl rfl rfl rfl rfl rfl rfl ?_) | (refine isx_store ?_; refine gS 3 rfl rfl rfl rfl rfl rfl rfl rfl rfl rfl ?_) | (refine isx_row ?_; refine lx_row (E := EV) rfl rfl rfl rfl rfl rfl rfl rfl rfl rfl rfl rfl rfl ?_; intro b_) | refine lx_nil ?_ | with_reducible refine tq_n ?_ | with_reducible refine tq_r ?_ | with_reducible refine tq_e ?_ | with_reducible refine bk_n ?_ | with_reducible refine bk_r ?_ | (with_reducible refine bk_e ?_ ?_; exact rfl) | (with_reducible refine bk_x ?_ ?_; exact rfl) | refine cx_seq ?_ | refine cx_region ?_ | refine cx_block ?_ | refine cx_ret ?_ | refine cx_skip ?_ | refine cx_exit ?_ | fail)
  refine cx_cond rfl (fun h => absurd h (by decide)) (fun _ => ?_)
  refine cx_fact (fun w hm => own_cap 0 hm rfl) fun hcb => ?_
  refine cx_weakL (Gives.ownro 0 rfl) ?_
  repeat (first | refine lx_not rfl rfl rfl rfl ?_ | refine lx_notu rfl rfl rfl rfl rfl ?_ | (refine isG ?_; refine gT rfl rfl rfl ?_) | (refine isU ?_; refine gU rfl ?_) | (refine isG ?_; refine gG rfl rfl ?_) | (refine isx_call ?_; refine lx_gcallt (hp) (fun _ hm => in_nil hm) rfl rfl rfl rfl rfl rfl rfl ?_) | (refine isx_box ?_; refine gB rfl rfl rfl rfl rfl rfl ?_; intro b_) | (refine isx_alloc ?_; refine gA rfl rfl rfl rfl rfl rfl rfl ?_; intro b_) | (refine isx_store ?_; refine gS 0 rfl rfl rfl rfl rfl rfl rfl rfl rfl rfl ?_) | (refine isx_store ?_; refine gS 1 rfl rfl rfl rfl rfl rfl rfl rfl rfl rfl ?_) | (refine isx_store ?_; refine gS 2 rfl rfl rfl rfl rfl rfl rfl rfl rfl rfl ?_) | (refine isx_store ?_; refine gS 3 rfl rfl rfl rfl rfl rfl rfl rfl rfl rfl ?_) | (refine isx_row ?_; refine lx_row (E := EV) rfl rfl rfl rfl rfl rfl rfl rfl rfl rfl rfl rfl rfl ?_; intro b_) | refine lx_nil ?_ | with_reducible refine tq_n ?_ | with_reducible refine tq_r ?_ | with_reducible refine tq_e ?_ | with_reducible refine bk_n ?_ | with_reducible refine bk_r ?_ | (with_reducible refine bk_e ?_ ?_; exact rfl) | (with_reducible refine bk_x ?_ ?_; exact rfl) | refine cx_seq ?_ | refine cx_region ?_ | refine cx_block ?_ | refine cx_ret ?_ | refine cx_skip ?_ | refine cx_exit ?_ | fail)
  have hplace := frms_place hk
  refine cx_loop (α := { i : Nat // i ≤ k }) (fun x => [(0, none, .slice A rs.length c), (2, none, .int .i64 bt), (7, none, .slice Ab (frms rs).length cb'), (9, none, .int .i64 k), (10, none, .int .i64 (frms (rs.take x.1)).length), (11, none, .int .i64 x.1)])
    (fun _ => [.ro Ab (frms rs).length 1 (bvs (frms rs)), .rows A rs.length rs]) (fun x => k - x.1) ⟨0, Nat.zero_le _⟩ ⟨rfl, rfl, rfl, rfl, slot_int (by rw [List.take_zero]; unfold frms; rfl), rfl, trivial⟩ (Gives.refl _) ?_
  rintro ⟨i, hi⟩
  dsimp only
  have hkl := (List.getElem?_eq_some_iff.1 hk).1
  repeat (first | (refine isU ?_; refine gU rfl ?_) | (refine isG ?_; refine gG rfl rfl ?_) | (refine isx_box ?_; refine gB rfl rfl rfl rfl rfl rfl ?_; intro b_) | (refine isx_alloc ?_; refine gA rfl rfl rfl rfl rfl rfl rfl ?_; intro b_) | (refine isx_store ?_; refine gS 0 rfl rfl rfl rfl rfl rfl rfl rfl rfl rfl ?_) | (refine isx_store ?_; refine gS 1 rfl rfl rfl rfl rfl rfl rfl rfl rfl rfl ?_) | (refine isx_store ?_; refine gS 2 rfl rfl rfl rfl rfl rfl rfl rfl rfl rfl ?_) | (refine isx_store ?_; refine gS 3 rfl rfl rfl rfl rfl rfl rfl rfl rfl rfl ?_) | (refine isx_row ?_; refine lx_row (E := EV) rfl rfl rfl rfl rfl rfl rfl rfl rfl rfl rfl rfl rfl ?_; intro b_) | refine lx_nil ?_ | with_reducible refine tq_n ?_ | with_reducible refine tq_r ?_ | with_reducible refine tq_e ?_ | with_reducible refine bk_n ?_ | with_reducible refine bk_r ?_ | (with_reducible refine bk_e ?_ ?_; exact rfl) | (with_reducible refine bk_x ?_ ?_; exact rfl) | refine cx_seq ?_ | refine cx_region ?_ | refine cx_block ?_ | refine cx_ret ?_ | refine cx_skip ?_ | refine cx_exit ?_ | fail)
  refine cx_cond rfl (fun h => ?_) (fun h => ?_)
  · have hlt : i < k := by simp at h; omega
    clear h
    obtain ⟨y, hy⟩ : ∃ y, rs[i]? = some y := ⟨_, List.getElem?_eq_getElem (by omega)⟩
    have hy0 := rwv_get hy
    have hys := frms_place hy
    have hst := congrArg List.length (frms_take hy)
    rw [List.length_append, frm_len] at hst
    refine cx_fact (fun w hm => rows_ok 1 rfl hy hm) fun hyk => ?_
    refine cx_weakL (Gives.rows 1 rfl) ?_
    repeat (first | ((first | (apply lx_u; exact rfl) | (apply lx_g; exact rfl; exact rfl)); first | (apply isy_indexAddr; exact q_ix 0 rfl rfl rfl rfl rfl) | (apply isy_load; exact q_li 0 rfl rfl rfl rfl hy0) | (apply isy_bin_add; exact yl_eq (q_add rfl rfl) (fun _ => congrArg (Value.int .i64) ((show ((frms (rs.take i)).length : Int) + (y.n : Int) = (((frms (rs.take i)).length + y.n : Nat) : Int) from rfl)))) | (apply isy_bin_add; exact yl_eq (q_add rfl rfl) (fun _ => congrArg (Value.int .i64) ((show (((frms (rs.take i)).length + y.n : Nat) : Int) + 8 = ((frms (rs.take (i + 1))).length : Int) by omega)))) | fail) | (refine isU ?_; refine gU rfl ?_) | (refine isG ?_; refine gG rfl rfl ?_) | (refine isx_box ?_; refine gB rfl rfl rfl rfl rfl rfl ?_; intro b_) | (refine isx_alloc ?_; refine gA rfl rfl rfl rfl rfl rfl rfl ?_; intro b_) | (refine isx_store ?_; refine gS 0 rfl rfl rfl rfl rfl rfl rfl rfl rfl rfl ?_) | (refine isx_store ?_; refine gS 1 rfl rfl rfl rfl rfl rfl rfl rfl rfl rfl ?_) | (refine isx_store ?_; refine gS 2 rfl rfl rfl rfl rfl rfl rfl rfl rfl rfl ?_) | (refine isx_store ?_; refine gS 3 rfl rfl rfl rfl rfl rfl rfl rfl rfl rfl ?_) | (refine isx_row ?_; refine lx_row (E := EV) rfl rfl rfl rfl rfl rfl rfl rfl rfl rfl rfl rfl rfl ?_; intro b_) | refine lx_nil ?_ | with_reducible refine tq_n ?_ | with_reducible refine tq_r ?_ | with_reducible refine tq_e ?_ | with_reducible refine bk_n ?_ | with_reducible refine bk_r ?_ | (with_reducible refine bk_e ?_ ?_; exact rfl) | (with_reducible refine bk_x ?_ ?_; exact rfl) | refine cx_seq ?_ | refine cx_region ?_ | refine cx_block ?_ | refine cx_ret ?_ | refine cx_skip ?_ | refine cx_exit ?_ | fail)
    exact ⟨⟨i + 1, by omega⟩, ⟨rfl, rfl, rfl, rfl, rfl, slot_int (by dsimp only; omega), trivial⟩, Gives.pick [1, 2] (by decide) rfl, by dsimp only; omega⟩
  obtain rfl : i = k := by simp at h; omega
  clear h hi
  have hr0 := rwv_get hk
  refine cx_fact (fun w hm => rows_ok 1 rfl hk hm) fun hrk => ?_
  refine cx_weakL (Gives.rows 1 rfl) ?_
  have hq := pick_lt (i := bt) (n := ((8 * (r.n + 4) : Nat) : Int)) (by omega)
  have hpq := pick_fn bt ((8 * (r.n + 4) : Nat) : Int) (by omega)
  have hgood := all_good hok
  generalize pickN bt ((8 * (r.n + 4) : Nat) : Int) = q at hq hpq
  have hodd := all_odd hok hk (q := q) (by omega)
  generalize hat : (frms (rs.take i)).length = at' at *
  have hq8 := quo8 (32 + q) (by omega)
  have hr8 : ((32 + q : Nat) : Int).tmod 8 = (((8 * at' + (32 + q)) % 8 : Nat) : Int) := by
    rw [Int.tmod_eq_emod_of_nonneg (by omega)]
    omega
  have hd8 : at' + (32 + q) / 8 = (8 * at' + (32 + q)) / 8 := by omega
  have hdl : (8 * at' + (32 + q)) / 8 < (frms rs).length := by omega
  repeat (first | ((first | (apply lx_u; exact rfl) | (apply lx_g; exact rfl; exact rfl)); first | (apply isy_indexAddr; exact q_ix 0 rfl rfl rfl rfl rfl) | (apply isy_load; exact q_li 0 rfl rfl rfl rfl hr0) | (apply isy_bin_add; exact yl_eq (q_add rfl rfl) (fun _ => congrArg (Value.int .i64) ((show ((r.n : Nat) : Int) + 4 = ((r.n + 4 : Nat) : Int) from rfl)))) | (apply isy_bin_mul; exact yl_eq (q_mul rfl rfl) (fun _ => congrArg (Value.int .i64) ((show (8 : Int) * ((r.n + 4 : Nat) : Int) = ((8 * (r.n + 4) : Nat) : Int) by omega)))) | (apply isy_bin_add; exact yl_eq (q_add rfl rfl) (fun _ => congrArg (Value.int .i64) ((show (32 : Int) + (q : Int) = ((32 + q : Nat) : Int) by omega)))) | (apply isy_bin_quo; exact yl_eq (q_quo rfl rfl) (fun _ => congrArg (Value.int .i64) hq8)) | (apply isy_bin_add; exact yl_eq (q_add rfl rfl) (fun _ => congrArg (Value.int .i64) ((show (at' : Int) + (((32 + q) / 8 : Nat) : Int) = (((8 * at' + (32 + q)) / 8 : Nat) : Int) by omega)))) | fail) | (refine isU ?_; refine gU rfl ?_) | (refine isG ?_; refine gG rfl rfl ?_) | (refine isx_call ?_; refine k_gcall (hpq) (fun _ hm => in_nil hm) rfl rfl rfl rfl rfl rfl ?_) | (refine isx_box ?_; refine gB rfl rfl rfl rfl rfl rfl ?_; intro b_) | (refine isx_alloc ?_; refine gA rfl rfl rfl rfl rfl rfl rfl ?_; intro b_) | (refine isx_store ?_; refine gS 0 rfl rfl rfl rfl rfl rfl rfl rfl rfl rfl ?_) | (refine isx_store ?_; refine gS 1 rfl rfl rfl rfl rfl rfl rfl rfl rfl rfl ?_) | (refine isx_store ?_; refine gS 2 rfl rfl rfl rfl rfl rfl rfl rfl rfl rfl ?_) | (refine isx_store ?_; refine gS 3 rfl rfl rfl rfl rfl rfl rfl rfl rfl rfl ?_) | (refine isx_row ?_; refine lx_row (E := EV) rfl rfl rfl rfl rfl rfl rfl rfl rfl rfl rfl rfl rfl ?_; intro b_) | refine lx_nil ?_ | with_reducible refine tq_n ?_ | with_reducible refine tq_r ?_ | with_reducible refine tq_e ?_ | with_reducible refine bk_n ?_ | with_reducible refine bk_r ?_ | (with_reducible refine bk_e ?_ ?_; exact rfl) | (with_reducible refine bk_x ?_ ?_; exact rfl) | refine cx_seq ?_ | refine cx_region ?_ | refine cx_block ?_ | refine cx_ret ?_ | refine cx_skip ?_ | refine cx_exit ?_ | fail)
  refine cx_cond rfl (fun h => ?_) (fun _ => ?_)
  · simp at h; omega
  have hg1 := all_known Ab (frms rs).length cb' (frms rs) (oks rs) (frms rs).length rs.length hgood (oks_len rs) rfl hcb (by omega)
  generalize hp8 : 8 * at' + (32 + q) = p at *
  generalize hm : (frms rs).length = m at *
  obtain ⟨y, hy⟩ : ∃ y, (frms rs)[p / 8]? = some y := ⟨_, List.getElem?_eq_getElem (by omega)⟩
  have hy0 : (bvs (frms rs))[mulI (p / 8) 1]? = some (bv y) := bvs_get hy
  have hset := flip_setL hy
  have hg2 := fun (A : Option Addr) c hc => all_known A m c (crc.flip (frms rs) p) ((oks rs).set i ([], 72)) m rs.length hodd (by rw [List.length_set, oks_len]) (by rw [flip_length, hm]) hc (by omega)
  repeat (first | (refine isU ?_; refine gU rfl ?_) | (refine isG ?_; refine gG rfl rfl ?_) | (refine isx_call ?_; (refine isx_call ?_; refine lx_call0 (hg1) ((fun w hm => in_ro (row_ro 1 rfl hm) (in_nil hm) rfl)) rfl rfl rfl rfl rfl rfl rfl rfl ?_; rintro v_ Lo_ ⟨Af, cf, fs, rfl, tf, fitf, rfl⟩)) | (refine isx_box ?_; refine gB rfl rfl rfl rfl rfl rfl ?_; intro b_) | (refine isx_alloc ?_; refine gA rfl rfl rfl rfl rfl rfl rfl ?_; intro b_) | (refine isx_store ?_; refine gS 0 rfl rfl rfl rfl rfl rfl rfl rfl rfl rfl ?_) | (refine isx_store ?_; refine gS 1 rfl rfl rfl rfl rfl rfl rfl rfl rfl rfl ?_) | (refine isx_store ?_; refine gS 2 rfl rfl rfl rfl rfl rfl rfl rfl rfl rfl ?_) | (refine isx_store ?_; refine gS 3 rfl rfl rfl rfl rfl rfl rfl rfl rfl rfl ?_) | (refine isx_row ?_; refine lx_row (E := EV) rfl rfl rfl rfl rfl rfl rfl rfl rfl rfl rfl rfl rfl ?_; intro b_) | refine lx_nil ?_ | with_reducible refine tq_n ?_ | with_reducible refine tq_r ?_ | with_reducible refine tq_e ?_ | with_reducible refine bk_n ?_ | with_reducible refine bk_r ?_ | (with_reducible refine bk_e ?_ ?_; exact rfl) | (with_reducible refine bk_x ?_ ?_; exact rfl) | refine cx_seq ?_ | refine cx_region ?_ | refine cx_block ?_ | refine cx_ret ?_ | refine cx_skip ?_ | refine cx_exit ?_ | fail)
  refine lx_weak (L' := [.own Af rs.length cf 44 2 (fcells fs), .ro A rs.length 1 (rwv rs), .ro Ab m 1 (bvs (frms rs)), .rows A rs.length rs] ++ bods fs) Gives.mid ?_
  refine lx_call0 (own_fn Ab m cb' (frms rs) (by omega)) (fun w hm => in_ro (row_ro 2 rfl hm) (in_nil hm) rfl) rfl rfl rfl rfl rfl rfl rfl rfl ?_
  rintro v_ Lo_ ⟨Ao, co, rfl, rfl⟩
  refine lx_fact (fun w hm => own_addr (k := 0) rfl (by omega) hm) fun ⟨g, hg⟩ => ?_
  subst hg
  refine lx_fact (fun w hm => own_cap 0 hm rfl) fun hco => ?_
  repeat (first | (refine isU ?_; refine gU rfl ?_) | (refine isG ?_; refine gG rfl rfl ?_) | (refine isx_box ?_; refine gB rfl rfl rfl rfl rfl rfl ?_; intro b_) | (refine isx_alloc ?_; refine gA rfl rfl rfl rfl rfl rfl rfl ?_; intro b_) | (refine isx_store ?_; refine gS 0 rfl rfl rfl rfl rfl rfl rfl rfl rfl rfl ?_) | (refine isx_store ?_; refine gS 1 rfl rfl rfl rfl rfl rfl rfl rfl rfl rfl ?_) | (refine isx_store ?_; refine gS 2 rfl rfl rfl rfl rfl rfl rfl rfl rfl rfl ?_) | (refine isx_store ?_; refine gS 3 rfl rfl rfl rfl rfl rfl rfl rfl rfl rfl ?_) | (refine isx_row ?_; refine lx_row (E := EV) rfl rfl rfl rfl rfl rfl rfl rfl rfl rfl rfl rfl rfl ?_; intro b_) | refine lx_nil ?_ | with_reducible refine tq_n ?_ | with_reducible refine tq_r ?_ | with_reducible refine tq_e ?_ | with_reducible refine bk_n ?_ | with_reducible refine bk_r ?_ | (with_reducible refine bk_e ?_ ?_; exact rfl) | (with_reducible refine bk_x ?_ ?_; exact rfl) | refine cx_seq ?_ | refine cx_region ?_ | refine cx_block ?_ | refine cx_ret ?_ | refine cx_skip ?_ | refine cx_exit ?_ | fail)
  refine cx_draw [11, 17] _ rfl (by kernel_rfl) (Gives.uncons _ _) ?_
  repeat (first | ((first | (apply lx_u; exact rfl) | (apply lx_g; exact rfl; exact rfl)); first | (apply isy_bin_quo; exact yl_eq (yl_quo rfl rfl (by first | exact fun _ => rfl | exact fun h => h | exact fun h => (Bool.and_eq_true_iff.1 h).1) (by first | exact fun _ => rfl | exact fun h => h | exact fun h => (Bool.and_eq_true_iff.1 h).1) (fun _ => by decide)) (fun _ => congrArg (Value.int .i64) hq8)) | (apply isy_bin_rem; exact yl_eq (yl_rem rfl rfl (by first | exact fun _ => rfl | exact fun h => h | exact fun h => (Bool.and_eq_true_iff.1 h).1) (by first | exact fun _ => rfl | exact fun h => h | exact fun h => (Bool.and_eq_true_iff.1 h).1) (fun _ => by decide)) (fun _ => congrArg (Value.int .i64) hr8)) | (apply isy_bin_add; exact yl_eq (q_add rfl rfl) (fun _ => congrArg (Value.int .i64) ((show (at' : Int) + (((32 + q) / 8 : Nat) : Int) = ((p / 8 : Nat) : Int) by omega)))) | (apply isy_indexAddr; exact q_xs rfl rfl rfl rfl) | (apply isy_bin_shl; exact q_bshl uk8 1#8 (p % 8) rfl rfl rfl rfl) | (apply isy_bin_xor; exact q_xor uk8 _ _ rfl rfl rfl rfl) | fail) | (refine isU ?_; refine gU rfl ?_) | (refine isG ?_; refine gG rfl rfl ?_) | (refine isx_load ?_; refine lx_val rfl rfl rfl rfl rfl (yl_loadI (E := EV) 0 rfl rfl rfl (Shows.own ..) rfl (fun _ => hy0) (by first | exact fun _ => rfl | exact fun h => h | exact fun h => (Bool.and_eq_true_iff.1 h).1)) ?_) | (refine isx_store ?_; refine lx_storeI (E := EV) 0 rfl rfl rfl rfl rfl rfl rfl rfl rfl (by show p / 8 + 1 ≤ (bvs (frms rs)).length; rw [bvs_len]; omega) rfl (fun _ => Gives.uncons _ _) ?_) | (refine isx_box ?_; refine gB rfl rfl rfl rfl rfl rfl ?_; intro b_) | (refine isx_alloc ?_; refine gA rfl rfl rfl rfl rfl rfl rfl ?_; intro b_) | (refine isx_store ?_; refine gS 0 rfl rfl rfl rfl rfl rfl rfl rfl rfl rfl ?_) | (refine isx_store ?_; refine gS 1 rfl rfl rfl rfl rfl rfl rfl rfl rfl rfl ?_) | (refine isx_store ?_; refine gS 2 rfl rfl rfl rfl rfl rfl rfl rfl rfl rfl ?_) | (refine isx_store ?_; refine gS 3 rfl rfl rfl rfl rfl rfl rfl rfl rfl rfl ?_) | (refine isx_row ?_; refine lx_row (E := EV) rfl rfl rfl rfl rfl rfl rfl rfl rfl rfl rfl rfl rfl ?_; intro b_) | refine lx_nil ?_ | with_reducible refine tq_n ?_ | with_reducible refine tq_r ?_ | with_reducible refine tq_e ?_ | with_reducible refine bk_n ?_ | with_reducible refine bk_r ?_ | (with_reducible refine bk_e ?_ ?_; exact rfl) | (with_reducible refine bk_x ?_ ?_; exact rfl) | refine cx_seq ?_ | refine cx_region ?_ | refine cx_block ?_ | refine cx_ret ?_ | refine cx_skip ?_ | refine cx_exit ?_ | fail)
  refine lx_weak (L' := [.own Af rs.length cf 44 2 (fcells fs), .ro (some ⟨g, 0, none⟩) m 1 (bvs (crc.flip (frms rs) p)), .ro A rs.length 1 (rwv rs), .ro Ab m 1 (bvs (frms rs)), .rows A rs.length rs] ++ bods fs) ?_ ?_
  · rw [← hset]
    refine Gives.trans (Gives.ownro 0 rfl) ?_
    exact Gives.pre [_, _, _, _, _] [1, 0, 2, 3, 4] (by decide) rfl rfl
  repeat (first | refine lx_not rfl rfl rfl rfl ?_ | refine lx_notu rfl rfl rfl rfl rfl ?_ | ((first | (apply lx_gt; exact rfl; exact rfl; exact rfl) | (apply lx_u; exact rfl) | (apply lx_g; exact rfl; exact rfl)); first | (apply isy_bin_neq; exact yl_false (yl_op (E := EV) rfl) (fun _ => bne_self_eq_false _)) | fail) | (refine isG ?_; refine gT rfl rfl rfl ?_) | (refine isU ?_; refine gU rfl ?_) | (refine isG ?_; refine gG rfl rfl ?_) | (refine isx_call ?_; (refine isx_call ?_; refine lx_call0 (hg2 _ co hco) ((fun w hm => in_ro (row_ro 1 rfl hm) (in_nil hm) rfl)) rfl rfl rfl rfl rfl rfl rfl rfl ?_; rintro v_ Lo_ ⟨Ah, ch, gs, rfl, tg, fitg, rfl⟩)) | (refine isx_box ?_; refine gB rfl rfl rfl rfl rfl rfl ?_; intro b_) | (refine isx_alloc ?_; refine gA rfl rfl rfl rfl rfl rfl rfl ?_; intro b_) | (refine isx_store ?_; refine gS 0 rfl rfl rfl rfl rfl rfl rfl rfl rfl rfl ?_) | (refine isx_store ?_; refine gS 1 rfl rfl rfl rfl rfl rfl rfl rfl rfl rfl ?_) | (refine isx_store ?_; refine gS 2 rfl rfl rfl rfl rfl rfl rfl rfl rfl rfl ?_) | (refine isx_store ?_; refine gS 3 rfl rfl rfl rfl rfl rfl rfl rfl rfl rfl ?_) | (refine isx_row ?_; refine lx_row (E := EV) rfl rfl rfl rfl rfl rfl rfl rfl rfl rfl rfl rfl rfl ?_; intro b_) | refine lx_nil ?_ | with_reducible refine tq_n ?_ | with_reducible refine tq_r ?_ | with_reducible refine tq_e ?_ | with_reducible refine bk_n ?_ | with_reducible refine bk_r ?_ | (with_reducible refine bk_e ?_ ?_; exact rfl) | (with_reducible refine bk_x ?_ ?_; exact rfl) | refine cx_seq ?_ | refine cx_region ?_ | refine cx_block ?_ | refine cx_ret ?_ | refine cx_skip ?_ | refine cx_exit ?_ | fail)
  refine cx_cond rfl (fun h => absurd h (by decide)) (fun _ => ?_)
  refine cx_weakL (L' := [Ck.fds Af rs.length fs, Ck.fds Ah rs.length gs, .rows A rs.length rs]) ?_ ?_
  · refine Gives.trans Gives.mid ?_
    refine Gives.trans (Gives.fdsOf ([Ck.own Af rs.length cf 44 2 (fcells fs), .ro (some ⟨g, 0, none⟩) m 1 (bvs (crc.flip (frms rs) p)), .ro A rs.length 1 (rwv rs), .ro Ab m 1 (bvs (frms rs)), .rows A rs.length rs] ++ bods fs)) ?_
    refine Gives.trans (Gives.pre [_, _, _, _, _, _] [1, 0, 5] (by decide) rfl rfl) ?_
    exact Gives.fdsOf [_, _]
  clear hset hy0 hy
  repeat (first | (refine isU ?_; refine gU rfl ?_) | (refine isG ?_; refine gG rfl rfl ?_) | (refine isx_box ?_; refine gB rfl rfl rfl rfl rfl rfl ?_; intro b_) | (refine isx_alloc ?_; refine gA rfl rfl rfl rfl rfl rfl rfl ?_; intro b_) | (refine isx_store ?_; refine gS 0 rfl rfl rfl rfl rfl rfl rfl rfl rfl rfl ?_) | (refine isx_store ?_; refine gS 1 rfl rfl rfl rfl rfl rfl rfl rfl rfl rfl ?_) | (refine isx_store ?_; refine gS 2 rfl rfl rfl rfl rfl rfl rfl rfl rfl rfl ?_) | (refine isx_store ?_; refine gS 3 rfl rfl rfl rfl rfl rfl rfl rfl rfl rfl ?_) | (refine isx_row ?_; refine lx_row (E := EV) rfl rfl rfl rfl rfl rfl rfl rfl rfl rfl rfl rfl rfl ?_; intro b_) | refine lx_nil ?_ | with_reducible refine tq_n ?_ | with_reducible refine tq_r ?_ | with_reducible refine tq_e ?_ | with_reducible refine bk_n ?_ | with_reducible refine bk_r ?_ | (with_reducible refine bk_e ?_ ?_; exact rfl) | (with_reducible refine bk_x ?_ ?_; exact rfl) | refine cx_seq ?_ | refine cx_region ?_ | refine cx_block ?_ | refine cx_ret ?_ | refine cx_skip ?_ | refine cx_exit ?_ | fail)
  refine cx_loop (α := { j : Nat // j ≤ rs.length }) (fun x => [(0, none, .slice A rs.length c), (9, none, .int .i64 i), (14, none, .slice Af rs.length cf), (17, none, .slice Ah rs.length ch), (19, none, .int .i64 x.1)])
    (fun _ => [Ck.fds Af rs.length fs, Ck.fds Ah rs.length gs, .rows A rs.length rs]) (fun x => rs.length - x.1) ⟨0, Nat.zero_le _⟩ ⟨rfl, rfl, rfl, rfl, rfl, trivial⟩ (Gives.refl _) ?_
  rintro ⟨j, hj⟩
  dsimp only
  have hfl2 : fs.length = rs.length := by rw [← tell_len, tf, oks_len]
  have hgl2 : gs.length = rs.length := by rw [← tell_len, tg, List.length_set, oks_len]
  repeat (first | (refine isU ?_; refine gU rfl ?_) | (refine isG ?_; refine gG rfl rfl ?_) | (refine isx_box ?_; refine gB rfl rfl rfl rfl rfl rfl ?_; intro b_) | (refine isx_alloc ?_; refine gA rfl rfl rfl rfl rfl rfl rfl ?_; intro b_) | (refine isx_store ?_; refine gS 0 rfl rfl rfl rfl rfl rfl rfl rfl rfl rfl ?_) | (refine isx_store ?_; refine gS 1 rfl rfl rfl rfl rfl rfl rfl rfl rfl rfl ?_) | (refine isx_store ?_; refine gS 2 rfl rfl rfl rfl rfl rfl rfl rfl rfl rfl ?_) | (refine isx_store ?_; refine gS 3 rfl rfl rfl rfl rfl rfl rfl rfl rfl rfl ?_) | (refine isx_row ?_; refine lx_row (E := EV) rfl rfl rfl rfl rfl rfl rfl rfl rfl rfl rfl rfl rfl ?_; intro b_) | refine lx_nil ?_ | with_reducible refine tq_n ?_ | with_reducible refine tq_r ?_ | with_reducible refine tq_e ?_ | with_reducible refine bk_n ?_ | with_reducible refine bk_r ?_ | (with_reducible refine bk_e ?_ ?_; exact rfl) | (with_reducible refine bk_x ?_ ?_; exact rfl) | refine cx_seq ?_ | refine cx_region ?_ | refine cx_block ?_ | refine cx_ret ?_ | refine cx_skip ?_ | refine cx_exit ?_ | fail)
  refine cx_cond rfl (fun h => ?_) (fun h => ?_)
  · have hlt : j < rs.length := by simp at h; omega
    clear h
    obtain ⟨u, hu⟩ : ∃ u, rs[j]? = some u := ⟨_, List.getElem?_eq_getElem hlt⟩
    obtain ⟨x, hx⟩ : ∃ x, fs[j]? = some x := ⟨_, List.getElem?_eq_getElem (by omega)⟩
    obtain ⟨z, hz⟩ : ∃ z, gs[j]? = some z := ⟨_, List.getElem?_eq_getElem (by omega)⟩
    have hxu : x.r.l = u.l ∧ x.e = 0 := by
      have h1 := tell_get hx
      rw [tf, oks_get hu] at h1
      simpa [eq_comm] using h1
    refine cx_fact (fun w hm => (⟨fds_ok 0 rfl hx hm, fds_ok 1 rfl hz hm, rows_ok 2 rfl hu hm⟩ : (_ ∧ _) ∧ (_ ∧ _) ∧ (_ ∧ _))) fun ⟨kx, kz, ku⟩ => ?_
    refine cx_weakL (((Gives.rowsAt 2 rfl hu).trans (Gives.rows 3 rfl)).trans ((Gives.fdsAt 3 rfl hz).trans ((Gives.fds 4 rfl).trans ((Gives.fdsAt 4 rfl hx).trans (Gives.fds 5 rfl))))) ?_
    have hx0 : (fcells fs)[mulI j 2 + 0]? = some (.slice x.r.A x.r.n x.r.c) := fcells_get hx 0 (by decide)
    have hx1 : (fcells fs)[mulI j 2 + 1]? = some (.int .i64 x.e) := fcells_get hx 1 (by decide)
    have hz0 : (fcells gs)[mulI j 2 + 0]? = some (.slice z.r.A z.r.n z.r.c) := fcells_get hz 0 (by decide)
    have hz1 : (fcells gs)[mulI j 2 + 1]? = some (.int .i64 z.e) := fcells_get hz 1 (by decide)
    have hu0 := rwv_get hu
    have hxe : (x.e != 0) = false := by rw [hxu.2]; rfl
    repeat (first | (refine isU ?_; refine gU rfl ?_) | (refine isG ?_; refine gG rfl rfl ?_) | (refine isx_box ?_; refine gB rfl rfl rfl rfl rfl rfl ?_; intro b_) | (refine isx_alloc ?_; refine gA rfl rfl rfl rfl rfl rfl rfl ?_; intro b_) | (refine isx_store ?_; refine gS 0 rfl rfl rfl rfl rfl rfl rfl rfl rfl rfl ?_) | (refine isx_store ?_; refine gS 1 rfl rfl rfl rfl rfl rfl rfl rfl rfl rfl ?_) | (refine isx_store ?_; refine gS 2 rfl rfl rfl rfl rfl rfl rfl rfl rfl rfl ?_) | (refine isx_store ?_; refine gS 3 rfl rfl rfl rfl rfl rfl rfl rfl rfl rfl ?_) | (refine isx_row ?_; refine lx_row (E := EV) rfl rfl rfl rfl rfl rfl rfl rfl rfl rfl rfl rfl rfl ?_; intro b_) | refine lx_nil ?_ | with_reducible refine tq_n ?_ | with_reducible refine tq_r ?_ | with_reducible refine tq_e ?_ | with_reducible refine bk_n ?_ | with_reducible refine bk_r ?_ | (with_reducible refine bk_e ?_ ?_; exact rfl) | (with_reducible refine bk_x ?_ ?_; exact rfl) | refine cx_seq ?_ | refine cx_region ?_ | refine cx_block ?_ | refine cx_ret ?_ | refine cx_skip ?_ | refine cx_exit ?_ | fail)
    refine cx_draw [16, 40] _ rfl (by kernel_rfl) (Gives.refl _) ?_
    by_cases hjk : j = i
    · have hne : ((j : Int) != (i : Int)) = false := by simp [hjk]
      repeat (first | refine lx_not rfl rfl rfl rfl ?_ | refine lx_notu rfl rfl rfl rfl rfl ?_ | ((first | (apply lx_gt; exact rfl; exact rfl; exact rfl) | (apply lx_u; exact rfl) | (apply lx_g; exact rfl; exact rfl)); first | (apply isy_indexAddr; exact q_ix 0 rfl rfl rfl rfl rfl) | (apply isy_fieldAddr; exact q_fi 0 rfl rfl rfl rfl rfl rfl) | (apply isy_load; exact q_li 0 rfl rfl rfl rfl hx1) | (apply isy_bin_neq; exact yl_false (yl_op (E := EV) rfl) (fun _ => hxe)) | (apply isy_load; exact q_li 0 rfl rfl rfl rfl hx0) | (apply isy_indexAddr; exact q_ix 4 rfl rfl rfl rfl rfl) | (apply isy_load; exact q_li 4 rfl rfl rfl rfl hu0) | (apply isy_bin_neq; exact yl_false (yl_op (E := EV) rfl) (fun _ => hne)) | fail) | (refine isG ?_; refine gT rfl rfl rfl ?_) | (refine isU ?_; refine gU rfl ?_) | (refine isG ?_; refine gG rfl rfl ?_) | (refine isx_call ?_; refine lx_gcallt (sameB_fn x.r.A u.A x.r.n x.r.c u.n u.c x.r.l u.l kx.1 ku.1 (by omega) (by omega) hxu.1) ((fun w hm => in_ro (row_ro 1 rfl hm) (in_ro (row_ro 5 rfl hm) (in_nil hm) rfl) rfl)) rfl rfl rfl rfl rfl rfl rfl ?_) | (refine isx_box ?_; refine gB rfl rfl rfl rfl rfl rfl ?_; intro b_) | (refine isx_alloc ?_; refine gA rfl rfl rfl rfl rfl rfl rfl ?_; intro b_) | (refine isx_store ?_; refine gS 0 rfl rfl rfl rfl rfl rfl rfl rfl rfl rfl ?_) | (refine isx_store ?_; refine gS 1 rfl rfl rfl rfl rfl rfl rfl rfl rfl rfl ?_) | (refine isx_store ?_; refine gS 2 rfl rfl rfl rfl rfl rfl rfl rfl rfl rfl ?_) | (refine isx_store ?_; refine gS 3 rfl rfl rfl rfl rfl rfl rfl rfl rfl rfl ?_) | (refine isx_row ?_; refine lx_row (E := EV) rfl rfl rfl rfl rfl rfl rfl rfl rfl rfl rfl rfl rfl ?_; intro b_) | refine lx_nil ?_ | with_reducible refine tq_n ?_ | with_reducible refine tq_r ?_ | with_reducible refine tq_e ?_ | with_reducible refine bk_n ?_ | with_reducible refine bk_r ?_ | (with_reducible refine bk_e ?_ ?_; exact rfl) | (with_reducible refine bk_x ?_ ?_; exact rfl) | refine cx_seq ?_ | refine cx_region ?_ | refine cx_block ?_ | refine cx_ret ?_ | refine cx_skip ?_ | refine cx_exit ?_ | fail)
      refine cx_cond rfl (fun h => absurd h (by decide)) (fun _ => ?_)
      repeat (first | (refine isU ?_; refine gU rfl ?_) | (refine isG ?_; refine gG rfl rfl ?_) | (refine isx_box ?_; refine gB rfl rfl rfl rfl rfl rfl ?_; intro b_) | (refine isx_alloc ?_; refine gA rfl rfl rfl rfl rfl rfl rfl ?_; intro b_) | (refine isx_store ?_; refine gS 0 rfl rfl rfl rfl rfl rfl rfl rfl rfl rfl ?_) | (refine isx_store ?_; refine gS 1 rfl rfl rfl rfl rfl rfl rfl rfl rfl rfl ?_) | (refine isx_store ?_; refine gS 2 rfl rfl rfl rfl rfl rfl rfl rfl rfl rfl ?_) | (refine isx_store ?_; refine gS 3 rfl rfl rfl rfl rfl rfl rfl rfl rfl rfl ?_) | (refine isx_row ?_; refine lx_row (E := EV) rfl rfl rfl rfl rfl rfl rfl rfl rfl rfl rfl rfl rfl ?_; intro b_) | refine lx_nil ?_ | with_reducible refine tq_n ?_ | with_reducible refine tq_r ?_ | with_reducible refine tq_e ?_ | with_reducible refine bk_n ?_ | with_reducible refine bk_r ?_ | (with_reducible refine bk_e ?_ ?_; exact rfl) | (with_reducible refine bk_x ?_ ?_; exact rfl) | refine cx_seq ?_ | refine cx_region ?_ | refine cx_block ?_ | refine cx_ret ?_ | refine cx_skip ?_ | refine cx_exit ?_ | fail)
      exact ⟨⟨j + 1, by omega⟩, ⟨rfl, rfl, rfl, rfl, slot_int (by dsimp only; omega), trivial⟩, Gives.pick [6, 7, 8] (by decide) rfl, by dsimp only; omega⟩
    have hne : ((j : Int) != (i : Int)) = true := by simp; omega
    have hzu : z.r.l = u.l ∧ z.e = 0 := by
      have h1 := tell_get hz
      rw [tg, odd_get hu hjk] at h1
      simpa [eq_comm] using h1
    have hze : (z.e != 0) = false := by rw [hzu.2]; rfl
    repeat (first | refine lx_not rfl rfl rfl rfl ?_ | refine lx_notu rfl rfl rfl rfl rfl ?_ | ((first | (apply lx_gt; exact rfl; exact rfl; exact rfl) | (apply lx_u; exact rfl) | (apply lx_g; exact rfl; exact rfl)); first | (apply isy_indexAddr; exact q_ix 0 rfl rfl rfl rfl rfl) | (apply isy_fieldAddr; exact q_fi 0 rfl rfl rfl rfl rfl rfl) | (apply isy_load; exact q_li 0 rfl rfl rfl rfl hx1) | (apply isy_bin_neq; exact yl_false (yl_op (E := EV) rfl) (fun _ => hxe)) | (apply isy_load; exact q_li 0 rfl rfl rfl rfl hx0) | (apply isy_indexAddr; exact q_ix 4 rfl rfl rfl rfl rfl) | (apply isy_load; exact q_li 4 rfl rfl rfl rfl hu0) | (apply isy_bin_neq; exact yl_true (yl_op (E := EV) rfl) (fun _ => hne)) | (apply isy_indexAddr; exact q_ix 2 rfl rfl rfl rfl rfl) | (apply isy_fieldAddr; exact q_fi 2 rfl rfl rfl rfl rfl rfl) | (apply isy_load; exact q_li 2 rfl rfl rfl rfl hz1) | (apply isy_bin_neq; exact yl_false (yl_op (E := EV) rfl) (fun _ => hze)) | (apply isy_load; exact q_li 2 rfl rfl rfl rfl hz0) | fail) | (refine isG ?_; refine gT rfl rfl rfl ?_) | (refine isU ?_; refine gU rfl ?_) | (refine isG ?_; refine gG rfl rfl ?_) | (refine isx_call ?_; refine lx_gcallt (sameB_fn x.r.A u.A x.r.n x.r.c u.n u.c x.r.l u.l kx.1 ku.1 (by omega) (by omega) hxu.1) ((fun w hm => in_ro (row_ro 1 rfl hm) (in_ro (row_ro 5 rfl hm) (in_nil hm) rfl) rfl)) rfl rfl rfl rfl rfl rfl rfl ?_) | (refine isx_call ?_; refine lx_gcallt (sameB_fn z.r.A u.A z.r.n z.r.c u.n u.c z.r.l u.l kz.1 ku.1 (by omega) (by omega) hzu.1) ((fun w hm => in_ro (row_ro 3 rfl hm) (in_ro (row_ro 5 rfl hm) (in_nil hm) rfl) rfl)) rfl rfl rfl rfl rfl rfl rfl ?_) | (refine isx_box ?_; refine gB rfl rfl rfl rfl rfl rfl ?_; intro b_) | (refine isx_alloc ?_; refine gA rfl rfl rfl rfl rfl rfl rfl ?_; intro b_) | (refine isx_store ?_; refine gS 0 rfl rfl rfl rfl rfl rfl rfl rfl rfl rfl ?_) | (refine isx_store ?_; refine gS 1 rfl rfl rfl rfl rfl rfl rfl rfl rfl rfl ?_) | (refine isx_store ?_; refine gS 2 rfl rfl rfl rfl rfl rfl rfl rfl rfl rfl ?_) | (refine isx_store ?_; refine gS 3 rfl rfl rfl rfl rfl rfl rfl rfl rfl rfl ?_) | (refine isx_row ?_; refine lx_row (E := EV) rfl rfl rfl rfl rfl rfl rfl rfl rfl rfl rfl rfl rfl ?_; intro b_) | refine lx_nil ?_ | with_reducible refine tq_n ?_ | with_reducible refine tq_r ?_ | with_reducible refine tq_e ?_ | with_reducible refine bk_n ?_ | with_reducible refine bk_r ?_ | (with_reducible refine bk_e ?_ ?_; exact rfl) | (with_reducible refine bk_x ?_ ?_; exact rfl) | refine cx_seq ?_ | refine cx_region ?_ | refine cx_block ?_ | refine cx_ret ?_ | refine cx_skip ?_ | refine cx_exit ?_ | fail)
    refine cx_cond rfl (fun h => absurd h (by decide)) (fun _ => ?_)
    repeat (first | (refine isU ?_; refine gU rfl ?_) | (refine isG ?_; refine gG rfl rfl ?_) | (refine isx_box ?_; refine gB rfl rfl rfl rfl rfl rfl ?_; intro b_) | (refine isx_alloc ?_; refine gA rfl rfl rfl rfl rfl rfl rfl ?_; intro b_) | (refine isx_store ?_; refine gS 0 rfl rfl rfl rfl rfl rfl rfl rfl rfl rfl ?_) | (refine isx_store ?_; refine gS 1 rfl rfl rfl rfl rfl rfl rfl rfl rfl rfl ?_) | (refine isx_store ?_; refine gS 2 rfl rfl rfl rfl rfl rfl rfl rfl rfl rfl ?_) | (refine isx_store ?_; refine gS 3 rfl rfl rfl rfl rfl rfl rfl rfl rfl rfl ?_) | (refine isx_row ?_; refine lx_row (E := EV) rfl rfl rfl rfl rfl rfl rfl rfl rfl rfl rfl rfl rfl ?_; intro b_) | refine lx_nil ?_ | with_reducible refine tq_n ?_ | with_reducible refine tq_r ?_ | with_reducible refine tq_e ?_ | with_reducible refine bk_n ?_ | with_reducible refine bk_r ?_ | (with_reducible refine bk_e ?_ ?_; exact rfl) | (with_reducible refine bk_x ?_ ?_; exact rfl) | refine cx_seq ?_ | refine cx_region ?_ | refine cx_block ?_ | refine cx_ret ?_ | refine cx_skip ?_ | refine cx_exit ?_ | fail)
    exact ⟨⟨j + 1, by omega⟩, ⟨rfl, rfl, rfl, rfl, slot_int (by dsimp only; omega), trivial⟩, Gives.pick [6, 7, 8] (by decide) rfl, by dsimp only; omega⟩
  obtain ⟨z, hz⟩ : ∃ z, gs[i]? = some z := ⟨_, List.getElem?_eq_getElem (by omega)⟩
  have hzu : z.r.l = [] ∧ z.e = 72 := by
    have h1 := tell_get hz
    rw [tg, List.getElem?_set_self (by rw [oks_len]; exact hkl)] at h1
    simpa [eq_comm] using h1
  refine cx_fact (fun w hm => fds_ok 1 rfl hz hm) fun kz => ?_
  refine cx_weakL (Gives.fds 1 rfl) ?_
  have hz0 : (fcells gs)[mulI i 2 + 0]? = some (.slice z.r.A z.r.n z.r.c) := fcells_get hz 0 (by decide)
  have hz1 : (fcells gs)[mulI i 2 + 1]? = some (.int .i64 z.e) := fcells_get hz 1 (by decide)
  have hze : (z.e == 72) = true := by rw [hzu.2]; rfl
  have hzn : (((z.r.n : Nat) : Int) == 0) = true := by
    have := kz.1
    rw [hzu.1] at this
    simp at this ⊢
    omega
  repeat (first | refine lx_not rfl rfl rfl rfl ?_ | refine lx_notu rfl rfl rfl rfl rfl ?_ | ((first | (apply lx_gt; exact rfl; exact rfl; exact rfl) | (apply lx_u; exact rfl) | (apply lx_g; exact rfl; exact rfl)); first | (apply isy_indexAddr; exact q_ix 0 rfl rfl rfl rfl rfl) | (apply isy_fieldAddr; exact q_fi 0 rfl rfl rfl rfl rfl rfl) | (apply isy_load; exact q_li 0 rfl rfl rfl rfl hz1) | (apply isy_bin_eql; exact yl_true (yl_op (E := EV) rfl) (fun _ => hze)) | (apply isy_load; exact q_li 0 rfl rfl rfl rfl hz0) | (apply isy_bin_eql; exact yl_true (yl_op (E := EV) rfl) (fun _ => hzn)) | fail) | (refine isG ?_; refine gT rfl rfl rfl ?_) | (refine isU ?_; refine gU rfl ?_) | (refine isG ?_; refine gG rfl rfl ?_) | (refine isx_call ?_; refine lx_gcallt (works_fn) (fun _ hm => in_nil hm) rfl rfl rfl rfl rfl rfl rfl ?_) | (refine isx_box ?_; refine gB rfl rfl rfl rfl rfl rfl ?_; intro b_) | (refine isx_alloc ?_; refine gA rfl rfl rfl rfl rfl rfl rfl ?_; intro b_) | (refine isx_store ?_; refine gS 0 rfl rfl rfl rfl rfl rfl rfl rfl rfl rfl ?_) | (refine isx_store ?_; refine gS 1 rfl rfl rfl rfl rfl rfl rfl rfl rfl rfl ?_) | (refine isx_store ?_; refine gS 2 rfl rfl rfl rfl rfl rfl rfl rfl rfl rfl ?_) | (refine isx_store ?_; refine gS 3 rfl rfl rfl rfl rfl rfl rfl rfl rfl rfl ?_) | (refine isx_row ?_; refine lx_row (E := EV) rfl rfl rfl rfl rfl rfl rfl rfl rfl rfl rfl rfl rfl ?_; intro b_) | refine lx_nil ?_ | with_reducible refine tq_n ?_ | with_reducible refine tq_r ?_ | with_reducible refine tq_e ?_ | with_reducible refine bk_n ?_ | with_reducible refine bk_r ?_ | (with_reducible refine bk_e ?_ ?_; exact rfl) | (with_reducible refine bk_x ?_ ?_; exact rfl) | refine cx_seq ?_ | refine cx_region ?_ | refine cx_block ?_ | refine cx_ret ?_ | refine cx_skip ?_ | refine cx_exit ?_ | fail)
  exact bq_ret (ret_tmp rfl rfl) [] (Gives.nil _) rfl ⟨rfl, rfl⟩
theorem spoilt_all (x0 : Sl (Sl B8)) (x1 x2 : Int) (W : World) (h0 : Sl.ok W 1 (fun r : Sl B8 => [.slice r.A r.n r.c]) (u8ok W) x0) (_ : (Lit.int .i64 x1).wf = true) (_ : (Lit.int .i64 x2).wf = true) :
    Calls Try.prog 5 #[.slice x0.A x0.n x0.c, .int .i64 x1, .int .i64 x2] W fun e W' => e = .returned (.bool true) ∧ Below W.heap.size W W' :=
  (spoilt_fn x0.A x0.n x0.c _ x1 x2 (by rw [List.length_map, h0.2.1]) (Nat.le_trans h0.2.2.1 h0.2.2.2.1)).yes W (rows_in (rows_of h0) (mem0 W) rfl)
end Go.Proofs.Ythmdiopbiiimeaa.fr
