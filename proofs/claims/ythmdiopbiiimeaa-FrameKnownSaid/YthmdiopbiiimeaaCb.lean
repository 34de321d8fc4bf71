/- checks: what the program's functions answer. -/
import Derived.Test.YthmdiopbiiimeaaGo
import Derived.Test.YthmdiopbiiimeaaCa
import Derived.Test.YthmdiopbiiimeaaKi
namespace Go.Proofs.Ythmdiopbiiimeaa.chk
open Go.RowKit Go.Proofs.Ythmdiopbiiimeaa.crc
def ones : R := 4294967295#32
def upd (s : R) (l : List B) : R := takes (s ^^^ ones) l ^^^ ones
theorem ones_ones (x : R) : (x ^^^ ones) ^^^ ones = x := by rw [BitVec.xor_assoc, BitVec.xor_self, BitVec.xor_zero]
theorem upd_nil (s : R) : upd s [] = s := ones_ones s
theorem upd_append (s : R) (a b : List B) : upd (upd s a) b = upd s (a ++ b) := by rw [upd, upd, ones_ones, ← takes_append]; rfl
def sumR (s : R) (rs : List Rw) : R := rs.foldl (fun s r => upd s r.l) s
theorem sumR_one (A : Option Addr) (n c : Nat) (l : List B) : sumR 0#32 [⟨A, n, c, l⟩] = upd 0#32 l := rfl
theorem sumR_take {rs : List Rw} {i : Nat} {r : Rw} (s : R) (h : rs[i]? = some r) : sumR s (rs.take (i + 1)) = upd (sumR s (rs.take i)) r.l := by
  rw [List.take_add_one, h, sumR, List.foldl_append]
  rfl
theorem takes_take {l : List B} {i : Nat} {x : B} (c : R) (h : l[i]? = some x) : takes c (l.take (i + 1)) = take (takes c (l.take i)) x := by
  rw [List.take_add_one, h, takes, List.foldl_append]
  rfl
/-- the table, made or not yet -/
def tabS (e : Bool) : List Value := bif e then tabC 1 0 256 else tabC 0 0 0
theorem tabS_len (e : Bool) : (tabS e).length = 259 * 1 := by cases e <;> simp [tabS, tabC, rowsI_len]
theorem tab_zero : [Value.int .u32 0] ++ [Value.int .i32 0] ++ List.replicate 257 (Value.int .u32 0) = tabS false := by
  show _ = tabC 0 0 0
  rw [tabC, rowsI_zero, List.replicate_succ]
  rfl
theorem Gives.blkeq {L : List Ck} (k : Nat) {b : Nat} {cs cs' : List Value} {T : TypeId} (hk : L[k]? = some (.blk b cs T)) (he : cs = cs') : Gives L (L.set k (.blk b cs' T)) := fun M w h => by
  subst he
  have : L.set k (.blk b cs T) = L := by
    apply List.ext_getElem?
    intro j
    rw [List.getElem?_set]
    split
    · rename_i hj
      subst hj
      rw [hk]
      have := (List.getElem?_eq_some_iff.1 hk).1
      simp [this]
    · rfl
  rw [this]
  exact h
theorem rows_one {M : Me} {L : List Ck} {w : World} {b : Nat} {T : TypeId} {A : Option Addr} {n c : Nat} {l : List B8} (hm : Mem M L w) (hk : L[0]? = some (.blk b [.slice A n c] T)) (hr : Row w w.heap.size 1 A n (bvs l)) (hc : n ≤ c ∧ c ≤ 9223372036854775807) : Mem ⟨w, []⟩ [.rows (some ⟨b, 0, none⟩) 1 [⟨A, n, c, l⟩]] w := by
  refine rows_in ⟨row_blk 0 hk rfl hm, fun r hr' => ?_⟩ (in_nil hm) rfl
  obtain rfl : r = ⟨A, n, c, l⟩ := by simpa using hr'
  exact ⟨hr, hc⟩
attribute [local irreducible] LX CX Yl Gives RetIs Fn
attribute [local irreducible] crc.many crc.row crc.one tabS takes take
set_option maxHeartbeats 1000000 in
theorem full_fn (b : Nat) (e : Bool) : Fn Try.prog 47 [.pointer (some ⟨b, 0, none⟩)] [.blk b (tabS e) 90] [b] fun v Lo => v = .pointer (some ⟨b, 0, none⟩) ∧ Lo = [.blk b (tabS true) 90] := by
  refine fn_enter Try.func47 rfl rfl (by kernel_rfl) rfl ?_
  intro w0
  repeat (first | (refine isU ?_; refine gU rfl ?_) | (refine isG ?_; refine gG rfl rfl ?_) | (refine isx_box ?_; refine gB rfl rfl rfl rfl rfl rfl ?_; intro b_) | (refine isx_alloc ?_; refine gA rfl rfl rfl rfl rfl rfl rfl ?_; intro b_) | (refine isx_store ?_; refine gS 0 rfl rfl rfl rfl rfl rfl rfl rfl rfl rfl ?_) | (refine isx_store ?_; refine gS 1 rfl rfl rfl rfl rfl rfl rfl rfl rfl rfl ?_) | (refine isx_store ?_; refine gS 2 rfl rfl rfl rfl rfl rfl rfl rfl rfl rfl ?_) | (refine isx_store ?_; refine gS 3 rfl rfl rfl rfl rfl rfl rfl rfl rfl rfl ?_) | (refine isx_row ?_; refine lx_row (E := EV) rfl rfl rfl rfl rfl rfl rfl rfl rfl rfl rfl rfl rfl ?_; intro b_) | refine lx_nil ?_ | with_reducible refine tq_n ?_ | with_reducible refine tq_r ?_ | with_reducible refine tq_e ?_ | with_reducible refine bk_n ?_ | with_reducible refine bk_r ?_ | (with_reducible refine bk_e ?_ ?_; exact rfl) | (with_reducible refine bk_x ?_ ?_; exact rfl) | refine cx_seq ?_ | refine cx_region ?_ | refine cx_block ?_ | refine cx_ret ?_ | refine cx_skip ?_ | refine cx_exit ?_ | fail)
  refine cx_cond rfl (fun h => by cases h) (fun _ => ?_)
  repeat (first | ((first | (apply lx_u; exact rfl) | (apply lx_g; exact rfl; exact rfl)); first | (apply isy_makeFunc; exact yl_makeFunc rfl rfl (by (repeat (first | exact trivial | refine And.intro ?_ ?_ | exact fun _ => rfl | exact fun h => h | exact fun h => (Bool.and_eq_true_iff.1 h).1)); done) (by (repeat (first | exact trivial | refine And.intro ?_ ?_ | exact fun _ => rfl | exact fun h => h | exact fun h => (Bool.and_eq_true_iff.1 h).1)); done)) | fail) | (refine isU ?_; refine gU rfl ?_) | (refine isG ?_; refine gG rfl rfl ?_) | (refine isx_box ?_; refine gB rfl rfl rfl rfl rfl rfl ?_; intro b_) | (refine isx_alloc ?_; refine gA rfl rfl rfl rfl rfl rfl rfl ?_; intro b_) | (refine isx_store ?_; refine gS 0 rfl rfl rfl rfl rfl rfl rfl rfl rfl rfl ?_) | (refine isx_store ?_; refine gS 1 rfl rfl rfl rfl rfl rfl rfl rfl rfl rfl ?_) | (refine isx_store ?_; refine gS 2 rfl rfl rfl rfl rfl rfl rfl rfl rfl rfl ?_) | (refine isx_store ?_; refine gS 3 rfl rfl rfl rfl rfl rfl rfl rfl rfl rfl ?_) | (refine isx_row ?_; refine lx_row (E := EV) rfl rfl rfl rfl rfl rfl rfl rfl rfl rfl rfl rfl rfl ?_; intro b_) | refine lx_nil ?_ | with_reducible refine tq_n ?_ | with_reducible refine tq_r ?_ | with_reducible refine tq_e ?_ | with_reducible refine bk_n ?_ | with_reducible refine bk_r ?_ | (with_reducible refine bk_e ?_ ?_; exact rfl) | (with_reducible refine bk_x ?_ ?_; exact rfl) | refine cx_seq ?_ | refine cx_region ?_ | refine cx_block ?_ | refine cx_ret ?_ | refine cx_skip ?_ | refine cx_exit ?_ | fail)
  cases e
  · have hf := fill_fn b b_
    refine lx_call (once.do_fn b _ [.pointer (some ⟨b_, 0, none⟩)] (.int .u32 0 :: rowsI 0) (.int .u32 0 :: rowsI 256) 90 [.ro (some ⟨b_, 0, none⟩) 1 1 [.pointer (some ⟨b, 0, none⟩)]] hf (by simp [Ck.mut_])) [.blk b (tabS false) 90] [.blk b_ [.pointer (some ⟨b, 0, none⟩)] _] (Gives.pick [1, 0] (by decide) rfl)
      (fun w hm => ?_) (fun g hg => ⟨_, List.mem_cons_self .., rfl, (List.mem_singleton.1 hg).symm⟩) (fun _ _ => trivial) rfl rfl rfl rfl rfl rfl rfl rfl ?_
    · have h2 := (Gives.blkro 0 (m := 1) (sz := 1) rfl rfl).app hm
      refine h2.enter [1, 0] (by decide) ?_ ?_
      · unfold tabS; rfl
      · intro c hc hcm g hg
        rcases List.mem_cons.1 hc with rfl | hc
        · cases hg; exact List.mem_cons_self ..
        · rcases List.mem_cons.1 hc with rfl | hc
          · cases hcm
          · cases hc
    rintro v_ Lo_ ⟨rfl, rfl⟩
    repeat (first | (refine isU ?_; refine gU rfl ?_) | (refine isG ?_; refine gG rfl rfl ?_) | (refine isx_box ?_; refine gB rfl rfl rfl rfl rfl rfl ?_; intro b_) | (refine isx_alloc ?_; refine gA rfl rfl rfl rfl rfl rfl rfl ?_; intro b_) | (refine isx_store ?_; refine gS 0 rfl rfl rfl rfl rfl rfl rfl rfl rfl rfl ?_) | (refine isx_store ?_; refine gS 1 rfl rfl rfl rfl rfl rfl rfl rfl rfl rfl ?_) | (refine isx_store ?_; refine gS 2 rfl rfl rfl rfl rfl rfl rfl rfl rfl rfl ?_) | (refine isx_store ?_; refine gS 3 rfl rfl rfl rfl rfl rfl rfl rfl rfl rfl ?_) | (refine isx_row ?_; refine lx_row (E := EV) rfl rfl rfl rfl rfl rfl rfl rfl rfl rfl rfl rfl rfl ?_; intro b_) | refine lx_nil ?_ | with_reducible refine tq_n ?_ | with_reducible refine tq_r ?_ | with_reducible refine tq_e ?_ | with_reducible refine bk_n ?_ | with_reducible refine bk_r ?_ | (with_reducible refine bk_e ?_ ?_; exact rfl) | (with_reducible refine bk_x ?_ ?_; exact rfl) | refine cx_seq ?_ | refine cx_region ?_ | refine cx_block ?_ | refine cx_ret ?_ | refine cx_skip ?_ | refine cx_exit ?_ | fail)
    refine bq_ret (ret_tmp rfl rfl) [_] (Gives.pick [0] (by decide) rfl) rfl ⟨rfl, ?_⟩
    unfold tabS; rfl
  · refine lx_call0 (once.done_fn b _ (tabS true) 259 (by unfold tabS; rfl)) (fun w hm => in_ro (row_blk 1 rfl (tabS_len true) hm) (in_nil hm) rfl) rfl rfl rfl rfl rfl rfl rfl rfl ?_
    rintro v_ Lo_ ⟨rfl, rfl⟩
    repeat (first | (refine isU ?_; refine gU rfl ?_) | (refine isG ?_; refine gG rfl rfl ?_) | (refine isx_box ?_; refine gB rfl rfl rfl rfl rfl rfl ?_; intro b_) | (refine isx_alloc ?_; refine gA rfl rfl rfl rfl rfl rfl rfl ?_; intro b_) | (refine isx_store ?_; refine gS 0 rfl rfl rfl rfl rfl rfl rfl rfl rfl rfl ?_) | (refine isx_store ?_; refine gS 1 rfl rfl rfl rfl rfl rfl rfl rfl rfl rfl ?_) | (refine isx_store ?_; refine gS 2 rfl rfl rfl rfl rfl rfl rfl rfl rfl rfl ?_) | (refine isx_store ?_; refine gS 3 rfl rfl rfl rfl rfl rfl rfl rfl rfl rfl ?_) | (refine isx_row ?_; refine lx_row (E := EV) rfl rfl rfl rfl rfl rfl rfl rfl rfl rfl rfl rfl rfl ?_; intro b_) | refine lx_nil ?_ | with_reducible refine tq_n ?_ | with_reducible refine tq_r ?_ | with_reducible refine tq_e ?_ | with_reducible refine bk_n ?_ | with_reducible refine bk_r ?_ | (with_reducible refine bk_e ?_ ?_; exact rfl) | (with_reducible refine bk_x ?_ ?_; exact rfl) | refine cx_seq ?_ | refine cx_region ?_ | refine cx_block ?_ | refine cx_ret ?_ | refine cx_skip ?_ | refine cx_exit ?_ | fail)
    exact bq_ret (ret_tmp rfl rfl) [_] (Gives.pick [1] (by decide) rfl) rfl ⟨rfl, rfl⟩
/-- of a table that is not there a new one is made -/
theorem full_nil : Fn Try.prog 47 [.pointer none] [] [] fun v Lo => ∃ b, v = .pointer (some ⟨b, 0, none⟩) ∧ Lo = [.blk b (tabS true) 90] := by
  refine fn_enter Try.func47 rfl rfl (by kernel_rfl) rfl ?_
  intro w0
  repeat (first | (refine isU ?_; refine gU rfl ?_) | (refine isG ?_; refine gG rfl rfl ?_) | (refine isx_box ?_; refine gB rfl rfl rfl rfl rfl rfl ?_; intro b_) | (refine isx_alloc ?_; refine gA rfl rfl rfl rfl rfl rfl rfl ?_; intro b_) | (refine isx_store ?_; refine gS 0 rfl rfl rfl rfl rfl rfl rfl rfl rfl rfl ?_) | (refine isx_store ?_; refine gS 1 rfl rfl rfl rfl rfl rfl rfl rfl rfl rfl ?_) | (refine isx_store ?_; refine gS 2 rfl rfl rfl rfl rfl rfl rfl rfl rfl rfl ?_) | (refine isx_store ?_; refine gS 3 rfl rfl rfl rfl rfl rfl rfl rfl rfl rfl ?_) | (refine isx_row ?_; refine lx_row (E := EV) rfl rfl rfl rfl rfl rfl rfl rfl rfl rfl rfl rfl rfl ?_; intro b_) | refine lx_nil ?_ | with_reducible refine tq_n ?_ | with_reducible refine tq_r ?_ | with_reducible refine tq_e ?_ | with_reducible refine bk_n ?_ | with_reducible refine bk_r ?_ | (with_reducible refine bk_e ?_ ?_; exact rfl) | (with_reducible refine bk_x ?_ ?_; exact rfl) | refine cx_seq ?_ | refine cx_region ?_ | refine cx_block ?_ | refine cx_ret ?_ | refine cx_skip ?_ | refine cx_exit ?_ | fail)
  refine cx_cond rfl (fun _ => ?_) (fun h => by cases h)
  repeat (first | ((first | (apply lx_u; exact rfl) | (apply lx_g; exact rfl; exact rfl)); first | (apply isy_makeFunc; exact yl_makeFunc rfl rfl (by (repeat (first | exact trivial | refine And.intro ?_ ?_ | exact fun _ => rfl | exact fun h => h | exact fun h => (Bool.and_eq_true_iff.1 h).1)); done) (by (repeat (first | exact trivial | refine And.intro ?_ ?_ | exact fun _ => rfl | exact fun h => h | exact fun h => (Bool.and_eq_true_iff.1 h).1)); done)) | fail) | (refine isU ?_; refine gU rfl ?_) | (refine isG ?_; refine gG rfl rfl ?_) | (refine isx_box ?_; refine gB rfl rfl rfl rfl rfl rfl ?_; intro b_) | (refine isx_alloc ?_; refine gA rfl rfl rfl rfl rfl rfl rfl ?_; intro b_) | (refine isx_store ?_; refine gS 0 rfl rfl rfl rfl rfl rfl rfl rfl rfl rfl ?_) | (refine isx_store ?_; refine gS 1 rfl rfl rfl rfl rfl rfl rfl rfl rfl rfl ?_) | (refine isx_store ?_; refine gS 2 rfl rfl rfl rfl rfl rfl rfl rfl rfl rfl ?_) | (refine isx_store ?_; refine gS 3 rfl rfl rfl rfl rfl rfl rfl rfl rfl rfl ?_) | (refine isx_row ?_; refine lx_row (E := EV) rfl rfl rfl rfl rfl rfl rfl rfl rfl rfl rfl rfl rfl ?_; intro b_) | refine lx_nil ?_ | with_reducible refine tq_n ?_ | with_reducible refine tq_r ?_ | with_reducible refine tq_e ?_ | with_reducible refine bk_n ?_ | with_reducible refine bk_r ?_ | (with_reducible refine bk_e ?_ ?_; exact rfl) | (with_reducible refine bk_x ?_ ?_; exact rfl) | refine cx_seq ?_ | refine cx_region ?_ | refine cx_block ?_ | refine cx_ret ?_ | refine cx_skip ?_ | refine cx_exit ?_ | fail)
  rename_i b0 _
  have hf := fill_fn b_ b0
  refine lx_call (once.do_fn b_ _ [.pointer (some ⟨b0, 0, none⟩)] (.int .u32 0 :: rowsI 0) (.int .u32 0 :: rowsI 256) 90 [.ro (some ⟨b0, 0, none⟩) 1 1 [.pointer (some ⟨b_, 0, none⟩)]] hf (by simp [Ck.mut_])) [.blk b_ (tabS false) 90] [.blk b0 [.pointer (some ⟨b_, 0, none⟩)] _] (Gives.trans (Gives.blkeq 0 rfl tab_zero) (Gives.pick [0, 1] (by decide) rfl))
    (fun w hm => ?_) (fun g hg => ⟨_, List.mem_cons_self .., rfl, (List.mem_singleton.1 hg).symm⟩) (fun _ _ => trivial) rfl rfl rfl rfl rfl rfl rfl rfl ?_
  · have h1 := (Gives.blkeq 0 rfl tab_zero).app hm
    have h2 := (Gives.blkro 1 (m := 1) (sz := 1) rfl rfl).app h1
    refine h2.enter [0, 1] (by decide) ?_ ?_
    · unfold tabS; rfl
    · intro c hc hcm g hg
      rcases List.mem_cons.1 hc with rfl | hc
      · cases hg; exact List.mem_cons_self ..
      · rcases List.mem_cons.1 hc with rfl | hc
        · cases hcm
        · cases hc
  rintro v_ Lo_ ⟨rfl, rfl⟩
  repeat (first | (refine isU ?_; refine gU rfl ?_) | (refine isG ?_; refine gG rfl rfl ?_) | (refine isx_box ?_; refine gB rfl rfl rfl rfl rfl rfl ?_; intro b_) | (refine isx_alloc ?_; refine gA rfl rfl rfl rfl rfl rfl rfl ?_; intro b_) | (refine isx_store ?_; refine gS 0 rfl rfl rfl rfl rfl rfl rfl rfl rfl rfl ?_) | (refine isx_store ?_; refine gS 1 rfl rfl rfl rfl rfl rfl rfl rfl rfl rfl ?_) | (refine isx_store ?_; refine gS 2 rfl rfl rfl rfl rfl rfl rfl rfl rfl rfl ?_) | (refine isx_store ?_; refine gS 3 rfl rfl rfl rfl rfl rfl rfl rfl rfl rfl ?_) | (refine isx_row ?_; refine lx_row (E := EV) rfl rfl rfl rfl rfl rfl rfl rfl rfl rfl rfl rfl rfl ?_; intro b_) | refine lx_nil ?_ | with_reducible refine tq_n ?_ | with_reducible refine tq_r ?_ | with_reducible refine tq_e ?_ | with_reducible refine bk_n ?_ | with_reducible refine bk_r ?_ | (with_reducible refine bk_e ?_ ?_; exact rfl) | (with_reducible refine bk_x ?_ ?_; exact rfl) | refine cx_seq ?_ | refine cx_region ?_ | refine cx_block ?_ | refine cx_ret ?_ | refine cx_skip ?_ | refine cx_exit ?_ | fail)
  refine bq_ret (ret_tmp rfl rfl) [_] (Gives.pick [0] (by decide) rfl) rfl ⟨b_, rfl, ?_⟩
  unfold tabS; rfl
end Go.Proofs.Ythmdiopbiiimeaa.chk
