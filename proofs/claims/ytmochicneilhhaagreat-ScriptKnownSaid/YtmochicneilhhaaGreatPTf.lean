/- scripts: rows of the table; a step read; a script read. scripts: read. -/
import Derived.Test.YtmochicneilhhaaGreatPAp
import Derived.Test.YtmochicneilhhaaGreatPGo
import Derived.Test.YtmochicneilhhaaGreatPTd
namespace Go.Proofs.YtmochicneilhhaaGreat.sc
open Go.RowKit Go.Proofs.YtmochicneilhhaaGreat.kit Go.Proofs.YtmochicneilhhaaGreat.pk Go.Proofs.YtmochicneilhhaaGreat.rq Go.Proofs.YtmochicneilhhaaGreat.ev
abbrev zeroS : MS := ⟨0#8, 0, nilr, zeroO, 0#64⟩
structure FSt (A : Option Addr) (l : List B8) (v d : Nat) where
  k : Nat
  r' : Rd A l
  A' : Option Addr
  c' : Nat
  hk : k ≤ d
  hv : r'.v = v + 2 + k
attribute [local irreducible] LX CX Yl Gives RetIs Fn
attribute [local irreducible] be de fr.frm
section
variable (b n : Nat) {A : Option Addr} {l : List B8} (r : Rd A l) (hn : 0 < n) (hl : l.length ≤ 9223372036854775807)
include hn hl
set_option maxRecDepth 100000 in
theorem feed_fn : Fn Tryz.prog 69 [.pointer (some ⟨b, 0, none⟩)] [r.blk b n, .ro A l.length 1 (bvs l)] [b] (RowP (A := A) (l := l) b n (feedQ l n r.v)) := by
  have h := by_fn b n r n hn hl
  have h2 : Fn Tryz.prog 65 [.pointer (some ⟨b, 0, none⟩), .int .i64 16] [r.nx.blk b n, .ro A l.length 1 (bvs l)] [b] fun v Lo => v = .int .i64 (at_ l r.nx.v % 16 : Nat) ∧ Lo = [r.nx.nx.blk b n] := by_fn b n r.nx 16 (by decide) hl
  rw [r.nx_v] at h2
  have hd := Nat.mod_lt (at_ l (r.v + 1)) (show 0 < 16 by decide)
  have hv2 : r.nx.nx.v = r.v + 2 := by rw [Rd.nx_v, Rd.nx_v]
  unfold feedQ
  generalize at_ l (r.v + 1) % 16 = d at *
  generalize at_ l r.v % n = q at *
  generalize r.nx.nx = r2 at *
  generalize r.nx = r1 at *
  refine fn_enter Tryz.func69 rfl rfl (by kernel_rfl) rfl ?_
  intro w0
  repeat (first | (refine isx_call ?_; refine k_call (h) [1, 2] [1] [0, 2] rfl rfl rfl rfl rfl rfl rfl rfl ?_; rintro v_ Lo_ ⟨rfl, rfl⟩) | (refine isx_call ?_; refine k_call (h2) [1, 3] [1] [0, 2, 3] rfl rfl rfl rfl rfl rfl rfl rfl ?_; rintro v_ Lo_ ⟨rfl, rfl⟩) | refine wz ?_ | (refine wzb ?_; intro b_) | fail)
  rename_i b2
  generalize b_ = b3
  refine cx_loop (α := FSt A l r.v d) (fun x => [(0, none, .pointer (some ⟨b, 0, none⟩)), (2, none, .pointer (some ⟨b2, 0, none⟩)), (3, none, .pointer (some ⟨b3, 0, none⟩)), (4, none, .int .i64 ((d : Int) - (x.k : Nat)))])
    (fun x => [.own x.A' x.k x.c' 5 1 (bvs (rawQ l (r.v + 2) x.k)), .blk b3 (⟨1#8, (q : Nat), ⟨x.A', x.k, x.c', rawQ l (r.v + 2) x.k⟩, zeroO, 0#64⟩ : MS).cells 47, x.r'.blk b n, .blk b2 zeroS.cells 47, .ro A l.length 1 (bvs l)]) (fun x => d - x.k) ⟨0, r2, none, 0, Nat.zero_le _, hv2⟩ ⟨rfl, rfl, rfl, slot_int (by dsimp only; omega), trivial⟩ ((Gives.nilown _ _ _).trans (Gives.pick [0, 2, 1, 3, 4] (by decide) rfl)) ?_
  rintro ⟨k, r', A', c', hk, hv⟩
  dsimp only at hk hv ⊢
  repeat (first | refine wz ?_ | (refine wzb ?_; intro b_) | fail)
  refine cx_cond rfl (fun h => ?_) (fun h => ?_)
  · have hlt : k < d := by simp at h; omega
    clear h
    have yn := next_fn b n r' hl
    have hnx := r'.nx_v
    rw [hv] at yn
    have he : rawQ l (r.v + 2) (k + 1) = rawQ l (r.v + 2) k ++ [BitVec.ofInt 8 ((at_ l (r.v + 2 + k) : Nat) : Int)] := rfl
    have hln := rawQ_len l (r.v + 2) k
    repeat (first | refine wz ?_ | (refine wzb ?_; intro b_) | fail)
    refine cx_drawZ 8 [3, 5, 6] [.blk b3 (⟨1#8, (q : Nat), ⟨A', k, c', rawQ l (r.v + 2) k⟩, zeroO, 0#64⟩ : MS).cells 47] rfl (by kernel_rfl) (by kernel_rfl) (Gives.pick [1] (by decide) rfl) ?_
    repeat (first | ((first | (apply lx_u; exact rfl) | (apply lx_g; exact rfl; exact rfl)); first | (apply isy_convert; exact q_ci uk8 rfl rfl rfl) | fail) | (refine isx_call ?_; refine k_call (yn) [2, 4] [2] [0, 1, 3, 4] rfl rfl rfl rfl rfl rfl rfl rfl ?_ (hgs := fun Lo _ => (Gives.right Lo _).trans (Gives.pick [1] (by decide) rfl)); rintro v_ Lo_ ⟨rfl, rfl⟩) | refine wz ?_ | (refine wzb ?_; intro b_) | fail)
    refine lx_append (E := EV) 2 rfl rfl rfl rfl rfl rfl rfl rfl rfl rfl rfl rfl rfl (news := bvs [BitVec.ofInt 8 ((at_ l (r.v + 2 + k) : Nat) : Int)]) (fun w hm => row_blk 0 rfl rfl hm) bvs_one (by dsimp only; unfold maxLen; omega) (by show (k + _) * 1 ≤ _; omega) (fun _ _ _ => Gives.pick [3] (by decide) rfl) ?_
    intro A2 c2
    rw [← bvs_append, ← he]
    repeat (first | refine wz ?_ | (refine wzb ?_; intro b_) | fail)
    exact ⟨⟨k + 1, r'.nx, A2, c2, hlt, by rw [hnx, hv]; omega⟩, ⟨rfl, rfl, rfl, slot_int (by dsimp only; omega), trivial⟩, Gives.pick [2, 3, 1, 4, 5] (by decide) rfl, by dsimp only; omega⟩
  · obtain rfl : k = d := by simp at h; omega
    have hln := rawQ_len l (r.v + 2) k
    repeat (first | (refine isx_store ?_; refine gS 3 rfl rfl rfl rfl rfl rfl rfl rfl rfl rfl ?_) | refine wz ?_ | (refine wzb ?_; intro b_) | fail)
    exact bq_ret (ret_cell (E := EV) 3 rfl rfl rfl rfl (fun _ => Nat.le_of_ble_eq_true rfl) rfl) [_, _] (Gives.pick [2, 0] (by decide) rfl) rfl ⟨⟨1#8, (q : Nat), ⟨A', k, c', rawQ l (r.v + 2) k⟩, zeroO, 0#64⟩, r', rfl, rfl, hv, hln, by dsimp only; omega, rfl⟩
end
section
variable (b n : Nat) {A : Option Addr} {l : List B8} (r : Rd A l) (hl : l.length ≤ 9223372036854775807)
include hl
theorem event_fn : Fn Tryz.prog 71 [.pointer (some ⟨b, 0, none⟩)] [r.blk b n, .ro A l.length 1 (bvs l)] [b] (RowP (A := A) (l := l) b n (eventQ l r.v)) := by
  have h1 := key_fn b n r hl
  have h2 := small_fn b n r.nx hl
  have h3 := small_fn b n r.nx.nx hl
  rw [r.nx_v] at h2
  rw [r.nx.nx_v, r.nx_v, Nat.add_assoc] at h3
  have hv : r.nx.nx.nx.v = r.v + 3 := by rw [Rd.nx_v, Rd.nx_v, Rd.nx_v]
  have hof := eOf_fn (keyQ (at_ l r.v)) (small (at_ l (r.v + 1))) (small (at_ l (r.v + 2)))
  have hc := at_lt l (r.v + 2)
  unfold eventQ
  generalize r.nx.nx.nx = r3 at *
  generalize r.nx.nx = r2 at *
  generalize r.nx = r1 at *
  generalize at_ l (r.v + 2) = c at *
  generalize keyQ (at_ l r.v) = ky at *
  generalize small (at_ l (r.v + 1)) = s at *
  by_cases h127 : c = 127
  · subst h127
    rw [show small 127 = 127 from rfl] at h3 hof
    rw [show valueQ 127 = 9223372036854775807 from rfl]
    refine fn_enter Tryz.func71 rfl rfl (by kernel_rfl) rfl ?_; intro w0
    repeat (first | ((first | (apply lx_gt; exact rfl; exact rfl; exact rfl) | (apply lx_u; exact rfl) | (apply lx_g; exact rfl; exact rfl)); first | (apply isy_bin_eql; exact yl_true (yl_op (E := EV) rfl) (fun _ => rfl)) | fail) | (refine isx_call ?_; refine k_call (h1) [1, 2] [1] [0, 2] rfl rfl rfl rfl rfl rfl rfl rfl ?_; rintro v_ Lo_ ⟨rfl, rfl⟩) | (refine isx_call ?_; refine k_call (h2) [0, 2] [0] [1, 2] rfl rfl rfl rfl rfl rfl rfl rfl ?_; rintro v_ Lo_ ⟨rfl, rfl⟩) | (refine isx_call ?_; refine k_call (h3) [0, 2] [0] [1, 2] rfl rfl rfl rfl rfl rfl rfl rfl ?_; rintro v_ Lo_ ⟨rfl, rfl⟩) | (refine isx_call ?_; refine lx_gcallt (hof) (fun _ hm => in_nil hm) rfl rfl rfl rfl rfl rfl rfl ?_) | refine wzf ?_ | (refine wzb ?_; intro b_) | fail)
    refine cx_cond rfl (fun _ => ?_) (fun h => absurd h (by decide))
    repeat (first | refine wz ?_ | (refine wzb ?_; intro b_) | fail)
    exact bq_ret (ret_cell (E := EV) 2 rfl rfl rfl rfl (fun _ => Nat.le_of_ble_eq_true rfl) rfl) [_, _] ((Gives.nilown _ 5 1).trans (Gives.pick [2, 0] (by decide) rfl)) rfl ⟨⟨4#8, 0, nilr, ⟨1#8, ky, s, 9223372036854775807⟩, 0#64⟩, r3, rfl, rfl, hv, rfl, Nat.zero_le _, rfl⟩
  by_cases h128 : c = 128
  · subst h128
    rw [show small 128 = -128 from rfl] at h3 hof
    rw [show valueQ 128 = -9223372036854775808 from rfl]
    refine fn_enter Tryz.func71 rfl rfl (by kernel_rfl) rfl ?_; intro w0
    repeat (first | ((first | (apply lx_gt; exact rfl; exact rfl; exact rfl) | (apply lx_u; exact rfl) | (apply lx_g; exact rfl; exact rfl)); first | (apply isy_bin_eql; exact yl_false (yl_op (E := EV) rfl) (fun _ => rfl)) | fail) | (refine isx_call ?_; refine k_call (h1) [1, 2] [1] [0, 2] rfl rfl rfl rfl rfl rfl rfl rfl ?_; rintro v_ Lo_ ⟨rfl, rfl⟩) | (refine isx_call ?_; refine k_call (h2) [0, 2] [0] [1, 2] rfl rfl rfl rfl rfl rfl rfl rfl ?_; rintro v_ Lo_ ⟨rfl, rfl⟩) | (refine isx_call ?_; refine k_call (h3) [0, 2] [0] [1, 2] rfl rfl rfl rfl rfl rfl rfl rfl ?_; rintro v_ Lo_ ⟨rfl, rfl⟩) | (refine isx_call ?_; refine lx_gcallt (hof) (fun _ hm => in_nil hm) rfl rfl rfl rfl rfl rfl rfl ?_) | refine wzf ?_ | (refine wzb ?_; intro b_) | fail)
    refine cx_cond rfl (fun h => absurd h (by decide)) (fun _ => ?_)
    repeat (first | ((first | (apply lx_gt; exact rfl; exact rfl; exact rfl) | (apply lx_u; exact rfl) | (apply lx_g; exact rfl; exact rfl)); first | (apply isy_bin_eql; exact yl_true (yl_op (E := EV) rfl) (fun _ => rfl)) | fail) | refine wzf ?_ | (refine wzb ?_; intro b_) | fail)
    refine cx_cond rfl (fun _ => ?_) (fun h => absurd h (by decide))
    repeat (first | refine wz ?_ | (refine wzb ?_; intro b_) | fail)
    exact bq_ret (ret_cell (E := EV) 2 rfl rfl rfl rfl (fun _ => Nat.le_of_ble_eq_true rfl) rfl) [_, _] ((Gives.nilown _ 5 1).trans (Gives.pick [2, 0] (by decide) rfl)) rfl ⟨⟨4#8, 0, nilr, ⟨1#8, ky, s, -9223372036854775808⟩, 0#64⟩, r3, rfl, rfl, hv, rfl, Nat.zero_le _, rfl⟩
  have e1 : (small c == 127) = false := by unfold small; rw [beq_eq_false_iff_ne]; split <;> omega
  have e2 : (small c == -128) = false := by unfold small; rw [beq_eq_false_iff_ne]; split <;> omega
  have hq : valueQ c = small c := by unfold valueQ; rw [if_neg h127, if_neg h128]
  rw [hq]
  generalize small c = sc at *
  refine fn_enter Tryz.func71 rfl rfl (by kernel_rfl) rfl ?_
  intro w0
  repeat (first | ((first | (apply lx_gt; exact rfl; exact rfl; exact rfl) | (apply lx_u; exact rfl) | (apply lx_g; exact rfl; exact rfl)); first | (apply isy_bin_eql; exact yl_false (yl_op (E := EV) rfl) (fun _ => e1)) | fail) | (refine isx_call ?_; refine k_call (h1) [1, 2] [1] [0, 2] rfl rfl rfl rfl rfl rfl rfl rfl ?_; rintro v_ Lo_ ⟨rfl, rfl⟩) | (refine isx_call ?_; refine k_call (h2) [0, 2] [0] [1, 2] rfl rfl rfl rfl rfl rfl rfl rfl ?_; rintro v_ Lo_ ⟨rfl, rfl⟩) | (refine isx_call ?_; refine k_call (h3) [0, 2] [0] [1, 2] rfl rfl rfl rfl rfl rfl rfl rfl ?_; rintro v_ Lo_ ⟨rfl, rfl⟩) | (refine isx_call ?_; refine lx_gcallt (hof) (fun _ hm => in_nil hm) rfl rfl rfl rfl rfl rfl rfl ?_) | refine wzf ?_ | (refine wzb ?_; intro b_) | fail)
  refine cx_cond rfl (fun h => absurd h (by decide)) (fun _ => ?_)
  repeat (first | ((first | (apply lx_gt; exact rfl; exact rfl; exact rfl) | (apply lx_u; exact rfl) | (apply lx_g; exact rfl; exact rfl)); first | (apply isy_bin_eql; exact yl_false (yl_op (E := EV) rfl) (fun _ => e2)) | fail) | refine wzf ?_ | (refine wzb ?_; intro b_) | fail)
  refine cx_cond rfl (fun h => absurd h (by decide)) (fun _ => ?_)
  repeat (first | refine wz ?_ | (refine wzb ?_; intro b_) | fail)
  exact bq_ret (ret_cell (E := EV) 2 rfl rfl rfl rfl (fun _ => Nat.le_of_ble_eq_true rfl) rfl) [_, _] ((Gives.nilown _ 5 1).trans (Gives.pick [2, 0] (by decide) rfl)) rfl ⟨⟨4#8, 0, nilr, ⟨1#8, ky, s, sc⟩, 0#64⟩, r3, rfl, rfl, hv, rfl, Nat.zero_le _, rfl⟩
end
abbrev fvv (f : FuncId) : Value := .func (.func f) #[] #[]
abbrev tbl : List Value := [fvv 67, fvv 67, fvv 68, fvv 68, fvv 69, fvv 70, fvv 70, fvv 70, fvv 70, fvv 71, fvv 71, fvv 71, fvv 72, fvv 73, fvv 74, fvv 75]
theorem tbl_at (b n q : Nat) (hq : q < 16) {A : Option Addr} {l : List B8} (r : Rd A l) (hn : 0 < n) (hl : l.length ≤ 9223372036854775807) : ∃ f, tbl[q]? = some (fvv f) ∧ Fn Tryz.prog f [.pointer (some ⟨b, 0, none⟩)] [r.blk b n, .ro A l.length 1 (bvs l)] [b] (RowP (A := A) (l := l) b n (rowQ l n q r.v)) := by
  have : q = 0 ∨ q = 1 ∨ q = 2 ∨ q = 3 ∨ q = 4 ∨ q = 5 ∨ q = 6 ∨ q = 7 ∨ q = 8 ∨ q = 9 ∨ q = 10 ∨ q = 11 ∨ q = 12 ∨ q = 13 ∨ q = 14 ∨ q = 15 := by omega
  rcases this with rfl | rfl | rfl | rfl | rfl | rfl | rfl | rfl | rfl | rfl | rfl | rfl | rfl | rfl | rfl | rfl
  · exact ⟨_, rfl, serve_fn b n r hn hl⟩
  · exact ⟨_, rfl, serve_fn b n r hn hl⟩
  · exact ⟨_, rfl, decode_fn b n r hn hl⟩
  · exact ⟨_, rfl, decode_fn b n r hn hl⟩
  · exact ⟨_, rfl, feed_fn b n r hn hl⟩
  · exact ⟨_, rfl, ask_fn b n r hn hl⟩
  · exact ⟨_, rfl, ask_fn b n r hn hl⟩
  · exact ⟨_, rfl, ask_fn b n r hn hl⟩
  · exact ⟨_, rfl, ask_fn b n r hn hl⟩
  · exact ⟨_, rfl, event_fn b n r hl⟩
  · exact ⟨_, rfl, event_fn b n r hl⟩
  · exact ⟨_, rfl, event_fn b n r hl⟩
  · exact ⟨_, rfl, mark_fn b n r hl⟩
  · exact ⟨_, rfl, publish_fn b n r⟩
  · exact ⟨_, rfl, tick_fn b n r hl⟩
  · exact ⟨_, rfl, vacuum_fn b n r⟩
set_option maxRecDepth 100000 in
theorem step_fn (b n : Nat) {A : Option Addr} {l : List B8} (r : Rd A l) (hn : 0 < n) (hl : l.length ≤ 9223372036854775807) : Fn Tryz.prog 37 [.pointer (some ⟨b, 0, none⟩)] [r.blk b n, .ro A l.length 1 (bvs l)] [b] (RowP (A := A) (l := l) b n (stepQ l n r.v)) := by
  have h : Fn Tryz.prog 65 [.pointer (some ⟨b, 0, none⟩), .int .i64 16] [r.blk b n, .ro A l.length 1 (bvs l)] [b] fun v Lo => v = .int .i64 (at_ l r.v % 16 : Nat) ∧ Lo = [r.nx.blk b n] := by_fn b n r 16 (by decide) hl
  have hq := Nat.mod_lt (at_ l r.v) (show 0 < 16 by decide)
  unfold stepQ
  rw [← r.nx_v]
  generalize r.nx = r1 at *
  generalize at_ l r.v % 16 = q at *
  obtain ⟨f, hf, hF⟩ := tbl_at b n q hq r1 hn hl
  have hf' : tbl[0 + mulI ((q : Nat) : Int).toNat 1]? = some (fvv f) := by rw [Nat.zero_add]; exact hf
  refine fn_enter Tryz.func37 rfl rfl (by kernel_rfl) rfl ?_
  intro w0
  repeat (first | ((first | (apply lx_u; exact rfl) | (apply lx_g; exact rfl; exact rfl)); first | (apply isy_indexAddr; exact q_xp rfl rfl rfl rfl (hb := (fun _ => by omega))) | (apply isy_load; exact q_lv 1 rfl rfl rfl rfl hf') | fail) | (refine isx_call ?_; refine k_call (h) [2, 3] [2] [0, 1, 3] rfl rfl rfl rfl rfl rfl rfl rfl ?_; rintro v_ Lo_ ⟨rfl, rfl⟩) | (refine isx_call ?_; refine k_call (hF) [0, 3] [0] [1, 2, 3] rfl rfl rfl rfl rfl rfl rfl rfl ?_; rintro v_ Lo_ ⟨x, r', rfl, hx, hr', hx1, hx2, rfl⟩) | refine wz ?_ | (refine wzb ?_; intro b_) | fail)
  exact bq_ret (ret_cell (E := EV) 3 rfl rfl rfl rfl (fun _ => Nat.le_of_ble_eq_true rfl) rfl) [_, _] (Gives.pick [0, 1] (by decide) rfl) rfl ⟨x, r', rfl, hx, hr', hx1, hx2, rfl⟩
end Go.Proofs.YtmochicneilhhaaGreat.sc
namespace Go.Proofs.YtmochicneilhhaaGreat.sc
open Go.RowKit Go.Proofs.YtmochicneilhhaaGreat.kit Go.Proofs.YtmochicneilhhaaGreat.pk Go.Proofs.YtmochicneilhhaaGreat.rq Go.Proofs.YtmochicneilhhaaGreat.ev
theorem partQ_ge (l : List B8) (s : RQ × Nat) (q : Pt) : s.2 + 1 ≤ (partQ l s q).2 := by cases q <;> (show s.2 + 1 ≤ s.2 + _; omega)
theorem fold_ge (l : List B8) : ∀ (ps : List Pt) (s : RQ × Nat), s.2 ≤ (ps.foldl (partQ l) s).2
  | [], _ => Nat.le_refl _
  | q :: ps, s => by
    have := partQ_ge l s q
    have := fold_ge l ps (partQ l s q)
    rw [List.foldl_cons]
    omega
theorem reqQ_ge (l : List B8) (v : Nat) : v + 2 ≤ (reqQ l v).2 := fold_ge l _ (_, v + 2)
theorem stepQ_gt (l : List B8) (n v : Nat) : v < (stepQ l n v).2 := by
  have := reqQ_ge l (v + 1 + 1)
  unfold stepQ rowQ serveQ decodeQ feedQ askQ eventQ markQ publishQ tickQ vacuumQ
  (repeat' split) <;> dsimp only <;> omega
/-- the steps from a place on -/
def readS (l : List B8) (n v : Nat) : List SP := if v < l.length then (stepQ l n v).1 :: readS l n (stepQ l n v).2 else []
termination_by l.length - v
decreasing_by
  have := stepQ_gt l n v
  omega
theorem readS_lt {l : List B8} {n v : Nat} (h : v < l.length) : readS l n v = (stepQ l n v).1 :: readS l n (stepQ l n v).2 := by rw [readS, if_pos h]
theorem readS_ge {l : List B8} {n v : Nat} (h : ¬ v < l.length) : readS l n v = [] := by rw [readS, if_neg h]
def clientsQ (l : List B8) : Nat := at_ l 7 % 8 + 1
def scells (xs : List MS) : List Value := xs.flatMap MS.cells
/-- the bytes of the steps, the newest first -/
def sbods (xs : List MS) : List Ck := xs.reverse.map MS.body
theorem sbods_push (xs : List MS) (x : MS) : sbods (xs ++ [x]) = x.body :: sbods xs := by simp [sbods]
theorem scells_push (xs : List MS) (x : MS) : scells (xs ++ [x]) = scells xs ++ x.cells := by simp [scells]
theorem sbods_mut (xs : List MS) : (sbods xs).all Ck.mut_ = true := by
  rw [List.all_eq_true]
  intro c hc
  obtain ⟨x, _, rfl⟩ := List.mem_map.1 hc
  rfl
def Fit (xs : List MS) : Prop := ∀ x ∈ xs, x.r.l.length = x.r.n ∧ x.r.n ≤ 1000
theorem Fit.push {xs : List MS} {x : MS} (h : Fit xs) (hx : x.r.l.length = x.r.n ∧ x.r.n ≤ 1000) : Fit (xs ++ [x]) := by
  intro y hy
  rcases List.mem_append.1 hy with hy | hy
  · exact h y hy
  · obtain rfl := List.mem_singleton.1 hy; exact hx
theorem scells_get {xs : List MS} {i : Nat} {x : MS} (h : xs[i]? = some x) (j : Nat) (hj : j < 8) : (scells xs)[mulI i 8 + j]? = x.cells[j]? := flat_get (f := MS.cells) (m := 8) (fun _ => rfl) h hj
theorem scells_one (x : MS) : ∀ u ∈ x.cells, u.oneCell' = true := by
  intro u hu
  simp at hu
  rcases hu with rfl | rfl | rfl | rfl | rfl | rfl | rfl | rfl <;> rfl
def rd0 (A : Option Addr) (l : List B8) (c : Nat) (hc : l.length ≤ c) : Rd A l := ⟨A, c, 0, by omega, fun w h => by rw [List.drop_zero, Nat.sub_zero]; exact ⟨h, fun b hb => hb⟩⟩
structure RSt (A : Option Addr) (l : List B8) where
  r' : Rd A l
  xs : List MS
  A' : Option Addr
  c' : Nat
  hx : readS l (clientsQ l) 9 = xs.map MS.sp ++ readS l (clientsQ l) r'.v
  few : xs.length + 9 ≤ r'.v
  le : xs.length ≤ l.length
  fit : Fit xs
def ReadP (T : TypeId) (l : List B8) (v : Value) (Lo : List Ck) : Prop := ∃ A' c' xs, v = .tuple #[.agg (cfgL l 0).toArray, .slice A' (List.length xs) c'] ∧ xs.map MS.sp = readS l (clientsQ l) 9 ∧ Fit xs ∧ xs.length ≤ 16384 ∧ Lo = .own A' xs.length c' T 8 (scells xs) :: sbods xs
attribute [local irreducible] LX CX Yl Gives RetIs Fn
attribute [local irreducible] be de fr.frm
theorem Gives.preb {L : List Ck} (k : Nat) {A : Option Addr} {m q : Nat} {l : List B8} (hk : L[k]? = some (.ro A m 1 (bvs l))) (h2 : q ≤ m) (hq : 0 < q → 0 < m) : Gives L (.ro A q 1 (bvs (l.take q)) :: L) := Gives.add k hk rfl rfl fun w h => ⟨Row.preb h h2, fun b hb => ⟨by have := hb.1; omega, hb.2⟩⟩
set_option maxRecDepth 100000 in
theorem read_fn (A : Option Addr) (n c : Nat) (l0 l : List B8) (hl : l0.length = n) (hc : n ≤ c ∧ c ≤ 9223372036854775807) (hcut : l0.take 16384 = l) : Fn Tryz.prog 11 [.slice A n c] [.ro A n 1 (bvs l0)] [] (ReadP 47 l) := by
  have hll : l.length = min n 16384 := by rw [← hcut, List.length_take, hl, Nat.min_comm]
  have hcl : l.length ≤ c := by omega
  have hmin : (if 16384 < (n : Int) then 16384 else (n : Int)) = (l.length : Nat) := by rw [hll]; split <;> omega
  have hl9 : l.length ≤ 9223372036854775807 := by omega
  refine fn_enter Tryz.func11 rfl rfl (by kernel_rfl) rfl ?_
  intro w0
  repeat (first | refine wz ?_ | (refine wzb ?_; intro b_) | fail)
  refine cx_scope ?_
  refine cx_weakL (L' := [.blk b_ (.int .u8 0 :: List.replicate 10 (.int .i64 0)) 34, .ro A l.length 1 (bvs l)]) ?_ ?_
  · rw [← hcut] at hll ⊢
    rw [hll]
    have e : l0.take 16384 = l0.take (min n 16384) := by rw [List.take_eq_take_iff]; omega
    rw [e]
    exact (Gives.preb 1 rfl (Nat.min_le_left _ _) (by omega)).trans (Gives.pick [1, 0] (by decide) rfl)
  generalize b_ = b2
  repeat (first | ((first | (apply lx_u; exact rfl) | (apply lx_g; exact rfl; exact rfl)); first | (apply isy_blt; exact yl_eq (yl_op (E := EV) rfl) (fun _ => congrArg (Value.int .i64) hmin)) | (apply isy_slice; exact q_slh rfl rfl rfl rfl) | fail) | (refine isx_call ?_; refine k_call ((config_fn _ 0 (rd0 A l c hcl) hl9)) [0, 2] [0] [1, 2] rfl rfl rfl rfl rfl rfl rfl rfl ?_; rintro v_ Lo_ ⟨rfl, rfl⟩) | refine wz ?_ | (refine wzb ?_; intro b_) | fail)
  rename_i b4
  generalize b_ = b5
  have hn0 : 0 < clientsQ l := Nat.succ_pos _
  have hv9 : ((rd0 A l c hcl).go 9).v = 9 := Rd.go_v _ 9
  refine cx_weakL (L' := [.blk b5 (cfgL l 0) 34, ((rd0 A l c hcl).go 9).blk b4 (clientsQ l : Nat), .blk b2 (.int .u8 0 :: List.replicate 10 (.int .i64 0)) 34, .ro A l.length 1 (bvs l)]) (Gives.refl _) ?_
  generalize (rd0 A l c hcl).go 9 = r9 at *
  refine cx_label ?_
  repeat (first | refine wz ?_ | (refine wzb ?_; intro b_) | fail)
  refine cx_loop (α := RSt A l) (fun x => [(2, none, .pointer (some ⟨b2, 0, none⟩)), (4, none, .pointer (some ⟨b4, 0, none⟩)), (5, none, .pointer (some ⟨b5, 0, none⟩)), (6, none, .slice x.A' x.xs.length x.c')])
    (fun x => .own x.A' x.xs.length x.c' 47 8 (scells x.xs) :: x.r'.blk b4 (clientsQ l : Nat) :: .blk b5 (cfgL l 0) 34 :: .blk b2 (.int .u8 0 :: List.replicate 10 (.int .i64 0)) 34 :: .ro A l.length 1 (bvs l) :: sbods x.xs) (fun x => l.length - x.r'.v)
    ⟨r9, [], none, 0, by rw [hv9]; rfl, by rw [hv9]; exact Nat.le_refl _, Nat.zero_le _, fun x hx => by cases hx⟩ ⟨rfl, rfl, rfl, rfl, trivial⟩ ((Gives.nilown _ _ _).trans (Gives.pick [0, 2, 1, 3, 4] (by decide) rfl)) ?_
  rintro ⟨r', xs, A', c', hx0, few, le, fit⟩
  dsimp only at hx0 few le fit ⊢
  by_cases hv : r'.v < l.length
  · have h0 : (((l.length - r'.v : Nat) : Int) == 0) = false := by rw [beq_eq_false_iff_ne]; omega
    have hgt := stepQ_gt l (clientsQ l) r'.v
    rw [readS_lt hv] at hx0
    have hst := step_fn b4 (clientsQ l) r' hn0 hl9
    repeat (first | ((first | (apply lx_gt; exact rfl; exact rfl; exact rfl) | (apply lx_u; exact rfl) | (apply lx_g; exact rfl; exact rfl)); first | (apply isy_bin_eql; exact yl_false (yl_op (E := EV) rfl) (fun _ => h0)) | fail) | refine wzf ?_ | (refine wzb ?_; intro b_) | fail)
    refine cx_cond rfl (fun h => absurd h (by decide)) (fun _ => ?_)
    repeat (first | (refine isx_call ?_; refine k_callT (hst) [_, _, _, _, _] ((sbods xs)) rfl [1, 4] [1] [0, 2, 3, 4] rfl rfl rfl rfl rfl rfl rfl rfl ?_; rintro v_ Lo_ ⟨x, r2, rfl, hx, hr2, hx1, hx2, rfl⟩) | refine wz ?_ | (refine wzb ?_; intro b_) | fail)
    refine lx_append (E := EV) 3 rfl rfl rfl rfl rfl rfl rfl rfl rfl rfl rfl rfl rfl (news := x.cells) (fun w hm => row_blk 0 rfl rfl hm) (scells_one _) (by unfold maxLen; omega) (by show (_ + _) * 88 ≤ _; omega) (fun _ _ _ => trivial) ?_
    intro A2 c2
    have hlen : (xs ++ [x]).length = xs.length + 1 := by simp
    rw [← scells_push, ← hlen]
    repeat (first | refine wz ?_ | (refine wzb ?_; intro b_) | fail)
    refine ⟨⟨r2, xs ++ [x], A2, c2, by rw [hx0, hr2, List.map_append, List.append_assoc, ← hx]; rfl, by rw [hlen, hr2]; omega, by rw [hlen]; omega, fit.push ⟨hx1, hx2⟩⟩, ⟨rfl, rfl, rfl, rfl, trivial⟩, ?_, by dsimp only; omega⟩
    dsimp only
    rw [sbods_push]
    exact Gives.pre [_, _, _, _, _, _, _] [3, 1, 4, 5, 6, 2] (by decide) rfl rfl
  · have h0 : (((l.length - r'.v : Nat) : Int) == 0) = true := by rw [beq_iff_eq]; omega
    rw [readS_ge hv, List.append_nil] at hx0
    repeat (first | ((first | (apply lx_gt; exact rfl; exact rfl; exact rfl) | (apply lx_u; exact rfl) | (apply lx_g; exact rfl; exact rfl)); first | (apply isy_bin_eql; exact yl_true (yl_op (E := EV) rfl) (fun _ => h0)) | fail) | refine wzf ?_ | (refine wzb ?_; intro b_) | fail)
    refine cx_cond rfl (fun _ => ?_) (fun h => absurd h (by decide))
    repeat (first | refine wz ?_ | (refine wzb ?_; intro b_) | fail)
    exact bq_ret (ret_cell_tmp (E := EV) 3 rfl rfl rfl rfl rfl (fun _ => Nat.le_of_ble_eq_true rfl) rfl) (.own A' xs.length c' 47 8 (scells xs) :: sbods xs) (Gives.pre [_, _, _, _, _] [0] (by decide) rfl rfl) (by rw [List.all_cons, sbods_mut]; rfl) ⟨A', c', xs, rfl, hx0.symm, fit, by omega, rfl⟩
end Go.Proofs.YtmochicneilhhaaGreat.sc
