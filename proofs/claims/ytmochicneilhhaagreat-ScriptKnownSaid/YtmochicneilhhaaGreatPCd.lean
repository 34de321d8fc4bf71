/- checks: what the program's functions answer. checks: the program's functions, on. checks: the last of the program's functions, and the reference's. -/
import Derived.Test.YtmochicneilhhaaGreatPCa
import Derived.Test.YtmochicneilhhaaGreatPGo
import Derived.Test.YtmochicneilhhaaGreatPKi
namespace Go.Proofs.YtmochicneilhhaaGreat.chk
open Go.RowKit Go.Proofs.YtmochicneilhhaaGreat.crc
def ones : R := 4294967295#32
def upd (s : R) (l : List B) : R := takes (s ^^^ ones) l ^^^ ones
theorem ones_ones (x : R) : (x ^^^ ones) ^^^ ones = x := by rw [BitVec.xor_assoc, BitVec.xor_self, BitVec.xor_zero]
theorem upd_nil (s : R) : upd s [] = s := ones_ones s
theorem upd_append (s : R) (a b : List B) : upd (upd s a) b = upd s (a ++ b) := by rw [upd, upd, ones_ones, ← takes_append]; rfl
def sumR (s : R) (rs : List Rw) : R := rs.foldl (fun s r => upd s r.l) s
theorem sumR_take {rs : List Rw} {i : Nat} {r : Rw} (s : R) (h : rs[i]? = some r) : sumR s (rs.take (i + 1)) = upd (sumR s (rs.take i)) r.l := by
  rw [List.take_add_one, h, sumR, List.foldl_append]
  rfl
theorem takes_take {l : List B} {i : Nat} {x : B} (c : R) (h : l[i]? = some x) : takes c (l.take (i + 1)) = take (takes c (l.take i)) x := by
  rw [List.take_add_one, h, takes, List.foldl_append]
  rfl
/-- the table, made or not yet -/
def tabS (e : Bool) : List Value := bif e then tabC 1 0 256 else tabC 0 0 0
theorem tabS_len (e : Bool) : (tabS e).length = 259 * 1 := by cases e <;> simp [tabS, tabC, rowsI_len]
theorem tab_zero : [Value.int .u32 0] ++ [Value.int .i32 0] ++ List.replicate 257 (Value.int .u32 0) = tabS false := by
  show _ = tabC 0 0 0
  rw [tabC, rowsI_zero, List.replicate_succ]
  rfl
theorem Gives.blkeq {L : List Ck} (k : Nat) {b : Nat} {cs cs' : List Value} {T : TypeId} (hk : L[k]? = some (.blk b cs T)) (he : cs = cs') : Gives L (L.set k (.blk b cs' T)) := fun M w h => by
  subst he
  have : L.set k (.blk b cs T) = L := by
    apply List.ext_getElem?
    intro j
    rw [List.getElem?_set]
    split
    · rename_i hj
      subst hj
      rw [hk]
      have := (List.getElem?_eq_some_iff.1 hk).1
      simp [this]
    · rfl
  rw [this]
  exact h
theorem rows_one {M : Me} {L : List Ck} {w : World} {b : Nat} {T : TypeId} {A : Option Addr} {n c : Nat} {l : List B8} (hm : Mem M L w) (hk : L[0]? = some (.blk b [.slice A n c] T)) (hr : Row w w.heap.size 1 A n (bvs l)) (hc : n ≤ c ∧ c ≤ 9223372036854775807) : Mem ⟨w, []⟩ [.rows (some ⟨b, 0, none⟩) 1 [⟨A, n, c, l⟩]] w := by
  refine rows_in ⟨row_blk 0 hk rfl hm, fun r hr' => ?_⟩ (in_nil hm) rfl
  obtain rfl : r = ⟨A, n, c, l⟩ := by simpa using hr'
  exact ⟨hr, hc⟩
attribute [local irreducible] LX CX Yl Gives RetIs Fn
attribute [local irreducible] crc.many crc.row crc.one tabS takes take
set_option maxHeartbeats 1000000 in
theorem full_fn (b : Nat) (e : Bool) : Fn Tryz.prog 128 [.pointer (some ⟨b, 0, none⟩)] [.blk b (tabS e) 181] [b] fun v Lo => v = .pointer (some ⟨b, 0, none⟩) ∧ Lo = [.blk b (tabS true) 181] := by
  refine fn_enter Tryz.func128 rfl rfl (by kernel_rfl) rfl ?_
  intro w0
  repeat (first | refine wz ?_ | (refine wzb ?_; intro b_) | fail)
  refine cx_cond rfl (fun h => by cases h) (fun _ => ?_)
  repeat (first | ((first | (apply lx_u; exact rfl) | (apply lx_g; exact rfl; exact rfl)); first | (apply isy_makeFunc; exact yl_makeFunc rfl rfl (by (repeat (first | exact trivial | refine And.intro ?_ ?_ | exact fun _ => rfl | exact fun h => h | exact fun h => (Bool.and_eq_true_iff.1 h).1)); done) (by (repeat (first | exact trivial | refine And.intro ?_ ?_ | exact fun _ => rfl | exact fun h => h | exact fun h => (Bool.and_eq_true_iff.1 h).1)); done)) | fail) | refine wz ?_ | (refine wzb ?_; intro b_) | fail)
  cases e
  · have hf := fill_fn b b_
    refine lx_call (once.do_fn b _ [.pointer (some ⟨b_, 0, none⟩)] (.int .u32 0 :: rowsI 0) (.int .u32 0 :: rowsI 256) 181 [.ro (some ⟨b_, 0, none⟩) 1 1 [.pointer (some ⟨b, 0, none⟩)]] hf (by simp [Ck.mut_])) [.blk b (tabS false) 181] [.blk b_ [.pointer (some ⟨b, 0, none⟩)] _] (Gives.pick [1, 0] (by decide) rfl)
      (fun w hm => ?_) (fun g hg => ⟨_, List.mem_cons_self .., rfl, (List.mem_singleton.1 hg).symm⟩) (fun _ _ => trivial) rfl rfl rfl rfl rfl rfl rfl rfl ?_
    · have h2 := (Gives.blkro 0 (m := 1) (sz := 1) rfl rfl).app hm
      refine h2.enter [1, 0] (by decide) ?_ ?_
      · unfold tabS; rfl
      · intro c hc hcm g hg
        rcases List.mem_cons.1 hc with rfl | hc
        · cases hg; exact List.mem_cons_self ..
        · rcases List.mem_cons.1 hc with rfl | hc
          · cases hcm
          · cases hc
    rintro v_ Lo_ ⟨rfl, rfl⟩
    repeat (first | refine wz ?_ | (refine wzb ?_; intro b_) | fail)
    refine bq_ret (ret_tmp rfl rfl) [_] (Gives.pick [0] (by decide) rfl) rfl ⟨rfl, ?_⟩
    unfold tabS; rfl
  · refine lx_call0 (once.done_fn b _ (tabS true) 259 (by unfold tabS; rfl)) (fun w hm => in_ro (row_blk 1 rfl (tabS_len true) hm) (in_nil hm) rfl) rfl rfl rfl rfl rfl rfl rfl rfl ?_
    rintro v_ Lo_ ⟨rfl, rfl⟩
    repeat (first | refine wz ?_ | (refine wzb ?_; intro b_) | fail)
    exact bq_ret (ret_tmp rfl rfl) [_] (Gives.pick [1] (by decide) rfl) rfl ⟨rfl, rfl⟩
end Go.Proofs.YtmochicneilhhaaGreat.chk
namespace Go.Proofs.YtmochicneilhhaaGreat.chk
open Go.RowKit Go.Proofs.YtmochicneilhhaaGreat.crc
attribute [local irreducible] LX CX Yl Gives RetIs Fn
attribute [local irreducible] crc.many crc.row crc.one tabS takes take

theorem next_fn (b : Nat) (r : R) (x : B) : Fn Tryz.prog 129 [.pointer (some ⟨b, 0, none⟩), .int .u32 r.toNat, bv x] [.ro (some ⟨b, 0, none⟩) 259 1 (tabS true)] [] fun v Lo => v = .int .u32 (take r x).toNat ∧ Lo = [] := by
  refine fn_enter Tryz.func129 rfl rfl (by kernel_rfl) rfl ?_
  intro w0
  have hc : (tabS true)[3 + (r.setWidth 8 ^^^ x).toNat]? = some (.int .u32 (crc.row (r.setWidth 8 ^^^ x)).toNat) := by unfold tabS; exact tabC_get 1 0 _
  have hlt := (r.setWidth 8 ^^^ x).isLt
  repeat (first | ((first | (apply lx_u; exact rfl) | (apply lx_g; exact rfl; exact rfl)); first | (apply isy_convert; exact yl_cv (E := EV) uk8 _ rfl rfl rfl rfl (by first | exact fun _ => rfl | exact fun h => h | exact fun h => (Bool.and_eq_true_iff.1 h).1)) | (apply isy_bin_xor; exact yl_xor uk8 _ _ rfl rfl rfl rfl (by first | exact fun _ => rfl | exact fun h => h | exact fun h => (Bool.and_eq_true_iff.1 h).1) (by first | exact fun _ => rfl | exact fun h => h | exact fun h => (Bool.and_eq_true_iff.1 h).1)) | (apply isy_bin_xor; exact yl_xor uk32 _ _ rfl rfl rfl rfl (by first | exact fun _ => rfl | exact fun h => h | exact fun h => (Bool.and_eq_true_iff.1 h).1) (by first | exact fun _ => rfl | exact fun h => h | exact fun h => (Bool.and_eq_true_iff.1 h).1)) | (apply isy_indexAddr; exact yl_indexP (E := EV) rfl rfl rfl rfl (by first | exact fun _ => rfl | exact fun h => h | exact fun h => (Bool.and_eq_true_iff.1 h).1) (by first | exact fun _ => rfl | exact fun h => h | exact fun h => (Bool.and_eq_true_iff.1 h).1) (fun _ => by omega)) | (apply isy_load; exact yl_loadVR (E := EV) 0 rfl rfl rfl rfl (fun _ => hc) (by first | exact fun _ => rfl | exact fun h => h | exact fun h => (Bool.and_eq_true_iff.1 h).1)) | (apply isy_bin_shr; exact yl_bshr uk32 _ 8 rfl rfl rfl rfl (by first | exact fun _ => rfl | exact fun h => h | exact fun h => (Bool.and_eq_true_iff.1 h).1) (by first | exact fun _ => rfl | exact fun h => h | exact fun h => (Bool.and_eq_true_iff.1 h).1)) | fail) | refine wz ?_ | (refine wzb ?_; intro b_) | fail)
  rw [take_row]
  exact bq_ret (ret_tmp rfl rfl) [] (Gives.nil _) rfl ⟨rfl, rfl⟩


set_option maxHeartbeats 1000000 in
theorem tUpdate_fn (b : Nat) (e : Bool) (s : R) (A : Option Addr) (n c : Nat) (l : List B) (hl : l.length = n) (hn : n ≤ 9223372036854775807) : Fn Tryz.prog 103 [.pointer (some ⟨b, 0, none⟩), .int .u32 s.toNat, .slice A n c] [.blk b (tabS e) 181, .ro A n 1 (bvs l)] [b]
    fun v Lo => v = .int .u32 (upd s l).toNat ∧ Lo = [.blk b (tabS true) 181] := by
  refine fn_enter Tryz.func103 rfl rfl (by kernel_rfl) rfl ?_
  intro w0
  repeat (first | refine wz ?_ | (refine wzb ?_; intro b_) | fail)
  refine lx_call (full_fn b e) [.blk b (tabS e) 181] [.ro A n 1 (bvs l)] (Gives.refl _) (fun w hm => hm.enter [0] (by decide) rfl (fun c hc _ g hg => ?_)) (fun g hg => ⟨_, List.mem_cons_self .., rfl, (List.mem_singleton.1 hg).symm⟩) (fun _ _ => trivial) rfl rfl rfl rfl rfl rfl rfl rfl ?_
  · obtain rfl := List.mem_singleton.1 hc
    cases hg
    exact List.mem_cons_self ..
  rintro v_ Lo_ ⟨rfl, rfl⟩
  repeat (first | ((first | (apply lx_u; exact rfl) | (apply lx_g; exact rfl; exact rfl)); first | (apply isy_bin_xor; exact yl_xor uk32 _ ones rfl rfl rfl rfl (by first | exact fun _ => rfl | exact fun h => h | exact fun h => (Bool.and_eq_true_iff.1 h).1) (by first | exact fun _ => rfl | exact fun h => h | exact fun h => (Bool.and_eq_true_iff.1 h).1)) | fail) | refine wz ?_ | (refine wzb ?_; intro b_) | fail)
  refine cx_loop (α := { i : Nat // i ≤ n }) (fun x => [(0, none, .pointer (some ⟨b, 0, none⟩)), (7, none, .int .u32 (takes (s ^^^ ones) (l.take x.1)).toNat), (14, none, .slice A n c), (15, none, .int .i64 n), (16, none, .int .i64 x.1)]) (fun _ => [.blk b (tabS true) 181, .ro A n 1 (bvs l)]) (fun x => n - x.1)
    ⟨0, Nat.zero_le _⟩ ⟨rfl, by unfold takes; rfl, rfl, rfl, rfl, trivial⟩ (Gives.refl _) ?_
  rintro ⟨i, hi⟩
  dsimp only
  repeat (first | refine wz ?_ | (refine wzb ?_; intro b_) | fail)
  refine cx_cond rfl (fun h => ?_) (fun h => ?_)
  · have hlt : i < n := by simp at h; omega
    obtain ⟨x, hx⟩ : ∃ x, l[i]? = some x := ⟨_, List.getElem?_eq_getElem (by omega)⟩
    have hx0 : (bvs l)[mulI i 1]? = some (bv x) := bvs_get hx
    repeat (first | ((first | (apply lx_u; exact rfl) | (apply lx_g; exact rfl; exact rfl)); first | (apply isy_indexAddr; exact yl_index (E := EV) 1 rfl rfl rfl rfl rfl (Shows.ro ..) (by first | exact fun _ => rfl | exact fun h => h | exact fun h => (Bool.and_eq_true_iff.1 h).1) (by first | exact fun _ => rfl | exact fun h => h | exact fun h => (Bool.and_eq_true_iff.1 h).1) (fun _ => by omega)) | (apply isy_load; exact yl_loadI (E := EV) 1 rfl rfl rfl (Shows.ro ..) rfl (fun _ => hx0) (by first | exact fun _ => rfl | exact fun h => h | exact fun h => (Bool.and_eq_true_iff.1 h).1)) | fail) | (refine isx_call ?_; refine k_gcall (next_fn b _ x) ((fun w hm => in_ro (row_blk 0 rfl (tabS_len true) hm) (in_nil hm) rfl)) rfl rfl rfl rfl rfl rfl ?_) | refine wz ?_ | (refine wzb ?_; intro b_) | fail)
    exact ⟨⟨i + 1, by omega⟩, ⟨rfl, slot_int (by dsimp only; rw [takes_take _ hx]), rfl, rfl, slot_int (by dsimp only; omega), trivial⟩, Gives.refl _, by dsimp only; omega⟩
  · obtain rfl : i = n := by simp at h; omega
    rw [List.take_of_length_le (by omega)]
    repeat (first | ((first | (apply lx_u; exact rfl) | (apply lx_g; exact rfl; exact rfl)); first | (apply isy_bin_xor; exact yl_xor uk32 _ ones rfl rfl rfl rfl (by first | exact fun _ => rfl | exact fun h => h | exact fun h => (Bool.and_eq_true_iff.1 h).1) (by first | exact fun _ => rfl | exact fun h => h | exact fun h => (Bool.and_eq_true_iff.1 h).1)) | fail) | refine wz ?_ | (refine wzb ?_; intro b_) | fail)
    exact bq_ret (ret_tmp rfl rfl) [_] (Gives.pick [0] (by decide) rfl) rfl ⟨rfl, rfl⟩

















































set_option maxHeartbeats 1000000 in
theorem sum_fn (A : Option Addr) (n c : Nat) (rs : List Rw) (hl : rs.length = n) (hn : n ≤ 9223372036854775807) : Fn Tryz.prog 79 [.slice A n c] [.rows A n rs] [] fun v Lo => v = .int .u32 (sumR 0#32 rs).toNat ∧ Lo = [] := by
  refine fn_enter Tryz.func79 rfl rfl (by kernel_rfl) rfl ?_
  intro w0
  repeat (first | refine wz ?_ | (refine wzb ?_; intro b_) | fail)
  refine cx_loop (α := { x : Nat × Bool // x.1 ≤ n }) (fun x => [(2, none, .int .u32 (sumR 0#32 (rs.take x.1.1)).toNat), (3, none, .pointer (some ⟨b_, 0, none⟩)), (8, none, .slice A n c), (9, none, .int .i64 n), (10, none, .int .i64 x.1.1)]) (fun x => [.blk b_ (tabS x.1.2) 181, .rows A n rs]) (fun x => n - x.1.1)
    ⟨(0, false), Nat.zero_le _⟩ ⟨rfl, rfl, rfl, rfl, rfl, trivial⟩ (Gives.blkeq 0 rfl tab_zero) ?_
  rintro ⟨⟨i, e⟩, hi⟩
  dsimp only at hi ⊢
  repeat (first | refine wz ?_ | (refine wzb ?_; intro b_) | fail)
  refine cx_cond rfl (fun h => ?_) (fun h => ?_)
  · have hlt : i < n := by simp at h; omega
    obtain ⟨r, hr⟩ : ∃ r, rs[i]? = some r := ⟨_, List.getElem?_eq_getElem (by omega)⟩
    have hr0 := rwv_get hr
    repeat (first | refine wz ?_ | (refine wzb ?_; intro b_) | fail)
    refine lx_fact (fun w hm => rows_ok 1 rfl hr hm) fun ⟨hrl, hrc, hrm⟩ => ?_
    refine lx_more (L' := [.ro r.A r.n 1 (bvs r.l), .ro A n 1 (rwv rs), .blk b_ (tabS e) 181, .rows A n rs]) ((Gives.rows 1 rfl).trans (Gives.rowsAt 2 rfl hr)) (Gives.pick [2, 3] (by decide) rfl) ?_
    repeat (first | ((first | (apply lx_u; exact rfl) | (apply lx_g; exact rfl; exact rfl)); first | (apply isy_indexAddr; exact yl_index (E := EV) 1 rfl rfl rfl rfl rfl (Shows.ro ..) (by first | exact fun _ => rfl | exact fun h => h | exact fun h => (Bool.and_eq_true_iff.1 h).1) (by first | exact fun _ => rfl | exact fun h => h | exact fun h => (Bool.and_eq_true_iff.1 h).1) (fun _ => by omega)) | (apply isy_load; exact yl_loadI (E := EV) 1 rfl rfl rfl (Shows.ro ..) rfl (fun _ => hr0) (by first | exact fun _ => rfl | exact fun h => h | exact fun h => (Bool.and_eq_true_iff.1 h).1)) | fail) | refine wz ?_ | (refine wzb ?_; intro b_) | fail)
    refine lx_call (tUpdate_fn b_ e _ r.A r.n r.c r.l hrl (by omega)) [.blk b_ (tabS e) 181] [.rows A n rs] (Gives.pick [2, 3] (by decide) rfl) (fun w hm => hm.enter [2, 0] (by decide) rfl (fun c hc hcm g hg => ?_)) (fun g hg => ⟨_, List.mem_cons_self .., rfl, (List.mem_singleton.1 hg).symm⟩) (fun _ _ => trivial) rfl rfl rfl rfl rfl rfl rfl rfl ?_
    · rcases List.mem_cons.1 hc with rfl | hc
      · cases hg; exact List.mem_cons_self ..
      · obtain rfl := List.mem_singleton.1 hc
        cases hcm
    rintro v_ Lo_ ⟨rfl, rfl⟩
    repeat (first | refine wz ?_ | (refine wzb ?_; intro b_) | fail)
    exact ⟨⟨(i + 1, true), by dsimp only; omega⟩, ⟨slot_int (by dsimp only; rw [sumR_take _ hr]), rfl, rfl, rfl, slot_int (by dsimp only; omega), trivial⟩, Gives.refl _, by dsimp only; omega⟩
  · obtain rfl : i = n := by simp at h; omega
    rw [List.take_of_length_le (by omega)]
    repeat (first | refine wz ?_ | (refine wzb ?_; intro b_) | fail)
    exact bq_ret (ret_tmp rfl rfl) [] (Gives.nil _) rfl ⟨rfl, rfl⟩

end Go.Proofs.YtmochicneilhhaaGreat.chk
namespace Go.Proofs.YtmochicneilhhaaGreat.chk
open Go.RowKit Go.Proofs.YtmochicneilhhaaGreat.crc
def ofL (c : R) : List B := [(c >>> 24).setWidth 8, (c >>> 16).setWidth 8, (c >>> 8).setWidth 8, c.setWidth 8]
theorem two_rem (x : R) : (x % 2#32 == 1#32) = (x &&& 1#32 == 1#32) := by
  have h1 : (x % 2#32).toNat = x.toNat % 2 := by rw [BitVec.toNat_umod]; rfl
  have h2 : (x &&& 1#32).toNat = x.toNat % 2 := by rw [BitVec.toNat_and]; exact Nat.and_one_is_mod _
  have : x % 2#32 = x &&& 1#32 := BitVec.eq_of_toNat_eq (by rw [h1, h2])
  rw [this]
theorem two_quo (x : R) : x / 2#32 = x >>> 1 := by
  apply BitVec.eq_of_toNat_eq
  rw [BitVec.toNat_udiv, BitVec.toNat_ushiftRight, Nat.shiftRight_eq_div_pow]
  rfl
theorem sub_ones (x : R) : ones - x = x ^^^ ones := by
  have h : ones = BitVec.allOnes 32 := by decide
  rw [h, BitVec.allOnes_sub_eq_not, BitVec.not_def, BitVec.xor_comm]
theorem sumR_flat (s : R) (rs : List Rw) : sumR s rs = upd s (rs.flatMap (·.l)) := by
  induction rs generalizing s with
  | nil => exact (upd_nil s).symm
  | cons r rs ih =>
    show sumR (upd s r.l) rs = _
    rw [ih, upd_append]
    rfl
theorem byte_quo (c : R) : (c / 16777216#32).setWidth 8 = (c >>> 24).setWidth 8 ∧ ((c / 65536#32) % 256#32).setWidth 8 = (c >>> 16).setWidth 8 ∧ ((c / 256#32) % 256#32).setWidth 8 = (c >>> 8).setWidth 8 ∧ (c % 256#32).setWidth 8 = c.setWidth 8 := by
  refine ⟨?_, ?_, ?_, ?_⟩ <;> apply BitVec.eq_of_toNat_eq <;> simp only [BitVec.toNat_setWidth, BitVec.toNat_udiv, BitVec.toNat_umod, BitVec.toNat_ushiftRight, Nat.shiftRight_eq_div_pow, BitVec.toNat_ofNat, Nat.reducePow, Nat.reduceMod] <;> omega
attribute [local irreducible] LX CX Yl Gives RetIs Fn
attribute [local irreducible] crc.many crc.row crc.one tabS takes take

theorem sum1_fn (b : Nat) (A : Option Addr) (n c : Nat) (l : List B) : Fn Tryz.prog 79 [.slice (some ⟨b, 0, none⟩) 1 1] [.rows (some ⟨b, 0, none⟩) 1 [⟨A, n, c, l⟩]] [] fun v Lo => v = .int .u32 (upd 0#32 l).toNat ∧ Lo = [] := sum_fn _ 1 1 [⟨A, n, c, l⟩] rfl (by omega)









theorem is_fn (A : Option Addr) (n c : Nat) (l : List B) (s : R) (hc : n ≤ c ∧ c ≤ 9223372036854775807) : Fn Tryz.prog 158 [.slice A n c, .int .u32 s.toNat] [.ro A n 1 (bvs l)] [] fun v Lo => v = .bool (upd 0#32 l == s) ∧ Lo = [] := by
  refine fn_enter Tryz.func158 rfl rfl (by kernel_rfl) rfl ?_
  intro w0
  repeat (first | ((first | (apply lx_u; exact rfl) | (apply lx_g; exact rfl; exact rfl)); first | (apply isy_bin_eql; exact yl_beq _ _ rfl rfl rfl rfl (by first | exact fun _ => rfl | exact fun h => h | exact fun h => (Bool.and_eq_true_iff.1 h).1) (by first | exact fun _ => rfl | exact fun h => h | exact fun h => (Bool.and_eq_true_iff.1 h).1)) | fail) | (refine isx_call ?_; refine k_gcall (sum1_fn _ A n c l) ((fun w hm => rows_one hm rfl (row_ro 1 rfl hm) hc)) rfl rfl rfl rfl rfl rfl ?_) | refine wz ?_ | (refine wzb ?_; intro b_) | fail)
  exact bq_ret (ret_tmp rfl rfl) [] (Gives.nil _) rfl ⟨rfl, rfl⟩











theorem rTake_fn (r : R) (x : B) : Fn Tryz.prog 130 [.int .u32 r.toNat, bv x] [] [] fun v Lo => v = .int .u32 (take r x).toNat ∧ Lo = [] := by
  refine fn_enter Tryz.func130 rfl rfl (by kernel_rfl) rfl ?_
  intro w0
  repeat (first | ((first | (apply lx_u; exact rfl) | (apply lx_g; exact rfl; exact rfl)); first | (apply isy_convert; exact yl_cv (E := EV) uk32 _ rfl rfl rfl rfl (by first | exact fun _ => rfl | exact fun h => h | exact fun h => (Bool.and_eq_true_iff.1 h).1)) | (apply isy_bin_xor; exact yl_xor uk32 _ _ rfl rfl rfl rfl (by first | exact fun _ => rfl | exact fun h => h | exact fun h => (Bool.and_eq_true_iff.1 h).1) (by first | exact fun _ => rfl | exact fun h => h | exact fun h => (Bool.and_eq_true_iff.1 h).1)) | fail) | refine wz ?_ | (refine wzb ?_; intro b_) | fail)
  have ht : take r x = many 8 (r ^^^ x.setWidth 32) := by unfold take; rfl
  rw [ht]
  generalize r ^^^ x.setWidth 32 = c0
  refine cx_loop (α := { k : Nat // k ≤ 8 }) (fun x => [(5, none, .int .u32 (crc.many x.1 c0).toNat), (6, none, .int .i64 x.1)]) (fun _ => []) (fun x => 8 - x.1) ⟨0, Nat.zero_le _⟩ ⟨by unfold crc.many; rfl, rfl, trivial⟩ (Gives.refl _) ?_
  rintro ⟨k, hk⟩
  dsimp only
  repeat (first | refine wz ?_ | (refine wzb ?_; intro b_) | fail)
  refine cx_cond rfl (fun h => ?_) (fun h => ?_)
  · have hk2 : k < 8 := by simp at h; omega
    repeat (first | ((first | (apply lx_u; exact rfl) | (apply lx_g; exact rfl; exact rfl)); first | (apply isy_bin_rem; exact yl_brem uk32 _ 2#32 rfl rfl rfl rfl (by first | exact fun _ => rfl | exact fun h => h | exact fun h => (Bool.and_eq_true_iff.1 h).1) (by first | exact fun _ => rfl | exact fun h => h | exact fun h => (Bool.and_eq_true_iff.1 h).1) (fun _ => by decide)) | (apply isy_bin_eql; exact yl_beq _ 1#32 rfl rfl rfl rfl (by first | exact fun _ => rfl | exact fun h => h | exact fun h => (Bool.and_eq_true_iff.1 h).1) (by first | exact fun _ => rfl | exact fun h => h | exact fun h => (Bool.and_eq_true_iff.1 h).1)) | fail) | refine wz ?_ | (refine wzb ?_; intro b_) | fail)
    refine cx_cond rfl (fun h1 => ?_) (fun h1 => ?_)
    · repeat (first | ((first | (apply lx_u; exact rfl) | (apply lx_g; exact rfl; exact rfl)); first | (apply isy_bin_quo; exact yl_bquo uk32 _ 2#32 rfl rfl rfl rfl (by first | exact fun _ => rfl | exact fun h => h | exact fun h => (Bool.and_eq_true_iff.1 h).1) (by first | exact fun _ => rfl | exact fun h => h | exact fun h => (Bool.and_eq_true_iff.1 h).1) (fun _ => by decide)) | (apply isy_bin_xor; exact yl_xor uk32 _ 0xEDB88320#32 rfl rfl rfl rfl (by first | exact fun _ => rfl | exact fun h => h | exact fun h => (Bool.and_eq_true_iff.1 h).1) (by first | exact fun _ => rfl | exact fun h => h | exact fun h => (Bool.and_eq_true_iff.1 h).1)) | fail) | refine wz ?_ | (refine wzb ?_; intro b_) | fail)
      exact ⟨⟨k + 1, by omega⟩, ⟨slot_int (by dsimp only; rw [many_succ, one_odd (by rw [← two_rem]; exact h1), two_quo]), slot_int (by dsimp only; omega), trivial⟩, Gives.refl _, by dsimp only; omega⟩
    · repeat (first | ((first | (apply lx_u; exact rfl) | (apply lx_g; exact rfl; exact rfl)); first | (apply isy_bin_quo; exact yl_bquo uk32 _ 2#32 rfl rfl rfl rfl (by first | exact fun _ => rfl | exact fun h => h | exact fun h => (Bool.and_eq_true_iff.1 h).1) (by first | exact fun _ => rfl | exact fun h => h | exact fun h => (Bool.and_eq_true_iff.1 h).1) (fun _ => by decide)) | fail) | refine wz ?_ | (refine wzb ?_; intro b_) | fail)
      exact ⟨⟨k + 1, by omega⟩, ⟨slot_int (by dsimp only; rw [many_succ, one_even (by rw [← two_rem]; exact h1), two_quo]), slot_int (by dsimp only; omega), trivial⟩, Gives.refl _, by dsimp only; omega⟩
  · obtain rfl : k = 8 := by simp at h; omega
    repeat (first | refine wz ?_ | (refine wzb ?_; intro b_) | fail)
    exact bq_ret (ret_tmp rfl rfl) [] (Gives.nil _) rfl ⟨rfl, rfl⟩























set_option maxHeartbeats 1000000 in
theorem rSum_fn (A : Option Addr) (n c : Nat) (rs : List Rw) (hl : rs.length = n) (hn : n ≤ 9223372036854775807) : Fn Tryz.prog 108 [.slice A n c] [.rows A n rs] [] fun v Lo => v = .int .u32 (sumR 0#32 rs).toNat ∧ Lo = [] := by
  refine fn_enter Tryz.func108 rfl rfl (by kernel_rfl) rfl ?_
  intro w0
  repeat (first | refine wz ?_ | (refine wzb ?_; intro b_) | fail)
  rw [sumR_flat]
  refine cx_loop (α := { i : Nat // i ≤ n }) (fun x => [(0, none, .slice A n c), (3, none, .int .u32 (takes ones ((rs.take x.1).flatMap (·.l))).toNat), (4, none, .int .i64 x.1)]) (fun _ => [.rows A n rs]) (fun x => n - x.1)
    ⟨0, Nat.zero_le _⟩ ⟨rfl, by unfold takes; rfl, rfl, trivial⟩ (Gives.refl _) ?_
  rintro ⟨i, hi⟩
  dsimp only
  repeat (first | refine wz ?_ | (refine wzb ?_; intro b_) | fail)
  refine cx_cond rfl (fun h => ?_) (fun h => ?_)
  · have hlt : i < n := by simp at h; omega
    obtain ⟨r, hr⟩ : ∃ r, rs[i]? = some r := ⟨_, List.getElem?_eq_getElem (by omega)⟩
    have hr0 := rwv_get hr
    repeat (first | refine wz ?_ | (refine wzb ?_; intro b_) | fail)
    refine cx_fact (fun w hm => rows_ok 0 rfl hr hm) fun ⟨hrl, hrc, hrm⟩ => ?_
    refine cx_loop (α := { k : Nat // k ≤ r.n }) (fun x => [(0, none, .slice A n c), (3, none, .int .u32 (takes ones ((rs.take i).flatMap (·.l) ++ r.l.take x.1)).toNat), (4, none, .int .i64 i), (5, none, .int .i64 x.1)]) (fun _ => [.ro r.A r.n 1 (bvs r.l), .ro A n 1 (rwv rs), .rows A n rs]) (fun x => r.n - x.1)
      ⟨0, Nat.zero_le _⟩ ⟨rfl, by simp only [List.take_zero, List.append_nil]; rfl, rfl, rfl, trivial⟩ ((Gives.rows 0 rfl).trans (Gives.rowsAt 1 rfl hr)) ?_
    rintro ⟨k, hk⟩
    dsimp only
    repeat (first | ((first | (apply lx_u; exact rfl) | (apply lx_g; exact rfl; exact rfl)); first | (apply isy_indexAddr; exact yl_index (E := EV) 1 rfl rfl rfl rfl rfl (Shows.ro ..) (by first | exact fun _ => rfl | exact fun h => h | exact fun h => (Bool.and_eq_true_iff.1 h).1) (by first | exact fun _ => rfl | exact fun h => h | exact fun h => (Bool.and_eq_true_iff.1 h).1) (fun _ => by omega)) | (apply isy_load; exact yl_loadI (E := EV) 1 rfl rfl rfl (Shows.ro ..) rfl (fun _ => hr0) (by first | exact fun _ => rfl | exact fun h => h | exact fun h => (Bool.and_eq_true_iff.1 h).1)) | fail) | refine wz ?_ | (refine wzb ?_; intro b_) | fail)
    refine cx_cond rfl (fun h => ?_) (fun h => ?_)
    · have hklt : k < r.n := by simp at h; omega
      obtain ⟨x, hx⟩ : ∃ x, r.l[k]? = some x := ⟨_, List.getElem?_eq_getElem (by omega)⟩
      have hx0 : (bvs r.l)[mulI k 1]? = some (bv x) := bvs_get hx
      repeat (first | ((first | (apply lx_u; exact rfl) | (apply lx_g; exact rfl; exact rfl)); first | (apply isy_indexAddr; exact yl_index (E := EV) 1 rfl rfl rfl rfl rfl (Shows.ro ..) (by first | exact fun _ => rfl | exact fun h => h | exact fun h => (Bool.and_eq_true_iff.1 h).1) (by first | exact fun _ => rfl | exact fun h => h | exact fun h => (Bool.and_eq_true_iff.1 h).1) (fun _ => by omega)) | (apply isy_indexAddr; exact yl_index (E := EV) 0 rfl rfl rfl rfl rfl (Shows.ro ..) (by first | exact fun _ => rfl | exact fun h => h | exact fun h => (Bool.and_eq_true_iff.1 h).1) (by first | exact fun _ => rfl | exact fun h => h | exact fun h => (Bool.and_eq_true_iff.1 h).1) (fun _ => by omega)) | (apply isy_load; exact yl_loadI (E := EV) 1 rfl rfl rfl (Shows.ro ..) rfl (fun _ => hr0) (by first | exact fun _ => rfl | exact fun h => h | exact fun h => (Bool.and_eq_true_iff.1 h).1)) | (apply isy_load; exact yl_loadI (E := EV) 0 rfl rfl rfl (Shows.ro ..) rfl (fun _ => hx0) (by first | exact fun _ => rfl | exact fun h => h | exact fun h => (Bool.and_eq_true_iff.1 h).1)) | fail) | (refine isx_call ?_; refine k_gcall (rTake_fn _ x) (fun _ hm => in_nil hm) rfl rfl rfl rfl rfl rfl ?_) | refine wz ?_ | (refine wzb ?_; intro b_) | fail)
      refine ⟨⟨k + 1, by omega⟩, ⟨rfl, slot_int ?_, rfl, slot_int (by dsimp only; omega), trivial⟩, Gives.refl _, by dsimp only; omega⟩
      dsimp only
      rw [takes_append, takes_append, takes_take _ hx]
    · obtain rfl : k = r.n := by simp at h; omega
      repeat (first | refine wz ?_ | (refine wzb ?_; intro b_) | fail)
      refine ⟨⟨i + 1, by omega⟩, ⟨rfl, slot_int ?_, slot_int (by dsimp only; omega), trivial⟩, Gives.pick [2] (by decide) rfl, by dsimp only; omega⟩
      dsimp only
      rw [show r.l.take r.n = r.l from List.take_of_length_le (by omega), List.take_add_one, hr]
      simp
  · obtain rfl : i = n := by simp at h; omega
    rw [List.take_of_length_le (by omega)]
    repeat (first | ((first | (apply lx_u; exact rfl) | (apply lx_g; exact rfl; exact rfl)); first | (apply isy_bin_sub; exact yl_bsub uk32 ones _ rfl rfl rfl rfl (by first | exact fun _ => rfl | exact fun h => h | exact fun h => (Bool.and_eq_true_iff.1 h).1) (by first | exact fun _ => rfl | exact fun h => h | exact fun h => (Bool.and_eq_true_iff.1 h).1)) | fail) | refine wz ?_ | (refine wzb ?_; intro b_) | fail)
    exact bq_ret (ret_tmp rfl rfl) [] (Gives.nil _) rfl ⟨by rw [sub_ones]; rfl, rfl⟩


theorem rSum1_fn (b : Nat) (A : Option Addr) (n c : Nat) (l : List B) : Fn Tryz.prog 108 [.slice (some ⟨b, 0, none⟩) 1 1] [.rows (some ⟨b, 0, none⟩) 1 [⟨A, n, c, l⟩]] [] fun v Lo => v = .int .u32 (upd 0#32 l).toNat ∧ Lo = [] := rSum_fn _ 1 1 [⟨A, n, c, l⟩] rfl (by omega)


theorem rOf_fn (A : Option Addr) (n c : Nat) (l : List B) (hc : n ≤ c ∧ c ≤ 9223372036854775807) : Fn Tryz.prog 84 [.slice A n c] [.ro A n 1 (bvs l)] [] fun v Lo => ∃ b, v = .slice (some ⟨b, 0, none⟩) 4 4 ∧ Lo = [.blk b (bvs (ofL (upd 0#32 l))) 5] := by
  refine fn_enter Tryz.func84 rfl rfl (by kernel_rfl) rfl ?_
  intro w0
  repeat (first | ((first | (apply lx_u; exact rfl) | (apply lx_g; exact rfl; exact rfl)); first | (apply isy_bin_quo; exact yl_bquo uk32 _ 16777216#32 rfl rfl rfl rfl (by first | exact fun _ => rfl | exact fun h => h | exact fun h => (Bool.and_eq_true_iff.1 h).1) (by first | exact fun _ => rfl | exact fun h => h | exact fun h => (Bool.and_eq_true_iff.1 h).1) (fun _ => by decide)) | (apply isy_bin_quo; exact yl_bquo uk32 _ 65536#32 rfl rfl rfl rfl (by first | exact fun _ => rfl | exact fun h => h | exact fun h => (Bool.and_eq_true_iff.1 h).1) (by first | exact fun _ => rfl | exact fun h => h | exact fun h => (Bool.and_eq_true_iff.1 h).1) (fun _ => by decide)) | (apply isy_bin_quo; exact yl_bquo uk32 _ 256#32 rfl rfl rfl rfl (by first | exact fun _ => rfl | exact fun h => h | exact fun h => (Bool.and_eq_true_iff.1 h).1) (by first | exact fun _ => rfl | exact fun h => h | exact fun h => (Bool.and_eq_true_iff.1 h).1) (fun _ => by decide)) | (apply isy_bin_rem; exact yl_brem uk32 _ 256#32 rfl rfl rfl rfl (by first | exact fun _ => rfl | exact fun h => h | exact fun h => (Bool.and_eq_true_iff.1 h).1) (by first | exact fun _ => rfl | exact fun h => h | exact fun h => (Bool.and_eq_true_iff.1 h).1) (fun _ => by decide)) | (apply isy_convert; exact yl_cv (E := EV) uk8 _ rfl rfl rfl rfl (by first | exact fun _ => rfl | exact fun h => h | exact fun h => (Bool.and_eq_true_iff.1 h).1)) | fail) | (refine isx_call ?_; refine k_gcall (rSum1_fn _ A n c l) ((fun w hm => rows_one hm rfl (row_ro 1 rfl hm) hc)) rfl rfl rfl rfl rfl rfl ?_) | refine wz ?_ | (refine wzb ?_; intro b_) | fail)
  refine bq_ret (ret_tmp rfl rfl) [_] (Gives.pick [0] (by decide) rfl) rfl ⟨b_, rfl, ?_⟩
  obtain ⟨h1, h2, h3, h4⟩ := byte_quo (upd 0#32 l)
  rw [h1, h2, h3, h4]
  rfl

end Go.Proofs.YtmochicneilhhaaGreat.chk
