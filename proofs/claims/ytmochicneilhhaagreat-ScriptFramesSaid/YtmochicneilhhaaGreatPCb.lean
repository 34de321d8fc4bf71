/- checks: the table and what is taken by it. checks: what the program's functions answer. -/
import Derived.Test.YtmochicneilhhaaGreatPBv
import Derived.Test.YtmochicneilhhaaGreatPCrc
import Derived.Test.YtmochicneilhhaaGreatPEt
import Derived.Test.YtmochicneilhhaaGreatPGo
import Derived.Test.YtmochicneilhhaaGreatPKi
import Derived.Test.YtmochicneilhhaaGreatPOn
import Derived.Test.YtmochicneilhhaaGreatPPk
namespace Go.Proofs.YtmochicneilhhaaGreat.chk
open Go.RowKit Go.Proofs.YtmochicneilhhaaGreat.crc
def rowI (i : Nat) : Value := .int .u32 (crc.row (BitVec.ofNat 8 i)).toNat
def rowsI (i : Nat) : List Value := (List.range 256).map fun j => if j < i then rowI j else .int .u32 0
def tabC (d m : Int) (i : Nat) : List Value := .int .u32 d :: .int .i32 m :: .int .u32 0 :: rowsI i
theorem rowsI_len (i : Nat) : (rowsI i).length = 256 := by simp [rowsI]
theorem rowsI_zero : rowsI 0 = List.replicate 256 (.int .u32 0) := by
  simp only [rowsI, Nat.not_lt_zero, if_false, List.map_const', List.length_range]
theorem rowsI_set (i : Nat) : (rowsI i).set i (rowI i) = rowsI (i + 1) := by
  apply List.ext_getElem
  · simp [rowsI]
  · intro j h1 h2
    simp only [rowsI, List.getElem_set, List.getElem_map, List.getElem_range]
    by_cases hj : i = j
    · subst hj; simp
    · by_cases hl : j < i
      · simp [hj, hl, show j < i + 1 by omega]
      · simp [hj, hl, show ¬ j < i + 1 by omega]
theorem setL_one : ∀ (cs : List Value) (i : Nat) (v : Value), i < cs.length → setL cs i [v] = cs.set i v
  | [], _, _, h => absurd h (Nat.not_lt_zero _)
  | c :: cs, 0, v, _ => by cases cs <;> simp [setL]
  | c :: cs, i + 1, v, h => by rw [setL, setL_one cs i v (by simpa using h), List.set_cons_succ]
theorem tabC_set (d m : Int) {i : Nat} (hi : i < 256) : setL (tabC d m i) (3 + i) [rowI i] = tabC d m (i + 1) := by
  rw [setL_one _ _ _ (by simp [tabC, rowsI_len]; omega), show 3 + i = i + 1 + 1 + 1 by omega]
  simp [tabC, rowsI_set]
theorem tabC_get (d m : Int) (x : B) : (tabC d m 256)[3 + x.toNat]? = some (.int .u32 (crc.row x).toNat) := by
  rw [show 3 + x.toNat = x.toNat + 1 + 1 + 1 by omega]
  have : x.toNat < 256 := x.isLt
  simp [tabC, rowsI, rowI, this]
theorem many_succ (k : Nat) (c : R) : many (k + 1) c = one (many k c) := by rw [many_add]; rfl
theorem one_odd {x : R} (h : (x &&& 1#32 == 1#32) = true) : one x = (x >>> 1) ^^^ 0xEDB88320#32 := by
  have : x.getLsbD 0 = true := by
    have h := congrArg (fun y : R => y.getLsbD 0) (beq_iff_eq.1 h)
    simpa using h
  rw [one, this]
  rfl
theorem one_even {x : R} (h : (x &&& 1#32 == 1#32) = false) : one x = x >>> 1 := by
  have : x.getLsbD 0 = false := by
    cases hb : x.getLsbD 0
    · rfl
    · exfalso
      have h2 : x &&& 1#32 = 1#32 := by
        apply BitVec.eq_of_getLsbD_eq
        intro i hi
        cases i with
        | zero => simpa using hb
        | succ i => simp
      rw [h2] at h
      exact absurd h (by decide)
  rw [one, this]
  simp
theorem row_of {i : Nat} (hi : i < 256) : many 8 (BitVec.ofInt 32 (i : Int)) = crc.row (BitVec.ofNat 8 i) := by
  rw [crc.row, ofInt_nat]
  congr 1
  apply BitVec.eq_of_toNat_eq
  simp only [BitVec.toNat_ofNat, BitVec.toNat_setWidth]
  omega
attribute [local irreducible] LX CX Yl Gives RetIs Fn
attribute [local irreducible] crc.many crc.row crc.one
set_option maxHeartbeats 2000000 in
theorem fill_fn (b bt : Nat) : Fn Tryz.prog 147 [.pointer (some ⟨bt, 0, none⟩)] [.blk b (tabC 0 1 0) 181, .ro (some ⟨bt, 0, none⟩) 1 1 [.pointer (some ⟨b, 0, none⟩)]] [b]
    fun v Lo => v = .tuple #[] ∧ Lo = [.blk b (tabC 0 1 256) 181] := by
  refine fn_enter Tryz.func147 rfl rfl (by kernel_rfl) rfl ?_
  intro w0
  repeat (first | refine wz ?_ | (refine wzb ?_; intro b_) | fail)
  refine cx_loop (α := { i : Nat // i ≤ 256 }) (fun x => [(0, none, .pointer (some ⟨bt, 0, none⟩)), (4, none, .int .i64 x.1)]) (fun x => [.blk b (tabC 0 1 x.1) 181, .ro (some ⟨bt, 0, none⟩) 1 1 [.pointer (some ⟨b, 0, none⟩)]]) (fun x => 256 - x.1)
    ⟨0, Nat.zero_le _⟩ ⟨rfl, rfl, trivial⟩ (Gives.refl _) ?_
  rintro ⟨i, hi⟩
  dsimp only
  repeat (first | refine wz ?_ | (refine wzb ?_; intro b_) | fail)
  refine cx_cond rfl (fun h => ?_) (fun h => ?_)
  · have hi2 : i < 256 := by simp at h; omega
    repeat (first | ((first | (apply lx_u; exact rfl) | (apply lx_g; exact rfl; exact rfl)); first | (apply isy_convert; exact yl_ci (E := EV) uk32 rfl rfl rfl (by first | exact fun _ => rfl | exact fun h => h | exact fun h => (Bool.and_eq_true_iff.1 h).1)) | fail) | refine wz ?_ | (refine wzb ?_; intro b_) | fail)
    have hrow := row_of hi2
    generalize hc0 : BitVec.ofInt 32 (i : Int) = c0 at hrow ⊢
    refine cx_loop (α := { k : Nat // k ≤ 8 }) (fun x => [(0, none, .pointer (some ⟨bt, 0, none⟩)), (1, none, .int .i64 i), (2, none, .int .u32 (crc.many x.1 c0).toNat), (4, none, .int .i64 i), (9, none, .int .i64 x.1)]) (fun _ => [.blk b (tabC 0 1 i) 181, .ro (some ⟨bt, 0, none⟩) 1 1 [.pointer (some ⟨b, 0, none⟩)]]) (fun x => 8 - x.1)
      ⟨0, Nat.zero_le _⟩ ⟨rfl, rfl, by unfold crc.many; rfl, rfl, rfl, trivial⟩ (Gives.refl _) ?_
    rintro ⟨k, hk⟩
    dsimp only
    repeat (first | refine wz ?_ | (refine wzb ?_; intro b_) | fail)
    refine cx_cond rfl (fun h => ?_) (fun h => ?_)
    · have hk2 : k < 8 := by simp at h; omega
      repeat (first | ((first | (apply lx_u; exact rfl) | (apply lx_g; exact rfl; exact rfl)); first | (apply isy_bin_and; exact yl_band uk32 _ 1#32 rfl rfl rfl rfl (by first | exact fun _ => rfl | exact fun h => h | exact fun h => (Bool.and_eq_true_iff.1 h).1) (by first | exact fun _ => rfl | exact fun h => h | exact fun h => (Bool.and_eq_true_iff.1 h).1)) | (apply isy_bin_shr; exact yl_bshr uk32 _ 1 rfl rfl rfl rfl (by first | exact fun _ => rfl | exact fun h => h | exact fun h => (Bool.and_eq_true_iff.1 h).1) (by first | exact fun _ => rfl | exact fun h => h | exact fun h => (Bool.and_eq_true_iff.1 h).1)) | (apply isy_bin_eql; exact yl_beq _ 1#32 rfl rfl rfl rfl (by first | exact fun _ => rfl | exact fun h => h | exact fun h => (Bool.and_eq_true_iff.1 h).1) (by first | exact fun _ => rfl | exact fun h => h | exact fun h => (Bool.and_eq_true_iff.1 h).1)) | fail) | refine wz ?_ | (refine wzb ?_; intro b_) | fail)
      refine cx_cond rfl (fun h1 => ?_) (fun h1 => ?_)
      · repeat (first | ((first | (apply lx_u; exact rfl) | (apply lx_g; exact rfl; exact rfl)); first | (apply isy_bin_xor; exact yl_xor uk32 _ 0xEDB88320#32 rfl rfl rfl rfl (by first | exact fun _ => rfl | exact fun h => h | exact fun h => (Bool.and_eq_true_iff.1 h).1) (by first | exact fun _ => rfl | exact fun h => h | exact fun h => (Bool.and_eq_true_iff.1 h).1)) | fail) | refine wz ?_ | (refine wzb ?_; intro b_) | fail)
        exact ⟨⟨k + 1, by omega⟩, ⟨rfl, rfl, slot_int (by dsimp only; rw [many_succ, one_odd h1]), rfl, slot_int (by dsimp only; omega), trivial⟩, Gives.refl _, by dsimp only; omega⟩
      · repeat (first | refine wz ?_ | (refine wzb ?_; intro b_) | fail)
        exact ⟨⟨k + 1, by omega⟩, ⟨rfl, rfl, slot_int (by dsimp only; rw [many_succ, one_even h1]), rfl, slot_int (by dsimp only; omega), trivial⟩, Gives.refl _, by dsimp only; omega⟩
    · obtain rfl : k = 8 := by simp at h; omega
      repeat (first | ((first | (apply lx_u; exact rfl) | (apply lx_g; exact rfl; exact rfl)); first | (apply isy_indexAddr; exact yl_indexP (E := EV) rfl rfl rfl rfl (by first | exact fun _ => rfl | exact fun h => h | exact fun h => (Bool.and_eq_true_iff.1 h).1) (by first | exact fun _ => rfl | exact fun h => h | exact fun h => (Bool.and_eq_true_iff.1 h).1) (fun _ => by omega)) | fail) | (refine isx_store ?_; refine lx_storeV (E := EV) 0 rfl rfl rfl rfl rfl rfl rfl rfl (by show 3 + i + 1 ≤ (tabC 0 1 i).length; simp [tabC, rowsI_len]; omega) rfl (fun _ => trivial) ?_) | refine wz ?_ | (refine wzb ?_; intro b_) | fail)
      refine ⟨⟨i + 1, by omega⟩, ⟨rfl, slot_int (by dsimp only; omega), trivial⟩, ?_, by dsimp only; omega⟩
      dsimp only
      rw [← tabC_set 0 1 hi2, rowI, ← hrow]
      exact Gives.refl _
  · obtain rfl : i = 256 := by simp at h; omega
    repeat (first | refine wz ?_ | (refine wzb ?_; intro b_) | fail)
    exact bq_end (ret_none rfl) [_] (Gives.pick [0] (by decide) rfl) rfl ⟨rfl, rfl⟩
end Go.Proofs.YtmochicneilhhaaGreat.chk
namespace Go.Proofs.YtmochicneilhhaaGreat.chk
open Go.RowKit Go.Proofs.YtmochicneilhhaaGreat.crc
def ones : R := 4294967295#32
def upd (s : R) (l : List B) : R := takes (s ^^^ ones) l ^^^ ones
theorem ones_ones (x : R) : (x ^^^ ones) ^^^ ones = x := by rw [BitVec.xor_assoc, BitVec.xor_self, BitVec.xor_zero]
theorem upd_nil (s : R) : upd s [] = s := ones_ones s
theorem upd_append (s : R) (a b : List B) : upd (upd s a) b = upd s (a ++ b) := by rw [upd, upd, ones_ones, ← takes_append]; rfl
def sumR (s : R) (rs : List Rw) : R := rs.foldl (fun s r => upd s r.l) s
theorem sumR_one (A : Option Addr) (n c : Nat) (l : List B) : sumR 0#32 [⟨A, n, c, l⟩] = upd 0#32 l := rfl
theorem sumR_take {rs : List Rw} {i : Nat} {r : Rw} (s : R) (h : rs[i]? = some r) : sumR s (rs.take (i + 1)) = upd (sumR s (rs.take i)) r.l := by
  rw [List.take_add_one, h, sumR, List.foldl_append]
  rfl
theorem takes_take {l : List B} {i : Nat} {x : B} (c : R) (h : l[i]? = some x) : takes c (l.take (i + 1)) = take (takes c (l.take i)) x := by
  rw [List.take_add_one, h, takes, List.foldl_append]
  rfl
/-- the table, made or not yet -/
def tabS (e : Bool) : List Value := bif e then tabC 1 0 256 else tabC 0 0 0
theorem tabS_len (e : Bool) : (tabS e).length = 259 * 1 := by cases e <;> simp [tabS, tabC, rowsI_len]
theorem tab_zero : [Value.int .u32 0] ++ [Value.int .i32 0] ++ List.replicate 257 (Value.int .u32 0) = tabS false := by
  show _ = tabC 0 0 0
  rw [tabC, rowsI_zero, List.replicate_succ]
  rfl
theorem Gives.blkeq {L : List Ck} (k : Nat) {b : Nat} {cs cs' : List Value} {T : TypeId} (hk : L[k]? = some (.blk b cs T)) (he : cs = cs') : Gives L (L.set k (.blk b cs' T)) := fun M w h => by
  subst he
  have : L.set k (.blk b cs T) = L := by
    apply List.ext_getElem?
    intro j
    rw [List.getElem?_set]
    split
    · rename_i hj
      subst hj
      rw [hk]
      have := (List.getElem?_eq_some_iff.1 hk).1
      simp [this]
    · rfl
  rw [this]
  exact h
theorem rows_one {M : Me} {L : List Ck} {w : World} {b : Nat} {T : TypeId} {A : Option Addr} {n c : Nat} {l : List B8} (hm : Mem M L w) (hk : L[0]? = some (.blk b [.slice A n c] T)) (hr : Row w w.heap.size 1 A n (bvs l)) (hc : n ≤ c ∧ c ≤ 9223372036854775807) : Mem ⟨w, []⟩ [.rows (some ⟨b, 0, none⟩) 1 [⟨A, n, c, l⟩]] w := by
  refine rows_in ⟨row_blk 0 hk rfl hm, fun r hr' => ?_⟩ (in_nil hm) rfl
  obtain rfl : r = ⟨A, n, c, l⟩ := by simpa using hr'
  exact ⟨hr, hc⟩
attribute [local irreducible] LX CX Yl Gives RetIs Fn
attribute [local irreducible] crc.many crc.row crc.one tabS takes take
set_option maxHeartbeats 1000000 in
theorem full_fn (b : Nat) (e : Bool) : Fn Tryz.prog 128 [.pointer (some ⟨b, 0, none⟩)] [.blk b (tabS e) 181] [b] fun v Lo => v = .pointer (some ⟨b, 0, none⟩) ∧ Lo = [.blk b (tabS true) 181] := by
  refine fn_enter Tryz.func128 rfl rfl (by kernel_rfl) rfl ?_
  intro w0
  repeat (first | refine wz ?_ | (refine wzb ?_; intro b_) | fail)
  refine cx_cond rfl (fun h => by cases h) (fun _ => ?_)
  repeat (first | ((first | (apply lx_u; exact rfl) | (apply lx_g; exact rfl; exact rfl)); first | (apply isy_makeFunc; exact yl_makeFunc rfl rfl (by (repeat (first | exact trivial | refine And.intro ?_ ?_ | exact fun _ => rfl | exact fun h => h | exact fun h => (Bool.and_eq_true_iff.1 h).1)); done) (by (repeat (first | exact trivial | refine And.intro ?_ ?_ | exact fun _ => rfl | exact fun h => h | exact fun h => (Bool.and_eq_true_iff.1 h).1)); done)) | fail) | refine wz ?_ | (refine wzb ?_; intro b_) | fail)
  cases e
  · have hf := fill_fn b b_
    refine lx_call (once.do_fn b _ [.pointer (some ⟨b_, 0, none⟩)] (.int .u32 0 :: rowsI 0) (.int .u32 0 :: rowsI 256) 181 [.ro (some ⟨b_, 0, none⟩) 1 1 [.pointer (some ⟨b, 0, none⟩)]] hf (by simp [Ck.mut_])) [.blk b (tabS false) 181] [.blk b_ [.pointer (some ⟨b, 0, none⟩)] _] (Gives.pick [1, 0] (by decide) rfl)
      (fun w hm => ?_) (fun g hg => ⟨_, List.mem_cons_self .., rfl, (List.mem_singleton.1 hg).symm⟩) (fun _ _ => trivial) rfl rfl rfl rfl rfl rfl rfl rfl ?_
    · have h2 := (Gives.blkro 0 (m := 1) (sz := 1) rfl rfl).app hm
      refine h2.enter [1, 0] (by decide) ?_ ?_
      · unfold tabS; rfl
      · intro c hc hcm g hg
        rcases List.mem_cons.1 hc with rfl | hc
        · cases hg; exact List.mem_cons_self ..
        · rcases List.mem_cons.1 hc with rfl | hc
          · cases hcm
          · cases hc
    rintro v_ Lo_ ⟨rfl, rfl⟩
    repeat (first | refine wz ?_ | (refine wzb ?_; intro b_) | fail)
    refine bq_ret (ret_tmp rfl rfl) [_] (Gives.pick [0] (by decide) rfl) rfl ⟨rfl, ?_⟩
    unfold tabS; rfl
  · refine lx_call0 (once.done_fn b _ (tabS true) 259 (by unfold tabS; rfl)) (fun w hm => in_ro (row_blk 1 rfl (tabS_len true) hm) (in_nil hm) rfl) rfl rfl rfl rfl rfl rfl rfl rfl ?_
    rintro v_ Lo_ ⟨rfl, rfl⟩
    repeat (first | refine wz ?_ | (refine wzb ?_; intro b_) | fail)
    exact bq_ret (ret_tmp rfl rfl) [_] (Gives.pick [1] (by decide) rfl) rfl ⟨rfl, rfl⟩
/-- of a table that is not there a new one is made -/
theorem full_nil : Fn Tryz.prog 128 [.pointer none] [] [] fun v Lo => ∃ b, v = .pointer (some ⟨b, 0, none⟩) ∧ Lo = [.blk b (tabS true) 181] := by
  refine fn_enter Tryz.func128 rfl rfl (by kernel_rfl) rfl ?_
  intro w0
  repeat (first | refine wz ?_ | (refine wzb ?_; intro b_) | fail)
  refine cx_cond rfl (fun _ => ?_) (fun h => by cases h)
  repeat (first | ((first | (apply lx_u; exact rfl) | (apply lx_g; exact rfl; exact rfl)); first | (apply isy_makeFunc; exact yl_makeFunc rfl rfl (by (repeat (first | exact trivial | refine And.intro ?_ ?_ | exact fun _ => rfl | exact fun h => h | exact fun h => (Bool.and_eq_true_iff.1 h).1)); done) (by (repeat (first | exact trivial | refine And.intro ?_ ?_ | exact fun _ => rfl | exact fun h => h | exact fun h => (Bool.and_eq_true_iff.1 h).1)); done)) | fail) | refine wz ?_ | (refine wzb ?_; intro b_) | fail)
  rename_i b0 _
  have hf := fill_fn b_ b0
  refine lx_call (once.do_fn b_ _ [.pointer (some ⟨b0, 0, none⟩)] (.int .u32 0 :: rowsI 0) (.int .u32 0 :: rowsI 256) 181 [.ro (some ⟨b0, 0, none⟩) 1 1 [.pointer (some ⟨b_, 0, none⟩)]] hf (by simp [Ck.mut_])) [.blk b_ (tabS false) 181] [.blk b0 [.pointer (some ⟨b_, 0, none⟩)] _] (Gives.trans (Gives.blkeq 0 rfl tab_zero) (Gives.pick [0, 1] (by decide) rfl))
    (fun w hm => ?_) (fun g hg => ⟨_, List.mem_cons_self .., rfl, (List.mem_singleton.1 hg).symm⟩) (fun _ _ => trivial) rfl rfl rfl rfl rfl rfl rfl rfl ?_
  · have h1 := (Gives.blkeq 0 rfl tab_zero).app hm
    have h2 := (Gives.blkro 1 (m := 1) (sz := 1) rfl rfl).app h1
    refine h2.enter [0, 1] (by decide) ?_ ?_
    · unfold tabS; rfl
    · intro c hc hcm g hg
      rcases List.mem_cons.1 hc with rfl | hc
      · cases hg; exact List.mem_cons_self ..
      · rcases List.mem_cons.1 hc with rfl | hc
        · cases hcm
        · cases hc
  rintro v_ Lo_ ⟨rfl, rfl⟩
  repeat (first | refine wz ?_ | (refine wzb ?_; intro b_) | fail)
  refine bq_ret (ret_tmp rfl rfl) [_] (Gives.pick [0] (by decide) rfl) rfl ⟨b_, rfl, ?_⟩
  unfold tabS; rfl
end Go.Proofs.YtmochicneilhhaaGreat.chk
