/- frames, plainly; frames: put, and joined; frames: taken, plainly; frames: taken; frames: taken, by the reference. -/
import Derived.Test.YtmochicneilhhaaGreatPCd
import Derived.Test.YtmochicneilhhaaGreatPEb
import Derived.Test.YtmochicneilhhaaGreatPGo
namespace Go.Proofs.YtmochicneilhhaaGreat.fr
open Go.RowKit Go.Proofs.YtmochicneilhhaaGreat.kit Go.Proofs.YtmochicneilhhaaGreat.pk Go.Proofs.YtmochicneilhhaaGreat.chk Go.Proofs.YtmochicneilhhaaGreat.crc
abbrev be4 (n : Nat) : List B8 := be 4 (BitVec.ofNat 64 n)
def sumL (l : List B8) : List B8 := be 4 ((upd 0#32 l).setWidth 64)
theorem be_4 (x : BitVec 64) : be 4 x = [(x >>> 24).setWidth 8, (x >>> 16).setWidth 8, (x >>> 8).setWidth 8, x.setWidth 8] := by
  unfold be; unfold be; unfold be; unfold be; unfold be
  simp
theorem shr_set (c : BitVec 32) (k : Nat) : ((c.setWidth 64) >>> k).setWidth 8 = (c >>> k).setWidth 8 := by
  apply BitVec.eq_of_toNat_eq
  have : c.toNat % 2 ^ 64 = c.toNat := Nat.mod_eq_of_lt (Nat.lt_of_lt_of_le c.isLt (by decide))
  simp only [BitVec.toNat_setWidth, BitVec.toNat_ushiftRight, this]
theorem ofL_be (c : BitVec 32) : ofL c = be 4 (c.setWidth 64) := by
  have h0 : (c.setWidth 64).setWidth 8 = c.setWidth 8 := by simp
  rw [be_4, ofL, shr_set, shr_set, shr_set, h0]
theorem len32 (n : Nat) (h : n < 4294967296) : be 4 ((BitVec.ofInt 32 (n : Int)).setWidth 64) = be4 n := by
  congr 1
  apply BitVec.eq_of_toNat_eq
  have e : (BitVec.ofInt 32 (n : Int)).toNat = n := by
    rw [show BitVec.ofInt 32 (n : Int) = BitVec.ofNat 32 n from BitVec.ofInt_natCast 32 n, BitVec.toNat_ofNat, Nat.mod_eq_of_lt (by omega)]
  rw [BitVec.toNat_setWidth, e, BitVec.toNat_ofNat]
/-- a body's frame -/
def frm (l : List B8) : List B8 := be4 l.length ++ (l ++ sumL l)
theorem sumL_len (l : List B8) : (sumL l).length = 4 := be_len _ _
theorem frm_len (l : List B8) : (frm l).length = l.length + 8 := by rw [frm, List.length_append, List.length_append, sumL_len, be_len]; omega
def putR (l : List B8) : List B8 × Int := if l.length ≤ 8192 then (frm l, 0) else ([], 71)
theorem putR_ok {l : List B8} (h : l.length ≤ 8192) : putR l = (frm l, 0) := if_pos h
theorem putR_long {l : List B8} (h : ¬ l.length ≤ 8192) : putR l = ([], 71) := if_neg h
def okTo (rs : List Rw) : Prop := ∀ r ∈ rs, r.l.length ≤ 8192
instance (rs : List Rw) : Decidable (okTo rs) := by unfold okTo; infer_instance
/-- numbers of whole division -/
theorem quoN (p d : Nat) (_ : 0 < d) (h : p < 4611686018427387904) : IntKind.i64.wrap ((p : Int).tdiv d) = ((p / d : Nat) : Int) := by
  have h1 : p / d ≤ p := Nat.div_le_self ..
  have h2 : (p : Int).tdiv d = ((p / d : Nat) : Int) := by
    rw [Int.tdiv_eq_ediv_of_nonneg (by omega)]
    rfl
  rw [h2, IntKind.wrap_i64]
  generalize p / d = q at h1
  omega
theorem remN (p d : Nat) : (p : Int).tmod d = ((p % d : Nat) : Int) := by
  rw [Int.tmod_eq_emod_of_nonneg (by omega)]
  rfl
theorem four_eq (n : Nat) (hn : n ≤ 8192) : [Value.int .u8 (BitVec.ofInt 8 ((n / 16777216 : Nat) : Int)).toNat, .int .u8 (BitVec.ofInt 8 ((n / 65536 % 256 : Nat) : Int)).toNat, .int .u8 (BitVec.ofInt 8 ((n / 256 % 256 : Nat) : Int)).toNat, .int .u8 (BitVec.ofInt 8 ((n % 256 : Nat) : Int)).toNat] = bvs (be4 n) := by
  have e : ∀ m : Nat, BitVec.ofInt 8 (m : Int) = BitVec.ofNat 8 m := fun m => BitVec.ofInt_natCast 8 m
  have k : ∀ (j : Nat), ((BitVec.ofNat 64 n) >>> j).setWidth 8 = BitVec.ofNat 8 (n / 2 ^ j) := fun j => by
    apply BitVec.eq_of_toNat_eq
    rw [BitVec.toNat_setWidth, BitVec.toNat_ushiftRight, BitVec.toNat_ofNat, BitVec.toNat_ofNat, Nat.mod_eq_of_lt (a := n) (b := 2 ^ 64) (by omega), Nat.shiftRight_eq_div_pow]
  have k0 : (BitVec.ofNat 64 n).setWidth 8 = BitVec.ofNat 8 n := by
    apply BitVec.eq_of_toNat_eq
    rw [BitVec.toNat_setWidth, BitVec.toNat_ofNat, BitVec.toNat_ofNat, Nat.mod_eq_of_lt (a := n) (b := 2 ^ 64) (by omega)]
  have m256 : ∀ m : Nat, BitVec.ofNat 8 (m % 256) = BitVec.ofNat 8 m := fun m => by
    apply BitVec.eq_of_toNat_eq
    rw [BitVec.toNat_ofNat, BitVec.toNat_ofNat]
    show m % 256 % 256 = m % 256
    omega
  rw [be4, be_4, k, k, k, k0, e, e, e, e, m256, m256, m256]
  rfl
end Go.Proofs.YtmochicneilhhaaGreat.fr
namespace Go.Proofs.YtmochicneilhhaaGreat.fr
open Go.RowKit Go.Proofs.YtmochicneilhhaaGreat.kit Go.Proofs.YtmochicneilhhaaGreat.pk Go.Proofs.YtmochicneilhhaaGreat.chk Go.Proofs.YtmochicneilhhaaGreat.crc
attribute [local irreducible] LX CX Yl Gives RetIs Fn
attribute [local irreducible] be de upd

theorem joinB_fn (b : Nat) (n : Nat) (rs : List Rw) (l : List B8) (hl : rs.length = n) (hn : n ≤ 9223372036854775807) (hcat : cat rs = l) (hm : l.length ≤ 70368744177664) : Fn Tryz.prog 76 [.slice (some ⟨b, 0, none⟩) n n] [.rows (some ⟨b, 0, none⟩) n rs] [] fun v Lo => ∃ A' c', v = .slice A' l.length c' ∧ Lo = [.own A' l.length c' 5 1 (bvs l)] := by
  subst hcat
  exact join_fn _ n n rs hl hn hm


set_option maxHeartbeats 2000000 in
theorem put_fn (A : Option Addr) (n c : Nat) (l : List B8) (hl : l.length = n) (hc : n ≤ c ∧ c ≤ 9223372036854775807) : Fn Tryz.prog 40 [.slice A n c] [.ro A n 1 (bvs l)] [] fun v Lo => ∃ A' c', v = .tuple #[.slice A' (putR l).1.length c', .int .i64 (putR l).2] ∧ Lo = [.own A' (putR l).1.length c' 5 1 (bvs (putR l).1)] := by
  subst hl
  refine fn_enter Tryz.func40 rfl rfl (by kernel_rfl) rfl ?_
  intro w0
  by_cases h : l.length ≤ 8192
  · have hd : decide ((l.length : Int) > 8192) = false := by simp; omega
    have e4 : (be4 l.length).length = 4 := be_len _ _
    have e5 := sumL_len l
    have h1 := put32_fn (BitVec.ofInt 32 (l.length : Int))
    have h2 := put32_fn (upd 0#32 l)
    rw [len32 l.length (by omega)] at h1
    rw [show be 4 ((upd 0#32 l).setWidth 64) = sumL l from rfl] at h2
    rw [putR_ok h]
    repeat (first | ((first | (apply lx_gt; exact rfl; exact rfl; exact rfl) | (apply lx_u; exact rfl) | (apply lx_g; exact rfl; exact rfl)); first | (apply isy_bin; exact yl_false (yl_op (E := EV) rfl) (fun _ => hd)) | fail) | refine wzf ?_ | (refine wzb ?_; intro b_) | fail)
    refine cx_cond rfl (fun h => absurd h (by decide)) (fun _ => ?_)
    repeat (first | ((first | (apply lx_u; exact rfl) | (apply lx_g; exact rfl; exact rfl)); first | (apply isy_convert; exact q_ci uk32 rfl rfl rfl) | fail) | (refine isx_call ?_; (refine isx_call ?_; refine lx_call0 (h1) (fun _ hm => in_nil hm) rfl rfl rfl rfl rfl rfl rfl rfl ?_; rintro v_ Lo_ ⟨A1, c1, rfl, rfl⟩)) | (refine isx_call ?_; refine k_gcall (sum1_fn _ A l.length c l) ((fun w hm => rows_one hm rfl (row_ro 2 rfl hm) hc)) rfl rfl rfl rfl rfl rfl ?_) | (refine isx_call ?_; (refine isx_call ?_; refine lx_call0 (h2) (fun _ hm => in_nil hm) rfl rfl rfl rfl rfl rfl rfl rfl ?_; rintro v_ Lo_ ⟨A2, c2, rfl, rfl⟩)) | refine wz ?_ | (refine wzb ?_; intro b_) | fail)
    refine lx_fact (fun w hm => (⟨own_cap 1 hm rfl, own_cap 3 hm rfl⟩ : (4 ≤ c2 ∧ _) ∧ (4 ≤ c1 ∧ _))) fun ⟨k2, k1⟩ => ?_
    repeat (first | (refine isx_call ?_; (refine isx_call ?_; refine lx_call0 (joinB_fn _ 3 [⟨A1, 4, c1, be4 l.length⟩, ⟨A, l.length, c, l⟩, ⟨A2, 4, c2, sumL l⟩] (frm l) rfl (by omega) (by simp only [cat, List.flatMap_cons, List.flatMap_nil, List.append_nil]; rfl) (by rw [frm_len]; omega)) ((fun w hm => rows_blk 0 _ hm rfl rfl (List.forall_mem_cons.2 ⟨⟨row_own 3 rfl hm, k1⟩, List.forall_mem_cons.2 ⟨⟨row_ro 4 rfl hm, hc⟩, List.forall_mem_cons.2 ⟨⟨row_own 1 rfl hm, k2⟩, List.forall_mem_nil _⟩⟩⟩))) rfl rfl rfl rfl rfl rfl rfl rfl ?_; rintro v_ Lo_ ⟨A', c', rfl, rfl⟩)) | refine wz ?_ | (refine wzb ?_; intro b_) | fail)
    exact bq_ret (ret_tmp2 rfl rfl rfl) [_] (Gives.pick [0] (by decide) rfl) rfl ⟨_, _, rfl, rfl⟩
  have hd : decide ((l.length : Int) > 8192) = true := by simp; omega
  rw [putR_long h]
  repeat (first | ((first | (apply lx_gt; exact rfl; exact rfl; exact rfl) | (apply lx_u; exact rfl) | (apply lx_g; exact rfl; exact rfl)); first | (apply isy_bin; exact yl_true (yl_op (E := EV) rfl) (fun _ => hd)) | fail) | refine wzf ?_ | (refine wzb ?_; intro b_) | fail)
  refine cx_cond rfl (fun _ => ?_) (fun h => absurd h (by decide))
  repeat (first | refine wz ?_ | (refine wzb ?_; intro b_) | fail)
  exact bq_ret (ret_tmp2 rfl rfl rfl) [_] ((Gives.nil _).trans (Gives.nilown [] 5 1)) rfl ⟨none, 0, rfl, rfl⟩


theorem rfour_fn (n : Nat) (hn : n ≤ 8192) : Fn Tryz.prog 83 [.int .i64 n] [] [] fun v Lo => ∃ b, v = .slice (some ⟨b, 0, none⟩) 4 4 ∧ Lo = [.blk b (bvs (be4 n)) 5] := by
  have q1 := quoN n 16777216 (by decide) (by omega)
  have q2 := quoN n 65536 (by decide) (by omega)
  have q3 := quoN n 256 (by decide) (by omega)
  have r2 := remN (n / 65536) 256
  have r3 := remN (n / 256) 256
  have r4 := remN n 256
  refine fn_enter Tryz.func83 rfl rfl (by kernel_rfl) rfl ?_
  intro w0
  repeat (first | ((first | (apply lx_u; exact rfl) | (apply lx_g; exact rfl; exact rfl)); first | (apply isy_bin_quo; exact yl_eq (q_quo rfl rfl) (fun _ => congrArg (Value.int .i64) q1)) | (apply isy_bin_quo; exact yl_eq (q_quo rfl rfl) (fun _ => congrArg (Value.int .i64) q2)) | (apply isy_bin_quo; exact yl_eq (q_quo rfl rfl) (fun _ => congrArg (Value.int .i64) q3)) | (apply isy_bin_rem; exact yl_eq (q_rem rfl rfl) (fun _ => congrArg (Value.int .i64) r2)) | (apply isy_bin_rem; exact yl_eq (q_rem rfl rfl) (fun _ => congrArg (Value.int .i64) r3)) | (apply isy_bin_rem; exact yl_eq (q_rem rfl rfl) (fun _ => congrArg (Value.int .i64) r4)) | (apply isy_convert; exact q_ci uk8 rfl rfl rfl) | fail) | refine wz ?_ | (refine wzb ?_; intro b_) | fail)
  exact bq_ret (ret_tmp rfl rfl) [_] (Gives.blkeq 0 rfl (four_eq n hn)) rfl ⟨_, rfl, rfl⟩


set_option maxHeartbeats 2000000 in
theorem rput_fn (A : Option Addr) (n c : Nat) (l : List B8) (hl : l.length = n) (hc : n ≤ c ∧ c ≤ 9223372036854775807) : Fn Tryz.prog 42 [.slice A n c] [.ro A n 1 (bvs l)] [] fun v Lo => ∃ A' c', v = .tuple #[.slice A' (putR l).1.length c', .int .i64 (putR l).2] ∧ Lo = [.own A' (putR l).1.length c' 5 1 (bvs (putR l).1)] := by
  subst hl
  refine fn_enter Tryz.func42 rfl rfl (by kernel_rfl) rfl ?_
  intro w0
  by_cases h : l.length ≤ 8192
  · have hd : decide ((l.length : Int) > 8192) = false := by simp; omega
    have e4 : (be4 l.length).length = 4 := be_len _ _
    have e5 := sumL_len l
    have hof := rOf_fn A l.length c l hc
    rw [show ofL (upd 0#32 l) = sumL l from ofL_be _] at hof
    have ef : frm l = be4 l.length ++ l ++ sumL l := by rw [frm, List.append_assoc]
    rw [putR_ok h]
    repeat (first | ((first | (apply lx_gt; exact rfl; exact rfl; exact rfl) | (apply lx_u; exact rfl) | (apply lx_g; exact rfl; exact rfl)); first | (apply isy_bin; exact yl_false (yl_op (E := EV) rfl) (fun _ => hd)) | fail) | refine wzf ?_ | (refine wzb ?_; intro b_) | fail)
    refine cx_cond rfl (fun h => absurd h (by decide)) (fun _ => ?_)
    repeat (first | (refine isx_call ?_; (refine isx_call ?_; refine lx_call0 (rfour_fn l.length h) (fun _ hm => in_nil hm) rfl rfl rfl rfl rfl rfl rfl rfl ?_; rintro v_ Lo_ ⟨b4, rfl, rfl⟩)) | refine wz ?_ | (refine wzb ?_; intro b_) | fail)
    refine lx_weak (Gives.blkown 0 (m := 4) (sz := 1) rfl (by rw [bvs_len, e4]) (by decide)) ?_
    refine lx_append (E := EV) 0 rfl rfl rfl rfl rfl rfl rfl rfl rfl rfl rfl rfl rfl (news := bvs l) (fun w hm => row_ro 1 rfl hm) bvs_one (by unfold maxLen; omega) (by show (_ + _) * 1 ≤ _; omega) (fun _ _ _ => trivial) ?_
    intro A1 c1
    rw [← bvs_append]
    repeat (first | (refine isx_call ?_; (refine isx_call ?_; refine lx_call0 (hof) ((fun w hm => in_ro (row_ro 1 rfl hm) (in_nil hm) rfl)) rfl rfl rfl rfl rfl rfl rfl rfl ?_; rintro v_ Lo_ ⟨bo, rfl, rfl⟩)) | refine wz ?_ | (refine wzb ?_; intro b_) | fail)
    refine lx_append (E := EV) 1 rfl rfl rfl rfl rfl rfl rfl rfl rfl rfl rfl rfl rfl (news := bvs (sumL l)) (fun w hm => row_blk 0 rfl (by rw [bvs_len, e5]) hm) bvs_one (by unfold maxLen; omega) (by show (_ + _) * 1 ≤ _; omega) (fun _ _ _ => trivial) ?_
    intro A2 c2
    rw [← bvs_append, ← ef, show 4 + l.length + 4 = (frm l).length by rw [frm_len]; omega]
    repeat (first | refine wz ?_ | (refine wzb ?_; intro b_) | fail)
    exact bq_ret (ret_tmp2 rfl rfl rfl) [_] (Gives.pick [1] (by decide) rfl) rfl ⟨_, _, rfl, rfl⟩
  have hd : decide ((l.length : Int) > 8192) = true := by simp; omega
  rw [putR_long h]
  repeat (first | ((first | (apply lx_gt; exact rfl; exact rfl; exact rfl) | (apply lx_u; exact rfl) | (apply lx_g; exact rfl; exact rfl)); first | (apply isy_bin; exact yl_true (yl_op (E := EV) rfl) (fun _ => hd)) | fail) | refine wzf ?_ | (refine wzb ?_; intro b_) | fail)
  refine cx_cond rfl (fun _ => ?_) (fun h => absurd h (by decide))
  repeat (first | refine wz ?_ | (refine wzb ?_; intro b_) | fail)
  exact bq_ret (ret_tmp2 rfl rfl rfl) [_] ((Gives.nil _).trans (Gives.nilown [] 5 1)) rfl ⟨none, 0, rfl, rfl⟩

end Go.Proofs.YtmochicneilhhaaGreat.fr
namespace Go.Proofs.YtmochicneilhhaaGreat.fr
open Go.RowKit Go.Proofs.YtmochicneilhhaaGreat.kit Go.Proofs.YtmochicneilhhaaGreat.pk Go.Proofs.YtmochicneilhhaaGreat.chk Go.Proofs.YtmochicneilhhaaGreat.crc
def l4 (l : List B8) (a : Nat) : List B8 := (l.drop a).take 4
def num4 (l : List B8) (a : Nat) : Nat := (de 0#64 (l4 l a)).toNat
def bod (l : List B8) (a n : Nat) : List B8 := (l.drop (a + 4)).take n
def sum4 (l : List B8) (a n : Nat) : BitVec 32 := (de 0#64 (l4 l (a + 4 + n))).setWidth 32
/-- what stands at a place: the body, the place behind, the error -/
def takeF (l : List B8) (at' : Int) : List B8 × Int × Int :=
  if at' < 0 ∨ (l.length : Int) < at' + 4 then ([], at', 70)
  else if 8192 < num4 l at'.toNat then ([], at', 71)
  else if l.length < at'.toNat + 8 + num4 l at'.toNat then ([], at', 70)
  else if upd 0#32 (bod l at'.toNat (num4 l at'.toNat)) = sum4 l at'.toNat (num4 l at'.toNat) then (bod l at'.toNat (num4 l at'.toNat), (at'.toNat + 8 + num4 l at'.toNat : Nat), 0)
  else ([], (at'.toNat + 8 + num4 l at'.toNat : Nat), 72)
theorem takeF_more {l : List B8} {at' : Int} (h : at' < 0 ∨ (l.length : Int) < at' + 4) : takeF l at' = ([], at', 70) := if_pos h
theorem takeF_long {l : List B8} {a : Nat} (h : a + 4 ≤ l.length) (h1 : 8192 < num4 l a) : takeF l a = ([], (a : Int), 71) := by
  rw [takeF, if_neg (by omega), Int.toNat_natCast, if_pos h1]
theorem takeF_short {l : List B8} {a : Nat} (h : a + 4 ≤ l.length) (h1 : ¬ 8192 < num4 l a) (h2 : l.length < a + 8 + num4 l a) : takeF l a = ([], (a : Int), 70) := by
  rw [takeF, if_neg (by omega), Int.toNat_natCast, if_neg h1, if_pos h2]
theorem takeF_good {l : List B8} {a : Nat} (h1 : ¬ 8192 < num4 l a) (h2 : ¬ l.length < a + 8 + num4 l a) (h3 : upd 0#32 (bod l a (num4 l a)) = sum4 l a (num4 l a)) : takeF l a = (bod l a (num4 l a), ((a + 8 + num4 l a : Nat) : Int), 0) := by
  rw [takeF, if_neg (by omega), Int.toNat_natCast, if_neg h1, if_neg h2, if_pos h3]
theorem takeF_bad {l : List B8} {a : Nat} (h1 : ¬ 8192 < num4 l a) (h2 : ¬ l.length < a + 8 + num4 l a) (h3 : ¬ upd 0#32 (bod l a (num4 l a)) = sum4 l a (num4 l a)) : takeF l a = ([], ((a + 8 + num4 l a : Nat) : Int), 72) := by
  rw [takeF, if_neg (by omega), Int.toNat_natCast, if_neg h1, if_neg h2, if_neg h3]
theorem l4_len {l : List B8} {a : Nat} (h : a + 4 ≤ l.length) : (l4 l a).length = 4 := by rw [l4, List.length_take, List.length_drop]; omega
theorem bod_len {l : List B8} {a n : Nat} (h : a + 4 + n ≤ l.length) : (bod l a n).length = n := by rw [bod, List.length_take, List.length_drop]; omega
theorem num4_lt {l : List B8} {a : Nat} (h : a + 4 ≤ l.length) : num4 l a < 4294967296 := by
  have := de_lt (l4 l a)
  rw [l4_len h] at this
  exact this
theorem num4_u32 {l : List B8} {a : Nat} (h : a + 4 ≤ l.length) : ((de 0#64 (l4 l a)).setWidth 32).toNat = num4 l a := by
  have := num4_lt h
  rw [BitVec.toNat_setWidth]
  exact Nat.mod_eq_of_lt this
theorem num4_dn {l : List B8} {a : Nat} (h : a + 4 ≤ l.length) : num4 l a = dn 0 (l4 l a) := by
  have h1 := dn_lt (l4 l a) 0
  rw [l4_len h] at h1
  rw [num4, de_dn _ 0#64 0 rfl, Nat.mod_eq_of_lt]
  have : (0 + 1) * 256 ^ 4 = 4294967296 := by decide
  omega
theorem dn_step {l : List B8} {i : Nat} {c : B8} (h : l[i]? = some c) : dn 0 (l.take (i + 1)) = dn 0 (l.take i) * 256 + c.toNat := by
  rw [List.take_add_one, h, dn, List.foldl_append]
  rfl
theorem be4_num {l : List B8} {a : Nat} (h : a + 4 ≤ l.length) : be4 (num4 l a) = l4 l a := by
  have h1 := be_de (l4 l a) (by rw [l4_len h]; decide)
  rw [l4_len h] at h1
  rw [be4, num4, BitVec.ofNat_toNat, BitVec.setWidth_eq, h1]
theorem be4_inj {x y : BitVec 32} (h : be 4 (x.setWidth 64) = be 4 (y.setWidth 64)) : x = y := by
  have h1 := congrArg (fun l => (de 0#64 l).toNat) h
  have ex := x.isLt
  have ey := y.isLt
  simp only [de_mod 4 _ (by decide), BitVec.toNat_setWidth] at h1
  have : (256 : Nat) ^ 4 = 4294967296 := by decide
  rw [this] at h1
  refine BitVec.eq_of_toNat_eq ?_
  omega
theorem sum4_be {l : List B8} {a n : Nat} (h : a + 8 + n ≤ l.length) : be 4 ((sum4 l a n).setWidth 64) = l4 l (a + 4 + n) := by
  have h4 : a + 4 + n + 4 ≤ l.length := by omega
  have h1 := be_de (l4 l (a + 4 + n)) (by rw [l4_len h4]; decide)
  rw [l4_len h4] at h1
  have h2 := num4_lt h4
  rw [sum4, wide_id (w := 32) _ h2, h1]
theorem drop_split {l : List B8} {a n : Nat} (h : a + 8 + n ≤ l.length) : (l.drop a).take (n + 8) = l4 l a ++ (bod l a n ++ l4 l (a + 4 + n)) := by
  have e : n + 8 = 4 + (n + 4) := by omega
  rw [e, List.take_add, l4, bod, List.drop_drop, List.take_add, List.drop_drop, l4]
theorem frm_iff {l : List B8} {a n : Nat} (h : a + 8 + n ≤ l.length) (hn : num4 l a = n) : frm (bod l a n) = (l.drop a).take (n + 8) ↔ upd 0#32 (bod l a n) = sum4 l a n := by
  have hb : (bod l a n).length = n := bod_len (by omega)
  rw [drop_split h, frm, hb, ← be4_num (by omega), hn, List.append_cancel_left_eq, List.append_cancel_left_eq, ← sum4_be h, sumL]
  exact ⟨fun h => be4_inj h, fun h => by rw [h]⟩
theorem frm_get {l : List B8} {a n j : Nat} (h : a + 8 + n ≤ l.length) (hj : j < n + 8) : ((l.drop a).take (n + 8))[j]? = l[a + j]? := by
  rw [List.getElem?_take, if_pos hj, List.getElem?_drop]
theorem takeF_le {l : List B8} {at' : Int} : (takeF l at').1.length ≤ 8192 ∧ (takeF l at').1.length ≤ l.length := by
  unfold takeF
  split
  · exact ⟨Nat.zero_le _, Nat.zero_le _⟩
  · split
    · exact ⟨Nat.zero_le _, Nat.zero_le _⟩
    · split
      · exact ⟨Nat.zero_le _, Nat.zero_le _⟩
      · rename_i h1 h2
        split
        · have := bod_len (l := l) (a := at'.toNat) (n := num4 l at'.toNat) (by omega)
          dsimp only
          omega
        · exact ⟨Nat.zero_le _, Nat.zero_le _⟩
end Go.Proofs.YtmochicneilhhaaGreat.fr
namespace Go.Proofs.YtmochicneilhhaaGreat
open Go.RowKit
theorem ret_tmp3 {P : Program} {t : Fr} {L : List Ck} {fn : Func} {d e g : Nat} {v u z : Value} (hr : fn.results = #[.tmp d, .tmp e, .tmp g]) (hd : lk t d = some (none, v)) (he : lk t e = some (none, u)) (hg : lk t g = some (none, z)) : RetIs P fn t L (.tuple #[v, u, z]) := fun n M a w hf hm => by
  have hd' := hf.tmpq hd
  have he' := hf.tmpq he
  have hg' := hf.tmpq hg
  simp [results, hr, hd', he', hg']
end Go.Proofs.YtmochicneilhhaaGreat
namespace Go.Proofs.YtmochicneilhhaaGreat.fr
open Go.RowKit Go.Proofs.YtmochicneilhhaaGreat.kit Go.Proofs.YtmochicneilhhaaGreat.pk Go.Proofs.YtmochicneilhhaaGreat.chk Go.Proofs.YtmochicneilhhaaGreat.crc
attribute [local irreducible] LX CX Yl Gives RetIs Fn
attribute [local irreducible] be de upd takeF num4 sum4
abbrev TakeP (l : List B8) (at' : Int) (v : Value) (Lo : List Ck) : Prop := ∃ A' c', v = .tuple #[.slice A' (takeF l at').1.length c', .int .i64 (takeF l at').2.1, .int .i64 (takeF l at').2.2] ∧ Lo = [.own A' (takeF l at').1.length c' 5 1 (bvs (takeF l at').1)]

set_option maxHeartbeats 4000000 in
theorem take_fn (A : Option Addr) (n c : Nat) (l : List B8) (at' : Int) (hl : l.length = n) (hc : n ≤ c ∧ c ≤ 9223372036854775807) (hn : n ≤ 1000000) (hat : -9223372036854775808 ≤ at' ∧ at' < 9223372036854775808) :
    Fn Tryz.prog 139 [.slice A n c, .int .i64 at'] [.ro A n 1 (bvs l)] [] (TakeP l at') := by
  subst hl
  refine fn_enter Tryz.func139 rfl rfl (by kernel_rfl) rfl ?_
  intro w0
  repeat (first | refine wz ?_ | (refine wzb ?_; intro b_) | fail)
  refine cx_cond rfl (fun h => ?_) (fun h => ?_)
  · have hT := takeF_more (l := l) (at' := at') (by simp at h; omega)
    repeat (first | refine wz ?_ | (refine wzb ?_; intro b_) | fail)
    exact bq_ret (ret_tmp3 rfl rfl rfl rfl) [_] ((Gives.nil _).trans (Gives.nilown [] 5 1)) rfl ⟨none, 0, by rw [hT]; rfl, by rw [hT]; rfl⟩
  have hb : 0 ≤ at' ∧ at' + 4 ≤ l.length := by simp at h; omega
  clear h
  obtain ⟨a, rfl⟩ : ∃ a : Nat, at' = a := ⟨at'.toNat, by omega⟩
  have ha : a + 4 ≤ l.length := by omega
  have e4 : a + 4 - a = 4 := by omega
  have hl4 := l4_len ha
  have hlt := num4_lt ha
  repeat (first | ((first | (apply lx_u; exact rfl) | (apply lx_g; exact rfl; exact rfl)); first | (apply isy_bin_add; exact yl_eq (q_add rfl rfl) (fun _ => congrArg (Value.int .i64) ((show (a : Int) + 4 = ((a + 4 : Nat) : Int) from rfl)))) | (apply isy_slice; exact yl_eq (q_sl rfl rfl rfl rfl rfl) (fun _ => congrArg (fun q => Value.slice (cutA A c a 1) q (c - a)) e4)) | fail) | refine wz ?_ | (refine wzb ?_; intro b_) | fail)
  refine lx_call0 (of_fn (cutA A c a 1) 4 (c - a) (l4 l a) hl4 (by omega) (by omega)) (fun w hm => in_ro (by have := Row.cutb (c := c) (row_ro 0 rfl hm) (lo := a) (hi := a + 4) (by omega) (by omega) (by omega); rwa [e4] at this) (in_nil hm) rfl) rfl rfl rfl rfl rfl rfl rfl rfl ?_
  rintro v_ Lo_ ⟨bp, Ap, cp, rfl, rfl⟩
  refine lx_fact (fun w hm => own_cap 1 hm rfl) fun hcp => ?_
  refine lx_weak (Gives.ownro 1 rfl) ?_
  have hu := u32_fn bp ⟨Ap, 4, cp, l4 l a, 0⟩ ⟨hl4, hcp.1, hcp.2⟩
  rw [Rs.got, if_pos (Rs.may_ok rfl (Nat.le_refl 4))] at hu
  dsimp only at hu
  rw [List.take_of_length_le (by omega), num4_u32 ha] at hu
  repeat (first | (refine isx_call ?_; refine k_call (hu) [0, 1] [0] [2] rfl rfl rfl rfl rfl rfl rfl rfl ?_; rintro v_ Lo_ ⟨rfl, rfl⟩) | refine wz ?_ | (refine wzb ?_; intro b_) | fail)
  refine cx_cond rfl (fun h => ?_) (fun h => ?_)
  · have hT := takeF_long ha (by simp at h; omega)
    repeat (first | refine wz ?_ | (refine wzb ?_; intro b_) | fail)
    exact bq_ret (ret_tmp3 rfl rfl rfl rfl) [_] ((Gives.nil _).trans (Gives.nilown [] 5 1)) rfl ⟨none, 0, by rw [hT]; rfl, by rw [hT]; rfl⟩
  have h8 : ¬ 8192 < num4 l a := by simp at h; omega
  clear h
  generalize hN : num4 l a = N at *
  repeat (first | ((first | (apply lx_u; exact rfl) | (apply lx_g; exact rfl; exact rfl)); first | (apply isy_convert; exact q_cn rfl rfl rfl) | fail) | refine wz ?_ | (refine wzb ?_; intro b_) | fail)
  refine cx_cond rfl (fun h => ?_) (fun h => ?_)
  · have hT := takeF_short ha (by rw [hN]; exact h8) (by rw [hN]; simp at h; omega)
    repeat (first | refine wz ?_ | (refine wzb ?_; intro b_) | fail)
    exact bq_ret (ret_tmp3 rfl rfl rfl rfl) [_] ((Gives.nil _).trans (Gives.nilown [] 5 1)) rfl ⟨none, 0, by rw [hT]; rfl, by rw [hT]; rfl⟩
  have hle : a + 8 + N ≤ l.length := by simp at h; omega
  clear h
  have eN : a + 4 + N - (a + 4) = N := by omega
  have e44 : a + 4 + N + 4 - (a + 4 + N) = 4 := by omega
  have hbl := bod_len (l := l) (a := a) (n := N) (by omega)
  have hl4' := l4_len (l := l) (a := a + 4 + N) (by omega)
  have hrb : ∀ w : World, ∀ B, Row w B 1 A l.length (bvs l) → Row w B 1 (cutA A c (a + 4) 1) N (bvs (bod l a N)) := fun w B hm => by
    have := Row.cutb (c := c) hm (lo := a + 4) (hi := a + 4 + N) (by omega) (by omega) (by omega)
    rwa [eN] at this
  have hrs : ∀ w : World, ∀ B, Row w B 1 A l.length (bvs l) → Row w B 1 (cutA A c (a + 4 + N) 1) 4 (bvs (l4 l (a + 4 + N))) := fun w B hm => by
    have := Row.cutb (c := c) hm (lo := a + 4 + N) (hi := a + 4 + N + 4) (by omega) (by omega) (by omega)
    rwa [e44] at this
  repeat (first | ((first | (apply lx_u; exact rfl) | (apply lx_g; exact rfl; exact rfl)); first | (apply isy_convert; exact q_cn rfl rfl rfl) | (apply isy_bin_add; exact yl_eq (q_add rfl rfl) (fun _ => congrArg (Value.int .i64) ((show (a : Int) + 4 = ((a + 4 : Nat) : Int) from rfl)))) | (apply isy_bin_add; exact yl_eq (q_add rfl rfl) (fun _ => congrArg (Value.int .i64) ((show ((a + 4 : Nat) : Int) + N = ((a + 4 + N : Nat) : Int) from rfl)))) | (apply isy_bin_add; exact yl_eq (q_add rfl rfl) (fun _ => congrArg (Value.int .i64) ((show ((a + 4 + N : Nat) : Int) + 4 = ((a + 4 + N + 4 : Nat) : Int) from rfl)))) | (apply isy_bin_sub; exact yl_eq (yl_sub rfl rfl (by first | exact fun _ => rfl | exact fun h => h | exact fun h => (Bool.and_eq_true_iff.1 h).1) (by first | exact fun _ => rfl | exact fun h => h | exact fun h => (Bool.and_eq_true_iff.1 h).1) (fun _ => by omega)) (fun _ => congrArg (Value.int .i64) (show ((a + 4 + N + 4 : Nat) : Int) - 4 = ((a + 4 + N : Nat) : Int) by omega))) | (apply isy_slice; exact yl_eq (q_sl rfl rfl rfl rfl rfl) (fun _ => congrArg (fun q => Value.slice (cutA A c (a + 4) 1) q (c - (a + 4))) eN)) | (apply isy_slice; exact yl_eq (q_sl rfl rfl rfl rfl rfl) (fun _ => congrArg (fun q => Value.slice (cutA A c (a + 4 + N) 1) q (c - (a + 4 + N))) e44)) | fail) | (refine isx_call ?_; (refine lx_call0 (clone_fn (cutA A c (a + 4) 1) N (c - (a + 4)) (bod l a N) hbl (by omega) (by omega)) ((fun w hm => in_ro (hrb w _ (row_ro 1 rfl hm)) (in_nil hm) rfl)) rfl rfl rfl rfl rfl rfl rfl rfl ?_; rintro v_ Lo_ ⟨A_, c_, rfl, rfl⟩)) | refine wz ?_ | (refine wzb ?_; intro b_) | fail)
  refine lx_fact (fun w hm => own_cap 0 hm rfl) fun hcb => ?_
  refine lx_call0 (of_fn (cutA A c (a + 4 + N) 1) 4 (c - (a + 4 + N)) (l4 l (a + 4 + N)) hl4' (by omega) (by omega)) (fun w hm => in_ro (hrs w _ (row_ro 2 rfl hm)) (in_nil hm) rfl) rfl rfl rfl rfl rfl rfl rfl rfl ?_
  rintro v_ Lo_ ⟨bq, Aq, cq, rfl, rfl⟩
  refine lx_fact (fun w hm => own_cap 1 hm rfl) fun hcq => ?_
  refine lx_weak (Gives.ownro 1 rfl) ?_
  have hu2 := u32_fn bq ⟨Aq, 4, cq, l4 l (a + 4 + N), 0⟩ ⟨hl4', hcq.1, hcq.2⟩
  rw [Rs.got, if_pos (Rs.may_ok rfl (Nat.le_refl 4))] at hu2
  dsimp only at hu2
  rw [List.take_of_length_le (by omega), show (de 0#64 (l4 l (a + 4 + N))).setWidth 32 = sum4 l a N by unfold sum4; rfl] at hu2
  have his := is_fn A_ N c_ (bod l a N) (sum4 l a N) hcb
  repeat (first | (refine isx_call ?_; refine k_call (hu2) [0, 1] [0] [2, 3, 4] rfl rfl rfl rfl rfl rfl rfl rfl ?_; rintro v_ Lo_ ⟨rfl, rfl⟩) | (refine isx_call ?_; refine k_gcall (his) ((fun w hm => in_ro (row_own 1 rfl hm) (in_nil hm) rfl)) rfl rfl rfl rfl rfl rfl ?_) | refine wz ?_ | (refine wzb ?_; intro b_) | fail)
  refine cx_cond rfl (fun h => ?_) (fun h => ?_)
  · have hT := takeF_bad (by rw [hN]; exact h8) (by rw [hN]; omega) (by rw [hN]; simpa using h)
    rw [hN] at hT
    repeat (first | refine wz ?_ | (refine wzb ?_; intro b_) | fail)
    exact bq_ret (ret_tmp3 rfl rfl rfl rfl) [_] ((Gives.nil _).trans (Gives.nilown [] 5 1)) rfl ⟨none, 0, by rw [hT, show a + 8 + N = a + 4 + N + 4 by omega]; rfl, by rw [hT]; rfl⟩
  have hT := takeF_good (by rw [hN]; exact h8) (by rw [hN]; omega) (by rw [hN]; simpa using h)
  rw [hN] at hT
  repeat (first | refine wz ?_ | (refine wzb ?_; intro b_) | fail)
  exact bq_ret (ret_tmp3 rfl rfl rfl rfl) [_] (Gives.pick [1] (by decide) rfl) rfl ⟨A_, c_, by rw [hT, show a + 8 + N = a + 4 + N + 4 by omega, hbl], by rw [hT, hbl]⟩

end Go.Proofs.YtmochicneilhhaaGreat.fr
namespace Go.Proofs.YtmochicneilhhaaGreat.fr
open Go.RowKit Go.Proofs.YtmochicneilhhaaGreat.kit Go.Proofs.YtmochicneilhhaaGreat.pk Go.Proofs.YtmochicneilhhaaGreat.chk Go.Proofs.YtmochicneilhhaaGreat.crc
attribute [local irreducible] LX CX Yl Gives RetIs Fn
attribute [local irreducible] be de upd takeF num4 sum4 frm

set_option maxHeartbeats 4000000 in
theorem rtake_fn (A : Option Addr) (n c : Nat) (l : List B8) (at' : Int) (hl : l.length = n) (hc : n ≤ c ∧ c ≤ 9223372036854775807) (hn : n ≤ 1000000) (hat : -9223372036854775808 ≤ at' ∧ at' < 9223372036854775808) :
    Fn Tryz.prog 120 [.slice A n c, .int .i64 at'] [.ro A n 1 (bvs l)] [] (TakeP l at') := by
  subst hl
  refine fn_enter Tryz.func120 rfl rfl (by kernel_rfl) rfl ?_
  intro w0
  by_cases hb : ¬ (0 ≤ at' ∧ at' + 4 ≤ l.length)
  · have hT := takeF_more (l := l) (at' := at') (by omega)
    by_cases h0 : at' < 0
    · repeat (first | ((first | (apply lx_gt; exact rfl; exact rfl; exact rfl) | (apply lx_u; exact rfl) | (apply lx_g; exact rfl; exact rfl)); first | (apply isy_bin; exact yl_true (yl_op (E := EV) rfl) (fun _ => (decide_eq_true h0))) | fail) | refine wzf ?_ | (refine wzb ?_; intro b_) | fail)
      refine cx_cond rfl (fun _ => ?_) (fun h => absurd h (by decide))
      repeat (first | refine wz ?_ | (refine wzb ?_; intro b_) | fail)
      exact bq_ret (ret_tmp3 rfl rfl rfl rfl) [_] ((Gives.nil _).trans (Gives.nilown [] 5 1)) rfl ⟨none, 0, by rw [hT]; rfl, by rw [hT]; rfl⟩
    by_cases h1 : at' + 4 < 9223372036854775808
    · repeat (first | refine wz ?_ | (refine wzb ?_; intro b_) | fail)
      refine cx_cond rfl (fun _ => ?_) (fun h => ?_)
      · repeat (first | refine wz ?_ | (refine wzb ?_; intro b_) | fail)
        exact bq_ret (ret_tmp3 rfl rfl rfl rfl) [_] ((Gives.nil _).trans (Gives.nilown [] 5 1)) rfl ⟨none, 0, by rw [hT]; rfl, by rw [hT]; rfl⟩
      · simp at h; omega
    · have hg : decide (at' > (l.length : Int)) = true := by simp; omega
      by_cases h2 : IntKind.i64.wrap (at' + 4) > (l.length : Int)
      · repeat (first | ((first | (apply lx_gt; exact rfl; exact rfl; exact rfl) | (apply lx_u; exact rfl) | (apply lx_g; exact rfl; exact rfl)); first | (apply isy_bin; exact yl_false (yl_op (E := EV) rfl) (fun _ => (decide_eq_false h0))) | (apply isy_bin; exact yl_true (yl_op (E := EV) rfl) (fun _ => (decide_eq_true h2))) | fail) | refine wzf ?_ | (refine wzb ?_; intro b_) | fail)
        refine cx_cond rfl (fun _ => ?_) (fun h => absurd h (by decide))
        repeat (first | refine wz ?_ | (refine wzb ?_; intro b_) | fail)
        exact bq_ret (ret_tmp3 rfl rfl rfl rfl) [_] ((Gives.nil _).trans (Gives.nilown [] 5 1)) rfl ⟨none, 0, by rw [hT]; rfl, by rw [hT]; rfl⟩
      · repeat (first | ((first | (apply lx_gt; exact rfl; exact rfl; exact rfl) | (apply lx_u; exact rfl) | (apply lx_g; exact rfl; exact rfl)); first | (apply isy_bin; exact yl_false (yl_op (E := EV) rfl) (fun _ => (decide_eq_false h0))) | (apply isy_bin; exact yl_false (yl_op (E := EV) rfl) (fun _ => (decide_eq_false h2))) | (apply isy_bin; exact yl_true (yl_op (E := EV) rfl) (fun _ => hg)) | fail) | refine wzf ?_ | (refine wzb ?_; intro b_) | fail)
        refine cx_cond rfl (fun _ => ?_) (fun h => absurd h (by decide))
        repeat (first | refine wz ?_ | (refine wzb ?_; intro b_) | fail)
        exact bq_ret (ret_tmp3 rfl rfl rfl rfl) [_] ((Gives.nil _).trans (Gives.nilown [] 5 1)) rfl ⟨none, 0, by rw [hT]; rfl, by rw [hT]; rfl⟩
  rw [Classical.not_not] at hb
  obtain ⟨a, rfl⟩ : ∃ a : Nat, at' = a := ⟨at'.toNat, by omega⟩
  have ha : a + 4 ≤ l.length := by omega
  have hl4 := l4_len ha
  have hlt := num4_lt ha
  have hdn := num4_dn ha
  repeat (first | refine wz ?_ | (refine wzb ?_; intro b_) | fail)
  refine cx_cond rfl (fun h => ?_) (fun _ => ?_)
  · simp at h; omega
  repeat (first | refine wz ?_ | (refine wzb ?_; intro b_) | fail)
  refine cx_loop (α := { i : Nat // i ≤ 4 }) (fun x => [(0, none, .slice A l.length c), (1, none, .int .i64 a), (7, none, .int .i64 (dn 0 ((l4 l a).take x.1) : Nat)), (8, none, .int .i64 x.1)]) (fun _ => [.ro A l.length 1 (bvs l)]) (fun x => 4 - x.1) ⟨0, Nat.zero_le _⟩ ⟨rfl, rfl, rfl, rfl, trivial⟩ (Gives.refl _) ?_
  rintro ⟨i, hi⟩
  dsimp only
  repeat (first | refine wz ?_ | (refine wzb ?_; intro b_) | fail)
  refine cx_cond rfl (fun h => ?_) (fun h => ?_)
  · have hlt4 : i < 4 := by simp at h; omega
    clear h
    obtain ⟨x, hx⟩ : ∃ x, l[a + i]? = some x := ⟨_, List.getElem?_eq_getElem (by omega)⟩
    have hx4 : (l4 l a)[i]? = some x := by rw [l4, List.getElem?_take, if_pos hlt4, List.getElem?_drop, hx]
    have hx0 : (bvs l)[mulI (a + i) 1]? = some (bv x) := bvs_get hx
    have hs := dn_step hx4
    have hb := dn_lt ((l4 l a).take i) 0
    rw [List.length_take, hl4, Nat.min_eq_left hi, Nat.zero_add, Nat.one_mul] at hb
    have hpw : (256 : Nat) ^ i ≤ 256 ^ 4 := Nat.pow_le_pow_right (by decide) hi
    have h256 : (256 : Nat) ^ 4 = 4294967296 := by decide
    have hxl := x.isLt
    repeat (first | ((first | (apply lx_u; exact rfl) | (apply lx_g; exact rfl; exact rfl)); first | (apply isy_bin_mul; exact yl_eq (q_mul rfl rfl) (fun _ => congrArg (Value.int .i64) ((show ((dn 0 ((l4 l a).take i) : Nat) : Int) * 256 = ((dn 0 ((l4 l a).take i) * 256 : Nat) : Int) by omega)))) | (apply isy_bin_add; exact yl_eq (q_add rfl rfl) (fun _ => congrArg (Value.int .i64) ((show (a : Int) + i = ((a + i : Nat) : Int) from rfl)))) | (apply isy_indexAddr; exact q_ix 0 rfl rfl rfl rfl rfl) | (apply isy_load; exact q_li 0 rfl rfl rfl rfl hx0) | (apply isy_convert; exact q_cn rfl rfl rfl) | (apply isy_bin_add; exact yl_eq (q_add rfl rfl) (fun _ => congrArg (Value.int .i64) ((show ((dn 0 ((l4 l a).take i) * 256 : Nat) : Int) + (x.toNat : Int) = ((dn 0 ((l4 l a).take (i + 1)) : Nat) : Int) by rw [hs]; rfl)))) | fail) | refine wz ?_ | (refine wzb ?_; intro b_) | fail)
    exact ⟨⟨i + 1, by omega⟩, ⟨rfl, rfl, rfl, slot_int (by dsimp only; omega), trivial⟩, Gives.refl _, by dsimp only; omega⟩
  obtain rfl : i = 4 := by simp at h; omega
  clear h hi
  rw [List.take_of_length_le (by omega), ← hdn]
  repeat (first | refine wz ?_ | (refine wzb ?_; intro b_) | fail)
  refine cx_cond rfl (fun h => ?_) (fun h => ?_)
  · have hT := takeF_long ha (by simp at h; omega)
    repeat (first | refine wz ?_ | (refine wzb ?_; intro b_) | fail)
    exact bq_ret (ret_tmp3 rfl rfl rfl rfl) [_] ((Gives.nil _).trans (Gives.nilown [] 5 1)) rfl ⟨none, 0, by rw [hT]; rfl, by rw [hT]; rfl⟩
  have h8 : ¬ 8192 < num4 l a := by simp at h; omega
  clear h hdn
  generalize hN : num4 l a = N at *
  repeat (first | refine wz ?_ | (refine wzb ?_; intro b_) | fail)
  refine cx_cond rfl (fun h => ?_) (fun h => ?_)
  · have hT := takeF_short ha (by rw [hN]; exact h8) (by rw [hN]; simp at h; omega)
    repeat (first | refine wz ?_ | (refine wzb ?_; intro b_) | fail)
    exact bq_ret (ret_tmp3 rfl rfl rfl rfl) [_] ((Gives.nil _).trans (Gives.nilown [] 5 1)) rfl ⟨none, 0, by rw [hT]; rfl, by rw [hT]; rfl⟩
  have hle : a + 8 + N ≤ l.length := by simp at h; omega
  clear h
  have eN : a + 4 + N - (a + 4) = N := by omega
  have hbl := bod_len (l := l) (a := a) (n := N) (by omega)
  have hrb : ∀ w : World, ∀ B, Row w B 1 A l.length (bvs l) → Row w B 1 (cutA A c (a + 4) 1) N (bvs (bod l a N)) := fun w B hm => by
    have := Row.cutb (c := c) hm (lo := a + 4) (hi := a + 4 + N) (by omega) (by omega) (by omega)
    rwa [eN] at this
  repeat (first | ((first | (apply lx_u; exact rfl) | (apply lx_g; exact rfl; exact rfl)); first | (apply isy_bin_add; exact yl_eq (q_add rfl rfl) (fun _ => congrArg (Value.int .i64) ((show (a : Int) + 4 = ((a + 4 : Nat) : Int) from rfl)))) | (apply isy_bin_add; exact yl_eq (q_add rfl rfl) (fun _ => congrArg (Value.int .i64) ((show ((a + 4 : Nat) : Int) + N = ((a + 4 + N : Nat) : Int) from rfl)))) | (apply isy_slice; exact yl_eq (q_sl rfl rfl rfl rfl rfl) (fun _ => congrArg (fun q => Value.slice (cutA A c (a + 4) 1) q (c - (a + 4))) eN)) | fail) | refine wz ?_ | (refine wzb ?_; intro b_) | fail)
  refine lx_weak (Gives.nilown _ 5 1) ?_
  refine lx_append (E := EV) 0 rfl rfl rfl rfl rfl rfl rfl rfl rfl rfl rfl rfl rfl (news := bvs (bod l a N)) (fun w hm => hrb w _ (row_ro 1 rfl hm)) bvs_one (by unfold maxLen; omega) (by show (_ + _) * 1 ≤ _; omega) (fun _ _ _ => trivial) ?_
  intro A1 c1
  rw [List.nil_append, Nat.zero_add N]
  refine lx_fact (fun w hm => own_cap 0 hm rfl) fun hc1 => ?_
  have hpf := rput_fn A1 N c1 (bod l a N) hbl hc1
  rw [putR_ok (by omega)] at hpf
  dsimp only at hpf
  have hfl := frm_len (bod l a N)
  repeat (first | (refine isx_call ?_; (refine isx_call ?_; refine lx_call0 (hpf) ((fun w hm => in_ro (row_own 0 rfl hm) (in_nil hm) rfl)) rfl rfl rfl rfl rfl rfl rfl rfl ?_; rintro v_ Lo_ ⟨Aw, cw, rfl, rfl⟩)) | refine wz ?_ | (refine wzb ?_; intro b_) | fail)
  refine cx_loop (α := { i : Nat // i ≤ N + 8 ∧ ∀ j < i, l[a + j]? = (frm (bod l a N))[j]? }) (fun x => [(0, none, .slice A l.length c), (1, none, .int .i64 a), (7, none, .int .i64 N), (9, none, .slice A1 N c1), (10, none, .slice Aw (frm (bod l a N)).length cw), (12, none, .int .i64 x.1)])
    (fun _ => [.own Aw (frm (bod l a N)).length cw 5 1 (bvs (frm (bod l a N))), .own A1 N c1 5 1 (bvs (bod l a N)), .ro A l.length 1 (bvs l)]) (fun x => N + 8 - x.1) ⟨0, Nat.zero_le _, by simp⟩ ⟨rfl, rfl, rfl, rfl, rfl, rfl, trivial⟩ (Gives.refl _) ?_
  rintro ⟨i, hi, heq⟩
  dsimp only
  repeat (first | refine wz ?_ | (refine wzb ?_; intro b_) | fail)
  refine cx_cond rfl (fun h => ?_) (fun h => ?_)
  · have hi8 : i < N + 8 := by simp at h; omega
    clear h
    obtain ⟨x, hx⟩ : ∃ x, l[a + i]? = some x := ⟨_, List.getElem?_eq_getElem (by omega)⟩
    obtain ⟨y, hy⟩ : ∃ y, (frm (bod l a N))[i]? = some y := ⟨_, List.getElem?_eq_getElem (by omega)⟩
    have hx0 : (bvs l)[mulI (a + i) 1]? = some (bv x) := bvs_get hx
    have hy0 : (bvs (frm (bod l a N)))[mulI i 1]? = some (bv y) := bvs_get hy
    repeat (first | refine wz ?_ | (refine wzb ?_; intro b_) | fail)
    refine cx_draw [] _ rfl (by kernel_rfl) (Gives.refl _) ?_
    repeat (first | ((first | (apply lx_u; exact rfl) | (apply lx_g; exact rfl; exact rfl)); first | (apply isy_bin_add; exact yl_eq (q_add rfl rfl) (fun _ => congrArg (Value.int .i64) ((show (a : Int) + i = ((a + i : Nat) : Int) from rfl)))) | (apply isy_indexAddr; exact q_ix 2 rfl rfl rfl rfl rfl) | (apply isy_load; exact q_li 2 rfl rfl rfl rfl hx0) | (apply isy_indexAddr; exact q_ixo 0 rfl rfl rfl rfl rfl) | (apply isy_load; exact q_lio 0 rfl rfl rfl rfl hy0) | (apply isy_bin_neq; exact q_bne x y rfl rfl rfl rfl) | fail) | refine wz ?_ | (refine wzb ?_; intro b_) | fail)
    refine cx_cond rfl (fun h => ?_) (fun h => ?_)
    · have hne : ¬ upd 0#32 (bod l a N) = sum4 l a N := fun he => by
        have h1 := (frm_iff hle hN).2 he
        have h2 := frm_get hle hi8
        rw [← h1, hy, hx] at h2
        cases h2
        simp at h
      have hT := takeF_bad (by rw [hN]; exact h8) (by rw [hN]; omega) (by rw [hN]; exact hne)
      rw [hN] at hT
      repeat (first | ((first | (apply lx_u; exact rfl) | (apply lx_g; exact rfl; exact rfl)); first | (apply isy_bin_add; exact yl_eq (q_add rfl rfl) (fun _ => congrArg (Value.int .i64) ((show (a : Int) + 8 = ((a + 8 : Nat) : Int) from rfl)))) | (apply isy_bin_add; exact yl_eq (q_add rfl rfl) (fun _ => congrArg (Value.int .i64) ((show ((a + 8 : Nat) : Int) + N = ((a + 8 + N : Nat) : Int) from rfl)))) | fail) | refine wz ?_ | (refine wzb ?_; intro b_) | fail)
      exact bq_ret (ret_tmp3 rfl rfl rfl rfl) [_] ((Gives.nil _).trans (Gives.nilown [] 5 1)) rfl ⟨none, 0, by rw [hT]; rfl, by rw [hT]; rfl⟩
    have hxy : x = y := by simpa using h
    repeat (first | refine wz ?_ | (refine wzb ?_; intro b_) | fail)
    exact ⟨⟨i + 1, by omega, fun j hj => by
      rcases Nat.lt_or_ge j i with h1 | h1
      · exact heq j h1
      · obtain rfl : j = i := by omega
        rw [hx, hy, hxy]⟩, ⟨rfl, rfl, rfl, rfl, rfl, slot_int (by dsimp only; omega), trivial⟩, Gives.refl _, by dsimp only; omega⟩
  have hi8 : i = N + 8 := by simp at h; omega
  clear h
  subst hi8
  have he : upd 0#32 (bod l a N) = sum4 l a N := (frm_iff hle hN).1 (by
    apply List.ext_getElem?
    intro j
    rcases Nat.lt_or_ge j (N + 8) with h1 | h1
    · rw [← heq j h1, frm_get hle h1]
    · rw [List.getElem?_eq_none (by omega), List.getElem?_eq_none (by rw [List.length_take]; omega)])
  have hT := takeF_good (by rw [hN]; exact h8) (by rw [hN]; omega) (by rw [hN]; exact he)
  rw [hN] at hT
  repeat (first | ((first | (apply lx_u; exact rfl) | (apply lx_g; exact rfl; exact rfl)); first | (apply isy_bin_add; exact yl_eq (q_add rfl rfl) (fun _ => congrArg (Value.int .i64) ((show (a : Int) + 8 = ((a + 8 : Nat) : Int) from rfl)))) | (apply isy_bin_add; exact yl_eq (q_add rfl rfl) (fun _ => congrArg (Value.int .i64) ((show ((a + 8 : Nat) : Int) + N = ((a + 8 + N : Nat) : Int) from rfl)))) | fail) | refine wz ?_ | (refine wzb ?_; intro b_) | fail)
  exact bq_ret (ret_tmp3 rfl rfl rfl rfl) [_] (Gives.pick [1] (by decide) rfl) rfl ⟨A1, c1, by rw [hT, hbl], by rw [hT, hbl]⟩

end Go.Proofs.YtmochicneilhhaaGreat.fr
