/- frames, plainly; frames: put, and joined; frames: taken, plainly; frames: taken; frames: taken, by the reference. -/
import Derived.Test.YtmochicneilhhaaGreatPCd
import Derived.Test.YtmochicneilhhaaGreatPEa
import Derived.Test.YtmochicneilhhaaGreatPGo
namespace Go.Proofs.YtmochicneilhhaaGreat.fr
open Go.RowKit Go.Proofs.YtmochicneilhhaaGreat.kit Go.Proofs.YtmochicneilhhaaGreat.pk Go.Proofs.YtmochicneilhhaaGreat.chk Go.Proofs.YtmochicneilhhaaGreat.crc
abbrev be4 (n : Nat) : List B8 := be 4 (BitVec.ofNat 64 n)
def sumL (l : List B8) : List B8 := be 4 ((upd 0#32 l).setWidth 64)
theorem len32 (n : Nat) (h : n < 4294967296) : be 4 ((BitVec.ofInt 32 (n : Int)).setWidth 64) = be4 n := by
  congr 1
  apply BitVec.eq_of_toNat_eq
  have e : (BitVec.ofInt 32 (n : Int)).toNat = n := by
    rw [show BitVec.ofInt 32 (n : Int) = BitVec.ofNat 32 n from BitVec.ofInt_natCast 32 n, BitVec.toNat_ofNat, Nat.mod_eq_of_lt (by omega)]
  rw [BitVec.toNat_setWidth, e, BitVec.toNat_ofNat]
/-- a body's frame -/
def frm (l : List B8) : List B8 := be4 l.length ++ (l ++ sumL l)
theorem sumL_len (l : List B8) : (sumL l).length = 4 := be_len _ _
theorem frm_len (l : List B8) : (frm l).length = l.length + 8 := by rw [frm, List.length_append, List.length_append, sumL_len, be_len]; omega
def putR (l : List B8) : List B8 × Int := if l.length ≤ 8192 then (frm l, 0) else ([], 71)
theorem putR_ok {l : List B8} (h : l.length ≤ 8192) : putR l = (frm l, 0) := if_pos h
theorem putR_long {l : List B8} (h : ¬ l.length ≤ 8192) : putR l = ([], 71) := if_neg h
def okTo (rs : List Rw) : Prop := ∀ r ∈ rs, r.l.length ≤ 8192
instance (rs : List Rw) : Decidable (okTo rs) := by unfold okTo; infer_instance
/-- numbers of whole division -/
theorem quoN (p d : Nat) (_ : 0 < d) (h : p < 4611686018427387904) : IntKind.i64.wrap ((p : Int).tdiv d) = ((p / d : Nat) : Int) := by
  have h1 : p / d ≤ p := Nat.div_le_self ..
  have h2 : (p : Int).tdiv d = ((p / d : Nat) : Int) := by
    rw [Int.tdiv_eq_ediv_of_nonneg (by omega)]
    rfl
  rw [h2, IntKind.wrap_i64]
  generalize p / d = q at h1
  omega
end Go.Proofs.YtmochicneilhhaaGreat.fr
namespace Go.Proofs.YtmochicneilhhaaGreat.fr
open Go.RowKit Go.Proofs.YtmochicneilhhaaGreat.kit Go.Proofs.YtmochicneilhhaaGreat.pk Go.Proofs.YtmochicneilhhaaGreat.chk Go.Proofs.YtmochicneilhhaaGreat.crc
attribute [local irreducible] LX CX Yl Gives RetIs Fn
attribute [local irreducible] be de upd

theorem joinB_fn (b : Nat) (n : Nat) (rs : List Rw) (l : List B8) (hl : rs.length = n) (hn : n ≤ 9223372036854775807) (hcat : cat rs = l) (hm : l.length ≤ 70368744177664) : Fn Tryz.prog 76 [.slice (some ⟨b, 0, none⟩) n n] [.rows (some ⟨b, 0, none⟩) n rs] [] fun v Lo => ∃ A' c', v = .slice A' l.length c' ∧ Lo = [.own A' l.length c' 5 1 (bvs l)] := by
  subst hcat
  exact join_fn _ n n rs hl hn hm


set_option maxHeartbeats 2000000 in
theorem put_fn (A : Option Addr) (n c : Nat) (l : List B8) (hl : l.length = n) (hc : n ≤ c ∧ c ≤ 9223372036854775807) : Fn Tryz.prog 40 [.slice A n c] [.ro A n 1 (bvs l)] [] fun v Lo => ∃ A' c', v = .tuple #[.slice A' (putR l).1.length c', .int .i64 (putR l).2] ∧ Lo = [.own A' (putR l).1.length c' 5 1 (bvs (putR l).1)] := by
  subst hl
  refine fn_enter Tryz.func40 rfl rfl (by kernel_rfl) rfl ?_
  intro w0
  by_cases h : l.length ≤ 8192
  · have hd : decide ((l.length : Int) > 8192) = false := by simp; omega
    have e4 : (be4 l.length).length = 4 := be_len _ _
    have e5 := sumL_len l
    have h1 := put32_fn (BitVec.ofInt 32 (l.length : Int))
    have h2 := put32_fn (upd 0#32 l)
    rw [len32 l.length (by omega)] at h1
    rw [show be 4 ((upd 0#32 l).setWidth 64) = sumL l from rfl] at h2
    rw [putR_ok h]
    repeat (first | ((first | (apply lx_gt; exact rfl; exact rfl; exact rfl) | (apply lx_u; exact rfl) | (apply lx_g; exact rfl; exact rfl)); first | (apply isy_bin; exact yl_false (yl_op (E := EV) rfl) (fun _ => hd)) | fail) | refine wzf ?_ | (refine wzb ?_; intro b_) | fail)
    refine cx_cond rfl (fun h => absurd h (by decide)) (fun _ => ?_)
    repeat (first | ((first | (apply lx_u; exact rfl) | (apply lx_g; exact rfl; exact rfl)); first | (apply isy_convert; exact q_ci uk32 rfl rfl rfl) | fail) | (refine isx_call ?_; (refine isx_call ?_; refine lx_call0 (h1) (fun _ hm => in_nil hm) rfl rfl rfl rfl rfl rfl rfl rfl ?_; rintro v_ Lo_ ⟨A1, c1, rfl, rfl⟩)) | (refine isx_call ?_; refine k_gcall (sum1_fn _ A l.length c l) ((fun w hm => rows_one hm rfl (row_ro 2 rfl hm) hc)) rfl rfl rfl rfl rfl rfl ?_) | (refine isx_call ?_; (refine isx_call ?_; refine lx_call0 (h2) (fun _ hm => in_nil hm) rfl rfl rfl rfl rfl rfl rfl rfl ?_; rintro v_ Lo_ ⟨A2, c2, rfl, rfl⟩)) | refine wz ?_ | (refine wzb ?_; intro b_) | fail)
    refine lx_fact (fun w hm => (⟨own_cap 1 hm rfl, own_cap 3 hm rfl⟩ : (4 ≤ c2 ∧ _) ∧ (4 ≤ c1 ∧ _))) fun ⟨k2, k1⟩ => ?_
    repeat (first | (refine isx_call ?_; (refine isx_call ?_; refine lx_call0 (joinB_fn _ 3 [⟨A1, 4, c1, be4 l.length⟩, ⟨A, l.length, c, l⟩, ⟨A2, 4, c2, sumL l⟩] (frm l) rfl (by omega) (by simp only [cat, List.flatMap_cons, List.flatMap_nil, List.append_nil]; rfl) (by rw [frm_len]; omega)) ((fun w hm => rows_blk 0 _ hm rfl rfl (List.forall_mem_cons.2 ⟨⟨row_own 3 rfl hm, k1⟩, List.forall_mem_cons.2 ⟨⟨row_ro 4 rfl hm, hc⟩, List.forall_mem_cons.2 ⟨⟨row_own 1 rfl hm, k2⟩, List.forall_mem_nil _⟩⟩⟩))) rfl rfl rfl rfl rfl rfl rfl rfl ?_; rintro v_ Lo_ ⟨A', c', rfl, rfl⟩)) | refine wz ?_ | (refine wzb ?_; intro b_) | fail)
    exact bq_ret (ret_tmp2 rfl rfl rfl) [_] (Gives.pick [0] (by decide) rfl) rfl ⟨_, _, rfl, rfl⟩
  have hd : decide ((l.length : Int) > 8192) = true := by simp; omega
  rw [putR_long h]
  repeat (first | ((first | (apply lx_gt; exact rfl; exact rfl; exact rfl) | (apply lx_u; exact rfl) | (apply lx_g; exact rfl; exact rfl)); first | (apply isy_bin; exact yl_true (yl_op (E := EV) rfl) (fun _ => hd)) | fail) | refine wzf ?_ | (refine wzb ?_; intro b_) | fail)
  refine cx_cond rfl (fun _ => ?_) (fun h => absurd h (by decide))
  repeat (first | refine wz ?_ | (refine wzb ?_; intro b_) | fail)
  exact bq_ret (ret_tmp2 rfl rfl rfl) [_] ((Gives.nil _).trans (Gives.nilown [] 5 1)) rfl ⟨none, 0, rfl, rfl⟩


end Go.Proofs.YtmochicneilhhaaGreat.fr
namespace Go.Proofs.YtmochicneilhhaaGreat.fr
open Go.RowKit Go.Proofs.YtmochicneilhhaaGreat.kit Go.Proofs.YtmochicneilhhaaGreat.pk Go.Proofs.YtmochicneilhhaaGreat.chk Go.Proofs.YtmochicneilhhaaGreat.crc
def l4 (l : List B8) (a : Nat) : List B8 := (l.drop a).take 4
def num4 (l : List B8) (a : Nat) : Nat := (de 0#64 (l4 l a)).toNat
def bod (l : List B8) (a n : Nat) : List B8 := (l.drop (a + 4)).take n
def sum4 (l : List B8) (a n : Nat) : BitVec 32 := (de 0#64 (l4 l (a + 4 + n))).setWidth 32
/-- what stands at a place: the body, the place behind, the error -/
def takeF (l : List B8) (at' : Int) : List B8 × Int × Int :=
  if at' < 0 ∨ (l.length : Int) < at' + 4 then ([], at', 70)
  else if 8192 < num4 l at'.toNat then ([], at', 71)
  else if l.length < at'.toNat + 8 + num4 l at'.toNat then ([], at', 70)
  else if upd 0#32 (bod l at'.toNat (num4 l at'.toNat)) = sum4 l at'.toNat (num4 l at'.toNat) then (bod l at'.toNat (num4 l at'.toNat), (at'.toNat + 8 + num4 l at'.toNat : Nat), 0)
  else ([], (at'.toNat + 8 + num4 l at'.toNat : Nat), 72)
theorem takeF_more {l : List B8} {at' : Int} (h : at' < 0 ∨ (l.length : Int) < at' + 4) : takeF l at' = ([], at', 70) := if_pos h
theorem takeF_long {l : List B8} {a : Nat} (h : a + 4 ≤ l.length) (h1 : 8192 < num4 l a) : takeF l a = ([], (a : Int), 71) := by
  rw [takeF, if_neg (by omega), Int.toNat_natCast, if_pos h1]
theorem takeF_short {l : List B8} {a : Nat} (h : a + 4 ≤ l.length) (h1 : ¬ 8192 < num4 l a) (h2 : l.length < a + 8 + num4 l a) : takeF l a = ([], (a : Int), 70) := by
  rw [takeF, if_neg (by omega), Int.toNat_natCast, if_neg h1, if_pos h2]
theorem takeF_good {l : List B8} {a : Nat} (h1 : ¬ 8192 < num4 l a) (h2 : ¬ l.length < a + 8 + num4 l a) (h3 : upd 0#32 (bod l a (num4 l a)) = sum4 l a (num4 l a)) : takeF l a = (bod l a (num4 l a), ((a + 8 + num4 l a : Nat) : Int), 0) := by
  rw [takeF, if_neg (by omega), Int.toNat_natCast, if_neg h1, if_neg h2, if_pos h3]
theorem takeF_bad {l : List B8} {a : Nat} (h1 : ¬ 8192 < num4 l a) (h2 : ¬ l.length < a + 8 + num4 l a) (h3 : ¬ upd 0#32 (bod l a (num4 l a)) = sum4 l a (num4 l a)) : takeF l a = ([], ((a + 8 + num4 l a : Nat) : Int), 72) := by
  rw [takeF, if_neg (by omega), Int.toNat_natCast, if_neg h1, if_neg h2, if_neg h3]
theorem l4_len {l : List B8} {a : Nat} (h : a + 4 ≤ l.length) : (l4 l a).length = 4 := by rw [l4, List.length_take, List.length_drop]; omega
theorem bod_len {l : List B8} {a n : Nat} (h : a + 4 + n ≤ l.length) : (bod l a n).length = n := by rw [bod, List.length_take, List.length_drop]; omega
theorem num4_lt {l : List B8} {a : Nat} (h : a + 4 ≤ l.length) : num4 l a < 4294967296 := by
  have := de_lt (l4 l a)
  rw [l4_len h] at this
  exact this
theorem num4_u32 {l : List B8} {a : Nat} (h : a + 4 ≤ l.length) : ((de 0#64 (l4 l a)).setWidth 32).toNat = num4 l a := by
  have := num4_lt h
  rw [BitVec.toNat_setWidth]
  exact Nat.mod_eq_of_lt this
theorem be4_num {l : List B8} {a : Nat} (h : a + 4 ≤ l.length) : be4 (num4 l a) = l4 l a := by
  have h1 := be_de (l4 l a) (by rw [l4_len h]; decide)
  rw [l4_len h] at h1
  rw [be4, num4, BitVec.ofNat_toNat, BitVec.setWidth_eq, h1]
theorem be4_inj {x y : BitVec 32} (h : be 4 (x.setWidth 64) = be 4 (y.setWidth 64)) : x = y := by
  have h1 := congrArg (fun l => (de 0#64 l).toNat) h
  have ex := x.isLt
  have ey := y.isLt
  simp only [de_mod 4 _ (by decide), BitVec.toNat_setWidth] at h1
  have : (256 : Nat) ^ 4 = 4294967296 := by decide
  rw [this] at h1
  refine BitVec.eq_of_toNat_eq ?_
  omega
theorem sum4_be {l : List B8} {a n : Nat} (h : a + 8 + n ≤ l.length) : be 4 ((sum4 l a n).setWidth 64) = l4 l (a + 4 + n) := by
  have h4 : a + 4 + n + 4 ≤ l.length := by omega
  have h1 := be_de (l4 l (a + 4 + n)) (by rw [l4_len h4]; decide)
  rw [l4_len h4] at h1
  have h2 := num4_lt h4
  rw [sum4, wide_id (w := 32) _ h2, h1]
theorem takeF_le {l : List B8} {at' : Int} : (takeF l at').1.length ≤ 8192 ∧ (takeF l at').1.length ≤ l.length := by
  unfold takeF
  split
  · exact ⟨Nat.zero_le _, Nat.zero_le _⟩
  · split
    · exact ⟨Nat.zero_le _, Nat.zero_le _⟩
    · split
      · exact ⟨Nat.zero_le _, Nat.zero_le _⟩
      · rename_i h1 h2
        split
        · have := bod_len (l := l) (a := at'.toNat) (n := num4 l at'.toNat) (by omega)
          dsimp only
          omega
        · exact ⟨Nat.zero_le _, Nat.zero_le _⟩
end Go.Proofs.YtmochicneilhhaaGreat.fr
namespace Go.Proofs.YtmochicneilhhaaGreat
open Go.RowKit
theorem ret_tmp3 {P : Program} {t : Fr} {L : List Ck} {fn : Func} {d e g : Nat} {v u z : Value} (hr : fn.results = #[.tmp d, .tmp e, .tmp g]) (hd : lk t d = some (none, v)) (he : lk t e = some (none, u)) (hg : lk t g = some (none, z)) : RetIs P fn t L (.tuple #[v, u, z]) := fun n M a w hf hm => by
  have hd' := hf.tmpq hd
  have he' := hf.tmpq he
  have hg' := hf.tmpq hg
  simp [results, hr, hd', he', hg']
end Go.Proofs.YtmochicneilhhaaGreat
namespace Go.Proofs.YtmochicneilhhaaGreat.fr
open Go.RowKit Go.Proofs.YtmochicneilhhaaGreat.kit Go.Proofs.YtmochicneilhhaaGreat.pk Go.Proofs.YtmochicneilhhaaGreat.chk Go.Proofs.YtmochicneilhhaaGreat.crc
attribute [local irreducible] LX CX Yl Gives RetIs Fn
attribute [local irreducible] be de upd takeF num4 sum4
abbrev TakeP (l : List B8) (at' : Int) (v : Value) (Lo : List Ck) : Prop := ∃ A' c', v = .tuple #[.slice A' (takeF l at').1.length c', .int .i64 (takeF l at').2.1, .int .i64 (takeF l at').2.2] ∧ Lo = [.own A' (takeF l at').1.length c' 5 1 (bvs (takeF l at').1)]

set_option maxHeartbeats 4000000 in
theorem take_fn (A : Option Addr) (n c : Nat) (l : List B8) (at' : Int) (hl : l.length = n) (hc : n ≤ c ∧ c ≤ 9223372036854775807) (hn : n ≤ 1000000) (hat : -9223372036854775808 ≤ at' ∧ at' < 9223372036854775808) :
    Fn Tryz.prog 139 [.slice A n c, .int .i64 at'] [.ro A n 1 (bvs l)] [] (TakeP l at') := by
  subst hl
  refine fn_enter Tryz.func139 rfl rfl (by kernel_rfl) rfl ?_
  intro w0
  repeat (first | refine wz ?_ | (refine wzb ?_; intro b_) | fail)
  refine cx_cond rfl (fun h => ?_) (fun h => ?_)
  · have hT := takeF_more (l := l) (at' := at') (by simp at h; omega)
    repeat (first | refine wz ?_ | (refine wzb ?_; intro b_) | fail)
    exact bq_ret (ret_tmp3 rfl rfl rfl rfl) [_] ((Gives.nil _).trans (Gives.nilown [] 5 1)) rfl ⟨none, 0, by rw [hT]; rfl, by rw [hT]; rfl⟩
  have hb : 0 ≤ at' ∧ at' + 4 ≤ l.length := by simp at h; omega
  clear h
  obtain ⟨a, rfl⟩ : ∃ a : Nat, at' = a := ⟨at'.toNat, by omega⟩
  have ha : a + 4 ≤ l.length := by omega
  have e4 : a + 4 - a = 4 := by omega
  have hl4 := l4_len ha
  have hlt := num4_lt ha
  repeat (first | ((first | (apply lx_u; exact rfl) | (apply lx_g; exact rfl; exact rfl)); first | (apply isy_bin_add; exact yl_eq (q_add rfl rfl) (fun _ => congrArg (Value.int .i64) ((show (a : Int) + 4 = ((a + 4 : Nat) : Int) from rfl)))) | (apply isy_slice; exact yl_eq (q_sl rfl rfl rfl rfl rfl) (fun _ => congrArg (fun q => Value.slice (cutA A c a 1) q (c - a)) e4)) | fail) | refine wz ?_ | (refine wzb ?_; intro b_) | fail)
  refine lx_call0 (of_fn (cutA A c a 1) 4 (c - a) (l4 l a) hl4 (by omega) (by omega)) (fun w hm => in_ro (by have := Row.cutb (c := c) (row_ro 0 rfl hm) (lo := a) (hi := a + 4) (by omega) (by omega) (by omega); rwa [e4] at this) (in_nil hm) rfl) rfl rfl rfl rfl rfl rfl rfl rfl ?_
  rintro v_ Lo_ ⟨bp, Ap, cp, rfl, rfl⟩
  refine lx_fact (fun w hm => own_cap 1 hm rfl) fun hcp => ?_
  refine lx_weak (Gives.ownro 1 rfl) ?_
  have hu := u32_fn bp ⟨Ap, 4, cp, l4 l a, 0⟩ ⟨hl4, hcp.1, hcp.2⟩
  rw [Rs.got, if_pos (Rs.may_ok rfl (Nat.le_refl 4))] at hu
  dsimp only at hu
  rw [List.take_of_length_le (by omega), num4_u32 ha] at hu
  repeat (first | (refine isx_call ?_; refine k_call (hu) [0, 1] [0] [2] rfl rfl rfl rfl rfl rfl rfl rfl ?_; rintro v_ Lo_ ⟨rfl, rfl⟩) | refine wz ?_ | (refine wzb ?_; intro b_) | fail)
  refine cx_cond rfl (fun h => ?_) (fun h => ?_)
  · have hT := takeF_long ha (by simp at h; omega)
    repeat (first | refine wz ?_ | (refine wzb ?_; intro b_) | fail)
    exact bq_ret (ret_tmp3 rfl rfl rfl rfl) [_] ((Gives.nil _).trans (Gives.nilown [] 5 1)) rfl ⟨none, 0, by rw [hT]; rfl, by rw [hT]; rfl⟩
  have h8 : ¬ 8192 < num4 l a := by simp at h; omega
  clear h
  generalize hN : num4 l a = N at *
  repeat (first | ((first | (apply lx_u; exact rfl) | (apply lx_g; exact rfl; exact rfl)); first | (apply isy_convert; exact q_cn rfl rfl rfl) | fail) | refine wz ?_ | (refine wzb ?_; intro b_) | fail)
  refine cx_cond rfl (fun h => ?_) (fun h => ?_)
  · have hT := takeF_short ha (by rw [hN]; exact h8) (by rw [hN]; simp at h; omega)
    repeat (first | refine wz ?_ | (refine wzb ?_; intro b_) | fail)
    exact bq_ret (ret_tmp3 rfl rfl rfl rfl) [_] ((Gives.nil _).trans (Gives.nilown [] 5 1)) rfl ⟨none, 0, by rw [hT]; rfl, by rw [hT]; rfl⟩
  have hle : a + 8 + N ≤ l.length := by simp at h; omega
  clear h
  have eN : a + 4 + N - (a + 4) = N := by omega
  have e44 : a + 4 + N + 4 - (a + 4 + N) = 4 := by omega
  have hbl := bod_len (l := l) (a := a) (n := N) (by omega)
  have hl4' := l4_len (l := l) (a := a + 4 + N) (by omega)
  have hrb : ∀ w : World, ∀ B, Row w B 1 A l.length (bvs l) → Row w B 1 (cutA A c (a + 4) 1) N (bvs (bod l a N)) := fun w B hm => by
    have := Row.cutb (c := c) hm (lo := a + 4) (hi := a + 4 + N) (by omega) (by omega) (by omega)
    rwa [eN] at this
  have hrs : ∀ w : World, ∀ B, Row w B 1 A l.length (bvs l) → Row w B 1 (cutA A c (a + 4 + N) 1) 4 (bvs (l4 l (a + 4 + N))) := fun w B hm => by
    have := Row.cutb (c := c) hm (lo := a + 4 + N) (hi := a + 4 + N + 4) (by omega) (by omega) (by omega)
    rwa [e44] at this
  repeat (first | ((first | (apply lx_u; exact rfl) | (apply lx_g; exact rfl; exact rfl)); first | (apply isy_convert; exact q_cn rfl rfl rfl) | (apply isy_bin_add; exact yl_eq (q_add rfl rfl) (fun _ => congrArg (Value.int .i64) ((show (a : Int) + 4 = ((a + 4 : Nat) : Int) from rfl)))) | (apply isy_bin_add; exact yl_eq (q_add rfl rfl) (fun _ => congrArg (Value.int .i64) ((show ((a + 4 : Nat) : Int) + N = ((a + 4 + N : Nat) : Int) from rfl)))) | (apply isy_bin_add; exact yl_eq (q_add rfl rfl) (fun _ => congrArg (Value.int .i64) ((show ((a + 4 + N : Nat) : Int) + 4 = ((a + 4 + N + 4 : Nat) : Int) from rfl)))) | (apply isy_bin_sub; exact yl_eq (yl_sub rfl rfl (by first | exact fun _ => rfl | exact fun h => h | exact fun h => (Bool.and_eq_true_iff.1 h).1) (by first | exact fun _ => rfl | exact fun h => h | exact fun h => (Bool.and_eq_true_iff.1 h).1) (fun _ => by omega)) (fun _ => congrArg (Value.int .i64) (show ((a + 4 + N + 4 : Nat) : Int) - 4 = ((a + 4 + N : Nat) : Int) by omega))) | (apply isy_slice; exact yl_eq (q_sl rfl rfl rfl rfl rfl) (fun _ => congrArg (fun q => Value.slice (cutA A c (a + 4) 1) q (c - (a + 4))) eN)) | (apply isy_slice; exact yl_eq (q_sl rfl rfl rfl rfl rfl) (fun _ => congrArg (fun q => Value.slice (cutA A c (a + 4 + N) 1) q (c - (a + 4 + N))) e44)) | fail) | (refine isx_call ?_; (refine lx_call0 (clone_fn (cutA A c (a + 4) 1) N (c - (a + 4)) (bod l a N) hbl (by omega) (by omega)) ((fun w hm => in_ro (hrb w _ (row_ro 1 rfl hm)) (in_nil hm) rfl)) rfl rfl rfl rfl rfl rfl rfl rfl ?_; rintro v_ Lo_ ⟨A_, c_, rfl, rfl⟩)) | refine wz ?_ | (refine wzb ?_; intro b_) | fail)
  refine lx_fact (fun w hm => own_cap 0 hm rfl) fun hcb => ?_
  refine lx_call0 (of_fn (cutA A c (a + 4 + N) 1) 4 (c - (a + 4 + N)) (l4 l (a + 4 + N)) hl4' (by omega) (by omega)) (fun w hm => in_ro (hrs w _ (row_ro 2 rfl hm)) (in_nil hm) rfl) rfl rfl rfl rfl rfl rfl rfl rfl ?_
  rintro v_ Lo_ ⟨bq, Aq, cq, rfl, rfl⟩
  refine lx_fact (fun w hm => own_cap 1 hm rfl) fun hcq => ?_
  refine lx_weak (Gives.ownro 1 rfl) ?_
  have hu2 := u32_fn bq ⟨Aq, 4, cq, l4 l (a + 4 + N), 0⟩ ⟨hl4', hcq.1, hcq.2⟩
  rw [Rs.got, if_pos (Rs.may_ok rfl (Nat.le_refl 4))] at hu2
  dsimp only at hu2
  rw [List.take_of_length_le (by omega), show (de 0#64 (l4 l (a + 4 + N))).setWidth 32 = sum4 l a N by unfold sum4; rfl] at hu2
  have his := is_fn A_ N c_ (bod l a N) (sum4 l a N) hcb
  repeat (first | (refine isx_call ?_; refine k_call (hu2) [0, 1] [0] [2, 3, 4] rfl rfl rfl rfl rfl rfl rfl rfl ?_; rintro v_ Lo_ ⟨rfl, rfl⟩) | (refine isx_call ?_; refine k_gcall (his) ((fun w hm => in_ro (row_own 1 rfl hm) (in_nil hm) rfl)) rfl rfl rfl rfl rfl rfl ?_) | refine wz ?_ | (refine wzb ?_; intro b_) | fail)
  refine cx_cond rfl (fun h => ?_) (fun h => ?_)
  · have hT := takeF_bad (by rw [hN]; exact h8) (by rw [hN]; omega) (by rw [hN]; simpa using h)
    rw [hN] at hT
    repeat (first | refine wz ?_ | (refine wzb ?_; intro b_) | fail)
    exact bq_ret (ret_tmp3 rfl rfl rfl rfl) [_] ((Gives.nil _).trans (Gives.nilown [] 5 1)) rfl ⟨none, 0, by rw [hT, show a + 8 + N = a + 4 + N + 4 by omega]; rfl, by rw [hT]; rfl⟩
  have hT := takeF_good (by rw [hN]; exact h8) (by rw [hN]; omega) (by rw [hN]; simpa using h)
  rw [hN] at hT
  repeat (first | refine wz ?_ | (refine wzb ?_; intro b_) | fail)
  exact bq_ret (ret_tmp3 rfl rfl rfl rfl) [_] (Gives.pick [1] (by decide) rfl) rfl ⟨A_, c_, by rw [hT, show a + 8 + N = a + 4 + N + 4 by omega, hbl], by rw [hT, hbl]⟩

end Go.Proofs.YtmochicneilhhaaGreat.fr
namespace Go.Proofs.YtmochicneilhhaaGreat.fr
open Go.RowKit Go.Proofs.YtmochicneilhhaaGreat.kit Go.Proofs.YtmochicneilhhaaGreat.pk Go.Proofs.YtmochicneilhhaaGreat.chk Go.Proofs.YtmochicneilhhaaGreat.crc
attribute [local irreducible] LX CX Yl Gives RetIs Fn
attribute [local irreducible] be de upd takeF num4 sum4 frm

end Go.Proofs.YtmochicneilhhaaGreat.fr
