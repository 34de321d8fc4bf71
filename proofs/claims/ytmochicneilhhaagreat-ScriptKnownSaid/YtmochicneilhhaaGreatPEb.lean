/- packed numbers and texts: the reader beside the reference's. packed numbers and texts, plainly: what is put is taken as it was, and what is taken was put so. events: the functions of an operation. events: right, and packed. -/
import Derived.Test.YtmochicneilhhaaGreatPGo
import Derived.Test.YtmochicneilhhaaGreatPPkc
namespace Go.Proofs.YtmochicneilhhaaGreat.pk
open Go.RowKit Go.Proofs.YtmochicneilhhaaGreat.kit
/-- a reader stands where the reference does -/
structure Rel (l : List B8) (r : Rs) (at' : Nat) (f : Bool) : Prop where
  ok : r.Ok
  left : r.l = l.drop at'
  le : at' ≤ l.length
  err : r.e = if f = true then 20 else 0
theorem Rel.n {l : List B8} {r : Rs} {at' : Nat} {f : Bool} (h : Rel l r at' f) : r.n = l.length - at' := by
  rw [← h.ok.len, h.left, List.length_drop]
theorem Rel.start (A : Option Addr) (n c : Nat) (l : List B8) (hl : l.length = n) (hc : n ≤ c ∧ c ≤ 9223372036854775807) : Rel l ⟨A, n, c, l, 0⟩ 0 false := ⟨⟨hl, hc.1, hc.2⟩, rfl, Nat.zero_le _, rfl⟩
theorem Rel.num {l : List B8} {r : Rs} {at' : Nat} {f : Bool} (h : Rel l r at' f) (k : Nat) : Rel l (r.adv k) (rTake l at' f k).2.1 (rTake l at' f k).2.2 ∧ de 0#64 (r.got k) = (rTake l at' f k).1 := by
  have hn := h.n
  have hle := h.le
  cases f with
  | true =>
    have he : r.e ≠ 0 := by rw [h.err]; decide
    rw [Rs.adv_err k he, Rs.got, if_neg (by rw [Rs.may_err he]; simp), rTake, if_pos (.inl rfl)]
    exact ⟨⟨h.ok, h.left, h.le, h.err⟩, rfl⟩
  | false =>
    have he : r.e = 0 := h.err
    by_cases hk : k ≤ r.n
    · rw [Rs.got, if_pos (Rs.may_ok he hk), rTake, if_neg (by simp; omega)]
      refine ⟨⟨h.ok.adv k, ?_, by dsimp only; omega, ?_⟩, by rw [h.left]⟩
      · rw [Rs.adv_ok he hk]
        dsimp only
        rw [h.left, List.drop_drop]
      · rw [Rs.adv_ok he hk]
        rfl
    · rw [Rs.got, if_neg (by rw [Rs.may_short (by omega)]; simp), rTake, if_pos (.inr (by omega))]
      refine ⟨⟨h.ok.adv k, ?_, h.le, ?_⟩, rfl⟩
      · rw [Rs.adv_short he (by omega)]
        exact h.left
      · rw [Rs.adv_short he (by omega)]
        rfl
theorem Rs.got_le (r : Rs) (k : Nat) : (r.got k).length ≤ k := by
  unfold Rs.got
  split
  · rw [List.length_take]; omega
  · simp
theorem got_lt (r : Rs) (k : Nat) : (de 0#64 (r.got k)).toNat < 256 ^ k := Nat.lt_of_lt_of_le (de_lt _) (Nat.pow_le_pow_right (by decide) (r.got_le k))
theorem wide_id {w : Nat} (x : BitVec 64) (h : x.toNat < 2 ^ w) : (x.setWidth w).setWidth 64 = x := by
  apply BitVec.eq_of_toNat_eq
  rw [BitVec.toNat_setWidth, BitVec.toNat_setWidth, Nat.mod_eq_of_lt h, Nat.mod_eq_of_lt x.isLt]
theorem Rs.textN_eq (r : Rs) : r.textN = (de 0#64 (r.got 2)).toNat := by
  have := got_lt r 2
  rw [Rs.textN, BitVec.toNat_setWidth, Nat.mod_eq_of_lt (Nat.lt_of_lt_of_le this (by decide))]
theorem Rel.text {l : List B8} {r : Rs} {at' : Nat} {f : Bool} (h : Rel l r at' f) : Rel l r.textTo (rText l at' f).2.1 (rText l at' f).2.2 ∧ r.text = (rText l at' f).1 := by
  obtain ⟨h2, hd⟩ := h.num 2
  have hN := r.textN_eq
  rw [hd] at hN
  have ha := rTake_at l at' f 2
  have hE : ((r.adv 2).adv r.textN).e = if (r.adv 2).may r.textN = true then 0 else 20 := by
    by_cases he : (r.adv 2).e = 0
    · by_cases hk : r.textN ≤ (r.adv 2).n
      · rw [Rs.adv_ok he hk, Rs.may_ok he hk]; rfl
      · rw [Rs.adv_short he (by omega), Rs.may_short (by omega)]; rfl
    · rw [Rs.adv_err _ he, Rs.may_err he]
      have := h2.err
      split at this
      · rw [this]; rfl
      · exact absurd this he
  unfold rText Rs.text
  by_cases hm : (r.adv 2).may r.textN = true
  · have hm' := hm
    simp only [Rs.may, Bool.and_eq_true, decide_eq_true_eq] at hm'
    have hf : (rTake l at' f 2).2.2 = false := by
      have := h2.err
      rw [hm'.1] at this
      cases hq : (rTake l at' f 2).2.2
      · rfl
      · rw [hq] at this; simp at this
    have hlen := h2.n
    have hle := h2.le
    rw [if_neg (by rw [hf]; simp; omega), Rs.textTo, if_pos hm, Rs.got, if_pos hm, h2.left, hN]
    refine ⟨⟨h2.ok.adv _, ?_, by dsimp only; omega, ?_⟩, rfl⟩
    · rw [Rs.adv_ok hm'.1 (by omega)]
      dsimp only
      rw [h2.left, List.drop_drop]
    · rw [← hN, hE, if_pos hm]
      rfl
  · have hc : (rTake l at' f 2).2.2 = true ∨ l.length < (rTake l at' f 2).2.1 + (rTake l at' f 2).1.toNat := by
      by_cases hf : (rTake l at' f 2).2.2 = true
      · exact .inl hf
      · right
        have he : (r.adv 2).e = 0 := by rw [h2.err, if_neg hf]
        rcases Nat.lt_or_ge (r.adv 2).n r.textN with hk | hk
        · have := h2.n
          have := h2.le
          omega
        · exact absurd (Rs.may_ok he hk) hm
    rw [if_pos hc, Rs.textTo, if_neg hm, Rs.got, if_neg hm]
    refine ⟨⟨⟨h.ok.len, h.ok.cap, h.ok.max⟩, h.left, h.le, ?_⟩, rfl⟩
    dsimp only
    rw [hE, if_neg hm]
    rfl
def Der (r r' : Rs) : Prop := ∀ (L : List Ck) (i : Nat), L[i]? = some r.ro → Gives L (r'.ro :: L)
theorem Rs.Ok.der {r : Rs} (h : r.Ok) (k : Nat) : Der r (r.adv k) := fun _ i hi => h.gives i k hi
theorem Rs.Ok.derText {r : Rs} (h : r.Ok) : Der r r.textTo := by
  intro L i hi
  unfold Rs.textTo
  split
  · have h1 := h.gives i 2 hi
    have h2 := (h.adv 2).gives 0 r.textN (L := (r.adv 2).ro :: L) rfl
    have h3 : Gives (((r.adv 2).adv r.textN).ro :: (r.adv 2).ro :: L) (((r.adv 2).adv r.textN).ro :: L) := by
      intro M w hm
      exact ⟨hm.keep, fun c hc => hm.all c (by
        rcases List.mem_cons.1 hc with rfl | hc
        · exact List.mem_cons_self ..
        · exact List.mem_cons_of_mem _ (List.mem_cons_of_mem _ hc)), fun c hc => hm.out c (by
        rcases List.mem_cons.1 hc with rfl | hc
        · exact List.mem_cons_self ..
        · exact List.mem_cons_of_mem _ (List.mem_cons_of_mem _ hc)), by
        have s1 := List.pairwise_cons.1 hm.sep
        have s2 := List.pairwise_cons.1 s1.2
        exact List.Pairwise.cons (fun c hc => s1.1 c (List.mem_cons_of_mem _ hc)) s2.2⟩
    exact (h1.trans h2).trans h3
  · exact Gives.add i hi rfl rfl fun _ h => ⟨h, fun _ hb => hb⟩
theorem Rel.done {l : List B8} {r : Rs} {at' : Nat} {f : Bool} (h : Rel l r at' f) : r.done = rDoneN l.length at' f := by
  have hn := h.n
  unfold Rs.done rDoneN
  cases f with
  | true => rw [if_pos (by rw [h.err]; decide), if_pos rfl, h.err]; rfl
  | false =>
    have he : r.e = 0 := h.err
    rw [if_neg (show ¬ r.e ≠ 0 by simp [he]), if_neg (show ¬ (false = true) by simp)]
    by_cases h0 : r.n = 0
    · rw [if_pos h0, if_neg (by have := h.le; omega)]
    · rw [if_neg h0, if_pos (by omega)]
end Go.Proofs.YtmochicneilhhaaGreat.pk
namespace Go.Proofs.YtmochicneilhhaaGreat.pk
open Go.RowKit Go.Proofs.YtmochicneilhhaaGreat.kit
theorem dn_inj : ∀ (l m : List B8) (a b : Nat), l.length = m.length → dn a l = dn b m → a = b ∧ l = m
  | [], [], _, _, _, h => ⟨h, rfl⟩
  | c :: l, d :: m, a, b, hl, h => by
    obtain ⟨h1, h2⟩ := dn_inj l m (a * 256 + c.toNat) (b * 256 + d.toNat) (by simpa using hl) h
    have hc := c.isLt
    have hd := d.isLt
    have e : c.toNat = d.toNat := by omega
    exact ⟨by omega, by rw [BitVec.eq_of_toNat_eq e, h2]⟩
theorem be_de (l : List B8) (hl : l.length ≤ 8) : be l.length (de 0#64 l) = l := by
  refine (dn_inj _ _ 0 0 (be_len _ _) ?_).2
  have h1 := dn_lt l 0
  have hp : (256 : Nat) ^ l.length ≤ 2 ^ 64 := Nat.le_trans (Nat.pow_le_pow_right (by decide) hl) (by decide)
  rw [dn_be, de_dn l 0#64 0 rfl, Nat.zero_mul, Nat.zero_add, Nat.mod_eq_of_lt (a := dn 0 l) (by omega), Nat.mod_eq_of_lt (by omega)]
theorem de_mod (k : Nat) (x : BitVec 64) (hk : k ≤ 8) : (de 0#64 (be k x)).toNat = x.toNat % 256 ^ k := by
  rw [de_dn (be k x) 0#64 0 rfl, dn_be, Nat.zero_mul, Nat.zero_add, Nat.mod_eq_of_lt]
  refine Nat.lt_of_le_of_lt (Nat.mod_le _ _) x.isLt
end Go.Proofs.YtmochicneilhhaaGreat.pk
namespace Go.Proofs.YtmochicneilhhaaGreat.ev
open Go.RowKit Go.Proofs.YtmochicneilhhaaGreat.kit Go.Proofs.YtmochicneilhhaaGreat.pk
section
variable {P : Program} {n : Nat} {M : Me} {Q : Post} {t : Fr} {L : List Ck}
/-- an element of an array's value -/
theorem yl_arr {E : Env P} {p c1 c2 : Option Bool} {dst : Option Tmp} {T e : TypeId} {X Y : Operand} {ty : TypeId} {pos : String} {after : Array Edge} {guard : Option (Nat × Bool)} {cs : Array Value} {κ : IntKind} {iv : Int} {m : Nat} {j : TyI} {v : Value}
    (hx : ov t X = some (c1, .agg cs)) (hy : ov t Y = some (c2, .int κ iv)) (hT : tyOf E.f T = .array m e) (he : E.f e = some j) (hv : evPart E.f e cs.toList (iv.toNat * j.size) = some v) (hi : 0 ≤ iv ∧ iv < m) (h1 : cb p = true → cb c1 = true) (h2 : cb p = true → cb c2 = true) :
    Yl P n t L p ⟨dst, .index T X Y, ty, pos, after, guard⟩ v := fun hp M a w hf hm => by
  have hu := run_underlying (P := P) (tyOf_array hT) w
  have hs := E.size he w
  have hr := run_part he hv w
  unfold execOp
  refine run_v ?_
  simp [hf.ov hx (h1 hp), hf.ov hy (h2 hp), Instr.index, asIntOf, hu, hi, hs, hr]
end
structure EOp where
  k : B8
  key : List B8
  t : Int
  v : Int
abbrev EOp.cells (o : EOp) : List Value := [.int .u8 o.k.toNat, .string (sb o.key), .int .i64 o.t, .int .i64 o.v]
abbrev EOp.val (o : EOp) : Value := .agg #[.int .u8 o.k.toNat, .string (sb o.key), .int .i64 o.t, .int .i64 o.v]
attribute [local irreducible] LX CX Yl Gives RetIs Fn
attribute [local irreducible] be de
theorem eOf_fn (s : List B8) (t v : Int) : Fn Tryz.prog 32 [.string (sb s), .int .i64 t, .int .i64 v] [] [] fun u Lo => u = EOp.val ⟨1#8, s, t, v⟩ ∧ Lo = [] := by
  refine fn_enter Tryz.func32 rfl rfl (by kernel_rfl) rfl ?_
  intro w0
  repeat (first | refine wz ?_ | (refine wzb ?_; intro b_) | fail)
  exact bq_ret (ret_cell (E := EV) 0 rfl rfl rfl rfl (fun _ => Nat.le_of_ble_eq_true rfl) rfl) [] (Gives.nil _) rfl ⟨rfl, rfl⟩
theorem eAt_fn (t : Int) : Fn Tryz.prog 31 [.int .i64 t] [] [] fun u Lo => u = EOp.val ⟨2#8, [], t, 0⟩ ∧ Lo = [] := by
  refine fn_enter Tryz.func31 rfl rfl (by kernel_rfl) rfl ?_
  intro w0
  repeat (first | refine wz ?_ | (refine wzb ?_; intro b_) | fail)
  exact bq_ret (ret_cell (E := EV) 0 rfl rfl rfl rfl (fun _ => Nat.le_of_ble_eq_true rfl) rfl) [] (Gives.nil _) rfl ⟨rfl, rfl⟩
theorem mayEvent_fn (o : EOp) (hl : o.key.length ≤ 9223372036854775807) : Fn Tryz.prog 112 [o.val] [] [] fun u Lo => u = .bool (decide (o.key ≠ [] ∧ o.key.length ≤ 32)) ∧ Lo = [] := by
  refine fn_enter Tryz.func112 rfl rfl (by kernel_rfl) rfl ?_
  intro w0
  by_cases h : o.key = []
  · repeat (first | ((first | (apply lx_gt; exact rfl; exact rfl; exact rfl) | (apply lx_u; exact rfl) | (apply lx_g; exact rfl; exact rfl)); first | (apply isy_bin_neq; exact yl_false (q_sne o.key [] rfl rfl) (fun _ => (by simp [h]))) | fail) | refine wzf ?_ | (refine wzb ?_; intro b_) | fail)
    exact bq_ret (ret_tmp rfl rfl) [] (Gives.nil _) rfl ⟨by simp [h], rfl⟩
  · repeat (first | ((first | (apply lx_gt; exact rfl; exact rfl; exact rfl) | (apply lx_u; exact rfl) | (apply lx_g; exact rfl; exact rfl)); first | (apply isy_bin_neq; exact yl_true (q_sne o.key [] rfl rfl) (fun _ => by simp [h])) | (apply isy_blt; exact q_slen rfl rfl) | fail) | refine wzt ?_ | (refine wzb ?_; intro b_) | fail)
    exact bq_ret (ret_tmp rfl rfl) [] (Gives.nil _) rfl ⟨by congr 1; simp [h]; omega, rfl⟩
abbrev fv (f : FuncId) : Value := .func (.func f) #[] #[]
abbrev sortE : Value := .agg #[fv 110, fv 111, fv 112]
abbrev sortM : Value := .agg #[fv 113, fv 114, fv 115]
abbrev sortN : Value := .agg #[.nilFunc, .nilFunc, .nilFunc]
theorem sorts_fn : Fn Tryz.prog 88 [] [] [] fun u Lo => u = .agg #[.nilFunc, .nilFunc, .nilFunc, fv 110, fv 111, fv 112, fv 113, fv 114, fv 115] ∧ Lo = [] := by
  refine fn_enter Tryz.func88 rfl rfl (by kernel_rfl) rfl ?_
  intro w0
  repeat (first | refine wz ?_ | (refine wzb ?_; intro b_) | fail)
  exact bq_ret (ret_cell (E := EV) 0 rfl rfl rfl rfl (fun _ => Nat.le_of_ble_eq_true rfl) rfl) [] (Gives.nil _) rfl ⟨rfl, rfl⟩
theorem of1_fn : Fn Tryz.prog 51 [.int .u8 1] [] [] fun u Lo => u = .tuple #[sortE, .bool true] ∧ Lo = [] := by
  refine fn_enter Tryz.func51 rfl rfl (by kernel_rfl) rfl ?_
  intro w0
  repeat (first | ((first | (apply lx_gt; exact rfl; exact rfl; exact rfl) | (apply lx_u; exact rfl) | (apply lx_g; exact rfl; exact rfl)); first | (apply isy_bin; exact yl_false (yl_op (E := EV) rfl) (fun _ => (by decide))) | fail) | refine wzf ?_ | (refine wzb ?_; intro b_) | fail)
  refine cx_cond rfl (fun h => absurd h (by decide)) (fun _ => ?_)
  repeat (first | ((first | (apply lx_gt; exact rfl; exact rfl; exact rfl) | (apply lx_u; exact rfl) | (apply lx_g; exact rfl; exact rfl)); first | exact yl_arr (E := EV) rfl rfl rfl rfl rfl (by decide) (by first | exact fun _ => rfl | exact fun h => h | exact fun h => (Bool.and_eq_true_iff.1 h).1) (by first | exact fun _ => rfl | exact fun h => h | exact fun h => (Bool.and_eq_true_iff.1 h).1) | fail) | (refine isx_call ?_; refine lx_gcallt (sorts_fn) (fun _ hm => in_nil hm) rfl rfl rfl rfl rfl rfl rfl ?_) | refine wzf ?_ | (refine wzb ?_; intro b_) | fail)
  exact bq_ret (ret_cell_tmp (E := EV) 0 rfl rfl rfl rfl rfl (fun _ => Nat.le_of_ble_eq_true rfl) rfl) [] (Gives.nil _) rfl ⟨rfl, rfl⟩
theorem of2_fn : Fn Tryz.prog 51 [.int .u8 2] [] [] fun u Lo => u = .tuple #[sortM, .bool true] ∧ Lo = [] := by
  refine fn_enter Tryz.func51 rfl rfl (by kernel_rfl) rfl ?_
  intro w0
  repeat (first | ((first | (apply lx_gt; exact rfl; exact rfl; exact rfl) | (apply lx_u; exact rfl) | (apply lx_g; exact rfl; exact rfl)); first | (apply isy_bin; exact yl_false (yl_op (E := EV) rfl) (fun _ => (by decide))) | fail) | refine wzf ?_ | (refine wzb ?_; intro b_) | fail)
  refine cx_cond rfl (fun h => absurd h (by decide)) (fun _ => ?_)
  repeat (first | ((first | (apply lx_gt; exact rfl; exact rfl; exact rfl) | (apply lx_u; exact rfl) | (apply lx_g; exact rfl; exact rfl)); first | exact yl_arr (E := EV) rfl rfl rfl rfl rfl (by decide) (by first | exact fun _ => rfl | exact fun h => h | exact fun h => (Bool.and_eq_true_iff.1 h).1) (by first | exact fun _ => rfl | exact fun h => h | exact fun h => (Bool.and_eq_true_iff.1 h).1) | fail) | (refine isx_call ?_; refine lx_gcallt (sorts_fn) (fun _ hm => in_nil hm) rfl rfl rfl rfl rfl rfl rfl ?_) | refine wzf ?_ | (refine wzb ?_; intro b_) | fail)
  exact bq_ret (ret_cell_tmp (E := EV) 0 rfl rfl rfl rfl rfl (fun _ => Nat.le_of_ble_eq_true rfl) rfl) [] (Gives.nil _) rfl ⟨rfl, rfl⟩
theorem of0_fn (k : B8) (h1 : k ≠ 1#8) (h2 : k ≠ 2#8) : Fn Tryz.prog 51 [.int .u8 k.toNat] [] [] fun u Lo => u = .tuple #[sortN, .bool false] ∧ Lo = [] := by
  have e1 : k.toNat ≠ 1 := fun h => h1 (BitVec.eq_of_toNat_eq h)
  have e2 : k.toNat ≠ 2 := fun h => h2 (BitVec.eq_of_toNat_eq h)
  refine fn_enter Tryz.func51 rfl rfl (by kernel_rfl) rfl ?_
  intro w0
  by_cases h : k.toNat < 1
  · have ht : decide ((k.toNat : Int) < 1) = true := by simp; omega
    repeat (first | ((first | (apply lx_gt; exact rfl; exact rfl; exact rfl) | (apply lx_u; exact rfl) | (apply lx_g; exact rfl; exact rfl)); first | (apply isy_bin; exact yl_true (yl_op (E := EV) rfl) (fun _ => ht)) | fail) | refine wzf ?_ | (refine wzb ?_; intro b_) | fail)
    refine cx_cond rfl (fun _ => ?_) (fun h => absurd h (by decide))
    repeat (first | refine wzf ?_ | (refine wzb ?_; intro b_) | fail)
    exact bq_ret (ret_cell_tmp (E := EV) 0 rfl rfl rfl rfl rfl (fun _ => Nat.le_of_ble_eq_true rfl) rfl) [] (Gives.nil _) rfl ⟨rfl, rfl⟩
  have hf : decide ((k.toNat : Int) < 1) = false := by simp; omega
  have ht : decide ((k.toNat : Int) > 2) = true := by simp; omega
  repeat (first | ((first | (apply lx_gt; exact rfl; exact rfl; exact rfl) | (apply lx_u; exact rfl) | (apply lx_g; exact rfl; exact rfl)); first | (apply isy_bin; exact yl_false (yl_op (E := EV) rfl) (fun _ => hf)) | (apply isy_bin; exact yl_true (yl_op (E := EV) rfl) (fun _ => ht)) | fail) | refine wzf ?_ | (refine wzb ?_; intro b_) | fail)
  refine cx_cond rfl (fun _ => ?_) (fun h => absurd h (by decide))
  repeat (first | refine wzf ?_ | (refine wzb ?_; intro b_) | fail)
  exact bq_ret (ret_cell_tmp (E := EV) 0 rfl rfl rfl rfl rfl (fun _ => Nat.le_of_ble_eq_true rfl) rfl) [] (Gives.nil _) rfl ⟨rfl, rfl⟩
theorem sb_iff (l m : List B8) : (sb l).toList = (sb m).toList ↔ l = m := by
  have := sb_beq l m
  rw [Bool.eq_iff_iff, beq_iff_eq, beq_iff_eq] at this
  exact this
def EOp.eqB (a b : EOp) : Bool := (a.k.toNat : Int) == (b.k.toNat : Int) && (a.key == b.key && (a.t == b.t && a.v == b.v))
theorem op_eq (a b : EOp) (w : World) : (binOp .eql 44 a.val b.val).run Tryz.prog w = .ok (.bool (a.eqB b)) w := by
  unfold EOp.eqB
  go_simp
  simp only [sb_iff]
  (repeat' split) <;> simp_all
theorem op_eq_g : Tryz.prog.eqGuardType Tryz.prog.depth 44 = false := by kernel_rfl
theorem rop_eq (a b : EOp) (w : World) : (binOp .eql 66 a.val b.val).run Tryz.prog w = .ok (.bool (a.eqB b)) w := by
  unfold EOp.eqB
  go_simp
  simp only [sb_iff]
  (repeat' split) <;> simp_all
theorem rop_eq_g : Tryz.prog.eqGuardType Tryz.prog.depth 66 = false := by kernel_rfl
theorem mayMark_fn (o : EOp) : Fn Tryz.prog 115 [o.val] [] [] fun u Lo => u = .bool (o.eqB ⟨2#8, [], o.t, 0⟩) ∧ Lo = [] := by
  refine fn_enter Tryz.func115 rfl rfl (by kernel_rfl) rfl ?_
  intro w0
  repeat (first | refine wz ?_ | (refine wzb ?_; intro b_) | fail)
  refine cx_draw [3] [.blk b_ o.cells 44] rfl (by kernel_rfl) (Gives.refl _) ?_
  repeat (first | ((first | (apply lx_u; exact rfl) | (apply lx_g; exact rfl; exact rfl)); first | (apply isy_load; exact q_lr 0 rfl rfl rfl rfl rfl) | (apply isy_bin_eql; exact yl_eqs op_eq_g rfl rfl (fun w => op_eq o ⟨2#8, [], o.t, 0⟩ w) (by first | exact fun _ => rfl | exact fun h => h | exact fun h => (Bool.and_eq_true_iff.1 h).1) (by first | exact fun _ => rfl | exact fun h => h | exact fun h => (Bool.and_eq_true_iff.1 h).1)) | fail) | (refine isx_call ?_; refine k_gcall (eAt_fn o.t) (fun _ hm => in_nil hm) rfl rfl rfl rfl rfl rfl ?_) | refine wz ?_ | (refine wzb ?_; intro b_) | fail)
  exact bq_ret (ret_tmp rfl rfl) [] (Gives.nil _) rfl ⟨rfl, rfl⟩
end Go.Proofs.YtmochicneilhhaaGreat.ev
namespace Go.Proofs.YtmochicneilhhaaGreat.ev
open Go.RowKit Go.Proofs.YtmochicneilhhaaGreat.kit Go.Proofs.YtmochicneilhhaaGreat.pk
def EOp.bad (o : EOp) : Prop := (o.k = 1#8 ∧ (o.key = [] ∨ 32 < o.key.length)) ∨ (o.k = 2#8 ∧ (o.key ≠ [] ∨ o.v ≠ 0))
instance (o : EOp) : Decidable o.bad := by unfold EOp.bad; infer_instance
def EOp.late (o : EOp) : Prop := o.t < -1099511627776 ∨ 1099511627776 < o.t
instance (o : EOp) : Decidable o.late := by unfold EOp.late; infer_instance
/-- is it right -/
def EOp.right (o : EOp) : Int := if o.k ≠ 1#8 ∧ o.k ≠ 2#8 then 80 else if o.bad then 60 else if o.late then 61 else 0
theorem EOp.right80 {o : EOp} (h : o.k ≠ 1#8 ∧ o.k ≠ 2#8) : o.right = 80 := if_pos h
theorem EOp.right60 {o : EOp} (h : ¬ (o.k ≠ 1#8 ∧ o.k ≠ 2#8)) (h1 : o.bad) : o.right = 60 := by rw [EOp.right, if_neg h, if_pos h1]
theorem EOp.right61 {o : EOp} (h : ¬ (o.k ≠ 1#8 ∧ o.k ≠ 2#8)) (h1 : ¬ o.bad) (h2 : o.late) : o.right = 61 := by rw [EOp.right, if_neg h, if_neg h1, if_pos h2]
theorem EOp.right0 {o : EOp} (h : ¬ (o.k ≠ 1#8 ∧ o.k ≠ 2#8)) (h1 : ¬ o.bad) (h2 : ¬ o.late) : o.right = 0 := by rw [EOp.right, if_neg h, if_neg h1, if_neg h2]
theorem bad1 (s : List B8) (t v : Int) : (EOp.mk 1#8 s t v).bad ↔ ¬ (s ≠ [] ∧ s.length ≤ 32) := by
  simp only [EOp.bad]
  by_cases h : s = []
  · simp [h]
  · simp [h]
theorem bad2 (s : List B8) (t v : Int) : (EOp.mk 2#8 s t v).bad ↔ ¬ ((EOp.mk 2#8 s t v).eqB ⟨2#8, [], t, 0⟩ = true) := by
  simp [EOp.bad, EOp.eqB]
  by_cases h : s = []
  · simp [h]
  · simp [h]
attribute [local irreducible] LX CX Yl Gives RetIs Fn
attribute [local irreducible] be de
theorem mayE_fn (s : List B8) (t v : Int) (hl : s.length ≤ 9223372036854775807) : Fn Tryz.prog 112 [EOp.val ⟨1#8, s, t, v⟩] [] [] fun u Lo => u = .bool (decide (¬ (EOp.mk 1#8 s t v).bad)) ∧ Lo = [] :=
  (mayEvent_fn ⟨1#8, s, t, v⟩ hl).mono fun _ _ ⟨h1, h2⟩ => ⟨by rw [h1]; congr 1; rw [decide_eq_decide, bad1, Classical.not_not], h2⟩
theorem mayM_fn (s : List B8) (t v : Int) (_ : s.length ≤ 9223372036854775807) : Fn Tryz.prog 115 [EOp.val ⟨2#8, s, t, v⟩] [] [] fun u Lo => u = .bool (decide (¬ (EOp.mk 2#8 s t v).bad)) ∧ Lo = [] :=
  (mayMark_fn ⟨2#8, s, t, v⟩).mono fun _ _ ⟨h1, h2⟩ => ⟨by rw [h1]; congr 1; rw [Bool.eq_iff_iff, decide_eq_true_iff, bad2, Classical.not_not], h2⟩
theorem right1_fn (s : List B8) (t v : Int) (hl : s.length ≤ 9223372036854775807) : Fn Tryz.prog 21 [EOp.val ⟨1#8, s, t, v⟩] [] [] fun u Lo => u = .int .i64 (EOp.right ⟨1#8, s, t, v⟩) ∧ Lo = [] := by
  have hk : ¬ ((EOp.mk 1#8 s t v).k ≠ 1#8 ∧ (EOp.mk 1#8 s t v).k ≠ 2#8) := by simp
  have hm := mayE_fn s t v hl
  refine fn_enter Tryz.func21 rfl rfl (by kernel_rfl) rfl ?_
  intro w0
  by_cases hb : (EOp.mk 1#8 s t v).bad
  · rw [decide_eq_false (Classical.not_not.2 hb)] at hm
    repeat (first | (refine isx_call ?_; refine lx_gcallt (of1_fn) (fun _ hm => in_nil hm) rfl rfl rfl rfl rfl rfl rfl ?_) | refine wzf ?_ | (refine wzb ?_; intro b_) | fail)
    refine cx_cond rfl (fun h => absurd h (by decide)) (fun _ => ?_)
    repeat (first | (refine isx_call ?_; refine lx_gcallt (hm) (fun _ hm => in_nil hm) rfl rfl rfl rfl rfl rfl rfl ?_) | refine wzf ?_ | (refine wzb ?_; intro b_) | fail)
    refine cx_cond rfl (fun _ => ?_) (fun h => absurd h (by decide))
    repeat (first | refine wzf ?_ | (refine wzb ?_; intro b_) | fail)
    exact bq_ret (ret_tmp rfl rfl) [] (Gives.nil _) rfl ⟨by rw [EOp.right60 hk hb], rfl⟩
  rw [decide_eq_true hb] at hm
  repeat (first | (refine isx_call ?_; refine lx_gcallt (of1_fn) (fun _ hm => in_nil hm) rfl rfl rfl rfl rfl rfl rfl ?_) | refine wzf ?_ | (refine wzb ?_; intro b_) | fail)
  refine cx_cond rfl (fun h => absurd h (by decide)) (fun _ => ?_)
  repeat (first | (refine isx_call ?_; refine lx_gcallt (hm) (fun _ hm => in_nil hm) rfl rfl rfl rfl rfl rfl rfl ?_) | refine wzf ?_ | (refine wzb ?_; intro b_) | fail)
  refine cx_cond rfl (fun h => absurd h (by decide)) (fun _ => ?_)
  by_cases h1 : t < -1099511627776
  · repeat (first | ((first | (apply lx_gt; exact rfl; exact rfl; exact rfl) | (apply lx_u; exact rfl) | (apply lx_g; exact rfl; exact rfl)); first | (apply isy_bin; exact yl_true (yl_op (E := EV) rfl) (fun _ => (decide_eq_true h1))) | fail) | refine wzf ?_ | (refine wzb ?_; intro b_) | fail)
    refine cx_cond rfl (fun _ => ?_) (fun h => absurd h (by decide))
    repeat (first | refine wzf ?_ | (refine wzb ?_; intro b_) | fail)
    exact bq_ret (ret_tmp rfl rfl) [] (Gives.nil _) rfl ⟨by rw [EOp.right61 hk hb (.inl h1)], rfl⟩
  by_cases h2 : 1099511627776 < t
  · repeat (first | ((first | (apply lx_gt; exact rfl; exact rfl; exact rfl) | (apply lx_u; exact rfl) | (apply lx_g; exact rfl; exact rfl)); first | (apply isy_bin; exact yl_false (yl_op (E := EV) rfl) (fun _ => (decide_eq_false h1))) | (apply isy_bin; exact yl_true (yl_op (E := EV) rfl) (fun _ => (decide_eq_true h2))) | fail) | refine wzf ?_ | (refine wzb ?_; intro b_) | fail)
    refine cx_cond rfl (fun _ => ?_) (fun h => absurd h (by decide))
    repeat (first | refine wzf ?_ | (refine wzb ?_; intro b_) | fail)
    exact bq_ret (ret_tmp rfl rfl) [] (Gives.nil _) rfl ⟨by rw [EOp.right61 hk hb (.inr h2)], rfl⟩
  repeat (first | ((first | (apply lx_gt; exact rfl; exact rfl; exact rfl) | (apply lx_u; exact rfl) | (apply lx_g; exact rfl; exact rfl)); first | (apply isy_bin; exact yl_false (yl_op (E := EV) rfl) (fun _ => (decide_eq_false h1))) | (apply isy_bin; exact yl_false (yl_op (E := EV) rfl) (fun _ => (decide_eq_false h2))) | fail) | refine wzf ?_ | (refine wzb ?_; intro b_) | fail)
  refine cx_cond rfl (fun h => absurd h (by decide)) (fun _ => ?_)
  repeat (first | refine wzf ?_ | (refine wzb ?_; intro b_) | fail)
  exact bq_ret (ret_tmp rfl rfl) [] (Gives.nil _) rfl ⟨by rw [EOp.right0 hk hb (not_or.2 ⟨h1, h2⟩)], rfl⟩
theorem right2_fn (s : List B8) (t v : Int) (hl : s.length ≤ 9223372036854775807) : Fn Tryz.prog 21 [EOp.val ⟨2#8, s, t, v⟩] [] [] fun u Lo => u = .int .i64 (EOp.right ⟨2#8, s, t, v⟩) ∧ Lo = [] := by
  have hk : ¬ ((EOp.mk 2#8 s t v).k ≠ 1#8 ∧ (EOp.mk 2#8 s t v).k ≠ 2#8) := by simp
  have hm := mayM_fn s t v hl
  refine fn_enter Tryz.func21 rfl rfl (by kernel_rfl) rfl ?_
  intro w0
  by_cases hb : (EOp.mk 2#8 s t v).bad
  · rw [decide_eq_false (Classical.not_not.2 hb)] at hm
    repeat (first | (refine isx_call ?_; refine lx_gcallt (of2_fn) (fun _ hm => in_nil hm) rfl rfl rfl rfl rfl rfl rfl ?_) | refine wzf ?_ | (refine wzb ?_; intro b_) | fail)
    refine cx_cond rfl (fun h => absurd h (by decide)) (fun _ => ?_)
    repeat (first | (refine isx_call ?_; refine lx_gcallt (hm) (fun _ hm => in_nil hm) rfl rfl rfl rfl rfl rfl rfl ?_) | refine wzf ?_ | (refine wzb ?_; intro b_) | fail)
    refine cx_cond rfl (fun _ => ?_) (fun h => absurd h (by decide))
    repeat (first | refine wzf ?_ | (refine wzb ?_; intro b_) | fail)
    exact bq_ret (ret_tmp rfl rfl) [] (Gives.nil _) rfl ⟨by rw [EOp.right60 hk hb], rfl⟩
  rw [decide_eq_true hb] at hm
  repeat (first | (refine isx_call ?_; refine lx_gcallt (of2_fn) (fun _ hm => in_nil hm) rfl rfl rfl rfl rfl rfl rfl ?_) | refine wzf ?_ | (refine wzb ?_; intro b_) | fail)
  refine cx_cond rfl (fun h => absurd h (by decide)) (fun _ => ?_)
  repeat (first | (refine isx_call ?_; refine lx_gcallt (hm) (fun _ hm => in_nil hm) rfl rfl rfl rfl rfl rfl rfl ?_) | refine wzf ?_ | (refine wzb ?_; intro b_) | fail)
  refine cx_cond rfl (fun h => absurd h (by decide)) (fun _ => ?_)
  by_cases h1 : t < -1099511627776
  · repeat (first | ((first | (apply lx_gt; exact rfl; exact rfl; exact rfl) | (apply lx_u; exact rfl) | (apply lx_g; exact rfl; exact rfl)); first | (apply isy_bin; exact yl_true (yl_op (E := EV) rfl) (fun _ => (decide_eq_true h1))) | fail) | refine wzf ?_ | (refine wzb ?_; intro b_) | fail)
    refine cx_cond rfl (fun _ => ?_) (fun h => absurd h (by decide))
    repeat (first | refine wzf ?_ | (refine wzb ?_; intro b_) | fail)
    exact bq_ret (ret_tmp rfl rfl) [] (Gives.nil _) rfl ⟨by rw [EOp.right61 hk hb (.inl h1)], rfl⟩
  by_cases h2 : 1099511627776 < t
  · repeat (first | ((first | (apply lx_gt; exact rfl; exact rfl; exact rfl) | (apply lx_u; exact rfl) | (apply lx_g; exact rfl; exact rfl)); first | (apply isy_bin; exact yl_false (yl_op (E := EV) rfl) (fun _ => (decide_eq_false h1))) | (apply isy_bin; exact yl_true (yl_op (E := EV) rfl) (fun _ => (decide_eq_true h2))) | fail) | refine wzf ?_ | (refine wzb ?_; intro b_) | fail)
    refine cx_cond rfl (fun _ => ?_) (fun h => absurd h (by decide))
    repeat (first | refine wzf ?_ | (refine wzb ?_; intro b_) | fail)
    exact bq_ret (ret_tmp rfl rfl) [] (Gives.nil _) rfl ⟨by rw [EOp.right61 hk hb (.inr h2)], rfl⟩
  repeat (first | ((first | (apply lx_gt; exact rfl; exact rfl; exact rfl) | (apply lx_u; exact rfl) | (apply lx_g; exact rfl; exact rfl)); first | (apply isy_bin; exact yl_false (yl_op (E := EV) rfl) (fun _ => (decide_eq_false h1))) | (apply isy_bin; exact yl_false (yl_op (E := EV) rfl) (fun _ => (decide_eq_false h2))) | fail) | refine wzf ?_ | (refine wzb ?_; intro b_) | fail)
  refine cx_cond rfl (fun h => absurd h (by decide)) (fun _ => ?_)
  repeat (first | refine wzf ?_ | (refine wzb ?_; intro b_) | fail)
  exact bq_ret (ret_tmp rfl rfl) [] (Gives.nil _) rfl ⟨by rw [EOp.right0 hk hb (not_or.2 ⟨h1, h2⟩)], rfl⟩
theorem right_fn (o : EOp) (hl : o.key.length ≤ 9223372036854775807) : Fn Tryz.prog 21 [o.val] [] [] fun u Lo => u = .int .i64 o.right ∧ Lo = [] := by
  by_cases h1 : o.k = 1#8
  · cases o with
    | mk k s t v => subst h1; exact right1_fn s t v hl
  by_cases h2 : o.k = 2#8
  · cases o with
    | mk k s t v => subst h2; exact right2_fn s t v hl
  refine fn_enter Tryz.func21 rfl rfl (by kernel_rfl) rfl ?_
  intro w0
  repeat (first | (refine isx_call ?_; refine lx_gcallt (of0_fn o.k h1 h2) (fun _ hm => in_nil hm) rfl rfl rfl rfl rfl rfl rfl ?_) | refine wzf ?_ | (refine wzb ?_; intro b_) | fail)
  refine cx_cond rfl (fun _ => ?_) (fun h => absurd h (by decide))
  repeat (first | refine wzf ?_ | (refine wzb ?_; intro b_) | fail)
  exact bq_ret (ret_tmp rfl rfl) [] (Gives.nil _) rfl ⟨by rw [EOp.right80 ⟨h1, h2⟩], rfl⟩
end Go.Proofs.YtmochicneilhhaaGreat.ev
