/- events: the functions of an operation. -/
import Derived.Test.YtmochicneilhhaaGreatPGo
import Derived.Test.YtmochicneilhhaaGreatPPkc
import Derived.Test.YtmochicneilhhaaGreatPPp
namespace Go.Proofs.YtmochicneilhhaaGreat.ev
open Go.RowKit Go.Proofs.YtmochicneilhhaaGreat.kit Go.Proofs.YtmochicneilhhaaGreat.pk
section
variable {P : Program} {n : Nat} {M : Me} {Q : Post} {t : Fr} {L : List Ck}
/-- an element of an array's value -/
theorem yl_arr {E : Env P} {p c1 c2 : Option Bool} {dst : Option Tmp} {T e : TypeId} {X Y : Operand} {ty : TypeId} {pos : String} {after : Array Edge} {guard : Option (Nat × Bool)} {cs : Array Value} {κ : IntKind} {iv : Int} {m : Nat} {j : TyI} {v : Value}
    (hx : ov t X = some (c1, .agg cs)) (hy : ov t Y = some (c2, .int κ iv)) (hT : tyOf E.f T = .array m e) (he : E.f e = some j) (hv : evPart E.f e cs.toList (iv.toNat * j.size) = some v) (hi : 0 ≤ iv ∧ iv < m) (h1 : cb p = true → cb c1 = true) (h2 : cb p = true → cb c2 = true) :
    Yl P n t L p ⟨dst, .index T X Y, ty, pos, after, guard⟩ v := fun hp M a w hf hm => by
  have hu := run_underlying (P := P) (tyOf_array hT) w
  have hs := E.size he w
  have hr := run_part he hv w
  unfold execOp
  refine run_v ?_
  simp [hf.ov hx (h1 hp), hf.ov hy (h2 hp), Instr.index, asIntOf, hu, hi, hs, hr]
end
structure EOp where
  k : B8
  key : List B8
  t : Int
  v : Int
abbrev EOp.cells (o : EOp) : List Value := [.int .u8 o.k.toNat, .string (sb o.key), .int .i64 o.t, .int .i64 o.v]
abbrev EOp.val (o : EOp) : Value := .agg #[.int .u8 o.k.toNat, .string (sb o.key), .int .i64 o.t, .int .i64 o.v]
attribute [local irreducible] LX CX Yl Gives RetIs Fn
attribute [local irreducible] be de
theorem eOf_fn (s : List B8) (t v : Int) : Fn Tryz.prog 32 [.string (sb s), .int .i64 t, .int .i64 v] [] [] fun u Lo => u = EOp.val ⟨1#8, s, t, v⟩ ∧ Lo = [] := by
  refine fn_enter Tryz.func32 rfl rfl (by kernel_rfl) rfl ?_
  intro w0
  repeat (first | refine wz ?_ | (refine wzb ?_; intro b_) | fail)
  exact bq_ret (ret_cell (E := EV) 0 rfl rfl rfl rfl (fun _ => Nat.le_of_ble_eq_true rfl) rfl) [] (Gives.nil _) rfl ⟨rfl, rfl⟩
theorem eAt_fn (t : Int) : Fn Tryz.prog 31 [.int .i64 t] [] [] fun u Lo => u = EOp.val ⟨2#8, [], t, 0⟩ ∧ Lo = [] := by
  refine fn_enter Tryz.func31 rfl rfl (by kernel_rfl) rfl ?_
  intro w0
  repeat (first | refine wz ?_ | (refine wzb ?_; intro b_) | fail)
  exact bq_ret (ret_cell (E := EV) 0 rfl rfl rfl rfl (fun _ => Nat.le_of_ble_eq_true rfl) rfl) [] (Gives.nil _) rfl ⟨rfl, rfl⟩
theorem mayEvent_fn (o : EOp) (hl : o.key.length ≤ 9223372036854775807) : Fn Tryz.prog 112 [o.val] [] [] fun u Lo => u = .bool (decide (o.key ≠ [] ∧ o.key.length ≤ 32)) ∧ Lo = [] := by
  refine fn_enter Tryz.func112 rfl rfl (by kernel_rfl) rfl ?_
  intro w0
  by_cases h : o.key = []
  · repeat (first | ((first | (apply lx_gt; exact rfl; exact rfl; exact rfl) | (apply lx_u; exact rfl) | (apply lx_g; exact rfl; exact rfl)); first | (apply isy_bin_neq; exact yl_false (q_sne o.key [] rfl rfl) (fun _ => (by simp [h]))) | fail) | refine wzf ?_ | (refine wzb ?_; intro b_) | fail)
    exact bq_ret (ret_tmp rfl rfl) [] (Gives.nil _) rfl ⟨by simp [h], rfl⟩
  · repeat (first | ((first | (apply lx_gt; exact rfl; exact rfl; exact rfl) | (apply lx_u; exact rfl) | (apply lx_g; exact rfl; exact rfl)); first | (apply isy_bin_neq; exact yl_true (q_sne o.key [] rfl rfl) (fun _ => by simp [h])) | (apply isy_blt; exact q_slen rfl rfl) | fail) | refine wzt ?_ | (refine wzb ?_; intro b_) | fail)
    exact bq_ret (ret_tmp rfl rfl) [] (Gives.nil _) rfl ⟨by congr 1; simp [h]; omega, rfl⟩
theorem putMark_fn (o : EOp) : Fn Tryz.prog 113 [o.val] [] [] fun u Lo => ∃ A c, u = .slice A 8 c ∧ Lo = [.own A 8 c 5 1 (bvs (be 8 (BitVec.ofInt 64 o.t)))] := by
  refine fn_enter Tryz.func113 rfl rfl (by kernel_rfl) rfl ?_
  intro w0
  repeat (first | (refine isx_call ?_; (refine isx_call ?_; refine lx_call0 (putInt_fn o.t) (fun _ hm => in_nil hm) rfl rfl rfl rfl rfl rfl rfl rfl ?_; rintro v_ Lo_ ⟨A, c, rfl, rfl⟩)) | refine wz ?_ | (refine wzb ?_; intro b_) | fail)
  exact bq_ret (ret_tmp rfl rfl) _ (Gives.pick [0] (by decide) rfl) rfl ⟨_, _, rfl, rfl⟩
abbrev fv (f : FuncId) : Value := .func (.func f) #[] #[]
abbrev sortE : Value := .agg #[fv 110, fv 111, fv 112]
abbrev sortM : Value := .agg #[fv 113, fv 114, fv 115]
abbrev sortN : Value := .agg #[.nilFunc, .nilFunc, .nilFunc]
theorem sorts_fn : Fn Tryz.prog 88 [] [] [] fun u Lo => u = .agg #[.nilFunc, .nilFunc, .nilFunc, fv 110, fv 111, fv 112, fv 113, fv 114, fv 115] ∧ Lo = [] := by
  refine fn_enter Tryz.func88 rfl rfl (by kernel_rfl) rfl ?_
  intro w0
  repeat (first | refine wz ?_ | (refine wzb ?_; intro b_) | fail)
  exact bq_ret (ret_cell (E := EV) 0 rfl rfl rfl rfl (fun _ => Nat.le_of_ble_eq_true rfl) rfl) [] (Gives.nil _) rfl ⟨rfl, rfl⟩
theorem of1_fn : Fn Tryz.prog 51 [.int .u8 1] [] [] fun u Lo => u = .tuple #[sortE, .bool true] ∧ Lo = [] := by
  refine fn_enter Tryz.func51 rfl rfl (by kernel_rfl) rfl ?_
  intro w0
  repeat (first | ((first | (apply lx_gt; exact rfl; exact rfl; exact rfl) | (apply lx_u; exact rfl) | (apply lx_g; exact rfl; exact rfl)); first | (apply isy_bin; exact yl_false (yl_op (E := EV) rfl) (fun _ => (by decide))) | fail) | refine wzf ?_ | (refine wzb ?_; intro b_) | fail)
  refine cx_cond rfl (fun h => absurd h (by decide)) (fun _ => ?_)
  repeat (first | ((first | (apply lx_gt; exact rfl; exact rfl; exact rfl) | (apply lx_u; exact rfl) | (apply lx_g; exact rfl; exact rfl)); first | exact yl_arr (E := EV) rfl rfl rfl rfl rfl (by decide) (by first | exact fun _ => rfl | exact fun h => h | exact fun h => (Bool.and_eq_true_iff.1 h).1) (by first | exact fun _ => rfl | exact fun h => h | exact fun h => (Bool.and_eq_true_iff.1 h).1) | fail) | (refine isx_call ?_; refine lx_gcallt (sorts_fn) (fun _ hm => in_nil hm) rfl rfl rfl rfl rfl rfl rfl ?_) | refine wzf ?_ | (refine wzb ?_; intro b_) | fail)
  exact bq_ret (ret_cell_tmp (E := EV) 0 rfl rfl rfl rfl rfl (fun _ => Nat.le_of_ble_eq_true rfl) rfl) [] (Gives.nil _) rfl ⟨rfl, rfl⟩
theorem of2_fn : Fn Tryz.prog 51 [.int .u8 2] [] [] fun u Lo => u = .tuple #[sortM, .bool true] ∧ Lo = [] := by
  refine fn_enter Tryz.func51 rfl rfl (by kernel_rfl) rfl ?_
  intro w0
  repeat (first | ((first | (apply lx_gt; exact rfl; exact rfl; exact rfl) | (apply lx_u; exact rfl) | (apply lx_g; exact rfl; exact rfl)); first | (apply isy_bin; exact yl_false (yl_op (E := EV) rfl) (fun _ => (by decide))) | fail) | refine wzf ?_ | (refine wzb ?_; intro b_) | fail)
  refine cx_cond rfl (fun h => absurd h (by decide)) (fun _ => ?_)
  repeat (first | ((first | (apply lx_gt; exact rfl; exact rfl; exact rfl) | (apply lx_u; exact rfl) | (apply lx_g; exact rfl; exact rfl)); first | exact yl_arr (E := EV) rfl rfl rfl rfl rfl (by decide) (by first | exact fun _ => rfl | exact fun h => h | exact fun h => (Bool.and_eq_true_iff.1 h).1) (by first | exact fun _ => rfl | exact fun h => h | exact fun h => (Bool.and_eq_true_iff.1 h).1) | fail) | (refine isx_call ?_; refine lx_gcallt (sorts_fn) (fun _ hm => in_nil hm) rfl rfl rfl rfl rfl rfl rfl ?_) | refine wzf ?_ | (refine wzb ?_; intro b_) | fail)
  exact bq_ret (ret_cell_tmp (E := EV) 0 rfl rfl rfl rfl rfl (fun _ => Nat.le_of_ble_eq_true rfl) rfl) [] (Gives.nil _) rfl ⟨rfl, rfl⟩
theorem of0_fn (k : B8) (h1 : k ≠ 1#8) (h2 : k ≠ 2#8) : Fn Tryz.prog 51 [.int .u8 k.toNat] [] [] fun u Lo => u = .tuple #[sortN, .bool false] ∧ Lo = [] := by
  have e1 : k.toNat ≠ 1 := fun h => h1 (BitVec.eq_of_toNat_eq h)
  have e2 : k.toNat ≠ 2 := fun h => h2 (BitVec.eq_of_toNat_eq h)
  refine fn_enter Tryz.func51 rfl rfl (by kernel_rfl) rfl ?_
  intro w0
  by_cases h : k.toNat < 1
  · have ht : decide ((k.toNat : Int) < 1) = true := by simp; omega
    repeat (first | ((first | (apply lx_gt; exact rfl; exact rfl; exact rfl) | (apply lx_u; exact rfl) | (apply lx_g; exact rfl; exact rfl)); first | (apply isy_bin; exact yl_true (yl_op (E := EV) rfl) (fun _ => ht)) | fail) | refine wzf ?_ | (refine wzb ?_; intro b_) | fail)
    refine cx_cond rfl (fun _ => ?_) (fun h => absurd h (by decide))
    repeat (first | refine wzf ?_ | (refine wzb ?_; intro b_) | fail)
    exact bq_ret (ret_cell_tmp (E := EV) 0 rfl rfl rfl rfl rfl (fun _ => Nat.le_of_ble_eq_true rfl) rfl) [] (Gives.nil _) rfl ⟨rfl, rfl⟩
  have hf : decide ((k.toNat : Int) < 1) = false := by simp; omega
  have ht : decide ((k.toNat : Int) > 2) = true := by simp; omega
  repeat (first | ((first | (apply lx_gt; exact rfl; exact rfl; exact rfl) | (apply lx_u; exact rfl) | (apply lx_g; exact rfl; exact rfl)); first | (apply isy_bin; exact yl_false (yl_op (E := EV) rfl) (fun _ => hf)) | (apply isy_bin; exact yl_true (yl_op (E := EV) rfl) (fun _ => ht)) | fail) | refine wzf ?_ | (refine wzb ?_; intro b_) | fail)
  refine cx_cond rfl (fun _ => ?_) (fun h => absurd h (by decide))
  repeat (first | refine wzf ?_ | (refine wzb ?_; intro b_) | fail)
  exact bq_ret (ret_cell_tmp (E := EV) 0 rfl rfl rfl rfl rfl (fun _ => Nat.le_of_ble_eq_true rfl) rfl) [] (Gives.nil _) rfl ⟨rfl, rfl⟩
theorem sb_iff (l m : List B8) : (sb l).toList = (sb m).toList ↔ l = m := by
  have := sb_beq l m
  rw [Bool.eq_iff_iff, beq_iff_eq, beq_iff_eq] at this
  exact this
def EOp.eqB (a b : EOp) : Bool := (a.k.toNat : Int) == (b.k.toNat : Int) && (a.key == b.key && (a.t == b.t && a.v == b.v))
theorem op_eq (a b : EOp) (w : World) : (binOp .eql 44 a.val b.val).run Tryz.prog w = .ok (.bool (a.eqB b)) w := by
  unfold EOp.eqB
  go_simp
  simp only [sb_iff]
  (repeat' split) <;> simp_all
theorem op_eq_g : Tryz.prog.eqGuardType Tryz.prog.depth 44 = false := by kernel_rfl
theorem rop_eq (a b : EOp) (w : World) : (binOp .eql 66 a.val b.val).run Tryz.prog w = .ok (.bool (a.eqB b)) w := by
  unfold EOp.eqB
  go_simp
  simp only [sb_iff]
  (repeat' split) <;> simp_all
theorem rop_eq_g : Tryz.prog.eqGuardType Tryz.prog.depth 66 = false := by kernel_rfl
theorem mayMark_fn (o : EOp) : Fn Tryz.prog 115 [o.val] [] [] fun u Lo => u = .bool (o.eqB ⟨2#8, [], o.t, 0⟩) ∧ Lo = [] := by
  refine fn_enter Tryz.func115 rfl rfl (by kernel_rfl) rfl ?_
  intro w0
  repeat (first | refine wz ?_ | (refine wzb ?_; intro b_) | fail)
  refine cx_draw [3] [.blk b_ o.cells 44] rfl (by kernel_rfl) (Gives.refl _) ?_
  repeat (first | ((first | (apply lx_u; exact rfl) | (apply lx_g; exact rfl; exact rfl)); first | (apply isy_load; exact q_lr 0 rfl rfl rfl rfl rfl) | (apply isy_bin_eql; exact yl_eqs op_eq_g rfl rfl (fun w => op_eq o ⟨2#8, [], o.t, 0⟩ w) (by first | exact fun _ => rfl | exact fun h => h | exact fun h => (Bool.and_eq_true_iff.1 h).1) (by first | exact fun _ => rfl | exact fun h => h | exact fun h => (Bool.and_eq_true_iff.1 h).1)) | fail) | (refine isx_call ?_; refine k_gcall (eAt_fn o.t) (fun _ hm => in_nil hm) rfl rfl rfl rfl rfl rfl ?_) | refine wz ?_ | (refine wzb ?_; intro b_) | fail)
  exact bq_ret (ret_tmp rfl rfl) [] (Gives.nil _) rfl ⟨rfl, rfl⟩
end Go.Proofs.YtmochicneilhhaaGreat.ev
