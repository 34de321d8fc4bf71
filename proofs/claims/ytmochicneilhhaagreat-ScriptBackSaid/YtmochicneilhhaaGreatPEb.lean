/- events: right, and packed. -/
import Derived.Test.YtmochicneilhhaaGreatPEa
import Derived.Test.YtmochicneilhhaaGreatPGo
namespace Go.Proofs.YtmochicneilhhaaGreat.ev
open Go.RowKit Go.Proofs.YtmochicneilhhaaGreat.kit Go.Proofs.YtmochicneilhhaaGreat.pk
def EOp.bad (o : EOp) : Prop := (o.k = 1#8 ∧ (o.key = [] ∨ 32 < o.key.length)) ∨ (o.k = 2#8 ∧ (o.key ≠ [] ∨ o.v ≠ 0))
instance (o : EOp) : Decidable o.bad := by unfold EOp.bad; infer_instance
def EOp.late (o : EOp) : Prop := o.t < -1099511627776 ∨ 1099511627776 < o.t
instance (o : EOp) : Decidable o.late := by unfold EOp.late; infer_instance
/-- is it right -/
def EOp.right (o : EOp) : Int := if o.k ≠ 1#8 ∧ o.k ≠ 2#8 then 80 else if o.bad then 60 else if o.late then 61 else 0
theorem EOp.right80 {o : EOp} (h : o.k ≠ 1#8 ∧ o.k ≠ 2#8) : o.right = 80 := if_pos h
theorem EOp.right60 {o : EOp} (h : ¬ (o.k ≠ 1#8 ∧ o.k ≠ 2#8)) (h1 : o.bad) : o.right = 60 := by rw [EOp.right, if_neg h, if_pos h1]
theorem EOp.right61 {o : EOp} (h : ¬ (o.k ≠ 1#8 ∧ o.k ≠ 2#8)) (h1 : ¬ o.bad) (h2 : o.late) : o.right = 61 := by rw [EOp.right, if_neg h, if_neg h1, if_pos h2]
theorem EOp.right0 {o : EOp} (h : ¬ (o.k ≠ 1#8 ∧ o.k ≠ 2#8)) (h1 : ¬ o.bad) (h2 : ¬ o.late) : o.right = 0 := by rw [EOp.right, if_neg h, if_neg h1, if_neg h2]
theorem bad1 (s : List B8) (t v : Int) : (EOp.mk 1#8 s t v).bad ↔ ¬ (s ≠ [] ∧ s.length ≤ 32) := by
  simp only [EOp.bad]
  by_cases h : s = []
  · simp [h]
  · simp [h]
theorem bad2 (s : List B8) (t v : Int) : (EOp.mk 2#8 s t v).bad ↔ ¬ ((EOp.mk 2#8 s t v).eqB ⟨2#8, [], t, 0⟩ = true) := by
  simp [EOp.bad, EOp.eqB]
  by_cases h : s = []
  · simp [h]
  · simp [h]
attribute [local irreducible] LX CX Yl Gives RetIs Fn
attribute [local irreducible] be de
theorem mayE_fn (s : List B8) (t v : Int) (hl : s.length ≤ 9223372036854775807) : Fn Tryz.prog 112 [EOp.val ⟨1#8, s, t, v⟩] [] [] fun u Lo => u = .bool (decide (¬ (EOp.mk 1#8 s t v).bad)) ∧ Lo = [] :=
  (mayEvent_fn ⟨1#8, s, t, v⟩ hl).mono fun _ _ ⟨h1, h2⟩ => ⟨by rw [h1]; congr 1; rw [decide_eq_decide, bad1, Classical.not_not], h2⟩
theorem mayM_fn (s : List B8) (t v : Int) (_ : s.length ≤ 9223372036854775807) : Fn Tryz.prog 115 [EOp.val ⟨2#8, s, t, v⟩] [] [] fun u Lo => u = .bool (decide (¬ (EOp.mk 2#8 s t v).bad)) ∧ Lo = [] :=
  (mayMark_fn ⟨2#8, s, t, v⟩).mono fun _ _ ⟨h1, h2⟩ => ⟨by rw [h1]; congr 1; rw [Bool.eq_iff_iff, decide_eq_true_iff, bad2, Classical.not_not], h2⟩
theorem right1_fn (s : List B8) (t v : Int) (hl : s.length ≤ 9223372036854775807) : Fn Tryz.prog 21 [EOp.val ⟨1#8, s, t, v⟩] [] [] fun u Lo => u = .int .i64 (EOp.right ⟨1#8, s, t, v⟩) ∧ Lo = [] := by
  have hk : ¬ ((EOp.mk 1#8 s t v).k ≠ 1#8 ∧ (EOp.mk 1#8 s t v).k ≠ 2#8) := by simp
  have hm := mayE_fn s t v hl
  refine fn_enter Tryz.func21 rfl rfl (by kernel_rfl) rfl ?_
  intro w0
  by_cases hb : (EOp.mk 1#8 s t v).bad
  · rw [decide_eq_false (Classical.not_not.2 hb)] at hm
    repeat (first | (refine isx_call ?_; refine lx_gcallt (of1_fn) (fun _ hm => in_nil hm) rfl rfl rfl rfl rfl rfl rfl ?_) | refine wzf ?_ | (refine wzb ?_; intro b_) | fail)
    refine cx_cond rfl (fun h => absurd h (by decide)) (fun _ => ?_)
    repeat (first | (refine isx_call ?_; refine lx_gcallt (hm) (fun _ hm => in_nil hm) rfl rfl rfl rfl rfl rfl rfl ?_) | refine wzf ?_ | (refine wzb ?_; intro b_) | fail)
    refine cx_cond rfl (fun _ => ?_) (fun h => absurd h (by decide))
    repeat (first | refine wzf ?_ | (refine wzb ?_; intro b_) | fail)
    exact bq_ret (ret_tmp rfl rfl) [] (Gives.nil _) rfl ⟨by rw [EOp.right60 hk hb], rfl⟩
  rw [decide_eq_true hb] at hm
  repeat (first | (refine isx_call ?_; refine lx_gcallt (of1_fn) (fun _ hm => in_nil hm) rfl rfl rfl rfl rfl rfl rfl ?_) | refine wzf ?_ | (refine wzb ?_; intro b_) | fail)
  refine cx_cond rfl (fun h => absurd h (by decide)) (fun _ => ?_)
  repeat (first | (refine isx_call ?_; refine lx_gcallt (hm) (fun _ hm => in_nil hm) rfl rfl rfl rfl rfl rfl rfl ?_) | refine wzf ?_ | (refine wzb ?_; intro b_) | fail)
  refine cx_cond rfl (fun h => absurd h (by decide)) (fun _ => ?_)
  by_cases h1 : t < -1099511627776
  · repeat (first | ((first | (apply lx_gt; exact rfl; exact rfl; exact rfl) | (apply lx_u; exact rfl) | (apply lx_g; exact rfl; exact rfl)); first | (apply isy_bin; exact yl_true (yl_op (E := EV) rfl) (fun _ => (decide_eq_true h1))) | fail) | refine wzf ?_ | (refine wzb ?_; intro b_) | fail)
    refine cx_cond rfl (fun _ => ?_) (fun h => absurd h (by decide))
    repeat (first | refine wzf ?_ | (refine wzb ?_; intro b_) | fail)
    exact bq_ret (ret_tmp rfl rfl) [] (Gives.nil _) rfl ⟨by rw [EOp.right61 hk hb (.inl h1)], rfl⟩
  by_cases h2 : 1099511627776 < t
  · repeat (first | ((first | (apply lx_gt; exact rfl; exact rfl; exact rfl) | (apply lx_u; exact rfl) | (apply lx_g; exact rfl; exact rfl)); first | (apply isy_bin; exact yl_false (yl_op (E := EV) rfl) (fun _ => (decide_eq_false h1))) | (apply isy_bin; exact yl_true (yl_op (E := EV) rfl) (fun _ => (decide_eq_true h2))) | fail) | refine wzf ?_ | (refine wzb ?_; intro b_) | fail)
    refine cx_cond rfl (fun _ => ?_) (fun h => absurd h (by decide))
    repeat (first | refine wzf ?_ | (refine wzb ?_; intro b_) | fail)
    exact bq_ret (ret_tmp rfl rfl) [] (Gives.nil _) rfl ⟨by rw [EOp.right61 hk hb (.inr h2)], rfl⟩
  repeat (first | ((first | (apply lx_gt; exact rfl; exact rfl; exact rfl) | (apply lx_u; exact rfl) | (apply lx_g; exact rfl; exact rfl)); first | (apply isy_bin; exact yl_false (yl_op (E := EV) rfl) (fun _ => (decide_eq_false h1))) | (apply isy_bin; exact yl_false (yl_op (E := EV) rfl) (fun _ => (decide_eq_false h2))) | fail) | refine wzf ?_ | (refine wzb ?_; intro b_) | fail)
  refine cx_cond rfl (fun h => absurd h (by decide)) (fun _ => ?_)
  repeat (first | refine wzf ?_ | (refine wzb ?_; intro b_) | fail)
  exact bq_ret (ret_tmp rfl rfl) [] (Gives.nil _) rfl ⟨by rw [EOp.right0 hk hb (not_or.2 ⟨h1, h2⟩)], rfl⟩
theorem right2_fn (s : List B8) (t v : Int) (hl : s.length ≤ 9223372036854775807) : Fn Tryz.prog 21 [EOp.val ⟨2#8, s, t, v⟩] [] [] fun u Lo => u = .int .i64 (EOp.right ⟨2#8, s, t, v⟩) ∧ Lo = [] := by
  have hk : ¬ ((EOp.mk 2#8 s t v).k ≠ 1#8 ∧ (EOp.mk 2#8 s t v).k ≠ 2#8) := by simp
  have hm := mayM_fn s t v hl
  refine fn_enter Tryz.func21 rfl rfl (by kernel_rfl) rfl ?_
  intro w0
  by_cases hb : (EOp.mk 2#8 s t v).bad
  · rw [decide_eq_false (Classical.not_not.2 hb)] at hm
    repeat (first | (refine isx_call ?_; refine lx_gcallt (of2_fn) (fun _ hm => in_nil hm) rfl rfl rfl rfl rfl rfl rfl ?_) | refine wzf ?_ | (refine wzb ?_; intro b_) | fail)
    refine cx_cond rfl (fun h => absurd h (by decide)) (fun _ => ?_)
    repeat (first | (refine isx_call ?_; refine lx_gcallt (hm) (fun _ hm => in_nil hm) rfl rfl rfl rfl rfl rfl rfl ?_) | refine wzf ?_ | (refine wzb ?_; intro b_) | fail)
    refine cx_cond rfl (fun _ => ?_) (fun h => absurd h (by decide))
    repeat (first | refine wzf ?_ | (refine wzb ?_; intro b_) | fail)
    exact bq_ret (ret_tmp rfl rfl) [] (Gives.nil _) rfl ⟨by rw [EOp.right60 hk hb], rfl⟩
  rw [decide_eq_true hb] at hm
  repeat (first | (refine isx_call ?_; refine lx_gcallt (of2_fn) (fun _ hm => in_nil hm) rfl rfl rfl rfl rfl rfl rfl ?_) | refine wzf ?_ | (refine wzb ?_; intro b_) | fail)
  refine cx_cond rfl (fun h => absurd h (by decide)) (fun _ => ?_)
  repeat (first | (refine isx_call ?_; refine lx_gcallt (hm) (fun _ hm => in_nil hm) rfl rfl rfl rfl rfl rfl rfl ?_) | refine wzf ?_ | (refine wzb ?_; intro b_) | fail)
  refine cx_cond rfl (fun h => absurd h (by decide)) (fun _ => ?_)
  by_cases h1 : t < -1099511627776
  · repeat (first | ((first | (apply lx_gt; exact rfl; exact rfl; exact rfl) | (apply lx_u; exact rfl) | (apply lx_g; exact rfl; exact rfl)); first | (apply isy_bin; exact yl_true (yl_op (E := EV) rfl) (fun _ => (decide_eq_true h1))) | fail) | refine wzf ?_ | (refine wzb ?_; intro b_) | fail)
    refine cx_cond rfl (fun _ => ?_) (fun h => absurd h (by decide))
    repeat (first | refine wzf ?_ | (refine wzb ?_; intro b_) | fail)
    exact bq_ret (ret_tmp rfl rfl) [] (Gives.nil _) rfl ⟨by rw [EOp.right61 hk hb (.inl h1)], rfl⟩
  by_cases h2 : 1099511627776 < t
  · repeat (first | ((first | (apply lx_gt; exact rfl; exact rfl; exact rfl) | (apply lx_u; exact rfl) | (apply lx_g; exact rfl; exact rfl)); first | (apply isy_bin; exact yl_false (yl_op (E := EV) rfl) (fun _ => (decide_eq_false h1))) | (apply isy_bin; exact yl_true (yl_op (E := EV) rfl) (fun _ => (decide_eq_true h2))) | fail) | refine wzf ?_ | (refine wzb ?_; intro b_) | fail)
    refine cx_cond rfl (fun _ => ?_) (fun h => absurd h (by decide))
    repeat (first | refine wzf ?_ | (refine wzb ?_; intro b_) | fail)
    exact bq_ret (ret_tmp rfl rfl) [] (Gives.nil _) rfl ⟨by rw [EOp.right61 hk hb (.inr h2)], rfl⟩
  repeat (first | ((first | (apply lx_gt; exact rfl; exact rfl; exact rfl) | (apply lx_u; exact rfl) | (apply lx_g; exact rfl; exact rfl)); first | (apply isy_bin; exact yl_false (yl_op (E := EV) rfl) (fun _ => (decide_eq_false h1))) | (apply isy_bin; exact yl_false (yl_op (E := EV) rfl) (fun _ => (decide_eq_false h2))) | fail) | refine wzf ?_ | (refine wzb ?_; intro b_) | fail)
  refine cx_cond rfl (fun h => absurd h (by decide)) (fun _ => ?_)
  repeat (first | refine wzf ?_ | (refine wzb ?_; intro b_) | fail)
  exact bq_ret (ret_tmp rfl rfl) [] (Gives.nil _) rfl ⟨by rw [EOp.right0 hk hb (not_or.2 ⟨h1, h2⟩)], rfl⟩
theorem right_fn (o : EOp) (hl : o.key.length ≤ 9223372036854775807) : Fn Tryz.prog 21 [o.val] [] [] fun u Lo => u = .int .i64 o.right ∧ Lo = [] := by
  by_cases h1 : o.k = 1#8
  · cases o with
    | mk k s t v => subst h1; exact right1_fn s t v hl
  by_cases h2 : o.k = 2#8
  · cases o with
    | mk k s t v => subst h2; exact right2_fn s t v hl
  refine fn_enter Tryz.func21 rfl rfl (by kernel_rfl) rfl ?_
  intro w0
  repeat (first | (refine isx_call ?_; refine lx_gcallt (of0_fn o.k h1 h2) (fun _ hm => in_nil hm) rfl rfl rfl rfl rfl rfl rfl ?_) | refine wzf ?_ | (refine wzb ?_; intro b_) | fail)
  refine cx_cond rfl (fun _ => ?_) (fun h => absurd h (by decide))
  repeat (first | refine wzf ?_ | (refine wzb ?_; intro b_) | fail)
  exact bq_ret (ret_tmp rfl rfl) [] (Gives.nil _) rfl ⟨by rw [EOp.right80 ⟨h1, h2⟩], rfl⟩
end Go.Proofs.YtmochicneilhhaaGreat.ev
