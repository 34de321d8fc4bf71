/- More rules: function values. -/
import Derived.Test.YtbhbimfljjgijaaSn
namespace Go.Proofs.Ytbhbimfljjgijaa
open Go.RowKit
section
variable {P : Program} {n : Nat} {M : Me} {Q : Post} {t : Fr} {L : List Ck} {ops : Array Oper} {s : Way} {i : Nat} {rest : List Oper}
/-- a function value -/
theorem yl_makeFunc {p : Option Bool} {dst : Option Tmp} {f : FuncId} {first captured : Array Operand} {ty : TypeId} {pos : String} {after : Array Edge} {guard : Option (Nat × Bool)} {vs us : List Value} (h1 : o2l t first.toList = some vs) (h2 : o2l t captured.toList = some us) (hi1 : Imps p t first.toList) (hi2 : Imps p t captured.toList) :
    Yl P n t L p ⟨dst, .makeFunc (.func f) first captured, ty, pos, after, guard⟩ (.func (.func f) vs.toArray us.toArray) := fun hp M a w hf hm => by
  have e1 : first.map a.eval = vs.toArray := by
    apply Array.ext'
    have := o2l_eval hf hp h1 hi1
    simpa using this
  have e2 : captured.map a.eval = us.toArray := by
    apply Array.ext'
    have := o2l_eval hf hp h2 hi2
    simpa using this
  unfold execOp
  refine run_v ?_
  rw [e1, e2]
  rfl
/-- as 'lx_gcall', where the function value itself is there under a condition -/
theorem lx_vcall {d : Nat} {fx : Operand} {xs : Array Operand} {ts : Array TypeId} {ty : TypeId} {pos : String} {after : Array Edge} {guard : Option (Nat × Bool)} {f : FuncId} {first captured : Array Value} {vs args : List Value} {Lin : List Ck} {p c : Option Bool} {r : Value}
    (h : cb p = true → Fn P f args Lin [] fun v Lo => v = r ∧ Lo = []) (hin : ∀ w, Mem M L w → Mem ⟨w, []⟩ Lin w)
    (hl : s.loud i = true) (hg : gOf ops t ⟨some d, .call ⟨.value fx, xs, ts⟩, ty, pos, after, guard⟩ = some p) (hn : Nat.blt d n = true) (hx : ov t fx = some (c, .func (.func f) first captured)) (hc : cb p = true → cb c = true) (hxs : o2l t xs.toList = some vs) (hi : Imps p t xs.toList) (hargs : first.toList ++ vs ++ captured.toList = args)
    (hk : LX P n M ops s (i + 1) rest Q ((d, p, r) :: t) L) : LX P n M ops s i (⟨some d, .call ⟨.value fx, xs, ts⟩, ty, pos, after, guard⟩ :: rest) Q t L := by
  cases hp : cb p with
  | false =>
    intro hs a w hf hm
    have hw := gOf_ok (ops := ops) hf hg
    have hx := hk hs _ w (hf.put (Nat.le_of_ble_eq_true hn) p r) hm
    rw [hp] at hw hx
    cases s with
    | seq =>
      refine wpList_step fun K hK => ?_
      rw [if_neg (by rw [hw]; simp)]
      exact hK _ _ hx
    | any E L0 => exact ser_unwanted hw hx
  | true =>
    refine lx_loud hl hg hp fun a w hf hm hs K hK => ?_
    have hev : xs.map a.eval = vs.toArray := by
      apply Array.ext'
      have := o2l_eval hf hp hxs hi
      simpa using this
    have hall : first ++ xs.map a.eval ++ captured = args.toArray := by
      apply Array.ext'
      rw [hev, ← hargs]
      simp
    unfold Oper.wp execOp
    simp only [resolve, hf.ov hx (hc hp), Deferred.ofValue, Sem.run_bind, Sem.run_pure, Result.andThen_ok, invoke, hall, (h hp).1 args.toArray w]
    show Calls P f args.toArray w _
    refine ((h hp).2 w (hin w hm)).mono ?_
    rintro e w' ⟨v, Lo, rfl, ⟨rfl, rfl⟩, hm', hmu⟩
    have := Mem.call (L1 := []) hm (by simp) hm' hmu
    show K (a.put (some d) v) w'
    have hput := hf.put (Nat.le_of_ble_eq_true hn) p v
    rw [hp] at hput
    exact hK _ _ _ _ hput this hs hk
end
end Go.Proofs.Ytbhbimfljjgijaa
