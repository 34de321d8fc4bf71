/- From a walk's contract to what a law's frame asks for. -/
import Derived.Test.YtbhbimfljjgijaaFn
namespace Go.Proofs.Ytbhbimfljjgijaa
open Go.RowKit
theorem mem0 (W : World) : Mem ⟨W, []⟩ [] W := ⟨Keep.refl W [], by simp, by simp, .nil⟩
/-- what a law's frame asks for -/
theorem Fn.yes {P : Program} {f : FuncId} {args : List Value} {Lin : List Ck} (h : Fn P f args Lin [] fun v Lo => v = .bool true ∧ Lo = []) (W : World) (hm : Mem ⟨W, []⟩ Lin W) :
    Calls P f args.toArray W fun e W' => e = .returned (.bool true) ∧ Below W.heap.size W W' := (h.2 W hm).mono fun _ _ ⟨_, _, he, ⟨hv, _⟩, hm', _⟩ => ⟨by rw [he, hv], hm'.keep.below⟩
end Go.Proofs.Ytbhbimfljjgijaa
