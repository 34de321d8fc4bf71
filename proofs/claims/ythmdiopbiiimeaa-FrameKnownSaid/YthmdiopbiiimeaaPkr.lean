/- packed numbers and texts: the reference's functions. -/
import Derived.Test.YthmdiopbiiimeaaGo
import Derived.Test.YthmdiopbiiimeaaPka
namespace Go.Proofs.Ythmdiopbiiimeaa
open Go.RowKit
section
variable {P : Program} {n : Nat} {t : Fr} {L : List Ck}
theorem ret_tmp_cell {E : Env P} {fn : Func} {d b off e : Nat} {T T' : TypeId} {v u : Value} (k : Nat) {cs : List Value} {j : TyI} (hr : fn.results = #[.tmp e, .cell d T]) (hd : lk t d = some (none, .pointer (some ⟨b, off, none⟩))) (he : lk t e = some (none, u)) (hT : E.f T = some j) (hk : L[k]? = some (.blk b cs T'))
    (hin : isAggD j.desc = true → off + j.size ≤ cs.length) (hv : evPart E.f T cs off = some v) : RetIs P fn t L (.tuple #[u, v]) := fun n M a w hf hm => by
  have hd' := hf.tmpq hd
  have he' := hf.tmpq he
  simp [results, hr, hd', he', asAddr, hm.loadVar hT hk hv hin]
end
end Go.Proofs.Ythmdiopbiiimeaa
namespace Go.Proofs.Ythmdiopbiiimeaa.pk
open Go.RowKit Go.Proofs.Ythmdiopbiiimeaa.kit
attribute [local irreducible] LX CX Yl Gives RetIs Fn
attribute [local irreducible] be
























































































/- the reference's reader: bytes, a place, and whether it has failed -/
def rTake (l : List B8) (at' : Nat) (f : Bool) (k : Nat) : BitVec 64 × Nat × Bool := if f = true ∨ l.length < at' + k then (0#64, at', true) else (de 0#64 ((l.drop at').take k), at' + k, false)
def rVal (A : Option Addr) (n c : Nat) (at' : Nat) (f : Bool) : Value := .agg #[.slice A n c, .int .i64 at', .bool f]
attribute [local irreducible] de





















































def rText (l : List B8) (at' : Nat) (f : Bool) : List B8 × Nat × Bool :=
  if (rTake l at' f 2).2.2 = true ∨ l.length < (rTake l at' f 2).2.1 + (rTake l at' f 2).1.toNat then ([], at', true)
  else ((l.drop (rTake l at' f 2).2.1).take (rTake l at' f 2).1.toNat, (rTake l at' f 2).2.1 + (rTake l at' f 2).1.toNat, false)
end Go.Proofs.Ythmdiopbiiimeaa.pk
