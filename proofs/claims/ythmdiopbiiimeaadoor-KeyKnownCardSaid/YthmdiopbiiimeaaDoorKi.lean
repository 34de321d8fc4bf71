/- What the statements share: Pick, SameBytes, Own, Spoil. -/
import Derived.Test.YthmdiopbiiimeaaDoorGo
import Derived.Test.YthmdiopbiiimeaaDoorBv
import Derived.Test.YthmdiopbiiimeaaDoorDp
import Derived.Test.YthmdiopbiiimeaaDoorSp
import Derived.Test.YthmdiopbiiimeaaDoorSt
import Derived.Test.YthmdiopbiiimeaaDoorEnv
import Derived.Test.YthmdiopbiiimeaaDoorYes
namespace Go.Proofs.YthmdiopbiiimeaaDoor.kit
open Go.RowKit
def pickN (i n : Int) : Nat := if n ≤ 0 then 0 else ((i.tmod n + n).tmod n).toNat
theorem pick_lt {i n : Int} (h : 0 < n) : (pickN i n : Int) < n := by
  rw [pickN, if_neg (by omega)]
  have h1 := Int.tmod_lt_of_pos (i.tmod n + n) h
  omega
theorem pick_zero {i n : Int} (h : n ≤ 0) : pickN i n = 0 := by rw [pickN, if_pos h]
theorem pick_eq {i n : Int} (h : 0 < n) : ((i.tmod n + n).tmod n) = (pickN i n : Int) := by
  rw [pickN, if_neg (by omega), Int.toNat_of_nonneg]
  refine Int.tmod_nonneg _ ?_
  have h1 : -n < i.tmod n := by
    have h2 := Int.tmod_lt_of_pos (-i) h
    rw [Int.neg_tmod] at h2
    omega
  omega
theorem tmod_bd {i n : Int} (h : 0 < n) : -n < i.tmod n ∧ i.tmod n < n := by
  have h1 := Int.tmod_lt_of_pos i h
  have h2 := Int.tmod_lt_of_pos (-i) h
  rw [Int.neg_tmod] at h2
  omega
theorem own_cap {M : Me} {L : List Ck} {w : World} {A : Option Addr} {m c : Nat} {T : TypeId} {sz : Nat} {xs : List Value} (k : Nat) (hm : Mem M L w) (hk : L[k]? = some (.own A m c T sz xs)) : m ≤ c ∧ c ≤ 9223372036854775807 := by
  have h : w.ownsRow 0 T sz (.slice A m c) m xs := hm.get hk
  rcases h.2 with ⟨hv, hm0⟩ | ⟨g, cap, cur, hv, _, _, hmc, hcm, _⟩
  · cases hv; omega
  · cases hv; exact ⟨hmc, hcm⟩
attribute [local irreducible] LX CX Yl Gives RetIs Fn








































































































end Go.Proofs.YthmdiopbiiimeaaDoor.kit
