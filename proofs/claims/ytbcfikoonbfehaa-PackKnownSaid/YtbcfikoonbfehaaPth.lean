/- packed numbers and texts: PackBack, from what was handed. -/
import Derived.Test.YtbcfikoonbfehaaPtg
namespace Go.Proofs.Ytbcfikoonbfehaa.pk
open Go.RowKit Go.Proofs.Ytbcfikoonbfehaa.kit
theorem flat_us (zs : List (BitVec 64)) : (zs.flatMap fun x : BitVec 64 => [Value.int .u64 x.toNat]) = us zs := by
  induction zs with
  | nil => rfl
  | cons x l ih => rw [List.flatMap_cons, ih]; rfl
theorem flat_strs (ss : List (List B8)) : (ss.flatMap fun l : List B8 => [Value.string (sb l)]) = strs ss := by
  induction ss with
  | nil => rfl
  | cons x l ih => rw [List.flatMap_cons, ih]; rfl
theorem back_all (x0 : Sl (BitVec 64)) (x1 : Sl (List B8)) (W : World) (h0 : Sl.ok W 1 (fun x : BitVec 64 => [.int .u64 x.toNat]) (fun _ => True) x0) (h1 : Sl.ok W 1 (fun l : List B8 => [.string (sb l)]) (fun l => l.length ≤ 9223372036854775807) x1) :
    Calls Try.prog 8 #[.slice x0.A x0.n x0.c, .slice x1.A x1.n x1.c] W fun e W' => e = .returned (.bool true) ∧ Below W.heap.size W W' := by
  have r0 := h0.1
  have r1 := h1.1
  rw [flat_us] at r0
  rw [flat_strs] at r1
  exact (back_fn x0.A x1.A x0.n x0.c x1.n x1.c x0.l x1.l h0.2.1 h1.2.1 ⟨h0.2.2.1, h0.2.2.2.1⟩ ⟨h1.2.2.1, h1.2.2.2.1⟩ h1.2.2.2.2).yes W (in_ro r0 (in_ro r1 (mem0 W) rfl) rfl)
end Go.Proofs.Ytbcfikoonbfehaa.pk
