/- events: operations, as they are handed; EventPuts from them. -/
import Derived.Test.YtbhbimfljjgijaaEk
import Derived.Test.YtbhbimfljjgijaaRd
namespace Go.Proofs.Ytbhbimfljjgijaa.ev
open Go.RowKit Go.Proofs.Ytbhbimfljjgijaa.kit Go.Proofs.Ytbhbimfljjgijaa.pk
def EOp.ok (o : EOp) : Prop := o.key.length ≤ 9223372036854775807 ∧ (Lit.int .i64 o.t).wf = true ∧ (Lit.int .i64 o.v).wf = true
theorem reads_op {H : Type} {enc : TypeId × Value → H} {w : World} {base : Nat} {spare : Nat → Bool} {held : Bool} : Reads enc Try.prog w base spare held 26 4 EOp.cells EOp.ok :=
  (reads_struct Try.underlying26 (by kernel_rfl) (freads_cons (reads_uk uk8 rfl rfl Try.underlying5 (by kernel_rfl)) rfl (freads_cons (reads_str Try.underlying9 (by kernel_rfl)) rfl (freads_cons (reads_int Try.underlying2 (by kernel_rfl)) rfl (freads_cons (reads_int Try.underlying2 (by kernel_rfl)) rfl freads_nil))))).map (fun x => ⟨x.1, x.2.1, x.2.2.1, x.2.2.2.1⟩) (fun _ => rfl) (fun _ h => ⟨h.2.1, h.2.2.1, h.2.2.2.1⟩) (fun _ => rfl)
theorem puts_all (x0 : Sl EOp) (W : World) (h0 : Sl.ok W 4 EOp.cells EOp.ok x0) :
    Calls Try.prog 3 #[.slice x0.A x0.n x0.c] W fun e W' => e = .returned (.bool true) ∧ Below W.heap.size W W' :=
  (puts_fn x0.A x0.n x0.c x0.l h0.2.1 ⟨h0.2.2.1, h0.2.2.2.1⟩ (fun o ho => (h0.2.2.2.2 o ho).1)).yes W (in_ro h0.1 (mem0 W) rfl)
end Go.Proofs.Ytbhbimfljjgijaa.ev
