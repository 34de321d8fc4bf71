/- gates: AdmitNone and AdmitConfigs, for every argument. -/
import Derived.Test.YtbhbimfljjgijaaGg
import Derived.Test.YtbhbimfljjgijaaYes
namespace Go.Proofs.Ytbhbimfljjgijaa.gt
open Go.RowKit Go.Proofs.Ytbhbimfljjgijaa.win
open Go.ChangeShapes Go.WideShapes Go.ChangeAt in
theorem reads_win {H : Type} {enc : TypeId × Value → H} {w : World} {base : Nat} {spare : Nat → Bool} {held : Bool} : Reads enc Try.prog w base spare held 42 4 (fun x : Int × Int × Int × Int × Unit => [.int .u8 x.1, .int .i64 x.2.1, .int .i64 x.2.2.1, .int .i64 x.2.2.2.1]) (fun _ => True) :=
  (reads_struct Try.underlying42 (by kernel_rfl) (freads_cons (reads_int (k := .u8) Try.underlying5 (by kernel_rfl)) rfl (freads_cons (reads_int Try.underlying2 (by kernel_rfl)) rfl (freads_cons (reads_int Try.underlying2 (by kernel_rfl)) rfl (freads_cons (reads_int Try.underlying2 (by kernel_rfl)) rfl freads_nil))))).map (fun x => x) (fun _ => rfl) (fun _ _ => trivial) (fun _ => rfl)
open Go.ChangeShapes Go.WideShapes Go.ChangeAt in
theorem reads_cf {H : Type} {enc : TypeId × Value → H} {w : World} {base : Nat} {spare : Nat → Bool} {held : Bool} : Reads enc Try.prog w base spare held 44 11 Cf.cells (fun _ => True) :=
  (reads_struct Try.underlying44 (by kernel_rfl) (freads_cons reads_win rfl (freads_cons (reads_int Try.underlying2 (by kernel_rfl)) rfl (freads_cons (reads_int Try.underlying3 (by kernel_rfl)) rfl (freads_cons (reads_int Try.underlying3 (by kernel_rfl)) rfl (freads_cons (reads_int Try.underlying3 (by kernel_rfl)) rfl (freads_cons (reads_int Try.underlying3 (by kernel_rfl)) rfl (freads_cons (reads_int Try.underlying3 (by kernel_rfl)) rfl (freads_cons (reads_int Try.underlying3 (by kernel_rfl)) rfl freads_nil))))))))).map
    (fun x => ⟨x.1.1, x.1.2.1, x.1.2.2.1, x.1.2.2.2.1, x.2.1, x.2.2.1, x.2.2.2.1, x.2.2.2.2.1, x.2.2.2.2.2.1, x.2.2.2.2.2.2.1, x.2.2.2.2.2.2.2.1⟩) (fun _ => rfl) (fun _ _ => trivial) (fun _ => rfl)
theorem le_wf {n : Int} (h : (Lit.int .i64 n).wf = true) : n ≤ 9223372036854775807 := by
  have h2 : IntKind.i64.min ≤ n ∧ n ≤ IntKind.i64.max := by simpa [Lit.wf] using h
  have e2 : IntKind.i64.max = 9223372036854775807 := by decide
  rw [e2] at h2
  exact h2.2
theorem none_all (x0 x1 : Int) (W : World) (h0 : (Lit.int .i64 x0).wf = true) (_ : (Lit.int .i64 x1).wf = true) : Calls Try.prog 8 #[.int .i64 x0, .int .i64 x1] W fun e W' => e = .returned (.bool true) ∧ Below W.heap.size W W' := (none_fn x0 x1 (le_wf h0)).yes W (mem0 W)
theorem configs_all (x0 : Cf) (x1 : Int) (W : World) (_ : True) (_ : (Lit.int .i64 x1).wf = true) : Calls Try.prog 7 #[.agg x0.cells.toArray, .int .i64 x1] W fun e W' => e = .returned (.bool true) ∧ Below W.heap.size W W' := (configs_fn x0 x1).yes W (mem0 W)
end Go.Proofs.Ytbhbimfljjgijaa.gt
