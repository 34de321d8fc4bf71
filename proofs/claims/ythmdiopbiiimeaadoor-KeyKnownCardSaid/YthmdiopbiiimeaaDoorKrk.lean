/- keys: KeyPuts, of what is handed in. -/
import Derived.Test.YthmdiopbiiimeaaDoorKtb
import Derived.Test.YthmdiopbiiimeaaDoorRd
import Derived.Test.YthmdiopbiiimeaaDoorRl
namespace Go.Proofs.YthmdiopbiiimeaaDoor.ky
open Go.ChangeShapes Go.WideShapes Go.ChangeAt Go.RowKit Go.Proofs.YthmdiopbiiimeaaDoor.pk Go.Proofs.YthmdiopbiiimeaaDoor.bd
def KP.wf (p : KP) : Prop := p.s.length ≤ 9223372036854775807 ∧ (Lit.int .i64 p.n).wf = true
theorem reads_part {H : Type} {enc : TypeId × Value → H} {w : World} {base : Nat} {spare : Nat → Bool} {held : Bool} : Reads enc Tryd.prog w base spare held 39 3 KP.cells KP.wf :=
  (reads_struct Tryd.underlying39 (by kernel_rfl) (freads_cons (reads_uk uk8 rfl rfl Tryd.underlying5 (by kernel_rfl)) rfl (freads_cons (reads_int Tryd.underlying2 (by kernel_rfl)) rfl (freads_cons (reads_str Tryd.underlying9 (by kernel_rfl)) rfl freads_nil)))).map (fun x => ⟨x.1, x.2.1, x.2.2.1⟩) (fun _ => rfl) (fun _ h => ⟨h.2.2.1, h.2.1⟩) (fun _ => rfl)
theorem gv_mem {W : World} {m : Int} (hm : W.cell? ⟨0, 0, none⟩ = some (.int .i64 m)) : Mem ⟨W, []⟩ [gv m] W := in_ro (cell_row hm) (mem0 W) rfl
theorem puts_all (m : Int) (x0 x1 : Sl KP) (W : World) (h0 : Sl.ok W 3 KP.cells KP.wf x0) (h1 : Sl.ok W 3 KP.cells KP.wf x1) (hm : W.cell? ⟨0, 0, none⟩ = some (.int .i64 m)) :
    Calls Tryd.prog 3 #[.slice x0.A x0.n x0.c, .slice x1.A x1.n x1.c] W fun e W' => e = .returned (.bool true) ∧ Below W.heap.size W W' :=
  (puts_fn m x0.A x1.A x0.n x0.c x1.n x1.c x0.l x1.l h0.2.1 h1.2.1 (Nat.le_trans h0.2.2.1 h0.2.2.2.1) (Nat.le_trans h1.2.2.1 h1.2.2.2.1) (fun p hp => (h0.2.2.2.2 p hp).1) (fun p hp => (h1.2.2.2.2 p hp).1)).yes W (in_ro h0.1 (in_ro h1.1 (gv_mem hm) rfl) rfl)
end Go.Proofs.YthmdiopbiiimeaaDoor.ky
