/-
  No cell of these rows narrows 'for every input' (looked for: loops, veiled, ifaces, maps, wideKeys, modest, calm, conditions, laid).
  DERIVED. THE GIVEN ROWS OF THIS SEAT. 4 by the template 'for every input the law returns true; each argument reads behind the call as it read before'; 0 by the template 'total and deterministic' (their statements: YtmochicneilhhaaTotals.lean).
  GIVEN WITH THE SEED: the statements are not yours to turn. If you find one false, say at which input.
  Laid BY PROGRAM, IN A SANDBOX (cutbox-rows.mjs): the forced cells as the released guide's own fill.sh prints them over the translation 3a8234c02a36f13c… (all of the seat's roots in one cut). By AI agents, Wed Nov 11 2026. No macro, syntax, notation, axiom, sorry.
-/
import Derived.Test.YtmochicneilhhaaChecked
import GoSem.Claim
import GoSem.ClaimJoined
import GoSem.ClaimMapViews
import Derived.JoinedTies
import Derived.KernelRfl
namespace Go.Proofs.Ytmochicneilhhaa
/- THE CELL 'sum', in the pinned program and in every row, IS THE sha256 OF THE DUMP (.gsa) THAT YtmochicneilhhaaProg.lean LOADS. Nothing in Lean hashes anything: it is a label: what it is worth is what the hold of that sum in a sandbox is worth. -/
noncomputable def Try.pinned : Pinned := { name := "ytmochicneilhhaa", sum := "3a8234c02a36f13c5fa3c47fe9d85f8c6f80c0f7c5b9e9ea28562547dcc728bd", checked := Try.checked }
namespace Rows
def none {H : Type} : Left H := { results := [], args := [] }

/-- 'tidepoollaw09.RequestPuts': WHATEVER THE INPUT: true; the input reads as it did. -/
def requestPutsSpec : ChangeSpec := { name := "requestPuts", fn := fun _ => fun
  | [d1, d2] => { results := [.lit (.bool true)], args := [d1, d2] }
  | _ => none }
def requestPutsRow : OpenClaim := { program := "ytmochicneilhhaa", sum := "3a8234c02a36f13c5fa3c47fe9d85f8c6f80c0f7c5b9e9ea28562547dcc728bd", func := "tidepool/tidepoollaw09.RequestPuts", spec := "requestPuts", inPlace := ["internal/bytealg.IndexByteString", "internal/bytealg.IndexString"], unfollowed := true, recurses := true, named := ["internal/bytealg.MaxLen"], apart := false }
def RequestPutsSaid : Prop := requestPutsRow.holds Try.pinned (OpenSpec.ofChange requestPutsSpec)

/-- ITS FALSE NEIGHBOUR: 'it returns false'. Refute it at one input. -/
def requestPutsWrong : ChangeSpec := { name := "requestPuts", fn := fun _ => fun
  | [d1, d2] => { results := [.lit (.bool false)], args := [d1, d2] }
  | _ => none }
def RequestPutsWrongFalsely : Prop := requestPutsRow.holds Try.pinned (OpenSpec.ofChange requestPutsWrong)

/-- 'tidepoollaw09.RequestReads': WHATEVER THE INPUT: true; the input reads as it did. -/
def requestReadsSpec : ChangeSpec := { name := "requestReads", fn := fun _ => fun
  | [d] => { results := [.lit (.bool true)], args := [d] }
  | _ => none }
def requestReadsRow : OpenClaim := { program := "ytmochicneilhhaa", sum := "3a8234c02a36f13c5fa3c47fe9d85f8c6f80c0f7c5b9e9ea28562547dcc728bd", func := "tidepool/tidepoollaw09.RequestReads", spec := "requestReads", inPlace := ["internal/bytealg.IndexByteString", "internal/bytealg.IndexString"], unfollowed := true, recurses := true, named := ["internal/bytealg.MaxLen"], apart := false }
def RequestReadsSaid : Prop := requestReadsRow.holds Try.pinned (OpenSpec.ofChange requestReadsSpec)

/-- ITS FALSE NEIGHBOUR: 'it returns false'. Refute it at one input. -/
def requestReadsWrong : ChangeSpec := { name := "requestReads", fn := fun _ => fun
  | [d] => { results := [.lit (.bool false)], args := [d] }
  | _ => none }
def RequestReadsWrongFalsely : Prop := requestReadsRow.holds Try.pinned (OpenSpec.ofChange requestReadsWrong)

/-- 'tidepoollaw09.RequestBack': WHATEVER THE INPUT: true; the input reads as it did. -/
def requestBackSpec : ChangeSpec := { name := "requestBack", fn := fun _ => fun
  | [d1, d2, d3] => { results := [.lit (.bool true)], args := [d1, d2, d3] }
  | _ => none }
def requestBackRow : OpenClaim := { program := "ytmochicneilhhaa", sum := "3a8234c02a36f13c5fa3c47fe9d85f8c6f80c0f7c5b9e9ea28562547dcc728bd", func := "tidepool/tidepoollaw09.RequestBack", spec := "requestBack", inPlace := ["internal/bytealg.IndexByteString", "internal/bytealg.IndexString"], unfollowed := true, recurses := true, named := ["internal/bytealg.MaxLen"], apart := false }
def RequestBackSaid : Prop := requestBackRow.holds Try.pinned (OpenSpec.ofChange requestBackSpec)

/-- ITS FALSE NEIGHBOUR: 'it returns false'. Refute it at one input. -/
def requestBackWrong : ChangeSpec := { name := "requestBack", fn := fun _ => fun
  | [d1, d2, d3] => { results := [.lit (.bool false)], args := [d1, d2, d3] }
  | _ => none }
def RequestBackWrongFalsely : Prop := requestBackRow.holds Try.pinned (OpenSpec.ofChange requestBackWrong)

/-- 'tidepoollaw09.RequestKnown': WHATEVER THE INPUT: true; the input reads as it did. -/
def requestKnownSpec : ChangeSpec := { name := "requestKnown", fn := fun _ => fun
  | [] => { results := [.lit (.bool true)], args := [] }
  | _ => none }
def requestKnownRow : OpenClaim := { program := "ytmochicneilhhaa", sum := "3a8234c02a36f13c5fa3c47fe9d85f8c6f80c0f7c5b9e9ea28562547dcc728bd", func := "tidepool/tidepoollaw09.RequestKnown", spec := "requestKnown", inPlace := ["internal/bytealg.IndexByteString", "internal/bytealg.IndexString"], unfollowed := true, recurses := true, named := ["internal/bytealg.MaxLen"], apart := false }
def RequestKnownSaid : Prop := requestKnownRow.holds Try.pinned (OpenSpec.ofChange requestKnownSpec)

/-- ITS FALSE NEIGHBOUR: 'it returns false'. Refute it at one input. -/
def requestKnownWrong : ChangeSpec := { name := "requestKnown", fn := fun _ => fun
  | [] => { results := [.lit (.bool false)], args := [] }
  | _ => none }
def RequestKnownWrongFalsely : Prop := requestKnownRow.holds Try.pinned (OpenSpec.ofChange requestKnownWrong)

/- THE SECOND FORM. 'bulk': how many values and letters a reading holds, each counted each time it is reached (what is shared counts as often as it is met; a slice's spare places count too). A statement '..UptoSaid' is the law's where the arguments, and the package variables that the reading takes, are together of bulk at most 1048576: NARROWER than '..Said'. Prove '..Said' where nothing that the law and all that it calls make is longer than what came in: it says more and counts as full. Else prove '..UptoSaid'. A law counts once. -/
mutual
def uptoBulk {H : Type} : DataW H → Nat
  | .lit (.string bytes) => bytes.length + 1
  | .lit _ => 1
  | .nil => 1
  | .ptr d => uptoBulk d + 1
  | .slice elems spare => uptoBulkAll elems + uptoBulkAll spare + 1
  | .agg parts => uptoBulkAll parts + 1
  | .iface _ d => uptoBulk d + 1
  | .map entries => uptoBulkEntries entries + 1
  | .held _ => 1
def uptoBulkAll {H : Type} : List (DataW H) → Nat
  | [] => 0
  | d :: r => uptoBulk d + uptoBulkAll r
def uptoBulkEntries {H : Type} : List (Lit × DataW H) → Nat
  | [] => 0
  | x :: r => uptoBulkEntry x + uptoBulkEntries r
def uptoBulkEntry {H : Type} : Lit × DataW H → Nat
  | (.string bytes, d) => bytes.length + uptoBulk d + 1
  | (_, d) => uptoBulk d + 1
 end
def uptoSmall : (H : Type) → List (DataW H) → Bool := fun _ ds => decide (uptoBulkAll ds ≤ 1048576)
def OpenSpec.upto (s : _root_.Go.ChangeSpec) : _root_.Go.OpenSpec := { _root_.Go.OpenSpec.ofChange s with cond := some uptoSmall }

/-- 'tidepoollaw09.RequestPuts', WHERE WHAT IT READS IS OF BULK AT MOST 1048576: true; the input reads as it did. -/
def requestPutsUptoRow : OpenClaim := { program := "ytmochicneilhhaa", sum := "3a8234c02a36f13c5fa3c47fe9d85f8c6f80c0f7c5b9e9ea28562547dcc728bd", func := "tidepool/tidepoollaw09.RequestPuts", spec := "requestPuts", inPlace := ["internal/bytealg.IndexByteString", "internal/bytealg.IndexString"], unfollowed := true, recurses := true, named := ["internal/bytealg.MaxLen"], apart := false, narrowed := true }
def RequestPutsUptoSaid : Prop := requestPutsUptoRow.holds Try.pinned (OpenSpec.upto requestPutsSpec)

/-- 'tidepoollaw09.RequestReads', WHERE WHAT IT READS IS OF BULK AT MOST 1048576: true; the input reads as it did. -/
def requestReadsUptoRow : OpenClaim := { program := "ytmochicneilhhaa", sum := "3a8234c02a36f13c5fa3c47fe9d85f8c6f80c0f7c5b9e9ea28562547dcc728bd", func := "tidepool/tidepoollaw09.RequestReads", spec := "requestReads", inPlace := ["internal/bytealg.IndexByteString", "internal/bytealg.IndexString"], unfollowed := true, recurses := true, named := ["internal/bytealg.MaxLen"], apart := false, narrowed := true }
def RequestReadsUptoSaid : Prop := requestReadsUptoRow.holds Try.pinned (OpenSpec.upto requestReadsSpec)

/-- 'tidepoollaw09.RequestBack', WHERE WHAT IT READS IS OF BULK AT MOST 1048576: true; the input reads as it did. -/
def requestBackUptoRow : OpenClaim := { program := "ytmochicneilhhaa", sum := "3a8234c02a36f13c5fa3c47fe9d85f8c6f80c0f7c5b9e9ea28562547dcc728bd", func := "tidepool/tidepoollaw09.RequestBack", spec := "requestBack", inPlace := ["internal/bytealg.IndexByteString", "internal/bytealg.IndexString"], unfollowed := true, recurses := true, named := ["internal/bytealg.MaxLen"], apart := false, narrowed := true }
def RequestBackUptoSaid : Prop := requestBackUptoRow.holds Try.pinned (OpenSpec.upto requestBackSpec)

/-- 'tidepoollaw09.RequestKnown', WHERE WHAT IT READS IS OF BULK AT MOST 1048576: true; the input reads as it did. -/
def requestKnownUptoRow : OpenClaim := { program := "ytmochicneilhhaa", sum := "3a8234c02a36f13c5fa3c47fe9d85f8c6f80c0f7c5b9e9ea28562547dcc728bd", func := "tidepool/tidepoollaw09.RequestKnown", spec := "requestKnown", inPlace := ["internal/bytealg.IndexByteString", "internal/bytealg.IndexString"], unfollowed := true, recurses := true, named := ["internal/bytealg.MaxLen"], apart := false, narrowed := true }
def RequestKnownUptoSaid : Prop := requestKnownUptoRow.holds Try.pinned (OpenSpec.upto requestKnownSpec)

end Rows
end Go.Proofs.Ytmochicneilhhaa
