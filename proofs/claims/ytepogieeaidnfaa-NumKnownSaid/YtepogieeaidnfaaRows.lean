/-
  No cell of these rows narrows 'for every input' (looked for: loops, veiled, ifaces, maps, wideKeys, modest, calm, conditions, laid).
  DERIVED. THE GIVEN ROWS OF THIS SEAT. 12 by the template 'for every input the law returns true; each argument reads behind the call as it read before'; 0 by the template 'total and deterministic' (their statements: YtepogieeaidnfaaTotals.lean).
  GIVEN WITH THE SEED: the statements are not yours to turn. If you find one false, say at which input.
  Laid BY PROGRAM, IN A SANDBOX (cutbox-rows.mjs): the forced cells as the released guide's own fill.sh prints them over the translation 97aced64f6e4990d… (all of the seat's roots in one cut). By AI agents, Wed Nov 11 2026. No macro, syntax, notation, axiom, sorry.
-/
import Derived.Test.YtepogieeaidnfaaChecked
import GoSem.Claim
import GoSem.ClaimJoined
import GoSem.ClaimMapViews
import Derived.JoinedTies
import Derived.KernelRfl
namespace Go.Proofs.Ytepogieeaidnfaa
/- THE CELL 'sum', in the pinned program and in every row, IS THE sha256 OF THE DUMP (.gsa) THAT YtepogieeaidnfaaProg.lean LOADS. Nothing in Lean hashes anything: it is a label: what it is worth is what the hold of that sum in a sandbox is worth. -/
noncomputable def Try.pinned : Pinned := { name := "ytepogieeaidnfaa", sum := "97aced64f6e4990d1eb12e3255bfaea90684af8d81c3bedc70f8c8191c3eafc5", checked := Try.checked }
namespace Rows
def none {H : Type} : Left H := { results := [], args := [] }

/-- 'tidepoollaw14.WindowMakes': WHATEVER THE INPUT: true; the input reads as it did. -/
def windowMakesSpec : ChangeSpec := { name := "windowMakes", fn := fun _ => fun
  | [d1, d2] => { results := [.lit (.bool true)], args := [d1, d2] }
  | _ => none }
def windowMakesRow : OpenClaim := { program := "ytepogieeaidnfaa", sum := "97aced64f6e4990d1eb12e3255bfaea90684af8d81c3bedc70f8c8191c3eafc5", func := "tidepool/tidepoollaw14.WindowMakes", spec := "windowMakes", unfollowed := true, recurses := true, apart := false }
def WindowMakesSaid : Prop := windowMakesRow.holds Try.pinned (OpenSpec.ofChange windowMakesSpec)

/-- ITS FALSE NEIGHBOUR: 'it returns false'. Refute it at one input. -/
def windowMakesWrong : ChangeSpec := { name := "windowMakes", fn := fun _ => fun
  | [d1, d2] => { results := [.lit (.bool false)], args := [d1, d2] }
  | _ => none }
def WindowMakesWrongFalsely : Prop := windowMakesRow.holds Try.pinned (OpenSpec.ofChange windowMakesWrong)

/-- 'tidepoollaw14.WindowSpans': WHATEVER THE INPUT: true; the input reads as it did. -/
def windowSpansSpec : ChangeSpec := { name := "windowSpans", fn := fun _ => fun
  | [d1, d2, d3, d4] => { results := [.lit (.bool true)], args := [d1, d2, d3, d4] }
  | _ => none }
def windowSpansRow : OpenClaim := { program := "ytepogieeaidnfaa", sum := "97aced64f6e4990d1eb12e3255bfaea90684af8d81c3bedc70f8c8191c3eafc5", func := "tidepool/tidepoollaw14.WindowSpans", spec := "windowSpans", unfollowed := true, recurses := true, apart := false }
def WindowSpansSaid : Prop := windowSpansRow.holds Try.pinned (OpenSpec.ofChange windowSpansSpec)

/-- ITS FALSE NEIGHBOUR: 'it returns false'. Refute it at one input. -/
def windowSpansWrong : ChangeSpec := { name := "windowSpans", fn := fun _ => fun
  | [d1, d2, d3, d4] => { results := [.lit (.bool false)], args := [d1, d2, d3, d4] }
  | _ => none }
def WindowSpansWrongFalsely : Prop := windowSpansRow.holds Try.pinned (OpenSpec.ofChange windowSpansWrong)

/-- 'tidepoollaw14.WindowTells': WHATEVER THE INPUT: true; the input reads as it did. -/
def windowTellsSpec : ChangeSpec := { name := "windowTells", fn := fun _ => fun
  | [d1, d2, d3] => { results := [.lit (.bool true)], args := [d1, d2, d3] }
  | _ => none }
def windowTellsRow : OpenClaim := { program := "ytepogieeaidnfaa", sum := "97aced64f6e4990d1eb12e3255bfaea90684af8d81c3bedc70f8c8191c3eafc5", func := "tidepool/tidepoollaw14.WindowTells", spec := "windowTells", unfollowed := true, recurses := true, apart := false }
def WindowTellsSaid : Prop := windowTellsRow.holds Try.pinned (OpenSpec.ofChange windowTellsSpec)

/-- ITS FALSE NEIGHBOUR: 'it returns false'. Refute it at one input. -/
def windowTellsWrong : ChangeSpec := { name := "windowTells", fn := fun _ => fun
  | [d1, d2, d3] => { results := [.lit (.bool false)], args := [d1, d2, d3] }
  | _ => none }
def WindowTellsWrongFalsely : Prop := windowTellsRow.holds Try.pinned (OpenSpec.ofChange windowTellsWrong)

/-- 'tidepoollaw14.WindowParts': WHATEVER THE INPUT: true; the input reads as it did. -/
def windowPartsSpec : ChangeSpec := { name := "windowParts", fn := fun _ => fun
  | [d1, d2, d3] => { results := [.lit (.bool true)], args := [d1, d2, d3] }
  | _ => none }
def windowPartsRow : OpenClaim := { program := "ytepogieeaidnfaa", sum := "97aced64f6e4990d1eb12e3255bfaea90684af8d81c3bedc70f8c8191c3eafc5", func := "tidepool/tidepoollaw14.WindowParts", spec := "windowParts", unfollowed := true, recurses := true, apart := false }
def WindowPartsSaid : Prop := windowPartsRow.holds Try.pinned (OpenSpec.ofChange windowPartsSpec)

/-- ITS FALSE NEIGHBOUR: 'it returns false'. Refute it at one input. -/
def windowPartsWrong : ChangeSpec := { name := "windowParts", fn := fun _ => fun
  | [d1, d2, d3] => { results := [.lit (.bool false)], args := [d1, d2, d3] }
  | _ => none }
def WindowPartsWrongFalsely : Prop := windowPartsRow.holds Try.pinned (OpenSpec.ofChange windowPartsWrong)

/-- 'tidepoollaw14.WindowKnown': WHATEVER THE INPUT: true; the input reads as it did. -/
def windowKnownSpec : ChangeSpec := { name := "windowKnown", fn := fun _ => fun
  | [] => { results := [.lit (.bool true)], args := [] }
  | _ => none }
def windowKnownRow : OpenClaim := { program := "ytepogieeaidnfaa", sum := "97aced64f6e4990d1eb12e3255bfaea90684af8d81c3bedc70f8c8191c3eafc5", func := "tidepool/tidepoollaw14.WindowKnown", spec := "windowKnown", unfollowed := true, recurses := true, apart := false }
def WindowKnownSaid : Prop := windowKnownRow.holds Try.pinned (OpenSpec.ofChange windowKnownSpec)

/-- ITS FALSE NEIGHBOUR: 'it returns false'. Refute it at one input. -/
def windowKnownWrong : ChangeSpec := { name := "windowKnown", fn := fun _ => fun
  | [] => { results := [.lit (.bool false)], args := [] }
  | _ => none }
def WindowKnownWrongFalsely : Prop := windowKnownRow.holds Try.pinned (OpenSpec.ofChange windowKnownWrong)

/-- 'tidepoollaw18.WaterRises': WHATEVER THE INPUT: true; the input reads as it did. -/
def waterRisesSpec : ChangeSpec := { name := "waterRises", fn := fun _ => fun
  | [d1, d2, d3, d4, d5] => { results := [.lit (.bool true)], args := [d1, d2, d3, d4, d5] }
  | _ => none }
def waterRisesRow : OpenClaim := { program := "ytepogieeaidnfaa", sum := "97aced64f6e4990d1eb12e3255bfaea90684af8d81c3bedc70f8c8191c3eafc5", func := "tidepool/tidepoollaw18.WaterRises", spec := "waterRises", unfollowed := true, recurses := true, apart := false }
def WaterRisesSaid : Prop := waterRisesRow.holds Try.pinned (OpenSpec.ofChange waterRisesSpec)

/-- ITS FALSE NEIGHBOUR: 'it returns false'. Refute it at one input. -/
def waterRisesWrong : ChangeSpec := { name := "waterRises", fn := fun _ => fun
  | [d1, d2, d3, d4, d5] => { results := [.lit (.bool false)], args := [d1, d2, d3, d4, d5] }
  | _ => none }
def WaterRisesWrongFalsely : Prop := waterRisesRow.holds Try.pinned (OpenSpec.ofChange waterRisesWrong)

/-- 'tidepoollaw18.WaterKnown': WHATEVER THE INPUT: true; the input reads as it did. -/
def waterKnownSpec : ChangeSpec := { name := "waterKnown", fn := fun _ => fun
  | [] => { results := [.lit (.bool true)], args := [] }
  | _ => none }
def waterKnownRow : OpenClaim := { program := "ytepogieeaidnfaa", sum := "97aced64f6e4990d1eb12e3255bfaea90684af8d81c3bedc70f8c8191c3eafc5", func := "tidepool/tidepoollaw18.WaterKnown", spec := "waterKnown", unfollowed := true, recurses := true, apart := false }
def WaterKnownSaid : Prop := waterKnownRow.holds Try.pinned (OpenSpec.ofChange waterKnownSpec)

/-- ITS FALSE NEIGHBOUR: 'it returns false'. Refute it at one input. -/
def waterKnownWrong : ChangeSpec := { name := "waterKnown", fn := fun _ => fun
  | [] => { results := [.lit (.bool false)], args := [] }
  | _ => none }
def WaterKnownWrongFalsely : Prop := waterKnownRow.holds Try.pinned (OpenSpec.ofChange waterKnownWrong)

/-- 'tidepoollaw03.NumSums': WHATEVER THE INPUT: true; the input reads as it did. -/
def numSumsSpec : ChangeSpec := { name := "numSums", fn := fun _ => fun
  | [d] => { results := [.lit (.bool true)], args := [d] }
  | _ => none }
def numSumsRow : OpenClaim := { program := "ytepogieeaidnfaa", sum := "97aced64f6e4990d1eb12e3255bfaea90684af8d81c3bedc70f8c8191c3eafc5", func := "tidepool/tidepoollaw03.NumSums", spec := "numSums", unfollowed := true, recurses := true, apart := false }
def NumSumsSaid : Prop := numSumsRow.holds Try.pinned (OpenSpec.ofChange numSumsSpec)

/-- ITS FALSE NEIGHBOUR: 'it returns false'. Refute it at one input. -/
def numSumsWrong : ChangeSpec := { name := "numSums", fn := fun _ => fun
  | [d] => { results := [.lit (.bool false)], args := [d] }
  | _ => none }
def NumSumsWrongFalsely : Prop := numSumsRow.holds Try.pinned (OpenSpec.ofChange numSumsWrong)

/-- 'tidepoollaw03.NumFloors': WHATEVER THE INPUT: true; the input reads as it did. -/
def numFloorsSpec : ChangeSpec := { name := "numFloors", fn := fun _ => fun
  | [d1, d2] => { results := [.lit (.bool true)], args := [d1, d2] }
  | _ => none }
def numFloorsRow : OpenClaim := { program := "ytepogieeaidnfaa", sum := "97aced64f6e4990d1eb12e3255bfaea90684af8d81c3bedc70f8c8191c3eafc5", func := "tidepool/tidepoollaw03.NumFloors", spec := "numFloors", unfollowed := true, recurses := true, apart := false }
def NumFloorsSaid : Prop := numFloorsRow.holds Try.pinned (OpenSpec.ofChange numFloorsSpec)

/-- ITS FALSE NEIGHBOUR: 'it returns false'. Refute it at one input. -/
def numFloorsWrong : ChangeSpec := { name := "numFloors", fn := fun _ => fun
  | [d1, d2] => { results := [.lit (.bool false)], args := [d1, d2] }
  | _ => none }
def NumFloorsWrongFalsely : Prop := numFloorsRow.holds Try.pinned (OpenSpec.ofChange numFloorsWrong)

/-- 'tidepoollaw03.NumBack': WHATEVER THE INPUT: true; the input reads as it did. -/
def numBackSpec : ChangeSpec := { name := "numBack", fn := fun _ => fun
  | [d1, d2, d3, d4] => { results := [.lit (.bool true)], args := [d1, d2, d3, d4] }
  | _ => none }
def numBackRow : OpenClaim := { program := "ytepogieeaidnfaa", sum := "97aced64f6e4990d1eb12e3255bfaea90684af8d81c3bedc70f8c8191c3eafc5", func := "tidepool/tidepoollaw03.NumBack", spec := "numBack", unfollowed := true, recurses := true, apart := false }
def NumBackSaid : Prop := numBackRow.holds Try.pinned (OpenSpec.ofChange numBackSpec)

/-- ITS FALSE NEIGHBOUR: 'it returns false'. Refute it at one input. -/
def numBackWrong : ChangeSpec := { name := "numBack", fn := fun _ => fun
  | [d1, d2, d3, d4] => { results := [.lit (.bool false)], args := [d1, d2, d3, d4] }
  | _ => none }
def NumBackWrongFalsely : Prop := numBackRow.holds Try.pinned (OpenSpec.ofChange numBackWrong)

/-- 'tidepoollaw03.NumTwo': WHATEVER THE INPUT: true; the input reads as it did. -/
def numTwoSpec : ChangeSpec := { name := "numTwo", fn := fun _ => fun
  | [d1, d2, d3] => { results := [.lit (.bool true)], args := [d1, d2, d3] }
  | _ => none }
def numTwoRow : OpenClaim := { program := "ytepogieeaidnfaa", sum := "97aced64f6e4990d1eb12e3255bfaea90684af8d81c3bedc70f8c8191c3eafc5", func := "tidepool/tidepoollaw03.NumTwo", spec := "numTwo", unfollowed := true, recurses := true, apart := false }
def NumTwoSaid : Prop := numTwoRow.holds Try.pinned (OpenSpec.ofChange numTwoSpec)

/-- ITS FALSE NEIGHBOUR: 'it returns false'. Refute it at one input. -/
def numTwoWrong : ChangeSpec := { name := "numTwo", fn := fun _ => fun
  | [d1, d2, d3] => { results := [.lit (.bool false)], args := [d1, d2, d3] }
  | _ => none }
def NumTwoWrongFalsely : Prop := numTwoRow.holds Try.pinned (OpenSpec.ofChange numTwoWrong)

/-- 'tidepoollaw03.NumKnown': WHATEVER THE INPUT: true; the input reads as it did. -/
def numKnownSpec : ChangeSpec := { name := "numKnown", fn := fun _ => fun
  | [] => { results := [.lit (.bool true)], args := [] }
  | _ => none }
def numKnownRow : OpenClaim := { program := "ytepogieeaidnfaa", sum := "97aced64f6e4990d1eb12e3255bfaea90684af8d81c3bedc70f8c8191c3eafc5", func := "tidepool/tidepoollaw03.NumKnown", spec := "numKnown", unfollowed := true, recurses := true, apart := false }
def NumKnownSaid : Prop := numKnownRow.holds Try.pinned (OpenSpec.ofChange numKnownSpec)

/-- ITS FALSE NEIGHBOUR: 'it returns false'. Refute it at one input. -/
def numKnownWrong : ChangeSpec := { name := "numKnown", fn := fun _ => fun
  | [] => { results := [.lit (.bool false)], args := [] }
  | _ => none }
def NumKnownWrongFalsely : Prop := numKnownRow.holds Try.pinned (OpenSpec.ofChange numKnownWrong)

/- THE SECOND FORM. 'bulk': how many values and letters a reading holds, each counted each time it is reached (what is shared counts as often as it is met; a slice's spare places count too). A statement '..UptoSaid' is the law's where the arguments, and the package variables that the reading takes, are together of bulk at most 1048576: NARROWER than '..Said'. Prove '..Said' where nothing that the law and all that it calls make is longer than what came in: it says more and counts as full. Else prove '..UptoSaid'. A law counts once. -/
mutual
def uptoBulk {H : Type} : DataW H → Nat
  | .lit (.string bytes) => bytes.length + 1
  | .lit _ => 1
  | .nil => 1
  | .ptr d => uptoBulk d + 1
  | .slice elems spare => uptoBulkAll elems + uptoBulkAll spare + 1
  | .agg parts => uptoBulkAll parts + 1
  | .iface _ d => uptoBulk d + 1
  | .map entries => uptoBulkEntries entries + 1
  | .held _ => 1
def uptoBulkAll {H : Type} : List (DataW H) → Nat
  | [] => 0
  | d :: r => uptoBulk d + uptoBulkAll r
def uptoBulkEntries {H : Type} : List (Lit × DataW H) → Nat
  | [] => 0
  | x :: r => uptoBulkEntry x + uptoBulkEntries r
def uptoBulkEntry {H : Type} : Lit × DataW H → Nat
  | (.string bytes, d) => bytes.length + uptoBulk d + 1
  | (_, d) => uptoBulk d + 1
 end
def uptoSmall : (H : Type) → List (DataW H) → Bool := fun _ ds => decide (uptoBulkAll ds ≤ 1048576)
def OpenSpec.upto (s : _root_.Go.ChangeSpec) : _root_.Go.OpenSpec := { _root_.Go.OpenSpec.ofChange s with cond := some uptoSmall }

/-- 'tidepoollaw14.WindowMakes', WHERE WHAT IT READS IS OF BULK AT MOST 1048576: true; the input reads as it did. -/
def windowMakesUptoRow : OpenClaim := { program := "ytepogieeaidnfaa", sum := "97aced64f6e4990d1eb12e3255bfaea90684af8d81c3bedc70f8c8191c3eafc5", func := "tidepool/tidepoollaw14.WindowMakes", spec := "windowMakes", unfollowed := true, recurses := true, apart := false, narrowed := true }
def WindowMakesUptoSaid : Prop := windowMakesUptoRow.holds Try.pinned (OpenSpec.upto windowMakesSpec)

/-- 'tidepoollaw14.WindowSpans', WHERE WHAT IT READS IS OF BULK AT MOST 1048576: true; the input reads as it did. -/
def windowSpansUptoRow : OpenClaim := { program := "ytepogieeaidnfaa", sum := "97aced64f6e4990d1eb12e3255bfaea90684af8d81c3bedc70f8c8191c3eafc5", func := "tidepool/tidepoollaw14.WindowSpans", spec := "windowSpans", unfollowed := true, recurses := true, apart := false, narrowed := true }
def WindowSpansUptoSaid : Prop := windowSpansUptoRow.holds Try.pinned (OpenSpec.upto windowSpansSpec)

/-- 'tidepoollaw14.WindowTells', WHERE WHAT IT READS IS OF BULK AT MOST 1048576: true; the input reads as it did. -/
def windowTellsUptoRow : OpenClaim := { program := "ytepogieeaidnfaa", sum := "97aced64f6e4990d1eb12e3255bfaea90684af8d81c3bedc70f8c8191c3eafc5", func := "tidepool/tidepoollaw14.WindowTells", spec := "windowTells", unfollowed := true, recurses := true, apart := false, narrowed := true }
def WindowTellsUptoSaid : Prop := windowTellsUptoRow.holds Try.pinned (OpenSpec.upto windowTellsSpec)

/-- 'tidepoollaw14.WindowParts', WHERE WHAT IT READS IS OF BULK AT MOST 1048576: true; the input reads as it did. -/
def windowPartsUptoRow : OpenClaim := { program := "ytepogieeaidnfaa", sum := "97aced64f6e4990d1eb12e3255bfaea90684af8d81c3bedc70f8c8191c3eafc5", func := "tidepool/tidepoollaw14.WindowParts", spec := "windowParts", unfollowed := true, recurses := true, apart := false, narrowed := true }
def WindowPartsUptoSaid : Prop := windowPartsUptoRow.holds Try.pinned (OpenSpec.upto windowPartsSpec)

/-- 'tidepoollaw14.WindowKnown', WHERE WHAT IT READS IS OF BULK AT MOST 1048576: true; the input reads as it did. -/
def windowKnownUptoRow : OpenClaim := { program := "ytepogieeaidnfaa", sum := "97aced64f6e4990d1eb12e3255bfaea90684af8d81c3bedc70f8c8191c3eafc5", func := "tidepool/tidepoollaw14.WindowKnown", spec := "windowKnown", unfollowed := true, recurses := true, apart := false, narrowed := true }
def WindowKnownUptoSaid : Prop := windowKnownUptoRow.holds Try.pinned (OpenSpec.upto windowKnownSpec)

/-- 'tidepoollaw18.WaterRises', WHERE WHAT IT READS IS OF BULK AT MOST 1048576: true; the input reads as it did. -/
def waterRisesUptoRow : OpenClaim := { program := "ytepogieeaidnfaa", sum := "97aced64f6e4990d1eb12e3255bfaea90684af8d81c3bedc70f8c8191c3eafc5", func := "tidepool/tidepoollaw18.WaterRises", spec := "waterRises", unfollowed := true, recurses := true, apart := false, narrowed := true }
def WaterRisesUptoSaid : Prop := waterRisesUptoRow.holds Try.pinned (OpenSpec.upto waterRisesSpec)

/-- 'tidepoollaw18.WaterKnown', WHERE WHAT IT READS IS OF BULK AT MOST 1048576: true; the input reads as it did. -/
def waterKnownUptoRow : OpenClaim := { program := "ytepogieeaidnfaa", sum := "97aced64f6e4990d1eb12e3255bfaea90684af8d81c3bedc70f8c8191c3eafc5", func := "tidepool/tidepoollaw18.WaterKnown", spec := "waterKnown", unfollowed := true, recurses := true, apart := false, narrowed := true }
def WaterKnownUptoSaid : Prop := waterKnownUptoRow.holds Try.pinned (OpenSpec.upto waterKnownSpec)

/-- 'tidepoollaw03.NumSums', WHERE WHAT IT READS IS OF BULK AT MOST 1048576: true; the input reads as it did. -/
def numSumsUptoRow : OpenClaim := { program := "ytepogieeaidnfaa", sum := "97aced64f6e4990d1eb12e3255bfaea90684af8d81c3bedc70f8c8191c3eafc5", func := "tidepool/tidepoollaw03.NumSums", spec := "numSums", unfollowed := true, recurses := true, apart := false, narrowed := true }
def NumSumsUptoSaid : Prop := numSumsUptoRow.holds Try.pinned (OpenSpec.upto numSumsSpec)

/-- 'tidepoollaw03.NumFloors', WHERE WHAT IT READS IS OF BULK AT MOST 1048576: true; the input reads as it did. -/
def numFloorsUptoRow : OpenClaim := { program := "ytepogieeaidnfaa", sum := "97aced64f6e4990d1eb12e3255bfaea90684af8d81c3bedc70f8c8191c3eafc5", func := "tidepool/tidepoollaw03.NumFloors", spec := "numFloors", unfollowed := true, recurses := true, apart := false, narrowed := true }
def NumFloorsUptoSaid : Prop := numFloorsUptoRow.holds Try.pinned (OpenSpec.upto numFloorsSpec)

/-- 'tidepoollaw03.NumBack', WHERE WHAT IT READS IS OF BULK AT MOST 1048576: true; the input reads as it did. -/
def numBackUptoRow : OpenClaim := { program := "ytepogieeaidnfaa", sum := "97aced64f6e4990d1eb12e3255bfaea90684af8d81c3bedc70f8c8191c3eafc5", func := "tidepool/tidepoollaw03.NumBack", spec := "numBack", unfollowed := true, recurses := true, apart := false, narrowed := true }
def NumBackUptoSaid : Prop := numBackUptoRow.holds Try.pinned (OpenSpec.upto numBackSpec)

/-- 'tidepoollaw03.NumTwo', WHERE WHAT IT READS IS OF BULK AT MOST 1048576: true; the input reads as it did. -/
def numTwoUptoRow : OpenClaim := { program := "ytepogieeaidnfaa", sum := "97aced64f6e4990d1eb12e3255bfaea90684af8d81c3bedc70f8c8191c3eafc5", func := "tidepool/tidepoollaw03.NumTwo", spec := "numTwo", unfollowed := true, recurses := true, apart := false, narrowed := true }
def NumTwoUptoSaid : Prop := numTwoUptoRow.holds Try.pinned (OpenSpec.upto numTwoSpec)

/-- 'tidepoollaw03.NumKnown', WHERE WHAT IT READS IS OF BULK AT MOST 1048576: true; the input reads as it did. -/
def numKnownUptoRow : OpenClaim := { program := "ytepogieeaidnfaa", sum := "97aced64f6e4990d1eb12e3255bfaea90684af8d81c3bedc70f8c8191c3eafc5", func := "tidepool/tidepoollaw03.NumKnown", spec := "numKnown", unfollowed := true, recurses := true, apart := false, narrowed := true }
def NumKnownUptoSaid : Prop := numKnownUptoRow.holds Try.pinned (OpenSpec.upto numKnownSpec)

end Rows
end Go.Proofs.Ytepogieeaidnfaa
