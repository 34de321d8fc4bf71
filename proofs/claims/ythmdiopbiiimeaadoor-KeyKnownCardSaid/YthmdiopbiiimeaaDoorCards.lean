/-
  DERIVED. GIVEN WITH THE SEED: THE CARDS: each row of YthmdiopbiiimeaaDoorRows.lean that lists a variable, with what it lists TIED to the program's text (the seventh form; the later family's looks); each row that meets fmt, with fmt's text TOLD by the authors' own Lean function (tested against real Go, not proved from fmt's source: count such statements apart). THE CARD IS WHAT COUNTS. Prove the row's statement (the work); the ties are given (YthmdiopbiiimeaaDoorTie.lean); close each card by the builder's one call (the guide's Derived/Test/ToyasCard.lean, 'card_holds'). Laid BY PROGRAM, IN A SANDBOX (cutbox-door.mjs). By AI agents, Wed Nov 11 2026. No macro, syntax, notation, axiom, sorry.
-/
import Derived.Test.YthmdiopbiiimeaaDoorRows
import GoSem.ClaimSeven
namespace Go.Proofs.YthmdiopbiiimeaaDoor
namespace Rows

/-- THE TIED CARD OF 'tidepoollaw04.KeyPuts'. -/
def keyPutsCard : Claim7 := { stood := { row := keyPutsRow, standIns := [], harness := (true, "0d5296082ef7151e8b875763bd7bc5a3faf201e9bab0912f782de28bc1cff2fa"), looks := false }, kinds := [], alts := [], laidByText := true, laidKinds := [.data, .pinned], laidTests := true, laidLooks := .later }
def KeyPutsCardSaid : Prop := Claim7.holds Tryd.pinned (.plain (OpenSpec.ofChange keyPutsSpec)) keyPutsCard

/-- THE TIED CARD OF 'tidepoollaw04.KeyReads'. -/
def keyReadsCard : Claim7 := { stood := { row := keyReadsRow, standIns := [], harness := (true, "0d5296082ef7151e8b875763bd7bc5a3faf201e9bab0912f782de28bc1cff2fa"), looks := false }, kinds := [], alts := [], laidByText := true, laidKinds := [.data, .pinned], laidTests := true, laidLooks := .later }
def KeyReadsCardSaid : Prop := Claim7.holds Tryd.pinned (.plain (OpenSpec.ofChange keyReadsSpec)) keyReadsCard

/-- THE TIED CARD OF 'tidepoollaw04.KeyPanes'. -/
def keyPanesCard : Claim7 := { stood := { row := keyPanesRow, standIns := [], harness := (true, "0d5296082ef7151e8b875763bd7bc5a3faf201e9bab0912f782de28bc1cff2fa"), looks := false }, kinds := [], alts := [], laidByText := true, laidKinds := [.data, .pinned], laidTests := true, laidLooks := .later }
def KeyPanesCardSaid : Prop := Claim7.holds Tryd.pinned (.plain (OpenSpec.ofChange keyPanesSpec)) keyPanesCard

/-- THE TIED CARD OF 'tidepoollaw04.KeyOrder'. -/
def keyOrderCard : Claim7 := { stood := { row := keyOrderRow, standIns := [], harness := (true, "0d5296082ef7151e8b875763bd7bc5a3faf201e9bab0912f782de28bc1cff2fa"), looks := false }, kinds := [], alts := [], laidByText := true, laidKinds := [.data, .pinned], laidTests := true, laidLooks := .later }
def KeyOrderCardSaid : Prop := Claim7.holds Tryd.pinned (.plain (OpenSpec.ofChange keyOrderSpec)) keyOrderCard

/-- THE TIED CARD OF 'tidepoollaw04.KeyKnown'. -/
def keyKnownCard : Claim7 := { stood := { row := keyKnownRow, standIns := [], harness := (true, "0d5296082ef7151e8b875763bd7bc5a3faf201e9bab0912f782de28bc1cff2fa"), looks := false }, kinds := [], alts := [], laidByText := true, laidKinds := [.data, .pinned], laidTests := true, laidLooks := .later }
def KeyKnownCardSaid : Prop := Claim7.holds Tryd.pinned (.plain (OpenSpec.ofChange keyKnownSpec)) keyKnownCard

/-- THE SECOND FORM's CARD OF 'tidepoollaw04.KeyPuts'. -/
def keyPutsUptoCard : Claim7 := { stood := { row := keyPutsUptoRow, standIns := [], harness := (true, "0d5296082ef7151e8b875763bd7bc5a3faf201e9bab0912f782de28bc1cff2fa"), looks := false }, kinds := [], alts := [], laidByText := true, laidKinds := [.data, .pinned], laidTests := true, laidLooks := .later }
def KeyPutsUptoCardSaid : Prop := Claim7.holds Tryd.pinned (.plain (OpenSpec.upto keyPutsSpec)) keyPutsUptoCard

/-- THE SECOND FORM's CARD OF 'tidepoollaw04.KeyReads'. -/
def keyReadsUptoCard : Claim7 := { stood := { row := keyReadsUptoRow, standIns := [], harness := (true, "0d5296082ef7151e8b875763bd7bc5a3faf201e9bab0912f782de28bc1cff2fa"), looks := false }, kinds := [], alts := [], laidByText := true, laidKinds := [.data, .pinned], laidTests := true, laidLooks := .later }
def KeyReadsUptoCardSaid : Prop := Claim7.holds Tryd.pinned (.plain (OpenSpec.upto keyReadsSpec)) keyReadsUptoCard

/-- THE SECOND FORM's CARD OF 'tidepoollaw04.KeyPanes'. -/
def keyPanesUptoCard : Claim7 := { stood := { row := keyPanesUptoRow, standIns := [], harness := (true, "0d5296082ef7151e8b875763bd7bc5a3faf201e9bab0912f782de28bc1cff2fa"), looks := false }, kinds := [], alts := [], laidByText := true, laidKinds := [.data, .pinned], laidTests := true, laidLooks := .later }
def KeyPanesUptoCardSaid : Prop := Claim7.holds Tryd.pinned (.plain (OpenSpec.upto keyPanesSpec)) keyPanesUptoCard

/-- THE SECOND FORM's CARD OF 'tidepoollaw04.KeyOrder'. -/
def keyOrderUptoCard : Claim7 := { stood := { row := keyOrderUptoRow, standIns := [], harness := (true, "0d5296082ef7151e8b875763bd7bc5a3faf201e9bab0912f782de28bc1cff2fa"), looks := false }, kinds := [], alts := [], laidByText := true, laidKinds := [.data, .pinned], laidTests := true, laidLooks := .later }
def KeyOrderUptoCardSaid : Prop := Claim7.holds Tryd.pinned (.plain (OpenSpec.upto keyOrderSpec)) keyOrderUptoCard

/-- THE SECOND FORM's CARD OF 'tidepoollaw04.KeyKnown'. -/
def keyKnownUptoCard : Claim7 := { stood := { row := keyKnownUptoRow, standIns := [], harness := (true, "0d5296082ef7151e8b875763bd7bc5a3faf201e9bab0912f782de28bc1cff2fa"), looks := false }, kinds := [], alts := [], laidByText := true, laidKinds := [.data, .pinned], laidTests := true, laidLooks := .later }
def KeyKnownUptoCardSaid : Prop := Claim7.holds Tryd.pinned (.plain (OpenSpec.upto keyKnownSpec)) keyKnownUptoCard
end Rows
end Go.Proofs.YthmdiopbiiimeaaDoor
