/-
  DERIVED. GIVEN WITH THE SEED: THE CARDS: each row of YtbioinnanhmkpabGreatDoorRows.lean that lists a variable, with what it lists TIED to the program's text (the seventh form; the later family's looks); each row that meets fmt, with fmt's text TOLD by the authors' own Lean function (tested against real Go, not proved from fmt's source: count such statements apart). THE CARD IS WHAT COUNTS. Prove the row's statement (the work); the ties are given (YtbioinnanhmkpabGreatDoorTie.lean); close each card by the builder's one call (the guide's Derived/Test/ToyasCard.lean, 'card_holds'). Laid BY PROGRAM, IN A SANDBOX (cutbox-door.mjs). By AI agents, Wed Nov 11 2026. No macro, syntax, notation, axiom, sorry.
-/
import Derived.Test.YtbioinnanhmkpabGreatDoorRows
import GoSem.ClaimSeven
namespace Go.Proofs.YtbioinnanhmkpabGreatDoor
namespace Rows

/-- THE TIED CARD OF 'laws.FnVectors'. -/
def fnVectorsCard : Claim7 := { stood := { row := fnVectorsRow, standIns := [], harness := (true, "e324d33a1dd392427de5f874b24e74bc2f45b8d1e346979634581c06e2f94bc6"), looks := true }, kinds := [], alts := [], laidByText := true, laidKinds := [.data, .data, .data, .data, .sentinel, .sentinel, .pinned], laidTests := true, laidLooks := .later }
def FnVectorsCardSaid : Prop := Claim7.holds Tryz.pinned (.plain (OpenSpec.ofChange fnVectorsSpec)) fnVectorsCard

/-- THE SECOND FORM's CARD OF 'laws.FnVectors'. -/
def fnVectorsUptoCard : Claim7 := { stood := { row := fnVectorsUptoRow, standIns := [], harness := (true, "e324d33a1dd392427de5f874b24e74bc2f45b8d1e346979634581c06e2f94bc6"), looks := true }, kinds := [], alts := [], laidByText := true, laidKinds := [.data, .data, .data, .data, .sentinel, .sentinel, .pinned], laidTests := true, laidLooks := .later }
def FnVectorsUptoCardSaid : Prop := Claim7.holds Tryz.pinned (.plain (OpenSpec.upto fnVectorsSpec)) fnVectorsUptoCard
end Rows
end Go.Proofs.YtbioinnanhmkpabGreatDoor
