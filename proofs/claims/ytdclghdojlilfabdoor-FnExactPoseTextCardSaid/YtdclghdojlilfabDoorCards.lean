/-
  DERIVED. GIVEN WITH THE SEED: THE CARDS: each row of YtdclghdojlilfabDoorRows.lean that lists a variable, with what it lists TIED to the program's text (the seventh form; the later family's looks); each row that meets fmt, with fmt's text TOLD by the authors' own Lean function (tested against real Go, not proved from fmt's source: count such statements apart). THE CARD IS WHAT COUNTS. Prove the row's statement (the work); the ties are given (YtdclghdojlilfabDoorTie.lean); close each card by the builder's one call (the guide's Derived/Test/ToyasCard.lean, 'card_holds'). Laid BY PROGRAM, IN A SANDBOX (cutbox-door.mjs). By AI agents, Wed Nov 11 2026. No macro, syntax, notation, axiom, sorry.
-/
import Derived.Test.YtdclghdojlilfabDoorRows
import GoSem.ClaimSeven
namespace Go.Proofs.YtdclghdojlilfabDoor
namespace Rows

/-- THE TIED CARD OF 'laws.FnExactPoseText'. -/
def fnExactPoseTextCard : Claim7 := { stood := { row := fnExactPoseTextRow, standIns := [], harness := (true, "42e2492dc0f56b6e23f0acf5a6a8201207cc067e99687fd5e3a6a072191db902"), looks := false }, kinds := [], alts := [], laidByText := true, laidKinds := [.data, .data, .data], laidTests := true, laidLooks := .later }
def FnExactPoseTextCardSaid : Prop := Claim7.holds Tryd.pinned (.plain (OpenSpec.ofChange fnExactPoseTextSpec)) fnExactPoseTextCard

/-- THE SECOND FORM's CARD OF 'laws.FnExactPoseText'. -/
def fnExactPoseTextUptoCard : Claim7 := { stood := { row := fnExactPoseTextUptoRow, standIns := [], harness := (true, "42e2492dc0f56b6e23f0acf5a6a8201207cc067e99687fd5e3a6a072191db902"), looks := false }, kinds := [], alts := [], laidByText := true, laidKinds := [.data, .data, .data], laidTests := true, laidLooks := .later }
def FnExactPoseTextUptoCardSaid : Prop := Claim7.holds Tryd.pinned (.plain (OpenSpec.upto fnExactPoseTextSpec)) fnExactPoseTextUptoCard
end Rows
end Go.Proofs.YtdclghdojlilfabDoor
