/-
  DERIVED. GIVEN WITH THE SEED: THE CARDS: each row of YtcgakaboochpaaeDoorRows.lean that lists a variable, with what it lists TIED to the program's text (the seventh form; the later family's looks); each row that meets fmt, with fmt's text TOLD by the authors' own Lean function (tested against real Go, not proved from fmt's source: count such statements apart). THE CARD IS WHAT COUNTS. Prove the row's statement (the work); the ties are given (YtcgakaboochpaaeDoorTie.lean); close each card by the builder's one call (the guide's Derived/Test/ToyasCard.lean, 'card_holds'). Laid BY PROGRAM, IN A SANDBOX (cutbox-door.mjs). By AI agents, Wed Nov 11 2026. No macro, syntax, notation, axiom, sorry.
-/
import Derived.Test.YtcgakaboochpaaeDoorRows
import GoSem.ClaimSeven
namespace Go.Proofs.YtcgakaboochpaaeDoor
namespace Rows

/-- THE TIED CARD OF 'laws.FnExactReadPose'. -/
def fnExactReadPoseCard : Claim7 := { stood := { row := fnExactReadPoseRow, standIns := [], harness := (true, "3b2c8a032225dd0f155997a2dfd4a9893b9e236ada1776e6f017f7e0a9b5766c"), looks := true }, kinds := [], alts := [], laidByText := true, laidKinds := [.data, .data, .data, .data, .sentinel, .sentinel, .pinned], laidTests := true, laidLooks := .later }
def FnExactReadPoseCardSaid : Prop := Claim7.holds Tryd.pinned (.plain (OpenSpec.ofChange fnExactReadPoseSpec)) fnExactReadPoseCard

/-- THE SECOND FORM's CARD OF 'laws.FnExactReadPose'. -/
def fnExactReadPoseUptoCard : Claim7 := { stood := { row := fnExactReadPoseUptoRow, standIns := [], harness := (true, "3b2c8a032225dd0f155997a2dfd4a9893b9e236ada1776e6f017f7e0a9b5766c"), looks := true }, kinds := [], alts := [], laidByText := true, laidKinds := [.data, .data, .data, .data, .sentinel, .sentinel, .pinned], laidTests := true, laidLooks := .later }
def FnExactReadPoseUptoCardSaid : Prop := Claim7.holds Tryd.pinned (.plain (OpenSpec.upto fnExactReadPoseSpec)) fnExactReadPoseUptoCard
end Rows
end Go.Proofs.YtcgakaboochpaaeDoor
