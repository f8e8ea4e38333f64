/-
  No cell of these rows narrows 'for every input' (looked for: loops, veiled, ifaces, maps, wideKeys, modest, calm, conditions, laid).
  DERIVED. THE GIVEN ROWS OF THIS SEAT. 12 by the template 'for every input the law returns true; each argument reads behind the call as it read before'; 0 by the template 'total and deterministic' (their statements: YtgejobicepefkaaTotals.lean).
  GIVEN WITH THE SEED: the statements are not yours to turn. If you find one false, say at which input.
  Laid BY PROGRAM, IN A SANDBOX (cutbox-rows.mjs): the forced cells as the released guide's own fill.sh prints them over the translation 0437c6401136c49a… (all of the seat's roots in one cut). By AI agents, Wed Nov 11 2026. No macro, syntax, notation, axiom, sorry.
-/
import Derived.Test.YtgejobicepefkaaChecked
import GoSem.Claim
import GoSem.ClaimJoined
import GoSem.ClaimMapViews
import Derived.JoinedTies
import Derived.KernelRfl
namespace Go.Proofs.Ytgejobicepefkaa
/- THE CELL 'sum', in the pinned program and in every row, IS THE sha256 OF THE DUMP (.gsa) THAT YtgejobicepefkaaProg.lean LOADS. Nothing in Lean hashes anything: it is a label: what it is worth is what the hold of that sum in a sandbox is worth. -/
noncomputable def Try.pinned : Pinned := { name := "ytgejobicepefkaa", sum := "0437c6401136c49a208b80fa4837ef89d689ef0d2079450e6b990d3b1358e448", checked := Try.checked }
namespace Rows
def none {H : Type} : Left H := { results := [], args := [] }

/-- 'laws.FnExactWorkersFor': WHATEVER THE INPUT: true; the input reads as it did. -/
def fnExactWorkersForSpec : ChangeSpec := { name := "fnExactWorkersFor", fn := fun _ => fun
  | [d1, d2] => { results := [.lit (.bool true)], args := [d1, d2] }
  | _ => none }
def fnExactWorkersForRow : OpenClaim := { program := "ytgejobicepefkaa", sum := "0437c6401136c49a208b80fa4837ef89d689ef0d2079450e6b990d3b1358e448", func := "loop.example/g01180/laws.FnExactWorkersFor", spec := "fnExactWorkersFor", unfollowed := true, recurses := true, apart := false }
def FnExactWorkersForSaid : Prop := fnExactWorkersForRow.holds Try.pinned (OpenSpec.ofChange fnExactWorkersForSpec)

/-- ITS FALSE NEIGHBOUR: 'it returns false'. Refute it at one input. -/
def fnExactWorkersForWrong : ChangeSpec := { name := "fnExactWorkersFor", fn := fun _ => fun
  | [d1, d2] => { results := [.lit (.bool false)], args := [d1, d2] }
  | _ => none }
def FnExactWorkersForWrongFalsely : Prop := fnExactWorkersForRow.holds Try.pinned (OpenSpec.ofChange fnExactWorkersForWrong)

/-- 'laws.FnExactSliceFrames': WHATEVER THE INPUT: true; the input reads as it did. -/
def fnExactSliceFramesSpec : ChangeSpec := { name := "fnExactSliceFrames", fn := fun _ => fun
  | [d1, d2, d3] => { results := [.lit (.bool true)], args := [d1, d2, d3] }
  | _ => none }
def fnExactSliceFramesRow : OpenClaim := { program := "ytgejobicepefkaa", sum := "0437c6401136c49a208b80fa4837ef89d689ef0d2079450e6b990d3b1358e448", func := "loop.example/g01180/laws.FnExactSliceFrames", spec := "fnExactSliceFrames", unfollowed := true, recurses := true, apart := false }
def FnExactSliceFramesSaid : Prop := fnExactSliceFramesRow.holds Try.pinned (OpenSpec.ofChange fnExactSliceFramesSpec)

/-- ITS FALSE NEIGHBOUR: 'it returns false'. Refute it at one input. -/
def fnExactSliceFramesWrong : ChangeSpec := { name := "fnExactSliceFrames", fn := fun _ => fun
  | [d1, d2, d3] => { results := [.lit (.bool false)], args := [d1, d2, d3] }
  | _ => none }
def FnExactSliceFramesWrongFalsely : Prop := fnExactSliceFramesRow.holds Try.pinned (OpenSpec.ofChange fnExactSliceFramesWrong)

/-- 'laws.FnExactJoinRecordings': WHATEVER THE INPUT: true; the input reads as it did. -/
def fnExactJoinRecordingsSpec : ChangeSpec := { name := "fnExactJoinRecordings", fn := fun _ => fun
  | [d1, d2] => { results := [.lit (.bool true)], args := [d1, d2] }
  | _ => none }
def fnExactJoinRecordingsRow : OpenClaim := { program := "ytgejobicepefkaa", sum := "0437c6401136c49a208b80fa4837ef89d689ef0d2079450e6b990d3b1358e448", func := "loop.example/g01180/laws.FnExactJoinRecordings", spec := "fnExactJoinRecordings", unfollowed := true, recurses := true, apart := false }
def FnExactJoinRecordingsSaid : Prop := fnExactJoinRecordingsRow.holds Try.pinned (OpenSpec.ofChange fnExactJoinRecordingsSpec)

/-- ITS FALSE NEIGHBOUR: 'it returns false'. Refute it at one input. -/
def fnExactJoinRecordingsWrong : ChangeSpec := { name := "fnExactJoinRecordings", fn := fun _ => fun
  | [d1, d2] => { results := [.lit (.bool false)], args := [d1, d2] }
  | _ => none }
def FnExactJoinRecordingsWrongFalsely : Prop := fnExactJoinRecordingsRow.holds Try.pinned (OpenSpec.ofChange fnExactJoinRecordingsWrong)

/-- 'laws.FnExactStoreRecording': WHATEVER THE INPUT: true; the input reads as it did. -/
def fnExactStoreRecordingSpec : ChangeSpec := { name := "fnExactStoreRecording", fn := fun _ => fun
  | [d] => { results := [.lit (.bool true)], args := [d] }
  | _ => none }
def fnExactStoreRecordingRow : OpenClaim := { program := "ytgejobicepefkaa", sum := "0437c6401136c49a208b80fa4837ef89d689ef0d2079450e6b990d3b1358e448", func := "loop.example/g01180/laws.FnExactStoreRecording", spec := "fnExactStoreRecording", inPlace := ["math.Float32bits", "math.Float64bits"], unfollowed := true, recurses := true, apart := false }
def FnExactStoreRecordingSaid : Prop := fnExactStoreRecordingRow.holds Try.pinned (OpenSpec.ofChange fnExactStoreRecordingSpec)

/-- ITS FALSE NEIGHBOUR: 'it returns false'. Refute it at one input. -/
def fnExactStoreRecordingWrong : ChangeSpec := { name := "fnExactStoreRecording", fn := fun _ => fun
  | [d] => { results := [.lit (.bool false)], args := [d] }
  | _ => none }
def FnExactStoreRecordingWrongFalsely : Prop := fnExactStoreRecordingRow.holds Try.pinned (OpenSpec.ofChange fnExactStoreRecordingWrong)

/-- 'laws.FnExactAddFrame': WHATEVER THE INPUT: true; the input reads as it did. -/
def fnExactAddFrameSpec : ChangeSpec := { name := "fnExactAddFrame", fn := fun _ => fun
  | [d1, d2] => { results := [.lit (.bool true)], args := [d1, d2] }
  | _ => none }
def fnExactAddFrameRow : OpenClaim := { program := "ytgejobicepefkaa", sum := "0437c6401136c49a208b80fa4837ef89d689ef0d2079450e6b990d3b1358e448", func := "loop.example/g01180/laws.FnExactAddFrame", spec := "fnExactAddFrame", unfollowed := true, recurses := true, apart := false }
def FnExactAddFrameSaid : Prop := fnExactAddFrameRow.holds Try.pinned (OpenSpec.ofChange fnExactAddFrameSpec)

/-- ITS FALSE NEIGHBOUR: 'it returns false'. Refute it at one input. -/
def fnExactAddFrameWrong : ChangeSpec := { name := "fnExactAddFrame", fn := fun _ => fun
  | [d1, d2] => { results := [.lit (.bool false)], args := [d1, d2] }
  | _ => none }
def FnExactAddFrameWrongFalsely : Prop := fnExactAddFrameRow.holds Try.pinned (OpenSpec.ofChange fnExactAddFrameWrong)

/-- 'laws.FnExactStoredSize': WHATEVER THE INPUT: true; the input reads as it did. -/
def fnExactStoredSizeSpec : ChangeSpec := { name := "fnExactStoredSize", fn := fun _ => fun
  | [d] => { results := [.lit (.bool true)], args := [d] }
  | _ => none }
def fnExactStoredSizeRow : OpenClaim := { program := "ytgejobicepefkaa", sum := "0437c6401136c49a208b80fa4837ef89d689ef0d2079450e6b990d3b1358e448", func := "loop.example/g01180/laws.FnExactStoredSize", spec := "fnExactStoredSize", inPlace := ["math.Float32bits", "math.Float64bits"], unfollowed := true, recurses := true, apart := false }
def FnExactStoredSizeSaid : Prop := fnExactStoredSizeRow.holds Try.pinned (OpenSpec.ofChange fnExactStoredSizeSpec)

/-- ITS FALSE NEIGHBOUR: 'it returns false'. Refute it at one input. -/
def fnExactStoredSizeWrong : ChangeSpec := { name := "fnExactStoredSize", fn := fun _ => fun
  | [d] => { results := [.lit (.bool false)], args := [d] }
  | _ => none }
def FnExactStoredSizeWrongFalsely : Prop := fnExactStoredSizeRow.holds Try.pinned (OpenSpec.ofChange fnExactStoredSizeWrong)

/-- 'laws.FnExactRecoverRecording': WHATEVER THE INPUT: true; the input reads as it did. -/
def fnExactRecoverRecordingSpec : ChangeSpec := { name := "fnExactRecoverRecording", fn := fun _ => fun
  | [d] => { results := [.lit (.bool true)], args := [d] }
  | _ => none }
def fnExactRecoverRecordingRow : OpenClaim := { program := "ytgejobicepefkaa", sum := "0437c6401136c49a208b80fa4837ef89d689ef0d2079450e6b990d3b1358e448", func := "loop.example/g01180/laws.FnExactRecoverRecording", spec := "fnExactRecoverRecording", inPlace := ["math.Float32frombits", "math.Float32bits", "math.Float64bits"], apart := false }
def FnExactRecoverRecordingSaid : Prop := fnExactRecoverRecordingRow.holds Try.pinned (OpenSpec.ofChange fnExactRecoverRecordingSpec)

/-- ITS FALSE NEIGHBOUR: 'it returns false'. Refute it at one input. -/
def fnExactRecoverRecordingWrong : ChangeSpec := { name := "fnExactRecoverRecording", fn := fun _ => fun
  | [d] => { results := [.lit (.bool false)], args := [d] }
  | _ => none }
def FnExactRecoverRecordingWrongFalsely : Prop := fnExactRecoverRecordingRow.holds Try.pinned (OpenSpec.ofChange fnExactRecoverRecordingWrong)

/-- 'laws.FnExactLoadRecording': WHATEVER THE INPUT: true; the input reads as it did. -/
def fnExactLoadRecordingSpec : ChangeSpec := { name := "fnExactLoadRecording", fn := fun _ => fun
  | [d] => { results := [.lit (.bool true)], args := [d] }
  | _ => none }
def fnExactLoadRecordingRow : OpenClaim := { program := "ytgejobicepefkaa", sum := "0437c6401136c49a208b80fa4837ef89d689ef0d2079450e6b990d3b1358e448", func := "loop.example/g01180/laws.FnExactLoadRecording", spec := "fnExactLoadRecording", inPlace := ["math.Float32frombits", "math.Float32bits", "math.Float64bits"], apart := false }
def FnExactLoadRecordingSaid : Prop := fnExactLoadRecordingRow.holds Try.pinned (OpenSpec.ofChange fnExactLoadRecordingSpec)

/-- ITS FALSE NEIGHBOUR: 'it returns false'. Refute it at one input. -/
def fnExactLoadRecordingWrong : ChangeSpec := { name := "fnExactLoadRecording", fn := fun _ => fun
  | [d] => { results := [.lit (.bool false)], args := [d] }
  | _ => none }
def FnExactLoadRecordingWrongFalsely : Prop := fnExactLoadRecordingRow.holds Try.pinned (OpenSpec.ofChange fnExactLoadRecordingWrong)

/-- 'laws.FnExactMotionOf': WHATEVER THE INPUT: true; the input reads as it did. -/
def fnExactMotionOfSpec : ChangeSpec := { name := "fnExactMotionOf", fn := fun _ => fun
  | [d] => { results := [.lit (.bool true)], args := [d] }
  | _ => none }
def fnExactMotionOfRow : OpenClaim := { program := "ytgejobicepefkaa", sum := "0437c6401136c49a208b80fa4837ef89d689ef0d2079450e6b990d3b1358e448", func := "loop.example/g01180/laws.FnExactMotionOf", spec := "fnExactMotionOf", inPlace := ["math.sqrt", "math.Float32bits", "math.Float32frombits", "math.Float64frombits", "math.Float64bits"], unfollowed := true, recurses := true, apart := false }
def FnExactMotionOfSaid : Prop := fnExactMotionOfRow.holds Try.pinned (OpenSpec.ofChange fnExactMotionOfSpec)

/-- ITS FALSE NEIGHBOUR: 'it returns false'. Refute it at one input. -/
def fnExactMotionOfWrong : ChangeSpec := { name := "fnExactMotionOf", fn := fun _ => fun
  | [d] => { results := [.lit (.bool false)], args := [d] }
  | _ => none }
def FnExactMotionOfWrongFalsely : Prop := fnExactMotionOfRow.holds Try.pinned (OpenSpec.ofChange fnExactMotionOfWrong)

/-- 'laws.FnPoseNumbers': WHATEVER THE INPUT: true; the input reads as it did. -/
def fnPoseNumbersSpec : ChangeSpec := { name := "fnPoseNumbers", fn := fun _ => fun
  | [d1, d2] => { results := [.lit (.bool true)], args := [d1, d2] }
  | _ => none }
def fnPoseNumbersRow : OpenClaim := { program := "ytgejobicepefkaa", sum := "0437c6401136c49a208b80fa4837ef89d689ef0d2079450e6b990d3b1358e448", func := "loop.example/g01180/laws.FnPoseNumbers", spec := "fnPoseNumbers", inPlace := ["math.Float32frombits", "math.sqrt", "math.Float64bits"], unfollowed := true, recurses := true, apart := false }
def FnPoseNumbersSaid : Prop := fnPoseNumbersRow.holds Try.pinned (OpenSpec.ofChange fnPoseNumbersSpec)

/-- ITS FALSE NEIGHBOUR: 'it returns false'. Refute it at one input. -/
def fnPoseNumbersWrong : ChangeSpec := { name := "fnPoseNumbers", fn := fun _ => fun
  | [d1, d2] => { results := [.lit (.bool false)], args := [d1, d2] }
  | _ => none }
def FnPoseNumbersWrongFalsely : Prop := fnPoseNumbersRow.holds Try.pinned (OpenSpec.ofChange fnPoseNumbersWrong)

/-- 'laws.FnRecorded': WHATEVER THE INPUT: true; the input reads as it did. -/
def fnRecordedSpec : ChangeSpec := { name := "fnRecorded", fn := fun _ => fun
  | [d1, d2] => { results := [.lit (.bool true)], args := [d1, d2] }
  | _ => none }
def fnRecordedRow : OpenClaim := { program := "ytgejobicepefkaa", sum := "0437c6401136c49a208b80fa4837ef89d689ef0d2079450e6b990d3b1358e448", func := "loop.example/g01180/laws.FnRecorded", spec := "fnRecorded", inPlace := ["math.Float32frombits", "math.sqrt", "math.Float64bits", "math.Float32bits"], unfollowed := true, recurses := true, apart := false }
def FnRecordedSaid : Prop := fnRecordedRow.holds Try.pinned (OpenSpec.ofChange fnRecordedSpec)

/-- ITS FALSE NEIGHBOUR: 'it returns false'. Refute it at one input. -/
def fnRecordedWrong : ChangeSpec := { name := "fnRecorded", fn := fun _ => fun
  | [d1, d2] => { results := [.lit (.bool false)], args := [d1, d2] }
  | _ => none }
def FnRecordedWrongFalsely : Prop := fnRecordedRow.holds Try.pinned (OpenSpec.ofChange fnRecordedWrong)

/-- 'laws.FnExactValidStage': WHATEVER THE INPUT: true; the input reads as it did. -/
def fnExactValidStageSpec : ChangeSpec := { name := "fnExactValidStage", fn := fun _ => fun
  | [d] => { results := [.lit (.bool true)], args := [d] }
  | _ => none }
def fnExactValidStageRow : OpenClaim := { program := "ytgejobicepefkaa", sum := "0437c6401136c49a208b80fa4837ef89d689ef0d2079450e6b990d3b1358e448", func := "loop.example/g01180/laws.FnExactValidStage", spec := "fnExactValidStage", apart := false }
def FnExactValidStageSaid : Prop := fnExactValidStageRow.holds Try.pinned (OpenSpec.ofChange fnExactValidStageSpec)

/-- ITS FALSE NEIGHBOUR: 'it returns false'. Refute it at one input. -/
def fnExactValidStageWrong : ChangeSpec := { name := "fnExactValidStage", fn := fun _ => fun
  | [d] => { results := [.lit (.bool false)], args := [d] }
  | _ => none }
def FnExactValidStageWrongFalsely : Prop := fnExactValidStageRow.holds Try.pinned (OpenSpec.ofChange fnExactValidStageWrong)

/- THE SECOND FORM. 'bulk': how many values and letters a reading holds, each counted each time it is reached (what is shared counts as often as it is met; a slice's spare places count too). A statement '..UptoSaid' is the law's where the arguments, and the package variables that the reading takes, are together of bulk at most 1048576: NARROWER than '..Said'. Prove '..Said' where nothing that the law and all that it calls make is longer than what came in: it says more and counts as full. Else prove '..UptoSaid'. A law counts once. -/
mutual
def uptoBulk {H : Type} : DataW H → Nat
  | .lit (.string bytes) => bytes.length + 1
  | .lit _ => 1
  | .nil => 1
  | .ptr d => uptoBulk d + 1
  | .slice elems spare => uptoBulkAll elems + uptoBulkAll spare + 1
  | .agg parts => uptoBulkAll parts + 1
  | .iface _ d => uptoBulk d + 1
  | .map entries => uptoBulkEntries entries + 1
  | .held _ => 1
def uptoBulkAll {H : Type} : List (DataW H) → Nat
  | [] => 0
  | d :: r => uptoBulk d + uptoBulkAll r
def uptoBulkEntries {H : Type} : List (Lit × DataW H) → Nat
  | [] => 0
  | x :: r => uptoBulkEntry x + uptoBulkEntries r
def uptoBulkEntry {H : Type} : Lit × DataW H → Nat
  | (.string bytes, d) => bytes.length + uptoBulk d + 1
  | (_, d) => uptoBulk d + 1
 end
def uptoSmall : (H : Type) → List (DataW H) → Bool := fun _ ds => decide (uptoBulkAll ds ≤ 1048576)
def OpenSpec.upto (s : _root_.Go.ChangeSpec) : _root_.Go.OpenSpec := { _root_.Go.OpenSpec.ofChange s with cond := some uptoSmall }

/-- 'laws.FnExactWorkersFor', WHERE WHAT IT READS IS OF BULK AT MOST 1048576: true; the input reads as it did. -/
def fnExactWorkersForUptoRow : OpenClaim := { program := "ytgejobicepefkaa", sum := "0437c6401136c49a208b80fa4837ef89d689ef0d2079450e6b990d3b1358e448", func := "loop.example/g01180/laws.FnExactWorkersFor", spec := "fnExactWorkersFor", unfollowed := true, recurses := true, apart := false, narrowed := true }
def FnExactWorkersForUptoSaid : Prop := fnExactWorkersForUptoRow.holds Try.pinned (OpenSpec.upto fnExactWorkersForSpec)

/-- 'laws.FnExactSliceFrames', WHERE WHAT IT READS IS OF BULK AT MOST 1048576: true; the input reads as it did. -/
def fnExactSliceFramesUptoRow : OpenClaim := { program := "ytgejobicepefkaa", sum := "0437c6401136c49a208b80fa4837ef89d689ef0d2079450e6b990d3b1358e448", func := "loop.example/g01180/laws.FnExactSliceFrames", spec := "fnExactSliceFrames", unfollowed := true, recurses := true, apart := false, narrowed := true }
def FnExactSliceFramesUptoSaid : Prop := fnExactSliceFramesUptoRow.holds Try.pinned (OpenSpec.upto fnExactSliceFramesSpec)

/-- 'laws.FnExactJoinRecordings', WHERE WHAT IT READS IS OF BULK AT MOST 1048576: true; the input reads as it did. -/
def fnExactJoinRecordingsUptoRow : OpenClaim := { program := "ytgejobicepefkaa", sum := "0437c6401136c49a208b80fa4837ef89d689ef0d2079450e6b990d3b1358e448", func := "loop.example/g01180/laws.FnExactJoinRecordings", spec := "fnExactJoinRecordings", unfollowed := true, recurses := true, apart := false, narrowed := true }
def FnExactJoinRecordingsUptoSaid : Prop := fnExactJoinRecordingsUptoRow.holds Try.pinned (OpenSpec.upto fnExactJoinRecordingsSpec)

/-- 'laws.FnExactStoreRecording', WHERE WHAT IT READS IS OF BULK AT MOST 1048576: true; the input reads as it did. -/
def fnExactStoreRecordingUptoRow : OpenClaim := { program := "ytgejobicepefkaa", sum := "0437c6401136c49a208b80fa4837ef89d689ef0d2079450e6b990d3b1358e448", func := "loop.example/g01180/laws.FnExactStoreRecording", spec := "fnExactStoreRecording", inPlace := ["math.Float32bits", "math.Float64bits"], unfollowed := true, recurses := true, apart := false, narrowed := true }
def FnExactStoreRecordingUptoSaid : Prop := fnExactStoreRecordingUptoRow.holds Try.pinned (OpenSpec.upto fnExactStoreRecordingSpec)

/-- 'laws.FnExactAddFrame', WHERE WHAT IT READS IS OF BULK AT MOST 1048576: true; the input reads as it did. -/
def fnExactAddFrameUptoRow : OpenClaim := { program := "ytgejobicepefkaa", sum := "0437c6401136c49a208b80fa4837ef89d689ef0d2079450e6b990d3b1358e448", func := "loop.example/g01180/laws.FnExactAddFrame", spec := "fnExactAddFrame", unfollowed := true, recurses := true, apart := false, narrowed := true }
def FnExactAddFrameUptoSaid : Prop := fnExactAddFrameUptoRow.holds Try.pinned (OpenSpec.upto fnExactAddFrameSpec)

/-- 'laws.FnExactStoredSize', WHERE WHAT IT READS IS OF BULK AT MOST 1048576: true; the input reads as it did. -/
def fnExactStoredSizeUptoRow : OpenClaim := { program := "ytgejobicepefkaa", sum := "0437c6401136c49a208b80fa4837ef89d689ef0d2079450e6b990d3b1358e448", func := "loop.example/g01180/laws.FnExactStoredSize", spec := "fnExactStoredSize", inPlace := ["math.Float32bits", "math.Float64bits"], unfollowed := true, recurses := true, apart := false, narrowed := true }
def FnExactStoredSizeUptoSaid : Prop := fnExactStoredSizeUptoRow.holds Try.pinned (OpenSpec.upto fnExactStoredSizeSpec)

/-- 'laws.FnExactRecoverRecording', WHERE WHAT IT READS IS OF BULK AT MOST 1048576: true; the input reads as it did. -/
def fnExactRecoverRecordingUptoRow : OpenClaim := { program := "ytgejobicepefkaa", sum := "0437c6401136c49a208b80fa4837ef89d689ef0d2079450e6b990d3b1358e448", func := "loop.example/g01180/laws.FnExactRecoverRecording", spec := "fnExactRecoverRecording", inPlace := ["math.Float32frombits", "math.Float32bits", "math.Float64bits"], apart := false, narrowed := true }
def FnExactRecoverRecordingUptoSaid : Prop := fnExactRecoverRecordingUptoRow.holds Try.pinned (OpenSpec.upto fnExactRecoverRecordingSpec)

/-- 'laws.FnExactLoadRecording', WHERE WHAT IT READS IS OF BULK AT MOST 1048576: true; the input reads as it did. -/
def fnExactLoadRecordingUptoRow : OpenClaim := { program := "ytgejobicepefkaa", sum := "0437c6401136c49a208b80fa4837ef89d689ef0d2079450e6b990d3b1358e448", func := "loop.example/g01180/laws.FnExactLoadRecording", spec := "fnExactLoadRecording", inPlace := ["math.Float32frombits", "math.Float32bits", "math.Float64bits"], apart := false, narrowed := true }
def FnExactLoadRecordingUptoSaid : Prop := fnExactLoadRecordingUptoRow.holds Try.pinned (OpenSpec.upto fnExactLoadRecordingSpec)

/-- 'laws.FnExactMotionOf', WHERE WHAT IT READS IS OF BULK AT MOST 1048576: true; the input reads as it did. -/
def fnExactMotionOfUptoRow : OpenClaim := { program := "ytgejobicepefkaa", sum := "0437c6401136c49a208b80fa4837ef89d689ef0d2079450e6b990d3b1358e448", func := "loop.example/g01180/laws.FnExactMotionOf", spec := "fnExactMotionOf", inPlace := ["math.sqrt", "math.Float32bits", "math.Float32frombits", "math.Float64frombits", "math.Float64bits"], unfollowed := true, recurses := true, apart := false, narrowed := true }
def FnExactMotionOfUptoSaid : Prop := fnExactMotionOfUptoRow.holds Try.pinned (OpenSpec.upto fnExactMotionOfSpec)

/-- 'laws.FnPoseNumbers', WHERE WHAT IT READS IS OF BULK AT MOST 1048576: true; the input reads as it did. -/
def fnPoseNumbersUptoRow : OpenClaim := { program := "ytgejobicepefkaa", sum := "0437c6401136c49a208b80fa4837ef89d689ef0d2079450e6b990d3b1358e448", func := "loop.example/g01180/laws.FnPoseNumbers", spec := "fnPoseNumbers", inPlace := ["math.Float32frombits", "math.sqrt", "math.Float64bits"], unfollowed := true, recurses := true, apart := false, narrowed := true }
def FnPoseNumbersUptoSaid : Prop := fnPoseNumbersUptoRow.holds Try.pinned (OpenSpec.upto fnPoseNumbersSpec)

/-- 'laws.FnRecorded', WHERE WHAT IT READS IS OF BULK AT MOST 1048576: true; the input reads as it did. -/
def fnRecordedUptoRow : OpenClaim := { program := "ytgejobicepefkaa", sum := "0437c6401136c49a208b80fa4837ef89d689ef0d2079450e6b990d3b1358e448", func := "loop.example/g01180/laws.FnRecorded", spec := "fnRecorded", inPlace := ["math.Float32frombits", "math.sqrt", "math.Float64bits", "math.Float32bits"], unfollowed := true, recurses := true, apart := false, narrowed := true }
def FnRecordedUptoSaid : Prop := fnRecordedUptoRow.holds Try.pinned (OpenSpec.upto fnRecordedSpec)

/-- 'laws.FnExactValidStage', WHERE WHAT IT READS IS OF BULK AT MOST 1048576: true; the input reads as it did. -/
def fnExactValidStageUptoRow : OpenClaim := { program := "ytgejobicepefkaa", sum := "0437c6401136c49a208b80fa4837ef89d689ef0d2079450e6b990d3b1358e448", func := "loop.example/g01180/laws.FnExactValidStage", spec := "fnExactValidStage", apart := false, narrowed := true }
def FnExactValidStageUptoSaid : Prop := fnExactValidStageUptoRow.holds Try.pinned (OpenSpec.upto fnExactValidStageSpec)

end Rows
end Go.Proofs.Ytgejobicepefkaa
