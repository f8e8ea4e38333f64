/-
  No cell of these rows narrows 'for every input' (looked for: loops, veiled, ifaces, maps, wideKeys, modest, calm, conditions, laid).
  DERIVED. THE GIVEN ROWS OF THIS SEAT. 8 by the template 'for every input the law returns true; each argument reads behind the call as it read before'; 0 by the template 'total and deterministic' (their statements: YtihokgnenjemmaaTotals.lean).
  GIVEN WITH THE SEED: the statements are not yours to turn. If you find one false, say at which input.
  Laid BY PROGRAM, IN A SANDBOX (cutbox-rows.mjs): the forced cells as the released guide's own fill.sh prints them over the translation 8fbb0a4acf31c4d6… (all of the seat's roots in one cut). By AI agents, Wed Nov 11 2026. No macro, syntax, notation, axiom, sorry.
-/
import Derived.Test.YtihokgnenjemmaaChecked
import GoSem.Claim
import GoSem.ClaimJoined
import GoSem.ClaimMapViews
import Derived.JoinedTies
import Derived.KernelRfl
namespace Go.Proofs.Ytihokgnenjemmaa
/- THE CELL 'sum', in the pinned program and in every row, IS THE sha256 OF THE DUMP (.gsa) THAT YtihokgnenjemmaaProg.lean LOADS. Nothing in Lean hashes anything: it is a label: what it is worth is what the hold of that sum in a sandbox is worth. -/
noncomputable def Try.pinned : Pinned := { name := "ytihokgnenjemmaa", sum := "8fbb0a4acf31c4d6681b5789b92df834acc347fb2c08c1d06e37ae36ece43716", checked := Try.checked }
namespace Rows
def none {H : Type} : Left H := { results := [], args := [] }

/-- 'laws.FnExactInPlace': WHATEVER THE INPUT: true; the input reads as it did. -/
def fnExactInPlaceSpec : ChangeSpec := { name := "fnExactInPlace", fn := fun _ => fun
  | [d] => { results := [.lit (.bool true)], args := [d] }
  | _ => none }
def fnExactInPlaceRow : OpenClaim := { program := "ytihokgnenjemmaa", sum := "8fbb0a4acf31c4d6681b5789b92df834acc347fb2c08c1d06e37ae36ece43716", func := "loop.example/g01180/laws.FnExactInPlace", spec := "fnExactInPlace", inPlace := ["math.sqrt"], unfollowed := true, recurses := true, apart := false }
def FnExactInPlaceSaid : Prop := fnExactInPlaceRow.holds Try.pinned (OpenSpec.ofChange fnExactInPlaceSpec)

/-- ITS FALSE NEIGHBOUR: 'it returns false'. Refute it at one input. -/
def fnExactInPlaceWrong : ChangeSpec := { name := "fnExactInPlace", fn := fun _ => fun
  | [d] => { results := [.lit (.bool false)], args := [d] }
  | _ => none }
def FnExactInPlaceWrongFalsely : Prop := fnExactInPlaceRow.holds Try.pinned (OpenSpec.ofChange fnExactInPlaceWrong)

/-- 'laws.FnExactStretchClip': WHATEVER THE INPUT: true; the input reads as it did. -/
def fnExactStretchClipSpec : ChangeSpec := { name := "fnExactStretchClip", fn := fun _ => fun
  | [d1, d2] => { results := [.lit (.bool true)], args := [d1, d2] }
  | _ => none }
def fnExactStretchClipRow : OpenClaim := { program := "ytihokgnenjemmaa", sum := "8fbb0a4acf31c4d6681b5789b92df834acc347fb2c08c1d06e37ae36ece43716", func := "loop.example/g01180/laws.FnExactStretchClip", spec := "fnExactStretchClip", inPlace := ["math.sqrt"], unfollowed := true, recurses := true, apart := false }
def FnExactStretchClipSaid : Prop := fnExactStretchClipRow.holds Try.pinned (OpenSpec.ofChange fnExactStretchClipSpec)

/-- ITS FALSE NEIGHBOUR: 'it returns false'. Refute it at one input. -/
def fnExactStretchClipWrong : ChangeSpec := { name := "fnExactStretchClip", fn := fun _ => fun
  | [d1, d2] => { results := [.lit (.bool false)], args := [d1, d2] }
  | _ => none }
def FnExactStretchClipWrongFalsely : Prop := fnExactStretchClipRow.holds Try.pinned (OpenSpec.ofChange fnExactStretchClipWrong)

/-- 'laws.FnExactReverseClip': WHATEVER THE INPUT: true; the input reads as it did. -/
def fnExactReverseClipSpec : ChangeSpec := { name := "fnExactReverseClip", fn := fun _ => fun
  | [d] => { results := [.lit (.bool true)], args := [d] }
  | _ => none }
def fnExactReverseClipRow : OpenClaim := { program := "ytihokgnenjemmaa", sum := "8fbb0a4acf31c4d6681b5789b92df834acc347fb2c08c1d06e37ae36ece43716", func := "loop.example/g01180/laws.FnExactReverseClip", spec := "fnExactReverseClip", inPlace := ["math.sqrt"], unfollowed := true, recurses := true, apart := false }
def FnExactReverseClipSaid : Prop := fnExactReverseClipRow.holds Try.pinned (OpenSpec.ofChange fnExactReverseClipSpec)

/-- ITS FALSE NEIGHBOUR: 'it returns false'. Refute it at one input. -/
def fnExactReverseClipWrong : ChangeSpec := { name := "fnExactReverseClip", fn := fun _ => fun
  | [d] => { results := [.lit (.bool false)], args := [d] }
  | _ => none }
def FnExactReverseClipWrongFalsely : Prop := fnExactReverseClipRow.holds Try.pinned (OpenSpec.ofChange fnExactReverseClipWrong)

/-- 'laws.FnExactJoinClips': WHATEVER THE INPUT: true; the input reads as it did. -/
def fnExactJoinClipsSpec : ChangeSpec := { name := "fnExactJoinClips", fn := fun _ => fun
  | [d1, d2] => { results := [.lit (.bool true)], args := [d1, d2] }
  | _ => none }
def fnExactJoinClipsRow : OpenClaim := { program := "ytihokgnenjemmaa", sum := "8fbb0a4acf31c4d6681b5789b92df834acc347fb2c08c1d06e37ae36ece43716", func := "loop.example/g01180/laws.FnExactJoinClips", spec := "fnExactJoinClips", inPlace := ["math.sqrt"], unfollowed := true, recurses := true, apart := false }
def FnExactJoinClipsSaid : Prop := fnExactJoinClipsRow.holds Try.pinned (OpenSpec.ofChange fnExactJoinClipsSpec)

/-- ITS FALSE NEIGHBOUR: 'it returns false'. Refute it at one input. -/
def fnExactJoinClipsWrong : ChangeSpec := { name := "fnExactJoinClips", fn := fun _ => fun
  | [d1, d2] => { results := [.lit (.bool false)], args := [d1, d2] }
  | _ => none }
def FnExactJoinClipsWrongFalsely : Prop := fnExactJoinClipsRow.holds Try.pinned (OpenSpec.ofChange fnExactJoinClipsWrong)

/-- 'laws.FnExactCutClip': WHATEVER THE INPUT: true; the input reads as it did. -/
def fnExactCutClipSpec : ChangeSpec := { name := "fnExactCutClip", fn := fun _ => fun
  | [d1, d2, d3] => { results := [.lit (.bool true)], args := [d1, d2, d3] }
  | _ => none }
def fnExactCutClipRow : OpenClaim := { program := "ytihokgnenjemmaa", sum := "8fbb0a4acf31c4d6681b5789b92df834acc347fb2c08c1d06e37ae36ece43716", func := "loop.example/g01180/laws.FnExactCutClip", spec := "fnExactCutClip", inPlace := ["math.sqrt"], unfollowed := true, recurses := true, apart := false }
def FnExactCutClipSaid : Prop := fnExactCutClipRow.holds Try.pinned (OpenSpec.ofChange fnExactCutClipSpec)

/-- ITS FALSE NEIGHBOUR: 'it returns false'. Refute it at one input. -/
def fnExactCutClipWrong : ChangeSpec := { name := "fnExactCutClip", fn := fun _ => fun
  | [d1, d2, d3] => { results := [.lit (.bool false)], args := [d1, d2, d3] }
  | _ => none }
def FnExactCutClipWrongFalsely : Prop := fnExactCutClipRow.holds Try.pinned (OpenSpec.ofChange fnExactCutClipWrong)

/-- 'laws.FnExactMirrorClip': WHATEVER THE INPUT: true; the input reads as it did. -/
def fnExactMirrorClipSpec : ChangeSpec := { name := "fnExactMirrorClip", fn := fun _ => fun
  | [d1, d2, d3] => { results := [.lit (.bool true)], args := [d1, d2, d3] }
  | _ => none }
def fnExactMirrorClipRow : OpenClaim := { program := "ytihokgnenjemmaa", sum := "8fbb0a4acf31c4d6681b5789b92df834acc347fb2c08c1d06e37ae36ece43716", func := "loop.example/g01180/laws.FnExactMirrorClip", spec := "fnExactMirrorClip", inPlace := ["math.sqrt"], unfollowed := true, recurses := true, apart := false }
def FnExactMirrorClipSaid : Prop := fnExactMirrorClipRow.holds Try.pinned (OpenSpec.ofChange fnExactMirrorClipSpec)

/-- ITS FALSE NEIGHBOUR: 'it returns false'. Refute it at one input. -/
def fnExactMirrorClipWrong : ChangeSpec := { name := "fnExactMirrorClip", fn := fun _ => fun
  | [d1, d2, d3] => { results := [.lit (.bool false)], args := [d1, d2, d3] }
  | _ => none }
def FnExactMirrorClipWrongFalsely : Prop := fnExactMirrorClipRow.holds Try.pinned (OpenSpec.ofChange fnExactMirrorClipWrong)

/-- 'laws.FnMirrored': WHATEVER THE INPUT: true; the input reads as it did. -/
def fnMirroredSpec : ChangeSpec := { name := "fnMirrored", fn := fun _ => fun
  | [d1, d2] => { results := [.lit (.bool true)], args := [d1, d2] }
  | _ => none }
def fnMirroredRow : OpenClaim := { program := "ytihokgnenjemmaa", sum := "8fbb0a4acf31c4d6681b5789b92df834acc347fb2c08c1d06e37ae36ece43716", func := "loop.example/g01180/laws.FnMirrored", spec := "fnMirrored", inPlace := ["math.Float32frombits", "math.sqrt", "math.Float64bits", "math.Float32bits"], unfollowed := true, recurses := true, apart := false }
def FnMirroredSaid : Prop := fnMirroredRow.holds Try.pinned (OpenSpec.ofChange fnMirroredSpec)

/-- ITS FALSE NEIGHBOUR: 'it returns false'. Refute it at one input. -/
def fnMirroredWrong : ChangeSpec := { name := "fnMirrored", fn := fun _ => fun
  | [d1, d2] => { results := [.lit (.bool false)], args := [d1, d2] }
  | _ => none }
def FnMirroredWrongFalsely : Prop := fnMirroredRow.holds Try.pinned (OpenSpec.ofChange fnMirroredWrong)

/-- 'laws.FnWeighted': WHATEVER THE INPUT: true; the input reads as it did. -/
def fnWeightedSpec : ChangeSpec := { name := "fnWeighted", fn := fun _ => fun
  | [d1, d2] => { results := [.lit (.bool true)], args := [d1, d2] }
  | _ => none }
def fnWeightedRow : OpenClaim := { program := "ytihokgnenjemmaa", sum := "8fbb0a4acf31c4d6681b5789b92df834acc347fb2c08c1d06e37ae36ece43716", func := "loop.example/g01180/laws.FnWeighted", spec := "fnWeighted", inPlace := ["math.sqrt", "math.Float32frombits"], unfollowed := true, recurses := true, apart := false }
def FnWeightedSaid : Prop := fnWeightedRow.holds Try.pinned (OpenSpec.ofChange fnWeightedSpec)

/-- ITS FALSE NEIGHBOUR: 'it returns false'. Refute it at one input. -/
def fnWeightedWrong : ChangeSpec := { name := "fnWeighted", fn := fun _ => fun
  | [d1, d2] => { results := [.lit (.bool false)], args := [d1, d2] }
  | _ => none }
def FnWeightedWrongFalsely : Prop := fnWeightedRow.holds Try.pinned (OpenSpec.ofChange fnWeightedWrong)

/- THE SECOND FORM. 'bulk': how many values and letters a reading holds, each counted each time it is reached (what is shared counts as often as it is met; a slice's spare places count too). A statement '..UptoSaid' is the law's where the arguments, and the package variables that the reading takes, are together of bulk at most 1048576: NARROWER than '..Said'. Prove '..Said' where nothing that the law and all that it calls make is longer than what came in: it says more and counts as full. Else prove '..UptoSaid'. A law counts once. -/
mutual
def uptoBulk {H : Type} : DataW H → Nat
  | .lit (.string bytes) => bytes.length + 1
  | .lit _ => 1
  | .nil => 1
  | .ptr d => uptoBulk d + 1
  | .slice elems spare => uptoBulkAll elems + uptoBulkAll spare + 1
  | .agg parts => uptoBulkAll parts + 1
  | .iface _ d => uptoBulk d + 1
  | .map entries => uptoBulkEntries entries + 1
  | .held _ => 1
def uptoBulkAll {H : Type} : List (DataW H) → Nat
  | [] => 0
  | d :: r => uptoBulk d + uptoBulkAll r
def uptoBulkEntries {H : Type} : List (Lit × DataW H) → Nat
  | [] => 0
  | x :: r => uptoBulkEntry x + uptoBulkEntries r
def uptoBulkEntry {H : Type} : Lit × DataW H → Nat
  | (.string bytes, d) => bytes.length + uptoBulk d + 1
  | (_, d) => uptoBulk d + 1
 end
def uptoSmall : (H : Type) → List (DataW H) → Bool := fun _ ds => decide (uptoBulkAll ds ≤ 1048576)
def OpenSpec.upto (s : _root_.Go.ChangeSpec) : _root_.Go.OpenSpec := { _root_.Go.OpenSpec.ofChange s with cond := some uptoSmall }

/-- 'laws.FnExactInPlace', WHERE WHAT IT READS IS OF BULK AT MOST 1048576: true; the input reads as it did. -/
def fnExactInPlaceUptoRow : OpenClaim := { program := "ytihokgnenjemmaa", sum := "8fbb0a4acf31c4d6681b5789b92df834acc347fb2c08c1d06e37ae36ece43716", func := "loop.example/g01180/laws.FnExactInPlace", spec := "fnExactInPlace", inPlace := ["math.sqrt"], unfollowed := true, recurses := true, apart := false, narrowed := true }
def FnExactInPlaceUptoSaid : Prop := fnExactInPlaceUptoRow.holds Try.pinned (OpenSpec.upto fnExactInPlaceSpec)

/-- 'laws.FnExactStretchClip', WHERE WHAT IT READS IS OF BULK AT MOST 1048576: true; the input reads as it did. -/
def fnExactStretchClipUptoRow : OpenClaim := { program := "ytihokgnenjemmaa", sum := "8fbb0a4acf31c4d6681b5789b92df834acc347fb2c08c1d06e37ae36ece43716", func := "loop.example/g01180/laws.FnExactStretchClip", spec := "fnExactStretchClip", inPlace := ["math.sqrt"], unfollowed := true, recurses := true, apart := false, narrowed := true }
def FnExactStretchClipUptoSaid : Prop := fnExactStretchClipUptoRow.holds Try.pinned (OpenSpec.upto fnExactStretchClipSpec)

/-- 'laws.FnExactReverseClip', WHERE WHAT IT READS IS OF BULK AT MOST 1048576: true; the input reads as it did. -/
def fnExactReverseClipUptoRow : OpenClaim := { program := "ytihokgnenjemmaa", sum := "8fbb0a4acf31c4d6681b5789b92df834acc347fb2c08c1d06e37ae36ece43716", func := "loop.example/g01180/laws.FnExactReverseClip", spec := "fnExactReverseClip", inPlace := ["math.sqrt"], unfollowed := true, recurses := true, apart := false, narrowed := true }
def FnExactReverseClipUptoSaid : Prop := fnExactReverseClipUptoRow.holds Try.pinned (OpenSpec.upto fnExactReverseClipSpec)

/-- 'laws.FnExactJoinClips', WHERE WHAT IT READS IS OF BULK AT MOST 1048576: true; the input reads as it did. -/
def fnExactJoinClipsUptoRow : OpenClaim := { program := "ytihokgnenjemmaa", sum := "8fbb0a4acf31c4d6681b5789b92df834acc347fb2c08c1d06e37ae36ece43716", func := "loop.example/g01180/laws.FnExactJoinClips", spec := "fnExactJoinClips", inPlace := ["math.sqrt"], unfollowed := true, recurses := true, apart := false, narrowed := true }
def FnExactJoinClipsUptoSaid : Prop := fnExactJoinClipsUptoRow.holds Try.pinned (OpenSpec.upto fnExactJoinClipsSpec)

/-- 'laws.FnExactCutClip', WHERE WHAT IT READS IS OF BULK AT MOST 1048576: true; the input reads as it did. -/
def fnExactCutClipUptoRow : OpenClaim := { program := "ytihokgnenjemmaa", sum := "8fbb0a4acf31c4d6681b5789b92df834acc347fb2c08c1d06e37ae36ece43716", func := "loop.example/g01180/laws.FnExactCutClip", spec := "fnExactCutClip", inPlace := ["math.sqrt"], unfollowed := true, recurses := true, apart := false, narrowed := true }
def FnExactCutClipUptoSaid : Prop := fnExactCutClipUptoRow.holds Try.pinned (OpenSpec.upto fnExactCutClipSpec)

/-- 'laws.FnExactMirrorClip', WHERE WHAT IT READS IS OF BULK AT MOST 1048576: true; the input reads as it did. -/
def fnExactMirrorClipUptoRow : OpenClaim := { program := "ytihokgnenjemmaa", sum := "8fbb0a4acf31c4d6681b5789b92df834acc347fb2c08c1d06e37ae36ece43716", func := "loop.example/g01180/laws.FnExactMirrorClip", spec := "fnExactMirrorClip", inPlace := ["math.sqrt"], unfollowed := true, recurses := true, apart := false, narrowed := true }
def FnExactMirrorClipUptoSaid : Prop := fnExactMirrorClipUptoRow.holds Try.pinned (OpenSpec.upto fnExactMirrorClipSpec)

/-- 'laws.FnMirrored', WHERE WHAT IT READS IS OF BULK AT MOST 1048576: true; the input reads as it did. -/
def fnMirroredUptoRow : OpenClaim := { program := "ytihokgnenjemmaa", sum := "8fbb0a4acf31c4d6681b5789b92df834acc347fb2c08c1d06e37ae36ece43716", func := "loop.example/g01180/laws.FnMirrored", spec := "fnMirrored", inPlace := ["math.Float32frombits", "math.sqrt", "math.Float64bits", "math.Float32bits"], unfollowed := true, recurses := true, apart := false, narrowed := true }
def FnMirroredUptoSaid : Prop := fnMirroredUptoRow.holds Try.pinned (OpenSpec.upto fnMirroredSpec)

/-- 'laws.FnWeighted', WHERE WHAT IT READS IS OF BULK AT MOST 1048576: true; the input reads as it did. -/
def fnWeightedUptoRow : OpenClaim := { program := "ytihokgnenjemmaa", sum := "8fbb0a4acf31c4d6681b5789b92df834acc347fb2c08c1d06e37ae36ece43716", func := "loop.example/g01180/laws.FnWeighted", spec := "fnWeighted", inPlace := ["math.sqrt", "math.Float32frombits"], unfollowed := true, recurses := true, apart := false, narrowed := true }
def FnWeightedUptoSaid : Prop := fnWeightedUptoRow.holds Try.pinned (OpenSpec.upto fnWeightedSpec)

end Rows
end Go.Proofs.Ytihokgnenjemmaa
