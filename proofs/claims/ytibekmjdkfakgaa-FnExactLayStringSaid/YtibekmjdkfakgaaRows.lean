/-
  No cell of these rows narrows 'for every input' (looked for: loops, veiled, ifaces, maps, wideKeys, modest, calm, conditions, laid).
  DERIVED. THE GIVEN ROWS OF THIS SEAT. 12 by the template 'for every input the law returns true; each argument reads behind the call as it read before'; 0 by the template 'total and deterministic' (their statements: YtibekmjdkfakgaaTotals.lean).
  GIVEN WITH THE SEED: the statements are not yours to turn. If you find one false, say at which input.
  Laid BY PROGRAM, IN A SANDBOX (cutbox-rows.mjs): the forced cells as the released guide's own fill.sh prints them over the translation 5afc2e5f9568321c… (all of the seat's roots in one cut). By AI agents, Wed Nov 11 2026. No macro, syntax, notation, axiom, sorry.
-/
import Derived.Test.YtibekmjdkfakgaaChecked
import GoSem.Claim
import GoSem.ClaimJoined
import GoSem.ClaimMapViews
import Derived.JoinedTies
import Derived.KernelRfl
namespace Go.Proofs.Ytibekmjdkfakgaa
/- THE CELL 'sum', in the pinned program and in every row, IS THE sha256 OF THE DUMP (.gsa) THAT YtibekmjdkfakgaaProg.lean LOADS. Nothing in Lean hashes anything: it is a label: what it is worth is what the hold of that sum in a sandbox is worth. -/
noncomputable def Try.pinned : Pinned := { name := "ytibekmjdkfakgaa", sum := "5afc2e5f9568321c7591522a9d77461e8c8596a5d8c0143aed49f890117942fd", checked := Try.checked }
namespace Rows
def none {H : Type} : Left H := { results := [], args := [] }

/-- 'laws.FnExactLayString': WHATEVER THE INPUT: true; the input reads as it did. -/
def fnExactLayStringSpec : ChangeSpec := { name := "fnExactLayString", fn := fun _ => fun
  | [d1, d2] => { results := [.lit (.bool true)], args := [d1, d2] }
  | _ => none }
def fnExactLayStringRow : OpenClaim := { program := "ytibekmjdkfakgaa", sum := "5afc2e5f9568321c7591522a9d77461e8c8596a5d8c0143aed49f890117942fd", func := "loop.example/g01180/laws.FnExactLayString", spec := "fnExactLayString", apart := false }
def FnExactLayStringSaid : Prop := fnExactLayStringRow.holds Try.pinned (OpenSpec.ofChange fnExactLayStringSpec)

/-- ITS FALSE NEIGHBOUR: 'it returns false'. Refute it at one input. -/
def fnExactLayStringWrong : ChangeSpec := { name := "fnExactLayString", fn := fun _ => fun
  | [d1, d2] => { results := [.lit (.bool false)], args := [d1, d2] }
  | _ => none }
def FnExactLayStringWrongFalsely : Prop := fnExactLayStringRow.holds Try.pinned (OpenSpec.ofChange fnExactLayStringWrong)

/-- 'laws.FnExactStepString': WHATEVER THE INPUT: true; the input reads as it did. -/
def fnExactStepStringSpec : ChangeSpec := { name := "fnExactStepString", fn := fun _ => fun
  | [d] => { results := [.lit (.bool true)], args := [d] }
  | _ => none }
def fnExactStepStringRow : OpenClaim := { program := "ytibekmjdkfakgaa", sum := "5afc2e5f9568321c7591522a9d77461e8c8596a5d8c0143aed49f890117942fd", func := "loop.example/g01180/laws.FnExactStepString", spec := "fnExactStepString", inPlace := ["math.sqrt"], apart := false }
def FnExactStepStringSaid : Prop := fnExactStepStringRow.holds Try.pinned (OpenSpec.ofChange fnExactStepStringSpec)

/-- ITS FALSE NEIGHBOUR: 'it returns false'. Refute it at one input. -/
def fnExactStepStringWrong : ChangeSpec := { name := "fnExactStepString", fn := fun _ => fun
  | [d] => { results := [.lit (.bool false)], args := [d] }
  | _ => none }
def FnExactStepStringWrongFalsely : Prop := fnExactStepStringRow.holds Try.pinned (OpenSpec.ofChange fnExactStepStringWrong)

/-- 'laws.FnExactRunString': WHATEVER THE INPUT: true; the input reads as it did. -/
def fnExactRunStringSpec : ChangeSpec := { name := "fnExactRunString", fn := fun _ => fun
  | [d1, d2] => { results := [.lit (.bool true)], args := [d1, d2] }
  | _ => none }
def fnExactRunStringRow : OpenClaim := { program := "ytibekmjdkfakgaa", sum := "5afc2e5f9568321c7591522a9d77461e8c8596a5d8c0143aed49f890117942fd", func := "loop.example/g01180/laws.FnExactRunString", spec := "fnExactRunString", inPlace := ["math.sqrt"], apart := false }
def FnExactRunStringSaid : Prop := fnExactRunStringRow.holds Try.pinned (OpenSpec.ofChange fnExactRunStringSpec)

/-- ITS FALSE NEIGHBOUR: 'it returns false'. Refute it at one input. -/
def fnExactRunStringWrong : ChangeSpec := { name := "fnExactRunString", fn := fun _ => fun
  | [d1, d2] => { results := [.lit (.bool false)], args := [d1, d2] }
  | _ => none }
def FnExactRunStringWrongFalsely : Prop := fnExactRunStringRow.holds Try.pinned (OpenSpec.ofChange fnExactRunStringWrong)

/-- 'laws.FnLaid': WHATEVER THE INPUT: true; the input reads as it did. -/
def fnLaidSpec : ChangeSpec := { name := "fnLaid", fn := fun _ => fun
  | [d1, d2] => { results := [.lit (.bool true)], args := [d1, d2] }
  | _ => none }
def fnLaidRow : OpenClaim := { program := "ytibekmjdkfakgaa", sum := "5afc2e5f9568321c7591522a9d77461e8c8596a5d8c0143aed49f890117942fd", func := "loop.example/g01180/laws.FnLaid", spec := "fnLaid", inPlace := ["math.Float32frombits", "math.sqrt", "math.Float64bits", "math.Float64frombits"], apart := false }
def FnLaidSaid : Prop := fnLaidRow.holds Try.pinned (OpenSpec.ofChange fnLaidSpec)

/-- ITS FALSE NEIGHBOUR: 'it returns false'. Refute it at one input. -/
def fnLaidWrong : ChangeSpec := { name := "fnLaid", fn := fun _ => fun
  | [d1, d2] => { results := [.lit (.bool false)], args := [d1, d2] }
  | _ => none }
def FnLaidWrongFalsely : Prop := fnLaidRow.holds Try.pinned (OpenSpec.ofChange fnLaidWrong)

/-- 'laws.FnStrings': WHATEVER THE INPUT: true; the input reads as it did. -/
def fnStringsSpec : ChangeSpec := { name := "fnStrings", fn := fun _ => fun
  | [d1, d2] => { results := [.lit (.bool true)], args := [d1, d2] }
  | _ => none }
def fnStringsRow : OpenClaim := { program := "ytibekmjdkfakgaa", sum := "5afc2e5f9568321c7591522a9d77461e8c8596a5d8c0143aed49f890117942fd", func := "loop.example/g01180/laws.FnStrings", spec := "fnStrings", inPlace := ["math.Float32frombits", "math.sqrt", "math.Float64bits", "math.Float64frombits"], unfollowed := true, recurses := true, apart := false }
def FnStringsSaid : Prop := fnStringsRow.holds Try.pinned (OpenSpec.ofChange fnStringsSpec)

/-- ITS FALSE NEIGHBOUR: 'it returns false'. Refute it at one input. -/
def fnStringsWrong : ChangeSpec := { name := "fnStrings", fn := fun _ => fun
  | [d1, d2] => { results := [.lit (.bool false)], args := [d1, d2] }
  | _ => none }
def FnStringsWrongFalsely : Prop := fnStringsRow.holds Try.pinned (OpenSpec.ofChange fnStringsWrong)

/-- 'laws.FnWorlds': WHATEVER THE INPUT: true; the input reads as it did. -/
def fnWorldsSpec : ChangeSpec := { name := "fnWorlds", fn := fun _ => fun
  | [d1, d2] => { results := [.lit (.bool true)], args := [d1, d2] }
  | _ => none }
def fnWorldsRow : OpenClaim := { program := "ytibekmjdkfakgaa", sum := "5afc2e5f9568321c7591522a9d77461e8c8596a5d8c0143aed49f890117942fd", func := "loop.example/g01180/laws.FnWorlds", spec := "fnWorlds", inPlace := ["math.Float32frombits"], unfollowed := true, recurses := true, apart := false }
def FnWorldsSaid : Prop := fnWorldsRow.holds Try.pinned (OpenSpec.ofChange fnWorldsSpec)

/-- ITS FALSE NEIGHBOUR: 'it returns false'. Refute it at one input. -/
def fnWorldsWrong : ChangeSpec := { name := "fnWorlds", fn := fun _ => fun
  | [d1, d2] => { results := [.lit (.bool false)], args := [d1, d2] }
  | _ => none }
def FnWorldsWrongFalsely : Prop := fnWorldsRow.holds Try.pinned (OpenSpec.ofChange fnWorldsWrong)

/-- 'laws.FnChains': WHATEVER THE INPUT: true; the input reads as it did. -/
def fnChainsSpec : ChangeSpec := { name := "fnChains", fn := fun _ => fun
  | [d1, d2] => { results := [.lit (.bool true)], args := [d1, d2] }
  | _ => none }
def fnChainsRow : OpenClaim := { program := "ytibekmjdkfakgaa", sum := "5afc2e5f9568321c7591522a9d77461e8c8596a5d8c0143aed49f890117942fd", func := "loop.example/g01180/laws.FnChains", spec := "fnChains", inPlace := ["math.Float32frombits", "math.sqrt", "math.Float32bits"], apart := false }
def FnChainsSaid : Prop := fnChainsRow.holds Try.pinned (OpenSpec.ofChange fnChainsSpec)

/-- ITS FALSE NEIGHBOUR: 'it returns false'. Refute it at one input. -/
def fnChainsWrong : ChangeSpec := { name := "fnChains", fn := fun _ => fun
  | [d1, d2] => { results := [.lit (.bool false)], args := [d1, d2] }
  | _ => none }
def FnChainsWrongFalsely : Prop := fnChainsRow.holds Try.pinned (OpenSpec.ofChange fnChainsWrong)

/-- 'laws.FnBlended': WHATEVER THE INPUT: true; the input reads as it did. -/
def fnBlendedSpec : ChangeSpec := { name := "fnBlended", fn := fun _ => fun
  | [d1, d2] => { results := [.lit (.bool true)], args := [d1, d2] }
  | _ => none }
def fnBlendedRow : OpenClaim := { program := "ytibekmjdkfakgaa", sum := "5afc2e5f9568321c7591522a9d77461e8c8596a5d8c0143aed49f890117942fd", func := "loop.example/g01180/laws.FnBlended", spec := "fnBlended", inPlace := ["math.sqrt", "math.Float32bits"], apart := false }
def FnBlendedSaid : Prop := fnBlendedRow.holds Try.pinned (OpenSpec.ofChange fnBlendedSpec)

/-- ITS FALSE NEIGHBOUR: 'it returns false'. Refute it at one input. -/
def fnBlendedWrong : ChangeSpec := { name := "fnBlended", fn := fun _ => fun
  | [d1, d2] => { results := [.lit (.bool false)], args := [d1, d2] }
  | _ => none }
def FnBlendedWrongFalsely : Prop := fnBlendedRow.holds Try.pinned (OpenSpec.ofChange fnBlendedWrong)

/-- 'laws.FnSkins': WHATEVER THE INPUT: true; the input reads as it did. -/
def fnSkinsSpec : ChangeSpec := { name := "fnSkins", fn := fun _ => fun
  | [d1, d2] => { results := [.lit (.bool true)], args := [d1, d2] }
  | _ => none }
def fnSkinsRow : OpenClaim := { program := "ytibekmjdkfakgaa", sum := "5afc2e5f9568321c7591522a9d77461e8c8596a5d8c0143aed49f890117942fd", func := "loop.example/g01180/laws.FnSkins", spec := "fnSkins", inPlace := ["math.Float32frombits", "math.sqrt"], recurses := true, apart := false }
def FnSkinsSaid : Prop := fnSkinsRow.holds Try.pinned (OpenSpec.ofChange fnSkinsSpec)

/-- ITS FALSE NEIGHBOUR: 'it returns false'. Refute it at one input. -/
def fnSkinsWrong : ChangeSpec := { name := "fnSkins", fn := fun _ => fun
  | [d1, d2] => { results := [.lit (.bool false)], args := [d1, d2] }
  | _ => none }
def FnSkinsWrongFalsely : Prop := fnSkinsRow.holds Try.pinned (OpenSpec.ofChange fnSkinsWrong)

/-- 'laws.FnMeasures': WHATEVER THE INPUT: true; the input reads as it did. -/
def fnMeasuresSpec : ChangeSpec := { name := "fnMeasures", fn := fun _ => fun
  | [d1, d2] => { results := [.lit (.bool true)], args := [d1, d2] }
  | _ => none }
def fnMeasuresRow : OpenClaim := { program := "ytibekmjdkfakgaa", sum := "5afc2e5f9568321c7591522a9d77461e8c8596a5d8c0143aed49f890117942fd", func := "loop.example/g01180/laws.FnMeasures", spec := "fnMeasures", inPlace := ["math.Float32frombits", "math.sqrt", "math.Float32bits"], unfollowed := true, recurses := true, apart := false }
def FnMeasuresSaid : Prop := fnMeasuresRow.holds Try.pinned (OpenSpec.ofChange fnMeasuresSpec)

/-- ITS FALSE NEIGHBOUR: 'it returns false'. Refute it at one input. -/
def fnMeasuresWrong : ChangeSpec := { name := "fnMeasures", fn := fun _ => fun
  | [d1, d2] => { results := [.lit (.bool false)], args := [d1, d2] }
  | _ => none }
def FnMeasuresWrongFalsely : Prop := fnMeasuresRow.holds Try.pinned (OpenSpec.ofChange fnMeasuresWrong)

/-- 'laws.FnTurnWords': WHATEVER THE INPUT: true; the input reads as it did. -/
def fnTurnWordsSpec : ChangeSpec := { name := "fnTurnWords", fn := fun _ => fun
  | [d1, d2] => { results := [.lit (.bool true)], args := [d1, d2] }
  | _ => none }
def fnTurnWordsRow : OpenClaim := { program := "ytibekmjdkfakgaa", sum := "5afc2e5f9568321c7591522a9d77461e8c8596a5d8c0143aed49f890117942fd", func := "loop.example/g01180/laws.FnTurnWords", spec := "fnTurnWords", inPlace := ["math.sqrt", "math.Float64bits", "math.Float64frombits", "math.RoundToEven"], apart := false }
def FnTurnWordsSaid : Prop := fnTurnWordsRow.holds Try.pinned (OpenSpec.ofChange fnTurnWordsSpec)

/-- ITS FALSE NEIGHBOUR: 'it returns false'. Refute it at one input. -/
def fnTurnWordsWrong : ChangeSpec := { name := "fnTurnWords", fn := fun _ => fun
  | [d1, d2] => { results := [.lit (.bool false)], args := [d1, d2] }
  | _ => none }
def FnTurnWordsWrongFalsely : Prop := fnTurnWordsRow.holds Try.pinned (OpenSpec.ofChange fnTurnWordsWrong)

/-- 'laws.FnPackedPoses': WHATEVER THE INPUT: true; the input reads as it did. -/
def fnPackedPosesSpec : ChangeSpec := { name := "fnPackedPoses", fn := fun _ => fun
  | [d1, d2] => { results := [.lit (.bool true)], args := [d1, d2] }
  | _ => none }
def fnPackedPosesRow : OpenClaim := { program := "ytibekmjdkfakgaa", sum := "5afc2e5f9568321c7591522a9d77461e8c8596a5d8c0143aed49f890117942fd", func := "loop.example/g01180/laws.FnPackedPoses", spec := "fnPackedPoses", inPlace := ["math.sqrt", "math.RoundToEven", "math.Float64bits", "math.Float64frombits"], unfollowed := true, recurses := true, apart := false }
def FnPackedPosesSaid : Prop := fnPackedPosesRow.holds Try.pinned (OpenSpec.ofChange fnPackedPosesSpec)

/-- ITS FALSE NEIGHBOUR: 'it returns false'. Refute it at one input. -/
def fnPackedPosesWrong : ChangeSpec := { name := "fnPackedPoses", fn := fun _ => fun
  | [d1, d2] => { results := [.lit (.bool false)], args := [d1, d2] }
  | _ => none }
def FnPackedPosesWrongFalsely : Prop := fnPackedPosesRow.holds Try.pinned (OpenSpec.ofChange fnPackedPosesWrong)

/- THE SECOND FORM. 'bulk': how many values and letters a reading holds, each counted each time it is reached (what is shared counts as often as it is met; a slice's spare places count too). A statement '..UptoSaid' is the law's where the arguments, and the package variables that the reading takes, are together of bulk at most 1048576: NARROWER than '..Said'. Prove '..Said' where nothing that the law and all that it calls make is longer than what came in: it says more and counts as full. Else prove '..UptoSaid'. A law counts once. -/
mutual
def uptoBulk {H : Type} : DataW H → Nat
  | .lit (.string bytes) => bytes.length + 1
  | .lit _ => 1
  | .nil => 1
  | .ptr d => uptoBulk d + 1
  | .slice elems spare => uptoBulkAll elems + uptoBulkAll spare + 1
  | .agg parts => uptoBulkAll parts + 1
  | .iface _ d => uptoBulk d + 1
  | .map entries => uptoBulkEntries entries + 1
  | .held _ => 1
def uptoBulkAll {H : Type} : List (DataW H) → Nat
  | [] => 0
  | d :: r => uptoBulk d + uptoBulkAll r
def uptoBulkEntries {H : Type} : List (Lit × DataW H) → Nat
  | [] => 0
  | x :: r => uptoBulkEntry x + uptoBulkEntries r
def uptoBulkEntry {H : Type} : Lit × DataW H → Nat
  | (.string bytes, d) => bytes.length + uptoBulk d + 1
  | (_, d) => uptoBulk d + 1
 end
def uptoSmall : (H : Type) → List (DataW H) → Bool := fun _ ds => decide (uptoBulkAll ds ≤ 1048576)
def OpenSpec.upto (s : _root_.Go.ChangeSpec) : _root_.Go.OpenSpec := { _root_.Go.OpenSpec.ofChange s with cond := some uptoSmall }

/-- 'laws.FnExactLayString', WHERE WHAT IT READS IS OF BULK AT MOST 1048576: true; the input reads as it did. -/
def fnExactLayStringUptoRow : OpenClaim := { program := "ytibekmjdkfakgaa", sum := "5afc2e5f9568321c7591522a9d77461e8c8596a5d8c0143aed49f890117942fd", func := "loop.example/g01180/laws.FnExactLayString", spec := "fnExactLayString", apart := false, narrowed := true }
def FnExactLayStringUptoSaid : Prop := fnExactLayStringUptoRow.holds Try.pinned (OpenSpec.upto fnExactLayStringSpec)

/-- 'laws.FnExactStepString', WHERE WHAT IT READS IS OF BULK AT MOST 1048576: true; the input reads as it did. -/
def fnExactStepStringUptoRow : OpenClaim := { program := "ytibekmjdkfakgaa", sum := "5afc2e5f9568321c7591522a9d77461e8c8596a5d8c0143aed49f890117942fd", func := "loop.example/g01180/laws.FnExactStepString", spec := "fnExactStepString", inPlace := ["math.sqrt"], apart := false, narrowed := true }
def FnExactStepStringUptoSaid : Prop := fnExactStepStringUptoRow.holds Try.pinned (OpenSpec.upto fnExactStepStringSpec)

/-- 'laws.FnExactRunString', WHERE WHAT IT READS IS OF BULK AT MOST 1048576: true; the input reads as it did. -/
def fnExactRunStringUptoRow : OpenClaim := { program := "ytibekmjdkfakgaa", sum := "5afc2e5f9568321c7591522a9d77461e8c8596a5d8c0143aed49f890117942fd", func := "loop.example/g01180/laws.FnExactRunString", spec := "fnExactRunString", inPlace := ["math.sqrt"], apart := false, narrowed := true }
def FnExactRunStringUptoSaid : Prop := fnExactRunStringUptoRow.holds Try.pinned (OpenSpec.upto fnExactRunStringSpec)

/-- 'laws.FnLaid', WHERE WHAT IT READS IS OF BULK AT MOST 1048576: true; the input reads as it did. -/
def fnLaidUptoRow : OpenClaim := { program := "ytibekmjdkfakgaa", sum := "5afc2e5f9568321c7591522a9d77461e8c8596a5d8c0143aed49f890117942fd", func := "loop.example/g01180/laws.FnLaid", spec := "fnLaid", inPlace := ["math.Float32frombits", "math.sqrt", "math.Float64bits", "math.Float64frombits"], apart := false, narrowed := true }
def FnLaidUptoSaid : Prop := fnLaidUptoRow.holds Try.pinned (OpenSpec.upto fnLaidSpec)

/-- 'laws.FnStrings', WHERE WHAT IT READS IS OF BULK AT MOST 1048576: true; the input reads as it did. -/
def fnStringsUptoRow : OpenClaim := { program := "ytibekmjdkfakgaa", sum := "5afc2e5f9568321c7591522a9d77461e8c8596a5d8c0143aed49f890117942fd", func := "loop.example/g01180/laws.FnStrings", spec := "fnStrings", inPlace := ["math.Float32frombits", "math.sqrt", "math.Float64bits", "math.Float64frombits"], unfollowed := true, recurses := true, apart := false, narrowed := true }
def FnStringsUptoSaid : Prop := fnStringsUptoRow.holds Try.pinned (OpenSpec.upto fnStringsSpec)

/-- 'laws.FnWorlds', WHERE WHAT IT READS IS OF BULK AT MOST 1048576: true; the input reads as it did. -/
def fnWorldsUptoRow : OpenClaim := { program := "ytibekmjdkfakgaa", sum := "5afc2e5f9568321c7591522a9d77461e8c8596a5d8c0143aed49f890117942fd", func := "loop.example/g01180/laws.FnWorlds", spec := "fnWorlds", inPlace := ["math.Float32frombits"], unfollowed := true, recurses := true, apart := false, narrowed := true }
def FnWorldsUptoSaid : Prop := fnWorldsUptoRow.holds Try.pinned (OpenSpec.upto fnWorldsSpec)

/-- 'laws.FnChains', WHERE WHAT IT READS IS OF BULK AT MOST 1048576: true; the input reads as it did. -/
def fnChainsUptoRow : OpenClaim := { program := "ytibekmjdkfakgaa", sum := "5afc2e5f9568321c7591522a9d77461e8c8596a5d8c0143aed49f890117942fd", func := "loop.example/g01180/laws.FnChains", spec := "fnChains", inPlace := ["math.Float32frombits", "math.sqrt", "math.Float32bits"], apart := false, narrowed := true }
def FnChainsUptoSaid : Prop := fnChainsUptoRow.holds Try.pinned (OpenSpec.upto fnChainsSpec)

/-- 'laws.FnBlended', WHERE WHAT IT READS IS OF BULK AT MOST 1048576: true; the input reads as it did. -/
def fnBlendedUptoRow : OpenClaim := { program := "ytibekmjdkfakgaa", sum := "5afc2e5f9568321c7591522a9d77461e8c8596a5d8c0143aed49f890117942fd", func := "loop.example/g01180/laws.FnBlended", spec := "fnBlended", inPlace := ["math.sqrt", "math.Float32bits"], apart := false, narrowed := true }
def FnBlendedUptoSaid : Prop := fnBlendedUptoRow.holds Try.pinned (OpenSpec.upto fnBlendedSpec)

/-- 'laws.FnSkins', WHERE WHAT IT READS IS OF BULK AT MOST 1048576: true; the input reads as it did. -/
def fnSkinsUptoRow : OpenClaim := { program := "ytibekmjdkfakgaa", sum := "5afc2e5f9568321c7591522a9d77461e8c8596a5d8c0143aed49f890117942fd", func := "loop.example/g01180/laws.FnSkins", spec := "fnSkins", inPlace := ["math.Float32frombits", "math.sqrt"], recurses := true, apart := false, narrowed := true }
def FnSkinsUptoSaid : Prop := fnSkinsUptoRow.holds Try.pinned (OpenSpec.upto fnSkinsSpec)

/-- 'laws.FnMeasures', WHERE WHAT IT READS IS OF BULK AT MOST 1048576: true; the input reads as it did. -/
def fnMeasuresUptoRow : OpenClaim := { program := "ytibekmjdkfakgaa", sum := "5afc2e5f9568321c7591522a9d77461e8c8596a5d8c0143aed49f890117942fd", func := "loop.example/g01180/laws.FnMeasures", spec := "fnMeasures", inPlace := ["math.Float32frombits", "math.sqrt", "math.Float32bits"], unfollowed := true, recurses := true, apart := false, narrowed := true }
def FnMeasuresUptoSaid : Prop := fnMeasuresUptoRow.holds Try.pinned (OpenSpec.upto fnMeasuresSpec)

/-- 'laws.FnTurnWords', WHERE WHAT IT READS IS OF BULK AT MOST 1048576: true; the input reads as it did. -/
def fnTurnWordsUptoRow : OpenClaim := { program := "ytibekmjdkfakgaa", sum := "5afc2e5f9568321c7591522a9d77461e8c8596a5d8c0143aed49f890117942fd", func := "loop.example/g01180/laws.FnTurnWords", spec := "fnTurnWords", inPlace := ["math.sqrt", "math.Float64bits", "math.Float64frombits", "math.RoundToEven"], apart := false, narrowed := true }
def FnTurnWordsUptoSaid : Prop := fnTurnWordsUptoRow.holds Try.pinned (OpenSpec.upto fnTurnWordsSpec)

/-- 'laws.FnPackedPoses', WHERE WHAT IT READS IS OF BULK AT MOST 1048576: true; the input reads as it did. -/
def fnPackedPosesUptoRow : OpenClaim := { program := "ytibekmjdkfakgaa", sum := "5afc2e5f9568321c7591522a9d77461e8c8596a5d8c0143aed49f890117942fd", func := "loop.example/g01180/laws.FnPackedPoses", spec := "fnPackedPoses", inPlace := ["math.sqrt", "math.RoundToEven", "math.Float64bits", "math.Float64frombits"], unfollowed := true, recurses := true, apart := false, narrowed := true }
def FnPackedPosesUptoSaid : Prop := fnPackedPosesUptoRow.holds Try.pinned (OpenSpec.upto fnPackedPosesSpec)

end Rows
end Go.Proofs.Ytibekmjdkfakgaa
