/- FnExactReadPose: for every input the law answers true, and its input reads as it did. -/
import Derived.Test.YtcgakaboochpaaeDoorRows
import Derived.Stop.LaidErr
import Derived.Test.YtcgakaboochpaaeDoorFwLS
import Derived.Test.YtcgakaboochpaaeDoorCards
import Derived.Test.YtcgakaboochpaaeDoorTie
import Derived.Test.YtcgakaboochpaaeDoorFwLB
import Derived.Deep.DeepHandedRow
import Derived.Lib.LaidU8
import Derived.SevenTiedAt
import Derived.Test.YtcgakaboochpaaeDoorFwGQReadLaw
import Derived.Test.YtcgakaboochpaaeDoorFwR7
import Derived.ProofKit
namespace Go.Proofs.YtcgakaboochpaaeDoor
open Go.ChangeShapes Go.WideShapes Go.ChangeAt Go.RowKit Go.Fw

theorem Tryd.own : ownKnob Tryd.prog.godebug = none := by kernel_rfl
theorem Tryd.laidOut : laidOutB Tryd.prog = true := by kernel_rfl

section
variable {w : World}
theorem rd9 : Rd Tryd.prog w 9 csS (fun a => a.size ≤ maxLen) := rd_string Tryd.underlying9
end

theorem lawOf (a0 : ByteArray) (k0 : a0.size ≤ maxLen) : ∃ K, laws_FnExactReadPose K a0 = some true :=
  law_ReadPose a0 k0

def cellsD : DataW Unit → Array Value
  | .agg ps => (ps.flatMap fun | .lit (.int k z) => [Value.int k z] | .agg qs => qs.map (fun | .lit (.int k z) => Value.int k z | _ => undef) | _ => [undef]).toArray
  | _ => #[]
theorem star : "*" ++ "errors.errorString" = "*errors.errorString" := by decide
theorem errRow (u : TypeId) (h : Tryd.prog.typeName? 3 u = some "*errors.errorString") : u = 114 :=
  typeName_ptr_named (nm := "errors.errorString") (by rw [star]; kernel_rfl) (by kernel_rfl) (by decide) u (by rw [star]; exact h)
theorem gdW {W : World} (h : laidMetH Tryd.prog Rows.fnExactReadPoseRow.laid W) : Gd W := by
  have h1 : laidMet Tryd.prog Rows.fnExactReadPoseRow.laid W := h
  have e0 : Rows.laid_internal_strconv_uint64pow10 (H := Unit) = Lib.tabData .u64 Lib.pow10Tab := by kernel_rfl
  have r0 := Lib.laidMet.reads h1 (n := "internal/strconv.uint64pow10") (d := Rows.laid_internal_strconv_uint64pow10) (List.mem_cons_of_mem _ (List.mem_cons_of_mem _ List.mem_cons_self))
  rw [e0] at r0
  have t0 := tabIs_of_reads (g := 6) (t := 118) (by kernel_rfl) (by kernel_rfl) Tryd.underlying118 Tryd.underlying63 (by kernel_rfl) (by kernel_rfl) r0
  have e1 : Rows.laid_math_bits_deBruijn64tab (H := Unit) = Lib.tabData .u8 ([0, 1, 56, 2, 57, 49, 28, 3, 61, 58, 42, 50, 38, 29, 17, 4, 62, 47, 59, 36, 45, 43, 51, 22, 53, 39, 33, 30, 24, 18, 12, 5, 63, 55, 48, 27, 60, 41, 37, 16, 46, 35, 44, 21, 52, 32, 23, 11, 54, 26, 40, 15, 34, 20, 31, 10, 25, 14, 19, 9, 13, 8, 7, 6] : List Int) := by kernel_rfl
  have r1 := Lib.laidMet.reads h1 (n := "math/bits.deBruijn64tab") (d := Rows.laid_math_bits_deBruijn64tab) (List.mem_cons_of_mem _ List.mem_cons_self)
  rw [e1] at r1
  have t1 := tabIs_of_reads (g := 8) (t := 127) (by kernel_rfl) (by kernel_rfl) Tryd.underlying127 Tryd.underlying5 (by kernel_rfl) (by kernel_rfl) r1
  obtain ⟨a2, s2, t2, _, _, _⟩ := laid_sentinel (P := Tryd.prog) (te := 116) (ts := 9) (h1.tail.tail.tail.tail.tail) (by kernel_rfl : Tryd.prog.globalNamed "strconv.ErrSyntax" = some 4) (by kernel_rfl) Tryd.underlying65 errRow Tryd.underlying114 Tryd.underlying116 rfl rfl Tryd.underlying9 (by kernel_rfl) (by kernel_rfl)
  obtain ⟨a3, s3, t3, _, _, _⟩ := laid_sentinel (P := Tryd.prog) (te := 116) (ts := 9) (h1.tail.tail.tail.tail) (by kernel_rfl : Tryd.prog.globalNamed "strconv.ErrRange" = some 5) (by kernel_rfl) Tryd.underlying65 errRow Tryd.underlying114 Tryd.underlying116 rfl rfl Tryd.underlying9 (by kernel_rfl) (by kernel_rfl)
  intro g hg
  simp only [gtabs, List.mem_cons, List.not_mem_nil, or_false] at hg
  rcases hg with rfl | rfl | rfl | rfl
  · exact gd_tab (by kernel_rfl) t0
  · exact gd_tab (by kernel_rfl) t1
  · exact gd_err (by kernel_rfl) t2
  · exact gd_err (by kernel_rfl) t3
set_option maxRecDepth 100000 in
theorem contract (H : Type) (enc : TypeId × Value → H) (W : World) (base : Nat) (args : Array Value) (ds gs : List (DataW H)) (before : List MemPlace)
    (hval0 : ∀ (j : Nat) t v, Tryd.f3.params[j]? = some t → args[j]? = some v → Value.okWide Tryd.prog W .any base t v)
    (hW : DataW.Whole enc Tryd.prog Tryd.f3.params.toList Rows.fnExactReadPoseSpec.vars false W args.toList ds gs before) (hL : laidMetH Tryd.prog Rows.fnExactReadPoseRow.laid W) :
    Calls Tryd.prog 3 args W fun e W' => ∃ v, e = .returned v ∧ Rows.fnExactReadPoseSpec.post enc Tryd.prog Tryd.f3 false true false false W args v W' := by
  have hval := hval0
  have hW' := hW
  obtain ⟨p, q, hA0, hV, rfl, hfz, hnd⟩ := hW
  have hA : DataW.TrodAll enc Tryd.prog W 0 (fun _ => true) true Tryd.f3.params.toList args.toList ds p := hA0
  rw [Tryd.params3] at hA hval
  obtain ⟨v0, d0, rfl, rfl, h0⟩ := trodAll_one hA
  obtain ⟨rfl, rfl⟩ := trodVars_none hV
  obtain ⟨a0, k0, r0⟩ := rd_arg_onet Tryd.underlying9 (c := fun (a : ByteArray) => (.str a)) rd9 (hval 0 9 v0 rfl rfl) h0
  obtain ⟨K, hK⟩ := lawOf a0 k0
  have hc := (ok_laws_FnExactReadPose K a0 true hK).calls Tryd.func3 (by kernel_rfl) (by kernel_rfl) (w := W) (vs := #[v0]) (gdW hL) (ctsRep1 r0)
  refine hc.mono fun e W' ⟨v, he, hb, hr⟩ => ?_
  have hv : v = .bool true := by obtain ⟨F, _, _, h⟩ := hr; exact h
  subst he; subst hv
  exact ⟨_, rfl, post_true (tb := 4) Tryd.laidOut hW' rfl hb (by rw [Tryd.params3]; intro t ht; simp at ht; rcases ht with rfl <;> exact ⟨by kernel_rfl, of_decide_eq_true (by kernel_rfl)⟩) rfl Tryd.underlying4 rfl rfl rfl⟩

noncomputable def low : Nat := (World.holding Tryd.prog default ⟨#[], #[], []⟩).heap.size
noncomputable def laidWorld (os : Os) : World :=
  let w0 := World.holding Tryd.prog os ⟨#[.cells #[.string { data := #[118, 97, 108, 117, 101, 32, 111, 117, 116, 32, 111, 102, 32, 114, 97, 110, 103, 101] }] 116, .cells #[.string { data := #[105, 110, 118, 97, 108, 105, 100, 32, 115, 121, 110, 116, 97, 120] }] 116], #[], []⟩
  let put (h : Array Obj) (g : Nat) (cs : Array Value) : Array Obj := h.modify g fun
    | .cells _ t frozen => .cells cs t frozen
    | o => o
  { w0 with heap := (put ((put ((put ((put ((put ((put ((put (w0.heap) 7 (cellsD Rows.laid_math_bits_deBruijn32tab))) 8 (cellsD Rows.laid_math_bits_deBruijn64tab))) 6 (cellsD Rows.laid_internal_strconv_uint64pow10))) 3 (cellsD Rows.laid_unicode_utf8_acceptRanges))) 5 #[.iface 114 (.pointer (some ⟨low + 0, 0, none⟩))])) 4 #[.iface 114 (.pointer (some ⟨low + 1, 0, none⟩))])) 2 (cellsD Rows.laid_unicode_utf8_first)) }
theorem laid_met (os : Os) : laidMet Tryd.prog Rows.fnExactReadPoseRow.laid ((laidWorld os).forCall (fun _ _ => 0) ⟨#[], #[.string ByteArray.empty], []⟩).memory :=
  laidMet_of_run' 8 (by kernel_rfl) (by kernel_rfl)
theorem witReads (os : Os) {H : Type} (enc : TypeId × Value → H) : ∃ places, DataW.whole enc Tryd.prog ((laidWorld os).forCall (fun _ _ => 0) ⟨#[], #[.string ByteArray.empty], []⟩).memory Tryd.f3.params.toList Rows.fnExactReadPoseSpec.vars false (#[.string ByteArray.empty] : Array Value).toList 8 = some ([.lit (.string [])], [], places) :=
  ⟨[], by kernel_rfl⟩
set_option maxRecDepth 100000 in
theorem lifted (os : Os) (started : os.Started) (H : Type) (enc : TypeId × Value → H) (F : Stop.Interp) :
    ReturnsInHanded {} Tryd.checked os 3 .any ((OpenSpec.ofChange Rows.fnExactReadPoseSpec).preRow enc Tryd.prog Tryd.f3 Rows.fnExactReadPoseRow.domain false Rows.fnExactReadPoseRow.laid) (((OpenSpec.ofChange Rows.fnExactReadPoseSpec).at F).post enc Tryd.prog Tryd.f3 false true false false) := by
  obtain ⟨places, hx⟩ := witReads os enc
  refine returnsInHanded_of_row (C := Tryd.checked) (s := OpenSpec.ofChange Rows.fnExactReadPoseSpec) Tryd.own started (by kernel_rfl) Tryd.func3
    (witness_row_at (enc := enc) (C := Tryd.checked) false (laidWorld os) #[.string ByteArray.empty] rfl (by kernel_rfl) (by kernel_rfl) (by kernel_rfl)
      (OpenSpec.preRow_of_cond 8 hx (by kernel_rfl) (fun k hk => by cases hk) (by kernel_rfl) (laid_met os))) ?_
  intro W base args ds gs before hval hW _ _ _ hL _ _
  exact contract H enc W base args ds gs before hval hW hL
theorem said : Rows.FnExactReadPoseSaid :=
  OpenClaim.holds_of_cond 3 Tryd.f3 rfl rfl rfl rfl rfl rfl rfl ⟨rfl, rfl, rfl, rfl, rfl⟩ rfl rfl rfl rfl rfl (by kernel_rfl) Tryd.func3 (by kernel_rfl)
    (of_decide_eq_true (by kernel_rfl)) (by unfold Func.isWrapper; first | (rw [if_pos (by decide +kernel)]; kernel_rfl) | (rw [if_neg (by decide +kernel)]; exact ⟨rfl, rfl⟩))
    (fun os started H enc _ F => by rw [OpenClaim.pre_eq_preRow]; exact lifted os started H enc F)
theorem plain (f : FuncId) (fn : Func) (hf : Tryd.pinned.checked.prog.funcNamed "loop.example/g01180/laws.FnExactReadPose" = some f) (hfn : Tryd.pinned.checked.prog.funcs[f]? = some fn) :
    true = Tryd.pinned.checked.prog.looks [] ∧ ∀ (j : Nat) t, fn.params[j]? = some t → Tryd.pinned.checked.prog.wantsStandIn t = false := by
  obtain rfl : f = 3 := Option.some.inj ((show Tryd.prog.funcNamed "loop.example/g01180/laws.FnExactReadPose" = some 3 by kernel_rfl).symm.trans hf) |>.symm
  obtain rfl : fn = Tryd.f3 := (Option.some.inj (Tryd.func3.symm.trans hfn)).symm
  refine ⟨by kernel_rfl, fun j t ht => ?_⟩
  rw [Tryd.params3] at ht
  have hm := Array.mem_of_getElem? ht
  simp at hm
  subst hm
  · exact (show Tryd.prog.wantsStandIn 9 = false by kernel_rfl)
theorem fnExactReadPose_holds : Rows.FnExactReadPoseCardSaid :=
  Claim7.holds_tied_plain_at .later [] _ _ _ _ said (fun _ h => by cases h) (by kernel_rfl) (fun _ h => by cases h) fnExactReadPose_row_tie rfl ⟨rfl, rfl⟩ (by kernel_rfl) rfl plain (by kernel_rfl)

end Go.Proofs.YtcgakaboochpaaeDoor
