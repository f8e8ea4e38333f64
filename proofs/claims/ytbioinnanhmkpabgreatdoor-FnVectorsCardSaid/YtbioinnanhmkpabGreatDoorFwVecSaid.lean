/- FnVectors: for every input the law answers true, and its input reads as it did. -/
import Derived.Test.YtbioinnanhmkpabGreatDoorRows
import Derived.Test.YtbioinnanhmkpabGreatDoorCards
import Derived.Test.YtbioinnanhmkpabGreatDoorTie
import Derived.Test.YtbioinnanhmkpabGreatDoorFwLB
import Derived.Deep.DeepHandedRow
import Derived.Lib.LaidU8
import Derived.SevenTiedAt
import Derived.Test.YtbioinnanhmkpabGreatDoorFwGVVecLaw
import Derived.Test.YtbioinnanhmkpabGreatDoorFwR7
import Derived.ProofKit
namespace Go.Proofs.YtbioinnanhmkpabGreatDoor
open Go.ChangeShapes Go.WideShapes Go.ChangeAt Go.RowKit Go.Fw

theorem Tryz.own : ownKnob Tryz.prog.godebug = none := by kernel_rfl
theorem Tryz.laidOut : laidOutB Tryz.prog = true := by kernel_rfl

section
variable {w : World}
theorem rd5 : Rd Tryz.prog w 5 (csI .u8) (fun a => (Lit.int .u8 a).wf = true) := rd_int Tryz.underlying5
theorem rd22 : Rd Tryz.prog w 22 (csL 1 (csI .u8)) (fun a => a.length ≤ maxLen ∧ ∀ x ∈ a, (Lit.int .u8 x).wf = true) := rd_slice rd5 Tryz.underlying22 (by kernel_rfl) (by decide) (fun _ => rfl)
end

theorem lawOf (a0 : (List Int)) (a1 : (List Int)) (k0 : a0.length ≤ maxLen ∧ ∀ x ∈ a0, (Lit.int .u8 x).wf = true) (k1 : a1.length ≤ maxLen ∧ ∀ x ∈ a1, (Lit.int .u8 x).wf = true) : ∃ K, laws_FnVectors K a0 a1 = some true :=
  law_FnVectors a0 a1 k0 k1

def cellsD : DataW Unit → Array Value
  | .agg ps => (ps.flatMap fun | .lit (.int k z) => [Value.int k z] | .agg qs => qs.map (fun | .lit (.int k z) => Value.int k z | _ => undef) | _ => [undef]).toArray
  | _ => #[]
theorem gdW {W : World} (h : laidMetH Tryz.prog Rows.fnVectorsRow.laid W) : Gd W := by
  have h1 : laidMet Tryz.prog Rows.fnVectorsRow.laid W := h
  have e0 : Rows.laid_internal_strconv_uint64pow10 (H := Unit) = Lib.tabData .u64 Lib.pow10Tab := by kernel_rfl
  have r0 := Lib.laidMet.reads h1 (n := "internal/strconv.uint64pow10") (d := Rows.laid_internal_strconv_uint64pow10) (List.mem_cons_of_mem _ (List.mem_cons_of_mem _ List.mem_cons_self))
  rw [e0] at r0
  have t0 := tabIs_of_reads (g := 1) (t := 115) (by kernel_rfl) (by kernel_rfl) Tryz.underlying115 Tryz.underlying48 (by kernel_rfl) (by kernel_rfl) r0
  have e1 : Rows.laid_math_bits_deBruijn64tab (H := Unit) = Lib.tabData .u8 ([0, 1, 56, 2, 57, 49, 28, 3, 61, 58, 42, 50, 38, 29, 17, 4, 62, 47, 59, 36, 45, 43, 51, 22, 53, 39, 33, 30, 24, 18, 12, 5, 63, 55, 48, 27, 60, 41, 37, 16, 46, 35, 44, 21, 52, 32, 23, 11, 54, 26, 40, 15, 34, 20, 31, 10, 25, 14, 19, 9, 13, 8, 7, 6] : List Int) := by kernel_rfl
  have r1 := Lib.laidMet.reads h1 (n := "math/bits.deBruijn64tab") (d := Rows.laid_math_bits_deBruijn64tab) (List.mem_cons_of_mem _ List.mem_cons_self)
  rw [e1] at r1
  have t1 := tabIs_of_reads (g := 6) (t := 135) (by kernel_rfl) (by kernel_rfl) Tryz.underlying135 Tryz.underlying5 (by kernel_rfl) (by kernel_rfl) r1
  intro g hg
  simp only [gtabs, List.mem_cons, List.not_mem_nil, or_false] at hg
  rcases hg with rfl | rfl
  · exact gd_tab (by kernel_rfl) t0
  · exact gd_tab (by kernel_rfl) t1
set_option maxRecDepth 100000 in
theorem contract (H : Type) (enc : TypeId × Value → H) (W : World) (base : Nat) (args : Array Value) (ds gs : List (DataW H)) (before : List MemPlace)
    (hval0 : ∀ (j : Nat) t v, Tryz.f3.params[j]? = some t → args[j]? = some v → Value.okWide Tryz.prog W .any base t v)
    (hW : DataW.Whole enc Tryz.prog Tryz.f3.params.toList Rows.fnVectorsSpec.vars false W args.toList ds gs before) (hL : laidMetH Tryz.prog Rows.fnVectorsRow.laid W) :
    Calls Tryz.prog 3 args W fun e W' => ∃ v, e = .returned v ∧ Rows.fnVectorsSpec.post enc Tryz.prog Tryz.f3 false true false false W args v W' := by
  have hval := hval0
  have hW' := hW
  obtain ⟨p, q, hA0, hV, rfl, hfz, hnd⟩ := hW
  have hA : DataW.TrodAll enc Tryz.prog W 0 (fun _ => true) true Tryz.f3.params.toList args.toList ds p := hA0
  rw [Tryz.params3] at hA hval
  obtain ⟨v0, v1, d0, d1, p0, p1, rfl, rfl, rfl, h0, h1⟩ := trodAll_two hA
  obtain ⟨rfl, rfl⟩ := trodVars_none hV
  obtain ⟨a0, k0, r0⟩ := rd_arg_ones Tryz.underlying22 (c := fun (a : (List Int)) => (sl 1 (csI .u8) a)) rd22 (hval 0 22 v0 rfl rfl) h0
  obtain ⟨a1, k1, r1⟩ := rd_arg_ones Tryz.underlying22 (c := fun (a : (List Int)) => (sl 1 (csI .u8) a)) rd22 (hval 1 22 v1 rfl rfl) h1
  obtain ⟨K, hK⟩ := lawOf a0 a1 k0 k1
  have hc := (ok_laws_FnVectors K a0 a1 true hK).calls Tryz.func3 (by kernel_rfl) (by kernel_rfl) (w := W) (vs := #[v0, v1]) (gdW hL) (ctsRep2 r0 r1)
  refine hc.mono fun e W' ⟨v, he, hb, hr⟩ => ?_
  have hv : v = .bool true := by obtain ⟨F, _, _, h⟩ := hr; exact h
  subst he; subst hv
  exact ⟨_, rfl, post_true (tb := 4) Tryz.laidOut hW' rfl hb (by rw [Tryz.params3]; intro t ht; simp at ht; rcases ht with rfl | rfl <;> exact ⟨by kernel_rfl, of_decide_eq_true (by kernel_rfl)⟩) rfl Tryz.underlying4 rfl rfl rfl⟩

noncomputable def low : Nat := (World.holding Tryz.prog default ⟨#[], #[], []⟩).heap.size
noncomputable def laidWorld (os : Os) : World :=
  let w0 := World.holding Tryz.prog os ⟨#[.cells #[.string { data := #[118, 97, 108, 117, 101, 32, 111, 117, 116, 32, 111, 102, 32, 114, 97, 110, 103, 101] }] 133, .cells #[.string { data := #[105, 110, 118, 97, 108, 105, 100, 32, 115, 121, 110, 116, 97, 120] }] 133], #[], []⟩
  let put (h : Array Obj) (g : Nat) (cs : Array Value) : Array Obj := h.modify g fun
    | .cells _ t frozen => .cells cs t frozen
    | o => o
  { w0 with heap := (put ((put ((put ((put ((put ((put ((put (w0.heap) 5 (cellsD Rows.laid_math_bits_deBruijn32tab))) 6 (cellsD Rows.laid_math_bits_deBruijn64tab))) 1 (cellsD Rows.laid_internal_strconv_uint64pow10))) 8 (cellsD Rows.laid_unicode_utf8_acceptRanges))) 3 #[.iface 131 (.pointer (some ⟨low + 0, 0, none⟩))])) 2 #[.iface 131 (.pointer (some ⟨low + 1, 0, none⟩))])) 7 (cellsD Rows.laid_unicode_utf8_first)) }
theorem laid_met (os : Os) : laidMet Tryz.prog Rows.fnVectorsRow.laid ((laidWorld os).forCall (fun _ _ => 0) ⟨#[], #[.slice none 0 0, .slice none 0 0], []⟩).memory :=
  laidMet_of_run' 8 (by kernel_rfl) (by kernel_rfl)
theorem witReads (os : Os) {H : Type} (enc : TypeId × Value → H) : ∃ places, DataW.whole enc Tryz.prog ((laidWorld os).forCall (fun _ _ => 0) ⟨#[], #[.slice none 0 0, .slice none 0 0], []⟩).memory Tryz.f3.params.toList Rows.fnVectorsSpec.vars false (#[.slice none 0 0, .slice none 0 0] : Array Value).toList 8 = some ([.nil, .nil], [], places) :=
  ⟨[], by kernel_rfl⟩
set_option maxRecDepth 100000 in
theorem lifted (os : Os) (started : os.Started) (H : Type) (enc : TypeId × Value → H) (F : Stop.Interp) :
    ReturnsInHanded {} Tryz.checked os 3 .any ((OpenSpec.ofChange Rows.fnVectorsSpec).preRow enc Tryz.prog Tryz.f3 Rows.fnVectorsRow.domain false Rows.fnVectorsRow.laid) (((OpenSpec.ofChange Rows.fnVectorsSpec).at F).post enc Tryz.prog Tryz.f3 false true false false) := by
  obtain ⟨places, hx⟩ := witReads os enc
  refine returnsInHanded_of_row (C := Tryz.checked) (s := OpenSpec.ofChange Rows.fnVectorsSpec) Tryz.own started (by kernel_rfl) Tryz.func3
    (witness_row_at (enc := enc) (C := Tryz.checked) false (laidWorld os) #[.slice none 0 0, .slice none 0 0] rfl (by kernel_rfl) (by kernel_rfl) (by kernel_rfl)
      (OpenSpec.preRow_of_cond 8 hx (by kernel_rfl) (fun k hk => by cases hk) (by kernel_rfl) (laid_met os))) ?_
  intro W base args ds gs before hval hW _ _ _ hL _ _
  exact contract H enc W base args ds gs before hval hW hL
theorem said : Rows.FnVectorsSaid :=
  OpenClaim.holds_of_cond 3 Tryz.f3 rfl rfl rfl rfl rfl rfl rfl ⟨rfl, rfl, rfl, rfl, rfl⟩ rfl rfl rfl rfl rfl (by kernel_rfl) Tryz.func3 (by kernel_rfl)
    (of_decide_eq_true (by kernel_rfl)) (by unfold Func.isWrapper; first | (rw [if_pos (by decide +kernel)]; kernel_rfl) | (rw [if_neg (by decide +kernel)]; exact ⟨rfl, rfl⟩))
    (fun os started H enc _ F => by rw [OpenClaim.pre_eq_preRow]; exact lifted os started H enc F)
theorem plain (f : FuncId) (fn : Func) (hf : Tryz.pinned.checked.prog.funcNamed "loop.example/g01180/laws.FnVectors" = some f) (hfn : Tryz.pinned.checked.prog.funcs[f]? = some fn) :
    true = Tryz.pinned.checked.prog.looks [] ∧ ∀ (j : Nat) t, fn.params[j]? = some t → Tryz.pinned.checked.prog.wantsStandIn t = false := by
  obtain rfl : f = 3 := Option.some.inj ((show Tryz.prog.funcNamed "loop.example/g01180/laws.FnVectors" = some 3 by kernel_rfl).symm.trans hf) |>.symm
  obtain rfl : fn = Tryz.f3 := (Option.some.inj (Tryz.func3.symm.trans hfn)).symm
  refine ⟨by kernel_rfl, fun j t ht => ?_⟩
  rw [Tryz.params3] at ht
  have hm := Array.mem_of_getElem? ht
  simp at hm
  subst hm
  · exact (show Tryz.prog.wantsStandIn 22 = false by kernel_rfl)
theorem fnVectors_holds : Rows.FnVectorsCardSaid :=
  Claim7.holds_tied_plain_at .later [] _ _ _ _ said (fun _ h => by cases h) (by kernel_rfl) (fun _ h => by cases h) fnVectors_row_tie rfl ⟨rfl, rfl⟩ (by kernel_rfl) rfl plain (by kernel_rfl)

end Go.Proofs.YtbioinnanhmkpabGreatDoor
