/- FnTexts: for every input the law answers true, and its input reads as it did. -/
import Derived.Test.YtdclghdojlilfadDoorRows
import Derived.Test.YtdclghdojlilfadDoorCards
import Derived.Test.YtdclghdojlilfadDoorTie
import Derived.Test.YtdclghdojlilfadDoorFwLB
import Derived.Deep.DeepHandedRow
import Derived.Lib.LaidU8
import Derived.SevenTiedAt
import Derived.Test.YtdclghdojlilfadDoorFwGTTextsLaw
import Derived.Test.YtdclghdojlilfadDoorFwR7
import Derived.ProofKit
namespace Go.Proofs.YtdclghdojlilfadDoor
open Go.ChangeShapes Go.WideShapes Go.ChangeAt Go.RowKit Go.Fw

theorem Tryd.own : ownKnob Tryd.prog.godebug = none := by kernel_rfl
theorem Tryd.laidOut : laidOutB Tryd.prog = true := by kernel_rfl

section
variable {w : World}
theorem rd5 : Rd Tryd.prog w 5 (csI .u8) (fun a => (Lit.int .u8 a).wf = true) := rd_int Tryd.underlying5
theorem rd22 : Rd Tryd.prog w 22 (csL 1 (csI .u8)) (fun a => a.length ≤ maxLen ∧ ∀ x ∈ a, (Lit.int .u8 x).wf = true) := rd_slice rd5 Tryd.underlying22 (by kernel_rfl) (by decide) (fun _ => rfl)
end

theorem lawOf (a0 : (List Int)) (a1 : (List Int)) (k0 : a0.length ≤ maxLen ∧ ∀ x ∈ a0, (Lit.int .u8 x).wf = true) (k1 : a1.length ≤ maxLen ∧ ∀ x ∈ a1, (Lit.int .u8 x).wf = true) : ∃ K, laws_FnTexts K a0 a1 = some true :=
  law_FnTexts a0 a1 k0 k1

def cellsD : DataW Unit → Array Value
  | .agg ps => (ps.flatMap fun | .lit (.int k z) => [Value.int k z] | .agg qs => qs.map (fun | .lit (.int k z) => Value.int k z | _ => undef) | _ => [undef]).toArray
  | _ => #[]
theorem gdW {W : World} (h : laidMetH Tryd.prog Rows.fnTextsRow.laid W) : Gd W := by
  have h1 : laidMet Tryd.prog Rows.fnTextsRow.laid W := h
  have e0 : Rows.laid_internal_strconv_uint64pow10 (H := Unit) = Lib.tabData .u64 Lib.pow10Tab := by kernel_rfl
  have r0 := Lib.laidMet.reads h1 (n := "internal/strconv.uint64pow10") (d := Rows.laid_internal_strconv_uint64pow10) (List.mem_cons_of_mem _ (List.mem_cons_of_mem _ List.mem_cons_self))
  rw [e0] at r0
  have t0 := tabIs_of_reads (g := 3) (t := 119) (by kernel_rfl) (by kernel_rfl) Tryd.underlying119 Tryd.underlying51 (by kernel_rfl) (by kernel_rfl) r0
  have e1 : Rows.laid_math_bits_deBruijn64tab (H := Unit) = Lib.tabData .u8 ([0, 1, 56, 2, 57, 49, 28, 3, 61, 58, 42, 50, 38, 29, 17, 4, 62, 47, 59, 36, 45, 43, 51, 22, 53, 39, 33, 30, 24, 18, 12, 5, 63, 55, 48, 27, 60, 41, 37, 16, 46, 35, 44, 21, 52, 32, 23, 11, 54, 26, 40, 15, 34, 20, 31, 10, 25, 14, 19, 9, 13, 8, 7, 6] : List Int) := by kernel_rfl
  have r1 := Lib.laidMet.reads h1 (n := "math/bits.deBruijn64tab") (d := Rows.laid_math_bits_deBruijn64tab) (List.mem_cons_of_mem _ List.mem_cons_self)
  rw [e1] at r1
  have t1 := tabIs_of_reads (g := 8) (t := 136) (by kernel_rfl) (by kernel_rfl) Tryd.underlying136 Tryd.underlying5 (by kernel_rfl) (by kernel_rfl) r1
  intro g hg
  simp only [gtabs, List.mem_cons, List.not_mem_nil, or_false] at hg
  rcases hg with rfl | rfl
  · exact gd_tab (by kernel_rfl) t0
  · exact gd_tab (by kernel_rfl) t1
set_option maxRecDepth 100000 in
theorem contract (H : Type) (enc : TypeId × Value → H) (W : World) (base : Nat) (args : Array Value) (ds gs : List (DataW H)) (before : List MemPlace)
    (hval0 : ∀ (j : Nat) t v, Tryd.f3.params[j]? = some t → args[j]? = some v → Value.okWide Tryd.prog W .any base t v)
    (hW : DataW.Whole enc Tryd.prog Tryd.f3.params.toList Rows.fnTextsSpec.vars false W args.toList ds gs before) (hL : laidMetH Tryd.prog Rows.fnTextsRow.laid W) :
    Calls Tryd.prog 3 args W fun e W' => ∃ v, e = .returned v ∧ Rows.fnTextsSpec.post enc Tryd.prog Tryd.f3 false true false false W args v W' := by
  have hval := hval0
  have hW' := hW
  obtain ⟨p, q, hA0, hV, rfl, hfz, hnd⟩ := hW
  have hA : DataW.TrodAll enc Tryd.prog W 0 (fun _ => true) true Tryd.f3.params.toList args.toList ds p := hA0
  rw [Tryd.params3] at hA hval
  obtain ⟨v0, v1, d0, d1, p0, p1, rfl, rfl, rfl, h0, h1⟩ := trodAll_two hA
  obtain ⟨rfl, rfl⟩ := trodVars_none hV
  obtain ⟨a0, k0, r0⟩ := rd_arg_ones Tryd.underlying22 (c := fun (a : (List Int)) => (sl 1 (csI .u8) a)) rd22 (hval 0 22 v0 rfl rfl) h0
  obtain ⟨a1, k1, r1⟩ := rd_arg_ones Tryd.underlying22 (c := fun (a : (List Int)) => (sl 1 (csI .u8) a)) rd22 (hval 1 22 v1 rfl rfl) h1
  obtain ⟨K, hK⟩ := lawOf a0 a1 k0 k1
  have hc := (ok_laws_FnTexts K a0 a1 true hK).calls Tryd.func3 (by kernel_rfl) (by kernel_rfl) (w := W) (vs := #[v0, v1]) (gdW hL) (ctsRep2 r0 r1)
  refine hc.mono fun e W' ⟨v, he, hb, hr⟩ => ?_
  have hv : v = .bool true := by obtain ⟨F, _, _, h⟩ := hr; exact h
  subst he; subst hv
  exact ⟨_, rfl, post_true (tb := 4) Tryd.laidOut hW' rfl hb (by rw [Tryd.params3]; intro t ht; simp at ht; rcases ht with rfl | rfl <;> exact ⟨by kernel_rfl, of_decide_eq_true (by kernel_rfl)⟩) rfl Tryd.underlying4 rfl rfl rfl⟩

noncomputable def low : Nat := (World.holding Tryd.prog default ⟨#[], #[], []⟩).heap.size
noncomputable def laidWorld (os : Os) : World :=
  let w0 := World.holding Tryd.prog os ⟨#[.cells #[.string { data := #[118, 97, 108, 117, 101, 32, 111, 117, 116, 32, 111, 102, 32, 114, 97, 110, 103, 101] }] 128, .cells #[.string { data := #[105, 110, 118, 97, 108, 105, 100, 32, 115, 121, 110, 116, 97, 120] }] 128], #[], []⟩
  let put (h : Array Obj) (g : Nat) (cs : Array Value) : Array Obj := h.modify g fun
    | .cells _ t frozen => .cells cs t frozen
    | o => o
  { w0 with heap := (put ((put ((put ((put ((put ((put ((put (w0.heap) 7 (cellsD Rows.laid_math_bits_deBruijn32tab))) 8 (cellsD Rows.laid_math_bits_deBruijn64tab))) 3 (cellsD Rows.laid_internal_strconv_uint64pow10))) 6 (cellsD Rows.laid_unicode_utf8_acceptRanges))) 2 #[.iface 126 (.pointer (some ⟨low + 0, 0, none⟩))])) 1 #[.iface 126 (.pointer (some ⟨low + 1, 0, none⟩))])) 5 (cellsD Rows.laid_unicode_utf8_first)) }
theorem laid_met (os : Os) : laidMet Tryd.prog Rows.fnTextsRow.laid ((laidWorld os).forCall (fun _ _ => 0) ⟨#[], #[.slice none 0 0, .slice none 0 0], []⟩).memory :=
  laidMet_of_run' 8 (by kernel_rfl) (by kernel_rfl)
theorem witReads (os : Os) {H : Type} (enc : TypeId × Value → H) : ∃ places, DataW.whole enc Tryd.prog ((laidWorld os).forCall (fun _ _ => 0) ⟨#[], #[.slice none 0 0, .slice none 0 0], []⟩).memory Tryd.f3.params.toList Rows.fnTextsSpec.vars false (#[.slice none 0 0, .slice none 0 0] : Array Value).toList 8 = some ([.nil, .nil], [], places) :=
  ⟨[], by kernel_rfl⟩
set_option maxRecDepth 100000 in
theorem lifted (os : Os) (started : os.Started) (H : Type) (enc : TypeId × Value → H) (F : Stop.Interp) :
    ReturnsInHanded {} Tryd.checked os 3 .any ((OpenSpec.ofChange Rows.fnTextsSpec).preRow enc Tryd.prog Tryd.f3 Rows.fnTextsRow.domain false Rows.fnTextsRow.laid) (((OpenSpec.ofChange Rows.fnTextsSpec).at F).post enc Tryd.prog Tryd.f3 false true false false) := by
  obtain ⟨places, hx⟩ := witReads os enc
  refine returnsInHanded_of_row (C := Tryd.checked) (s := OpenSpec.ofChange Rows.fnTextsSpec) Tryd.own started (by kernel_rfl) Tryd.func3
    (witness_row_at (enc := enc) (C := Tryd.checked) false (laidWorld os) #[.slice none 0 0, .slice none 0 0] rfl (by kernel_rfl) (by kernel_rfl) (by kernel_rfl)
      (OpenSpec.preRow_of_cond 8 hx (by kernel_rfl) (fun k hk => by cases hk) (by kernel_rfl) (laid_met os))) ?_
  intro W base args ds gs before hval hW _ _ _ hL _ _
  exact contract H enc W base args ds gs before hval hW hL
theorem said : Rows.FnTextsSaid :=
  OpenClaim.holds_of_cond 3 Tryd.f3 rfl rfl rfl rfl rfl rfl rfl ⟨rfl, rfl, rfl, rfl, rfl⟩ rfl rfl rfl rfl rfl (by kernel_rfl) Tryd.func3 (by kernel_rfl)
    (of_decide_eq_true (by kernel_rfl)) (by unfold Func.isWrapper; first | (rw [if_pos (by decide +kernel)]; kernel_rfl) | (rw [if_neg (by decide +kernel)]; exact ⟨rfl, rfl⟩))
    (fun os started H enc _ F => by rw [OpenClaim.pre_eq_preRow]; exact lifted os started H enc F)
theorem plain (f : FuncId) (fn : Func) (hf : Tryd.pinned.checked.prog.funcNamed "loop.example/g01180/laws.FnTexts" = some f) (hfn : Tryd.pinned.checked.prog.funcs[f]? = some fn) :
    true = Tryd.pinned.checked.prog.looks [] ∧ ∀ (j : Nat) t, fn.params[j]? = some t → Tryd.pinned.checked.prog.wantsStandIn t = false := by
  obtain rfl : f = 3 := Option.some.inj ((show Tryd.prog.funcNamed "loop.example/g01180/laws.FnTexts" = some 3 by kernel_rfl).symm.trans hf) |>.symm
  obtain rfl : fn = Tryd.f3 := (Option.some.inj (Tryd.func3.symm.trans hfn)).symm
  refine ⟨by kernel_rfl, fun j t ht => ?_⟩
  rw [Tryd.params3] at ht
  have hm := Array.mem_of_getElem? ht
  simp at hm
  subst hm
  · exact (show Tryd.prog.wantsStandIn 22 = false by kernel_rfl)
theorem fnTexts_holds : Rows.FnTextsCardSaid :=
  Claim7.holds_tied_plain_at .later [] _ _ _ _ said (fun _ h => by cases h) (by kernel_rfl) (fun _ h => by cases h) fnTexts_row_tie rfl ⟨rfl, rfl⟩ (by kernel_rfl) rfl plain (by kernel_rfl)

end Go.Proofs.YtdclghdojlilfadDoor
