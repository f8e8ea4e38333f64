/- FnExactJournalOf: for every input the law answers true, and its input reads as it did. -/
import Derived.Test.YtdkidnhddgeboaaDoorRows
import Derived.Test.YtdkidnhddgeboaaDoorCards
import Derived.Test.YtdkidnhddgeboaaDoorTie
import Derived.Test.YtdkidnhddgeboaaDoorFwLB
import Derived.Deep.DeepHandedRow
import Derived.Lib.LaidU8
import Derived.SevenTiedAt
import Derived.Test.YtdkidnhddgeboaaDoorFwGGJOLaw
import Derived.Test.YtdkidnhddgeboaaDoorFwR7
import Derived.ProofKit
namespace Go.Proofs.YtdkidnhddgeboaaDoor
open Go.ChangeShapes Go.WideShapes Go.ChangeAt Go.RowKit Go.Fw

theorem Tryd.own : ownKnob Tryd.prog.godebug = none := by kernel_rfl
theorem Tryd.laidOut : laidOutB Tryd.prog = true := by kernel_rfl

section
variable {w : World}
theorem rd9 : Rd Tryd.prog w 9 csS (fun a => a.size ≤ maxLen) := rd_string Tryd.underlying9
theorem rd22 : Rd Tryd.prog w 22 (csL 1 csS) (fun a => a.length ≤ maxLen ∧ ∀ x ∈ a, x.size ≤ maxLen) := rd_slice rd9 Tryd.underlying22 (by kernel_rfl) (by decide) (fun _ => rfl)
end

def cellsD : DataW Unit → Array Value
  | .agg ps => (ps.map fun | .lit (.int k z) => Value.int k z | _ => undef).toArray
  | _ => #[]
theorem gdW {W : World} (h : laidMetH Tryd.prog Rows.fnExactJournalOfRow.laid W) : Gd W := by
  have h1 : laidMet Tryd.prog Rows.fnExactJournalOfRow.laid W := h
  have e0 : Rows.laid_internal_strconv_uint64pow10 (H := Unit) = Lib.tabData .u64 Lib.pow10Tab := by kernel_rfl
  have r0 := Lib.laidMet.reads h1 (n := "internal/strconv.uint64pow10") (d := Rows.laid_internal_strconv_uint64pow10) (List.mem_cons_of_mem _ (List.mem_cons_of_mem _ List.mem_cons_self))
  rw [e0] at r0
  have t0 := tabIs_of_reads (g := 1) (t := 62) (by kernel_rfl) (by kernel_rfl) Tryd.underlying62 Tryd.underlying53 (by kernel_rfl) (by kernel_rfl) r0
  intro g hg
  simp only [gtabs, List.mem_cons, List.not_mem_nil, or_false] at hg
  subst hg
  · exact gd_tab (by kernel_rfl) t0
theorem contract (H : Type) (enc : TypeId × Value → H) (W : World) (base : Nat) (args : Array Value) (ds gs : List (DataW H)) (before : List MemPlace)
    (hval0 : ∀ (j : Nat) t v, Tryd.f3.params[j]? = some t → args[j]? = some v → Value.okWide Tryd.prog W .any base t v)
    (hW : DataW.Whole enc Tryd.prog Tryd.f3.params.toList Rows.fnExactJournalOfSpec.vars false W args.toList ds gs before) (hL : laidMetH Tryd.prog Rows.fnExactJournalOfRow.laid W) :
    Calls Tryd.prog 3 args W fun e W' => ∃ v, e = .returned v ∧ Rows.fnExactJournalOfSpec.post enc Tryd.prog Tryd.f3 false true false false W args v W' := by
  have hval := hval0
  have hW' := hW
  obtain ⟨p, q, hA0, hV, rfl, hfz, hnd⟩ := hW
  have hA : DataW.TrodAll enc Tryd.prog W 0 (fun _ => true) true Tryd.f3.params.toList args.toList ds p := hA0
  rw [Tryd.params3] at hA hval
  obtain ⟨v0, d0, rfl, rfl, h0⟩ := trodAll_one hA
  obtain ⟨rfl, rfl⟩ := trodVars_none hV
  obtain ⟨a0, k0, r0⟩ := rd_arg_ones Tryd.underlying22 (c := fun (a : (List ByteArray)) => (sl 1 csS a)) rd22 (hval 0 22 v0 rfl rfl) h0
  obtain ⟨K, hK⟩ := law_JournalOf a0 k0
  have hc := (ok_laws_FnExactJournalOf K a0 true hK).calls Tryd.func3 (by kernel_rfl) (by kernel_rfl) (w := W) (vs := #[v0]) (gdW hL) (ctsRep1 r0)
  refine hc.mono fun e W' ⟨v, he, hb, hr⟩ => ?_
  have hv : v = .bool true := by obtain ⟨F, _, _, h⟩ := hr; exact h
  subst he; subst hv
  exact ⟨_, rfl, post_true (tb := 4) Tryd.laidOut hW' rfl hb (by rw [Tryd.params3]; intro t ht; simp at ht; rcases ht with rfl <;> exact ⟨by kernel_rfl, of_decide_eq_true (by kernel_rfl)⟩) rfl Tryd.underlying4 rfl rfl rfl⟩

noncomputable def laidWorld (os : Os) : World :=
  let w0 := World.holding Tryd.prog os ⟨#[], #[], []⟩
  let put (h : Array Obj) (g : Nat) (cs : Array Value) : Array Obj := h.modify g fun
    | .cells _ t frozen => .cells cs t frozen
    | o => o
  { w0 with heap := (put ((put ((put (w0.heap) 2 (cellsD Rows.laid_math_bits_deBruijn32tab))) 3 (cellsD Rows.laid_math_bits_deBruijn64tab))) 1 (cellsD Rows.laid_internal_strconv_uint64pow10)) }
theorem laid_met (os : Os) : laidMet Tryd.prog Rows.fnExactJournalOfRow.laid ((laidWorld os).forCall (fun _ _ => 0) ⟨#[], #[.slice none 0 0], []⟩).memory :=
  laidMet_of_run' 8 (by kernel_rfl) (by kernel_rfl)
theorem witReads (os : Os) {H : Type} (enc : TypeId × Value → H) : ∃ places, DataW.whole enc Tryd.prog ((laidWorld os).forCall (fun _ _ => 0) ⟨#[], #[.slice none 0 0], []⟩).memory Tryd.f3.params.toList Rows.fnExactJournalOfSpec.vars false (#[.slice none 0 0] : Array Value).toList 8 = some ([.nil], [], places) :=
  ⟨[], by kernel_rfl⟩
set_option maxRecDepth 100000 in
theorem lifted (os : Os) (started : os.Started) (H : Type) (enc : TypeId × Value → H) (F : Stop.Interp) :
    ReturnsInHanded {} Tryd.checked os 3 .any ((OpenSpec.ofChange Rows.fnExactJournalOfSpec).preRow enc Tryd.prog Tryd.f3 Rows.fnExactJournalOfRow.domain false Rows.fnExactJournalOfRow.laid) (((OpenSpec.ofChange Rows.fnExactJournalOfSpec).at F).post enc Tryd.prog Tryd.f3 false true false false) := by
  obtain ⟨places, hx⟩ := witReads os enc
  refine returnsInHanded_of_row (C := Tryd.checked) (s := OpenSpec.ofChange Rows.fnExactJournalOfSpec) Tryd.own started (by kernel_rfl) Tryd.func3
    (witness_row_at (enc := enc) (C := Tryd.checked) false (laidWorld os) #[.slice none 0 0] rfl (by kernel_rfl) (by kernel_rfl) (by kernel_rfl)
      (OpenSpec.preRow_of_cond 8 hx (by kernel_rfl) (fun k hk => by cases hk) (by kernel_rfl) (laid_met os))) ?_
  intro W base args ds gs before hval hW _ _ _ hL _ _
  exact contract H enc W base args ds gs before hval hW hL
theorem said : Rows.FnExactJournalOfSaid :=
  OpenClaim.holds_of_cond 3 Tryd.f3 rfl rfl rfl rfl rfl rfl rfl ⟨rfl, rfl, rfl, rfl, rfl⟩ rfl rfl rfl rfl rfl (by kernel_rfl) Tryd.func3 (by kernel_rfl)
    (of_decide_eq_true (by kernel_rfl)) (by unfold Func.isWrapper; first | (rw [if_pos (by decide +kernel)]; kernel_rfl) | (rw [if_neg (by decide +kernel)]; exact ⟨rfl, rfl⟩))
    (fun os started H enc _ F => by rw [OpenClaim.pre_eq_preRow]; exact lifted os started H enc F)
theorem plain (f : FuncId) (fn : Func) (hf : Tryd.pinned.checked.prog.funcNamed "loop.example/g01180/laws.FnExactJournalOf" = some f) (hfn : Tryd.pinned.checked.prog.funcs[f]? = some fn) :
    false = Tryd.pinned.checked.prog.looks [] ∧ ∀ (j : Nat) t, fn.params[j]? = some t → Tryd.pinned.checked.prog.wantsStandIn t = false := by
  obtain rfl : f = 3 := Option.some.inj ((show Tryd.prog.funcNamed "loop.example/g01180/laws.FnExactJournalOf" = some 3 by kernel_rfl).symm.trans hf) |>.symm
  obtain rfl : fn = Tryd.f3 := (Option.some.inj (Tryd.func3.symm.trans hfn)).symm
  refine ⟨by kernel_rfl, fun j t ht => ?_⟩
  rw [Tryd.params3] at ht
  have hm := Array.mem_of_getElem? ht
  simp at hm
  subst hm
  · exact (show Tryd.prog.wantsStandIn 22 = false by kernel_rfl)
theorem fnExactJournalOf_holds : Rows.FnExactJournalOfCardSaid :=
  Claim7.holds_tied_plain_at .later [] _ _ _ _ said (fun _ h => by cases h) (by kernel_rfl) (fun _ h => by cases h) fnExactJournalOf_row_tie rfl ⟨rfl, rfl⟩ (by kernel_rfl) rfl plain (by kernel_rfl)

end Go.Proofs.YtdkidnhddgeboaaDoor
