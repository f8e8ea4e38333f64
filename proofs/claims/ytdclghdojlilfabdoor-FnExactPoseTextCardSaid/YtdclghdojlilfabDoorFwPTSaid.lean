/- FnExactPoseText: for every input the law answers true, and its input reads as it did. -/
import Derived.Test.YtdclghdojlilfabDoorRows
import Derived.Test.YtdclghdojlilfabDoorCards
import Derived.Test.YtdclghdojlilfabDoorTie
import Derived.Test.YtdclghdojlilfabDoorFwLB
import Derived.Deep.DeepHandedRow
import Derived.Lib.LaidU8
import Derived.SevenTiedAt
import Derived.Test.YtdclghdojlilfabDoorFwGPPTLaw
import Derived.Test.YtdclghdojlilfabDoorFwR7
import Derived.ProofKit
namespace Go.Proofs.YtdclghdojlilfabDoor
open Go.ChangeShapes Go.WideShapes Go.ChangeAt Go.RowKit Go.Fw

theorem Tryd.own : ownKnob Tryd.prog.godebug = none := by kernel_rfl
theorem Tryd.laidOut : laidOutB Tryd.prog = true := by kernel_rfl

section
variable {w : World}
theorem rd22 : Rd Tryd.prog w 22 (csF .f32) (fun _ => True) := rd_float Tryd.underlying22
def ok24 (_a : Vector) : Prop := (True) ∧ (True) ∧ (True)
theorem rd24 : Rd Tryd.prog w 24 cs_Vector ok24 := by
  intro H enc base sp held fuel vs x h
  have hl := rd_len (n := 3) Tryd.underlying24 h (by kernel_rfl)
  obtain ⟨a0, k0, c0⟩ := rd_field (i := 0) (off := 0) (n := 1) Tryd.underlying24 h (by kernel_rfl) (by kernel_rfl) rd22
  obtain ⟨a1, k1, c1⟩ := rd_field (i := 1) (off := 1) (n := 1) Tryd.underlying24 h (by kernel_rfl) (by kernel_rfl) rd22
  obtain ⟨a2, k2, c2⟩ := rd_field (i := 2) (off := 2) (n := 1) Tryd.underlying24 h (by kernel_rfl) (by kernel_rfl) rd22
  refine ⟨⟨a0, a1, a2⟩, ⟨k0, k1, k2⟩, ?_⟩
  show CellsRep w ((csF .f32) a0 ++ ((csF .f32) a1 ++ ((csF .f32) a2))) vs
  refine CellsRep.append (l1 := (csF .f32) a0) c0 ?_
  refine CellsRep.append (l1 := (csF .f32) a1) c1 ?_
  simp only [List.drop_drop]
  exact CellsRep.last c2 (by rw [hl]; rfl)
def ok55 (_a : Turn) : Prop := (True) ∧ (True) ∧ (True) ∧ (True)
theorem rd55 : Rd Tryd.prog w 55 cs_Turn ok55 := by
  intro H enc base sp held fuel vs x h
  have hl := rd_len (n := 4) Tryd.underlying55 h (by kernel_rfl)
  obtain ⟨a0, k0, c0⟩ := rd_field (i := 0) (off := 0) (n := 1) Tryd.underlying55 h (by kernel_rfl) (by kernel_rfl) rd22
  obtain ⟨a1, k1, c1⟩ := rd_field (i := 1) (off := 1) (n := 1) Tryd.underlying55 h (by kernel_rfl) (by kernel_rfl) rd22
  obtain ⟨a2, k2, c2⟩ := rd_field (i := 2) (off := 2) (n := 1) Tryd.underlying55 h (by kernel_rfl) (by kernel_rfl) rd22
  obtain ⟨a3, k3, c3⟩ := rd_field (i := 3) (off := 3) (n := 1) Tryd.underlying55 h (by kernel_rfl) (by kernel_rfl) rd22
  refine ⟨⟨a0, a1, a2, a3⟩, ⟨k0, k1, k2, k3⟩, ?_⟩
  show CellsRep w ((csF .f32) a0 ++ ((csF .f32) a1 ++ ((csF .f32) a2 ++ ((csF .f32) a3)))) vs
  refine CellsRep.append (l1 := (csF .f32) a0) c0 ?_
  refine CellsRep.append (l1 := (csF .f32) a1) c1 ?_
  refine CellsRep.append (l1 := (csF .f32) a2) (by simp only [List.drop_drop]; exact c2) ?_
  simp only [List.drop_drop]
  exact CellsRep.last c3 (by rw [hl]; rfl)
theorem rd25 : Rd Tryd.prog w 25 (csL 4 cs_Turn) (fun a => a.length ≤ maxLen ∧ ∀ x ∈ a, ok55 x) := rd_slice rd55 Tryd.underlying25 (by kernel_rfl) (by decide) (fun _ => rfl)
def ok27 (a : Pose) : Prop := (ok24 a.Root) ∧ (a.Turns.length ≤ maxLen ∧ ∀ x ∈ a.Turns, ok55 x)
theorem rd27 : Rd Tryd.prog w 27 cs_Pose ok27 := by
  intro H enc base sp held fuel vs x h
  have hl := rd_len (n := 4) Tryd.underlying27 h (by kernel_rfl)
  obtain ⟨a0, k0, c0⟩ := rd_field (i := 0) (off := 0) (n := 3) Tryd.underlying27 h (by kernel_rfl) (by kernel_rfl) rd24
  obtain ⟨a1, k1, c1⟩ := rd_field (i := 1) (off := 3) (n := 1) Tryd.underlying27 h (by kernel_rfl) (by kernel_rfl) rd25
  refine ⟨⟨a0, a1⟩, ⟨k0, k1⟩, ?_⟩
  show CellsRep w (cs_Vector a0 ++ ((csL 4 cs_Turn) a1)) vs
  refine CellsRep.append (l1 := cs_Vector a0) c0 ?_
  exact CellsRep.last c1 (by rw [hl]; rfl)
end

theorem mxok27 {a : Pose} (k : ok27 a) : mx_Pose a ≤ maxLen := by
  have h1 : a.Turns.length ≤ maxLen := (k.2).1
  simp only [mx_Pose]
  omega
theorem lawOf (a0 : Pose) (k0 : ok27 a0) : ∃ K, laws_FnExactPoseText K a0 = some true :=
  law_PoseText a0 (mxok27 k0)

def cellsD : DataW Unit → Array Value
  | .agg ps => (ps.map fun | .lit (.int k z) => Value.int k z | _ => undef).toArray
  | _ => #[]
theorem gdW {W : World} (h : laidMetH Tryd.prog Rows.fnExactPoseTextRow.laid W) : Gd W := by
  have h1 : laidMet Tryd.prog Rows.fnExactPoseTextRow.laid W := h
  have e0 : Rows.laid_internal_strconv_uint64pow10 (H := Unit) = Lib.tabData .u64 Lib.pow10Tab := by kernel_rfl
  have r0 := Lib.laidMet.reads h1 (n := "internal/strconv.uint64pow10") (d := Rows.laid_internal_strconv_uint64pow10) (List.mem_cons_of_mem _ (List.mem_cons_of_mem _ List.mem_cons_self))
  rw [e0] at r0
  have t0 := tabIs_of_reads (g := 1) (t := 97) (by kernel_rfl) (by kernel_rfl) Tryd.underlying97 Tryd.underlying85 (by kernel_rfl) (by kernel_rfl) r0
  have e1 : Rows.laid_math_bits_deBruijn64tab (H := Unit) = Lib.tabData .u8 ([0, 1, 56, 2, 57, 49, 28, 3, 61, 58, 42, 50, 38, 29, 17, 4, 62, 47, 59, 36, 45, 43, 51, 22, 53, 39, 33, 30, 24, 18, 12, 5, 63, 55, 48, 27, 60, 41, 37, 16, 46, 35, 44, 21, 52, 32, 23, 11, 54, 26, 40, 15, 34, 20, 31, 10, 25, 14, 19, 9, 13, 8, 7, 6] : List Int) := by kernel_rfl
  have r1 := Lib.laidMet.reads h1 (n := "math/bits.deBruijn64tab") (d := Rows.laid_math_bits_deBruijn64tab) (List.mem_cons_of_mem _ List.mem_cons_self)
  rw [e1] at r1
  have t1 := tabIs_of_reads (g := 4) (t := 106) (by kernel_rfl) (by kernel_rfl) Tryd.underlying106 Tryd.underlying5 (by kernel_rfl) (by kernel_rfl) r1
  intro g hg
  simp only [gtabs, List.mem_cons, List.not_mem_nil, or_false] at hg
  rcases hg with rfl | rfl
  · exact gd_tab (by kernel_rfl) t0
  · exact gd_tab (by kernel_rfl) t1
set_option maxRecDepth 100000 in
theorem contract (H : Type) (enc : TypeId × Value → H) (W : World) (base : Nat) (args : Array Value) (ds gs : List (DataW H)) (before : List MemPlace)
    (hval0 : ∀ (j : Nat) t v, Tryd.f3.params[j]? = some t → args[j]? = some v → Value.okWide Tryd.prog W .any base t v)
    (hW : DataW.Whole enc Tryd.prog Tryd.f3.params.toList Rows.fnExactPoseTextSpec.vars false W args.toList ds gs before) (hL : laidMetH Tryd.prog Rows.fnExactPoseTextRow.laid W) :
    Calls Tryd.prog 3 args W fun e W' => ∃ v, e = .returned v ∧ Rows.fnExactPoseTextSpec.post enc Tryd.prog Tryd.f3 false true false false W args v W' := by
  have hval := hval0
  have hW' := hW
  obtain ⟨p, q, hA0, hV, rfl, hfz, hnd⟩ := hW
  have hA : DataW.TrodAll enc Tryd.prog W 0 (fun _ => true) true Tryd.f3.params.toList args.toList ds p := hA0
  rw [Tryd.params3] at hA hval
  obtain ⟨v0, d0, rfl, rfl, h0⟩ := trodAll_one hA
  obtain ⟨rfl, rfl⟩ := trodVars_none hV
  obtain ⟨a0, k0, r0⟩ := rd_arg_struct rd27 Tryd.underlying27 (hval 0 27 v0 rfl rfl) h0
  obtain ⟨K, hK⟩ := lawOf a0 k0
  have hc := (ok_laws_FnExactPoseText K a0 true hK).calls Tryd.func3 (by kernel_rfl) (by kernel_rfl) (w := W) (vs := #[v0]) (gdW hL) (ctsRep1 r0)
  refine hc.mono fun e W' ⟨v, he, hb, hr⟩ => ?_
  have hv : v = .bool true := by obtain ⟨F, _, _, h⟩ := hr; exact h
  subst he; subst hv
  exact ⟨_, rfl, post_true (tb := 4) Tryd.laidOut hW' rfl hb (by rw [Tryd.params3]; intro t ht; simp at ht; rcases ht with rfl <;> exact ⟨by kernel_rfl, of_decide_eq_true (by kernel_rfl)⟩) rfl Tryd.underlying4 rfl rfl rfl⟩

noncomputable def laidWorld (os : Os) : World :=
  let w0 := World.holding Tryd.prog os ⟨#[], #[], []⟩
  let put (h : Array Obj) (g : Nat) (cs : Array Value) : Array Obj := h.modify g fun
    | .cells _ t frozen => .cells cs t frozen
    | o => o
  { w0 with heap := (put ((put ((put (w0.heap) 3 (cellsD Rows.laid_math_bits_deBruijn32tab))) 4 (cellsD Rows.laid_math_bits_deBruijn64tab))) 1 (cellsD Rows.laid_internal_strconv_uint64pow10)) }
theorem laid_met (os : Os) : laidMet Tryd.prog Rows.fnExactPoseTextRow.laid ((laidWorld os).forCall (fun _ _ => 0) ⟨#[], #[.agg #[.float .f32 0, .float .f32 0, .float .f32 0, .slice none 0 0]], []⟩).memory :=
  laidMet_of_run' 8 (by kernel_rfl) (by kernel_rfl)
theorem witReads (os : Os) {H : Type} (enc : TypeId × Value → H) : ∃ places, DataW.whole enc Tryd.prog ((laidWorld os).forCall (fun _ _ => 0) ⟨#[], #[.agg #[.float .f32 0, .float .f32 0, .float .f32 0, .slice none 0 0]], []⟩).memory Tryd.f3.params.toList Rows.fnExactPoseTextSpec.vars false (#[.agg #[.float .f32 0, .float .f32 0, .float .f32 0, .slice none 0 0]] : Array Value).toList 8 = some ([.agg [.agg [.lit (.float .f32 0), .lit (.float .f32 0), .lit (.float .f32 0)], .nil]], [], places) :=
  ⟨[], by kernel_rfl⟩
set_option maxRecDepth 100000 in
theorem lifted (os : Os) (started : os.Started) (H : Type) (enc : TypeId × Value → H) (F : Stop.Interp) :
    ReturnsInHanded {} Tryd.checked os 3 .any ((OpenSpec.ofChange Rows.fnExactPoseTextSpec).preRow enc Tryd.prog Tryd.f3 Rows.fnExactPoseTextRow.domain false Rows.fnExactPoseTextRow.laid) (((OpenSpec.ofChange Rows.fnExactPoseTextSpec).at F).post enc Tryd.prog Tryd.f3 false true false false) := by
  obtain ⟨places, hx⟩ := witReads os enc
  refine returnsInHanded_of_row (C := Tryd.checked) (s := OpenSpec.ofChange Rows.fnExactPoseTextSpec) Tryd.own started (by kernel_rfl) Tryd.func3
    (witness_row_at (enc := enc) (C := Tryd.checked) false (laidWorld os) #[.agg #[.float .f32 0, .float .f32 0, .float .f32 0, .slice none 0 0]] rfl (by kernel_rfl) (by kernel_rfl) (by kernel_rfl)
      (OpenSpec.preRow_of_cond 8 hx (by kernel_rfl) (fun k hk => by cases hk) (by kernel_rfl) (laid_met os))) ?_
  intro W base args ds gs before hval hW _ _ _ hL _ _
  exact contract H enc W base args ds gs before hval hW hL
theorem said : Rows.FnExactPoseTextSaid :=
  OpenClaim.holds_of_cond 3 Tryd.f3 rfl rfl rfl rfl rfl rfl rfl ⟨rfl, rfl, rfl, rfl, rfl⟩ rfl rfl rfl rfl rfl (by kernel_rfl) Tryd.func3 (by kernel_rfl)
    (of_decide_eq_true (by kernel_rfl)) (by unfold Func.isWrapper; first | (rw [if_pos (by decide +kernel)]; kernel_rfl) | (rw [if_neg (by decide +kernel)]; exact ⟨rfl, rfl⟩))
    (fun os started H enc _ F => by rw [OpenClaim.pre_eq_preRow]; exact lifted os started H enc F)
theorem plain (f : FuncId) (fn : Func) (hf : Tryd.pinned.checked.prog.funcNamed "loop.example/g01180/laws.FnExactPoseText" = some f) (hfn : Tryd.pinned.checked.prog.funcs[f]? = some fn) :
    false = Tryd.pinned.checked.prog.looks [] ∧ ∀ (j : Nat) t, fn.params[j]? = some t → Tryd.pinned.checked.prog.wantsStandIn t = false := by
  obtain rfl : f = 3 := Option.some.inj ((show Tryd.prog.funcNamed "loop.example/g01180/laws.FnExactPoseText" = some 3 by kernel_rfl).symm.trans hf) |>.symm
  obtain rfl : fn = Tryd.f3 := (Option.some.inj (Tryd.func3.symm.trans hfn)).symm
  refine ⟨by kernel_rfl, fun j t ht => ?_⟩
  rw [Tryd.params3] at ht
  have hm := Array.mem_of_getElem? ht
  simp at hm
  subst hm
  · exact (show Tryd.prog.wantsStandIn 27 = false by kernel_rfl)
theorem fnExactPoseText_holds : Rows.FnExactPoseTextCardSaid :=
  Claim7.holds_tied_plain_at .later [] _ _ _ _ said (fun _ h => by cases h) (by kernel_rfl) (fun _ h => by cases h) fnExactPoseText_row_tie rfl ⟨rfl, rfl⟩ (by kernel_rfl) rfl plain (by kernel_rfl)

end Go.Proofs.YtdclghdojlilfabDoor
