/- FnExactMotionOf: for every input the law answers true, and its input reads as it did. -/
import Derived.Test.YtgejobicepefkaaRows
import Derived.Test.YtgejobicepefkaaFwMOMoLaw
import Derived.Test.YtgejobicepefkaaFwR8
import Derived.ProofKit
namespace Go.Proofs.Ytgejobicepefkaa
open Go.ChangeShapes Go.WideShapes Go.ChangeAt Go.RowKit Go.Fw

theorem Try.own : ownKnob Try.prog.godebug = none := by kernel_rfl
theorem Try.laidOut : laidOutB Try.prog = true := by kernel_rfl

section
variable {w : World}
theorem rd2 : Rd Try.prog w 2 (csI .i64) (fun a => (Lit.int .i64 a).wf = true) := rd_int Try.underlying2
theorem rd47 : Rd Try.prog w 47 (csF .f32) (fun _ => True) := rd_float Try.underlying47
def ok49 (_a : Vector) : Prop := (True) ∧ (True) ∧ (True)
theorem rd49 : Rd Try.prog w 49 cs_Vector ok49 := by
  intro H enc base sp held fuel vs x h
  have hl := rd_len (n := 3) Try.underlying49 h (by kernel_rfl)
  obtain ⟨a0, k0, c0⟩ := rd_field (i := 0) (off := 0) (n := 1) Try.underlying49 h (by kernel_rfl) (by kernel_rfl) rd47
  obtain ⟨a1, k1, c1⟩ := rd_field (i := 1) (off := 1) (n := 1) Try.underlying49 h (by kernel_rfl) (by kernel_rfl) rd47
  obtain ⟨a2, k2, c2⟩ := rd_field (i := 2) (off := 2) (n := 1) Try.underlying49 h (by kernel_rfl) (by kernel_rfl) rd47
  refine ⟨⟨a0, a1, a2⟩, ⟨k0, k1, k2⟩, ?_⟩
  show CellsRep w ((csF .f32) a0 ++ ((csF .f32) a1 ++ ((csF .f32) a2))) vs
  refine CellsRep.append (l1 := (csF .f32) a0) c0 ?_
  refine CellsRep.append (l1 := (csF .f32) a1) c1 ?_
  simp only [List.drop_drop]
  exact CellsRep.last c2 (by rw [hl]; rfl)
def ok167 (_a : Turn) : Prop := (True) ∧ (True) ∧ (True) ∧ (True)
theorem rd167 : Rd Try.prog w 167 cs_Turn ok167 := by
  intro H enc base sp held fuel vs x h
  have hl := rd_len (n := 4) Try.underlying167 h (by kernel_rfl)
  obtain ⟨a0, k0, c0⟩ := rd_field (i := 0) (off := 0) (n := 1) Try.underlying167 h (by kernel_rfl) (by kernel_rfl) rd47
  obtain ⟨a1, k1, c1⟩ := rd_field (i := 1) (off := 1) (n := 1) Try.underlying167 h (by kernel_rfl) (by kernel_rfl) rd47
  obtain ⟨a2, k2, c2⟩ := rd_field (i := 2) (off := 2) (n := 1) Try.underlying167 h (by kernel_rfl) (by kernel_rfl) rd47
  obtain ⟨a3, k3, c3⟩ := rd_field (i := 3) (off := 3) (n := 1) Try.underlying167 h (by kernel_rfl) (by kernel_rfl) rd47
  refine ⟨⟨a0, a1, a2, a3⟩, ⟨k0, k1, k2, k3⟩, ?_⟩
  show CellsRep w ((csF .f32) a0 ++ ((csF .f32) a1 ++ ((csF .f32) a2 ++ ((csF .f32) a3)))) vs
  refine CellsRep.append (l1 := (csF .f32) a0) c0 ?_
  refine CellsRep.append (l1 := (csF .f32) a1) c1 ?_
  refine CellsRep.append (l1 := (csF .f32) a2) (by simp only [List.drop_drop]; exact c2) ?_
  simp only [List.drop_drop]
  exact CellsRep.last c3 (by rw [hl]; rfl)
theorem rd50 : Rd Try.prog w 50 (csL 4 cs_Turn) (fun a => a.length ≤ maxLen ∧ ∀ x ∈ a, ok167 x) := rd_slice rd167 Try.underlying50 (by kernel_rfl) (by decide) (fun _ => rfl)
def ok52 (a : Pose) : Prop := (ok49 a.Root) ∧ (a.Turns.length ≤ maxLen ∧ ∀ x ∈ a.Turns, ok167 x)
theorem rd52 : Rd Try.prog w 52 cs_Pose ok52 := by
  intro H enc base sp held fuel vs x h
  have hl := rd_len (n := 4) Try.underlying52 h (by kernel_rfl)
  obtain ⟨a0, k0, c0⟩ := rd_field (i := 0) (off := 0) (n := 3) Try.underlying52 h (by kernel_rfl) (by kernel_rfl) rd49
  obtain ⟨a1, k1, c1⟩ := rd_field (i := 1) (off := 3) (n := 1) Try.underlying52 h (by kernel_rfl) (by kernel_rfl) rd50
  refine ⟨⟨a0, a1⟩, ⟨k0, k1⟩, ?_⟩
  show CellsRep w (cs_Vector a0 ++ ((csL 4 cs_Turn) a1)) vs
  refine CellsRep.append (l1 := cs_Vector a0) c0 ?_
  exact CellsRep.last c1 (by rw [hl]; rfl)
theorem rd29 : Rd Try.prog w 29 (csL 4 cs_Pose) (fun a => a.length ≤ maxLen ∧ ∀ x ∈ a, ok52 x) := rd_slice rd52 Try.underlying29 (by kernel_rfl) (by decide) (fun _ => rfl)
def ok31 (a : Recording) : Prop := ((Lit.int .i64 a.Bones).wf = true) ∧ (a.Frames.length ≤ maxLen ∧ ∀ x ∈ a.Frames, ok52 x)
theorem rd31 : Rd Try.prog w 31 cs_Recording ok31 := by
  intro H enc base sp held fuel vs x h
  have hl := rd_len (n := 2) Try.underlying31 h (by kernel_rfl)
  obtain ⟨a0, k0, c0⟩ := rd_field (i := 0) (off := 0) (n := 1) Try.underlying31 h (by kernel_rfl) (by kernel_rfl) rd2
  obtain ⟨a1, k1, c1⟩ := rd_field (i := 1) (off := 1) (n := 1) Try.underlying31 h (by kernel_rfl) (by kernel_rfl) rd29
  refine ⟨⟨a0, a1⟩, ⟨k0, k1⟩, ?_⟩
  show CellsRep w ((csI .i64) a0 ++ ((csL 4 cs_Pose) a1)) vs
  refine CellsRep.append (l1 := (csI .i64) a0) c0 ?_
  exact CellsRep.last c1 (by rw [hl]; rfl)
end

theorem mxok52 {a : Pose} (k : ok52 a) : mx_Pose a ≤ maxLen := by
  have h1 : a.Turns.length ≤ maxLen := (k.2).1
  simp only [mx_Pose]
  omega
theorem mxok31 {a : Recording} (k : ok31 a) : mx_Recording a ≤ maxLen := by
  have h1 : (mxL mx_Pose) a.Frames ≤ maxLen := (mxL_le (k.2).1 (fun x hx => (mxok52 ((k.2).2 x hx))))
  simp only [mx_Recording]
  omega
theorem lawOf (a0 : Recording) (k0 : ok31 a0) : ∃ K, laws_FnExactMotionOf K a0 = some true :=
  law_MotionOf a0 (mxok31 k0)

set_option maxRecDepth 100000 in
theorem lifted (os : Os) (started : os.Started) (H : Type) (enc : TypeId × Value → H) :
    ReturnsInHanded {} Try.checked os 11 .any (Rows.fnExactMotionOfSpec.pre6 enc Try.prog Try.f11 Rows.fnExactMotionOfRow.domain false) (Rows.fnExactMotionOfSpec.post enc Try.prog Try.f11 false true false false) := by
  refine returnsInHanded_of_change (C := Try.checked) Try.own started (by kernel_rfl) Try.func11
    (ChangeSpec.witness6 (enc := enc) (C := Try.checked) false ⟨#[], #[.agg #[.int .i64 0, .slice none 0 0]], []⟩ 8 (by kernel_rfl) (by kernel_rfl) (by kernel_rfl) (by kernel_rfl)) ?_
  intro W base args ds gs before hval0 hW hcnd _
  have hval : ∀ (j : Nat) t v, Try.f11.params[j]? = some t → args[j]? = some v → Value.okWide Try.prog W .any base t v := hval0
  have hW' := hW
  obtain ⟨p, q, hA0, hV, rfl, hfz, hnd⟩ := hW
  have hA : DataW.TrodAll enc Try.prog W 0 (fun _ => true) true Try.f11.params.toList args.toList ds p := hA0
  rw [Try.params11] at hA hval
  obtain ⟨v0, d0, rfl, rfl, h0⟩ := trodAll_one hA
  obtain ⟨rfl, rfl⟩ := trodVars_none hV
  obtain ⟨a0, k0, r0⟩ := rd_arg_struct rd31 Try.underlying31 (hval 0 31 v0 rfl rfl) h0
  obtain ⟨K, hK⟩ := lawOf a0 k0
  have hc := (ok_laws_FnExactMotionOf K a0 true hK).calls Try.func11 (by kernel_rfl) (by kernel_rfl) (w := W) (vs := #[v0]) (ctsRep1 r0)
  refine hc.mono fun e W' ⟨v, he, hb, hr⟩ => ?_
  have hv : v = .bool true := by obtain ⟨F, _, _, h⟩ := hr; exact h
  subst he; subst hv
  exact ⟨_, rfl, post_true (tb := 4) Try.laidOut hW' rfl hb (by rw [Try.params11]; intro t ht; simp at ht; rcases ht with rfl <;> exact ⟨by kernel_rfl, of_decide_eq_true (by kernel_rfl)⟩) rfl Try.underlying4 rfl rfl rfl⟩

theorem fnExactMotionOf_holds : Rows.FnExactMotionOfSaid :=
  OpenClaim.holds_of_wide 11 Try.f11 rfl rfl rfl rfl rfl rfl rfl ⟨rfl, rfl, rfl, rfl, rfl⟩ rfl rfl rfl rfl rfl (by kernel_rfl) Try.func11 (by kernel_rfl)
    (of_decide_eq_true (by kernel_rfl)) (by unfold Func.isWrapper; first | (rw [if_pos (by decide +kernel)]; kernel_rfl) | (rw [if_neg (by decide +kernel)]; exact ⟨rfl, rfl⟩))
    (fun os started H enc _ => lifted os started H enc)

end Go.Proofs.Ytgejobicepefkaa
