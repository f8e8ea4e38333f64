/- FnExactStepString: for every input the law answers true, and its input reads as it did. -/
import Derived.Test.YtcemiphbmkkpeabRows
import Derived.Test.YtcemiphbmkkpeabFwSCStepLaw
import Derived.Test.YtcemiphbmkkpeabFwR8
import Derived.ProofKit
namespace Go.Proofs.Ytcemiphbmkkpeab
open Go.ChangeShapes Go.WideShapes Go.ChangeAt Go.RowKit Go.Fw

theorem Try.own : ownKnob Try.prog.godebug = none := by kernel_rfl
theorem Try.laidOut : laidOutB Try.prog = true := by kernel_rfl

section
variable {w : World}
theorem rd25 : Rd Try.prog w 25 (csF .f32) (fun _ => True) := rd_float Try.underlying25
def ok27 (_a : Vector) : Prop := (True) ∧ (True) ∧ (True)
theorem rd27 : Rd Try.prog w 27 cs_Vector ok27 := by
  intro H enc base sp held fuel vs x h
  have hl := rd_len (n := 3) Try.underlying27 h (by kernel_rfl)
  obtain ⟨a0, k0, c0⟩ := rd_field (i := 0) (off := 0) (n := 1) Try.underlying27 h (by kernel_rfl) (by kernel_rfl) rd25
  obtain ⟨a1, k1, c1⟩ := rd_field (i := 1) (off := 1) (n := 1) Try.underlying27 h (by kernel_rfl) (by kernel_rfl) rd25
  obtain ⟨a2, k2, c2⟩ := rd_field (i := 2) (off := 2) (n := 1) Try.underlying27 h (by kernel_rfl) (by kernel_rfl) rd25
  refine ⟨⟨a0, a1, a2⟩, ⟨k0, k1, k2⟩, ?_⟩
  show CellsRep w ((csF .f32) a0 ++ ((csF .f32) a1 ++ ((csF .f32) a2))) vs
  refine CellsRep.append (l1 := (csF .f32) a0) c0 ?_
  refine CellsRep.append (l1 := (csF .f32) a1) c1 ?_
  simp only [List.drop_drop]
  exact CellsRep.last c2 (by rw [hl]; rfl)
theorem rd22 : Rd Try.prog w 22 (csL 3 cs_Vector) (fun a => a.length ≤ maxLen ∧ ∀ x ∈ a, ok27 x) := rd_slice rd27 Try.underlying22 (by kernel_rfl) (by decide) (fun _ => rfl)
theorem rd4 : Rd Try.prog w 4 csB (fun _ => True) := rd_bool Try.underlying4
theorem rd23 : Rd Try.prog w 23 (csL 1 csB) (fun a => a.length ≤ maxLen ∧ ∀ x ∈ a, True) := rd_slice rd4 Try.underlying23 (by kernel_rfl) (by decide) (fun _ => rfl)
theorem rd24 : Rd Try.prog w 24 (csL 1 (csF .f32)) (fun a => a.length ≤ maxLen ∧ ∀ x ∈ a, True) := rd_slice rd25 Try.underlying24 (by kernel_rfl) (by decide) (fun _ => rfl)
theorem rd2 : Rd Try.prog w 2 (csI .i64) (fun a => (Lit.int .i64 a).wf = true) := rd_int Try.underlying2
def ok29 (a : Fw.String) : Prop := (a.Points.length ≤ maxLen ∧ ∀ x ∈ a.Points, ok27 x) ∧ (a.Before.length ≤ maxLen ∧ ∀ x ∈ a.Before, ok27 x) ∧ (a.Fixed.length ≤ maxLen ∧ ∀ x ∈ a.Fixed, True) ∧ (a.Lengths.length ≤ maxLen ∧ ∀ x ∈ a.Lengths, True) ∧ (ok27 a.Fall) ∧ (True) ∧ ((Lit.int .i64 a.Passes).wf = true)
theorem rd29 : Rd Try.prog w 29 cs_String ok29 := by
  intro H enc base sp held fuel vs x h
  have hl := rd_len (n := 9) Try.underlying29 h (by kernel_rfl)
  obtain ⟨a0, k0, c0⟩ := rd_field (i := 0) (off := 0) (n := 1) Try.underlying29 h (by kernel_rfl) (by kernel_rfl) rd22
  obtain ⟨a1, k1, c1⟩ := rd_field (i := 1) (off := 1) (n := 1) Try.underlying29 h (by kernel_rfl) (by kernel_rfl) rd22
  obtain ⟨a2, k2, c2⟩ := rd_field (i := 2) (off := 2) (n := 1) Try.underlying29 h (by kernel_rfl) (by kernel_rfl) rd23
  obtain ⟨a3, k3, c3⟩ := rd_field (i := 3) (off := 3) (n := 1) Try.underlying29 h (by kernel_rfl) (by kernel_rfl) rd24
  obtain ⟨a4, k4, c4⟩ := rd_field (i := 4) (off := 4) (n := 3) Try.underlying29 h (by kernel_rfl) (by kernel_rfl) rd27
  obtain ⟨a5, k5, c5⟩ := rd_field (i := 5) (off := 7) (n := 1) Try.underlying29 h (by kernel_rfl) (by kernel_rfl) rd25
  obtain ⟨a6, k6, c6⟩ := rd_field (i := 6) (off := 8) (n := 1) Try.underlying29 h (by kernel_rfl) (by kernel_rfl) rd2
  refine ⟨⟨a0, a1, a2, a3, a4, a5, a6⟩, ⟨k0, k1, k2, k3, k4, k5, k6⟩, ?_⟩
  show CellsRep w ((csL 3 cs_Vector) a0 ++ ((csL 3 cs_Vector) a1 ++ ((csL 1 csB) a2 ++ ((csL 1 (csF .f32)) a3 ++ (cs_Vector a4 ++ ((csF .f32) a5 ++ ((csI .i64) a6))))))) vs
  refine CellsRep.append (l1 := (csL 3 cs_Vector) a0) c0 ?_
  refine CellsRep.append (l1 := (csL 3 cs_Vector) a1) c1 ?_
  refine CellsRep.append (l1 := (csL 1 csB) a2) (by simp only [List.drop_drop]; exact c2) ?_
  refine CellsRep.append (l1 := (csL 1 (csF .f32)) a3) (by simp only [List.drop_drop]; exact c3) ?_
  refine CellsRep.append (l1 := cs_Vector a4) (by simp only [List.drop_drop]; exact c4) ?_
  refine CellsRep.append (l1 := (csF .f32) a5) (by simp only [List.drop_drop]; exact c5) ?_
  simp only [List.drop_drop]
  exact CellsRep.last c6 (by rw [hl]; rfl)
end

theorem mxok29 {a : Fw.String} (k : ok29 a) : mx_String a ≤ maxLen := by
  have h0 : a.Points.length ≤ maxLen := (k.1).1
  have h1 : a.Before.length ≤ maxLen := (k.2.1).1
  have h2 : a.Fixed.length ≤ maxLen := (k.2.2.1).1
  have h3 : a.Lengths.length ≤ maxLen := (k.2.2.2.1).1
  simp only [mx_String]
  omega
theorem lawOf (a0 : Fw.String) (k0 : ok29 a0) : ∃ K, laws_FnExactStepString K a0 = some true :=
  law_StepString a0 (mxok29 k0)

set_option maxRecDepth 100000 in
theorem lifted (os : Os) (started : os.Started) (H : Type) (enc : TypeId × Value → H) :
    ReturnsInHanded {} Try.checked os 3 .any (Rows.fnExactStepStringSpec.pre6 enc Try.prog Try.f3 Rows.fnExactStepStringRow.domain false) (Rows.fnExactStepStringSpec.post enc Try.prog Try.f3 false true false false) := by
  refine returnsInHanded_of_change (C := Try.checked) Try.own started (by kernel_rfl) Try.func3
    (ChangeSpec.witness6 (enc := enc) (C := Try.checked) false ⟨#[], #[.agg #[.slice none 0 0, .slice none 0 0, .slice none 0 0, .slice none 0 0, .float .f32 0, .float .f32 0, .float .f32 0, .float .f32 0, .int .i64 0]], []⟩ 8 (by kernel_rfl) (by kernel_rfl) (by kernel_rfl) (by kernel_rfl)) ?_
  intro W base args ds gs before hval0 hW hcnd _
  have hval : ∀ (j : Nat) t v, Try.f3.params[j]? = some t → args[j]? = some v → Value.okWide Try.prog W .any base t v := hval0
  have hW' := hW
  obtain ⟨p, q, hA0, hV, rfl, hfz, hnd⟩ := hW
  have hA : DataW.TrodAll enc Try.prog W 0 (fun _ => true) true Try.f3.params.toList args.toList ds p := hA0
  rw [Try.params3] at hA hval
  obtain ⟨v0, d0, rfl, rfl, h0⟩ := trodAll_one hA
  obtain ⟨rfl, rfl⟩ := trodVars_none hV
  obtain ⟨a0, k0, r0⟩ := rd_arg_struct rd29 Try.underlying29 (hval 0 29 v0 rfl rfl) h0
  obtain ⟨K, hK⟩ := lawOf a0 k0
  have hc := (ok_laws_FnExactStepString K a0 true hK).calls Try.func3 (by kernel_rfl) (by kernel_rfl) (w := W) (vs := #[v0]) (ctsRep1 r0)
  refine hc.mono fun e W' ⟨v, he, hb, hr⟩ => ?_
  have hv : v = .bool true := by obtain ⟨F, _, _, h⟩ := hr; exact h
  subst he; subst hv
  exact ⟨_, rfl, post_true (tb := 4) Try.laidOut hW' rfl hb (by rw [Try.params3]; intro t ht; simp at ht; rcases ht with rfl <;> exact ⟨by kernel_rfl, of_decide_eq_true (by kernel_rfl)⟩) rfl Try.underlying4 rfl rfl rfl⟩

theorem fnExactStepString_holds : Rows.FnExactStepStringSaid :=
  OpenClaim.holds_of_wide 3 Try.f3 rfl rfl rfl rfl rfl rfl rfl ⟨rfl, rfl, rfl, rfl, rfl⟩ rfl rfl rfl rfl rfl (by kernel_rfl) Try.func3 (by kernel_rfl)
    (of_decide_eq_true (by kernel_rfl)) (by unfold Func.isWrapper; first | (rw [if_pos (by decide +kernel)]; kernel_rfl) | (rw [if_neg (by decide +kernel)]; exact ⟨rfl, rfl⟩))
    (fun os started H enc _ => lifted os started H enc)

end Go.Proofs.Ytcemiphbmkkpeab
