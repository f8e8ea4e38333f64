/- FnExactThinClip: for every input the law answers true, and its input reads as it did. -/
import Derived.Test.YteehipecgmfeiaaGreatRows
import Derived.Test.YteehipecgmfeiaaGreatFwTCThinLaw
import Derived.Test.YteehipecgmfeiaaGreatFwR8
import Derived.ProofKit
namespace Go.Proofs.YteehipecgmfeiaaGreat
open Go.ChangeShapes Go.WideShapes Go.ChangeAt Go.RowKit Go.Fw

theorem Tryz.own : ownKnob Tryz.prog.godebug = none := by kernel_rfl
theorem Tryz.laidOut : laidOutB Tryz.prog = true := by kernel_rfl

section
variable {w : World}
theorem rd2 : Rd Tryz.prog w 2 (csI .i64) (fun a => (Lit.int .i64 a).wf = true) := rd_int Tryz.underlying2
theorem rd26 : Rd Tryz.prog w 26 (csF .f32) (fun _ => True) := rd_float Tryz.underlying26
def ok107 (_a : Turn) : Prop := (True) ∧ (True) ∧ (True) ∧ (True)
theorem rd107 : Rd Tryz.prog w 107 cs_Turn ok107 := by
  intro H enc base sp held fuel vs x h
  have hl := rd_len (n := 4) Tryz.underlying107 h (by kernel_rfl)
  obtain ⟨a0, k0, c0⟩ := rd_field (i := 0) (off := 0) (n := 1) Tryz.underlying107 h (by kernel_rfl) (by kernel_rfl) rd26
  obtain ⟨a1, k1, c1⟩ := rd_field (i := 1) (off := 1) (n := 1) Tryz.underlying107 h (by kernel_rfl) (by kernel_rfl) rd26
  obtain ⟨a2, k2, c2⟩ := rd_field (i := 2) (off := 2) (n := 1) Tryz.underlying107 h (by kernel_rfl) (by kernel_rfl) rd26
  obtain ⟨a3, k3, c3⟩ := rd_field (i := 3) (off := 3) (n := 1) Tryz.underlying107 h (by kernel_rfl) (by kernel_rfl) rd26
  refine ⟨⟨a0, a1, a2, a3⟩, ⟨k0, k1, k2, k3⟩, ?_⟩
  show CellsRep w ((csF .f32) a0 ++ ((csF .f32) a1 ++ ((csF .f32) a2 ++ ((csF .f32) a3)))) vs
  refine CellsRep.append (l1 := (csF .f32) a0) c0 ?_
  refine CellsRep.append (l1 := (csF .f32) a1) c1 ?_
  refine CellsRep.append (l1 := (csF .f32) a2) (by simp only [List.drop_drop]; exact c2) ?_
  simp only [List.drop_drop]
  exact CellsRep.last c3 (by rw [hl]; rfl)
def ok109 (a : Key) : Prop := ((Lit.int .i64 a.At).wf = true) ∧ (ok107 a.Turn)
theorem rd109 : Rd Tryz.prog w 109 cs_Key ok109 := by
  intro H enc base sp held fuel vs x h
  have hl := rd_len (n := 5) Tryz.underlying109 h (by kernel_rfl)
  obtain ⟨a0, k0, c0⟩ := rd_field (i := 0) (off := 0) (n := 1) Tryz.underlying109 h (by kernel_rfl) (by kernel_rfl) rd2
  obtain ⟨a1, k1, c1⟩ := rd_field (i := 1) (off := 1) (n := 4) Tryz.underlying109 h (by kernel_rfl) (by kernel_rfl) rd107
  refine ⟨⟨a0, a1⟩, ⟨k0, k1⟩, ?_⟩
  show CellsRep w ((csI .i64) a0 ++ (cs_Turn a1)) vs
  refine CellsRep.append (l1 := (csI .i64) a0) c0 ?_
  exact CellsRep.last c1 (by rw [hl]; rfl)
theorem rd65 : Rd Tryz.prog w 65 (csL 5 cs_Key) (fun a => a.length ≤ maxLen ∧ ∀ x ∈ a, ok109 x) := rd_slice rd109 Tryz.underlying65 (by kernel_rfl) (by decide) (fun _ => rfl)
theorem rd22 : Rd Tryz.prog w 22 (csL 1 (csL 5 cs_Key)) (fun a => a.length ≤ maxLen ∧ ∀ x ∈ a, x.length ≤ maxLen ∧ ∀ xx ∈ x, ok109 xx) := rd_slice rd65 Tryz.underlying22 (by kernel_rfl) (by decide) (fun _ => rfl)
def ok78 (_a : Vector) : Prop := (True) ∧ (True) ∧ (True)
theorem rd78 : Rd Tryz.prog w 78 cs_Vector ok78 := by
  intro H enc base sp held fuel vs x h
  have hl := rd_len (n := 3) Tryz.underlying78 h (by kernel_rfl)
  obtain ⟨a0, k0, c0⟩ := rd_field (i := 0) (off := 0) (n := 1) Tryz.underlying78 h (by kernel_rfl) (by kernel_rfl) rd26
  obtain ⟨a1, k1, c1⟩ := rd_field (i := 1) (off := 1) (n := 1) Tryz.underlying78 h (by kernel_rfl) (by kernel_rfl) rd26
  obtain ⟨a2, k2, c2⟩ := rd_field (i := 2) (off := 2) (n := 1) Tryz.underlying78 h (by kernel_rfl) (by kernel_rfl) rd26
  refine ⟨⟨a0, a1, a2⟩, ⟨k0, k1, k2⟩, ?_⟩
  show CellsRep w ((csF .f32) a0 ++ ((csF .f32) a1 ++ ((csF .f32) a2))) vs
  refine CellsRep.append (l1 := (csF .f32) a0) c0 ?_
  refine CellsRep.append (l1 := (csF .f32) a1) c1 ?_
  simp only [List.drop_drop]
  exact CellsRep.last c2 (by rw [hl]; rfl)
def ok80 (a : RootKey) : Prop := ((Lit.int .i64 a.At).wf = true) ∧ (ok78 a.Place)
theorem rd80 : Rd Tryz.prog w 80 cs_RootKey ok80 := by
  intro H enc base sp held fuel vs x h
  have hl := rd_len (n := 4) Tryz.underlying80 h (by kernel_rfl)
  obtain ⟨a0, k0, c0⟩ := rd_field (i := 0) (off := 0) (n := 1) Tryz.underlying80 h (by kernel_rfl) (by kernel_rfl) rd2
  obtain ⟨a1, k1, c1⟩ := rd_field (i := 1) (off := 1) (n := 3) Tryz.underlying80 h (by kernel_rfl) (by kernel_rfl) rd78
  refine ⟨⟨a0, a1⟩, ⟨k0, k1⟩, ?_⟩
  show CellsRep w ((csI .i64) a0 ++ (cs_Vector a1)) vs
  refine CellsRep.append (l1 := (csI .i64) a0) c0 ?_
  exact CellsRep.last c1 (by rw [hl]; rfl)
theorem rd23 : Rd Tryz.prog w 23 (csL 4 cs_RootKey) (fun a => a.length ≤ maxLen ∧ ∀ x ∈ a, ok80 x) := rd_slice rd80 Tryz.underlying23 (by kernel_rfl) (by decide) (fun _ => rfl)
def ok25 (a : Clip) : Prop := ((Lit.int .i64 a.Length).wf = true) ∧ ((Lit.int .i64 a.Kind).wf = true) ∧ (a.Tracks.length ≤ maxLen ∧ ∀ x ∈ a.Tracks, x.length ≤ maxLen ∧ ∀ xx ∈ x, ok109 xx) ∧ (a.Roots.length ≤ maxLen ∧ ∀ x ∈ a.Roots, ok80 x)
theorem rd25 : Rd Tryz.prog w 25 cs_Clip ok25 := by
  intro H enc base sp held fuel vs x h
  have hl := rd_len (n := 4) Tryz.underlying25 h (by kernel_rfl)
  obtain ⟨a0, k0, c0⟩ := rd_field (i := 0) (off := 0) (n := 1) Tryz.underlying25 h (by kernel_rfl) (by kernel_rfl) rd2
  obtain ⟨a1, k1, c1⟩ := rd_field (i := 1) (off := 1) (n := 1) Tryz.underlying25 h (by kernel_rfl) (by kernel_rfl) rd2
  obtain ⟨a2, k2, c2⟩ := rd_field (i := 2) (off := 2) (n := 1) Tryz.underlying25 h (by kernel_rfl) (by kernel_rfl) rd22
  obtain ⟨a3, k3, c3⟩ := rd_field (i := 3) (off := 3) (n := 1) Tryz.underlying25 h (by kernel_rfl) (by kernel_rfl) rd23
  refine ⟨⟨a0, a1, a2, a3⟩, ⟨k0, k1, k2, k3⟩, ?_⟩
  show CellsRep w ((csI .i64) a0 ++ ((csI .i64) a1 ++ ((csL 1 (csL 5 cs_Key)) a2 ++ ((csL 4 cs_RootKey) a3)))) vs
  refine CellsRep.append (l1 := (csI .i64) a0) c0 ?_
  refine CellsRep.append (l1 := (csI .i64) a1) c1 ?_
  refine CellsRep.append (l1 := (csL 1 (csL 5 cs_Key)) a2) (by simp only [List.drop_drop]; exact c2) ?_
  simp only [List.drop_drop]
  exact CellsRep.last c3 (by rw [hl]; rfl)
end

theorem mxok25 {a : Clip} (k : ok25 a) : mx_Clip a ≤ maxLen := by
  have h2 : (mxL List.length) a.Tracks ≤ maxLen := (mxL_le (k.2.2.1).1 (fun x hx => (((k.2.2.1).2 x hx)).1))
  have h3 : a.Roots.length ≤ maxLen := (k.2.2.2).1
  simp only [mx_Clip]
  omega
theorem lawOf (a0 : Clip) (a1 : F32) (k0 : ok25 a0) (_ : True) : ∃ K, laws_FnExactThinClip K a0 a1 = some true :=
  law_ThinClip a0 a1 (mxok25 k0)

set_option maxRecDepth 100000 in
theorem lifted (os : Os) (started : os.Started) (H : Type) (enc : TypeId × Value → H) :
    ReturnsInHanded {} Tryz.checked os 3 .any (Rows.fnExactThinClipSpec.pre6 enc Tryz.prog Tryz.f3 Rows.fnExactThinClipRow.domain false) (Rows.fnExactThinClipSpec.post enc Tryz.prog Tryz.f3 false true false false) := by
  refine returnsInHanded_of_change (C := Tryz.checked) Tryz.own started (by kernel_rfl) Tryz.func3
    (ChangeSpec.witness6 (enc := enc) (C := Tryz.checked) false ⟨#[], #[.agg #[.int .i64 0, .int .i64 0, .slice none 0 0, .slice none 0 0], .float .f32 0], []⟩ 8 (by kernel_rfl) (by kernel_rfl) (by kernel_rfl) (by kernel_rfl)) ?_
  intro W base args ds gs before hval0 hW hcnd _
  have hval : ∀ (j : Nat) t v, Tryz.f3.params[j]? = some t → args[j]? = some v → Value.okWide Tryz.prog W .any base t v := hval0
  have hW' := hW
  obtain ⟨p, q, hA0, hV, rfl, hfz, hnd⟩ := hW
  have hA : DataW.TrodAll enc Tryz.prog W 0 (fun _ => true) true Tryz.f3.params.toList args.toList ds p := hA0
  rw [Tryz.params3] at hA hval
  obtain ⟨v0, v1, d0, d1, p0, p1, rfl, rfl, rfl, h0, h1⟩ := trodAll_two hA
  obtain ⟨rfl, rfl⟩ := trodVars_none hV
  obtain ⟨a0, k0, r0⟩ := rd_arg_struct rd25 Tryz.underlying25 (hval 0 25 v0 rfl rfl) h0
  obtain ⟨a1, k1, r1⟩ := rd_arg_onef Tryz.underlying26 (c := fun (a : F32) => (.flt .f32 a.bits)) rd26 (hval 1 26 v1 rfl rfl) h1
  obtain ⟨K, hK⟩ := lawOf a0 a1 k0 k1
  have hc := (ok_laws_FnExactThinClip K a0 a1 true hK).calls Tryz.func3 (by kernel_rfl) (by kernel_rfl) (w := W) (vs := #[v0, v1]) (ctsRep2 r0 r1)
  refine hc.mono fun e W' ⟨v, he, hb, hr⟩ => ?_
  have hv : v = .bool true := by obtain ⟨F, _, _, h⟩ := hr; exact h
  subst he; subst hv
  exact ⟨_, rfl, post_true (tb := 4) Tryz.laidOut hW' rfl hb (by rw [Tryz.params3]; intro t ht; simp at ht; rcases ht with rfl | rfl <;> exact ⟨by kernel_rfl, of_decide_eq_true (by kernel_rfl)⟩) rfl Tryz.underlying4 rfl rfl rfl⟩

theorem fnExactThinClip_holds : Rows.FnExactThinClipSaid :=
  OpenClaim.holds_of_wide 3 Tryz.f3 rfl rfl rfl rfl rfl rfl rfl ⟨rfl, rfl, rfl, rfl, rfl⟩ rfl rfl rfl rfl rfl (by kernel_rfl) Tryz.func3 (by kernel_rfl)
    (of_decide_eq_true (by kernel_rfl)) (by unfold Func.isWrapper; first | (rw [if_pos (by decide +kernel)]; kernel_rfl) | (rw [if_neg (by decide +kernel)]; exact ⟨rfl, rfl⟩))
    (fun os started H enc _ => lifted os started H enc)

end Go.Proofs.YteehipecgmfeiaaGreat
