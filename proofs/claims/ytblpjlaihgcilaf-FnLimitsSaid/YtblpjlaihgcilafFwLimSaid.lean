/- FnLimits: for every input the law answers true, and its input reads as it did. -/
import Derived.Test.YtblpjlaihgcilafRows
import Derived.Test.YtblpjlaihgcilafFwGLLimAll
import Derived.Test.YtblpjlaihgcilafFwR7
import Derived.ProofKit
namespace Go.Proofs.Ytblpjlaihgcilaf
open Go.ChangeShapes Go.WideShapes Go.ChangeAt Go.RowKit Go.Fw

theorem Try.own : ownKnob Try.prog.godebug = none := by kernel_rfl
theorem Try.laidOut : laidOutB Try.prog = true := by kernel_rfl

section
variable {w : World}
theorem rd5 : Rd Try.prog w 5 (csI .u8) (fun a => (Lit.int .u8 a).wf = true) := rd_int Try.underlying5
theorem rd22 : Rd Try.prog w 22 (csL 1 (csI .u8)) (fun a => a.length ≤ maxLen ∧ ∀ x ∈ a, (Lit.int .u8 x).wf = true) := rd_slice rd5 Try.underlying22 (by kernel_rfl) (by decide) (fun _ => rfl)
end

theorem lawOf (a0 : (List Int)) (a1 : (List Int)) (k0 : a0.length ≤ maxLen ∧ ∀ x ∈ a0, (Lit.int .u8 x).wf = true) (k1 : a1.length ≤ maxLen ∧ ∀ x ∈ a1, (Lit.int .u8 x).wf = true) : ∃ K, laws_FnLimits K a0 a1 = some true :=
  law_FnLimits a0 a1 k0 k1

set_option maxRecDepth 100000 in
theorem lifted (os : Os) (started : os.Started) (H : Type) (enc : TypeId × Value → H) :
    ReturnsInHanded {} Try.checked os 3 .any (Rows.fnLimitsSpec.pre6 enc Try.prog Try.f3 Rows.fnLimitsRow.domain false) (Rows.fnLimitsSpec.post enc Try.prog Try.f3 false true false false) := by
  refine returnsInHanded_of_change (C := Try.checked) Try.own started (by kernel_rfl) Try.func3
    (ChangeSpec.witness6 (enc := enc) (C := Try.checked) false ⟨#[], #[.slice none 0 0, .slice none 0 0], []⟩ 8 (by kernel_rfl) (by kernel_rfl) (by kernel_rfl) (by kernel_rfl)) ?_
  intro W base args ds gs before hval0 hW hcnd _
  have hval : ∀ (j : Nat) t v, Try.f3.params[j]? = some t → args[j]? = some v → Value.okWide Try.prog W .any base t v := hval0
  have hW' := hW
  obtain ⟨p, q, hA0, hV, rfl, hfz, hnd⟩ := hW
  have hA : DataW.TrodAll enc Try.prog W 0 (fun _ => true) true Try.f3.params.toList args.toList ds p := hA0
  rw [Try.params3] at hA hval
  obtain ⟨v0, v1, d0, d1, p0, p1, rfl, rfl, rfl, h0, h1⟩ := trodAll_two hA
  obtain ⟨rfl, rfl⟩ := trodVars_none hV
  obtain ⟨a0, k0, r0⟩ := rd_arg_ones Try.underlying22 (c := fun (a : (List Int)) => (sl 1 (csI .u8) a)) rd22 (hval 0 22 v0 rfl rfl) h0
  obtain ⟨a1, k1, r1⟩ := rd_arg_ones Try.underlying22 (c := fun (a : (List Int)) => (sl 1 (csI .u8) a)) rd22 (hval 1 22 v1 rfl rfl) h1
  obtain ⟨K, hK⟩ := lawOf a0 a1 k0 k1
  have hc := (ok_laws_FnLimits K a0 a1 true hK).calls Try.func3 (by kernel_rfl) (by kernel_rfl) (w := W) (vs := #[v0, v1]) (by unfold Gd gtabs; intro g hg; cases hg) (ctsRep2 r0 r1)
  refine hc.mono fun e W' ⟨v, he, hb, hr⟩ => ?_
  have hv : v = .bool true := by obtain ⟨F, _, _, h⟩ := hr; exact h
  subst he; subst hv
  exact ⟨_, rfl, post_true (tb := 4) Try.laidOut hW' rfl hb (by rw [Try.params3]; intro t ht; simp at ht; rcases ht with rfl | rfl <;> exact ⟨by kernel_rfl, of_decide_eq_true (by kernel_rfl)⟩) rfl Try.underlying4 rfl rfl rfl⟩

theorem fnLimits_holds : Rows.FnLimitsSaid :=
  OpenClaim.holds_of_wide 3 Try.f3 rfl rfl rfl rfl rfl rfl rfl ⟨rfl, rfl, rfl, rfl, rfl⟩ rfl rfl rfl rfl rfl (by kernel_rfl) Try.func3 (by kernel_rfl)
    (of_decide_eq_true (by kernel_rfl)) (by unfold Func.isWrapper; first | (rw [if_pos (by decide +kernel)]; kernel_rfl) | (rw [if_neg (by decide +kernel)]; exact ⟨rfl, rfl⟩))
    (fun os started H enc _ => lifted os started H enc)

end Go.Proofs.Ytblpjlaihgcilaf
