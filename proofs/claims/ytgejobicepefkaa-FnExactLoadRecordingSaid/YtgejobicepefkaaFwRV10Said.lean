/- FnExactLoadRecording: for every input the law answers true, and its input reads as it did. -/
import Derived.Test.YtgejobicepefkaaRows
import Derived.Test.YtgejobicepefkaaFwRVLaw4
import Derived.Test.YtgejobicepefkaaFwR8
import Derived.ProofKit
namespace Go.Proofs.Ytgejobicepefkaa
open Go.ChangeShapes Go.WideShapes Go.ChangeAt Go.RowKit Go.Fw

theorem Try.own : ownKnob Try.prog.godebug = none := by kernel_rfl
theorem Try.laidOut : laidOutB Try.prog = true := by kernel_rfl

section
variable {w : World}
theorem rd9 : Rd Try.prog w 9 csS (fun a => a.size ≤ maxLen) := rd_string Try.underlying9
end

theorem lawOf (a : ByteArray) (_ : a.size ≤ maxLen) : ∃ K, laws_FnExactLoadRecording K a = some true :=
  law_LoadRecording a

set_option maxRecDepth 100000 in
theorem lifted (os : Os) (started : os.Started) (H : Type) (enc : TypeId × Value → H) :
    ReturnsInHanded {} Try.checked os 10 .any (Rows.fnExactLoadRecordingSpec.pre6 enc Try.prog Try.f10 Rows.fnExactLoadRecordingRow.domain false) (Rows.fnExactLoadRecordingSpec.post enc Try.prog Try.f10 false true false false) := by
  refine returnsInHanded_of_change (C := Try.checked) Try.own started (by kernel_rfl) Try.func10
    (ChangeSpec.witness6 (enc := enc) (C := Try.checked) false ⟨#[], #[.string ByteArray.empty], []⟩ 8 (by kernel_rfl) (by kernel_rfl) (by kernel_rfl) (by kernel_rfl)) ?_
  intro W base args ds gs before hval0 hW hcnd _
  have hval : ∀ (j : Nat) t v, Try.f10.params[j]? = some t → args[j]? = some v → Value.okWide Try.prog W .any base t v := hval0
  have hW' := hW
  obtain ⟨p, q, hA0, hV, rfl, hfz, hnd⟩ := hW
  have hA : DataW.TrodAll enc Try.prog W 0 (fun _ => true) true Try.f10.params.toList args.toList ds p := hA0
  rw [Try.params10] at hA hval
  obtain ⟨v0, d0, rfl, rfl, h0⟩ := trodAll_one hA
  obtain ⟨rfl, rfl⟩ := trodVars_none hV
  obtain ⟨a0, k0, r0⟩ := rd_arg_onet Try.underlying9 (c := fun a => (.str a)) rd9 (hval 0 9 v0 rfl rfl) h0
  obtain ⟨K, hK⟩ := lawOf a0 k0
  have hc := (ok_laws_FnExactLoadRecording K a0 true hK).calls Try.func10 (by kernel_rfl) (by kernel_rfl) (w := W) (vs := #[v0]) (ctsRep1 r0)
  refine hc.mono fun e W' ⟨v, he, hb, hr⟩ => ?_
  have hv : v = .bool true := by obtain ⟨F, _, _, h⟩ := hr; exact h
  subst he; subst hv
  exact ⟨_, rfl, post_true (tb := 4) Try.laidOut hW' rfl hb (by rw [Try.params10]; intro t ht; simp at ht; rcases ht with rfl <;> exact ⟨by kernel_rfl, of_decide_eq_true (by kernel_rfl)⟩) rfl Try.underlying4 rfl rfl rfl⟩

theorem fnExactLoadRecording_holds : Rows.FnExactLoadRecordingSaid :=
  OpenClaim.holds_of_wide 10 Try.f10 rfl rfl rfl rfl rfl rfl rfl ⟨rfl, rfl, rfl, rfl, rfl⟩ rfl rfl rfl rfl rfl (by kernel_rfl) Try.func10 (by kernel_rfl)
    (of_decide_eq_true (by kernel_rfl)) (by unfold Func.isWrapper; first | (rw [if_pos (by decide +kernel)]; kernel_rfl) | (rw [if_neg (by decide +kernel)]; exact ⟨rfl, rfl⟩))
    (fun os started H enc _ => lifted os started H enc)

end Go.Proofs.Ytgejobicepefkaa
