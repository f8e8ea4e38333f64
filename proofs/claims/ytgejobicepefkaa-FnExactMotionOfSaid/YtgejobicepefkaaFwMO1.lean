/- Functions of the program: what each computes, and that it computes just that. -/
import Derived.Test.YtgejobicepefkaaFwTy
import Derived.Test.YtgejobicepefkaaFwH
import Derived.Test.YtgejobicepefkaaFwV
import Derived.Test.YtgejobicepefkaaFwAB
import Derived.Test.YtgejobicepefkaaProg
import Derived.KernelRfl
namespace Go.Fw
open Go Go.Proofs
noncomputable section
set_option maxRecDepth 10000

/-! laws.szTurnS -/
def laws_szTurnS (_K : Nat) (a0 : (List Turn)) (a1 : Int) : Option (Int) :=
  ite2 ((decide ((IntKind.i64.wrap (a1 - (a0.length : Int))) < (0 : Int)))) (some ((-1) : Int)) (some (IntKind.i64.wrap (a1 - (a0.length : Int))))

theorem ok_laws_szTurnS (K : Nat) (a0 : (List Turn)) (a1 : Int) (o : (Int)) (h : laws_szTurnS K a0 a1 = some o) : CallOK Try.prog 86 [.one (sl 4 cs_Turn a0), .one (.int .i64 a1)] [.one (.int .i64 o)] := by
  refine callOK_of_AW Try.func86 rfl (by kernel_rfl) (Nat.le_of_ble_eq_true (by kernel_rfl)) ?_
  intro w0
  unfold laws_szTurnS at h
  refine AW.seq ?_
  refine AW.regionA [] [0, 1] [] (s' := ⟨[(0, (.v (.one (.c (sl 4 cs_Turn a0))))), (1, (.v (.one (.c (.int .i64 a1)))))], []⟩) (ob := True ∧ True) (by kernel_rfl) ⟨trivial, trivial⟩ ?_
  refine thenQ_normal ?_
  refine AW.seq ?_
  refine AW.regionA [] [1] [] (s' := ⟨[(1, (.v (.one (.c (.int .i64 (IntKind.i64.wrap (a1 - (a0.length : Int))))))))], []⟩) (ob := True ∧ True ∧ True ∧ True ∧ True ∧ True) (by kernel_rfl) ⟨trivial, trivial, trivial, trivial, trivial, trivial⟩ ?_
  refine thenQ_normal ?_
  refine AW.seq ?_
  refine AW.seq ?_
  refine AW.regionA [] [1, 10] [] (s' := ⟨[(1, (.v (.one (.c (.int .i64 (IntKind.i64.wrap (a1 - (a0.length : Int)))))))), (10, (.v (.one (.c (.bool (decide ((IntKind.i64.wrap (a1 - (a0.length : Int))) < (0 : Int))))))))], []⟩) (ob := True ∧ True ∧ True) (by kernel_rfl) ⟨trivial, trivial, trivial⟩ ?_
  refine thenQ_normal ?_
  rcases ite2_cases h with ⟨b1, h⟩ | ⟨b1, h⟩
  · refine AW.cond_t rfl b1 ?_
    refine AW.seq ?_
    refine AW.regionA [] [4] [] (s' := ⟨[(4, (.v (.one (.c (.int .i64 ((-1) : Int))))))], []⟩) (ob := True ∧ True) (by kernel_rfl) ⟨trivial, trivial⟩ ?_
    refine thenQ_normal ?_
    refine AW.ret ?_
    refine thenQ_ret ?_
    replace h := some_eq h
    subst h
    exact ⟨.inr rfl, retOK_of [(.one (.c (.int .i64 ((-1) : Int))))] (by kernel_rfl) ⟨⟨rfl, trivial⟩, trivial⟩ (of_decide_eq_true (by kernel_rfl))⟩
  · refine AW.cond_f rfl b1 ?_
    refine AW.skip ?_
    refine thenQ_normal ?_
    refine AW.seq ?_
    refine AW.regionA [] [4] [] (s' := ⟨[(4, (.v (.one (.c (.int .i64 (IntKind.i64.wrap (a1 - (a0.length : Int))))))))], []⟩) (ob := True ∧ True ∧ True) (by kernel_rfl) ⟨trivial, trivial, trivial⟩ ?_
    refine thenQ_normal ?_
    refine AW.ret ?_
    replace h := some_eq h
    subst h
    exact ⟨.inr rfl, retOK_of [(.one (.c (.int .i64 (IntKind.i64.wrap (a1 - (a0.length : Int))))))] (by kernel_rfl) ⟨⟨rfl, trivial⟩, trivial⟩ (of_decide_eq_true (by kernel_rfl))⟩

/-! laws.szPose -/
def laws_szPose (K : Nat) (a0 : Pose) (a1 : Int) : Option (Int) :=
  (laws_szTurnS K a0.Turns a1).bind fun v1 => ite2 ((decide (v1 < (0 : Int)))) (some ((-1) : Int)) (some v1)

theorem ok_laws_szPose (K : Nat) (a0 : Pose) (a1 : Int) (o : (Int)) (h : laws_szPose K a0 a1 = some o) : CallOK Try.prog 32 [.agg (cs_Pose a0), .one (.int .i64 a1)] [.one (.int .i64 o)] := by
  refine callOK_of_AW Try.func32 rfl (by kernel_rfl) (Nat.le_of_ble_eq_true (by kernel_rfl)) ?_
  intro w0
  unfold laws_szPose at h
  refine AW.seq ?_
  refine AW.regionA [.box 1] [1, 2] [1] (s' := ⟨[(1, (.v (.one (.c (.int .i64 a1))))), (2, (.v (.one (.ptr 1 0))))], [(1, (.box [(.c (.flt .f32 a0.Root.X.bits)), (.c (.flt .f32 a0.Root.Y.bits)), (.c (.flt .f32 a0.Root.Z.bits)), (.c (sl 4 cs_Turn a0.Turns))]))]⟩) (ob := True ∧ True ∧ True) (by kernel_rfl) ⟨trivial, trivial, trivial⟩ ?_
  refine thenQ_normal ?_
  refine AW.seq ?_
  obtain ⟨v1, e2, h⟩ := bind_some h
  refine AW.regionA [.no, .no, .no, .call [.one (sl 4 cs_Turn a0.Turns), .one (.int .i64 a1)] [.one (.int .i64 v1)] [[.view]]] [1] [] (s' := ⟨[(1, (.v (.one (.c (.int .i64 v1)))))], []⟩) (ob := True ∧ True ∧ True ∧ (((((sl 4 cs_Turn a0.Turns) : C) = (sl 4 cs_Turn a0.Turns)) ∧ (((.int .i64 a1) : C) = (.int .i64 a1)) ∧ True) ∧ CallOK Try.prog 86 [.one (sl 4 cs_Turn a0.Turns), .one (.int .i64 a1)] [.one (.int .i64 v1)]) ∧ True ∧ True) (by kernel_rfl) ⟨trivial, trivial, trivial, ⟨⟨rfl, rfl, trivial⟩, ok_laws_szTurnS K a0.Turns a1 v1 e2⟩, trivial, trivial⟩ ?_
  refine thenQ_normal ?_
  refine AW.seq ?_
  refine AW.seq ?_
  refine AW.regionA [] [1, 10] [] (s' := ⟨[(1, (.v (.one (.c (.int .i64 v1))))), (10, (.v (.one (.c (.bool (decide (v1 < (0 : Int))))))))], []⟩) (ob := True ∧ True ∧ True) (by kernel_rfl) ⟨trivial, trivial, trivial⟩ ?_
  refine thenQ_normal ?_
  rcases ite2_cases h with ⟨b3, h⟩ | ⟨b3, h⟩
  · refine AW.cond_t rfl b3 ?_
    refine AW.seq ?_
    refine AW.regionA [] [4] [] (s' := ⟨[(4, (.v (.one (.c (.int .i64 ((-1) : Int))))))], []⟩) (ob := True ∧ True) (by kernel_rfl) ⟨trivial, trivial⟩ ?_
    refine thenQ_normal ?_
    refine AW.ret ?_
    refine thenQ_ret ?_
    replace h := some_eq h
    subst h
    exact ⟨.inr rfl, retOK_of [(.one (.c (.int .i64 ((-1) : Int))))] (by kernel_rfl) ⟨⟨rfl, trivial⟩, trivial⟩ (of_decide_eq_true (by kernel_rfl))⟩
  · refine AW.cond_f rfl b3 ?_
    refine AW.skip ?_
    refine thenQ_normal ?_
    refine AW.seq ?_
    refine AW.regionA [] [4] [] (s' := ⟨[(4, (.v (.one (.c (.int .i64 v1)))))], []⟩) (ob := True ∧ True ∧ True) (by kernel_rfl) ⟨trivial, trivial, trivial⟩ ?_
    refine thenQ_normal ?_
    refine AW.ret ?_
    replace h := some_eq h
    subst h
    exact ⟨.inr rfl, retOK_of [(.one (.c (.int .i64 v1)))] (by kernel_rfl) ⟨⟨rfl, trivial⟩, trivial⟩ (of_decide_eq_true (by kernel_rfl))⟩

/-! laws.szPoseS -/
def laws_szPoseS_l1 (K : Nat) (a0 : (List Pose)) : Nat → Int → Int → Option (Int)
  | 0, _, _ => none
  | k + 1, x4, x5 => ite2 ((decide (x5 < (a0.length : Int)))) (chk (0 ≤ x5 ∧ x5 < (a0.length : Int)) ((laws_szPose K (a0.getD x5.toNat default) x4).bind fun v8 => ite2 ((decide (v8 < (0 : Int)))) (some ((-1) : Int)) (laws_szPoseS_l1 K a0 k v8 (IntKind.i64.wrap (x5 + (1 : Int)))))) (some x4)

def laws_szPoseS (K : Nat) (a0 : (List Pose)) (a1 : Int) : Option (Int) :=
  ite2 ((decide ((IntKind.i64.wrap (a1 - (a0.length : Int))) < (0 : Int)))) (some ((-1) : Int)) (laws_szPoseS_l1 K a0 K (IntKind.i64.wrap (a1 - (a0.length : Int))) (0 : Int))

theorem ok_laws_szPoseS (K : Nat) (a0 : (List Pose)) (a1 : Int) (o : (Int)) (h : laws_szPoseS K a0 a1 = some o) : CallOK Try.prog 72 [.one (sl 4 cs_Pose a0), .one (.int .i64 a1)] [.one (.int .i64 o)] := by
  refine callOK_of_AW Try.func72 rfl (by kernel_rfl) (Nat.le_of_ble_eq_true (by kernel_rfl)) ?_
  intro w0
  unfold laws_szPoseS at h
  refine AW.seq ?_
  refine AW.regionA [] [0, 1] [] (s' := ⟨[(0, (.v (.one (.c (sl 4 cs_Pose a0))))), (1, (.v (.one (.c (.int .i64 a1)))))], []⟩) (ob := True ∧ True) (by kernel_rfl) ⟨trivial, trivial⟩ ?_
  refine thenQ_normal ?_
  refine AW.seq ?_
  refine AW.regionA [] [0, 1] [] (s' := ⟨[(0, (.v (.one (.c (sl 4 cs_Pose a0))))), (1, (.v (.one (.c (.int .i64 (IntKind.i64.wrap (a1 - (a0.length : Int))))))))], []⟩) (ob := True ∧ True ∧ True ∧ True ∧ True ∧ True) (by kernel_rfl) ⟨trivial, trivial, trivial, trivial, trivial, trivial⟩ ?_
  refine thenQ_normal ?_
  refine AW.seq ?_
  refine AW.seq ?_
  refine AW.regionA [] [0, 1, 11] [] (s' := ⟨[(0, (.v (.one (.c (sl 4 cs_Pose a0))))), (1, (.v (.one (.c (.int .i64 (IntKind.i64.wrap (a1 - (a0.length : Int)))))))), (11, (.v (.one (.c (.bool (decide ((IntKind.i64.wrap (a1 - (a0.length : Int))) < (0 : Int))))))))], []⟩) (ob := True ∧ True ∧ True) (by kernel_rfl) ⟨trivial, trivial, trivial⟩ ?_
  refine thenQ_normal ?_
  rcases ite2_cases h with ⟨b1, h⟩ | ⟨b1, h⟩
  · refine AW.cond_t rfl b1 ?_
    refine AW.seq ?_
    refine AW.regionA [] [4] [] (s' := ⟨[(4, (.v (.one (.c (.int .i64 ((-1) : Int))))))], []⟩) (ob := True ∧ True) (by kernel_rfl) ⟨trivial, trivial⟩ ?_
    refine thenQ_normal ?_
    refine AW.ret ?_
    refine thenQ_ret ?_
    replace h := some_eq h
    subst h
    exact ⟨.inr rfl, retOK_of [(.one (.c (.int .i64 ((-1) : Int))))] (by kernel_rfl) ⟨⟨rfl, trivial⟩, trivial⟩ (of_decide_eq_true (by kernel_rfl))⟩
  · refine AW.cond_f rfl b1 ?_
    refine AW.skip ?_
    refine thenQ_normal ?_
    refine AW.seq ?_
    refine AW.seq ?_
    refine AW.regionA [] [0, 1, 5] [] (s' := ⟨[(0, (.v (.one (.c (sl 4 cs_Pose a0))))), (1, (.v (.one (.c (.int .i64 (IntKind.i64.wrap (a1 - (a0.length : Int)))))))), (5, (.v (.one (.c (.int .i64 (0 : Int))))))], []⟩) (ob := True ∧ True) (by kernel_rfl) ⟨trivial, trivial⟩ ?_
    refine thenQ_normal ?_
    refine AW.block ?_
    refine AW.loopQ (σ := Nat × Int × Int) (fun p => ⟨[(0, (.v (.one (.c (sl 4 cs_Pose a0))))), (1, (.v (.one (.c (.int .i64 p.2.1))))), (5, (.v (.one (.c (.int .i64 p.2.2)))))], []⟩) (fun p => laws_szPoseS_l1 K a0 p.1 p.2.1 p.2.2 = some o) (fun p => p.1) (K, (IntKind.i64.wrap (a1 - (a0.length : Int))), (0 : Int)) h ?_
    clear h
    rintro ⟨k, x4, x5⟩ h
    replace h : laws_szPoseS_l1 K a0 k x4 x5 = some o := h
    show AW _ _ (⟨[(0, (.v (.one (.c (sl 4 cs_Pose a0))))), (1, (.v (.one (.c (.int .i64 x4))))), (5, (.v (.one (.c (.int .i64 x5)))))], []⟩ : St) _
    obtain _ | k := k
    · rw [laws_szPoseS_l1] at h; cases h
    rw [laws_szPoseS_l1] at h
    refine AW.seq ?_
    refine AW.seq ?_
    refine AW.regionA [] [0, 1, 5, 15] [] (s' := ⟨[(0, (.v (.one (.c (sl 4 cs_Pose a0))))), (1, (.v (.one (.c (.int .i64 x4))))), (5, (.v (.one (.c (.int .i64 x5))))), (15, (.v (.one (.c (.bool (decide (x5 < (a0.length : Int))))))))], []⟩) (ob := True ∧ True ∧ True ∧ True ∧ True) (by kernel_rfl) ⟨trivial, trivial, trivial, trivial, trivial⟩ ?_
    refine thenQ_normal ?_
    rcases ite2_cases h with ⟨b6, h⟩ | ⟨b6, h⟩
    · refine AW.cond_t rfl b6 ?_
      refine AW.skip ?_
      refine thenQ_normal ?_
      refine AW.seq ?_
      refine AW.block ?_
      refine AW.seq ?_
      obtain ⟨c7, h⟩ := chk_some h
      obtain ⟨v8, e9, h⟩ := bind_some h
      refine AW.regionA [.no, .no, .no, .no, .no, .call [.agg (cs_Pose (a0.getD x5.toNat default)), .one (.int .i64 x4)] [.one (.int .i64 v8)] [[.view]]] [0, 1, 5] [] (s' := ⟨[(0, (.v (.one (.c (sl 4 cs_Pose a0))))), (1, (.v (.one (.c (.int .i64 v8))))), (5, (.v (.one (.c (.int .i64 x5)))))], []⟩) (ob := True ∧ True ∧ (0 ≤ x5 ∧ x5 < (a0.length : Int)) ∧ True ∧ True ∧ ((((((.flt .f32 (((a0.getD x5.toNat default).Root).X).bits) : C) = (.flt .f32 (((a0.getD x5.toNat default).Root).X).bits)) ∧ (((.flt .f32 (((a0.getD x5.toNat default).Root).Y).bits) : C) = (.flt .f32 (((a0.getD x5.toNat default).Root).Y).bits)) ∧ (((.flt .f32 (((a0.getD x5.toNat default).Root).Z).bits) : C) = (.flt .f32 (((a0.getD x5.toNat default).Root).Z).bits)) ∧ (((sl 4 cs_Turn ((a0.getD x5.toNat default).Turns)) : C) = (sl 4 cs_Turn ((a0.getD x5.toNat default).Turns))) ∧ True) ∧ (((.int .i64 x4) : C) = (.int .i64 x4)) ∧ True) ∧ CallOK Try.prog 32 [.agg (cs_Pose (a0.getD x5.toNat default)), .one (.int .i64 x4)] [.one (.int .i64 v8)]) ∧ True ∧ True) (by kernel_rfl) ⟨trivial, trivial, c7, trivial, trivial, ⟨⟨⟨rfl, rfl, rfl, rfl, trivial⟩, rfl, trivial⟩, ok_laws_szPose K (a0.getD x5.toNat default) x4 v8 e9⟩, trivial, trivial⟩ ?_
      refine thenQ_normal ?_
      refine AW.seq ?_
      refine AW.regionA [] [0, 1, 5, 25] [] (s' := ⟨[(0, (.v (.one (.c (sl 4 cs_Pose a0))))), (1, (.v (.one (.c (.int .i64 v8))))), (5, (.v (.one (.c (.int .i64 x5))))), (25, (.v (.one (.c (.bool (decide (v8 < (0 : Int))))))))], []⟩) (ob := True ∧ True ∧ True) (by kernel_rfl) ⟨trivial, trivial, trivial⟩ ?_
      refine thenQ_normal ?_
      rcases ite2_cases h with ⟨b10, h⟩ | ⟨b10, h⟩
      · refine AW.cond_t rfl b10 ?_
        refine AW.seq ?_
        refine AW.regionA [] [4] [] (s' := ⟨[(4, (.v (.one (.c (.int .i64 ((-1) : Int))))))], []⟩) (ob := True ∧ True) (by kernel_rfl) ⟨trivial, trivial⟩ ?_
        refine thenQ_normal ?_
        refine AW.ret ?_
        refine blockQ_ret ?_
        refine thenQ_ret ?_
        refine loopQ_ret ?_
        refine blockQ_ret ?_
        refine thenQ_ret ?_
        replace h := some_eq h
        subst h
        exact ⟨.inr rfl, retOK_of [(.one (.c (.int .i64 ((-1) : Int))))] (by kernel_rfl) ⟨⟨rfl, trivial⟩, trivial⟩ (of_decide_eq_true (by kernel_rfl))⟩
      · refine AW.cond_f rfl b10 ?_
        refine AW.skip ?_
        refine blockQ_normal ?_
        refine thenQ_normal ?_
        refine AW.regionA [] [0, 1, 5] [] (s' := ⟨[(0, (.v (.one (.c (sl 4 cs_Pose a0))))), (1, (.v (.one (.c (.int .i64 v8))))), (5, (.v (.one (.c (.int .i64 (IntKind.i64.wrap (x5 + (1 : Int))))))))], []⟩) (ob := True ∧ True ∧ True ∧ True) (by kernel_rfl) ⟨trivial, trivial, trivial, trivial⟩ ?_
        exact loopQ_normal (k, v8, (IntKind.i64.wrap (x5 + (1 : Int)))) h (Nat.lt_succ_self k) (Sub.keep [0, 1, 5] [] (by kernel_rfl) (by kernel_rfl))
    · refine AW.cond_f rfl b6 ?_
      refine AW.exit ?_
      refine thenQ_exit ?_
      refine loopQ_exit ?_
      refine blockQ_exit ?_
      refine thenQ_normal ?_
      refine AW.seq ?_
      refine AW.regionA [] [4] [] (s' := ⟨[(4, (.v (.one (.c (.int .i64 x4)))))], []⟩) (ob := True ∧ True ∧ True) (by kernel_rfl) ⟨trivial, trivial, trivial⟩ ?_
      refine thenQ_normal ?_
      refine AW.ret ?_
      replace h := some_eq h
      subst h
      exact ⟨.inr rfl, retOK_of [(.one (.c (.int .i64 x4)))] (by kernel_rfl) ⟨⟨rfl, trivial⟩, trivial⟩ (of_decide_eq_true (by kernel_rfl))⟩

/-! laws.szRecording -/
def laws_szRecording (K : Nat) (a0 : Recording) (a1 : Int) : Option (Int) :=
  (laws_szPoseS K a0.Frames a1).bind fun v1 => ite2 ((decide (v1 < (0 : Int)))) (some ((-1) : Int)) (some v1)

theorem ok_laws_szRecording (K : Nat) (a0 : Recording) (a1 : Int) (o : (Int)) (h : laws_szRecording K a0 a1 = some o) : CallOK Try.prog 21 [.agg (cs_Recording a0), .one (.int .i64 a1)] [.one (.int .i64 o)] := by
  refine callOK_of_AW Try.func21 rfl (by kernel_rfl) (Nat.le_of_ble_eq_true (by kernel_rfl)) ?_
  intro w0
  unfold laws_szRecording at h
  refine AW.seq ?_
  refine AW.regionA [.box 1] [1, 2] [1] (s' := ⟨[(1, (.v (.one (.c (.int .i64 a1))))), (2, (.v (.one (.ptr 1 0))))], [(1, (.box [(.c (.int .i64 a0.Bones)), (.c (sl 4 cs_Pose a0.Frames))]))]⟩) (ob := True ∧ True ∧ True) (by kernel_rfl) ⟨trivial, trivial, trivial⟩ ?_
  refine thenQ_normal ?_
  refine AW.seq ?_
  obtain ⟨v1, e2, h⟩ := bind_some h
  refine AW.regionA [.no, .no, .no, .call [.one (sl 4 cs_Pose a0.Frames), .one (.int .i64 a1)] [.one (.int .i64 v1)] [[.view]]] [1] [] (s' := ⟨[(1, (.v (.one (.c (.int .i64 v1)))))], []⟩) (ob := True ∧ True ∧ True ∧ (((((sl 4 cs_Pose a0.Frames) : C) = (sl 4 cs_Pose a0.Frames)) ∧ (((.int .i64 a1) : C) = (.int .i64 a1)) ∧ True) ∧ CallOK Try.prog 72 [.one (sl 4 cs_Pose a0.Frames), .one (.int .i64 a1)] [.one (.int .i64 v1)]) ∧ True ∧ True) (by kernel_rfl) ⟨trivial, trivial, trivial, ⟨⟨rfl, rfl, trivial⟩, ok_laws_szPoseS K a0.Frames a1 v1 e2⟩, trivial, trivial⟩ ?_
  refine thenQ_normal ?_
  refine AW.seq ?_
  refine AW.seq ?_
  refine AW.regionA [] [1, 10] [] (s' := ⟨[(1, (.v (.one (.c (.int .i64 v1))))), (10, (.v (.one (.c (.bool (decide (v1 < (0 : Int))))))))], []⟩) (ob := True ∧ True ∧ True) (by kernel_rfl) ⟨trivial, trivial, trivial⟩ ?_
  refine thenQ_normal ?_
  rcases ite2_cases h with ⟨b3, h⟩ | ⟨b3, h⟩
  · refine AW.cond_t rfl b3 ?_
    refine AW.seq ?_
    refine AW.regionA [] [4] [] (s' := ⟨[(4, (.v (.one (.c (.int .i64 ((-1) : Int))))))], []⟩) (ob := True ∧ True) (by kernel_rfl) ⟨trivial, trivial⟩ ?_
    refine thenQ_normal ?_
    refine AW.ret ?_
    refine thenQ_ret ?_
    replace h := some_eq h
    subst h
    exact ⟨.inr rfl, retOK_of [(.one (.c (.int .i64 ((-1) : Int))))] (by kernel_rfl) ⟨⟨rfl, trivial⟩, trivial⟩ (of_decide_eq_true (by kernel_rfl))⟩
  · refine AW.cond_f rfl b3 ?_
    refine AW.skip ?_
    refine thenQ_normal ?_
    refine AW.seq ?_
    refine AW.regionA [] [4] [] (s' := ⟨[(4, (.v (.one (.c (.int .i64 v1)))))], []⟩) (ob := True ∧ True ∧ True) (by kernel_rfl) ⟨trivial, trivial, trivial⟩ ?_
    refine thenQ_normal ?_
    refine AW.ret ?_
    replace h := some_eq h
    subst h
    exact ⟨.inr rfl, retOK_of [(.one (.c (.int .i64 v1)))] (by kernel_rfl) ⟨⟨rfl, trivial⟩, trivial⟩ (of_decide_eq_true (by kernel_rfl))⟩

/-! laws.toVector -/
def laws_toVector (_K : Nat) (a0 : Vector) : Option (Vector) :=
  some a0

theorem ok_laws_toVector (K : Nat) (a0 : Vector) (o : (Vector)) (h : laws_toVector K a0 = some o) : CallOK Try.prog 88 [.agg (cs_Vector a0)] [.agg (cs_Vector o)] := by
  refine callOK_of_AW Try.func88 rfl (by kernel_rfl) (Nat.le_of_ble_eq_true (by kernel_rfl)) ?_
  intro w0
  unfold laws_toVector at h
  refine AW.seq ?_
  refine AW.regionA [.box 1, .box 2] [1, 2] [1, 2] (s' := ⟨[(1, (.v (.one (.ptr 1 0)))), (2, (.v (.one (.ptr 2 0))))], [(1, (.box [(.c (.flt .f32 a0.X.bits)), (.c (.flt .f32 a0.Y.bits)), (.c (.flt .f32 a0.Z.bits))])), (2, (.box [(.c (.flt .f32 (default : F32).bits)), (.c (.flt .f32 (default : F32).bits)), (.c (.flt .f32 (default : F32).bits))]))]⟩) (ob := True ∧ True ∧ True) (by kernel_rfl) ⟨trivial, trivial, trivial⟩ ?_
  refine thenQ_normal ?_
  refine AW.seq ?_
  refine AW.regionA [.box 3] [1, 2, 3] [1, 2, 3] (s' := ⟨[(1, (.v (.one (.ptr 1 0)))), (2, (.v (.one (.ptr 2 0)))), (3, (.v (.one (.ptr 3 0))))], [(1, (.box [(.c (.flt .f32 a0.X.bits)), (.c (.flt .f32 a0.Y.bits)), (.c (.flt .f32 a0.Z.bits))])), (2, (.box [(.c (.flt .f32 (default : F32).bits)), (.c (.flt .f32 (default : F32).bits)), (.c (.flt .f32 (default : F32).bits))])), (3, (.box [(.c (.flt .f32 (default : F32).bits)), (.c (.flt .f32 (default : F32).bits)), (.c (.flt .f32 (default : F32).bits))]))]⟩) (ob := True ∧ True) (by kernel_rfl) ⟨trivial, trivial⟩ ?_
  refine thenQ_normal ?_
  refine AW.seq ?_
  refine AW.regionA [] [1, 2, 3] [1, 2, 3] (s' := ⟨[(1, (.v (.one (.ptr 1 0)))), (2, (.v (.one (.ptr 2 0)))), (3, (.v (.one (.ptr 3 0))))], [(1, (.box [(.c (.flt .f32 a0.X.bits)), (.c (.flt .f32 a0.Y.bits)), (.c (.flt .f32 a0.Z.bits))])), (2, (.box [(.c (.flt .f32 (default : F32).bits)), (.c (.flt .f32 (default : F32).bits)), (.c (.flt .f32 (default : F32).bits))])), (3, (.box [(.c (.flt .f32 a0.X.bits)), (.c (.flt .f32 (default : F32).bits)), (.c (.flt .f32 (default : F32).bits))]))]⟩) (ob := True ∧ True ∧ True ∧ True ∧ True) (by kernel_rfl) ⟨trivial, trivial, trivial, trivial, trivial⟩ ?_
  refine thenQ_normal ?_
  refine AW.seq ?_
  refine AW.regionA [] [1, 2, 3] [1, 2, 3] (s' := ⟨[(1, (.v (.one (.ptr 1 0)))), (2, (.v (.one (.ptr 2 0)))), (3, (.v (.one (.ptr 3 0))))], [(1, (.box [(.c (.flt .f32 a0.X.bits)), (.c (.flt .f32 a0.Y.bits)), (.c (.flt .f32 a0.Z.bits))])), (2, (.box [(.c (.flt .f32 (default : F32).bits)), (.c (.flt .f32 (default : F32).bits)), (.c (.flt .f32 (default : F32).bits))])), (3, (.box [(.c (.flt .f32 a0.X.bits)), (.c (.flt .f32 a0.Y.bits)), (.c (.flt .f32 (default : F32).bits))]))]⟩) (ob := True ∧ True ∧ True ∧ True ∧ True) (by kernel_rfl) ⟨trivial, trivial, trivial, trivial, trivial⟩ ?_
  refine thenQ_normal ?_
  refine AW.seq ?_
  refine AW.regionA [] [2, 3] [2, 3] (s' := ⟨[(2, (.v (.one (.ptr 2 0)))), (3, (.v (.one (.ptr 3 0))))], [(2, (.box [(.c (.flt .f32 (default : F32).bits)), (.c (.flt .f32 (default : F32).bits)), (.c (.flt .f32 (default : F32).bits))])), (3, (.box [(.c (.flt .f32 a0.X.bits)), (.c (.flt .f32 a0.Y.bits)), (.c (.flt .f32 a0.Z.bits))]))]⟩) (ob := True ∧ True ∧ True ∧ True ∧ True) (by kernel_rfl) ⟨trivial, trivial, trivial, trivial, trivial⟩ ?_
  refine thenQ_normal ?_
  refine AW.seq ?_
  refine AW.regionA [] [2] [2] (s' := ⟨[(2, (.v (.one (.ptr 2 0))))], [(2, (.box [(.c (.flt .f32 a0.X.bits)), (.c (.flt .f32 a0.Y.bits)), (.c (.flt .f32 a0.Z.bits))]))]⟩) (ob := True ∧ True ∧ True) (by kernel_rfl) ⟨trivial, trivial, trivial⟩ ?_
  refine thenQ_normal ?_
  refine AW.ret ?_
  replace h := some_eq h
  subst h
  exact ⟨.inr rfl, retOK_of [(.agg [(.c (.flt .f32 a0.X.bits)), (.c (.flt .f32 a0.Y.bits)), (.c (.flt .f32 a0.Z.bits))])] (by kernel_rfl) ⟨⟨⟨rfl, trivial⟩, ⟨rfl, trivial⟩, ⟨rfl, trivial⟩, trivial⟩, trivial⟩ (of_decide_eq_true (by kernel_rfl))⟩

/-! laws.toTurn -/
def laws_toTurn (_K : Nat) (a0 : Turn) : Option (Turn) :=
  some a0

theorem ok_laws_toTurn (K : Nat) (a0 : Turn) (o : (Turn)) (h : laws_toTurn K a0 = some o) : CallOK Try.prog 130 [.agg (cs_Turn a0)] [.agg (cs_Turn o)] := by
  refine callOK_of_AW Try.func130 rfl (by kernel_rfl) (Nat.le_of_ble_eq_true (by kernel_rfl)) ?_
  intro w0
  unfold laws_toTurn at h
  refine AW.seq ?_
  refine AW.regionA [.box 1, .box 2] [1, 2] [1, 2] (s' := ⟨[(1, (.v (.one (.ptr 1 0)))), (2, (.v (.one (.ptr 2 0))))], [(1, (.box [(.c (.flt .f32 a0.W.bits)), (.c (.flt .f32 a0.X.bits)), (.c (.flt .f32 a0.Y.bits)), (.c (.flt .f32 a0.Z.bits))])), (2, (.box [(.c (.flt .f32 (default : F32).bits)), (.c (.flt .f32 (default : F32).bits)), (.c (.flt .f32 (default : F32).bits)), (.c (.flt .f32 (default : F32).bits))]))]⟩) (ob := True ∧ True ∧ True) (by kernel_rfl) ⟨trivial, trivial, trivial⟩ ?_
  refine thenQ_normal ?_
  refine AW.seq ?_
  refine AW.regionA [.box 3] [1, 2, 3] [1, 2, 3] (s' := ⟨[(1, (.v (.one (.ptr 1 0)))), (2, (.v (.one (.ptr 2 0)))), (3, (.v (.one (.ptr 3 0))))], [(1, (.box [(.c (.flt .f32 a0.W.bits)), (.c (.flt .f32 a0.X.bits)), (.c (.flt .f32 a0.Y.bits)), (.c (.flt .f32 a0.Z.bits))])), (2, (.box [(.c (.flt .f32 (default : F32).bits)), (.c (.flt .f32 (default : F32).bits)), (.c (.flt .f32 (default : F32).bits)), (.c (.flt .f32 (default : F32).bits))])), (3, (.box [(.c (.flt .f32 (default : F32).bits)), (.c (.flt .f32 (default : F32).bits)), (.c (.flt .f32 (default : F32).bits)), (.c (.flt .f32 (default : F32).bits))]))]⟩) (ob := True ∧ True) (by kernel_rfl) ⟨trivial, trivial⟩ ?_
  refine thenQ_normal ?_
  refine AW.seq ?_
  refine AW.regionA [] [1, 2, 3] [1, 2, 3] (s' := ⟨[(1, (.v (.one (.ptr 1 0)))), (2, (.v (.one (.ptr 2 0)))), (3, (.v (.one (.ptr 3 0))))], [(1, (.box [(.c (.flt .f32 a0.W.bits)), (.c (.flt .f32 a0.X.bits)), (.c (.flt .f32 a0.Y.bits)), (.c (.flt .f32 a0.Z.bits))])), (2, (.box [(.c (.flt .f32 (default : F32).bits)), (.c (.flt .f32 (default : F32).bits)), (.c (.flt .f32 (default : F32).bits)), (.c (.flt .f32 (default : F32).bits))])), (3, (.box [(.c (.flt .f32 a0.W.bits)), (.c (.flt .f32 (default : F32).bits)), (.c (.flt .f32 (default : F32).bits)), (.c (.flt .f32 (default : F32).bits))]))]⟩) (ob := True ∧ True ∧ True ∧ True ∧ True) (by kernel_rfl) ⟨trivial, trivial, trivial, trivial, trivial⟩ ?_
  refine thenQ_normal ?_
  refine AW.seq ?_
  refine AW.regionA [] [1, 2, 3] [1, 2, 3] (s' := ⟨[(1, (.v (.one (.ptr 1 0)))), (2, (.v (.one (.ptr 2 0)))), (3, (.v (.one (.ptr 3 0))))], [(1, (.box [(.c (.flt .f32 a0.W.bits)), (.c (.flt .f32 a0.X.bits)), (.c (.flt .f32 a0.Y.bits)), (.c (.flt .f32 a0.Z.bits))])), (2, (.box [(.c (.flt .f32 (default : F32).bits)), (.c (.flt .f32 (default : F32).bits)), (.c (.flt .f32 (default : F32).bits)), (.c (.flt .f32 (default : F32).bits))])), (3, (.box [(.c (.flt .f32 a0.W.bits)), (.c (.flt .f32 a0.X.bits)), (.c (.flt .f32 (default : F32).bits)), (.c (.flt .f32 (default : F32).bits))]))]⟩) (ob := True ∧ True ∧ True ∧ True ∧ True) (by kernel_rfl) ⟨trivial, trivial, trivial, trivial, trivial⟩ ?_
  refine thenQ_normal ?_
  refine AW.seq ?_
  refine AW.regionA [] [1, 2, 3] [1, 2, 3] (s' := ⟨[(1, (.v (.one (.ptr 1 0)))), (2, (.v (.one (.ptr 2 0)))), (3, (.v (.one (.ptr 3 0))))], [(1, (.box [(.c (.flt .f32 a0.W.bits)), (.c (.flt .f32 a0.X.bits)), (.c (.flt .f32 a0.Y.bits)), (.c (.flt .f32 a0.Z.bits))])), (2, (.box [(.c (.flt .f32 (default : F32).bits)), (.c (.flt .f32 (default : F32).bits)), (.c (.flt .f32 (default : F32).bits)), (.c (.flt .f32 (default : F32).bits))])), (3, (.box [(.c (.flt .f32 a0.W.bits)), (.c (.flt .f32 a0.X.bits)), (.c (.flt .f32 a0.Y.bits)), (.c (.flt .f32 (default : F32).bits))]))]⟩) (ob := True ∧ True ∧ True ∧ True ∧ True) (by kernel_rfl) ⟨trivial, trivial, trivial, trivial, trivial⟩ ?_
  refine thenQ_normal ?_
  refine AW.seq ?_
  refine AW.regionA [] [2, 3] [2, 3] (s' := ⟨[(2, (.v (.one (.ptr 2 0)))), (3, (.v (.one (.ptr 3 0))))], [(2, (.box [(.c (.flt .f32 (default : F32).bits)), (.c (.flt .f32 (default : F32).bits)), (.c (.flt .f32 (default : F32).bits)), (.c (.flt .f32 (default : F32).bits))])), (3, (.box [(.c (.flt .f32 a0.W.bits)), (.c (.flt .f32 a0.X.bits)), (.c (.flt .f32 a0.Y.bits)), (.c (.flt .f32 a0.Z.bits))]))]⟩) (ob := True ∧ True ∧ True ∧ True ∧ True) (by kernel_rfl) ⟨trivial, trivial, trivial, trivial, trivial⟩ ?_
  refine thenQ_normal ?_
  refine AW.seq ?_
  refine AW.regionA [] [2] [2] (s' := ⟨[(2, (.v (.one (.ptr 2 0))))], [(2, (.box [(.c (.flt .f32 a0.W.bits)), (.c (.flt .f32 a0.X.bits)), (.c (.flt .f32 a0.Y.bits)), (.c (.flt .f32 a0.Z.bits))]))]⟩) (ob := True ∧ True ∧ True) (by kernel_rfl) ⟨trivial, trivial, trivial⟩ ?_
  refine thenQ_normal ?_
  refine AW.ret ?_
  replace h := some_eq h
  subst h
  exact ⟨.inr rfl, retOK_of [(.agg [(.c (.flt .f32 a0.W.bits)), (.c (.flt .f32 a0.X.bits)), (.c (.flt .f32 a0.Y.bits)), (.c (.flt .f32 a0.Z.bits))])] (by kernel_rfl) ⟨⟨⟨rfl, trivial⟩, ⟨rfl, trivial⟩, ⟨rfl, trivial⟩, ⟨rfl, trivial⟩, trivial⟩, trivial⟩ (of_decide_eq_true (by kernel_rfl))⟩

/-! laws.toTurnS -/
def laws_toTurnS_l1 (K : Nat) (a0 : (List Turn)) : Nat → Int → (List Turn) → Option ((List Turn))
  | 0, _, _ => none
  | k + 1, x4, x5 => ite2 ((decide (x4 < (a0.length : Int)))) (chk (0 ≤ x4 ∧ x4 < (a0.length : Int)) ((laws_toTurn K (a0.getD x4.toNat default)).bind fun v8 => chk (0 ≤ x4 ∧ x4 < (x5.length : Int)) (laws_toTurnS_l1 K a0 k (IntKind.i64.wrap (x4 + (1 : Int))) (x5.set x4.toNat v8)))) (some x5)

def laws_toTurnS (K : Nat) (a0 : (List Turn)) : Option ((List Turn)) :=
  chk (0 ≤ (a0.length : Int) ∧ (a0.length : Int).toNat * 16 ≤ 140737488355328) (laws_toTurnS_l1 K a0 K (0 : Int) (List.replicate (a0.length : Int).toNat (default : Turn)))

theorem ok_laws_toTurnS (K : Nat) (a0 : (List Turn)) (o : ((List Turn))) (h : laws_toTurnS K a0 = some o) : CallOK Try.prog 89 [.one (sl 4 cs_Turn a0)] [.one (sl 4 cs_Turn o)] := by
  refine callOK_of_AW Try.func89 rfl (by kernel_rfl) (Nat.le_of_ble_eq_true (by kernel_rfl)) ?_
  intro w0
  unfold laws_toTurnS at h
  refine AW.seq ?_
  refine AW.regionA [] [0] [] (s' := ⟨[(0, (.v (.one (.c (sl 4 cs_Turn a0)))))], []⟩) (ob := True ∧ True) (by kernel_rfl) ⟨trivial, trivial⟩ ?_
  refine thenQ_normal ?_
  refine AW.seq ?_
  obtain ⟨c1, h⟩ := chk_some h
  refine AW.regionA [.no, .no, .objA 1 (List.replicate (a0.length : Int).toNat (default : Turn)).length (gl cs_Turn (List.replicate (a0.length : Int).toNat (default : Turn)))] [0, 3] [1] (s' := ⟨[(0, (.v (.one (.c (sl 4 cs_Turn a0))))), (3, (.v (.one (.arr 1))))], [(1, (.arr false (List.replicate (a0.length : Int).toNat (default : Turn)).length 4 (gl cs_Turn (List.replicate (a0.length : Int).toNat (default : Turn)))))]⟩) (ob := True ∧ True ∧ (0 ≤ (a0.length : Int) ∧ (a0.length : Int) = (a0.length : Int) ∧ (((List.replicate (a0.length : Int).toNat (default : Turn)).length : Nat) : Int) = (a0.length : Int) ∧ (List.replicate (a0.length : Int).toNat (default : Turn)).length * 16 ≤ 140737488355328 ∧ ∀ i, i < (List.replicate (a0.length : Int).toNat (default : Turn)).length → zeroRow (fun _ => none) [(.c (.flt .f32 (default : F32).bits)), (.c (.flt .f32 (default : F32).bits)), (.c (.flt .f32 (default : F32).bits)), (.c (.flt .f32 (default : F32).bits))] (gl cs_Turn (List.replicate (a0.length : Int).toNat (default : Turn)) i)) ∧ True ∧ True) (by kernel_rfl) ⟨trivial, trivial, ⟨c1.1, rfl, len_rep c1.1, rep_bytes c1.2, fun i hi => gl_zero (cs := cs_Turn) (zs := [(.c (.flt .f32 (default : F32).bits)), (.c (.flt .f32 (default : F32).bits)), (.c (.flt .f32 (default : F32).bits)), (.c (.flt .f32 (default : F32).bits))]) (n := (a0.length : Int).toNat) ⟨⟨rfl, trivial⟩, ⟨rfl, trivial⟩, ⟨rfl, trivial⟩, ⟨rfl, trivial⟩, trivial⟩ i (rep_lt hi)⟩, trivial, trivial⟩ ?_
  refine thenQ_normal ?_
  refine AW.seq ?_
  refine AW.seq ?_
  refine AW.regionA [] [0, 3, 4] [1] (s' := ⟨[(0, (.v (.one (.c (sl 4 cs_Turn a0))))), (3, (.v (.one (.arr 1)))), (4, (.v (.one (.c (.int .i64 (0 : Int))))))], [(1, (.arr false (List.replicate (a0.length : Int).toNat (default : Turn)).length 4 (gl cs_Turn (List.replicate (a0.length : Int).toNat (default : Turn)))))]⟩) (ob := True ∧ True) (by kernel_rfl) ⟨trivial, trivial⟩ ?_
  refine thenQ_normal ?_
  refine AW.block ?_
  refine AW.loopQ (σ := Nat × Int × (List Turn)) (fun p => ⟨[(0, (.v (.one (.c (sl 4 cs_Turn a0))))), (3, (.v (.one (.arr 1)))), (4, (.v (.one (.c (.int .i64 p.2.1)))))], [(1, (.arr false p.2.2.length 4 (gl cs_Turn p.2.2)))]⟩) (fun p => laws_toTurnS_l1 K a0 p.1 p.2.1 p.2.2 = some o) (fun p => p.1) (K, (0 : Int), (List.replicate (a0.length : Int).toNat (default : Turn))) h ?_
  clear h
  rintro ⟨k, x4, x5⟩ h
  replace h : laws_toTurnS_l1 K a0 k x4 x5 = some o := h
  show AW _ _ (⟨[(0, (.v (.one (.c (sl 4 cs_Turn a0))))), (3, (.v (.one (.arr 1)))), (4, (.v (.one (.c (.int .i64 x4)))))], [(1, (.arr false x5.length 4 (gl cs_Turn x5)))]⟩ : St) _
  obtain _ | k := k
  · rw [laws_toTurnS_l1] at h; cases h
  rw [laws_toTurnS_l1] at h
  refine AW.seq ?_
  refine AW.seq ?_
  refine AW.regionA [] [0, 3, 4, 11] [1] (s' := ⟨[(0, (.v (.one (.c (sl 4 cs_Turn a0))))), (3, (.v (.one (.arr 1)))), (4, (.v (.one (.c (.int .i64 x4))))), (11, (.v (.one (.c (.bool (decide (x4 < (a0.length : Int))))))))], [(1, (.arr false x5.length 4 (gl cs_Turn x5)))]⟩) (ob := True ∧ True ∧ True ∧ True ∧ True) (by kernel_rfl) ⟨trivial, trivial, trivial, trivial, trivial⟩ ?_
  refine thenQ_normal ?_
  rcases ite2_cases h with ⟨b6, h⟩ | ⟨b6, h⟩
  · refine AW.cond_t rfl b6 ?_
    refine AW.skip ?_
    refine thenQ_normal ?_
    refine AW.seq ?_
    refine AW.block ?_
    obtain ⟨c7, h⟩ := chk_some h
    obtain ⟨v8, e9, h⟩ := bind_some h
    obtain ⟨c10, h⟩ := chk_some h
    refine AW.regionA [.no, .no, .no, .no, .no, .no, .call [.agg (cs_Turn (a0.getD x4.toNat default))] [.agg (cs_Turn v8)] [[.view, .view, .view, .view]], .no, .set (x5.set x4.toNat v8).length (gl cs_Turn (x5.set x4.toNat v8)) ((List.range 4).map fun j => (cs_Turn v8).getD (0 + j) .nilptr)] [0, 3, 4] [1] (s' := ⟨[(0, (.v (.one (.c (sl 4 cs_Turn a0))))), (3, (.v (.one (.arr 1)))), (4, (.v (.one (.c (.int .i64 x4)))))], [(1, (.arr false (x5.set x4.toNat v8).length 4 (gl cs_Turn (x5.set x4.toNat v8))))]⟩) (ob := True ∧ True ∧ True ∧ True ∧ (0 ≤ x4 ∧ x4 < (a0.length : Int)) ∧ True ∧ ((((((.flt .f32 ((a0.getD x4.toNat default).W).bits) : C) = (.flt .f32 ((a0.getD x4.toNat default).W).bits)) ∧ (((.flt .f32 ((a0.getD x4.toNat default).X).bits) : C) = (.flt .f32 ((a0.getD x4.toNat default).X).bits)) ∧ (((.flt .f32 ((a0.getD x4.toNat default).Y).bits) : C) = (.flt .f32 ((a0.getD x4.toNat default).Y).bits)) ∧ (((.flt .f32 ((a0.getD x4.toNat default).Z).bits) : C) = (.flt .f32 ((a0.getD x4.toNat default).Z).bits)) ∧ True) ∧ True) ∧ CallOK Try.prog 130 [.agg (cs_Turn (a0.getD x4.toNat default))] [.agg (cs_Turn v8)]) ∧ (0 ≤ x4 ∧ x4 < (x5.length : Int)) ∧ ((x5.set x4.toNat v8).length = x5.length ∧ SetOb x5.length 4 x4.toNat 0 4 (gl cs_Turn x5) (gl cs_Turn (x5.set x4.toNat v8)) ∧ ((List.range 4).map fun j => (cs_Turn v8).getD (0 + j) .nilptr) = ((List.range 4).map fun j => gl cs_Turn (x5.set x4.toNat v8) x4.toNat (0 + j)) ∧ ((((.flt .f32 v8.W.bits) : C) = (.flt .f32 v8.W.bits) ∧ True) ∧ (((.flt .f32 v8.X.bits) : C) = (.flt .f32 v8.X.bits) ∧ True) ∧ (((.flt .f32 v8.Y.bits) : C) = (.flt .f32 v8.Y.bits) ∧ True) ∧ (((.flt .f32 v8.Z.bits) : C) = (.flt .f32 v8.Z.bits) ∧ True) ∧ True) ∧ (false = true → ∀ j, j < 4 → isSeq (gl cs_Turn x5 x4.toNat (0 + j)) = false ∧ isSeq (gl cs_Turn (x5.set x4.toNat v8) x4.toNat (0 + j)) = false)) ∧ True) (by kernel_rfl) ⟨trivial, trivial, trivial, trivial, c7, trivial, ⟨⟨⟨rfl, rfl, rfl, rfl, trivial⟩, trivial⟩, ok_laws_toTurn K (a0.getD x4.toNat default) v8 e9⟩, c10, ⟨List.length_set, gl_set, (gl_atp (lt_of_bound c10)).symm, ⟨⟨rfl, trivial⟩, ⟨rfl, trivial⟩, ⟨rfl, trivial⟩, ⟨rfl, trivial⟩, trivial⟩, (fun h => nomatch h)⟩, trivial⟩ ?_
    refine blockQ_normal ?_
    refine thenQ_normal ?_
    refine AW.regionA [] [0, 3, 4] [1] (s' := ⟨[(0, (.v (.one (.c (sl 4 cs_Turn a0))))), (3, (.v (.one (.arr 1)))), (4, (.v (.one (.c (.int .i64 (IntKind.i64.wrap (x4 + (1 : Int))))))))], [(1, (.arr false (x5.set x4.toNat v8).length 4 (gl cs_Turn (x5.set x4.toNat v8))))]⟩) (ob := True ∧ True ∧ True ∧ True) (by kernel_rfl) ⟨trivial, trivial, trivial, trivial⟩ ?_
    exact loopQ_normal (k, (IntKind.i64.wrap (x4 + (1 : Int))), (x5.set x4.toNat v8)) h (Nat.lt_succ_self k) (Sub.keep [0, 3, 4] [1] (by kernel_rfl) (by kernel_rfl))
  · refine AW.cond_f rfl b6 ?_
    refine AW.exit ?_
    refine thenQ_exit ?_
    refine loopQ_exit ?_
    refine blockQ_exit ?_
    refine thenQ_normal ?_
    refine AW.seq ?_
    refine AW.regionA [] [2] [1] (s' := ⟨[(2, (.v (.one (.arr 1))))], [(1, (.arr false x5.length 4 (gl cs_Turn x5)))]⟩) (ob := True ∧ True ∧ True) (by kernel_rfl) ⟨trivial, trivial, trivial⟩ ?_
    refine thenQ_normal ?_
    refine AW.ret ?_
    replace h := some_eq h
    subst h
    exact ⟨.inr rfl, retOK_of [(.one (.arr 1))] (by kernel_rfl) ⟨rfl, trivial⟩ (of_decide_eq_true (by kernel_rfl))⟩

/-! laws.toPose -/
def laws_toPose (K : Nat) (a0 : Pose) : Option (Pose) :=
  (laws_toVector K a0.Root).bind fun v1 => (laws_toTurnS K a0.Turns).bind fun v3 => some (Pose.mk v1 v3)

theorem ok_laws_toPose (K : Nat) (a0 : Pose) (o : (Pose)) (h : laws_toPose K a0 = some o) : CallOK Try.prog 34 [.agg (cs_Pose a0)] [.agg (cs_Pose o)] := by
  refine callOK_of_AW Try.func34 rfl (by kernel_rfl) (Nat.le_of_ble_eq_true (by kernel_rfl)) ?_
  intro w0
  unfold laws_toPose at h
  refine AW.seq ?_
  refine AW.regionA [.box 1, .box 2] [1, 2] [1, 2] (s' := ⟨[(1, (.v (.one (.ptr 1 0)))), (2, (.v (.one (.ptr 2 0))))], [(1, (.box [(.c (.flt .f32 a0.Root.X.bits)), (.c (.flt .f32 a0.Root.Y.bits)), (.c (.flt .f32 a0.Root.Z.bits)), (.c (sl 4 cs_Turn a0.Turns))])), (2, (.box [(.c (.flt .f32 (default : F32).bits)), (.c (.flt .f32 (default : F32).bits)), (.c (.flt .f32 (default : F32).bits)), .nils]))]⟩) (ob := True ∧ True ∧ True) (by kernel_rfl) ⟨trivial, trivial, trivial⟩ ?_
  refine thenQ_normal ?_
  refine AW.seq ?_
  refine AW.regionA [.box 3] [1, 2, 3] [1, 2, 3] (s' := ⟨[(1, (.v (.one (.ptr 1 0)))), (2, (.v (.one (.ptr 2 0)))), (3, (.v (.one (.ptr 3 0))))], [(1, (.box [(.c (.flt .f32 a0.Root.X.bits)), (.c (.flt .f32 a0.Root.Y.bits)), (.c (.flt .f32 a0.Root.Z.bits)), (.c (sl 4 cs_Turn a0.Turns))])), (2, (.box [(.c (.flt .f32 (default : F32).bits)), (.c (.flt .f32 (default : F32).bits)), (.c (.flt .f32 (default : F32).bits)), .nils])), (3, (.box [(.c (.flt .f32 (default : F32).bits)), (.c (.flt .f32 (default : F32).bits)), (.c (.flt .f32 (default : F32).bits)), .nils]))]⟩) (ob := True ∧ True) (by kernel_rfl) ⟨trivial, trivial⟩ ?_
  refine thenQ_normal ?_
  refine AW.seq ?_
  obtain ⟨v1, e2, h⟩ := bind_some h
  refine AW.regionA [.no, .no, .call [.agg (cs_Vector a0.Root)] [.agg (cs_Vector v1)] [[.view, .view, .view]]] [1, 2, 3] [1, 2, 3] (s' := ⟨[(1, (.v (.one (.ptr 1 0)))), (2, (.v (.one (.ptr 2 0)))), (3, (.v (.one (.ptr 3 0))))], [(1, (.box [(.c (.flt .f32 a0.Root.X.bits)), (.c (.flt .f32 a0.Root.Y.bits)), (.c (.flt .f32 a0.Root.Z.bits)), (.c (sl 4 cs_Turn a0.Turns))])), (2, (.box [(.c (.flt .f32 (default : F32).bits)), (.c (.flt .f32 (default : F32).bits)), (.c (.flt .f32 (default : F32).bits)), .nils])), (3, (.box [(.c (.flt .f32 v1.X.bits)), (.c (.flt .f32 v1.Y.bits)), (.c (.flt .f32 v1.Z.bits)), .nils]))]⟩) (ob := True ∧ True ∧ ((((((.flt .f32 a0.Root.X.bits) : C) = (.flt .f32 a0.Root.X.bits)) ∧ (((.flt .f32 a0.Root.Y.bits) : C) = (.flt .f32 a0.Root.Y.bits)) ∧ (((.flt .f32 a0.Root.Z.bits) : C) = (.flt .f32 a0.Root.Z.bits)) ∧ True) ∧ True) ∧ CallOK Try.prog 88 [.agg (cs_Vector a0.Root)] [.agg (cs_Vector v1)]) ∧ True ∧ True ∧ True) (by kernel_rfl) ⟨trivial, trivial, ⟨⟨⟨rfl, rfl, rfl, trivial⟩, trivial⟩, ok_laws_toVector K a0.Root v1 e2⟩, trivial, trivial, trivial⟩ ?_
  refine thenQ_normal ?_
  refine AW.seq ?_
  obtain ⟨v3, e4, h⟩ := bind_some h
  refine AW.regionA [.no, .no, .call [.one (sl 4 cs_Turn a0.Turns)] [.one (sl 4 cs_Turn v3)] [[.lst 4]]] [2, 3] [2, 3, 4] (s' := ⟨[(2, (.v (.one (.ptr 2 0)))), (3, (.v (.one (.ptr 3 0))))], [(2, (.box [(.c (.flt .f32 (default : F32).bits)), (.c (.flt .f32 (default : F32).bits)), (.c (.flt .f32 (default : F32).bits)), .nils])), (3, (.box [(.c (.flt .f32 v1.X.bits)), (.c (.flt .f32 v1.Y.bits)), (.c (.flt .f32 v1.Z.bits)), (.lst 4 v3.length 4 (gl cs_Turn v3))])), (4, (.lst v3.length 4 (gl cs_Turn v3)))]⟩) (ob := True ∧ True ∧ (((((sl 4 cs_Turn a0.Turns) : C) = (sl 4 cs_Turn a0.Turns)) ∧ True) ∧ CallOK Try.prog 89 [.one (sl 4 cs_Turn a0.Turns)] [.one (sl 4 cs_Turn v3)]) ∧ True ∧ True ∧ True) (by kernel_rfl) ⟨trivial, trivial, ⟨⟨rfl, trivial⟩, ok_laws_toTurnS K a0.Turns v3 e4⟩, trivial, trivial, trivial⟩ ?_
  refine thenQ_normal ?_
  refine AW.seq ?_
  refine AW.regionA [] [2] [2, 4] (s' := ⟨[(2, (.v (.one (.ptr 2 0))))], [(2, (.box [(.c (.flt .f32 v1.X.bits)), (.c (.flt .f32 v1.Y.bits)), (.c (.flt .f32 v1.Z.bits)), (.lst 4 v3.length 4 (gl cs_Turn v3))])), (4, (.lst v3.length 4 (gl cs_Turn v3)))]⟩) (ob := True ∧ True ∧ True) (by kernel_rfl) ⟨trivial, trivial, trivial⟩ ?_
  refine thenQ_normal ?_
  refine AW.ret ?_
  replace h := some_eq h
  subst h
  exact ⟨.inr rfl, retOK_of [(.agg [(.c (.flt .f32 v1.X.bits)), (.c (.flt .f32 v1.Y.bits)), (.c (.flt .f32 v1.Z.bits)), (.lst 4 v3.length 4 (gl cs_Turn v3))])] (by kernel_rfl) ⟨⟨⟨rfl, trivial⟩, ⟨rfl, trivial⟩, ⟨rfl, trivial⟩, rfl, trivial⟩, trivial⟩ (of_decide_eq_true (by kernel_rfl))⟩

/-! laws.toPoseS -/
def laws_toPoseS_l1 (K : Nat) (a0 : (List Pose)) : Nat → Int → (List Pose) → Option ((List Pose))
  | 0, _, _ => none
  | k + 1, x4, x5 => ite2 ((decide (x4 < (a0.length : Int)))) (chk (0 ≤ x4 ∧ x4 < (a0.length : Int)) ((laws_toPose K (a0.getD x4.toNat default)).bind fun v8 => chk (0 ≤ x4 ∧ x4 < (x5.length : Int)) (laws_toPoseS_l1 K a0 k (IntKind.i64.wrap (x4 + (1 : Int))) (x5.set x4.toNat v8)))) (some x5)

def laws_toPoseS (K : Nat) (a0 : (List Pose)) : Option ((List Pose)) :=
  chk (0 ≤ (a0.length : Int) ∧ (a0.length : Int).toNat * 40 ≤ 140737488355328) (laws_toPoseS_l1 K a0 K (0 : Int) (List.replicate (a0.length : Int).toNat (default : Pose)))

theorem ok_laws_toPoseS (K : Nat) (a0 : (List Pose)) (o : ((List Pose))) (h : laws_toPoseS K a0 = some o) : CallOK Try.prog 75 [.one (sl 4 cs_Pose a0)] [.one (sl 4 cs_Pose o)] := by
  refine callOK_of_AW Try.func75 rfl (by kernel_rfl) (Nat.le_of_ble_eq_true (by kernel_rfl)) ?_
  intro w0
  unfold laws_toPoseS at h
  refine AW.seq ?_
  refine AW.regionA [] [0] [] (s' := ⟨[(0, (.v (.one (.c (sl 4 cs_Pose a0)))))], []⟩) (ob := True ∧ True) (by kernel_rfl) ⟨trivial, trivial⟩ ?_
  refine thenQ_normal ?_
  refine AW.seq ?_
  obtain ⟨c1, h⟩ := chk_some h
  refine AW.regionA [.no, .no, .objA 1 (List.replicate (a0.length : Int).toNat (default : Pose)).length (gl cs_Pose (List.replicate (a0.length : Int).toNat (default : Pose)))] [0, 3] [1] (s' := ⟨[(0, (.v (.one (.c (sl 4 cs_Pose a0))))), (3, (.v (.one (.arr 1))))], [(1, (.arr false (List.replicate (a0.length : Int).toNat (default : Pose)).length 4 (gl cs_Pose (List.replicate (a0.length : Int).toNat (default : Pose)))))]⟩) (ob := True ∧ True ∧ (0 ≤ (a0.length : Int) ∧ (a0.length : Int) = (a0.length : Int) ∧ (((List.replicate (a0.length : Int).toNat (default : Pose)).length : Nat) : Int) = (a0.length : Int) ∧ (List.replicate (a0.length : Int).toNat (default : Pose)).length * 40 ≤ 140737488355328 ∧ ∀ i, i < (List.replicate (a0.length : Int).toNat (default : Pose)).length → zeroRow (fun _ => none) [(.c (.flt .f32 (default : F32).bits)), (.c (.flt .f32 (default : F32).bits)), (.c (.flt .f32 (default : F32).bits)), .nils] (gl cs_Pose (List.replicate (a0.length : Int).toNat (default : Pose)) i)) ∧ True ∧ True) (by kernel_rfl) ⟨trivial, trivial, ⟨c1.1, rfl, len_rep c1.1, rep_bytes c1.2, fun i hi => gl_zero (cs := cs_Pose) (zs := [(.c (.flt .f32 (default : F32).bits)), (.c (.flt .f32 (default : F32).bits)), (.c (.flt .f32 (default : F32).bits)), .nils]) (n := (a0.length : Int).toNat) ⟨⟨rfl, trivial⟩, ⟨rfl, trivial⟩, ⟨rfl, trivial⟩, rfl, trivial⟩ i (rep_lt hi)⟩, trivial, trivial⟩ ?_
  refine thenQ_normal ?_
  refine AW.seq ?_
  refine AW.seq ?_
  refine AW.regionA [] [0, 3, 4] [1] (s' := ⟨[(0, (.v (.one (.c (sl 4 cs_Pose a0))))), (3, (.v (.one (.arr 1)))), (4, (.v (.one (.c (.int .i64 (0 : Int))))))], [(1, (.arr false (List.replicate (a0.length : Int).toNat (default : Pose)).length 4 (gl cs_Pose (List.replicate (a0.length : Int).toNat (default : Pose)))))]⟩) (ob := True ∧ True) (by kernel_rfl) ⟨trivial, trivial⟩ ?_
  refine thenQ_normal ?_
  refine AW.block ?_
  refine AW.loopQ (σ := Nat × Int × (List Pose)) (fun p => ⟨[(0, (.v (.one (.c (sl 4 cs_Pose a0))))), (3, (.v (.one (.arr 1)))), (4, (.v (.one (.c (.int .i64 p.2.1)))))], [(1, (.arr false p.2.2.length 4 (gl cs_Pose p.2.2)))]⟩) (fun p => laws_toPoseS_l1 K a0 p.1 p.2.1 p.2.2 = some o) (fun p => p.1) (K, (0 : Int), (List.replicate (a0.length : Int).toNat (default : Pose))) h ?_
  clear h
  rintro ⟨k, x4, x5⟩ h
  replace h : laws_toPoseS_l1 K a0 k x4 x5 = some o := h
  show AW _ _ (⟨[(0, (.v (.one (.c (sl 4 cs_Pose a0))))), (3, (.v (.one (.arr 1)))), (4, (.v (.one (.c (.int .i64 x4)))))], [(1, (.arr false x5.length 4 (gl cs_Pose x5)))]⟩ : St) _
  obtain _ | k := k
  · rw [laws_toPoseS_l1] at h; cases h
  rw [laws_toPoseS_l1] at h
  refine AW.seq ?_
  refine AW.seq ?_
  refine AW.regionA [] [0, 3, 4, 11] [1] (s' := ⟨[(0, (.v (.one (.c (sl 4 cs_Pose a0))))), (3, (.v (.one (.arr 1)))), (4, (.v (.one (.c (.int .i64 x4))))), (11, (.v (.one (.c (.bool (decide (x4 < (a0.length : Int))))))))], [(1, (.arr false x5.length 4 (gl cs_Pose x5)))]⟩) (ob := True ∧ True ∧ True ∧ True ∧ True) (by kernel_rfl) ⟨trivial, trivial, trivial, trivial, trivial⟩ ?_
  refine thenQ_normal ?_
  rcases ite2_cases h with ⟨b6, h⟩ | ⟨b6, h⟩
  · refine AW.cond_t rfl b6 ?_
    refine AW.skip ?_
    refine thenQ_normal ?_
    refine AW.seq ?_
    refine AW.block ?_
    obtain ⟨c7, h⟩ := chk_some h
    obtain ⟨v8, e9, h⟩ := bind_some h
    obtain ⟨c10, h⟩ := chk_some h
    refine AW.regionA [.no, .no, .no, .no, .no, .no, .call [.agg (cs_Pose (a0.getD x4.toNat default))] [.agg (cs_Pose v8)] [[.view, .view, .view, .lst 4]], .no, .set (x5.set x4.toNat v8).length (gl cs_Pose (x5.set x4.toNat v8)) ((List.range 4).map fun j => (cs_Pose v8).getD (0 + j) .nilptr)] [0, 3, 4] [1] (s' := ⟨[(0, (.v (.one (.c (sl 4 cs_Pose a0))))), (3, (.v (.one (.arr 1)))), (4, (.v (.one (.c (.int .i64 x4)))))], [(1, (.arr false (x5.set x4.toNat v8).length 4 (gl cs_Pose (x5.set x4.toNat v8))))]⟩) (ob := True ∧ True ∧ True ∧ True ∧ (0 ≤ x4 ∧ x4 < (a0.length : Int)) ∧ True ∧ ((((((.flt .f32 (((a0.getD x4.toNat default).Root).X).bits) : C) = (.flt .f32 (((a0.getD x4.toNat default).Root).X).bits)) ∧ (((.flt .f32 (((a0.getD x4.toNat default).Root).Y).bits) : C) = (.flt .f32 (((a0.getD x4.toNat default).Root).Y).bits)) ∧ (((.flt .f32 (((a0.getD x4.toNat default).Root).Z).bits) : C) = (.flt .f32 (((a0.getD x4.toNat default).Root).Z).bits)) ∧ (((sl 4 cs_Turn ((a0.getD x4.toNat default).Turns)) : C) = (sl 4 cs_Turn ((a0.getD x4.toNat default).Turns))) ∧ True) ∧ True) ∧ CallOK Try.prog 34 [.agg (cs_Pose (a0.getD x4.toNat default))] [.agg (cs_Pose v8)]) ∧ (0 ≤ x4 ∧ x4 < (x5.length : Int)) ∧ ((x5.set x4.toNat v8).length = x5.length ∧ SetOb x5.length 4 x4.toNat 0 4 (gl cs_Pose x5) (gl cs_Pose (x5.set x4.toNat v8)) ∧ ((List.range 4).map fun j => (cs_Pose v8).getD (0 + j) .nilptr) = ((List.range 4).map fun j => gl cs_Pose (x5.set x4.toNat v8) x4.toNat (0 + j)) ∧ ((((.flt .f32 v8.Root.X.bits) : C) = (.flt .f32 v8.Root.X.bits) ∧ True) ∧ (((.flt .f32 v8.Root.Y.bits) : C) = (.flt .f32 v8.Root.Y.bits) ∧ True) ∧ (((.flt .f32 v8.Root.Z.bits) : C) = (.flt .f32 v8.Root.Z.bits) ∧ True) ∧ (((sl 4 cs_Turn v8.Turns) : C) = (sl 4 cs_Turn v8.Turns)) ∧ True) ∧ (false = true → ∀ j, j < 4 → isSeq (gl cs_Pose x5 x4.toNat (0 + j)) = false ∧ isSeq (gl cs_Pose (x5.set x4.toNat v8) x4.toNat (0 + j)) = false)) ∧ True) (by kernel_rfl) ⟨trivial, trivial, trivial, trivial, c7, trivial, ⟨⟨⟨rfl, rfl, rfl, rfl, trivial⟩, trivial⟩, ok_laws_toPose K (a0.getD x4.toNat default) v8 e9⟩, c10, ⟨List.length_set, gl_set, (gl_atp (lt_of_bound c10)).symm, ⟨⟨rfl, trivial⟩, ⟨rfl, trivial⟩, ⟨rfl, trivial⟩, rfl, trivial⟩, (fun h => nomatch h)⟩, trivial⟩ ?_
    refine blockQ_normal ?_
    refine thenQ_normal ?_
    refine AW.regionA [] [0, 3, 4] [1] (s' := ⟨[(0, (.v (.one (.c (sl 4 cs_Pose a0))))), (3, (.v (.one (.arr 1)))), (4, (.v (.one (.c (.int .i64 (IntKind.i64.wrap (x4 + (1 : Int))))))))], [(1, (.arr false (x5.set x4.toNat v8).length 4 (gl cs_Pose (x5.set x4.toNat v8))))]⟩) (ob := True ∧ True ∧ True ∧ True) (by kernel_rfl) ⟨trivial, trivial, trivial, trivial⟩ ?_
    exact loopQ_normal (k, (IntKind.i64.wrap (x4 + (1 : Int))), (x5.set x4.toNat v8)) h (Nat.lt_succ_self k) (Sub.keep [0, 3, 4] [1] (by kernel_rfl) (by kernel_rfl))
  · refine AW.cond_f rfl b6 ?_
    refine AW.exit ?_
    refine thenQ_exit ?_
    refine loopQ_exit ?_
    refine blockQ_exit ?_
    refine thenQ_normal ?_
    refine AW.seq ?_
    refine AW.regionA [] [2] [1] (s' := ⟨[(2, (.v (.one (.arr 1))))], [(1, (.arr false x5.length 4 (gl cs_Pose x5)))]⟩) (ob := True ∧ True ∧ True) (by kernel_rfl) ⟨trivial, trivial, trivial⟩ ?_
    refine thenQ_normal ?_
    refine AW.ret ?_
    replace h := some_eq h
    subst h
    exact ⟨.inr rfl, retOK_of [(.one (.arr 1))] (by kernel_rfl) ⟨rfl, trivial⟩ (of_decide_eq_true (by kernel_rfl))⟩

/-! laws.toRecording -/
def laws_toRecording (K : Nat) (a0 : Recording) : Option (Recording) :=
  (laws_toPoseS K a0.Frames).bind fun v1 => some (Recording.mk a0.Bones v1)

theorem ok_laws_toRecording (K : Nat) (a0 : Recording) (o : (Recording)) (h : laws_toRecording K a0 = some o) : CallOK Try.prog 23 [.agg (cs_Recording a0)] [.agg (cs_Recording o)] := by
  refine callOK_of_AW Try.func23 rfl (by kernel_rfl) (Nat.le_of_ble_eq_true (by kernel_rfl)) ?_
  intro w0
  unfold laws_toRecording at h
  refine AW.seq ?_
  refine AW.regionA [.box 1, .box 2] [1, 2] [1, 2] (s' := ⟨[(1, (.v (.one (.ptr 1 0)))), (2, (.v (.one (.ptr 2 0))))], [(1, (.box [(.c (.int .i64 a0.Bones)), (.c (sl 4 cs_Pose a0.Frames))])), (2, (.box [(.c (.int .i64 (0 : Int))), .nils]))]⟩) (ob := True ∧ True ∧ True) (by kernel_rfl) ⟨trivial, trivial, trivial⟩ ?_
  refine thenQ_normal ?_
  refine AW.seq ?_
  refine AW.regionA [.box 3] [1, 2, 3] [1, 2, 3] (s' := ⟨[(1, (.v (.one (.ptr 1 0)))), (2, (.v (.one (.ptr 2 0)))), (3, (.v (.one (.ptr 3 0))))], [(1, (.box [(.c (.int .i64 a0.Bones)), (.c (sl 4 cs_Pose a0.Frames))])), (2, (.box [(.c (.int .i64 (0 : Int))), .nils])), (3, (.box [(.c (.int .i64 (0 : Int))), .nils]))]⟩) (ob := True ∧ True) (by kernel_rfl) ⟨trivial, trivial⟩ ?_
  refine thenQ_normal ?_
  refine AW.seq ?_
  refine AW.regionA [] [1, 2, 3] [1, 2, 3] (s' := ⟨[(1, (.v (.one (.ptr 1 0)))), (2, (.v (.one (.ptr 2 0)))), (3, (.v (.one (.ptr 3 0))))], [(1, (.box [(.c (.int .i64 a0.Bones)), (.c (sl 4 cs_Pose a0.Frames))])), (2, (.box [(.c (.int .i64 (0 : Int))), .nils])), (3, (.box [(.c (.int .i64 a0.Bones)), .nils]))]⟩) (ob := True ∧ True ∧ True ∧ True ∧ True) (by kernel_rfl) ⟨trivial, trivial, trivial, trivial, trivial⟩ ?_
  refine thenQ_normal ?_
  refine AW.seq ?_
  obtain ⟨v1, e2, h⟩ := bind_some h
  refine AW.regionA [.no, .no, .call [.one (sl 4 cs_Pose a0.Frames)] [.one (sl 4 cs_Pose v1)] [[.lst 4]]] [2, 3] [2, 3, 4] (s' := ⟨[(2, (.v (.one (.ptr 2 0)))), (3, (.v (.one (.ptr 3 0))))], [(2, (.box [(.c (.int .i64 (0 : Int))), .nils])), (3, (.box [(.c (.int .i64 a0.Bones)), (.lst 4 v1.length 4 (gl cs_Pose v1))])), (4, (.lst v1.length 4 (gl cs_Pose v1)))]⟩) (ob := True ∧ True ∧ (((((sl 4 cs_Pose a0.Frames) : C) = (sl 4 cs_Pose a0.Frames)) ∧ True) ∧ CallOK Try.prog 75 [.one (sl 4 cs_Pose a0.Frames)] [.one (sl 4 cs_Pose v1)]) ∧ True ∧ True ∧ True) (by kernel_rfl) ⟨trivial, trivial, ⟨⟨rfl, trivial⟩, ok_laws_toPoseS K a0.Frames v1 e2⟩, trivial, trivial, trivial⟩ ?_
  refine thenQ_normal ?_
  refine AW.seq ?_
  refine AW.regionA [] [2] [2, 4] (s' := ⟨[(2, (.v (.one (.ptr 2 0))))], [(2, (.box [(.c (.int .i64 a0.Bones)), (.lst 4 v1.length 4 (gl cs_Pose v1))])), (4, (.lst v1.length 4 (gl cs_Pose v1)))]⟩) (ob := True ∧ True ∧ True) (by kernel_rfl) ⟨trivial, trivial, trivial⟩ ?_
  refine thenQ_normal ?_
  refine AW.ret ?_
  replace h := some_eq h
  subst h
  exact ⟨.inr rfl, retOK_of [(.agg [(.c (.int .i64 a0.Bones)), (.lst 4 v1.length 4 (gl cs_Pose v1))])] (by kernel_rfl) ⟨⟨⟨rfl, trivial⟩, rfl, trivial⟩, trivial⟩ (of_decide_eq_true (by kernel_rfl))⟩

/-! spec.l00In -/
def spec_l00In (_K : Nat) (a0 : Int) (a1 : Int) (a2 : Int) : Option (Bool) :=
  (ite2 ((decide (a0 ≥ a1))) (some (decide (a0 ≤ a2))) (some false)).bind fun j2 => some j2

theorem ok_spec_l00In (K : Nat) (a0 : Int) (a1 : Int) (a2 : Int) (o : (Bool)) (h : spec_l00In K a0 a1 a2 = some o) : CallOK Try.prog 64 [.one (.int .i64 a0), .one (.int .i64 a1), .one (.int .i64 a2)] [.one (.bool o)] := by
  refine callOK_of_AW Try.func64 rfl (by kernel_rfl) (Nat.le_of_ble_eq_true (by kernel_rfl)) ?_
  intro w0
  unfold spec_l00In at h
  refine AW.seq ?_
  refine AW.regionA [] [0, 1, 2] [] (s' := ⟨[(0, (.v (.one (.c (.int .i64 a0))))), (1, (.v (.one (.c (.int .i64 a1))))), (2, (.v (.one (.c (.int .i64 a2)))))], []⟩) (ob := True ∧ True) (by kernel_rfl) ⟨trivial, trivial⟩ ?_
  refine thenQ_normal ?_
  refine AW.seq ?_
  obtain ⟨j2, e3, h⟩ := bind_some h
  refine AW.join1 (s2 := ⟨[(6, (.v (.one (.c (.bool j2)))))], []⟩) ?_ ?_
  · rcases ite2_cases e3 with ⟨b1, e3⟩ | ⟨b1, e3⟩
    · replace e3 := some_eq e3
      subst e3
      exact AW.regionA [.no, .no, .no, .dec true] [6] [] (s' := ⟨[(6, (.v (.one (.c (.bool (decide (a0 ≤ a2)))))))], []⟩) (ob := True ∧ True ∧ True ∧ (True ∧ (decide (a0 ≥ a1)) = true) ∧ True ∧ True ∧ True ∧ True ∧ True ∧ True) (by kernel_rfl) ⟨trivial, trivial, trivial, ⟨trivial, b1⟩, trivial, trivial, trivial, trivial, trivial, trivial⟩ ⟨rfl, rfl⟩
    · replace e3 := some_eq e3
      subst e3
      exact AW.regionA [.no, .no, .no, .dec false] [6] [] (s' := ⟨[(6, (.v (.one (.c (.bool false)))))], []⟩) (ob := True ∧ True ∧ True ∧ (True ∧ (decide (a0 ≥ a1)) = false) ∧ True ∧ True ∧ True ∧ True ∧ True ∧ True) (by kernel_rfl) ⟨trivial, trivial, trivial, ⟨trivial, b1⟩, trivial, trivial, trivial, trivial, trivial, trivial⟩ ⟨rfl, rfl⟩
  refine thenQ_normal ?_
  refine AW.ret ?_
  replace h := some_eq h
  subst h
  exact ⟨.inr rfl, retOK_of [(.one (.c (.bool j2)))] (by kernel_rfl) ⟨⟨rfl, trivial⟩, trivial⟩ (of_decide_eq_true (by kernel_rfl))⟩

/-! spec.l06Count -/
def spec_l06Count (K : Nat) (a0 : Int) : Option (Bool) :=
  (spec_l00In K a0 (1 : Int) (12 : Int)).bind fun v1 => some v1

theorem ok_spec_l06Count (K : Nat) (a0 : Int) (o : (Bool)) (h : spec_l06Count K a0 = some o) : CallOK Try.prog 122 [.one (.int .i64 a0)] [.one (.bool o)] := by
  refine callOK_of_AW Try.func122 rfl (by kernel_rfl) (Nat.le_of_ble_eq_true (by kernel_rfl)) ?_
  intro w0
  unfold spec_l06Count at h
  refine AW.seq ?_
  refine AW.regionA [] [0] [] (s' := ⟨[(0, (.v (.one (.c (.int .i64 a0)))))], []⟩) (ob := True ∧ True) (by kernel_rfl) ⟨trivial, trivial⟩ ?_
  refine thenQ_normal ?_
  refine AW.seq ?_
  obtain ⟨v1, e2, h⟩ := bind_some h
  refine AW.regionA [.no, .call [.one (.int .i64 a0), .one (.int .i64 (1 : Int)), .one (.int .i64 (12 : Int))] [.one (.bool v1)] [[.view]]] [2] [] (s' := ⟨[(2, (.v (.one (.c (.bool v1)))))], []⟩) (ob := True ∧ (((((.int .i64 a0) : C) = (.int .i64 a0)) ∧ (((.int .i64 (1 : Int)) : C) = (.int .i64 (1 : Int))) ∧ (((.int .i64 (12 : Int)) : C) = (.int .i64 (12 : Int))) ∧ True) ∧ CallOK Try.prog 64 [.one (.int .i64 a0), .one (.int .i64 (1 : Int)), .one (.int .i64 (12 : Int))] [.one (.bool v1)]) ∧ True ∧ True) (by kernel_rfl) ⟨trivial, ⟨⟨rfl, rfl, rfl, trivial⟩, ok_spec_l00In K a0 (1 : Int) (12 : Int) v1 e2⟩, trivial, trivial⟩ ?_
  refine thenQ_normal ?_
  refine AW.ret ?_
  replace h := some_eq h
  subst h
  exact ⟨.inr rfl, retOK_of [(.one (.c (.bool v1)))] (by kernel_rfl) ⟨⟨rfl, trivial⟩, trivial⟩ (of_decide_eq_true (by kernel_rfl))⟩

/-! spec.l10Is -/
def spec_l10Is_l1 (K : Nat) (a0 : Recording) : Nat → Int → Option (Bool)
  | 0, _ => none
  | k + 1, x8 => ite2 ((decide (x8 < (a0.Frames.length : Int)))) (chk (0 ≤ x8 ∧ x8 < (a0.Frames.length : Int)) (ite2 (((((a0.Frames.getD x8.toNat default).Turns).length : Int) != a0.Bones)) (some false) (spec_l10Is_l1 K a0 k (IntKind.i64.wrap (x8 + (1 : Int)))))) (some true)

def spec_l10Is (K : Nat) (a0 : Recording) : Option (Bool) :=
  (spec_l06Count K a0.Bones).bind fun v1 => (ite2 ((!v1)) (some true) (some (decide ((a0.Frames.length : Int) > (64 : Int))))).bind fun j4 => ite2 (j4) (some false) (spec_l10Is_l1 K a0 K (0 : Int))

theorem ok_spec_l10Is (K : Nat) (a0 : Recording) (o : (Bool)) (h : spec_l10Is K a0 = some o) : CallOK Try.prog 73 [.one (pl 2 cs_Recording a0)] [.one (.bool o)] := by
  refine callOK_of_AW Try.func73 rfl (by kernel_rfl) (Nat.le_of_ble_eq_true (by kernel_rfl)) ?_
  intro w0
  unfold spec_l10Is at h
  refine AW.seq ?_
  refine AW.regionA [] [0] [] (s' := ⟨[(0, (.v (.one (.c (pl 2 cs_Recording a0)))))], []⟩) (ob := True ∧ True) (by kernel_rfl) ⟨trivial, trivial⟩ ?_
  refine thenQ_normal ?_
  refine AW.seq ?_
  refine AW.seq ?_
  obtain ⟨v1, e2, h⟩ := bind_some h
  obtain ⟨j4, e5, h⟩ := bind_some h
  refine AW.join1 (s2 := ⟨[(0, (.v (.one (.c (pl 2 cs_Recording a0))))), (17, (.v (.one (.c (.bool j4)))))], []⟩) ?_ ?_
  · rcases ite2_cases e5 with ⟨b3, e5⟩ | ⟨b3, e5⟩
    · replace e5 := some_eq e5
      subst e5
      exact AW.regionA [.no, .no, .no, .no, .call [.one (.int .i64 a0.Bones)] [.one (.bool v1)] [[.view]], .no, .dec true] [0, 17] [] (s' := ⟨[(0, (.v (.one (.c (pl 2 cs_Recording a0))))), (17, (.v (.one (.c (.bool true)))))], []⟩) (ob := True ∧ True ∧ True ∧ True ∧ (((((.int .i64 a0.Bones) : C) = (.int .i64 a0.Bones)) ∧ True) ∧ CallOK Try.prog 122 [.one (.int .i64 a0.Bones)] [.one (.bool v1)]) ∧ True ∧ (True ∧ (!v1) = true) ∧ True ∧ True ∧ True ∧ True ∧ True ∧ True ∧ True ∧ True) (by kernel_rfl) ⟨trivial, trivial, trivial, trivial, ⟨⟨rfl, trivial⟩, ok_spec_l06Count K a0.Bones v1 e2⟩, trivial, ⟨trivial, b3⟩, trivial, trivial, trivial, trivial, trivial, trivial, trivial, trivial⟩ ⟨rfl, rfl⟩
    · replace e5 := some_eq e5
      subst e5
      exact AW.regionA [.no, .no, .no, .no, .call [.one (.int .i64 a0.Bones)] [.one (.bool v1)] [[.view]], .no, .dec false] [0, 17] [] (s' := ⟨[(0, (.v (.one (.c (pl 2 cs_Recording a0))))), (17, (.v (.one (.c (.bool (decide ((a0.Frames.length : Int) > (64 : Int))))))))], []⟩) (ob := True ∧ True ∧ True ∧ True ∧ (((((.int .i64 a0.Bones) : C) = (.int .i64 a0.Bones)) ∧ True) ∧ CallOK Try.prog 122 [.one (.int .i64 a0.Bones)] [.one (.bool v1)]) ∧ True ∧ (True ∧ (!v1) = false) ∧ True ∧ True ∧ True ∧ True ∧ True ∧ True ∧ True ∧ True) (by kernel_rfl) ⟨trivial, trivial, trivial, trivial, ⟨⟨rfl, trivial⟩, ok_spec_l06Count K a0.Bones v1 e2⟩, trivial, ⟨trivial, b3⟩, trivial, trivial, trivial, trivial, trivial, trivial, trivial, trivial⟩ ⟨rfl, rfl⟩
  refine thenQ_normal ?_
  rcases ite2_cases h with ⟨b6, h⟩ | ⟨b6, h⟩
  · refine AW.cond_t rfl b6 ?_
    refine AW.seq ?_
    refine AW.regionA [] [2] [] (s' := ⟨[(2, (.v (.one (.c (.bool false)))))], []⟩) (ob := True ∧ True) (by kernel_rfl) ⟨trivial, trivial⟩ ?_
    refine thenQ_normal ?_
    refine AW.ret ?_
    refine thenQ_ret ?_
    replace h := some_eq h
    subst h
    exact ⟨.inr rfl, retOK_of [(.one (.c (.bool false)))] (by kernel_rfl) ⟨⟨rfl, trivial⟩, trivial⟩ (of_decide_eq_true (by kernel_rfl))⟩
  · refine AW.cond_f rfl b6 ?_
    refine AW.skip ?_
    refine thenQ_normal ?_
    refine AW.seq ?_
    refine AW.seq ?_
    refine AW.regionA [] [0, 3] [] (s' := ⟨[(0, (.v (.one (.c (pl 2 cs_Recording a0))))), (3, (.v (.one (.c (.int .i64 (0 : Int))))))], []⟩) (ob := True ∧ True) (by kernel_rfl) ⟨trivial, trivial⟩ ?_
    refine thenQ_normal ?_
    refine AW.block ?_
    refine AW.loopQ (σ := Nat × Int) (fun p => ⟨[(0, (.v (.one (.c (pl 2 cs_Recording a0))))), (3, (.v (.one (.c (.int .i64 p.2)))))], []⟩) (fun p => spec_l10Is_l1 K a0 p.1 p.2 = some o) (fun p => p.1) (K, (0 : Int)) h ?_
    clear h
    rintro ⟨k, x8⟩ h
    replace h : spec_l10Is_l1 K a0 k x8 = some o := h
    show AW _ _ (⟨[(0, (.v (.one (.c (pl 2 cs_Recording a0))))), (3, (.v (.one (.c (.int .i64 x8)))))], []⟩ : St) _
    obtain _ | k := k
    · rw [spec_l10Is_l1] at h; cases h
    rw [spec_l10Is_l1] at h
    refine AW.seq ?_
    refine AW.seq ?_
    refine AW.regionA [] [0, 3, 24] [] (s' := ⟨[(0, (.v (.one (.c (pl 2 cs_Recording a0))))), (3, (.v (.one (.c (.int .i64 x8))))), (24, (.v (.one (.c (.bool (decide (x8 < (a0.Frames.length : Int))))))))], []⟩) (ob := True ∧ True ∧ True ∧ True ∧ True ∧ True ∧ True ∧ True) (by kernel_rfl) ⟨trivial, trivial, trivial, trivial, trivial, trivial, trivial, trivial⟩ ?_
    refine thenQ_normal ?_
    rcases ite2_cases h with ⟨b9, h⟩ | ⟨b9, h⟩
    · refine AW.cond_t rfl b9 ?_
      refine AW.skip ?_
      refine thenQ_normal ?_
      refine AW.seq ?_
      refine AW.block ?_
      refine AW.seq ?_
      obtain ⟨c10, h⟩ := chk_some h
      refine AW.drawnA (by kernel_rfl) 14 [] [0, 3, 40] [] (s' := ⟨[(0, (.v (.one (.c (pl 2 cs_Recording a0))))), (3, (.v (.one (.c (.int .i64 x8))))), (40, (.v (.one (.c (.bool ((((a0.Frames.getD x8.toNat default).Turns).length : Int) != a0.Bones))))))], []⟩) (ob := (True ∧ True ∧ True ∧ True ∧ True ∧ (0 ≤ x8 ∧ x8 < (a0.Frames.length : Int)) ∧ True ∧ True ∧ True ∧ True ∧ True ∧ True ∧ True ∧ True ∧ True) ∧ (True)) (by kernel_rfl) ⟨⟨trivial, trivial, trivial, trivial, trivial, c10, trivial, trivial, trivial, trivial, trivial, trivial, trivial, trivial, trivial⟩, trivial⟩ ?_
      refine thenQ_normal ?_
      rcases ite2_cases h with ⟨b11, h⟩ | ⟨b11, h⟩
      · refine AW.cond_t rfl b11 ?_
        refine AW.seq ?_
        refine AW.regionA [] [2] [] (s' := ⟨[(2, (.v (.one (.c (.bool false)))))], []⟩) (ob := True ∧ True) (by kernel_rfl) ⟨trivial, trivial⟩ ?_
        refine thenQ_normal ?_
        refine AW.ret ?_
        refine blockQ_ret ?_
        refine thenQ_ret ?_
        refine loopQ_ret ?_
        refine blockQ_ret ?_
        refine thenQ_ret ?_
        replace h := some_eq h
        subst h
        exact ⟨.inr rfl, retOK_of [(.one (.c (.bool false)))] (by kernel_rfl) ⟨⟨rfl, trivial⟩, trivial⟩ (of_decide_eq_true (by kernel_rfl))⟩
      · refine AW.cond_f rfl b11 ?_
        refine AW.skip ?_
        refine blockQ_normal ?_
        refine thenQ_normal ?_
        refine AW.regionA [] [0, 3] [] (s' := ⟨[(0, (.v (.one (.c (pl 2 cs_Recording a0))))), (3, (.v (.one (.c (.int .i64 (IntKind.i64.wrap (x8 + (1 : Int))))))))], []⟩) (ob := True ∧ True ∧ True ∧ True) (by kernel_rfl) ⟨trivial, trivial, trivial, trivial⟩ ?_
        exact loopQ_normal (k, (IntKind.i64.wrap (x8 + (1 : Int)))) h (Nat.lt_succ_self k) (Sub.keep [0, 3] [] (by kernel_rfl) (by kernel_rfl))
    · refine AW.cond_f rfl b9 ?_
      refine AW.exit ?_
      refine thenQ_exit ?_
      refine loopQ_exit ?_
      refine blockQ_exit ?_
      refine thenQ_normal ?_
      refine AW.seq ?_
      refine AW.regionA [] [2] [] (s' := ⟨[(2, (.v (.one (.c (.bool true)))))], []⟩) (ob := True ∧ True) (by kernel_rfl) ⟨trivial, trivial⟩ ?_
      refine thenQ_normal ?_
      refine AW.ret ?_
      replace h := some_eq h
      subst h
      exact ⟨.inr rfl, retOK_of [(.one (.c (.bool true)))] (by kernel_rfl) ⟨⟨rfl, trivial⟩, trivial⟩ (of_decide_eq_true (by kernel_rfl))⟩

/-! spec.l02Inverse -/
def spec_l02Inverse (_K : Nat) (a0 : Turn) : Option (Turn) :=
  some (Turn.mk a0.W (a0.X.neg) (a0.Y.neg) (a0.Z.neg))

theorem ok_spec_l02Inverse (K : Nat) (a0 : Turn) (o : (Turn)) (h : spec_l02Inverse K a0 = some o) : CallOK Try.prog 161 [.agg (cs_Turn a0)] [.agg (cs_Turn o)] := by
  refine callOK_of_AW Try.func161 rfl (by kernel_rfl) (Nat.le_of_ble_eq_true (by kernel_rfl)) ?_
  intro w0
  unfold spec_l02Inverse at h
  refine AW.seq ?_
  refine AW.regionA [.box 1, .box 2] [1, 2] [1, 2] (s' := ⟨[(1, (.v (.one (.ptr 1 0)))), (2, (.v (.one (.ptr 2 0))))], [(1, (.box [(.c (.flt .f32 a0.W.bits)), (.c (.flt .f32 a0.X.bits)), (.c (.flt .f32 a0.Y.bits)), (.c (.flt .f32 a0.Z.bits))])), (2, (.box [(.c (.flt .f32 (default : F32).bits)), (.c (.flt .f32 (default : F32).bits)), (.c (.flt .f32 (default : F32).bits)), (.c (.flt .f32 (default : F32).bits))]))]⟩) (ob := True ∧ True ∧ True) (by kernel_rfl) ⟨trivial, trivial, trivial⟩ ?_
  refine thenQ_normal ?_
  refine AW.seq ?_
  refine AW.regionA [] [2] [2] (s' := ⟨[(2, (.v (.one (.ptr 2 0))))], [(2, (.box [(.c (.flt .f32 a0.W.bits)), (.c (.flt .f32 (a0.X.neg).bits)), (.c (.flt .f32 (a0.Y.neg).bits)), (.c (.flt .f32 (a0.Z.neg).bits))]))]⟩) (ob := True ∧ True ∧ True ∧ True ∧ True ∧ True ∧ True ∧ True ∧ True ∧ True ∧ True ∧ True ∧ True ∧ True) (by kernel_rfl) ⟨trivial, trivial, trivial, trivial, trivial, trivial, trivial, trivial, trivial, trivial, trivial, trivial, trivial, trivial⟩ ?_
  refine thenQ_normal ?_
  refine AW.ret ?_
  replace h := some_eq h
  subst h
  exact ⟨.inr rfl, retOK_of [(.agg [(.c (.flt .f32 a0.W.bits)), (.c (.flt .f32 (a0.X.neg).bits)), (.c (.flt .f32 (a0.Y.neg).bits)), (.c (.flt .f32 (a0.Z.neg).bits))])] (by kernel_rfl) ⟨⟨⟨rfl, trivial⟩, ⟨rfl, trivial⟩, ⟨rfl, trivial⟩, ⟨rfl, trivial⟩, trivial⟩, trivial⟩ (of_decide_eq_true (by kernel_rfl))⟩

/-! spec.l02Mul -/
def spec_l02Mul (_K : Nat) (a0 : Turn) (a1 : Turn) : Option (Turn) :=
  some (Turn.mk ((((a0.W.mul a1.W).sub (a0.X.mul a1.X)).sub (a0.Y.mul a1.Y)).sub (a0.Z.mul a1.Z)) ((((a0.W.mul a1.X).add (a0.X.mul a1.W)).add (a0.Y.mul a1.Z)).sub (a0.Z.mul a1.Y)) ((((a0.W.mul a1.Y).sub (a0.X.mul a1.Z)).add (a0.Y.mul a1.W)).add (a0.Z.mul a1.X)) ((((a0.W.mul a1.Z).add (a0.X.mul a1.Y)).sub (a0.Y.mul a1.X)).add (a0.Z.mul a1.W)))

theorem ok_spec_l02Mul (K : Nat) (a0 : Turn) (a1 : Turn) (o : (Turn)) (h : spec_l02Mul K a0 a1 = some o) : CallOK Try.prog 160 [.agg (cs_Turn a0), .agg (cs_Turn a1)] [.agg (cs_Turn o)] := by
  refine callOK_of_AW Try.func160 rfl (by kernel_rfl) (Nat.le_of_ble_eq_true (by kernel_rfl)) ?_
  intro w0
  unfold spec_l02Mul at h
  refine AW.seq ?_
  refine AW.regionA [.box 1, .box 2, .box 3] [2, 3, 4] [1, 2, 3] (s' := ⟨[(2, (.v (.one (.ptr 1 0)))), (3, (.v (.one (.ptr 2 0)))), (4, (.v (.one (.ptr 3 0))))], [(1, (.box [(.c (.flt .f32 a0.W.bits)), (.c (.flt .f32 a0.X.bits)), (.c (.flt .f32 a0.Y.bits)), (.c (.flt .f32 a0.Z.bits))])), (2, (.box [(.c (.flt .f32 a1.W.bits)), (.c (.flt .f32 a1.X.bits)), (.c (.flt .f32 a1.Y.bits)), (.c (.flt .f32 a1.Z.bits))])), (3, (.box [(.c (.flt .f32 (default : F32).bits)), (.c (.flt .f32 (default : F32).bits)), (.c (.flt .f32 (default : F32).bits)), (.c (.flt .f32 (default : F32).bits))]))]⟩) (ob := True ∧ True ∧ True ∧ True) (by kernel_rfl) ⟨trivial, trivial, trivial, trivial⟩ ?_
  refine thenQ_normal ?_
  refine AW.seq ?_
  refine AW.regionA [] [2, 3, 4, 5] [1, 2, 3] (s' := ⟨[(2, (.v (.one (.ptr 1 0)))), (3, (.v (.one (.ptr 2 0)))), (4, (.v (.one (.ptr 3 0)))), (5, (.v (.one (.c (.flt .f32 ((a0.W.mul a1.W).sub (a0.X.mul a1.X)).bits)))))], [(1, (.box [(.c (.flt .f32 a0.W.bits)), (.c (.flt .f32 a0.X.bits)), (.c (.flt .f32 a0.Y.bits)), (.c (.flt .f32 a0.Z.bits))])), (2, (.box [(.c (.flt .f32 a1.W.bits)), (.c (.flt .f32 a1.X.bits)), (.c (.flt .f32 a1.Y.bits)), (.c (.flt .f32 a1.Z.bits))])), (3, (.box [(.c (.flt .f32 (default : F32).bits)), (.c (.flt .f32 (default : F32).bits)), (.c (.flt .f32 (default : F32).bits)), (.c (.flt .f32 (default : F32).bits))]))]⟩) (ob := True ∧ True ∧ True ∧ True ∧ True ∧ True ∧ True ∧ True ∧ True ∧ True ∧ True ∧ True ∧ True) (by kernel_rfl) ⟨trivial, trivial, trivial, trivial, trivial, trivial, trivial, trivial, trivial, trivial, trivial, trivial, trivial⟩ ?_
  refine thenQ_normal ?_
  refine AW.seq ?_
  refine AW.regionA [] [2, 3, 4, 5] [1, 2, 3] (s' := ⟨[(2, (.v (.one (.ptr 1 0)))), (3, (.v (.one (.ptr 2 0)))), (4, (.v (.one (.ptr 3 0)))), (5, (.v (.one (.c (.flt .f32 (((a0.W.mul a1.W).sub (a0.X.mul a1.X)).sub (a0.Y.mul a1.Y)).bits)))))], [(1, (.box [(.c (.flt .f32 a0.W.bits)), (.c (.flt .f32 a0.X.bits)), (.c (.flt .f32 a0.Y.bits)), (.c (.flt .f32 a0.Z.bits))])), (2, (.box [(.c (.flt .f32 a1.W.bits)), (.c (.flt .f32 a1.X.bits)), (.c (.flt .f32 a1.Y.bits)), (.c (.flt .f32 a1.Z.bits))])), (3, (.box [(.c (.flt .f32 (default : F32).bits)), (.c (.flt .f32 (default : F32).bits)), (.c (.flt .f32 (default : F32).bits)), (.c (.flt .f32 (default : F32).bits))]))]⟩) (ob := True ∧ True ∧ True ∧ True ∧ True ∧ True ∧ True ∧ True ∧ True) (by kernel_rfl) ⟨trivial, trivial, trivial, trivial, trivial, trivial, trivial, trivial, trivial⟩ ?_
  refine thenQ_normal ?_
  refine AW.seq ?_
  refine AW.regionA [] [2, 3, 4, 5] [1, 2, 3] (s' := ⟨[(2, (.v (.one (.ptr 1 0)))), (3, (.v (.one (.ptr 2 0)))), (4, (.v (.one (.ptr 3 0)))), (5, (.v (.one (.c (.flt .f32 ((((a0.W.mul a1.W).sub (a0.X.mul a1.X)).sub (a0.Y.mul a1.Y)).sub (a0.Z.mul a1.Z)).bits)))))], [(1, (.box [(.c (.flt .f32 a0.W.bits)), (.c (.flt .f32 a0.X.bits)), (.c (.flt .f32 a0.Y.bits)), (.c (.flt .f32 a0.Z.bits))])), (2, (.box [(.c (.flt .f32 a1.W.bits)), (.c (.flt .f32 a1.X.bits)), (.c (.flt .f32 a1.Y.bits)), (.c (.flt .f32 a1.Z.bits))])), (3, (.box [(.c (.flt .f32 (default : F32).bits)), (.c (.flt .f32 (default : F32).bits)), (.c (.flt .f32 (default : F32).bits)), (.c (.flt .f32 (default : F32).bits))]))]⟩) (ob := True ∧ True ∧ True ∧ True ∧ True ∧ True ∧ True ∧ True ∧ True) (by kernel_rfl) ⟨trivial, trivial, trivial, trivial, trivial, trivial, trivial, trivial, trivial⟩ ?_
  refine thenQ_normal ?_
  refine AW.seq ?_
  refine AW.regionA [] [2, 3, 4, 5, 6] [1, 2, 3] (s' := ⟨[(2, (.v (.one (.ptr 1 0)))), (3, (.v (.one (.ptr 2 0)))), (4, (.v (.one (.ptr 3 0)))), (5, (.v (.one (.c (.flt .f32 ((((a0.W.mul a1.W).sub (a0.X.mul a1.X)).sub (a0.Y.mul a1.Y)).sub (a0.Z.mul a1.Z)).bits))))), (6, (.v (.one (.c (.flt .f32 ((a0.W.mul a1.X).add (a0.X.mul a1.W)).bits)))))], [(1, (.box [(.c (.flt .f32 a0.W.bits)), (.c (.flt .f32 a0.X.bits)), (.c (.flt .f32 a0.Y.bits)), (.c (.flt .f32 a0.Z.bits))])), (2, (.box [(.c (.flt .f32 a1.W.bits)), (.c (.flt .f32 a1.X.bits)), (.c (.flt .f32 a1.Y.bits)), (.c (.flt .f32 a1.Z.bits))])), (3, (.box [(.c (.flt .f32 (default : F32).bits)), (.c (.flt .f32 (default : F32).bits)), (.c (.flt .f32 (default : F32).bits)), (.c (.flt .f32 (default : F32).bits))]))]⟩) (ob := True ∧ True ∧ True ∧ True ∧ True ∧ True ∧ True ∧ True ∧ True ∧ True ∧ True ∧ True ∧ True) (by kernel_rfl) ⟨trivial, trivial, trivial, trivial, trivial, trivial, trivial, trivial, trivial, trivial, trivial, trivial, trivial⟩ ?_
  refine thenQ_normal ?_
  refine AW.seq ?_
  refine AW.regionA [] [2, 3, 4, 5, 6] [1, 2, 3] (s' := ⟨[(2, (.v (.one (.ptr 1 0)))), (3, (.v (.one (.ptr 2 0)))), (4, (.v (.one (.ptr 3 0)))), (5, (.v (.one (.c (.flt .f32 ((((a0.W.mul a1.W).sub (a0.X.mul a1.X)).sub (a0.Y.mul a1.Y)).sub (a0.Z.mul a1.Z)).bits))))), (6, (.v (.one (.c (.flt .f32 (((a0.W.mul a1.X).add (a0.X.mul a1.W)).add (a0.Y.mul a1.Z)).bits)))))], [(1, (.box [(.c (.flt .f32 a0.W.bits)), (.c (.flt .f32 a0.X.bits)), (.c (.flt .f32 a0.Y.bits)), (.c (.flt .f32 a0.Z.bits))])), (2, (.box [(.c (.flt .f32 a1.W.bits)), (.c (.flt .f32 a1.X.bits)), (.c (.flt .f32 a1.Y.bits)), (.c (.flt .f32 a1.Z.bits))])), (3, (.box [(.c (.flt .f32 (default : F32).bits)), (.c (.flt .f32 (default : F32).bits)), (.c (.flt .f32 (default : F32).bits)), (.c (.flt .f32 (default : F32).bits))]))]⟩) (ob := True ∧ True ∧ True ∧ True ∧ True ∧ True ∧ True ∧ True ∧ True) (by kernel_rfl) ⟨trivial, trivial, trivial, trivial, trivial, trivial, trivial, trivial, trivial⟩ ?_
  refine thenQ_normal ?_
  refine AW.seq ?_
  refine AW.regionA [] [2, 3, 4, 5, 6] [1, 2, 3] (s' := ⟨[(2, (.v (.one (.ptr 1 0)))), (3, (.v (.one (.ptr 2 0)))), (4, (.v (.one (.ptr 3 0)))), (5, (.v (.one (.c (.flt .f32 ((((a0.W.mul a1.W).sub (a0.X.mul a1.X)).sub (a0.Y.mul a1.Y)).sub (a0.Z.mul a1.Z)).bits))))), (6, (.v (.one (.c (.flt .f32 ((((a0.W.mul a1.X).add (a0.X.mul a1.W)).add (a0.Y.mul a1.Z)).sub (a0.Z.mul a1.Y)).bits)))))], [(1, (.box [(.c (.flt .f32 a0.W.bits)), (.c (.flt .f32 a0.X.bits)), (.c (.flt .f32 a0.Y.bits)), (.c (.flt .f32 a0.Z.bits))])), (2, (.box [(.c (.flt .f32 a1.W.bits)), (.c (.flt .f32 a1.X.bits)), (.c (.flt .f32 a1.Y.bits)), (.c (.flt .f32 a1.Z.bits))])), (3, (.box [(.c (.flt .f32 (default : F32).bits)), (.c (.flt .f32 (default : F32).bits)), (.c (.flt .f32 (default : F32).bits)), (.c (.flt .f32 (default : F32).bits))]))]⟩) (ob := True ∧ True ∧ True ∧ True ∧ True ∧ True ∧ True ∧ True ∧ True) (by kernel_rfl) ⟨trivial, trivial, trivial, trivial, trivial, trivial, trivial, trivial, trivial⟩ ?_
  refine thenQ_normal ?_
  refine AW.seq ?_
  refine AW.regionA [] [2, 3, 4, 5, 6, 7] [1, 2, 3] (s' := ⟨[(2, (.v (.one (.ptr 1 0)))), (3, (.v (.one (.ptr 2 0)))), (4, (.v (.one (.ptr 3 0)))), (5, (.v (.one (.c (.flt .f32 ((((a0.W.mul a1.W).sub (a0.X.mul a1.X)).sub (a0.Y.mul a1.Y)).sub (a0.Z.mul a1.Z)).bits))))), (6, (.v (.one (.c (.flt .f32 ((((a0.W.mul a1.X).add (a0.X.mul a1.W)).add (a0.Y.mul a1.Z)).sub (a0.Z.mul a1.Y)).bits))))), (7, (.v (.one (.c (.flt .f32 ((a0.W.mul a1.Y).sub (a0.X.mul a1.Z)).bits)))))], [(1, (.box [(.c (.flt .f32 a0.W.bits)), (.c (.flt .f32 a0.X.bits)), (.c (.flt .f32 a0.Y.bits)), (.c (.flt .f32 a0.Z.bits))])), (2, (.box [(.c (.flt .f32 a1.W.bits)), (.c (.flt .f32 a1.X.bits)), (.c (.flt .f32 a1.Y.bits)), (.c (.flt .f32 a1.Z.bits))])), (3, (.box [(.c (.flt .f32 (default : F32).bits)), (.c (.flt .f32 (default : F32).bits)), (.c (.flt .f32 (default : F32).bits)), (.c (.flt .f32 (default : F32).bits))]))]⟩) (ob := True ∧ True ∧ True ∧ True ∧ True ∧ True ∧ True ∧ True ∧ True ∧ True ∧ True ∧ True ∧ True) (by kernel_rfl) ⟨trivial, trivial, trivial, trivial, trivial, trivial, trivial, trivial, trivial, trivial, trivial, trivial, trivial⟩ ?_
  refine thenQ_normal ?_
  refine AW.seq ?_
  refine AW.regionA [] [2, 3, 4, 5, 6, 7] [1, 2, 3] (s' := ⟨[(2, (.v (.one (.ptr 1 0)))), (3, (.v (.one (.ptr 2 0)))), (4, (.v (.one (.ptr 3 0)))), (5, (.v (.one (.c (.flt .f32 ((((a0.W.mul a1.W).sub (a0.X.mul a1.X)).sub (a0.Y.mul a1.Y)).sub (a0.Z.mul a1.Z)).bits))))), (6, (.v (.one (.c (.flt .f32 ((((a0.W.mul a1.X).add (a0.X.mul a1.W)).add (a0.Y.mul a1.Z)).sub (a0.Z.mul a1.Y)).bits))))), (7, (.v (.one (.c (.flt .f32 (((a0.W.mul a1.Y).sub (a0.X.mul a1.Z)).add (a0.Y.mul a1.W)).bits)))))], [(1, (.box [(.c (.flt .f32 a0.W.bits)), (.c (.flt .f32 a0.X.bits)), (.c (.flt .f32 a0.Y.bits)), (.c (.flt .f32 a0.Z.bits))])), (2, (.box [(.c (.flt .f32 a1.W.bits)), (.c (.flt .f32 a1.X.bits)), (.c (.flt .f32 a1.Y.bits)), (.c (.flt .f32 a1.Z.bits))])), (3, (.box [(.c (.flt .f32 (default : F32).bits)), (.c (.flt .f32 (default : F32).bits)), (.c (.flt .f32 (default : F32).bits)), (.c (.flt .f32 (default : F32).bits))]))]⟩) (ob := True ∧ True ∧ True ∧ True ∧ True ∧ True ∧ True ∧ True ∧ True) (by kernel_rfl) ⟨trivial, trivial, trivial, trivial, trivial, trivial, trivial, trivial, trivial⟩ ?_
  refine thenQ_normal ?_
  refine AW.seq ?_
  refine AW.regionA [] [2, 3, 4, 5, 6, 7] [1, 2, 3] (s' := ⟨[(2, (.v (.one (.ptr 1 0)))), (3, (.v (.one (.ptr 2 0)))), (4, (.v (.one (.ptr 3 0)))), (5, (.v (.one (.c (.flt .f32 ((((a0.W.mul a1.W).sub (a0.X.mul a1.X)).sub (a0.Y.mul a1.Y)).sub (a0.Z.mul a1.Z)).bits))))), (6, (.v (.one (.c (.flt .f32 ((((a0.W.mul a1.X).add (a0.X.mul a1.W)).add (a0.Y.mul a1.Z)).sub (a0.Z.mul a1.Y)).bits))))), (7, (.v (.one (.c (.flt .f32 ((((a0.W.mul a1.Y).sub (a0.X.mul a1.Z)).add (a0.Y.mul a1.W)).add (a0.Z.mul a1.X)).bits)))))], [(1, (.box [(.c (.flt .f32 a0.W.bits)), (.c (.flt .f32 a0.X.bits)), (.c (.flt .f32 a0.Y.bits)), (.c (.flt .f32 a0.Z.bits))])), (2, (.box [(.c (.flt .f32 a1.W.bits)), (.c (.flt .f32 a1.X.bits)), (.c (.flt .f32 a1.Y.bits)), (.c (.flt .f32 a1.Z.bits))])), (3, (.box [(.c (.flt .f32 (default : F32).bits)), (.c (.flt .f32 (default : F32).bits)), (.c (.flt .f32 (default : F32).bits)), (.c (.flt .f32 (default : F32).bits))]))]⟩) (ob := True ∧ True ∧ True ∧ True ∧ True ∧ True ∧ True ∧ True ∧ True) (by kernel_rfl) ⟨trivial, trivial, trivial, trivial, trivial, trivial, trivial, trivial, trivial⟩ ?_
  refine thenQ_normal ?_
  refine AW.seq ?_
  refine AW.regionA [] [2, 3, 4, 5, 6, 7, 8] [1, 2, 3] (s' := ⟨[(2, (.v (.one (.ptr 1 0)))), (3, (.v (.one (.ptr 2 0)))), (4, (.v (.one (.ptr 3 0)))), (5, (.v (.one (.c (.flt .f32 ((((a0.W.mul a1.W).sub (a0.X.mul a1.X)).sub (a0.Y.mul a1.Y)).sub (a0.Z.mul a1.Z)).bits))))), (6, (.v (.one (.c (.flt .f32 ((((a0.W.mul a1.X).add (a0.X.mul a1.W)).add (a0.Y.mul a1.Z)).sub (a0.Z.mul a1.Y)).bits))))), (7, (.v (.one (.c (.flt .f32 ((((a0.W.mul a1.Y).sub (a0.X.mul a1.Z)).add (a0.Y.mul a1.W)).add (a0.Z.mul a1.X)).bits))))), (8, (.v (.one (.c (.flt .f32 ((a0.W.mul a1.Z).add (a0.X.mul a1.Y)).bits)))))], [(1, (.box [(.c (.flt .f32 a0.W.bits)), (.c (.flt .f32 a0.X.bits)), (.c (.flt .f32 a0.Y.bits)), (.c (.flt .f32 a0.Z.bits))])), (2, (.box [(.c (.flt .f32 a1.W.bits)), (.c (.flt .f32 a1.X.bits)), (.c (.flt .f32 a1.Y.bits)), (.c (.flt .f32 a1.Z.bits))])), (3, (.box [(.c (.flt .f32 (default : F32).bits)), (.c (.flt .f32 (default : F32).bits)), (.c (.flt .f32 (default : F32).bits)), (.c (.flt .f32 (default : F32).bits))]))]⟩) (ob := True ∧ True ∧ True ∧ True ∧ True ∧ True ∧ True ∧ True ∧ True ∧ True ∧ True ∧ True ∧ True) (by kernel_rfl) ⟨trivial, trivial, trivial, trivial, trivial, trivial, trivial, trivial, trivial, trivial, trivial, trivial, trivial⟩ ?_
  refine thenQ_normal ?_
  refine AW.seq ?_
  refine AW.regionA [] [2, 3, 4, 5, 6, 7, 8] [1, 2, 3] (s' := ⟨[(2, (.v (.one (.ptr 1 0)))), (3, (.v (.one (.ptr 2 0)))), (4, (.v (.one (.ptr 3 0)))), (5, (.v (.one (.c (.flt .f32 ((((a0.W.mul a1.W).sub (a0.X.mul a1.X)).sub (a0.Y.mul a1.Y)).sub (a0.Z.mul a1.Z)).bits))))), (6, (.v (.one (.c (.flt .f32 ((((a0.W.mul a1.X).add (a0.X.mul a1.W)).add (a0.Y.mul a1.Z)).sub (a0.Z.mul a1.Y)).bits))))), (7, (.v (.one (.c (.flt .f32 ((((a0.W.mul a1.Y).sub (a0.X.mul a1.Z)).add (a0.Y.mul a1.W)).add (a0.Z.mul a1.X)).bits))))), (8, (.v (.one (.c (.flt .f32 (((a0.W.mul a1.Z).add (a0.X.mul a1.Y)).sub (a0.Y.mul a1.X)).bits)))))], [(1, (.box [(.c (.flt .f32 a0.W.bits)), (.c (.flt .f32 a0.X.bits)), (.c (.flt .f32 a0.Y.bits)), (.c (.flt .f32 a0.Z.bits))])), (2, (.box [(.c (.flt .f32 a1.W.bits)), (.c (.flt .f32 a1.X.bits)), (.c (.flt .f32 a1.Y.bits)), (.c (.flt .f32 a1.Z.bits))])), (3, (.box [(.c (.flt .f32 (default : F32).bits)), (.c (.flt .f32 (default : F32).bits)), (.c (.flt .f32 (default : F32).bits)), (.c (.flt .f32 (default : F32).bits))]))]⟩) (ob := True ∧ True ∧ True ∧ True ∧ True ∧ True ∧ True ∧ True ∧ True) (by kernel_rfl) ⟨trivial, trivial, trivial, trivial, trivial, trivial, trivial, trivial, trivial⟩ ?_
  refine thenQ_normal ?_
  refine AW.seq ?_
  refine AW.regionA [] [4, 5, 6, 7, 8] [3] (s' := ⟨[(4, (.v (.one (.ptr 3 0)))), (5, (.v (.one (.c (.flt .f32 ((((a0.W.mul a1.W).sub (a0.X.mul a1.X)).sub (a0.Y.mul a1.Y)).sub (a0.Z.mul a1.Z)).bits))))), (6, (.v (.one (.c (.flt .f32 ((((a0.W.mul a1.X).add (a0.X.mul a1.W)).add (a0.Y.mul a1.Z)).sub (a0.Z.mul a1.Y)).bits))))), (7, (.v (.one (.c (.flt .f32 ((((a0.W.mul a1.Y).sub (a0.X.mul a1.Z)).add (a0.Y.mul a1.W)).add (a0.Z.mul a1.X)).bits))))), (8, (.v (.one (.c (.flt .f32 ((((a0.W.mul a1.Z).add (a0.X.mul a1.Y)).sub (a0.Y.mul a1.X)).add (a0.Z.mul a1.W)).bits)))))], [(3, (.box [(.c (.flt .f32 (default : F32).bits)), (.c (.flt .f32 (default : F32).bits)), (.c (.flt .f32 (default : F32).bits)), (.c (.flt .f32 (default : F32).bits))]))]⟩) (ob := True ∧ True ∧ True ∧ True ∧ True ∧ True ∧ True ∧ True ∧ True) (by kernel_rfl) ⟨trivial, trivial, trivial, trivial, trivial, trivial, trivial, trivial, trivial⟩ ?_
  refine thenQ_normal ?_
  refine AW.seq ?_
  refine AW.regionA [] [4] [3] (s' := ⟨[(4, (.v (.one (.ptr 3 0))))], [(3, (.box [(.c (.flt .f32 ((((a0.W.mul a1.W).sub (a0.X.mul a1.X)).sub (a0.Y.mul a1.Y)).sub (a0.Z.mul a1.Z)).bits)), (.c (.flt .f32 ((((a0.W.mul a1.X).add (a0.X.mul a1.W)).add (a0.Y.mul a1.Z)).sub (a0.Z.mul a1.Y)).bits)), (.c (.flt .f32 ((((a0.W.mul a1.Y).sub (a0.X.mul a1.Z)).add (a0.Y.mul a1.W)).add (a0.Z.mul a1.X)).bits)), (.c (.flt .f32 ((((a0.W.mul a1.Z).add (a0.X.mul a1.Y)).sub (a0.Y.mul a1.X)).add (a0.Z.mul a1.W)).bits))]))]⟩) (ob := True ∧ True ∧ True ∧ True ∧ True ∧ True ∧ True) (by kernel_rfl) ⟨trivial, trivial, trivial, trivial, trivial, trivial, trivial⟩ ?_
  refine thenQ_normal ?_
  refine AW.ret ?_
  replace h := some_eq h
  subst h
  exact ⟨.inr rfl, retOK_of [(.agg [(.c (.flt .f32 ((((a0.W.mul a1.W).sub (a0.X.mul a1.X)).sub (a0.Y.mul a1.Y)).sub (a0.Z.mul a1.Z)).bits)), (.c (.flt .f32 ((((a0.W.mul a1.X).add (a0.X.mul a1.W)).add (a0.Y.mul a1.Z)).sub (a0.Z.mul a1.Y)).bits)), (.c (.flt .f32 ((((a0.W.mul a1.Y).sub (a0.X.mul a1.Z)).add (a0.Y.mul a1.W)).add (a0.Z.mul a1.X)).bits)), (.c (.flt .f32 ((((a0.W.mul a1.Z).add (a0.X.mul a1.Y)).sub (a0.Y.mul a1.X)).add (a0.Z.mul a1.W)).bits))])] (by kernel_rfl) ⟨⟨⟨rfl, trivial⟩, ⟨rfl, trivial⟩, ⟨rfl, trivial⟩, ⟨rfl, trivial⟩, trivial⟩, trivial⟩ (of_decide_eq_true (by kernel_rfl))⟩

/-! spec.l02Axis -/
def spec_l02Axis (_K : Nat) (a0 : Turn) : Option (Vector) :=
  some (Vector.mk a0.X a0.Y a0.Z)

theorem ok_spec_l02Axis (K : Nat) (a0 : Turn) (o : (Vector)) (h : spec_l02Axis K a0 = some o) : CallOK Try.prog 176 [.agg (cs_Turn a0)] [.agg (cs_Vector o)] := by
  refine callOK_of_AW Try.func176 rfl (by kernel_rfl) (Nat.le_of_ble_eq_true (by kernel_rfl)) ?_
  intro w0
  unfold spec_l02Axis at h
  refine AW.seq ?_
  refine AW.regionA [.box 1, .box 2] [1, 2] [1, 2] (s' := ⟨[(1, (.v (.one (.ptr 1 0)))), (2, (.v (.one (.ptr 2 0))))], [(1, (.box [(.c (.flt .f32 a0.W.bits)), (.c (.flt .f32 a0.X.bits)), (.c (.flt .f32 a0.Y.bits)), (.c (.flt .f32 a0.Z.bits))])), (2, (.box [(.c (.flt .f32 (default : F32).bits)), (.c (.flt .f32 (default : F32).bits)), (.c (.flt .f32 (default : F32).bits))]))]⟩) (ob := True ∧ True ∧ True) (by kernel_rfl) ⟨trivial, trivial, trivial⟩ ?_
  refine thenQ_normal ?_
  refine AW.seq ?_
  refine AW.regionA [] [2] [2] (s' := ⟨[(2, (.v (.one (.ptr 2 0))))], [(2, (.box [(.c (.flt .f32 a0.X.bits)), (.c (.flt .f32 a0.Y.bits)), (.c (.flt .f32 a0.Z.bits))]))]⟩) (ob := True ∧ True ∧ True ∧ True ∧ True ∧ True ∧ True ∧ True ∧ True) (by kernel_rfl) ⟨trivial, trivial, trivial, trivial, trivial, trivial, trivial, trivial, trivial⟩ ?_
  refine thenQ_normal ?_
  refine AW.ret ?_
  replace h := some_eq h
  subst h
  exact ⟨.inr rfl, retOK_of [(.agg [(.c (.flt .f32 a0.X.bits)), (.c (.flt .f32 a0.Y.bits)), (.c (.flt .f32 a0.Z.bits))])] (by kernel_rfl) ⟨⟨⟨rfl, trivial⟩, ⟨rfl, trivial⟩, ⟨rfl, trivial⟩, trivial⟩, trivial⟩ (of_decide_eq_true (by kernel_rfl))⟩

/-! spec.l01Inner -/
def spec_l01Inner (_K : Nat) (a0 : Vector) (a1 : Vector) : Option (F32) :=
  some (((a0.X.mul a1.X).add (a0.Y.mul a1.Y)).add (a0.Z.mul a1.Z))

theorem ok_spec_l01Inner (K : Nat) (a0 : Vector) (a1 : Vector) (o : (F32)) (h : spec_l01Inner K a0 a1 = some o) : CallOK Try.prog 189 [.agg (cs_Vector a0), .agg (cs_Vector a1)] [.one (.flt .f32 o.bits)] := by
  refine callOK_of_AW Try.func189 rfl (by kernel_rfl) (Nat.le_of_ble_eq_true (by kernel_rfl)) ?_
  intro w0
  unfold spec_l01Inner at h
  refine AW.seq ?_
  refine AW.regionA [.box 1, .box 2] [2, 3] [1, 2] (s' := ⟨[(2, (.v (.one (.ptr 1 0)))), (3, (.v (.one (.ptr 2 0))))], [(1, (.box [(.c (.flt .f32 a0.X.bits)), (.c (.flt .f32 a0.Y.bits)), (.c (.flt .f32 a0.Z.bits))])), (2, (.box [(.c (.flt .f32 a1.X.bits)), (.c (.flt .f32 a1.Y.bits)), (.c (.flt .f32 a1.Z.bits))]))]⟩) (ob := True ∧ True ∧ True ∧ True) (by kernel_rfl) ⟨trivial, trivial, trivial, trivial⟩ ?_
  refine thenQ_normal ?_
  refine AW.seq ?_
  refine AW.regionA [] [4] [] (s' := ⟨[(4, (.v (.one (.c (.flt .f32 (((a0.X.mul a1.X).add (a0.Y.mul a1.Y)).add (a0.Z.mul a1.Z)).bits)))))], []⟩) (ob := True ∧ True ∧ True ∧ True ∧ True ∧ True ∧ True ∧ True ∧ True ∧ True ∧ True ∧ True ∧ True ∧ True ∧ True ∧ True ∧ True ∧ True ∧ True) (by kernel_rfl) ⟨trivial, trivial, trivial, trivial, trivial, trivial, trivial, trivial, trivial, trivial, trivial, trivial, trivial, trivial, trivial, trivial, trivial, trivial, trivial⟩ ?_
  refine thenQ_normal ?_
  refine AW.ret ?_
  replace h := some_eq h
  subst h
  exact ⟨.inr rfl, retOK_of [(.one (.c (.flt .f32 (((a0.X.mul a1.X).add (a0.Y.mul a1.Y)).add (a0.Z.mul a1.Z)).bits)))] (by kernel_rfl) ⟨⟨rfl, trivial⟩, trivial⟩ (of_decide_eq_true (by kernel_rfl))⟩

/-! math.sqrt -/
def math_sqrt (_K : Nat) (a0 : F64) : Option (F64) :=
  some a0.sqrt

theorem ok_math_sqrt (K : Nat) (a0 : F64) (o : F64) (h : math_sqrt K a0 = some o) : CallOK Try.prog 202 [.one (.flt .f64 a0.bits)] [.one (.flt .f64 o.bits)] :=
  hand_sqrt (e := Extern.MathSqrt.sqrt) Try.func202 (by kernel_rfl) (by kernel_rfl) (by kernel_rfl) (by kernel_rfl) (fun _ => rfl) a0 o h

/-! math.Sqrt -/
def math_Sqrt (K : Nat) (a0 : F64) : Option (F64) :=
  (math_sqrt K a0).bind fun v1 => some v1

theorem ok_math_Sqrt (K : Nat) (a0 : F64) (o : (F64)) (h : math_Sqrt K a0 = some o) : CallOK Try.prog 200 [.one (.flt .f64 a0.bits)] [.one (.flt .f64 o.bits)] := by
  refine callOK_of_AW Try.func200 rfl (by kernel_rfl) (Nat.le_of_ble_eq_true (by kernel_rfl)) ?_
  intro w0
  unfold math_Sqrt at h
  refine AW.seq ?_
  refine AW.regionA [] [0] [] (s' := ⟨[(0, (.v (.one (.c (.flt .f64 a0.bits)))))], []⟩) (ob := True ∧ True) (by kernel_rfl) ⟨trivial, trivial⟩ ?_
  refine thenQ_normal ?_
  refine AW.seq ?_
  obtain ⟨v1, e2, h⟩ := bind_some h
  refine AW.regionA [.no, .call [.one (.flt .f64 a0.bits)] [.one (.flt .f64 v1.bits)] [[.view]]] [2] [] (s' := ⟨[(2, (.v (.one (.c (.flt .f64 v1.bits)))))], []⟩) (ob := True ∧ (((((.flt .f64 a0.bits) : C) = (.flt .f64 a0.bits)) ∧ True) ∧ CallOK Try.prog 202 [.one (.flt .f64 a0.bits)] [.one (.flt .f64 v1.bits)]) ∧ True ∧ True) (by kernel_rfl) ⟨trivial, ⟨⟨rfl, trivial⟩, ok_math_sqrt K a0 v1 e2⟩, trivial, trivial⟩ ?_
  refine thenQ_normal ?_
  refine AW.ret ?_
  replace h := some_eq h
  subst h
  exact ⟨.inr rfl, retOK_of [(.one (.c (.flt .f64 v1.bits)))] (by kernel_rfl) ⟨⟨rfl, trivial⟩, trivial⟩ (of_decide_eq_true (by kernel_rfl))⟩

/-! spec.l01Narrow -/
def spec_l01Narrow (_K : Nat) (a0 : F64) : Option (F32) :=
  chk ((convBits .f64 a0.bits .f32).isSome = true) (some (Fl.cv .f64 .f32 a0))

theorem ok_spec_l01Narrow (K : Nat) (a0 : F64) (o : (F32)) (h : spec_l01Narrow K a0 = some o) : CallOK Try.prog 186 [.one (.flt .f64 a0.bits)] [.one (.flt .f32 o.bits)] := by
  refine callOK_of_AW Try.func186 rfl (by kernel_rfl) (Nat.le_of_ble_eq_true (by kernel_rfl)) ?_
  intro w0
  unfold spec_l01Narrow at h
  refine AW.seq ?_
  refine AW.regionA [] [0] [] (s' := ⟨[(0, (.v (.one (.c (.flt .f64 a0.bits)))))], []⟩) (ob := True ∧ True) (by kernel_rfl) ⟨trivial, trivial⟩ ?_
  refine thenQ_normal ?_
  refine AW.seq ?_
  obtain ⟨c1, h⟩ := chk_some h
  refine AW.regionA [] [2] [] (s' := ⟨[(2, (.v (.one (.c (.flt .f32 (Fl.cv .f64 .f32 a0).bits)))))], []⟩) (ob := True ∧ ((convBits .f64 a0.bits .f32).isSome = true) ∧ True ∧ True) (by kernel_rfl) ⟨trivial, c1, trivial, trivial⟩ ?_
  refine thenQ_normal ?_
  refine AW.ret ?_
  replace h := some_eq h
  subst h
  exact ⟨.inr rfl, retOK_of [(.one (.c (.flt .f32 (Fl.cv .f64 .f32 a0).bits)))] (by kernel_rfl) ⟨⟨rfl, trivial⟩, trivial⟩ (of_decide_eq_true (by kernel_rfl))⟩

/-! spec.l01Sqrt -/
def spec_l01Sqrt (K : Nat) (a0 : F32) : Option (F32) :=
  (math_Sqrt K (Fl.cv .f32 .f64 a0)).bind fun v1 => (spec_l01Narrow K v1).bind fun v3 => some v3

theorem ok_spec_l01Sqrt (K : Nat) (a0 : F32) (o : (F32)) (h : spec_l01Sqrt K a0 = some o) : CallOK Try.prog 188 [.one (.flt .f32 a0.bits)] [.one (.flt .f32 o.bits)] := by
  refine callOK_of_AW Try.func188 rfl (by kernel_rfl) (Nat.le_of_ble_eq_true (by kernel_rfl)) ?_
  intro w0
  unfold spec_l01Sqrt at h
  refine AW.seq ?_
  refine AW.regionA [] [0] [] (s' := ⟨[(0, (.v (.one (.c (.flt .f32 a0.bits)))))], []⟩) (ob := True ∧ True) (by kernel_rfl) ⟨trivial, trivial⟩ ?_
  refine thenQ_normal ?_
  refine AW.seq ?_
  obtain ⟨v1, e2, h⟩ := bind_some h
  obtain ⟨v3, e4, h⟩ := bind_some h
  refine AW.regionA [.no, .no, .call [.one (.flt .f64 (Fl.cv .f32 .f64 a0).bits)] [.one (.flt .f64 v1.bits)] [[.view]], .call [.one (.flt .f64 v1.bits)] [.one (.flt .f32 v3.bits)] [[.view]]] [2] [] (s' := ⟨[(2, (.v (.one (.c (.flt .f32 v3.bits)))))], []⟩) (ob := True ∧ ((convBits .f32 a0.bits .f64).isSome = true) ∧ (((((.flt .f64 (Fl.cv .f32 .f64 a0).bits) : C) = (.flt .f64 (Fl.cv .f32 .f64 a0).bits)) ∧ True) ∧ CallOK Try.prog 200 [.one (.flt .f64 (Fl.cv .f32 .f64 a0).bits)] [.one (.flt .f64 v1.bits)]) ∧ (((((.flt .f64 v1.bits) : C) = (.flt .f64 v1.bits)) ∧ True) ∧ CallOK Try.prog 186 [.one (.flt .f64 v1.bits)] [.one (.flt .f32 v3.bits)]) ∧ True ∧ True) (by kernel_rfl) ⟨trivial, cv_wide a0, ⟨⟨rfl, trivial⟩, ok_math_Sqrt K (Fl.cv .f32 .f64 a0) v1 e2⟩, ⟨⟨rfl, trivial⟩, ok_spec_l01Narrow K v1 v3 e4⟩, trivial, trivial⟩ ?_
  refine thenQ_normal ?_
  refine AW.ret ?_
  replace h := some_eq h
  subst h
  exact ⟨.inr rfl, retOK_of [(.one (.c (.flt .f32 v3.bits)))] (by kernel_rfl) ⟨⟨rfl, trivial⟩, trivial⟩ (of_decide_eq_true (by kernel_rfl))⟩

/-! spec.l01Long -/
def spec_l01Long (K : Nat) (a0 : Vector) : Option (F32) :=
  (spec_l01Inner K a0 a0).bind fun v1 => (spec_l01Sqrt K v1).bind fun v3 => some v3

theorem ok_spec_l01Long (K : Nat) (a0 : Vector) (o : (F32)) (h : spec_l01Long K a0 = some o) : CallOK Try.prog 175 [.agg (cs_Vector a0)] [.one (.flt .f32 o.bits)] := by
  refine callOK_of_AW Try.func175 rfl (by kernel_rfl) (Nat.le_of_ble_eq_true (by kernel_rfl)) ?_
  intro w0
  unfold spec_l01Long at h
  refine AW.seq ?_
  refine AW.regionA [.box 1] [1] [1] (s' := ⟨[(1, (.v (.one (.ptr 1 0))))], [(1, (.box [(.c (.flt .f32 a0.X.bits)), (.c (.flt .f32 a0.Y.bits)), (.c (.flt .f32 a0.Z.bits))]))]⟩) (ob := True ∧ True ∧ True) (by kernel_rfl) ⟨trivial, trivial, trivial⟩ ?_
  refine thenQ_normal ?_
  refine AW.seq ?_
  obtain ⟨v1, e2, h⟩ := bind_some h
  obtain ⟨v3, e4, h⟩ := bind_some h
  refine AW.regionA [.no, .no, .call [.agg (cs_Vector a0), .agg (cs_Vector a0)] [.one (.flt .f32 v1.bits)] [[.view]], .call [.one (.flt .f32 v1.bits)] [.one (.flt .f32 v3.bits)] [[.view]]] [2] [] (s' := ⟨[(2, (.v (.one (.c (.flt .f32 v3.bits)))))], []⟩) (ob := True ∧ True ∧ ((((((.flt .f32 a0.X.bits) : C) = (.flt .f32 a0.X.bits)) ∧ (((.flt .f32 a0.Y.bits) : C) = (.flt .f32 a0.Y.bits)) ∧ (((.flt .f32 a0.Z.bits) : C) = (.flt .f32 a0.Z.bits)) ∧ True) ∧ ((((.flt .f32 a0.X.bits) : C) = (.flt .f32 a0.X.bits)) ∧ (((.flt .f32 a0.Y.bits) : C) = (.flt .f32 a0.Y.bits)) ∧ (((.flt .f32 a0.Z.bits) : C) = (.flt .f32 a0.Z.bits)) ∧ True) ∧ True) ∧ CallOK Try.prog 189 [.agg (cs_Vector a0), .agg (cs_Vector a0)] [.one (.flt .f32 v1.bits)]) ∧ (((((.flt .f32 v1.bits) : C) = (.flt .f32 v1.bits)) ∧ True) ∧ CallOK Try.prog 188 [.one (.flt .f32 v1.bits)] [.one (.flt .f32 v3.bits)]) ∧ True ∧ True) (by kernel_rfl) ⟨trivial, trivial, ⟨⟨⟨rfl, rfl, rfl, trivial⟩, ⟨rfl, rfl, rfl, trivial⟩, trivial⟩, ok_spec_l01Inner K a0 a0 v1 e2⟩, ⟨⟨rfl, trivial⟩, ok_spec_l01Sqrt K v1 v3 e4⟩, trivial, trivial⟩ ?_
  refine thenQ_normal ?_
  refine AW.ret ?_
  replace h := some_eq h
  subst h
  exact ⟨.inr rfl, retOK_of [(.one (.c (.flt .f32 v3.bits)))] (by kernel_rfl) ⟨⟨rfl, trivial⟩, trivial⟩ (of_decide_eq_true (by kernel_rfl))⟩

/-! math.Float32bits -/
def math_Float32bits (_K : Nat) (a0 : F32) : Option (Int) :=
  a0.toBits

theorem ok_math_Float32bits (K : Nat) (a0 : F32) (o : Int) (h : math_Float32bits K a0 = some o) : CallOK Try.prog 158 [.one (.flt .f32 a0.bits)] [.one (.int .u32 o)] :=
  hand_toBits (e := Extern.MathFloatBits.float32bits) Try.func158 (by kernel_rfl) (by kernel_rfl) (by kernel_rfl) (by kernel_rfl) (fun _ _ => rfl) a0 o h

/-! spec.l01Bits -/
def spec_l01Bits (K : Nat) (a0 : F32) : Option (Int) :=
  ite2 ((a0.ne a0)) (some (2143289344 : Int)) ((math_Float32bits K a0).bind fun v2 => some (IntKind.i64.wrap v2))

theorem ok_spec_l01Bits (K : Nat) (a0 : F32) (o : (Int)) (h : spec_l01Bits K a0 = some o) : CallOK Try.prog 156 [.one (.flt .f32 a0.bits)] [.one (.int .i64 o)] := by
  refine callOK_of_AW Try.func156 rfl (by kernel_rfl) (Nat.le_of_ble_eq_true (by kernel_rfl)) ?_
  intro w0
  unfold spec_l01Bits at h
  refine AW.seq ?_
  refine AW.regionA [] [0] [] (s' := ⟨[(0, (.v (.one (.c (.flt .f32 a0.bits)))))], []⟩) (ob := True ∧ True) (by kernel_rfl) ⟨trivial, trivial⟩ ?_
  refine thenQ_normal ?_
  refine AW.seq ?_
  refine AW.seq ?_
  refine AW.regionA [] [0, 5] [] (s' := ⟨[(0, (.v (.one (.c (.flt .f32 a0.bits))))), (5, (.v (.one (.c (.bool (a0.ne a0))))))], []⟩) (ob := True ∧ True ∧ True ∧ True) (by kernel_rfl) ⟨trivial, trivial, trivial, trivial⟩ ?_
  refine thenQ_normal ?_
  rcases ite2_cases h with ⟨b1, h⟩ | ⟨b1, h⟩
  · refine AW.cond_t rfl b1 ?_
    refine AW.seq ?_
    refine AW.regionA [] [2] [] (s' := ⟨[(2, (.v (.one (.c (.int .i64 (2143289344 : Int))))))], []⟩) (ob := True ∧ True) (by kernel_rfl) ⟨trivial, trivial⟩ ?_
    refine thenQ_normal ?_
    refine AW.ret ?_
    refine thenQ_ret ?_
    replace h := some_eq h
    subst h
    exact ⟨.inr rfl, retOK_of [(.one (.c (.int .i64 (2143289344 : Int))))] (by kernel_rfl) ⟨⟨rfl, trivial⟩, trivial⟩ (of_decide_eq_true (by kernel_rfl))⟩
  · refine AW.cond_f rfl b1 ?_
    refine AW.skip ?_
    refine thenQ_normal ?_
    refine AW.seq ?_
    obtain ⟨v2, e3, h⟩ := bind_some h
    refine AW.regionA [.no, .call [.one (.flt .f32 a0.bits)] [.one (.int .u32 v2)] [[.view]]] [2] [] (s' := ⟨[(2, (.v (.one (.c (.int .i64 (IntKind.i64.wrap v2))))))], []⟩) (ob := True ∧ (((((.flt .f32 a0.bits) : C) = (.flt .f32 a0.bits)) ∧ True) ∧ CallOK Try.prog 158 [.one (.flt .f32 a0.bits)] [.one (.int .u32 v2)]) ∧ True ∧ True ∧ True) (by kernel_rfl) ⟨trivial, ⟨⟨rfl, trivial⟩, ok_math_Float32bits K a0 v2 e3⟩, trivial, trivial, trivial⟩ ?_
    refine thenQ_normal ?_
    refine AW.ret ?_
    replace h := some_eq h
    subst h
    exact ⟨.inr rfl, retOK_of [(.one (.c (.int .i64 (IntKind.i64.wrap v2))))] (by kernel_rfl) ⟨⟨rfl, trivial⟩, trivial⟩ (of_decide_eq_true (by kernel_rfl))⟩

/-! math.Float32frombits -/
def math_Float32frombits (_K : Nat) (a0 : Int) : Option (F32) :=
  Fl.ofBits .f32 a0

theorem ok_math_Float32frombits (K : Nat) (a0 : Int) (o : F32) (h : math_Float32frombits K a0 = some o) : CallOK Try.prog 135 [.one (.int .u32 a0)] [.one (.flt .f32 o.bits)] :=
  hand_ofBits (e := Extern.MathFloatBits.float32frombits) Try.func135 (by kernel_rfl) (by kernel_rfl) (by kernel_rfl) (by kernel_rfl) (fun _ _ => rfl) a0 o h

/-! spec.l01From -/
def spec_l01From (K : Nat) (a0 : Int) : Option (F32) :=
  (math_Float32frombits K (IntKind.u32.wrap a0)).bind fun v1 => some v1

theorem ok_spec_l01From (K : Nat) (a0 : Int) (o : (F32)) (h : spec_l01From K a0 = some o) : CallOK Try.prog 132 [.one (.int .i64 a0)] [.one (.flt .f32 o.bits)] := by
  refine callOK_of_AW Try.func132 rfl (by kernel_rfl) (Nat.le_of_ble_eq_true (by kernel_rfl)) ?_
  intro w0
  unfold spec_l01From at h
  refine AW.seq ?_
  refine AW.regionA [] [0] [] (s' := ⟨[(0, (.v (.one (.c (.int .i64 a0)))))], []⟩) (ob := True ∧ True) (by kernel_rfl) ⟨trivial, trivial⟩ ?_
  refine thenQ_normal ?_
  refine AW.seq ?_
  obtain ⟨v1, e2, h⟩ := bind_some h
  refine AW.regionA [.no, .no, .call [.one (.int .u32 (IntKind.u32.wrap a0))] [.one (.flt .f32 v1.bits)] [[.view]]] [2] [] (s' := ⟨[(2, (.v (.one (.c (.flt .f32 v1.bits)))))], []⟩) (ob := True ∧ True ∧ (((((.int .u32 (IntKind.u32.wrap a0)) : C) = (.int .u32 (IntKind.u32.wrap a0))) ∧ True) ∧ CallOK Try.prog 135 [.one (.int .u32 (IntKind.u32.wrap a0))] [.one (.flt .f32 v1.bits)]) ∧ True ∧ True) (by kernel_rfl) ⟨trivial, trivial, ⟨⟨rfl, trivial⟩, ok_math_Float32frombits K (IntKind.u32.wrap a0) v1 e2⟩, trivial, trivial⟩ ?_
  refine thenQ_normal ?_
  refine AW.ret ?_
  replace h := some_eq h
  subst h
  exact ⟨.inr rfl, retOK_of [(.one (.c (.flt .f32 v1.bits)))] (by kernel_rfl) ⟨⟨rfl, trivial⟩, trivial⟩ (of_decide_eq_true (by kernel_rfl))⟩

/-! spec.l02Size -/
def spec_l02Size (K : Nat) (a0 : F32) : Option (F32) :=
  (spec_l01Bits K a0).bind fun v1 => (spec_l01From K (bits .andNot .i64 v1 (2147483648 : Int))).bind fun v3 => some v3

theorem ok_spec_l02Size (K : Nat) (a0 : F32) (o : (F32)) (h : spec_l02Size K a0 = some o) : CallOK Try.prog 177 [.one (.flt .f32 a0.bits)] [.one (.flt .f32 o.bits)] := by
  refine callOK_of_AW Try.func177 rfl (by kernel_rfl) (Nat.le_of_ble_eq_true (by kernel_rfl)) ?_
  intro w0
  unfold spec_l02Size at h
  refine AW.seq ?_
  refine AW.regionA [] [0] [] (s' := ⟨[(0, (.v (.one (.c (.flt .f32 a0.bits)))))], []⟩) (ob := True ∧ True) (by kernel_rfl) ⟨trivial, trivial⟩ ?_
  refine thenQ_normal ?_
  refine AW.seq ?_
  obtain ⟨v1, e2, h⟩ := bind_some h
  obtain ⟨v3, e4, h⟩ := bind_some h
  refine AW.regionA [.no, .call [.one (.flt .f32 a0.bits)] [.one (.int .i64 v1)] [[.view]], .no, .call [.one (.int .i64 (bits .andNot .i64 v1 (2147483648 : Int)))] [.one (.flt .f32 v3.bits)] [[.view]]] [2] [] (s' := ⟨[(2, (.v (.one (.c (.flt .f32 v3.bits)))))], []⟩) (ob := True ∧ (((((.flt .f32 a0.bits) : C) = (.flt .f32 a0.bits)) ∧ True) ∧ CallOK Try.prog 156 [.one (.flt .f32 a0.bits)] [.one (.int .i64 v1)]) ∧ True ∧ (((((.int .i64 (bits .andNot .i64 v1 (2147483648 : Int))) : C) = (.int .i64 (bits .andNot .i64 v1 (2147483648 : Int)))) ∧ True) ∧ CallOK Try.prog 132 [.one (.int .i64 (bits .andNot .i64 v1 (2147483648 : Int)))] [.one (.flt .f32 v3.bits)]) ∧ True ∧ True) (by kernel_rfl) ⟨trivial, ⟨⟨rfl, trivial⟩, ok_spec_l01Bits K a0 v1 e2⟩, trivial, ⟨⟨rfl, trivial⟩, ok_spec_l01From K (bits .andNot .i64 v1 (2147483648 : Int)) v3 e4⟩, trivial, trivial⟩ ?_
  refine thenQ_normal ?_
  refine AW.ret ?_
  replace h := some_eq h
  subst h
  exact ⟨.inr rfl, retOK_of [(.one (.c (.flt .f32 v3.bits)))] (by kernel_rfl) ⟨⟨rfl, trivial⟩, trivial⟩ (of_decide_eq_true (by kernel_rfl))⟩

/-! math.Float64frombits -/
def math_Float64frombits (_K : Nat) (a0 : Int) : Option (F64) :=
  Fl.ofBits .f64 a0

theorem ok_math_Float64frombits (K : Nat) (a0 : Int) (o : F64) (h : math_Float64frombits K a0 = some o) : CallOK Try.prog 201 [.one (.int .u64 a0)] [.one (.flt .f64 o.bits)] :=
  hand_ofBits (e := Extern.MathFloatBits.float64frombits) Try.func201 (by kernel_rfl) (by kernel_rfl) (by kernel_rfl) (by kernel_rfl) (fun _ _ => rfl) a0 o h

/-! math.NaN -/
def math_NaN (K : Nat) : Option (F64) :=
  (math_Float64frombits K (9221120237041090561 : Int)).bind fun v1 => some v1

theorem ok_math_NaN (K : Nat) (o : (F64)) (h : math_NaN K  = some o) : CallOK Try.prog 199 [] [.one (.flt .f64 o.bits)] := by
  refine callOK_of_AW Try.func199 rfl (by kernel_rfl) (Nat.le_of_ble_eq_true (by kernel_rfl)) ?_
  intro w0
  unfold math_NaN at h
  refine AW.seq ?_
  refine AW.regionA [] [] [] (s' := ⟨[], []⟩) (ob := True ∧ True) (by kernel_rfl) ⟨trivial, trivial⟩ ?_
  refine thenQ_normal ?_
  refine AW.seq ?_
  obtain ⟨v1, e2, h⟩ := bind_some h
  refine AW.regionA [.call [.one (.int .u64 (9221120237041090561 : Int))] [.one (.flt .f64 v1.bits)] [[.view]]] [0] [] (s' := ⟨[(0, (.v (.one (.c (.flt .f64 v1.bits)))))], []⟩) (ob := (((((.int .u64 (9221120237041090561 : Int)) : C) = (.int .u64 (9221120237041090561 : Int))) ∧ True) ∧ CallOK Try.prog 201 [.one (.int .u64 (9221120237041090561 : Int))] [.one (.flt .f64 v1.bits)]) ∧ True ∧ True) (by kernel_rfl) ⟨⟨⟨rfl, trivial⟩, ok_math_Float64frombits K (9221120237041090561 : Int) v1 e2⟩, trivial, trivial⟩ ?_
  refine thenQ_normal ?_
  refine AW.ret ?_
  replace h := some_eq h
  subst h
  exact ⟨.inr rfl, retOK_of [(.one (.c (.flt .f64 v1.bits)))] (by kernel_rfl) ⟨⟨rfl, trivial⟩, trivial⟩ (of_decide_eq_true (by kernel_rfl))⟩

/-! math.Abs -/
def math_Abs (_K : Nat) (a0 : F64) : Option (F64) :=
  some a0.abs

theorem ok_math_Abs (K : Nat) (a0 : F64) (o : F64) (h : math_Abs K a0 = some o) : CallOK Try.prog 195 [.one (.flt .f64 a0.bits)] [.one (.flt .f64 o.bits)] := by
  refine callOK_of_AW Try.func195 rfl (by kernel_rfl) (Nat.le_of_ble_eq_true (by kernel_rfl)) ?_
  intro w0
  replace h := some_eq h
  subst h
  refine AW.seq ?_
  refine AW.regionA [] [0] [] (s' := ⟨[(0, (.v (.one (.c (.flt .f64 a0.bits)))))], []⟩) (ob := True ∧ True) (by kernel_rfl) ⟨trivial, trivial⟩ ?_
  refine thenQ_normal ?_
  refine AW.seq ?_
  refine AW.rawA (i := .u64) (f := 145) (d := 4) (k := .f64) (c := a0.bits) (s1 := ⟨[(3, (.v (.one (.c (.flt .f64 a0.bits))))), (0, (.v (.one (.c (.flt .f64 a0.bits)))))], []⟩) (ob := True ∧ True) 1 [.no] (by kernel_rfl) ⟨trivial, trivial⟩ (e := Extern.MathFloatBits.float64bits) Try.func145 (by kernel_rfl) (by kernel_rfl) (by kernel_rfl) (by kernel_rfl) (fun _ _ => rfl) ?_
  intro b hb hc
  refine ⟨[.no, .call [.one (.int .u64 (bits .andNot .u64 (b : Int) (9223372036854775808 : Int)))] [.one (.flt .f64 a0.abs.bits)] [[.view]]], ⟨[(2, (.v (.one (.c (.flt .f64 a0.abs.bits))))), (6, (.v (.one (.c (.flt .f64 a0.abs.bits))))), (5, (.v (.one (.c (.int .u64 (bits .andNot .u64 (b : Int) (9223372036854775808 : Int))))))), (4, (.v (.one (.c (.int .u64 (b : Int)))))), (3, (.v (.one (.c (.flt .f64 a0.bits))))), (0, (.v (.one (.c (.flt .f64 a0.bits)))))], []⟩, True ∧ (((((.int .u64 (bits .andNot .u64 (b : Int) (9223372036854775808 : Int))) : C) = (.int .u64 (bits .andNot .u64 (b : Int) (9223372036854775808 : Int)))) ∧ True) ∧ CallOK Try.prog 201 [.one (.int .u64 (bits .andNot .u64 (b : Int) (9223372036854775808 : Int)))] [.one (.flt .f64 a0.abs.bits)]) ∧ True ∧ True, by kernel_rfl, ⟨trivial, ⟨⟨rfl, trivial⟩, ?_⟩, trivial, trivial⟩, ?_⟩
  · exact ok_math_Float64frombits K _ a0.abs (by rw [andNot_sign hb]; exact ofBits_abs hb a0 hc)
  · refine thenQ_normal ?_
    refine AW.ret ?_
    exact ⟨.inr rfl, retOK_of [(.one (.c (.flt .f64 a0.abs.bits)))] (by kernel_rfl) ⟨⟨rfl, trivial⟩, trivial⟩ (of_decide_eq_true (by kernel_rfl))⟩

/-! spec.l01AngleWide -/
def spec_l01AngleWide_l2 (K : Nat) (a0 : F64) (a1 : F64) (v11 : (F64)) (v13 : (F64)) (x18 : F64) : Nat → F64 → Int → Option (F64)
  | 0, _, _ => none
  | k + 1, x25, x26 => ite2 ((decide (x26 ≥ (1 : Int)))) (spec_l01AngleWide_l2 K a0 a1 v11 v13 x18 k (((Fl.mk (k := .f64) 4607182418800017408 (by decide)).div (Fl.ofInt .f64 x26)).sub ((x18.mul x18).mul x25)) (IntKind.i64.wrap (x26 - (2 : Int)))) (ite2 ((v11.gt v13)) (ite2 ((a1.lt' (Fl.mk (k := .f64) 0 (by decide)))) (ite2 ((a0.lt' (Fl.mk (k := .f64) 0 (by decide)))) (some (((Fl.mk (k := .f64) 4602678819172646912 (by decide)).sub ((Fl.mk (k := .f64) 4598175219545276416 (by decide)).sub (((Fl.mk (k := .f64) 4620693217682128896 (by decide)).mul (x18.mul x25)).div (Fl.mk (k := .f64) 4618760256179416344 (by decide))))).neg)) (some ((Fl.mk (k := .f64) 4602678819172646912 (by decide)).sub ((Fl.mk (k := .f64) 4598175219545276416 (by decide)).sub (((Fl.mk (k := .f64) 4620693217682128896 (by decide)).mul (x18.mul x25)).div (Fl.mk (k := .f64) 4618760256179416344 (by decide))))))) (ite2 ((a0.lt' (Fl.mk (k := .f64) 0 (by decide)))) (some (((Fl.mk (k := .f64) 4598175219545276416 (by decide)).sub (((Fl.mk (k := .f64) 4620693217682128896 (by decide)).mul (x18.mul x25)).div (Fl.mk (k := .f64) 4618760256179416344 (by decide)))).neg)) (some ((Fl.mk (k := .f64) 4598175219545276416 (by decide)).sub (((Fl.mk (k := .f64) 4620693217682128896 (by decide)).mul (x18.mul x25)).div (Fl.mk (k := .f64) 4618760256179416344 (by decide))))))) (ite2 ((a1.lt' (Fl.mk (k := .f64) 0 (by decide)))) (ite2 ((a0.lt' (Fl.mk (k := .f64) 0 (by decide)))) (some (((Fl.mk (k := .f64) 4602678819172646912 (by decide)).sub (((Fl.mk (k := .f64) 4620693217682128896 (by decide)).mul (x18.mul x25)).div (Fl.mk (k := .f64) 4618760256179416344 (by decide)))).neg)) (some ((Fl.mk (k := .f64) 4602678819172646912 (by decide)).sub (((Fl.mk (k := .f64) 4620693217682128896 (by decide)).mul (x18.mul x25)).div (Fl.mk (k := .f64) 4618760256179416344 (by decide)))))) (ite2 ((a0.lt' (Fl.mk (k := .f64) 0 (by decide)))) (some ((((Fl.mk (k := .f64) 4620693217682128896 (by decide)).mul (x18.mul x25)).div (Fl.mk (k := .f64) 4618760256179416344 (by decide))).neg)) (some (((Fl.mk (k := .f64) 4620693217682128896 (by decide)).mul (x18.mul x25)).div (Fl.mk (k := .f64) 4618760256179416344 (by decide)))))))

def spec_l01AngleWide_l1 (K : Nat) (a0 : F64) (a1 : F64) (v11 : (F64)) (v13 : (F64)) : Nat → F64 → Int → Option (F64)
  | 0, _, _ => none
  | k + 1, x18, x19 => ite2 ((decide (x19 < (3 : Int)))) ((math_Sqrt K ((Fl.mk (k := .f64) 4607182418800017408 (by decide)).add (x18.mul x18))).bind fun v21 => spec_l01AngleWide_l1 K a0 a1 v11 v13 k (x18.div ((Fl.mk (k := .f64) 4607182418800017408 (by decide)).add v21)) (IntKind.i64.wrap (x19 + (1 : Int)))) (spec_l01AngleWide_l2 K a0 a1 v11 v13 x18 K (Fl.mk (k := .f64) 0 (by decide)) (15 : Int))

def spec_l01AngleWide_l4 (K : Nat) (a0 : F64) (a1 : F64) (v11 : (F64)) (v13 : (F64)) (x37 : F64) : Nat → F64 → Int → Option (F64)
  | 0, _, _ => none
  | k + 1, x44, x45 => ite2 ((decide (x45 ≥ (1 : Int)))) (spec_l01AngleWide_l4 K a0 a1 v11 v13 x37 k (((Fl.mk (k := .f64) 4607182418800017408 (by decide)).div (Fl.ofInt .f64 x45)).sub ((x37.mul x37).mul x44)) (IntKind.i64.wrap (x45 - (2 : Int)))) (ite2 ((v11.gt v13)) (ite2 ((a1.lt' (Fl.mk (k := .f64) 0 (by decide)))) (ite2 ((a0.lt' (Fl.mk (k := .f64) 0 (by decide)))) (some (((Fl.mk (k := .f64) 4602678819172646912 (by decide)).sub ((Fl.mk (k := .f64) 4598175219545276416 (by decide)).sub (((Fl.mk (k := .f64) 4620693217682128896 (by decide)).mul (x37.mul x44)).div (Fl.mk (k := .f64) 4618760256179416344 (by decide))))).neg)) (some ((Fl.mk (k := .f64) 4602678819172646912 (by decide)).sub ((Fl.mk (k := .f64) 4598175219545276416 (by decide)).sub (((Fl.mk (k := .f64) 4620693217682128896 (by decide)).mul (x37.mul x44)).div (Fl.mk (k := .f64) 4618760256179416344 (by decide))))))) (ite2 ((a0.lt' (Fl.mk (k := .f64) 0 (by decide)))) (some (((Fl.mk (k := .f64) 4598175219545276416 (by decide)).sub (((Fl.mk (k := .f64) 4620693217682128896 (by decide)).mul (x37.mul x44)).div (Fl.mk (k := .f64) 4618760256179416344 (by decide)))).neg)) (some ((Fl.mk (k := .f64) 4598175219545276416 (by decide)).sub (((Fl.mk (k := .f64) 4620693217682128896 (by decide)).mul (x37.mul x44)).div (Fl.mk (k := .f64) 4618760256179416344 (by decide))))))) (ite2 ((a1.lt' (Fl.mk (k := .f64) 0 (by decide)))) (ite2 ((a0.lt' (Fl.mk (k := .f64) 0 (by decide)))) (some (((Fl.mk (k := .f64) 4602678819172646912 (by decide)).sub (((Fl.mk (k := .f64) 4620693217682128896 (by decide)).mul (x37.mul x44)).div (Fl.mk (k := .f64) 4618760256179416344 (by decide)))).neg)) (some ((Fl.mk (k := .f64) 4602678819172646912 (by decide)).sub (((Fl.mk (k := .f64) 4620693217682128896 (by decide)).mul (x37.mul x44)).div (Fl.mk (k := .f64) 4618760256179416344 (by decide)))))) (ite2 ((a0.lt' (Fl.mk (k := .f64) 0 (by decide)))) (some ((((Fl.mk (k := .f64) 4620693217682128896 (by decide)).mul (x37.mul x44)).div (Fl.mk (k := .f64) 4618760256179416344 (by decide))).neg)) (some (((Fl.mk (k := .f64) 4620693217682128896 (by decide)).mul (x37.mul x44)).div (Fl.mk (k := .f64) 4618760256179416344 (by decide)))))))

def spec_l01AngleWide_l3 (K : Nat) (a0 : F64) (a1 : F64) (v11 : (F64)) (v13 : (F64)) : Nat → F64 → Int → Option (F64)
  | 0, _, _ => none
  | k + 1, x37, x38 => ite2 ((decide (x38 < (3 : Int)))) ((math_Sqrt K ((Fl.mk (k := .f64) 4607182418800017408 (by decide)).add (x37.mul x37))).bind fun v40 => spec_l01AngleWide_l3 K a0 a1 v11 v13 k (x37.div ((Fl.mk (k := .f64) 4607182418800017408 (by decide)).add v40)) (IntKind.i64.wrap (x38 + (1 : Int)))) (spec_l01AngleWide_l4 K a0 a1 v11 v13 x37 K (Fl.mk (k := .f64) 0 (by decide)) (15 : Int))

def spec_l01AngleWide (K : Nat) (a0 : F64) (a1 : F64) : Option (F64) :=
  (ite2 (((a0.sub a0).ne (Fl.mk (k := .f64) 0 (by decide)))) (some true) (some ((a1.sub a1).ne (Fl.mk (k := .f64) 0 (by decide))))).bind fun j2 => ite2 (j2) ((math_NaN K ).bind fun v5 => some v5) ((ite2 ((a1.eq (Fl.mk (k := .f64) 0 (by decide)))) (some (a0.eq (Fl.mk (k := .f64) 0 (by decide)))) (some false)).bind fun j8 => ite2 (j8) (some (Fl.mk (k := .f64) 0 (by decide))) ((math_Abs K a0).bind fun v11 => (math_Abs K a1).bind fun v13 => ite2 ((v11.gt v13)) (spec_l01AngleWide_l1 K a0 a1 v11 v13 K (v13.div v11) (0 : Int)) (spec_l01AngleWide_l3 K a0 a1 v11 v13 K (v11.div v13) (0 : Int))))

theorem ok_spec_l01AngleWide (K : Nat) (a0 : F64) (a1 : F64) (o : (F64)) (h : spec_l01AngleWide K a0 a1 = some o) : CallOK Try.prog 187 [.one (.flt .f64 a0.bits), .one (.flt .f64 a1.bits)] [.one (.flt .f64 o.bits)] := by
  refine callOK_of_AW Try.func187 rfl (by kernel_rfl) (Nat.le_of_ble_eq_true (by kernel_rfl)) ?_
  intro w0
  unfold spec_l01AngleWide at h
  refine AW.seq ?_
  refine AW.regionA [] [0, 1] [] (s' := ⟨[(0, (.v (.one (.c (.flt .f64 a0.bits))))), (1, (.v (.one (.c (.flt .f64 a1.bits)))))], []⟩) (ob := True ∧ True) (by kernel_rfl) ⟨trivial, trivial⟩ ?_
  refine thenQ_normal ?_
  refine AW.seq ?_
  refine AW.seq ?_
  obtain ⟨j2, e3, h⟩ := bind_some h
  refine AW.join1 (s2 := ⟨[(0, (.v (.one (.c (.flt .f64 a0.bits))))), (1, (.v (.one (.c (.flt .f64 a1.bits))))), (23, (.v (.one (.c (.bool j2)))))], []⟩) ?_ ?_
  · rcases ite2_cases e3 with ⟨b1, e3⟩ | ⟨b1, e3⟩
    · replace e3 := some_eq e3
      subst e3
      exact AW.regionA [.no, .no, .no, .no, .dec true] [0, 1, 23] [] (s' := ⟨[(0, (.v (.one (.c (.flt .f64 a0.bits))))), (1, (.v (.one (.c (.flt .f64 a1.bits))))), (23, (.v (.one (.c (.bool true)))))], []⟩) (ob := True ∧ True ∧ True ∧ True ∧ (True ∧ ((a0.sub a0).ne (Fl.mk (k := .f64) 0 (by decide))) = true) ∧ True ∧ True ∧ True ∧ True ∧ True ∧ True) (by kernel_rfl) ⟨trivial, trivial, trivial, trivial, ⟨trivial, b1⟩, trivial, trivial, trivial, trivial, trivial, trivial⟩ ⟨rfl, rfl⟩
    · replace e3 := some_eq e3
      subst e3
      exact AW.regionA [.no, .no, .no, .no, .dec false] [0, 1, 23] [] (s' := ⟨[(0, (.v (.one (.c (.flt .f64 a0.bits))))), (1, (.v (.one (.c (.flt .f64 a1.bits))))), (23, (.v (.one (.c (.bool ((a1.sub a1).ne (Fl.mk (k := .f64) 0 (by decide))))))))], []⟩) (ob := True ∧ True ∧ True ∧ True ∧ (True ∧ ((a0.sub a0).ne (Fl.mk (k := .f64) 0 (by decide))) = false) ∧ True ∧ True ∧ True ∧ True ∧ True ∧ True) (by kernel_rfl) ⟨trivial, trivial, trivial, trivial, ⟨trivial, b1⟩, trivial, trivial, trivial, trivial, trivial, trivial⟩ ⟨rfl, rfl⟩
  refine thenQ_normal ?_
  rcases ite2_cases h with ⟨b4, h⟩ | ⟨b4, h⟩
  · refine AW.cond_t rfl b4 ?_
    refine AW.seq ?_
    obtain ⟨v5, e6, h⟩ := bind_some h
    refine AW.regionA [.call [] [.one (.flt .f64 v5.bits)] [[.view]]] [4] [] (s' := ⟨[(4, (.v (.one (.c (.flt .f64 v5.bits)))))], []⟩) (ob := ((True) ∧ CallOK Try.prog 199 [] [.one (.flt .f64 v5.bits)]) ∧ True ∧ True) (by kernel_rfl) ⟨⟨trivial, ok_math_NaN K v5 e6⟩, trivial, trivial⟩ ?_
    refine thenQ_normal ?_
    refine AW.ret ?_
    refine thenQ_ret ?_
    replace h := some_eq h
    subst h
    exact ⟨.inr rfl, retOK_of [(.one (.c (.flt .f64 v5.bits)))] (by kernel_rfl) ⟨⟨rfl, trivial⟩, trivial⟩ (of_decide_eq_true (by kernel_rfl))⟩
  · refine AW.cond_f rfl b4 ?_
    refine AW.skip ?_
    refine thenQ_normal ?_
    refine AW.seq ?_
    refine AW.seq ?_
    obtain ⟨j8, e9, h⟩ := bind_some h
    refine AW.join1 (s2 := ⟨[(0, (.v (.one (.c (.flt .f64 a0.bits))))), (1, (.v (.one (.c (.flt .f64 a1.bits))))), (30, (.v (.one (.c (.bool j8)))))], []⟩) ?_ ?_
    · rcases ite2_cases e9 with ⟨b7, e9⟩ | ⟨b7, e9⟩
      · replace e9 := some_eq e9
        subst e9
        exact AW.regionA [.no, .no, .dec true] [0, 1, 30] [] (s' := ⟨[(0, (.v (.one (.c (.flt .f64 a0.bits))))), (1, (.v (.one (.c (.flt .f64 a1.bits))))), (30, (.v (.one (.c (.bool (a0.eq (Fl.mk (k := .f64) 0 (by decide))))))))], []⟩) (ob := True ∧ True ∧ (True ∧ (a1.eq (Fl.mk (k := .f64) 0 (by decide))) = true) ∧ True ∧ True ∧ True ∧ True) (by kernel_rfl) ⟨trivial, trivial, ⟨trivial, b7⟩, trivial, trivial, trivial, trivial⟩ ⟨rfl, rfl⟩
      · replace e9 := some_eq e9
        subst e9
        exact AW.regionA [.no, .no, .dec false] [0, 1, 30] [] (s' := ⟨[(0, (.v (.one (.c (.flt .f64 a0.bits))))), (1, (.v (.one (.c (.flt .f64 a1.bits))))), (30, (.v (.one (.c (.bool false)))))], []⟩) (ob := True ∧ True ∧ (True ∧ (a1.eq (Fl.mk (k := .f64) 0 (by decide))) = false) ∧ True ∧ True ∧ True ∧ True) (by kernel_rfl) ⟨trivial, trivial, ⟨trivial, b7⟩, trivial, trivial, trivial, trivial⟩ ⟨rfl, rfl⟩
    refine thenQ_normal ?_
    rcases ite2_cases h with ⟨b10, h⟩ | ⟨b10, h⟩
    · refine AW.cond_t rfl b10 ?_
      refine AW.seq ?_
      refine AW.regionA [] [4] [] (s' := ⟨[(4, (.v (.one (.c (.flt .f64 (Fl.mk (k := .f64) 0 (by decide)).bits)))))], []⟩) (ob := True ∧ True) (by kernel_rfl) ⟨trivial, trivial⟩ ?_
      refine thenQ_normal ?_
      refine AW.ret ?_
      refine thenQ_ret ?_
      replace h := some_eq h
      subst h
      exact ⟨.inr rfl, retOK_of [(.one (.c (.flt .f64 (Fl.mk (k := .f64) 0 (by decide)).bits)))] (by kernel_rfl) ⟨⟨rfl, trivial⟩, trivial⟩ (of_decide_eq_true (by kernel_rfl))⟩
    · refine AW.cond_f rfl b10 ?_
      refine AW.skip ?_
      refine thenQ_normal ?_
      refine AW.seq ?_
      obtain ⟨v11, e12, h⟩ := bind_some h
      refine AW.regionA [.no, .call [.one (.flt .f64 a0.bits)] [.one (.flt .f64 v11.bits)] [[.view]]] [0, 1, 5] [] (s' := ⟨[(0, (.v (.one (.c (.flt .f64 a0.bits))))), (1, (.v (.one (.c (.flt .f64 a1.bits))))), (5, (.v (.one (.c (.flt .f64 v11.bits)))))], []⟩) (ob := True ∧ (((((.flt .f64 a0.bits) : C) = (.flt .f64 a0.bits)) ∧ True) ∧ CallOK Try.prog 195 [.one (.flt .f64 a0.bits)] [.one (.flt .f64 v11.bits)]) ∧ True ∧ True) (by kernel_rfl) ⟨trivial, ⟨⟨rfl, trivial⟩, ok_math_Abs K a0 v11 e12⟩, trivial, trivial⟩ ?_
      refine thenQ_normal ?_
      refine AW.seq ?_
      obtain ⟨v13, e14, h⟩ := bind_some h
      refine AW.regionA [.no, .call [.one (.flt .f64 a1.bits)] [.one (.flt .f64 v13.bits)] [[.view]]] [0, 1, 5, 6] [] (s' := ⟨[(0, (.v (.one (.c (.flt .f64 a0.bits))))), (1, (.v (.one (.c (.flt .f64 a1.bits))))), (5, (.v (.one (.c (.flt .f64 v11.bits))))), (6, (.v (.one (.c (.flt .f64 v13.bits)))))], []⟩) (ob := True ∧ (((((.flt .f64 a1.bits) : C) = (.flt .f64 a1.bits)) ∧ True) ∧ CallOK Try.prog 195 [.one (.flt .f64 a1.bits)] [.one (.flt .f64 v13.bits)]) ∧ True ∧ True) (by kernel_rfl) ⟨trivial, ⟨⟨rfl, trivial⟩, ok_math_Abs K a1 v13 e14⟩, trivial, trivial⟩ ?_
      refine thenQ_normal ?_
      refine AW.seq ?_
      refine AW.regionA [] [0, 1, 5, 6, 7] [] (s' := ⟨[(0, (.v (.one (.c (.flt .f64 a0.bits))))), (1, (.v (.one (.c (.flt .f64 a1.bits))))), (5, (.v (.one (.c (.flt .f64 v11.bits))))), (6, (.v (.one (.c (.flt .f64 v13.bits))))), (7, (.v (.one (.c (.bool (v11.gt v13))))))], []⟩) (ob := True ∧ True ∧ True ∧ True ∧ True) (by kernel_rfl) ⟨trivial, trivial, trivial, trivial, trivial⟩ ?_
      refine thenQ_normal ?_
      refine AW.seq ?_
      refine AW.regionA [] [0, 1, 5, 6, 7] [] (s' := ⟨[(0, (.v (.one (.c (.flt .f64 a0.bits))))), (1, (.v (.one (.c (.flt .f64 a1.bits))))), (5, (.v (.one (.c (.flt .f64 v11.bits))))), (6, (.v (.one (.c (.flt .f64 v13.bits))))), (7, (.v (.one (.c (.bool (v11.gt v13))))))], []⟩) (ob := True ∧ True) (by kernel_rfl) ⟨trivial, trivial⟩ ?_
      refine thenQ_normal ?_
      refine AW.seq ?_
      refine AW.seq ?_
      refine AW.regionA [] [0, 1, 5, 6, 7, 38] [] (s' := ⟨[(0, (.v (.one (.c (.flt .f64 a0.bits))))), (1, (.v (.one (.c (.flt .f64 a1.bits))))), (5, (.v (.one (.c (.flt .f64 v11.bits))))), (6, (.v (.one (.c (.flt .f64 v13.bits))))), (7, (.v (.one (.c (.bool (v11.gt v13)))))), (38, (.v (.one (.c (.bool (v11.gt v13))))))], []⟩) (ob := True ∧ True) (by kernel_rfl) ⟨trivial, trivial⟩ ?_
      refine thenQ_normal ?_
      rcases ite2_cases h with ⟨b15, h⟩ | ⟨b15, h⟩
      · refine AW.cond_t rfl b15 ?_
        refine AW.regionA [] [0, 1, 7, 8] [] (s' := ⟨[(0, (.v (.one (.c (.flt .f64 a0.bits))))), (1, (.v (.one (.c (.flt .f64 a1.bits))))), (7, (.v (.one (.c (.bool (v11.gt v13)))))), (8, (.v (.one (.c (.flt .f64 (v13.div v11).bits)))))], []⟩) (ob := True ∧ True ∧ True ∧ True ∧ True) (by kernel_rfl) ⟨trivial, trivial, trivial, trivial, trivial⟩ ?_
        refine thenQ_normal ?_
        refine AW.seq ?_
        refine AW.seq ?_
        refine AW.regionA [] [0, 1, 7, 8, 9] [] (s' := ⟨[(0, (.v (.one (.c (.flt .f64 a0.bits))))), (1, (.v (.one (.c (.flt .f64 a1.bits))))), (7, (.v (.one (.c (.bool (v11.gt v13)))))), (8, (.v (.one (.c (.flt .f64 (v13.div v11).bits))))), (9, (.v (.one (.c (.int .i64 (0 : Int))))))], []⟩) (ob := True ∧ True) (by kernel_rfl) ⟨trivial, trivial⟩ ?_
        refine thenQ_normal ?_
        refine AW.block ?_
        refine AW.loopQ (σ := Nat × F64 × Int) (fun p => ⟨[(0, (.v (.one (.c (.flt .f64 a0.bits))))), (1, (.v (.one (.c (.flt .f64 a1.bits))))), (7, (.v (.one (.c (.bool (v11.gt v13)))))), (8, (.v (.one (.c (.flt .f64 p.2.1.bits))))), (9, (.v (.one (.c (.int .i64 p.2.2)))))], []⟩) (fun p => spec_l01AngleWide_l1 K a0 a1 v11 v13 p.1 p.2.1 p.2.2 = some o) (fun p => p.1) (K, (v13.div v11), (0 : Int)) h ?_
        clear h
        rintro ⟨k, x18, x19⟩ h
        replace h : spec_l01AngleWide_l1 K a0 a1 v11 v13 k x18 x19 = some o := h
        show AW _ _ (⟨[(0, (.v (.one (.c (.flt .f64 a0.bits))))), (1, (.v (.one (.c (.flt .f64 a1.bits))))), (7, (.v (.one (.c (.bool (v11.gt v13)))))), (8, (.v (.one (.c (.flt .f64 x18.bits))))), (9, (.v (.one (.c (.int .i64 x19)))))], []⟩ : St) _
        obtain _ | k := k
        · rw [spec_l01AngleWide_l1] at h; cases h
        rw [spec_l01AngleWide_l1] at h
        refine AW.seq ?_
        refine AW.seq ?_
        refine AW.regionA [] [0, 1, 7, 8, 9, 46] [] (s' := ⟨[(0, (.v (.one (.c (.flt .f64 a0.bits))))), (1, (.v (.one (.c (.flt .f64 a1.bits))))), (7, (.v (.one (.c (.bool (v11.gt v13)))))), (8, (.v (.one (.c (.flt .f64 x18.bits))))), (9, (.v (.one (.c (.int .i64 x19))))), (46, (.v (.one (.c (.bool (decide (x19 < (3 : Int))))))))], []⟩) (ob := True ∧ True ∧ True) (by kernel_rfl) ⟨trivial, trivial, trivial⟩ ?_
        refine thenQ_normal ?_
        rcases ite2_cases h with ⟨b20, h⟩ | ⟨b20, h⟩
        · refine AW.cond_t rfl b20 ?_
          refine AW.skip ?_
          refine thenQ_normal ?_
          refine AW.seq ?_
          refine AW.block ?_
          obtain ⟨v21, e22, h⟩ := bind_some h
          refine AW.regionA [.no, .no, .no, .no, .no, .call [.one (.flt .f64 ((Fl.mk (k := .f64) 4607182418800017408 (by decide)).add (x18.mul x18)).bits)] [.one (.flt .f64 v21.bits)] [[.view]]] [0, 1, 7, 8, 9] [] (s' := ⟨[(0, (.v (.one (.c (.flt .f64 a0.bits))))), (1, (.v (.one (.c (.flt .f64 a1.bits))))), (7, (.v (.one (.c (.bool (v11.gt v13)))))), (8, (.v (.one (.c (.flt .f64 (x18.div ((Fl.mk (k := .f64) 4607182418800017408 (by decide)).add v21)).bits))))), (9, (.v (.one (.c (.int .i64 x19)))))], []⟩) (ob := True ∧ True ∧ True ∧ True ∧ True ∧ (((((.flt .f64 ((Fl.mk (k := .f64) 4607182418800017408 (by decide)).add (x18.mul x18)).bits) : C) = (.flt .f64 ((Fl.mk (k := .f64) 4607182418800017408 (by decide)).add (x18.mul x18)).bits)) ∧ True) ∧ CallOK Try.prog 200 [.one (.flt .f64 ((Fl.mk (k := .f64) 4607182418800017408 (by decide)).add (x18.mul x18)).bits)] [.one (.flt .f64 v21.bits)]) ∧ True ∧ True ∧ True ∧ True) (by kernel_rfl) ⟨trivial, trivial, trivial, trivial, trivial, ⟨⟨rfl, trivial⟩, ok_math_Sqrt K ((Fl.mk (k := .f64) 4607182418800017408 (by decide)).add (x18.mul x18)) v21 e22⟩, trivial, trivial, trivial, trivial⟩ ?_
          refine blockQ_normal ?_
          refine thenQ_normal ?_
          refine AW.regionA [] [0, 1, 7, 8, 9] [] (s' := ⟨[(0, (.v (.one (.c (.flt .f64 a0.bits))))), (1, (.v (.one (.c (.flt .f64 a1.bits))))), (7, (.v (.one (.c (.bool (v11.gt v13)))))), (8, (.v (.one (.c (.flt .f64 (x18.div ((Fl.mk (k := .f64) 4607182418800017408 (by decide)).add v21)).bits))))), (9, (.v (.one (.c (.int .i64 (IntKind.i64.wrap (x19 + (1 : Int))))))))], []⟩) (ob := True ∧ True ∧ True ∧ True) (by kernel_rfl) ⟨trivial, trivial, trivial, trivial⟩ ?_
          exact loopQ_normal (k, (x18.div ((Fl.mk (k := .f64) 4607182418800017408 (by decide)).add v21)), (IntKind.i64.wrap (x19 + (1 : Int)))) h (Nat.lt_succ_self k) (Sub.keep [0, 1, 7, 8, 9] [] (by kernel_rfl) (by kernel_rfl))
        · refine AW.cond_f rfl b20 ?_
          refine AW.exit ?_
          refine thenQ_exit ?_
          refine loopQ_exit ?_
          refine blockQ_exit ?_
          refine thenQ_normal ?_
          refine AW.seq ?_
          refine AW.regionA [] [0, 1, 7, 8, 10] [] (s' := ⟨[(0, (.v (.one (.c (.flt .f64 a0.bits))))), (1, (.v (.one (.c (.flt .f64 a1.bits))))), (7, (.v (.one (.c (.bool (v11.gt v13)))))), (8, (.v (.one (.c (.flt .f64 x18.bits))))), (10, (.v (.one (.c (.flt .f64 (x18.mul x18).bits)))))], []⟩) (ob := True ∧ True ∧ True ∧ True ∧ True) (by kernel_rfl) ⟨trivial, trivial, trivial, trivial, trivial⟩ ?_
          refine thenQ_normal ?_
          refine AW.seq ?_
          refine AW.regionA [] [0, 1, 7, 8, 10, 11] [] (s' := ⟨[(0, (.v (.one (.c (.flt .f64 a0.bits))))), (1, (.v (.one (.c (.flt .f64 a1.bits))))), (7, (.v (.one (.c (.bool (v11.gt v13)))))), (8, (.v (.one (.c (.flt .f64 x18.bits))))), (10, (.v (.one (.c (.flt .f64 (x18.mul x18).bits))))), (11, (.v (.one (.c (.flt .f64 (Fl.mk (k := .f64) 0 (by decide)).bits)))))], []⟩) (ob := True ∧ True) (by kernel_rfl) ⟨trivial, trivial⟩ ?_
          refine thenQ_normal ?_
          refine AW.seq ?_
          refine AW.seq ?_
          refine AW.regionA [] [0, 1, 7, 8, 10, 11, 12] [] (s' := ⟨[(0, (.v (.one (.c (.flt .f64 a0.bits))))), (1, (.v (.one (.c (.flt .f64 a1.bits))))), (7, (.v (.one (.c (.bool (v11.gt v13)))))), (8, (.v (.one (.c (.flt .f64 x18.bits))))), (10, (.v (.one (.c (.flt .f64 (x18.mul x18).bits))))), (11, (.v (.one (.c (.flt .f64 (Fl.mk (k := .f64) 0 (by decide)).bits))))), (12, (.v (.one (.c (.int .i64 (15 : Int))))))], []⟩) (ob := True ∧ True) (by kernel_rfl) ⟨trivial, trivial⟩ ?_
          refine thenQ_normal ?_
          refine AW.block ?_
          refine AW.loopQ (σ := Nat × F64 × Int) (fun p => ⟨[(0, (.v (.one (.c (.flt .f64 a0.bits))))), (1, (.v (.one (.c (.flt .f64 a1.bits))))), (7, (.v (.one (.c (.bool (v11.gt v13)))))), (8, (.v (.one (.c (.flt .f64 x18.bits))))), (10, (.v (.one (.c (.flt .f64 (x18.mul x18).bits))))), (11, (.v (.one (.c (.flt .f64 p.2.1.bits))))), (12, (.v (.one (.c (.int .i64 p.2.2)))))], []⟩) (fun p => spec_l01AngleWide_l2 K a0 a1 v11 v13 x18 p.1 p.2.1 p.2.2 = some o) (fun p => p.1) (K, (Fl.mk (k := .f64) 0 (by decide)), (15 : Int)) h ?_
          clear h
          rintro ⟨k, x25, x26⟩ h
          replace h : spec_l01AngleWide_l2 K a0 a1 v11 v13 x18 k x25 x26 = some o := h
          show AW _ _ (⟨[(0, (.v (.one (.c (.flt .f64 a0.bits))))), (1, (.v (.one (.c (.flt .f64 a1.bits))))), (7, (.v (.one (.c (.bool (v11.gt v13)))))), (8, (.v (.one (.c (.flt .f64 x18.bits))))), (10, (.v (.one (.c (.flt .f64 (x18.mul x18).bits))))), (11, (.v (.one (.c (.flt .f64 x25.bits))))), (12, (.v (.one (.c (.int .i64 x26)))))], []⟩ : St) _
          obtain _ | k := k
          · rw [spec_l01AngleWide_l2] at h; cases h
          rw [spec_l01AngleWide_l2] at h
          refine AW.seq ?_
          refine AW.seq ?_
          refine AW.regionA [] [0, 1, 7, 8, 10, 11, 12, 61] [] (s' := ⟨[(0, (.v (.one (.c (.flt .f64 a0.bits))))), (1, (.v (.one (.c (.flt .f64 a1.bits))))), (7, (.v (.one (.c (.bool (v11.gt v13)))))), (8, (.v (.one (.c (.flt .f64 x18.bits))))), (10, (.v (.one (.c (.flt .f64 (x18.mul x18).bits))))), (11, (.v (.one (.c (.flt .f64 x25.bits))))), (12, (.v (.one (.c (.int .i64 x26))))), (61, (.v (.one (.c (.bool (decide (x26 ≥ (1 : Int))))))))], []⟩) (ob := True ∧ True ∧ True) (by kernel_rfl) ⟨trivial, trivial, trivial⟩ ?_
          refine thenQ_normal ?_
          rcases ite2_cases h with ⟨b27, h⟩ | ⟨b27, h⟩
          · refine AW.cond_t rfl b27 ?_
            refine AW.skip ?_
            refine thenQ_normal ?_
            refine AW.seq ?_
            refine AW.block ?_
            refine AW.regionA [] [0, 1, 7, 8, 10, 11, 12] [] (s' := ⟨[(0, (.v (.one (.c (.flt .f64 a0.bits))))), (1, (.v (.one (.c (.flt .f64 a1.bits))))), (7, (.v (.one (.c (.bool (v11.gt v13)))))), (8, (.v (.one (.c (.flt .f64 x18.bits))))), (10, (.v (.one (.c (.flt .f64 (x18.mul x18).bits))))), (11, (.v (.one (.c (.flt .f64 (((Fl.mk (k := .f64) 4607182418800017408 (by decide)).div (Fl.ofInt .f64 x26)).sub ((x18.mul x18).mul x25)).bits))))), (12, (.v (.one (.c (.int .i64 x26)))))], []⟩) (ob := True ∧ True ∧ True ∧ True ∧ True ∧ True ∧ True ∧ True ∧ True) (by kernel_rfl) ⟨trivial, trivial, trivial, trivial, trivial, trivial, trivial, trivial, trivial⟩ ?_
            refine blockQ_normal ?_
            refine thenQ_normal ?_
            refine AW.regionA [] [0, 1, 7, 8, 10, 11, 12] [] (s' := ⟨[(0, (.v (.one (.c (.flt .f64 a0.bits))))), (1, (.v (.one (.c (.flt .f64 a1.bits))))), (7, (.v (.one (.c (.bool (v11.gt v13)))))), (8, (.v (.one (.c (.flt .f64 x18.bits))))), (10, (.v (.one (.c (.flt .f64 (x18.mul x18).bits))))), (11, (.v (.one (.c (.flt .f64 (((Fl.mk (k := .f64) 4607182418800017408 (by decide)).div (Fl.ofInt .f64 x26)).sub ((x18.mul x18).mul x25)).bits))))), (12, (.v (.one (.c (.int .i64 (IntKind.i64.wrap (x26 - (2 : Int))))))))], []⟩) (ob := True ∧ True ∧ True ∧ True) (by kernel_rfl) ⟨trivial, trivial, trivial, trivial⟩ ?_
            exact loopQ_normal (k, (((Fl.mk (k := .f64) 4607182418800017408 (by decide)).div (Fl.ofInt .f64 x26)).sub ((x18.mul x18).mul x25)), (IntKind.i64.wrap (x26 - (2 : Int)))) h (Nat.lt_succ_self k) (Sub.keep [0, 1, 7, 8, 10, 11, 12] [] (by kernel_rfl) (by kernel_rfl))
          · refine AW.cond_f rfl b27 ?_
            refine AW.exit ?_
            refine thenQ_exit ?_
            refine loopQ_exit ?_
            refine blockQ_exit ?_
            refine thenQ_normal ?_
            refine AW.seq ?_
            refine AW.regionA [] [0, 1, 7, 13] [] (s' := ⟨[(0, (.v (.one (.c (.flt .f64 a0.bits))))), (1, (.v (.one (.c (.flt .f64 a1.bits))))), (7, (.v (.one (.c (.bool (v11.gt v13)))))), (13, (.v (.one (.c (.flt .f64 (((Fl.mk (k := .f64) 4620693217682128896 (by decide)).mul (x18.mul x25)).div (Fl.mk (k := .f64) 4618760256179416344 (by decide))).bits)))))], []⟩) (ob := True ∧ True ∧ True ∧ True ∧ True ∧ True ∧ True) (by kernel_rfl) ⟨trivial, trivial, trivial, trivial, trivial, trivial, trivial⟩ ?_
            refine thenQ_normal ?_
            refine AW.seq ?_
            refine AW.seq ?_
            refine AW.regionA [] [0, 1, 13, 76] [] (s' := ⟨[(0, (.v (.one (.c (.flt .f64 a0.bits))))), (1, (.v (.one (.c (.flt .f64 a1.bits))))), (13, (.v (.one (.c (.flt .f64 (((Fl.mk (k := .f64) 4620693217682128896 (by decide)).mul (x18.mul x25)).div (Fl.mk (k := .f64) 4618760256179416344 (by decide))).bits))))), (76, (.v (.one (.c (.bool (v11.gt v13))))))], []⟩) (ob := True ∧ True) (by kernel_rfl) ⟨trivial, trivial⟩ ?_
            refine thenQ_normal ?_
            rcases ite2_cases h with ⟨b28, h⟩ | ⟨b28, h⟩
            · refine AW.cond_t rfl b28 ?_
              refine AW.regionA [] [0, 1, 13] [] (s' := ⟨[(0, (.v (.one (.c (.flt .f64 a0.bits))))), (1, (.v (.one (.c (.flt .f64 a1.bits))))), (13, (.v (.one (.c (.flt .f64 ((Fl.mk (k := .f64) 4598175219545276416 (by decide)).sub (((Fl.mk (k := .f64) 4620693217682128896 (by decide)).mul (x18.mul x25)).div (Fl.mk (k := .f64) 4618760256179416344 (by decide)))).bits)))))], []⟩) (ob := True ∧ True ∧ True ∧ True) (by kernel_rfl) ⟨trivial, trivial, trivial, trivial⟩ ?_
              refine thenQ_normal ?_
              refine AW.seq ?_
              refine AW.seq ?_
              refine AW.regionA [] [0, 13, 80] [] (s' := ⟨[(0, (.v (.one (.c (.flt .f64 a0.bits))))), (13, (.v (.one (.c (.flt .f64 ((Fl.mk (k := .f64) 4598175219545276416 (by decide)).sub (((Fl.mk (k := .f64) 4620693217682128896 (by decide)).mul (x18.mul x25)).div (Fl.mk (k := .f64) 4618760256179416344 (by decide)))).bits))))), (80, (.v (.one (.c (.bool (a1.lt' (Fl.mk (k := .f64) 0 (by decide))))))))], []⟩) (ob := True ∧ True ∧ True) (by kernel_rfl) ⟨trivial, trivial, trivial⟩ ?_
              refine thenQ_normal ?_
              rcases ite2_cases h with ⟨b29, h⟩ | ⟨b29, h⟩
              · refine AW.cond_t rfl b29 ?_
                refine AW.regionA [] [0, 13] [] (s' := ⟨[(0, (.v (.one (.c (.flt .f64 a0.bits))))), (13, (.v (.one (.c (.flt .f64 ((Fl.mk (k := .f64) 4602678819172646912 (by decide)).sub ((Fl.mk (k := .f64) 4598175219545276416 (by decide)).sub (((Fl.mk (k := .f64) 4620693217682128896 (by decide)).mul (x18.mul x25)).div (Fl.mk (k := .f64) 4618760256179416344 (by decide))))).bits)))))], []⟩) (ob := True ∧ True ∧ True ∧ True) (by kernel_rfl) ⟨trivial, trivial, trivial, trivial⟩ ?_
                refine thenQ_normal ?_
                refine AW.seq ?_
                refine AW.seq ?_
                refine AW.regionA [] [13, 84] [] (s' := ⟨[(13, (.v (.one (.c (.flt .f64 ((Fl.mk (k := .f64) 4602678819172646912 (by decide)).sub ((Fl.mk (k := .f64) 4598175219545276416 (by decide)).sub (((Fl.mk (k := .f64) 4620693217682128896 (by decide)).mul (x18.mul x25)).div (Fl.mk (k := .f64) 4618760256179416344 (by decide))))).bits))))), (84, (.v (.one (.c (.bool (a0.lt' (Fl.mk (k := .f64) 0 (by decide))))))))], []⟩) (ob := True ∧ True ∧ True) (by kernel_rfl) ⟨trivial, trivial, trivial⟩ ?_
                refine thenQ_normal ?_
                rcases ite2_cases h with ⟨b30, h⟩ | ⟨b30, h⟩
                · refine AW.cond_t rfl b30 ?_
                  refine AW.seq ?_
                  refine AW.regionA [] [4] [] (s' := ⟨[(4, (.v (.one (.c (.flt .f64 (((Fl.mk (k := .f64) 4602678819172646912 (by decide)).sub ((Fl.mk (k := .f64) 4598175219545276416 (by decide)).sub (((Fl.mk (k := .f64) 4620693217682128896 (by decide)).mul (x18.mul x25)).div (Fl.mk (k := .f64) 4618760256179416344 (by decide))))).neg).bits)))))], []⟩) (ob := True ∧ True ∧ True ∧ True) (by kernel_rfl) ⟨trivial, trivial, trivial, trivial⟩ ?_
                  refine thenQ_normal ?_
                  refine AW.ret ?_
                  refine thenQ_ret ?_
                  replace h := some_eq h
                  subst h
                  exact ⟨.inr rfl, retOK_of [(.one (.c (.flt .f64 (((Fl.mk (k := .f64) 4602678819172646912 (by decide)).sub ((Fl.mk (k := .f64) 4598175219545276416 (by decide)).sub (((Fl.mk (k := .f64) 4620693217682128896 (by decide)).mul (x18.mul x25)).div (Fl.mk (k := .f64) 4618760256179416344 (by decide))))).neg).bits)))] (by kernel_rfl) ⟨⟨rfl, trivial⟩, trivial⟩ (of_decide_eq_true (by kernel_rfl))⟩
                · refine AW.cond_f rfl b30 ?_
                  refine AW.skip ?_
                  refine thenQ_normal ?_
                  refine AW.seq ?_
                  refine AW.regionA [] [4] [] (s' := ⟨[(4, (.v (.one (.c (.flt .f64 ((Fl.mk (k := .f64) 4602678819172646912 (by decide)).sub ((Fl.mk (k := .f64) 4598175219545276416 (by decide)).sub (((Fl.mk (k := .f64) 4620693217682128896 (by decide)).mul (x18.mul x25)).div (Fl.mk (k := .f64) 4618760256179416344 (by decide))))).bits)))))], []⟩) (ob := True ∧ True ∧ True) (by kernel_rfl) ⟨trivial, trivial, trivial⟩ ?_
                  refine thenQ_normal ?_
                  refine AW.ret ?_
                  replace h := some_eq h
                  subst h
                  exact ⟨.inr rfl, retOK_of [(.one (.c (.flt .f64 ((Fl.mk (k := .f64) 4602678819172646912 (by decide)).sub ((Fl.mk (k := .f64) 4598175219545276416 (by decide)).sub (((Fl.mk (k := .f64) 4620693217682128896 (by decide)).mul (x18.mul x25)).div (Fl.mk (k := .f64) 4618760256179416344 (by decide))))).bits)))] (by kernel_rfl) ⟨⟨rfl, trivial⟩, trivial⟩ (of_decide_eq_true (by kernel_rfl))⟩
              · refine AW.cond_f rfl b29 ?_
                refine AW.skip ?_
                refine thenQ_normal ?_
                refine AW.seq ?_
                refine AW.seq ?_
                refine AW.regionA [] [13, 84] [] (s' := ⟨[(13, (.v (.one (.c (.flt .f64 ((Fl.mk (k := .f64) 4598175219545276416 (by decide)).sub (((Fl.mk (k := .f64) 4620693217682128896 (by decide)).mul (x18.mul x25)).div (Fl.mk (k := .f64) 4618760256179416344 (by decide)))).bits))))), (84, (.v (.one (.c (.bool (a0.lt' (Fl.mk (k := .f64) 0 (by decide))))))))], []⟩) (ob := True ∧ True ∧ True) (by kernel_rfl) ⟨trivial, trivial, trivial⟩ ?_
                refine thenQ_normal ?_
                rcases ite2_cases h with ⟨b31, h⟩ | ⟨b31, h⟩
                · refine AW.cond_t rfl b31 ?_
                  refine AW.seq ?_
                  refine AW.regionA [] [4] [] (s' := ⟨[(4, (.v (.one (.c (.flt .f64 (((Fl.mk (k := .f64) 4598175219545276416 (by decide)).sub (((Fl.mk (k := .f64) 4620693217682128896 (by decide)).mul (x18.mul x25)).div (Fl.mk (k := .f64) 4618760256179416344 (by decide)))).neg).bits)))))], []⟩) (ob := True ∧ True ∧ True ∧ True) (by kernel_rfl) ⟨trivial, trivial, trivial, trivial⟩ ?_
                  refine thenQ_normal ?_
                  refine AW.ret ?_
                  refine thenQ_ret ?_
                  replace h := some_eq h
                  subst h
                  exact ⟨.inr rfl, retOK_of [(.one (.c (.flt .f64 (((Fl.mk (k := .f64) 4598175219545276416 (by decide)).sub (((Fl.mk (k := .f64) 4620693217682128896 (by decide)).mul (x18.mul x25)).div (Fl.mk (k := .f64) 4618760256179416344 (by decide)))).neg).bits)))] (by kernel_rfl) ⟨⟨rfl, trivial⟩, trivial⟩ (of_decide_eq_true (by kernel_rfl))⟩
                · refine AW.cond_f rfl b31 ?_
                  refine AW.skip ?_
                  refine thenQ_normal ?_
                  refine AW.seq ?_
                  refine AW.regionA [] [4] [] (s' := ⟨[(4, (.v (.one (.c (.flt .f64 ((Fl.mk (k := .f64) 4598175219545276416 (by decide)).sub (((Fl.mk (k := .f64) 4620693217682128896 (by decide)).mul (x18.mul x25)).div (Fl.mk (k := .f64) 4618760256179416344 (by decide)))).bits)))))], []⟩) (ob := True ∧ True ∧ True) (by kernel_rfl) ⟨trivial, trivial, trivial⟩ ?_
                  refine thenQ_normal ?_
                  refine AW.ret ?_
                  replace h := some_eq h
                  subst h
                  exact ⟨.inr rfl, retOK_of [(.one (.c (.flt .f64 ((Fl.mk (k := .f64) 4598175219545276416 (by decide)).sub (((Fl.mk (k := .f64) 4620693217682128896 (by decide)).mul (x18.mul x25)).div (Fl.mk (k := .f64) 4618760256179416344 (by decide)))).bits)))] (by kernel_rfl) ⟨⟨rfl, trivial⟩, trivial⟩ (of_decide_eq_true (by kernel_rfl))⟩
            · refine AW.cond_f rfl b28 ?_
              refine AW.skip ?_
              refine thenQ_normal ?_
              refine AW.seq ?_
              refine AW.seq ?_
              refine AW.regionA [] [0, 13, 80] [] (s' := ⟨[(0, (.v (.one (.c (.flt .f64 a0.bits))))), (13, (.v (.one (.c (.flt .f64 (((Fl.mk (k := .f64) 4620693217682128896 (by decide)).mul (x18.mul x25)).div (Fl.mk (k := .f64) 4618760256179416344 (by decide))).bits))))), (80, (.v (.one (.c (.bool (a1.lt' (Fl.mk (k := .f64) 0 (by decide))))))))], []⟩) (ob := True ∧ True ∧ True) (by kernel_rfl) ⟨trivial, trivial, trivial⟩ ?_
              refine thenQ_normal ?_
              rcases ite2_cases h with ⟨b32, h⟩ | ⟨b32, h⟩
              · refine AW.cond_t rfl b32 ?_
                refine AW.regionA [] [0, 13] [] (s' := ⟨[(0, (.v (.one (.c (.flt .f64 a0.bits))))), (13, (.v (.one (.c (.flt .f64 ((Fl.mk (k := .f64) 4602678819172646912 (by decide)).sub (((Fl.mk (k := .f64) 4620693217682128896 (by decide)).mul (x18.mul x25)).div (Fl.mk (k := .f64) 4618760256179416344 (by decide)))).bits)))))], []⟩) (ob := True ∧ True ∧ True ∧ True) (by kernel_rfl) ⟨trivial, trivial, trivial, trivial⟩ ?_
                refine thenQ_normal ?_
                refine AW.seq ?_
                refine AW.seq ?_
                refine AW.regionA [] [13, 84] [] (s' := ⟨[(13, (.v (.one (.c (.flt .f64 ((Fl.mk (k := .f64) 4602678819172646912 (by decide)).sub (((Fl.mk (k := .f64) 4620693217682128896 (by decide)).mul (x18.mul x25)).div (Fl.mk (k := .f64) 4618760256179416344 (by decide)))).bits))))), (84, (.v (.one (.c (.bool (a0.lt' (Fl.mk (k := .f64) 0 (by decide))))))))], []⟩) (ob := True ∧ True ∧ True) (by kernel_rfl) ⟨trivial, trivial, trivial⟩ ?_
                refine thenQ_normal ?_
                rcases ite2_cases h with ⟨b33, h⟩ | ⟨b33, h⟩
                · refine AW.cond_t rfl b33 ?_
                  refine AW.seq ?_
                  refine AW.regionA [] [4] [] (s' := ⟨[(4, (.v (.one (.c (.flt .f64 (((Fl.mk (k := .f64) 4602678819172646912 (by decide)).sub (((Fl.mk (k := .f64) 4620693217682128896 (by decide)).mul (x18.mul x25)).div (Fl.mk (k := .f64) 4618760256179416344 (by decide)))).neg).bits)))))], []⟩) (ob := True ∧ True ∧ True ∧ True) (by kernel_rfl) ⟨trivial, trivial, trivial, trivial⟩ ?_
                  refine thenQ_normal ?_
                  refine AW.ret ?_
                  refine thenQ_ret ?_
                  replace h := some_eq h
                  subst h
                  exact ⟨.inr rfl, retOK_of [(.one (.c (.flt .f64 (((Fl.mk (k := .f64) 4602678819172646912 (by decide)).sub (((Fl.mk (k := .f64) 4620693217682128896 (by decide)).mul (x18.mul x25)).div (Fl.mk (k := .f64) 4618760256179416344 (by decide)))).neg).bits)))] (by kernel_rfl) ⟨⟨rfl, trivial⟩, trivial⟩ (of_decide_eq_true (by kernel_rfl))⟩
                · refine AW.cond_f rfl b33 ?_
                  refine AW.skip ?_
                  refine thenQ_normal ?_
                  refine AW.seq ?_
                  refine AW.regionA [] [4] [] (s' := ⟨[(4, (.v (.one (.c (.flt .f64 ((Fl.mk (k := .f64) 4602678819172646912 (by decide)).sub (((Fl.mk (k := .f64) 4620693217682128896 (by decide)).mul (x18.mul x25)).div (Fl.mk (k := .f64) 4618760256179416344 (by decide)))).bits)))))], []⟩) (ob := True ∧ True ∧ True) (by kernel_rfl) ⟨trivial, trivial, trivial⟩ ?_
                  refine thenQ_normal ?_
                  refine AW.ret ?_
                  replace h := some_eq h
                  subst h
                  exact ⟨.inr rfl, retOK_of [(.one (.c (.flt .f64 ((Fl.mk (k := .f64) 4602678819172646912 (by decide)).sub (((Fl.mk (k := .f64) 4620693217682128896 (by decide)).mul (x18.mul x25)).div (Fl.mk (k := .f64) 4618760256179416344 (by decide)))).bits)))] (by kernel_rfl) ⟨⟨rfl, trivial⟩, trivial⟩ (of_decide_eq_true (by kernel_rfl))⟩
              · refine AW.cond_f rfl b32 ?_
                refine AW.skip ?_
                refine thenQ_normal ?_
                refine AW.seq ?_
                refine AW.seq ?_
                refine AW.regionA [] [13, 84] [] (s' := ⟨[(13, (.v (.one (.c (.flt .f64 (((Fl.mk (k := .f64) 4620693217682128896 (by decide)).mul (x18.mul x25)).div (Fl.mk (k := .f64) 4618760256179416344 (by decide))).bits))))), (84, (.v (.one (.c (.bool (a0.lt' (Fl.mk (k := .f64) 0 (by decide))))))))], []⟩) (ob := True ∧ True ∧ True) (by kernel_rfl) ⟨trivial, trivial, trivial⟩ ?_
                refine thenQ_normal ?_
                rcases ite2_cases h with ⟨b34, h⟩ | ⟨b34, h⟩
                · refine AW.cond_t rfl b34 ?_
                  refine AW.seq ?_
                  refine AW.regionA [] [4] [] (s' := ⟨[(4, (.v (.one (.c (.flt .f64 ((((Fl.mk (k := .f64) 4620693217682128896 (by decide)).mul (x18.mul x25)).div (Fl.mk (k := .f64) 4618760256179416344 (by decide))).neg).bits)))))], []⟩) (ob := True ∧ True ∧ True ∧ True) (by kernel_rfl) ⟨trivial, trivial, trivial, trivial⟩ ?_
                  refine thenQ_normal ?_
                  refine AW.ret ?_
                  refine thenQ_ret ?_
                  replace h := some_eq h
                  subst h
                  exact ⟨.inr rfl, retOK_of [(.one (.c (.flt .f64 ((((Fl.mk (k := .f64) 4620693217682128896 (by decide)).mul (x18.mul x25)).div (Fl.mk (k := .f64) 4618760256179416344 (by decide))).neg).bits)))] (by kernel_rfl) ⟨⟨rfl, trivial⟩, trivial⟩ (of_decide_eq_true (by kernel_rfl))⟩
                · refine AW.cond_f rfl b34 ?_
                  refine AW.skip ?_
                  refine thenQ_normal ?_
                  refine AW.seq ?_
                  refine AW.regionA [] [4] [] (s' := ⟨[(4, (.v (.one (.c (.flt .f64 (((Fl.mk (k := .f64) 4620693217682128896 (by decide)).mul (x18.mul x25)).div (Fl.mk (k := .f64) 4618760256179416344 (by decide))).bits)))))], []⟩) (ob := True ∧ True ∧ True) (by kernel_rfl) ⟨trivial, trivial, trivial⟩ ?_
                  refine thenQ_normal ?_
                  refine AW.ret ?_
                  replace h := some_eq h
                  subst h
                  exact ⟨.inr rfl, retOK_of [(.one (.c (.flt .f64 (((Fl.mk (k := .f64) 4620693217682128896 (by decide)).mul (x18.mul x25)).div (Fl.mk (k := .f64) 4618760256179416344 (by decide))).bits)))] (by kernel_rfl) ⟨⟨rfl, trivial⟩, trivial⟩ (of_decide_eq_true (by kernel_rfl))⟩
      · refine AW.cond_f rfl b15 ?_
        refine AW.regionA [] [0, 1, 7, 8] [] (s' := ⟨[(0, (.v (.one (.c (.flt .f64 a0.bits))))), (1, (.v (.one (.c (.flt .f64 a1.bits))))), (7, (.v (.one (.c (.bool (v11.gt v13)))))), (8, (.v (.one (.c (.flt .f64 (v11.div v13).bits)))))], []⟩) (ob := True ∧ True ∧ True ∧ True ∧ True) (by kernel_rfl) ⟨trivial, trivial, trivial, trivial, trivial⟩ ?_
        refine thenQ_normal ?_
        refine AW.seq ?_
        refine AW.seq ?_
        refine AW.regionA [] [0, 1, 7, 8, 9] [] (s' := ⟨[(0, (.v (.one (.c (.flt .f64 a0.bits))))), (1, (.v (.one (.c (.flt .f64 a1.bits))))), (7, (.v (.one (.c (.bool (v11.gt v13)))))), (8, (.v (.one (.c (.flt .f64 (v11.div v13).bits))))), (9, (.v (.one (.c (.int .i64 (0 : Int))))))], []⟩) (ob := True ∧ True) (by kernel_rfl) ⟨trivial, trivial⟩ ?_
        refine thenQ_normal ?_
        refine AW.block ?_
        refine AW.loopQ (σ := Nat × F64 × Int) (fun p => ⟨[(0, (.v (.one (.c (.flt .f64 a0.bits))))), (1, (.v (.one (.c (.flt .f64 a1.bits))))), (7, (.v (.one (.c (.bool (v11.gt v13)))))), (8, (.v (.one (.c (.flt .f64 p.2.1.bits))))), (9, (.v (.one (.c (.int .i64 p.2.2)))))], []⟩) (fun p => spec_l01AngleWide_l3 K a0 a1 v11 v13 p.1 p.2.1 p.2.2 = some o) (fun p => p.1) (K, (v11.div v13), (0 : Int)) h ?_
        clear h
        rintro ⟨k, x37, x38⟩ h
        replace h : spec_l01AngleWide_l3 K a0 a1 v11 v13 k x37 x38 = some o := h
        show AW _ _ (⟨[(0, (.v (.one (.c (.flt .f64 a0.bits))))), (1, (.v (.one (.c (.flt .f64 a1.bits))))), (7, (.v (.one (.c (.bool (v11.gt v13)))))), (8, (.v (.one (.c (.flt .f64 x37.bits))))), (9, (.v (.one (.c (.int .i64 x38)))))], []⟩ : St) _
        obtain _ | k := k
        · rw [spec_l01AngleWide_l3] at h; cases h
        rw [spec_l01AngleWide_l3] at h
        refine AW.seq ?_
        refine AW.seq ?_
        refine AW.regionA [] [0, 1, 7, 8, 9, 46] [] (s' := ⟨[(0, (.v (.one (.c (.flt .f64 a0.bits))))), (1, (.v (.one (.c (.flt .f64 a1.bits))))), (7, (.v (.one (.c (.bool (v11.gt v13)))))), (8, (.v (.one (.c (.flt .f64 x37.bits))))), (9, (.v (.one (.c (.int .i64 x38))))), (46, (.v (.one (.c (.bool (decide (x38 < (3 : Int))))))))], []⟩) (ob := True ∧ True ∧ True) (by kernel_rfl) ⟨trivial, trivial, trivial⟩ ?_
        refine thenQ_normal ?_
        rcases ite2_cases h with ⟨b39, h⟩ | ⟨b39, h⟩
        · refine AW.cond_t rfl b39 ?_
          refine AW.skip ?_
          refine thenQ_normal ?_
          refine AW.seq ?_
          refine AW.block ?_
          obtain ⟨v40, e41, h⟩ := bind_some h
          refine AW.regionA [.no, .no, .no, .no, .no, .call [.one (.flt .f64 ((Fl.mk (k := .f64) 4607182418800017408 (by decide)).add (x37.mul x37)).bits)] [.one (.flt .f64 v40.bits)] [[.view]]] [0, 1, 7, 8, 9] [] (s' := ⟨[(0, (.v (.one (.c (.flt .f64 a0.bits))))), (1, (.v (.one (.c (.flt .f64 a1.bits))))), (7, (.v (.one (.c (.bool (v11.gt v13)))))), (8, (.v (.one (.c (.flt .f64 (x37.div ((Fl.mk (k := .f64) 4607182418800017408 (by decide)).add v40)).bits))))), (9, (.v (.one (.c (.int .i64 x38)))))], []⟩) (ob := True ∧ True ∧ True ∧ True ∧ True ∧ (((((.flt .f64 ((Fl.mk (k := .f64) 4607182418800017408 (by decide)).add (x37.mul x37)).bits) : C) = (.flt .f64 ((Fl.mk (k := .f64) 4607182418800017408 (by decide)).add (x37.mul x37)).bits)) ∧ True) ∧ CallOK Try.prog 200 [.one (.flt .f64 ((Fl.mk (k := .f64) 4607182418800017408 (by decide)).add (x37.mul x37)).bits)] [.one (.flt .f64 v40.bits)]) ∧ True ∧ True ∧ True ∧ True) (by kernel_rfl) ⟨trivial, trivial, trivial, trivial, trivial, ⟨⟨rfl, trivial⟩, ok_math_Sqrt K ((Fl.mk (k := .f64) 4607182418800017408 (by decide)).add (x37.mul x37)) v40 e41⟩, trivial, trivial, trivial, trivial⟩ ?_
          refine blockQ_normal ?_
          refine thenQ_normal ?_
          refine AW.regionA [] [0, 1, 7, 8, 9] [] (s' := ⟨[(0, (.v (.one (.c (.flt .f64 a0.bits))))), (1, (.v (.one (.c (.flt .f64 a1.bits))))), (7, (.v (.one (.c (.bool (v11.gt v13)))))), (8, (.v (.one (.c (.flt .f64 (x37.div ((Fl.mk (k := .f64) 4607182418800017408 (by decide)).add v40)).bits))))), (9, (.v (.one (.c (.int .i64 (IntKind.i64.wrap (x38 + (1 : Int))))))))], []⟩) (ob := True ∧ True ∧ True ∧ True) (by kernel_rfl) ⟨trivial, trivial, trivial, trivial⟩ ?_
          exact loopQ_normal (k, (x37.div ((Fl.mk (k := .f64) 4607182418800017408 (by decide)).add v40)), (IntKind.i64.wrap (x38 + (1 : Int)))) h (Nat.lt_succ_self k) (Sub.keep [0, 1, 7, 8, 9] [] (by kernel_rfl) (by kernel_rfl))
        · refine AW.cond_f rfl b39 ?_
          refine AW.exit ?_
          refine thenQ_exit ?_
          refine loopQ_exit ?_
          refine blockQ_exit ?_
          refine thenQ_normal ?_
          refine AW.seq ?_
          refine AW.regionA [] [0, 1, 7, 8, 10] [] (s' := ⟨[(0, (.v (.one (.c (.flt .f64 a0.bits))))), (1, (.v (.one (.c (.flt .f64 a1.bits))))), (7, (.v (.one (.c (.bool (v11.gt v13)))))), (8, (.v (.one (.c (.flt .f64 x37.bits))))), (10, (.v (.one (.c (.flt .f64 (x37.mul x37).bits)))))], []⟩) (ob := True ∧ True ∧ True ∧ True ∧ True) (by kernel_rfl) ⟨trivial, trivial, trivial, trivial, trivial⟩ ?_
          refine thenQ_normal ?_
          refine AW.seq ?_
          refine AW.regionA [] [0, 1, 7, 8, 10, 11] [] (s' := ⟨[(0, (.v (.one (.c (.flt .f64 a0.bits))))), (1, (.v (.one (.c (.flt .f64 a1.bits))))), (7, (.v (.one (.c (.bool (v11.gt v13)))))), (8, (.v (.one (.c (.flt .f64 x37.bits))))), (10, (.v (.one (.c (.flt .f64 (x37.mul x37).bits))))), (11, (.v (.one (.c (.flt .f64 (Fl.mk (k := .f64) 0 (by decide)).bits)))))], []⟩) (ob := True ∧ True) (by kernel_rfl) ⟨trivial, trivial⟩ ?_
          refine thenQ_normal ?_
          refine AW.seq ?_
          refine AW.seq ?_
          refine AW.regionA [] [0, 1, 7, 8, 10, 11, 12] [] (s' := ⟨[(0, (.v (.one (.c (.flt .f64 a0.bits))))), (1, (.v (.one (.c (.flt .f64 a1.bits))))), (7, (.v (.one (.c (.bool (v11.gt v13)))))), (8, (.v (.one (.c (.flt .f64 x37.bits))))), (10, (.v (.one (.c (.flt .f64 (x37.mul x37).bits))))), (11, (.v (.one (.c (.flt .f64 (Fl.mk (k := .f64) 0 (by decide)).bits))))), (12, (.v (.one (.c (.int .i64 (15 : Int))))))], []⟩) (ob := True ∧ True) (by kernel_rfl) ⟨trivial, trivial⟩ ?_
          refine thenQ_normal ?_
          refine AW.block ?_
          refine AW.loopQ (σ := Nat × F64 × Int) (fun p => ⟨[(0, (.v (.one (.c (.flt .f64 a0.bits))))), (1, (.v (.one (.c (.flt .f64 a1.bits))))), (7, (.v (.one (.c (.bool (v11.gt v13)))))), (8, (.v (.one (.c (.flt .f64 x37.bits))))), (10, (.v (.one (.c (.flt .f64 (x37.mul x37).bits))))), (11, (.v (.one (.c (.flt .f64 p.2.1.bits))))), (12, (.v (.one (.c (.int .i64 p.2.2)))))], []⟩) (fun p => spec_l01AngleWide_l4 K a0 a1 v11 v13 x37 p.1 p.2.1 p.2.2 = some o) (fun p => p.1) (K, (Fl.mk (k := .f64) 0 (by decide)), (15 : Int)) h ?_
          clear h
          rintro ⟨k, x44, x45⟩ h
          replace h : spec_l01AngleWide_l4 K a0 a1 v11 v13 x37 k x44 x45 = some o := h
          show AW _ _ (⟨[(0, (.v (.one (.c (.flt .f64 a0.bits))))), (1, (.v (.one (.c (.flt .f64 a1.bits))))), (7, (.v (.one (.c (.bool (v11.gt v13)))))), (8, (.v (.one (.c (.flt .f64 x37.bits))))), (10, (.v (.one (.c (.flt .f64 (x37.mul x37).bits))))), (11, (.v (.one (.c (.flt .f64 x44.bits))))), (12, (.v (.one (.c (.int .i64 x45)))))], []⟩ : St) _
          obtain _ | k := k
          · rw [spec_l01AngleWide_l4] at h; cases h
          rw [spec_l01AngleWide_l4] at h
          refine AW.seq ?_
          refine AW.seq ?_
          refine AW.regionA [] [0, 1, 7, 8, 10, 11, 12, 61] [] (s' := ⟨[(0, (.v (.one (.c (.flt .f64 a0.bits))))), (1, (.v (.one (.c (.flt .f64 a1.bits))))), (7, (.v (.one (.c (.bool (v11.gt v13)))))), (8, (.v (.one (.c (.flt .f64 x37.bits))))), (10, (.v (.one (.c (.flt .f64 (x37.mul x37).bits))))), (11, (.v (.one (.c (.flt .f64 x44.bits))))), (12, (.v (.one (.c (.int .i64 x45))))), (61, (.v (.one (.c (.bool (decide (x45 ≥ (1 : Int))))))))], []⟩) (ob := True ∧ True ∧ True) (by kernel_rfl) ⟨trivial, trivial, trivial⟩ ?_
          refine thenQ_normal ?_
          rcases ite2_cases h with ⟨b46, h⟩ | ⟨b46, h⟩
          · refine AW.cond_t rfl b46 ?_
            refine AW.skip ?_
            refine thenQ_normal ?_
            refine AW.seq ?_
            refine AW.block ?_
            refine AW.regionA [] [0, 1, 7, 8, 10, 11, 12] [] (s' := ⟨[(0, (.v (.one (.c (.flt .f64 a0.bits))))), (1, (.v (.one (.c (.flt .f64 a1.bits))))), (7, (.v (.one (.c (.bool (v11.gt v13)))))), (8, (.v (.one (.c (.flt .f64 x37.bits))))), (10, (.v (.one (.c (.flt .f64 (x37.mul x37).bits))))), (11, (.v (.one (.c (.flt .f64 (((Fl.mk (k := .f64) 4607182418800017408 (by decide)).div (Fl.ofInt .f64 x45)).sub ((x37.mul x37).mul x44)).bits))))), (12, (.v (.one (.c (.int .i64 x45)))))], []⟩) (ob := True ∧ True ∧ True ∧ True ∧ True ∧ True ∧ True ∧ True ∧ True) (by kernel_rfl) ⟨trivial, trivial, trivial, trivial, trivial, trivial, trivial, trivial, trivial⟩ ?_
            refine blockQ_normal ?_
            refine thenQ_normal ?_
            refine AW.regionA [] [0, 1, 7, 8, 10, 11, 12] [] (s' := ⟨[(0, (.v (.one (.c (.flt .f64 a0.bits))))), (1, (.v (.one (.c (.flt .f64 a1.bits))))), (7, (.v (.one (.c (.bool (v11.gt v13)))))), (8, (.v (.one (.c (.flt .f64 x37.bits))))), (10, (.v (.one (.c (.flt .f64 (x37.mul x37).bits))))), (11, (.v (.one (.c (.flt .f64 (((Fl.mk (k := .f64) 4607182418800017408 (by decide)).div (Fl.ofInt .f64 x45)).sub ((x37.mul x37).mul x44)).bits))))), (12, (.v (.one (.c (.int .i64 (IntKind.i64.wrap (x45 - (2 : Int))))))))], []⟩) (ob := True ∧ True ∧ True ∧ True) (by kernel_rfl) ⟨trivial, trivial, trivial, trivial⟩ ?_
            exact loopQ_normal (k, (((Fl.mk (k := .f64) 4607182418800017408 (by decide)).div (Fl.ofInt .f64 x45)).sub ((x37.mul x37).mul x44)), (IntKind.i64.wrap (x45 - (2 : Int)))) h (Nat.lt_succ_self k) (Sub.keep [0, 1, 7, 8, 10, 11, 12] [] (by kernel_rfl) (by kernel_rfl))
          · refine AW.cond_f rfl b46 ?_
            refine AW.exit ?_
            refine thenQ_exit ?_
            refine loopQ_exit ?_
            refine blockQ_exit ?_
            refine thenQ_normal ?_
            refine AW.seq ?_
            refine AW.regionA [] [0, 1, 7, 13] [] (s' := ⟨[(0, (.v (.one (.c (.flt .f64 a0.bits))))), (1, (.v (.one (.c (.flt .f64 a1.bits))))), (7, (.v (.one (.c (.bool (v11.gt v13)))))), (13, (.v (.one (.c (.flt .f64 (((Fl.mk (k := .f64) 4620693217682128896 (by decide)).mul (x37.mul x44)).div (Fl.mk (k := .f64) 4618760256179416344 (by decide))).bits)))))], []⟩) (ob := True ∧ True ∧ True ∧ True ∧ True ∧ True ∧ True) (by kernel_rfl) ⟨trivial, trivial, trivial, trivial, trivial, trivial, trivial⟩ ?_
            refine thenQ_normal ?_
            refine AW.seq ?_
            refine AW.seq ?_
            refine AW.regionA [] [0, 1, 13, 76] [] (s' := ⟨[(0, (.v (.one (.c (.flt .f64 a0.bits))))), (1, (.v (.one (.c (.flt .f64 a1.bits))))), (13, (.v (.one (.c (.flt .f64 (((Fl.mk (k := .f64) 4620693217682128896 (by decide)).mul (x37.mul x44)).div (Fl.mk (k := .f64) 4618760256179416344 (by decide))).bits))))), (76, (.v (.one (.c (.bool (v11.gt v13))))))], []⟩) (ob := True ∧ True) (by kernel_rfl) ⟨trivial, trivial⟩ ?_
            refine thenQ_normal ?_
            rcases ite2_cases h with ⟨b47, h⟩ | ⟨b47, h⟩
            · refine AW.cond_t rfl b47 ?_
              refine AW.regionA [] [0, 1, 13] [] (s' := ⟨[(0, (.v (.one (.c (.flt .f64 a0.bits))))), (1, (.v (.one (.c (.flt .f64 a1.bits))))), (13, (.v (.one (.c (.flt .f64 ((Fl.mk (k := .f64) 4598175219545276416 (by decide)).sub (((Fl.mk (k := .f64) 4620693217682128896 (by decide)).mul (x37.mul x44)).div (Fl.mk (k := .f64) 4618760256179416344 (by decide)))).bits)))))], []⟩) (ob := True ∧ True ∧ True ∧ True) (by kernel_rfl) ⟨trivial, trivial, trivial, trivial⟩ ?_
              refine thenQ_normal ?_
              refine AW.seq ?_
              refine AW.seq ?_
              refine AW.regionA [] [0, 13, 80] [] (s' := ⟨[(0, (.v (.one (.c (.flt .f64 a0.bits))))), (13, (.v (.one (.c (.flt .f64 ((Fl.mk (k := .f64) 4598175219545276416 (by decide)).sub (((Fl.mk (k := .f64) 4620693217682128896 (by decide)).mul (x37.mul x44)).div (Fl.mk (k := .f64) 4618760256179416344 (by decide)))).bits))))), (80, (.v (.one (.c (.bool (a1.lt' (Fl.mk (k := .f64) 0 (by decide))))))))], []⟩) (ob := True ∧ True ∧ True) (by kernel_rfl) ⟨trivial, trivial, trivial⟩ ?_
              refine thenQ_normal ?_
              rcases ite2_cases h with ⟨b48, h⟩ | ⟨b48, h⟩
              · refine AW.cond_t rfl b48 ?_
                refine AW.regionA [] [0, 13] [] (s' := ⟨[(0, (.v (.one (.c (.flt .f64 a0.bits))))), (13, (.v (.one (.c (.flt .f64 ((Fl.mk (k := .f64) 4602678819172646912 (by decide)).sub ((Fl.mk (k := .f64) 4598175219545276416 (by decide)).sub (((Fl.mk (k := .f64) 4620693217682128896 (by decide)).mul (x37.mul x44)).div (Fl.mk (k := .f64) 4618760256179416344 (by decide))))).bits)))))], []⟩) (ob := True ∧ True ∧ True ∧ True) (by kernel_rfl) ⟨trivial, trivial, trivial, trivial⟩ ?_
                refine thenQ_normal ?_
                refine AW.seq ?_
                refine AW.seq ?_
                refine AW.regionA [] [13, 84] [] (s' := ⟨[(13, (.v (.one (.c (.flt .f64 ((Fl.mk (k := .f64) 4602678819172646912 (by decide)).sub ((Fl.mk (k := .f64) 4598175219545276416 (by decide)).sub (((Fl.mk (k := .f64) 4620693217682128896 (by decide)).mul (x37.mul x44)).div (Fl.mk (k := .f64) 4618760256179416344 (by decide))))).bits))))), (84, (.v (.one (.c (.bool (a0.lt' (Fl.mk (k := .f64) 0 (by decide))))))))], []⟩) (ob := True ∧ True ∧ True) (by kernel_rfl) ⟨trivial, trivial, trivial⟩ ?_
                refine thenQ_normal ?_
                rcases ite2_cases h with ⟨b49, h⟩ | ⟨b49, h⟩
                · refine AW.cond_t rfl b49 ?_
                  refine AW.seq ?_
                  refine AW.regionA [] [4] [] (s' := ⟨[(4, (.v (.one (.c (.flt .f64 (((Fl.mk (k := .f64) 4602678819172646912 (by decide)).sub ((Fl.mk (k := .f64) 4598175219545276416 (by decide)).sub (((Fl.mk (k := .f64) 4620693217682128896 (by decide)).mul (x37.mul x44)).div (Fl.mk (k := .f64) 4618760256179416344 (by decide))))).neg).bits)))))], []⟩) (ob := True ∧ True ∧ True ∧ True) (by kernel_rfl) ⟨trivial, trivial, trivial, trivial⟩ ?_
                  refine thenQ_normal ?_
                  refine AW.ret ?_
                  refine thenQ_ret ?_
                  replace h := some_eq h
                  subst h
                  exact ⟨.inr rfl, retOK_of [(.one (.c (.flt .f64 (((Fl.mk (k := .f64) 4602678819172646912 (by decide)).sub ((Fl.mk (k := .f64) 4598175219545276416 (by decide)).sub (((Fl.mk (k := .f64) 4620693217682128896 (by decide)).mul (x37.mul x44)).div (Fl.mk (k := .f64) 4618760256179416344 (by decide))))).neg).bits)))] (by kernel_rfl) ⟨⟨rfl, trivial⟩, trivial⟩ (of_decide_eq_true (by kernel_rfl))⟩
                · refine AW.cond_f rfl b49 ?_
                  refine AW.skip ?_
                  refine thenQ_normal ?_
                  refine AW.seq ?_
                  refine AW.regionA [] [4] [] (s' := ⟨[(4, (.v (.one (.c (.flt .f64 ((Fl.mk (k := .f64) 4602678819172646912 (by decide)).sub ((Fl.mk (k := .f64) 4598175219545276416 (by decide)).sub (((Fl.mk (k := .f64) 4620693217682128896 (by decide)).mul (x37.mul x44)).div (Fl.mk (k := .f64) 4618760256179416344 (by decide))))).bits)))))], []⟩) (ob := True ∧ True ∧ True) (by kernel_rfl) ⟨trivial, trivial, trivial⟩ ?_
                  refine thenQ_normal ?_
                  refine AW.ret ?_
                  replace h := some_eq h
                  subst h
                  exact ⟨.inr rfl, retOK_of [(.one (.c (.flt .f64 ((Fl.mk (k := .f64) 4602678819172646912 (by decide)).sub ((Fl.mk (k := .f64) 4598175219545276416 (by decide)).sub (((Fl.mk (k := .f64) 4620693217682128896 (by decide)).mul (x37.mul x44)).div (Fl.mk (k := .f64) 4618760256179416344 (by decide))))).bits)))] (by kernel_rfl) ⟨⟨rfl, trivial⟩, trivial⟩ (of_decide_eq_true (by kernel_rfl))⟩
              · refine AW.cond_f rfl b48 ?_
                refine AW.skip ?_
                refine thenQ_normal ?_
                refine AW.seq ?_
                refine AW.seq ?_
                refine AW.regionA [] [13, 84] [] (s' := ⟨[(13, (.v (.one (.c (.flt .f64 ((Fl.mk (k := .f64) 4598175219545276416 (by decide)).sub (((Fl.mk (k := .f64) 4620693217682128896 (by decide)).mul (x37.mul x44)).div (Fl.mk (k := .f64) 4618760256179416344 (by decide)))).bits))))), (84, (.v (.one (.c (.bool (a0.lt' (Fl.mk (k := .f64) 0 (by decide))))))))], []⟩) (ob := True ∧ True ∧ True) (by kernel_rfl) ⟨trivial, trivial, trivial⟩ ?_
                refine thenQ_normal ?_
                rcases ite2_cases h with ⟨b50, h⟩ | ⟨b50, h⟩
                · refine AW.cond_t rfl b50 ?_
                  refine AW.seq ?_
                  refine AW.regionA [] [4] [] (s' := ⟨[(4, (.v (.one (.c (.flt .f64 (((Fl.mk (k := .f64) 4598175219545276416 (by decide)).sub (((Fl.mk (k := .f64) 4620693217682128896 (by decide)).mul (x37.mul x44)).div (Fl.mk (k := .f64) 4618760256179416344 (by decide)))).neg).bits)))))], []⟩) (ob := True ∧ True ∧ True ∧ True) (by kernel_rfl) ⟨trivial, trivial, trivial, trivial⟩ ?_
                  refine thenQ_normal ?_
                  refine AW.ret ?_
                  refine thenQ_ret ?_
                  replace h := some_eq h
                  subst h
                  exact ⟨.inr rfl, retOK_of [(.one (.c (.flt .f64 (((Fl.mk (k := .f64) 4598175219545276416 (by decide)).sub (((Fl.mk (k := .f64) 4620693217682128896 (by decide)).mul (x37.mul x44)).div (Fl.mk (k := .f64) 4618760256179416344 (by decide)))).neg).bits)))] (by kernel_rfl) ⟨⟨rfl, trivial⟩, trivial⟩ (of_decide_eq_true (by kernel_rfl))⟩
                · refine AW.cond_f rfl b50 ?_
                  refine AW.skip ?_
                  refine thenQ_normal ?_
                  refine AW.seq ?_
                  refine AW.regionA [] [4] [] (s' := ⟨[(4, (.v (.one (.c (.flt .f64 ((Fl.mk (k := .f64) 4598175219545276416 (by decide)).sub (((Fl.mk (k := .f64) 4620693217682128896 (by decide)).mul (x37.mul x44)).div (Fl.mk (k := .f64) 4618760256179416344 (by decide)))).bits)))))], []⟩) (ob := True ∧ True ∧ True) (by kernel_rfl) ⟨trivial, trivial, trivial⟩ ?_
                  refine thenQ_normal ?_
                  refine AW.ret ?_
                  replace h := some_eq h
                  subst h
                  exact ⟨.inr rfl, retOK_of [(.one (.c (.flt .f64 ((Fl.mk (k := .f64) 4598175219545276416 (by decide)).sub (((Fl.mk (k := .f64) 4620693217682128896 (by decide)).mul (x37.mul x44)).div (Fl.mk (k := .f64) 4618760256179416344 (by decide)))).bits)))] (by kernel_rfl) ⟨⟨rfl, trivial⟩, trivial⟩ (of_decide_eq_true (by kernel_rfl))⟩
            · refine AW.cond_f rfl b47 ?_
              refine AW.skip ?_
              refine thenQ_normal ?_
              refine AW.seq ?_
              refine AW.seq ?_
              refine AW.regionA [] [0, 13, 80] [] (s' := ⟨[(0, (.v (.one (.c (.flt .f64 a0.bits))))), (13, (.v (.one (.c (.flt .f64 (((Fl.mk (k := .f64) 4620693217682128896 (by decide)).mul (x37.mul x44)).div (Fl.mk (k := .f64) 4618760256179416344 (by decide))).bits))))), (80, (.v (.one (.c (.bool (a1.lt' (Fl.mk (k := .f64) 0 (by decide))))))))], []⟩) (ob := True ∧ True ∧ True) (by kernel_rfl) ⟨trivial, trivial, trivial⟩ ?_
              refine thenQ_normal ?_
              rcases ite2_cases h with ⟨b51, h⟩ | ⟨b51, h⟩
              · refine AW.cond_t rfl b51 ?_
                refine AW.regionA [] [0, 13] [] (s' := ⟨[(0, (.v (.one (.c (.flt .f64 a0.bits))))), (13, (.v (.one (.c (.flt .f64 ((Fl.mk (k := .f64) 4602678819172646912 (by decide)).sub (((Fl.mk (k := .f64) 4620693217682128896 (by decide)).mul (x37.mul x44)).div (Fl.mk (k := .f64) 4618760256179416344 (by decide)))).bits)))))], []⟩) (ob := True ∧ True ∧ True ∧ True) (by kernel_rfl) ⟨trivial, trivial, trivial, trivial⟩ ?_
                refine thenQ_normal ?_
                refine AW.seq ?_
                refine AW.seq ?_
                refine AW.regionA [] [13, 84] [] (s' := ⟨[(13, (.v (.one (.c (.flt .f64 ((Fl.mk (k := .f64) 4602678819172646912 (by decide)).sub (((Fl.mk (k := .f64) 4620693217682128896 (by decide)).mul (x37.mul x44)).div (Fl.mk (k := .f64) 4618760256179416344 (by decide)))).bits))))), (84, (.v (.one (.c (.bool (a0.lt' (Fl.mk (k := .f64) 0 (by decide))))))))], []⟩) (ob := True ∧ True ∧ True) (by kernel_rfl) ⟨trivial, trivial, trivial⟩ ?_
                refine thenQ_normal ?_
                rcases ite2_cases h with ⟨b52, h⟩ | ⟨b52, h⟩
                · refine AW.cond_t rfl b52 ?_
                  refine AW.seq ?_
                  refine AW.regionA [] [4] [] (s' := ⟨[(4, (.v (.one (.c (.flt .f64 (((Fl.mk (k := .f64) 4602678819172646912 (by decide)).sub (((Fl.mk (k := .f64) 4620693217682128896 (by decide)).mul (x37.mul x44)).div (Fl.mk (k := .f64) 4618760256179416344 (by decide)))).neg).bits)))))], []⟩) (ob := True ∧ True ∧ True ∧ True) (by kernel_rfl) ⟨trivial, trivial, trivial, trivial⟩ ?_
                  refine thenQ_normal ?_
                  refine AW.ret ?_
                  refine thenQ_ret ?_
                  replace h := some_eq h
                  subst h
                  exact ⟨.inr rfl, retOK_of [(.one (.c (.flt .f64 (((Fl.mk (k := .f64) 4602678819172646912 (by decide)).sub (((Fl.mk (k := .f64) 4620693217682128896 (by decide)).mul (x37.mul x44)).div (Fl.mk (k := .f64) 4618760256179416344 (by decide)))).neg).bits)))] (by kernel_rfl) ⟨⟨rfl, trivial⟩, trivial⟩ (of_decide_eq_true (by kernel_rfl))⟩
                · refine AW.cond_f rfl b52 ?_
                  refine AW.skip ?_
                  refine thenQ_normal ?_
                  refine AW.seq ?_
                  refine AW.regionA [] [4] [] (s' := ⟨[(4, (.v (.one (.c (.flt .f64 ((Fl.mk (k := .f64) 4602678819172646912 (by decide)).sub (((Fl.mk (k := .f64) 4620693217682128896 (by decide)).mul (x37.mul x44)).div (Fl.mk (k := .f64) 4618760256179416344 (by decide)))).bits)))))], []⟩) (ob := True ∧ True ∧ True) (by kernel_rfl) ⟨trivial, trivial, trivial⟩ ?_
                  refine thenQ_normal ?_
                  refine AW.ret ?_
                  replace h := some_eq h
                  subst h
                  exact ⟨.inr rfl, retOK_of [(.one (.c (.flt .f64 ((Fl.mk (k := .f64) 4602678819172646912 (by decide)).sub (((Fl.mk (k := .f64) 4620693217682128896 (by decide)).mul (x37.mul x44)).div (Fl.mk (k := .f64) 4618760256179416344 (by decide)))).bits)))] (by kernel_rfl) ⟨⟨rfl, trivial⟩, trivial⟩ (of_decide_eq_true (by kernel_rfl))⟩
              · refine AW.cond_f rfl b51 ?_
                refine AW.skip ?_
                refine thenQ_normal ?_
                refine AW.seq ?_
                refine AW.seq ?_
                refine AW.regionA [] [13, 84] [] (s' := ⟨[(13, (.v (.one (.c (.flt .f64 (((Fl.mk (k := .f64) 4620693217682128896 (by decide)).mul (x37.mul x44)).div (Fl.mk (k := .f64) 4618760256179416344 (by decide))).bits))))), (84, (.v (.one (.c (.bool (a0.lt' (Fl.mk (k := .f64) 0 (by decide))))))))], []⟩) (ob := True ∧ True ∧ True) (by kernel_rfl) ⟨trivial, trivial, trivial⟩ ?_
                refine thenQ_normal ?_
                rcases ite2_cases h with ⟨b53, h⟩ | ⟨b53, h⟩
                · refine AW.cond_t rfl b53 ?_
                  refine AW.seq ?_
                  refine AW.regionA [] [4] [] (s' := ⟨[(4, (.v (.one (.c (.flt .f64 ((((Fl.mk (k := .f64) 4620693217682128896 (by decide)).mul (x37.mul x44)).div (Fl.mk (k := .f64) 4618760256179416344 (by decide))).neg).bits)))))], []⟩) (ob := True ∧ True ∧ True ∧ True) (by kernel_rfl) ⟨trivial, trivial, trivial, trivial⟩ ?_
                  refine thenQ_normal ?_
                  refine AW.ret ?_
                  refine thenQ_ret ?_
                  replace h := some_eq h
                  subst h
                  exact ⟨.inr rfl, retOK_of [(.one (.c (.flt .f64 ((((Fl.mk (k := .f64) 4620693217682128896 (by decide)).mul (x37.mul x44)).div (Fl.mk (k := .f64) 4618760256179416344 (by decide))).neg).bits)))] (by kernel_rfl) ⟨⟨rfl, trivial⟩, trivial⟩ (of_decide_eq_true (by kernel_rfl))⟩
                · refine AW.cond_f rfl b53 ?_
                  refine AW.skip ?_
                  refine thenQ_normal ?_
                  refine AW.seq ?_
                  refine AW.regionA [] [4] [] (s' := ⟨[(4, (.v (.one (.c (.flt .f64 (((Fl.mk (k := .f64) 4620693217682128896 (by decide)).mul (x37.mul x44)).div (Fl.mk (k := .f64) 4618760256179416344 (by decide))).bits)))))], []⟩) (ob := True ∧ True ∧ True) (by kernel_rfl) ⟨trivial, trivial, trivial⟩ ?_
                  refine thenQ_normal ?_
                  refine AW.ret ?_
                  replace h := some_eq h
                  subst h
                  exact ⟨.inr rfl, retOK_of [(.one (.c (.flt .f64 (((Fl.mk (k := .f64) 4620693217682128896 (by decide)).mul (x37.mul x44)).div (Fl.mk (k := .f64) 4618760256179416344 (by decide))).bits)))] (by kernel_rfl) ⟨⟨rfl, trivial⟩, trivial⟩ (of_decide_eq_true (by kernel_rfl))⟩

/-! spec.l01Angle -/
def spec_l01Angle (K : Nat) (a0 : F32) (a1 : F32) : Option (F32) :=
  (spec_l01AngleWide K (Fl.cv .f32 .f64 a0) (Fl.cv .f32 .f64 a1)).bind fun v1 => (spec_l01Narrow K v1).bind fun v3 => some v3

theorem ok_spec_l01Angle (K : Nat) (a0 : F32) (a1 : F32) (o : (F32)) (h : spec_l01Angle K a0 a1 = some o) : CallOK Try.prog 174 [.one (.flt .f32 a0.bits), .one (.flt .f32 a1.bits)] [.one (.flt .f32 o.bits)] := by
  refine callOK_of_AW Try.func174 rfl (by kernel_rfl) (Nat.le_of_ble_eq_true (by kernel_rfl)) ?_
  intro w0
  unfold spec_l01Angle at h
  refine AW.seq ?_
  refine AW.regionA [] [0, 1] [] (s' := ⟨[(0, (.v (.one (.c (.flt .f32 a0.bits))))), (1, (.v (.one (.c (.flt .f32 a1.bits)))))], []⟩) (ob := True ∧ True) (by kernel_rfl) ⟨trivial, trivial⟩ ?_
  refine thenQ_normal ?_
  refine AW.seq ?_
  obtain ⟨v1, e2, h⟩ := bind_some h
  obtain ⟨v3, e4, h⟩ := bind_some h
  refine AW.regionA [.no, .no, .no, .no, .call [.one (.flt .f64 (Fl.cv .f32 .f64 a0).bits), .one (.flt .f64 (Fl.cv .f32 .f64 a1).bits)] [.one (.flt .f64 v1.bits)] [[.view]], .call [.one (.flt .f64 v1.bits)] [.one (.flt .f32 v3.bits)] [[.view]]] [4] [] (s' := ⟨[(4, (.v (.one (.c (.flt .f32 v3.bits)))))], []⟩) (ob := True ∧ ((convBits .f32 a0.bits .f64).isSome = true) ∧ True ∧ ((convBits .f32 a1.bits .f64).isSome = true) ∧ (((((.flt .f64 (Fl.cv .f32 .f64 a0).bits) : C) = (.flt .f64 (Fl.cv .f32 .f64 a0).bits)) ∧ (((.flt .f64 (Fl.cv .f32 .f64 a1).bits) : C) = (.flt .f64 (Fl.cv .f32 .f64 a1).bits)) ∧ True) ∧ CallOK Try.prog 187 [.one (.flt .f64 (Fl.cv .f32 .f64 a0).bits), .one (.flt .f64 (Fl.cv .f32 .f64 a1).bits)] [.one (.flt .f64 v1.bits)]) ∧ (((((.flt .f64 v1.bits) : C) = (.flt .f64 v1.bits)) ∧ True) ∧ CallOK Try.prog 186 [.one (.flt .f64 v1.bits)] [.one (.flt .f32 v3.bits)]) ∧ True ∧ True) (by kernel_rfl) ⟨trivial, cv_wide a0, trivial, cv_wide a1, ⟨⟨rfl, rfl, trivial⟩, ok_spec_l01AngleWide K (Fl.cv .f32 .f64 a0) (Fl.cv .f32 .f64 a1) v1 e2⟩, ⟨⟨rfl, trivial⟩, ok_spec_l01Narrow K v1 v3 e4⟩, trivial, trivial⟩ ?_
  refine thenQ_normal ?_
  refine AW.ret ?_
  replace h := some_eq h
  subst h
  exact ⟨.inr rfl, retOK_of [(.one (.c (.flt .f32 v3.bits)))] (by kernel_rfl) ⟨⟨rfl, trivial⟩, trivial⟩ (of_decide_eq_true (by kernel_rfl))⟩

/-! spec.l02Angle -/
def spec_l02Angle (K : Nat) (a0 : Turn) : Option (F32) :=
  (spec_l02Axis K a0).bind fun v1 => (spec_l01Long K v1).bind fun v3 => (spec_l02Size K a0.W).bind fun v5 => (spec_l01Angle K v3 v5).bind fun v7 => some ((Fl.mk (k := .f32) 1073741824 (by decide)).mul v7)

theorem ok_spec_l02Angle (K : Nat) (a0 : Turn) (o : (F32)) (h : spec_l02Angle K a0 = some o) : CallOK Try.prog 159 [.agg (cs_Turn a0)] [.one (.flt .f32 o.bits)] := by
  refine callOK_of_AW Try.func159 rfl (by kernel_rfl) (Nat.le_of_ble_eq_true (by kernel_rfl)) ?_
  intro w0
  unfold spec_l02Angle at h
  refine AW.seq ?_
  refine AW.regionA [.box 1] [1] [1] (s' := ⟨[(1, (.v (.one (.ptr 1 0))))], [(1, (.box [(.c (.flt .f32 a0.W.bits)), (.c (.flt .f32 a0.X.bits)), (.c (.flt .f32 a0.Y.bits)), (.c (.flt .f32 a0.Z.bits))]))]⟩) (ob := True ∧ True ∧ True) (by kernel_rfl) ⟨trivial, trivial, trivial⟩ ?_
  refine thenQ_normal ?_
  refine AW.seq ?_
  obtain ⟨v1, e2, h⟩ := bind_some h
  obtain ⟨v3, e4, h⟩ := bind_some h
  obtain ⟨v5, e6, h⟩ := bind_some h
  obtain ⟨v7, e8, h⟩ := bind_some h
  refine AW.drawnA (by kernel_rfl) 9 [.no, .call [.agg (cs_Turn a0)] [.agg (cs_Vector v1)] [[.view, .view, .view]], .call [.agg (cs_Vector v1)] [.one (.flt .f32 v3.bits)] [[.view]], .no, .no, .call [.one (.flt .f32 a0.W.bits)] [.one (.flt .f32 v5.bits)] [[.view]], .call [.one (.flt .f32 v3.bits), .one (.flt .f32 v5.bits)] [.one (.flt .f32 v7.bits)] [[.view]]] [2] [] (s' := ⟨[(2, (.v (.one (.c (.flt .f32 ((Fl.mk (k := .f32) 1073741824 (by decide)).mul v7).bits)))))], []⟩) (ob := (True ∧ ((((((.flt .f32 a0.W.bits) : C) = (.flt .f32 a0.W.bits)) ∧ (((.flt .f32 a0.X.bits) : C) = (.flt .f32 a0.X.bits)) ∧ (((.flt .f32 a0.Y.bits) : C) = (.flt .f32 a0.Y.bits)) ∧ (((.flt .f32 a0.Z.bits) : C) = (.flt .f32 a0.Z.bits)) ∧ True) ∧ True) ∧ CallOK Try.prog 176 [.agg (cs_Turn a0)] [.agg (cs_Vector v1)]) ∧ ((((((.flt .f32 v1.X.bits) : C) = (.flt .f32 v1.X.bits)) ∧ (((.flt .f32 v1.Y.bits) : C) = (.flt .f32 v1.Y.bits)) ∧ (((.flt .f32 v1.Z.bits) : C) = (.flt .f32 v1.Z.bits)) ∧ True) ∧ True) ∧ CallOK Try.prog 175 [.agg (cs_Vector v1)] [.one (.flt .f32 v3.bits)]) ∧ True ∧ True ∧ (((((.flt .f32 a0.W.bits) : C) = (.flt .f32 a0.W.bits)) ∧ True) ∧ CallOK Try.prog 177 [.one (.flt .f32 a0.W.bits)] [.one (.flt .f32 v5.bits)]) ∧ (((((.flt .f32 v3.bits) : C) = (.flt .f32 v3.bits)) ∧ (((.flt .f32 v5.bits) : C) = (.flt .f32 v5.bits)) ∧ True) ∧ CallOK Try.prog 174 [.one (.flt .f32 v3.bits), .one (.flt .f32 v5.bits)] [.one (.flt .f32 v7.bits)]) ∧ True ∧ True ∧ True) ∧ (True)) (by kernel_rfl) ⟨⟨trivial, ⟨⟨⟨rfl, rfl, rfl, rfl, trivial⟩, trivial⟩, ok_spec_l02Axis K a0 v1 e2⟩, ⟨⟨⟨rfl, rfl, rfl, trivial⟩, trivial⟩, ok_spec_l01Long K v1 v3 e4⟩, trivial, trivial, ⟨⟨rfl, trivial⟩, ok_spec_l02Size K a0.W v5 e6⟩, ⟨⟨rfl, rfl, trivial⟩, ok_spec_l01Angle K v3 v5 v7 e8⟩, trivial, trivial, trivial⟩, trivial⟩ ?_
  refine thenQ_normal ?_
  refine AW.ret ?_
  replace h := some_eq h
  subst h
  exact ⟨.inr rfl, retOK_of [(.one (.c (.flt .f32 ((Fl.mk (k := .f32) 1073741824 (by decide)).mul v7).bits)))] (by kernel_rfl) ⟨⟨rfl, trivial⟩, trivial⟩ (of_decide_eq_true (by kernel_rfl))⟩

/-! spec.l02Apart -/
def spec_l02Apart (K : Nat) (a0 : Turn) (a1 : Turn) : Option (F32) :=
  (spec_l02Inverse K a0).bind fun v1 => (spec_l02Mul K v1 a1).bind fun v3 => (spec_l02Angle K v3).bind fun v5 => some v5

theorem ok_spec_l02Apart (K : Nat) (a0 : Turn) (a1 : Turn) (o : (F32)) (h : spec_l02Apart K a0 a1 = some o) : CallOK Try.prog 136 [.agg (cs_Turn a0), .agg (cs_Turn a1)] [.one (.flt .f32 o.bits)] := by
  refine callOK_of_AW Try.func136 rfl (by kernel_rfl) (Nat.le_of_ble_eq_true (by kernel_rfl)) ?_
  intro w0
  unfold spec_l02Apart at h
  refine AW.seq ?_
  refine AW.regionA [.box 1, .box 2] [2, 3] [1, 2] (s' := ⟨[(2, (.v (.one (.ptr 1 0)))), (3, (.v (.one (.ptr 2 0))))], [(1, (.box [(.c (.flt .f32 a0.W.bits)), (.c (.flt .f32 a0.X.bits)), (.c (.flt .f32 a0.Y.bits)), (.c (.flt .f32 a0.Z.bits))])), (2, (.box [(.c (.flt .f32 a1.W.bits)), (.c (.flt .f32 a1.X.bits)), (.c (.flt .f32 a1.Y.bits)), (.c (.flt .f32 a1.Z.bits))]))]⟩) (ob := True ∧ True ∧ True ∧ True) (by kernel_rfl) ⟨trivial, trivial, trivial, trivial⟩ ?_
  refine thenQ_normal ?_
  refine AW.seq ?_
  obtain ⟨v1, e2, h⟩ := bind_some h
  obtain ⟨v3, e4, h⟩ := bind_some h
  obtain ⟨v5, e6, h⟩ := bind_some h
  refine AW.drawnA (by kernel_rfl) 6 [.no, .call [.agg (cs_Turn a0)] [.agg (cs_Turn v1)] [[.view, .view, .view, .view]], .no, .call [.agg (cs_Turn v1), .agg (cs_Turn a1)] [.agg (cs_Turn v3)] [[.view, .view, .view, .view]], .call [.agg (cs_Turn v3)] [.one (.flt .f32 v5.bits)] [[.view]]] [4] [] (s' := ⟨[(4, (.v (.one (.c (.flt .f32 v5.bits)))))], []⟩) (ob := (True ∧ ((((((.flt .f32 a0.W.bits) : C) = (.flt .f32 a0.W.bits)) ∧ (((.flt .f32 a0.X.bits) : C) = (.flt .f32 a0.X.bits)) ∧ (((.flt .f32 a0.Y.bits) : C) = (.flt .f32 a0.Y.bits)) ∧ (((.flt .f32 a0.Z.bits) : C) = (.flt .f32 a0.Z.bits)) ∧ True) ∧ True) ∧ CallOK Try.prog 161 [.agg (cs_Turn a0)] [.agg (cs_Turn v1)]) ∧ True ∧ ((((((.flt .f32 v1.W.bits) : C) = (.flt .f32 v1.W.bits)) ∧ (((.flt .f32 v1.X.bits) : C) = (.flt .f32 v1.X.bits)) ∧ (((.flt .f32 v1.Y.bits) : C) = (.flt .f32 v1.Y.bits)) ∧ (((.flt .f32 v1.Z.bits) : C) = (.flt .f32 v1.Z.bits)) ∧ True) ∧ ((((.flt .f32 a1.W.bits) : C) = (.flt .f32 a1.W.bits)) ∧ (((.flt .f32 a1.X.bits) : C) = (.flt .f32 a1.X.bits)) ∧ (((.flt .f32 a1.Y.bits) : C) = (.flt .f32 a1.Y.bits)) ∧ (((.flt .f32 a1.Z.bits) : C) = (.flt .f32 a1.Z.bits)) ∧ True) ∧ True) ∧ CallOK Try.prog 160 [.agg (cs_Turn v1), .agg (cs_Turn a1)] [.agg (cs_Turn v3)]) ∧ ((((((.flt .f32 v3.W.bits) : C) = (.flt .f32 v3.W.bits)) ∧ (((.flt .f32 v3.X.bits) : C) = (.flt .f32 v3.X.bits)) ∧ (((.flt .f32 v3.Y.bits) : C) = (.flt .f32 v3.Y.bits)) ∧ (((.flt .f32 v3.Z.bits) : C) = (.flt .f32 v3.Z.bits)) ∧ True) ∧ True) ∧ CallOK Try.prog 159 [.agg (cs_Turn v3)] [.one (.flt .f32 v5.bits)]) ∧ True ∧ True) ∧ (True)) (by kernel_rfl) ⟨⟨trivial, ⟨⟨⟨rfl, rfl, rfl, rfl, trivial⟩, trivial⟩, ok_spec_l02Inverse K a0 v1 e2⟩, trivial, ⟨⟨⟨rfl, rfl, rfl, rfl, trivial⟩, ⟨rfl, rfl, rfl, rfl, trivial⟩, trivial⟩, ok_spec_l02Mul K v1 a1 v3 e4⟩, ⟨⟨⟨rfl, rfl, rfl, rfl, trivial⟩, trivial⟩, ok_spec_l02Angle K v3 v5 e6⟩, trivial, trivial⟩, trivial⟩ ?_
  refine thenQ_normal ?_
  refine AW.ret ?_
  replace h := some_eq h
  subst h
  exact ⟨.inr rfl, retOK_of [(.one (.c (.flt .f32 v5.bits)))] (by kernel_rfl) ⟨⟨rfl, trivial⟩, trivial⟩ (of_decide_eq_true (by kernel_rfl))⟩

/-! spec.l01Sum -/
def spec_l01Sum_l1 (K : Nat) (a0 : (List F32)) : Nat → F32 → Int → Option (F32)
  | 0, _, _ => none
  | k + 1, x3, x4 => ite2 ((decide (x4 < (a0.length : Int)))) (chk (0 ≤ x4 ∧ x4 < (a0.length : Int)) (spec_l01Sum_l1 K a0 k (x3.add (a0.getD x4.toNat default)) (IntKind.i64.wrap (x4 + (1 : Int))))) (some x3)

def spec_l01Sum (K : Nat) (a0 : (List F32)) : Option (F32) :=
  spec_l01Sum_l1 K a0 K (Fl.mk (k := .f32) 0 (by decide)) (0 : Int)

theorem ok_spec_l01Sum (K : Nat) (a0 : (List F32)) (o : (F32)) (h : spec_l01Sum K a0 = some o) : CallOK Try.prog 137 [.one (sl 1 (csF .f32) a0)] [.one (.flt .f32 o.bits)] := by
  refine callOK_of_AW Try.func137 rfl (by kernel_rfl) (Nat.le_of_ble_eq_true (by kernel_rfl)) ?_
  intro w0
  unfold spec_l01Sum at h
  refine AW.seq ?_
  refine AW.regionA [] [0] [] (s' := ⟨[(0, (.v (.one (.c (sl 1 (csF .f32) a0)))))], []⟩) (ob := True ∧ True) (by kernel_rfl) ⟨trivial, trivial⟩ ?_
  refine thenQ_normal ?_
  refine AW.seq ?_
  refine AW.regionA [] [0, 3] [] (s' := ⟨[(0, (.v (.one (.c (sl 1 (csF .f32) a0))))), (3, (.v (.one (.c (.flt .f32 (Fl.mk (k := .f32) 0 (by decide)).bits)))))], []⟩) (ob := True ∧ True) (by kernel_rfl) ⟨trivial, trivial⟩ ?_
  refine thenQ_normal ?_
  refine AW.seq ?_
  refine AW.seq ?_
  refine AW.regionA [] [0, 3, 4] [] (s' := ⟨[(0, (.v (.one (.c (sl 1 (csF .f32) a0))))), (3, (.v (.one (.c (.flt .f32 (Fl.mk (k := .f32) 0 (by decide)).bits))))), (4, (.v (.one (.c (.int .i64 (0 : Int))))))], []⟩) (ob := True ∧ True) (by kernel_rfl) ⟨trivial, trivial⟩ ?_
  refine thenQ_normal ?_
  refine AW.block ?_
  refine AW.loopQ (σ := Nat × F32 × Int) (fun p => ⟨[(0, (.v (.one (.c (sl 1 (csF .f32) a0))))), (3, (.v (.one (.c (.flt .f32 p.2.1.bits))))), (4, (.v (.one (.c (.int .i64 p.2.2)))))], []⟩) (fun p => spec_l01Sum_l1 K a0 p.1 p.2.1 p.2.2 = some o) (fun p => p.1) (K, (Fl.mk (k := .f32) 0 (by decide)), (0 : Int)) h ?_
  clear h
  rintro ⟨k, x3, x4⟩ h
  replace h : spec_l01Sum_l1 K a0 k x3 x4 = some o := h
  show AW _ _ (⟨[(0, (.v (.one (.c (sl 1 (csF .f32) a0))))), (3, (.v (.one (.c (.flt .f32 x3.bits))))), (4, (.v (.one (.c (.int .i64 x4)))))], []⟩ : St) _
  obtain _ | k := k
  · rw [spec_l01Sum_l1] at h; cases h
  rw [spec_l01Sum_l1] at h
  refine AW.seq ?_
  refine AW.seq ?_
  refine AW.regionA [] [0, 3, 4, 8] [] (s' := ⟨[(0, (.v (.one (.c (sl 1 (csF .f32) a0))))), (3, (.v (.one (.c (.flt .f32 x3.bits))))), (4, (.v (.one (.c (.int .i64 x4))))), (8, (.v (.one (.c (.bool (decide (x4 < (a0.length : Int))))))))], []⟩) (ob := True ∧ True ∧ True ∧ True ∧ True) (by kernel_rfl) ⟨trivial, trivial, trivial, trivial, trivial⟩ ?_
  refine thenQ_normal ?_
  rcases ite2_cases h with ⟨b5, h⟩ | ⟨b5, h⟩
  · refine AW.cond_t rfl b5 ?_
    refine AW.skip ?_
    refine thenQ_normal ?_
    refine AW.seq ?_
    refine AW.block ?_
    obtain ⟨c6, h⟩ := chk_some h
    refine AW.regionA [] [0, 3, 4] [] (s' := ⟨[(0, (.v (.one (.c (sl 1 (csF .f32) a0))))), (3, (.v (.one (.c (.flt .f32 (x3.add (a0.getD x4.toNat default)).bits))))), (4, (.v (.one (.c (.int .i64 x4)))))], []⟩) (ob := True ∧ True ∧ True ∧ (0 ≤ x4 ∧ x4 < (a0.length : Int)) ∧ True ∧ True ∧ True ∧ True) (by kernel_rfl) ⟨trivial, trivial, trivial, c6, trivial, trivial, trivial, trivial⟩ ?_
    refine blockQ_normal ?_
    refine thenQ_normal ?_
    refine AW.regionA [] [0, 3, 4] [] (s' := ⟨[(0, (.v (.one (.c (sl 1 (csF .f32) a0))))), (3, (.v (.one (.c (.flt .f32 (x3.add (a0.getD x4.toNat default)).bits))))), (4, (.v (.one (.c (.int .i64 (IntKind.i64.wrap (x4 + (1 : Int))))))))], []⟩) (ob := True ∧ True ∧ True ∧ True) (by kernel_rfl) ⟨trivial, trivial, trivial, trivial⟩ ?_
    exact loopQ_normal (k, (x3.add (a0.getD x4.toNat default)), (IntKind.i64.wrap (x4 + (1 : Int)))) h (Nat.lt_succ_self k) (Sub.keep [0, 3, 4] [] (by kernel_rfl) (by kernel_rfl))
  · refine AW.cond_f rfl b5 ?_
    refine AW.exit ?_
    refine thenQ_exit ?_
    refine loopQ_exit ?_
    refine blockQ_exit ?_
    refine thenQ_normal ?_
    refine AW.seq ?_
    refine AW.regionA [] [2] [] (s' := ⟨[(2, (.v (.one (.c (.flt .f32 x3.bits)))))], []⟩) (ob := True ∧ True ∧ True) (by kernel_rfl) ⟨trivial, trivial, trivial⟩ ?_
    refine thenQ_normal ?_
    refine AW.ret ?_
    replace h := some_eq h
    subst h
    exact ⟨.inr rfl, retOK_of [(.one (.c (.flt .f32 x3.bits)))] (by kernel_rfl) ⟨⟨rfl, trivial⟩, trivial⟩ (of_decide_eq_true (by kernel_rfl))⟩

/-! spec.l10Motion -/
def spec_l10Motion_l4 (K : Nat) (a0 : (List Pose)) (x3 : Int) : Nat → Int → (List F32) → Option ((List F32))
  | 0, _, _ => none
  | k + 1, x22, x23 => chk (0 ≤ x3 ∧ x3 < (a0.length : Int)) (ite2 ((decide (x22 < (((a0.getD x3.toNat default).Turns).length : Int)))) (chk (0 ≤ (IntKind.i64.wrap (x3 - (1 : Int))) ∧ (IntKind.i64.wrap (x3 - (1 : Int))) < (a0.length : Int)) (chk (0 ≤ x22 ∧ x22 < (((a0.getD ((IntKind.i64.wrap (x3 - (1 : Int))).toNat) default).Turns).length : Int)) (chk (0 ≤ x22 ∧ x22 < (((a0.getD x3.toNat default).Turns).length : Int)) ((spec_l02Apart K (((a0.getD ((IntKind.i64.wrap (x3 - (1 : Int))).toNat) default).Turns).getD x22.toNat default) (((a0.getD x3.toNat default).Turns).getD x22.toNat default)).bind fun v29 => chk ((x23.length + ([v29]).length) * 4 ≤ 140737488355328) (spec_l10Motion_l4 K a0 x3 k (IntKind.i64.wrap (x22 + (1 : Int))) (x23 ++ ([v29]))))))) (some x23))

def spec_l10Motion_l3 (K : Nat) (a0 : (List Pose)) : Nat → Int → (List F32) → Option ((List F32))
  | 0, _, _ => none
  | k + 1, x3, x4 => ite2 ((decide (x3 < (a0.length : Int)))) ((spec_l10Motion_l4 K a0 x3 K (0 : Int) ([] : List F32)).bind fun j18 => (spec_l01Sum K j18).bind fun v32 => chk ((x4.length + ([v32]).length) * 4 ≤ 140737488355328) (spec_l10Motion_l3 K a0 k (IntKind.i64.wrap (x3 + (1 : Int))) (x4 ++ ([v32])))) (some x4)

def spec_l10Motion (K : Nat) (a0 : (List Pose)) : Option ((List F32)) :=
  spec_l10Motion_l3 K a0 K (1 : Int) ([] : List F32)

theorem ok_spec_l10Motion (K : Nat) (a0 : (List Pose)) (o : ((List F32))) (h : spec_l10Motion K a0 = some o) : CallOK Try.prog 96 [.one (sl 4 cs_Pose a0)] [.one (sl 1 (csF .f32) o)] := by
  refine callOK_of_AW Try.func96 rfl (by kernel_rfl) (Nat.le_of_ble_eq_true (by kernel_rfl)) ?_
  intro w0
  unfold spec_l10Motion at h
  refine AW.seq ?_
  refine AW.regionA [] [0] [] (s' := ⟨[(0, (.v (.one (.c (sl 4 cs_Pose a0)))))], []⟩) (ob := True ∧ True) (by kernel_rfl) ⟨trivial, trivial⟩ ?_
  refine thenQ_normal ?_
  refine AW.seq ?_
  refine AW.regionA [.obj 1 ([] : List F32).length (gl (csF .f32) ([] : List F32))] [0, 3] [1] (s' := ⟨[(0, (.v (.one (.c (sl 4 cs_Pose a0))))), (3, (.v (.one (.lst 1 ([] : List F32).length 1 (gl (csF .f32) ([] : List F32))))))], [(1, (.lst ([] : List F32).length 1 (gl (csF .f32) ([] : List F32))))]⟩) (ob := (([] : List F32).length = 0 ∧ True) ∧ True ∧ True) (by kernel_rfl) ⟨⟨rfl, trivial⟩, trivial, trivial⟩ ?_
  refine thenQ_normal ?_
  refine AW.seq ?_
  refine AW.seq ?_
  refine AW.regionA [] [0, 3, 4] [1] (s' := ⟨[(0, (.v (.one (.c (sl 4 cs_Pose a0))))), (3, (.v (.one (.lst 1 ([] : List F32).length 1 (gl (csF .f32) ([] : List F32)))))), (4, (.v (.one (.c (.int .i64 (1 : Int))))))], [(1, (.lst ([] : List F32).length 1 (gl (csF .f32) ([] : List F32))))]⟩) (ob := True ∧ True) (by kernel_rfl) ⟨trivial, trivial⟩ ?_
  refine thenQ_normal ?_
  refine AW.block ?_
  refine AW.loopQ (σ := Nat × Int × (List F32)) (fun p => ⟨[(0, (.v (.one (.c (sl 4 cs_Pose a0))))), (3, (.v (.one (.lst 1 p.2.2.length 1 (gl (csF .f32) p.2.2))))), (4, (.v (.one (.c (.int .i64 p.2.1)))))], [(1, (.lst p.2.2.length 1 (gl (csF .f32) p.2.2)))]⟩) (fun p => spec_l10Motion_l3 K a0 p.1 p.2.1 p.2.2 = some o) (fun p => p.1) (K, (1 : Int), ([] : List F32)) h ?_
  clear h
  rintro ⟨k, x3, x4⟩ h
  replace h : spec_l10Motion_l3 K a0 k x3 x4 = some o := h
  show AW _ _ (⟨[(0, (.v (.one (.c (sl 4 cs_Pose a0))))), (3, (.v (.one (.lst 1 x4.length 1 (gl (csF .f32) x4))))), (4, (.v (.one (.c (.int .i64 x3)))))], [(1, (.lst x4.length 1 (gl (csF .f32) x4)))]⟩ : St) _
  obtain _ | k := k
  · rw [spec_l10Motion_l3] at h; cases h
  rw [spec_l10Motion_l3] at h
  refine AW.seq ?_
  refine AW.seq ?_
  refine AW.regionA [] [0, 3, 4, 11] [1] (s' := ⟨[(0, (.v (.one (.c (sl 4 cs_Pose a0))))), (3, (.v (.one (.lst 1 x4.length 1 (gl (csF .f32) x4))))), (4, (.v (.one (.c (.int .i64 x3))))), (11, (.v (.one (.c (.bool (decide (x3 < (a0.length : Int))))))))], [(1, (.lst x4.length 1 (gl (csF .f32) x4)))]⟩) (ob := True ∧ True ∧ True ∧ True ∧ True) (by kernel_rfl) ⟨trivial, trivial, trivial, trivial, trivial⟩ ?_
  refine thenQ_normal ?_
  rcases ite2_cases h with ⟨b5, h⟩ | ⟨b5, h⟩
  · refine AW.cond_t rfl b5 ?_
    refine AW.skip ?_
    refine thenQ_normal ?_
    refine AW.seq ?_
    refine AW.block ?_
    refine AW.seq ?_
    refine AW.regionA [.obj 32 ([] : List F32).length (gl (csF .f32) ([] : List F32))] [0, 3, 4, 5] [1, 32] (s' := ⟨[(0, (.v (.one (.c (sl 4 cs_Pose a0))))), (3, (.v (.one (.lst 1 x4.length 1 (gl (csF .f32) x4))))), (4, (.v (.one (.c (.int .i64 x3))))), (5, (.v (.one (.lst 32 ([] : List F32).length 1 (gl (csF .f32) ([] : List F32))))))], [(1, (.lst x4.length 1 (gl (csF .f32) x4))), (32, (.lst ([] : List F32).length 1 (gl (csF .f32) ([] : List F32))))]⟩) (ob := (([] : List F32).length = 0 ∧ True) ∧ True ∧ True) (by kernel_rfl) ⟨⟨rfl, trivial⟩, trivial, trivial⟩ ?_
    refine thenQ_normal ?_
    refine AW.seq ?_
    refine AW.seq ?_
    refine AW.regionA [] [0, 3, 4, 5, 6] [1, 32] (s' := ⟨[(0, (.v (.one (.c (sl 4 cs_Pose a0))))), (3, (.v (.one (.lst 1 x4.length 1 (gl (csF .f32) x4))))), (4, (.v (.one (.c (.int .i64 x3))))), (5, (.v (.one (.lst 32 ([] : List F32).length 1 (gl (csF .f32) ([] : List F32)))))), (6, (.v (.one (.c (.int .i64 (0 : Int))))))], [(1, (.lst x4.length 1 (gl (csF .f32) x4))), (32, (.lst ([] : List F32).length 1 (gl (csF .f32) ([] : List F32))))]⟩) (ob := True ∧ True) (by kernel_rfl) ⟨trivial, trivial⟩ ?_
    refine thenQ_normal ?_
    obtain ⟨j18, e19, h⟩ := bind_some h
    refine AW.joinS (s2 := ⟨[(0, (.v (.one (.c (sl 4 cs_Pose a0))))), (3, (.v (.one (.lst 1 x4.length 1 (gl (csF .f32) x4))))), (4, (.v (.one (.c (.int .i64 x3))))), (5, (.v (.one (.lst 32 j18.length 1 (gl (csF .f32) j18)))))], [(1, (.lst x4.length 1 (gl (csF .f32) x4))), (32, (.lst j18.length 1 (gl (csF .f32) j18)))]⟩) ?_ ?_
    · replace h := e19
      refine AW.block ?_
      refine AW.loopQ (σ := Nat × Int × (List F32)) (fun p => ⟨[(0, (.v (.one (.c (sl 4 cs_Pose a0))))), (3, (.v (.one (.lst 1 x4.length 1 (gl (csF .f32) x4))))), (4, (.v (.one (.c (.int .i64 x3))))), (5, (.v (.one (.lst 32 p.2.2.length 1 (gl (csF .f32) p.2.2))))), (6, (.v (.one (.c (.int .i64 p.2.1)))))], [(1, (.lst x4.length 1 (gl (csF .f32) x4))), (32, (.lst p.2.2.length 1 (gl (csF .f32) p.2.2)))]⟩) (fun p => spec_l10Motion_l4 K a0 x3 p.1 p.2.1 p.2.2 = some j18) (fun p => p.1) (K, (0 : Int), ([] : List F32)) h ?_
      clear h
      rintro ⟨k, x22, x23⟩ h
      replace h : spec_l10Motion_l4 K a0 x3 k x22 x23 = some j18 := h
      show AW _ _ (⟨[(0, (.v (.one (.c (sl 4 cs_Pose a0))))), (3, (.v (.one (.lst 1 x4.length 1 (gl (csF .f32) x4))))), (4, (.v (.one (.c (.int .i64 x3))))), (5, (.v (.one (.lst 32 x23.length 1 (gl (csF .f32) x23))))), (6, (.v (.one (.c (.int .i64 x22)))))], [(1, (.lst x4.length 1 (gl (csF .f32) x4))), (32, (.lst x23.length 1 (gl (csF .f32) x23)))]⟩ : St) _
      obtain _ | k := k
      · rw [spec_l10Motion_l4] at h; cases h
      rw [spec_l10Motion_l4] at h
      refine AW.seq ?_
      refine AW.seq ?_
      obtain ⟨c24, h⟩ := chk_some h
      refine AW.regionA [] [0, 3, 4, 5, 6, 22] [1, 32] (s' := ⟨[(0, (.v (.one (.c (sl 4 cs_Pose a0))))), (3, (.v (.one (.lst 1 x4.length 1 (gl (csF .f32) x4))))), (4, (.v (.one (.c (.int .i64 x3))))), (5, (.v (.one (.lst 32 x23.length 1 (gl (csF .f32) x23))))), (6, (.v (.one (.c (.int .i64 x22))))), (22, (.v (.one (.c (.bool (decide (x22 < (((a0.getD x3.toNat default).Turns).length : Int))))))))], [(1, (.lst x4.length 1 (gl (csF .f32) x4))), (32, (.lst x23.length 1 (gl (csF .f32) x23)))]⟩) (ob := True ∧ True ∧ True ∧ (0 ≤ x3 ∧ x3 < (a0.length : Int)) ∧ True ∧ True ∧ True ∧ True ∧ True) (by kernel_rfl) ⟨trivial, trivial, trivial, c24, trivial, trivial, trivial, trivial, trivial⟩ ?_
      refine thenQ_normal ?_
      rcases ite2_cases h with ⟨b25, h⟩ | ⟨b25, h⟩
      · refine AW.cond_t rfl b25 ?_
        refine AW.skip ?_
        refine thenQ_normal ?_
        refine AW.seq ?_
        refine AW.block ?_
        obtain ⟨c26, h⟩ := chk_some h
        obtain ⟨c27, h⟩ := chk_some h
        obtain ⟨c28, h⟩ := chk_some h
        obtain ⟨v29, e30, h⟩ := bind_some h
        obtain ⟨c31, h⟩ := chk_some h
        refine AW.drawnA (by kernel_rfl) 21 [.no, .no, .no, .no, .no, .no, .no, .no, .no, .no, .no, .no, .no, .no, .no, .no, .no, .no, .call [.agg (cs_Turn (((a0.getD ((IntKind.i64.wrap (x3 - (1 : Int))).toNat) default).Turns).getD x22.toNat default)), .agg (cs_Turn (((a0.getD x3.toNat default).Turns).getD x22.toNat default))] [.one (.flt .f32 v29.bits)] [[.view]], .obj 43 ([v29]).length (gl (csF .f32) ([v29])), .objK 44 (x23 ++ ([v29])).length (gl (csF .f32) (x23 ++ ([v29])))] [0, 3, 4, 5, 6] [1, 44] (s' := ⟨[(0, (.v (.one (.c (sl 4 cs_Pose a0))))), (3, (.v (.one (.lst 1 x4.length 1 (gl (csF .f32) x4))))), (4, (.v (.one (.c (.int .i64 x3))))), (5, (.v (.one (.lst 44 (x23 ++ ([v29])).length 1 (gl (csF .f32) (x23 ++ ([v29]))))))), (6, (.v (.one (.c (.int .i64 x22)))))], [(1, (.lst x4.length 1 (gl (csF .f32) x4))), (44, (.lst (x23 ++ ([v29])).length 1 (gl (csF .f32) (x23 ++ ([v29])))))]⟩) (ob := (True ∧ True ∧ True ∧ True ∧ (0 ≤ (IntKind.i64.wrap (x3 - (1 : Int))) ∧ (IntKind.i64.wrap (x3 - (1 : Int))) < (a0.length : Int)) ∧ True ∧ True ∧ True ∧ (0 ≤ x22 ∧ x22 < (((a0.getD ((IntKind.i64.wrap (x3 - (1 : Int))).toNat) default).Turns).length : Int)) ∧ True ∧ True ∧ True ∧ (0 ≤ x3 ∧ x3 < (a0.length : Int)) ∧ True ∧ True ∧ True ∧ (0 ≤ x22 ∧ x22 < (((a0.getD x3.toNat default).Turns).length : Int)) ∧ True ∧ ((((((.flt .f32 ((((a0.getD ((IntKind.i64.wrap (x3 - (1 : Int))).toNat) default).Turns).getD x22.toNat default).W).bits) : C) = (.flt .f32 ((((a0.getD ((IntKind.i64.wrap (x3 - (1 : Int))).toNat) default).Turns).getD x22.toNat default).W).bits)) ∧ (((.flt .f32 ((((a0.getD ((IntKind.i64.wrap (x3 - (1 : Int))).toNat) default).Turns).getD x22.toNat default).X).bits) : C) = (.flt .f32 ((((a0.getD ((IntKind.i64.wrap (x3 - (1 : Int))).toNat) default).Turns).getD x22.toNat default).X).bits)) ∧ (((.flt .f32 ((((a0.getD ((IntKind.i64.wrap (x3 - (1 : Int))).toNat) default).Turns).getD x22.toNat default).Y).bits) : C) = (.flt .f32 ((((a0.getD ((IntKind.i64.wrap (x3 - (1 : Int))).toNat) default).Turns).getD x22.toNat default).Y).bits)) ∧ (((.flt .f32 ((((a0.getD ((IntKind.i64.wrap (x3 - (1 : Int))).toNat) default).Turns).getD x22.toNat default).Z).bits) : C) = (.flt .f32 ((((a0.getD ((IntKind.i64.wrap (x3 - (1 : Int))).toNat) default).Turns).getD x22.toNat default).Z).bits)) ∧ True) ∧ ((((.flt .f32 ((((a0.getD x3.toNat default).Turns).getD x22.toNat default).W).bits) : C) = (.flt .f32 ((((a0.getD x3.toNat default).Turns).getD x22.toNat default).W).bits)) ∧ (((.flt .f32 ((((a0.getD x3.toNat default).Turns).getD x22.toNat default).X).bits) : C) = (.flt .f32 ((((a0.getD x3.toNat default).Turns).getD x22.toNat default).X).bits)) ∧ (((.flt .f32 ((((a0.getD x3.toNat default).Turns).getD x22.toNat default).Y).bits) : C) = (.flt .f32 ((((a0.getD x3.toNat default).Turns).getD x22.toNat default).Y).bits)) ∧ (((.flt .f32 ((((a0.getD x3.toNat default).Turns).getD x22.toNat default).Z).bits) : C) = (.flt .f32 ((((a0.getD x3.toNat default).Turns).getD x22.toNat default).Z).bits)) ∧ True) ∧ True) ∧ CallOK Try.prog 136 [.agg (cs_Turn (((a0.getD ((IntKind.i64.wrap (x3 - (1 : Int))).toNat) default).Turns).getD x22.toNat default)), .agg (cs_Turn (((a0.getD x3.toNat default).Turns).getD x22.toNat default))] [.one (.flt .f32 v29.bits)]) ∧ (([v29]).length = 1 ∧ (((.flt .f32 v29.bits) : C) = (.flt .f32 v29.bits) ∧ True) ∧ True) ∧ ((x23 ++ ([v29])).length = x23.length + ([v29]).length ∧ AppOb (x23.length) (([v29]).length) 1 (gl (csF .f32) x23) (gl (csF .f32) ([v29])) (gl (csF .f32) (x23 ++ ([v29]))) ∧ (∀ i j, i < ([v29]).length → j < 1 → scalarC (gl (csF .f32) ([v29]) i j)) ∧ (x23.length + ([v29]).length) * 4 ≤ 140737488355328) ∧ True) ∧ (True ∧ True)) (by kernel_rfl) ⟨⟨trivial, trivial, trivial, trivial, c26, trivial, trivial, trivial, c27, trivial, trivial, trivial, c24, trivial, trivial, trivial, c28, trivial, ⟨⟨⟨rfl, rfl, rfl, rfl, trivial⟩, ⟨rfl, rfl, rfl, rfl, trivial⟩, trivial⟩, ok_spec_l02Apart K (((a0.getD ((IntKind.i64.wrap (x3 - (1 : Int))).toNat) default).Turns).getD x22.toNat default) (((a0.getD x3.toNat default).Turns).getD x22.toNat default) v29 e30⟩, ⟨rfl, ⟨⟨rfl, trivial⟩, trivial⟩⟩, ⟨List.length_append, gl_append, gl_scalar scF _, c31⟩, trivial⟩, ⟨trivial, trivial⟩⟩ ?_
        refine blockQ_normal ?_
        refine thenQ_normal ?_
        refine AW.regionA [] [0, 3, 4, 5, 6] [1, 44] (s' := ⟨[(0, (.v (.one (.c (sl 4 cs_Pose a0))))), (3, (.v (.one (.lst 1 x4.length 1 (gl (csF .f32) x4))))), (4, (.v (.one (.c (.int .i64 x3))))), (5, (.v (.one (.lst 44 (x23 ++ ([v29])).length 1 (gl (csF .f32) (x23 ++ ([v29]))))))), (6, (.v (.one (.c (.int .i64 (IntKind.i64.wrap (x22 + (1 : Int))))))))], [(1, (.lst x4.length 1 (gl (csF .f32) x4))), (44, (.lst (x23 ++ ([v29])).length 1 (gl (csF .f32) (x23 ++ ([v29])))))]⟩) (ob := True ∧ True ∧ True ∧ True) (by kernel_rfl) ⟨trivial, trivial, trivial, trivial⟩ ?_
        exact loopQ_normal (k, (IntKind.i64.wrap (x22 + (1 : Int))), (x23 ++ ([v29]))) h (Nat.lt_succ_self k) (Sub.trans (Sub.swap 32 44 _ (by kernel_rfl) (by kernel_rfl)) (Sub.keep [0, 3, 4, 5, 6] [1, 32] (by kernel_rfl) (by kernel_rfl)))
      · refine AW.cond_f rfl b25 ?_
        refine AW.exit ?_
        refine thenQ_exit ?_
        refine loopQ_exit ?_
        refine blockQ_exit ?_
        replace h := some_eq h
        subst h
        exact ⟨rfl, Sub.keep [0, 3, 4, 5] [1, 32] (by kernel_rfl) (by kernel_rfl)⟩
    refine thenQ_normal ?_
    obtain ⟨v32, e33, h⟩ := bind_some h
    obtain ⟨c34, h⟩ := chk_some h
    refine AW.regionA [.no, .no, .call [.one (sl 1 (csF .f32) j18)] [.one (.flt .f32 v32.bits)] [[.view]], .obj 45 ([v32]).length (gl (csF .f32) ([v32])), .objK 46 (x4 ++ ([v32])).length (gl (csF .f32) (x4 ++ ([v32])))] [0, 3, 4] [46] (s' := ⟨[(0, (.v (.one (.c (sl 4 cs_Pose a0))))), (3, (.v (.one (.lst 46 (x4 ++ ([v32])).length 1 (gl (csF .f32) (x4 ++ ([v32]))))))), (4, (.v (.one (.c (.int .i64 x3)))))], [(46, (.lst (x4 ++ ([v32])).length 1 (gl (csF .f32) (x4 ++ ([v32])))))]⟩) (ob := True ∧ True ∧ (((((sl 1 (csF .f32) j18) : C) = (sl 1 (csF .f32) j18)) ∧ True) ∧ CallOK Try.prog 137 [.one (sl 1 (csF .f32) j18)] [.one (.flt .f32 v32.bits)]) ∧ (([v32]).length = 1 ∧ (((.flt .f32 v32.bits) : C) = (.flt .f32 v32.bits) ∧ True) ∧ True) ∧ ((x4 ++ ([v32])).length = x4.length + ([v32]).length ∧ AppOb (x4.length) (([v32]).length) 1 (gl (csF .f32) x4) (gl (csF .f32) ([v32])) (gl (csF .f32) (x4 ++ ([v32]))) ∧ (∀ i j, i < ([v32]).length → j < 1 → scalarC (gl (csF .f32) ([v32]) i j)) ∧ (x4.length + ([v32]).length) * 4 ≤ 140737488355328) ∧ True ∧ True) (by kernel_rfl) ⟨trivial, trivial, ⟨⟨rfl, trivial⟩, ok_spec_l01Sum K j18 v32 e33⟩, ⟨rfl, ⟨⟨rfl, trivial⟩, trivial⟩⟩, ⟨List.length_append, gl_append, gl_scalar scF _, c34⟩, trivial, trivial⟩ ?_
    refine blockQ_normal ?_
    refine thenQ_normal ?_
    refine AW.regionA [] [0, 3, 4] [46] (s' := ⟨[(0, (.v (.one (.c (sl 4 cs_Pose a0))))), (3, (.v (.one (.lst 46 (x4 ++ ([v32])).length 1 (gl (csF .f32) (x4 ++ ([v32]))))))), (4, (.v (.one (.c (.int .i64 (IntKind.i64.wrap (x3 + (1 : Int))))))))], [(46, (.lst (x4 ++ ([v32])).length 1 (gl (csF .f32) (x4 ++ ([v32])))))]⟩) (ob := True ∧ True ∧ True ∧ True) (by kernel_rfl) ⟨trivial, trivial, trivial, trivial⟩ ?_
    exact loopQ_normal (k, (IntKind.i64.wrap (x3 + (1 : Int))), (x4 ++ ([v32]))) h (Nat.lt_succ_self k) (Sub.trans (Sub.swap 1 46 _ (by kernel_rfl) (by kernel_rfl)) (Sub.keep [0, 3, 4] [1] (by kernel_rfl) (by kernel_rfl)))
  · refine AW.cond_f rfl b5 ?_
    refine AW.exit ?_
    refine thenQ_exit ?_
    refine loopQ_exit ?_
    refine blockQ_exit ?_
    refine thenQ_normal ?_
    refine AW.seq ?_
    refine AW.regionA [] [2] [1] (s' := ⟨[(2, (.v (.one (.lst 1 x4.length 1 (gl (csF .f32) x4)))))], [(1, (.lst x4.length 1 (gl (csF .f32) x4)))]⟩) (ob := True ∧ True ∧ True) (by kernel_rfl) ⟨trivial, trivial, trivial⟩ ?_
    refine thenQ_normal ?_
    refine AW.ret ?_
    replace h := some_eq h
    subst h
    exact ⟨.inr rfl, retOK_of [(.one (.lst 1 x4.length 1 (gl (csF .f32) x4)))] (by kernel_rfl) ⟨rfl, trivial⟩ (of_decide_eq_true (by kernel_rfl))⟩

/-! spec.MotionOf -/
def spec_MotionOf (K : Nat) (a0 : Recording) : Option ((List F32) × Bool) :=
  (spec_l10Is K a0).bind fun v1 => ite2 ((!v1)) (some (([] : (List F32)), false)) ((spec_l10Motion K a0.Frames).bind fun v4 => some (v4, true))

theorem ok_spec_MotionOf (K : Nat) (a0 : Recording) (o : ((List F32) × Bool)) (h : spec_MotionOf K a0 = some o) : CallOK Try.prog 44 [.agg (cs_Recording a0)] [.one (sl 1 (csF .f32) o.1), .one (.bool o.2)] := by
  refine callOK_of_AW Try.func44 rfl (by kernel_rfl) (Nat.le_of_ble_eq_true (by kernel_rfl)) ?_
  intro w0
  unfold spec_MotionOf at h
  refine AW.seq ?_
  refine AW.regionA [.box 1] [1] [1] (s' := ⟨[(1, (.v (.one (.ptr 1 0))))], [(1, (.box [(.c (.int .i64 a0.Bones)), (.c (sl 4 cs_Pose a0.Frames))]))]⟩) (ob := True ∧ True ∧ True ∧ True) (by kernel_rfl) ⟨trivial, trivial, trivial, trivial⟩ ?_
  refine thenQ_normal ?_
  refine AW.seq ?_
  refine AW.seq ?_
  obtain ⟨v1, e2, h⟩ := bind_some h
  refine AW.regionA [.call [.one (pl 2 cs_Recording a0)] [.one (.bool v1)] [[.view]]] [1, 5] [1] (s' := ⟨[(1, (.v (.one (.ptr 1 0)))), (5, (.v (.one (.c (.bool (!v1))))))], [(1, (.box [(.c (.int .i64 a0.Bones)), (.c (sl 4 cs_Pose a0.Frames))]))]⟩) (ob := (((0 = 0 ∧ (((.int .i64 a0.Bones) : C) = (.int .i64 a0.Bones)) ∧ (((sl 4 cs_Pose a0.Frames) : C) = (sl 4 cs_Pose a0.Frames)) ∧ True) ∧ True) ∧ CallOK Try.prog 73 [.one (pl 2 cs_Recording a0)] [.one (.bool v1)]) ∧ True ∧ True) (by kernel_rfl) ⟨⟨⟨⟨rfl, rfl, rfl, trivial⟩, trivial⟩, ok_spec_l10Is K a0 v1 e2⟩, trivial, trivial⟩ ?_
  refine thenQ_normal ?_
  rcases ite2_cases h with ⟨b3, h⟩ | ⟨b3, h⟩
  · refine AW.cond_t rfl b3 ?_
    refine AW.seq ?_
    refine AW.regionA [] [2, 3] [] (s' := ⟨[(2, (.v (.one .nils))), (3, (.v (.one (.c (.bool false)))))], []⟩) (ob := True ∧ True ∧ True) (by kernel_rfl) ⟨trivial, trivial, trivial⟩ ?_
    refine thenQ_normal ?_
    refine AW.ret ?_
    refine thenQ_ret ?_
    replace h := some_eq h
    subst h
    exact ⟨.inr rfl, retOK_of [(.one .nils), (.one (.c (.bool false)))] (by kernel_rfl) ⟨rfl, ⟨rfl, trivial⟩, trivial⟩ (of_decide_eq_true (by kernel_rfl))⟩
  · refine AW.cond_f rfl b3 ?_
    refine AW.skip ?_
    refine thenQ_normal ?_
    refine AW.seq ?_
    obtain ⟨v4, e5, h⟩ := bind_some h
    refine AW.regionA [.no, .no, .call [.one (sl 4 cs_Pose a0.Frames)] [.one (sl 1 (csF .f32) v4)] [[.lst 2]]] [2, 3] [2] (s' := ⟨[(2, (.v (.one (.lst 2 v4.length 1 (gl (csF .f32) v4))))), (3, (.v (.one (.c (.bool true)))))], [(2, (.lst v4.length 1 (gl (csF .f32) v4)))]⟩) (ob := True ∧ True ∧ (((((sl 4 cs_Pose a0.Frames) : C) = (sl 4 cs_Pose a0.Frames)) ∧ True) ∧ CallOK Try.prog 96 [.one (sl 4 cs_Pose a0.Frames)] [.one (sl 1 (csF .f32) v4)]) ∧ True ∧ True ∧ True) (by kernel_rfl) ⟨trivial, trivial, ⟨⟨rfl, trivial⟩, ok_spec_l10Motion K a0.Frames v4 e5⟩, trivial, trivial, trivial⟩ ?_
    refine thenQ_normal ?_
    refine AW.ret ?_
    replace h := some_eq h
    subst h
    exact ⟨.inr rfl, retOK_of [(.one (.lst 2 v4.length 1 (gl (csF .f32) v4))), (.one (.c (.bool true)))] (by kernel_rfl) ⟨rfl, ⟨rfl, trivial⟩, trivial⟩ (of_decide_eq_true (by kernel_rfl))⟩

/-! impl.isCount -/
def impl_isCount (_K : Nat) (a0 : Int) : Option (Bool) :=
  (ite2 ((decide (a0 ≥ (1 : Int)))) (some (decide (a0 ≤ (12 : Int)))) (some false)).bind fun j2 => some j2

theorem ok_impl_isCount (K : Nat) (a0 : Int) (o : (Bool)) (h : impl_isCount K a0 = some o) : CallOK Try.prog 94 [.one (.int .i64 a0)] [.one (.bool o)] := by
  refine callOK_of_AW Try.func94 rfl (by kernel_rfl) (Nat.le_of_ble_eq_true (by kernel_rfl)) ?_
  intro w0
  unfold impl_isCount at h
  refine AW.seq ?_
  refine AW.regionA [] [0] [] (s' := ⟨[(0, (.v (.one (.c (.int .i64 a0)))))], []⟩) (ob := True ∧ True) (by kernel_rfl) ⟨trivial, trivial⟩ ?_
  refine thenQ_normal ?_
  refine AW.seq ?_
  obtain ⟨j2, e3, h⟩ := bind_some h
  refine AW.join1 (s2 := ⟨[(2, (.v (.one (.c (.bool j2)))))], []⟩) ?_ ?_
  · rcases ite2_cases e3 with ⟨b1, e3⟩ | ⟨b1, e3⟩
    · replace e3 := some_eq e3
      subst e3
      exact AW.regionA [.no, .no, .dec true] [2] [] (s' := ⟨[(2, (.v (.one (.c (.bool (decide (a0 ≤ (12 : Int))))))))], []⟩) (ob := True ∧ True ∧ (True ∧ (decide (a0 ≥ (1 : Int))) = true) ∧ True ∧ True ∧ True ∧ True ∧ True) (by kernel_rfl) ⟨trivial, trivial, ⟨trivial, b1⟩, trivial, trivial, trivial, trivial, trivial⟩ ⟨rfl, rfl⟩
    · replace e3 := some_eq e3
      subst e3
      exact AW.regionA [.no, .no, .dec false] [2] [] (s' := ⟨[(2, (.v (.one (.c (.bool false)))))], []⟩) (ob := True ∧ True ∧ (True ∧ (decide (a0 ≥ (1 : Int))) = false) ∧ True ∧ True ∧ True ∧ True ∧ True) (by kernel_rfl) ⟨trivial, trivial, ⟨trivial, b1⟩, trivial, trivial, trivial, trivial, trivial⟩ ⟨rfl, rfl⟩
  refine thenQ_normal ?_
  refine AW.ret ?_
  replace h := some_eq h
  subst h
  exact ⟨.inr rfl, retOK_of [(.one (.c (.bool j2)))] (by kernel_rfl) ⟨⟨rfl, trivial⟩, trivial⟩ (of_decide_eq_true (by kernel_rfl))⟩

/-! impl.ValidRecording$1 -/
def impl_ValidRecording_1 (_K : Nat) (a0 : Pose) (a1 : Recording) : Option (Bool) :=
  some ((a0.Turns.length : Int) != a1.Bones)

theorem ok_impl_ValidRecording_1 (K : Nat) (a0 : Pose) (a1 : Recording) (o : (Bool)) (h : impl_ValidRecording_1 K a0 a1 = some o) : CallOK Try.prog 103 [.agg (cs_Pose a0), .one (pl 2 cs_Recording a1)] [.one (.bool o)] := by
  refine callOK_of_AW Try.func103 rfl (by kernel_rfl) (Nat.le_of_ble_eq_true (by kernel_rfl)) ?_
  intro w0
  unfold impl_ValidRecording_1 at h
  refine AW.seq ?_
  refine AW.regionA [.box 1] [1, 2] [1] (s' := ⟨[(1, (.v (.one (.c (pl 2 cs_Recording a1))))), (2, (.v (.one (.ptr 1 0))))], [(1, (.box [(.c (.flt .f32 a0.Root.X.bits)), (.c (.flt .f32 a0.Root.Y.bits)), (.c (.flt .f32 a0.Root.Z.bits)), (.c (sl 4 cs_Turn a0.Turns))]))]⟩) (ob := True ∧ True ∧ True) (by kernel_rfl) ⟨trivial, trivial, trivial⟩ ?_
  refine thenQ_normal ?_
  refine AW.seq ?_
  refine AW.regionA [] [3] [] (s' := ⟨[(3, (.v (.one (.c (.bool ((a0.Turns.length : Int) != a1.Bones))))))], []⟩) (ob := True ∧ True ∧ True ∧ True ∧ True ∧ True ∧ True ∧ True) (by kernel_rfl) ⟨trivial, trivial, trivial, trivial, trivial, trivial, trivial, trivial⟩ ?_
  refine thenQ_normal ?_
  refine AW.ret ?_
  replace h := some_eq h
  subst h
  exact ⟨.inr rfl, retOK_of [(.one (.c (.bool ((a0.Turns.length : Int) != a1.Bones))))] (by kernel_rfl) ⟨⟨rfl, trivial⟩, trivial⟩ (of_decide_eq_true (by kernel_rfl))⟩

/-! slices.IndexFunc[[]impl.Pose,impl.Pose] -/
def slices_IndexFunc_impl_Pose_impl_Pose_l1 (K : Nat) (a0 : (List Pose)) (a1_0_0 : Recording) : Nat → Int → Option (Int)
  | 0, _ => none
  | k + 1, x2 => ite2 ((decide (x2 < (a0.length : Int)))) (chk (0 ≤ x2 ∧ x2 < (a0.length : Int)) ((impl_ValidRecording_1 K (a0.getD x2.toNat default) a1_0_0).bind fun v5 => ite2 (v5) (some x2) (slices_IndexFunc_impl_Pose_impl_Pose_l1 K a0 a1_0_0 k (IntKind.i64.wrap (x2 + (1 : Int)))))) (some ((-1) : Int))

def slices_IndexFunc_impl_Pose_impl_Pose (K : Nat) (a0 : (List Pose)) (a1_0_0 : Recording) : Option (Int) :=
  slices_IndexFunc_impl_Pose_impl_Pose_l1 K a0 a1_0_0 K (0 : Int)

theorem ok_slices_IndexFunc_impl_Pose_impl_Pose (K : Nat) (a0 : (List Pose)) (a1_0_0 : Recording) (o : (Int)) (h : slices_IndexFunc_impl_Pose_impl_Pose K a0 a1_0_0 = some o) : CallOK Try.prog 144 [.one (sl 4 cs_Pose a0), .one (.fn 103 1 fun j => [(pl 2 cs_Recording a1_0_0)].getD j .nilptr)] [.one (.int .i64 o)] := by
  refine callOK_of_AW Try.func144 rfl (by kernel_rfl) (Nat.le_of_ble_eq_true (by kernel_rfl)) ?_
  intro w0
  unfold slices_IndexFunc_impl_Pose_impl_Pose at h
  refine AW.seq ?_
  refine AW.regionA [] [0, 1] [] (s' := ⟨[(0, (.v (.one (.c (sl 4 cs_Pose a0))))), (1, (.v (.one (.c (.fn 103 1 fun j => [(pl 2 cs_Recording a1_0_0)].getD j .nilptr)))))], []⟩) (ob := True ∧ True) (by kernel_rfl) ⟨trivial, trivial⟩ ?_
  refine thenQ_normal ?_
  refine AW.seq ?_
  refine AW.seq ?_
  refine AW.regionA [] [0, 1, 7, 8] [] (s' := ⟨[(0, (.v (.one (.c (sl 4 cs_Pose a0))))), (1, (.v (.one (.c (.fn 103 1 fun j => [(pl 2 cs_Recording a1_0_0)].getD j .nilptr))))), (7, (.v (.one (.c (.int .i64 (a0.length : Int)))))), (8, (.v (.one (.c (.int .i64 (0 : Int))))))], []⟩) (ob := True ∧ True ∧ True ∧ True) (by kernel_rfl) ⟨trivial, trivial, trivial, trivial⟩ ?_
  refine thenQ_normal ?_
  refine AW.block ?_
  refine AW.loopQ (σ := Nat × Int) (fun p => ⟨[(0, (.v (.one (.c (sl 4 cs_Pose a0))))), (1, (.v (.one (.c (.fn 103 1 fun j => [(pl 2 cs_Recording a1_0_0)].getD j .nilptr))))), (7, (.v (.one (.c (.int .i64 (a0.length : Int)))))), (8, (.v (.one (.c (.int .i64 p.2)))))], []⟩) (fun p => slices_IndexFunc_impl_Pose_impl_Pose_l1 K a0 a1_0_0 p.1 p.2 = some o) (fun p => p.1) (K, (0 : Int)) h ?_
  clear h
  rintro ⟨k, x2⟩ h
  replace h : slices_IndexFunc_impl_Pose_impl_Pose_l1 K a0 a1_0_0 k x2 = some o := h
  show AW _ _ (⟨[(0, (.v (.one (.c (sl 4 cs_Pose a0))))), (1, (.v (.one (.c (.fn 103 1 fun j => [(pl 2 cs_Recording a1_0_0)].getD j .nilptr))))), (7, (.v (.one (.c (.int .i64 (a0.length : Int)))))), (8, (.v (.one (.c (.int .i64 x2)))))], []⟩ : St) _
  obtain _ | k := k
  · rw [slices_IndexFunc_impl_Pose_impl_Pose_l1] at h; cases h
  rw [slices_IndexFunc_impl_Pose_impl_Pose_l1] at h
  refine AW.seq ?_
  refine AW.regionA [] [0, 1, 7, 8, 9] [] (s' := ⟨[(0, (.v (.one (.c (sl 4 cs_Pose a0))))), (1, (.v (.one (.c (.fn 103 1 fun j => [(pl 2 cs_Recording a1_0_0)].getD j .nilptr))))), (7, (.v (.one (.c (.int .i64 (a0.length : Int)))))), (8, (.v (.one (.c (.int .i64 x2))))), (9, (.v (.one (.c (.bool (decide (x2 < (a0.length : Int))))))))], []⟩) (ob := True ∧ True) (by kernel_rfl) ⟨trivial, trivial⟩ ?_
  refine thenQ_normal ?_
  refine AW.seq ?_
  rcases ite2_cases h with ⟨b3, h⟩ | ⟨b3, h⟩
  · refine AW.cond_t rfl b3 ?_
    refine AW.skip ?_
    refine thenQ_normal ?_
    refine AW.seq ?_
    refine AW.block ?_
    refine AW.seq ?_
    refine AW.regionA [] [0, 1, 5, 7, 8] [] (s' := ⟨[(0, (.v (.one (.c (sl 4 cs_Pose a0))))), (1, (.v (.one (.c (.fn 103 1 fun j => [(pl 2 cs_Recording a1_0_0)].getD j .nilptr))))), (5, (.v (.one (.c (.int .i64 x2))))), (7, (.v (.one (.c (.int .i64 (a0.length : Int)))))), (8, (.v (.one (.c (.int .i64 x2)))))], []⟩) (ob := True ∧ True ∧ True) (by kernel_rfl) ⟨trivial, trivial, trivial⟩ ?_
    refine thenQ_normal ?_
    refine AW.seq ?_
    obtain ⟨c4, h⟩ := chk_some h
    obtain ⟨v5, e6, h⟩ := bind_some h
    refine AW.regionA [.no, .no, .no, .no, .no, .call [.agg (cs_Pose (a0.getD x2.toNat default)), .one (pl 2 cs_Recording a1_0_0)] [.one (.bool v5)] [[.view]]] [0, 1, 5, 7, 8, 16] [] (s' := ⟨[(0, (.v (.one (.c (sl 4 cs_Pose a0))))), (1, (.v (.one (.c (.fn 103 1 fun j => [(pl 2 cs_Recording a1_0_0)].getD j .nilptr))))), (5, (.v (.one (.c (.int .i64 x2))))), (7, (.v (.one (.c (.int .i64 (a0.length : Int)))))), (8, (.v (.one (.c (.int .i64 x2))))), (16, (.v (.one (.c (.bool v5)))))], []⟩) (ob := True ∧ True ∧ True ∧ (0 ≤ x2 ∧ x2 < (a0.length : Int)) ∧ True ∧ ((((((.flt .f32 (((a0.getD x2.toNat default).Root).X).bits) : C) = (.flt .f32 (((a0.getD x2.toNat default).Root).X).bits)) ∧ (((.flt .f32 (((a0.getD x2.toNat default).Root).Y).bits) : C) = (.flt .f32 (((a0.getD x2.toNat default).Root).Y).bits)) ∧ (((.flt .f32 (((a0.getD x2.toNat default).Root).Z).bits) : C) = (.flt .f32 (((a0.getD x2.toNat default).Root).Z).bits)) ∧ (((sl 4 cs_Turn ((a0.getD x2.toNat default).Turns)) : C) = (sl 4 cs_Turn ((a0.getD x2.toNat default).Turns))) ∧ True) ∧ (2 = 2 ∧ ∀ j, j < 2 → (cs_Recording a1_0_0).getD j .nilptr = (cs_Recording a1_0_0).getD j .nilptr) ∧ True) ∧ CallOK Try.prog 103 [.agg (cs_Pose (a0.getD x2.toNat default)), .one (pl 2 cs_Recording a1_0_0)] [.one (.bool v5)]) ∧ True) (by kernel_rfl) ⟨trivial, trivial, trivial, c4, trivial, ⟨⟨⟨rfl, rfl, rfl, rfl, trivial⟩, ⟨rfl, fun j hj => rfl⟩, trivial⟩, ok_impl_ValidRecording_1 K (a0.getD x2.toNat default) a1_0_0 v5 e6⟩, trivial⟩ ?_
    refine thenQ_normal ?_
    rcases ite2_cases h with ⟨b7, h⟩ | ⟨b7, h⟩
    · refine AW.cond_t rfl b7 ?_
      refine AW.seq ?_
      refine AW.regionA [] [4] [] (s' := ⟨[(4, (.v (.one (.c (.int .i64 x2)))))], []⟩) (ob := True ∧ True ∧ True) (by kernel_rfl) ⟨trivial, trivial, trivial⟩ ?_
      refine thenQ_normal ?_
      refine AW.ret ?_
      refine blockQ_ret ?_
      refine thenQ_ret ?_
      refine loopQ_ret ?_
      refine blockQ_ret ?_
      refine thenQ_ret ?_
      replace h := some_eq h
      subst h
      exact ⟨.inr rfl, retOK_of [(.one (.c (.int .i64 x2)))] (by kernel_rfl) ⟨⟨rfl, trivial⟩, trivial⟩ (of_decide_eq_true (by kernel_rfl))⟩
    · refine AW.cond_f rfl b7 ?_
      refine AW.skip ?_
      refine blockQ_normal ?_
      refine thenQ_normal ?_
      refine AW.regionA [] [0, 1, 7, 8] [] (s' := ⟨[(0, (.v (.one (.c (sl 4 cs_Pose a0))))), (1, (.v (.one (.c (.fn 103 1 fun j => [(pl 2 cs_Recording a1_0_0)].getD j .nilptr))))), (7, (.v (.one (.c (.int .i64 (a0.length : Int)))))), (8, (.v (.one (.c (.int .i64 (IntKind.i64.wrap (x2 + (1 : Int))))))))], []⟩) (ob := True ∧ True ∧ True) (by kernel_rfl) ⟨trivial, trivial, trivial⟩ ?_
      exact loopQ_normal (k, (IntKind.i64.wrap (x2 + (1 : Int)))) h (Nat.lt_succ_self k) (Sub.keep [0, 1, 7, 8] [] (by kernel_rfl) (by kernel_rfl))
  · refine AW.cond_f rfl b3 ?_
    refine AW.exit ?_
    refine thenQ_exit ?_
    refine loopQ_exit ?_
    refine blockQ_exit ?_
    refine thenQ_normal ?_
    refine AW.seq ?_
    refine AW.regionA [] [4] [] (s' := ⟨[(4, (.v (.one (.c (.int .i64 ((-1) : Int))))))], []⟩) (ob := True ∧ True) (by kernel_rfl) ⟨trivial, trivial⟩ ?_
    refine thenQ_normal ?_
    refine AW.ret ?_
    replace h := some_eq h
    subst h
    exact ⟨.inr rfl, retOK_of [(.one (.c (.int .i64 ((-1) : Int))))] (by kernel_rfl) ⟨⟨rfl, trivial⟩, trivial⟩ (of_decide_eq_true (by kernel_rfl))⟩

/-! slices.ContainsFunc[[]impl.Pose,impl.Pose] -/
def slices_ContainsFunc_impl_Pose_impl_Pose (K : Nat) (a0 : (List Pose)) (a1_0_0 : Recording) : Option (Bool) :=
  (slices_IndexFunc_impl_Pose_impl_Pose K a0 a1_0_0).bind fun v1 => some (decide (v1 ≥ (0 : Int)))

theorem ok_slices_ContainsFunc_impl_Pose_impl_Pose (K : Nat) (a0 : (List Pose)) (a1_0_0 : Recording) (o : (Bool)) (h : slices_ContainsFunc_impl_Pose_impl_Pose K a0 a1_0_0 = some o) : CallOK Try.prog 102 [.one (sl 4 cs_Pose a0), .one (.fn 103 1 fun j => [(pl 2 cs_Recording a1_0_0)].getD j .nilptr)] [.one (.bool o)] := by
  refine callOK_of_AW Try.func102 rfl (by kernel_rfl) (Nat.le_of_ble_eq_true (by kernel_rfl)) ?_
  intro w0
  unfold slices_ContainsFunc_impl_Pose_impl_Pose at h
  refine AW.seq ?_
  refine AW.regionA [] [0, 1] [] (s' := ⟨[(0, (.v (.one (.c (sl 4 cs_Pose a0))))), (1, (.v (.one (.c (.fn 103 1 fun j => [(pl 2 cs_Recording a1_0_0)].getD j .nilptr)))))], []⟩) (ob := True ∧ True) (by kernel_rfl) ⟨trivial, trivial⟩ ?_
  refine thenQ_normal ?_
  refine AW.seq ?_
  obtain ⟨v1, e2, h⟩ := bind_some h
  refine AW.regionA [.no, .no, .call [.one (sl 4 cs_Pose a0), .one (.fn 103 1 fun j => [(pl 2 cs_Recording a1_0_0)].getD j .nilptr)] [.one (.int .i64 v1)] [[.view]]] [4] [] (s' := ⟨[(4, (.v (.one (.c (.bool (decide (v1 ≥ (0 : Int))))))))], []⟩) (ob := True ∧ True ∧ (((((sl 4 cs_Pose a0) : C) = (sl 4 cs_Pose a0)) ∧ (((.fn 103 1 fun j => [(pl 2 cs_Recording a1_0_0)].getD j .nilptr) : C) = (.fn 103 1 fun j => [(pl 2 cs_Recording a1_0_0)].getD j .nilptr)) ∧ True) ∧ CallOK Try.prog 144 [.one (sl 4 cs_Pose a0), .one (.fn 103 1 fun j => [(pl 2 cs_Recording a1_0_0)].getD j .nilptr)] [.one (.int .i64 v1)]) ∧ True ∧ True ∧ True) (by kernel_rfl) ⟨trivial, trivial, ⟨⟨rfl, rfl, trivial⟩, ok_slices_IndexFunc_impl_Pose_impl_Pose K a0 a1_0_0 v1 e2⟩, trivial, trivial, trivial⟩ ?_
  refine thenQ_normal ?_
  refine AW.ret ?_
  replace h := some_eq h
  subst h
  exact ⟨.inr rfl, retOK_of [(.one (.c (.bool (decide (v1 ≥ (0 : Int))))))] (by kernel_rfl) ⟨⟨rfl, trivial⟩, trivial⟩ (of_decide_eq_true (by kernel_rfl))⟩

/-! impl.ValidRecording -/
def impl_ValidRecording (K : Nat) (a0 : Recording) : Option (Bool) :=
  (impl_isCount K a0.Bones).bind fun v1 => (ite2 (v1) (ite2 ((decide ((a0.Frames.length : Int) ≤ (64 : Int)))) ((slices_ContainsFunc_impl_Pose_impl_Pose K a0.Frames a0).bind fun v5 => some (!v5)) (some false)) (some false)).bind fun j7 => some j7

theorem ok_impl_ValidRecording (K : Nat) (a0 : Recording) (o : (Bool)) (h : impl_ValidRecording K a0 = some o) : CallOK Try.prog 53 [.agg (cs_Recording a0)] [.one (.bool o)] := by
  refine callOK_of_AW Try.func53 rfl (by kernel_rfl) (Nat.le_of_ble_eq_true (by kernel_rfl)) ?_
  intro w0
  unfold impl_ValidRecording at h
  refine AW.seq ?_
  refine AW.regionA [.box 1] [1] [1] (s' := ⟨[(1, (.v (.one (.ptr 1 0))))], [(1, (.box [(.c (.int .i64 a0.Bones)), (.c (sl 4 cs_Pose a0.Frames))]))]⟩) (ob := True ∧ True ∧ True) (by kernel_rfl) ⟨trivial, trivial, trivial⟩ ?_
  refine thenQ_normal ?_
  refine AW.seq ?_
  obtain ⟨v1, e2, h⟩ := bind_some h
  obtain ⟨j7, e8, h⟩ := bind_some h
  refine AW.join1 (s2 := ⟨[(2, (.v (.one (.c (.bool j7)))))], []⟩) ?_ ?_
  · rcases ite2_cases e8 with ⟨b3, e8⟩ | ⟨b3, e8⟩
    · rcases ite2_cases e8 with ⟨b4, e8⟩ | ⟨b4, e8⟩
      · obtain ⟨v5, e6, e8⟩ := bind_some e8
        replace e8 := some_eq e8
        subst e8
        exact AW.regionA [.no, .no, .call [.one (.int .i64 a0.Bones)] [.one (.bool v1)] [[.view]], .dec true, .no, .no, .no, .no, .no, .dec true, .no, .no, .no, .call [.one (sl 4 cs_Pose a0.Frames), .one (.fn 103 1 fun j => [(pl 2 cs_Recording a0)].getD j .nilptr)] [.one (.bool v5)] [[.view]]] [2] [] (s' := ⟨[(2, (.v (.one (.c (.bool (!v5))))))], []⟩) (ob := True ∧ True ∧ (((((.int .i64 a0.Bones) : C) = (.int .i64 a0.Bones)) ∧ True) ∧ CallOK Try.prog 94 [.one (.int .i64 a0.Bones)] [.one (.bool v1)]) ∧ (True ∧ v1 = true) ∧ True ∧ True ∧ True ∧ True ∧ True ∧ (True ∧ (decide ((a0.Frames.length : Int) ≤ (64 : Int))) = true) ∧ True ∧ True ∧ True ∧ (((((sl 4 cs_Pose a0.Frames) : C) = (sl 4 cs_Pose a0.Frames)) ∧ (103 = 103 ∧ 1 = 1 ∧ ((((.int .i64 a0.Bones) : C) = (.int .i64 a0.Bones)) ∧ (((sl 4 cs_Pose a0.Frames) : C) = (sl 4 cs_Pose a0.Frames)) ∧ True) ∧ True) ∧ True) ∧ CallOK Try.prog 102 [.one (sl 4 cs_Pose a0.Frames), .one (.fn 103 1 fun j => [(pl 2 cs_Recording a0)].getD j .nilptr)] [.one (.bool v5)]) ∧ True ∧ True ∧ True ∧ True) (by kernel_rfl) ⟨trivial, trivial, ⟨⟨rfl, trivial⟩, ok_impl_isCount K a0.Bones v1 e2⟩, ⟨trivial, b3⟩, trivial, trivial, trivial, trivial, trivial, ⟨trivial, b4⟩, trivial, trivial, trivial, ⟨⟨rfl, ⟨rfl, rfl, ⟨⟨rfl, rfl, trivial⟩, trivial⟩⟩, trivial⟩, ok_slices_ContainsFunc_impl_Pose_impl_Pose K a0.Frames a0 v5 e6⟩, trivial, trivial, trivial, trivial⟩ ⟨rfl, rfl⟩
      · replace e8 := some_eq e8
        subst e8
        exact AW.regionA [.no, .no, .call [.one (.int .i64 a0.Bones)] [.one (.bool v1)] [[.view]], .dec true, .no, .no, .no, .no, .no, .dec false] [2] [] (s' := ⟨[(2, (.v (.one (.c (.bool false)))))], []⟩) (ob := True ∧ True ∧ (((((.int .i64 a0.Bones) : C) = (.int .i64 a0.Bones)) ∧ True) ∧ CallOK Try.prog 94 [.one (.int .i64 a0.Bones)] [.one (.bool v1)]) ∧ (True ∧ v1 = true) ∧ True ∧ True ∧ True ∧ True ∧ True ∧ (True ∧ (decide ((a0.Frames.length : Int) ≤ (64 : Int))) = false) ∧ True ∧ True ∧ True ∧ True ∧ True ∧ True ∧ True ∧ True) (by kernel_rfl) ⟨trivial, trivial, ⟨⟨rfl, trivial⟩, ok_impl_isCount K a0.Bones v1 e2⟩, ⟨trivial, b3⟩, trivial, trivial, trivial, trivial, trivial, ⟨trivial, b4⟩, trivial, trivial, trivial, trivial, trivial, trivial, trivial, trivial⟩ ⟨rfl, rfl⟩
    · replace e8 := some_eq e8
      subst e8
      exact AW.regionA [.no, .no, .call [.one (.int .i64 a0.Bones)] [.one (.bool v1)] [[.view]], .dec false] [2] [] (s' := ⟨[(2, (.v (.one (.c (.bool false)))))], []⟩) (ob := True ∧ True ∧ (((((.int .i64 a0.Bones) : C) = (.int .i64 a0.Bones)) ∧ True) ∧ CallOK Try.prog 94 [.one (.int .i64 a0.Bones)] [.one (.bool v1)]) ∧ (True ∧ v1 = false) ∧ True ∧ True ∧ True ∧ True ∧ True ∧ True ∧ True ∧ True ∧ True ∧ True ∧ True ∧ True ∧ True ∧ True) (by kernel_rfl) ⟨trivial, trivial, ⟨⟨rfl, trivial⟩, ok_impl_isCount K a0.Bones v1 e2⟩, ⟨trivial, b3⟩, trivial, trivial, trivial, trivial, trivial, trivial, trivial, trivial, trivial, trivial, trivial, trivial, trivial, trivial⟩ ⟨rfl, rfl⟩
  refine thenQ_normal ?_
  refine AW.ret ?_
  replace h := some_eq h
  subst h
  exact ⟨.inr rfl, retOK_of [(.one (.c (.bool j7)))] (by kernel_rfl) ⟨⟨rfl, trivial⟩, trivial⟩ (of_decide_eq_true (by kernel_rfl))⟩

/-! impl.InverseOf -/
def impl_InverseOf (_K : Nat) (a0 : Turn) : Option (Turn) :=
  some (Turn.mk a0.W (a0.X.neg) (a0.Y.neg) (a0.Z.neg))

theorem ok_impl_InverseOf (K : Nat) (a0 : Turn) (o : (Turn)) (h : impl_InverseOf K a0 = some o) : CallOK Try.prog 164 [.agg (cs_Turn a0)] [.agg (cs_Turn o)] := by
  refine callOK_of_AW Try.func164 rfl (by kernel_rfl) (Nat.le_of_ble_eq_true (by kernel_rfl)) ?_
  intro w0
  unfold impl_InverseOf at h
  refine AW.seq ?_
  refine AW.regionA [.box 1, .box 2] [1, 2] [1, 2] (s' := ⟨[(1, (.v (.one (.ptr 1 0)))), (2, (.v (.one (.ptr 2 0))))], [(1, (.box [(.c (.flt .f32 a0.W.bits)), (.c (.flt .f32 a0.X.bits)), (.c (.flt .f32 a0.Y.bits)), (.c (.flt .f32 a0.Z.bits))])), (2, (.box [(.c (.flt .f32 (default : F32).bits)), (.c (.flt .f32 (default : F32).bits)), (.c (.flt .f32 (default : F32).bits)), (.c (.flt .f32 (default : F32).bits))]))]⟩) (ob := True ∧ True ∧ True) (by kernel_rfl) ⟨trivial, trivial, trivial⟩ ?_
  refine thenQ_normal ?_
  refine AW.seq ?_
  refine AW.regionA [] [2] [2] (s' := ⟨[(2, (.v (.one (.ptr 2 0))))], [(2, (.box [(.c (.flt .f32 a0.W.bits)), (.c (.flt .f32 (a0.X.neg).bits)), (.c (.flt .f32 (a0.Y.neg).bits)), (.c (.flt .f32 (a0.Z.neg).bits))]))]⟩) (ob := True ∧ True ∧ True ∧ True ∧ True ∧ True ∧ True ∧ True ∧ True ∧ True ∧ True ∧ True ∧ True ∧ True) (by kernel_rfl) ⟨trivial, trivial, trivial, trivial, trivial, trivial, trivial, trivial, trivial, trivial, trivial, trivial, trivial, trivial⟩ ?_
  refine thenQ_normal ?_
  refine AW.ret ?_
  replace h := some_eq h
  subst h
  exact ⟨.inr rfl, retOK_of [(.agg [(.c (.flt .f32 a0.W.bits)), (.c (.flt .f32 (a0.X.neg).bits)), (.c (.flt .f32 (a0.Y.neg).bits)), (.c (.flt .f32 (a0.Z.neg).bits))])] (by kernel_rfl) ⟨⟨⟨rfl, trivial⟩, ⟨rfl, trivial⟩, ⟨rfl, trivial⟩, ⟨rfl, trivial⟩, trivial⟩, trivial⟩ (of_decide_eq_true (by kernel_rfl))⟩

/-! impl.MulTurns -/
def impl_MulTurns (_K : Nat) (a0 : Turn) (a1 : Turn) : Option (Turn) :=
  some (Turn.mk ((((a0.W.mul a1.W).sub (a0.X.mul a1.X)).sub (a0.Y.mul a1.Y)).sub (a0.Z.mul a1.Z)) ((((a0.W.mul a1.X).add (a0.X.mul a1.W)).add (a0.Y.mul a1.Z)).sub (a0.Z.mul a1.Y)) ((((a0.W.mul a1.Y).sub (a0.X.mul a1.Z)).add (a0.Y.mul a1.W)).add (a0.Z.mul a1.X)) ((((a0.W.mul a1.Z).add (a0.X.mul a1.Y)).sub (a0.Y.mul a1.X)).add (a0.Z.mul a1.W)))

theorem ok_impl_MulTurns (K : Nat) (a0 : Turn) (a1 : Turn) (o : (Turn)) (h : impl_MulTurns K a0 a1 = some o) : CallOK Try.prog 163 [.agg (cs_Turn a0), .agg (cs_Turn a1)] [.agg (cs_Turn o)] := by
  refine callOK_of_AW Try.func163 rfl (by kernel_rfl) (Nat.le_of_ble_eq_true (by kernel_rfl)) ?_
  intro w0
  unfold impl_MulTurns at h
  refine AW.seq ?_
  refine AW.regionA [.box 1, .box 2, .box 3] [2, 3, 4] [1, 2, 3] (s' := ⟨[(2, (.v (.one (.ptr 1 0)))), (3, (.v (.one (.ptr 2 0)))), (4, (.v (.one (.ptr 3 0))))], [(1, (.box [(.c (.flt .f32 a0.W.bits)), (.c (.flt .f32 a0.X.bits)), (.c (.flt .f32 a0.Y.bits)), (.c (.flt .f32 a0.Z.bits))])), (2, (.box [(.c (.flt .f32 a1.W.bits)), (.c (.flt .f32 a1.X.bits)), (.c (.flt .f32 a1.Y.bits)), (.c (.flt .f32 a1.Z.bits))])), (3, (.box [(.c (.flt .f32 (default : F32).bits)), (.c (.flt .f32 (default : F32).bits)), (.c (.flt .f32 (default : F32).bits)), (.c (.flt .f32 (default : F32).bits))]))]⟩) (ob := True ∧ True ∧ True ∧ True) (by kernel_rfl) ⟨trivial, trivial, trivial, trivial⟩ ?_
  refine thenQ_normal ?_
  refine AW.seq ?_
  refine AW.regionA [] [4] [3] (s' := ⟨[(4, (.v (.one (.ptr 3 0))))], [(3, (.box [(.c (.flt .f32 ((((a0.W.mul a1.W).sub (a0.X.mul a1.X)).sub (a0.Y.mul a1.Y)).sub (a0.Z.mul a1.Z)).bits)), (.c (.flt .f32 ((((a0.W.mul a1.X).add (a0.X.mul a1.W)).add (a0.Y.mul a1.Z)).sub (a0.Z.mul a1.Y)).bits)), (.c (.flt .f32 ((((a0.W.mul a1.Y).sub (a0.X.mul a1.Z)).add (a0.Y.mul a1.W)).add (a0.Z.mul a1.X)).bits)), (.c (.flt .f32 ((((a0.W.mul a1.Z).add (a0.X.mul a1.Y)).sub (a0.Y.mul a1.X)).add (a0.Z.mul a1.W)).bits))]))]⟩) (ob := True ∧ True ∧ True ∧ True ∧ True ∧ True ∧ True ∧ True ∧ True ∧ True ∧ True ∧ True ∧ True ∧ True ∧ True ∧ True ∧ True ∧ True ∧ True ∧ True ∧ True ∧ True ∧ True ∧ True ∧ True ∧ True ∧ True ∧ True ∧ True ∧ True ∧ True ∧ True ∧ True ∧ True ∧ True ∧ True ∧ True ∧ True ∧ True ∧ True ∧ True ∧ True ∧ True ∧ True ∧ True ∧ True ∧ True ∧ True ∧ True ∧ True ∧ True ∧ True ∧ True ∧ True ∧ True ∧ True ∧ True ∧ True ∧ True ∧ True ∧ True ∧ True ∧ True ∧ True ∧ True ∧ True ∧ True ∧ True ∧ True ∧ True ∧ True ∧ True ∧ True ∧ True ∧ True ∧ True ∧ True ∧ True ∧ True ∧ True ∧ True ∧ True ∧ True ∧ True ∧ True ∧ True ∧ True ∧ True ∧ True ∧ True ∧ True ∧ True ∧ True ∧ True ∧ True) (by kernel_rfl) ⟨trivial, trivial, trivial, trivial, trivial, trivial, trivial, trivial, trivial, trivial, trivial, trivial, trivial, trivial, trivial, trivial, trivial, trivial, trivial, trivial, trivial, trivial, trivial, trivial, trivial, trivial, trivial, trivial, trivial, trivial, trivial, trivial, trivial, trivial, trivial, trivial, trivial, trivial, trivial, trivial, trivial, trivial, trivial, trivial, trivial, trivial, trivial, trivial, trivial, trivial, trivial, trivial, trivial, trivial, trivial, trivial, trivial, trivial, trivial, trivial, trivial, trivial, trivial, trivial, trivial, trivial, trivial, trivial, trivial, trivial, trivial, trivial, trivial, trivial, trivial, trivial, trivial, trivial, trivial, trivial, trivial, trivial, trivial, trivial, trivial, trivial, trivial, trivial, trivial, trivial, trivial, trivial, trivial, trivial, trivial⟩ ?_
  refine thenQ_normal ?_
  refine AW.ret ?_
  replace h := some_eq h
  subst h
  exact ⟨.inr rfl, retOK_of [(.agg [(.c (.flt .f32 ((((a0.W.mul a1.W).sub (a0.X.mul a1.X)).sub (a0.Y.mul a1.Y)).sub (a0.Z.mul a1.Z)).bits)), (.c (.flt .f32 ((((a0.W.mul a1.X).add (a0.X.mul a1.W)).add (a0.Y.mul a1.Z)).sub (a0.Z.mul a1.Y)).bits)), (.c (.flt .f32 ((((a0.W.mul a1.Y).sub (a0.X.mul a1.Z)).add (a0.Y.mul a1.W)).add (a0.Z.mul a1.X)).bits)), (.c (.flt .f32 ((((a0.W.mul a1.Z).add (a0.X.mul a1.Y)).sub (a0.Y.mul a1.X)).add (a0.Z.mul a1.W)).bits))])] (by kernel_rfl) ⟨⟨⟨rfl, trivial⟩, ⟨rfl, trivial⟩, ⟨rfl, trivial⟩, ⟨rfl, trivial⟩, trivial⟩, trivial⟩ (of_decide_eq_true (by kernel_rfl))⟩

/-! (impl.Turn).vector -/
def impl_Turn_vector (_K : Nat) (a0 : Turn) : Option (Vector) :=
  some (Vector.mk a0.X a0.Y a0.Z)

theorem ok_impl_Turn_vector (K : Nat) (a0 : Turn) (o : (Vector)) (h : impl_Turn_vector K a0 = some o) : CallOK Try.prog 180 [.agg (cs_Turn a0)] [.agg (cs_Vector o)] := by
  refine callOK_of_AW Try.func180 rfl (by kernel_rfl) (Nat.le_of_ble_eq_true (by kernel_rfl)) ?_
  intro w0
  unfold impl_Turn_vector at h
  refine AW.seq ?_
  refine AW.regionA [.box 1, .box 2] [1, 2] [1, 2] (s' := ⟨[(1, (.v (.one (.ptr 1 0)))), (2, (.v (.one (.ptr 2 0))))], [(1, (.box [(.c (.flt .f32 a0.W.bits)), (.c (.flt .f32 a0.X.bits)), (.c (.flt .f32 a0.Y.bits)), (.c (.flt .f32 a0.Z.bits))])), (2, (.box [(.c (.flt .f32 (default : F32).bits)), (.c (.flt .f32 (default : F32).bits)), (.c (.flt .f32 (default : F32).bits))]))]⟩) (ob := True ∧ True ∧ True) (by kernel_rfl) ⟨trivial, trivial, trivial⟩ ?_
  refine thenQ_normal ?_
  refine AW.seq ?_
  refine AW.regionA [] [2] [2] (s' := ⟨[(2, (.v (.one (.ptr 2 0))))], [(2, (.box [(.c (.flt .f32 a0.X.bits)), (.c (.flt .f32 a0.Y.bits)), (.c (.flt .f32 a0.Z.bits))]))]⟩) (ob := True ∧ True ∧ True ∧ True ∧ True ∧ True ∧ True ∧ True ∧ True) (by kernel_rfl) ⟨trivial, trivial, trivial, trivial, trivial, trivial, trivial, trivial, trivial⟩ ?_
  refine thenQ_normal ?_
  refine AW.ret ?_
  replace h := some_eq h
  subst h
  exact ⟨.inr rfl, retOK_of [(.agg [(.c (.flt .f32 a0.X.bits)), (.c (.flt .f32 a0.Y.bits)), (.c (.flt .f32 a0.Z.bits))])] (by kernel_rfl) ⟨⟨⟨rfl, trivial⟩, ⟨rfl, trivial⟩, ⟨rfl, trivial⟩, trivial⟩, trivial⟩ (of_decide_eq_true (by kernel_rfl))⟩

/-! impl.InnerOf -/
def impl_InnerOf (_K : Nat) (a0 : Vector) (a1 : Vector) : Option (F32) :=
  some (((a0.X.mul a1.X).add (a0.Y.mul a1.Y)).add (a0.Z.mul a1.Z))

theorem ok_impl_InnerOf (K : Nat) (a0 : Vector) (a1 : Vector) (o : (F32)) (h : impl_InnerOf K a0 a1 = some o) : CallOK Try.prog 194 [.agg (cs_Vector a0), .agg (cs_Vector a1)] [.one (.flt .f32 o.bits)] := by
  refine callOK_of_AW Try.func194 rfl (by kernel_rfl) (Nat.le_of_ble_eq_true (by kernel_rfl)) ?_
  intro w0
  unfold impl_InnerOf at h
  refine AW.seq ?_
  refine AW.regionA [.box 1, .box 2] [2, 3] [1, 2] (s' := ⟨[(2, (.v (.one (.ptr 1 0)))), (3, (.v (.one (.ptr 2 0))))], [(1, (.box [(.c (.flt .f32 a0.X.bits)), (.c (.flt .f32 a0.Y.bits)), (.c (.flt .f32 a0.Z.bits))])), (2, (.box [(.c (.flt .f32 a1.X.bits)), (.c (.flt .f32 a1.Y.bits)), (.c (.flt .f32 a1.Z.bits))]))]⟩) (ob := True ∧ True ∧ True ∧ True) (by kernel_rfl) ⟨trivial, trivial, trivial, trivial⟩ ?_
  refine thenQ_normal ?_
  refine AW.seq ?_
  refine AW.regionA [] [4] [] (s' := ⟨[(4, (.v (.one (.c (.flt .f32 (((a0.X.mul a1.X).add (a0.Y.mul a1.Y)).add (a0.Z.mul a1.Z)).bits)))))], []⟩) (ob := True ∧ True ∧ True ∧ True ∧ True ∧ True ∧ True ∧ True ∧ True ∧ True ∧ True ∧ True ∧ True ∧ True ∧ True ∧ True ∧ True ∧ True ∧ True) (by kernel_rfl) ⟨trivial, trivial, trivial, trivial, trivial, trivial, trivial, trivial, trivial, trivial, trivial, trivial, trivial, trivial, trivial, trivial, trivial, trivial, trivial⟩ ?_
  refine thenQ_normal ?_
  refine AW.ret ?_
  replace h := some_eq h
  subst h
  exact ⟨.inr rfl, retOK_of [(.one (.c (.flt .f32 (((a0.X.mul a1.X).add (a0.Y.mul a1.Y)).add (a0.Z.mul a1.Z)).bits)))] (by kernel_rfl) ⟨⟨rfl, trivial⟩, trivial⟩ (of_decide_eq_true (by kernel_rfl))⟩

/-! impl.RootNumber -/
def impl_RootNumber (K : Nat) (a0 : F32) : Option (F32) :=
  (math_Sqrt K (Fl.cv .f32 .f64 a0)).bind fun v1 => chk ((convBits .f64 v1.bits .f32).isSome = true) (some (Fl.cv .f64 .f32 v1))

theorem ok_impl_RootNumber (K : Nat) (a0 : F32) (o : (F32)) (h : impl_RootNumber K a0 = some o) : CallOK Try.prog 193 [.one (.flt .f32 a0.bits)] [.one (.flt .f32 o.bits)] := by
  refine callOK_of_AW Try.func193 rfl (by kernel_rfl) (Nat.le_of_ble_eq_true (by kernel_rfl)) ?_
  intro w0
  unfold impl_RootNumber at h
  refine AW.seq ?_
  refine AW.regionA [] [0] [] (s' := ⟨[(0, (.v (.one (.c (.flt .f32 a0.bits)))))], []⟩) (ob := True ∧ True) (by kernel_rfl) ⟨trivial, trivial⟩ ?_
  refine thenQ_normal ?_
  refine AW.seq ?_
  obtain ⟨v1, e2, h⟩ := bind_some h
  obtain ⟨c3, h⟩ := chk_some h
  refine AW.regionA [.no, .no, .call [.one (.flt .f64 (Fl.cv .f32 .f64 a0).bits)] [.one (.flt .f64 v1.bits)] [[.view]]] [2] [] (s' := ⟨[(2, (.v (.one (.c (.flt .f32 (Fl.cv .f64 .f32 v1).bits)))))], []⟩) (ob := True ∧ ((convBits .f32 a0.bits .f64).isSome = true) ∧ (((((.flt .f64 (Fl.cv .f32 .f64 a0).bits) : C) = (.flt .f64 (Fl.cv .f32 .f64 a0).bits)) ∧ True) ∧ CallOK Try.prog 200 [.one (.flt .f64 (Fl.cv .f32 .f64 a0).bits)] [.one (.flt .f64 v1.bits)]) ∧ ((convBits .f64 v1.bits .f32).isSome = true) ∧ True ∧ True) (by kernel_rfl) ⟨trivial, cv_wide a0, ⟨⟨rfl, trivial⟩, ok_math_Sqrt K (Fl.cv .f32 .f64 a0) v1 e2⟩, c3, trivial, trivial⟩ ?_
  refine thenQ_normal ?_
  refine AW.ret ?_
  replace h := some_eq h
  subst h
  exact ⟨.inr rfl, retOK_of [(.one (.c (.flt .f32 (Fl.cv .f64 .f32 v1).bits)))] (by kernel_rfl) ⟨⟨rfl, trivial⟩, trivial⟩ (of_decide_eq_true (by kernel_rfl))⟩

/-! impl.LongOf -/
def impl_LongOf (K : Nat) (a0 : Vector) : Option (F32) :=
  (impl_InnerOf K a0 a0).bind fun v1 => (impl_RootNumber K v1).bind fun v3 => some v3

theorem ok_impl_LongOf (K : Nat) (a0 : Vector) (o : (F32)) (h : impl_LongOf K a0 = some o) : CallOK Try.prog 179 [.agg (cs_Vector a0)] [.one (.flt .f32 o.bits)] := by
  refine callOK_of_AW Try.func179 rfl (by kernel_rfl) (Nat.le_of_ble_eq_true (by kernel_rfl)) ?_
  intro w0
  unfold impl_LongOf at h
  refine AW.seq ?_
  refine AW.regionA [.box 1] [1] [1] (s' := ⟨[(1, (.v (.one (.ptr 1 0))))], [(1, (.box [(.c (.flt .f32 a0.X.bits)), (.c (.flt .f32 a0.Y.bits)), (.c (.flt .f32 a0.Z.bits))]))]⟩) (ob := True ∧ True ∧ True) (by kernel_rfl) ⟨trivial, trivial, trivial⟩ ?_
  refine thenQ_normal ?_
  refine AW.seq ?_
  obtain ⟨v1, e2, h⟩ := bind_some h
  obtain ⟨v3, e4, h⟩ := bind_some h
  refine AW.regionA [.no, .no, .call [.agg (cs_Vector a0), .agg (cs_Vector a0)] [.one (.flt .f32 v1.bits)] [[.view]], .call [.one (.flt .f32 v1.bits)] [.one (.flt .f32 v3.bits)] [[.view]]] [2] [] (s' := ⟨[(2, (.v (.one (.c (.flt .f32 v3.bits)))))], []⟩) (ob := True ∧ True ∧ ((((((.flt .f32 a0.X.bits) : C) = (.flt .f32 a0.X.bits)) ∧ (((.flt .f32 a0.Y.bits) : C) = (.flt .f32 a0.Y.bits)) ∧ (((.flt .f32 a0.Z.bits) : C) = (.flt .f32 a0.Z.bits)) ∧ True) ∧ ((((.flt .f32 a0.X.bits) : C) = (.flt .f32 a0.X.bits)) ∧ (((.flt .f32 a0.Y.bits) : C) = (.flt .f32 a0.Y.bits)) ∧ (((.flt .f32 a0.Z.bits) : C) = (.flt .f32 a0.Z.bits)) ∧ True) ∧ True) ∧ CallOK Try.prog 194 [.agg (cs_Vector a0), .agg (cs_Vector a0)] [.one (.flt .f32 v1.bits)]) ∧ (((((.flt .f32 v1.bits) : C) = (.flt .f32 v1.bits)) ∧ True) ∧ CallOK Try.prog 193 [.one (.flt .f32 v1.bits)] [.one (.flt .f32 v3.bits)]) ∧ True ∧ True) (by kernel_rfl) ⟨trivial, trivial, ⟨⟨⟨rfl, rfl, rfl, trivial⟩, ⟨rfl, rfl, rfl, trivial⟩, trivial⟩, ok_impl_InnerOf K a0 a0 v1 e2⟩, ⟨⟨rfl, trivial⟩, ok_impl_RootNumber K v1 v3 e4⟩, trivial, trivial⟩ ?_
  refine thenQ_normal ?_
  refine AW.ret ?_
  replace h := some_eq h
  subst h
  exact ⟨.inr rfl, retOK_of [(.one (.c (.flt .f32 v3.bits)))] (by kernel_rfl) ⟨⟨rfl, trivial⟩, trivial⟩ (of_decide_eq_true (by kernel_rfl))⟩

/-! impl.size -/
def impl_size (K : Nat) (a0 : F32) : Option (F32) :=
  (math_Abs K (Fl.cv .f32 .f64 a0)).bind fun v1 => chk ((convBits .f64 v1.bits .f32).isSome = true) (some (Fl.cv .f64 .f32 v1))

theorem ok_impl_size (K : Nat) (a0 : F32) (o : (F32)) (h : impl_size K a0 = some o) : CallOK Try.prog 181 [.one (.flt .f32 a0.bits)] [.one (.flt .f32 o.bits)] := by
  refine callOK_of_AW Try.func181 rfl (by kernel_rfl) (Nat.le_of_ble_eq_true (by kernel_rfl)) ?_
  intro w0
  unfold impl_size at h
  refine AW.seq ?_
  refine AW.regionA [] [0] [] (s' := ⟨[(0, (.v (.one (.c (.flt .f32 a0.bits)))))], []⟩) (ob := True ∧ True) (by kernel_rfl) ⟨trivial, trivial⟩ ?_
  refine thenQ_normal ?_
  refine AW.seq ?_
  obtain ⟨v1, e2, h⟩ := bind_some h
  obtain ⟨c3, h⟩ := chk_some h
  refine AW.regionA [.no, .no, .call [.one (.flt .f64 (Fl.cv .f32 .f64 a0).bits)] [.one (.flt .f64 v1.bits)] [[.view]]] [2] [] (s' := ⟨[(2, (.v (.one (.c (.flt .f32 (Fl.cv .f64 .f32 v1).bits)))))], []⟩) (ob := True ∧ ((convBits .f32 a0.bits .f64).isSome = true) ∧ (((((.flt .f64 (Fl.cv .f32 .f64 a0).bits) : C) = (.flt .f64 (Fl.cv .f32 .f64 a0).bits)) ∧ True) ∧ CallOK Try.prog 195 [.one (.flt .f64 (Fl.cv .f32 .f64 a0).bits)] [.one (.flt .f64 v1.bits)]) ∧ ((convBits .f64 v1.bits .f32).isSome = true) ∧ True ∧ True) (by kernel_rfl) ⟨trivial, cv_wide a0, ⟨⟨rfl, trivial⟩, ok_math_Abs K (Fl.cv .f32 .f64 a0) v1 e2⟩, c3, trivial, trivial⟩ ?_
  refine thenQ_normal ?_
  refine AW.ret ?_
  replace h := some_eq h
  subst h
  exact ⟨.inr rfl, retOK_of [(.one (.c (.flt .f32 (Fl.cv .f64 .f32 v1).bits)))] (by kernel_rfl) ⟨⟨rfl, trivial⟩, trivial⟩ (of_decide_eq_true (by kernel_rfl))⟩

/-! impl.IsFinite -/
def impl_IsFinite (_K : Nat) (a0 : F32) : Option (Bool) :=
  some ((a0.sub a0).eq (Fl.mk (k := .f32) 0 (by decide)))

theorem ok_impl_IsFinite (K : Nat) (a0 : F32) (o : (Bool)) (h : impl_IsFinite K a0 = some o) : CallOK Try.prog 190 [.one (.flt .f32 a0.bits)] [.one (.bool o)] := by
  refine callOK_of_AW Try.func190 rfl (by kernel_rfl) (Nat.le_of_ble_eq_true (by kernel_rfl)) ?_
  intro w0
  unfold impl_IsFinite at h
  refine AW.seq ?_
  refine AW.regionA [] [0] [] (s' := ⟨[(0, (.v (.one (.c (.flt .f32 a0.bits)))))], []⟩) (ob := True ∧ True) (by kernel_rfl) ⟨trivial, trivial⟩ ?_
  refine thenQ_normal ?_
  refine AW.seq ?_
  refine AW.regionA [] [2] [] (s' := ⟨[(2, (.v (.one (.c (.bool ((a0.sub a0).eq (Fl.mk (k := .f32) 0 (by decide))))))))], []⟩) (ob := True ∧ True ∧ True ∧ True ∧ True ∧ True) (by kernel_rfl) ⟨trivial, trivial, trivial, trivial, trivial, trivial⟩ ?_
  refine thenQ_normal ?_
  refine AW.ret ?_
  replace h := some_eq h
  subst h
  exact ⟨.inr rfl, retOK_of [(.one (.c (.bool ((a0.sub a0).eq (Fl.mk (k := .f32) 0 (by decide))))))] (by kernel_rfl) ⟨⟨rfl, trivial⟩, trivial⟩ (of_decide_eq_true (by kernel_rfl))⟩

/-! impl.notNumber -/
def impl_notNumber (K : Nat) : Option (F32) :=
  (math_NaN K ).bind fun v1 => chk ((convBits .f64 v1.bits .f32).isSome = true) (some (Fl.cv .f64 .f32 v1))

theorem ok_impl_notNumber (K : Nat) (o : (F32)) (h : impl_notNumber K  = some o) : CallOK Try.prog 191 [] [.one (.flt .f32 o.bits)] := by
  refine callOK_of_AW Try.func191 rfl (by kernel_rfl) (Nat.le_of_ble_eq_true (by kernel_rfl)) ?_
  intro w0
  unfold impl_notNumber at h
  refine AW.seq ?_
  refine AW.regionA [] [] [] (s' := ⟨[], []⟩) (ob := True ∧ True) (by kernel_rfl) ⟨trivial, trivial⟩ ?_
  refine thenQ_normal ?_
  refine AW.seq ?_
  obtain ⟨v1, e2, h⟩ := bind_some h
  obtain ⟨c3, h⟩ := chk_some h
  refine AW.regionA [.call [] [.one (.flt .f64 v1.bits)] [[.view]]] [0] [] (s' := ⟨[(0, (.v (.one (.c (.flt .f32 (Fl.cv .f64 .f32 v1).bits)))))], []⟩) (ob := ((True) ∧ CallOK Try.prog 199 [] [.one (.flt .f64 v1.bits)]) ∧ ((convBits .f64 v1.bits .f32).isSome = true) ∧ True ∧ True) (by kernel_rfl) ⟨⟨trivial, ok_math_NaN K v1 e2⟩, c3, trivial, trivial⟩ ?_
  refine thenQ_normal ?_
  refine AW.ret ?_
  replace h := some_eq h
  subst h
  exact ⟨.inr rfl, retOK_of [(.one (.c (.flt .f32 (Fl.cv .f64 .f32 v1).bits)))] (by kernel_rfl) ⟨⟨rfl, trivial⟩, trivial⟩ (of_decide_eq_true (by kernel_rfl))⟩

end
end Go.Fw
