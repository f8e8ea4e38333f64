/- Functions of the program: what each computes, and that it computes just that. -/
import Derived.Test.YtgejobicepefkaaFwTy
import Derived.Test.YtgejobicepefkaaFwH
import Derived.Test.YtgejobicepefkaaProg
import Derived.KernelRfl
namespace Go.Fw
open Go Go.Proofs
noncomputable section
set_option maxRecDepth 10000

/-! laws.szTurnS -/
def laws_szTurnS (_K : Nat) (a0 : (List Turn)) (a1 : Int) : Option (Int) :=
  ite2 ((decide ((IntKind.i64.wrap (a1 - (a0.length : Int))) < (0 : Int)))) (some ((-1) : Int)) (some (IntKind.i64.wrap (a1 - (a0.length : Int))))

theorem ok_laws_szTurnS (K : Nat) (a0 : (List Turn)) (a1 : Int) (o : (Int)) (h : laws_szTurnS K a0 a1 = some o) : CallOK Try.prog 86 [.one (sl 4 cs_Turn a0), .one (.int .i64 a1)] [.one (.int .i64 o)] := by
  refine callOK_of_AW Try.func86 rfl (by kernel_rfl) (Nat.le_of_ble_eq_true (by kernel_rfl)) ?_
  intro w0
  unfold laws_szTurnS at h
  refine AW.seq ?_
  refine AW.regionA [] [0, 1] [] (s' := ⟨[(0, (.v (.one (.c (sl 4 cs_Turn a0))))), (1, (.v (.one (.c (.int .i64 a1)))))], []⟩) (ob := True ∧ True) (by kernel_rfl) ⟨trivial, trivial⟩ ?_
  refine thenQ_normal ?_
  refine AW.seq ?_
  refine AW.regionA [] [1] [] (s' := ⟨[(1, (.v (.one (.c (.int .i64 (IntKind.i64.wrap (a1 - (a0.length : Int))))))))], []⟩) (ob := True ∧ True ∧ True ∧ True ∧ True ∧ True) (by kernel_rfl) ⟨trivial, trivial, trivial, trivial, trivial, trivial⟩ ?_
  refine thenQ_normal ?_
  refine AW.seq ?_
  refine AW.seq ?_
  refine AW.regionA [] [1, 10] [] (s' := ⟨[(1, (.v (.one (.c (.int .i64 (IntKind.i64.wrap (a1 - (a0.length : Int)))))))), (10, (.v (.one (.c (.bool (decide ((IntKind.i64.wrap (a1 - (a0.length : Int))) < (0 : Int))))))))], []⟩) (ob := True ∧ True ∧ True) (by kernel_rfl) ⟨trivial, trivial, trivial⟩ ?_
  refine thenQ_normal ?_
  rcases ite2_cases h with ⟨b1, h⟩ | ⟨b1, h⟩
  · refine AW.cond_t rfl b1 ?_
    refine AW.seq ?_
    refine AW.regionA [] [4] [] (s' := ⟨[(4, (.v (.one (.c (.int .i64 ((-1) : Int))))))], []⟩) (ob := True ∧ True) (by kernel_rfl) ⟨trivial, trivial⟩ ?_
    refine thenQ_normal ?_
    refine AW.ret ?_
    refine thenQ_ret ?_
    replace h := some_eq h
    subst h
    exact ⟨.inr rfl, retOK_of [(.one (.c (.int .i64 ((-1) : Int))))] (by kernel_rfl) ⟨⟨rfl, trivial⟩, trivial⟩ (of_decide_eq_true (by kernel_rfl))⟩
  · refine AW.cond_f rfl b1 ?_
    refine AW.skip ?_
    refine thenQ_normal ?_
    refine AW.seq ?_
    refine AW.regionA [] [4] [] (s' := ⟨[(4, (.v (.one (.c (.int .i64 (IntKind.i64.wrap (a1 - (a0.length : Int))))))))], []⟩) (ob := True ∧ True ∧ True) (by kernel_rfl) ⟨trivial, trivial, trivial⟩ ?_
    refine thenQ_normal ?_
    refine AW.ret ?_
    replace h := some_eq h
    subst h
    exact ⟨.inr rfl, retOK_of [(.one (.c (.int .i64 (IntKind.i64.wrap (a1 - (a0.length : Int))))))] (by kernel_rfl) ⟨⟨rfl, trivial⟩, trivial⟩ (of_decide_eq_true (by kernel_rfl))⟩

/-! laws.szPose -/
def laws_szPose (K : Nat) (a0 : Pose) (a1 : Int) : Option (Int) :=
  (laws_szTurnS K a0.Turns a1).bind fun v1 => ite2 ((decide (v1 < (0 : Int)))) (some ((-1) : Int)) (some v1)

theorem ok_laws_szPose (K : Nat) (a0 : Pose) (a1 : Int) (o : (Int)) (h : laws_szPose K a0 a1 = some o) : CallOK Try.prog 32 [.agg (cs_Pose a0), .one (.int .i64 a1)] [.one (.int .i64 o)] := by
  refine callOK_of_AW Try.func32 rfl (by kernel_rfl) (Nat.le_of_ble_eq_true (by kernel_rfl)) ?_
  intro w0
  unfold laws_szPose at h
  refine AW.seq ?_
  refine AW.regionA [.box 1] [1, 2] [1] (s' := ⟨[(1, (.v (.one (.c (.int .i64 a1))))), (2, (.v (.one (.ptr 1 0))))], [(1, (.box [(.c (.flt .f32 a0.Root.X.bits)), (.c (.flt .f32 a0.Root.Y.bits)), (.c (.flt .f32 a0.Root.Z.bits)), (.c (sl 4 cs_Turn a0.Turns))]))]⟩) (ob := True ∧ True ∧ True) (by kernel_rfl) ⟨trivial, trivial, trivial⟩ ?_
  refine thenQ_normal ?_
  refine AW.seq ?_
  obtain ⟨v1, e2, h⟩ := bind_some h
  refine AW.regionA [.no, .no, .no, .call [.one (sl 4 cs_Turn a0.Turns), .one (.int .i64 a1)] [.one (.int .i64 v1)] [[.view]]] [1] [] (s' := ⟨[(1, (.v (.one (.c (.int .i64 v1)))))], []⟩) (ob := True ∧ True ∧ True ∧ (((((sl 4 cs_Turn a0.Turns) : C) = (sl 4 cs_Turn a0.Turns)) ∧ (((.int .i64 a1) : C) = (.int .i64 a1)) ∧ True) ∧ CallOK Try.prog 86 [.one (sl 4 cs_Turn a0.Turns), .one (.int .i64 a1)] [.one (.int .i64 v1)]) ∧ True ∧ True) (by kernel_rfl) ⟨trivial, trivial, trivial, ⟨⟨rfl, rfl, trivial⟩, ok_laws_szTurnS K a0.Turns a1 v1 e2⟩, trivial, trivial⟩ ?_
  refine thenQ_normal ?_
  refine AW.seq ?_
  refine AW.seq ?_
  refine AW.regionA [] [1, 10] [] (s' := ⟨[(1, (.v (.one (.c (.int .i64 v1))))), (10, (.v (.one (.c (.bool (decide (v1 < (0 : Int))))))))], []⟩) (ob := True ∧ True ∧ True) (by kernel_rfl) ⟨trivial, trivial, trivial⟩ ?_
  refine thenQ_normal ?_
  rcases ite2_cases h with ⟨b3, h⟩ | ⟨b3, h⟩
  · refine AW.cond_t rfl b3 ?_
    refine AW.seq ?_
    refine AW.regionA [] [4] [] (s' := ⟨[(4, (.v (.one (.c (.int .i64 ((-1) : Int))))))], []⟩) (ob := True ∧ True) (by kernel_rfl) ⟨trivial, trivial⟩ ?_
    refine thenQ_normal ?_
    refine AW.ret ?_
    refine thenQ_ret ?_
    replace h := some_eq h
    subst h
    exact ⟨.inr rfl, retOK_of [(.one (.c (.int .i64 ((-1) : Int))))] (by kernel_rfl) ⟨⟨rfl, trivial⟩, trivial⟩ (of_decide_eq_true (by kernel_rfl))⟩
  · refine AW.cond_f rfl b3 ?_
    refine AW.skip ?_
    refine thenQ_normal ?_
    refine AW.seq ?_
    refine AW.regionA [] [4] [] (s' := ⟨[(4, (.v (.one (.c (.int .i64 v1)))))], []⟩) (ob := True ∧ True ∧ True) (by kernel_rfl) ⟨trivial, trivial, trivial⟩ ?_
    refine thenQ_normal ?_
    refine AW.ret ?_
    replace h := some_eq h
    subst h
    exact ⟨.inr rfl, retOK_of [(.one (.c (.int .i64 v1)))] (by kernel_rfl) ⟨⟨rfl, trivial⟩, trivial⟩ (of_decide_eq_true (by kernel_rfl))⟩

/-! laws.szPoseS -/
def laws_szPoseS_l1 (K : Nat) (a0 : (List Pose)) : Nat → Int → Int → Option (Int)
  | 0, _, _ => none
  | k + 1, x4, x5 => ite2 ((decide (x5 < (a0.length : Int)))) (chk (0 ≤ x5 ∧ x5 < (a0.length : Int)) ((laws_szPose K (a0.getD x5.toNat default) x4).bind fun v8 => ite2 ((decide (v8 < (0 : Int)))) (some ((-1) : Int)) (laws_szPoseS_l1 K a0 k v8 (IntKind.i64.wrap (x5 + (1 : Int)))))) (some x4)

def laws_szPoseS (K : Nat) (a0 : (List Pose)) (a1 : Int) : Option (Int) :=
  ite2 ((decide ((IntKind.i64.wrap (a1 - (a0.length : Int))) < (0 : Int)))) (some ((-1) : Int)) (laws_szPoseS_l1 K a0 K (IntKind.i64.wrap (a1 - (a0.length : Int))) (0 : Int))

theorem ok_laws_szPoseS (K : Nat) (a0 : (List Pose)) (a1 : Int) (o : (Int)) (h : laws_szPoseS K a0 a1 = some o) : CallOK Try.prog 72 [.one (sl 4 cs_Pose a0), .one (.int .i64 a1)] [.one (.int .i64 o)] := by
  refine callOK_of_AW Try.func72 rfl (by kernel_rfl) (Nat.le_of_ble_eq_true (by kernel_rfl)) ?_
  intro w0
  unfold laws_szPoseS at h
  refine AW.seq ?_
  refine AW.regionA [] [0, 1] [] (s' := ⟨[(0, (.v (.one (.c (sl 4 cs_Pose a0))))), (1, (.v (.one (.c (.int .i64 a1)))))], []⟩) (ob := True ∧ True) (by kernel_rfl) ⟨trivial, trivial⟩ ?_
  refine thenQ_normal ?_
  refine AW.seq ?_
  refine AW.regionA [] [0, 1] [] (s' := ⟨[(0, (.v (.one (.c (sl 4 cs_Pose a0))))), (1, (.v (.one (.c (.int .i64 (IntKind.i64.wrap (a1 - (a0.length : Int))))))))], []⟩) (ob := True ∧ True ∧ True ∧ True ∧ True ∧ True) (by kernel_rfl) ⟨trivial, trivial, trivial, trivial, trivial, trivial⟩ ?_
  refine thenQ_normal ?_
  refine AW.seq ?_
  refine AW.seq ?_
  refine AW.regionA [] [0, 1, 11] [] (s' := ⟨[(0, (.v (.one (.c (sl 4 cs_Pose a0))))), (1, (.v (.one (.c (.int .i64 (IntKind.i64.wrap (a1 - (a0.length : Int)))))))), (11, (.v (.one (.c (.bool (decide ((IntKind.i64.wrap (a1 - (a0.length : Int))) < (0 : Int))))))))], []⟩) (ob := True ∧ True ∧ True) (by kernel_rfl) ⟨trivial, trivial, trivial⟩ ?_
  refine thenQ_normal ?_
  rcases ite2_cases h with ⟨b1, h⟩ | ⟨b1, h⟩
  · refine AW.cond_t rfl b1 ?_
    refine AW.seq ?_
    refine AW.regionA [] [4] [] (s' := ⟨[(4, (.v (.one (.c (.int .i64 ((-1) : Int))))))], []⟩) (ob := True ∧ True) (by kernel_rfl) ⟨trivial, trivial⟩ ?_
    refine thenQ_normal ?_
    refine AW.ret ?_
    refine thenQ_ret ?_
    replace h := some_eq h
    subst h
    exact ⟨.inr rfl, retOK_of [(.one (.c (.int .i64 ((-1) : Int))))] (by kernel_rfl) ⟨⟨rfl, trivial⟩, trivial⟩ (of_decide_eq_true (by kernel_rfl))⟩
  · refine AW.cond_f rfl b1 ?_
    refine AW.skip ?_
    refine thenQ_normal ?_
    refine AW.seq ?_
    refine AW.seq ?_
    refine AW.regionA [] [0, 1, 5] [] (s' := ⟨[(0, (.v (.one (.c (sl 4 cs_Pose a0))))), (1, (.v (.one (.c (.int .i64 (IntKind.i64.wrap (a1 - (a0.length : Int)))))))), (5, (.v (.one (.c (.int .i64 (0 : Int))))))], []⟩) (ob := True ∧ True) (by kernel_rfl) ⟨trivial, trivial⟩ ?_
    refine thenQ_normal ?_
    refine AW.block ?_
    refine AW.loopQ (σ := Nat × Int × Int) (fun p => ⟨[(0, (.v (.one (.c (sl 4 cs_Pose a0))))), (1, (.v (.one (.c (.int .i64 p.2.1))))), (5, (.v (.one (.c (.int .i64 p.2.2)))))], []⟩) (fun p => laws_szPoseS_l1 K a0 p.1 p.2.1 p.2.2 = some o) (fun p => p.1) (K, (IntKind.i64.wrap (a1 - (a0.length : Int))), (0 : Int)) h ?_
    clear h
    rintro ⟨k, x4, x5⟩ h
    replace h : laws_szPoseS_l1 K a0 k x4 x5 = some o := h
    show AW _ _ (⟨[(0, (.v (.one (.c (sl 4 cs_Pose a0))))), (1, (.v (.one (.c (.int .i64 x4))))), (5, (.v (.one (.c (.int .i64 x5)))))], []⟩ : St) _
    obtain _ | k := k
    · rw [laws_szPoseS_l1] at h; cases h
    rw [laws_szPoseS_l1] at h
    refine AW.seq ?_
    refine AW.seq ?_
    refine AW.regionA [] [0, 1, 5, 15] [] (s' := ⟨[(0, (.v (.one (.c (sl 4 cs_Pose a0))))), (1, (.v (.one (.c (.int .i64 x4))))), (5, (.v (.one (.c (.int .i64 x5))))), (15, (.v (.one (.c (.bool (decide (x5 < (a0.length : Int))))))))], []⟩) (ob := True ∧ True ∧ True ∧ True ∧ True) (by kernel_rfl) ⟨trivial, trivial, trivial, trivial, trivial⟩ ?_
    refine thenQ_normal ?_
    rcases ite2_cases h with ⟨b6, h⟩ | ⟨b6, h⟩
    · refine AW.cond_t rfl b6 ?_
      refine AW.skip ?_
      refine thenQ_normal ?_
      refine AW.seq ?_
      refine AW.block ?_
      refine AW.seq ?_
      obtain ⟨c7, h⟩ := chk_some h
      obtain ⟨v8, e9, h⟩ := bind_some h
      refine AW.regionA [.no, .no, .no, .no, .no, .call [.agg (cs_Pose (a0.getD x5.toNat default)), .one (.int .i64 x4)] [.one (.int .i64 v8)] [[.view]]] [0, 1, 5] [] (s' := ⟨[(0, (.v (.one (.c (sl 4 cs_Pose a0))))), (1, (.v (.one (.c (.int .i64 v8))))), (5, (.v (.one (.c (.int .i64 x5)))))], []⟩) (ob := True ∧ True ∧ (0 ≤ x5 ∧ x5 < (a0.length : Int)) ∧ True ∧ True ∧ ((((((.flt .f32 (((a0.getD x5.toNat default).Root).X).bits) : C) = (.flt .f32 (((a0.getD x5.toNat default).Root).X).bits)) ∧ (((.flt .f32 (((a0.getD x5.toNat default).Root).Y).bits) : C) = (.flt .f32 (((a0.getD x5.toNat default).Root).Y).bits)) ∧ (((.flt .f32 (((a0.getD x5.toNat default).Root).Z).bits) : C) = (.flt .f32 (((a0.getD x5.toNat default).Root).Z).bits)) ∧ (((sl 4 cs_Turn ((a0.getD x5.toNat default).Turns)) : C) = (sl 4 cs_Turn ((a0.getD x5.toNat default).Turns))) ∧ True) ∧ (((.int .i64 x4) : C) = (.int .i64 x4)) ∧ True) ∧ CallOK Try.prog 32 [.agg (cs_Pose (a0.getD x5.toNat default)), .one (.int .i64 x4)] [.one (.int .i64 v8)]) ∧ True ∧ True) (by kernel_rfl) ⟨trivial, trivial, c7, trivial, trivial, ⟨⟨⟨rfl, rfl, rfl, rfl, trivial⟩, rfl, trivial⟩, ok_laws_szPose K (a0.getD x5.toNat default) x4 v8 e9⟩, trivial, trivial⟩ ?_
      refine thenQ_normal ?_
      refine AW.seq ?_
      refine AW.regionA [] [0, 1, 5, 25] [] (s' := ⟨[(0, (.v (.one (.c (sl 4 cs_Pose a0))))), (1, (.v (.one (.c (.int .i64 v8))))), (5, (.v (.one (.c (.int .i64 x5))))), (25, (.v (.one (.c (.bool (decide (v8 < (0 : Int))))))))], []⟩) (ob := True ∧ True ∧ True) (by kernel_rfl) ⟨trivial, trivial, trivial⟩ ?_
      refine thenQ_normal ?_
      rcases ite2_cases h with ⟨b10, h⟩ | ⟨b10, h⟩
      · refine AW.cond_t rfl b10 ?_
        refine AW.seq ?_
        refine AW.regionA [] [4] [] (s' := ⟨[(4, (.v (.one (.c (.int .i64 ((-1) : Int))))))], []⟩) (ob := True ∧ True) (by kernel_rfl) ⟨trivial, trivial⟩ ?_
        refine thenQ_normal ?_
        refine AW.ret ?_
        refine blockQ_ret ?_
        refine thenQ_ret ?_
        refine loopQ_ret ?_
        refine blockQ_ret ?_
        refine thenQ_ret ?_
        replace h := some_eq h
        subst h
        exact ⟨.inr rfl, retOK_of [(.one (.c (.int .i64 ((-1) : Int))))] (by kernel_rfl) ⟨⟨rfl, trivial⟩, trivial⟩ (of_decide_eq_true (by kernel_rfl))⟩
      · refine AW.cond_f rfl b10 ?_
        refine AW.skip ?_
        refine blockQ_normal ?_
        refine thenQ_normal ?_
        refine AW.regionA [] [0, 1, 5] [] (s' := ⟨[(0, (.v (.one (.c (sl 4 cs_Pose a0))))), (1, (.v (.one (.c (.int .i64 v8))))), (5, (.v (.one (.c (.int .i64 (IntKind.i64.wrap (x5 + (1 : Int))))))))], []⟩) (ob := True ∧ True ∧ True ∧ True) (by kernel_rfl) ⟨trivial, trivial, trivial, trivial⟩ ?_
        exact loopQ_normal (k, v8, (IntKind.i64.wrap (x5 + (1 : Int)))) h (Nat.lt_succ_self k) (Sub.keep [0, 1, 5] [] (by kernel_rfl) (by kernel_rfl))
    · refine AW.cond_f rfl b6 ?_
      refine AW.exit ?_
      refine thenQ_exit ?_
      refine loopQ_exit ?_
      refine blockQ_exit ?_
      refine thenQ_normal ?_
      refine AW.seq ?_
      refine AW.regionA [] [4] [] (s' := ⟨[(4, (.v (.one (.c (.int .i64 x4)))))], []⟩) (ob := True ∧ True ∧ True) (by kernel_rfl) ⟨trivial, trivial, trivial⟩ ?_
      refine thenQ_normal ?_
      refine AW.ret ?_
      replace h := some_eq h
      subst h
      exact ⟨.inr rfl, retOK_of [(.one (.c (.int .i64 x4)))] (by kernel_rfl) ⟨⟨rfl, trivial⟩, trivial⟩ (of_decide_eq_true (by kernel_rfl))⟩

/-! laws.szRecording -/
def laws_szRecording (K : Nat) (a0 : Recording) (a1 : Int) : Option (Int) :=
  (laws_szPoseS K a0.Frames a1).bind fun v1 => ite2 ((decide (v1 < (0 : Int)))) (some ((-1) : Int)) (some v1)

theorem ok_laws_szRecording (K : Nat) (a0 : Recording) (a1 : Int) (o : (Int)) (h : laws_szRecording K a0 a1 = some o) : CallOK Try.prog 21 [.agg (cs_Recording a0), .one (.int .i64 a1)] [.one (.int .i64 o)] := by
  refine callOK_of_AW Try.func21 rfl (by kernel_rfl) (Nat.le_of_ble_eq_true (by kernel_rfl)) ?_
  intro w0
  unfold laws_szRecording at h
  refine AW.seq ?_
  refine AW.regionA [.box 1] [1, 2] [1] (s' := ⟨[(1, (.v (.one (.c (.int .i64 a1))))), (2, (.v (.one (.ptr 1 0))))], [(1, (.box [(.c (.int .i64 a0.Bones)), (.c (sl 4 cs_Pose a0.Frames))]))]⟩) (ob := True ∧ True ∧ True) (by kernel_rfl) ⟨trivial, trivial, trivial⟩ ?_
  refine thenQ_normal ?_
  refine AW.seq ?_
  obtain ⟨v1, e2, h⟩ := bind_some h
  refine AW.regionA [.no, .no, .no, .call [.one (sl 4 cs_Pose a0.Frames), .one (.int .i64 a1)] [.one (.int .i64 v1)] [[.view]]] [1] [] (s' := ⟨[(1, (.v (.one (.c (.int .i64 v1)))))], []⟩) (ob := True ∧ True ∧ True ∧ (((((sl 4 cs_Pose a0.Frames) : C) = (sl 4 cs_Pose a0.Frames)) ∧ (((.int .i64 a1) : C) = (.int .i64 a1)) ∧ True) ∧ CallOK Try.prog 72 [.one (sl 4 cs_Pose a0.Frames), .one (.int .i64 a1)] [.one (.int .i64 v1)]) ∧ True ∧ True) (by kernel_rfl) ⟨trivial, trivial, trivial, ⟨⟨rfl, rfl, trivial⟩, ok_laws_szPoseS K a0.Frames a1 v1 e2⟩, trivial, trivial⟩ ?_
  refine thenQ_normal ?_
  refine AW.seq ?_
  refine AW.seq ?_
  refine AW.regionA [] [1, 10] [] (s' := ⟨[(1, (.v (.one (.c (.int .i64 v1))))), (10, (.v (.one (.c (.bool (decide (v1 < (0 : Int))))))))], []⟩) (ob := True ∧ True ∧ True) (by kernel_rfl) ⟨trivial, trivial, trivial⟩ ?_
  refine thenQ_normal ?_
  rcases ite2_cases h with ⟨b3, h⟩ | ⟨b3, h⟩
  · refine AW.cond_t rfl b3 ?_
    refine AW.seq ?_
    refine AW.regionA [] [4] [] (s' := ⟨[(4, (.v (.one (.c (.int .i64 ((-1) : Int))))))], []⟩) (ob := True ∧ True) (by kernel_rfl) ⟨trivial, trivial⟩ ?_
    refine thenQ_normal ?_
    refine AW.ret ?_
    refine thenQ_ret ?_
    replace h := some_eq h
    subst h
    exact ⟨.inr rfl, retOK_of [(.one (.c (.int .i64 ((-1) : Int))))] (by kernel_rfl) ⟨⟨rfl, trivial⟩, trivial⟩ (of_decide_eq_true (by kernel_rfl))⟩
  · refine AW.cond_f rfl b3 ?_
    refine AW.skip ?_
    refine thenQ_normal ?_
    refine AW.seq ?_
    refine AW.regionA [] [4] [] (s' := ⟨[(4, (.v (.one (.c (.int .i64 v1)))))], []⟩) (ob := True ∧ True ∧ True) (by kernel_rfl) ⟨trivial, trivial, trivial⟩ ?_
    refine thenQ_normal ?_
    refine AW.ret ?_
    replace h := some_eq h
    subst h
    exact ⟨.inr rfl, retOK_of [(.one (.c (.int .i64 v1)))] (by kernel_rfl) ⟨⟨rfl, trivial⟩, trivial⟩ (of_decide_eq_true (by kernel_rfl))⟩

/-! laws.toVector -/
def laws_toVector (_K : Nat) (a0 : Vector) : Option (Vector) :=
  some a0

theorem ok_laws_toVector (K : Nat) (a0 : Vector) (o : (Vector)) (h : laws_toVector K a0 = some o) : CallOK Try.prog 88 [.agg (cs_Vector a0)] [.agg (cs_Vector o)] := by
  refine callOK_of_AW Try.func88 rfl (by kernel_rfl) (Nat.le_of_ble_eq_true (by kernel_rfl)) ?_
  intro w0
  unfold laws_toVector at h
  refine AW.seq ?_
  refine AW.regionA [.box 1, .box 2] [1, 2] [1, 2] (s' := ⟨[(1, (.v (.one (.ptr 1 0)))), (2, (.v (.one (.ptr 2 0))))], [(1, (.box [(.c (.flt .f32 a0.X.bits)), (.c (.flt .f32 a0.Y.bits)), (.c (.flt .f32 a0.Z.bits))])), (2, (.box [(.c (.flt .f32 (default : F32).bits)), (.c (.flt .f32 (default : F32).bits)), (.c (.flt .f32 (default : F32).bits))]))]⟩) (ob := True ∧ True ∧ True) (by kernel_rfl) ⟨trivial, trivial, trivial⟩ ?_
  refine thenQ_normal ?_
  refine AW.seq ?_
  refine AW.regionA [.box 3] [1, 2, 3] [1, 2, 3] (s' := ⟨[(1, (.v (.one (.ptr 1 0)))), (2, (.v (.one (.ptr 2 0)))), (3, (.v (.one (.ptr 3 0))))], [(1, (.box [(.c (.flt .f32 a0.X.bits)), (.c (.flt .f32 a0.Y.bits)), (.c (.flt .f32 a0.Z.bits))])), (2, (.box [(.c (.flt .f32 (default : F32).bits)), (.c (.flt .f32 (default : F32).bits)), (.c (.flt .f32 (default : F32).bits))])), (3, (.box [(.c (.flt .f32 (default : F32).bits)), (.c (.flt .f32 (default : F32).bits)), (.c (.flt .f32 (default : F32).bits))]))]⟩) (ob := True ∧ True) (by kernel_rfl) ⟨trivial, trivial⟩ ?_
  refine thenQ_normal ?_
  refine AW.seq ?_
  refine AW.regionA [] [1, 2, 3] [1, 2, 3] (s' := ⟨[(1, (.v (.one (.ptr 1 0)))), (2, (.v (.one (.ptr 2 0)))), (3, (.v (.one (.ptr 3 0))))], [(1, (.box [(.c (.flt .f32 a0.X.bits)), (.c (.flt .f32 a0.Y.bits)), (.c (.flt .f32 a0.Z.bits))])), (2, (.box [(.c (.flt .f32 (default : F32).bits)), (.c (.flt .f32 (default : F32).bits)), (.c (.flt .f32 (default : F32).bits))])), (3, (.box [(.c (.flt .f32 a0.X.bits)), (.c (.flt .f32 (default : F32).bits)), (.c (.flt .f32 (default : F32).bits))]))]⟩) (ob := True ∧ True ∧ True ∧ True ∧ True) (by kernel_rfl) ⟨trivial, trivial, trivial, trivial, trivial⟩ ?_
  refine thenQ_normal ?_
  refine AW.seq ?_
  refine AW.regionA [] [1, 2, 3] [1, 2, 3] (s' := ⟨[(1, (.v (.one (.ptr 1 0)))), (2, (.v (.one (.ptr 2 0)))), (3, (.v (.one (.ptr 3 0))))], [(1, (.box [(.c (.flt .f32 a0.X.bits)), (.c (.flt .f32 a0.Y.bits)), (.c (.flt .f32 a0.Z.bits))])), (2, (.box [(.c (.flt .f32 (default : F32).bits)), (.c (.flt .f32 (default : F32).bits)), (.c (.flt .f32 (default : F32).bits))])), (3, (.box [(.c (.flt .f32 a0.X.bits)), (.c (.flt .f32 a0.Y.bits)), (.c (.flt .f32 (default : F32).bits))]))]⟩) (ob := True ∧ True ∧ True ∧ True ∧ True) (by kernel_rfl) ⟨trivial, trivial, trivial, trivial, trivial⟩ ?_
  refine thenQ_normal ?_
  refine AW.seq ?_
  refine AW.regionA [] [2, 3] [2, 3] (s' := ⟨[(2, (.v (.one (.ptr 2 0)))), (3, (.v (.one (.ptr 3 0))))], [(2, (.box [(.c (.flt .f32 (default : F32).bits)), (.c (.flt .f32 (default : F32).bits)), (.c (.flt .f32 (default : F32).bits))])), (3, (.box [(.c (.flt .f32 a0.X.bits)), (.c (.flt .f32 a0.Y.bits)), (.c (.flt .f32 a0.Z.bits))]))]⟩) (ob := True ∧ True ∧ True ∧ True ∧ True) (by kernel_rfl) ⟨trivial, trivial, trivial, trivial, trivial⟩ ?_
  refine thenQ_normal ?_
  refine AW.seq ?_
  refine AW.regionA [] [2] [2] (s' := ⟨[(2, (.v (.one (.ptr 2 0))))], [(2, (.box [(.c (.flt .f32 a0.X.bits)), (.c (.flt .f32 a0.Y.bits)), (.c (.flt .f32 a0.Z.bits))]))]⟩) (ob := True ∧ True ∧ True) (by kernel_rfl) ⟨trivial, trivial, trivial⟩ ?_
  refine thenQ_normal ?_
  refine AW.ret ?_
  replace h := some_eq h
  subst h
  exact ⟨.inr rfl, retOK_of [(.agg [(.c (.flt .f32 a0.X.bits)), (.c (.flt .f32 a0.Y.bits)), (.c (.flt .f32 a0.Z.bits))])] (by kernel_rfl) ⟨⟨⟨rfl, trivial⟩, ⟨rfl, trivial⟩, ⟨rfl, trivial⟩, trivial⟩, trivial⟩ (of_decide_eq_true (by kernel_rfl))⟩

/-! laws.toTurn -/
def laws_toTurn (_K : Nat) (a0 : Turn) : Option (Turn) :=
  some a0

theorem ok_laws_toTurn (K : Nat) (a0 : Turn) (o : (Turn)) (h : laws_toTurn K a0 = some o) : CallOK Try.prog 130 [.agg (cs_Turn a0)] [.agg (cs_Turn o)] := by
  refine callOK_of_AW Try.func130 rfl (by kernel_rfl) (Nat.le_of_ble_eq_true (by kernel_rfl)) ?_
  intro w0
  unfold laws_toTurn at h
  refine AW.seq ?_
  refine AW.regionA [.box 1, .box 2] [1, 2] [1, 2] (s' := ⟨[(1, (.v (.one (.ptr 1 0)))), (2, (.v (.one (.ptr 2 0))))], [(1, (.box [(.c (.flt .f32 a0.W.bits)), (.c (.flt .f32 a0.X.bits)), (.c (.flt .f32 a0.Y.bits)), (.c (.flt .f32 a0.Z.bits))])), (2, (.box [(.c (.flt .f32 (default : F32).bits)), (.c (.flt .f32 (default : F32).bits)), (.c (.flt .f32 (default : F32).bits)), (.c (.flt .f32 (default : F32).bits))]))]⟩) (ob := True ∧ True ∧ True) (by kernel_rfl) ⟨trivial, trivial, trivial⟩ ?_
  refine thenQ_normal ?_
  refine AW.seq ?_
  refine AW.regionA [.box 3] [1, 2, 3] [1, 2, 3] (s' := ⟨[(1, (.v (.one (.ptr 1 0)))), (2, (.v (.one (.ptr 2 0)))), (3, (.v (.one (.ptr 3 0))))], [(1, (.box [(.c (.flt .f32 a0.W.bits)), (.c (.flt .f32 a0.X.bits)), (.c (.flt .f32 a0.Y.bits)), (.c (.flt .f32 a0.Z.bits))])), (2, (.box [(.c (.flt .f32 (default : F32).bits)), (.c (.flt .f32 (default : F32).bits)), (.c (.flt .f32 (default : F32).bits)), (.c (.flt .f32 (default : F32).bits))])), (3, (.box [(.c (.flt .f32 (default : F32).bits)), (.c (.flt .f32 (default : F32).bits)), (.c (.flt .f32 (default : F32).bits)), (.c (.flt .f32 (default : F32).bits))]))]⟩) (ob := True ∧ True) (by kernel_rfl) ⟨trivial, trivial⟩ ?_
  refine thenQ_normal ?_
  refine AW.seq ?_
  refine AW.regionA [] [1, 2, 3] [1, 2, 3] (s' := ⟨[(1, (.v (.one (.ptr 1 0)))), (2, (.v (.one (.ptr 2 0)))), (3, (.v (.one (.ptr 3 0))))], [(1, (.box [(.c (.flt .f32 a0.W.bits)), (.c (.flt .f32 a0.X.bits)), (.c (.flt .f32 a0.Y.bits)), (.c (.flt .f32 a0.Z.bits))])), (2, (.box [(.c (.flt .f32 (default : F32).bits)), (.c (.flt .f32 (default : F32).bits)), (.c (.flt .f32 (default : F32).bits)), (.c (.flt .f32 (default : F32).bits))])), (3, (.box [(.c (.flt .f32 a0.W.bits)), (.c (.flt .f32 (default : F32).bits)), (.c (.flt .f32 (default : F32).bits)), (.c (.flt .f32 (default : F32).bits))]))]⟩) (ob := True ∧ True ∧ True ∧ True ∧ True) (by kernel_rfl) ⟨trivial, trivial, trivial, trivial, trivial⟩ ?_
  refine thenQ_normal ?_
  refine AW.seq ?_
  refine AW.regionA [] [1, 2, 3] [1, 2, 3] (s' := ⟨[(1, (.v (.one (.ptr 1 0)))), (2, (.v (.one (.ptr 2 0)))), (3, (.v (.one (.ptr 3 0))))], [(1, (.box [(.c (.flt .f32 a0.W.bits)), (.c (.flt .f32 a0.X.bits)), (.c (.flt .f32 a0.Y.bits)), (.c (.flt .f32 a0.Z.bits))])), (2, (.box [(.c (.flt .f32 (default : F32).bits)), (.c (.flt .f32 (default : F32).bits)), (.c (.flt .f32 (default : F32).bits)), (.c (.flt .f32 (default : F32).bits))])), (3, (.box [(.c (.flt .f32 a0.W.bits)), (.c (.flt .f32 a0.X.bits)), (.c (.flt .f32 (default : F32).bits)), (.c (.flt .f32 (default : F32).bits))]))]⟩) (ob := True ∧ True ∧ True ∧ True ∧ True) (by kernel_rfl) ⟨trivial, trivial, trivial, trivial, trivial⟩ ?_
  refine thenQ_normal ?_
  refine AW.seq ?_
  refine AW.regionA [] [1, 2, 3] [1, 2, 3] (s' := ⟨[(1, (.v (.one (.ptr 1 0)))), (2, (.v (.one (.ptr 2 0)))), (3, (.v (.one (.ptr 3 0))))], [(1, (.box [(.c (.flt .f32 a0.W.bits)), (.c (.flt .f32 a0.X.bits)), (.c (.flt .f32 a0.Y.bits)), (.c (.flt .f32 a0.Z.bits))])), (2, (.box [(.c (.flt .f32 (default : F32).bits)), (.c (.flt .f32 (default : F32).bits)), (.c (.flt .f32 (default : F32).bits)), (.c (.flt .f32 (default : F32).bits))])), (3, (.box [(.c (.flt .f32 a0.W.bits)), (.c (.flt .f32 a0.X.bits)), (.c (.flt .f32 a0.Y.bits)), (.c (.flt .f32 (default : F32).bits))]))]⟩) (ob := True ∧ True ∧ True ∧ True ∧ True) (by kernel_rfl) ⟨trivial, trivial, trivial, trivial, trivial⟩ ?_
  refine thenQ_normal ?_
  refine AW.seq ?_
  refine AW.regionA [] [2, 3] [2, 3] (s' := ⟨[(2, (.v (.one (.ptr 2 0)))), (3, (.v (.one (.ptr 3 0))))], [(2, (.box [(.c (.flt .f32 (default : F32).bits)), (.c (.flt .f32 (default : F32).bits)), (.c (.flt .f32 (default : F32).bits)), (.c (.flt .f32 (default : F32).bits))])), (3, (.box [(.c (.flt .f32 a0.W.bits)), (.c (.flt .f32 a0.X.bits)), (.c (.flt .f32 a0.Y.bits)), (.c (.flt .f32 a0.Z.bits))]))]⟩) (ob := True ∧ True ∧ True ∧ True ∧ True) (by kernel_rfl) ⟨trivial, trivial, trivial, trivial, trivial⟩ ?_
  refine thenQ_normal ?_
  refine AW.seq ?_
  refine AW.regionA [] [2] [2] (s' := ⟨[(2, (.v (.one (.ptr 2 0))))], [(2, (.box [(.c (.flt .f32 a0.W.bits)), (.c (.flt .f32 a0.X.bits)), (.c (.flt .f32 a0.Y.bits)), (.c (.flt .f32 a0.Z.bits))]))]⟩) (ob := True ∧ True ∧ True) (by kernel_rfl) ⟨trivial, trivial, trivial⟩ ?_
  refine thenQ_normal ?_
  refine AW.ret ?_
  replace h := some_eq h
  subst h
  exact ⟨.inr rfl, retOK_of [(.agg [(.c (.flt .f32 a0.W.bits)), (.c (.flt .f32 a0.X.bits)), (.c (.flt .f32 a0.Y.bits)), (.c (.flt .f32 a0.Z.bits))])] (by kernel_rfl) ⟨⟨⟨rfl, trivial⟩, ⟨rfl, trivial⟩, ⟨rfl, trivial⟩, ⟨rfl, trivial⟩, trivial⟩, trivial⟩ (of_decide_eq_true (by kernel_rfl))⟩

/-! laws.toTurnS -/
def laws_toTurnS_l1 (K : Nat) (a0 : (List Turn)) : Nat → Int → (List Turn) → Option ((List Turn))
  | 0, _, _ => none
  | k + 1, x4, x5 => ite2 ((decide (x4 < (a0.length : Int)))) (chk (0 ≤ x4 ∧ x4 < (a0.length : Int)) ((laws_toTurn K (a0.getD x4.toNat default)).bind fun v8 => chk (0 ≤ x4 ∧ x4 < (x5.length : Int)) (laws_toTurnS_l1 K a0 k (IntKind.i64.wrap (x4 + (1 : Int))) (x5.set x4.toNat v8)))) (some x5)

def laws_toTurnS (K : Nat) (a0 : (List Turn)) : Option ((List Turn)) :=
  chk (0 ≤ (a0.length : Int) ∧ (a0.length : Int).toNat * 16 ≤ 140737488355328) (laws_toTurnS_l1 K a0 K (0 : Int) (List.replicate (a0.length : Int).toNat (default : Turn)))

theorem ok_laws_toTurnS (K : Nat) (a0 : (List Turn)) (o : ((List Turn))) (h : laws_toTurnS K a0 = some o) : CallOK Try.prog 89 [.one (sl 4 cs_Turn a0)] [.one (sl 4 cs_Turn o)] := by
  refine callOK_of_AW Try.func89 rfl (by kernel_rfl) (Nat.le_of_ble_eq_true (by kernel_rfl)) ?_
  intro w0
  unfold laws_toTurnS at h
  refine AW.seq ?_
  refine AW.regionA [] [0] [] (s' := ⟨[(0, (.v (.one (.c (sl 4 cs_Turn a0)))))], []⟩) (ob := True ∧ True) (by kernel_rfl) ⟨trivial, trivial⟩ ?_
  refine thenQ_normal ?_
  refine AW.seq ?_
  obtain ⟨c1, h⟩ := chk_some h
  refine AW.regionA [.no, .no, .objA 1 (List.replicate (a0.length : Int).toNat (default : Turn)).length (gl cs_Turn (List.replicate (a0.length : Int).toNat (default : Turn)))] [0, 3] [1] (s' := ⟨[(0, (.v (.one (.c (sl 4 cs_Turn a0))))), (3, (.v (.one (.arr 1))))], [(1, (.arr false (List.replicate (a0.length : Int).toNat (default : Turn)).length 4 (gl cs_Turn (List.replicate (a0.length : Int).toNat (default : Turn)))))]⟩) (ob := True ∧ True ∧ (0 ≤ (a0.length : Int) ∧ (a0.length : Int) = (a0.length : Int) ∧ (((List.replicate (a0.length : Int).toNat (default : Turn)).length : Nat) : Int) = (a0.length : Int) ∧ (List.replicate (a0.length : Int).toNat (default : Turn)).length * 16 ≤ 140737488355328 ∧ ∀ i, i < (List.replicate (a0.length : Int).toNat (default : Turn)).length → zeroRow (fun _ => none) [(.c (.flt .f32 (default : F32).bits)), (.c (.flt .f32 (default : F32).bits)), (.c (.flt .f32 (default : F32).bits)), (.c (.flt .f32 (default : F32).bits))] (gl cs_Turn (List.replicate (a0.length : Int).toNat (default : Turn)) i)) ∧ True ∧ True) (by kernel_rfl) ⟨trivial, trivial, ⟨c1.1, rfl, len_rep c1.1, rep_bytes c1.2, fun i hi => gl_zero (cs := cs_Turn) (zs := [(.c (.flt .f32 (default : F32).bits)), (.c (.flt .f32 (default : F32).bits)), (.c (.flt .f32 (default : F32).bits)), (.c (.flt .f32 (default : F32).bits))]) (n := (a0.length : Int).toNat) ⟨⟨rfl, trivial⟩, ⟨rfl, trivial⟩, ⟨rfl, trivial⟩, ⟨rfl, trivial⟩, trivial⟩ i (rep_lt hi)⟩, trivial, trivial⟩ ?_
  refine thenQ_normal ?_
  refine AW.seq ?_
  refine AW.seq ?_
  refine AW.regionA [] [0, 3, 4] [1] (s' := ⟨[(0, (.v (.one (.c (sl 4 cs_Turn a0))))), (3, (.v (.one (.arr 1)))), (4, (.v (.one (.c (.int .i64 (0 : Int))))))], [(1, (.arr false (List.replicate (a0.length : Int).toNat (default : Turn)).length 4 (gl cs_Turn (List.replicate (a0.length : Int).toNat (default : Turn)))))]⟩) (ob := True ∧ True) (by kernel_rfl) ⟨trivial, trivial⟩ ?_
  refine thenQ_normal ?_
  refine AW.block ?_
  refine AW.loopQ (σ := Nat × Int × (List Turn)) (fun p => ⟨[(0, (.v (.one (.c (sl 4 cs_Turn a0))))), (3, (.v (.one (.arr 1)))), (4, (.v (.one (.c (.int .i64 p.2.1)))))], [(1, (.arr false p.2.2.length 4 (gl cs_Turn p.2.2)))]⟩) (fun p => laws_toTurnS_l1 K a0 p.1 p.2.1 p.2.2 = some o) (fun p => p.1) (K, (0 : Int), (List.replicate (a0.length : Int).toNat (default : Turn))) h ?_
  clear h
  rintro ⟨k, x4, x5⟩ h
  replace h : laws_toTurnS_l1 K a0 k x4 x5 = some o := h
  show AW _ _ (⟨[(0, (.v (.one (.c (sl 4 cs_Turn a0))))), (3, (.v (.one (.arr 1)))), (4, (.v (.one (.c (.int .i64 x4)))))], [(1, (.arr false x5.length 4 (gl cs_Turn x5)))]⟩ : St) _
  obtain _ | k := k
  · rw [laws_toTurnS_l1] at h; cases h
  rw [laws_toTurnS_l1] at h
  refine AW.seq ?_
  refine AW.seq ?_
  refine AW.regionA [] [0, 3, 4, 11] [1] (s' := ⟨[(0, (.v (.one (.c (sl 4 cs_Turn a0))))), (3, (.v (.one (.arr 1)))), (4, (.v (.one (.c (.int .i64 x4))))), (11, (.v (.one (.c (.bool (decide (x4 < (a0.length : Int))))))))], [(1, (.arr false x5.length 4 (gl cs_Turn x5)))]⟩) (ob := True ∧ True ∧ True ∧ True ∧ True) (by kernel_rfl) ⟨trivial, trivial, trivial, trivial, trivial⟩ ?_
  refine thenQ_normal ?_
  rcases ite2_cases h with ⟨b6, h⟩ | ⟨b6, h⟩
  · refine AW.cond_t rfl b6 ?_
    refine AW.skip ?_
    refine thenQ_normal ?_
    refine AW.seq ?_
    refine AW.block ?_
    obtain ⟨c7, h⟩ := chk_some h
    obtain ⟨v8, e9, h⟩ := bind_some h
    obtain ⟨c10, h⟩ := chk_some h
    refine AW.regionA [.no, .no, .no, .no, .no, .no, .call [.agg (cs_Turn (a0.getD x4.toNat default))] [.agg (cs_Turn v8)] [[.view, .view, .view, .view]], .no, .set (x5.set x4.toNat v8).length (gl cs_Turn (x5.set x4.toNat v8)) ((List.range 4).map fun j => (cs_Turn v8).getD (0 + j) .nilptr)] [0, 3, 4] [1] (s' := ⟨[(0, (.v (.one (.c (sl 4 cs_Turn a0))))), (3, (.v (.one (.arr 1)))), (4, (.v (.one (.c (.int .i64 x4)))))], [(1, (.arr false (x5.set x4.toNat v8).length 4 (gl cs_Turn (x5.set x4.toNat v8))))]⟩) (ob := True ∧ True ∧ True ∧ True ∧ (0 ≤ x4 ∧ x4 < (a0.length : Int)) ∧ True ∧ ((((((.flt .f32 ((a0.getD x4.toNat default).W).bits) : C) = (.flt .f32 ((a0.getD x4.toNat default).W).bits)) ∧ (((.flt .f32 ((a0.getD x4.toNat default).X).bits) : C) = (.flt .f32 ((a0.getD x4.toNat default).X).bits)) ∧ (((.flt .f32 ((a0.getD x4.toNat default).Y).bits) : C) = (.flt .f32 ((a0.getD x4.toNat default).Y).bits)) ∧ (((.flt .f32 ((a0.getD x4.toNat default).Z).bits) : C) = (.flt .f32 ((a0.getD x4.toNat default).Z).bits)) ∧ True) ∧ True) ∧ CallOK Try.prog 130 [.agg (cs_Turn (a0.getD x4.toNat default))] [.agg (cs_Turn v8)]) ∧ (0 ≤ x4 ∧ x4 < (x5.length : Int)) ∧ ((x5.set x4.toNat v8).length = x5.length ∧ SetOb x5.length 4 x4.toNat 0 4 (gl cs_Turn x5) (gl cs_Turn (x5.set x4.toNat v8)) ∧ ((List.range 4).map fun j => (cs_Turn v8).getD (0 + j) .nilptr) = ((List.range 4).map fun j => gl cs_Turn (x5.set x4.toNat v8) x4.toNat (0 + j)) ∧ ((((.flt .f32 v8.W.bits) : C) = (.flt .f32 v8.W.bits) ∧ True) ∧ (((.flt .f32 v8.X.bits) : C) = (.flt .f32 v8.X.bits) ∧ True) ∧ (((.flt .f32 v8.Y.bits) : C) = (.flt .f32 v8.Y.bits) ∧ True) ∧ (((.flt .f32 v8.Z.bits) : C) = (.flt .f32 v8.Z.bits) ∧ True) ∧ True) ∧ (false = true → ∀ j, j < 4 → isSeq (gl cs_Turn x5 x4.toNat (0 + j)) = false ∧ isSeq (gl cs_Turn (x5.set x4.toNat v8) x4.toNat (0 + j)) = false)) ∧ True) (by kernel_rfl) ⟨trivial, trivial, trivial, trivial, c7, trivial, ⟨⟨⟨rfl, rfl, rfl, rfl, trivial⟩, trivial⟩, ok_laws_toTurn K (a0.getD x4.toNat default) v8 e9⟩, c10, ⟨List.length_set, gl_set, (gl_atp (lt_of_bound c10)).symm, ⟨⟨rfl, trivial⟩, ⟨rfl, trivial⟩, ⟨rfl, trivial⟩, ⟨rfl, trivial⟩, trivial⟩, (fun h => nomatch h)⟩, trivial⟩ ?_
    refine blockQ_normal ?_
    refine thenQ_normal ?_
    refine AW.regionA [] [0, 3, 4] [1] (s' := ⟨[(0, (.v (.one (.c (sl 4 cs_Turn a0))))), (3, (.v (.one (.arr 1)))), (4, (.v (.one (.c (.int .i64 (IntKind.i64.wrap (x4 + (1 : Int))))))))], [(1, (.arr false (x5.set x4.toNat v8).length 4 (gl cs_Turn (x5.set x4.toNat v8))))]⟩) (ob := True ∧ True ∧ True ∧ True) (by kernel_rfl) ⟨trivial, trivial, trivial, trivial⟩ ?_
    exact loopQ_normal (k, (IntKind.i64.wrap (x4 + (1 : Int))), (x5.set x4.toNat v8)) h (Nat.lt_succ_self k) (Sub.keep [0, 3, 4] [1] (by kernel_rfl) (by kernel_rfl))
  · refine AW.cond_f rfl b6 ?_
    refine AW.exit ?_
    refine thenQ_exit ?_
    refine loopQ_exit ?_
    refine blockQ_exit ?_
    refine thenQ_normal ?_
    refine AW.seq ?_
    refine AW.regionA [] [2] [1] (s' := ⟨[(2, (.v (.one (.arr 1))))], [(1, (.arr false x5.length 4 (gl cs_Turn x5)))]⟩) (ob := True ∧ True ∧ True) (by kernel_rfl) ⟨trivial, trivial, trivial⟩ ?_
    refine thenQ_normal ?_
    refine AW.ret ?_
    replace h := some_eq h
    subst h
    exact ⟨.inr rfl, retOK_of [(.one (.arr 1))] (by kernel_rfl) ⟨rfl, trivial⟩ (of_decide_eq_true (by kernel_rfl))⟩

/-! laws.toPose -/
def laws_toPose (K : Nat) (a0 : Pose) : Option (Pose) :=
  (laws_toVector K a0.Root).bind fun v1 => (laws_toTurnS K a0.Turns).bind fun v3 => some (Pose.mk v1 v3)

theorem ok_laws_toPose (K : Nat) (a0 : Pose) (o : (Pose)) (h : laws_toPose K a0 = some o) : CallOK Try.prog 34 [.agg (cs_Pose a0)] [.agg (cs_Pose o)] := by
  refine callOK_of_AW Try.func34 rfl (by kernel_rfl) (Nat.le_of_ble_eq_true (by kernel_rfl)) ?_
  intro w0
  unfold laws_toPose at h
  refine AW.seq ?_
  refine AW.regionA [.box 1, .box 2] [1, 2] [1, 2] (s' := ⟨[(1, (.v (.one (.ptr 1 0)))), (2, (.v (.one (.ptr 2 0))))], [(1, (.box [(.c (.flt .f32 a0.Root.X.bits)), (.c (.flt .f32 a0.Root.Y.bits)), (.c (.flt .f32 a0.Root.Z.bits)), (.c (sl 4 cs_Turn a0.Turns))])), (2, (.box [(.c (.flt .f32 (default : F32).bits)), (.c (.flt .f32 (default : F32).bits)), (.c (.flt .f32 (default : F32).bits)), .nils]))]⟩) (ob := True ∧ True ∧ True) (by kernel_rfl) ⟨trivial, trivial, trivial⟩ ?_
  refine thenQ_normal ?_
  refine AW.seq ?_
  refine AW.regionA [.box 3] [1, 2, 3] [1, 2, 3] (s' := ⟨[(1, (.v (.one (.ptr 1 0)))), (2, (.v (.one (.ptr 2 0)))), (3, (.v (.one (.ptr 3 0))))], [(1, (.box [(.c (.flt .f32 a0.Root.X.bits)), (.c (.flt .f32 a0.Root.Y.bits)), (.c (.flt .f32 a0.Root.Z.bits)), (.c (sl 4 cs_Turn a0.Turns))])), (2, (.box [(.c (.flt .f32 (default : F32).bits)), (.c (.flt .f32 (default : F32).bits)), (.c (.flt .f32 (default : F32).bits)), .nils])), (3, (.box [(.c (.flt .f32 (default : F32).bits)), (.c (.flt .f32 (default : F32).bits)), (.c (.flt .f32 (default : F32).bits)), .nils]))]⟩) (ob := True ∧ True) (by kernel_rfl) ⟨trivial, trivial⟩ ?_
  refine thenQ_normal ?_
  refine AW.seq ?_
  obtain ⟨v1, e2, h⟩ := bind_some h
  refine AW.regionA [.no, .no, .call [.agg (cs_Vector a0.Root)] [.agg (cs_Vector v1)] [[.view, .view, .view]]] [1, 2, 3] [1, 2, 3] (s' := ⟨[(1, (.v (.one (.ptr 1 0)))), (2, (.v (.one (.ptr 2 0)))), (3, (.v (.one (.ptr 3 0))))], [(1, (.box [(.c (.flt .f32 a0.Root.X.bits)), (.c (.flt .f32 a0.Root.Y.bits)), (.c (.flt .f32 a0.Root.Z.bits)), (.c (sl 4 cs_Turn a0.Turns))])), (2, (.box [(.c (.flt .f32 (default : F32).bits)), (.c (.flt .f32 (default : F32).bits)), (.c (.flt .f32 (default : F32).bits)), .nils])), (3, (.box [(.c (.flt .f32 v1.X.bits)), (.c (.flt .f32 v1.Y.bits)), (.c (.flt .f32 v1.Z.bits)), .nils]))]⟩) (ob := True ∧ True ∧ ((((((.flt .f32 a0.Root.X.bits) : C) = (.flt .f32 a0.Root.X.bits)) ∧ (((.flt .f32 a0.Root.Y.bits) : C) = (.flt .f32 a0.Root.Y.bits)) ∧ (((.flt .f32 a0.Root.Z.bits) : C) = (.flt .f32 a0.Root.Z.bits)) ∧ True) ∧ True) ∧ CallOK Try.prog 88 [.agg (cs_Vector a0.Root)] [.agg (cs_Vector v1)]) ∧ True ∧ True ∧ True) (by kernel_rfl) ⟨trivial, trivial, ⟨⟨⟨rfl, rfl, rfl, trivial⟩, trivial⟩, ok_laws_toVector K a0.Root v1 e2⟩, trivial, trivial, trivial⟩ ?_
  refine thenQ_normal ?_
  refine AW.seq ?_
  obtain ⟨v3, e4, h⟩ := bind_some h
  refine AW.regionA [.no, .no, .call [.one (sl 4 cs_Turn a0.Turns)] [.one (sl 4 cs_Turn v3)] [[.lst 4]]] [2, 3] [2, 3, 4] (s' := ⟨[(2, (.v (.one (.ptr 2 0)))), (3, (.v (.one (.ptr 3 0))))], [(2, (.box [(.c (.flt .f32 (default : F32).bits)), (.c (.flt .f32 (default : F32).bits)), (.c (.flt .f32 (default : F32).bits)), .nils])), (3, (.box [(.c (.flt .f32 v1.X.bits)), (.c (.flt .f32 v1.Y.bits)), (.c (.flt .f32 v1.Z.bits)), (.lst 4 v3.length 4 (gl cs_Turn v3))])), (4, (.lst v3.length 4 (gl cs_Turn v3)))]⟩) (ob := True ∧ True ∧ (((((sl 4 cs_Turn a0.Turns) : C) = (sl 4 cs_Turn a0.Turns)) ∧ True) ∧ CallOK Try.prog 89 [.one (sl 4 cs_Turn a0.Turns)] [.one (sl 4 cs_Turn v3)]) ∧ True ∧ True ∧ True) (by kernel_rfl) ⟨trivial, trivial, ⟨⟨rfl, trivial⟩, ok_laws_toTurnS K a0.Turns v3 e4⟩, trivial, trivial, trivial⟩ ?_
  refine thenQ_normal ?_
  refine AW.seq ?_
  refine AW.regionA [] [2] [2, 4] (s' := ⟨[(2, (.v (.one (.ptr 2 0))))], [(2, (.box [(.c (.flt .f32 v1.X.bits)), (.c (.flt .f32 v1.Y.bits)), (.c (.flt .f32 v1.Z.bits)), (.lst 4 v3.length 4 (gl cs_Turn v3))])), (4, (.lst v3.length 4 (gl cs_Turn v3)))]⟩) (ob := True ∧ True ∧ True) (by kernel_rfl) ⟨trivial, trivial, trivial⟩ ?_
  refine thenQ_normal ?_
  refine AW.ret ?_
  replace h := some_eq h
  subst h
  exact ⟨.inr rfl, retOK_of [(.agg [(.c (.flt .f32 v1.X.bits)), (.c (.flt .f32 v1.Y.bits)), (.c (.flt .f32 v1.Z.bits)), (.lst 4 v3.length 4 (gl cs_Turn v3))])] (by kernel_rfl) ⟨⟨⟨rfl, trivial⟩, ⟨rfl, trivial⟩, ⟨rfl, trivial⟩, rfl, trivial⟩, trivial⟩ (of_decide_eq_true (by kernel_rfl))⟩

/-! laws.toPoseS -/
def laws_toPoseS_l1 (K : Nat) (a0 : (List Pose)) : Nat → Int → (List Pose) → Option ((List Pose))
  | 0, _, _ => none
  | k + 1, x4, x5 => ite2 ((decide (x4 < (a0.length : Int)))) (chk (0 ≤ x4 ∧ x4 < (a0.length : Int)) ((laws_toPose K (a0.getD x4.toNat default)).bind fun v8 => chk (0 ≤ x4 ∧ x4 < (x5.length : Int)) (laws_toPoseS_l1 K a0 k (IntKind.i64.wrap (x4 + (1 : Int))) (x5.set x4.toNat v8)))) (some x5)

def laws_toPoseS (K : Nat) (a0 : (List Pose)) : Option ((List Pose)) :=
  chk (0 ≤ (a0.length : Int) ∧ (a0.length : Int).toNat * 40 ≤ 140737488355328) (laws_toPoseS_l1 K a0 K (0 : Int) (List.replicate (a0.length : Int).toNat (default : Pose)))

theorem ok_laws_toPoseS (K : Nat) (a0 : (List Pose)) (o : ((List Pose))) (h : laws_toPoseS K a0 = some o) : CallOK Try.prog 75 [.one (sl 4 cs_Pose a0)] [.one (sl 4 cs_Pose o)] := by
  refine callOK_of_AW Try.func75 rfl (by kernel_rfl) (Nat.le_of_ble_eq_true (by kernel_rfl)) ?_
  intro w0
  unfold laws_toPoseS at h
  refine AW.seq ?_
  refine AW.regionA [] [0] [] (s' := ⟨[(0, (.v (.one (.c (sl 4 cs_Pose a0)))))], []⟩) (ob := True ∧ True) (by kernel_rfl) ⟨trivial, trivial⟩ ?_
  refine thenQ_normal ?_
  refine AW.seq ?_
  obtain ⟨c1, h⟩ := chk_some h
  refine AW.regionA [.no, .no, .objA 1 (List.replicate (a0.length : Int).toNat (default : Pose)).length (gl cs_Pose (List.replicate (a0.length : Int).toNat (default : Pose)))] [0, 3] [1] (s' := ⟨[(0, (.v (.one (.c (sl 4 cs_Pose a0))))), (3, (.v (.one (.arr 1))))], [(1, (.arr false (List.replicate (a0.length : Int).toNat (default : Pose)).length 4 (gl cs_Pose (List.replicate (a0.length : Int).toNat (default : Pose)))))]⟩) (ob := True ∧ True ∧ (0 ≤ (a0.length : Int) ∧ (a0.length : Int) = (a0.length : Int) ∧ (((List.replicate (a0.length : Int).toNat (default : Pose)).length : Nat) : Int) = (a0.length : Int) ∧ (List.replicate (a0.length : Int).toNat (default : Pose)).length * 40 ≤ 140737488355328 ∧ ∀ i, i < (List.replicate (a0.length : Int).toNat (default : Pose)).length → zeroRow (fun _ => none) [(.c (.flt .f32 (default : F32).bits)), (.c (.flt .f32 (default : F32).bits)), (.c (.flt .f32 (default : F32).bits)), .nils] (gl cs_Pose (List.replicate (a0.length : Int).toNat (default : Pose)) i)) ∧ True ∧ True) (by kernel_rfl) ⟨trivial, trivial, ⟨c1.1, rfl, len_rep c1.1, rep_bytes c1.2, fun i hi => gl_zero (cs := cs_Pose) (zs := [(.c (.flt .f32 (default : F32).bits)), (.c (.flt .f32 (default : F32).bits)), (.c (.flt .f32 (default : F32).bits)), .nils]) (n := (a0.length : Int).toNat) ⟨⟨rfl, trivial⟩, ⟨rfl, trivial⟩, ⟨rfl, trivial⟩, rfl, trivial⟩ i (rep_lt hi)⟩, trivial, trivial⟩ ?_
  refine thenQ_normal ?_
  refine AW.seq ?_
  refine AW.seq ?_
  refine AW.regionA [] [0, 3, 4] [1] (s' := ⟨[(0, (.v (.one (.c (sl 4 cs_Pose a0))))), (3, (.v (.one (.arr 1)))), (4, (.v (.one (.c (.int .i64 (0 : Int))))))], [(1, (.arr false (List.replicate (a0.length : Int).toNat (default : Pose)).length 4 (gl cs_Pose (List.replicate (a0.length : Int).toNat (default : Pose)))))]⟩) (ob := True ∧ True) (by kernel_rfl) ⟨trivial, trivial⟩ ?_
  refine thenQ_normal ?_
  refine AW.block ?_
  refine AW.loopQ (σ := Nat × Int × (List Pose)) (fun p => ⟨[(0, (.v (.one (.c (sl 4 cs_Pose a0))))), (3, (.v (.one (.arr 1)))), (4, (.v (.one (.c (.int .i64 p.2.1)))))], [(1, (.arr false p.2.2.length 4 (gl cs_Pose p.2.2)))]⟩) (fun p => laws_toPoseS_l1 K a0 p.1 p.2.1 p.2.2 = some o) (fun p => p.1) (K, (0 : Int), (List.replicate (a0.length : Int).toNat (default : Pose))) h ?_
  clear h
  rintro ⟨k, x4, x5⟩ h
  replace h : laws_toPoseS_l1 K a0 k x4 x5 = some o := h
  show AW _ _ (⟨[(0, (.v (.one (.c (sl 4 cs_Pose a0))))), (3, (.v (.one (.arr 1)))), (4, (.v (.one (.c (.int .i64 x4)))))], [(1, (.arr false x5.length 4 (gl cs_Pose x5)))]⟩ : St) _
  obtain _ | k := k
  · rw [laws_toPoseS_l1] at h; cases h
  rw [laws_toPoseS_l1] at h
  refine AW.seq ?_
  refine AW.seq ?_
  refine AW.regionA [] [0, 3, 4, 11] [1] (s' := ⟨[(0, (.v (.one (.c (sl 4 cs_Pose a0))))), (3, (.v (.one (.arr 1)))), (4, (.v (.one (.c (.int .i64 x4))))), (11, (.v (.one (.c (.bool (decide (x4 < (a0.length : Int))))))))], [(1, (.arr false x5.length 4 (gl cs_Pose x5)))]⟩) (ob := True ∧ True ∧ True ∧ True ∧ True) (by kernel_rfl) ⟨trivial, trivial, trivial, trivial, trivial⟩ ?_
  refine thenQ_normal ?_
  rcases ite2_cases h with ⟨b6, h⟩ | ⟨b6, h⟩
  · refine AW.cond_t rfl b6 ?_
    refine AW.skip ?_
    refine thenQ_normal ?_
    refine AW.seq ?_
    refine AW.block ?_
    obtain ⟨c7, h⟩ := chk_some h
    obtain ⟨v8, e9, h⟩ := bind_some h
    obtain ⟨c10, h⟩ := chk_some h
    refine AW.regionA [.no, .no, .no, .no, .no, .no, .call [.agg (cs_Pose (a0.getD x4.toNat default))] [.agg (cs_Pose v8)] [[.view, .view, .view, .lst 4]], .no, .set (x5.set x4.toNat v8).length (gl cs_Pose (x5.set x4.toNat v8)) ((List.range 4).map fun j => (cs_Pose v8).getD (0 + j) .nilptr)] [0, 3, 4] [1] (s' := ⟨[(0, (.v (.one (.c (sl 4 cs_Pose a0))))), (3, (.v (.one (.arr 1)))), (4, (.v (.one (.c (.int .i64 x4)))))], [(1, (.arr false (x5.set x4.toNat v8).length 4 (gl cs_Pose (x5.set x4.toNat v8))))]⟩) (ob := True ∧ True ∧ True ∧ True ∧ (0 ≤ x4 ∧ x4 < (a0.length : Int)) ∧ True ∧ ((((((.flt .f32 (((a0.getD x4.toNat default).Root).X).bits) : C) = (.flt .f32 (((a0.getD x4.toNat default).Root).X).bits)) ∧ (((.flt .f32 (((a0.getD x4.toNat default).Root).Y).bits) : C) = (.flt .f32 (((a0.getD x4.toNat default).Root).Y).bits)) ∧ (((.flt .f32 (((a0.getD x4.toNat default).Root).Z).bits) : C) = (.flt .f32 (((a0.getD x4.toNat default).Root).Z).bits)) ∧ (((sl 4 cs_Turn ((a0.getD x4.toNat default).Turns)) : C) = (sl 4 cs_Turn ((a0.getD x4.toNat default).Turns))) ∧ True) ∧ True) ∧ CallOK Try.prog 34 [.agg (cs_Pose (a0.getD x4.toNat default))] [.agg (cs_Pose v8)]) ∧ (0 ≤ x4 ∧ x4 < (x5.length : Int)) ∧ ((x5.set x4.toNat v8).length = x5.length ∧ SetOb x5.length 4 x4.toNat 0 4 (gl cs_Pose x5) (gl cs_Pose (x5.set x4.toNat v8)) ∧ ((List.range 4).map fun j => (cs_Pose v8).getD (0 + j) .nilptr) = ((List.range 4).map fun j => gl cs_Pose (x5.set x4.toNat v8) x4.toNat (0 + j)) ∧ ((((.flt .f32 v8.Root.X.bits) : C) = (.flt .f32 v8.Root.X.bits) ∧ True) ∧ (((.flt .f32 v8.Root.Y.bits) : C) = (.flt .f32 v8.Root.Y.bits) ∧ True) ∧ (((.flt .f32 v8.Root.Z.bits) : C) = (.flt .f32 v8.Root.Z.bits) ∧ True) ∧ (((sl 4 cs_Turn v8.Turns) : C) = (sl 4 cs_Turn v8.Turns)) ∧ True) ∧ (false = true → ∀ j, j < 4 → isSeq (gl cs_Pose x5 x4.toNat (0 + j)) = false ∧ isSeq (gl cs_Pose (x5.set x4.toNat v8) x4.toNat (0 + j)) = false)) ∧ True) (by kernel_rfl) ⟨trivial, trivial, trivial, trivial, c7, trivial, ⟨⟨⟨rfl, rfl, rfl, rfl, trivial⟩, trivial⟩, ok_laws_toPose K (a0.getD x4.toNat default) v8 e9⟩, c10, ⟨List.length_set, gl_set, (gl_atp (lt_of_bound c10)).symm, ⟨⟨rfl, trivial⟩, ⟨rfl, trivial⟩, ⟨rfl, trivial⟩, rfl, trivial⟩, (fun h => nomatch h)⟩, trivial⟩ ?_
    refine blockQ_normal ?_
    refine thenQ_normal ?_
    refine AW.regionA [] [0, 3, 4] [1] (s' := ⟨[(0, (.v (.one (.c (sl 4 cs_Pose a0))))), (3, (.v (.one (.arr 1)))), (4, (.v (.one (.c (.int .i64 (IntKind.i64.wrap (x4 + (1 : Int))))))))], [(1, (.arr false (x5.set x4.toNat v8).length 4 (gl cs_Pose (x5.set x4.toNat v8))))]⟩) (ob := True ∧ True ∧ True ∧ True) (by kernel_rfl) ⟨trivial, trivial, trivial, trivial⟩ ?_
    exact loopQ_normal (k, (IntKind.i64.wrap (x4 + (1 : Int))), (x5.set x4.toNat v8)) h (Nat.lt_succ_self k) (Sub.keep [0, 3, 4] [1] (by kernel_rfl) (by kernel_rfl))
  · refine AW.cond_f rfl b6 ?_
    refine AW.exit ?_
    refine thenQ_exit ?_
    refine loopQ_exit ?_
    refine blockQ_exit ?_
    refine thenQ_normal ?_
    refine AW.seq ?_
    refine AW.regionA [] [2] [1] (s' := ⟨[(2, (.v (.one (.arr 1))))], [(1, (.arr false x5.length 4 (gl cs_Pose x5)))]⟩) (ob := True ∧ True ∧ True) (by kernel_rfl) ⟨trivial, trivial, trivial⟩ ?_
    refine thenQ_normal ?_
    refine AW.ret ?_
    replace h := some_eq h
    subst h
    exact ⟨.inr rfl, retOK_of [(.one (.arr 1))] (by kernel_rfl) ⟨rfl, trivial⟩ (of_decide_eq_true (by kernel_rfl))⟩

/-! laws.toRecording -/
def laws_toRecording (K : Nat) (a0 : Recording) : Option (Recording) :=
  (laws_toPoseS K a0.Frames).bind fun v1 => some (Recording.mk a0.Bones v1)

theorem ok_laws_toRecording (K : Nat) (a0 : Recording) (o : (Recording)) (h : laws_toRecording K a0 = some o) : CallOK Try.prog 23 [.agg (cs_Recording a0)] [.agg (cs_Recording o)] := by
  refine callOK_of_AW Try.func23 rfl (by kernel_rfl) (Nat.le_of_ble_eq_true (by kernel_rfl)) ?_
  intro w0
  unfold laws_toRecording at h
  refine AW.seq ?_
  refine AW.regionA [.box 1, .box 2] [1, 2] [1, 2] (s' := ⟨[(1, (.v (.one (.ptr 1 0)))), (2, (.v (.one (.ptr 2 0))))], [(1, (.box [(.c (.int .i64 a0.Bones)), (.c (sl 4 cs_Pose a0.Frames))])), (2, (.box [(.c (.int .i64 (0 : Int))), .nils]))]⟩) (ob := True ∧ True ∧ True) (by kernel_rfl) ⟨trivial, trivial, trivial⟩ ?_
  refine thenQ_normal ?_
  refine AW.seq ?_
  refine AW.regionA [.box 3] [1, 2, 3] [1, 2, 3] (s' := ⟨[(1, (.v (.one (.ptr 1 0)))), (2, (.v (.one (.ptr 2 0)))), (3, (.v (.one (.ptr 3 0))))], [(1, (.box [(.c (.int .i64 a0.Bones)), (.c (sl 4 cs_Pose a0.Frames))])), (2, (.box [(.c (.int .i64 (0 : Int))), .nils])), (3, (.box [(.c (.int .i64 (0 : Int))), .nils]))]⟩) (ob := True ∧ True) (by kernel_rfl) ⟨trivial, trivial⟩ ?_
  refine thenQ_normal ?_
  refine AW.seq ?_
  refine AW.regionA [] [1, 2, 3] [1, 2, 3] (s' := ⟨[(1, (.v (.one (.ptr 1 0)))), (2, (.v (.one (.ptr 2 0)))), (3, (.v (.one (.ptr 3 0))))], [(1, (.box [(.c (.int .i64 a0.Bones)), (.c (sl 4 cs_Pose a0.Frames))])), (2, (.box [(.c (.int .i64 (0 : Int))), .nils])), (3, (.box [(.c (.int .i64 a0.Bones)), .nils]))]⟩) (ob := True ∧ True ∧ True ∧ True ∧ True) (by kernel_rfl) ⟨trivial, trivial, trivial, trivial, trivial⟩ ?_
  refine thenQ_normal ?_
  refine AW.seq ?_
  obtain ⟨v1, e2, h⟩ := bind_some h
  refine AW.regionA [.no, .no, .call [.one (sl 4 cs_Pose a0.Frames)] [.one (sl 4 cs_Pose v1)] [[.lst 4]]] [2, 3] [2, 3, 4] (s' := ⟨[(2, (.v (.one (.ptr 2 0)))), (3, (.v (.one (.ptr 3 0))))], [(2, (.box [(.c (.int .i64 (0 : Int))), .nils])), (3, (.box [(.c (.int .i64 a0.Bones)), (.lst 4 v1.length 4 (gl cs_Pose v1))])), (4, (.lst v1.length 4 (gl cs_Pose v1)))]⟩) (ob := True ∧ True ∧ (((((sl 4 cs_Pose a0.Frames) : C) = (sl 4 cs_Pose a0.Frames)) ∧ True) ∧ CallOK Try.prog 75 [.one (sl 4 cs_Pose a0.Frames)] [.one (sl 4 cs_Pose v1)]) ∧ True ∧ True ∧ True) (by kernel_rfl) ⟨trivial, trivial, ⟨⟨rfl, trivial⟩, ok_laws_toPoseS K a0.Frames v1 e2⟩, trivial, trivial, trivial⟩ ?_
  refine thenQ_normal ?_
  refine AW.seq ?_
  refine AW.regionA [] [2] [2, 4] (s' := ⟨[(2, (.v (.one (.ptr 2 0))))], [(2, (.box [(.c (.int .i64 a0.Bones)), (.lst 4 v1.length 4 (gl cs_Pose v1))])), (4, (.lst v1.length 4 (gl cs_Pose v1)))]⟩) (ob := True ∧ True ∧ True) (by kernel_rfl) ⟨trivial, trivial, trivial⟩ ?_
  refine thenQ_normal ?_
  refine AW.ret ?_
  replace h := some_eq h
  subst h
  exact ⟨.inr rfl, retOK_of [(.agg [(.c (.int .i64 a0.Bones)), (.lst 4 v1.length 4 (gl cs_Pose v1))])] (by kernel_rfl) ⟨⟨⟨rfl, trivial⟩, rfl, trivial⟩, trivial⟩ (of_decide_eq_true (by kernel_rfl))⟩

/-! spec.l00In -/
def spec_l00In (_K : Nat) (a0 : Int) (a1 : Int) (a2 : Int) : Option (Bool) :=
  (ite2 ((decide (a0 ≥ a1))) (some (decide (a0 ≤ a2))) (some false)).bind fun j2 => some j2

theorem ok_spec_l00In (K : Nat) (a0 : Int) (a1 : Int) (a2 : Int) (o : (Bool)) (h : spec_l00In K a0 a1 a2 = some o) : CallOK Try.prog 64 [.one (.int .i64 a0), .one (.int .i64 a1), .one (.int .i64 a2)] [.one (.bool o)] := by
  refine callOK_of_AW Try.func64 rfl (by kernel_rfl) (Nat.le_of_ble_eq_true (by kernel_rfl)) ?_
  intro w0
  unfold spec_l00In at h
  refine AW.seq ?_
  refine AW.regionA [] [0, 1, 2] [] (s' := ⟨[(0, (.v (.one (.c (.int .i64 a0))))), (1, (.v (.one (.c (.int .i64 a1))))), (2, (.v (.one (.c (.int .i64 a2)))))], []⟩) (ob := True ∧ True) (by kernel_rfl) ⟨trivial, trivial⟩ ?_
  refine thenQ_normal ?_
  refine AW.seq ?_
  obtain ⟨j2, e3, h⟩ := bind_some h
  refine AW.join1 (s2 := ⟨[(6, (.v (.one (.c (.bool j2)))))], []⟩) ?_ ?_
  · rcases ite2_cases e3 with ⟨b1, e3⟩ | ⟨b1, e3⟩
    · replace e3 := some_eq e3
      subst e3
      exact AW.regionA [.no, .no, .no, .dec true] [6] [] (s' := ⟨[(6, (.v (.one (.c (.bool (decide (a0 ≤ a2)))))))], []⟩) (ob := True ∧ True ∧ True ∧ (True ∧ (decide (a0 ≥ a1)) = true) ∧ True ∧ True ∧ True ∧ True ∧ True ∧ True) (by kernel_rfl) ⟨trivial, trivial, trivial, ⟨trivial, b1⟩, trivial, trivial, trivial, trivial, trivial, trivial⟩ ⟨rfl, rfl⟩
    · replace e3 := some_eq e3
      subst e3
      exact AW.regionA [.no, .no, .no, .dec false] [6] [] (s' := ⟨[(6, (.v (.one (.c (.bool false)))))], []⟩) (ob := True ∧ True ∧ True ∧ (True ∧ (decide (a0 ≥ a1)) = false) ∧ True ∧ True ∧ True ∧ True ∧ True ∧ True) (by kernel_rfl) ⟨trivial, trivial, trivial, ⟨trivial, b1⟩, trivial, trivial, trivial, trivial, trivial, trivial⟩ ⟨rfl, rfl⟩
  refine thenQ_normal ?_
  refine AW.ret ?_
  replace h := some_eq h
  subst h
  exact ⟨.inr rfl, retOK_of [(.one (.c (.bool j2)))] (by kernel_rfl) ⟨⟨rfl, trivial⟩, trivial⟩ (of_decide_eq_true (by kernel_rfl))⟩

/-! spec.l06Count -/
def spec_l06Count (K : Nat) (a0 : Int) : Option (Bool) :=
  (spec_l00In K a0 (1 : Int) (12 : Int)).bind fun v1 => some v1

theorem ok_spec_l06Count (K : Nat) (a0 : Int) (o : (Bool)) (h : spec_l06Count K a0 = some o) : CallOK Try.prog 122 [.one (.int .i64 a0)] [.one (.bool o)] := by
  refine callOK_of_AW Try.func122 rfl (by kernel_rfl) (Nat.le_of_ble_eq_true (by kernel_rfl)) ?_
  intro w0
  unfold spec_l06Count at h
  refine AW.seq ?_
  refine AW.regionA [] [0] [] (s' := ⟨[(0, (.v (.one (.c (.int .i64 a0)))))], []⟩) (ob := True ∧ True) (by kernel_rfl) ⟨trivial, trivial⟩ ?_
  refine thenQ_normal ?_
  refine AW.seq ?_
  obtain ⟨v1, e2, h⟩ := bind_some h
  refine AW.regionA [.no, .call [.one (.int .i64 a0), .one (.int .i64 (1 : Int)), .one (.int .i64 (12 : Int))] [.one (.bool v1)] [[.view]]] [2] [] (s' := ⟨[(2, (.v (.one (.c (.bool v1)))))], []⟩) (ob := True ∧ (((((.int .i64 a0) : C) = (.int .i64 a0)) ∧ (((.int .i64 (1 : Int)) : C) = (.int .i64 (1 : Int))) ∧ (((.int .i64 (12 : Int)) : C) = (.int .i64 (12 : Int))) ∧ True) ∧ CallOK Try.prog 64 [.one (.int .i64 a0), .one (.int .i64 (1 : Int)), .one (.int .i64 (12 : Int))] [.one (.bool v1)]) ∧ True ∧ True) (by kernel_rfl) ⟨trivial, ⟨⟨rfl, rfl, rfl, trivial⟩, ok_spec_l00In K a0 (1 : Int) (12 : Int) v1 e2⟩, trivial, trivial⟩ ?_
  refine thenQ_normal ?_
  refine AW.ret ?_
  replace h := some_eq h
  subst h
  exact ⟨.inr rfl, retOK_of [(.one (.c (.bool v1)))] (by kernel_rfl) ⟨⟨rfl, trivial⟩, trivial⟩ (of_decide_eq_true (by kernel_rfl))⟩

/-! spec.l10Is -/
def spec_l10Is_l1 (K : Nat) (a0 : Recording) : Nat → Int → Option (Bool)
  | 0, _ => none
  | k + 1, x8 => ite2 ((decide (x8 < (a0.Frames.length : Int)))) (chk (0 ≤ x8 ∧ x8 < (a0.Frames.length : Int)) (ite2 (((((a0.Frames.getD x8.toNat default).Turns).length : Int) != a0.Bones)) (some false) (spec_l10Is_l1 K a0 k (IntKind.i64.wrap (x8 + (1 : Int)))))) (some true)

def spec_l10Is (K : Nat) (a0 : Recording) : Option (Bool) :=
  (spec_l06Count K a0.Bones).bind fun v1 => (ite2 ((!v1)) (some true) (some (decide ((a0.Frames.length : Int) > (64 : Int))))).bind fun j4 => ite2 (j4) (some false) (spec_l10Is_l1 K a0 K (0 : Int))

theorem ok_spec_l10Is (K : Nat) (a0 : Recording) (o : (Bool)) (h : spec_l10Is K a0 = some o) : CallOK Try.prog 73 [.one (pl 2 cs_Recording a0)] [.one (.bool o)] := by
  refine callOK_of_AW Try.func73 rfl (by kernel_rfl) (Nat.le_of_ble_eq_true (by kernel_rfl)) ?_
  intro w0
  unfold spec_l10Is at h
  refine AW.seq ?_
  refine AW.regionA [] [0] [] (s' := ⟨[(0, (.v (.one (.c (pl 2 cs_Recording a0)))))], []⟩) (ob := True ∧ True) (by kernel_rfl) ⟨trivial, trivial⟩ ?_
  refine thenQ_normal ?_
  refine AW.seq ?_
  refine AW.seq ?_
  obtain ⟨v1, e2, h⟩ := bind_some h
  obtain ⟨j4, e5, h⟩ := bind_some h
  refine AW.join1 (s2 := ⟨[(0, (.v (.one (.c (pl 2 cs_Recording a0))))), (17, (.v (.one (.c (.bool j4)))))], []⟩) ?_ ?_
  · rcases ite2_cases e5 with ⟨b3, e5⟩ | ⟨b3, e5⟩
    · replace e5 := some_eq e5
      subst e5
      exact AW.regionA [.no, .no, .no, .no, .call [.one (.int .i64 a0.Bones)] [.one (.bool v1)] [[.view]], .no, .dec true] [0, 17] [] (s' := ⟨[(0, (.v (.one (.c (pl 2 cs_Recording a0))))), (17, (.v (.one (.c (.bool true)))))], []⟩) (ob := True ∧ True ∧ True ∧ True ∧ (((((.int .i64 a0.Bones) : C) = (.int .i64 a0.Bones)) ∧ True) ∧ CallOK Try.prog 122 [.one (.int .i64 a0.Bones)] [.one (.bool v1)]) ∧ True ∧ (True ∧ (!v1) = true) ∧ True ∧ True ∧ True ∧ True ∧ True ∧ True ∧ True ∧ True) (by kernel_rfl) ⟨trivial, trivial, trivial, trivial, ⟨⟨rfl, trivial⟩, ok_spec_l06Count K a0.Bones v1 e2⟩, trivial, ⟨trivial, b3⟩, trivial, trivial, trivial, trivial, trivial, trivial, trivial, trivial⟩ ⟨rfl, rfl⟩
    · replace e5 := some_eq e5
      subst e5
      exact AW.regionA [.no, .no, .no, .no, .call [.one (.int .i64 a0.Bones)] [.one (.bool v1)] [[.view]], .no, .dec false] [0, 17] [] (s' := ⟨[(0, (.v (.one (.c (pl 2 cs_Recording a0))))), (17, (.v (.one (.c (.bool (decide ((a0.Frames.length : Int) > (64 : Int))))))))], []⟩) (ob := True ∧ True ∧ True ∧ True ∧ (((((.int .i64 a0.Bones) : C) = (.int .i64 a0.Bones)) ∧ True) ∧ CallOK Try.prog 122 [.one (.int .i64 a0.Bones)] [.one (.bool v1)]) ∧ True ∧ (True ∧ (!v1) = false) ∧ True ∧ True ∧ True ∧ True ∧ True ∧ True ∧ True ∧ True) (by kernel_rfl) ⟨trivial, trivial, trivial, trivial, ⟨⟨rfl, trivial⟩, ok_spec_l06Count K a0.Bones v1 e2⟩, trivial, ⟨trivial, b3⟩, trivial, trivial, trivial, trivial, trivial, trivial, trivial, trivial⟩ ⟨rfl, rfl⟩
  refine thenQ_normal ?_
  rcases ite2_cases h with ⟨b6, h⟩ | ⟨b6, h⟩
  · refine AW.cond_t rfl b6 ?_
    refine AW.seq ?_
    refine AW.regionA [] [2] [] (s' := ⟨[(2, (.v (.one (.c (.bool false)))))], []⟩) (ob := True ∧ True) (by kernel_rfl) ⟨trivial, trivial⟩ ?_
    refine thenQ_normal ?_
    refine AW.ret ?_
    refine thenQ_ret ?_
    replace h := some_eq h
    subst h
    exact ⟨.inr rfl, retOK_of [(.one (.c (.bool false)))] (by kernel_rfl) ⟨⟨rfl, trivial⟩, trivial⟩ (of_decide_eq_true (by kernel_rfl))⟩
  · refine AW.cond_f rfl b6 ?_
    refine AW.skip ?_
    refine thenQ_normal ?_
    refine AW.seq ?_
    refine AW.seq ?_
    refine AW.regionA [] [0, 3] [] (s' := ⟨[(0, (.v (.one (.c (pl 2 cs_Recording a0))))), (3, (.v (.one (.c (.int .i64 (0 : Int))))))], []⟩) (ob := True ∧ True) (by kernel_rfl) ⟨trivial, trivial⟩ ?_
    refine thenQ_normal ?_
    refine AW.block ?_
    refine AW.loopQ (σ := Nat × Int) (fun p => ⟨[(0, (.v (.one (.c (pl 2 cs_Recording a0))))), (3, (.v (.one (.c (.int .i64 p.2)))))], []⟩) (fun p => spec_l10Is_l1 K a0 p.1 p.2 = some o) (fun p => p.1) (K, (0 : Int)) h ?_
    clear h
    rintro ⟨k, x8⟩ h
    replace h : spec_l10Is_l1 K a0 k x8 = some o := h
    show AW _ _ (⟨[(0, (.v (.one (.c (pl 2 cs_Recording a0))))), (3, (.v (.one (.c (.int .i64 x8)))))], []⟩ : St) _
    obtain _ | k := k
    · rw [spec_l10Is_l1] at h; cases h
    rw [spec_l10Is_l1] at h
    refine AW.seq ?_
    refine AW.seq ?_
    refine AW.regionA [] [0, 3, 24] [] (s' := ⟨[(0, (.v (.one (.c (pl 2 cs_Recording a0))))), (3, (.v (.one (.c (.int .i64 x8))))), (24, (.v (.one (.c (.bool (decide (x8 < (a0.Frames.length : Int))))))))], []⟩) (ob := True ∧ True ∧ True ∧ True ∧ True ∧ True ∧ True ∧ True) (by kernel_rfl) ⟨trivial, trivial, trivial, trivial, trivial, trivial, trivial, trivial⟩ ?_
    refine thenQ_normal ?_
    rcases ite2_cases h with ⟨b9, h⟩ | ⟨b9, h⟩
    · refine AW.cond_t rfl b9 ?_
      refine AW.skip ?_
      refine thenQ_normal ?_
      refine AW.seq ?_
      refine AW.block ?_
      refine AW.seq ?_
      obtain ⟨c10, h⟩ := chk_some h
      refine AW.drawnA (by kernel_rfl) 14 [] [0, 3, 40] [] (s' := ⟨[(0, (.v (.one (.c (pl 2 cs_Recording a0))))), (3, (.v (.one (.c (.int .i64 x8))))), (40, (.v (.one (.c (.bool ((((a0.Frames.getD x8.toNat default).Turns).length : Int) != a0.Bones))))))], []⟩) (ob := (True ∧ True ∧ True ∧ True ∧ True ∧ (0 ≤ x8 ∧ x8 < (a0.Frames.length : Int)) ∧ True ∧ True ∧ True ∧ True ∧ True ∧ True ∧ True ∧ True ∧ True) ∧ (True)) (by kernel_rfl) ⟨⟨trivial, trivial, trivial, trivial, trivial, c10, trivial, trivial, trivial, trivial, trivial, trivial, trivial, trivial, trivial⟩, trivial⟩ ?_
      refine thenQ_normal ?_
      rcases ite2_cases h with ⟨b11, h⟩ | ⟨b11, h⟩
      · refine AW.cond_t rfl b11 ?_
        refine AW.seq ?_
        refine AW.regionA [] [2] [] (s' := ⟨[(2, (.v (.one (.c (.bool false)))))], []⟩) (ob := True ∧ True) (by kernel_rfl) ⟨trivial, trivial⟩ ?_
        refine thenQ_normal ?_
        refine AW.ret ?_
        refine blockQ_ret ?_
        refine thenQ_ret ?_
        refine loopQ_ret ?_
        refine blockQ_ret ?_
        refine thenQ_ret ?_
        replace h := some_eq h
        subst h
        exact ⟨.inr rfl, retOK_of [(.one (.c (.bool false)))] (by kernel_rfl) ⟨⟨rfl, trivial⟩, trivial⟩ (of_decide_eq_true (by kernel_rfl))⟩
      · refine AW.cond_f rfl b11 ?_
        refine AW.skip ?_
        refine blockQ_normal ?_
        refine thenQ_normal ?_
        refine AW.regionA [] [0, 3] [] (s' := ⟨[(0, (.v (.one (.c (pl 2 cs_Recording a0))))), (3, (.v (.one (.c (.int .i64 (IntKind.i64.wrap (x8 + (1 : Int))))))))], []⟩) (ob := True ∧ True ∧ True ∧ True) (by kernel_rfl) ⟨trivial, trivial, trivial, trivial⟩ ?_
        exact loopQ_normal (k, (IntKind.i64.wrap (x8 + (1 : Int)))) h (Nat.lt_succ_self k) (Sub.keep [0, 3] [] (by kernel_rfl) (by kernel_rfl))
    · refine AW.cond_f rfl b9 ?_
      refine AW.exit ?_
      refine thenQ_exit ?_
      refine loopQ_exit ?_
      refine blockQ_exit ?_
      refine thenQ_normal ?_
      refine AW.seq ?_
      refine AW.regionA [] [2] [] (s' := ⟨[(2, (.v (.one (.c (.bool true)))))], []⟩) (ob := True ∧ True) (by kernel_rfl) ⟨trivial, trivial⟩ ?_
      refine thenQ_normal ?_
      refine AW.ret ?_
      replace h := some_eq h
      subst h
      exact ⟨.inr rfl, retOK_of [(.one (.c (.bool true)))] (by kernel_rfl) ⟨⟨rfl, trivial⟩, trivial⟩ (of_decide_eq_true (by kernel_rfl))⟩

/-! spec.l10Word -/
def spec_l10Word_l1 (K : Nat) (a0 : Int) (a1 : Int) : Nat → Int → (List Int) → Option (ByteArray)
  | 0, _, _ => none
  | k + 1, x3, x4 => ite2 ((decide (x3 < a1))) (chk (0 ≤ (IntKind.u64.wrap (IntKind.i64.wrap ((8 : Int) * x3)))) (chk ((x4.length + ([(IntKind.u8.wrap (bits .and .i64 (a0.fdiv (2 ^ (min (IntKind.u64.wrap (IntKind.i64.wrap ((8 : Int) * x3))).toNat (IntKind.bits .i64)))) (255 : Int)))]).length) * 1 ≤ 140737488355328) (spec_l10Word_l1 K a0 a1 k (IntKind.i64.wrap (x3 + (1 : Int))) (x4 ++ ([(IntKind.u8.wrap (bits .and .i64 (a0.fdiv (2 ^ (min (IntKind.u64.wrap (IntKind.i64.wrap ((8 : Int) * x3))).toNat (IntKind.bits .i64)))) (255 : Int)))]))))) (chk (∀ x ∈ x4, 0 ≤ x ∧ x < 256) (some (strOf x4)))

def spec_l10Word (K : Nat) (a0 : Int) (a1 : Int) : Option (ByteArray) :=
  spec_l10Word_l1 K a0 a1 K (0 : Int) ([] : List Int)

theorem ok_spec_l10Word (K : Nat) (a0 : Int) (a1 : Int) (o : (ByteArray)) (h : spec_l10Word K a0 a1 = some o) : CallOK Try.prog 153 [.one (.int .i64 a0), .one (.int .i64 a1)] [.one (.str o)] := by
  refine callOK_of_AW Try.func153 rfl (by kernel_rfl) (Nat.le_of_ble_eq_true (by kernel_rfl)) ?_
  intro w0
  unfold spec_l10Word at h
  refine AW.seq ?_
  refine AW.regionA [] [0, 1] [] (s' := ⟨[(0, (.v (.one (.c (.int .i64 a0))))), (1, (.v (.one (.c (.int .i64 a1)))))], []⟩) (ob := True ∧ True) (by kernel_rfl) ⟨trivial, trivial⟩ ?_
  refine thenQ_normal ?_
  refine AW.seq ?_
  refine AW.regionA [.obj 1 ([] : List Int).length (gl (csI .u8) ([] : List Int))] [0, 1, 5] [1] (s' := ⟨[(0, (.v (.one (.c (.int .i64 a0))))), (1, (.v (.one (.c (.int .i64 a1))))), (5, (.v (.one (.lst 1 ([] : List Int).length 1 (gl (csI .u8) ([] : List Int))))))], [(1, (.lst ([] : List Int).length 1 (gl (csI .u8) ([] : List Int))))]⟩) (ob := (([] : List Int).length = 0 ∧ True) ∧ True ∧ True) (by kernel_rfl) ⟨⟨rfl, trivial⟩, trivial, trivial⟩ ?_
  refine thenQ_normal ?_
  refine AW.seq ?_
  refine AW.seq ?_
  refine AW.regionA [] [0, 1, 5, 6] [1] (s' := ⟨[(0, (.v (.one (.c (.int .i64 a0))))), (1, (.v (.one (.c (.int .i64 a1))))), (5, (.v (.one (.lst 1 ([] : List Int).length 1 (gl (csI .u8) ([] : List Int)))))), (6, (.v (.one (.c (.int .i64 (0 : Int))))))], [(1, (.lst ([] : List Int).length 1 (gl (csI .u8) ([] : List Int))))]⟩) (ob := True ∧ True) (by kernel_rfl) ⟨trivial, trivial⟩ ?_
  refine thenQ_normal ?_
  refine AW.block ?_
  refine AW.loopQ (σ := Nat × Int × (List Int)) (fun p => ⟨[(0, (.v (.one (.c (.int .i64 a0))))), (1, (.v (.one (.c (.int .i64 a1))))), (5, (.v (.one (.lst 1 p.2.2.length 1 (gl (csI .u8) p.2.2))))), (6, (.v (.one (.c (.int .i64 p.2.1)))))], [(1, (.lst p.2.2.length 1 (gl (csI .u8) p.2.2)))]⟩) (fun p => spec_l10Word_l1 K a0 a1 p.1 p.2.1 p.2.2 = some o) (fun p => p.1) (K, (0 : Int), ([] : List Int)) h ?_
  clear h
  rintro ⟨k, x3, x4⟩ h
  replace h : spec_l10Word_l1 K a0 a1 k x3 x4 = some o := h
  show AW _ _ (⟨[(0, (.v (.one (.c (.int .i64 a0))))), (1, (.v (.one (.c (.int .i64 a1))))), (5, (.v (.one (.lst 1 x4.length 1 (gl (csI .u8) x4))))), (6, (.v (.one (.c (.int .i64 x3)))))], [(1, (.lst x4.length 1 (gl (csI .u8) x4)))]⟩ : St) _
  obtain _ | k := k
  · rw [spec_l10Word_l1] at h; cases h
  rw [spec_l10Word_l1] at h
  refine AW.seq ?_
  refine AW.seq ?_
  refine AW.regionA [] [0, 1, 5, 6, 10] [1] (s' := ⟨[(0, (.v (.one (.c (.int .i64 a0))))), (1, (.v (.one (.c (.int .i64 a1))))), (5, (.v (.one (.lst 1 x4.length 1 (gl (csI .u8) x4))))), (6, (.v (.one (.c (.int .i64 x3))))), (10, (.v (.one (.c (.bool (decide (x3 < a1)))))))], [(1, (.lst x4.length 1 (gl (csI .u8) x4)))]⟩) (ob := True ∧ True ∧ True ∧ True) (by kernel_rfl) ⟨trivial, trivial, trivial, trivial⟩ ?_
  refine thenQ_normal ?_
  rcases ite2_cases h with ⟨b5, h⟩ | ⟨b5, h⟩
  · refine AW.cond_t rfl b5 ?_
    refine AW.skip ?_
    refine thenQ_normal ?_
    refine AW.seq ?_
    refine AW.block ?_
    obtain ⟨c6, h⟩ := chk_some h
    obtain ⟨c7, h⟩ := chk_some h
    refine AW.regionA [.no, .no, .no, .no, .no, .no, .no, .no, .obj 6 ([(IntKind.u8.wrap (bits .and .i64 (a0.fdiv (2 ^ (min (IntKind.u64.wrap (IntKind.i64.wrap ((8 : Int) * x3))).toNat (IntKind.bits .i64)))) (255 : Int)))]).length (gl (csI .u8) ([(IntKind.u8.wrap (bits .and .i64 (a0.fdiv (2 ^ (min (IntKind.u64.wrap (IntKind.i64.wrap ((8 : Int) * x3))).toNat (IntKind.bits .i64)))) (255 : Int)))])), .obj 7 (x4 ++ ([(IntKind.u8.wrap (bits .and .i64 (a0.fdiv (2 ^ (min (IntKind.u64.wrap (IntKind.i64.wrap ((8 : Int) * x3))).toNat (IntKind.bits .i64)))) (255 : Int)))])).length (gl (csI .u8) (x4 ++ ([(IntKind.u8.wrap (bits .and .i64 (a0.fdiv (2 ^ (min (IntKind.u64.wrap (IntKind.i64.wrap ((8 : Int) * x3))).toNat (IntKind.bits .i64)))) (255 : Int)))])))] [0, 1, 5, 6] [7] (s' := ⟨[(0, (.v (.one (.c (.int .i64 a0))))), (1, (.v (.one (.c (.int .i64 a1))))), (5, (.v (.one (.lst 7 (x4 ++ ([(IntKind.u8.wrap (bits .and .i64 (a0.fdiv (2 ^ (min (IntKind.u64.wrap (IntKind.i64.wrap ((8 : Int) * x3))).toNat (IntKind.bits .i64)))) (255 : Int)))])).length 1 (gl (csI .u8) (x4 ++ ([(IntKind.u8.wrap (bits .and .i64 (a0.fdiv (2 ^ (min (IntKind.u64.wrap (IntKind.i64.wrap ((8 : Int) * x3))).toNat (IntKind.bits .i64)))) (255 : Int)))]))))))), (6, (.v (.one (.c (.int .i64 x3)))))], [(7, (.lst (x4 ++ ([(IntKind.u8.wrap (bits .and .i64 (a0.fdiv (2 ^ (min (IntKind.u64.wrap (IntKind.i64.wrap ((8 : Int) * x3))).toNat (IntKind.bits .i64)))) (255 : Int)))])).length 1 (gl (csI .u8) (x4 ++ ([(IntKind.u8.wrap (bits .and .i64 (a0.fdiv (2 ^ (min (IntKind.u64.wrap (IntKind.i64.wrap ((8 : Int) * x3))).toNat (IntKind.bits .i64)))) (255 : Int)))])))))]⟩) (ob := True ∧ True ∧ True ∧ True ∧ True ∧ (0 ≤ (IntKind.u64.wrap (IntKind.i64.wrap ((8 : Int) * x3)))) ∧ True ∧ True ∧ (([(IntKind.u8.wrap (bits .and .i64 (a0.fdiv (2 ^ (min (IntKind.u64.wrap (IntKind.i64.wrap ((8 : Int) * x3))).toNat (IntKind.bits .i64)))) (255 : Int)))]).length = 1 ∧ (((.int .u8 (IntKind.u8.wrap (bits .and .i64 (a0.fdiv (2 ^ (min (IntKind.u64.wrap (IntKind.i64.wrap ((8 : Int) * x3))).toNat (IntKind.bits .i64)))) (255 : Int)))) : C) = (.int .u8 (IntKind.u8.wrap (bits .and .i64 (a0.fdiv (2 ^ (min (IntKind.u64.wrap (IntKind.i64.wrap ((8 : Int) * x3))).toNat (IntKind.bits .i64)))) (255 : Int)))) ∧ True) ∧ True) ∧ ((x4 ++ ([(IntKind.u8.wrap (bits .and .i64 (a0.fdiv (2 ^ (min (IntKind.u64.wrap (IntKind.i64.wrap ((8 : Int) * x3))).toNat (IntKind.bits .i64)))) (255 : Int)))])).length = x4.length + ([(IntKind.u8.wrap (bits .and .i64 (a0.fdiv (2 ^ (min (IntKind.u64.wrap (IntKind.i64.wrap ((8 : Int) * x3))).toNat (IntKind.bits .i64)))) (255 : Int)))]).length ∧ AppOb (x4.length) (([(IntKind.u8.wrap (bits .and .i64 (a0.fdiv (2 ^ (min (IntKind.u64.wrap (IntKind.i64.wrap ((8 : Int) * x3))).toNat (IntKind.bits .i64)))) (255 : Int)))]).length) 1 (gl (csI .u8) x4) (gl (csI .u8) ([(IntKind.u8.wrap (bits .and .i64 (a0.fdiv (2 ^ (min (IntKind.u64.wrap (IntKind.i64.wrap ((8 : Int) * x3))).toNat (IntKind.bits .i64)))) (255 : Int)))])) (gl (csI .u8) (x4 ++ ([(IntKind.u8.wrap (bits .and .i64 (a0.fdiv (2 ^ (min (IntKind.u64.wrap (IntKind.i64.wrap ((8 : Int) * x3))).toNat (IntKind.bits .i64)))) (255 : Int)))]))) ∧ True ∧ (x4.length + ([(IntKind.u8.wrap (bits .and .i64 (a0.fdiv (2 ^ (min (IntKind.u64.wrap (IntKind.i64.wrap ((8 : Int) * x3))).toNat (IntKind.bits .i64)))) (255 : Int)))]).length) * 1 ≤ 140737488355328) ∧ True ∧ True) (by kernel_rfl) ⟨trivial, trivial, trivial, trivial, trivial, c6, trivial, trivial, ⟨rfl, ⟨⟨rfl, trivial⟩, trivial⟩⟩, ⟨List.length_append, gl_append, trivial, c7⟩, trivial, trivial⟩ ?_
    refine blockQ_normal ?_
    refine thenQ_normal ?_
    refine AW.regionA [] [0, 1, 5, 6] [7] (s' := ⟨[(0, (.v (.one (.c (.int .i64 a0))))), (1, (.v (.one (.c (.int .i64 a1))))), (5, (.v (.one (.lst 7 (x4 ++ ([(IntKind.u8.wrap (bits .and .i64 (a0.fdiv (2 ^ (min (IntKind.u64.wrap (IntKind.i64.wrap ((8 : Int) * x3))).toNat (IntKind.bits .i64)))) (255 : Int)))])).length 1 (gl (csI .u8) (x4 ++ ([(IntKind.u8.wrap (bits .and .i64 (a0.fdiv (2 ^ (min (IntKind.u64.wrap (IntKind.i64.wrap ((8 : Int) * x3))).toNat (IntKind.bits .i64)))) (255 : Int)))]))))))), (6, (.v (.one (.c (.int .i64 (IntKind.i64.wrap (x3 + (1 : Int))))))))], [(7, (.lst (x4 ++ ([(IntKind.u8.wrap (bits .and .i64 (a0.fdiv (2 ^ (min (IntKind.u64.wrap (IntKind.i64.wrap ((8 : Int) * x3))).toNat (IntKind.bits .i64)))) (255 : Int)))])).length 1 (gl (csI .u8) (x4 ++ ([(IntKind.u8.wrap (bits .and .i64 (a0.fdiv (2 ^ (min (IntKind.u64.wrap (IntKind.i64.wrap ((8 : Int) * x3))).toNat (IntKind.bits .i64)))) (255 : Int)))])))))]⟩) (ob := True ∧ True ∧ True ∧ True) (by kernel_rfl) ⟨trivial, trivial, trivial, trivial⟩ ?_
    exact loopQ_normal (k, (IntKind.i64.wrap (x3 + (1 : Int))), (x4 ++ ([(IntKind.u8.wrap (bits .and .i64 (a0.fdiv (2 ^ (min (IntKind.u64.wrap (IntKind.i64.wrap ((8 : Int) * x3))).toNat (IntKind.bits .i64)))) (255 : Int)))]))) h (Nat.lt_succ_self k) (Sub.trans (Sub.swap 1 7 _ (by kernel_rfl) (by kernel_rfl)) (Sub.keep [0, 1, 5, 6] [1] (by kernel_rfl) (by kernel_rfl)))
  · refine AW.cond_f rfl b5 ?_
    refine AW.exit ?_
    refine thenQ_exit ?_
    refine loopQ_exit ?_
    refine blockQ_exit ?_
    refine thenQ_normal ?_
    refine AW.seq ?_
    obtain ⟨c8, h⟩ := chk_some h
    refine AW.regionA [.no, .str (strOf x4)] [4] [] (s' := ⟨[(4, (.v (.one (.c (.str (strOf x4))))))], []⟩) (ob := True ∧ (bytesOb (strOf x4) x4.length (gl (csI .u8) x4)) ∧ True ∧ True) (by kernel_rfl) ⟨trivial, strOf_ob c8, trivial, trivial⟩ ?_
    refine thenQ_normal ?_
    refine AW.ret ?_
    replace h := some_eq h
    subst h
    exact ⟨.inr rfl, retOK_of [(.one (.c (.str (strOf x4))))] (by kernel_rfl) ⟨⟨rfl, trivial⟩, trivial⟩ (of_decide_eq_true (by kernel_rfl))⟩

/-! spec.l10Head -/
def spec_l10Head (K : Nat) (a0 : Int) : Option (ByteArray) :=
  (spec_l10Word K a0 (1 : Int)).bind fun v1 => chk ((((ByteArray.mk #[83, 75, 82, 49]).size + v1.size : Nat) : Int) ≤ 9223372036854775807) (some ((ByteArray.mk #[83, 75, 82, 49]) ++ v1))

theorem ok_spec_l10Head (K : Nat) (a0 : Int) (o : (ByteArray)) (h : spec_l10Head K a0 = some o) : CallOK Try.prog 125 [.one (.int .i64 a0)] [.one (.str o)] := by
  refine callOK_of_AW Try.func125 rfl (by kernel_rfl) (Nat.le_of_ble_eq_true (by kernel_rfl)) ?_
  intro w0
  unfold spec_l10Head at h
  refine AW.seq ?_
  refine AW.regionA [] [0] [] (s' := ⟨[(0, (.v (.one (.c (.int .i64 a0)))))], []⟩) (ob := True ∧ True) (by kernel_rfl) ⟨trivial, trivial⟩ ?_
  refine thenQ_normal ?_
  refine AW.seq ?_
  obtain ⟨v1, e2, h⟩ := bind_some h
  obtain ⟨c3, h⟩ := chk_some h
  refine AW.regionA [.no, .call [.one (.int .i64 a0), .one (.int .i64 (1 : Int))] [.one (.str v1)] [[.view]]] [2] [] (s' := ⟨[(2, (.v (.one (.c (.str ((ByteArray.mk #[83, 75, 82, 49]) ++ v1))))))], []⟩) (ob := True ∧ (((((.int .i64 a0) : C) = (.int .i64 a0)) ∧ (((.int .i64 (1 : Int)) : C) = (.int .i64 (1 : Int))) ∧ True) ∧ CallOK Try.prog 153 [.one (.int .i64 a0), .one (.int .i64 (1 : Int))] [.one (.str v1)]) ∧ ((((ByteArray.mk #[83, 75, 82, 49]).size + v1.size : Nat) : Int) ≤ 9223372036854775807) ∧ True ∧ True) (by kernel_rfl) ⟨trivial, ⟨⟨rfl, rfl, trivial⟩, ok_spec_l10Word K a0 (1 : Int) v1 e2⟩, c3, trivial, trivial⟩ ?_
  refine thenQ_normal ?_
  refine AW.ret ?_
  replace h := some_eq h
  subst h
  exact ⟨.inr rfl, retOK_of [(.one (.c (.str ((ByteArray.mk #[83, 75, 82, 49]) ++ v1))))] (by kernel_rfl) ⟨⟨rfl, trivial⟩, trivial⟩ (of_decide_eq_true (by kernel_rfl))⟩

/-! spec.l06List -/
def spec_l06List (_K : Nat) (a0 : Turn) : Option ((List F32)) :=
  some ([a0.W, a0.X, a0.Y, a0.Z])

theorem ok_spec_l06List (K : Nat) (a0 : Turn) (o : ((List F32))) (h : spec_l06List K a0 = some o) : CallOK Try.prog 154 [.agg (cs_Turn a0)] [.one (sl 1 (csF .f32) o)] := by
  refine callOK_of_AW Try.func154 rfl (by kernel_rfl) (Nat.le_of_ble_eq_true (by kernel_rfl)) ?_
  intro w0
  unfold spec_l06List at h
  refine AW.seq ?_
  refine AW.regionA [.box 1] [1] [1] (s' := ⟨[(1, (.v (.one (.ptr 1 0))))], [(1, (.box [(.c (.flt .f32 a0.W.bits)), (.c (.flt .f32 a0.X.bits)), (.c (.flt .f32 a0.Y.bits)), (.c (.flt .f32 a0.Z.bits))]))]⟩) (ob := True ∧ True ∧ True) (by kernel_rfl) ⟨trivial, trivial, trivial⟩ ?_
  refine thenQ_normal ?_
  refine AW.seq ?_
  refine AW.regionA [.no, .no, .no, .no, .no, .no, .no, .no, .obj 2 ([a0.W, a0.X, a0.Y, a0.Z]).length (gl (csF .f32) ([a0.W, a0.X, a0.Y, a0.Z]))] [2] [2] (s' := ⟨[(2, (.v (.one (.lst 2 ([a0.W, a0.X, a0.Y, a0.Z]).length 1 (gl (csF .f32) ([a0.W, a0.X, a0.Y, a0.Z]))))))], [(2, (.lst ([a0.W, a0.X, a0.Y, a0.Z]).length 1 (gl (csF .f32) ([a0.W, a0.X, a0.Y, a0.Z]))))]⟩) (ob := True ∧ True ∧ True ∧ True ∧ True ∧ True ∧ True ∧ True ∧ (([a0.W, a0.X, a0.Y, a0.Z]).length = 4 ∧ (((.flt .f32 a0.W.bits) : C) = (.flt .f32 a0.W.bits) ∧ True) ∧ (((.flt .f32 a0.X.bits) : C) = (.flt .f32 a0.X.bits) ∧ True) ∧ (((.flt .f32 a0.Y.bits) : C) = (.flt .f32 a0.Y.bits) ∧ True) ∧ (((.flt .f32 a0.Z.bits) : C) = (.flt .f32 a0.Z.bits) ∧ True) ∧ True) ∧ True ∧ True) (by kernel_rfl) ⟨trivial, trivial, trivial, trivial, trivial, trivial, trivial, trivial, ⟨rfl, ⟨⟨rfl, trivial⟩, ⟨rfl, trivial⟩, ⟨rfl, trivial⟩, ⟨rfl, trivial⟩, trivial⟩⟩, trivial, trivial⟩ ?_
  refine thenQ_normal ?_
  refine AW.ret ?_
  replace h := some_eq h
  subst h
  exact ⟨.inr rfl, retOK_of [(.one (.lst 2 ([a0.W, a0.X, a0.Y, a0.Z]).length 1 (gl (csF .f32) ([a0.W, a0.X, a0.Y, a0.Z]))))] (by kernel_rfl) ⟨rfl, trivial⟩ (of_decide_eq_true (by kernel_rfl))⟩

/-! spec.l10Numbers -/
def spec_l10Numbers_l1 (K : Nat) (a0 : Pose) : Nat → Int → (List F32) → Option ((List F32))
  | 0, _, _ => none
  | k + 1, x3, x4 => ite2 ((decide (x3 < (a0.Turns.length : Int)))) (chk (0 ≤ x3 ∧ x3 < (a0.Turns.length : Int)) ((spec_l06List K (a0.Turns.getD x3.toNat default)).bind fun v7 => chk ((x4.length + v7.length) * 4 ≤ 140737488355328) (spec_l10Numbers_l1 K a0 k (IntKind.i64.wrap (x3 + (1 : Int))) (x4 ++ v7)))) (some x4)

def spec_l10Numbers (K : Nat) (a0 : Pose) : Option ((List F32)) :=
  spec_l10Numbers_l1 K a0 K (0 : Int) ([a0.Root.X, a0.Root.Y, a0.Root.Z])

theorem ok_spec_l10Numbers (K : Nat) (a0 : Pose) (o : ((List F32))) (h : spec_l10Numbers K a0 = some o) : CallOK Try.prog 126 [.one (pl 4 cs_Pose a0)] [.one (sl 1 (csF .f32) o)] := by
  refine callOK_of_AW Try.func126 rfl (by kernel_rfl) (Nat.le_of_ble_eq_true (by kernel_rfl)) ?_
  intro w0
  unfold spec_l10Numbers at h
  refine AW.seq ?_
  refine AW.regionA [] [0] [] (s' := ⟨[(0, (.v (.one (.c (pl 4 cs_Pose a0)))))], []⟩) (ob := True ∧ True) (by kernel_rfl) ⟨trivial, trivial⟩ ?_
  refine thenQ_normal ?_
  refine AW.seq ?_
  refine AW.drawnA (by kernel_rfl) 17 [.no, .no, .no, .no, .no, .no, .no, .no, .no, .no, .no, .no, .no, .no, .no, .obj 1 ([a0.Root.X, a0.Root.Y, a0.Root.Z]).length (gl (csF .f32) ([a0.Root.X, a0.Root.Y, a0.Root.Z]))] [0, 3] [1] (s' := ⟨[(0, (.v (.one (.c (pl 4 cs_Pose a0))))), (3, (.v (.one (.lst 1 ([a0.Root.X, a0.Root.Y, a0.Root.Z]).length 1 (gl (csF .f32) ([a0.Root.X, a0.Root.Y, a0.Root.Z]))))))], [(1, (.lst ([a0.Root.X, a0.Root.Y, a0.Root.Z]).length 1 (gl (csF .f32) ([a0.Root.X, a0.Root.Y, a0.Root.Z]))))]⟩) (ob := (True ∧ True ∧ True ∧ True ∧ True ∧ True ∧ True ∧ True ∧ True ∧ True ∧ True ∧ True ∧ True ∧ True ∧ True ∧ (([a0.Root.X, a0.Root.Y, a0.Root.Z]).length = 3 ∧ (((.flt .f32 a0.Root.X.bits) : C) = (.flt .f32 a0.Root.X.bits) ∧ True) ∧ (((.flt .f32 a0.Root.Y.bits) : C) = (.flt .f32 a0.Root.Y.bits) ∧ True) ∧ (((.flt .f32 a0.Root.Z.bits) : C) = (.flt .f32 a0.Root.Z.bits) ∧ True) ∧ True) ∧ True ∧ True) ∧ (True)) (by kernel_rfl) ⟨⟨trivial, trivial, trivial, trivial, trivial, trivial, trivial, trivial, trivial, trivial, trivial, trivial, trivial, trivial, trivial, ⟨rfl, ⟨⟨rfl, trivial⟩, ⟨rfl, trivial⟩, ⟨rfl, trivial⟩, trivial⟩⟩, trivial, trivial⟩, trivial⟩ ?_
  refine thenQ_normal ?_
  refine AW.seq ?_
  refine AW.seq ?_
  refine AW.regionA [] [0, 3, 4] [1] (s' := ⟨[(0, (.v (.one (.c (pl 4 cs_Pose a0))))), (3, (.v (.one (.lst 1 ([a0.Root.X, a0.Root.Y, a0.Root.Z]).length 1 (gl (csF .f32) ([a0.Root.X, a0.Root.Y, a0.Root.Z])))))), (4, (.v (.one (.c (.int .i64 (0 : Int))))))], [(1, (.lst ([a0.Root.X, a0.Root.Y, a0.Root.Z]).length 1 (gl (csF .f32) ([a0.Root.X, a0.Root.Y, a0.Root.Z]))))]⟩) (ob := True ∧ True) (by kernel_rfl) ⟨trivial, trivial⟩ ?_
  refine thenQ_normal ?_
  refine AW.block ?_
  refine AW.loopQ (σ := Nat × Int × (List F32)) (fun p => ⟨[(0, (.v (.one (.c (pl 4 cs_Pose a0))))), (3, (.v (.one (.lst 1 p.2.2.length 1 (gl (csF .f32) p.2.2))))), (4, (.v (.one (.c (.int .i64 p.2.1)))))], [(1, (.lst p.2.2.length 1 (gl (csF .f32) p.2.2)))]⟩) (fun p => spec_l10Numbers_l1 K a0 p.1 p.2.1 p.2.2 = some o) (fun p => p.1) (K, (0 : Int), [a0.Root.X, a0.Root.Y, a0.Root.Z]) h ?_
  clear h
  rintro ⟨k, x3, x4⟩ h
  replace h : spec_l10Numbers_l1 K a0 k x3 x4 = some o := h
  show AW _ _ (⟨[(0, (.v (.one (.c (pl 4 cs_Pose a0))))), (3, (.v (.one (.lst 1 x4.length 1 (gl (csF .f32) x4))))), (4, (.v (.one (.c (.int .i64 x3)))))], [(1, (.lst x4.length 1 (gl (csF .f32) x4)))]⟩ : St) _
  obtain _ | k := k
  · rw [spec_l10Numbers_l1] at h; cases h
  rw [spec_l10Numbers_l1] at h
  refine AW.seq ?_
  refine AW.seq ?_
  refine AW.regionA [] [0, 3, 4, 27] [1] (s' := ⟨[(0, (.v (.one (.c (pl 4 cs_Pose a0))))), (3, (.v (.one (.lst 1 x4.length 1 (gl (csF .f32) x4))))), (4, (.v (.one (.c (.int .i64 x3))))), (27, (.v (.one (.c (.bool (decide (x3 < (a0.Turns.length : Int))))))))], [(1, (.lst x4.length 1 (gl (csF .f32) x4)))]⟩) (ob := True ∧ True ∧ True ∧ True ∧ True ∧ True ∧ True ∧ True) (by kernel_rfl) ⟨trivial, trivial, trivial, trivial, trivial, trivial, trivial, trivial⟩ ?_
  refine thenQ_normal ?_
  rcases ite2_cases h with ⟨b5, h⟩ | ⟨b5, h⟩
  · refine AW.cond_t rfl b5 ?_
    refine AW.skip ?_
    refine thenQ_normal ?_
    refine AW.seq ?_
    refine AW.block ?_
    obtain ⟨c6, h⟩ := chk_some h
    obtain ⟨v7, e8, h⟩ := bind_some h
    obtain ⟨c9, h⟩ := chk_some h
    refine AW.regionA [.no, .no, .no, .no, .no, .no, .no, .no, .call [.agg (cs_Turn (a0.Turns.getD x3.toNat default))] [.one (sl 1 (csF .f32) v7)] [[.lst 6]], .obj 7 (x4 ++ v7).length (gl (csF .f32) (x4 ++ v7))] [0, 3, 4] [7] (s' := ⟨[(0, (.v (.one (.c (pl 4 cs_Pose a0))))), (3, (.v (.one (.lst 7 (x4 ++ v7).length 1 (gl (csF .f32) (x4 ++ v7)))))), (4, (.v (.one (.c (.int .i64 x3)))))], [(7, (.lst (x4 ++ v7).length 1 (gl (csF .f32) (x4 ++ v7))))]⟩) (ob := True ∧ True ∧ True ∧ True ∧ True ∧ True ∧ (0 ≤ x3 ∧ x3 < (a0.Turns.length : Int)) ∧ True ∧ ((((((.flt .f32 ((a0.Turns.getD x3.toNat default).W).bits) : C) = (.flt .f32 ((a0.Turns.getD x3.toNat default).W).bits)) ∧ (((.flt .f32 ((a0.Turns.getD x3.toNat default).X).bits) : C) = (.flt .f32 ((a0.Turns.getD x3.toNat default).X).bits)) ∧ (((.flt .f32 ((a0.Turns.getD x3.toNat default).Y).bits) : C) = (.flt .f32 ((a0.Turns.getD x3.toNat default).Y).bits)) ∧ (((.flt .f32 ((a0.Turns.getD x3.toNat default).Z).bits) : C) = (.flt .f32 ((a0.Turns.getD x3.toNat default).Z).bits)) ∧ True) ∧ True) ∧ CallOK Try.prog 154 [.agg (cs_Turn (a0.Turns.getD x3.toNat default))] [.one (sl 1 (csF .f32) v7)]) ∧ ((x4 ++ v7).length = x4.length + v7.length ∧ AppOb (x4.length) (v7.length) 1 (gl (csF .f32) x4) (gl (csF .f32) v7) (gl (csF .f32) (x4 ++ v7)) ∧ True ∧ (x4.length + v7.length) * 4 ≤ 140737488355328) ∧ True ∧ True) (by kernel_rfl) ⟨trivial, trivial, trivial, trivial, trivial, trivial, c6, trivial, ⟨⟨⟨rfl, rfl, rfl, rfl, trivial⟩, trivial⟩, ok_spec_l06List K (a0.Turns.getD x3.toNat default) v7 e8⟩, ⟨List.length_append, gl_append, trivial, c9⟩, trivial, trivial⟩ ?_
    refine blockQ_normal ?_
    refine thenQ_normal ?_
    refine AW.regionA [] [0, 3, 4] [7] (s' := ⟨[(0, (.v (.one (.c (pl 4 cs_Pose a0))))), (3, (.v (.one (.lst 7 (x4 ++ v7).length 1 (gl (csF .f32) (x4 ++ v7)))))), (4, (.v (.one (.c (.int .i64 (IntKind.i64.wrap (x3 + (1 : Int))))))))], [(7, (.lst (x4 ++ v7).length 1 (gl (csF .f32) (x4 ++ v7))))]⟩) (ob := True ∧ True ∧ True ∧ True) (by kernel_rfl) ⟨trivial, trivial, trivial, trivial⟩ ?_
    exact loopQ_normal (k, (IntKind.i64.wrap (x3 + (1 : Int))), (x4 ++ v7)) h (Nat.lt_succ_self k) (Sub.trans (Sub.swap 1 7 _ (by kernel_rfl) (by kernel_rfl)) (Sub.keep [0, 3, 4] [1] (by kernel_rfl) (by kernel_rfl)))
  · refine AW.cond_f rfl b5 ?_
    refine AW.exit ?_
    refine thenQ_exit ?_
    refine loopQ_exit ?_
    refine blockQ_exit ?_
    refine thenQ_normal ?_
    refine AW.seq ?_
    refine AW.regionA [] [2] [1] (s' := ⟨[(2, (.v (.one (.lst 1 x4.length 1 (gl (csF .f32) x4)))))], [(1, (.lst x4.length 1 (gl (csF .f32) x4)))]⟩) (ob := True ∧ True ∧ True) (by kernel_rfl) ⟨trivial, trivial, trivial⟩ ?_
    refine thenQ_normal ?_
    refine AW.ret ?_
    replace h := some_eq h
    subst h
    exact ⟨.inr rfl, retOK_of [(.one (.lst 1 x4.length 1 (gl (csF .f32) x4)))] (by kernel_rfl) ⟨rfl, trivial⟩ (of_decide_eq_true (by kernel_rfl))⟩

/-! math.Float32bits -/
def math_Float32bits (_K : Nat) (a0 : F32) : Option (Int) :=
  a0.toBits

theorem ok_math_Float32bits (K : Nat) (a0 : F32) (o : Int) (h : math_Float32bits K a0 = some o) : CallOK Try.prog 158 [.one (.flt .f32 a0.bits)] [.one (.int .u32 o)] :=
  hand_toBits (e := Extern.MathFloatBits.float32bits) Try.func158 (by kernel_rfl) (by kernel_rfl) (by kernel_rfl) (by kernel_rfl) (fun _ _ => rfl) a0 o h

/-! spec.l01Bits -/
def spec_l01Bits (K : Nat) (a0 : F32) : Option (Int) :=
  ite2 ((a0.ne a0)) (some (2143289344 : Int)) ((math_Float32bits K a0).bind fun v2 => some (IntKind.i64.wrap v2))

theorem ok_spec_l01Bits (K : Nat) (a0 : F32) (o : (Int)) (h : spec_l01Bits K a0 = some o) : CallOK Try.prog 156 [.one (.flt .f32 a0.bits)] [.one (.int .i64 o)] := by
  refine callOK_of_AW Try.func156 rfl (by kernel_rfl) (Nat.le_of_ble_eq_true (by kernel_rfl)) ?_
  intro w0
  unfold spec_l01Bits at h
  refine AW.seq ?_
  refine AW.regionA [] [0] [] (s' := ⟨[(0, (.v (.one (.c (.flt .f32 a0.bits)))))], []⟩) (ob := True ∧ True) (by kernel_rfl) ⟨trivial, trivial⟩ ?_
  refine thenQ_normal ?_
  refine AW.seq ?_
  refine AW.seq ?_
  refine AW.regionA [] [0, 5] [] (s' := ⟨[(0, (.v (.one (.c (.flt .f32 a0.bits))))), (5, (.v (.one (.c (.bool (a0.ne a0))))))], []⟩) (ob := True ∧ True ∧ True ∧ True) (by kernel_rfl) ⟨trivial, trivial, trivial, trivial⟩ ?_
  refine thenQ_normal ?_
  rcases ite2_cases h with ⟨b1, h⟩ | ⟨b1, h⟩
  · refine AW.cond_t rfl b1 ?_
    refine AW.seq ?_
    refine AW.regionA [] [2] [] (s' := ⟨[(2, (.v (.one (.c (.int .i64 (2143289344 : Int))))))], []⟩) (ob := True ∧ True) (by kernel_rfl) ⟨trivial, trivial⟩ ?_
    refine thenQ_normal ?_
    refine AW.ret ?_
    refine thenQ_ret ?_
    replace h := some_eq h
    subst h
    exact ⟨.inr rfl, retOK_of [(.one (.c (.int .i64 (2143289344 : Int))))] (by kernel_rfl) ⟨⟨rfl, trivial⟩, trivial⟩ (of_decide_eq_true (by kernel_rfl))⟩
  · refine AW.cond_f rfl b1 ?_
    refine AW.skip ?_
    refine thenQ_normal ?_
    refine AW.seq ?_
    obtain ⟨v2, e3, h⟩ := bind_some h
    refine AW.regionA [.no, .call [.one (.flt .f32 a0.bits)] [.one (.int .u32 v2)] [[.view]]] [2] [] (s' := ⟨[(2, (.v (.one (.c (.int .i64 (IntKind.i64.wrap v2))))))], []⟩) (ob := True ∧ (((((.flt .f32 a0.bits) : C) = (.flt .f32 a0.bits)) ∧ True) ∧ CallOK Try.prog 158 [.one (.flt .f32 a0.bits)] [.one (.int .u32 v2)]) ∧ True ∧ True ∧ True) (by kernel_rfl) ⟨trivial, ⟨⟨rfl, trivial⟩, ok_math_Float32bits K a0 v2 e3⟩, trivial, trivial, trivial⟩ ?_
    refine thenQ_normal ?_
    refine AW.ret ?_
    replace h := some_eq h
    subst h
    exact ⟨.inr rfl, retOK_of [(.one (.c (.int .i64 (IntKind.i64.wrap v2))))] (by kernel_rfl) ⟨⟨rfl, trivial⟩, trivial⟩ (of_decide_eq_true (by kernel_rfl))⟩

/-! spec.l01Same -/
def spec_l01Same (K : Nat) (a0 : F32) (a1 : F32) : Option (Bool) :=
  (spec_l01Bits K a0).bind fun v1 => (spec_l01Bits K a1).bind fun v3 => some (v1 == v3)

theorem ok_spec_l01Same (K : Nat) (a0 : F32) (a1 : F32) (o : (Bool)) (h : spec_l01Same K a0 a1 = some o) : CallOK Try.prog 173 [.one (.flt .f32 a0.bits), .one (.flt .f32 a1.bits)] [.one (.bool o)] := by
  refine callOK_of_AW Try.func173 rfl (by kernel_rfl) (Nat.le_of_ble_eq_true (by kernel_rfl)) ?_
  intro w0
  unfold spec_l01Same at h
  refine AW.seq ?_
  refine AW.regionA [] [0, 1] [] (s' := ⟨[(0, (.v (.one (.c (.flt .f32 a0.bits))))), (1, (.v (.one (.c (.flt .f32 a1.bits)))))], []⟩) (ob := True ∧ True) (by kernel_rfl) ⟨trivial, trivial⟩ ?_
  refine thenQ_normal ?_
  refine AW.seq ?_
  obtain ⟨v1, e2, h⟩ := bind_some h
  obtain ⟨v3, e4, h⟩ := bind_some h
  refine AW.regionA [.no, .call [.one (.flt .f32 a0.bits)] [.one (.int .i64 v1)] [[.view]], .no, .call [.one (.flt .f32 a1.bits)] [.one (.int .i64 v3)] [[.view]]] [4] [] (s' := ⟨[(4, (.v (.one (.c (.bool (v1 == v3))))))], []⟩) (ob := True ∧ (((((.flt .f32 a0.bits) : C) = (.flt .f32 a0.bits)) ∧ True) ∧ CallOK Try.prog 156 [.one (.flt .f32 a0.bits)] [.one (.int .i64 v1)]) ∧ True ∧ (((((.flt .f32 a1.bits) : C) = (.flt .f32 a1.bits)) ∧ True) ∧ CallOK Try.prog 156 [.one (.flt .f32 a1.bits)] [.one (.int .i64 v3)]) ∧ True ∧ True ∧ True) (by kernel_rfl) ⟨trivial, ⟨⟨rfl, trivial⟩, ok_spec_l01Bits K a0 v1 e2⟩, trivial, ⟨⟨rfl, trivial⟩, ok_spec_l01Bits K a1 v3 e4⟩, trivial, trivial, trivial⟩ ?_
  refine thenQ_normal ?_
  refine AW.ret ?_
  replace h := some_eq h
  subst h
  exact ⟨.inr rfl, retOK_of [(.one (.c (.bool (v1 == v3))))] (by kernel_rfl) ⟨⟨rfl, trivial⟩, trivial⟩ (of_decide_eq_true (by kernel_rfl))⟩

/-! spec.l10Changed -/
def spec_l10Changed_l1 (K : Nat) (a0 : (List F32)) (a1 : (List F32)) : Nat → Int → (List Int) → Option ((List Int))
  | 0, _, _ => none
  | k + 1, x3, x4 => ite2 ((decide (x3 < (a0.length : Int)))) (chk (0 ≤ x3 ∧ x3 < (a0.length : Int)) (chk (0 ≤ x3 ∧ x3 < (a1.length : Int)) ((spec_l01Same K (a0.getD x3.toNat default) (a1.getD x3.toNat default)).bind fun v8 => ite2 ((!v8)) (chk ((x4.length + ([x3]).length) * 8 ≤ 140737488355328) (spec_l10Changed_l1 K a0 a1 k (IntKind.i64.wrap (x3 + (1 : Int))) (x4 ++ ([x3])))) (spec_l10Changed_l1 K a0 a1 k (IntKind.i64.wrap (x3 + (1 : Int))) x4)))) (some x4)

def spec_l10Changed (K : Nat) (a0 : (List F32)) (a1 : (List F32)) : Option ((List Int)) :=
  spec_l10Changed_l1 K a0 a1 K (0 : Int) ([] : List Int)

theorem ok_spec_l10Changed (K : Nat) (a0 : (List F32)) (a1 : (List F32)) (o : ((List Int))) (h : spec_l10Changed K a0 a1 = some o) : CallOK Try.prog 155 [.one (sl 1 (csF .f32) a0), .one (sl 1 (csF .f32) a1)] [.one (sl 1 (csI .i64) o)] := by
  refine callOK_of_AW Try.func155 rfl (by kernel_rfl) (Nat.le_of_ble_eq_true (by kernel_rfl)) ?_
  intro w0
  unfold spec_l10Changed at h
  refine AW.seq ?_
  refine AW.regionA [] [0, 1] [] (s' := ⟨[(0, (.v (.one (.c (sl 1 (csF .f32) a0))))), (1, (.v (.one (.c (sl 1 (csF .f32) a1)))))], []⟩) (ob := True ∧ True) (by kernel_rfl) ⟨trivial, trivial⟩ ?_
  refine thenQ_normal ?_
  refine AW.seq ?_
  refine AW.regionA [.obj 1 ([] : List Int).length (gl (csI .i64) ([] : List Int))] [0, 1, 5] [1] (s' := ⟨[(0, (.v (.one (.c (sl 1 (csF .f32) a0))))), (1, (.v (.one (.c (sl 1 (csF .f32) a1))))), (5, (.v (.one (.lst 1 ([] : List Int).length 1 (gl (csI .i64) ([] : List Int))))))], [(1, (.lst ([] : List Int).length 1 (gl (csI .i64) ([] : List Int))))]⟩) (ob := (([] : List Int).length = 0 ∧ True) ∧ True ∧ True) (by kernel_rfl) ⟨⟨rfl, trivial⟩, trivial, trivial⟩ ?_
  refine thenQ_normal ?_
  refine AW.seq ?_
  refine AW.seq ?_
  refine AW.regionA [] [0, 1, 5, 6] [1] (s' := ⟨[(0, (.v (.one (.c (sl 1 (csF .f32) a0))))), (1, (.v (.one (.c (sl 1 (csF .f32) a1))))), (5, (.v (.one (.lst 1 ([] : List Int).length 1 (gl (csI .i64) ([] : List Int)))))), (6, (.v (.one (.c (.int .i64 (0 : Int))))))], [(1, (.lst ([] : List Int).length 1 (gl (csI .i64) ([] : List Int))))]⟩) (ob := True ∧ True) (by kernel_rfl) ⟨trivial, trivial⟩ ?_
  refine thenQ_normal ?_
  refine AW.block ?_
  refine AW.loopQ (σ := Nat × Int × (List Int)) (fun p => ⟨[(0, (.v (.one (.c (sl 1 (csF .f32) a0))))), (1, (.v (.one (.c (sl 1 (csF .f32) a1))))), (5, (.v (.one (.lst 1 p.2.2.length 1 (gl (csI .i64) p.2.2))))), (6, (.v (.one (.c (.int .i64 p.2.1)))))], [(1, (.lst p.2.2.length 1 (gl (csI .i64) p.2.2)))]⟩) (fun p => spec_l10Changed_l1 K a0 a1 p.1 p.2.1 p.2.2 = some o) (fun p => p.1) (K, (0 : Int), ([] : List Int)) h ?_
  clear h
  rintro ⟨k, x3, x4⟩ h
  replace h : spec_l10Changed_l1 K a0 a1 k x3 x4 = some o := h
  show AW _ _ (⟨[(0, (.v (.one (.c (sl 1 (csF .f32) a0))))), (1, (.v (.one (.c (sl 1 (csF .f32) a1))))), (5, (.v (.one (.lst 1 x4.length 1 (gl (csI .i64) x4))))), (6, (.v (.one (.c (.int .i64 x3)))))], [(1, (.lst x4.length 1 (gl (csI .i64) x4)))]⟩ : St) _
  obtain _ | k := k
  · rw [spec_l10Changed_l1] at h; cases h
  rw [spec_l10Changed_l1] at h
  refine AW.seq ?_
  refine AW.seq ?_
  refine AW.regionA [] [0, 1, 5, 6, 11] [1] (s' := ⟨[(0, (.v (.one (.c (sl 1 (csF .f32) a0))))), (1, (.v (.one (.c (sl 1 (csF .f32) a1))))), (5, (.v (.one (.lst 1 x4.length 1 (gl (csI .i64) x4))))), (6, (.v (.one (.c (.int .i64 x3))))), (11, (.v (.one (.c (.bool (decide (x3 < (a0.length : Int))))))))], [(1, (.lst x4.length 1 (gl (csI .i64) x4)))]⟩) (ob := True ∧ True ∧ True ∧ True ∧ True) (by kernel_rfl) ⟨trivial, trivial, trivial, trivial, trivial⟩ ?_
  refine thenQ_normal ?_
  rcases ite2_cases h with ⟨b5, h⟩ | ⟨b5, h⟩
  · refine AW.cond_t rfl b5 ?_
    refine AW.skip ?_
    refine thenQ_normal ?_
    refine AW.seq ?_
    refine AW.block ?_
    refine AW.seq ?_
    obtain ⟨c6, h⟩ := chk_some h
    obtain ⟨c7, h⟩ := chk_some h
    obtain ⟨v8, e9, h⟩ := bind_some h
    refine AW.drawnA (by kernel_rfl) 10 [.no, .no, .no, .no, .no, .no, .no, .no, .call [.one (.flt .f32 (a0.getD x3.toNat default).bits), .one (.flt .f32 (a1.getD x3.toNat default).bits)] [.one (.bool v8)] [[.view]]] [0, 1, 5, 6, 23] [1] (s' := ⟨[(0, (.v (.one (.c (sl 1 (csF .f32) a0))))), (1, (.v (.one (.c (sl 1 (csF .f32) a1))))), (5, (.v (.one (.lst 1 x4.length 1 (gl (csI .i64) x4))))), (6, (.v (.one (.c (.int .i64 x3))))), (23, (.v (.one (.c (.bool (!v8))))))], [(1, (.lst x4.length 1 (gl (csI .i64) x4)))]⟩) (ob := (True ∧ True ∧ (0 ≤ x3 ∧ x3 < (a0.length : Int)) ∧ True ∧ True ∧ True ∧ (0 ≤ x3 ∧ x3 < (a1.length : Int)) ∧ True ∧ (((((.flt .f32 (a0.getD x3.toNat default).bits) : C) = (.flt .f32 (a0.getD x3.toNat default).bits)) ∧ (((.flt .f32 (a1.getD x3.toNat default).bits) : C) = (.flt .f32 (a1.getD x3.toNat default).bits)) ∧ True) ∧ CallOK Try.prog 173 [.one (.flt .f32 (a0.getD x3.toNat default).bits), .one (.flt .f32 (a1.getD x3.toNat default).bits)] [.one (.bool v8)]) ∧ True ∧ True) ∧ (True)) (by kernel_rfl) ⟨⟨trivial, trivial, c6, trivial, trivial, trivial, c7, trivial, ⟨⟨rfl, rfl, trivial⟩, ok_spec_l01Same K (a0.getD x3.toNat default) (a1.getD x3.toNat default) v8 e9⟩, trivial, trivial⟩, trivial⟩ ?_
    refine thenQ_normal ?_
    rcases ite2_cases h with ⟨b10, h⟩ | ⟨b10, h⟩
    · refine AW.cond_t rfl b10 ?_
      obtain ⟨c11, h⟩ := chk_some h
      refine AW.regionA [.no, .no, .obj 6 ([x3]).length (gl (csI .i64) ([x3])), .obj 7 (x4 ++ ([x3])).length (gl (csI .i64) (x4 ++ ([x3])))] [0, 1, 5, 6] [7] (s' := ⟨[(0, (.v (.one (.c (sl 1 (csF .f32) a0))))), (1, (.v (.one (.c (sl 1 (csF .f32) a1))))), (5, (.v (.one (.lst 7 (x4 ++ ([x3])).length 1 (gl (csI .i64) (x4 ++ ([x3]))))))), (6, (.v (.one (.c (.int .i64 x3)))))], [(7, (.lst (x4 ++ ([x3])).length 1 (gl (csI .i64) (x4 ++ ([x3])))))]⟩) (ob := True ∧ True ∧ (([x3]).length = 1 ∧ (((.int .i64 x3) : C) = (.int .i64 x3) ∧ True) ∧ True) ∧ ((x4 ++ ([x3])).length = x4.length + ([x3]).length ∧ AppOb (x4.length) (([x3]).length) 1 (gl (csI .i64) x4) (gl (csI .i64) ([x3])) (gl (csI .i64) (x4 ++ ([x3]))) ∧ True ∧ (x4.length + ([x3]).length) * 8 ≤ 140737488355328) ∧ True ∧ True) (by kernel_rfl) ⟨trivial, trivial, ⟨rfl, ⟨⟨rfl, trivial⟩, trivial⟩⟩, ⟨List.length_append, gl_append, trivial, c11⟩, trivial, trivial⟩ ?_
      refine blockQ_normal ?_
      refine thenQ_normal ?_
      refine AW.regionA [] [0, 1, 5, 6] [7] (s' := ⟨[(0, (.v (.one (.c (sl 1 (csF .f32) a0))))), (1, (.v (.one (.c (sl 1 (csF .f32) a1))))), (5, (.v (.one (.lst 7 (x4 ++ ([x3])).length 1 (gl (csI .i64) (x4 ++ ([x3]))))))), (6, (.v (.one (.c (.int .i64 (IntKind.i64.wrap (x3 + (1 : Int))))))))], [(7, (.lst (x4 ++ ([x3])).length 1 (gl (csI .i64) (x4 ++ ([x3])))))]⟩) (ob := True ∧ True ∧ True ∧ True) (by kernel_rfl) ⟨trivial, trivial, trivial, trivial⟩ ?_
      exact loopQ_normal (k, (IntKind.i64.wrap (x3 + (1 : Int))), (x4 ++ ([x3]))) h (Nat.lt_succ_self k) (Sub.trans (Sub.swap 1 7 _ (by kernel_rfl) (by kernel_rfl)) (Sub.keep [0, 1, 5, 6] [1] (by kernel_rfl) (by kernel_rfl)))
    · refine AW.cond_f rfl b10 ?_
      refine AW.skip ?_
      refine blockQ_normal ?_
      refine thenQ_normal ?_
      refine AW.regionA [] [0, 1, 5, 6] [1] (s' := ⟨[(0, (.v (.one (.c (sl 1 (csF .f32) a0))))), (1, (.v (.one (.c (sl 1 (csF .f32) a1))))), (5, (.v (.one (.lst 1 x4.length 1 (gl (csI .i64) x4))))), (6, (.v (.one (.c (.int .i64 (IntKind.i64.wrap (x3 + (1 : Int))))))))], [(1, (.lst x4.length 1 (gl (csI .i64) x4)))]⟩) (ob := True ∧ True ∧ True ∧ True) (by kernel_rfl) ⟨trivial, trivial, trivial, trivial⟩ ?_
      exact loopQ_normal (k, (IntKind.i64.wrap (x3 + (1 : Int))), x4) h (Nat.lt_succ_self k) (Sub.keep [0, 1, 5, 6] [1] (by kernel_rfl) (by kernel_rfl))
  · refine AW.cond_f rfl b5 ?_
    refine AW.exit ?_
    refine thenQ_exit ?_
    refine loopQ_exit ?_
    refine blockQ_exit ?_
    refine thenQ_normal ?_
    refine AW.seq ?_
    refine AW.regionA [] [4] [1] (s' := ⟨[(4, (.v (.one (.lst 1 x4.length 1 (gl (csI .i64) x4)))))], [(1, (.lst x4.length 1 (gl (csI .i64) x4)))]⟩) (ob := True ∧ True ∧ True) (by kernel_rfl) ⟨trivial, trivial, trivial⟩ ?_
    refine thenQ_normal ?_
    refine AW.ret ?_
    replace h := some_eq h
    subst h
    exact ⟨.inr rfl, retOK_of [(.one (.lst 1 x4.length 1 (gl (csI .i64) x4)))] (by kernel_rfl) ⟨rfl, trivial⟩ (of_decide_eq_true (by kernel_rfl))⟩

/-! spec.l01Check -/
def spec_l01Check_l1 (K : Nat) (a1 : ByteArray) : Nat → Int → Int → Option (Int)
  | 0, _, _ => none
  | k + 1, x3, x4 => ite2 ((decide (x4 < (a1.size : Int)))) (chk (0 ≤ x4 ∧ x4 < (a1.size : Int)) (chk ((65003 : Int) ≠ 0) (spec_l01Check_l1 K a1 k ((IntKind.i64.wrap ((IntKind.i64.wrap ((IntKind.i64.wrap ((613 : Int) * x3)) + (IntKind.i64.wrap (bt a1 x4.toNat)))) + (23 : Int))).tmod (65003 : Int)) (IntKind.i64.wrap (x4 + (1 : Int)))))) (some x3)

def spec_l01Check (K : Nat) (a0 : Int) (a1 : ByteArray) : Option (Int) :=
  spec_l01Check_l1 K a1 K a0 (0 : Int)

theorem ok_spec_l01Check (K : Nat) (a0 : Int) (a1 : ByteArray) (o : (Int)) (h : spec_l01Check K a0 a1 = some o) : CallOK Try.prog 157 [.one (.int .i64 a0), .one (.str a1)] [.one (.int .i64 o)] := by
  refine callOK_of_AW Try.func157 rfl (by kernel_rfl) (Nat.le_of_ble_eq_true (by kernel_rfl)) ?_
  intro w0
  unfold spec_l01Check at h
  refine AW.seq ?_
  refine AW.regionA [] [0, 1] [] (s' := ⟨[(0, (.v (.one (.c (.int .i64 a0))))), (1, (.v (.one (.c (.str a1)))))], []⟩) (ob := True ∧ True) (by kernel_rfl) ⟨trivial, trivial⟩ ?_
  refine thenQ_normal ?_
  refine AW.seq ?_
  refine AW.seq ?_
  refine AW.regionA [] [0, 1, 5] [] (s' := ⟨[(0, (.v (.one (.c (.int .i64 a0))))), (1, (.v (.one (.c (.str a1))))), (5, (.v (.one (.c (.int .i64 (0 : Int))))))], []⟩) (ob := True ∧ True) (by kernel_rfl) ⟨trivial, trivial⟩ ?_
  refine thenQ_normal ?_
  refine AW.block ?_
  refine AW.loopQ (σ := Nat × Int × Int) (fun p => ⟨[(0, (.v (.one (.c (.int .i64 p.2.1))))), (1, (.v (.one (.c (.str a1))))), (5, (.v (.one (.c (.int .i64 p.2.2)))))], []⟩) (fun p => spec_l01Check_l1 K a1 p.1 p.2.1 p.2.2 = some o) (fun p => p.1) (K, a0, (0 : Int)) h ?_
  clear h
  rintro ⟨k, x3, x4⟩ h
  replace h : spec_l01Check_l1 K a1 k x3 x4 = some o := h
  show AW _ _ (⟨[(0, (.v (.one (.c (.int .i64 x3))))), (1, (.v (.one (.c (.str a1))))), (5, (.v (.one (.c (.int .i64 x4)))))], []⟩ : St) _
  obtain _ | k := k
  · rw [spec_l01Check_l1] at h; cases h
  rw [spec_l01Check_l1] at h
  refine AW.seq ?_
  refine AW.seq ?_
  refine AW.regionA [] [0, 1, 5, 9] [] (s' := ⟨[(0, (.v (.one (.c (.int .i64 x3))))), (1, (.v (.one (.c (.str a1))))), (5, (.v (.one (.c (.int .i64 x4))))), (9, (.v (.one (.c (.bool (decide (x4 < (a1.size : Int))))))))], []⟩) (ob := True ∧ True ∧ True ∧ True ∧ True) (by kernel_rfl) ⟨trivial, trivial, trivial, trivial, trivial⟩ ?_
  refine thenQ_normal ?_
  rcases ite2_cases h with ⟨b5, h⟩ | ⟨b5, h⟩
  · refine AW.cond_t rfl b5 ?_
    refine AW.skip ?_
    refine thenQ_normal ?_
    refine AW.seq ?_
    refine AW.block ?_
    obtain ⟨c6, h⟩ := chk_some h
    obtain ⟨c7, h⟩ := chk_some h
    refine AW.regionA [] [0, 1, 5] [] (s' := ⟨[(0, (.v (.one (.c (.int .i64 ((IntKind.i64.wrap ((IntKind.i64.wrap ((IntKind.i64.wrap ((613 : Int) * x3)) + (IntKind.i64.wrap (bt a1 x4.toNat)))) + (23 : Int))).tmod (65003 : Int))))))), (1, (.v (.one (.c (.str a1))))), (5, (.v (.one (.c (.int .i64 x4)))))], []⟩) (ob := True ∧ True ∧ True ∧ True ∧ (0 ≤ x4 ∧ x4 < (a1.size : Int)) ∧ True ∧ True ∧ True ∧ ((65003 : Int) ≠ 0) ∧ True ∧ True) (by kernel_rfl) ⟨trivial, trivial, trivial, trivial, c6, trivial, trivial, trivial, c7, trivial, trivial⟩ ?_
    refine blockQ_normal ?_
    refine thenQ_normal ?_
    refine AW.regionA [] [0, 1, 5] [] (s' := ⟨[(0, (.v (.one (.c (.int .i64 ((IntKind.i64.wrap ((IntKind.i64.wrap ((IntKind.i64.wrap ((613 : Int) * x3)) + (IntKind.i64.wrap (bt a1 x4.toNat)))) + (23 : Int))).tmod (65003 : Int))))))), (1, (.v (.one (.c (.str a1))))), (5, (.v (.one (.c (.int .i64 (IntKind.i64.wrap (x4 + (1 : Int))))))))], []⟩) (ob := True ∧ True ∧ True ∧ True) (by kernel_rfl) ⟨trivial, trivial, trivial, trivial⟩ ?_
    exact loopQ_normal (k, ((IntKind.i64.wrap ((IntKind.i64.wrap ((IntKind.i64.wrap ((613 : Int) * x3)) + (IntKind.i64.wrap (bt a1 x4.toNat)))) + (23 : Int))).tmod (65003 : Int)), (IntKind.i64.wrap (x4 + (1 : Int)))) h (Nat.lt_succ_self k) (Sub.keep [0, 1, 5] [] (by kernel_rfl) (by kernel_rfl))
  · refine AW.cond_f rfl b5 ?_
    refine AW.exit ?_
    refine thenQ_exit ?_
    refine loopQ_exit ?_
    refine blockQ_exit ?_
    refine thenQ_normal ?_
    refine AW.seq ?_
    refine AW.regionA [] [4] [] (s' := ⟨[(4, (.v (.one (.c (.int .i64 x3)))))], []⟩) (ob := True ∧ True ∧ True) (by kernel_rfl) ⟨trivial, trivial, trivial⟩ ?_
    refine thenQ_normal ?_
    refine AW.ret ?_
    replace h := some_eq h
    subst h
    exact ⟨.inr rfl, retOK_of [(.one (.c (.int .i64 x3)))] (by kernel_rfl) ⟨⟨rfl, trivial⟩, trivial⟩ (of_decide_eq_true (by kernel_rfl))⟩

/-! spec.l10Record -/
def spec_l10Record_l1 (K : Nat) (a0 : ByteArray) (a2 : (List F32)) (v1 : ((List Int))) : Nat → ByteArray → Int → Option (ByteArray)
  | 0, _, _ => none
  | k + 1, x7, x8 => ite2 ((decide (x8 < (v1.length : Int)))) (chk (0 ≤ x8 ∧ x8 < (v1.length : Int)) ((spec_l10Word K (v1.getD x8.toNat default) (1 : Int)).bind fun v11 => chk (0 ≤ (v1.getD x8.toNat default) ∧ (v1.getD x8.toNat default) < (a2.length : Int)) ((spec_l01Bits K (a2.getD ((v1.getD x8.toNat default).toNat) default)).bind fun v14 => (spec_l10Word K v14 (4 : Int)).bind fun v16 => chk (((v11.size + v16.size : Nat) : Int) ≤ 9223372036854775807) (chk (((x7.size + (v11 ++ v16).size : Nat) : Int) ≤ 9223372036854775807) (spec_l10Record_l1 K a0 a2 v1 k (x7 ++ (v11 ++ v16)) (IntKind.i64.wrap (x8 + (1 : Int)))))))) (chk (((a0.size + x7.size : Nat) : Int) ≤ 9223372036854775807) ((spec_l01Check K (0 : Int) (a0 ++ x7)).bind fun v21 => (spec_l10Word K v21 (2 : Int)).bind fun v23 => chk (((x7.size + v23.size : Nat) : Int) ≤ 9223372036854775807) (some (x7 ++ v23))))

def spec_l10Record (K : Nat) (a0 : ByteArray) (a1 : (List F32)) (a2 : (List F32)) : Option (ByteArray) :=
  (spec_l10Changed K a1 a2).bind fun v1 => (spec_l10Word K (v1.length : Int) (1 : Int)).bind fun v3 => spec_l10Record_l1 K a0 a2 v1 K v3 (0 : Int)

theorem ok_spec_l10Record (K : Nat) (a0 : ByteArray) (a1 : (List F32)) (a2 : (List F32)) (o : (ByteArray)) (h : spec_l10Record K a0 a1 a2 = some o) : CallOK Try.prog 127 [.one (.str a0), .one (sl 1 (csF .f32) a1), .one (sl 1 (csF .f32) a2)] [.one (.str o)] := by
  refine callOK_of_AW Try.func127 rfl (by kernel_rfl) (Nat.le_of_ble_eq_true (by kernel_rfl)) ?_
  intro w0
  unfold spec_l10Record at h
  refine AW.seq ?_
  refine AW.regionA [] [0, 1, 2] [] (s' := ⟨[(0, (.v (.one (.c (.str a0))))), (1, (.v (.one (.c (sl 1 (csF .f32) a1))))), (2, (.v (.one (.c (sl 1 (csF .f32) a2)))))], []⟩) (ob := True ∧ True) (by kernel_rfl) ⟨trivial, trivial⟩ ?_
  refine thenQ_normal ?_
  refine AW.seq ?_
  obtain ⟨v1, e2, h⟩ := bind_some h
  refine AW.regionA [.no, .no, .call [.one (sl 1 (csF .f32) a1), .one (sl 1 (csF .f32) a2)] [.one (sl 1 (csI .i64) v1)] [[.lst 1]]] [0, 2, 7] [1] (s' := ⟨[(0, (.v (.one (.c (.str a0))))), (2, (.v (.one (.c (sl 1 (csF .f32) a2))))), (7, (.v (.one (.lst 1 v1.length 1 (gl (csI .i64) v1)))))], [(1, (.lst v1.length 1 (gl (csI .i64) v1)))]⟩) (ob := True ∧ True ∧ (((((sl 1 (csF .f32) a1) : C) = (sl 1 (csF .f32) a1)) ∧ (((sl 1 (csF .f32) a2) : C) = (sl 1 (csF .f32) a2)) ∧ True) ∧ CallOK Try.prog 155 [.one (sl 1 (csF .f32) a1), .one (sl 1 (csF .f32) a2)] [.one (sl 1 (csI .i64) v1)]) ∧ True ∧ True) (by kernel_rfl) ⟨trivial, trivial, ⟨⟨rfl, rfl, trivial⟩, ok_spec_l10Changed K a1 a2 v1 e2⟩, trivial, trivial⟩ ?_
  refine thenQ_normal ?_
  refine AW.seq ?_
  obtain ⟨v3, e4, h⟩ := bind_some h
  refine AW.regionA [.no, .no, .call [.one (.int .i64 (v1.length : Int)), .one (.int .i64 (1 : Int))] [.one (.str v3)] [[.view]]] [0, 2, 7, 8] [1] (s' := ⟨[(0, (.v (.one (.c (.str a0))))), (2, (.v (.one (.c (sl 1 (csF .f32) a2))))), (7, (.v (.one (.lst 1 v1.length 1 (gl (csI .i64) v1))))), (8, (.v (.one (.c (.str v3)))))], [(1, (.lst v1.length 1 (gl (csI .i64) v1)))]⟩) (ob := True ∧ True ∧ (((((.int .i64 (v1.length : Int)) : C) = (.int .i64 (v1.length : Int))) ∧ (((.int .i64 (1 : Int)) : C) = (.int .i64 (1 : Int))) ∧ True) ∧ CallOK Try.prog 153 [.one (.int .i64 (v1.length : Int)), .one (.int .i64 (1 : Int))] [.one (.str v3)]) ∧ True ∧ True) (by kernel_rfl) ⟨trivial, trivial, ⟨⟨rfl, rfl, trivial⟩, ok_spec_l10Word K (v1.length : Int) (1 : Int) v3 e4⟩, trivial, trivial⟩ ?_
  refine thenQ_normal ?_
  refine AW.seq ?_
  refine AW.seq ?_
  refine AW.regionA [] [0, 2, 7, 8, 9] [1] (s' := ⟨[(0, (.v (.one (.c (.str a0))))), (2, (.v (.one (.c (sl 1 (csF .f32) a2))))), (7, (.v (.one (.lst 1 v1.length 1 (gl (csI .i64) v1))))), (8, (.v (.one (.c (.str v3))))), (9, (.v (.one (.c (.int .i64 (0 : Int))))))], [(1, (.lst v1.length 1 (gl (csI .i64) v1)))]⟩) (ob := True ∧ True) (by kernel_rfl) ⟨trivial, trivial⟩ ?_
  refine thenQ_normal ?_
  refine AW.block ?_
  refine AW.loopQ (σ := Nat × ByteArray × Int) (fun p => ⟨[(0, (.v (.one (.c (.str a0))))), (2, (.v (.one (.c (sl 1 (csF .f32) a2))))), (7, (.v (.one (.lst 1 v1.length 1 (gl (csI .i64) v1))))), (8, (.v (.one (.c (.str p.2.1))))), (9, (.v (.one (.c (.int .i64 p.2.2)))))], [(1, (.lst v1.length 1 (gl (csI .i64) v1)))]⟩) (fun p => spec_l10Record_l1 K a0 a2 v1 p.1 p.2.1 p.2.2 = some o) (fun p => p.1) (K, v3, (0 : Int)) h ?_
  clear h
  rintro ⟨k, x7, x8⟩ h
  replace h : spec_l10Record_l1 K a0 a2 v1 k x7 x8 = some o := h
  show AW _ _ (⟨[(0, (.v (.one (.c (.str a0))))), (2, (.v (.one (.c (sl 1 (csF .f32) a2))))), (7, (.v (.one (.lst 1 v1.length 1 (gl (csI .i64) v1))))), (8, (.v (.one (.c (.str x7))))), (9, (.v (.one (.c (.int .i64 x8)))))], [(1, (.lst v1.length 1 (gl (csI .i64) v1)))]⟩ : St) _
  obtain _ | k := k
  · rw [spec_l10Record_l1] at h; cases h
  rw [spec_l10Record_l1] at h
  refine AW.seq ?_
  refine AW.seq ?_
  refine AW.regionA [] [0, 2, 7, 8, 9, 19] [1] (s' := ⟨[(0, (.v (.one (.c (.str a0))))), (2, (.v (.one (.c (sl 1 (csF .f32) a2))))), (7, (.v (.one (.lst 1 v1.length 1 (gl (csI .i64) v1))))), (8, (.v (.one (.c (.str x7))))), (9, (.v (.one (.c (.int .i64 x8))))), (19, (.v (.one (.c (.bool (decide (x8 < (v1.length : Int))))))))], [(1, (.lst v1.length 1 (gl (csI .i64) v1)))]⟩) (ob := True ∧ True ∧ True ∧ True ∧ True) (by kernel_rfl) ⟨trivial, trivial, trivial, trivial, trivial⟩ ?_
  refine thenQ_normal ?_
  rcases ite2_cases h with ⟨b9, h⟩ | ⟨b9, h⟩
  · refine AW.cond_t rfl b9 ?_
    refine AW.skip ?_
    refine thenQ_normal ?_
    refine AW.seq ?_
    refine AW.block ?_
    obtain ⟨c10, h⟩ := chk_some h
    obtain ⟨v11, e12, h⟩ := bind_some h
    obtain ⟨c13, h⟩ := chk_some h
    obtain ⟨v14, e15, h⟩ := bind_some h
    obtain ⟨v16, e17, h⟩ := bind_some h
    obtain ⟨c18, h⟩ := chk_some h
    obtain ⟨c19, h⟩ := chk_some h
    refine AW.drawnA (by kernel_rfl) 17 [.no, .no, .no, .no, .no, .call [.one (.int .i64 (v1.getD x8.toNat default)), .one (.int .i64 (1 : Int))] [.one (.str v11)] [[.view]], .no, .no, .no, .no, .no, .no, .no, .call [.one (.flt .f32 (a2.getD ((v1.getD x8.toNat default).toNat) default).bits)] [.one (.int .i64 v14)] [[.view]], .call [.one (.int .i64 v14), .one (.int .i64 (4 : Int))] [.one (.str v16)] [[.view]]] [0, 2, 7, 8, 9] [1] (s' := ⟨[(0, (.v (.one (.c (.str a0))))), (2, (.v (.one (.c (sl 1 (csF .f32) a2))))), (7, (.v (.one (.lst 1 v1.length 1 (gl (csI .i64) v1))))), (8, (.v (.one (.c (.str (x7 ++ (v11 ++ v16))))))), (9, (.v (.one (.c (.int .i64 x8)))))], [(1, (.lst v1.length 1 (gl (csI .i64) v1)))]⟩) (ob := (True ∧ True ∧ True ∧ (0 ≤ x8 ∧ x8 < (v1.length : Int)) ∧ True ∧ (((((.int .i64 (v1.getD x8.toNat default)) : C) = (.int .i64 (v1.getD x8.toNat default))) ∧ (((.int .i64 (1 : Int)) : C) = (.int .i64 (1 : Int))) ∧ True) ∧ CallOK Try.prog 153 [.one (.int .i64 (v1.getD x8.toNat default)), .one (.int .i64 (1 : Int))] [.one (.str v11)]) ∧ True ∧ True ∧ True ∧ (0 ≤ x8 ∧ x8 < (v1.length : Int)) ∧ True ∧ (0 ≤ (v1.getD x8.toNat default) ∧ (v1.getD x8.toNat default) < (a2.length : Int)) ∧ True ∧ (((((.flt .f32 (a2.getD ((v1.getD x8.toNat default).toNat) default).bits) : C) = (.flt .f32 (a2.getD ((v1.getD x8.toNat default).toNat) default).bits)) ∧ True) ∧ CallOK Try.prog 156 [.one (.flt .f32 (a2.getD ((v1.getD x8.toNat default).toNat) default).bits)] [.one (.int .i64 v14)]) ∧ (((((.int .i64 v14) : C) = (.int .i64 v14)) ∧ (((.int .i64 (4 : Int)) : C) = (.int .i64 (4 : Int))) ∧ True) ∧ CallOK Try.prog 153 [.one (.int .i64 v14), .one (.int .i64 (4 : Int))] [.one (.str v16)]) ∧ (((v11.size + v16.size : Nat) : Int) ≤ 9223372036854775807) ∧ (((x7.size + (v11 ++ v16).size : Nat) : Int) ≤ 9223372036854775807) ∧ True) ∧ (True ∧ True)) (by kernel_rfl) ⟨⟨trivial, trivial, trivial, c10, trivial, ⟨⟨rfl, rfl, trivial⟩, ok_spec_l10Word K (v1.getD x8.toNat default) (1 : Int) v11 e12⟩, trivial, trivial, trivial, c10, trivial, c13, trivial, ⟨⟨rfl, trivial⟩, ok_spec_l01Bits K (a2.getD ((v1.getD x8.toNat default).toNat) default) v14 e15⟩, ⟨⟨rfl, rfl, trivial⟩, ok_spec_l10Word K v14 (4 : Int) v16 e17⟩, c18, c19, trivial⟩, ⟨trivial, trivial⟩⟩ ?_
    refine blockQ_normal ?_
    refine thenQ_normal ?_
    refine AW.regionA [] [0, 2, 7, 8, 9] [1] (s' := ⟨[(0, (.v (.one (.c (.str a0))))), (2, (.v (.one (.c (sl 1 (csF .f32) a2))))), (7, (.v (.one (.lst 1 v1.length 1 (gl (csI .i64) v1))))), (8, (.v (.one (.c (.str (x7 ++ (v11 ++ v16))))))), (9, (.v (.one (.c (.int .i64 (IntKind.i64.wrap (x8 + (1 : Int))))))))], [(1, (.lst v1.length 1 (gl (csI .i64) v1)))]⟩) (ob := True ∧ True ∧ True ∧ True) (by kernel_rfl) ⟨trivial, trivial, trivial, trivial⟩ ?_
    exact loopQ_normal (k, (x7 ++ (v11 ++ v16)), (IntKind.i64.wrap (x8 + (1 : Int)))) h (Nat.lt_succ_self k) (Sub.keep [0, 2, 7, 8, 9] [1] (by kernel_rfl) (by kernel_rfl))
  · refine AW.cond_f rfl b9 ?_
    refine AW.exit ?_
    refine thenQ_exit ?_
    refine loopQ_exit ?_
    refine blockQ_exit ?_
    refine thenQ_normal ?_
    refine AW.seq ?_
    obtain ⟨c20, h⟩ := chk_some h
    obtain ⟨v21, e22, h⟩ := bind_some h
    obtain ⟨v23, e24, h⟩ := bind_some h
    obtain ⟨c25, h⟩ := chk_some h
    refine AW.regionA [.no, .no, .no, .no, .call [.one (.int .i64 (0 : Int)), .one (.str (a0 ++ x7))] [.one (.int .i64 v21)] [[.view]], .call [.one (.int .i64 v21), .one (.int .i64 (2 : Int))] [.one (.str v23)] [[.view]]] [6] [] (s' := ⟨[(6, (.v (.one (.c (.str (x7 ++ v23))))))], []⟩) (ob := True ∧ True ∧ True ∧ (((a0.size + x7.size : Nat) : Int) ≤ 9223372036854775807) ∧ (((((.int .i64 (0 : Int)) : C) = (.int .i64 (0 : Int))) ∧ (((.str (a0 ++ x7)) : C) = (.str (a0 ++ x7))) ∧ True) ∧ CallOK Try.prog 157 [.one (.int .i64 (0 : Int)), .one (.str (a0 ++ x7))] [.one (.int .i64 v21)]) ∧ (((((.int .i64 v21) : C) = (.int .i64 v21)) ∧ (((.int .i64 (2 : Int)) : C) = (.int .i64 (2 : Int))) ∧ True) ∧ CallOK Try.prog 153 [.one (.int .i64 v21), .one (.int .i64 (2 : Int))] [.one (.str v23)]) ∧ (((x7.size + v23.size : Nat) : Int) ≤ 9223372036854775807) ∧ True ∧ True) (by kernel_rfl) ⟨trivial, trivial, trivial, c20, ⟨⟨rfl, rfl, trivial⟩, ok_spec_l01Check K (0 : Int) (a0 ++ x7) v21 e22⟩, ⟨⟨rfl, rfl, trivial⟩, ok_spec_l10Word K v21 (2 : Int) v23 e24⟩, c25, trivial, trivial⟩ ?_
    refine thenQ_normal ?_
    refine AW.ret ?_
    replace h := some_eq h
    subst h
    exact ⟨.inr rfl, retOK_of [(.one (.c (.str (x7 ++ v23))))] (by kernel_rfl) ⟨⟨rfl, trivial⟩, trivial⟩ (of_decide_eq_true (by kernel_rfl))⟩

/-! spec.l10Store -/
def spec_l10Store_l1 (K : Nat) (a0 : Recording) : Nat → ByteArray → Int → (List F32) → Option (ByteArray)
  | 0, _, _, _ => none
  | k + 1, x7, x8, x9 => ite2 ((decide (x8 < (a0.Frames.length : Int)))) (chk (0 ≤ x8 ∧ x8 < (a0.Frames.length : Int)) ((spec_l10Numbers K (a0.Frames.getD x8.toNat default)).bind fun v12 => (spec_l10Record K x7 x9 v12).bind fun v14 => chk (((x7.size + v14.size : Nat) : Int) ≤ 9223372036854775807) (spec_l10Store_l1 K a0 k (x7 ++ v14) (IntKind.i64.wrap (x8 + (1 : Int))) v12))) (some x7)

def spec_l10Store (K : Nat) (a0 : Recording) : Option (ByteArray) :=
  (spec_l10Head K a0.Bones).bind fun v1 => chk (0 ≤ (IntKind.i64.wrap ((3 : Int) + (IntKind.i64.wrap ((4 : Int) * a0.Bones)))) ∧ (IntKind.i64.wrap ((3 : Int) + (IntKind.i64.wrap ((4 : Int) * a0.Bones)))).toNat * 4 ≤ 140737488355328) (spec_l10Store_l1 K a0 K v1 (0 : Int) (List.replicate (IntKind.i64.wrap ((3 : Int) + (IntKind.i64.wrap ((4 : Int) * a0.Bones)))).toNat (default : F32)))

theorem ok_spec_l10Store (K : Nat) (a0 : Recording) (o : (ByteArray)) (h : spec_l10Store K a0 = some o) : CallOK Try.prog 81 [.one (pl 2 cs_Recording a0)] [.one (.str o)] := by
  refine callOK_of_AW Try.func81 rfl (by kernel_rfl) (Nat.le_of_ble_eq_true (by kernel_rfl)) ?_
  intro w0
  unfold spec_l10Store at h
  refine AW.seq ?_
  refine AW.regionA [] [0] [] (s' := ⟨[(0, (.v (.one (.c (pl 2 cs_Recording a0)))))], []⟩) (ob := True ∧ True) (by kernel_rfl) ⟨trivial, trivial⟩ ?_
  refine thenQ_normal ?_
  refine AW.seq ?_
  obtain ⟨v1, e2, h⟩ := bind_some h
  refine AW.regionA [.no, .no, .no, .no, .call [.one (.int .i64 a0.Bones)] [.one (.str v1)] [[.view]]] [0, 3] [] (s' := ⟨[(0, (.v (.one (.c (pl 2 cs_Recording a0))))), (3, (.v (.one (.c (.str v1)))))], []⟩) (ob := True ∧ True ∧ True ∧ True ∧ (((((.int .i64 a0.Bones) : C) = (.int .i64 a0.Bones)) ∧ True) ∧ CallOK Try.prog 125 [.one (.int .i64 a0.Bones)] [.one (.str v1)]) ∧ True ∧ True) (by kernel_rfl) ⟨trivial, trivial, trivial, trivial, ⟨⟨rfl, trivial⟩, ok_spec_l10Head K a0.Bones v1 e2⟩, trivial, trivial⟩ ?_
  refine thenQ_normal ?_
  refine AW.seq ?_
  obtain ⟨c3, h⟩ := chk_some h
  refine AW.regionA [.no, .no, .no, .no, .no, .no, .objA 1 (List.replicate (IntKind.i64.wrap ((3 : Int) + (IntKind.i64.wrap ((4 : Int) * a0.Bones)))).toNat (default : F32)).length (gl (csF .f32) (List.replicate (IntKind.i64.wrap ((3 : Int) + (IntKind.i64.wrap ((4 : Int) * a0.Bones)))).toNat (default : F32)))] [0, 3, 4] [1] (s' := ⟨[(0, (.v (.one (.c (pl 2 cs_Recording a0))))), (3, (.v (.one (.c (.str v1))))), (4, (.v (.one (.arr 1))))], [(1, (.arr false (List.replicate (IntKind.i64.wrap ((3 : Int) + (IntKind.i64.wrap ((4 : Int) * a0.Bones)))).toNat (default : F32)).length 1 (gl (csF .f32) (List.replicate (IntKind.i64.wrap ((3 : Int) + (IntKind.i64.wrap ((4 : Int) * a0.Bones)))).toNat (default : F32)))))]⟩) (ob := True ∧ True ∧ True ∧ True ∧ True ∧ True ∧ (0 ≤ (IntKind.i64.wrap ((3 : Int) + (IntKind.i64.wrap ((4 : Int) * a0.Bones)))) ∧ (IntKind.i64.wrap ((3 : Int) + (IntKind.i64.wrap ((4 : Int) * a0.Bones)))) = (IntKind.i64.wrap ((3 : Int) + (IntKind.i64.wrap ((4 : Int) * a0.Bones)))) ∧ (((List.replicate (IntKind.i64.wrap ((3 : Int) + (IntKind.i64.wrap ((4 : Int) * a0.Bones)))).toNat (default : F32)).length : Nat) : Int) = (IntKind.i64.wrap ((3 : Int) + (IntKind.i64.wrap ((4 : Int) * a0.Bones)))) ∧ (List.replicate (IntKind.i64.wrap ((3 : Int) + (IntKind.i64.wrap ((4 : Int) * a0.Bones)))).toNat (default : F32)).length * 4 ≤ 140737488355328 ∧ ∀ i, i < (List.replicate (IntKind.i64.wrap ((3 : Int) + (IntKind.i64.wrap ((4 : Int) * a0.Bones)))).toNat (default : F32)).length → zeroRow (fun _ => none) [(.c (.flt .f32 (default : F32).bits))] (gl (csF .f32) (List.replicate (IntKind.i64.wrap ((3 : Int) + (IntKind.i64.wrap ((4 : Int) * a0.Bones)))).toNat (default : F32)) i)) ∧ True ∧ True) (by kernel_rfl) ⟨trivial, trivial, trivial, trivial, trivial, trivial, ⟨c3.1, rfl, len_rep c3.1, rep_bytes c3.2, fun i hi => gl_zero (cs := (csF .f32)) (zs := [(.c (.flt .f32 (default : F32).bits))]) (n := (IntKind.i64.wrap ((3 : Int) + (IntKind.i64.wrap ((4 : Int) * a0.Bones)))).toNat) ⟨⟨rfl, trivial⟩, trivial⟩ i (rep_lt hi)⟩, trivial, trivial⟩ ?_
  refine thenQ_normal ?_
  refine AW.seq ?_
  refine AW.seq ?_
  refine AW.regionA [] [0, 3, 4, 5] [1] (s' := ⟨[(0, (.v (.one (.c (pl 2 cs_Recording a0))))), (3, (.v (.one (.c (.str v1))))), (4, (.v (.one (.arr 1)))), (5, (.v (.one (.c (.int .i64 (0 : Int))))))], [(1, (.arr false (List.replicate (IntKind.i64.wrap ((3 : Int) + (IntKind.i64.wrap ((4 : Int) * a0.Bones)))).toNat (default : F32)).length 1 (gl (csF .f32) (List.replicate (IntKind.i64.wrap ((3 : Int) + (IntKind.i64.wrap ((4 : Int) * a0.Bones)))).toNat (default : F32)))))]⟩) (ob := True ∧ True) (by kernel_rfl) ⟨trivial, trivial⟩ ?_
  refine thenQ_normal ?_
  refine AW.block ?_
  refine AW.loopQ (σ := Nat × ByteArray × Int × (List F32)) (fun p => ⟨[(0, (.v (.one (.c (pl 2 cs_Recording a0))))), (3, (.v (.one (.c (.str p.2.1))))), (4, (.v (.one (.arr 1)))), (5, (.v (.one (.c (.int .i64 p.2.2.1)))))], [(1, (.arr false p.2.2.2.length 1 (gl (csF .f32) p.2.2.2)))]⟩) (fun p => spec_l10Store_l1 K a0 p.1 p.2.1 p.2.2.1 p.2.2.2 = some o) (fun p => p.1) (K, v1, (0 : Int), (List.replicate (IntKind.i64.wrap ((3 : Int) + (IntKind.i64.wrap ((4 : Int) * a0.Bones)))).toNat (default : F32))) h ?_
  clear h
  rintro ⟨k, x7, x8, x9⟩ h
  replace h : spec_l10Store_l1 K a0 k x7 x8 x9 = some o := h
  show AW _ _ (⟨[(0, (.v (.one (.c (pl 2 cs_Recording a0))))), (3, (.v (.one (.c (.str x7))))), (4, (.v (.one (.arr 1)))), (5, (.v (.one (.c (.int .i64 x8)))))], [(1, (.arr false x9.length 1 (gl (csF .f32) x9)))]⟩ : St) _
  obtain _ | k := k
  · rw [spec_l10Store_l1] at h; cases h
  rw [spec_l10Store_l1] at h
  refine AW.seq ?_
  refine AW.seq ?_
  refine AW.regionA [] [0, 3, 4, 5, 25] [1] (s' := ⟨[(0, (.v (.one (.c (pl 2 cs_Recording a0))))), (3, (.v (.one (.c (.str x7))))), (4, (.v (.one (.arr 1)))), (5, (.v (.one (.c (.int .i64 x8))))), (25, (.v (.one (.c (.bool (decide (x8 < (a0.Frames.length : Int))))))))], [(1, (.arr false x9.length 1 (gl (csF .f32) x9)))]⟩) (ob := True ∧ True ∧ True ∧ True ∧ True ∧ True ∧ True ∧ True) (by kernel_rfl) ⟨trivial, trivial, trivial, trivial, trivial, trivial, trivial, trivial⟩ ?_
  refine thenQ_normal ?_
  rcases ite2_cases h with ⟨b10, h⟩ | ⟨b10, h⟩
  · refine AW.cond_t rfl b10 ?_
    refine AW.skip ?_
    refine thenQ_normal ?_
    refine AW.seq ?_
    refine AW.block ?_
    refine AW.seq ?_
    obtain ⟨c11, h⟩ := chk_some h
    obtain ⟨v12, e13, h⟩ := bind_some h
    refine AW.regionA [.no, .no, .no, .no, .no, .no, .call [.one (pl 4 cs_Pose (a0.Frames.getD x8.toNat default))] [.one (sl 1 (csF .f32) v12)] [[.arr 4]]] [0, 3, 4, 5, 6] [1, 4] (s' := ⟨[(0, (.v (.one (.c (pl 2 cs_Recording a0))))), (3, (.v (.one (.c (.str x7))))), (4, (.v (.one (.arr 1)))), (5, (.v (.one (.c (.int .i64 x8))))), (6, (.v (.one (.arr 4))))], [(1, (.arr false x9.length 1 (gl (csF .f32) x9))), (4, (.arr false v12.length 1 (gl (csF .f32) v12)))]⟩) (ob := True ∧ True ∧ True ∧ True ∧ True ∧ (0 ≤ x8 ∧ x8 < (a0.Frames.length : Int)) ∧ (((4 = 4 ∧ ∀ j, j < 4 → (cs_Pose (a0.Frames.getD x8.toNat default)).getD j .nilptr = (cs_Pose (a0.Frames.getD x8.toNat default)).getD j .nilptr) ∧ True) ∧ CallOK Try.prog 126 [.one (pl 4 cs_Pose (a0.Frames.getD x8.toNat default))] [.one (sl 1 (csF .f32) v12)]) ∧ True ∧ True) (by kernel_rfl) ⟨trivial, trivial, trivial, trivial, trivial, c11, ⟨⟨⟨rfl, fun j hj => rfl⟩, trivial⟩, ok_spec_l10Numbers K (a0.Frames.getD x8.toNat default) v12 e13⟩, trivial, trivial⟩ ?_
    refine thenQ_normal ?_
    refine AW.seq ?_
    obtain ⟨v14, e15, h⟩ := bind_some h
    obtain ⟨c16, h⟩ := chk_some h
    refine AW.regionA [.no, .no, .no, .no, .call [.one (.str x7), .one (sl 1 (csF .f32) x9), .one (sl 1 (csF .f32) v12)] [.one (.str v14)] [[.view]]] [0, 3, 5, 6] [4] (s' := ⟨[(0, (.v (.one (.c (pl 2 cs_Recording a0))))), (3, (.v (.one (.c (.str (x7 ++ v14)))))), (5, (.v (.one (.c (.int .i64 x8))))), (6, (.v (.one (.arr 4))))], [(4, (.arr false v12.length 1 (gl (csF .f32) v12)))]⟩) (ob := True ∧ True ∧ True ∧ True ∧ (((((.str x7) : C) = (.str x7)) ∧ (((sl 1 (csF .f32) x9) : C) = (sl 1 (csF .f32) x9)) ∧ (((sl 1 (csF .f32) v12) : C) = (sl 1 (csF .f32) v12)) ∧ True) ∧ CallOK Try.prog 127 [.one (.str x7), .one (sl 1 (csF .f32) x9), .one (sl 1 (csF .f32) v12)] [.one (.str v14)]) ∧ (((x7.size + v14.size : Nat) : Int) ≤ 9223372036854775807) ∧ True ∧ True) (by kernel_rfl) ⟨trivial, trivial, trivial, trivial, ⟨⟨rfl, rfl, rfl, trivial⟩, ok_spec_l10Record K x7 x9 v12 v14 e15⟩, c16, trivial, trivial⟩ ?_
    refine thenQ_normal ?_
    refine AW.regionA [] [0, 3, 4, 5] [4] (s' := ⟨[(0, (.v (.one (.c (pl 2 cs_Recording a0))))), (3, (.v (.one (.c (.str (x7 ++ v14)))))), (4, (.v (.one (.arr 4)))), (5, (.v (.one (.c (.int .i64 x8)))))], [(4, (.arr false v12.length 1 (gl (csF .f32) v12)))]⟩) (ob := True ∧ True ∧ True) (by kernel_rfl) ⟨trivial, trivial, trivial⟩ ?_
    refine blockQ_normal ?_
    refine thenQ_normal ?_
    refine AW.regionA [] [0, 3, 4, 5] [4] (s' := ⟨[(0, (.v (.one (.c (pl 2 cs_Recording a0))))), (3, (.v (.one (.c (.str (x7 ++ v14)))))), (4, (.v (.one (.arr 4)))), (5, (.v (.one (.c (.int .i64 (IntKind.i64.wrap (x8 + (1 : Int))))))))], [(4, (.arr false v12.length 1 (gl (csF .f32) v12)))]⟩) (ob := True ∧ True ∧ True ∧ True) (by kernel_rfl) ⟨trivial, trivial, trivial, trivial⟩ ?_
    exact loopQ_normal (k, (x7 ++ v14), (IntKind.i64.wrap (x8 + (1 : Int))), v12) h (Nat.lt_succ_self k) (Sub.trans (Sub.swap 1 4 _ (by kernel_rfl) (by kernel_rfl)) (Sub.keep [0, 3, 4, 5] [1] (by kernel_rfl) (by kernel_rfl)))
  · refine AW.cond_f rfl b10 ?_
    refine AW.exit ?_
    refine thenQ_exit ?_
    refine loopQ_exit ?_
    refine blockQ_exit ?_
    refine thenQ_normal ?_
    refine AW.seq ?_
    refine AW.regionA [] [2] [] (s' := ⟨[(2, (.v (.one (.c (.str x7)))))], []⟩) (ob := True ∧ True ∧ True) (by kernel_rfl) ⟨trivial, trivial, trivial⟩ ?_
    refine thenQ_normal ?_
    refine AW.ret ?_
    replace h := some_eq h
    subst h
    exact ⟨.inr rfl, retOK_of [(.one (.c (.str x7)))] (by kernel_rfl) ⟨⟨rfl, trivial⟩, trivial⟩ (of_decide_eq_true (by kernel_rfl))⟩

/-! spec.StoreRecording -/
def spec_StoreRecording (K : Nat) (a0 : Recording) : Option (ByteArray × Bool) :=
  (spec_l10Is K a0).bind fun v1 => ite2 ((!v1)) (some (ByteArray.empty, false)) ((spec_l10Store K a0).bind fun v4 => some (v4, true))

theorem ok_spec_StoreRecording (K : Nat) (a0 : Recording) (o : (ByteArray × Bool)) (h : spec_StoreRecording K a0 = some o) : CallOK Try.prog 30 [.agg (cs_Recording a0)] [.one (.str o.1), .one (.bool o.2)] := by
  refine callOK_of_AW Try.func30 rfl (by kernel_rfl) (Nat.le_of_ble_eq_true (by kernel_rfl)) ?_
  intro w0
  unfold spec_StoreRecording at h
  refine AW.seq ?_
  refine AW.regionA [.box 1] [1] [1] (s' := ⟨[(1, (.v (.one (.ptr 1 0))))], [(1, (.box [(.c (.int .i64 a0.Bones)), (.c (sl 4 cs_Pose a0.Frames))]))]⟩) (ob := True ∧ True ∧ True ∧ True) (by kernel_rfl) ⟨trivial, trivial, trivial, trivial⟩ ?_
  refine thenQ_normal ?_
  refine AW.seq ?_
  refine AW.seq ?_
  obtain ⟨v1, e2, h⟩ := bind_some h
  refine AW.regionA [.call [.one (pl 2 cs_Recording a0)] [.one (.bool v1)] [[.view]]] [1, 5] [1] (s' := ⟨[(1, (.v (.one (.ptr 1 0)))), (5, (.v (.one (.c (.bool (!v1))))))], [(1, (.box [(.c (.int .i64 a0.Bones)), (.c (sl 4 cs_Pose a0.Frames))]))]⟩) (ob := (((0 = 0 ∧ (((.int .i64 a0.Bones) : C) = (.int .i64 a0.Bones)) ∧ (((sl 4 cs_Pose a0.Frames) : C) = (sl 4 cs_Pose a0.Frames)) ∧ True) ∧ True) ∧ CallOK Try.prog 73 [.one (pl 2 cs_Recording a0)] [.one (.bool v1)]) ∧ True ∧ True) (by kernel_rfl) ⟨⟨⟨⟨rfl, rfl, rfl, trivial⟩, trivial⟩, ok_spec_l10Is K a0 v1 e2⟩, trivial, trivial⟩ ?_
  refine thenQ_normal ?_
  rcases ite2_cases h with ⟨b3, h⟩ | ⟨b3, h⟩
  · refine AW.cond_t rfl b3 ?_
    refine AW.seq ?_
    refine AW.regionA [] [2, 3] [] (s' := ⟨[(2, (.v (.one (.c (.str ByteArray.empty))))), (3, (.v (.one (.c (.bool false)))))], []⟩) (ob := True ∧ True ∧ True) (by kernel_rfl) ⟨trivial, trivial, trivial⟩ ?_
    refine thenQ_normal ?_
    refine AW.ret ?_
    refine thenQ_ret ?_
    replace h := some_eq h
    subst h
    exact ⟨.inr rfl, retOK_of [(.one (.c (.str ByteArray.empty))), (.one (.c (.bool false)))] (by kernel_rfl) ⟨⟨rfl, trivial⟩, ⟨rfl, trivial⟩, trivial⟩ (of_decide_eq_true (by kernel_rfl))⟩
  · refine AW.cond_f rfl b3 ?_
    refine AW.skip ?_
    refine thenQ_normal ?_
    refine AW.seq ?_
    obtain ⟨v4, e5, h⟩ := bind_some h
    refine AW.regionA [.call [.one (pl 2 cs_Recording a0)] [.one (.str v4)] [[.view]]] [2, 3] [] (s' := ⟨[(2, (.v (.one (.c (.str v4))))), (3, (.v (.one (.c (.bool true)))))], []⟩) (ob := (((0 = 0 ∧ (((.int .i64 a0.Bones) : C) = (.int .i64 a0.Bones)) ∧ (((sl 4 cs_Pose a0.Frames) : C) = (sl 4 cs_Pose a0.Frames)) ∧ True) ∧ True) ∧ CallOK Try.prog 81 [.one (pl 2 cs_Recording a0)] [.one (.str v4)]) ∧ True ∧ True ∧ True) (by kernel_rfl) ⟨⟨⟨⟨rfl, rfl, rfl, trivial⟩, trivial⟩, ok_spec_l10Store K a0 v4 e5⟩, trivial, trivial, trivial⟩ ?_
    refine thenQ_normal ?_
    refine AW.ret ?_
    replace h := some_eq h
    subst h
    exact ⟨.inr rfl, retOK_of [(.one (.c (.str v4))), (.one (.c (.bool true)))] (by kernel_rfl) ⟨⟨rfl, trivial⟩, ⟨rfl, trivial⟩, trivial⟩ (of_decide_eq_true (by kernel_rfl))⟩

/-! impl.isCount -/
def impl_isCount (_K : Nat) (a0 : Int) : Option (Bool) :=
  (ite2 ((decide (a0 ≥ (1 : Int)))) (some (decide (a0 ≤ (12 : Int)))) (some false)).bind fun j2 => some j2

theorem ok_impl_isCount (K : Nat) (a0 : Int) (o : (Bool)) (h : impl_isCount K a0 = some o) : CallOK Try.prog 94 [.one (.int .i64 a0)] [.one (.bool o)] := by
  refine callOK_of_AW Try.func94 rfl (by kernel_rfl) (Nat.le_of_ble_eq_true (by kernel_rfl)) ?_
  intro w0
  unfold impl_isCount at h
  refine AW.seq ?_
  refine AW.regionA [] [0] [] (s' := ⟨[(0, (.v (.one (.c (.int .i64 a0)))))], []⟩) (ob := True ∧ True) (by kernel_rfl) ⟨trivial, trivial⟩ ?_
  refine thenQ_normal ?_
  refine AW.seq ?_
  obtain ⟨j2, e3, h⟩ := bind_some h
  refine AW.join1 (s2 := ⟨[(2, (.v (.one (.c (.bool j2)))))], []⟩) ?_ ?_
  · rcases ite2_cases e3 with ⟨b1, e3⟩ | ⟨b1, e3⟩
    · replace e3 := some_eq e3
      subst e3
      exact AW.regionA [.no, .no, .dec true] [2] [] (s' := ⟨[(2, (.v (.one (.c (.bool (decide (a0 ≤ (12 : Int))))))))], []⟩) (ob := True ∧ True ∧ (True ∧ (decide (a0 ≥ (1 : Int))) = true) ∧ True ∧ True ∧ True ∧ True ∧ True) (by kernel_rfl) ⟨trivial, trivial, ⟨trivial, b1⟩, trivial, trivial, trivial, trivial, trivial⟩ ⟨rfl, rfl⟩
    · replace e3 := some_eq e3
      subst e3
      exact AW.regionA [.no, .no, .dec false] [2] [] (s' := ⟨[(2, (.v (.one (.c (.bool false)))))], []⟩) (ob := True ∧ True ∧ (True ∧ (decide (a0 ≥ (1 : Int))) = false) ∧ True ∧ True ∧ True ∧ True ∧ True) (by kernel_rfl) ⟨trivial, trivial, ⟨trivial, b1⟩, trivial, trivial, trivial, trivial, trivial⟩ ⟨rfl, rfl⟩
  refine thenQ_normal ?_
  refine AW.ret ?_
  replace h := some_eq h
  subst h
  exact ⟨.inr rfl, retOK_of [(.one (.c (.bool j2)))] (by kernel_rfl) ⟨⟨rfl, trivial⟩, trivial⟩ (of_decide_eq_true (by kernel_rfl))⟩

/-! impl.ValidRecording$1 -/
def impl_ValidRecording_1 (_K : Nat) (a0 : Pose) (a1 : Recording) : Option (Bool) :=
  some ((a0.Turns.length : Int) != a1.Bones)

theorem ok_impl_ValidRecording_1 (K : Nat) (a0 : Pose) (a1 : Recording) (o : (Bool)) (h : impl_ValidRecording_1 K a0 a1 = some o) : CallOK Try.prog 103 [.agg (cs_Pose a0), .one (pl 2 cs_Recording a1)] [.one (.bool o)] := by
  refine callOK_of_AW Try.func103 rfl (by kernel_rfl) (Nat.le_of_ble_eq_true (by kernel_rfl)) ?_
  intro w0
  unfold impl_ValidRecording_1 at h
  refine AW.seq ?_
  refine AW.regionA [.box 1] [1, 2] [1] (s' := ⟨[(1, (.v (.one (.c (pl 2 cs_Recording a1))))), (2, (.v (.one (.ptr 1 0))))], [(1, (.box [(.c (.flt .f32 a0.Root.X.bits)), (.c (.flt .f32 a0.Root.Y.bits)), (.c (.flt .f32 a0.Root.Z.bits)), (.c (sl 4 cs_Turn a0.Turns))]))]⟩) (ob := True ∧ True ∧ True) (by kernel_rfl) ⟨trivial, trivial, trivial⟩ ?_
  refine thenQ_normal ?_
  refine AW.seq ?_
  refine AW.regionA [] [3] [] (s' := ⟨[(3, (.v (.one (.c (.bool ((a0.Turns.length : Int) != a1.Bones))))))], []⟩) (ob := True ∧ True ∧ True ∧ True ∧ True ∧ True ∧ True ∧ True) (by kernel_rfl) ⟨trivial, trivial, trivial, trivial, trivial, trivial, trivial, trivial⟩ ?_
  refine thenQ_normal ?_
  refine AW.ret ?_
  replace h := some_eq h
  subst h
  exact ⟨.inr rfl, retOK_of [(.one (.c (.bool ((a0.Turns.length : Int) != a1.Bones))))] (by kernel_rfl) ⟨⟨rfl, trivial⟩, trivial⟩ (of_decide_eq_true (by kernel_rfl))⟩

/-! slices.IndexFunc[[]impl.Pose,impl.Pose] -/
def slices_IndexFunc_impl_Pose_impl_Pose_l1 (K : Nat) (a0 : (List Pose)) (a1_0_0 : Recording) : Nat → Int → Option (Int)
  | 0, _ => none
  | k + 1, x2 => ite2 ((decide (x2 < (a0.length : Int)))) (chk (0 ≤ x2 ∧ x2 < (a0.length : Int)) ((impl_ValidRecording_1 K (a0.getD x2.toNat default) a1_0_0).bind fun v5 => ite2 (v5) (some x2) (slices_IndexFunc_impl_Pose_impl_Pose_l1 K a0 a1_0_0 k (IntKind.i64.wrap (x2 + (1 : Int)))))) (some ((-1) : Int))

def slices_IndexFunc_impl_Pose_impl_Pose (K : Nat) (a0 : (List Pose)) (a1_0_0 : Recording) : Option (Int) :=
  slices_IndexFunc_impl_Pose_impl_Pose_l1 K a0 a1_0_0 K (0 : Int)

theorem ok_slices_IndexFunc_impl_Pose_impl_Pose (K : Nat) (a0 : (List Pose)) (a1_0_0 : Recording) (o : (Int)) (h : slices_IndexFunc_impl_Pose_impl_Pose K a0 a1_0_0 = some o) : CallOK Try.prog 144 [.one (sl 4 cs_Pose a0), .one (.fn 103 1 fun j => [(pl 2 cs_Recording a1_0_0)].getD j .nilptr)] [.one (.int .i64 o)] := by
  refine callOK_of_AW Try.func144 rfl (by kernel_rfl) (Nat.le_of_ble_eq_true (by kernel_rfl)) ?_
  intro w0
  unfold slices_IndexFunc_impl_Pose_impl_Pose at h
  refine AW.seq ?_
  refine AW.regionA [] [0, 1] [] (s' := ⟨[(0, (.v (.one (.c (sl 4 cs_Pose a0))))), (1, (.v (.one (.c (.fn 103 1 fun j => [(pl 2 cs_Recording a1_0_0)].getD j .nilptr)))))], []⟩) (ob := True ∧ True) (by kernel_rfl) ⟨trivial, trivial⟩ ?_
  refine thenQ_normal ?_
  refine AW.seq ?_
  refine AW.seq ?_
  refine AW.regionA [] [0, 1, 7, 8] [] (s' := ⟨[(0, (.v (.one (.c (sl 4 cs_Pose a0))))), (1, (.v (.one (.c (.fn 103 1 fun j => [(pl 2 cs_Recording a1_0_0)].getD j .nilptr))))), (7, (.v (.one (.c (.int .i64 (a0.length : Int)))))), (8, (.v (.one (.c (.int .i64 (0 : Int))))))], []⟩) (ob := True ∧ True ∧ True ∧ True) (by kernel_rfl) ⟨trivial, trivial, trivial, trivial⟩ ?_
  refine thenQ_normal ?_
  refine AW.block ?_
  refine AW.loopQ (σ := Nat × Int) (fun p => ⟨[(0, (.v (.one (.c (sl 4 cs_Pose a0))))), (1, (.v (.one (.c (.fn 103 1 fun j => [(pl 2 cs_Recording a1_0_0)].getD j .nilptr))))), (7, (.v (.one (.c (.int .i64 (a0.length : Int)))))), (8, (.v (.one (.c (.int .i64 p.2)))))], []⟩) (fun p => slices_IndexFunc_impl_Pose_impl_Pose_l1 K a0 a1_0_0 p.1 p.2 = some o) (fun p => p.1) (K, (0 : Int)) h ?_
  clear h
  rintro ⟨k, x2⟩ h
  replace h : slices_IndexFunc_impl_Pose_impl_Pose_l1 K a0 a1_0_0 k x2 = some o := h
  show AW _ _ (⟨[(0, (.v (.one (.c (sl 4 cs_Pose a0))))), (1, (.v (.one (.c (.fn 103 1 fun j => [(pl 2 cs_Recording a1_0_0)].getD j .nilptr))))), (7, (.v (.one (.c (.int .i64 (a0.length : Int)))))), (8, (.v (.one (.c (.int .i64 x2)))))], []⟩ : St) _
  obtain _ | k := k
  · rw [slices_IndexFunc_impl_Pose_impl_Pose_l1] at h; cases h
  rw [slices_IndexFunc_impl_Pose_impl_Pose_l1] at h
  refine AW.seq ?_
  refine AW.regionA [] [0, 1, 7, 8, 9] [] (s' := ⟨[(0, (.v (.one (.c (sl 4 cs_Pose a0))))), (1, (.v (.one (.c (.fn 103 1 fun j => [(pl 2 cs_Recording a1_0_0)].getD j .nilptr))))), (7, (.v (.one (.c (.int .i64 (a0.length : Int)))))), (8, (.v (.one (.c (.int .i64 x2))))), (9, (.v (.one (.c (.bool (decide (x2 < (a0.length : Int))))))))], []⟩) (ob := True ∧ True) (by kernel_rfl) ⟨trivial, trivial⟩ ?_
  refine thenQ_normal ?_
  refine AW.seq ?_
  rcases ite2_cases h with ⟨b3, h⟩ | ⟨b3, h⟩
  · refine AW.cond_t rfl b3 ?_
    refine AW.skip ?_
    refine thenQ_normal ?_
    refine AW.seq ?_
    refine AW.block ?_
    refine AW.seq ?_
    refine AW.regionA [] [0, 1, 5, 7, 8] [] (s' := ⟨[(0, (.v (.one (.c (sl 4 cs_Pose a0))))), (1, (.v (.one (.c (.fn 103 1 fun j => [(pl 2 cs_Recording a1_0_0)].getD j .nilptr))))), (5, (.v (.one (.c (.int .i64 x2))))), (7, (.v (.one (.c (.int .i64 (a0.length : Int)))))), (8, (.v (.one (.c (.int .i64 x2)))))], []⟩) (ob := True ∧ True ∧ True) (by kernel_rfl) ⟨trivial, trivial, trivial⟩ ?_
    refine thenQ_normal ?_
    refine AW.seq ?_
    obtain ⟨c4, h⟩ := chk_some h
    obtain ⟨v5, e6, h⟩ := bind_some h
    refine AW.regionA [.no, .no, .no, .no, .no, .call [.agg (cs_Pose (a0.getD x2.toNat default)), .one (pl 2 cs_Recording a1_0_0)] [.one (.bool v5)] [[.view]]] [0, 1, 5, 7, 8, 16] [] (s' := ⟨[(0, (.v (.one (.c (sl 4 cs_Pose a0))))), (1, (.v (.one (.c (.fn 103 1 fun j => [(pl 2 cs_Recording a1_0_0)].getD j .nilptr))))), (5, (.v (.one (.c (.int .i64 x2))))), (7, (.v (.one (.c (.int .i64 (a0.length : Int)))))), (8, (.v (.one (.c (.int .i64 x2))))), (16, (.v (.one (.c (.bool v5)))))], []⟩) (ob := True ∧ True ∧ True ∧ (0 ≤ x2 ∧ x2 < (a0.length : Int)) ∧ True ∧ ((((((.flt .f32 (((a0.getD x2.toNat default).Root).X).bits) : C) = (.flt .f32 (((a0.getD x2.toNat default).Root).X).bits)) ∧ (((.flt .f32 (((a0.getD x2.toNat default).Root).Y).bits) : C) = (.flt .f32 (((a0.getD x2.toNat default).Root).Y).bits)) ∧ (((.flt .f32 (((a0.getD x2.toNat default).Root).Z).bits) : C) = (.flt .f32 (((a0.getD x2.toNat default).Root).Z).bits)) ∧ (((sl 4 cs_Turn ((a0.getD x2.toNat default).Turns)) : C) = (sl 4 cs_Turn ((a0.getD x2.toNat default).Turns))) ∧ True) ∧ (2 = 2 ∧ ∀ j, j < 2 → (cs_Recording a1_0_0).getD j .nilptr = (cs_Recording a1_0_0).getD j .nilptr) ∧ True) ∧ CallOK Try.prog 103 [.agg (cs_Pose (a0.getD x2.toNat default)), .one (pl 2 cs_Recording a1_0_0)] [.one (.bool v5)]) ∧ True) (by kernel_rfl) ⟨trivial, trivial, trivial, c4, trivial, ⟨⟨⟨rfl, rfl, rfl, rfl, trivial⟩, ⟨rfl, fun j hj => rfl⟩, trivial⟩, ok_impl_ValidRecording_1 K (a0.getD x2.toNat default) a1_0_0 v5 e6⟩, trivial⟩ ?_
    refine thenQ_normal ?_
    rcases ite2_cases h with ⟨b7, h⟩ | ⟨b7, h⟩
    · refine AW.cond_t rfl b7 ?_
      refine AW.seq ?_
      refine AW.regionA [] [4] [] (s' := ⟨[(4, (.v (.one (.c (.int .i64 x2)))))], []⟩) (ob := True ∧ True ∧ True) (by kernel_rfl) ⟨trivial, trivial, trivial⟩ ?_
      refine thenQ_normal ?_
      refine AW.ret ?_
      refine blockQ_ret ?_
      refine thenQ_ret ?_
      refine loopQ_ret ?_
      refine blockQ_ret ?_
      refine thenQ_ret ?_
      replace h := some_eq h
      subst h
      exact ⟨.inr rfl, retOK_of [(.one (.c (.int .i64 x2)))] (by kernel_rfl) ⟨⟨rfl, trivial⟩, trivial⟩ (of_decide_eq_true (by kernel_rfl))⟩
    · refine AW.cond_f rfl b7 ?_
      refine AW.skip ?_
      refine blockQ_normal ?_
      refine thenQ_normal ?_
      refine AW.regionA [] [0, 1, 7, 8] [] (s' := ⟨[(0, (.v (.one (.c (sl 4 cs_Pose a0))))), (1, (.v (.one (.c (.fn 103 1 fun j => [(pl 2 cs_Recording a1_0_0)].getD j .nilptr))))), (7, (.v (.one (.c (.int .i64 (a0.length : Int)))))), (8, (.v (.one (.c (.int .i64 (IntKind.i64.wrap (x2 + (1 : Int))))))))], []⟩) (ob := True ∧ True ∧ True) (by kernel_rfl) ⟨trivial, trivial, trivial⟩ ?_
      exact loopQ_normal (k, (IntKind.i64.wrap (x2 + (1 : Int)))) h (Nat.lt_succ_self k) (Sub.keep [0, 1, 7, 8] [] (by kernel_rfl) (by kernel_rfl))
  · refine AW.cond_f rfl b3 ?_
    refine AW.exit ?_
    refine thenQ_exit ?_
    refine loopQ_exit ?_
    refine blockQ_exit ?_
    refine thenQ_normal ?_
    refine AW.seq ?_
    refine AW.regionA [] [4] [] (s' := ⟨[(4, (.v (.one (.c (.int .i64 ((-1) : Int))))))], []⟩) (ob := True ∧ True) (by kernel_rfl) ⟨trivial, trivial⟩ ?_
    refine thenQ_normal ?_
    refine AW.ret ?_
    replace h := some_eq h
    subst h
    exact ⟨.inr rfl, retOK_of [(.one (.c (.int .i64 ((-1) : Int))))] (by kernel_rfl) ⟨⟨rfl, trivial⟩, trivial⟩ (of_decide_eq_true (by kernel_rfl))⟩

/-! slices.ContainsFunc[[]impl.Pose,impl.Pose] -/
def slices_ContainsFunc_impl_Pose_impl_Pose (K : Nat) (a0 : (List Pose)) (a1_0_0 : Recording) : Option (Bool) :=
  (slices_IndexFunc_impl_Pose_impl_Pose K a0 a1_0_0).bind fun v1 => some (decide (v1 ≥ (0 : Int)))

theorem ok_slices_ContainsFunc_impl_Pose_impl_Pose (K : Nat) (a0 : (List Pose)) (a1_0_0 : Recording) (o : (Bool)) (h : slices_ContainsFunc_impl_Pose_impl_Pose K a0 a1_0_0 = some o) : CallOK Try.prog 102 [.one (sl 4 cs_Pose a0), .one (.fn 103 1 fun j => [(pl 2 cs_Recording a1_0_0)].getD j .nilptr)] [.one (.bool o)] := by
  refine callOK_of_AW Try.func102 rfl (by kernel_rfl) (Nat.le_of_ble_eq_true (by kernel_rfl)) ?_
  intro w0
  unfold slices_ContainsFunc_impl_Pose_impl_Pose at h
  refine AW.seq ?_
  refine AW.regionA [] [0, 1] [] (s' := ⟨[(0, (.v (.one (.c (sl 4 cs_Pose a0))))), (1, (.v (.one (.c (.fn 103 1 fun j => [(pl 2 cs_Recording a1_0_0)].getD j .nilptr)))))], []⟩) (ob := True ∧ True) (by kernel_rfl) ⟨trivial, trivial⟩ ?_
  refine thenQ_normal ?_
  refine AW.seq ?_
  obtain ⟨v1, e2, h⟩ := bind_some h
  refine AW.regionA [.no, .no, .call [.one (sl 4 cs_Pose a0), .one (.fn 103 1 fun j => [(pl 2 cs_Recording a1_0_0)].getD j .nilptr)] [.one (.int .i64 v1)] [[.view]]] [4] [] (s' := ⟨[(4, (.v (.one (.c (.bool (decide (v1 ≥ (0 : Int))))))))], []⟩) (ob := True ∧ True ∧ (((((sl 4 cs_Pose a0) : C) = (sl 4 cs_Pose a0)) ∧ (((.fn 103 1 fun j => [(pl 2 cs_Recording a1_0_0)].getD j .nilptr) : C) = (.fn 103 1 fun j => [(pl 2 cs_Recording a1_0_0)].getD j .nilptr)) ∧ True) ∧ CallOK Try.prog 144 [.one (sl 4 cs_Pose a0), .one (.fn 103 1 fun j => [(pl 2 cs_Recording a1_0_0)].getD j .nilptr)] [.one (.int .i64 v1)]) ∧ True ∧ True ∧ True) (by kernel_rfl) ⟨trivial, trivial, ⟨⟨rfl, rfl, trivial⟩, ok_slices_IndexFunc_impl_Pose_impl_Pose K a0 a1_0_0 v1 e2⟩, trivial, trivial, trivial⟩ ?_
  refine thenQ_normal ?_
  refine AW.ret ?_
  replace h := some_eq h
  subst h
  exact ⟨.inr rfl, retOK_of [(.one (.c (.bool (decide (v1 ≥ (0 : Int))))))] (by kernel_rfl) ⟨⟨rfl, trivial⟩, trivial⟩ (of_decide_eq_true (by kernel_rfl))⟩

/-! impl.ValidRecording -/
def impl_ValidRecording (K : Nat) (a0 : Recording) : Option (Bool) :=
  (impl_isCount K a0.Bones).bind fun v1 => (ite2 (v1) (ite2 ((decide ((a0.Frames.length : Int) ≤ (64 : Int)))) ((slices_ContainsFunc_impl_Pose_impl_Pose K a0.Frames a0).bind fun v5 => some (!v5)) (some false)) (some false)).bind fun j7 => some j7

theorem ok_impl_ValidRecording (K : Nat) (a0 : Recording) (o : (Bool)) (h : impl_ValidRecording K a0 = some o) : CallOK Try.prog 53 [.agg (cs_Recording a0)] [.one (.bool o)] := by
  refine callOK_of_AW Try.func53 rfl (by kernel_rfl) (Nat.le_of_ble_eq_true (by kernel_rfl)) ?_
  intro w0
  unfold impl_ValidRecording at h
  refine AW.seq ?_
  refine AW.regionA [.box 1] [1] [1] (s' := ⟨[(1, (.v (.one (.ptr 1 0))))], [(1, (.box [(.c (.int .i64 a0.Bones)), (.c (sl 4 cs_Pose a0.Frames))]))]⟩) (ob := True ∧ True ∧ True) (by kernel_rfl) ⟨trivial, trivial, trivial⟩ ?_
  refine thenQ_normal ?_
  refine AW.seq ?_
  obtain ⟨v1, e2, h⟩ := bind_some h
  obtain ⟨j7, e8, h⟩ := bind_some h
  refine AW.join1 (s2 := ⟨[(2, (.v (.one (.c (.bool j7)))))], []⟩) ?_ ?_
  · rcases ite2_cases e8 with ⟨b3, e8⟩ | ⟨b3, e8⟩
    · rcases ite2_cases e8 with ⟨b4, e8⟩ | ⟨b4, e8⟩
      · obtain ⟨v5, e6, e8⟩ := bind_some e8
        replace e8 := some_eq e8
        subst e8
        exact AW.regionA [.no, .no, .call [.one (.int .i64 a0.Bones)] [.one (.bool v1)] [[.view]], .dec true, .no, .no, .no, .no, .no, .dec true, .no, .no, .no, .call [.one (sl 4 cs_Pose a0.Frames), .one (.fn 103 1 fun j => [(pl 2 cs_Recording a0)].getD j .nilptr)] [.one (.bool v5)] [[.view]]] [2] [] (s' := ⟨[(2, (.v (.one (.c (.bool (!v5))))))], []⟩) (ob := True ∧ True ∧ (((((.int .i64 a0.Bones) : C) = (.int .i64 a0.Bones)) ∧ True) ∧ CallOK Try.prog 94 [.one (.int .i64 a0.Bones)] [.one (.bool v1)]) ∧ (True ∧ v1 = true) ∧ True ∧ True ∧ True ∧ True ∧ True ∧ (True ∧ (decide ((a0.Frames.length : Int) ≤ (64 : Int))) = true) ∧ True ∧ True ∧ True ∧ (((((sl 4 cs_Pose a0.Frames) : C) = (sl 4 cs_Pose a0.Frames)) ∧ (103 = 103 ∧ 1 = 1 ∧ ((((.int .i64 a0.Bones) : C) = (.int .i64 a0.Bones)) ∧ (((sl 4 cs_Pose a0.Frames) : C) = (sl 4 cs_Pose a0.Frames)) ∧ True) ∧ True) ∧ True) ∧ CallOK Try.prog 102 [.one (sl 4 cs_Pose a0.Frames), .one (.fn 103 1 fun j => [(pl 2 cs_Recording a0)].getD j .nilptr)] [.one (.bool v5)]) ∧ True ∧ True ∧ True ∧ True) (by kernel_rfl) ⟨trivial, trivial, ⟨⟨rfl, trivial⟩, ok_impl_isCount K a0.Bones v1 e2⟩, ⟨trivial, b3⟩, trivial, trivial, trivial, trivial, trivial, ⟨trivial, b4⟩, trivial, trivial, trivial, ⟨⟨rfl, ⟨rfl, rfl, ⟨⟨rfl, rfl, trivial⟩, trivial⟩⟩, trivial⟩, ok_slices_ContainsFunc_impl_Pose_impl_Pose K a0.Frames a0 v5 e6⟩, trivial, trivial, trivial, trivial⟩ ⟨rfl, rfl⟩
      · replace e8 := some_eq e8
        subst e8
        exact AW.regionA [.no, .no, .call [.one (.int .i64 a0.Bones)] [.one (.bool v1)] [[.view]], .dec true, .no, .no, .no, .no, .no, .dec false] [2] [] (s' := ⟨[(2, (.v (.one (.c (.bool false)))))], []⟩) (ob := True ∧ True ∧ (((((.int .i64 a0.Bones) : C) = (.int .i64 a0.Bones)) ∧ True) ∧ CallOK Try.prog 94 [.one (.int .i64 a0.Bones)] [.one (.bool v1)]) ∧ (True ∧ v1 = true) ∧ True ∧ True ∧ True ∧ True ∧ True ∧ (True ∧ (decide ((a0.Frames.length : Int) ≤ (64 : Int))) = false) ∧ True ∧ True ∧ True ∧ True ∧ True ∧ True ∧ True ∧ True) (by kernel_rfl) ⟨trivial, trivial, ⟨⟨rfl, trivial⟩, ok_impl_isCount K a0.Bones v1 e2⟩, ⟨trivial, b3⟩, trivial, trivial, trivial, trivial, trivial, ⟨trivial, b4⟩, trivial, trivial, trivial, trivial, trivial, trivial, trivial, trivial⟩ ⟨rfl, rfl⟩
    · replace e8 := some_eq e8
      subst e8
      exact AW.regionA [.no, .no, .call [.one (.int .i64 a0.Bones)] [.one (.bool v1)] [[.view]], .dec false] [2] [] (s' := ⟨[(2, (.v (.one (.c (.bool false)))))], []⟩) (ob := True ∧ True ∧ (((((.int .i64 a0.Bones) : C) = (.int .i64 a0.Bones)) ∧ True) ∧ CallOK Try.prog 94 [.one (.int .i64 a0.Bones)] [.one (.bool v1)]) ∧ (True ∧ v1 = false) ∧ True ∧ True ∧ True ∧ True ∧ True ∧ True ∧ True ∧ True ∧ True ∧ True ∧ True ∧ True ∧ True ∧ True) (by kernel_rfl) ⟨trivial, trivial, ⟨⟨rfl, trivial⟩, ok_impl_isCount K a0.Bones v1 e2⟩, ⟨trivial, b3⟩, trivial, trivial, trivial, trivial, trivial, trivial, trivial, trivial, trivial, trivial, trivial, trivial, trivial, trivial⟩ ⟨rfl, rfl⟩
  refine thenQ_normal ?_
  refine AW.ret ?_
  replace h := some_eq h
  subst h
  exact ⟨.inr rfl, retOK_of [(.one (.c (.bool j7)))] (by kernel_rfl) ⟨⟨rfl, trivial⟩, trivial⟩ (of_decide_eq_true (by kernel_rfl))⟩

/-! impl.header -/
def impl_header (_K : Nat) (a0 : Int) : Option ((List Int)) :=
  chk (0 < ([(83 : Int), (75 : Int), (82 : Int), (49 : Int)]).length) (chk ((([(83 : Int), (75 : Int), (82 : Int), (49 : Int)]).length + ([(IntKind.u8.wrap a0)]).length) * 1 ≤ 140737488355328) (some (([(83 : Int), (75 : Int), (82 : Int), (49 : Int)]) ++ ([(IntKind.u8.wrap a0)]))))

theorem ok_impl_header (K : Nat) (a0 : Int) (o : ((List Int))) (h : impl_header K a0 = some o) : CallOK Try.prog 82 [.one (.int .i64 a0)] [.one (sl 1 (csI .u8) o)] := by
  refine callOK_of_AW Try.func82 rfl (by kernel_rfl) (Nat.le_of_ble_eq_true (by kernel_rfl)) ?_
  intro w0
  unfold impl_header at h
  refine AW.seq ?_
  refine AW.regionA [] [0] [] (s' := ⟨[(0, (.v (.one (.c (.int .i64 a0)))))], []⟩) (ob := True ∧ True) (by kernel_rfl) ⟨trivial, trivial⟩ ?_
  refine thenQ_normal ?_
  refine AW.seq ?_
  obtain ⟨c1, h⟩ := chk_some h
  obtain ⟨c2, h⟩ := chk_some h
  refine AW.regionA [.obj 1 ([(83 : Int), (75 : Int), (82 : Int), (49 : Int)]).length (gl (csI .u8) ([(83 : Int), (75 : Int), (82 : Int), (49 : Int)])), .obj 2 ([(83 : Int), (75 : Int), (82 : Int), (49 : Int)]).length (gl (csI .u8) ([(83 : Int), (75 : Int), (82 : Int), (49 : Int)])), .no, .no, .obj 3 ([(IntKind.u8.wrap a0)]).length (gl (csI .u8) ([(IntKind.u8.wrap a0)])), .obj 4 (([(83 : Int), (75 : Int), (82 : Int), (49 : Int)]) ++ ([(IntKind.u8.wrap a0)])).length (gl (csI .u8) (([(83 : Int), (75 : Int), (82 : Int), (49 : Int)]) ++ ([(IntKind.u8.wrap a0)])))] [2] [4] (s' := ⟨[(2, (.v (.one (.lst 4 (([(83 : Int), (75 : Int), (82 : Int), (49 : Int)]) ++ ([(IntKind.u8.wrap a0)])).length 1 (gl (csI .u8) (([(83 : Int), (75 : Int), (82 : Int), (49 : Int)]) ++ ([(IntKind.u8.wrap a0)])))))))], [(4, (.lst (([(83 : Int), (75 : Int), (82 : Int), (49 : Int)]) ++ ([(IntKind.u8.wrap a0)])).length 1 (gl (csI .u8) (([(83 : Int), (75 : Int), (82 : Int), (49 : Int)]) ++ ([(IntKind.u8.wrap a0)])))))]⟩) (ob := (([(83 : Int), (75 : Int), (82 : Int), (49 : Int)]).length = 4 ∧ (((.int .u8 (83 : Int)) : C) = (.int .u8 (83 : Int)) ∧ True) ∧ (((.int .u8 (75 : Int)) : C) = (.int .u8 (75 : Int)) ∧ True) ∧ (((.int .u8 (82 : Int)) : C) = (.int .u8 (82 : Int)) ∧ True) ∧ (((.int .u8 (49 : Int)) : C) = (.int .u8 (49 : Int)) ∧ True) ∧ True) ∧ (0 < ([(83 : Int), (75 : Int), (82 : Int), (49 : Int)]).length ∧ ([(83 : Int), (75 : Int), (82 : Int), (49 : Int)]).length = ([(83 : Int), (75 : Int), (82 : Int), (49 : Int)]).length ∧ ∀ j, j < ([(83 : Int), (75 : Int), (82 : Int), (49 : Int)]).length → gl (csI .u8) ([(83 : Int), (75 : Int), (82 : Int), (49 : Int)]) j 0 = gl (csI .u8) ([(83 : Int), (75 : Int), (82 : Int), (49 : Int)]) j 0) ∧ True ∧ True ∧ (([(IntKind.u8.wrap a0)]).length = 1 ∧ (((.int .u8 (IntKind.u8.wrap a0)) : C) = (.int .u8 (IntKind.u8.wrap a0)) ∧ True) ∧ True) ∧ ((([(83 : Int), (75 : Int), (82 : Int), (49 : Int)]) ++ ([(IntKind.u8.wrap a0)])).length = ([(83 : Int), (75 : Int), (82 : Int), (49 : Int)]).length + ([(IntKind.u8.wrap a0)]).length ∧ AppOb (([(83 : Int), (75 : Int), (82 : Int), (49 : Int)]).length) (([(IntKind.u8.wrap a0)]).length) 1 (gl (csI .u8) ([(83 : Int), (75 : Int), (82 : Int), (49 : Int)])) (gl (csI .u8) ([(IntKind.u8.wrap a0)])) (gl (csI .u8) (([(83 : Int), (75 : Int), (82 : Int), (49 : Int)]) ++ ([(IntKind.u8.wrap a0)]))) ∧ True ∧ (([(83 : Int), (75 : Int), (82 : Int), (49 : Int)]).length + ([(IntKind.u8.wrap a0)]).length) * 1 ≤ 140737488355328) ∧ True ∧ True) (by kernel_rfl) ⟨⟨rfl, ⟨⟨rfl, trivial⟩, ⟨rfl, trivial⟩, ⟨rfl, trivial⟩, ⟨rfl, trivial⟩, trivial⟩⟩, ⟨c1, rfl, fun _ _ => rfl⟩, trivial, trivial, ⟨rfl, ⟨⟨rfl, trivial⟩, trivial⟩⟩, ⟨List.length_append, gl_append, trivial, c2⟩, trivial, trivial⟩ ?_
  refine thenQ_normal ?_
  refine AW.ret ?_
  replace h := some_eq h
  subst h
  exact ⟨.inr rfl, retOK_of [(.one (.lst 4 (([(83 : Int), (75 : Int), (82 : Int), (49 : Int)]) ++ ([(IntKind.u8.wrap a0)])).length 1 (gl (csI .u8) (([(83 : Int), (75 : Int), (82 : Int), (49 : Int)]) ++ ([(IntKind.u8.wrap a0)])))))] (by kernel_rfl) ⟨rfl, trivial⟩ (of_decide_eq_true (by kernel_rfl))⟩

/-! impl.none -/
def impl_none (_K : Nat) (a0 : Int) : Option ((List F32)) :=
  chk (0 ≤ (IntKind.i64.wrap ((3 : Int) + (IntKind.i64.wrap ((4 : Int) * a0)))) ∧ (IntKind.i64.wrap ((3 : Int) + (IntKind.i64.wrap ((4 : Int) * a0)))).toNat * 4 ≤ 140737488355328) (some (List.replicate (IntKind.i64.wrap ((3 : Int) + (IntKind.i64.wrap ((4 : Int) * a0)))).toNat (default : F32)))

theorem ok_impl_none (K : Nat) (a0 : Int) (o : ((List F32))) (h : impl_none K a0 = some o) : CallOK Try.prog 83 [.one (.int .i64 a0)] [.one (sl 1 (csF .f32) o)] := by
  refine callOK_of_AW Try.func83 rfl (by kernel_rfl) (Nat.le_of_ble_eq_true (by kernel_rfl)) ?_
  intro w0
  unfold impl_none at h
  refine AW.seq ?_
  refine AW.regionA [] [0] [] (s' := ⟨[(0, (.v (.one (.c (.int .i64 a0)))))], []⟩) (ob := True ∧ True) (by kernel_rfl) ⟨trivial, trivial⟩ ?_
  refine thenQ_normal ?_
  refine AW.seq ?_
  obtain ⟨c1, h⟩ := chk_some h
  refine AW.regionA [.no, .no, .no, .objA 1 (List.replicate (IntKind.i64.wrap ((3 : Int) + (IntKind.i64.wrap ((4 : Int) * a0)))).toNat (default : F32)).length (gl (csF .f32) (List.replicate (IntKind.i64.wrap ((3 : Int) + (IntKind.i64.wrap ((4 : Int) * a0)))).toNat (default : F32)))] [2] [1] (s' := ⟨[(2, (.v (.one (.arr 1))))], [(1, (.arr false (List.replicate (IntKind.i64.wrap ((3 : Int) + (IntKind.i64.wrap ((4 : Int) * a0)))).toNat (default : F32)).length 1 (gl (csF .f32) (List.replicate (IntKind.i64.wrap ((3 : Int) + (IntKind.i64.wrap ((4 : Int) * a0)))).toNat (default : F32)))))]⟩) (ob := True ∧ True ∧ True ∧ (0 ≤ (IntKind.i64.wrap ((3 : Int) + (IntKind.i64.wrap ((4 : Int) * a0)))) ∧ (IntKind.i64.wrap ((3 : Int) + (IntKind.i64.wrap ((4 : Int) * a0)))) = (IntKind.i64.wrap ((3 : Int) + (IntKind.i64.wrap ((4 : Int) * a0)))) ∧ (((List.replicate (IntKind.i64.wrap ((3 : Int) + (IntKind.i64.wrap ((4 : Int) * a0)))).toNat (default : F32)).length : Nat) : Int) = (IntKind.i64.wrap ((3 : Int) + (IntKind.i64.wrap ((4 : Int) * a0)))) ∧ (List.replicate (IntKind.i64.wrap ((3 : Int) + (IntKind.i64.wrap ((4 : Int) * a0)))).toNat (default : F32)).length * 4 ≤ 140737488355328 ∧ ∀ i, i < (List.replicate (IntKind.i64.wrap ((3 : Int) + (IntKind.i64.wrap ((4 : Int) * a0)))).toNat (default : F32)).length → zeroRow (fun _ => none) [(.c (.flt .f32 (default : F32).bits))] (gl (csF .f32) (List.replicate (IntKind.i64.wrap ((3 : Int) + (IntKind.i64.wrap ((4 : Int) * a0)))).toNat (default : F32)) i)) ∧ True ∧ True) (by kernel_rfl) ⟨trivial, trivial, trivial, ⟨c1.1, rfl, len_rep c1.1, rep_bytes c1.2, fun i hi => gl_zero (cs := (csF .f32)) (zs := [(.c (.flt .f32 (default : F32).bits))]) (n := (IntKind.i64.wrap ((3 : Int) + (IntKind.i64.wrap ((4 : Int) * a0)))).toNat) ⟨⟨rfl, trivial⟩, trivial⟩ i (rep_lt hi)⟩, trivial, trivial⟩ ?_
  refine thenQ_normal ?_
  refine AW.ret ?_
  replace h := some_eq h
  subst h
  exact ⟨.inr rfl, retOK_of [(.one (.arr 1))] (by kernel_rfl) ⟨rfl, trivial⟩ (of_decide_eq_true (by kernel_rfl))⟩

/-! impl.listed -/
def impl_listed_l1 (K : Nat) (a0 : Pose) : Nat → Int → (List F32) → Option ((List F32))
  | 0, _, _ => none
  | k + 1, x3, x4 => ite2 ((decide (x3 < (a0.Turns.length : Int)))) (chk (0 ≤ x3 ∧ x3 < (a0.Turns.length : Int)) (chk ((x4.length + ([(a0.Turns.getD x3.toNat default).W, (a0.Turns.getD x3.toNat default).X, (a0.Turns.getD x3.toNat default).Y, (a0.Turns.getD x3.toNat default).Z]).length) * 4 ≤ 140737488355328) (impl_listed_l1 K a0 k (IntKind.i64.wrap (x3 + (1 : Int))) (x4 ++ ([(a0.Turns.getD x3.toNat default).W, (a0.Turns.getD x3.toNat default).X, (a0.Turns.getD x3.toNat default).Y, (a0.Turns.getD x3.toNat default).Z]))))) (some x4)

def impl_listed (K : Nat) (a0 : Pose) : Option ((List F32)) :=
  impl_listed_l1 K a0 K (0 : Int) ([a0.Root.X, a0.Root.Y, a0.Root.Z])

theorem ok_impl_listed (K : Nat) (a0 : Pose) (o : ((List F32))) (h : impl_listed K a0 = some o) : CallOK Try.prog 84 [.agg (cs_Pose a0)] [.one (sl 1 (csF .f32) o)] := by
  refine callOK_of_AW Try.func84 rfl (by kernel_rfl) (Nat.le_of_ble_eq_true (by kernel_rfl)) ?_
  intro w0
  unfold impl_listed at h
  refine AW.seq ?_
  refine AW.regionA [.box 1] [1] [1] (s' := ⟨[(1, (.v (.one (.ptr 1 0))))], [(1, (.box [(.c (.flt .f32 a0.Root.X.bits)), (.c (.flt .f32 a0.Root.Y.bits)), (.c (.flt .f32 a0.Root.Z.bits)), (.c (sl 4 cs_Turn a0.Turns))]))]⟩) (ob := True ∧ True ∧ True) (by kernel_rfl) ⟨trivial, trivial, trivial⟩ ?_
  refine thenQ_normal ?_
  refine AW.seq ?_
  refine AW.regionA [.no, .no, .no, .no, .no, .no, .no, .no, .no, .obj 2 ([a0.Root.X, a0.Root.Y, a0.Root.Z]).length (gl (csF .f32) ([a0.Root.X, a0.Root.Y, a0.Root.Z]))] [1, 3] [1, 2] (s' := ⟨[(1, (.v (.one (.ptr 1 0)))), (3, (.v (.one (.lst 2 ([a0.Root.X, a0.Root.Y, a0.Root.Z]).length 1 (gl (csF .f32) ([a0.Root.X, a0.Root.Y, a0.Root.Z]))))))], [(1, (.box [(.c (.flt .f32 a0.Root.X.bits)), (.c (.flt .f32 a0.Root.Y.bits)), (.c (.flt .f32 a0.Root.Z.bits)), (.c (sl 4 cs_Turn a0.Turns))])), (2, (.lst ([a0.Root.X, a0.Root.Y, a0.Root.Z]).length 1 (gl (csF .f32) ([a0.Root.X, a0.Root.Y, a0.Root.Z]))))]⟩) (ob := True ∧ True ∧ True ∧ True ∧ True ∧ True ∧ True ∧ True ∧ True ∧ (([a0.Root.X, a0.Root.Y, a0.Root.Z]).length = 3 ∧ (((.flt .f32 a0.Root.X.bits) : C) = (.flt .f32 a0.Root.X.bits) ∧ True) ∧ (((.flt .f32 a0.Root.Y.bits) : C) = (.flt .f32 a0.Root.Y.bits) ∧ True) ∧ (((.flt .f32 a0.Root.Z.bits) : C) = (.flt .f32 a0.Root.Z.bits) ∧ True) ∧ True) ∧ True ∧ True) (by kernel_rfl) ⟨trivial, trivial, trivial, trivial, trivial, trivial, trivial, trivial, trivial, ⟨rfl, ⟨⟨rfl, trivial⟩, ⟨rfl, trivial⟩, ⟨rfl, trivial⟩, trivial⟩⟩, trivial, trivial⟩ ?_
  refine thenQ_normal ?_
  refine AW.seq ?_
  refine AW.seq ?_
  refine AW.regionA [] [3, 17, 18, 19] [2] (s' := ⟨[(3, (.v (.one (.lst 2 ([a0.Root.X, a0.Root.Y, a0.Root.Z]).length 1 (gl (csF .f32) ([a0.Root.X, a0.Root.Y, a0.Root.Z])))))), (17, (.v (.one (.c (sl 4 cs_Turn a0.Turns))))), (18, (.v (.one (.c (.int .i64 (a0.Turns.length : Int)))))), (19, (.v (.one (.c (.int .i64 (0 : Int))))))], [(2, (.lst ([a0.Root.X, a0.Root.Y, a0.Root.Z]).length 1 (gl (csF .f32) ([a0.Root.X, a0.Root.Y, a0.Root.Z]))))]⟩) (ob := True ∧ True ∧ True ∧ True ∧ True) (by kernel_rfl) ⟨trivial, trivial, trivial, trivial, trivial⟩ ?_
  refine thenQ_normal ?_
  refine AW.block ?_
  refine AW.loopQ (σ := Nat × Int × (List F32)) (fun p => ⟨[(3, (.v (.one (.lst 2 p.2.2.length 1 (gl (csF .f32) p.2.2))))), (17, (.v (.one (.c (sl 4 cs_Turn a0.Turns))))), (18, (.v (.one (.c (.int .i64 (a0.Turns.length : Int)))))), (19, (.v (.one (.c (.int .i64 p.2.1)))))], [(2, (.lst p.2.2.length 1 (gl (csF .f32) p.2.2)))]⟩) (fun p => impl_listed_l1 K a0 p.1 p.2.1 p.2.2 = some o) (fun p => p.1) (K, (0 : Int), [a0.Root.X, a0.Root.Y, a0.Root.Z]) h ?_
  clear h
  rintro ⟨k, x3, x4⟩ h
  replace h : impl_listed_l1 K a0 k x3 x4 = some o := h
  show AW _ _ (⟨[(3, (.v (.one (.lst 2 x4.length 1 (gl (csF .f32) x4))))), (17, (.v (.one (.c (sl 4 cs_Turn a0.Turns))))), (18, (.v (.one (.c (.int .i64 (a0.Turns.length : Int)))))), (19, (.v (.one (.c (.int .i64 x3)))))], [(2, (.lst x4.length 1 (gl (csF .f32) x4)))]⟩ : St) _
  obtain _ | k := k
  · rw [impl_listed_l1] at h; cases h
  rw [impl_listed_l1] at h
  refine AW.seq ?_
  refine AW.regionA [] [3, 17, 18, 19, 20] [2] (s' := ⟨[(3, (.v (.one (.lst 2 x4.length 1 (gl (csF .f32) x4))))), (17, (.v (.one (.c (sl 4 cs_Turn a0.Turns))))), (18, (.v (.one (.c (.int .i64 (a0.Turns.length : Int)))))), (19, (.v (.one (.c (.int .i64 x3))))), (20, (.v (.one (.c (.bool (decide (x3 < (a0.Turns.length : Int))))))))], [(2, (.lst x4.length 1 (gl (csF .f32) x4)))]⟩) (ob := True ∧ True) (by kernel_rfl) ⟨trivial, trivial⟩ ?_
  refine thenQ_normal ?_
  refine AW.seq ?_
  rcases ite2_cases h with ⟨b5, h⟩ | ⟨b5, h⟩
  · refine AW.cond_t rfl b5 ?_
    refine AW.skip ?_
    refine thenQ_normal ?_
    refine AW.seq ?_
    refine AW.block ?_
    refine AW.seq ?_
    obtain ⟨c6, h⟩ := chk_some h
    refine AW.regionA [.no, .no, .box 9] [3, 5, 17, 18, 19] [2, 9] (s' := ⟨[(3, (.v (.one (.lst 2 x4.length 1 (gl (csF .f32) x4))))), (5, (.v (.one (.ptr 9 0)))), (17, (.v (.one (.c (sl 4 cs_Turn a0.Turns))))), (18, (.v (.one (.c (.int .i64 (a0.Turns.length : Int)))))), (19, (.v (.one (.c (.int .i64 x3)))))], [(2, (.lst x4.length 1 (gl (csF .f32) x4))), (9, (.box [(.c (.flt .f32 ((a0.Turns.getD x3.toNat default).W).bits)), (.c (.flt .f32 ((a0.Turns.getD x3.toNat default).X).bits)), (.c (.flt .f32 ((a0.Turns.getD x3.toNat default).Y).bits)), (.c (.flt .f32 ((a0.Turns.getD x3.toNat default).Z).bits))]))]⟩) (ob := (0 ≤ x3 ∧ x3 < (a0.Turns.length : Int)) ∧ True ∧ True ∧ True ∧ True) (by kernel_rfl) ⟨c6, trivial, trivial, trivial, trivial⟩ ?_
    refine thenQ_normal ?_
    obtain ⟨c7, h⟩ := chk_some h
    refine AW.regionA [.no, .no, .no, .no, .no, .no, .no, .no, .no, .obj 10 ([(a0.Turns.getD x3.toNat default).W, (a0.Turns.getD x3.toNat default).X, (a0.Turns.getD x3.toNat default).Y, (a0.Turns.getD x3.toNat default).Z]).length (gl (csF .f32) ([(a0.Turns.getD x3.toNat default).W, (a0.Turns.getD x3.toNat default).X, (a0.Turns.getD x3.toNat default).Y, (a0.Turns.getD x3.toNat default).Z])), .obj 11 (x4 ++ ([(a0.Turns.getD x3.toNat default).W, (a0.Turns.getD x3.toNat default).X, (a0.Turns.getD x3.toNat default).Y, (a0.Turns.getD x3.toNat default).Z])).length (gl (csF .f32) (x4 ++ ([(a0.Turns.getD x3.toNat default).W, (a0.Turns.getD x3.toNat default).X, (a0.Turns.getD x3.toNat default).Y, (a0.Turns.getD x3.toNat default).Z])))] [3, 17, 18, 19] [11] (s' := ⟨[(3, (.v (.one (.lst 11 (x4 ++ ([(a0.Turns.getD x3.toNat default).W, (a0.Turns.getD x3.toNat default).X, (a0.Turns.getD x3.toNat default).Y, (a0.Turns.getD x3.toNat default).Z])).length 1 (gl (csF .f32) (x4 ++ ([(a0.Turns.getD x3.toNat default).W, (a0.Turns.getD x3.toNat default).X, (a0.Turns.getD x3.toNat default).Y, (a0.Turns.getD x3.toNat default).Z]))))))), (17, (.v (.one (.c (sl 4 cs_Turn a0.Turns))))), (18, (.v (.one (.c (.int .i64 (a0.Turns.length : Int)))))), (19, (.v (.one (.c (.int .i64 x3)))))], [(11, (.lst (x4 ++ ([(a0.Turns.getD x3.toNat default).W, (a0.Turns.getD x3.toNat default).X, (a0.Turns.getD x3.toNat default).Y, (a0.Turns.getD x3.toNat default).Z])).length 1 (gl (csF .f32) (x4 ++ ([(a0.Turns.getD x3.toNat default).W, (a0.Turns.getD x3.toNat default).X, (a0.Turns.getD x3.toNat default).Y, (a0.Turns.getD x3.toNat default).Z])))))]⟩) (ob := True ∧ True ∧ True ∧ True ∧ True ∧ True ∧ True ∧ True ∧ True ∧ (([(a0.Turns.getD x3.toNat default).W, (a0.Turns.getD x3.toNat default).X, (a0.Turns.getD x3.toNat default).Y, (a0.Turns.getD x3.toNat default).Z]).length = 4 ∧ (((.flt .f32 ((a0.Turns.getD x3.toNat default).W).bits) : C) = (.flt .f32 ((a0.Turns.getD x3.toNat default).W).bits) ∧ True) ∧ (((.flt .f32 ((a0.Turns.getD x3.toNat default).X).bits) : C) = (.flt .f32 ((a0.Turns.getD x3.toNat default).X).bits) ∧ True) ∧ (((.flt .f32 ((a0.Turns.getD x3.toNat default).Y).bits) : C) = (.flt .f32 ((a0.Turns.getD x3.toNat default).Y).bits) ∧ True) ∧ (((.flt .f32 ((a0.Turns.getD x3.toNat default).Z).bits) : C) = (.flt .f32 ((a0.Turns.getD x3.toNat default).Z).bits) ∧ True) ∧ True) ∧ ((x4 ++ ([(a0.Turns.getD x3.toNat default).W, (a0.Turns.getD x3.toNat default).X, (a0.Turns.getD x3.toNat default).Y, (a0.Turns.getD x3.toNat default).Z])).length = x4.length + ([(a0.Turns.getD x3.toNat default).W, (a0.Turns.getD x3.toNat default).X, (a0.Turns.getD x3.toNat default).Y, (a0.Turns.getD x3.toNat default).Z]).length ∧ AppOb (x4.length) (([(a0.Turns.getD x3.toNat default).W, (a0.Turns.getD x3.toNat default).X, (a0.Turns.getD x3.toNat default).Y, (a0.Turns.getD x3.toNat default).Z]).length) 1 (gl (csF .f32) x4) (gl (csF .f32) ([(a0.Turns.getD x3.toNat default).W, (a0.Turns.getD x3.toNat default).X, (a0.Turns.getD x3.toNat default).Y, (a0.Turns.getD x3.toNat default).Z])) (gl (csF .f32) (x4 ++ ([(a0.Turns.getD x3.toNat default).W, (a0.Turns.getD x3.toNat default).X, (a0.Turns.getD x3.toNat default).Y, (a0.Turns.getD x3.toNat default).Z]))) ∧ True ∧ (x4.length + ([(a0.Turns.getD x3.toNat default).W, (a0.Turns.getD x3.toNat default).X, (a0.Turns.getD x3.toNat default).Y, (a0.Turns.getD x3.toNat default).Z]).length) * 4 ≤ 140737488355328) ∧ True ∧ True) (by kernel_rfl) ⟨trivial, trivial, trivial, trivial, trivial, trivial, trivial, trivial, trivial, ⟨rfl, ⟨⟨rfl, trivial⟩, ⟨rfl, trivial⟩, ⟨rfl, trivial⟩, ⟨rfl, trivial⟩, trivial⟩⟩, ⟨List.length_append, gl_append, trivial, c7⟩, trivial, trivial⟩ ?_
    refine blockQ_normal ?_
    refine thenQ_normal ?_
    refine AW.regionA [] [3, 17, 18, 19] [11] (s' := ⟨[(3, (.v (.one (.lst 11 (x4 ++ ([(a0.Turns.getD x3.toNat default).W, (a0.Turns.getD x3.toNat default).X, (a0.Turns.getD x3.toNat default).Y, (a0.Turns.getD x3.toNat default).Z])).length 1 (gl (csF .f32) (x4 ++ ([(a0.Turns.getD x3.toNat default).W, (a0.Turns.getD x3.toNat default).X, (a0.Turns.getD x3.toNat default).Y, (a0.Turns.getD x3.toNat default).Z]))))))), (17, (.v (.one (.c (sl 4 cs_Turn a0.Turns))))), (18, (.v (.one (.c (.int .i64 (a0.Turns.length : Int)))))), (19, (.v (.one (.c (.int .i64 (IntKind.i64.wrap (x3 + (1 : Int))))))))], [(11, (.lst (x4 ++ ([(a0.Turns.getD x3.toNat default).W, (a0.Turns.getD x3.toNat default).X, (a0.Turns.getD x3.toNat default).Y, (a0.Turns.getD x3.toNat default).Z])).length 1 (gl (csF .f32) (x4 ++ ([(a0.Turns.getD x3.toNat default).W, (a0.Turns.getD x3.toNat default).X, (a0.Turns.getD x3.toNat default).Y, (a0.Turns.getD x3.toNat default).Z])))))]⟩) (ob := True ∧ True ∧ True) (by kernel_rfl) ⟨trivial, trivial, trivial⟩ ?_
    exact loopQ_normal (k, (IntKind.i64.wrap (x3 + (1 : Int))), (x4 ++ ([(a0.Turns.getD x3.toNat default).W, (a0.Turns.getD x3.toNat default).X, (a0.Turns.getD x3.toNat default).Y, (a0.Turns.getD x3.toNat default).Z]))) h (Nat.lt_succ_self k) (Sub.trans (Sub.swap 2 11 _ (by kernel_rfl) (by kernel_rfl)) (Sub.keep [3, 17, 18, 19] [2] (by kernel_rfl) (by kernel_rfl)))
  · refine AW.cond_f rfl b5 ?_
    refine AW.exit ?_
    refine thenQ_exit ?_
    refine loopQ_exit ?_
    refine blockQ_exit ?_
    refine thenQ_normal ?_
    refine AW.seq ?_
    refine AW.regionA [] [2] [2] (s' := ⟨[(2, (.v (.one (.lst 2 x4.length 1 (gl (csF .f32) x4)))))], [(2, (.lst x4.length 1 (gl (csF .f32) x4)))]⟩) (ob := True ∧ True ∧ True) (by kernel_rfl) ⟨trivial, trivial, trivial⟩ ?_
    refine thenQ_normal ?_
    refine AW.ret ?_
    replace h := some_eq h
    subst h
    exact ⟨.inr rfl, retOK_of [(.one (.lst 2 x4.length 1 (gl (csF .f32) x4)))] (by kernel_rfl) ⟨rfl, trivial⟩ (of_decide_eq_true (by kernel_rfl))⟩

/-! math.Float64bits -/
def math_Float64bits (_K : Nat) (a0 : F64) : Option (Int) :=
  a0.toBits

theorem ok_math_Float64bits (K : Nat) (a0 : F64) (o : Int) (h : math_Float64bits K a0 = some o) : CallOK Try.prog 145 [.one (.flt .f64 a0.bits)] [.one (.int .u64 o)] :=
  hand_toBits (e := Extern.MathFloatBits.float64bits) Try.func145 (by kernel_rfl) (by kernel_rfl) (by kernel_rfl) (by kernel_rfl) (fun _ _ => rfl) a0 o h

/-! math.Signbit -/
def math_Signbit (K : Nat) (a0 : F64) : Option (Bool) :=
  (math_Float64bits K a0).bind fun v1 => some (decide ((IntKind.i64.wrap v1) < (0 : Int)))

theorem ok_math_Signbit (K : Nat) (a0 : F64) (o : (Bool)) (h : math_Signbit K a0 = some o) : CallOK Try.prog 110 [.one (.flt .f64 a0.bits)] [.one (.bool o)] := by
  refine callOK_of_AW Try.func110 rfl (by kernel_rfl) (Nat.le_of_ble_eq_true (by kernel_rfl)) ?_
  intro w0
  unfold math_Signbit at h
  refine AW.seq ?_
  refine AW.regionA [] [0] [] (s' := ⟨[(0, (.v (.one (.c (.flt .f64 a0.bits)))))], []⟩) (ob := True ∧ True) (by kernel_rfl) ⟨trivial, trivial⟩ ?_
  refine thenQ_normal ?_
  refine AW.seq ?_
  obtain ⟨v1, e2, h⟩ := bind_some h
  refine AW.regionA [.no, .call [.one (.flt .f64 a0.bits)] [.one (.int .u64 v1)] [[.view]]] [2] [] (s' := ⟨[(2, (.v (.one (.c (.bool (decide ((IntKind.i64.wrap v1) < (0 : Int))))))))], []⟩) (ob := True ∧ (((((.flt .f64 a0.bits) : C) = (.flt .f64 a0.bits)) ∧ True) ∧ CallOK Try.prog 145 [.one (.flt .f64 a0.bits)] [.one (.int .u64 v1)]) ∧ True ∧ True ∧ True ∧ True) (by kernel_rfl) ⟨trivial, ⟨⟨rfl, trivial⟩, ok_math_Float64bits K a0 v1 e2⟩, trivial, trivial, trivial, trivial⟩ ?_
  refine thenQ_normal ?_
  refine AW.ret ?_
  replace h := some_eq h
  subst h
  exact ⟨.inr rfl, retOK_of [(.one (.c (.bool (decide ((IntKind.i64.wrap v1) < (0 : Int))))))] (by kernel_rfl) ⟨⟨rfl, trivial⟩, trivial⟩ (of_decide_eq_true (by kernel_rfl))⟩

/-! impl.SameNumber -/
def impl_SameNumber (K : Nat) (a0 : F32) (a1 : F32) : Option (Bool) :=
  (ite2 ((a0.ne a0)) (some true) (some (a1.ne a1))).bind fun j2 => ite2 (j2) ((ite2 ((a0.ne a0)) (some (a1.ne a1)) (some false)).bind fun j6 => some j6) ((ite2 ((a0.eq a1)) ((math_Signbit K (Fl.cv .f32 .f64 a0)).bind fun v9 => (math_Signbit K (Fl.cv .f32 .f64 a1)).bind fun v11 => some (v9 == v11)) (some false)).bind fun j13 => some j13)

theorem ok_impl_SameNumber (K : Nat) (a0 : F32) (a1 : F32) (o : (Bool)) (h : impl_SameNumber K a0 a1 = some o) : CallOK Try.prog 58 [.one (.flt .f32 a0.bits), .one (.flt .f32 a1.bits)] [.one (.bool o)] := by
  refine callOK_of_AW Try.func58 rfl (by kernel_rfl) (Nat.le_of_ble_eq_true (by kernel_rfl)) ?_
  intro w0
  unfold impl_SameNumber at h
  refine AW.seq ?_
  refine AW.regionA [] [0, 1] [] (s' := ⟨[(0, (.v (.one (.c (.flt .f32 a0.bits))))), (1, (.v (.one (.c (.flt .f32 a1.bits)))))], []⟩) (ob := True ∧ True) (by kernel_rfl) ⟨trivial, trivial⟩ ?_
  refine thenQ_normal ?_
  refine AW.seq ?_
  refine AW.seq ?_
  obtain ⟨j2, e3, h⟩ := bind_some h
  refine AW.join1 (s2 := ⟨[(0, (.v (.one (.c (.flt .f32 a0.bits))))), (1, (.v (.one (.c (.flt .f32 a1.bits))))), (12, (.v (.one (.c (.bool j2)))))], []⟩) ?_ ?_
  · rcases ite2_cases e3 with ⟨b1, e3⟩ | ⟨b1, e3⟩
    · replace e3 := some_eq e3
      subst e3
      exact AW.regionA [.no, .no, .no, .dec true] [0, 1, 12] [] (s' := ⟨[(0, (.v (.one (.c (.flt .f32 a0.bits))))), (1, (.v (.one (.c (.flt .f32 a1.bits))))), (12, (.v (.one (.c (.bool true)))))], []⟩) (ob := True ∧ True ∧ True ∧ (True ∧ (a0.ne a0) = true) ∧ True ∧ True ∧ True ∧ True ∧ True) (by kernel_rfl) ⟨trivial, trivial, trivial, ⟨trivial, b1⟩, trivial, trivial, trivial, trivial, trivial⟩ ⟨rfl, rfl⟩
    · replace e3 := some_eq e3
      subst e3
      exact AW.regionA [.no, .no, .no, .dec false] [0, 1, 12] [] (s' := ⟨[(0, (.v (.one (.c (.flt .f32 a0.bits))))), (1, (.v (.one (.c (.flt .f32 a1.bits))))), (12, (.v (.one (.c (.bool (a1.ne a1))))))], []⟩) (ob := True ∧ True ∧ True ∧ (True ∧ (a0.ne a0) = false) ∧ True ∧ True ∧ True ∧ True ∧ True) (by kernel_rfl) ⟨trivial, trivial, trivial, ⟨trivial, b1⟩, trivial, trivial, trivial, trivial, trivial⟩ ⟨rfl, rfl⟩
  refine thenQ_normal ?_
  rcases ite2_cases h with ⟨b4, h⟩ | ⟨b4, h⟩
  · refine AW.cond_t rfl b4 ?_
    refine AW.seq ?_
    obtain ⟨j6, e7, h⟩ := bind_some h
    refine AW.join1 (s2 := ⟨[(4, (.v (.one (.c (.bool j6)))))], []⟩) ?_ ?_
    · rcases ite2_cases e7 with ⟨b5, e7⟩ | ⟨b5, e7⟩
      · replace e7 := some_eq e7
        subst e7
        exact AW.regionA [.no, .no, .no, .dec true] [4] [] (s' := ⟨[(4, (.v (.one (.c (.bool (a1.ne a1))))))], []⟩) (ob := True ∧ True ∧ True ∧ (True ∧ (a0.ne a0) = true) ∧ True ∧ True ∧ True ∧ True ∧ True ∧ True) (by kernel_rfl) ⟨trivial, trivial, trivial, ⟨trivial, b5⟩, trivial, trivial, trivial, trivial, trivial, trivial⟩ ⟨rfl, rfl⟩
      · replace e7 := some_eq e7
        subst e7
        exact AW.regionA [.no, .no, .no, .dec false] [4] [] (s' := ⟨[(4, (.v (.one (.c (.bool false)))))], []⟩) (ob := True ∧ True ∧ True ∧ (True ∧ (a0.ne a0) = false) ∧ True ∧ True ∧ True ∧ True ∧ True ∧ True) (by kernel_rfl) ⟨trivial, trivial, trivial, ⟨trivial, b5⟩, trivial, trivial, trivial, trivial, trivial, trivial⟩ ⟨rfl, rfl⟩
    refine thenQ_normal ?_
    refine AW.ret ?_
    refine thenQ_ret ?_
    replace h := some_eq h
    subst h
    exact ⟨.inr rfl, retOK_of [(.one (.c (.bool j6)))] (by kernel_rfl) ⟨⟨rfl, trivial⟩, trivial⟩ (of_decide_eq_true (by kernel_rfl))⟩
  · refine AW.cond_f rfl b4 ?_
    refine AW.skip ?_
    refine thenQ_normal ?_
    refine AW.seq ?_
    obtain ⟨j13, e14, h⟩ := bind_some h
    refine AW.join1 (s2 := ⟨[(4, (.v (.one (.c (.bool j13)))))], []⟩) ?_ ?_
    · rcases ite2_cases e14 with ⟨b8, e14⟩ | ⟨b8, e14⟩
      · obtain ⟨v9, e10, e14⟩ := bind_some e14
        obtain ⟨v11, e12, e14⟩ := bind_some e14
        replace e14 := some_eq e14
        subst e14
        exact AW.regionA [.no, .no, .no, .dec true, .no, .no, .call [.one (.flt .f64 (Fl.cv .f32 .f64 a0).bits)] [.one (.bool v9)] [[.view]], .no, .no, .call [.one (.flt .f64 (Fl.cv .f32 .f64 a1).bits)] [.one (.bool v11)] [[.view]]] [4] [] (s' := ⟨[(4, (.v (.one (.c (.bool (v9 == v11))))))], []⟩) (ob := True ∧ True ∧ True ∧ (True ∧ (a0.eq a1) = true) ∧ True ∧ ((convBits .f32 a0.bits .f64).isSome = true) ∧ (((((.flt .f64 (Fl.cv .f32 .f64 a0).bits) : C) = (.flt .f64 (Fl.cv .f32 .f64 a0).bits)) ∧ True) ∧ CallOK Try.prog 110 [.one (.flt .f64 (Fl.cv .f32 .f64 a0).bits)] [.one (.bool v9)]) ∧ True ∧ ((convBits .f32 a1.bits .f64).isSome = true) ∧ (((((.flt .f64 (Fl.cv .f32 .f64 a1).bits) : C) = (.flt .f64 (Fl.cv .f32 .f64 a1).bits)) ∧ True) ∧ CallOK Try.prog 110 [.one (.flt .f64 (Fl.cv .f32 .f64 a1).bits)] [.one (.bool v11)]) ∧ True ∧ True ∧ True ∧ True) (by kernel_rfl) ⟨trivial, trivial, trivial, ⟨trivial, b8⟩, trivial, cv_wide a0, ⟨⟨rfl, trivial⟩, ok_math_Signbit K (Fl.cv .f32 .f64 a0) v9 e10⟩, trivial, cv_wide a1, ⟨⟨rfl, trivial⟩, ok_math_Signbit K (Fl.cv .f32 .f64 a1) v11 e12⟩, trivial, trivial, trivial, trivial⟩ ⟨rfl, rfl⟩
      · replace e14 := some_eq e14
        subst e14
        exact AW.regionA [.no, .no, .no, .dec false] [4] [] (s' := ⟨[(4, (.v (.one (.c (.bool false)))))], []⟩) (ob := True ∧ True ∧ True ∧ (True ∧ (a0.eq a1) = false) ∧ True ∧ True ∧ True ∧ True ∧ True ∧ True ∧ True ∧ True ∧ True ∧ True) (by kernel_rfl) ⟨trivial, trivial, trivial, ⟨trivial, b8⟩, trivial, trivial, trivial, trivial, trivial, trivial, trivial, trivial, trivial, trivial⟩ ⟨rfl, rfl⟩
    refine thenQ_normal ?_
    refine AW.ret ?_
    replace h := some_eq h
    subst h
    exact ⟨.inr rfl, retOK_of [(.one (.c (.bool j13)))] (by kernel_rfl) ⟨⟨rfl, trivial⟩, trivial⟩ (of_decide_eq_true (by kernel_rfl))⟩

/-! impl.changed -/
def impl_changed_l1 (K : Nat) (a0 : (List F32)) (a1 : (List F32)) : Nat → Int → (List Int) → Option ((List Int))
  | 0, _, _ => none
  | k + 1, x3, x4 => ite2 ((decide (x3 < (a0.length : Int)))) (chk (0 ≤ x3 ∧ x3 < (a0.length : Int)) (chk (0 ≤ x3 ∧ x3 < (a1.length : Int)) ((impl_SameNumber K (a0.getD x3.toNat default) (a1.getD x3.toNat default)).bind fun v8 => ite2 ((!v8)) (chk ((x4.length + ([x3]).length) * 8 ≤ 140737488355328) (impl_changed_l1 K a0 a1 k (IntKind.i64.wrap (x3 + (1 : Int))) (x4 ++ ([x3])))) (impl_changed_l1 K a0 a1 k (IntKind.i64.wrap (x3 + (1 : Int))) x4)))) (some x4)

def impl_changed (K : Nat) (a0 : (List F32)) (a1 : (List F32)) : Option ((List Int)) :=
  impl_changed_l1 K a0 a1 K (0 : Int) ([] : (List Int))

theorem ok_impl_changed (K : Nat) (a0 : (List F32)) (a1 : (List F32)) (o : ((List Int))) (h : impl_changed K a0 a1 = some o) : CallOK Try.prog 106 [.one (sl 1 (csF .f32) a0), .one (sl 1 (csF .f32) a1)] [.one (sl 1 (csI .i64) o)] := by
  refine callOK_of_AW Try.func106 rfl (by kernel_rfl) (Nat.le_of_ble_eq_true (by kernel_rfl)) ?_
  intro w0
  unfold impl_changed at h
  refine AW.seq ?_
  refine AW.regionA [] [0, 1] [] (s' := ⟨[(0, (.v (.one (.c (sl 1 (csF .f32) a0))))), (1, (.v (.one (.c (sl 1 (csF .f32) a1)))))], []⟩) (ob := True ∧ True) (by kernel_rfl) ⟨trivial, trivial⟩ ?_
  refine thenQ_normal ?_
  refine AW.seq ?_
  refine AW.regionA [] [0, 1, 5] [] (s' := ⟨[(0, (.v (.one (.c (sl 1 (csF .f32) a0))))), (1, (.v (.one (.c (sl 1 (csF .f32) a1))))), (5, (.v (.one .nils)))], []⟩) (ob := True ∧ True) (by kernel_rfl) ⟨trivial, trivial⟩ ?_
  refine thenQ_normal ?_
  refine AW.seq ?_
  refine AW.seq ?_
  refine AW.regionA [] [0, 1, 5, 8, 9] [] (s' := ⟨[(0, (.v (.one (.c (sl 1 (csF .f32) a0))))), (1, (.v (.one (.c (sl 1 (csF .f32) a1))))), (5, (.v (.one .nils))), (8, (.v (.one (.c (.int .i64 (a0.length : Int)))))), (9, (.v (.one (.c (.int .i64 (0 : Int))))))], []⟩) (ob := True ∧ True ∧ True ∧ True) (by kernel_rfl) ⟨trivial, trivial, trivial, trivial⟩ ?_
  refine thenQ_normal ?_
  refine AW.block ?_
  refine AW.weak (s' := ⟨[(0, (.v (.one (.c (sl 1 (csF .f32) a0))))), (1, (.v (.one (.c (sl 1 (csF .f32) a1))))), (5, (.v (.one (.lst 3 ([] : (List Int)).length 1 (gl (csI .i64) ([] : (List Int))))))), (8, (.v (.one (.c (.int .i64 (a0.length : Int)))))), (9, (.v (.one (.c (.int .i64 (0 : Int))))))], [(3, (.lst ([] : (List Int)).length 1 (gl (csI .i64) ([] : (List Int)))))]⟩) (Sub.trans (Sub.unnil 3 1 (gl (csI .i64) ([] : (List Int))) [5] [] _ (by kernel_rfl) (by kernel_rfl)) (Sub.keep [0, 1, 5, 8, 9] [3] (by kernel_rfl) (by kernel_rfl))) ?_
  refine AW.loopQ (σ := Nat × Int × (List Int)) (fun p => ⟨[(0, (.v (.one (.c (sl 1 (csF .f32) a0))))), (1, (.v (.one (.c (sl 1 (csF .f32) a1))))), (5, (.v (.one (.lst 3 p.2.2.length 1 (gl (csI .i64) p.2.2))))), (8, (.v (.one (.c (.int .i64 (a0.length : Int)))))), (9, (.v (.one (.c (.int .i64 p.2.1)))))], [(3, (.lst p.2.2.length 1 (gl (csI .i64) p.2.2)))]⟩) (fun p => impl_changed_l1 K a0 a1 p.1 p.2.1 p.2.2 = some o) (fun p => p.1) (K, (0 : Int), ([] : (List Int))) h ?_
  clear h
  rintro ⟨k, x3, x4⟩ h
  replace h : impl_changed_l1 K a0 a1 k x3 x4 = some o := h
  show AW _ _ (⟨[(0, (.v (.one (.c (sl 1 (csF .f32) a0))))), (1, (.v (.one (.c (sl 1 (csF .f32) a1))))), (5, (.v (.one (.lst 3 x4.length 1 (gl (csI .i64) x4))))), (8, (.v (.one (.c (.int .i64 (a0.length : Int)))))), (9, (.v (.one (.c (.int .i64 x3)))))], [(3, (.lst x4.length 1 (gl (csI .i64) x4)))]⟩ : St) _
  obtain _ | k := k
  · rw [impl_changed_l1] at h; cases h
  rw [impl_changed_l1] at h
  refine AW.seq ?_
  refine AW.regionA [] [0, 1, 5, 8, 9, 10] [3] (s' := ⟨[(0, (.v (.one (.c (sl 1 (csF .f32) a0))))), (1, (.v (.one (.c (sl 1 (csF .f32) a1))))), (5, (.v (.one (.lst 3 x4.length 1 (gl (csI .i64) x4))))), (8, (.v (.one (.c (.int .i64 (a0.length : Int)))))), (9, (.v (.one (.c (.int .i64 x3))))), (10, (.v (.one (.c (.bool (decide (x3 < (a0.length : Int))))))))], [(3, (.lst x4.length 1 (gl (csI .i64) x4)))]⟩) (ob := True ∧ True) (by kernel_rfl) ⟨trivial, trivial⟩ ?_
  refine thenQ_normal ?_
  refine AW.seq ?_
  rcases ite2_cases h with ⟨b5, h⟩ | ⟨b5, h⟩
  · refine AW.cond_t rfl b5 ?_
    refine AW.skip ?_
    refine thenQ_normal ?_
    refine AW.seq ?_
    refine AW.block ?_
    refine AW.seq ?_
    refine AW.regionA [] [0, 1, 5, 6, 8, 9] [3] (s' := ⟨[(0, (.v (.one (.c (sl 1 (csF .f32) a0))))), (1, (.v (.one (.c (sl 1 (csF .f32) a1))))), (5, (.v (.one (.lst 3 x4.length 1 (gl (csI .i64) x4))))), (6, (.v (.one (.c (.int .i64 x3))))), (8, (.v (.one (.c (.int .i64 (a0.length : Int)))))), (9, (.v (.one (.c (.int .i64 x3)))))], [(3, (.lst x4.length 1 (gl (csI .i64) x4)))]⟩) (ob := True ∧ True ∧ True) (by kernel_rfl) ⟨trivial, trivial, trivial⟩ ?_
    refine thenQ_normal ?_
    refine AW.seq ?_
    obtain ⟨c6, h⟩ := chk_some h
    obtain ⟨c7, h⟩ := chk_some h
    obtain ⟨v8, e9, h⟩ := bind_some h
    refine AW.drawnA (by kernel_rfl) 10 [.no, .no, .no, .no, .no, .no, .no, .no, .call [.one (.flt .f32 (a0.getD x3.toNat default).bits), .one (.flt .f32 (a1.getD x3.toNat default).bits)] [.one (.bool v8)] [[.view]]] [0, 1, 5, 6, 8, 9, 21] [3] (s' := ⟨[(0, (.v (.one (.c (sl 1 (csF .f32) a0))))), (1, (.v (.one (.c (sl 1 (csF .f32) a1))))), (5, (.v (.one (.lst 3 x4.length 1 (gl (csI .i64) x4))))), (6, (.v (.one (.c (.int .i64 x3))))), (8, (.v (.one (.c (.int .i64 (a0.length : Int)))))), (9, (.v (.one (.c (.int .i64 x3))))), (21, (.v (.one (.c (.bool (!v8))))))], [(3, (.lst x4.length 1 (gl (csI .i64) x4)))]⟩) (ob := (True ∧ True ∧ (0 ≤ x3 ∧ x3 < (a0.length : Int)) ∧ True ∧ True ∧ True ∧ (0 ≤ x3 ∧ x3 < (a1.length : Int)) ∧ True ∧ (((((.flt .f32 (a0.getD x3.toNat default).bits) : C) = (.flt .f32 (a0.getD x3.toNat default).bits)) ∧ (((.flt .f32 (a1.getD x3.toNat default).bits) : C) = (.flt .f32 (a1.getD x3.toNat default).bits)) ∧ True) ∧ CallOK Try.prog 58 [.one (.flt .f32 (a0.getD x3.toNat default).bits), .one (.flt .f32 (a1.getD x3.toNat default).bits)] [.one (.bool v8)]) ∧ True ∧ True) ∧ (True)) (by kernel_rfl) ⟨⟨trivial, trivial, c6, trivial, trivial, trivial, c7, trivial, ⟨⟨rfl, rfl, trivial⟩, ok_impl_SameNumber K (a0.getD x3.toNat default) (a1.getD x3.toNat default) v8 e9⟩, trivial, trivial⟩, trivial⟩ ?_
    refine thenQ_normal ?_
    rcases ite2_cases h with ⟨b10, h⟩ | ⟨b10, h⟩
    · refine AW.cond_t rfl b10 ?_
      obtain ⟨c11, h⟩ := chk_some h
      refine AW.regionA [.no, .no, .obj 8 ([x3]).length (gl (csI .i64) ([x3])), .obj 9 (x4 ++ ([x3])).length (gl (csI .i64) (x4 ++ ([x3])))] [0, 1, 5, 8, 9] [9] (s' := ⟨[(0, (.v (.one (.c (sl 1 (csF .f32) a0))))), (1, (.v (.one (.c (sl 1 (csF .f32) a1))))), (5, (.v (.one (.lst 9 (x4 ++ ([x3])).length 1 (gl (csI .i64) (x4 ++ ([x3]))))))), (8, (.v (.one (.c (.int .i64 (a0.length : Int)))))), (9, (.v (.one (.c (.int .i64 x3)))))], [(9, (.lst (x4 ++ ([x3])).length 1 (gl (csI .i64) (x4 ++ ([x3])))))]⟩) (ob := True ∧ True ∧ (([x3]).length = 1 ∧ (((.int .i64 x3) : C) = (.int .i64 x3) ∧ True) ∧ True) ∧ ((x4 ++ ([x3])).length = x4.length + ([x3]).length ∧ AppOb (x4.length) (([x3]).length) 1 (gl (csI .i64) x4) (gl (csI .i64) ([x3])) (gl (csI .i64) (x4 ++ ([x3]))) ∧ True ∧ (x4.length + ([x3]).length) * 8 ≤ 140737488355328) ∧ True ∧ True) (by kernel_rfl) ⟨trivial, trivial, ⟨rfl, ⟨⟨rfl, trivial⟩, trivial⟩⟩, ⟨List.length_append, gl_append, trivial, c11⟩, trivial, trivial⟩ ?_
      refine blockQ_normal ?_
      refine thenQ_normal ?_
      refine AW.regionA [] [0, 1, 5, 8, 9] [9] (s' := ⟨[(0, (.v (.one (.c (sl 1 (csF .f32) a0))))), (1, (.v (.one (.c (sl 1 (csF .f32) a1))))), (5, (.v (.one (.lst 9 (x4 ++ ([x3])).length 1 (gl (csI .i64) (x4 ++ ([x3]))))))), (8, (.v (.one (.c (.int .i64 (a0.length : Int)))))), (9, (.v (.one (.c (.int .i64 (IntKind.i64.wrap (x3 + (1 : Int))))))))], [(9, (.lst (x4 ++ ([x3])).length 1 (gl (csI .i64) (x4 ++ ([x3])))))]⟩) (ob := True ∧ True ∧ True) (by kernel_rfl) ⟨trivial, trivial, trivial⟩ ?_
      exact loopQ_normal (k, (IntKind.i64.wrap (x3 + (1 : Int))), (x4 ++ ([x3]))) h (Nat.lt_succ_self k) (Sub.trans (Sub.swap 3 9 _ (by kernel_rfl) (by kernel_rfl)) (Sub.keep [0, 1, 5, 8, 9] [3] (by kernel_rfl) (by kernel_rfl)))
    · refine AW.cond_f rfl b10 ?_
      refine AW.skip ?_
      refine blockQ_normal ?_
      refine thenQ_normal ?_
      refine AW.regionA [] [0, 1, 5, 8, 9] [3] (s' := ⟨[(0, (.v (.one (.c (sl 1 (csF .f32) a0))))), (1, (.v (.one (.c (sl 1 (csF .f32) a1))))), (5, (.v (.one (.lst 3 x4.length 1 (gl (csI .i64) x4))))), (8, (.v (.one (.c (.int .i64 (a0.length : Int)))))), (9, (.v (.one (.c (.int .i64 (IntKind.i64.wrap (x3 + (1 : Int))))))))], [(3, (.lst x4.length 1 (gl (csI .i64) x4)))]⟩) (ob := True ∧ True ∧ True) (by kernel_rfl) ⟨trivial, trivial, trivial⟩ ?_
      exact loopQ_normal (k, (IntKind.i64.wrap (x3 + (1 : Int))), x4) h (Nat.lt_succ_self k) (Sub.keep [0, 1, 5, 8, 9] [3] (by kernel_rfl) (by kernel_rfl))
  · refine AW.cond_f rfl b5 ?_
    refine AW.exit ?_
    refine thenQ_exit ?_
    refine loopQ_exit ?_
    refine blockQ_exit ?_
    refine thenQ_normal ?_
    refine AW.seq ?_
    refine AW.regionA [] [4] [3] (s' := ⟨[(4, (.v (.one (.lst 3 x4.length 1 (gl (csI .i64) x4)))))], [(3, (.lst x4.length 1 (gl (csI .i64) x4)))]⟩) (ob := True ∧ True ∧ True) (by kernel_rfl) ⟨trivial, trivial, trivial⟩ ?_
    refine thenQ_normal ?_
    refine AW.ret ?_
    replace h := some_eq h
    subst h
    exact ⟨.inr rfl, retOK_of [(.one (.lst 3 x4.length 1 (gl (csI .i64) x4)))] (by kernel_rfl) ⟨rfl, trivial⟩ (of_decide_eq_true (by kernel_rfl))⟩

/-! impl.BitsOf -/
def impl_BitsOf (K : Nat) (a0 : F32) : Option (Int) :=
  ite2 ((a0.ne a0)) (some (2143289344 : Int)) ((math_Float32bits K a0).bind fun v2 => some (IntKind.i64.wrap v2))

theorem ok_impl_BitsOf (K : Nat) (a0 : F32) (o : (Int)) (h : impl_BitsOf K a0 = some o) : CallOK Try.prog 128 [.one (.flt .f32 a0.bits)] [.one (.int .i64 o)] := by
  refine callOK_of_AW Try.func128 rfl (by kernel_rfl) (Nat.le_of_ble_eq_true (by kernel_rfl)) ?_
  intro w0
  unfold impl_BitsOf at h
  refine AW.seq ?_
  refine AW.regionA [] [0] [] (s' := ⟨[(0, (.v (.one (.c (.flt .f32 a0.bits)))))], []⟩) (ob := True ∧ True) (by kernel_rfl) ⟨trivial, trivial⟩ ?_
  refine thenQ_normal ?_
  refine AW.seq ?_
  refine AW.seq ?_
  refine AW.regionA [] [0, 5] [] (s' := ⟨[(0, (.v (.one (.c (.flt .f32 a0.bits))))), (5, (.v (.one (.c (.bool (a0.ne a0))))))], []⟩) (ob := True ∧ True ∧ True ∧ True) (by kernel_rfl) ⟨trivial, trivial, trivial, trivial⟩ ?_
  refine thenQ_normal ?_
  rcases ite2_cases h with ⟨b1, h⟩ | ⟨b1, h⟩
  · refine AW.cond_t rfl b1 ?_
    refine AW.seq ?_
    refine AW.regionA [] [2] [] (s' := ⟨[(2, (.v (.one (.c (.int .i64 (2143289344 : Int))))))], []⟩) (ob := True ∧ True) (by kernel_rfl) ⟨trivial, trivial⟩ ?_
    refine thenQ_normal ?_
    refine AW.ret ?_
    refine thenQ_ret ?_
    replace h := some_eq h
    subst h
    exact ⟨.inr rfl, retOK_of [(.one (.c (.int .i64 (2143289344 : Int))))] (by kernel_rfl) ⟨⟨rfl, trivial⟩, trivial⟩ (of_decide_eq_true (by kernel_rfl))⟩
  · refine AW.cond_f rfl b1 ?_
    refine AW.skip ?_
    refine thenQ_normal ?_
    refine AW.seq ?_
    obtain ⟨v2, e3, h⟩ := bind_some h
    refine AW.regionA [.no, .call [.one (.flt .f32 a0.bits)] [.one (.int .u32 v2)] [[.view]]] [2] [] (s' := ⟨[(2, (.v (.one (.c (.int .i64 (IntKind.i64.wrap v2))))))], []⟩) (ob := True ∧ (((((.flt .f32 a0.bits) : C) = (.flt .f32 a0.bits)) ∧ True) ∧ CallOK Try.prog 158 [.one (.flt .f32 a0.bits)] [.one (.int .u32 v2)]) ∧ True ∧ True ∧ True) (by kernel_rfl) ⟨trivial, ⟨⟨rfl, trivial⟩, ok_math_Float32bits K a0 v2 e3⟩, trivial, trivial, trivial⟩ ?_
    refine thenQ_normal ?_
    refine AW.ret ?_
    replace h := some_eq h
    subst h
    exact ⟨.inr rfl, retOK_of [(.one (.c (.int .i64 (IntKind.i64.wrap v2))))] (by kernel_rfl) ⟨⟨rfl, trivial⟩, trivial⟩ (of_decide_eq_true (by kernel_rfl))⟩

/-! impl.check -/
def impl_check_l1 (K : Nat) (a1 : ByteArray) : Nat → Int → Int → Option (Int)
  | 0, _, _ => none
  | k + 1, x3, x4 => ite2 ((decide (x4 < (a1.size : Int)))) (chk (0 ≤ x4 ∧ x4 < (a1.size : Int)) (chk ((65003 : Int) ≠ 0) (impl_check_l1 K a1 k ((IntKind.i64.wrap ((IntKind.i64.wrap ((IntKind.i64.wrap ((613 : Int) * x3)) + (IntKind.i64.wrap (bt a1 x4.toNat)))) + (23 : Int))).tmod (65003 : Int)) (IntKind.i64.wrap (x4 + (1 : Int)))))) (some x3)

def impl_check (K : Nat) (a0 : Int) (a1 : ByteArray) : Option (Int) :=
  impl_check_l1 K a1 K a0 (0 : Int)

theorem ok_impl_check (K : Nat) (a0 : Int) (a1 : ByteArray) (o : (Int)) (h : impl_check K a0 a1 = some o) : CallOK Try.prog 129 [.one (.int .i64 a0), .one (.str a1)] [.one (.int .i64 o)] := by
  refine callOK_of_AW Try.func129 rfl (by kernel_rfl) (Nat.le_of_ble_eq_true (by kernel_rfl)) ?_
  intro w0
  unfold impl_check at h
  refine AW.seq ?_
  refine AW.regionA [] [0, 1] [] (s' := ⟨[(0, (.v (.one (.c (.int .i64 a0))))), (1, (.v (.one (.c (.str a1)))))], []⟩) (ob := True ∧ True) (by kernel_rfl) ⟨trivial, trivial⟩ ?_
  refine thenQ_normal ?_
  refine AW.seq ?_
  refine AW.seq ?_
  refine AW.regionA [] [0, 1, 7, 8] [] (s' := ⟨[(0, (.v (.one (.c (.int .i64 a0))))), (1, (.v (.one (.c (.str a1))))), (7, (.v (.one (.c (.int .i64 (a1.size : Int)))))), (8, (.v (.one (.c (.int .i64 (0 : Int))))))], []⟩) (ob := True ∧ True ∧ True ∧ True) (by kernel_rfl) ⟨trivial, trivial, trivial, trivial⟩ ?_
  refine thenQ_normal ?_
  refine AW.block ?_
  refine AW.loopQ (σ := Nat × Int × Int) (fun p => ⟨[(0, (.v (.one (.c (.int .i64 p.2.1))))), (1, (.v (.one (.c (.str a1))))), (7, (.v (.one (.c (.int .i64 (a1.size : Int)))))), (8, (.v (.one (.c (.int .i64 p.2.2)))))], []⟩) (fun p => impl_check_l1 K a1 p.1 p.2.1 p.2.2 = some o) (fun p => p.1) (K, a0, (0 : Int)) h ?_
  clear h
  rintro ⟨k, x3, x4⟩ h
  replace h : impl_check_l1 K a1 k x3 x4 = some o := h
  show AW _ _ (⟨[(0, (.v (.one (.c (.int .i64 x3))))), (1, (.v (.one (.c (.str a1))))), (7, (.v (.one (.c (.int .i64 (a1.size : Int)))))), (8, (.v (.one (.c (.int .i64 x4)))))], []⟩ : St) _
  obtain _ | k := k
  · rw [impl_check_l1] at h; cases h
  rw [impl_check_l1] at h
  refine AW.seq ?_
  refine AW.regionA [] [0, 1, 7, 8, 9] [] (s' := ⟨[(0, (.v (.one (.c (.int .i64 x3))))), (1, (.v (.one (.c (.str a1))))), (7, (.v (.one (.c (.int .i64 (a1.size : Int)))))), (8, (.v (.one (.c (.int .i64 x4))))), (9, (.v (.one (.c (.bool (decide (x4 < (a1.size : Int))))))))], []⟩) (ob := True ∧ True) (by kernel_rfl) ⟨trivial, trivial⟩ ?_
  refine thenQ_normal ?_
  refine AW.seq ?_
  rcases ite2_cases h with ⟨b5, h⟩ | ⟨b5, h⟩
  · refine AW.cond_t rfl b5 ?_
    refine AW.skip ?_
    refine thenQ_normal ?_
    refine AW.seq ?_
    refine AW.block ?_
    refine AW.seq ?_
    refine AW.regionA [] [0, 1, 5, 7, 8] [] (s' := ⟨[(0, (.v (.one (.c (.int .i64 x3))))), (1, (.v (.one (.c (.str a1))))), (5, (.v (.one (.c (.int .i64 x4))))), (7, (.v (.one (.c (.int .i64 (a1.size : Int)))))), (8, (.v (.one (.c (.int .i64 x4)))))], []⟩) (ob := True ∧ True ∧ True) (by kernel_rfl) ⟨trivial, trivial, trivial⟩ ?_
    refine thenQ_normal ?_
    obtain ⟨c6, h⟩ := chk_some h
    obtain ⟨c7, h⟩ := chk_some h
    refine AW.regionA [] [0, 1, 7, 8] [] (s' := ⟨[(0, (.v (.one (.c (.int .i64 ((IntKind.i64.wrap ((IntKind.i64.wrap ((IntKind.i64.wrap ((613 : Int) * x3)) + (IntKind.i64.wrap (bt a1 x4.toNat)))) + (23 : Int))).tmod (65003 : Int))))))), (1, (.v (.one (.c (.str a1))))), (7, (.v (.one (.c (.int .i64 (a1.size : Int)))))), (8, (.v (.one (.c (.int .i64 x4)))))], []⟩) (ob := True ∧ True ∧ True ∧ True ∧ (0 ≤ x4 ∧ x4 < (a1.size : Int)) ∧ True ∧ True ∧ True ∧ ((65003 : Int) ≠ 0) ∧ True ∧ True) (by kernel_rfl) ⟨trivial, trivial, trivial, trivial, c6, trivial, trivial, trivial, c7, trivial, trivial⟩ ?_
    refine blockQ_normal ?_
    refine thenQ_normal ?_
    refine AW.regionA [] [0, 1, 7, 8] [] (s' := ⟨[(0, (.v (.one (.c (.int .i64 ((IntKind.i64.wrap ((IntKind.i64.wrap ((IntKind.i64.wrap ((613 : Int) * x3)) + (IntKind.i64.wrap (bt a1 x4.toNat)))) + (23 : Int))).tmod (65003 : Int))))))), (1, (.v (.one (.c (.str a1))))), (7, (.v (.one (.c (.int .i64 (a1.size : Int)))))), (8, (.v (.one (.c (.int .i64 (IntKind.i64.wrap (x4 + (1 : Int))))))))], []⟩) (ob := True ∧ True ∧ True) (by kernel_rfl) ⟨trivial, trivial, trivial⟩ ?_
    exact loopQ_normal (k, ((IntKind.i64.wrap ((IntKind.i64.wrap ((IntKind.i64.wrap ((613 : Int) * x3)) + (IntKind.i64.wrap (bt a1 x4.toNat)))) + (23 : Int))).tmod (65003 : Int)), (IntKind.i64.wrap (x4 + (1 : Int)))) h (Nat.lt_succ_self k) (Sub.keep [0, 1, 7, 8] [] (by kernel_rfl) (by kernel_rfl))
  · refine AW.cond_f rfl b5 ?_
    refine AW.exit ?_
    refine thenQ_exit ?_
    refine loopQ_exit ?_
    refine blockQ_exit ?_
    refine thenQ_normal ?_
    refine AW.seq ?_
    refine AW.regionA [] [4] [] (s' := ⟨[(4, (.v (.one (.c (.int .i64 x3)))))], []⟩) (ob := True ∧ True ∧ True) (by kernel_rfl) ⟨trivial, trivial, trivial⟩ ?_
    refine thenQ_normal ?_
    refine AW.ret ?_
    replace h := some_eq h
    subst h
    exact ⟨.inr rfl, retOK_of [(.one (.c (.int .i64 x3)))] (by kernel_rfl) ⟨⟨rfl, trivial⟩, trivial⟩ (of_decide_eq_true (by kernel_rfl))⟩

/-! impl.record -/
def impl_record_l1 (K : Nat) (a2 : (List F32)) (v1 : ((List Int))) : Nat → Int → (List Int) → Option ((List Int))
  | 0, _, _ => none
  | k + 1, x6, x7 => ite2 ((decide (x6 < (v1.length : Int)))) (chk (0 ≤ x6 ∧ x6 < (v1.length : Int)) (chk (0 ≤ (v1.getD x6.toNat default) ∧ (v1.getD x6.toNat default) < (a2.length : Int)) ((impl_BitsOf K (a2.getD ((v1.getD x6.toNat default).toNat) default)).bind fun v11 => chk (0 ≤ (8 : Int)) (chk (0 ≤ (16 : Int)) (chk (0 ≤ (24 : Int)) (chk ((x7.length + ([(IntKind.u8.wrap (v1.getD x6.toNat default)), (IntKind.u8.wrap v11), (IntKind.u8.wrap (v11.fdiv (2 ^ (min (8 : Int).toNat (IntKind.bits .i64))))), (IntKind.u8.wrap (v11.fdiv (2 ^ (min (16 : Int).toNat (IntKind.bits .i64))))), (IntKind.u8.wrap (v11.fdiv (2 ^ (min (24 : Int).toNat (IntKind.bits .i64)))))]).length) * 1 ≤ 140737488355328) (impl_record_l1 K a2 v1 k (IntKind.i64.wrap (x6 + (1 : Int))) (x7 ++ ([(IntKind.u8.wrap (v1.getD x6.toNat default)), (IntKind.u8.wrap v11), (IntKind.u8.wrap (v11.fdiv (2 ^ (min (8 : Int).toNat (IntKind.bits .i64))))), (IntKind.u8.wrap (v11.fdiv (2 ^ (min (16 : Int).toNat (IntKind.bits .i64))))), (IntKind.u8.wrap (v11.fdiv (2 ^ (min (24 : Int).toNat (IntKind.bits .i64)))))]))))))))) (chk (∀ x ∈ x7, 0 ≤ x ∧ x < 256) ((impl_check K (0 : Int) (strOf x7)).bind fun v18 => chk (0 ≤ (8 : Int)) (chk ((x7.length + ([(IntKind.u8.wrap v18), (IntKind.u8.wrap (v18.fdiv (2 ^ (min (8 : Int).toNat (IntKind.bits .i64)))))]).length) * 1 ≤ 140737488355328) (some (x7 ++ ([(IntKind.u8.wrap v18), (IntKind.u8.wrap (v18.fdiv (2 ^ (min (8 : Int).toNat (IntKind.bits .i64)))))]))))))

def impl_record (K : Nat) (a0 : (List Int)) (a1 : (List F32)) (a2 : (List F32)) : Option ((List Int)) :=
  (impl_changed K a1 a2).bind fun v1 => chk ((a0.length + ([(IntKind.u8.wrap (v1.length : Int))]).length) * 1 ≤ 140737488355328) (impl_record_l1 K a2 v1 K (0 : Int) (a0 ++ ([(IntKind.u8.wrap (v1.length : Int))])))

theorem ok_impl_record (K : Nat) (a0 : (List Int)) (a1 : (List F32)) (a2 : (List F32)) (o : ((List Int))) (h : impl_record K a0 a1 a2 = some o) : MutOK Try.prog 85 [(.one (.mv (sl 1 (csI .u8) a0))), (.one (.ro (sl 1 (csF .f32) a1))), (.one (.ro (sl 1 (csF .f32) a2)))] [.one (sl 1 (csI .u8) o)] := by
  refine mutOK_of_AW 1 Try.func85 rfl (by kernel_rfl) (Nat.le_of_ble_eq_true (by kernel_rfl)) (by kernel_rfl) (by kernel_rfl) ?_
  intro w0 K0 v0 s0
  unfold impl_record at h
  refine AW.seq ?_
  refine AW.regionA [] [0, 1, 2] [0] (s' := ⟨[(0, (.v (.one (.arr 0)))), (1, (.v (.one (.c (sl 1 (csF .f32) a1))))), (2, (.v (.one (.c (sl 1 (csF .f32) a2)))))], [(0, (.arr true a0.length 1 (gl (csI .u8) a0)))]⟩) (ob := True ∧ True) (by kernel_rfl) ⟨trivial, trivial⟩ ?_
  refine thenQ_normal ?_
  refine AW.seq ?_
  obtain ⟨v1, e2, h⟩ := bind_some h
  refine AW.regionA [.no, .no, .call [.one (sl 1 (csF .f32) a1), .one (sl 1 (csF .f32) a2)] [.one (sl 1 (csI .i64) v1)] [[.lst 1]]] [0, 1, 2, 7] [0, 1] (s' := ⟨[(0, (.v (.one (.arr 0)))), (1, (.v (.one (.c (sl 1 (csF .f32) a1))))), (2, (.v (.one (.c (sl 1 (csF .f32) a2))))), (7, (.v (.one (.lst 1 v1.length 1 (gl (csI .i64) v1)))))], [(0, (.arr true a0.length 1 (gl (csI .u8) a0))), (1, (.lst v1.length 1 (gl (csI .i64) v1)))]⟩) (ob := True ∧ True ∧ (((((sl 1 (csF .f32) a1) : C) = (sl 1 (csF .f32) a1)) ∧ (((sl 1 (csF .f32) a2) : C) = (sl 1 (csF .f32) a2)) ∧ True) ∧ CallOK Try.prog 106 [.one (sl 1 (csF .f32) a1), .one (sl 1 (csF .f32) a2)] [.one (sl 1 (csI .i64) v1)]) ∧ True ∧ True) (by kernel_rfl) ⟨trivial, trivial, ⟨⟨rfl, rfl, trivial⟩, ok_impl_changed K a1 a2 v1 e2⟩, trivial, trivial⟩ ?_
  refine thenQ_normal ?_
  refine AW.seq ?_
  obtain ⟨c3, h⟩ := chk_some h
  refine AW.regionA [.no, .no, .no, .no, .obj 2 ([(IntKind.u8.wrap (v1.length : Int))]).length (gl (csI .u8) ([(IntKind.u8.wrap (v1.length : Int))])), .obj 3 (a0 ++ ([(IntKind.u8.wrap (v1.length : Int))])).length (gl (csI .u8) (a0 ++ ([(IntKind.u8.wrap (v1.length : Int))])))] [0, 1, 2, 7] [1, 3] (s' := ⟨[(0, (.v (.one (.lst 3 (a0 ++ ([(IntKind.u8.wrap (v1.length : Int))])).length 1 (gl (csI .u8) (a0 ++ ([(IntKind.u8.wrap (v1.length : Int))]))))))), (1, (.v (.one (.c (sl 1 (csF .f32) a1))))), (2, (.v (.one (.c (sl 1 (csF .f32) a2))))), (7, (.v (.one (.lst 1 v1.length 1 (gl (csI .i64) v1)))))], [(1, (.lst v1.length 1 (gl (csI .i64) v1))), (3, (.lst (a0 ++ ([(IntKind.u8.wrap (v1.length : Int))])).length 1 (gl (csI .u8) (a0 ++ ([(IntKind.u8.wrap (v1.length : Int))])))))]⟩) (ob := True ∧ True ∧ True ∧ True ∧ (([(IntKind.u8.wrap (v1.length : Int))]).length = 1 ∧ (((.int .u8 (IntKind.u8.wrap (v1.length : Int))) : C) = (.int .u8 (IntKind.u8.wrap (v1.length : Int))) ∧ True) ∧ True) ∧ ((a0 ++ ([(IntKind.u8.wrap (v1.length : Int))])).length = a0.length + ([(IntKind.u8.wrap (v1.length : Int))]).length ∧ AppOb (a0.length) (([(IntKind.u8.wrap (v1.length : Int))]).length) 1 (gl (csI .u8) a0) (gl (csI .u8) ([(IntKind.u8.wrap (v1.length : Int))])) (gl (csI .u8) (a0 ++ ([(IntKind.u8.wrap (v1.length : Int))]))) ∧ True ∧ (a0.length + ([(IntKind.u8.wrap (v1.length : Int))]).length) * 1 ≤ 140737488355328) ∧ True ∧ True) (by kernel_rfl) ⟨trivial, trivial, trivial, trivial, ⟨rfl, ⟨⟨rfl, trivial⟩, trivial⟩⟩, ⟨List.length_append, gl_append, trivial, c3⟩, trivial, trivial⟩ ?_
  refine thenQ_normal ?_
  refine AW.seq ?_
  refine AW.seq ?_
  refine AW.regionA [] [0, 1, 2, 21, 22, 23] [1, 3] (s' := ⟨[(0, (.v (.one (.lst 3 (a0 ++ ([(IntKind.u8.wrap (v1.length : Int))])).length 1 (gl (csI .u8) (a0 ++ ([(IntKind.u8.wrap (v1.length : Int))]))))))), (1, (.v (.one (.c (sl 1 (csF .f32) a1))))), (2, (.v (.one (.c (sl 1 (csF .f32) a2))))), (21, (.v (.one (.lst 1 v1.length 1 (gl (csI .i64) v1))))), (22, (.v (.one (.c (.int .i64 (v1.length : Int)))))), (23, (.v (.one (.c (.int .i64 (0 : Int))))))], [(1, (.lst v1.length 1 (gl (csI .i64) v1))), (3, (.lst (a0 ++ ([(IntKind.u8.wrap (v1.length : Int))])).length 1 (gl (csI .u8) (a0 ++ ([(IntKind.u8.wrap (v1.length : Int))])))))]⟩) (ob := True ∧ True ∧ True ∧ True) (by kernel_rfl) ⟨trivial, trivial, trivial, trivial⟩ ?_
  refine thenQ_normal ?_
  refine AW.block ?_
  refine AW.loopQ (σ := Nat × Int × (List Int)) (fun p => ⟨[(0, (.v (.one (.lst 3 p.2.2.length 1 (gl (csI .u8) p.2.2))))), (1, (.v (.one (.c (sl 1 (csF .f32) a1))))), (2, (.v (.one (.c (sl 1 (csF .f32) a2))))), (21, (.v (.one (.lst 1 v1.length 1 (gl (csI .i64) v1))))), (22, (.v (.one (.c (.int .i64 (v1.length : Int)))))), (23, (.v (.one (.c (.int .i64 p.2.1)))))], [(1, (.lst v1.length 1 (gl (csI .i64) v1))), (3, (.lst p.2.2.length 1 (gl (csI .u8) p.2.2)))]⟩) (fun p => impl_record_l1 K a2 v1 p.1 p.2.1 p.2.2 = some o) (fun p => p.1) (K, (0 : Int), (a0 ++ ([(IntKind.u8.wrap (v1.length : Int))]))) h ?_
  clear h
  rintro ⟨k, x6, x7⟩ h
  replace h : impl_record_l1 K a2 v1 k x6 x7 = some o := h
  show AW _ _ (⟨[(0, (.v (.one (.lst 3 x7.length 1 (gl (csI .u8) x7))))), (1, (.v (.one (.c (sl 1 (csF .f32) a1))))), (2, (.v (.one (.c (sl 1 (csF .f32) a2))))), (21, (.v (.one (.lst 1 v1.length 1 (gl (csI .i64) v1))))), (22, (.v (.one (.c (.int .i64 (v1.length : Int)))))), (23, (.v (.one (.c (.int .i64 x6)))))], [(1, (.lst v1.length 1 (gl (csI .i64) v1))), (3, (.lst x7.length 1 (gl (csI .u8) x7)))]⟩ : St) _
  obtain _ | k := k
  · rw [impl_record_l1] at h; cases h
  rw [impl_record_l1] at h
  refine AW.seq ?_
  refine AW.regionA [] [0, 1, 2, 21, 22, 23, 24] [1, 3] (s' := ⟨[(0, (.v (.one (.lst 3 x7.length 1 (gl (csI .u8) x7))))), (1, (.v (.one (.c (sl 1 (csF .f32) a1))))), (2, (.v (.one (.c (sl 1 (csF .f32) a2))))), (21, (.v (.one (.lst 1 v1.length 1 (gl (csI .i64) v1))))), (22, (.v (.one (.c (.int .i64 (v1.length : Int)))))), (23, (.v (.one (.c (.int .i64 x6))))), (24, (.v (.one (.c (.bool (decide (x6 < (v1.length : Int))))))))], [(1, (.lst v1.length 1 (gl (csI .i64) v1))), (3, (.lst x7.length 1 (gl (csI .u8) x7)))]⟩) (ob := True ∧ True) (by kernel_rfl) ⟨trivial, trivial⟩ ?_
  refine thenQ_normal ?_
  refine AW.seq ?_
  rcases ite2_cases h with ⟨b8, h⟩ | ⟨b8, h⟩
  · refine AW.cond_t rfl b8 ?_
    refine AW.skip ?_
    refine thenQ_normal ?_
    refine AW.seq ?_
    refine AW.block ?_
    refine AW.seq ?_
    obtain ⟨c9, h⟩ := chk_some h
    refine AW.regionA [] [0, 1, 2, 9, 21, 22, 23] [1, 3] (s' := ⟨[(0, (.v (.one (.lst 3 x7.length 1 (gl (csI .u8) x7))))), (1, (.v (.one (.c (sl 1 (csF .f32) a1))))), (2, (.v (.one (.c (sl 1 (csF .f32) a2))))), (9, (.v (.one (.c (.int .i64 (v1.getD x6.toNat default)))))), (21, (.v (.one (.lst 1 v1.length 1 (gl (csI .i64) v1))))), (22, (.v (.one (.c (.int .i64 (v1.length : Int)))))), (23, (.v (.one (.c (.int .i64 x6)))))], [(1, (.lst v1.length 1 (gl (csI .i64) v1))), (3, (.lst x7.length 1 (gl (csI .u8) x7)))]⟩) (ob := (0 ≤ x6 ∧ x6 < (v1.length : Int)) ∧ True ∧ True ∧ True) (by kernel_rfl) ⟨c9, trivial, trivial, trivial⟩ ?_
    refine thenQ_normal ?_
    refine AW.seq ?_
    obtain ⟨c10, h⟩ := chk_some h
    obtain ⟨v11, e12, h⟩ := bind_some h
    refine AW.regionA [.no, .no, .no, .no, .call [.one (.flt .f32 (a2.getD ((v1.getD x6.toNat default).toNat) default).bits)] [.one (.int .i64 v11)] [[.view]]] [0, 1, 2, 9, 10, 21, 22, 23] [1, 3] (s' := ⟨[(0, (.v (.one (.lst 3 x7.length 1 (gl (csI .u8) x7))))), (1, (.v (.one (.c (sl 1 (csF .f32) a1))))), (2, (.v (.one (.c (sl 1 (csF .f32) a2))))), (9, (.v (.one (.c (.int .i64 (v1.getD x6.toNat default)))))), (10, (.v (.one (.c (.int .i64 v11))))), (21, (.v (.one (.lst 1 v1.length 1 (gl (csI .i64) v1))))), (22, (.v (.one (.c (.int .i64 (v1.length : Int)))))), (23, (.v (.one (.c (.int .i64 x6)))))], [(1, (.lst v1.length 1 (gl (csI .i64) v1))), (3, (.lst x7.length 1 (gl (csI .u8) x7)))]⟩) (ob := True ∧ True ∧ (0 ≤ (v1.getD x6.toNat default) ∧ (v1.getD x6.toNat default) < (a2.length : Int)) ∧ True ∧ (((((.flt .f32 (a2.getD ((v1.getD x6.toNat default).toNat) default).bits) : C) = (.flt .f32 (a2.getD ((v1.getD x6.toNat default).toNat) default).bits)) ∧ True) ∧ CallOK Try.prog 128 [.one (.flt .f32 (a2.getD ((v1.getD x6.toNat default).toNat) default).bits)] [.one (.int .i64 v11)]) ∧ True ∧ True) (by kernel_rfl) ⟨trivial, trivial, c10, trivial, ⟨⟨rfl, trivial⟩, ok_impl_BitsOf K (a2.getD ((v1.getD x6.toNat default).toNat) default) v11 e12⟩, trivial, trivial⟩ ?_
    refine thenQ_normal ?_
    obtain ⟨c13, h⟩ := chk_some h
    obtain ⟨c14, h⟩ := chk_some h
    obtain ⟨c15, h⟩ := chk_some h
    obtain ⟨c16, h⟩ := chk_some h
    refine AW.regionA [.no, .no, .no, .no, .no, .no, .no, .no, .no, .no, .no, .no, .no, .no, .obj 8 ([(IntKind.u8.wrap (v1.getD x6.toNat default)), (IntKind.u8.wrap v11), (IntKind.u8.wrap (v11.fdiv (2 ^ (min (8 : Int).toNat (IntKind.bits .i64))))), (IntKind.u8.wrap (v11.fdiv (2 ^ (min (16 : Int).toNat (IntKind.bits .i64))))), (IntKind.u8.wrap (v11.fdiv (2 ^ (min (24 : Int).toNat (IntKind.bits .i64)))))]).length (gl (csI .u8) ([(IntKind.u8.wrap (v1.getD x6.toNat default)), (IntKind.u8.wrap v11), (IntKind.u8.wrap (v11.fdiv (2 ^ (min (8 : Int).toNat (IntKind.bits .i64))))), (IntKind.u8.wrap (v11.fdiv (2 ^ (min (16 : Int).toNat (IntKind.bits .i64))))), (IntKind.u8.wrap (v11.fdiv (2 ^ (min (24 : Int).toNat (IntKind.bits .i64)))))])), .obj 9 (x7 ++ ([(IntKind.u8.wrap (v1.getD x6.toNat default)), (IntKind.u8.wrap v11), (IntKind.u8.wrap (v11.fdiv (2 ^ (min (8 : Int).toNat (IntKind.bits .i64))))), (IntKind.u8.wrap (v11.fdiv (2 ^ (min (16 : Int).toNat (IntKind.bits .i64))))), (IntKind.u8.wrap (v11.fdiv (2 ^ (min (24 : Int).toNat (IntKind.bits .i64)))))])).length (gl (csI .u8) (x7 ++ ([(IntKind.u8.wrap (v1.getD x6.toNat default)), (IntKind.u8.wrap v11), (IntKind.u8.wrap (v11.fdiv (2 ^ (min (8 : Int).toNat (IntKind.bits .i64))))), (IntKind.u8.wrap (v11.fdiv (2 ^ (min (16 : Int).toNat (IntKind.bits .i64))))), (IntKind.u8.wrap (v11.fdiv (2 ^ (min (24 : Int).toNat (IntKind.bits .i64)))))])))] [0, 1, 2, 21, 22, 23] [1, 9] (s' := ⟨[(0, (.v (.one (.lst 9 (x7 ++ ([(IntKind.u8.wrap (v1.getD x6.toNat default)), (IntKind.u8.wrap v11), (IntKind.u8.wrap (v11.fdiv (2 ^ (min (8 : Int).toNat (IntKind.bits .i64))))), (IntKind.u8.wrap (v11.fdiv (2 ^ (min (16 : Int).toNat (IntKind.bits .i64))))), (IntKind.u8.wrap (v11.fdiv (2 ^ (min (24 : Int).toNat (IntKind.bits .i64)))))])).length 1 (gl (csI .u8) (x7 ++ ([(IntKind.u8.wrap (v1.getD x6.toNat default)), (IntKind.u8.wrap v11), (IntKind.u8.wrap (v11.fdiv (2 ^ (min (8 : Int).toNat (IntKind.bits .i64))))), (IntKind.u8.wrap (v11.fdiv (2 ^ (min (16 : Int).toNat (IntKind.bits .i64))))), (IntKind.u8.wrap (v11.fdiv (2 ^ (min (24 : Int).toNat (IntKind.bits .i64)))))]))))))), (1, (.v (.one (.c (sl 1 (csF .f32) a1))))), (2, (.v (.one (.c (sl 1 (csF .f32) a2))))), (21, (.v (.one (.lst 1 v1.length 1 (gl (csI .i64) v1))))), (22, (.v (.one (.c (.int .i64 (v1.length : Int)))))), (23, (.v (.one (.c (.int .i64 x6)))))], [(1, (.lst v1.length 1 (gl (csI .i64) v1))), (9, (.lst (x7 ++ ([(IntKind.u8.wrap (v1.getD x6.toNat default)), (IntKind.u8.wrap v11), (IntKind.u8.wrap (v11.fdiv (2 ^ (min (8 : Int).toNat (IntKind.bits .i64))))), (IntKind.u8.wrap (v11.fdiv (2 ^ (min (16 : Int).toNat (IntKind.bits .i64))))), (IntKind.u8.wrap (v11.fdiv (2 ^ (min (24 : Int).toNat (IntKind.bits .i64)))))])).length 1 (gl (csI .u8) (x7 ++ ([(IntKind.u8.wrap (v1.getD x6.toNat default)), (IntKind.u8.wrap v11), (IntKind.u8.wrap (v11.fdiv (2 ^ (min (8 : Int).toNat (IntKind.bits .i64))))), (IntKind.u8.wrap (v11.fdiv (2 ^ (min (16 : Int).toNat (IntKind.bits .i64))))), (IntKind.u8.wrap (v11.fdiv (2 ^ (min (24 : Int).toNat (IntKind.bits .i64)))))])))))]⟩) (ob := True ∧ True ∧ True ∧ True ∧ True ∧ True ∧ (0 ≤ (8 : Int)) ∧ True ∧ True ∧ (0 ≤ (16 : Int)) ∧ True ∧ True ∧ (0 ≤ (24 : Int)) ∧ True ∧ (([(IntKind.u8.wrap (v1.getD x6.toNat default)), (IntKind.u8.wrap v11), (IntKind.u8.wrap (v11.fdiv (2 ^ (min (8 : Int).toNat (IntKind.bits .i64))))), (IntKind.u8.wrap (v11.fdiv (2 ^ (min (16 : Int).toNat (IntKind.bits .i64))))), (IntKind.u8.wrap (v11.fdiv (2 ^ (min (24 : Int).toNat (IntKind.bits .i64)))))]).length = 5 ∧ (((.int .u8 (IntKind.u8.wrap (v1.getD x6.toNat default))) : C) = (.int .u8 (IntKind.u8.wrap (v1.getD x6.toNat default))) ∧ True) ∧ (((.int .u8 (IntKind.u8.wrap v11)) : C) = (.int .u8 (IntKind.u8.wrap v11)) ∧ True) ∧ (((.int .u8 (IntKind.u8.wrap (v11.fdiv (2 ^ (min (8 : Int).toNat (IntKind.bits .i64)))))) : C) = (.int .u8 (IntKind.u8.wrap (v11.fdiv (2 ^ (min (8 : Int).toNat (IntKind.bits .i64)))))) ∧ True) ∧ (((.int .u8 (IntKind.u8.wrap (v11.fdiv (2 ^ (min (16 : Int).toNat (IntKind.bits .i64)))))) : C) = (.int .u8 (IntKind.u8.wrap (v11.fdiv (2 ^ (min (16 : Int).toNat (IntKind.bits .i64)))))) ∧ True) ∧ (((.int .u8 (IntKind.u8.wrap (v11.fdiv (2 ^ (min (24 : Int).toNat (IntKind.bits .i64)))))) : C) = (.int .u8 (IntKind.u8.wrap (v11.fdiv (2 ^ (min (24 : Int).toNat (IntKind.bits .i64)))))) ∧ True) ∧ True) ∧ ((x7 ++ ([(IntKind.u8.wrap (v1.getD x6.toNat default)), (IntKind.u8.wrap v11), (IntKind.u8.wrap (v11.fdiv (2 ^ (min (8 : Int).toNat (IntKind.bits .i64))))), (IntKind.u8.wrap (v11.fdiv (2 ^ (min (16 : Int).toNat (IntKind.bits .i64))))), (IntKind.u8.wrap (v11.fdiv (2 ^ (min (24 : Int).toNat (IntKind.bits .i64)))))])).length = x7.length + ([(IntKind.u8.wrap (v1.getD x6.toNat default)), (IntKind.u8.wrap v11), (IntKind.u8.wrap (v11.fdiv (2 ^ (min (8 : Int).toNat (IntKind.bits .i64))))), (IntKind.u8.wrap (v11.fdiv (2 ^ (min (16 : Int).toNat (IntKind.bits .i64))))), (IntKind.u8.wrap (v11.fdiv (2 ^ (min (24 : Int).toNat (IntKind.bits .i64)))))]).length ∧ AppOb (x7.length) (([(IntKind.u8.wrap (v1.getD x6.toNat default)), (IntKind.u8.wrap v11), (IntKind.u8.wrap (v11.fdiv (2 ^ (min (8 : Int).toNat (IntKind.bits .i64))))), (IntKind.u8.wrap (v11.fdiv (2 ^ (min (16 : Int).toNat (IntKind.bits .i64))))), (IntKind.u8.wrap (v11.fdiv (2 ^ (min (24 : Int).toNat (IntKind.bits .i64)))))]).length) 1 (gl (csI .u8) x7) (gl (csI .u8) ([(IntKind.u8.wrap (v1.getD x6.toNat default)), (IntKind.u8.wrap v11), (IntKind.u8.wrap (v11.fdiv (2 ^ (min (8 : Int).toNat (IntKind.bits .i64))))), (IntKind.u8.wrap (v11.fdiv (2 ^ (min (16 : Int).toNat (IntKind.bits .i64))))), (IntKind.u8.wrap (v11.fdiv (2 ^ (min (24 : Int).toNat (IntKind.bits .i64)))))])) (gl (csI .u8) (x7 ++ ([(IntKind.u8.wrap (v1.getD x6.toNat default)), (IntKind.u8.wrap v11), (IntKind.u8.wrap (v11.fdiv (2 ^ (min (8 : Int).toNat (IntKind.bits .i64))))), (IntKind.u8.wrap (v11.fdiv (2 ^ (min (16 : Int).toNat (IntKind.bits .i64))))), (IntKind.u8.wrap (v11.fdiv (2 ^ (min (24 : Int).toNat (IntKind.bits .i64)))))]))) ∧ True ∧ (x7.length + ([(IntKind.u8.wrap (v1.getD x6.toNat default)), (IntKind.u8.wrap v11), (IntKind.u8.wrap (v11.fdiv (2 ^ (min (8 : Int).toNat (IntKind.bits .i64))))), (IntKind.u8.wrap (v11.fdiv (2 ^ (min (16 : Int).toNat (IntKind.bits .i64))))), (IntKind.u8.wrap (v11.fdiv (2 ^ (min (24 : Int).toNat (IntKind.bits .i64)))))]).length) * 1 ≤ 140737488355328) ∧ True ∧ True) (by kernel_rfl) ⟨trivial, trivial, trivial, trivial, trivial, trivial, c13, trivial, trivial, c14, trivial, trivial, c15, trivial, ⟨rfl, ⟨⟨rfl, trivial⟩, ⟨rfl, trivial⟩, ⟨rfl, trivial⟩, ⟨rfl, trivial⟩, ⟨rfl, trivial⟩, trivial⟩⟩, ⟨List.length_append, gl_append, trivial, c16⟩, trivial, trivial⟩ ?_
    refine blockQ_normal ?_
    refine thenQ_normal ?_
    refine AW.regionA [] [0, 1, 2, 21, 22, 23] [1, 9] (s' := ⟨[(0, (.v (.one (.lst 9 (x7 ++ ([(IntKind.u8.wrap (v1.getD x6.toNat default)), (IntKind.u8.wrap v11), (IntKind.u8.wrap (v11.fdiv (2 ^ (min (8 : Int).toNat (IntKind.bits .i64))))), (IntKind.u8.wrap (v11.fdiv (2 ^ (min (16 : Int).toNat (IntKind.bits .i64))))), (IntKind.u8.wrap (v11.fdiv (2 ^ (min (24 : Int).toNat (IntKind.bits .i64)))))])).length 1 (gl (csI .u8) (x7 ++ ([(IntKind.u8.wrap (v1.getD x6.toNat default)), (IntKind.u8.wrap v11), (IntKind.u8.wrap (v11.fdiv (2 ^ (min (8 : Int).toNat (IntKind.bits .i64))))), (IntKind.u8.wrap (v11.fdiv (2 ^ (min (16 : Int).toNat (IntKind.bits .i64))))), (IntKind.u8.wrap (v11.fdiv (2 ^ (min (24 : Int).toNat (IntKind.bits .i64)))))]))))))), (1, (.v (.one (.c (sl 1 (csF .f32) a1))))), (2, (.v (.one (.c (sl 1 (csF .f32) a2))))), (21, (.v (.one (.lst 1 v1.length 1 (gl (csI .i64) v1))))), (22, (.v (.one (.c (.int .i64 (v1.length : Int)))))), (23, (.v (.one (.c (.int .i64 (IntKind.i64.wrap (x6 + (1 : Int))))))))], [(1, (.lst v1.length 1 (gl (csI .i64) v1))), (9, (.lst (x7 ++ ([(IntKind.u8.wrap (v1.getD x6.toNat default)), (IntKind.u8.wrap v11), (IntKind.u8.wrap (v11.fdiv (2 ^ (min (8 : Int).toNat (IntKind.bits .i64))))), (IntKind.u8.wrap (v11.fdiv (2 ^ (min (16 : Int).toNat (IntKind.bits .i64))))), (IntKind.u8.wrap (v11.fdiv (2 ^ (min (24 : Int).toNat (IntKind.bits .i64)))))])).length 1 (gl (csI .u8) (x7 ++ ([(IntKind.u8.wrap (v1.getD x6.toNat default)), (IntKind.u8.wrap v11), (IntKind.u8.wrap (v11.fdiv (2 ^ (min (8 : Int).toNat (IntKind.bits .i64))))), (IntKind.u8.wrap (v11.fdiv (2 ^ (min (16 : Int).toNat (IntKind.bits .i64))))), (IntKind.u8.wrap (v11.fdiv (2 ^ (min (24 : Int).toNat (IntKind.bits .i64)))))])))))]⟩) (ob := True ∧ True ∧ True) (by kernel_rfl) ⟨trivial, trivial, trivial⟩ ?_
    exact loopQ_normal (k, (IntKind.i64.wrap (x6 + (1 : Int))), (x7 ++ ([(IntKind.u8.wrap (v1.getD x6.toNat default)), (IntKind.u8.wrap v11), (IntKind.u8.wrap (v11.fdiv (2 ^ (min (8 : Int).toNat (IntKind.bits .i64))))), (IntKind.u8.wrap (v11.fdiv (2 ^ (min (16 : Int).toNat (IntKind.bits .i64))))), (IntKind.u8.wrap (v11.fdiv (2 ^ (min (24 : Int).toNat (IntKind.bits .i64)))))]))) h (Nat.lt_succ_self k) (Sub.trans (Sub.swap 3 9 _ (by kernel_rfl) (by kernel_rfl)) (Sub.keep [0, 1, 2, 21, 22, 23] [1, 3] (by kernel_rfl) (by kernel_rfl)))
  · refine AW.cond_f rfl b8 ?_
    refine AW.exit ?_
    refine thenQ_exit ?_
    refine loopQ_exit ?_
    refine blockQ_exit ?_
    refine thenQ_normal ?_
    refine AW.seq ?_
    obtain ⟨c17, h⟩ := chk_some h
    obtain ⟨v18, e19, h⟩ := bind_some h
    refine AW.regionA [.no, .str (strOf x7), .call [.one (.int .i64 (0 : Int)), .one (.str (strOf x7))] [.one (.int .i64 v18)] [[.view]]] [0, 1, 2, 11] [3] (s' := ⟨[(0, (.v (.one (.lst 3 x7.length 1 (gl (csI .u8) x7))))), (1, (.v (.one (.c (sl 1 (csF .f32) a1))))), (2, (.v (.one (.c (sl 1 (csF .f32) a2))))), (11, (.v (.one (.c (.int .i64 v18)))))], [(3, (.lst x7.length 1 (gl (csI .u8) x7)))]⟩) (ob := True ∧ (bytesOb (strOf x7) x7.length (gl (csI .u8) x7)) ∧ (((((.int .i64 (0 : Int)) : C) = (.int .i64 (0 : Int))) ∧ (((.str (strOf x7)) : C) = (.str (strOf x7))) ∧ True) ∧ CallOK Try.prog 129 [.one (.int .i64 (0 : Int)), .one (.str (strOf x7))] [.one (.int .i64 v18)]) ∧ True ∧ True) (by kernel_rfl) ⟨trivial, strOf_ob c17, ⟨⟨rfl, rfl, trivial⟩, ok_impl_check K (0 : Int) (strOf x7) v18 e19⟩, trivial, trivial⟩ ?_
    refine thenQ_normal ?_
    refine AW.seq ?_
    obtain ⟨c20, h⟩ := chk_some h
    obtain ⟨c21, h⟩ := chk_some h
    refine AW.regionA [.no, .no, .no, .no, .no, .no, .obj 10 ([(IntKind.u8.wrap v18), (IntKind.u8.wrap (v18.fdiv (2 ^ (min (8 : Int).toNat (IntKind.bits .i64)))))]).length (gl (csI .u8) ([(IntKind.u8.wrap v18), (IntKind.u8.wrap (v18.fdiv (2 ^ (min (8 : Int).toNat (IntKind.bits .i64)))))])), .obj 11 (x7 ++ ([(IntKind.u8.wrap v18), (IntKind.u8.wrap (v18.fdiv (2 ^ (min (8 : Int).toNat (IntKind.bits .i64)))))])).length (gl (csI .u8) (x7 ++ ([(IntKind.u8.wrap v18), (IntKind.u8.wrap (v18.fdiv (2 ^ (min (8 : Int).toNat (IntKind.bits .i64)))))])))] [0, 1, 2, 6] [11] (s' := ⟨[(0, (.v (.one (.lst 3 x7.length 1 (gl (csI .u8) x7))))), (1, (.v (.one (.c (sl 1 (csF .f32) a1))))), (2, (.v (.one (.c (sl 1 (csF .f32) a2))))), (6, (.v (.one (.lst 11 (x7 ++ ([(IntKind.u8.wrap v18), (IntKind.u8.wrap (v18.fdiv (2 ^ (min (8 : Int).toNat (IntKind.bits .i64)))))])).length 1 (gl (csI .u8) (x7 ++ ([(IntKind.u8.wrap v18), (IntKind.u8.wrap (v18.fdiv (2 ^ (min (8 : Int).toNat (IntKind.bits .i64)))))])))))))], [(11, (.lst (x7 ++ ([(IntKind.u8.wrap v18), (IntKind.u8.wrap (v18.fdiv (2 ^ (min (8 : Int).toNat (IntKind.bits .i64)))))])).length 1 (gl (csI .u8) (x7 ++ ([(IntKind.u8.wrap v18), (IntKind.u8.wrap (v18.fdiv (2 ^ (min (8 : Int).toNat (IntKind.bits .i64)))))])))))]⟩) (ob := True ∧ True ∧ True ∧ True ∧ (0 ≤ (8 : Int)) ∧ True ∧ (([(IntKind.u8.wrap v18), (IntKind.u8.wrap (v18.fdiv (2 ^ (min (8 : Int).toNat (IntKind.bits .i64)))))]).length = 2 ∧ (((.int .u8 (IntKind.u8.wrap v18)) : C) = (.int .u8 (IntKind.u8.wrap v18)) ∧ True) ∧ (((.int .u8 (IntKind.u8.wrap (v18.fdiv (2 ^ (min (8 : Int).toNat (IntKind.bits .i64)))))) : C) = (.int .u8 (IntKind.u8.wrap (v18.fdiv (2 ^ (min (8 : Int).toNat (IntKind.bits .i64)))))) ∧ True) ∧ True) ∧ ((x7 ++ ([(IntKind.u8.wrap v18), (IntKind.u8.wrap (v18.fdiv (2 ^ (min (8 : Int).toNat (IntKind.bits .i64)))))])).length = x7.length + ([(IntKind.u8.wrap v18), (IntKind.u8.wrap (v18.fdiv (2 ^ (min (8 : Int).toNat (IntKind.bits .i64)))))]).length ∧ AppOb (x7.length) (([(IntKind.u8.wrap v18), (IntKind.u8.wrap (v18.fdiv (2 ^ (min (8 : Int).toNat (IntKind.bits .i64)))))]).length) 1 (gl (csI .u8) x7) (gl (csI .u8) ([(IntKind.u8.wrap v18), (IntKind.u8.wrap (v18.fdiv (2 ^ (min (8 : Int).toNat (IntKind.bits .i64)))))])) (gl (csI .u8) (x7 ++ ([(IntKind.u8.wrap v18), (IntKind.u8.wrap (v18.fdiv (2 ^ (min (8 : Int).toNat (IntKind.bits .i64)))))]))) ∧ True ∧ (x7.length + ([(IntKind.u8.wrap v18), (IntKind.u8.wrap (v18.fdiv (2 ^ (min (8 : Int).toNat (IntKind.bits .i64)))))]).length) * 1 ≤ 140737488355328) ∧ True ∧ True) (by kernel_rfl) ⟨trivial, trivial, trivial, trivial, c20, trivial, ⟨rfl, ⟨⟨rfl, trivial⟩, ⟨rfl, trivial⟩, trivial⟩⟩, ⟨List.length_append, gl_append, trivial, c21⟩, trivial, trivial⟩ ?_
    refine thenQ_normal ?_
    refine AW.ret ?_
    replace h := some_eq h
    subst h
    exact ⟨.inr rfl, retOK_of [(.one (.lst 11 (x7 ++ ([(IntKind.u8.wrap v18), (IntKind.u8.wrap (v18.fdiv (2 ^ (min (8 : Int).toNat (IntKind.bits .i64)))))])).length 1 (gl (csI .u8) (x7 ++ ([(IntKind.u8.wrap v18), (IntKind.u8.wrap (v18.fdiv (2 ^ (min (8 : Int).toNat (IntKind.bits .i64)))))])))))] (by kernel_rfl) ⟨rfl, trivial⟩ (of_decide_eq_true (by kernel_rfl)), by kernel_rfl, ⟨trivial, trivial, trivial, trivial⟩⟩

/-! impl.StoreRecording -/
def impl_StoreRecording_l1 (K : Nat) (a0 : Recording) : Nat → Int → (List Int) → (List F32) → Option (ByteArray × Bool)
  | 0, _, _, _ => none
  | k + 1, x11, x12, x13 => ite2 ((decide (x11 < (a0.Frames.length : Int)))) (chk (0 ≤ x11 ∧ x11 < (a0.Frames.length : Int)) ((impl_listed K (a0.Frames.getD x11.toNat default)).bind fun v16 => (impl_record K x12 x13 v16).bind fun v18 => impl_StoreRecording_l1 K a0 k (IntKind.i64.wrap (x11 + (1 : Int))) v18 v16)) (chk (∀ x ∈ x12, 0 ≤ x ∧ x < 256) (some ((strOf x12), true)))

def impl_StoreRecording (K : Nat) (a0 : Recording) : Option (ByteArray × Bool) :=
  (impl_ValidRecording K a0).bind fun v1 => ite2 ((!v1)) (some (ByteArray.empty, false)) ((impl_header K a0.Bones).bind fun v4 => (impl_none K a0.Bones).bind fun v6 => impl_StoreRecording_l1 K a0 K (0 : Int) v4 v6)

theorem ok_impl_StoreRecording (K : Nat) (a0 : Recording) (o : (ByteArray × Bool)) (h : impl_StoreRecording K a0 = some o) : CallOK Try.prog 31 [.agg (cs_Recording a0)] [.one (.str o.1), .one (.bool o.2)] := by
  refine callOK_of_AW Try.func31 rfl (by kernel_rfl) (Nat.le_of_ble_eq_true (by kernel_rfl)) ?_
  intro w0
  unfold impl_StoreRecording at h
  refine AW.seq ?_
  refine AW.regionA [.box 1] [1] [1] (s' := ⟨[(1, (.v (.one (.ptr 1 0))))], [(1, (.box [(.c (.int .i64 a0.Bones)), (.c (sl 4 cs_Pose a0.Frames))]))]⟩) (ob := True ∧ True ∧ True ∧ True) (by kernel_rfl) ⟨trivial, trivial, trivial, trivial⟩ ?_
  refine thenQ_normal ?_
  refine AW.seq ?_
  refine AW.seq ?_
  obtain ⟨v1, e2, h⟩ := bind_some h
  refine AW.regionA [.no, .call [.agg (cs_Recording a0)] [.one (.bool v1)] [[.view]]] [1, 11] [1] (s' := ⟨[(1, (.v (.one (.ptr 1 0)))), (11, (.v (.one (.c (.bool (!v1))))))], [(1, (.box [(.c (.int .i64 a0.Bones)), (.c (sl 4 cs_Pose a0.Frames))]))]⟩) (ob := True ∧ ((((((.int .i64 a0.Bones) : C) = (.int .i64 a0.Bones)) ∧ (((sl 4 cs_Pose a0.Frames) : C) = (sl 4 cs_Pose a0.Frames)) ∧ True) ∧ True) ∧ CallOK Try.prog 53 [.agg (cs_Recording a0)] [.one (.bool v1)]) ∧ True ∧ True) (by kernel_rfl) ⟨trivial, ⟨⟨⟨rfl, rfl, trivial⟩, trivial⟩, ok_impl_ValidRecording K a0 v1 e2⟩, trivial, trivial⟩ ?_
  refine thenQ_normal ?_
  rcases ite2_cases h with ⟨b3, h⟩ | ⟨b3, h⟩
  · refine AW.cond_t rfl b3 ?_
    refine AW.seq ?_
    refine AW.regionA [] [2, 3] [] (s' := ⟨[(2, (.v (.one (.c (.str ByteArray.empty))))), (3, (.v (.one (.c (.bool false)))))], []⟩) (ob := True ∧ True ∧ True) (by kernel_rfl) ⟨trivial, trivial, trivial⟩ ?_
    refine thenQ_normal ?_
    refine AW.ret ?_
    refine thenQ_ret ?_
    replace h := some_eq h
    subst h
    exact ⟨.inr rfl, retOK_of [(.one (.c (.str ByteArray.empty))), (.one (.c (.bool false)))] (by kernel_rfl) ⟨⟨rfl, trivial⟩, ⟨rfl, trivial⟩, trivial⟩ (of_decide_eq_true (by kernel_rfl))⟩
  · refine AW.cond_f rfl b3 ?_
    refine AW.skip ?_
    refine thenQ_normal ?_
    refine AW.seq ?_
    obtain ⟨v4, e5, h⟩ := bind_some h
    refine AW.regionA [.no, .no, .call [.one (.int .i64 a0.Bones)] [.one (sl 1 (csI .u8) v4)] [[.own 2]]] [1, 4] [1, 2] (s' := ⟨[(1, (.v (.one (.ptr 1 0)))), (4, (.v (.one (.arr 2))))], [(1, (.box [(.c (.int .i64 a0.Bones)), (.c (sl 4 cs_Pose a0.Frames))])), (2, (.arr true v4.length 1 (gl (csI .u8) v4)))]⟩) (ob := True ∧ True ∧ (((((.int .i64 a0.Bones) : C) = (.int .i64 a0.Bones)) ∧ True) ∧ CallOK Try.prog 82 [.one (.int .i64 a0.Bones)] [.one (sl 1 (csI .u8) v4)]) ∧ True ∧ True) (by kernel_rfl) ⟨trivial, trivial, ⟨⟨rfl, trivial⟩, ok_impl_header K a0.Bones v4 e5⟩, trivial, trivial⟩ ?_
    refine thenQ_normal ?_
    refine AW.seq ?_
    obtain ⟨v6, e7, h⟩ := bind_some h
    refine AW.regionA [.no, .no, .call [.one (.int .i64 a0.Bones)] [.one (sl 1 (csF .f32) v6)] [[.lst 3]]] [1, 4, 5] [1, 2, 3] (s' := ⟨[(1, (.v (.one (.ptr 1 0)))), (4, (.v (.one (.arr 2)))), (5, (.v (.one (.lst 3 v6.length 1 (gl (csF .f32) v6)))))], [(1, (.box [(.c (.int .i64 a0.Bones)), (.c (sl 4 cs_Pose a0.Frames))])), (2, (.arr true v4.length 1 (gl (csI .u8) v4))), (3, (.lst v6.length 1 (gl (csF .f32) v6)))]⟩) (ob := True ∧ True ∧ (((((.int .i64 a0.Bones) : C) = (.int .i64 a0.Bones)) ∧ True) ∧ CallOK Try.prog 83 [.one (.int .i64 a0.Bones)] [.one (sl 1 (csF .f32) v6)]) ∧ True ∧ True) (by kernel_rfl) ⟨trivial, trivial, ⟨⟨rfl, trivial⟩, ok_impl_none K a0.Bones v6 e7⟩, trivial, trivial⟩ ?_
    refine thenQ_normal ?_
    refine AW.seq ?_
    refine AW.seq ?_
    refine AW.regionA [] [4, 5, 19, 20, 21] [2, 3] (s' := ⟨[(4, (.v (.one (.arr 2)))), (5, (.v (.one (.lst 3 v6.length 1 (gl (csF .f32) v6))))), (19, (.v (.one (.c (sl 4 cs_Pose a0.Frames))))), (20, (.v (.one (.c (.int .i64 (a0.Frames.length : Int)))))), (21, (.v (.one (.c (.int .i64 (0 : Int))))))], [(2, (.arr true v4.length 1 (gl (csI .u8) v4))), (3, (.lst v6.length 1 (gl (csF .f32) v6)))]⟩) (ob := True ∧ True ∧ True ∧ True ∧ True) (by kernel_rfl) ⟨trivial, trivial, trivial, trivial, trivial⟩ ?_
    refine thenQ_normal ?_
    refine AW.block ?_
    refine AW.loopQ (σ := Nat × Int × (List Int) × (List F32)) (fun p => ⟨[(4, (.v (.one (.arr 2)))), (5, (.v (.one (.lst 3 p.2.2.2.length 1 (gl (csF .f32) p.2.2.2))))), (19, (.v (.one (.c (sl 4 cs_Pose a0.Frames))))), (20, (.v (.one (.c (.int .i64 (a0.Frames.length : Int)))))), (21, (.v (.one (.c (.int .i64 p.2.1)))))], [(2, (.arr true p.2.2.1.length 1 (gl (csI .u8) p.2.2.1))), (3, (.lst p.2.2.2.length 1 (gl (csF .f32) p.2.2.2)))]⟩) (fun p => impl_StoreRecording_l1 K a0 p.1 p.2.1 p.2.2.1 p.2.2.2 = some o) (fun p => p.1) (K, (0 : Int), v4, v6) h ?_
    clear h
    rintro ⟨k, x11, x12, x13⟩ h
    replace h : impl_StoreRecording_l1 K a0 k x11 x12 x13 = some o := h
    show AW _ _ (⟨[(4, (.v (.one (.arr 2)))), (5, (.v (.one (.lst 3 x13.length 1 (gl (csF .f32) x13))))), (19, (.v (.one (.c (sl 4 cs_Pose a0.Frames))))), (20, (.v (.one (.c (.int .i64 (a0.Frames.length : Int)))))), (21, (.v (.one (.c (.int .i64 x11)))))], [(2, (.arr true x12.length 1 (gl (csI .u8) x12))), (3, (.lst x13.length 1 (gl (csF .f32) x13)))]⟩ : St) _
    obtain _ | k := k
    · rw [impl_StoreRecording_l1] at h; cases h
    rw [impl_StoreRecording_l1] at h
    refine AW.seq ?_
    refine AW.regionA [] [4, 5, 19, 20, 21, 22] [2, 3] (s' := ⟨[(4, (.v (.one (.arr 2)))), (5, (.v (.one (.lst 3 x13.length 1 (gl (csF .f32) x13))))), (19, (.v (.one (.c (sl 4 cs_Pose a0.Frames))))), (20, (.v (.one (.c (.int .i64 (a0.Frames.length : Int)))))), (21, (.v (.one (.c (.int .i64 x11))))), (22, (.v (.one (.c (.bool (decide (x11 < (a0.Frames.length : Int))))))))], [(2, (.arr true x12.length 1 (gl (csI .u8) x12))), (3, (.lst x13.length 1 (gl (csF .f32) x13)))]⟩) (ob := True ∧ True) (by kernel_rfl) ⟨trivial, trivial⟩ ?_
    refine thenQ_normal ?_
    refine AW.seq ?_
    rcases ite2_cases h with ⟨b14, h⟩ | ⟨b14, h⟩
    · refine AW.cond_t rfl b14 ?_
      refine AW.skip ?_
      refine thenQ_normal ?_
      refine AW.seq ?_
      refine AW.block ?_
      refine AW.seq ?_
      obtain ⟨c15, h⟩ := chk_some h
      refine AW.regionA [.no, .no, .box 10] [4, 5, 7, 19, 20, 21] [2, 3, 10] (s' := ⟨[(4, (.v (.one (.arr 2)))), (5, (.v (.one (.lst 3 x13.length 1 (gl (csF .f32) x13))))), (7, (.v (.one (.ptr 10 0)))), (19, (.v (.one (.c (sl 4 cs_Pose a0.Frames))))), (20, (.v (.one (.c (.int .i64 (a0.Frames.length : Int)))))), (21, (.v (.one (.c (.int .i64 x11)))))], [(2, (.arr true x12.length 1 (gl (csI .u8) x12))), (3, (.lst x13.length 1 (gl (csF .f32) x13))), (10, (.box [(.c (.flt .f32 (((a0.Frames.getD x11.toNat default).Root).X).bits)), (.c (.flt .f32 (((a0.Frames.getD x11.toNat default).Root).Y).bits)), (.c (.flt .f32 (((a0.Frames.getD x11.toNat default).Root).Z).bits)), (.c (sl 4 cs_Turn ((a0.Frames.getD x11.toNat default).Turns)))]))]⟩) (ob := (0 ≤ x11 ∧ x11 < (a0.Frames.length : Int)) ∧ True ∧ True ∧ True ∧ True) (by kernel_rfl) ⟨c15, trivial, trivial, trivial, trivial⟩ ?_
      refine thenQ_normal ?_
      refine AW.seq ?_
      obtain ⟨v16, e17, h⟩ := bind_some h
      refine AW.regionA [.no, .call [.agg (cs_Pose (a0.Frames.getD x11.toNat default))] [.one (sl 1 (csF .f32) v16)] [[.lst 11]]] [4, 5, 8, 19, 20, 21] [2, 3, 11] (s' := ⟨[(4, (.v (.one (.arr 2)))), (5, (.v (.one (.lst 3 x13.length 1 (gl (csF .f32) x13))))), (8, (.v (.one (.lst 11 v16.length 1 (gl (csF .f32) v16))))), (19, (.v (.one (.c (sl 4 cs_Pose a0.Frames))))), (20, (.v (.one (.c (.int .i64 (a0.Frames.length : Int)))))), (21, (.v (.one (.c (.int .i64 x11)))))], [(2, (.arr true x12.length 1 (gl (csI .u8) x12))), (3, (.lst x13.length 1 (gl (csF .f32) x13))), (11, (.lst v16.length 1 (gl (csF .f32) v16)))]⟩) (ob := True ∧ ((((((.flt .f32 (((a0.Frames.getD x11.toNat default).Root).X).bits) : C) = (.flt .f32 (((a0.Frames.getD x11.toNat default).Root).X).bits)) ∧ (((.flt .f32 (((a0.Frames.getD x11.toNat default).Root).Y).bits) : C) = (.flt .f32 (((a0.Frames.getD x11.toNat default).Root).Y).bits)) ∧ (((.flt .f32 (((a0.Frames.getD x11.toNat default).Root).Z).bits) : C) = (.flt .f32 (((a0.Frames.getD x11.toNat default).Root).Z).bits)) ∧ (((sl 4 cs_Turn ((a0.Frames.getD x11.toNat default).Turns)) : C) = (sl 4 cs_Turn ((a0.Frames.getD x11.toNat default).Turns))) ∧ True) ∧ True) ∧ CallOK Try.prog 84 [.agg (cs_Pose (a0.Frames.getD x11.toNat default))] [.one (sl 1 (csF .f32) v16)]) ∧ True ∧ True) (by kernel_rfl) ⟨trivial, ⟨⟨⟨rfl, rfl, rfl, rfl, trivial⟩, trivial⟩, ok_impl_listed K (a0.Frames.getD x11.toNat default) v16 e17⟩, trivial, trivial⟩ ?_
      refine thenQ_normal ?_
      refine AW.seq ?_
      obtain ⟨v18, e19, h⟩ := bind_some h
      refine AW.regionA [.no, .no, .no, .callM [(.one (.mv (sl 1 (csI .u8) x12))), .one (.ro (sl 1 (csF .f32) x13)), .one (.ro (sl 1 (csF .f32) v16))] [.one (sl 1 (csI .u8) v18)] [[.own 12]] none] [4, 8, 19, 20, 21] [11, 12] (s' := ⟨[(4, (.v (.one (.arr 12)))), (8, (.v (.one (.lst 11 v16.length 1 (gl (csF .f32) v16))))), (19, (.v (.one (.c (sl 4 cs_Pose a0.Frames))))), (20, (.v (.one (.c (.int .i64 (a0.Frames.length : Int)))))), (21, (.v (.one (.c (.int .i64 x11)))))], [(11, (.lst v16.length 1 (gl (csF .f32) v16))), (12, (.arr true v18.length 1 (gl (csI .u8) v18)))]⟩) (ob := True ∧ True ∧ True ∧ (((((sl 1 (csI .u8) x12) : C) = (sl 1 (csI .u8) x12)) ∧ (((sl 1 (csF .f32) x13) : C) = (sl 1 (csF .f32) x13)) ∧ (((sl 1 (csF .f32) v16) : C) = (sl 1 (csF .f32) v16)) ∧ True) ∧ MutOK Try.prog 85 [(.one (.mv (sl 1 (csI .u8) x12))), .one (.ro (sl 1 (csF .f32) x13)), .one (.ro (sl 1 (csF .f32) v16))] [.one (sl 1 (csI .u8) v18)]) ∧ True ∧ True) (by kernel_rfl) ⟨trivial, trivial, trivial, ⟨⟨rfl, rfl, rfl, trivial⟩, ok_impl_record K x12 x13 v16 v18 e19⟩, trivial, trivial⟩ ?_
      refine thenQ_normal ?_
      refine AW.regionA [] [4, 5, 19, 20, 21] [11, 12] (s' := ⟨[(4, (.v (.one (.arr 12)))), (5, (.v (.one (.lst 11 v16.length 1 (gl (csF .f32) v16))))), (19, (.v (.one (.c (sl 4 cs_Pose a0.Frames))))), (20, (.v (.one (.c (.int .i64 (a0.Frames.length : Int)))))), (21, (.v (.one (.c (.int .i64 x11)))))], [(11, (.lst v16.length 1 (gl (csF .f32) v16))), (12, (.arr true v18.length 1 (gl (csI .u8) v18)))]⟩) (ob := True ∧ True ∧ True) (by kernel_rfl) ⟨trivial, trivial, trivial⟩ ?_
      refine blockQ_normal ?_
      refine thenQ_normal ?_
      refine AW.regionA [] [4, 5, 19, 20, 21] [11, 12] (s' := ⟨[(4, (.v (.one (.arr 12)))), (5, (.v (.one (.lst 11 v16.length 1 (gl (csF .f32) v16))))), (19, (.v (.one (.c (sl 4 cs_Pose a0.Frames))))), (20, (.v (.one (.c (.int .i64 (a0.Frames.length : Int)))))), (21, (.v (.one (.c (.int .i64 (IntKind.i64.wrap (x11 + (1 : Int))))))))], [(11, (.lst v16.length 1 (gl (csF .f32) v16))), (12, (.arr true v18.length 1 (gl (csI .u8) v18)))]⟩) (ob := True ∧ True ∧ True) (by kernel_rfl) ⟨trivial, trivial, trivial⟩ ?_
      exact loopQ_normal (k, (IntKind.i64.wrap (x11 + (1 : Int))), v18, v16) h (Nat.lt_succ_self k) (Sub.trans (Sub.swap 2 12 _ (by kernel_rfl) (by kernel_rfl)) (Sub.trans (Sub.swap 3 11 _ (by kernel_rfl) (by kernel_rfl)) (Sub.keep [4, 5, 19, 20, 21] [2, 3] (by kernel_rfl) (by kernel_rfl))))
    · refine AW.cond_f rfl b14 ?_
      refine AW.exit ?_
      refine thenQ_exit ?_
      refine loopQ_exit ?_
      refine blockQ_exit ?_
      refine thenQ_normal ?_
      refine AW.seq ?_
      obtain ⟨c20, h⟩ := chk_some h
      refine AW.regionA [.no, .str (strOf x12)] [2, 3] [] (s' := ⟨[(2, (.v (.one (.c (.str (strOf x12)))))), (3, (.v (.one (.c (.bool true)))))], []⟩) (ob := True ∧ (bytesOb (strOf x12) x12.length (gl (csI .u8) x12)) ∧ True ∧ True ∧ True) (by kernel_rfl) ⟨trivial, strOf_ob c20, trivial, trivial, trivial⟩ ?_
      refine thenQ_normal ?_
      refine AW.ret ?_
      replace h := some_eq h
      subst h
      exact ⟨.inr rfl, retOK_of [(.one (.c (.str (strOf x12)))), (.one (.c (.bool true)))] (by kernel_rfl) ⟨⟨rfl, trivial⟩, ⟨rfl, trivial⟩, trivial⟩ (of_decide_eq_true (by kernel_rfl))⟩

/-! laws.sameFloat -/
def laws_sameFloat (_K : Nat) (a0 : F64) (a1 : F64) : Option (Bool) :=
  (ite2 ((a0.ne a0)) (some true) (some (a1.ne a1))).bind fun j2 => ite2 (j2) ((ite2 ((a0.ne a0)) (some (a1.ne a1)) (some false)).bind fun j6 => some j6) ((ite2 ((a0.eq (Fl.mk (k := .f64) 0 (by decide)))) (some (a1.eq (Fl.mk (k := .f64) 0 (by decide)))) (some false)).bind fun j9 => ite2 (j9) (some ((((Fl.mk (k := .f64) 4607182418800017408 (by decide)).div a0).gt (Fl.mk (k := .f64) 0 (by decide))) == (((Fl.mk (k := .f64) 4607182418800017408 (by decide)).div a1).gt (Fl.mk (k := .f64) 0 (by decide))))) (some (a0.eq a1)))

theorem ok_laws_sameFloat (K : Nat) (a0 : F64) (a1 : F64) (o : (Bool)) (h : laws_sameFloat K a0 a1 = some o) : CallOK Try.prog 98 [.one (.flt .f64 a0.bits), .one (.flt .f64 a1.bits)] [.one (.bool o)] := by
  refine callOK_of_AW Try.func98 rfl (by kernel_rfl) (Nat.le_of_ble_eq_true (by kernel_rfl)) ?_
  intro w0
  unfold laws_sameFloat at h
  refine AW.seq ?_
  refine AW.regionA [] [0, 1] [] (s' := ⟨[(0, (.v (.one (.c (.flt .f64 a0.bits))))), (1, (.v (.one (.c (.flt .f64 a1.bits)))))], []⟩) (ob := True ∧ True) (by kernel_rfl) ⟨trivial, trivial⟩ ?_
  refine thenQ_normal ?_
  refine AW.seq ?_
  refine AW.seq ?_
  obtain ⟨j2, e3, h⟩ := bind_some h
  refine AW.join1 (s2 := ⟨[(0, (.v (.one (.c (.flt .f64 a0.bits))))), (1, (.v (.one (.c (.flt .f64 a1.bits))))), (12, (.v (.one (.c (.bool j2)))))], []⟩) ?_ ?_
  · rcases ite2_cases e3 with ⟨b1, e3⟩ | ⟨b1, e3⟩
    · replace e3 := some_eq e3
      subst e3
      exact AW.regionA [.no, .no, .no, .dec true] [0, 1, 12] [] (s' := ⟨[(0, (.v (.one (.c (.flt .f64 a0.bits))))), (1, (.v (.one (.c (.flt .f64 a1.bits))))), (12, (.v (.one (.c (.bool true)))))], []⟩) (ob := True ∧ True ∧ True ∧ (True ∧ (a0.ne a0) = true) ∧ True ∧ True ∧ True ∧ True ∧ True) (by kernel_rfl) ⟨trivial, trivial, trivial, ⟨trivial, b1⟩, trivial, trivial, trivial, trivial, trivial⟩ ⟨rfl, rfl⟩
    · replace e3 := some_eq e3
      subst e3
      exact AW.regionA [.no, .no, .no, .dec false] [0, 1, 12] [] (s' := ⟨[(0, (.v (.one (.c (.flt .f64 a0.bits))))), (1, (.v (.one (.c (.flt .f64 a1.bits))))), (12, (.v (.one (.c (.bool (a1.ne a1))))))], []⟩) (ob := True ∧ True ∧ True ∧ (True ∧ (a0.ne a0) = false) ∧ True ∧ True ∧ True ∧ True ∧ True) (by kernel_rfl) ⟨trivial, trivial, trivial, ⟨trivial, b1⟩, trivial, trivial, trivial, trivial, trivial⟩ ⟨rfl, rfl⟩
  refine thenQ_normal ?_
  rcases ite2_cases h with ⟨b4, h⟩ | ⟨b4, h⟩
  · refine AW.cond_t rfl b4 ?_
    refine AW.seq ?_
    obtain ⟨j6, e7, h⟩ := bind_some h
    refine AW.join1 (s2 := ⟨[(4, (.v (.one (.c (.bool j6)))))], []⟩) ?_ ?_
    · rcases ite2_cases e7 with ⟨b5, e7⟩ | ⟨b5, e7⟩
      · replace e7 := some_eq e7
        subst e7
        exact AW.regionA [.no, .no, .no, .dec true] [4] [] (s' := ⟨[(4, (.v (.one (.c (.bool (a1.ne a1))))))], []⟩) (ob := True ∧ True ∧ True ∧ (True ∧ (a0.ne a0) = true) ∧ True ∧ True ∧ True ∧ True ∧ True ∧ True) (by kernel_rfl) ⟨trivial, trivial, trivial, ⟨trivial, b5⟩, trivial, trivial, trivial, trivial, trivial, trivial⟩ ⟨rfl, rfl⟩
      · replace e7 := some_eq e7
        subst e7
        exact AW.regionA [.no, .no, .no, .dec false] [4] [] (s' := ⟨[(4, (.v (.one (.c (.bool false)))))], []⟩) (ob := True ∧ True ∧ True ∧ (True ∧ (a0.ne a0) = false) ∧ True ∧ True ∧ True ∧ True ∧ True ∧ True) (by kernel_rfl) ⟨trivial, trivial, trivial, ⟨trivial, b5⟩, trivial, trivial, trivial, trivial, trivial, trivial⟩ ⟨rfl, rfl⟩
    refine thenQ_normal ?_
    refine AW.ret ?_
    refine thenQ_ret ?_
    replace h := some_eq h
    subst h
    exact ⟨.inr rfl, retOK_of [(.one (.c (.bool j6)))] (by kernel_rfl) ⟨⟨rfl, trivial⟩, trivial⟩ (of_decide_eq_true (by kernel_rfl))⟩
  · refine AW.cond_f rfl b4 ?_
    refine AW.skip ?_
    refine thenQ_normal ?_
    refine AW.seq ?_
    refine AW.seq ?_
    obtain ⟨j9, e10, h⟩ := bind_some h
    refine AW.join1 (s2 := ⟨[(0, (.v (.one (.c (.flt .f64 a0.bits))))), (1, (.v (.one (.c (.flt .f64 a1.bits))))), (26, (.v (.one (.c (.bool j9)))))], []⟩) ?_ ?_
    · rcases ite2_cases e10 with ⟨b8, e10⟩ | ⟨b8, e10⟩
      · replace e10 := some_eq e10
        subst e10
        exact AW.regionA [.no, .no, .dec true] [0, 1, 26] [] (s' := ⟨[(0, (.v (.one (.c (.flt .f64 a0.bits))))), (1, (.v (.one (.c (.flt .f64 a1.bits))))), (26, (.v (.one (.c (.bool (a1.eq (Fl.mk (k := .f64) 0 (by decide))))))))], []⟩) (ob := True ∧ True ∧ (True ∧ (a0.eq (Fl.mk (k := .f64) 0 (by decide))) = true) ∧ True ∧ True ∧ True ∧ True) (by kernel_rfl) ⟨trivial, trivial, ⟨trivial, b8⟩, trivial, trivial, trivial, trivial⟩ ⟨rfl, rfl⟩
      · replace e10 := some_eq e10
        subst e10
        exact AW.regionA [.no, .no, .dec false] [0, 1, 26] [] (s' := ⟨[(0, (.v (.one (.c (.flt .f64 a0.bits))))), (1, (.v (.one (.c (.flt .f64 a1.bits))))), (26, (.v (.one (.c (.bool false)))))], []⟩) (ob := True ∧ True ∧ (True ∧ (a0.eq (Fl.mk (k := .f64) 0 (by decide))) = false) ∧ True ∧ True ∧ True ∧ True) (by kernel_rfl) ⟨trivial, trivial, ⟨trivial, b8⟩, trivial, trivial, trivial, trivial⟩ ⟨rfl, rfl⟩
    refine thenQ_normal ?_
    rcases ite2_cases h with ⟨b11, h⟩ | ⟨b11, h⟩
    · refine AW.cond_t rfl b11 ?_
      refine AW.seq ?_
      refine AW.regionA [] [4] [] (s' := ⟨[(4, (.v (.one (.c (.bool ((((Fl.mk (k := .f64) 4607182418800017408 (by decide)).div a0).gt (Fl.mk (k := .f64) 0 (by decide))) == (((Fl.mk (k := .f64) 4607182418800017408 (by decide)).div a1).gt (Fl.mk (k := .f64) 0 (by decide)))))))))], []⟩) (ob := True ∧ True ∧ True ∧ True ∧ True ∧ True ∧ True ∧ True ∧ True) (by kernel_rfl) ⟨trivial, trivial, trivial, trivial, trivial, trivial, trivial, trivial, trivial⟩ ?_
      refine thenQ_normal ?_
      refine AW.ret ?_
      refine thenQ_ret ?_
      replace h := some_eq h
      subst h
      exact ⟨.inr rfl, retOK_of [(.one (.c (.bool ((((Fl.mk (k := .f64) 4607182418800017408 (by decide)).div a0).gt (Fl.mk (k := .f64) 0 (by decide))) == (((Fl.mk (k := .f64) 4607182418800017408 (by decide)).div a1).gt (Fl.mk (k := .f64) 0 (by decide)))))))] (by kernel_rfl) ⟨⟨rfl, trivial⟩, trivial⟩ (of_decide_eq_true (by kernel_rfl))⟩
    · refine AW.cond_f rfl b11 ?_
      refine AW.skip ?_
      refine thenQ_normal ?_
      refine AW.seq ?_
      refine AW.regionA [] [4] [] (s' := ⟨[(4, (.v (.one (.c (.bool (a0.eq a1))))))], []⟩) (ob := True ∧ True ∧ True ∧ True ∧ True) (by kernel_rfl) ⟨trivial, trivial, trivial, trivial, trivial⟩ ?_
      refine thenQ_normal ?_
      refine AW.ret ?_
      replace h := some_eq h
      subst h
      exact ⟨.inr rfl, retOK_of [(.one (.c (.bool (a0.eq a1))))] (by kernel_rfl) ⟨⟨rfl, trivial⟩, trivial⟩ (of_decide_eq_true (by kernel_rfl))⟩

/-! laws.eqVector -/
def laws_eqVector (K : Nat) (a0 : Vector) (a1 : Vector) : Option (Bool) :=
  (laws_sameFloat K (Fl.cv .f32 .f64 a0.X) (Fl.cv .f32 .f64 a1.X)).bind fun v1 => ite2 ((!v1)) (some false) ((laws_sameFloat K (Fl.cv .f32 .f64 a0.Y) (Fl.cv .f32 .f64 a1.Y)).bind fun v4 => ite2 ((!v4)) (some false) ((laws_sameFloat K (Fl.cv .f32 .f64 a0.Z) (Fl.cv .f32 .f64 a1.Z)).bind fun v7 => ite2 ((!v7)) (some false) (some true)))

theorem ok_laws_eqVector (K : Nat) (a0 : Vector) (a1 : Vector) (o : (Bool)) (h : laws_eqVector K a0 a1 = some o) : CallOK Try.prog 90 [.agg (cs_Vector a0), .agg (cs_Vector a1)] [.one (.bool o)] := by
  refine callOK_of_AW Try.func90 rfl (by kernel_rfl) (Nat.le_of_ble_eq_true (by kernel_rfl)) ?_
  intro w0
  unfold laws_eqVector at h
  refine AW.seq ?_
  refine AW.regionA [.box 1, .box 2] [2, 3] [1, 2] (s' := ⟨[(2, (.v (.one (.ptr 1 0)))), (3, (.v (.one (.ptr 2 0))))], [(1, (.box [(.c (.flt .f32 a0.X.bits)), (.c (.flt .f32 a0.Y.bits)), (.c (.flt .f32 a0.Z.bits))])), (2, (.box [(.c (.flt .f32 a1.X.bits)), (.c (.flt .f32 a1.Y.bits)), (.c (.flt .f32 a1.Z.bits))]))]⟩) (ob := True ∧ True ∧ True ∧ True) (by kernel_rfl) ⟨trivial, trivial, trivial, trivial⟩ ?_
  refine thenQ_normal ?_
  refine AW.seq ?_
  refine AW.seq ?_
  obtain ⟨v1, e2, h⟩ := bind_some h
  refine AW.regionA [.no, .no, .no, .no, .no, .no, .call [.one (.flt .f64 (Fl.cv .f32 .f64 a0.X).bits), .one (.flt .f64 (Fl.cv .f32 .f64 a1.X).bits)] [.one (.bool v1)] [[.view]]] [2, 3, 12] [1, 2] (s' := ⟨[(2, (.v (.one (.ptr 1 0)))), (3, (.v (.one (.ptr 2 0)))), (12, (.v (.one (.c (.bool (!v1))))))], [(1, (.box [(.c (.flt .f32 a0.X.bits)), (.c (.flt .f32 a0.Y.bits)), (.c (.flt .f32 a0.Z.bits))])), (2, (.box [(.c (.flt .f32 a1.X.bits)), (.c (.flt .f32 a1.Y.bits)), (.c (.flt .f32 a1.Z.bits))]))]⟩) (ob := True ∧ True ∧ ((convBits .f32 a0.X.bits .f64).isSome = true) ∧ True ∧ True ∧ ((convBits .f32 a1.X.bits .f64).isSome = true) ∧ (((((.flt .f64 (Fl.cv .f32 .f64 a0.X).bits) : C) = (.flt .f64 (Fl.cv .f32 .f64 a0.X).bits)) ∧ (((.flt .f64 (Fl.cv .f32 .f64 a1.X).bits) : C) = (.flt .f64 (Fl.cv .f32 .f64 a1.X).bits)) ∧ True) ∧ CallOK Try.prog 98 [.one (.flt .f64 (Fl.cv .f32 .f64 a0.X).bits), .one (.flt .f64 (Fl.cv .f32 .f64 a1.X).bits)] [.one (.bool v1)]) ∧ True ∧ True) (by kernel_rfl) ⟨trivial, trivial, cv_wide a0.X, trivial, trivial, cv_wide a1.X, ⟨⟨rfl, rfl, trivial⟩, ok_laws_sameFloat K (Fl.cv .f32 .f64 a0.X) (Fl.cv .f32 .f64 a1.X) v1 e2⟩, trivial, trivial⟩ ?_
  refine thenQ_normal ?_
  rcases ite2_cases h with ⟨b3, h⟩ | ⟨b3, h⟩
  · refine AW.cond_t rfl b3 ?_
    refine AW.seq ?_
    refine AW.regionA [] [4] [] (s' := ⟨[(4, (.v (.one (.c (.bool false)))))], []⟩) (ob := True ∧ True) (by kernel_rfl) ⟨trivial, trivial⟩ ?_
    refine thenQ_normal ?_
    refine AW.ret ?_
    refine thenQ_ret ?_
    replace h := some_eq h
    subst h
    exact ⟨.inr rfl, retOK_of [(.one (.c (.bool false)))] (by kernel_rfl) ⟨⟨rfl, trivial⟩, trivial⟩ (of_decide_eq_true (by kernel_rfl))⟩
  · refine AW.cond_f rfl b3 ?_
    refine AW.skip ?_
    refine thenQ_normal ?_
    refine AW.seq ?_
    refine AW.seq ?_
    obtain ⟨v4, e5, h⟩ := bind_some h
    refine AW.regionA [.no, .no, .no, .no, .no, .no, .call [.one (.flt .f64 (Fl.cv .f32 .f64 a0.Y).bits), .one (.flt .f64 (Fl.cv .f32 .f64 a1.Y).bits)] [.one (.bool v4)] [[.view]]] [2, 3, 20] [1, 2] (s' := ⟨[(2, (.v (.one (.ptr 1 0)))), (3, (.v (.one (.ptr 2 0)))), (20, (.v (.one (.c (.bool (!v4))))))], [(1, (.box [(.c (.flt .f32 a0.X.bits)), (.c (.flt .f32 a0.Y.bits)), (.c (.flt .f32 a0.Z.bits))])), (2, (.box [(.c (.flt .f32 a1.X.bits)), (.c (.flt .f32 a1.Y.bits)), (.c (.flt .f32 a1.Z.bits))]))]⟩) (ob := True ∧ True ∧ ((convBits .f32 a0.Y.bits .f64).isSome = true) ∧ True ∧ True ∧ ((convBits .f32 a1.Y.bits .f64).isSome = true) ∧ (((((.flt .f64 (Fl.cv .f32 .f64 a0.Y).bits) : C) = (.flt .f64 (Fl.cv .f32 .f64 a0.Y).bits)) ∧ (((.flt .f64 (Fl.cv .f32 .f64 a1.Y).bits) : C) = (.flt .f64 (Fl.cv .f32 .f64 a1.Y).bits)) ∧ True) ∧ CallOK Try.prog 98 [.one (.flt .f64 (Fl.cv .f32 .f64 a0.Y).bits), .one (.flt .f64 (Fl.cv .f32 .f64 a1.Y).bits)] [.one (.bool v4)]) ∧ True ∧ True) (by kernel_rfl) ⟨trivial, trivial, cv_wide a0.Y, trivial, trivial, cv_wide a1.Y, ⟨⟨rfl, rfl, trivial⟩, ok_laws_sameFloat K (Fl.cv .f32 .f64 a0.Y) (Fl.cv .f32 .f64 a1.Y) v4 e5⟩, trivial, trivial⟩ ?_
    refine thenQ_normal ?_
    rcases ite2_cases h with ⟨b6, h⟩ | ⟨b6, h⟩
    · refine AW.cond_t rfl b6 ?_
      refine AW.seq ?_
      refine AW.regionA [] [4] [] (s' := ⟨[(4, (.v (.one (.c (.bool false)))))], []⟩) (ob := True ∧ True) (by kernel_rfl) ⟨trivial, trivial⟩ ?_
      refine thenQ_normal ?_
      refine AW.ret ?_
      refine thenQ_ret ?_
      replace h := some_eq h
      subst h
      exact ⟨.inr rfl, retOK_of [(.one (.c (.bool false)))] (by kernel_rfl) ⟨⟨rfl, trivial⟩, trivial⟩ (of_decide_eq_true (by kernel_rfl))⟩
    · refine AW.cond_f rfl b6 ?_
      refine AW.skip ?_
      refine thenQ_normal ?_
      refine AW.seq ?_
      refine AW.seq ?_
      obtain ⟨v7, e8, h⟩ := bind_some h
      refine AW.regionA [.no, .no, .no, .no, .no, .no, .call [.one (.flt .f64 (Fl.cv .f32 .f64 a0.Z).bits), .one (.flt .f64 (Fl.cv .f32 .f64 a1.Z).bits)] [.one (.bool v7)] [[.view]]] [28] [] (s' := ⟨[(28, (.v (.one (.c (.bool (!v7))))))], []⟩) (ob := True ∧ True ∧ ((convBits .f32 a0.Z.bits .f64).isSome = true) ∧ True ∧ True ∧ ((convBits .f32 a1.Z.bits .f64).isSome = true) ∧ (((((.flt .f64 (Fl.cv .f32 .f64 a0.Z).bits) : C) = (.flt .f64 (Fl.cv .f32 .f64 a0.Z).bits)) ∧ (((.flt .f64 (Fl.cv .f32 .f64 a1.Z).bits) : C) = (.flt .f64 (Fl.cv .f32 .f64 a1.Z).bits)) ∧ True) ∧ CallOK Try.prog 98 [.one (.flt .f64 (Fl.cv .f32 .f64 a0.Z).bits), .one (.flt .f64 (Fl.cv .f32 .f64 a1.Z).bits)] [.one (.bool v7)]) ∧ True ∧ True) (by kernel_rfl) ⟨trivial, trivial, cv_wide a0.Z, trivial, trivial, cv_wide a1.Z, ⟨⟨rfl, rfl, trivial⟩, ok_laws_sameFloat K (Fl.cv .f32 .f64 a0.Z) (Fl.cv .f32 .f64 a1.Z) v7 e8⟩, trivial, trivial⟩ ?_
      refine thenQ_normal ?_
      rcases ite2_cases h with ⟨b9, h⟩ | ⟨b9, h⟩
      · refine AW.cond_t rfl b9 ?_
        refine AW.seq ?_
        refine AW.regionA [] [4] [] (s' := ⟨[(4, (.v (.one (.c (.bool false)))))], []⟩) (ob := True ∧ True) (by kernel_rfl) ⟨trivial, trivial⟩ ?_
        refine thenQ_normal ?_
        refine AW.ret ?_
        refine thenQ_ret ?_
        replace h := some_eq h
        subst h
        exact ⟨.inr rfl, retOK_of [(.one (.c (.bool false)))] (by kernel_rfl) ⟨⟨rfl, trivial⟩, trivial⟩ (of_decide_eq_true (by kernel_rfl))⟩
      · refine AW.cond_f rfl b9 ?_
        refine AW.skip ?_
        refine thenQ_normal ?_
        refine AW.seq ?_
        refine AW.regionA [] [4] [] (s' := ⟨[(4, (.v (.one (.c (.bool true)))))], []⟩) (ob := True ∧ True) (by kernel_rfl) ⟨trivial, trivial⟩ ?_
        refine thenQ_normal ?_
        refine AW.ret ?_
        replace h := some_eq h
        subst h
        exact ⟨.inr rfl, retOK_of [(.one (.c (.bool true)))] (by kernel_rfl) ⟨⟨rfl, trivial⟩, trivial⟩ (of_decide_eq_true (by kernel_rfl))⟩

end
end Go.Fw
