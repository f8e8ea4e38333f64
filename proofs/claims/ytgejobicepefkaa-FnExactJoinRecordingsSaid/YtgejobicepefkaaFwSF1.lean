/- Functions of the program: what each computes, and that it computes just that. -/
import Derived.Test.YtgejobicepefkaaFwTy
import Derived.Test.YtgejobicepefkaaProg
import Derived.KernelRfl
namespace Go.Fw
open Go Go.Proofs
noncomputable section
set_option maxRecDepth 10000

/-! laws.szTurnS -/
def laws_szTurnS (_K : Nat) (a0 : (List Turn)) (a1 : Int) : Option (Int) :=
  ite2 ((decide ((IntKind.i64.wrap (a1 - (a0.length : Int))) < (0 : Int)))) (some ((-1) : Int)) (some (IntKind.i64.wrap (a1 - (a0.length : Int))))

theorem ok_laws_szTurnS (K : Nat) (a0 : (List Turn)) (a1 : Int) (o : (Int)) (h : laws_szTurnS K a0 a1 = some o) : CallOK Try.prog 86 [.one (sl 4 cs_Turn a0), .one (.int .i64 a1)] [.one (.int .i64 o)] := by
  refine callOK_of_AW Try.func86 rfl (by kernel_rfl) (Nat.le_of_ble_eq_true (by kernel_rfl)) ?_
  intro w0
  unfold laws_szTurnS at h
  refine AW.seq ?_
  refine AW.regionA [] [0, 1] [] (s' := ⟨[(0, (.v (.one (.c (sl 4 cs_Turn a0))))), (1, (.v (.one (.c (.int .i64 a1)))))], []⟩) (ob := True ∧ True) (by kernel_rfl) ⟨trivial, trivial⟩ ?_
  refine thenQ_normal ?_
  refine AW.seq ?_
  refine AW.regionA [] [1] [] (s' := ⟨[(1, (.v (.one (.c (.int .i64 (IntKind.i64.wrap (a1 - (a0.length : Int))))))))], []⟩) (ob := True ∧ True ∧ True ∧ True ∧ True ∧ True) (by kernel_rfl) ⟨trivial, trivial, trivial, trivial, trivial, trivial⟩ ?_
  refine thenQ_normal ?_
  refine AW.seq ?_
  refine AW.seq ?_
  refine AW.regionA [] [1, 10] [] (s' := ⟨[(1, (.v (.one (.c (.int .i64 (IntKind.i64.wrap (a1 - (a0.length : Int)))))))), (10, (.v (.one (.c (.bool (decide ((IntKind.i64.wrap (a1 - (a0.length : Int))) < (0 : Int))))))))], []⟩) (ob := True ∧ True ∧ True) (by kernel_rfl) ⟨trivial, trivial, trivial⟩ ?_
  refine thenQ_normal ?_
  rcases ite2_cases h with ⟨b1, h⟩ | ⟨b1, h⟩
  · refine AW.cond_t rfl b1 ?_
    refine AW.seq ?_
    refine AW.regionA [] [4] [] (s' := ⟨[(4, (.v (.one (.c (.int .i64 ((-1) : Int))))))], []⟩) (ob := True ∧ True) (by kernel_rfl) ⟨trivial, trivial⟩ ?_
    refine thenQ_normal ?_
    refine AW.ret ?_
    refine thenQ_ret ?_
    replace h := some_eq h
    subst h
    exact ⟨.inr rfl, retOK_of [(.one (.c (.int .i64 ((-1) : Int))))] (by kernel_rfl) ⟨⟨rfl, trivial⟩, trivial⟩ (of_decide_eq_true (by kernel_rfl))⟩
  · refine AW.cond_f rfl b1 ?_
    refine AW.skip ?_
    refine thenQ_normal ?_
    refine AW.seq ?_
    refine AW.regionA [] [4] [] (s' := ⟨[(4, (.v (.one (.c (.int .i64 (IntKind.i64.wrap (a1 - (a0.length : Int))))))))], []⟩) (ob := True ∧ True ∧ True) (by kernel_rfl) ⟨trivial, trivial, trivial⟩ ?_
    refine thenQ_normal ?_
    refine AW.ret ?_
    replace h := some_eq h
    subst h
    exact ⟨.inr rfl, retOK_of [(.one (.c (.int .i64 (IntKind.i64.wrap (a1 - (a0.length : Int))))))] (by kernel_rfl) ⟨⟨rfl, trivial⟩, trivial⟩ (of_decide_eq_true (by kernel_rfl))⟩

/-! laws.szPose -/
def laws_szPose (K : Nat) (a0 : Pose) (a1 : Int) : Option (Int) :=
  (laws_szTurnS K a0.Turns a1).bind fun v1 => ite2 ((decide (v1 < (0 : Int)))) (some ((-1) : Int)) (some v1)

theorem ok_laws_szPose (K : Nat) (a0 : Pose) (a1 : Int) (o : (Int)) (h : laws_szPose K a0 a1 = some o) : CallOK Try.prog 32 [.agg (cs_Pose a0), .one (.int .i64 a1)] [.one (.int .i64 o)] := by
  refine callOK_of_AW Try.func32 rfl (by kernel_rfl) (Nat.le_of_ble_eq_true (by kernel_rfl)) ?_
  intro w0
  unfold laws_szPose at h
  refine AW.seq ?_
  refine AW.regionA [.box 1] [1, 2] [1] (s' := ⟨[(1, (.v (.one (.c (.int .i64 a1))))), (2, (.v (.one (.ptr 1 0))))], [(1, (.box [(.c (.flt .f32 a0.Root.X.bits)), (.c (.flt .f32 a0.Root.Y.bits)), (.c (.flt .f32 a0.Root.Z.bits)), (.c (sl 4 cs_Turn a0.Turns))]))]⟩) (ob := True ∧ True ∧ True) (by kernel_rfl) ⟨trivial, trivial, trivial⟩ ?_
  refine thenQ_normal ?_
  refine AW.seq ?_
  obtain ⟨v1, e2, h⟩ := bind_some h
  refine AW.regionA [.no, .no, .no, .call [.one (sl 4 cs_Turn a0.Turns), .one (.int .i64 a1)] [.one (.int .i64 v1)] [[.view]]] [1] [] (s' := ⟨[(1, (.v (.one (.c (.int .i64 v1)))))], []⟩) (ob := True ∧ True ∧ True ∧ (((((sl 4 cs_Turn a0.Turns) : C) = (sl 4 cs_Turn a0.Turns)) ∧ (((.int .i64 a1) : C) = (.int .i64 a1)) ∧ True) ∧ CallOK Try.prog 86 [.one (sl 4 cs_Turn a0.Turns), .one (.int .i64 a1)] [.one (.int .i64 v1)]) ∧ True ∧ True) (by kernel_rfl) ⟨trivial, trivial, trivial, ⟨⟨rfl, rfl, trivial⟩, ok_laws_szTurnS K a0.Turns a1 v1 e2⟩, trivial, trivial⟩ ?_
  refine thenQ_normal ?_
  refine AW.seq ?_
  refine AW.seq ?_
  refine AW.regionA [] [1, 10] [] (s' := ⟨[(1, (.v (.one (.c (.int .i64 v1))))), (10, (.v (.one (.c (.bool (decide (v1 < (0 : Int))))))))], []⟩) (ob := True ∧ True ∧ True) (by kernel_rfl) ⟨trivial, trivial, trivial⟩ ?_
  refine thenQ_normal ?_
  rcases ite2_cases h with ⟨b3, h⟩ | ⟨b3, h⟩
  · refine AW.cond_t rfl b3 ?_
    refine AW.seq ?_
    refine AW.regionA [] [4] [] (s' := ⟨[(4, (.v (.one (.c (.int .i64 ((-1) : Int))))))], []⟩) (ob := True ∧ True) (by kernel_rfl) ⟨trivial, trivial⟩ ?_
    refine thenQ_normal ?_
    refine AW.ret ?_
    refine thenQ_ret ?_
    replace h := some_eq h
    subst h
    exact ⟨.inr rfl, retOK_of [(.one (.c (.int .i64 ((-1) : Int))))] (by kernel_rfl) ⟨⟨rfl, trivial⟩, trivial⟩ (of_decide_eq_true (by kernel_rfl))⟩
  · refine AW.cond_f rfl b3 ?_
    refine AW.skip ?_
    refine thenQ_normal ?_
    refine AW.seq ?_
    refine AW.regionA [] [4] [] (s' := ⟨[(4, (.v (.one (.c (.int .i64 v1)))))], []⟩) (ob := True ∧ True ∧ True) (by kernel_rfl) ⟨trivial, trivial, trivial⟩ ?_
    refine thenQ_normal ?_
    refine AW.ret ?_
    replace h := some_eq h
    subst h
    exact ⟨.inr rfl, retOK_of [(.one (.c (.int .i64 v1)))] (by kernel_rfl) ⟨⟨rfl, trivial⟩, trivial⟩ (of_decide_eq_true (by kernel_rfl))⟩

/-! laws.szPoseS -/
def laws_szPoseS_l1 (K : Nat) (a0 : (List Pose)) : Nat → Int → Int → Option (Int)
  | 0, _, _ => none
  | k + 1, x4, x5 => ite2 ((decide (x5 < (a0.length : Int)))) (chk (0 ≤ x5 ∧ x5 < (a0.length : Int)) ((laws_szPose K (a0.getD x5.toNat default) x4).bind fun v8 => ite2 ((decide (v8 < (0 : Int)))) (some ((-1) : Int)) (laws_szPoseS_l1 K a0 k v8 (IntKind.i64.wrap (x5 + (1 : Int)))))) (some x4)

def laws_szPoseS (K : Nat) (a0 : (List Pose)) (a1 : Int) : Option (Int) :=
  ite2 ((decide ((IntKind.i64.wrap (a1 - (a0.length : Int))) < (0 : Int)))) (some ((-1) : Int)) (laws_szPoseS_l1 K a0 K (IntKind.i64.wrap (a1 - (a0.length : Int))) (0 : Int))

theorem ok_laws_szPoseS (K : Nat) (a0 : (List Pose)) (a1 : Int) (o : (Int)) (h : laws_szPoseS K a0 a1 = some o) : CallOK Try.prog 72 [.one (sl 4 cs_Pose a0), .one (.int .i64 a1)] [.one (.int .i64 o)] := by
  refine callOK_of_AW Try.func72 rfl (by kernel_rfl) (Nat.le_of_ble_eq_true (by kernel_rfl)) ?_
  intro w0
  unfold laws_szPoseS at h
  refine AW.seq ?_
  refine AW.regionA [] [0, 1] [] (s' := ⟨[(0, (.v (.one (.c (sl 4 cs_Pose a0))))), (1, (.v (.one (.c (.int .i64 a1)))))], []⟩) (ob := True ∧ True) (by kernel_rfl) ⟨trivial, trivial⟩ ?_
  refine thenQ_normal ?_
  refine AW.seq ?_
  refine AW.regionA [] [0, 1] [] (s' := ⟨[(0, (.v (.one (.c (sl 4 cs_Pose a0))))), (1, (.v (.one (.c (.int .i64 (IntKind.i64.wrap (a1 - (a0.length : Int))))))))], []⟩) (ob := True ∧ True ∧ True ∧ True ∧ True ∧ True) (by kernel_rfl) ⟨trivial, trivial, trivial, trivial, trivial, trivial⟩ ?_
  refine thenQ_normal ?_
  refine AW.seq ?_
  refine AW.seq ?_
  refine AW.regionA [] [0, 1, 11] [] (s' := ⟨[(0, (.v (.one (.c (sl 4 cs_Pose a0))))), (1, (.v (.one (.c (.int .i64 (IntKind.i64.wrap (a1 - (a0.length : Int)))))))), (11, (.v (.one (.c (.bool (decide ((IntKind.i64.wrap (a1 - (a0.length : Int))) < (0 : Int))))))))], []⟩) (ob := True ∧ True ∧ True) (by kernel_rfl) ⟨trivial, trivial, trivial⟩ ?_
  refine thenQ_normal ?_
  rcases ite2_cases h with ⟨b1, h⟩ | ⟨b1, h⟩
  · refine AW.cond_t rfl b1 ?_
    refine AW.seq ?_
    refine AW.regionA [] [4] [] (s' := ⟨[(4, (.v (.one (.c (.int .i64 ((-1) : Int))))))], []⟩) (ob := True ∧ True) (by kernel_rfl) ⟨trivial, trivial⟩ ?_
    refine thenQ_normal ?_
    refine AW.ret ?_
    refine thenQ_ret ?_
    replace h := some_eq h
    subst h
    exact ⟨.inr rfl, retOK_of [(.one (.c (.int .i64 ((-1) : Int))))] (by kernel_rfl) ⟨⟨rfl, trivial⟩, trivial⟩ (of_decide_eq_true (by kernel_rfl))⟩
  · refine AW.cond_f rfl b1 ?_
    refine AW.skip ?_
    refine thenQ_normal ?_
    refine AW.seq ?_
    refine AW.seq ?_
    refine AW.regionA [] [0, 1, 5] [] (s' := ⟨[(0, (.v (.one (.c (sl 4 cs_Pose a0))))), (1, (.v (.one (.c (.int .i64 (IntKind.i64.wrap (a1 - (a0.length : Int)))))))), (5, (.v (.one (.c (.int .i64 (0 : Int))))))], []⟩) (ob := True ∧ True) (by kernel_rfl) ⟨trivial, trivial⟩ ?_
    refine thenQ_normal ?_
    refine AW.block ?_
    refine AW.loopQ (σ := Nat × Int × Int) (fun p => ⟨[(0, (.v (.one (.c (sl 4 cs_Pose a0))))), (1, (.v (.one (.c (.int .i64 p.2.1))))), (5, (.v (.one (.c (.int .i64 p.2.2)))))], []⟩) (fun p => laws_szPoseS_l1 K a0 p.1 p.2.1 p.2.2 = some o) (fun p => p.1) (K, (IntKind.i64.wrap (a1 - (a0.length : Int))), (0 : Int)) h ?_
    clear h
    rintro ⟨k, x4, x5⟩ h
    replace h : laws_szPoseS_l1 K a0 k x4 x5 = some o := h
    show AW _ _ (⟨[(0, (.v (.one (.c (sl 4 cs_Pose a0))))), (1, (.v (.one (.c (.int .i64 x4))))), (5, (.v (.one (.c (.int .i64 x5)))))], []⟩ : St) _
    obtain _ | k := k
    · rw [laws_szPoseS_l1] at h; cases h
    rw [laws_szPoseS_l1] at h
    refine AW.seq ?_
    refine AW.seq ?_
    refine AW.regionA [] [0, 1, 5, 15] [] (s' := ⟨[(0, (.v (.one (.c (sl 4 cs_Pose a0))))), (1, (.v (.one (.c (.int .i64 x4))))), (5, (.v (.one (.c (.int .i64 x5))))), (15, (.v (.one (.c (.bool (decide (x5 < (a0.length : Int))))))))], []⟩) (ob := True ∧ True ∧ True ∧ True ∧ True) (by kernel_rfl) ⟨trivial, trivial, trivial, trivial, trivial⟩ ?_
    refine thenQ_normal ?_
    rcases ite2_cases h with ⟨b6, h⟩ | ⟨b6, h⟩
    · refine AW.cond_t rfl b6 ?_
      refine AW.skip ?_
      refine thenQ_normal ?_
      refine AW.seq ?_
      refine AW.block ?_
      refine AW.seq ?_
      obtain ⟨c7, h⟩ := chk_some h
      obtain ⟨v8, e9, h⟩ := bind_some h
      refine AW.regionA [.no, .no, .no, .no, .no, .call [.agg (cs_Pose (a0.getD x5.toNat default)), .one (.int .i64 x4)] [.one (.int .i64 v8)] [[.view]]] [0, 1, 5] [] (s' := ⟨[(0, (.v (.one (.c (sl 4 cs_Pose a0))))), (1, (.v (.one (.c (.int .i64 v8))))), (5, (.v (.one (.c (.int .i64 x5)))))], []⟩) (ob := True ∧ True ∧ (0 ≤ x5 ∧ x5 < (a0.length : Int)) ∧ True ∧ True ∧ ((((((.flt .f32 (((a0.getD x5.toNat default).Root).X).bits) : C) = (.flt .f32 (((a0.getD x5.toNat default).Root).X).bits)) ∧ (((.flt .f32 (((a0.getD x5.toNat default).Root).Y).bits) : C) = (.flt .f32 (((a0.getD x5.toNat default).Root).Y).bits)) ∧ (((.flt .f32 (((a0.getD x5.toNat default).Root).Z).bits) : C) = (.flt .f32 (((a0.getD x5.toNat default).Root).Z).bits)) ∧ (((sl 4 cs_Turn ((a0.getD x5.toNat default).Turns)) : C) = (sl 4 cs_Turn ((a0.getD x5.toNat default).Turns))) ∧ True) ∧ (((.int .i64 x4) : C) = (.int .i64 x4)) ∧ True) ∧ CallOK Try.prog 32 [.agg (cs_Pose (a0.getD x5.toNat default)), .one (.int .i64 x4)] [.one (.int .i64 v8)]) ∧ True ∧ True) (by kernel_rfl) ⟨trivial, trivial, c7, trivial, trivial, ⟨⟨⟨rfl, rfl, rfl, rfl, trivial⟩, rfl, trivial⟩, ok_laws_szPose K (a0.getD x5.toNat default) x4 v8 e9⟩, trivial, trivial⟩ ?_
      refine thenQ_normal ?_
      refine AW.seq ?_
      refine AW.regionA [] [0, 1, 5, 25] [] (s' := ⟨[(0, (.v (.one (.c (sl 4 cs_Pose a0))))), (1, (.v (.one (.c (.int .i64 v8))))), (5, (.v (.one (.c (.int .i64 x5))))), (25, (.v (.one (.c (.bool (decide (v8 < (0 : Int))))))))], []⟩) (ob := True ∧ True ∧ True) (by kernel_rfl) ⟨trivial, trivial, trivial⟩ ?_
      refine thenQ_normal ?_
      rcases ite2_cases h with ⟨b10, h⟩ | ⟨b10, h⟩
      · refine AW.cond_t rfl b10 ?_
        refine AW.seq ?_
        refine AW.regionA [] [4] [] (s' := ⟨[(4, (.v (.one (.c (.int .i64 ((-1) : Int))))))], []⟩) (ob := True ∧ True) (by kernel_rfl) ⟨trivial, trivial⟩ ?_
        refine thenQ_normal ?_
        refine AW.ret ?_
        refine blockQ_ret ?_
        refine thenQ_ret ?_
        refine loopQ_ret ?_
        refine blockQ_ret ?_
        refine thenQ_ret ?_
        replace h := some_eq h
        subst h
        exact ⟨.inr rfl, retOK_of [(.one (.c (.int .i64 ((-1) : Int))))] (by kernel_rfl) ⟨⟨rfl, trivial⟩, trivial⟩ (of_decide_eq_true (by kernel_rfl))⟩
      · refine AW.cond_f rfl b10 ?_
        refine AW.skip ?_
        refine blockQ_normal ?_
        refine thenQ_normal ?_
        refine AW.regionA [] [0, 1, 5] [] (s' := ⟨[(0, (.v (.one (.c (sl 4 cs_Pose a0))))), (1, (.v (.one (.c (.int .i64 v8))))), (5, (.v (.one (.c (.int .i64 (IntKind.i64.wrap (x5 + (1 : Int))))))))], []⟩) (ob := True ∧ True ∧ True ∧ True) (by kernel_rfl) ⟨trivial, trivial, trivial, trivial⟩ ?_
        exact loopQ_normal (k, v8, (IntKind.i64.wrap (x5 + (1 : Int)))) h (Nat.lt_succ_self k) (Sub.keep [0, 1, 5] [] (by kernel_rfl) (by kernel_rfl))
    · refine AW.cond_f rfl b6 ?_
      refine AW.exit ?_
      refine thenQ_exit ?_
      refine loopQ_exit ?_
      refine blockQ_exit ?_
      refine thenQ_normal ?_
      refine AW.seq ?_
      refine AW.regionA [] [4] [] (s' := ⟨[(4, (.v (.one (.c (.int .i64 x4)))))], []⟩) (ob := True ∧ True ∧ True) (by kernel_rfl) ⟨trivial, trivial, trivial⟩ ?_
      refine thenQ_normal ?_
      refine AW.ret ?_
      replace h := some_eq h
      subst h
      exact ⟨.inr rfl, retOK_of [(.one (.c (.int .i64 x4)))] (by kernel_rfl) ⟨⟨rfl, trivial⟩, trivial⟩ (of_decide_eq_true (by kernel_rfl))⟩

/-! laws.szRecording -/
def laws_szRecording (K : Nat) (a0 : Recording) (a1 : Int) : Option (Int) :=
  (laws_szPoseS K a0.Frames a1).bind fun v1 => ite2 ((decide (v1 < (0 : Int)))) (some ((-1) : Int)) (some v1)

theorem ok_laws_szRecording (K : Nat) (a0 : Recording) (a1 : Int) (o : (Int)) (h : laws_szRecording K a0 a1 = some o) : CallOK Try.prog 21 [.agg (cs_Recording a0), .one (.int .i64 a1)] [.one (.int .i64 o)] := by
  refine callOK_of_AW Try.func21 rfl (by kernel_rfl) (Nat.le_of_ble_eq_true (by kernel_rfl)) ?_
  intro w0
  unfold laws_szRecording at h
  refine AW.seq ?_
  refine AW.regionA [.box 1] [1, 2] [1] (s' := ⟨[(1, (.v (.one (.c (.int .i64 a1))))), (2, (.v (.one (.ptr 1 0))))], [(1, (.box [(.c (.int .i64 a0.Bones)), (.c (sl 4 cs_Pose a0.Frames))]))]⟩) (ob := True ∧ True ∧ True) (by kernel_rfl) ⟨trivial, trivial, trivial⟩ ?_
  refine thenQ_normal ?_
  refine AW.seq ?_
  obtain ⟨v1, e2, h⟩ := bind_some h
  refine AW.regionA [.no, .no, .no, .call [.one (sl 4 cs_Pose a0.Frames), .one (.int .i64 a1)] [.one (.int .i64 v1)] [[.view]]] [1] [] (s' := ⟨[(1, (.v (.one (.c (.int .i64 v1)))))], []⟩) (ob := True ∧ True ∧ True ∧ (((((sl 4 cs_Pose a0.Frames) : C) = (sl 4 cs_Pose a0.Frames)) ∧ (((.int .i64 a1) : C) = (.int .i64 a1)) ∧ True) ∧ CallOK Try.prog 72 [.one (sl 4 cs_Pose a0.Frames), .one (.int .i64 a1)] [.one (.int .i64 v1)]) ∧ True ∧ True) (by kernel_rfl) ⟨trivial, trivial, trivial, ⟨⟨rfl, rfl, trivial⟩, ok_laws_szPoseS K a0.Frames a1 v1 e2⟩, trivial, trivial⟩ ?_
  refine thenQ_normal ?_
  refine AW.seq ?_
  refine AW.seq ?_
  refine AW.regionA [] [1, 10] [] (s' := ⟨[(1, (.v (.one (.c (.int .i64 v1))))), (10, (.v (.one (.c (.bool (decide (v1 < (0 : Int))))))))], []⟩) (ob := True ∧ True ∧ True) (by kernel_rfl) ⟨trivial, trivial, trivial⟩ ?_
  refine thenQ_normal ?_
  rcases ite2_cases h with ⟨b3, h⟩ | ⟨b3, h⟩
  · refine AW.cond_t rfl b3 ?_
    refine AW.seq ?_
    refine AW.regionA [] [4] [] (s' := ⟨[(4, (.v (.one (.c (.int .i64 ((-1) : Int))))))], []⟩) (ob := True ∧ True) (by kernel_rfl) ⟨trivial, trivial⟩ ?_
    refine thenQ_normal ?_
    refine AW.ret ?_
    refine thenQ_ret ?_
    replace h := some_eq h
    subst h
    exact ⟨.inr rfl, retOK_of [(.one (.c (.int .i64 ((-1) : Int))))] (by kernel_rfl) ⟨⟨rfl, trivial⟩, trivial⟩ (of_decide_eq_true (by kernel_rfl))⟩
  · refine AW.cond_f rfl b3 ?_
    refine AW.skip ?_
    refine thenQ_normal ?_
    refine AW.seq ?_
    refine AW.regionA [] [4] [] (s' := ⟨[(4, (.v (.one (.c (.int .i64 v1)))))], []⟩) (ob := True ∧ True ∧ True) (by kernel_rfl) ⟨trivial, trivial, trivial⟩ ?_
    refine thenQ_normal ?_
    refine AW.ret ?_
    replace h := some_eq h
    subst h
    exact ⟨.inr rfl, retOK_of [(.one (.c (.int .i64 v1)))] (by kernel_rfl) ⟨⟨rfl, trivial⟩, trivial⟩ (of_decide_eq_true (by kernel_rfl))⟩

/-! laws.toVector -/
def laws_toVector (_K : Nat) (a0 : Vector) : Option (Vector) :=
  some a0

theorem ok_laws_toVector (K : Nat) (a0 : Vector) (o : (Vector)) (h : laws_toVector K a0 = some o) : CallOK Try.prog 88 [.agg (cs_Vector a0)] [.agg (cs_Vector o)] := by
  refine callOK_of_AW Try.func88 rfl (by kernel_rfl) (Nat.le_of_ble_eq_true (by kernel_rfl)) ?_
  intro w0
  unfold laws_toVector at h
  refine AW.seq ?_
  refine AW.regionA [.box 1, .box 2] [1, 2] [1, 2] (s' := ⟨[(1, (.v (.one (.ptr 1 0)))), (2, (.v (.one (.ptr 2 0))))], [(1, (.box [(.c (.flt .f32 a0.X.bits)), (.c (.flt .f32 a0.Y.bits)), (.c (.flt .f32 a0.Z.bits))])), (2, (.box [(.c (.flt .f32 (default : F32).bits)), (.c (.flt .f32 (default : F32).bits)), (.c (.flt .f32 (default : F32).bits))]))]⟩) (ob := True ∧ True ∧ True) (by kernel_rfl) ⟨trivial, trivial, trivial⟩ ?_
  refine thenQ_normal ?_
  refine AW.seq ?_
  refine AW.regionA [.box 3] [1, 2, 3] [1, 2, 3] (s' := ⟨[(1, (.v (.one (.ptr 1 0)))), (2, (.v (.one (.ptr 2 0)))), (3, (.v (.one (.ptr 3 0))))], [(1, (.box [(.c (.flt .f32 a0.X.bits)), (.c (.flt .f32 a0.Y.bits)), (.c (.flt .f32 a0.Z.bits))])), (2, (.box [(.c (.flt .f32 (default : F32).bits)), (.c (.flt .f32 (default : F32).bits)), (.c (.flt .f32 (default : F32).bits))])), (3, (.box [(.c (.flt .f32 (default : F32).bits)), (.c (.flt .f32 (default : F32).bits)), (.c (.flt .f32 (default : F32).bits))]))]⟩) (ob := True ∧ True) (by kernel_rfl) ⟨trivial, trivial⟩ ?_
  refine thenQ_normal ?_
  refine AW.seq ?_
  refine AW.regionA [] [1, 2, 3] [1, 2, 3] (s' := ⟨[(1, (.v (.one (.ptr 1 0)))), (2, (.v (.one (.ptr 2 0)))), (3, (.v (.one (.ptr 3 0))))], [(1, (.box [(.c (.flt .f32 a0.X.bits)), (.c (.flt .f32 a0.Y.bits)), (.c (.flt .f32 a0.Z.bits))])), (2, (.box [(.c (.flt .f32 (default : F32).bits)), (.c (.flt .f32 (default : F32).bits)), (.c (.flt .f32 (default : F32).bits))])), (3, (.box [(.c (.flt .f32 a0.X.bits)), (.c (.flt .f32 (default : F32).bits)), (.c (.flt .f32 (default : F32).bits))]))]⟩) (ob := True ∧ True ∧ True ∧ True ∧ True) (by kernel_rfl) ⟨trivial, trivial, trivial, trivial, trivial⟩ ?_
  refine thenQ_normal ?_
  refine AW.seq ?_
  refine AW.regionA [] [1, 2, 3] [1, 2, 3] (s' := ⟨[(1, (.v (.one (.ptr 1 0)))), (2, (.v (.one (.ptr 2 0)))), (3, (.v (.one (.ptr 3 0))))], [(1, (.box [(.c (.flt .f32 a0.X.bits)), (.c (.flt .f32 a0.Y.bits)), (.c (.flt .f32 a0.Z.bits))])), (2, (.box [(.c (.flt .f32 (default : F32).bits)), (.c (.flt .f32 (default : F32).bits)), (.c (.flt .f32 (default : F32).bits))])), (3, (.box [(.c (.flt .f32 a0.X.bits)), (.c (.flt .f32 a0.Y.bits)), (.c (.flt .f32 (default : F32).bits))]))]⟩) (ob := True ∧ True ∧ True ∧ True ∧ True) (by kernel_rfl) ⟨trivial, trivial, trivial, trivial, trivial⟩ ?_
  refine thenQ_normal ?_
  refine AW.seq ?_
  refine AW.regionA [] [2, 3] [2, 3] (s' := ⟨[(2, (.v (.one (.ptr 2 0)))), (3, (.v (.one (.ptr 3 0))))], [(2, (.box [(.c (.flt .f32 (default : F32).bits)), (.c (.flt .f32 (default : F32).bits)), (.c (.flt .f32 (default : F32).bits))])), (3, (.box [(.c (.flt .f32 a0.X.bits)), (.c (.flt .f32 a0.Y.bits)), (.c (.flt .f32 a0.Z.bits))]))]⟩) (ob := True ∧ True ∧ True ∧ True ∧ True) (by kernel_rfl) ⟨trivial, trivial, trivial, trivial, trivial⟩ ?_
  refine thenQ_normal ?_
  refine AW.seq ?_
  refine AW.regionA [] [2] [2] (s' := ⟨[(2, (.v (.one (.ptr 2 0))))], [(2, (.box [(.c (.flt .f32 a0.X.bits)), (.c (.flt .f32 a0.Y.bits)), (.c (.flt .f32 a0.Z.bits))]))]⟩) (ob := True ∧ True ∧ True) (by kernel_rfl) ⟨trivial, trivial, trivial⟩ ?_
  refine thenQ_normal ?_
  refine AW.ret ?_
  replace h := some_eq h
  subst h
  exact ⟨.inr rfl, retOK_of [(.agg [(.c (.flt .f32 a0.X.bits)), (.c (.flt .f32 a0.Y.bits)), (.c (.flt .f32 a0.Z.bits))])] (by kernel_rfl) ⟨⟨⟨rfl, trivial⟩, ⟨rfl, trivial⟩, ⟨rfl, trivial⟩, trivial⟩, trivial⟩ (of_decide_eq_true (by kernel_rfl))⟩

/-! laws.toTurn -/
def laws_toTurn (_K : Nat) (a0 : Turn) : Option (Turn) :=
  some a0

theorem ok_laws_toTurn (K : Nat) (a0 : Turn) (o : (Turn)) (h : laws_toTurn K a0 = some o) : CallOK Try.prog 130 [.agg (cs_Turn a0)] [.agg (cs_Turn o)] := by
  refine callOK_of_AW Try.func130 rfl (by kernel_rfl) (Nat.le_of_ble_eq_true (by kernel_rfl)) ?_
  intro w0
  unfold laws_toTurn at h
  refine AW.seq ?_
  refine AW.regionA [.box 1, .box 2] [1, 2] [1, 2] (s' := ⟨[(1, (.v (.one (.ptr 1 0)))), (2, (.v (.one (.ptr 2 0))))], [(1, (.box [(.c (.flt .f32 a0.W.bits)), (.c (.flt .f32 a0.X.bits)), (.c (.flt .f32 a0.Y.bits)), (.c (.flt .f32 a0.Z.bits))])), (2, (.box [(.c (.flt .f32 (default : F32).bits)), (.c (.flt .f32 (default : F32).bits)), (.c (.flt .f32 (default : F32).bits)), (.c (.flt .f32 (default : F32).bits))]))]⟩) (ob := True ∧ True ∧ True) (by kernel_rfl) ⟨trivial, trivial, trivial⟩ ?_
  refine thenQ_normal ?_
  refine AW.seq ?_
  refine AW.regionA [.box 3] [1, 2, 3] [1, 2, 3] (s' := ⟨[(1, (.v (.one (.ptr 1 0)))), (2, (.v (.one (.ptr 2 0)))), (3, (.v (.one (.ptr 3 0))))], [(1, (.box [(.c (.flt .f32 a0.W.bits)), (.c (.flt .f32 a0.X.bits)), (.c (.flt .f32 a0.Y.bits)), (.c (.flt .f32 a0.Z.bits))])), (2, (.box [(.c (.flt .f32 (default : F32).bits)), (.c (.flt .f32 (default : F32).bits)), (.c (.flt .f32 (default : F32).bits)), (.c (.flt .f32 (default : F32).bits))])), (3, (.box [(.c (.flt .f32 (default : F32).bits)), (.c (.flt .f32 (default : F32).bits)), (.c (.flt .f32 (default : F32).bits)), (.c (.flt .f32 (default : F32).bits))]))]⟩) (ob := True ∧ True) (by kernel_rfl) ⟨trivial, trivial⟩ ?_
  refine thenQ_normal ?_
  refine AW.seq ?_
  refine AW.regionA [] [1, 2, 3] [1, 2, 3] (s' := ⟨[(1, (.v (.one (.ptr 1 0)))), (2, (.v (.one (.ptr 2 0)))), (3, (.v (.one (.ptr 3 0))))], [(1, (.box [(.c (.flt .f32 a0.W.bits)), (.c (.flt .f32 a0.X.bits)), (.c (.flt .f32 a0.Y.bits)), (.c (.flt .f32 a0.Z.bits))])), (2, (.box [(.c (.flt .f32 (default : F32).bits)), (.c (.flt .f32 (default : F32).bits)), (.c (.flt .f32 (default : F32).bits)), (.c (.flt .f32 (default : F32).bits))])), (3, (.box [(.c (.flt .f32 a0.W.bits)), (.c (.flt .f32 (default : F32).bits)), (.c (.flt .f32 (default : F32).bits)), (.c (.flt .f32 (default : F32).bits))]))]⟩) (ob := True ∧ True ∧ True ∧ True ∧ True) (by kernel_rfl) ⟨trivial, trivial, trivial, trivial, trivial⟩ ?_
  refine thenQ_normal ?_
  refine AW.seq ?_
  refine AW.regionA [] [1, 2, 3] [1, 2, 3] (s' := ⟨[(1, (.v (.one (.ptr 1 0)))), (2, (.v (.one (.ptr 2 0)))), (3, (.v (.one (.ptr 3 0))))], [(1, (.box [(.c (.flt .f32 a0.W.bits)), (.c (.flt .f32 a0.X.bits)), (.c (.flt .f32 a0.Y.bits)), (.c (.flt .f32 a0.Z.bits))])), (2, (.box [(.c (.flt .f32 (default : F32).bits)), (.c (.flt .f32 (default : F32).bits)), (.c (.flt .f32 (default : F32).bits)), (.c (.flt .f32 (default : F32).bits))])), (3, (.box [(.c (.flt .f32 a0.W.bits)), (.c (.flt .f32 a0.X.bits)), (.c (.flt .f32 (default : F32).bits)), (.c (.flt .f32 (default : F32).bits))]))]⟩) (ob := True ∧ True ∧ True ∧ True ∧ True) (by kernel_rfl) ⟨trivial, trivial, trivial, trivial, trivial⟩ ?_
  refine thenQ_normal ?_
  refine AW.seq ?_
  refine AW.regionA [] [1, 2, 3] [1, 2, 3] (s' := ⟨[(1, (.v (.one (.ptr 1 0)))), (2, (.v (.one (.ptr 2 0)))), (3, (.v (.one (.ptr 3 0))))], [(1, (.box [(.c (.flt .f32 a0.W.bits)), (.c (.flt .f32 a0.X.bits)), (.c (.flt .f32 a0.Y.bits)), (.c (.flt .f32 a0.Z.bits))])), (2, (.box [(.c (.flt .f32 (default : F32).bits)), (.c (.flt .f32 (default : F32).bits)), (.c (.flt .f32 (default : F32).bits)), (.c (.flt .f32 (default : F32).bits))])), (3, (.box [(.c (.flt .f32 a0.W.bits)), (.c (.flt .f32 a0.X.bits)), (.c (.flt .f32 a0.Y.bits)), (.c (.flt .f32 (default : F32).bits))]))]⟩) (ob := True ∧ True ∧ True ∧ True ∧ True) (by kernel_rfl) ⟨trivial, trivial, trivial, trivial, trivial⟩ ?_
  refine thenQ_normal ?_
  refine AW.seq ?_
  refine AW.regionA [] [2, 3] [2, 3] (s' := ⟨[(2, (.v (.one (.ptr 2 0)))), (3, (.v (.one (.ptr 3 0))))], [(2, (.box [(.c (.flt .f32 (default : F32).bits)), (.c (.flt .f32 (default : F32).bits)), (.c (.flt .f32 (default : F32).bits)), (.c (.flt .f32 (default : F32).bits))])), (3, (.box [(.c (.flt .f32 a0.W.bits)), (.c (.flt .f32 a0.X.bits)), (.c (.flt .f32 a0.Y.bits)), (.c (.flt .f32 a0.Z.bits))]))]⟩) (ob := True ∧ True ∧ True ∧ True ∧ True) (by kernel_rfl) ⟨trivial, trivial, trivial, trivial, trivial⟩ ?_
  refine thenQ_normal ?_
  refine AW.seq ?_
  refine AW.regionA [] [2] [2] (s' := ⟨[(2, (.v (.one (.ptr 2 0))))], [(2, (.box [(.c (.flt .f32 a0.W.bits)), (.c (.flt .f32 a0.X.bits)), (.c (.flt .f32 a0.Y.bits)), (.c (.flt .f32 a0.Z.bits))]))]⟩) (ob := True ∧ True ∧ True) (by kernel_rfl) ⟨trivial, trivial, trivial⟩ ?_
  refine thenQ_normal ?_
  refine AW.ret ?_
  replace h := some_eq h
  subst h
  exact ⟨.inr rfl, retOK_of [(.agg [(.c (.flt .f32 a0.W.bits)), (.c (.flt .f32 a0.X.bits)), (.c (.flt .f32 a0.Y.bits)), (.c (.flt .f32 a0.Z.bits))])] (by kernel_rfl) ⟨⟨⟨rfl, trivial⟩, ⟨rfl, trivial⟩, ⟨rfl, trivial⟩, ⟨rfl, trivial⟩, trivial⟩, trivial⟩ (of_decide_eq_true (by kernel_rfl))⟩

/-! laws.toTurnS -/
def laws_toTurnS_l1 (K : Nat) (a0 : (List Turn)) : Nat → Int → (List Turn) → Option ((List Turn))
  | 0, _, _ => none
  | k + 1, x4, x5 => ite2 ((decide (x4 < (a0.length : Int)))) (chk (0 ≤ x4 ∧ x4 < (a0.length : Int)) ((laws_toTurn K (a0.getD x4.toNat default)).bind fun v8 => chk (0 ≤ x4 ∧ x4 < (x5.length : Int)) (laws_toTurnS_l1 K a0 k (IntKind.i64.wrap (x4 + (1 : Int))) (x5.set x4.toNat v8)))) (some x5)

def laws_toTurnS (K : Nat) (a0 : (List Turn)) : Option ((List Turn)) :=
  chk (0 ≤ (a0.length : Int) ∧ (a0.length : Int).toNat * 16 ≤ 140737488355328) (laws_toTurnS_l1 K a0 K (0 : Int) (List.replicate (a0.length : Int).toNat (default : Turn)))

theorem ok_laws_toTurnS (K : Nat) (a0 : (List Turn)) (o : ((List Turn))) (h : laws_toTurnS K a0 = some o) : CallOK Try.prog 89 [.one (sl 4 cs_Turn a0)] [.one (sl 4 cs_Turn o)] := by
  refine callOK_of_AW Try.func89 rfl (by kernel_rfl) (Nat.le_of_ble_eq_true (by kernel_rfl)) ?_
  intro w0
  unfold laws_toTurnS at h
  refine AW.seq ?_
  refine AW.regionA [] [0] [] (s' := ⟨[(0, (.v (.one (.c (sl 4 cs_Turn a0)))))], []⟩) (ob := True ∧ True) (by kernel_rfl) ⟨trivial, trivial⟩ ?_
  refine thenQ_normal ?_
  refine AW.seq ?_
  obtain ⟨c1, h⟩ := chk_some h
  refine AW.regionA [.no, .no, .objA 1 (List.replicate (a0.length : Int).toNat (default : Turn)).length (gl cs_Turn (List.replicate (a0.length : Int).toNat (default : Turn)))] [0, 3] [1] (s' := ⟨[(0, (.v (.one (.c (sl 4 cs_Turn a0))))), (3, (.v (.one (.arr 1))))], [(1, (.arr false (List.replicate (a0.length : Int).toNat (default : Turn)).length 4 (gl cs_Turn (List.replicate (a0.length : Int).toNat (default : Turn)))))]⟩) (ob := True ∧ True ∧ (0 ≤ (a0.length : Int) ∧ (a0.length : Int) = (a0.length : Int) ∧ (((List.replicate (a0.length : Int).toNat (default : Turn)).length : Nat) : Int) = (a0.length : Int) ∧ (List.replicate (a0.length : Int).toNat (default : Turn)).length * 16 ≤ 140737488355328 ∧ ∀ i, i < (List.replicate (a0.length : Int).toNat (default : Turn)).length → zeroRow (fun _ => none) [(.c (.flt .f32 (default : F32).bits)), (.c (.flt .f32 (default : F32).bits)), (.c (.flt .f32 (default : F32).bits)), (.c (.flt .f32 (default : F32).bits))] (gl cs_Turn (List.replicate (a0.length : Int).toNat (default : Turn)) i)) ∧ True ∧ True) (by kernel_rfl) ⟨trivial, trivial, ⟨c1.1, rfl, len_rep c1.1, rep_bytes c1.2, fun i hi => gl_zero (cs := cs_Turn) (zs := [(.c (.flt .f32 (default : F32).bits)), (.c (.flt .f32 (default : F32).bits)), (.c (.flt .f32 (default : F32).bits)), (.c (.flt .f32 (default : F32).bits))]) (n := (a0.length : Int).toNat) ⟨⟨rfl, trivial⟩, ⟨rfl, trivial⟩, ⟨rfl, trivial⟩, ⟨rfl, trivial⟩, trivial⟩ i (rep_lt hi)⟩, trivial, trivial⟩ ?_
  refine thenQ_normal ?_
  refine AW.seq ?_
  refine AW.seq ?_
  refine AW.regionA [] [0, 3, 4] [1] (s' := ⟨[(0, (.v (.one (.c (sl 4 cs_Turn a0))))), (3, (.v (.one (.arr 1)))), (4, (.v (.one (.c (.int .i64 (0 : Int))))))], [(1, (.arr false (List.replicate (a0.length : Int).toNat (default : Turn)).length 4 (gl cs_Turn (List.replicate (a0.length : Int).toNat (default : Turn)))))]⟩) (ob := True ∧ True) (by kernel_rfl) ⟨trivial, trivial⟩ ?_
  refine thenQ_normal ?_
  refine AW.block ?_
  refine AW.loopQ (σ := Nat × Int × (List Turn)) (fun p => ⟨[(0, (.v (.one (.c (sl 4 cs_Turn a0))))), (3, (.v (.one (.arr 1)))), (4, (.v (.one (.c (.int .i64 p.2.1)))))], [(1, (.arr false p.2.2.length 4 (gl cs_Turn p.2.2)))]⟩) (fun p => laws_toTurnS_l1 K a0 p.1 p.2.1 p.2.2 = some o) (fun p => p.1) (K, (0 : Int), (List.replicate (a0.length : Int).toNat (default : Turn))) h ?_
  clear h
  rintro ⟨k, x4, x5⟩ h
  replace h : laws_toTurnS_l1 K a0 k x4 x5 = some o := h
  show AW _ _ (⟨[(0, (.v (.one (.c (sl 4 cs_Turn a0))))), (3, (.v (.one (.arr 1)))), (4, (.v (.one (.c (.int .i64 x4)))))], [(1, (.arr false x5.length 4 (gl cs_Turn x5)))]⟩ : St) _
  obtain _ | k := k
  · rw [laws_toTurnS_l1] at h; cases h
  rw [laws_toTurnS_l1] at h
  refine AW.seq ?_
  refine AW.seq ?_
  refine AW.regionA [] [0, 3, 4, 11] [1] (s' := ⟨[(0, (.v (.one (.c (sl 4 cs_Turn a0))))), (3, (.v (.one (.arr 1)))), (4, (.v (.one (.c (.int .i64 x4))))), (11, (.v (.one (.c (.bool (decide (x4 < (a0.length : Int))))))))], [(1, (.arr false x5.length 4 (gl cs_Turn x5)))]⟩) (ob := True ∧ True ∧ True ∧ True ∧ True) (by kernel_rfl) ⟨trivial, trivial, trivial, trivial, trivial⟩ ?_
  refine thenQ_normal ?_
  rcases ite2_cases h with ⟨b6, h⟩ | ⟨b6, h⟩
  · refine AW.cond_t rfl b6 ?_
    refine AW.skip ?_
    refine thenQ_normal ?_
    refine AW.seq ?_
    refine AW.block ?_
    obtain ⟨c7, h⟩ := chk_some h
    obtain ⟨v8, e9, h⟩ := bind_some h
    obtain ⟨c10, h⟩ := chk_some h
    refine AW.regionA [.no, .no, .no, .no, .no, .no, .call [.agg (cs_Turn (a0.getD x4.toNat default))] [.agg (cs_Turn v8)] [[.view, .view, .view, .view]], .no, .set (x5.set x4.toNat v8).length (gl cs_Turn (x5.set x4.toNat v8)) ((List.range 4).map fun j => (cs_Turn v8).getD (0 + j) .nilptr)] [0, 3, 4] [1] (s' := ⟨[(0, (.v (.one (.c (sl 4 cs_Turn a0))))), (3, (.v (.one (.arr 1)))), (4, (.v (.one (.c (.int .i64 x4)))))], [(1, (.arr false (x5.set x4.toNat v8).length 4 (gl cs_Turn (x5.set x4.toNat v8))))]⟩) (ob := True ∧ True ∧ True ∧ True ∧ (0 ≤ x4 ∧ x4 < (a0.length : Int)) ∧ True ∧ ((((((.flt .f32 ((a0.getD x4.toNat default).W).bits) : C) = (.flt .f32 ((a0.getD x4.toNat default).W).bits)) ∧ (((.flt .f32 ((a0.getD x4.toNat default).X).bits) : C) = (.flt .f32 ((a0.getD x4.toNat default).X).bits)) ∧ (((.flt .f32 ((a0.getD x4.toNat default).Y).bits) : C) = (.flt .f32 ((a0.getD x4.toNat default).Y).bits)) ∧ (((.flt .f32 ((a0.getD x4.toNat default).Z).bits) : C) = (.flt .f32 ((a0.getD x4.toNat default).Z).bits)) ∧ True) ∧ True) ∧ CallOK Try.prog 130 [.agg (cs_Turn (a0.getD x4.toNat default))] [.agg (cs_Turn v8)]) ∧ (0 ≤ x4 ∧ x4 < (x5.length : Int)) ∧ ((x5.set x4.toNat v8).length = x5.length ∧ SetOb x5.length 4 x4.toNat 0 4 (gl cs_Turn x5) (gl cs_Turn (x5.set x4.toNat v8)) ∧ ((List.range 4).map fun j => (cs_Turn v8).getD (0 + j) .nilptr) = ((List.range 4).map fun j => gl cs_Turn (x5.set x4.toNat v8) x4.toNat (0 + j)) ∧ ((((.flt .f32 v8.W.bits) : C) = (.flt .f32 v8.W.bits) ∧ True) ∧ (((.flt .f32 v8.X.bits) : C) = (.flt .f32 v8.X.bits) ∧ True) ∧ (((.flt .f32 v8.Y.bits) : C) = (.flt .f32 v8.Y.bits) ∧ True) ∧ (((.flt .f32 v8.Z.bits) : C) = (.flt .f32 v8.Z.bits) ∧ True) ∧ True) ∧ (false = true → ∀ j, j < 4 → isSeq (gl cs_Turn x5 x4.toNat (0 + j)) = false ∧ isSeq (gl cs_Turn (x5.set x4.toNat v8) x4.toNat (0 + j)) = false)) ∧ True) (by kernel_rfl) ⟨trivial, trivial, trivial, trivial, c7, trivial, ⟨⟨⟨rfl, rfl, rfl, rfl, trivial⟩, trivial⟩, ok_laws_toTurn K (a0.getD x4.toNat default) v8 e9⟩, c10, ⟨List.length_set, gl_set, (gl_atp (lt_of_bound c10)).symm, ⟨⟨rfl, trivial⟩, ⟨rfl, trivial⟩, ⟨rfl, trivial⟩, ⟨rfl, trivial⟩, trivial⟩, (fun h => nomatch h)⟩, trivial⟩ ?_
    refine blockQ_normal ?_
    refine thenQ_normal ?_
    refine AW.regionA [] [0, 3, 4] [1] (s' := ⟨[(0, (.v (.one (.c (sl 4 cs_Turn a0))))), (3, (.v (.one (.arr 1)))), (4, (.v (.one (.c (.int .i64 (IntKind.i64.wrap (x4 + (1 : Int))))))))], [(1, (.arr false (x5.set x4.toNat v8).length 4 (gl cs_Turn (x5.set x4.toNat v8))))]⟩) (ob := True ∧ True ∧ True ∧ True) (by kernel_rfl) ⟨trivial, trivial, trivial, trivial⟩ ?_
    exact loopQ_normal (k, (IntKind.i64.wrap (x4 + (1 : Int))), (x5.set x4.toNat v8)) h (Nat.lt_succ_self k) (Sub.keep [0, 3, 4] [1] (by kernel_rfl) (by kernel_rfl))
  · refine AW.cond_f rfl b6 ?_
    refine AW.exit ?_
    refine thenQ_exit ?_
    refine loopQ_exit ?_
    refine blockQ_exit ?_
    refine thenQ_normal ?_
    refine AW.seq ?_
    refine AW.regionA [] [2] [1] (s' := ⟨[(2, (.v (.one (.arr 1))))], [(1, (.arr false x5.length 4 (gl cs_Turn x5)))]⟩) (ob := True ∧ True ∧ True) (by kernel_rfl) ⟨trivial, trivial, trivial⟩ ?_
    refine thenQ_normal ?_
    refine AW.ret ?_
    replace h := some_eq h
    subst h
    exact ⟨.inr rfl, retOK_of [(.one (.arr 1))] (by kernel_rfl) ⟨rfl, trivial⟩ (of_decide_eq_true (by kernel_rfl))⟩

/-! laws.toPose -/
def laws_toPose (K : Nat) (a0 : Pose) : Option (Pose) :=
  (laws_toVector K a0.Root).bind fun v1 => (laws_toTurnS K a0.Turns).bind fun v3 => some (Pose.mk v1 v3)

theorem ok_laws_toPose (K : Nat) (a0 : Pose) (o : (Pose)) (h : laws_toPose K a0 = some o) : CallOK Try.prog 34 [.agg (cs_Pose a0)] [.agg (cs_Pose o)] := by
  refine callOK_of_AW Try.func34 rfl (by kernel_rfl) (Nat.le_of_ble_eq_true (by kernel_rfl)) ?_
  intro w0
  unfold laws_toPose at h
  refine AW.seq ?_
  refine AW.regionA [.box 1, .box 2] [1, 2] [1, 2] (s' := ⟨[(1, (.v (.one (.ptr 1 0)))), (2, (.v (.one (.ptr 2 0))))], [(1, (.box [(.c (.flt .f32 a0.Root.X.bits)), (.c (.flt .f32 a0.Root.Y.bits)), (.c (.flt .f32 a0.Root.Z.bits)), (.c (sl 4 cs_Turn a0.Turns))])), (2, (.box [(.c (.flt .f32 (default : F32).bits)), (.c (.flt .f32 (default : F32).bits)), (.c (.flt .f32 (default : F32).bits)), .nils]))]⟩) (ob := True ∧ True ∧ True) (by kernel_rfl) ⟨trivial, trivial, trivial⟩ ?_
  refine thenQ_normal ?_
  refine AW.seq ?_
  refine AW.regionA [.box 3] [1, 2, 3] [1, 2, 3] (s' := ⟨[(1, (.v (.one (.ptr 1 0)))), (2, (.v (.one (.ptr 2 0)))), (3, (.v (.one (.ptr 3 0))))], [(1, (.box [(.c (.flt .f32 a0.Root.X.bits)), (.c (.flt .f32 a0.Root.Y.bits)), (.c (.flt .f32 a0.Root.Z.bits)), (.c (sl 4 cs_Turn a0.Turns))])), (2, (.box [(.c (.flt .f32 (default : F32).bits)), (.c (.flt .f32 (default : F32).bits)), (.c (.flt .f32 (default : F32).bits)), .nils])), (3, (.box [(.c (.flt .f32 (default : F32).bits)), (.c (.flt .f32 (default : F32).bits)), (.c (.flt .f32 (default : F32).bits)), .nils]))]⟩) (ob := True ∧ True) (by kernel_rfl) ⟨trivial, trivial⟩ ?_
  refine thenQ_normal ?_
  refine AW.seq ?_
  obtain ⟨v1, e2, h⟩ := bind_some h
  refine AW.regionA [.no, .no, .call [.agg (cs_Vector a0.Root)] [.agg (cs_Vector v1)] [[.view, .view, .view]]] [1, 2, 3] [1, 2, 3] (s' := ⟨[(1, (.v (.one (.ptr 1 0)))), (2, (.v (.one (.ptr 2 0)))), (3, (.v (.one (.ptr 3 0))))], [(1, (.box [(.c (.flt .f32 a0.Root.X.bits)), (.c (.flt .f32 a0.Root.Y.bits)), (.c (.flt .f32 a0.Root.Z.bits)), (.c (sl 4 cs_Turn a0.Turns))])), (2, (.box [(.c (.flt .f32 (default : F32).bits)), (.c (.flt .f32 (default : F32).bits)), (.c (.flt .f32 (default : F32).bits)), .nils])), (3, (.box [(.c (.flt .f32 v1.X.bits)), (.c (.flt .f32 v1.Y.bits)), (.c (.flt .f32 v1.Z.bits)), .nils]))]⟩) (ob := True ∧ True ∧ ((((((.flt .f32 a0.Root.X.bits) : C) = (.flt .f32 a0.Root.X.bits)) ∧ (((.flt .f32 a0.Root.Y.bits) : C) = (.flt .f32 a0.Root.Y.bits)) ∧ (((.flt .f32 a0.Root.Z.bits) : C) = (.flt .f32 a0.Root.Z.bits)) ∧ True) ∧ True) ∧ CallOK Try.prog 88 [.agg (cs_Vector a0.Root)] [.agg (cs_Vector v1)]) ∧ True ∧ True ∧ True) (by kernel_rfl) ⟨trivial, trivial, ⟨⟨⟨rfl, rfl, rfl, trivial⟩, trivial⟩, ok_laws_toVector K a0.Root v1 e2⟩, trivial, trivial, trivial⟩ ?_
  refine thenQ_normal ?_
  refine AW.seq ?_
  obtain ⟨v3, e4, h⟩ := bind_some h
  refine AW.regionA [.no, .no, .call [.one (sl 4 cs_Turn a0.Turns)] [.one (sl 4 cs_Turn v3)] [[.lst 4]]] [2, 3] [2, 3, 4] (s' := ⟨[(2, (.v (.one (.ptr 2 0)))), (3, (.v (.one (.ptr 3 0))))], [(2, (.box [(.c (.flt .f32 (default : F32).bits)), (.c (.flt .f32 (default : F32).bits)), (.c (.flt .f32 (default : F32).bits)), .nils])), (3, (.box [(.c (.flt .f32 v1.X.bits)), (.c (.flt .f32 v1.Y.bits)), (.c (.flt .f32 v1.Z.bits)), (.lst 4 v3.length 4 (gl cs_Turn v3))])), (4, (.lst v3.length 4 (gl cs_Turn v3)))]⟩) (ob := True ∧ True ∧ (((((sl 4 cs_Turn a0.Turns) : C) = (sl 4 cs_Turn a0.Turns)) ∧ True) ∧ CallOK Try.prog 89 [.one (sl 4 cs_Turn a0.Turns)] [.one (sl 4 cs_Turn v3)]) ∧ True ∧ True ∧ True) (by kernel_rfl) ⟨trivial, trivial, ⟨⟨rfl, trivial⟩, ok_laws_toTurnS K a0.Turns v3 e4⟩, trivial, trivial, trivial⟩ ?_
  refine thenQ_normal ?_
  refine AW.seq ?_
  refine AW.regionA [] [2] [2, 4] (s' := ⟨[(2, (.v (.one (.ptr 2 0))))], [(2, (.box [(.c (.flt .f32 v1.X.bits)), (.c (.flt .f32 v1.Y.bits)), (.c (.flt .f32 v1.Z.bits)), (.lst 4 v3.length 4 (gl cs_Turn v3))])), (4, (.lst v3.length 4 (gl cs_Turn v3)))]⟩) (ob := True ∧ True ∧ True) (by kernel_rfl) ⟨trivial, trivial, trivial⟩ ?_
  refine thenQ_normal ?_
  refine AW.ret ?_
  replace h := some_eq h
  subst h
  exact ⟨.inr rfl, retOK_of [(.agg [(.c (.flt .f32 v1.X.bits)), (.c (.flt .f32 v1.Y.bits)), (.c (.flt .f32 v1.Z.bits)), (.lst 4 v3.length 4 (gl cs_Turn v3))])] (by kernel_rfl) ⟨⟨⟨rfl, trivial⟩, ⟨rfl, trivial⟩, ⟨rfl, trivial⟩, rfl, trivial⟩, trivial⟩ (of_decide_eq_true (by kernel_rfl))⟩

/-! laws.toPoseS -/
def laws_toPoseS_l1 (K : Nat) (a0 : (List Pose)) : Nat → Int → (List Pose) → Option ((List Pose))
  | 0, _, _ => none
  | k + 1, x4, x5 => ite2 ((decide (x4 < (a0.length : Int)))) (chk (0 ≤ x4 ∧ x4 < (a0.length : Int)) ((laws_toPose K (a0.getD x4.toNat default)).bind fun v8 => chk (0 ≤ x4 ∧ x4 < (x5.length : Int)) (laws_toPoseS_l1 K a0 k (IntKind.i64.wrap (x4 + (1 : Int))) (x5.set x4.toNat v8)))) (some x5)

def laws_toPoseS (K : Nat) (a0 : (List Pose)) : Option ((List Pose)) :=
  chk (0 ≤ (a0.length : Int) ∧ (a0.length : Int).toNat * 40 ≤ 140737488355328) (laws_toPoseS_l1 K a0 K (0 : Int) (List.replicate (a0.length : Int).toNat (default : Pose)))

theorem ok_laws_toPoseS (K : Nat) (a0 : (List Pose)) (o : ((List Pose))) (h : laws_toPoseS K a0 = some o) : CallOK Try.prog 75 [.one (sl 4 cs_Pose a0)] [.one (sl 4 cs_Pose o)] := by
  refine callOK_of_AW Try.func75 rfl (by kernel_rfl) (Nat.le_of_ble_eq_true (by kernel_rfl)) ?_
  intro w0
  unfold laws_toPoseS at h
  refine AW.seq ?_
  refine AW.regionA [] [0] [] (s' := ⟨[(0, (.v (.one (.c (sl 4 cs_Pose a0)))))], []⟩) (ob := True ∧ True) (by kernel_rfl) ⟨trivial, trivial⟩ ?_
  refine thenQ_normal ?_
  refine AW.seq ?_
  obtain ⟨c1, h⟩ := chk_some h
  refine AW.regionA [.no, .no, .objA 1 (List.replicate (a0.length : Int).toNat (default : Pose)).length (gl cs_Pose (List.replicate (a0.length : Int).toNat (default : Pose)))] [0, 3] [1] (s' := ⟨[(0, (.v (.one (.c (sl 4 cs_Pose a0))))), (3, (.v (.one (.arr 1))))], [(1, (.arr false (List.replicate (a0.length : Int).toNat (default : Pose)).length 4 (gl cs_Pose (List.replicate (a0.length : Int).toNat (default : Pose)))))]⟩) (ob := True ∧ True ∧ (0 ≤ (a0.length : Int) ∧ (a0.length : Int) = (a0.length : Int) ∧ (((List.replicate (a0.length : Int).toNat (default : Pose)).length : Nat) : Int) = (a0.length : Int) ∧ (List.replicate (a0.length : Int).toNat (default : Pose)).length * 40 ≤ 140737488355328 ∧ ∀ i, i < (List.replicate (a0.length : Int).toNat (default : Pose)).length → zeroRow (fun _ => none) [(.c (.flt .f32 (default : F32).bits)), (.c (.flt .f32 (default : F32).bits)), (.c (.flt .f32 (default : F32).bits)), .nils] (gl cs_Pose (List.replicate (a0.length : Int).toNat (default : Pose)) i)) ∧ True ∧ True) (by kernel_rfl) ⟨trivial, trivial, ⟨c1.1, rfl, len_rep c1.1, rep_bytes c1.2, fun i hi => gl_zero (cs := cs_Pose) (zs := [(.c (.flt .f32 (default : F32).bits)), (.c (.flt .f32 (default : F32).bits)), (.c (.flt .f32 (default : F32).bits)), .nils]) (n := (a0.length : Int).toNat) ⟨⟨rfl, trivial⟩, ⟨rfl, trivial⟩, ⟨rfl, trivial⟩, rfl, trivial⟩ i (rep_lt hi)⟩, trivial, trivial⟩ ?_
  refine thenQ_normal ?_
  refine AW.seq ?_
  refine AW.seq ?_
  refine AW.regionA [] [0, 3, 4] [1] (s' := ⟨[(0, (.v (.one (.c (sl 4 cs_Pose a0))))), (3, (.v (.one (.arr 1)))), (4, (.v (.one (.c (.int .i64 (0 : Int))))))], [(1, (.arr false (List.replicate (a0.length : Int).toNat (default : Pose)).length 4 (gl cs_Pose (List.replicate (a0.length : Int).toNat (default : Pose)))))]⟩) (ob := True ∧ True) (by kernel_rfl) ⟨trivial, trivial⟩ ?_
  refine thenQ_normal ?_
  refine AW.block ?_
  refine AW.loopQ (σ := Nat × Int × (List Pose)) (fun p => ⟨[(0, (.v (.one (.c (sl 4 cs_Pose a0))))), (3, (.v (.one (.arr 1)))), (4, (.v (.one (.c (.int .i64 p.2.1)))))], [(1, (.arr false p.2.2.length 4 (gl cs_Pose p.2.2)))]⟩) (fun p => laws_toPoseS_l1 K a0 p.1 p.2.1 p.2.2 = some o) (fun p => p.1) (K, (0 : Int), (List.replicate (a0.length : Int).toNat (default : Pose))) h ?_
  clear h
  rintro ⟨k, x4, x5⟩ h
  replace h : laws_toPoseS_l1 K a0 k x4 x5 = some o := h
  show AW _ _ (⟨[(0, (.v (.one (.c (sl 4 cs_Pose a0))))), (3, (.v (.one (.arr 1)))), (4, (.v (.one (.c (.int .i64 x4)))))], [(1, (.arr false x5.length 4 (gl cs_Pose x5)))]⟩ : St) _
  obtain _ | k := k
  · rw [laws_toPoseS_l1] at h; cases h
  rw [laws_toPoseS_l1] at h
  refine AW.seq ?_
  refine AW.seq ?_
  refine AW.regionA [] [0, 3, 4, 11] [1] (s' := ⟨[(0, (.v (.one (.c (sl 4 cs_Pose a0))))), (3, (.v (.one (.arr 1)))), (4, (.v (.one (.c (.int .i64 x4))))), (11, (.v (.one (.c (.bool (decide (x4 < (a0.length : Int))))))))], [(1, (.arr false x5.length 4 (gl cs_Pose x5)))]⟩) (ob := True ∧ True ∧ True ∧ True ∧ True) (by kernel_rfl) ⟨trivial, trivial, trivial, trivial, trivial⟩ ?_
  refine thenQ_normal ?_
  rcases ite2_cases h with ⟨b6, h⟩ | ⟨b6, h⟩
  · refine AW.cond_t rfl b6 ?_
    refine AW.skip ?_
    refine thenQ_normal ?_
    refine AW.seq ?_
    refine AW.block ?_
    obtain ⟨c7, h⟩ := chk_some h
    obtain ⟨v8, e9, h⟩ := bind_some h
    obtain ⟨c10, h⟩ := chk_some h
    refine AW.regionA [.no, .no, .no, .no, .no, .no, .call [.agg (cs_Pose (a0.getD x4.toNat default))] [.agg (cs_Pose v8)] [[.view, .view, .view, .lst 4]], .no, .set (x5.set x4.toNat v8).length (gl cs_Pose (x5.set x4.toNat v8)) ((List.range 4).map fun j => (cs_Pose v8).getD (0 + j) .nilptr)] [0, 3, 4] [1] (s' := ⟨[(0, (.v (.one (.c (sl 4 cs_Pose a0))))), (3, (.v (.one (.arr 1)))), (4, (.v (.one (.c (.int .i64 x4)))))], [(1, (.arr false (x5.set x4.toNat v8).length 4 (gl cs_Pose (x5.set x4.toNat v8))))]⟩) (ob := True ∧ True ∧ True ∧ True ∧ (0 ≤ x4 ∧ x4 < (a0.length : Int)) ∧ True ∧ ((((((.flt .f32 (((a0.getD x4.toNat default).Root).X).bits) : C) = (.flt .f32 (((a0.getD x4.toNat default).Root).X).bits)) ∧ (((.flt .f32 (((a0.getD x4.toNat default).Root).Y).bits) : C) = (.flt .f32 (((a0.getD x4.toNat default).Root).Y).bits)) ∧ (((.flt .f32 (((a0.getD x4.toNat default).Root).Z).bits) : C) = (.flt .f32 (((a0.getD x4.toNat default).Root).Z).bits)) ∧ (((sl 4 cs_Turn ((a0.getD x4.toNat default).Turns)) : C) = (sl 4 cs_Turn ((a0.getD x4.toNat default).Turns))) ∧ True) ∧ True) ∧ CallOK Try.prog 34 [.agg (cs_Pose (a0.getD x4.toNat default))] [.agg (cs_Pose v8)]) ∧ (0 ≤ x4 ∧ x4 < (x5.length : Int)) ∧ ((x5.set x4.toNat v8).length = x5.length ∧ SetOb x5.length 4 x4.toNat 0 4 (gl cs_Pose x5) (gl cs_Pose (x5.set x4.toNat v8)) ∧ ((List.range 4).map fun j => (cs_Pose v8).getD (0 + j) .nilptr) = ((List.range 4).map fun j => gl cs_Pose (x5.set x4.toNat v8) x4.toNat (0 + j)) ∧ ((((.flt .f32 v8.Root.X.bits) : C) = (.flt .f32 v8.Root.X.bits) ∧ True) ∧ (((.flt .f32 v8.Root.Y.bits) : C) = (.flt .f32 v8.Root.Y.bits) ∧ True) ∧ (((.flt .f32 v8.Root.Z.bits) : C) = (.flt .f32 v8.Root.Z.bits) ∧ True) ∧ (((sl 4 cs_Turn v8.Turns) : C) = (sl 4 cs_Turn v8.Turns)) ∧ True) ∧ (false = true → ∀ j, j < 4 → isSeq (gl cs_Pose x5 x4.toNat (0 + j)) = false ∧ isSeq (gl cs_Pose (x5.set x4.toNat v8) x4.toNat (0 + j)) = false)) ∧ True) (by kernel_rfl) ⟨trivial, trivial, trivial, trivial, c7, trivial, ⟨⟨⟨rfl, rfl, rfl, rfl, trivial⟩, trivial⟩, ok_laws_toPose K (a0.getD x4.toNat default) v8 e9⟩, c10, ⟨List.length_set, gl_set, (gl_atp (lt_of_bound c10)).symm, ⟨⟨rfl, trivial⟩, ⟨rfl, trivial⟩, ⟨rfl, trivial⟩, rfl, trivial⟩, (fun h => nomatch h)⟩, trivial⟩ ?_
    refine blockQ_normal ?_
    refine thenQ_normal ?_
    refine AW.regionA [] [0, 3, 4] [1] (s' := ⟨[(0, (.v (.one (.c (sl 4 cs_Pose a0))))), (3, (.v (.one (.arr 1)))), (4, (.v (.one (.c (.int .i64 (IntKind.i64.wrap (x4 + (1 : Int))))))))], [(1, (.arr false (x5.set x4.toNat v8).length 4 (gl cs_Pose (x5.set x4.toNat v8))))]⟩) (ob := True ∧ True ∧ True ∧ True) (by kernel_rfl) ⟨trivial, trivial, trivial, trivial⟩ ?_
    exact loopQ_normal (k, (IntKind.i64.wrap (x4 + (1 : Int))), (x5.set x4.toNat v8)) h (Nat.lt_succ_self k) (Sub.keep [0, 3, 4] [1] (by kernel_rfl) (by kernel_rfl))
  · refine AW.cond_f rfl b6 ?_
    refine AW.exit ?_
    refine thenQ_exit ?_
    refine loopQ_exit ?_
    refine blockQ_exit ?_
    refine thenQ_normal ?_
    refine AW.seq ?_
    refine AW.regionA [] [2] [1] (s' := ⟨[(2, (.v (.one (.arr 1))))], [(1, (.arr false x5.length 4 (gl cs_Pose x5)))]⟩) (ob := True ∧ True ∧ True) (by kernel_rfl) ⟨trivial, trivial, trivial⟩ ?_
    refine thenQ_normal ?_
    refine AW.ret ?_
    replace h := some_eq h
    subst h
    exact ⟨.inr rfl, retOK_of [(.one (.arr 1))] (by kernel_rfl) ⟨rfl, trivial⟩ (of_decide_eq_true (by kernel_rfl))⟩

/-! laws.toRecording -/
def laws_toRecording (K : Nat) (a0 : Recording) : Option (Recording) :=
  (laws_toPoseS K a0.Frames).bind fun v1 => some (Recording.mk a0.Bones v1)

theorem ok_laws_toRecording (K : Nat) (a0 : Recording) (o : (Recording)) (h : laws_toRecording K a0 = some o) : CallOK Try.prog 23 [.agg (cs_Recording a0)] [.agg (cs_Recording o)] := by
  refine callOK_of_AW Try.func23 rfl (by kernel_rfl) (Nat.le_of_ble_eq_true (by kernel_rfl)) ?_
  intro w0
  unfold laws_toRecording at h
  refine AW.seq ?_
  refine AW.regionA [.box 1, .box 2] [1, 2] [1, 2] (s' := ⟨[(1, (.v (.one (.ptr 1 0)))), (2, (.v (.one (.ptr 2 0))))], [(1, (.box [(.c (.int .i64 a0.Bones)), (.c (sl 4 cs_Pose a0.Frames))])), (2, (.box [(.c (.int .i64 (0 : Int))), .nils]))]⟩) (ob := True ∧ True ∧ True) (by kernel_rfl) ⟨trivial, trivial, trivial⟩ ?_
  refine thenQ_normal ?_
  refine AW.seq ?_
  refine AW.regionA [.box 3] [1, 2, 3] [1, 2, 3] (s' := ⟨[(1, (.v (.one (.ptr 1 0)))), (2, (.v (.one (.ptr 2 0)))), (3, (.v (.one (.ptr 3 0))))], [(1, (.box [(.c (.int .i64 a0.Bones)), (.c (sl 4 cs_Pose a0.Frames))])), (2, (.box [(.c (.int .i64 (0 : Int))), .nils])), (3, (.box [(.c (.int .i64 (0 : Int))), .nils]))]⟩) (ob := True ∧ True) (by kernel_rfl) ⟨trivial, trivial⟩ ?_
  refine thenQ_normal ?_
  refine AW.seq ?_
  refine AW.regionA [] [1, 2, 3] [1, 2, 3] (s' := ⟨[(1, (.v (.one (.ptr 1 0)))), (2, (.v (.one (.ptr 2 0)))), (3, (.v (.one (.ptr 3 0))))], [(1, (.box [(.c (.int .i64 a0.Bones)), (.c (sl 4 cs_Pose a0.Frames))])), (2, (.box [(.c (.int .i64 (0 : Int))), .nils])), (3, (.box [(.c (.int .i64 a0.Bones)), .nils]))]⟩) (ob := True ∧ True ∧ True ∧ True ∧ True) (by kernel_rfl) ⟨trivial, trivial, trivial, trivial, trivial⟩ ?_
  refine thenQ_normal ?_
  refine AW.seq ?_
  obtain ⟨v1, e2, h⟩ := bind_some h
  refine AW.regionA [.no, .no, .call [.one (sl 4 cs_Pose a0.Frames)] [.one (sl 4 cs_Pose v1)] [[.lst 4]]] [2, 3] [2, 3, 4] (s' := ⟨[(2, (.v (.one (.ptr 2 0)))), (3, (.v (.one (.ptr 3 0))))], [(2, (.box [(.c (.int .i64 (0 : Int))), .nils])), (3, (.box [(.c (.int .i64 a0.Bones)), (.lst 4 v1.length 4 (gl cs_Pose v1))])), (4, (.lst v1.length 4 (gl cs_Pose v1)))]⟩) (ob := True ∧ True ∧ (((((sl 4 cs_Pose a0.Frames) : C) = (sl 4 cs_Pose a0.Frames)) ∧ True) ∧ CallOK Try.prog 75 [.one (sl 4 cs_Pose a0.Frames)] [.one (sl 4 cs_Pose v1)]) ∧ True ∧ True ∧ True) (by kernel_rfl) ⟨trivial, trivial, ⟨⟨rfl, trivial⟩, ok_laws_toPoseS K a0.Frames v1 e2⟩, trivial, trivial, trivial⟩ ?_
  refine thenQ_normal ?_
  refine AW.seq ?_
  refine AW.regionA [] [2] [2, 4] (s' := ⟨[(2, (.v (.one (.ptr 2 0))))], [(2, (.box [(.c (.int .i64 a0.Bones)), (.lst 4 v1.length 4 (gl cs_Pose v1))])), (4, (.lst v1.length 4 (gl cs_Pose v1)))]⟩) (ob := True ∧ True ∧ True) (by kernel_rfl) ⟨trivial, trivial, trivial⟩ ?_
  refine thenQ_normal ?_
  refine AW.ret ?_
  replace h := some_eq h
  subst h
  exact ⟨.inr rfl, retOK_of [(.agg [(.c (.int .i64 a0.Bones)), (.lst 4 v1.length 4 (gl cs_Pose v1))])] (by kernel_rfl) ⟨⟨⟨rfl, trivial⟩, rfl, trivial⟩, trivial⟩ (of_decide_eq_true (by kernel_rfl))⟩

/-! spec.l00In -/
def spec_l00In (_K : Nat) (a0 : Int) (a1 : Int) (a2 : Int) : Option (Bool) :=
  (ite2 ((decide (a0 ≥ a1))) (some (decide (a0 ≤ a2))) (some false)).bind fun j2 => some j2

theorem ok_spec_l00In (K : Nat) (a0 : Int) (a1 : Int) (a2 : Int) (o : (Bool)) (h : spec_l00In K a0 a1 a2 = some o) : CallOK Try.prog 64 [.one (.int .i64 a0), .one (.int .i64 a1), .one (.int .i64 a2)] [.one (.bool o)] := by
  refine callOK_of_AW Try.func64 rfl (by kernel_rfl) (Nat.le_of_ble_eq_true (by kernel_rfl)) ?_
  intro w0
  unfold spec_l00In at h
  refine AW.seq ?_
  refine AW.regionA [] [0, 1, 2] [] (s' := ⟨[(0, (.v (.one (.c (.int .i64 a0))))), (1, (.v (.one (.c (.int .i64 a1))))), (2, (.v (.one (.c (.int .i64 a2)))))], []⟩) (ob := True ∧ True) (by kernel_rfl) ⟨trivial, trivial⟩ ?_
  refine thenQ_normal ?_
  refine AW.seq ?_
  obtain ⟨j2, e3, h⟩ := bind_some h
  refine AW.join1 (s2 := ⟨[(6, (.v (.one (.c (.bool j2)))))], []⟩) ?_ ?_
  · rcases ite2_cases e3 with ⟨b1, e3⟩ | ⟨b1, e3⟩
    · replace e3 := some_eq e3
      subst e3
      exact AW.regionA [.no, .no, .no, .dec true] [6] [] (s' := ⟨[(6, (.v (.one (.c (.bool (decide (a0 ≤ a2)))))))], []⟩) (ob := True ∧ True ∧ True ∧ (True ∧ (decide (a0 ≥ a1)) = true) ∧ True ∧ True ∧ True ∧ True ∧ True ∧ True) (by kernel_rfl) ⟨trivial, trivial, trivial, ⟨trivial, b1⟩, trivial, trivial, trivial, trivial, trivial, trivial⟩ ⟨rfl, rfl⟩
    · replace e3 := some_eq e3
      subst e3
      exact AW.regionA [.no, .no, .no, .dec false] [6] [] (s' := ⟨[(6, (.v (.one (.c (.bool false)))))], []⟩) (ob := True ∧ True ∧ True ∧ (True ∧ (decide (a0 ≥ a1)) = false) ∧ True ∧ True ∧ True ∧ True ∧ True ∧ True) (by kernel_rfl) ⟨trivial, trivial, trivial, ⟨trivial, b1⟩, trivial, trivial, trivial, trivial, trivial, trivial⟩ ⟨rfl, rfl⟩
  refine thenQ_normal ?_
  refine AW.ret ?_
  replace h := some_eq h
  subst h
  exact ⟨.inr rfl, retOK_of [(.one (.c (.bool j2)))] (by kernel_rfl) ⟨⟨rfl, trivial⟩, trivial⟩ (of_decide_eq_true (by kernel_rfl))⟩

/-! spec.l06Count -/
def spec_l06Count (K : Nat) (a0 : Int) : Option (Bool) :=
  (spec_l00In K a0 (1 : Int) (12 : Int)).bind fun v1 => some v1

theorem ok_spec_l06Count (K : Nat) (a0 : Int) (o : (Bool)) (h : spec_l06Count K a0 = some o) : CallOK Try.prog 122 [.one (.int .i64 a0)] [.one (.bool o)] := by
  refine callOK_of_AW Try.func122 rfl (by kernel_rfl) (Nat.le_of_ble_eq_true (by kernel_rfl)) ?_
  intro w0
  unfold spec_l06Count at h
  refine AW.seq ?_
  refine AW.regionA [] [0] [] (s' := ⟨[(0, (.v (.one (.c (.int .i64 a0)))))], []⟩) (ob := True ∧ True) (by kernel_rfl) ⟨trivial, trivial⟩ ?_
  refine thenQ_normal ?_
  refine AW.seq ?_
  obtain ⟨v1, e2, h⟩ := bind_some h
  refine AW.regionA [.no, .call [.one (.int .i64 a0), .one (.int .i64 (1 : Int)), .one (.int .i64 (12 : Int))] [.one (.bool v1)] [[.view]]] [2] [] (s' := ⟨[(2, (.v (.one (.c (.bool v1)))))], []⟩) (ob := True ∧ (((((.int .i64 a0) : C) = (.int .i64 a0)) ∧ (((.int .i64 (1 : Int)) : C) = (.int .i64 (1 : Int))) ∧ (((.int .i64 (12 : Int)) : C) = (.int .i64 (12 : Int))) ∧ True) ∧ CallOK Try.prog 64 [.one (.int .i64 a0), .one (.int .i64 (1 : Int)), .one (.int .i64 (12 : Int))] [.one (.bool v1)]) ∧ True ∧ True) (by kernel_rfl) ⟨trivial, ⟨⟨rfl, rfl, rfl, trivial⟩, ok_spec_l00In K a0 (1 : Int) (12 : Int) v1 e2⟩, trivial, trivial⟩ ?_
  refine thenQ_normal ?_
  refine AW.ret ?_
  replace h := some_eq h
  subst h
  exact ⟨.inr rfl, retOK_of [(.one (.c (.bool v1)))] (by kernel_rfl) ⟨⟨rfl, trivial⟩, trivial⟩ (of_decide_eq_true (by kernel_rfl))⟩

/-! spec.l10Is -/
def spec_l10Is_l1 (K : Nat) (a0 : Recording) : Nat → Int → Option (Bool)
  | 0, _ => none
  | k + 1, x8 => ite2 ((decide (x8 < (a0.Frames.length : Int)))) (chk (0 ≤ x8 ∧ x8 < (a0.Frames.length : Int)) (ite2 (((((a0.Frames.getD x8.toNat default).Turns).length : Int) != a0.Bones)) (some false) (spec_l10Is_l1 K a0 k (IntKind.i64.wrap (x8 + (1 : Int)))))) (some true)

def spec_l10Is (K : Nat) (a0 : Recording) : Option (Bool) :=
  (spec_l06Count K a0.Bones).bind fun v1 => (ite2 ((!v1)) (some true) (some (decide ((a0.Frames.length : Int) > (64 : Int))))).bind fun j4 => ite2 (j4) (some false) (spec_l10Is_l1 K a0 K (0 : Int))

theorem ok_spec_l10Is (K : Nat) (a0 : Recording) (o : (Bool)) (h : spec_l10Is K a0 = some o) : CallOK Try.prog 73 [.one (pl 2 cs_Recording a0)] [.one (.bool o)] := by
  refine callOK_of_AW Try.func73 rfl (by kernel_rfl) (Nat.le_of_ble_eq_true (by kernel_rfl)) ?_
  intro w0
  unfold spec_l10Is at h
  refine AW.seq ?_
  refine AW.regionA [] [0] [] (s' := ⟨[(0, (.v (.one (.c (pl 2 cs_Recording a0)))))], []⟩) (ob := True ∧ True) (by kernel_rfl) ⟨trivial, trivial⟩ ?_
  refine thenQ_normal ?_
  refine AW.seq ?_
  refine AW.seq ?_
  obtain ⟨v1, e2, h⟩ := bind_some h
  obtain ⟨j4, e5, h⟩ := bind_some h
  refine AW.join1 (s2 := ⟨[(0, (.v (.one (.c (pl 2 cs_Recording a0))))), (17, (.v (.one (.c (.bool j4)))))], []⟩) ?_ ?_
  · rcases ite2_cases e5 with ⟨b3, e5⟩ | ⟨b3, e5⟩
    · replace e5 := some_eq e5
      subst e5
      exact AW.regionA [.no, .no, .no, .no, .call [.one (.int .i64 a0.Bones)] [.one (.bool v1)] [[.view]], .no, .dec true] [0, 17] [] (s' := ⟨[(0, (.v (.one (.c (pl 2 cs_Recording a0))))), (17, (.v (.one (.c (.bool true)))))], []⟩) (ob := True ∧ True ∧ True ∧ True ∧ (((((.int .i64 a0.Bones) : C) = (.int .i64 a0.Bones)) ∧ True) ∧ CallOK Try.prog 122 [.one (.int .i64 a0.Bones)] [.one (.bool v1)]) ∧ True ∧ (True ∧ (!v1) = true) ∧ True ∧ True ∧ True ∧ True ∧ True ∧ True ∧ True ∧ True) (by kernel_rfl) ⟨trivial, trivial, trivial, trivial, ⟨⟨rfl, trivial⟩, ok_spec_l06Count K a0.Bones v1 e2⟩, trivial, ⟨trivial, b3⟩, trivial, trivial, trivial, trivial, trivial, trivial, trivial, trivial⟩ ⟨rfl, rfl⟩
    · replace e5 := some_eq e5
      subst e5
      exact AW.regionA [.no, .no, .no, .no, .call [.one (.int .i64 a0.Bones)] [.one (.bool v1)] [[.view]], .no, .dec false] [0, 17] [] (s' := ⟨[(0, (.v (.one (.c (pl 2 cs_Recording a0))))), (17, (.v (.one (.c (.bool (decide ((a0.Frames.length : Int) > (64 : Int))))))))], []⟩) (ob := True ∧ True ∧ True ∧ True ∧ (((((.int .i64 a0.Bones) : C) = (.int .i64 a0.Bones)) ∧ True) ∧ CallOK Try.prog 122 [.one (.int .i64 a0.Bones)] [.one (.bool v1)]) ∧ True ∧ (True ∧ (!v1) = false) ∧ True ∧ True ∧ True ∧ True ∧ True ∧ True ∧ True ∧ True) (by kernel_rfl) ⟨trivial, trivial, trivial, trivial, ⟨⟨rfl, trivial⟩, ok_spec_l06Count K a0.Bones v1 e2⟩, trivial, ⟨trivial, b3⟩, trivial, trivial, trivial, trivial, trivial, trivial, trivial, trivial⟩ ⟨rfl, rfl⟩
  refine thenQ_normal ?_
  rcases ite2_cases h with ⟨b6, h⟩ | ⟨b6, h⟩
  · refine AW.cond_t rfl b6 ?_
    refine AW.seq ?_
    refine AW.regionA [] [2] [] (s' := ⟨[(2, (.v (.one (.c (.bool false)))))], []⟩) (ob := True ∧ True) (by kernel_rfl) ⟨trivial, trivial⟩ ?_
    refine thenQ_normal ?_
    refine AW.ret ?_
    refine thenQ_ret ?_
    replace h := some_eq h
    subst h
    exact ⟨.inr rfl, retOK_of [(.one (.c (.bool false)))] (by kernel_rfl) ⟨⟨rfl, trivial⟩, trivial⟩ (of_decide_eq_true (by kernel_rfl))⟩
  · refine AW.cond_f rfl b6 ?_
    refine AW.skip ?_
    refine thenQ_normal ?_
    refine AW.seq ?_
    refine AW.seq ?_
    refine AW.regionA [] [0, 3] [] (s' := ⟨[(0, (.v (.one (.c (pl 2 cs_Recording a0))))), (3, (.v (.one (.c (.int .i64 (0 : Int))))))], []⟩) (ob := True ∧ True) (by kernel_rfl) ⟨trivial, trivial⟩ ?_
    refine thenQ_normal ?_
    refine AW.block ?_
    refine AW.loopQ (σ := Nat × Int) (fun p => ⟨[(0, (.v (.one (.c (pl 2 cs_Recording a0))))), (3, (.v (.one (.c (.int .i64 p.2)))))], []⟩) (fun p => spec_l10Is_l1 K a0 p.1 p.2 = some o) (fun p => p.1) (K, (0 : Int)) h ?_
    clear h
    rintro ⟨k, x8⟩ h
    replace h : spec_l10Is_l1 K a0 k x8 = some o := h
    show AW _ _ (⟨[(0, (.v (.one (.c (pl 2 cs_Recording a0))))), (3, (.v (.one (.c (.int .i64 x8)))))], []⟩ : St) _
    obtain _ | k := k
    · rw [spec_l10Is_l1] at h; cases h
    rw [spec_l10Is_l1] at h
    refine AW.seq ?_
    refine AW.seq ?_
    refine AW.regionA [] [0, 3, 24] [] (s' := ⟨[(0, (.v (.one (.c (pl 2 cs_Recording a0))))), (3, (.v (.one (.c (.int .i64 x8))))), (24, (.v (.one (.c (.bool (decide (x8 < (a0.Frames.length : Int))))))))], []⟩) (ob := True ∧ True ∧ True ∧ True ∧ True ∧ True ∧ True ∧ True) (by kernel_rfl) ⟨trivial, trivial, trivial, trivial, trivial, trivial, trivial, trivial⟩ ?_
    refine thenQ_normal ?_
    rcases ite2_cases h with ⟨b9, h⟩ | ⟨b9, h⟩
    · refine AW.cond_t rfl b9 ?_
      refine AW.skip ?_
      refine thenQ_normal ?_
      refine AW.seq ?_
      refine AW.block ?_
      refine AW.seq ?_
      obtain ⟨c10, h⟩ := chk_some h
      refine AW.drawnA (by kernel_rfl) 14 [] [0, 3, 40] [] (s' := ⟨[(0, (.v (.one (.c (pl 2 cs_Recording a0))))), (3, (.v (.one (.c (.int .i64 x8))))), (40, (.v (.one (.c (.bool ((((a0.Frames.getD x8.toNat default).Turns).length : Int) != a0.Bones))))))], []⟩) (ob := (True ∧ True ∧ True ∧ True ∧ True ∧ (0 ≤ x8 ∧ x8 < (a0.Frames.length : Int)) ∧ True ∧ True ∧ True ∧ True ∧ True ∧ True ∧ True ∧ True ∧ True) ∧ (True)) (by kernel_rfl) ⟨⟨trivial, trivial, trivial, trivial, trivial, c10, trivial, trivial, trivial, trivial, trivial, trivial, trivial, trivial, trivial⟩, trivial⟩ ?_
      refine thenQ_normal ?_
      rcases ite2_cases h with ⟨b11, h⟩ | ⟨b11, h⟩
      · refine AW.cond_t rfl b11 ?_
        refine AW.seq ?_
        refine AW.regionA [] [2] [] (s' := ⟨[(2, (.v (.one (.c (.bool false)))))], []⟩) (ob := True ∧ True) (by kernel_rfl) ⟨trivial, trivial⟩ ?_
        refine thenQ_normal ?_
        refine AW.ret ?_
        refine blockQ_ret ?_
        refine thenQ_ret ?_
        refine loopQ_ret ?_
        refine blockQ_ret ?_
        refine thenQ_ret ?_
        replace h := some_eq h
        subst h
        exact ⟨.inr rfl, retOK_of [(.one (.c (.bool false)))] (by kernel_rfl) ⟨⟨rfl, trivial⟩, trivial⟩ (of_decide_eq_true (by kernel_rfl))⟩
      · refine AW.cond_f rfl b11 ?_
        refine AW.skip ?_
        refine blockQ_normal ?_
        refine thenQ_normal ?_
        refine AW.regionA [] [0, 3] [] (s' := ⟨[(0, (.v (.one (.c (pl 2 cs_Recording a0))))), (3, (.v (.one (.c (.int .i64 (IntKind.i64.wrap (x8 + (1 : Int))))))))], []⟩) (ob := True ∧ True ∧ True ∧ True) (by kernel_rfl) ⟨trivial, trivial, trivial, trivial⟩ ?_
        exact loopQ_normal (k, (IntKind.i64.wrap (x8 + (1 : Int)))) h (Nat.lt_succ_self k) (Sub.keep [0, 3] [] (by kernel_rfl) (by kernel_rfl))
    · refine AW.cond_f rfl b9 ?_
      refine AW.exit ?_
      refine thenQ_exit ?_
      refine loopQ_exit ?_
      refine blockQ_exit ?_
      refine thenQ_normal ?_
      refine AW.seq ?_
      refine AW.regionA [] [2] [] (s' := ⟨[(2, (.v (.one (.c (.bool true)))))], []⟩) (ob := True ∧ True) (by kernel_rfl) ⟨trivial, trivial⟩ ?_
      refine thenQ_normal ?_
      refine AW.ret ?_
      replace h := some_eq h
      subst h
      exact ⟨.inr rfl, retOK_of [(.one (.c (.bool true)))] (by kernel_rfl) ⟨⟨rfl, trivial⟩, trivial⟩ (of_decide_eq_true (by kernel_rfl))⟩

/-! spec.l10Copy -/
def spec_l10Copy (_K : Nat) (a0 : Pose) : Option (Pose) :=
  chk ((([] : List Turn).length + a0.Turns.length) * 16 ≤ 140737488355328) (some (Pose.mk a0.Root (([] : List Turn) ++ a0.Turns)))

theorem ok_spec_l10Copy (K : Nat) (a0 : Pose) (o : (Pose)) (h : spec_l10Copy K a0 = some o) : CallOK Try.prog 87 [.one (pl 4 cs_Pose a0)] [.agg (cs_Pose o)] := by
  refine callOK_of_AW Try.func87 rfl (by kernel_rfl) (Nat.le_of_ble_eq_true (by kernel_rfl)) ?_
  intro w0
  unfold spec_l10Copy at h
  refine AW.seq ?_
  refine AW.regionA [.box 1] [0, 2] [1] (s' := ⟨[(0, (.v (.one (.c (pl 4 cs_Pose a0))))), (2, (.v (.one (.ptr 1 0))))], [(1, (.box [(.c (.flt .f32 (default : F32).bits)), (.c (.flt .f32 (default : F32).bits)), (.c (.flt .f32 (default : F32).bits)), .nils]))]⟩) (ob := True ∧ True) (by kernel_rfl) ⟨trivial, trivial⟩ ?_
  refine thenQ_normal ?_
  refine AW.seq ?_
  obtain ⟨c1, h⟩ := chk_some h
  refine AW.drawnA (by kernel_rfl) 11 [.no, .no, .no, .no, .obj 2 ([] : List Turn).length (gl cs_Turn ([] : List Turn)), .no, .no, .no, .no, .obj 3 (([] : List Turn) ++ a0.Turns).length (gl cs_Turn (([] : List Turn) ++ a0.Turns))] [2] [1, 3] (s' := ⟨[(2, (.v (.one (.ptr 1 0))))], [(1, (.box [(.c (.flt .f32 a0.Root.X.bits)), (.c (.flt .f32 a0.Root.Y.bits)), (.c (.flt .f32 a0.Root.Z.bits)), (.lst 3 (([] : List Turn) ++ a0.Turns).length 4 (gl cs_Turn (([] : List Turn) ++ a0.Turns)))])), (3, (.lst (([] : List Turn) ++ a0.Turns).length 4 (gl cs_Turn (([] : List Turn) ++ a0.Turns))))]⟩) (ob := (True ∧ True ∧ True ∧ True ∧ (([] : List Turn).length = 0 ∧ True) ∧ True ∧ True ∧ True ∧ True ∧ ((([] : List Turn) ++ a0.Turns).length = ([] : List Turn).length + a0.Turns.length ∧ AppOb (([] : List Turn).length) (a0.Turns.length) 4 (gl cs_Turn ([] : List Turn)) (gl cs_Turn a0.Turns) (gl cs_Turn (([] : List Turn) ++ a0.Turns)) ∧ (∀ i j, i < a0.Turns.length → j < 4 → scalarC (gl cs_Turn a0.Turns i j)) ∧ (([] : List Turn).length + a0.Turns.length) * 16 ≤ 140737488355328) ∧ True ∧ True) ∧ (True ∧ True)) (by kernel_rfl) ⟨⟨trivial, trivial, trivial, trivial, ⟨rfl, trivial⟩, trivial, trivial, trivial, trivial, ⟨List.length_append, gl_append, gl_scalar sc_Turn _, c1⟩, trivial, trivial⟩, ⟨trivial, trivial⟩⟩ ?_
  refine thenQ_normal ?_
  refine AW.ret ?_
  replace h := some_eq h
  subst h
  exact ⟨.inr rfl, retOK_of [(.agg [(.c (.flt .f32 a0.Root.X.bits)), (.c (.flt .f32 a0.Root.Y.bits)), (.c (.flt .f32 a0.Root.Z.bits)), (.lst 3 (([] : List Turn) ++ a0.Turns).length 4 (gl cs_Turn (([] : List Turn) ++ a0.Turns)))])] (by kernel_rfl) ⟨⟨⟨rfl, trivial⟩, ⟨rfl, trivial⟩, ⟨rfl, trivial⟩, rfl, trivial⟩, trivial⟩ (of_decide_eq_true (by kernel_rfl))⟩

/-! spec.l10Some -/
def spec_l10Some_l1 (K : Nat) (a0 : Recording) (a1 : Int) (a2 : Int) : Nat → Int → (List Pose) → Option (Recording)
  | 0, _, _ => none
  | k + 1, x3, x4 => ite2 ((decide (x3 < (IntKind.i64.wrap (a1 + a2))))) (chk (0 ≤ x3 ∧ x3 < (a0.Frames.length : Int)) ((spec_l10Copy K (a0.Frames.getD x3.toNat default)).bind fun v7 => chk ((x4.length + ([v7]).length) * 40 ≤ 140737488355328) (spec_l10Some_l1 K a0 a1 a2 k (IntKind.i64.wrap (x3 + (1 : Int))) (x4 ++ ([v7]))))) (some (Recording.mk a0.Bones x4))

def spec_l10Some (K : Nat) (a0 : Recording) (a1 : Int) (a2 : Int) : Option (Recording) :=
  spec_l10Some_l1 K a0 a1 a2 K a1 ([] : List Pose)

theorem ok_spec_l10Some (K : Nat) (a0 : Recording) (a1 : Int) (a2 : Int) (o : (Recording)) (h : spec_l10Some K a0 a1 a2 = some o) : CallOK Try.prog 74 [.one (pl 2 cs_Recording a0), .one (.int .i64 a1), .one (.int .i64 a2)] [.agg (cs_Recording o)] := by
  refine callOK_of_AW Try.func74 rfl (by kernel_rfl) (Nat.le_of_ble_eq_true (by kernel_rfl)) ?_
  intro w0
  unfold spec_l10Some at h
  refine AW.seq ?_
  refine AW.regionA [.box 1] [0, 1, 2, 6] [1] (s' := ⟨[(0, (.v (.one (.c (pl 2 cs_Recording a0))))), (1, (.v (.one (.c (.int .i64 a1))))), (2, (.v (.one (.c (.int .i64 a2))))), (6, (.v (.one (.ptr 1 0))))], [(1, (.box [(.c (.int .i64 (0 : Int))), .nils]))]⟩) (ob := True ∧ True) (by kernel_rfl) ⟨trivial, trivial⟩ ?_
  refine thenQ_normal ?_
  refine AW.seq ?_
  refine AW.regionA [.no, .no, .no, .no, .obj 2 ([] : List Pose).length (gl cs_Pose ([] : List Pose)), .no, .box 3] [0, 1, 2, 6, 7] [1, 2, 3] (s' := ⟨[(0, (.v (.one (.c (pl 2 cs_Recording a0))))), (1, (.v (.one (.c (.int .i64 a1))))), (2, (.v (.one (.c (.int .i64 a2))))), (6, (.v (.one (.ptr 1 0)))), (7, (.v (.one (.ptr 3 0))))], [(1, (.box [(.c (.int .i64 (0 : Int))), .nils])), (2, (.lst ([] : List Pose).length 4 (gl cs_Pose ([] : List Pose)))), (3, (.box [(.c (.int .i64 a0.Bones)), (.lst 2 ([] : List Pose).length 4 (gl cs_Pose ([] : List Pose)))]))]⟩) (ob := True ∧ True ∧ True ∧ True ∧ (([] : List Pose).length = 0 ∧ True) ∧ True ∧ True ∧ True ∧ True) (by kernel_rfl) ⟨trivial, trivial, trivial, trivial, ⟨rfl, trivial⟩, trivial, trivial, trivial, trivial⟩ ?_
  refine thenQ_normal ?_
  refine AW.seq ?_
  refine AW.seq ?_
  refine AW.regionA [] [0, 1, 2, 6, 7, 8] [1, 2, 3] (s' := ⟨[(0, (.v (.one (.c (pl 2 cs_Recording a0))))), (1, (.v (.one (.c (.int .i64 a1))))), (2, (.v (.one (.c (.int .i64 a2))))), (6, (.v (.one (.ptr 1 0)))), (7, (.v (.one (.ptr 3 0)))), (8, (.v (.one (.c (.int .i64 a1)))))], [(1, (.box [(.c (.int .i64 (0 : Int))), .nils])), (2, (.lst ([] : List Pose).length 4 (gl cs_Pose ([] : List Pose)))), (3, (.box [(.c (.int .i64 a0.Bones)), (.lst 2 ([] : List Pose).length 4 (gl cs_Pose ([] : List Pose)))]))]⟩) (ob := True ∧ True ∧ True) (by kernel_rfl) ⟨trivial, trivial, trivial⟩ ?_
  refine thenQ_normal ?_
  refine AW.block ?_
  refine AW.loopQ (σ := Nat × Int × (List Pose)) (fun p => ⟨[(0, (.v (.one (.c (pl 2 cs_Recording a0))))), (1, (.v (.one (.c (.int .i64 a1))))), (2, (.v (.one (.c (.int .i64 a2))))), (6, (.v (.one (.ptr 1 0)))), (7, (.v (.one (.ptr 3 0)))), (8, (.v (.one (.c (.int .i64 p.2.1)))))], [(1, (.box [(.c (.int .i64 (0 : Int))), .nils])), (2, (.lst p.2.2.length 4 (gl cs_Pose p.2.2))), (3, (.box [(.c (.int .i64 a0.Bones)), (.lst 2 p.2.2.length 4 (gl cs_Pose p.2.2))]))]⟩) (fun p => spec_l10Some_l1 K a0 a1 a2 p.1 p.2.1 p.2.2 = some o) (fun p => p.1) (K, a1, ([] : List Pose)) h ?_
  clear h
  rintro ⟨k, x3, x4⟩ h
  replace h : spec_l10Some_l1 K a0 a1 a2 k x3 x4 = some o := h
  show AW _ _ (⟨[(0, (.v (.one (.c (pl 2 cs_Recording a0))))), (1, (.v (.one (.c (.int .i64 a1))))), (2, (.v (.one (.c (.int .i64 a2))))), (6, (.v (.one (.ptr 1 0)))), (7, (.v (.one (.ptr 3 0)))), (8, (.v (.one (.c (.int .i64 x3)))))], [(1, (.box [(.c (.int .i64 (0 : Int))), .nils])), (2, (.lst x4.length 4 (gl cs_Pose x4))), (3, (.box [(.c (.int .i64 a0.Bones)), (.lst 2 x4.length 4 (gl cs_Pose x4))]))]⟩ : St) _
  obtain _ | k := k
  · rw [spec_l10Some_l1] at h; cases h
  rw [spec_l10Some_l1] at h
  refine AW.seq ?_
  refine AW.seq ?_
  refine AW.regionA [] [0, 1, 2, 6, 7, 8, 20] [1, 2, 3] (s' := ⟨[(0, (.v (.one (.c (pl 2 cs_Recording a0))))), (1, (.v (.one (.c (.int .i64 a1))))), (2, (.v (.one (.c (.int .i64 a2))))), (6, (.v (.one (.ptr 1 0)))), (7, (.v (.one (.ptr 3 0)))), (8, (.v (.one (.c (.int .i64 x3))))), (20, (.v (.one (.c (.bool (decide (x3 < (IntKind.i64.wrap (a1 + a2)))))))))], [(1, (.box [(.c (.int .i64 (0 : Int))), .nils])), (2, (.lst x4.length 4 (gl cs_Pose x4))), (3, (.box [(.c (.int .i64 a0.Bones)), (.lst 2 x4.length 4 (gl cs_Pose x4))]))]⟩) (ob := True ∧ True ∧ True ∧ True ∧ True ∧ True) (by kernel_rfl) ⟨trivial, trivial, trivial, trivial, trivial, trivial⟩ ?_
  refine thenQ_normal ?_
  rcases ite2_cases h with ⟨b5, h⟩ | ⟨b5, h⟩
  · refine AW.cond_t rfl b5 ?_
    refine AW.skip ?_
    refine thenQ_normal ?_
    refine AW.seq ?_
    refine AW.block ?_
    obtain ⟨c6, h⟩ := chk_some h
    obtain ⟨v7, e8, h⟩ := bind_some h
    obtain ⟨c9, h⟩ := chk_some h
    refine AW.drawnA (by kernel_rfl) 12 [.no, .no, .no, .no, .no, .no, .no, .no, .call [.one (pl 4 cs_Pose (a0.Frames.getD x3.toNat default))] [.agg (cs_Pose v7)] [[.view, .view, .view, .lst 10]], .obj 11 ([v7]).length (gl cs_Pose ([v7])), .obj 12 (x4 ++ ([v7])).length (gl cs_Pose (x4 ++ ([v7])))] [0, 1, 2, 6, 7, 8] [1, 3, 12] (s' := ⟨[(0, (.v (.one (.c (pl 2 cs_Recording a0))))), (1, (.v (.one (.c (.int .i64 a1))))), (2, (.v (.one (.c (.int .i64 a2))))), (6, (.v (.one (.ptr 1 0)))), (7, (.v (.one (.ptr 3 0)))), (8, (.v (.one (.c (.int .i64 x3)))))], [(1, (.box [(.c (.int .i64 (0 : Int))), .nils])), (3, (.box [(.c (.int .i64 a0.Bones)), (.lst 12 (x4 ++ ([v7])).length 4 (gl cs_Pose (x4 ++ ([v7]))))])), (12, (.lst (x4 ++ ([v7])).length 4 (gl cs_Pose (x4 ++ ([v7])))))]⟩) (ob := (True ∧ True ∧ True ∧ True ∧ True ∧ True ∧ True ∧ (0 ≤ x3 ∧ x3 < (a0.Frames.length : Int)) ∧ (((4 = 4 ∧ ∀ j, j < 4 → (cs_Pose (a0.Frames.getD x3.toNat default)).getD j .nilptr = (cs_Pose (a0.Frames.getD x3.toNat default)).getD j .nilptr) ∧ True) ∧ CallOK Try.prog 87 [.one (pl 4 cs_Pose (a0.Frames.getD x3.toNat default))] [.agg (cs_Pose v7)]) ∧ (([v7]).length = 1 ∧ (((.flt .f32 v7.Root.X.bits) : C) = (.flt .f32 v7.Root.X.bits) ∧ True) ∧ (((.flt .f32 v7.Root.Y.bits) : C) = (.flt .f32 v7.Root.Y.bits) ∧ True) ∧ (((.flt .f32 v7.Root.Z.bits) : C) = (.flt .f32 v7.Root.Z.bits) ∧ True) ∧ (((sl 4 cs_Turn v7.Turns) : C) = (sl 4 cs_Turn v7.Turns)) ∧ True) ∧ ((x4 ++ ([v7])).length = x4.length + ([v7]).length ∧ AppOb (x4.length) (([v7]).length) 4 (gl cs_Pose x4) (gl cs_Pose ([v7])) (gl cs_Pose (x4 ++ ([v7]))) ∧ True ∧ (x4.length + ([v7]).length) * 40 ≤ 140737488355328) ∧ True ∧ True) ∧ (True ∧ True)) (by kernel_rfl) ⟨⟨trivial, trivial, trivial, trivial, trivial, trivial, trivial, c6, ⟨⟨⟨rfl, fun j hj => rfl⟩, trivial⟩, ok_spec_l10Copy K (a0.Frames.getD x3.toNat default) v7 e8⟩, ⟨rfl, ⟨⟨rfl, trivial⟩, ⟨rfl, trivial⟩, ⟨rfl, trivial⟩, rfl, trivial⟩⟩, ⟨List.length_append, gl_append, trivial, c9⟩, trivial, trivial⟩, ⟨trivial, trivial⟩⟩ ?_
    refine blockQ_normal ?_
    refine thenQ_normal ?_
    refine AW.regionA [] [0, 1, 2, 6, 7, 8] [1, 3, 12] (s' := ⟨[(0, (.v (.one (.c (pl 2 cs_Recording a0))))), (1, (.v (.one (.c (.int .i64 a1))))), (2, (.v (.one (.c (.int .i64 a2))))), (6, (.v (.one (.ptr 1 0)))), (7, (.v (.one (.ptr 3 0)))), (8, (.v (.one (.c (.int .i64 (IntKind.i64.wrap (x3 + (1 : Int))))))))], [(1, (.box [(.c (.int .i64 (0 : Int))), .nils])), (3, (.box [(.c (.int .i64 a0.Bones)), (.lst 12 (x4 ++ ([v7])).length 4 (gl cs_Pose (x4 ++ ([v7]))))])), (12, (.lst (x4 ++ ([v7])).length 4 (gl cs_Pose (x4 ++ ([v7])))))]⟩) (ob := True ∧ True ∧ True ∧ True) (by kernel_rfl) ⟨trivial, trivial, trivial, trivial⟩ ?_
    exact loopQ_normal (k, (IntKind.i64.wrap (x3 + (1 : Int))), (x4 ++ ([v7]))) h (Nat.lt_succ_self k) (Sub.trans (Sub.swap 2 12 _ (by kernel_rfl) (by kernel_rfl)) (Sub.keep [0, 1, 2, 6, 7, 8] [1, 2, 3] (by kernel_rfl) (by kernel_rfl)))
  · refine AW.cond_f rfl b5 ?_
    refine AW.exit ?_
    refine thenQ_exit ?_
    refine loopQ_exit ?_
    refine blockQ_exit ?_
    refine thenQ_normal ?_
    refine AW.seq ?_
    refine AW.regionA [] [6] [1, 2] (s' := ⟨[(6, (.v (.one (.ptr 1 0))))], [(1, (.box [(.c (.int .i64 a0.Bones)), (.lst 2 x4.length 4 (gl cs_Pose x4))])), (2, (.lst x4.length 4 (gl cs_Pose x4)))]⟩) (ob := True ∧ True ∧ True) (by kernel_rfl) ⟨trivial, trivial, trivial⟩ ?_
    refine thenQ_normal ?_
    refine AW.ret ?_
    replace h := some_eq h
    subst h
    exact ⟨.inr rfl, retOK_of [(.agg [(.c (.int .i64 a0.Bones)), (.lst 2 x4.length 4 (gl cs_Pose x4))])] (by kernel_rfl) ⟨⟨⟨rfl, trivial⟩, rfl, trivial⟩, trivial⟩ (of_decide_eq_true (by kernel_rfl))⟩

/-! spec.SliceFrames -/
def spec_SliceFrames (K : Nat) (a0 : Recording) (a1 : Int) (a2 : Int) : Option (Recording × Bool) :=
  (spec_l10Is K a0).bind fun v1 => (ite2 ((!v1)) (some true) ((spec_l00In K a1 (0 : Int) (a0.Frames.length : Int)).bind fun v4 => ite2 ((!v4)) (some true) ((spec_l00In K a2 (0 : Int) (IntKind.i64.wrap ((a0.Frames.length : Int) - a1))).bind fun v7 => some (!v7)))).bind fun j9 => ite2 (j9) (some ((Recording.mk (0 : Int) ([] : (List Pose))), false)) ((spec_l10Some K a0 a1 a2).bind fun v12 => some (v12, true))

theorem ok_spec_SliceFrames (K : Nat) (a0 : Recording) (a1 : Int) (a2 : Int) (o : (Recording × Bool)) (h : spec_SliceFrames K a0 a1 a2 = some o) : CallOK Try.prog 22 [.agg (cs_Recording a0), .one (.int .i64 a1), .one (.int .i64 a2)] [.agg (cs_Recording o.1), .one (.bool o.2)] := by
  refine callOK_of_AW Try.func22 rfl (by kernel_rfl) (Nat.le_of_ble_eq_true (by kernel_rfl)) ?_
  intro w0
  unfold spec_SliceFrames at h
  refine AW.seq ?_
  refine AW.regionA [.box 1, .box 2] [1, 2, 3, 6] [1, 2] (s' := ⟨[(1, (.v (.one (.c (.int .i64 a1))))), (2, (.v (.one (.c (.int .i64 a2))))), (3, (.v (.one (.ptr 1 0)))), (6, (.v (.one (.ptr 2 0))))], [(1, (.box [(.c (.int .i64 a0.Bones)), (.c (sl 4 cs_Pose a0.Frames))])), (2, (.box [(.c (.int .i64 (0 : Int))), .nils]))]⟩) (ob := True ∧ True ∧ True ∧ True) (by kernel_rfl) ⟨trivial, trivial, trivial, trivial⟩ ?_
  refine thenQ_normal ?_
  refine AW.seq ?_
  refine AW.seq ?_
  obtain ⟨v1, e2, h⟩ := bind_some h
  obtain ⟨j9, e10, h⟩ := bind_some h
  refine AW.join1 (s2 := ⟨[(1, (.v (.one (.c (.int .i64 a1))))), (2, (.v (.one (.c (.int .i64 a2))))), (3, (.v (.one (.ptr 1 0)))), (6, (.v (.one (.ptr 2 0)))), (27, (.v (.one (.c (.bool j9)))))], [(1, (.box [(.c (.int .i64 a0.Bones)), (.c (sl 4 cs_Pose a0.Frames))])), (2, (.box [(.c (.int .i64 (0 : Int))), .nils]))]⟩) ?_ ?_
  · rcases ite2_cases e10 with ⟨b3, e10⟩ | ⟨b3, e10⟩
    · replace e10 := some_eq e10
      subst e10
      exact AW.regionA [.call [.one (pl 2 cs_Recording a0)] [.one (.bool v1)] [[.view]], .no, .dec true] [1, 2, 3, 6, 27] [1, 2] (s' := ⟨[(1, (.v (.one (.c (.int .i64 a1))))), (2, (.v (.one (.c (.int .i64 a2))))), (3, (.v (.one (.ptr 1 0)))), (6, (.v (.one (.ptr 2 0)))), (27, (.v (.one (.c (.bool true)))))], [(1, (.box [(.c (.int .i64 a0.Bones)), (.c (sl 4 cs_Pose a0.Frames))])), (2, (.box [(.c (.int .i64 (0 : Int))), .nils]))]⟩) (ob := (((0 = 0 ∧ (((.int .i64 a0.Bones) : C) = (.int .i64 a0.Bones)) ∧ (((sl 4 cs_Pose a0.Frames) : C) = (sl 4 cs_Pose a0.Frames)) ∧ True) ∧ True) ∧ CallOK Try.prog 73 [.one (pl 2 cs_Recording a0)] [.one (.bool v1)]) ∧ True ∧ (True ∧ (!v1) = true) ∧ True ∧ True ∧ True ∧ True ∧ True ∧ True ∧ True ∧ True ∧ True ∧ True ∧ True ∧ True ∧ True ∧ True ∧ True ∧ True ∧ True ∧ True) (by kernel_rfl) ⟨⟨⟨⟨rfl, rfl, rfl, trivial⟩, trivial⟩, ok_spec_l10Is K a0 v1 e2⟩, trivial, ⟨trivial, b3⟩, trivial, trivial, trivial, trivial, trivial, trivial, trivial, trivial, trivial, trivial, trivial, trivial, trivial, trivial, trivial, trivial, trivial, trivial⟩ ⟨rfl, rfl⟩
    · obtain ⟨v4, e5, e10⟩ := bind_some e10
      rcases ite2_cases e10 with ⟨b6, e10⟩ | ⟨b6, e10⟩
      · replace e10 := some_eq e10
        subst e10
        exact AW.regionA [.call [.one (pl 2 cs_Recording a0)] [.one (.bool v1)] [[.view]], .no, .dec false, .no, .no, .no, .no, .call [.one (.int .i64 a1), .one (.int .i64 (0 : Int)), .one (.int .i64 (a0.Frames.length : Int))] [.one (.bool v4)] [[.view]], .no, .no, .dec true] [1, 2, 3, 6, 27] [1, 2] (s' := ⟨[(1, (.v (.one (.c (.int .i64 a1))))), (2, (.v (.one (.c (.int .i64 a2))))), (3, (.v (.one (.ptr 1 0)))), (6, (.v (.one (.ptr 2 0)))), (27, (.v (.one (.c (.bool true)))))], [(1, (.box [(.c (.int .i64 a0.Bones)), (.c (sl 4 cs_Pose a0.Frames))])), (2, (.box [(.c (.int .i64 (0 : Int))), .nils]))]⟩) (ob := (((0 = 0 ∧ (((.int .i64 a0.Bones) : C) = (.int .i64 a0.Bones)) ∧ (((sl 4 cs_Pose a0.Frames) : C) = (sl 4 cs_Pose a0.Frames)) ∧ True) ∧ True) ∧ CallOK Try.prog 73 [.one (pl 2 cs_Recording a0)] [.one (.bool v1)]) ∧ True ∧ (True ∧ (!v1) = false) ∧ True ∧ True ∧ True ∧ True ∧ (((((.int .i64 a1) : C) = (.int .i64 a1)) ∧ (((.int .i64 (0 : Int)) : C) = (.int .i64 (0 : Int))) ∧ (((.int .i64 (a0.Frames.length : Int)) : C) = (.int .i64 (a0.Frames.length : Int))) ∧ True) ∧ CallOK Try.prog 64 [.one (.int .i64 a1), .one (.int .i64 (0 : Int)), .one (.int .i64 (a0.Frames.length : Int))] [.one (.bool v4)]) ∧ True ∧ True ∧ (True ∧ (!v4) = true) ∧ True ∧ True ∧ True ∧ True ∧ True ∧ True ∧ True ∧ True ∧ True ∧ True) (by kernel_rfl) ⟨⟨⟨⟨rfl, rfl, rfl, trivial⟩, trivial⟩, ok_spec_l10Is K a0 v1 e2⟩, trivial, ⟨trivial, b3⟩, trivial, trivial, trivial, trivial, ⟨⟨rfl, rfl, rfl, trivial⟩, ok_spec_l00In K a1 (0 : Int) (a0.Frames.length : Int) v4 e5⟩, trivial, trivial, ⟨trivial, b6⟩, trivial, trivial, trivial, trivial, trivial, trivial, trivial, trivial, trivial, trivial⟩ ⟨rfl, rfl⟩
      · obtain ⟨v7, e8, e10⟩ := bind_some e10
        replace e10 := some_eq e10
        subst e10
        exact AW.regionA [.call [.one (pl 2 cs_Recording a0)] [.one (.bool v1)] [[.view]], .no, .dec false, .no, .no, .no, .no, .call [.one (.int .i64 a1), .one (.int .i64 (0 : Int)), .one (.int .i64 (a0.Frames.length : Int))] [.one (.bool v4)] [[.view]], .no, .no, .dec false, .no, .no, .no, .no, .no, .no, .call [.one (.int .i64 a2), .one (.int .i64 (0 : Int)), .one (.int .i64 (IntKind.i64.wrap ((a0.Frames.length : Int) - a1)))] [.one (.bool v7)] [[.view]]] [1, 2, 3, 6, 27] [1, 2] (s' := ⟨[(1, (.v (.one (.c (.int .i64 a1))))), (2, (.v (.one (.c (.int .i64 a2))))), (3, (.v (.one (.ptr 1 0)))), (6, (.v (.one (.ptr 2 0)))), (27, (.v (.one (.c (.bool (!v7))))))], [(1, (.box [(.c (.int .i64 a0.Bones)), (.c (sl 4 cs_Pose a0.Frames))])), (2, (.box [(.c (.int .i64 (0 : Int))), .nils]))]⟩) (ob := (((0 = 0 ∧ (((.int .i64 a0.Bones) : C) = (.int .i64 a0.Bones)) ∧ (((sl 4 cs_Pose a0.Frames) : C) = (sl 4 cs_Pose a0.Frames)) ∧ True) ∧ True) ∧ CallOK Try.prog 73 [.one (pl 2 cs_Recording a0)] [.one (.bool v1)]) ∧ True ∧ (True ∧ (!v1) = false) ∧ True ∧ True ∧ True ∧ True ∧ (((((.int .i64 a1) : C) = (.int .i64 a1)) ∧ (((.int .i64 (0 : Int)) : C) = (.int .i64 (0 : Int))) ∧ (((.int .i64 (a0.Frames.length : Int)) : C) = (.int .i64 (a0.Frames.length : Int))) ∧ True) ∧ CallOK Try.prog 64 [.one (.int .i64 a1), .one (.int .i64 (0 : Int)), .one (.int .i64 (a0.Frames.length : Int))] [.one (.bool v4)]) ∧ True ∧ True ∧ (True ∧ (!v4) = false) ∧ True ∧ True ∧ True ∧ True ∧ True ∧ True ∧ (((((.int .i64 a2) : C) = (.int .i64 a2)) ∧ (((.int .i64 (0 : Int)) : C) = (.int .i64 (0 : Int))) ∧ (((.int .i64 (IntKind.i64.wrap ((a0.Frames.length : Int) - a1))) : C) = (.int .i64 (IntKind.i64.wrap ((a0.Frames.length : Int) - a1)))) ∧ True) ∧ CallOK Try.prog 64 [.one (.int .i64 a2), .one (.int .i64 (0 : Int)), .one (.int .i64 (IntKind.i64.wrap ((a0.Frames.length : Int) - a1)))] [.one (.bool v7)]) ∧ True ∧ True ∧ True) (by kernel_rfl) ⟨⟨⟨⟨rfl, rfl, rfl, trivial⟩, trivial⟩, ok_spec_l10Is K a0 v1 e2⟩, trivial, ⟨trivial, b3⟩, trivial, trivial, trivial, trivial, ⟨⟨rfl, rfl, rfl, trivial⟩, ok_spec_l00In K a1 (0 : Int) (a0.Frames.length : Int) v4 e5⟩, trivial, trivial, ⟨trivial, b6⟩, trivial, trivial, trivial, trivial, trivial, trivial, ⟨⟨rfl, rfl, rfl, trivial⟩, ok_spec_l00In K a2 (0 : Int) (IntKind.i64.wrap ((a0.Frames.length : Int) - a1)) v7 e8⟩, trivial, trivial, trivial⟩ ⟨rfl, rfl⟩
  refine thenQ_normal ?_
  rcases ite2_cases h with ⟨b11, h⟩ | ⟨b11, h⟩
  · refine AW.cond_t rfl b11 ?_
    refine AW.seq ?_
    refine AW.regionA [] [6, 7] [2] (s' := ⟨[(6, (.v (.one (.ptr 2 0)))), (7, (.v (.one (.c (.bool false)))))], [(2, (.box [(.c (.int .i64 (0 : Int))), .nils]))]⟩) (ob := True ∧ True ∧ True ∧ True) (by kernel_rfl) ⟨trivial, trivial, trivial, trivial⟩ ?_
    refine thenQ_normal ?_
    refine AW.ret ?_
    refine thenQ_ret ?_
    replace h := some_eq h
    subst h
    exact ⟨.inr rfl, retOK_of [(.agg [(.c (.int .i64 (0 : Int))), .nils]), (.one (.c (.bool false)))] (by kernel_rfl) ⟨⟨⟨rfl, trivial⟩, rfl, trivial⟩, ⟨rfl, trivial⟩, trivial⟩ (of_decide_eq_true (by kernel_rfl))⟩
  · refine AW.cond_f rfl b11 ?_
    refine AW.skip ?_
    refine thenQ_normal ?_
    refine AW.seq ?_
    obtain ⟨v12, e13, h⟩ := bind_some h
    refine AW.regionA [.no, .no, .call [.one (pl 2 cs_Recording a0), .one (.int .i64 a1), .one (.int .i64 a2)] [.agg (cs_Recording v12)] [[.view, .lst 3]]] [6, 7] [2, 3] (s' := ⟨[(6, (.v (.one (.ptr 2 0)))), (7, (.v (.one (.c (.bool true)))))], [(2, (.box [(.c (.int .i64 v12.Bones)), (.lst 3 v12.Frames.length 4 (gl cs_Pose v12.Frames))])), (3, (.lst v12.Frames.length 4 (gl cs_Pose v12.Frames)))]⟩) (ob := True ∧ True ∧ (((0 = 0 ∧ (((.int .i64 a0.Bones) : C) = (.int .i64 a0.Bones)) ∧ (((sl 4 cs_Pose a0.Frames) : C) = (sl 4 cs_Pose a0.Frames)) ∧ True) ∧ (((.int .i64 a1) : C) = (.int .i64 a1)) ∧ (((.int .i64 a2) : C) = (.int .i64 a2)) ∧ True) ∧ CallOK Try.prog 74 [.one (pl 2 cs_Recording a0), .one (.int .i64 a1), .one (.int .i64 a2)] [.agg (cs_Recording v12)]) ∧ True ∧ True ∧ True) (by kernel_rfl) ⟨trivial, trivial, ⟨⟨⟨rfl, rfl, rfl, trivial⟩, rfl, rfl, trivial⟩, ok_spec_l10Some K a0 a1 a2 v12 e13⟩, trivial, trivial, trivial⟩ ?_
    refine thenQ_normal ?_
    refine AW.ret ?_
    replace h := some_eq h
    subst h
    exact ⟨.inr rfl, retOK_of [(.agg [(.c (.int .i64 v12.Bones)), (.lst 3 v12.Frames.length 4 (gl cs_Pose v12.Frames))]), (.one (.c (.bool true)))] (by kernel_rfl) ⟨⟨⟨rfl, trivial⟩, rfl, trivial⟩, ⟨rfl, trivial⟩, trivial⟩ (of_decide_eq_true (by kernel_rfl))⟩

/-! impl.isCount -/
def impl_isCount (_K : Nat) (a0 : Int) : Option (Bool) :=
  (ite2 ((decide (a0 ≥ (1 : Int)))) (some (decide (a0 ≤ (12 : Int)))) (some false)).bind fun j2 => some j2

theorem ok_impl_isCount (K : Nat) (a0 : Int) (o : (Bool)) (h : impl_isCount K a0 = some o) : CallOK Try.prog 94 [.one (.int .i64 a0)] [.one (.bool o)] := by
  refine callOK_of_AW Try.func94 rfl (by kernel_rfl) (Nat.le_of_ble_eq_true (by kernel_rfl)) ?_
  intro w0
  unfold impl_isCount at h
  refine AW.seq ?_
  refine AW.regionA [] [0] [] (s' := ⟨[(0, (.v (.one (.c (.int .i64 a0)))))], []⟩) (ob := True ∧ True) (by kernel_rfl) ⟨trivial, trivial⟩ ?_
  refine thenQ_normal ?_
  refine AW.seq ?_
  obtain ⟨j2, e3, h⟩ := bind_some h
  refine AW.join1 (s2 := ⟨[(2, (.v (.one (.c (.bool j2)))))], []⟩) ?_ ?_
  · rcases ite2_cases e3 with ⟨b1, e3⟩ | ⟨b1, e3⟩
    · replace e3 := some_eq e3
      subst e3
      exact AW.regionA [.no, .no, .dec true] [2] [] (s' := ⟨[(2, (.v (.one (.c (.bool (decide (a0 ≤ (12 : Int))))))))], []⟩) (ob := True ∧ True ∧ (True ∧ (decide (a0 ≥ (1 : Int))) = true) ∧ True ∧ True ∧ True ∧ True ∧ True) (by kernel_rfl) ⟨trivial, trivial, ⟨trivial, b1⟩, trivial, trivial, trivial, trivial, trivial⟩ ⟨rfl, rfl⟩
    · replace e3 := some_eq e3
      subst e3
      exact AW.regionA [.no, .no, .dec false] [2] [] (s' := ⟨[(2, (.v (.one (.c (.bool false)))))], []⟩) (ob := True ∧ True ∧ (True ∧ (decide (a0 ≥ (1 : Int))) = false) ∧ True ∧ True ∧ True ∧ True ∧ True) (by kernel_rfl) ⟨trivial, trivial, ⟨trivial, b1⟩, trivial, trivial, trivial, trivial, trivial⟩ ⟨rfl, rfl⟩
  refine thenQ_normal ?_
  refine AW.ret ?_
  replace h := some_eq h
  subst h
  exact ⟨.inr rfl, retOK_of [(.one (.c (.bool j2)))] (by kernel_rfl) ⟨⟨rfl, trivial⟩, trivial⟩ (of_decide_eq_true (by kernel_rfl))⟩

/-! impl.ValidRecording$1 -/
def impl_ValidRecording_1 (_K : Nat) (a0 : Pose) (a1 : Recording) : Option (Bool) :=
  some ((a0.Turns.length : Int) != a1.Bones)

theorem ok_impl_ValidRecording_1 (K : Nat) (a0 : Pose) (a1 : Recording) (o : (Bool)) (h : impl_ValidRecording_1 K a0 a1 = some o) : CallOK Try.prog 103 [.agg (cs_Pose a0), .one (pl 2 cs_Recording a1)] [.one (.bool o)] := by
  refine callOK_of_AW Try.func103 rfl (by kernel_rfl) (Nat.le_of_ble_eq_true (by kernel_rfl)) ?_
  intro w0
  unfold impl_ValidRecording_1 at h
  refine AW.seq ?_
  refine AW.regionA [.box 1] [1, 2] [1] (s' := ⟨[(1, (.v (.one (.c (pl 2 cs_Recording a1))))), (2, (.v (.one (.ptr 1 0))))], [(1, (.box [(.c (.flt .f32 a0.Root.X.bits)), (.c (.flt .f32 a0.Root.Y.bits)), (.c (.flt .f32 a0.Root.Z.bits)), (.c (sl 4 cs_Turn a0.Turns))]))]⟩) (ob := True ∧ True ∧ True) (by kernel_rfl) ⟨trivial, trivial, trivial⟩ ?_
  refine thenQ_normal ?_
  refine AW.seq ?_
  refine AW.regionA [] [3] [] (s' := ⟨[(3, (.v (.one (.c (.bool ((a0.Turns.length : Int) != a1.Bones))))))], []⟩) (ob := True ∧ True ∧ True ∧ True ∧ True ∧ True ∧ True ∧ True) (by kernel_rfl) ⟨trivial, trivial, trivial, trivial, trivial, trivial, trivial, trivial⟩ ?_
  refine thenQ_normal ?_
  refine AW.ret ?_
  replace h := some_eq h
  subst h
  exact ⟨.inr rfl, retOK_of [(.one (.c (.bool ((a0.Turns.length : Int) != a1.Bones))))] (by kernel_rfl) ⟨⟨rfl, trivial⟩, trivial⟩ (of_decide_eq_true (by kernel_rfl))⟩

/-! slices.IndexFunc[[]impl.Pose,impl.Pose] -/
def slices_IndexFunc_impl_Pose_impl_Pose_l1 (K : Nat) (a0 : (List Pose)) (a1_0_0 : Recording) : Nat → Int → Option (Int)
  | 0, _ => none
  | k + 1, x2 => ite2 ((decide (x2 < (a0.length : Int)))) (chk (0 ≤ x2 ∧ x2 < (a0.length : Int)) ((impl_ValidRecording_1 K (a0.getD x2.toNat default) a1_0_0).bind fun v5 => ite2 (v5) (some x2) (slices_IndexFunc_impl_Pose_impl_Pose_l1 K a0 a1_0_0 k (IntKind.i64.wrap (x2 + (1 : Int)))))) (some ((-1) : Int))

def slices_IndexFunc_impl_Pose_impl_Pose (K : Nat) (a0 : (List Pose)) (a1_0_0 : Recording) : Option (Int) :=
  slices_IndexFunc_impl_Pose_impl_Pose_l1 K a0 a1_0_0 K (0 : Int)

theorem ok_slices_IndexFunc_impl_Pose_impl_Pose (K : Nat) (a0 : (List Pose)) (a1_0_0 : Recording) (o : (Int)) (h : slices_IndexFunc_impl_Pose_impl_Pose K a0 a1_0_0 = some o) : CallOK Try.prog 144 [.one (sl 4 cs_Pose a0), .one (.fn 103 1 fun j => [(pl 2 cs_Recording a1_0_0)].getD j .nilptr)] [.one (.int .i64 o)] := by
  refine callOK_of_AW Try.func144 rfl (by kernel_rfl) (Nat.le_of_ble_eq_true (by kernel_rfl)) ?_
  intro w0
  unfold slices_IndexFunc_impl_Pose_impl_Pose at h
  refine AW.seq ?_
  refine AW.regionA [] [0, 1] [] (s' := ⟨[(0, (.v (.one (.c (sl 4 cs_Pose a0))))), (1, (.v (.one (.c (.fn 103 1 fun j => [(pl 2 cs_Recording a1_0_0)].getD j .nilptr)))))], []⟩) (ob := True ∧ True) (by kernel_rfl) ⟨trivial, trivial⟩ ?_
  refine thenQ_normal ?_
  refine AW.seq ?_
  refine AW.seq ?_
  refine AW.regionA [] [0, 1, 7, 8] [] (s' := ⟨[(0, (.v (.one (.c (sl 4 cs_Pose a0))))), (1, (.v (.one (.c (.fn 103 1 fun j => [(pl 2 cs_Recording a1_0_0)].getD j .nilptr))))), (7, (.v (.one (.c (.int .i64 (a0.length : Int)))))), (8, (.v (.one (.c (.int .i64 (0 : Int))))))], []⟩) (ob := True ∧ True ∧ True ∧ True) (by kernel_rfl) ⟨trivial, trivial, trivial, trivial⟩ ?_
  refine thenQ_normal ?_
  refine AW.block ?_
  refine AW.loopQ (σ := Nat × Int) (fun p => ⟨[(0, (.v (.one (.c (sl 4 cs_Pose a0))))), (1, (.v (.one (.c (.fn 103 1 fun j => [(pl 2 cs_Recording a1_0_0)].getD j .nilptr))))), (7, (.v (.one (.c (.int .i64 (a0.length : Int)))))), (8, (.v (.one (.c (.int .i64 p.2)))))], []⟩) (fun p => slices_IndexFunc_impl_Pose_impl_Pose_l1 K a0 a1_0_0 p.1 p.2 = some o) (fun p => p.1) (K, (0 : Int)) h ?_
  clear h
  rintro ⟨k, x2⟩ h
  replace h : slices_IndexFunc_impl_Pose_impl_Pose_l1 K a0 a1_0_0 k x2 = some o := h
  show AW _ _ (⟨[(0, (.v (.one (.c (sl 4 cs_Pose a0))))), (1, (.v (.one (.c (.fn 103 1 fun j => [(pl 2 cs_Recording a1_0_0)].getD j .nilptr))))), (7, (.v (.one (.c (.int .i64 (a0.length : Int)))))), (8, (.v (.one (.c (.int .i64 x2)))))], []⟩ : St) _
  obtain _ | k := k
  · rw [slices_IndexFunc_impl_Pose_impl_Pose_l1] at h; cases h
  rw [slices_IndexFunc_impl_Pose_impl_Pose_l1] at h
  refine AW.seq ?_
  refine AW.regionA [] [0, 1, 7, 8, 9] [] (s' := ⟨[(0, (.v (.one (.c (sl 4 cs_Pose a0))))), (1, (.v (.one (.c (.fn 103 1 fun j => [(pl 2 cs_Recording a1_0_0)].getD j .nilptr))))), (7, (.v (.one (.c (.int .i64 (a0.length : Int)))))), (8, (.v (.one (.c (.int .i64 x2))))), (9, (.v (.one (.c (.bool (decide (x2 < (a0.length : Int))))))))], []⟩) (ob := True ∧ True) (by kernel_rfl) ⟨trivial, trivial⟩ ?_
  refine thenQ_normal ?_
  refine AW.seq ?_
  rcases ite2_cases h with ⟨b3, h⟩ | ⟨b3, h⟩
  · refine AW.cond_t rfl b3 ?_
    refine AW.skip ?_
    refine thenQ_normal ?_
    refine AW.seq ?_
    refine AW.block ?_
    refine AW.seq ?_
    refine AW.regionA [] [0, 1, 5, 7, 8] [] (s' := ⟨[(0, (.v (.one (.c (sl 4 cs_Pose a0))))), (1, (.v (.one (.c (.fn 103 1 fun j => [(pl 2 cs_Recording a1_0_0)].getD j .nilptr))))), (5, (.v (.one (.c (.int .i64 x2))))), (7, (.v (.one (.c (.int .i64 (a0.length : Int)))))), (8, (.v (.one (.c (.int .i64 x2)))))], []⟩) (ob := True ∧ True ∧ True) (by kernel_rfl) ⟨trivial, trivial, trivial⟩ ?_
    refine thenQ_normal ?_
    refine AW.seq ?_
    obtain ⟨c4, h⟩ := chk_some h
    obtain ⟨v5, e6, h⟩ := bind_some h
    refine AW.regionA [.no, .no, .no, .no, .no, .call [.agg (cs_Pose (a0.getD x2.toNat default)), .one (pl 2 cs_Recording a1_0_0)] [.one (.bool v5)] [[.view]]] [0, 1, 5, 7, 8, 16] [] (s' := ⟨[(0, (.v (.one (.c (sl 4 cs_Pose a0))))), (1, (.v (.one (.c (.fn 103 1 fun j => [(pl 2 cs_Recording a1_0_0)].getD j .nilptr))))), (5, (.v (.one (.c (.int .i64 x2))))), (7, (.v (.one (.c (.int .i64 (a0.length : Int)))))), (8, (.v (.one (.c (.int .i64 x2))))), (16, (.v (.one (.c (.bool v5)))))], []⟩) (ob := True ∧ True ∧ True ∧ (0 ≤ x2 ∧ x2 < (a0.length : Int)) ∧ True ∧ ((((((.flt .f32 (((a0.getD x2.toNat default).Root).X).bits) : C) = (.flt .f32 (((a0.getD x2.toNat default).Root).X).bits)) ∧ (((.flt .f32 (((a0.getD x2.toNat default).Root).Y).bits) : C) = (.flt .f32 (((a0.getD x2.toNat default).Root).Y).bits)) ∧ (((.flt .f32 (((a0.getD x2.toNat default).Root).Z).bits) : C) = (.flt .f32 (((a0.getD x2.toNat default).Root).Z).bits)) ∧ (((sl 4 cs_Turn ((a0.getD x2.toNat default).Turns)) : C) = (sl 4 cs_Turn ((a0.getD x2.toNat default).Turns))) ∧ True) ∧ (2 = 2 ∧ ∀ j, j < 2 → (cs_Recording a1_0_0).getD j .nilptr = (cs_Recording a1_0_0).getD j .nilptr) ∧ True) ∧ CallOK Try.prog 103 [.agg (cs_Pose (a0.getD x2.toNat default)), .one (pl 2 cs_Recording a1_0_0)] [.one (.bool v5)]) ∧ True) (by kernel_rfl) ⟨trivial, trivial, trivial, c4, trivial, ⟨⟨⟨rfl, rfl, rfl, rfl, trivial⟩, ⟨rfl, fun j hj => rfl⟩, trivial⟩, ok_impl_ValidRecording_1 K (a0.getD x2.toNat default) a1_0_0 v5 e6⟩, trivial⟩ ?_
    refine thenQ_normal ?_
    rcases ite2_cases h with ⟨b7, h⟩ | ⟨b7, h⟩
    · refine AW.cond_t rfl b7 ?_
      refine AW.seq ?_
      refine AW.regionA [] [4] [] (s' := ⟨[(4, (.v (.one (.c (.int .i64 x2)))))], []⟩) (ob := True ∧ True ∧ True) (by kernel_rfl) ⟨trivial, trivial, trivial⟩ ?_
      refine thenQ_normal ?_
      refine AW.ret ?_
      refine blockQ_ret ?_
      refine thenQ_ret ?_
      refine loopQ_ret ?_
      refine blockQ_ret ?_
      refine thenQ_ret ?_
      replace h := some_eq h
      subst h
      exact ⟨.inr rfl, retOK_of [(.one (.c (.int .i64 x2)))] (by kernel_rfl) ⟨⟨rfl, trivial⟩, trivial⟩ (of_decide_eq_true (by kernel_rfl))⟩
    · refine AW.cond_f rfl b7 ?_
      refine AW.skip ?_
      refine blockQ_normal ?_
      refine thenQ_normal ?_
      refine AW.regionA [] [0, 1, 7, 8] [] (s' := ⟨[(0, (.v (.one (.c (sl 4 cs_Pose a0))))), (1, (.v (.one (.c (.fn 103 1 fun j => [(pl 2 cs_Recording a1_0_0)].getD j .nilptr))))), (7, (.v (.one (.c (.int .i64 (a0.length : Int)))))), (8, (.v (.one (.c (.int .i64 (IntKind.i64.wrap (x2 + (1 : Int))))))))], []⟩) (ob := True ∧ True ∧ True) (by kernel_rfl) ⟨trivial, trivial, trivial⟩ ?_
      exact loopQ_normal (k, (IntKind.i64.wrap (x2 + (1 : Int)))) h (Nat.lt_succ_self k) (Sub.keep [0, 1, 7, 8] [] (by kernel_rfl) (by kernel_rfl))
  · refine AW.cond_f rfl b3 ?_
    refine AW.exit ?_
    refine thenQ_exit ?_
    refine loopQ_exit ?_
    refine blockQ_exit ?_
    refine thenQ_normal ?_
    refine AW.seq ?_
    refine AW.regionA [] [4] [] (s' := ⟨[(4, (.v (.one (.c (.int .i64 ((-1) : Int))))))], []⟩) (ob := True ∧ True) (by kernel_rfl) ⟨trivial, trivial⟩ ?_
    refine thenQ_normal ?_
    refine AW.ret ?_
    replace h := some_eq h
    subst h
    exact ⟨.inr rfl, retOK_of [(.one (.c (.int .i64 ((-1) : Int))))] (by kernel_rfl) ⟨⟨rfl, trivial⟩, trivial⟩ (of_decide_eq_true (by kernel_rfl))⟩

/-! slices.ContainsFunc[[]impl.Pose,impl.Pose] -/
def slices_ContainsFunc_impl_Pose_impl_Pose (K : Nat) (a0 : (List Pose)) (a1_0_0 : Recording) : Option (Bool) :=
  (slices_IndexFunc_impl_Pose_impl_Pose K a0 a1_0_0).bind fun v1 => some (decide (v1 ≥ (0 : Int)))

theorem ok_slices_ContainsFunc_impl_Pose_impl_Pose (K : Nat) (a0 : (List Pose)) (a1_0_0 : Recording) (o : (Bool)) (h : slices_ContainsFunc_impl_Pose_impl_Pose K a0 a1_0_0 = some o) : CallOK Try.prog 102 [.one (sl 4 cs_Pose a0), .one (.fn 103 1 fun j => [(pl 2 cs_Recording a1_0_0)].getD j .nilptr)] [.one (.bool o)] := by
  refine callOK_of_AW Try.func102 rfl (by kernel_rfl) (Nat.le_of_ble_eq_true (by kernel_rfl)) ?_
  intro w0
  unfold slices_ContainsFunc_impl_Pose_impl_Pose at h
  refine AW.seq ?_
  refine AW.regionA [] [0, 1] [] (s' := ⟨[(0, (.v (.one (.c (sl 4 cs_Pose a0))))), (1, (.v (.one (.c (.fn 103 1 fun j => [(pl 2 cs_Recording a1_0_0)].getD j .nilptr)))))], []⟩) (ob := True ∧ True) (by kernel_rfl) ⟨trivial, trivial⟩ ?_
  refine thenQ_normal ?_
  refine AW.seq ?_
  obtain ⟨v1, e2, h⟩ := bind_some h
  refine AW.regionA [.no, .no, .call [.one (sl 4 cs_Pose a0), .one (.fn 103 1 fun j => [(pl 2 cs_Recording a1_0_0)].getD j .nilptr)] [.one (.int .i64 v1)] [[.view]]] [4] [] (s' := ⟨[(4, (.v (.one (.c (.bool (decide (v1 ≥ (0 : Int))))))))], []⟩) (ob := True ∧ True ∧ (((((sl 4 cs_Pose a0) : C) = (sl 4 cs_Pose a0)) ∧ (((.fn 103 1 fun j => [(pl 2 cs_Recording a1_0_0)].getD j .nilptr) : C) = (.fn 103 1 fun j => [(pl 2 cs_Recording a1_0_0)].getD j .nilptr)) ∧ True) ∧ CallOK Try.prog 144 [.one (sl 4 cs_Pose a0), .one (.fn 103 1 fun j => [(pl 2 cs_Recording a1_0_0)].getD j .nilptr)] [.one (.int .i64 v1)]) ∧ True ∧ True ∧ True) (by kernel_rfl) ⟨trivial, trivial, ⟨⟨rfl, rfl, trivial⟩, ok_slices_IndexFunc_impl_Pose_impl_Pose K a0 a1_0_0 v1 e2⟩, trivial, trivial, trivial⟩ ?_
  refine thenQ_normal ?_
  refine AW.ret ?_
  replace h := some_eq h
  subst h
  exact ⟨.inr rfl, retOK_of [(.one (.c (.bool (decide (v1 ≥ (0 : Int))))))] (by kernel_rfl) ⟨⟨rfl, trivial⟩, trivial⟩ (of_decide_eq_true (by kernel_rfl))⟩

/-! impl.ValidRecording -/
def impl_ValidRecording (K : Nat) (a0 : Recording) : Option (Bool) :=
  (impl_isCount K a0.Bones).bind fun v1 => (ite2 (v1) (ite2 ((decide ((a0.Frames.length : Int) ≤ (64 : Int)))) ((slices_ContainsFunc_impl_Pose_impl_Pose K a0.Frames a0).bind fun v5 => some (!v5)) (some false)) (some false)).bind fun j7 => some j7

theorem ok_impl_ValidRecording (K : Nat) (a0 : Recording) (o : (Bool)) (h : impl_ValidRecording K a0 = some o) : CallOK Try.prog 53 [.agg (cs_Recording a0)] [.one (.bool o)] := by
  refine callOK_of_AW Try.func53 rfl (by kernel_rfl) (Nat.le_of_ble_eq_true (by kernel_rfl)) ?_
  intro w0
  unfold impl_ValidRecording at h
  refine AW.seq ?_
  refine AW.regionA [.box 1] [1] [1] (s' := ⟨[(1, (.v (.one (.ptr 1 0))))], [(1, (.box [(.c (.int .i64 a0.Bones)), (.c (sl 4 cs_Pose a0.Frames))]))]⟩) (ob := True ∧ True ∧ True) (by kernel_rfl) ⟨trivial, trivial, trivial⟩ ?_
  refine thenQ_normal ?_
  refine AW.seq ?_
  obtain ⟨v1, e2, h⟩ := bind_some h
  obtain ⟨j7, e8, h⟩ := bind_some h
  refine AW.join1 (s2 := ⟨[(2, (.v (.one (.c (.bool j7)))))], []⟩) ?_ ?_
  · rcases ite2_cases e8 with ⟨b3, e8⟩ | ⟨b3, e8⟩
    · rcases ite2_cases e8 with ⟨b4, e8⟩ | ⟨b4, e8⟩
      · obtain ⟨v5, e6, e8⟩ := bind_some e8
        replace e8 := some_eq e8
        subst e8
        exact AW.regionA [.no, .no, .call [.one (.int .i64 a0.Bones)] [.one (.bool v1)] [[.view]], .dec true, .no, .no, .no, .no, .no, .dec true, .no, .no, .no, .call [.one (sl 4 cs_Pose a0.Frames), .one (.fn 103 1 fun j => [(pl 2 cs_Recording a0)].getD j .nilptr)] [.one (.bool v5)] [[.view]]] [2] [] (s' := ⟨[(2, (.v (.one (.c (.bool (!v5))))))], []⟩) (ob := True ∧ True ∧ (((((.int .i64 a0.Bones) : C) = (.int .i64 a0.Bones)) ∧ True) ∧ CallOK Try.prog 94 [.one (.int .i64 a0.Bones)] [.one (.bool v1)]) ∧ (True ∧ v1 = true) ∧ True ∧ True ∧ True ∧ True ∧ True ∧ (True ∧ (decide ((a0.Frames.length : Int) ≤ (64 : Int))) = true) ∧ True ∧ True ∧ True ∧ (((((sl 4 cs_Pose a0.Frames) : C) = (sl 4 cs_Pose a0.Frames)) ∧ (103 = 103 ∧ 1 = 1 ∧ ((((.int .i64 a0.Bones) : C) = (.int .i64 a0.Bones)) ∧ (((sl 4 cs_Pose a0.Frames) : C) = (sl 4 cs_Pose a0.Frames)) ∧ True) ∧ True) ∧ True) ∧ CallOK Try.prog 102 [.one (sl 4 cs_Pose a0.Frames), .one (.fn 103 1 fun j => [(pl 2 cs_Recording a0)].getD j .nilptr)] [.one (.bool v5)]) ∧ True ∧ True ∧ True ∧ True) (by kernel_rfl) ⟨trivial, trivial, ⟨⟨rfl, trivial⟩, ok_impl_isCount K a0.Bones v1 e2⟩, ⟨trivial, b3⟩, trivial, trivial, trivial, trivial, trivial, ⟨trivial, b4⟩, trivial, trivial, trivial, ⟨⟨rfl, ⟨rfl, rfl, ⟨⟨rfl, rfl, trivial⟩, trivial⟩⟩, trivial⟩, ok_slices_ContainsFunc_impl_Pose_impl_Pose K a0.Frames a0 v5 e6⟩, trivial, trivial, trivial, trivial⟩ ⟨rfl, rfl⟩
      · replace e8 := some_eq e8
        subst e8
        exact AW.regionA [.no, .no, .call [.one (.int .i64 a0.Bones)] [.one (.bool v1)] [[.view]], .dec true, .no, .no, .no, .no, .no, .dec false] [2] [] (s' := ⟨[(2, (.v (.one (.c (.bool false)))))], []⟩) (ob := True ∧ True ∧ (((((.int .i64 a0.Bones) : C) = (.int .i64 a0.Bones)) ∧ True) ∧ CallOK Try.prog 94 [.one (.int .i64 a0.Bones)] [.one (.bool v1)]) ∧ (True ∧ v1 = true) ∧ True ∧ True ∧ True ∧ True ∧ True ∧ (True ∧ (decide ((a0.Frames.length : Int) ≤ (64 : Int))) = false) ∧ True ∧ True ∧ True ∧ True ∧ True ∧ True ∧ True ∧ True) (by kernel_rfl) ⟨trivial, trivial, ⟨⟨rfl, trivial⟩, ok_impl_isCount K a0.Bones v1 e2⟩, ⟨trivial, b3⟩, trivial, trivial, trivial, trivial, trivial, ⟨trivial, b4⟩, trivial, trivial, trivial, trivial, trivial, trivial, trivial, trivial⟩ ⟨rfl, rfl⟩
    · replace e8 := some_eq e8
      subst e8
      exact AW.regionA [.no, .no, .call [.one (.int .i64 a0.Bones)] [.one (.bool v1)] [[.view]], .dec false] [2] [] (s' := ⟨[(2, (.v (.one (.c (.bool false)))))], []⟩) (ob := True ∧ True ∧ (((((.int .i64 a0.Bones) : C) = (.int .i64 a0.Bones)) ∧ True) ∧ CallOK Try.prog 94 [.one (.int .i64 a0.Bones)] [.one (.bool v1)]) ∧ (True ∧ v1 = false) ∧ True ∧ True ∧ True ∧ True ∧ True ∧ True ∧ True ∧ True ∧ True ∧ True ∧ True ∧ True ∧ True ∧ True) (by kernel_rfl) ⟨trivial, trivial, ⟨⟨rfl, trivial⟩, ok_impl_isCount K a0.Bones v1 e2⟩, ⟨trivial, b3⟩, trivial, trivial, trivial, trivial, trivial, trivial, trivial, trivial, trivial, trivial, trivial, trivial, trivial, trivial⟩ ⟨rfl, rfl⟩
  refine thenQ_normal ?_
  refine AW.ret ?_
  replace h := some_eq h
  subst h
  exact ⟨.inr rfl, retOK_of [(.one (.c (.bool j7)))] (by kernel_rfl) ⟨⟨rfl, trivial⟩, trivial⟩ (of_decide_eq_true (by kernel_rfl))⟩

/-! slices.Clone[[]impl.Turn,impl.Turn] -/
def slices_Clone_impl_Turn_impl_Turn (_K : Nat) (a0 : (List Turn)) : Option ((List Turn)) :=
  chk ((([] : List Turn).length + a0.length) * 16 ≤ 140737488355328) (some (([] : List Turn) ++ a0))

theorem ok_slices_Clone_impl_Turn_impl_Turn (K : Nat) (a0 : (List Turn)) (o : ((List Turn))) (h : slices_Clone_impl_Turn_impl_Turn K a0 = some o) : CallOK Try.prog 123 [.one (sl 4 cs_Turn a0)] [.one (sl 4 cs_Turn o)] := by
  refine callOK_of_AW Try.func123 rfl (by kernel_rfl) (Nat.le_of_ble_eq_true (by kernel_rfl)) ?_
  intro w0
  unfold slices_Clone_impl_Turn_impl_Turn at h
  refine AW.seq ?_
  refine AW.regionA [] [0] [] (s' := ⟨[(0, (.v (.one (.c (sl 4 cs_Turn a0)))))], []⟩) (ob := True ∧ True) (by kernel_rfl) ⟨trivial, trivial⟩ ?_
  refine thenQ_normal ?_
  refine AW.seq ?_
  refine AW.seq ?_
  refine AW.nilA (d := 4) (n := a0.length) 1 [.no] [0] [] (s' := ⟨[(0, (.v (.one (.c (sl 4 cs_Turn a0)))))], []⟩) (ob := True ∧ True) (by kernel_rfl) ⟨trivial, trivial⟩ ?_
  intro b2 b1
  cases b2
  · refine thenQ_normal ?_
    refine AW.cond_f (b := false) rfl rfl ?_
    refine AW.skip ?_
    refine thenQ_normal ?_
    refine AW.seq ?_
    obtain ⟨c3, h⟩ := chk_some h
    refine AW.regionA [.obj 1 ([] : List Turn).length (gl cs_Turn ([] : List Turn)), .no, .obj 2 (([] : List Turn) ++ a0).length (gl cs_Turn (([] : List Turn) ++ a0))] [2] [2] (s' := ⟨[(2, (.v (.one (.lst 2 (([] : List Turn) ++ a0).length 4 (gl cs_Turn (([] : List Turn) ++ a0))))))], [(2, (.lst (([] : List Turn) ++ a0).length 4 (gl cs_Turn (([] : List Turn) ++ a0))))]⟩) (ob := (([] : List Turn).length = 0 ∧ True) ∧ True ∧ ((([] : List Turn) ++ a0).length = ([] : List Turn).length + a0.length ∧ AppOb (([] : List Turn).length) (a0.length) 4 (gl cs_Turn ([] : List Turn)) (gl cs_Turn a0) (gl cs_Turn (([] : List Turn) ++ a0)) ∧ (∀ i j, i < a0.length → j < 4 → scalarC (gl cs_Turn a0 i j)) ∧ (([] : List Turn).length + a0.length) * 16 ≤ 140737488355328) ∧ True ∧ True) (by kernel_rfl) ⟨⟨rfl, trivial⟩, trivial, ⟨List.length_append, gl_append, gl_scalar sc_Turn _, c3⟩, trivial, trivial⟩ ?_
    refine thenQ_normal ?_
    refine AW.ret ?_
    replace h := some_eq h
    subst h
    exact ⟨.inr rfl, retOK_of [(.one (.lst 2 (([] : List Turn) ++ a0).length 4 (gl cs_Turn (([] : List Turn) ++ a0))))] (by kernel_rfl) ⟨rfl, trivial⟩ (of_decide_eq_true (by kernel_rfl))⟩
  · obtain rfl := List.eq_nil_of_length_eq_zero (b1 rfl)
    replace h : some ([] : (List Turn)) = some o := by simpa [chk] using h
    refine thenQ_normal ?_
    refine AW.cond_t (b := true) rfl rfl ?_
    refine AW.seq ?_
    refine AW.regionA [] [2] [] (s' := ⟨[(2, (.v (.one .nils)))], []⟩) (ob := True ∧ True) (by kernel_rfl) ⟨trivial, trivial⟩ ?_
    refine thenQ_normal ?_
    refine AW.ret ?_
    refine thenQ_ret ?_
    replace h := some_eq h
    subst h
    exact ⟨.inr rfl, retOK_of [(.one .nils)] (by kernel_rfl) ⟨rfl, trivial⟩ (of_decide_eq_true (by kernel_rfl))⟩

/-! impl.frames -/
def impl_frames_l1 (K : Nat) (a0 : (List Pose)) : Nat → Int → (List Pose) → Option ((List Pose))
  | 0, _, _ => none
  | k + 1, x4, x5 => ite2 ((decide (x4 < (a0.length : Int)))) (chk (0 ≤ x4 ∧ x4 < (a0.length : Int)) ((slices_Clone_impl_Turn_impl_Turn K ((a0.getD x4.toNat default).Turns)).bind fun v8 => chk (0 ≤ x4 ∧ x4 < (x5.length : Int)) (impl_frames_l1 K a0 k (IntKind.i64.wrap (x4 + (1 : Int))) (x5.set x4.toNat (Pose.mk ((a0.getD x4.toNat default).Root) v8))))) (some x5)

def impl_frames (K : Nat) (a0 : (List Pose)) : Option ((List Pose)) :=
  chk (0 ≤ (a0.length : Int) ∧ (a0.length : Int).toNat * 40 ≤ 140737488355328) (impl_frames_l1 K a0 K (0 : Int) (List.replicate (a0.length : Int).toNat (default : Pose)))

theorem ok_impl_frames (K : Nat) (a0 : (List Pose)) (o : ((List Pose))) (h : impl_frames K a0 = some o) : CallOK Try.prog 76 [.one (sl 4 cs_Pose a0)] [.one (sl 4 cs_Pose o)] := by
  refine callOK_of_AW Try.func76 rfl (by kernel_rfl) (Nat.le_of_ble_eq_true (by kernel_rfl)) ?_
  intro w0
  unfold impl_frames at h
  refine AW.seq ?_
  refine AW.regionA [] [0] [] (s' := ⟨[(0, (.v (.one (.c (sl 4 cs_Pose a0)))))], []⟩) (ob := True ∧ True) (by kernel_rfl) ⟨trivial, trivial⟩ ?_
  refine thenQ_normal ?_
  refine AW.seq ?_
  obtain ⟨c1, h⟩ := chk_some h
  refine AW.regionA [.no, .no, .objA 1 (List.replicate (a0.length : Int).toNat (default : Pose)).length (gl cs_Pose (List.replicate (a0.length : Int).toNat (default : Pose)))] [0, 3] [1] (s' := ⟨[(0, (.v (.one (.c (sl 4 cs_Pose a0))))), (3, (.v (.one (.arr 1))))], [(1, (.arr false (List.replicate (a0.length : Int).toNat (default : Pose)).length 4 (gl cs_Pose (List.replicate (a0.length : Int).toNat (default : Pose)))))]⟩) (ob := True ∧ True ∧ (0 ≤ (a0.length : Int) ∧ (a0.length : Int) = (a0.length : Int) ∧ (((List.replicate (a0.length : Int).toNat (default : Pose)).length : Nat) : Int) = (a0.length : Int) ∧ (List.replicate (a0.length : Int).toNat (default : Pose)).length * 40 ≤ 140737488355328 ∧ ∀ i, i < (List.replicate (a0.length : Int).toNat (default : Pose)).length → zeroRow (fun _ => none) [(.c (.flt .f32 (default : F32).bits)), (.c (.flt .f32 (default : F32).bits)), (.c (.flt .f32 (default : F32).bits)), .nils] (gl cs_Pose (List.replicate (a0.length : Int).toNat (default : Pose)) i)) ∧ True ∧ True) (by kernel_rfl) ⟨trivial, trivial, ⟨c1.1, rfl, len_rep c1.1, rep_bytes c1.2, fun i hi => gl_zero (cs := cs_Pose) (zs := [(.c (.flt .f32 (default : F32).bits)), (.c (.flt .f32 (default : F32).bits)), (.c (.flt .f32 (default : F32).bits)), .nils]) (n := (a0.length : Int).toNat) ⟨⟨rfl, trivial⟩, ⟨rfl, trivial⟩, ⟨rfl, trivial⟩, rfl, trivial⟩ i (rep_lt hi)⟩, trivial, trivial⟩ ?_
  refine thenQ_normal ?_
  refine AW.seq ?_
  refine AW.seq ?_
  refine AW.regionA [] [3, 9, 10, 11] [1] (s' := ⟨[(3, (.v (.one (.arr 1)))), (9, (.v (.one (.c (sl 4 cs_Pose a0))))), (10, (.v (.one (.c (.int .i64 (a0.length : Int)))))), (11, (.v (.one (.c (.int .i64 (0 : Int))))))], [(1, (.arr false (List.replicate (a0.length : Int).toNat (default : Pose)).length 4 (gl cs_Pose (List.replicate (a0.length : Int).toNat (default : Pose)))))]⟩) (ob := True ∧ True ∧ True ∧ True) (by kernel_rfl) ⟨trivial, trivial, trivial, trivial⟩ ?_
  refine thenQ_normal ?_
  refine AW.block ?_
  refine AW.loopQ (σ := Nat × Int × (List Pose)) (fun p => ⟨[(3, (.v (.one (.arr 1)))), (9, (.v (.one (.c (sl 4 cs_Pose a0))))), (10, (.v (.one (.c (.int .i64 (a0.length : Int)))))), (11, (.v (.one (.c (.int .i64 p.2.1)))))], [(1, (.arr false p.2.2.length 4 (gl cs_Pose p.2.2)))]⟩) (fun p => impl_frames_l1 K a0 p.1 p.2.1 p.2.2 = some o) (fun p => p.1) (K, (0 : Int), (List.replicate (a0.length : Int).toNat (default : Pose))) h ?_
  clear h
  rintro ⟨k, x4, x5⟩ h
  replace h : impl_frames_l1 K a0 k x4 x5 = some o := h
  show AW _ _ (⟨[(3, (.v (.one (.arr 1)))), (9, (.v (.one (.c (sl 4 cs_Pose a0))))), (10, (.v (.one (.c (.int .i64 (a0.length : Int)))))), (11, (.v (.one (.c (.int .i64 x4)))))], [(1, (.arr false x5.length 4 (gl cs_Pose x5)))]⟩ : St) _
  obtain _ | k := k
  · rw [impl_frames_l1] at h; cases h
  rw [impl_frames_l1] at h
  refine AW.seq ?_
  refine AW.regionA [] [3, 9, 10, 11, 12] [1] (s' := ⟨[(3, (.v (.one (.arr 1)))), (9, (.v (.one (.c (sl 4 cs_Pose a0))))), (10, (.v (.one (.c (.int .i64 (a0.length : Int)))))), (11, (.v (.one (.c (.int .i64 x4))))), (12, (.v (.one (.c (.bool (decide (x4 < (a0.length : Int))))))))], [(1, (.arr false x5.length 4 (gl cs_Pose x5)))]⟩) (ob := True ∧ True) (by kernel_rfl) ⟨trivial, trivial⟩ ?_
  refine thenQ_normal ?_
  refine AW.seq ?_
  rcases ite2_cases h with ⟨b6, h⟩ | ⟨b6, h⟩
  · refine AW.cond_t rfl b6 ?_
    refine AW.skip ?_
    refine thenQ_normal ?_
    refine AW.seq ?_
    refine AW.block ?_
    refine AW.seq ?_
    obtain ⟨c7, h⟩ := chk_some h
    refine AW.regionA [.no, .no, .no, .box 6] [3, 4, 5, 9, 10, 11] [1, 6] (s' := ⟨[(3, (.v (.one (.arr 1)))), (4, (.v (.one (.c (.int .i64 x4))))), (5, (.v (.one (.ptr 6 0)))), (9, (.v (.one (.c (sl 4 cs_Pose a0))))), (10, (.v (.one (.c (.int .i64 (a0.length : Int)))))), (11, (.v (.one (.c (.int .i64 x4)))))], [(1, (.arr false x5.length 4 (gl cs_Pose x5))), (6, (.box [(.c (.flt .f32 (((a0.getD x4.toNat default).Root).X).bits)), (.c (.flt .f32 (((a0.getD x4.toNat default).Root).Y).bits)), (.c (.flt .f32 (((a0.getD x4.toNat default).Root).Z).bits)), (.c (sl 4 cs_Turn ((a0.getD x4.toNat default).Turns)))]))]⟩) (ob := True ∧ (0 ≤ x4 ∧ x4 < (a0.length : Int)) ∧ True ∧ True ∧ True ∧ True ∧ True) (by kernel_rfl) ⟨trivial, c7, trivial, trivial, trivial, trivial, trivial⟩ ?_
    refine thenQ_normal ?_
    obtain ⟨v8, e9, h⟩ := bind_some h
    obtain ⟨c10, h⟩ := chk_some h
    refine AW.drawnA (by kernel_rfl) 9 [.no, .no, .no, .no, .no, .no, .call [.one (sl 4 cs_Turn ((a0.getD x4.toNat default).Turns))] [.one (sl 4 cs_Turn v8)] [[.lst 7]], .no, .no, .set (x5.set x4.toNat (Pose.mk ((a0.getD x4.toNat default).Root) v8)).length (gl cs_Pose (x5.set x4.toNat (Pose.mk ((a0.getD x4.toNat default).Root) v8))) ((List.range 4).map fun j => (cs_Pose (Pose.mk ((a0.getD x4.toNat default).Root) v8)).getD (0 + j) .nilptr)] [3, 9, 10, 11] [1] (s' := ⟨[(3, (.v (.one (.arr 1)))), (9, (.v (.one (.c (sl 4 cs_Pose a0))))), (10, (.v (.one (.c (.int .i64 (a0.length : Int)))))), (11, (.v (.one (.c (.int .i64 x4)))))], [(1, (.arr false (x5.set x4.toNat (Pose.mk ((a0.getD x4.toNat default).Root) v8)).length 4 (gl cs_Pose (x5.set x4.toNat (Pose.mk ((a0.getD x4.toNat default).Root) v8)))))]⟩) (ob := (True ∧ True ∧ True ∧ True ∧ True ∧ True ∧ (((((sl 4 cs_Turn ((a0.getD x4.toNat default).Turns)) : C) = (sl 4 cs_Turn ((a0.getD x4.toNat default).Turns))) ∧ True) ∧ CallOK Try.prog 123 [.one (sl 4 cs_Turn ((a0.getD x4.toNat default).Turns))] [.one (sl 4 cs_Turn v8)]) ∧ True ∧ (0 ≤ x4 ∧ x4 < (x5.length : Int)) ∧ True) ∧ (((x5.set x4.toNat (Pose.mk ((a0.getD x4.toNat default).Root) v8)).length = x5.length ∧ SetOb x5.length 4 x4.toNat 0 4 (gl cs_Pose x5) (gl cs_Pose (x5.set x4.toNat (Pose.mk ((a0.getD x4.toNat default).Root) v8))) ∧ ((List.range 4).map fun j => (cs_Pose (Pose.mk ((a0.getD x4.toNat default).Root) v8)).getD (0 + j) .nilptr) = ((List.range 4).map fun j => gl cs_Pose (x5.set x4.toNat (Pose.mk ((a0.getD x4.toNat default).Root) v8)) x4.toNat (0 + j)) ∧ ((((.flt .f32 (((a0.getD x4.toNat default).Root).X).bits) : C) = (.flt .f32 (((a0.getD x4.toNat default).Root).X).bits) ∧ True) ∧ (((.flt .f32 (((a0.getD x4.toNat default).Root).Y).bits) : C) = (.flt .f32 (((a0.getD x4.toNat default).Root).Y).bits) ∧ True) ∧ (((.flt .f32 (((a0.getD x4.toNat default).Root).Z).bits) : C) = (.flt .f32 (((a0.getD x4.toNat default).Root).Z).bits) ∧ True) ∧ (((sl 4 cs_Turn v8) : C) = (sl 4 cs_Turn v8)) ∧ True) ∧ (false = true → ∀ j, j < 4 → isSeq (gl cs_Pose x5 x4.toNat (0 + j)) = false ∧ isSeq (gl cs_Pose (x5.set x4.toNat (Pose.mk ((a0.getD x4.toNat default).Root) v8)) x4.toNat (0 + j)) = false)) ∧ True)) (by kernel_rfl) ⟨⟨trivial, trivial, trivial, trivial, trivial, trivial, ⟨⟨rfl, trivial⟩, ok_slices_Clone_impl_Turn_impl_Turn K ((a0.getD x4.toNat default).Turns) v8 e9⟩, trivial, c10, trivial⟩, ⟨⟨List.length_set, gl_set, (gl_atp (lt_of_bound c10)).symm, ⟨⟨rfl, trivial⟩, ⟨rfl, trivial⟩, ⟨rfl, trivial⟩, rfl, trivial⟩, (fun h => nomatch h)⟩, trivial⟩⟩ ?_
    refine blockQ_normal ?_
    refine thenQ_normal ?_
    refine AW.regionA [] [3, 9, 10, 11] [1] (s' := ⟨[(3, (.v (.one (.arr 1)))), (9, (.v (.one (.c (sl 4 cs_Pose a0))))), (10, (.v (.one (.c (.int .i64 (a0.length : Int)))))), (11, (.v (.one (.c (.int .i64 (IntKind.i64.wrap (x4 + (1 : Int))))))))], [(1, (.arr false (x5.set x4.toNat (Pose.mk ((a0.getD x4.toNat default).Root) v8)).length 4 (gl cs_Pose (x5.set x4.toNat (Pose.mk ((a0.getD x4.toNat default).Root) v8)))))]⟩) (ob := True ∧ True ∧ True) (by kernel_rfl) ⟨trivial, trivial, trivial⟩ ?_
    exact loopQ_normal (k, (IntKind.i64.wrap (x4 + (1 : Int))), (x5.set x4.toNat (Pose.mk ((a0.getD x4.toNat default).Root) v8))) h (Nat.lt_succ_self k) (Sub.keep [3, 9, 10, 11] [1] (by kernel_rfl) (by kernel_rfl))
  · refine AW.cond_f rfl b6 ?_
    refine AW.exit ?_
    refine thenQ_exit ?_
    refine loopQ_exit ?_
    refine blockQ_exit ?_
    refine thenQ_normal ?_
    refine AW.seq ?_
    refine AW.regionA [] [2] [1] (s' := ⟨[(2, (.v (.one (.arr 1))))], [(1, (.arr false x5.length 4 (gl cs_Pose x5)))]⟩) (ob := True ∧ True ∧ True) (by kernel_rfl) ⟨trivial, trivial, trivial⟩ ?_
    refine thenQ_normal ?_
    refine AW.ret ?_
    replace h := some_eq h
    subst h
    exact ⟨.inr rfl, retOK_of [(.one (.arr 1))] (by kernel_rfl) ⟨rfl, trivial⟩ (of_decide_eq_true (by kernel_rfl))⟩

/-! impl.SliceFrames -/
def impl_SliceFrames (K : Nat) (a0 : Recording) (a1 : Int) (a2 : Int) : Option (Recording × Bool) :=
  (impl_ValidRecording K a0).bind fun v1 => (ite2 ((!v1)) (some true) (ite2 ((decide (a1 < (0 : Int)))) (some true) (ite2 ((decide (a1 > (a0.Frames.length : Int)))) (some true) (ite2 ((decide (a2 < (0 : Int)))) (some true) (some (decide (a2 > (IntKind.i64.wrap ((a0.Frames.length : Int) - a1))))))))).bind fun j7 => ite2 (j7) (some ((Recording.mk (0 : Int) ([] : (List Pose))), false)) (chk (0 ≤ a1 ∧ a1 ≤ (IntKind.i64.wrap (a1 + a2)) ∧ (IntKind.i64.wrap (a1 + a2)) ≤ (a0.Frames.length : Int)) ((impl_frames K ((a0.Frames.drop a1.toNat).take ((IntKind.i64.wrap (a1 + a2)).toNat - a1.toNat))).bind fun v11 => some ((Recording.mk a0.Bones v11), true)))

theorem ok_impl_SliceFrames (K : Nat) (a0 : Recording) (a1 : Int) (a2 : Int) (o : (Recording × Bool)) (h : impl_SliceFrames K a0 a1 a2 = some o) : CallOK Try.prog 24 [.agg (cs_Recording a0), .one (.int .i64 a1), .one (.int .i64 a2)] [.agg (cs_Recording o.1), .one (.bool o.2)] := by
  refine callOK_of_AW Try.func24 rfl (by kernel_rfl) (Nat.le_of_ble_eq_true (by kernel_rfl)) ?_
  intro w0
  unfold impl_SliceFrames at h
  refine AW.seq ?_
  refine AW.regionA [.box 1, .box 2] [1, 2, 3, 6] [1, 2] (s' := ⟨[(1, (.v (.one (.c (.int .i64 a1))))), (2, (.v (.one (.c (.int .i64 a2))))), (3, (.v (.one (.ptr 1 0)))), (6, (.v (.one (.ptr 2 0))))], [(1, (.box [(.c (.int .i64 a0.Bones)), (.c (sl 4 cs_Pose a0.Frames))])), (2, (.box [(.c (.int .i64 (0 : Int))), .nils]))]⟩) (ob := True ∧ True ∧ True ∧ True) (by kernel_rfl) ⟨trivial, trivial, trivial, trivial⟩ ?_
  refine thenQ_normal ?_
  refine AW.seq ?_
  refine AW.regionA [] [1, 2, 3, 6, 8] [1, 2] (s' := ⟨[(1, (.v (.one (.c (.int .i64 a1))))), (2, (.v (.one (.c (.int .i64 a2))))), (3, (.v (.one (.ptr 1 0)))), (6, (.v (.one (.ptr 2 0)))), (8, (.v (.one (.c (.int .i64 (a0.Frames.length : Int))))))], [(1, (.box [(.c (.int .i64 a0.Bones)), (.c (sl 4 cs_Pose a0.Frames))])), (2, (.box [(.c (.int .i64 (0 : Int))), .nils]))]⟩) (ob := True ∧ True ∧ True ∧ True ∧ True) (by kernel_rfl) ⟨trivial, trivial, trivial, trivial, trivial⟩ ?_
  refine thenQ_normal ?_
  refine AW.seq ?_
  refine AW.seq ?_
  obtain ⟨v1, e2, h⟩ := bind_some h
  obtain ⟨j7, e8, h⟩ := bind_some h
  refine AW.join1 (s2 := ⟨[(1, (.v (.one (.c (.int .i64 a1))))), (2, (.v (.one (.c (.int .i64 a2))))), (3, (.v (.one (.ptr 1 0)))), (6, (.v (.one (.ptr 2 0)))), (34, (.v (.one (.c (.bool j7)))))], [(1, (.box [(.c (.int .i64 a0.Bones)), (.c (sl 4 cs_Pose a0.Frames))])), (2, (.box [(.c (.int .i64 (0 : Int))), .nils]))]⟩) ?_ ?_
  · rcases ite2_cases e8 with ⟨b3, e8⟩ | ⟨b3, e8⟩
    · replace e8 := some_eq e8
      subst e8
      exact AW.regionA [.no, .call [.agg (cs_Recording a0)] [.one (.bool v1)] [[.view]], .no, .dec true] [1, 2, 3, 6, 34] [1, 2] (s' := ⟨[(1, (.v (.one (.c (.int .i64 a1))))), (2, (.v (.one (.c (.int .i64 a2))))), (3, (.v (.one (.ptr 1 0)))), (6, (.v (.one (.ptr 2 0)))), (34, (.v (.one (.c (.bool true)))))], [(1, (.box [(.c (.int .i64 a0.Bones)), (.c (sl 4 cs_Pose a0.Frames))])), (2, (.box [(.c (.int .i64 (0 : Int))), .nils]))]⟩) (ob := True ∧ ((((((.int .i64 a0.Bones) : C) = (.int .i64 a0.Bones)) ∧ (((sl 4 cs_Pose a0.Frames) : C) = (sl 4 cs_Pose a0.Frames)) ∧ True) ∧ True) ∧ CallOK Try.prog 53 [.agg (cs_Recording a0)] [.one (.bool v1)]) ∧ True ∧ (True ∧ (!v1) = true) ∧ True ∧ True ∧ True ∧ True ∧ True ∧ True ∧ True ∧ True ∧ True ∧ True ∧ True ∧ True ∧ True ∧ True ∧ True ∧ True ∧ True ∧ True ∧ True ∧ True) (by kernel_rfl) ⟨trivial, ⟨⟨⟨rfl, rfl, trivial⟩, trivial⟩, ok_impl_ValidRecording K a0 v1 e2⟩, trivial, ⟨trivial, b3⟩, trivial, trivial, trivial, trivial, trivial, trivial, trivial, trivial, trivial, trivial, trivial, trivial, trivial, trivial, trivial, trivial, trivial, trivial, trivial, trivial⟩ ⟨rfl, rfl⟩
    · rcases ite2_cases e8 with ⟨b4, e8⟩ | ⟨b4, e8⟩
      · replace e8 := some_eq e8
        subst e8
        exact AW.regionA [.no, .call [.agg (cs_Recording a0)] [.one (.bool v1)] [[.view]], .no, .dec false, .no, .no, .no, .dec true] [1, 2, 3, 6, 34] [1, 2] (s' := ⟨[(1, (.v (.one (.c (.int .i64 a1))))), (2, (.v (.one (.c (.int .i64 a2))))), (3, (.v (.one (.ptr 1 0)))), (6, (.v (.one (.ptr 2 0)))), (34, (.v (.one (.c (.bool true)))))], [(1, (.box [(.c (.int .i64 a0.Bones)), (.c (sl 4 cs_Pose a0.Frames))])), (2, (.box [(.c (.int .i64 (0 : Int))), .nils]))]⟩) (ob := True ∧ ((((((.int .i64 a0.Bones) : C) = (.int .i64 a0.Bones)) ∧ (((sl 4 cs_Pose a0.Frames) : C) = (sl 4 cs_Pose a0.Frames)) ∧ True) ∧ True) ∧ CallOK Try.prog 53 [.agg (cs_Recording a0)] [.one (.bool v1)]) ∧ True ∧ (True ∧ (!v1) = false) ∧ True ∧ True ∧ True ∧ (True ∧ (decide (a1 < (0 : Int))) = true) ∧ True ∧ True ∧ True ∧ True ∧ True ∧ True ∧ True ∧ True ∧ True ∧ True ∧ True ∧ True ∧ True ∧ True ∧ True ∧ True) (by kernel_rfl) ⟨trivial, ⟨⟨⟨rfl, rfl, trivial⟩, trivial⟩, ok_impl_ValidRecording K a0 v1 e2⟩, trivial, ⟨trivial, b3⟩, trivial, trivial, trivial, ⟨trivial, b4⟩, trivial, trivial, trivial, trivial, trivial, trivial, trivial, trivial, trivial, trivial, trivial, trivial, trivial, trivial, trivial, trivial⟩ ⟨rfl, rfl⟩
      · rcases ite2_cases e8 with ⟨b5, e8⟩ | ⟨b5, e8⟩
        · replace e8 := some_eq e8
          subst e8
          exact AW.regionA [.no, .call [.agg (cs_Recording a0)] [.one (.bool v1)] [[.view]], .no, .dec false, .no, .no, .no, .dec false, .no, .no, .no, .no, .dec true] [1, 2, 3, 6, 34] [1, 2] (s' := ⟨[(1, (.v (.one (.c (.int .i64 a1))))), (2, (.v (.one (.c (.int .i64 a2))))), (3, (.v (.one (.ptr 1 0)))), (6, (.v (.one (.ptr 2 0)))), (34, (.v (.one (.c (.bool true)))))], [(1, (.box [(.c (.int .i64 a0.Bones)), (.c (sl 4 cs_Pose a0.Frames))])), (2, (.box [(.c (.int .i64 (0 : Int))), .nils]))]⟩) (ob := True ∧ ((((((.int .i64 a0.Bones) : C) = (.int .i64 a0.Bones)) ∧ (((sl 4 cs_Pose a0.Frames) : C) = (sl 4 cs_Pose a0.Frames)) ∧ True) ∧ True) ∧ CallOK Try.prog 53 [.agg (cs_Recording a0)] [.one (.bool v1)]) ∧ True ∧ (True ∧ (!v1) = false) ∧ True ∧ True ∧ True ∧ (True ∧ (decide (a1 < (0 : Int))) = false) ∧ True ∧ True ∧ True ∧ True ∧ (True ∧ (decide (a1 > (a0.Frames.length : Int))) = true) ∧ True ∧ True ∧ True ∧ True ∧ True ∧ True ∧ True ∧ True ∧ True ∧ True ∧ True) (by kernel_rfl) ⟨trivial, ⟨⟨⟨rfl, rfl, trivial⟩, trivial⟩, ok_impl_ValidRecording K a0 v1 e2⟩, trivial, ⟨trivial, b3⟩, trivial, trivial, trivial, ⟨trivial, b4⟩, trivial, trivial, trivial, trivial, ⟨trivial, b5⟩, trivial, trivial, trivial, trivial, trivial, trivial, trivial, trivial, trivial, trivial, trivial⟩ ⟨rfl, rfl⟩
        · rcases ite2_cases e8 with ⟨b6, e8⟩ | ⟨b6, e8⟩
          · replace e8 := some_eq e8
            subst e8
            exact AW.regionA [.no, .call [.agg (cs_Recording a0)] [.one (.bool v1)] [[.view]], .no, .dec false, .no, .no, .no, .dec false, .no, .no, .no, .no, .dec false, .no, .no, .no, .dec true] [1, 2, 3, 6, 34] [1, 2] (s' := ⟨[(1, (.v (.one (.c (.int .i64 a1))))), (2, (.v (.one (.c (.int .i64 a2))))), (3, (.v (.one (.ptr 1 0)))), (6, (.v (.one (.ptr 2 0)))), (34, (.v (.one (.c (.bool true)))))], [(1, (.box [(.c (.int .i64 a0.Bones)), (.c (sl 4 cs_Pose a0.Frames))])), (2, (.box [(.c (.int .i64 (0 : Int))), .nils]))]⟩) (ob := True ∧ ((((((.int .i64 a0.Bones) : C) = (.int .i64 a0.Bones)) ∧ (((sl 4 cs_Pose a0.Frames) : C) = (sl 4 cs_Pose a0.Frames)) ∧ True) ∧ True) ∧ CallOK Try.prog 53 [.agg (cs_Recording a0)] [.one (.bool v1)]) ∧ True ∧ (True ∧ (!v1) = false) ∧ True ∧ True ∧ True ∧ (True ∧ (decide (a1 < (0 : Int))) = false) ∧ True ∧ True ∧ True ∧ True ∧ (True ∧ (decide (a1 > (a0.Frames.length : Int))) = false) ∧ True ∧ True ∧ True ∧ (True ∧ (decide (a2 < (0 : Int))) = true) ∧ True ∧ True ∧ True ∧ True ∧ True ∧ True ∧ True) (by kernel_rfl) ⟨trivial, ⟨⟨⟨rfl, rfl, trivial⟩, trivial⟩, ok_impl_ValidRecording K a0 v1 e2⟩, trivial, ⟨trivial, b3⟩, trivial, trivial, trivial, ⟨trivial, b4⟩, trivial, trivial, trivial, trivial, ⟨trivial, b5⟩, trivial, trivial, trivial, ⟨trivial, b6⟩, trivial, trivial, trivial, trivial, trivial, trivial, trivial⟩ ⟨rfl, rfl⟩
          · replace e8 := some_eq e8
            subst e8
            exact AW.regionA [.no, .call [.agg (cs_Recording a0)] [.one (.bool v1)] [[.view]], .no, .dec false, .no, .no, .no, .dec false, .no, .no, .no, .no, .dec false, .no, .no, .no, .dec false] [1, 2, 3, 6, 34] [1, 2] (s' := ⟨[(1, (.v (.one (.c (.int .i64 a1))))), (2, (.v (.one (.c (.int .i64 a2))))), (3, (.v (.one (.ptr 1 0)))), (6, (.v (.one (.ptr 2 0)))), (34, (.v (.one (.c (.bool (decide (a2 > (IntKind.i64.wrap ((a0.Frames.length : Int) - a1)))))))))], [(1, (.box [(.c (.int .i64 a0.Bones)), (.c (sl 4 cs_Pose a0.Frames))])), (2, (.box [(.c (.int .i64 (0 : Int))), .nils]))]⟩) (ob := True ∧ ((((((.int .i64 a0.Bones) : C) = (.int .i64 a0.Bones)) ∧ (((sl 4 cs_Pose a0.Frames) : C) = (sl 4 cs_Pose a0.Frames)) ∧ True) ∧ True) ∧ CallOK Try.prog 53 [.agg (cs_Recording a0)] [.one (.bool v1)]) ∧ True ∧ (True ∧ (!v1) = false) ∧ True ∧ True ∧ True ∧ (True ∧ (decide (a1 < (0 : Int))) = false) ∧ True ∧ True ∧ True ∧ True ∧ (True ∧ (decide (a1 > (a0.Frames.length : Int))) = false) ∧ True ∧ True ∧ True ∧ (True ∧ (decide (a2 < (0 : Int))) = false) ∧ True ∧ True ∧ True ∧ True ∧ True ∧ True ∧ True) (by kernel_rfl) ⟨trivial, ⟨⟨⟨rfl, rfl, trivial⟩, trivial⟩, ok_impl_ValidRecording K a0 v1 e2⟩, trivial, ⟨trivial, b3⟩, trivial, trivial, trivial, ⟨trivial, b4⟩, trivial, trivial, trivial, trivial, ⟨trivial, b5⟩, trivial, trivial, trivial, ⟨trivial, b6⟩, trivial, trivial, trivial, trivial, trivial, trivial, trivial⟩ ⟨rfl, rfl⟩
  refine thenQ_normal ?_
  rcases ite2_cases h with ⟨b9, h⟩ | ⟨b9, h⟩
  · refine AW.cond_t rfl b9 ?_
    refine AW.seq ?_
    refine AW.regionA [] [6, 7] [2] (s' := ⟨[(6, (.v (.one (.ptr 2 0)))), (7, (.v (.one (.c (.bool false)))))], [(2, (.box [(.c (.int .i64 (0 : Int))), .nils]))]⟩) (ob := True ∧ True ∧ True ∧ True) (by kernel_rfl) ⟨trivial, trivial, trivial, trivial⟩ ?_
    refine thenQ_normal ?_
    refine AW.ret ?_
    refine thenQ_ret ?_
    replace h := some_eq h
    subst h
    exact ⟨.inr rfl, retOK_of [(.agg [(.c (.int .i64 (0 : Int))), .nils]), (.one (.c (.bool false)))] (by kernel_rfl) ⟨⟨⟨rfl, trivial⟩, rfl, trivial⟩, ⟨rfl, trivial⟩, trivial⟩ (of_decide_eq_true (by kernel_rfl))⟩
  · refine AW.cond_f rfl b9 ?_
    refine AW.skip ?_
    refine thenQ_normal ?_
    refine AW.seq ?_
    obtain ⟨c10, h⟩ := chk_some h
    obtain ⟨v11, e12, h⟩ := bind_some h
    refine AW.drawnA (by kernel_rfl) 11 [.no, .no, .no, .no, .no, .no, .no, .no, .seq ((a0.Frames.drop a1.toNat).take ((IntKind.i64.wrap (a1 + a2)).toNat - a1.toNat)).length (gl cs_Pose ((a0.Frames.drop a1.toNat).take ((IntKind.i64.wrap (a1 + a2)).toNat - a1.toNat))), .call [.one (sl 4 cs_Pose ((a0.Frames.drop a1.toNat).take ((IntKind.i64.wrap (a1 + a2)).toNat - a1.toNat)))] [.one (sl 4 cs_Pose v11)] [[.lst 3]]] [6, 7] [2, 3] (s' := ⟨[(6, (.v (.one (.ptr 2 0)))), (7, (.v (.one (.c (.bool true)))))], [(2, (.box [(.c (.int .i64 a0.Bones)), (.lst 3 v11.length 4 (gl cs_Pose v11))])), (3, (.lst v11.length 4 (gl cs_Pose v11)))]⟩) (ob := (True ∧ True ∧ True ∧ True ∧ True ∧ True ∧ True ∧ True ∧ (0 ≤ a1 ∧ a1 ≤ (IntKind.i64.wrap (a1 + a2)) ∧ (IntKind.i64.wrap (a1 + a2)) ≤ (a0.Frames.length : Int) ∧ ((((a0.Frames.drop a1.toNat).take ((IntKind.i64.wrap (a1 + a2)).toNat - a1.toNat)).length : Nat) : Int) = (IntKind.i64.wrap (a1 + a2)) - a1 ∧ ∀ i j, i < ((a0.Frames.drop a1.toNat).take ((IntKind.i64.wrap (a1 + a2)).toNat - a1.toNat)).length → j < 4 → gl cs_Pose ((a0.Frames.drop a1.toNat).take ((IntKind.i64.wrap (a1 + a2)).toNat - a1.toNat)) i j = gl cs_Pose a0.Frames (a1.toNat + i) j) ∧ (((((sl 4 cs_Pose ((a0.Frames.drop a1.toNat).take ((IntKind.i64.wrap (a1 + a2)).toNat - a1.toNat))) : C) = (sl 4 cs_Pose ((a0.Frames.drop a1.toNat).take ((IntKind.i64.wrap (a1 + a2)).toNat - a1.toNat)))) ∧ True) ∧ CallOK Try.prog 76 [.one (sl 4 cs_Pose ((a0.Frames.drop a1.toNat).take ((IntKind.i64.wrap (a1 + a2)).toNat - a1.toNat)))] [.one (sl 4 cs_Pose v11)]) ∧ True ∧ True) ∧ (True ∧ True ∧ True)) (by kernel_rfl) ⟨⟨trivial, trivial, trivial, trivial, trivial, trivial, trivial, trivial, ⟨c10.1, c10.2.1, c10.2.2, (gl_drop (sz := 4) (cs := cs_Pose) c10.1 c10.2.1 c10.2.2).1, (gl_drop c10.1 c10.2.1 c10.2.2).2⟩, ⟨⟨rfl, trivial⟩, ok_impl_frames K ((a0.Frames.drop a1.toNat).take ((IntKind.i64.wrap (a1 + a2)).toNat - a1.toNat)) v11 e12⟩, trivial, trivial⟩, ⟨trivial, trivial, trivial⟩⟩ ?_
    refine thenQ_normal ?_
    refine AW.ret ?_
    replace h := some_eq h
    subst h
    exact ⟨.inr rfl, retOK_of [(.agg [(.c (.int .i64 a0.Bones)), (.lst 3 v11.length 4 (gl cs_Pose v11))]), (.one (.c (.bool true)))] (by kernel_rfl) ⟨⟨⟨rfl, trivial⟩, rfl, trivial⟩, ⟨rfl, trivial⟩, trivial⟩ (of_decide_eq_true (by kernel_rfl))⟩

/-! laws.sameFloat -/
def laws_sameFloat (_K : Nat) (a0 : F64) (a1 : F64) : Option (Bool) :=
  (ite2 ((a0.ne a0)) (some true) (some (a1.ne a1))).bind fun j2 => ite2 (j2) ((ite2 ((a0.ne a0)) (some (a1.ne a1)) (some false)).bind fun j6 => some j6) ((ite2 ((a0.eq (Fl.mk (k := .f64) 0 (by decide)))) (some (a1.eq (Fl.mk (k := .f64) 0 (by decide)))) (some false)).bind fun j9 => ite2 (j9) (some ((((Fl.mk (k := .f64) 4607182418800017408 (by decide)).div a0).gt (Fl.mk (k := .f64) 0 (by decide))) == (((Fl.mk (k := .f64) 4607182418800017408 (by decide)).div a1).gt (Fl.mk (k := .f64) 0 (by decide))))) (some (a0.eq a1)))

theorem ok_laws_sameFloat (K : Nat) (a0 : F64) (a1 : F64) (o : (Bool)) (h : laws_sameFloat K a0 a1 = some o) : CallOK Try.prog 98 [.one (.flt .f64 a0.bits), .one (.flt .f64 a1.bits)] [.one (.bool o)] := by
  refine callOK_of_AW Try.func98 rfl (by kernel_rfl) (Nat.le_of_ble_eq_true (by kernel_rfl)) ?_
  intro w0
  unfold laws_sameFloat at h
  refine AW.seq ?_
  refine AW.regionA [] [0, 1] [] (s' := ⟨[(0, (.v (.one (.c (.flt .f64 a0.bits))))), (1, (.v (.one (.c (.flt .f64 a1.bits)))))], []⟩) (ob := True ∧ True) (by kernel_rfl) ⟨trivial, trivial⟩ ?_
  refine thenQ_normal ?_
  refine AW.seq ?_
  refine AW.seq ?_
  obtain ⟨j2, e3, h⟩ := bind_some h
  refine AW.join1 (s2 := ⟨[(0, (.v (.one (.c (.flt .f64 a0.bits))))), (1, (.v (.one (.c (.flt .f64 a1.bits))))), (12, (.v (.one (.c (.bool j2)))))], []⟩) ?_ ?_
  · rcases ite2_cases e3 with ⟨b1, e3⟩ | ⟨b1, e3⟩
    · replace e3 := some_eq e3
      subst e3
      exact AW.regionA [.no, .no, .no, .dec true] [0, 1, 12] [] (s' := ⟨[(0, (.v (.one (.c (.flt .f64 a0.bits))))), (1, (.v (.one (.c (.flt .f64 a1.bits))))), (12, (.v (.one (.c (.bool true)))))], []⟩) (ob := True ∧ True ∧ True ∧ (True ∧ (a0.ne a0) = true) ∧ True ∧ True ∧ True ∧ True ∧ True) (by kernel_rfl) ⟨trivial, trivial, trivial, ⟨trivial, b1⟩, trivial, trivial, trivial, trivial, trivial⟩ ⟨rfl, rfl⟩
    · replace e3 := some_eq e3
      subst e3
      exact AW.regionA [.no, .no, .no, .dec false] [0, 1, 12] [] (s' := ⟨[(0, (.v (.one (.c (.flt .f64 a0.bits))))), (1, (.v (.one (.c (.flt .f64 a1.bits))))), (12, (.v (.one (.c (.bool (a1.ne a1))))))], []⟩) (ob := True ∧ True ∧ True ∧ (True ∧ (a0.ne a0) = false) ∧ True ∧ True ∧ True ∧ True ∧ True) (by kernel_rfl) ⟨trivial, trivial, trivial, ⟨trivial, b1⟩, trivial, trivial, trivial, trivial, trivial⟩ ⟨rfl, rfl⟩
  refine thenQ_normal ?_
  rcases ite2_cases h with ⟨b4, h⟩ | ⟨b4, h⟩
  · refine AW.cond_t rfl b4 ?_
    refine AW.seq ?_
    obtain ⟨j6, e7, h⟩ := bind_some h
    refine AW.join1 (s2 := ⟨[(4, (.v (.one (.c (.bool j6)))))], []⟩) ?_ ?_
    · rcases ite2_cases e7 with ⟨b5, e7⟩ | ⟨b5, e7⟩
      · replace e7 := some_eq e7
        subst e7
        exact AW.regionA [.no, .no, .no, .dec true] [4] [] (s' := ⟨[(4, (.v (.one (.c (.bool (a1.ne a1))))))], []⟩) (ob := True ∧ True ∧ True ∧ (True ∧ (a0.ne a0) = true) ∧ True ∧ True ∧ True ∧ True ∧ True ∧ True) (by kernel_rfl) ⟨trivial, trivial, trivial, ⟨trivial, b5⟩, trivial, trivial, trivial, trivial, trivial, trivial⟩ ⟨rfl, rfl⟩
      · replace e7 := some_eq e7
        subst e7
        exact AW.regionA [.no, .no, .no, .dec false] [4] [] (s' := ⟨[(4, (.v (.one (.c (.bool false)))))], []⟩) (ob := True ∧ True ∧ True ∧ (True ∧ (a0.ne a0) = false) ∧ True ∧ True ∧ True ∧ True ∧ True ∧ True) (by kernel_rfl) ⟨trivial, trivial, trivial, ⟨trivial, b5⟩, trivial, trivial, trivial, trivial, trivial, trivial⟩ ⟨rfl, rfl⟩
    refine thenQ_normal ?_
    refine AW.ret ?_
    refine thenQ_ret ?_
    replace h := some_eq h
    subst h
    exact ⟨.inr rfl, retOK_of [(.one (.c (.bool j6)))] (by kernel_rfl) ⟨⟨rfl, trivial⟩, trivial⟩ (of_decide_eq_true (by kernel_rfl))⟩
  · refine AW.cond_f rfl b4 ?_
    refine AW.skip ?_
    refine thenQ_normal ?_
    refine AW.seq ?_
    refine AW.seq ?_
    obtain ⟨j9, e10, h⟩ := bind_some h
    refine AW.join1 (s2 := ⟨[(0, (.v (.one (.c (.flt .f64 a0.bits))))), (1, (.v (.one (.c (.flt .f64 a1.bits))))), (26, (.v (.one (.c (.bool j9)))))], []⟩) ?_ ?_
    · rcases ite2_cases e10 with ⟨b8, e10⟩ | ⟨b8, e10⟩
      · replace e10 := some_eq e10
        subst e10
        exact AW.regionA [.no, .no, .dec true] [0, 1, 26] [] (s' := ⟨[(0, (.v (.one (.c (.flt .f64 a0.bits))))), (1, (.v (.one (.c (.flt .f64 a1.bits))))), (26, (.v (.one (.c (.bool (a1.eq (Fl.mk (k := .f64) 0 (by decide))))))))], []⟩) (ob := True ∧ True ∧ (True ∧ (a0.eq (Fl.mk (k := .f64) 0 (by decide))) = true) ∧ True ∧ True ∧ True ∧ True) (by kernel_rfl) ⟨trivial, trivial, ⟨trivial, b8⟩, trivial, trivial, trivial, trivial⟩ ⟨rfl, rfl⟩
      · replace e10 := some_eq e10
        subst e10
        exact AW.regionA [.no, .no, .dec false] [0, 1, 26] [] (s' := ⟨[(0, (.v (.one (.c (.flt .f64 a0.bits))))), (1, (.v (.one (.c (.flt .f64 a1.bits))))), (26, (.v (.one (.c (.bool false)))))], []⟩) (ob := True ∧ True ∧ (True ∧ (a0.eq (Fl.mk (k := .f64) 0 (by decide))) = false) ∧ True ∧ True ∧ True ∧ True) (by kernel_rfl) ⟨trivial, trivial, ⟨trivial, b8⟩, trivial, trivial, trivial, trivial⟩ ⟨rfl, rfl⟩
    refine thenQ_normal ?_
    rcases ite2_cases h with ⟨b11, h⟩ | ⟨b11, h⟩
    · refine AW.cond_t rfl b11 ?_
      refine AW.seq ?_
      refine AW.regionA [] [4] [] (s' := ⟨[(4, (.v (.one (.c (.bool ((((Fl.mk (k := .f64) 4607182418800017408 (by decide)).div a0).gt (Fl.mk (k := .f64) 0 (by decide))) == (((Fl.mk (k := .f64) 4607182418800017408 (by decide)).div a1).gt (Fl.mk (k := .f64) 0 (by decide)))))))))], []⟩) (ob := True ∧ True ∧ True ∧ True ∧ True ∧ True ∧ True ∧ True ∧ True) (by kernel_rfl) ⟨trivial, trivial, trivial, trivial, trivial, trivial, trivial, trivial, trivial⟩ ?_
      refine thenQ_normal ?_
      refine AW.ret ?_
      refine thenQ_ret ?_
      replace h := some_eq h
      subst h
      exact ⟨.inr rfl, retOK_of [(.one (.c (.bool ((((Fl.mk (k := .f64) 4607182418800017408 (by decide)).div a0).gt (Fl.mk (k := .f64) 0 (by decide))) == (((Fl.mk (k := .f64) 4607182418800017408 (by decide)).div a1).gt (Fl.mk (k := .f64) 0 (by decide)))))))] (by kernel_rfl) ⟨⟨rfl, trivial⟩, trivial⟩ (of_decide_eq_true (by kernel_rfl))⟩
    · refine AW.cond_f rfl b11 ?_
      refine AW.skip ?_
      refine thenQ_normal ?_
      refine AW.seq ?_
      refine AW.regionA [] [4] [] (s' := ⟨[(4, (.v (.one (.c (.bool (a0.eq a1))))))], []⟩) (ob := True ∧ True ∧ True ∧ True ∧ True) (by kernel_rfl) ⟨trivial, trivial, trivial, trivial, trivial⟩ ?_
      refine thenQ_normal ?_
      refine AW.ret ?_
      replace h := some_eq h
      subst h
      exact ⟨.inr rfl, retOK_of [(.one (.c (.bool (a0.eq a1))))] (by kernel_rfl) ⟨⟨rfl, trivial⟩, trivial⟩ (of_decide_eq_true (by kernel_rfl))⟩

/-! laws.eqVector -/
def laws_eqVector (K : Nat) (a0 : Vector) (a1 : Vector) : Option (Bool) :=
  (laws_sameFloat K (Fl.cv .f32 .f64 a0.X) (Fl.cv .f32 .f64 a1.X)).bind fun v1 => ite2 ((!v1)) (some false) ((laws_sameFloat K (Fl.cv .f32 .f64 a0.Y) (Fl.cv .f32 .f64 a1.Y)).bind fun v4 => ite2 ((!v4)) (some false) ((laws_sameFloat K (Fl.cv .f32 .f64 a0.Z) (Fl.cv .f32 .f64 a1.Z)).bind fun v7 => ite2 ((!v7)) (some false) (some true)))

theorem ok_laws_eqVector (K : Nat) (a0 : Vector) (a1 : Vector) (o : (Bool)) (h : laws_eqVector K a0 a1 = some o) : CallOK Try.prog 90 [.agg (cs_Vector a0), .agg (cs_Vector a1)] [.one (.bool o)] := by
  refine callOK_of_AW Try.func90 rfl (by kernel_rfl) (Nat.le_of_ble_eq_true (by kernel_rfl)) ?_
  intro w0
  unfold laws_eqVector at h
  refine AW.seq ?_
  refine AW.regionA [.box 1, .box 2] [2, 3] [1, 2] (s' := ⟨[(2, (.v (.one (.ptr 1 0)))), (3, (.v (.one (.ptr 2 0))))], [(1, (.box [(.c (.flt .f32 a0.X.bits)), (.c (.flt .f32 a0.Y.bits)), (.c (.flt .f32 a0.Z.bits))])), (2, (.box [(.c (.flt .f32 a1.X.bits)), (.c (.flt .f32 a1.Y.bits)), (.c (.flt .f32 a1.Z.bits))]))]⟩) (ob := True ∧ True ∧ True ∧ True) (by kernel_rfl) ⟨trivial, trivial, trivial, trivial⟩ ?_
  refine thenQ_normal ?_
  refine AW.seq ?_
  refine AW.seq ?_
  obtain ⟨v1, e2, h⟩ := bind_some h
  refine AW.regionA [.no, .no, .no, .no, .no, .no, .call [.one (.flt .f64 (Fl.cv .f32 .f64 a0.X).bits), .one (.flt .f64 (Fl.cv .f32 .f64 a1.X).bits)] [.one (.bool v1)] [[.view]]] [2, 3, 12] [1, 2] (s' := ⟨[(2, (.v (.one (.ptr 1 0)))), (3, (.v (.one (.ptr 2 0)))), (12, (.v (.one (.c (.bool (!v1))))))], [(1, (.box [(.c (.flt .f32 a0.X.bits)), (.c (.flt .f32 a0.Y.bits)), (.c (.flt .f32 a0.Z.bits))])), (2, (.box [(.c (.flt .f32 a1.X.bits)), (.c (.flt .f32 a1.Y.bits)), (.c (.flt .f32 a1.Z.bits))]))]⟩) (ob := True ∧ True ∧ ((convBits .f32 a0.X.bits .f64).isSome = true) ∧ True ∧ True ∧ ((convBits .f32 a1.X.bits .f64).isSome = true) ∧ (((((.flt .f64 (Fl.cv .f32 .f64 a0.X).bits) : C) = (.flt .f64 (Fl.cv .f32 .f64 a0.X).bits)) ∧ (((.flt .f64 (Fl.cv .f32 .f64 a1.X).bits) : C) = (.flt .f64 (Fl.cv .f32 .f64 a1.X).bits)) ∧ True) ∧ CallOK Try.prog 98 [.one (.flt .f64 (Fl.cv .f32 .f64 a0.X).bits), .one (.flt .f64 (Fl.cv .f32 .f64 a1.X).bits)] [.one (.bool v1)]) ∧ True ∧ True) (by kernel_rfl) ⟨trivial, trivial, cv_wide a0.X, trivial, trivial, cv_wide a1.X, ⟨⟨rfl, rfl, trivial⟩, ok_laws_sameFloat K (Fl.cv .f32 .f64 a0.X) (Fl.cv .f32 .f64 a1.X) v1 e2⟩, trivial, trivial⟩ ?_
  refine thenQ_normal ?_
  rcases ite2_cases h with ⟨b3, h⟩ | ⟨b3, h⟩
  · refine AW.cond_t rfl b3 ?_
    refine AW.seq ?_
    refine AW.regionA [] [4] [] (s' := ⟨[(4, (.v (.one (.c (.bool false)))))], []⟩) (ob := True ∧ True) (by kernel_rfl) ⟨trivial, trivial⟩ ?_
    refine thenQ_normal ?_
    refine AW.ret ?_
    refine thenQ_ret ?_
    replace h := some_eq h
    subst h
    exact ⟨.inr rfl, retOK_of [(.one (.c (.bool false)))] (by kernel_rfl) ⟨⟨rfl, trivial⟩, trivial⟩ (of_decide_eq_true (by kernel_rfl))⟩
  · refine AW.cond_f rfl b3 ?_
    refine AW.skip ?_
    refine thenQ_normal ?_
    refine AW.seq ?_
    refine AW.seq ?_
    obtain ⟨v4, e5, h⟩ := bind_some h
    refine AW.regionA [.no, .no, .no, .no, .no, .no, .call [.one (.flt .f64 (Fl.cv .f32 .f64 a0.Y).bits), .one (.flt .f64 (Fl.cv .f32 .f64 a1.Y).bits)] [.one (.bool v4)] [[.view]]] [2, 3, 20] [1, 2] (s' := ⟨[(2, (.v (.one (.ptr 1 0)))), (3, (.v (.one (.ptr 2 0)))), (20, (.v (.one (.c (.bool (!v4))))))], [(1, (.box [(.c (.flt .f32 a0.X.bits)), (.c (.flt .f32 a0.Y.bits)), (.c (.flt .f32 a0.Z.bits))])), (2, (.box [(.c (.flt .f32 a1.X.bits)), (.c (.flt .f32 a1.Y.bits)), (.c (.flt .f32 a1.Z.bits))]))]⟩) (ob := True ∧ True ∧ ((convBits .f32 a0.Y.bits .f64).isSome = true) ∧ True ∧ True ∧ ((convBits .f32 a1.Y.bits .f64).isSome = true) ∧ (((((.flt .f64 (Fl.cv .f32 .f64 a0.Y).bits) : C) = (.flt .f64 (Fl.cv .f32 .f64 a0.Y).bits)) ∧ (((.flt .f64 (Fl.cv .f32 .f64 a1.Y).bits) : C) = (.flt .f64 (Fl.cv .f32 .f64 a1.Y).bits)) ∧ True) ∧ CallOK Try.prog 98 [.one (.flt .f64 (Fl.cv .f32 .f64 a0.Y).bits), .one (.flt .f64 (Fl.cv .f32 .f64 a1.Y).bits)] [.one (.bool v4)]) ∧ True ∧ True) (by kernel_rfl) ⟨trivial, trivial, cv_wide a0.Y, trivial, trivial, cv_wide a1.Y, ⟨⟨rfl, rfl, trivial⟩, ok_laws_sameFloat K (Fl.cv .f32 .f64 a0.Y) (Fl.cv .f32 .f64 a1.Y) v4 e5⟩, trivial, trivial⟩ ?_
    refine thenQ_normal ?_
    rcases ite2_cases h with ⟨b6, h⟩ | ⟨b6, h⟩
    · refine AW.cond_t rfl b6 ?_
      refine AW.seq ?_
      refine AW.regionA [] [4] [] (s' := ⟨[(4, (.v (.one (.c (.bool false)))))], []⟩) (ob := True ∧ True) (by kernel_rfl) ⟨trivial, trivial⟩ ?_
      refine thenQ_normal ?_
      refine AW.ret ?_
      refine thenQ_ret ?_
      replace h := some_eq h
      subst h
      exact ⟨.inr rfl, retOK_of [(.one (.c (.bool false)))] (by kernel_rfl) ⟨⟨rfl, trivial⟩, trivial⟩ (of_decide_eq_true (by kernel_rfl))⟩
    · refine AW.cond_f rfl b6 ?_
      refine AW.skip ?_
      refine thenQ_normal ?_
      refine AW.seq ?_
      refine AW.seq ?_
      obtain ⟨v7, e8, h⟩ := bind_some h
      refine AW.regionA [.no, .no, .no, .no, .no, .no, .call [.one (.flt .f64 (Fl.cv .f32 .f64 a0.Z).bits), .one (.flt .f64 (Fl.cv .f32 .f64 a1.Z).bits)] [.one (.bool v7)] [[.view]]] [28] [] (s' := ⟨[(28, (.v (.one (.c (.bool (!v7))))))], []⟩) (ob := True ∧ True ∧ ((convBits .f32 a0.Z.bits .f64).isSome = true) ∧ True ∧ True ∧ ((convBits .f32 a1.Z.bits .f64).isSome = true) ∧ (((((.flt .f64 (Fl.cv .f32 .f64 a0.Z).bits) : C) = (.flt .f64 (Fl.cv .f32 .f64 a0.Z).bits)) ∧ (((.flt .f64 (Fl.cv .f32 .f64 a1.Z).bits) : C) = (.flt .f64 (Fl.cv .f32 .f64 a1.Z).bits)) ∧ True) ∧ CallOK Try.prog 98 [.one (.flt .f64 (Fl.cv .f32 .f64 a0.Z).bits), .one (.flt .f64 (Fl.cv .f32 .f64 a1.Z).bits)] [.one (.bool v7)]) ∧ True ∧ True) (by kernel_rfl) ⟨trivial, trivial, cv_wide a0.Z, trivial, trivial, cv_wide a1.Z, ⟨⟨rfl, rfl, trivial⟩, ok_laws_sameFloat K (Fl.cv .f32 .f64 a0.Z) (Fl.cv .f32 .f64 a1.Z) v7 e8⟩, trivial, trivial⟩ ?_
      refine thenQ_normal ?_
      rcases ite2_cases h with ⟨b9, h⟩ | ⟨b9, h⟩
      · refine AW.cond_t rfl b9 ?_
        refine AW.seq ?_
        refine AW.regionA [] [4] [] (s' := ⟨[(4, (.v (.one (.c (.bool false)))))], []⟩) (ob := True ∧ True) (by kernel_rfl) ⟨trivial, trivial⟩ ?_
        refine thenQ_normal ?_
        refine AW.ret ?_
        refine thenQ_ret ?_
        replace h := some_eq h
        subst h
        exact ⟨.inr rfl, retOK_of [(.one (.c (.bool false)))] (by kernel_rfl) ⟨⟨rfl, trivial⟩, trivial⟩ (of_decide_eq_true (by kernel_rfl))⟩
      · refine AW.cond_f rfl b9 ?_
        refine AW.skip ?_
        refine thenQ_normal ?_
        refine AW.seq ?_
        refine AW.regionA [] [4] [] (s' := ⟨[(4, (.v (.one (.c (.bool true)))))], []⟩) (ob := True ∧ True) (by kernel_rfl) ⟨trivial, trivial⟩ ?_
        refine thenQ_normal ?_
        refine AW.ret ?_
        replace h := some_eq h
        subst h
        exact ⟨.inr rfl, retOK_of [(.one (.c (.bool true)))] (by kernel_rfl) ⟨⟨rfl, trivial⟩, trivial⟩ (of_decide_eq_true (by kernel_rfl))⟩

/-! laws.eqTurn -/
def laws_eqTurn (K : Nat) (a0 : Turn) (a1 : Turn) : Option (Bool) :=
  (laws_sameFloat K (Fl.cv .f32 .f64 a0.W) (Fl.cv .f32 .f64 a1.W)).bind fun v1 => ite2 ((!v1)) (some false) ((laws_sameFloat K (Fl.cv .f32 .f64 a0.X) (Fl.cv .f32 .f64 a1.X)).bind fun v4 => ite2 ((!v4)) (some false) ((laws_sameFloat K (Fl.cv .f32 .f64 a0.Y) (Fl.cv .f32 .f64 a1.Y)).bind fun v7 => ite2 ((!v7)) (some false) ((laws_sameFloat K (Fl.cv .f32 .f64 a0.Z) (Fl.cv .f32 .f64 a1.Z)).bind fun v10 => ite2 ((!v10)) (some false) (some true))))

theorem ok_laws_eqTurn (K : Nat) (a0 : Turn) (a1 : Turn) (o : (Bool)) (h : laws_eqTurn K a0 a1 = some o) : CallOK Try.prog 131 [.agg (cs_Turn a0), .agg (cs_Turn a1)] [.one (.bool o)] := by
  refine callOK_of_AW Try.func131 rfl (by kernel_rfl) (Nat.le_of_ble_eq_true (by kernel_rfl)) ?_
  intro w0
  unfold laws_eqTurn at h
  refine AW.seq ?_
  refine AW.regionA [.box 1, .box 2] [2, 3] [1, 2] (s' := ⟨[(2, (.v (.one (.ptr 1 0)))), (3, (.v (.one (.ptr 2 0))))], [(1, (.box [(.c (.flt .f32 a0.W.bits)), (.c (.flt .f32 a0.X.bits)), (.c (.flt .f32 a0.Y.bits)), (.c (.flt .f32 a0.Z.bits))])), (2, (.box [(.c (.flt .f32 a1.W.bits)), (.c (.flt .f32 a1.X.bits)), (.c (.flt .f32 a1.Y.bits)), (.c (.flt .f32 a1.Z.bits))]))]⟩) (ob := True ∧ True ∧ True ∧ True) (by kernel_rfl) ⟨trivial, trivial, trivial, trivial⟩ ?_
  refine thenQ_normal ?_
  refine AW.seq ?_
  refine AW.seq ?_
  obtain ⟨v1, e2, h⟩ := bind_some h
  refine AW.regionA [.no, .no, .no, .no, .no, .no, .call [.one (.flt .f64 (Fl.cv .f32 .f64 a0.W).bits), .one (.flt .f64 (Fl.cv .f32 .f64 a1.W).bits)] [.one (.bool v1)] [[.view]]] [2, 3, 12] [1, 2] (s' := ⟨[(2, (.v (.one (.ptr 1 0)))), (3, (.v (.one (.ptr 2 0)))), (12, (.v (.one (.c (.bool (!v1))))))], [(1, (.box [(.c (.flt .f32 a0.W.bits)), (.c (.flt .f32 a0.X.bits)), (.c (.flt .f32 a0.Y.bits)), (.c (.flt .f32 a0.Z.bits))])), (2, (.box [(.c (.flt .f32 a1.W.bits)), (.c (.flt .f32 a1.X.bits)), (.c (.flt .f32 a1.Y.bits)), (.c (.flt .f32 a1.Z.bits))]))]⟩) (ob := True ∧ True ∧ ((convBits .f32 a0.W.bits .f64).isSome = true) ∧ True ∧ True ∧ ((convBits .f32 a1.W.bits .f64).isSome = true) ∧ (((((.flt .f64 (Fl.cv .f32 .f64 a0.W).bits) : C) = (.flt .f64 (Fl.cv .f32 .f64 a0.W).bits)) ∧ (((.flt .f64 (Fl.cv .f32 .f64 a1.W).bits) : C) = (.flt .f64 (Fl.cv .f32 .f64 a1.W).bits)) ∧ True) ∧ CallOK Try.prog 98 [.one (.flt .f64 (Fl.cv .f32 .f64 a0.W).bits), .one (.flt .f64 (Fl.cv .f32 .f64 a1.W).bits)] [.one (.bool v1)]) ∧ True ∧ True) (by kernel_rfl) ⟨trivial, trivial, cv_wide a0.W, trivial, trivial, cv_wide a1.W, ⟨⟨rfl, rfl, trivial⟩, ok_laws_sameFloat K (Fl.cv .f32 .f64 a0.W) (Fl.cv .f32 .f64 a1.W) v1 e2⟩, trivial, trivial⟩ ?_
  refine thenQ_normal ?_
  rcases ite2_cases h with ⟨b3, h⟩ | ⟨b3, h⟩
  · refine AW.cond_t rfl b3 ?_
    refine AW.seq ?_
    refine AW.regionA [] [4] [] (s' := ⟨[(4, (.v (.one (.c (.bool false)))))], []⟩) (ob := True ∧ True) (by kernel_rfl) ⟨trivial, trivial⟩ ?_
    refine thenQ_normal ?_
    refine AW.ret ?_
    refine thenQ_ret ?_
    replace h := some_eq h
    subst h
    exact ⟨.inr rfl, retOK_of [(.one (.c (.bool false)))] (by kernel_rfl) ⟨⟨rfl, trivial⟩, trivial⟩ (of_decide_eq_true (by kernel_rfl))⟩
  · refine AW.cond_f rfl b3 ?_
    refine AW.skip ?_
    refine thenQ_normal ?_
    refine AW.seq ?_
    refine AW.seq ?_
    obtain ⟨v4, e5, h⟩ := bind_some h
    refine AW.regionA [.no, .no, .no, .no, .no, .no, .call [.one (.flt .f64 (Fl.cv .f32 .f64 a0.X).bits), .one (.flt .f64 (Fl.cv .f32 .f64 a1.X).bits)] [.one (.bool v4)] [[.view]]] [2, 3, 20] [1, 2] (s' := ⟨[(2, (.v (.one (.ptr 1 0)))), (3, (.v (.one (.ptr 2 0)))), (20, (.v (.one (.c (.bool (!v4))))))], [(1, (.box [(.c (.flt .f32 a0.W.bits)), (.c (.flt .f32 a0.X.bits)), (.c (.flt .f32 a0.Y.bits)), (.c (.flt .f32 a0.Z.bits))])), (2, (.box [(.c (.flt .f32 a1.W.bits)), (.c (.flt .f32 a1.X.bits)), (.c (.flt .f32 a1.Y.bits)), (.c (.flt .f32 a1.Z.bits))]))]⟩) (ob := True ∧ True ∧ ((convBits .f32 a0.X.bits .f64).isSome = true) ∧ True ∧ True ∧ ((convBits .f32 a1.X.bits .f64).isSome = true) ∧ (((((.flt .f64 (Fl.cv .f32 .f64 a0.X).bits) : C) = (.flt .f64 (Fl.cv .f32 .f64 a0.X).bits)) ∧ (((.flt .f64 (Fl.cv .f32 .f64 a1.X).bits) : C) = (.flt .f64 (Fl.cv .f32 .f64 a1.X).bits)) ∧ True) ∧ CallOK Try.prog 98 [.one (.flt .f64 (Fl.cv .f32 .f64 a0.X).bits), .one (.flt .f64 (Fl.cv .f32 .f64 a1.X).bits)] [.one (.bool v4)]) ∧ True ∧ True) (by kernel_rfl) ⟨trivial, trivial, cv_wide a0.X, trivial, trivial, cv_wide a1.X, ⟨⟨rfl, rfl, trivial⟩, ok_laws_sameFloat K (Fl.cv .f32 .f64 a0.X) (Fl.cv .f32 .f64 a1.X) v4 e5⟩, trivial, trivial⟩ ?_
    refine thenQ_normal ?_
    rcases ite2_cases h with ⟨b6, h⟩ | ⟨b6, h⟩
    · refine AW.cond_t rfl b6 ?_
      refine AW.seq ?_
      refine AW.regionA [] [4] [] (s' := ⟨[(4, (.v (.one (.c (.bool false)))))], []⟩) (ob := True ∧ True) (by kernel_rfl) ⟨trivial, trivial⟩ ?_
      refine thenQ_normal ?_
      refine AW.ret ?_
      refine thenQ_ret ?_
      replace h := some_eq h
      subst h
      exact ⟨.inr rfl, retOK_of [(.one (.c (.bool false)))] (by kernel_rfl) ⟨⟨rfl, trivial⟩, trivial⟩ (of_decide_eq_true (by kernel_rfl))⟩
    · refine AW.cond_f rfl b6 ?_
      refine AW.skip ?_
      refine thenQ_normal ?_
      refine AW.seq ?_
      refine AW.seq ?_
      obtain ⟨v7, e8, h⟩ := bind_some h
      refine AW.regionA [.no, .no, .no, .no, .no, .no, .call [.one (.flt .f64 (Fl.cv .f32 .f64 a0.Y).bits), .one (.flt .f64 (Fl.cv .f32 .f64 a1.Y).bits)] [.one (.bool v7)] [[.view]]] [2, 3, 28] [1, 2] (s' := ⟨[(2, (.v (.one (.ptr 1 0)))), (3, (.v (.one (.ptr 2 0)))), (28, (.v (.one (.c (.bool (!v7))))))], [(1, (.box [(.c (.flt .f32 a0.W.bits)), (.c (.flt .f32 a0.X.bits)), (.c (.flt .f32 a0.Y.bits)), (.c (.flt .f32 a0.Z.bits))])), (2, (.box [(.c (.flt .f32 a1.W.bits)), (.c (.flt .f32 a1.X.bits)), (.c (.flt .f32 a1.Y.bits)), (.c (.flt .f32 a1.Z.bits))]))]⟩) (ob := True ∧ True ∧ ((convBits .f32 a0.Y.bits .f64).isSome = true) ∧ True ∧ True ∧ ((convBits .f32 a1.Y.bits .f64).isSome = true) ∧ (((((.flt .f64 (Fl.cv .f32 .f64 a0.Y).bits) : C) = (.flt .f64 (Fl.cv .f32 .f64 a0.Y).bits)) ∧ (((.flt .f64 (Fl.cv .f32 .f64 a1.Y).bits) : C) = (.flt .f64 (Fl.cv .f32 .f64 a1.Y).bits)) ∧ True) ∧ CallOK Try.prog 98 [.one (.flt .f64 (Fl.cv .f32 .f64 a0.Y).bits), .one (.flt .f64 (Fl.cv .f32 .f64 a1.Y).bits)] [.one (.bool v7)]) ∧ True ∧ True) (by kernel_rfl) ⟨trivial, trivial, cv_wide a0.Y, trivial, trivial, cv_wide a1.Y, ⟨⟨rfl, rfl, trivial⟩, ok_laws_sameFloat K (Fl.cv .f32 .f64 a0.Y) (Fl.cv .f32 .f64 a1.Y) v7 e8⟩, trivial, trivial⟩ ?_
      refine thenQ_normal ?_
      rcases ite2_cases h with ⟨b9, h⟩ | ⟨b9, h⟩
      · refine AW.cond_t rfl b9 ?_
        refine AW.seq ?_
        refine AW.regionA [] [4] [] (s' := ⟨[(4, (.v (.one (.c (.bool false)))))], []⟩) (ob := True ∧ True) (by kernel_rfl) ⟨trivial, trivial⟩ ?_
        refine thenQ_normal ?_
        refine AW.ret ?_
        refine thenQ_ret ?_
        replace h := some_eq h
        subst h
        exact ⟨.inr rfl, retOK_of [(.one (.c (.bool false)))] (by kernel_rfl) ⟨⟨rfl, trivial⟩, trivial⟩ (of_decide_eq_true (by kernel_rfl))⟩
      · refine AW.cond_f rfl b9 ?_
        refine AW.skip ?_
        refine thenQ_normal ?_
        refine AW.seq ?_
        refine AW.seq ?_
        obtain ⟨v10, e11, h⟩ := bind_some h
        refine AW.regionA [.no, .no, .no, .no, .no, .no, .call [.one (.flt .f64 (Fl.cv .f32 .f64 a0.Z).bits), .one (.flt .f64 (Fl.cv .f32 .f64 a1.Z).bits)] [.one (.bool v10)] [[.view]]] [36] [] (s' := ⟨[(36, (.v (.one (.c (.bool (!v10))))))], []⟩) (ob := True ∧ True ∧ ((convBits .f32 a0.Z.bits .f64).isSome = true) ∧ True ∧ True ∧ ((convBits .f32 a1.Z.bits .f64).isSome = true) ∧ (((((.flt .f64 (Fl.cv .f32 .f64 a0.Z).bits) : C) = (.flt .f64 (Fl.cv .f32 .f64 a0.Z).bits)) ∧ (((.flt .f64 (Fl.cv .f32 .f64 a1.Z).bits) : C) = (.flt .f64 (Fl.cv .f32 .f64 a1.Z).bits)) ∧ True) ∧ CallOK Try.prog 98 [.one (.flt .f64 (Fl.cv .f32 .f64 a0.Z).bits), .one (.flt .f64 (Fl.cv .f32 .f64 a1.Z).bits)] [.one (.bool v10)]) ∧ True ∧ True) (by kernel_rfl) ⟨trivial, trivial, cv_wide a0.Z, trivial, trivial, cv_wide a1.Z, ⟨⟨rfl, rfl, trivial⟩, ok_laws_sameFloat K (Fl.cv .f32 .f64 a0.Z) (Fl.cv .f32 .f64 a1.Z) v10 e11⟩, trivial, trivial⟩ ?_
        refine thenQ_normal ?_
        rcases ite2_cases h with ⟨b12, h⟩ | ⟨b12, h⟩
        · refine AW.cond_t rfl b12 ?_
          refine AW.seq ?_
          refine AW.regionA [] [4] [] (s' := ⟨[(4, (.v (.one (.c (.bool false)))))], []⟩) (ob := True ∧ True) (by kernel_rfl) ⟨trivial, trivial⟩ ?_
          refine thenQ_normal ?_
          refine AW.ret ?_
          refine thenQ_ret ?_
          replace h := some_eq h
          subst h
          exact ⟨.inr rfl, retOK_of [(.one (.c (.bool false)))] (by kernel_rfl) ⟨⟨rfl, trivial⟩, trivial⟩ (of_decide_eq_true (by kernel_rfl))⟩
        · refine AW.cond_f rfl b12 ?_
          refine AW.skip ?_
          refine thenQ_normal ?_
          refine AW.seq ?_
          refine AW.regionA [] [4] [] (s' := ⟨[(4, (.v (.one (.c (.bool true)))))], []⟩) (ob := True ∧ True) (by kernel_rfl) ⟨trivial, trivial⟩ ?_
          refine thenQ_normal ?_
          refine AW.ret ?_
          replace h := some_eq h
          subst h
          exact ⟨.inr rfl, retOK_of [(.one (.c (.bool true)))] (by kernel_rfl) ⟨⟨rfl, trivial⟩, trivial⟩ (of_decide_eq_true (by kernel_rfl))⟩

/-! laws.eqTurnS -/
def laws_eqTurnS_l1 (K : Nat) (a0 : (List Turn)) (a1 : (List Turn)) : Nat → Int → Option (Bool)
  | 0, _ => none
  | k + 1, x3 => ite2 ((decide (x3 < (a0.length : Int)))) (chk (0 ≤ x3 ∧ x3 < (a0.length : Int)) (chk (0 ≤ x3 ∧ x3 < (a1.length : Int)) ((laws_eqTurn K (a0.getD x3.toNat default) (a1.getD x3.toNat default)).bind fun v7 => ite2 ((!v7)) (some false) (laws_eqTurnS_l1 K a0 a1 k (IntKind.i64.wrap (x3 + (1 : Int))))))) (some true)

def laws_eqTurnS (K : Nat) (a0 : (List Turn)) (a1 : (List Turn)) : Option (Bool) :=
  ite2 (((a0.length : Int) != (a1.length : Int))) (some false) (laws_eqTurnS_l1 K a0 a1 K (0 : Int))

theorem ok_laws_eqTurnS (K : Nat) (a0 : (List Turn)) (a1 : (List Turn)) (o : (Bool)) (h : laws_eqTurnS K a0 a1 = some o) : CallOK Try.prog 91 [.one (sl 4 cs_Turn a0), .one (sl 4 cs_Turn a1)] [.one (.bool o)] := by
  refine callOK_of_AW Try.func91 rfl (by kernel_rfl) (Nat.le_of_ble_eq_true (by kernel_rfl)) ?_
  intro w0
  unfold laws_eqTurnS at h
  refine AW.seq ?_
  refine AW.regionA [] [0, 1] [] (s' := ⟨[(0, (.v (.one (.c (sl 4 cs_Turn a0))))), (1, (.v (.one (.c (sl 4 cs_Turn a1)))))], []⟩) (ob := True ∧ True) (by kernel_rfl) ⟨trivial, trivial⟩ ?_
  refine thenQ_normal ?_
  refine AW.seq ?_
  refine AW.seq ?_
  refine AW.regionA [] [0, 1, 10] [] (s' := ⟨[(0, (.v (.one (.c (sl 4 cs_Turn a0))))), (1, (.v (.one (.c (sl 4 cs_Turn a1))))), (10, (.v (.one (.c (.bool ((a0.length : Int) != (a1.length : Int)))))))], []⟩) (ob := True ∧ True ∧ True ∧ True ∧ True ∧ True) (by kernel_rfl) ⟨trivial, trivial, trivial, trivial, trivial, trivial⟩ ?_
  refine thenQ_normal ?_
  rcases ite2_cases h with ⟨b1, h⟩ | ⟨b1, h⟩
  · refine AW.cond_t rfl b1 ?_
    refine AW.seq ?_
    refine AW.regionA [] [4] [] (s' := ⟨[(4, (.v (.one (.c (.bool false)))))], []⟩) (ob := True ∧ True) (by kernel_rfl) ⟨trivial, trivial⟩ ?_
    refine thenQ_normal ?_
    refine AW.ret ?_
    refine thenQ_ret ?_
    replace h := some_eq h
    subst h
    exact ⟨.inr rfl, retOK_of [(.one (.c (.bool false)))] (by kernel_rfl) ⟨⟨rfl, trivial⟩, trivial⟩ (of_decide_eq_true (by kernel_rfl))⟩
  · refine AW.cond_f rfl b1 ?_
    refine AW.skip ?_
    refine thenQ_normal ?_
    refine AW.seq ?_
    refine AW.seq ?_
    refine AW.regionA [] [0, 1, 5] [] (s' := ⟨[(0, (.v (.one (.c (sl 4 cs_Turn a0))))), (1, (.v (.one (.c (sl 4 cs_Turn a1))))), (5, (.v (.one (.c (.int .i64 (0 : Int))))))], []⟩) (ob := True ∧ True) (by kernel_rfl) ⟨trivial, trivial⟩ ?_
    refine thenQ_normal ?_
    refine AW.block ?_
    refine AW.loopQ (σ := Nat × Int) (fun p => ⟨[(0, (.v (.one (.c (sl 4 cs_Turn a0))))), (1, (.v (.one (.c (sl 4 cs_Turn a1))))), (5, (.v (.one (.c (.int .i64 p.2)))))], []⟩) (fun p => laws_eqTurnS_l1 K a0 a1 p.1 p.2 = some o) (fun p => p.1) (K, (0 : Int)) h ?_
    clear h
    rintro ⟨k, x3⟩ h
    replace h : laws_eqTurnS_l1 K a0 a1 k x3 = some o := h
    show AW _ _ (⟨[(0, (.v (.one (.c (sl 4 cs_Turn a0))))), (1, (.v (.one (.c (sl 4 cs_Turn a1))))), (5, (.v (.one (.c (.int .i64 x3)))))], []⟩ : St) _
    obtain _ | k := k
    · rw [laws_eqTurnS_l1] at h; cases h
    rw [laws_eqTurnS_l1] at h
    refine AW.seq ?_
    refine AW.seq ?_
    refine AW.regionA [] [0, 1, 5, 14] [] (s' := ⟨[(0, (.v (.one (.c (sl 4 cs_Turn a0))))), (1, (.v (.one (.c (sl 4 cs_Turn a1))))), (5, (.v (.one (.c (.int .i64 x3))))), (14, (.v (.one (.c (.bool (decide (x3 < (a0.length : Int))))))))], []⟩) (ob := True ∧ True ∧ True ∧ True ∧ True) (by kernel_rfl) ⟨trivial, trivial, trivial, trivial, trivial⟩ ?_
    refine thenQ_normal ?_
    rcases ite2_cases h with ⟨b4, h⟩ | ⟨b4, h⟩
    · refine AW.cond_t rfl b4 ?_
      refine AW.skip ?_
      refine thenQ_normal ?_
      refine AW.seq ?_
      refine AW.block ?_
      refine AW.seq ?_
      obtain ⟨c5, h⟩ := chk_some h
      obtain ⟨c6, h⟩ := chk_some h
      obtain ⟨v7, e8, h⟩ := bind_some h
      refine AW.drawnA (by kernel_rfl) 10 [.no, .no, .no, .no, .no, .no, .no, .no, .call [.agg (cs_Turn (a0.getD x3.toNat default)), .agg (cs_Turn (a1.getD x3.toNat default))] [.one (.bool v7)] [[.view]]] [0, 1, 5, 26] [] (s' := ⟨[(0, (.v (.one (.c (sl 4 cs_Turn a0))))), (1, (.v (.one (.c (sl 4 cs_Turn a1))))), (5, (.v (.one (.c (.int .i64 x3))))), (26, (.v (.one (.c (.bool (!v7))))))], []⟩) (ob := (True ∧ True ∧ (0 ≤ x3 ∧ x3 < (a0.length : Int)) ∧ True ∧ True ∧ True ∧ (0 ≤ x3 ∧ x3 < (a1.length : Int)) ∧ True ∧ ((((((.flt .f32 ((a0.getD x3.toNat default).W).bits) : C) = (.flt .f32 ((a0.getD x3.toNat default).W).bits)) ∧ (((.flt .f32 ((a0.getD x3.toNat default).X).bits) : C) = (.flt .f32 ((a0.getD x3.toNat default).X).bits)) ∧ (((.flt .f32 ((a0.getD x3.toNat default).Y).bits) : C) = (.flt .f32 ((a0.getD x3.toNat default).Y).bits)) ∧ (((.flt .f32 ((a0.getD x3.toNat default).Z).bits) : C) = (.flt .f32 ((a0.getD x3.toNat default).Z).bits)) ∧ True) ∧ ((((.flt .f32 ((a1.getD x3.toNat default).W).bits) : C) = (.flt .f32 ((a1.getD x3.toNat default).W).bits)) ∧ (((.flt .f32 ((a1.getD x3.toNat default).X).bits) : C) = (.flt .f32 ((a1.getD x3.toNat default).X).bits)) ∧ (((.flt .f32 ((a1.getD x3.toNat default).Y).bits) : C) = (.flt .f32 ((a1.getD x3.toNat default).Y).bits)) ∧ (((.flt .f32 ((a1.getD x3.toNat default).Z).bits) : C) = (.flt .f32 ((a1.getD x3.toNat default).Z).bits)) ∧ True) ∧ True) ∧ CallOK Try.prog 131 [.agg (cs_Turn (a0.getD x3.toNat default)), .agg (cs_Turn (a1.getD x3.toNat default))] [.one (.bool v7)]) ∧ True ∧ True) ∧ (True)) (by kernel_rfl) ⟨⟨trivial, trivial, c5, trivial, trivial, trivial, c6, trivial, ⟨⟨⟨rfl, rfl, rfl, rfl, trivial⟩, ⟨rfl, rfl, rfl, rfl, trivial⟩, trivial⟩, ok_laws_eqTurn K (a0.getD x3.toNat default) (a1.getD x3.toNat default) v7 e8⟩, trivial, trivial⟩, trivial⟩ ?_
      refine thenQ_normal ?_
      rcases ite2_cases h with ⟨b9, h⟩ | ⟨b9, h⟩
      · refine AW.cond_t rfl b9 ?_
        refine AW.seq ?_
        refine AW.regionA [] [4] [] (s' := ⟨[(4, (.v (.one (.c (.bool false)))))], []⟩) (ob := True ∧ True) (by kernel_rfl) ⟨trivial, trivial⟩ ?_
        refine thenQ_normal ?_
        refine AW.ret ?_
        refine blockQ_ret ?_
        refine thenQ_ret ?_
        refine loopQ_ret ?_
        refine blockQ_ret ?_
        refine thenQ_ret ?_
        replace h := some_eq h
        subst h
        exact ⟨.inr rfl, retOK_of [(.one (.c (.bool false)))] (by kernel_rfl) ⟨⟨rfl, trivial⟩, trivial⟩ (of_decide_eq_true (by kernel_rfl))⟩
      · refine AW.cond_f rfl b9 ?_
        refine AW.skip ?_
        refine blockQ_normal ?_
        refine thenQ_normal ?_
        refine AW.regionA [] [0, 1, 5] [] (s' := ⟨[(0, (.v (.one (.c (sl 4 cs_Turn a0))))), (1, (.v (.one (.c (sl 4 cs_Turn a1))))), (5, (.v (.one (.c (.int .i64 (IntKind.i64.wrap (x3 + (1 : Int))))))))], []⟩) (ob := True ∧ True ∧ True ∧ True) (by kernel_rfl) ⟨trivial, trivial, trivial, trivial⟩ ?_
        exact loopQ_normal (k, (IntKind.i64.wrap (x3 + (1 : Int)))) h (Nat.lt_succ_self k) (Sub.keep [0, 1, 5] [] (by kernel_rfl) (by kernel_rfl))
    · refine AW.cond_f rfl b4 ?_
      refine AW.exit ?_
      refine thenQ_exit ?_
      refine loopQ_exit ?_
      refine blockQ_exit ?_
      refine thenQ_normal ?_
      refine AW.seq ?_
      refine AW.regionA [] [4] [] (s' := ⟨[(4, (.v (.one (.c (.bool true)))))], []⟩) (ob := True ∧ True) (by kernel_rfl) ⟨trivial, trivial⟩ ?_
      refine thenQ_normal ?_
      refine AW.ret ?_
      replace h := some_eq h
      subst h
      exact ⟨.inr rfl, retOK_of [(.one (.c (.bool true)))] (by kernel_rfl) ⟨⟨rfl, trivial⟩, trivial⟩ (of_decide_eq_true (by kernel_rfl))⟩

/-! laws.eqPose -/
def laws_eqPose (K : Nat) (a0 : Pose) (a1 : Pose) : Option (Bool) :=
  (laws_eqVector K a0.Root a1.Root).bind fun v1 => ite2 ((!v1)) (some false) ((laws_eqTurnS K a0.Turns a1.Turns).bind fun v4 => ite2 ((!v4)) (some false) (some true))

theorem ok_laws_eqPose (K : Nat) (a0 : Pose) (a1 : Pose) (o : (Bool)) (h : laws_eqPose K a0 a1 = some o) : CallOK Try.prog 36 [.agg (cs_Pose a0), .agg (cs_Pose a1)] [.one (.bool o)] := by
  refine callOK_of_AW Try.func36 rfl (by kernel_rfl) (Nat.le_of_ble_eq_true (by kernel_rfl)) ?_
  intro w0
  unfold laws_eqPose at h
  refine AW.seq ?_
  refine AW.regionA [.box 1, .box 2] [2, 3] [1, 2] (s' := ⟨[(2, (.v (.one (.ptr 1 0)))), (3, (.v (.one (.ptr 2 0))))], [(1, (.box [(.c (.flt .f32 a0.Root.X.bits)), (.c (.flt .f32 a0.Root.Y.bits)), (.c (.flt .f32 a0.Root.Z.bits)), (.c (sl 4 cs_Turn a0.Turns))])), (2, (.box [(.c (.flt .f32 a1.Root.X.bits)), (.c (.flt .f32 a1.Root.Y.bits)), (.c (.flt .f32 a1.Root.Z.bits)), (.c (sl 4 cs_Turn a1.Turns))]))]⟩) (ob := True ∧ True ∧ True ∧ True) (by kernel_rfl) ⟨trivial, trivial, trivial, trivial⟩ ?_
  refine thenQ_normal ?_
  refine AW.seq ?_
  refine AW.seq ?_
  obtain ⟨v1, e2, h⟩ := bind_some h
  refine AW.regionA [.no, .no, .no, .no, .call [.agg (cs_Vector a0.Root), .agg (cs_Vector a1.Root)] [.one (.bool v1)] [[.view]]] [2, 3, 10] [1, 2] (s' := ⟨[(2, (.v (.one (.ptr 1 0)))), (3, (.v (.one (.ptr 2 0)))), (10, (.v (.one (.c (.bool (!v1))))))], [(1, (.box [(.c (.flt .f32 a0.Root.X.bits)), (.c (.flt .f32 a0.Root.Y.bits)), (.c (.flt .f32 a0.Root.Z.bits)), (.c (sl 4 cs_Turn a0.Turns))])), (2, (.box [(.c (.flt .f32 a1.Root.X.bits)), (.c (.flt .f32 a1.Root.Y.bits)), (.c (.flt .f32 a1.Root.Z.bits)), (.c (sl 4 cs_Turn a1.Turns))]))]⟩) (ob := True ∧ True ∧ True ∧ True ∧ ((((((.flt .f32 a0.Root.X.bits) : C) = (.flt .f32 a0.Root.X.bits)) ∧ (((.flt .f32 a0.Root.Y.bits) : C) = (.flt .f32 a0.Root.Y.bits)) ∧ (((.flt .f32 a0.Root.Z.bits) : C) = (.flt .f32 a0.Root.Z.bits)) ∧ True) ∧ ((((.flt .f32 a1.Root.X.bits) : C) = (.flt .f32 a1.Root.X.bits)) ∧ (((.flt .f32 a1.Root.Y.bits) : C) = (.flt .f32 a1.Root.Y.bits)) ∧ (((.flt .f32 a1.Root.Z.bits) : C) = (.flt .f32 a1.Root.Z.bits)) ∧ True) ∧ True) ∧ CallOK Try.prog 90 [.agg (cs_Vector a0.Root), .agg (cs_Vector a1.Root)] [.one (.bool v1)]) ∧ True ∧ True) (by kernel_rfl) ⟨trivial, trivial, trivial, trivial, ⟨⟨⟨rfl, rfl, rfl, trivial⟩, ⟨rfl, rfl, rfl, trivial⟩, trivial⟩, ok_laws_eqVector K a0.Root a1.Root v1 e2⟩, trivial, trivial⟩ ?_
  refine thenQ_normal ?_
  rcases ite2_cases h with ⟨b3, h⟩ | ⟨b3, h⟩
  · refine AW.cond_t rfl b3 ?_
    refine AW.seq ?_
    refine AW.regionA [] [4] [] (s' := ⟨[(4, (.v (.one (.c (.bool false)))))], []⟩) (ob := True ∧ True) (by kernel_rfl) ⟨trivial, trivial⟩ ?_
    refine thenQ_normal ?_
    refine AW.ret ?_
    refine thenQ_ret ?_
    replace h := some_eq h
    subst h
    exact ⟨.inr rfl, retOK_of [(.one (.c (.bool false)))] (by kernel_rfl) ⟨⟨rfl, trivial⟩, trivial⟩ (of_decide_eq_true (by kernel_rfl))⟩
  · refine AW.cond_f rfl b3 ?_
    refine AW.skip ?_
    refine thenQ_normal ?_
    refine AW.seq ?_
    refine AW.seq ?_
    obtain ⟨v4, e5, h⟩ := bind_some h
    refine AW.regionA [.no, .no, .no, .no, .call [.one (sl 4 cs_Turn a0.Turns), .one (sl 4 cs_Turn a1.Turns)] [.one (.bool v4)] [[.view]]] [16] [] (s' := ⟨[(16, (.v (.one (.c (.bool (!v4))))))], []⟩) (ob := True ∧ True ∧ True ∧ True ∧ (((((sl 4 cs_Turn a0.Turns) : C) = (sl 4 cs_Turn a0.Turns)) ∧ (((sl 4 cs_Turn a1.Turns) : C) = (sl 4 cs_Turn a1.Turns)) ∧ True) ∧ CallOK Try.prog 91 [.one (sl 4 cs_Turn a0.Turns), .one (sl 4 cs_Turn a1.Turns)] [.one (.bool v4)]) ∧ True ∧ True) (by kernel_rfl) ⟨trivial, trivial, trivial, trivial, ⟨⟨rfl, rfl, trivial⟩, ok_laws_eqTurnS K a0.Turns a1.Turns v4 e5⟩, trivial, trivial⟩ ?_
    refine thenQ_normal ?_
    rcases ite2_cases h with ⟨b6, h⟩ | ⟨b6, h⟩
    · refine AW.cond_t rfl b6 ?_
      refine AW.seq ?_
      refine AW.regionA [] [4] [] (s' := ⟨[(4, (.v (.one (.c (.bool false)))))], []⟩) (ob := True ∧ True) (by kernel_rfl) ⟨trivial, trivial⟩ ?_
      refine thenQ_normal ?_
      refine AW.ret ?_
      refine thenQ_ret ?_
      replace h := some_eq h
      subst h
      exact ⟨.inr rfl, retOK_of [(.one (.c (.bool false)))] (by kernel_rfl) ⟨⟨rfl, trivial⟩, trivial⟩ (of_decide_eq_true (by kernel_rfl))⟩
    · refine AW.cond_f rfl b6 ?_
      refine AW.skip ?_
      refine thenQ_normal ?_
      refine AW.seq ?_
      refine AW.regionA [] [4] [] (s' := ⟨[(4, (.v (.one (.c (.bool true)))))], []⟩) (ob := True ∧ True) (by kernel_rfl) ⟨trivial, trivial⟩ ?_
      refine thenQ_normal ?_
      refine AW.ret ?_
      replace h := some_eq h
      subst h
      exact ⟨.inr rfl, retOK_of [(.one (.c (.bool true)))] (by kernel_rfl) ⟨⟨rfl, trivial⟩, trivial⟩ (of_decide_eq_true (by kernel_rfl))⟩

/-! laws.eqPoseS -/
def laws_eqPoseS_l1 (K : Nat) (a0 : (List Pose)) (a1 : (List Pose)) : Nat → Int → Option (Bool)
  | 0, _ => none
  | k + 1, x3 => ite2 ((decide (x3 < (a0.length : Int)))) (chk (0 ≤ x3 ∧ x3 < (a0.length : Int)) (chk (0 ≤ x3 ∧ x3 < (a1.length : Int)) ((laws_eqPose K (a0.getD x3.toNat default) (a1.getD x3.toNat default)).bind fun v7 => ite2 ((!v7)) (some false) (laws_eqPoseS_l1 K a0 a1 k (IntKind.i64.wrap (x3 + (1 : Int))))))) (some true)

def laws_eqPoseS (K : Nat) (a0 : (List Pose)) (a1 : (List Pose)) : Option (Bool) :=
  ite2 (((a0.length : Int) != (a1.length : Int))) (some false) (laws_eqPoseS_l1 K a0 a1 K (0 : Int))

theorem ok_laws_eqPoseS (K : Nat) (a0 : (List Pose)) (a1 : (List Pose)) (o : (Bool)) (h : laws_eqPoseS K a0 a1 = some o) : CallOK Try.prog 77 [.one (sl 4 cs_Pose a0), .one (sl 4 cs_Pose a1)] [.one (.bool o)] := by
  refine callOK_of_AW Try.func77 rfl (by kernel_rfl) (Nat.le_of_ble_eq_true (by kernel_rfl)) ?_
  intro w0
  unfold laws_eqPoseS at h
  refine AW.seq ?_
  refine AW.regionA [] [0, 1] [] (s' := ⟨[(0, (.v (.one (.c (sl 4 cs_Pose a0))))), (1, (.v (.one (.c (sl 4 cs_Pose a1)))))], []⟩) (ob := True ∧ True) (by kernel_rfl) ⟨trivial, trivial⟩ ?_
  refine thenQ_normal ?_
  refine AW.seq ?_
  refine AW.seq ?_
  refine AW.regionA [] [0, 1, 10] [] (s' := ⟨[(0, (.v (.one (.c (sl 4 cs_Pose a0))))), (1, (.v (.one (.c (sl 4 cs_Pose a1))))), (10, (.v (.one (.c (.bool ((a0.length : Int) != (a1.length : Int)))))))], []⟩) (ob := True ∧ True ∧ True ∧ True ∧ True ∧ True) (by kernel_rfl) ⟨trivial, trivial, trivial, trivial, trivial, trivial⟩ ?_
  refine thenQ_normal ?_
  rcases ite2_cases h with ⟨b1, h⟩ | ⟨b1, h⟩
  · refine AW.cond_t rfl b1 ?_
    refine AW.seq ?_
    refine AW.regionA [] [4] [] (s' := ⟨[(4, (.v (.one (.c (.bool false)))))], []⟩) (ob := True ∧ True) (by kernel_rfl) ⟨trivial, trivial⟩ ?_
    refine thenQ_normal ?_
    refine AW.ret ?_
    refine thenQ_ret ?_
    replace h := some_eq h
    subst h
    exact ⟨.inr rfl, retOK_of [(.one (.c (.bool false)))] (by kernel_rfl) ⟨⟨rfl, trivial⟩, trivial⟩ (of_decide_eq_true (by kernel_rfl))⟩
  · refine AW.cond_f rfl b1 ?_
    refine AW.skip ?_
    refine thenQ_normal ?_
    refine AW.seq ?_
    refine AW.seq ?_
    refine AW.regionA [] [0, 1, 5] [] (s' := ⟨[(0, (.v (.one (.c (sl 4 cs_Pose a0))))), (1, (.v (.one (.c (sl 4 cs_Pose a1))))), (5, (.v (.one (.c (.int .i64 (0 : Int))))))], []⟩) (ob := True ∧ True) (by kernel_rfl) ⟨trivial, trivial⟩ ?_
    refine thenQ_normal ?_
    refine AW.block ?_
    refine AW.loopQ (σ := Nat × Int) (fun p => ⟨[(0, (.v (.one (.c (sl 4 cs_Pose a0))))), (1, (.v (.one (.c (sl 4 cs_Pose a1))))), (5, (.v (.one (.c (.int .i64 p.2)))))], []⟩) (fun p => laws_eqPoseS_l1 K a0 a1 p.1 p.2 = some o) (fun p => p.1) (K, (0 : Int)) h ?_
    clear h
    rintro ⟨k, x3⟩ h
    replace h : laws_eqPoseS_l1 K a0 a1 k x3 = some o := h
    show AW _ _ (⟨[(0, (.v (.one (.c (sl 4 cs_Pose a0))))), (1, (.v (.one (.c (sl 4 cs_Pose a1))))), (5, (.v (.one (.c (.int .i64 x3)))))], []⟩ : St) _
    obtain _ | k := k
    · rw [laws_eqPoseS_l1] at h; cases h
    rw [laws_eqPoseS_l1] at h
    refine AW.seq ?_
    refine AW.seq ?_
    refine AW.regionA [] [0, 1, 5, 14] [] (s' := ⟨[(0, (.v (.one (.c (sl 4 cs_Pose a0))))), (1, (.v (.one (.c (sl 4 cs_Pose a1))))), (5, (.v (.one (.c (.int .i64 x3))))), (14, (.v (.one (.c (.bool (decide (x3 < (a0.length : Int))))))))], []⟩) (ob := True ∧ True ∧ True ∧ True ∧ True) (by kernel_rfl) ⟨trivial, trivial, trivial, trivial, trivial⟩ ?_
    refine thenQ_normal ?_
    rcases ite2_cases h with ⟨b4, h⟩ | ⟨b4, h⟩
    · refine AW.cond_t rfl b4 ?_
      refine AW.skip ?_
      refine thenQ_normal ?_
      refine AW.seq ?_
      refine AW.block ?_
      refine AW.seq ?_
      obtain ⟨c5, h⟩ := chk_some h
      obtain ⟨c6, h⟩ := chk_some h
      obtain ⟨v7, e8, h⟩ := bind_some h
      refine AW.drawnA (by kernel_rfl) 10 [.no, .no, .no, .no, .no, .no, .no, .no, .call [.agg (cs_Pose (a0.getD x3.toNat default)), .agg (cs_Pose (a1.getD x3.toNat default))] [.one (.bool v7)] [[.view]]] [0, 1, 5, 26] [] (s' := ⟨[(0, (.v (.one (.c (sl 4 cs_Pose a0))))), (1, (.v (.one (.c (sl 4 cs_Pose a1))))), (5, (.v (.one (.c (.int .i64 x3))))), (26, (.v (.one (.c (.bool (!v7))))))], []⟩) (ob := (True ∧ True ∧ (0 ≤ x3 ∧ x3 < (a0.length : Int)) ∧ True ∧ True ∧ True ∧ (0 ≤ x3 ∧ x3 < (a1.length : Int)) ∧ True ∧ ((((((.flt .f32 (((a0.getD x3.toNat default).Root).X).bits) : C) = (.flt .f32 (((a0.getD x3.toNat default).Root).X).bits)) ∧ (((.flt .f32 (((a0.getD x3.toNat default).Root).Y).bits) : C) = (.flt .f32 (((a0.getD x3.toNat default).Root).Y).bits)) ∧ (((.flt .f32 (((a0.getD x3.toNat default).Root).Z).bits) : C) = (.flt .f32 (((a0.getD x3.toNat default).Root).Z).bits)) ∧ (((sl 4 cs_Turn ((a0.getD x3.toNat default).Turns)) : C) = (sl 4 cs_Turn ((a0.getD x3.toNat default).Turns))) ∧ True) ∧ ((((.flt .f32 (((a1.getD x3.toNat default).Root).X).bits) : C) = (.flt .f32 (((a1.getD x3.toNat default).Root).X).bits)) ∧ (((.flt .f32 (((a1.getD x3.toNat default).Root).Y).bits) : C) = (.flt .f32 (((a1.getD x3.toNat default).Root).Y).bits)) ∧ (((.flt .f32 (((a1.getD x3.toNat default).Root).Z).bits) : C) = (.flt .f32 (((a1.getD x3.toNat default).Root).Z).bits)) ∧ (((sl 4 cs_Turn ((a1.getD x3.toNat default).Turns)) : C) = (sl 4 cs_Turn ((a1.getD x3.toNat default).Turns))) ∧ True) ∧ True) ∧ CallOK Try.prog 36 [.agg (cs_Pose (a0.getD x3.toNat default)), .agg (cs_Pose (a1.getD x3.toNat default))] [.one (.bool v7)]) ∧ True ∧ True) ∧ (True)) (by kernel_rfl) ⟨⟨trivial, trivial, c5, trivial, trivial, trivial, c6, trivial, ⟨⟨⟨rfl, rfl, rfl, rfl, trivial⟩, ⟨rfl, rfl, rfl, rfl, trivial⟩, trivial⟩, ok_laws_eqPose K (a0.getD x3.toNat default) (a1.getD x3.toNat default) v7 e8⟩, trivial, trivial⟩, trivial⟩ ?_
      refine thenQ_normal ?_
      rcases ite2_cases h with ⟨b9, h⟩ | ⟨b9, h⟩
      · refine AW.cond_t rfl b9 ?_
        refine AW.seq ?_
        refine AW.regionA [] [4] [] (s' := ⟨[(4, (.v (.one (.c (.bool false)))))], []⟩) (ob := True ∧ True) (by kernel_rfl) ⟨trivial, trivial⟩ ?_
        refine thenQ_normal ?_
        refine AW.ret ?_
        refine blockQ_ret ?_
        refine thenQ_ret ?_
        refine loopQ_ret ?_
        refine blockQ_ret ?_
        refine thenQ_ret ?_
        replace h := some_eq h
        subst h
        exact ⟨.inr rfl, retOK_of [(.one (.c (.bool false)))] (by kernel_rfl) ⟨⟨rfl, trivial⟩, trivial⟩ (of_decide_eq_true (by kernel_rfl))⟩
      · refine AW.cond_f rfl b9 ?_
        refine AW.skip ?_
        refine blockQ_normal ?_
        refine thenQ_normal ?_
        refine AW.regionA [] [0, 1, 5] [] (s' := ⟨[(0, (.v (.one (.c (sl 4 cs_Pose a0))))), (1, (.v (.one (.c (sl 4 cs_Pose a1))))), (5, (.v (.one (.c (.int .i64 (IntKind.i64.wrap (x3 + (1 : Int))))))))], []⟩) (ob := True ∧ True ∧ True ∧ True) (by kernel_rfl) ⟨trivial, trivial, trivial, trivial⟩ ?_
        exact loopQ_normal (k, (IntKind.i64.wrap (x3 + (1 : Int)))) h (Nat.lt_succ_self k) (Sub.keep [0, 1, 5] [] (by kernel_rfl) (by kernel_rfl))
    · refine AW.cond_f rfl b4 ?_
      refine AW.exit ?_
      refine thenQ_exit ?_
      refine loopQ_exit ?_
      refine blockQ_exit ?_
      refine thenQ_normal ?_
      refine AW.seq ?_
      refine AW.regionA [] [4] [] (s' := ⟨[(4, (.v (.one (.c (.bool true)))))], []⟩) (ob := True ∧ True) (by kernel_rfl) ⟨trivial, trivial⟩ ?_
      refine thenQ_normal ?_
      refine AW.ret ?_
      replace h := some_eq h
      subst h
      exact ⟨.inr rfl, retOK_of [(.one (.c (.bool true)))] (by kernel_rfl) ⟨⟨rfl, trivial⟩, trivial⟩ (of_decide_eq_true (by kernel_rfl))⟩

/-! laws.eqRecording -/
def laws_eqRecording (K : Nat) (a0 : Recording) (a1 : Recording) : Option (Bool) :=
  ite2 ((a0.Bones != a1.Bones)) (some false) ((laws_eqPoseS K a0.Frames a1.Frames).bind fun v2 => ite2 ((!v2)) (some false) (some true))

theorem ok_laws_eqRecording (K : Nat) (a0 : Recording) (a1 : Recording) (o : (Bool)) (h : laws_eqRecording K a0 a1 = some o) : CallOK Try.prog 25 [.agg (cs_Recording a0), .agg (cs_Recording a1)] [.one (.bool o)] := by
  refine callOK_of_AW Try.func25 rfl (by kernel_rfl) (Nat.le_of_ble_eq_true (by kernel_rfl)) ?_
  intro w0
  unfold laws_eqRecording at h
  refine AW.seq ?_
  refine AW.regionA [.box 1, .box 2] [2, 3] [1, 2] (s' := ⟨[(2, (.v (.one (.ptr 1 0)))), (3, (.v (.one (.ptr 2 0))))], [(1, (.box [(.c (.int .i64 a0.Bones)), (.c (sl 4 cs_Pose a0.Frames))])), (2, (.box [(.c (.int .i64 a1.Bones)), (.c (sl 4 cs_Pose a1.Frames))]))]⟩) (ob := True ∧ True ∧ True ∧ True) (by kernel_rfl) ⟨trivial, trivial, trivial, trivial⟩ ?_
  refine thenQ_normal ?_
  refine AW.seq ?_
  refine AW.seq ?_
  refine AW.regionA [] [2, 3, 9] [1, 2] (s' := ⟨[(2, (.v (.one (.ptr 1 0)))), (3, (.v (.one (.ptr 2 0)))), (9, (.v (.one (.c (.bool (a0.Bones != a1.Bones))))))], [(1, (.box [(.c (.int .i64 a0.Bones)), (.c (sl 4 cs_Pose a0.Frames))])), (2, (.box [(.c (.int .i64 a1.Bones)), (.c (sl 4 cs_Pose a1.Frames))]))]⟩) (ob := True ∧ True ∧ True ∧ True ∧ True ∧ True) (by kernel_rfl) ⟨trivial, trivial, trivial, trivial, trivial, trivial⟩ ?_
  refine thenQ_normal ?_
  rcases ite2_cases h with ⟨b1, h⟩ | ⟨b1, h⟩
  · refine AW.cond_t rfl b1 ?_
    refine AW.seq ?_
    refine AW.regionA [] [4] [] (s' := ⟨[(4, (.v (.one (.c (.bool false)))))], []⟩) (ob := True ∧ True) (by kernel_rfl) ⟨trivial, trivial⟩ ?_
    refine thenQ_normal ?_
    refine AW.ret ?_
    refine thenQ_ret ?_
    replace h := some_eq h
    subst h
    exact ⟨.inr rfl, retOK_of [(.one (.c (.bool false)))] (by kernel_rfl) ⟨⟨rfl, trivial⟩, trivial⟩ (of_decide_eq_true (by kernel_rfl))⟩
  · refine AW.cond_f rfl b1 ?_
    refine AW.skip ?_
    refine thenQ_normal ?_
    refine AW.seq ?_
    refine AW.seq ?_
    obtain ⟨v2, e3, h⟩ := bind_some h
    refine AW.regionA [.no, .no, .no, .no, .call [.one (sl 4 cs_Pose a0.Frames), .one (sl 4 cs_Pose a1.Frames)] [.one (.bool v2)] [[.view]]] [15] [] (s' := ⟨[(15, (.v (.one (.c (.bool (!v2))))))], []⟩) (ob := True ∧ True ∧ True ∧ True ∧ (((((sl 4 cs_Pose a0.Frames) : C) = (sl 4 cs_Pose a0.Frames)) ∧ (((sl 4 cs_Pose a1.Frames) : C) = (sl 4 cs_Pose a1.Frames)) ∧ True) ∧ CallOK Try.prog 77 [.one (sl 4 cs_Pose a0.Frames), .one (sl 4 cs_Pose a1.Frames)] [.one (.bool v2)]) ∧ True ∧ True) (by kernel_rfl) ⟨trivial, trivial, trivial, trivial, ⟨⟨rfl, rfl, trivial⟩, ok_laws_eqPoseS K a0.Frames a1.Frames v2 e3⟩, trivial, trivial⟩ ?_
    refine thenQ_normal ?_
    rcases ite2_cases h with ⟨b4, h⟩ | ⟨b4, h⟩
    · refine AW.cond_t rfl b4 ?_
      refine AW.seq ?_
      refine AW.regionA [] [4] [] (s' := ⟨[(4, (.v (.one (.c (.bool false)))))], []⟩) (ob := True ∧ True) (by kernel_rfl) ⟨trivial, trivial⟩ ?_
      refine thenQ_normal ?_
      refine AW.ret ?_
      refine thenQ_ret ?_
      replace h := some_eq h
      subst h
      exact ⟨.inr rfl, retOK_of [(.one (.c (.bool false)))] (by kernel_rfl) ⟨⟨rfl, trivial⟩, trivial⟩ (of_decide_eq_true (by kernel_rfl))⟩
    · refine AW.cond_f rfl b4 ?_
      refine AW.skip ?_
      refine thenQ_normal ?_
      refine AW.seq ?_
      refine AW.regionA [] [4] [] (s' := ⟨[(4, (.v (.one (.c (.bool true)))))], []⟩) (ob := True ∧ True) (by kernel_rfl) ⟨trivial, trivial⟩ ?_
      refine thenQ_normal ?_
      refine AW.ret ?_
      replace h := some_eq h
      subst h
      exact ⟨.inr rfl, retOK_of [(.one (.c (.bool true)))] (by kernel_rfl) ⟨⟨rfl, trivial⟩, trivial⟩ (of_decide_eq_true (by kernel_rfl))⟩

/-! laws.markTurnS -/
def laws_markTurnS_l1 (K : Nat) (a0 : (List Turn)) : Nat → Int → Int → (List Turn) → Option (Int × (List Turn))
  | 0, _, _, _ => none
  | k + 1, x4, x5, x6 => ite2 ((decide (x5 < (x6.length : Int)))) (chk (0 ≤ x5 ∧ x5 < (x6.length : Int)) ((some (x6.set x5.toNat (Turn.mk (Fl.ofInt .f32 x4) ((x6.getD x5.toNat default).X) ((x6.getD x5.toNat default).Y) ((x6.getD x5.toNat default).Z)))).bind fun y9 => chk (0 ≤ x5 ∧ x5 < (y9.length : Int)) ((some (y9.set x5.toNat (Turn.mk ((y9.getD x5.toNat default).W) (Fl.ofInt .f32 (IntKind.i64.wrap (x4 + (1 : Int)))) ((y9.getD x5.toNat default).Y) ((y9.getD x5.toNat default).Z)))).bind fun y12 => chk (0 ≤ x5 ∧ x5 < (y12.length : Int)) ((some (y12.set x5.toNat (Turn.mk ((y12.getD x5.toNat default).W) ((y12.getD x5.toNat default).X) (Fl.ofInt .f32 (IntKind.i64.wrap ((IntKind.i64.wrap (x4 + (1 : Int))) + (1 : Int)))) ((y12.getD x5.toNat default).Z)))).bind fun y15 => chk (0 ≤ x5 ∧ x5 < (y15.length : Int)) ((some (y15.set x5.toNat (Turn.mk ((y15.getD x5.toNat default).W) ((y15.getD x5.toNat default).X) ((y15.getD x5.toNat default).Y) (Fl.ofInt .f32 (IntKind.i64.wrap ((IntKind.i64.wrap ((IntKind.i64.wrap (x4 + (1 : Int))) + (1 : Int))) + (1 : Int))))))).bind fun y18 => laws_markTurnS_l1 K a0 k (IntKind.i64.wrap ((IntKind.i64.wrap ((IntKind.i64.wrap ((IntKind.i64.wrap (x4 + (1 : Int))) + (1 : Int))) + (1 : Int))) + (1 : Int))) (IntKind.i64.wrap (x5 + (1 : Int))) y18))))) (chk (x6.length = a0.length) (some (x4, x6)))

def laws_markTurnS (K : Nat) (a0 : (List Turn)) (a1 : Int) : Option (Int × (List Turn)) :=
  laws_markTurnS_l1 K a0 K a1 (0 : Int) a0

theorem ok_laws_markTurnS (K : Nat) (a0 : (List Turn)) (a1 : Int) (o : (Int × (List Turn))) (h : laws_markTurnS K a0 a1 = some o) : MutOK Try.prog 92 [(.one (.mu (sl 4 cs_Turn a0) (sl 4 cs_Turn o.2))), (.one (.ro (.int .i64 a1)))] [.one (.int .i64 o.1)] := by
  refine mutOK_of_AW 1 Try.func92 rfl (by kernel_rfl) (Nat.le_of_ble_eq_true (by kernel_rfl)) (by kernel_rfl) (by kernel_rfl) ?_
  intro w0 K0 v0 s0
  unfold laws_markTurnS at h
  refine AW.seq ?_
  refine AW.regionA [] [0, 1] [0] (s' := ⟨[(0, (.v (.one (.arr 0)))), (1, (.v (.one (.c (.int .i64 a1)))))], [(0, (.arr true a0.length 4 (gl cs_Turn a0)))]⟩) (ob := True ∧ True) (by kernel_rfl) ⟨trivial, trivial⟩ ?_
  refine thenQ_normal ?_
  refine AW.seq ?_
  refine AW.seq ?_
  refine AW.regionA [] [0, 1, 5] [0] (s' := ⟨[(0, (.v (.one (.arr 0)))), (1, (.v (.one (.c (.int .i64 a1))))), (5, (.v (.one (.c (.int .i64 (0 : Int))))))], [(0, (.arr true a0.length 4 (gl cs_Turn a0)))]⟩) (ob := True ∧ True) (by kernel_rfl) ⟨trivial, trivial⟩ ?_
  refine thenQ_normal ?_
  refine AW.block ?_
  refine AW.loopQ (σ := Nat × Int × Int × (List Turn)) (fun p => ⟨[(0, (.v (.one (.arr 0)))), (1, (.v (.one (.c (.int .i64 p.2.1))))), (5, (.v (.one (.c (.int .i64 p.2.2.1)))))], [(0, (.arr true p.2.2.2.length 4 (gl cs_Turn p.2.2.2)))]⟩) (fun p => laws_markTurnS_l1 K a0 p.1 p.2.1 p.2.2.1 p.2.2.2 = some o) (fun p => p.1) (K, a1, (0 : Int), a0) h ?_
  clear h
  rintro ⟨k, x4, x5, x6⟩ h
  replace h : laws_markTurnS_l1 K a0 k x4 x5 x6 = some o := h
  show AW _ _ (⟨[(0, (.v (.one (.arr 0)))), (1, (.v (.one (.c (.int .i64 x4))))), (5, (.v (.one (.c (.int .i64 x5)))))], [(0, (.arr true x6.length 4 (gl cs_Turn x6)))]⟩ : St) _
  obtain _ | k := k
  · rw [laws_markTurnS_l1] at h; cases h
  rw [laws_markTurnS_l1] at h
  refine AW.seq ?_
  refine AW.seq ?_
  refine AW.regionA [] [0, 1, 5, 9] [0] (s' := ⟨[(0, (.v (.one (.arr 0)))), (1, (.v (.one (.c (.int .i64 x4))))), (5, (.v (.one (.c (.int .i64 x5))))), (9, (.v (.one (.c (.bool (decide (x5 < (x6.length : Int))))))))], [(0, (.arr true x6.length 4 (gl cs_Turn x6)))]⟩) (ob := True ∧ True ∧ True ∧ True ∧ True) (by kernel_rfl) ⟨trivial, trivial, trivial, trivial, trivial⟩ ?_
  refine thenQ_normal ?_
  rcases ite2_cases h with ⟨b7, h⟩ | ⟨b7, h⟩
  · refine AW.cond_t rfl b7 ?_
    refine AW.skip ?_
    refine thenQ_normal ?_
    refine AW.seq ?_
    refine AW.block ?_
    refine AW.seq ?_
    obtain ⟨c8, h⟩ := chk_some h
    obtain ⟨y9, e10, h⟩ := bind_some h
    refine AW.regionA [.no, .no, .no, .no, .no, .no, .set y9.length (gl cs_Turn y9) ((List.range 1).map fun j => (cs_Turn (Turn.mk (Fl.ofInt .f32 x4) ((x6.getD x5.toNat default).X) ((x6.getD x5.toNat default).Y) ((x6.getD x5.toNat default).Z))).getD (0 + j) .nilptr)] [0, 1, 5] [0] (s' := ⟨[(0, (.v (.one (.arr 0)))), (1, (.v (.one (.c (.int .i64 x4))))), (5, (.v (.one (.c (.int .i64 x5)))))], [(0, (.arr true y9.length 4 (gl cs_Turn y9)))]⟩) (ob := True ∧ True ∧ True ∧ True ∧ (0 ≤ x5 ∧ x5 < (x6.length : Int)) ∧ True ∧ (y9.length = x6.length ∧ SetOb x6.length 4 x5.toNat 0 1 (gl cs_Turn x6) (gl cs_Turn y9) ∧ ((List.range 1).map fun j => (cs_Turn (Turn.mk (Fl.ofInt .f32 x4) ((x6.getD x5.toNat default).X) ((x6.getD x5.toNat default).Y) ((x6.getD x5.toNat default).Z))).getD (0 + j) .nilptr) = ((List.range 1).map fun j => gl cs_Turn y9 x5.toNat (0 + j)) ∧ ((((.flt .f32 (Fl.ofInt .f32 x4).bits) : C) = (.flt .f32 (Fl.ofInt .f32 x4).bits) ∧ True) ∧ True) ∧ (true = true → ∀ j, j < 1 → isSeq (gl cs_Turn x6 x5.toNat (0 + j)) = false ∧ isSeq (gl cs_Turn y9 x5.toNat (0 + j)) = false)) ∧ True) (by kernel_rfl) ⟨trivial, trivial, trivial, trivial, c8, trivial, (letP (some_eq e10) (fun z => (z.length = x6.length ∧ SetOb x6.length 4 x5.toNat 0 1 (gl cs_Turn x6) (gl cs_Turn z) ∧ ((List.range 1).map fun j => (cs_Turn (Turn.mk (Fl.ofInt .f32 x4) ((x6.getD x5.toNat default).X) ((x6.getD x5.toNat default).Y) ((x6.getD x5.toNat default).Z))).getD (0 + j) .nilptr) = ((List.range 1).map fun j => gl cs_Turn z x5.toNat (0 + j)) ∧ ((((.flt .f32 (Fl.ofInt .f32 x4).bits) : C) = (.flt .f32 (Fl.ofInt .f32 x4).bits) ∧ True) ∧ True) ∧ (true = true → ∀ j, j < 1 → isSeq (gl cs_Turn x6 x5.toNat (0 + j)) = false ∧ isSeq (gl cs_Turn z x5.toNat (0 + j)) = false))) ⟨List.length_set, gl_setp (fun j hj hn => match j, hj, hn with | 0, _, hn => absurd ⟨by decide, by decide⟩ hn | 1, _, _ => rfl | 2, _, _ => rfl | 3, _, _ => rfl) (lt_of_bound c8), (gl_atp (lt_of_bound c8)).symm, ⟨⟨rfl, trivial⟩, trivial⟩, (fun _ j hj => match j, hj with | 0, _ => ⟨rfl, rfl⟩)⟩), trivial⟩ ?_
    refine thenQ_normal ?_
    refine AW.seq ?_
    refine AW.regionA [] [0, 1, 5] [0] (s' := ⟨[(0, (.v (.one (.arr 0)))), (1, (.v (.one (.c (.int .i64 (IntKind.i64.wrap (x4 + (1 : Int)))))))), (5, (.v (.one (.c (.int .i64 x5)))))], [(0, (.arr true y9.length 4 (gl cs_Turn y9)))]⟩) (ob := True ∧ True ∧ True ∧ True) (by kernel_rfl) ⟨trivial, trivial, trivial, trivial⟩ ?_
    refine thenQ_normal ?_
    refine AW.seq ?_
    obtain ⟨c11, h⟩ := chk_some h
    obtain ⟨y12, e13, h⟩ := bind_some h
    refine AW.regionA [.no, .no, .no, .no, .no, .no, .set y12.length (gl cs_Turn y12) ((List.range 1).map fun j => (cs_Turn (Turn.mk ((y9.getD x5.toNat default).W) (Fl.ofInt .f32 (IntKind.i64.wrap (x4 + (1 : Int)))) ((y9.getD x5.toNat default).Y) ((y9.getD x5.toNat default).Z))).getD (1 + j) .nilptr)] [0, 1, 5] [0] (s' := ⟨[(0, (.v (.one (.arr 0)))), (1, (.v (.one (.c (.int .i64 (IntKind.i64.wrap (x4 + (1 : Int)))))))), (5, (.v (.one (.c (.int .i64 x5)))))], [(0, (.arr true y12.length 4 (gl cs_Turn y12)))]⟩) (ob := True ∧ True ∧ True ∧ True ∧ (0 ≤ x5 ∧ x5 < (y9.length : Int)) ∧ True ∧ (y12.length = y9.length ∧ SetOb y9.length 4 x5.toNat 1 1 (gl cs_Turn y9) (gl cs_Turn y12) ∧ ((List.range 1).map fun j => (cs_Turn (Turn.mk ((y9.getD x5.toNat default).W) (Fl.ofInt .f32 (IntKind.i64.wrap (x4 + (1 : Int)))) ((y9.getD x5.toNat default).Y) ((y9.getD x5.toNat default).Z))).getD (1 + j) .nilptr) = ((List.range 1).map fun j => gl cs_Turn y12 x5.toNat (1 + j)) ∧ ((((.flt .f32 (Fl.ofInt .f32 (IntKind.i64.wrap (x4 + (1 : Int)))).bits) : C) = (.flt .f32 (Fl.ofInt .f32 (IntKind.i64.wrap (x4 + (1 : Int)))).bits) ∧ True) ∧ True) ∧ (true = true → ∀ j, j < 1 → isSeq (gl cs_Turn y9 x5.toNat (1 + j)) = false ∧ isSeq (gl cs_Turn y12 x5.toNat (1 + j)) = false)) ∧ True) (by kernel_rfl) ⟨trivial, trivial, trivial, trivial, c11, trivial, (letP (some_eq e13) (fun z => (z.length = y9.length ∧ SetOb y9.length 4 x5.toNat 1 1 (gl cs_Turn y9) (gl cs_Turn z) ∧ ((List.range 1).map fun j => (cs_Turn (Turn.mk ((y9.getD x5.toNat default).W) (Fl.ofInt .f32 (IntKind.i64.wrap (x4 + (1 : Int)))) ((y9.getD x5.toNat default).Y) ((y9.getD x5.toNat default).Z))).getD (1 + j) .nilptr) = ((List.range 1).map fun j => gl cs_Turn z x5.toNat (1 + j)) ∧ ((((.flt .f32 (Fl.ofInt .f32 (IntKind.i64.wrap (x4 + (1 : Int)))).bits) : C) = (.flt .f32 (Fl.ofInt .f32 (IntKind.i64.wrap (x4 + (1 : Int)))).bits) ∧ True) ∧ True) ∧ (true = true → ∀ j, j < 1 → isSeq (gl cs_Turn y9 x5.toNat (1 + j)) = false ∧ isSeq (gl cs_Turn z x5.toNat (1 + j)) = false))) ⟨List.length_set, gl_setp (fun j hj hn => match j, hj, hn with | 0, _, _ => rfl | 1, _, hn => absurd ⟨by decide, by decide⟩ hn | 2, _, _ => rfl | 3, _, _ => rfl) (lt_of_bound c11), (gl_atp (lt_of_bound c11)).symm, ⟨⟨rfl, trivial⟩, trivial⟩, (fun _ j hj => match j, hj with | 0, _ => ⟨rfl, rfl⟩)⟩), trivial⟩ ?_
    refine thenQ_normal ?_
    refine AW.seq ?_
    refine AW.regionA [] [0, 1, 5] [0] (s' := ⟨[(0, (.v (.one (.arr 0)))), (1, (.v (.one (.c (.int .i64 (IntKind.i64.wrap ((IntKind.i64.wrap (x4 + (1 : Int))) + (1 : Int)))))))), (5, (.v (.one (.c (.int .i64 x5)))))], [(0, (.arr true y12.length 4 (gl cs_Turn y12)))]⟩) (ob := True ∧ True ∧ True ∧ True) (by kernel_rfl) ⟨trivial, trivial, trivial, trivial⟩ ?_
    refine thenQ_normal ?_
    refine AW.seq ?_
    obtain ⟨c14, h⟩ := chk_some h
    obtain ⟨y15, e16, h⟩ := bind_some h
    refine AW.regionA [.no, .no, .no, .no, .no, .no, .set y15.length (gl cs_Turn y15) ((List.range 1).map fun j => (cs_Turn (Turn.mk ((y12.getD x5.toNat default).W) ((y12.getD x5.toNat default).X) (Fl.ofInt .f32 (IntKind.i64.wrap ((IntKind.i64.wrap (x4 + (1 : Int))) + (1 : Int)))) ((y12.getD x5.toNat default).Z))).getD (2 + j) .nilptr)] [0, 1, 5] [0] (s' := ⟨[(0, (.v (.one (.arr 0)))), (1, (.v (.one (.c (.int .i64 (IntKind.i64.wrap ((IntKind.i64.wrap (x4 + (1 : Int))) + (1 : Int)))))))), (5, (.v (.one (.c (.int .i64 x5)))))], [(0, (.arr true y15.length 4 (gl cs_Turn y15)))]⟩) (ob := True ∧ True ∧ True ∧ True ∧ (0 ≤ x5 ∧ x5 < (y12.length : Int)) ∧ True ∧ (y15.length = y12.length ∧ SetOb y12.length 4 x5.toNat 2 1 (gl cs_Turn y12) (gl cs_Turn y15) ∧ ((List.range 1).map fun j => (cs_Turn (Turn.mk ((y12.getD x5.toNat default).W) ((y12.getD x5.toNat default).X) (Fl.ofInt .f32 (IntKind.i64.wrap ((IntKind.i64.wrap (x4 + (1 : Int))) + (1 : Int)))) ((y12.getD x5.toNat default).Z))).getD (2 + j) .nilptr) = ((List.range 1).map fun j => gl cs_Turn y15 x5.toNat (2 + j)) ∧ ((((.flt .f32 (Fl.ofInt .f32 (IntKind.i64.wrap ((IntKind.i64.wrap (x4 + (1 : Int))) + (1 : Int)))).bits) : C) = (.flt .f32 (Fl.ofInt .f32 (IntKind.i64.wrap ((IntKind.i64.wrap (x4 + (1 : Int))) + (1 : Int)))).bits) ∧ True) ∧ True) ∧ (true = true → ∀ j, j < 1 → isSeq (gl cs_Turn y12 x5.toNat (2 + j)) = false ∧ isSeq (gl cs_Turn y15 x5.toNat (2 + j)) = false)) ∧ True) (by kernel_rfl) ⟨trivial, trivial, trivial, trivial, c14, trivial, (letP (some_eq e16) (fun z => (z.length = y12.length ∧ SetOb y12.length 4 x5.toNat 2 1 (gl cs_Turn y12) (gl cs_Turn z) ∧ ((List.range 1).map fun j => (cs_Turn (Turn.mk ((y12.getD x5.toNat default).W) ((y12.getD x5.toNat default).X) (Fl.ofInt .f32 (IntKind.i64.wrap ((IntKind.i64.wrap (x4 + (1 : Int))) + (1 : Int)))) ((y12.getD x5.toNat default).Z))).getD (2 + j) .nilptr) = ((List.range 1).map fun j => gl cs_Turn z x5.toNat (2 + j)) ∧ ((((.flt .f32 (Fl.ofInt .f32 (IntKind.i64.wrap ((IntKind.i64.wrap (x4 + (1 : Int))) + (1 : Int)))).bits) : C) = (.flt .f32 (Fl.ofInt .f32 (IntKind.i64.wrap ((IntKind.i64.wrap (x4 + (1 : Int))) + (1 : Int)))).bits) ∧ True) ∧ True) ∧ (true = true → ∀ j, j < 1 → isSeq (gl cs_Turn y12 x5.toNat (2 + j)) = false ∧ isSeq (gl cs_Turn z x5.toNat (2 + j)) = false))) ⟨List.length_set, gl_setp (fun j hj hn => match j, hj, hn with | 0, _, _ => rfl | 1, _, _ => rfl | 2, _, hn => absurd ⟨by decide, by decide⟩ hn | 3, _, _ => rfl) (lt_of_bound c14), (gl_atp (lt_of_bound c14)).symm, ⟨⟨rfl, trivial⟩, trivial⟩, (fun _ j hj => match j, hj with | 0, _ => ⟨rfl, rfl⟩)⟩), trivial⟩ ?_
    refine thenQ_normal ?_
    refine AW.seq ?_
    refine AW.regionA [] [0, 1, 5] [0] (s' := ⟨[(0, (.v (.one (.arr 0)))), (1, (.v (.one (.c (.int .i64 (IntKind.i64.wrap ((IntKind.i64.wrap ((IntKind.i64.wrap (x4 + (1 : Int))) + (1 : Int))) + (1 : Int)))))))), (5, (.v (.one (.c (.int .i64 x5)))))], [(0, (.arr true y15.length 4 (gl cs_Turn y15)))]⟩) (ob := True ∧ True ∧ True ∧ True) (by kernel_rfl) ⟨trivial, trivial, trivial, trivial⟩ ?_
    refine thenQ_normal ?_
    refine AW.seq ?_
    obtain ⟨c17, h⟩ := chk_some h
    obtain ⟨y18, e19, h⟩ := bind_some h
    refine AW.regionA [.no, .no, .no, .no, .no, .no, .set y18.length (gl cs_Turn y18) ((List.range 1).map fun j => (cs_Turn (Turn.mk ((y15.getD x5.toNat default).W) ((y15.getD x5.toNat default).X) ((y15.getD x5.toNat default).Y) (Fl.ofInt .f32 (IntKind.i64.wrap ((IntKind.i64.wrap ((IntKind.i64.wrap (x4 + (1 : Int))) + (1 : Int))) + (1 : Int)))))).getD (3 + j) .nilptr)] [0, 1, 5] [0] (s' := ⟨[(0, (.v (.one (.arr 0)))), (1, (.v (.one (.c (.int .i64 (IntKind.i64.wrap ((IntKind.i64.wrap ((IntKind.i64.wrap (x4 + (1 : Int))) + (1 : Int))) + (1 : Int)))))))), (5, (.v (.one (.c (.int .i64 x5)))))], [(0, (.arr true y18.length 4 (gl cs_Turn y18)))]⟩) (ob := True ∧ True ∧ True ∧ True ∧ (0 ≤ x5 ∧ x5 < (y15.length : Int)) ∧ True ∧ (y18.length = y15.length ∧ SetOb y15.length 4 x5.toNat 3 1 (gl cs_Turn y15) (gl cs_Turn y18) ∧ ((List.range 1).map fun j => (cs_Turn (Turn.mk ((y15.getD x5.toNat default).W) ((y15.getD x5.toNat default).X) ((y15.getD x5.toNat default).Y) (Fl.ofInt .f32 (IntKind.i64.wrap ((IntKind.i64.wrap ((IntKind.i64.wrap (x4 + (1 : Int))) + (1 : Int))) + (1 : Int)))))).getD (3 + j) .nilptr) = ((List.range 1).map fun j => gl cs_Turn y18 x5.toNat (3 + j)) ∧ ((((.flt .f32 (Fl.ofInt .f32 (IntKind.i64.wrap ((IntKind.i64.wrap ((IntKind.i64.wrap (x4 + (1 : Int))) + (1 : Int))) + (1 : Int)))).bits) : C) = (.flt .f32 (Fl.ofInt .f32 (IntKind.i64.wrap ((IntKind.i64.wrap ((IntKind.i64.wrap (x4 + (1 : Int))) + (1 : Int))) + (1 : Int)))).bits) ∧ True) ∧ True) ∧ (true = true → ∀ j, j < 1 → isSeq (gl cs_Turn y15 x5.toNat (3 + j)) = false ∧ isSeq (gl cs_Turn y18 x5.toNat (3 + j)) = false)) ∧ True) (by kernel_rfl) ⟨trivial, trivial, trivial, trivial, c17, trivial, (letP (some_eq e19) (fun z => (z.length = y15.length ∧ SetOb y15.length 4 x5.toNat 3 1 (gl cs_Turn y15) (gl cs_Turn z) ∧ ((List.range 1).map fun j => (cs_Turn (Turn.mk ((y15.getD x5.toNat default).W) ((y15.getD x5.toNat default).X) ((y15.getD x5.toNat default).Y) (Fl.ofInt .f32 (IntKind.i64.wrap ((IntKind.i64.wrap ((IntKind.i64.wrap (x4 + (1 : Int))) + (1 : Int))) + (1 : Int)))))).getD (3 + j) .nilptr) = ((List.range 1).map fun j => gl cs_Turn z x5.toNat (3 + j)) ∧ ((((.flt .f32 (Fl.ofInt .f32 (IntKind.i64.wrap ((IntKind.i64.wrap ((IntKind.i64.wrap (x4 + (1 : Int))) + (1 : Int))) + (1 : Int)))).bits) : C) = (.flt .f32 (Fl.ofInt .f32 (IntKind.i64.wrap ((IntKind.i64.wrap ((IntKind.i64.wrap (x4 + (1 : Int))) + (1 : Int))) + (1 : Int)))).bits) ∧ True) ∧ True) ∧ (true = true → ∀ j, j < 1 → isSeq (gl cs_Turn y15 x5.toNat (3 + j)) = false ∧ isSeq (gl cs_Turn z x5.toNat (3 + j)) = false))) ⟨List.length_set, gl_setp (fun j hj hn => match j, hj, hn with | 0, _, _ => rfl | 1, _, _ => rfl | 2, _, _ => rfl | 3, _, hn => absurd ⟨by decide, by decide⟩ hn) (lt_of_bound c17), (gl_atp (lt_of_bound c17)).symm, ⟨⟨rfl, trivial⟩, trivial⟩, (fun _ j hj => match j, hj with | 0, _ => ⟨rfl, rfl⟩)⟩), trivial⟩ ?_
    refine thenQ_normal ?_
    refine AW.regionA [] [0, 1, 5] [0] (s' := ⟨[(0, (.v (.one (.arr 0)))), (1, (.v (.one (.c (.int .i64 (IntKind.i64.wrap ((IntKind.i64.wrap ((IntKind.i64.wrap ((IntKind.i64.wrap (x4 + (1 : Int))) + (1 : Int))) + (1 : Int))) + (1 : Int)))))))), (5, (.v (.one (.c (.int .i64 x5)))))], [(0, (.arr true y18.length 4 (gl cs_Turn y18)))]⟩) (ob := True ∧ True ∧ True ∧ True) (by kernel_rfl) ⟨trivial, trivial, trivial, trivial⟩ ?_
    refine blockQ_normal ?_
    refine thenQ_normal ?_
    refine AW.regionA [] [0, 1, 5] [0] (s' := ⟨[(0, (.v (.one (.arr 0)))), (1, (.v (.one (.c (.int .i64 (IntKind.i64.wrap ((IntKind.i64.wrap ((IntKind.i64.wrap ((IntKind.i64.wrap (x4 + (1 : Int))) + (1 : Int))) + (1 : Int))) + (1 : Int)))))))), (5, (.v (.one (.c (.int .i64 (IntKind.i64.wrap (x5 + (1 : Int))))))))], [(0, (.arr true y18.length 4 (gl cs_Turn y18)))]⟩) (ob := True ∧ True ∧ True ∧ True) (by kernel_rfl) ⟨trivial, trivial, trivial, trivial⟩ ?_
    exact loopQ_normal (k, (IntKind.i64.wrap ((IntKind.i64.wrap ((IntKind.i64.wrap ((IntKind.i64.wrap (x4 + (1 : Int))) + (1 : Int))) + (1 : Int))) + (1 : Int))), (IntKind.i64.wrap (x5 + (1 : Int))), y18) h (Nat.lt_succ_self k) (Sub.keep [0, 1, 5] [0] (by kernel_rfl) (by kernel_rfl))
  · refine AW.cond_f rfl b7 ?_
    refine AW.exit ?_
    refine thenQ_exit ?_
    refine loopQ_exit ?_
    refine blockQ_exit ?_
    refine thenQ_normal ?_
    refine AW.seq ?_
    refine AW.regionA [] [0, 1, 4] [0] (s' := ⟨[(0, (.v (.one (.arr 0)))), (1, (.v (.one (.c (.int .i64 x4))))), (4, (.v (.one (.c (.int .i64 x4)))))], [(0, (.arr true x6.length 4 (gl cs_Turn x6)))]⟩) (ob := True ∧ True ∧ True) (by kernel_rfl) ⟨trivial, trivial, trivial⟩ ?_
    refine thenQ_normal ?_
    refine AW.ret ?_
    obtain ⟨c20, h⟩ := chk_some h
    replace h := some_eq h
    subst h
    exact ⟨.inr rfl, retOK_of [(.one (.c (.int .i64 x4)))] (by kernel_rfl) ⟨⟨rfl, trivial⟩, trivial⟩ (of_decide_eq_true (by kernel_rfl)), by kernel_rfl, ⟨⟨c20, rfl, rfl⟩, trivial, trivial⟩⟩

/-! laws.markPoseS -/
def laws_markPoseS_l1 (K : Nat) (a0 : (List Pose)) : Nat → Int → Int → (List Pose) → Option (Int × (List Pose))
  | 0, _, _, _ => none
  | k + 1, x4, x5, x6 => ite2 ((decide (x5 < (x6.length : Int)))) (chk (0 ≤ x5 ∧ x5 < (x6.length : Int)) ((some (x6.set x5.toNat (Pose.mk (Vector.mk (Fl.ofInt .f32 x4) (((x6.getD x5.toNat default).Root).Y) (((x6.getD x5.toNat default).Root).Z)) ((x6.getD x5.toNat default).Turns)))).bind fun y9 => chk (0 ≤ x5 ∧ x5 < (y9.length : Int)) ((some (y9.set x5.toNat (Pose.mk (Vector.mk (((y9.getD x5.toNat default).Root).X) (Fl.ofInt .f32 (IntKind.i64.wrap (x4 + (1 : Int)))) (((y9.getD x5.toNat default).Root).Z)) ((y9.getD x5.toNat default).Turns)))).bind fun y12 => chk (0 ≤ x5 ∧ x5 < (y12.length : Int)) ((some (y12.set x5.toNat (Pose.mk (Vector.mk (((y12.getD x5.toNat default).Root).X) (((y12.getD x5.toNat default).Root).Y) (Fl.ofInt .f32 (IntKind.i64.wrap ((IntKind.i64.wrap (x4 + (1 : Int))) + (1 : Int))))) ((y12.getD x5.toNat default).Turns)))).bind fun y15 => chk (0 ≤ x5 ∧ x5 < (y15.length : Int)) ((laws_markTurnS K ((y15.getD x5.toNat default).Turns) (IntKind.i64.wrap ((IntKind.i64.wrap ((IntKind.i64.wrap (x4 + (1 : Int))) + (1 : Int))) + (1 : Int)))).bind fun v18 => laws_markPoseS_l1 K a0 k v18.1 (IntKind.i64.wrap (x5 + (1 : Int))) (y15.set x5.toNat (Pose.mk ((y15.getD x5.toNat default).Root) v18.2))))))) (chk (x6.length = a0.length) (some (x4, x6)))

def laws_markPoseS (K : Nat) (a0 : (List Pose)) (a1 : Int) : Option (Int × (List Pose)) :=
  laws_markPoseS_l1 K a0 K a1 (0 : Int) a0

theorem ok_laws_markPoseS (K : Nat) (a0 : (List Pose)) (a1 : Int) (o : (Int × (List Pose))) (h : laws_markPoseS K a0 a1 = some o) : MutOK Try.prog 78 [(.one (.mu (sl 4 cs_Pose a0) (sl 4 cs_Pose o.2))), (.one (.ro (.int .i64 a1)))] [.one (.int .i64 o.1)] := by
  refine mutOK_of_AW 1 Try.func78 rfl (by kernel_rfl) (Nat.le_of_ble_eq_true (by kernel_rfl)) (by kernel_rfl) (by kernel_rfl) ?_
  intro w0 K0 v0 s0
  unfold laws_markPoseS at h
  refine AW.seq ?_
  refine AW.regionA [] [0, 1] [0] (s' := ⟨[(0, (.v (.one (.arr 0)))), (1, (.v (.one (.c (.int .i64 a1)))))], [(0, (.arr true a0.length 4 (gl cs_Pose a0)))]⟩) (ob := True ∧ True) (by kernel_rfl) ⟨trivial, trivial⟩ ?_
  refine thenQ_normal ?_
  refine AW.seq ?_
  refine AW.seq ?_
  refine AW.regionA [] [0, 1, 5] [0] (s' := ⟨[(0, (.v (.one (.arr 0)))), (1, (.v (.one (.c (.int .i64 a1))))), (5, (.v (.one (.c (.int .i64 (0 : Int))))))], [(0, (.arr true a0.length 4 (gl cs_Pose a0)))]⟩) (ob := True ∧ True) (by kernel_rfl) ⟨trivial, trivial⟩ ?_
  refine thenQ_normal ?_
  refine AW.block ?_
  refine AW.loopQ (σ := Nat × Int × Int × (List Pose)) (fun p => ⟨[(0, (.v (.one (.arr 0)))), (1, (.v (.one (.c (.int .i64 p.2.1))))), (5, (.v (.one (.c (.int .i64 p.2.2.1)))))], [(0, (.arr true p.2.2.2.length 4 (gl cs_Pose p.2.2.2)))]⟩) (fun p => laws_markPoseS_l1 K a0 p.1 p.2.1 p.2.2.1 p.2.2.2 = some o) (fun p => p.1) (K, a1, (0 : Int), a0) h ?_
  clear h
  rintro ⟨k, x4, x5, x6⟩ h
  replace h : laws_markPoseS_l1 K a0 k x4 x5 x6 = some o := h
  show AW _ _ (⟨[(0, (.v (.one (.arr 0)))), (1, (.v (.one (.c (.int .i64 x4))))), (5, (.v (.one (.c (.int .i64 x5)))))], [(0, (.arr true x6.length 4 (gl cs_Pose x6)))]⟩ : St) _
  obtain _ | k := k
  · rw [laws_markPoseS_l1] at h; cases h
  rw [laws_markPoseS_l1] at h
  refine AW.seq ?_
  refine AW.seq ?_
  refine AW.regionA [] [0, 1, 5, 9] [0] (s' := ⟨[(0, (.v (.one (.arr 0)))), (1, (.v (.one (.c (.int .i64 x4))))), (5, (.v (.one (.c (.int .i64 x5))))), (9, (.v (.one (.c (.bool (decide (x5 < (x6.length : Int))))))))], [(0, (.arr true x6.length 4 (gl cs_Pose x6)))]⟩) (ob := True ∧ True ∧ True ∧ True ∧ True) (by kernel_rfl) ⟨trivial, trivial, trivial, trivial, trivial⟩ ?_
  refine thenQ_normal ?_
  rcases ite2_cases h with ⟨b7, h⟩ | ⟨b7, h⟩
  · refine AW.cond_t rfl b7 ?_
    refine AW.skip ?_
    refine thenQ_normal ?_
    refine AW.seq ?_
    refine AW.block ?_
    refine AW.seq ?_
    obtain ⟨c8, h⟩ := chk_some h
    obtain ⟨y9, e10, h⟩ := bind_some h
    refine AW.regionA [.no, .no, .no, .no, .no, .no, .no, .set y9.length (gl cs_Pose y9) ((List.range 1).map fun j => (cs_Pose (Pose.mk (Vector.mk (Fl.ofInt .f32 x4) (((x6.getD x5.toNat default).Root).Y) (((x6.getD x5.toNat default).Root).Z)) ((x6.getD x5.toNat default).Turns))).getD (0 + j) .nilptr)] [0, 1, 5] [0] (s' := ⟨[(0, (.v (.one (.arr 0)))), (1, (.v (.one (.c (.int .i64 x4))))), (5, (.v (.one (.c (.int .i64 x5)))))], [(0, (.arr true y9.length 4 (gl cs_Pose y9)))]⟩) (ob := True ∧ True ∧ True ∧ True ∧ (0 ≤ x5 ∧ x5 < (x6.length : Int)) ∧ True ∧ True ∧ (y9.length = x6.length ∧ SetOb x6.length 4 x5.toNat 0 1 (gl cs_Pose x6) (gl cs_Pose y9) ∧ ((List.range 1).map fun j => (cs_Pose (Pose.mk (Vector.mk (Fl.ofInt .f32 x4) (((x6.getD x5.toNat default).Root).Y) (((x6.getD x5.toNat default).Root).Z)) ((x6.getD x5.toNat default).Turns))).getD (0 + j) .nilptr) = ((List.range 1).map fun j => gl cs_Pose y9 x5.toNat (0 + j)) ∧ ((((.flt .f32 (Fl.ofInt .f32 x4).bits) : C) = (.flt .f32 (Fl.ofInt .f32 x4).bits) ∧ True) ∧ True) ∧ (true = true → ∀ j, j < 1 → isSeq (gl cs_Pose x6 x5.toNat (0 + j)) = false ∧ isSeq (gl cs_Pose y9 x5.toNat (0 + j)) = false)) ∧ True) (by kernel_rfl) ⟨trivial, trivial, trivial, trivial, c8, trivial, trivial, (letP (some_eq e10) (fun z => (z.length = x6.length ∧ SetOb x6.length 4 x5.toNat 0 1 (gl cs_Pose x6) (gl cs_Pose z) ∧ ((List.range 1).map fun j => (cs_Pose (Pose.mk (Vector.mk (Fl.ofInt .f32 x4) (((x6.getD x5.toNat default).Root).Y) (((x6.getD x5.toNat default).Root).Z)) ((x6.getD x5.toNat default).Turns))).getD (0 + j) .nilptr) = ((List.range 1).map fun j => gl cs_Pose z x5.toNat (0 + j)) ∧ ((((.flt .f32 (Fl.ofInt .f32 x4).bits) : C) = (.flt .f32 (Fl.ofInt .f32 x4).bits) ∧ True) ∧ True) ∧ (true = true → ∀ j, j < 1 → isSeq (gl cs_Pose x6 x5.toNat (0 + j)) = false ∧ isSeq (gl cs_Pose z x5.toNat (0 + j)) = false))) ⟨List.length_set, gl_setp (fun j hj hn => match j, hj, hn with | 0, _, hn => absurd ⟨by decide, by decide⟩ hn | 1, _, _ => rfl | 2, _, _ => rfl | 3, _, _ => rfl) (lt_of_bound c8), (gl_atp (lt_of_bound c8)).symm, ⟨⟨rfl, trivial⟩, trivial⟩, (fun _ j hj => match j, hj with | 0, _ => ⟨rfl, rfl⟩)⟩), trivial⟩ ?_
    refine thenQ_normal ?_
    refine AW.seq ?_
    refine AW.regionA [] [0, 1, 5] [0] (s' := ⟨[(0, (.v (.one (.arr 0)))), (1, (.v (.one (.c (.int .i64 (IntKind.i64.wrap (x4 + (1 : Int)))))))), (5, (.v (.one (.c (.int .i64 x5)))))], [(0, (.arr true y9.length 4 (gl cs_Pose y9)))]⟩) (ob := True ∧ True ∧ True ∧ True) (by kernel_rfl) ⟨trivial, trivial, trivial, trivial⟩ ?_
    refine thenQ_normal ?_
    refine AW.seq ?_
    obtain ⟨c11, h⟩ := chk_some h
    obtain ⟨y12, e13, h⟩ := bind_some h
    refine AW.regionA [.no, .no, .no, .no, .no, .no, .no, .set y12.length (gl cs_Pose y12) ((List.range 1).map fun j => (cs_Pose (Pose.mk (Vector.mk (((y9.getD x5.toNat default).Root).X) (Fl.ofInt .f32 (IntKind.i64.wrap (x4 + (1 : Int)))) (((y9.getD x5.toNat default).Root).Z)) ((y9.getD x5.toNat default).Turns))).getD (1 + j) .nilptr)] [0, 1, 5] [0] (s' := ⟨[(0, (.v (.one (.arr 0)))), (1, (.v (.one (.c (.int .i64 (IntKind.i64.wrap (x4 + (1 : Int)))))))), (5, (.v (.one (.c (.int .i64 x5)))))], [(0, (.arr true y12.length 4 (gl cs_Pose y12)))]⟩) (ob := True ∧ True ∧ True ∧ True ∧ (0 ≤ x5 ∧ x5 < (y9.length : Int)) ∧ True ∧ True ∧ (y12.length = y9.length ∧ SetOb y9.length 4 x5.toNat 1 1 (gl cs_Pose y9) (gl cs_Pose y12) ∧ ((List.range 1).map fun j => (cs_Pose (Pose.mk (Vector.mk (((y9.getD x5.toNat default).Root).X) (Fl.ofInt .f32 (IntKind.i64.wrap (x4 + (1 : Int)))) (((y9.getD x5.toNat default).Root).Z)) ((y9.getD x5.toNat default).Turns))).getD (1 + j) .nilptr) = ((List.range 1).map fun j => gl cs_Pose y12 x5.toNat (1 + j)) ∧ ((((.flt .f32 (Fl.ofInt .f32 (IntKind.i64.wrap (x4 + (1 : Int)))).bits) : C) = (.flt .f32 (Fl.ofInt .f32 (IntKind.i64.wrap (x4 + (1 : Int)))).bits) ∧ True) ∧ True) ∧ (true = true → ∀ j, j < 1 → isSeq (gl cs_Pose y9 x5.toNat (1 + j)) = false ∧ isSeq (gl cs_Pose y12 x5.toNat (1 + j)) = false)) ∧ True) (by kernel_rfl) ⟨trivial, trivial, trivial, trivial, c11, trivial, trivial, (letP (some_eq e13) (fun z => (z.length = y9.length ∧ SetOb y9.length 4 x5.toNat 1 1 (gl cs_Pose y9) (gl cs_Pose z) ∧ ((List.range 1).map fun j => (cs_Pose (Pose.mk (Vector.mk (((y9.getD x5.toNat default).Root).X) (Fl.ofInt .f32 (IntKind.i64.wrap (x4 + (1 : Int)))) (((y9.getD x5.toNat default).Root).Z)) ((y9.getD x5.toNat default).Turns))).getD (1 + j) .nilptr) = ((List.range 1).map fun j => gl cs_Pose z x5.toNat (1 + j)) ∧ ((((.flt .f32 (Fl.ofInt .f32 (IntKind.i64.wrap (x4 + (1 : Int)))).bits) : C) = (.flt .f32 (Fl.ofInt .f32 (IntKind.i64.wrap (x4 + (1 : Int)))).bits) ∧ True) ∧ True) ∧ (true = true → ∀ j, j < 1 → isSeq (gl cs_Pose y9 x5.toNat (1 + j)) = false ∧ isSeq (gl cs_Pose z x5.toNat (1 + j)) = false))) ⟨List.length_set, gl_setp (fun j hj hn => match j, hj, hn with | 0, _, _ => rfl | 1, _, hn => absurd ⟨by decide, by decide⟩ hn | 2, _, _ => rfl | 3, _, _ => rfl) (lt_of_bound c11), (gl_atp (lt_of_bound c11)).symm, ⟨⟨rfl, trivial⟩, trivial⟩, (fun _ j hj => match j, hj with | 0, _ => ⟨rfl, rfl⟩)⟩), trivial⟩ ?_
    refine thenQ_normal ?_
    refine AW.seq ?_
    refine AW.regionA [] [0, 1, 5] [0] (s' := ⟨[(0, (.v (.one (.arr 0)))), (1, (.v (.one (.c (.int .i64 (IntKind.i64.wrap ((IntKind.i64.wrap (x4 + (1 : Int))) + (1 : Int)))))))), (5, (.v (.one (.c (.int .i64 x5)))))], [(0, (.arr true y12.length 4 (gl cs_Pose y12)))]⟩) (ob := True ∧ True ∧ True ∧ True) (by kernel_rfl) ⟨trivial, trivial, trivial, trivial⟩ ?_
    refine thenQ_normal ?_
    refine AW.seq ?_
    obtain ⟨c14, h⟩ := chk_some h
    obtain ⟨y15, e16, h⟩ := bind_some h
    refine AW.regionA [.no, .no, .no, .no, .no, .no, .no, .set y15.length (gl cs_Pose y15) ((List.range 1).map fun j => (cs_Pose (Pose.mk (Vector.mk (((y12.getD x5.toNat default).Root).X) (((y12.getD x5.toNat default).Root).Y) (Fl.ofInt .f32 (IntKind.i64.wrap ((IntKind.i64.wrap (x4 + (1 : Int))) + (1 : Int))))) ((y12.getD x5.toNat default).Turns))).getD (2 + j) .nilptr)] [0, 1, 5] [0] (s' := ⟨[(0, (.v (.one (.arr 0)))), (1, (.v (.one (.c (.int .i64 (IntKind.i64.wrap ((IntKind.i64.wrap (x4 + (1 : Int))) + (1 : Int)))))))), (5, (.v (.one (.c (.int .i64 x5)))))], [(0, (.arr true y15.length 4 (gl cs_Pose y15)))]⟩) (ob := True ∧ True ∧ True ∧ True ∧ (0 ≤ x5 ∧ x5 < (y12.length : Int)) ∧ True ∧ True ∧ (y15.length = y12.length ∧ SetOb y12.length 4 x5.toNat 2 1 (gl cs_Pose y12) (gl cs_Pose y15) ∧ ((List.range 1).map fun j => (cs_Pose (Pose.mk (Vector.mk (((y12.getD x5.toNat default).Root).X) (((y12.getD x5.toNat default).Root).Y) (Fl.ofInt .f32 (IntKind.i64.wrap ((IntKind.i64.wrap (x4 + (1 : Int))) + (1 : Int))))) ((y12.getD x5.toNat default).Turns))).getD (2 + j) .nilptr) = ((List.range 1).map fun j => gl cs_Pose y15 x5.toNat (2 + j)) ∧ ((((.flt .f32 (Fl.ofInt .f32 (IntKind.i64.wrap ((IntKind.i64.wrap (x4 + (1 : Int))) + (1 : Int)))).bits) : C) = (.flt .f32 (Fl.ofInt .f32 (IntKind.i64.wrap ((IntKind.i64.wrap (x4 + (1 : Int))) + (1 : Int)))).bits) ∧ True) ∧ True) ∧ (true = true → ∀ j, j < 1 → isSeq (gl cs_Pose y12 x5.toNat (2 + j)) = false ∧ isSeq (gl cs_Pose y15 x5.toNat (2 + j)) = false)) ∧ True) (by kernel_rfl) ⟨trivial, trivial, trivial, trivial, c14, trivial, trivial, (letP (some_eq e16) (fun z => (z.length = y12.length ∧ SetOb y12.length 4 x5.toNat 2 1 (gl cs_Pose y12) (gl cs_Pose z) ∧ ((List.range 1).map fun j => (cs_Pose (Pose.mk (Vector.mk (((y12.getD x5.toNat default).Root).X) (((y12.getD x5.toNat default).Root).Y) (Fl.ofInt .f32 (IntKind.i64.wrap ((IntKind.i64.wrap (x4 + (1 : Int))) + (1 : Int))))) ((y12.getD x5.toNat default).Turns))).getD (2 + j) .nilptr) = ((List.range 1).map fun j => gl cs_Pose z x5.toNat (2 + j)) ∧ ((((.flt .f32 (Fl.ofInt .f32 (IntKind.i64.wrap ((IntKind.i64.wrap (x4 + (1 : Int))) + (1 : Int)))).bits) : C) = (.flt .f32 (Fl.ofInt .f32 (IntKind.i64.wrap ((IntKind.i64.wrap (x4 + (1 : Int))) + (1 : Int)))).bits) ∧ True) ∧ True) ∧ (true = true → ∀ j, j < 1 → isSeq (gl cs_Pose y12 x5.toNat (2 + j)) = false ∧ isSeq (gl cs_Pose z x5.toNat (2 + j)) = false))) ⟨List.length_set, gl_setp (fun j hj hn => match j, hj, hn with | 0, _, _ => rfl | 1, _, _ => rfl | 2, _, hn => absurd ⟨by decide, by decide⟩ hn | 3, _, _ => rfl) (lt_of_bound c14), (gl_atp (lt_of_bound c14)).symm, ⟨⟨rfl, trivial⟩, trivial⟩, (fun _ j hj => match j, hj with | 0, _ => ⟨rfl, rfl⟩)⟩), trivial⟩ ?_
    refine thenQ_normal ?_
    refine AW.seq ?_
    refine AW.regionA [] [0, 1, 5] [0] (s' := ⟨[(0, (.v (.one (.arr 0)))), (1, (.v (.one (.c (.int .i64 (IntKind.i64.wrap ((IntKind.i64.wrap ((IntKind.i64.wrap (x4 + (1 : Int))) + (1 : Int))) + (1 : Int)))))))), (5, (.v (.one (.c (.int .i64 x5)))))], [(0, (.arr true y15.length 4 (gl cs_Pose y15)))]⟩) (ob := True ∧ True ∧ True ∧ True) (by kernel_rfl) ⟨trivial, trivial, trivial, trivial⟩ ?_
    refine thenQ_normal ?_
    obtain ⟨c17, h⟩ := chk_some h
    obtain ⟨v18, e19, h⟩ := bind_some h
    refine AW.regionA [.no, .no, .no, .no, .no, .no, .callM [(.one (.mu (sl 4 cs_Turn ((y15.getD x5.toNat default).Turns)) (sl 4 cs_Turn v18.2))), .one (.ro (.int .i64 (IntKind.i64.wrap ((IntKind.i64.wrap ((IntKind.i64.wrap (x4 + (1 : Int))) + (1 : Int))) + (1 : Int)))))] [.one (.int .i64 v18.1)] [[.view]] (some ((y15.set x5.toNat (Pose.mk ((y15.getD x5.toNat default).Root) v18.2)).length, gl cs_Pose (y15.set x5.toNat (Pose.mk ((y15.getD x5.toNat default).Root) v18.2))))] [0, 1, 5] [0] (s' := ⟨[(0, (.v (.one (.arr 0)))), (1, (.v (.one (.c (.int .i64 v18.1))))), (5, (.v (.one (.c (.int .i64 x5)))))], [(0, (.arr true (y15.set x5.toNat (Pose.mk ((y15.getD x5.toNat default).Root) v18.2)).length 4 (gl cs_Pose (y15.set x5.toNat (Pose.mk ((y15.getD x5.toNat default).Root) v18.2)))))]⟩) (ob := True ∧ True ∧ (0 ≤ x5 ∧ x5 < (y15.length : Int)) ∧ True ∧ True ∧ True ∧ ((((y15.set x5.toNat (Pose.mk ((y15.getD x5.toNat default).Root) v18.2)).length = y15.length ∧ ((sl 4 cs_Turn ((y15.getD x5.toNat default).Turns)) : C) = gl cs_Pose y15 x5.toNat 3 ∧ gl cs_Pose (y15.set x5.toNat (Pose.mk ((y15.getD x5.toNat default).Root) v18.2)) x5.toNat 3 = ((sl 4 cs_Turn v18.2) : C) ∧ isSeq (sl 4 cs_Turn v18.2) = true ∧ SetOb y15.length 4 x5.toNat 3 1 (gl cs_Pose y15) (gl cs_Pose (y15.set x5.toNat (Pose.mk ((y15.getD x5.toNat default).Root) v18.2)))) ∧ (((.int .i64 (IntKind.i64.wrap ((IntKind.i64.wrap ((IntKind.i64.wrap (x4 + (1 : Int))) + (1 : Int))) + (1 : Int)))) : C) = (.int .i64 (IntKind.i64.wrap ((IntKind.i64.wrap ((IntKind.i64.wrap (x4 + (1 : Int))) + (1 : Int))) + (1 : Int))))) ∧ True) ∧ MutOK Try.prog 92 [(.one (.mu (sl 4 cs_Turn ((y15.getD x5.toNat default).Turns)) (sl 4 cs_Turn v18.2))), .one (.ro (.int .i64 (IntKind.i64.wrap ((IntKind.i64.wrap ((IntKind.i64.wrap (x4 + (1 : Int))) + (1 : Int))) + (1 : Int)))))] [.one (.int .i64 v18.1)]) ∧ True ∧ True) (by kernel_rfl) ⟨trivial, trivial, c17, trivial, trivial, trivial, ⟨⟨⟨List.length_set, rfl, gl_cell (lt_of_bound c17) rfl, rfl, gl_setp (fun j hj hn => match j, hj, hn with | 0, _, _ => rfl | 1, _, _ => rfl | 2, _, _ => rfl | 3, _, hn => absurd ⟨by decide, by decide⟩ hn) (lt_of_bound c17)⟩, rfl, trivial⟩, ok_laws_markTurnS K ((y15.getD x5.toNat default).Turns) (IntKind.i64.wrap ((IntKind.i64.wrap ((IntKind.i64.wrap (x4 + (1 : Int))) + (1 : Int))) + (1 : Int))) v18 e19⟩, trivial, trivial⟩ ?_
    refine blockQ_normal ?_
    refine thenQ_normal ?_
    refine AW.regionA [] [0, 1, 5] [0] (s' := ⟨[(0, (.v (.one (.arr 0)))), (1, (.v (.one (.c (.int .i64 v18.1))))), (5, (.v (.one (.c (.int .i64 (IntKind.i64.wrap (x5 + (1 : Int))))))))], [(0, (.arr true (y15.set x5.toNat (Pose.mk ((y15.getD x5.toNat default).Root) v18.2)).length 4 (gl cs_Pose (y15.set x5.toNat (Pose.mk ((y15.getD x5.toNat default).Root) v18.2)))))]⟩) (ob := True ∧ True ∧ True ∧ True) (by kernel_rfl) ⟨trivial, trivial, trivial, trivial⟩ ?_
    exact loopQ_normal (k, v18.1, (IntKind.i64.wrap (x5 + (1 : Int))), (y15.set x5.toNat (Pose.mk ((y15.getD x5.toNat default).Root) v18.2))) h (Nat.lt_succ_self k) (Sub.keep [0, 1, 5] [0] (by kernel_rfl) (by kernel_rfl))
  · refine AW.cond_f rfl b7 ?_
    refine AW.exit ?_
    refine thenQ_exit ?_
    refine loopQ_exit ?_
    refine blockQ_exit ?_
    refine thenQ_normal ?_
    refine AW.seq ?_
    refine AW.regionA [] [0, 1, 4] [0] (s' := ⟨[(0, (.v (.one (.arr 0)))), (1, (.v (.one (.c (.int .i64 x4))))), (4, (.v (.one (.c (.int .i64 x4)))))], [(0, (.arr true x6.length 4 (gl cs_Pose x6)))]⟩) (ob := True ∧ True ∧ True) (by kernel_rfl) ⟨trivial, trivial, trivial⟩ ?_
    refine thenQ_normal ?_
    refine AW.ret ?_
    obtain ⟨c20, h⟩ := chk_some h
    replace h := some_eq h
    subst h
    exact ⟨.inr rfl, retOK_of [(.one (.c (.int .i64 x4)))] (by kernel_rfl) ⟨⟨rfl, trivial⟩, trivial⟩ (of_decide_eq_true (by kernel_rfl)), by kernel_rfl, ⟨⟨c20, rfl, rfl⟩, trivial, trivial⟩⟩

/-! laws.markRecording -/
def laws_markRecording (K : Nat) (a0 : Recording) (a1 : Int) : Option (Int × (List Pose)) :=
  (laws_markPoseS K a0.Frames a1).bind fun v1 => chk (v1.2.length = a0.Frames.length) (chk (v1.2.length = a0.Frames.length) (some (v1.1, v1.2)))

theorem ok_laws_markRecording (K : Nat) (a0 : Recording) (a1 : Int) (o : (Int × (List Pose))) (h : laws_markRecording K a0 a1 = some o) : MutOK Try.prog 26 [(.agg [(.ro (.int .i64 a0.Bones)), (.mu (sl 4 cs_Pose a0.Frames) (sl 4 cs_Pose o.2))]), (.one (.ro (.int .i64 a1)))] [.one (.int .i64 o.1)] := by
  refine mutOK_of_AW 1 Try.func26 rfl (by kernel_rfl) (Nat.le_of_ble_eq_true (by kernel_rfl)) (by kernel_rfl) (by kernel_rfl) ?_
  intro w0 K0 v0 s0
  unfold laws_markRecording at h
  refine AW.seq ?_
  refine AW.regionA [.box 1] [0, 1, 2] [0, 1] (s' := ⟨[(0, (.v (.agg [(.c (.int .i64 a0.Bones)), (.arr 0)]))), (1, (.v (.one (.c (.int .i64 a1))))), (2, (.v (.one (.ptr 1 0))))], [(0, (.arr true a0.Frames.length 4 (gl cs_Pose a0.Frames))), (1, (.box [(.c (.int .i64 a0.Bones)), (.arr 0)]))]⟩) (ob := True ∧ True ∧ True) (by kernel_rfl) ⟨trivial, trivial, trivial⟩ ?_
  refine thenQ_normal ?_
  refine AW.seq ?_
  obtain ⟨v1, e2, h⟩ := bind_some h
  obtain ⟨c3, h⟩ := chk_some h
  refine AW.regionA [.no, .no, .no, .callM [(.one (.mu (sl 4 cs_Pose a0.Frames) (sl 4 cs_Pose v1.2))), .one (.ro (.int .i64 a1))] [.one (.int .i64 v1.1)] [[.view]] none] [0, 1] [0] (s' := ⟨[(0, (.v (.agg [(.c (.int .i64 a0.Bones)), (.arr 0)]))), (1, (.v (.one (.c (.int .i64 v1.1)))))], [(0, (.arr true v1.2.length 4 (gl cs_Pose v1.2)))]⟩) (ob := True ∧ True ∧ True ∧ (((((sl 4 cs_Pose a0.Frames) : C) = (sl 4 cs_Pose a0.Frames) ∧ v1.2.length = a0.Frames.length ∧ 4 = 4 ∧ ∀ i j, i < a0.Frames.length → j < 4 → isSeq (gl cs_Pose v1.2 i j) = isSeq (gl cs_Pose a0.Frames i j)) ∧ (((.int .i64 a1) : C) = (.int .i64 a1)) ∧ True) ∧ MutOK Try.prog 78 [(.one (.mu (sl 4 cs_Pose a0.Frames) (sl 4 cs_Pose v1.2))), .one (.ro (.int .i64 a1))] [.one (.int .i64 v1.1)]) ∧ True ∧ True) (by kernel_rfl) ⟨trivial, trivial, trivial, ⟨⟨⟨rfl, c3, rfl, gl_seq sq_Pose⟩, rfl, trivial⟩, ok_laws_markPoseS K a0.Frames a1 v1 e2⟩, trivial, trivial⟩ ?_
  refine thenQ_normal ?_
  refine AW.seq ?_
  refine AW.regionA [] [0, 1, 4] [0] (s' := ⟨[(0, (.v (.agg [(.c (.int .i64 a0.Bones)), (.arr 0)]))), (1, (.v (.one (.c (.int .i64 v1.1))))), (4, (.v (.one (.c (.int .i64 v1.1)))))], [(0, (.arr true v1.2.length 4 (gl cs_Pose v1.2)))]⟩) (ob := True ∧ True ∧ True) (by kernel_rfl) ⟨trivial, trivial, trivial⟩ ?_
  refine thenQ_normal ?_
  refine AW.ret ?_
  obtain ⟨c4, h⟩ := chk_some h
  replace h := some_eq h
  subst h
  exact ⟨.inr rfl, retOK_of [(.one (.c (.int .i64 v1.1)))] (by kernel_rfl) ⟨⟨rfl, trivial⟩, trivial⟩ (of_decide_eq_true (by kernel_rfl)), by kernel_rfl, ⟨⟨trivial, ⟨c4, rfl, rfl⟩, trivial⟩, trivial, trivial⟩⟩

/-! laws.heldTurnS -/
def laws_heldTurnS_l1 (K : Nat) (a0 : (List Turn)) : Nat → Int → Int → Option (Int)
  | 0, _, _ => none
  | k + 1, x3, x4 => ite2 ((decide (x4 < (a0.length : Int)))) (chk (0 ≤ x4 ∧ x4 < (a0.length : Int)) (ite2 ((((a0.getD x4.toNat default).W).ne (Fl.ofInt .f32 x3))) (some ((-1) : Int)) (ite2 ((((a0.getD x4.toNat default).X).ne (Fl.ofInt .f32 (IntKind.i64.wrap (x3 + (1 : Int)))))) (some ((-1) : Int)) (ite2 ((((a0.getD x4.toNat default).Y).ne (Fl.ofInt .f32 (IntKind.i64.wrap ((IntKind.i64.wrap (x3 + (1 : Int))) + (1 : Int)))))) (some ((-1) : Int)) (ite2 ((((a0.getD x4.toNat default).Z).ne (Fl.ofInt .f32 (IntKind.i64.wrap ((IntKind.i64.wrap ((IntKind.i64.wrap (x3 + (1 : Int))) + (1 : Int))) + (1 : Int)))))) (some ((-1) : Int)) (laws_heldTurnS_l1 K a0 k (IntKind.i64.wrap ((IntKind.i64.wrap ((IntKind.i64.wrap ((IntKind.i64.wrap (x3 + (1 : Int))) + (1 : Int))) + (1 : Int))) + (1 : Int))) (IntKind.i64.wrap (x4 + (1 : Int))))))))) (some x3)

def laws_heldTurnS (K : Nat) (a0 : (List Turn)) (a1 : Int) : Option (Int) :=
  laws_heldTurnS_l1 K a0 K a1 (0 : Int)

theorem ok_laws_heldTurnS (K : Nat) (a0 : (List Turn)) (a1 : Int) (o : (Int)) (h : laws_heldTurnS K a0 a1 = some o) : CallOK Try.prog 124 [.one (sl 4 cs_Turn a0), .one (.int .i64 a1)] [.one (.int .i64 o)] := by
  refine callOK_of_AW Try.func124 rfl (by kernel_rfl) (Nat.le_of_ble_eq_true (by kernel_rfl)) ?_
  intro w0
  unfold laws_heldTurnS at h
  refine AW.seq ?_
  refine AW.regionA [] [0, 1] [] (s' := ⟨[(0, (.v (.one (.c (sl 4 cs_Turn a0))))), (1, (.v (.one (.c (.int .i64 a1)))))], []⟩) (ob := True ∧ True) (by kernel_rfl) ⟨trivial, trivial⟩ ?_
  refine thenQ_normal ?_
  refine AW.seq ?_
  refine AW.seq ?_
  refine AW.regionA [] [0, 1, 5] [] (s' := ⟨[(0, (.v (.one (.c (sl 4 cs_Turn a0))))), (1, (.v (.one (.c (.int .i64 a1))))), (5, (.v (.one (.c (.int .i64 (0 : Int))))))], []⟩) (ob := True ∧ True) (by kernel_rfl) ⟨trivial, trivial⟩ ?_
  refine thenQ_normal ?_
  refine AW.block ?_
  refine AW.loopQ (σ := Nat × Int × Int) (fun p => ⟨[(0, (.v (.one (.c (sl 4 cs_Turn a0))))), (1, (.v (.one (.c (.int .i64 p.2.1))))), (5, (.v (.one (.c (.int .i64 p.2.2)))))], []⟩) (fun p => laws_heldTurnS_l1 K a0 p.1 p.2.1 p.2.2 = some o) (fun p => p.1) (K, a1, (0 : Int)) h ?_
  clear h
  rintro ⟨k, x3, x4⟩ h
  replace h : laws_heldTurnS_l1 K a0 k x3 x4 = some o := h
  show AW _ _ (⟨[(0, (.v (.one (.c (sl 4 cs_Turn a0))))), (1, (.v (.one (.c (.int .i64 x3))))), (5, (.v (.one (.c (.int .i64 x4)))))], []⟩ : St) _
  obtain _ | k := k
  · rw [laws_heldTurnS_l1] at h; cases h
  rw [laws_heldTurnS_l1] at h
  refine AW.seq ?_
  refine AW.seq ?_
  refine AW.regionA [] [0, 1, 5, 9] [] (s' := ⟨[(0, (.v (.one (.c (sl 4 cs_Turn a0))))), (1, (.v (.one (.c (.int .i64 x3))))), (5, (.v (.one (.c (.int .i64 x4))))), (9, (.v (.one (.c (.bool (decide (x4 < (a0.length : Int))))))))], []⟩) (ob := True ∧ True ∧ True ∧ True ∧ True) (by kernel_rfl) ⟨trivial, trivial, trivial, trivial, trivial⟩ ?_
  refine thenQ_normal ?_
  rcases ite2_cases h with ⟨b5, h⟩ | ⟨b5, h⟩
  · refine AW.cond_t rfl b5 ?_
    refine AW.skip ?_
    refine thenQ_normal ?_
    refine AW.seq ?_
    refine AW.block ?_
    refine AW.seq ?_
    refine AW.seq ?_
    obtain ⟨c6, h⟩ := chk_some h
    refine AW.regionA [] [0, 1, 5, 19] [] (s' := ⟨[(0, (.v (.one (.c (sl 4 cs_Turn a0))))), (1, (.v (.one (.c (.int .i64 x3))))), (5, (.v (.one (.c (.int .i64 x4))))), (19, (.v (.one (.c (.bool (((a0.getD x4.toNat default).W).ne (Fl.ofInt .f32 x3)))))))], []⟩) (ob := True ∧ True ∧ (0 ≤ x4 ∧ x4 < (a0.length : Int)) ∧ True ∧ True ∧ True ∧ True ∧ True ∧ True) (by kernel_rfl) ⟨trivial, trivial, c6, trivial, trivial, trivial, trivial, trivial, trivial⟩ ?_
    refine thenQ_normal ?_
    rcases ite2_cases h with ⟨b7, h⟩ | ⟨b7, h⟩
    · refine AW.cond_t rfl b7 ?_
      refine AW.seq ?_
      refine AW.regionA [] [4] [] (s' := ⟨[(4, (.v (.one (.c (.int .i64 ((-1) : Int))))))], []⟩) (ob := True ∧ True) (by kernel_rfl) ⟨trivial, trivial⟩ ?_
      refine thenQ_normal ?_
      refine AW.ret ?_
      refine thenQ_ret ?_
      refine blockQ_ret ?_
      refine thenQ_ret ?_
      refine loopQ_ret ?_
      refine blockQ_ret ?_
      refine thenQ_ret ?_
      replace h := some_eq h
      subst h
      exact ⟨.inr rfl, retOK_of [(.one (.c (.int .i64 ((-1) : Int))))] (by kernel_rfl) ⟨⟨rfl, trivial⟩, trivial⟩ (of_decide_eq_true (by kernel_rfl))⟩
    · refine AW.cond_f rfl b7 ?_
      refine AW.skip ?_
      refine thenQ_normal ?_
      refine AW.seq ?_
      refine AW.regionA [] [0, 1, 5] [] (s' := ⟨[(0, (.v (.one (.c (sl 4 cs_Turn a0))))), (1, (.v (.one (.c (.int .i64 (IntKind.i64.wrap (x3 + (1 : Int)))))))), (5, (.v (.one (.c (.int .i64 x4)))))], []⟩) (ob := True ∧ True ∧ True ∧ True) (by kernel_rfl) ⟨trivial, trivial, trivial, trivial⟩ ?_
      refine thenQ_normal ?_
      refine AW.seq ?_
      refine AW.seq ?_
      refine AW.regionA [] [0, 1, 5, 29] [] (s' := ⟨[(0, (.v (.one (.c (sl 4 cs_Turn a0))))), (1, (.v (.one (.c (.int .i64 (IntKind.i64.wrap (x3 + (1 : Int)))))))), (5, (.v (.one (.c (.int .i64 x4))))), (29, (.v (.one (.c (.bool (((a0.getD x4.toNat default).X).ne (Fl.ofInt .f32 (IntKind.i64.wrap (x3 + (1 : Int))))))))))], []⟩) (ob := True ∧ True ∧ (0 ≤ x4 ∧ x4 < (a0.length : Int)) ∧ True ∧ True ∧ True ∧ True ∧ True ∧ True) (by kernel_rfl) ⟨trivial, trivial, c6, trivial, trivial, trivial, trivial, trivial, trivial⟩ ?_
      refine thenQ_normal ?_
      rcases ite2_cases h with ⟨b8, h⟩ | ⟨b8, h⟩
      · refine AW.cond_t rfl b8 ?_
        refine AW.seq ?_
        refine AW.regionA [] [4] [] (s' := ⟨[(4, (.v (.one (.c (.int .i64 ((-1) : Int))))))], []⟩) (ob := True ∧ True) (by kernel_rfl) ⟨trivial, trivial⟩ ?_
        refine thenQ_normal ?_
        refine AW.ret ?_
        refine thenQ_ret ?_
        refine blockQ_ret ?_
        refine thenQ_ret ?_
        refine loopQ_ret ?_
        refine blockQ_ret ?_
        refine thenQ_ret ?_
        replace h := some_eq h
        subst h
        exact ⟨.inr rfl, retOK_of [(.one (.c (.int .i64 ((-1) : Int))))] (by kernel_rfl) ⟨⟨rfl, trivial⟩, trivial⟩ (of_decide_eq_true (by kernel_rfl))⟩
      · refine AW.cond_f rfl b8 ?_
        refine AW.skip ?_
        refine thenQ_normal ?_
        refine AW.seq ?_
        refine AW.regionA [] [0, 1, 5] [] (s' := ⟨[(0, (.v (.one (.c (sl 4 cs_Turn a0))))), (1, (.v (.one (.c (.int .i64 (IntKind.i64.wrap ((IntKind.i64.wrap (x3 + (1 : Int))) + (1 : Int)))))))), (5, (.v (.one (.c (.int .i64 x4)))))], []⟩) (ob := True ∧ True ∧ True ∧ True) (by kernel_rfl) ⟨trivial, trivial, trivial, trivial⟩ ?_
        refine thenQ_normal ?_
        refine AW.seq ?_
        refine AW.seq ?_
        refine AW.regionA [] [0, 1, 5, 39] [] (s' := ⟨[(0, (.v (.one (.c (sl 4 cs_Turn a0))))), (1, (.v (.one (.c (.int .i64 (IntKind.i64.wrap ((IntKind.i64.wrap (x3 + (1 : Int))) + (1 : Int)))))))), (5, (.v (.one (.c (.int .i64 x4))))), (39, (.v (.one (.c (.bool (((a0.getD x4.toNat default).Y).ne (Fl.ofInt .f32 (IntKind.i64.wrap ((IntKind.i64.wrap (x3 + (1 : Int))) + (1 : Int))))))))))], []⟩) (ob := True ∧ True ∧ (0 ≤ x4 ∧ x4 < (a0.length : Int)) ∧ True ∧ True ∧ True ∧ True ∧ True ∧ True) (by kernel_rfl) ⟨trivial, trivial, c6, trivial, trivial, trivial, trivial, trivial, trivial⟩ ?_
        refine thenQ_normal ?_
        rcases ite2_cases h with ⟨b9, h⟩ | ⟨b9, h⟩
        · refine AW.cond_t rfl b9 ?_
          refine AW.seq ?_
          refine AW.regionA [] [4] [] (s' := ⟨[(4, (.v (.one (.c (.int .i64 ((-1) : Int))))))], []⟩) (ob := True ∧ True) (by kernel_rfl) ⟨trivial, trivial⟩ ?_
          refine thenQ_normal ?_
          refine AW.ret ?_
          refine thenQ_ret ?_
          refine blockQ_ret ?_
          refine thenQ_ret ?_
          refine loopQ_ret ?_
          refine blockQ_ret ?_
          refine thenQ_ret ?_
          replace h := some_eq h
          subst h
          exact ⟨.inr rfl, retOK_of [(.one (.c (.int .i64 ((-1) : Int))))] (by kernel_rfl) ⟨⟨rfl, trivial⟩, trivial⟩ (of_decide_eq_true (by kernel_rfl))⟩
        · refine AW.cond_f rfl b9 ?_
          refine AW.skip ?_
          refine thenQ_normal ?_
          refine AW.seq ?_
          refine AW.regionA [] [0, 1, 5] [] (s' := ⟨[(0, (.v (.one (.c (sl 4 cs_Turn a0))))), (1, (.v (.one (.c (.int .i64 (IntKind.i64.wrap ((IntKind.i64.wrap ((IntKind.i64.wrap (x3 + (1 : Int))) + (1 : Int))) + (1 : Int)))))))), (5, (.v (.one (.c (.int .i64 x4)))))], []⟩) (ob := True ∧ True ∧ True ∧ True) (by kernel_rfl) ⟨trivial, trivial, trivial, trivial⟩ ?_
          refine thenQ_normal ?_
          refine AW.seq ?_
          refine AW.seq ?_
          refine AW.regionA [] [0, 1, 5, 49] [] (s' := ⟨[(0, (.v (.one (.c (sl 4 cs_Turn a0))))), (1, (.v (.one (.c (.int .i64 (IntKind.i64.wrap ((IntKind.i64.wrap ((IntKind.i64.wrap (x3 + (1 : Int))) + (1 : Int))) + (1 : Int)))))))), (5, (.v (.one (.c (.int .i64 x4))))), (49, (.v (.one (.c (.bool (((a0.getD x4.toNat default).Z).ne (Fl.ofInt .f32 (IntKind.i64.wrap ((IntKind.i64.wrap ((IntKind.i64.wrap (x3 + (1 : Int))) + (1 : Int))) + (1 : Int))))))))))], []⟩) (ob := True ∧ True ∧ (0 ≤ x4 ∧ x4 < (a0.length : Int)) ∧ True ∧ True ∧ True ∧ True ∧ True ∧ True) (by kernel_rfl) ⟨trivial, trivial, c6, trivial, trivial, trivial, trivial, trivial, trivial⟩ ?_
          refine thenQ_normal ?_
          rcases ite2_cases h with ⟨b10, h⟩ | ⟨b10, h⟩
          · refine AW.cond_t rfl b10 ?_
            refine AW.seq ?_
            refine AW.regionA [] [4] [] (s' := ⟨[(4, (.v (.one (.c (.int .i64 ((-1) : Int))))))], []⟩) (ob := True ∧ True) (by kernel_rfl) ⟨trivial, trivial⟩ ?_
            refine thenQ_normal ?_
            refine AW.ret ?_
            refine thenQ_ret ?_
            refine blockQ_ret ?_
            refine thenQ_ret ?_
            refine loopQ_ret ?_
            refine blockQ_ret ?_
            refine thenQ_ret ?_
            replace h := some_eq h
            subst h
            exact ⟨.inr rfl, retOK_of [(.one (.c (.int .i64 ((-1) : Int))))] (by kernel_rfl) ⟨⟨rfl, trivial⟩, trivial⟩ (of_decide_eq_true (by kernel_rfl))⟩
          · refine AW.cond_f rfl b10 ?_
            refine AW.skip ?_
            refine thenQ_normal ?_
            refine AW.regionA [] [0, 1, 5] [] (s' := ⟨[(0, (.v (.one (.c (sl 4 cs_Turn a0))))), (1, (.v (.one (.c (.int .i64 (IntKind.i64.wrap ((IntKind.i64.wrap ((IntKind.i64.wrap ((IntKind.i64.wrap (x3 + (1 : Int))) + (1 : Int))) + (1 : Int))) + (1 : Int)))))))), (5, (.v (.one (.c (.int .i64 x4)))))], []⟩) (ob := True ∧ True ∧ True ∧ True) (by kernel_rfl) ⟨trivial, trivial, trivial, trivial⟩ ?_
            refine blockQ_normal ?_
            refine thenQ_normal ?_
            refine AW.regionA [] [0, 1, 5] [] (s' := ⟨[(0, (.v (.one (.c (sl 4 cs_Turn a0))))), (1, (.v (.one (.c (.int .i64 (IntKind.i64.wrap ((IntKind.i64.wrap ((IntKind.i64.wrap ((IntKind.i64.wrap (x3 + (1 : Int))) + (1 : Int))) + (1 : Int))) + (1 : Int)))))))), (5, (.v (.one (.c (.int .i64 (IntKind.i64.wrap (x4 + (1 : Int))))))))], []⟩) (ob := True ∧ True ∧ True ∧ True) (by kernel_rfl) ⟨trivial, trivial, trivial, trivial⟩ ?_
            exact loopQ_normal (k, (IntKind.i64.wrap ((IntKind.i64.wrap ((IntKind.i64.wrap ((IntKind.i64.wrap (x3 + (1 : Int))) + (1 : Int))) + (1 : Int))) + (1 : Int))), (IntKind.i64.wrap (x4 + (1 : Int)))) h (Nat.lt_succ_self k) (Sub.keep [0, 1, 5] [] (by kernel_rfl) (by kernel_rfl))
  · refine AW.cond_f rfl b5 ?_
    refine AW.exit ?_
    refine thenQ_exit ?_
    refine loopQ_exit ?_
    refine blockQ_exit ?_
    refine thenQ_normal ?_
    refine AW.seq ?_
    refine AW.regionA [] [4] [] (s' := ⟨[(4, (.v (.one (.c (.int .i64 x3)))))], []⟩) (ob := True ∧ True ∧ True) (by kernel_rfl) ⟨trivial, trivial, trivial⟩ ?_
    refine thenQ_normal ?_
    refine AW.ret ?_
    replace h := some_eq h
    subst h
    exact ⟨.inr rfl, retOK_of [(.one (.c (.int .i64 x3)))] (by kernel_rfl) ⟨⟨rfl, trivial⟩, trivial⟩ (of_decide_eq_true (by kernel_rfl))⟩

/-! laws.heldPoseS -/
def laws_heldPoseS_l1 (K : Nat) (a0 : (List Pose)) : Nat → Int → Int → Option (Int)
  | 0, _, _ => none
  | k + 1, x3, x4 => ite2 ((decide (x4 < (a0.length : Int)))) (chk (0 ≤ x4 ∧ x4 < (a0.length : Int)) (ite2 (((((a0.getD x4.toNat default).Root).X).ne (Fl.ofInt .f32 x3))) (some ((-1) : Int)) (ite2 (((((a0.getD x4.toNat default).Root).Y).ne (Fl.ofInt .f32 (IntKind.i64.wrap (x3 + (1 : Int)))))) (some ((-1) : Int)) (ite2 (((((a0.getD x4.toNat default).Root).Z).ne (Fl.ofInt .f32 (IntKind.i64.wrap ((IntKind.i64.wrap (x3 + (1 : Int))) + (1 : Int)))))) (some ((-1) : Int)) ((laws_heldTurnS K ((a0.getD x4.toNat default).Turns) (IntKind.i64.wrap ((IntKind.i64.wrap ((IntKind.i64.wrap (x3 + (1 : Int))) + (1 : Int))) + (1 : Int)))).bind fun v10 => ite2 ((decide (v10 < (0 : Int)))) (some ((-1) : Int)) (laws_heldPoseS_l1 K a0 k v10 (IntKind.i64.wrap (x4 + (1 : Int))))))))) (some x3)

def laws_heldPoseS (K : Nat) (a0 : (List Pose)) (a1 : Int) : Option (Int) :=
  laws_heldPoseS_l1 K a0 K a1 (0 : Int)

theorem ok_laws_heldPoseS (K : Nat) (a0 : (List Pose)) (a1 : Int) (o : (Int)) (h : laws_heldPoseS K a0 a1 = some o) : CallOK Try.prog 79 [.one (sl 4 cs_Pose a0), .one (.int .i64 a1)] [.one (.int .i64 o)] := by
  refine callOK_of_AW Try.func79 rfl (by kernel_rfl) (Nat.le_of_ble_eq_true (by kernel_rfl)) ?_
  intro w0
  unfold laws_heldPoseS at h
  refine AW.seq ?_
  refine AW.regionA [] [0, 1] [] (s' := ⟨[(0, (.v (.one (.c (sl 4 cs_Pose a0))))), (1, (.v (.one (.c (.int .i64 a1)))))], []⟩) (ob := True ∧ True) (by kernel_rfl) ⟨trivial, trivial⟩ ?_
  refine thenQ_normal ?_
  refine AW.seq ?_
  refine AW.seq ?_
  refine AW.regionA [] [0, 1, 5] [] (s' := ⟨[(0, (.v (.one (.c (sl 4 cs_Pose a0))))), (1, (.v (.one (.c (.int .i64 a1))))), (5, (.v (.one (.c (.int .i64 (0 : Int))))))], []⟩) (ob := True ∧ True) (by kernel_rfl) ⟨trivial, trivial⟩ ?_
  refine thenQ_normal ?_
  refine AW.block ?_
  refine AW.loopQ (σ := Nat × Int × Int) (fun p => ⟨[(0, (.v (.one (.c (sl 4 cs_Pose a0))))), (1, (.v (.one (.c (.int .i64 p.2.1))))), (5, (.v (.one (.c (.int .i64 p.2.2)))))], []⟩) (fun p => laws_heldPoseS_l1 K a0 p.1 p.2.1 p.2.2 = some o) (fun p => p.1) (K, a1, (0 : Int)) h ?_
  clear h
  rintro ⟨k, x3, x4⟩ h
  replace h : laws_heldPoseS_l1 K a0 k x3 x4 = some o := h
  show AW _ _ (⟨[(0, (.v (.one (.c (sl 4 cs_Pose a0))))), (1, (.v (.one (.c (.int .i64 x3))))), (5, (.v (.one (.c (.int .i64 x4)))))], []⟩ : St) _
  obtain _ | k := k
  · rw [laws_heldPoseS_l1] at h; cases h
  rw [laws_heldPoseS_l1] at h
  refine AW.seq ?_
  refine AW.seq ?_
  refine AW.regionA [] [0, 1, 5, 9] [] (s' := ⟨[(0, (.v (.one (.c (sl 4 cs_Pose a0))))), (1, (.v (.one (.c (.int .i64 x3))))), (5, (.v (.one (.c (.int .i64 x4))))), (9, (.v (.one (.c (.bool (decide (x4 < (a0.length : Int))))))))], []⟩) (ob := True ∧ True ∧ True ∧ True ∧ True) (by kernel_rfl) ⟨trivial, trivial, trivial, trivial, trivial⟩ ?_
  refine thenQ_normal ?_
  rcases ite2_cases h with ⟨b5, h⟩ | ⟨b5, h⟩
  · refine AW.cond_t rfl b5 ?_
    refine AW.skip ?_
    refine thenQ_normal ?_
    refine AW.seq ?_
    refine AW.block ?_
    refine AW.seq ?_
    refine AW.seq ?_
    obtain ⟨c6, h⟩ := chk_some h
    refine AW.regionA [] [0, 1, 5, 20] [] (s' := ⟨[(0, (.v (.one (.c (sl 4 cs_Pose a0))))), (1, (.v (.one (.c (.int .i64 x3))))), (5, (.v (.one (.c (.int .i64 x4))))), (20, (.v (.one (.c (.bool ((((a0.getD x4.toNat default).Root).X).ne (Fl.ofInt .f32 x3)))))))], []⟩) (ob := True ∧ True ∧ (0 ≤ x4 ∧ x4 < (a0.length : Int)) ∧ True ∧ True ∧ True ∧ True ∧ True ∧ True ∧ True) (by kernel_rfl) ⟨trivial, trivial, c6, trivial, trivial, trivial, trivial, trivial, trivial, trivial⟩ ?_
    refine thenQ_normal ?_
    rcases ite2_cases h with ⟨b7, h⟩ | ⟨b7, h⟩
    · refine AW.cond_t rfl b7 ?_
      refine AW.seq ?_
      refine AW.regionA [] [4] [] (s' := ⟨[(4, (.v (.one (.c (.int .i64 ((-1) : Int))))))], []⟩) (ob := True ∧ True) (by kernel_rfl) ⟨trivial, trivial⟩ ?_
      refine thenQ_normal ?_
      refine AW.ret ?_
      refine thenQ_ret ?_
      refine blockQ_ret ?_
      refine thenQ_ret ?_
      refine loopQ_ret ?_
      refine blockQ_ret ?_
      refine thenQ_ret ?_
      replace h := some_eq h
      subst h
      exact ⟨.inr rfl, retOK_of [(.one (.c (.int .i64 ((-1) : Int))))] (by kernel_rfl) ⟨⟨rfl, trivial⟩, trivial⟩ (of_decide_eq_true (by kernel_rfl))⟩
    · refine AW.cond_f rfl b7 ?_
      refine AW.skip ?_
      refine thenQ_normal ?_
      refine AW.seq ?_
      refine AW.regionA [] [0, 1, 5] [] (s' := ⟨[(0, (.v (.one (.c (sl 4 cs_Pose a0))))), (1, (.v (.one (.c (.int .i64 (IntKind.i64.wrap (x3 + (1 : Int)))))))), (5, (.v (.one (.c (.int .i64 x4)))))], []⟩) (ob := True ∧ True ∧ True ∧ True) (by kernel_rfl) ⟨trivial, trivial, trivial, trivial⟩ ?_
      refine thenQ_normal ?_
      refine AW.seq ?_
      refine AW.seq ?_
      refine AW.regionA [] [0, 1, 5, 31] [] (s' := ⟨[(0, (.v (.one (.c (sl 4 cs_Pose a0))))), (1, (.v (.one (.c (.int .i64 (IntKind.i64.wrap (x3 + (1 : Int)))))))), (5, (.v (.one (.c (.int .i64 x4))))), (31, (.v (.one (.c (.bool ((((a0.getD x4.toNat default).Root).Y).ne (Fl.ofInt .f32 (IntKind.i64.wrap (x3 + (1 : Int))))))))))], []⟩) (ob := True ∧ True ∧ (0 ≤ x4 ∧ x4 < (a0.length : Int)) ∧ True ∧ True ∧ True ∧ True ∧ True ∧ True ∧ True) (by kernel_rfl) ⟨trivial, trivial, c6, trivial, trivial, trivial, trivial, trivial, trivial, trivial⟩ ?_
      refine thenQ_normal ?_
      rcases ite2_cases h with ⟨b8, h⟩ | ⟨b8, h⟩
      · refine AW.cond_t rfl b8 ?_
        refine AW.seq ?_
        refine AW.regionA [] [4] [] (s' := ⟨[(4, (.v (.one (.c (.int .i64 ((-1) : Int))))))], []⟩) (ob := True ∧ True) (by kernel_rfl) ⟨trivial, trivial⟩ ?_
        refine thenQ_normal ?_
        refine AW.ret ?_
        refine thenQ_ret ?_
        refine blockQ_ret ?_
        refine thenQ_ret ?_
        refine loopQ_ret ?_
        refine blockQ_ret ?_
        refine thenQ_ret ?_
        replace h := some_eq h
        subst h
        exact ⟨.inr rfl, retOK_of [(.one (.c (.int .i64 ((-1) : Int))))] (by kernel_rfl) ⟨⟨rfl, trivial⟩, trivial⟩ (of_decide_eq_true (by kernel_rfl))⟩
      · refine AW.cond_f rfl b8 ?_
        refine AW.skip ?_
        refine thenQ_normal ?_
        refine AW.seq ?_
        refine AW.regionA [] [0, 1, 5] [] (s' := ⟨[(0, (.v (.one (.c (sl 4 cs_Pose a0))))), (1, (.v (.one (.c (.int .i64 (IntKind.i64.wrap ((IntKind.i64.wrap (x3 + (1 : Int))) + (1 : Int)))))))), (5, (.v (.one (.c (.int .i64 x4)))))], []⟩) (ob := True ∧ True ∧ True ∧ True) (by kernel_rfl) ⟨trivial, trivial, trivial, trivial⟩ ?_
        refine thenQ_normal ?_
        refine AW.seq ?_
        refine AW.seq ?_
        refine AW.regionA [] [0, 1, 5, 42] [] (s' := ⟨[(0, (.v (.one (.c (sl 4 cs_Pose a0))))), (1, (.v (.one (.c (.int .i64 (IntKind.i64.wrap ((IntKind.i64.wrap (x3 + (1 : Int))) + (1 : Int)))))))), (5, (.v (.one (.c (.int .i64 x4))))), (42, (.v (.one (.c (.bool ((((a0.getD x4.toNat default).Root).Z).ne (Fl.ofInt .f32 (IntKind.i64.wrap ((IntKind.i64.wrap (x3 + (1 : Int))) + (1 : Int))))))))))], []⟩) (ob := True ∧ True ∧ (0 ≤ x4 ∧ x4 < (a0.length : Int)) ∧ True ∧ True ∧ True ∧ True ∧ True ∧ True ∧ True) (by kernel_rfl) ⟨trivial, trivial, c6, trivial, trivial, trivial, trivial, trivial, trivial, trivial⟩ ?_
        refine thenQ_normal ?_
        rcases ite2_cases h with ⟨b9, h⟩ | ⟨b9, h⟩
        · refine AW.cond_t rfl b9 ?_
          refine AW.seq ?_
          refine AW.regionA [] [4] [] (s' := ⟨[(4, (.v (.one (.c (.int .i64 ((-1) : Int))))))], []⟩) (ob := True ∧ True) (by kernel_rfl) ⟨trivial, trivial⟩ ?_
          refine thenQ_normal ?_
          refine AW.ret ?_
          refine thenQ_ret ?_
          refine blockQ_ret ?_
          refine thenQ_ret ?_
          refine loopQ_ret ?_
          refine blockQ_ret ?_
          refine thenQ_ret ?_
          replace h := some_eq h
          subst h
          exact ⟨.inr rfl, retOK_of [(.one (.c (.int .i64 ((-1) : Int))))] (by kernel_rfl) ⟨⟨rfl, trivial⟩, trivial⟩ (of_decide_eq_true (by kernel_rfl))⟩
        · refine AW.cond_f rfl b9 ?_
          refine AW.skip ?_
          refine thenQ_normal ?_
          refine AW.seq ?_
          refine AW.regionA [] [0, 1, 5] [] (s' := ⟨[(0, (.v (.one (.c (sl 4 cs_Pose a0))))), (1, (.v (.one (.c (.int .i64 (IntKind.i64.wrap ((IntKind.i64.wrap ((IntKind.i64.wrap (x3 + (1 : Int))) + (1 : Int))) + (1 : Int)))))))), (5, (.v (.one (.c (.int .i64 x4)))))], []⟩) (ob := True ∧ True ∧ True ∧ True) (by kernel_rfl) ⟨trivial, trivial, trivial, trivial⟩ ?_
          refine thenQ_normal ?_
          refine AW.seq ?_
          obtain ⟨v10, e11, h⟩ := bind_some h
          refine AW.regionA [.no, .no, .no, .no, .no, .no, .call [.one (sl 4 cs_Turn ((a0.getD x4.toNat default).Turns)), .one (.int .i64 (IntKind.i64.wrap ((IntKind.i64.wrap ((IntKind.i64.wrap (x3 + (1 : Int))) + (1 : Int))) + (1 : Int))))] [.one (.int .i64 v10)] [[.view]]] [0, 1, 5] [] (s' := ⟨[(0, (.v (.one (.c (sl 4 cs_Pose a0))))), (1, (.v (.one (.c (.int .i64 v10))))), (5, (.v (.one (.c (.int .i64 x4)))))], []⟩) (ob := True ∧ True ∧ (0 ≤ x4 ∧ x4 < (a0.length : Int)) ∧ True ∧ True ∧ True ∧ (((((sl 4 cs_Turn ((a0.getD x4.toNat default).Turns)) : C) = (sl 4 cs_Turn ((a0.getD x4.toNat default).Turns))) ∧ (((.int .i64 (IntKind.i64.wrap ((IntKind.i64.wrap ((IntKind.i64.wrap (x3 + (1 : Int))) + (1 : Int))) + (1 : Int)))) : C) = (.int .i64 (IntKind.i64.wrap ((IntKind.i64.wrap ((IntKind.i64.wrap (x3 + (1 : Int))) + (1 : Int))) + (1 : Int))))) ∧ True) ∧ CallOK Try.prog 124 [.one (sl 4 cs_Turn ((a0.getD x4.toNat default).Turns)), .one (.int .i64 (IntKind.i64.wrap ((IntKind.i64.wrap ((IntKind.i64.wrap (x3 + (1 : Int))) + (1 : Int))) + (1 : Int))))] [.one (.int .i64 v10)]) ∧ True ∧ True) (by kernel_rfl) ⟨trivial, trivial, c6, trivial, trivial, trivial, ⟨⟨rfl, rfl, trivial⟩, ok_laws_heldTurnS K ((a0.getD x4.toNat default).Turns) (IntKind.i64.wrap ((IntKind.i64.wrap ((IntKind.i64.wrap (x3 + (1 : Int))) + (1 : Int))) + (1 : Int))) v10 e11⟩, trivial, trivial⟩ ?_
          refine thenQ_normal ?_
          refine AW.seq ?_
          refine AW.regionA [] [0, 1, 5, 53] [] (s' := ⟨[(0, (.v (.one (.c (sl 4 cs_Pose a0))))), (1, (.v (.one (.c (.int .i64 v10))))), (5, (.v (.one (.c (.int .i64 x4))))), (53, (.v (.one (.c (.bool (decide (v10 < (0 : Int))))))))], []⟩) (ob := True ∧ True ∧ True) (by kernel_rfl) ⟨trivial, trivial, trivial⟩ ?_
          refine thenQ_normal ?_
          rcases ite2_cases h with ⟨b12, h⟩ | ⟨b12, h⟩
          · refine AW.cond_t rfl b12 ?_
            refine AW.seq ?_
            refine AW.regionA [] [4] [] (s' := ⟨[(4, (.v (.one (.c (.int .i64 ((-1) : Int))))))], []⟩) (ob := True ∧ True) (by kernel_rfl) ⟨trivial, trivial⟩ ?_
            refine thenQ_normal ?_
            refine AW.ret ?_
            refine blockQ_ret ?_
            refine thenQ_ret ?_
            refine loopQ_ret ?_
            refine blockQ_ret ?_
            refine thenQ_ret ?_
            replace h := some_eq h
            subst h
            exact ⟨.inr rfl, retOK_of [(.one (.c (.int .i64 ((-1) : Int))))] (by kernel_rfl) ⟨⟨rfl, trivial⟩, trivial⟩ (of_decide_eq_true (by kernel_rfl))⟩
          · refine AW.cond_f rfl b12 ?_
            refine AW.skip ?_
            refine blockQ_normal ?_
            refine thenQ_normal ?_
            refine AW.regionA [] [0, 1, 5] [] (s' := ⟨[(0, (.v (.one (.c (sl 4 cs_Pose a0))))), (1, (.v (.one (.c (.int .i64 v10))))), (5, (.v (.one (.c (.int .i64 (IntKind.i64.wrap (x4 + (1 : Int))))))))], []⟩) (ob := True ∧ True ∧ True ∧ True) (by kernel_rfl) ⟨trivial, trivial, trivial, trivial⟩ ?_
            exact loopQ_normal (k, v10, (IntKind.i64.wrap (x4 + (1 : Int)))) h (Nat.lt_succ_self k) (Sub.keep [0, 1, 5] [] (by kernel_rfl) (by kernel_rfl))
  · refine AW.cond_f rfl b5 ?_
    refine AW.exit ?_
    refine thenQ_exit ?_
    refine loopQ_exit ?_
    refine blockQ_exit ?_
    refine thenQ_normal ?_
    refine AW.seq ?_
    refine AW.regionA [] [4] [] (s' := ⟨[(4, (.v (.one (.c (.int .i64 x3)))))], []⟩) (ob := True ∧ True ∧ True) (by kernel_rfl) ⟨trivial, trivial, trivial⟩ ?_
    refine thenQ_normal ?_
    refine AW.ret ?_
    replace h := some_eq h
    subst h
    exact ⟨.inr rfl, retOK_of [(.one (.c (.int .i64 x3)))] (by kernel_rfl) ⟨⟨rfl, trivial⟩, trivial⟩ (of_decide_eq_true (by kernel_rfl))⟩

end
end Go.Fw
