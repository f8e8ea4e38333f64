/- Functions of the program: what each computes, and that it computes just that. -/
import Derived.Test.YtgejobicepefkaaFwTy
import Derived.Test.YtgejobicepefkaaProg
import Derived.KernelRfl
namespace Go.Fw
open Go Go.Proofs
noncomputable section
set_option maxRecDepth 10000

/-! laws.szTurnS -/
def laws_szTurnS (K : Nat) (a0 : (List Turn)) (a1 : Int) : Option (Int) :=
  ite2 ((decide ((IntKind.i64.wrap (a1 - (a0.length : Int))) < (0 : Int)))) (some ((-1) : Int)) (some (IntKind.i64.wrap (a1 - (a0.length : Int))))

theorem ok_laws_szTurnS (K : Nat) (a0 : (List Turn)) (a1 : Int) (o : (Int)) (h : laws_szTurnS K a0 a1 = some o) : CallOK Try.prog 86 [.one (sl 4 cs_Turn a0), .one (.int .i64 a1)] [.one (.int .i64 o)] := by
  refine callOK_of_AW Try.func86 rfl (by kernel_rfl) (Nat.le_of_ble_eq_true (by kernel_rfl)) ?_
  intro w0
  unfold laws_szTurnS at h
  refine AW.seq ?_
  refine AW.regionA [] [0, 1] [] (s' := ⟨[(0, (.v (.one (.c (sl 4 cs_Turn a0))))), (1, (.v (.one (.c (.int .i64 a1)))))], []⟩) (ob := True ∧ True) (by kernel_rfl) ⟨trivial, trivial⟩ ?_
  refine thenQ_normal ?_
  refine AW.seq ?_
  refine AW.regionA [] [1] [] (s' := ⟨[(1, (.v (.one (.c (.int .i64 (IntKind.i64.wrap (a1 - (a0.length : Int))))))))], []⟩) (ob := True ∧ True ∧ True ∧ True ∧ True ∧ True) (by kernel_rfl) ⟨trivial, trivial, trivial, trivial, trivial, trivial⟩ ?_
  refine thenQ_normal ?_
  refine AW.seq ?_
  refine AW.seq ?_
  refine AW.regionA [] [1, 10] [] (s' := ⟨[(1, (.v (.one (.c (.int .i64 (IntKind.i64.wrap (a1 - (a0.length : Int)))))))), (10, (.v (.one (.c (.bool (decide ((IntKind.i64.wrap (a1 - (a0.length : Int))) < (0 : Int))))))))], []⟩) (ob := True ∧ True ∧ True) (by kernel_rfl) ⟨trivial, trivial, trivial⟩ ?_
  refine thenQ_normal ?_
  rcases ite2_cases h with ⟨b1, h⟩ | ⟨b1, h⟩
  · refine AW.cond_t rfl b1 ?_
    refine AW.seq ?_
    refine AW.regionA [] [4] [] (s' := ⟨[(4, (.v (.one (.c (.int .i64 ((-1) : Int))))))], []⟩) (ob := True ∧ True) (by kernel_rfl) ⟨trivial, trivial⟩ ?_
    refine thenQ_normal ?_
    refine AW.ret ?_
    refine thenQ_ret ?_
    replace h := some_eq h
    subst h
    exact ⟨.inr rfl, retOK_of [(.one (.c (.int .i64 ((-1) : Int))))] (by kernel_rfl) ⟨⟨rfl, trivial⟩, trivial⟩ (of_decide_eq_true (by kernel_rfl))⟩
  · refine AW.cond_f rfl b1 ?_
    refine AW.skip ?_
    refine thenQ_normal ?_
    refine AW.seq ?_
    refine AW.regionA [] [4] [] (s' := ⟨[(4, (.v (.one (.c (.int .i64 (IntKind.i64.wrap (a1 - (a0.length : Int))))))))], []⟩) (ob := True ∧ True ∧ True) (by kernel_rfl) ⟨trivial, trivial, trivial⟩ ?_
    refine thenQ_normal ?_
    refine AW.ret ?_
    replace h := some_eq h
    subst h
    exact ⟨.inr rfl, retOK_of [(.one (.c (.int .i64 (IntKind.i64.wrap (a1 - (a0.length : Int))))))] (by kernel_rfl) ⟨⟨rfl, trivial⟩, trivial⟩ (of_decide_eq_true (by kernel_rfl))⟩

/-! laws.szPose -/
def laws_szPose (K : Nat) (a0 : Pose) (a1 : Int) : Option (Int) :=
  (laws_szTurnS K a0.Turns a1).bind fun v1 => ite2 ((decide (v1 < (0 : Int)))) (some ((-1) : Int)) (some v1)

theorem ok_laws_szPose (K : Nat) (a0 : Pose) (a1 : Int) (o : (Int)) (h : laws_szPose K a0 a1 = some o) : CallOK Try.prog 32 [.agg (cs_Pose a0), .one (.int .i64 a1)] [.one (.int .i64 o)] := by
  refine callOK_of_AW Try.func32 rfl (by kernel_rfl) (Nat.le_of_ble_eq_true (by kernel_rfl)) ?_
  intro w0
  unfold laws_szPose at h
  refine AW.seq ?_
  refine AW.regionA [.box 1] [1, 2] [1] (s' := ⟨[(1, (.v (.one (.c (.int .i64 a1))))), (2, (.v (.one (.ptr 1 0))))], [(1, (.box [(.c (.flt .f32 a0.Root.X.bits)), (.c (.flt .f32 a0.Root.Y.bits)), (.c (.flt .f32 a0.Root.Z.bits)), (.c (sl 4 cs_Turn a0.Turns))]))]⟩) (ob := True ∧ True ∧ True) (by kernel_rfl) ⟨trivial, trivial, trivial⟩ ?_
  refine thenQ_normal ?_
  refine AW.seq ?_
  obtain ⟨v1, e2, h⟩ := bind_some h
  refine AW.regionA [.no, .no, .no, .call [.one (sl 4 cs_Turn a0.Turns), .one (.int .i64 a1)] [.one (.int .i64 v1)] [[.view]]] [1] [] (s' := ⟨[(1, (.v (.one (.c (.int .i64 v1)))))], []⟩) (ob := True ∧ True ∧ True ∧ (((((sl 4 cs_Turn a0.Turns) : C) = (sl 4 cs_Turn a0.Turns)) ∧ (((.int .i64 a1) : C) = (.int .i64 a1)) ∧ True) ∧ CallOK Try.prog 86 [.one (sl 4 cs_Turn a0.Turns), .one (.int .i64 a1)] [.one (.int .i64 v1)]) ∧ True ∧ True) (by kernel_rfl) ⟨trivial, trivial, trivial, ⟨⟨rfl, rfl, trivial⟩, ok_laws_szTurnS K a0.Turns a1 v1 e2⟩, trivial, trivial⟩ ?_
  refine thenQ_normal ?_
  refine AW.seq ?_
  refine AW.seq ?_
  refine AW.regionA [] [1, 10] [] (s' := ⟨[(1, (.v (.one (.c (.int .i64 v1))))), (10, (.v (.one (.c (.bool (decide (v1 < (0 : Int))))))))], []⟩) (ob := True ∧ True ∧ True) (by kernel_rfl) ⟨trivial, trivial, trivial⟩ ?_
  refine thenQ_normal ?_
  rcases ite2_cases h with ⟨b3, h⟩ | ⟨b3, h⟩
  · refine AW.cond_t rfl b3 ?_
    refine AW.seq ?_
    refine AW.regionA [] [4] [] (s' := ⟨[(4, (.v (.one (.c (.int .i64 ((-1) : Int))))))], []⟩) (ob := True ∧ True) (by kernel_rfl) ⟨trivial, trivial⟩ ?_
    refine thenQ_normal ?_
    refine AW.ret ?_
    refine thenQ_ret ?_
    replace h := some_eq h
    subst h
    exact ⟨.inr rfl, retOK_of [(.one (.c (.int .i64 ((-1) : Int))))] (by kernel_rfl) ⟨⟨rfl, trivial⟩, trivial⟩ (of_decide_eq_true (by kernel_rfl))⟩
  · refine AW.cond_f rfl b3 ?_
    refine AW.skip ?_
    refine thenQ_normal ?_
    refine AW.seq ?_
    refine AW.regionA [] [4] [] (s' := ⟨[(4, (.v (.one (.c (.int .i64 v1)))))], []⟩) (ob := True ∧ True ∧ True) (by kernel_rfl) ⟨trivial, trivial, trivial⟩ ?_
    refine thenQ_normal ?_
    refine AW.ret ?_
    replace h := some_eq h
    subst h
    exact ⟨.inr rfl, retOK_of [(.one (.c (.int .i64 v1)))] (by kernel_rfl) ⟨⟨rfl, trivial⟩, trivial⟩ (of_decide_eq_true (by kernel_rfl))⟩

/-! laws.szPoseS -/
def laws_szPoseS_l1 (K : Nat) (a0 : (List Pose)) : Nat → Int → Int → Option (Int)
  | 0, _, _ => none
  | k + 1, x4, x5 => ite2 ((decide (x5 < (a0.length : Int)))) (chk (0 ≤ x5 ∧ x5 < (a0.length : Int)) ((laws_szPose K (a0.getD x5.toNat default) x4).bind fun v8 => ite2 ((decide (v8 < (0 : Int)))) (some ((-1) : Int)) (laws_szPoseS_l1 K a0 k v8 (IntKind.i64.wrap (x5 + (1 : Int)))))) (some x4)

def laws_szPoseS (K : Nat) (a0 : (List Pose)) (a1 : Int) : Option (Int) :=
  ite2 ((decide ((IntKind.i64.wrap (a1 - (a0.length : Int))) < (0 : Int)))) (some ((-1) : Int)) (laws_szPoseS_l1 K a0 K (IntKind.i64.wrap (a1 - (a0.length : Int))) (0 : Int))

theorem ok_laws_szPoseS (K : Nat) (a0 : (List Pose)) (a1 : Int) (o : (Int)) (h : laws_szPoseS K a0 a1 = some o) : CallOK Try.prog 72 [.one (sl 4 cs_Pose a0), .one (.int .i64 a1)] [.one (.int .i64 o)] := by
  refine callOK_of_AW Try.func72 rfl (by kernel_rfl) (Nat.le_of_ble_eq_true (by kernel_rfl)) ?_
  intro w0
  unfold laws_szPoseS at h
  refine AW.seq ?_
  refine AW.regionA [] [0, 1] [] (s' := ⟨[(0, (.v (.one (.c (sl 4 cs_Pose a0))))), (1, (.v (.one (.c (.int .i64 a1)))))], []⟩) (ob := True ∧ True) (by kernel_rfl) ⟨trivial, trivial⟩ ?_
  refine thenQ_normal ?_
  refine AW.seq ?_
  refine AW.regionA [] [0, 1] [] (s' := ⟨[(0, (.v (.one (.c (sl 4 cs_Pose a0))))), (1, (.v (.one (.c (.int .i64 (IntKind.i64.wrap (a1 - (a0.length : Int))))))))], []⟩) (ob := True ∧ True ∧ True ∧ True ∧ True ∧ True) (by kernel_rfl) ⟨trivial, trivial, trivial, trivial, trivial, trivial⟩ ?_
  refine thenQ_normal ?_
  refine AW.seq ?_
  refine AW.seq ?_
  refine AW.regionA [] [0, 1, 11] [] (s' := ⟨[(0, (.v (.one (.c (sl 4 cs_Pose a0))))), (1, (.v (.one (.c (.int .i64 (IntKind.i64.wrap (a1 - (a0.length : Int)))))))), (11, (.v (.one (.c (.bool (decide ((IntKind.i64.wrap (a1 - (a0.length : Int))) < (0 : Int))))))))], []⟩) (ob := True ∧ True ∧ True) (by kernel_rfl) ⟨trivial, trivial, trivial⟩ ?_
  refine thenQ_normal ?_
  rcases ite2_cases h with ⟨b1, h⟩ | ⟨b1, h⟩
  · refine AW.cond_t rfl b1 ?_
    refine AW.seq ?_
    refine AW.regionA [] [4] [] (s' := ⟨[(4, (.v (.one (.c (.int .i64 ((-1) : Int))))))], []⟩) (ob := True ∧ True) (by kernel_rfl) ⟨trivial, trivial⟩ ?_
    refine thenQ_normal ?_
    refine AW.ret ?_
    refine thenQ_ret ?_
    replace h := some_eq h
    subst h
    exact ⟨.inr rfl, retOK_of [(.one (.c (.int .i64 ((-1) : Int))))] (by kernel_rfl) ⟨⟨rfl, trivial⟩, trivial⟩ (of_decide_eq_true (by kernel_rfl))⟩
  · refine AW.cond_f rfl b1 ?_
    refine AW.skip ?_
    refine thenQ_normal ?_
    refine AW.seq ?_
    refine AW.seq ?_
    refine AW.regionA [] [0, 1, 5] [] (s' := ⟨[(0, (.v (.one (.c (sl 4 cs_Pose a0))))), (1, (.v (.one (.c (.int .i64 (IntKind.i64.wrap (a1 - (a0.length : Int)))))))), (5, (.v (.one (.c (.int .i64 (0 : Int))))))], []⟩) (ob := True ∧ True) (by kernel_rfl) ⟨trivial, trivial⟩ ?_
    refine thenQ_normal ?_
    refine AW.block ?_
    refine AW.loopQ (σ := Nat × Int × Int) (fun p => ⟨[(0, (.v (.one (.c (sl 4 cs_Pose a0))))), (1, (.v (.one (.c (.int .i64 p.2.1))))), (5, (.v (.one (.c (.int .i64 p.2.2)))))], []⟩) (fun p => laws_szPoseS_l1 K a0 p.1 p.2.1 p.2.2 = some o) (fun p => p.1) (K, (IntKind.i64.wrap (a1 - (a0.length : Int))), (0 : Int)) h ?_
    clear h
    rintro ⟨k, x4, x5⟩ h
    replace h : laws_szPoseS_l1 K a0 k x4 x5 = some o := h
    show AW _ _ (⟨[(0, (.v (.one (.c (sl 4 cs_Pose a0))))), (1, (.v (.one (.c (.int .i64 x4))))), (5, (.v (.one (.c (.int .i64 x5)))))], []⟩ : St) _
    obtain _ | k := k
    · rw [laws_szPoseS_l1] at h; cases h
    rw [laws_szPoseS_l1] at h
    refine AW.seq ?_
    refine AW.seq ?_
    refine AW.regionA [] [0, 1, 5, 15] [] (s' := ⟨[(0, (.v (.one (.c (sl 4 cs_Pose a0))))), (1, (.v (.one (.c (.int .i64 x4))))), (5, (.v (.one (.c (.int .i64 x5))))), (15, (.v (.one (.c (.bool (decide (x5 < (a0.length : Int))))))))], []⟩) (ob := True ∧ True ∧ True ∧ True ∧ True) (by kernel_rfl) ⟨trivial, trivial, trivial, trivial, trivial⟩ ?_
    refine thenQ_normal ?_
    rcases ite2_cases h with ⟨b6, h⟩ | ⟨b6, h⟩
    · refine AW.cond_t rfl b6 ?_
      refine AW.skip ?_
      refine thenQ_normal ?_
      refine AW.seq ?_
      refine AW.block ?_
      refine AW.seq ?_
      obtain ⟨c7, h⟩ := chk_some h
      obtain ⟨v8, e9, h⟩ := bind_some h
      refine AW.regionA [.no, .no, .no, .no, .no, .call [.agg (cs_Pose (a0.getD x5.toNat default)), .one (.int .i64 x4)] [.one (.int .i64 v8)] [[.view]]] [0, 1, 5] [] (s' := ⟨[(0, (.v (.one (.c (sl 4 cs_Pose a0))))), (1, (.v (.one (.c (.int .i64 v8))))), (5, (.v (.one (.c (.int .i64 x5)))))], []⟩) (ob := True ∧ True ∧ (0 ≤ x5 ∧ x5 < (a0.length : Int)) ∧ True ∧ True ∧ ((((((.flt .f32 (((a0.getD x5.toNat default).Root).X).bits) : C) = (.flt .f32 (((a0.getD x5.toNat default).Root).X).bits)) ∧ (((.flt .f32 (((a0.getD x5.toNat default).Root).Y).bits) : C) = (.flt .f32 (((a0.getD x5.toNat default).Root).Y).bits)) ∧ (((.flt .f32 (((a0.getD x5.toNat default).Root).Z).bits) : C) = (.flt .f32 (((a0.getD x5.toNat default).Root).Z).bits)) ∧ (((sl 4 cs_Turn ((a0.getD x5.toNat default).Turns)) : C) = (sl 4 cs_Turn ((a0.getD x5.toNat default).Turns))) ∧ True) ∧ (((.int .i64 x4) : C) = (.int .i64 x4)) ∧ True) ∧ CallOK Try.prog 32 [.agg (cs_Pose (a0.getD x5.toNat default)), .one (.int .i64 x4)] [.one (.int .i64 v8)]) ∧ True ∧ True) (by kernel_rfl) ⟨trivial, trivial, c7, trivial, trivial, ⟨⟨⟨rfl, rfl, rfl, rfl, trivial⟩, rfl, trivial⟩, ok_laws_szPose K (a0.getD x5.toNat default) x4 v8 e9⟩, trivial, trivial⟩ ?_
      refine thenQ_normal ?_
      refine AW.seq ?_
      refine AW.regionA [] [0, 1, 5, 25] [] (s' := ⟨[(0, (.v (.one (.c (sl 4 cs_Pose a0))))), (1, (.v (.one (.c (.int .i64 v8))))), (5, (.v (.one (.c (.int .i64 x5))))), (25, (.v (.one (.c (.bool (decide (v8 < (0 : Int))))))))], []⟩) (ob := True ∧ True ∧ True) (by kernel_rfl) ⟨trivial, trivial, trivial⟩ ?_
      refine thenQ_normal ?_
      rcases ite2_cases h with ⟨b10, h⟩ | ⟨b10, h⟩
      · refine AW.cond_t rfl b10 ?_
        refine AW.seq ?_
        refine AW.regionA [] [4] [] (s' := ⟨[(4, (.v (.one (.c (.int .i64 ((-1) : Int))))))], []⟩) (ob := True ∧ True) (by kernel_rfl) ⟨trivial, trivial⟩ ?_
        refine thenQ_normal ?_
        refine AW.ret ?_
        refine blockQ_ret ?_
        refine thenQ_ret ?_
        refine loopQ_ret ?_
        refine blockQ_ret ?_
        refine thenQ_ret ?_
        replace h := some_eq h
        subst h
        exact ⟨.inr rfl, retOK_of [(.one (.c (.int .i64 ((-1) : Int))))] (by kernel_rfl) ⟨⟨rfl, trivial⟩, trivial⟩ (of_decide_eq_true (by kernel_rfl))⟩
      · refine AW.cond_f rfl b10 ?_
        refine AW.skip ?_
        refine blockQ_normal ?_
        refine thenQ_normal ?_
        refine AW.regionA [] [0, 1, 5] [] (s' := ⟨[(0, (.v (.one (.c (sl 4 cs_Pose a0))))), (1, (.v (.one (.c (.int .i64 v8))))), (5, (.v (.one (.c (.int .i64 (IntKind.i64.wrap (x5 + (1 : Int))))))))], []⟩) (ob := True ∧ True ∧ True ∧ True) (by kernel_rfl) ⟨trivial, trivial, trivial, trivial⟩ ?_
        exact loopQ_normal (k, v8, (IntKind.i64.wrap (x5 + (1 : Int)))) h (Nat.lt_succ_self k) (Sub.keep [0, 1, 5] [] (by kernel_rfl) (by kernel_rfl))
    · refine AW.cond_f rfl b6 ?_
      refine AW.exit ?_
      refine thenQ_exit ?_
      refine loopQ_exit ?_
      refine blockQ_exit ?_
      refine thenQ_normal ?_
      refine AW.seq ?_
      refine AW.regionA [] [4] [] (s' := ⟨[(4, (.v (.one (.c (.int .i64 x4)))))], []⟩) (ob := True ∧ True ∧ True) (by kernel_rfl) ⟨trivial, trivial, trivial⟩ ?_
      refine thenQ_normal ?_
      refine AW.ret ?_
      replace h := some_eq h
      subst h
      exact ⟨.inr rfl, retOK_of [(.one (.c (.int .i64 x4)))] (by kernel_rfl) ⟨⟨rfl, trivial⟩, trivial⟩ (of_decide_eq_true (by kernel_rfl))⟩

/-! laws.szBoneS -/
def laws_szBoneS (K : Nat) (a0 : (List Bone)) (a1 : Int) : Option (Int) :=
  ite2 ((decide ((IntKind.i64.wrap (a1 - (a0.length : Int))) < (0 : Int)))) (some ((-1) : Int)) (some (IntKind.i64.wrap (a1 - (a0.length : Int))))

theorem ok_laws_szBoneS (K : Nat) (a0 : (List Bone)) (a1 : Int) (o : (Int)) (h : laws_szBoneS K a0 a1 = some o) : CallOK Try.prog 146 [.one (sl 4 cs_Bone a0), .one (.int .i64 a1)] [.one (.int .i64 o)] := by
  refine callOK_of_AW Try.func146 rfl (by kernel_rfl) (Nat.le_of_ble_eq_true (by kernel_rfl)) ?_
  intro w0
  unfold laws_szBoneS at h
  refine AW.seq ?_
  refine AW.regionA [] [0, 1] [] (s' := ⟨[(0, (.v (.one (.c (sl 4 cs_Bone a0))))), (1, (.v (.one (.c (.int .i64 a1)))))], []⟩) (ob := True ∧ True) (by kernel_rfl) ⟨trivial, trivial⟩ ?_
  refine thenQ_normal ?_
  refine AW.seq ?_
  refine AW.regionA [] [1] [] (s' := ⟨[(1, (.v (.one (.c (.int .i64 (IntKind.i64.wrap (a1 - (a0.length : Int))))))))], []⟩) (ob := True ∧ True ∧ True ∧ True ∧ True ∧ True) (by kernel_rfl) ⟨trivial, trivial, trivial, trivial, trivial, trivial⟩ ?_
  refine thenQ_normal ?_
  refine AW.seq ?_
  refine AW.seq ?_
  refine AW.regionA [] [1, 10] [] (s' := ⟨[(1, (.v (.one (.c (.int .i64 (IntKind.i64.wrap (a1 - (a0.length : Int)))))))), (10, (.v (.one (.c (.bool (decide ((IntKind.i64.wrap (a1 - (a0.length : Int))) < (0 : Int))))))))], []⟩) (ob := True ∧ True ∧ True) (by kernel_rfl) ⟨trivial, trivial, trivial⟩ ?_
  refine thenQ_normal ?_
  rcases ite2_cases h with ⟨b1, h⟩ | ⟨b1, h⟩
  · refine AW.cond_t rfl b1 ?_
    refine AW.seq ?_
    refine AW.regionA [] [4] [] (s' := ⟨[(4, (.v (.one (.c (.int .i64 ((-1) : Int))))))], []⟩) (ob := True ∧ True) (by kernel_rfl) ⟨trivial, trivial⟩ ?_
    refine thenQ_normal ?_
    refine AW.ret ?_
    refine thenQ_ret ?_
    replace h := some_eq h
    subst h
    exact ⟨.inr rfl, retOK_of [(.one (.c (.int .i64 ((-1) : Int))))] (by kernel_rfl) ⟨⟨rfl, trivial⟩, trivial⟩ (of_decide_eq_true (by kernel_rfl))⟩
  · refine AW.cond_f rfl b1 ?_
    refine AW.skip ?_
    refine thenQ_normal ?_
    refine AW.seq ?_
    refine AW.regionA [] [4] [] (s' := ⟨[(4, (.v (.one (.c (.int .i64 (IntKind.i64.wrap (a1 - (a0.length : Int))))))))], []⟩) (ob := True ∧ True ∧ True) (by kernel_rfl) ⟨trivial, trivial, trivial⟩ ?_
    refine thenQ_normal ?_
    refine AW.ret ?_
    replace h := some_eq h
    subst h
    exact ⟨.inr rfl, retOK_of [(.one (.c (.int .i64 (IntKind.i64.wrap (a1 - (a0.length : Int))))))] (by kernel_rfl) ⟨⟨rfl, trivial⟩, trivial⟩ (of_decide_eq_true (by kernel_rfl))⟩

/-! laws.szSkeleton -/
def laws_szSkeleton (K : Nat) (a0 : Skeleton) (a1 : Int) : Option (Int) :=
  (laws_szBoneS K a0.Bones a1).bind fun v1 => ite2 ((decide (v1 < (0 : Int)))) (some ((-1) : Int)) (some v1)

theorem ok_laws_szSkeleton (K : Nat) (a0 : Skeleton) (a1 : Int) (o : (Int)) (h : laws_szSkeleton K a0 a1 = some o) : CallOK Try.prog 111 [.agg (cs_Skeleton a0), .one (.int .i64 a1)] [.one (.int .i64 o)] := by
  refine callOK_of_AW Try.func111 rfl (by kernel_rfl) (Nat.le_of_ble_eq_true (by kernel_rfl)) ?_
  intro w0
  unfold laws_szSkeleton at h
  refine AW.seq ?_
  refine AW.regionA [.box 1] [1, 2] [1] (s' := ⟨[(1, (.v (.one (.c (.int .i64 a1))))), (2, (.v (.one (.ptr 1 0))))], [(1, (.box [(.c (sl 4 cs_Bone a0.Bones))]))]⟩) (ob := True ∧ True ∧ True) (by kernel_rfl) ⟨trivial, trivial, trivial⟩ ?_
  refine thenQ_normal ?_
  refine AW.seq ?_
  obtain ⟨v1, e2, h⟩ := bind_some h
  refine AW.regionA [.no, .no, .no, .call [.one (sl 4 cs_Bone a0.Bones), .one (.int .i64 a1)] [.one (.int .i64 v1)] [[.view]]] [1] [] (s' := ⟨[(1, (.v (.one (.c (.int .i64 v1)))))], []⟩) (ob := True ∧ True ∧ True ∧ (((((sl 4 cs_Bone a0.Bones) : C) = (sl 4 cs_Bone a0.Bones)) ∧ (((.int .i64 a1) : C) = (.int .i64 a1)) ∧ True) ∧ CallOK Try.prog 146 [.one (sl 4 cs_Bone a0.Bones), .one (.int .i64 a1)] [.one (.int .i64 v1)]) ∧ True ∧ True) (by kernel_rfl) ⟨trivial, trivial, trivial, ⟨⟨rfl, rfl, trivial⟩, ok_laws_szBoneS K a0.Bones a1 v1 e2⟩, trivial, trivial⟩ ?_
  refine thenQ_normal ?_
  refine AW.seq ?_
  refine AW.seq ?_
  refine AW.regionA [] [1, 10] [] (s' := ⟨[(1, (.v (.one (.c (.int .i64 v1))))), (10, (.v (.one (.c (.bool (decide (v1 < (0 : Int))))))))], []⟩) (ob := True ∧ True ∧ True) (by kernel_rfl) ⟨trivial, trivial, trivial⟩ ?_
  refine thenQ_normal ?_
  rcases ite2_cases h with ⟨b3, h⟩ | ⟨b3, h⟩
  · refine AW.cond_t rfl b3 ?_
    refine AW.seq ?_
    refine AW.regionA [] [4] [] (s' := ⟨[(4, (.v (.one (.c (.int .i64 ((-1) : Int))))))], []⟩) (ob := True ∧ True) (by kernel_rfl) ⟨trivial, trivial⟩ ?_
    refine thenQ_normal ?_
    refine AW.ret ?_
    refine thenQ_ret ?_
    replace h := some_eq h
    subst h
    exact ⟨.inr rfl, retOK_of [(.one (.c (.int .i64 ((-1) : Int))))] (by kernel_rfl) ⟨⟨rfl, trivial⟩, trivial⟩ (of_decide_eq_true (by kernel_rfl))⟩
  · refine AW.cond_f rfl b3 ?_
    refine AW.skip ?_
    refine thenQ_normal ?_
    refine AW.seq ?_
    refine AW.regionA [] [4] [] (s' := ⟨[(4, (.v (.one (.c (.int .i64 v1)))))], []⟩) (ob := True ∧ True ∧ True) (by kernel_rfl) ⟨trivial, trivial, trivial⟩ ?_
    refine thenQ_normal ?_
    refine AW.ret ?_
    replace h := some_eq h
    subst h
    exact ⟨.inr rfl, retOK_of [(.one (.c (.int .i64 v1)))] (by kernel_rfl) ⟨⟨rfl, trivial⟩, trivial⟩ (of_decide_eq_true (by kernel_rfl))⟩

/-! laws.szStringS -/
def laws_szStringS_l1 (K : Nat) (a0 : (List ByteArray)) : Nat → Int → Int → Option (Int)
  | 0, _, _ => none
  | k + 1, x4, x5 => ite2 ((decide (x5 < (a0.length : Int)))) (chk (0 ≤ x5 ∧ x5 < (a0.length : Int)) (ite2 ((decide ((IntKind.i64.wrap (x4 - ((a0.getD x5.toNat default).size : Int))) < (0 : Int)))) (some ((-1) : Int)) (laws_szStringS_l1 K a0 k (IntKind.i64.wrap (x4 - ((a0.getD x5.toNat default).size : Int))) (IntKind.i64.wrap (x5 + (1 : Int)))))) (some x4)

def laws_szStringS (K : Nat) (a0 : (List ByteArray)) (a1 : Int) : Option (Int) :=
  ite2 ((decide ((IntKind.i64.wrap (a1 - (a0.length : Int))) < (0 : Int)))) (some ((-1) : Int)) (laws_szStringS_l1 K a0 K (IntKind.i64.wrap (a1 - (a0.length : Int))) (0 : Int))

theorem ok_laws_szStringS (K : Nat) (a0 : (List ByteArray)) (a1 : Int) (o : (Int)) (h : laws_szStringS K a0 a1 = some o) : CallOK Try.prog 112 [.one (sl 1 csS a0), .one (.int .i64 a1)] [.one (.int .i64 o)] := by
  refine callOK_of_AW Try.func112 rfl (by kernel_rfl) (Nat.le_of_ble_eq_true (by kernel_rfl)) ?_
  intro w0
  unfold laws_szStringS at h
  refine AW.seq ?_
  refine AW.regionA [] [0, 1] [] (s' := ⟨[(0, (.v (.one (.c (sl 1 csS a0))))), (1, (.v (.one (.c (.int .i64 a1)))))], []⟩) (ob := True ∧ True) (by kernel_rfl) ⟨trivial, trivial⟩ ?_
  refine thenQ_normal ?_
  refine AW.seq ?_
  refine AW.regionA [] [0, 1] [] (s' := ⟨[(0, (.v (.one (.c (sl 1 csS a0))))), (1, (.v (.one (.c (.int .i64 (IntKind.i64.wrap (a1 - (a0.length : Int))))))))], []⟩) (ob := True ∧ True ∧ True ∧ True ∧ True ∧ True) (by kernel_rfl) ⟨trivial, trivial, trivial, trivial, trivial, trivial⟩ ?_
  refine thenQ_normal ?_
  refine AW.seq ?_
  refine AW.seq ?_
  refine AW.regionA [] [0, 1, 11] [] (s' := ⟨[(0, (.v (.one (.c (sl 1 csS a0))))), (1, (.v (.one (.c (.int .i64 (IntKind.i64.wrap (a1 - (a0.length : Int)))))))), (11, (.v (.one (.c (.bool (decide ((IntKind.i64.wrap (a1 - (a0.length : Int))) < (0 : Int))))))))], []⟩) (ob := True ∧ True ∧ True) (by kernel_rfl) ⟨trivial, trivial, trivial⟩ ?_
  refine thenQ_normal ?_
  rcases ite2_cases h with ⟨b1, h⟩ | ⟨b1, h⟩
  · refine AW.cond_t rfl b1 ?_
    refine AW.seq ?_
    refine AW.regionA [] [4] [] (s' := ⟨[(4, (.v (.one (.c (.int .i64 ((-1) : Int))))))], []⟩) (ob := True ∧ True) (by kernel_rfl) ⟨trivial, trivial⟩ ?_
    refine thenQ_normal ?_
    refine AW.ret ?_
    refine thenQ_ret ?_
    replace h := some_eq h
    subst h
    exact ⟨.inr rfl, retOK_of [(.one (.c (.int .i64 ((-1) : Int))))] (by kernel_rfl) ⟨⟨rfl, trivial⟩, trivial⟩ (of_decide_eq_true (by kernel_rfl))⟩
  · refine AW.cond_f rfl b1 ?_
    refine AW.skip ?_
    refine thenQ_normal ?_
    refine AW.seq ?_
    refine AW.seq ?_
    refine AW.regionA [] [0, 1, 5] [] (s' := ⟨[(0, (.v (.one (.c (sl 1 csS a0))))), (1, (.v (.one (.c (.int .i64 (IntKind.i64.wrap (a1 - (a0.length : Int)))))))), (5, (.v (.one (.c (.int .i64 (0 : Int))))))], []⟩) (ob := True ∧ True) (by kernel_rfl) ⟨trivial, trivial⟩ ?_
    refine thenQ_normal ?_
    refine AW.block ?_
    refine AW.loopQ (σ := Nat × Int × Int) (fun p => ⟨[(0, (.v (.one (.c (sl 1 csS a0))))), (1, (.v (.one (.c (.int .i64 p.2.1))))), (5, (.v (.one (.c (.int .i64 p.2.2)))))], []⟩) (fun p => laws_szStringS_l1 K a0 p.1 p.2.1 p.2.2 = some o) (fun p => p.1) (K, (IntKind.i64.wrap (a1 - (a0.length : Int))), (0 : Int)) h ?_
    clear h
    rintro ⟨k, x4, x5⟩ h
    replace h : laws_szStringS_l1 K a0 k x4 x5 = some o := h
    show AW _ _ (⟨[(0, (.v (.one (.c (sl 1 csS a0))))), (1, (.v (.one (.c (.int .i64 x4))))), (5, (.v (.one (.c (.int .i64 x5)))))], []⟩ : St) _
    obtain _ | k := k
    · rw [laws_szStringS_l1] at h; cases h
    rw [laws_szStringS_l1] at h
    refine AW.seq ?_
    refine AW.seq ?_
    refine AW.regionA [] [0, 1, 5, 15] [] (s' := ⟨[(0, (.v (.one (.c (sl 1 csS a0))))), (1, (.v (.one (.c (.int .i64 x4))))), (5, (.v (.one (.c (.int .i64 x5))))), (15, (.v (.one (.c (.bool (decide (x5 < (a0.length : Int))))))))], []⟩) (ob := True ∧ True ∧ True ∧ True ∧ True) (by kernel_rfl) ⟨trivial, trivial, trivial, trivial, trivial⟩ ?_
    refine thenQ_normal ?_
    rcases ite2_cases h with ⟨b6, h⟩ | ⟨b6, h⟩
    · refine AW.cond_t rfl b6 ?_
      refine AW.skip ?_
      refine thenQ_normal ?_
      refine AW.seq ?_
      refine AW.block ?_
      refine AW.seq ?_
      obtain ⟨c7, h⟩ := chk_some h
      refine AW.regionA [] [0, 1, 5] [] (s' := ⟨[(0, (.v (.one (.c (sl 1 csS a0))))), (1, (.v (.one (.c (.int .i64 (IntKind.i64.wrap (x4 - ((a0.getD x5.toNat default).size : Int)))))))), (5, (.v (.one (.c (.int .i64 x5)))))], []⟩) (ob := True ∧ True ∧ True ∧ (0 ≤ x5 ∧ x5 < (a0.length : Int)) ∧ True ∧ True ∧ True ∧ True ∧ True) (by kernel_rfl) ⟨trivial, trivial, trivial, c7, trivial, trivial, trivial, trivial, trivial⟩ ?_
      refine thenQ_normal ?_
      refine AW.seq ?_
      refine AW.regionA [] [0, 1, 5, 26] [] (s' := ⟨[(0, (.v (.one (.c (sl 1 csS a0))))), (1, (.v (.one (.c (.int .i64 (IntKind.i64.wrap (x4 - ((a0.getD x5.toNat default).size : Int)))))))), (5, (.v (.one (.c (.int .i64 x5))))), (26, (.v (.one (.c (.bool (decide ((IntKind.i64.wrap (x4 - ((a0.getD x5.toNat default).size : Int))) < (0 : Int))))))))], []⟩) (ob := True ∧ True ∧ True) (by kernel_rfl) ⟨trivial, trivial, trivial⟩ ?_
      refine thenQ_normal ?_
      rcases ite2_cases h with ⟨b8, h⟩ | ⟨b8, h⟩
      · refine AW.cond_t rfl b8 ?_
        refine AW.seq ?_
        refine AW.regionA [] [4] [] (s' := ⟨[(4, (.v (.one (.c (.int .i64 ((-1) : Int))))))], []⟩) (ob := True ∧ True) (by kernel_rfl) ⟨trivial, trivial⟩ ?_
        refine thenQ_normal ?_
        refine AW.ret ?_
        refine blockQ_ret ?_
        refine thenQ_ret ?_
        refine loopQ_ret ?_
        refine blockQ_ret ?_
        refine thenQ_ret ?_
        replace h := some_eq h
        subst h
        exact ⟨.inr rfl, retOK_of [(.one (.c (.int .i64 ((-1) : Int))))] (by kernel_rfl) ⟨⟨rfl, trivial⟩, trivial⟩ (of_decide_eq_true (by kernel_rfl))⟩
      · refine AW.cond_f rfl b8 ?_
        refine AW.skip ?_
        refine blockQ_normal ?_
        refine thenQ_normal ?_
        refine AW.regionA [] [0, 1, 5] [] (s' := ⟨[(0, (.v (.one (.c (sl 1 csS a0))))), (1, (.v (.one (.c (.int .i64 (IntKind.i64.wrap (x4 - ((a0.getD x5.toNat default).size : Int)))))))), (5, (.v (.one (.c (.int .i64 (IntKind.i64.wrap (x5 + (1 : Int))))))))], []⟩) (ob := True ∧ True ∧ True ∧ True) (by kernel_rfl) ⟨trivial, trivial, trivial, trivial⟩ ?_
        exact loopQ_normal (k, (IntKind.i64.wrap (x4 - ((a0.getD x5.toNat default).size : Int))), (IntKind.i64.wrap (x5 + (1 : Int)))) h (Nat.lt_succ_self k) (Sub.keep [0, 1, 5] [] (by kernel_rfl) (by kernel_rfl))
    · refine AW.cond_f rfl b6 ?_
      refine AW.exit ?_
      refine thenQ_exit ?_
      refine loopQ_exit ?_
      refine blockQ_exit ?_
      refine thenQ_normal ?_
      refine AW.seq ?_
      refine AW.regionA [] [4] [] (s' := ⟨[(4, (.v (.one (.c (.int .i64 x4)))))], []⟩) (ob := True ∧ True ∧ True) (by kernel_rfl) ⟨trivial, trivial, trivial⟩ ?_
      refine thenQ_normal ?_
      refine AW.ret ?_
      replace h := some_eq h
      subst h
      exact ⟨.inr rfl, retOK_of [(.one (.c (.int .i64 x4)))] (by kernel_rfl) ⟨⟨rfl, trivial⟩, trivial⟩ (of_decide_eq_true (by kernel_rfl))⟩

/-! laws.szStage -/
def laws_szStage (K : Nat) (a0 : Stage) (a1 : Int) : Option (Int) :=
  (laws_szSkeleton K a0.Skeleton a1).bind fun v1 => ite2 ((decide (v1 < (0 : Int)))) (some ((-1) : Int)) ((laws_szStringS K a0.Names v1).bind fun v4 => ite2 ((decide (v4 < (0 : Int)))) (some ((-1) : Int)) ((laws_szPoseS K a0.Poses v4).bind fun v7 => ite2 ((decide (v7 < (0 : Int)))) (some ((-1) : Int)) (some v7)))

theorem ok_laws_szStage (K : Nat) (a0 : Stage) (a1 : Int) (o : (Int)) (h : laws_szStage K a0 a1 = some o) : CallOK Try.prog 59 [.agg (cs_Stage a0), .one (.int .i64 a1)] [.one (.int .i64 o)] := by
  refine callOK_of_AW Try.func59 rfl (by kernel_rfl) (Nat.le_of_ble_eq_true (by kernel_rfl)) ?_
  intro w0
  unfold laws_szStage at h
  refine AW.seq ?_
  refine AW.regionA [.box 1] [1, 2] [1] (s' := ⟨[(1, (.v (.one (.c (.int .i64 a1))))), (2, (.v (.one (.ptr 1 0))))], [(1, (.box [(.c (sl 4 cs_Bone a0.Skeleton.Bones)), (.c (sl 1 csS a0.Names)), (.c (sl 4 cs_Pose a0.Poses))]))]⟩) (ob := True ∧ True ∧ True) (by kernel_rfl) ⟨trivial, trivial, trivial⟩ ?_
  refine thenQ_normal ?_
  refine AW.seq ?_
  obtain ⟨v1, e2, h⟩ := bind_some h
  refine AW.regionA [.no, .no, .no, .call [.agg (cs_Skeleton a0.Skeleton), .one (.int .i64 a1)] [.one (.int .i64 v1)] [[.view]]] [1, 2] [1] (s' := ⟨[(1, (.v (.one (.c (.int .i64 v1))))), (2, (.v (.one (.ptr 1 0))))], [(1, (.box [(.c (sl 4 cs_Bone a0.Skeleton.Bones)), (.c (sl 1 csS a0.Names)), (.c (sl 4 cs_Pose a0.Poses))]))]⟩) (ob := True ∧ True ∧ True ∧ ((((((sl 4 cs_Bone a0.Skeleton.Bones) : C) = (sl 4 cs_Bone a0.Skeleton.Bones)) ∧ True) ∧ (((.int .i64 a1) : C) = (.int .i64 a1)) ∧ True) ∧ CallOK Try.prog 111 [.agg (cs_Skeleton a0.Skeleton), .one (.int .i64 a1)] [.one (.int .i64 v1)]) ∧ True ∧ True) (by kernel_rfl) ⟨trivial, trivial, trivial, ⟨⟨⟨rfl, trivial⟩, rfl, trivial⟩, ok_laws_szSkeleton K a0.Skeleton a1 v1 e2⟩, trivial, trivial⟩ ?_
  refine thenQ_normal ?_
  refine AW.seq ?_
  refine AW.seq ?_
  refine AW.regionA [] [1, 2, 10] [1] (s' := ⟨[(1, (.v (.one (.c (.int .i64 v1))))), (2, (.v (.one (.ptr 1 0)))), (10, (.v (.one (.c (.bool (decide (v1 < (0 : Int))))))))], [(1, (.box [(.c (sl 4 cs_Bone a0.Skeleton.Bones)), (.c (sl 1 csS a0.Names)), (.c (sl 4 cs_Pose a0.Poses))]))]⟩) (ob := True ∧ True ∧ True) (by kernel_rfl) ⟨trivial, trivial, trivial⟩ ?_
  refine thenQ_normal ?_
  rcases ite2_cases h with ⟨b3, h⟩ | ⟨b3, h⟩
  · refine AW.cond_t rfl b3 ?_
    refine AW.seq ?_
    refine AW.regionA [] [4] [] (s' := ⟨[(4, (.v (.one (.c (.int .i64 ((-1) : Int))))))], []⟩) (ob := True ∧ True) (by kernel_rfl) ⟨trivial, trivial⟩ ?_
    refine thenQ_normal ?_
    refine AW.ret ?_
    refine thenQ_ret ?_
    replace h := some_eq h
    subst h
    exact ⟨.inr rfl, retOK_of [(.one (.c (.int .i64 ((-1) : Int))))] (by kernel_rfl) ⟨⟨rfl, trivial⟩, trivial⟩ (of_decide_eq_true (by kernel_rfl))⟩
  · refine AW.cond_f rfl b3 ?_
    refine AW.skip ?_
    refine thenQ_normal ?_
    refine AW.seq ?_
    obtain ⟨v4, e5, h⟩ := bind_some h
    refine AW.regionA [.no, .no, .no, .call [.one (sl 1 csS a0.Names), .one (.int .i64 v1)] [.one (.int .i64 v4)] [[.view]]] [1, 2] [1] (s' := ⟨[(1, (.v (.one (.c (.int .i64 v4))))), (2, (.v (.one (.ptr 1 0))))], [(1, (.box [(.c (sl 4 cs_Bone a0.Skeleton.Bones)), (.c (sl 1 csS a0.Names)), (.c (sl 4 cs_Pose a0.Poses))]))]⟩) (ob := True ∧ True ∧ True ∧ (((((sl 1 csS a0.Names) : C) = (sl 1 csS a0.Names)) ∧ (((.int .i64 v1) : C) = (.int .i64 v1)) ∧ True) ∧ CallOK Try.prog 112 [.one (sl 1 csS a0.Names), .one (.int .i64 v1)] [.one (.int .i64 v4)]) ∧ True ∧ True) (by kernel_rfl) ⟨trivial, trivial, trivial, ⟨⟨rfl, rfl, trivial⟩, ok_laws_szStringS K a0.Names v1 v4 e5⟩, trivial, trivial⟩ ?_
    refine thenQ_normal ?_
    refine AW.seq ?_
    refine AW.seq ?_
    refine AW.regionA [] [1, 2, 16] [1] (s' := ⟨[(1, (.v (.one (.c (.int .i64 v4))))), (2, (.v (.one (.ptr 1 0)))), (16, (.v (.one (.c (.bool (decide (v4 < (0 : Int))))))))], [(1, (.box [(.c (sl 4 cs_Bone a0.Skeleton.Bones)), (.c (sl 1 csS a0.Names)), (.c (sl 4 cs_Pose a0.Poses))]))]⟩) (ob := True ∧ True ∧ True) (by kernel_rfl) ⟨trivial, trivial, trivial⟩ ?_
    refine thenQ_normal ?_
    rcases ite2_cases h with ⟨b6, h⟩ | ⟨b6, h⟩
    · refine AW.cond_t rfl b6 ?_
      refine AW.seq ?_
      refine AW.regionA [] [4] [] (s' := ⟨[(4, (.v (.one (.c (.int .i64 ((-1) : Int))))))], []⟩) (ob := True ∧ True) (by kernel_rfl) ⟨trivial, trivial⟩ ?_
      refine thenQ_normal ?_
      refine AW.ret ?_
      refine thenQ_ret ?_
      replace h := some_eq h
      subst h
      exact ⟨.inr rfl, retOK_of [(.one (.c (.int .i64 ((-1) : Int))))] (by kernel_rfl) ⟨⟨rfl, trivial⟩, trivial⟩ (of_decide_eq_true (by kernel_rfl))⟩
    · refine AW.cond_f rfl b6 ?_
      refine AW.skip ?_
      refine thenQ_normal ?_
      refine AW.seq ?_
      obtain ⟨v7, e8, h⟩ := bind_some h
      refine AW.regionA [.no, .no, .no, .call [.one (sl 4 cs_Pose a0.Poses), .one (.int .i64 v4)] [.one (.int .i64 v7)] [[.view]]] [1] [] (s' := ⟨[(1, (.v (.one (.c (.int .i64 v7)))))], []⟩) (ob := True ∧ True ∧ True ∧ (((((sl 4 cs_Pose a0.Poses) : C) = (sl 4 cs_Pose a0.Poses)) ∧ (((.int .i64 v4) : C) = (.int .i64 v4)) ∧ True) ∧ CallOK Try.prog 72 [.one (sl 4 cs_Pose a0.Poses), .one (.int .i64 v4)] [.one (.int .i64 v7)]) ∧ True ∧ True) (by kernel_rfl) ⟨trivial, trivial, trivial, ⟨⟨rfl, rfl, trivial⟩, ok_laws_szPoseS K a0.Poses v4 v7 e8⟩, trivial, trivial⟩ ?_
      refine thenQ_normal ?_
      refine AW.seq ?_
      refine AW.seq ?_
      refine AW.regionA [] [1, 22] [] (s' := ⟨[(1, (.v (.one (.c (.int .i64 v7))))), (22, (.v (.one (.c (.bool (decide (v7 < (0 : Int))))))))], []⟩) (ob := True ∧ True ∧ True) (by kernel_rfl) ⟨trivial, trivial, trivial⟩ ?_
      refine thenQ_normal ?_
      rcases ite2_cases h with ⟨b9, h⟩ | ⟨b9, h⟩
      · refine AW.cond_t rfl b9 ?_
        refine AW.seq ?_
        refine AW.regionA [] [4] [] (s' := ⟨[(4, (.v (.one (.c (.int .i64 ((-1) : Int))))))], []⟩) (ob := True ∧ True) (by kernel_rfl) ⟨trivial, trivial⟩ ?_
        refine thenQ_normal ?_
        refine AW.ret ?_
        refine thenQ_ret ?_
        replace h := some_eq h
        subst h
        exact ⟨.inr rfl, retOK_of [(.one (.c (.int .i64 ((-1) : Int))))] (by kernel_rfl) ⟨⟨rfl, trivial⟩, trivial⟩ (of_decide_eq_true (by kernel_rfl))⟩
      · refine AW.cond_f rfl b9 ?_
        refine AW.skip ?_
        refine thenQ_normal ?_
        refine AW.seq ?_
        refine AW.regionA [] [4] [] (s' := ⟨[(4, (.v (.one (.c (.int .i64 v7)))))], []⟩) (ob := True ∧ True ∧ True) (by kernel_rfl) ⟨trivial, trivial, trivial⟩ ?_
        refine thenQ_normal ?_
        refine AW.ret ?_
        replace h := some_eq h
        subst h
        exact ⟨.inr rfl, retOK_of [(.one (.c (.int .i64 v7)))] (by kernel_rfl) ⟨⟨rfl, trivial⟩, trivial⟩ (of_decide_eq_true (by kernel_rfl))⟩

/-! spec.l00In -/
def spec_l00In (K : Nat) (a0 : Int) (a1 : Int) (a2 : Int) : Option (Bool) :=
  (ite2 ((decide (a0 ≥ a1))) (some (decide (a0 ≤ a2))) (some false)).bind fun j2 => some j2

theorem ok_spec_l00In (K : Nat) (a0 : Int) (a1 : Int) (a2 : Int) (o : (Bool)) (h : spec_l00In K a0 a1 a2 = some o) : CallOK Try.prog 64 [.one (.int .i64 a0), .one (.int .i64 a1), .one (.int .i64 a2)] [.one (.bool o)] := by
  refine callOK_of_AW Try.func64 rfl (by kernel_rfl) (Nat.le_of_ble_eq_true (by kernel_rfl)) ?_
  intro w0
  unfold spec_l00In at h
  refine AW.seq ?_
  refine AW.regionA [] [0, 1, 2] [] (s' := ⟨[(0, (.v (.one (.c (.int .i64 a0))))), (1, (.v (.one (.c (.int .i64 a1))))), (2, (.v (.one (.c (.int .i64 a2)))))], []⟩) (ob := True ∧ True) (by kernel_rfl) ⟨trivial, trivial⟩ ?_
  refine thenQ_normal ?_
  refine AW.seq ?_
  obtain ⟨j2, e3, h⟩ := bind_some h
  refine AW.join1 (s2 := ⟨[(6, (.v (.one (.c (.bool j2)))))], []⟩) ?_ ?_
  · rcases ite2_cases e3 with ⟨b1, e3⟩ | ⟨b1, e3⟩
    · replace e3 := some_eq e3
      subst e3
      exact AW.regionA [.no, .no, .no, .dec true] [6] [] (s' := ⟨[(6, (.v (.one (.c (.bool (decide (a0 ≤ a2)))))))], []⟩) (ob := True ∧ True ∧ True ∧ (True ∧ (decide (a0 ≥ a1)) = true) ∧ True ∧ True ∧ True ∧ True ∧ True ∧ True) (by kernel_rfl) ⟨trivial, trivial, trivial, ⟨trivial, b1⟩, trivial, trivial, trivial, trivial, trivial, trivial⟩ ⟨rfl, rfl⟩
    · replace e3 := some_eq e3
      subst e3
      exact AW.regionA [.no, .no, .no, .dec false] [6] [] (s' := ⟨[(6, (.v (.one (.c (.bool false)))))], []⟩) (ob := True ∧ True ∧ True ∧ (True ∧ (decide (a0 ≥ a1)) = false) ∧ True ∧ True ∧ True ∧ True ∧ True ∧ True) (by kernel_rfl) ⟨trivial, trivial, trivial, ⟨trivial, b1⟩, trivial, trivial, trivial, trivial, trivial, trivial⟩ ⟨rfl, rfl⟩
  refine thenQ_normal ?_
  refine AW.ret ?_
  replace h := some_eq h
  subst h
  exact ⟨.inr rfl, retOK_of [(.one (.c (.bool j2)))] (by kernel_rfl) ⟨⟨rfl, trivial⟩, trivial⟩ (of_decide_eq_true (by kernel_rfl))⟩

/-! spec.l03Is -/
def spec_l03Is_l1 (K : Nat) (a0 : Skeleton) : Nat → Int → Option (Bool)
  | 0, _ => none
  | k + 1, x9 => ite2 ((decide (x9 < (a0.Bones.length : Int)))) (chk (0 ≤ x9 ∧ x9 < (a0.Bones.length : Int)) ((spec_l00In K ((a0.Bones.getD x9.toNat default).Parent) (0 : Int) (IntKind.i64.wrap (x9 - (1 : Int)))).bind fun v12 => ite2 ((!v12)) (some false) (spec_l03Is_l1 K a0 k (IntKind.i64.wrap (x9 + (1 : Int)))))) (some true)

def spec_l03Is (K : Nat) (a0 : Skeleton) : Option (Bool) :=
  (spec_l00In K (a0.Bones.length : Int) (1 : Int) (12 : Int)).bind fun v1 => (ite2 ((!v1)) (some true) (chk (0 ≤ (0 : Int) ∧ (0 : Int) < (a0.Bones.length : Int)) (some (((a0.Bones.getD ((0 : Int).toNat) default).Parent) != ((-1) : Int))))).bind fun j5 => ite2 (j5) (some false) (spec_l03Is_l1 K a0 K (1 : Int))

theorem ok_spec_l03Is (K : Nat) (a0 : Skeleton) (o : (Bool)) (h : spec_l03Is K a0 = some o) : CallOK Try.prog 147 [.one (pl 1 cs_Skeleton a0)] [.one (.bool o)] := by
  refine callOK_of_AW Try.func147 rfl (by kernel_rfl) (Nat.le_of_ble_eq_true (by kernel_rfl)) ?_
  intro w0
  unfold spec_l03Is at h
  refine AW.seq ?_
  refine AW.regionA [] [0] [] (s' := ⟨[(0, (.v (.one (.c (pl 1 cs_Skeleton a0)))))], []⟩) (ob := True ∧ True) (by kernel_rfl) ⟨trivial, trivial⟩ ?_
  refine thenQ_normal ?_
  refine AW.seq ?_
  refine AW.regionA [] [0, 3] [] (s' := ⟨[(0, (.v (.one (.c (pl 1 cs_Skeleton a0))))), (3, (.v (.one (.c (.int .i64 (a0.Bones.length : Int))))))], []⟩) (ob := True ∧ True ∧ True ∧ True ∧ True ∧ True ∧ True) (by kernel_rfl) ⟨trivial, trivial, trivial, trivial, trivial, trivial, trivial⟩ ?_
  refine thenQ_normal ?_
  refine AW.seq ?_
  refine AW.seq ?_
  obtain ⟨v1, e2, h⟩ := bind_some h
  obtain ⟨j5, e6, h⟩ := bind_some h
  refine AW.join1 (s2 := ⟨[(0, (.v (.one (.c (pl 1 cs_Skeleton a0))))), (3, (.v (.one (.c (.int .i64 (a0.Bones.length : Int)))))), (22, (.v (.one (.c (.bool j5)))))], []⟩) ?_ ?_
  · rcases ite2_cases e6 with ⟨b3, e6⟩ | ⟨b3, e6⟩
    · replace e6 := some_eq e6
      subst e6
      exact AW.regionA [.no, .call [.one (.int .i64 (a0.Bones.length : Int)), .one (.int .i64 (1 : Int)), .one (.int .i64 (12 : Int))] [.one (.bool v1)] [[.view]], .no, .dec true] [0, 3, 22] [] (s' := ⟨[(0, (.v (.one (.c (pl 1 cs_Skeleton a0))))), (3, (.v (.one (.c (.int .i64 (a0.Bones.length : Int)))))), (22, (.v (.one (.c (.bool true)))))], []⟩) (ob := True ∧ (((((.int .i64 (a0.Bones.length : Int)) : C) = (.int .i64 (a0.Bones.length : Int))) ∧ (((.int .i64 (1 : Int)) : C) = (.int .i64 (1 : Int))) ∧ (((.int .i64 (12 : Int)) : C) = (.int .i64 (12 : Int))) ∧ True) ∧ CallOK Try.prog 64 [.one (.int .i64 (a0.Bones.length : Int)), .one (.int .i64 (1 : Int)), .one (.int .i64 (12 : Int))] [.one (.bool v1)]) ∧ True ∧ (True ∧ (!v1) = true) ∧ True ∧ True ∧ True ∧ True ∧ True ∧ True ∧ True ∧ True ∧ True ∧ True) (by kernel_rfl) ⟨trivial, ⟨⟨rfl, rfl, rfl, trivial⟩, ok_spec_l00In K (a0.Bones.length : Int) (1 : Int) (12 : Int) v1 e2⟩, trivial, ⟨trivial, b3⟩, trivial, trivial, trivial, trivial, trivial, trivial, trivial, trivial, trivial, trivial⟩ ⟨rfl, rfl⟩
    · obtain ⟨c4, e6⟩ := chk_some e6
      replace e6 := some_eq e6
      subst e6
      exact AW.regionA [.no, .call [.one (.int .i64 (a0.Bones.length : Int)), .one (.int .i64 (1 : Int)), .one (.int .i64 (12 : Int))] [.one (.bool v1)] [[.view]], .no, .dec false] [0, 3, 22] [] (s' := ⟨[(0, (.v (.one (.c (pl 1 cs_Skeleton a0))))), (3, (.v (.one (.c (.int .i64 (a0.Bones.length : Int)))))), (22, (.v (.one (.c (.bool (((a0.Bones.getD ((0 : Int).toNat) default).Parent) != ((-1) : Int)))))))], []⟩) (ob := True ∧ (((((.int .i64 (a0.Bones.length : Int)) : C) = (.int .i64 (a0.Bones.length : Int))) ∧ (((.int .i64 (1 : Int)) : C) = (.int .i64 (1 : Int))) ∧ (((.int .i64 (12 : Int)) : C) = (.int .i64 (12 : Int))) ∧ True) ∧ CallOK Try.prog 64 [.one (.int .i64 (a0.Bones.length : Int)), .one (.int .i64 (1 : Int)), .one (.int .i64 (12 : Int))] [.one (.bool v1)]) ∧ True ∧ (True ∧ (!v1) = false) ∧ True ∧ True ∧ True ∧ True ∧ (0 ≤ (0 : Int) ∧ (0 : Int) < (a0.Bones.length : Int)) ∧ True ∧ True ∧ True ∧ True ∧ True) (by kernel_rfl) ⟨trivial, ⟨⟨rfl, rfl, rfl, trivial⟩, ok_spec_l00In K (a0.Bones.length : Int) (1 : Int) (12 : Int) v1 e2⟩, trivial, ⟨trivial, b3⟩, trivial, trivial, trivial, trivial, c4, trivial, trivial, trivial, trivial, trivial⟩ ⟨rfl, rfl⟩
  refine thenQ_normal ?_
  rcases ite2_cases h with ⟨b7, h⟩ | ⟨b7, h⟩
  · refine AW.cond_t rfl b7 ?_
    refine AW.seq ?_
    refine AW.regionA [] [2] [] (s' := ⟨[(2, (.v (.one (.c (.bool false)))))], []⟩) (ob := True ∧ True) (by kernel_rfl) ⟨trivial, trivial⟩ ?_
    refine thenQ_normal ?_
    refine AW.ret ?_
    refine thenQ_ret ?_
    replace h := some_eq h
    subst h
    exact ⟨.inr rfl, retOK_of [(.one (.c (.bool false)))] (by kernel_rfl) ⟨⟨rfl, trivial⟩, trivial⟩ (of_decide_eq_true (by kernel_rfl))⟩
  · refine AW.cond_f rfl b7 ?_
    refine AW.skip ?_
    refine thenQ_normal ?_
    refine AW.seq ?_
    refine AW.seq ?_
    refine AW.regionA [] [0, 3, 4] [] (s' := ⟨[(0, (.v (.one (.c (pl 1 cs_Skeleton a0))))), (3, (.v (.one (.c (.int .i64 (a0.Bones.length : Int)))))), (4, (.v (.one (.c (.int .i64 (1 : Int))))))], []⟩) (ob := True ∧ True) (by kernel_rfl) ⟨trivial, trivial⟩ ?_
    refine thenQ_normal ?_
    refine AW.block ?_
    refine AW.loopQ (σ := Nat × Int) (fun p => ⟨[(0, (.v (.one (.c (pl 1 cs_Skeleton a0))))), (3, (.v (.one (.c (.int .i64 (a0.Bones.length : Int)))))), (4, (.v (.one (.c (.int .i64 p.2)))))], []⟩) (fun p => spec_l03Is_l1 K a0 p.1 p.2 = some o) (fun p => p.1) (K, (1 : Int)) h ?_
    clear h
    rintro ⟨k, x9⟩ h
    replace h : spec_l03Is_l1 K a0 k x9 = some o := h
    show AW _ _ (⟨[(0, (.v (.one (.c (pl 1 cs_Skeleton a0))))), (3, (.v (.one (.c (.int .i64 (a0.Bones.length : Int)))))), (4, (.v (.one (.c (.int .i64 x9)))))], []⟩ : St) _
    obtain _ | k := k
    · rw [spec_l03Is_l1] at h; cases h
    rw [spec_l03Is_l1] at h
    refine AW.seq ?_
    refine AW.seq ?_
    refine AW.regionA [] [0, 3, 4, 25] [] (s' := ⟨[(0, (.v (.one (.c (pl 1 cs_Skeleton a0))))), (3, (.v (.one (.c (.int .i64 (a0.Bones.length : Int)))))), (4, (.v (.one (.c (.int .i64 x9))))), (25, (.v (.one (.c (.bool (decide (x9 < (a0.Bones.length : Int))))))))], []⟩) (ob := True ∧ True ∧ True ∧ True) (by kernel_rfl) ⟨trivial, trivial, trivial, trivial⟩ ?_
    refine thenQ_normal ?_
    rcases ite2_cases h with ⟨b10, h⟩ | ⟨b10, h⟩
    · refine AW.cond_t rfl b10 ?_
      refine AW.skip ?_
      refine thenQ_normal ?_
      refine AW.seq ?_
      refine AW.block ?_
      refine AW.seq ?_
      obtain ⟨c11, h⟩ := chk_some h
      obtain ⟨v12, e13, h⟩ := bind_some h
      refine AW.regionA [.no, .no, .no, .no, .no, .no, .no, .no, .no, .no, .call [.one (.int .i64 ((a0.Bones.getD x9.toNat default).Parent)), .one (.int .i64 (0 : Int)), .one (.int .i64 (IntKind.i64.wrap (x9 - (1 : Int))))] [.one (.bool v12)] [[.view]]] [0, 3, 4, 39] [] (s' := ⟨[(0, (.v (.one (.c (pl 1 cs_Skeleton a0))))), (3, (.v (.one (.c (.int .i64 (a0.Bones.length : Int)))))), (4, (.v (.one (.c (.int .i64 x9))))), (39, (.v (.one (.c (.bool (!v12))))))], []⟩) (ob := True ∧ True ∧ True ∧ True ∧ True ∧ (0 ≤ x9 ∧ x9 < (a0.Bones.length : Int)) ∧ True ∧ True ∧ True ∧ True ∧ (((((.int .i64 ((a0.Bones.getD x9.toNat default).Parent)) : C) = (.int .i64 ((a0.Bones.getD x9.toNat default).Parent))) ∧ (((.int .i64 (0 : Int)) : C) = (.int .i64 (0 : Int))) ∧ (((.int .i64 (IntKind.i64.wrap (x9 - (1 : Int)))) : C) = (.int .i64 (IntKind.i64.wrap (x9 - (1 : Int))))) ∧ True) ∧ CallOK Try.prog 64 [.one (.int .i64 ((a0.Bones.getD x9.toNat default).Parent)), .one (.int .i64 (0 : Int)), .one (.int .i64 (IntKind.i64.wrap (x9 - (1 : Int))))] [.one (.bool v12)]) ∧ True ∧ True) (by kernel_rfl) ⟨trivial, trivial, trivial, trivial, trivial, c11, trivial, trivial, trivial, trivial, ⟨⟨rfl, rfl, rfl, trivial⟩, ok_spec_l00In K ((a0.Bones.getD x9.toNat default).Parent) (0 : Int) (IntKind.i64.wrap (x9 - (1 : Int))) v12 e13⟩, trivial, trivial⟩ ?_
      refine thenQ_normal ?_
      rcases ite2_cases h with ⟨b14, h⟩ | ⟨b14, h⟩
      · refine AW.cond_t rfl b14 ?_
        refine AW.seq ?_
        refine AW.regionA [] [2] [] (s' := ⟨[(2, (.v (.one (.c (.bool false)))))], []⟩) (ob := True ∧ True) (by kernel_rfl) ⟨trivial, trivial⟩ ?_
        refine thenQ_normal ?_
        refine AW.ret ?_
        refine blockQ_ret ?_
        refine thenQ_ret ?_
        refine loopQ_ret ?_
        refine blockQ_ret ?_
        refine thenQ_ret ?_
        replace h := some_eq h
        subst h
        exact ⟨.inr rfl, retOK_of [(.one (.c (.bool false)))] (by kernel_rfl) ⟨⟨rfl, trivial⟩, trivial⟩ (of_decide_eq_true (by kernel_rfl))⟩
      · refine AW.cond_f rfl b14 ?_
        refine AW.skip ?_
        refine blockQ_normal ?_
        refine thenQ_normal ?_
        refine AW.regionA [] [0, 3, 4] [] (s' := ⟨[(0, (.v (.one (.c (pl 1 cs_Skeleton a0))))), (3, (.v (.one (.c (.int .i64 (a0.Bones.length : Int)))))), (4, (.v (.one (.c (.int .i64 (IntKind.i64.wrap (x9 + (1 : Int))))))))], []⟩) (ob := True ∧ True ∧ True ∧ True) (by kernel_rfl) ⟨trivial, trivial, trivial, trivial⟩ ?_
        exact loopQ_normal (k, (IntKind.i64.wrap (x9 + (1 : Int)))) h (Nat.lt_succ_self k) (Sub.keep [0, 3, 4] [] (by kernel_rfl) (by kernel_rfl))
    · refine AW.cond_f rfl b10 ?_
      refine AW.exit ?_
      refine thenQ_exit ?_
      refine loopQ_exit ?_
      refine blockQ_exit ?_
      refine thenQ_normal ?_
      refine AW.seq ?_
      refine AW.regionA [] [2] [] (s' := ⟨[(2, (.v (.one (.c (.bool true)))))], []⟩) (ob := True ∧ True) (by kernel_rfl) ⟨trivial, trivial⟩ ?_
      refine thenQ_normal ?_
      refine AW.ret ?_
      replace h := some_eq h
      subst h
      exact ⟨.inr rfl, retOK_of [(.one (.c (.bool true)))] (by kernel_rfl) ⟨⟨rfl, trivial⟩, trivial⟩ (of_decide_eq_true (by kernel_rfl))⟩

/-! spec.IsName -/
def spec_IsName_l1 (K : Nat) (a0 : ByteArray) : Nat → Int → Option (Bool)
  | 0, _ => none
  | k + 1, x2 => ite2 ((decide (x2 < (a0.size : Int)))) (chk (0 ≤ x2 ∧ x2 < (a0.size : Int)) ((ite2 ((decide ((bt a0 x2.toNat) < (97 : Int)))) (some true) (some (decide ((bt a0 x2.toNat) > (122 : Int))))).bind fun j6 => ite2 (j6) (some false) (spec_IsName_l1 K a0 k (IntKind.i64.wrap (x2 + (1 : Int)))))) ((ite2 ((decide ((a0.size : Int) ≥ (1 : Int)))) (some (decide ((a0.size : Int) ≤ (8 : Int)))) (some false)).bind fun j10 => some j10)

def spec_IsName (K : Nat) (a0 : ByteArray) : Option (Bool) :=
  spec_IsName_l1 K a0 K (0 : Int)

theorem ok_spec_IsName (K : Nat) (a0 : ByteArray) (o : (Bool)) (h : spec_IsName K a0 = some o) : CallOK Try.prog 148 [.one (.str a0)] [.one (.bool o)] := by
  refine callOK_of_AW Try.func148 rfl (by kernel_rfl) (Nat.le_of_ble_eq_true (by kernel_rfl)) ?_
  intro w0
  unfold spec_IsName at h
  refine AW.seq ?_
  refine AW.regionA [] [0] [] (s' := ⟨[(0, (.v (.one (.c (.str a0)))))], []⟩) (ob := True ∧ True) (by kernel_rfl) ⟨trivial, trivial⟩ ?_
  refine thenQ_normal ?_
  refine AW.seq ?_
  refine AW.seq ?_
  refine AW.regionA [] [0, 3] [] (s' := ⟨[(0, (.v (.one (.c (.str a0))))), (3, (.v (.one (.c (.int .i64 (0 : Int))))))], []⟩) (ob := True ∧ True) (by kernel_rfl) ⟨trivial, trivial⟩ ?_
  refine thenQ_normal ?_
  refine AW.block ?_
  refine AW.loopQ (σ := Nat × Int) (fun p => ⟨[(0, (.v (.one (.c (.str a0))))), (3, (.v (.one (.c (.int .i64 p.2)))))], []⟩) (fun p => spec_IsName_l1 K a0 p.1 p.2 = some o) (fun p => p.1) (K, (0 : Int)) h ?_
  clear h
  rintro ⟨k, x2⟩ h
  replace h : spec_IsName_l1 K a0 k x2 = some o := h
  show AW _ _ (⟨[(0, (.v (.one (.c (.str a0))))), (3, (.v (.one (.c (.int .i64 x2)))))], []⟩ : St) _
  obtain _ | k := k
  · rw [spec_IsName_l1] at h; cases h
  rw [spec_IsName_l1] at h
  refine AW.seq ?_
  refine AW.seq ?_
  refine AW.regionA [] [0, 3, 7] [] (s' := ⟨[(0, (.v (.one (.c (.str a0))))), (3, (.v (.one (.c (.int .i64 x2))))), (7, (.v (.one (.c (.bool (decide (x2 < (a0.size : Int))))))))], []⟩) (ob := True ∧ True ∧ True ∧ True ∧ True) (by kernel_rfl) ⟨trivial, trivial, trivial, trivial, trivial⟩ ?_
  refine thenQ_normal ?_
  rcases ite2_cases h with ⟨b3, h⟩ | ⟨b3, h⟩
  · refine AW.cond_t rfl b3 ?_
    refine AW.skip ?_
    refine thenQ_normal ?_
    refine AW.seq ?_
    refine AW.block ?_
    refine AW.seq ?_
    obtain ⟨c4, h⟩ := chk_some h
    obtain ⟨j6, e7, h⟩ := bind_some h
    refine AW.join1 (s2 := ⟨[(0, (.v (.one (.c (.str a0))))), (3, (.v (.one (.c (.int .i64 x2))))), (19, (.v (.one (.c (.bool j6)))))], []⟩) ?_ ?_
    · rcases ite2_cases e7 with ⟨b5, e7⟩ | ⟨b5, e7⟩
      · replace e7 := some_eq e7
        subst e7
        exact AW.regionA [.no, .no, .no, .no, .dec true] [0, 3, 19] [] (s' := ⟨[(0, (.v (.one (.c (.str a0))))), (3, (.v (.one (.c (.int .i64 x2))))), (19, (.v (.one (.c (.bool true)))))], []⟩) (ob := True ∧ True ∧ (0 ≤ x2 ∧ x2 < (a0.size : Int)) ∧ True ∧ (True ∧ (decide ((bt a0 x2.toNat) < (97 : Int))) = true) ∧ True ∧ True ∧ True ∧ True ∧ True ∧ True) (by kernel_rfl) ⟨trivial, trivial, c4, trivial, ⟨trivial, b5⟩, trivial, trivial, trivial, trivial, trivial, trivial⟩ ⟨rfl, rfl⟩
      · replace e7 := some_eq e7
        subst e7
        exact AW.regionA [.no, .no, .no, .no, .dec false] [0, 3, 19] [] (s' := ⟨[(0, (.v (.one (.c (.str a0))))), (3, (.v (.one (.c (.int .i64 x2))))), (19, (.v (.one (.c (.bool (decide ((bt a0 x2.toNat) > (122 : Int))))))))], []⟩) (ob := True ∧ True ∧ (0 ≤ x2 ∧ x2 < (a0.size : Int)) ∧ True ∧ (True ∧ (decide ((bt a0 x2.toNat) < (97 : Int))) = false) ∧ True ∧ True ∧ (0 ≤ x2 ∧ x2 < (a0.size : Int)) ∧ True ∧ True ∧ True) (by kernel_rfl) ⟨trivial, trivial, c4, trivial, ⟨trivial, b5⟩, trivial, trivial, c4, trivial, trivial, trivial⟩ ⟨rfl, rfl⟩
    refine thenQ_normal ?_
    rcases ite2_cases h with ⟨b8, h⟩ | ⟨b8, h⟩
    · refine AW.cond_t rfl b8 ?_
      refine AW.seq ?_
      refine AW.regionA [] [2] [] (s' := ⟨[(2, (.v (.one (.c (.bool false)))))], []⟩) (ob := True ∧ True) (by kernel_rfl) ⟨trivial, trivial⟩ ?_
      refine thenQ_normal ?_
      refine AW.ret ?_
      refine blockQ_ret ?_
      refine thenQ_ret ?_
      refine loopQ_ret ?_
      refine blockQ_ret ?_
      refine thenQ_ret ?_
      replace h := some_eq h
      subst h
      exact ⟨.inr rfl, retOK_of [(.one (.c (.bool false)))] (by kernel_rfl) ⟨⟨rfl, trivial⟩, trivial⟩ (of_decide_eq_true (by kernel_rfl))⟩
    · refine AW.cond_f rfl b8 ?_
      refine AW.skip ?_
      refine blockQ_normal ?_
      refine thenQ_normal ?_
      refine AW.regionA [] [0, 3] [] (s' := ⟨[(0, (.v (.one (.c (.str a0))))), (3, (.v (.one (.c (.int .i64 (IntKind.i64.wrap (x2 + (1 : Int))))))))], []⟩) (ob := True ∧ True ∧ True ∧ True) (by kernel_rfl) ⟨trivial, trivial, trivial, trivial⟩ ?_
      exact loopQ_normal (k, (IntKind.i64.wrap (x2 + (1 : Int)))) h (Nat.lt_succ_self k) (Sub.keep [0, 3] [] (by kernel_rfl) (by kernel_rfl))
  · refine AW.cond_f rfl b3 ?_
    refine AW.exit ?_
    refine thenQ_exit ?_
    refine loopQ_exit ?_
    refine blockQ_exit ?_
    refine thenQ_normal ?_
    refine AW.seq ?_
    obtain ⟨j10, e11, h⟩ := bind_some h
    refine AW.join1 (s2 := ⟨[(2, (.v (.one (.c (.bool j10)))))], []⟩) ?_ ?_
    · rcases ite2_cases e11 with ⟨b9, e11⟩ | ⟨b9, e11⟩
      · replace e11 := some_eq e11
        subst e11
        exact AW.regionA [.no, .no, .no, .dec true] [2] [] (s' := ⟨[(2, (.v (.one (.c (.bool (decide ((a0.size : Int) ≤ (8 : Int))))))))], []⟩) (ob := True ∧ True ∧ True ∧ (True ∧ (decide ((a0.size : Int) ≥ (1 : Int))) = true) ∧ True ∧ True ∧ True ∧ True ∧ True ∧ True) (by kernel_rfl) ⟨trivial, trivial, trivial, ⟨trivial, b9⟩, trivial, trivial, trivial, trivial, trivial, trivial⟩ ⟨rfl, rfl⟩
      · replace e11 := some_eq e11
        subst e11
        exact AW.regionA [.no, .no, .no, .dec false] [2] [] (s' := ⟨[(2, (.v (.one (.c (.bool false)))))], []⟩) (ob := True ∧ True ∧ True ∧ (True ∧ (decide ((a0.size : Int) ≥ (1 : Int))) = false) ∧ True ∧ True ∧ True ∧ True ∧ True ∧ True) (by kernel_rfl) ⟨trivial, trivial, trivial, ⟨trivial, b9⟩, trivial, trivial, trivial, trivial, trivial, trivial⟩ ⟨rfl, rfl⟩
    refine thenQ_normal ?_
    refine AW.ret ?_
    replace h := some_eq h
    subst h
    exact ⟨.inr rfl, retOK_of [(.one (.c (.bool j10)))] (by kernel_rfl) ⟨⟨rfl, trivial⟩, trivial⟩ (of_decide_eq_true (by kernel_rfl))⟩

/-! spec.l11Is -/
def spec_l11Is_l1 (K : Nat) (a0 : Stage) : Nat → Int → Option (Bool)
  | 0, _ => none
  | k + 1, x9 => ite2 ((decide (x9 < (a0.Names.length : Int)))) (chk (0 ≤ x9 ∧ x9 < (a0.Names.length : Int)) ((spec_IsName K (a0.Names.getD x9.toNat default)).bind fun v12 => (ite2 ((!v12)) (some true) (ite2 ((decide (x9 > (0 : Int)))) (chk (0 ≤ (IntKind.i64.wrap (x9 - (1 : Int))) ∧ (IntKind.i64.wrap (x9 - (1 : Int))) < (a0.Names.length : Int)) (ite2 ((!(Op.bytesLess (a0.Names.getD ((IntKind.i64.wrap (x9 - (1 : Int))).toNat) default).toList (a0.Names.getD x9.toNat default).toList))) (some true) (chk (0 ≤ x9 ∧ x9 < (a0.Poses.length : Int)) (some ((((a0.Poses.getD x9.toNat default).Turns).length : Int) != (a0.Skeleton.Bones.length : Int)))))) (chk (0 ≤ x9 ∧ x9 < (a0.Poses.length : Int)) (some ((((a0.Poses.getD x9.toNat default).Turns).length : Int) != (a0.Skeleton.Bones.length : Int)))))).bind fun j20 => ite2 (j20) (some false) (spec_l11Is_l1 K a0 k (IntKind.i64.wrap (x9 + (1 : Int)))))) (some true)

def spec_l11Is (K : Nat) (a0 : Stage) : Option (Bool) :=
  (spec_l03Is K a0.Skeleton).bind fun v1 => (ite2 ((!v1)) (some true) (ite2 ((decide ((a0.Names.length : Int) > (6 : Int)))) (some true) (some ((a0.Poses.length : Int) != (a0.Names.length : Int))))).bind fun j5 => ite2 (j5) (some false) (spec_l11Is_l1 K a0 K (0 : Int))

theorem ok_spec_l11Is (K : Nat) (a0 : Stage) (o : (Bool)) (h : spec_l11Is K a0 = some o) : CallOK Try.prog 113 [.one (pl 3 cs_Stage a0)] [.one (.bool o)] := by
  refine callOK_of_AW Try.func113 rfl (by kernel_rfl) (Nat.le_of_ble_eq_true (by kernel_rfl)) ?_
  intro w0
  unfold spec_l11Is at h
  refine AW.seq ?_
  refine AW.regionA [] [0] [] (s' := ⟨[(0, (.v (.one (.c (pl 3 cs_Stage a0)))))], []⟩) (ob := True ∧ True) (by kernel_rfl) ⟨trivial, trivial⟩ ?_
  refine thenQ_normal ?_
  refine AW.seq ?_
  refine AW.seq ?_
  obtain ⟨v1, e2, h⟩ := bind_some h
  obtain ⟨j5, e6, h⟩ := bind_some h
  refine AW.join1 (s2 := ⟨[(0, (.v (.one (.c (pl 3 cs_Stage a0))))), (29, (.v (.one (.c (.bool j5)))))], []⟩) ?_ ?_
  · rcases ite2_cases e6 with ⟨b3, e6⟩ | ⟨b3, e6⟩
    · replace e6 := some_eq e6
      subst e6
      exact AW.drawnA (by kernel_rfl) 26 [.no, .no, .no, .call [.one (pl 1 cs_Skeleton a0.Skeleton)] [.one (.bool v1)] [[.view]], .no, .dec true] [0, 29] [] (s' := ⟨[(0, (.v (.one (.c (pl 3 cs_Stage a0))))), (29, (.v (.one (.c (.bool true)))))], []⟩) (ob := (True ∧ True ∧ True ∧ (((1 = 1 ∧ ∀ j, j < 1 → (cs_Skeleton a0.Skeleton).getD j .nilptr = (cs_Stage a0).getD (0 + j) .nilptr) ∧ True) ∧ CallOK Try.prog 147 [.one (pl 1 cs_Skeleton a0.Skeleton)] [.one (.bool v1)]) ∧ True ∧ (True ∧ (!v1) = true) ∧ True ∧ True ∧ True ∧ True ∧ True ∧ True ∧ True ∧ True ∧ True ∧ True ∧ True ∧ True ∧ True ∧ True ∧ True ∧ True ∧ True ∧ True ∧ True ∧ True ∧ True) ∧ (True)) (by kernel_rfl) ⟨⟨trivial, trivial, trivial, ⟨⟨⟨rfl, fun j hj => (by match j, hj with | 0, _ => rfl)⟩, trivial⟩, ok_spec_l03Is K a0.Skeleton v1 e2⟩, trivial, ⟨trivial, b3⟩, trivial, trivial, trivial, trivial, trivial, trivial, trivial, trivial, trivial, trivial, trivial, trivial, trivial, trivial, trivial, trivial, trivial, trivial, trivial, trivial, trivial⟩, trivial⟩ ⟨rfl, rfl⟩
    · rcases ite2_cases e6 with ⟨b4, e6⟩ | ⟨b4, e6⟩
      · replace e6 := some_eq e6
        subst e6
        exact AW.drawnA (by kernel_rfl) 26 [.no, .no, .no, .call [.one (pl 1 cs_Skeleton a0.Skeleton)] [.one (.bool v1)] [[.view]], .no, .dec false, .no, .no, .no, .no, .no, .no, .no, .dec true] [0, 29] [] (s' := ⟨[(0, (.v (.one (.c (pl 3 cs_Stage a0))))), (29, (.v (.one (.c (.bool true)))))], []⟩) (ob := (True ∧ True ∧ True ∧ (((1 = 1 ∧ ∀ j, j < 1 → (cs_Skeleton a0.Skeleton).getD j .nilptr = (cs_Stage a0).getD (0 + j) .nilptr) ∧ True) ∧ CallOK Try.prog 147 [.one (pl 1 cs_Skeleton a0.Skeleton)] [.one (.bool v1)]) ∧ True ∧ (True ∧ (!v1) = false) ∧ True ∧ True ∧ True ∧ True ∧ True ∧ True ∧ True ∧ (True ∧ (decide ((a0.Names.length : Int) > (6 : Int))) = true) ∧ True ∧ True ∧ True ∧ True ∧ True ∧ True ∧ True ∧ True ∧ True ∧ True ∧ True ∧ True ∧ True) ∧ (True)) (by kernel_rfl) ⟨⟨trivial, trivial, trivial, ⟨⟨⟨rfl, fun j hj => (by match j, hj with | 0, _ => rfl)⟩, trivial⟩, ok_spec_l03Is K a0.Skeleton v1 e2⟩, trivial, ⟨trivial, b3⟩, trivial, trivial, trivial, trivial, trivial, trivial, trivial, ⟨trivial, b4⟩, trivial, trivial, trivial, trivial, trivial, trivial, trivial, trivial, trivial, trivial, trivial, trivial, trivial⟩, trivial⟩ ⟨rfl, rfl⟩
      · replace e6 := some_eq e6
        subst e6
        exact AW.drawnA (by kernel_rfl) 26 [.no, .no, .no, .call [.one (pl 1 cs_Skeleton a0.Skeleton)] [.one (.bool v1)] [[.view]], .no, .dec false, .no, .no, .no, .no, .no, .no, .no, .dec false] [0, 29] [] (s' := ⟨[(0, (.v (.one (.c (pl 3 cs_Stage a0))))), (29, (.v (.one (.c (.bool ((a0.Poses.length : Int) != (a0.Names.length : Int)))))))], []⟩) (ob := (True ∧ True ∧ True ∧ (((1 = 1 ∧ ∀ j, j < 1 → (cs_Skeleton a0.Skeleton).getD j .nilptr = (cs_Stage a0).getD (0 + j) .nilptr) ∧ True) ∧ CallOK Try.prog 147 [.one (pl 1 cs_Skeleton a0.Skeleton)] [.one (.bool v1)]) ∧ True ∧ (True ∧ (!v1) = false) ∧ True ∧ True ∧ True ∧ True ∧ True ∧ True ∧ True ∧ (True ∧ (decide ((a0.Names.length : Int) > (6 : Int))) = false) ∧ True ∧ True ∧ True ∧ True ∧ True ∧ True ∧ True ∧ True ∧ True ∧ True ∧ True ∧ True ∧ True) ∧ (True)) (by kernel_rfl) ⟨⟨trivial, trivial, trivial, ⟨⟨⟨rfl, fun j hj => (by match j, hj with | 0, _ => rfl)⟩, trivial⟩, ok_spec_l03Is K a0.Skeleton v1 e2⟩, trivial, ⟨trivial, b3⟩, trivial, trivial, trivial, trivial, trivial, trivial, trivial, ⟨trivial, b4⟩, trivial, trivial, trivial, trivial, trivial, trivial, trivial, trivial, trivial, trivial, trivial, trivial, trivial⟩, trivial⟩ ⟨rfl, rfl⟩
  refine thenQ_normal ?_
  rcases ite2_cases h with ⟨b7, h⟩ | ⟨b7, h⟩
  · refine AW.cond_t rfl b7 ?_
    refine AW.seq ?_
    refine AW.regionA [] [2] [] (s' := ⟨[(2, (.v (.one (.c (.bool false)))))], []⟩) (ob := True ∧ True) (by kernel_rfl) ⟨trivial, trivial⟩ ?_
    refine thenQ_normal ?_
    refine AW.ret ?_
    refine thenQ_ret ?_
    replace h := some_eq h
    subst h
    exact ⟨.inr rfl, retOK_of [(.one (.c (.bool false)))] (by kernel_rfl) ⟨⟨rfl, trivial⟩, trivial⟩ (of_decide_eq_true (by kernel_rfl))⟩
  · refine AW.cond_f rfl b7 ?_
    refine AW.skip ?_
    refine thenQ_normal ?_
    refine AW.seq ?_
    refine AW.seq ?_
    refine AW.regionA [] [0, 34, 35] [] (s' := ⟨[(0, (.v (.one (.c (pl 3 cs_Stage a0))))), (34, (.v (.one (.c (.int .i64 (a0.Names.length : Int)))))), (35, (.v (.one (.c (.int .i64 (0 : Int))))))], []⟩) (ob := True ∧ True ∧ True ∧ True ∧ True ∧ True ∧ True) (by kernel_rfl) ⟨trivial, trivial, trivial, trivial, trivial, trivial, trivial⟩ ?_
    refine thenQ_normal ?_
    refine AW.block ?_
    refine AW.loopQ (σ := Nat × Int) (fun p => ⟨[(0, (.v (.one (.c (pl 3 cs_Stage a0))))), (34, (.v (.one (.c (.int .i64 (a0.Names.length : Int)))))), (35, (.v (.one (.c (.int .i64 p.2)))))], []⟩) (fun p => spec_l11Is_l1 K a0 p.1 p.2 = some o) (fun p => p.1) (K, (0 : Int)) h ?_
    clear h
    rintro ⟨k, x9⟩ h
    replace h : spec_l11Is_l1 K a0 k x9 = some o := h
    show AW _ _ (⟨[(0, (.v (.one (.c (pl 3 cs_Stage a0))))), (34, (.v (.one (.c (.int .i64 (a0.Names.length : Int)))))), (35, (.v (.one (.c (.int .i64 x9)))))], []⟩ : St) _
    obtain _ | k := k
    · rw [spec_l11Is_l1] at h; cases h
    rw [spec_l11Is_l1] at h
    refine AW.seq ?_
    refine AW.regionA [] [0, 34, 35, 36] [] (s' := ⟨[(0, (.v (.one (.c (pl 3 cs_Stage a0))))), (34, (.v (.one (.c (.int .i64 (a0.Names.length : Int)))))), (35, (.v (.one (.c (.int .i64 x9))))), (36, (.v (.one (.c (.bool (decide (x9 < (a0.Names.length : Int))))))))], []⟩) (ob := True ∧ True) (by kernel_rfl) ⟨trivial, trivial⟩ ?_
    refine thenQ_normal ?_
    refine AW.seq ?_
    rcases ite2_cases h with ⟨b10, h⟩ | ⟨b10, h⟩
    · refine AW.cond_t rfl b10 ?_
      refine AW.skip ?_
      refine thenQ_normal ?_
      refine AW.seq ?_
      refine AW.block ?_
      refine AW.seq ?_
      refine AW.regionA [] [0, 3, 34, 35] [] (s' := ⟨[(0, (.v (.one (.c (pl 3 cs_Stage a0))))), (3, (.v (.one (.c (.int .i64 x9))))), (34, (.v (.one (.c (.int .i64 (a0.Names.length : Int)))))), (35, (.v (.one (.c (.int .i64 x9)))))], []⟩) (ob := True ∧ True ∧ True) (by kernel_rfl) ⟨trivial, trivial, trivial⟩ ?_
      refine thenQ_normal ?_
      refine AW.seq ?_
      obtain ⟨c11, h⟩ := chk_some h
      obtain ⟨v12, e13, h⟩ := bind_some h
      obtain ⟨j20, e21, h⟩ := bind_some h
      refine AW.join1 (s2 := ⟨[(0, (.v (.one (.c (pl 3 cs_Stage a0))))), (34, (.v (.one (.c (.int .i64 (a0.Names.length : Int)))))), (35, (.v (.one (.c (.int .i64 x9))))), (86, (.v (.one (.c (.bool j20)))))], []⟩) ?_ ?_
      · rcases ite2_cases e21 with ⟨b14, e21⟩ | ⟨b14, e21⟩
        · replace e21 := some_eq e21
          subst e21
          exact AW.drawnA (by kernel_rfl) 49 [.no, .no, .no, .no, .no, .no, .no, .call [.one (.str (a0.Names.getD x9.toNat default))] [.one (.bool v12)] [[.view]], .no, .dec true] [0, 34, 35, 86] [] (s' := ⟨[(0, (.v (.one (.c (pl 3 cs_Stage a0))))), (34, (.v (.one (.c (.int .i64 (a0.Names.length : Int)))))), (35, (.v (.one (.c (.int .i64 x9))))), (86, (.v (.one (.c (.bool true)))))], []⟩) (ob := (True ∧ True ∧ True ∧ True ∧ True ∧ (0 ≤ x9 ∧ x9 < (a0.Names.length : Int)) ∧ True ∧ (((((.str (a0.Names.getD x9.toNat default)) : C) = (.str (a0.Names.getD x9.toNat default))) ∧ True) ∧ CallOK Try.prog 148 [.one (.str (a0.Names.getD x9.toNat default))] [.one (.bool v12)]) ∧ True ∧ (True ∧ (!v12) = true) ∧ True ∧ True ∧ True ∧ True ∧ True ∧ True ∧ True ∧ True ∧ True ∧ True ∧ True ∧ True ∧ True ∧ True ∧ True ∧ True ∧ True ∧ True ∧ True ∧ True ∧ True ∧ True ∧ True ∧ True ∧ True ∧ True ∧ True ∧ True ∧ True ∧ True ∧ True ∧ True ∧ True ∧ True ∧ True ∧ True ∧ True ∧ True ∧ True ∧ True) ∧ (True)) (by kernel_rfl) ⟨⟨trivial, trivial, trivial, trivial, trivial, c11, trivial, ⟨⟨rfl, trivial⟩, ok_spec_IsName K (a0.Names.getD x9.toNat default) v12 e13⟩, trivial, ⟨trivial, b14⟩, trivial, trivial, trivial, trivial, trivial, trivial, trivial, trivial, trivial, trivial, trivial, trivial, trivial, trivial, trivial, trivial, trivial, trivial, trivial, trivial, trivial, trivial, trivial, trivial, trivial, trivial, trivial, trivial, trivial, trivial, trivial, trivial, trivial, trivial, trivial, trivial, trivial, trivial, trivial, trivial⟩, trivial⟩ ⟨rfl, rfl⟩
        · rcases ite2_cases e21 with ⟨b15, e21⟩ | ⟨b15, e21⟩
          · obtain ⟨c16, e21⟩ := chk_some e21
            rcases ite2_cases e21 with ⟨b17, e21⟩ | ⟨b17, e21⟩
            · replace e21 := some_eq e21
              subst e21
              exact AW.drawnA (by kernel_rfl) 49 [.no, .no, .no, .no, .no, .no, .no, .call [.one (.str (a0.Names.getD x9.toNat default))] [.one (.bool v12)] [[.view]], .no, .dec false, .no, .no, .dec true, .no, .no, .no, .no, .no, .no, .no, .no, .no, .no, .no, .no, .no, .no, .no, .no, .no, .no, .dec true] [0, 34, 35, 86] [] (s' := ⟨[(0, (.v (.one (.c (pl 3 cs_Stage a0))))), (34, (.v (.one (.c (.int .i64 (a0.Names.length : Int)))))), (35, (.v (.one (.c (.int .i64 x9))))), (86, (.v (.one (.c (.bool true)))))], []⟩) (ob := (True ∧ True ∧ True ∧ True ∧ True ∧ (0 ≤ x9 ∧ x9 < (a0.Names.length : Int)) ∧ True ∧ (((((.str (a0.Names.getD x9.toNat default)) : C) = (.str (a0.Names.getD x9.toNat default))) ∧ True) ∧ CallOK Try.prog 148 [.one (.str (a0.Names.getD x9.toNat default))] [.one (.bool v12)]) ∧ True ∧ (True ∧ (!v12) = false) ∧ True ∧ True ∧ (True ∧ (decide (x9 > (0 : Int))) = true) ∧ True ∧ True ∧ True ∧ True ∧ True ∧ True ∧ (0 ≤ (IntKind.i64.wrap (x9 - (1 : Int))) ∧ (IntKind.i64.wrap (x9 - (1 : Int))) < (a0.Names.length : Int)) ∧ True ∧ True ∧ True ∧ True ∧ True ∧ True ∧ (0 ≤ x9 ∧ x9 < (a0.Names.length : Int)) ∧ True ∧ True ∧ True ∧ True ∧ (True ∧ (!(Op.bytesLess (a0.Names.getD ((IntKind.i64.wrap (x9 - (1 : Int))).toNat) default).toList (a0.Names.getD x9.toNat default).toList)) = true) ∧ True ∧ True ∧ True ∧ True ∧ True ∧ True ∧ True ∧ True ∧ True ∧ True ∧ True ∧ True ∧ True ∧ True ∧ True ∧ True ∧ True ∧ True) ∧ (True)) (by kernel_rfl) ⟨⟨trivial, trivial, trivial, trivial, trivial, c11, trivial, ⟨⟨rfl, trivial⟩, ok_spec_IsName K (a0.Names.getD x9.toNat default) v12 e13⟩, trivial, ⟨trivial, b14⟩, trivial, trivial, ⟨trivial, b15⟩, trivial, trivial, trivial, trivial, trivial, trivial, c16, trivial, trivial, trivial, trivial, trivial, trivial, c11, trivial, trivial, trivial, trivial, ⟨trivial, b17⟩, trivial, trivial, trivial, trivial, trivial, trivial, trivial, trivial, trivial, trivial, trivial, trivial, trivial, trivial, trivial, trivial, trivial, trivial⟩, trivial⟩ ⟨rfl, rfl⟩
            · obtain ⟨c18, e21⟩ := chk_some e21
              replace e21 := some_eq e21
              subst e21
              exact AW.drawnA (by kernel_rfl) 49 [.no, .no, .no, .no, .no, .no, .no, .call [.one (.str (a0.Names.getD x9.toNat default))] [.one (.bool v12)] [[.view]], .no, .dec false, .no, .no, .dec true, .no, .no, .no, .no, .no, .no, .no, .no, .no, .no, .no, .no, .no, .no, .no, .no, .no, .no, .dec false] [0, 34, 35, 86] [] (s' := ⟨[(0, (.v (.one (.c (pl 3 cs_Stage a0))))), (34, (.v (.one (.c (.int .i64 (a0.Names.length : Int)))))), (35, (.v (.one (.c (.int .i64 x9))))), (86, (.v (.one (.c (.bool ((((a0.Poses.getD x9.toNat default).Turns).length : Int) != (a0.Skeleton.Bones.length : Int)))))))], []⟩) (ob := (True ∧ True ∧ True ∧ True ∧ True ∧ (0 ≤ x9 ∧ x9 < (a0.Names.length : Int)) ∧ True ∧ (((((.str (a0.Names.getD x9.toNat default)) : C) = (.str (a0.Names.getD x9.toNat default))) ∧ True) ∧ CallOK Try.prog 148 [.one (.str (a0.Names.getD x9.toNat default))] [.one (.bool v12)]) ∧ True ∧ (True ∧ (!v12) = false) ∧ True ∧ True ∧ (True ∧ (decide (x9 > (0 : Int))) = true) ∧ True ∧ True ∧ True ∧ True ∧ True ∧ True ∧ (0 ≤ (IntKind.i64.wrap (x9 - (1 : Int))) ∧ (IntKind.i64.wrap (x9 - (1 : Int))) < (a0.Names.length : Int)) ∧ True ∧ True ∧ True ∧ True ∧ True ∧ True ∧ (0 ≤ x9 ∧ x9 < (a0.Names.length : Int)) ∧ True ∧ True ∧ True ∧ True ∧ (True ∧ (!(Op.bytesLess (a0.Names.getD ((IntKind.i64.wrap (x9 - (1 : Int))).toNat) default).toList (a0.Names.getD x9.toNat default).toList)) = false) ∧ True ∧ True ∧ True ∧ True ∧ True ∧ (0 ≤ x9 ∧ x9 < (a0.Poses.length : Int)) ∧ True ∧ True ∧ True ∧ True ∧ True ∧ True ∧ True ∧ True ∧ True ∧ True ∧ True ∧ True) ∧ (True)) (by kernel_rfl) ⟨⟨trivial, trivial, trivial, trivial, trivial, c11, trivial, ⟨⟨rfl, trivial⟩, ok_spec_IsName K (a0.Names.getD x9.toNat default) v12 e13⟩, trivial, ⟨trivial, b14⟩, trivial, trivial, ⟨trivial, b15⟩, trivial, trivial, trivial, trivial, trivial, trivial, c16, trivial, trivial, trivial, trivial, trivial, trivial, c11, trivial, trivial, trivial, trivial, ⟨trivial, b17⟩, trivial, trivial, trivial, trivial, trivial, c18, trivial, trivial, trivial, trivial, trivial, trivial, trivial, trivial, trivial, trivial, trivial, trivial⟩, trivial⟩ ⟨rfl, rfl⟩
          · obtain ⟨c19, e21⟩ := chk_some e21
            replace e21 := some_eq e21
            subst e21
            exact AW.drawnA (by kernel_rfl) 49 [.no, .no, .no, .no, .no, .no, .no, .call [.one (.str (a0.Names.getD x9.toNat default))] [.one (.bool v12)] [[.view]], .no, .dec false, .no, .no, .dec false] [0, 34, 35, 86] [] (s' := ⟨[(0, (.v (.one (.c (pl 3 cs_Stage a0))))), (34, (.v (.one (.c (.int .i64 (a0.Names.length : Int)))))), (35, (.v (.one (.c (.int .i64 x9))))), (86, (.v (.one (.c (.bool ((((a0.Poses.getD x9.toNat default).Turns).length : Int) != (a0.Skeleton.Bones.length : Int)))))))], []⟩) (ob := (True ∧ True ∧ True ∧ True ∧ True ∧ (0 ≤ x9 ∧ x9 < (a0.Names.length : Int)) ∧ True ∧ (((((.str (a0.Names.getD x9.toNat default)) : C) = (.str (a0.Names.getD x9.toNat default))) ∧ True) ∧ CallOK Try.prog 148 [.one (.str (a0.Names.getD x9.toNat default))] [.one (.bool v12)]) ∧ True ∧ (True ∧ (!v12) = false) ∧ True ∧ True ∧ (True ∧ (decide (x9 > (0 : Int))) = false) ∧ True ∧ True ∧ True ∧ True ∧ True ∧ True ∧ True ∧ True ∧ True ∧ True ∧ True ∧ True ∧ True ∧ True ∧ True ∧ True ∧ True ∧ True ∧ True ∧ True ∧ True ∧ True ∧ True ∧ True ∧ (0 ≤ x9 ∧ x9 < (a0.Poses.length : Int)) ∧ True ∧ True ∧ True ∧ True ∧ True ∧ True ∧ True ∧ True ∧ True ∧ True ∧ True ∧ True) ∧ (True)) (by kernel_rfl) ⟨⟨trivial, trivial, trivial, trivial, trivial, c11, trivial, ⟨⟨rfl, trivial⟩, ok_spec_IsName K (a0.Names.getD x9.toNat default) v12 e13⟩, trivial, ⟨trivial, b14⟩, trivial, trivial, ⟨trivial, b15⟩, trivial, trivial, trivial, trivial, trivial, trivial, trivial, trivial, trivial, trivial, trivial, trivial, trivial, trivial, trivial, trivial, trivial, trivial, trivial, trivial, trivial, trivial, trivial, trivial, c19, trivial, trivial, trivial, trivial, trivial, trivial, trivial, trivial, trivial, trivial, trivial, trivial⟩, trivial⟩ ⟨rfl, rfl⟩
      refine thenQ_normal ?_
      rcases ite2_cases h with ⟨b22, h⟩ | ⟨b22, h⟩
      · refine AW.cond_t rfl b22 ?_
        refine AW.seq ?_
        refine AW.regionA [] [2] [] (s' := ⟨[(2, (.v (.one (.c (.bool false)))))], []⟩) (ob := True ∧ True) (by kernel_rfl) ⟨trivial, trivial⟩ ?_
        refine thenQ_normal ?_
        refine AW.ret ?_
        refine blockQ_ret ?_
        refine thenQ_ret ?_
        refine loopQ_ret ?_
        refine blockQ_ret ?_
        refine thenQ_ret ?_
        replace h := some_eq h
        subst h
        exact ⟨.inr rfl, retOK_of [(.one (.c (.bool false)))] (by kernel_rfl) ⟨⟨rfl, trivial⟩, trivial⟩ (of_decide_eq_true (by kernel_rfl))⟩
      · refine AW.cond_f rfl b22 ?_
        refine AW.skip ?_
        refine blockQ_normal ?_
        refine thenQ_normal ?_
        refine AW.regionA [] [0, 34, 35] [] (s' := ⟨[(0, (.v (.one (.c (pl 3 cs_Stage a0))))), (34, (.v (.one (.c (.int .i64 (a0.Names.length : Int)))))), (35, (.v (.one (.c (.int .i64 (IntKind.i64.wrap (x9 + (1 : Int))))))))], []⟩) (ob := True ∧ True ∧ True) (by kernel_rfl) ⟨trivial, trivial, trivial⟩ ?_
        exact loopQ_normal (k, (IntKind.i64.wrap (x9 + (1 : Int)))) h (Nat.lt_succ_self k) (Sub.keep [0, 34, 35] [] (by kernel_rfl) (by kernel_rfl))
    · refine AW.cond_f rfl b10 ?_
      refine AW.exit ?_
      refine thenQ_exit ?_
      refine loopQ_exit ?_
      refine blockQ_exit ?_
      refine thenQ_normal ?_
      refine AW.seq ?_
      refine AW.regionA [] [2] [] (s' := ⟨[(2, (.v (.one (.c (.bool true)))))], []⟩) (ob := True ∧ True) (by kernel_rfl) ⟨trivial, trivial⟩ ?_
      refine thenQ_normal ?_
      refine AW.ret ?_
      replace h := some_eq h
      subst h
      exact ⟨.inr rfl, retOK_of [(.one (.c (.bool true)))] (by kernel_rfl) ⟨⟨rfl, trivial⟩, trivial⟩ (of_decide_eq_true (by kernel_rfl))⟩

/-! spec.ValidStage -/
def spec_ValidStage (K : Nat) (a0 : Stage) : Option (Bool) :=
  (spec_l11Is K a0).bind fun v1 => some v1

theorem ok_spec_ValidStage (K : Nat) (a0 : Stage) (o : (Bool)) (h : spec_ValidStage K a0 = some o) : CallOK Try.prog 60 [.agg (cs_Stage a0)] [.one (.bool o)] := by
  refine callOK_of_AW Try.func60 rfl (by kernel_rfl) (Nat.le_of_ble_eq_true (by kernel_rfl)) ?_
  intro w0
  unfold spec_ValidStage at h
  refine AW.seq ?_
  refine AW.regionA [.box 1] [1] [1] (s' := ⟨[(1, (.v (.one (.ptr 1 0))))], [(1, (.box [(.c (sl 4 cs_Bone a0.Skeleton.Bones)), (.c (sl 1 csS a0.Names)), (.c (sl 4 cs_Pose a0.Poses))]))]⟩) (ob := True ∧ True ∧ True) (by kernel_rfl) ⟨trivial, trivial, trivial⟩ ?_
  refine thenQ_normal ?_
  refine AW.seq ?_
  obtain ⟨v1, e2, h⟩ := bind_some h
  refine AW.regionA [.call [.one (pl 3 cs_Stage a0)] [.one (.bool v1)] [[.view]]] [2] [] (s' := ⟨[(2, (.v (.one (.c (.bool v1)))))], []⟩) (ob := (((0 = 0 ∧ (((sl 4 cs_Bone a0.Skeleton.Bones) : C) = (sl 4 cs_Bone a0.Skeleton.Bones)) ∧ (((sl 1 csS a0.Names) : C) = (sl 1 csS a0.Names)) ∧ (((sl 4 cs_Pose a0.Poses) : C) = (sl 4 cs_Pose a0.Poses)) ∧ True) ∧ True) ∧ CallOK Try.prog 113 [.one (pl 3 cs_Stage a0)] [.one (.bool v1)]) ∧ True ∧ True) (by kernel_rfl) ⟨⟨⟨⟨rfl, rfl, rfl, rfl, trivial⟩, trivial⟩, ok_spec_l11Is K a0 v1 e2⟩, trivial, trivial⟩ ?_
  refine thenQ_normal ?_
  refine AW.ret ?_
  replace h := some_eq h
  subst h
  exact ⟨.inr rfl, retOK_of [(.one (.c (.bool v1)))] (by kernel_rfl) ⟨⟨rfl, trivial⟩, trivial⟩ (of_decide_eq_true (by kernel_rfl))⟩

/-! laws.toVector -/
def laws_toVector (K : Nat) (a0 : Vector) : Option (Vector) :=
  some a0

theorem ok_laws_toVector (K : Nat) (a0 : Vector) (o : (Vector)) (h : laws_toVector K a0 = some o) : CallOK Try.prog 88 [.agg (cs_Vector a0)] [.agg (cs_Vector o)] := by
  refine callOK_of_AW Try.func88 rfl (by kernel_rfl) (Nat.le_of_ble_eq_true (by kernel_rfl)) ?_
  intro w0
  unfold laws_toVector at h
  refine AW.seq ?_
  refine AW.regionA [.box 1, .box 2] [1, 2] [1, 2] (s' := ⟨[(1, (.v (.one (.ptr 1 0)))), (2, (.v (.one (.ptr 2 0))))], [(1, (.box [(.c (.flt .f32 a0.X.bits)), (.c (.flt .f32 a0.Y.bits)), (.c (.flt .f32 a0.Z.bits))])), (2, (.box [(.c (.flt .f32 (default : F32).bits)), (.c (.flt .f32 (default : F32).bits)), (.c (.flt .f32 (default : F32).bits))]))]⟩) (ob := True ∧ True ∧ True) (by kernel_rfl) ⟨trivial, trivial, trivial⟩ ?_
  refine thenQ_normal ?_
  refine AW.seq ?_
  refine AW.regionA [.box 3] [1, 2, 3] [1, 2, 3] (s' := ⟨[(1, (.v (.one (.ptr 1 0)))), (2, (.v (.one (.ptr 2 0)))), (3, (.v (.one (.ptr 3 0))))], [(1, (.box [(.c (.flt .f32 a0.X.bits)), (.c (.flt .f32 a0.Y.bits)), (.c (.flt .f32 a0.Z.bits))])), (2, (.box [(.c (.flt .f32 (default : F32).bits)), (.c (.flt .f32 (default : F32).bits)), (.c (.flt .f32 (default : F32).bits))])), (3, (.box [(.c (.flt .f32 (default : F32).bits)), (.c (.flt .f32 (default : F32).bits)), (.c (.flt .f32 (default : F32).bits))]))]⟩) (ob := True ∧ True) (by kernel_rfl) ⟨trivial, trivial⟩ ?_
  refine thenQ_normal ?_
  refine AW.seq ?_
  refine AW.regionA [] [1, 2, 3] [1, 2, 3] (s' := ⟨[(1, (.v (.one (.ptr 1 0)))), (2, (.v (.one (.ptr 2 0)))), (3, (.v (.one (.ptr 3 0))))], [(1, (.box [(.c (.flt .f32 a0.X.bits)), (.c (.flt .f32 a0.Y.bits)), (.c (.flt .f32 a0.Z.bits))])), (2, (.box [(.c (.flt .f32 (default : F32).bits)), (.c (.flt .f32 (default : F32).bits)), (.c (.flt .f32 (default : F32).bits))])), (3, (.box [(.c (.flt .f32 a0.X.bits)), (.c (.flt .f32 (default : F32).bits)), (.c (.flt .f32 (default : F32).bits))]))]⟩) (ob := True ∧ True ∧ True ∧ True ∧ True) (by kernel_rfl) ⟨trivial, trivial, trivial, trivial, trivial⟩ ?_
  refine thenQ_normal ?_
  refine AW.seq ?_
  refine AW.regionA [] [1, 2, 3] [1, 2, 3] (s' := ⟨[(1, (.v (.one (.ptr 1 0)))), (2, (.v (.one (.ptr 2 0)))), (3, (.v (.one (.ptr 3 0))))], [(1, (.box [(.c (.flt .f32 a0.X.bits)), (.c (.flt .f32 a0.Y.bits)), (.c (.flt .f32 a0.Z.bits))])), (2, (.box [(.c (.flt .f32 (default : F32).bits)), (.c (.flt .f32 (default : F32).bits)), (.c (.flt .f32 (default : F32).bits))])), (3, (.box [(.c (.flt .f32 a0.X.bits)), (.c (.flt .f32 a0.Y.bits)), (.c (.flt .f32 (default : F32).bits))]))]⟩) (ob := True ∧ True ∧ True ∧ True ∧ True) (by kernel_rfl) ⟨trivial, trivial, trivial, trivial, trivial⟩ ?_
  refine thenQ_normal ?_
  refine AW.seq ?_
  refine AW.regionA [] [2, 3] [2, 3] (s' := ⟨[(2, (.v (.one (.ptr 2 0)))), (3, (.v (.one (.ptr 3 0))))], [(2, (.box [(.c (.flt .f32 (default : F32).bits)), (.c (.flt .f32 (default : F32).bits)), (.c (.flt .f32 (default : F32).bits))])), (3, (.box [(.c (.flt .f32 a0.X.bits)), (.c (.flt .f32 a0.Y.bits)), (.c (.flt .f32 a0.Z.bits))]))]⟩) (ob := True ∧ True ∧ True ∧ True ∧ True) (by kernel_rfl) ⟨trivial, trivial, trivial, trivial, trivial⟩ ?_
  refine thenQ_normal ?_
  refine AW.seq ?_
  refine AW.regionA [] [2] [2] (s' := ⟨[(2, (.v (.one (.ptr 2 0))))], [(2, (.box [(.c (.flt .f32 a0.X.bits)), (.c (.flt .f32 a0.Y.bits)), (.c (.flt .f32 a0.Z.bits))]))]⟩) (ob := True ∧ True ∧ True) (by kernel_rfl) ⟨trivial, trivial, trivial⟩ ?_
  refine thenQ_normal ?_
  refine AW.ret ?_
  replace h := some_eq h
  subst h
  exact ⟨.inr rfl, retOK_of [(.agg [(.c (.flt .f32 a0.X.bits)), (.c (.flt .f32 a0.Y.bits)), (.c (.flt .f32 a0.Z.bits))])] (by kernel_rfl) ⟨⟨⟨rfl, trivial⟩, ⟨rfl, trivial⟩, ⟨rfl, trivial⟩, trivial⟩, trivial⟩ (of_decide_eq_true (by kernel_rfl))⟩

/-! laws.toTurn -/
def laws_toTurn (K : Nat) (a0 : Turn) : Option (Turn) :=
  some a0

theorem ok_laws_toTurn (K : Nat) (a0 : Turn) (o : (Turn)) (h : laws_toTurn K a0 = some o) : CallOK Try.prog 130 [.agg (cs_Turn a0)] [.agg (cs_Turn o)] := by
  refine callOK_of_AW Try.func130 rfl (by kernel_rfl) (Nat.le_of_ble_eq_true (by kernel_rfl)) ?_
  intro w0
  unfold laws_toTurn at h
  refine AW.seq ?_
  refine AW.regionA [.box 1, .box 2] [1, 2] [1, 2] (s' := ⟨[(1, (.v (.one (.ptr 1 0)))), (2, (.v (.one (.ptr 2 0))))], [(1, (.box [(.c (.flt .f32 a0.W.bits)), (.c (.flt .f32 a0.X.bits)), (.c (.flt .f32 a0.Y.bits)), (.c (.flt .f32 a0.Z.bits))])), (2, (.box [(.c (.flt .f32 (default : F32).bits)), (.c (.flt .f32 (default : F32).bits)), (.c (.flt .f32 (default : F32).bits)), (.c (.flt .f32 (default : F32).bits))]))]⟩) (ob := True ∧ True ∧ True) (by kernel_rfl) ⟨trivial, trivial, trivial⟩ ?_
  refine thenQ_normal ?_
  refine AW.seq ?_
  refine AW.regionA [.box 3] [1, 2, 3] [1, 2, 3] (s' := ⟨[(1, (.v (.one (.ptr 1 0)))), (2, (.v (.one (.ptr 2 0)))), (3, (.v (.one (.ptr 3 0))))], [(1, (.box [(.c (.flt .f32 a0.W.bits)), (.c (.flt .f32 a0.X.bits)), (.c (.flt .f32 a0.Y.bits)), (.c (.flt .f32 a0.Z.bits))])), (2, (.box [(.c (.flt .f32 (default : F32).bits)), (.c (.flt .f32 (default : F32).bits)), (.c (.flt .f32 (default : F32).bits)), (.c (.flt .f32 (default : F32).bits))])), (3, (.box [(.c (.flt .f32 (default : F32).bits)), (.c (.flt .f32 (default : F32).bits)), (.c (.flt .f32 (default : F32).bits)), (.c (.flt .f32 (default : F32).bits))]))]⟩) (ob := True ∧ True) (by kernel_rfl) ⟨trivial, trivial⟩ ?_
  refine thenQ_normal ?_
  refine AW.seq ?_
  refine AW.regionA [] [1, 2, 3] [1, 2, 3] (s' := ⟨[(1, (.v (.one (.ptr 1 0)))), (2, (.v (.one (.ptr 2 0)))), (3, (.v (.one (.ptr 3 0))))], [(1, (.box [(.c (.flt .f32 a0.W.bits)), (.c (.flt .f32 a0.X.bits)), (.c (.flt .f32 a0.Y.bits)), (.c (.flt .f32 a0.Z.bits))])), (2, (.box [(.c (.flt .f32 (default : F32).bits)), (.c (.flt .f32 (default : F32).bits)), (.c (.flt .f32 (default : F32).bits)), (.c (.flt .f32 (default : F32).bits))])), (3, (.box [(.c (.flt .f32 a0.W.bits)), (.c (.flt .f32 (default : F32).bits)), (.c (.flt .f32 (default : F32).bits)), (.c (.flt .f32 (default : F32).bits))]))]⟩) (ob := True ∧ True ∧ True ∧ True ∧ True) (by kernel_rfl) ⟨trivial, trivial, trivial, trivial, trivial⟩ ?_
  refine thenQ_normal ?_
  refine AW.seq ?_
  refine AW.regionA [] [1, 2, 3] [1, 2, 3] (s' := ⟨[(1, (.v (.one (.ptr 1 0)))), (2, (.v (.one (.ptr 2 0)))), (3, (.v (.one (.ptr 3 0))))], [(1, (.box [(.c (.flt .f32 a0.W.bits)), (.c (.flt .f32 a0.X.bits)), (.c (.flt .f32 a0.Y.bits)), (.c (.flt .f32 a0.Z.bits))])), (2, (.box [(.c (.flt .f32 (default : F32).bits)), (.c (.flt .f32 (default : F32).bits)), (.c (.flt .f32 (default : F32).bits)), (.c (.flt .f32 (default : F32).bits))])), (3, (.box [(.c (.flt .f32 a0.W.bits)), (.c (.flt .f32 a0.X.bits)), (.c (.flt .f32 (default : F32).bits)), (.c (.flt .f32 (default : F32).bits))]))]⟩) (ob := True ∧ True ∧ True ∧ True ∧ True) (by kernel_rfl) ⟨trivial, trivial, trivial, trivial, trivial⟩ ?_
  refine thenQ_normal ?_
  refine AW.seq ?_
  refine AW.regionA [] [1, 2, 3] [1, 2, 3] (s' := ⟨[(1, (.v (.one (.ptr 1 0)))), (2, (.v (.one (.ptr 2 0)))), (3, (.v (.one (.ptr 3 0))))], [(1, (.box [(.c (.flt .f32 a0.W.bits)), (.c (.flt .f32 a0.X.bits)), (.c (.flt .f32 a0.Y.bits)), (.c (.flt .f32 a0.Z.bits))])), (2, (.box [(.c (.flt .f32 (default : F32).bits)), (.c (.flt .f32 (default : F32).bits)), (.c (.flt .f32 (default : F32).bits)), (.c (.flt .f32 (default : F32).bits))])), (3, (.box [(.c (.flt .f32 a0.W.bits)), (.c (.flt .f32 a0.X.bits)), (.c (.flt .f32 a0.Y.bits)), (.c (.flt .f32 (default : F32).bits))]))]⟩) (ob := True ∧ True ∧ True ∧ True ∧ True) (by kernel_rfl) ⟨trivial, trivial, trivial, trivial, trivial⟩ ?_
  refine thenQ_normal ?_
  refine AW.seq ?_
  refine AW.regionA [] [2, 3] [2, 3] (s' := ⟨[(2, (.v (.one (.ptr 2 0)))), (3, (.v (.one (.ptr 3 0))))], [(2, (.box [(.c (.flt .f32 (default : F32).bits)), (.c (.flt .f32 (default : F32).bits)), (.c (.flt .f32 (default : F32).bits)), (.c (.flt .f32 (default : F32).bits))])), (3, (.box [(.c (.flt .f32 a0.W.bits)), (.c (.flt .f32 a0.X.bits)), (.c (.flt .f32 a0.Y.bits)), (.c (.flt .f32 a0.Z.bits))]))]⟩) (ob := True ∧ True ∧ True ∧ True ∧ True) (by kernel_rfl) ⟨trivial, trivial, trivial, trivial, trivial⟩ ?_
  refine thenQ_normal ?_
  refine AW.seq ?_
  refine AW.regionA [] [2] [2] (s' := ⟨[(2, (.v (.one (.ptr 2 0))))], [(2, (.box [(.c (.flt .f32 a0.W.bits)), (.c (.flt .f32 a0.X.bits)), (.c (.flt .f32 a0.Y.bits)), (.c (.flt .f32 a0.Z.bits))]))]⟩) (ob := True ∧ True ∧ True) (by kernel_rfl) ⟨trivial, trivial, trivial⟩ ?_
  refine thenQ_normal ?_
  refine AW.ret ?_
  replace h := some_eq h
  subst h
  exact ⟨.inr rfl, retOK_of [(.agg [(.c (.flt .f32 a0.W.bits)), (.c (.flt .f32 a0.X.bits)), (.c (.flt .f32 a0.Y.bits)), (.c (.flt .f32 a0.Z.bits))])] (by kernel_rfl) ⟨⟨⟨rfl, trivial⟩, ⟨rfl, trivial⟩, ⟨rfl, trivial⟩, ⟨rfl, trivial⟩, trivial⟩, trivial⟩ (of_decide_eq_true (by kernel_rfl))⟩

/-! laws.toTurnS -/
def laws_toTurnS_l1 (K : Nat) (a0 : (List Turn)) : Nat → Int → (List Turn) → Option ((List Turn))
  | 0, _, _ => none
  | k + 1, x4, x5 => ite2 ((decide (x4 < (a0.length : Int)))) (chk (0 ≤ x4 ∧ x4 < (a0.length : Int)) ((laws_toTurn K (a0.getD x4.toNat default)).bind fun v8 => chk (0 ≤ x4 ∧ x4 < (x5.length : Int)) (laws_toTurnS_l1 K a0 k (IntKind.i64.wrap (x4 + (1 : Int))) (x5.set x4.toNat v8)))) (some x5)

def laws_toTurnS (K : Nat) (a0 : (List Turn)) : Option ((List Turn)) :=
  chk (0 ≤ (a0.length : Int) ∧ (a0.length : Int).toNat * 16 ≤ 140737488355328) (laws_toTurnS_l1 K a0 K (0 : Int) (List.replicate (a0.length : Int).toNat (default : Turn)))

theorem ok_laws_toTurnS (K : Nat) (a0 : (List Turn)) (o : ((List Turn))) (h : laws_toTurnS K a0 = some o) : CallOK Try.prog 89 [.one (sl 4 cs_Turn a0)] [.one (sl 4 cs_Turn o)] := by
  refine callOK_of_AW Try.func89 rfl (by kernel_rfl) (Nat.le_of_ble_eq_true (by kernel_rfl)) ?_
  intro w0
  unfold laws_toTurnS at h
  refine AW.seq ?_
  refine AW.regionA [] [0] [] (s' := ⟨[(0, (.v (.one (.c (sl 4 cs_Turn a0)))))], []⟩) (ob := True ∧ True) (by kernel_rfl) ⟨trivial, trivial⟩ ?_
  refine thenQ_normal ?_
  refine AW.seq ?_
  obtain ⟨c1, h⟩ := chk_some h
  refine AW.regionA [.no, .no, .obj 1 (List.replicate (a0.length : Int).toNat (default : Turn)).length (gl cs_Turn (List.replicate (a0.length : Int).toNat (default : Turn)))] [0, 3] [1] (s' := ⟨[(0, (.v (.one (.c (sl 4 cs_Turn a0))))), (3, (.v (.one (.arr 1))))], [(1, (.arr (List.replicate (a0.length : Int).toNat (default : Turn)).length 4 (gl cs_Turn (List.replicate (a0.length : Int).toNat (default : Turn)))))]⟩) (ob := True ∧ True ∧ (0 ≤ (a0.length : Int) ∧ (a0.length : Int) = (a0.length : Int) ∧ (((List.replicate (a0.length : Int).toNat (default : Turn)).length : Nat) : Int) = (a0.length : Int) ∧ (List.replicate (a0.length : Int).toNat (default : Turn)).length * 16 ≤ 140737488355328 ∧ ∀ i, i < (List.replicate (a0.length : Int).toNat (default : Turn)).length → zeroRow (fun _ => none) [(.c (.flt .f32 (default : F32).bits)), (.c (.flt .f32 (default : F32).bits)), (.c (.flt .f32 (default : F32).bits)), (.c (.flt .f32 (default : F32).bits))] (gl cs_Turn (List.replicate (a0.length : Int).toNat (default : Turn)) i)) ∧ True ∧ True) (by kernel_rfl) ⟨trivial, trivial, ⟨c1.1, rfl, len_rep c1.1, rep_bytes c1.2, fun i hi => gl_zero (cs := cs_Turn) (zs := [(.c (.flt .f32 (default : F32).bits)), (.c (.flt .f32 (default : F32).bits)), (.c (.flt .f32 (default : F32).bits)), (.c (.flt .f32 (default : F32).bits))]) (n := (a0.length : Int).toNat) ⟨⟨rfl, trivial⟩, ⟨rfl, trivial⟩, ⟨rfl, trivial⟩, ⟨rfl, trivial⟩, trivial⟩ i (rep_lt hi)⟩, trivial, trivial⟩ ?_
  refine thenQ_normal ?_
  refine AW.seq ?_
  refine AW.seq ?_
  refine AW.regionA [] [0, 3, 4] [1] (s' := ⟨[(0, (.v (.one (.c (sl 4 cs_Turn a0))))), (3, (.v (.one (.arr 1)))), (4, (.v (.one (.c (.int .i64 (0 : Int))))))], [(1, (.arr (List.replicate (a0.length : Int).toNat (default : Turn)).length 4 (gl cs_Turn (List.replicate (a0.length : Int).toNat (default : Turn)))))]⟩) (ob := True ∧ True) (by kernel_rfl) ⟨trivial, trivial⟩ ?_
  refine thenQ_normal ?_
  refine AW.block ?_
  refine AW.loopQ (σ := Nat × Int × (List Turn)) (fun p => ⟨[(0, (.v (.one (.c (sl 4 cs_Turn a0))))), (3, (.v (.one (.arr 1)))), (4, (.v (.one (.c (.int .i64 p.2.1)))))], [(1, (.arr p.2.2.length 4 (gl cs_Turn p.2.2)))]⟩) (fun p => laws_toTurnS_l1 K a0 p.1 p.2.1 p.2.2 = some o) (fun p => p.1) (K, (0 : Int), (List.replicate (a0.length : Int).toNat (default : Turn))) h ?_
  clear h
  rintro ⟨k, x4, x5⟩ h
  replace h : laws_toTurnS_l1 K a0 k x4 x5 = some o := h
  show AW _ _ (⟨[(0, (.v (.one (.c (sl 4 cs_Turn a0))))), (3, (.v (.one (.arr 1)))), (4, (.v (.one (.c (.int .i64 x4)))))], [(1, (.arr x5.length 4 (gl cs_Turn x5)))]⟩ : St) _
  obtain _ | k := k
  · rw [laws_toTurnS_l1] at h; cases h
  rw [laws_toTurnS_l1] at h
  refine AW.seq ?_
  refine AW.seq ?_
  refine AW.regionA [] [0, 3, 4, 11] [1] (s' := ⟨[(0, (.v (.one (.c (sl 4 cs_Turn a0))))), (3, (.v (.one (.arr 1)))), (4, (.v (.one (.c (.int .i64 x4))))), (11, (.v (.one (.c (.bool (decide (x4 < (a0.length : Int))))))))], [(1, (.arr x5.length 4 (gl cs_Turn x5)))]⟩) (ob := True ∧ True ∧ True ∧ True ∧ True) (by kernel_rfl) ⟨trivial, trivial, trivial, trivial, trivial⟩ ?_
  refine thenQ_normal ?_
  rcases ite2_cases h with ⟨b6, h⟩ | ⟨b6, h⟩
  · refine AW.cond_t rfl b6 ?_
    refine AW.skip ?_
    refine thenQ_normal ?_
    refine AW.seq ?_
    refine AW.block ?_
    obtain ⟨c7, h⟩ := chk_some h
    obtain ⟨v8, e9, h⟩ := bind_some h
    obtain ⟨c10, h⟩ := chk_some h
    refine AW.regionA [.no, .no, .no, .no, .no, .no, .call [.agg (cs_Turn (a0.getD x4.toNat default))] [.agg (cs_Turn v8)] [[.view, .view, .view, .view]], .no, .set (x5.set x4.toNat v8).length (gl cs_Turn (x5.set x4.toNat v8)) ((List.range 4).map fun j => (cs_Turn v8).getD j .nilptr)] [0, 3, 4] [1] (s' := ⟨[(0, (.v (.one (.c (sl 4 cs_Turn a0))))), (3, (.v (.one (.arr 1)))), (4, (.v (.one (.c (.int .i64 x4)))))], [(1, (.arr (x5.set x4.toNat v8).length 4 (gl cs_Turn (x5.set x4.toNat v8))))]⟩) (ob := True ∧ True ∧ True ∧ True ∧ (0 ≤ x4 ∧ x4 < (a0.length : Int)) ∧ True ∧ ((((((.flt .f32 ((a0.getD x4.toNat default).W).bits) : C) = (.flt .f32 ((a0.getD x4.toNat default).W).bits)) ∧ (((.flt .f32 ((a0.getD x4.toNat default).X).bits) : C) = (.flt .f32 ((a0.getD x4.toNat default).X).bits)) ∧ (((.flt .f32 ((a0.getD x4.toNat default).Y).bits) : C) = (.flt .f32 ((a0.getD x4.toNat default).Y).bits)) ∧ (((.flt .f32 ((a0.getD x4.toNat default).Z).bits) : C) = (.flt .f32 ((a0.getD x4.toNat default).Z).bits)) ∧ True) ∧ True) ∧ CallOK Try.prog 130 [.agg (cs_Turn (a0.getD x4.toNat default))] [.agg (cs_Turn v8)]) ∧ (0 ≤ x4 ∧ x4 < (x5.length : Int)) ∧ ((x5.set x4.toNat v8).length = x5.length ∧ SetOb x5.length 4 x4.toNat 0 4 (gl cs_Turn x5) (gl cs_Turn (x5.set x4.toNat v8)) ∧ ((List.range 4).map fun j => (cs_Turn v8).getD j .nilptr) = ((List.range 4).map fun j => gl cs_Turn (x5.set x4.toNat v8) x4.toNat (0 + j)) ∧ (((.flt .f32 v8.W.bits) : C) = (.flt .f32 v8.W.bits) ∧ True) ∧ (((.flt .f32 v8.X.bits) : C) = (.flt .f32 v8.X.bits) ∧ True) ∧ (((.flt .f32 v8.Y.bits) : C) = (.flt .f32 v8.Y.bits) ∧ True) ∧ (((.flt .f32 v8.Z.bits) : C) = (.flt .f32 v8.Z.bits) ∧ True) ∧ True) ∧ True) (by kernel_rfl) ⟨trivial, trivial, trivial, trivial, c7, trivial, ⟨⟨⟨rfl, rfl, rfl, rfl, trivial⟩, trivial⟩, ok_laws_toTurn K (a0.getD x4.toNat default) v8 e9⟩, c10, ⟨List.length_set, gl_set, (gl_at (lt_of_bound c10)).symm, ⟨⟨rfl, trivial⟩, ⟨rfl, trivial⟩, ⟨rfl, trivial⟩, ⟨rfl, trivial⟩, trivial⟩⟩, trivial⟩ ?_
    refine blockQ_normal ?_
    refine thenQ_normal ?_
    refine AW.regionA [] [0, 3, 4] [1] (s' := ⟨[(0, (.v (.one (.c (sl 4 cs_Turn a0))))), (3, (.v (.one (.arr 1)))), (4, (.v (.one (.c (.int .i64 (IntKind.i64.wrap (x4 + (1 : Int))))))))], [(1, (.arr (x5.set x4.toNat v8).length 4 (gl cs_Turn (x5.set x4.toNat v8))))]⟩) (ob := True ∧ True ∧ True ∧ True) (by kernel_rfl) ⟨trivial, trivial, trivial, trivial⟩ ?_
    exact loopQ_normal (k, (IntKind.i64.wrap (x4 + (1 : Int))), (x5.set x4.toNat v8)) h (Nat.lt_succ_self k) (Sub.keep [0, 3, 4] [1] (by kernel_rfl) (by kernel_rfl))
  · refine AW.cond_f rfl b6 ?_
    refine AW.exit ?_
    refine thenQ_exit ?_
    refine loopQ_exit ?_
    refine blockQ_exit ?_
    refine thenQ_normal ?_
    refine AW.seq ?_
    refine AW.regionA [] [2] [1] (s' := ⟨[(2, (.v (.one (.arr 1))))], [(1, (.arr x5.length 4 (gl cs_Turn x5)))]⟩) (ob := True ∧ True ∧ True) (by kernel_rfl) ⟨trivial, trivial, trivial⟩ ?_
    refine thenQ_normal ?_
    refine AW.ret ?_
    replace h := some_eq h
    subst h
    exact ⟨.inr rfl, retOK_of [(.one (.arr 1))] (by kernel_rfl) ⟨rfl, trivial⟩ (of_decide_eq_true (by kernel_rfl))⟩

/-! laws.toPose -/
def laws_toPose (K : Nat) (a0 : Pose) : Option (Pose) :=
  (laws_toVector K a0.Root).bind fun v1 => (laws_toTurnS K a0.Turns).bind fun v3 => some (Pose.mk v1 v3)

theorem ok_laws_toPose (K : Nat) (a0 : Pose) (o : (Pose)) (h : laws_toPose K a0 = some o) : CallOK Try.prog 34 [.agg (cs_Pose a0)] [.agg (cs_Pose o)] := by
  refine callOK_of_AW Try.func34 rfl (by kernel_rfl) (Nat.le_of_ble_eq_true (by kernel_rfl)) ?_
  intro w0
  unfold laws_toPose at h
  refine AW.seq ?_
  refine AW.regionA [.box 1, .box 2] [1, 2] [1, 2] (s' := ⟨[(1, (.v (.one (.ptr 1 0)))), (2, (.v (.one (.ptr 2 0))))], [(1, (.box [(.c (.flt .f32 a0.Root.X.bits)), (.c (.flt .f32 a0.Root.Y.bits)), (.c (.flt .f32 a0.Root.Z.bits)), (.c (sl 4 cs_Turn a0.Turns))])), (2, (.box [(.c (.flt .f32 (default : F32).bits)), (.c (.flt .f32 (default : F32).bits)), (.c (.flt .f32 (default : F32).bits)), .nils]))]⟩) (ob := True ∧ True ∧ True) (by kernel_rfl) ⟨trivial, trivial, trivial⟩ ?_
  refine thenQ_normal ?_
  refine AW.seq ?_
  refine AW.regionA [.box 3] [1, 2, 3] [1, 2, 3] (s' := ⟨[(1, (.v (.one (.ptr 1 0)))), (2, (.v (.one (.ptr 2 0)))), (3, (.v (.one (.ptr 3 0))))], [(1, (.box [(.c (.flt .f32 a0.Root.X.bits)), (.c (.flt .f32 a0.Root.Y.bits)), (.c (.flt .f32 a0.Root.Z.bits)), (.c (sl 4 cs_Turn a0.Turns))])), (2, (.box [(.c (.flt .f32 (default : F32).bits)), (.c (.flt .f32 (default : F32).bits)), (.c (.flt .f32 (default : F32).bits)), .nils])), (3, (.box [(.c (.flt .f32 (default : F32).bits)), (.c (.flt .f32 (default : F32).bits)), (.c (.flt .f32 (default : F32).bits)), .nils]))]⟩) (ob := True ∧ True) (by kernel_rfl) ⟨trivial, trivial⟩ ?_
  refine thenQ_normal ?_
  refine AW.seq ?_
  obtain ⟨v1, e2, h⟩ := bind_some h
  refine AW.regionA [.no, .no, .call [.agg (cs_Vector a0.Root)] [.agg (cs_Vector v1)] [[.view, .view, .view]]] [1, 2, 3] [1, 2, 3] (s' := ⟨[(1, (.v (.one (.ptr 1 0)))), (2, (.v (.one (.ptr 2 0)))), (3, (.v (.one (.ptr 3 0))))], [(1, (.box [(.c (.flt .f32 a0.Root.X.bits)), (.c (.flt .f32 a0.Root.Y.bits)), (.c (.flt .f32 a0.Root.Z.bits)), (.c (sl 4 cs_Turn a0.Turns))])), (2, (.box [(.c (.flt .f32 (default : F32).bits)), (.c (.flt .f32 (default : F32).bits)), (.c (.flt .f32 (default : F32).bits)), .nils])), (3, (.box [(.c (.flt .f32 v1.X.bits)), (.c (.flt .f32 v1.Y.bits)), (.c (.flt .f32 v1.Z.bits)), .nils]))]⟩) (ob := True ∧ True ∧ ((((((.flt .f32 a0.Root.X.bits) : C) = (.flt .f32 a0.Root.X.bits)) ∧ (((.flt .f32 a0.Root.Y.bits) : C) = (.flt .f32 a0.Root.Y.bits)) ∧ (((.flt .f32 a0.Root.Z.bits) : C) = (.flt .f32 a0.Root.Z.bits)) ∧ True) ∧ True) ∧ CallOK Try.prog 88 [.agg (cs_Vector a0.Root)] [.agg (cs_Vector v1)]) ∧ True ∧ True ∧ True) (by kernel_rfl) ⟨trivial, trivial, ⟨⟨⟨rfl, rfl, rfl, trivial⟩, trivial⟩, ok_laws_toVector K a0.Root v1 e2⟩, trivial, trivial, trivial⟩ ?_
  refine thenQ_normal ?_
  refine AW.seq ?_
  obtain ⟨v3, e4, h⟩ := bind_some h
  refine AW.regionA [.no, .no, .call [.one (sl 4 cs_Turn a0.Turns)] [.one (sl 4 cs_Turn v3)] [[.lst 4]]] [2, 3] [2, 3, 4] (s' := ⟨[(2, (.v (.one (.ptr 2 0)))), (3, (.v (.one (.ptr 3 0))))], [(2, (.box [(.c (.flt .f32 (default : F32).bits)), (.c (.flt .f32 (default : F32).bits)), (.c (.flt .f32 (default : F32).bits)), .nils])), (3, (.box [(.c (.flt .f32 v1.X.bits)), (.c (.flt .f32 v1.Y.bits)), (.c (.flt .f32 v1.Z.bits)), (.lst 4 v3.length 4 (gl cs_Turn v3))])), (4, (.lst v3.length 4 (gl cs_Turn v3)))]⟩) (ob := True ∧ True ∧ (((((sl 4 cs_Turn a0.Turns) : C) = (sl 4 cs_Turn a0.Turns)) ∧ True) ∧ CallOK Try.prog 89 [.one (sl 4 cs_Turn a0.Turns)] [.one (sl 4 cs_Turn v3)]) ∧ True ∧ True ∧ True) (by kernel_rfl) ⟨trivial, trivial, ⟨⟨rfl, trivial⟩, ok_laws_toTurnS K a0.Turns v3 e4⟩, trivial, trivial, trivial⟩ ?_
  refine thenQ_normal ?_
  refine AW.seq ?_
  refine AW.regionA [] [2] [2, 4] (s' := ⟨[(2, (.v (.one (.ptr 2 0))))], [(2, (.box [(.c (.flt .f32 v1.X.bits)), (.c (.flt .f32 v1.Y.bits)), (.c (.flt .f32 v1.Z.bits)), (.lst 4 v3.length 4 (gl cs_Turn v3))])), (4, (.lst v3.length 4 (gl cs_Turn v3)))]⟩) (ob := True ∧ True ∧ True) (by kernel_rfl) ⟨trivial, trivial, trivial⟩ ?_
  refine thenQ_normal ?_
  refine AW.ret ?_
  replace h := some_eq h
  subst h
  exact ⟨.inr rfl, retOK_of [(.agg [(.c (.flt .f32 v1.X.bits)), (.c (.flt .f32 v1.Y.bits)), (.c (.flt .f32 v1.Z.bits)), (.lst 4 v3.length 4 (gl cs_Turn v3))])] (by kernel_rfl) ⟨⟨⟨rfl, trivial⟩, ⟨rfl, trivial⟩, ⟨rfl, trivial⟩, rfl, trivial⟩, trivial⟩ (of_decide_eq_true (by kernel_rfl))⟩

/-! laws.toPoseS -/
def laws_toPoseS_l1 (K : Nat) (a0 : (List Pose)) : Nat → Int → (List Pose) → Option ((List Pose))
  | 0, _, _ => none
  | k + 1, x4, x5 => ite2 ((decide (x4 < (a0.length : Int)))) (chk (0 ≤ x4 ∧ x4 < (a0.length : Int)) ((laws_toPose K (a0.getD x4.toNat default)).bind fun v8 => chk (0 ≤ x4 ∧ x4 < (x5.length : Int)) (laws_toPoseS_l1 K a0 k (IntKind.i64.wrap (x4 + (1 : Int))) (x5.set x4.toNat v8)))) (some x5)

def laws_toPoseS (K : Nat) (a0 : (List Pose)) : Option ((List Pose)) :=
  chk (0 ≤ (a0.length : Int) ∧ (a0.length : Int).toNat * 40 ≤ 140737488355328) (laws_toPoseS_l1 K a0 K (0 : Int) (List.replicate (a0.length : Int).toNat (default : Pose)))

theorem ok_laws_toPoseS (K : Nat) (a0 : (List Pose)) (o : ((List Pose))) (h : laws_toPoseS K a0 = some o) : CallOK Try.prog 75 [.one (sl 4 cs_Pose a0)] [.one (sl 4 cs_Pose o)] := by
  refine callOK_of_AW Try.func75 rfl (by kernel_rfl) (Nat.le_of_ble_eq_true (by kernel_rfl)) ?_
  intro w0
  unfold laws_toPoseS at h
  refine AW.seq ?_
  refine AW.regionA [] [0] [] (s' := ⟨[(0, (.v (.one (.c (sl 4 cs_Pose a0)))))], []⟩) (ob := True ∧ True) (by kernel_rfl) ⟨trivial, trivial⟩ ?_
  refine thenQ_normal ?_
  refine AW.seq ?_
  obtain ⟨c1, h⟩ := chk_some h
  refine AW.regionA [.no, .no, .obj 1 (List.replicate (a0.length : Int).toNat (default : Pose)).length (gl cs_Pose (List.replicate (a0.length : Int).toNat (default : Pose)))] [0, 3] [1] (s' := ⟨[(0, (.v (.one (.c (sl 4 cs_Pose a0))))), (3, (.v (.one (.arr 1))))], [(1, (.arr (List.replicate (a0.length : Int).toNat (default : Pose)).length 4 (gl cs_Pose (List.replicate (a0.length : Int).toNat (default : Pose)))))]⟩) (ob := True ∧ True ∧ (0 ≤ (a0.length : Int) ∧ (a0.length : Int) = (a0.length : Int) ∧ (((List.replicate (a0.length : Int).toNat (default : Pose)).length : Nat) : Int) = (a0.length : Int) ∧ (List.replicate (a0.length : Int).toNat (default : Pose)).length * 40 ≤ 140737488355328 ∧ ∀ i, i < (List.replicate (a0.length : Int).toNat (default : Pose)).length → zeroRow (fun _ => none) [(.c (.flt .f32 (default : F32).bits)), (.c (.flt .f32 (default : F32).bits)), (.c (.flt .f32 (default : F32).bits)), .nils] (gl cs_Pose (List.replicate (a0.length : Int).toNat (default : Pose)) i)) ∧ True ∧ True) (by kernel_rfl) ⟨trivial, trivial, ⟨c1.1, rfl, len_rep c1.1, rep_bytes c1.2, fun i hi => gl_zero (cs := cs_Pose) (zs := [(.c (.flt .f32 (default : F32).bits)), (.c (.flt .f32 (default : F32).bits)), (.c (.flt .f32 (default : F32).bits)), .nils]) (n := (a0.length : Int).toNat) ⟨⟨rfl, trivial⟩, ⟨rfl, trivial⟩, ⟨rfl, trivial⟩, rfl, trivial⟩ i (rep_lt hi)⟩, trivial, trivial⟩ ?_
  refine thenQ_normal ?_
  refine AW.seq ?_
  refine AW.seq ?_
  refine AW.regionA [] [0, 3, 4] [1] (s' := ⟨[(0, (.v (.one (.c (sl 4 cs_Pose a0))))), (3, (.v (.one (.arr 1)))), (4, (.v (.one (.c (.int .i64 (0 : Int))))))], [(1, (.arr (List.replicate (a0.length : Int).toNat (default : Pose)).length 4 (gl cs_Pose (List.replicate (a0.length : Int).toNat (default : Pose)))))]⟩) (ob := True ∧ True) (by kernel_rfl) ⟨trivial, trivial⟩ ?_
  refine thenQ_normal ?_
  refine AW.block ?_
  refine AW.loopQ (σ := Nat × Int × (List Pose)) (fun p => ⟨[(0, (.v (.one (.c (sl 4 cs_Pose a0))))), (3, (.v (.one (.arr 1)))), (4, (.v (.one (.c (.int .i64 p.2.1)))))], [(1, (.arr p.2.2.length 4 (gl cs_Pose p.2.2)))]⟩) (fun p => laws_toPoseS_l1 K a0 p.1 p.2.1 p.2.2 = some o) (fun p => p.1) (K, (0 : Int), (List.replicate (a0.length : Int).toNat (default : Pose))) h ?_
  clear h
  rintro ⟨k, x4, x5⟩ h
  replace h : laws_toPoseS_l1 K a0 k x4 x5 = some o := h
  show AW _ _ (⟨[(0, (.v (.one (.c (sl 4 cs_Pose a0))))), (3, (.v (.one (.arr 1)))), (4, (.v (.one (.c (.int .i64 x4)))))], [(1, (.arr x5.length 4 (gl cs_Pose x5)))]⟩ : St) _
  obtain _ | k := k
  · rw [laws_toPoseS_l1] at h; cases h
  rw [laws_toPoseS_l1] at h
  refine AW.seq ?_
  refine AW.seq ?_
  refine AW.regionA [] [0, 3, 4, 11] [1] (s' := ⟨[(0, (.v (.one (.c (sl 4 cs_Pose a0))))), (3, (.v (.one (.arr 1)))), (4, (.v (.one (.c (.int .i64 x4))))), (11, (.v (.one (.c (.bool (decide (x4 < (a0.length : Int))))))))], [(1, (.arr x5.length 4 (gl cs_Pose x5)))]⟩) (ob := True ∧ True ∧ True ∧ True ∧ True) (by kernel_rfl) ⟨trivial, trivial, trivial, trivial, trivial⟩ ?_
  refine thenQ_normal ?_
  rcases ite2_cases h with ⟨b6, h⟩ | ⟨b6, h⟩
  · refine AW.cond_t rfl b6 ?_
    refine AW.skip ?_
    refine thenQ_normal ?_
    refine AW.seq ?_
    refine AW.block ?_
    obtain ⟨c7, h⟩ := chk_some h
    obtain ⟨v8, e9, h⟩ := bind_some h
    obtain ⟨c10, h⟩ := chk_some h
    refine AW.regionA [.no, .no, .no, .no, .no, .no, .call [.agg (cs_Pose (a0.getD x4.toNat default))] [.agg (cs_Pose v8)] [[.view, .view, .view, .lst 2]], .no, .set (x5.set x4.toNat v8).length (gl cs_Pose (x5.set x4.toNat v8)) ((List.range 4).map fun j => (cs_Pose v8).getD j .nilptr)] [0, 3, 4] [1] (s' := ⟨[(0, (.v (.one (.c (sl 4 cs_Pose a0))))), (3, (.v (.one (.arr 1)))), (4, (.v (.one (.c (.int .i64 x4)))))], [(1, (.arr (x5.set x4.toNat v8).length 4 (gl cs_Pose (x5.set x4.toNat v8))))]⟩) (ob := True ∧ True ∧ True ∧ True ∧ (0 ≤ x4 ∧ x4 < (a0.length : Int)) ∧ True ∧ ((((((.flt .f32 (((a0.getD x4.toNat default).Root).X).bits) : C) = (.flt .f32 (((a0.getD x4.toNat default).Root).X).bits)) ∧ (((.flt .f32 (((a0.getD x4.toNat default).Root).Y).bits) : C) = (.flt .f32 (((a0.getD x4.toNat default).Root).Y).bits)) ∧ (((.flt .f32 (((a0.getD x4.toNat default).Root).Z).bits) : C) = (.flt .f32 (((a0.getD x4.toNat default).Root).Z).bits)) ∧ (((sl 4 cs_Turn ((a0.getD x4.toNat default).Turns)) : C) = (sl 4 cs_Turn ((a0.getD x4.toNat default).Turns))) ∧ True) ∧ True) ∧ CallOK Try.prog 34 [.agg (cs_Pose (a0.getD x4.toNat default))] [.agg (cs_Pose v8)]) ∧ (0 ≤ x4 ∧ x4 < (x5.length : Int)) ∧ ((x5.set x4.toNat v8).length = x5.length ∧ SetOb x5.length 4 x4.toNat 0 4 (gl cs_Pose x5) (gl cs_Pose (x5.set x4.toNat v8)) ∧ ((List.range 4).map fun j => (cs_Pose v8).getD j .nilptr) = ((List.range 4).map fun j => gl cs_Pose (x5.set x4.toNat v8) x4.toNat (0 + j)) ∧ (((.flt .f32 v8.Root.X.bits) : C) = (.flt .f32 v8.Root.X.bits) ∧ True) ∧ (((.flt .f32 v8.Root.Y.bits) : C) = (.flt .f32 v8.Root.Y.bits) ∧ True) ∧ (((.flt .f32 v8.Root.Z.bits) : C) = (.flt .f32 v8.Root.Z.bits) ∧ True) ∧ (((sl 4 cs_Turn v8.Turns) : C) = (sl 4 cs_Turn v8.Turns)) ∧ True) ∧ True) (by kernel_rfl) ⟨trivial, trivial, trivial, trivial, c7, trivial, ⟨⟨⟨rfl, rfl, rfl, rfl, trivial⟩, trivial⟩, ok_laws_toPose K (a0.getD x4.toNat default) v8 e9⟩, c10, ⟨List.length_set, gl_set, (gl_at (lt_of_bound c10)).symm, ⟨⟨rfl, trivial⟩, ⟨rfl, trivial⟩, ⟨rfl, trivial⟩, rfl, trivial⟩⟩, trivial⟩ ?_
    refine blockQ_normal ?_
    refine thenQ_normal ?_
    refine AW.regionA [] [0, 3, 4] [1] (s' := ⟨[(0, (.v (.one (.c (sl 4 cs_Pose a0))))), (3, (.v (.one (.arr 1)))), (4, (.v (.one (.c (.int .i64 (IntKind.i64.wrap (x4 + (1 : Int))))))))], [(1, (.arr (x5.set x4.toNat v8).length 4 (gl cs_Pose (x5.set x4.toNat v8))))]⟩) (ob := True ∧ True ∧ True ∧ True) (by kernel_rfl) ⟨trivial, trivial, trivial, trivial⟩ ?_
    exact loopQ_normal (k, (IntKind.i64.wrap (x4 + (1 : Int))), (x5.set x4.toNat v8)) h (Nat.lt_succ_self k) (Sub.keep [0, 3, 4] [1] (by kernel_rfl) (by kernel_rfl))
  · refine AW.cond_f rfl b6 ?_
    refine AW.exit ?_
    refine thenQ_exit ?_
    refine loopQ_exit ?_
    refine blockQ_exit ?_
    refine thenQ_normal ?_
    refine AW.seq ?_
    refine AW.regionA [] [2] [1] (s' := ⟨[(2, (.v (.one (.arr 1))))], [(1, (.arr x5.length 4 (gl cs_Pose x5)))]⟩) (ob := True ∧ True ∧ True) (by kernel_rfl) ⟨trivial, trivial, trivial⟩ ?_
    refine thenQ_normal ?_
    refine AW.ret ?_
    replace h := some_eq h
    subst h
    exact ⟨.inr rfl, retOK_of [(.one (.arr 1))] (by kernel_rfl) ⟨rfl, trivial⟩ (of_decide_eq_true (by kernel_rfl))⟩

/-! laws.toBone -/
def laws_toBone (K : Nat) (a0 : Bone) : Option (Bone) :=
  (laws_toVector K a0.Offset).bind fun v1 => some (Bone.mk a0.Parent v1)

theorem ok_laws_toBone (K : Nat) (a0 : Bone) (o : (Bone)) (h : laws_toBone K a0 = some o) : CallOK Try.prog 170 [.agg (cs_Bone a0)] [.agg (cs_Bone o)] := by
  refine callOK_of_AW Try.func170 rfl (by kernel_rfl) (Nat.le_of_ble_eq_true (by kernel_rfl)) ?_
  intro w0
  unfold laws_toBone at h
  refine AW.seq ?_
  refine AW.regionA [.box 1, .box 2] [1, 2] [1, 2] (s' := ⟨[(1, (.v (.one (.ptr 1 0)))), (2, (.v (.one (.ptr 2 0))))], [(1, (.box [(.c (.int .i64 a0.Parent)), (.c (.flt .f32 a0.Offset.X.bits)), (.c (.flt .f32 a0.Offset.Y.bits)), (.c (.flt .f32 a0.Offset.Z.bits))])), (2, (.box [(.c (.int .i64 (0 : Int))), (.c (.flt .f32 (default : F32).bits)), (.c (.flt .f32 (default : F32).bits)), (.c (.flt .f32 (default : F32).bits))]))]⟩) (ob := True ∧ True ∧ True) (by kernel_rfl) ⟨trivial, trivial, trivial⟩ ?_
  refine thenQ_normal ?_
  refine AW.seq ?_
  refine AW.regionA [.box 3] [1, 2, 3] [1, 2, 3] (s' := ⟨[(1, (.v (.one (.ptr 1 0)))), (2, (.v (.one (.ptr 2 0)))), (3, (.v (.one (.ptr 3 0))))], [(1, (.box [(.c (.int .i64 a0.Parent)), (.c (.flt .f32 a0.Offset.X.bits)), (.c (.flt .f32 a0.Offset.Y.bits)), (.c (.flt .f32 a0.Offset.Z.bits))])), (2, (.box [(.c (.int .i64 (0 : Int))), (.c (.flt .f32 (default : F32).bits)), (.c (.flt .f32 (default : F32).bits)), (.c (.flt .f32 (default : F32).bits))])), (3, (.box [(.c (.int .i64 (0 : Int))), (.c (.flt .f32 (default : F32).bits)), (.c (.flt .f32 (default : F32).bits)), (.c (.flt .f32 (default : F32).bits))]))]⟩) (ob := True ∧ True) (by kernel_rfl) ⟨trivial, trivial⟩ ?_
  refine thenQ_normal ?_
  refine AW.seq ?_
  refine AW.regionA [] [1, 2, 3] [1, 2, 3] (s' := ⟨[(1, (.v (.one (.ptr 1 0)))), (2, (.v (.one (.ptr 2 0)))), (3, (.v (.one (.ptr 3 0))))], [(1, (.box [(.c (.int .i64 a0.Parent)), (.c (.flt .f32 a0.Offset.X.bits)), (.c (.flt .f32 a0.Offset.Y.bits)), (.c (.flt .f32 a0.Offset.Z.bits))])), (2, (.box [(.c (.int .i64 (0 : Int))), (.c (.flt .f32 (default : F32).bits)), (.c (.flt .f32 (default : F32).bits)), (.c (.flt .f32 (default : F32).bits))])), (3, (.box [(.c (.int .i64 a0.Parent)), (.c (.flt .f32 (default : F32).bits)), (.c (.flt .f32 (default : F32).bits)), (.c (.flt .f32 (default : F32).bits))]))]⟩) (ob := True ∧ True ∧ True ∧ True ∧ True) (by kernel_rfl) ⟨trivial, trivial, trivial, trivial, trivial⟩ ?_
  refine thenQ_normal ?_
  refine AW.seq ?_
  obtain ⟨v1, e2, h⟩ := bind_some h
  refine AW.regionA [.no, .no, .call [.agg (cs_Vector a0.Offset)] [.agg (cs_Vector v1)] [[.view, .view, .view]]] [2, 3] [2, 3] (s' := ⟨[(2, (.v (.one (.ptr 2 0)))), (3, (.v (.one (.ptr 3 0))))], [(2, (.box [(.c (.int .i64 (0 : Int))), (.c (.flt .f32 (default : F32).bits)), (.c (.flt .f32 (default : F32).bits)), (.c (.flt .f32 (default : F32).bits))])), (3, (.box [(.c (.int .i64 a0.Parent)), (.c (.flt .f32 v1.X.bits)), (.c (.flt .f32 v1.Y.bits)), (.c (.flt .f32 v1.Z.bits))]))]⟩) (ob := True ∧ True ∧ ((((((.flt .f32 a0.Offset.X.bits) : C) = (.flt .f32 a0.Offset.X.bits)) ∧ (((.flt .f32 a0.Offset.Y.bits) : C) = (.flt .f32 a0.Offset.Y.bits)) ∧ (((.flt .f32 a0.Offset.Z.bits) : C) = (.flt .f32 a0.Offset.Z.bits)) ∧ True) ∧ True) ∧ CallOK Try.prog 88 [.agg (cs_Vector a0.Offset)] [.agg (cs_Vector v1)]) ∧ True ∧ True ∧ True) (by kernel_rfl) ⟨trivial, trivial, ⟨⟨⟨rfl, rfl, rfl, trivial⟩, trivial⟩, ok_laws_toVector K a0.Offset v1 e2⟩, trivial, trivial, trivial⟩ ?_
  refine thenQ_normal ?_
  refine AW.seq ?_
  refine AW.regionA [] [2] [2] (s' := ⟨[(2, (.v (.one (.ptr 2 0))))], [(2, (.box [(.c (.int .i64 a0.Parent)), (.c (.flt .f32 v1.X.bits)), (.c (.flt .f32 v1.Y.bits)), (.c (.flt .f32 v1.Z.bits))]))]⟩) (ob := True ∧ True ∧ True) (by kernel_rfl) ⟨trivial, trivial, trivial⟩ ?_
  refine thenQ_normal ?_
  refine AW.ret ?_
  replace h := some_eq h
  subst h
  exact ⟨.inr rfl, retOK_of [(.agg [(.c (.int .i64 a0.Parent)), (.c (.flt .f32 v1.X.bits)), (.c (.flt .f32 v1.Y.bits)), (.c (.flt .f32 v1.Z.bits))])] (by kernel_rfl) ⟨⟨⟨rfl, trivial⟩, ⟨rfl, trivial⟩, ⟨rfl, trivial⟩, ⟨rfl, trivial⟩, trivial⟩, trivial⟩ (of_decide_eq_true (by kernel_rfl))⟩

/-! laws.toBoneS -/
def laws_toBoneS_l1 (K : Nat) (a0 : (List Bone)) : Nat → Int → (List Bone) → Option ((List Bone))
  | 0, _, _ => none
  | k + 1, x4, x5 => ite2 ((decide (x4 < (a0.length : Int)))) (chk (0 ≤ x4 ∧ x4 < (a0.length : Int)) ((laws_toBone K (a0.getD x4.toNat default)).bind fun v8 => chk (0 ≤ x4 ∧ x4 < (x5.length : Int)) (laws_toBoneS_l1 K a0 k (IntKind.i64.wrap (x4 + (1 : Int))) (x5.set x4.toNat v8)))) (some x5)

def laws_toBoneS (K : Nat) (a0 : (List Bone)) : Option ((List Bone)) :=
  chk (0 ≤ (a0.length : Int) ∧ (a0.length : Int).toNat * 24 ≤ 140737488355328) (laws_toBoneS_l1 K a0 K (0 : Int) (List.replicate (a0.length : Int).toNat (default : Bone)))

theorem ok_laws_toBoneS (K : Nat) (a0 : (List Bone)) (o : ((List Bone))) (h : laws_toBoneS K a0 = some o) : CallOK Try.prog 149 [.one (sl 4 cs_Bone a0)] [.one (sl 4 cs_Bone o)] := by
  refine callOK_of_AW Try.func149 rfl (by kernel_rfl) (Nat.le_of_ble_eq_true (by kernel_rfl)) ?_
  intro w0
  unfold laws_toBoneS at h
  refine AW.seq ?_
  refine AW.regionA [] [0] [] (s' := ⟨[(0, (.v (.one (.c (sl 4 cs_Bone a0)))))], []⟩) (ob := True ∧ True) (by kernel_rfl) ⟨trivial, trivial⟩ ?_
  refine thenQ_normal ?_
  refine AW.seq ?_
  obtain ⟨c1, h⟩ := chk_some h
  refine AW.regionA [.no, .no, .obj 1 (List.replicate (a0.length : Int).toNat (default : Bone)).length (gl cs_Bone (List.replicate (a0.length : Int).toNat (default : Bone)))] [0, 3] [1] (s' := ⟨[(0, (.v (.one (.c (sl 4 cs_Bone a0))))), (3, (.v (.one (.arr 1))))], [(1, (.arr (List.replicate (a0.length : Int).toNat (default : Bone)).length 4 (gl cs_Bone (List.replicate (a0.length : Int).toNat (default : Bone)))))]⟩) (ob := True ∧ True ∧ (0 ≤ (a0.length : Int) ∧ (a0.length : Int) = (a0.length : Int) ∧ (((List.replicate (a0.length : Int).toNat (default : Bone)).length : Nat) : Int) = (a0.length : Int) ∧ (List.replicate (a0.length : Int).toNat (default : Bone)).length * 24 ≤ 140737488355328 ∧ ∀ i, i < (List.replicate (a0.length : Int).toNat (default : Bone)).length → zeroRow (fun _ => none) [(.c (.int .i64 (0 : Int))), (.c (.flt .f32 (default : F32).bits)), (.c (.flt .f32 (default : F32).bits)), (.c (.flt .f32 (default : F32).bits))] (gl cs_Bone (List.replicate (a0.length : Int).toNat (default : Bone)) i)) ∧ True ∧ True) (by kernel_rfl) ⟨trivial, trivial, ⟨c1.1, rfl, len_rep c1.1, rep_bytes c1.2, fun i hi => gl_zero (cs := cs_Bone) (zs := [(.c (.int .i64 (0 : Int))), (.c (.flt .f32 (default : F32).bits)), (.c (.flt .f32 (default : F32).bits)), (.c (.flt .f32 (default : F32).bits))]) (n := (a0.length : Int).toNat) ⟨⟨rfl, trivial⟩, ⟨rfl, trivial⟩, ⟨rfl, trivial⟩, ⟨rfl, trivial⟩, trivial⟩ i (rep_lt hi)⟩, trivial, trivial⟩ ?_
  refine thenQ_normal ?_
  refine AW.seq ?_
  refine AW.seq ?_
  refine AW.regionA [] [0, 3, 4] [1] (s' := ⟨[(0, (.v (.one (.c (sl 4 cs_Bone a0))))), (3, (.v (.one (.arr 1)))), (4, (.v (.one (.c (.int .i64 (0 : Int))))))], [(1, (.arr (List.replicate (a0.length : Int).toNat (default : Bone)).length 4 (gl cs_Bone (List.replicate (a0.length : Int).toNat (default : Bone)))))]⟩) (ob := True ∧ True) (by kernel_rfl) ⟨trivial, trivial⟩ ?_
  refine thenQ_normal ?_
  refine AW.block ?_
  refine AW.loopQ (σ := Nat × Int × (List Bone)) (fun p => ⟨[(0, (.v (.one (.c (sl 4 cs_Bone a0))))), (3, (.v (.one (.arr 1)))), (4, (.v (.one (.c (.int .i64 p.2.1)))))], [(1, (.arr p.2.2.length 4 (gl cs_Bone p.2.2)))]⟩) (fun p => laws_toBoneS_l1 K a0 p.1 p.2.1 p.2.2 = some o) (fun p => p.1) (K, (0 : Int), (List.replicate (a0.length : Int).toNat (default : Bone))) h ?_
  clear h
  rintro ⟨k, x4, x5⟩ h
  replace h : laws_toBoneS_l1 K a0 k x4 x5 = some o := h
  show AW _ _ (⟨[(0, (.v (.one (.c (sl 4 cs_Bone a0))))), (3, (.v (.one (.arr 1)))), (4, (.v (.one (.c (.int .i64 x4)))))], [(1, (.arr x5.length 4 (gl cs_Bone x5)))]⟩ : St) _
  obtain _ | k := k
  · rw [laws_toBoneS_l1] at h; cases h
  rw [laws_toBoneS_l1] at h
  refine AW.seq ?_
  refine AW.seq ?_
  refine AW.regionA [] [0, 3, 4, 11] [1] (s' := ⟨[(0, (.v (.one (.c (sl 4 cs_Bone a0))))), (3, (.v (.one (.arr 1)))), (4, (.v (.one (.c (.int .i64 x4))))), (11, (.v (.one (.c (.bool (decide (x4 < (a0.length : Int))))))))], [(1, (.arr x5.length 4 (gl cs_Bone x5)))]⟩) (ob := True ∧ True ∧ True ∧ True ∧ True) (by kernel_rfl) ⟨trivial, trivial, trivial, trivial, trivial⟩ ?_
  refine thenQ_normal ?_
  rcases ite2_cases h with ⟨b6, h⟩ | ⟨b6, h⟩
  · refine AW.cond_t rfl b6 ?_
    refine AW.skip ?_
    refine thenQ_normal ?_
    refine AW.seq ?_
    refine AW.block ?_
    obtain ⟨c7, h⟩ := chk_some h
    obtain ⟨v8, e9, h⟩ := bind_some h
    obtain ⟨c10, h⟩ := chk_some h
    refine AW.regionA [.no, .no, .no, .no, .no, .no, .call [.agg (cs_Bone (a0.getD x4.toNat default))] [.agg (cs_Bone v8)] [[.view, .view, .view, .view]], .no, .set (x5.set x4.toNat v8).length (gl cs_Bone (x5.set x4.toNat v8)) ((List.range 4).map fun j => (cs_Bone v8).getD j .nilptr)] [0, 3, 4] [1] (s' := ⟨[(0, (.v (.one (.c (sl 4 cs_Bone a0))))), (3, (.v (.one (.arr 1)))), (4, (.v (.one (.c (.int .i64 x4)))))], [(1, (.arr (x5.set x4.toNat v8).length 4 (gl cs_Bone (x5.set x4.toNat v8))))]⟩) (ob := True ∧ True ∧ True ∧ True ∧ (0 ≤ x4 ∧ x4 < (a0.length : Int)) ∧ True ∧ ((((((.int .i64 ((a0.getD x4.toNat default).Parent)) : C) = (.int .i64 ((a0.getD x4.toNat default).Parent))) ∧ (((.flt .f32 (((a0.getD x4.toNat default).Offset).X).bits) : C) = (.flt .f32 (((a0.getD x4.toNat default).Offset).X).bits)) ∧ (((.flt .f32 (((a0.getD x4.toNat default).Offset).Y).bits) : C) = (.flt .f32 (((a0.getD x4.toNat default).Offset).Y).bits)) ∧ (((.flt .f32 (((a0.getD x4.toNat default).Offset).Z).bits) : C) = (.flt .f32 (((a0.getD x4.toNat default).Offset).Z).bits)) ∧ True) ∧ True) ∧ CallOK Try.prog 170 [.agg (cs_Bone (a0.getD x4.toNat default))] [.agg (cs_Bone v8)]) ∧ (0 ≤ x4 ∧ x4 < (x5.length : Int)) ∧ ((x5.set x4.toNat v8).length = x5.length ∧ SetOb x5.length 4 x4.toNat 0 4 (gl cs_Bone x5) (gl cs_Bone (x5.set x4.toNat v8)) ∧ ((List.range 4).map fun j => (cs_Bone v8).getD j .nilptr) = ((List.range 4).map fun j => gl cs_Bone (x5.set x4.toNat v8) x4.toNat (0 + j)) ∧ (((.int .i64 v8.Parent) : C) = (.int .i64 v8.Parent) ∧ True) ∧ (((.flt .f32 v8.Offset.X.bits) : C) = (.flt .f32 v8.Offset.X.bits) ∧ True) ∧ (((.flt .f32 v8.Offset.Y.bits) : C) = (.flt .f32 v8.Offset.Y.bits) ∧ True) ∧ (((.flt .f32 v8.Offset.Z.bits) : C) = (.flt .f32 v8.Offset.Z.bits) ∧ True) ∧ True) ∧ True) (by kernel_rfl) ⟨trivial, trivial, trivial, trivial, c7, trivial, ⟨⟨⟨rfl, rfl, rfl, rfl, trivial⟩, trivial⟩, ok_laws_toBone K (a0.getD x4.toNat default) v8 e9⟩, c10, ⟨List.length_set, gl_set, (gl_at (lt_of_bound c10)).symm, ⟨⟨rfl, trivial⟩, ⟨rfl, trivial⟩, ⟨rfl, trivial⟩, ⟨rfl, trivial⟩, trivial⟩⟩, trivial⟩ ?_
    refine blockQ_normal ?_
    refine thenQ_normal ?_
    refine AW.regionA [] [0, 3, 4] [1] (s' := ⟨[(0, (.v (.one (.c (sl 4 cs_Bone a0))))), (3, (.v (.one (.arr 1)))), (4, (.v (.one (.c (.int .i64 (IntKind.i64.wrap (x4 + (1 : Int))))))))], [(1, (.arr (x5.set x4.toNat v8).length 4 (gl cs_Bone (x5.set x4.toNat v8))))]⟩) (ob := True ∧ True ∧ True ∧ True) (by kernel_rfl) ⟨trivial, trivial, trivial, trivial⟩ ?_
    exact loopQ_normal (k, (IntKind.i64.wrap (x4 + (1 : Int))), (x5.set x4.toNat v8)) h (Nat.lt_succ_self k) (Sub.keep [0, 3, 4] [1] (by kernel_rfl) (by kernel_rfl))
  · refine AW.cond_f rfl b6 ?_
    refine AW.exit ?_
    refine thenQ_exit ?_
    refine loopQ_exit ?_
    refine blockQ_exit ?_
    refine thenQ_normal ?_
    refine AW.seq ?_
    refine AW.regionA [] [2] [1] (s' := ⟨[(2, (.v (.one (.arr 1))))], [(1, (.arr x5.length 4 (gl cs_Bone x5)))]⟩) (ob := True ∧ True ∧ True) (by kernel_rfl) ⟨trivial, trivial, trivial⟩ ?_
    refine thenQ_normal ?_
    refine AW.ret ?_
    replace h := some_eq h
    subst h
    exact ⟨.inr rfl, retOK_of [(.one (.arr 1))] (by kernel_rfl) ⟨rfl, trivial⟩ (of_decide_eq_true (by kernel_rfl))⟩

/-! laws.toSkeleton -/
def laws_toSkeleton (K : Nat) (a0 : Skeleton) : Option (Skeleton) :=
  (laws_toBoneS K a0.Bones).bind fun v1 => some (Skeleton.mk v1)

theorem ok_laws_toSkeleton (K : Nat) (a0 : Skeleton) (o : (Skeleton)) (h : laws_toSkeleton K a0 = some o) : CallOK Try.prog 114 [.agg (cs_Skeleton a0)] [.agg (cs_Skeleton o)] := by
  refine callOK_of_AW Try.func114 rfl (by kernel_rfl) (Nat.le_of_ble_eq_true (by kernel_rfl)) ?_
  intro w0
  unfold laws_toSkeleton at h
  refine AW.seq ?_
  refine AW.regionA [.box 1, .box 2] [1, 2] [1, 2] (s' := ⟨[(1, (.v (.one (.ptr 1 0)))), (2, (.v (.one (.ptr 2 0))))], [(1, (.box [(.c (sl 4 cs_Bone a0.Bones))])), (2, (.box [.nils]))]⟩) (ob := True ∧ True ∧ True) (by kernel_rfl) ⟨trivial, trivial, trivial⟩ ?_
  refine thenQ_normal ?_
  refine AW.seq ?_
  refine AW.regionA [.box 3] [1, 2, 3] [1, 2, 3] (s' := ⟨[(1, (.v (.one (.ptr 1 0)))), (2, (.v (.one (.ptr 2 0)))), (3, (.v (.one (.ptr 3 0))))], [(1, (.box [(.c (sl 4 cs_Bone a0.Bones))])), (2, (.box [.nils])), (3, (.box [.nils]))]⟩) (ob := True ∧ True) (by kernel_rfl) ⟨trivial, trivial⟩ ?_
  refine thenQ_normal ?_
  refine AW.seq ?_
  obtain ⟨v1, e2, h⟩ := bind_some h
  refine AW.regionA [.no, .no, .call [.one (sl 4 cs_Bone a0.Bones)] [.one (sl 4 cs_Bone v1)] [[.lst 4]]] [2, 3] [2, 3, 4] (s' := ⟨[(2, (.v (.one (.ptr 2 0)))), (3, (.v (.one (.ptr 3 0))))], [(2, (.box [.nils])), (3, (.box [(.lst 4 v1.length 4 (gl cs_Bone v1))])), (4, (.lst v1.length 4 (gl cs_Bone v1)))]⟩) (ob := True ∧ True ∧ (((((sl 4 cs_Bone a0.Bones) : C) = (sl 4 cs_Bone a0.Bones)) ∧ True) ∧ CallOK Try.prog 149 [.one (sl 4 cs_Bone a0.Bones)] [.one (sl 4 cs_Bone v1)]) ∧ True ∧ True ∧ True) (by kernel_rfl) ⟨trivial, trivial, ⟨⟨rfl, trivial⟩, ok_laws_toBoneS K a0.Bones v1 e2⟩, trivial, trivial, trivial⟩ ?_
  refine thenQ_normal ?_
  refine AW.seq ?_
  refine AW.regionA [] [2] [2, 4] (s' := ⟨[(2, (.v (.one (.ptr 2 0))))], [(2, (.box [(.lst 4 v1.length 4 (gl cs_Bone v1))])), (4, (.lst v1.length 4 (gl cs_Bone v1)))]⟩) (ob := True ∧ True ∧ True) (by kernel_rfl) ⟨trivial, trivial, trivial⟩ ?_
  refine thenQ_normal ?_
  refine AW.ret ?_
  replace h := some_eq h
  subst h
  exact ⟨.inr rfl, retOK_of [(.agg [(.lst 4 v1.length 4 (gl cs_Bone v1))])] (by kernel_rfl) ⟨⟨rfl, trivial⟩, trivial⟩ (of_decide_eq_true (by kernel_rfl))⟩

/-! laws.toStringS -/
def laws_toStringS_l1 (K : Nat) (a0 : (List ByteArray)) : Nat → Int → (List ByteArray) → Option ((List ByteArray))
  | 0, _, _ => none
  | k + 1, x4, x5 => ite2 ((decide (x4 < (a0.length : Int)))) (chk (0 ≤ x4 ∧ x4 < (a0.length : Int)) (chk (0 ≤ x4 ∧ x4 < (x5.length : Int)) (laws_toStringS_l1 K a0 k (IntKind.i64.wrap (x4 + (1 : Int))) (x5.set x4.toNat (a0.getD x4.toNat default))))) (some x5)

def laws_toStringS (K : Nat) (a0 : (List ByteArray)) : Option ((List ByteArray)) :=
  chk (0 ≤ (a0.length : Int) ∧ (a0.length : Int).toNat * 16 ≤ 140737488355328) (laws_toStringS_l1 K a0 K (0 : Int) (List.replicate (a0.length : Int).toNat (default : ByteArray)))

theorem ok_laws_toStringS (K : Nat) (a0 : (List ByteArray)) (o : ((List ByteArray))) (h : laws_toStringS K a0 = some o) : CallOK Try.prog 115 [.one (sl 1 csS a0)] [.one (sl 1 csS o)] := by
  refine callOK_of_AW Try.func115 rfl (by kernel_rfl) (Nat.le_of_ble_eq_true (by kernel_rfl)) ?_
  intro w0
  unfold laws_toStringS at h
  refine AW.seq ?_
  refine AW.regionA [] [0] [] (s' := ⟨[(0, (.v (.one (.c (sl 1 csS a0)))))], []⟩) (ob := True ∧ True) (by kernel_rfl) ⟨trivial, trivial⟩ ?_
  refine thenQ_normal ?_
  refine AW.seq ?_
  obtain ⟨c1, h⟩ := chk_some h
  refine AW.regionA [.no, .no, .obj 1 (List.replicate (a0.length : Int).toNat (default : ByteArray)).length (gl csS (List.replicate (a0.length : Int).toNat (default : ByteArray)))] [0, 3] [1] (s' := ⟨[(0, (.v (.one (.c (sl 1 csS a0))))), (3, (.v (.one (.arr 1))))], [(1, (.arr (List.replicate (a0.length : Int).toNat (default : ByteArray)).length 1 (gl csS (List.replicate (a0.length : Int).toNat (default : ByteArray)))))]⟩) (ob := True ∧ True ∧ (0 ≤ (a0.length : Int) ∧ (a0.length : Int) = (a0.length : Int) ∧ (((List.replicate (a0.length : Int).toNat (default : ByteArray)).length : Nat) : Int) = (a0.length : Int) ∧ (List.replicate (a0.length : Int).toNat (default : ByteArray)).length * 16 ≤ 140737488355328 ∧ ∀ i, i < (List.replicate (a0.length : Int).toNat (default : ByteArray)).length → zeroRow (fun _ => none) [(.c (.str ByteArray.empty))] (gl csS (List.replicate (a0.length : Int).toNat (default : ByteArray)) i)) ∧ True ∧ True) (by kernel_rfl) ⟨trivial, trivial, ⟨c1.1, rfl, len_rep c1.1, rep_bytes c1.2, fun i hi => gl_zero (cs := csS) (zs := [(.c (.str ByteArray.empty))]) (n := (a0.length : Int).toNat) ⟨⟨rfl, trivial⟩, trivial⟩ i (rep_lt hi)⟩, trivial, trivial⟩ ?_
  refine thenQ_normal ?_
  refine AW.seq ?_
  refine AW.seq ?_
  refine AW.regionA [] [0, 3, 4] [1] (s' := ⟨[(0, (.v (.one (.c (sl 1 csS a0))))), (3, (.v (.one (.arr 1)))), (4, (.v (.one (.c (.int .i64 (0 : Int))))))], [(1, (.arr (List.replicate (a0.length : Int).toNat (default : ByteArray)).length 1 (gl csS (List.replicate (a0.length : Int).toNat (default : ByteArray)))))]⟩) (ob := True ∧ True) (by kernel_rfl) ⟨trivial, trivial⟩ ?_
  refine thenQ_normal ?_
  refine AW.block ?_
  refine AW.loopQ (σ := Nat × Int × (List ByteArray)) (fun p => ⟨[(0, (.v (.one (.c (sl 1 csS a0))))), (3, (.v (.one (.arr 1)))), (4, (.v (.one (.c (.int .i64 p.2.1)))))], [(1, (.arr p.2.2.length 1 (gl csS p.2.2)))]⟩) (fun p => laws_toStringS_l1 K a0 p.1 p.2.1 p.2.2 = some o) (fun p => p.1) (K, (0 : Int), (List.replicate (a0.length : Int).toNat (default : ByteArray))) h ?_
  clear h
  rintro ⟨k, x4, x5⟩ h
  replace h : laws_toStringS_l1 K a0 k x4 x5 = some o := h
  show AW _ _ (⟨[(0, (.v (.one (.c (sl 1 csS a0))))), (3, (.v (.one (.arr 1)))), (4, (.v (.one (.c (.int .i64 x4)))))], [(1, (.arr x5.length 1 (gl csS x5)))]⟩ : St) _
  obtain _ | k := k
  · rw [laws_toStringS_l1] at h; cases h
  rw [laws_toStringS_l1] at h
  refine AW.seq ?_
  refine AW.seq ?_
  refine AW.regionA [] [0, 3, 4, 11] [1] (s' := ⟨[(0, (.v (.one (.c (sl 1 csS a0))))), (3, (.v (.one (.arr 1)))), (4, (.v (.one (.c (.int .i64 x4))))), (11, (.v (.one (.c (.bool (decide (x4 < (a0.length : Int))))))))], [(1, (.arr x5.length 1 (gl csS x5)))]⟩) (ob := True ∧ True ∧ True ∧ True ∧ True) (by kernel_rfl) ⟨trivial, trivial, trivial, trivial, trivial⟩ ?_
  refine thenQ_normal ?_
  rcases ite2_cases h with ⟨b6, h⟩ | ⟨b6, h⟩
  · refine AW.cond_t rfl b6 ?_
    refine AW.skip ?_
    refine thenQ_normal ?_
    refine AW.seq ?_
    refine AW.block ?_
    obtain ⟨c7, h⟩ := chk_some h
    obtain ⟨c8, h⟩ := chk_some h
    refine AW.regionA [.no, .no, .no, .no, .no, .no, .no, .set (x5.set x4.toNat (a0.getD x4.toNat default)).length (gl csS (x5.set x4.toNat (a0.getD x4.toNat default))) ((List.range 1).map fun j => (csS (a0.getD x4.toNat default)).getD j .nilptr)] [0, 3, 4] [1] (s' := ⟨[(0, (.v (.one (.c (sl 1 csS a0))))), (3, (.v (.one (.arr 1)))), (4, (.v (.one (.c (.int .i64 x4)))))], [(1, (.arr (x5.set x4.toNat (a0.getD x4.toNat default)).length 1 (gl csS (x5.set x4.toNat (a0.getD x4.toNat default)))))]⟩) (ob := True ∧ True ∧ True ∧ True ∧ (0 ≤ x4 ∧ x4 < (a0.length : Int)) ∧ True ∧ (0 ≤ x4 ∧ x4 < (x5.length : Int)) ∧ ((x5.set x4.toNat (a0.getD x4.toNat default)).length = x5.length ∧ SetOb x5.length 1 x4.toNat 0 1 (gl csS x5) (gl csS (x5.set x4.toNat (a0.getD x4.toNat default))) ∧ ((List.range 1).map fun j => (csS (a0.getD x4.toNat default)).getD j .nilptr) = ((List.range 1).map fun j => gl csS (x5.set x4.toNat (a0.getD x4.toNat default)) x4.toNat (0 + j)) ∧ (((.str (a0.getD x4.toNat default)) : C) = (.str (a0.getD x4.toNat default)) ∧ True) ∧ True) ∧ True) (by kernel_rfl) ⟨trivial, trivial, trivial, trivial, c7, trivial, c8, ⟨List.length_set, gl_set, (gl_at (lt_of_bound c8)).symm, ⟨⟨rfl, trivial⟩, trivial⟩⟩, trivial⟩ ?_
    refine blockQ_normal ?_
    refine thenQ_normal ?_
    refine AW.regionA [] [0, 3, 4] [1] (s' := ⟨[(0, (.v (.one (.c (sl 1 csS a0))))), (3, (.v (.one (.arr 1)))), (4, (.v (.one (.c (.int .i64 (IntKind.i64.wrap (x4 + (1 : Int))))))))], [(1, (.arr (x5.set x4.toNat (a0.getD x4.toNat default)).length 1 (gl csS (x5.set x4.toNat (a0.getD x4.toNat default)))))]⟩) (ob := True ∧ True ∧ True ∧ True) (by kernel_rfl) ⟨trivial, trivial, trivial, trivial⟩ ?_
    exact loopQ_normal (k, (IntKind.i64.wrap (x4 + (1 : Int))), (x5.set x4.toNat (a0.getD x4.toNat default))) h (Nat.lt_succ_self k) (Sub.keep [0, 3, 4] [1] (by kernel_rfl) (by kernel_rfl))
  · refine AW.cond_f rfl b6 ?_
    refine AW.exit ?_
    refine thenQ_exit ?_
    refine loopQ_exit ?_
    refine blockQ_exit ?_
    refine thenQ_normal ?_
    refine AW.seq ?_
    refine AW.regionA [] [2] [1] (s' := ⟨[(2, (.v (.one (.arr 1))))], [(1, (.arr x5.length 1 (gl csS x5)))]⟩) (ob := True ∧ True ∧ True) (by kernel_rfl) ⟨trivial, trivial, trivial⟩ ?_
    refine thenQ_normal ?_
    refine AW.ret ?_
    replace h := some_eq h
    subst h
    exact ⟨.inr rfl, retOK_of [(.one (.arr 1))] (by kernel_rfl) ⟨rfl, trivial⟩ (of_decide_eq_true (by kernel_rfl))⟩

/-! laws.toStage -/
def laws_toStage (K : Nat) (a0 : Stage) : Option (Stage) :=
  (laws_toSkeleton K a0.Skeleton).bind fun v1 => (laws_toStringS K a0.Names).bind fun v3 => (laws_toPoseS K a0.Poses).bind fun v5 => some (Stage.mk v1 v3 v5)

theorem ok_laws_toStage (K : Nat) (a0 : Stage) (o : (Stage)) (h : laws_toStage K a0 = some o) : CallOK Try.prog 61 [.agg (cs_Stage a0)] [.agg (cs_Stage o)] := by
  refine callOK_of_AW Try.func61 rfl (by kernel_rfl) (Nat.le_of_ble_eq_true (by kernel_rfl)) ?_
  intro w0
  unfold laws_toStage at h
  refine AW.seq ?_
  refine AW.regionA [.box 1, .box 2] [1, 2] [1, 2] (s' := ⟨[(1, (.v (.one (.ptr 1 0)))), (2, (.v (.one (.ptr 2 0))))], [(1, (.box [(.c (sl 4 cs_Bone a0.Skeleton.Bones)), (.c (sl 1 csS a0.Names)), (.c (sl 4 cs_Pose a0.Poses))])), (2, (.box [.nils, .nils, .nils]))]⟩) (ob := True ∧ True ∧ True) (by kernel_rfl) ⟨trivial, trivial, trivial⟩ ?_
  refine thenQ_normal ?_
  refine AW.seq ?_
  refine AW.regionA [.box 3] [1, 2, 3] [1, 2, 3] (s' := ⟨[(1, (.v (.one (.ptr 1 0)))), (2, (.v (.one (.ptr 2 0)))), (3, (.v (.one (.ptr 3 0))))], [(1, (.box [(.c (sl 4 cs_Bone a0.Skeleton.Bones)), (.c (sl 1 csS a0.Names)), (.c (sl 4 cs_Pose a0.Poses))])), (2, (.box [.nils, .nils, .nils])), (3, (.box [.nils, .nils, .nils]))]⟩) (ob := True ∧ True) (by kernel_rfl) ⟨trivial, trivial⟩ ?_
  refine thenQ_normal ?_
  refine AW.seq ?_
  obtain ⟨v1, e2, h⟩ := bind_some h
  refine AW.regionA [.no, .no, .call [.agg (cs_Skeleton a0.Skeleton)] [.agg (cs_Skeleton v1)] [[.lst 4]]] [1, 2, 3] [1, 2, 3, 4] (s' := ⟨[(1, (.v (.one (.ptr 1 0)))), (2, (.v (.one (.ptr 2 0)))), (3, (.v (.one (.ptr 3 0))))], [(1, (.box [(.c (sl 4 cs_Bone a0.Skeleton.Bones)), (.c (sl 1 csS a0.Names)), (.c (sl 4 cs_Pose a0.Poses))])), (2, (.box [.nils, .nils, .nils])), (3, (.box [(.lst 4 v1.Bones.length 4 (gl cs_Bone v1.Bones)), .nils, .nils])), (4, (.lst v1.Bones.length 4 (gl cs_Bone v1.Bones)))]⟩) (ob := True ∧ True ∧ ((((((sl 4 cs_Bone a0.Skeleton.Bones) : C) = (sl 4 cs_Bone a0.Skeleton.Bones)) ∧ True) ∧ True) ∧ CallOK Try.prog 114 [.agg (cs_Skeleton a0.Skeleton)] [.agg (cs_Skeleton v1)]) ∧ True ∧ True ∧ True) (by kernel_rfl) ⟨trivial, trivial, ⟨⟨⟨rfl, trivial⟩, trivial⟩, ok_laws_toSkeleton K a0.Skeleton v1 e2⟩, trivial, trivial, trivial⟩ ?_
  refine thenQ_normal ?_
  refine AW.seq ?_
  obtain ⟨v3, e4, h⟩ := bind_some h
  refine AW.regionA [.no, .no, .call [.one (sl 1 csS a0.Names)] [.one (sl 1 csS v3)] [[.lst 5]]] [1, 2, 3] [1, 2, 3, 4, 5] (s' := ⟨[(1, (.v (.one (.ptr 1 0)))), (2, (.v (.one (.ptr 2 0)))), (3, (.v (.one (.ptr 3 0))))], [(1, (.box [(.c (sl 4 cs_Bone a0.Skeleton.Bones)), (.c (sl 1 csS a0.Names)), (.c (sl 4 cs_Pose a0.Poses))])), (2, (.box [.nils, .nils, .nils])), (3, (.box [(.lst 4 v1.Bones.length 4 (gl cs_Bone v1.Bones)), (.lst 5 v3.length 1 (gl csS v3)), .nils])), (4, (.lst v1.Bones.length 4 (gl cs_Bone v1.Bones))), (5, (.lst v3.length 1 (gl csS v3)))]⟩) (ob := True ∧ True ∧ (((((sl 1 csS a0.Names) : C) = (sl 1 csS a0.Names)) ∧ True) ∧ CallOK Try.prog 115 [.one (sl 1 csS a0.Names)] [.one (sl 1 csS v3)]) ∧ True ∧ True ∧ True) (by kernel_rfl) ⟨trivial, trivial, ⟨⟨rfl, trivial⟩, ok_laws_toStringS K a0.Names v3 e4⟩, trivial, trivial, trivial⟩ ?_
  refine thenQ_normal ?_
  refine AW.seq ?_
  obtain ⟨v5, e6, h⟩ := bind_some h
  refine AW.regionA [.no, .no, .call [.one (sl 4 cs_Pose a0.Poses)] [.one (sl 4 cs_Pose v5)] [[.lst 6]]] [2, 3] [2, 3, 4, 5, 6] (s' := ⟨[(2, (.v (.one (.ptr 2 0)))), (3, (.v (.one (.ptr 3 0))))], [(2, (.box [.nils, .nils, .nils])), (3, (.box [(.lst 4 v1.Bones.length 4 (gl cs_Bone v1.Bones)), (.lst 5 v3.length 1 (gl csS v3)), (.lst 6 v5.length 4 (gl cs_Pose v5))])), (4, (.lst v1.Bones.length 4 (gl cs_Bone v1.Bones))), (5, (.lst v3.length 1 (gl csS v3))), (6, (.lst v5.length 4 (gl cs_Pose v5)))]⟩) (ob := True ∧ True ∧ (((((sl 4 cs_Pose a0.Poses) : C) = (sl 4 cs_Pose a0.Poses)) ∧ True) ∧ CallOK Try.prog 75 [.one (sl 4 cs_Pose a0.Poses)] [.one (sl 4 cs_Pose v5)]) ∧ True ∧ True ∧ True) (by kernel_rfl) ⟨trivial, trivial, ⟨⟨rfl, trivial⟩, ok_laws_toPoseS K a0.Poses v5 e6⟩, trivial, trivial, trivial⟩ ?_
  refine thenQ_normal ?_
  refine AW.seq ?_
  refine AW.regionA [] [2] [2, 4, 5, 6] (s' := ⟨[(2, (.v (.one (.ptr 2 0))))], [(2, (.box [(.lst 4 v1.Bones.length 4 (gl cs_Bone v1.Bones)), (.lst 5 v3.length 1 (gl csS v3)), (.lst 6 v5.length 4 (gl cs_Pose v5))])), (4, (.lst v1.Bones.length 4 (gl cs_Bone v1.Bones))), (5, (.lst v3.length 1 (gl csS v3))), (6, (.lst v5.length 4 (gl cs_Pose v5)))]⟩) (ob := True ∧ True ∧ True) (by kernel_rfl) ⟨trivial, trivial, trivial⟩ ?_
  refine thenQ_normal ?_
  refine AW.ret ?_
  replace h := some_eq h
  subst h
  exact ⟨.inr rfl, retOK_of [(.agg [(.lst 4 v1.Bones.length 4 (gl cs_Bone v1.Bones)), (.lst 5 v3.length 1 (gl csS v3)), (.lst 6 v5.length 4 (gl cs_Pose v5))])] (by kernel_rfl) ⟨⟨rfl, rfl, rfl, trivial⟩, trivial⟩ (of_decide_eq_true (by kernel_rfl))⟩

/-! impl.ValidSkeleton -/
def impl_ValidSkeleton_l1 (K : Nat) (a0 : Skeleton) : Nat → Int → Option (Bool)
  | 0, _ => none
  | k + 1, x9 => ite2 ((decide (x9 < (((a0.Bones.drop (1 : Int).toNat).take ((a0.Bones.length : Int).toNat - (1 : Int).toNat)).length : Int)))) (chk (0 ≤ x9 ∧ x9 < (((a0.Bones.drop (1 : Int).toNat).take ((a0.Bones.length : Int).toNat - (1 : Int).toNat)).length : Int)) ((ite2 ((decide (((((a0.Bones.drop (1 : Int).toNat).take ((a0.Bones.length : Int).toNat - (1 : Int).toNat)).getD x9.toNat default).Parent) < (0 : Int)))) (some true) (some (decide (((((a0.Bones.drop (1 : Int).toNat).take ((a0.Bones.length : Int).toNat - (1 : Int).toNat)).getD x9.toNat default).Parent) > x9)))).bind fun j13 => ite2 (j13) (some false) (impl_ValidSkeleton_l1 K a0 k (IntKind.i64.wrap (x9 + (1 : Int)))))) (some true)

def impl_ValidSkeleton (K : Nat) (a0 : Skeleton) : Option (Bool) :=
  (ite2 ((decide ((a0.Bones.length : Int) < (1 : Int)))) (some true) (ite2 ((decide ((a0.Bones.length : Int) > (12 : Int)))) (some true) (chk (0 ≤ (0 : Int) ∧ (0 : Int) < (a0.Bones.length : Int)) (some (((a0.Bones.getD ((0 : Int).toNat) default).Parent) != ((-1) : Int)))))).bind fun j4 => ite2 (j4) (some false) (chk (0 ≤ (1 : Int) ∧ (1 : Int) ≤ (a0.Bones.length : Int) ∧ (a0.Bones.length : Int) ≤ (a0.Bones.length : Int)) (impl_ValidSkeleton_l1 K a0 K (0 : Int)))

theorem ok_impl_ValidSkeleton (K : Nat) (a0 : Skeleton) (o : (Bool)) (h : impl_ValidSkeleton K a0 = some o) : CallOK Try.prog 116 [.agg (cs_Skeleton a0)] [.one (.bool o)] := by
  refine callOK_of_AW Try.func116 rfl (by kernel_rfl) (Nat.le_of_ble_eq_true (by kernel_rfl)) ?_
  intro w0
  unfold impl_ValidSkeleton at h
  refine AW.seq ?_
  refine AW.regionA [.box 1] [1] [1] (s' := ⟨[(1, (.v (.one (.ptr 1 0))))], [(1, (.box [(.c (sl 4 cs_Bone a0.Bones))]))]⟩) (ob := True ∧ True ∧ True) (by kernel_rfl) ⟨trivial, trivial, trivial⟩ ?_
  refine thenQ_normal ?_
  refine AW.seq ?_
  refine AW.seq ?_
  obtain ⟨j4, e5, h⟩ := bind_some h
  refine AW.join1 (s2 := ⟨[(1, (.v (.one (.ptr 1 0)))), (22, (.v (.one (.c (.bool j4)))))], [(1, (.box [(.c (sl 4 cs_Bone a0.Bones))]))]⟩) ?_ ?_
  · rcases ite2_cases e5 with ⟨b1, e5⟩ | ⟨b1, e5⟩
    · replace e5 := some_eq e5
      subst e5
      exact AW.regionA [.no, .no, .no, .no, .dec true] [1, 22] [1] (s' := ⟨[(1, (.v (.one (.ptr 1 0)))), (22, (.v (.one (.c (.bool true)))))], [(1, (.box [(.c (sl 4 cs_Bone a0.Bones))]))]⟩) (ob := True ∧ True ∧ True ∧ True ∧ (True ∧ (decide ((a0.Bones.length : Int) < (1 : Int))) = true) ∧ True ∧ True ∧ True ∧ True ∧ True ∧ True ∧ True ∧ True ∧ True ∧ True ∧ True ∧ True ∧ True ∧ True) (by kernel_rfl) ⟨trivial, trivial, trivial, trivial, ⟨trivial, b1⟩, trivial, trivial, trivial, trivial, trivial, trivial, trivial, trivial, trivial, trivial, trivial, trivial, trivial, trivial⟩ ⟨rfl, rfl⟩
    · rcases ite2_cases e5 with ⟨b2, e5⟩ | ⟨b2, e5⟩
      · replace e5 := some_eq e5
        subst e5
        exact AW.regionA [.no, .no, .no, .no, .dec false, .no, .no, .no, .no, .no, .dec true] [1, 22] [1] (s' := ⟨[(1, (.v (.one (.ptr 1 0)))), (22, (.v (.one (.c (.bool true)))))], [(1, (.box [(.c (sl 4 cs_Bone a0.Bones))]))]⟩) (ob := True ∧ True ∧ True ∧ True ∧ (True ∧ (decide ((a0.Bones.length : Int) < (1 : Int))) = false) ∧ True ∧ True ∧ True ∧ True ∧ True ∧ (True ∧ (decide ((a0.Bones.length : Int) > (12 : Int))) = true) ∧ True ∧ True ∧ True ∧ True ∧ True ∧ True ∧ True ∧ True) (by kernel_rfl) ⟨trivial, trivial, trivial, trivial, ⟨trivial, b1⟩, trivial, trivial, trivial, trivial, trivial, ⟨trivial, b2⟩, trivial, trivial, trivial, trivial, trivial, trivial, trivial, trivial⟩ ⟨rfl, rfl⟩
      · obtain ⟨c3, e5⟩ := chk_some e5
        replace e5 := some_eq e5
        subst e5
        exact AW.regionA [.no, .no, .no, .no, .dec false, .no, .no, .no, .no, .no, .dec false] [1, 22] [1] (s' := ⟨[(1, (.v (.one (.ptr 1 0)))), (22, (.v (.one (.c (.bool (((a0.Bones.getD ((0 : Int).toNat) default).Parent) != ((-1) : Int)))))))], [(1, (.box [(.c (sl 4 cs_Bone a0.Bones))]))]⟩) (ob := True ∧ True ∧ True ∧ True ∧ (True ∧ (decide ((a0.Bones.length : Int) < (1 : Int))) = false) ∧ True ∧ True ∧ True ∧ True ∧ True ∧ (True ∧ (decide ((a0.Bones.length : Int) > (12 : Int))) = false) ∧ True ∧ True ∧ (0 ≤ (0 : Int) ∧ (0 : Int) < (a0.Bones.length : Int)) ∧ True ∧ True ∧ True ∧ True ∧ True) (by kernel_rfl) ⟨trivial, trivial, trivial, trivial, ⟨trivial, b1⟩, trivial, trivial, trivial, trivial, trivial, ⟨trivial, b2⟩, trivial, trivial, c3, trivial, trivial, trivial, trivial, trivial⟩ ⟨rfl, rfl⟩
  refine thenQ_normal ?_
  rcases ite2_cases h with ⟨b6, h⟩ | ⟨b6, h⟩
  · refine AW.cond_t rfl b6 ?_
    refine AW.seq ?_
    refine AW.regionA [] [2] [] (s' := ⟨[(2, (.v (.one (.c (.bool false)))))], []⟩) (ob := True ∧ True) (by kernel_rfl) ⟨trivial, trivial⟩ ?_
    refine thenQ_normal ?_
    refine AW.ret ?_
    refine thenQ_ret ?_
    replace h := some_eq h
    subst h
    exact ⟨.inr rfl, retOK_of [(.one (.c (.bool false)))] (by kernel_rfl) ⟨⟨rfl, trivial⟩, trivial⟩ (of_decide_eq_true (by kernel_rfl))⟩
  · refine AW.cond_f rfl b6 ?_
    refine AW.skip ?_
    refine thenQ_normal ?_
    refine AW.seq ?_
    refine AW.seq ?_
    obtain ⟨c7, h⟩ := chk_some h
    refine AW.regionA [.no, .no, .seq ((a0.Bones.drop (1 : Int).toNat).take ((a0.Bones.length : Int).toNat - (1 : Int).toNat)).length (gl cs_Bone ((a0.Bones.drop (1 : Int).toNat).take ((a0.Bones.length : Int).toNat - (1 : Int).toNat)))] [25, 26, 27] [] (s' := ⟨[(25, (.v (.one (.c (sl 4 cs_Bone ((a0.Bones.drop (1 : Int).toNat).take ((a0.Bones.length : Int).toNat - (1 : Int).toNat))))))), (26, (.v (.one (.c (.int .i64 (((a0.Bones.drop (1 : Int).toNat).take ((a0.Bones.length : Int).toNat - (1 : Int).toNat)).length : Int)))))), (27, (.v (.one (.c (.int .i64 (0 : Int))))))], []⟩) (ob := True ∧ True ∧ (0 ≤ (1 : Int) ∧ (1 : Int) ≤ (a0.Bones.length : Int) ∧ (a0.Bones.length : Int) ≤ (a0.Bones.length : Int) ∧ ((((a0.Bones.drop (1 : Int).toNat).take ((a0.Bones.length : Int).toNat - (1 : Int).toNat)).length : Nat) : Int) = (a0.Bones.length : Int) - (1 : Int) ∧ ∀ i j, i < ((a0.Bones.drop (1 : Int).toNat).take ((a0.Bones.length : Int).toNat - (1 : Int).toNat)).length → j < 4 → gl cs_Bone ((a0.Bones.drop (1 : Int).toNat).take ((a0.Bones.length : Int).toNat - (1 : Int).toNat)) i j = gl cs_Bone a0.Bones ((1 : Int).toNat + i) j) ∧ True ∧ True ∧ True) (by kernel_rfl) ⟨trivial, trivial, ⟨c7.1, c7.2.1, c7.2.2, (gl_drop (sz := 4) (cs := cs_Bone) c7.1 c7.2.1 c7.2.2).1, (gl_drop c7.1 c7.2.1 c7.2.2).2⟩, trivial, trivial, trivial⟩ ?_
    refine thenQ_normal ?_
    refine AW.block ?_
    refine AW.loopQ (σ := Nat × Int) (fun p => ⟨[(25, (.v (.one (.c (sl 4 cs_Bone ((a0.Bones.drop (1 : Int).toNat).take ((a0.Bones.length : Int).toNat - (1 : Int).toNat))))))), (26, (.v (.one (.c (.int .i64 (((a0.Bones.drop (1 : Int).toNat).take ((a0.Bones.length : Int).toNat - (1 : Int).toNat)).length : Int)))))), (27, (.v (.one (.c (.int .i64 p.2)))))], []⟩) (fun p => impl_ValidSkeleton_l1 K a0 p.1 p.2 = some o) (fun p => p.1) (K, (0 : Int)) h ?_
    clear h
    rintro ⟨k, x9⟩ h
    replace h : impl_ValidSkeleton_l1 K a0 k x9 = some o := h
    show AW _ _ (⟨[(25, (.v (.one (.c (sl 4 cs_Bone ((a0.Bones.drop (1 : Int).toNat).take ((a0.Bones.length : Int).toNat - (1 : Int).toNat))))))), (26, (.v (.one (.c (.int .i64 (((a0.Bones.drop (1 : Int).toNat).take ((a0.Bones.length : Int).toNat - (1 : Int).toNat)).length : Int)))))), (27, (.v (.one (.c (.int .i64 x9)))))], []⟩ : St) _
    obtain _ | k := k
    · rw [impl_ValidSkeleton_l1] at h; cases h
    rw [impl_ValidSkeleton_l1] at h
    refine AW.seq ?_
    refine AW.regionA [] [25, 26, 27, 28] [] (s' := ⟨[(25, (.v (.one (.c (sl 4 cs_Bone ((a0.Bones.drop (1 : Int).toNat).take ((a0.Bones.length : Int).toNat - (1 : Int).toNat))))))), (26, (.v (.one (.c (.int .i64 (((a0.Bones.drop (1 : Int).toNat).take ((a0.Bones.length : Int).toNat - (1 : Int).toNat)).length : Int)))))), (27, (.v (.one (.c (.int .i64 x9))))), (28, (.v (.one (.c (.bool (decide (x9 < (((a0.Bones.drop (1 : Int).toNat).take ((a0.Bones.length : Int).toNat - (1 : Int).toNat)).length : Int))))))))], []⟩) (ob := True ∧ True) (by kernel_rfl) ⟨trivial, trivial⟩ ?_
    refine thenQ_normal ?_
    refine AW.seq ?_
    rcases ite2_cases h with ⟨b10, h⟩ | ⟨b10, h⟩
    · refine AW.cond_t rfl b10 ?_
      refine AW.skip ?_
      refine thenQ_normal ?_
      refine AW.seq ?_
      refine AW.block ?_
      refine AW.seq ?_
      obtain ⟨c11, h⟩ := chk_some h
      refine AW.regionA [.no, .no, .no, .box 2] [3, 4, 25, 26, 27] [2] (s' := ⟨[(3, (.v (.one (.c (.int .i64 x9))))), (4, (.v (.one (.ptr 2 0)))), (25, (.v (.one (.c (sl 4 cs_Bone ((a0.Bones.drop (1 : Int).toNat).take ((a0.Bones.length : Int).toNat - (1 : Int).toNat))))))), (26, (.v (.one (.c (.int .i64 (((a0.Bones.drop (1 : Int).toNat).take ((a0.Bones.length : Int).toNat - (1 : Int).toNat)).length : Int)))))), (27, (.v (.one (.c (.int .i64 x9)))))], [(2, (.box [(.c (.int .i64 ((((a0.Bones.drop (1 : Int).toNat).take ((a0.Bones.length : Int).toNat - (1 : Int).toNat)).getD x9.toNat default).Parent))), (.c (.flt .f32 (((((a0.Bones.drop (1 : Int).toNat).take ((a0.Bones.length : Int).toNat - (1 : Int).toNat)).getD x9.toNat default).Offset).X).bits)), (.c (.flt .f32 (((((a0.Bones.drop (1 : Int).toNat).take ((a0.Bones.length : Int).toNat - (1 : Int).toNat)).getD x9.toNat default).Offset).Y).bits)), (.c (.flt .f32 (((((a0.Bones.drop (1 : Int).toNat).take ((a0.Bones.length : Int).toNat - (1 : Int).toNat)).getD x9.toNat default).Offset).Z).bits))]))]⟩) (ob := True ∧ (0 ≤ x9 ∧ x9 < (((a0.Bones.drop (1 : Int).toNat).take ((a0.Bones.length : Int).toNat - (1 : Int).toNat)).length : Int)) ∧ True ∧ True ∧ True ∧ True ∧ True) (by kernel_rfl) ⟨trivial, c11, trivial, trivial, trivial, trivial, trivial⟩ ?_
      refine thenQ_normal ?_
      refine AW.seq ?_
      obtain ⟨j13, e14, h⟩ := bind_some h
      refine AW.join1 (s2 := ⟨[(25, (.v (.one (.c (sl 4 cs_Bone ((a0.Bones.drop (1 : Int).toNat).take ((a0.Bones.length : Int).toNat - (1 : Int).toNat))))))), (26, (.v (.one (.c (.int .i64 (((a0.Bones.drop (1 : Int).toNat).take ((a0.Bones.length : Int).toNat - (1 : Int).toNat)).length : Int)))))), (27, (.v (.one (.c (.int .i64 x9))))), (40, (.v (.one (.c (.bool j13)))))], []⟩) ?_ ?_
      · rcases ite2_cases e14 with ⟨b12, e14⟩ | ⟨b12, e14⟩
        · replace e14 := some_eq e14
          subst e14
          exact AW.regionA [.no, .no, .no, .dec true] [25, 26, 27, 40] [] (s' := ⟨[(25, (.v (.one (.c (sl 4 cs_Bone ((a0.Bones.drop (1 : Int).toNat).take ((a0.Bones.length : Int).toNat - (1 : Int).toNat))))))), (26, (.v (.one (.c (.int .i64 (((a0.Bones.drop (1 : Int).toNat).take ((a0.Bones.length : Int).toNat - (1 : Int).toNat)).length : Int)))))), (27, (.v (.one (.c (.int .i64 x9))))), (40, (.v (.one (.c (.bool true)))))], []⟩) (ob := True ∧ True ∧ True ∧ (True ∧ (decide (((((a0.Bones.drop (1 : Int).toNat).take ((a0.Bones.length : Int).toNat - (1 : Int).toNat)).getD x9.toNat default).Parent) < (0 : Int))) = true) ∧ True ∧ True ∧ True ∧ True ∧ True ∧ True) (by kernel_rfl) ⟨trivial, trivial, trivial, ⟨trivial, b12⟩, trivial, trivial, trivial, trivial, trivial, trivial⟩ ⟨rfl, rfl⟩
        · replace e14 := some_eq e14
          subst e14
          exact AW.regionA [.no, .no, .no, .dec false] [25, 26, 27, 40] [] (s' := ⟨[(25, (.v (.one (.c (sl 4 cs_Bone ((a0.Bones.drop (1 : Int).toNat).take ((a0.Bones.length : Int).toNat - (1 : Int).toNat))))))), (26, (.v (.one (.c (.int .i64 (((a0.Bones.drop (1 : Int).toNat).take ((a0.Bones.length : Int).toNat - (1 : Int).toNat)).length : Int)))))), (27, (.v (.one (.c (.int .i64 x9))))), (40, (.v (.one (.c (.bool (decide (((((a0.Bones.drop (1 : Int).toNat).take ((a0.Bones.length : Int).toNat - (1 : Int).toNat)).getD x9.toNat default).Parent) > x9)))))))], []⟩) (ob := True ∧ True ∧ True ∧ (True ∧ (decide (((((a0.Bones.drop (1 : Int).toNat).take ((a0.Bones.length : Int).toNat - (1 : Int).toNat)).getD x9.toNat default).Parent) < (0 : Int))) = false) ∧ True ∧ True ∧ True ∧ True ∧ True ∧ True) (by kernel_rfl) ⟨trivial, trivial, trivial, ⟨trivial, b12⟩, trivial, trivial, trivial, trivial, trivial, trivial⟩ ⟨rfl, rfl⟩
      refine thenQ_normal ?_
      rcases ite2_cases h with ⟨b15, h⟩ | ⟨b15, h⟩
      · refine AW.cond_t rfl b15 ?_
        refine AW.seq ?_
        refine AW.regionA [] [2] [] (s' := ⟨[(2, (.v (.one (.c (.bool false)))))], []⟩) (ob := True ∧ True) (by kernel_rfl) ⟨trivial, trivial⟩ ?_
        refine thenQ_normal ?_
        refine AW.ret ?_
        refine blockQ_ret ?_
        refine thenQ_ret ?_
        refine loopQ_ret ?_
        refine blockQ_ret ?_
        refine thenQ_ret ?_
        replace h := some_eq h
        subst h
        exact ⟨.inr rfl, retOK_of [(.one (.c (.bool false)))] (by kernel_rfl) ⟨⟨rfl, trivial⟩, trivial⟩ (of_decide_eq_true (by kernel_rfl))⟩
      · refine AW.cond_f rfl b15 ?_
        refine AW.skip ?_
        refine blockQ_normal ?_
        refine thenQ_normal ?_
        refine AW.regionA [] [25, 26, 27] [] (s' := ⟨[(25, (.v (.one (.c (sl 4 cs_Bone ((a0.Bones.drop (1 : Int).toNat).take ((a0.Bones.length : Int).toNat - (1 : Int).toNat))))))), (26, (.v (.one (.c (.int .i64 (((a0.Bones.drop (1 : Int).toNat).take ((a0.Bones.length : Int).toNat - (1 : Int).toNat)).length : Int)))))), (27, (.v (.one (.c (.int .i64 (IntKind.i64.wrap (x9 + (1 : Int))))))))], []⟩) (ob := True ∧ True ∧ True) (by kernel_rfl) ⟨trivial, trivial, trivial⟩ ?_
        exact loopQ_normal (k, (IntKind.i64.wrap (x9 + (1 : Int)))) h (Nat.lt_succ_self k) (Sub.keep [25, 26, 27] [] (by kernel_rfl) (by kernel_rfl))
    · refine AW.cond_f rfl b10 ?_
      refine AW.exit ?_
      refine thenQ_exit ?_
      refine loopQ_exit ?_
      refine blockQ_exit ?_
      refine thenQ_normal ?_
      refine AW.seq ?_
      refine AW.regionA [] [2] [] (s' := ⟨[(2, (.v (.one (.c (.bool true)))))], []⟩) (ob := True ∧ True) (by kernel_rfl) ⟨trivial, trivial⟩ ?_
      refine thenQ_normal ?_
      refine AW.ret ?_
      replace h := some_eq h
      subst h
      exact ⟨.inr rfl, retOK_of [(.one (.c (.bool true)))] (by kernel_rfl) ⟨⟨rfl, trivial⟩, trivial⟩ (of_decide_eq_true (by kernel_rfl))⟩

/-! impl.IsName -/
def impl_IsName_l1 (K : Nat) (a0 : ByteArray) : Nat → Int → Option (Bool)
  | 0, _ => none
  | k + 1, x2 => ite2 ((decide (x2 < (a0.size : Int)))) (chk (0 ≤ x2 ∧ x2 < (a0.size : Int)) ((ite2 ((decide ((bt a0 x2.toNat) < (97 : Int)))) (some true) (some (decide ((bt a0 x2.toNat) > (122 : Int))))).bind fun j6 => ite2 (j6) (some false) (impl_IsName_l1 K a0 k (IntKind.i64.wrap (x2 + (1 : Int)))))) ((ite2 ((!(a0.toList == ByteArray.empty.toList))) (some (decide ((a0.size : Int) ≤ (8 : Int)))) (some false)).bind fun j10 => some j10)

def impl_IsName (K : Nat) (a0 : ByteArray) : Option (Bool) :=
  impl_IsName_l1 K a0 K (0 : Int)

theorem ok_impl_IsName (K : Nat) (a0 : ByteArray) (o : (Bool)) (h : impl_IsName K a0 = some o) : CallOK Try.prog 117 [.one (.str a0)] [.one (.bool o)] := by
  refine callOK_of_AW Try.func117 rfl (by kernel_rfl) (Nat.le_of_ble_eq_true (by kernel_rfl)) ?_
  intro w0
  unfold impl_IsName at h
  refine AW.seq ?_
  refine AW.regionA [] [0] [] (s' := ⟨[(0, (.v (.one (.c (.str a0)))))], []⟩) (ob := True ∧ True) (by kernel_rfl) ⟨trivial, trivial⟩ ?_
  refine thenQ_normal ?_
  refine AW.seq ?_
  refine AW.seq ?_
  refine AW.regionA [] [0, 5, 6] [] (s' := ⟨[(0, (.v (.one (.c (.str a0))))), (5, (.v (.one (.c (.int .i64 (a0.size : Int)))))), (6, (.v (.one (.c (.int .i64 (0 : Int))))))], []⟩) (ob := True ∧ True ∧ True ∧ True) (by kernel_rfl) ⟨trivial, trivial, trivial, trivial⟩ ?_
  refine thenQ_normal ?_
  refine AW.block ?_
  refine AW.loopQ (σ := Nat × Int) (fun p => ⟨[(0, (.v (.one (.c (.str a0))))), (5, (.v (.one (.c (.int .i64 (a0.size : Int)))))), (6, (.v (.one (.c (.int .i64 p.2)))))], []⟩) (fun p => impl_IsName_l1 K a0 p.1 p.2 = some o) (fun p => p.1) (K, (0 : Int)) h ?_
  clear h
  rintro ⟨k, x2⟩ h
  replace h : impl_IsName_l1 K a0 k x2 = some o := h
  show AW _ _ (⟨[(0, (.v (.one (.c (.str a0))))), (5, (.v (.one (.c (.int .i64 (a0.size : Int)))))), (6, (.v (.one (.c (.int .i64 x2)))))], []⟩ : St) _
  obtain _ | k := k
  · rw [impl_IsName_l1] at h; cases h
  rw [impl_IsName_l1] at h
  refine AW.seq ?_
  refine AW.regionA [] [0, 5, 6, 7] [] (s' := ⟨[(0, (.v (.one (.c (.str a0))))), (5, (.v (.one (.c (.int .i64 (a0.size : Int)))))), (6, (.v (.one (.c (.int .i64 x2))))), (7, (.v (.one (.c (.bool (decide (x2 < (a0.size : Int))))))))], []⟩) (ob := True ∧ True) (by kernel_rfl) ⟨trivial, trivial⟩ ?_
  refine thenQ_normal ?_
  refine AW.seq ?_
  rcases ite2_cases h with ⟨b3, h⟩ | ⟨b3, h⟩
  · refine AW.cond_t rfl b3 ?_
    refine AW.skip ?_
    refine thenQ_normal ?_
    refine AW.seq ?_
    refine AW.block ?_
    refine AW.seq ?_
    refine AW.regionA [] [0, 3, 5, 6] [] (s' := ⟨[(0, (.v (.one (.c (.str a0))))), (3, (.v (.one (.c (.int .i64 x2))))), (5, (.v (.one (.c (.int .i64 (a0.size : Int)))))), (6, (.v (.one (.c (.int .i64 x2)))))], []⟩) (ob := True ∧ True ∧ True) (by kernel_rfl) ⟨trivial, trivial, trivial⟩ ?_
    refine thenQ_normal ?_
    refine AW.seq ?_
    obtain ⟨c4, h⟩ := chk_some h
    obtain ⟨j6, e7, h⟩ := bind_some h
    refine AW.join1 (s2 := ⟨[(0, (.v (.one (.c (.str a0))))), (5, (.v (.one (.c (.int .i64 (a0.size : Int)))))), (6, (.v (.one (.c (.int .i64 x2))))), (18, (.v (.one (.c (.bool j6)))))], []⟩) ?_ ?_
    · rcases ite2_cases e7 with ⟨b5, e7⟩ | ⟨b5, e7⟩
      · replace e7 := some_eq e7
        subst e7
        exact AW.regionA [.no, .no, .no, .no, .dec true] [0, 5, 6, 18] [] (s' := ⟨[(0, (.v (.one (.c (.str a0))))), (5, (.v (.one (.c (.int .i64 (a0.size : Int)))))), (6, (.v (.one (.c (.int .i64 x2))))), (18, (.v (.one (.c (.bool true)))))], []⟩) (ob := True ∧ True ∧ (0 ≤ x2 ∧ x2 < (a0.size : Int)) ∧ True ∧ (True ∧ (decide ((bt a0 x2.toNat) < (97 : Int))) = true) ∧ True ∧ True ∧ True ∧ True ∧ True ∧ True) (by kernel_rfl) ⟨trivial, trivial, c4, trivial, ⟨trivial, b5⟩, trivial, trivial, trivial, trivial, trivial, trivial⟩ ⟨rfl, rfl⟩
      · replace e7 := some_eq e7
        subst e7
        exact AW.regionA [.no, .no, .no, .no, .dec false] [0, 5, 6, 18] [] (s' := ⟨[(0, (.v (.one (.c (.str a0))))), (5, (.v (.one (.c (.int .i64 (a0.size : Int)))))), (6, (.v (.one (.c (.int .i64 x2))))), (18, (.v (.one (.c (.bool (decide ((bt a0 x2.toNat) > (122 : Int))))))))], []⟩) (ob := True ∧ True ∧ (0 ≤ x2 ∧ x2 < (a0.size : Int)) ∧ True ∧ (True ∧ (decide ((bt a0 x2.toNat) < (97 : Int))) = false) ∧ True ∧ True ∧ (0 ≤ x2 ∧ x2 < (a0.size : Int)) ∧ True ∧ True ∧ True) (by kernel_rfl) ⟨trivial, trivial, c4, trivial, ⟨trivial, b5⟩, trivial, trivial, c4, trivial, trivial, trivial⟩ ⟨rfl, rfl⟩
    refine thenQ_normal ?_
    rcases ite2_cases h with ⟨b8, h⟩ | ⟨b8, h⟩
    · refine AW.cond_t rfl b8 ?_
      refine AW.seq ?_
      refine AW.regionA [] [2] [] (s' := ⟨[(2, (.v (.one (.c (.bool false)))))], []⟩) (ob := True ∧ True) (by kernel_rfl) ⟨trivial, trivial⟩ ?_
      refine thenQ_normal ?_
      refine AW.ret ?_
      refine blockQ_ret ?_
      refine thenQ_ret ?_
      refine loopQ_ret ?_
      refine blockQ_ret ?_
      refine thenQ_ret ?_
      replace h := some_eq h
      subst h
      exact ⟨.inr rfl, retOK_of [(.one (.c (.bool false)))] (by kernel_rfl) ⟨⟨rfl, trivial⟩, trivial⟩ (of_decide_eq_true (by kernel_rfl))⟩
    · refine AW.cond_f rfl b8 ?_
      refine AW.skip ?_
      refine blockQ_normal ?_
      refine thenQ_normal ?_
      refine AW.regionA [] [0, 5, 6] [] (s' := ⟨[(0, (.v (.one (.c (.str a0))))), (5, (.v (.one (.c (.int .i64 (a0.size : Int)))))), (6, (.v (.one (.c (.int .i64 (IntKind.i64.wrap (x2 + (1 : Int))))))))], []⟩) (ob := True ∧ True ∧ True) (by kernel_rfl) ⟨trivial, trivial, trivial⟩ ?_
      exact loopQ_normal (k, (IntKind.i64.wrap (x2 + (1 : Int)))) h (Nat.lt_succ_self k) (Sub.keep [0, 5, 6] [] (by kernel_rfl) (by kernel_rfl))
  · refine AW.cond_f rfl b3 ?_
    refine AW.exit ?_
    refine thenQ_exit ?_
    refine loopQ_exit ?_
    refine blockQ_exit ?_
    refine thenQ_normal ?_
    refine AW.seq ?_
    obtain ⟨j10, e11, h⟩ := bind_some h
    refine AW.join1 (s2 := ⟨[(2, (.v (.one (.c (.bool j10)))))], []⟩) ?_ ?_
    · rcases ite2_cases e11 with ⟨b9, e11⟩ | ⟨b9, e11⟩
      · replace e11 := some_eq e11
        subst e11
        exact AW.regionA [.no, .no, .dec true] [2] [] (s' := ⟨[(2, (.v (.one (.c (.bool (decide ((a0.size : Int) ≤ (8 : Int))))))))], []⟩) (ob := True ∧ True ∧ (True ∧ (!(a0.toList == ByteArray.empty.toList)) = true) ∧ True ∧ True ∧ True ∧ True ∧ True ∧ True) (by kernel_rfl) ⟨trivial, trivial, ⟨trivial, b9⟩, trivial, trivial, trivial, trivial, trivial, trivial⟩ ⟨rfl, rfl⟩
      · replace e11 := some_eq e11
        subst e11
        exact AW.regionA [.no, .no, .dec false] [2] [] (s' := ⟨[(2, (.v (.one (.c (.bool false)))))], []⟩) (ob := True ∧ True ∧ (True ∧ (!(a0.toList == ByteArray.empty.toList)) = false) ∧ True ∧ True ∧ True ∧ True ∧ True ∧ True) (by kernel_rfl) ⟨trivial, trivial, ⟨trivial, b9⟩, trivial, trivial, trivial, trivial, trivial, trivial⟩ ⟨rfl, rfl⟩
    refine thenQ_normal ?_
    refine AW.ret ?_
    replace h := some_eq h
    subst h
    exact ⟨.inr rfl, retOK_of [(.one (.c (.bool j10)))] (by kernel_rfl) ⟨⟨rfl, trivial⟩, trivial⟩ (of_decide_eq_true (by kernel_rfl))⟩

/-! impl.ValidStage -/
def impl_ValidStage_l1 (K : Nat) (a0 : Stage) : Nat → Int → Option (Bool)
  | 0, _ => none
  | k + 1, x9 => ite2 ((decide (x9 < (a0.Names.length : Int)))) (chk (0 ≤ x9 ∧ x9 < (a0.Names.length : Int)) ((impl_IsName K (a0.Names.getD x9.toNat default)).bind fun v12 => (ite2 ((!v12)) (some true) (ite2 ((decide (x9 > (0 : Int)))) (chk (0 ≤ (IntKind.i64.wrap (x9 - (1 : Int))) ∧ (IntKind.i64.wrap (x9 - (1 : Int))) < (a0.Names.length : Int)) (ite2 ((!(Op.bytesLess (a0.Names.getD ((IntKind.i64.wrap (x9 - (1 : Int))).toNat) default).toList (a0.Names.getD x9.toNat default).toList))) (some true) (chk (0 ≤ x9 ∧ x9 < (a0.Poses.length : Int)) (some ((((a0.Poses.getD x9.toNat default).Turns).length : Int) != (a0.Skeleton.Bones.length : Int)))))) (chk (0 ≤ x9 ∧ x9 < (a0.Poses.length : Int)) (some ((((a0.Poses.getD x9.toNat default).Turns).length : Int) != (a0.Skeleton.Bones.length : Int)))))).bind fun j20 => ite2 (j20) (some false) (impl_ValidStage_l1 K a0 k (IntKind.i64.wrap (x9 + (1 : Int)))))) (some true)

def impl_ValidStage (K : Nat) (a0 : Stage) : Option (Bool) :=
  (impl_ValidSkeleton K a0.Skeleton).bind fun v1 => (ite2 ((!v1)) (some true) (ite2 ((decide ((a0.Names.length : Int) > (6 : Int)))) (some true) (some ((a0.Poses.length : Int) != (a0.Names.length : Int))))).bind fun j5 => ite2 (j5) (some false) (impl_ValidStage_l1 K a0 K (0 : Int))

theorem ok_impl_ValidStage (K : Nat) (a0 : Stage) (o : (Bool)) (h : impl_ValidStage K a0 = some o) : CallOK Try.prog 62 [.agg (cs_Stage a0)] [.one (.bool o)] := by
  refine callOK_of_AW Try.func62 rfl (by kernel_rfl) (Nat.le_of_ble_eq_true (by kernel_rfl)) ?_
  intro w0
  unfold impl_ValidStage at h
  refine AW.seq ?_
  refine AW.regionA [.box 1] [1] [1] (s' := ⟨[(1, (.v (.one (.ptr 1 0))))], [(1, (.box [(.c (sl 4 cs_Bone a0.Skeleton.Bones)), (.c (sl 1 csS a0.Names)), (.c (sl 4 cs_Pose a0.Poses))]))]⟩) (ob := True ∧ True ∧ True) (by kernel_rfl) ⟨trivial, trivial, trivial⟩ ?_
  refine thenQ_normal ?_
  refine AW.seq ?_
  refine AW.seq ?_
  obtain ⟨v1, e2, h⟩ := bind_some h
  obtain ⟨j5, e6, h⟩ := bind_some h
  refine AW.join1 (s2 := ⟨[(1, (.v (.one (.ptr 1 0)))), (23, (.v (.one (.c (.bool j5)))))], [(1, (.box [(.c (sl 4 cs_Bone a0.Skeleton.Bones)), (.c (sl 1 csS a0.Names)), (.c (sl 4 cs_Pose a0.Poses))]))]⟩) ?_ ?_
  · rcases ite2_cases e6 with ⟨b3, e6⟩ | ⟨b3, e6⟩
    · replace e6 := some_eq e6
      subst e6
      exact AW.regionA [.no, .no, .call [.agg (cs_Skeleton a0.Skeleton)] [.one (.bool v1)] [[.view]], .no, .dec true] [1, 23] [1] (s' := ⟨[(1, (.v (.one (.ptr 1 0)))), (23, (.v (.one (.c (.bool true)))))], [(1, (.box [(.c (sl 4 cs_Bone a0.Skeleton.Bones)), (.c (sl 1 csS a0.Names)), (.c (sl 4 cs_Pose a0.Poses))]))]⟩) (ob := True ∧ True ∧ ((((((sl 4 cs_Bone a0.Skeleton.Bones) : C) = (sl 4 cs_Bone a0.Skeleton.Bones)) ∧ True) ∧ True) ∧ CallOK Try.prog 116 [.agg (cs_Skeleton a0.Skeleton)] [.one (.bool v1)]) ∧ True ∧ (True ∧ (!v1) = true) ∧ True ∧ True ∧ True ∧ True ∧ True ∧ True ∧ True ∧ True ∧ True ∧ True ∧ True ∧ True ∧ True ∧ True ∧ True) (by kernel_rfl) ⟨trivial, trivial, ⟨⟨⟨rfl, trivial⟩, trivial⟩, ok_impl_ValidSkeleton K a0.Skeleton v1 e2⟩, trivial, ⟨trivial, b3⟩, trivial, trivial, trivial, trivial, trivial, trivial, trivial, trivial, trivial, trivial, trivial, trivial, trivial, trivial, trivial⟩ ⟨rfl, rfl⟩
    · rcases ite2_cases e6 with ⟨b4, e6⟩ | ⟨b4, e6⟩
      · replace e6 := some_eq e6
        subst e6
        exact AW.regionA [.no, .no, .call [.agg (cs_Skeleton a0.Skeleton)] [.one (.bool v1)] [[.view]], .no, .dec false, .no, .no, .no, .no, .no, .dec true] [1, 23] [1] (s' := ⟨[(1, (.v (.one (.ptr 1 0)))), (23, (.v (.one (.c (.bool true)))))], [(1, (.box [(.c (sl 4 cs_Bone a0.Skeleton.Bones)), (.c (sl 1 csS a0.Names)), (.c (sl 4 cs_Pose a0.Poses))]))]⟩) (ob := True ∧ True ∧ ((((((sl 4 cs_Bone a0.Skeleton.Bones) : C) = (sl 4 cs_Bone a0.Skeleton.Bones)) ∧ True) ∧ True) ∧ CallOK Try.prog 116 [.agg (cs_Skeleton a0.Skeleton)] [.one (.bool v1)]) ∧ True ∧ (True ∧ (!v1) = false) ∧ True ∧ True ∧ True ∧ True ∧ True ∧ (True ∧ (decide ((a0.Names.length : Int) > (6 : Int))) = true) ∧ True ∧ True ∧ True ∧ True ∧ True ∧ True ∧ True ∧ True ∧ True) (by kernel_rfl) ⟨trivial, trivial, ⟨⟨⟨rfl, trivial⟩, trivial⟩, ok_impl_ValidSkeleton K a0.Skeleton v1 e2⟩, trivial, ⟨trivial, b3⟩, trivial, trivial, trivial, trivial, trivial, ⟨trivial, b4⟩, trivial, trivial, trivial, trivial, trivial, trivial, trivial, trivial, trivial⟩ ⟨rfl, rfl⟩
      · replace e6 := some_eq e6
        subst e6
        exact AW.regionA [.no, .no, .call [.agg (cs_Skeleton a0.Skeleton)] [.one (.bool v1)] [[.view]], .no, .dec false, .no, .no, .no, .no, .no, .dec false] [1, 23] [1] (s' := ⟨[(1, (.v (.one (.ptr 1 0)))), (23, (.v (.one (.c (.bool ((a0.Poses.length : Int) != (a0.Names.length : Int)))))))], [(1, (.box [(.c (sl 4 cs_Bone a0.Skeleton.Bones)), (.c (sl 1 csS a0.Names)), (.c (sl 4 cs_Pose a0.Poses))]))]⟩) (ob := True ∧ True ∧ ((((((sl 4 cs_Bone a0.Skeleton.Bones) : C) = (sl 4 cs_Bone a0.Skeleton.Bones)) ∧ True) ∧ True) ∧ CallOK Try.prog 116 [.agg (cs_Skeleton a0.Skeleton)] [.one (.bool v1)]) ∧ True ∧ (True ∧ (!v1) = false) ∧ True ∧ True ∧ True ∧ True ∧ True ∧ (True ∧ (decide ((a0.Names.length : Int) > (6 : Int))) = false) ∧ True ∧ True ∧ True ∧ True ∧ True ∧ True ∧ True ∧ True ∧ True) (by kernel_rfl) ⟨trivial, trivial, ⟨⟨⟨rfl, trivial⟩, trivial⟩, ok_impl_ValidSkeleton K a0.Skeleton v1 e2⟩, trivial, ⟨trivial, b3⟩, trivial, trivial, trivial, trivial, trivial, ⟨trivial, b4⟩, trivial, trivial, trivial, trivial, trivial, trivial, trivial, trivial, trivial⟩ ⟨rfl, rfl⟩
  refine thenQ_normal ?_
  rcases ite2_cases h with ⟨b7, h⟩ | ⟨b7, h⟩
  · refine AW.cond_t rfl b7 ?_
    refine AW.seq ?_
    refine AW.regionA [] [2] [] (s' := ⟨[(2, (.v (.one (.c (.bool false)))))], []⟩) (ob := True ∧ True) (by kernel_rfl) ⟨trivial, trivial⟩ ?_
    refine thenQ_normal ?_
    refine AW.ret ?_
    refine thenQ_ret ?_
    replace h := some_eq h
    subst h
    exact ⟨.inr rfl, retOK_of [(.one (.c (.bool false)))] (by kernel_rfl) ⟨⟨rfl, trivial⟩, trivial⟩ (of_decide_eq_true (by kernel_rfl))⟩
  · refine AW.cond_f rfl b7 ?_
    refine AW.skip ?_
    refine thenQ_normal ?_
    refine AW.seq ?_
    refine AW.seq ?_
    refine AW.regionA [] [1, 25, 26, 27] [1] (s' := ⟨[(1, (.v (.one (.ptr 1 0)))), (25, (.v (.one (.c (sl 1 csS a0.Names))))), (26, (.v (.one (.c (.int .i64 (a0.Names.length : Int)))))), (27, (.v (.one (.c (.int .i64 (0 : Int))))))], [(1, (.box [(.c (sl 4 cs_Bone a0.Skeleton.Bones)), (.c (sl 1 csS a0.Names)), (.c (sl 4 cs_Pose a0.Poses))]))]⟩) (ob := True ∧ True ∧ True ∧ True ∧ True) (by kernel_rfl) ⟨trivial, trivial, trivial, trivial, trivial⟩ ?_
    refine thenQ_normal ?_
    refine AW.block ?_
    refine AW.loopQ (σ := Nat × Int) (fun p => ⟨[(1, (.v (.one (.ptr 1 0)))), (25, (.v (.one (.c (sl 1 csS a0.Names))))), (26, (.v (.one (.c (.int .i64 (a0.Names.length : Int)))))), (27, (.v (.one (.c (.int .i64 p.2)))))], [(1, (.box [(.c (sl 4 cs_Bone a0.Skeleton.Bones)), (.c (sl 1 csS a0.Names)), (.c (sl 4 cs_Pose a0.Poses))]))]⟩) (fun p => impl_ValidStage_l1 K a0 p.1 p.2 = some o) (fun p => p.1) (K, (0 : Int)) h ?_
    clear h
    rintro ⟨k, x9⟩ h
    replace h : impl_ValidStage_l1 K a0 k x9 = some o := h
    show AW _ _ (⟨[(1, (.v (.one (.ptr 1 0)))), (25, (.v (.one (.c (sl 1 csS a0.Names))))), (26, (.v (.one (.c (.int .i64 (a0.Names.length : Int)))))), (27, (.v (.one (.c (.int .i64 x9)))))], [(1, (.box [(.c (sl 4 cs_Bone a0.Skeleton.Bones)), (.c (sl 1 csS a0.Names)), (.c (sl 4 cs_Pose a0.Poses))]))]⟩ : St) _
    obtain _ | k := k
    · rw [impl_ValidStage_l1] at h; cases h
    rw [impl_ValidStage_l1] at h
    refine AW.seq ?_
    refine AW.regionA [] [1, 25, 26, 27, 28] [1] (s' := ⟨[(1, (.v (.one (.ptr 1 0)))), (25, (.v (.one (.c (sl 1 csS a0.Names))))), (26, (.v (.one (.c (.int .i64 (a0.Names.length : Int)))))), (27, (.v (.one (.c (.int .i64 x9))))), (28, (.v (.one (.c (.bool (decide (x9 < (a0.Names.length : Int))))))))], [(1, (.box [(.c (sl 4 cs_Bone a0.Skeleton.Bones)), (.c (sl 1 csS a0.Names)), (.c (sl 4 cs_Pose a0.Poses))]))]⟩) (ob := True ∧ True) (by kernel_rfl) ⟨trivial, trivial⟩ ?_
    refine thenQ_normal ?_
    refine AW.seq ?_
    rcases ite2_cases h with ⟨b10, h⟩ | ⟨b10, h⟩
    · refine AW.cond_t rfl b10 ?_
      refine AW.skip ?_
      refine thenQ_normal ?_
      refine AW.seq ?_
      refine AW.block ?_
      refine AW.seq ?_
      obtain ⟨c11, h⟩ := chk_some h
      refine AW.regionA [] [1, 3, 4, 25, 26, 27] [1] (s' := ⟨[(1, (.v (.one (.ptr 1 0)))), (3, (.v (.one (.c (.int .i64 x9))))), (4, (.v (.one (.c (.str (a0.Names.getD x9.toNat default)))))), (25, (.v (.one (.c (sl 1 csS a0.Names))))), (26, (.v (.one (.c (.int .i64 (a0.Names.length : Int)))))), (27, (.v (.one (.c (.int .i64 x9)))))], [(1, (.box [(.c (sl 4 cs_Bone a0.Skeleton.Bones)), (.c (sl 1 csS a0.Names)), (.c (sl 4 cs_Pose a0.Poses))]))]⟩) (ob := True ∧ (0 ≤ x9 ∧ x9 < (a0.Names.length : Int)) ∧ True ∧ True ∧ True ∧ True) (by kernel_rfl) ⟨trivial, c11, trivial, trivial, trivial, trivial⟩ ?_
      refine thenQ_normal ?_
      refine AW.seq ?_
      obtain ⟨v12, e13, h⟩ := bind_some h
      obtain ⟨j20, e21, h⟩ := bind_some h
      refine AW.join1 (s2 := ⟨[(1, (.v (.one (.ptr 1 0)))), (25, (.v (.one (.c (sl 1 csS a0.Names))))), (26, (.v (.one (.c (.int .i64 (a0.Names.length : Int)))))), (27, (.v (.one (.c (.int .i64 x9))))), (62, (.v (.one (.c (.bool j20)))))], [(1, (.box [(.c (sl 4 cs_Bone a0.Skeleton.Bones)), (.c (sl 1 csS a0.Names)), (.c (sl 4 cs_Pose a0.Poses))]))]⟩) ?_ ?_
      · rcases ite2_cases e21 with ⟨b14, e21⟩ | ⟨b14, e21⟩
        · replace e21 := some_eq e21
          subst e21
          exact AW.drawnA (by kernel_rfl) 31 [.no, .call [.one (.str (a0.Names.getD x9.toNat default))] [.one (.bool v12)] [[.view]], .no, .dec true] [1, 25, 26, 27, 62] [1] (s' := ⟨[(1, (.v (.one (.ptr 1 0)))), (25, (.v (.one (.c (sl 1 csS a0.Names))))), (26, (.v (.one (.c (.int .i64 (a0.Names.length : Int)))))), (27, (.v (.one (.c (.int .i64 x9))))), (62, (.v (.one (.c (.bool true)))))], [(1, (.box [(.c (sl 4 cs_Bone a0.Skeleton.Bones)), (.c (sl 1 csS a0.Names)), (.c (sl 4 cs_Pose a0.Poses))]))]⟩) (ob := (True ∧ (((((.str (a0.Names.getD x9.toNat default)) : C) = (.str (a0.Names.getD x9.toNat default))) ∧ True) ∧ CallOK Try.prog 117 [.one (.str (a0.Names.getD x9.toNat default))] [.one (.bool v12)]) ∧ True ∧ (True ∧ (!v12) = true) ∧ True ∧ True ∧ True ∧ True ∧ True ∧ True ∧ True ∧ True ∧ True ∧ True ∧ True ∧ True ∧ True ∧ True ∧ True ∧ True ∧ True ∧ True ∧ True ∧ True ∧ True ∧ True ∧ True ∧ True ∧ True ∧ True ∧ True ∧ True) ∧ (True)) (by kernel_rfl) ⟨⟨trivial, ⟨⟨rfl, trivial⟩, ok_impl_IsName K (a0.Names.getD x9.toNat default) v12 e13⟩, trivial, ⟨trivial, b14⟩, trivial, trivial, trivial, trivial, trivial, trivial, trivial, trivial, trivial, trivial, trivial, trivial, trivial, trivial, trivial, trivial, trivial, trivial, trivial, trivial, trivial, trivial, trivial, trivial, trivial, trivial, trivial, trivial⟩, trivial⟩ ⟨rfl, rfl⟩
        · rcases ite2_cases e21 with ⟨b15, e21⟩ | ⟨b15, e21⟩
          · obtain ⟨c16, e21⟩ := chk_some e21
            rcases ite2_cases e21 with ⟨b17, e21⟩ | ⟨b17, e21⟩
            · replace e21 := some_eq e21
              subst e21
              exact AW.drawnA (by kernel_rfl) 31 [.no, .call [.one (.str (a0.Names.getD x9.toNat default))] [.one (.bool v12)] [[.view]], .no, .dec false, .no, .no, .dec true, .no, .no, .no, .no, .no, .no, .no, .no, .no, .no, .dec true] [1, 25, 26, 27, 62] [1] (s' := ⟨[(1, (.v (.one (.ptr 1 0)))), (25, (.v (.one (.c (sl 1 csS a0.Names))))), (26, (.v (.one (.c (.int .i64 (a0.Names.length : Int)))))), (27, (.v (.one (.c (.int .i64 x9))))), (62, (.v (.one (.c (.bool true)))))], [(1, (.box [(.c (sl 4 cs_Bone a0.Skeleton.Bones)), (.c (sl 1 csS a0.Names)), (.c (sl 4 cs_Pose a0.Poses))]))]⟩) (ob := (True ∧ (((((.str (a0.Names.getD x9.toNat default)) : C) = (.str (a0.Names.getD x9.toNat default))) ∧ True) ∧ CallOK Try.prog 117 [.one (.str (a0.Names.getD x9.toNat default))] [.one (.bool v12)]) ∧ True ∧ (True ∧ (!v12) = false) ∧ True ∧ True ∧ (True ∧ (decide (x9 > (0 : Int))) = true) ∧ True ∧ True ∧ True ∧ True ∧ (0 ≤ (IntKind.i64.wrap (x9 - (1 : Int))) ∧ (IntKind.i64.wrap (x9 - (1 : Int))) < (a0.Names.length : Int)) ∧ True ∧ True ∧ True ∧ True ∧ True ∧ (True ∧ (!(Op.bytesLess (a0.Names.getD ((IntKind.i64.wrap (x9 - (1 : Int))).toNat) default).toList (a0.Names.getD x9.toNat default).toList)) = true) ∧ True ∧ True ∧ True ∧ True ∧ True ∧ True ∧ True ∧ True ∧ True ∧ True ∧ True ∧ True ∧ True ∧ True) ∧ (True)) (by kernel_rfl) ⟨⟨trivial, ⟨⟨rfl, trivial⟩, ok_impl_IsName K (a0.Names.getD x9.toNat default) v12 e13⟩, trivial, ⟨trivial, b14⟩, trivial, trivial, ⟨trivial, b15⟩, trivial, trivial, trivial, trivial, c16, trivial, trivial, trivial, trivial, trivial, ⟨trivial, b17⟩, trivial, trivial, trivial, trivial, trivial, trivial, trivial, trivial, trivial, trivial, trivial, trivial, trivial, trivial⟩, trivial⟩ ⟨rfl, rfl⟩
            · obtain ⟨c18, e21⟩ := chk_some e21
              replace e21 := some_eq e21
              subst e21
              exact AW.drawnA (by kernel_rfl) 31 [.no, .call [.one (.str (a0.Names.getD x9.toNat default))] [.one (.bool v12)] [[.view]], .no, .dec false, .no, .no, .dec true, .no, .no, .no, .no, .no, .no, .no, .no, .no, .no, .dec false] [1, 25, 26, 27, 62] [1] (s' := ⟨[(1, (.v (.one (.ptr 1 0)))), (25, (.v (.one (.c (sl 1 csS a0.Names))))), (26, (.v (.one (.c (.int .i64 (a0.Names.length : Int)))))), (27, (.v (.one (.c (.int .i64 x9))))), (62, (.v (.one (.c (.bool ((((a0.Poses.getD x9.toNat default).Turns).length : Int) != (a0.Skeleton.Bones.length : Int)))))))], [(1, (.box [(.c (sl 4 cs_Bone a0.Skeleton.Bones)), (.c (sl 1 csS a0.Names)), (.c (sl 4 cs_Pose a0.Poses))]))]⟩) (ob := (True ∧ (((((.str (a0.Names.getD x9.toNat default)) : C) = (.str (a0.Names.getD x9.toNat default))) ∧ True) ∧ CallOK Try.prog 117 [.one (.str (a0.Names.getD x9.toNat default))] [.one (.bool v12)]) ∧ True ∧ (True ∧ (!v12) = false) ∧ True ∧ True ∧ (True ∧ (decide (x9 > (0 : Int))) = true) ∧ True ∧ True ∧ True ∧ True ∧ (0 ≤ (IntKind.i64.wrap (x9 - (1 : Int))) ∧ (IntKind.i64.wrap (x9 - (1 : Int))) < (a0.Names.length : Int)) ∧ True ∧ True ∧ True ∧ True ∧ True ∧ (True ∧ (!(Op.bytesLess (a0.Names.getD ((IntKind.i64.wrap (x9 - (1 : Int))).toNat) default).toList (a0.Names.getD x9.toNat default).toList)) = false) ∧ True ∧ True ∧ True ∧ (0 ≤ x9 ∧ x9 < (a0.Poses.length : Int)) ∧ True ∧ True ∧ True ∧ True ∧ True ∧ True ∧ True ∧ True ∧ True ∧ True) ∧ (True)) (by kernel_rfl) ⟨⟨trivial, ⟨⟨rfl, trivial⟩, ok_impl_IsName K (a0.Names.getD x9.toNat default) v12 e13⟩, trivial, ⟨trivial, b14⟩, trivial, trivial, ⟨trivial, b15⟩, trivial, trivial, trivial, trivial, c16, trivial, trivial, trivial, trivial, trivial, ⟨trivial, b17⟩, trivial, trivial, trivial, c18, trivial, trivial, trivial, trivial, trivial, trivial, trivial, trivial, trivial, trivial⟩, trivial⟩ ⟨rfl, rfl⟩
          · obtain ⟨c19, e21⟩ := chk_some e21
            replace e21 := some_eq e21
            subst e21
            exact AW.drawnA (by kernel_rfl) 31 [.no, .call [.one (.str (a0.Names.getD x9.toNat default))] [.one (.bool v12)] [[.view]], .no, .dec false, .no, .no, .dec false] [1, 25, 26, 27, 62] [1] (s' := ⟨[(1, (.v (.one (.ptr 1 0)))), (25, (.v (.one (.c (sl 1 csS a0.Names))))), (26, (.v (.one (.c (.int .i64 (a0.Names.length : Int)))))), (27, (.v (.one (.c (.int .i64 x9))))), (62, (.v (.one (.c (.bool ((((a0.Poses.getD x9.toNat default).Turns).length : Int) != (a0.Skeleton.Bones.length : Int)))))))], [(1, (.box [(.c (sl 4 cs_Bone a0.Skeleton.Bones)), (.c (sl 1 csS a0.Names)), (.c (sl 4 cs_Pose a0.Poses))]))]⟩) (ob := (True ∧ (((((.str (a0.Names.getD x9.toNat default)) : C) = (.str (a0.Names.getD x9.toNat default))) ∧ True) ∧ CallOK Try.prog 117 [.one (.str (a0.Names.getD x9.toNat default))] [.one (.bool v12)]) ∧ True ∧ (True ∧ (!v12) = false) ∧ True ∧ True ∧ (True ∧ (decide (x9 > (0 : Int))) = false) ∧ True ∧ True ∧ True ∧ True ∧ True ∧ True ∧ True ∧ True ∧ True ∧ True ∧ True ∧ True ∧ True ∧ True ∧ (0 ≤ x9 ∧ x9 < (a0.Poses.length : Int)) ∧ True ∧ True ∧ True ∧ True ∧ True ∧ True ∧ True ∧ True ∧ True ∧ True) ∧ (True)) (by kernel_rfl) ⟨⟨trivial, ⟨⟨rfl, trivial⟩, ok_impl_IsName K (a0.Names.getD x9.toNat default) v12 e13⟩, trivial, ⟨trivial, b14⟩, trivial, trivial, ⟨trivial, b15⟩, trivial, trivial, trivial, trivial, trivial, trivial, trivial, trivial, trivial, trivial, trivial, trivial, trivial, trivial, c19, trivial, trivial, trivial, trivial, trivial, trivial, trivial, trivial, trivial, trivial⟩, trivial⟩ ⟨rfl, rfl⟩
      refine thenQ_normal ?_
      rcases ite2_cases h with ⟨b22, h⟩ | ⟨b22, h⟩
      · refine AW.cond_t rfl b22 ?_
        refine AW.seq ?_
        refine AW.regionA [] [2] [] (s' := ⟨[(2, (.v (.one (.c (.bool false)))))], []⟩) (ob := True ∧ True) (by kernel_rfl) ⟨trivial, trivial⟩ ?_
        refine thenQ_normal ?_
        refine AW.ret ?_
        refine blockQ_ret ?_
        refine thenQ_ret ?_
        refine loopQ_ret ?_
        refine blockQ_ret ?_
        refine thenQ_ret ?_
        replace h := some_eq h
        subst h
        exact ⟨.inr rfl, retOK_of [(.one (.c (.bool false)))] (by kernel_rfl) ⟨⟨rfl, trivial⟩, trivial⟩ (of_decide_eq_true (by kernel_rfl))⟩
      · refine AW.cond_f rfl b22 ?_
        refine AW.skip ?_
        refine blockQ_normal ?_
        refine thenQ_normal ?_
        refine AW.regionA [] [1, 25, 26, 27] [1] (s' := ⟨[(1, (.v (.one (.ptr 1 0)))), (25, (.v (.one (.c (sl 1 csS a0.Names))))), (26, (.v (.one (.c (.int .i64 (a0.Names.length : Int)))))), (27, (.v (.one (.c (.int .i64 (IntKind.i64.wrap (x9 + (1 : Int))))))))], [(1, (.box [(.c (sl 4 cs_Bone a0.Skeleton.Bones)), (.c (sl 1 csS a0.Names)), (.c (sl 4 cs_Pose a0.Poses))]))]⟩) (ob := True ∧ True ∧ True) (by kernel_rfl) ⟨trivial, trivial, trivial⟩ ?_
        exact loopQ_normal (k, (IntKind.i64.wrap (x9 + (1 : Int)))) h (Nat.lt_succ_self k) (Sub.keep [1, 25, 26, 27] [1] (by kernel_rfl) (by kernel_rfl))
    · refine AW.cond_f rfl b10 ?_
      refine AW.exit ?_
      refine thenQ_exit ?_
      refine loopQ_exit ?_
      refine blockQ_exit ?_
      refine thenQ_normal ?_
      refine AW.seq ?_
      refine AW.regionA [] [2] [] (s' := ⟨[(2, (.v (.one (.c (.bool true)))))], []⟩) (ob := True ∧ True) (by kernel_rfl) ⟨trivial, trivial⟩ ?_
      refine thenQ_normal ?_
      refine AW.ret ?_
      replace h := some_eq h
      subst h
      exact ⟨.inr rfl, retOK_of [(.one (.c (.bool true)))] (by kernel_rfl) ⟨⟨rfl, trivial⟩, trivial⟩ (of_decide_eq_true (by kernel_rfl))⟩

/-! laws.sameFloat -/
def laws_sameFloat (K : Nat) (a0 : F64) (a1 : F64) : Option (Bool) :=
  (ite2 ((a0.ne a0)) (some true) (some (a1.ne a1))).bind fun j2 => ite2 (j2) ((ite2 ((a0.ne a0)) (some (a1.ne a1)) (some false)).bind fun j6 => some j6) ((ite2 ((a0.eq (Fl.mk (k := .f64) 0 (by decide)))) (some (a1.eq (Fl.mk (k := .f64) 0 (by decide)))) (some false)).bind fun j9 => ite2 (j9) (some ((((Fl.mk (k := .f64) 4607182418800017408 (by decide)).div a0).gt (Fl.mk (k := .f64) 0 (by decide))) == (((Fl.mk (k := .f64) 4607182418800017408 (by decide)).div a1).gt (Fl.mk (k := .f64) 0 (by decide))))) (some (a0.eq a1)))

theorem ok_laws_sameFloat (K : Nat) (a0 : F64) (a1 : F64) (o : (Bool)) (h : laws_sameFloat K a0 a1 = some o) : CallOK Try.prog 98 [.one (.flt .f64 a0.bits), .one (.flt .f64 a1.bits)] [.one (.bool o)] := by
  refine callOK_of_AW Try.func98 rfl (by kernel_rfl) (Nat.le_of_ble_eq_true (by kernel_rfl)) ?_
  intro w0
  unfold laws_sameFloat at h
  refine AW.seq ?_
  refine AW.regionA [] [0, 1] [] (s' := ⟨[(0, (.v (.one (.c (.flt .f64 a0.bits))))), (1, (.v (.one (.c (.flt .f64 a1.bits)))))], []⟩) (ob := True ∧ True) (by kernel_rfl) ⟨trivial, trivial⟩ ?_
  refine thenQ_normal ?_
  refine AW.seq ?_
  refine AW.seq ?_
  obtain ⟨j2, e3, h⟩ := bind_some h
  refine AW.join1 (s2 := ⟨[(0, (.v (.one (.c (.flt .f64 a0.bits))))), (1, (.v (.one (.c (.flt .f64 a1.bits))))), (12, (.v (.one (.c (.bool j2)))))], []⟩) ?_ ?_
  · rcases ite2_cases e3 with ⟨b1, e3⟩ | ⟨b1, e3⟩
    · replace e3 := some_eq e3
      subst e3
      exact AW.regionA [.no, .no, .no, .dec true] [0, 1, 12] [] (s' := ⟨[(0, (.v (.one (.c (.flt .f64 a0.bits))))), (1, (.v (.one (.c (.flt .f64 a1.bits))))), (12, (.v (.one (.c (.bool true)))))], []⟩) (ob := True ∧ True ∧ True ∧ (True ∧ (a0.ne a0) = true) ∧ True ∧ True ∧ True ∧ True ∧ True) (by kernel_rfl) ⟨trivial, trivial, trivial, ⟨trivial, b1⟩, trivial, trivial, trivial, trivial, trivial⟩ ⟨rfl, rfl⟩
    · replace e3 := some_eq e3
      subst e3
      exact AW.regionA [.no, .no, .no, .dec false] [0, 1, 12] [] (s' := ⟨[(0, (.v (.one (.c (.flt .f64 a0.bits))))), (1, (.v (.one (.c (.flt .f64 a1.bits))))), (12, (.v (.one (.c (.bool (a1.ne a1))))))], []⟩) (ob := True ∧ True ∧ True ∧ (True ∧ (a0.ne a0) = false) ∧ True ∧ True ∧ True ∧ True ∧ True) (by kernel_rfl) ⟨trivial, trivial, trivial, ⟨trivial, b1⟩, trivial, trivial, trivial, trivial, trivial⟩ ⟨rfl, rfl⟩
  refine thenQ_normal ?_
  rcases ite2_cases h with ⟨b4, h⟩ | ⟨b4, h⟩
  · refine AW.cond_t rfl b4 ?_
    refine AW.seq ?_
    obtain ⟨j6, e7, h⟩ := bind_some h
    refine AW.join1 (s2 := ⟨[(4, (.v (.one (.c (.bool j6)))))], []⟩) ?_ ?_
    · rcases ite2_cases e7 with ⟨b5, e7⟩ | ⟨b5, e7⟩
      · replace e7 := some_eq e7
        subst e7
        exact AW.regionA [.no, .no, .no, .dec true] [4] [] (s' := ⟨[(4, (.v (.one (.c (.bool (a1.ne a1))))))], []⟩) (ob := True ∧ True ∧ True ∧ (True ∧ (a0.ne a0) = true) ∧ True ∧ True ∧ True ∧ True ∧ True ∧ True) (by kernel_rfl) ⟨trivial, trivial, trivial, ⟨trivial, b5⟩, trivial, trivial, trivial, trivial, trivial, trivial⟩ ⟨rfl, rfl⟩
      · replace e7 := some_eq e7
        subst e7
        exact AW.regionA [.no, .no, .no, .dec false] [4] [] (s' := ⟨[(4, (.v (.one (.c (.bool false)))))], []⟩) (ob := True ∧ True ∧ True ∧ (True ∧ (a0.ne a0) = false) ∧ True ∧ True ∧ True ∧ True ∧ True ∧ True) (by kernel_rfl) ⟨trivial, trivial, trivial, ⟨trivial, b5⟩, trivial, trivial, trivial, trivial, trivial, trivial⟩ ⟨rfl, rfl⟩
    refine thenQ_normal ?_
    refine AW.ret ?_
    refine thenQ_ret ?_
    replace h := some_eq h
    subst h
    exact ⟨.inr rfl, retOK_of [(.one (.c (.bool j6)))] (by kernel_rfl) ⟨⟨rfl, trivial⟩, trivial⟩ (of_decide_eq_true (by kernel_rfl))⟩
  · refine AW.cond_f rfl b4 ?_
    refine AW.skip ?_
    refine thenQ_normal ?_
    refine AW.seq ?_
    refine AW.seq ?_
    obtain ⟨j9, e10, h⟩ := bind_some h
    refine AW.join1 (s2 := ⟨[(0, (.v (.one (.c (.flt .f64 a0.bits))))), (1, (.v (.one (.c (.flt .f64 a1.bits))))), (26, (.v (.one (.c (.bool j9)))))], []⟩) ?_ ?_
    · rcases ite2_cases e10 with ⟨b8, e10⟩ | ⟨b8, e10⟩
      · replace e10 := some_eq e10
        subst e10
        exact AW.regionA [.no, .no, .dec true] [0, 1, 26] [] (s' := ⟨[(0, (.v (.one (.c (.flt .f64 a0.bits))))), (1, (.v (.one (.c (.flt .f64 a1.bits))))), (26, (.v (.one (.c (.bool (a1.eq (Fl.mk (k := .f64) 0 (by decide))))))))], []⟩) (ob := True ∧ True ∧ (True ∧ (a0.eq (Fl.mk (k := .f64) 0 (by decide))) = true) ∧ True ∧ True ∧ True ∧ True) (by kernel_rfl) ⟨trivial, trivial, ⟨trivial, b8⟩, trivial, trivial, trivial, trivial⟩ ⟨rfl, rfl⟩
      · replace e10 := some_eq e10
        subst e10
        exact AW.regionA [.no, .no, .dec false] [0, 1, 26] [] (s' := ⟨[(0, (.v (.one (.c (.flt .f64 a0.bits))))), (1, (.v (.one (.c (.flt .f64 a1.bits))))), (26, (.v (.one (.c (.bool false)))))], []⟩) (ob := True ∧ True ∧ (True ∧ (a0.eq (Fl.mk (k := .f64) 0 (by decide))) = false) ∧ True ∧ True ∧ True ∧ True) (by kernel_rfl) ⟨trivial, trivial, ⟨trivial, b8⟩, trivial, trivial, trivial, trivial⟩ ⟨rfl, rfl⟩
    refine thenQ_normal ?_
    rcases ite2_cases h with ⟨b11, h⟩ | ⟨b11, h⟩
    · refine AW.cond_t rfl b11 ?_
      refine AW.seq ?_
      refine AW.regionA [] [4] [] (s' := ⟨[(4, (.v (.one (.c (.bool ((((Fl.mk (k := .f64) 4607182418800017408 (by decide)).div a0).gt (Fl.mk (k := .f64) 0 (by decide))) == (((Fl.mk (k := .f64) 4607182418800017408 (by decide)).div a1).gt (Fl.mk (k := .f64) 0 (by decide)))))))))], []⟩) (ob := True ∧ True ∧ True ∧ True ∧ True ∧ True ∧ True ∧ True ∧ True) (by kernel_rfl) ⟨trivial, trivial, trivial, trivial, trivial, trivial, trivial, trivial, trivial⟩ ?_
      refine thenQ_normal ?_
      refine AW.ret ?_
      refine thenQ_ret ?_
      replace h := some_eq h
      subst h
      exact ⟨.inr rfl, retOK_of [(.one (.c (.bool ((((Fl.mk (k := .f64) 4607182418800017408 (by decide)).div a0).gt (Fl.mk (k := .f64) 0 (by decide))) == (((Fl.mk (k := .f64) 4607182418800017408 (by decide)).div a1).gt (Fl.mk (k := .f64) 0 (by decide)))))))] (by kernel_rfl) ⟨⟨rfl, trivial⟩, trivial⟩ (of_decide_eq_true (by kernel_rfl))⟩
    · refine AW.cond_f rfl b11 ?_
      refine AW.skip ?_
      refine thenQ_normal ?_
      refine AW.seq ?_
      refine AW.regionA [] [4] [] (s' := ⟨[(4, (.v (.one (.c (.bool (a0.eq a1))))))], []⟩) (ob := True ∧ True ∧ True ∧ True ∧ True) (by kernel_rfl) ⟨trivial, trivial, trivial, trivial, trivial⟩ ?_
      refine thenQ_normal ?_
      refine AW.ret ?_
      replace h := some_eq h
      subst h
      exact ⟨.inr rfl, retOK_of [(.one (.c (.bool (a0.eq a1))))] (by kernel_rfl) ⟨⟨rfl, trivial⟩, trivial⟩ (of_decide_eq_true (by kernel_rfl))⟩

/-! laws.eqVector -/
def laws_eqVector (K : Nat) (a0 : Vector) (a1 : Vector) : Option (Bool) :=
  (laws_sameFloat K (Fl.cv .f32 .f64 a0.X) (Fl.cv .f32 .f64 a1.X)).bind fun v1 => ite2 ((!v1)) (some false) ((laws_sameFloat K (Fl.cv .f32 .f64 a0.Y) (Fl.cv .f32 .f64 a1.Y)).bind fun v4 => ite2 ((!v4)) (some false) ((laws_sameFloat K (Fl.cv .f32 .f64 a0.Z) (Fl.cv .f32 .f64 a1.Z)).bind fun v7 => ite2 ((!v7)) (some false) (some true)))

theorem ok_laws_eqVector (K : Nat) (a0 : Vector) (a1 : Vector) (o : (Bool)) (h : laws_eqVector K a0 a1 = some o) : CallOK Try.prog 90 [.agg (cs_Vector a0), .agg (cs_Vector a1)] [.one (.bool o)] := by
  refine callOK_of_AW Try.func90 rfl (by kernel_rfl) (Nat.le_of_ble_eq_true (by kernel_rfl)) ?_
  intro w0
  unfold laws_eqVector at h
  refine AW.seq ?_
  refine AW.regionA [.box 1, .box 2] [2, 3] [1, 2] (s' := ⟨[(2, (.v (.one (.ptr 1 0)))), (3, (.v (.one (.ptr 2 0))))], [(1, (.box [(.c (.flt .f32 a0.X.bits)), (.c (.flt .f32 a0.Y.bits)), (.c (.flt .f32 a0.Z.bits))])), (2, (.box [(.c (.flt .f32 a1.X.bits)), (.c (.flt .f32 a1.Y.bits)), (.c (.flt .f32 a1.Z.bits))]))]⟩) (ob := True ∧ True ∧ True ∧ True) (by kernel_rfl) ⟨trivial, trivial, trivial, trivial⟩ ?_
  refine thenQ_normal ?_
  refine AW.seq ?_
  refine AW.seq ?_
  obtain ⟨v1, e2, h⟩ := bind_some h
  refine AW.regionA [.no, .no, .no, .no, .no, .no, .call [.one (.flt .f64 (Fl.cv .f32 .f64 a0.X).bits), .one (.flt .f64 (Fl.cv .f32 .f64 a1.X).bits)] [.one (.bool v1)] [[.view]]] [2, 3, 12] [1, 2] (s' := ⟨[(2, (.v (.one (.ptr 1 0)))), (3, (.v (.one (.ptr 2 0)))), (12, (.v (.one (.c (.bool (!v1))))))], [(1, (.box [(.c (.flt .f32 a0.X.bits)), (.c (.flt .f32 a0.Y.bits)), (.c (.flt .f32 a0.Z.bits))])), (2, (.box [(.c (.flt .f32 a1.X.bits)), (.c (.flt .f32 a1.Y.bits)), (.c (.flt .f32 a1.Z.bits))]))]⟩) (ob := True ∧ True ∧ ((convBits .f32 a0.X.bits .f64).isSome = true) ∧ True ∧ True ∧ ((convBits .f32 a1.X.bits .f64).isSome = true) ∧ (((((.flt .f64 (Fl.cv .f32 .f64 a0.X).bits) : C) = (.flt .f64 (Fl.cv .f32 .f64 a0.X).bits)) ∧ (((.flt .f64 (Fl.cv .f32 .f64 a1.X).bits) : C) = (.flt .f64 (Fl.cv .f32 .f64 a1.X).bits)) ∧ True) ∧ CallOK Try.prog 98 [.one (.flt .f64 (Fl.cv .f32 .f64 a0.X).bits), .one (.flt .f64 (Fl.cv .f32 .f64 a1.X).bits)] [.one (.bool v1)]) ∧ True ∧ True) (by kernel_rfl) ⟨trivial, trivial, cv_wide a0.X, trivial, trivial, cv_wide a1.X, ⟨⟨rfl, rfl, trivial⟩, ok_laws_sameFloat K (Fl.cv .f32 .f64 a0.X) (Fl.cv .f32 .f64 a1.X) v1 e2⟩, trivial, trivial⟩ ?_
  refine thenQ_normal ?_
  rcases ite2_cases h with ⟨b3, h⟩ | ⟨b3, h⟩
  · refine AW.cond_t rfl b3 ?_
    refine AW.seq ?_
    refine AW.regionA [] [4] [] (s' := ⟨[(4, (.v (.one (.c (.bool false)))))], []⟩) (ob := True ∧ True) (by kernel_rfl) ⟨trivial, trivial⟩ ?_
    refine thenQ_normal ?_
    refine AW.ret ?_
    refine thenQ_ret ?_
    replace h := some_eq h
    subst h
    exact ⟨.inr rfl, retOK_of [(.one (.c (.bool false)))] (by kernel_rfl) ⟨⟨rfl, trivial⟩, trivial⟩ (of_decide_eq_true (by kernel_rfl))⟩
  · refine AW.cond_f rfl b3 ?_
    refine AW.skip ?_
    refine thenQ_normal ?_
    refine AW.seq ?_
    refine AW.seq ?_
    obtain ⟨v4, e5, h⟩ := bind_some h
    refine AW.regionA [.no, .no, .no, .no, .no, .no, .call [.one (.flt .f64 (Fl.cv .f32 .f64 a0.Y).bits), .one (.flt .f64 (Fl.cv .f32 .f64 a1.Y).bits)] [.one (.bool v4)] [[.view]]] [2, 3, 20] [1, 2] (s' := ⟨[(2, (.v (.one (.ptr 1 0)))), (3, (.v (.one (.ptr 2 0)))), (20, (.v (.one (.c (.bool (!v4))))))], [(1, (.box [(.c (.flt .f32 a0.X.bits)), (.c (.flt .f32 a0.Y.bits)), (.c (.flt .f32 a0.Z.bits))])), (2, (.box [(.c (.flt .f32 a1.X.bits)), (.c (.flt .f32 a1.Y.bits)), (.c (.flt .f32 a1.Z.bits))]))]⟩) (ob := True ∧ True ∧ ((convBits .f32 a0.Y.bits .f64).isSome = true) ∧ True ∧ True ∧ ((convBits .f32 a1.Y.bits .f64).isSome = true) ∧ (((((.flt .f64 (Fl.cv .f32 .f64 a0.Y).bits) : C) = (.flt .f64 (Fl.cv .f32 .f64 a0.Y).bits)) ∧ (((.flt .f64 (Fl.cv .f32 .f64 a1.Y).bits) : C) = (.flt .f64 (Fl.cv .f32 .f64 a1.Y).bits)) ∧ True) ∧ CallOK Try.prog 98 [.one (.flt .f64 (Fl.cv .f32 .f64 a0.Y).bits), .one (.flt .f64 (Fl.cv .f32 .f64 a1.Y).bits)] [.one (.bool v4)]) ∧ True ∧ True) (by kernel_rfl) ⟨trivial, trivial, cv_wide a0.Y, trivial, trivial, cv_wide a1.Y, ⟨⟨rfl, rfl, trivial⟩, ok_laws_sameFloat K (Fl.cv .f32 .f64 a0.Y) (Fl.cv .f32 .f64 a1.Y) v4 e5⟩, trivial, trivial⟩ ?_
    refine thenQ_normal ?_
    rcases ite2_cases h with ⟨b6, h⟩ | ⟨b6, h⟩
    · refine AW.cond_t rfl b6 ?_
      refine AW.seq ?_
      refine AW.regionA [] [4] [] (s' := ⟨[(4, (.v (.one (.c (.bool false)))))], []⟩) (ob := True ∧ True) (by kernel_rfl) ⟨trivial, trivial⟩ ?_
      refine thenQ_normal ?_
      refine AW.ret ?_
      refine thenQ_ret ?_
      replace h := some_eq h
      subst h
      exact ⟨.inr rfl, retOK_of [(.one (.c (.bool false)))] (by kernel_rfl) ⟨⟨rfl, trivial⟩, trivial⟩ (of_decide_eq_true (by kernel_rfl))⟩
    · refine AW.cond_f rfl b6 ?_
      refine AW.skip ?_
      refine thenQ_normal ?_
      refine AW.seq ?_
      refine AW.seq ?_
      obtain ⟨v7, e8, h⟩ := bind_some h
      refine AW.regionA [.no, .no, .no, .no, .no, .no, .call [.one (.flt .f64 (Fl.cv .f32 .f64 a0.Z).bits), .one (.flt .f64 (Fl.cv .f32 .f64 a1.Z).bits)] [.one (.bool v7)] [[.view]]] [28] [] (s' := ⟨[(28, (.v (.one (.c (.bool (!v7))))))], []⟩) (ob := True ∧ True ∧ ((convBits .f32 a0.Z.bits .f64).isSome = true) ∧ True ∧ True ∧ ((convBits .f32 a1.Z.bits .f64).isSome = true) ∧ (((((.flt .f64 (Fl.cv .f32 .f64 a0.Z).bits) : C) = (.flt .f64 (Fl.cv .f32 .f64 a0.Z).bits)) ∧ (((.flt .f64 (Fl.cv .f32 .f64 a1.Z).bits) : C) = (.flt .f64 (Fl.cv .f32 .f64 a1.Z).bits)) ∧ True) ∧ CallOK Try.prog 98 [.one (.flt .f64 (Fl.cv .f32 .f64 a0.Z).bits), .one (.flt .f64 (Fl.cv .f32 .f64 a1.Z).bits)] [.one (.bool v7)]) ∧ True ∧ True) (by kernel_rfl) ⟨trivial, trivial, cv_wide a0.Z, trivial, trivial, cv_wide a1.Z, ⟨⟨rfl, rfl, trivial⟩, ok_laws_sameFloat K (Fl.cv .f32 .f64 a0.Z) (Fl.cv .f32 .f64 a1.Z) v7 e8⟩, trivial, trivial⟩ ?_
      refine thenQ_normal ?_
      rcases ite2_cases h with ⟨b9, h⟩ | ⟨b9, h⟩
      · refine AW.cond_t rfl b9 ?_
        refine AW.seq ?_
        refine AW.regionA [] [4] [] (s' := ⟨[(4, (.v (.one (.c (.bool false)))))], []⟩) (ob := True ∧ True) (by kernel_rfl) ⟨trivial, trivial⟩ ?_
        refine thenQ_normal ?_
        refine AW.ret ?_
        refine thenQ_ret ?_
        replace h := some_eq h
        subst h
        exact ⟨.inr rfl, retOK_of [(.one (.c (.bool false)))] (by kernel_rfl) ⟨⟨rfl, trivial⟩, trivial⟩ (of_decide_eq_true (by kernel_rfl))⟩
      · refine AW.cond_f rfl b9 ?_
        refine AW.skip ?_
        refine thenQ_normal ?_
        refine AW.seq ?_
        refine AW.regionA [] [4] [] (s' := ⟨[(4, (.v (.one (.c (.bool true)))))], []⟩) (ob := True ∧ True) (by kernel_rfl) ⟨trivial, trivial⟩ ?_
        refine thenQ_normal ?_
        refine AW.ret ?_
        replace h := some_eq h
        subst h
        exact ⟨.inr rfl, retOK_of [(.one (.c (.bool true)))] (by kernel_rfl) ⟨⟨rfl, trivial⟩, trivial⟩ (of_decide_eq_true (by kernel_rfl))⟩

/-! laws.eqTurn -/
def laws_eqTurn (K : Nat) (a0 : Turn) (a1 : Turn) : Option (Bool) :=
  (laws_sameFloat K (Fl.cv .f32 .f64 a0.W) (Fl.cv .f32 .f64 a1.W)).bind fun v1 => ite2 ((!v1)) (some false) ((laws_sameFloat K (Fl.cv .f32 .f64 a0.X) (Fl.cv .f32 .f64 a1.X)).bind fun v4 => ite2 ((!v4)) (some false) ((laws_sameFloat K (Fl.cv .f32 .f64 a0.Y) (Fl.cv .f32 .f64 a1.Y)).bind fun v7 => ite2 ((!v7)) (some false) ((laws_sameFloat K (Fl.cv .f32 .f64 a0.Z) (Fl.cv .f32 .f64 a1.Z)).bind fun v10 => ite2 ((!v10)) (some false) (some true))))

theorem ok_laws_eqTurn (K : Nat) (a0 : Turn) (a1 : Turn) (o : (Bool)) (h : laws_eqTurn K a0 a1 = some o) : CallOK Try.prog 131 [.agg (cs_Turn a0), .agg (cs_Turn a1)] [.one (.bool o)] := by
  refine callOK_of_AW Try.func131 rfl (by kernel_rfl) (Nat.le_of_ble_eq_true (by kernel_rfl)) ?_
  intro w0
  unfold laws_eqTurn at h
  refine AW.seq ?_
  refine AW.regionA [.box 1, .box 2] [2, 3] [1, 2] (s' := ⟨[(2, (.v (.one (.ptr 1 0)))), (3, (.v (.one (.ptr 2 0))))], [(1, (.box [(.c (.flt .f32 a0.W.bits)), (.c (.flt .f32 a0.X.bits)), (.c (.flt .f32 a0.Y.bits)), (.c (.flt .f32 a0.Z.bits))])), (2, (.box [(.c (.flt .f32 a1.W.bits)), (.c (.flt .f32 a1.X.bits)), (.c (.flt .f32 a1.Y.bits)), (.c (.flt .f32 a1.Z.bits))]))]⟩) (ob := True ∧ True ∧ True ∧ True) (by kernel_rfl) ⟨trivial, trivial, trivial, trivial⟩ ?_
  refine thenQ_normal ?_
  refine AW.seq ?_
  refine AW.seq ?_
  obtain ⟨v1, e2, h⟩ := bind_some h
  refine AW.regionA [.no, .no, .no, .no, .no, .no, .call [.one (.flt .f64 (Fl.cv .f32 .f64 a0.W).bits), .one (.flt .f64 (Fl.cv .f32 .f64 a1.W).bits)] [.one (.bool v1)] [[.view]]] [2, 3, 12] [1, 2] (s' := ⟨[(2, (.v (.one (.ptr 1 0)))), (3, (.v (.one (.ptr 2 0)))), (12, (.v (.one (.c (.bool (!v1))))))], [(1, (.box [(.c (.flt .f32 a0.W.bits)), (.c (.flt .f32 a0.X.bits)), (.c (.flt .f32 a0.Y.bits)), (.c (.flt .f32 a0.Z.bits))])), (2, (.box [(.c (.flt .f32 a1.W.bits)), (.c (.flt .f32 a1.X.bits)), (.c (.flt .f32 a1.Y.bits)), (.c (.flt .f32 a1.Z.bits))]))]⟩) (ob := True ∧ True ∧ ((convBits .f32 a0.W.bits .f64).isSome = true) ∧ True ∧ True ∧ ((convBits .f32 a1.W.bits .f64).isSome = true) ∧ (((((.flt .f64 (Fl.cv .f32 .f64 a0.W).bits) : C) = (.flt .f64 (Fl.cv .f32 .f64 a0.W).bits)) ∧ (((.flt .f64 (Fl.cv .f32 .f64 a1.W).bits) : C) = (.flt .f64 (Fl.cv .f32 .f64 a1.W).bits)) ∧ True) ∧ CallOK Try.prog 98 [.one (.flt .f64 (Fl.cv .f32 .f64 a0.W).bits), .one (.flt .f64 (Fl.cv .f32 .f64 a1.W).bits)] [.one (.bool v1)]) ∧ True ∧ True) (by kernel_rfl) ⟨trivial, trivial, cv_wide a0.W, trivial, trivial, cv_wide a1.W, ⟨⟨rfl, rfl, trivial⟩, ok_laws_sameFloat K (Fl.cv .f32 .f64 a0.W) (Fl.cv .f32 .f64 a1.W) v1 e2⟩, trivial, trivial⟩ ?_
  refine thenQ_normal ?_
  rcases ite2_cases h with ⟨b3, h⟩ | ⟨b3, h⟩
  · refine AW.cond_t rfl b3 ?_
    refine AW.seq ?_
    refine AW.regionA [] [4] [] (s' := ⟨[(4, (.v (.one (.c (.bool false)))))], []⟩) (ob := True ∧ True) (by kernel_rfl) ⟨trivial, trivial⟩ ?_
    refine thenQ_normal ?_
    refine AW.ret ?_
    refine thenQ_ret ?_
    replace h := some_eq h
    subst h
    exact ⟨.inr rfl, retOK_of [(.one (.c (.bool false)))] (by kernel_rfl) ⟨⟨rfl, trivial⟩, trivial⟩ (of_decide_eq_true (by kernel_rfl))⟩
  · refine AW.cond_f rfl b3 ?_
    refine AW.skip ?_
    refine thenQ_normal ?_
    refine AW.seq ?_
    refine AW.seq ?_
    obtain ⟨v4, e5, h⟩ := bind_some h
    refine AW.regionA [.no, .no, .no, .no, .no, .no, .call [.one (.flt .f64 (Fl.cv .f32 .f64 a0.X).bits), .one (.flt .f64 (Fl.cv .f32 .f64 a1.X).bits)] [.one (.bool v4)] [[.view]]] [2, 3, 20] [1, 2] (s' := ⟨[(2, (.v (.one (.ptr 1 0)))), (3, (.v (.one (.ptr 2 0)))), (20, (.v (.one (.c (.bool (!v4))))))], [(1, (.box [(.c (.flt .f32 a0.W.bits)), (.c (.flt .f32 a0.X.bits)), (.c (.flt .f32 a0.Y.bits)), (.c (.flt .f32 a0.Z.bits))])), (2, (.box [(.c (.flt .f32 a1.W.bits)), (.c (.flt .f32 a1.X.bits)), (.c (.flt .f32 a1.Y.bits)), (.c (.flt .f32 a1.Z.bits))]))]⟩) (ob := True ∧ True ∧ ((convBits .f32 a0.X.bits .f64).isSome = true) ∧ True ∧ True ∧ ((convBits .f32 a1.X.bits .f64).isSome = true) ∧ (((((.flt .f64 (Fl.cv .f32 .f64 a0.X).bits) : C) = (.flt .f64 (Fl.cv .f32 .f64 a0.X).bits)) ∧ (((.flt .f64 (Fl.cv .f32 .f64 a1.X).bits) : C) = (.flt .f64 (Fl.cv .f32 .f64 a1.X).bits)) ∧ True) ∧ CallOK Try.prog 98 [.one (.flt .f64 (Fl.cv .f32 .f64 a0.X).bits), .one (.flt .f64 (Fl.cv .f32 .f64 a1.X).bits)] [.one (.bool v4)]) ∧ True ∧ True) (by kernel_rfl) ⟨trivial, trivial, cv_wide a0.X, trivial, trivial, cv_wide a1.X, ⟨⟨rfl, rfl, trivial⟩, ok_laws_sameFloat K (Fl.cv .f32 .f64 a0.X) (Fl.cv .f32 .f64 a1.X) v4 e5⟩, trivial, trivial⟩ ?_
    refine thenQ_normal ?_
    rcases ite2_cases h with ⟨b6, h⟩ | ⟨b6, h⟩
    · refine AW.cond_t rfl b6 ?_
      refine AW.seq ?_
      refine AW.regionA [] [4] [] (s' := ⟨[(4, (.v (.one (.c (.bool false)))))], []⟩) (ob := True ∧ True) (by kernel_rfl) ⟨trivial, trivial⟩ ?_
      refine thenQ_normal ?_
      refine AW.ret ?_
      refine thenQ_ret ?_
      replace h := some_eq h
      subst h
      exact ⟨.inr rfl, retOK_of [(.one (.c (.bool false)))] (by kernel_rfl) ⟨⟨rfl, trivial⟩, trivial⟩ (of_decide_eq_true (by kernel_rfl))⟩
    · refine AW.cond_f rfl b6 ?_
      refine AW.skip ?_
      refine thenQ_normal ?_
      refine AW.seq ?_
      refine AW.seq ?_
      obtain ⟨v7, e8, h⟩ := bind_some h
      refine AW.regionA [.no, .no, .no, .no, .no, .no, .call [.one (.flt .f64 (Fl.cv .f32 .f64 a0.Y).bits), .one (.flt .f64 (Fl.cv .f32 .f64 a1.Y).bits)] [.one (.bool v7)] [[.view]]] [2, 3, 28] [1, 2] (s' := ⟨[(2, (.v (.one (.ptr 1 0)))), (3, (.v (.one (.ptr 2 0)))), (28, (.v (.one (.c (.bool (!v7))))))], [(1, (.box [(.c (.flt .f32 a0.W.bits)), (.c (.flt .f32 a0.X.bits)), (.c (.flt .f32 a0.Y.bits)), (.c (.flt .f32 a0.Z.bits))])), (2, (.box [(.c (.flt .f32 a1.W.bits)), (.c (.flt .f32 a1.X.bits)), (.c (.flt .f32 a1.Y.bits)), (.c (.flt .f32 a1.Z.bits))]))]⟩) (ob := True ∧ True ∧ ((convBits .f32 a0.Y.bits .f64).isSome = true) ∧ True ∧ True ∧ ((convBits .f32 a1.Y.bits .f64).isSome = true) ∧ (((((.flt .f64 (Fl.cv .f32 .f64 a0.Y).bits) : C) = (.flt .f64 (Fl.cv .f32 .f64 a0.Y).bits)) ∧ (((.flt .f64 (Fl.cv .f32 .f64 a1.Y).bits) : C) = (.flt .f64 (Fl.cv .f32 .f64 a1.Y).bits)) ∧ True) ∧ CallOK Try.prog 98 [.one (.flt .f64 (Fl.cv .f32 .f64 a0.Y).bits), .one (.flt .f64 (Fl.cv .f32 .f64 a1.Y).bits)] [.one (.bool v7)]) ∧ True ∧ True) (by kernel_rfl) ⟨trivial, trivial, cv_wide a0.Y, trivial, trivial, cv_wide a1.Y, ⟨⟨rfl, rfl, trivial⟩, ok_laws_sameFloat K (Fl.cv .f32 .f64 a0.Y) (Fl.cv .f32 .f64 a1.Y) v7 e8⟩, trivial, trivial⟩ ?_
      refine thenQ_normal ?_
      rcases ite2_cases h with ⟨b9, h⟩ | ⟨b9, h⟩
      · refine AW.cond_t rfl b9 ?_
        refine AW.seq ?_
        refine AW.regionA [] [4] [] (s' := ⟨[(4, (.v (.one (.c (.bool false)))))], []⟩) (ob := True ∧ True) (by kernel_rfl) ⟨trivial, trivial⟩ ?_
        refine thenQ_normal ?_
        refine AW.ret ?_
        refine thenQ_ret ?_
        replace h := some_eq h
        subst h
        exact ⟨.inr rfl, retOK_of [(.one (.c (.bool false)))] (by kernel_rfl) ⟨⟨rfl, trivial⟩, trivial⟩ (of_decide_eq_true (by kernel_rfl))⟩
      · refine AW.cond_f rfl b9 ?_
        refine AW.skip ?_
        refine thenQ_normal ?_
        refine AW.seq ?_
        refine AW.seq ?_
        obtain ⟨v10, e11, h⟩ := bind_some h
        refine AW.regionA [.no, .no, .no, .no, .no, .no, .call [.one (.flt .f64 (Fl.cv .f32 .f64 a0.Z).bits), .one (.flt .f64 (Fl.cv .f32 .f64 a1.Z).bits)] [.one (.bool v10)] [[.view]]] [36] [] (s' := ⟨[(36, (.v (.one (.c (.bool (!v10))))))], []⟩) (ob := True ∧ True ∧ ((convBits .f32 a0.Z.bits .f64).isSome = true) ∧ True ∧ True ∧ ((convBits .f32 a1.Z.bits .f64).isSome = true) ∧ (((((.flt .f64 (Fl.cv .f32 .f64 a0.Z).bits) : C) = (.flt .f64 (Fl.cv .f32 .f64 a0.Z).bits)) ∧ (((.flt .f64 (Fl.cv .f32 .f64 a1.Z).bits) : C) = (.flt .f64 (Fl.cv .f32 .f64 a1.Z).bits)) ∧ True) ∧ CallOK Try.prog 98 [.one (.flt .f64 (Fl.cv .f32 .f64 a0.Z).bits), .one (.flt .f64 (Fl.cv .f32 .f64 a1.Z).bits)] [.one (.bool v10)]) ∧ True ∧ True) (by kernel_rfl) ⟨trivial, trivial, cv_wide a0.Z, trivial, trivial, cv_wide a1.Z, ⟨⟨rfl, rfl, trivial⟩, ok_laws_sameFloat K (Fl.cv .f32 .f64 a0.Z) (Fl.cv .f32 .f64 a1.Z) v10 e11⟩, trivial, trivial⟩ ?_
        refine thenQ_normal ?_
        rcases ite2_cases h with ⟨b12, h⟩ | ⟨b12, h⟩
        · refine AW.cond_t rfl b12 ?_
          refine AW.seq ?_
          refine AW.regionA [] [4] [] (s' := ⟨[(4, (.v (.one (.c (.bool false)))))], []⟩) (ob := True ∧ True) (by kernel_rfl) ⟨trivial, trivial⟩ ?_
          refine thenQ_normal ?_
          refine AW.ret ?_
          refine thenQ_ret ?_
          replace h := some_eq h
          subst h
          exact ⟨.inr rfl, retOK_of [(.one (.c (.bool false)))] (by kernel_rfl) ⟨⟨rfl, trivial⟩, trivial⟩ (of_decide_eq_true (by kernel_rfl))⟩
        · refine AW.cond_f rfl b12 ?_
          refine AW.skip ?_
          refine thenQ_normal ?_
          refine AW.seq ?_
          refine AW.regionA [] [4] [] (s' := ⟨[(4, (.v (.one (.c (.bool true)))))], []⟩) (ob := True ∧ True) (by kernel_rfl) ⟨trivial, trivial⟩ ?_
          refine thenQ_normal ?_
          refine AW.ret ?_
          replace h := some_eq h
          subst h
          exact ⟨.inr rfl, retOK_of [(.one (.c (.bool true)))] (by kernel_rfl) ⟨⟨rfl, trivial⟩, trivial⟩ (of_decide_eq_true (by kernel_rfl))⟩

/-! laws.eqTurnS -/
def laws_eqTurnS_l1 (K : Nat) (a0 : (List Turn)) (a1 : (List Turn)) : Nat → Int → Option (Bool)
  | 0, _ => none
  | k + 1, x3 => ite2 ((decide (x3 < (a0.length : Int)))) (chk (0 ≤ x3 ∧ x3 < (a0.length : Int)) (chk (0 ≤ x3 ∧ x3 < (a1.length : Int)) ((laws_eqTurn K (a0.getD x3.toNat default) (a1.getD x3.toNat default)).bind fun v7 => ite2 ((!v7)) (some false) (laws_eqTurnS_l1 K a0 a1 k (IntKind.i64.wrap (x3 + (1 : Int))))))) (some true)

def laws_eqTurnS (K : Nat) (a0 : (List Turn)) (a1 : (List Turn)) : Option (Bool) :=
  ite2 (((a0.length : Int) != (a1.length : Int))) (some false) (laws_eqTurnS_l1 K a0 a1 K (0 : Int))

theorem ok_laws_eqTurnS (K : Nat) (a0 : (List Turn)) (a1 : (List Turn)) (o : (Bool)) (h : laws_eqTurnS K a0 a1 = some o) : CallOK Try.prog 91 [.one (sl 4 cs_Turn a0), .one (sl 4 cs_Turn a1)] [.one (.bool o)] := by
  refine callOK_of_AW Try.func91 rfl (by kernel_rfl) (Nat.le_of_ble_eq_true (by kernel_rfl)) ?_
  intro w0
  unfold laws_eqTurnS at h
  refine AW.seq ?_
  refine AW.regionA [] [0, 1] [] (s' := ⟨[(0, (.v (.one (.c (sl 4 cs_Turn a0))))), (1, (.v (.one (.c (sl 4 cs_Turn a1)))))], []⟩) (ob := True ∧ True) (by kernel_rfl) ⟨trivial, trivial⟩ ?_
  refine thenQ_normal ?_
  refine AW.seq ?_
  refine AW.seq ?_
  refine AW.regionA [] [0, 1, 10] [] (s' := ⟨[(0, (.v (.one (.c (sl 4 cs_Turn a0))))), (1, (.v (.one (.c (sl 4 cs_Turn a1))))), (10, (.v (.one (.c (.bool ((a0.length : Int) != (a1.length : Int)))))))], []⟩) (ob := True ∧ True ∧ True ∧ True ∧ True ∧ True) (by kernel_rfl) ⟨trivial, trivial, trivial, trivial, trivial, trivial⟩ ?_
  refine thenQ_normal ?_
  rcases ite2_cases h with ⟨b1, h⟩ | ⟨b1, h⟩
  · refine AW.cond_t rfl b1 ?_
    refine AW.seq ?_
    refine AW.regionA [] [4] [] (s' := ⟨[(4, (.v (.one (.c (.bool false)))))], []⟩) (ob := True ∧ True) (by kernel_rfl) ⟨trivial, trivial⟩ ?_
    refine thenQ_normal ?_
    refine AW.ret ?_
    refine thenQ_ret ?_
    replace h := some_eq h
    subst h
    exact ⟨.inr rfl, retOK_of [(.one (.c (.bool false)))] (by kernel_rfl) ⟨⟨rfl, trivial⟩, trivial⟩ (of_decide_eq_true (by kernel_rfl))⟩
  · refine AW.cond_f rfl b1 ?_
    refine AW.skip ?_
    refine thenQ_normal ?_
    refine AW.seq ?_
    refine AW.seq ?_
    refine AW.regionA [] [0, 1, 5] [] (s' := ⟨[(0, (.v (.one (.c (sl 4 cs_Turn a0))))), (1, (.v (.one (.c (sl 4 cs_Turn a1))))), (5, (.v (.one (.c (.int .i64 (0 : Int))))))], []⟩) (ob := True ∧ True) (by kernel_rfl) ⟨trivial, trivial⟩ ?_
    refine thenQ_normal ?_
    refine AW.block ?_
    refine AW.loopQ (σ := Nat × Int) (fun p => ⟨[(0, (.v (.one (.c (sl 4 cs_Turn a0))))), (1, (.v (.one (.c (sl 4 cs_Turn a1))))), (5, (.v (.one (.c (.int .i64 p.2)))))], []⟩) (fun p => laws_eqTurnS_l1 K a0 a1 p.1 p.2 = some o) (fun p => p.1) (K, (0 : Int)) h ?_
    clear h
    rintro ⟨k, x3⟩ h
    replace h : laws_eqTurnS_l1 K a0 a1 k x3 = some o := h
    show AW _ _ (⟨[(0, (.v (.one (.c (sl 4 cs_Turn a0))))), (1, (.v (.one (.c (sl 4 cs_Turn a1))))), (5, (.v (.one (.c (.int .i64 x3)))))], []⟩ : St) _
    obtain _ | k := k
    · rw [laws_eqTurnS_l1] at h; cases h
    rw [laws_eqTurnS_l1] at h
    refine AW.seq ?_
    refine AW.seq ?_
    refine AW.regionA [] [0, 1, 5, 14] [] (s' := ⟨[(0, (.v (.one (.c (sl 4 cs_Turn a0))))), (1, (.v (.one (.c (sl 4 cs_Turn a1))))), (5, (.v (.one (.c (.int .i64 x3))))), (14, (.v (.one (.c (.bool (decide (x3 < (a0.length : Int))))))))], []⟩) (ob := True ∧ True ∧ True ∧ True ∧ True) (by kernel_rfl) ⟨trivial, trivial, trivial, trivial, trivial⟩ ?_
    refine thenQ_normal ?_
    rcases ite2_cases h with ⟨b4, h⟩ | ⟨b4, h⟩
    · refine AW.cond_t rfl b4 ?_
      refine AW.skip ?_
      refine thenQ_normal ?_
      refine AW.seq ?_
      refine AW.block ?_
      refine AW.seq ?_
      obtain ⟨c5, h⟩ := chk_some h
      obtain ⟨c6, h⟩ := chk_some h
      obtain ⟨v7, e8, h⟩ := bind_some h
      refine AW.drawnA (by kernel_rfl) 10 [.no, .no, .no, .no, .no, .no, .no, .no, .call [.agg (cs_Turn (a0.getD x3.toNat default)), .agg (cs_Turn (a1.getD x3.toNat default))] [.one (.bool v7)] [[.view]]] [0, 1, 5, 26] [] (s' := ⟨[(0, (.v (.one (.c (sl 4 cs_Turn a0))))), (1, (.v (.one (.c (sl 4 cs_Turn a1))))), (5, (.v (.one (.c (.int .i64 x3))))), (26, (.v (.one (.c (.bool (!v7))))))], []⟩) (ob := (True ∧ True ∧ (0 ≤ x3 ∧ x3 < (a0.length : Int)) ∧ True ∧ True ∧ True ∧ (0 ≤ x3 ∧ x3 < (a1.length : Int)) ∧ True ∧ ((((((.flt .f32 ((a0.getD x3.toNat default).W).bits) : C) = (.flt .f32 ((a0.getD x3.toNat default).W).bits)) ∧ (((.flt .f32 ((a0.getD x3.toNat default).X).bits) : C) = (.flt .f32 ((a0.getD x3.toNat default).X).bits)) ∧ (((.flt .f32 ((a0.getD x3.toNat default).Y).bits) : C) = (.flt .f32 ((a0.getD x3.toNat default).Y).bits)) ∧ (((.flt .f32 ((a0.getD x3.toNat default).Z).bits) : C) = (.flt .f32 ((a0.getD x3.toNat default).Z).bits)) ∧ True) ∧ ((((.flt .f32 ((a1.getD x3.toNat default).W).bits) : C) = (.flt .f32 ((a1.getD x3.toNat default).W).bits)) ∧ (((.flt .f32 ((a1.getD x3.toNat default).X).bits) : C) = (.flt .f32 ((a1.getD x3.toNat default).X).bits)) ∧ (((.flt .f32 ((a1.getD x3.toNat default).Y).bits) : C) = (.flt .f32 ((a1.getD x3.toNat default).Y).bits)) ∧ (((.flt .f32 ((a1.getD x3.toNat default).Z).bits) : C) = (.flt .f32 ((a1.getD x3.toNat default).Z).bits)) ∧ True) ∧ True) ∧ CallOK Try.prog 131 [.agg (cs_Turn (a0.getD x3.toNat default)), .agg (cs_Turn (a1.getD x3.toNat default))] [.one (.bool v7)]) ∧ True ∧ True) ∧ (True)) (by kernel_rfl) ⟨⟨trivial, trivial, c5, trivial, trivial, trivial, c6, trivial, ⟨⟨⟨rfl, rfl, rfl, rfl, trivial⟩, ⟨rfl, rfl, rfl, rfl, trivial⟩, trivial⟩, ok_laws_eqTurn K (a0.getD x3.toNat default) (a1.getD x3.toNat default) v7 e8⟩, trivial, trivial⟩, trivial⟩ ?_
      refine thenQ_normal ?_
      rcases ite2_cases h with ⟨b9, h⟩ | ⟨b9, h⟩
      · refine AW.cond_t rfl b9 ?_
        refine AW.seq ?_
        refine AW.regionA [] [4] [] (s' := ⟨[(4, (.v (.one (.c (.bool false)))))], []⟩) (ob := True ∧ True) (by kernel_rfl) ⟨trivial, trivial⟩ ?_
        refine thenQ_normal ?_
        refine AW.ret ?_
        refine blockQ_ret ?_
        refine thenQ_ret ?_
        refine loopQ_ret ?_
        refine blockQ_ret ?_
        refine thenQ_ret ?_
        replace h := some_eq h
        subst h
        exact ⟨.inr rfl, retOK_of [(.one (.c (.bool false)))] (by kernel_rfl) ⟨⟨rfl, trivial⟩, trivial⟩ (of_decide_eq_true (by kernel_rfl))⟩
      · refine AW.cond_f rfl b9 ?_
        refine AW.skip ?_
        refine blockQ_normal ?_
        refine thenQ_normal ?_
        refine AW.regionA [] [0, 1, 5] [] (s' := ⟨[(0, (.v (.one (.c (sl 4 cs_Turn a0))))), (1, (.v (.one (.c (sl 4 cs_Turn a1))))), (5, (.v (.one (.c (.int .i64 (IntKind.i64.wrap (x3 + (1 : Int))))))))], []⟩) (ob := True ∧ True ∧ True ∧ True) (by kernel_rfl) ⟨trivial, trivial, trivial, trivial⟩ ?_
        exact loopQ_normal (k, (IntKind.i64.wrap (x3 + (1 : Int)))) h (Nat.lt_succ_self k) (Sub.keep [0, 1, 5] [] (by kernel_rfl) (by kernel_rfl))
    · refine AW.cond_f rfl b4 ?_
      refine AW.exit ?_
      refine thenQ_exit ?_
      refine loopQ_exit ?_
      refine blockQ_exit ?_
      refine thenQ_normal ?_
      refine AW.seq ?_
      refine AW.regionA [] [4] [] (s' := ⟨[(4, (.v (.one (.c (.bool true)))))], []⟩) (ob := True ∧ True) (by kernel_rfl) ⟨trivial, trivial⟩ ?_
      refine thenQ_normal ?_
      refine AW.ret ?_
      replace h := some_eq h
      subst h
      exact ⟨.inr rfl, retOK_of [(.one (.c (.bool true)))] (by kernel_rfl) ⟨⟨rfl, trivial⟩, trivial⟩ (of_decide_eq_true (by kernel_rfl))⟩

/-! laws.eqPose -/
def laws_eqPose (K : Nat) (a0 : Pose) (a1 : Pose) : Option (Bool) :=
  (laws_eqVector K a0.Root a1.Root).bind fun v1 => ite2 ((!v1)) (some false) ((laws_eqTurnS K a0.Turns a1.Turns).bind fun v4 => ite2 ((!v4)) (some false) (some true))

theorem ok_laws_eqPose (K : Nat) (a0 : Pose) (a1 : Pose) (o : (Bool)) (h : laws_eqPose K a0 a1 = some o) : CallOK Try.prog 36 [.agg (cs_Pose a0), .agg (cs_Pose a1)] [.one (.bool o)] := by
  refine callOK_of_AW Try.func36 rfl (by kernel_rfl) (Nat.le_of_ble_eq_true (by kernel_rfl)) ?_
  intro w0
  unfold laws_eqPose at h
  refine AW.seq ?_
  refine AW.regionA [.box 1, .box 2] [2, 3] [1, 2] (s' := ⟨[(2, (.v (.one (.ptr 1 0)))), (3, (.v (.one (.ptr 2 0))))], [(1, (.box [(.c (.flt .f32 a0.Root.X.bits)), (.c (.flt .f32 a0.Root.Y.bits)), (.c (.flt .f32 a0.Root.Z.bits)), (.c (sl 4 cs_Turn a0.Turns))])), (2, (.box [(.c (.flt .f32 a1.Root.X.bits)), (.c (.flt .f32 a1.Root.Y.bits)), (.c (.flt .f32 a1.Root.Z.bits)), (.c (sl 4 cs_Turn a1.Turns))]))]⟩) (ob := True ∧ True ∧ True ∧ True) (by kernel_rfl) ⟨trivial, trivial, trivial, trivial⟩ ?_
  refine thenQ_normal ?_
  refine AW.seq ?_
  refine AW.seq ?_
  obtain ⟨v1, e2, h⟩ := bind_some h
  refine AW.regionA [.no, .no, .no, .no, .call [.agg (cs_Vector a0.Root), .agg (cs_Vector a1.Root)] [.one (.bool v1)] [[.view]]] [2, 3, 10] [1, 2] (s' := ⟨[(2, (.v (.one (.ptr 1 0)))), (3, (.v (.one (.ptr 2 0)))), (10, (.v (.one (.c (.bool (!v1))))))], [(1, (.box [(.c (.flt .f32 a0.Root.X.bits)), (.c (.flt .f32 a0.Root.Y.bits)), (.c (.flt .f32 a0.Root.Z.bits)), (.c (sl 4 cs_Turn a0.Turns))])), (2, (.box [(.c (.flt .f32 a1.Root.X.bits)), (.c (.flt .f32 a1.Root.Y.bits)), (.c (.flt .f32 a1.Root.Z.bits)), (.c (sl 4 cs_Turn a1.Turns))]))]⟩) (ob := True ∧ True ∧ True ∧ True ∧ ((((((.flt .f32 a0.Root.X.bits) : C) = (.flt .f32 a0.Root.X.bits)) ∧ (((.flt .f32 a0.Root.Y.bits) : C) = (.flt .f32 a0.Root.Y.bits)) ∧ (((.flt .f32 a0.Root.Z.bits) : C) = (.flt .f32 a0.Root.Z.bits)) ∧ True) ∧ ((((.flt .f32 a1.Root.X.bits) : C) = (.flt .f32 a1.Root.X.bits)) ∧ (((.flt .f32 a1.Root.Y.bits) : C) = (.flt .f32 a1.Root.Y.bits)) ∧ (((.flt .f32 a1.Root.Z.bits) : C) = (.flt .f32 a1.Root.Z.bits)) ∧ True) ∧ True) ∧ CallOK Try.prog 90 [.agg (cs_Vector a0.Root), .agg (cs_Vector a1.Root)] [.one (.bool v1)]) ∧ True ∧ True) (by kernel_rfl) ⟨trivial, trivial, trivial, trivial, ⟨⟨⟨rfl, rfl, rfl, trivial⟩, ⟨rfl, rfl, rfl, trivial⟩, trivial⟩, ok_laws_eqVector K a0.Root a1.Root v1 e2⟩, trivial, trivial⟩ ?_
  refine thenQ_normal ?_
  rcases ite2_cases h with ⟨b3, h⟩ | ⟨b3, h⟩
  · refine AW.cond_t rfl b3 ?_
    refine AW.seq ?_
    refine AW.regionA [] [4] [] (s' := ⟨[(4, (.v (.one (.c (.bool false)))))], []⟩) (ob := True ∧ True) (by kernel_rfl) ⟨trivial, trivial⟩ ?_
    refine thenQ_normal ?_
    refine AW.ret ?_
    refine thenQ_ret ?_
    replace h := some_eq h
    subst h
    exact ⟨.inr rfl, retOK_of [(.one (.c (.bool false)))] (by kernel_rfl) ⟨⟨rfl, trivial⟩, trivial⟩ (of_decide_eq_true (by kernel_rfl))⟩
  · refine AW.cond_f rfl b3 ?_
    refine AW.skip ?_
    refine thenQ_normal ?_
    refine AW.seq ?_
    refine AW.seq ?_
    obtain ⟨v4, e5, h⟩ := bind_some h
    refine AW.regionA [.no, .no, .no, .no, .call [.one (sl 4 cs_Turn a0.Turns), .one (sl 4 cs_Turn a1.Turns)] [.one (.bool v4)] [[.view]]] [16] [] (s' := ⟨[(16, (.v (.one (.c (.bool (!v4))))))], []⟩) (ob := True ∧ True ∧ True ∧ True ∧ (((((sl 4 cs_Turn a0.Turns) : C) = (sl 4 cs_Turn a0.Turns)) ∧ (((sl 4 cs_Turn a1.Turns) : C) = (sl 4 cs_Turn a1.Turns)) ∧ True) ∧ CallOK Try.prog 91 [.one (sl 4 cs_Turn a0.Turns), .one (sl 4 cs_Turn a1.Turns)] [.one (.bool v4)]) ∧ True ∧ True) (by kernel_rfl) ⟨trivial, trivial, trivial, trivial, ⟨⟨rfl, rfl, trivial⟩, ok_laws_eqTurnS K a0.Turns a1.Turns v4 e5⟩, trivial, trivial⟩ ?_
    refine thenQ_normal ?_
    rcases ite2_cases h with ⟨b6, h⟩ | ⟨b6, h⟩
    · refine AW.cond_t rfl b6 ?_
      refine AW.seq ?_
      refine AW.regionA [] [4] [] (s' := ⟨[(4, (.v (.one (.c (.bool false)))))], []⟩) (ob := True ∧ True) (by kernel_rfl) ⟨trivial, trivial⟩ ?_
      refine thenQ_normal ?_
      refine AW.ret ?_
      refine thenQ_ret ?_
      replace h := some_eq h
      subst h
      exact ⟨.inr rfl, retOK_of [(.one (.c (.bool false)))] (by kernel_rfl) ⟨⟨rfl, trivial⟩, trivial⟩ (of_decide_eq_true (by kernel_rfl))⟩
    · refine AW.cond_f rfl b6 ?_
      refine AW.skip ?_
      refine thenQ_normal ?_
      refine AW.seq ?_
      refine AW.regionA [] [4] [] (s' := ⟨[(4, (.v (.one (.c (.bool true)))))], []⟩) (ob := True ∧ True) (by kernel_rfl) ⟨trivial, trivial⟩ ?_
      refine thenQ_normal ?_
      refine AW.ret ?_
      replace h := some_eq h
      subst h
      exact ⟨.inr rfl, retOK_of [(.one (.c (.bool true)))] (by kernel_rfl) ⟨⟨rfl, trivial⟩, trivial⟩ (of_decide_eq_true (by kernel_rfl))⟩

/-! laws.eqPoseS -/
def laws_eqPoseS_l1 (K : Nat) (a0 : (List Pose)) (a1 : (List Pose)) : Nat → Int → Option (Bool)
  | 0, _ => none
  | k + 1, x3 => ite2 ((decide (x3 < (a0.length : Int)))) (chk (0 ≤ x3 ∧ x3 < (a0.length : Int)) (chk (0 ≤ x3 ∧ x3 < (a1.length : Int)) ((laws_eqPose K (a0.getD x3.toNat default) (a1.getD x3.toNat default)).bind fun v7 => ite2 ((!v7)) (some false) (laws_eqPoseS_l1 K a0 a1 k (IntKind.i64.wrap (x3 + (1 : Int))))))) (some true)

def laws_eqPoseS (K : Nat) (a0 : (List Pose)) (a1 : (List Pose)) : Option (Bool) :=
  ite2 (((a0.length : Int) != (a1.length : Int))) (some false) (laws_eqPoseS_l1 K a0 a1 K (0 : Int))

theorem ok_laws_eqPoseS (K : Nat) (a0 : (List Pose)) (a1 : (List Pose)) (o : (Bool)) (h : laws_eqPoseS K a0 a1 = some o) : CallOK Try.prog 77 [.one (sl 4 cs_Pose a0), .one (sl 4 cs_Pose a1)] [.one (.bool o)] := by
  refine callOK_of_AW Try.func77 rfl (by kernel_rfl) (Nat.le_of_ble_eq_true (by kernel_rfl)) ?_
  intro w0
  unfold laws_eqPoseS at h
  refine AW.seq ?_
  refine AW.regionA [] [0, 1] [] (s' := ⟨[(0, (.v (.one (.c (sl 4 cs_Pose a0))))), (1, (.v (.one (.c (sl 4 cs_Pose a1)))))], []⟩) (ob := True ∧ True) (by kernel_rfl) ⟨trivial, trivial⟩ ?_
  refine thenQ_normal ?_
  refine AW.seq ?_
  refine AW.seq ?_
  refine AW.regionA [] [0, 1, 10] [] (s' := ⟨[(0, (.v (.one (.c (sl 4 cs_Pose a0))))), (1, (.v (.one (.c (sl 4 cs_Pose a1))))), (10, (.v (.one (.c (.bool ((a0.length : Int) != (a1.length : Int)))))))], []⟩) (ob := True ∧ True ∧ True ∧ True ∧ True ∧ True) (by kernel_rfl) ⟨trivial, trivial, trivial, trivial, trivial, trivial⟩ ?_
  refine thenQ_normal ?_
  rcases ite2_cases h with ⟨b1, h⟩ | ⟨b1, h⟩
  · refine AW.cond_t rfl b1 ?_
    refine AW.seq ?_
    refine AW.regionA [] [4] [] (s' := ⟨[(4, (.v (.one (.c (.bool false)))))], []⟩) (ob := True ∧ True) (by kernel_rfl) ⟨trivial, trivial⟩ ?_
    refine thenQ_normal ?_
    refine AW.ret ?_
    refine thenQ_ret ?_
    replace h := some_eq h
    subst h
    exact ⟨.inr rfl, retOK_of [(.one (.c (.bool false)))] (by kernel_rfl) ⟨⟨rfl, trivial⟩, trivial⟩ (of_decide_eq_true (by kernel_rfl))⟩
  · refine AW.cond_f rfl b1 ?_
    refine AW.skip ?_
    refine thenQ_normal ?_
    refine AW.seq ?_
    refine AW.seq ?_
    refine AW.regionA [] [0, 1, 5] [] (s' := ⟨[(0, (.v (.one (.c (sl 4 cs_Pose a0))))), (1, (.v (.one (.c (sl 4 cs_Pose a1))))), (5, (.v (.one (.c (.int .i64 (0 : Int))))))], []⟩) (ob := True ∧ True) (by kernel_rfl) ⟨trivial, trivial⟩ ?_
    refine thenQ_normal ?_
    refine AW.block ?_
    refine AW.loopQ (σ := Nat × Int) (fun p => ⟨[(0, (.v (.one (.c (sl 4 cs_Pose a0))))), (1, (.v (.one (.c (sl 4 cs_Pose a1))))), (5, (.v (.one (.c (.int .i64 p.2)))))], []⟩) (fun p => laws_eqPoseS_l1 K a0 a1 p.1 p.2 = some o) (fun p => p.1) (K, (0 : Int)) h ?_
    clear h
    rintro ⟨k, x3⟩ h
    replace h : laws_eqPoseS_l1 K a0 a1 k x3 = some o := h
    show AW _ _ (⟨[(0, (.v (.one (.c (sl 4 cs_Pose a0))))), (1, (.v (.one (.c (sl 4 cs_Pose a1))))), (5, (.v (.one (.c (.int .i64 x3)))))], []⟩ : St) _
    obtain _ | k := k
    · rw [laws_eqPoseS_l1] at h; cases h
    rw [laws_eqPoseS_l1] at h
    refine AW.seq ?_
    refine AW.seq ?_
    refine AW.regionA [] [0, 1, 5, 14] [] (s' := ⟨[(0, (.v (.one (.c (sl 4 cs_Pose a0))))), (1, (.v (.one (.c (sl 4 cs_Pose a1))))), (5, (.v (.one (.c (.int .i64 x3))))), (14, (.v (.one (.c (.bool (decide (x3 < (a0.length : Int))))))))], []⟩) (ob := True ∧ True ∧ True ∧ True ∧ True) (by kernel_rfl) ⟨trivial, trivial, trivial, trivial, trivial⟩ ?_
    refine thenQ_normal ?_
    rcases ite2_cases h with ⟨b4, h⟩ | ⟨b4, h⟩
    · refine AW.cond_t rfl b4 ?_
      refine AW.skip ?_
      refine thenQ_normal ?_
      refine AW.seq ?_
      refine AW.block ?_
      refine AW.seq ?_
      obtain ⟨c5, h⟩ := chk_some h
      obtain ⟨c6, h⟩ := chk_some h
      obtain ⟨v7, e8, h⟩ := bind_some h
      refine AW.drawnA (by kernel_rfl) 10 [.no, .no, .no, .no, .no, .no, .no, .no, .call [.agg (cs_Pose (a0.getD x3.toNat default)), .agg (cs_Pose (a1.getD x3.toNat default))] [.one (.bool v7)] [[.view]]] [0, 1, 5, 26] [] (s' := ⟨[(0, (.v (.one (.c (sl 4 cs_Pose a0))))), (1, (.v (.one (.c (sl 4 cs_Pose a1))))), (5, (.v (.one (.c (.int .i64 x3))))), (26, (.v (.one (.c (.bool (!v7))))))], []⟩) (ob := (True ∧ True ∧ (0 ≤ x3 ∧ x3 < (a0.length : Int)) ∧ True ∧ True ∧ True ∧ (0 ≤ x3 ∧ x3 < (a1.length : Int)) ∧ True ∧ ((((((.flt .f32 (((a0.getD x3.toNat default).Root).X).bits) : C) = (.flt .f32 (((a0.getD x3.toNat default).Root).X).bits)) ∧ (((.flt .f32 (((a0.getD x3.toNat default).Root).Y).bits) : C) = (.flt .f32 (((a0.getD x3.toNat default).Root).Y).bits)) ∧ (((.flt .f32 (((a0.getD x3.toNat default).Root).Z).bits) : C) = (.flt .f32 (((a0.getD x3.toNat default).Root).Z).bits)) ∧ (((sl 4 cs_Turn ((a0.getD x3.toNat default).Turns)) : C) = (sl 4 cs_Turn ((a0.getD x3.toNat default).Turns))) ∧ True) ∧ ((((.flt .f32 (((a1.getD x3.toNat default).Root).X).bits) : C) = (.flt .f32 (((a1.getD x3.toNat default).Root).X).bits)) ∧ (((.flt .f32 (((a1.getD x3.toNat default).Root).Y).bits) : C) = (.flt .f32 (((a1.getD x3.toNat default).Root).Y).bits)) ∧ (((.flt .f32 (((a1.getD x3.toNat default).Root).Z).bits) : C) = (.flt .f32 (((a1.getD x3.toNat default).Root).Z).bits)) ∧ (((sl 4 cs_Turn ((a1.getD x3.toNat default).Turns)) : C) = (sl 4 cs_Turn ((a1.getD x3.toNat default).Turns))) ∧ True) ∧ True) ∧ CallOK Try.prog 36 [.agg (cs_Pose (a0.getD x3.toNat default)), .agg (cs_Pose (a1.getD x3.toNat default))] [.one (.bool v7)]) ∧ True ∧ True) ∧ (True)) (by kernel_rfl) ⟨⟨trivial, trivial, c5, trivial, trivial, trivial, c6, trivial, ⟨⟨⟨rfl, rfl, rfl, rfl, trivial⟩, ⟨rfl, rfl, rfl, rfl, trivial⟩, trivial⟩, ok_laws_eqPose K (a0.getD x3.toNat default) (a1.getD x3.toNat default) v7 e8⟩, trivial, trivial⟩, trivial⟩ ?_
      refine thenQ_normal ?_
      rcases ite2_cases h with ⟨b9, h⟩ | ⟨b9, h⟩
      · refine AW.cond_t rfl b9 ?_
        refine AW.seq ?_
        refine AW.regionA [] [4] [] (s' := ⟨[(4, (.v (.one (.c (.bool false)))))], []⟩) (ob := True ∧ True) (by kernel_rfl) ⟨trivial, trivial⟩ ?_
        refine thenQ_normal ?_
        refine AW.ret ?_
        refine blockQ_ret ?_
        refine thenQ_ret ?_
        refine loopQ_ret ?_
        refine blockQ_ret ?_
        refine thenQ_ret ?_
        replace h := some_eq h
        subst h
        exact ⟨.inr rfl, retOK_of [(.one (.c (.bool false)))] (by kernel_rfl) ⟨⟨rfl, trivial⟩, trivial⟩ (of_decide_eq_true (by kernel_rfl))⟩
      · refine AW.cond_f rfl b9 ?_
        refine AW.skip ?_
        refine blockQ_normal ?_
        refine thenQ_normal ?_
        refine AW.regionA [] [0, 1, 5] [] (s' := ⟨[(0, (.v (.one (.c (sl 4 cs_Pose a0))))), (1, (.v (.one (.c (sl 4 cs_Pose a1))))), (5, (.v (.one (.c (.int .i64 (IntKind.i64.wrap (x3 + (1 : Int))))))))], []⟩) (ob := True ∧ True ∧ True ∧ True) (by kernel_rfl) ⟨trivial, trivial, trivial, trivial⟩ ?_
        exact loopQ_normal (k, (IntKind.i64.wrap (x3 + (1 : Int)))) h (Nat.lt_succ_self k) (Sub.keep [0, 1, 5] [] (by kernel_rfl) (by kernel_rfl))
    · refine AW.cond_f rfl b4 ?_
      refine AW.exit ?_
      refine thenQ_exit ?_
      refine loopQ_exit ?_
      refine blockQ_exit ?_
      refine thenQ_normal ?_
      refine AW.seq ?_
      refine AW.regionA [] [4] [] (s' := ⟨[(4, (.v (.one (.c (.bool true)))))], []⟩) (ob := True ∧ True) (by kernel_rfl) ⟨trivial, trivial⟩ ?_
      refine thenQ_normal ?_
      refine AW.ret ?_
      replace h := some_eq h
      subst h
      exact ⟨.inr rfl, retOK_of [(.one (.c (.bool true)))] (by kernel_rfl) ⟨⟨rfl, trivial⟩, trivial⟩ (of_decide_eq_true (by kernel_rfl))⟩

/-! laws.eqBone -/
def laws_eqBone (K : Nat) (a0 : Bone) (a1 : Bone) : Option (Bool) :=
  ite2 ((a0.Parent != a1.Parent)) (some false) ((laws_eqVector K a0.Offset a1.Offset).bind fun v2 => ite2 ((!v2)) (some false) (some true))

theorem ok_laws_eqBone (K : Nat) (a0 : Bone) (a1 : Bone) (o : (Bool)) (h : laws_eqBone K a0 a1 = some o) : CallOK Try.prog 171 [.agg (cs_Bone a0), .agg (cs_Bone a1)] [.one (.bool o)] := by
  refine callOK_of_AW Try.func171 rfl (by kernel_rfl) (Nat.le_of_ble_eq_true (by kernel_rfl)) ?_
  intro w0
  unfold laws_eqBone at h
  refine AW.seq ?_
  refine AW.regionA [.box 1, .box 2] [2, 3] [1, 2] (s' := ⟨[(2, (.v (.one (.ptr 1 0)))), (3, (.v (.one (.ptr 2 0))))], [(1, (.box [(.c (.int .i64 a0.Parent)), (.c (.flt .f32 a0.Offset.X.bits)), (.c (.flt .f32 a0.Offset.Y.bits)), (.c (.flt .f32 a0.Offset.Z.bits))])), (2, (.box [(.c (.int .i64 a1.Parent)), (.c (.flt .f32 a1.Offset.X.bits)), (.c (.flt .f32 a1.Offset.Y.bits)), (.c (.flt .f32 a1.Offset.Z.bits))]))]⟩) (ob := True ∧ True ∧ True ∧ True) (by kernel_rfl) ⟨trivial, trivial, trivial, trivial⟩ ?_
  refine thenQ_normal ?_
  refine AW.seq ?_
  refine AW.seq ?_
  refine AW.regionA [] [2, 3, 9] [1, 2] (s' := ⟨[(2, (.v (.one (.ptr 1 0)))), (3, (.v (.one (.ptr 2 0)))), (9, (.v (.one (.c (.bool (a0.Parent != a1.Parent))))))], [(1, (.box [(.c (.int .i64 a0.Parent)), (.c (.flt .f32 a0.Offset.X.bits)), (.c (.flt .f32 a0.Offset.Y.bits)), (.c (.flt .f32 a0.Offset.Z.bits))])), (2, (.box [(.c (.int .i64 a1.Parent)), (.c (.flt .f32 a1.Offset.X.bits)), (.c (.flt .f32 a1.Offset.Y.bits)), (.c (.flt .f32 a1.Offset.Z.bits))]))]⟩) (ob := True ∧ True ∧ True ∧ True ∧ True ∧ True) (by kernel_rfl) ⟨trivial, trivial, trivial, trivial, trivial, trivial⟩ ?_
  refine thenQ_normal ?_
  rcases ite2_cases h with ⟨b1, h⟩ | ⟨b1, h⟩
  · refine AW.cond_t rfl b1 ?_
    refine AW.seq ?_
    refine AW.regionA [] [4] [] (s' := ⟨[(4, (.v (.one (.c (.bool false)))))], []⟩) (ob := True ∧ True) (by kernel_rfl) ⟨trivial, trivial⟩ ?_
    refine thenQ_normal ?_
    refine AW.ret ?_
    refine thenQ_ret ?_
    replace h := some_eq h
    subst h
    exact ⟨.inr rfl, retOK_of [(.one (.c (.bool false)))] (by kernel_rfl) ⟨⟨rfl, trivial⟩, trivial⟩ (of_decide_eq_true (by kernel_rfl))⟩
  · refine AW.cond_f rfl b1 ?_
    refine AW.skip ?_
    refine thenQ_normal ?_
    refine AW.seq ?_
    refine AW.seq ?_
    obtain ⟨v2, e3, h⟩ := bind_some h
    refine AW.regionA [.no, .no, .no, .no, .call [.agg (cs_Vector a0.Offset), .agg (cs_Vector a1.Offset)] [.one (.bool v2)] [[.view]]] [15] [] (s' := ⟨[(15, (.v (.one (.c (.bool (!v2))))))], []⟩) (ob := True ∧ True ∧ True ∧ True ∧ ((((((.flt .f32 a0.Offset.X.bits) : C) = (.flt .f32 a0.Offset.X.bits)) ∧ (((.flt .f32 a0.Offset.Y.bits) : C) = (.flt .f32 a0.Offset.Y.bits)) ∧ (((.flt .f32 a0.Offset.Z.bits) : C) = (.flt .f32 a0.Offset.Z.bits)) ∧ True) ∧ ((((.flt .f32 a1.Offset.X.bits) : C) = (.flt .f32 a1.Offset.X.bits)) ∧ (((.flt .f32 a1.Offset.Y.bits) : C) = (.flt .f32 a1.Offset.Y.bits)) ∧ (((.flt .f32 a1.Offset.Z.bits) : C) = (.flt .f32 a1.Offset.Z.bits)) ∧ True) ∧ True) ∧ CallOK Try.prog 90 [.agg (cs_Vector a0.Offset), .agg (cs_Vector a1.Offset)] [.one (.bool v2)]) ∧ True ∧ True) (by kernel_rfl) ⟨trivial, trivial, trivial, trivial, ⟨⟨⟨rfl, rfl, rfl, trivial⟩, ⟨rfl, rfl, rfl, trivial⟩, trivial⟩, ok_laws_eqVector K a0.Offset a1.Offset v2 e3⟩, trivial, trivial⟩ ?_
    refine thenQ_normal ?_
    rcases ite2_cases h with ⟨b4, h⟩ | ⟨b4, h⟩
    · refine AW.cond_t rfl b4 ?_
      refine AW.seq ?_
      refine AW.regionA [] [4] [] (s' := ⟨[(4, (.v (.one (.c (.bool false)))))], []⟩) (ob := True ∧ True) (by kernel_rfl) ⟨trivial, trivial⟩ ?_
      refine thenQ_normal ?_
      refine AW.ret ?_
      refine thenQ_ret ?_
      replace h := some_eq h
      subst h
      exact ⟨.inr rfl, retOK_of [(.one (.c (.bool false)))] (by kernel_rfl) ⟨⟨rfl, trivial⟩, trivial⟩ (of_decide_eq_true (by kernel_rfl))⟩
    · refine AW.cond_f rfl b4 ?_
      refine AW.skip ?_
      refine thenQ_normal ?_
      refine AW.seq ?_
      refine AW.regionA [] [4] [] (s' := ⟨[(4, (.v (.one (.c (.bool true)))))], []⟩) (ob := True ∧ True) (by kernel_rfl) ⟨trivial, trivial⟩ ?_
      refine thenQ_normal ?_
      refine AW.ret ?_
      replace h := some_eq h
      subst h
      exact ⟨.inr rfl, retOK_of [(.one (.c (.bool true)))] (by kernel_rfl) ⟨⟨rfl, trivial⟩, trivial⟩ (of_decide_eq_true (by kernel_rfl))⟩

/-! laws.eqBoneS -/
def laws_eqBoneS_l1 (K : Nat) (a0 : (List Bone)) (a1 : (List Bone)) : Nat → Int → Option (Bool)
  | 0, _ => none
  | k + 1, x3 => ite2 ((decide (x3 < (a0.length : Int)))) (chk (0 ≤ x3 ∧ x3 < (a0.length : Int)) (chk (0 ≤ x3 ∧ x3 < (a1.length : Int)) ((laws_eqBone K (a0.getD x3.toNat default) (a1.getD x3.toNat default)).bind fun v7 => ite2 ((!v7)) (some false) (laws_eqBoneS_l1 K a0 a1 k (IntKind.i64.wrap (x3 + (1 : Int))))))) (some true)

def laws_eqBoneS (K : Nat) (a0 : (List Bone)) (a1 : (List Bone)) : Option (Bool) :=
  ite2 (((a0.length : Int) != (a1.length : Int))) (some false) (laws_eqBoneS_l1 K a0 a1 K (0 : Int))

theorem ok_laws_eqBoneS (K : Nat) (a0 : (List Bone)) (a1 : (List Bone)) (o : (Bool)) (h : laws_eqBoneS K a0 a1 = some o) : CallOK Try.prog 150 [.one (sl 4 cs_Bone a0), .one (sl 4 cs_Bone a1)] [.one (.bool o)] := by
  refine callOK_of_AW Try.func150 rfl (by kernel_rfl) (Nat.le_of_ble_eq_true (by kernel_rfl)) ?_
  intro w0
  unfold laws_eqBoneS at h
  refine AW.seq ?_
  refine AW.regionA [] [0, 1] [] (s' := ⟨[(0, (.v (.one (.c (sl 4 cs_Bone a0))))), (1, (.v (.one (.c (sl 4 cs_Bone a1)))))], []⟩) (ob := True ∧ True) (by kernel_rfl) ⟨trivial, trivial⟩ ?_
  refine thenQ_normal ?_
  refine AW.seq ?_
  refine AW.seq ?_
  refine AW.regionA [] [0, 1, 10] [] (s' := ⟨[(0, (.v (.one (.c (sl 4 cs_Bone a0))))), (1, (.v (.one (.c (sl 4 cs_Bone a1))))), (10, (.v (.one (.c (.bool ((a0.length : Int) != (a1.length : Int)))))))], []⟩) (ob := True ∧ True ∧ True ∧ True ∧ True ∧ True) (by kernel_rfl) ⟨trivial, trivial, trivial, trivial, trivial, trivial⟩ ?_
  refine thenQ_normal ?_
  rcases ite2_cases h with ⟨b1, h⟩ | ⟨b1, h⟩
  · refine AW.cond_t rfl b1 ?_
    refine AW.seq ?_
    refine AW.regionA [] [4] [] (s' := ⟨[(4, (.v (.one (.c (.bool false)))))], []⟩) (ob := True ∧ True) (by kernel_rfl) ⟨trivial, trivial⟩ ?_
    refine thenQ_normal ?_
    refine AW.ret ?_
    refine thenQ_ret ?_
    replace h := some_eq h
    subst h
    exact ⟨.inr rfl, retOK_of [(.one (.c (.bool false)))] (by kernel_rfl) ⟨⟨rfl, trivial⟩, trivial⟩ (of_decide_eq_true (by kernel_rfl))⟩
  · refine AW.cond_f rfl b1 ?_
    refine AW.skip ?_
    refine thenQ_normal ?_
    refine AW.seq ?_
    refine AW.seq ?_
    refine AW.regionA [] [0, 1, 5] [] (s' := ⟨[(0, (.v (.one (.c (sl 4 cs_Bone a0))))), (1, (.v (.one (.c (sl 4 cs_Bone a1))))), (5, (.v (.one (.c (.int .i64 (0 : Int))))))], []⟩) (ob := True ∧ True) (by kernel_rfl) ⟨trivial, trivial⟩ ?_
    refine thenQ_normal ?_
    refine AW.block ?_
    refine AW.loopQ (σ := Nat × Int) (fun p => ⟨[(0, (.v (.one (.c (sl 4 cs_Bone a0))))), (1, (.v (.one (.c (sl 4 cs_Bone a1))))), (5, (.v (.one (.c (.int .i64 p.2)))))], []⟩) (fun p => laws_eqBoneS_l1 K a0 a1 p.1 p.2 = some o) (fun p => p.1) (K, (0 : Int)) h ?_
    clear h
    rintro ⟨k, x3⟩ h
    replace h : laws_eqBoneS_l1 K a0 a1 k x3 = some o := h
    show AW _ _ (⟨[(0, (.v (.one (.c (sl 4 cs_Bone a0))))), (1, (.v (.one (.c (sl 4 cs_Bone a1))))), (5, (.v (.one (.c (.int .i64 x3)))))], []⟩ : St) _
    obtain _ | k := k
    · rw [laws_eqBoneS_l1] at h; cases h
    rw [laws_eqBoneS_l1] at h
    refine AW.seq ?_
    refine AW.seq ?_
    refine AW.regionA [] [0, 1, 5, 14] [] (s' := ⟨[(0, (.v (.one (.c (sl 4 cs_Bone a0))))), (1, (.v (.one (.c (sl 4 cs_Bone a1))))), (5, (.v (.one (.c (.int .i64 x3))))), (14, (.v (.one (.c (.bool (decide (x3 < (a0.length : Int))))))))], []⟩) (ob := True ∧ True ∧ True ∧ True ∧ True) (by kernel_rfl) ⟨trivial, trivial, trivial, trivial, trivial⟩ ?_
    refine thenQ_normal ?_
    rcases ite2_cases h with ⟨b4, h⟩ | ⟨b4, h⟩
    · refine AW.cond_t rfl b4 ?_
      refine AW.skip ?_
      refine thenQ_normal ?_
      refine AW.seq ?_
      refine AW.block ?_
      refine AW.seq ?_
      obtain ⟨c5, h⟩ := chk_some h
      obtain ⟨c6, h⟩ := chk_some h
      obtain ⟨v7, e8, h⟩ := bind_some h
      refine AW.drawnA (by kernel_rfl) 10 [.no, .no, .no, .no, .no, .no, .no, .no, .call [.agg (cs_Bone (a0.getD x3.toNat default)), .agg (cs_Bone (a1.getD x3.toNat default))] [.one (.bool v7)] [[.view]]] [0, 1, 5, 26] [] (s' := ⟨[(0, (.v (.one (.c (sl 4 cs_Bone a0))))), (1, (.v (.one (.c (sl 4 cs_Bone a1))))), (5, (.v (.one (.c (.int .i64 x3))))), (26, (.v (.one (.c (.bool (!v7))))))], []⟩) (ob := (True ∧ True ∧ (0 ≤ x3 ∧ x3 < (a0.length : Int)) ∧ True ∧ True ∧ True ∧ (0 ≤ x3 ∧ x3 < (a1.length : Int)) ∧ True ∧ ((((((.int .i64 ((a0.getD x3.toNat default).Parent)) : C) = (.int .i64 ((a0.getD x3.toNat default).Parent))) ∧ (((.flt .f32 (((a0.getD x3.toNat default).Offset).X).bits) : C) = (.flt .f32 (((a0.getD x3.toNat default).Offset).X).bits)) ∧ (((.flt .f32 (((a0.getD x3.toNat default).Offset).Y).bits) : C) = (.flt .f32 (((a0.getD x3.toNat default).Offset).Y).bits)) ∧ (((.flt .f32 (((a0.getD x3.toNat default).Offset).Z).bits) : C) = (.flt .f32 (((a0.getD x3.toNat default).Offset).Z).bits)) ∧ True) ∧ ((((.int .i64 ((a1.getD x3.toNat default).Parent)) : C) = (.int .i64 ((a1.getD x3.toNat default).Parent))) ∧ (((.flt .f32 (((a1.getD x3.toNat default).Offset).X).bits) : C) = (.flt .f32 (((a1.getD x3.toNat default).Offset).X).bits)) ∧ (((.flt .f32 (((a1.getD x3.toNat default).Offset).Y).bits) : C) = (.flt .f32 (((a1.getD x3.toNat default).Offset).Y).bits)) ∧ (((.flt .f32 (((a1.getD x3.toNat default).Offset).Z).bits) : C) = (.flt .f32 (((a1.getD x3.toNat default).Offset).Z).bits)) ∧ True) ∧ True) ∧ CallOK Try.prog 171 [.agg (cs_Bone (a0.getD x3.toNat default)), .agg (cs_Bone (a1.getD x3.toNat default))] [.one (.bool v7)]) ∧ True ∧ True) ∧ (True)) (by kernel_rfl) ⟨⟨trivial, trivial, c5, trivial, trivial, trivial, c6, trivial, ⟨⟨⟨rfl, rfl, rfl, rfl, trivial⟩, ⟨rfl, rfl, rfl, rfl, trivial⟩, trivial⟩, ok_laws_eqBone K (a0.getD x3.toNat default) (a1.getD x3.toNat default) v7 e8⟩, trivial, trivial⟩, trivial⟩ ?_
      refine thenQ_normal ?_
      rcases ite2_cases h with ⟨b9, h⟩ | ⟨b9, h⟩
      · refine AW.cond_t rfl b9 ?_
        refine AW.seq ?_
        refine AW.regionA [] [4] [] (s' := ⟨[(4, (.v (.one (.c (.bool false)))))], []⟩) (ob := True ∧ True) (by kernel_rfl) ⟨trivial, trivial⟩ ?_
        refine thenQ_normal ?_
        refine AW.ret ?_
        refine blockQ_ret ?_
        refine thenQ_ret ?_
        refine loopQ_ret ?_
        refine blockQ_ret ?_
        refine thenQ_ret ?_
        replace h := some_eq h
        subst h
        exact ⟨.inr rfl, retOK_of [(.one (.c (.bool false)))] (by kernel_rfl) ⟨⟨rfl, trivial⟩, trivial⟩ (of_decide_eq_true (by kernel_rfl))⟩
      · refine AW.cond_f rfl b9 ?_
        refine AW.skip ?_
        refine blockQ_normal ?_
        refine thenQ_normal ?_
        refine AW.regionA [] [0, 1, 5] [] (s' := ⟨[(0, (.v (.one (.c (sl 4 cs_Bone a0))))), (1, (.v (.one (.c (sl 4 cs_Bone a1))))), (5, (.v (.one (.c (.int .i64 (IntKind.i64.wrap (x3 + (1 : Int))))))))], []⟩) (ob := True ∧ True ∧ True ∧ True) (by kernel_rfl) ⟨trivial, trivial, trivial, trivial⟩ ?_
        exact loopQ_normal (k, (IntKind.i64.wrap (x3 + (1 : Int)))) h (Nat.lt_succ_self k) (Sub.keep [0, 1, 5] [] (by kernel_rfl) (by kernel_rfl))
    · refine AW.cond_f rfl b4 ?_
      refine AW.exit ?_
      refine thenQ_exit ?_
      refine loopQ_exit ?_
      refine blockQ_exit ?_
      refine thenQ_normal ?_
      refine AW.seq ?_
      refine AW.regionA [] [4] [] (s' := ⟨[(4, (.v (.one (.c (.bool true)))))], []⟩) (ob := True ∧ True) (by kernel_rfl) ⟨trivial, trivial⟩ ?_
      refine thenQ_normal ?_
      refine AW.ret ?_
      replace h := some_eq h
      subst h
      exact ⟨.inr rfl, retOK_of [(.one (.c (.bool true)))] (by kernel_rfl) ⟨⟨rfl, trivial⟩, trivial⟩ (of_decide_eq_true (by kernel_rfl))⟩

/-! laws.eqSkeleton -/
def laws_eqSkeleton (K : Nat) (a0 : Skeleton) (a1 : Skeleton) : Option (Bool) :=
  (laws_eqBoneS K a0.Bones a1.Bones).bind fun v1 => ite2 ((!v1)) (some false) (some true)

theorem ok_laws_eqSkeleton (K : Nat) (a0 : Skeleton) (a1 : Skeleton) (o : (Bool)) (h : laws_eqSkeleton K a0 a1 = some o) : CallOK Try.prog 118 [.agg (cs_Skeleton a0), .agg (cs_Skeleton a1)] [.one (.bool o)] := by
  refine callOK_of_AW Try.func118 rfl (by kernel_rfl) (Nat.le_of_ble_eq_true (by kernel_rfl)) ?_
  intro w0
  unfold laws_eqSkeleton at h
  refine AW.seq ?_
  refine AW.regionA [.box 1, .box 2] [2, 3] [1, 2] (s' := ⟨[(2, (.v (.one (.ptr 1 0)))), (3, (.v (.one (.ptr 2 0))))], [(1, (.box [(.c (sl 4 cs_Bone a0.Bones))])), (2, (.box [(.c (sl 4 cs_Bone a1.Bones))]))]⟩) (ob := True ∧ True ∧ True ∧ True) (by kernel_rfl) ⟨trivial, trivial, trivial, trivial⟩ ?_
  refine thenQ_normal ?_
  refine AW.seq ?_
  refine AW.seq ?_
  obtain ⟨v1, e2, h⟩ := bind_some h
  refine AW.regionA [.no, .no, .no, .no, .call [.one (sl 4 cs_Bone a0.Bones), .one (sl 4 cs_Bone a1.Bones)] [.one (.bool v1)] [[.view]]] [10] [] (s' := ⟨[(10, (.v (.one (.c (.bool (!v1))))))], []⟩) (ob := True ∧ True ∧ True ∧ True ∧ (((((sl 4 cs_Bone a0.Bones) : C) = (sl 4 cs_Bone a0.Bones)) ∧ (((sl 4 cs_Bone a1.Bones) : C) = (sl 4 cs_Bone a1.Bones)) ∧ True) ∧ CallOK Try.prog 150 [.one (sl 4 cs_Bone a0.Bones), .one (sl 4 cs_Bone a1.Bones)] [.one (.bool v1)]) ∧ True ∧ True) (by kernel_rfl) ⟨trivial, trivial, trivial, trivial, ⟨⟨rfl, rfl, trivial⟩, ok_laws_eqBoneS K a0.Bones a1.Bones v1 e2⟩, trivial, trivial⟩ ?_
  refine thenQ_normal ?_
  rcases ite2_cases h with ⟨b3, h⟩ | ⟨b3, h⟩
  · refine AW.cond_t rfl b3 ?_
    refine AW.seq ?_
    refine AW.regionA [] [4] [] (s' := ⟨[(4, (.v (.one (.c (.bool false)))))], []⟩) (ob := True ∧ True) (by kernel_rfl) ⟨trivial, trivial⟩ ?_
    refine thenQ_normal ?_
    refine AW.ret ?_
    refine thenQ_ret ?_
    replace h := some_eq h
    subst h
    exact ⟨.inr rfl, retOK_of [(.one (.c (.bool false)))] (by kernel_rfl) ⟨⟨rfl, trivial⟩, trivial⟩ (of_decide_eq_true (by kernel_rfl))⟩
  · refine AW.cond_f rfl b3 ?_
    refine AW.skip ?_
    refine thenQ_normal ?_
    refine AW.seq ?_
    refine AW.regionA [] [4] [] (s' := ⟨[(4, (.v (.one (.c (.bool true)))))], []⟩) (ob := True ∧ True) (by kernel_rfl) ⟨trivial, trivial⟩ ?_
    refine thenQ_normal ?_
    refine AW.ret ?_
    replace h := some_eq h
    subst h
    exact ⟨.inr rfl, retOK_of [(.one (.c (.bool true)))] (by kernel_rfl) ⟨⟨rfl, trivial⟩, trivial⟩ (of_decide_eq_true (by kernel_rfl))⟩

/-! laws.eqStringS -/
def laws_eqStringS_l1 (K : Nat) (a0 : (List ByteArray)) (a1 : (List ByteArray)) : Nat → Int → Option (Bool)
  | 0, _ => none
  | k + 1, x3 => ite2 ((decide (x3 < (a0.length : Int)))) (chk (0 ≤ x3 ∧ x3 < (a0.length : Int)) (chk (0 ≤ x3 ∧ x3 < (a1.length : Int)) (ite2 ((!((a0.getD x3.toNat default).toList == (a1.getD x3.toNat default).toList))) (some false) (laws_eqStringS_l1 K a0 a1 k (IntKind.i64.wrap (x3 + (1 : Int))))))) (some true)

def laws_eqStringS (K : Nat) (a0 : (List ByteArray)) (a1 : (List ByteArray)) : Option (Bool) :=
  ite2 (((a0.length : Int) != (a1.length : Int))) (some false) (laws_eqStringS_l1 K a0 a1 K (0 : Int))

theorem ok_laws_eqStringS (K : Nat) (a0 : (List ByteArray)) (a1 : (List ByteArray)) (o : (Bool)) (h : laws_eqStringS K a0 a1 = some o) : CallOK Try.prog 119 [.one (sl 1 csS a0), .one (sl 1 csS a1)] [.one (.bool o)] := by
  refine callOK_of_AW Try.func119 rfl (by kernel_rfl) (Nat.le_of_ble_eq_true (by kernel_rfl)) ?_
  intro w0
  unfold laws_eqStringS at h
  refine AW.seq ?_
  refine AW.regionA [] [0, 1] [] (s' := ⟨[(0, (.v (.one (.c (sl 1 csS a0))))), (1, (.v (.one (.c (sl 1 csS a1)))))], []⟩) (ob := True ∧ True) (by kernel_rfl) ⟨trivial, trivial⟩ ?_
  refine thenQ_normal ?_
  refine AW.seq ?_
  refine AW.seq ?_
  refine AW.regionA [] [0, 1, 10] [] (s' := ⟨[(0, (.v (.one (.c (sl 1 csS a0))))), (1, (.v (.one (.c (sl 1 csS a1))))), (10, (.v (.one (.c (.bool ((a0.length : Int) != (a1.length : Int)))))))], []⟩) (ob := True ∧ True ∧ True ∧ True ∧ True ∧ True) (by kernel_rfl) ⟨trivial, trivial, trivial, trivial, trivial, trivial⟩ ?_
  refine thenQ_normal ?_
  rcases ite2_cases h with ⟨b1, h⟩ | ⟨b1, h⟩
  · refine AW.cond_t rfl b1 ?_
    refine AW.seq ?_
    refine AW.regionA [] [4] [] (s' := ⟨[(4, (.v (.one (.c (.bool false)))))], []⟩) (ob := True ∧ True) (by kernel_rfl) ⟨trivial, trivial⟩ ?_
    refine thenQ_normal ?_
    refine AW.ret ?_
    refine thenQ_ret ?_
    replace h := some_eq h
    subst h
    exact ⟨.inr rfl, retOK_of [(.one (.c (.bool false)))] (by kernel_rfl) ⟨⟨rfl, trivial⟩, trivial⟩ (of_decide_eq_true (by kernel_rfl))⟩
  · refine AW.cond_f rfl b1 ?_
    refine AW.skip ?_
    refine thenQ_normal ?_
    refine AW.seq ?_
    refine AW.seq ?_
    refine AW.regionA [] [0, 1, 5] [] (s' := ⟨[(0, (.v (.one (.c (sl 1 csS a0))))), (1, (.v (.one (.c (sl 1 csS a1))))), (5, (.v (.one (.c (.int .i64 (0 : Int))))))], []⟩) (ob := True ∧ True) (by kernel_rfl) ⟨trivial, trivial⟩ ?_
    refine thenQ_normal ?_
    refine AW.block ?_
    refine AW.loopQ (σ := Nat × Int) (fun p => ⟨[(0, (.v (.one (.c (sl 1 csS a0))))), (1, (.v (.one (.c (sl 1 csS a1))))), (5, (.v (.one (.c (.int .i64 p.2)))))], []⟩) (fun p => laws_eqStringS_l1 K a0 a1 p.1 p.2 = some o) (fun p => p.1) (K, (0 : Int)) h ?_
    clear h
    rintro ⟨k, x3⟩ h
    replace h : laws_eqStringS_l1 K a0 a1 k x3 = some o := h
    show AW _ _ (⟨[(0, (.v (.one (.c (sl 1 csS a0))))), (1, (.v (.one (.c (sl 1 csS a1))))), (5, (.v (.one (.c (.int .i64 x3)))))], []⟩ : St) _
    obtain _ | k := k
    · rw [laws_eqStringS_l1] at h; cases h
    rw [laws_eqStringS_l1] at h
    refine AW.seq ?_
    refine AW.seq ?_
    refine AW.regionA [] [0, 1, 5, 14] [] (s' := ⟨[(0, (.v (.one (.c (sl 1 csS a0))))), (1, (.v (.one (.c (sl 1 csS a1))))), (5, (.v (.one (.c (.int .i64 x3))))), (14, (.v (.one (.c (.bool (decide (x3 < (a0.length : Int))))))))], []⟩) (ob := True ∧ True ∧ True ∧ True ∧ True) (by kernel_rfl) ⟨trivial, trivial, trivial, trivial, trivial⟩ ?_
    refine thenQ_normal ?_
    rcases ite2_cases h with ⟨b4, h⟩ | ⟨b4, h⟩
    · refine AW.cond_t rfl b4 ?_
      refine AW.skip ?_
      refine thenQ_normal ?_
      refine AW.seq ?_
      refine AW.block ?_
      refine AW.seq ?_
      obtain ⟨c5, h⟩ := chk_some h
      obtain ⟨c6, h⟩ := chk_some h
      refine AW.drawnA (by kernel_rfl) 9 [] [0, 1, 5, 25] [] (s' := ⟨[(0, (.v (.one (.c (sl 1 csS a0))))), (1, (.v (.one (.c (sl 1 csS a1))))), (5, (.v (.one (.c (.int .i64 x3))))), (25, (.v (.one (.c (.bool (!((a0.getD x3.toNat default).toList == (a1.getD x3.toNat default).toList)))))))], []⟩) (ob := (True ∧ True ∧ (0 ≤ x3 ∧ x3 < (a0.length : Int)) ∧ True ∧ True ∧ True ∧ (0 ≤ x3 ∧ x3 < (a1.length : Int)) ∧ True ∧ True ∧ True) ∧ (True)) (by kernel_rfl) ⟨⟨trivial, trivial, c5, trivial, trivial, trivial, c6, trivial, trivial, trivial⟩, trivial⟩ ?_
      refine thenQ_normal ?_
      rcases ite2_cases h with ⟨b7, h⟩ | ⟨b7, h⟩
      · refine AW.cond_t rfl b7 ?_
        refine AW.seq ?_
        refine AW.regionA [] [4] [] (s' := ⟨[(4, (.v (.one (.c (.bool false)))))], []⟩) (ob := True ∧ True) (by kernel_rfl) ⟨trivial, trivial⟩ ?_
        refine thenQ_normal ?_
        refine AW.ret ?_
        refine blockQ_ret ?_
        refine thenQ_ret ?_
        refine loopQ_ret ?_
        refine blockQ_ret ?_
        refine thenQ_ret ?_
        replace h := some_eq h
        subst h
        exact ⟨.inr rfl, retOK_of [(.one (.c (.bool false)))] (by kernel_rfl) ⟨⟨rfl, trivial⟩, trivial⟩ (of_decide_eq_true (by kernel_rfl))⟩
      · refine AW.cond_f rfl b7 ?_
        refine AW.skip ?_
        refine blockQ_normal ?_
        refine thenQ_normal ?_
        refine AW.regionA [] [0, 1, 5] [] (s' := ⟨[(0, (.v (.one (.c (sl 1 csS a0))))), (1, (.v (.one (.c (sl 1 csS a1))))), (5, (.v (.one (.c (.int .i64 (IntKind.i64.wrap (x3 + (1 : Int))))))))], []⟩) (ob := True ∧ True ∧ True ∧ True) (by kernel_rfl) ⟨trivial, trivial, trivial, trivial⟩ ?_
        exact loopQ_normal (k, (IntKind.i64.wrap (x3 + (1 : Int)))) h (Nat.lt_succ_self k) (Sub.keep [0, 1, 5] [] (by kernel_rfl) (by kernel_rfl))
    · refine AW.cond_f rfl b4 ?_
      refine AW.exit ?_
      refine thenQ_exit ?_
      refine loopQ_exit ?_
      refine blockQ_exit ?_
      refine thenQ_normal ?_
      refine AW.seq ?_
      refine AW.regionA [] [4] [] (s' := ⟨[(4, (.v (.one (.c (.bool true)))))], []⟩) (ob := True ∧ True) (by kernel_rfl) ⟨trivial, trivial⟩ ?_
      refine thenQ_normal ?_
      refine AW.ret ?_
      replace h := some_eq h
      subst h
      exact ⟨.inr rfl, retOK_of [(.one (.c (.bool true)))] (by kernel_rfl) ⟨⟨rfl, trivial⟩, trivial⟩ (of_decide_eq_true (by kernel_rfl))⟩

/-! laws.eqStage -/
def laws_eqStage (K : Nat) (a0 : Stage) (a1 : Stage) : Option (Bool) :=
  (laws_eqSkeleton K a0.Skeleton a1.Skeleton).bind fun v1 => ite2 ((!v1)) (some false) ((laws_eqStringS K a0.Names a1.Names).bind fun v4 => ite2 ((!v4)) (some false) ((laws_eqPoseS K a0.Poses a1.Poses).bind fun v7 => ite2 ((!v7)) (some false) (some true)))

theorem ok_laws_eqStage (K : Nat) (a0 : Stage) (a1 : Stage) (o : (Bool)) (h : laws_eqStage K a0 a1 = some o) : CallOK Try.prog 63 [.agg (cs_Stage a0), .agg (cs_Stage a1)] [.one (.bool o)] := by
  refine callOK_of_AW Try.func63 rfl (by kernel_rfl) (Nat.le_of_ble_eq_true (by kernel_rfl)) ?_
  intro w0
  unfold laws_eqStage at h
  refine AW.seq ?_
  refine AW.regionA [.box 1, .box 2] [2, 3] [1, 2] (s' := ⟨[(2, (.v (.one (.ptr 1 0)))), (3, (.v (.one (.ptr 2 0))))], [(1, (.box [(.c (sl 4 cs_Bone a0.Skeleton.Bones)), (.c (sl 1 csS a0.Names)), (.c (sl 4 cs_Pose a0.Poses))])), (2, (.box [(.c (sl 4 cs_Bone a1.Skeleton.Bones)), (.c (sl 1 csS a1.Names)), (.c (sl 4 cs_Pose a1.Poses))]))]⟩) (ob := True ∧ True ∧ True ∧ True) (by kernel_rfl) ⟨trivial, trivial, trivial, trivial⟩ ?_
  refine thenQ_normal ?_
  refine AW.seq ?_
  refine AW.seq ?_
  obtain ⟨v1, e2, h⟩ := bind_some h
  refine AW.regionA [.no, .no, .no, .no, .call [.agg (cs_Skeleton a0.Skeleton), .agg (cs_Skeleton a1.Skeleton)] [.one (.bool v1)] [[.view]]] [2, 3, 10] [1, 2] (s' := ⟨[(2, (.v (.one (.ptr 1 0)))), (3, (.v (.one (.ptr 2 0)))), (10, (.v (.one (.c (.bool (!v1))))))], [(1, (.box [(.c (sl 4 cs_Bone a0.Skeleton.Bones)), (.c (sl 1 csS a0.Names)), (.c (sl 4 cs_Pose a0.Poses))])), (2, (.box [(.c (sl 4 cs_Bone a1.Skeleton.Bones)), (.c (sl 1 csS a1.Names)), (.c (sl 4 cs_Pose a1.Poses))]))]⟩) (ob := True ∧ True ∧ True ∧ True ∧ ((((((sl 4 cs_Bone a0.Skeleton.Bones) : C) = (sl 4 cs_Bone a0.Skeleton.Bones)) ∧ True) ∧ ((((sl 4 cs_Bone a1.Skeleton.Bones) : C) = (sl 4 cs_Bone a1.Skeleton.Bones)) ∧ True) ∧ True) ∧ CallOK Try.prog 118 [.agg (cs_Skeleton a0.Skeleton), .agg (cs_Skeleton a1.Skeleton)] [.one (.bool v1)]) ∧ True ∧ True) (by kernel_rfl) ⟨trivial, trivial, trivial, trivial, ⟨⟨⟨rfl, trivial⟩, ⟨rfl, trivial⟩, trivial⟩, ok_laws_eqSkeleton K a0.Skeleton a1.Skeleton v1 e2⟩, trivial, trivial⟩ ?_
  refine thenQ_normal ?_
  rcases ite2_cases h with ⟨b3, h⟩ | ⟨b3, h⟩
  · refine AW.cond_t rfl b3 ?_
    refine AW.seq ?_
    refine AW.regionA [] [4] [] (s' := ⟨[(4, (.v (.one (.c (.bool false)))))], []⟩) (ob := True ∧ True) (by kernel_rfl) ⟨trivial, trivial⟩ ?_
    refine thenQ_normal ?_
    refine AW.ret ?_
    refine thenQ_ret ?_
    replace h := some_eq h
    subst h
    exact ⟨.inr rfl, retOK_of [(.one (.c (.bool false)))] (by kernel_rfl) ⟨⟨rfl, trivial⟩, trivial⟩ (of_decide_eq_true (by kernel_rfl))⟩
  · refine AW.cond_f rfl b3 ?_
    refine AW.skip ?_
    refine thenQ_normal ?_
    refine AW.seq ?_
    refine AW.seq ?_
    obtain ⟨v4, e5, h⟩ := bind_some h
    refine AW.regionA [.no, .no, .no, .no, .call [.one (sl 1 csS a0.Names), .one (sl 1 csS a1.Names)] [.one (.bool v4)] [[.view]]] [2, 3, 16] [1, 2] (s' := ⟨[(2, (.v (.one (.ptr 1 0)))), (3, (.v (.one (.ptr 2 0)))), (16, (.v (.one (.c (.bool (!v4))))))], [(1, (.box [(.c (sl 4 cs_Bone a0.Skeleton.Bones)), (.c (sl 1 csS a0.Names)), (.c (sl 4 cs_Pose a0.Poses))])), (2, (.box [(.c (sl 4 cs_Bone a1.Skeleton.Bones)), (.c (sl 1 csS a1.Names)), (.c (sl 4 cs_Pose a1.Poses))]))]⟩) (ob := True ∧ True ∧ True ∧ True ∧ (((((sl 1 csS a0.Names) : C) = (sl 1 csS a0.Names)) ∧ (((sl 1 csS a1.Names) : C) = (sl 1 csS a1.Names)) ∧ True) ∧ CallOK Try.prog 119 [.one (sl 1 csS a0.Names), .one (sl 1 csS a1.Names)] [.one (.bool v4)]) ∧ True ∧ True) (by kernel_rfl) ⟨trivial, trivial, trivial, trivial, ⟨⟨rfl, rfl, trivial⟩, ok_laws_eqStringS K a0.Names a1.Names v4 e5⟩, trivial, trivial⟩ ?_
    refine thenQ_normal ?_
    rcases ite2_cases h with ⟨b6, h⟩ | ⟨b6, h⟩
    · refine AW.cond_t rfl b6 ?_
      refine AW.seq ?_
      refine AW.regionA [] [4] [] (s' := ⟨[(4, (.v (.one (.c (.bool false)))))], []⟩) (ob := True ∧ True) (by kernel_rfl) ⟨trivial, trivial⟩ ?_
      refine thenQ_normal ?_
      refine AW.ret ?_
      refine thenQ_ret ?_
      replace h := some_eq h
      subst h
      exact ⟨.inr rfl, retOK_of [(.one (.c (.bool false)))] (by kernel_rfl) ⟨⟨rfl, trivial⟩, trivial⟩ (of_decide_eq_true (by kernel_rfl))⟩
    · refine AW.cond_f rfl b6 ?_
      refine AW.skip ?_
      refine thenQ_normal ?_
      refine AW.seq ?_
      refine AW.seq ?_
      obtain ⟨v7, e8, h⟩ := bind_some h
      refine AW.regionA [.no, .no, .no, .no, .call [.one (sl 4 cs_Pose a0.Poses), .one (sl 4 cs_Pose a1.Poses)] [.one (.bool v7)] [[.view]]] [22] [] (s' := ⟨[(22, (.v (.one (.c (.bool (!v7))))))], []⟩) (ob := True ∧ True ∧ True ∧ True ∧ (((((sl 4 cs_Pose a0.Poses) : C) = (sl 4 cs_Pose a0.Poses)) ∧ (((sl 4 cs_Pose a1.Poses) : C) = (sl 4 cs_Pose a1.Poses)) ∧ True) ∧ CallOK Try.prog 77 [.one (sl 4 cs_Pose a0.Poses), .one (sl 4 cs_Pose a1.Poses)] [.one (.bool v7)]) ∧ True ∧ True) (by kernel_rfl) ⟨trivial, trivial, trivial, trivial, ⟨⟨rfl, rfl, trivial⟩, ok_laws_eqPoseS K a0.Poses a1.Poses v7 e8⟩, trivial, trivial⟩ ?_
      refine thenQ_normal ?_
      rcases ite2_cases h with ⟨b9, h⟩ | ⟨b9, h⟩
      · refine AW.cond_t rfl b9 ?_
        refine AW.seq ?_
        refine AW.regionA [] [4] [] (s' := ⟨[(4, (.v (.one (.c (.bool false)))))], []⟩) (ob := True ∧ True) (by kernel_rfl) ⟨trivial, trivial⟩ ?_
        refine thenQ_normal ?_
        refine AW.ret ?_
        refine thenQ_ret ?_
        replace h := some_eq h
        subst h
        exact ⟨.inr rfl, retOK_of [(.one (.c (.bool false)))] (by kernel_rfl) ⟨⟨rfl, trivial⟩, trivial⟩ (of_decide_eq_true (by kernel_rfl))⟩
      · refine AW.cond_f rfl b9 ?_
        refine AW.skip ?_
        refine thenQ_normal ?_
        refine AW.seq ?_
        refine AW.regionA [] [4] [] (s' := ⟨[(4, (.v (.one (.c (.bool true)))))], []⟩) (ob := True ∧ True) (by kernel_rfl) ⟨trivial, trivial⟩ ?_
        refine thenQ_normal ?_
        refine AW.ret ?_
        replace h := some_eq h
        subst h
        exact ⟨.inr rfl, retOK_of [(.one (.c (.bool true)))] (by kernel_rfl) ⟨⟨rfl, trivial⟩, trivial⟩ (of_decide_eq_true (by kernel_rfl))⟩

/-! laws.FnExactValidStage -/
def laws_FnExactValidStage (K : Nat) (a0 : Stage) : Option (Bool) :=
  (laws_szStage K a0 (1048576 : Int)).bind fun v1 => ite2 ((decide (v1 < (0 : Int)))) (some true) ((laws_toStage K a0).bind fun v4 => (spec_ValidStage K v4).bind fun v6 => (laws_toStage K a0).bind fun v8 => (impl_ValidStage K v8).bind fun v10 => ite2 ((!(v10 == v6))) (some false) ((laws_toStage K a0).bind fun v13 => (laws_eqStage K v8 v13).bind fun v15 => ite2 ((!v15)) (some false) (some true)))

theorem ok_laws_FnExactValidStage (K : Nat) (a0 : Stage) (o : (Bool)) (h : laws_FnExactValidStage K a0 = some o) : CallOK Try.prog 14 [.agg (cs_Stage a0)] [.one (.bool o)] := by
  refine callOK_of_AW Try.func14 rfl (by kernel_rfl) (Nat.le_of_ble_eq_true (by kernel_rfl)) ?_
  intro w0
  unfold laws_FnExactValidStage at h
  refine AW.seq ?_
  refine AW.regionA [.box 1] [1] [1] (s' := ⟨[(1, (.v (.one (.ptr 1 0))))], [(1, (.box [(.c (sl 4 cs_Bone a0.Skeleton.Bones)), (.c (sl 1 csS a0.Names)), (.c (sl 4 cs_Pose a0.Poses))]))]⟩) (ob := True ∧ True ∧ True) (by kernel_rfl) ⟨trivial, trivial, trivial⟩ ?_
  refine thenQ_normal ?_
  refine AW.seq ?_
  refine AW.regionA [] [1, 3] [1] (s' := ⟨[(1, (.v (.one (.ptr 1 0)))), (3, (.v (.one (.c (.int .i64 (1048576 : Int))))))], [(1, (.box [(.c (sl 4 cs_Bone a0.Skeleton.Bones)), (.c (sl 1 csS a0.Names)), (.c (sl 4 cs_Pose a0.Poses))]))]⟩) (ob := True ∧ True) (by kernel_rfl) ⟨trivial, trivial⟩ ?_
  refine thenQ_normal ?_
  refine AW.seq ?_
  obtain ⟨v1, e2, h⟩ := bind_some h
  refine AW.regionA [.no, .no, .call [.agg (cs_Stage a0), .one (.int .i64 (1048576 : Int))] [.one (.int .i64 v1)] [[.view]]] [1, 3] [1] (s' := ⟨[(1, (.v (.one (.ptr 1 0)))), (3, (.v (.one (.c (.int .i64 v1)))))], [(1, (.box [(.c (sl 4 cs_Bone a0.Skeleton.Bones)), (.c (sl 1 csS a0.Names)), (.c (sl 4 cs_Pose a0.Poses))]))]⟩) (ob := True ∧ True ∧ ((((((sl 4 cs_Bone a0.Skeleton.Bones) : C) = (sl 4 cs_Bone a0.Skeleton.Bones)) ∧ (((sl 1 csS a0.Names) : C) = (sl 1 csS a0.Names)) ∧ (((sl 4 cs_Pose a0.Poses) : C) = (sl 4 cs_Pose a0.Poses)) ∧ True) ∧ (((.int .i64 (1048576 : Int)) : C) = (.int .i64 (1048576 : Int))) ∧ True) ∧ CallOK Try.prog 59 [.agg (cs_Stage a0), .one (.int .i64 (1048576 : Int))] [.one (.int .i64 v1)]) ∧ True ∧ True) (by kernel_rfl) ⟨trivial, trivial, ⟨⟨⟨rfl, rfl, rfl, trivial⟩, rfl, trivial⟩, ok_laws_szStage K a0 (1048576 : Int) v1 e2⟩, trivial, trivial⟩ ?_
  refine thenQ_normal ?_
  refine AW.seq ?_
  refine AW.seq ?_
  refine AW.regionA [] [1, 11] [1] (s' := ⟨[(1, (.v (.one (.ptr 1 0)))), (11, (.v (.one (.c (.bool (decide (v1 < (0 : Int))))))))], [(1, (.box [(.c (sl 4 cs_Bone a0.Skeleton.Bones)), (.c (sl 1 csS a0.Names)), (.c (sl 4 cs_Pose a0.Poses))]))]⟩) (ob := True ∧ True ∧ True) (by kernel_rfl) ⟨trivial, trivial, trivial⟩ ?_
  refine thenQ_normal ?_
  rcases ite2_cases h with ⟨b3, h⟩ | ⟨b3, h⟩
  · refine AW.cond_t rfl b3 ?_
    refine AW.seq ?_
    refine AW.regionA [] [2] [] (s' := ⟨[(2, (.v (.one (.c (.bool true)))))], []⟩) (ob := True ∧ True) (by kernel_rfl) ⟨trivial, trivial⟩ ?_
    refine thenQ_normal ?_
    refine AW.ret ?_
    refine thenQ_ret ?_
    replace h := some_eq h
    subst h
    exact ⟨.inr rfl, retOK_of [(.one (.c (.bool true)))] (by kernel_rfl) ⟨⟨rfl, trivial⟩, trivial⟩ (of_decide_eq_true (by kernel_rfl))⟩
  · refine AW.cond_f rfl b3 ?_
    refine AW.skip ?_
    refine thenQ_normal ?_
    refine AW.seq ?_
    obtain ⟨v4, e5, h⟩ := bind_some h
    obtain ⟨v6, e7, h⟩ := bind_some h
    refine AW.regionA [.no, .call [.agg (cs_Stage a0)] [.agg (cs_Stage v4)] [[.lst 2, .lst 3, .lst 4]], .call [.agg (cs_Stage v4)] [.one (.bool v6)] [[.view]]] [1, 4] [1] (s' := ⟨[(1, (.v (.one (.ptr 1 0)))), (4, (.v (.one (.c (.bool v6)))))], [(1, (.box [(.c (sl 4 cs_Bone a0.Skeleton.Bones)), (.c (sl 1 csS a0.Names)), (.c (sl 4 cs_Pose a0.Poses))]))]⟩) (ob := True ∧ ((((((sl 4 cs_Bone a0.Skeleton.Bones) : C) = (sl 4 cs_Bone a0.Skeleton.Bones)) ∧ (((sl 1 csS a0.Names) : C) = (sl 1 csS a0.Names)) ∧ (((sl 4 cs_Pose a0.Poses) : C) = (sl 4 cs_Pose a0.Poses)) ∧ True) ∧ True) ∧ CallOK Try.prog 61 [.agg (cs_Stage a0)] [.agg (cs_Stage v4)]) ∧ ((((((sl 4 cs_Bone v4.Skeleton.Bones) : C) = (sl 4 cs_Bone v4.Skeleton.Bones)) ∧ (((sl 1 csS v4.Names) : C) = (sl 1 csS v4.Names)) ∧ (((sl 4 cs_Pose v4.Poses) : C) = (sl 4 cs_Pose v4.Poses)) ∧ True) ∧ True) ∧ CallOK Try.prog 60 [.agg (cs_Stage v4)] [.one (.bool v6)]) ∧ True ∧ True) (by kernel_rfl) ⟨trivial, ⟨⟨⟨rfl, rfl, rfl, trivial⟩, trivial⟩, ok_laws_toStage K a0 v4 e5⟩, ⟨⟨⟨rfl, rfl, rfl, trivial⟩, trivial⟩, ok_spec_ValidStage K v4 v6 e7⟩, trivial, trivial⟩ ?_
    refine thenQ_normal ?_
    refine AW.seq ?_
    obtain ⟨v8, e9, h⟩ := bind_some h
    refine AW.regionA [.no, .call [.agg (cs_Stage a0)] [.agg (cs_Stage v8)] [[.lst 5, .lst 6, .lst 7]], .box 8] [1, 4, 5] [1, 5, 6, 7, 8] (s' := ⟨[(1, (.v (.one (.ptr 1 0)))), (4, (.v (.one (.c (.bool v6))))), (5, (.v (.one (.ptr 8 0))))], [(1, (.box [(.c (sl 4 cs_Bone a0.Skeleton.Bones)), (.c (sl 1 csS a0.Names)), (.c (sl 4 cs_Pose a0.Poses))])), (5, (.lst v8.Skeleton.Bones.length 4 (gl cs_Bone v8.Skeleton.Bones))), (6, (.lst v8.Names.length 1 (gl csS v8.Names))), (7, (.lst v8.Poses.length 4 (gl cs_Pose v8.Poses))), (8, (.box [(.lst 5 v8.Skeleton.Bones.length 4 (gl cs_Bone v8.Skeleton.Bones)), (.lst 6 v8.Names.length 1 (gl csS v8.Names)), (.lst 7 v8.Poses.length 4 (gl cs_Pose v8.Poses))]))]⟩) (ob := True ∧ ((((((sl 4 cs_Bone a0.Skeleton.Bones) : C) = (sl 4 cs_Bone a0.Skeleton.Bones)) ∧ (((sl 1 csS a0.Names) : C) = (sl 1 csS a0.Names)) ∧ (((sl 4 cs_Pose a0.Poses) : C) = (sl 4 cs_Pose a0.Poses)) ∧ True) ∧ True) ∧ CallOK Try.prog 61 [.agg (cs_Stage a0)] [.agg (cs_Stage v8)]) ∧ True ∧ True ∧ True) (by kernel_rfl) ⟨trivial, ⟨⟨⟨rfl, rfl, rfl, trivial⟩, trivial⟩, ok_laws_toStage K a0 v8 e9⟩, trivial, trivial, trivial⟩ ?_
    refine thenQ_normal ?_
    refine AW.seq ?_
    obtain ⟨v10, e11, h⟩ := bind_some h
    refine AW.regionA [.no, .call [.agg (cs_Stage v8)] [.one (.bool v10)] [[.view]]] [1, 4, 5, 6] [1, 5, 6, 7, 8] (s' := ⟨[(1, (.v (.one (.ptr 1 0)))), (4, (.v (.one (.c (.bool v6))))), (5, (.v (.one (.ptr 8 0)))), (6, (.v (.one (.c (.bool v10)))))], [(1, (.box [(.c (sl 4 cs_Bone a0.Skeleton.Bones)), (.c (sl 1 csS a0.Names)), (.c (sl 4 cs_Pose a0.Poses))])), (5, (.lst v8.Skeleton.Bones.length 4 (gl cs_Bone v8.Skeleton.Bones))), (6, (.lst v8.Names.length 1 (gl csS v8.Names))), (7, (.lst v8.Poses.length 4 (gl cs_Pose v8.Poses))), (8, (.box [(.lst 5 v8.Skeleton.Bones.length 4 (gl cs_Bone v8.Skeleton.Bones)), (.lst 6 v8.Names.length 1 (gl csS v8.Names)), (.lst 7 v8.Poses.length 4 (gl cs_Pose v8.Poses))]))]⟩) (ob := True ∧ ((((((sl 4 cs_Bone v8.Skeleton.Bones) : C) = (sl 4 cs_Bone v8.Skeleton.Bones)) ∧ (((sl 1 csS v8.Names) : C) = (sl 1 csS v8.Names)) ∧ (((sl 4 cs_Pose v8.Poses) : C) = (sl 4 cs_Pose v8.Poses)) ∧ True) ∧ True) ∧ CallOK Try.prog 62 [.agg (cs_Stage v8)] [.one (.bool v10)]) ∧ True ∧ True) (by kernel_rfl) ⟨trivial, ⟨⟨⟨rfl, rfl, rfl, trivial⟩, trivial⟩, ok_impl_ValidStage K v8 v10 e11⟩, trivial, trivial⟩ ?_
    refine thenQ_normal ?_
    refine AW.seq ?_
    refine AW.seq ?_
    refine AW.regionA [] [1, 5, 21] [1, 5, 6, 7, 8] (s' := ⟨[(1, (.v (.one (.ptr 1 0)))), (5, (.v (.one (.ptr 8 0)))), (21, (.v (.one (.c (.bool (!(v10 == v6)))))))], [(1, (.box [(.c (sl 4 cs_Bone a0.Skeleton.Bones)), (.c (sl 1 csS a0.Names)), (.c (sl 4 cs_Pose a0.Poses))])), (5, (.lst v8.Skeleton.Bones.length 4 (gl cs_Bone v8.Skeleton.Bones))), (6, (.lst v8.Names.length 1 (gl csS v8.Names))), (7, (.lst v8.Poses.length 4 (gl cs_Pose v8.Poses))), (8, (.box [(.lst 5 v8.Skeleton.Bones.length 4 (gl cs_Bone v8.Skeleton.Bones)), (.lst 6 v8.Names.length 1 (gl csS v8.Names)), (.lst 7 v8.Poses.length 4 (gl cs_Pose v8.Poses))]))]⟩) (ob := True ∧ True ∧ True ∧ True) (by kernel_rfl) ⟨trivial, trivial, trivial, trivial⟩ ?_
    refine thenQ_normal ?_
    rcases ite2_cases h with ⟨b12, h⟩ | ⟨b12, h⟩
    · refine AW.cond_t rfl b12 ?_
      refine AW.seq ?_
      refine AW.regionA [] [2] [] (s' := ⟨[(2, (.v (.one (.c (.bool false)))))], []⟩) (ob := True ∧ True) (by kernel_rfl) ⟨trivial, trivial⟩ ?_
      refine thenQ_normal ?_
      refine AW.ret ?_
      refine thenQ_ret ?_
      replace h := some_eq h
      subst h
      exact ⟨.inr rfl, retOK_of [(.one (.c (.bool false)))] (by kernel_rfl) ⟨⟨rfl, trivial⟩, trivial⟩ (of_decide_eq_true (by kernel_rfl))⟩
    · refine AW.cond_f rfl b12 ?_
      refine AW.skip ?_
      refine thenQ_normal ?_
      refine AW.seq ?_
      refine AW.seq ?_
      obtain ⟨v13, e14, h⟩ := bind_some h
      obtain ⟨v15, e16, h⟩ := bind_some h
      refine AW.drawnA (by kernel_rfl) 5 [.no, .no, .call [.agg (cs_Stage a0)] [.agg (cs_Stage v13)] [[.lst 9, .lst 10, .lst 11]], .call [.agg (cs_Stage v8), .agg (cs_Stage v13)] [.one (.bool v15)] [[.view]]] [26] [] (s' := ⟨[(26, (.v (.one (.c (.bool (!v15))))))], []⟩) (ob := (True ∧ True ∧ ((((((sl 4 cs_Bone a0.Skeleton.Bones) : C) = (sl 4 cs_Bone a0.Skeleton.Bones)) ∧ (((sl 1 csS a0.Names) : C) = (sl 1 csS a0.Names)) ∧ (((sl 4 cs_Pose a0.Poses) : C) = (sl 4 cs_Pose a0.Poses)) ∧ True) ∧ True) ∧ CallOK Try.prog 61 [.agg (cs_Stage a0)] [.agg (cs_Stage v13)]) ∧ ((((((sl 4 cs_Bone v8.Skeleton.Bones) : C) = (sl 4 cs_Bone v8.Skeleton.Bones)) ∧ (((sl 1 csS v8.Names) : C) = (sl 1 csS v8.Names)) ∧ (((sl 4 cs_Pose v8.Poses) : C) = (sl 4 cs_Pose v8.Poses)) ∧ True) ∧ ((((sl 4 cs_Bone v13.Skeleton.Bones) : C) = (sl 4 cs_Bone v13.Skeleton.Bones)) ∧ (((sl 1 csS v13.Names) : C) = (sl 1 csS v13.Names)) ∧ (((sl 4 cs_Pose v13.Poses) : C) = (sl 4 cs_Pose v13.Poses)) ∧ True) ∧ True) ∧ CallOK Try.prog 63 [.agg (cs_Stage v8), .agg (cs_Stage v13)] [.one (.bool v15)]) ∧ True ∧ True) ∧ (True)) (by kernel_rfl) ⟨⟨trivial, trivial, ⟨⟨⟨rfl, rfl, rfl, trivial⟩, trivial⟩, ok_laws_toStage K a0 v13 e14⟩, ⟨⟨⟨rfl, rfl, rfl, trivial⟩, ⟨rfl, rfl, rfl, trivial⟩, trivial⟩, ok_laws_eqStage K v8 v13 v15 e16⟩, trivial, trivial⟩, trivial⟩ ?_
      refine thenQ_normal ?_
      rcases ite2_cases h with ⟨b17, h⟩ | ⟨b17, h⟩
      · refine AW.cond_t rfl b17 ?_
        refine AW.seq ?_
        refine AW.regionA [] [2] [] (s' := ⟨[(2, (.v (.one (.c (.bool false)))))], []⟩) (ob := True ∧ True) (by kernel_rfl) ⟨trivial, trivial⟩ ?_
        refine thenQ_normal ?_
        refine AW.ret ?_
        refine thenQ_ret ?_
        replace h := some_eq h
        subst h
        exact ⟨.inr rfl, retOK_of [(.one (.c (.bool false)))] (by kernel_rfl) ⟨⟨rfl, trivial⟩, trivial⟩ (of_decide_eq_true (by kernel_rfl))⟩
      · refine AW.cond_f rfl b17 ?_
        refine AW.skip ?_
        refine thenQ_normal ?_
        refine AW.seq ?_
        refine AW.regionA [] [2] [] (s' := ⟨[(2, (.v (.one (.c (.bool true)))))], []⟩) (ob := True ∧ True) (by kernel_rfl) ⟨trivial, trivial⟩ ?_
        refine thenQ_normal ?_
        refine AW.ret ?_
        replace h := some_eq h
        subst h
        exact ⟨.inr rfl, retOK_of [(.one (.c (.bool true)))] (by kernel_rfl) ⟨⟨rfl, trivial⟩, trivial⟩ (of_decide_eq_true (by kernel_rfl))⟩

end
end Go.Fw
