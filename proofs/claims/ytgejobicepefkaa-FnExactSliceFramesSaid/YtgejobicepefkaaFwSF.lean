/- Functions of the program: what each computes, and that it computes just that. -/
import Derived.Test.YtgejobicepefkaaFwTy
import Derived.Test.YtgejobicepefkaaFwSF1
import Derived.Test.YtgejobicepefkaaProg
import Derived.KernelRfl
namespace Go.Fw
open Go Go.Proofs
noncomputable section
set_option maxRecDepth 10000

/-! laws.heldRecording -/
def laws_heldRecording (K : Nat) (a0 : Recording) (a1 : Int) : Option (Int) :=
  (laws_heldPoseS K a0.Frames a1).bind fun v1 => ite2 ((decide (v1 < (0 : Int)))) (some ((-1) : Int)) (some v1)

theorem ok_laws_heldRecording (K : Nat) (a0 : Recording) (a1 : Int) (o : (Int)) (h : laws_heldRecording K a0 a1 = some o) : CallOK Try.prog 27 [.agg (cs_Recording a0), .one (.int .i64 a1)] [.one (.int .i64 o)] := by
  refine callOK_of_AW Try.func27 rfl (by kernel_rfl) (Nat.le_of_ble_eq_true (by kernel_rfl)) ?_
  intro w0
  unfold laws_heldRecording at h
  refine AW.seq ?_
  refine AW.regionA [.box 1] [1, 2] [1] (s' := ⟨[(1, (.v (.one (.c (.int .i64 a1))))), (2, (.v (.one (.ptr 1 0))))], [(1, (.box [(.c (.int .i64 a0.Bones)), (.c (sl 4 cs_Pose a0.Frames))]))]⟩) (ob := True ∧ True ∧ True) (by kernel_rfl) ⟨trivial, trivial, trivial⟩ ?_
  refine thenQ_normal ?_
  refine AW.seq ?_
  obtain ⟨v1, e2, h⟩ := bind_some h
  refine AW.regionA [.no, .no, .no, .call [.one (sl 4 cs_Pose a0.Frames), .one (.int .i64 a1)] [.one (.int .i64 v1)] [[.view]]] [1] [] (s' := ⟨[(1, (.v (.one (.c (.int .i64 v1)))))], []⟩) (ob := True ∧ True ∧ True ∧ (((((sl 4 cs_Pose a0.Frames) : C) = (sl 4 cs_Pose a0.Frames)) ∧ (((.int .i64 a1) : C) = (.int .i64 a1)) ∧ True) ∧ CallOK Try.prog 79 [.one (sl 4 cs_Pose a0.Frames), .one (.int .i64 a1)] [.one (.int .i64 v1)]) ∧ True ∧ True) (by kernel_rfl) ⟨trivial, trivial, trivial, ⟨⟨rfl, rfl, trivial⟩, ok_laws_heldPoseS K a0.Frames a1 v1 e2⟩, trivial, trivial⟩ ?_
  refine thenQ_normal ?_
  refine AW.seq ?_
  refine AW.seq ?_
  refine AW.regionA [] [1, 10] [] (s' := ⟨[(1, (.v (.one (.c (.int .i64 v1))))), (10, (.v (.one (.c (.bool (decide (v1 < (0 : Int))))))))], []⟩) (ob := True ∧ True ∧ True) (by kernel_rfl) ⟨trivial, trivial, trivial⟩ ?_
  refine thenQ_normal ?_
  rcases ite2_cases h with ⟨b3, h⟩ | ⟨b3, h⟩
  · refine AW.cond_t rfl b3 ?_
    refine AW.seq ?_
    refine AW.regionA [] [4] [] (s' := ⟨[(4, (.v (.one (.c (.int .i64 ((-1) : Int))))))], []⟩) (ob := True ∧ True) (by kernel_rfl) ⟨trivial, trivial⟩ ?_
    refine thenQ_normal ?_
    refine AW.ret ?_
    refine thenQ_ret ?_
    replace h := some_eq h
    subst h
    exact ⟨.inr rfl, retOK_of [(.one (.c (.int .i64 ((-1) : Int))))] (by kernel_rfl) ⟨⟨rfl, trivial⟩, trivial⟩ (of_decide_eq_true (by kernel_rfl))⟩
  · refine AW.cond_f rfl b3 ?_
    refine AW.skip ?_
    refine thenQ_normal ?_
    refine AW.seq ?_
    refine AW.regionA [] [4] [] (s' := ⟨[(4, (.v (.one (.c (.int .i64 v1)))))], []⟩) (ob := True ∧ True ∧ True) (by kernel_rfl) ⟨trivial, trivial, trivial⟩ ?_
    refine thenQ_normal ?_
    refine AW.ret ?_
    replace h := some_eq h
    subst h
    exact ⟨.inr rfl, retOK_of [(.one (.c (.int .i64 v1)))] (by kernel_rfl) ⟨⟨rfl, trivial⟩, trivial⟩ (of_decide_eq_true (by kernel_rfl))⟩

/-! laws.FnExactSliceFrames -/
def laws_FnExactSliceFrames (K : Nat) (a0 : Recording) (a1 : Int) (a2 : Int) : Option (Bool) :=
  (laws_szRecording K a0 (1048576 : Int)).bind fun v1 => ite2 ((decide (v1 < (0 : Int)))) (some true) ((laws_toRecording K a0).bind fun v4 => (spec_SliceFrames K v4 a1 a2).bind fun v6 => (laws_toRecording K a0).bind fun v8 => (impl_SliceFrames K v8 a1 a2).bind fun v10 => (laws_eqRecording K v10.1 v6.1).bind fun v12 => (ite2 ((!v12)) (some true) (some (!(v10.2 == v6.2)))).bind fun j15 => ite2 (j15) (some false) ((laws_toRecording K a0).bind fun v18 => (laws_eqRecording K v8 v18).bind fun v20 => ite2 ((!v20)) (some false) ((laws_markRecording K v8 (1 : Int)).bind fun v23 => chk (v23.2.length = v8.Frames.length) ((ite2 ((decide (v23.1 < (0 : Int)))) (some true) ((laws_eqRecording K v10.1 v6.1).bind fun v27 => ite2 ((!v27)) (some true) (some (!(v10.2 == v6.2))))).bind fun j30 => ite2 (j30) (some false) ((laws_markRecording K v10.1 (1 : Int)).bind fun v33 => chk (v33.2.length = v10.1.Frames.length) ((laws_heldRecording K (Recording.mk v10.1.Bones v33.2) (1 : Int)).bind fun v36 => ite2 ((decide (v36 < (0 : Int)))) (some false) (ite2 ((v36 != v33.1)) (some false) ((laws_toRecording K a0).bind fun v40 => (impl_SliceFrames K v40 a1 a2).bind fun v42 => (laws_eqRecording K v42.1 v6.1).bind fun v44 => (ite2 ((!v44)) (some true) (some (!(v42.2 == v6.2)))).bind fun j47 => ite2 (j47) (some false) ((laws_heldRecording K (Recording.mk v10.1.Bones v33.2) (1 : Int)).bind fun v50 => ite2 ((decide (v50 < (0 : Int)))) (some false) (ite2 ((v50 != v33.1)) (some false) (some true)))))))))))

theorem ok_laws_FnExactSliceFrames (K : Nat) (a0 : Recording) (a1 : Int) (a2 : Int) (o : (Bool)) (h : laws_FnExactSliceFrames K a0 a1 a2 = some o) : CallOK Try.prog 4 [.agg (cs_Recording a0), .one (.int .i64 a1), .one (.int .i64 a2)] [.one (.bool o)] := by
  refine callOK_of_AW Try.func4 rfl (by kernel_rfl) (Nat.le_of_ble_eq_true (by kernel_rfl)) ?_
  intro w0
  unfold laws_FnExactSliceFrames at h
  refine AW.seq ?_
  refine AW.regionA [.box 1] [1, 2, 3] [1] (s' := ⟨[(1, (.v (.one (.c (.int .i64 a1))))), (2, (.v (.one (.c (.int .i64 a2))))), (3, (.v (.one (.ptr 1 0))))], [(1, (.box [(.c (.int .i64 a0.Bones)), (.c (sl 4 cs_Pose a0.Frames))]))]⟩) (ob := True ∧ True ∧ True) (by kernel_rfl) ⟨trivial, trivial, trivial⟩ ?_
  refine thenQ_normal ?_
  refine AW.seq ?_
  refine AW.regionA [] [1, 2, 3, 7] [1] (s' := ⟨[(1, (.v (.one (.c (.int .i64 a1))))), (2, (.v (.one (.c (.int .i64 a2))))), (3, (.v (.one (.ptr 1 0)))), (7, (.v (.one (.c (.int .i64 (1048576 : Int))))))], [(1, (.box [(.c (.int .i64 a0.Bones)), (.c (sl 4 cs_Pose a0.Frames))]))]⟩) (ob := True ∧ True) (by kernel_rfl) ⟨trivial, trivial⟩ ?_
  refine thenQ_normal ?_
  refine AW.seq ?_
  obtain ⟨v1, e2, h⟩ := bind_some h
  refine AW.regionA [.no, .no, .call [.agg (cs_Recording a0), .one (.int .i64 (1048576 : Int))] [.one (.int .i64 v1)] [[.view]]] [1, 2, 3, 7] [1] (s' := ⟨[(1, (.v (.one (.c (.int .i64 a1))))), (2, (.v (.one (.c (.int .i64 a2))))), (3, (.v (.one (.ptr 1 0)))), (7, (.v (.one (.c (.int .i64 v1)))))], [(1, (.box [(.c (.int .i64 a0.Bones)), (.c (sl 4 cs_Pose a0.Frames))]))]⟩) (ob := True ∧ True ∧ ((((((.int .i64 a0.Bones) : C) = (.int .i64 a0.Bones)) ∧ (((sl 4 cs_Pose a0.Frames) : C) = (sl 4 cs_Pose a0.Frames)) ∧ True) ∧ (((.int .i64 (1048576 : Int)) : C) = (.int .i64 (1048576 : Int))) ∧ True) ∧ CallOK Try.prog 21 [.agg (cs_Recording a0), .one (.int .i64 (1048576 : Int))] [.one (.int .i64 v1)]) ∧ True ∧ True) (by kernel_rfl) ⟨trivial, trivial, ⟨⟨⟨rfl, rfl, trivial⟩, rfl, trivial⟩, ok_laws_szRecording K a0 (1048576 : Int) v1 e2⟩, trivial, trivial⟩ ?_
  refine thenQ_normal ?_
  refine AW.seq ?_
  refine AW.seq ?_
  refine AW.regionA [] [1, 2, 3, 22] [1] (s' := ⟨[(1, (.v (.one (.c (.int .i64 a1))))), (2, (.v (.one (.c (.int .i64 a2))))), (3, (.v (.one (.ptr 1 0)))), (22, (.v (.one (.c (.bool (decide (v1 < (0 : Int))))))))], [(1, (.box [(.c (.int .i64 a0.Bones)), (.c (sl 4 cs_Pose a0.Frames))]))]⟩) (ob := True ∧ True ∧ True) (by kernel_rfl) ⟨trivial, trivial, trivial⟩ ?_
  refine thenQ_normal ?_
  rcases ite2_cases h with ⟨b3, h⟩ | ⟨b3, h⟩
  · refine AW.cond_t rfl b3 ?_
    refine AW.seq ?_
    refine AW.regionA [] [6] [] (s' := ⟨[(6, (.v (.one (.c (.bool true)))))], []⟩) (ob := True ∧ True) (by kernel_rfl) ⟨trivial, trivial⟩ ?_
    refine thenQ_normal ?_
    refine AW.ret ?_
    refine thenQ_ret ?_
    replace h := some_eq h
    subst h
    exact ⟨.inr rfl, retOK_of [(.one (.c (.bool true)))] (by kernel_rfl) ⟨⟨rfl, trivial⟩, trivial⟩ (of_decide_eq_true (by kernel_rfl))⟩
  · refine AW.cond_f rfl b3 ?_
    refine AW.skip ?_
    refine thenQ_normal ?_
    refine AW.seq ?_
    obtain ⟨v4, e5, h⟩ := bind_some h
    obtain ⟨v6, e7, h⟩ := bind_some h
    refine AW.regionA [.no, .call [.agg (cs_Recording a0)] [.agg (cs_Recording v4)] [[.view, .lst 2]], .no, .no, .call [.agg (cs_Recording v4), .one (.int .i64 a1), .one (.int .i64 a2)] [.agg (cs_Recording v6.1), .one (.bool v6.2)] [[.view, .lst 3], [.view]], .no, .no, .no, .box 4] [1, 2, 3, 8, 9] [1, 3, 4] (s' := ⟨[(1, (.v (.one (.c (.int .i64 a1))))), (2, (.v (.one (.c (.int .i64 a2))))), (3, (.v (.one (.ptr 1 0)))), (8, (.v (.one (.ptr 4 0)))), (9, (.v (.one (.c (.bool v6.2)))))], [(1, (.box [(.c (.int .i64 a0.Bones)), (.c (sl 4 cs_Pose a0.Frames))])), (3, (.lst v6.1.Frames.length 4 (gl cs_Pose v6.1.Frames))), (4, (.box [(.c (.int .i64 v6.1.Bones)), (.lst 3 v6.1.Frames.length 4 (gl cs_Pose v6.1.Frames))]))]⟩) (ob := True ∧ ((((((.int .i64 a0.Bones) : C) = (.int .i64 a0.Bones)) ∧ (((sl 4 cs_Pose a0.Frames) : C) = (sl 4 cs_Pose a0.Frames)) ∧ True) ∧ True) ∧ CallOK Try.prog 23 [.agg (cs_Recording a0)] [.agg (cs_Recording v4)]) ∧ True ∧ True ∧ ((((((.int .i64 v4.Bones) : C) = (.int .i64 v4.Bones)) ∧ (((sl 4 cs_Pose v4.Frames) : C) = (sl 4 cs_Pose v4.Frames)) ∧ True) ∧ (((.int .i64 a1) : C) = (.int .i64 a1)) ∧ (((.int .i64 a2) : C) = (.int .i64 a2)) ∧ True) ∧ CallOK Try.prog 22 [.agg (cs_Recording v4), .one (.int .i64 a1), .one (.int .i64 a2)] [.agg (cs_Recording v6.1), .one (.bool v6.2)]) ∧ True ∧ True ∧ True ∧ True ∧ True ∧ True ∧ True) (by kernel_rfl) ⟨trivial, ⟨⟨⟨rfl, rfl, trivial⟩, trivial⟩, ok_laws_toRecording K a0 v4 e5⟩, trivial, trivial, ⟨⟨⟨rfl, rfl, trivial⟩, rfl, rfl, trivial⟩, ok_spec_SliceFrames K v4 a1 a2 v6 e7⟩, trivial, trivial, trivial, trivial, trivial, trivial, trivial⟩ ?_
    refine thenQ_normal ?_
    refine AW.seq ?_
    obtain ⟨v8, e9, h⟩ := bind_some h
    refine AW.regionA [.no, .call [.agg (cs_Recording a0)] [.agg (cs_Recording v8)] [[.view, .own 5]], .box 6] [1, 2, 3, 8, 9, 10] [1, 3, 4, 5, 6] (s' := ⟨[(1, (.v (.one (.c (.int .i64 a1))))), (2, (.v (.one (.c (.int .i64 a2))))), (3, (.v (.one (.ptr 1 0)))), (8, (.v (.one (.ptr 4 0)))), (9, (.v (.one (.c (.bool v6.2))))), (10, (.v (.one (.ptr 6 0))))], [(1, (.box [(.c (.int .i64 a0.Bones)), (.c (sl 4 cs_Pose a0.Frames))])), (3, (.lst v6.1.Frames.length 4 (gl cs_Pose v6.1.Frames))), (4, (.box [(.c (.int .i64 v6.1.Bones)), (.lst 3 v6.1.Frames.length 4 (gl cs_Pose v6.1.Frames))])), (5, (.arr true v8.Frames.length 4 (gl cs_Pose v8.Frames))), (6, (.box [(.c (.int .i64 v8.Bones)), (.arr 5)]))]⟩) (ob := True ∧ ((((((.int .i64 a0.Bones) : C) = (.int .i64 a0.Bones)) ∧ (((sl 4 cs_Pose a0.Frames) : C) = (sl 4 cs_Pose a0.Frames)) ∧ True) ∧ True) ∧ CallOK Try.prog 23 [.agg (cs_Recording a0)] [.agg (cs_Recording v8)]) ∧ True ∧ True ∧ True) (by kernel_rfl) ⟨trivial, ⟨⟨⟨rfl, rfl, trivial⟩, trivial⟩, ok_laws_toRecording K a0 v8 e9⟩, trivial, trivial, trivial⟩ ?_
    refine thenQ_normal ?_
    refine AW.seq ?_
    obtain ⟨v10, e11, h⟩ := bind_some h
    refine AW.regionA [.no, .no, .no, .call [.agg (cs_Recording v8), .one (.int .i64 a1), .one (.int .i64 a2)] [.agg (cs_Recording v10.1), .one (.bool v10.2)] [[.view, .own 7], [.view]], .no, .no, .no, .box 8] [1, 2, 3, 8, 9, 10, 11, 12] [1, 3, 4, 5, 6, 7, 8] (s' := ⟨[(1, (.v (.one (.c (.int .i64 a1))))), (2, (.v (.one (.c (.int .i64 a2))))), (3, (.v (.one (.ptr 1 0)))), (8, (.v (.one (.ptr 4 0)))), (9, (.v (.one (.c (.bool v6.2))))), (10, (.v (.one (.ptr 6 0)))), (11, (.v (.one (.ptr 8 0)))), (12, (.v (.one (.c (.bool v10.2)))))], [(1, (.box [(.c (.int .i64 a0.Bones)), (.c (sl 4 cs_Pose a0.Frames))])), (3, (.lst v6.1.Frames.length 4 (gl cs_Pose v6.1.Frames))), (4, (.box [(.c (.int .i64 v6.1.Bones)), (.lst 3 v6.1.Frames.length 4 (gl cs_Pose v6.1.Frames))])), (5, (.arr true v8.Frames.length 4 (gl cs_Pose v8.Frames))), (6, (.box [(.c (.int .i64 v8.Bones)), (.arr 5)])), (7, (.arr true v10.1.Frames.length 4 (gl cs_Pose v10.1.Frames))), (8, (.box [(.c (.int .i64 v10.1.Bones)), (.arr 7)]))]⟩) (ob := True ∧ True ∧ True ∧ ((((((.int .i64 v8.Bones) : C) = (.int .i64 v8.Bones)) ∧ (((sl 4 cs_Pose v8.Frames) : C) = (sl 4 cs_Pose v8.Frames)) ∧ True) ∧ (((.int .i64 a1) : C) = (.int .i64 a1)) ∧ (((.int .i64 a2) : C) = (.int .i64 a2)) ∧ True) ∧ CallOK Try.prog 24 [.agg (cs_Recording v8), .one (.int .i64 a1), .one (.int .i64 a2)] [.agg (cs_Recording v10.1), .one (.bool v10.2)]) ∧ True ∧ True ∧ True ∧ True ∧ True ∧ True ∧ True) (by kernel_rfl) ⟨trivial, trivial, trivial, ⟨⟨⟨rfl, rfl, trivial⟩, rfl, rfl, trivial⟩, ok_impl_SliceFrames K v8 a1 a2 v10 e11⟩, trivial, trivial, trivial, trivial, trivial, trivial, trivial⟩ ?_
    refine thenQ_normal ?_
    refine AW.seq ?_
    refine AW.seq ?_
    obtain ⟨v12, e13, h⟩ := bind_some h
    obtain ⟨j15, e16, h⟩ := bind_some h
    refine AW.join1 (s2 := ⟨[(1, (.v (.one (.c (.int .i64 a1))))), (2, (.v (.one (.c (.int .i64 a2))))), (3, (.v (.one (.ptr 1 0)))), (8, (.v (.one (.ptr 4 0)))), (9, (.v (.one (.c (.bool v6.2))))), (10, (.v (.one (.ptr 6 0)))), (11, (.v (.one (.ptr 8 0)))), (12, (.v (.one (.c (.bool v10.2))))), (48, (.v (.one (.c (.bool j15)))))], [(1, (.box [(.c (.int .i64 a0.Bones)), (.c (sl 4 cs_Pose a0.Frames))])), (3, (.lst v6.1.Frames.length 4 (gl cs_Pose v6.1.Frames))), (4, (.box [(.c (.int .i64 v6.1.Bones)), (.lst 3 v6.1.Frames.length 4 (gl cs_Pose v6.1.Frames))])), (5, (.arr true v8.Frames.length 4 (gl cs_Pose v8.Frames))), (6, (.box [(.c (.int .i64 v8.Bones)), (.arr 5)])), (7, (.arr true v10.1.Frames.length 4 (gl cs_Pose v10.1.Frames))), (8, (.box [(.c (.int .i64 v10.1.Bones)), (.arr 7)]))]⟩) ?_ ?_
    · rcases ite2_cases e16 with ⟨b14, e16⟩ | ⟨b14, e16⟩
      · replace e16 := some_eq e16
        subst e16
        exact AW.regionA [.no, .no, .call [.agg (cs_Recording v10.1), .agg (cs_Recording v6.1)] [.one (.bool v12)] [[.view]], .no, .dec true] [1, 2, 3, 8, 9, 10, 11, 12, 48] [1, 3, 4, 5, 6, 7, 8] (s' := ⟨[(1, (.v (.one (.c (.int .i64 a1))))), (2, (.v (.one (.c (.int .i64 a2))))), (3, (.v (.one (.ptr 1 0)))), (8, (.v (.one (.ptr 4 0)))), (9, (.v (.one (.c (.bool v6.2))))), (10, (.v (.one (.ptr 6 0)))), (11, (.v (.one (.ptr 8 0)))), (12, (.v (.one (.c (.bool v10.2))))), (48, (.v (.one (.c (.bool true)))))], [(1, (.box [(.c (.int .i64 a0.Bones)), (.c (sl 4 cs_Pose a0.Frames))])), (3, (.lst v6.1.Frames.length 4 (gl cs_Pose v6.1.Frames))), (4, (.box [(.c (.int .i64 v6.1.Bones)), (.lst 3 v6.1.Frames.length 4 (gl cs_Pose v6.1.Frames))])), (5, (.arr true v8.Frames.length 4 (gl cs_Pose v8.Frames))), (6, (.box [(.c (.int .i64 v8.Bones)), (.arr 5)])), (7, (.arr true v10.1.Frames.length 4 (gl cs_Pose v10.1.Frames))), (8, (.box [(.c (.int .i64 v10.1.Bones)), (.arr 7)]))]⟩) (ob := True ∧ True ∧ ((((((.int .i64 v10.1.Bones) : C) = (.int .i64 v10.1.Bones)) ∧ (((sl 4 cs_Pose v10.1.Frames) : C) = (sl 4 cs_Pose v10.1.Frames)) ∧ True) ∧ ((((.int .i64 v6.1.Bones) : C) = (.int .i64 v6.1.Bones)) ∧ (((sl 4 cs_Pose v6.1.Frames) : C) = (sl 4 cs_Pose v6.1.Frames)) ∧ True) ∧ True) ∧ CallOK Try.prog 25 [.agg (cs_Recording v10.1), .agg (cs_Recording v6.1)] [.one (.bool v12)]) ∧ True ∧ (True ∧ (!v12) = true) ∧ True ∧ True ∧ True ∧ True ∧ True) (by kernel_rfl) ⟨trivial, trivial, ⟨⟨⟨rfl, rfl, trivial⟩, ⟨rfl, rfl, trivial⟩, trivial⟩, ok_laws_eqRecording K v10.1 v6.1 v12 e13⟩, trivial, ⟨trivial, b14⟩, trivial, trivial, trivial, trivial, trivial⟩ ⟨rfl, rfl⟩
      · replace e16 := some_eq e16
        subst e16
        exact AW.regionA [.no, .no, .call [.agg (cs_Recording v10.1), .agg (cs_Recording v6.1)] [.one (.bool v12)] [[.view]], .no, .dec false] [1, 2, 3, 8, 9, 10, 11, 12, 48] [1, 3, 4, 5, 6, 7, 8] (s' := ⟨[(1, (.v (.one (.c (.int .i64 a1))))), (2, (.v (.one (.c (.int .i64 a2))))), (3, (.v (.one (.ptr 1 0)))), (8, (.v (.one (.ptr 4 0)))), (9, (.v (.one (.c (.bool v6.2))))), (10, (.v (.one (.ptr 6 0)))), (11, (.v (.one (.ptr 8 0)))), (12, (.v (.one (.c (.bool v10.2))))), (48, (.v (.one (.c (.bool (!(v10.2 == v6.2)))))))], [(1, (.box [(.c (.int .i64 a0.Bones)), (.c (sl 4 cs_Pose a0.Frames))])), (3, (.lst v6.1.Frames.length 4 (gl cs_Pose v6.1.Frames))), (4, (.box [(.c (.int .i64 v6.1.Bones)), (.lst 3 v6.1.Frames.length 4 (gl cs_Pose v6.1.Frames))])), (5, (.arr true v8.Frames.length 4 (gl cs_Pose v8.Frames))), (6, (.box [(.c (.int .i64 v8.Bones)), (.arr 5)])), (7, (.arr true v10.1.Frames.length 4 (gl cs_Pose v10.1.Frames))), (8, (.box [(.c (.int .i64 v10.1.Bones)), (.arr 7)]))]⟩) (ob := True ∧ True ∧ ((((((.int .i64 v10.1.Bones) : C) = (.int .i64 v10.1.Bones)) ∧ (((sl 4 cs_Pose v10.1.Frames) : C) = (sl 4 cs_Pose v10.1.Frames)) ∧ True) ∧ ((((.int .i64 v6.1.Bones) : C) = (.int .i64 v6.1.Bones)) ∧ (((sl 4 cs_Pose v6.1.Frames) : C) = (sl 4 cs_Pose v6.1.Frames)) ∧ True) ∧ True) ∧ CallOK Try.prog 25 [.agg (cs_Recording v10.1), .agg (cs_Recording v6.1)] [.one (.bool v12)]) ∧ True ∧ (True ∧ (!v12) = false) ∧ True ∧ True ∧ True ∧ True ∧ True) (by kernel_rfl) ⟨trivial, trivial, ⟨⟨⟨rfl, rfl, trivial⟩, ⟨rfl, rfl, trivial⟩, trivial⟩, ok_laws_eqRecording K v10.1 v6.1 v12 e13⟩, trivial, ⟨trivial, b14⟩, trivial, trivial, trivial, trivial, trivial⟩ ⟨rfl, rfl⟩
    refine thenQ_normal ?_
    rcases ite2_cases h with ⟨b17, h⟩ | ⟨b17, h⟩
    · refine AW.cond_t rfl b17 ?_
      refine AW.seq ?_
      refine AW.regionA [] [6] [] (s' := ⟨[(6, (.v (.one (.c (.bool false)))))], []⟩) (ob := True ∧ True) (by kernel_rfl) ⟨trivial, trivial⟩ ?_
      refine thenQ_normal ?_
      refine AW.ret ?_
      refine thenQ_ret ?_
      replace h := some_eq h
      subst h
      exact ⟨.inr rfl, retOK_of [(.one (.c (.bool false)))] (by kernel_rfl) ⟨⟨rfl, trivial⟩, trivial⟩ (of_decide_eq_true (by kernel_rfl))⟩
    · refine AW.cond_f rfl b17 ?_
      refine AW.skip ?_
      refine thenQ_normal ?_
      refine AW.seq ?_
      refine AW.seq ?_
      obtain ⟨v18, e19, h⟩ := bind_some h
      obtain ⟨v20, e21, h⟩ := bind_some h
      refine AW.drawnA (by kernel_rfl) 5 [.no, .no, .call [.agg (cs_Recording a0)] [.agg (cs_Recording v18)] [[.view, .lst 9]], .call [.agg (cs_Recording v8), .agg (cs_Recording v18)] [.one (.bool v20)] [[.view]]] [1, 2, 3, 8, 9, 10, 11, 12, 53] [1, 3, 4, 5, 6, 7, 8] (s' := ⟨[(1, (.v (.one (.c (.int .i64 a1))))), (2, (.v (.one (.c (.int .i64 a2))))), (3, (.v (.one (.ptr 1 0)))), (8, (.v (.one (.ptr 4 0)))), (9, (.v (.one (.c (.bool v6.2))))), (10, (.v (.one (.ptr 6 0)))), (11, (.v (.one (.ptr 8 0)))), (12, (.v (.one (.c (.bool v10.2))))), (53, (.v (.one (.c (.bool (!v20))))))], [(1, (.box [(.c (.int .i64 a0.Bones)), (.c (sl 4 cs_Pose a0.Frames))])), (3, (.lst v6.1.Frames.length 4 (gl cs_Pose v6.1.Frames))), (4, (.box [(.c (.int .i64 v6.1.Bones)), (.lst 3 v6.1.Frames.length 4 (gl cs_Pose v6.1.Frames))])), (5, (.arr true v8.Frames.length 4 (gl cs_Pose v8.Frames))), (6, (.box [(.c (.int .i64 v8.Bones)), (.arr 5)])), (7, (.arr true v10.1.Frames.length 4 (gl cs_Pose v10.1.Frames))), (8, (.box [(.c (.int .i64 v10.1.Bones)), (.arr 7)]))]⟩) (ob := (True ∧ True ∧ ((((((.int .i64 a0.Bones) : C) = (.int .i64 a0.Bones)) ∧ (((sl 4 cs_Pose a0.Frames) : C) = (sl 4 cs_Pose a0.Frames)) ∧ True) ∧ True) ∧ CallOK Try.prog 23 [.agg (cs_Recording a0)] [.agg (cs_Recording v18)]) ∧ ((((((.int .i64 v8.Bones) : C) = (.int .i64 v8.Bones)) ∧ (((sl 4 cs_Pose v8.Frames) : C) = (sl 4 cs_Pose v8.Frames)) ∧ True) ∧ ((((.int .i64 v18.Bones) : C) = (.int .i64 v18.Bones)) ∧ (((sl 4 cs_Pose v18.Frames) : C) = (sl 4 cs_Pose v18.Frames)) ∧ True) ∧ True) ∧ CallOK Try.prog 25 [.agg (cs_Recording v8), .agg (cs_Recording v18)] [.one (.bool v20)]) ∧ True ∧ True) ∧ (True)) (by kernel_rfl) ⟨⟨trivial, trivial, ⟨⟨⟨rfl, rfl, trivial⟩, trivial⟩, ok_laws_toRecording K a0 v18 e19⟩, ⟨⟨⟨rfl, rfl, trivial⟩, ⟨rfl, rfl, trivial⟩, trivial⟩, ok_laws_eqRecording K v8 v18 v20 e21⟩, trivial, trivial⟩, trivial⟩ ?_
      refine thenQ_normal ?_
      rcases ite2_cases h with ⟨b22, h⟩ | ⟨b22, h⟩
      · refine AW.cond_t rfl b22 ?_
        refine AW.seq ?_
        refine AW.regionA [] [6] [] (s' := ⟨[(6, (.v (.one (.c (.bool false)))))], []⟩) (ob := True ∧ True) (by kernel_rfl) ⟨trivial, trivial⟩ ?_
        refine thenQ_normal ?_
        refine AW.ret ?_
        refine thenQ_ret ?_
        replace h := some_eq h
        subst h
        exact ⟨.inr rfl, retOK_of [(.one (.c (.bool false)))] (by kernel_rfl) ⟨⟨rfl, trivial⟩, trivial⟩ (of_decide_eq_true (by kernel_rfl))⟩
      · refine AW.cond_f rfl b22 ?_
        refine AW.skip ?_
        refine thenQ_normal ?_
        refine AW.seq ?_
        refine AW.regionA [] [1, 2, 3, 8, 9, 10, 11, 12, 13] [1, 3, 4, 5, 6, 7, 8] (s' := ⟨[(1, (.v (.one (.c (.int .i64 a1))))), (2, (.v (.one (.c (.int .i64 a2))))), (3, (.v (.one (.ptr 1 0)))), (8, (.v (.one (.ptr 4 0)))), (9, (.v (.one (.c (.bool v6.2))))), (10, (.v (.one (.ptr 6 0)))), (11, (.v (.one (.ptr 8 0)))), (12, (.v (.one (.c (.bool v10.2))))), (13, (.v (.one (.c (.int .i64 (1 : Int))))))], [(1, (.box [(.c (.int .i64 a0.Bones)), (.c (sl 4 cs_Pose a0.Frames))])), (3, (.lst v6.1.Frames.length 4 (gl cs_Pose v6.1.Frames))), (4, (.box [(.c (.int .i64 v6.1.Bones)), (.lst 3 v6.1.Frames.length 4 (gl cs_Pose v6.1.Frames))])), (5, (.arr true v8.Frames.length 4 (gl cs_Pose v8.Frames))), (6, (.box [(.c (.int .i64 v8.Bones)), (.arr 5)])), (7, (.arr true v10.1.Frames.length 4 (gl cs_Pose v10.1.Frames))), (8, (.box [(.c (.int .i64 v10.1.Bones)), (.arr 7)]))]⟩) (ob := True ∧ True) (by kernel_rfl) ⟨trivial, trivial⟩ ?_
        refine thenQ_normal ?_
        refine AW.seq ?_
        obtain ⟨v23, e24, h⟩ := bind_some h
        obtain ⟨c25, h⟩ := chk_some h
        refine AW.regionA [.no, .no, .callM [(.agg [(.ro (.int .i64 v8.Bones)), (.mu (sl 4 cs_Pose v8.Frames) (sl 4 cs_Pose v23.2))]), .one (.ro (.int .i64 (1 : Int)))] [.one (.int .i64 v23.1)] [[.view]] none] [1, 2, 3, 8, 9, 11, 12, 13] [1, 3, 4, 7, 8] (s' := ⟨[(1, (.v (.one (.c (.int .i64 a1))))), (2, (.v (.one (.c (.int .i64 a2))))), (3, (.v (.one (.ptr 1 0)))), (8, (.v (.one (.ptr 4 0)))), (9, (.v (.one (.c (.bool v6.2))))), (11, (.v (.one (.ptr 8 0)))), (12, (.v (.one (.c (.bool v10.2))))), (13, (.v (.one (.c (.int .i64 v23.1)))))], [(1, (.box [(.c (.int .i64 a0.Bones)), (.c (sl 4 cs_Pose a0.Frames))])), (3, (.lst v6.1.Frames.length 4 (gl cs_Pose v6.1.Frames))), (4, (.box [(.c (.int .i64 v6.1.Bones)), (.lst 3 v6.1.Frames.length 4 (gl cs_Pose v6.1.Frames))])), (7, (.arr true v10.1.Frames.length 4 (gl cs_Pose v10.1.Frames))), (8, (.box [(.c (.int .i64 v10.1.Bones)), (.arr 7)]))]⟩) (ob := True ∧ True ∧ ((((((.int .i64 v8.Bones) : C) = (.int .i64 v8.Bones)) ∧ (((sl 4 cs_Pose v8.Frames) : C) = (sl 4 cs_Pose v8.Frames) ∧ v23.2.length = v8.Frames.length ∧ 4 = 4 ∧ ∀ i j, i < v8.Frames.length → j < 4 → isSeq (gl cs_Pose v23.2 i j) = isSeq (gl cs_Pose v8.Frames i j)) ∧ True) ∧ (((.int .i64 (1 : Int)) : C) = (.int .i64 (1 : Int))) ∧ True) ∧ MutOK Try.prog 26 [(.agg [(.ro (.int .i64 v8.Bones)), (.mu (sl 4 cs_Pose v8.Frames) (sl 4 cs_Pose v23.2))]), .one (.ro (.int .i64 (1 : Int)))] [.one (.int .i64 v23.1)]) ∧ True ∧ True) (by kernel_rfl) ⟨trivial, trivial, ⟨⟨⟨rfl, ⟨rfl, c25, rfl, gl_seq sq_Pose⟩, trivial⟩, rfl, trivial⟩, ok_laws_markRecording K v8 (1 : Int) v23 e24⟩, trivial, trivial⟩ ?_
        refine thenQ_normal ?_
        refine AW.seq ?_
        refine AW.seq ?_
        obtain ⟨j30, e31, h⟩ := bind_some h
        refine AW.join1 (s2 := ⟨[(1, (.v (.one (.c (.int .i64 a1))))), (2, (.v (.one (.c (.int .i64 a2))))), (3, (.v (.one (.ptr 1 0)))), (8, (.v (.one (.ptr 4 0)))), (9, (.v (.one (.c (.bool v6.2))))), (11, (.v (.one (.ptr 8 0)))), (69, (.v (.one (.c (.bool j30)))))], [(1, (.box [(.c (.int .i64 a0.Bones)), (.c (sl 4 cs_Pose a0.Frames))])), (3, (.lst v6.1.Frames.length 4 (gl cs_Pose v6.1.Frames))), (4, (.box [(.c (.int .i64 v6.1.Bones)), (.lst 3 v6.1.Frames.length 4 (gl cs_Pose v6.1.Frames))])), (7, (.arr true v10.1.Frames.length 4 (gl cs_Pose v10.1.Frames))), (8, (.box [(.c (.int .i64 v10.1.Bones)), (.arr 7)]))]⟩) ?_ ?_
        · rcases ite2_cases e31 with ⟨b26, e31⟩ | ⟨b26, e31⟩
          · replace e31 := some_eq e31
            subst e31
            exact AW.regionA [.no, .no, .dec true] [1, 2, 3, 8, 9, 11, 69] [1, 3, 4, 7, 8] (s' := ⟨[(1, (.v (.one (.c (.int .i64 a1))))), (2, (.v (.one (.c (.int .i64 a2))))), (3, (.v (.one (.ptr 1 0)))), (8, (.v (.one (.ptr 4 0)))), (9, (.v (.one (.c (.bool v6.2))))), (11, (.v (.one (.ptr 8 0)))), (69, (.v (.one (.c (.bool true)))))], [(1, (.box [(.c (.int .i64 a0.Bones)), (.c (sl 4 cs_Pose a0.Frames))])), (3, (.lst v6.1.Frames.length 4 (gl cs_Pose v6.1.Frames))), (4, (.box [(.c (.int .i64 v6.1.Bones)), (.lst 3 v6.1.Frames.length 4 (gl cs_Pose v6.1.Frames))])), (7, (.arr true v10.1.Frames.length 4 (gl cs_Pose v10.1.Frames))), (8, (.box [(.c (.int .i64 v10.1.Bones)), (.arr 7)]))]⟩) (ob := True ∧ True ∧ (True ∧ (decide (v23.1 < (0 : Int))) = true) ∧ True ∧ True ∧ True ∧ True ∧ True ∧ True ∧ True ∧ True ∧ True ∧ True ∧ True) (by kernel_rfl) ⟨trivial, trivial, ⟨trivial, b26⟩, trivial, trivial, trivial, trivial, trivial, trivial, trivial, trivial, trivial, trivial, trivial⟩ ⟨rfl, rfl⟩
          · obtain ⟨v27, e28, e31⟩ := bind_some e31
            rcases ite2_cases e31 with ⟨b29, e31⟩ | ⟨b29, e31⟩
            · replace e31 := some_eq e31
              subst e31
              exact AW.regionA [.no, .no, .dec false, .no, .no, .call [.agg (cs_Recording v10.1), .agg (cs_Recording v6.1)] [.one (.bool v27)] [[.view]], .no, .no, .dec true] [1, 2, 3, 8, 9, 11, 69] [1, 3, 4, 7, 8] (s' := ⟨[(1, (.v (.one (.c (.int .i64 a1))))), (2, (.v (.one (.c (.int .i64 a2))))), (3, (.v (.one (.ptr 1 0)))), (8, (.v (.one (.ptr 4 0)))), (9, (.v (.one (.c (.bool v6.2))))), (11, (.v (.one (.ptr 8 0)))), (69, (.v (.one (.c (.bool true)))))], [(1, (.box [(.c (.int .i64 a0.Bones)), (.c (sl 4 cs_Pose a0.Frames))])), (3, (.lst v6.1.Frames.length 4 (gl cs_Pose v6.1.Frames))), (4, (.box [(.c (.int .i64 v6.1.Bones)), (.lst 3 v6.1.Frames.length 4 (gl cs_Pose v6.1.Frames))])), (7, (.arr true v10.1.Frames.length 4 (gl cs_Pose v10.1.Frames))), (8, (.box [(.c (.int .i64 v10.1.Bones)), (.arr 7)]))]⟩) (ob := True ∧ True ∧ (True ∧ (decide (v23.1 < (0 : Int))) = false) ∧ True ∧ True ∧ ((((((.int .i64 v10.1.Bones) : C) = (.int .i64 v10.1.Bones)) ∧ (((sl 4 cs_Pose v10.1.Frames) : C) = (sl 4 cs_Pose v10.1.Frames)) ∧ True) ∧ ((((.int .i64 v6.1.Bones) : C) = (.int .i64 v6.1.Bones)) ∧ (((sl 4 cs_Pose v6.1.Frames) : C) = (sl 4 cs_Pose v6.1.Frames)) ∧ True) ∧ True) ∧ CallOK Try.prog 25 [.agg (cs_Recording v10.1), .agg (cs_Recording v6.1)] [.one (.bool v27)]) ∧ True ∧ True ∧ (True ∧ (!v27) = true) ∧ True ∧ True ∧ True ∧ True ∧ True) (by kernel_rfl) ⟨trivial, trivial, ⟨trivial, b26⟩, trivial, trivial, ⟨⟨⟨rfl, rfl, trivial⟩, ⟨rfl, rfl, trivial⟩, trivial⟩, ok_laws_eqRecording K v10.1 v6.1 v27 e28⟩, trivial, trivial, ⟨trivial, b29⟩, trivial, trivial, trivial, trivial, trivial⟩ ⟨rfl, rfl⟩
            · replace e31 := some_eq e31
              subst e31
              exact AW.regionA [.no, .no, .dec false, .no, .no, .call [.agg (cs_Recording v10.1), .agg (cs_Recording v6.1)] [.one (.bool v27)] [[.view]], .no, .no, .dec false] [1, 2, 3, 8, 9, 11, 69] [1, 3, 4, 7, 8] (s' := ⟨[(1, (.v (.one (.c (.int .i64 a1))))), (2, (.v (.one (.c (.int .i64 a2))))), (3, (.v (.one (.ptr 1 0)))), (8, (.v (.one (.ptr 4 0)))), (9, (.v (.one (.c (.bool v6.2))))), (11, (.v (.one (.ptr 8 0)))), (69, (.v (.one (.c (.bool (!(v10.2 == v6.2)))))))], [(1, (.box [(.c (.int .i64 a0.Bones)), (.c (sl 4 cs_Pose a0.Frames))])), (3, (.lst v6.1.Frames.length 4 (gl cs_Pose v6.1.Frames))), (4, (.box [(.c (.int .i64 v6.1.Bones)), (.lst 3 v6.1.Frames.length 4 (gl cs_Pose v6.1.Frames))])), (7, (.arr true v10.1.Frames.length 4 (gl cs_Pose v10.1.Frames))), (8, (.box [(.c (.int .i64 v10.1.Bones)), (.arr 7)]))]⟩) (ob := True ∧ True ∧ (True ∧ (decide (v23.1 < (0 : Int))) = false) ∧ True ∧ True ∧ ((((((.int .i64 v10.1.Bones) : C) = (.int .i64 v10.1.Bones)) ∧ (((sl 4 cs_Pose v10.1.Frames) : C) = (sl 4 cs_Pose v10.1.Frames)) ∧ True) ∧ ((((.int .i64 v6.1.Bones) : C) = (.int .i64 v6.1.Bones)) ∧ (((sl 4 cs_Pose v6.1.Frames) : C) = (sl 4 cs_Pose v6.1.Frames)) ∧ True) ∧ True) ∧ CallOK Try.prog 25 [.agg (cs_Recording v10.1), .agg (cs_Recording v6.1)] [.one (.bool v27)]) ∧ True ∧ True ∧ (True ∧ (!v27) = false) ∧ True ∧ True ∧ True ∧ True ∧ True) (by kernel_rfl) ⟨trivial, trivial, ⟨trivial, b26⟩, trivial, trivial, ⟨⟨⟨rfl, rfl, trivial⟩, ⟨rfl, rfl, trivial⟩, trivial⟩, ok_laws_eqRecording K v10.1 v6.1 v27 e28⟩, trivial, trivial, ⟨trivial, b29⟩, trivial, trivial, trivial, trivial, trivial⟩ ⟨rfl, rfl⟩
        refine thenQ_normal ?_
        rcases ite2_cases h with ⟨b32, h⟩ | ⟨b32, h⟩
        · refine AW.cond_t rfl b32 ?_
          refine AW.seq ?_
          refine AW.regionA [] [6] [] (s' := ⟨[(6, (.v (.one (.c (.bool false)))))], []⟩) (ob := True ∧ True) (by kernel_rfl) ⟨trivial, trivial⟩ ?_
          refine thenQ_normal ?_
          refine AW.ret ?_
          refine thenQ_ret ?_
          replace h := some_eq h
          subst h
          exact ⟨.inr rfl, retOK_of [(.one (.c (.bool false)))] (by kernel_rfl) ⟨⟨rfl, trivial⟩, trivial⟩ (of_decide_eq_true (by kernel_rfl))⟩
        · refine AW.cond_f rfl b32 ?_
          refine AW.skip ?_
          refine thenQ_normal ?_
          refine AW.seq ?_
          refine AW.regionA [] [1, 2, 3, 8, 9, 11, 14] [1, 3, 4, 7, 8] (s' := ⟨[(1, (.v (.one (.c (.int .i64 a1))))), (2, (.v (.one (.c (.int .i64 a2))))), (3, (.v (.one (.ptr 1 0)))), (8, (.v (.one (.ptr 4 0)))), (9, (.v (.one (.c (.bool v6.2))))), (11, (.v (.one (.ptr 8 0)))), (14, (.v (.one (.c (.int .i64 (1 : Int))))))], [(1, (.box [(.c (.int .i64 a0.Bones)), (.c (sl 4 cs_Pose a0.Frames))])), (3, (.lst v6.1.Frames.length 4 (gl cs_Pose v6.1.Frames))), (4, (.box [(.c (.int .i64 v6.1.Bones)), (.lst 3 v6.1.Frames.length 4 (gl cs_Pose v6.1.Frames))])), (7, (.arr true v10.1.Frames.length 4 (gl cs_Pose v10.1.Frames))), (8, (.box [(.c (.int .i64 v10.1.Bones)), (.arr 7)]))]⟩) (ob := True ∧ True) (by kernel_rfl) ⟨trivial, trivial⟩ ?_
          refine thenQ_normal ?_
          refine AW.seq ?_
          obtain ⟨v33, e34, h⟩ := bind_some h
          obtain ⟨c35, h⟩ := chk_some h
          refine AW.regionA [.no, .no, .callM [(.agg [(.ro (.int .i64 v10.1.Bones)), (.mu (sl 4 cs_Pose v10.1.Frames) (sl 4 cs_Pose v33.2))]), .one (.ro (.int .i64 (1 : Int)))] [.one (.int .i64 v33.1)] [[.view]] none] [1, 2, 3, 8, 9, 11, 14] [1, 3, 4, 7, 8] (s' := ⟨[(1, (.v (.one (.c (.int .i64 a1))))), (2, (.v (.one (.c (.int .i64 a2))))), (3, (.v (.one (.ptr 1 0)))), (8, (.v (.one (.ptr 4 0)))), (9, (.v (.one (.c (.bool v6.2))))), (11, (.v (.one (.ptr 8 0)))), (14, (.v (.one (.c (.int .i64 v33.1)))))], [(1, (.box [(.c (.int .i64 a0.Bones)), (.c (sl 4 cs_Pose a0.Frames))])), (3, (.lst v6.1.Frames.length 4 (gl cs_Pose v6.1.Frames))), (4, (.box [(.c (.int .i64 v6.1.Bones)), (.lst 3 v6.1.Frames.length 4 (gl cs_Pose v6.1.Frames))])), (7, (.arr true v33.2.length 4 (gl cs_Pose v33.2))), (8, (.box [(.c (.int .i64 v10.1.Bones)), (.arr 7)]))]⟩) (ob := True ∧ True ∧ ((((((.int .i64 v10.1.Bones) : C) = (.int .i64 v10.1.Bones)) ∧ (((sl 4 cs_Pose v10.1.Frames) : C) = (sl 4 cs_Pose v10.1.Frames) ∧ v33.2.length = v10.1.Frames.length ∧ 4 = 4 ∧ ∀ i j, i < v10.1.Frames.length → j < 4 → isSeq (gl cs_Pose v33.2 i j) = isSeq (gl cs_Pose v10.1.Frames i j)) ∧ True) ∧ (((.int .i64 (1 : Int)) : C) = (.int .i64 (1 : Int))) ∧ True) ∧ MutOK Try.prog 26 [(.agg [(.ro (.int .i64 v10.1.Bones)), (.mu (sl 4 cs_Pose v10.1.Frames) (sl 4 cs_Pose v33.2))]), .one (.ro (.int .i64 (1 : Int)))] [.one (.int .i64 v33.1)]) ∧ True ∧ True) (by kernel_rfl) ⟨trivial, trivial, ⟨⟨⟨rfl, ⟨rfl, c35, rfl, gl_seq sq_Pose⟩, trivial⟩, rfl, trivial⟩, ok_laws_markRecording K v10.1 (1 : Int) v33 e34⟩, trivial, trivial⟩ ?_
          refine thenQ_normal ?_
          refine AW.seq ?_
          refine AW.regionA [] [1, 2, 3, 8, 9, 11, 14, 15] [1, 3, 4, 7, 8] (s' := ⟨[(1, (.v (.one (.c (.int .i64 a1))))), (2, (.v (.one (.c (.int .i64 a2))))), (3, (.v (.one (.ptr 1 0)))), (8, (.v (.one (.ptr 4 0)))), (9, (.v (.one (.c (.bool v6.2))))), (11, (.v (.one (.ptr 8 0)))), (14, (.v (.one (.c (.int .i64 v33.1))))), (15, (.v (.one (.c (.int .i64 (1 : Int))))))], [(1, (.box [(.c (.int .i64 a0.Bones)), (.c (sl 4 cs_Pose a0.Frames))])), (3, (.lst v6.1.Frames.length 4 (gl cs_Pose v6.1.Frames))), (4, (.box [(.c (.int .i64 v6.1.Bones)), (.lst 3 v6.1.Frames.length 4 (gl cs_Pose v6.1.Frames))])), (7, (.arr true v33.2.length 4 (gl cs_Pose v33.2))), (8, (.box [(.c (.int .i64 v10.1.Bones)), (.arr 7)]))]⟩) (ob := True ∧ True) (by kernel_rfl) ⟨trivial, trivial⟩ ?_
          refine thenQ_normal ?_
          refine AW.seq ?_
          obtain ⟨v36, e37, h⟩ := bind_some h
          refine AW.regionA [.no, .no, .call [.agg (cs_Recording (Recording.mk v10.1.Bones v33.2)), .one (.int .i64 (1 : Int))] [.one (.int .i64 v36)] [[.view]]] [1, 2, 3, 8, 9, 11, 14, 15] [1, 3, 4, 7, 8] (s' := ⟨[(1, (.v (.one (.c (.int .i64 a1))))), (2, (.v (.one (.c (.int .i64 a2))))), (3, (.v (.one (.ptr 1 0)))), (8, (.v (.one (.ptr 4 0)))), (9, (.v (.one (.c (.bool v6.2))))), (11, (.v (.one (.ptr 8 0)))), (14, (.v (.one (.c (.int .i64 v33.1))))), (15, (.v (.one (.c (.int .i64 v36)))))], [(1, (.box [(.c (.int .i64 a0.Bones)), (.c (sl 4 cs_Pose a0.Frames))])), (3, (.lst v6.1.Frames.length 4 (gl cs_Pose v6.1.Frames))), (4, (.box [(.c (.int .i64 v6.1.Bones)), (.lst 3 v6.1.Frames.length 4 (gl cs_Pose v6.1.Frames))])), (7, (.arr true v33.2.length 4 (gl cs_Pose v33.2))), (8, (.box [(.c (.int .i64 v10.1.Bones)), (.arr 7)]))]⟩) (ob := True ∧ True ∧ ((((((.int .i64 v10.1.Bones) : C) = (.int .i64 v10.1.Bones)) ∧ (((sl 4 cs_Pose v33.2) : C) = (sl 4 cs_Pose v33.2)) ∧ True) ∧ (((.int .i64 (1 : Int)) : C) = (.int .i64 (1 : Int))) ∧ True) ∧ CallOK Try.prog 27 [.agg (cs_Recording (Recording.mk v10.1.Bones v33.2)), .one (.int .i64 (1 : Int))] [.one (.int .i64 v36)]) ∧ True ∧ True) (by kernel_rfl) ⟨trivial, trivial, ⟨⟨⟨rfl, rfl, trivial⟩, rfl, trivial⟩, ok_laws_heldRecording K (Recording.mk v10.1.Bones v33.2) (1 : Int) v36 e37⟩, trivial, trivial⟩ ?_
          refine thenQ_normal ?_
          refine AW.seq ?_
          refine AW.seq ?_
          refine AW.regionA [] [1, 2, 3, 8, 9, 11, 14, 15, 77] [1, 3, 4, 7, 8] (s' := ⟨[(1, (.v (.one (.c (.int .i64 a1))))), (2, (.v (.one (.c (.int .i64 a2))))), (3, (.v (.one (.ptr 1 0)))), (8, (.v (.one (.ptr 4 0)))), (9, (.v (.one (.c (.bool v6.2))))), (11, (.v (.one (.ptr 8 0)))), (14, (.v (.one (.c (.int .i64 v33.1))))), (15, (.v (.one (.c (.int .i64 v36))))), (77, (.v (.one (.c (.bool (decide (v36 < (0 : Int))))))))], [(1, (.box [(.c (.int .i64 a0.Bones)), (.c (sl 4 cs_Pose a0.Frames))])), (3, (.lst v6.1.Frames.length 4 (gl cs_Pose v6.1.Frames))), (4, (.box [(.c (.int .i64 v6.1.Bones)), (.lst 3 v6.1.Frames.length 4 (gl cs_Pose v6.1.Frames))])), (7, (.arr true v33.2.length 4 (gl cs_Pose v33.2))), (8, (.box [(.c (.int .i64 v10.1.Bones)), (.arr 7)]))]⟩) (ob := True ∧ True ∧ True) (by kernel_rfl) ⟨trivial, trivial, trivial⟩ ?_
          refine thenQ_normal ?_
          rcases ite2_cases h with ⟨b38, h⟩ | ⟨b38, h⟩
          · refine AW.cond_t rfl b38 ?_
            refine AW.seq ?_
            refine AW.regionA [] [6] [] (s' := ⟨[(6, (.v (.one (.c (.bool false)))))], []⟩) (ob := True ∧ True) (by kernel_rfl) ⟨trivial, trivial⟩ ?_
            refine thenQ_normal ?_
            refine AW.ret ?_
            refine thenQ_ret ?_
            replace h := some_eq h
            subst h
            exact ⟨.inr rfl, retOK_of [(.one (.c (.bool false)))] (by kernel_rfl) ⟨⟨rfl, trivial⟩, trivial⟩ (of_decide_eq_true (by kernel_rfl))⟩
          · refine AW.cond_f rfl b38 ?_
            refine AW.skip ?_
            refine thenQ_normal ?_
            refine AW.seq ?_
            refine AW.seq ?_
            refine AW.regionA [] [1, 2, 3, 8, 9, 11, 14, 80] [1, 3, 4, 7, 8] (s' := ⟨[(1, (.v (.one (.c (.int .i64 a1))))), (2, (.v (.one (.c (.int .i64 a2))))), (3, (.v (.one (.ptr 1 0)))), (8, (.v (.one (.ptr 4 0)))), (9, (.v (.one (.c (.bool v6.2))))), (11, (.v (.one (.ptr 8 0)))), (14, (.v (.one (.c (.int .i64 v33.1))))), (80, (.v (.one (.c (.bool (v36 != v33.1))))))], [(1, (.box [(.c (.int .i64 a0.Bones)), (.c (sl 4 cs_Pose a0.Frames))])), (3, (.lst v6.1.Frames.length 4 (gl cs_Pose v6.1.Frames))), (4, (.box [(.c (.int .i64 v6.1.Bones)), (.lst 3 v6.1.Frames.length 4 (gl cs_Pose v6.1.Frames))])), (7, (.arr true v33.2.length 4 (gl cs_Pose v33.2))), (8, (.box [(.c (.int .i64 v10.1.Bones)), (.arr 7)]))]⟩) (ob := True ∧ True ∧ True ∧ True) (by kernel_rfl) ⟨trivial, trivial, trivial, trivial⟩ ?_
            refine thenQ_normal ?_
            rcases ite2_cases h with ⟨b39, h⟩ | ⟨b39, h⟩
            · refine AW.cond_t rfl b39 ?_
              refine AW.seq ?_
              refine AW.regionA [] [6] [] (s' := ⟨[(6, (.v (.one (.c (.bool false)))))], []⟩) (ob := True ∧ True) (by kernel_rfl) ⟨trivial, trivial⟩ ?_
              refine thenQ_normal ?_
              refine AW.ret ?_
              refine thenQ_ret ?_
              replace h := some_eq h
              subst h
              exact ⟨.inr rfl, retOK_of [(.one (.c (.bool false)))] (by kernel_rfl) ⟨⟨rfl, trivial⟩, trivial⟩ (of_decide_eq_true (by kernel_rfl))⟩
            · refine AW.cond_f rfl b39 ?_
              refine AW.skip ?_
              refine thenQ_normal ?_
              refine AW.seq ?_
              obtain ⟨v40, e41, h⟩ := bind_some h
              obtain ⟨v42, e43, h⟩ := bind_some h
              refine AW.regionA [.no, .call [.agg (cs_Recording a0)] [.agg (cs_Recording v40)] [[.view, .lst 10]], .no, .no, .call [.agg (cs_Recording v40), .one (.int .i64 a1), .one (.int .i64 a2)] [.agg (cs_Recording v42.1), .one (.bool v42.2)] [[.view, .lst 11], [.view]], .no, .no, .no, .box 12] [8, 9, 11, 14, 16, 17] [3, 4, 7, 8, 11, 12] (s' := ⟨[(8, (.v (.one (.ptr 4 0)))), (9, (.v (.one (.c (.bool v6.2))))), (11, (.v (.one (.ptr 8 0)))), (14, (.v (.one (.c (.int .i64 v33.1))))), (16, (.v (.one (.ptr 12 0)))), (17, (.v (.one (.c (.bool v42.2)))))], [(3, (.lst v6.1.Frames.length 4 (gl cs_Pose v6.1.Frames))), (4, (.box [(.c (.int .i64 v6.1.Bones)), (.lst 3 v6.1.Frames.length 4 (gl cs_Pose v6.1.Frames))])), (7, (.arr true v33.2.length 4 (gl cs_Pose v33.2))), (8, (.box [(.c (.int .i64 v10.1.Bones)), (.arr 7)])), (11, (.lst v42.1.Frames.length 4 (gl cs_Pose v42.1.Frames))), (12, (.box [(.c (.int .i64 v42.1.Bones)), (.lst 11 v42.1.Frames.length 4 (gl cs_Pose v42.1.Frames))]))]⟩) (ob := True ∧ ((((((.int .i64 a0.Bones) : C) = (.int .i64 a0.Bones)) ∧ (((sl 4 cs_Pose a0.Frames) : C) = (sl 4 cs_Pose a0.Frames)) ∧ True) ∧ True) ∧ CallOK Try.prog 23 [.agg (cs_Recording a0)] [.agg (cs_Recording v40)]) ∧ True ∧ True ∧ ((((((.int .i64 v40.Bones) : C) = (.int .i64 v40.Bones)) ∧ (((sl 4 cs_Pose v40.Frames) : C) = (sl 4 cs_Pose v40.Frames)) ∧ True) ∧ (((.int .i64 a1) : C) = (.int .i64 a1)) ∧ (((.int .i64 a2) : C) = (.int .i64 a2)) ∧ True) ∧ CallOK Try.prog 24 [.agg (cs_Recording v40), .one (.int .i64 a1), .one (.int .i64 a2)] [.agg (cs_Recording v42.1), .one (.bool v42.2)]) ∧ True ∧ True ∧ True ∧ True ∧ True ∧ True ∧ True) (by kernel_rfl) ⟨trivial, ⟨⟨⟨rfl, rfl, trivial⟩, trivial⟩, ok_laws_toRecording K a0 v40 e41⟩, trivial, trivial, ⟨⟨⟨rfl, rfl, trivial⟩, rfl, rfl, trivial⟩, ok_impl_SliceFrames K v40 a1 a2 v42 e43⟩, trivial, trivial, trivial, trivial, trivial, trivial, trivial⟩ ?_
              refine thenQ_normal ?_
              refine AW.seq ?_
              refine AW.seq ?_
              obtain ⟨v44, e45, h⟩ := bind_some h
              obtain ⟨j47, e48, h⟩ := bind_some h
              refine AW.join1 (s2 := ⟨[(11, (.v (.one (.ptr 8 0)))), (14, (.v (.one (.c (.int .i64 v33.1))))), (97, (.v (.one (.c (.bool j47)))))], [(7, (.arr true v33.2.length 4 (gl cs_Pose v33.2))), (8, (.box [(.c (.int .i64 v10.1.Bones)), (.arr 7)]))]⟩) ?_ ?_
              · rcases ite2_cases e48 with ⟨b46, e48⟩ | ⟨b46, e48⟩
                · replace e48 := some_eq e48
                  subst e48
                  exact AW.regionA [.no, .no, .call [.agg (cs_Recording v42.1), .agg (cs_Recording v6.1)] [.one (.bool v44)] [[.view]], .no, .dec true] [11, 14, 97] [7, 8] (s' := ⟨[(11, (.v (.one (.ptr 8 0)))), (14, (.v (.one (.c (.int .i64 v33.1))))), (97, (.v (.one (.c (.bool true)))))], [(7, (.arr true v33.2.length 4 (gl cs_Pose v33.2))), (8, (.box [(.c (.int .i64 v10.1.Bones)), (.arr 7)]))]⟩) (ob := True ∧ True ∧ ((((((.int .i64 v42.1.Bones) : C) = (.int .i64 v42.1.Bones)) ∧ (((sl 4 cs_Pose v42.1.Frames) : C) = (sl 4 cs_Pose v42.1.Frames)) ∧ True) ∧ ((((.int .i64 v6.1.Bones) : C) = (.int .i64 v6.1.Bones)) ∧ (((sl 4 cs_Pose v6.1.Frames) : C) = (sl 4 cs_Pose v6.1.Frames)) ∧ True) ∧ True) ∧ CallOK Try.prog 25 [.agg (cs_Recording v42.1), .agg (cs_Recording v6.1)] [.one (.bool v44)]) ∧ True ∧ (True ∧ (!v44) = true) ∧ True ∧ True ∧ True ∧ True ∧ True) (by kernel_rfl) ⟨trivial, trivial, ⟨⟨⟨rfl, rfl, trivial⟩, ⟨rfl, rfl, trivial⟩, trivial⟩, ok_laws_eqRecording K v42.1 v6.1 v44 e45⟩, trivial, ⟨trivial, b46⟩, trivial, trivial, trivial, trivial, trivial⟩ ⟨rfl, rfl⟩
                · replace e48 := some_eq e48
                  subst e48
                  exact AW.regionA [.no, .no, .call [.agg (cs_Recording v42.1), .agg (cs_Recording v6.1)] [.one (.bool v44)] [[.view]], .no, .dec false] [11, 14, 97] [7, 8] (s' := ⟨[(11, (.v (.one (.ptr 8 0)))), (14, (.v (.one (.c (.int .i64 v33.1))))), (97, (.v (.one (.c (.bool (!(v42.2 == v6.2)))))))], [(7, (.arr true v33.2.length 4 (gl cs_Pose v33.2))), (8, (.box [(.c (.int .i64 v10.1.Bones)), (.arr 7)]))]⟩) (ob := True ∧ True ∧ ((((((.int .i64 v42.1.Bones) : C) = (.int .i64 v42.1.Bones)) ∧ (((sl 4 cs_Pose v42.1.Frames) : C) = (sl 4 cs_Pose v42.1.Frames)) ∧ True) ∧ ((((.int .i64 v6.1.Bones) : C) = (.int .i64 v6.1.Bones)) ∧ (((sl 4 cs_Pose v6.1.Frames) : C) = (sl 4 cs_Pose v6.1.Frames)) ∧ True) ∧ True) ∧ CallOK Try.prog 25 [.agg (cs_Recording v42.1), .agg (cs_Recording v6.1)] [.one (.bool v44)]) ∧ True ∧ (True ∧ (!v44) = false) ∧ True ∧ True ∧ True ∧ True ∧ True) (by kernel_rfl) ⟨trivial, trivial, ⟨⟨⟨rfl, rfl, trivial⟩, ⟨rfl, rfl, trivial⟩, trivial⟩, ok_laws_eqRecording K v42.1 v6.1 v44 e45⟩, trivial, ⟨trivial, b46⟩, trivial, trivial, trivial, trivial, trivial⟩ ⟨rfl, rfl⟩
              refine thenQ_normal ?_
              rcases ite2_cases h with ⟨b49, h⟩ | ⟨b49, h⟩
              · refine AW.cond_t rfl b49 ?_
                refine AW.seq ?_
                refine AW.regionA [] [6] [] (s' := ⟨[(6, (.v (.one (.c (.bool false)))))], []⟩) (ob := True ∧ True) (by kernel_rfl) ⟨trivial, trivial⟩ ?_
                refine thenQ_normal ?_
                refine AW.ret ?_
                refine thenQ_ret ?_
                replace h := some_eq h
                subst h
                exact ⟨.inr rfl, retOK_of [(.one (.c (.bool false)))] (by kernel_rfl) ⟨⟨rfl, trivial⟩, trivial⟩ (of_decide_eq_true (by kernel_rfl))⟩
              · refine AW.cond_f rfl b49 ?_
                refine AW.skip ?_
                refine thenQ_normal ?_
                refine AW.seq ?_
                refine AW.regionA [] [11, 14, 15] [7, 8] (s' := ⟨[(11, (.v (.one (.ptr 8 0)))), (14, (.v (.one (.c (.int .i64 v33.1))))), (15, (.v (.one (.c (.int .i64 (1 : Int))))))], [(7, (.arr true v33.2.length 4 (gl cs_Pose v33.2))), (8, (.box [(.c (.int .i64 v10.1.Bones)), (.arr 7)]))]⟩) (ob := True ∧ True) (by kernel_rfl) ⟨trivial, trivial⟩ ?_
                refine thenQ_normal ?_
                refine AW.seq ?_
                obtain ⟨v50, e51, h⟩ := bind_some h
                refine AW.regionA [.no, .no, .call [.agg (cs_Recording (Recording.mk v10.1.Bones v33.2)), .one (.int .i64 (1 : Int))] [.one (.int .i64 v50)] [[.view]]] [14, 15] [] (s' := ⟨[(14, (.v (.one (.c (.int .i64 v33.1))))), (15, (.v (.one (.c (.int .i64 v50)))))], []⟩) (ob := True ∧ True ∧ ((((((.int .i64 v10.1.Bones) : C) = (.int .i64 v10.1.Bones)) ∧ (((sl 4 cs_Pose v33.2) : C) = (sl 4 cs_Pose v33.2)) ∧ True) ∧ (((.int .i64 (1 : Int)) : C) = (.int .i64 (1 : Int))) ∧ True) ∧ CallOK Try.prog 27 [.agg (cs_Recording (Recording.mk v10.1.Bones v33.2)), .one (.int .i64 (1 : Int))] [.one (.int .i64 v50)]) ∧ True ∧ True) (by kernel_rfl) ⟨trivial, trivial, ⟨⟨⟨rfl, rfl, trivial⟩, rfl, trivial⟩, ok_laws_heldRecording K (Recording.mk v10.1.Bones v33.2) (1 : Int) v50 e51⟩, trivial, trivial⟩ ?_
                refine thenQ_normal ?_
                refine AW.seq ?_
                refine AW.seq ?_
                refine AW.regionA [] [14, 15, 102] [] (s' := ⟨[(14, (.v (.one (.c (.int .i64 v33.1))))), (15, (.v (.one (.c (.int .i64 v50))))), (102, (.v (.one (.c (.bool (decide (v50 < (0 : Int))))))))], []⟩) (ob := True ∧ True ∧ True) (by kernel_rfl) ⟨trivial, trivial, trivial⟩ ?_
                refine thenQ_normal ?_
                rcases ite2_cases h with ⟨b52, h⟩ | ⟨b52, h⟩
                · refine AW.cond_t rfl b52 ?_
                  refine AW.seq ?_
                  refine AW.regionA [] [6] [] (s' := ⟨[(6, (.v (.one (.c (.bool false)))))], []⟩) (ob := True ∧ True) (by kernel_rfl) ⟨trivial, trivial⟩ ?_
                  refine thenQ_normal ?_
                  refine AW.ret ?_
                  refine thenQ_ret ?_
                  replace h := some_eq h
                  subst h
                  exact ⟨.inr rfl, retOK_of [(.one (.c (.bool false)))] (by kernel_rfl) ⟨⟨rfl, trivial⟩, trivial⟩ (of_decide_eq_true (by kernel_rfl))⟩
                · refine AW.cond_f rfl b52 ?_
                  refine AW.skip ?_
                  refine thenQ_normal ?_
                  refine AW.seq ?_
                  refine AW.seq ?_
                  refine AW.regionA [] [105] [] (s' := ⟨[(105, (.v (.one (.c (.bool (v50 != v33.1))))))], []⟩) (ob := True ∧ True ∧ True ∧ True) (by kernel_rfl) ⟨trivial, trivial, trivial, trivial⟩ ?_
                  refine thenQ_normal ?_
                  rcases ite2_cases h with ⟨b53, h⟩ | ⟨b53, h⟩
                  · refine AW.cond_t rfl b53 ?_
                    refine AW.seq ?_
                    refine AW.regionA [] [6] [] (s' := ⟨[(6, (.v (.one (.c (.bool false)))))], []⟩) (ob := True ∧ True) (by kernel_rfl) ⟨trivial, trivial⟩ ?_
                    refine thenQ_normal ?_
                    refine AW.ret ?_
                    refine thenQ_ret ?_
                    replace h := some_eq h
                    subst h
                    exact ⟨.inr rfl, retOK_of [(.one (.c (.bool false)))] (by kernel_rfl) ⟨⟨rfl, trivial⟩, trivial⟩ (of_decide_eq_true (by kernel_rfl))⟩
                  · refine AW.cond_f rfl b53 ?_
                    refine AW.skip ?_
                    refine thenQ_normal ?_
                    refine AW.seq ?_
                    refine AW.regionA [] [6] [] (s' := ⟨[(6, (.v (.one (.c (.bool true)))))], []⟩) (ob := True ∧ True) (by kernel_rfl) ⟨trivial, trivial⟩ ?_
                    refine thenQ_normal ?_
                    refine AW.ret ?_
                    replace h := some_eq h
                    subst h
                    exact ⟨.inr rfl, retOK_of [(.one (.c (.bool true)))] (by kernel_rfl) ⟨⟨rfl, trivial⟩, trivial⟩ (of_decide_eq_true (by kernel_rfl))⟩

/-! spec.JoinRecordings -/
def spec_JoinRecordings (K : Nat) (a0 : Recording) (a1 : Recording) : Option (Recording × Bool) :=
  (spec_l10Is K a0).bind fun v1 => (ite2 ((!v1)) (some true) ((spec_l10Is K a1).bind fun v4 => ite2 ((!v4)) (some true) (ite2 ((a0.Bones != a1.Bones)) (some true) (some (decide ((IntKind.i64.wrap ((a0.Frames.length : Int) + (a1.Frames.length : Int))) > (64 : Int))))))).bind fun j8 => ite2 (j8) (some ((Recording.mk (0 : Int) ([] : (List Pose))), false)) ((spec_l10Some K a0 (0 : Int) (a0.Frames.length : Int)).bind fun v11 => (spec_l10Some K a1 (0 : Int) (a1.Frames.length : Int)).bind fun v13 => chk ((v11.Frames.length + v13.Frames.length) * 40 ≤ 140737488355328) (some ((Recording.mk v11.Bones (v11.Frames ++ v13.Frames)), true)))

theorem ok_spec_JoinRecordings (K : Nat) (a0 : Recording) (a1 : Recording) (o : (Recording × Bool)) (h : spec_JoinRecordings K a0 a1 = some o) : CallOK Try.prog 28 [.agg (cs_Recording a0), .agg (cs_Recording a1)] [.agg (cs_Recording o.1), .one (.bool o.2)] := by
  refine callOK_of_AW Try.func28 rfl (by kernel_rfl) (Nat.le_of_ble_eq_true (by kernel_rfl)) ?_
  intro w0
  unfold spec_JoinRecordings at h
  refine AW.seq ?_
  refine AW.regionA [.box 1, .box 2, .box 3] [2, 3, 4] [1, 2, 3] (s' := ⟨[(2, (.v (.one (.ptr 1 0)))), (3, (.v (.one (.ptr 2 0)))), (4, (.v (.one (.ptr 3 0))))], [(1, (.box [(.c (.int .i64 a0.Bones)), (.c (sl 4 cs_Pose a0.Frames))])), (2, (.box [(.c (.int .i64 a1.Bones)), (.c (sl 4 cs_Pose a1.Frames))])), (3, (.box [(.c (.int .i64 (0 : Int))), .nils]))]⟩) (ob := True ∧ True ∧ True ∧ True ∧ True) (by kernel_rfl) ⟨trivial, trivial, trivial, trivial, trivial⟩ ?_
  refine thenQ_normal ?_
  refine AW.seq ?_
  refine AW.seq ?_
  obtain ⟨v1, e2, h⟩ := bind_some h
  obtain ⟨j8, e9, h⟩ := bind_some h
  refine AW.join1 (s2 := ⟨[(2, (.v (.one (.ptr 1 0)))), (3, (.v (.one (.ptr 2 0)))), (4, (.v (.one (.ptr 3 0)))), (30, (.v (.one (.c (.bool j8)))))], [(1, (.box [(.c (.int .i64 a0.Bones)), (.c (sl 4 cs_Pose a0.Frames))])), (2, (.box [(.c (.int .i64 a1.Bones)), (.c (sl 4 cs_Pose a1.Frames))])), (3, (.box [(.c (.int .i64 (0 : Int))), .nils]))]⟩) ?_ ?_
  · rcases ite2_cases e9 with ⟨b3, e9⟩ | ⟨b3, e9⟩
    · replace e9 := some_eq e9
      subst e9
      exact AW.regionA [.call [.one (pl 2 cs_Recording a0)] [.one (.bool v1)] [[.view]], .no, .dec true] [2, 3, 4, 30] [1, 2, 3] (s' := ⟨[(2, (.v (.one (.ptr 1 0)))), (3, (.v (.one (.ptr 2 0)))), (4, (.v (.one (.ptr 3 0)))), (30, (.v (.one (.c (.bool true)))))], [(1, (.box [(.c (.int .i64 a0.Bones)), (.c (sl 4 cs_Pose a0.Frames))])), (2, (.box [(.c (.int .i64 a1.Bones)), (.c (sl 4 cs_Pose a1.Frames))])), (3, (.box [(.c (.int .i64 (0 : Int))), .nils]))]⟩) (ob := (((0 = 0 ∧ (((.int .i64 a0.Bones) : C) = (.int .i64 a0.Bones)) ∧ (((sl 4 cs_Pose a0.Frames) : C) = (sl 4 cs_Pose a0.Frames)) ∧ True) ∧ True) ∧ CallOK Try.prog 73 [.one (pl 2 cs_Recording a0)] [.one (.bool v1)]) ∧ True ∧ (True ∧ (!v1) = true) ∧ True ∧ True ∧ True ∧ True ∧ True ∧ True ∧ True ∧ True ∧ True ∧ True ∧ True ∧ True ∧ True ∧ True ∧ True ∧ True ∧ True ∧ True ∧ True ∧ True ∧ True) (by kernel_rfl) ⟨⟨⟨⟨rfl, rfl, rfl, trivial⟩, trivial⟩, ok_spec_l10Is K a0 v1 e2⟩, trivial, ⟨trivial, b3⟩, trivial, trivial, trivial, trivial, trivial, trivial, trivial, trivial, trivial, trivial, trivial, trivial, trivial, trivial, trivial, trivial, trivial, trivial, trivial, trivial, trivial⟩ ⟨rfl, rfl⟩
    · obtain ⟨v4, e5, e9⟩ := bind_some e9
      rcases ite2_cases e9 with ⟨b6, e9⟩ | ⟨b6, e9⟩
      · replace e9 := some_eq e9
        subst e9
        exact AW.regionA [.call [.one (pl 2 cs_Recording a0)] [.one (.bool v1)] [[.view]], .no, .dec false, .call [.one (pl 2 cs_Recording a1)] [.one (.bool v4)] [[.view]], .no, .no, .dec true] [2, 3, 4, 30] [1, 2, 3] (s' := ⟨[(2, (.v (.one (.ptr 1 0)))), (3, (.v (.one (.ptr 2 0)))), (4, (.v (.one (.ptr 3 0)))), (30, (.v (.one (.c (.bool true)))))], [(1, (.box [(.c (.int .i64 a0.Bones)), (.c (sl 4 cs_Pose a0.Frames))])), (2, (.box [(.c (.int .i64 a1.Bones)), (.c (sl 4 cs_Pose a1.Frames))])), (3, (.box [(.c (.int .i64 (0 : Int))), .nils]))]⟩) (ob := (((0 = 0 ∧ (((.int .i64 a0.Bones) : C) = (.int .i64 a0.Bones)) ∧ (((sl 4 cs_Pose a0.Frames) : C) = (sl 4 cs_Pose a0.Frames)) ∧ True) ∧ True) ∧ CallOK Try.prog 73 [.one (pl 2 cs_Recording a0)] [.one (.bool v1)]) ∧ True ∧ (True ∧ (!v1) = false) ∧ (((0 = 0 ∧ (((.int .i64 a1.Bones) : C) = (.int .i64 a1.Bones)) ∧ (((sl 4 cs_Pose a1.Frames) : C) = (sl 4 cs_Pose a1.Frames)) ∧ True) ∧ True) ∧ CallOK Try.prog 73 [.one (pl 2 cs_Recording a1)] [.one (.bool v4)]) ∧ True ∧ True ∧ (True ∧ (!v4) = true) ∧ True ∧ True ∧ True ∧ True ∧ True ∧ True ∧ True ∧ True ∧ True ∧ True ∧ True ∧ True ∧ True ∧ True ∧ True ∧ True ∧ True) (by kernel_rfl) ⟨⟨⟨⟨rfl, rfl, rfl, trivial⟩, trivial⟩, ok_spec_l10Is K a0 v1 e2⟩, trivial, ⟨trivial, b3⟩, ⟨⟨⟨rfl, rfl, rfl, trivial⟩, trivial⟩, ok_spec_l10Is K a1 v4 e5⟩, trivial, trivial, ⟨trivial, b6⟩, trivial, trivial, trivial, trivial, trivial, trivial, trivial, trivial, trivial, trivial, trivial, trivial, trivial, trivial, trivial, trivial, trivial⟩ ⟨rfl, rfl⟩
      · rcases ite2_cases e9 with ⟨b7, e9⟩ | ⟨b7, e9⟩
        · replace e9 := some_eq e9
          subst e9
          exact AW.regionA [.call [.one (pl 2 cs_Recording a0)] [.one (.bool v1)] [[.view]], .no, .dec false, .call [.one (pl 2 cs_Recording a1)] [.one (.bool v4)] [[.view]], .no, .no, .dec false, .no, .no, .no, .no, .no, .no, .dec true] [2, 3, 4, 30] [1, 2, 3] (s' := ⟨[(2, (.v (.one (.ptr 1 0)))), (3, (.v (.one (.ptr 2 0)))), (4, (.v (.one (.ptr 3 0)))), (30, (.v (.one (.c (.bool true)))))], [(1, (.box [(.c (.int .i64 a0.Bones)), (.c (sl 4 cs_Pose a0.Frames))])), (2, (.box [(.c (.int .i64 a1.Bones)), (.c (sl 4 cs_Pose a1.Frames))])), (3, (.box [(.c (.int .i64 (0 : Int))), .nils]))]⟩) (ob := (((0 = 0 ∧ (((.int .i64 a0.Bones) : C) = (.int .i64 a0.Bones)) ∧ (((sl 4 cs_Pose a0.Frames) : C) = (sl 4 cs_Pose a0.Frames)) ∧ True) ∧ True) ∧ CallOK Try.prog 73 [.one (pl 2 cs_Recording a0)] [.one (.bool v1)]) ∧ True ∧ (True ∧ (!v1) = false) ∧ (((0 = 0 ∧ (((.int .i64 a1.Bones) : C) = (.int .i64 a1.Bones)) ∧ (((sl 4 cs_Pose a1.Frames) : C) = (sl 4 cs_Pose a1.Frames)) ∧ True) ∧ True) ∧ CallOK Try.prog 73 [.one (pl 2 cs_Recording a1)] [.one (.bool v4)]) ∧ True ∧ True ∧ (True ∧ (!v4) = false) ∧ True ∧ True ∧ True ∧ True ∧ True ∧ True ∧ (True ∧ (a0.Bones != a1.Bones) = true) ∧ True ∧ True ∧ True ∧ True ∧ True ∧ True ∧ True ∧ True ∧ True ∧ True) (by kernel_rfl) ⟨⟨⟨⟨rfl, rfl, rfl, trivial⟩, trivial⟩, ok_spec_l10Is K a0 v1 e2⟩, trivial, ⟨trivial, b3⟩, ⟨⟨⟨rfl, rfl, rfl, trivial⟩, trivial⟩, ok_spec_l10Is K a1 v4 e5⟩, trivial, trivial, ⟨trivial, b6⟩, trivial, trivial, trivial, trivial, trivial, trivial, ⟨trivial, b7⟩, trivial, trivial, trivial, trivial, trivial, trivial, trivial, trivial, trivial, trivial⟩ ⟨rfl, rfl⟩
        · replace e9 := some_eq e9
          subst e9
          exact AW.regionA [.call [.one (pl 2 cs_Recording a0)] [.one (.bool v1)] [[.view]], .no, .dec false, .call [.one (pl 2 cs_Recording a1)] [.one (.bool v4)] [[.view]], .no, .no, .dec false, .no, .no, .no, .no, .no, .no, .dec false] [2, 3, 4, 30] [1, 2, 3] (s' := ⟨[(2, (.v (.one (.ptr 1 0)))), (3, (.v (.one (.ptr 2 0)))), (4, (.v (.one (.ptr 3 0)))), (30, (.v (.one (.c (.bool (decide ((IntKind.i64.wrap ((a0.Frames.length : Int) + (a1.Frames.length : Int))) > (64 : Int))))))))], [(1, (.box [(.c (.int .i64 a0.Bones)), (.c (sl 4 cs_Pose a0.Frames))])), (2, (.box [(.c (.int .i64 a1.Bones)), (.c (sl 4 cs_Pose a1.Frames))])), (3, (.box [(.c (.int .i64 (0 : Int))), .nils]))]⟩) (ob := (((0 = 0 ∧ (((.int .i64 a0.Bones) : C) = (.int .i64 a0.Bones)) ∧ (((sl 4 cs_Pose a0.Frames) : C) = (sl 4 cs_Pose a0.Frames)) ∧ True) ∧ True) ∧ CallOK Try.prog 73 [.one (pl 2 cs_Recording a0)] [.one (.bool v1)]) ∧ True ∧ (True ∧ (!v1) = false) ∧ (((0 = 0 ∧ (((.int .i64 a1.Bones) : C) = (.int .i64 a1.Bones)) ∧ (((sl 4 cs_Pose a1.Frames) : C) = (sl 4 cs_Pose a1.Frames)) ∧ True) ∧ True) ∧ CallOK Try.prog 73 [.one (pl 2 cs_Recording a1)] [.one (.bool v4)]) ∧ True ∧ True ∧ (True ∧ (!v4) = false) ∧ True ∧ True ∧ True ∧ True ∧ True ∧ True ∧ (True ∧ (a0.Bones != a1.Bones) = false) ∧ True ∧ True ∧ True ∧ True ∧ True ∧ True ∧ True ∧ True ∧ True ∧ True) (by kernel_rfl) ⟨⟨⟨⟨rfl, rfl, rfl, trivial⟩, trivial⟩, ok_spec_l10Is K a0 v1 e2⟩, trivial, ⟨trivial, b3⟩, ⟨⟨⟨rfl, rfl, rfl, trivial⟩, trivial⟩, ok_spec_l10Is K a1 v4 e5⟩, trivial, trivial, ⟨trivial, b6⟩, trivial, trivial, trivial, trivial, trivial, trivial, ⟨trivial, b7⟩, trivial, trivial, trivial, trivial, trivial, trivial, trivial, trivial, trivial, trivial⟩ ⟨rfl, rfl⟩
  refine thenQ_normal ?_
  rcases ite2_cases h with ⟨b10, h⟩ | ⟨b10, h⟩
  · refine AW.cond_t rfl b10 ?_
    refine AW.seq ?_
    refine AW.regionA [] [4, 5] [3] (s' := ⟨[(4, (.v (.one (.ptr 3 0)))), (5, (.v (.one (.c (.bool false)))))], [(3, (.box [(.c (.int .i64 (0 : Int))), .nils]))]⟩) (ob := True ∧ True ∧ True ∧ True) (by kernel_rfl) ⟨trivial, trivial, trivial, trivial⟩ ?_
    refine thenQ_normal ?_
    refine AW.ret ?_
    refine thenQ_ret ?_
    replace h := some_eq h
    subst h
    exact ⟨.inr rfl, retOK_of [(.agg [(.c (.int .i64 (0 : Int))), .nils]), (.one (.c (.bool false)))] (by kernel_rfl) ⟨⟨⟨rfl, trivial⟩, rfl, trivial⟩, ⟨rfl, trivial⟩, trivial⟩ (of_decide_eq_true (by kernel_rfl))⟩
  · refine AW.cond_f rfl b10 ?_
    refine AW.skip ?_
    refine thenQ_normal ?_
    refine AW.seq ?_
    obtain ⟨v11, e12, h⟩ := bind_some h
    refine AW.regionA [.no, .no, .no, .call [.one (pl 2 cs_Recording a0), .one (.int .i64 (0 : Int)), .one (.int .i64 (a0.Frames.length : Int))] [.agg (cs_Recording v11)] [[.view, .lst 4]], .box 5] [3, 4, 6] [2, 3, 4, 5] (s' := ⟨[(3, (.v (.one (.ptr 2 0)))), (4, (.v (.one (.ptr 3 0)))), (6, (.v (.one (.ptr 5 0))))], [(2, (.box [(.c (.int .i64 a1.Bones)), (.c (sl 4 cs_Pose a1.Frames))])), (3, (.box [(.c (.int .i64 (0 : Int))), .nils])), (4, (.lst v11.Frames.length 4 (gl cs_Pose v11.Frames))), (5, (.box [(.c (.int .i64 v11.Bones)), (.lst 4 v11.Frames.length 4 (gl cs_Pose v11.Frames))]))]⟩) (ob := True ∧ True ∧ True ∧ (((0 = 0 ∧ (((.int .i64 a0.Bones) : C) = (.int .i64 a0.Bones)) ∧ (((sl 4 cs_Pose a0.Frames) : C) = (sl 4 cs_Pose a0.Frames)) ∧ True) ∧ (((.int .i64 (0 : Int)) : C) = (.int .i64 (0 : Int))) ∧ (((.int .i64 (a0.Frames.length : Int)) : C) = (.int .i64 (a0.Frames.length : Int))) ∧ True) ∧ CallOK Try.prog 74 [.one (pl 2 cs_Recording a0), .one (.int .i64 (0 : Int)), .one (.int .i64 (a0.Frames.length : Int))] [.agg (cs_Recording v11)]) ∧ True ∧ True ∧ True) (by kernel_rfl) ⟨trivial, trivial, trivial, ⟨⟨⟨rfl, rfl, rfl, trivial⟩, rfl, rfl, trivial⟩, ok_spec_l10Some K a0 (0 : Int) (a0.Frames.length : Int) v11 e12⟩, trivial, trivial, trivial⟩ ?_
    refine thenQ_normal ?_
    refine AW.seq ?_
    obtain ⟨v13, e14, h⟩ := bind_some h
    refine AW.regionA [.no, .no, .no, .call [.one (pl 2 cs_Recording a1), .one (.int .i64 (0 : Int)), .one (.int .i64 (a1.Frames.length : Int))] [.agg (cs_Recording v13)] [[.view, .lst 6]], .box 7] [4, 6, 7] [3, 4, 5, 6, 7] (s' := ⟨[(4, (.v (.one (.ptr 3 0)))), (6, (.v (.one (.ptr 5 0)))), (7, (.v (.one (.ptr 7 0))))], [(3, (.box [(.c (.int .i64 (0 : Int))), .nils])), (4, (.lst v11.Frames.length 4 (gl cs_Pose v11.Frames))), (5, (.box [(.c (.int .i64 v11.Bones)), (.lst 4 v11.Frames.length 4 (gl cs_Pose v11.Frames))])), (6, (.lst v13.Frames.length 4 (gl cs_Pose v13.Frames))), (7, (.box [(.c (.int .i64 v13.Bones)), (.lst 6 v13.Frames.length 4 (gl cs_Pose v13.Frames))]))]⟩) (ob := True ∧ True ∧ True ∧ (((0 = 0 ∧ (((.int .i64 a1.Bones) : C) = (.int .i64 a1.Bones)) ∧ (((sl 4 cs_Pose a1.Frames) : C) = (sl 4 cs_Pose a1.Frames)) ∧ True) ∧ (((.int .i64 (0 : Int)) : C) = (.int .i64 (0 : Int))) ∧ (((.int .i64 (a1.Frames.length : Int)) : C) = (.int .i64 (a1.Frames.length : Int))) ∧ True) ∧ CallOK Try.prog 74 [.one (pl 2 cs_Recording a1), .one (.int .i64 (0 : Int)), .one (.int .i64 (a1.Frames.length : Int))] [.agg (cs_Recording v13)]) ∧ True ∧ True ∧ True) (by kernel_rfl) ⟨trivial, trivial, trivial, ⟨⟨⟨rfl, rfl, rfl, trivial⟩, rfl, rfl, trivial⟩, ok_spec_l10Some K a1 (0 : Int) (a1.Frames.length : Int) v13 e14⟩, trivial, trivial, trivial⟩ ?_
    refine thenQ_normal ?_
    refine AW.seq ?_
    obtain ⟨c15, h⟩ := chk_some h
    refine AW.regionA [.no, .no, .no, .no, .obj 8 (v11.Frames ++ v13.Frames).length (gl cs_Pose (v11.Frames ++ v13.Frames))] [4, 6] [3, 5, 8] (s' := ⟨[(4, (.v (.one (.ptr 3 0)))), (6, (.v (.one (.ptr 5 0))))], [(3, (.box [(.c (.int .i64 (0 : Int))), .nils])), (5, (.box [(.c (.int .i64 v11.Bones)), (.lst 8 (v11.Frames ++ v13.Frames).length 4 (gl cs_Pose (v11.Frames ++ v13.Frames)))])), (8, (.lst (v11.Frames ++ v13.Frames).length 4 (gl cs_Pose (v11.Frames ++ v13.Frames))))]⟩) (ob := True ∧ True ∧ True ∧ True ∧ ((v11.Frames ++ v13.Frames).length = v11.Frames.length + v13.Frames.length ∧ AppOb (v11.Frames.length) (v13.Frames.length) 4 (gl cs_Pose v11.Frames) (gl cs_Pose v13.Frames) (gl cs_Pose (v11.Frames ++ v13.Frames)) ∧ True ∧ (v11.Frames.length + v13.Frames.length) * 40 ≤ 140737488355328) ∧ True ∧ True ∧ True) (by kernel_rfl) ⟨trivial, trivial, trivial, trivial, ⟨List.length_append, gl_append, trivial, c15⟩, trivial, trivial, trivial⟩ ?_
    refine thenQ_normal ?_
    refine AW.seq ?_
    refine AW.regionA [] [4, 5] [3, 8] (s' := ⟨[(4, (.v (.one (.ptr 3 0)))), (5, (.v (.one (.c (.bool true)))))], [(3, (.box [(.c (.int .i64 v11.Bones)), (.lst 8 (v11.Frames ++ v13.Frames).length 4 (gl cs_Pose (v11.Frames ++ v13.Frames)))])), (8, (.lst (v11.Frames ++ v13.Frames).length 4 (gl cs_Pose (v11.Frames ++ v13.Frames))))]⟩) (ob := True ∧ True ∧ True ∧ True) (by kernel_rfl) ⟨trivial, trivial, trivial, trivial⟩ ?_
    refine thenQ_normal ?_
    refine AW.ret ?_
    replace h := some_eq h
    subst h
    exact ⟨.inr rfl, retOK_of [(.agg [(.c (.int .i64 v11.Bones)), (.lst 8 (v11.Frames ++ v13.Frames).length 4 (gl cs_Pose (v11.Frames ++ v13.Frames)))]), (.one (.c (.bool true)))] (by kernel_rfl) ⟨⟨⟨rfl, trivial⟩, rfl, trivial⟩, ⟨rfl, trivial⟩, trivial⟩ (of_decide_eq_true (by kernel_rfl))⟩

/-! impl.validRecording -/
def impl_validRecording (K : Nat) (a0 : Recording) : Option (Recording × Bool) :=
  (impl_ValidRecording K a0).bind fun v1 => ite2 ((!v1)) (some ((Recording.mk (0 : Int) ([] : (List Pose))), false)) (some (a0, true))

theorem ok_impl_validRecording (K : Nat) (a0 : Recording) (o : (Recording × Bool)) (h : impl_validRecording K a0 = some o) : MutOK Try.prog 80 [(.agg [(.ro (.int .i64 a0.Bones)), (.mv (sl 4 cs_Pose a0.Frames))])] [.agg (cs_Recording o.1), .one (.bool o.2)] := by
  refine mutOK_of_AW 1 Try.func80 rfl (by kernel_rfl) (Nat.le_of_ble_eq_true (by kernel_rfl)) (by kernel_rfl) (by kernel_rfl) ?_
  intro w0 K0 v0 s0
  unfold impl_validRecording at h
  refine AW.seq ?_
  refine AW.regionA [.box 1, .box 2] [0, 1, 2] [0, 1, 2] (s' := ⟨[(0, (.v (.agg [(.c (.int .i64 a0.Bones)), (.arr 0)]))), (1, (.v (.one (.ptr 1 0)))), (2, (.v (.one (.ptr 2 0))))], [(0, (.arr true a0.Frames.length 4 (gl cs_Pose a0.Frames))), (1, (.box [(.c (.int .i64 a0.Bones)), (.arr 0)])), (2, (.box [(.c (.int .i64 (0 : Int))), .nils]))]⟩) (ob := True ∧ True ∧ True ∧ True) (by kernel_rfl) ⟨trivial, trivial, trivial, trivial⟩ ?_
  refine thenQ_normal ?_
  refine AW.seq ?_
  refine AW.seq ?_
  obtain ⟨v1, e2, h⟩ := bind_some h
  refine AW.regionA [.no, .call [.agg (cs_Recording a0)] [.one (.bool v1)] [[.view]]] [0, 1, 2, 6] [0, 1, 2] (s' := ⟨[(0, (.v (.agg [(.c (.int .i64 a0.Bones)), (.arr 0)]))), (1, (.v (.one (.ptr 1 0)))), (2, (.v (.one (.ptr 2 0)))), (6, (.v (.one (.c (.bool (!v1))))))], [(0, (.arr true a0.Frames.length 4 (gl cs_Pose a0.Frames))), (1, (.box [(.c (.int .i64 a0.Bones)), (.arr 0)])), (2, (.box [(.c (.int .i64 (0 : Int))), .nils]))]⟩) (ob := True ∧ ((((((.int .i64 a0.Bones) : C) = (.int .i64 a0.Bones)) ∧ (((sl 4 cs_Pose a0.Frames) : C) = (sl 4 cs_Pose a0.Frames)) ∧ True) ∧ True) ∧ CallOK Try.prog 53 [.agg (cs_Recording a0)] [.one (.bool v1)]) ∧ True ∧ True) (by kernel_rfl) ⟨trivial, ⟨⟨⟨rfl, rfl, trivial⟩, trivial⟩, ok_impl_ValidRecording K a0 v1 e2⟩, trivial, trivial⟩ ?_
  refine thenQ_normal ?_
  rcases ite2_cases h with ⟨b3, h⟩ | ⟨b3, h⟩
  · refine AW.cond_t rfl b3 ?_
    refine AW.seq ?_
    refine AW.regionA [] [0, 2, 3] [0, 2] (s' := ⟨[(0, (.v (.agg [(.c (.int .i64 a0.Bones)), (.arr 0)]))), (2, (.v (.one (.ptr 2 0)))), (3, (.v (.one (.c (.bool false)))))], [(0, (.arr true a0.Frames.length 4 (gl cs_Pose a0.Frames))), (2, (.box [(.c (.int .i64 (0 : Int))), .nils]))]⟩) (ob := True ∧ True ∧ True ∧ True) (by kernel_rfl) ⟨trivial, trivial, trivial, trivial⟩ ?_
    refine thenQ_normal ?_
    refine AW.ret ?_
    refine thenQ_ret ?_
    replace h := some_eq h
    subst h
    exact ⟨.inr rfl, retOK_of [(.agg [(.c (.int .i64 (0 : Int))), .nils]), (.one (.c (.bool false)))] (by kernel_rfl) ⟨⟨⟨rfl, trivial⟩, rfl, trivial⟩, ⟨rfl, trivial⟩, trivial⟩ (of_decide_eq_true (by kernel_rfl)), by kernel_rfl, ⟨⟨trivial, trivial, trivial⟩, trivial⟩⟩
  · refine AW.cond_f rfl b3 ?_
    refine AW.skip ?_
    refine thenQ_normal ?_
    refine AW.seq ?_
    refine AW.regionA [] [0, 2, 3] [0, 2] (s' := ⟨[(0, (.v (.agg [(.c (.int .i64 a0.Bones)), (.arr 0)]))), (2, (.v (.one (.ptr 2 0)))), (3, (.v (.one (.c (.bool true)))))], [(0, (.arr true a0.Frames.length 4 (gl cs_Pose a0.Frames))), (2, (.box [(.c (.int .i64 a0.Bones)), (.arr 0)]))]⟩) (ob := True ∧ True ∧ True ∧ True) (by kernel_rfl) ⟨trivial, trivial, trivial, trivial⟩ ?_
    refine thenQ_normal ?_
    refine AW.ret ?_
    replace h := some_eq h
    subst h
    exact ⟨.inr rfl, retOK_of [(.agg [(.c (.int .i64 a0.Bones)), (.arr 0)]), (.one (.c (.bool true)))] (by kernel_rfl) ⟨⟨⟨rfl, trivial⟩, rfl, trivial⟩, ⟨rfl, trivial⟩, trivial⟩ (of_decide_eq_true (by kernel_rfl)), by kernel_rfl, ⟨⟨trivial, trivial, trivial⟩, trivial⟩⟩

/-! impl.JoinRecordings -/
def impl_JoinRecordings (K : Nat) (a0 : Recording) (a1 : Recording) : Option (Recording × Bool) :=
  (impl_ValidRecording K a0).bind fun v1 => (ite2 ((!v1)) (some true) ((impl_ValidRecording K a1).bind fun v4 => ite2 ((!v4)) (some true) (some (a0.Bones != a1.Bones)))).bind fun j7 => ite2 (j7) (some ((Recording.mk (0 : Int) ([] : (List Pose))), false)) ((impl_frames K a0.Frames).bind fun v10 => (impl_frames K a1.Frames).bind fun v12 => chk ((v10.length + v12.length) * 40 ≤ 140737488355328) ((impl_validRecording K (Recording.mk a0.Bones (v10 ++ v12))).bind fun v15 => some (v15.1, v15.2)))

theorem ok_impl_JoinRecordings (K : Nat) (a0 : Recording) (a1 : Recording) (o : (Recording × Bool)) (h : impl_JoinRecordings K a0 a1 = some o) : CallOK Try.prog 29 [.agg (cs_Recording a0), .agg (cs_Recording a1)] [.agg (cs_Recording o.1), .one (.bool o.2)] := by
  refine callOK_of_AW Try.func29 rfl (by kernel_rfl) (Nat.le_of_ble_eq_true (by kernel_rfl)) ?_
  intro w0
  unfold impl_JoinRecordings at h
  refine AW.seq ?_
  refine AW.regionA [.box 1, .box 2, .box 3] [2, 3, 4] [1, 2, 3] (s' := ⟨[(2, (.v (.one (.ptr 1 0)))), (3, (.v (.one (.ptr 2 0)))), (4, (.v (.one (.ptr 3 0))))], [(1, (.box [(.c (.int .i64 a0.Bones)), (.c (sl 4 cs_Pose a0.Frames))])), (2, (.box [(.c (.int .i64 a1.Bones)), (.c (sl 4 cs_Pose a1.Frames))])), (3, (.box [(.c (.int .i64 (0 : Int))), .nils]))]⟩) (ob := True ∧ True ∧ True ∧ True ∧ True) (by kernel_rfl) ⟨trivial, trivial, trivial, trivial, trivial⟩ ?_
  refine thenQ_normal ?_
  refine AW.seq ?_
  refine AW.seq ?_
  obtain ⟨v1, e2, h⟩ := bind_some h
  obtain ⟨j7, e8, h⟩ := bind_some h
  refine AW.join1 (s2 := ⟨[(2, (.v (.one (.ptr 1 0)))), (3, (.v (.one (.ptr 2 0)))), (4, (.v (.one (.ptr 3 0)))), (20, (.v (.one (.c (.bool j7)))))], [(1, (.box [(.c (.int .i64 a0.Bones)), (.c (sl 4 cs_Pose a0.Frames))])), (2, (.box [(.c (.int .i64 a1.Bones)), (.c (sl 4 cs_Pose a1.Frames))])), (3, (.box [(.c (.int .i64 (0 : Int))), .nils]))]⟩) ?_ ?_
  · rcases ite2_cases e8 with ⟨b3, e8⟩ | ⟨b3, e8⟩
    · replace e8 := some_eq e8
      subst e8
      exact AW.regionA [.no, .call [.agg (cs_Recording a0)] [.one (.bool v1)] [[.view]], .no, .dec true] [2, 3, 4, 20] [1, 2, 3] (s' := ⟨[(2, (.v (.one (.ptr 1 0)))), (3, (.v (.one (.ptr 2 0)))), (4, (.v (.one (.ptr 3 0)))), (20, (.v (.one (.c (.bool true)))))], [(1, (.box [(.c (.int .i64 a0.Bones)), (.c (sl 4 cs_Pose a0.Frames))])), (2, (.box [(.c (.int .i64 a1.Bones)), (.c (sl 4 cs_Pose a1.Frames))])), (3, (.box [(.c (.int .i64 (0 : Int))), .nils]))]⟩) (ob := True ∧ ((((((.int .i64 a0.Bones) : C) = (.int .i64 a0.Bones)) ∧ (((sl 4 cs_Pose a0.Frames) : C) = (sl 4 cs_Pose a0.Frames)) ∧ True) ∧ True) ∧ CallOK Try.prog 53 [.agg (cs_Recording a0)] [.one (.bool v1)]) ∧ True ∧ (True ∧ (!v1) = true) ∧ True ∧ True ∧ True ∧ True ∧ True ∧ True ∧ True ∧ True ∧ True ∧ True ∧ True ∧ True) (by kernel_rfl) ⟨trivial, ⟨⟨⟨rfl, rfl, trivial⟩, trivial⟩, ok_impl_ValidRecording K a0 v1 e2⟩, trivial, ⟨trivial, b3⟩, trivial, trivial, trivial, trivial, trivial, trivial, trivial, trivial, trivial, trivial, trivial, trivial⟩ ⟨rfl, rfl⟩
    · obtain ⟨v4, e5, e8⟩ := bind_some e8
      rcases ite2_cases e8 with ⟨b6, e8⟩ | ⟨b6, e8⟩
      · replace e8 := some_eq e8
        subst e8
        exact AW.regionA [.no, .call [.agg (cs_Recording a0)] [.one (.bool v1)] [[.view]], .no, .dec false, .no, .call [.agg (cs_Recording a1)] [.one (.bool v4)] [[.view]], .no, .no, .dec true] [2, 3, 4, 20] [1, 2, 3] (s' := ⟨[(2, (.v (.one (.ptr 1 0)))), (3, (.v (.one (.ptr 2 0)))), (4, (.v (.one (.ptr 3 0)))), (20, (.v (.one (.c (.bool true)))))], [(1, (.box [(.c (.int .i64 a0.Bones)), (.c (sl 4 cs_Pose a0.Frames))])), (2, (.box [(.c (.int .i64 a1.Bones)), (.c (sl 4 cs_Pose a1.Frames))])), (3, (.box [(.c (.int .i64 (0 : Int))), .nils]))]⟩) (ob := True ∧ ((((((.int .i64 a0.Bones) : C) = (.int .i64 a0.Bones)) ∧ (((sl 4 cs_Pose a0.Frames) : C) = (sl 4 cs_Pose a0.Frames)) ∧ True) ∧ True) ∧ CallOK Try.prog 53 [.agg (cs_Recording a0)] [.one (.bool v1)]) ∧ True ∧ (True ∧ (!v1) = false) ∧ True ∧ ((((((.int .i64 a1.Bones) : C) = (.int .i64 a1.Bones)) ∧ (((sl 4 cs_Pose a1.Frames) : C) = (sl 4 cs_Pose a1.Frames)) ∧ True) ∧ True) ∧ CallOK Try.prog 53 [.agg (cs_Recording a1)] [.one (.bool v4)]) ∧ True ∧ True ∧ (True ∧ (!v4) = true) ∧ True ∧ True ∧ True ∧ True ∧ True ∧ True ∧ True) (by kernel_rfl) ⟨trivial, ⟨⟨⟨rfl, rfl, trivial⟩, trivial⟩, ok_impl_ValidRecording K a0 v1 e2⟩, trivial, ⟨trivial, b3⟩, trivial, ⟨⟨⟨rfl, rfl, trivial⟩, trivial⟩, ok_impl_ValidRecording K a1 v4 e5⟩, trivial, trivial, ⟨trivial, b6⟩, trivial, trivial, trivial, trivial, trivial, trivial, trivial⟩ ⟨rfl, rfl⟩
      · replace e8 := some_eq e8
        subst e8
        exact AW.regionA [.no, .call [.agg (cs_Recording a0)] [.one (.bool v1)] [[.view]], .no, .dec false, .no, .call [.agg (cs_Recording a1)] [.one (.bool v4)] [[.view]], .no, .no, .dec false] [2, 3, 4, 20] [1, 2, 3] (s' := ⟨[(2, (.v (.one (.ptr 1 0)))), (3, (.v (.one (.ptr 2 0)))), (4, (.v (.one (.ptr 3 0)))), (20, (.v (.one (.c (.bool (a0.Bones != a1.Bones))))))], [(1, (.box [(.c (.int .i64 a0.Bones)), (.c (sl 4 cs_Pose a0.Frames))])), (2, (.box [(.c (.int .i64 a1.Bones)), (.c (sl 4 cs_Pose a1.Frames))])), (3, (.box [(.c (.int .i64 (0 : Int))), .nils]))]⟩) (ob := True ∧ ((((((.int .i64 a0.Bones) : C) = (.int .i64 a0.Bones)) ∧ (((sl 4 cs_Pose a0.Frames) : C) = (sl 4 cs_Pose a0.Frames)) ∧ True) ∧ True) ∧ CallOK Try.prog 53 [.agg (cs_Recording a0)] [.one (.bool v1)]) ∧ True ∧ (True ∧ (!v1) = false) ∧ True ∧ ((((((.int .i64 a1.Bones) : C) = (.int .i64 a1.Bones)) ∧ (((sl 4 cs_Pose a1.Frames) : C) = (sl 4 cs_Pose a1.Frames)) ∧ True) ∧ True) ∧ CallOK Try.prog 53 [.agg (cs_Recording a1)] [.one (.bool v4)]) ∧ True ∧ True ∧ (True ∧ (!v4) = false) ∧ True ∧ True ∧ True ∧ True ∧ True ∧ True ∧ True) (by kernel_rfl) ⟨trivial, ⟨⟨⟨rfl, rfl, trivial⟩, trivial⟩, ok_impl_ValidRecording K a0 v1 e2⟩, trivial, ⟨trivial, b3⟩, trivial, ⟨⟨⟨rfl, rfl, trivial⟩, trivial⟩, ok_impl_ValidRecording K a1 v4 e5⟩, trivial, trivial, ⟨trivial, b6⟩, trivial, trivial, trivial, trivial, trivial, trivial, trivial⟩ ⟨rfl, rfl⟩
  refine thenQ_normal ?_
  rcases ite2_cases h with ⟨b9, h⟩ | ⟨b9, h⟩
  · refine AW.cond_t rfl b9 ?_
    refine AW.seq ?_
    refine AW.regionA [] [4, 5] [3] (s' := ⟨[(4, (.v (.one (.ptr 3 0)))), (5, (.v (.one (.c (.bool false)))))], [(3, (.box [(.c (.int .i64 (0 : Int))), .nils]))]⟩) (ob := True ∧ True ∧ True ∧ True) (by kernel_rfl) ⟨trivial, trivial, trivial, trivial⟩ ?_
    refine thenQ_normal ?_
    refine AW.ret ?_
    refine thenQ_ret ?_
    replace h := some_eq h
    subst h
    exact ⟨.inr rfl, retOK_of [(.agg [(.c (.int .i64 (0 : Int))), .nils]), (.one (.c (.bool false)))] (by kernel_rfl) ⟨⟨⟨rfl, trivial⟩, rfl, trivial⟩, ⟨rfl, trivial⟩, trivial⟩ (of_decide_eq_true (by kernel_rfl))⟩
  · refine AW.cond_f rfl b9 ?_
    refine AW.skip ?_
    refine thenQ_normal ?_
    refine AW.seq ?_
    obtain ⟨v10, e11, h⟩ := bind_some h
    obtain ⟨v12, e13, h⟩ := bind_some h
    obtain ⟨c14, h⟩ := chk_some h
    obtain ⟨v15, e16, h⟩ := bind_some h
    refine AW.treeA (by kernel_rfl) 10 [.no, .no, .no, .no, .call [.one (sl 4 cs_Pose a0.Frames)] [.one (sl 4 cs_Pose v10)] [[.own 4]], .no, .no, .call [.one (sl 4 cs_Pose a1.Frames)] [.one (sl 4 cs_Pose v12)] [[.own 5]], .objD 6 (v10 ++ v12).length (gl cs_Pose (v10 ++ v12)), .no, .callM [(.agg [(.ro (.int .i64 a0.Bones)), (.mv (sl 4 cs_Pose (v10 ++ v12)))])] [.agg (cs_Recording v15.1), .one (.bool v15.2)] [[.view, .lst 7], [.view]] none] [4, 5] [3, 7] (s' := ⟨[(4, (.v (.one (.ptr 3 0)))), (5, (.v (.one (.c (.bool v15.2)))))], [(3, (.box [(.c (.int .i64 v15.1.Bones)), (.lst 7 v15.1.Frames.length 4 (gl cs_Pose v15.1.Frames))])), (7, (.lst v15.1.Frames.length 4 (gl cs_Pose v15.1.Frames)))]⟩) (ob := (True ∧ True ∧ True ∧ True ∧ (((((sl 4 cs_Pose a0.Frames) : C) = (sl 4 cs_Pose a0.Frames)) ∧ True) ∧ CallOK Try.prog 76 [.one (sl 4 cs_Pose a0.Frames)] [.one (sl 4 cs_Pose v10)]) ∧ True ∧ True ∧ (((((sl 4 cs_Pose a1.Frames) : C) = (sl 4 cs_Pose a1.Frames)) ∧ True) ∧ CallOK Try.prog 76 [.one (sl 4 cs_Pose a1.Frames)] [.one (sl 4 cs_Pose v12)]) ∧ ((v10 ++ v12).length = v10.length + v12.length ∧ AppOb (v10.length) (v12.length) 4 (gl cs_Pose v10) (gl cs_Pose v12) (gl cs_Pose (v10 ++ v12)) ∧ True ∧ (v10.length + v12.length) * 40 ≤ 140737488355328) ∧ True ∧ True) ∧ (((((((.int .i64 a0.Bones) : C) = (.int .i64 a0.Bones)) ∧ (((sl 4 cs_Pose (v10 ++ v12)) : C) = (sl 4 cs_Pose (v10 ++ v12))) ∧ True) ∧ True) ∧ MutOK Try.prog 80 [(.agg [(.ro (.int .i64 a0.Bones)), (.mv (sl 4 cs_Pose (v10 ++ v12)))])] [.agg (cs_Recording v15.1), .one (.bool v15.2)]) ∧ ((True ∧ (True ∧ (True ∧ (True ∧ True)))) ∧ (True ∧ (True ∧ (True ∧ (True ∧ True)))) ∧ ((⟨[(4, (.v (.one (.ptr 3 0)))), (5, (.v (.one (.c (.bool v15.2)))))], [(3, (.box [(.c (.int .i64 v15.1.Bones)), (.lst 7 v15.1.Frames.length 4 (gl cs_Pose v15.1.Frames))])), (7, (.lst v15.1.Frames.length 4 (gl cs_Pose v15.1.Frames)))]⟩ : St) = ⟨[(4, (.v (.one (.ptr 3 0)))), (5, (.v (.one (.c (.bool v15.2)))))], [(3, (.box [(.c (.int .i64 v15.1.Bones)), (.lst 7 v15.1.Frames.length 4 (gl cs_Pose v15.1.Frames))])), (7, (.lst v15.1.Frames.length 4 (gl cs_Pose v15.1.Frames)))]⟩)))) (by kernel_rfl) ⟨⟨trivial, trivial, trivial, trivial, ⟨⟨rfl, trivial⟩, ok_impl_frames K a0.Frames v10 e11⟩, trivial, trivial, ⟨⟨rfl, trivial⟩, ok_impl_frames K a1.Frames v12 e13⟩, ⟨List.length_append, gl_append, trivial, c14⟩, trivial, trivial⟩, ⟨⟨⟨⟨rfl, rfl, trivial⟩, trivial⟩, ok_impl_validRecording K (Recording.mk a0.Bones (v10 ++ v12)) v15 e16⟩, ⟨⟨trivial, ⟨trivial, ⟨trivial, ⟨trivial, trivial⟩⟩⟩⟩, ⟨trivial, ⟨trivial, ⟨trivial, ⟨trivial, trivial⟩⟩⟩⟩, rfl⟩⟩⟩ ?_
    refine thenQ_normal ?_
    refine AW.ret ?_
    replace h := some_eq h
    subst h
    exact ⟨.inr rfl, retOK_of [(.agg [(.c (.int .i64 v15.1.Bones)), (.lst 7 v15.1.Frames.length 4 (gl cs_Pose v15.1.Frames))]), (.one (.c (.bool v15.2)))] (by kernel_rfl) ⟨⟨⟨rfl, trivial⟩, rfl, trivial⟩, ⟨rfl, trivial⟩, trivial⟩ (of_decide_eq_true (by kernel_rfl))⟩

/-! laws.FnExactJoinRecordings -/
def laws_FnExactJoinRecordings (K : Nat) (a0 : Recording) (a1 : Recording) : Option (Bool) :=
  (laws_szRecording K a0 (1048576 : Int)).bind fun v1 => ite2 ((decide (v1 < (0 : Int)))) (some true) ((laws_szRecording K a1 v1).bind fun v4 => ite2 ((decide (v4 < (0 : Int)))) (some true) ((laws_toRecording K a0).bind fun v7 => (laws_toRecording K a1).bind fun v9 => (spec_JoinRecordings K v7 v9).bind fun v11 => (laws_toRecording K a0).bind fun v13 => (laws_toRecording K a1).bind fun v15 => (impl_JoinRecordings K v13 v15).bind fun v17 => (laws_eqRecording K v17.1 v11.1).bind fun v19 => (ite2 ((!v19)) (some true) (some (!(v17.2 == v11.2)))).bind fun j22 => ite2 (j22) (some false) ((laws_toRecording K a0).bind fun v25 => (laws_eqRecording K v13 v25).bind fun v27 => ite2 ((!v27)) (some false) ((laws_toRecording K a1).bind fun v30 => (laws_eqRecording K v15 v30).bind fun v32 => ite2 ((!v32)) (some false) ((laws_markRecording K v13 (1 : Int)).bind fun v35 => chk (v35.2.length = v13.Frames.length) ((laws_markRecording K v15 v35.1).bind fun v38 => chk (v38.2.length = v15.Frames.length) ((ite2 ((decide (v38.1 < (0 : Int)))) (some true) ((laws_eqRecording K v17.1 v11.1).bind fun v42 => ite2 ((!v42)) (some true) (some (!(v17.2 == v11.2))))).bind fun j45 => ite2 (j45) (some false) ((laws_markRecording K v17.1 (1 : Int)).bind fun v48 => chk (v48.2.length = v17.1.Frames.length) ((laws_heldRecording K (Recording.mk v17.1.Bones v48.2) (1 : Int)).bind fun v51 => ite2 ((decide (v51 < (0 : Int)))) (some false) (ite2 ((v51 != v48.1)) (some false) ((laws_toRecording K a0).bind fun v55 => (laws_toRecording K a1).bind fun v57 => (impl_JoinRecordings K v55 v57).bind fun v59 => (laws_eqRecording K v59.1 v11.1).bind fun v61 => (ite2 ((!v61)) (some true) (some (!(v59.2 == v11.2)))).bind fun j64 => ite2 (j64) (some false) ((laws_heldRecording K (Recording.mk v17.1.Bones v48.2) (1 : Int)).bind fun v67 => ite2 ((decide (v67 < (0 : Int)))) (some false) (ite2 ((v67 != v48.1)) (some false) (some true))))))))))))))

theorem ok_laws_FnExactJoinRecordings (K : Nat) (a0 : Recording) (a1 : Recording) (o : (Bool)) (h : laws_FnExactJoinRecordings K a0 a1 = some o) : CallOK Try.prog 5 [.agg (cs_Recording a0), .agg (cs_Recording a1)] [.one (.bool o)] := by
  refine callOK_of_AW Try.func5 rfl (by kernel_rfl) (Nat.le_of_ble_eq_true (by kernel_rfl)) ?_
  intro w0
  unfold laws_FnExactJoinRecordings at h
  refine AW.seq ?_
  refine AW.regionA [.box 1, .box 2] [2, 3] [1, 2] (s' := ⟨[(2, (.v (.one (.ptr 1 0)))), (3, (.v (.one (.ptr 2 0))))], [(1, (.box [(.c (.int .i64 a0.Bones)), (.c (sl 4 cs_Pose a0.Frames))])), (2, (.box [(.c (.int .i64 a1.Bones)), (.c (sl 4 cs_Pose a1.Frames))]))]⟩) (ob := True ∧ True ∧ True ∧ True) (by kernel_rfl) ⟨trivial, trivial, trivial, trivial⟩ ?_
  refine thenQ_normal ?_
  refine AW.seq ?_
  refine AW.regionA [] [2, 3, 5] [1, 2] (s' := ⟨[(2, (.v (.one (.ptr 1 0)))), (3, (.v (.one (.ptr 2 0)))), (5, (.v (.one (.c (.int .i64 (1048576 : Int))))))], [(1, (.box [(.c (.int .i64 a0.Bones)), (.c (sl 4 cs_Pose a0.Frames))])), (2, (.box [(.c (.int .i64 a1.Bones)), (.c (sl 4 cs_Pose a1.Frames))]))]⟩) (ob := True ∧ True) (by kernel_rfl) ⟨trivial, trivial⟩ ?_
  refine thenQ_normal ?_
  refine AW.seq ?_
  obtain ⟨v1, e2, h⟩ := bind_some h
  refine AW.regionA [.no, .no, .call [.agg (cs_Recording a0), .one (.int .i64 (1048576 : Int))] [.one (.int .i64 v1)] [[.view]]] [2, 3, 5] [1, 2] (s' := ⟨[(2, (.v (.one (.ptr 1 0)))), (3, (.v (.one (.ptr 2 0)))), (5, (.v (.one (.c (.int .i64 v1)))))], [(1, (.box [(.c (.int .i64 a0.Bones)), (.c (sl 4 cs_Pose a0.Frames))])), (2, (.box [(.c (.int .i64 a1.Bones)), (.c (sl 4 cs_Pose a1.Frames))]))]⟩) (ob := True ∧ True ∧ ((((((.int .i64 a0.Bones) : C) = (.int .i64 a0.Bones)) ∧ (((sl 4 cs_Pose a0.Frames) : C) = (sl 4 cs_Pose a0.Frames)) ∧ True) ∧ (((.int .i64 (1048576 : Int)) : C) = (.int .i64 (1048576 : Int))) ∧ True) ∧ CallOK Try.prog 21 [.agg (cs_Recording a0), .one (.int .i64 (1048576 : Int))] [.one (.int .i64 v1)]) ∧ True ∧ True) (by kernel_rfl) ⟨trivial, trivial, ⟨⟨⟨rfl, rfl, trivial⟩, rfl, trivial⟩, ok_laws_szRecording K a0 (1048576 : Int) v1 e2⟩, trivial, trivial⟩ ?_
  refine thenQ_normal ?_
  refine AW.seq ?_
  refine AW.seq ?_
  refine AW.regionA [] [2, 3, 5, 21] [1, 2] (s' := ⟨[(2, (.v (.one (.ptr 1 0)))), (3, (.v (.one (.ptr 2 0)))), (5, (.v (.one (.c (.int .i64 v1))))), (21, (.v (.one (.c (.bool (decide (v1 < (0 : Int))))))))], [(1, (.box [(.c (.int .i64 a0.Bones)), (.c (sl 4 cs_Pose a0.Frames))])), (2, (.box [(.c (.int .i64 a1.Bones)), (.c (sl 4 cs_Pose a1.Frames))]))]⟩) (ob := True ∧ True ∧ True) (by kernel_rfl) ⟨trivial, trivial, trivial⟩ ?_
  refine thenQ_normal ?_
  rcases ite2_cases h with ⟨b3, h⟩ | ⟨b3, h⟩
  · refine AW.cond_t rfl b3 ?_
    refine AW.seq ?_
    refine AW.regionA [] [4] [] (s' := ⟨[(4, (.v (.one (.c (.bool true)))))], []⟩) (ob := True ∧ True) (by kernel_rfl) ⟨trivial, trivial⟩ ?_
    refine thenQ_normal ?_
    refine AW.ret ?_
    refine thenQ_ret ?_
    replace h := some_eq h
    subst h
    exact ⟨.inr rfl, retOK_of [(.one (.c (.bool true)))] (by kernel_rfl) ⟨⟨rfl, trivial⟩, trivial⟩ (of_decide_eq_true (by kernel_rfl))⟩
  · refine AW.cond_f rfl b3 ?_
    refine AW.skip ?_
    refine thenQ_normal ?_
    refine AW.seq ?_
    obtain ⟨v4, e5, h⟩ := bind_some h
    refine AW.regionA [.no, .no, .call [.agg (cs_Recording a1), .one (.int .i64 v1)] [.one (.int .i64 v4)] [[.view]]] [2, 3, 5] [1, 2] (s' := ⟨[(2, (.v (.one (.ptr 1 0)))), (3, (.v (.one (.ptr 2 0)))), (5, (.v (.one (.c (.int .i64 v4)))))], [(1, (.box [(.c (.int .i64 a0.Bones)), (.c (sl 4 cs_Pose a0.Frames))])), (2, (.box [(.c (.int .i64 a1.Bones)), (.c (sl 4 cs_Pose a1.Frames))]))]⟩) (ob := True ∧ True ∧ ((((((.int .i64 a1.Bones) : C) = (.int .i64 a1.Bones)) ∧ (((sl 4 cs_Pose a1.Frames) : C) = (sl 4 cs_Pose a1.Frames)) ∧ True) ∧ (((.int .i64 v1) : C) = (.int .i64 v1)) ∧ True) ∧ CallOK Try.prog 21 [.agg (cs_Recording a1), .one (.int .i64 v1)] [.one (.int .i64 v4)]) ∧ True ∧ True) (by kernel_rfl) ⟨trivial, trivial, ⟨⟨⟨rfl, rfl, trivial⟩, rfl, trivial⟩, ok_laws_szRecording K a1 v1 v4 e5⟩, trivial, trivial⟩ ?_
    refine thenQ_normal ?_
    refine AW.seq ?_
    refine AW.seq ?_
    refine AW.regionA [] [2, 3, 26] [1, 2] (s' := ⟨[(2, (.v (.one (.ptr 1 0)))), (3, (.v (.one (.ptr 2 0)))), (26, (.v (.one (.c (.bool (decide (v4 < (0 : Int))))))))], [(1, (.box [(.c (.int .i64 a0.Bones)), (.c (sl 4 cs_Pose a0.Frames))])), (2, (.box [(.c (.int .i64 a1.Bones)), (.c (sl 4 cs_Pose a1.Frames))]))]⟩) (ob := True ∧ True ∧ True) (by kernel_rfl) ⟨trivial, trivial, trivial⟩ ?_
    refine thenQ_normal ?_
    rcases ite2_cases h with ⟨b6, h⟩ | ⟨b6, h⟩
    · refine AW.cond_t rfl b6 ?_
      refine AW.seq ?_
      refine AW.regionA [] [4] [] (s' := ⟨[(4, (.v (.one (.c (.bool true)))))], []⟩) (ob := True ∧ True) (by kernel_rfl) ⟨trivial, trivial⟩ ?_
      refine thenQ_normal ?_
      refine AW.ret ?_
      refine thenQ_ret ?_
      replace h := some_eq h
      subst h
      exact ⟨.inr rfl, retOK_of [(.one (.c (.bool true)))] (by kernel_rfl) ⟨⟨rfl, trivial⟩, trivial⟩ (of_decide_eq_true (by kernel_rfl))⟩
    · refine AW.cond_f rfl b6 ?_
      refine AW.skip ?_
      refine thenQ_normal ?_
      refine AW.seq ?_
      obtain ⟨v7, e8, h⟩ := bind_some h
      obtain ⟨v9, e10, h⟩ := bind_some h
      obtain ⟨v11, e12, h⟩ := bind_some h
      refine AW.lateA (by kernel_rfl) 9 7 [.no, .call [.agg (cs_Recording a0)] [.agg (cs_Recording v7)] [[.view, .lst 3]], .no, .call [.agg (cs_Recording a1)] [.agg (cs_Recording v9)] [[.view, .lst 4]], .call [.agg (cs_Recording v7), .agg (cs_Recording v9)] [.agg (cs_Recording v11.1), .one (.bool v11.2)] [[.view, .lst 5], [.view]], .no, .no, .no, .box 6] [2, 3, 6, 7] [1, 2, 5, 6] (s' := ⟨[(2, (.v (.one (.ptr 1 0)))), (3, (.v (.one (.ptr 2 0)))), (6, (.v (.one (.ptr 6 0)))), (7, (.v (.one (.c (.bool v11.2)))))], [(1, (.box [(.c (.int .i64 a0.Bones)), (.c (sl 4 cs_Pose a0.Frames))])), (2, (.box [(.c (.int .i64 a1.Bones)), (.c (sl 4 cs_Pose a1.Frames))])), (5, (.lst v11.1.Frames.length 4 (gl cs_Pose v11.1.Frames))), (6, (.box [(.c (.int .i64 v11.1.Bones)), (.lst 5 v11.1.Frames.length 4 (gl cs_Pose v11.1.Frames))]))]⟩) (ob := (True ∧ ((((((.int .i64 a0.Bones) : C) = (.int .i64 a0.Bones)) ∧ (((sl 4 cs_Pose a0.Frames) : C) = (sl 4 cs_Pose a0.Frames)) ∧ True) ∧ True) ∧ CallOK Try.prog 23 [.agg (cs_Recording a0)] [.agg (cs_Recording v7)]) ∧ True ∧ ((((((.int .i64 a1.Bones) : C) = (.int .i64 a1.Bones)) ∧ (((sl 4 cs_Pose a1.Frames) : C) = (sl 4 cs_Pose a1.Frames)) ∧ True) ∧ True) ∧ CallOK Try.prog 23 [.agg (cs_Recording a1)] [.agg (cs_Recording v9)]) ∧ ((((((.int .i64 v7.Bones) : C) = (.int .i64 v7.Bones)) ∧ (((sl 4 cs_Pose v7.Frames) : C) = (sl 4 cs_Pose v7.Frames)) ∧ True) ∧ ((((.int .i64 v9.Bones) : C) = (.int .i64 v9.Bones)) ∧ (((sl 4 cs_Pose v9.Frames) : C) = (sl 4 cs_Pose v9.Frames)) ∧ True) ∧ True) ∧ CallOK Try.prog 28 [.agg (cs_Recording v7), .agg (cs_Recording v9)] [.agg (cs_Recording v11.1), .one (.bool v11.2)]) ∧ True ∧ True ∧ True ∧ True ∧ True) ∧ (True ∧ True ∧ True) ∧ (True ∧ True ∧ True ∧ True) ∧ ((⟨[(2, (.v (.one (.ptr 1 0)))), (3, (.v (.one (.ptr 2 0)))), (6, (.v (.one (.ptr 6 0)))), (7, (.v (.one (.c (.bool v11.2)))))], [(1, (.box [(.c (.int .i64 a0.Bones)), (.c (sl 4 cs_Pose a0.Frames))])), (2, (.box [(.c (.int .i64 a1.Bones)), (.c (sl 4 cs_Pose a1.Frames))])), (5, (.lst v11.1.Frames.length 4 (gl cs_Pose v11.1.Frames))), (6, (.box [(.c (.int .i64 v11.1.Bones)), (.lst 5 v11.1.Frames.length 4 (gl cs_Pose v11.1.Frames))]))]⟩ : St) = ⟨[(2, (.v (.one (.ptr 1 0)))), (3, (.v (.one (.ptr 2 0)))), (6, (.v (.one (.ptr 6 0)))), (7, (.v (.one (.c (.bool v11.2)))))], [(1, (.box [(.c (.int .i64 a0.Bones)), (.c (sl 4 cs_Pose a0.Frames))])), (2, (.box [(.c (.int .i64 a1.Bones)), (.c (sl 4 cs_Pose a1.Frames))])), (5, (.lst v11.1.Frames.length 4 (gl cs_Pose v11.1.Frames))), (6, (.box [(.c (.int .i64 v11.1.Bones)), (.lst 5 v11.1.Frames.length 4 (gl cs_Pose v11.1.Frames))]))]⟩)) (by kernel_rfl) ⟨⟨trivial, ⟨⟨⟨rfl, rfl, trivial⟩, trivial⟩, ok_laws_toRecording K a0 v7 e8⟩, trivial, ⟨⟨⟨rfl, rfl, trivial⟩, trivial⟩, ok_laws_toRecording K a1 v9 e10⟩, ⟨⟨⟨rfl, rfl, trivial⟩, ⟨rfl, rfl, trivial⟩, trivial⟩, ok_spec_JoinRecordings K v7 v9 v11 e12⟩, trivial, trivial, trivial, trivial, trivial⟩, ⟨trivial, trivial, trivial⟩, ⟨trivial, trivial, trivial, trivial⟩, rfl⟩ ?_
      refine thenQ_normal ?_
      refine AW.seq ?_
      obtain ⟨v13, e14, h⟩ := bind_some h
      refine AW.regionA [.no, .call [.agg (cs_Recording a0)] [.agg (cs_Recording v13)] [[.view, .own 7]], .box 8] [2, 3, 6, 7, 8] [1, 2, 5, 6, 7, 8] (s' := ⟨[(2, (.v (.one (.ptr 1 0)))), (3, (.v (.one (.ptr 2 0)))), (6, (.v (.one (.ptr 6 0)))), (7, (.v (.one (.c (.bool v11.2))))), (8, (.v (.one (.ptr 8 0))))], [(1, (.box [(.c (.int .i64 a0.Bones)), (.c (sl 4 cs_Pose a0.Frames))])), (2, (.box [(.c (.int .i64 a1.Bones)), (.c (sl 4 cs_Pose a1.Frames))])), (5, (.lst v11.1.Frames.length 4 (gl cs_Pose v11.1.Frames))), (6, (.box [(.c (.int .i64 v11.1.Bones)), (.lst 5 v11.1.Frames.length 4 (gl cs_Pose v11.1.Frames))])), (7, (.arr true v13.Frames.length 4 (gl cs_Pose v13.Frames))), (8, (.box [(.c (.int .i64 v13.Bones)), (.arr 7)]))]⟩) (ob := True ∧ ((((((.int .i64 a0.Bones) : C) = (.int .i64 a0.Bones)) ∧ (((sl 4 cs_Pose a0.Frames) : C) = (sl 4 cs_Pose a0.Frames)) ∧ True) ∧ True) ∧ CallOK Try.prog 23 [.agg (cs_Recording a0)] [.agg (cs_Recording v13)]) ∧ True ∧ True ∧ True) (by kernel_rfl) ⟨trivial, ⟨⟨⟨rfl, rfl, trivial⟩, trivial⟩, ok_laws_toRecording K a0 v13 e14⟩, trivial, trivial, trivial⟩ ?_
      refine thenQ_normal ?_
      refine AW.seq ?_
      obtain ⟨v15, e16, h⟩ := bind_some h
      refine AW.regionA [.no, .call [.agg (cs_Recording a1)] [.agg (cs_Recording v15)] [[.view, .own 9]], .box 10] [2, 3, 6, 7, 8, 9] [1, 2, 5, 6, 7, 8, 9, 10] (s' := ⟨[(2, (.v (.one (.ptr 1 0)))), (3, (.v (.one (.ptr 2 0)))), (6, (.v (.one (.ptr 6 0)))), (7, (.v (.one (.c (.bool v11.2))))), (8, (.v (.one (.ptr 8 0)))), (9, (.v (.one (.ptr 10 0))))], [(1, (.box [(.c (.int .i64 a0.Bones)), (.c (sl 4 cs_Pose a0.Frames))])), (2, (.box [(.c (.int .i64 a1.Bones)), (.c (sl 4 cs_Pose a1.Frames))])), (5, (.lst v11.1.Frames.length 4 (gl cs_Pose v11.1.Frames))), (6, (.box [(.c (.int .i64 v11.1.Bones)), (.lst 5 v11.1.Frames.length 4 (gl cs_Pose v11.1.Frames))])), (7, (.arr true v13.Frames.length 4 (gl cs_Pose v13.Frames))), (8, (.box [(.c (.int .i64 v13.Bones)), (.arr 7)])), (9, (.arr true v15.Frames.length 4 (gl cs_Pose v15.Frames))), (10, (.box [(.c (.int .i64 v15.Bones)), (.arr 9)]))]⟩) (ob := True ∧ ((((((.int .i64 a1.Bones) : C) = (.int .i64 a1.Bones)) ∧ (((sl 4 cs_Pose a1.Frames) : C) = (sl 4 cs_Pose a1.Frames)) ∧ True) ∧ True) ∧ CallOK Try.prog 23 [.agg (cs_Recording a1)] [.agg (cs_Recording v15)]) ∧ True ∧ True ∧ True) (by kernel_rfl) ⟨trivial, ⟨⟨⟨rfl, rfl, trivial⟩, trivial⟩, ok_laws_toRecording K a1 v15 e16⟩, trivial, trivial, trivial⟩ ?_
      refine thenQ_normal ?_
      refine AW.seq ?_
      obtain ⟨v17, e18, h⟩ := bind_some h
      refine AW.regionA [.no, .no, .call [.agg (cs_Recording v13), .agg (cs_Recording v15)] [.agg (cs_Recording v17.1), .one (.bool v17.2)] [[.view, .own 11], [.view]], .no, .no, .no, .box 12] [2, 3, 6, 7, 8, 9, 10, 11] [1, 2, 5, 6, 7, 8, 9, 10, 11, 12] (s' := ⟨[(2, (.v (.one (.ptr 1 0)))), (3, (.v (.one (.ptr 2 0)))), (6, (.v (.one (.ptr 6 0)))), (7, (.v (.one (.c (.bool v11.2))))), (8, (.v (.one (.ptr 8 0)))), (9, (.v (.one (.ptr 10 0)))), (10, (.v (.one (.ptr 12 0)))), (11, (.v (.one (.c (.bool v17.2)))))], [(1, (.box [(.c (.int .i64 a0.Bones)), (.c (sl 4 cs_Pose a0.Frames))])), (2, (.box [(.c (.int .i64 a1.Bones)), (.c (sl 4 cs_Pose a1.Frames))])), (5, (.lst v11.1.Frames.length 4 (gl cs_Pose v11.1.Frames))), (6, (.box [(.c (.int .i64 v11.1.Bones)), (.lst 5 v11.1.Frames.length 4 (gl cs_Pose v11.1.Frames))])), (7, (.arr true v13.Frames.length 4 (gl cs_Pose v13.Frames))), (8, (.box [(.c (.int .i64 v13.Bones)), (.arr 7)])), (9, (.arr true v15.Frames.length 4 (gl cs_Pose v15.Frames))), (10, (.box [(.c (.int .i64 v15.Bones)), (.arr 9)])), (11, (.arr true v17.1.Frames.length 4 (gl cs_Pose v17.1.Frames))), (12, (.box [(.c (.int .i64 v17.1.Bones)), (.arr 11)]))]⟩) (ob := True ∧ True ∧ ((((((.int .i64 v13.Bones) : C) = (.int .i64 v13.Bones)) ∧ (((sl 4 cs_Pose v13.Frames) : C) = (sl 4 cs_Pose v13.Frames)) ∧ True) ∧ ((((.int .i64 v15.Bones) : C) = (.int .i64 v15.Bones)) ∧ (((sl 4 cs_Pose v15.Frames) : C) = (sl 4 cs_Pose v15.Frames)) ∧ True) ∧ True) ∧ CallOK Try.prog 29 [.agg (cs_Recording v13), .agg (cs_Recording v15)] [.agg (cs_Recording v17.1), .one (.bool v17.2)]) ∧ True ∧ True ∧ True ∧ True ∧ True ∧ True ∧ True) (by kernel_rfl) ⟨trivial, trivial, ⟨⟨⟨rfl, rfl, trivial⟩, ⟨rfl, rfl, trivial⟩, trivial⟩, ok_impl_JoinRecordings K v13 v15 v17 e18⟩, trivial, trivial, trivial, trivial, trivial, trivial, trivial⟩ ?_
      refine thenQ_normal ?_
      refine AW.seq ?_
      refine AW.seq ?_
      obtain ⟨v19, e20, h⟩ := bind_some h
      obtain ⟨j22, e23, h⟩ := bind_some h
      refine AW.join1 (s2 := ⟨[(2, (.v (.one (.ptr 1 0)))), (3, (.v (.one (.ptr 2 0)))), (6, (.v (.one (.ptr 6 0)))), (7, (.v (.one (.c (.bool v11.2))))), (8, (.v (.one (.ptr 8 0)))), (9, (.v (.one (.ptr 10 0)))), (10, (.v (.one (.ptr 12 0)))), (11, (.v (.one (.c (.bool v17.2))))), (53, (.v (.one (.c (.bool j22)))))], [(1, (.box [(.c (.int .i64 a0.Bones)), (.c (sl 4 cs_Pose a0.Frames))])), (2, (.box [(.c (.int .i64 a1.Bones)), (.c (sl 4 cs_Pose a1.Frames))])), (5, (.lst v11.1.Frames.length 4 (gl cs_Pose v11.1.Frames))), (6, (.box [(.c (.int .i64 v11.1.Bones)), (.lst 5 v11.1.Frames.length 4 (gl cs_Pose v11.1.Frames))])), (7, (.arr true v13.Frames.length 4 (gl cs_Pose v13.Frames))), (8, (.box [(.c (.int .i64 v13.Bones)), (.arr 7)])), (9, (.arr true v15.Frames.length 4 (gl cs_Pose v15.Frames))), (10, (.box [(.c (.int .i64 v15.Bones)), (.arr 9)])), (11, (.arr true v17.1.Frames.length 4 (gl cs_Pose v17.1.Frames))), (12, (.box [(.c (.int .i64 v17.1.Bones)), (.arr 11)]))]⟩) ?_ ?_
      · rcases ite2_cases e23 with ⟨b21, e23⟩ | ⟨b21, e23⟩
        · replace e23 := some_eq e23
          subst e23
          exact AW.regionA [.no, .no, .call [.agg (cs_Recording v17.1), .agg (cs_Recording v11.1)] [.one (.bool v19)] [[.view]], .no, .dec true] [2, 3, 6, 7, 8, 9, 10, 11, 53] [1, 2, 5, 6, 7, 8, 9, 10, 11, 12] (s' := ⟨[(2, (.v (.one (.ptr 1 0)))), (3, (.v (.one (.ptr 2 0)))), (6, (.v (.one (.ptr 6 0)))), (7, (.v (.one (.c (.bool v11.2))))), (8, (.v (.one (.ptr 8 0)))), (9, (.v (.one (.ptr 10 0)))), (10, (.v (.one (.ptr 12 0)))), (11, (.v (.one (.c (.bool v17.2))))), (53, (.v (.one (.c (.bool true)))))], [(1, (.box [(.c (.int .i64 a0.Bones)), (.c (sl 4 cs_Pose a0.Frames))])), (2, (.box [(.c (.int .i64 a1.Bones)), (.c (sl 4 cs_Pose a1.Frames))])), (5, (.lst v11.1.Frames.length 4 (gl cs_Pose v11.1.Frames))), (6, (.box [(.c (.int .i64 v11.1.Bones)), (.lst 5 v11.1.Frames.length 4 (gl cs_Pose v11.1.Frames))])), (7, (.arr true v13.Frames.length 4 (gl cs_Pose v13.Frames))), (8, (.box [(.c (.int .i64 v13.Bones)), (.arr 7)])), (9, (.arr true v15.Frames.length 4 (gl cs_Pose v15.Frames))), (10, (.box [(.c (.int .i64 v15.Bones)), (.arr 9)])), (11, (.arr true v17.1.Frames.length 4 (gl cs_Pose v17.1.Frames))), (12, (.box [(.c (.int .i64 v17.1.Bones)), (.arr 11)]))]⟩) (ob := True ∧ True ∧ ((((((.int .i64 v17.1.Bones) : C) = (.int .i64 v17.1.Bones)) ∧ (((sl 4 cs_Pose v17.1.Frames) : C) = (sl 4 cs_Pose v17.1.Frames)) ∧ True) ∧ ((((.int .i64 v11.1.Bones) : C) = (.int .i64 v11.1.Bones)) ∧ (((sl 4 cs_Pose v11.1.Frames) : C) = (sl 4 cs_Pose v11.1.Frames)) ∧ True) ∧ True) ∧ CallOK Try.prog 25 [.agg (cs_Recording v17.1), .agg (cs_Recording v11.1)] [.one (.bool v19)]) ∧ True ∧ (True ∧ (!v19) = true) ∧ True ∧ True ∧ True ∧ True ∧ True) (by kernel_rfl) ⟨trivial, trivial, ⟨⟨⟨rfl, rfl, trivial⟩, ⟨rfl, rfl, trivial⟩, trivial⟩, ok_laws_eqRecording K v17.1 v11.1 v19 e20⟩, trivial, ⟨trivial, b21⟩, trivial, trivial, trivial, trivial, trivial⟩ ⟨rfl, rfl⟩
        · replace e23 := some_eq e23
          subst e23
          exact AW.regionA [.no, .no, .call [.agg (cs_Recording v17.1), .agg (cs_Recording v11.1)] [.one (.bool v19)] [[.view]], .no, .dec false] [2, 3, 6, 7, 8, 9, 10, 11, 53] [1, 2, 5, 6, 7, 8, 9, 10, 11, 12] (s' := ⟨[(2, (.v (.one (.ptr 1 0)))), (3, (.v (.one (.ptr 2 0)))), (6, (.v (.one (.ptr 6 0)))), (7, (.v (.one (.c (.bool v11.2))))), (8, (.v (.one (.ptr 8 0)))), (9, (.v (.one (.ptr 10 0)))), (10, (.v (.one (.ptr 12 0)))), (11, (.v (.one (.c (.bool v17.2))))), (53, (.v (.one (.c (.bool (!(v17.2 == v11.2)))))))], [(1, (.box [(.c (.int .i64 a0.Bones)), (.c (sl 4 cs_Pose a0.Frames))])), (2, (.box [(.c (.int .i64 a1.Bones)), (.c (sl 4 cs_Pose a1.Frames))])), (5, (.lst v11.1.Frames.length 4 (gl cs_Pose v11.1.Frames))), (6, (.box [(.c (.int .i64 v11.1.Bones)), (.lst 5 v11.1.Frames.length 4 (gl cs_Pose v11.1.Frames))])), (7, (.arr true v13.Frames.length 4 (gl cs_Pose v13.Frames))), (8, (.box [(.c (.int .i64 v13.Bones)), (.arr 7)])), (9, (.arr true v15.Frames.length 4 (gl cs_Pose v15.Frames))), (10, (.box [(.c (.int .i64 v15.Bones)), (.arr 9)])), (11, (.arr true v17.1.Frames.length 4 (gl cs_Pose v17.1.Frames))), (12, (.box [(.c (.int .i64 v17.1.Bones)), (.arr 11)]))]⟩) (ob := True ∧ True ∧ ((((((.int .i64 v17.1.Bones) : C) = (.int .i64 v17.1.Bones)) ∧ (((sl 4 cs_Pose v17.1.Frames) : C) = (sl 4 cs_Pose v17.1.Frames)) ∧ True) ∧ ((((.int .i64 v11.1.Bones) : C) = (.int .i64 v11.1.Bones)) ∧ (((sl 4 cs_Pose v11.1.Frames) : C) = (sl 4 cs_Pose v11.1.Frames)) ∧ True) ∧ True) ∧ CallOK Try.prog 25 [.agg (cs_Recording v17.1), .agg (cs_Recording v11.1)] [.one (.bool v19)]) ∧ True ∧ (True ∧ (!v19) = false) ∧ True ∧ True ∧ True ∧ True ∧ True) (by kernel_rfl) ⟨trivial, trivial, ⟨⟨⟨rfl, rfl, trivial⟩, ⟨rfl, rfl, trivial⟩, trivial⟩, ok_laws_eqRecording K v17.1 v11.1 v19 e20⟩, trivial, ⟨trivial, b21⟩, trivial, trivial, trivial, trivial, trivial⟩ ⟨rfl, rfl⟩
      refine thenQ_normal ?_
      rcases ite2_cases h with ⟨b24, h⟩ | ⟨b24, h⟩
      · refine AW.cond_t rfl b24 ?_
        refine AW.seq ?_
        refine AW.regionA [] [4] [] (s' := ⟨[(4, (.v (.one (.c (.bool false)))))], []⟩) (ob := True ∧ True) (by kernel_rfl) ⟨trivial, trivial⟩ ?_
        refine thenQ_normal ?_
        refine AW.ret ?_
        refine thenQ_ret ?_
        replace h := some_eq h
        subst h
        exact ⟨.inr rfl, retOK_of [(.one (.c (.bool false)))] (by kernel_rfl) ⟨⟨rfl, trivial⟩, trivial⟩ (of_decide_eq_true (by kernel_rfl))⟩
      · refine AW.cond_f rfl b24 ?_
        refine AW.skip ?_
        refine thenQ_normal ?_
        refine AW.seq ?_
        refine AW.seq ?_
        obtain ⟨v25, e26, h⟩ := bind_some h
        obtain ⟨v27, e28, h⟩ := bind_some h
        refine AW.drawnA (by kernel_rfl) 5 [.no, .no, .call [.agg (cs_Recording a0)] [.agg (cs_Recording v25)] [[.view, .lst 13]], .call [.agg (cs_Recording v13), .agg (cs_Recording v25)] [.one (.bool v27)] [[.view]]] [2, 3, 6, 7, 8, 9, 10, 11, 58] [1, 2, 5, 6, 7, 8, 9, 10, 11, 12] (s' := ⟨[(2, (.v (.one (.ptr 1 0)))), (3, (.v (.one (.ptr 2 0)))), (6, (.v (.one (.ptr 6 0)))), (7, (.v (.one (.c (.bool v11.2))))), (8, (.v (.one (.ptr 8 0)))), (9, (.v (.one (.ptr 10 0)))), (10, (.v (.one (.ptr 12 0)))), (11, (.v (.one (.c (.bool v17.2))))), (58, (.v (.one (.c (.bool (!v27))))))], [(1, (.box [(.c (.int .i64 a0.Bones)), (.c (sl 4 cs_Pose a0.Frames))])), (2, (.box [(.c (.int .i64 a1.Bones)), (.c (sl 4 cs_Pose a1.Frames))])), (5, (.lst v11.1.Frames.length 4 (gl cs_Pose v11.1.Frames))), (6, (.box [(.c (.int .i64 v11.1.Bones)), (.lst 5 v11.1.Frames.length 4 (gl cs_Pose v11.1.Frames))])), (7, (.arr true v13.Frames.length 4 (gl cs_Pose v13.Frames))), (8, (.box [(.c (.int .i64 v13.Bones)), (.arr 7)])), (9, (.arr true v15.Frames.length 4 (gl cs_Pose v15.Frames))), (10, (.box [(.c (.int .i64 v15.Bones)), (.arr 9)])), (11, (.arr true v17.1.Frames.length 4 (gl cs_Pose v17.1.Frames))), (12, (.box [(.c (.int .i64 v17.1.Bones)), (.arr 11)]))]⟩) (ob := (True ∧ True ∧ ((((((.int .i64 a0.Bones) : C) = (.int .i64 a0.Bones)) ∧ (((sl 4 cs_Pose a0.Frames) : C) = (sl 4 cs_Pose a0.Frames)) ∧ True) ∧ True) ∧ CallOK Try.prog 23 [.agg (cs_Recording a0)] [.agg (cs_Recording v25)]) ∧ ((((((.int .i64 v13.Bones) : C) = (.int .i64 v13.Bones)) ∧ (((sl 4 cs_Pose v13.Frames) : C) = (sl 4 cs_Pose v13.Frames)) ∧ True) ∧ ((((.int .i64 v25.Bones) : C) = (.int .i64 v25.Bones)) ∧ (((sl 4 cs_Pose v25.Frames) : C) = (sl 4 cs_Pose v25.Frames)) ∧ True) ∧ True) ∧ CallOK Try.prog 25 [.agg (cs_Recording v13), .agg (cs_Recording v25)] [.one (.bool v27)]) ∧ True ∧ True) ∧ (True)) (by kernel_rfl) ⟨⟨trivial, trivial, ⟨⟨⟨rfl, rfl, trivial⟩, trivial⟩, ok_laws_toRecording K a0 v25 e26⟩, ⟨⟨⟨rfl, rfl, trivial⟩, ⟨rfl, rfl, trivial⟩, trivial⟩, ok_laws_eqRecording K v13 v25 v27 e28⟩, trivial, trivial⟩, trivial⟩ ?_
        refine thenQ_normal ?_
        rcases ite2_cases h with ⟨b29, h⟩ | ⟨b29, h⟩
        · refine AW.cond_t rfl b29 ?_
          refine AW.seq ?_
          refine AW.regionA [] [4] [] (s' := ⟨[(4, (.v (.one (.c (.bool false)))))], []⟩) (ob := True ∧ True) (by kernel_rfl) ⟨trivial, trivial⟩ ?_
          refine thenQ_normal ?_
          refine AW.ret ?_
          refine thenQ_ret ?_
          replace h := some_eq h
          subst h
          exact ⟨.inr rfl, retOK_of [(.one (.c (.bool false)))] (by kernel_rfl) ⟨⟨rfl, trivial⟩, trivial⟩ (of_decide_eq_true (by kernel_rfl))⟩
        · refine AW.cond_f rfl b29 ?_
          refine AW.skip ?_
          refine thenQ_normal ?_
          refine AW.seq ?_
          refine AW.seq ?_
          obtain ⟨v30, e31, h⟩ := bind_some h
          obtain ⟨v32, e33, h⟩ := bind_some h
          refine AW.drawnA (by kernel_rfl) 5 [.no, .no, .call [.agg (cs_Recording a1)] [.agg (cs_Recording v30)] [[.view, .lst 14]], .call [.agg (cs_Recording v15), .agg (cs_Recording v30)] [.one (.bool v32)] [[.view]]] [2, 3, 6, 7, 8, 9, 10, 11, 63] [1, 2, 5, 6, 7, 8, 9, 10, 11, 12] (s' := ⟨[(2, (.v (.one (.ptr 1 0)))), (3, (.v (.one (.ptr 2 0)))), (6, (.v (.one (.ptr 6 0)))), (7, (.v (.one (.c (.bool v11.2))))), (8, (.v (.one (.ptr 8 0)))), (9, (.v (.one (.ptr 10 0)))), (10, (.v (.one (.ptr 12 0)))), (11, (.v (.one (.c (.bool v17.2))))), (63, (.v (.one (.c (.bool (!v32))))))], [(1, (.box [(.c (.int .i64 a0.Bones)), (.c (sl 4 cs_Pose a0.Frames))])), (2, (.box [(.c (.int .i64 a1.Bones)), (.c (sl 4 cs_Pose a1.Frames))])), (5, (.lst v11.1.Frames.length 4 (gl cs_Pose v11.1.Frames))), (6, (.box [(.c (.int .i64 v11.1.Bones)), (.lst 5 v11.1.Frames.length 4 (gl cs_Pose v11.1.Frames))])), (7, (.arr true v13.Frames.length 4 (gl cs_Pose v13.Frames))), (8, (.box [(.c (.int .i64 v13.Bones)), (.arr 7)])), (9, (.arr true v15.Frames.length 4 (gl cs_Pose v15.Frames))), (10, (.box [(.c (.int .i64 v15.Bones)), (.arr 9)])), (11, (.arr true v17.1.Frames.length 4 (gl cs_Pose v17.1.Frames))), (12, (.box [(.c (.int .i64 v17.1.Bones)), (.arr 11)]))]⟩) (ob := (True ∧ True ∧ ((((((.int .i64 a1.Bones) : C) = (.int .i64 a1.Bones)) ∧ (((sl 4 cs_Pose a1.Frames) : C) = (sl 4 cs_Pose a1.Frames)) ∧ True) ∧ True) ∧ CallOK Try.prog 23 [.agg (cs_Recording a1)] [.agg (cs_Recording v30)]) ∧ ((((((.int .i64 v15.Bones) : C) = (.int .i64 v15.Bones)) ∧ (((sl 4 cs_Pose v15.Frames) : C) = (sl 4 cs_Pose v15.Frames)) ∧ True) ∧ ((((.int .i64 v30.Bones) : C) = (.int .i64 v30.Bones)) ∧ (((sl 4 cs_Pose v30.Frames) : C) = (sl 4 cs_Pose v30.Frames)) ∧ True) ∧ True) ∧ CallOK Try.prog 25 [.agg (cs_Recording v15), .agg (cs_Recording v30)] [.one (.bool v32)]) ∧ True ∧ True) ∧ (True)) (by kernel_rfl) ⟨⟨trivial, trivial, ⟨⟨⟨rfl, rfl, trivial⟩, trivial⟩, ok_laws_toRecording K a1 v30 e31⟩, ⟨⟨⟨rfl, rfl, trivial⟩, ⟨rfl, rfl, trivial⟩, trivial⟩, ok_laws_eqRecording K v15 v30 v32 e33⟩, trivial, trivial⟩, trivial⟩ ?_
          refine thenQ_normal ?_
          rcases ite2_cases h with ⟨b34, h⟩ | ⟨b34, h⟩
          · refine AW.cond_t rfl b34 ?_
            refine AW.seq ?_
            refine AW.regionA [] [4] [] (s' := ⟨[(4, (.v (.one (.c (.bool false)))))], []⟩) (ob := True ∧ True) (by kernel_rfl) ⟨trivial, trivial⟩ ?_
            refine thenQ_normal ?_
            refine AW.ret ?_
            refine thenQ_ret ?_
            replace h := some_eq h
            subst h
            exact ⟨.inr rfl, retOK_of [(.one (.c (.bool false)))] (by kernel_rfl) ⟨⟨rfl, trivial⟩, trivial⟩ (of_decide_eq_true (by kernel_rfl))⟩
          · refine AW.cond_f rfl b34 ?_
            refine AW.skip ?_
            refine thenQ_normal ?_
            refine AW.seq ?_
            refine AW.regionA [] [2, 3, 6, 7, 8, 9, 10, 11, 12] [1, 2, 5, 6, 7, 8, 9, 10, 11, 12] (s' := ⟨[(2, (.v (.one (.ptr 1 0)))), (3, (.v (.one (.ptr 2 0)))), (6, (.v (.one (.ptr 6 0)))), (7, (.v (.one (.c (.bool v11.2))))), (8, (.v (.one (.ptr 8 0)))), (9, (.v (.one (.ptr 10 0)))), (10, (.v (.one (.ptr 12 0)))), (11, (.v (.one (.c (.bool v17.2))))), (12, (.v (.one (.c (.int .i64 (1 : Int))))))], [(1, (.box [(.c (.int .i64 a0.Bones)), (.c (sl 4 cs_Pose a0.Frames))])), (2, (.box [(.c (.int .i64 a1.Bones)), (.c (sl 4 cs_Pose a1.Frames))])), (5, (.lst v11.1.Frames.length 4 (gl cs_Pose v11.1.Frames))), (6, (.box [(.c (.int .i64 v11.1.Bones)), (.lst 5 v11.1.Frames.length 4 (gl cs_Pose v11.1.Frames))])), (7, (.arr true v13.Frames.length 4 (gl cs_Pose v13.Frames))), (8, (.box [(.c (.int .i64 v13.Bones)), (.arr 7)])), (9, (.arr true v15.Frames.length 4 (gl cs_Pose v15.Frames))), (10, (.box [(.c (.int .i64 v15.Bones)), (.arr 9)])), (11, (.arr true v17.1.Frames.length 4 (gl cs_Pose v17.1.Frames))), (12, (.box [(.c (.int .i64 v17.1.Bones)), (.arr 11)]))]⟩) (ob := True ∧ True) (by kernel_rfl) ⟨trivial, trivial⟩ ?_
            refine thenQ_normal ?_
            refine AW.seq ?_
            obtain ⟨v35, e36, h⟩ := bind_some h
            obtain ⟨c37, h⟩ := chk_some h
            refine AW.regionA [.no, .no, .callM [(.agg [(.ro (.int .i64 v13.Bones)), (.mu (sl 4 cs_Pose v13.Frames) (sl 4 cs_Pose v35.2))]), .one (.ro (.int .i64 (1 : Int)))] [.one (.int .i64 v35.1)] [[.view]] none] [2, 3, 6, 7, 9, 10, 11, 12] [1, 2, 5, 6, 9, 10, 11, 12] (s' := ⟨[(2, (.v (.one (.ptr 1 0)))), (3, (.v (.one (.ptr 2 0)))), (6, (.v (.one (.ptr 6 0)))), (7, (.v (.one (.c (.bool v11.2))))), (9, (.v (.one (.ptr 10 0)))), (10, (.v (.one (.ptr 12 0)))), (11, (.v (.one (.c (.bool v17.2))))), (12, (.v (.one (.c (.int .i64 v35.1)))))], [(1, (.box [(.c (.int .i64 a0.Bones)), (.c (sl 4 cs_Pose a0.Frames))])), (2, (.box [(.c (.int .i64 a1.Bones)), (.c (sl 4 cs_Pose a1.Frames))])), (5, (.lst v11.1.Frames.length 4 (gl cs_Pose v11.1.Frames))), (6, (.box [(.c (.int .i64 v11.1.Bones)), (.lst 5 v11.1.Frames.length 4 (gl cs_Pose v11.1.Frames))])), (9, (.arr true v15.Frames.length 4 (gl cs_Pose v15.Frames))), (10, (.box [(.c (.int .i64 v15.Bones)), (.arr 9)])), (11, (.arr true v17.1.Frames.length 4 (gl cs_Pose v17.1.Frames))), (12, (.box [(.c (.int .i64 v17.1.Bones)), (.arr 11)]))]⟩) (ob := True ∧ True ∧ ((((((.int .i64 v13.Bones) : C) = (.int .i64 v13.Bones)) ∧ (((sl 4 cs_Pose v13.Frames) : C) = (sl 4 cs_Pose v13.Frames) ∧ v35.2.length = v13.Frames.length ∧ 4 = 4 ∧ ∀ i j, i < v13.Frames.length → j < 4 → isSeq (gl cs_Pose v35.2 i j) = isSeq (gl cs_Pose v13.Frames i j)) ∧ True) ∧ (((.int .i64 (1 : Int)) : C) = (.int .i64 (1 : Int))) ∧ True) ∧ MutOK Try.prog 26 [(.agg [(.ro (.int .i64 v13.Bones)), (.mu (sl 4 cs_Pose v13.Frames) (sl 4 cs_Pose v35.2))]), .one (.ro (.int .i64 (1 : Int)))] [.one (.int .i64 v35.1)]) ∧ True ∧ True) (by kernel_rfl) ⟨trivial, trivial, ⟨⟨⟨rfl, ⟨rfl, c37, rfl, gl_seq sq_Pose⟩, trivial⟩, rfl, trivial⟩, ok_laws_markRecording K v13 (1 : Int) v35 e36⟩, trivial, trivial⟩ ?_
            refine thenQ_normal ?_
            refine AW.seq ?_
            obtain ⟨v38, e39, h⟩ := bind_some h
            obtain ⟨c40, h⟩ := chk_some h
            refine AW.regionA [.no, .no, .callM [(.agg [(.ro (.int .i64 v15.Bones)), (.mu (sl 4 cs_Pose v15.Frames) (sl 4 cs_Pose v38.2))]), .one (.ro (.int .i64 v35.1))] [.one (.int .i64 v38.1)] [[.view]] none] [2, 3, 6, 7, 10, 11, 12] [1, 2, 5, 6, 11, 12] (s' := ⟨[(2, (.v (.one (.ptr 1 0)))), (3, (.v (.one (.ptr 2 0)))), (6, (.v (.one (.ptr 6 0)))), (7, (.v (.one (.c (.bool v11.2))))), (10, (.v (.one (.ptr 12 0)))), (11, (.v (.one (.c (.bool v17.2))))), (12, (.v (.one (.c (.int .i64 v38.1)))))], [(1, (.box [(.c (.int .i64 a0.Bones)), (.c (sl 4 cs_Pose a0.Frames))])), (2, (.box [(.c (.int .i64 a1.Bones)), (.c (sl 4 cs_Pose a1.Frames))])), (5, (.lst v11.1.Frames.length 4 (gl cs_Pose v11.1.Frames))), (6, (.box [(.c (.int .i64 v11.1.Bones)), (.lst 5 v11.1.Frames.length 4 (gl cs_Pose v11.1.Frames))])), (11, (.arr true v17.1.Frames.length 4 (gl cs_Pose v17.1.Frames))), (12, (.box [(.c (.int .i64 v17.1.Bones)), (.arr 11)]))]⟩) (ob := True ∧ True ∧ ((((((.int .i64 v15.Bones) : C) = (.int .i64 v15.Bones)) ∧ (((sl 4 cs_Pose v15.Frames) : C) = (sl 4 cs_Pose v15.Frames) ∧ v38.2.length = v15.Frames.length ∧ 4 = 4 ∧ ∀ i j, i < v15.Frames.length → j < 4 → isSeq (gl cs_Pose v38.2 i j) = isSeq (gl cs_Pose v15.Frames i j)) ∧ True) ∧ (((.int .i64 v35.1) : C) = (.int .i64 v35.1)) ∧ True) ∧ MutOK Try.prog 26 [(.agg [(.ro (.int .i64 v15.Bones)), (.mu (sl 4 cs_Pose v15.Frames) (sl 4 cs_Pose v38.2))]), .one (.ro (.int .i64 v35.1))] [.one (.int .i64 v38.1)]) ∧ True ∧ True) (by kernel_rfl) ⟨trivial, trivial, ⟨⟨⟨rfl, ⟨rfl, c40, rfl, gl_seq sq_Pose⟩, trivial⟩, rfl, trivial⟩, ok_laws_markRecording K v15 v35.1 v38 e39⟩, trivial, trivial⟩ ?_
            refine thenQ_normal ?_
            refine AW.seq ?_
            refine AW.seq ?_
            obtain ⟨j45, e46, h⟩ := bind_some h
            refine AW.join1 (s2 := ⟨[(2, (.v (.one (.ptr 1 0)))), (3, (.v (.one (.ptr 2 0)))), (6, (.v (.one (.ptr 6 0)))), (7, (.v (.one (.c (.bool v11.2))))), (10, (.v (.one (.ptr 12 0)))), (82, (.v (.one (.c (.bool j45)))))], [(1, (.box [(.c (.int .i64 a0.Bones)), (.c (sl 4 cs_Pose a0.Frames))])), (2, (.box [(.c (.int .i64 a1.Bones)), (.c (sl 4 cs_Pose a1.Frames))])), (5, (.lst v11.1.Frames.length 4 (gl cs_Pose v11.1.Frames))), (6, (.box [(.c (.int .i64 v11.1.Bones)), (.lst 5 v11.1.Frames.length 4 (gl cs_Pose v11.1.Frames))])), (11, (.arr true v17.1.Frames.length 4 (gl cs_Pose v17.1.Frames))), (12, (.box [(.c (.int .i64 v17.1.Bones)), (.arr 11)]))]⟩) ?_ ?_
            · rcases ite2_cases e46 with ⟨b41, e46⟩ | ⟨b41, e46⟩
              · replace e46 := some_eq e46
                subst e46
                exact AW.regionA [.no, .no, .dec true] [2, 3, 6, 7, 10, 82] [1, 2, 5, 6, 11, 12] (s' := ⟨[(2, (.v (.one (.ptr 1 0)))), (3, (.v (.one (.ptr 2 0)))), (6, (.v (.one (.ptr 6 0)))), (7, (.v (.one (.c (.bool v11.2))))), (10, (.v (.one (.ptr 12 0)))), (82, (.v (.one (.c (.bool true)))))], [(1, (.box [(.c (.int .i64 a0.Bones)), (.c (sl 4 cs_Pose a0.Frames))])), (2, (.box [(.c (.int .i64 a1.Bones)), (.c (sl 4 cs_Pose a1.Frames))])), (5, (.lst v11.1.Frames.length 4 (gl cs_Pose v11.1.Frames))), (6, (.box [(.c (.int .i64 v11.1.Bones)), (.lst 5 v11.1.Frames.length 4 (gl cs_Pose v11.1.Frames))])), (11, (.arr true v17.1.Frames.length 4 (gl cs_Pose v17.1.Frames))), (12, (.box [(.c (.int .i64 v17.1.Bones)), (.arr 11)]))]⟩) (ob := True ∧ True ∧ (True ∧ (decide (v38.1 < (0 : Int))) = true) ∧ True ∧ True ∧ True ∧ True ∧ True ∧ True ∧ True ∧ True ∧ True ∧ True ∧ True) (by kernel_rfl) ⟨trivial, trivial, ⟨trivial, b41⟩, trivial, trivial, trivial, trivial, trivial, trivial, trivial, trivial, trivial, trivial, trivial⟩ ⟨rfl, rfl⟩
              · obtain ⟨v42, e43, e46⟩ := bind_some e46
                rcases ite2_cases e46 with ⟨b44, e46⟩ | ⟨b44, e46⟩
                · replace e46 := some_eq e46
                  subst e46
                  exact AW.regionA [.no, .no, .dec false, .no, .no, .call [.agg (cs_Recording v17.1), .agg (cs_Recording v11.1)] [.one (.bool v42)] [[.view]], .no, .no, .dec true] [2, 3, 6, 7, 10, 82] [1, 2, 5, 6, 11, 12] (s' := ⟨[(2, (.v (.one (.ptr 1 0)))), (3, (.v (.one (.ptr 2 0)))), (6, (.v (.one (.ptr 6 0)))), (7, (.v (.one (.c (.bool v11.2))))), (10, (.v (.one (.ptr 12 0)))), (82, (.v (.one (.c (.bool true)))))], [(1, (.box [(.c (.int .i64 a0.Bones)), (.c (sl 4 cs_Pose a0.Frames))])), (2, (.box [(.c (.int .i64 a1.Bones)), (.c (sl 4 cs_Pose a1.Frames))])), (5, (.lst v11.1.Frames.length 4 (gl cs_Pose v11.1.Frames))), (6, (.box [(.c (.int .i64 v11.1.Bones)), (.lst 5 v11.1.Frames.length 4 (gl cs_Pose v11.1.Frames))])), (11, (.arr true v17.1.Frames.length 4 (gl cs_Pose v17.1.Frames))), (12, (.box [(.c (.int .i64 v17.1.Bones)), (.arr 11)]))]⟩) (ob := True ∧ True ∧ (True ∧ (decide (v38.1 < (0 : Int))) = false) ∧ True ∧ True ∧ ((((((.int .i64 v17.1.Bones) : C) = (.int .i64 v17.1.Bones)) ∧ (((sl 4 cs_Pose v17.1.Frames) : C) = (sl 4 cs_Pose v17.1.Frames)) ∧ True) ∧ ((((.int .i64 v11.1.Bones) : C) = (.int .i64 v11.1.Bones)) ∧ (((sl 4 cs_Pose v11.1.Frames) : C) = (sl 4 cs_Pose v11.1.Frames)) ∧ True) ∧ True) ∧ CallOK Try.prog 25 [.agg (cs_Recording v17.1), .agg (cs_Recording v11.1)] [.one (.bool v42)]) ∧ True ∧ True ∧ (True ∧ (!v42) = true) ∧ True ∧ True ∧ True ∧ True ∧ True) (by kernel_rfl) ⟨trivial, trivial, ⟨trivial, b41⟩, trivial, trivial, ⟨⟨⟨rfl, rfl, trivial⟩, ⟨rfl, rfl, trivial⟩, trivial⟩, ok_laws_eqRecording K v17.1 v11.1 v42 e43⟩, trivial, trivial, ⟨trivial, b44⟩, trivial, trivial, trivial, trivial, trivial⟩ ⟨rfl, rfl⟩
                · replace e46 := some_eq e46
                  subst e46
                  exact AW.regionA [.no, .no, .dec false, .no, .no, .call [.agg (cs_Recording v17.1), .agg (cs_Recording v11.1)] [.one (.bool v42)] [[.view]], .no, .no, .dec false] [2, 3, 6, 7, 10, 82] [1, 2, 5, 6, 11, 12] (s' := ⟨[(2, (.v (.one (.ptr 1 0)))), (3, (.v (.one (.ptr 2 0)))), (6, (.v (.one (.ptr 6 0)))), (7, (.v (.one (.c (.bool v11.2))))), (10, (.v (.one (.ptr 12 0)))), (82, (.v (.one (.c (.bool (!(v17.2 == v11.2)))))))], [(1, (.box [(.c (.int .i64 a0.Bones)), (.c (sl 4 cs_Pose a0.Frames))])), (2, (.box [(.c (.int .i64 a1.Bones)), (.c (sl 4 cs_Pose a1.Frames))])), (5, (.lst v11.1.Frames.length 4 (gl cs_Pose v11.1.Frames))), (6, (.box [(.c (.int .i64 v11.1.Bones)), (.lst 5 v11.1.Frames.length 4 (gl cs_Pose v11.1.Frames))])), (11, (.arr true v17.1.Frames.length 4 (gl cs_Pose v17.1.Frames))), (12, (.box [(.c (.int .i64 v17.1.Bones)), (.arr 11)]))]⟩) (ob := True ∧ True ∧ (True ∧ (decide (v38.1 < (0 : Int))) = false) ∧ True ∧ True ∧ ((((((.int .i64 v17.1.Bones) : C) = (.int .i64 v17.1.Bones)) ∧ (((sl 4 cs_Pose v17.1.Frames) : C) = (sl 4 cs_Pose v17.1.Frames)) ∧ True) ∧ ((((.int .i64 v11.1.Bones) : C) = (.int .i64 v11.1.Bones)) ∧ (((sl 4 cs_Pose v11.1.Frames) : C) = (sl 4 cs_Pose v11.1.Frames)) ∧ True) ∧ True) ∧ CallOK Try.prog 25 [.agg (cs_Recording v17.1), .agg (cs_Recording v11.1)] [.one (.bool v42)]) ∧ True ∧ True ∧ (True ∧ (!v42) = false) ∧ True ∧ True ∧ True ∧ True ∧ True) (by kernel_rfl) ⟨trivial, trivial, ⟨trivial, b41⟩, trivial, trivial, ⟨⟨⟨rfl, rfl, trivial⟩, ⟨rfl, rfl, trivial⟩, trivial⟩, ok_laws_eqRecording K v17.1 v11.1 v42 e43⟩, trivial, trivial, ⟨trivial, b44⟩, trivial, trivial, trivial, trivial, trivial⟩ ⟨rfl, rfl⟩
            refine thenQ_normal ?_
            rcases ite2_cases h with ⟨b47, h⟩ | ⟨b47, h⟩
            · refine AW.cond_t rfl b47 ?_
              refine AW.seq ?_
              refine AW.regionA [] [4] [] (s' := ⟨[(4, (.v (.one (.c (.bool false)))))], []⟩) (ob := True ∧ True) (by kernel_rfl) ⟨trivial, trivial⟩ ?_
              refine thenQ_normal ?_
              refine AW.ret ?_
              refine thenQ_ret ?_
              replace h := some_eq h
              subst h
              exact ⟨.inr rfl, retOK_of [(.one (.c (.bool false)))] (by kernel_rfl) ⟨⟨rfl, trivial⟩, trivial⟩ (of_decide_eq_true (by kernel_rfl))⟩
            · refine AW.cond_f rfl b47 ?_
              refine AW.skip ?_
              refine thenQ_normal ?_
              refine AW.seq ?_
              refine AW.regionA [] [2, 3, 6, 7, 10, 13] [1, 2, 5, 6, 11, 12] (s' := ⟨[(2, (.v (.one (.ptr 1 0)))), (3, (.v (.one (.ptr 2 0)))), (6, (.v (.one (.ptr 6 0)))), (7, (.v (.one (.c (.bool v11.2))))), (10, (.v (.one (.ptr 12 0)))), (13, (.v (.one (.c (.int .i64 (1 : Int))))))], [(1, (.box [(.c (.int .i64 a0.Bones)), (.c (sl 4 cs_Pose a0.Frames))])), (2, (.box [(.c (.int .i64 a1.Bones)), (.c (sl 4 cs_Pose a1.Frames))])), (5, (.lst v11.1.Frames.length 4 (gl cs_Pose v11.1.Frames))), (6, (.box [(.c (.int .i64 v11.1.Bones)), (.lst 5 v11.1.Frames.length 4 (gl cs_Pose v11.1.Frames))])), (11, (.arr true v17.1.Frames.length 4 (gl cs_Pose v17.1.Frames))), (12, (.box [(.c (.int .i64 v17.1.Bones)), (.arr 11)]))]⟩) (ob := True ∧ True) (by kernel_rfl) ⟨trivial, trivial⟩ ?_
              refine thenQ_normal ?_
              refine AW.seq ?_
              obtain ⟨v48, e49, h⟩ := bind_some h
              obtain ⟨c50, h⟩ := chk_some h
              refine AW.regionA [.no, .no, .callM [(.agg [(.ro (.int .i64 v17.1.Bones)), (.mu (sl 4 cs_Pose v17.1.Frames) (sl 4 cs_Pose v48.2))]), .one (.ro (.int .i64 (1 : Int)))] [.one (.int .i64 v48.1)] [[.view]] none] [2, 3, 6, 7, 10, 13] [1, 2, 5, 6, 11, 12] (s' := ⟨[(2, (.v (.one (.ptr 1 0)))), (3, (.v (.one (.ptr 2 0)))), (6, (.v (.one (.ptr 6 0)))), (7, (.v (.one (.c (.bool v11.2))))), (10, (.v (.one (.ptr 12 0)))), (13, (.v (.one (.c (.int .i64 v48.1)))))], [(1, (.box [(.c (.int .i64 a0.Bones)), (.c (sl 4 cs_Pose a0.Frames))])), (2, (.box [(.c (.int .i64 a1.Bones)), (.c (sl 4 cs_Pose a1.Frames))])), (5, (.lst v11.1.Frames.length 4 (gl cs_Pose v11.1.Frames))), (6, (.box [(.c (.int .i64 v11.1.Bones)), (.lst 5 v11.1.Frames.length 4 (gl cs_Pose v11.1.Frames))])), (11, (.arr true v48.2.length 4 (gl cs_Pose v48.2))), (12, (.box [(.c (.int .i64 v17.1.Bones)), (.arr 11)]))]⟩) (ob := True ∧ True ∧ ((((((.int .i64 v17.1.Bones) : C) = (.int .i64 v17.1.Bones)) ∧ (((sl 4 cs_Pose v17.1.Frames) : C) = (sl 4 cs_Pose v17.1.Frames) ∧ v48.2.length = v17.1.Frames.length ∧ 4 = 4 ∧ ∀ i j, i < v17.1.Frames.length → j < 4 → isSeq (gl cs_Pose v48.2 i j) = isSeq (gl cs_Pose v17.1.Frames i j)) ∧ True) ∧ (((.int .i64 (1 : Int)) : C) = (.int .i64 (1 : Int))) ∧ True) ∧ MutOK Try.prog 26 [(.agg [(.ro (.int .i64 v17.1.Bones)), (.mu (sl 4 cs_Pose v17.1.Frames) (sl 4 cs_Pose v48.2))]), .one (.ro (.int .i64 (1 : Int)))] [.one (.int .i64 v48.1)]) ∧ True ∧ True) (by kernel_rfl) ⟨trivial, trivial, ⟨⟨⟨rfl, ⟨rfl, c50, rfl, gl_seq sq_Pose⟩, trivial⟩, rfl, trivial⟩, ok_laws_markRecording K v17.1 (1 : Int) v48 e49⟩, trivial, trivial⟩ ?_
              refine thenQ_normal ?_
              refine AW.seq ?_
              refine AW.regionA [] [2, 3, 6, 7, 10, 13, 14] [1, 2, 5, 6, 11, 12] (s' := ⟨[(2, (.v (.one (.ptr 1 0)))), (3, (.v (.one (.ptr 2 0)))), (6, (.v (.one (.ptr 6 0)))), (7, (.v (.one (.c (.bool v11.2))))), (10, (.v (.one (.ptr 12 0)))), (13, (.v (.one (.c (.int .i64 v48.1))))), (14, (.v (.one (.c (.int .i64 (1 : Int))))))], [(1, (.box [(.c (.int .i64 a0.Bones)), (.c (sl 4 cs_Pose a0.Frames))])), (2, (.box [(.c (.int .i64 a1.Bones)), (.c (sl 4 cs_Pose a1.Frames))])), (5, (.lst v11.1.Frames.length 4 (gl cs_Pose v11.1.Frames))), (6, (.box [(.c (.int .i64 v11.1.Bones)), (.lst 5 v11.1.Frames.length 4 (gl cs_Pose v11.1.Frames))])), (11, (.arr true v48.2.length 4 (gl cs_Pose v48.2))), (12, (.box [(.c (.int .i64 v17.1.Bones)), (.arr 11)]))]⟩) (ob := True ∧ True) (by kernel_rfl) ⟨trivial, trivial⟩ ?_
              refine thenQ_normal ?_
              refine AW.seq ?_
              obtain ⟨v51, e52, h⟩ := bind_some h
              refine AW.regionA [.no, .no, .call [.agg (cs_Recording (Recording.mk v17.1.Bones v48.2)), .one (.int .i64 (1 : Int))] [.one (.int .i64 v51)] [[.view]]] [2, 3, 6, 7, 10, 13, 14] [1, 2, 5, 6, 11, 12] (s' := ⟨[(2, (.v (.one (.ptr 1 0)))), (3, (.v (.one (.ptr 2 0)))), (6, (.v (.one (.ptr 6 0)))), (7, (.v (.one (.c (.bool v11.2))))), (10, (.v (.one (.ptr 12 0)))), (13, (.v (.one (.c (.int .i64 v48.1))))), (14, (.v (.one (.c (.int .i64 v51)))))], [(1, (.box [(.c (.int .i64 a0.Bones)), (.c (sl 4 cs_Pose a0.Frames))])), (2, (.box [(.c (.int .i64 a1.Bones)), (.c (sl 4 cs_Pose a1.Frames))])), (5, (.lst v11.1.Frames.length 4 (gl cs_Pose v11.1.Frames))), (6, (.box [(.c (.int .i64 v11.1.Bones)), (.lst 5 v11.1.Frames.length 4 (gl cs_Pose v11.1.Frames))])), (11, (.arr true v48.2.length 4 (gl cs_Pose v48.2))), (12, (.box [(.c (.int .i64 v17.1.Bones)), (.arr 11)]))]⟩) (ob := True ∧ True ∧ ((((((.int .i64 v17.1.Bones) : C) = (.int .i64 v17.1.Bones)) ∧ (((sl 4 cs_Pose v48.2) : C) = (sl 4 cs_Pose v48.2)) ∧ True) ∧ (((.int .i64 (1 : Int)) : C) = (.int .i64 (1 : Int))) ∧ True) ∧ CallOK Try.prog 27 [.agg (cs_Recording (Recording.mk v17.1.Bones v48.2)), .one (.int .i64 (1 : Int))] [.one (.int .i64 v51)]) ∧ True ∧ True) (by kernel_rfl) ⟨trivial, trivial, ⟨⟨⟨rfl, rfl, trivial⟩, rfl, trivial⟩, ok_laws_heldRecording K (Recording.mk v17.1.Bones v48.2) (1 : Int) v51 e52⟩, trivial, trivial⟩ ?_
              refine thenQ_normal ?_
              refine AW.seq ?_
              refine AW.seq ?_
              refine AW.regionA [] [2, 3, 6, 7, 10, 13, 14, 90] [1, 2, 5, 6, 11, 12] (s' := ⟨[(2, (.v (.one (.ptr 1 0)))), (3, (.v (.one (.ptr 2 0)))), (6, (.v (.one (.ptr 6 0)))), (7, (.v (.one (.c (.bool v11.2))))), (10, (.v (.one (.ptr 12 0)))), (13, (.v (.one (.c (.int .i64 v48.1))))), (14, (.v (.one (.c (.int .i64 v51))))), (90, (.v (.one (.c (.bool (decide (v51 < (0 : Int))))))))], [(1, (.box [(.c (.int .i64 a0.Bones)), (.c (sl 4 cs_Pose a0.Frames))])), (2, (.box [(.c (.int .i64 a1.Bones)), (.c (sl 4 cs_Pose a1.Frames))])), (5, (.lst v11.1.Frames.length 4 (gl cs_Pose v11.1.Frames))), (6, (.box [(.c (.int .i64 v11.1.Bones)), (.lst 5 v11.1.Frames.length 4 (gl cs_Pose v11.1.Frames))])), (11, (.arr true v48.2.length 4 (gl cs_Pose v48.2))), (12, (.box [(.c (.int .i64 v17.1.Bones)), (.arr 11)]))]⟩) (ob := True ∧ True ∧ True) (by kernel_rfl) ⟨trivial, trivial, trivial⟩ ?_
              refine thenQ_normal ?_
              rcases ite2_cases h with ⟨b53, h⟩ | ⟨b53, h⟩
              · refine AW.cond_t rfl b53 ?_
                refine AW.seq ?_
                refine AW.regionA [] [4] [] (s' := ⟨[(4, (.v (.one (.c (.bool false)))))], []⟩) (ob := True ∧ True) (by kernel_rfl) ⟨trivial, trivial⟩ ?_
                refine thenQ_normal ?_
                refine AW.ret ?_
                refine thenQ_ret ?_
                replace h := some_eq h
                subst h
                exact ⟨.inr rfl, retOK_of [(.one (.c (.bool false)))] (by kernel_rfl) ⟨⟨rfl, trivial⟩, trivial⟩ (of_decide_eq_true (by kernel_rfl))⟩
              · refine AW.cond_f rfl b53 ?_
                refine AW.skip ?_
                refine thenQ_normal ?_
                refine AW.seq ?_
                refine AW.seq ?_
                refine AW.regionA [] [2, 3, 6, 7, 10, 13, 93] [1, 2, 5, 6, 11, 12] (s' := ⟨[(2, (.v (.one (.ptr 1 0)))), (3, (.v (.one (.ptr 2 0)))), (6, (.v (.one (.ptr 6 0)))), (7, (.v (.one (.c (.bool v11.2))))), (10, (.v (.one (.ptr 12 0)))), (13, (.v (.one (.c (.int .i64 v48.1))))), (93, (.v (.one (.c (.bool (v51 != v48.1))))))], [(1, (.box [(.c (.int .i64 a0.Bones)), (.c (sl 4 cs_Pose a0.Frames))])), (2, (.box [(.c (.int .i64 a1.Bones)), (.c (sl 4 cs_Pose a1.Frames))])), (5, (.lst v11.1.Frames.length 4 (gl cs_Pose v11.1.Frames))), (6, (.box [(.c (.int .i64 v11.1.Bones)), (.lst 5 v11.1.Frames.length 4 (gl cs_Pose v11.1.Frames))])), (11, (.arr true v48.2.length 4 (gl cs_Pose v48.2))), (12, (.box [(.c (.int .i64 v17.1.Bones)), (.arr 11)]))]⟩) (ob := True ∧ True ∧ True ∧ True) (by kernel_rfl) ⟨trivial, trivial, trivial, trivial⟩ ?_
                refine thenQ_normal ?_
                rcases ite2_cases h with ⟨b54, h⟩ | ⟨b54, h⟩
                · refine AW.cond_t rfl b54 ?_
                  refine AW.seq ?_
                  refine AW.regionA [] [4] [] (s' := ⟨[(4, (.v (.one (.c (.bool false)))))], []⟩) (ob := True ∧ True) (by kernel_rfl) ⟨trivial, trivial⟩ ?_
                  refine thenQ_normal ?_
                  refine AW.ret ?_
                  refine thenQ_ret ?_
                  replace h := some_eq h
                  subst h
                  exact ⟨.inr rfl, retOK_of [(.one (.c (.bool false)))] (by kernel_rfl) ⟨⟨rfl, trivial⟩, trivial⟩ (of_decide_eq_true (by kernel_rfl))⟩
                · refine AW.cond_f rfl b54 ?_
                  refine AW.skip ?_
                  refine thenQ_normal ?_
                  refine AW.seq ?_
                  obtain ⟨v55, e56, h⟩ := bind_some h
                  obtain ⟨v57, e58, h⟩ := bind_some h
                  obtain ⟨v59, e60, h⟩ := bind_some h
                  refine AW.lateA (by kernel_rfl) 9 7 [.no, .call [.agg (cs_Recording a0)] [.agg (cs_Recording v55)] [[.view, .lst 15]], .no, .call [.agg (cs_Recording a1)] [.agg (cs_Recording v57)] [[.view, .lst 16]], .call [.agg (cs_Recording v55), .agg (cs_Recording v57)] [.agg (cs_Recording v59.1), .one (.bool v59.2)] [[.view, .lst 17], [.view]], .no, .no, .no, .box 18] [6, 7, 10, 13, 15, 16] [5, 6, 11, 12, 17, 18] (s' := ⟨[(6, (.v (.one (.ptr 6 0)))), (7, (.v (.one (.c (.bool v11.2))))), (10, (.v (.one (.ptr 12 0)))), (13, (.v (.one (.c (.int .i64 v48.1))))), (15, (.v (.one (.ptr 18 0)))), (16, (.v (.one (.c (.bool v59.2)))))], [(5, (.lst v11.1.Frames.length 4 (gl cs_Pose v11.1.Frames))), (6, (.box [(.c (.int .i64 v11.1.Bones)), (.lst 5 v11.1.Frames.length 4 (gl cs_Pose v11.1.Frames))])), (11, (.arr true v48.2.length 4 (gl cs_Pose v48.2))), (12, (.box [(.c (.int .i64 v17.1.Bones)), (.arr 11)])), (17, (.lst v59.1.Frames.length 4 (gl cs_Pose v59.1.Frames))), (18, (.box [(.c (.int .i64 v59.1.Bones)), (.lst 17 v59.1.Frames.length 4 (gl cs_Pose v59.1.Frames))]))]⟩) (ob := (True ∧ ((((((.int .i64 a0.Bones) : C) = (.int .i64 a0.Bones)) ∧ (((sl 4 cs_Pose a0.Frames) : C) = (sl 4 cs_Pose a0.Frames)) ∧ True) ∧ True) ∧ CallOK Try.prog 23 [.agg (cs_Recording a0)] [.agg (cs_Recording v55)]) ∧ True ∧ ((((((.int .i64 a1.Bones) : C) = (.int .i64 a1.Bones)) ∧ (((sl 4 cs_Pose a1.Frames) : C) = (sl 4 cs_Pose a1.Frames)) ∧ True) ∧ True) ∧ CallOK Try.prog 23 [.agg (cs_Recording a1)] [.agg (cs_Recording v57)]) ∧ ((((((.int .i64 v55.Bones) : C) = (.int .i64 v55.Bones)) ∧ (((sl 4 cs_Pose v55.Frames) : C) = (sl 4 cs_Pose v55.Frames)) ∧ True) ∧ ((((.int .i64 v57.Bones) : C) = (.int .i64 v57.Bones)) ∧ (((sl 4 cs_Pose v57.Frames) : C) = (sl 4 cs_Pose v57.Frames)) ∧ True) ∧ True) ∧ CallOK Try.prog 29 [.agg (cs_Recording v55), .agg (cs_Recording v57)] [.agg (cs_Recording v59.1), .one (.bool v59.2)]) ∧ True ∧ True ∧ True ∧ True ∧ True) ∧ (True ∧ True ∧ True) ∧ (True ∧ True ∧ True ∧ True) ∧ ((⟨[(6, (.v (.one (.ptr 6 0)))), (7, (.v (.one (.c (.bool v11.2))))), (10, (.v (.one (.ptr 12 0)))), (13, (.v (.one (.c (.int .i64 v48.1))))), (15, (.v (.one (.ptr 18 0)))), (16, (.v (.one (.c (.bool v59.2)))))], [(5, (.lst v11.1.Frames.length 4 (gl cs_Pose v11.1.Frames))), (6, (.box [(.c (.int .i64 v11.1.Bones)), (.lst 5 v11.1.Frames.length 4 (gl cs_Pose v11.1.Frames))])), (11, (.arr true v48.2.length 4 (gl cs_Pose v48.2))), (12, (.box [(.c (.int .i64 v17.1.Bones)), (.arr 11)])), (17, (.lst v59.1.Frames.length 4 (gl cs_Pose v59.1.Frames))), (18, (.box [(.c (.int .i64 v59.1.Bones)), (.lst 17 v59.1.Frames.length 4 (gl cs_Pose v59.1.Frames))]))]⟩ : St) = ⟨[(6, (.v (.one (.ptr 6 0)))), (7, (.v (.one (.c (.bool v11.2))))), (10, (.v (.one (.ptr 12 0)))), (13, (.v (.one (.c (.int .i64 v48.1))))), (15, (.v (.one (.ptr 18 0)))), (16, (.v (.one (.c (.bool v59.2)))))], [(5, (.lst v11.1.Frames.length 4 (gl cs_Pose v11.1.Frames))), (6, (.box [(.c (.int .i64 v11.1.Bones)), (.lst 5 v11.1.Frames.length 4 (gl cs_Pose v11.1.Frames))])), (11, (.arr true v48.2.length 4 (gl cs_Pose v48.2))), (12, (.box [(.c (.int .i64 v17.1.Bones)), (.arr 11)])), (17, (.lst v59.1.Frames.length 4 (gl cs_Pose v59.1.Frames))), (18, (.box [(.c (.int .i64 v59.1.Bones)), (.lst 17 v59.1.Frames.length 4 (gl cs_Pose v59.1.Frames))]))]⟩)) (by kernel_rfl) ⟨⟨trivial, ⟨⟨⟨rfl, rfl, trivial⟩, trivial⟩, ok_laws_toRecording K a0 v55 e56⟩, trivial, ⟨⟨⟨rfl, rfl, trivial⟩, trivial⟩, ok_laws_toRecording K a1 v57 e58⟩, ⟨⟨⟨rfl, rfl, trivial⟩, ⟨rfl, rfl, trivial⟩, trivial⟩, ok_impl_JoinRecordings K v55 v57 v59 e60⟩, trivial, trivial, trivial, trivial, trivial⟩, ⟨trivial, trivial, trivial⟩, ⟨trivial, trivial, trivial, trivial⟩, rfl⟩ ?_
                  refine thenQ_normal ?_
                  refine AW.seq ?_
                  refine AW.seq ?_
                  obtain ⟨v61, e62, h⟩ := bind_some h
                  obtain ⟨j64, e65, h⟩ := bind_some h
                  refine AW.join1 (s2 := ⟨[(10, (.v (.one (.ptr 12 0)))), (13, (.v (.one (.c (.int .i64 v48.1))))), (110, (.v (.one (.c (.bool j64)))))], [(11, (.arr true v48.2.length 4 (gl cs_Pose v48.2))), (12, (.box [(.c (.int .i64 v17.1.Bones)), (.arr 11)]))]⟩) ?_ ?_
                  · rcases ite2_cases e65 with ⟨b63, e65⟩ | ⟨b63, e65⟩
                    · replace e65 := some_eq e65
                      subst e65
                      exact AW.regionA [.no, .no, .call [.agg (cs_Recording v59.1), .agg (cs_Recording v11.1)] [.one (.bool v61)] [[.view]], .no, .dec true] [10, 13, 110] [11, 12] (s' := ⟨[(10, (.v (.one (.ptr 12 0)))), (13, (.v (.one (.c (.int .i64 v48.1))))), (110, (.v (.one (.c (.bool true)))))], [(11, (.arr true v48.2.length 4 (gl cs_Pose v48.2))), (12, (.box [(.c (.int .i64 v17.1.Bones)), (.arr 11)]))]⟩) (ob := True ∧ True ∧ ((((((.int .i64 v59.1.Bones) : C) = (.int .i64 v59.1.Bones)) ∧ (((sl 4 cs_Pose v59.1.Frames) : C) = (sl 4 cs_Pose v59.1.Frames)) ∧ True) ∧ ((((.int .i64 v11.1.Bones) : C) = (.int .i64 v11.1.Bones)) ∧ (((sl 4 cs_Pose v11.1.Frames) : C) = (sl 4 cs_Pose v11.1.Frames)) ∧ True) ∧ True) ∧ CallOK Try.prog 25 [.agg (cs_Recording v59.1), .agg (cs_Recording v11.1)] [.one (.bool v61)]) ∧ True ∧ (True ∧ (!v61) = true) ∧ True ∧ True ∧ True ∧ True ∧ True) (by kernel_rfl) ⟨trivial, trivial, ⟨⟨⟨rfl, rfl, trivial⟩, ⟨rfl, rfl, trivial⟩, trivial⟩, ok_laws_eqRecording K v59.1 v11.1 v61 e62⟩, trivial, ⟨trivial, b63⟩, trivial, trivial, trivial, trivial, trivial⟩ ⟨rfl, rfl⟩
                    · replace e65 := some_eq e65
                      subst e65
                      exact AW.regionA [.no, .no, .call [.agg (cs_Recording v59.1), .agg (cs_Recording v11.1)] [.one (.bool v61)] [[.view]], .no, .dec false] [10, 13, 110] [11, 12] (s' := ⟨[(10, (.v (.one (.ptr 12 0)))), (13, (.v (.one (.c (.int .i64 v48.1))))), (110, (.v (.one (.c (.bool (!(v59.2 == v11.2)))))))], [(11, (.arr true v48.2.length 4 (gl cs_Pose v48.2))), (12, (.box [(.c (.int .i64 v17.1.Bones)), (.arr 11)]))]⟩) (ob := True ∧ True ∧ ((((((.int .i64 v59.1.Bones) : C) = (.int .i64 v59.1.Bones)) ∧ (((sl 4 cs_Pose v59.1.Frames) : C) = (sl 4 cs_Pose v59.1.Frames)) ∧ True) ∧ ((((.int .i64 v11.1.Bones) : C) = (.int .i64 v11.1.Bones)) ∧ (((sl 4 cs_Pose v11.1.Frames) : C) = (sl 4 cs_Pose v11.1.Frames)) ∧ True) ∧ True) ∧ CallOK Try.prog 25 [.agg (cs_Recording v59.1), .agg (cs_Recording v11.1)] [.one (.bool v61)]) ∧ True ∧ (True ∧ (!v61) = false) ∧ True ∧ True ∧ True ∧ True ∧ True) (by kernel_rfl) ⟨trivial, trivial, ⟨⟨⟨rfl, rfl, trivial⟩, ⟨rfl, rfl, trivial⟩, trivial⟩, ok_laws_eqRecording K v59.1 v11.1 v61 e62⟩, trivial, ⟨trivial, b63⟩, trivial, trivial, trivial, trivial, trivial⟩ ⟨rfl, rfl⟩
                  refine thenQ_normal ?_
                  rcases ite2_cases h with ⟨b66, h⟩ | ⟨b66, h⟩
                  · refine AW.cond_t rfl b66 ?_
                    refine AW.seq ?_
                    refine AW.regionA [] [4] [] (s' := ⟨[(4, (.v (.one (.c (.bool false)))))], []⟩) (ob := True ∧ True) (by kernel_rfl) ⟨trivial, trivial⟩ ?_
                    refine thenQ_normal ?_
                    refine AW.ret ?_
                    refine thenQ_ret ?_
                    replace h := some_eq h
                    subst h
                    exact ⟨.inr rfl, retOK_of [(.one (.c (.bool false)))] (by kernel_rfl) ⟨⟨rfl, trivial⟩, trivial⟩ (of_decide_eq_true (by kernel_rfl))⟩
                  · refine AW.cond_f rfl b66 ?_
                    refine AW.skip ?_
                    refine thenQ_normal ?_
                    refine AW.seq ?_
                    refine AW.regionA [] [10, 13, 14] [11, 12] (s' := ⟨[(10, (.v (.one (.ptr 12 0)))), (13, (.v (.one (.c (.int .i64 v48.1))))), (14, (.v (.one (.c (.int .i64 (1 : Int))))))], [(11, (.arr true v48.2.length 4 (gl cs_Pose v48.2))), (12, (.box [(.c (.int .i64 v17.1.Bones)), (.arr 11)]))]⟩) (ob := True ∧ True) (by kernel_rfl) ⟨trivial, trivial⟩ ?_
                    refine thenQ_normal ?_
                    refine AW.seq ?_
                    obtain ⟨v67, e68, h⟩ := bind_some h
                    refine AW.regionA [.no, .no, .call [.agg (cs_Recording (Recording.mk v17.1.Bones v48.2)), .one (.int .i64 (1 : Int))] [.one (.int .i64 v67)] [[.view]]] [13, 14] [] (s' := ⟨[(13, (.v (.one (.c (.int .i64 v48.1))))), (14, (.v (.one (.c (.int .i64 v67)))))], []⟩) (ob := True ∧ True ∧ ((((((.int .i64 v17.1.Bones) : C) = (.int .i64 v17.1.Bones)) ∧ (((sl 4 cs_Pose v48.2) : C) = (sl 4 cs_Pose v48.2)) ∧ True) ∧ (((.int .i64 (1 : Int)) : C) = (.int .i64 (1 : Int))) ∧ True) ∧ CallOK Try.prog 27 [.agg (cs_Recording (Recording.mk v17.1.Bones v48.2)), .one (.int .i64 (1 : Int))] [.one (.int .i64 v67)]) ∧ True ∧ True) (by kernel_rfl) ⟨trivial, trivial, ⟨⟨⟨rfl, rfl, trivial⟩, rfl, trivial⟩, ok_laws_heldRecording K (Recording.mk v17.1.Bones v48.2) (1 : Int) v67 e68⟩, trivial, trivial⟩ ?_
                    refine thenQ_normal ?_
                    refine AW.seq ?_
                    refine AW.seq ?_
                    refine AW.regionA [] [13, 14, 115] [] (s' := ⟨[(13, (.v (.one (.c (.int .i64 v48.1))))), (14, (.v (.one (.c (.int .i64 v67))))), (115, (.v (.one (.c (.bool (decide (v67 < (0 : Int))))))))], []⟩) (ob := True ∧ True ∧ True) (by kernel_rfl) ⟨trivial, trivial, trivial⟩ ?_
                    refine thenQ_normal ?_
                    rcases ite2_cases h with ⟨b69, h⟩ | ⟨b69, h⟩
                    · refine AW.cond_t rfl b69 ?_
                      refine AW.seq ?_
                      refine AW.regionA [] [4] [] (s' := ⟨[(4, (.v (.one (.c (.bool false)))))], []⟩) (ob := True ∧ True) (by kernel_rfl) ⟨trivial, trivial⟩ ?_
                      refine thenQ_normal ?_
                      refine AW.ret ?_
                      refine thenQ_ret ?_
                      replace h := some_eq h
                      subst h
                      exact ⟨.inr rfl, retOK_of [(.one (.c (.bool false)))] (by kernel_rfl) ⟨⟨rfl, trivial⟩, trivial⟩ (of_decide_eq_true (by kernel_rfl))⟩
                    · refine AW.cond_f rfl b69 ?_
                      refine AW.skip ?_
                      refine thenQ_normal ?_
                      refine AW.seq ?_
                      refine AW.seq ?_
                      refine AW.regionA [] [118] [] (s' := ⟨[(118, (.v (.one (.c (.bool (v67 != v48.1))))))], []⟩) (ob := True ∧ True ∧ True ∧ True) (by kernel_rfl) ⟨trivial, trivial, trivial, trivial⟩ ?_
                      refine thenQ_normal ?_
                      rcases ite2_cases h with ⟨b70, h⟩ | ⟨b70, h⟩
                      · refine AW.cond_t rfl b70 ?_
                        refine AW.seq ?_
                        refine AW.regionA [] [4] [] (s' := ⟨[(4, (.v (.one (.c (.bool false)))))], []⟩) (ob := True ∧ True) (by kernel_rfl) ⟨trivial, trivial⟩ ?_
                        refine thenQ_normal ?_
                        refine AW.ret ?_
                        refine thenQ_ret ?_
                        replace h := some_eq h
                        subst h
                        exact ⟨.inr rfl, retOK_of [(.one (.c (.bool false)))] (by kernel_rfl) ⟨⟨rfl, trivial⟩, trivial⟩ (of_decide_eq_true (by kernel_rfl))⟩
                      · refine AW.cond_f rfl b70 ?_
                        refine AW.skip ?_
                        refine thenQ_normal ?_
                        refine AW.seq ?_
                        refine AW.regionA [] [4] [] (s' := ⟨[(4, (.v (.one (.c (.bool true)))))], []⟩) (ob := True ∧ True) (by kernel_rfl) ⟨trivial, trivial⟩ ?_
                        refine thenQ_normal ?_
                        refine AW.ret ?_
                        replace h := some_eq h
                        subst h
                        exact ⟨.inr rfl, retOK_of [(.one (.c (.bool true)))] (by kernel_rfl) ⟨⟨rfl, trivial⟩, trivial⟩ (of_decide_eq_true (by kernel_rfl))⟩

/-! spec.AddFrame -/
def spec_AddFrame (K : Nat) (a0 : Recording) (a1 : Pose) : Option (Recording × Bool) :=
  (spec_l10Is K a0).bind fun v1 => (ite2 ((!v1)) (some true) (ite2 (((a1.Turns.length : Int) != a0.Bones)) (some true) (some (decide ((a0.Frames.length : Int) ≥ (64 : Int)))))).bind fun j5 => ite2 (j5) (some ((Recording.mk (0 : Int) ([] : (List Pose))), false)) ((spec_l10Some K a0 (0 : Int) (a0.Frames.length : Int)).bind fun v8 => (spec_l10Copy K a1).bind fun v10 => chk ((v8.Frames.length + ([v10]).length) * 40 ≤ 140737488355328) (some ((Recording.mk v8.Bones (v8.Frames ++ ([v10]))), true)))

theorem ok_spec_AddFrame (K : Nat) (a0 : Recording) (a1 : Pose) (o : (Recording × Bool)) (h : spec_AddFrame K a0 a1 = some o) : CallOK Try.prog 33 [.agg (cs_Recording a0), .agg (cs_Pose a1)] [.agg (cs_Recording o.1), .one (.bool o.2)] := by
  refine callOK_of_AW Try.func33 rfl (by kernel_rfl) (Nat.le_of_ble_eq_true (by kernel_rfl)) ?_
  intro w0
  unfold spec_AddFrame at h
  refine AW.seq ?_
  refine AW.regionA [.box 1, .box 2, .box 3] [2, 3, 4] [1, 2, 3] (s' := ⟨[(2, (.v (.one (.ptr 1 0)))), (3, (.v (.one (.ptr 2 0)))), (4, (.v (.one (.ptr 3 0))))], [(1, (.box [(.c (.int .i64 a0.Bones)), (.c (sl 4 cs_Pose a0.Frames))])), (2, (.box [(.c (.flt .f32 a1.Root.X.bits)), (.c (.flt .f32 a1.Root.Y.bits)), (.c (.flt .f32 a1.Root.Z.bits)), (.c (sl 4 cs_Turn a1.Turns))])), (3, (.box [(.c (.int .i64 (0 : Int))), .nils]))]⟩) (ob := True ∧ True ∧ True ∧ True ∧ True) (by kernel_rfl) ⟨trivial, trivial, trivial, trivial, trivial⟩ ?_
  refine thenQ_normal ?_
  refine AW.seq ?_
  refine AW.seq ?_
  obtain ⟨v1, e2, h⟩ := bind_some h
  obtain ⟨j5, e6, h⟩ := bind_some h
  refine AW.join1 (s2 := ⟨[(2, (.v (.one (.ptr 1 0)))), (3, (.v (.one (.ptr 2 0)))), (4, (.v (.one (.ptr 3 0)))), (22, (.v (.one (.c (.bool j5)))))], [(1, (.box [(.c (.int .i64 a0.Bones)), (.c (sl 4 cs_Pose a0.Frames))])), (2, (.box [(.c (.flt .f32 a1.Root.X.bits)), (.c (.flt .f32 a1.Root.Y.bits)), (.c (.flt .f32 a1.Root.Z.bits)), (.c (sl 4 cs_Turn a1.Turns))])), (3, (.box [(.c (.int .i64 (0 : Int))), .nils]))]⟩) ?_ ?_
  · rcases ite2_cases e6 with ⟨b3, e6⟩ | ⟨b3, e6⟩
    · replace e6 := some_eq e6
      subst e6
      exact AW.regionA [.call [.one (pl 2 cs_Recording a0)] [.one (.bool v1)] [[.view]], .no, .dec true] [2, 3, 4, 22] [1, 2, 3] (s' := ⟨[(2, (.v (.one (.ptr 1 0)))), (3, (.v (.one (.ptr 2 0)))), (4, (.v (.one (.ptr 3 0)))), (22, (.v (.one (.c (.bool true)))))], [(1, (.box [(.c (.int .i64 a0.Bones)), (.c (sl 4 cs_Pose a0.Frames))])), (2, (.box [(.c (.flt .f32 a1.Root.X.bits)), (.c (.flt .f32 a1.Root.Y.bits)), (.c (.flt .f32 a1.Root.Z.bits)), (.c (sl 4 cs_Turn a1.Turns))])), (3, (.box [(.c (.int .i64 (0 : Int))), .nils]))]⟩) (ob := (((0 = 0 ∧ (((.int .i64 a0.Bones) : C) = (.int .i64 a0.Bones)) ∧ (((sl 4 cs_Pose a0.Frames) : C) = (sl 4 cs_Pose a0.Frames)) ∧ True) ∧ True) ∧ CallOK Try.prog 73 [.one (pl 2 cs_Recording a0)] [.one (.bool v1)]) ∧ True ∧ (True ∧ (!v1) = true) ∧ True ∧ True ∧ True ∧ True ∧ True ∧ True ∧ True ∧ True ∧ True ∧ True ∧ True ∧ True ∧ True ∧ True) (by kernel_rfl) ⟨⟨⟨⟨rfl, rfl, rfl, trivial⟩, trivial⟩, ok_spec_l10Is K a0 v1 e2⟩, trivial, ⟨trivial, b3⟩, trivial, trivial, trivial, trivial, trivial, trivial, trivial, trivial, trivial, trivial, trivial, trivial, trivial, trivial⟩ ⟨rfl, rfl⟩
    · rcases ite2_cases e6 with ⟨b4, e6⟩ | ⟨b4, e6⟩
      · replace e6 := some_eq e6
        subst e6
        exact AW.regionA [.call [.one (pl 2 cs_Recording a0)] [.one (.bool v1)] [[.view]], .no, .dec false, .no, .no, .no, .no, .no, .no, .no, .dec true] [2, 3, 4, 22] [1, 2, 3] (s' := ⟨[(2, (.v (.one (.ptr 1 0)))), (3, (.v (.one (.ptr 2 0)))), (4, (.v (.one (.ptr 3 0)))), (22, (.v (.one (.c (.bool true)))))], [(1, (.box [(.c (.int .i64 a0.Bones)), (.c (sl 4 cs_Pose a0.Frames))])), (2, (.box [(.c (.flt .f32 a1.Root.X.bits)), (.c (.flt .f32 a1.Root.Y.bits)), (.c (.flt .f32 a1.Root.Z.bits)), (.c (sl 4 cs_Turn a1.Turns))])), (3, (.box [(.c (.int .i64 (0 : Int))), .nils]))]⟩) (ob := (((0 = 0 ∧ (((.int .i64 a0.Bones) : C) = (.int .i64 a0.Bones)) ∧ (((sl 4 cs_Pose a0.Frames) : C) = (sl 4 cs_Pose a0.Frames)) ∧ True) ∧ True) ∧ CallOK Try.prog 73 [.one (pl 2 cs_Recording a0)] [.one (.bool v1)]) ∧ True ∧ (True ∧ (!v1) = false) ∧ True ∧ True ∧ True ∧ True ∧ True ∧ True ∧ True ∧ (True ∧ ((a1.Turns.length : Int) != a0.Bones) = true) ∧ True ∧ True ∧ True ∧ True ∧ True ∧ True) (by kernel_rfl) ⟨⟨⟨⟨rfl, rfl, rfl, trivial⟩, trivial⟩, ok_spec_l10Is K a0 v1 e2⟩, trivial, ⟨trivial, b3⟩, trivial, trivial, trivial, trivial, trivial, trivial, trivial, ⟨trivial, b4⟩, trivial, trivial, trivial, trivial, trivial, trivial⟩ ⟨rfl, rfl⟩
      · replace e6 := some_eq e6
        subst e6
        exact AW.regionA [.call [.one (pl 2 cs_Recording a0)] [.one (.bool v1)] [[.view]], .no, .dec false, .no, .no, .no, .no, .no, .no, .no, .dec false] [2, 3, 4, 22] [1, 2, 3] (s' := ⟨[(2, (.v (.one (.ptr 1 0)))), (3, (.v (.one (.ptr 2 0)))), (4, (.v (.one (.ptr 3 0)))), (22, (.v (.one (.c (.bool (decide ((a0.Frames.length : Int) ≥ (64 : Int))))))))], [(1, (.box [(.c (.int .i64 a0.Bones)), (.c (sl 4 cs_Pose a0.Frames))])), (2, (.box [(.c (.flt .f32 a1.Root.X.bits)), (.c (.flt .f32 a1.Root.Y.bits)), (.c (.flt .f32 a1.Root.Z.bits)), (.c (sl 4 cs_Turn a1.Turns))])), (3, (.box [(.c (.int .i64 (0 : Int))), .nils]))]⟩) (ob := (((0 = 0 ∧ (((.int .i64 a0.Bones) : C) = (.int .i64 a0.Bones)) ∧ (((sl 4 cs_Pose a0.Frames) : C) = (sl 4 cs_Pose a0.Frames)) ∧ True) ∧ True) ∧ CallOK Try.prog 73 [.one (pl 2 cs_Recording a0)] [.one (.bool v1)]) ∧ True ∧ (True ∧ (!v1) = false) ∧ True ∧ True ∧ True ∧ True ∧ True ∧ True ∧ True ∧ (True ∧ ((a1.Turns.length : Int) != a0.Bones) = false) ∧ True ∧ True ∧ True ∧ True ∧ True ∧ True) (by kernel_rfl) ⟨⟨⟨⟨rfl, rfl, rfl, trivial⟩, trivial⟩, ok_spec_l10Is K a0 v1 e2⟩, trivial, ⟨trivial, b3⟩, trivial, trivial, trivial, trivial, trivial, trivial, trivial, ⟨trivial, b4⟩, trivial, trivial, trivial, trivial, trivial, trivial⟩ ⟨rfl, rfl⟩
  refine thenQ_normal ?_
  rcases ite2_cases h with ⟨b7, h⟩ | ⟨b7, h⟩
  · refine AW.cond_t rfl b7 ?_
    refine AW.seq ?_
    refine AW.regionA [] [4, 5] [3] (s' := ⟨[(4, (.v (.one (.ptr 3 0)))), (5, (.v (.one (.c (.bool false)))))], [(3, (.box [(.c (.int .i64 (0 : Int))), .nils]))]⟩) (ob := True ∧ True ∧ True ∧ True) (by kernel_rfl) ⟨trivial, trivial, trivial, trivial⟩ ?_
    refine thenQ_normal ?_
    refine AW.ret ?_
    refine thenQ_ret ?_
    replace h := some_eq h
    subst h
    exact ⟨.inr rfl, retOK_of [(.agg [(.c (.int .i64 (0 : Int))), .nils]), (.one (.c (.bool false)))] (by kernel_rfl) ⟨⟨⟨rfl, trivial⟩, rfl, trivial⟩, ⟨rfl, trivial⟩, trivial⟩ (of_decide_eq_true (by kernel_rfl))⟩
  · refine AW.cond_f rfl b7 ?_
    refine AW.skip ?_
    refine thenQ_normal ?_
    refine AW.seq ?_
    obtain ⟨v8, e9, h⟩ := bind_some h
    refine AW.regionA [.no, .no, .no, .call [.one (pl 2 cs_Recording a0), .one (.int .i64 (0 : Int)), .one (.int .i64 (a0.Frames.length : Int))] [.agg (cs_Recording v8)] [[.view, .lst 4]], .box 5] [3, 4, 6] [2, 3, 4, 5] (s' := ⟨[(3, (.v (.one (.ptr 2 0)))), (4, (.v (.one (.ptr 3 0)))), (6, (.v (.one (.ptr 5 0))))], [(2, (.box [(.c (.flt .f32 a1.Root.X.bits)), (.c (.flt .f32 a1.Root.Y.bits)), (.c (.flt .f32 a1.Root.Z.bits)), (.c (sl 4 cs_Turn a1.Turns))])), (3, (.box [(.c (.int .i64 (0 : Int))), .nils])), (4, (.lst v8.Frames.length 4 (gl cs_Pose v8.Frames))), (5, (.box [(.c (.int .i64 v8.Bones)), (.lst 4 v8.Frames.length 4 (gl cs_Pose v8.Frames))]))]⟩) (ob := True ∧ True ∧ True ∧ (((0 = 0 ∧ (((.int .i64 a0.Bones) : C) = (.int .i64 a0.Bones)) ∧ (((sl 4 cs_Pose a0.Frames) : C) = (sl 4 cs_Pose a0.Frames)) ∧ True) ∧ (((.int .i64 (0 : Int)) : C) = (.int .i64 (0 : Int))) ∧ (((.int .i64 (a0.Frames.length : Int)) : C) = (.int .i64 (a0.Frames.length : Int))) ∧ True) ∧ CallOK Try.prog 74 [.one (pl 2 cs_Recording a0), .one (.int .i64 (0 : Int)), .one (.int .i64 (a0.Frames.length : Int))] [.agg (cs_Recording v8)]) ∧ True ∧ True ∧ True) (by kernel_rfl) ⟨trivial, trivial, trivial, ⟨⟨⟨rfl, rfl, rfl, trivial⟩, rfl, rfl, trivial⟩, ok_spec_l10Some K a0 (0 : Int) (a0.Frames.length : Int) v8 e9⟩, trivial, trivial, trivial⟩ ?_
    refine thenQ_normal ?_
    refine AW.seq ?_
    obtain ⟨v10, e11, h⟩ := bind_some h
    obtain ⟨c12, h⟩ := chk_some h
    refine AW.drawnA (by kernel_rfl) 6 [.no, .no, .call [.one (pl 4 cs_Pose a1)] [.agg (cs_Pose v10)] [[.view, .view, .view, .lst 6]], .obj 7 ([v10]).length (gl cs_Pose ([v10])), .obj 8 (v8.Frames ++ ([v10])).length (gl cs_Pose (v8.Frames ++ ([v10])))] [4, 6] [3, 5, 8] (s' := ⟨[(4, (.v (.one (.ptr 3 0)))), (6, (.v (.one (.ptr 5 0))))], [(3, (.box [(.c (.int .i64 (0 : Int))), .nils])), (5, (.box [(.c (.int .i64 v8.Bones)), (.lst 8 (v8.Frames ++ ([v10])).length 4 (gl cs_Pose (v8.Frames ++ ([v10]))))])), (8, (.lst (v8.Frames ++ ([v10])).length 4 (gl cs_Pose (v8.Frames ++ ([v10])))))]⟩) (ob := (True ∧ True ∧ (((0 = 0 ∧ (((.flt .f32 a1.Root.X.bits) : C) = (.flt .f32 a1.Root.X.bits)) ∧ (((.flt .f32 a1.Root.Y.bits) : C) = (.flt .f32 a1.Root.Y.bits)) ∧ (((.flt .f32 a1.Root.Z.bits) : C) = (.flt .f32 a1.Root.Z.bits)) ∧ (((sl 4 cs_Turn a1.Turns) : C) = (sl 4 cs_Turn a1.Turns)) ∧ True) ∧ True) ∧ CallOK Try.prog 87 [.one (pl 4 cs_Pose a1)] [.agg (cs_Pose v10)]) ∧ (([v10]).length = 1 ∧ (((.flt .f32 v10.Root.X.bits) : C) = (.flt .f32 v10.Root.X.bits) ∧ True) ∧ (((.flt .f32 v10.Root.Y.bits) : C) = (.flt .f32 v10.Root.Y.bits) ∧ True) ∧ (((.flt .f32 v10.Root.Z.bits) : C) = (.flt .f32 v10.Root.Z.bits) ∧ True) ∧ (((sl 4 cs_Turn v10.Turns) : C) = (sl 4 cs_Turn v10.Turns)) ∧ True) ∧ ((v8.Frames ++ ([v10])).length = v8.Frames.length + ([v10]).length ∧ AppOb (v8.Frames.length) (([v10]).length) 4 (gl cs_Pose v8.Frames) (gl cs_Pose ([v10])) (gl cs_Pose (v8.Frames ++ ([v10]))) ∧ True ∧ (v8.Frames.length + ([v10]).length) * 40 ≤ 140737488355328) ∧ True ∧ True) ∧ (True ∧ True)) (by kernel_rfl) ⟨⟨trivial, trivial, ⟨⟨⟨rfl, rfl, rfl, rfl, rfl, trivial⟩, trivial⟩, ok_spec_l10Copy K a1 v10 e11⟩, ⟨rfl, ⟨⟨rfl, trivial⟩, ⟨rfl, trivial⟩, ⟨rfl, trivial⟩, rfl, trivial⟩⟩, ⟨List.length_append, gl_append, trivial, c12⟩, trivial, trivial⟩, ⟨trivial, trivial⟩⟩ ?_
    refine thenQ_normal ?_
    refine AW.seq ?_
    refine AW.regionA [] [4, 5] [3, 8] (s' := ⟨[(4, (.v (.one (.ptr 3 0)))), (5, (.v (.one (.c (.bool true)))))], [(3, (.box [(.c (.int .i64 v8.Bones)), (.lst 8 (v8.Frames ++ ([v10])).length 4 (gl cs_Pose (v8.Frames ++ ([v10]))))])), (8, (.lst (v8.Frames ++ ([v10])).length 4 (gl cs_Pose (v8.Frames ++ ([v10])))))]⟩) (ob := True ∧ True ∧ True ∧ True) (by kernel_rfl) ⟨trivial, trivial, trivial, trivial⟩ ?_
    refine thenQ_normal ?_
    refine AW.ret ?_
    replace h := some_eq h
    subst h
    exact ⟨.inr rfl, retOK_of [(.agg [(.c (.int .i64 v8.Bones)), (.lst 8 (v8.Frames ++ ([v10])).length 4 (gl cs_Pose (v8.Frames ++ ([v10]))))]), (.one (.c (.bool true)))] (by kernel_rfl) ⟨⟨⟨rfl, trivial⟩, rfl, trivial⟩, ⟨rfl, trivial⟩, trivial⟩ (of_decide_eq_true (by kernel_rfl))⟩

/-! impl.AddFrame -/
def impl_AddFrame (K : Nat) (a0 : Recording) (a1 : Pose) : Option (Recording × Bool) :=
  (impl_ValidRecording K a0).bind fun v1 => ite2 ((!v1)) (some ((Recording.mk (0 : Int) ([] : (List Pose))), false)) ((impl_frames K a0.Frames).bind fun v4 => (impl_frames K ([a1])).bind fun v6 => chk ((v4.length + v6.length) * 40 ≤ 140737488355328) ((impl_validRecording K (Recording.mk a0.Bones (v4 ++ v6))).bind fun v9 => some (v9.1, v9.2)))

theorem ok_impl_AddFrame (K : Nat) (a0 : Recording) (a1 : Pose) (o : (Recording × Bool)) (h : impl_AddFrame K a0 a1 = some o) : CallOK Try.prog 35 [.agg (cs_Recording a0), .agg (cs_Pose a1)] [.agg (cs_Recording o.1), .one (.bool o.2)] := by
  refine callOK_of_AW Try.func35 rfl (by kernel_rfl) (Nat.le_of_ble_eq_true (by kernel_rfl)) ?_
  intro w0
  unfold impl_AddFrame at h
  refine AW.seq ?_
  refine AW.regionA [.box 1, .box 2, .box 3] [2, 3, 4] [1, 2, 3] (s' := ⟨[(2, (.v (.one (.ptr 1 0)))), (3, (.v (.one (.ptr 2 0)))), (4, (.v (.one (.ptr 3 0))))], [(1, (.box [(.c (.int .i64 a0.Bones)), (.c (sl 4 cs_Pose a0.Frames))])), (2, (.box [(.c (.flt .f32 a1.Root.X.bits)), (.c (.flt .f32 a1.Root.Y.bits)), (.c (.flt .f32 a1.Root.Z.bits)), (.c (sl 4 cs_Turn a1.Turns))])), (3, (.box [(.c (.int .i64 (0 : Int))), .nils]))]⟩) (ob := True ∧ True ∧ True ∧ True ∧ True) (by kernel_rfl) ⟨trivial, trivial, trivial, trivial, trivial⟩ ?_
  refine thenQ_normal ?_
  refine AW.seq ?_
  refine AW.seq ?_
  obtain ⟨v1, e2, h⟩ := bind_some h
  refine AW.regionA [.no, .call [.agg (cs_Recording a0)] [.one (.bool v1)] [[.view]]] [2, 3, 4, 8] [1, 2, 3] (s' := ⟨[(2, (.v (.one (.ptr 1 0)))), (3, (.v (.one (.ptr 2 0)))), (4, (.v (.one (.ptr 3 0)))), (8, (.v (.one (.c (.bool (!v1))))))], [(1, (.box [(.c (.int .i64 a0.Bones)), (.c (sl 4 cs_Pose a0.Frames))])), (2, (.box [(.c (.flt .f32 a1.Root.X.bits)), (.c (.flt .f32 a1.Root.Y.bits)), (.c (.flt .f32 a1.Root.Z.bits)), (.c (sl 4 cs_Turn a1.Turns))])), (3, (.box [(.c (.int .i64 (0 : Int))), .nils]))]⟩) (ob := True ∧ ((((((.int .i64 a0.Bones) : C) = (.int .i64 a0.Bones)) ∧ (((sl 4 cs_Pose a0.Frames) : C) = (sl 4 cs_Pose a0.Frames)) ∧ True) ∧ True) ∧ CallOK Try.prog 53 [.agg (cs_Recording a0)] [.one (.bool v1)]) ∧ True ∧ True) (by kernel_rfl) ⟨trivial, ⟨⟨⟨rfl, rfl, trivial⟩, trivial⟩, ok_impl_ValidRecording K a0 v1 e2⟩, trivial, trivial⟩ ?_
  refine thenQ_normal ?_
  rcases ite2_cases h with ⟨b3, h⟩ | ⟨b3, h⟩
  · refine AW.cond_t rfl b3 ?_
    refine AW.seq ?_
    refine AW.regionA [] [4, 5] [3] (s' := ⟨[(4, (.v (.one (.ptr 3 0)))), (5, (.v (.one (.c (.bool false)))))], [(3, (.box [(.c (.int .i64 (0 : Int))), .nils]))]⟩) (ob := True ∧ True ∧ True ∧ True) (by kernel_rfl) ⟨trivial, trivial, trivial, trivial⟩ ?_
    refine thenQ_normal ?_
    refine AW.ret ?_
    refine thenQ_ret ?_
    replace h := some_eq h
    subst h
    exact ⟨.inr rfl, retOK_of [(.agg [(.c (.int .i64 (0 : Int))), .nils]), (.one (.c (.bool false)))] (by kernel_rfl) ⟨⟨⟨rfl, trivial⟩, rfl, trivial⟩, ⟨rfl, trivial⟩, trivial⟩ (of_decide_eq_true (by kernel_rfl))⟩
  · refine AW.cond_f rfl b3 ?_
    refine AW.skip ?_
    refine thenQ_normal ?_
    refine AW.seq ?_
    obtain ⟨v4, e5, h⟩ := bind_some h
    obtain ⟨v6, e7, h⟩ := bind_some h
    obtain ⟨c8, h⟩ := chk_some h
    obtain ⟨v9, e10, h⟩ := bind_some h
    refine AW.treeA (by kernel_rfl) 10 [.no, .no, .no, .no, .call [.one (sl 4 cs_Pose a0.Frames)] [.one (sl 4 cs_Pose v4)] [[.own 4]], .no, .seq ([a1]).length (gl cs_Pose ([a1])), .call [.one (sl 4 cs_Pose ([a1]))] [.one (sl 4 cs_Pose v6)] [[.own 5]], .objD 6 (v4 ++ v6).length (gl cs_Pose (v4 ++ v6)), .no, .callM [(.agg [(.ro (.int .i64 a0.Bones)), (.mv (sl 4 cs_Pose (v4 ++ v6)))])] [.agg (cs_Recording v9.1), .one (.bool v9.2)] [[.view, .lst 7], [.view]] none] [4, 5] [3, 7] (s' := ⟨[(4, (.v (.one (.ptr 3 0)))), (5, (.v (.one (.c (.bool v9.2)))))], [(3, (.box [(.c (.int .i64 v9.1.Bones)), (.lst 7 v9.1.Frames.length 4 (gl cs_Pose v9.1.Frames))])), (7, (.lst v9.1.Frames.length 4 (gl cs_Pose v9.1.Frames)))]⟩) (ob := (True ∧ True ∧ True ∧ True ∧ (((((sl 4 cs_Pose a0.Frames) : C) = (sl 4 cs_Pose a0.Frames)) ∧ True) ∧ CallOK Try.prog 76 [.one (sl 4 cs_Pose a0.Frames)] [.one (sl 4 cs_Pose v4)]) ∧ True ∧ (([a1]).length = 1 ∧ (((.flt .f32 a1.Root.X.bits) : C) = (.flt .f32 a1.Root.X.bits)) ∧ (((.flt .f32 a1.Root.Y.bits) : C) = (.flt .f32 a1.Root.Y.bits)) ∧ (((.flt .f32 a1.Root.Z.bits) : C) = (.flt .f32 a1.Root.Z.bits)) ∧ (((sl 4 cs_Turn a1.Turns) : C) = (sl 4 cs_Turn a1.Turns)) ∧ True) ∧ (((((sl 4 cs_Pose ([a1])) : C) = (sl 4 cs_Pose ([a1]))) ∧ True) ∧ CallOK Try.prog 76 [.one (sl 4 cs_Pose ([a1]))] [.one (sl 4 cs_Pose v6)]) ∧ ((v4 ++ v6).length = v4.length + v6.length ∧ AppOb (v4.length) (v6.length) 4 (gl cs_Pose v4) (gl cs_Pose v6) (gl cs_Pose (v4 ++ v6)) ∧ True ∧ (v4.length + v6.length) * 40 ≤ 140737488355328) ∧ True ∧ True) ∧ (((((((.int .i64 a0.Bones) : C) = (.int .i64 a0.Bones)) ∧ (((sl 4 cs_Pose (v4 ++ v6)) : C) = (sl 4 cs_Pose (v4 ++ v6))) ∧ True) ∧ True) ∧ MutOK Try.prog 80 [(.agg [(.ro (.int .i64 a0.Bones)), (.mv (sl 4 cs_Pose (v4 ++ v6)))])] [.agg (cs_Recording v9.1), .one (.bool v9.2)]) ∧ ((True ∧ (True ∧ (True ∧ (True ∧ True)))) ∧ (True ∧ (True ∧ (True ∧ (True ∧ True)))) ∧ ((⟨[(4, (.v (.one (.ptr 3 0)))), (5, (.v (.one (.c (.bool v9.2)))))], [(3, (.box [(.c (.int .i64 v9.1.Bones)), (.lst 7 v9.1.Frames.length 4 (gl cs_Pose v9.1.Frames))])), (7, (.lst v9.1.Frames.length 4 (gl cs_Pose v9.1.Frames)))]⟩ : St) = ⟨[(4, (.v (.one (.ptr 3 0)))), (5, (.v (.one (.c (.bool v9.2)))))], [(3, (.box [(.c (.int .i64 v9.1.Bones)), (.lst 7 v9.1.Frames.length 4 (gl cs_Pose v9.1.Frames))])), (7, (.lst v9.1.Frames.length 4 (gl cs_Pose v9.1.Frames)))]⟩)))) (by kernel_rfl) ⟨⟨trivial, trivial, trivial, trivial, ⟨⟨rfl, trivial⟩, ok_impl_frames K a0.Frames v4 e5⟩, trivial, ⟨rfl, ⟨rfl, rfl, rfl, rfl, trivial⟩⟩, ⟨⟨rfl, trivial⟩, ok_impl_frames K ([a1]) v6 e7⟩, ⟨List.length_append, gl_append, trivial, c8⟩, trivial, trivial⟩, ⟨⟨⟨⟨rfl, rfl, trivial⟩, trivial⟩, ok_impl_validRecording K (Recording.mk a0.Bones (v4 ++ v6)) v9 e10⟩, ⟨⟨trivial, ⟨trivial, ⟨trivial, ⟨trivial, trivial⟩⟩⟩⟩, ⟨trivial, ⟨trivial, ⟨trivial, ⟨trivial, trivial⟩⟩⟩⟩, rfl⟩⟩⟩ ?_
    refine thenQ_normal ?_
    refine AW.ret ?_
    replace h := some_eq h
    subst h
    exact ⟨.inr rfl, retOK_of [(.agg [(.c (.int .i64 v9.1.Bones)), (.lst 7 v9.1.Frames.length 4 (gl cs_Pose v9.1.Frames))]), (.one (.c (.bool v9.2)))] (by kernel_rfl) ⟨⟨⟨rfl, trivial⟩, rfl, trivial⟩, ⟨rfl, trivial⟩, trivial⟩ (of_decide_eq_true (by kernel_rfl))⟩

/-! laws.markPose -/
def laws_markPose (K : Nat) (a0 : Pose) (a1 : Int) : Option (Int × (List Turn)) :=
  (laws_markTurnS K a0.Turns a1).bind fun v1 => chk (v1.2.length = a0.Turns.length) (chk (v1.2.length = a0.Turns.length) (some (v1.1, v1.2)))

theorem ok_laws_markPose (K : Nat) (a0 : Pose) (a1 : Int) (o : (Int × (List Turn))) (h : laws_markPose K a0 a1 = some o) : MutOK Try.prog 37 [(.agg [(.ro (.flt .f32 a0.Root.X.bits)), (.ro (.flt .f32 a0.Root.Y.bits)), (.ro (.flt .f32 a0.Root.Z.bits)), (.mu (sl 4 cs_Turn a0.Turns) (sl 4 cs_Turn o.2))]), (.one (.ro (.int .i64 a1)))] [.one (.int .i64 o.1)] := by
  refine mutOK_of_AW 1 Try.func37 rfl (by kernel_rfl) (Nat.le_of_ble_eq_true (by kernel_rfl)) (by kernel_rfl) (by kernel_rfl) ?_
  intro w0 K0 v0 s0
  unfold laws_markPose at h
  refine AW.seq ?_
  refine AW.regionA [.box 1] [0, 1, 2] [0, 1] (s' := ⟨[(0, (.v (.agg [(.c (.flt .f32 a0.Root.X.bits)), (.c (.flt .f32 a0.Root.Y.bits)), (.c (.flt .f32 a0.Root.Z.bits)), (.arr 0)]))), (1, (.v (.one (.c (.int .i64 a1))))), (2, (.v (.one (.ptr 1 0))))], [(0, (.arr true a0.Turns.length 4 (gl cs_Turn a0.Turns))), (1, (.box [(.c (.flt .f32 a0.Root.X.bits)), (.c (.flt .f32 a0.Root.Y.bits)), (.c (.flt .f32 a0.Root.Z.bits)), (.arr 0)]))]⟩) (ob := True ∧ True ∧ True) (by kernel_rfl) ⟨trivial, trivial, trivial⟩ ?_
  refine thenQ_normal ?_
  refine AW.seq ?_
  obtain ⟨v1, e2, h⟩ := bind_some h
  obtain ⟨c3, h⟩ := chk_some h
  refine AW.regionA [.no, .no, .no, .callM [(.one (.mu (sl 4 cs_Turn a0.Turns) (sl 4 cs_Turn v1.2))), .one (.ro (.int .i64 a1))] [.one (.int .i64 v1.1)] [[.view]] none] [0, 1] [0] (s' := ⟨[(0, (.v (.agg [(.c (.flt .f32 a0.Root.X.bits)), (.c (.flt .f32 a0.Root.Y.bits)), (.c (.flt .f32 a0.Root.Z.bits)), (.arr 0)]))), (1, (.v (.one (.c (.int .i64 v1.1)))))], [(0, (.arr true v1.2.length 4 (gl cs_Turn v1.2)))]⟩) (ob := True ∧ True ∧ True ∧ (((((sl 4 cs_Turn a0.Turns) : C) = (sl 4 cs_Turn a0.Turns) ∧ v1.2.length = a0.Turns.length ∧ 4 = 4 ∧ ∀ i j, i < a0.Turns.length → j < 4 → isSeq (gl cs_Turn v1.2 i j) = isSeq (gl cs_Turn a0.Turns i j)) ∧ (((.int .i64 a1) : C) = (.int .i64 a1)) ∧ True) ∧ MutOK Try.prog 92 [(.one (.mu (sl 4 cs_Turn a0.Turns) (sl 4 cs_Turn v1.2))), .one (.ro (.int .i64 a1))] [.one (.int .i64 v1.1)]) ∧ True ∧ True) (by kernel_rfl) ⟨trivial, trivial, trivial, ⟨⟨⟨rfl, c3, rfl, gl_seq sq_Turn⟩, rfl, trivial⟩, ok_laws_markTurnS K a0.Turns a1 v1 e2⟩, trivial, trivial⟩ ?_
  refine thenQ_normal ?_
  refine AW.seq ?_
  refine AW.regionA [] [0, 1, 4] [0] (s' := ⟨[(0, (.v (.agg [(.c (.flt .f32 a0.Root.X.bits)), (.c (.flt .f32 a0.Root.Y.bits)), (.c (.flt .f32 a0.Root.Z.bits)), (.arr 0)]))), (1, (.v (.one (.c (.int .i64 v1.1))))), (4, (.v (.one (.c (.int .i64 v1.1)))))], [(0, (.arr true v1.2.length 4 (gl cs_Turn v1.2)))]⟩) (ob := True ∧ True ∧ True) (by kernel_rfl) ⟨trivial, trivial, trivial⟩ ?_
  refine thenQ_normal ?_
  refine AW.ret ?_
  obtain ⟨c4, h⟩ := chk_some h
  replace h := some_eq h
  subst h
  exact ⟨.inr rfl, retOK_of [(.one (.c (.int .i64 v1.1)))] (by kernel_rfl) ⟨⟨rfl, trivial⟩, trivial⟩ (of_decide_eq_true (by kernel_rfl)), by kernel_rfl, ⟨⟨trivial, trivial, trivial, ⟨c4, rfl, rfl⟩, trivial⟩, trivial, trivial⟩⟩

/-! laws.FnExactAddFrame -/
def laws_FnExactAddFrame (K : Nat) (a0 : Recording) (a1 : Pose) : Option (Bool) :=
  (laws_szRecording K a0 (1048576 : Int)).bind fun v1 => ite2 ((decide (v1 < (0 : Int)))) (some true) ((laws_szPose K a1 v1).bind fun v4 => ite2 ((decide (v4 < (0 : Int)))) (some true) ((laws_toRecording K a0).bind fun v7 => (laws_toPose K a1).bind fun v9 => (spec_AddFrame K v7 v9).bind fun v11 => (laws_toRecording K a0).bind fun v13 => (laws_toPose K a1).bind fun v15 => (impl_AddFrame K v13 v15).bind fun v17 => (laws_eqRecording K v17.1 v11.1).bind fun v19 => (ite2 ((!v19)) (some true) (some (!(v17.2 == v11.2)))).bind fun j22 => ite2 (j22) (some false) ((laws_toRecording K a0).bind fun v25 => (laws_eqRecording K v13 v25).bind fun v27 => ite2 ((!v27)) (some false) ((laws_toPose K a1).bind fun v30 => (laws_eqPose K v15 v30).bind fun v32 => ite2 ((!v32)) (some false) ((laws_markRecording K v13 (1 : Int)).bind fun v35 => chk (v35.2.length = v13.Frames.length) ((laws_markPose K v15 v35.1).bind fun v38 => chk (v38.2.length = v15.Turns.length) ((ite2 ((decide (v38.1 < (0 : Int)))) (some true) ((laws_eqRecording K v17.1 v11.1).bind fun v42 => ite2 ((!v42)) (some true) (some (!(v17.2 == v11.2))))).bind fun j45 => ite2 (j45) (some false) ((laws_markRecording K v17.1 (1 : Int)).bind fun v48 => chk (v48.2.length = v17.1.Frames.length) ((laws_heldRecording K (Recording.mk v17.1.Bones v48.2) (1 : Int)).bind fun v51 => ite2 ((decide (v51 < (0 : Int)))) (some false) (ite2 ((v51 != v48.1)) (some false) ((laws_toRecording K a0).bind fun v55 => (laws_toPose K a1).bind fun v57 => (impl_AddFrame K v55 v57).bind fun v59 => (laws_eqRecording K v59.1 v11.1).bind fun v61 => (ite2 ((!v61)) (some true) (some (!(v59.2 == v11.2)))).bind fun j64 => ite2 (j64) (some false) ((laws_heldRecording K (Recording.mk v17.1.Bones v48.2) (1 : Int)).bind fun v67 => ite2 ((decide (v67 < (0 : Int)))) (some false) (ite2 ((v67 != v48.1)) (some false) (some true))))))))))))))

theorem ok_laws_FnExactAddFrame (K : Nat) (a0 : Recording) (a1 : Pose) (o : (Bool)) (h : laws_FnExactAddFrame K a0 a1 = some o) : CallOK Try.prog 7 [.agg (cs_Recording a0), .agg (cs_Pose a1)] [.one (.bool o)] := by
  refine callOK_of_AW Try.func7 rfl (by kernel_rfl) (Nat.le_of_ble_eq_true (by kernel_rfl)) ?_
  intro w0
  unfold laws_FnExactAddFrame at h
  refine AW.seq ?_
  refine AW.regionA [.box 1, .box 2] [2, 3] [1, 2] (s' := ⟨[(2, (.v (.one (.ptr 1 0)))), (3, (.v (.one (.ptr 2 0))))], [(1, (.box [(.c (.int .i64 a0.Bones)), (.c (sl 4 cs_Pose a0.Frames))])), (2, (.box [(.c (.flt .f32 a1.Root.X.bits)), (.c (.flt .f32 a1.Root.Y.bits)), (.c (.flt .f32 a1.Root.Z.bits)), (.c (sl 4 cs_Turn a1.Turns))]))]⟩) (ob := True ∧ True ∧ True ∧ True) (by kernel_rfl) ⟨trivial, trivial, trivial, trivial⟩ ?_
  refine thenQ_normal ?_
  refine AW.seq ?_
  refine AW.regionA [] [2, 3, 5] [1, 2] (s' := ⟨[(2, (.v (.one (.ptr 1 0)))), (3, (.v (.one (.ptr 2 0)))), (5, (.v (.one (.c (.int .i64 (1048576 : Int))))))], [(1, (.box [(.c (.int .i64 a0.Bones)), (.c (sl 4 cs_Pose a0.Frames))])), (2, (.box [(.c (.flt .f32 a1.Root.X.bits)), (.c (.flt .f32 a1.Root.Y.bits)), (.c (.flt .f32 a1.Root.Z.bits)), (.c (sl 4 cs_Turn a1.Turns))]))]⟩) (ob := True ∧ True) (by kernel_rfl) ⟨trivial, trivial⟩ ?_
  refine thenQ_normal ?_
  refine AW.seq ?_
  obtain ⟨v1, e2, h⟩ := bind_some h
  refine AW.regionA [.no, .no, .call [.agg (cs_Recording a0), .one (.int .i64 (1048576 : Int))] [.one (.int .i64 v1)] [[.view]]] [2, 3, 5] [1, 2] (s' := ⟨[(2, (.v (.one (.ptr 1 0)))), (3, (.v (.one (.ptr 2 0)))), (5, (.v (.one (.c (.int .i64 v1)))))], [(1, (.box [(.c (.int .i64 a0.Bones)), (.c (sl 4 cs_Pose a0.Frames))])), (2, (.box [(.c (.flt .f32 a1.Root.X.bits)), (.c (.flt .f32 a1.Root.Y.bits)), (.c (.flt .f32 a1.Root.Z.bits)), (.c (sl 4 cs_Turn a1.Turns))]))]⟩) (ob := True ∧ True ∧ ((((((.int .i64 a0.Bones) : C) = (.int .i64 a0.Bones)) ∧ (((sl 4 cs_Pose a0.Frames) : C) = (sl 4 cs_Pose a0.Frames)) ∧ True) ∧ (((.int .i64 (1048576 : Int)) : C) = (.int .i64 (1048576 : Int))) ∧ True) ∧ CallOK Try.prog 21 [.agg (cs_Recording a0), .one (.int .i64 (1048576 : Int))] [.one (.int .i64 v1)]) ∧ True ∧ True) (by kernel_rfl) ⟨trivial, trivial, ⟨⟨⟨rfl, rfl, trivial⟩, rfl, trivial⟩, ok_laws_szRecording K a0 (1048576 : Int) v1 e2⟩, trivial, trivial⟩ ?_
  refine thenQ_normal ?_
  refine AW.seq ?_
  refine AW.seq ?_
  refine AW.regionA [] [2, 3, 5, 21] [1, 2] (s' := ⟨[(2, (.v (.one (.ptr 1 0)))), (3, (.v (.one (.ptr 2 0)))), (5, (.v (.one (.c (.int .i64 v1))))), (21, (.v (.one (.c (.bool (decide (v1 < (0 : Int))))))))], [(1, (.box [(.c (.int .i64 a0.Bones)), (.c (sl 4 cs_Pose a0.Frames))])), (2, (.box [(.c (.flt .f32 a1.Root.X.bits)), (.c (.flt .f32 a1.Root.Y.bits)), (.c (.flt .f32 a1.Root.Z.bits)), (.c (sl 4 cs_Turn a1.Turns))]))]⟩) (ob := True ∧ True ∧ True) (by kernel_rfl) ⟨trivial, trivial, trivial⟩ ?_
  refine thenQ_normal ?_
  rcases ite2_cases h with ⟨b3, h⟩ | ⟨b3, h⟩
  · refine AW.cond_t rfl b3 ?_
    refine AW.seq ?_
    refine AW.regionA [] [4] [] (s' := ⟨[(4, (.v (.one (.c (.bool true)))))], []⟩) (ob := True ∧ True) (by kernel_rfl) ⟨trivial, trivial⟩ ?_
    refine thenQ_normal ?_
    refine AW.ret ?_
    refine thenQ_ret ?_
    replace h := some_eq h
    subst h
    exact ⟨.inr rfl, retOK_of [(.one (.c (.bool true)))] (by kernel_rfl) ⟨⟨rfl, trivial⟩, trivial⟩ (of_decide_eq_true (by kernel_rfl))⟩
  · refine AW.cond_f rfl b3 ?_
    refine AW.skip ?_
    refine thenQ_normal ?_
    refine AW.seq ?_
    obtain ⟨v4, e5, h⟩ := bind_some h
    refine AW.regionA [.no, .no, .call [.agg (cs_Pose a1), .one (.int .i64 v1)] [.one (.int .i64 v4)] [[.view]]] [2, 3, 5] [1, 2] (s' := ⟨[(2, (.v (.one (.ptr 1 0)))), (3, (.v (.one (.ptr 2 0)))), (5, (.v (.one (.c (.int .i64 v4)))))], [(1, (.box [(.c (.int .i64 a0.Bones)), (.c (sl 4 cs_Pose a0.Frames))])), (2, (.box [(.c (.flt .f32 a1.Root.X.bits)), (.c (.flt .f32 a1.Root.Y.bits)), (.c (.flt .f32 a1.Root.Z.bits)), (.c (sl 4 cs_Turn a1.Turns))]))]⟩) (ob := True ∧ True ∧ ((((((.flt .f32 a1.Root.X.bits) : C) = (.flt .f32 a1.Root.X.bits)) ∧ (((.flt .f32 a1.Root.Y.bits) : C) = (.flt .f32 a1.Root.Y.bits)) ∧ (((.flt .f32 a1.Root.Z.bits) : C) = (.flt .f32 a1.Root.Z.bits)) ∧ (((sl 4 cs_Turn a1.Turns) : C) = (sl 4 cs_Turn a1.Turns)) ∧ True) ∧ (((.int .i64 v1) : C) = (.int .i64 v1)) ∧ True) ∧ CallOK Try.prog 32 [.agg (cs_Pose a1), .one (.int .i64 v1)] [.one (.int .i64 v4)]) ∧ True ∧ True) (by kernel_rfl) ⟨trivial, trivial, ⟨⟨⟨rfl, rfl, rfl, rfl, trivial⟩, rfl, trivial⟩, ok_laws_szPose K a1 v1 v4 e5⟩, trivial, trivial⟩ ?_
    refine thenQ_normal ?_
    refine AW.seq ?_
    refine AW.seq ?_
    refine AW.regionA [] [2, 3, 26] [1, 2] (s' := ⟨[(2, (.v (.one (.ptr 1 0)))), (3, (.v (.one (.ptr 2 0)))), (26, (.v (.one (.c (.bool (decide (v4 < (0 : Int))))))))], [(1, (.box [(.c (.int .i64 a0.Bones)), (.c (sl 4 cs_Pose a0.Frames))])), (2, (.box [(.c (.flt .f32 a1.Root.X.bits)), (.c (.flt .f32 a1.Root.Y.bits)), (.c (.flt .f32 a1.Root.Z.bits)), (.c (sl 4 cs_Turn a1.Turns))]))]⟩) (ob := True ∧ True ∧ True) (by kernel_rfl) ⟨trivial, trivial, trivial⟩ ?_
    refine thenQ_normal ?_
    rcases ite2_cases h with ⟨b6, h⟩ | ⟨b6, h⟩
    · refine AW.cond_t rfl b6 ?_
      refine AW.seq ?_
      refine AW.regionA [] [4] [] (s' := ⟨[(4, (.v (.one (.c (.bool true)))))], []⟩) (ob := True ∧ True) (by kernel_rfl) ⟨trivial, trivial⟩ ?_
      refine thenQ_normal ?_
      refine AW.ret ?_
      refine thenQ_ret ?_
      replace h := some_eq h
      subst h
      exact ⟨.inr rfl, retOK_of [(.one (.c (.bool true)))] (by kernel_rfl) ⟨⟨rfl, trivial⟩, trivial⟩ (of_decide_eq_true (by kernel_rfl))⟩
    · refine AW.cond_f rfl b6 ?_
      refine AW.skip ?_
      refine thenQ_normal ?_
      refine AW.seq ?_
      obtain ⟨v7, e8, h⟩ := bind_some h
      obtain ⟨v9, e10, h⟩ := bind_some h
      obtain ⟨v11, e12, h⟩ := bind_some h
      refine AW.lateA (by kernel_rfl) 9 7 [.no, .call [.agg (cs_Recording a0)] [.agg (cs_Recording v7)] [[.view, .lst 3]], .no, .call [.agg (cs_Pose a1)] [.agg (cs_Pose v9)] [[.view, .view, .view, .lst 4]], .call [.agg (cs_Recording v7), .agg (cs_Pose v9)] [.agg (cs_Recording v11.1), .one (.bool v11.2)] [[.view, .lst 5], [.view]], .no, .no, .no, .box 6] [2, 3, 6, 7] [1, 2, 5, 6] (s' := ⟨[(2, (.v (.one (.ptr 1 0)))), (3, (.v (.one (.ptr 2 0)))), (6, (.v (.one (.ptr 6 0)))), (7, (.v (.one (.c (.bool v11.2)))))], [(1, (.box [(.c (.int .i64 a0.Bones)), (.c (sl 4 cs_Pose a0.Frames))])), (2, (.box [(.c (.flt .f32 a1.Root.X.bits)), (.c (.flt .f32 a1.Root.Y.bits)), (.c (.flt .f32 a1.Root.Z.bits)), (.c (sl 4 cs_Turn a1.Turns))])), (5, (.lst v11.1.Frames.length 4 (gl cs_Pose v11.1.Frames))), (6, (.box [(.c (.int .i64 v11.1.Bones)), (.lst 5 v11.1.Frames.length 4 (gl cs_Pose v11.1.Frames))]))]⟩) (ob := (True ∧ ((((((.int .i64 a0.Bones) : C) = (.int .i64 a0.Bones)) ∧ (((sl 4 cs_Pose a0.Frames) : C) = (sl 4 cs_Pose a0.Frames)) ∧ True) ∧ True) ∧ CallOK Try.prog 23 [.agg (cs_Recording a0)] [.agg (cs_Recording v7)]) ∧ True ∧ ((((((.flt .f32 a1.Root.X.bits) : C) = (.flt .f32 a1.Root.X.bits)) ∧ (((.flt .f32 a1.Root.Y.bits) : C) = (.flt .f32 a1.Root.Y.bits)) ∧ (((.flt .f32 a1.Root.Z.bits) : C) = (.flt .f32 a1.Root.Z.bits)) ∧ (((sl 4 cs_Turn a1.Turns) : C) = (sl 4 cs_Turn a1.Turns)) ∧ True) ∧ True) ∧ CallOK Try.prog 34 [.agg (cs_Pose a1)] [.agg (cs_Pose v9)]) ∧ ((((((.int .i64 v7.Bones) : C) = (.int .i64 v7.Bones)) ∧ (((sl 4 cs_Pose v7.Frames) : C) = (sl 4 cs_Pose v7.Frames)) ∧ True) ∧ ((((.flt .f32 v9.Root.X.bits) : C) = (.flt .f32 v9.Root.X.bits)) ∧ (((.flt .f32 v9.Root.Y.bits) : C) = (.flt .f32 v9.Root.Y.bits)) ∧ (((.flt .f32 v9.Root.Z.bits) : C) = (.flt .f32 v9.Root.Z.bits)) ∧ (((sl 4 cs_Turn v9.Turns) : C) = (sl 4 cs_Turn v9.Turns)) ∧ True) ∧ True) ∧ CallOK Try.prog 33 [.agg (cs_Recording v7), .agg (cs_Pose v9)] [.agg (cs_Recording v11.1), .one (.bool v11.2)]) ∧ True ∧ True ∧ True ∧ True ∧ True) ∧ (True ∧ True ∧ True) ∧ (True ∧ True ∧ True ∧ True) ∧ ((⟨[(2, (.v (.one (.ptr 1 0)))), (3, (.v (.one (.ptr 2 0)))), (6, (.v (.one (.ptr 6 0)))), (7, (.v (.one (.c (.bool v11.2)))))], [(1, (.box [(.c (.int .i64 a0.Bones)), (.c (sl 4 cs_Pose a0.Frames))])), (2, (.box [(.c (.flt .f32 a1.Root.X.bits)), (.c (.flt .f32 a1.Root.Y.bits)), (.c (.flt .f32 a1.Root.Z.bits)), (.c (sl 4 cs_Turn a1.Turns))])), (5, (.lst v11.1.Frames.length 4 (gl cs_Pose v11.1.Frames))), (6, (.box [(.c (.int .i64 v11.1.Bones)), (.lst 5 v11.1.Frames.length 4 (gl cs_Pose v11.1.Frames))]))]⟩ : St) = ⟨[(2, (.v (.one (.ptr 1 0)))), (3, (.v (.one (.ptr 2 0)))), (6, (.v (.one (.ptr 6 0)))), (7, (.v (.one (.c (.bool v11.2)))))], [(1, (.box [(.c (.int .i64 a0.Bones)), (.c (sl 4 cs_Pose a0.Frames))])), (2, (.box [(.c (.flt .f32 a1.Root.X.bits)), (.c (.flt .f32 a1.Root.Y.bits)), (.c (.flt .f32 a1.Root.Z.bits)), (.c (sl 4 cs_Turn a1.Turns))])), (5, (.lst v11.1.Frames.length 4 (gl cs_Pose v11.1.Frames))), (6, (.box [(.c (.int .i64 v11.1.Bones)), (.lst 5 v11.1.Frames.length 4 (gl cs_Pose v11.1.Frames))]))]⟩)) (by kernel_rfl) ⟨⟨trivial, ⟨⟨⟨rfl, rfl, trivial⟩, trivial⟩, ok_laws_toRecording K a0 v7 e8⟩, trivial, ⟨⟨⟨rfl, rfl, rfl, rfl, trivial⟩, trivial⟩, ok_laws_toPose K a1 v9 e10⟩, ⟨⟨⟨rfl, rfl, trivial⟩, ⟨rfl, rfl, rfl, rfl, trivial⟩, trivial⟩, ok_spec_AddFrame K v7 v9 v11 e12⟩, trivial, trivial, trivial, trivial, trivial⟩, ⟨trivial, trivial, trivial⟩, ⟨trivial, trivial, trivial, trivial⟩, rfl⟩ ?_
      refine thenQ_normal ?_
      refine AW.seq ?_
      obtain ⟨v13, e14, h⟩ := bind_some h
      refine AW.regionA [.no, .call [.agg (cs_Recording a0)] [.agg (cs_Recording v13)] [[.view, .own 7]], .box 8] [2, 3, 6, 7, 8] [1, 2, 5, 6, 7, 8] (s' := ⟨[(2, (.v (.one (.ptr 1 0)))), (3, (.v (.one (.ptr 2 0)))), (6, (.v (.one (.ptr 6 0)))), (7, (.v (.one (.c (.bool v11.2))))), (8, (.v (.one (.ptr 8 0))))], [(1, (.box [(.c (.int .i64 a0.Bones)), (.c (sl 4 cs_Pose a0.Frames))])), (2, (.box [(.c (.flt .f32 a1.Root.X.bits)), (.c (.flt .f32 a1.Root.Y.bits)), (.c (.flt .f32 a1.Root.Z.bits)), (.c (sl 4 cs_Turn a1.Turns))])), (5, (.lst v11.1.Frames.length 4 (gl cs_Pose v11.1.Frames))), (6, (.box [(.c (.int .i64 v11.1.Bones)), (.lst 5 v11.1.Frames.length 4 (gl cs_Pose v11.1.Frames))])), (7, (.arr true v13.Frames.length 4 (gl cs_Pose v13.Frames))), (8, (.box [(.c (.int .i64 v13.Bones)), (.arr 7)]))]⟩) (ob := True ∧ ((((((.int .i64 a0.Bones) : C) = (.int .i64 a0.Bones)) ∧ (((sl 4 cs_Pose a0.Frames) : C) = (sl 4 cs_Pose a0.Frames)) ∧ True) ∧ True) ∧ CallOK Try.prog 23 [.agg (cs_Recording a0)] [.agg (cs_Recording v13)]) ∧ True ∧ True ∧ True) (by kernel_rfl) ⟨trivial, ⟨⟨⟨rfl, rfl, trivial⟩, trivial⟩, ok_laws_toRecording K a0 v13 e14⟩, trivial, trivial, trivial⟩ ?_
      refine thenQ_normal ?_
      refine AW.seq ?_
      obtain ⟨v15, e16, h⟩ := bind_some h
      refine AW.regionA [.no, .call [.agg (cs_Pose a1)] [.agg (cs_Pose v15)] [[.view, .view, .view, .own 9]], .box 10] [2, 3, 6, 7, 8, 9] [1, 2, 5, 6, 7, 8, 9, 10] (s' := ⟨[(2, (.v (.one (.ptr 1 0)))), (3, (.v (.one (.ptr 2 0)))), (6, (.v (.one (.ptr 6 0)))), (7, (.v (.one (.c (.bool v11.2))))), (8, (.v (.one (.ptr 8 0)))), (9, (.v (.one (.ptr 10 0))))], [(1, (.box [(.c (.int .i64 a0.Bones)), (.c (sl 4 cs_Pose a0.Frames))])), (2, (.box [(.c (.flt .f32 a1.Root.X.bits)), (.c (.flt .f32 a1.Root.Y.bits)), (.c (.flt .f32 a1.Root.Z.bits)), (.c (sl 4 cs_Turn a1.Turns))])), (5, (.lst v11.1.Frames.length 4 (gl cs_Pose v11.1.Frames))), (6, (.box [(.c (.int .i64 v11.1.Bones)), (.lst 5 v11.1.Frames.length 4 (gl cs_Pose v11.1.Frames))])), (7, (.arr true v13.Frames.length 4 (gl cs_Pose v13.Frames))), (8, (.box [(.c (.int .i64 v13.Bones)), (.arr 7)])), (9, (.arr true v15.Turns.length 4 (gl cs_Turn v15.Turns))), (10, (.box [(.c (.flt .f32 v15.Root.X.bits)), (.c (.flt .f32 v15.Root.Y.bits)), (.c (.flt .f32 v15.Root.Z.bits)), (.arr 9)]))]⟩) (ob := True ∧ ((((((.flt .f32 a1.Root.X.bits) : C) = (.flt .f32 a1.Root.X.bits)) ∧ (((.flt .f32 a1.Root.Y.bits) : C) = (.flt .f32 a1.Root.Y.bits)) ∧ (((.flt .f32 a1.Root.Z.bits) : C) = (.flt .f32 a1.Root.Z.bits)) ∧ (((sl 4 cs_Turn a1.Turns) : C) = (sl 4 cs_Turn a1.Turns)) ∧ True) ∧ True) ∧ CallOK Try.prog 34 [.agg (cs_Pose a1)] [.agg (cs_Pose v15)]) ∧ True ∧ True ∧ True) (by kernel_rfl) ⟨trivial, ⟨⟨⟨rfl, rfl, rfl, rfl, trivial⟩, trivial⟩, ok_laws_toPose K a1 v15 e16⟩, trivial, trivial, trivial⟩ ?_
      refine thenQ_normal ?_
      refine AW.seq ?_
      obtain ⟨v17, e18, h⟩ := bind_some h
      refine AW.regionA [.no, .no, .call [.agg (cs_Recording v13), .agg (cs_Pose v15)] [.agg (cs_Recording v17.1), .one (.bool v17.2)] [[.view, .own 11], [.view]], .no, .no, .no, .box 12] [2, 3, 6, 7, 8, 9, 10, 11] [1, 2, 5, 6, 7, 8, 9, 10, 11, 12] (s' := ⟨[(2, (.v (.one (.ptr 1 0)))), (3, (.v (.one (.ptr 2 0)))), (6, (.v (.one (.ptr 6 0)))), (7, (.v (.one (.c (.bool v11.2))))), (8, (.v (.one (.ptr 8 0)))), (9, (.v (.one (.ptr 10 0)))), (10, (.v (.one (.ptr 12 0)))), (11, (.v (.one (.c (.bool v17.2)))))], [(1, (.box [(.c (.int .i64 a0.Bones)), (.c (sl 4 cs_Pose a0.Frames))])), (2, (.box [(.c (.flt .f32 a1.Root.X.bits)), (.c (.flt .f32 a1.Root.Y.bits)), (.c (.flt .f32 a1.Root.Z.bits)), (.c (sl 4 cs_Turn a1.Turns))])), (5, (.lst v11.1.Frames.length 4 (gl cs_Pose v11.1.Frames))), (6, (.box [(.c (.int .i64 v11.1.Bones)), (.lst 5 v11.1.Frames.length 4 (gl cs_Pose v11.1.Frames))])), (7, (.arr true v13.Frames.length 4 (gl cs_Pose v13.Frames))), (8, (.box [(.c (.int .i64 v13.Bones)), (.arr 7)])), (9, (.arr true v15.Turns.length 4 (gl cs_Turn v15.Turns))), (10, (.box [(.c (.flt .f32 v15.Root.X.bits)), (.c (.flt .f32 v15.Root.Y.bits)), (.c (.flt .f32 v15.Root.Z.bits)), (.arr 9)])), (11, (.arr true v17.1.Frames.length 4 (gl cs_Pose v17.1.Frames))), (12, (.box [(.c (.int .i64 v17.1.Bones)), (.arr 11)]))]⟩) (ob := True ∧ True ∧ ((((((.int .i64 v13.Bones) : C) = (.int .i64 v13.Bones)) ∧ (((sl 4 cs_Pose v13.Frames) : C) = (sl 4 cs_Pose v13.Frames)) ∧ True) ∧ ((((.flt .f32 v15.Root.X.bits) : C) = (.flt .f32 v15.Root.X.bits)) ∧ (((.flt .f32 v15.Root.Y.bits) : C) = (.flt .f32 v15.Root.Y.bits)) ∧ (((.flt .f32 v15.Root.Z.bits) : C) = (.flt .f32 v15.Root.Z.bits)) ∧ (((sl 4 cs_Turn v15.Turns) : C) = (sl 4 cs_Turn v15.Turns)) ∧ True) ∧ True) ∧ CallOK Try.prog 35 [.agg (cs_Recording v13), .agg (cs_Pose v15)] [.agg (cs_Recording v17.1), .one (.bool v17.2)]) ∧ True ∧ True ∧ True ∧ True ∧ True ∧ True ∧ True) (by kernel_rfl) ⟨trivial, trivial, ⟨⟨⟨rfl, rfl, trivial⟩, ⟨rfl, rfl, rfl, rfl, trivial⟩, trivial⟩, ok_impl_AddFrame K v13 v15 v17 e18⟩, trivial, trivial, trivial, trivial, trivial, trivial, trivial⟩ ?_
      refine thenQ_normal ?_
      refine AW.seq ?_
      refine AW.seq ?_
      obtain ⟨v19, e20, h⟩ := bind_some h
      obtain ⟨j22, e23, h⟩ := bind_some h
      refine AW.join1 (s2 := ⟨[(2, (.v (.one (.ptr 1 0)))), (3, (.v (.one (.ptr 2 0)))), (6, (.v (.one (.ptr 6 0)))), (7, (.v (.one (.c (.bool v11.2))))), (8, (.v (.one (.ptr 8 0)))), (9, (.v (.one (.ptr 10 0)))), (10, (.v (.one (.ptr 12 0)))), (11, (.v (.one (.c (.bool v17.2))))), (53, (.v (.one (.c (.bool j22)))))], [(1, (.box [(.c (.int .i64 a0.Bones)), (.c (sl 4 cs_Pose a0.Frames))])), (2, (.box [(.c (.flt .f32 a1.Root.X.bits)), (.c (.flt .f32 a1.Root.Y.bits)), (.c (.flt .f32 a1.Root.Z.bits)), (.c (sl 4 cs_Turn a1.Turns))])), (5, (.lst v11.1.Frames.length 4 (gl cs_Pose v11.1.Frames))), (6, (.box [(.c (.int .i64 v11.1.Bones)), (.lst 5 v11.1.Frames.length 4 (gl cs_Pose v11.1.Frames))])), (7, (.arr true v13.Frames.length 4 (gl cs_Pose v13.Frames))), (8, (.box [(.c (.int .i64 v13.Bones)), (.arr 7)])), (9, (.arr true v15.Turns.length 4 (gl cs_Turn v15.Turns))), (10, (.box [(.c (.flt .f32 v15.Root.X.bits)), (.c (.flt .f32 v15.Root.Y.bits)), (.c (.flt .f32 v15.Root.Z.bits)), (.arr 9)])), (11, (.arr true v17.1.Frames.length 4 (gl cs_Pose v17.1.Frames))), (12, (.box [(.c (.int .i64 v17.1.Bones)), (.arr 11)]))]⟩) ?_ ?_
      · rcases ite2_cases e23 with ⟨b21, e23⟩ | ⟨b21, e23⟩
        · replace e23 := some_eq e23
          subst e23
          exact AW.regionA [.no, .no, .call [.agg (cs_Recording v17.1), .agg (cs_Recording v11.1)] [.one (.bool v19)] [[.view]], .no, .dec true] [2, 3, 6, 7, 8, 9, 10, 11, 53] [1, 2, 5, 6, 7, 8, 9, 10, 11, 12] (s' := ⟨[(2, (.v (.one (.ptr 1 0)))), (3, (.v (.one (.ptr 2 0)))), (6, (.v (.one (.ptr 6 0)))), (7, (.v (.one (.c (.bool v11.2))))), (8, (.v (.one (.ptr 8 0)))), (9, (.v (.one (.ptr 10 0)))), (10, (.v (.one (.ptr 12 0)))), (11, (.v (.one (.c (.bool v17.2))))), (53, (.v (.one (.c (.bool true)))))], [(1, (.box [(.c (.int .i64 a0.Bones)), (.c (sl 4 cs_Pose a0.Frames))])), (2, (.box [(.c (.flt .f32 a1.Root.X.bits)), (.c (.flt .f32 a1.Root.Y.bits)), (.c (.flt .f32 a1.Root.Z.bits)), (.c (sl 4 cs_Turn a1.Turns))])), (5, (.lst v11.1.Frames.length 4 (gl cs_Pose v11.1.Frames))), (6, (.box [(.c (.int .i64 v11.1.Bones)), (.lst 5 v11.1.Frames.length 4 (gl cs_Pose v11.1.Frames))])), (7, (.arr true v13.Frames.length 4 (gl cs_Pose v13.Frames))), (8, (.box [(.c (.int .i64 v13.Bones)), (.arr 7)])), (9, (.arr true v15.Turns.length 4 (gl cs_Turn v15.Turns))), (10, (.box [(.c (.flt .f32 v15.Root.X.bits)), (.c (.flt .f32 v15.Root.Y.bits)), (.c (.flt .f32 v15.Root.Z.bits)), (.arr 9)])), (11, (.arr true v17.1.Frames.length 4 (gl cs_Pose v17.1.Frames))), (12, (.box [(.c (.int .i64 v17.1.Bones)), (.arr 11)]))]⟩) (ob := True ∧ True ∧ ((((((.int .i64 v17.1.Bones) : C) = (.int .i64 v17.1.Bones)) ∧ (((sl 4 cs_Pose v17.1.Frames) : C) = (sl 4 cs_Pose v17.1.Frames)) ∧ True) ∧ ((((.int .i64 v11.1.Bones) : C) = (.int .i64 v11.1.Bones)) ∧ (((sl 4 cs_Pose v11.1.Frames) : C) = (sl 4 cs_Pose v11.1.Frames)) ∧ True) ∧ True) ∧ CallOK Try.prog 25 [.agg (cs_Recording v17.1), .agg (cs_Recording v11.1)] [.one (.bool v19)]) ∧ True ∧ (True ∧ (!v19) = true) ∧ True ∧ True ∧ True ∧ True ∧ True) (by kernel_rfl) ⟨trivial, trivial, ⟨⟨⟨rfl, rfl, trivial⟩, ⟨rfl, rfl, trivial⟩, trivial⟩, ok_laws_eqRecording K v17.1 v11.1 v19 e20⟩, trivial, ⟨trivial, b21⟩, trivial, trivial, trivial, trivial, trivial⟩ ⟨rfl, rfl⟩
        · replace e23 := some_eq e23
          subst e23
          exact AW.regionA [.no, .no, .call [.agg (cs_Recording v17.1), .agg (cs_Recording v11.1)] [.one (.bool v19)] [[.view]], .no, .dec false] [2, 3, 6, 7, 8, 9, 10, 11, 53] [1, 2, 5, 6, 7, 8, 9, 10, 11, 12] (s' := ⟨[(2, (.v (.one (.ptr 1 0)))), (3, (.v (.one (.ptr 2 0)))), (6, (.v (.one (.ptr 6 0)))), (7, (.v (.one (.c (.bool v11.2))))), (8, (.v (.one (.ptr 8 0)))), (9, (.v (.one (.ptr 10 0)))), (10, (.v (.one (.ptr 12 0)))), (11, (.v (.one (.c (.bool v17.2))))), (53, (.v (.one (.c (.bool (!(v17.2 == v11.2)))))))], [(1, (.box [(.c (.int .i64 a0.Bones)), (.c (sl 4 cs_Pose a0.Frames))])), (2, (.box [(.c (.flt .f32 a1.Root.X.bits)), (.c (.flt .f32 a1.Root.Y.bits)), (.c (.flt .f32 a1.Root.Z.bits)), (.c (sl 4 cs_Turn a1.Turns))])), (5, (.lst v11.1.Frames.length 4 (gl cs_Pose v11.1.Frames))), (6, (.box [(.c (.int .i64 v11.1.Bones)), (.lst 5 v11.1.Frames.length 4 (gl cs_Pose v11.1.Frames))])), (7, (.arr true v13.Frames.length 4 (gl cs_Pose v13.Frames))), (8, (.box [(.c (.int .i64 v13.Bones)), (.arr 7)])), (9, (.arr true v15.Turns.length 4 (gl cs_Turn v15.Turns))), (10, (.box [(.c (.flt .f32 v15.Root.X.bits)), (.c (.flt .f32 v15.Root.Y.bits)), (.c (.flt .f32 v15.Root.Z.bits)), (.arr 9)])), (11, (.arr true v17.1.Frames.length 4 (gl cs_Pose v17.1.Frames))), (12, (.box [(.c (.int .i64 v17.1.Bones)), (.arr 11)]))]⟩) (ob := True ∧ True ∧ ((((((.int .i64 v17.1.Bones) : C) = (.int .i64 v17.1.Bones)) ∧ (((sl 4 cs_Pose v17.1.Frames) : C) = (sl 4 cs_Pose v17.1.Frames)) ∧ True) ∧ ((((.int .i64 v11.1.Bones) : C) = (.int .i64 v11.1.Bones)) ∧ (((sl 4 cs_Pose v11.1.Frames) : C) = (sl 4 cs_Pose v11.1.Frames)) ∧ True) ∧ True) ∧ CallOK Try.prog 25 [.agg (cs_Recording v17.1), .agg (cs_Recording v11.1)] [.one (.bool v19)]) ∧ True ∧ (True ∧ (!v19) = false) ∧ True ∧ True ∧ True ∧ True ∧ True) (by kernel_rfl) ⟨trivial, trivial, ⟨⟨⟨rfl, rfl, trivial⟩, ⟨rfl, rfl, trivial⟩, trivial⟩, ok_laws_eqRecording K v17.1 v11.1 v19 e20⟩, trivial, ⟨trivial, b21⟩, trivial, trivial, trivial, trivial, trivial⟩ ⟨rfl, rfl⟩
      refine thenQ_normal ?_
      rcases ite2_cases h with ⟨b24, h⟩ | ⟨b24, h⟩
      · refine AW.cond_t rfl b24 ?_
        refine AW.seq ?_
        refine AW.regionA [] [4] [] (s' := ⟨[(4, (.v (.one (.c (.bool false)))))], []⟩) (ob := True ∧ True) (by kernel_rfl) ⟨trivial, trivial⟩ ?_
        refine thenQ_normal ?_
        refine AW.ret ?_
        refine thenQ_ret ?_
        replace h := some_eq h
        subst h
        exact ⟨.inr rfl, retOK_of [(.one (.c (.bool false)))] (by kernel_rfl) ⟨⟨rfl, trivial⟩, trivial⟩ (of_decide_eq_true (by kernel_rfl))⟩
      · refine AW.cond_f rfl b24 ?_
        refine AW.skip ?_
        refine thenQ_normal ?_
        refine AW.seq ?_
        refine AW.seq ?_
        obtain ⟨v25, e26, h⟩ := bind_some h
        obtain ⟨v27, e28, h⟩ := bind_some h
        refine AW.drawnA (by kernel_rfl) 5 [.no, .no, .call [.agg (cs_Recording a0)] [.agg (cs_Recording v25)] [[.view, .lst 13]], .call [.agg (cs_Recording v13), .agg (cs_Recording v25)] [.one (.bool v27)] [[.view]]] [2, 3, 6, 7, 8, 9, 10, 11, 58] [1, 2, 5, 6, 7, 8, 9, 10, 11, 12] (s' := ⟨[(2, (.v (.one (.ptr 1 0)))), (3, (.v (.one (.ptr 2 0)))), (6, (.v (.one (.ptr 6 0)))), (7, (.v (.one (.c (.bool v11.2))))), (8, (.v (.one (.ptr 8 0)))), (9, (.v (.one (.ptr 10 0)))), (10, (.v (.one (.ptr 12 0)))), (11, (.v (.one (.c (.bool v17.2))))), (58, (.v (.one (.c (.bool (!v27))))))], [(1, (.box [(.c (.int .i64 a0.Bones)), (.c (sl 4 cs_Pose a0.Frames))])), (2, (.box [(.c (.flt .f32 a1.Root.X.bits)), (.c (.flt .f32 a1.Root.Y.bits)), (.c (.flt .f32 a1.Root.Z.bits)), (.c (sl 4 cs_Turn a1.Turns))])), (5, (.lst v11.1.Frames.length 4 (gl cs_Pose v11.1.Frames))), (6, (.box [(.c (.int .i64 v11.1.Bones)), (.lst 5 v11.1.Frames.length 4 (gl cs_Pose v11.1.Frames))])), (7, (.arr true v13.Frames.length 4 (gl cs_Pose v13.Frames))), (8, (.box [(.c (.int .i64 v13.Bones)), (.arr 7)])), (9, (.arr true v15.Turns.length 4 (gl cs_Turn v15.Turns))), (10, (.box [(.c (.flt .f32 v15.Root.X.bits)), (.c (.flt .f32 v15.Root.Y.bits)), (.c (.flt .f32 v15.Root.Z.bits)), (.arr 9)])), (11, (.arr true v17.1.Frames.length 4 (gl cs_Pose v17.1.Frames))), (12, (.box [(.c (.int .i64 v17.1.Bones)), (.arr 11)]))]⟩) (ob := (True ∧ True ∧ ((((((.int .i64 a0.Bones) : C) = (.int .i64 a0.Bones)) ∧ (((sl 4 cs_Pose a0.Frames) : C) = (sl 4 cs_Pose a0.Frames)) ∧ True) ∧ True) ∧ CallOK Try.prog 23 [.agg (cs_Recording a0)] [.agg (cs_Recording v25)]) ∧ ((((((.int .i64 v13.Bones) : C) = (.int .i64 v13.Bones)) ∧ (((sl 4 cs_Pose v13.Frames) : C) = (sl 4 cs_Pose v13.Frames)) ∧ True) ∧ ((((.int .i64 v25.Bones) : C) = (.int .i64 v25.Bones)) ∧ (((sl 4 cs_Pose v25.Frames) : C) = (sl 4 cs_Pose v25.Frames)) ∧ True) ∧ True) ∧ CallOK Try.prog 25 [.agg (cs_Recording v13), .agg (cs_Recording v25)] [.one (.bool v27)]) ∧ True ∧ True) ∧ (True)) (by kernel_rfl) ⟨⟨trivial, trivial, ⟨⟨⟨rfl, rfl, trivial⟩, trivial⟩, ok_laws_toRecording K a0 v25 e26⟩, ⟨⟨⟨rfl, rfl, trivial⟩, ⟨rfl, rfl, trivial⟩, trivial⟩, ok_laws_eqRecording K v13 v25 v27 e28⟩, trivial, trivial⟩, trivial⟩ ?_
        refine thenQ_normal ?_
        rcases ite2_cases h with ⟨b29, h⟩ | ⟨b29, h⟩
        · refine AW.cond_t rfl b29 ?_
          refine AW.seq ?_
          refine AW.regionA [] [4] [] (s' := ⟨[(4, (.v (.one (.c (.bool false)))))], []⟩) (ob := True ∧ True) (by kernel_rfl) ⟨trivial, trivial⟩ ?_
          refine thenQ_normal ?_
          refine AW.ret ?_
          refine thenQ_ret ?_
          replace h := some_eq h
          subst h
          exact ⟨.inr rfl, retOK_of [(.one (.c (.bool false)))] (by kernel_rfl) ⟨⟨rfl, trivial⟩, trivial⟩ (of_decide_eq_true (by kernel_rfl))⟩
        · refine AW.cond_f rfl b29 ?_
          refine AW.skip ?_
          refine thenQ_normal ?_
          refine AW.seq ?_
          refine AW.seq ?_
          obtain ⟨v30, e31, h⟩ := bind_some h
          obtain ⟨v32, e33, h⟩ := bind_some h
          refine AW.drawnA (by kernel_rfl) 5 [.no, .no, .call [.agg (cs_Pose a1)] [.agg (cs_Pose v30)] [[.view, .view, .view, .lst 14]], .call [.agg (cs_Pose v15), .agg (cs_Pose v30)] [.one (.bool v32)] [[.view]]] [2, 3, 6, 7, 8, 9, 10, 11, 63] [1, 2, 5, 6, 7, 8, 9, 10, 11, 12] (s' := ⟨[(2, (.v (.one (.ptr 1 0)))), (3, (.v (.one (.ptr 2 0)))), (6, (.v (.one (.ptr 6 0)))), (7, (.v (.one (.c (.bool v11.2))))), (8, (.v (.one (.ptr 8 0)))), (9, (.v (.one (.ptr 10 0)))), (10, (.v (.one (.ptr 12 0)))), (11, (.v (.one (.c (.bool v17.2))))), (63, (.v (.one (.c (.bool (!v32))))))], [(1, (.box [(.c (.int .i64 a0.Bones)), (.c (sl 4 cs_Pose a0.Frames))])), (2, (.box [(.c (.flt .f32 a1.Root.X.bits)), (.c (.flt .f32 a1.Root.Y.bits)), (.c (.flt .f32 a1.Root.Z.bits)), (.c (sl 4 cs_Turn a1.Turns))])), (5, (.lst v11.1.Frames.length 4 (gl cs_Pose v11.1.Frames))), (6, (.box [(.c (.int .i64 v11.1.Bones)), (.lst 5 v11.1.Frames.length 4 (gl cs_Pose v11.1.Frames))])), (7, (.arr true v13.Frames.length 4 (gl cs_Pose v13.Frames))), (8, (.box [(.c (.int .i64 v13.Bones)), (.arr 7)])), (9, (.arr true v15.Turns.length 4 (gl cs_Turn v15.Turns))), (10, (.box [(.c (.flt .f32 v15.Root.X.bits)), (.c (.flt .f32 v15.Root.Y.bits)), (.c (.flt .f32 v15.Root.Z.bits)), (.arr 9)])), (11, (.arr true v17.1.Frames.length 4 (gl cs_Pose v17.1.Frames))), (12, (.box [(.c (.int .i64 v17.1.Bones)), (.arr 11)]))]⟩) (ob := (True ∧ True ∧ ((((((.flt .f32 a1.Root.X.bits) : C) = (.flt .f32 a1.Root.X.bits)) ∧ (((.flt .f32 a1.Root.Y.bits) : C) = (.flt .f32 a1.Root.Y.bits)) ∧ (((.flt .f32 a1.Root.Z.bits) : C) = (.flt .f32 a1.Root.Z.bits)) ∧ (((sl 4 cs_Turn a1.Turns) : C) = (sl 4 cs_Turn a1.Turns)) ∧ True) ∧ True) ∧ CallOK Try.prog 34 [.agg (cs_Pose a1)] [.agg (cs_Pose v30)]) ∧ ((((((.flt .f32 v15.Root.X.bits) : C) = (.flt .f32 v15.Root.X.bits)) ∧ (((.flt .f32 v15.Root.Y.bits) : C) = (.flt .f32 v15.Root.Y.bits)) ∧ (((.flt .f32 v15.Root.Z.bits) : C) = (.flt .f32 v15.Root.Z.bits)) ∧ (((sl 4 cs_Turn v15.Turns) : C) = (sl 4 cs_Turn v15.Turns)) ∧ True) ∧ ((((.flt .f32 v30.Root.X.bits) : C) = (.flt .f32 v30.Root.X.bits)) ∧ (((.flt .f32 v30.Root.Y.bits) : C) = (.flt .f32 v30.Root.Y.bits)) ∧ (((.flt .f32 v30.Root.Z.bits) : C) = (.flt .f32 v30.Root.Z.bits)) ∧ (((sl 4 cs_Turn v30.Turns) : C) = (sl 4 cs_Turn v30.Turns)) ∧ True) ∧ True) ∧ CallOK Try.prog 36 [.agg (cs_Pose v15), .agg (cs_Pose v30)] [.one (.bool v32)]) ∧ True ∧ True) ∧ (True)) (by kernel_rfl) ⟨⟨trivial, trivial, ⟨⟨⟨rfl, rfl, rfl, rfl, trivial⟩, trivial⟩, ok_laws_toPose K a1 v30 e31⟩, ⟨⟨⟨rfl, rfl, rfl, rfl, trivial⟩, ⟨rfl, rfl, rfl, rfl, trivial⟩, trivial⟩, ok_laws_eqPose K v15 v30 v32 e33⟩, trivial, trivial⟩, trivial⟩ ?_
          refine thenQ_normal ?_
          rcases ite2_cases h with ⟨b34, h⟩ | ⟨b34, h⟩
          · refine AW.cond_t rfl b34 ?_
            refine AW.seq ?_
            refine AW.regionA [] [4] [] (s' := ⟨[(4, (.v (.one (.c (.bool false)))))], []⟩) (ob := True ∧ True) (by kernel_rfl) ⟨trivial, trivial⟩ ?_
            refine thenQ_normal ?_
            refine AW.ret ?_
            refine thenQ_ret ?_
            replace h := some_eq h
            subst h
            exact ⟨.inr rfl, retOK_of [(.one (.c (.bool false)))] (by kernel_rfl) ⟨⟨rfl, trivial⟩, trivial⟩ (of_decide_eq_true (by kernel_rfl))⟩
          · refine AW.cond_f rfl b34 ?_
            refine AW.skip ?_
            refine thenQ_normal ?_
            refine AW.seq ?_
            refine AW.regionA [] [2, 3, 6, 7, 8, 9, 10, 11, 12] [1, 2, 5, 6, 7, 8, 9, 10, 11, 12] (s' := ⟨[(2, (.v (.one (.ptr 1 0)))), (3, (.v (.one (.ptr 2 0)))), (6, (.v (.one (.ptr 6 0)))), (7, (.v (.one (.c (.bool v11.2))))), (8, (.v (.one (.ptr 8 0)))), (9, (.v (.one (.ptr 10 0)))), (10, (.v (.one (.ptr 12 0)))), (11, (.v (.one (.c (.bool v17.2))))), (12, (.v (.one (.c (.int .i64 (1 : Int))))))], [(1, (.box [(.c (.int .i64 a0.Bones)), (.c (sl 4 cs_Pose a0.Frames))])), (2, (.box [(.c (.flt .f32 a1.Root.X.bits)), (.c (.flt .f32 a1.Root.Y.bits)), (.c (.flt .f32 a1.Root.Z.bits)), (.c (sl 4 cs_Turn a1.Turns))])), (5, (.lst v11.1.Frames.length 4 (gl cs_Pose v11.1.Frames))), (6, (.box [(.c (.int .i64 v11.1.Bones)), (.lst 5 v11.1.Frames.length 4 (gl cs_Pose v11.1.Frames))])), (7, (.arr true v13.Frames.length 4 (gl cs_Pose v13.Frames))), (8, (.box [(.c (.int .i64 v13.Bones)), (.arr 7)])), (9, (.arr true v15.Turns.length 4 (gl cs_Turn v15.Turns))), (10, (.box [(.c (.flt .f32 v15.Root.X.bits)), (.c (.flt .f32 v15.Root.Y.bits)), (.c (.flt .f32 v15.Root.Z.bits)), (.arr 9)])), (11, (.arr true v17.1.Frames.length 4 (gl cs_Pose v17.1.Frames))), (12, (.box [(.c (.int .i64 v17.1.Bones)), (.arr 11)]))]⟩) (ob := True ∧ True) (by kernel_rfl) ⟨trivial, trivial⟩ ?_
            refine thenQ_normal ?_
            refine AW.seq ?_
            obtain ⟨v35, e36, h⟩ := bind_some h
            obtain ⟨c37, h⟩ := chk_some h
            refine AW.regionA [.no, .no, .callM [(.agg [(.ro (.int .i64 v13.Bones)), (.mu (sl 4 cs_Pose v13.Frames) (sl 4 cs_Pose v35.2))]), .one (.ro (.int .i64 (1 : Int)))] [.one (.int .i64 v35.1)] [[.view]] none] [2, 3, 6, 7, 9, 10, 11, 12] [1, 2, 5, 6, 9, 10, 11, 12] (s' := ⟨[(2, (.v (.one (.ptr 1 0)))), (3, (.v (.one (.ptr 2 0)))), (6, (.v (.one (.ptr 6 0)))), (7, (.v (.one (.c (.bool v11.2))))), (9, (.v (.one (.ptr 10 0)))), (10, (.v (.one (.ptr 12 0)))), (11, (.v (.one (.c (.bool v17.2))))), (12, (.v (.one (.c (.int .i64 v35.1)))))], [(1, (.box [(.c (.int .i64 a0.Bones)), (.c (sl 4 cs_Pose a0.Frames))])), (2, (.box [(.c (.flt .f32 a1.Root.X.bits)), (.c (.flt .f32 a1.Root.Y.bits)), (.c (.flt .f32 a1.Root.Z.bits)), (.c (sl 4 cs_Turn a1.Turns))])), (5, (.lst v11.1.Frames.length 4 (gl cs_Pose v11.1.Frames))), (6, (.box [(.c (.int .i64 v11.1.Bones)), (.lst 5 v11.1.Frames.length 4 (gl cs_Pose v11.1.Frames))])), (9, (.arr true v15.Turns.length 4 (gl cs_Turn v15.Turns))), (10, (.box [(.c (.flt .f32 v15.Root.X.bits)), (.c (.flt .f32 v15.Root.Y.bits)), (.c (.flt .f32 v15.Root.Z.bits)), (.arr 9)])), (11, (.arr true v17.1.Frames.length 4 (gl cs_Pose v17.1.Frames))), (12, (.box [(.c (.int .i64 v17.1.Bones)), (.arr 11)]))]⟩) (ob := True ∧ True ∧ ((((((.int .i64 v13.Bones) : C) = (.int .i64 v13.Bones)) ∧ (((sl 4 cs_Pose v13.Frames) : C) = (sl 4 cs_Pose v13.Frames) ∧ v35.2.length = v13.Frames.length ∧ 4 = 4 ∧ ∀ i j, i < v13.Frames.length → j < 4 → isSeq (gl cs_Pose v35.2 i j) = isSeq (gl cs_Pose v13.Frames i j)) ∧ True) ∧ (((.int .i64 (1 : Int)) : C) = (.int .i64 (1 : Int))) ∧ True) ∧ MutOK Try.prog 26 [(.agg [(.ro (.int .i64 v13.Bones)), (.mu (sl 4 cs_Pose v13.Frames) (sl 4 cs_Pose v35.2))]), .one (.ro (.int .i64 (1 : Int)))] [.one (.int .i64 v35.1)]) ∧ True ∧ True) (by kernel_rfl) ⟨trivial, trivial, ⟨⟨⟨rfl, ⟨rfl, c37, rfl, gl_seq sq_Pose⟩, trivial⟩, rfl, trivial⟩, ok_laws_markRecording K v13 (1 : Int) v35 e36⟩, trivial, trivial⟩ ?_
            refine thenQ_normal ?_
            refine AW.seq ?_
            obtain ⟨v38, e39, h⟩ := bind_some h
            obtain ⟨c40, h⟩ := chk_some h
            refine AW.regionA [.no, .no, .callM [(.agg [(.ro (.flt .f32 v15.Root.X.bits)), (.ro (.flt .f32 v15.Root.Y.bits)), (.ro (.flt .f32 v15.Root.Z.bits)), (.mu (sl 4 cs_Turn v15.Turns) (sl 4 cs_Turn v38.2))]), .one (.ro (.int .i64 v35.1))] [.one (.int .i64 v38.1)] [[.view]] none] [2, 3, 6, 7, 10, 11, 12] [1, 2, 5, 6, 11, 12] (s' := ⟨[(2, (.v (.one (.ptr 1 0)))), (3, (.v (.one (.ptr 2 0)))), (6, (.v (.one (.ptr 6 0)))), (7, (.v (.one (.c (.bool v11.2))))), (10, (.v (.one (.ptr 12 0)))), (11, (.v (.one (.c (.bool v17.2))))), (12, (.v (.one (.c (.int .i64 v38.1)))))], [(1, (.box [(.c (.int .i64 a0.Bones)), (.c (sl 4 cs_Pose a0.Frames))])), (2, (.box [(.c (.flt .f32 a1.Root.X.bits)), (.c (.flt .f32 a1.Root.Y.bits)), (.c (.flt .f32 a1.Root.Z.bits)), (.c (sl 4 cs_Turn a1.Turns))])), (5, (.lst v11.1.Frames.length 4 (gl cs_Pose v11.1.Frames))), (6, (.box [(.c (.int .i64 v11.1.Bones)), (.lst 5 v11.1.Frames.length 4 (gl cs_Pose v11.1.Frames))])), (11, (.arr true v17.1.Frames.length 4 (gl cs_Pose v17.1.Frames))), (12, (.box [(.c (.int .i64 v17.1.Bones)), (.arr 11)]))]⟩) (ob := True ∧ True ∧ ((((((.flt .f32 v15.Root.X.bits) : C) = (.flt .f32 v15.Root.X.bits)) ∧ (((.flt .f32 v15.Root.Y.bits) : C) = (.flt .f32 v15.Root.Y.bits)) ∧ (((.flt .f32 v15.Root.Z.bits) : C) = (.flt .f32 v15.Root.Z.bits)) ∧ (((sl 4 cs_Turn v15.Turns) : C) = (sl 4 cs_Turn v15.Turns) ∧ v38.2.length = v15.Turns.length ∧ 4 = 4 ∧ ∀ i j, i < v15.Turns.length → j < 4 → isSeq (gl cs_Turn v38.2 i j) = isSeq (gl cs_Turn v15.Turns i j)) ∧ True) ∧ (((.int .i64 v35.1) : C) = (.int .i64 v35.1)) ∧ True) ∧ MutOK Try.prog 37 [(.agg [(.ro (.flt .f32 v15.Root.X.bits)), (.ro (.flt .f32 v15.Root.Y.bits)), (.ro (.flt .f32 v15.Root.Z.bits)), (.mu (sl 4 cs_Turn v15.Turns) (sl 4 cs_Turn v38.2))]), .one (.ro (.int .i64 v35.1))] [.one (.int .i64 v38.1)]) ∧ True ∧ True) (by kernel_rfl) ⟨trivial, trivial, ⟨⟨⟨rfl, rfl, rfl, ⟨rfl, c40, rfl, gl_seq sq_Turn⟩, trivial⟩, rfl, trivial⟩, ok_laws_markPose K v15 v35.1 v38 e39⟩, trivial, trivial⟩ ?_
            refine thenQ_normal ?_
            refine AW.seq ?_
            refine AW.seq ?_
            obtain ⟨j45, e46, h⟩ := bind_some h
            refine AW.join1 (s2 := ⟨[(2, (.v (.one (.ptr 1 0)))), (3, (.v (.one (.ptr 2 0)))), (6, (.v (.one (.ptr 6 0)))), (7, (.v (.one (.c (.bool v11.2))))), (10, (.v (.one (.ptr 12 0)))), (82, (.v (.one (.c (.bool j45)))))], [(1, (.box [(.c (.int .i64 a0.Bones)), (.c (sl 4 cs_Pose a0.Frames))])), (2, (.box [(.c (.flt .f32 a1.Root.X.bits)), (.c (.flt .f32 a1.Root.Y.bits)), (.c (.flt .f32 a1.Root.Z.bits)), (.c (sl 4 cs_Turn a1.Turns))])), (5, (.lst v11.1.Frames.length 4 (gl cs_Pose v11.1.Frames))), (6, (.box [(.c (.int .i64 v11.1.Bones)), (.lst 5 v11.1.Frames.length 4 (gl cs_Pose v11.1.Frames))])), (11, (.arr true v17.1.Frames.length 4 (gl cs_Pose v17.1.Frames))), (12, (.box [(.c (.int .i64 v17.1.Bones)), (.arr 11)]))]⟩) ?_ ?_
            · rcases ite2_cases e46 with ⟨b41, e46⟩ | ⟨b41, e46⟩
              · replace e46 := some_eq e46
                subst e46
                exact AW.regionA [.no, .no, .dec true] [2, 3, 6, 7, 10, 82] [1, 2, 5, 6, 11, 12] (s' := ⟨[(2, (.v (.one (.ptr 1 0)))), (3, (.v (.one (.ptr 2 0)))), (6, (.v (.one (.ptr 6 0)))), (7, (.v (.one (.c (.bool v11.2))))), (10, (.v (.one (.ptr 12 0)))), (82, (.v (.one (.c (.bool true)))))], [(1, (.box [(.c (.int .i64 a0.Bones)), (.c (sl 4 cs_Pose a0.Frames))])), (2, (.box [(.c (.flt .f32 a1.Root.X.bits)), (.c (.flt .f32 a1.Root.Y.bits)), (.c (.flt .f32 a1.Root.Z.bits)), (.c (sl 4 cs_Turn a1.Turns))])), (5, (.lst v11.1.Frames.length 4 (gl cs_Pose v11.1.Frames))), (6, (.box [(.c (.int .i64 v11.1.Bones)), (.lst 5 v11.1.Frames.length 4 (gl cs_Pose v11.1.Frames))])), (11, (.arr true v17.1.Frames.length 4 (gl cs_Pose v17.1.Frames))), (12, (.box [(.c (.int .i64 v17.1.Bones)), (.arr 11)]))]⟩) (ob := True ∧ True ∧ (True ∧ (decide (v38.1 < (0 : Int))) = true) ∧ True ∧ True ∧ True ∧ True ∧ True ∧ True ∧ True ∧ True ∧ True ∧ True ∧ True) (by kernel_rfl) ⟨trivial, trivial, ⟨trivial, b41⟩, trivial, trivial, trivial, trivial, trivial, trivial, trivial, trivial, trivial, trivial, trivial⟩ ⟨rfl, rfl⟩
              · obtain ⟨v42, e43, e46⟩ := bind_some e46
                rcases ite2_cases e46 with ⟨b44, e46⟩ | ⟨b44, e46⟩
                · replace e46 := some_eq e46
                  subst e46
                  exact AW.regionA [.no, .no, .dec false, .no, .no, .call [.agg (cs_Recording v17.1), .agg (cs_Recording v11.1)] [.one (.bool v42)] [[.view]], .no, .no, .dec true] [2, 3, 6, 7, 10, 82] [1, 2, 5, 6, 11, 12] (s' := ⟨[(2, (.v (.one (.ptr 1 0)))), (3, (.v (.one (.ptr 2 0)))), (6, (.v (.one (.ptr 6 0)))), (7, (.v (.one (.c (.bool v11.2))))), (10, (.v (.one (.ptr 12 0)))), (82, (.v (.one (.c (.bool true)))))], [(1, (.box [(.c (.int .i64 a0.Bones)), (.c (sl 4 cs_Pose a0.Frames))])), (2, (.box [(.c (.flt .f32 a1.Root.X.bits)), (.c (.flt .f32 a1.Root.Y.bits)), (.c (.flt .f32 a1.Root.Z.bits)), (.c (sl 4 cs_Turn a1.Turns))])), (5, (.lst v11.1.Frames.length 4 (gl cs_Pose v11.1.Frames))), (6, (.box [(.c (.int .i64 v11.1.Bones)), (.lst 5 v11.1.Frames.length 4 (gl cs_Pose v11.1.Frames))])), (11, (.arr true v17.1.Frames.length 4 (gl cs_Pose v17.1.Frames))), (12, (.box [(.c (.int .i64 v17.1.Bones)), (.arr 11)]))]⟩) (ob := True ∧ True ∧ (True ∧ (decide (v38.1 < (0 : Int))) = false) ∧ True ∧ True ∧ ((((((.int .i64 v17.1.Bones) : C) = (.int .i64 v17.1.Bones)) ∧ (((sl 4 cs_Pose v17.1.Frames) : C) = (sl 4 cs_Pose v17.1.Frames)) ∧ True) ∧ ((((.int .i64 v11.1.Bones) : C) = (.int .i64 v11.1.Bones)) ∧ (((sl 4 cs_Pose v11.1.Frames) : C) = (sl 4 cs_Pose v11.1.Frames)) ∧ True) ∧ True) ∧ CallOK Try.prog 25 [.agg (cs_Recording v17.1), .agg (cs_Recording v11.1)] [.one (.bool v42)]) ∧ True ∧ True ∧ (True ∧ (!v42) = true) ∧ True ∧ True ∧ True ∧ True ∧ True) (by kernel_rfl) ⟨trivial, trivial, ⟨trivial, b41⟩, trivial, trivial, ⟨⟨⟨rfl, rfl, trivial⟩, ⟨rfl, rfl, trivial⟩, trivial⟩, ok_laws_eqRecording K v17.1 v11.1 v42 e43⟩, trivial, trivial, ⟨trivial, b44⟩, trivial, trivial, trivial, trivial, trivial⟩ ⟨rfl, rfl⟩
                · replace e46 := some_eq e46
                  subst e46
                  exact AW.regionA [.no, .no, .dec false, .no, .no, .call [.agg (cs_Recording v17.1), .agg (cs_Recording v11.1)] [.one (.bool v42)] [[.view]], .no, .no, .dec false] [2, 3, 6, 7, 10, 82] [1, 2, 5, 6, 11, 12] (s' := ⟨[(2, (.v (.one (.ptr 1 0)))), (3, (.v (.one (.ptr 2 0)))), (6, (.v (.one (.ptr 6 0)))), (7, (.v (.one (.c (.bool v11.2))))), (10, (.v (.one (.ptr 12 0)))), (82, (.v (.one (.c (.bool (!(v17.2 == v11.2)))))))], [(1, (.box [(.c (.int .i64 a0.Bones)), (.c (sl 4 cs_Pose a0.Frames))])), (2, (.box [(.c (.flt .f32 a1.Root.X.bits)), (.c (.flt .f32 a1.Root.Y.bits)), (.c (.flt .f32 a1.Root.Z.bits)), (.c (sl 4 cs_Turn a1.Turns))])), (5, (.lst v11.1.Frames.length 4 (gl cs_Pose v11.1.Frames))), (6, (.box [(.c (.int .i64 v11.1.Bones)), (.lst 5 v11.1.Frames.length 4 (gl cs_Pose v11.1.Frames))])), (11, (.arr true v17.1.Frames.length 4 (gl cs_Pose v17.1.Frames))), (12, (.box [(.c (.int .i64 v17.1.Bones)), (.arr 11)]))]⟩) (ob := True ∧ True ∧ (True ∧ (decide (v38.1 < (0 : Int))) = false) ∧ True ∧ True ∧ ((((((.int .i64 v17.1.Bones) : C) = (.int .i64 v17.1.Bones)) ∧ (((sl 4 cs_Pose v17.1.Frames) : C) = (sl 4 cs_Pose v17.1.Frames)) ∧ True) ∧ ((((.int .i64 v11.1.Bones) : C) = (.int .i64 v11.1.Bones)) ∧ (((sl 4 cs_Pose v11.1.Frames) : C) = (sl 4 cs_Pose v11.1.Frames)) ∧ True) ∧ True) ∧ CallOK Try.prog 25 [.agg (cs_Recording v17.1), .agg (cs_Recording v11.1)] [.one (.bool v42)]) ∧ True ∧ True ∧ (True ∧ (!v42) = false) ∧ True ∧ True ∧ True ∧ True ∧ True) (by kernel_rfl) ⟨trivial, trivial, ⟨trivial, b41⟩, trivial, trivial, ⟨⟨⟨rfl, rfl, trivial⟩, ⟨rfl, rfl, trivial⟩, trivial⟩, ok_laws_eqRecording K v17.1 v11.1 v42 e43⟩, trivial, trivial, ⟨trivial, b44⟩, trivial, trivial, trivial, trivial, trivial⟩ ⟨rfl, rfl⟩
            refine thenQ_normal ?_
            rcases ite2_cases h with ⟨b47, h⟩ | ⟨b47, h⟩
            · refine AW.cond_t rfl b47 ?_
              refine AW.seq ?_
              refine AW.regionA [] [4] [] (s' := ⟨[(4, (.v (.one (.c (.bool false)))))], []⟩) (ob := True ∧ True) (by kernel_rfl) ⟨trivial, trivial⟩ ?_
              refine thenQ_normal ?_
              refine AW.ret ?_
              refine thenQ_ret ?_
              replace h := some_eq h
              subst h
              exact ⟨.inr rfl, retOK_of [(.one (.c (.bool false)))] (by kernel_rfl) ⟨⟨rfl, trivial⟩, trivial⟩ (of_decide_eq_true (by kernel_rfl))⟩
            · refine AW.cond_f rfl b47 ?_
              refine AW.skip ?_
              refine thenQ_normal ?_
              refine AW.seq ?_
              refine AW.regionA [] [2, 3, 6, 7, 10, 13] [1, 2, 5, 6, 11, 12] (s' := ⟨[(2, (.v (.one (.ptr 1 0)))), (3, (.v (.one (.ptr 2 0)))), (6, (.v (.one (.ptr 6 0)))), (7, (.v (.one (.c (.bool v11.2))))), (10, (.v (.one (.ptr 12 0)))), (13, (.v (.one (.c (.int .i64 (1 : Int))))))], [(1, (.box [(.c (.int .i64 a0.Bones)), (.c (sl 4 cs_Pose a0.Frames))])), (2, (.box [(.c (.flt .f32 a1.Root.X.bits)), (.c (.flt .f32 a1.Root.Y.bits)), (.c (.flt .f32 a1.Root.Z.bits)), (.c (sl 4 cs_Turn a1.Turns))])), (5, (.lst v11.1.Frames.length 4 (gl cs_Pose v11.1.Frames))), (6, (.box [(.c (.int .i64 v11.1.Bones)), (.lst 5 v11.1.Frames.length 4 (gl cs_Pose v11.1.Frames))])), (11, (.arr true v17.1.Frames.length 4 (gl cs_Pose v17.1.Frames))), (12, (.box [(.c (.int .i64 v17.1.Bones)), (.arr 11)]))]⟩) (ob := True ∧ True) (by kernel_rfl) ⟨trivial, trivial⟩ ?_
              refine thenQ_normal ?_
              refine AW.seq ?_
              obtain ⟨v48, e49, h⟩ := bind_some h
              obtain ⟨c50, h⟩ := chk_some h
              refine AW.regionA [.no, .no, .callM [(.agg [(.ro (.int .i64 v17.1.Bones)), (.mu (sl 4 cs_Pose v17.1.Frames) (sl 4 cs_Pose v48.2))]), .one (.ro (.int .i64 (1 : Int)))] [.one (.int .i64 v48.1)] [[.view]] none] [2, 3, 6, 7, 10, 13] [1, 2, 5, 6, 11, 12] (s' := ⟨[(2, (.v (.one (.ptr 1 0)))), (3, (.v (.one (.ptr 2 0)))), (6, (.v (.one (.ptr 6 0)))), (7, (.v (.one (.c (.bool v11.2))))), (10, (.v (.one (.ptr 12 0)))), (13, (.v (.one (.c (.int .i64 v48.1)))))], [(1, (.box [(.c (.int .i64 a0.Bones)), (.c (sl 4 cs_Pose a0.Frames))])), (2, (.box [(.c (.flt .f32 a1.Root.X.bits)), (.c (.flt .f32 a1.Root.Y.bits)), (.c (.flt .f32 a1.Root.Z.bits)), (.c (sl 4 cs_Turn a1.Turns))])), (5, (.lst v11.1.Frames.length 4 (gl cs_Pose v11.1.Frames))), (6, (.box [(.c (.int .i64 v11.1.Bones)), (.lst 5 v11.1.Frames.length 4 (gl cs_Pose v11.1.Frames))])), (11, (.arr true v48.2.length 4 (gl cs_Pose v48.2))), (12, (.box [(.c (.int .i64 v17.1.Bones)), (.arr 11)]))]⟩) (ob := True ∧ True ∧ ((((((.int .i64 v17.1.Bones) : C) = (.int .i64 v17.1.Bones)) ∧ (((sl 4 cs_Pose v17.1.Frames) : C) = (sl 4 cs_Pose v17.1.Frames) ∧ v48.2.length = v17.1.Frames.length ∧ 4 = 4 ∧ ∀ i j, i < v17.1.Frames.length → j < 4 → isSeq (gl cs_Pose v48.2 i j) = isSeq (gl cs_Pose v17.1.Frames i j)) ∧ True) ∧ (((.int .i64 (1 : Int)) : C) = (.int .i64 (1 : Int))) ∧ True) ∧ MutOK Try.prog 26 [(.agg [(.ro (.int .i64 v17.1.Bones)), (.mu (sl 4 cs_Pose v17.1.Frames) (sl 4 cs_Pose v48.2))]), .one (.ro (.int .i64 (1 : Int)))] [.one (.int .i64 v48.1)]) ∧ True ∧ True) (by kernel_rfl) ⟨trivial, trivial, ⟨⟨⟨rfl, ⟨rfl, c50, rfl, gl_seq sq_Pose⟩, trivial⟩, rfl, trivial⟩, ok_laws_markRecording K v17.1 (1 : Int) v48 e49⟩, trivial, trivial⟩ ?_
              refine thenQ_normal ?_
              refine AW.seq ?_
              refine AW.regionA [] [2, 3, 6, 7, 10, 13, 14] [1, 2, 5, 6, 11, 12] (s' := ⟨[(2, (.v (.one (.ptr 1 0)))), (3, (.v (.one (.ptr 2 0)))), (6, (.v (.one (.ptr 6 0)))), (7, (.v (.one (.c (.bool v11.2))))), (10, (.v (.one (.ptr 12 0)))), (13, (.v (.one (.c (.int .i64 v48.1))))), (14, (.v (.one (.c (.int .i64 (1 : Int))))))], [(1, (.box [(.c (.int .i64 a0.Bones)), (.c (sl 4 cs_Pose a0.Frames))])), (2, (.box [(.c (.flt .f32 a1.Root.X.bits)), (.c (.flt .f32 a1.Root.Y.bits)), (.c (.flt .f32 a1.Root.Z.bits)), (.c (sl 4 cs_Turn a1.Turns))])), (5, (.lst v11.1.Frames.length 4 (gl cs_Pose v11.1.Frames))), (6, (.box [(.c (.int .i64 v11.1.Bones)), (.lst 5 v11.1.Frames.length 4 (gl cs_Pose v11.1.Frames))])), (11, (.arr true v48.2.length 4 (gl cs_Pose v48.2))), (12, (.box [(.c (.int .i64 v17.1.Bones)), (.arr 11)]))]⟩) (ob := True ∧ True) (by kernel_rfl) ⟨trivial, trivial⟩ ?_
              refine thenQ_normal ?_
              refine AW.seq ?_
              obtain ⟨v51, e52, h⟩ := bind_some h
              refine AW.regionA [.no, .no, .call [.agg (cs_Recording (Recording.mk v17.1.Bones v48.2)), .one (.int .i64 (1 : Int))] [.one (.int .i64 v51)] [[.view]]] [2, 3, 6, 7, 10, 13, 14] [1, 2, 5, 6, 11, 12] (s' := ⟨[(2, (.v (.one (.ptr 1 0)))), (3, (.v (.one (.ptr 2 0)))), (6, (.v (.one (.ptr 6 0)))), (7, (.v (.one (.c (.bool v11.2))))), (10, (.v (.one (.ptr 12 0)))), (13, (.v (.one (.c (.int .i64 v48.1))))), (14, (.v (.one (.c (.int .i64 v51)))))], [(1, (.box [(.c (.int .i64 a0.Bones)), (.c (sl 4 cs_Pose a0.Frames))])), (2, (.box [(.c (.flt .f32 a1.Root.X.bits)), (.c (.flt .f32 a1.Root.Y.bits)), (.c (.flt .f32 a1.Root.Z.bits)), (.c (sl 4 cs_Turn a1.Turns))])), (5, (.lst v11.1.Frames.length 4 (gl cs_Pose v11.1.Frames))), (6, (.box [(.c (.int .i64 v11.1.Bones)), (.lst 5 v11.1.Frames.length 4 (gl cs_Pose v11.1.Frames))])), (11, (.arr true v48.2.length 4 (gl cs_Pose v48.2))), (12, (.box [(.c (.int .i64 v17.1.Bones)), (.arr 11)]))]⟩) (ob := True ∧ True ∧ ((((((.int .i64 v17.1.Bones) : C) = (.int .i64 v17.1.Bones)) ∧ (((sl 4 cs_Pose v48.2) : C) = (sl 4 cs_Pose v48.2)) ∧ True) ∧ (((.int .i64 (1 : Int)) : C) = (.int .i64 (1 : Int))) ∧ True) ∧ CallOK Try.prog 27 [.agg (cs_Recording (Recording.mk v17.1.Bones v48.2)), .one (.int .i64 (1 : Int))] [.one (.int .i64 v51)]) ∧ True ∧ True) (by kernel_rfl) ⟨trivial, trivial, ⟨⟨⟨rfl, rfl, trivial⟩, rfl, trivial⟩, ok_laws_heldRecording K (Recording.mk v17.1.Bones v48.2) (1 : Int) v51 e52⟩, trivial, trivial⟩ ?_
              refine thenQ_normal ?_
              refine AW.seq ?_
              refine AW.seq ?_
              refine AW.regionA [] [2, 3, 6, 7, 10, 13, 14, 90] [1, 2, 5, 6, 11, 12] (s' := ⟨[(2, (.v (.one (.ptr 1 0)))), (3, (.v (.one (.ptr 2 0)))), (6, (.v (.one (.ptr 6 0)))), (7, (.v (.one (.c (.bool v11.2))))), (10, (.v (.one (.ptr 12 0)))), (13, (.v (.one (.c (.int .i64 v48.1))))), (14, (.v (.one (.c (.int .i64 v51))))), (90, (.v (.one (.c (.bool (decide (v51 < (0 : Int))))))))], [(1, (.box [(.c (.int .i64 a0.Bones)), (.c (sl 4 cs_Pose a0.Frames))])), (2, (.box [(.c (.flt .f32 a1.Root.X.bits)), (.c (.flt .f32 a1.Root.Y.bits)), (.c (.flt .f32 a1.Root.Z.bits)), (.c (sl 4 cs_Turn a1.Turns))])), (5, (.lst v11.1.Frames.length 4 (gl cs_Pose v11.1.Frames))), (6, (.box [(.c (.int .i64 v11.1.Bones)), (.lst 5 v11.1.Frames.length 4 (gl cs_Pose v11.1.Frames))])), (11, (.arr true v48.2.length 4 (gl cs_Pose v48.2))), (12, (.box [(.c (.int .i64 v17.1.Bones)), (.arr 11)]))]⟩) (ob := True ∧ True ∧ True) (by kernel_rfl) ⟨trivial, trivial, trivial⟩ ?_
              refine thenQ_normal ?_
              rcases ite2_cases h with ⟨b53, h⟩ | ⟨b53, h⟩
              · refine AW.cond_t rfl b53 ?_
                refine AW.seq ?_
                refine AW.regionA [] [4] [] (s' := ⟨[(4, (.v (.one (.c (.bool false)))))], []⟩) (ob := True ∧ True) (by kernel_rfl) ⟨trivial, trivial⟩ ?_
                refine thenQ_normal ?_
                refine AW.ret ?_
                refine thenQ_ret ?_
                replace h := some_eq h
                subst h
                exact ⟨.inr rfl, retOK_of [(.one (.c (.bool false)))] (by kernel_rfl) ⟨⟨rfl, trivial⟩, trivial⟩ (of_decide_eq_true (by kernel_rfl))⟩
              · refine AW.cond_f rfl b53 ?_
                refine AW.skip ?_
                refine thenQ_normal ?_
                refine AW.seq ?_
                refine AW.seq ?_
                refine AW.regionA [] [2, 3, 6, 7, 10, 13, 93] [1, 2, 5, 6, 11, 12] (s' := ⟨[(2, (.v (.one (.ptr 1 0)))), (3, (.v (.one (.ptr 2 0)))), (6, (.v (.one (.ptr 6 0)))), (7, (.v (.one (.c (.bool v11.2))))), (10, (.v (.one (.ptr 12 0)))), (13, (.v (.one (.c (.int .i64 v48.1))))), (93, (.v (.one (.c (.bool (v51 != v48.1))))))], [(1, (.box [(.c (.int .i64 a0.Bones)), (.c (sl 4 cs_Pose a0.Frames))])), (2, (.box [(.c (.flt .f32 a1.Root.X.bits)), (.c (.flt .f32 a1.Root.Y.bits)), (.c (.flt .f32 a1.Root.Z.bits)), (.c (sl 4 cs_Turn a1.Turns))])), (5, (.lst v11.1.Frames.length 4 (gl cs_Pose v11.1.Frames))), (6, (.box [(.c (.int .i64 v11.1.Bones)), (.lst 5 v11.1.Frames.length 4 (gl cs_Pose v11.1.Frames))])), (11, (.arr true v48.2.length 4 (gl cs_Pose v48.2))), (12, (.box [(.c (.int .i64 v17.1.Bones)), (.arr 11)]))]⟩) (ob := True ∧ True ∧ True ∧ True) (by kernel_rfl) ⟨trivial, trivial, trivial, trivial⟩ ?_
                refine thenQ_normal ?_
                rcases ite2_cases h with ⟨b54, h⟩ | ⟨b54, h⟩
                · refine AW.cond_t rfl b54 ?_
                  refine AW.seq ?_
                  refine AW.regionA [] [4] [] (s' := ⟨[(4, (.v (.one (.c (.bool false)))))], []⟩) (ob := True ∧ True) (by kernel_rfl) ⟨trivial, trivial⟩ ?_
                  refine thenQ_normal ?_
                  refine AW.ret ?_
                  refine thenQ_ret ?_
                  replace h := some_eq h
                  subst h
                  exact ⟨.inr rfl, retOK_of [(.one (.c (.bool false)))] (by kernel_rfl) ⟨⟨rfl, trivial⟩, trivial⟩ (of_decide_eq_true (by kernel_rfl))⟩
                · refine AW.cond_f rfl b54 ?_
                  refine AW.skip ?_
                  refine thenQ_normal ?_
                  refine AW.seq ?_
                  obtain ⟨v55, e56, h⟩ := bind_some h
                  obtain ⟨v57, e58, h⟩ := bind_some h
                  obtain ⟨v59, e60, h⟩ := bind_some h
                  refine AW.lateA (by kernel_rfl) 9 7 [.no, .call [.agg (cs_Recording a0)] [.agg (cs_Recording v55)] [[.view, .lst 15]], .no, .call [.agg (cs_Pose a1)] [.agg (cs_Pose v57)] [[.view, .view, .view, .lst 16]], .call [.agg (cs_Recording v55), .agg (cs_Pose v57)] [.agg (cs_Recording v59.1), .one (.bool v59.2)] [[.view, .lst 17], [.view]], .no, .no, .no, .box 18] [6, 7, 10, 13, 15, 16] [5, 6, 11, 12, 17, 18] (s' := ⟨[(6, (.v (.one (.ptr 6 0)))), (7, (.v (.one (.c (.bool v11.2))))), (10, (.v (.one (.ptr 12 0)))), (13, (.v (.one (.c (.int .i64 v48.1))))), (15, (.v (.one (.ptr 18 0)))), (16, (.v (.one (.c (.bool v59.2)))))], [(5, (.lst v11.1.Frames.length 4 (gl cs_Pose v11.1.Frames))), (6, (.box [(.c (.int .i64 v11.1.Bones)), (.lst 5 v11.1.Frames.length 4 (gl cs_Pose v11.1.Frames))])), (11, (.arr true v48.2.length 4 (gl cs_Pose v48.2))), (12, (.box [(.c (.int .i64 v17.1.Bones)), (.arr 11)])), (17, (.lst v59.1.Frames.length 4 (gl cs_Pose v59.1.Frames))), (18, (.box [(.c (.int .i64 v59.1.Bones)), (.lst 17 v59.1.Frames.length 4 (gl cs_Pose v59.1.Frames))]))]⟩) (ob := (True ∧ ((((((.int .i64 a0.Bones) : C) = (.int .i64 a0.Bones)) ∧ (((sl 4 cs_Pose a0.Frames) : C) = (sl 4 cs_Pose a0.Frames)) ∧ True) ∧ True) ∧ CallOK Try.prog 23 [.agg (cs_Recording a0)] [.agg (cs_Recording v55)]) ∧ True ∧ ((((((.flt .f32 a1.Root.X.bits) : C) = (.flt .f32 a1.Root.X.bits)) ∧ (((.flt .f32 a1.Root.Y.bits) : C) = (.flt .f32 a1.Root.Y.bits)) ∧ (((.flt .f32 a1.Root.Z.bits) : C) = (.flt .f32 a1.Root.Z.bits)) ∧ (((sl 4 cs_Turn a1.Turns) : C) = (sl 4 cs_Turn a1.Turns)) ∧ True) ∧ True) ∧ CallOK Try.prog 34 [.agg (cs_Pose a1)] [.agg (cs_Pose v57)]) ∧ ((((((.int .i64 v55.Bones) : C) = (.int .i64 v55.Bones)) ∧ (((sl 4 cs_Pose v55.Frames) : C) = (sl 4 cs_Pose v55.Frames)) ∧ True) ∧ ((((.flt .f32 v57.Root.X.bits) : C) = (.flt .f32 v57.Root.X.bits)) ∧ (((.flt .f32 v57.Root.Y.bits) : C) = (.flt .f32 v57.Root.Y.bits)) ∧ (((.flt .f32 v57.Root.Z.bits) : C) = (.flt .f32 v57.Root.Z.bits)) ∧ (((sl 4 cs_Turn v57.Turns) : C) = (sl 4 cs_Turn v57.Turns)) ∧ True) ∧ True) ∧ CallOK Try.prog 35 [.agg (cs_Recording v55), .agg (cs_Pose v57)] [.agg (cs_Recording v59.1), .one (.bool v59.2)]) ∧ True ∧ True ∧ True ∧ True ∧ True) ∧ (True ∧ True ∧ True) ∧ (True ∧ True ∧ True ∧ True) ∧ ((⟨[(6, (.v (.one (.ptr 6 0)))), (7, (.v (.one (.c (.bool v11.2))))), (10, (.v (.one (.ptr 12 0)))), (13, (.v (.one (.c (.int .i64 v48.1))))), (15, (.v (.one (.ptr 18 0)))), (16, (.v (.one (.c (.bool v59.2)))))], [(5, (.lst v11.1.Frames.length 4 (gl cs_Pose v11.1.Frames))), (6, (.box [(.c (.int .i64 v11.1.Bones)), (.lst 5 v11.1.Frames.length 4 (gl cs_Pose v11.1.Frames))])), (11, (.arr true v48.2.length 4 (gl cs_Pose v48.2))), (12, (.box [(.c (.int .i64 v17.1.Bones)), (.arr 11)])), (17, (.lst v59.1.Frames.length 4 (gl cs_Pose v59.1.Frames))), (18, (.box [(.c (.int .i64 v59.1.Bones)), (.lst 17 v59.1.Frames.length 4 (gl cs_Pose v59.1.Frames))]))]⟩ : St) = ⟨[(6, (.v (.one (.ptr 6 0)))), (7, (.v (.one (.c (.bool v11.2))))), (10, (.v (.one (.ptr 12 0)))), (13, (.v (.one (.c (.int .i64 v48.1))))), (15, (.v (.one (.ptr 18 0)))), (16, (.v (.one (.c (.bool v59.2)))))], [(5, (.lst v11.1.Frames.length 4 (gl cs_Pose v11.1.Frames))), (6, (.box [(.c (.int .i64 v11.1.Bones)), (.lst 5 v11.1.Frames.length 4 (gl cs_Pose v11.1.Frames))])), (11, (.arr true v48.2.length 4 (gl cs_Pose v48.2))), (12, (.box [(.c (.int .i64 v17.1.Bones)), (.arr 11)])), (17, (.lst v59.1.Frames.length 4 (gl cs_Pose v59.1.Frames))), (18, (.box [(.c (.int .i64 v59.1.Bones)), (.lst 17 v59.1.Frames.length 4 (gl cs_Pose v59.1.Frames))]))]⟩)) (by kernel_rfl) ⟨⟨trivial, ⟨⟨⟨rfl, rfl, trivial⟩, trivial⟩, ok_laws_toRecording K a0 v55 e56⟩, trivial, ⟨⟨⟨rfl, rfl, rfl, rfl, trivial⟩, trivial⟩, ok_laws_toPose K a1 v57 e58⟩, ⟨⟨⟨rfl, rfl, trivial⟩, ⟨rfl, rfl, rfl, rfl, trivial⟩, trivial⟩, ok_impl_AddFrame K v55 v57 v59 e60⟩, trivial, trivial, trivial, trivial, trivial⟩, ⟨trivial, trivial, trivial⟩, ⟨trivial, trivial, trivial, trivial⟩, rfl⟩ ?_
                  refine thenQ_normal ?_
                  refine AW.seq ?_
                  refine AW.seq ?_
                  obtain ⟨v61, e62, h⟩ := bind_some h
                  obtain ⟨j64, e65, h⟩ := bind_some h
                  refine AW.join1 (s2 := ⟨[(10, (.v (.one (.ptr 12 0)))), (13, (.v (.one (.c (.int .i64 v48.1))))), (110, (.v (.one (.c (.bool j64)))))], [(11, (.arr true v48.2.length 4 (gl cs_Pose v48.2))), (12, (.box [(.c (.int .i64 v17.1.Bones)), (.arr 11)]))]⟩) ?_ ?_
                  · rcases ite2_cases e65 with ⟨b63, e65⟩ | ⟨b63, e65⟩
                    · replace e65 := some_eq e65
                      subst e65
                      exact AW.regionA [.no, .no, .call [.agg (cs_Recording v59.1), .agg (cs_Recording v11.1)] [.one (.bool v61)] [[.view]], .no, .dec true] [10, 13, 110] [11, 12] (s' := ⟨[(10, (.v (.one (.ptr 12 0)))), (13, (.v (.one (.c (.int .i64 v48.1))))), (110, (.v (.one (.c (.bool true)))))], [(11, (.arr true v48.2.length 4 (gl cs_Pose v48.2))), (12, (.box [(.c (.int .i64 v17.1.Bones)), (.arr 11)]))]⟩) (ob := True ∧ True ∧ ((((((.int .i64 v59.1.Bones) : C) = (.int .i64 v59.1.Bones)) ∧ (((sl 4 cs_Pose v59.1.Frames) : C) = (sl 4 cs_Pose v59.1.Frames)) ∧ True) ∧ ((((.int .i64 v11.1.Bones) : C) = (.int .i64 v11.1.Bones)) ∧ (((sl 4 cs_Pose v11.1.Frames) : C) = (sl 4 cs_Pose v11.1.Frames)) ∧ True) ∧ True) ∧ CallOK Try.prog 25 [.agg (cs_Recording v59.1), .agg (cs_Recording v11.1)] [.one (.bool v61)]) ∧ True ∧ (True ∧ (!v61) = true) ∧ True ∧ True ∧ True ∧ True ∧ True) (by kernel_rfl) ⟨trivial, trivial, ⟨⟨⟨rfl, rfl, trivial⟩, ⟨rfl, rfl, trivial⟩, trivial⟩, ok_laws_eqRecording K v59.1 v11.1 v61 e62⟩, trivial, ⟨trivial, b63⟩, trivial, trivial, trivial, trivial, trivial⟩ ⟨rfl, rfl⟩
                    · replace e65 := some_eq e65
                      subst e65
                      exact AW.regionA [.no, .no, .call [.agg (cs_Recording v59.1), .agg (cs_Recording v11.1)] [.one (.bool v61)] [[.view]], .no, .dec false] [10, 13, 110] [11, 12] (s' := ⟨[(10, (.v (.one (.ptr 12 0)))), (13, (.v (.one (.c (.int .i64 v48.1))))), (110, (.v (.one (.c (.bool (!(v59.2 == v11.2)))))))], [(11, (.arr true v48.2.length 4 (gl cs_Pose v48.2))), (12, (.box [(.c (.int .i64 v17.1.Bones)), (.arr 11)]))]⟩) (ob := True ∧ True ∧ ((((((.int .i64 v59.1.Bones) : C) = (.int .i64 v59.1.Bones)) ∧ (((sl 4 cs_Pose v59.1.Frames) : C) = (sl 4 cs_Pose v59.1.Frames)) ∧ True) ∧ ((((.int .i64 v11.1.Bones) : C) = (.int .i64 v11.1.Bones)) ∧ (((sl 4 cs_Pose v11.1.Frames) : C) = (sl 4 cs_Pose v11.1.Frames)) ∧ True) ∧ True) ∧ CallOK Try.prog 25 [.agg (cs_Recording v59.1), .agg (cs_Recording v11.1)] [.one (.bool v61)]) ∧ True ∧ (True ∧ (!v61) = false) ∧ True ∧ True ∧ True ∧ True ∧ True) (by kernel_rfl) ⟨trivial, trivial, ⟨⟨⟨rfl, rfl, trivial⟩, ⟨rfl, rfl, trivial⟩, trivial⟩, ok_laws_eqRecording K v59.1 v11.1 v61 e62⟩, trivial, ⟨trivial, b63⟩, trivial, trivial, trivial, trivial, trivial⟩ ⟨rfl, rfl⟩
                  refine thenQ_normal ?_
                  rcases ite2_cases h with ⟨b66, h⟩ | ⟨b66, h⟩
                  · refine AW.cond_t rfl b66 ?_
                    refine AW.seq ?_
                    refine AW.regionA [] [4] [] (s' := ⟨[(4, (.v (.one (.c (.bool false)))))], []⟩) (ob := True ∧ True) (by kernel_rfl) ⟨trivial, trivial⟩ ?_
                    refine thenQ_normal ?_
                    refine AW.ret ?_
                    refine thenQ_ret ?_
                    replace h := some_eq h
                    subst h
                    exact ⟨.inr rfl, retOK_of [(.one (.c (.bool false)))] (by kernel_rfl) ⟨⟨rfl, trivial⟩, trivial⟩ (of_decide_eq_true (by kernel_rfl))⟩
                  · refine AW.cond_f rfl b66 ?_
                    refine AW.skip ?_
                    refine thenQ_normal ?_
                    refine AW.seq ?_
                    refine AW.regionA [] [10, 13, 14] [11, 12] (s' := ⟨[(10, (.v (.one (.ptr 12 0)))), (13, (.v (.one (.c (.int .i64 v48.1))))), (14, (.v (.one (.c (.int .i64 (1 : Int))))))], [(11, (.arr true v48.2.length 4 (gl cs_Pose v48.2))), (12, (.box [(.c (.int .i64 v17.1.Bones)), (.arr 11)]))]⟩) (ob := True ∧ True) (by kernel_rfl) ⟨trivial, trivial⟩ ?_
                    refine thenQ_normal ?_
                    refine AW.seq ?_
                    obtain ⟨v67, e68, h⟩ := bind_some h
                    refine AW.regionA [.no, .no, .call [.agg (cs_Recording (Recording.mk v17.1.Bones v48.2)), .one (.int .i64 (1 : Int))] [.one (.int .i64 v67)] [[.view]]] [13, 14] [] (s' := ⟨[(13, (.v (.one (.c (.int .i64 v48.1))))), (14, (.v (.one (.c (.int .i64 v67)))))], []⟩) (ob := True ∧ True ∧ ((((((.int .i64 v17.1.Bones) : C) = (.int .i64 v17.1.Bones)) ∧ (((sl 4 cs_Pose v48.2) : C) = (sl 4 cs_Pose v48.2)) ∧ True) ∧ (((.int .i64 (1 : Int)) : C) = (.int .i64 (1 : Int))) ∧ True) ∧ CallOK Try.prog 27 [.agg (cs_Recording (Recording.mk v17.1.Bones v48.2)), .one (.int .i64 (1 : Int))] [.one (.int .i64 v67)]) ∧ True ∧ True) (by kernel_rfl) ⟨trivial, trivial, ⟨⟨⟨rfl, rfl, trivial⟩, rfl, trivial⟩, ok_laws_heldRecording K (Recording.mk v17.1.Bones v48.2) (1 : Int) v67 e68⟩, trivial, trivial⟩ ?_
                    refine thenQ_normal ?_
                    refine AW.seq ?_
                    refine AW.seq ?_
                    refine AW.regionA [] [13, 14, 115] [] (s' := ⟨[(13, (.v (.one (.c (.int .i64 v48.1))))), (14, (.v (.one (.c (.int .i64 v67))))), (115, (.v (.one (.c (.bool (decide (v67 < (0 : Int))))))))], []⟩) (ob := True ∧ True ∧ True) (by kernel_rfl) ⟨trivial, trivial, trivial⟩ ?_
                    refine thenQ_normal ?_
                    rcases ite2_cases h with ⟨b69, h⟩ | ⟨b69, h⟩
                    · refine AW.cond_t rfl b69 ?_
                      refine AW.seq ?_
                      refine AW.regionA [] [4] [] (s' := ⟨[(4, (.v (.one (.c (.bool false)))))], []⟩) (ob := True ∧ True) (by kernel_rfl) ⟨trivial, trivial⟩ ?_
                      refine thenQ_normal ?_
                      refine AW.ret ?_
                      refine thenQ_ret ?_
                      replace h := some_eq h
                      subst h
                      exact ⟨.inr rfl, retOK_of [(.one (.c (.bool false)))] (by kernel_rfl) ⟨⟨rfl, trivial⟩, trivial⟩ (of_decide_eq_true (by kernel_rfl))⟩
                    · refine AW.cond_f rfl b69 ?_
                      refine AW.skip ?_
                      refine thenQ_normal ?_
                      refine AW.seq ?_
                      refine AW.seq ?_
                      refine AW.regionA [] [118] [] (s' := ⟨[(118, (.v (.one (.c (.bool (v67 != v48.1))))))], []⟩) (ob := True ∧ True ∧ True ∧ True) (by kernel_rfl) ⟨trivial, trivial, trivial, trivial⟩ ?_
                      refine thenQ_normal ?_
                      rcases ite2_cases h with ⟨b70, h⟩ | ⟨b70, h⟩
                      · refine AW.cond_t rfl b70 ?_
                        refine AW.seq ?_
                        refine AW.regionA [] [4] [] (s' := ⟨[(4, (.v (.one (.c (.bool false)))))], []⟩) (ob := True ∧ True) (by kernel_rfl) ⟨trivial, trivial⟩ ?_
                        refine thenQ_normal ?_
                        refine AW.ret ?_
                        refine thenQ_ret ?_
                        replace h := some_eq h
                        subst h
                        exact ⟨.inr rfl, retOK_of [(.one (.c (.bool false)))] (by kernel_rfl) ⟨⟨rfl, trivial⟩, trivial⟩ (of_decide_eq_true (by kernel_rfl))⟩
                      · refine AW.cond_f rfl b70 ?_
                        refine AW.skip ?_
                        refine thenQ_normal ?_
                        refine AW.seq ?_
                        refine AW.regionA [] [4] [] (s' := ⟨[(4, (.v (.one (.c (.bool true)))))], []⟩) (ob := True ∧ True) (by kernel_rfl) ⟨trivial, trivial⟩ ?_
                        refine thenQ_normal ?_
                        refine AW.ret ?_
                        replace h := some_eq h
                        subst h
                        exact ⟨.inr rfl, retOK_of [(.one (.c (.bool true)))] (by kernel_rfl) ⟨⟨rfl, trivial⟩, trivial⟩ (of_decide_eq_true (by kernel_rfl))⟩

end
end Go.Fw
