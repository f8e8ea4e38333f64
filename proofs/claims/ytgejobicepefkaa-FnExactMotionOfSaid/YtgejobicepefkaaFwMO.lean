/- Functions of the program: what each computes, and that it computes just that. -/
import Derived.Test.YtgejobicepefkaaFwTy
import Derived.Test.YtgejobicepefkaaFwH
import Derived.Test.YtgejobicepefkaaFwV
import Derived.Test.YtgejobicepefkaaFwMO2
import Derived.Test.YtgejobicepefkaaFwAB
import Derived.Test.YtgejobicepefkaaProg
import Derived.KernelRfl
namespace Go.Fw
open Go Go.Proofs
noncomputable section
set_option maxRecDepth 10000

/-! laws.FnExactMotionOf -/
def laws_FnExactMotionOf (K : Nat) (a0 : Recording) : Option (Bool) :=
  (laws_szRecording K a0 (1048576 : Int)).bind fun v1 => ite2 ((decide (v1 < (0 : Int)))) (some true) ((laws_toRecording K a0).bind fun v4 => (spec_MotionOf K v4).bind fun v6 => (laws_toRecording K a0).bind fun v8 => (impl_MotionOf K v8).bind fun v10 => (laws_eqFloat32S K v10.1 v6.1).bind fun v12 => (ite2 ((!v12)) (some true) (some (!(v10.2 == v6.2)))).bind fun j15 => ite2 (j15) (some false) ((laws_toRecording K a0).bind fun v18 => (laws_eqRecording K v8 v18).bind fun v20 => ite2 ((!v20)) (some false) ((laws_markRecording K v8 (1 : Int)).bind fun v23 => chk (v23.2.length = v8.Frames.length) ((ite2 ((decide (v23.1 < (0 : Int)))) (some true) ((laws_eqFloat32S K v10.1 v6.1).bind fun v27 => ite2 ((!v27)) (some true) (some (!(v10.2 == v6.2))))).bind fun j30 => ite2 (j30) (some false) ((laws_markFloat32S K v10.1 (1 : Int)).bind fun v33 => chk (v33.2.length = v10.1.length) ((laws_heldFloat32S K v33.2 (1 : Int)).bind fun v36 => ite2 ((decide (v36 < (0 : Int)))) (some false) (ite2 ((v36 != v33.1)) (some false) ((laws_toRecording K a0).bind fun v40 => (impl_MotionOf K v40).bind fun v42 => (laws_eqFloat32S K v42.1 v6.1).bind fun v44 => (ite2 ((!v44)) (some true) (some (!(v42.2 == v6.2)))).bind fun j47 => ite2 (j47) (some false) ((laws_heldFloat32S K v33.2 (1 : Int)).bind fun v50 => ite2 ((decide (v50 < (0 : Int)))) (some false) (ite2 ((v50 != v33.1)) (some false) (some true)))))))))))

theorem ok_laws_FnExactMotionOf (K : Nat) (a0 : Recording) (o : (Bool)) (h : laws_FnExactMotionOf K a0 = some o) : CallOK Try.prog 11 [.agg (cs_Recording a0)] [.one (.bool o)] := by
  refine callOK_of_AW Try.func11 rfl (by kernel_rfl) (Nat.le_of_ble_eq_true (by kernel_rfl)) ?_
  intro w0
  unfold laws_FnExactMotionOf at h
  refine AW.seq ?_
  refine AW.regionA [.box 1] [1] [1] (s' := ⟨[(1, (.v (.one (.ptr 1 0))))], [(1, (.box [(.c (.int .i64 a0.Bones)), (.c (sl 4 cs_Pose a0.Frames))]))]⟩) (ob := True ∧ True ∧ True) (by kernel_rfl) ⟨trivial, trivial, trivial⟩ ?_
  refine thenQ_normal ?_
  refine AW.seq ?_
  refine AW.regionA [] [1, 3] [1] (s' := ⟨[(1, (.v (.one (.ptr 1 0)))), (3, (.v (.one (.c (.int .i64 (1048576 : Int))))))], [(1, (.box [(.c (.int .i64 a0.Bones)), (.c (sl 4 cs_Pose a0.Frames))]))]⟩) (ob := True ∧ True) (by kernel_rfl) ⟨trivial, trivial⟩ ?_
  refine thenQ_normal ?_
  refine AW.seq ?_
  obtain ⟨v1, e2, h⟩ := bind_some h
  refine AW.regionA [.no, .no, .call [.agg (cs_Recording a0), .one (.int .i64 (1048576 : Int))] [.one (.int .i64 v1)] [[.view]]] [1, 3] [1] (s' := ⟨[(1, (.v (.one (.ptr 1 0)))), (3, (.v (.one (.c (.int .i64 v1)))))], [(1, (.box [(.c (.int .i64 a0.Bones)), (.c (sl 4 cs_Pose a0.Frames))]))]⟩) (ob := True ∧ True ∧ ((((((.int .i64 a0.Bones) : C) = (.int .i64 a0.Bones)) ∧ (((sl 4 cs_Pose a0.Frames) : C) = (sl 4 cs_Pose a0.Frames)) ∧ True) ∧ (((.int .i64 (1048576 : Int)) : C) = (.int .i64 (1048576 : Int))) ∧ True) ∧ CallOK Try.prog 21 [.agg (cs_Recording a0), .one (.int .i64 (1048576 : Int))] [.one (.int .i64 v1)]) ∧ True ∧ True) (by kernel_rfl) ⟨trivial, trivial, ⟨⟨⟨rfl, rfl, trivial⟩, rfl, trivial⟩, ok_laws_szRecording K a0 (1048576 : Int) v1 e2⟩, trivial, trivial⟩ ?_
  refine thenQ_normal ?_
  refine AW.seq ?_
  refine AW.seq ?_
  refine AW.regionA [] [1, 18] [1] (s' := ⟨[(1, (.v (.one (.ptr 1 0)))), (18, (.v (.one (.c (.bool (decide (v1 < (0 : Int))))))))], [(1, (.box [(.c (.int .i64 a0.Bones)), (.c (sl 4 cs_Pose a0.Frames))]))]⟩) (ob := True ∧ True ∧ True) (by kernel_rfl) ⟨trivial, trivial, trivial⟩ ?_
  refine thenQ_normal ?_
  rcases ite2_cases h with ⟨b3, h⟩ | ⟨b3, h⟩
  · refine AW.cond_t rfl b3 ?_
    refine AW.seq ?_
    refine AW.regionA [] [2] [] (s' := ⟨[(2, (.v (.one (.c (.bool true)))))], []⟩) (ob := True ∧ True) (by kernel_rfl) ⟨trivial, trivial⟩ ?_
    refine thenQ_normal ?_
    refine AW.ret ?_
    refine thenQ_ret ?_
    replace h := some_eq h
    subst h
    exact ⟨.inr rfl, retOK_of [(.one (.c (.bool true)))] (by kernel_rfl) ⟨⟨rfl, trivial⟩, trivial⟩ (of_decide_eq_true (by kernel_rfl))⟩
  · refine AW.cond_f rfl b3 ?_
    refine AW.skip ?_
    refine thenQ_normal ?_
    refine AW.seq ?_
    obtain ⟨v4, e5, h⟩ := bind_some h
    obtain ⟨v6, e7, h⟩ := bind_some h
    refine AW.regionA [.no, .call [.agg (cs_Recording a0)] [.agg (cs_Recording v4)] [[.view, .lst 2]], .call [.agg (cs_Recording v4)] [.one (sl 1 (csF .f32) v6.1), .one (.bool v6.2)] [[.lst 3], [.view]]] [1, 4, 5] [1, 3] (s' := ⟨[(1, (.v (.one (.ptr 1 0)))), (4, (.v (.one (.lst 3 v6.1.length 1 (gl (csF .f32) v6.1))))), (5, (.v (.one (.c (.bool v6.2)))))], [(1, (.box [(.c (.int .i64 a0.Bones)), (.c (sl 4 cs_Pose a0.Frames))])), (3, (.lst v6.1.length 1 (gl (csF .f32) v6.1)))]⟩) (ob := True ∧ ((((((.int .i64 a0.Bones) : C) = (.int .i64 a0.Bones)) ∧ (((sl 4 cs_Pose a0.Frames) : C) = (sl 4 cs_Pose a0.Frames)) ∧ True) ∧ True) ∧ CallOK Try.prog 23 [.agg (cs_Recording a0)] [.agg (cs_Recording v4)]) ∧ ((((((.int .i64 v4.Bones) : C) = (.int .i64 v4.Bones)) ∧ (((sl 4 cs_Pose v4.Frames) : C) = (sl 4 cs_Pose v4.Frames)) ∧ True) ∧ True) ∧ CallOK Try.prog 44 [.agg (cs_Recording v4)] [.one (sl 1 (csF .f32) v6.1), .one (.bool v6.2)]) ∧ True ∧ True ∧ True ∧ True ∧ True ∧ True) (by kernel_rfl) ⟨trivial, ⟨⟨⟨rfl, rfl, trivial⟩, trivial⟩, ok_laws_toRecording K a0 v4 e5⟩, ⟨⟨⟨rfl, rfl, trivial⟩, trivial⟩, ok_spec_MotionOf K v4 v6 e7⟩, trivial, trivial, trivial, trivial, trivial, trivial⟩ ?_
    refine thenQ_normal ?_
    refine AW.seq ?_
    obtain ⟨v8, e9, h⟩ := bind_some h
    refine AW.regionA [.no, .call [.agg (cs_Recording a0)] [.agg (cs_Recording v8)] [[.view, .own 4]], .box 5] [1, 4, 5, 6] [1, 3, 4, 5] (s' := ⟨[(1, (.v (.one (.ptr 1 0)))), (4, (.v (.one (.lst 3 v6.1.length 1 (gl (csF .f32) v6.1))))), (5, (.v (.one (.c (.bool v6.2))))), (6, (.v (.one (.ptr 5 0))))], [(1, (.box [(.c (.int .i64 a0.Bones)), (.c (sl 4 cs_Pose a0.Frames))])), (3, (.lst v6.1.length 1 (gl (csF .f32) v6.1))), (4, (.arr true v8.Frames.length 4 (gl cs_Pose v8.Frames))), (5, (.box [(.c (.int .i64 v8.Bones)), (.arr 4)]))]⟩) (ob := True ∧ ((((((.int .i64 a0.Bones) : C) = (.int .i64 a0.Bones)) ∧ (((sl 4 cs_Pose a0.Frames) : C) = (sl 4 cs_Pose a0.Frames)) ∧ True) ∧ True) ∧ CallOK Try.prog 23 [.agg (cs_Recording a0)] [.agg (cs_Recording v8)]) ∧ True ∧ True ∧ True) (by kernel_rfl) ⟨trivial, ⟨⟨⟨rfl, rfl, trivial⟩, trivial⟩, ok_laws_toRecording K a0 v8 e9⟩, trivial, trivial, trivial⟩ ?_
    refine thenQ_normal ?_
    refine AW.seq ?_
    obtain ⟨v10, e11, h⟩ := bind_some h
    refine AW.regionA [.no, .call [.agg (cs_Recording v8)] [.one (sl 1 (csF .f32) v10.1), .one (.bool v10.2)] [[.own 6], [.view]]] [1, 4, 5, 6, 7, 8] [1, 3, 4, 5, 6] (s' := ⟨[(1, (.v (.one (.ptr 1 0)))), (4, (.v (.one (.lst 3 v6.1.length 1 (gl (csF .f32) v6.1))))), (5, (.v (.one (.c (.bool v6.2))))), (6, (.v (.one (.ptr 5 0)))), (7, (.v (.one (.arr 6)))), (8, (.v (.one (.c (.bool v10.2)))))], [(1, (.box [(.c (.int .i64 a0.Bones)), (.c (sl 4 cs_Pose a0.Frames))])), (3, (.lst v6.1.length 1 (gl (csF .f32) v6.1))), (4, (.arr true v8.Frames.length 4 (gl cs_Pose v8.Frames))), (5, (.box [(.c (.int .i64 v8.Bones)), (.arr 4)])), (6, (.arr true v10.1.length 1 (gl (csF .f32) v10.1)))]⟩) (ob := True ∧ ((((((.int .i64 v8.Bones) : C) = (.int .i64 v8.Bones)) ∧ (((sl 4 cs_Pose v8.Frames) : C) = (sl 4 cs_Pose v8.Frames)) ∧ True) ∧ True) ∧ CallOK Try.prog 45 [.agg (cs_Recording v8)] [.one (sl 1 (csF .f32) v10.1), .one (.bool v10.2)]) ∧ True ∧ True ∧ True ∧ True ∧ True ∧ True) (by kernel_rfl) ⟨trivial, ⟨⟨⟨rfl, rfl, trivial⟩, trivial⟩, ok_impl_MotionOf K v8 v10 e11⟩, trivial, trivial, trivial, trivial, trivial, trivial⟩ ?_
    refine thenQ_normal ?_
    refine AW.seq ?_
    refine AW.seq ?_
    obtain ⟨v12, e13, h⟩ := bind_some h
    obtain ⟨j15, e16, h⟩ := bind_some h
    refine AW.join1 (s2 := ⟨[(1, (.v (.one (.ptr 1 0)))), (4, (.v (.one (.lst 3 v6.1.length 1 (gl (csF .f32) v6.1))))), (5, (.v (.one (.c (.bool v6.2))))), (6, (.v (.one (.ptr 5 0)))), (7, (.v (.one (.arr 6)))), (8, (.v (.one (.c (.bool v10.2))))), (40, (.v (.one (.c (.bool j15)))))], [(1, (.box [(.c (.int .i64 a0.Bones)), (.c (sl 4 cs_Pose a0.Frames))])), (3, (.lst v6.1.length 1 (gl (csF .f32) v6.1))), (4, (.arr true v8.Frames.length 4 (gl cs_Pose v8.Frames))), (5, (.box [(.c (.int .i64 v8.Bones)), (.arr 4)])), (6, (.arr true v10.1.length 1 (gl (csF .f32) v10.1)))]⟩) ?_ ?_
    · rcases ite2_cases e16 with ⟨b14, e16⟩ | ⟨b14, e16⟩
      · replace e16 := some_eq e16
        subst e16
        exact AW.regionA [.no, .no, .call [.one (sl 1 (csF .f32) v10.1), .one (sl 1 (csF .f32) v6.1)] [.one (.bool v12)] [[.view]], .no, .dec true] [1, 4, 5, 6, 7, 8, 40] [1, 3, 4, 5, 6] (s' := ⟨[(1, (.v (.one (.ptr 1 0)))), (4, (.v (.one (.lst 3 v6.1.length 1 (gl (csF .f32) v6.1))))), (5, (.v (.one (.c (.bool v6.2))))), (6, (.v (.one (.ptr 5 0)))), (7, (.v (.one (.arr 6)))), (8, (.v (.one (.c (.bool v10.2))))), (40, (.v (.one (.c (.bool true)))))], [(1, (.box [(.c (.int .i64 a0.Bones)), (.c (sl 4 cs_Pose a0.Frames))])), (3, (.lst v6.1.length 1 (gl (csF .f32) v6.1))), (4, (.arr true v8.Frames.length 4 (gl cs_Pose v8.Frames))), (5, (.box [(.c (.int .i64 v8.Bones)), (.arr 4)])), (6, (.arr true v10.1.length 1 (gl (csF .f32) v10.1)))]⟩) (ob := True ∧ True ∧ (((((sl 1 (csF .f32) v10.1) : C) = (sl 1 (csF .f32) v10.1)) ∧ (((sl 1 (csF .f32) v6.1) : C) = (sl 1 (csF .f32) v6.1)) ∧ True) ∧ CallOK Try.prog 46 [.one (sl 1 (csF .f32) v10.1), .one (sl 1 (csF .f32) v6.1)] [.one (.bool v12)]) ∧ True ∧ (True ∧ (!v12) = true) ∧ True ∧ True ∧ True ∧ True ∧ True) (by kernel_rfl) ⟨trivial, trivial, ⟨⟨rfl, rfl, trivial⟩, ok_laws_eqFloat32S K v10.1 v6.1 v12 e13⟩, trivial, ⟨trivial, b14⟩, trivial, trivial, trivial, trivial, trivial⟩ ⟨rfl, rfl⟩
      · replace e16 := some_eq e16
        subst e16
        exact AW.regionA [.no, .no, .call [.one (sl 1 (csF .f32) v10.1), .one (sl 1 (csF .f32) v6.1)] [.one (.bool v12)] [[.view]], .no, .dec false] [1, 4, 5, 6, 7, 8, 40] [1, 3, 4, 5, 6] (s' := ⟨[(1, (.v (.one (.ptr 1 0)))), (4, (.v (.one (.lst 3 v6.1.length 1 (gl (csF .f32) v6.1))))), (5, (.v (.one (.c (.bool v6.2))))), (6, (.v (.one (.ptr 5 0)))), (7, (.v (.one (.arr 6)))), (8, (.v (.one (.c (.bool v10.2))))), (40, (.v (.one (.c (.bool (!(v10.2 == v6.2)))))))], [(1, (.box [(.c (.int .i64 a0.Bones)), (.c (sl 4 cs_Pose a0.Frames))])), (3, (.lst v6.1.length 1 (gl (csF .f32) v6.1))), (4, (.arr true v8.Frames.length 4 (gl cs_Pose v8.Frames))), (5, (.box [(.c (.int .i64 v8.Bones)), (.arr 4)])), (6, (.arr true v10.1.length 1 (gl (csF .f32) v10.1)))]⟩) (ob := True ∧ True ∧ (((((sl 1 (csF .f32) v10.1) : C) = (sl 1 (csF .f32) v10.1)) ∧ (((sl 1 (csF .f32) v6.1) : C) = (sl 1 (csF .f32) v6.1)) ∧ True) ∧ CallOK Try.prog 46 [.one (sl 1 (csF .f32) v10.1), .one (sl 1 (csF .f32) v6.1)] [.one (.bool v12)]) ∧ True ∧ (True ∧ (!v12) = false) ∧ True ∧ True ∧ True ∧ True ∧ True) (by kernel_rfl) ⟨trivial, trivial, ⟨⟨rfl, rfl, trivial⟩, ok_laws_eqFloat32S K v10.1 v6.1 v12 e13⟩, trivial, ⟨trivial, b14⟩, trivial, trivial, trivial, trivial, trivial⟩ ⟨rfl, rfl⟩
    refine thenQ_normal ?_
    rcases ite2_cases h with ⟨b17, h⟩ | ⟨b17, h⟩
    · refine AW.cond_t rfl b17 ?_
      refine AW.seq ?_
      refine AW.regionA [] [2] [] (s' := ⟨[(2, (.v (.one (.c (.bool false)))))], []⟩) (ob := True ∧ True) (by kernel_rfl) ⟨trivial, trivial⟩ ?_
      refine thenQ_normal ?_
      refine AW.ret ?_
      refine thenQ_ret ?_
      replace h := some_eq h
      subst h
      exact ⟨.inr rfl, retOK_of [(.one (.c (.bool false)))] (by kernel_rfl) ⟨⟨rfl, trivial⟩, trivial⟩ (of_decide_eq_true (by kernel_rfl))⟩
    · refine AW.cond_f rfl b17 ?_
      refine AW.skip ?_
      refine thenQ_normal ?_
      refine AW.seq ?_
      refine AW.seq ?_
      obtain ⟨v18, e19, h⟩ := bind_some h
      obtain ⟨v20, e21, h⟩ := bind_some h
      refine AW.drawnA (by kernel_rfl) 5 [.no, .no, .call [.agg (cs_Recording a0)] [.agg (cs_Recording v18)] [[.view, .lst 7]], .call [.agg (cs_Recording v8), .agg (cs_Recording v18)] [.one (.bool v20)] [[.view]]] [1, 4, 5, 6, 7, 8, 45] [1, 3, 4, 5, 6] (s' := ⟨[(1, (.v (.one (.ptr 1 0)))), (4, (.v (.one (.lst 3 v6.1.length 1 (gl (csF .f32) v6.1))))), (5, (.v (.one (.c (.bool v6.2))))), (6, (.v (.one (.ptr 5 0)))), (7, (.v (.one (.arr 6)))), (8, (.v (.one (.c (.bool v10.2))))), (45, (.v (.one (.c (.bool (!v20))))))], [(1, (.box [(.c (.int .i64 a0.Bones)), (.c (sl 4 cs_Pose a0.Frames))])), (3, (.lst v6.1.length 1 (gl (csF .f32) v6.1))), (4, (.arr true v8.Frames.length 4 (gl cs_Pose v8.Frames))), (5, (.box [(.c (.int .i64 v8.Bones)), (.arr 4)])), (6, (.arr true v10.1.length 1 (gl (csF .f32) v10.1)))]⟩) (ob := (True ∧ True ∧ ((((((.int .i64 a0.Bones) : C) = (.int .i64 a0.Bones)) ∧ (((sl 4 cs_Pose a0.Frames) : C) = (sl 4 cs_Pose a0.Frames)) ∧ True) ∧ True) ∧ CallOK Try.prog 23 [.agg (cs_Recording a0)] [.agg (cs_Recording v18)]) ∧ ((((((.int .i64 v8.Bones) : C) = (.int .i64 v8.Bones)) ∧ (((sl 4 cs_Pose v8.Frames) : C) = (sl 4 cs_Pose v8.Frames)) ∧ True) ∧ ((((.int .i64 v18.Bones) : C) = (.int .i64 v18.Bones)) ∧ (((sl 4 cs_Pose v18.Frames) : C) = (sl 4 cs_Pose v18.Frames)) ∧ True) ∧ True) ∧ CallOK Try.prog 25 [.agg (cs_Recording v8), .agg (cs_Recording v18)] [.one (.bool v20)]) ∧ True ∧ True) ∧ (True)) (by kernel_rfl) ⟨⟨trivial, trivial, ⟨⟨⟨rfl, rfl, trivial⟩, trivial⟩, ok_laws_toRecording K a0 v18 e19⟩, ⟨⟨⟨rfl, rfl, trivial⟩, ⟨rfl, rfl, trivial⟩, trivial⟩, ok_laws_eqRecording K v8 v18 v20 e21⟩, trivial, trivial⟩, trivial⟩ ?_
      refine thenQ_normal ?_
      rcases ite2_cases h with ⟨b22, h⟩ | ⟨b22, h⟩
      · refine AW.cond_t rfl b22 ?_
        refine AW.seq ?_
        refine AW.regionA [] [2] [] (s' := ⟨[(2, (.v (.one (.c (.bool false)))))], []⟩) (ob := True ∧ True) (by kernel_rfl) ⟨trivial, trivial⟩ ?_
        refine thenQ_normal ?_
        refine AW.ret ?_
        refine thenQ_ret ?_
        replace h := some_eq h
        subst h
        exact ⟨.inr rfl, retOK_of [(.one (.c (.bool false)))] (by kernel_rfl) ⟨⟨rfl, trivial⟩, trivial⟩ (of_decide_eq_true (by kernel_rfl))⟩
      · refine AW.cond_f rfl b22 ?_
        refine AW.skip ?_
        refine thenQ_normal ?_
        refine AW.seq ?_
        refine AW.regionA [] [1, 4, 5, 6, 7, 8, 9] [1, 3, 4, 5, 6] (s' := ⟨[(1, (.v (.one (.ptr 1 0)))), (4, (.v (.one (.lst 3 v6.1.length 1 (gl (csF .f32) v6.1))))), (5, (.v (.one (.c (.bool v6.2))))), (6, (.v (.one (.ptr 5 0)))), (7, (.v (.one (.arr 6)))), (8, (.v (.one (.c (.bool v10.2))))), (9, (.v (.one (.c (.int .i64 (1 : Int))))))], [(1, (.box [(.c (.int .i64 a0.Bones)), (.c (sl 4 cs_Pose a0.Frames))])), (3, (.lst v6.1.length 1 (gl (csF .f32) v6.1))), (4, (.arr true v8.Frames.length 4 (gl cs_Pose v8.Frames))), (5, (.box [(.c (.int .i64 v8.Bones)), (.arr 4)])), (6, (.arr true v10.1.length 1 (gl (csF .f32) v10.1)))]⟩) (ob := True ∧ True) (by kernel_rfl) ⟨trivial, trivial⟩ ?_
        refine thenQ_normal ?_
        refine AW.seq ?_
        obtain ⟨v23, e24, h⟩ := bind_some h
        obtain ⟨c25, h⟩ := chk_some h
        refine AW.regionA [.no, .no, .callM [(.agg [(.ro (.int .i64 v8.Bones)), (.mu (sl 4 cs_Pose v8.Frames) (sl 4 cs_Pose v23.2))]), .one (.ro (.int .i64 (1 : Int)))] [.one (.int .i64 v23.1)] [[.view]] none] [1, 4, 5, 7, 8, 9] [1, 3, 6] (s' := ⟨[(1, (.v (.one (.ptr 1 0)))), (4, (.v (.one (.lst 3 v6.1.length 1 (gl (csF .f32) v6.1))))), (5, (.v (.one (.c (.bool v6.2))))), (7, (.v (.one (.arr 6)))), (8, (.v (.one (.c (.bool v10.2))))), (9, (.v (.one (.c (.int .i64 v23.1)))))], [(1, (.box [(.c (.int .i64 a0.Bones)), (.c (sl 4 cs_Pose a0.Frames))])), (3, (.lst v6.1.length 1 (gl (csF .f32) v6.1))), (6, (.arr true v10.1.length 1 (gl (csF .f32) v10.1)))]⟩) (ob := True ∧ True ∧ ((((((.int .i64 v8.Bones) : C) = (.int .i64 v8.Bones)) ∧ (((sl 4 cs_Pose v8.Frames) : C) = (sl 4 cs_Pose v8.Frames) ∧ v23.2.length = v8.Frames.length ∧ 4 = 4 ∧ ∀ i j, i < v8.Frames.length → j < 4 → isSeq (gl cs_Pose v23.2 i j) = isSeq (gl cs_Pose v8.Frames i j)) ∧ True) ∧ (((.int .i64 (1 : Int)) : C) = (.int .i64 (1 : Int))) ∧ True) ∧ MutOK Try.prog 26 [(.agg [(.ro (.int .i64 v8.Bones)), (.mu (sl 4 cs_Pose v8.Frames) (sl 4 cs_Pose v23.2))]), .one (.ro (.int .i64 (1 : Int)))] [.one (.int .i64 v23.1)]) ∧ True ∧ True) (by kernel_rfl) ⟨trivial, trivial, ⟨⟨⟨rfl, ⟨rfl, c25, rfl, gl_seq sq_Pose⟩, trivial⟩, rfl, trivial⟩, ok_laws_markRecording K v8 (1 : Int) v23 e24⟩, trivial, trivial⟩ ?_
        refine thenQ_normal ?_
        refine AW.seq ?_
        refine AW.seq ?_
        obtain ⟨j30, e31, h⟩ := bind_some h
        refine AW.join1 (s2 := ⟨[(1, (.v (.one (.ptr 1 0)))), (4, (.v (.one (.lst 3 v6.1.length 1 (gl (csF .f32) v6.1))))), (5, (.v (.one (.c (.bool v6.2))))), (7, (.v (.one (.arr 6)))), (61, (.v (.one (.c (.bool j30)))))], [(1, (.box [(.c (.int .i64 a0.Bones)), (.c (sl 4 cs_Pose a0.Frames))])), (3, (.lst v6.1.length 1 (gl (csF .f32) v6.1))), (6, (.arr true v10.1.length 1 (gl (csF .f32) v10.1)))]⟩) ?_ ?_
        · rcases ite2_cases e31 with ⟨b26, e31⟩ | ⟨b26, e31⟩
          · replace e31 := some_eq e31
            subst e31
            exact AW.regionA [.no, .no, .dec true] [1, 4, 5, 7, 61] [1, 3, 6] (s' := ⟨[(1, (.v (.one (.ptr 1 0)))), (4, (.v (.one (.lst 3 v6.1.length 1 (gl (csF .f32) v6.1))))), (5, (.v (.one (.c (.bool v6.2))))), (7, (.v (.one (.arr 6)))), (61, (.v (.one (.c (.bool true)))))], [(1, (.box [(.c (.int .i64 a0.Bones)), (.c (sl 4 cs_Pose a0.Frames))])), (3, (.lst v6.1.length 1 (gl (csF .f32) v6.1))), (6, (.arr true v10.1.length 1 (gl (csF .f32) v10.1)))]⟩) (ob := True ∧ True ∧ (True ∧ (decide (v23.1 < (0 : Int))) = true) ∧ True ∧ True ∧ True ∧ True ∧ True ∧ True ∧ True ∧ True ∧ True ∧ True ∧ True) (by kernel_rfl) ⟨trivial, trivial, ⟨trivial, b26⟩, trivial, trivial, trivial, trivial, trivial, trivial, trivial, trivial, trivial, trivial, trivial⟩ ⟨rfl, rfl⟩
          · obtain ⟨v27, e28, e31⟩ := bind_some e31
            rcases ite2_cases e31 with ⟨b29, e31⟩ | ⟨b29, e31⟩
            · replace e31 := some_eq e31
              subst e31
              exact AW.regionA [.no, .no, .dec false, .no, .no, .call [.one (sl 1 (csF .f32) v10.1), .one (sl 1 (csF .f32) v6.1)] [.one (.bool v27)] [[.view]], .no, .no, .dec true] [1, 4, 5, 7, 61] [1, 3, 6] (s' := ⟨[(1, (.v (.one (.ptr 1 0)))), (4, (.v (.one (.lst 3 v6.1.length 1 (gl (csF .f32) v6.1))))), (5, (.v (.one (.c (.bool v6.2))))), (7, (.v (.one (.arr 6)))), (61, (.v (.one (.c (.bool true)))))], [(1, (.box [(.c (.int .i64 a0.Bones)), (.c (sl 4 cs_Pose a0.Frames))])), (3, (.lst v6.1.length 1 (gl (csF .f32) v6.1))), (6, (.arr true v10.1.length 1 (gl (csF .f32) v10.1)))]⟩) (ob := True ∧ True ∧ (True ∧ (decide (v23.1 < (0 : Int))) = false) ∧ True ∧ True ∧ (((((sl 1 (csF .f32) v10.1) : C) = (sl 1 (csF .f32) v10.1)) ∧ (((sl 1 (csF .f32) v6.1) : C) = (sl 1 (csF .f32) v6.1)) ∧ True) ∧ CallOK Try.prog 46 [.one (sl 1 (csF .f32) v10.1), .one (sl 1 (csF .f32) v6.1)] [.one (.bool v27)]) ∧ True ∧ True ∧ (True ∧ (!v27) = true) ∧ True ∧ True ∧ True ∧ True ∧ True) (by kernel_rfl) ⟨trivial, trivial, ⟨trivial, b26⟩, trivial, trivial, ⟨⟨rfl, rfl, trivial⟩, ok_laws_eqFloat32S K v10.1 v6.1 v27 e28⟩, trivial, trivial, ⟨trivial, b29⟩, trivial, trivial, trivial, trivial, trivial⟩ ⟨rfl, rfl⟩
            · replace e31 := some_eq e31
              subst e31
              exact AW.regionA [.no, .no, .dec false, .no, .no, .call [.one (sl 1 (csF .f32) v10.1), .one (sl 1 (csF .f32) v6.1)] [.one (.bool v27)] [[.view]], .no, .no, .dec false] [1, 4, 5, 7, 61] [1, 3, 6] (s' := ⟨[(1, (.v (.one (.ptr 1 0)))), (4, (.v (.one (.lst 3 v6.1.length 1 (gl (csF .f32) v6.1))))), (5, (.v (.one (.c (.bool v6.2))))), (7, (.v (.one (.arr 6)))), (61, (.v (.one (.c (.bool (!(v10.2 == v6.2)))))))], [(1, (.box [(.c (.int .i64 a0.Bones)), (.c (sl 4 cs_Pose a0.Frames))])), (3, (.lst v6.1.length 1 (gl (csF .f32) v6.1))), (6, (.arr true v10.1.length 1 (gl (csF .f32) v10.1)))]⟩) (ob := True ∧ True ∧ (True ∧ (decide (v23.1 < (0 : Int))) = false) ∧ True ∧ True ∧ (((((sl 1 (csF .f32) v10.1) : C) = (sl 1 (csF .f32) v10.1)) ∧ (((sl 1 (csF .f32) v6.1) : C) = (sl 1 (csF .f32) v6.1)) ∧ True) ∧ CallOK Try.prog 46 [.one (sl 1 (csF .f32) v10.1), .one (sl 1 (csF .f32) v6.1)] [.one (.bool v27)]) ∧ True ∧ True ∧ (True ∧ (!v27) = false) ∧ True ∧ True ∧ True ∧ True ∧ True) (by kernel_rfl) ⟨trivial, trivial, ⟨trivial, b26⟩, trivial, trivial, ⟨⟨rfl, rfl, trivial⟩, ok_laws_eqFloat32S K v10.1 v6.1 v27 e28⟩, trivial, trivial, ⟨trivial, b29⟩, trivial, trivial, trivial, trivial, trivial⟩ ⟨rfl, rfl⟩
        refine thenQ_normal ?_
        rcases ite2_cases h with ⟨b32, h⟩ | ⟨b32, h⟩
        · refine AW.cond_t rfl b32 ?_
          refine AW.seq ?_
          refine AW.regionA [] [2] [] (s' := ⟨[(2, (.v (.one (.c (.bool false)))))], []⟩) (ob := True ∧ True) (by kernel_rfl) ⟨trivial, trivial⟩ ?_
          refine thenQ_normal ?_
          refine AW.ret ?_
          refine thenQ_ret ?_
          replace h := some_eq h
          subst h
          exact ⟨.inr rfl, retOK_of [(.one (.c (.bool false)))] (by kernel_rfl) ⟨⟨rfl, trivial⟩, trivial⟩ (of_decide_eq_true (by kernel_rfl))⟩
        · refine AW.cond_f rfl b32 ?_
          refine AW.skip ?_
          refine thenQ_normal ?_
          refine AW.seq ?_
          refine AW.regionA [] [1, 4, 5, 7, 10] [1, 3, 6] (s' := ⟨[(1, (.v (.one (.ptr 1 0)))), (4, (.v (.one (.lst 3 v6.1.length 1 (gl (csF .f32) v6.1))))), (5, (.v (.one (.c (.bool v6.2))))), (7, (.v (.one (.arr 6)))), (10, (.v (.one (.c (.int .i64 (1 : Int))))))], [(1, (.box [(.c (.int .i64 a0.Bones)), (.c (sl 4 cs_Pose a0.Frames))])), (3, (.lst v6.1.length 1 (gl (csF .f32) v6.1))), (6, (.arr true v10.1.length 1 (gl (csF .f32) v10.1)))]⟩) (ob := True ∧ True) (by kernel_rfl) ⟨trivial, trivial⟩ ?_
          refine thenQ_normal ?_
          refine AW.seq ?_
          obtain ⟨v33, e34, h⟩ := bind_some h
          obtain ⟨c35, h⟩ := chk_some h
          refine AW.regionA [.no, .no, .callM [(.one (.mu (sl 1 (csF .f32) v10.1) (sl 1 (csF .f32) v33.2))), .one (.ro (.int .i64 (1 : Int)))] [.one (.int .i64 v33.1)] [[.view]] none] [1, 4, 5, 7, 10] [1, 3, 6] (s' := ⟨[(1, (.v (.one (.ptr 1 0)))), (4, (.v (.one (.lst 3 v6.1.length 1 (gl (csF .f32) v6.1))))), (5, (.v (.one (.c (.bool v6.2))))), (7, (.v (.one (.arr 6)))), (10, (.v (.one (.c (.int .i64 v33.1)))))], [(1, (.box [(.c (.int .i64 a0.Bones)), (.c (sl 4 cs_Pose a0.Frames))])), (3, (.lst v6.1.length 1 (gl (csF .f32) v6.1))), (6, (.arr true v33.2.length 1 (gl (csF .f32) v33.2)))]⟩) (ob := True ∧ True ∧ (((((sl 1 (csF .f32) v10.1) : C) = (sl 1 (csF .f32) v10.1) ∧ v33.2.length = v10.1.length ∧ 1 = 1 ∧ ∀ i j, i < v10.1.length → j < 1 → isSeq (gl (csF .f32) v33.2 i j) = isSeq (gl (csF .f32) v10.1 i j)) ∧ (((.int .i64 (1 : Int)) : C) = (.int .i64 (1 : Int))) ∧ True) ∧ MutOK Try.prog 47 [(.one (.mu (sl 1 (csF .f32) v10.1) (sl 1 (csF .f32) v33.2))), .one (.ro (.int .i64 (1 : Int)))] [.one (.int .i64 v33.1)]) ∧ True ∧ True) (by kernel_rfl) ⟨trivial, trivial, ⟨⟨⟨rfl, c35, rfl, gl_seq sqF⟩, rfl, trivial⟩, ok_laws_markFloat32S K v10.1 (1 : Int) v33 e34⟩, trivial, trivial⟩ ?_
          refine thenQ_normal ?_
          refine AW.seq ?_
          refine AW.regionA [] [1, 4, 5, 7, 10, 11] [1, 3, 6] (s' := ⟨[(1, (.v (.one (.ptr 1 0)))), (4, (.v (.one (.lst 3 v6.1.length 1 (gl (csF .f32) v6.1))))), (5, (.v (.one (.c (.bool v6.2))))), (7, (.v (.one (.arr 6)))), (10, (.v (.one (.c (.int .i64 v33.1))))), (11, (.v (.one (.c (.int .i64 (1 : Int))))))], [(1, (.box [(.c (.int .i64 a0.Bones)), (.c (sl 4 cs_Pose a0.Frames))])), (3, (.lst v6.1.length 1 (gl (csF .f32) v6.1))), (6, (.arr true v33.2.length 1 (gl (csF .f32) v33.2)))]⟩) (ob := True ∧ True) (by kernel_rfl) ⟨trivial, trivial⟩ ?_
          refine thenQ_normal ?_
          refine AW.seq ?_
          obtain ⟨v36, e37, h⟩ := bind_some h
          refine AW.regionA [.no, .no, .call [.one (sl 1 (csF .f32) v33.2), .one (.int .i64 (1 : Int))] [.one (.int .i64 v36)] [[.view]]] [1, 4, 5, 7, 10, 11] [1, 3, 6] (s' := ⟨[(1, (.v (.one (.ptr 1 0)))), (4, (.v (.one (.lst 3 v6.1.length 1 (gl (csF .f32) v6.1))))), (5, (.v (.one (.c (.bool v6.2))))), (7, (.v (.one (.arr 6)))), (10, (.v (.one (.c (.int .i64 v33.1))))), (11, (.v (.one (.c (.int .i64 v36)))))], [(1, (.box [(.c (.int .i64 a0.Bones)), (.c (sl 4 cs_Pose a0.Frames))])), (3, (.lst v6.1.length 1 (gl (csF .f32) v6.1))), (6, (.arr true v33.2.length 1 (gl (csF .f32) v33.2)))]⟩) (ob := True ∧ True ∧ (((((sl 1 (csF .f32) v33.2) : C) = (sl 1 (csF .f32) v33.2)) ∧ (((.int .i64 (1 : Int)) : C) = (.int .i64 (1 : Int))) ∧ True) ∧ CallOK Try.prog 48 [.one (sl 1 (csF .f32) v33.2), .one (.int .i64 (1 : Int))] [.one (.int .i64 v36)]) ∧ True ∧ True) (by kernel_rfl) ⟨trivial, trivial, ⟨⟨rfl, rfl, trivial⟩, ok_laws_heldFloat32S K v33.2 (1 : Int) v36 e37⟩, trivial, trivial⟩ ?_
          refine thenQ_normal ?_
          refine AW.seq ?_
          refine AW.seq ?_
          refine AW.regionA [] [1, 4, 5, 7, 10, 11, 69] [1, 3, 6] (s' := ⟨[(1, (.v (.one (.ptr 1 0)))), (4, (.v (.one (.lst 3 v6.1.length 1 (gl (csF .f32) v6.1))))), (5, (.v (.one (.c (.bool v6.2))))), (7, (.v (.one (.arr 6)))), (10, (.v (.one (.c (.int .i64 v33.1))))), (11, (.v (.one (.c (.int .i64 v36))))), (69, (.v (.one (.c (.bool (decide (v36 < (0 : Int))))))))], [(1, (.box [(.c (.int .i64 a0.Bones)), (.c (sl 4 cs_Pose a0.Frames))])), (3, (.lst v6.1.length 1 (gl (csF .f32) v6.1))), (6, (.arr true v33.2.length 1 (gl (csF .f32) v33.2)))]⟩) (ob := True ∧ True ∧ True) (by kernel_rfl) ⟨trivial, trivial, trivial⟩ ?_
          refine thenQ_normal ?_
          rcases ite2_cases h with ⟨b38, h⟩ | ⟨b38, h⟩
          · refine AW.cond_t rfl b38 ?_
            refine AW.seq ?_
            refine AW.regionA [] [2] [] (s' := ⟨[(2, (.v (.one (.c (.bool false)))))], []⟩) (ob := True ∧ True) (by kernel_rfl) ⟨trivial, trivial⟩ ?_
            refine thenQ_normal ?_
            refine AW.ret ?_
            refine thenQ_ret ?_
            replace h := some_eq h
            subst h
            exact ⟨.inr rfl, retOK_of [(.one (.c (.bool false)))] (by kernel_rfl) ⟨⟨rfl, trivial⟩, trivial⟩ (of_decide_eq_true (by kernel_rfl))⟩
          · refine AW.cond_f rfl b38 ?_
            refine AW.skip ?_
            refine thenQ_normal ?_
            refine AW.seq ?_
            refine AW.seq ?_
            refine AW.regionA [] [1, 4, 5, 7, 10, 72] [1, 3, 6] (s' := ⟨[(1, (.v (.one (.ptr 1 0)))), (4, (.v (.one (.lst 3 v6.1.length 1 (gl (csF .f32) v6.1))))), (5, (.v (.one (.c (.bool v6.2))))), (7, (.v (.one (.arr 6)))), (10, (.v (.one (.c (.int .i64 v33.1))))), (72, (.v (.one (.c (.bool (v36 != v33.1))))))], [(1, (.box [(.c (.int .i64 a0.Bones)), (.c (sl 4 cs_Pose a0.Frames))])), (3, (.lst v6.1.length 1 (gl (csF .f32) v6.1))), (6, (.arr true v33.2.length 1 (gl (csF .f32) v33.2)))]⟩) (ob := True ∧ True ∧ True ∧ True) (by kernel_rfl) ⟨trivial, trivial, trivial, trivial⟩ ?_
            refine thenQ_normal ?_
            rcases ite2_cases h with ⟨b39, h⟩ | ⟨b39, h⟩
            · refine AW.cond_t rfl b39 ?_
              refine AW.seq ?_
              refine AW.regionA [] [2] [] (s' := ⟨[(2, (.v (.one (.c (.bool false)))))], []⟩) (ob := True ∧ True) (by kernel_rfl) ⟨trivial, trivial⟩ ?_
              refine thenQ_normal ?_
              refine AW.ret ?_
              refine thenQ_ret ?_
              replace h := some_eq h
              subst h
              exact ⟨.inr rfl, retOK_of [(.one (.c (.bool false)))] (by kernel_rfl) ⟨⟨rfl, trivial⟩, trivial⟩ (of_decide_eq_true (by kernel_rfl))⟩
            · refine AW.cond_f rfl b39 ?_
              refine AW.skip ?_
              refine thenQ_normal ?_
              refine AW.seq ?_
              obtain ⟨v40, e41, h⟩ := bind_some h
              obtain ⟨v42, e43, h⟩ := bind_some h
              refine AW.regionA [.no, .call [.agg (cs_Recording a0)] [.agg (cs_Recording v40)] [[.view, .lst 8]], .call [.agg (cs_Recording v40)] [.one (sl 1 (csF .f32) v42.1), .one (.bool v42.2)] [[.lst 9], [.view]]] [4, 5, 7, 10, 12, 13] [3, 6, 9] (s' := ⟨[(4, (.v (.one (.lst 3 v6.1.length 1 (gl (csF .f32) v6.1))))), (5, (.v (.one (.c (.bool v6.2))))), (7, (.v (.one (.arr 6)))), (10, (.v (.one (.c (.int .i64 v33.1))))), (12, (.v (.one (.lst 9 v42.1.length 1 (gl (csF .f32) v42.1))))), (13, (.v (.one (.c (.bool v42.2)))))], [(3, (.lst v6.1.length 1 (gl (csF .f32) v6.1))), (6, (.arr true v33.2.length 1 (gl (csF .f32) v33.2))), (9, (.lst v42.1.length 1 (gl (csF .f32) v42.1)))]⟩) (ob := True ∧ ((((((.int .i64 a0.Bones) : C) = (.int .i64 a0.Bones)) ∧ (((sl 4 cs_Pose a0.Frames) : C) = (sl 4 cs_Pose a0.Frames)) ∧ True) ∧ True) ∧ CallOK Try.prog 23 [.agg (cs_Recording a0)] [.agg (cs_Recording v40)]) ∧ ((((((.int .i64 v40.Bones) : C) = (.int .i64 v40.Bones)) ∧ (((sl 4 cs_Pose v40.Frames) : C) = (sl 4 cs_Pose v40.Frames)) ∧ True) ∧ True) ∧ CallOK Try.prog 45 [.agg (cs_Recording v40)] [.one (sl 1 (csF .f32) v42.1), .one (.bool v42.2)]) ∧ True ∧ True ∧ True ∧ True ∧ True ∧ True) (by kernel_rfl) ⟨trivial, ⟨⟨⟨rfl, rfl, trivial⟩, trivial⟩, ok_laws_toRecording K a0 v40 e41⟩, ⟨⟨⟨rfl, rfl, trivial⟩, trivial⟩, ok_impl_MotionOf K v40 v42 e43⟩, trivial, trivial, trivial, trivial, trivial, trivial⟩ ?_
              refine thenQ_normal ?_
              refine AW.seq ?_
              refine AW.seq ?_
              obtain ⟨v44, e45, h⟩ := bind_some h
              obtain ⟨j47, e48, h⟩ := bind_some h
              refine AW.join1 (s2 := ⟨[(7, (.v (.one (.arr 6)))), (10, (.v (.one (.c (.int .i64 v33.1))))), (87, (.v (.one (.c (.bool j47)))))], [(6, (.arr true v33.2.length 1 (gl (csF .f32) v33.2)))]⟩) ?_ ?_
              · rcases ite2_cases e48 with ⟨b46, e48⟩ | ⟨b46, e48⟩
                · replace e48 := some_eq e48
                  subst e48
                  exact AW.regionA [.no, .no, .call [.one (sl 1 (csF .f32) v42.1), .one (sl 1 (csF .f32) v6.1)] [.one (.bool v44)] [[.view]], .no, .dec true] [7, 10, 87] [6] (s' := ⟨[(7, (.v (.one (.arr 6)))), (10, (.v (.one (.c (.int .i64 v33.1))))), (87, (.v (.one (.c (.bool true)))))], [(6, (.arr true v33.2.length 1 (gl (csF .f32) v33.2)))]⟩) (ob := True ∧ True ∧ (((((sl 1 (csF .f32) v42.1) : C) = (sl 1 (csF .f32) v42.1)) ∧ (((sl 1 (csF .f32) v6.1) : C) = (sl 1 (csF .f32) v6.1)) ∧ True) ∧ CallOK Try.prog 46 [.one (sl 1 (csF .f32) v42.1), .one (sl 1 (csF .f32) v6.1)] [.one (.bool v44)]) ∧ True ∧ (True ∧ (!v44) = true) ∧ True ∧ True ∧ True ∧ True ∧ True) (by kernel_rfl) ⟨trivial, trivial, ⟨⟨rfl, rfl, trivial⟩, ok_laws_eqFloat32S K v42.1 v6.1 v44 e45⟩, trivial, ⟨trivial, b46⟩, trivial, trivial, trivial, trivial, trivial⟩ ⟨rfl, rfl⟩
                · replace e48 := some_eq e48
                  subst e48
                  exact AW.regionA [.no, .no, .call [.one (sl 1 (csF .f32) v42.1), .one (sl 1 (csF .f32) v6.1)] [.one (.bool v44)] [[.view]], .no, .dec false] [7, 10, 87] [6] (s' := ⟨[(7, (.v (.one (.arr 6)))), (10, (.v (.one (.c (.int .i64 v33.1))))), (87, (.v (.one (.c (.bool (!(v42.2 == v6.2)))))))], [(6, (.arr true v33.2.length 1 (gl (csF .f32) v33.2)))]⟩) (ob := True ∧ True ∧ (((((sl 1 (csF .f32) v42.1) : C) = (sl 1 (csF .f32) v42.1)) ∧ (((sl 1 (csF .f32) v6.1) : C) = (sl 1 (csF .f32) v6.1)) ∧ True) ∧ CallOK Try.prog 46 [.one (sl 1 (csF .f32) v42.1), .one (sl 1 (csF .f32) v6.1)] [.one (.bool v44)]) ∧ True ∧ (True ∧ (!v44) = false) ∧ True ∧ True ∧ True ∧ True ∧ True) (by kernel_rfl) ⟨trivial, trivial, ⟨⟨rfl, rfl, trivial⟩, ok_laws_eqFloat32S K v42.1 v6.1 v44 e45⟩, trivial, ⟨trivial, b46⟩, trivial, trivial, trivial, trivial, trivial⟩ ⟨rfl, rfl⟩
              refine thenQ_normal ?_
              rcases ite2_cases h with ⟨b49, h⟩ | ⟨b49, h⟩
              · refine AW.cond_t rfl b49 ?_
                refine AW.seq ?_
                refine AW.regionA [] [2] [] (s' := ⟨[(2, (.v (.one (.c (.bool false)))))], []⟩) (ob := True ∧ True) (by kernel_rfl) ⟨trivial, trivial⟩ ?_
                refine thenQ_normal ?_
                refine AW.ret ?_
                refine thenQ_ret ?_
                replace h := some_eq h
                subst h
                exact ⟨.inr rfl, retOK_of [(.one (.c (.bool false)))] (by kernel_rfl) ⟨⟨rfl, trivial⟩, trivial⟩ (of_decide_eq_true (by kernel_rfl))⟩
              · refine AW.cond_f rfl b49 ?_
                refine AW.skip ?_
                refine thenQ_normal ?_
                refine AW.seq ?_
                refine AW.regionA [] [7, 10, 11] [6] (s' := ⟨[(7, (.v (.one (.arr 6)))), (10, (.v (.one (.c (.int .i64 v33.1))))), (11, (.v (.one (.c (.int .i64 (1 : Int))))))], [(6, (.arr true v33.2.length 1 (gl (csF .f32) v33.2)))]⟩) (ob := True ∧ True) (by kernel_rfl) ⟨trivial, trivial⟩ ?_
                refine thenQ_normal ?_
                refine AW.seq ?_
                obtain ⟨v50, e51, h⟩ := bind_some h
                refine AW.regionA [.no, .no, .call [.one (sl 1 (csF .f32) v33.2), .one (.int .i64 (1 : Int))] [.one (.int .i64 v50)] [[.view]]] [10, 11] [] (s' := ⟨[(10, (.v (.one (.c (.int .i64 v33.1))))), (11, (.v (.one (.c (.int .i64 v50)))))], []⟩) (ob := True ∧ True ∧ (((((sl 1 (csF .f32) v33.2) : C) = (sl 1 (csF .f32) v33.2)) ∧ (((.int .i64 (1 : Int)) : C) = (.int .i64 (1 : Int))) ∧ True) ∧ CallOK Try.prog 48 [.one (sl 1 (csF .f32) v33.2), .one (.int .i64 (1 : Int))] [.one (.int .i64 v50)]) ∧ True ∧ True) (by kernel_rfl) ⟨trivial, trivial, ⟨⟨rfl, rfl, trivial⟩, ok_laws_heldFloat32S K v33.2 (1 : Int) v50 e51⟩, trivial, trivial⟩ ?_
                refine thenQ_normal ?_
                refine AW.seq ?_
                refine AW.seq ?_
                refine AW.regionA [] [10, 11, 92] [] (s' := ⟨[(10, (.v (.one (.c (.int .i64 v33.1))))), (11, (.v (.one (.c (.int .i64 v50))))), (92, (.v (.one (.c (.bool (decide (v50 < (0 : Int))))))))], []⟩) (ob := True ∧ True ∧ True) (by kernel_rfl) ⟨trivial, trivial, trivial⟩ ?_
                refine thenQ_normal ?_
                rcases ite2_cases h with ⟨b52, h⟩ | ⟨b52, h⟩
                · refine AW.cond_t rfl b52 ?_
                  refine AW.seq ?_
                  refine AW.regionA [] [2] [] (s' := ⟨[(2, (.v (.one (.c (.bool false)))))], []⟩) (ob := True ∧ True) (by kernel_rfl) ⟨trivial, trivial⟩ ?_
                  refine thenQ_normal ?_
                  refine AW.ret ?_
                  refine thenQ_ret ?_
                  replace h := some_eq h
                  subst h
                  exact ⟨.inr rfl, retOK_of [(.one (.c (.bool false)))] (by kernel_rfl) ⟨⟨rfl, trivial⟩, trivial⟩ (of_decide_eq_true (by kernel_rfl))⟩
                · refine AW.cond_f rfl b52 ?_
                  refine AW.skip ?_
                  refine thenQ_normal ?_
                  refine AW.seq ?_
                  refine AW.seq ?_
                  refine AW.regionA [] [95] [] (s' := ⟨[(95, (.v (.one (.c (.bool (v50 != v33.1))))))], []⟩) (ob := True ∧ True ∧ True ∧ True) (by kernel_rfl) ⟨trivial, trivial, trivial, trivial⟩ ?_
                  refine thenQ_normal ?_
                  rcases ite2_cases h with ⟨b53, h⟩ | ⟨b53, h⟩
                  · refine AW.cond_t rfl b53 ?_
                    refine AW.seq ?_
                    refine AW.regionA [] [2] [] (s' := ⟨[(2, (.v (.one (.c (.bool false)))))], []⟩) (ob := True ∧ True) (by kernel_rfl) ⟨trivial, trivial⟩ ?_
                    refine thenQ_normal ?_
                    refine AW.ret ?_
                    refine thenQ_ret ?_
                    replace h := some_eq h
                    subst h
                    exact ⟨.inr rfl, retOK_of [(.one (.c (.bool false)))] (by kernel_rfl) ⟨⟨rfl, trivial⟩, trivial⟩ (of_decide_eq_true (by kernel_rfl))⟩
                  · refine AW.cond_f rfl b53 ?_
                    refine AW.skip ?_
                    refine thenQ_normal ?_
                    refine AW.seq ?_
                    refine AW.regionA [] [2] [] (s' := ⟨[(2, (.v (.one (.c (.bool true)))))], []⟩) (ob := True ∧ True) (by kernel_rfl) ⟨trivial, trivial⟩ ?_
                    refine thenQ_normal ?_
                    refine AW.ret ?_
                    replace h := some_eq h
                    subst h
                    exact ⟨.inr rfl, retOK_of [(.one (.c (.bool true)))] (by kernel_rfl) ⟨⟨rfl, trivial⟩, trivial⟩ (of_decide_eq_true (by kernel_rfl))⟩

end
end Go.Fw
