/- Functions of the program: what each computes, and that it computes just that. -/
import Derived.Test.YtcemiphbmkkpeafFwTy
import Derived.Test.YtcemiphbmkkpeafFwH
import Derived.Test.YtcemiphbmkkpeafFwV
import Derived.Test.YtcemiphbmkkpeafFwPC1
import Derived.Test.YtcemiphbmkkpeafFwMK
import Derived.Test.YtcemiphbmkkpeafProg
import Derived.KernelRfl
namespace Go.Fw
open Go Go.Proofs
noncomputable section
set_option maxRecDepth 10000

/-! impl.JoinRecordings -/
def Zt4 (QE : Prop) : Prop := ((Tt ∧ (Tt ∧ (Tt ∧ (Tt ∧ Tt)))) ∧ (Tt ∧ (Tt ∧ (Tt ∧ (Tt ∧ Tt)))) ∧ QE)
theorem zt4 {QE : Prop} (qe : QE) : Zt4 QE := ⟨⟨tr, ⟨tr, ⟨tr, ⟨tr, tr⟩⟩⟩⟩, ⟨tr, ⟨tr, ⟨tr, ⟨tr, tr⟩⟩⟩⟩, qe⟩
def impl_JoinRecordings (K : Nat) (a0 : Recording) (a1 : Recording) : Option (Recording × Bool) :=
  (impl_ValidRecording K a0).bind fun v1 => (ite2 ((!v1)) (some true) ((impl_ValidRecording K a1).bind fun v4 => ite2 ((!v4)) (some true) (some (a0.Bones != a1.Bones)))).bind fun j7 => ite2 (j7) (some ((Recording.mk (0 : Int) ([] : (List Pose))), false)) ((impl_frames K a0.Frames).bind fun v10 => (impl_frames K a1.Frames).bind fun v12 => chk ((v10.length + v12.length) * 40 ≤ 140737488355328) ((impl_validRecording K (Recording.mk a0.Bones (v10 ++ v12))).bind fun v15 => some (v15.1, v15.2)))

theorem ok_impl_JoinRecordings (K : Nat) (a0 : Recording) (a1 : Recording) (o : (Recording × Bool)) (h : impl_JoinRecordings K a0 a1 = some o) : CallOK Try.prog 8 [.agg (cs_Recording a0), .agg (cs_Recording a1)] [.agg (cs_Recording o.1), .one (.bool o.2)] := by
  refine callOK_of_AW Try.func8 rfl (by kernel_rfl) (Nat.le_of_ble_eq_true (by kernel_rfl)) ?_
  intro w0
  unfold impl_JoinRecordings at h
  refine AW.seq (AW.rA ⟨[(2, (vp 1 0)), (3, (vp 2 0)), (4, (vp 3 0))], [(1, (.box [(.c (.int .i64 a0.Bones)), (.c (sl 4 cs_Pose a0.Frames))])), (2, (.box [(.c (.int .i64 a1.Bones)), (.c (sl 4 cs_Pose a1.Frames))])), (3, (.box [(.c (.int .i64 (0 : Int))), .nils]))]⟩ (T4 Tt) [.box 1, .box 2, .box 3] [2, 3, 4] [1, 2, 3] ⟨tr, tr, tr, tr, tr⟩ (thenQ_normal ?_))
  refine AW.seq ?_
  refine AW.seq ?_
  obtain ⟨v1, e2, h⟩ := bind_some h
  obtain ⟨j7, e8, h⟩ := bind_some h
  refine AW.join1 (s2 := ⟨[(2, (vp 1 0)), (3, (vp 2 0)), (4, (vp 3 0)), (20, (vc (.bool j7)))], [(1, (.box [(.c (.int .i64 a0.Bones)), (.c (sl 4 cs_Pose a0.Frames))])), (2, (.box [(.c (.int .i64 a1.Bones)), (.c (sl 4 cs_Pose a1.Frames))])), (3, (.box [(.c (.int .i64 (0 : Int))), .nils]))]⟩) ?_ ?_
  · rcases ite2_cases e8 with ⟨b3, e8⟩ | ⟨b3, e8⟩
    · replace e8 := some_eq e8
      subst e8
      exact AW.rA ⟨[(2, (vp 1 0)), (3, (vp 2 0)), (4, (vp 3 0)), (20, (vc (.bool true)))], [(1, (.box [(.c (.int .i64 a0.Bones)), (.c (sl 4 cs_Pose a0.Frames))])), (2, (.box [(.c (.int .i64 a1.Bones)), (.c (sl 4 cs_Pose a1.Frames))])), (3, (.box [(.c (.int .i64 (0 : Int))), .nils]))]⟩ (Tt ∧ ((((Eqc (.int .i64 a0.Bones)) ∧ (Eqc (sl 4 cs_Pose a0.Frames)) ∧ Tt) ∧ Tt) ∧ CallOK Try.prog 10 [.agg (cs_Recording a0)] [.one (.bool v1)]) ∧ Tt ∧ (Tt ∧ (!v1) = true) ∧ Tt ∧ T2 (T4 (T4 Tt))) [.no, .call [.agg (cs_Recording a0)] [.one (.bool v1)] [[.view]], .no, .dec true] [2, 3, 4, 20] [1, 2, 3] ⟨tr, ⟨⟨⟨rfl, rfl, tr⟩, tr⟩, ok_impl_ValidRecording K a0 v1 e2⟩, tr, ⟨tr, b3⟩, tr, tr, tr, tr, tr, tr, tr, tr, tr, tr, tr, tr⟩ ⟨rfl, rfl⟩
    · obtain ⟨v4, e5, e8⟩ := bind_some e8
      rcases ite2_cases e8 with ⟨b6, e8⟩ | ⟨b6, e8⟩
      · replace e8 := some_eq e8
        subst e8
        exact AW.rA ⟨[(2, (vp 1 0)), (3, (vp 2 0)), (4, (vp 3 0)), (20, (vc (.bool true)))], [(1, (.box [(.c (.int .i64 a0.Bones)), (.c (sl 4 cs_Pose a0.Frames))])), (2, (.box [(.c (.int .i64 a1.Bones)), (.c (sl 4 cs_Pose a1.Frames))])), (3, (.box [(.c (.int .i64 (0 : Int))), .nils]))]⟩ (Tt ∧ ((((Eqc (.int .i64 a0.Bones)) ∧ (Eqc (sl 4 cs_Pose a0.Frames)) ∧ Tt) ∧ Tt) ∧ CallOK Try.prog 10 [.agg (cs_Recording a0)] [.one (.bool v1)]) ∧ Tt ∧ (Tt ∧ (!v1) = false) ∧ Tt ∧ ((((Eqc (.int .i64 a1.Bones)) ∧ (Eqc (sl 4 cs_Pose a1.Frames)) ∧ Tt) ∧ Tt) ∧ CallOK Try.prog 10 [.agg (cs_Recording a1)] [.one (.bool v4)]) ∧ T2 ((Tt ∧ (!v4) = true) ∧ T2 (T4 Tt))) [.no, .call [.agg (cs_Recording a0)] [.one (.bool v1)] [[.view]], .no, .dec false, .no, .call [.agg (cs_Recording a1)] [.one (.bool v4)] [[.view]], .no, .no, .dec true] [2, 3, 4, 20] [1, 2, 3] ⟨tr, ⟨⟨⟨rfl, rfl, tr⟩, tr⟩, ok_impl_ValidRecording K a0 v1 e2⟩, tr, ⟨tr, b3⟩, tr, ⟨⟨⟨rfl, rfl, tr⟩, tr⟩, ok_impl_ValidRecording K a1 v4 e5⟩, tr, tr, ⟨tr, b6⟩, tr, tr, tr, tr, tr, tr, tr⟩ ⟨rfl, rfl⟩
      · replace e8 := some_eq e8
        subst e8
        exact AW.rA ⟨[(2, (vp 1 0)), (3, (vp 2 0)), (4, (vp 3 0)), (20, (vc (.bool (a0.Bones != a1.Bones))))], [(1, (.box [(.c (.int .i64 a0.Bones)), (.c (sl 4 cs_Pose a0.Frames))])), (2, (.box [(.c (.int .i64 a1.Bones)), (.c (sl 4 cs_Pose a1.Frames))])), (3, (.box [(.c (.int .i64 (0 : Int))), .nils]))]⟩ (Tt ∧ ((((Eqc (.int .i64 a0.Bones)) ∧ (Eqc (sl 4 cs_Pose a0.Frames)) ∧ Tt) ∧ Tt) ∧ CallOK Try.prog 10 [.agg (cs_Recording a0)] [.one (.bool v1)]) ∧ Tt ∧ (Tt ∧ (!v1) = false) ∧ Tt ∧ ((((Eqc (.int .i64 a1.Bones)) ∧ (Eqc (sl 4 cs_Pose a1.Frames)) ∧ Tt) ∧ Tt) ∧ CallOK Try.prog 10 [.agg (cs_Recording a1)] [.one (.bool v4)]) ∧ T2 ((Tt ∧ (!v4) = false) ∧ T2 (T4 Tt))) [.no, .call [.agg (cs_Recording a0)] [.one (.bool v1)] [[.view]], .no, .dec false, .no, .call [.agg (cs_Recording a1)] [.one (.bool v4)] [[.view]], .no, .no, .dec false] [2, 3, 4, 20] [1, 2, 3] ⟨tr, ⟨⟨⟨rfl, rfl, tr⟩, tr⟩, ok_impl_ValidRecording K a0 v1 e2⟩, tr, ⟨tr, b3⟩, tr, ⟨⟨⟨rfl, rfl, tr⟩, tr⟩, ok_impl_ValidRecording K a1 v4 e5⟩, tr, tr, ⟨tr, b6⟩, tr, tr, tr, tr, tr, tr, tr⟩ ⟨rfl, rfl⟩
  refine thenQ_normal ?_
  rcases ite2_cases h with ⟨b9, h⟩ | ⟨b9, h⟩
  · refine AW.cond_t rfl b9 ?_
    refine AW.seq (AW.rA ⟨[(4, (vp 3 0)), (5, (vc (.bool false)))], [(3, (.box [(.c (.int .i64 (0 : Int))), .nils]))]⟩ (Tt ∧ T2 Tt) [] [4, 5] [3] ⟨tr, tr, tr, tr⟩ (thenQ_normal ?_))
    refine AW.ret ?_
    refine thenQ_ret ?_
    replace h := some_eq h
    subst h
    exact ⟨.inr rfl, retOK_of [(.agg [(.c (.int .i64 (0 : Int))), .nils]), (.one (.c (.bool false)))] (by kernel_rfl) ⟨⟨⟨rfl, tr⟩, rfl, tr⟩, ⟨rfl, tr⟩, tr⟩ (of_decide_eq_true (by kernel_rfl))⟩
  · refine AW.cond_f rfl b9 ?_
    refine AW.skip ?_
    refine thenQ_normal ?_
    refine AW.seq ?_
    obtain ⟨v10, e11, h⟩ := bind_some h
    obtain ⟨v12, e13, h⟩ := bind_some h
    obtain ⟨c14, h⟩ := chk_some h
    obtain ⟨v15, e16, h⟩ := bind_some h
    refine AW.treeA (by kernel_rfl) 10 [.no, .no, .no, .no, .call [.one (sl 4 cs_Pose a0.Frames)] [.one (sl 4 cs_Pose v10)] [[.own 4]], .no, .no, .call [.one (sl 4 cs_Pose a1.Frames)] [.one (sl 4 cs_Pose v12)] [[.own 5]], .objD 6 (v10 ++ v12).length (gl cs_Pose (v10 ++ v12)), .no, .callM [(.agg [(.ro (.int .i64 a0.Bones)), (.mv (sl 4 cs_Pose (v10 ++ v12)))])] [.agg (cs_Recording v15.1), .one (.bool v15.2)] [[.view, .lst 7], [.view]] none] [4, 5] [3, 7] (s' := ⟨[(4, (vp 3 0)), (5, (vc (.bool v15.2)))], [(3, (.box [(.c (.int .i64 v15.1.Bones)), (.lst 7 v15.1.Frames.length 4 (gl cs_Pose v15.1.Frames))])), (7, (.lst v15.1.Frames.length 4 (gl cs_Pose v15.1.Frames)))]⟩) (ob := (T4 ((((Eqc (sl 4 cs_Pose a0.Frames)) ∧ Tt) ∧ CallOK Try.prog 19 [.one (sl 4 cs_Pose a0.Frames)] [.one (sl 4 cs_Pose v10)]) ∧ T2 ((((Eqc (sl 4 cs_Pose a1.Frames)) ∧ Tt) ∧ CallOK Try.prog 19 [.one (sl 4 cs_Pose a1.Frames)] [.one (sl 4 cs_Pose v12)]) ∧ ((v10 ++ v12).length = v10.length + v12.length ∧ AppOb (v10.length) (v12.length) 4 (gl cs_Pose v10) (gl cs_Pose v12) (gl cs_Pose (v10 ++ v12)) ∧ Tt ∧ (v10.length + v12.length) * 40 ≤ 140737488355328) ∧ Tt ∧ Tt))) ∧ ((((((Eqc (.int .i64 a0.Bones)) ∧ (Eqc (sl 4 cs_Pose (v10 ++ v12))) ∧ Tt) ∧ Tt) ∧ MutOK Try.prog 20 [(.agg [(.ro (.int .i64 a0.Bones)), (.mv (sl 4 cs_Pose (v10 ++ v12)))])] [.agg (cs_Recording v15.1), .one (.bool v15.2)])) ∧ (Zt4 ((⟨[(4, (vp 3 0)), (5, (vc (.bool v15.2)))], [(3, (.box [(.c (.int .i64 v15.1.Bones)), (.lst 7 v15.1.Frames.length 4 (gl cs_Pose v15.1.Frames))])), (7, (.lst v15.1.Frames.length 4 (gl cs_Pose v15.1.Frames)))]⟩ : St) = ⟨[(4, (vp 3 0)), (5, (vc (.bool v15.2)))], [(3, (.box [(.c (.int .i64 v15.1.Bones)), (.lst 7 v15.1.Frames.length 4 (gl cs_Pose v15.1.Frames))])), (7, (.lst v15.1.Frames.length 4 (gl cs_Pose v15.1.Frames)))]⟩)))) (by kernel_rfl) ⟨⟨tr, tr, tr, tr, ⟨⟨rfl, tr⟩, ok_impl_frames K a0.Frames v10 e11⟩, tr, tr, ⟨⟨rfl, tr⟩, ok_impl_frames K a1.Frames v12 e13⟩, ⟨List.length_append, gl_append, tr, c14⟩, tr, tr⟩, ⟨⟨⟨⟨rfl, rfl, tr⟩, tr⟩, ok_impl_validRecording K (Recording.mk a0.Bones (v10 ++ v12)) v15 e16⟩, (zt4 rfl)⟩⟩ ?_
    refine thenQ_normal ?_
    refine AW.ret ?_
    replace h := some_eq h
    subst h
    exact ⟨.inr rfl, retOK_of [(.agg [(.c (.int .i64 v15.1.Bones)), (.lst 7 v15.1.Frames.length 4 (gl cs_Pose v15.1.Frames))]), (.one (.c (.bool v15.2)))] (by kernel_rfl) ⟨⟨⟨rfl, tr⟩, rfl, tr⟩, ⟨rfl, tr⟩, tr⟩ (of_decide_eq_true (by kernel_rfl))⟩

/-! math.Float64bits -/
def math_Float64bits (_K : Nat) (a0 : F64) : Option (Int) :=
  a0.toBits

theorem ok_math_Float64bits (K : Nat) (a0 : F64) (o : Int) (h : math_Float64bits K a0 = some o) : CallOK Try.prog 42 [.one (.flt .f64 a0.bits)] [.one (.int .u64 o)] :=
  hand_toBits (e := Extern.MathFloatBits.float64bits) Try.func42 (by kernel_rfl) (by kernel_rfl) (by kernel_rfl) (by kernel_rfl) (fun _ _ => rfl) a0 o h

/-! math.Signbit -/
def math_Signbit (K : Nat) (a0 : F64) : Option (Bool) :=
  (math_Float64bits K a0).bind fun v1 => some (decide ((IntKind.i64.wrap v1) < (0 : Int)))

theorem ok_math_Signbit (K : Nat) (a0 : F64) (o : (Bool)) (h : math_Signbit K a0 = some o) : CallOK Try.prog 32 [.one (.flt .f64 a0.bits)] [.one (.bool o)] := by
  refine callOK_of_AW Try.func32 rfl (by kernel_rfl) (Nat.le_of_ble_eq_true (by kernel_rfl)) ?_
  intro w0
  unfold math_Signbit at h
  refine AW.seq (AW.rA ⟨[(0, (vc (.flt .f64 a0.bits)))], []⟩ (Tt ∧ Tt) [] [0] [] ⟨tr, tr⟩ (thenQ_normal ?_))
  refine AW.seq ?_
  obtain ⟨v1, e2, h⟩ := bind_some h
  refine AW.rA ⟨[(2, (vc (.bool (decide ((IntKind.i64.wrap v1) < (0 : Int))))))], []⟩ (Tt ∧ (((Eqc (.flt .f64 a0.bits)) ∧ Tt) ∧ CallOK Try.prog 42 [.one (.flt .f64 a0.bits)] [.one (.int .u64 v1)]) ∧ Tt ∧ T2 Tt) [.no, .call [.one (.flt .f64 a0.bits)] [.one (.int .u64 v1)] [[.view]]] [2] [] ⟨tr, ⟨⟨rfl, tr⟩, ok_math_Float64bits K a0 v1 e2⟩, tr, tr, tr, tr⟩ ?_
  refine thenQ_normal ?_
  refine AW.ret ?_
  replace h := some_eq h
  subst h
  exact ⟨.inr rfl, retOK_of [(.one (.c (.bool (decide ((IntKind.i64.wrap v1) < (0 : Int))))))] (by kernel_rfl) ⟨⟨rfl, tr⟩, tr⟩ (of_decide_eq_true (by kernel_rfl))⟩

/-! impl.SameNumber -/
def impl_SameNumber (K : Nat) (a0 : F32) (a1 : F32) : Option (Bool) :=
  (ite2 ((a0.ne a0)) (some true) (some (a1.ne a1))).bind fun j2 => ite2 (j2) ((ite2 ((a0.ne a0)) (some (a1.ne a1)) (some false)).bind fun j6 => some j6) ((ite2 ((a0.eq a1)) ((math_Signbit K (Fl.cv .f32 .f64 a0)).bind fun v9 => (math_Signbit K (Fl.cv .f32 .f64 a1)).bind fun v11 => some (v9 == v11)) (some false)).bind fun j13 => some j13)

theorem ok_impl_SameNumber (K : Nat) (a0 : F32) (a1 : F32) (o : (Bool)) (h : impl_SameNumber K a0 a1 = some o) : CallOK Try.prog 16 [.one (.flt .f32 a0.bits), .one (.flt .f32 a1.bits)] [.one (.bool o)] := by
  refine callOK_of_AW Try.func16 rfl (by kernel_rfl) (Nat.le_of_ble_eq_true (by kernel_rfl)) ?_
  intro w0
  unfold impl_SameNumber at h
  refine AW.seq (AW.rA ⟨[(0, (vc (.flt .f32 a0.bits))), (1, (vc (.flt .f32 a1.bits)))], []⟩ (Tt ∧ Tt) [] [0, 1] [] ⟨tr, tr⟩ (thenQ_normal ?_))
  refine AW.seq ?_
  refine AW.seq ?_
  obtain ⟨j2, e3, h⟩ := bind_some h
  refine AW.join1 (s2 := ⟨[(0, (vc (.flt .f32 a0.bits))), (1, (vc (.flt .f32 a1.bits))), (12, (vc (.bool j2)))], []⟩) ?_ ?_
  · rcases ite2_cases e3 with ⟨b1, e3⟩ | ⟨b1, e3⟩
    · replace e3 := some_eq e3
      subst e3
      exact AW.rA ⟨[(0, (vc (.flt .f32 a0.bits))), (1, (vc (.flt .f32 a1.bits))), (12, (vc (.bool true)))], []⟩ (Tt ∧ T2 ((Tt ∧ (a0.ne a0) = true) ∧ T4 Tt)) [.no, .no, .no, .dec true] [0, 1, 12] [] ⟨tr, tr, tr, ⟨tr, b1⟩, tr, tr, tr, tr, tr⟩ ⟨rfl, rfl⟩
    · replace e3 := some_eq e3
      subst e3
      exact AW.rA ⟨[(0, (vc (.flt .f32 a0.bits))), (1, (vc (.flt .f32 a1.bits))), (12, (vc (.bool (a1.ne a1))))], []⟩ (Tt ∧ T2 ((Tt ∧ (a0.ne a0) = false) ∧ T4 Tt)) [.no, .no, .no, .dec false] [0, 1, 12] [] ⟨tr, tr, tr, ⟨tr, b1⟩, tr, tr, tr, tr, tr⟩ ⟨rfl, rfl⟩
  refine thenQ_normal ?_
  rcases ite2_cases h with ⟨b4, h⟩ | ⟨b4, h⟩
  · refine AW.cond_t rfl b4 ?_
    refine AW.seq ?_
    obtain ⟨j6, e7, h⟩ := bind_some h
    refine AW.join1 (s2 := ⟨[(4, (vc (.bool j6)))], []⟩) ?_ ?_
    · rcases ite2_cases e7 with ⟨b5, e7⟩ | ⟨b5, e7⟩
      · replace e7 := some_eq e7
        subst e7
        exact AW.rA ⟨[(4, (vc (.bool (a1.ne a1))))], []⟩ (Tt ∧ T2 ((Tt ∧ (a0.ne a0) = true) ∧ Tt ∧ T4 Tt)) [.no, .no, .no, .dec true] [4] [] ⟨tr, tr, tr, ⟨tr, b5⟩, tr, tr, tr, tr, tr, tr⟩ ⟨rfl, rfl⟩
      · replace e7 := some_eq e7
        subst e7
        exact AW.rA ⟨[(4, (vc (.bool false)))], []⟩ (Tt ∧ T2 ((Tt ∧ (a0.ne a0) = false) ∧ Tt ∧ T4 Tt)) [.no, .no, .no, .dec false] [4] [] ⟨tr, tr, tr, ⟨tr, b5⟩, tr, tr, tr, tr, tr, tr⟩ ⟨rfl, rfl⟩
    refine thenQ_normal ?_
    refine AW.ret ?_
    refine thenQ_ret ?_
    replace h := some_eq h
    subst h
    exact ⟨.inr rfl, retOK_of [(.one (.c (.bool j6)))] (by kernel_rfl) ⟨⟨rfl, tr⟩, tr⟩ (of_decide_eq_true (by kernel_rfl))⟩
  · refine AW.cond_f rfl b4 ?_
    refine AW.skip ?_
    refine thenQ_normal ?_
    refine AW.seq ?_
    obtain ⟨j13, e14, h⟩ := bind_some h
    refine AW.join1 (s2 := ⟨[(4, (vc (.bool j13)))], []⟩) ?_ ?_
    · rcases ite2_cases e14 with ⟨b8, e14⟩ | ⟨b8, e14⟩
      · obtain ⟨v9, e10, e14⟩ := bind_some e14
        obtain ⟨v11, e12, e14⟩ := bind_some e14
        replace e14 := some_eq e14
        subst e14
        exact AW.rA ⟨[(4, (vc (.bool (v9 == v11))))], []⟩ (Tt ∧ T2 ((Tt ∧ (a0.eq a1) = true) ∧ Tt ∧ ((convBits .f32 a0.bits .f64).isSome = true) ∧ (((Eqc (.flt .f64 (Fl.cv .f32 .f64 a0).bits)) ∧ Tt) ∧ CallOK Try.prog 32 [.one (.flt .f64 (Fl.cv .f32 .f64 a0).bits)] [.one (.bool v9)]) ∧ Tt ∧ ((convBits .f32 a1.bits .f64).isSome = true) ∧ (((Eqc (.flt .f64 (Fl.cv .f32 .f64 a1).bits)) ∧ Tt) ∧ CallOK Try.prog 32 [.one (.flt .f64 (Fl.cv .f32 .f64 a1).bits)] [.one (.bool v11)]) ∧ Tt ∧ T2 Tt)) [.no, .no, .no, .dec true, .no, .no, .call [.one (.flt .f64 (Fl.cv .f32 .f64 a0).bits)] [.one (.bool v9)] [[.view]], .no, .no, .call [.one (.flt .f64 (Fl.cv .f32 .f64 a1).bits)] [.one (.bool v11)] [[.view]]] [4] [] ⟨tr, tr, tr, ⟨tr, b8⟩, tr, cv_wide a0, ⟨⟨rfl, tr⟩, ok_math_Signbit K (Fl.cv .f32 .f64 a0) v9 e10⟩, tr, cv_wide a1, ⟨⟨rfl, tr⟩, ok_math_Signbit K (Fl.cv .f32 .f64 a1) v11 e12⟩, tr, tr, tr, tr⟩ ⟨rfl, rfl⟩
      · replace e14 := some_eq e14
        subst e14
        exact AW.rA ⟨[(4, (vc (.bool false)))], []⟩ (Tt ∧ T2 ((Tt ∧ (a0.eq a1) = false) ∧ Tt ∧ T4 (T4 Tt))) [.no, .no, .no, .dec false] [4] [] ⟨tr, tr, tr, ⟨tr, b8⟩, tr, tr, tr, tr, tr, tr, tr, tr, tr, tr⟩ ⟨rfl, rfl⟩
    refine thenQ_normal ?_
    refine AW.ret ?_
    replace h := some_eq h
    subst h
    exact ⟨.inr rfl, retOK_of [(.one (.c (.bool j13)))] (by kernel_rfl) ⟨⟨rfl, tr⟩, tr⟩ (of_decide_eq_true (by kernel_rfl))⟩

/-! impl.SameVector -/
def impl_SameVector (K : Nat) (a0 : Vector) (a1 : Vector) : Option (Bool) :=
  (impl_SameNumber K a0.X a1.X).bind fun v1 => (ite2 (v1) ((impl_SameNumber K a0.Y a1.Y).bind fun v4 => ite2 (v4) ((impl_SameNumber K a0.Z a1.Z).bind fun v7 => some v7) (some false)) (some false)).bind fun j9 => some j9

theorem ok_impl_SameVector (K : Nat) (a0 : Vector) (a1 : Vector) (o : (Bool)) (h : impl_SameVector K a0 a1 = some o) : CallOK Try.prog 29 [.agg (cs_Vector a0), .agg (cs_Vector a1)] [.one (.bool o)] := by
  refine callOK_of_AW Try.func29 rfl (by kernel_rfl) (Nat.le_of_ble_eq_true (by kernel_rfl)) ?_
  intro w0
  unfold impl_SameVector at h
  refine AW.seq (AW.rA ⟨[(2, (vp 1 0)), (3, (vp 2 0))], [(1, (.box [(.c (.flt .f32 a0.X.bits)), (.c (.flt .f32 a0.Y.bits)), (.c (.flt .f32 a0.Z.bits))])), (2, (.box [(.c (.flt .f32 a1.X.bits)), (.c (.flt .f32 a1.Y.bits)), (.c (.flt .f32 a1.Z.bits))]))]⟩ (Tt ∧ T2 Tt) [.box 1, .box 2] [2, 3] [1, 2] ⟨tr, tr, tr, tr⟩ (thenQ_normal ?_))
  refine AW.seq ?_
  obtain ⟨v1, e2, h⟩ := bind_some h
  obtain ⟨j9, e10, h⟩ := bind_some h
  refine AW.join1 (s2 := ⟨[(4, (vc (.bool j9)))], []⟩) ?_ ?_
  · rcases ite2_cases e10 with ⟨b3, e10⟩ | ⟨b3, e10⟩
    · obtain ⟨v4, e5, e10⟩ := bind_some e10
      rcases ite2_cases e10 with ⟨b6, e10⟩ | ⟨b6, e10⟩
      · obtain ⟨v7, e8, e10⟩ := bind_some e10
        replace e10 := some_eq e10
        subst e10
        exact AW.rA ⟨[(4, (vc (.bool v7)))], []⟩ (T4 ((((Eqc (.flt .f32 a0.X.bits)) ∧ (Eqc (.flt .f32 a1.X.bits)) ∧ Tt) ∧ CallOK Try.prog 16 [.one (.flt .f32 a0.X.bits), .one (.flt .f32 a1.X.bits)] [.one (.bool v1)]) ∧ (Tt ∧ v1 = true) ∧ T4 ((((Eqc (.flt .f32 a0.Y.bits)) ∧ (Eqc (.flt .f32 a1.Y.bits)) ∧ Tt) ∧ CallOK Try.prog 16 [.one (.flt .f32 a0.Y.bits), .one (.flt .f32 a1.Y.bits)] [.one (.bool v4)]) ∧ Tt ∧ (Tt ∧ v4 = true) ∧ T4 ((((Eqc (.flt .f32 a0.Z.bits)) ∧ (Eqc (.flt .f32 a1.Z.bits)) ∧ Tt) ∧ CallOK Try.prog 16 [.one (.flt .f32 a0.Z.bits), .one (.flt .f32 a1.Z.bits)] [.one (.bool v7)]) ∧ T2 Tt)))) [.no, .no, .no, .no, .call [.one (.flt .f32 a0.X.bits), .one (.flt .f32 a1.X.bits)] [.one (.bool v1)] [[.view]], .dec true, .no, .no, .no, .no, .call [.one (.flt .f32 a0.Y.bits), .one (.flt .f32 a1.Y.bits)] [.one (.bool v4)] [[.view]], .no, .dec true, .no, .no, .no, .no, .call [.one (.flt .f32 a0.Z.bits), .one (.flt .f32 a1.Z.bits)] [.one (.bool v7)] [[.view]]] [4] [] ⟨tr, tr, tr, tr, ⟨⟨rfl, rfl, tr⟩, ok_impl_SameNumber K a0.X a1.X v1 e2⟩, ⟨tr, b3⟩, tr, tr, tr, tr, ⟨⟨rfl, rfl, tr⟩, ok_impl_SameNumber K a0.Y a1.Y v4 e5⟩, tr, ⟨tr, b6⟩, tr, tr, tr, tr, ⟨⟨rfl, rfl, tr⟩, ok_impl_SameNumber K a0.Z a1.Z v7 e8⟩, tr, tr, tr⟩ ⟨rfl, rfl⟩
      · replace e10 := some_eq e10
        subst e10
        exact AW.rA ⟨[(4, (vc (.bool false)))], []⟩ (T4 ((((Eqc (.flt .f32 a0.X.bits)) ∧ (Eqc (.flt .f32 a1.X.bits)) ∧ Tt) ∧ CallOK Try.prog 16 [.one (.flt .f32 a0.X.bits), .one (.flt .f32 a1.X.bits)] [.one (.bool v1)]) ∧ (Tt ∧ v1 = true) ∧ T4 ((((Eqc (.flt .f32 a0.Y.bits)) ∧ (Eqc (.flt .f32 a1.Y.bits)) ∧ Tt) ∧ CallOK Try.prog 16 [.one (.flt .f32 a0.Y.bits), .one (.flt .f32 a1.Y.bits)] [.one (.bool v4)]) ∧ Tt ∧ (Tt ∧ v4 = false) ∧ Tt ∧ T2 (T4 Tt)))) [.no, .no, .no, .no, .call [.one (.flt .f32 a0.X.bits), .one (.flt .f32 a1.X.bits)] [.one (.bool v1)] [[.view]], .dec true, .no, .no, .no, .no, .call [.one (.flt .f32 a0.Y.bits), .one (.flt .f32 a1.Y.bits)] [.one (.bool v4)] [[.view]], .no, .dec false] [4] [] ⟨tr, tr, tr, tr, ⟨⟨rfl, rfl, tr⟩, ok_impl_SameNumber K a0.X a1.X v1 e2⟩, ⟨tr, b3⟩, tr, tr, tr, tr, ⟨⟨rfl, rfl, tr⟩, ok_impl_SameNumber K a0.Y a1.Y v4 e5⟩, tr, ⟨tr, b6⟩, tr, tr, tr, tr, tr, tr, tr, tr⟩ ⟨rfl, rfl⟩
    · replace e10 := some_eq e10
      subst e10
      exact AW.rA ⟨[(4, (vc (.bool false)))], []⟩ (T4 ((((Eqc (.flt .f32 a0.X.bits)) ∧ (Eqc (.flt .f32 a1.X.bits)) ∧ Tt) ∧ CallOK Try.prog 16 [.one (.flt .f32 a0.X.bits), .one (.flt .f32 a1.X.bits)] [.one (.bool v1)]) ∧ (Tt ∧ v1 = false) ∧ T2 (T4 (T4 (T4 Tt))))) [.no, .no, .no, .no, .call [.one (.flt .f32 a0.X.bits), .one (.flt .f32 a1.X.bits)] [.one (.bool v1)] [[.view]], .dec false] [4] [] ⟨tr, tr, tr, tr, ⟨⟨rfl, rfl, tr⟩, ok_impl_SameNumber K a0.X a1.X v1 e2⟩, ⟨tr, b3⟩, tr, tr, tr, tr, tr, tr, tr, tr, tr, tr, tr, tr, tr, tr, tr⟩ ⟨rfl, rfl⟩
  refine thenQ_normal ?_
  refine AW.ret ?_
  replace h := some_eq h
  subst h
  exact ⟨.inr rfl, retOK_of [(.one (.c (.bool j9)))] (by kernel_rfl) ⟨⟨rfl, tr⟩, tr⟩ (of_decide_eq_true (by kernel_rfl))⟩

/-! impl.SameTurn -/
def impl_SameTurn (K : Nat) (a0 : Turn) (a1 : Turn) : Option (Bool) :=
  (impl_SameNumber K a0.W a1.W).bind fun v1 => (ite2 (v1) ((impl_SameNumber K a0.X a1.X).bind fun v4 => ite2 (v4) ((impl_SameNumber K a0.Y a1.Y).bind fun v7 => ite2 (v7) ((impl_SameNumber K a0.Z a1.Z).bind fun v10 => some v10) (some false)) (some false)) (some false)).bind fun j12 => some j12

theorem ok_impl_SameTurn (K : Nat) (a0 : Turn) (a1 : Turn) (o : (Bool)) (h : impl_SameTurn K a0 a1 = some o) : CallOK Try.prog 31 [.agg (cs_Turn a0), .agg (cs_Turn a1)] [.one (.bool o)] := by
  refine callOK_of_AW Try.func31 rfl (by kernel_rfl) (Nat.le_of_ble_eq_true (by kernel_rfl)) ?_
  intro w0
  unfold impl_SameTurn at h
  refine AW.seq (AW.rA ⟨[(2, (vp 1 0)), (3, (vp 2 0))], [(1, (.box [(.c (.flt .f32 a0.W.bits)), (.c (.flt .f32 a0.X.bits)), (.c (.flt .f32 a0.Y.bits)), (.c (.flt .f32 a0.Z.bits))])), (2, (.box [(.c (.flt .f32 a1.W.bits)), (.c (.flt .f32 a1.X.bits)), (.c (.flt .f32 a1.Y.bits)), (.c (.flt .f32 a1.Z.bits))]))]⟩ (Tt ∧ T2 Tt) [.box 1, .box 2] [2, 3] [1, 2] ⟨tr, tr, tr, tr⟩ (thenQ_normal ?_))
  refine AW.seq ?_
  obtain ⟨v1, e2, h⟩ := bind_some h
  obtain ⟨j12, e13, h⟩ := bind_some h
  refine AW.join1 (s2 := ⟨[(4, (vc (.bool j12)))], []⟩) ?_ ?_
  · rcases ite2_cases e13 with ⟨b3, e13⟩ | ⟨b3, e13⟩
    · obtain ⟨v4, e5, e13⟩ := bind_some e13
      rcases ite2_cases e13 with ⟨b6, e13⟩ | ⟨b6, e13⟩
      · obtain ⟨v7, e8, e13⟩ := bind_some e13
        rcases ite2_cases e13 with ⟨b9, e13⟩ | ⟨b9, e13⟩
        · obtain ⟨v10, e11, e13⟩ := bind_some e13
          replace e13 := some_eq e13
          subst e13
          exact AW.rA ⟨[(4, (vc (.bool v10)))], []⟩ (T4 ((((Eqc (.flt .f32 a0.W.bits)) ∧ (Eqc (.flt .f32 a1.W.bits)) ∧ Tt) ∧ CallOK Try.prog 16 [.one (.flt .f32 a0.W.bits), .one (.flt .f32 a1.W.bits)] [.one (.bool v1)]) ∧ (Tt ∧ v1 = true) ∧ T4 ((((Eqc (.flt .f32 a0.X.bits)) ∧ (Eqc (.flt .f32 a1.X.bits)) ∧ Tt) ∧ CallOK Try.prog 16 [.one (.flt .f32 a0.X.bits), .one (.flt .f32 a1.X.bits)] [.one (.bool v4)]) ∧ Tt ∧ (Tt ∧ v4 = true) ∧ T4 ((((Eqc (.flt .f32 a0.Y.bits)) ∧ (Eqc (.flt .f32 a1.Y.bits)) ∧ Tt) ∧ CallOK Try.prog 16 [.one (.flt .f32 a0.Y.bits), .one (.flt .f32 a1.Y.bits)] [.one (.bool v7)]) ∧ Tt ∧ (Tt ∧ v7 = true) ∧ T4 ((((Eqc (.flt .f32 a0.Z.bits)) ∧ (Eqc (.flt .f32 a1.Z.bits)) ∧ Tt) ∧ CallOK Try.prog 16 [.one (.flt .f32 a0.Z.bits), .one (.flt .f32 a1.Z.bits)] [.one (.bool v10)]) ∧ T2 Tt))))) [.no, .no, .no, .no, .call [.one (.flt .f32 a0.W.bits), .one (.flt .f32 a1.W.bits)] [.one (.bool v1)] [[.view]], .dec true, .no, .no, .no, .no, .call [.one (.flt .f32 a0.X.bits), .one (.flt .f32 a1.X.bits)] [.one (.bool v4)] [[.view]], .no, .dec true, .no, .no, .no, .no, .call [.one (.flt .f32 a0.Y.bits), .one (.flt .f32 a1.Y.bits)] [.one (.bool v7)] [[.view]], .no, .dec true, .no, .no, .no, .no, .call [.one (.flt .f32 a0.Z.bits), .one (.flt .f32 a1.Z.bits)] [.one (.bool v10)] [[.view]]] [4] [] ⟨tr, tr, tr, tr, ⟨⟨rfl, rfl, tr⟩, ok_impl_SameNumber K a0.W a1.W v1 e2⟩, ⟨tr, b3⟩, tr, tr, tr, tr, ⟨⟨rfl, rfl, tr⟩, ok_impl_SameNumber K a0.X a1.X v4 e5⟩, tr, ⟨tr, b6⟩, tr, tr, tr, tr, ⟨⟨rfl, rfl, tr⟩, ok_impl_SameNumber K a0.Y a1.Y v7 e8⟩, tr, ⟨tr, b9⟩, tr, tr, tr, tr, ⟨⟨rfl, rfl, tr⟩, ok_impl_SameNumber K a0.Z a1.Z v10 e11⟩, tr, tr, tr⟩ ⟨rfl, rfl⟩
        · replace e13 := some_eq e13
          subst e13
          exact AW.rA ⟨[(4, (vc (.bool false)))], []⟩ (T4 ((((Eqc (.flt .f32 a0.W.bits)) ∧ (Eqc (.flt .f32 a1.W.bits)) ∧ Tt) ∧ CallOK Try.prog 16 [.one (.flt .f32 a0.W.bits), .one (.flt .f32 a1.W.bits)] [.one (.bool v1)]) ∧ (Tt ∧ v1 = true) ∧ T4 ((((Eqc (.flt .f32 a0.X.bits)) ∧ (Eqc (.flt .f32 a1.X.bits)) ∧ Tt) ∧ CallOK Try.prog 16 [.one (.flt .f32 a0.X.bits), .one (.flt .f32 a1.X.bits)] [.one (.bool v4)]) ∧ Tt ∧ (Tt ∧ v4 = true) ∧ T4 ((((Eqc (.flt .f32 a0.Y.bits)) ∧ (Eqc (.flt .f32 a1.Y.bits)) ∧ Tt) ∧ CallOK Try.prog 16 [.one (.flt .f32 a0.Y.bits), .one (.flt .f32 a1.Y.bits)] [.one (.bool v7)]) ∧ Tt ∧ (Tt ∧ v7 = false) ∧ Tt ∧ T2 (T4 Tt))))) [.no, .no, .no, .no, .call [.one (.flt .f32 a0.W.bits), .one (.flt .f32 a1.W.bits)] [.one (.bool v1)] [[.view]], .dec true, .no, .no, .no, .no, .call [.one (.flt .f32 a0.X.bits), .one (.flt .f32 a1.X.bits)] [.one (.bool v4)] [[.view]], .no, .dec true, .no, .no, .no, .no, .call [.one (.flt .f32 a0.Y.bits), .one (.flt .f32 a1.Y.bits)] [.one (.bool v7)] [[.view]], .no, .dec false] [4] [] ⟨tr, tr, tr, tr, ⟨⟨rfl, rfl, tr⟩, ok_impl_SameNumber K a0.W a1.W v1 e2⟩, ⟨tr, b3⟩, tr, tr, tr, tr, ⟨⟨rfl, rfl, tr⟩, ok_impl_SameNumber K a0.X a1.X v4 e5⟩, tr, ⟨tr, b6⟩, tr, tr, tr, tr, ⟨⟨rfl, rfl, tr⟩, ok_impl_SameNumber K a0.Y a1.Y v7 e8⟩, tr, ⟨tr, b9⟩, tr, tr, tr, tr, tr, tr, tr, tr⟩ ⟨rfl, rfl⟩
      · replace e13 := some_eq e13
        subst e13
        exact AW.rA ⟨[(4, (vc (.bool false)))], []⟩ (T4 ((((Eqc (.flt .f32 a0.W.bits)) ∧ (Eqc (.flt .f32 a1.W.bits)) ∧ Tt) ∧ CallOK Try.prog 16 [.one (.flt .f32 a0.W.bits), .one (.flt .f32 a1.W.bits)] [.one (.bool v1)]) ∧ (Tt ∧ v1 = true) ∧ T4 ((((Eqc (.flt .f32 a0.X.bits)) ∧ (Eqc (.flt .f32 a1.X.bits)) ∧ Tt) ∧ CallOK Try.prog 16 [.one (.flt .f32 a0.X.bits), .one (.flt .f32 a1.X.bits)] [.one (.bool v4)]) ∧ Tt ∧ (Tt ∧ v4 = false) ∧ T2 (T4 (T4 (T4 Tt)))))) [.no, .no, .no, .no, .call [.one (.flt .f32 a0.W.bits), .one (.flt .f32 a1.W.bits)] [.one (.bool v1)] [[.view]], .dec true, .no, .no, .no, .no, .call [.one (.flt .f32 a0.X.bits), .one (.flt .f32 a1.X.bits)] [.one (.bool v4)] [[.view]], .no, .dec false] [4] [] ⟨tr, tr, tr, tr, ⟨⟨rfl, rfl, tr⟩, ok_impl_SameNumber K a0.W a1.W v1 e2⟩, ⟨tr, b3⟩, tr, tr, tr, tr, ⟨⟨rfl, rfl, tr⟩, ok_impl_SameNumber K a0.X a1.X v4 e5⟩, tr, ⟨tr, b6⟩, tr, tr, tr, tr, tr, tr, tr, tr, tr, tr, tr, tr, tr, tr, tr⟩ ⟨rfl, rfl⟩
    · replace e13 := some_eq e13
      subst e13
      exact AW.rA ⟨[(4, (vc (.bool false)))], []⟩ (T4 ((((Eqc (.flt .f32 a0.W.bits)) ∧ (Eqc (.flt .f32 a1.W.bits)) ∧ Tt) ∧ CallOK Try.prog 16 [.one (.flt .f32 a0.W.bits), .one (.flt .f32 a1.W.bits)] [.one (.bool v1)]) ∧ (Tt ∧ v1 = false) ∧ Tt ∧ T4 (T4 (T4 (T4 (T4 Tt)))))) [.no, .no, .no, .no, .call [.one (.flt .f32 a0.W.bits), .one (.flt .f32 a1.W.bits)] [.one (.bool v1)] [[.view]], .dec false] [4] [] ⟨tr, tr, tr, tr, ⟨⟨rfl, rfl, tr⟩, ok_impl_SameNumber K a0.W a1.W v1 e2⟩, ⟨tr, b3⟩, tr, tr, tr, tr, tr, tr, tr, tr, tr, tr, tr, tr, tr, tr, tr, tr, tr, tr, tr, tr, tr, tr⟩ ⟨rfl, rfl⟩
  refine thenQ_normal ?_
  refine AW.ret ?_
  replace h := some_eq h
  subst h
  exact ⟨.inr rfl, retOK_of [(.one (.c (.bool j12)))] (by kernel_rfl) ⟨⟨rfl, tr⟩, tr⟩ (of_decide_eq_true (by kernel_rfl))⟩

/-! slices.EqualFunc[[]impl.Turn,[]impl.Turn,impl.Turn,impl.Turn] -/
def slices_EqualFunc_impl_Turn_impl_Turn_impl_Turn_impl_Turn_l1 (K : Nat) (a0 : (List Turn)) (a1 : (List Turn)) : Nat → Int → Option (Bool)
  | 0, _ => none
  | k + 1, x3 => ite2 ((decide (x3 < (a0.length : Int)))) (chk (0 ≤ x3 ∧ x3 < (a0.length : Int)) (chk (0 ≤ x3 ∧ x3 < (a1.length : Int)) ((impl_SameTurn K (a0.getD x3.toNat default) (a1.getD x3.toNat default)).bind fun v7 => ite2 ((!v7)) (some false) (slices_EqualFunc_impl_Turn_impl_Turn_impl_Turn_impl_Turn_l1 K a0 a1 k (IntKind.i64.wrap (x3 + (1 : Int))))))) (some true)

def slices_EqualFunc_impl_Turn_impl_Turn_impl_Turn_impl_Turn (K : Nat) (a0 : (List Turn)) (a1 : (List Turn)) : Option (Bool) :=
  ite2 (((a0.length : Int) != (a1.length : Int))) (some false) (slices_EqualFunc_impl_Turn_impl_Turn_impl_Turn_impl_Turn_l1 K a0 a1 K (0 : Int))

theorem ok_slices_EqualFunc_impl_Turn_impl_Turn_impl_Turn_impl_Turn (K : Nat) (a0 : (List Turn)) (a1 : (List Turn)) (o : (Bool)) (h : slices_EqualFunc_impl_Turn_impl_Turn_impl_Turn_impl_Turn K a0 a1 = some o) : CallOK Try.prog 30 [.one (sl 4 cs_Turn a0), .one (sl 4 cs_Turn a1), .one (.fn 31 0 fun _ => .nilptr)] [.one (.bool o)] := by
  refine callOK_of_AW Try.func30 rfl (by kernel_rfl) (Nat.le_of_ble_eq_true (by kernel_rfl)) ?_
  intro w0
  unfold slices_EqualFunc_impl_Turn_impl_Turn_impl_Turn_impl_Turn at h
  refine AW.seq (AW.rA ⟨[(0, (vc (sl 4 cs_Turn a0))), (1, (vc (sl 4 cs_Turn a1))), (2, (vc (.fn 31 0 fun _ => .nilptr)))], []⟩ (Tt ∧ Tt) [] [0, 1, 2] [] ⟨tr, tr⟩ (thenQ_normal ?_))
  refine AW.seq ?_
  refine AW.seq (AW.rA ⟨[(0, (vc (sl 4 cs_Turn a0))), (1, (vc (sl 4 cs_Turn a1))), (2, (vc (.fn 31 0 fun _ => .nilptr))), (14, (vc (.bool ((a0.length : Int) != (a1.length : Int)))))], []⟩ (Tt ∧ T4 Tt) [] [0, 1, 2, 14] [] ⟨tr, tr, tr, tr, tr, tr⟩ (thenQ_normal ?_))
  rcases ite2_cases h with ⟨b1, h⟩ | ⟨b1, h⟩
  · refine AW.cond_t rfl b1 ?_
    refine AW.seq (AW.rA ⟨[(6, (vc (.bool false)))], []⟩ (Tt ∧ Tt) [] [6] [] ⟨tr, tr⟩ (thenQ_normal ?_))
    refine AW.ret ?_
    refine thenQ_ret ?_
    replace h := some_eq h
    subst h
    exact ⟨.inr rfl, retOK_of [(.one (.c (.bool false)))] (by kernel_rfl) ⟨⟨rfl, tr⟩, tr⟩ (of_decide_eq_true (by kernel_rfl))⟩
  · refine AW.cond_f rfl b1 ?_
    refine AW.skip ?_
    refine thenQ_normal ?_
    refine AW.seq ?_
    refine AW.seq (AW.rA ⟨[(1, (vc (sl 4 cs_Turn a1))), (2, (vc (.fn 31 0 fun _ => .nilptr))), (15, (vc (sl 4 cs_Turn a0))), (16, (vc (.int .i64 (a0.length : Int)))), (17, (vc (.int .i64 (0 : Int))))], []⟩ (Tt ∧ T2 Tt) [] [1, 2, 15, 16, 17] [] ⟨tr, tr, tr, tr⟩ (thenQ_normal ?_))
    refine AW.block ?_
    refine AW.loopQ (σ := Nat × Int) (fun p => ⟨[(1, (vc (sl 4 cs_Turn a1))), (2, (vc (.fn 31 0 fun _ => .nilptr))), (15, (vc (sl 4 cs_Turn a0))), (16, (vc (.int .i64 (a0.length : Int)))), (17, (vc (.int .i64 p.2)))], []⟩) (fun p => slices_EqualFunc_impl_Turn_impl_Turn_impl_Turn_impl_Turn_l1 K a0 a1 p.1 p.2 = some o) (fun p => p.1) (K, (0 : Int)) h ?_
    clear h
    rintro ⟨k, x3⟩ h
    replace h : slices_EqualFunc_impl_Turn_impl_Turn_impl_Turn_impl_Turn_l1 K a0 a1 k x3 = some o := h
    show AW _ _ (⟨[(1, (vc (sl 4 cs_Turn a1))), (2, (vc (.fn 31 0 fun _ => .nilptr))), (15, (vc (sl 4 cs_Turn a0))), (16, (vc (.int .i64 (a0.length : Int)))), (17, (vc (.int .i64 x3)))], []⟩ : St) _
    obtain _ | k := k
    · rw [slices_EqualFunc_impl_Turn_impl_Turn_impl_Turn_impl_Turn_l1] at h; cases h
    rw [slices_EqualFunc_impl_Turn_impl_Turn_impl_Turn_impl_Turn_l1] at h
    refine AW.seq (AW.rA ⟨[(1, (vc (sl 4 cs_Turn a1))), (2, (vc (.fn 31 0 fun _ => .nilptr))), (15, (vc (sl 4 cs_Turn a0))), (16, (vc (.int .i64 (a0.length : Int)))), (17, (vc (.int .i64 x3))), (18, (vc (.bool (decide (x3 < (a0.length : Int))))))], []⟩ (Tt ∧ Tt) [] [1, 2, 15, 16, 17, 18] [] ⟨tr, tr⟩ (thenQ_normal ?_))
    refine AW.seq ?_
    rcases ite2_cases h with ⟨b4, h⟩ | ⟨b4, h⟩
    · refine AW.cond_t rfl b4 ?_
      refine AW.skip ?_
      refine thenQ_normal ?_
      refine AW.seq ?_
      refine AW.block ?_
      refine AW.seq ?_
      obtain ⟨c5, h⟩ := chk_some h
      refine AW.rA ⟨[(1, (vc (sl 4 cs_Turn a1))), (2, (vc (.fn 31 0 fun _ => .nilptr))), (7, (vc (.int .i64 x3))), (8, (vp 5 0)), (15, (vc (sl 4 cs_Turn a0))), (16, (vc (.int .i64 (a0.length : Int)))), (17, (vc (.int .i64 x3)))], [(5, (.box [(.c (.flt .f32 ((a0.getD x3.toNat default).W).bits)), (.c (.flt .f32 ((a0.getD x3.toNat default).X).bits)), (.c (.flt .f32 ((a0.getD x3.toNat default).Y).bits)), (.c (.flt .f32 ((a0.getD x3.toNat default).Z).bits))]))]⟩ (Tt ∧ (0 ≤ x3 ∧ x3 < (a0.length : Int)) ∧ T4 Tt) [.no, .no, .no, .box 5] [1, 2, 7, 8, 15, 16, 17] [5] ⟨tr, c5, tr, tr, tr, tr, tr⟩ ?_
      refine thenQ_normal ?_
      refine AW.seq ?_
      obtain ⟨c6, h⟩ := chk_some h
      refine AW.rA ⟨[(1, (vc (sl 4 cs_Turn a1))), (2, (vc (.fn 31 0 fun _ => .nilptr))), (8, (vp 5 0)), (9, (vp 6 0)), (15, (vc (sl 4 cs_Turn a0))), (16, (vc (.int .i64 (a0.length : Int)))), (17, (vc (.int .i64 x3)))], [(5, (.box [(.c (.flt .f32 ((a0.getD x3.toNat default).W).bits)), (.c (.flt .f32 ((a0.getD x3.toNat default).X).bits)), (.c (.flt .f32 ((a0.getD x3.toNat default).Y).bits)), (.c (.flt .f32 ((a0.getD x3.toNat default).Z).bits))])), (6, (.box [(.c (.flt .f32 ((a1.getD x3.toNat default).W).bits)), (.c (.flt .f32 ((a1.getD x3.toNat default).X).bits)), (.c (.flt .f32 ((a1.getD x3.toNat default).Y).bits)), (.c (.flt .f32 ((a1.getD x3.toNat default).Z).bits))]))]⟩ (T2 ((0 ≤ x3 ∧ x3 < (a1.length : Int)) ∧ Tt ∧ T2 Tt)) [.no, .no, .no, .no, .box 6] [1, 2, 8, 9, 15, 16, 17] [5, 6] ⟨tr, tr, c6, tr, tr, tr, tr⟩ ?_
      refine thenQ_normal ?_
      refine AW.seq ?_
      obtain ⟨v7, e8, h⟩ := bind_some h
      refine AW.rA ⟨[(1, (vc (sl 4 cs_Turn a1))), (2, (vc (.fn 31 0 fun _ => .nilptr))), (15, (vc (sl 4 cs_Turn a0))), (16, (vc (.int .i64 (a0.length : Int)))), (17, (vc (.int .i64 x3))), (30, (vc (.bool (!v7))))], []⟩ (Tt ∧ T2 (((((Eqc (.flt .f32 ((a0.getD x3.toNat default).W).bits)) ∧ (Eqc (.flt .f32 ((a0.getD x3.toNat default).X).bits)) ∧ (Eqc (.flt .f32 ((a0.getD x3.toNat default).Y).bits)) ∧ (Eqc (.flt .f32 ((a0.getD x3.toNat default).Z).bits)) ∧ Tt) ∧ ((Eqc (.flt .f32 ((a1.getD x3.toNat default).W).bits)) ∧ (Eqc (.flt .f32 ((a1.getD x3.toNat default).X).bits)) ∧ (Eqc (.flt .f32 ((a1.getD x3.toNat default).Y).bits)) ∧ (Eqc (.flt .f32 ((a1.getD x3.toNat default).Z).bits)) ∧ Tt) ∧ Tt) ∧ CallOK Try.prog 31 [.agg (cs_Turn (a0.getD x3.toNat default)), .agg (cs_Turn (a1.getD x3.toNat default))] [.one (.bool v7)]) ∧ Tt ∧ Tt)) [.no, .no, .no, .call [.agg (cs_Turn (a0.getD x3.toNat default)), .agg (cs_Turn (a1.getD x3.toNat default))] [.one (.bool v7)] [[.view]]] [1, 2, 15, 16, 17, 30] [] ⟨tr, tr, tr, ⟨⟨⟨rfl, rfl, rfl, rfl, tr⟩, ⟨rfl, rfl, rfl, rfl, tr⟩, tr⟩, ok_impl_SameTurn K (a0.getD x3.toNat default) (a1.getD x3.toNat default) v7 e8⟩, tr, tr⟩ ?_
      refine thenQ_normal ?_
      rcases ite2_cases h with ⟨b9, h⟩ | ⟨b9, h⟩
      · refine AW.cond_t rfl b9 ?_
        refine AW.seq (AW.rA ⟨[(6, (vc (.bool false)))], []⟩ (Tt ∧ Tt) [] [6] [] ⟨tr, tr⟩ (thenQ_normal ?_))
        refine AW.ret ?_
        refine blockQ_ret ?_
        refine thenQ_ret ?_
        refine loopQ_ret ?_
        refine blockQ_ret ?_
        refine thenQ_ret ?_
        replace h := some_eq h
        subst h
        exact ⟨.inr rfl, retOK_of [(.one (.c (.bool false)))] (by kernel_rfl) ⟨⟨rfl, tr⟩, tr⟩ (of_decide_eq_true (by kernel_rfl))⟩
      · refine AW.cond_f rfl b9 ?_
        refine AW.skip ?_
        refine blockQ_normal ?_
        refine thenQ_normal ?_
        refine AW.rA ⟨[(1, (vc (sl 4 cs_Turn a1))), (2, (vc (.fn 31 0 fun _ => .nilptr))), (15, (vc (sl 4 cs_Turn a0))), (16, (vc (.int .i64 (a0.length : Int)))), (17, (vc (.int .i64 (IntKind.i64.wrap (x3 + (1 : Int))))))], []⟩ (T2 Tt) [] [1, 2, 15, 16, 17] [] ⟨tr, tr, tr⟩ ?_
        exact loopQ_normal (k, (IntKind.i64.wrap (x3 + (1 : Int)))) h (Nat.lt_succ_self k) (Sub.keep [1, 2, 15, 16, 17] [] (by kernel_rfl) (by kernel_rfl))
    · refine AW.cond_f rfl b4 ?_
      refine AW.exit ?_
      refine thenQ_exit ?_
      refine loopQ_exit ?_
      refine blockQ_exit ?_
      refine thenQ_normal ?_
      refine AW.seq (AW.rA ⟨[(6, (vc (.bool true)))], []⟩ (Tt ∧ Tt) [] [6] [] ⟨tr, tr⟩ (thenQ_normal ?_))
      refine AW.ret ?_
      replace h := some_eq h
      subst h
      exact ⟨.inr rfl, retOK_of [(.one (.c (.bool true)))] (by kernel_rfl) ⟨⟨rfl, tr⟩, tr⟩ (of_decide_eq_true (by kernel_rfl))⟩

/-! impl.SamePose -/
def impl_SamePose (K : Nat) (a0 : Pose) (a1 : Pose) : Option (Bool) :=
  (impl_SameVector K a0.Root a1.Root).bind fun v1 => (ite2 (v1) ((slices_EqualFunc_impl_Turn_impl_Turn_impl_Turn_impl_Turn K a0.Turns a1.Turns).bind fun v4 => some v4) (some false)).bind fun j6 => some j6

theorem ok_impl_SamePose (K : Nat) (a0 : Pose) (a1 : Pose) (o : (Bool)) (h : impl_SamePose K a0 a1 = some o) : CallOK Try.prog 15 [.agg (cs_Pose a0), .agg (cs_Pose a1)] [.one (.bool o)] := by
  refine callOK_of_AW Try.func15 rfl (by kernel_rfl) (Nat.le_of_ble_eq_true (by kernel_rfl)) ?_
  intro w0
  unfold impl_SamePose at h
  refine AW.seq (AW.rA ⟨[(2, (vp 1 0)), (3, (vp 2 0))], [(1, (.box [(.c (.flt .f32 a0.Root.X.bits)), (.c (.flt .f32 a0.Root.Y.bits)), (.c (.flt .f32 a0.Root.Z.bits)), (.c (sl 4 cs_Turn a0.Turns))])), (2, (.box [(.c (.flt .f32 a1.Root.X.bits)), (.c (.flt .f32 a1.Root.Y.bits)), (.c (.flt .f32 a1.Root.Z.bits)), (.c (sl 4 cs_Turn a1.Turns))]))]⟩ (Tt ∧ T2 Tt) [.box 1, .box 2] [2, 3] [1, 2] ⟨tr, tr, tr, tr⟩ (thenQ_normal ?_))
  refine AW.seq ?_
  obtain ⟨v1, e2, h⟩ := bind_some h
  obtain ⟨j6, e7, h⟩ := bind_some h
  refine AW.join1 (s2 := ⟨[(4, (vc (.bool j6)))], []⟩) ?_ ?_
  · rcases ite2_cases e7 with ⟨b3, e7⟩ | ⟨b3, e7⟩
    · obtain ⟨v4, e5, e7⟩ := bind_some e7
      replace e7 := some_eq e7
      subst e7
      exact AW.rA ⟨[(4, (vc (.bool v4)))], []⟩ (T4 (((((Eqc (.flt .f32 a0.Root.X.bits)) ∧ (Eqc (.flt .f32 a0.Root.Y.bits)) ∧ (Eqc (.flt .f32 a0.Root.Z.bits)) ∧ Tt) ∧ ((Eqc (.flt .f32 a1.Root.X.bits)) ∧ (Eqc (.flt .f32 a1.Root.Y.bits)) ∧ (Eqc (.flt .f32 a1.Root.Z.bits)) ∧ Tt) ∧ Tt) ∧ CallOK Try.prog 29 [.agg (cs_Vector a0.Root), .agg (cs_Vector a1.Root)] [.one (.bool v1)]) ∧ (Tt ∧ v1 = true) ∧ T4 ((((Eqc (sl 4 cs_Turn a0.Turns)) ∧ (Eqc (sl 4 cs_Turn a1.Turns)) ∧ (Eqc (.fn 31 0 fun _ => .nilptr)) ∧ Tt) ∧ CallOK Try.prog 30 [.one (sl 4 cs_Turn a0.Turns), .one (sl 4 cs_Turn a1.Turns), .one (.fn 31 0 fun _ => .nilptr)] [.one (.bool v4)]) ∧ T2 Tt))) [.no, .no, .no, .no, .call [.agg (cs_Vector a0.Root), .agg (cs_Vector a1.Root)] [.one (.bool v1)] [[.view]], .dec true, .no, .no, .no, .no, .call [.one (sl 4 cs_Turn a0.Turns), .one (sl 4 cs_Turn a1.Turns), .one (.fn 31 0 fun _ => .nilptr)] [.one (.bool v4)] [[.view]]] [4] [] ⟨tr, tr, tr, tr, ⟨⟨⟨rfl, rfl, rfl, tr⟩, ⟨rfl, rfl, rfl, tr⟩, tr⟩, ok_impl_SameVector K a0.Root a1.Root v1 e2⟩, ⟨tr, b3⟩, tr, tr, tr, tr, ⟨⟨rfl, rfl, rfl, tr⟩, ok_slices_EqualFunc_impl_Turn_impl_Turn_impl_Turn_impl_Turn K a0.Turns a1.Turns v4 e5⟩, tr, tr, tr⟩ ⟨rfl, rfl⟩
    · replace e7 := some_eq e7
      subst e7
      exact AW.rA ⟨[(4, (vc (.bool false)))], []⟩ (T4 (((((Eqc (.flt .f32 a0.Root.X.bits)) ∧ (Eqc (.flt .f32 a0.Root.Y.bits)) ∧ (Eqc (.flt .f32 a0.Root.Z.bits)) ∧ Tt) ∧ ((Eqc (.flt .f32 a1.Root.X.bits)) ∧ (Eqc (.flt .f32 a1.Root.Y.bits)) ∧ (Eqc (.flt .f32 a1.Root.Z.bits)) ∧ Tt) ∧ Tt) ∧ CallOK Try.prog 29 [.agg (cs_Vector a0.Root), .agg (cs_Vector a1.Root)] [.one (.bool v1)]) ∧ (Tt ∧ v1 = false) ∧ Tt ∧ T2 (T4 Tt))) [.no, .no, .no, .no, .call [.agg (cs_Vector a0.Root), .agg (cs_Vector a1.Root)] [.one (.bool v1)] [[.view]], .dec false] [4] [] ⟨tr, tr, tr, tr, ⟨⟨⟨rfl, rfl, rfl, tr⟩, ⟨rfl, rfl, rfl, tr⟩, tr⟩, ok_impl_SameVector K a0.Root a1.Root v1 e2⟩, ⟨tr, b3⟩, tr, tr, tr, tr, tr, tr, tr, tr⟩ ⟨rfl, rfl⟩
  refine thenQ_normal ?_
  refine AW.ret ?_
  replace h := some_eq h
  subst h
  exact ⟨.inr rfl, retOK_of [(.one (.c (.bool j6)))] (by kernel_rfl) ⟨⟨rfl, tr⟩, tr⟩ (of_decide_eq_true (by kernel_rfl))⟩

/-! slices.EqualFunc[[]impl.Pose,[]impl.Pose,impl.Pose,impl.Pose] -/
def slices_EqualFunc_impl_Pose_impl_Pose_impl_Pose_impl_Pose_l1 (K : Nat) (a0 : (List Pose)) (a1 : (List Pose)) : Nat → Int → Option (Bool)
  | 0, _ => none
  | k + 1, x3 => ite2 ((decide (x3 < (a0.length : Int)))) (chk (0 ≤ x3 ∧ x3 < (a0.length : Int)) (chk (0 ≤ x3 ∧ x3 < (a1.length : Int)) ((impl_SamePose K (a0.getD x3.toNat default) (a1.getD x3.toNat default)).bind fun v7 => ite2 ((!v7)) (some false) (slices_EqualFunc_impl_Pose_impl_Pose_impl_Pose_impl_Pose_l1 K a0 a1 k (IntKind.i64.wrap (x3 + (1 : Int))))))) (some true)

def slices_EqualFunc_impl_Pose_impl_Pose_impl_Pose_impl_Pose (K : Nat) (a0 : (List Pose)) (a1 : (List Pose)) : Option (Bool) :=
  ite2 (((a0.length : Int) != (a1.length : Int))) (some false) (slices_EqualFunc_impl_Pose_impl_Pose_impl_Pose_impl_Pose_l1 K a0 a1 K (0 : Int))

theorem ok_slices_EqualFunc_impl_Pose_impl_Pose_impl_Pose_impl_Pose (K : Nat) (a0 : (List Pose)) (a1 : (List Pose)) (o : (Bool)) (h : slices_EqualFunc_impl_Pose_impl_Pose_impl_Pose_impl_Pose K a0 a1 = some o) : CallOK Try.prog 21 [.one (sl 4 cs_Pose a0), .one (sl 4 cs_Pose a1), .one (.fn 15 0 fun _ => .nilptr)] [.one (.bool o)] := by
  refine callOK_of_AW Try.func21 rfl (by kernel_rfl) (Nat.le_of_ble_eq_true (by kernel_rfl)) ?_
  intro w0
  unfold slices_EqualFunc_impl_Pose_impl_Pose_impl_Pose_impl_Pose at h
  refine AW.seq (AW.rA ⟨[(0, (vc (sl 4 cs_Pose a0))), (1, (vc (sl 4 cs_Pose a1))), (2, (vc (.fn 15 0 fun _ => .nilptr)))], []⟩ (Tt ∧ Tt) [] [0, 1, 2] [] ⟨tr, tr⟩ (thenQ_normal ?_))
  refine AW.seq ?_
  refine AW.seq (AW.rA ⟨[(0, (vc (sl 4 cs_Pose a0))), (1, (vc (sl 4 cs_Pose a1))), (2, (vc (.fn 15 0 fun _ => .nilptr))), (14, (vc (.bool ((a0.length : Int) != (a1.length : Int)))))], []⟩ (Tt ∧ T4 Tt) [] [0, 1, 2, 14] [] ⟨tr, tr, tr, tr, tr, tr⟩ (thenQ_normal ?_))
  rcases ite2_cases h with ⟨b1, h⟩ | ⟨b1, h⟩
  · refine AW.cond_t rfl b1 ?_
    refine AW.seq (AW.rA ⟨[(6, (vc (.bool false)))], []⟩ (Tt ∧ Tt) [] [6] [] ⟨tr, tr⟩ (thenQ_normal ?_))
    refine AW.ret ?_
    refine thenQ_ret ?_
    replace h := some_eq h
    subst h
    exact ⟨.inr rfl, retOK_of [(.one (.c (.bool false)))] (by kernel_rfl) ⟨⟨rfl, tr⟩, tr⟩ (of_decide_eq_true (by kernel_rfl))⟩
  · refine AW.cond_f rfl b1 ?_
    refine AW.skip ?_
    refine thenQ_normal ?_
    refine AW.seq ?_
    refine AW.seq (AW.rA ⟨[(1, (vc (sl 4 cs_Pose a1))), (2, (vc (.fn 15 0 fun _ => .nilptr))), (15, (vc (sl 4 cs_Pose a0))), (16, (vc (.int .i64 (a0.length : Int)))), (17, (vc (.int .i64 (0 : Int))))], []⟩ (Tt ∧ T2 Tt) [] [1, 2, 15, 16, 17] [] ⟨tr, tr, tr, tr⟩ (thenQ_normal ?_))
    refine AW.block ?_
    refine AW.loopQ (σ := Nat × Int) (fun p => ⟨[(1, (vc (sl 4 cs_Pose a1))), (2, (vc (.fn 15 0 fun _ => .nilptr))), (15, (vc (sl 4 cs_Pose a0))), (16, (vc (.int .i64 (a0.length : Int)))), (17, (vc (.int .i64 p.2)))], []⟩) (fun p => slices_EqualFunc_impl_Pose_impl_Pose_impl_Pose_impl_Pose_l1 K a0 a1 p.1 p.2 = some o) (fun p => p.1) (K, (0 : Int)) h ?_
    clear h
    rintro ⟨k, x3⟩ h
    replace h : slices_EqualFunc_impl_Pose_impl_Pose_impl_Pose_impl_Pose_l1 K a0 a1 k x3 = some o := h
    show AW _ _ (⟨[(1, (vc (sl 4 cs_Pose a1))), (2, (vc (.fn 15 0 fun _ => .nilptr))), (15, (vc (sl 4 cs_Pose a0))), (16, (vc (.int .i64 (a0.length : Int)))), (17, (vc (.int .i64 x3)))], []⟩ : St) _
    obtain _ | k := k
    · rw [slices_EqualFunc_impl_Pose_impl_Pose_impl_Pose_impl_Pose_l1] at h; cases h
    rw [slices_EqualFunc_impl_Pose_impl_Pose_impl_Pose_impl_Pose_l1] at h
    refine AW.seq (AW.rA ⟨[(1, (vc (sl 4 cs_Pose a1))), (2, (vc (.fn 15 0 fun _ => .nilptr))), (15, (vc (sl 4 cs_Pose a0))), (16, (vc (.int .i64 (a0.length : Int)))), (17, (vc (.int .i64 x3))), (18, (vc (.bool (decide (x3 < (a0.length : Int))))))], []⟩ (Tt ∧ Tt) [] [1, 2, 15, 16, 17, 18] [] ⟨tr, tr⟩ (thenQ_normal ?_))
    refine AW.seq ?_
    rcases ite2_cases h with ⟨b4, h⟩ | ⟨b4, h⟩
    · refine AW.cond_t rfl b4 ?_
      refine AW.skip ?_
      refine thenQ_normal ?_
      refine AW.seq ?_
      refine AW.block ?_
      refine AW.seq ?_
      obtain ⟨c5, h⟩ := chk_some h
      refine AW.rA ⟨[(1, (vc (sl 4 cs_Pose a1))), (2, (vc (.fn 15 0 fun _ => .nilptr))), (7, (vc (.int .i64 x3))), (8, (vp 5 0)), (15, (vc (sl 4 cs_Pose a0))), (16, (vc (.int .i64 (a0.length : Int)))), (17, (vc (.int .i64 x3)))], [(5, (.box [(.c (.flt .f32 (((a0.getD x3.toNat default).Root).X).bits)), (.c (.flt .f32 (((a0.getD x3.toNat default).Root).Y).bits)), (.c (.flt .f32 (((a0.getD x3.toNat default).Root).Z).bits)), (.c (sl 4 cs_Turn ((a0.getD x3.toNat default).Turns)))]))]⟩ (Tt ∧ (0 ≤ x3 ∧ x3 < (a0.length : Int)) ∧ T4 Tt) [.no, .no, .no, .box 5] [1, 2, 7, 8, 15, 16, 17] [5] ⟨tr, c5, tr, tr, tr, tr, tr⟩ ?_
      refine thenQ_normal ?_
      refine AW.seq ?_
      obtain ⟨c6, h⟩ := chk_some h
      refine AW.rA ⟨[(1, (vc (sl 4 cs_Pose a1))), (2, (vc (.fn 15 0 fun _ => .nilptr))), (8, (vp 5 0)), (9, (vp 6 0)), (15, (vc (sl 4 cs_Pose a0))), (16, (vc (.int .i64 (a0.length : Int)))), (17, (vc (.int .i64 x3)))], [(5, (.box [(.c (.flt .f32 (((a0.getD x3.toNat default).Root).X).bits)), (.c (.flt .f32 (((a0.getD x3.toNat default).Root).Y).bits)), (.c (.flt .f32 (((a0.getD x3.toNat default).Root).Z).bits)), (.c (sl 4 cs_Turn ((a0.getD x3.toNat default).Turns)))])), (6, (.box [(.c (.flt .f32 (((a1.getD x3.toNat default).Root).X).bits)), (.c (.flt .f32 (((a1.getD x3.toNat default).Root).Y).bits)), (.c (.flt .f32 (((a1.getD x3.toNat default).Root).Z).bits)), (.c (sl 4 cs_Turn ((a1.getD x3.toNat default).Turns)))]))]⟩ (T2 ((0 ≤ x3 ∧ x3 < (a1.length : Int)) ∧ Tt ∧ T2 Tt)) [.no, .no, .no, .no, .box 6] [1, 2, 8, 9, 15, 16, 17] [5, 6] ⟨tr, tr, c6, tr, tr, tr, tr⟩ ?_
      refine thenQ_normal ?_
      refine AW.seq ?_
      obtain ⟨v7, e8, h⟩ := bind_some h
      refine AW.rA ⟨[(1, (vc (sl 4 cs_Pose a1))), (2, (vc (.fn 15 0 fun _ => .nilptr))), (15, (vc (sl 4 cs_Pose a0))), (16, (vc (.int .i64 (a0.length : Int)))), (17, (vc (.int .i64 x3))), (30, (vc (.bool (!v7))))], []⟩ (Tt ∧ T2 (((((Eqc (.flt .f32 (((a0.getD x3.toNat default).Root).X).bits)) ∧ (Eqc (.flt .f32 (((a0.getD x3.toNat default).Root).Y).bits)) ∧ (Eqc (.flt .f32 (((a0.getD x3.toNat default).Root).Z).bits)) ∧ (Eqc (sl 4 cs_Turn ((a0.getD x3.toNat default).Turns))) ∧ Tt) ∧ ((Eqc (.flt .f32 (((a1.getD x3.toNat default).Root).X).bits)) ∧ (Eqc (.flt .f32 (((a1.getD x3.toNat default).Root).Y).bits)) ∧ (Eqc (.flt .f32 (((a1.getD x3.toNat default).Root).Z).bits)) ∧ (Eqc (sl 4 cs_Turn ((a1.getD x3.toNat default).Turns))) ∧ Tt) ∧ Tt) ∧ CallOK Try.prog 15 [.agg (cs_Pose (a0.getD x3.toNat default)), .agg (cs_Pose (a1.getD x3.toNat default))] [.one (.bool v7)]) ∧ Tt ∧ Tt)) [.no, .no, .no, .call [.agg (cs_Pose (a0.getD x3.toNat default)), .agg (cs_Pose (a1.getD x3.toNat default))] [.one (.bool v7)] [[.view]]] [1, 2, 15, 16, 17, 30] [] ⟨tr, tr, tr, ⟨⟨⟨rfl, rfl, rfl, rfl, tr⟩, ⟨rfl, rfl, rfl, rfl, tr⟩, tr⟩, ok_impl_SamePose K (a0.getD x3.toNat default) (a1.getD x3.toNat default) v7 e8⟩, tr, tr⟩ ?_
      refine thenQ_normal ?_
      rcases ite2_cases h with ⟨b9, h⟩ | ⟨b9, h⟩
      · refine AW.cond_t rfl b9 ?_
        refine AW.seq (AW.rA ⟨[(6, (vc (.bool false)))], []⟩ (Tt ∧ Tt) [] [6] [] ⟨tr, tr⟩ (thenQ_normal ?_))
        refine AW.ret ?_
        refine blockQ_ret ?_
        refine thenQ_ret ?_
        refine loopQ_ret ?_
        refine blockQ_ret ?_
        refine thenQ_ret ?_
        replace h := some_eq h
        subst h
        exact ⟨.inr rfl, retOK_of [(.one (.c (.bool false)))] (by kernel_rfl) ⟨⟨rfl, tr⟩, tr⟩ (of_decide_eq_true (by kernel_rfl))⟩
      · refine AW.cond_f rfl b9 ?_
        refine AW.skip ?_
        refine blockQ_normal ?_
        refine thenQ_normal ?_
        refine AW.rA ⟨[(1, (vc (sl 4 cs_Pose a1))), (2, (vc (.fn 15 0 fun _ => .nilptr))), (15, (vc (sl 4 cs_Pose a0))), (16, (vc (.int .i64 (a0.length : Int)))), (17, (vc (.int .i64 (IntKind.i64.wrap (x3 + (1 : Int))))))], []⟩ (T2 Tt) [] [1, 2, 15, 16, 17] [] ⟨tr, tr, tr⟩ ?_
        exact loopQ_normal (k, (IntKind.i64.wrap (x3 + (1 : Int)))) h (Nat.lt_succ_self k) (Sub.keep [1, 2, 15, 16, 17] [] (by kernel_rfl) (by kernel_rfl))
    · refine AW.cond_f rfl b4 ?_
      refine AW.exit ?_
      refine thenQ_exit ?_
      refine loopQ_exit ?_
      refine blockQ_exit ?_
      refine thenQ_normal ?_
      refine AW.seq (AW.rA ⟨[(6, (vc (.bool true)))], []⟩ (Tt ∧ Tt) [] [6] [] ⟨tr, tr⟩ (thenQ_normal ?_))
      refine AW.ret ?_
      replace h := some_eq h
      subst h
      exact ⟨.inr rfl, retOK_of [(.one (.c (.bool true)))] (by kernel_rfl) ⟨⟨rfl, tr⟩, tr⟩ (of_decide_eq_true (by kernel_rfl))⟩

/-! impl.SameRecording -/
def impl_SameRecording (K : Nat) (a0 : Recording) (a1 : Recording) : Option (Bool) :=
  (impl_ValidRecording K a0).bind fun v1 => (ite2 (v1) ((impl_ValidRecording K a1).bind fun v4 => ite2 (v4) (ite2 ((a0.Bones == a1.Bones)) ((slices_EqualFunc_impl_Pose_impl_Pose_impl_Pose_impl_Pose K a0.Frames a1.Frames).bind fun v8 => some v8) (some false)) (some false)) (some false)).bind fun j10 => some j10

theorem ok_impl_SameRecording (K : Nat) (a0 : Recording) (a1 : Recording) (o : (Bool)) (h : impl_SameRecording K a0 a1 = some o) : CallOK Try.prog 9 [.agg (cs_Recording a0), .agg (cs_Recording a1)] [.one (.bool o)] := by
  refine callOK_of_AW Try.func9 rfl (by kernel_rfl) (Nat.le_of_ble_eq_true (by kernel_rfl)) ?_
  intro w0
  unfold impl_SameRecording at h
  refine AW.seq (AW.rA ⟨[(2, (vp 1 0)), (3, (vp 2 0))], [(1, (.box [(.c (.int .i64 a0.Bones)), (.c (sl 4 cs_Pose a0.Frames))])), (2, (.box [(.c (.int .i64 a1.Bones)), (.c (sl 4 cs_Pose a1.Frames))]))]⟩ (Tt ∧ T2 Tt) [.box 1, .box 2] [2, 3] [1, 2] ⟨tr, tr, tr, tr⟩ (thenQ_normal ?_))
  refine AW.seq ?_
  obtain ⟨v1, e2, h⟩ := bind_some h
  obtain ⟨j10, e11, h⟩ := bind_some h
  refine AW.join1 (s2 := ⟨[(4, (vc (.bool j10)))], []⟩) ?_ ?_
  · rcases ite2_cases e11 with ⟨b3, e11⟩ | ⟨b3, e11⟩
    · obtain ⟨v4, e5, e11⟩ := bind_some e11
      rcases ite2_cases e11 with ⟨b6, e11⟩ | ⟨b6, e11⟩
      · rcases ite2_cases e11 with ⟨b7, e11⟩ | ⟨b7, e11⟩
        · obtain ⟨v8, e9, e11⟩ := bind_some e11
          replace e11 := some_eq e11
          subst e11
          exact AW.rA ⟨[(4, (vc (.bool v8)))], []⟩ (Tt ∧ ((((Eqc (.int .i64 a0.Bones)) ∧ (Eqc (sl 4 cs_Pose a0.Frames)) ∧ Tt) ∧ Tt) ∧ CallOK Try.prog 10 [.agg (cs_Recording a0)] [.one (.bool v1)]) ∧ (Tt ∧ v1 = true) ∧ Tt ∧ ((((Eqc (.int .i64 a1.Bones)) ∧ (Eqc (sl 4 cs_Pose a1.Frames)) ∧ Tt) ∧ Tt) ∧ CallOK Try.prog 10 [.agg (cs_Recording a1)] [.one (.bool v4)]) ∧ Tt ∧ (Tt ∧ v4 = true) ∧ T2 (T4 ((Tt ∧ (a0.Bones == a1.Bones) = true) ∧ T4 ((((Eqc (sl 4 cs_Pose a0.Frames)) ∧ (Eqc (sl 4 cs_Pose a1.Frames)) ∧ (Eqc (.fn 15 0 fun _ => .nilptr)) ∧ Tt) ∧ CallOK Try.prog 21 [.one (sl 4 cs_Pose a0.Frames), .one (sl 4 cs_Pose a1.Frames), .one (.fn 15 0 fun _ => .nilptr)] [.one (.bool v8)]) ∧ T2 Tt)))) [.no, .call [.agg (cs_Recording a0)] [.one (.bool v1)] [[.view]], .dec true, .no, .call [.agg (cs_Recording a1)] [.one (.bool v4)] [[.view]], .no, .dec true, .no, .no, .no, .no, .no, .no, .dec true, .no, .no, .no, .no, .call [.one (sl 4 cs_Pose a0.Frames), .one (sl 4 cs_Pose a1.Frames), .one (.fn 15 0 fun _ => .nilptr)] [.one (.bool v8)] [[.view]]] [4] [] ⟨tr, ⟨⟨⟨rfl, rfl, tr⟩, tr⟩, ok_impl_ValidRecording K a0 v1 e2⟩, ⟨tr, b3⟩, tr, ⟨⟨⟨rfl, rfl, tr⟩, tr⟩, ok_impl_ValidRecording K a1 v4 e5⟩, tr, ⟨tr, b6⟩, tr, tr, tr, tr, tr, tr, ⟨tr, b7⟩, tr, tr, tr, tr, ⟨⟨rfl, rfl, rfl, tr⟩, ok_slices_EqualFunc_impl_Pose_impl_Pose_impl_Pose_impl_Pose K a0.Frames a1.Frames v8 e9⟩, tr, tr, tr⟩ ⟨rfl, rfl⟩
        · replace e11 := some_eq e11
          subst e11
          exact AW.rA ⟨[(4, (vc (.bool false)))], []⟩ (Tt ∧ ((((Eqc (.int .i64 a0.Bones)) ∧ (Eqc (sl 4 cs_Pose a0.Frames)) ∧ Tt) ∧ Tt) ∧ CallOK Try.prog 10 [.agg (cs_Recording a0)] [.one (.bool v1)]) ∧ (Tt ∧ v1 = true) ∧ Tt ∧ ((((Eqc (.int .i64 a1.Bones)) ∧ (Eqc (sl 4 cs_Pose a1.Frames)) ∧ Tt) ∧ Tt) ∧ CallOK Try.prog 10 [.agg (cs_Recording a1)] [.one (.bool v4)]) ∧ Tt ∧ (Tt ∧ v4 = true) ∧ T2 (T4 ((Tt ∧ (a0.Bones == a1.Bones) = false) ∧ Tt ∧ T2 (T4 Tt)))) [.no, .call [.agg (cs_Recording a0)] [.one (.bool v1)] [[.view]], .dec true, .no, .call [.agg (cs_Recording a1)] [.one (.bool v4)] [[.view]], .no, .dec true, .no, .no, .no, .no, .no, .no, .dec false] [4] [] ⟨tr, ⟨⟨⟨rfl, rfl, tr⟩, tr⟩, ok_impl_ValidRecording K a0 v1 e2⟩, ⟨tr, b3⟩, tr, ⟨⟨⟨rfl, rfl, tr⟩, tr⟩, ok_impl_ValidRecording K a1 v4 e5⟩, tr, ⟨tr, b6⟩, tr, tr, tr, tr, tr, tr, ⟨tr, b7⟩, tr, tr, tr, tr, tr, tr, tr, tr⟩ ⟨rfl, rfl⟩
      · replace e11 := some_eq e11
        subst e11
        exact AW.rA ⟨[(4, (vc (.bool false)))], []⟩ (Tt ∧ ((((Eqc (.int .i64 a0.Bones)) ∧ (Eqc (sl 4 cs_Pose a0.Frames)) ∧ Tt) ∧ Tt) ∧ CallOK Try.prog 10 [.agg (cs_Recording a0)] [.one (.bool v1)]) ∧ (Tt ∧ v1 = true) ∧ Tt ∧ ((((Eqc (.int .i64 a1.Bones)) ∧ (Eqc (sl 4 cs_Pose a1.Frames)) ∧ Tt) ∧ Tt) ∧ CallOK Try.prog 10 [.agg (cs_Recording a1)] [.one (.bool v4)]) ∧ Tt ∧ (Tt ∧ v4 = false) ∧ T2 (T4 (T4 (T4 Tt)))) [.no, .call [.agg (cs_Recording a0)] [.one (.bool v1)] [[.view]], .dec true, .no, .call [.agg (cs_Recording a1)] [.one (.bool v4)] [[.view]], .no, .dec false] [4] [] ⟨tr, ⟨⟨⟨rfl, rfl, tr⟩, tr⟩, ok_impl_ValidRecording K a0 v1 e2⟩, ⟨tr, b3⟩, tr, ⟨⟨⟨rfl, rfl, tr⟩, tr⟩, ok_impl_ValidRecording K a1 v4 e5⟩, tr, ⟨tr, b6⟩, tr, tr, tr, tr, tr, tr, tr, tr, tr, tr, tr, tr, tr, tr, tr⟩ ⟨rfl, rfl⟩
    · replace e11 := some_eq e11
      subst e11
      exact AW.rA ⟨[(4, (vc (.bool false)))], []⟩ (Tt ∧ ((((Eqc (.int .i64 a0.Bones)) ∧ (Eqc (sl 4 cs_Pose a0.Frames)) ∧ Tt) ∧ Tt) ∧ CallOK Try.prog 10 [.agg (cs_Recording a0)] [.one (.bool v1)]) ∧ (Tt ∧ v1 = false) ∧ T2 (T4 (T4 (T4 (T4 Tt))))) [.no, .call [.agg (cs_Recording a0)] [.one (.bool v1)] [[.view]], .dec false] [4] [] ⟨tr, ⟨⟨⟨rfl, rfl, tr⟩, tr⟩, ok_impl_ValidRecording K a0 v1 e2⟩, ⟨tr, b3⟩, tr, tr, tr, tr, tr, tr, tr, tr, tr, tr, tr, tr, tr, tr, tr, tr, tr, tr, tr⟩ ⟨rfl, rfl⟩
  refine thenQ_normal ?_
  refine AW.ret ?_
  replace h := some_eq h
  subst h
  exact ⟨.inr rfl, retOK_of [(.one (.c (.bool j10)))] (by kernel_rfl) ⟨⟨rfl, tr⟩, tr⟩ (of_decide_eq_true (by kernel_rfl))⟩

/-! impl.AddFrame -/
def impl_AddFrame (K : Nat) (a0 : Recording) (a1 : Pose) : Option (Recording × Bool) :=
  (impl_ValidRecording K a0).bind fun v1 => ite2 ((!v1)) (some ((Recording.mk (0 : Int) ([] : (List Pose))), false)) ((impl_frames K a0.Frames).bind fun v4 => (impl_frames K ([a1])).bind fun v6 => chk ((v4.length + v6.length) * 40 ≤ 140737488355328) ((impl_validRecording K (Recording.mk a0.Bones (v4 ++ v6))).bind fun v9 => some (v9.1, v9.2)))

theorem ok_impl_AddFrame (K : Nat) (a0 : Recording) (a1 : Pose) (o : (Recording × Bool)) (h : impl_AddFrame K a0 a1 = some o) : CallOK Try.prog 11 [.agg (cs_Recording a0), .agg (cs_Pose a1)] [.agg (cs_Recording o.1), .one (.bool o.2)] := by
  refine callOK_of_AW Try.func11 rfl (by kernel_rfl) (Nat.le_of_ble_eq_true (by kernel_rfl)) ?_
  intro w0
  unfold impl_AddFrame at h
  refine AW.seq (AW.rA ⟨[(2, (vp 1 0)), (3, (vp 2 0)), (4, (vp 3 0))], [(1, (.box [(.c (.int .i64 a0.Bones)), (.c (sl 4 cs_Pose a0.Frames))])), (2, (.box [(.c (.flt .f32 a1.Root.X.bits)), (.c (.flt .f32 a1.Root.Y.bits)), (.c (.flt .f32 a1.Root.Z.bits)), (.c (sl 4 cs_Turn a1.Turns))])), (3, (.box [(.c (.int .i64 (0 : Int))), .nils]))]⟩ (T4 Tt) [.box 1, .box 2, .box 3] [2, 3, 4] [1, 2, 3] ⟨tr, tr, tr, tr, tr⟩ (thenQ_normal ?_))
  refine AW.seq ?_
  refine AW.seq ?_
  obtain ⟨v1, e2, h⟩ := bind_some h
  refine AW.rA ⟨[(2, (vp 1 0)), (3, (vp 2 0)), (4, (vp 3 0)), (8, (vc (.bool (!v1))))], [(1, (.box [(.c (.int .i64 a0.Bones)), (.c (sl 4 cs_Pose a0.Frames))])), (2, (.box [(.c (.flt .f32 a1.Root.X.bits)), (.c (.flt .f32 a1.Root.Y.bits)), (.c (.flt .f32 a1.Root.Z.bits)), (.c (sl 4 cs_Turn a1.Turns))])), (3, (.box [(.c (.int .i64 (0 : Int))), .nils]))]⟩ (Tt ∧ ((((Eqc (.int .i64 a0.Bones)) ∧ (Eqc (sl 4 cs_Pose a0.Frames)) ∧ Tt) ∧ Tt) ∧ CallOK Try.prog 10 [.agg (cs_Recording a0)] [.one (.bool v1)]) ∧ Tt ∧ Tt) [.no, .call [.agg (cs_Recording a0)] [.one (.bool v1)] [[.view]]] [2, 3, 4, 8] [1, 2, 3] ⟨tr, ⟨⟨⟨rfl, rfl, tr⟩, tr⟩, ok_impl_ValidRecording K a0 v1 e2⟩, tr, tr⟩ ?_
  refine thenQ_normal ?_
  rcases ite2_cases h with ⟨b3, h⟩ | ⟨b3, h⟩
  · refine AW.cond_t rfl b3 ?_
    refine AW.seq (AW.rA ⟨[(4, (vp 3 0)), (5, (vc (.bool false)))], [(3, (.box [(.c (.int .i64 (0 : Int))), .nils]))]⟩ (Tt ∧ T2 Tt) [] [4, 5] [3] ⟨tr, tr, tr, tr⟩ (thenQ_normal ?_))
    refine AW.ret ?_
    refine thenQ_ret ?_
    replace h := some_eq h
    subst h
    exact ⟨.inr rfl, retOK_of [(.agg [(.c (.int .i64 (0 : Int))), .nils]), (.one (.c (.bool false)))] (by kernel_rfl) ⟨⟨⟨rfl, tr⟩, rfl, tr⟩, ⟨rfl, tr⟩, tr⟩ (of_decide_eq_true (by kernel_rfl))⟩
  · refine AW.cond_f rfl b3 ?_
    refine AW.skip ?_
    refine thenQ_normal ?_
    refine AW.seq ?_
    obtain ⟨v4, e5, h⟩ := bind_some h
    obtain ⟨v6, e7, h⟩ := bind_some h
    obtain ⟨c8, h⟩ := chk_some h
    obtain ⟨v9, e10, h⟩ := bind_some h
    refine AW.treeA (by kernel_rfl) 10 [.no, .no, .no, .no, .call [.one (sl 4 cs_Pose a0.Frames)] [.one (sl 4 cs_Pose v4)] [[.own 4]], .no, .seq ([a1]).length (gl cs_Pose ([a1])), .call [.one (sl 4 cs_Pose ([a1]))] [.one (sl 4 cs_Pose v6)] [[.own 5]], .objD 6 (v4 ++ v6).length (gl cs_Pose (v4 ++ v6)), .no, .callM [(.agg [(.ro (.int .i64 a0.Bones)), (.mv (sl 4 cs_Pose (v4 ++ v6)))])] [.agg (cs_Recording v9.1), .one (.bool v9.2)] [[.view, .lst 7], [.view]] none] [4, 5] [3, 7] (s' := ⟨[(4, (vp 3 0)), (5, (vc (.bool v9.2)))], [(3, (.box [(.c (.int .i64 v9.1.Bones)), (.lst 7 v9.1.Frames.length 4 (gl cs_Pose v9.1.Frames))])), (7, (.lst v9.1.Frames.length 4 (gl cs_Pose v9.1.Frames)))]⟩) (ob := (T4 ((((Eqc (sl 4 cs_Pose a0.Frames)) ∧ Tt) ∧ CallOK Try.prog 19 [.one (sl 4 cs_Pose a0.Frames)] [.one (sl 4 cs_Pose v4)]) ∧ Tt ∧ (([a1]).length = 1 ∧ (Eqc (.flt .f32 a1.Root.X.bits)) ∧ (Eqc (.flt .f32 a1.Root.Y.bits)) ∧ (Eqc (.flt .f32 a1.Root.Z.bits)) ∧ (Eqc (sl 4 cs_Turn a1.Turns)) ∧ Tt) ∧ (((Eqc (sl 4 cs_Pose ([a1]))) ∧ Tt) ∧ CallOK Try.prog 19 [.one (sl 4 cs_Pose ([a1]))] [.one (sl 4 cs_Pose v6)]) ∧ ((v4 ++ v6).length = v4.length + v6.length ∧ AppOb (v4.length) (v6.length) 4 (gl cs_Pose v4) (gl cs_Pose v6) (gl cs_Pose (v4 ++ v6)) ∧ Tt ∧ (v4.length + v6.length) * 40 ≤ 140737488355328) ∧ Tt ∧ Tt)) ∧ ((((((Eqc (.int .i64 a0.Bones)) ∧ (Eqc (sl 4 cs_Pose (v4 ++ v6))) ∧ Tt) ∧ Tt) ∧ MutOK Try.prog 20 [(.agg [(.ro (.int .i64 a0.Bones)), (.mv (sl 4 cs_Pose (v4 ++ v6)))])] [.agg (cs_Recording v9.1), .one (.bool v9.2)])) ∧ (Zt4 ((⟨[(4, (vp 3 0)), (5, (vc (.bool v9.2)))], [(3, (.box [(.c (.int .i64 v9.1.Bones)), (.lst 7 v9.1.Frames.length 4 (gl cs_Pose v9.1.Frames))])), (7, (.lst v9.1.Frames.length 4 (gl cs_Pose v9.1.Frames)))]⟩ : St) = ⟨[(4, (vp 3 0)), (5, (vc (.bool v9.2)))], [(3, (.box [(.c (.int .i64 v9.1.Bones)), (.lst 7 v9.1.Frames.length 4 (gl cs_Pose v9.1.Frames))])), (7, (.lst v9.1.Frames.length 4 (gl cs_Pose v9.1.Frames)))]⟩)))) (by kernel_rfl) ⟨⟨tr, tr, tr, tr, ⟨⟨rfl, tr⟩, ok_impl_frames K a0.Frames v4 e5⟩, tr, ⟨rfl, ⟨rfl, rfl, rfl, rfl, tr⟩⟩, ⟨⟨rfl, tr⟩, ok_impl_frames K ([a1]) v6 e7⟩, ⟨List.length_append, gl_append, tr, c8⟩, tr, tr⟩, ⟨⟨⟨⟨rfl, rfl, tr⟩, tr⟩, ok_impl_validRecording K (Recording.mk a0.Bones (v4 ++ v6)) v9 e10⟩, (zt4 rfl)⟩⟩ ?_
    refine thenQ_normal ?_
    refine AW.ret ?_
    replace h := some_eq h
    subst h
    exact ⟨.inr rfl, retOK_of [(.agg [(.c (.int .i64 v9.1.Bones)), (.lst 7 v9.1.Frames.length 4 (gl cs_Pose v9.1.Frames))]), (.one (.c (.bool v9.2)))] (by kernel_rfl) ⟨⟨⟨rfl, tr⟩, rfl, tr⟩, ⟨rfl, tr⟩, tr⟩ (of_decide_eq_true (by kernel_rfl))⟩

/-! impl.isPose -/
def impl_isPose (_K : Nat) (a0 : Pose) : Option (Bool) :=
  (ite2 ((decide ((a0.Turns.length : Int) ≥ (1 : Int)))) (some (decide ((a0.Turns.length : Int) ≤ (12 : Int)))) (some false)).bind fun j2 => some j2

theorem ok_impl_isPose (K : Nat) (a0 : Pose) (o : (Bool)) (h : impl_isPose K a0 = some o) : CallOK Try.prog 25 [.agg (cs_Pose a0)] [.one (.bool o)] := by
  refine callOK_of_AW Try.func25 rfl (by kernel_rfl) (Nat.le_of_ble_eq_true (by kernel_rfl)) ?_
  intro w0
  unfold impl_isPose at h
  refine AW.seq (AW.rA ⟨[(1, (vp 1 0))], [(1, (.box [(.c (.flt .f32 a0.Root.X.bits)), (.c (.flt .f32 a0.Root.Y.bits)), (.c (.flt .f32 a0.Root.Z.bits)), (.c (sl 4 cs_Turn a0.Turns))]))]⟩ (T2 Tt) [.box 1] [1] [1] ⟨tr, tr, tr⟩ (thenQ_normal ?_))
  refine AW.seq ?_
  obtain ⟨j2, e3, h⟩ := bind_some h
  refine AW.join1 (s2 := ⟨[(2, (vc (.bool j2)))], []⟩) ?_ ?_
  · rcases ite2_cases e3 with ⟨b1, e3⟩ | ⟨b1, e3⟩
    · replace e3 := some_eq e3
      subst e3
      exact AW.rA ⟨[(2, (vc (.bool (decide ((a0.Turns.length : Int) ≤ (12 : Int))))))], []⟩ (T4 ((Tt ∧ (decide ((a0.Turns.length : Int) ≥ (1 : Int))) = true) ∧ T2 (T4 Tt))) [.no, .no, .no, .no, .dec true] [2] [] ⟨tr, tr, tr, tr, ⟨tr, b1⟩, tr, tr, tr, tr, tr, tr, tr⟩ ⟨rfl, rfl⟩
    · replace e3 := some_eq e3
      subst e3
      exact AW.rA ⟨[(2, (vc (.bool false)))], []⟩ (T4 ((Tt ∧ (decide ((a0.Turns.length : Int) ≥ (1 : Int))) = false) ∧ T2 (T4 Tt))) [.no, .no, .no, .no, .dec false] [2] [] ⟨tr, tr, tr, tr, ⟨tr, b1⟩, tr, tr, tr, tr, tr, tr, tr⟩ ⟨rfl, rfl⟩
  refine thenQ_normal ?_
  refine AW.ret ?_
  replace h := some_eq h
  subst h
  exact ⟨.inr rfl, retOK_of [(.one (.c (.bool j2)))] (by kernel_rfl) ⟨⟨rfl, tr⟩, tr⟩ (of_decide_eq_true (by kernel_rfl))⟩

/-! impl.listed -/
def impl_listed_l1 (K : Nat) (a0 : Pose) : Nat → Int → (List F32) → Option ((List F32))
  | 0, _, _ => none
  | k + 1, x3, x4 => ite2 ((decide (x3 < (a0.Turns.length : Int)))) (chk (0 ≤ x3 ∧ x3 < (a0.Turns.length : Int)) (chk ((x4.length + ([(a0.Turns.getD x3.toNat default).W, (a0.Turns.getD x3.toNat default).X, (a0.Turns.getD x3.toNat default).Y, (a0.Turns.getD x3.toNat default).Z]).length) * 4 ≤ 140737488355328) (impl_listed_l1 K a0 k (IntKind.i64.wrap (x3 + (1 : Int))) (x4 ++ ([(a0.Turns.getD x3.toNat default).W, (a0.Turns.getD x3.toNat default).X, (a0.Turns.getD x3.toNat default).Y, (a0.Turns.getD x3.toNat default).Z]))))) (some x4)

def impl_listed (K : Nat) (a0 : Pose) : Option ((List F32)) :=
  impl_listed_l1 K a0 K (0 : Int) ([a0.Root.X, a0.Root.Y, a0.Root.Z])

theorem ok_impl_listed (K : Nat) (a0 : Pose) (o : ((List F32))) (h : impl_listed K a0 = some o) : CallOK Try.prog 26 [.agg (cs_Pose a0)] [.one (sl 1 (csF .f32) o)] := by
  refine callOK_of_AW Try.func26 rfl (by kernel_rfl) (Nat.le_of_ble_eq_true (by kernel_rfl)) ?_
  intro w0
  unfold impl_listed at h
  refine AW.seq (AW.rA ⟨[(1, (vp 1 0))], [(1, (.box [(.c (.flt .f32 a0.Root.X.bits)), (.c (.flt .f32 a0.Root.Y.bits)), (.c (.flt .f32 a0.Root.Z.bits)), (.c (sl 4 cs_Turn a0.Turns))]))]⟩ (T2 Tt) [.box 1] [1] [1] ⟨tr, tr, tr⟩ (thenQ_normal ?_))
  refine AW.seq (AW.rA ⟨[(1, (vp 1 0)), (3, (.v (.one (.lst 2 ([a0.Root.X, a0.Root.Y, a0.Root.Z]).length 1 (gl (csF .f32) ([a0.Root.X, a0.Root.Y, a0.Root.Z]))))))], [(1, (.box [(.c (.flt .f32 a0.Root.X.bits)), (.c (.flt .f32 a0.Root.Y.bits)), (.c (.flt .f32 a0.Root.Z.bits)), (.c (sl 4 cs_Turn a0.Turns))])), (2, (.lst ([a0.Root.X, a0.Root.Y, a0.Root.Z]).length 1 (gl (csF .f32) ([a0.Root.X, a0.Root.Y, a0.Root.Z]))))]⟩ (Tt ∧ T4 (T4 ((([a0.Root.X, a0.Root.Y, a0.Root.Z]).length = 3 ∧ (((.flt .f32 a0.Root.X.bits) : C) = (.flt .f32 a0.Root.X.bits) ∧ Tt) ∧ (((.flt .f32 a0.Root.Y.bits) : C) = (.flt .f32 a0.Root.Y.bits) ∧ Tt) ∧ (((.flt .f32 a0.Root.Z.bits) : C) = (.flt .f32 a0.Root.Z.bits) ∧ Tt) ∧ Tt) ∧ Tt ∧ Tt))) [.no, .no, .no, .no, .no, .no, .no, .no, .no, .obj 2 ([a0.Root.X, a0.Root.Y, a0.Root.Z]).length (gl (csF .f32) ([a0.Root.X, a0.Root.Y, a0.Root.Z]))] [1, 3] [1, 2] ⟨tr, tr, tr, tr, tr, tr, tr, tr, tr, ⟨rfl, ⟨⟨rfl, tr⟩, ⟨rfl, tr⟩, ⟨rfl, tr⟩, tr⟩⟩, tr, tr⟩ (thenQ_normal ?_))
  refine AW.seq ?_
  refine AW.seq (AW.rA ⟨[(3, (.v (.one (.lst 2 ([a0.Root.X, a0.Root.Y, a0.Root.Z]).length 1 (gl (csF .f32) ([a0.Root.X, a0.Root.Y, a0.Root.Z])))))), (17, (vc (sl 4 cs_Turn a0.Turns))), (18, (vc (.int .i64 (a0.Turns.length : Int)))), (19, (vc (.int .i64 (0 : Int))))], [(2, (.lst ([a0.Root.X, a0.Root.Y, a0.Root.Z]).length 1 (gl (csF .f32) ([a0.Root.X, a0.Root.Y, a0.Root.Z]))))]⟩ (T4 Tt) [] [3, 17, 18, 19] [2] ⟨tr, tr, tr, tr, tr⟩ (thenQ_normal ?_))
  refine AW.block ?_
  refine AW.loopQ (σ := Nat × Int × (List F32)) (fun p => ⟨[(3, (.v (.one (.lst 2 p.2.2.length 1 (gl (csF .f32) p.2.2))))), (17, (vc (sl 4 cs_Turn a0.Turns))), (18, (vc (.int .i64 (a0.Turns.length : Int)))), (19, (vc (.int .i64 p.2.1)))], [(2, (.lst p.2.2.length 1 (gl (csF .f32) p.2.2)))]⟩) (fun p => impl_listed_l1 K a0 p.1 p.2.1 p.2.2 = some o) (fun p => p.1) (K, (0 : Int), [a0.Root.X, a0.Root.Y, a0.Root.Z]) h ?_
  clear h
  rintro ⟨k, x3, x4⟩ h
  replace h : impl_listed_l1 K a0 k x3 x4 = some o := h
  show AW _ _ (⟨[(3, (.v (.one (.lst 2 x4.length 1 (gl (csF .f32) x4))))), (17, (vc (sl 4 cs_Turn a0.Turns))), (18, (vc (.int .i64 (a0.Turns.length : Int)))), (19, (vc (.int .i64 x3)))], [(2, (.lst x4.length 1 (gl (csF .f32) x4)))]⟩ : St) _
  obtain _ | k := k
  · rw [impl_listed_l1] at h; cases h
  rw [impl_listed_l1] at h
  refine AW.seq (AW.rA ⟨[(3, (.v (.one (.lst 2 x4.length 1 (gl (csF .f32) x4))))), (17, (vc (sl 4 cs_Turn a0.Turns))), (18, (vc (.int .i64 (a0.Turns.length : Int)))), (19, (vc (.int .i64 x3))), (20, (vc (.bool (decide (x3 < (a0.Turns.length : Int))))))], [(2, (.lst x4.length 1 (gl (csF .f32) x4)))]⟩ (Tt ∧ Tt) [] [3, 17, 18, 19, 20] [2] ⟨tr, tr⟩ (thenQ_normal ?_))
  refine AW.seq ?_
  rcases ite2_cases h with ⟨b5, h⟩ | ⟨b5, h⟩
  · refine AW.cond_t rfl b5 ?_
    refine AW.skip ?_
    refine thenQ_normal ?_
    refine AW.seq ?_
    refine AW.block ?_
    refine AW.seq ?_
    obtain ⟨c6, h⟩ := chk_some h
    refine AW.rA ⟨[(3, (.v (.one (.lst 2 x4.length 1 (gl (csF .f32) x4))))), (5, (vp 9 0)), (17, (vc (sl 4 cs_Turn a0.Turns))), (18, (vc (.int .i64 (a0.Turns.length : Int)))), (19, (vc (.int .i64 x3)))], [(2, (.lst x4.length 1 (gl (csF .f32) x4))), (9, (.box [(.c (.flt .f32 ((a0.Turns.getD x3.toNat default).W).bits)), (.c (.flt .f32 ((a0.Turns.getD x3.toNat default).X).bits)), (.c (.flt .f32 ((a0.Turns.getD x3.toNat default).Y).bits)), (.c (.flt .f32 ((a0.Turns.getD x3.toNat default).Z).bits))]))]⟩ ((0 ≤ x3 ∧ x3 < (a0.Turns.length : Int)) ∧ Tt ∧ T2 Tt) [.no, .no, .box 9] [3, 5, 17, 18, 19] [2, 9] ⟨c6, tr, tr, tr, tr⟩ ?_
    refine thenQ_normal ?_
    obtain ⟨c7, h⟩ := chk_some h
    refine AW.rA ⟨[(3, (.v (.one (.lst 11 (x4 ++ ([(a0.Turns.getD x3.toNat default).W, (a0.Turns.getD x3.toNat default).X, (a0.Turns.getD x3.toNat default).Y, (a0.Turns.getD x3.toNat default).Z])).length 1 (gl (csF .f32) (x4 ++ ([(a0.Turns.getD x3.toNat default).W, (a0.Turns.getD x3.toNat default).X, (a0.Turns.getD x3.toNat default).Y, (a0.Turns.getD x3.toNat default).Z]))))))), (17, (vc (sl 4 cs_Turn a0.Turns))), (18, (vc (.int .i64 (a0.Turns.length : Int)))), (19, (vc (.int .i64 x3)))], [(11, (.lst (x4 ++ ([(a0.Turns.getD x3.toNat default).W, (a0.Turns.getD x3.toNat default).X, (a0.Turns.getD x3.toNat default).Y, (a0.Turns.getD x3.toNat default).Z])).length 1 (gl (csF .f32) (x4 ++ ([(a0.Turns.getD x3.toNat default).W, (a0.Turns.getD x3.toNat default).X, (a0.Turns.getD x3.toNat default).Y, (a0.Turns.getD x3.toNat default).Z])))))]⟩ (Tt ∧ T4 (T4 ((([(a0.Turns.getD x3.toNat default).W, (a0.Turns.getD x3.toNat default).X, (a0.Turns.getD x3.toNat default).Y, (a0.Turns.getD x3.toNat default).Z]).length = 4 ∧ (((.flt .f32 ((a0.Turns.getD x3.toNat default).W).bits) : C) = (.flt .f32 ((a0.Turns.getD x3.toNat default).W).bits) ∧ Tt) ∧ (((.flt .f32 ((a0.Turns.getD x3.toNat default).X).bits) : C) = (.flt .f32 ((a0.Turns.getD x3.toNat default).X).bits) ∧ Tt) ∧ (((.flt .f32 ((a0.Turns.getD x3.toNat default).Y).bits) : C) = (.flt .f32 ((a0.Turns.getD x3.toNat default).Y).bits) ∧ Tt) ∧ (((.flt .f32 ((a0.Turns.getD x3.toNat default).Z).bits) : C) = (.flt .f32 ((a0.Turns.getD x3.toNat default).Z).bits) ∧ Tt) ∧ Tt) ∧ ((x4 ++ ([(a0.Turns.getD x3.toNat default).W, (a0.Turns.getD x3.toNat default).X, (a0.Turns.getD x3.toNat default).Y, (a0.Turns.getD x3.toNat default).Z])).length = x4.length + ([(a0.Turns.getD x3.toNat default).W, (a0.Turns.getD x3.toNat default).X, (a0.Turns.getD x3.toNat default).Y, (a0.Turns.getD x3.toNat default).Z]).length ∧ AppOb (x4.length) (([(a0.Turns.getD x3.toNat default).W, (a0.Turns.getD x3.toNat default).X, (a0.Turns.getD x3.toNat default).Y, (a0.Turns.getD x3.toNat default).Z]).length) 1 (gl (csF .f32) x4) (gl (csF .f32) ([(a0.Turns.getD x3.toNat default).W, (a0.Turns.getD x3.toNat default).X, (a0.Turns.getD x3.toNat default).Y, (a0.Turns.getD x3.toNat default).Z])) (gl (csF .f32) (x4 ++ ([(a0.Turns.getD x3.toNat default).W, (a0.Turns.getD x3.toNat default).X, (a0.Turns.getD x3.toNat default).Y, (a0.Turns.getD x3.toNat default).Z]))) ∧ (∀ i j, i < ([(a0.Turns.getD x3.toNat default).W, (a0.Turns.getD x3.toNat default).X, (a0.Turns.getD x3.toNat default).Y, (a0.Turns.getD x3.toNat default).Z]).length → j < 1 → scalarC (gl (csF .f32) ([(a0.Turns.getD x3.toNat default).W, (a0.Turns.getD x3.toNat default).X, (a0.Turns.getD x3.toNat default).Y, (a0.Turns.getD x3.toNat default).Z]) i j)) ∧ (x4.length + ([(a0.Turns.getD x3.toNat default).W, (a0.Turns.getD x3.toNat default).X, (a0.Turns.getD x3.toNat default).Y, (a0.Turns.getD x3.toNat default).Z]).length) * 4 ≤ 140737488355328) ∧ Tt ∧ Tt))) [.no, .no, .no, .no, .no, .no, .no, .no, .no, .obj 10 ([(a0.Turns.getD x3.toNat default).W, (a0.Turns.getD x3.toNat default).X, (a0.Turns.getD x3.toNat default).Y, (a0.Turns.getD x3.toNat default).Z]).length (gl (csF .f32) ([(a0.Turns.getD x3.toNat default).W, (a0.Turns.getD x3.toNat default).X, (a0.Turns.getD x3.toNat default).Y, (a0.Turns.getD x3.toNat default).Z])), .objK 11 (x4 ++ ([(a0.Turns.getD x3.toNat default).W, (a0.Turns.getD x3.toNat default).X, (a0.Turns.getD x3.toNat default).Y, (a0.Turns.getD x3.toNat default).Z])).length (gl (csF .f32) (x4 ++ ([(a0.Turns.getD x3.toNat default).W, (a0.Turns.getD x3.toNat default).X, (a0.Turns.getD x3.toNat default).Y, (a0.Turns.getD x3.toNat default).Z])))] [3, 17, 18, 19] [11] ⟨tr, tr, tr, tr, tr, tr, tr, tr, tr, ⟨rfl, ⟨⟨rfl, tr⟩, ⟨rfl, tr⟩, ⟨rfl, tr⟩, ⟨rfl, tr⟩, tr⟩⟩, ⟨List.length_append, gl_append, gl_scalar scF _, c7⟩, tr, tr⟩ ?_
    refine blockQ_normal ?_
    refine thenQ_normal ?_
    refine AW.rA ⟨[(3, (.v (.one (.lst 11 (x4 ++ ([(a0.Turns.getD x3.toNat default).W, (a0.Turns.getD x3.toNat default).X, (a0.Turns.getD x3.toNat default).Y, (a0.Turns.getD x3.toNat default).Z])).length 1 (gl (csF .f32) (x4 ++ ([(a0.Turns.getD x3.toNat default).W, (a0.Turns.getD x3.toNat default).X, (a0.Turns.getD x3.toNat default).Y, (a0.Turns.getD x3.toNat default).Z]))))))), (17, (vc (sl 4 cs_Turn a0.Turns))), (18, (vc (.int .i64 (a0.Turns.length : Int)))), (19, (vc (.int .i64 (IntKind.i64.wrap (x3 + (1 : Int))))))], [(11, (.lst (x4 ++ ([(a0.Turns.getD x3.toNat default).W, (a0.Turns.getD x3.toNat default).X, (a0.Turns.getD x3.toNat default).Y, (a0.Turns.getD x3.toNat default).Z])).length 1 (gl (csF .f32) (x4 ++ ([(a0.Turns.getD x3.toNat default).W, (a0.Turns.getD x3.toNat default).X, (a0.Turns.getD x3.toNat default).Y, (a0.Turns.getD x3.toNat default).Z])))))]⟩ (T2 Tt) [] [3, 17, 18, 19] [11] ⟨tr, tr, tr⟩ ?_
    exact loopQ_normal (k, (IntKind.i64.wrap (x3 + (1 : Int))), (x4 ++ ([(a0.Turns.getD x3.toNat default).W, (a0.Turns.getD x3.toNat default).X, (a0.Turns.getD x3.toNat default).Y, (a0.Turns.getD x3.toNat default).Z]))) h (Nat.lt_succ_self k) (Sub.trans (Sub.swap 2 11 _ (by kernel_rfl) (by kernel_rfl)) (Sub.keep [3, 17, 18, 19] [2] (by kernel_rfl) (by kernel_rfl)))
  · refine AW.cond_f rfl b5 ?_
    refine AW.exit ?_
    refine thenQ_exit ?_
    refine loopQ_exit ?_
    refine blockQ_exit ?_
    refine thenQ_normal ?_
    refine AW.seq (AW.rA ⟨[(2, (.v (.one (.lst 2 x4.length 1 (gl (csF .f32) x4)))))], [(2, (.lst x4.length 1 (gl (csF .f32) x4)))]⟩ (T2 Tt) [] [2] [2] ⟨tr, tr, tr⟩ (thenQ_normal ?_))
    refine AW.ret ?_
    replace h := some_eq h
    subst h
    exact ⟨.inr rfl, retOK_of [(.one (.lst 2 x4.length 1 (gl (csF .f32) x4)))] (by kernel_rfl) ⟨rfl, tr⟩ (of_decide_eq_true (by kernel_rfl))⟩

/-! impl.NumbersOfPose -/
def impl_NumbersOfPose (K : Nat) (a0 : Pose) : Option ((List F32) × Bool) :=
  (impl_isPose K a0).bind fun v1 => ite2 ((!v1)) (some (([] : (List F32)), false)) ((impl_listed K a0).bind fun v4 => some (v4, true))

theorem ok_impl_NumbersOfPose (K : Nat) (a0 : Pose) (o : ((List F32) × Bool)) (h : impl_NumbersOfPose K a0 = some o) : CallOK Try.prog 12 [.agg (cs_Pose a0)] [.one (sl 1 (csF .f32) o.1), .one (.bool o.2)] := by
  refine callOK_of_AW Try.func12 rfl (by kernel_rfl) (Nat.le_of_ble_eq_true (by kernel_rfl)) ?_
  intro w0
  unfold impl_NumbersOfPose at h
  refine AW.seq (AW.rA ⟨[(1, (vp 1 0))], [(1, (.box [(.c (.flt .f32 a0.Root.X.bits)), (.c (.flt .f32 a0.Root.Y.bits)), (.c (.flt .f32 a0.Root.Z.bits)), (.c (sl 4 cs_Turn a0.Turns))]))]⟩ (Tt ∧ T2 Tt) [.box 1] [1] [1] ⟨tr, tr, tr, tr⟩ (thenQ_normal ?_))
  refine AW.seq ?_
  refine AW.seq ?_
  obtain ⟨v1, e2, h⟩ := bind_some h
  refine AW.rA ⟨[(1, (vp 1 0)), (6, (vc (.bool (!v1))))], [(1, (.box [(.c (.flt .f32 a0.Root.X.bits)), (.c (.flt .f32 a0.Root.Y.bits)), (.c (.flt .f32 a0.Root.Z.bits)), (.c (sl 4 cs_Turn a0.Turns))]))]⟩ (Tt ∧ ((((Eqc (.flt .f32 a0.Root.X.bits)) ∧ (Eqc (.flt .f32 a0.Root.Y.bits)) ∧ (Eqc (.flt .f32 a0.Root.Z.bits)) ∧ (Eqc (sl 4 cs_Turn a0.Turns)) ∧ Tt) ∧ Tt) ∧ CallOK Try.prog 25 [.agg (cs_Pose a0)] [.one (.bool v1)]) ∧ Tt ∧ Tt) [.no, .call [.agg (cs_Pose a0)] [.one (.bool v1)] [[.view]]] [1, 6] [1] ⟨tr, ⟨⟨⟨rfl, rfl, rfl, rfl, tr⟩, tr⟩, ok_impl_isPose K a0 v1 e2⟩, tr, tr⟩ ?_
  refine thenQ_normal ?_
  rcases ite2_cases h with ⟨b3, h⟩ | ⟨b3, h⟩
  · refine AW.cond_t rfl b3 ?_
    refine AW.seq (AW.rA ⟨[(2, (.v (.one .nils))), (3, (vc (.bool false)))], []⟩ (T2 Tt) [] [2, 3] [] ⟨tr, tr, tr⟩ (thenQ_normal ?_))
    refine AW.ret ?_
    refine thenQ_ret ?_
    replace h := some_eq h
    subst h
    exact ⟨.inr rfl, retOK_of [(.one .nils), (.one (.c (.bool false)))] (by kernel_rfl) ⟨rfl, ⟨rfl, tr⟩, tr⟩ (of_decide_eq_true (by kernel_rfl))⟩
  · refine AW.cond_f rfl b3 ?_
    refine AW.skip ?_
    refine thenQ_normal ?_
    refine AW.seq ?_
    obtain ⟨v4, e5, h⟩ := bind_some h
    refine AW.rA ⟨[(2, (.v (.one (.lst 2 v4.length 1 (gl (csF .f32) v4))))), (3, (vc (.bool true)))], [(2, (.lst v4.length 1 (gl (csF .f32) v4)))]⟩ (Tt ∧ ((((Eqc (.flt .f32 a0.Root.X.bits)) ∧ (Eqc (.flt .f32 a0.Root.Y.bits)) ∧ (Eqc (.flt .f32 a0.Root.Z.bits)) ∧ (Eqc (sl 4 cs_Turn a0.Turns)) ∧ Tt) ∧ Tt) ∧ CallOK Try.prog 26 [.agg (cs_Pose a0)] [.one (sl 1 (csF .f32) v4)]) ∧ T2 Tt) [.no, .call [.agg (cs_Pose a0)] [.one (sl 1 (csF .f32) v4)] [[.lst 2]]] [2, 3] [2] ⟨tr, ⟨⟨⟨rfl, rfl, rfl, rfl, tr⟩, tr⟩, ok_impl_listed K a0 v4 e5⟩, tr, tr, tr⟩ ?_
    refine thenQ_normal ?_
    refine AW.ret ?_
    replace h := some_eq h
    subst h
    exact ⟨.inr rfl, retOK_of [(.one (.lst 2 v4.length 1 (gl (csF .f32) v4))), (.one (.c (.bool true)))] (by kernel_rfl) ⟨rfl, ⟨rfl, tr⟩, tr⟩ (of_decide_eq_true (by kernel_rfl))⟩

/-! impl.PoseOfNumbers -/
def impl_PoseOfNumbers_l1 (K : Nat) (a0 : (List F32)) : Nat → Int → (List Turn) → Option (Pose × Bool)
  | 0, _, _ => none
  | k + 1, x12, x13 => ite2 ((decide (x12 < (a0.length : Int)))) (chk (0 ≤ x12 ∧ x12 < (a0.length : Int)) (chk (0 ≤ (IntKind.i64.wrap (x12 + (1 : Int))) ∧ (IntKind.i64.wrap (x12 + (1 : Int))) < (a0.length : Int)) (chk (0 ≤ (IntKind.i64.wrap (x12 + (2 : Int))) ∧ (IntKind.i64.wrap (x12 + (2 : Int))) < (a0.length : Int)) (chk (0 ≤ (IntKind.i64.wrap (x12 + (3 : Int))) ∧ (IntKind.i64.wrap (x12 + (3 : Int))) < (a0.length : Int)) (chk ((x13.length + ([(Turn.mk (a0.getD x12.toNat default) (a0.getD ((IntKind.i64.wrap (x12 + (1 : Int))).toNat) default) (a0.getD ((IntKind.i64.wrap (x12 + (2 : Int))).toNat) default) (a0.getD ((IntKind.i64.wrap (x12 + (3 : Int))).toNat) default))]).length) * 16 ≤ 140737488355328) (impl_PoseOfNumbers_l1 K a0 k (IntKind.i64.wrap (x12 + (4 : Int))) (x13 ++ ([(Turn.mk (a0.getD x12.toNat default) (a0.getD ((IntKind.i64.wrap (x12 + (1 : Int))).toNat) default) (a0.getD ((IntKind.i64.wrap (x12 + (2 : Int))).toNat) default) (a0.getD ((IntKind.i64.wrap (x12 + (3 : Int))).toNat) default))])))))))) (some ((Pose.mk (Vector.mk (a0.getD ((0 : Int).toNat) default) (a0.getD ((1 : Int).toNat) default) (a0.getD ((2 : Int).toNat) default)) x13), true))

def impl_PoseOfNumbers (K : Nat) (a0 : (List F32)) : Option (Pose × Bool) :=
  (ite2 ((decide ((a0.length : Int) < (7 : Int)))) (some true) (chk ((4 : Int) ≠ 0) (ite2 ((((IntKind.i64.wrap ((a0.length : Int) - (3 : Int))).tmod (4 : Int)) != (0 : Int))) (some true) (some (decide ((IntKind.i64.wrap ((IntKind.i64.wrap ((a0.length : Int) - (3 : Int))).tdiv (4 : Int))) > (12 : Int))))))).bind fun j4 => ite2 (j4) (some ((Pose.mk (Vector.mk (default : F32) (default : F32) (default : F32)) ([] : (List Turn))), false)) (chk (0 ≤ (0 : Int) ∧ (0 : Int) < (a0.length : Int)) (chk (0 ≤ (1 : Int) ∧ (1 : Int) < (a0.length : Int)) (chk (0 ≤ (2 : Int) ∧ (2 : Int) < (a0.length : Int)) (impl_PoseOfNumbers_l1 K a0 K (3 : Int) ([] : (List Turn))))))

theorem ok_impl_PoseOfNumbers (K : Nat) (a0 : (List F32)) (o : (Pose × Bool)) (h : impl_PoseOfNumbers K a0 = some o) : CallOK Try.prog 13 [.one (sl 1 (csF .f32) a0)] [.agg (cs_Pose o.1), .one (.bool o.2)] := by
  refine callOK_of_AW Try.func13 rfl (by kernel_rfl) (Nat.le_of_ble_eq_true (by kernel_rfl)) ?_
  intro w0
  unfold impl_PoseOfNumbers at h
  refine AW.seq (AW.rA ⟨[(0, (vc (sl 1 (csF .f32) a0))), (2, (vp 1 0))], [(1, (.box [(.c (.flt .f32 (default : F32).bits)), (.c (.flt .f32 (default : F32).bits)), (.c (.flt .f32 (default : F32).bits)), .nils]))]⟩ (T2 Tt) [.box 1] [0, 2] [1] ⟨tr, tr, tr⟩ (thenQ_normal ?_))
  refine AW.seq (AW.rA ⟨[(0, (vc (sl 1 (csF .f32) a0))), (2, (vp 1 0)), (4, (vc (.int .i64 (a0.length : Int))))], [(1, (.box [(.c (.flt .f32 (default : F32).bits)), (.c (.flt .f32 (default : F32).bits)), (.c (.flt .f32 (default : F32).bits)), .nils]))]⟩ (Tt ∧ T2 Tt) [] [0, 2, 4] [1] ⟨tr, tr, tr, tr⟩ (thenQ_normal ?_))
  refine AW.seq ?_
  refine AW.seq ?_
  obtain ⟨j4, e5, h⟩ := bind_some h
  refine AW.join1 (s2 := ⟨[(0, (vc (sl 1 (csF .f32) a0))), (2, (vp 1 0)), (4, (vc (.int .i64 (a0.length : Int)))), (22, (vc (.bool j4)))], [(1, (.box [(.c (.flt .f32 (default : F32).bits)), (.c (.flt .f32 (default : F32).bits)), (.c (.flt .f32 (default : F32).bits)), .nils]))]⟩) ?_ ?_
  · rcases ite2_cases e5 with ⟨b1, e5⟩ | ⟨b1, e5⟩
    · replace e5 := some_eq e5
      subst e5
      exact AW.rA ⟨[(0, (vc (sl 1 (csF .f32) a0))), (2, (vp 1 0)), (4, (vc (.int .i64 (a0.length : Int)))), (22, (vc (.bool true)))], [(1, (.box [(.c (.flt .f32 (default : F32).bits)), (.c (.flt .f32 (default : F32).bits)), (.c (.flt .f32 (default : F32).bits)), .nils]))]⟩ (T2 ((Tt ∧ (decide ((a0.length : Int) < (7 : Int))) = true) ∧ Tt ∧ T2 (T4 (T4 Tt)))) [.no, .no, .dec true] [0, 2, 4, 22] [1] ⟨tr, tr, ⟨tr, b1⟩, tr, tr, tr, tr, tr, tr, tr, tr, tr, tr, tr, tr⟩ ⟨rfl, rfl⟩
    · obtain ⟨c2, e5⟩ := chk_some e5
      rcases ite2_cases e5 with ⟨b3, e5⟩ | ⟨b3, e5⟩
      · replace e5 := some_eq e5
        subst e5
        exact AW.rA ⟨[(0, (vc (sl 1 (csF .f32) a0))), (2, (vp 1 0)), (4, (vc (.int .i64 (a0.length : Int)))), (22, (vc (.bool true)))], [(1, (.box [(.c (.flt .f32 (default : F32).bits)), (.c (.flt .f32 (default : F32).bits)), (.c (.flt .f32 (default : F32).bits)), .nils]))]⟩ (T2 ((Tt ∧ (decide ((a0.length : Int) < (7 : Int))) = false) ∧ T2 (((4 : Int) ≠ 0) ∧ T2 ((Tt ∧ (((IntKind.i64.wrap ((a0.length : Int) - (3 : Int))).tmod (4 : Int)) != (0 : Int)) = true) ∧ Tt ∧ T4 Tt)))) [.no, .no, .dec false, .no, .no, .no, .no, .no, .dec true] [0, 2, 4, 22] [1] ⟨tr, tr, ⟨tr, b1⟩, tr, tr, c2, tr, tr, ⟨tr, b3⟩, tr, tr, tr, tr, tr, tr⟩ ⟨rfl, rfl⟩
      · replace e5 := some_eq e5
        subst e5
        exact AW.rA ⟨[(0, (vc (sl 1 (csF .f32) a0))), (2, (vp 1 0)), (4, (vc (.int .i64 (a0.length : Int)))), (22, (vc (.bool (decide ((IntKind.i64.wrap ((IntKind.i64.wrap ((a0.length : Int) - (3 : Int))).tdiv (4 : Int))) > (12 : Int))))))], [(1, (.box [(.c (.flt .f32 (default : F32).bits)), (.c (.flt .f32 (default : F32).bits)), (.c (.flt .f32 (default : F32).bits)), .nils]))]⟩ (T2 ((Tt ∧ (decide ((a0.length : Int) < (7 : Int))) = false) ∧ T2 (((4 : Int) ≠ 0) ∧ T2 ((Tt ∧ (((IntKind.i64.wrap ((a0.length : Int) - (3 : Int))).tmod (4 : Int)) != (0 : Int)) = false) ∧ T2 (((4 : Int) ≠ 0) ∧ T2 Tt))))) [.no, .no, .dec false, .no, .no, .no, .no, .no, .dec false] [0, 2, 4, 22] [1] ⟨tr, tr, ⟨tr, b1⟩, tr, tr, c2, tr, tr, ⟨tr, b3⟩, tr, tr, c2, tr, tr, tr⟩ ⟨rfl, rfl⟩
  refine thenQ_normal ?_
  rcases ite2_cases h with ⟨b6, h⟩ | ⟨b6, h⟩
  · refine AW.cond_t rfl b6 ?_
    refine AW.seq (AW.rA ⟨[(2, (vp 1 0)), (3, (vc (.bool false)))], [(1, (.box [(.c (.flt .f32 (default : F32).bits)), (.c (.flt .f32 (default : F32).bits)), (.c (.flt .f32 (default : F32).bits)), .nils]))]⟩ (Tt ∧ T2 Tt) [] [2, 3] [1] ⟨tr, tr, tr, tr⟩ (thenQ_normal ?_))
    refine AW.ret ?_
    refine thenQ_ret ?_
    replace h := some_eq h
    subst h
    exact ⟨.inr rfl, retOK_of [(.agg [(.c (.flt .f32 (default : F32).bits)), (.c (.flt .f32 (default : F32).bits)), (.c (.flt .f32 (default : F32).bits)), .nils]), (.one (.c (.bool false)))] (by kernel_rfl) ⟨⟨⟨rfl, tr⟩, ⟨rfl, tr⟩, ⟨rfl, tr⟩, rfl, tr⟩, ⟨rfl, tr⟩, tr⟩ (of_decide_eq_true (by kernel_rfl))⟩
  · refine AW.cond_f rfl b6 ?_
    refine AW.skip ?_
    refine thenQ_normal ?_
    refine AW.seq ?_
    obtain ⟨c7, h⟩ := chk_some h
    obtain ⟨c8, h⟩ := chk_some h
    obtain ⟨c9, h⟩ := chk_some h
    refine AW.dA ⟨[(0, (vc (sl 1 (csF .f32) a0))), (2, (vp 1 0)), (4, (vc (.int .i64 (a0.length : Int)))), (5, (vp 2 0))], [(1, (.box [(.c (.flt .f32 (default : F32).bits)), (.c (.flt .f32 (default : F32).bits)), (.c (.flt .f32 (default : F32).bits)), .nils])), (2, (.box [(.c (.flt .f32 (a0.getD ((0 : Int).toNat) default).bits)), (.c (.flt .f32 (a0.getD ((1 : Int).toNat) default).bits)), (.c (.flt .f32 (a0.getD ((2 : Int).toNat) default).bits)), .nils]))]⟩ ((Tt ∧ (0 ≤ (0 : Int) ∧ (0 : Int) < (a0.length : Int)) ∧ T2 ((0 ≤ (1 : Int) ∧ (1 : Int) < (a0.length : Int)) ∧ T2 ((0 ≤ (2 : Int) ∧ (2 : Int) < (a0.length : Int)) ∧ T4 Tt))) ∧ (Tt ∧ Tt)) 12 [.no, .no, .no, .no, .no, .no, .no, .no, .no, .no, .no, .box 2] [0, 2, 4, 5] [1, 2] ⟨⟨tr, c7, tr, tr, c8, tr, tr, c9, tr, tr, tr, tr, tr⟩, ⟨tr, tr⟩⟩ ?_
    refine thenQ_normal ?_
    refine AW.seq ?_
    refine AW.seq (AW.rA ⟨[(0, (vc (sl 1 (csF .f32) a0))), (2, (vp 1 0)), (4, (vc (.int .i64 (a0.length : Int)))), (5, (vp 2 0)), (6, (vc (.int .i64 (3 : Int))))], [(1, (.box [(.c (.flt .f32 (default : F32).bits)), (.c (.flt .f32 (default : F32).bits)), (.c (.flt .f32 (default : F32).bits)), .nils])), (2, (.box [(.c (.flt .f32 (a0.getD ((0 : Int).toNat) default).bits)), (.c (.flt .f32 (a0.getD ((1 : Int).toNat) default).bits)), (.c (.flt .f32 (a0.getD ((2 : Int).toNat) default).bits)), .nils]))]⟩ (Tt ∧ Tt) [] [0, 2, 4, 5, 6] [1, 2] ⟨tr, tr⟩ (thenQ_normal ?_))
    refine AW.block ?_
    refine AW.weak (s' := ⟨[(0, (vc (sl 1 (csF .f32) a0))), (2, (vp 1 0)), (4, (vc (.int .i64 (a0.length : Int)))), (5, (vp 2 0)), (6, (vc (.int .i64 (3 : Int))))], [(1, (.box [(.c (.flt .f32 (default : F32).bits)), (.c (.flt .f32 (default : F32).bits)), (.c (.flt .f32 (default : F32).bits)), .nils])), (2, (.box [(.c (.flt .f32 (a0.getD ((0 : Int).toNat) default).bits)), (.c (.flt .f32 (a0.getD ((1 : Int).toNat) default).bits)), (.c (.flt .f32 (a0.getD ((2 : Int).toNat) default).bits)), (.lst 5 ([] : (List Turn)).length 4 (gl cs_Turn ([] : (List Turn))))])), (5, (.lst ([] : (List Turn)).length 4 (gl cs_Turn ([] : (List Turn)))))]⟩) (Sub.trans (Sub.unnil 5 4 (gl cs_Turn ([] : (List Turn))) [] [(2, 3)] _ (by kernel_rfl) (by kernel_rfl)) (Sub.keep [0, 2, 4, 5, 6] [1, 2, 5] (by kernel_rfl) (by kernel_rfl))) ?_
    refine AW.loopQ (σ := Nat × Int × (List Turn)) (fun p => ⟨[(0, (vc (sl 1 (csF .f32) a0))), (2, (vp 1 0)), (4, (vc (.int .i64 (a0.length : Int)))), (5, (vp 2 0)), (6, (vc (.int .i64 p.2.1)))], [(1, (.box [(.c (.flt .f32 (default : F32).bits)), (.c (.flt .f32 (default : F32).bits)), (.c (.flt .f32 (default : F32).bits)), .nils])), (2, (.box [(.c (.flt .f32 (a0.getD ((0 : Int).toNat) default).bits)), (.c (.flt .f32 (a0.getD ((1 : Int).toNat) default).bits)), (.c (.flt .f32 (a0.getD ((2 : Int).toNat) default).bits)), (.lst 5 p.2.2.length 4 (gl cs_Turn p.2.2))])), (5, (.lst p.2.2.length 4 (gl cs_Turn p.2.2)))]⟩) (fun p => impl_PoseOfNumbers_l1 K a0 p.1 p.2.1 p.2.2 = some o) (fun p => p.1) (K, (3 : Int), ([] : (List Turn))) h ?_
    clear h
    rintro ⟨k, x12, x13⟩ h
    replace h : impl_PoseOfNumbers_l1 K a0 k x12 x13 = some o := h
    show AW _ _ (⟨[(0, (vc (sl 1 (csF .f32) a0))), (2, (vp 1 0)), (4, (vc (.int .i64 (a0.length : Int)))), (5, (vp 2 0)), (6, (vc (.int .i64 x12)))], [(1, (.box [(.c (.flt .f32 (default : F32).bits)), (.c (.flt .f32 (default : F32).bits)), (.c (.flt .f32 (default : F32).bits)), .nils])), (2, (.box [(.c (.flt .f32 (a0.getD ((0 : Int).toNat) default).bits)), (.c (.flt .f32 (a0.getD ((1 : Int).toNat) default).bits)), (.c (.flt .f32 (a0.getD ((2 : Int).toNat) default).bits)), (.lst 5 x13.length 4 (gl cs_Turn x13))])), (5, (.lst x13.length 4 (gl cs_Turn x13)))]⟩ : St) _
    obtain _ | k := k
    · rw [impl_PoseOfNumbers_l1] at h; cases h
    rw [impl_PoseOfNumbers_l1] at h
    refine AW.seq ?_
    refine AW.seq (AW.rA ⟨[(0, (vc (sl 1 (csF .f32) a0))), (2, (vp 1 0)), (4, (vc (.int .i64 (a0.length : Int)))), (5, (vp 2 0)), (6, (vc (.int .i64 x12))), (37, (vc (.bool (decide (x12 < (a0.length : Int))))))], [(1, (.box [(.c (.flt .f32 (default : F32).bits)), (.c (.flt .f32 (default : F32).bits)), (.c (.flt .f32 (default : F32).bits)), .nils])), (2, (.box [(.c (.flt .f32 (a0.getD ((0 : Int).toNat) default).bits)), (.c (.flt .f32 (a0.getD ((1 : Int).toNat) default).bits)), (.c (.flt .f32 (a0.getD ((2 : Int).toNat) default).bits)), (.lst 5 x13.length 4 (gl cs_Turn x13))])), (5, (.lst x13.length 4 (gl cs_Turn x13)))]⟩ (Tt ∧ T2 Tt) [] [0, 2, 4, 5, 6, 37] [1, 2, 5] ⟨tr, tr, tr, tr⟩ (thenQ_normal ?_))
    rcases ite2_cases h with ⟨b14, h⟩ | ⟨b14, h⟩
    · refine AW.cond_t rfl b14 ?_
      refine AW.skip ?_
      refine thenQ_normal ?_
      refine AW.seq ?_
      refine AW.block ?_
      obtain ⟨c15, h⟩ := chk_some h
      obtain ⟨c16, h⟩ := chk_some h
      obtain ⟨c17, h⟩ := chk_some h
      obtain ⟨c18, h⟩ := chk_some h
      obtain ⟨c19, h⟩ := chk_some h
      refine AW.dA ⟨[(0, (vc (sl 1 (csF .f32) a0))), (2, (vp 1 0)), (4, (vc (.int .i64 (a0.length : Int)))), (5, (vp 2 0)), (6, (vc (.int .i64 x12)))], [(1, (.box [(.c (.flt .f32 (default : F32).bits)), (.c (.flt .f32 (default : F32).bits)), (.c (.flt .f32 (default : F32).bits)), .nils])), (2, (.box [(.c (.flt .f32 (a0.getD ((0 : Int).toNat) default).bits)), (.c (.flt .f32 (a0.getD ((1 : Int).toNat) default).bits)), (.c (.flt .f32 (a0.getD ((2 : Int).toNat) default).bits)), (.lst 11 (x13 ++ ([(Turn.mk (a0.getD x12.toNat default) (a0.getD ((IntKind.i64.wrap (x12 + (1 : Int))).toNat) default) (a0.getD ((IntKind.i64.wrap (x12 + (2 : Int))).toNat) default) (a0.getD ((IntKind.i64.wrap (x12 + (3 : Int))).toNat) default))])).length 4 (gl cs_Turn (x13 ++ ([(Turn.mk (a0.getD x12.toNat default) (a0.getD ((IntKind.i64.wrap (x12 + (1 : Int))).toNat) default) (a0.getD ((IntKind.i64.wrap (x12 + (2 : Int))).toNat) default) (a0.getD ((IntKind.i64.wrap (x12 + (3 : Int))).toNat) default))]))))])), (11, (.lst (x13 ++ ([(Turn.mk (a0.getD x12.toNat default) (a0.getD ((IntKind.i64.wrap (x12 + (1 : Int))).toNat) default) (a0.getD ((IntKind.i64.wrap (x12 + (2 : Int))).toNat) default) (a0.getD ((IntKind.i64.wrap (x12 + (3 : Int))).toNat) default))])).length 4 (gl cs_Turn (x13 ++ ([(Turn.mk (a0.getD x12.toNat default) (a0.getD ((IntKind.i64.wrap (x12 + (1 : Int))).toNat) default) (a0.getD ((IntKind.i64.wrap (x12 + (2 : Int))).toNat) default) (a0.getD ((IntKind.i64.wrap (x12 + (3 : Int))).toNat) default))])))))]⟩ ((T4 ((0 ≤ x12 ∧ x12 < (a0.length : Int)) ∧ T4 ((0 ≤ (IntKind.i64.wrap (x12 + (1 : Int))) ∧ (IntKind.i64.wrap (x12 + (1 : Int))) < (a0.length : Int)) ∧ T4 ((0 ≤ (IntKind.i64.wrap (x12 + (2 : Int))) ∧ (IntKind.i64.wrap (x12 + (2 : Int))) < (a0.length : Int)) ∧ T4 ((0 ≤ (IntKind.i64.wrap (x12 + (3 : Int))) ∧ (IntKind.i64.wrap (x12 + (3 : Int))) < (a0.length : Int)) ∧ T2 ((([(Turn.mk (a0.getD x12.toNat default) (a0.getD ((IntKind.i64.wrap (x12 + (1 : Int))).toNat) default) (a0.getD ((IntKind.i64.wrap (x12 + (2 : Int))).toNat) default) (a0.getD ((IntKind.i64.wrap (x12 + (3 : Int))).toNat) default))]).length = 1 ∧ (((.flt .f32 (a0.getD x12.toNat default).bits) : C) = (.flt .f32 (a0.getD x12.toNat default).bits) ∧ Tt) ∧ (((.flt .f32 (a0.getD ((IntKind.i64.wrap (x12 + (1 : Int))).toNat) default).bits) : C) = (.flt .f32 (a0.getD ((IntKind.i64.wrap (x12 + (1 : Int))).toNat) default).bits) ∧ Tt) ∧ (((.flt .f32 (a0.getD ((IntKind.i64.wrap (x12 + (2 : Int))).toNat) default).bits) : C) = (.flt .f32 (a0.getD ((IntKind.i64.wrap (x12 + (2 : Int))).toNat) default).bits) ∧ Tt) ∧ (((.flt .f32 (a0.getD ((IntKind.i64.wrap (x12 + (3 : Int))).toNat) default).bits) : C) = (.flt .f32 (a0.getD ((IntKind.i64.wrap (x12 + (3 : Int))).toNat) default).bits) ∧ Tt) ∧ Tt) ∧ ((x13 ++ ([(Turn.mk (a0.getD x12.toNat default) (a0.getD ((IntKind.i64.wrap (x12 + (1 : Int))).toNat) default) (a0.getD ((IntKind.i64.wrap (x12 + (2 : Int))).toNat) default) (a0.getD ((IntKind.i64.wrap (x12 + (3 : Int))).toNat) default))])).length = x13.length + ([(Turn.mk (a0.getD x12.toNat default) (a0.getD ((IntKind.i64.wrap (x12 + (1 : Int))).toNat) default) (a0.getD ((IntKind.i64.wrap (x12 + (2 : Int))).toNat) default) (a0.getD ((IntKind.i64.wrap (x12 + (3 : Int))).toNat) default))]).length ∧ AppOb (x13.length) (([(Turn.mk (a0.getD x12.toNat default) (a0.getD ((IntKind.i64.wrap (x12 + (1 : Int))).toNat) default) (a0.getD ((IntKind.i64.wrap (x12 + (2 : Int))).toNat) default) (a0.getD ((IntKind.i64.wrap (x12 + (3 : Int))).toNat) default))]).length) 4 (gl cs_Turn x13) (gl cs_Turn ([(Turn.mk (a0.getD x12.toNat default) (a0.getD ((IntKind.i64.wrap (x12 + (1 : Int))).toNat) default) (a0.getD ((IntKind.i64.wrap (x12 + (2 : Int))).toNat) default) (a0.getD ((IntKind.i64.wrap (x12 + (3 : Int))).toNat) default))])) (gl cs_Turn (x13 ++ ([(Turn.mk (a0.getD x12.toNat default) (a0.getD ((IntKind.i64.wrap (x12 + (1 : Int))).toNat) default) (a0.getD ((IntKind.i64.wrap (x12 + (2 : Int))).toNat) default) (a0.getD ((IntKind.i64.wrap (x12 + (3 : Int))).toNat) default))]))) ∧ (∀ i j, i < ([(Turn.mk (a0.getD x12.toNat default) (a0.getD ((IntKind.i64.wrap (x12 + (1 : Int))).toNat) default) (a0.getD ((IntKind.i64.wrap (x12 + (2 : Int))).toNat) default) (a0.getD ((IntKind.i64.wrap (x12 + (3 : Int))).toNat) default))]).length → j < 4 → scalarC (gl cs_Turn ([(Turn.mk (a0.getD x12.toNat default) (a0.getD ((IntKind.i64.wrap (x12 + (1 : Int))).toNat) default) (a0.getD ((IntKind.i64.wrap (x12 + (2 : Int))).toNat) default) (a0.getD ((IntKind.i64.wrap (x12 + (3 : Int))).toNat) default))]) i j)) ∧ (x13.length + ([(Turn.mk (a0.getD x12.toNat default) (a0.getD ((IntKind.i64.wrap (x12 + (1 : Int))).toNat) default) (a0.getD ((IntKind.i64.wrap (x12 + (2 : Int))).toNat) default) (a0.getD ((IntKind.i64.wrap (x12 + (3 : Int))).toNat) default))]).length) * 16 ≤ 140737488355328) ∧ Tt ∧ Tt)))))) ∧ (Tt ∧ Tt)) 25 [.no, .no, .no, .no, .no, .no, .no, .no, .no, .no, .no, .no, .no, .no, .no, .no, .no, .no, .no, .no, .no, .no, .obj 10 ([(Turn.mk (a0.getD x12.toNat default) (a0.getD ((IntKind.i64.wrap (x12 + (1 : Int))).toNat) default) (a0.getD ((IntKind.i64.wrap (x12 + (2 : Int))).toNat) default) (a0.getD ((IntKind.i64.wrap (x12 + (3 : Int))).toNat) default))]).length (gl cs_Turn ([(Turn.mk (a0.getD x12.toNat default) (a0.getD ((IntKind.i64.wrap (x12 + (1 : Int))).toNat) default) (a0.getD ((IntKind.i64.wrap (x12 + (2 : Int))).toNat) default) (a0.getD ((IntKind.i64.wrap (x12 + (3 : Int))).toNat) default))])), .objK 11 (x13 ++ ([(Turn.mk (a0.getD x12.toNat default) (a0.getD ((IntKind.i64.wrap (x12 + (1 : Int))).toNat) default) (a0.getD ((IntKind.i64.wrap (x12 + (2 : Int))).toNat) default) (a0.getD ((IntKind.i64.wrap (x12 + (3 : Int))).toNat) default))])).length (gl cs_Turn (x13 ++ ([(Turn.mk (a0.getD x12.toNat default) (a0.getD ((IntKind.i64.wrap (x12 + (1 : Int))).toNat) default) (a0.getD ((IntKind.i64.wrap (x12 + (2 : Int))).toNat) default) (a0.getD ((IntKind.i64.wrap (x12 + (3 : Int))).toNat) default))])))] [0, 2, 4, 5, 6] [1, 2, 11] ⟨⟨tr, tr, tr, tr, c15, tr, tr, tr, tr, c16, tr, tr, tr, tr, c17, tr, tr, tr, tr, c18, tr, tr, ⟨rfl, ⟨⟨rfl, tr⟩, ⟨rfl, tr⟩, ⟨rfl, tr⟩, ⟨rfl, tr⟩, tr⟩⟩, ⟨List.length_append, gl_append, gl_scalar sc_Turn _, c19⟩, tr, tr⟩, ⟨tr, tr⟩⟩ ?_
      refine blockQ_normal ?_
      refine thenQ_normal ?_
      refine AW.rA ⟨[(0, (vc (sl 1 (csF .f32) a0))), (2, (vp 1 0)), (4, (vc (.int .i64 (a0.length : Int)))), (5, (vp 2 0)), (6, (vc (.int .i64 (IntKind.i64.wrap (x12 + (4 : Int))))))], [(1, (.box [(.c (.flt .f32 (default : F32).bits)), (.c (.flt .f32 (default : F32).bits)), (.c (.flt .f32 (default : F32).bits)), .nils])), (2, (.box [(.c (.flt .f32 (a0.getD ((0 : Int).toNat) default).bits)), (.c (.flt .f32 (a0.getD ((1 : Int).toNat) default).bits)), (.c (.flt .f32 (a0.getD ((2 : Int).toNat) default).bits)), (.lst 11 (x13 ++ ([(Turn.mk (a0.getD x12.toNat default) (a0.getD ((IntKind.i64.wrap (x12 + (1 : Int))).toNat) default) (a0.getD ((IntKind.i64.wrap (x12 + (2 : Int))).toNat) default) (a0.getD ((IntKind.i64.wrap (x12 + (3 : Int))).toNat) default))])).length 4 (gl cs_Turn (x13 ++ ([(Turn.mk (a0.getD x12.toNat default) (a0.getD ((IntKind.i64.wrap (x12 + (1 : Int))).toNat) default) (a0.getD ((IntKind.i64.wrap (x12 + (2 : Int))).toNat) default) (a0.getD ((IntKind.i64.wrap (x12 + (3 : Int))).toNat) default))]))))])), (11, (.lst (x13 ++ ([(Turn.mk (a0.getD x12.toNat default) (a0.getD ((IntKind.i64.wrap (x12 + (1 : Int))).toNat) default) (a0.getD ((IntKind.i64.wrap (x12 + (2 : Int))).toNat) default) (a0.getD ((IntKind.i64.wrap (x12 + (3 : Int))).toNat) default))])).length 4 (gl cs_Turn (x13 ++ ([(Turn.mk (a0.getD x12.toNat default) (a0.getD ((IntKind.i64.wrap (x12 + (1 : Int))).toNat) default) (a0.getD ((IntKind.i64.wrap (x12 + (2 : Int))).toNat) default) (a0.getD ((IntKind.i64.wrap (x12 + (3 : Int))).toNat) default))])))))]⟩ (Tt ∧ T2 Tt) [] [0, 2, 4, 5, 6] [1, 2, 11] ⟨tr, tr, tr, tr⟩ ?_
      exact loopQ_normal (k, (IntKind.i64.wrap (x12 + (4 : Int))), (x13 ++ ([(Turn.mk (a0.getD x12.toNat default) (a0.getD ((IntKind.i64.wrap (x12 + (1 : Int))).toNat) default) (a0.getD ((IntKind.i64.wrap (x12 + (2 : Int))).toNat) default) (a0.getD ((IntKind.i64.wrap (x12 + (3 : Int))).toNat) default))]))) h (Nat.lt_succ_self k) (Sub.trans (Sub.swap 5 11 _ (by kernel_rfl) (by kernel_rfl)) (Sub.keep [0, 2, 4, 5, 6] [1, 2, 5] (by kernel_rfl) (by kernel_rfl)))
    · refine AW.cond_f rfl b14 ?_
      refine AW.exit ?_
      refine thenQ_exit ?_
      refine loopQ_exit ?_
      refine blockQ_exit ?_
      refine thenQ_normal ?_
      refine AW.seq (AW.rA ⟨[(2, (vp 1 0)), (3, (vc (.bool true)))], [(1, (.box [(.c (.flt .f32 (a0.getD ((0 : Int).toNat) default).bits)), (.c (.flt .f32 (a0.getD ((1 : Int).toNat) default).bits)), (.c (.flt .f32 (a0.getD ((2 : Int).toNat) default).bits)), (.lst 5 x13.length 4 (gl cs_Turn x13))])), (5, (.lst x13.length 4 (gl cs_Turn x13)))]⟩ (Tt ∧ T2 Tt) [] [2, 3] [1, 5] ⟨tr, tr, tr, tr⟩ (thenQ_normal ?_))
      refine AW.ret ?_
      replace h := some_eq h
      subst h
      exact ⟨.inr rfl, retOK_of [(.agg [(.c (.flt .f32 (a0.getD ((0 : Int).toNat) default).bits)), (.c (.flt .f32 (a0.getD ((1 : Int).toNat) default).bits)), (.c (.flt .f32 (a0.getD ((2 : Int).toNat) default).bits)), (.lst 5 x13.length 4 (gl cs_Turn x13))]), (.one (.c (.bool true)))] (by kernel_rfl) ⟨⟨⟨rfl, tr⟩, ⟨rfl, tr⟩, ⟨rfl, tr⟩, rfl, tr⟩, ⟨rfl, tr⟩, tr⟩ (of_decide_eq_true (by kernel_rfl))⟩

/-! impl.arePair -/
def impl_arePair (K : Nat) (a0 : Pose) (a1 : Pose) : Option (Bool) :=
  (impl_isPose K a0).bind fun v1 => (ite2 (v1) (some ((a0.Turns.length : Int) == (a1.Turns.length : Int))) (some false)).bind fun j4 => some j4

theorem ok_impl_arePair (K : Nat) (a0 : Pose) (a1 : Pose) (o : (Bool)) (h : impl_arePair K a0 a1 = some o) : CallOK Try.prog 27 [.agg (cs_Pose a0), .agg (cs_Pose a1)] [.one (.bool o)] := by
  refine callOK_of_AW Try.func27 rfl (by kernel_rfl) (Nat.le_of_ble_eq_true (by kernel_rfl)) ?_
  intro w0
  unfold impl_arePair at h
  refine AW.seq (AW.rA ⟨[(2, (vp 1 0)), (3, (vp 2 0))], [(1, (.box [(.c (.flt .f32 a0.Root.X.bits)), (.c (.flt .f32 a0.Root.Y.bits)), (.c (.flt .f32 a0.Root.Z.bits)), (.c (sl 4 cs_Turn a0.Turns))])), (2, (.box [(.c (.flt .f32 a1.Root.X.bits)), (.c (.flt .f32 a1.Root.Y.bits)), (.c (.flt .f32 a1.Root.Z.bits)), (.c (sl 4 cs_Turn a1.Turns))]))]⟩ (Tt ∧ T2 Tt) [.box 1, .box 2] [2, 3] [1, 2] ⟨tr, tr, tr, tr⟩ (thenQ_normal ?_))
  refine AW.seq ?_
  obtain ⟨v1, e2, h⟩ := bind_some h
  obtain ⟨j4, e5, h⟩ := bind_some h
  refine AW.join1 (s2 := ⟨[(4, (vc (.bool j4)))], []⟩) ?_ ?_
  · rcases ite2_cases e5 with ⟨b3, e5⟩ | ⟨b3, e5⟩
    · replace e5 := some_eq e5
      subst e5
      exact AW.rA ⟨[(4, (vc (.bool ((a0.Turns.length : Int) == (a1.Turns.length : Int)))))], []⟩ (Tt ∧ ((((Eqc (.flt .f32 a0.Root.X.bits)) ∧ (Eqc (.flt .f32 a0.Root.Y.bits)) ∧ (Eqc (.flt .f32 a0.Root.Z.bits)) ∧ (Eqc (sl 4 cs_Turn a0.Turns)) ∧ Tt) ∧ Tt) ∧ CallOK Try.prog 25 [.agg (cs_Pose a0)] [.one (.bool v1)]) ∧ (Tt ∧ v1 = true) ∧ Tt ∧ T4 (T4 Tt)) [.no, .call [.agg (cs_Pose a0)] [.one (.bool v1)] [[.view]], .dec true] [4] [] ⟨tr, ⟨⟨⟨rfl, rfl, rfl, rfl, tr⟩, tr⟩, ok_impl_isPose K a0 v1 e2⟩, ⟨tr, b3⟩, tr, tr, tr, tr, tr, tr, tr, tr, tr, tr⟩ ⟨rfl, rfl⟩
    · replace e5 := some_eq e5
      subst e5
      exact AW.rA ⟨[(4, (vc (.bool false)))], []⟩ (Tt ∧ ((((Eqc (.flt .f32 a0.Root.X.bits)) ∧ (Eqc (.flt .f32 a0.Root.Y.bits)) ∧ (Eqc (.flt .f32 a0.Root.Z.bits)) ∧ (Eqc (sl 4 cs_Turn a0.Turns)) ∧ Tt) ∧ Tt) ∧ CallOK Try.prog 25 [.agg (cs_Pose a0)] [.one (.bool v1)]) ∧ (Tt ∧ v1 = false) ∧ Tt ∧ T4 (T4 Tt)) [.no, .call [.agg (cs_Pose a0)] [.one (.bool v1)] [[.view]], .dec false] [4] [] ⟨tr, ⟨⟨⟨rfl, rfl, rfl, rfl, tr⟩, tr⟩, ok_impl_isPose K a0 v1 e2⟩, ⟨tr, b3⟩, tr, tr, tr, tr, tr, tr, tr, tr, tr, tr⟩ ⟨rfl, rfl⟩
  refine thenQ_normal ?_
  refine AW.ret ?_
  replace h := some_eq h
  subst h
  exact ⟨.inr rfl, retOK_of [(.one (.c (.bool j4)))] (by kernel_rfl) ⟨⟨rfl, tr⟩, tr⟩ (of_decide_eq_true (by kernel_rfl))⟩

/-! impl.changed -/
def impl_changed_l1 (K : Nat) (a0 : (List F32)) (a1 : (List F32)) : Nat → Int → (List Int) → Option ((List Int))
  | 0, _, _ => none
  | k + 1, x3, x4 => ite2 ((decide (x3 < (a0.length : Int)))) (chk (0 ≤ x3 ∧ x3 < (a0.length : Int)) (chk (0 ≤ x3 ∧ x3 < (a1.length : Int)) ((impl_SameNumber K (a0.getD x3.toNat default) (a1.getD x3.toNat default)).bind fun v8 => ite2 ((!v8)) (chk ((x4.length + ([x3]).length) * 8 ≤ 140737488355328) (impl_changed_l1 K a0 a1 k (IntKind.i64.wrap (x3 + (1 : Int))) (x4 ++ ([x3])))) (impl_changed_l1 K a0 a1 k (IntKind.i64.wrap (x3 + (1 : Int))) x4)))) (some x4)

def impl_changed (K : Nat) (a0 : (List F32)) (a1 : (List F32)) : Option ((List Int)) :=
  impl_changed_l1 K a0 a1 K (0 : Int) ([] : (List Int))

theorem ok_impl_changed (K : Nat) (a0 : (List F32)) (a1 : (List F32)) (o : ((List Int))) (h : impl_changed K a0 a1 = some o) : CallOK Try.prog 28 [.one (sl 1 (csF .f32) a0), .one (sl 1 (csF .f32) a1)] [.one (sl 1 (csI .i64) o)] := by
  refine callOK_of_AW Try.func28 rfl (by kernel_rfl) (Nat.le_of_ble_eq_true (by kernel_rfl)) ?_
  intro w0
  unfold impl_changed at h
  refine AW.seq (AW.rA ⟨[(0, (vc (sl 1 (csF .f32) a0))), (1, (vc (sl 1 (csF .f32) a1)))], []⟩ (Tt ∧ Tt) [] [0, 1] [] ⟨tr, tr⟩ (thenQ_normal ?_))
  refine AW.seq (AW.rA ⟨[(0, (vc (sl 1 (csF .f32) a0))), (1, (vc (sl 1 (csF .f32) a1))), (5, (.v (.one .nils)))], []⟩ (Tt ∧ Tt) [] [0, 1, 5] [] ⟨tr, tr⟩ (thenQ_normal ?_))
  refine AW.seq ?_
  refine AW.seq (AW.rA ⟨[(0, (vc (sl 1 (csF .f32) a0))), (1, (vc (sl 1 (csF .f32) a1))), (5, (.v (.one .nils))), (8, (vc (.int .i64 (a0.length : Int)))), (9, (vc (.int .i64 (0 : Int))))], []⟩ (Tt ∧ T2 Tt) [] [0, 1, 5, 8, 9] [] ⟨tr, tr, tr, tr⟩ (thenQ_normal ?_))
  refine AW.block ?_
  refine AW.weak (s' := ⟨[(0, (vc (sl 1 (csF .f32) a0))), (1, (vc (sl 1 (csF .f32) a1))), (5, (.v (.one (.lst 3 ([] : (List Int)).length 1 (gl (csI .i64) ([] : (List Int))))))), (8, (vc (.int .i64 (a0.length : Int)))), (9, (vc (.int .i64 (0 : Int))))], [(3, (.lst ([] : (List Int)).length 1 (gl (csI .i64) ([] : (List Int)))))]⟩) (Sub.trans (Sub.unnil 3 1 (gl (csI .i64) ([] : (List Int))) [5] [] _ (by kernel_rfl) (by kernel_rfl)) (Sub.keep [0, 1, 5, 8, 9] [3] (by kernel_rfl) (by kernel_rfl))) ?_
  refine AW.loopQ (σ := Nat × Int × (List Int)) (fun p => ⟨[(0, (vc (sl 1 (csF .f32) a0))), (1, (vc (sl 1 (csF .f32) a1))), (5, (.v (.one (.lst 3 p.2.2.length 1 (gl (csI .i64) p.2.2))))), (8, (vc (.int .i64 (a0.length : Int)))), (9, (vc (.int .i64 p.2.1)))], [(3, (.lst p.2.2.length 1 (gl (csI .i64) p.2.2)))]⟩) (fun p => impl_changed_l1 K a0 a1 p.1 p.2.1 p.2.2 = some o) (fun p => p.1) (K, (0 : Int), ([] : (List Int))) h ?_
  clear h
  rintro ⟨k, x3, x4⟩ h
  replace h : impl_changed_l1 K a0 a1 k x3 x4 = some o := h
  show AW _ _ (⟨[(0, (vc (sl 1 (csF .f32) a0))), (1, (vc (sl 1 (csF .f32) a1))), (5, (.v (.one (.lst 3 x4.length 1 (gl (csI .i64) x4))))), (8, (vc (.int .i64 (a0.length : Int)))), (9, (vc (.int .i64 x3)))], [(3, (.lst x4.length 1 (gl (csI .i64) x4)))]⟩ : St) _
  obtain _ | k := k
  · rw [impl_changed_l1] at h; cases h
  rw [impl_changed_l1] at h
  refine AW.seq (AW.rA ⟨[(0, (vc (sl 1 (csF .f32) a0))), (1, (vc (sl 1 (csF .f32) a1))), (5, (.v (.one (.lst 3 x4.length 1 (gl (csI .i64) x4))))), (8, (vc (.int .i64 (a0.length : Int)))), (9, (vc (.int .i64 x3))), (10, (vc (.bool (decide (x3 < (a0.length : Int))))))], [(3, (.lst x4.length 1 (gl (csI .i64) x4)))]⟩ (Tt ∧ Tt) [] [0, 1, 5, 8, 9, 10] [3] ⟨tr, tr⟩ (thenQ_normal ?_))
  refine AW.seq ?_
  rcases ite2_cases h with ⟨b5, h⟩ | ⟨b5, h⟩
  · refine AW.cond_t rfl b5 ?_
    refine AW.skip ?_
    refine thenQ_normal ?_
    refine AW.seq ?_
    refine AW.block ?_
    refine AW.seq (AW.rA ⟨[(0, (vc (sl 1 (csF .f32) a0))), (1, (vc (sl 1 (csF .f32) a1))), (5, (.v (.one (.lst 3 x4.length 1 (gl (csI .i64) x4))))), (6, (vc (.int .i64 x3))), (8, (vc (.int .i64 (a0.length : Int)))), (9, (vc (.int .i64 x3)))], [(3, (.lst x4.length 1 (gl (csI .i64) x4)))]⟩ (T2 Tt) [] [0, 1, 5, 6, 8, 9] [3] ⟨tr, tr, tr⟩ (thenQ_normal ?_))
    refine AW.seq ?_
    obtain ⟨c6, h⟩ := chk_some h
    obtain ⟨c7, h⟩ := chk_some h
    obtain ⟨v8, e9, h⟩ := bind_some h
    refine AW.dA ⟨[(0, (vc (sl 1 (csF .f32) a0))), (1, (vc (sl 1 (csF .f32) a1))), (5, (.v (.one (.lst 3 x4.length 1 (gl (csI .i64) x4))))), (6, (vc (.int .i64 x3))), (8, (vc (.int .i64 (a0.length : Int)))), (9, (vc (.int .i64 x3))), (21, (vc (.bool (!v8))))], [(3, (.lst x4.length 1 (gl (csI .i64) x4)))]⟩ ((T2 ((0 ≤ x3 ∧ x3 < (a0.length : Int)) ∧ Tt ∧ T2 ((0 ≤ x3 ∧ x3 < (a1.length : Int)) ∧ Tt ∧ (((Eqc (.flt .f32 (a0.getD x3.toNat default).bits)) ∧ (Eqc (.flt .f32 (a1.getD x3.toNat default).bits)) ∧ Tt) ∧ CallOK Try.prog 16 [.one (.flt .f32 (a0.getD x3.toNat default).bits), .one (.flt .f32 (a1.getD x3.toNat default).bits)] [.one (.bool v8)]) ∧ Tt ∧ Tt))) ∧ (Tt)) 10 [.no, .no, .no, .no, .no, .no, .no, .no, .call [.one (.flt .f32 (a0.getD x3.toNat default).bits), .one (.flt .f32 (a1.getD x3.toNat default).bits)] [.one (.bool v8)] [[.view]]] [0, 1, 5, 6, 8, 9, 21] [3] ⟨⟨tr, tr, c6, tr, tr, tr, c7, tr, ⟨⟨rfl, rfl, tr⟩, ok_impl_SameNumber K (a0.getD x3.toNat default) (a1.getD x3.toNat default) v8 e9⟩, tr, tr⟩, tr⟩ ?_
    refine thenQ_normal ?_
    rcases ite2_cases h with ⟨b10, h⟩ | ⟨b10, h⟩
    · refine AW.cond_t rfl b10 ?_
      obtain ⟨c11, h⟩ := chk_some h
      refine AW.rA ⟨[(0, (vc (sl 1 (csF .f32) a0))), (1, (vc (sl 1 (csF .f32) a1))), (5, (.v (.one (.lst 9 (x4 ++ ([x3])).length 1 (gl (csI .i64) (x4 ++ ([x3]))))))), (8, (vc (.int .i64 (a0.length : Int)))), (9, (vc (.int .i64 x3)))], [(9, (.lst (x4 ++ ([x3])).length 1 (gl (csI .i64) (x4 ++ ([x3])))))]⟩ (T2 ((([x3]).length = 1 ∧ (((.int .i64 x3) : C) = (.int .i64 x3) ∧ Tt) ∧ Tt) ∧ ((x4 ++ ([x3])).length = x4.length + ([x3]).length ∧ AppOb (x4.length) (([x3]).length) 1 (gl (csI .i64) x4) (gl (csI .i64) ([x3])) (gl (csI .i64) (x4 ++ ([x3]))) ∧ (∀ i j, i < ([x3]).length → j < 1 → scalarC (gl (csI .i64) ([x3]) i j)) ∧ (x4.length + ([x3]).length) * 8 ≤ 140737488355328) ∧ Tt ∧ Tt)) [.no, .no, .obj 8 ([x3]).length (gl (csI .i64) ([x3])), .objK 9 (x4 ++ ([x3])).length (gl (csI .i64) (x4 ++ ([x3])))] [0, 1, 5, 8, 9] [9] ⟨tr, tr, ⟨rfl, ⟨⟨rfl, tr⟩, tr⟩⟩, ⟨List.length_append, gl_append, gl_scalar scI _, c11⟩, tr, tr⟩ ?_
      refine blockQ_normal ?_
      refine thenQ_normal ?_
      refine AW.rA ⟨[(0, (vc (sl 1 (csF .f32) a0))), (1, (vc (sl 1 (csF .f32) a1))), (5, (.v (.one (.lst 9 (x4 ++ ([x3])).length 1 (gl (csI .i64) (x4 ++ ([x3]))))))), (8, (vc (.int .i64 (a0.length : Int)))), (9, (vc (.int .i64 (IntKind.i64.wrap (x3 + (1 : Int))))))], [(9, (.lst (x4 ++ ([x3])).length 1 (gl (csI .i64) (x4 ++ ([x3])))))]⟩ (T2 Tt) [] [0, 1, 5, 8, 9] [9] ⟨tr, tr, tr⟩ ?_
      exact loopQ_normal (k, (IntKind.i64.wrap (x3 + (1 : Int))), (x4 ++ ([x3]))) h (Nat.lt_succ_self k) (Sub.trans (Sub.swap 3 9 _ (by kernel_rfl) (by kernel_rfl)) (Sub.keep [0, 1, 5, 8, 9] [3] (by kernel_rfl) (by kernel_rfl)))
    · refine AW.cond_f rfl b10 ?_
      refine AW.skip ?_
      refine blockQ_normal ?_
      refine thenQ_normal ?_
      refine AW.rA ⟨[(0, (vc (sl 1 (csF .f32) a0))), (1, (vc (sl 1 (csF .f32) a1))), (5, (.v (.one (.lst 3 x4.length 1 (gl (csI .i64) x4))))), (8, (vc (.int .i64 (a0.length : Int)))), (9, (vc (.int .i64 (IntKind.i64.wrap (x3 + (1 : Int))))))], [(3, (.lst x4.length 1 (gl (csI .i64) x4)))]⟩ (T2 Tt) [] [0, 1, 5, 8, 9] [3] ⟨tr, tr, tr⟩ ?_
      exact loopQ_normal (k, (IntKind.i64.wrap (x3 + (1 : Int))), x4) h (Nat.lt_succ_self k) (Sub.keep [0, 1, 5, 8, 9] [3] (by kernel_rfl) (by kernel_rfl))
  · refine AW.cond_f rfl b5 ?_
    refine AW.exit ?_
    refine thenQ_exit ?_
    refine loopQ_exit ?_
    refine blockQ_exit ?_
    refine thenQ_normal ?_
    refine AW.seq (AW.rA ⟨[(4, (.v (.one (.lst 3 x4.length 1 (gl (csI .i64) x4)))))], [(3, (.lst x4.length 1 (gl (csI .i64) x4)))]⟩ (T2 Tt) [] [4] [3] ⟨tr, tr, tr⟩ (thenQ_normal ?_))
    refine AW.ret ?_
    replace h := some_eq h
    subst h
    exact ⟨.inr rfl, retOK_of [(.one (.lst 3 x4.length 1 (gl (csI .i64) x4)))] (by kernel_rfl) ⟨rfl, tr⟩ (of_decide_eq_true (by kernel_rfl))⟩

/-! impl.ChangedNumbers -/
def impl_ChangedNumbers (K : Nat) (a0 : Pose) (a1 : Pose) : Option ((List Int) × Bool) :=
  (impl_arePair K a0 a1).bind fun v1 => ite2 ((!v1)) (some (([] : (List Int)), false)) ((impl_listed K a0).bind fun v4 => (impl_listed K a1).bind fun v6 => (impl_changed K v4 v6).bind fun v8 => some (v8, true))

theorem ok_impl_ChangedNumbers (K : Nat) (a0 : Pose) (a1 : Pose) (o : ((List Int) × Bool)) (h : impl_ChangedNumbers K a0 a1 = some o) : CallOK Try.prog 14 [.agg (cs_Pose a0), .agg (cs_Pose a1)] [.one (sl 1 (csI .i64) o.1), .one (.bool o.2)] := by
  refine callOK_of_AW Try.func14 rfl (by kernel_rfl) (Nat.le_of_ble_eq_true (by kernel_rfl)) ?_
  intro w0
  unfold impl_ChangedNumbers at h
  refine AW.seq (AW.rA ⟨[(2, (vp 1 0)), (3, (vp 2 0))], [(1, (.box [(.c (.flt .f32 a0.Root.X.bits)), (.c (.flt .f32 a0.Root.Y.bits)), (.c (.flt .f32 a0.Root.Z.bits)), (.c (sl 4 cs_Turn a0.Turns))])), (2, (.box [(.c (.flt .f32 a1.Root.X.bits)), (.c (.flt .f32 a1.Root.Y.bits)), (.c (.flt .f32 a1.Root.Z.bits)), (.c (sl 4 cs_Turn a1.Turns))]))]⟩ (T4 Tt) [.box 1, .box 2] [2, 3] [1, 2] ⟨tr, tr, tr, tr, tr⟩ (thenQ_normal ?_))
  refine AW.seq ?_
  refine AW.seq ?_
  obtain ⟨v1, e2, h⟩ := bind_some h
  refine AW.rA ⟨[(2, (vp 1 0)), (3, (vp 2 0)), (9, (vc (.bool (!v1))))], [(1, (.box [(.c (.flt .f32 a0.Root.X.bits)), (.c (.flt .f32 a0.Root.Y.bits)), (.c (.flt .f32 a0.Root.Z.bits)), (.c (sl 4 cs_Turn a0.Turns))])), (2, (.box [(.c (.flt .f32 a1.Root.X.bits)), (.c (.flt .f32 a1.Root.Y.bits)), (.c (.flt .f32 a1.Root.Z.bits)), (.c (sl 4 cs_Turn a1.Turns))]))]⟩ (T2 (((((Eqc (.flt .f32 a0.Root.X.bits)) ∧ (Eqc (.flt .f32 a0.Root.Y.bits)) ∧ (Eqc (.flt .f32 a0.Root.Z.bits)) ∧ (Eqc (sl 4 cs_Turn a0.Turns)) ∧ Tt) ∧ ((Eqc (.flt .f32 a1.Root.X.bits)) ∧ (Eqc (.flt .f32 a1.Root.Y.bits)) ∧ (Eqc (.flt .f32 a1.Root.Z.bits)) ∧ (Eqc (sl 4 cs_Turn a1.Turns)) ∧ Tt) ∧ Tt) ∧ CallOK Try.prog 27 [.agg (cs_Pose a0), .agg (cs_Pose a1)] [.one (.bool v1)]) ∧ Tt ∧ Tt)) [.no, .no, .call [.agg (cs_Pose a0), .agg (cs_Pose a1)] [.one (.bool v1)] [[.view]]] [2, 3, 9] [1, 2] ⟨tr, tr, ⟨⟨⟨rfl, rfl, rfl, rfl, tr⟩, ⟨rfl, rfl, rfl, rfl, tr⟩, tr⟩, ok_impl_arePair K a0 a1 v1 e2⟩, tr, tr⟩ ?_
  refine thenQ_normal ?_
  rcases ite2_cases h with ⟨b3, h⟩ | ⟨b3, h⟩
  · refine AW.cond_t rfl b3 ?_
    refine AW.seq (AW.rA ⟨[(4, (.v (.one .nils))), (5, (vc (.bool false)))], []⟩ (T2 Tt) [] [4, 5] [] ⟨tr, tr, tr⟩ (thenQ_normal ?_))
    refine AW.ret ?_
    refine thenQ_ret ?_
    replace h := some_eq h
    subst h
    exact ⟨.inr rfl, retOK_of [(.one .nils), (.one (.c (.bool false)))] (by kernel_rfl) ⟨rfl, ⟨rfl, tr⟩, tr⟩ (of_decide_eq_true (by kernel_rfl))⟩
  · refine AW.cond_f rfl b3 ?_
    refine AW.skip ?_
    refine thenQ_normal ?_
    refine AW.seq ?_
    obtain ⟨v4, e5, h⟩ := bind_some h
    obtain ⟨v6, e7, h⟩ := bind_some h
    obtain ⟨v8, e9, h⟩ := bind_some h
    refine AW.dA ⟨[(4, (.v (.one (.lst 5 v8.length 1 (gl (csI .i64) v8))))), (5, (vc (.bool true)))], [(5, (.lst v8.length 1 (gl (csI .i64) v8)))]⟩ ((Tt ∧ ((((Eqc (.flt .f32 a0.Root.X.bits)) ∧ (Eqc (.flt .f32 a0.Root.Y.bits)) ∧ (Eqc (.flt .f32 a0.Root.Z.bits)) ∧ (Eqc (sl 4 cs_Turn a0.Turns)) ∧ Tt) ∧ Tt) ∧ CallOK Try.prog 26 [.agg (cs_Pose a0)] [.one (sl 1 (csF .f32) v4)]) ∧ Tt ∧ ((((Eqc (.flt .f32 a1.Root.X.bits)) ∧ (Eqc (.flt .f32 a1.Root.Y.bits)) ∧ (Eqc (.flt .f32 a1.Root.Z.bits)) ∧ (Eqc (sl 4 cs_Turn a1.Turns)) ∧ Tt) ∧ Tt) ∧ CallOK Try.prog 26 [.agg (cs_Pose a1)] [.one (sl 1 (csF .f32) v6)]) ∧ (((Eqc (sl 1 (csF .f32) v4)) ∧ (Eqc (sl 1 (csF .f32) v6)) ∧ Tt) ∧ CallOK Try.prog 28 [.one (sl 1 (csF .f32) v4), .one (sl 1 (csF .f32) v6)] [.one (sl 1 (csI .i64) v8)]) ∧ T2 Tt) ∧ (Tt)) 7 [.no, .call [.agg (cs_Pose a0)] [.one (sl 1 (csF .f32) v4)] [[.lst 3]], .no, .call [.agg (cs_Pose a1)] [.one (sl 1 (csF .f32) v6)] [[.lst 4]], .call [.one (sl 1 (csF .f32) v4), .one (sl 1 (csF .f32) v6)] [.one (sl 1 (csI .i64) v8)] [[.lst 5]]] [4, 5] [5] ⟨⟨tr, ⟨⟨⟨rfl, rfl, rfl, rfl, tr⟩, tr⟩, ok_impl_listed K a0 v4 e5⟩, tr, ⟨⟨⟨rfl, rfl, rfl, rfl, tr⟩, tr⟩, ok_impl_listed K a1 v6 e7⟩, ⟨⟨rfl, rfl, tr⟩, ok_impl_changed K v4 v6 v8 e9⟩, tr, tr, tr⟩, tr⟩ ?_
    refine thenQ_normal ?_
    refine AW.ret ?_
    replace h := some_eq h
    subst h
    exact ⟨.inr rfl, retOK_of [(.one (.lst 5 v8.length 1 (gl (csI .i64) v8))), (.one (.c (.bool true)))] (by kernel_rfl) ⟨rfl, ⟨rfl, tr⟩, tr⟩ (of_decide_eq_true (by kernel_rfl))⟩

/-! laws.FnPoseNumbers -/
def laws_FnPoseNumbers_l1 (K : Nat) (v31 : ((List F32) × Bool)) (v35 : ((List F32) × Bool)) (v37 : ((List Int) × Bool)) : Nat → Int → Int → Option (Bool)
  | 0, _, _ => none
  | k + 1, x57, x58 => ite2 ((decide (x57 < (v31.1.length : Int)))) (chk (0 ≤ x57 ∧ x57 < (v31.1.length : Int)) (chk (0 ≤ x57 ∧ x57 < (v35.1.length : Int)) ((impl_SameNumber K (v31.1.getD x57.toNat default) (v35.1.getD x57.toNat default)).bind fun v62 => ite2 (v62) (laws_FnPoseNumbers_l1 K v31 v35 v37 k (IntKind.i64.wrap (x57 + (1 : Int))) x58) ((ite2 ((decide (x58 ≥ (v37.1.length : Int)))) (some true) (chk (0 ≤ x58 ∧ x58 < (v37.1.length : Int)) (some ((v37.1.getD x58.toNat default) != x57)))).bind fun j67 => ite2 (j67) (some false) (laws_FnPoseNumbers_l1 K v31 v35 v37 k (IntKind.i64.wrap (x57 + (1 : Int))) (IntKind.i64.wrap (x58 + (1 : Int)))))))) (some (x58 == (v37.1.length : Int)))

def laws_FnPoseNumbers (K : Nat) (a0 : (List Int)) (a1 : (List Int)) : Option (Bool) :=
  (laws_r8Long K a0 a1).bind fun v1 => ite2 (v1) (some true) ((spec_R8Recording K a0).bind fun v4 => (laws_r8At K a1 (0 : Int) (IntKind.i64.wrap ((v4.Frames.length : Int) + (1 : Int)))).bind fun v6 => (impl_SliceFrames K v4 (0 : Int) v6).bind fun v8 => (impl_SliceFrames K v4 v6 (IntKind.i64.wrap ((v4.Frames.length : Int) - v6))).bind fun v10 => (impl_JoinRecordings K v8.1 v10.1).bind fun v12 => (ite2 ((!v8.2)) (some true) (ite2 ((!v10.2)) (some true) (ite2 ((!v12.2)) (some true) ((impl_SameRecording K v12.1 v4).bind fun v17 => some (!v17))))).bind fun j19 => ite2 (j19) (some false) (ite2 (((v4.Frames.length : Int) == (0 : Int))) ((impl_ValidRecording K v4).bind fun v23 => some v23) ((impl_SliceFrames K v4 (0 : Int) (IntKind.i64.wrap ((v4.Frames.length : Int) - (1 : Int)))).bind fun v25 => chk (0 ≤ (IntKind.i64.wrap ((v4.Frames.length : Int) - (1 : Int))) ∧ (IntKind.i64.wrap ((v4.Frames.length : Int) - (1 : Int))) < (v4.Frames.length : Int)) ((impl_AddFrame K v25.1 (v4.Frames.getD ((IntKind.i64.wrap ((v4.Frames.length : Int) - (1 : Int))).toNat) default)).bind fun v28 => chk (0 ≤ (0 : Int) ∧ (0 : Int) < (v4.Frames.length : Int)) ((impl_NumbersOfPose K (v4.Frames.getD ((0 : Int).toNat) default)).bind fun v31 => (impl_PoseOfNumbers K v31.1).bind fun v33 => (impl_NumbersOfPose K (v4.Frames.getD ((IntKind.i64.wrap ((v4.Frames.length : Int) - (1 : Int))).toNat) default)).bind fun v35 => (impl_ChangedNumbers K (v4.Frames.getD ((0 : Int).toNat) default) (v4.Frames.getD ((IntKind.i64.wrap ((v4.Frames.length : Int) - (1 : Int))).toNat) default)).bind fun v37 => (ite2 ((!v25.2)) (some true) (ite2 ((!v28.2)) (some true) (ite2 ((!v31.2)) (some true) (ite2 ((!v33.2)) (some true) (ite2 ((!v35.2)) (some true) (ite2 ((!v37.2)) (some true) ((impl_SameRecording K v28.1 v4).bind fun v45 => ite2 ((!v45)) (some true) ((impl_SamePose K v33.1 (v4.Frames.getD ((0 : Int).toNat) default)).bind fun v48 => ite2 ((!v48)) (some true) (ite2 (((v31.1.length : Int) != (IntKind.i64.wrap ((3 : Int) + (IntKind.i64.wrap ((4 : Int) * v4.Bones)))))) (some true) (some ((v35.1.length : Int) != (v31.1.length : Int)))))))))))).bind fun j52 => ite2 (j52) (some false) (laws_FnPoseNumbers_l1 K v31 v35 v37 K (0 : Int) (0 : Int)))))))

theorem ok_laws_FnPoseNumbers (K : Nat) (a0 : (List Int)) (a1 : (List Int)) (o : (Bool)) (h : laws_FnPoseNumbers K a0 a1 = some o) : CallOK Try.prog 3 [.one (sl 1 (csI .u8) a0), .one (sl 1 (csI .u8) a1)] [.one (.bool o)] := by
  refine callOK_of_AW Try.func3 rfl (by kernel_rfl) (Nat.le_of_ble_eq_true (by kernel_rfl)) ?_
  intro w0
  unfold laws_FnPoseNumbers at h
  refine AW.seq (AW.rA ⟨[(0, (vc (sl 1 (csI .u8) a0))), (1, (vc (sl 1 (csI .u8) a1)))], []⟩ (Tt ∧ Tt) [] [0, 1] [] ⟨tr, tr⟩ (thenQ_normal ?_))
  refine AW.seq ?_
  refine AW.seq ?_
  obtain ⟨v1, e2, h⟩ := bind_some h
  refine AW.rA ⟨[(0, (vc (sl 1 (csI .u8) a0))), (1, (vc (sl 1 (csI .u8) a1))), (30, (vc (.bool v1)))], []⟩ (T2 ((((Eqc (sl 1 (csI .u8) a0)) ∧ (Eqc (sl 1 (csI .u8) a1)) ∧ Tt) ∧ CallOK Try.prog 4 [.one (sl 1 (csI .u8) a0), .one (sl 1 (csI .u8) a1)] [.one (.bool v1)]) ∧ Tt)) [.no, .no, .call [.one (sl 1 (csI .u8) a0), .one (sl 1 (csI .u8) a1)] [.one (.bool v1)] [[.view]]] [0, 1, 30] [] ⟨tr, tr, ⟨⟨rfl, rfl, tr⟩, ok_laws_r8Long K a0 a1 v1 e2⟩, tr⟩ ?_
  refine thenQ_normal ?_
  rcases ite2_cases h with ⟨b3, h⟩ | ⟨b3, h⟩
  · refine AW.cond_t rfl b3 ?_
    refine AW.seq (AW.rA ⟨[(4, (vc (.bool true)))], []⟩ (Tt ∧ Tt) [] [4] [] ⟨tr, tr⟩ (thenQ_normal ?_))
    refine AW.ret ?_
    refine thenQ_ret ?_
    replace h := some_eq h
    subst h
    exact ⟨.inr rfl, retOK_of [(.one (.c (.bool true)))] (by kernel_rfl) ⟨⟨rfl, tr⟩, tr⟩ (of_decide_eq_true (by kernel_rfl))⟩
  · refine AW.cond_f rfl b3 ?_
    refine AW.skip ?_
    refine thenQ_normal ?_
    refine AW.seq ?_
    obtain ⟨v4, e5, h⟩ := bind_some h
    refine AW.rA ⟨[(1, (vc (sl 1 (csI .u8) a1))), (5, (vp 2 0))], [(1, (.lst v4.Frames.length 4 (gl cs_Pose v4.Frames))), (2, (.box [(.c (.int .i64 v4.Bones)), (.lst 1 v4.Frames.length 4 (gl cs_Pose v4.Frames))]))]⟩ (Tt ∧ (((Eqc (sl 1 (csI .u8) a0)) ∧ Tt) ∧ CallOK Try.prog 5 [.one (sl 1 (csI .u8) a0)] [.agg (cs_Recording v4)]) ∧ T2 Tt) [.no, .call [.one (sl 1 (csI .u8) a0)] [.agg (cs_Recording v4)] [[.view, .lst 1]], .box 2] [1, 5] [1, 2] ⟨tr, ⟨⟨rfl, tr⟩, ok_spec_R8Recording K a0 v4 e5⟩, tr, tr, tr⟩ ?_
    refine thenQ_normal ?_
    refine AW.seq (AW.rA ⟨[(1, (vc (sl 1 (csI .u8) a1))), (5, (vp 2 0)), (6, (vc (.int .i64 (v4.Frames.length : Int))))], [(1, (.lst v4.Frames.length 4 (gl cs_Pose v4.Frames))), (2, (.box [(.c (.int .i64 v4.Bones)), (.lst 1 v4.Frames.length 4 (gl cs_Pose v4.Frames))]))]⟩ (T4 Tt) [] [1, 5, 6] [1, 2] ⟨tr, tr, tr, tr, tr⟩ (thenQ_normal ?_))
    refine AW.seq ?_
    obtain ⟨v6, e7, h⟩ := bind_some h
    refine AW.rA ⟨[(5, (vp 2 0)), (6, (vc (.int .i64 (v4.Frames.length : Int)))), (7, (vc (.int .i64 v6)))], [(1, (.lst v4.Frames.length 4 (gl cs_Pose v4.Frames))), (2, (.box [(.c (.int .i64 v4.Bones)), (.lst 1 v4.Frames.length 4 (gl cs_Pose v4.Frames))]))]⟩ (Tt ∧ T2 ((((Eqc (sl 1 (csI .u8) a1)) ∧ (Eqc (.int .i64 (0 : Int))) ∧ (Eqc (.int .i64 (IntKind.i64.wrap ((v4.Frames.length : Int) + (1 : Int))))) ∧ Tt) ∧ CallOK Try.prog 6 [.one (sl 1 (csI .u8) a1), .one (.int .i64 (0 : Int)), .one (.int .i64 (IntKind.i64.wrap ((v4.Frames.length : Int) + (1 : Int))))] [.one (.int .i64 v6)]) ∧ Tt ∧ Tt)) [.no, .no, .no, .call [.one (sl 1 (csI .u8) a1), .one (.int .i64 (0 : Int)), .one (.int .i64 (IntKind.i64.wrap ((v4.Frames.length : Int) + (1 : Int))))] [.one (.int .i64 v6)] [[.view]]] [5, 6, 7] [1, 2] ⟨tr, tr, tr, ⟨⟨rfl, rfl, rfl, tr⟩, ok_laws_r8At K a1 (0 : Int) (IntKind.i64.wrap ((v4.Frames.length : Int) + (1 : Int))) v6 e7⟩, tr, tr⟩ ?_
    refine thenQ_normal ?_
    refine AW.seq ?_
    obtain ⟨v8, e9, h⟩ := bind_some h
    refine AW.rA ⟨[(5, (vp 2 0)), (6, (vc (.int .i64 (v4.Frames.length : Int)))), (7, (vc (.int .i64 v6))), (8, (vp 4 0)), (9, (vc (.bool v8.2)))], [(1, (.lst v4.Frames.length 4 (gl cs_Pose v4.Frames))), (2, (.box [(.c (.int .i64 v4.Bones)), (.lst 1 v4.Frames.length 4 (gl cs_Pose v4.Frames))])), (3, (.lst v8.1.Frames.length 4 (gl cs_Pose v8.1.Frames))), (4, (.box [(.c (.int .i64 v8.1.Bones)), (.lst 3 v8.1.Frames.length 4 (gl cs_Pose v8.1.Frames))]))]⟩ (T2 (((((Eqc (.int .i64 v4.Bones)) ∧ (Eqc (sl 4 cs_Pose v4.Frames)) ∧ Tt) ∧ (Eqc (.int .i64 (0 : Int))) ∧ (Eqc (.int .i64 v6)) ∧ Tt) ∧ CallOK Try.prog 7 [.agg (cs_Recording v4), .one (.int .i64 (0 : Int)), .one (.int .i64 v6)] [.agg (cs_Recording v8.1), .one (.bool v8.2)]) ∧ T2 (T4 Tt))) [.no, .no, .call [.agg (cs_Recording v4), .one (.int .i64 (0 : Int)), .one (.int .i64 v6)] [.agg (cs_Recording v8.1), .one (.bool v8.2)] [[.view, .lst 3], [.view]], .no, .no, .no, .box 4] [5, 6, 7, 8, 9] [1, 2, 3, 4] ⟨tr, tr, ⟨⟨⟨rfl, rfl, tr⟩, rfl, rfl, tr⟩, ok_impl_SliceFrames K v4 (0 : Int) v6 v8 e9⟩, tr, tr, tr, tr, tr, tr, tr⟩ ?_
    refine thenQ_normal ?_
    refine AW.seq ?_
    obtain ⟨v10, e11, h⟩ := bind_some h
    refine AW.rA ⟨[(5, (vp 2 0)), (6, (vc (.int .i64 (v4.Frames.length : Int)))), (8, (vp 4 0)), (9, (vc (.bool v8.2))), (10, (vp 6 0)), (11, (vc (.bool v10.2)))], [(1, (.lst v4.Frames.length 4 (gl cs_Pose v4.Frames))), (2, (.box [(.c (.int .i64 v4.Bones)), (.lst 1 v4.Frames.length 4 (gl cs_Pose v4.Frames))])), (3, (.lst v8.1.Frames.length 4 (gl cs_Pose v8.1.Frames))), (4, (.box [(.c (.int .i64 v8.1.Bones)), (.lst 3 v8.1.Frames.length 4 (gl cs_Pose v8.1.Frames))])), (5, (.lst v10.1.Frames.length 4 (gl cs_Pose v10.1.Frames))), (6, (.box [(.c (.int .i64 v10.1.Bones)), (.lst 5 v10.1.Frames.length 4 (gl cs_Pose v10.1.Frames))]))]⟩ (Tt ∧ T4 (((((Eqc (.int .i64 v4.Bones)) ∧ (Eqc (sl 4 cs_Pose v4.Frames)) ∧ Tt) ∧ (Eqc (.int .i64 v6)) ∧ (Eqc (.int .i64 (IntKind.i64.wrap ((v4.Frames.length : Int) - v6)))) ∧ Tt) ∧ CallOK Try.prog 7 [.agg (cs_Recording v4), .one (.int .i64 v6), .one (.int .i64 (IntKind.i64.wrap ((v4.Frames.length : Int) - v6)))] [.agg (cs_Recording v10.1), .one (.bool v10.2)]) ∧ T2 (T4 Tt))) [.no, .no, .no, .no, .no, .call [.agg (cs_Recording v4), .one (.int .i64 v6), .one (.int .i64 (IntKind.i64.wrap ((v4.Frames.length : Int) - v6)))] [.agg (cs_Recording v10.1), .one (.bool v10.2)] [[.view, .lst 5], [.view]], .no, .no, .no, .box 6] [5, 6, 8, 9, 10, 11] [1, 2, 3, 4, 5, 6] ⟨tr, tr, tr, tr, tr, ⟨⟨⟨rfl, rfl, tr⟩, rfl, rfl, tr⟩, ok_impl_SliceFrames K v4 v6 (IntKind.i64.wrap ((v4.Frames.length : Int) - v6)) v10 e11⟩, tr, tr, tr, tr, tr, tr, tr⟩ ?_
    refine thenQ_normal ?_
    refine AW.seq ?_
    obtain ⟨v12, e13, h⟩ := bind_some h
    refine AW.rA ⟨[(5, (vp 2 0)), (6, (vc (.int .i64 (v4.Frames.length : Int)))), (9, (vc (.bool v8.2))), (11, (vc (.bool v10.2))), (12, (vp 8 0)), (13, (vc (.bool v12.2)))], [(1, (.lst v4.Frames.length 4 (gl cs_Pose v4.Frames))), (2, (.box [(.c (.int .i64 v4.Bones)), (.lst 1 v4.Frames.length 4 (gl cs_Pose v4.Frames))])), (7, (.lst v12.1.Frames.length 4 (gl cs_Pose v12.1.Frames))), (8, (.box [(.c (.int .i64 v12.1.Bones)), (.lst 7 v12.1.Frames.length 4 (gl cs_Pose v12.1.Frames))]))]⟩ (T2 (((((Eqc (.int .i64 v8.1.Bones)) ∧ (Eqc (sl 4 cs_Pose v8.1.Frames)) ∧ Tt) ∧ ((Eqc (.int .i64 v10.1.Bones)) ∧ (Eqc (sl 4 cs_Pose v10.1.Frames)) ∧ Tt) ∧ Tt) ∧ CallOK Try.prog 8 [.agg (cs_Recording v8.1), .agg (cs_Recording v10.1)] [.agg (cs_Recording v12.1), .one (.bool v12.2)]) ∧ T2 (T4 Tt))) [.no, .no, .call [.agg (cs_Recording v8.1), .agg (cs_Recording v10.1)] [.agg (cs_Recording v12.1), .one (.bool v12.2)] [[.view, .lst 7], [.view]], .no, .no, .no, .box 8] [5, 6, 9, 11, 12, 13] [1, 2, 7, 8] ⟨tr, tr, ⟨⟨⟨rfl, rfl, tr⟩, ⟨rfl, rfl, tr⟩, tr⟩, ok_impl_JoinRecordings K v8.1 v10.1 v12 e13⟩, tr, tr, tr, tr, tr, tr, tr⟩ ?_
    refine thenQ_normal ?_
    refine AW.seq ?_
    refine AW.seq ?_
    obtain ⟨j19, e20, h⟩ := bind_some h
    refine AW.join1 (s2 := ⟨[(5, (vp 2 0)), (6, (vc (.int .i64 (v4.Frames.length : Int)))), (76, (vc (.bool j19)))], [(1, (.lst v4.Frames.length 4 (gl cs_Pose v4.Frames))), (2, (.box [(.c (.int .i64 v4.Bones)), (.lst 1 v4.Frames.length 4 (gl cs_Pose v4.Frames))]))]⟩) ?_ ?_
    · rcases ite2_cases e20 with ⟨b14, e20⟩ | ⟨b14, e20⟩
      · replace e20 := some_eq e20
        subst e20
        exact AW.rA ⟨[(5, (vp 2 0)), (6, (vc (.int .i64 (v4.Frames.length : Int)))), (76, (vc (.bool true)))], [(1, (.lst v4.Frames.length 4 (gl cs_Pose v4.Frames))), (2, (.box [(.c (.int .i64 v4.Bones)), (.lst 1 v4.Frames.length 4 (gl cs_Pose v4.Frames))]))]⟩ (T2 ((Tt ∧ (!v8.2) = true) ∧ Tt ∧ T4 (T4 (T4 Tt)))) [.no, .no, .dec true] [5, 6, 76] [1, 2] ⟨tr, tr, ⟨tr, b14⟩, tr, tr, tr, tr, tr, tr, tr, tr, tr, tr, tr, tr, tr, tr⟩ ⟨rfl, rfl⟩
      · rcases ite2_cases e20 with ⟨b15, e20⟩ | ⟨b15, e20⟩
        · replace e20 := some_eq e20
          subst e20
          exact AW.rA ⟨[(5, (vp 2 0)), (6, (vc (.int .i64 (v4.Frames.length : Int)))), (76, (vc (.bool true)))], [(1, (.lst v4.Frames.length 4 (gl cs_Pose v4.Frames))), (2, (.box [(.c (.int .i64 v4.Bones)), (.lst 1 v4.Frames.length 4 (gl cs_Pose v4.Frames))]))]⟩ (T2 ((Tt ∧ (!v8.2) = false) ∧ Tt ∧ T2 ((Tt ∧ (!v10.2) = true) ∧ Tt ∧ T4 (T4 Tt)))) [.no, .no, .dec false, .no, .no, .no, .dec true] [5, 6, 76] [1, 2] ⟨tr, tr, ⟨tr, b14⟩, tr, tr, tr, ⟨tr, b15⟩, tr, tr, tr, tr, tr, tr, tr, tr, tr, tr⟩ ⟨rfl, rfl⟩
        · rcases ite2_cases e20 with ⟨b16, e20⟩ | ⟨b16, e20⟩
          · replace e20 := some_eq e20
            subst e20
            exact AW.rA ⟨[(5, (vp 2 0)), (6, (vc (.int .i64 (v4.Frames.length : Int)))), (76, (vc (.bool true)))], [(1, (.lst v4.Frames.length 4 (gl cs_Pose v4.Frames))), (2, (.box [(.c (.int .i64 v4.Bones)), (.lst 1 v4.Frames.length 4 (gl cs_Pose v4.Frames))]))]⟩ (T2 ((Tt ∧ (!v8.2) = false) ∧ Tt ∧ T2 ((Tt ∧ (!v10.2) = false) ∧ Tt ∧ T2 ((Tt ∧ (!v12.2) = true) ∧ Tt ∧ T4 Tt)))) [.no, .no, .dec false, .no, .no, .no, .dec false, .no, .no, .no, .dec true] [5, 6, 76] [1, 2] ⟨tr, tr, ⟨tr, b14⟩, tr, tr, tr, ⟨tr, b15⟩, tr, tr, tr, ⟨tr, b16⟩, tr, tr, tr, tr, tr, tr⟩ ⟨rfl, rfl⟩
          · obtain ⟨v17, e18, e20⟩ := bind_some e20
            replace e20 := some_eq e20
            subst e20
            exact AW.rA ⟨[(5, (vp 2 0)), (6, (vc (.int .i64 (v4.Frames.length : Int)))), (76, (vc (.bool (!v17))))], [(1, (.lst v4.Frames.length 4 (gl cs_Pose v4.Frames))), (2, (.box [(.c (.int .i64 v4.Bones)), (.lst 1 v4.Frames.length 4 (gl cs_Pose v4.Frames))]))]⟩ (T2 ((Tt ∧ (!v8.2) = false) ∧ Tt ∧ T2 ((Tt ∧ (!v10.2) = false) ∧ Tt ∧ T2 ((Tt ∧ (!v12.2) = false) ∧ T2 (((((Eqc (.int .i64 v12.1.Bones)) ∧ (Eqc (sl 4 cs_Pose v12.1.Frames)) ∧ Tt) ∧ ((Eqc (.int .i64 v4.Bones)) ∧ (Eqc (sl 4 cs_Pose v4.Frames)) ∧ Tt) ∧ Tt) ∧ CallOK Try.prog 9 [.agg (cs_Recording v12.1), .agg (cs_Recording v4)] [.one (.bool v17)]) ∧ T2 Tt))))) [.no, .no, .dec false, .no, .no, .no, .dec false, .no, .no, .no, .dec false, .no, .no, .call [.agg (cs_Recording v12.1), .agg (cs_Recording v4)] [.one (.bool v17)] [[.view]]] [5, 6, 76] [1, 2] ⟨tr, tr, ⟨tr, b14⟩, tr, tr, tr, ⟨tr, b15⟩, tr, tr, tr, ⟨tr, b16⟩, tr, tr, ⟨⟨⟨rfl, rfl, tr⟩, ⟨rfl, rfl, tr⟩, tr⟩, ok_impl_SameRecording K v12.1 v4 v17 e18⟩, tr, tr, tr⟩ ⟨rfl, rfl⟩
    refine thenQ_normal ?_
    rcases ite2_cases h with ⟨b21, h⟩ | ⟨b21, h⟩
    · refine AW.cond_t rfl b21 ?_
      refine AW.seq (AW.rA ⟨[(4, (vc (.bool false)))], []⟩ (Tt ∧ Tt) [] [4] [] ⟨tr, tr⟩ (thenQ_normal ?_))
      refine AW.ret ?_
      refine thenQ_ret ?_
      replace h := some_eq h
      subst h
      exact ⟨.inr rfl, retOK_of [(.one (.c (.bool false)))] (by kernel_rfl) ⟨⟨rfl, tr⟩, tr⟩ (of_decide_eq_true (by kernel_rfl))⟩
    · refine AW.cond_f rfl b21 ?_
      refine AW.skip ?_
      refine thenQ_normal ?_
      refine AW.seq ?_
      refine AW.seq (AW.rA ⟨[(5, (vp 2 0)), (6, (vc (.int .i64 (v4.Frames.length : Int)))), (78, (vc (.bool ((v4.Frames.length : Int) == (0 : Int)))))], [(1, (.lst v4.Frames.length 4 (gl cs_Pose v4.Frames))), (2, (.box [(.c (.int .i64 v4.Bones)), (.lst 1 v4.Frames.length 4 (gl cs_Pose v4.Frames))]))]⟩ (T2 Tt) [] [5, 6, 78] [1, 2] ⟨tr, tr, tr⟩ (thenQ_normal ?_))
      rcases ite2_cases h with ⟨b22, h⟩ | ⟨b22, h⟩
      · refine AW.cond_t rfl b22 ?_
        refine AW.seq ?_
        obtain ⟨v23, e24, h⟩ := bind_some h
        refine AW.rA ⟨[(4, (vc (.bool v23)))], []⟩ (Tt ∧ ((((Eqc (.int .i64 v4.Bones)) ∧ (Eqc (sl 4 cs_Pose v4.Frames)) ∧ Tt) ∧ Tt) ∧ CallOK Try.prog 10 [.agg (cs_Recording v4)] [.one (.bool v23)]) ∧ Tt ∧ Tt) [.no, .call [.agg (cs_Recording v4)] [.one (.bool v23)] [[.view]]] [4] [] ⟨tr, ⟨⟨⟨rfl, rfl, tr⟩, tr⟩, ok_impl_ValidRecording K v4 v23 e24⟩, tr, tr⟩ ?_
        refine thenQ_normal ?_
        refine AW.ret ?_
        refine thenQ_ret ?_
        replace h := some_eq h
        subst h
        exact ⟨.inr rfl, retOK_of [(.one (.c (.bool v23)))] (by kernel_rfl) ⟨⟨rfl, tr⟩, tr⟩ (of_decide_eq_true (by kernel_rfl))⟩
      · refine AW.cond_f rfl b22 ?_
        refine AW.skip ?_
        refine thenQ_normal ?_
        refine AW.seq ?_
        obtain ⟨v25, e26, h⟩ := bind_some h
        refine AW.rA ⟨[(5, (vp 2 0)), (6, (vc (.int .i64 (v4.Frames.length : Int)))), (14, (vp 10 0)), (15, (vc (.bool v25.2)))], [(1, (.lst v4.Frames.length 4 (gl cs_Pose v4.Frames))), (2, (.box [(.c (.int .i64 v4.Bones)), (.lst 1 v4.Frames.length 4 (gl cs_Pose v4.Frames))])), (9, (.lst v25.1.Frames.length 4 (gl cs_Pose v25.1.Frames))), (10, (.box [(.c (.int .i64 v25.1.Bones)), (.lst 9 v25.1.Frames.length 4 (gl cs_Pose v25.1.Frames))]))]⟩ (Tt ∧ T2 (((((Eqc (.int .i64 v4.Bones)) ∧ (Eqc (sl 4 cs_Pose v4.Frames)) ∧ Tt) ∧ (Eqc (.int .i64 (0 : Int))) ∧ (Eqc (.int .i64 (IntKind.i64.wrap ((v4.Frames.length : Int) - (1 : Int))))) ∧ Tt) ∧ CallOK Try.prog 7 [.agg (cs_Recording v4), .one (.int .i64 (0 : Int)), .one (.int .i64 (IntKind.i64.wrap ((v4.Frames.length : Int) - (1 : Int))))] [.agg (cs_Recording v25.1), .one (.bool v25.2)]) ∧ T2 (T4 Tt))) [.no, .no, .no, .call [.agg (cs_Recording v4), .one (.int .i64 (0 : Int)), .one (.int .i64 (IntKind.i64.wrap ((v4.Frames.length : Int) - (1 : Int))))] [.agg (cs_Recording v25.1), .one (.bool v25.2)] [[.view, .lst 9], [.view]], .no, .no, .no, .box 10] [5, 6, 14, 15] [1, 2, 9, 10] ⟨tr, tr, tr, ⟨⟨⟨rfl, rfl, tr⟩, rfl, rfl, tr⟩, ok_impl_SliceFrames K v4 (0 : Int) (IntKind.i64.wrap ((v4.Frames.length : Int) - (1 : Int))) v25 e26⟩, tr, tr, tr, tr, tr, tr, tr⟩ ?_
        refine thenQ_normal ?_
        refine AW.seq ?_
        obtain ⟨c27, h⟩ := chk_some h
        obtain ⟨v28, e29, h⟩ := bind_some h
        refine AW.lateA (by kernel_rfl) 12 10 [.no, .no, .no, .no, .no, .no, .no, .call [.agg (cs_Recording v25.1), .agg (cs_Pose (v4.Frames.getD ((IntKind.i64.wrap ((v4.Frames.length : Int) - (1 : Int))).toNat) default))] [.agg (cs_Recording v28.1), .one (.bool v28.2)] [[.view, .lst 11], [.view]], .no, .no, .no, .box 12] [5, 6, 15, 16, 17] [1, 2, 11, 12] (s' := ⟨[(5, (vp 2 0)), (6, (vc (.int .i64 (v4.Frames.length : Int)))), (15, (vc (.bool v25.2))), (16, (vp 12 0)), (17, (vc (.bool v28.2)))], [(1, (.lst v4.Frames.length 4 (gl cs_Pose v4.Frames))), (2, (.box [(.c (.int .i64 v4.Bones)), (.lst 1 v4.Frames.length 4 (gl cs_Pose v4.Frames))])), (11, (.lst v28.1.Frames.length 4 (gl cs_Pose v28.1.Frames))), (12, (.box [(.c (.int .i64 v28.1.Bones)), (.lst 11 v28.1.Frames.length 4 (gl cs_Pose v28.1.Frames))]))]⟩) (ob := (Tt ∧ T4 ((0 ≤ (IntKind.i64.wrap ((v4.Frames.length : Int) - (1 : Int))) ∧ (IntKind.i64.wrap ((v4.Frames.length : Int) - (1 : Int))) < (v4.Frames.length : Int)) ∧ Tt ∧ ((((Eqc (.int .i64 v25.1.Bones)) ∧ (Eqc (sl 4 cs_Pose v25.1.Frames)) ∧ Tt) ∧ ((((.flt .f32 (((v4.Frames.getD ((IntKind.i64.wrap ((v4.Frames.length : Int) - (1 : Int))).toNat) default).Root).X).bits) : C) = (.flt .f32 (((v4.Frames.getD ((IntKind.i64.wrap ((v4.Frames.length : Int) - (1 : Int))).toNat) default).Root).X).bits)) ∧ (((.flt .f32 (((v4.Frames.getD ((IntKind.i64.wrap ((v4.Frames.length : Int) - (1 : Int))).toNat) default).Root).Y).bits) : C) = (.flt .f32 (((v4.Frames.getD ((IntKind.i64.wrap ((v4.Frames.length : Int) - (1 : Int))).toNat) default).Root).Y).bits)) ∧ (((.flt .f32 (((v4.Frames.getD ((IntKind.i64.wrap ((v4.Frames.length : Int) - (1 : Int))).toNat) default).Root).Z).bits) : C) = (.flt .f32 (((v4.Frames.getD ((IntKind.i64.wrap ((v4.Frames.length : Int) - (1 : Int))).toNat) default).Root).Z).bits)) ∧ (((sl 4 cs_Turn ((v4.Frames.getD ((IntKind.i64.wrap ((v4.Frames.length : Int) - (1 : Int))).toNat) default).Turns)) : C) = (sl 4 cs_Turn ((v4.Frames.getD ((IntKind.i64.wrap ((v4.Frames.length : Int) - (1 : Int))).toNat) default).Turns))) ∧ Tt) ∧ Tt) ∧ CallOK Try.prog 11 [.agg (cs_Recording v25.1), .agg (cs_Pose (v4.Frames.getD ((IntKind.i64.wrap ((v4.Frames.length : Int) - (1 : Int))).toNat) default))] [.agg (cs_Recording v28.1), .one (.bool v28.2)]) ∧ T4 Tt)) ∧ (T2 Tt) ∧ (Tt ∧ T2 Tt) ∧ ((⟨[(5, (vp 2 0)), (6, (vc (.int .i64 (v4.Frames.length : Int)))), (15, (vc (.bool v25.2))), (16, (vp 12 0)), (17, (vc (.bool v28.2)))], [(1, (.lst v4.Frames.length 4 (gl cs_Pose v4.Frames))), (2, (.box [(.c (.int .i64 v4.Bones)), (.lst 1 v4.Frames.length 4 (gl cs_Pose v4.Frames))])), (11, (.lst v28.1.Frames.length 4 (gl cs_Pose v28.1.Frames))), (12, (.box [(.c (.int .i64 v28.1.Bones)), (.lst 11 v28.1.Frames.length 4 (gl cs_Pose v28.1.Frames))]))]⟩ : St) = ⟨[(5, (vp 2 0)), (6, (vc (.int .i64 (v4.Frames.length : Int)))), (15, (vc (.bool v25.2))), (16, (vp 12 0)), (17, (vc (.bool v28.2)))], [(1, (.lst v4.Frames.length 4 (gl cs_Pose v4.Frames))), (2, (.box [(.c (.int .i64 v4.Bones)), (.lst 1 v4.Frames.length 4 (gl cs_Pose v4.Frames))])), (11, (.lst v28.1.Frames.length 4 (gl cs_Pose v28.1.Frames))), (12, (.box [(.c (.int .i64 v28.1.Bones)), (.lst 11 v28.1.Frames.length 4 (gl cs_Pose v28.1.Frames))]))]⟩)) (by kernel_rfl) ⟨⟨tr, tr, tr, tr, tr, c27, tr, ⟨⟨⟨rfl, rfl, tr⟩, ⟨rfl, rfl, rfl, rfl, tr⟩, tr⟩, ok_impl_AddFrame K v25.1 (v4.Frames.getD ((IntKind.i64.wrap ((v4.Frames.length : Int) - (1 : Int))).toNat) default) v28 e29⟩, tr, tr, tr, tr, tr⟩, ⟨tr, tr, tr⟩, ⟨tr, tr, tr, tr⟩, rfl⟩ ?_
        refine thenQ_normal ?_
        refine AW.seq ?_
        obtain ⟨c30, h⟩ := chk_some h
        obtain ⟨v31, e32, h⟩ := bind_some h
        refine AW.rA ⟨[(5, (vp 2 0)), (6, (vc (.int .i64 (v4.Frames.length : Int)))), (15, (vc (.bool v25.2))), (16, (vp 12 0)), (17, (vc (.bool v28.2))), (18, (.v (.one (.lst 13 v31.1.length 1 (gl (csF .f32) v31.1))))), (19, (vc (.bool v31.2)))], [(1, (.lst v4.Frames.length 4 (gl cs_Pose v4.Frames))), (2, (.box [(.c (.int .i64 v4.Bones)), (.lst 1 v4.Frames.length 4 (gl cs_Pose v4.Frames))])), (11, (.lst v28.1.Frames.length 4 (gl cs_Pose v28.1.Frames))), (12, (.box [(.c (.int .i64 v28.1.Bones)), (.lst 11 v28.1.Frames.length 4 (gl cs_Pose v28.1.Frames))])), (13, (.lst v31.1.length 1 (gl (csF .f32) v31.1)))]⟩ (T2 ((0 ≤ (0 : Int) ∧ (0 : Int) < (v4.Frames.length : Int)) ∧ Tt ∧ ((((((.flt .f32 (((v4.Frames.getD ((0 : Int).toNat) default).Root).X).bits) : C) = (.flt .f32 (((v4.Frames.getD ((0 : Int).toNat) default).Root).X).bits)) ∧ (((.flt .f32 (((v4.Frames.getD ((0 : Int).toNat) default).Root).Y).bits) : C) = (.flt .f32 (((v4.Frames.getD ((0 : Int).toNat) default).Root).Y).bits)) ∧ (((.flt .f32 (((v4.Frames.getD ((0 : Int).toNat) default).Root).Z).bits) : C) = (.flt .f32 (((v4.Frames.getD ((0 : Int).toNat) default).Root).Z).bits)) ∧ (Eqc (sl 4 cs_Turn ((v4.Frames.getD ((0 : Int).toNat) default).Turns))) ∧ Tt) ∧ Tt) ∧ CallOK Try.prog 12 [.agg (cs_Pose (v4.Frames.getD ((0 : Int).toNat) default))] [.one (sl 1 (csF .f32) v31.1), .one (.bool v31.2)]) ∧ Tt ∧ T4 Tt)) [.no, .no, .no, .no, .call [.agg (cs_Pose (v4.Frames.getD ((0 : Int).toNat) default))] [.one (sl 1 (csF .f32) v31.1), .one (.bool v31.2)] [[.lst 13], [.view]]] [5, 6, 15, 16, 17, 18, 19] [1, 2, 11, 12, 13] ⟨tr, tr, c30, tr, ⟨⟨⟨rfl, rfl, rfl, rfl, tr⟩, tr⟩, ok_impl_NumbersOfPose K (v4.Frames.getD ((0 : Int).toNat) default) v31 e32⟩, tr, tr, tr, tr, tr, tr⟩ ?_
        refine thenQ_normal ?_
        refine AW.seq ?_
        obtain ⟨v33, e34, h⟩ := bind_some h
        refine AW.rA ⟨[(5, (vp 2 0)), (6, (vc (.int .i64 (v4.Frames.length : Int)))), (15, (vc (.bool v25.2))), (16, (vp 12 0)), (17, (vc (.bool v28.2))), (18, (.v (.one (.lst 13 v31.1.length 1 (gl (csF .f32) v31.1))))), (19, (vc (.bool v31.2))), (20, (vp 15 0)), (21, (vc (.bool v33.2)))], [(1, (.lst v4.Frames.length 4 (gl cs_Pose v4.Frames))), (2, (.box [(.c (.int .i64 v4.Bones)), (.lst 1 v4.Frames.length 4 (gl cs_Pose v4.Frames))])), (11, (.lst v28.1.Frames.length 4 (gl cs_Pose v28.1.Frames))), (12, (.box [(.c (.int .i64 v28.1.Bones)), (.lst 11 v28.1.Frames.length 4 (gl cs_Pose v28.1.Frames))])), (13, (.lst v31.1.length 1 (gl (csF .f32) v31.1))), (14, (.lst v33.1.Turns.length 4 (gl cs_Turn v33.1.Turns))), (15, (.box [(.c (.flt .f32 v33.1.Root.X.bits)), (.c (.flt .f32 v33.1.Root.Y.bits)), (.c (.flt .f32 v33.1.Root.Z.bits)), (.lst 14 v33.1.Turns.length 4 (gl cs_Turn v33.1.Turns))]))]⟩ (Tt ∧ (((Eqc (sl 1 (csF .f32) v31.1)) ∧ Tt) ∧ CallOK Try.prog 13 [.one (sl 1 (csF .f32) v31.1)] [.agg (cs_Pose v33.1), .one (.bool v33.2)]) ∧ T2 (T4 Tt)) [.no, .call [.one (sl 1 (csF .f32) v31.1)] [.agg (cs_Pose v33.1), .one (.bool v33.2)] [[.view, .view, .view, .lst 14], [.view]], .no, .no, .no, .box 15] [5, 6, 15, 16, 17, 18, 19, 20, 21] [1, 2, 11, 12, 13, 14, 15] ⟨tr, ⟨⟨rfl, tr⟩, ok_impl_PoseOfNumbers K v31.1 v33 e34⟩, tr, tr, tr, tr, tr, tr, tr⟩ ?_
        refine thenQ_normal ?_
        refine AW.seq ?_
        obtain ⟨v35, e36, h⟩ := bind_some h
        refine AW.rA ⟨[(5, (vp 2 0)), (6, (vc (.int .i64 (v4.Frames.length : Int)))), (15, (vc (.bool v25.2))), (16, (vp 12 0)), (17, (vc (.bool v28.2))), (18, (.v (.one (.lst 13 v31.1.length 1 (gl (csF .f32) v31.1))))), (19, (vc (.bool v31.2))), (20, (vp 15 0)), (21, (vc (.bool v33.2))), (22, (.v (.one (.lst 16 v35.1.length 1 (gl (csF .f32) v35.1))))), (23, (vc (.bool v35.2)))], [(1, (.lst v4.Frames.length 4 (gl cs_Pose v4.Frames))), (2, (.box [(.c (.int .i64 v4.Bones)), (.lst 1 v4.Frames.length 4 (gl cs_Pose v4.Frames))])), (11, (.lst v28.1.Frames.length 4 (gl cs_Pose v28.1.Frames))), (12, (.box [(.c (.int .i64 v28.1.Bones)), (.lst 11 v28.1.Frames.length 4 (gl cs_Pose v28.1.Frames))])), (13, (.lst v31.1.length 1 (gl (csF .f32) v31.1))), (14, (.lst v33.1.Turns.length 4 (gl cs_Turn v33.1.Turns))), (15, (.box [(.c (.flt .f32 v33.1.Root.X.bits)), (.c (.flt .f32 v33.1.Root.Y.bits)), (.c (.flt .f32 v33.1.Root.Z.bits)), (.lst 14 v33.1.Turns.length 4 (gl cs_Turn v33.1.Turns))])), (16, (.lst v35.1.length 1 (gl (csF .f32) v35.1)))]⟩ (T4 ((0 ≤ (IntKind.i64.wrap ((v4.Frames.length : Int) - (1 : Int))) ∧ (IntKind.i64.wrap ((v4.Frames.length : Int) - (1 : Int))) < (v4.Frames.length : Int)) ∧ Tt ∧ ((((((.flt .f32 (((v4.Frames.getD ((IntKind.i64.wrap ((v4.Frames.length : Int) - (1 : Int))).toNat) default).Root).X).bits) : C) = (.flt .f32 (((v4.Frames.getD ((IntKind.i64.wrap ((v4.Frames.length : Int) - (1 : Int))).toNat) default).Root).X).bits)) ∧ (((.flt .f32 (((v4.Frames.getD ((IntKind.i64.wrap ((v4.Frames.length : Int) - (1 : Int))).toNat) default).Root).Y).bits) : C) = (.flt .f32 (((v4.Frames.getD ((IntKind.i64.wrap ((v4.Frames.length : Int) - (1 : Int))).toNat) default).Root).Y).bits)) ∧ (((.flt .f32 (((v4.Frames.getD ((IntKind.i64.wrap ((v4.Frames.length : Int) - (1 : Int))).toNat) default).Root).Z).bits) : C) = (.flt .f32 (((v4.Frames.getD ((IntKind.i64.wrap ((v4.Frames.length : Int) - (1 : Int))).toNat) default).Root).Z).bits)) ∧ (((sl 4 cs_Turn ((v4.Frames.getD ((IntKind.i64.wrap ((v4.Frames.length : Int) - (1 : Int))).toNat) default).Turns)) : C) = (sl 4 cs_Turn ((v4.Frames.getD ((IntKind.i64.wrap ((v4.Frames.length : Int) - (1 : Int))).toNat) default).Turns))) ∧ Tt) ∧ Tt) ∧ CallOK Try.prog 12 [.agg (cs_Pose (v4.Frames.getD ((IntKind.i64.wrap ((v4.Frames.length : Int) - (1 : Int))).toNat) default))] [.one (sl 1 (csF .f32) v35.1), .one (.bool v35.2)]) ∧ Tt ∧ T4 Tt)) [.no, .no, .no, .no, .no, .no, .call [.agg (cs_Pose (v4.Frames.getD ((IntKind.i64.wrap ((v4.Frames.length : Int) - (1 : Int))).toNat) default))] [.one (sl 1 (csF .f32) v35.1), .one (.bool v35.2)] [[.lst 16], [.view]]] [5, 6, 15, 16, 17, 18, 19, 20, 21, 22, 23] [1, 2, 11, 12, 13, 14, 15, 16] ⟨tr, tr, tr, tr, c27, tr, ⟨⟨⟨rfl, rfl, rfl, rfl, tr⟩, tr⟩, ok_impl_NumbersOfPose K (v4.Frames.getD ((IntKind.i64.wrap ((v4.Frames.length : Int) - (1 : Int))).toNat) default) v35 e36⟩, tr, tr, tr, tr, tr, tr⟩ ?_
        refine thenQ_normal ?_
        refine AW.seq ?_
        obtain ⟨v37, e38, h⟩ := bind_some h
        refine AW.dA ⟨[(5, (vp 2 0)), (15, (vc (.bool v25.2))), (16, (vp 12 0)), (17, (vc (.bool v28.2))), (18, (.v (.one (.lst 13 v31.1.length 1 (gl (csF .f32) v31.1))))), (19, (vc (.bool v31.2))), (20, (vp 15 0)), (21, (vc (.bool v33.2))), (22, (.v (.one (.lst 16 v35.1.length 1 (gl (csF .f32) v35.1))))), (23, (vc (.bool v35.2))), (24, (.v (.one (.lst 17 v37.1.length 1 (gl (csI .i64) v37.1))))), (25, (vc (.bool v37.2)))], [(1, (.lst v4.Frames.length 4 (gl cs_Pose v4.Frames))), (2, (.box [(.c (.int .i64 v4.Bones)), (.lst 1 v4.Frames.length 4 (gl cs_Pose v4.Frames))])), (11, (.lst v28.1.Frames.length 4 (gl cs_Pose v28.1.Frames))), (12, (.box [(.c (.int .i64 v28.1.Bones)), (.lst 11 v28.1.Frames.length 4 (gl cs_Pose v28.1.Frames))])), (13, (.lst v31.1.length 1 (gl (csF .f32) v31.1))), (14, (.lst v33.1.Turns.length 4 (gl cs_Turn v33.1.Turns))), (15, (.box [(.c (.flt .f32 v33.1.Root.X.bits)), (.c (.flt .f32 v33.1.Root.Y.bits)), (.c (.flt .f32 v33.1.Root.Z.bits)), (.lst 14 v33.1.Turns.length 4 (gl cs_Turn v33.1.Turns))])), (16, (.lst v35.1.length 1 (gl (csF .f32) v35.1))), (17, (.lst v37.1.length 1 (gl (csI .i64) v37.1)))]⟩ ((T2 ((0 ≤ (0 : Int) ∧ (0 : Int) < (v4.Frames.length : Int)) ∧ Tt ∧ T4 ((0 ≤ (IntKind.i64.wrap ((v4.Frames.length : Int) - (1 : Int))) ∧ (IntKind.i64.wrap ((v4.Frames.length : Int) - (1 : Int))) < (v4.Frames.length : Int)) ∧ Tt ∧ ((((((.flt .f32 (((v4.Frames.getD ((0 : Int).toNat) default).Root).X).bits) : C) = (.flt .f32 (((v4.Frames.getD ((0 : Int).toNat) default).Root).X).bits)) ∧ (((.flt .f32 (((v4.Frames.getD ((0 : Int).toNat) default).Root).Y).bits) : C) = (.flt .f32 (((v4.Frames.getD ((0 : Int).toNat) default).Root).Y).bits)) ∧ (((.flt .f32 (((v4.Frames.getD ((0 : Int).toNat) default).Root).Z).bits) : C) = (.flt .f32 (((v4.Frames.getD ((0 : Int).toNat) default).Root).Z).bits)) ∧ (Eqc (sl 4 cs_Turn ((v4.Frames.getD ((0 : Int).toNat) default).Turns))) ∧ Tt) ∧ ((((.flt .f32 (((v4.Frames.getD ((IntKind.i64.wrap ((v4.Frames.length : Int) - (1 : Int))).toNat) default).Root).X).bits) : C) = (.flt .f32 (((v4.Frames.getD ((IntKind.i64.wrap ((v4.Frames.length : Int) - (1 : Int))).toNat) default).Root).X).bits)) ∧ (((.flt .f32 (((v4.Frames.getD ((IntKind.i64.wrap ((v4.Frames.length : Int) - (1 : Int))).toNat) default).Root).Y).bits) : C) = (.flt .f32 (((v4.Frames.getD ((IntKind.i64.wrap ((v4.Frames.length : Int) - (1 : Int))).toNat) default).Root).Y).bits)) ∧ (((.flt .f32 (((v4.Frames.getD ((IntKind.i64.wrap ((v4.Frames.length : Int) - (1 : Int))).toNat) default).Root).Z).bits) : C) = (.flt .f32 (((v4.Frames.getD ((IntKind.i64.wrap ((v4.Frames.length : Int) - (1 : Int))).toNat) default).Root).Z).bits)) ∧ (((sl 4 cs_Turn ((v4.Frames.getD ((IntKind.i64.wrap ((v4.Frames.length : Int) - (1 : Int))).toNat) default).Turns)) : C) = (sl 4 cs_Turn ((v4.Frames.getD ((IntKind.i64.wrap ((v4.Frames.length : Int) - (1 : Int))).toNat) default).Turns))) ∧ Tt) ∧ Tt) ∧ CallOK Try.prog 14 [.agg (cs_Pose (v4.Frames.getD ((0 : Int).toNat) default)), .agg (cs_Pose (v4.Frames.getD ((IntKind.i64.wrap ((v4.Frames.length : Int) - (1 : Int))).toNat) default))] [.one (sl 1 (csI .i64) v37.1), .one (.bool v37.2)]) ∧ Tt ∧ T4 Tt))) ∧ (Tt)) 16 [.no, .no, .no, .no, .no, .no, .no, .no, .no, .no, .call [.agg (cs_Pose (v4.Frames.getD ((0 : Int).toNat) default)), .agg (cs_Pose (v4.Frames.getD ((IntKind.i64.wrap ((v4.Frames.length : Int) - (1 : Int))).toNat) default))] [.one (sl 1 (csI .i64) v37.1), .one (.bool v37.2)] [[.lst 17], [.view]]] [5, 15, 16, 17, 18, 19, 20, 21, 22, 23, 24, 25] [1, 2, 11, 12, 13, 14, 15, 16, 17] ⟨⟨tr, tr, c30, tr, tr, tr, tr, tr, c27, tr, ⟨⟨⟨rfl, rfl, rfl, rfl, tr⟩, ⟨rfl, rfl, rfl, rfl, tr⟩, tr⟩, ok_impl_ChangedNumbers K (v4.Frames.getD ((0 : Int).toNat) default) (v4.Frames.getD ((IntKind.i64.wrap ((v4.Frames.length : Int) - (1 : Int))).toNat) default) v37 e38⟩, tr, tr, tr, tr, tr, tr⟩, tr⟩ ?_
        refine thenQ_normal ?_
        refine AW.seq ?_
        refine AW.seq ?_
        obtain ⟨j52, e53, h⟩ := bind_some h
        refine AW.join1 (s2 := ⟨[(18, (.v (.one (.lst 13 v31.1.length 1 (gl (csF .f32) v31.1))))), (22, (.v (.one (.lst 16 v35.1.length 1 (gl (csF .f32) v35.1))))), (24, (.v (.one (.lst 17 v37.1.length 1 (gl (csI .i64) v37.1))))), (188, (vc (.bool j52)))], [(13, (.lst v31.1.length 1 (gl (csF .f32) v31.1))), (16, (.lst v35.1.length 1 (gl (csF .f32) v35.1))), (17, (.lst v37.1.length 1 (gl (csI .i64) v37.1)))]⟩) ?_ ?_
        · rcases ite2_cases e53 with ⟨b39, e53⟩ | ⟨b39, e53⟩
          · replace e53 := some_eq e53
            subst e53
            exact AW.dA ⟨[(18, (.v (.one (.lst 13 v31.1.length 1 (gl (csF .f32) v31.1))))), (22, (.v (.one (.lst 16 v35.1.length 1 (gl (csF .f32) v35.1))))), (24, (.v (.one (.lst 17 v37.1.length 1 (gl (csI .i64) v37.1))))), (188, (vc (.bool true)))], [(13, (.lst v31.1.length 1 (gl (csF .f32) v31.1))), (16, (.lst v35.1.length 1 (gl (csF .f32) v35.1))), (17, (.lst v37.1.length 1 (gl (csI .i64) v37.1)))]⟩ ((T2 ((Tt ∧ (!v25.2) = true) ∧ T2 (T4 (T4 (T4 (T4 (T4 (T4 (T4 (T4 (T4 (T4 (T4 (T4 Tt)))))))))))))) ∧ (Tt)) 53 [.no, .no, .dec true] [18, 22, 24, 188] [13, 16, 17] ⟨⟨tr, tr, ⟨tr, b39⟩, tr, tr, tr, tr, tr, tr, tr, tr, tr, tr, tr, tr, tr, tr, tr, tr, tr, tr, tr, tr, tr, tr, tr, tr, tr, tr, tr, tr, tr, tr, tr, tr, tr, tr, tr, tr, tr, tr, tr, tr, tr, tr, tr, tr, tr, tr, tr, tr, tr, tr, tr⟩, tr⟩ ⟨rfl, rfl⟩
          · rcases ite2_cases e53 with ⟨b40, e53⟩ | ⟨b40, e53⟩
            · replace e53 := some_eq e53
              subst e53
              exact AW.dA ⟨[(18, (.v (.one (.lst 13 v31.1.length 1 (gl (csF .f32) v31.1))))), (22, (.v (.one (.lst 16 v35.1.length 1 (gl (csF .f32) v35.1))))), (24, (.v (.one (.lst 17 v37.1.length 1 (gl (csI .i64) v37.1))))), (188, (vc (.bool true)))], [(13, (.lst v31.1.length 1 (gl (csF .f32) v31.1))), (16, (.lst v35.1.length 1 (gl (csF .f32) v35.1))), (17, (.lst v37.1.length 1 (gl (csI .i64) v37.1)))]⟩ ((T2 ((Tt ∧ (!v25.2) = false) ∧ Tt ∧ T2 ((Tt ∧ (!v28.2) = true) ∧ T2 (T4 (T4 (T4 (T4 (T4 (T4 (T4 (T4 (T4 (T4 (T4 Tt)))))))))))))) ∧ (Tt)) 53 [.no, .no, .dec false, .no, .no, .no, .dec true] [18, 22, 24, 188] [13, 16, 17] ⟨⟨tr, tr, ⟨tr, b39⟩, tr, tr, tr, ⟨tr, b40⟩, tr, tr, tr, tr, tr, tr, tr, tr, tr, tr, tr, tr, tr, tr, tr, tr, tr, tr, tr, tr, tr, tr, tr, tr, tr, tr, tr, tr, tr, tr, tr, tr, tr, tr, tr, tr, tr, tr, tr, tr, tr, tr, tr, tr, tr, tr, tr⟩, tr⟩ ⟨rfl, rfl⟩
            · rcases ite2_cases e53 with ⟨b41, e53⟩ | ⟨b41, e53⟩
              · replace e53 := some_eq e53
                subst e53
                exact AW.dA ⟨[(18, (.v (.one (.lst 13 v31.1.length 1 (gl (csF .f32) v31.1))))), (22, (.v (.one (.lst 16 v35.1.length 1 (gl (csF .f32) v35.1))))), (24, (.v (.one (.lst 17 v37.1.length 1 (gl (csI .i64) v37.1))))), (188, (vc (.bool true)))], [(13, (.lst v31.1.length 1 (gl (csF .f32) v31.1))), (16, (.lst v35.1.length 1 (gl (csF .f32) v35.1))), (17, (.lst v37.1.length 1 (gl (csI .i64) v37.1)))]⟩ ((T2 ((Tt ∧ (!v25.2) = false) ∧ Tt ∧ T2 ((Tt ∧ (!v28.2) = false) ∧ Tt ∧ T2 ((Tt ∧ (!v31.2) = true) ∧ T2 (T4 (T4 (T4 (T4 (T4 (T4 (T4 (T4 (T4 (T4 Tt)))))))))))))) ∧ (Tt)) 53 [.no, .no, .dec false, .no, .no, .no, .dec false, .no, .no, .no, .dec true] [18, 22, 24, 188] [13, 16, 17] ⟨⟨tr, tr, ⟨tr, b39⟩, tr, tr, tr, ⟨tr, b40⟩, tr, tr, tr, ⟨tr, b41⟩, tr, tr, tr, tr, tr, tr, tr, tr, tr, tr, tr, tr, tr, tr, tr, tr, tr, tr, tr, tr, tr, tr, tr, tr, tr, tr, tr, tr, tr, tr, tr, tr, tr, tr, tr, tr, tr, tr, tr, tr, tr, tr, tr⟩, tr⟩ ⟨rfl, rfl⟩
              · rcases ite2_cases e53 with ⟨b42, e53⟩ | ⟨b42, e53⟩
                · replace e53 := some_eq e53
                  subst e53
                  exact AW.dA ⟨[(18, (.v (.one (.lst 13 v31.1.length 1 (gl (csF .f32) v31.1))))), (22, (.v (.one (.lst 16 v35.1.length 1 (gl (csF .f32) v35.1))))), (24, (.v (.one (.lst 17 v37.1.length 1 (gl (csI .i64) v37.1))))), (188, (vc (.bool true)))], [(13, (.lst v31.1.length 1 (gl (csF .f32) v31.1))), (16, (.lst v35.1.length 1 (gl (csF .f32) v35.1))), (17, (.lst v37.1.length 1 (gl (csI .i64) v37.1)))]⟩ ((T2 ((Tt ∧ (!v25.2) = false) ∧ Tt ∧ T2 ((Tt ∧ (!v28.2) = false) ∧ Tt ∧ T2 ((Tt ∧ (!v31.2) = false) ∧ Tt ∧ T2 ((Tt ∧ (!v33.2) = true) ∧ T2 (T4 (T4 (T4 (T4 (T4 (T4 (T4 (T4 (T4 Tt)))))))))))))) ∧ (Tt)) 53 [.no, .no, .dec false, .no, .no, .no, .dec false, .no, .no, .no, .dec false, .no, .no, .no, .dec true] [18, 22, 24, 188] [13, 16, 17] ⟨⟨tr, tr, ⟨tr, b39⟩, tr, tr, tr, ⟨tr, b40⟩, tr, tr, tr, ⟨tr, b41⟩, tr, tr, tr, ⟨tr, b42⟩, tr, tr, tr, tr, tr, tr, tr, tr, tr, tr, tr, tr, tr, tr, tr, tr, tr, tr, tr, tr, tr, tr, tr, tr, tr, tr, tr, tr, tr, tr, tr, tr, tr, tr, tr, tr, tr, tr, tr⟩, tr⟩ ⟨rfl, rfl⟩
                · rcases ite2_cases e53 with ⟨b43, e53⟩ | ⟨b43, e53⟩
                  · replace e53 := some_eq e53
                    subst e53
                    exact AW.dA ⟨[(18, (.v (.one (.lst 13 v31.1.length 1 (gl (csF .f32) v31.1))))), (22, (.v (.one (.lst 16 v35.1.length 1 (gl (csF .f32) v35.1))))), (24, (.v (.one (.lst 17 v37.1.length 1 (gl (csI .i64) v37.1))))), (188, (vc (.bool true)))], [(13, (.lst v31.1.length 1 (gl (csF .f32) v31.1))), (16, (.lst v35.1.length 1 (gl (csF .f32) v35.1))), (17, (.lst v37.1.length 1 (gl (csI .i64) v37.1)))]⟩ ((T2 ((Tt ∧ (!v25.2) = false) ∧ Tt ∧ T2 ((Tt ∧ (!v28.2) = false) ∧ Tt ∧ T2 ((Tt ∧ (!v31.2) = false) ∧ Tt ∧ T2 ((Tt ∧ (!v33.2) = false) ∧ Tt ∧ T2 ((Tt ∧ (!v35.2) = true) ∧ T2 (T4 (T4 (T4 (T4 (T4 (T4 (T4 (T4 Tt)))))))))))))) ∧ (Tt)) 53 [.no, .no, .dec false, .no, .no, .no, .dec false, .no, .no, .no, .dec false, .no, .no, .no, .dec false, .no, .no, .no, .dec true] [18, 22, 24, 188] [13, 16, 17] ⟨⟨tr, tr, ⟨tr, b39⟩, tr, tr, tr, ⟨tr, b40⟩, tr, tr, tr, ⟨tr, b41⟩, tr, tr, tr, ⟨tr, b42⟩, tr, tr, tr, ⟨tr, b43⟩, tr, tr, tr, tr, tr, tr, tr, tr, tr, tr, tr, tr, tr, tr, tr, tr, tr, tr, tr, tr, tr, tr, tr, tr, tr, tr, tr, tr, tr, tr, tr, tr, tr, tr, tr⟩, tr⟩ ⟨rfl, rfl⟩
                  · rcases ite2_cases e53 with ⟨b44, e53⟩ | ⟨b44, e53⟩
                    · replace e53 := some_eq e53
                      subst e53
                      exact AW.dA ⟨[(18, (.v (.one (.lst 13 v31.1.length 1 (gl (csF .f32) v31.1))))), (22, (.v (.one (.lst 16 v35.1.length 1 (gl (csF .f32) v35.1))))), (24, (.v (.one (.lst 17 v37.1.length 1 (gl (csI .i64) v37.1))))), (188, (vc (.bool true)))], [(13, (.lst v31.1.length 1 (gl (csF .f32) v31.1))), (16, (.lst v35.1.length 1 (gl (csF .f32) v35.1))), (17, (.lst v37.1.length 1 (gl (csI .i64) v37.1)))]⟩ ((T2 ((Tt ∧ (!v25.2) = false) ∧ Tt ∧ T2 ((Tt ∧ (!v28.2) = false) ∧ Tt ∧ T2 ((Tt ∧ (!v31.2) = false) ∧ Tt ∧ T2 ((Tt ∧ (!v33.2) = false) ∧ Tt ∧ T2 ((Tt ∧ (!v35.2) = false) ∧ Tt ∧ T2 ((Tt ∧ (!v37.2) = true) ∧ T2 (T4 (T4 (T4 (T4 (T4 (T4 (T4 Tt)))))))))))))) ∧ (Tt)) 53 [.no, .no, .dec false, .no, .no, .no, .dec false, .no, .no, .no, .dec false, .no, .no, .no, .dec false, .no, .no, .no, .dec false, .no, .no, .no, .dec true] [18, 22, 24, 188] [13, 16, 17] ⟨⟨tr, tr, ⟨tr, b39⟩, tr, tr, tr, ⟨tr, b40⟩, tr, tr, tr, ⟨tr, b41⟩, tr, tr, tr, ⟨tr, b42⟩, tr, tr, tr, ⟨tr, b43⟩, tr, tr, tr, ⟨tr, b44⟩, tr, tr, tr, tr, tr, tr, tr, tr, tr, tr, tr, tr, tr, tr, tr, tr, tr, tr, tr, tr, tr, tr, tr, tr, tr, tr, tr, tr, tr, tr, tr⟩, tr⟩ ⟨rfl, rfl⟩
                    · obtain ⟨v45, e46, e53⟩ := bind_some e53
                      rcases ite2_cases e53 with ⟨b47, e53⟩ | ⟨b47, e53⟩
                      · replace e53 := some_eq e53
                        subst e53
                        exact AW.dA ⟨[(18, (.v (.one (.lst 13 v31.1.length 1 (gl (csF .f32) v31.1))))), (22, (.v (.one (.lst 16 v35.1.length 1 (gl (csF .f32) v35.1))))), (24, (.v (.one (.lst 17 v37.1.length 1 (gl (csI .i64) v37.1))))), (188, (vc (.bool true)))], [(13, (.lst v31.1.length 1 (gl (csF .f32) v31.1))), (16, (.lst v35.1.length 1 (gl (csF .f32) v35.1))), (17, (.lst v37.1.length 1 (gl (csI .i64) v37.1)))]⟩ ((T2 ((Tt ∧ (!v25.2) = false) ∧ Tt ∧ T2 ((Tt ∧ (!v28.2) = false) ∧ Tt ∧ T2 ((Tt ∧ (!v31.2) = false) ∧ Tt ∧ T2 ((Tt ∧ (!v33.2) = false) ∧ Tt ∧ T2 ((Tt ∧ (!v35.2) = false) ∧ Tt ∧ T2 ((Tt ∧ (!v37.2) = false) ∧ T2 (((((Eqc (.int .i64 v28.1.Bones)) ∧ (Eqc (sl 4 cs_Pose v28.1.Frames)) ∧ Tt) ∧ ((Eqc (.int .i64 v4.Bones)) ∧ (Eqc (sl 4 cs_Pose v4.Frames)) ∧ Tt) ∧ Tt) ∧ CallOK Try.prog 9 [.agg (cs_Recording v28.1), .agg (cs_Recording v4)] [.one (.bool v45)]) ∧ T2 ((Tt ∧ (!v45) = true) ∧ T4 (T4 (T4 (T4 (T4 (T4 Tt)))))))))))))) ∧ (Tt)) 53 [.no, .no, .dec false, .no, .no, .no, .dec false, .no, .no, .no, .dec false, .no, .no, .no, .dec false, .no, .no, .no, .dec false, .no, .no, .no, .dec false, .no, .no, .call [.agg (cs_Recording v28.1), .agg (cs_Recording v4)] [.one (.bool v45)] [[.view]], .no, .no, .dec true] [18, 22, 24, 188] [13, 16, 17] ⟨⟨tr, tr, ⟨tr, b39⟩, tr, tr, tr, ⟨tr, b40⟩, tr, tr, tr, ⟨tr, b41⟩, tr, tr, tr, ⟨tr, b42⟩, tr, tr, tr, ⟨tr, b43⟩, tr, tr, tr, ⟨tr, b44⟩, tr, tr, ⟨⟨⟨rfl, rfl, tr⟩, ⟨rfl, rfl, tr⟩, tr⟩, ok_impl_SameRecording K v28.1 v4 v45 e46⟩, tr, tr, ⟨tr, b47⟩, tr, tr, tr, tr, tr, tr, tr, tr, tr, tr, tr, tr, tr, tr, tr, tr, tr, tr, tr, tr, tr, tr, tr, tr, tr⟩, tr⟩ ⟨rfl, rfl⟩
                      · obtain ⟨v48, e49, e53⟩ := bind_some e53
                        rcases ite2_cases e53 with ⟨b50, e53⟩ | ⟨b50, e53⟩
                        · replace e53 := some_eq e53
                          subst e53
                          exact AW.dA ⟨[(18, (.v (.one (.lst 13 v31.1.length 1 (gl (csF .f32) v31.1))))), (22, (.v (.one (.lst 16 v35.1.length 1 (gl (csF .f32) v35.1))))), (24, (.v (.one (.lst 17 v37.1.length 1 (gl (csI .i64) v37.1))))), (188, (vc (.bool true)))], [(13, (.lst v31.1.length 1 (gl (csF .f32) v31.1))), (16, (.lst v35.1.length 1 (gl (csF .f32) v35.1))), (17, (.lst v37.1.length 1 (gl (csI .i64) v37.1)))]⟩ ((T2 ((Tt ∧ (!v25.2) = false) ∧ Tt ∧ T2 ((Tt ∧ (!v28.2) = false) ∧ Tt ∧ T2 ((Tt ∧ (!v31.2) = false) ∧ Tt ∧ T2 ((Tt ∧ (!v33.2) = false) ∧ Tt ∧ T2 ((Tt ∧ (!v35.2) = false) ∧ Tt ∧ T2 ((Tt ∧ (!v37.2) = false) ∧ T2 (((((Eqc (.int .i64 v28.1.Bones)) ∧ (Eqc (sl 4 cs_Pose v28.1.Frames)) ∧ Tt) ∧ ((Eqc (.int .i64 v4.Bones)) ∧ (Eqc (sl 4 cs_Pose v4.Frames)) ∧ Tt) ∧ Tt) ∧ CallOK Try.prog 9 [.agg (cs_Recording v28.1), .agg (cs_Recording v4)] [.one (.bool v45)]) ∧ T2 ((Tt ∧ (!v45) = false) ∧ Tt ∧ T2 ((0 ≤ (0 : Int) ∧ (0 : Int) < (v4.Frames.length : Int)) ∧ Tt ∧ ((((Eqc (.flt .f32 v33.1.Root.X.bits)) ∧ (Eqc (.flt .f32 v33.1.Root.Y.bits)) ∧ (Eqc (.flt .f32 v33.1.Root.Z.bits)) ∧ (Eqc (sl 4 cs_Turn v33.1.Turns)) ∧ Tt) ∧ ((((.flt .f32 (((v4.Frames.getD ((0 : Int).toNat) default).Root).X).bits) : C) = (.flt .f32 (((v4.Frames.getD ((0 : Int).toNat) default).Root).X).bits)) ∧ (((.flt .f32 (((v4.Frames.getD ((0 : Int).toNat) default).Root).Y).bits) : C) = (.flt .f32 (((v4.Frames.getD ((0 : Int).toNat) default).Root).Y).bits)) ∧ (((.flt .f32 (((v4.Frames.getD ((0 : Int).toNat) default).Root).Z).bits) : C) = (.flt .f32 (((v4.Frames.getD ((0 : Int).toNat) default).Root).Z).bits)) ∧ (Eqc (sl 4 cs_Turn ((v4.Frames.getD ((0 : Int).toNat) default).Turns))) ∧ Tt) ∧ Tt) ∧ CallOK Try.prog 15 [.agg (cs_Pose v33.1), .agg (cs_Pose (v4.Frames.getD ((0 : Int).toNat) default))] [.one (.bool v48)]) ∧ T2 ((Tt ∧ (!v48) = true) ∧ Tt ∧ T2 (T4 (T4 (T4 Tt)))))))))))))) ∧ (Tt)) 53 [.no, .no, .dec false, .no, .no, .no, .dec false, .no, .no, .no, .dec false, .no, .no, .no, .dec false, .no, .no, .no, .dec false, .no, .no, .no, .dec false, .no, .no, .call [.agg (cs_Recording v28.1), .agg (cs_Recording v4)] [.one (.bool v45)] [[.view]], .no, .no, .dec false, .no, .no, .no, .no, .no, .call [.agg (cs_Pose v33.1), .agg (cs_Pose (v4.Frames.getD ((0 : Int).toNat) default))] [.one (.bool v48)] [[.view]], .no, .no, .dec true] [18, 22, 24, 188] [13, 16, 17] ⟨⟨tr, tr, ⟨tr, b39⟩, tr, tr, tr, ⟨tr, b40⟩, tr, tr, tr, ⟨tr, b41⟩, tr, tr, tr, ⟨tr, b42⟩, tr, tr, tr, ⟨tr, b43⟩, tr, tr, tr, ⟨tr, b44⟩, tr, tr, ⟨⟨⟨rfl, rfl, tr⟩, ⟨rfl, rfl, tr⟩, tr⟩, ok_impl_SameRecording K v28.1 v4 v45 e46⟩, tr, tr, ⟨tr, b47⟩, tr, tr, tr, c30, tr, ⟨⟨⟨rfl, rfl, rfl, rfl, tr⟩, ⟨rfl, rfl, rfl, rfl, tr⟩, tr⟩, ok_impl_SamePose K v33.1 (v4.Frames.getD ((0 : Int).toNat) default) v48 e49⟩, tr, tr, ⟨tr, b50⟩, tr, tr, tr, tr, tr, tr, tr, tr, tr, tr, tr, tr, tr, tr, tr, tr⟩, tr⟩ ⟨rfl, rfl⟩
                        · rcases ite2_cases e53 with ⟨b51, e53⟩ | ⟨b51, e53⟩
                          · replace e53 := some_eq e53
                            subst e53
                            exact AW.dA ⟨[(18, (.v (.one (.lst 13 v31.1.length 1 (gl (csF .f32) v31.1))))), (22, (.v (.one (.lst 16 v35.1.length 1 (gl (csF .f32) v35.1))))), (24, (.v (.one (.lst 17 v37.1.length 1 (gl (csI .i64) v37.1))))), (188, (vc (.bool true)))], [(13, (.lst v31.1.length 1 (gl (csF .f32) v31.1))), (16, (.lst v35.1.length 1 (gl (csF .f32) v35.1))), (17, (.lst v37.1.length 1 (gl (csI .i64) v37.1)))]⟩ ((T2 ((Tt ∧ (!v25.2) = false) ∧ Tt ∧ T2 ((Tt ∧ (!v28.2) = false) ∧ Tt ∧ T2 ((Tt ∧ (!v31.2) = false) ∧ Tt ∧ T2 ((Tt ∧ (!v33.2) = false) ∧ Tt ∧ T2 ((Tt ∧ (!v35.2) = false) ∧ Tt ∧ T2 ((Tt ∧ (!v37.2) = false) ∧ T2 (((((Eqc (.int .i64 v28.1.Bones)) ∧ (Eqc (sl 4 cs_Pose v28.1.Frames)) ∧ Tt) ∧ ((Eqc (.int .i64 v4.Bones)) ∧ (Eqc (sl 4 cs_Pose v4.Frames)) ∧ Tt) ∧ Tt) ∧ CallOK Try.prog 9 [.agg (cs_Recording v28.1), .agg (cs_Recording v4)] [.one (.bool v45)]) ∧ T2 ((Tt ∧ (!v45) = false) ∧ Tt ∧ T2 ((0 ≤ (0 : Int) ∧ (0 : Int) < (v4.Frames.length : Int)) ∧ Tt ∧ ((((Eqc (.flt .f32 v33.1.Root.X.bits)) ∧ (Eqc (.flt .f32 v33.1.Root.Y.bits)) ∧ (Eqc (.flt .f32 v33.1.Root.Z.bits)) ∧ (Eqc (sl 4 cs_Turn v33.1.Turns)) ∧ Tt) ∧ ((((.flt .f32 (((v4.Frames.getD ((0 : Int).toNat) default).Root).X).bits) : C) = (.flt .f32 (((v4.Frames.getD ((0 : Int).toNat) default).Root).X).bits)) ∧ (((.flt .f32 (((v4.Frames.getD ((0 : Int).toNat) default).Root).Y).bits) : C) = (.flt .f32 (((v4.Frames.getD ((0 : Int).toNat) default).Root).Y).bits)) ∧ (((.flt .f32 (((v4.Frames.getD ((0 : Int).toNat) default).Root).Z).bits) : C) = (.flt .f32 (((v4.Frames.getD ((0 : Int).toNat) default).Root).Z).bits)) ∧ (Eqc (sl 4 cs_Turn ((v4.Frames.getD ((0 : Int).toNat) default).Turns))) ∧ Tt) ∧ Tt) ∧ CallOK Try.prog 15 [.agg (cs_Pose v33.1), .agg (cs_Pose (v4.Frames.getD ((0 : Int).toNat) default))] [.one (.bool v48)]) ∧ T2 ((Tt ∧ (!v48) = false) ∧ T4 (T4 ((Tt ∧ ((v31.1.length : Int) != (IntKind.i64.wrap ((3 : Int) + (IntKind.i64.wrap ((4 : Int) * v4.Bones))))) = true) ∧ T2 (T4 Tt)))))))))))))) ∧ (Tt)) 53 [.no, .no, .dec false, .no, .no, .no, .dec false, .no, .no, .no, .dec false, .no, .no, .no, .dec false, .no, .no, .no, .dec false, .no, .no, .no, .dec false, .no, .no, .call [.agg (cs_Recording v28.1), .agg (cs_Recording v4)] [.one (.bool v45)] [[.view]], .no, .no, .dec false, .no, .no, .no, .no, .no, .call [.agg (cs_Pose v33.1), .agg (cs_Pose (v4.Frames.getD ((0 : Int).toNat) default))] [.one (.bool v48)] [[.view]], .no, .no, .dec false, .no, .no, .no, .no, .no, .no, .no, .no, .dec true] [18, 22, 24, 188] [13, 16, 17] ⟨⟨tr, tr, ⟨tr, b39⟩, tr, tr, tr, ⟨tr, b40⟩, tr, tr, tr, ⟨tr, b41⟩, tr, tr, tr, ⟨tr, b42⟩, tr, tr, tr, ⟨tr, b43⟩, tr, tr, tr, ⟨tr, b44⟩, tr, tr, ⟨⟨⟨rfl, rfl, tr⟩, ⟨rfl, rfl, tr⟩, tr⟩, ok_impl_SameRecording K v28.1 v4 v45 e46⟩, tr, tr, ⟨tr, b47⟩, tr, tr, tr, c30, tr, ⟨⟨⟨rfl, rfl, rfl, rfl, tr⟩, ⟨rfl, rfl, rfl, rfl, tr⟩, tr⟩, ok_impl_SamePose K v33.1 (v4.Frames.getD ((0 : Int).toNat) default) v48 e49⟩, tr, tr, ⟨tr, b50⟩, tr, tr, tr, tr, tr, tr, tr, tr, ⟨tr, b51⟩, tr, tr, tr, tr, tr, tr, tr⟩, tr⟩ ⟨rfl, rfl⟩
                          · replace e53 := some_eq e53
                            subst e53
                            exact AW.dA ⟨[(18, (.v (.one (.lst 13 v31.1.length 1 (gl (csF .f32) v31.1))))), (22, (.v (.one (.lst 16 v35.1.length 1 (gl (csF .f32) v35.1))))), (24, (.v (.one (.lst 17 v37.1.length 1 (gl (csI .i64) v37.1))))), (188, (vc (.bool ((v35.1.length : Int) != (v31.1.length : Int)))))], [(13, (.lst v31.1.length 1 (gl (csF .f32) v31.1))), (16, (.lst v35.1.length 1 (gl (csF .f32) v35.1))), (17, (.lst v37.1.length 1 (gl (csI .i64) v37.1)))]⟩ ((T2 ((Tt ∧ (!v25.2) = false) ∧ Tt ∧ T2 ((Tt ∧ (!v28.2) = false) ∧ Tt ∧ T2 ((Tt ∧ (!v31.2) = false) ∧ Tt ∧ T2 ((Tt ∧ (!v33.2) = false) ∧ Tt ∧ T2 ((Tt ∧ (!v35.2) = false) ∧ Tt ∧ T2 ((Tt ∧ (!v37.2) = false) ∧ T2 (((((Eqc (.int .i64 v28.1.Bones)) ∧ (Eqc (sl 4 cs_Pose v28.1.Frames)) ∧ Tt) ∧ ((Eqc (.int .i64 v4.Bones)) ∧ (Eqc (sl 4 cs_Pose v4.Frames)) ∧ Tt) ∧ Tt) ∧ CallOK Try.prog 9 [.agg (cs_Recording v28.1), .agg (cs_Recording v4)] [.one (.bool v45)]) ∧ T2 ((Tt ∧ (!v45) = false) ∧ Tt ∧ T2 ((0 ≤ (0 : Int) ∧ (0 : Int) < (v4.Frames.length : Int)) ∧ Tt ∧ ((((Eqc (.flt .f32 v33.1.Root.X.bits)) ∧ (Eqc (.flt .f32 v33.1.Root.Y.bits)) ∧ (Eqc (.flt .f32 v33.1.Root.Z.bits)) ∧ (Eqc (sl 4 cs_Turn v33.1.Turns)) ∧ Tt) ∧ ((((.flt .f32 (((v4.Frames.getD ((0 : Int).toNat) default).Root).X).bits) : C) = (.flt .f32 (((v4.Frames.getD ((0 : Int).toNat) default).Root).X).bits)) ∧ (((.flt .f32 (((v4.Frames.getD ((0 : Int).toNat) default).Root).Y).bits) : C) = (.flt .f32 (((v4.Frames.getD ((0 : Int).toNat) default).Root).Y).bits)) ∧ (((.flt .f32 (((v4.Frames.getD ((0 : Int).toNat) default).Root).Z).bits) : C) = (.flt .f32 (((v4.Frames.getD ((0 : Int).toNat) default).Root).Z).bits)) ∧ (Eqc (sl 4 cs_Turn ((v4.Frames.getD ((0 : Int).toNat) default).Turns))) ∧ Tt) ∧ Tt) ∧ CallOK Try.prog 15 [.agg (cs_Pose v33.1), .agg (cs_Pose (v4.Frames.getD ((0 : Int).toNat) default))] [.one (.bool v48)]) ∧ T2 ((Tt ∧ (!v48) = false) ∧ T4 (T4 ((Tt ∧ ((v31.1.length : Int) != (IntKind.i64.wrap ((3 : Int) + (IntKind.i64.wrap ((4 : Int) * v4.Bones))))) = false) ∧ T2 (T4 Tt)))))))))))))) ∧ (Tt)) 53 [.no, .no, .dec false, .no, .no, .no, .dec false, .no, .no, .no, .dec false, .no, .no, .no, .dec false, .no, .no, .no, .dec false, .no, .no, .no, .dec false, .no, .no, .call [.agg (cs_Recording v28.1), .agg (cs_Recording v4)] [.one (.bool v45)] [[.view]], .no, .no, .dec false, .no, .no, .no, .no, .no, .call [.agg (cs_Pose v33.1), .agg (cs_Pose (v4.Frames.getD ((0 : Int).toNat) default))] [.one (.bool v48)] [[.view]], .no, .no, .dec false, .no, .no, .no, .no, .no, .no, .no, .no, .dec false] [18, 22, 24, 188] [13, 16, 17] ⟨⟨tr, tr, ⟨tr, b39⟩, tr, tr, tr, ⟨tr, b40⟩, tr, tr, tr, ⟨tr, b41⟩, tr, tr, tr, ⟨tr, b42⟩, tr, tr, tr, ⟨tr, b43⟩, tr, tr, tr, ⟨tr, b44⟩, tr, tr, ⟨⟨⟨rfl, rfl, tr⟩, ⟨rfl, rfl, tr⟩, tr⟩, ok_impl_SameRecording K v28.1 v4 v45 e46⟩, tr, tr, ⟨tr, b47⟩, tr, tr, tr, c30, tr, ⟨⟨⟨rfl, rfl, rfl, rfl, tr⟩, ⟨rfl, rfl, rfl, rfl, tr⟩, tr⟩, ok_impl_SamePose K v33.1 (v4.Frames.getD ((0 : Int).toNat) default) v48 e49⟩, tr, tr, ⟨tr, b50⟩, tr, tr, tr, tr, tr, tr, tr, tr, ⟨tr, b51⟩, tr, tr, tr, tr, tr, tr, tr⟩, tr⟩ ⟨rfl, rfl⟩
        refine thenQ_normal ?_
        rcases ite2_cases h with ⟨b54, h⟩ | ⟨b54, h⟩
        · refine AW.cond_t rfl b54 ?_
          refine AW.seq (AW.rA ⟨[(4, (vc (.bool false)))], []⟩ (Tt ∧ Tt) [] [4] [] ⟨tr, tr⟩ (thenQ_normal ?_))
          refine AW.ret ?_
          refine thenQ_ret ?_
          replace h := some_eq h
          subst h
          exact ⟨.inr rfl, retOK_of [(.one (.c (.bool false)))] (by kernel_rfl) ⟨⟨rfl, tr⟩, tr⟩ (of_decide_eq_true (by kernel_rfl))⟩
        · refine AW.cond_f rfl b54 ?_
          refine AW.skip ?_
          refine thenQ_normal ?_
          refine AW.seq (AW.rA ⟨[(18, (.v (.one (.lst 13 v31.1.length 1 (gl (csF .f32) v31.1))))), (22, (.v (.one (.lst 16 v35.1.length 1 (gl (csF .f32) v35.1))))), (24, (.v (.one (.lst 17 v37.1.length 1 (gl (csI .i64) v37.1))))), (26, (vc (.int .i64 (0 : Int))))], [(13, (.lst v31.1.length 1 (gl (csF .f32) v31.1))), (16, (.lst v35.1.length 1 (gl (csF .f32) v35.1))), (17, (.lst v37.1.length 1 (gl (csI .i64) v37.1)))]⟩ (Tt ∧ Tt) [] [18, 22, 24, 26] [13, 16, 17] ⟨tr, tr⟩ (thenQ_normal ?_))
          refine AW.seq ?_
          refine AW.seq (AW.rA ⟨[(18, (.v (.one (.lst 13 v31.1.length 1 (gl (csF .f32) v31.1))))), (22, (.v (.one (.lst 16 v35.1.length 1 (gl (csF .f32) v35.1))))), (24, (.v (.one (.lst 17 v37.1.length 1 (gl (csI .i64) v37.1))))), (26, (vc (.int .i64 (0 : Int)))), (27, (vc (.int .i64 (0 : Int))))], [(13, (.lst v31.1.length 1 (gl (csF .f32) v31.1))), (16, (.lst v35.1.length 1 (gl (csF .f32) v35.1))), (17, (.lst v37.1.length 1 (gl (csI .i64) v37.1)))]⟩ (Tt ∧ Tt) [] [18, 22, 24, 26, 27] [13, 16, 17] ⟨tr, tr⟩ (thenQ_normal ?_))
          refine AW.block ?_
          refine AW.loopQ (σ := Nat × Int × Int) (fun p => ⟨[(18, (.v (.one (.lst 13 v31.1.length 1 (gl (csF .f32) v31.1))))), (22, (.v (.one (.lst 16 v35.1.length 1 (gl (csF .f32) v35.1))))), (24, (.v (.one (.lst 17 v37.1.length 1 (gl (csI .i64) v37.1))))), (26, (vc (.int .i64 p.2.2))), (27, (vc (.int .i64 p.2.1)))], [(13, (.lst v31.1.length 1 (gl (csF .f32) v31.1))), (16, (.lst v35.1.length 1 (gl (csF .f32) v35.1))), (17, (.lst v37.1.length 1 (gl (csI .i64) v37.1)))]⟩) (fun p => laws_FnPoseNumbers_l1 K v31 v35 v37 p.1 p.2.1 p.2.2 = some o) (fun p => p.1) (K, (0 : Int), (0 : Int)) h ?_
          clear h
          rintro ⟨k, x57, x58⟩ h
          replace h : laws_FnPoseNumbers_l1 K v31 v35 v37 k x57 x58 = some o := h
          show AW _ _ (⟨[(18, (.v (.one (.lst 13 v31.1.length 1 (gl (csF .f32) v31.1))))), (22, (.v (.one (.lst 16 v35.1.length 1 (gl (csF .f32) v35.1))))), (24, (.v (.one (.lst 17 v37.1.length 1 (gl (csI .i64) v37.1))))), (26, (vc (.int .i64 x58))), (27, (vc (.int .i64 x57)))], [(13, (.lst v31.1.length 1 (gl (csF .f32) v31.1))), (16, (.lst v35.1.length 1 (gl (csF .f32) v35.1))), (17, (.lst v37.1.length 1 (gl (csI .i64) v37.1)))]⟩ : St) _
          obtain _ | k := k
          · rw [laws_FnPoseNumbers_l1] at h; cases h
          rw [laws_FnPoseNumbers_l1] at h
          refine AW.seq ?_
          refine AW.seq (AW.rA ⟨[(18, (.v (.one (.lst 13 v31.1.length 1 (gl (csF .f32) v31.1))))), (22, (.v (.one (.lst 16 v35.1.length 1 (gl (csF .f32) v35.1))))), (24, (.v (.one (.lst 17 v37.1.length 1 (gl (csI .i64) v37.1))))), (26, (vc (.int .i64 x58))), (27, (vc (.int .i64 x57))), (192, (vc (.bool (decide (x57 < (v31.1.length : Int))))))], [(13, (.lst v31.1.length 1 (gl (csF .f32) v31.1))), (16, (.lst v35.1.length 1 (gl (csF .f32) v35.1))), (17, (.lst v37.1.length 1 (gl (csI .i64) v37.1)))]⟩ (T4 Tt) [] [18, 22, 24, 26, 27, 192] [13, 16, 17] ⟨tr, tr, tr, tr, tr⟩ (thenQ_normal ?_))
          rcases ite2_cases h with ⟨b59, h⟩ | ⟨b59, h⟩
          · refine AW.cond_t rfl b59 ?_
            refine AW.skip ?_
            refine thenQ_normal ?_
            refine AW.seq ?_
            refine AW.block ?_
            refine AW.seq ?_
            refine AW.seq ?_
            obtain ⟨c60, h⟩ := chk_some h
            obtain ⟨c61, h⟩ := chk_some h
            obtain ⟨v62, e63, h⟩ := bind_some h
            refine AW.dA ⟨[(18, (.v (.one (.lst 13 v31.1.length 1 (gl (csF .f32) v31.1))))), (22, (.v (.one (.lst 16 v35.1.length 1 (gl (csF .f32) v35.1))))), (24, (.v (.one (.lst 17 v37.1.length 1 (gl (csI .i64) v37.1))))), (26, (vc (.int .i64 x58))), (27, (vc (.int .i64 x57))), (203, (vc (.bool v62)))], [(13, (.lst v31.1.length 1 (gl (csF .f32) v31.1))), (16, (.lst v35.1.length 1 (gl (csF .f32) v35.1))), (17, (.lst v37.1.length 1 (gl (csI .i64) v37.1)))]⟩ ((T2 ((0 ≤ x57 ∧ x57 < (v31.1.length : Int)) ∧ Tt ∧ T2 ((0 ≤ x57 ∧ x57 < (v35.1.length : Int)) ∧ Tt ∧ (((Eqc (.flt .f32 (v31.1.getD x57.toNat default).bits)) ∧ (Eqc (.flt .f32 (v35.1.getD x57.toNat default).bits)) ∧ Tt) ∧ CallOK Try.prog 16 [.one (.flt .f32 (v31.1.getD x57.toNat default).bits), .one (.flt .f32 (v35.1.getD x57.toNat default).bits)] [.one (.bool v62)]) ∧ Tt))) ∧ (Tt)) 9 [.no, .no, .no, .no, .no, .no, .no, .no, .call [.one (.flt .f32 (v31.1.getD x57.toNat default).bits), .one (.flt .f32 (v35.1.getD x57.toNat default).bits)] [.one (.bool v62)] [[.view]]] [18, 22, 24, 26, 27, 203] [13, 16, 17] ⟨⟨tr, tr, c60, tr, tr, tr, c61, tr, ⟨⟨rfl, rfl, tr⟩, ok_impl_SameNumber K (v31.1.getD x57.toNat default) (v35.1.getD x57.toNat default) v62 e63⟩, tr⟩, tr⟩ ?_
            refine thenQ_normal ?_
            rcases ite2_cases h with ⟨b64, h⟩ | ⟨b64, h⟩
            · refine AW.cond_t rfl b64 ?_
              refine AW.exit ?_
              refine thenQ_exit ?_
              refine blockQ_exit ?_
              refine thenQ_normal ?_
              refine AW.rA ⟨[(18, (.v (.one (.lst 13 v31.1.length 1 (gl (csF .f32) v31.1))))), (22, (.v (.one (.lst 16 v35.1.length 1 (gl (csF .f32) v35.1))))), (24, (.v (.one (.lst 17 v37.1.length 1 (gl (csI .i64) v37.1))))), (26, (vc (.int .i64 x58))), (27, (vc (.int .i64 (IntKind.i64.wrap (x57 + (1 : Int))))))], [(13, (.lst v31.1.length 1 (gl (csF .f32) v31.1))), (16, (.lst v35.1.length 1 (gl (csF .f32) v35.1))), (17, (.lst v37.1.length 1 (gl (csI .i64) v37.1)))]⟩ (Tt ∧ T2 Tt) [] [18, 22, 24, 26, 27] [13, 16, 17] ⟨tr, tr, tr, tr⟩ ?_
              exact loopQ_normal (k, (IntKind.i64.wrap (x57 + (1 : Int))), x58) h (Nat.lt_succ_self k) (Sub.keep [18, 22, 24, 26, 27] [13, 16, 17] (by kernel_rfl) (by kernel_rfl))
            · refine AW.cond_f rfl b64 ?_
              refine AW.skip ?_
              refine thenQ_normal ?_
              refine AW.seq ?_
              refine AW.seq ?_
              obtain ⟨j67, e68, h⟩ := bind_some h
              refine AW.join1 (s2 := ⟨[(18, (.v (.one (.lst 13 v31.1.length 1 (gl (csF .f32) v31.1))))), (22, (.v (.one (.lst 16 v35.1.length 1 (gl (csF .f32) v35.1))))), (24, (.v (.one (.lst 17 v37.1.length 1 (gl (csI .i64) v37.1))))), (26, (vc (.int .i64 x58))), (27, (vc (.int .i64 x57))), (215, (vc (.bool j67)))], [(13, (.lst v31.1.length 1 (gl (csF .f32) v31.1))), (16, (.lst v35.1.length 1 (gl (csF .f32) v35.1))), (17, (.lst v37.1.length 1 (gl (csI .i64) v37.1)))]⟩) ?_ ?_
              · rcases ite2_cases e68 with ⟨b65, e68⟩ | ⟨b65, e68⟩
                · replace e68 := some_eq e68
                  subst e68
                  exact AW.rA ⟨[(18, (.v (.one (.lst 13 v31.1.length 1 (gl (csF .f32) v31.1))))), (22, (.v (.one (.lst 16 v35.1.length 1 (gl (csF .f32) v35.1))))), (24, (.v (.one (.lst 17 v37.1.length 1 (gl (csI .i64) v37.1))))), (26, (vc (.int .i64 x58))), (27, (vc (.int .i64 x57))), (215, (vc (.bool true)))], [(13, (.lst v31.1.length 1 (gl (csF .f32) v31.1))), (16, (.lst v35.1.length 1 (gl (csF .f32) v35.1))), (17, (.lst v37.1.length 1 (gl (csI .i64) v37.1)))]⟩ (T4 ((Tt ∧ (decide (x58 ≥ (v37.1.length : Int))) = true) ∧ Tt ∧ T2 (T4 Tt))) [.no, .no, .no, .no, .dec true] [18, 22, 24, 26, 27, 215] [13, 16, 17] ⟨tr, tr, tr, tr, ⟨tr, b65⟩, tr, tr, tr, tr, tr, tr, tr, tr⟩ ⟨rfl, rfl⟩
                · obtain ⟨c66, e68⟩ := chk_some e68
                  replace e68 := some_eq e68
                  subst e68
                  exact AW.rA ⟨[(18, (.v (.one (.lst 13 v31.1.length 1 (gl (csF .f32) v31.1))))), (22, (.v (.one (.lst 16 v35.1.length 1 (gl (csF .f32) v35.1))))), (24, (.v (.one (.lst 17 v37.1.length 1 (gl (csI .i64) v37.1))))), (26, (vc (.int .i64 x58))), (27, (vc (.int .i64 x57))), (215, (vc (.bool ((v37.1.getD x58.toNat default) != x57))))], [(13, (.lst v31.1.length 1 (gl (csF .f32) v31.1))), (16, (.lst v35.1.length 1 (gl (csF .f32) v35.1))), (17, (.lst v37.1.length 1 (gl (csI .i64) v37.1)))]⟩ (T4 ((Tt ∧ (decide (x58 ≥ (v37.1.length : Int))) = false) ∧ T2 ((0 ≤ x58 ∧ x58 < (v37.1.length : Int)) ∧ T4 Tt))) [.no, .no, .no, .no, .dec false] [18, 22, 24, 26, 27, 215] [13, 16, 17] ⟨tr, tr, tr, tr, ⟨tr, b65⟩, tr, tr, c66, tr, tr, tr, tr, tr⟩ ⟨rfl, rfl⟩
              refine thenQ_normal ?_
              rcases ite2_cases h with ⟨b69, h⟩ | ⟨b69, h⟩
              · refine AW.cond_t rfl b69 ?_
                refine AW.seq (AW.rA ⟨[(4, (vc (.bool false)))], []⟩ (Tt ∧ Tt) [] [4] [] ⟨tr, tr⟩ (thenQ_normal ?_))
                refine AW.ret ?_
                refine thenQ_ret ?_
                refine blockQ_ret ?_
                refine thenQ_ret ?_
                refine loopQ_ret ?_
                refine blockQ_ret ?_
                refine thenQ_ret ?_
                replace h := some_eq h
                subst h
                exact ⟨.inr rfl, retOK_of [(.one (.c (.bool false)))] (by kernel_rfl) ⟨⟨rfl, tr⟩, tr⟩ (of_decide_eq_true (by kernel_rfl))⟩
              · refine AW.cond_f rfl b69 ?_
                refine AW.skip ?_
                refine thenQ_normal ?_
                refine AW.rA ⟨[(18, (.v (.one (.lst 13 v31.1.length 1 (gl (csF .f32) v31.1))))), (22, (.v (.one (.lst 16 v35.1.length 1 (gl (csF .f32) v35.1))))), (24, (.v (.one (.lst 17 v37.1.length 1 (gl (csI .i64) v37.1))))), (26, (vc (.int .i64 (IntKind.i64.wrap (x58 + (1 : Int)))))), (27, (vc (.int .i64 x57)))], [(13, (.lst v31.1.length 1 (gl (csF .f32) v31.1))), (16, (.lst v35.1.length 1 (gl (csF .f32) v35.1))), (17, (.lst v37.1.length 1 (gl (csI .i64) v37.1)))]⟩ (Tt ∧ T2 Tt) [] [18, 22, 24, 26, 27] [13, 16, 17] ⟨tr, tr, tr, tr⟩ ?_
                refine blockQ_normal ?_
                refine thenQ_normal ?_
                refine AW.rA ⟨[(18, (.v (.one (.lst 13 v31.1.length 1 (gl (csF .f32) v31.1))))), (22, (.v (.one (.lst 16 v35.1.length 1 (gl (csF .f32) v35.1))))), (24, (.v (.one (.lst 17 v37.1.length 1 (gl (csI .i64) v37.1))))), (26, (vc (.int .i64 (IntKind.i64.wrap (x58 + (1 : Int)))))), (27, (vc (.int .i64 (IntKind.i64.wrap (x57 + (1 : Int))))))], [(13, (.lst v31.1.length 1 (gl (csF .f32) v31.1))), (16, (.lst v35.1.length 1 (gl (csF .f32) v35.1))), (17, (.lst v37.1.length 1 (gl (csI .i64) v37.1)))]⟩ (Tt ∧ T2 Tt) [] [18, 22, 24, 26, 27] [13, 16, 17] ⟨tr, tr, tr, tr⟩ ?_
                exact loopQ_normal (k, (IntKind.i64.wrap (x57 + (1 : Int))), (IntKind.i64.wrap (x58 + (1 : Int)))) h (Nat.lt_succ_self k) (Sub.keep [18, 22, 24, 26, 27] [13, 16, 17] (by kernel_rfl) (by kernel_rfl))
          · refine AW.cond_f rfl b59 ?_
            refine AW.exit ?_
            refine thenQ_exit ?_
            refine loopQ_exit ?_
            refine blockQ_exit ?_
            refine thenQ_normal ?_
            refine AW.seq (AW.rA ⟨[(4, (vc (.bool (x58 == (v37.1.length : Int)))))], []⟩ (Tt ∧ T4 Tt) [] [4] [] ⟨tr, tr, tr, tr, tr, tr⟩ (thenQ_normal ?_))
            refine AW.ret ?_
            replace h := some_eq h
            subst h
            exact ⟨.inr rfl, retOK_of [(.one (.c (.bool (x58 == (v37.1.length : Int)))))] (by kernel_rfl) ⟨⟨rfl, tr⟩, tr⟩ (of_decide_eq_true (by kernel_rfl))⟩

end
end Go.Fw
