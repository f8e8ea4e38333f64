/- Functions of the program: what each computes, and that it computes just that. -/
import Derived.Test.YtgejobicepefkaaFwTy
import Derived.Test.YtgejobicepefkaaFwH
import Derived.Test.YtgejobicepefkaaFwV
import Derived.Test.YtgejobicepefkaaFwRV1
import Derived.Test.YtgejobicepefkaaProg
import Derived.KernelRfl
namespace Go.Fw
open Go Go.Proofs
noncomputable section
set_option maxRecDepth 10000

/-! impl.PoseOfNumbers -/
def impl_PoseOfNumbers_l1 (K : Nat) (a0 : (List F32)) : Nat → Int → (List Turn) → Option (Pose × Bool)
  | 0, _, _ => none
  | k + 1, x12, x13 => ite2 ((decide (x12 < (a0.length : Int)))) (chk (0 ≤ x12 ∧ x12 < (a0.length : Int)) (chk (0 ≤ (IntKind.i64.wrap (x12 + (1 : Int))) ∧ (IntKind.i64.wrap (x12 + (1 : Int))) < (a0.length : Int)) (chk (0 ≤ (IntKind.i64.wrap (x12 + (2 : Int))) ∧ (IntKind.i64.wrap (x12 + (2 : Int))) < (a0.length : Int)) (chk (0 ≤ (IntKind.i64.wrap (x12 + (3 : Int))) ∧ (IntKind.i64.wrap (x12 + (3 : Int))) < (a0.length : Int)) (chk ((x13.length + ([(Turn.mk (a0.getD x12.toNat default) (a0.getD ((IntKind.i64.wrap (x12 + (1 : Int))).toNat) default) (a0.getD ((IntKind.i64.wrap (x12 + (2 : Int))).toNat) default) (a0.getD ((IntKind.i64.wrap (x12 + (3 : Int))).toNat) default))]).length) * 16 ≤ 140737488355328) (impl_PoseOfNumbers_l1 K a0 k (IntKind.i64.wrap (x12 + (4 : Int))) (x13 ++ ([(Turn.mk (a0.getD x12.toNat default) (a0.getD ((IntKind.i64.wrap (x12 + (1 : Int))).toNat) default) (a0.getD ((IntKind.i64.wrap (x12 + (2 : Int))).toNat) default) (a0.getD ((IntKind.i64.wrap (x12 + (3 : Int))).toNat) default))])))))))) (some ((Pose.mk (Vector.mk (a0.getD ((0 : Int).toNat) default) (a0.getD ((1 : Int).toNat) default) (a0.getD ((2 : Int).toNat) default)) x13), true))

def impl_PoseOfNumbers (K : Nat) (a0 : (List F32)) : Option (Pose × Bool) :=
  (ite2 ((decide ((a0.length : Int) < (7 : Int)))) (some true) (chk ((4 : Int) ≠ 0) (ite2 ((((IntKind.i64.wrap ((a0.length : Int) - (3 : Int))).tmod (4 : Int)) != (0 : Int))) (some true) (some (decide ((IntKind.i64.wrap ((IntKind.i64.wrap ((a0.length : Int) - (3 : Int))).tdiv (4 : Int))) > (12 : Int))))))).bind fun j4 => ite2 (j4) (some ((Pose.mk (Vector.mk (default : F32) (default : F32) (default : F32)) ([] : (List Turn))), false)) (chk (0 ≤ (0 : Int) ∧ (0 : Int) < (a0.length : Int)) (chk (0 ≤ (1 : Int) ∧ (1 : Int) < (a0.length : Int)) (chk (0 ≤ (2 : Int) ∧ (2 : Int) < (a0.length : Int)) (impl_PoseOfNumbers_l1 K a0 K (3 : Int) ([] : (List Turn))))))

theorem ok_impl_PoseOfNumbers (K : Nat) (a0 : (List F32)) (o : (Pose × Bool)) (h : impl_PoseOfNumbers K a0 = some o) : CallOK Try.prog 55 [.one (sl 1 (csF .f32) a0)] [.agg (cs_Pose o.1), .one (.bool o.2)] := by
  refine callOK_of_AW Try.func55 rfl (by kernel_rfl) (Nat.le_of_ble_eq_true (by kernel_rfl)) ?_
  intro w0
  unfold impl_PoseOfNumbers at h
  refine AW.seq ?_
  refine AW.regionA [.box 1] [0, 2] [1] (s' := ⟨[(0, (.v (.one (.c (sl 1 (csF .f32) a0))))), (2, (.v (.one (.ptr 1 0))))], [(1, (.box [(.c (.flt .f32 (default : F32).bits)), (.c (.flt .f32 (default : F32).bits)), (.c (.flt .f32 (default : F32).bits)), .nils]))]⟩) (ob := True ∧ True ∧ True) (by kernel_rfl) ⟨trivial, trivial, trivial⟩ ?_
  refine thenQ_normal ?_
  refine AW.seq ?_
  refine AW.regionA [] [0, 2, 4] [1] (s' := ⟨[(0, (.v (.one (.c (sl 1 (csF .f32) a0))))), (2, (.v (.one (.ptr 1 0)))), (4, (.v (.one (.c (.int .i64 (a0.length : Int))))))], [(1, (.box [(.c (.flt .f32 (default : F32).bits)), (.c (.flt .f32 (default : F32).bits)), (.c (.flt .f32 (default : F32).bits)), .nils]))]⟩) (ob := True ∧ True ∧ True ∧ True) (by kernel_rfl) ⟨trivial, trivial, trivial, trivial⟩ ?_
  refine thenQ_normal ?_
  refine AW.seq ?_
  refine AW.seq ?_
  obtain ⟨j4, e5, h⟩ := bind_some h
  refine AW.join1 (s2 := ⟨[(0, (.v (.one (.c (sl 1 (csF .f32) a0))))), (2, (.v (.one (.ptr 1 0)))), (4, (.v (.one (.c (.int .i64 (a0.length : Int)))))), (22, (.v (.one (.c (.bool j4)))))], [(1, (.box [(.c (.flt .f32 (default : F32).bits)), (.c (.flt .f32 (default : F32).bits)), (.c (.flt .f32 (default : F32).bits)), .nils]))]⟩) ?_ ?_
  · rcases ite2_cases e5 with ⟨b1, e5⟩ | ⟨b1, e5⟩
    · replace e5 := some_eq e5
      subst e5
      exact AW.regionA [.no, .no, .dec true] [0, 2, 4, 22] [1] (s' := ⟨[(0, (.v (.one (.c (sl 1 (csF .f32) a0))))), (2, (.v (.one (.ptr 1 0)))), (4, (.v (.one (.c (.int .i64 (a0.length : Int)))))), (22, (.v (.one (.c (.bool true)))))], [(1, (.box [(.c (.flt .f32 (default : F32).bits)), (.c (.flt .f32 (default : F32).bits)), (.c (.flt .f32 (default : F32).bits)), .nils]))]⟩) (ob := True ∧ True ∧ (True ∧ (decide ((a0.length : Int) < (7 : Int))) = true) ∧ True ∧ True ∧ True ∧ True ∧ True ∧ True ∧ True ∧ True ∧ True ∧ True ∧ True ∧ True) (by kernel_rfl) ⟨trivial, trivial, ⟨trivial, b1⟩, trivial, trivial, trivial, trivial, trivial, trivial, trivial, trivial, trivial, trivial, trivial, trivial⟩ ⟨rfl, rfl⟩
    · obtain ⟨c2, e5⟩ := chk_some e5
      rcases ite2_cases e5 with ⟨b3, e5⟩ | ⟨b3, e5⟩
      · replace e5 := some_eq e5
        subst e5
        exact AW.regionA [.no, .no, .dec false, .no, .no, .no, .no, .no, .dec true] [0, 2, 4, 22] [1] (s' := ⟨[(0, (.v (.one (.c (sl 1 (csF .f32) a0))))), (2, (.v (.one (.ptr 1 0)))), (4, (.v (.one (.c (.int .i64 (a0.length : Int)))))), (22, (.v (.one (.c (.bool true)))))], [(1, (.box [(.c (.flt .f32 (default : F32).bits)), (.c (.flt .f32 (default : F32).bits)), (.c (.flt .f32 (default : F32).bits)), .nils]))]⟩) (ob := True ∧ True ∧ (True ∧ (decide ((a0.length : Int) < (7 : Int))) = false) ∧ True ∧ True ∧ ((4 : Int) ≠ 0) ∧ True ∧ True ∧ (True ∧ (((IntKind.i64.wrap ((a0.length : Int) - (3 : Int))).tmod (4 : Int)) != (0 : Int)) = true) ∧ True ∧ True ∧ True ∧ True ∧ True ∧ True) (by kernel_rfl) ⟨trivial, trivial, ⟨trivial, b1⟩, trivial, trivial, c2, trivial, trivial, ⟨trivial, b3⟩, trivial, trivial, trivial, trivial, trivial, trivial⟩ ⟨rfl, rfl⟩
      · replace e5 := some_eq e5
        subst e5
        exact AW.regionA [.no, .no, .dec false, .no, .no, .no, .no, .no, .dec false] [0, 2, 4, 22] [1] (s' := ⟨[(0, (.v (.one (.c (sl 1 (csF .f32) a0))))), (2, (.v (.one (.ptr 1 0)))), (4, (.v (.one (.c (.int .i64 (a0.length : Int)))))), (22, (.v (.one (.c (.bool (decide ((IntKind.i64.wrap ((IntKind.i64.wrap ((a0.length : Int) - (3 : Int))).tdiv (4 : Int))) > (12 : Int))))))))], [(1, (.box [(.c (.flt .f32 (default : F32).bits)), (.c (.flt .f32 (default : F32).bits)), (.c (.flt .f32 (default : F32).bits)), .nils]))]⟩) (ob := True ∧ True ∧ (True ∧ (decide ((a0.length : Int) < (7 : Int))) = false) ∧ True ∧ True ∧ ((4 : Int) ≠ 0) ∧ True ∧ True ∧ (True ∧ (((IntKind.i64.wrap ((a0.length : Int) - (3 : Int))).tmod (4 : Int)) != (0 : Int)) = false) ∧ True ∧ True ∧ ((4 : Int) ≠ 0) ∧ True ∧ True ∧ True) (by kernel_rfl) ⟨trivial, trivial, ⟨trivial, b1⟩, trivial, trivial, c2, trivial, trivial, ⟨trivial, b3⟩, trivial, trivial, c2, trivial, trivial, trivial⟩ ⟨rfl, rfl⟩
  refine thenQ_normal ?_
  rcases ite2_cases h with ⟨b6, h⟩ | ⟨b6, h⟩
  · refine AW.cond_t rfl b6 ?_
    refine AW.seq ?_
    refine AW.regionA [] [2, 3] [1] (s' := ⟨[(2, (.v (.one (.ptr 1 0)))), (3, (.v (.one (.c (.bool false)))))], [(1, (.box [(.c (.flt .f32 (default : F32).bits)), (.c (.flt .f32 (default : F32).bits)), (.c (.flt .f32 (default : F32).bits)), .nils]))]⟩) (ob := True ∧ True ∧ True ∧ True) (by kernel_rfl) ⟨trivial, trivial, trivial, trivial⟩ ?_
    refine thenQ_normal ?_
    refine AW.ret ?_
    refine thenQ_ret ?_
    replace h := some_eq h
    subst h
    exact ⟨.inr rfl, retOK_of [(.agg [(.c (.flt .f32 (default : F32).bits)), (.c (.flt .f32 (default : F32).bits)), (.c (.flt .f32 (default : F32).bits)), .nils]), (.one (.c (.bool false)))] (by kernel_rfl) ⟨⟨⟨rfl, trivial⟩, ⟨rfl, trivial⟩, ⟨rfl, trivial⟩, rfl, trivial⟩, ⟨rfl, trivial⟩, trivial⟩ (of_decide_eq_true (by kernel_rfl))⟩
  · refine AW.cond_f rfl b6 ?_
    refine AW.skip ?_
    refine thenQ_normal ?_
    refine AW.seq ?_
    obtain ⟨c7, h⟩ := chk_some h
    obtain ⟨c8, h⟩ := chk_some h
    obtain ⟨c9, h⟩ := chk_some h
    refine AW.drawnA (by kernel_rfl) 12 [.no, .no, .no, .no, .no, .no, .no, .no, .no, .no, .no, .box 2] [0, 2, 4, 5] [1, 2] (s' := ⟨[(0, (.v (.one (.c (sl 1 (csF .f32) a0))))), (2, (.v (.one (.ptr 1 0)))), (4, (.v (.one (.c (.int .i64 (a0.length : Int)))))), (5, (.v (.one (.ptr 2 0))))], [(1, (.box [(.c (.flt .f32 (default : F32).bits)), (.c (.flt .f32 (default : F32).bits)), (.c (.flt .f32 (default : F32).bits)), .nils])), (2, (.box [(.c (.flt .f32 (a0.getD ((0 : Int).toNat) default).bits)), (.c (.flt .f32 (a0.getD ((1 : Int).toNat) default).bits)), (.c (.flt .f32 (a0.getD ((2 : Int).toNat) default).bits)), .nils]))]⟩) (ob := (True ∧ (0 ≤ (0 : Int) ∧ (0 : Int) < (a0.length : Int)) ∧ True ∧ True ∧ (0 ≤ (1 : Int) ∧ (1 : Int) < (a0.length : Int)) ∧ True ∧ True ∧ (0 ≤ (2 : Int) ∧ (2 : Int) < (a0.length : Int)) ∧ True ∧ True ∧ True ∧ True ∧ True) ∧ (True ∧ True)) (by kernel_rfl) ⟨⟨trivial, c7, trivial, trivial, c8, trivial, trivial, c9, trivial, trivial, trivial, trivial, trivial⟩, ⟨trivial, trivial⟩⟩ ?_
    refine thenQ_normal ?_
    refine AW.seq ?_
    refine AW.seq ?_
    refine AW.regionA [] [0, 2, 4, 5, 6] [1, 2] (s' := ⟨[(0, (.v (.one (.c (sl 1 (csF .f32) a0))))), (2, (.v (.one (.ptr 1 0)))), (4, (.v (.one (.c (.int .i64 (a0.length : Int)))))), (5, (.v (.one (.ptr 2 0)))), (6, (.v (.one (.c (.int .i64 (3 : Int))))))], [(1, (.box [(.c (.flt .f32 (default : F32).bits)), (.c (.flt .f32 (default : F32).bits)), (.c (.flt .f32 (default : F32).bits)), .nils])), (2, (.box [(.c (.flt .f32 (a0.getD ((0 : Int).toNat) default).bits)), (.c (.flt .f32 (a0.getD ((1 : Int).toNat) default).bits)), (.c (.flt .f32 (a0.getD ((2 : Int).toNat) default).bits)), .nils]))]⟩) (ob := True ∧ True) (by kernel_rfl) ⟨trivial, trivial⟩ ?_
    refine thenQ_normal ?_
    refine AW.block ?_
    refine AW.weak (s' := ⟨[(0, (.v (.one (.c (sl 1 (csF .f32) a0))))), (2, (.v (.one (.ptr 1 0)))), (4, (.v (.one (.c (.int .i64 (a0.length : Int)))))), (5, (.v (.one (.ptr 2 0)))), (6, (.v (.one (.c (.int .i64 (3 : Int))))))], [(1, (.box [(.c (.flt .f32 (default : F32).bits)), (.c (.flt .f32 (default : F32).bits)), (.c (.flt .f32 (default : F32).bits)), .nils])), (2, (.box [(.c (.flt .f32 (a0.getD ((0 : Int).toNat) default).bits)), (.c (.flt .f32 (a0.getD ((1 : Int).toNat) default).bits)), (.c (.flt .f32 (a0.getD ((2 : Int).toNat) default).bits)), (.lst 5 ([] : (List Turn)).length 4 (gl cs_Turn ([] : (List Turn))))])), (5, (.lst ([] : (List Turn)).length 4 (gl cs_Turn ([] : (List Turn)))))]⟩) (Sub.trans (Sub.unnil 5 4 (gl cs_Turn ([] : (List Turn))) [] [(2, 3)] _ (by kernel_rfl) (by kernel_rfl)) (Sub.keep [0, 2, 4, 5, 6] [1, 2, 5] (by kernel_rfl) (by kernel_rfl))) ?_
    refine AW.loopQ (σ := Nat × Int × (List Turn)) (fun p => ⟨[(0, (.v (.one (.c (sl 1 (csF .f32) a0))))), (2, (.v (.one (.ptr 1 0)))), (4, (.v (.one (.c (.int .i64 (a0.length : Int)))))), (5, (.v (.one (.ptr 2 0)))), (6, (.v (.one (.c (.int .i64 p.2.1)))))], [(1, (.box [(.c (.flt .f32 (default : F32).bits)), (.c (.flt .f32 (default : F32).bits)), (.c (.flt .f32 (default : F32).bits)), .nils])), (2, (.box [(.c (.flt .f32 (a0.getD ((0 : Int).toNat) default).bits)), (.c (.flt .f32 (a0.getD ((1 : Int).toNat) default).bits)), (.c (.flt .f32 (a0.getD ((2 : Int).toNat) default).bits)), (.lst 5 p.2.2.length 4 (gl cs_Turn p.2.2))])), (5, (.lst p.2.2.length 4 (gl cs_Turn p.2.2)))]⟩) (fun p => impl_PoseOfNumbers_l1 K a0 p.1 p.2.1 p.2.2 = some o) (fun p => p.1) (K, (3 : Int), ([] : (List Turn))) h ?_
    clear h
    rintro ⟨k, x12, x13⟩ h
    replace h : impl_PoseOfNumbers_l1 K a0 k x12 x13 = some o := h
    show AW _ _ (⟨[(0, (.v (.one (.c (sl 1 (csF .f32) a0))))), (2, (.v (.one (.ptr 1 0)))), (4, (.v (.one (.c (.int .i64 (a0.length : Int)))))), (5, (.v (.one (.ptr 2 0)))), (6, (.v (.one (.c (.int .i64 x12)))))], [(1, (.box [(.c (.flt .f32 (default : F32).bits)), (.c (.flt .f32 (default : F32).bits)), (.c (.flt .f32 (default : F32).bits)), .nils])), (2, (.box [(.c (.flt .f32 (a0.getD ((0 : Int).toNat) default).bits)), (.c (.flt .f32 (a0.getD ((1 : Int).toNat) default).bits)), (.c (.flt .f32 (a0.getD ((2 : Int).toNat) default).bits)), (.lst 5 x13.length 4 (gl cs_Turn x13))])), (5, (.lst x13.length 4 (gl cs_Turn x13)))]⟩ : St) _
    obtain _ | k := k
    · rw [impl_PoseOfNumbers_l1] at h; cases h
    rw [impl_PoseOfNumbers_l1] at h
    refine AW.seq ?_
    refine AW.seq ?_
    refine AW.regionA [] [0, 2, 4, 5, 6, 37] [1, 2, 5] (s' := ⟨[(0, (.v (.one (.c (sl 1 (csF .f32) a0))))), (2, (.v (.one (.ptr 1 0)))), (4, (.v (.one (.c (.int .i64 (a0.length : Int)))))), (5, (.v (.one (.ptr 2 0)))), (6, (.v (.one (.c (.int .i64 x12))))), (37, (.v (.one (.c (.bool (decide (x12 < (a0.length : Int))))))))], [(1, (.box [(.c (.flt .f32 (default : F32).bits)), (.c (.flt .f32 (default : F32).bits)), (.c (.flt .f32 (default : F32).bits)), .nils])), (2, (.box [(.c (.flt .f32 (a0.getD ((0 : Int).toNat) default).bits)), (.c (.flt .f32 (a0.getD ((1 : Int).toNat) default).bits)), (.c (.flt .f32 (a0.getD ((2 : Int).toNat) default).bits)), (.lst 5 x13.length 4 (gl cs_Turn x13))])), (5, (.lst x13.length 4 (gl cs_Turn x13)))]⟩) (ob := True ∧ True ∧ True ∧ True) (by kernel_rfl) ⟨trivial, trivial, trivial, trivial⟩ ?_
    refine thenQ_normal ?_
    rcases ite2_cases h with ⟨b14, h⟩ | ⟨b14, h⟩
    · refine AW.cond_t rfl b14 ?_
      refine AW.skip ?_
      refine thenQ_normal ?_
      refine AW.seq ?_
      refine AW.block ?_
      obtain ⟨c15, h⟩ := chk_some h
      obtain ⟨c16, h⟩ := chk_some h
      obtain ⟨c17, h⟩ := chk_some h
      obtain ⟨c18, h⟩ := chk_some h
      obtain ⟨c19, h⟩ := chk_some h
      refine AW.drawnA (by kernel_rfl) 25 [.no, .no, .no, .no, .no, .no, .no, .no, .no, .no, .no, .no, .no, .no, .no, .no, .no, .no, .no, .no, .no, .no, .obj 10 ([(Turn.mk (a0.getD x12.toNat default) (a0.getD ((IntKind.i64.wrap (x12 + (1 : Int))).toNat) default) (a0.getD ((IntKind.i64.wrap (x12 + (2 : Int))).toNat) default) (a0.getD ((IntKind.i64.wrap (x12 + (3 : Int))).toNat) default))]).length (gl cs_Turn ([(Turn.mk (a0.getD x12.toNat default) (a0.getD ((IntKind.i64.wrap (x12 + (1 : Int))).toNat) default) (a0.getD ((IntKind.i64.wrap (x12 + (2 : Int))).toNat) default) (a0.getD ((IntKind.i64.wrap (x12 + (3 : Int))).toNat) default))])), .objK 11 (x13 ++ ([(Turn.mk (a0.getD x12.toNat default) (a0.getD ((IntKind.i64.wrap (x12 + (1 : Int))).toNat) default) (a0.getD ((IntKind.i64.wrap (x12 + (2 : Int))).toNat) default) (a0.getD ((IntKind.i64.wrap (x12 + (3 : Int))).toNat) default))])).length (gl cs_Turn (x13 ++ ([(Turn.mk (a0.getD x12.toNat default) (a0.getD ((IntKind.i64.wrap (x12 + (1 : Int))).toNat) default) (a0.getD ((IntKind.i64.wrap (x12 + (2 : Int))).toNat) default) (a0.getD ((IntKind.i64.wrap (x12 + (3 : Int))).toNat) default))])))] [0, 2, 4, 5, 6] [1, 2, 11] (s' := ⟨[(0, (.v (.one (.c (sl 1 (csF .f32) a0))))), (2, (.v (.one (.ptr 1 0)))), (4, (.v (.one (.c (.int .i64 (a0.length : Int)))))), (5, (.v (.one (.ptr 2 0)))), (6, (.v (.one (.c (.int .i64 x12)))))], [(1, (.box [(.c (.flt .f32 (default : F32).bits)), (.c (.flt .f32 (default : F32).bits)), (.c (.flt .f32 (default : F32).bits)), .nils])), (2, (.box [(.c (.flt .f32 (a0.getD ((0 : Int).toNat) default).bits)), (.c (.flt .f32 (a0.getD ((1 : Int).toNat) default).bits)), (.c (.flt .f32 (a0.getD ((2 : Int).toNat) default).bits)), (.lst 11 (x13 ++ ([(Turn.mk (a0.getD x12.toNat default) (a0.getD ((IntKind.i64.wrap (x12 + (1 : Int))).toNat) default) (a0.getD ((IntKind.i64.wrap (x12 + (2 : Int))).toNat) default) (a0.getD ((IntKind.i64.wrap (x12 + (3 : Int))).toNat) default))])).length 4 (gl cs_Turn (x13 ++ ([(Turn.mk (a0.getD x12.toNat default) (a0.getD ((IntKind.i64.wrap (x12 + (1 : Int))).toNat) default) (a0.getD ((IntKind.i64.wrap (x12 + (2 : Int))).toNat) default) (a0.getD ((IntKind.i64.wrap (x12 + (3 : Int))).toNat) default))]))))])), (11, (.lst (x13 ++ ([(Turn.mk (a0.getD x12.toNat default) (a0.getD ((IntKind.i64.wrap (x12 + (1 : Int))).toNat) default) (a0.getD ((IntKind.i64.wrap (x12 + (2 : Int))).toNat) default) (a0.getD ((IntKind.i64.wrap (x12 + (3 : Int))).toNat) default))])).length 4 (gl cs_Turn (x13 ++ ([(Turn.mk (a0.getD x12.toNat default) (a0.getD ((IntKind.i64.wrap (x12 + (1 : Int))).toNat) default) (a0.getD ((IntKind.i64.wrap (x12 + (2 : Int))).toNat) default) (a0.getD ((IntKind.i64.wrap (x12 + (3 : Int))).toNat) default))])))))]⟩) (ob := (True ∧ True ∧ True ∧ True ∧ (0 ≤ x12 ∧ x12 < (a0.length : Int)) ∧ True ∧ True ∧ True ∧ True ∧ (0 ≤ (IntKind.i64.wrap (x12 + (1 : Int))) ∧ (IntKind.i64.wrap (x12 + (1 : Int))) < (a0.length : Int)) ∧ True ∧ True ∧ True ∧ True ∧ (0 ≤ (IntKind.i64.wrap (x12 + (2 : Int))) ∧ (IntKind.i64.wrap (x12 + (2 : Int))) < (a0.length : Int)) ∧ True ∧ True ∧ True ∧ True ∧ (0 ≤ (IntKind.i64.wrap (x12 + (3 : Int))) ∧ (IntKind.i64.wrap (x12 + (3 : Int))) < (a0.length : Int)) ∧ True ∧ True ∧ (([(Turn.mk (a0.getD x12.toNat default) (a0.getD ((IntKind.i64.wrap (x12 + (1 : Int))).toNat) default) (a0.getD ((IntKind.i64.wrap (x12 + (2 : Int))).toNat) default) (a0.getD ((IntKind.i64.wrap (x12 + (3 : Int))).toNat) default))]).length = 1 ∧ (((.flt .f32 (a0.getD x12.toNat default).bits) : C) = (.flt .f32 (a0.getD x12.toNat default).bits) ∧ True) ∧ (((.flt .f32 (a0.getD ((IntKind.i64.wrap (x12 + (1 : Int))).toNat) default).bits) : C) = (.flt .f32 (a0.getD ((IntKind.i64.wrap (x12 + (1 : Int))).toNat) default).bits) ∧ True) ∧ (((.flt .f32 (a0.getD ((IntKind.i64.wrap (x12 + (2 : Int))).toNat) default).bits) : C) = (.flt .f32 (a0.getD ((IntKind.i64.wrap (x12 + (2 : Int))).toNat) default).bits) ∧ True) ∧ (((.flt .f32 (a0.getD ((IntKind.i64.wrap (x12 + (3 : Int))).toNat) default).bits) : C) = (.flt .f32 (a0.getD ((IntKind.i64.wrap (x12 + (3 : Int))).toNat) default).bits) ∧ True) ∧ True) ∧ ((x13 ++ ([(Turn.mk (a0.getD x12.toNat default) (a0.getD ((IntKind.i64.wrap (x12 + (1 : Int))).toNat) default) (a0.getD ((IntKind.i64.wrap (x12 + (2 : Int))).toNat) default) (a0.getD ((IntKind.i64.wrap (x12 + (3 : Int))).toNat) default))])).length = x13.length + ([(Turn.mk (a0.getD x12.toNat default) (a0.getD ((IntKind.i64.wrap (x12 + (1 : Int))).toNat) default) (a0.getD ((IntKind.i64.wrap (x12 + (2 : Int))).toNat) default) (a0.getD ((IntKind.i64.wrap (x12 + (3 : Int))).toNat) default))]).length ∧ AppOb (x13.length) (([(Turn.mk (a0.getD x12.toNat default) (a0.getD ((IntKind.i64.wrap (x12 + (1 : Int))).toNat) default) (a0.getD ((IntKind.i64.wrap (x12 + (2 : Int))).toNat) default) (a0.getD ((IntKind.i64.wrap (x12 + (3 : Int))).toNat) default))]).length) 4 (gl cs_Turn x13) (gl cs_Turn ([(Turn.mk (a0.getD x12.toNat default) (a0.getD ((IntKind.i64.wrap (x12 + (1 : Int))).toNat) default) (a0.getD ((IntKind.i64.wrap (x12 + (2 : Int))).toNat) default) (a0.getD ((IntKind.i64.wrap (x12 + (3 : Int))).toNat) default))])) (gl cs_Turn (x13 ++ ([(Turn.mk (a0.getD x12.toNat default) (a0.getD ((IntKind.i64.wrap (x12 + (1 : Int))).toNat) default) (a0.getD ((IntKind.i64.wrap (x12 + (2 : Int))).toNat) default) (a0.getD ((IntKind.i64.wrap (x12 + (3 : Int))).toNat) default))]))) ∧ (∀ i j, i < ([(Turn.mk (a0.getD x12.toNat default) (a0.getD ((IntKind.i64.wrap (x12 + (1 : Int))).toNat) default) (a0.getD ((IntKind.i64.wrap (x12 + (2 : Int))).toNat) default) (a0.getD ((IntKind.i64.wrap (x12 + (3 : Int))).toNat) default))]).length → j < 4 → scalarC (gl cs_Turn ([(Turn.mk (a0.getD x12.toNat default) (a0.getD ((IntKind.i64.wrap (x12 + (1 : Int))).toNat) default) (a0.getD ((IntKind.i64.wrap (x12 + (2 : Int))).toNat) default) (a0.getD ((IntKind.i64.wrap (x12 + (3 : Int))).toNat) default))]) i j)) ∧ (x13.length + ([(Turn.mk (a0.getD x12.toNat default) (a0.getD ((IntKind.i64.wrap (x12 + (1 : Int))).toNat) default) (a0.getD ((IntKind.i64.wrap (x12 + (2 : Int))).toNat) default) (a0.getD ((IntKind.i64.wrap (x12 + (3 : Int))).toNat) default))]).length) * 16 ≤ 140737488355328) ∧ True ∧ True) ∧ (True ∧ True)) (by kernel_rfl) ⟨⟨trivial, trivial, trivial, trivial, c15, trivial, trivial, trivial, trivial, c16, trivial, trivial, trivial, trivial, c17, trivial, trivial, trivial, trivial, c18, trivial, trivial, ⟨rfl, ⟨⟨rfl, trivial⟩, ⟨rfl, trivial⟩, ⟨rfl, trivial⟩, ⟨rfl, trivial⟩, trivial⟩⟩, ⟨List.length_append, gl_append, gl_scalar sc_Turn _, c19⟩, trivial, trivial⟩, ⟨trivial, trivial⟩⟩ ?_
      refine blockQ_normal ?_
      refine thenQ_normal ?_
      refine AW.regionA [] [0, 2, 4, 5, 6] [1, 2, 11] (s' := ⟨[(0, (.v (.one (.c (sl 1 (csF .f32) a0))))), (2, (.v (.one (.ptr 1 0)))), (4, (.v (.one (.c (.int .i64 (a0.length : Int)))))), (5, (.v (.one (.ptr 2 0)))), (6, (.v (.one (.c (.int .i64 (IntKind.i64.wrap (x12 + (4 : Int))))))))], [(1, (.box [(.c (.flt .f32 (default : F32).bits)), (.c (.flt .f32 (default : F32).bits)), (.c (.flt .f32 (default : F32).bits)), .nils])), (2, (.box [(.c (.flt .f32 (a0.getD ((0 : Int).toNat) default).bits)), (.c (.flt .f32 (a0.getD ((1 : Int).toNat) default).bits)), (.c (.flt .f32 (a0.getD ((2 : Int).toNat) default).bits)), (.lst 11 (x13 ++ ([(Turn.mk (a0.getD x12.toNat default) (a0.getD ((IntKind.i64.wrap (x12 + (1 : Int))).toNat) default) (a0.getD ((IntKind.i64.wrap (x12 + (2 : Int))).toNat) default) (a0.getD ((IntKind.i64.wrap (x12 + (3 : Int))).toNat) default))])).length 4 (gl cs_Turn (x13 ++ ([(Turn.mk (a0.getD x12.toNat default) (a0.getD ((IntKind.i64.wrap (x12 + (1 : Int))).toNat) default) (a0.getD ((IntKind.i64.wrap (x12 + (2 : Int))).toNat) default) (a0.getD ((IntKind.i64.wrap (x12 + (3 : Int))).toNat) default))]))))])), (11, (.lst (x13 ++ ([(Turn.mk (a0.getD x12.toNat default) (a0.getD ((IntKind.i64.wrap (x12 + (1 : Int))).toNat) default) (a0.getD ((IntKind.i64.wrap (x12 + (2 : Int))).toNat) default) (a0.getD ((IntKind.i64.wrap (x12 + (3 : Int))).toNat) default))])).length 4 (gl cs_Turn (x13 ++ ([(Turn.mk (a0.getD x12.toNat default) (a0.getD ((IntKind.i64.wrap (x12 + (1 : Int))).toNat) default) (a0.getD ((IntKind.i64.wrap (x12 + (2 : Int))).toNat) default) (a0.getD ((IntKind.i64.wrap (x12 + (3 : Int))).toNat) default))])))))]⟩) (ob := True ∧ True ∧ True ∧ True) (by kernel_rfl) ⟨trivial, trivial, trivial, trivial⟩ ?_
      exact loopQ_normal (k, (IntKind.i64.wrap (x12 + (4 : Int))), (x13 ++ ([(Turn.mk (a0.getD x12.toNat default) (a0.getD ((IntKind.i64.wrap (x12 + (1 : Int))).toNat) default) (a0.getD ((IntKind.i64.wrap (x12 + (2 : Int))).toNat) default) (a0.getD ((IntKind.i64.wrap (x12 + (3 : Int))).toNat) default))]))) h (Nat.lt_succ_self k) (Sub.trans (Sub.swap 5 11 _ (by kernel_rfl) (by kernel_rfl)) (Sub.keep [0, 2, 4, 5, 6] [1, 2, 5] (by kernel_rfl) (by kernel_rfl)))
    · refine AW.cond_f rfl b14 ?_
      refine AW.exit ?_
      refine thenQ_exit ?_
      refine loopQ_exit ?_
      refine blockQ_exit ?_
      refine thenQ_normal ?_
      refine AW.seq ?_
      refine AW.regionA [] [2, 3] [1, 5] (s' := ⟨[(2, (.v (.one (.ptr 1 0)))), (3, (.v (.one (.c (.bool true)))))], [(1, (.box [(.c (.flt .f32 (a0.getD ((0 : Int).toNat) default).bits)), (.c (.flt .f32 (a0.getD ((1 : Int).toNat) default).bits)), (.c (.flt .f32 (a0.getD ((2 : Int).toNat) default).bits)), (.lst 5 x13.length 4 (gl cs_Turn x13))])), (5, (.lst x13.length 4 (gl cs_Turn x13)))]⟩) (ob := True ∧ True ∧ True ∧ True) (by kernel_rfl) ⟨trivial, trivial, trivial, trivial⟩ ?_
      refine thenQ_normal ?_
      refine AW.ret ?_
      replace h := some_eq h
      subst h
      exact ⟨.inr rfl, retOK_of [(.agg [(.c (.flt .f32 (a0.getD ((0 : Int).toNat) default).bits)), (.c (.flt .f32 (a0.getD ((1 : Int).toNat) default).bits)), (.c (.flt .f32 (a0.getD ((2 : Int).toNat) default).bits)), (.lst 5 x13.length 4 (gl cs_Turn x13))]), (.one (.c (.bool true)))] (by kernel_rfl) ⟨⟨⟨rfl, trivial⟩, ⟨rfl, trivial⟩, ⟨rfl, trivial⟩, rfl, trivial⟩, ⟨rfl, trivial⟩, trivial⟩ (of_decide_eq_true (by kernel_rfl))⟩

/-! impl.RecoverRecording -/
def impl_RecoverRecording_l1 (K : Nat) (a0 : ByteArray) : Nat → Int → (List F32) → (List Pose) → Option (Recording × Int × Bool)
  | 0, _, _, _ => none
  | k + 1, x16, x17, x18 => ite2 ((decide ((x18.length : Int) < (64 : Int)))) ((impl_next K a0 x16 x17).bind fun v20 => ite2 ((!v20.2.2)) (some ((Recording.mk (IntKind.i64.wrap (bt a0 (IntKind.i64.wrap ((5 : Int) - (1 : Int))).toNat)) x18), x16, true)) ((impl_PoseOfNumbers K v20.1).bind fun v23 => chk ((x18.length + ([v23.1]).length) * 40 ≤ 140737488355328) (impl_RecoverRecording_l1 K a0 k v20.2.1 v20.1 (x18 ++ ([v23.1]))))) (some ((Recording.mk (IntKind.i64.wrap (bt a0 (IntKind.i64.wrap ((5 : Int) - (1 : Int))).toNat)) x18), x16, true))

def impl_RecoverRecording (K : Nat) (a0 : ByteArray) : Option (Recording × Int × Bool) :=
  (ite2 ((decide ((a0.size : Int) < (5 : Int)))) (some true) (chk (0 ≤ (0 : Int) ∧ (0 : Int) ≤ (4 : Int) ∧ (4 : Int) ≤ (a0.size : Int)) (ite2 ((!((a0.extract (0 : Int).toNat (4 : Int).toNat).toList == (ByteArray.mk #[83, 75, 82, 49]).toList))) (some true) (chk (0 ≤ (IntKind.i64.wrap ((5 : Int) - (1 : Int))) ∧ (IntKind.i64.wrap ((5 : Int) - (1 : Int))) < (a0.size : Int)) ((impl_isCount K (IntKind.i64.wrap (bt a0 (IntKind.i64.wrap ((5 : Int) - (1 : Int))).toNat))).bind fun v5 => some (!v5)))))).bind fun j7 => ite2 (j7) (some ((Recording.mk (0 : Int) ([] : (List Pose))), (0 : Int), false)) (chk (0 ≤ (IntKind.i64.wrap ((5 : Int) - (1 : Int))) ∧ (IntKind.i64.wrap ((5 : Int) - (1 : Int))) < (a0.size : Int)) ((impl_none K (IntKind.i64.wrap (bt a0 (IntKind.i64.wrap ((5 : Int) - (1 : Int))).toNat))).bind fun v11 => impl_RecoverRecording_l1 K a0 K (5 : Int) v11 ([] : (List Pose))))

theorem ok_impl_RecoverRecording (K : Nat) (a0 : ByteArray) (o : (Recording × Int × Bool)) (h : impl_RecoverRecording K a0 = some o) : CallOK Try.prog 41 [.one (.str a0)] [.agg (cs_Recording o.1), .one (.int .i64 o.2.1), .one (.bool o.2.2)] := by
  refine callOK_of_AW Try.func41 rfl (by kernel_rfl) (Nat.le_of_ble_eq_true (by kernel_rfl)) ?_
  intro w0
  unfold impl_RecoverRecording at h
  refine AW.seq ?_
  refine AW.regionA [.box 1] [0, 2] [1] (s' := ⟨[(0, (.v (.one (.c (.str a0))))), (2, (.v (.one (.ptr 1 0))))], [(1, (.box [(.c (.int .i64 (0 : Int))), .nils]))]⟩) (ob := True ∧ True ∧ True ∧ True) (by kernel_rfl) ⟨trivial, trivial, trivial, trivial⟩ ?_
  refine thenQ_normal ?_
  refine AW.seq ?_
  refine AW.regionA [] [0, 2, 5] [1] (s' := ⟨[(0, (.v (.one (.c (.str a0))))), (2, (.v (.one (.ptr 1 0)))), (5, (.v (.one (.c (.int .i64 (5 : Int))))))], [(1, (.box [(.c (.int .i64 (0 : Int))), .nils]))]⟩) (ob := True ∧ True) (by kernel_rfl) ⟨trivial, trivial⟩ ?_
  refine thenQ_normal ?_
  refine AW.seq ?_
  refine AW.seq ?_
  obtain ⟨j7, e8, h⟩ := bind_some h
  refine AW.join1 (s2 := ⟨[(0, (.v (.one (.c (.str a0))))), (2, (.v (.one (.ptr 1 0)))), (5, (.v (.one (.c (.int .i64 (5 : Int)))))), (30, (.v (.one (.c (.bool j7)))))], [(1, (.box [(.c (.int .i64 (0 : Int))), .nils]))]⟩) ?_ ?_
  · rcases ite2_cases e8 with ⟨b1, e8⟩ | ⟨b1, e8⟩
    · replace e8 := some_eq e8
      subst e8
      exact AW.regionA [.no, .no, .no, .no, .dec true] [0, 2, 5, 30] [1] (s' := ⟨[(0, (.v (.one (.c (.str a0))))), (2, (.v (.one (.ptr 1 0)))), (5, (.v (.one (.c (.int .i64 (5 : Int)))))), (30, (.v (.one (.c (.bool true)))))], [(1, (.box [(.c (.int .i64 (0 : Int))), .nils]))]⟩) (ob := True ∧ True ∧ True ∧ True ∧ (True ∧ (decide ((a0.size : Int) < (5 : Int))) = true) ∧ True ∧ True ∧ True ∧ True ∧ True ∧ True ∧ True ∧ True ∧ True ∧ True ∧ True ∧ True ∧ True ∧ True) (by kernel_rfl) ⟨trivial, trivial, trivial, trivial, ⟨trivial, b1⟩, trivial, trivial, trivial, trivial, trivial, trivial, trivial, trivial, trivial, trivial, trivial, trivial, trivial, trivial⟩ ⟨rfl, rfl⟩
    · obtain ⟨c2, e8⟩ := chk_some e8
      rcases ite2_cases e8 with ⟨b3, e8⟩ | ⟨b3, e8⟩
      · replace e8 := some_eq e8
        subst e8
        exact AW.regionA [.no, .no, .no, .no, .dec false, .no, .no, .no, .no, .dec true] [0, 2, 5, 30] [1] (s' := ⟨[(0, (.v (.one (.c (.str a0))))), (2, (.v (.one (.ptr 1 0)))), (5, (.v (.one (.c (.int .i64 (5 : Int)))))), (30, (.v (.one (.c (.bool true)))))], [(1, (.box [(.c (.int .i64 (0 : Int))), .nils]))]⟩) (ob := True ∧ True ∧ True ∧ True ∧ (True ∧ (decide ((a0.size : Int) < (5 : Int))) = false) ∧ True ∧ (0 ≤ (0 : Int) ∧ (0 : Int) ≤ (4 : Int) ∧ (4 : Int) ≤ (a0.size : Int)) ∧ True ∧ True ∧ (True ∧ (!((a0.extract (0 : Int).toNat (4 : Int).toNat).toList == (ByteArray.mk #[83, 75, 82, 49]).toList)) = true) ∧ True ∧ True ∧ True ∧ True ∧ True ∧ True ∧ True ∧ True ∧ True) (by kernel_rfl) ⟨trivial, trivial, trivial, trivial, ⟨trivial, b1⟩, trivial, c2, trivial, trivial, ⟨trivial, b3⟩, trivial, trivial, trivial, trivial, trivial, trivial, trivial, trivial, trivial⟩ ⟨rfl, rfl⟩
      · obtain ⟨c4, e8⟩ := chk_some e8
        obtain ⟨v5, e6, e8⟩ := bind_some e8
        replace e8 := some_eq e8
        subst e8
        exact AW.regionA [.no, .no, .no, .no, .dec false, .no, .no, .no, .no, .dec false, .no, .no, .no, .no, .no, .call [.one (.int .i64 (IntKind.i64.wrap (bt a0 (IntKind.i64.wrap ((5 : Int) - (1 : Int))).toNat)))] [.one (.bool v5)] [[.view]]] [0, 2, 5, 30] [1] (s' := ⟨[(0, (.v (.one (.c (.str a0))))), (2, (.v (.one (.ptr 1 0)))), (5, (.v (.one (.c (.int .i64 (5 : Int)))))), (30, (.v (.one (.c (.bool (!v5))))))], [(1, (.box [(.c (.int .i64 (0 : Int))), .nils]))]⟩) (ob := True ∧ True ∧ True ∧ True ∧ (True ∧ (decide ((a0.size : Int) < (5 : Int))) = false) ∧ True ∧ (0 ≤ (0 : Int) ∧ (0 : Int) ≤ (4 : Int) ∧ (4 : Int) ≤ (a0.size : Int)) ∧ True ∧ True ∧ (True ∧ (!((a0.extract (0 : Int).toNat (4 : Int).toNat).toList == (ByteArray.mk #[83, 75, 82, 49]).toList)) = false) ∧ True ∧ True ∧ True ∧ (0 ≤ (IntKind.i64.wrap ((5 : Int) - (1 : Int))) ∧ (IntKind.i64.wrap ((5 : Int) - (1 : Int))) < (a0.size : Int)) ∧ True ∧ (((((.int .i64 (IntKind.i64.wrap (bt a0 (IntKind.i64.wrap ((5 : Int) - (1 : Int))).toNat))) : C) = (.int .i64 (IntKind.i64.wrap (bt a0 (IntKind.i64.wrap ((5 : Int) - (1 : Int))).toNat)))) ∧ True) ∧ CallOK Try.prog 94 [.one (.int .i64 (IntKind.i64.wrap (bt a0 (IntKind.i64.wrap ((5 : Int) - (1 : Int))).toNat)))] [.one (.bool v5)]) ∧ True ∧ True ∧ True) (by kernel_rfl) ⟨trivial, trivial, trivial, trivial, ⟨trivial, b1⟩, trivial, c2, trivial, trivial, ⟨trivial, b3⟩, trivial, trivial, trivial, c4, trivial, ⟨⟨rfl, trivial⟩, ok_impl_isCount K (IntKind.i64.wrap (bt a0 (IntKind.i64.wrap ((5 : Int) - (1 : Int))).toNat)) v5 e6⟩, trivial, trivial, trivial⟩ ⟨rfl, rfl⟩
  refine thenQ_normal ?_
  rcases ite2_cases h with ⟨b9, h⟩ | ⟨b9, h⟩
  · refine AW.cond_t rfl b9 ?_
    refine AW.seq ?_
    refine AW.regionA [] [2, 3, 4] [1] (s' := ⟨[(2, (.v (.one (.ptr 1 0)))), (3, (.v (.one (.c (.int .i64 (0 : Int)))))), (4, (.v (.one (.c (.bool false)))))], [(1, (.box [(.c (.int .i64 (0 : Int))), .nils]))]⟩) (ob := True ∧ True ∧ True ∧ True ∧ True) (by kernel_rfl) ⟨trivial, trivial, trivial, trivial, trivial⟩ ?_
    refine thenQ_normal ?_
    refine AW.ret ?_
    refine thenQ_ret ?_
    replace h := some_eq h
    subst h
    exact ⟨.inr rfl, retOK_of [(.agg [(.c (.int .i64 (0 : Int))), .nils]), (.one (.c (.int .i64 (0 : Int)))), (.one (.c (.bool false)))] (by kernel_rfl) ⟨⟨⟨rfl, trivial⟩, rfl, trivial⟩, ⟨rfl, trivial⟩, ⟨rfl, trivial⟩, trivial⟩ (of_decide_eq_true (by kernel_rfl))⟩
  · refine AW.cond_f rfl b9 ?_
    refine AW.skip ?_
    refine thenQ_normal ?_
    refine AW.seq ?_
    obtain ⟨c10, h⟩ := chk_some h
    refine AW.regionA [.no, .no, .no, .no, .no, .no, .box 2] [0, 2, 5, 6] [1, 2] (s' := ⟨[(0, (.v (.one (.c (.str a0))))), (2, (.v (.one (.ptr 1 0)))), (5, (.v (.one (.c (.int .i64 (5 : Int)))))), (6, (.v (.one (.ptr 2 0))))], [(1, (.box [(.c (.int .i64 (0 : Int))), .nils])), (2, (.box [(.c (.int .i64 (IntKind.i64.wrap (bt a0 (IntKind.i64.wrap ((5 : Int) - (1 : Int))).toNat)))), .nils]))]⟩) (ob := True ∧ True ∧ True ∧ (0 ≤ (IntKind.i64.wrap ((5 : Int) - (1 : Int))) ∧ (IntKind.i64.wrap ((5 : Int) - (1 : Int))) < (a0.size : Int)) ∧ True ∧ True ∧ True ∧ True ∧ True) (by kernel_rfl) ⟨trivial, trivial, trivial, c10, trivial, trivial, trivial, trivial, trivial⟩ ?_
    refine thenQ_normal ?_
    refine AW.seq ?_
    obtain ⟨v11, e12, h⟩ := bind_some h
    refine AW.regionA [.no, .no, .call [.one (.int .i64 (IntKind.i64.wrap (bt a0 (IntKind.i64.wrap ((5 : Int) - (1 : Int))).toNat)))] [.one (sl 1 (csF .f32) v11)] [[.lst 3]]] [0, 2, 5, 6, 7] [1, 2, 3] (s' := ⟨[(0, (.v (.one (.c (.str a0))))), (2, (.v (.one (.ptr 1 0)))), (5, (.v (.one (.c (.int .i64 (5 : Int)))))), (6, (.v (.one (.ptr 2 0)))), (7, (.v (.one (.lst 3 v11.length 1 (gl (csF .f32) v11)))))], [(1, (.box [(.c (.int .i64 (0 : Int))), .nils])), (2, (.box [(.c (.int .i64 (IntKind.i64.wrap (bt a0 (IntKind.i64.wrap ((5 : Int) - (1 : Int))).toNat)))), .nils])), (3, (.lst v11.length 1 (gl (csF .f32) v11)))]⟩) (ob := True ∧ True ∧ (((((.int .i64 (IntKind.i64.wrap (bt a0 (IntKind.i64.wrap ((5 : Int) - (1 : Int))).toNat))) : C) = (.int .i64 (IntKind.i64.wrap (bt a0 (IntKind.i64.wrap ((5 : Int) - (1 : Int))).toNat)))) ∧ True) ∧ CallOK Try.prog 83 [.one (.int .i64 (IntKind.i64.wrap (bt a0 (IntKind.i64.wrap ((5 : Int) - (1 : Int))).toNat)))] [.one (sl 1 (csF .f32) v11)]) ∧ True ∧ True) (by kernel_rfl) ⟨trivial, trivial, ⟨⟨rfl, trivial⟩, ok_impl_none K (IntKind.i64.wrap (bt a0 (IntKind.i64.wrap ((5 : Int) - (1 : Int))).toNat)) v11 e12⟩, trivial, trivial⟩ ?_
    refine thenQ_normal ?_
    refine AW.seq ?_
    refine AW.block ?_
    refine AW.weak (s' := ⟨[(0, (.v (.one (.c (.str a0))))), (2, (.v (.one (.ptr 1 0)))), (5, (.v (.one (.c (.int .i64 (5 : Int)))))), (6, (.v (.one (.ptr 2 0)))), (7, (.v (.one (.lst 3 v11.length 1 (gl (csF .f32) v11)))))], [(1, (.box [(.c (.int .i64 (0 : Int))), .nils])), (2, (.box [(.c (.int .i64 (IntKind.i64.wrap (bt a0 (IntKind.i64.wrap ((5 : Int) - (1 : Int))).toNat)))), (.lst 9 ([] : (List Pose)).length 4 (gl cs_Pose ([] : (List Pose))))])), (3, (.lst v11.length 1 (gl (csF .f32) v11))), (9, (.lst ([] : (List Pose)).length 4 (gl cs_Pose ([] : (List Pose)))))]⟩) (Sub.trans (Sub.unnil 9 4 (gl cs_Pose ([] : (List Pose))) [] [(2, 1)] _ (by kernel_rfl) (by kernel_rfl)) (Sub.keep [0, 2, 5, 6, 7] [1, 2, 3, 9] (by kernel_rfl) (by kernel_rfl))) ?_
    refine AW.loopQ (σ := Nat × Int × (List F32) × (List Pose)) (fun p => ⟨[(0, (.v (.one (.c (.str a0))))), (2, (.v (.one (.ptr 1 0)))), (5, (.v (.one (.c (.int .i64 p.2.1))))), (6, (.v (.one (.ptr 2 0)))), (7, (.v (.one (.lst 3 p.2.2.1.length 1 (gl (csF .f32) p.2.2.1)))))], [(1, (.box [(.c (.int .i64 (0 : Int))), .nils])), (2, (.box [(.c (.int .i64 (IntKind.i64.wrap (bt a0 (IntKind.i64.wrap ((5 : Int) - (1 : Int))).toNat)))), (.lst 9 p.2.2.2.length 4 (gl cs_Pose p.2.2.2))])), (3, (.lst p.2.2.1.length 1 (gl (csF .f32) p.2.2.1))), (9, (.lst p.2.2.2.length 4 (gl cs_Pose p.2.2.2)))]⟩) (fun p => impl_RecoverRecording_l1 K a0 p.1 p.2.1 p.2.2.1 p.2.2.2 = some o) (fun p => p.1) (K, (5 : Int), v11, ([] : (List Pose))) h ?_
    clear h
    rintro ⟨k, x16, x17, x18⟩ h
    replace h : impl_RecoverRecording_l1 K a0 k x16 x17 x18 = some o := h
    show AW _ _ (⟨[(0, (.v (.one (.c (.str a0))))), (2, (.v (.one (.ptr 1 0)))), (5, (.v (.one (.c (.int .i64 x16))))), (6, (.v (.one (.ptr 2 0)))), (7, (.v (.one (.lst 3 x17.length 1 (gl (csF .f32) x17)))))], [(1, (.box [(.c (.int .i64 (0 : Int))), .nils])), (2, (.box [(.c (.int .i64 (IntKind.i64.wrap (bt a0 (IntKind.i64.wrap ((5 : Int) - (1 : Int))).toNat)))), (.lst 9 x18.length 4 (gl cs_Pose x18))])), (3, (.lst x17.length 1 (gl (csF .f32) x17))), (9, (.lst x18.length 4 (gl cs_Pose x18)))]⟩ : St) _
    obtain _ | k := k
    · rw [impl_RecoverRecording_l1] at h; cases h
    rw [impl_RecoverRecording_l1] at h
    refine AW.seq ?_
    refine AW.seq ?_
    refine AW.regionA [] [0, 2, 5, 6, 7, 44] [1, 2, 3, 9] (s' := ⟨[(0, (.v (.one (.c (.str a0))))), (2, (.v (.one (.ptr 1 0)))), (5, (.v (.one (.c (.int .i64 x16))))), (6, (.v (.one (.ptr 2 0)))), (7, (.v (.one (.lst 3 x17.length 1 (gl (csF .f32) x17))))), (44, (.v (.one (.c (.bool (decide ((x18.length : Int) < (64 : Int))))))))], [(1, (.box [(.c (.int .i64 (0 : Int))), .nils])), (2, (.box [(.c (.int .i64 (IntKind.i64.wrap (bt a0 (IntKind.i64.wrap ((5 : Int) - (1 : Int))).toNat)))), (.lst 9 x18.length 4 (gl cs_Pose x18))])), (3, (.lst x17.length 1 (gl (csF .f32) x17))), (9, (.lst x18.length 4 (gl cs_Pose x18)))]⟩) (ob := True ∧ True ∧ True ∧ True ∧ True) (by kernel_rfl) ⟨trivial, trivial, trivial, trivial, trivial⟩ ?_
    refine thenQ_normal ?_
    rcases ite2_cases h with ⟨b19, h⟩ | ⟨b19, h⟩
    · refine AW.cond_t rfl b19 ?_
      refine AW.skip ?_
      refine thenQ_normal ?_
      refine AW.block ?_
      refine AW.seq ?_
      obtain ⟨v20, e21, h⟩ := bind_some h
      refine AW.regionA [.no, .no, .no, .call [.one (.str a0), .one (.int .i64 x16), .one (sl 1 (csF .f32) x17)] [.one (sl 1 (csF .f32) v20.1), .one (.int .i64 v20.2.1), .one (.bool v20.2.2)] [[.lst 20], [.view], [.view]]] [0, 2, 5, 6, 8, 9, 10] [1, 2, 9, 20] (s' := ⟨[(0, (.v (.one (.c (.str a0))))), (2, (.v (.one (.ptr 1 0)))), (5, (.v (.one (.c (.int .i64 x16))))), (6, (.v (.one (.ptr 2 0)))), (8, (.v (.one (.lst 20 v20.1.length 1 (gl (csF .f32) v20.1))))), (9, (.v (.one (.c (.int .i64 v20.2.1))))), (10, (.v (.one (.c (.bool v20.2.2)))))], [(1, (.box [(.c (.int .i64 (0 : Int))), .nils])), (2, (.box [(.c (.int .i64 (IntKind.i64.wrap (bt a0 (IntKind.i64.wrap ((5 : Int) - (1 : Int))).toNat)))), (.lst 9 x18.length 4 (gl cs_Pose x18))])), (9, (.lst x18.length 4 (gl cs_Pose x18))), (20, (.lst v20.1.length 1 (gl (csF .f32) v20.1)))]⟩) (ob := True ∧ True ∧ True ∧ (((((.str a0) : C) = (.str a0)) ∧ (((.int .i64 x16) : C) = (.int .i64 x16)) ∧ (((sl 1 (csF .f32) x17) : C) = (sl 1 (csF .f32) x17)) ∧ True) ∧ CallOK Try.prog 95 [.one (.str a0), .one (.int .i64 x16), .one (sl 1 (csF .f32) x17)] [.one (sl 1 (csF .f32) v20.1), .one (.int .i64 v20.2.1), .one (.bool v20.2.2)]) ∧ True ∧ True ∧ True ∧ True ∧ True ∧ True ∧ True ∧ True) (by kernel_rfl) ⟨trivial, trivial, trivial, ⟨⟨rfl, rfl, rfl, trivial⟩, ok_impl_next K a0 x16 x17 v20 e21⟩, trivial, trivial, trivial, trivial, trivial, trivial, trivial, trivial⟩ ?_
      refine thenQ_normal ?_
      refine AW.seq ?_
      refine AW.seq ?_
      refine AW.regionA [] [0, 2, 5, 6, 8, 9, 54] [1, 2, 9, 20] (s' := ⟨[(0, (.v (.one (.c (.str a0))))), (2, (.v (.one (.ptr 1 0)))), (5, (.v (.one (.c (.int .i64 x16))))), (6, (.v (.one (.ptr 2 0)))), (8, (.v (.one (.lst 20 v20.1.length 1 (gl (csF .f32) v20.1))))), (9, (.v (.one (.c (.int .i64 v20.2.1))))), (54, (.v (.one (.c (.bool (!v20.2.2))))))], [(1, (.box [(.c (.int .i64 (0 : Int))), .nils])), (2, (.box [(.c (.int .i64 (IntKind.i64.wrap (bt a0 (IntKind.i64.wrap ((5 : Int) - (1 : Int))).toNat)))), (.lst 9 x18.length 4 (gl cs_Pose x18))])), (9, (.lst x18.length 4 (gl cs_Pose x18))), (20, (.lst v20.1.length 1 (gl (csF .f32) v20.1)))]⟩) (ob := True ∧ True ∧ True) (by kernel_rfl) ⟨trivial, trivial, trivial⟩ ?_
      refine thenQ_normal ?_
      rcases ite2_cases h with ⟨b22, h⟩ | ⟨b22, h⟩
      · refine AW.cond_t rfl b22 ?_
        refine AW.exit ?_
        refine thenQ_exit ?_
        refine blockQ_other rfl ?_
        refine loopQ_exit ?_
        refine blockQ_exit ?_
        refine thenQ_normal ?_
        refine AW.seq ?_
        refine AW.regionA [] [2, 3, 4] [1, 9] (s' := ⟨[(2, (.v (.one (.ptr 1 0)))), (3, (.v (.one (.c (.int .i64 x16))))), (4, (.v (.one (.c (.bool true)))))], [(1, (.box [(.c (.int .i64 (IntKind.i64.wrap (bt a0 (IntKind.i64.wrap ((5 : Int) - (1 : Int))).toNat)))), (.lst 9 x18.length 4 (gl cs_Pose x18))])), (9, (.lst x18.length 4 (gl cs_Pose x18)))]⟩) (ob := True ∧ True ∧ True ∧ True ∧ True ∧ True) (by kernel_rfl) ⟨trivial, trivial, trivial, trivial, trivial, trivial⟩ ?_
        refine thenQ_normal ?_
        refine AW.ret ?_
        replace h := some_eq h
        subst h
        exact ⟨.inr rfl, retOK_of [(.agg [(.c (.int .i64 (IntKind.i64.wrap (bt a0 (IntKind.i64.wrap ((5 : Int) - (1 : Int))).toNat)))), (.lst 9 x18.length 4 (gl cs_Pose x18))]), (.one (.c (.int .i64 x16))), (.one (.c (.bool true)))] (by kernel_rfl) ⟨⟨⟨rfl, trivial⟩, rfl, trivial⟩, ⟨rfl, trivial⟩, ⟨rfl, trivial⟩, trivial⟩ (of_decide_eq_true (by kernel_rfl))⟩
      · refine AW.cond_f rfl b22 ?_
        refine AW.skip ?_
        refine thenQ_normal ?_
        refine AW.seq ?_
        obtain ⟨v23, e24, h⟩ := bind_some h
        refine AW.regionA [.no, .call [.one (sl 1 (csF .f32) v20.1)] [.agg (cs_Pose v23.1), .one (.bool v23.2)] [[.view, .view, .view, .lst 21], [.view]], .no, .no, .no, .box 22] [0, 2, 6, 8, 9, 11] [1, 2, 9, 20, 21, 22] (s' := ⟨[(0, (.v (.one (.c (.str a0))))), (2, (.v (.one (.ptr 1 0)))), (6, (.v (.one (.ptr 2 0)))), (8, (.v (.one (.lst 20 v20.1.length 1 (gl (csF .f32) v20.1))))), (9, (.v (.one (.c (.int .i64 v20.2.1))))), (11, (.v (.one (.ptr 22 0))))], [(1, (.box [(.c (.int .i64 (0 : Int))), .nils])), (2, (.box [(.c (.int .i64 (IntKind.i64.wrap (bt a0 (IntKind.i64.wrap ((5 : Int) - (1 : Int))).toNat)))), (.lst 9 x18.length 4 (gl cs_Pose x18))])), (9, (.lst x18.length 4 (gl cs_Pose x18))), (20, (.lst v20.1.length 1 (gl (csF .f32) v20.1))), (21, (.lst v23.1.Turns.length 4 (gl cs_Turn v23.1.Turns))), (22, (.box [(.c (.flt .f32 v23.1.Root.X.bits)), (.c (.flt .f32 v23.1.Root.Y.bits)), (.c (.flt .f32 v23.1.Root.Z.bits)), (.lst 21 v23.1.Turns.length 4 (gl cs_Turn v23.1.Turns))]))]⟩) (ob := True ∧ (((((sl 1 (csF .f32) v20.1) : C) = (sl 1 (csF .f32) v20.1)) ∧ True) ∧ CallOK Try.prog 55 [.one (sl 1 (csF .f32) v20.1)] [.agg (cs_Pose v23.1), .one (.bool v23.2)]) ∧ True ∧ True ∧ True ∧ True ∧ True ∧ True ∧ True) (by kernel_rfl) ⟨trivial, ⟨⟨rfl, trivial⟩, ok_impl_PoseOfNumbers K v20.1 v23 e24⟩, trivial, trivial, trivial, trivial, trivial, trivial, trivial⟩ ?_
        refine thenQ_normal ?_
        refine AW.seq ?_
        obtain ⟨c25, h⟩ := chk_some h
        refine AW.regionA [.no, .no, .no, .obj 23 ([v23.1]).length (gl cs_Pose ([v23.1])), .obj 24 (x18 ++ ([v23.1])).length (gl cs_Pose (x18 ++ ([v23.1])))] [0, 2, 6, 8, 9] [1, 2, 20, 24] (s' := ⟨[(0, (.v (.one (.c (.str a0))))), (2, (.v (.one (.ptr 1 0)))), (6, (.v (.one (.ptr 2 0)))), (8, (.v (.one (.lst 20 v20.1.length 1 (gl (csF .f32) v20.1))))), (9, (.v (.one (.c (.int .i64 v20.2.1)))))], [(1, (.box [(.c (.int .i64 (0 : Int))), .nils])), (2, (.box [(.c (.int .i64 (IntKind.i64.wrap (bt a0 (IntKind.i64.wrap ((5 : Int) - (1 : Int))).toNat)))), (.lst 24 (x18 ++ ([v23.1])).length 4 (gl cs_Pose (x18 ++ ([v23.1]))))])), (20, (.lst v20.1.length 1 (gl (csF .f32) v20.1))), (24, (.lst (x18 ++ ([v23.1])).length 4 (gl cs_Pose (x18 ++ ([v23.1])))))]⟩) (ob := True ∧ True ∧ True ∧ (([v23.1]).length = 1 ∧ (((.flt .f32 v23.1.Root.X.bits) : C) = (.flt .f32 v23.1.Root.X.bits) ∧ True) ∧ (((.flt .f32 v23.1.Root.Y.bits) : C) = (.flt .f32 v23.1.Root.Y.bits) ∧ True) ∧ (((.flt .f32 v23.1.Root.Z.bits) : C) = (.flt .f32 v23.1.Root.Z.bits) ∧ True) ∧ (((sl 4 cs_Turn v23.1.Turns) : C) = (sl 4 cs_Turn v23.1.Turns)) ∧ True) ∧ ((x18 ++ ([v23.1])).length = x18.length + ([v23.1]).length ∧ AppOb (x18.length) (([v23.1]).length) 4 (gl cs_Pose x18) (gl cs_Pose ([v23.1])) (gl cs_Pose (x18 ++ ([v23.1]))) ∧ True ∧ (x18.length + ([v23.1]).length) * 40 ≤ 140737488355328) ∧ True ∧ True ∧ True) (by kernel_rfl) ⟨trivial, trivial, trivial, ⟨rfl, ⟨⟨rfl, trivial⟩, ⟨rfl, trivial⟩, ⟨rfl, trivial⟩, rfl, trivial⟩⟩, ⟨List.length_append, gl_append, trivial, c25⟩, trivial, trivial, trivial⟩ ?_
        refine thenQ_normal ?_
        refine AW.regionA [] [0, 2, 5, 6, 7] [1, 2, 20, 24] (s' := ⟨[(0, (.v (.one (.c (.str a0))))), (2, (.v (.one (.ptr 1 0)))), (5, (.v (.one (.c (.int .i64 v20.2.1))))), (6, (.v (.one (.ptr 2 0)))), (7, (.v (.one (.lst 20 v20.1.length 1 (gl (csF .f32) v20.1)))))], [(1, (.box [(.c (.int .i64 (0 : Int))), .nils])), (2, (.box [(.c (.int .i64 (IntKind.i64.wrap (bt a0 (IntKind.i64.wrap ((5 : Int) - (1 : Int))).toNat)))), (.lst 24 (x18 ++ ([v23.1])).length 4 (gl cs_Pose (x18 ++ ([v23.1]))))])), (20, (.lst v20.1.length 1 (gl (csF .f32) v20.1))), (24, (.lst (x18 ++ ([v23.1])).length 4 (gl cs_Pose (x18 ++ ([v23.1])))))]⟩) (ob := True ∧ True ∧ True ∧ True ∧ True) (by kernel_rfl) ⟨trivial, trivial, trivial, trivial, trivial⟩ ?_
        refine blockQ_normal ?_
        exact loopQ_normal (k, v20.2.1, v20.1, (x18 ++ ([v23.1]))) h (Nat.lt_succ_self k) (Sub.trans (Sub.swap 3 20 _ (by kernel_rfl) (by kernel_rfl)) (Sub.trans (Sub.swap 9 24 _ (by kernel_rfl) (by kernel_rfl)) (Sub.keep [0, 2, 5, 6, 7] [1, 2, 3, 9] (by kernel_rfl) (by kernel_rfl))))
    · refine AW.cond_f rfl b19 ?_
      refine AW.exit ?_
      refine thenQ_exit ?_
      refine loopQ_exit ?_
      refine blockQ_exit ?_
      refine thenQ_normal ?_
      refine AW.seq ?_
      refine AW.regionA [] [2, 3, 4] [1, 9] (s' := ⟨[(2, (.v (.one (.ptr 1 0)))), (3, (.v (.one (.c (.int .i64 x16))))), (4, (.v (.one (.c (.bool true)))))], [(1, (.box [(.c (.int .i64 (IntKind.i64.wrap (bt a0 (IntKind.i64.wrap ((5 : Int) - (1 : Int))).toNat)))), (.lst 9 x18.length 4 (gl cs_Pose x18))])), (9, (.lst x18.length 4 (gl cs_Pose x18)))]⟩) (ob := True ∧ True ∧ True ∧ True ∧ True ∧ True) (by kernel_rfl) ⟨trivial, trivial, trivial, trivial, trivial, trivial⟩ ?_
      refine thenQ_normal ?_
      refine AW.ret ?_
      replace h := some_eq h
      subst h
      exact ⟨.inr rfl, retOK_of [(.agg [(.c (.int .i64 (IntKind.i64.wrap (bt a0 (IntKind.i64.wrap ((5 : Int) - (1 : Int))).toNat)))), (.lst 9 x18.length 4 (gl cs_Pose x18))]), (.one (.c (.int .i64 x16))), (.one (.c (.bool true)))] (by kernel_rfl) ⟨⟨⟨rfl, trivial⟩, rfl, trivial⟩, ⟨rfl, trivial⟩, ⟨rfl, trivial⟩, trivial⟩ (of_decide_eq_true (by kernel_rfl))⟩

/-! laws.sameFloat -/
def laws_sameFloat (_K : Nat) (a0 : F64) (a1 : F64) : Option (Bool) :=
  (ite2 ((a0.ne a0)) (some true) (some (a1.ne a1))).bind fun j2 => ite2 (j2) ((ite2 ((a0.ne a0)) (some (a1.ne a1)) (some false)).bind fun j6 => some j6) ((ite2 ((a0.eq (Fl.mk (k := .f64) 0 (by decide)))) (some (a1.eq (Fl.mk (k := .f64) 0 (by decide)))) (some false)).bind fun j9 => ite2 (j9) (some ((((Fl.mk (k := .f64) 4607182418800017408 (by decide)).div a0).gt (Fl.mk (k := .f64) 0 (by decide))) == (((Fl.mk (k := .f64) 4607182418800017408 (by decide)).div a1).gt (Fl.mk (k := .f64) 0 (by decide))))) (some (a0.eq a1)))

theorem ok_laws_sameFloat (K : Nat) (a0 : F64) (a1 : F64) (o : (Bool)) (h : laws_sameFloat K a0 a1 = some o) : CallOK Try.prog 98 [.one (.flt .f64 a0.bits), .one (.flt .f64 a1.bits)] [.one (.bool o)] := by
  refine callOK_of_AW Try.func98 rfl (by kernel_rfl) (Nat.le_of_ble_eq_true (by kernel_rfl)) ?_
  intro w0
  unfold laws_sameFloat at h
  refine AW.seq ?_
  refine AW.regionA [] [0, 1] [] (s' := ⟨[(0, (.v (.one (.c (.flt .f64 a0.bits))))), (1, (.v (.one (.c (.flt .f64 a1.bits)))))], []⟩) (ob := True ∧ True) (by kernel_rfl) ⟨trivial, trivial⟩ ?_
  refine thenQ_normal ?_
  refine AW.seq ?_
  refine AW.seq ?_
  obtain ⟨j2, e3, h⟩ := bind_some h
  refine AW.join1 (s2 := ⟨[(0, (.v (.one (.c (.flt .f64 a0.bits))))), (1, (.v (.one (.c (.flt .f64 a1.bits))))), (12, (.v (.one (.c (.bool j2)))))], []⟩) ?_ ?_
  · rcases ite2_cases e3 with ⟨b1, e3⟩ | ⟨b1, e3⟩
    · replace e3 := some_eq e3
      subst e3
      exact AW.regionA [.no, .no, .no, .dec true] [0, 1, 12] [] (s' := ⟨[(0, (.v (.one (.c (.flt .f64 a0.bits))))), (1, (.v (.one (.c (.flt .f64 a1.bits))))), (12, (.v (.one (.c (.bool true)))))], []⟩) (ob := True ∧ True ∧ True ∧ (True ∧ (a0.ne a0) = true) ∧ True ∧ True ∧ True ∧ True ∧ True) (by kernel_rfl) ⟨trivial, trivial, trivial, ⟨trivial, b1⟩, trivial, trivial, trivial, trivial, trivial⟩ ⟨rfl, rfl⟩
    · replace e3 := some_eq e3
      subst e3
      exact AW.regionA [.no, .no, .no, .dec false] [0, 1, 12] [] (s' := ⟨[(0, (.v (.one (.c (.flt .f64 a0.bits))))), (1, (.v (.one (.c (.flt .f64 a1.bits))))), (12, (.v (.one (.c (.bool (a1.ne a1))))))], []⟩) (ob := True ∧ True ∧ True ∧ (True ∧ (a0.ne a0) = false) ∧ True ∧ True ∧ True ∧ True ∧ True) (by kernel_rfl) ⟨trivial, trivial, trivial, ⟨trivial, b1⟩, trivial, trivial, trivial, trivial, trivial⟩ ⟨rfl, rfl⟩
  refine thenQ_normal ?_
  rcases ite2_cases h with ⟨b4, h⟩ | ⟨b4, h⟩
  · refine AW.cond_t rfl b4 ?_
    refine AW.seq ?_
    obtain ⟨j6, e7, h⟩ := bind_some h
    refine AW.join1 (s2 := ⟨[(4, (.v (.one (.c (.bool j6)))))], []⟩) ?_ ?_
    · rcases ite2_cases e7 with ⟨b5, e7⟩ | ⟨b5, e7⟩
      · replace e7 := some_eq e7
        subst e7
        exact AW.regionA [.no, .no, .no, .dec true] [4] [] (s' := ⟨[(4, (.v (.one (.c (.bool (a1.ne a1))))))], []⟩) (ob := True ∧ True ∧ True ∧ (True ∧ (a0.ne a0) = true) ∧ True ∧ True ∧ True ∧ True ∧ True ∧ True) (by kernel_rfl) ⟨trivial, trivial, trivial, ⟨trivial, b5⟩, trivial, trivial, trivial, trivial, trivial, trivial⟩ ⟨rfl, rfl⟩
      · replace e7 := some_eq e7
        subst e7
        exact AW.regionA [.no, .no, .no, .dec false] [4] [] (s' := ⟨[(4, (.v (.one (.c (.bool false)))))], []⟩) (ob := True ∧ True ∧ True ∧ (True ∧ (a0.ne a0) = false) ∧ True ∧ True ∧ True ∧ True ∧ True ∧ True) (by kernel_rfl) ⟨trivial, trivial, trivial, ⟨trivial, b5⟩, trivial, trivial, trivial, trivial, trivial, trivial⟩ ⟨rfl, rfl⟩
    refine thenQ_normal ?_
    refine AW.ret ?_
    refine thenQ_ret ?_
    replace h := some_eq h
    subst h
    exact ⟨.inr rfl, retOK_of [(.one (.c (.bool j6)))] (by kernel_rfl) ⟨⟨rfl, trivial⟩, trivial⟩ (of_decide_eq_true (by kernel_rfl))⟩
  · refine AW.cond_f rfl b4 ?_
    refine AW.skip ?_
    refine thenQ_normal ?_
    refine AW.seq ?_
    refine AW.seq ?_
    obtain ⟨j9, e10, h⟩ := bind_some h
    refine AW.join1 (s2 := ⟨[(0, (.v (.one (.c (.flt .f64 a0.bits))))), (1, (.v (.one (.c (.flt .f64 a1.bits))))), (26, (.v (.one (.c (.bool j9)))))], []⟩) ?_ ?_
    · rcases ite2_cases e10 with ⟨b8, e10⟩ | ⟨b8, e10⟩
      · replace e10 := some_eq e10
        subst e10
        exact AW.regionA [.no, .no, .dec true] [0, 1, 26] [] (s' := ⟨[(0, (.v (.one (.c (.flt .f64 a0.bits))))), (1, (.v (.one (.c (.flt .f64 a1.bits))))), (26, (.v (.one (.c (.bool (a1.eq (Fl.mk (k := .f64) 0 (by decide))))))))], []⟩) (ob := True ∧ True ∧ (True ∧ (a0.eq (Fl.mk (k := .f64) 0 (by decide))) = true) ∧ True ∧ True ∧ True ∧ True) (by kernel_rfl) ⟨trivial, trivial, ⟨trivial, b8⟩, trivial, trivial, trivial, trivial⟩ ⟨rfl, rfl⟩
      · replace e10 := some_eq e10
        subst e10
        exact AW.regionA [.no, .no, .dec false] [0, 1, 26] [] (s' := ⟨[(0, (.v (.one (.c (.flt .f64 a0.bits))))), (1, (.v (.one (.c (.flt .f64 a1.bits))))), (26, (.v (.one (.c (.bool false)))))], []⟩) (ob := True ∧ True ∧ (True ∧ (a0.eq (Fl.mk (k := .f64) 0 (by decide))) = false) ∧ True ∧ True ∧ True ∧ True) (by kernel_rfl) ⟨trivial, trivial, ⟨trivial, b8⟩, trivial, trivial, trivial, trivial⟩ ⟨rfl, rfl⟩
    refine thenQ_normal ?_
    rcases ite2_cases h with ⟨b11, h⟩ | ⟨b11, h⟩
    · refine AW.cond_t rfl b11 ?_
      refine AW.seq ?_
      refine AW.regionA [] [4] [] (s' := ⟨[(4, (.v (.one (.c (.bool ((((Fl.mk (k := .f64) 4607182418800017408 (by decide)).div a0).gt (Fl.mk (k := .f64) 0 (by decide))) == (((Fl.mk (k := .f64) 4607182418800017408 (by decide)).div a1).gt (Fl.mk (k := .f64) 0 (by decide)))))))))], []⟩) (ob := True ∧ True ∧ True ∧ True ∧ True ∧ True ∧ True ∧ True ∧ True) (by kernel_rfl) ⟨trivial, trivial, trivial, trivial, trivial, trivial, trivial, trivial, trivial⟩ ?_
      refine thenQ_normal ?_
      refine AW.ret ?_
      refine thenQ_ret ?_
      replace h := some_eq h
      subst h
      exact ⟨.inr rfl, retOK_of [(.one (.c (.bool ((((Fl.mk (k := .f64) 4607182418800017408 (by decide)).div a0).gt (Fl.mk (k := .f64) 0 (by decide))) == (((Fl.mk (k := .f64) 4607182418800017408 (by decide)).div a1).gt (Fl.mk (k := .f64) 0 (by decide)))))))] (by kernel_rfl) ⟨⟨rfl, trivial⟩, trivial⟩ (of_decide_eq_true (by kernel_rfl))⟩
    · refine AW.cond_f rfl b11 ?_
      refine AW.skip ?_
      refine thenQ_normal ?_
      refine AW.seq ?_
      refine AW.regionA [] [4] [] (s' := ⟨[(4, (.v (.one (.c (.bool (a0.eq a1))))))], []⟩) (ob := True ∧ True ∧ True ∧ True ∧ True) (by kernel_rfl) ⟨trivial, trivial, trivial, trivial, trivial⟩ ?_
      refine thenQ_normal ?_
      refine AW.ret ?_
      replace h := some_eq h
      subst h
      exact ⟨.inr rfl, retOK_of [(.one (.c (.bool (a0.eq a1))))] (by kernel_rfl) ⟨⟨rfl, trivial⟩, trivial⟩ (of_decide_eq_true (by kernel_rfl))⟩

/-! laws.eqVector -/
def laws_eqVector (K : Nat) (a0 : Vector) (a1 : Vector) : Option (Bool) :=
  (laws_sameFloat K (Fl.cv .f32 .f64 a0.X) (Fl.cv .f32 .f64 a1.X)).bind fun v1 => ite2 ((!v1)) (some false) ((laws_sameFloat K (Fl.cv .f32 .f64 a0.Y) (Fl.cv .f32 .f64 a1.Y)).bind fun v4 => ite2 ((!v4)) (some false) ((laws_sameFloat K (Fl.cv .f32 .f64 a0.Z) (Fl.cv .f32 .f64 a1.Z)).bind fun v7 => ite2 ((!v7)) (some false) (some true)))

theorem ok_laws_eqVector (K : Nat) (a0 : Vector) (a1 : Vector) (o : (Bool)) (h : laws_eqVector K a0 a1 = some o) : CallOK Try.prog 90 [.agg (cs_Vector a0), .agg (cs_Vector a1)] [.one (.bool o)] := by
  refine callOK_of_AW Try.func90 rfl (by kernel_rfl) (Nat.le_of_ble_eq_true (by kernel_rfl)) ?_
  intro w0
  unfold laws_eqVector at h
  refine AW.seq ?_
  refine AW.regionA [.box 1, .box 2] [2, 3] [1, 2] (s' := ⟨[(2, (.v (.one (.ptr 1 0)))), (3, (.v (.one (.ptr 2 0))))], [(1, (.box [(.c (.flt .f32 a0.X.bits)), (.c (.flt .f32 a0.Y.bits)), (.c (.flt .f32 a0.Z.bits))])), (2, (.box [(.c (.flt .f32 a1.X.bits)), (.c (.flt .f32 a1.Y.bits)), (.c (.flt .f32 a1.Z.bits))]))]⟩) (ob := True ∧ True ∧ True ∧ True) (by kernel_rfl) ⟨trivial, trivial, trivial, trivial⟩ ?_
  refine thenQ_normal ?_
  refine AW.seq ?_
  refine AW.seq ?_
  obtain ⟨v1, e2, h⟩ := bind_some h
  refine AW.regionA [.no, .no, .no, .no, .no, .no, .call [.one (.flt .f64 (Fl.cv .f32 .f64 a0.X).bits), .one (.flt .f64 (Fl.cv .f32 .f64 a1.X).bits)] [.one (.bool v1)] [[.view]]] [2, 3, 12] [1, 2] (s' := ⟨[(2, (.v (.one (.ptr 1 0)))), (3, (.v (.one (.ptr 2 0)))), (12, (.v (.one (.c (.bool (!v1))))))], [(1, (.box [(.c (.flt .f32 a0.X.bits)), (.c (.flt .f32 a0.Y.bits)), (.c (.flt .f32 a0.Z.bits))])), (2, (.box [(.c (.flt .f32 a1.X.bits)), (.c (.flt .f32 a1.Y.bits)), (.c (.flt .f32 a1.Z.bits))]))]⟩) (ob := True ∧ True ∧ ((convBits .f32 a0.X.bits .f64).isSome = true) ∧ True ∧ True ∧ ((convBits .f32 a1.X.bits .f64).isSome = true) ∧ (((((.flt .f64 (Fl.cv .f32 .f64 a0.X).bits) : C) = (.flt .f64 (Fl.cv .f32 .f64 a0.X).bits)) ∧ (((.flt .f64 (Fl.cv .f32 .f64 a1.X).bits) : C) = (.flt .f64 (Fl.cv .f32 .f64 a1.X).bits)) ∧ True) ∧ CallOK Try.prog 98 [.one (.flt .f64 (Fl.cv .f32 .f64 a0.X).bits), .one (.flt .f64 (Fl.cv .f32 .f64 a1.X).bits)] [.one (.bool v1)]) ∧ True ∧ True) (by kernel_rfl) ⟨trivial, trivial, cv_wide a0.X, trivial, trivial, cv_wide a1.X, ⟨⟨rfl, rfl, trivial⟩, ok_laws_sameFloat K (Fl.cv .f32 .f64 a0.X) (Fl.cv .f32 .f64 a1.X) v1 e2⟩, trivial, trivial⟩ ?_
  refine thenQ_normal ?_
  rcases ite2_cases h with ⟨b3, h⟩ | ⟨b3, h⟩
  · refine AW.cond_t rfl b3 ?_
    refine AW.seq ?_
    refine AW.regionA [] [4] [] (s' := ⟨[(4, (.v (.one (.c (.bool false)))))], []⟩) (ob := True ∧ True) (by kernel_rfl) ⟨trivial, trivial⟩ ?_
    refine thenQ_normal ?_
    refine AW.ret ?_
    refine thenQ_ret ?_
    replace h := some_eq h
    subst h
    exact ⟨.inr rfl, retOK_of [(.one (.c (.bool false)))] (by kernel_rfl) ⟨⟨rfl, trivial⟩, trivial⟩ (of_decide_eq_true (by kernel_rfl))⟩
  · refine AW.cond_f rfl b3 ?_
    refine AW.skip ?_
    refine thenQ_normal ?_
    refine AW.seq ?_
    refine AW.seq ?_
    obtain ⟨v4, e5, h⟩ := bind_some h
    refine AW.regionA [.no, .no, .no, .no, .no, .no, .call [.one (.flt .f64 (Fl.cv .f32 .f64 a0.Y).bits), .one (.flt .f64 (Fl.cv .f32 .f64 a1.Y).bits)] [.one (.bool v4)] [[.view]]] [2, 3, 20] [1, 2] (s' := ⟨[(2, (.v (.one (.ptr 1 0)))), (3, (.v (.one (.ptr 2 0)))), (20, (.v (.one (.c (.bool (!v4))))))], [(1, (.box [(.c (.flt .f32 a0.X.bits)), (.c (.flt .f32 a0.Y.bits)), (.c (.flt .f32 a0.Z.bits))])), (2, (.box [(.c (.flt .f32 a1.X.bits)), (.c (.flt .f32 a1.Y.bits)), (.c (.flt .f32 a1.Z.bits))]))]⟩) (ob := True ∧ True ∧ ((convBits .f32 a0.Y.bits .f64).isSome = true) ∧ True ∧ True ∧ ((convBits .f32 a1.Y.bits .f64).isSome = true) ∧ (((((.flt .f64 (Fl.cv .f32 .f64 a0.Y).bits) : C) = (.flt .f64 (Fl.cv .f32 .f64 a0.Y).bits)) ∧ (((.flt .f64 (Fl.cv .f32 .f64 a1.Y).bits) : C) = (.flt .f64 (Fl.cv .f32 .f64 a1.Y).bits)) ∧ True) ∧ CallOK Try.prog 98 [.one (.flt .f64 (Fl.cv .f32 .f64 a0.Y).bits), .one (.flt .f64 (Fl.cv .f32 .f64 a1.Y).bits)] [.one (.bool v4)]) ∧ True ∧ True) (by kernel_rfl) ⟨trivial, trivial, cv_wide a0.Y, trivial, trivial, cv_wide a1.Y, ⟨⟨rfl, rfl, trivial⟩, ok_laws_sameFloat K (Fl.cv .f32 .f64 a0.Y) (Fl.cv .f32 .f64 a1.Y) v4 e5⟩, trivial, trivial⟩ ?_
    refine thenQ_normal ?_
    rcases ite2_cases h with ⟨b6, h⟩ | ⟨b6, h⟩
    · refine AW.cond_t rfl b6 ?_
      refine AW.seq ?_
      refine AW.regionA [] [4] [] (s' := ⟨[(4, (.v (.one (.c (.bool false)))))], []⟩) (ob := True ∧ True) (by kernel_rfl) ⟨trivial, trivial⟩ ?_
      refine thenQ_normal ?_
      refine AW.ret ?_
      refine thenQ_ret ?_
      replace h := some_eq h
      subst h
      exact ⟨.inr rfl, retOK_of [(.one (.c (.bool false)))] (by kernel_rfl) ⟨⟨rfl, trivial⟩, trivial⟩ (of_decide_eq_true (by kernel_rfl))⟩
    · refine AW.cond_f rfl b6 ?_
      refine AW.skip ?_
      refine thenQ_normal ?_
      refine AW.seq ?_
      refine AW.seq ?_
      obtain ⟨v7, e8, h⟩ := bind_some h
      refine AW.regionA [.no, .no, .no, .no, .no, .no, .call [.one (.flt .f64 (Fl.cv .f32 .f64 a0.Z).bits), .one (.flt .f64 (Fl.cv .f32 .f64 a1.Z).bits)] [.one (.bool v7)] [[.view]]] [28] [] (s' := ⟨[(28, (.v (.one (.c (.bool (!v7))))))], []⟩) (ob := True ∧ True ∧ ((convBits .f32 a0.Z.bits .f64).isSome = true) ∧ True ∧ True ∧ ((convBits .f32 a1.Z.bits .f64).isSome = true) ∧ (((((.flt .f64 (Fl.cv .f32 .f64 a0.Z).bits) : C) = (.flt .f64 (Fl.cv .f32 .f64 a0.Z).bits)) ∧ (((.flt .f64 (Fl.cv .f32 .f64 a1.Z).bits) : C) = (.flt .f64 (Fl.cv .f32 .f64 a1.Z).bits)) ∧ True) ∧ CallOK Try.prog 98 [.one (.flt .f64 (Fl.cv .f32 .f64 a0.Z).bits), .one (.flt .f64 (Fl.cv .f32 .f64 a1.Z).bits)] [.one (.bool v7)]) ∧ True ∧ True) (by kernel_rfl) ⟨trivial, trivial, cv_wide a0.Z, trivial, trivial, cv_wide a1.Z, ⟨⟨rfl, rfl, trivial⟩, ok_laws_sameFloat K (Fl.cv .f32 .f64 a0.Z) (Fl.cv .f32 .f64 a1.Z) v7 e8⟩, trivial, trivial⟩ ?_
      refine thenQ_normal ?_
      rcases ite2_cases h with ⟨b9, h⟩ | ⟨b9, h⟩
      · refine AW.cond_t rfl b9 ?_
        refine AW.seq ?_
        refine AW.regionA [] [4] [] (s' := ⟨[(4, (.v (.one (.c (.bool false)))))], []⟩) (ob := True ∧ True) (by kernel_rfl) ⟨trivial, trivial⟩ ?_
        refine thenQ_normal ?_
        refine AW.ret ?_
        refine thenQ_ret ?_
        replace h := some_eq h
        subst h
        exact ⟨.inr rfl, retOK_of [(.one (.c (.bool false)))] (by kernel_rfl) ⟨⟨rfl, trivial⟩, trivial⟩ (of_decide_eq_true (by kernel_rfl))⟩
      · refine AW.cond_f rfl b9 ?_
        refine AW.skip ?_
        refine thenQ_normal ?_
        refine AW.seq ?_
        refine AW.regionA [] [4] [] (s' := ⟨[(4, (.v (.one (.c (.bool true)))))], []⟩) (ob := True ∧ True) (by kernel_rfl) ⟨trivial, trivial⟩ ?_
        refine thenQ_normal ?_
        refine AW.ret ?_
        replace h := some_eq h
        subst h
        exact ⟨.inr rfl, retOK_of [(.one (.c (.bool true)))] (by kernel_rfl) ⟨⟨rfl, trivial⟩, trivial⟩ (of_decide_eq_true (by kernel_rfl))⟩

/-! laws.eqTurn -/
def laws_eqTurn (K : Nat) (a0 : Turn) (a1 : Turn) : Option (Bool) :=
  (laws_sameFloat K (Fl.cv .f32 .f64 a0.W) (Fl.cv .f32 .f64 a1.W)).bind fun v1 => ite2 ((!v1)) (some false) ((laws_sameFloat K (Fl.cv .f32 .f64 a0.X) (Fl.cv .f32 .f64 a1.X)).bind fun v4 => ite2 ((!v4)) (some false) ((laws_sameFloat K (Fl.cv .f32 .f64 a0.Y) (Fl.cv .f32 .f64 a1.Y)).bind fun v7 => ite2 ((!v7)) (some false) ((laws_sameFloat K (Fl.cv .f32 .f64 a0.Z) (Fl.cv .f32 .f64 a1.Z)).bind fun v10 => ite2 ((!v10)) (some false) (some true))))

theorem ok_laws_eqTurn (K : Nat) (a0 : Turn) (a1 : Turn) (o : (Bool)) (h : laws_eqTurn K a0 a1 = some o) : CallOK Try.prog 131 [.agg (cs_Turn a0), .agg (cs_Turn a1)] [.one (.bool o)] := by
  refine callOK_of_AW Try.func131 rfl (by kernel_rfl) (Nat.le_of_ble_eq_true (by kernel_rfl)) ?_
  intro w0
  unfold laws_eqTurn at h
  refine AW.seq ?_
  refine AW.regionA [.box 1, .box 2] [2, 3] [1, 2] (s' := ⟨[(2, (.v (.one (.ptr 1 0)))), (3, (.v (.one (.ptr 2 0))))], [(1, (.box [(.c (.flt .f32 a0.W.bits)), (.c (.flt .f32 a0.X.bits)), (.c (.flt .f32 a0.Y.bits)), (.c (.flt .f32 a0.Z.bits))])), (2, (.box [(.c (.flt .f32 a1.W.bits)), (.c (.flt .f32 a1.X.bits)), (.c (.flt .f32 a1.Y.bits)), (.c (.flt .f32 a1.Z.bits))]))]⟩) (ob := True ∧ True ∧ True ∧ True) (by kernel_rfl) ⟨trivial, trivial, trivial, trivial⟩ ?_
  refine thenQ_normal ?_
  refine AW.seq ?_
  refine AW.seq ?_
  obtain ⟨v1, e2, h⟩ := bind_some h
  refine AW.regionA [.no, .no, .no, .no, .no, .no, .call [.one (.flt .f64 (Fl.cv .f32 .f64 a0.W).bits), .one (.flt .f64 (Fl.cv .f32 .f64 a1.W).bits)] [.one (.bool v1)] [[.view]]] [2, 3, 12] [1, 2] (s' := ⟨[(2, (.v (.one (.ptr 1 0)))), (3, (.v (.one (.ptr 2 0)))), (12, (.v (.one (.c (.bool (!v1))))))], [(1, (.box [(.c (.flt .f32 a0.W.bits)), (.c (.flt .f32 a0.X.bits)), (.c (.flt .f32 a0.Y.bits)), (.c (.flt .f32 a0.Z.bits))])), (2, (.box [(.c (.flt .f32 a1.W.bits)), (.c (.flt .f32 a1.X.bits)), (.c (.flt .f32 a1.Y.bits)), (.c (.flt .f32 a1.Z.bits))]))]⟩) (ob := True ∧ True ∧ ((convBits .f32 a0.W.bits .f64).isSome = true) ∧ True ∧ True ∧ ((convBits .f32 a1.W.bits .f64).isSome = true) ∧ (((((.flt .f64 (Fl.cv .f32 .f64 a0.W).bits) : C) = (.flt .f64 (Fl.cv .f32 .f64 a0.W).bits)) ∧ (((.flt .f64 (Fl.cv .f32 .f64 a1.W).bits) : C) = (.flt .f64 (Fl.cv .f32 .f64 a1.W).bits)) ∧ True) ∧ CallOK Try.prog 98 [.one (.flt .f64 (Fl.cv .f32 .f64 a0.W).bits), .one (.flt .f64 (Fl.cv .f32 .f64 a1.W).bits)] [.one (.bool v1)]) ∧ True ∧ True) (by kernel_rfl) ⟨trivial, trivial, cv_wide a0.W, trivial, trivial, cv_wide a1.W, ⟨⟨rfl, rfl, trivial⟩, ok_laws_sameFloat K (Fl.cv .f32 .f64 a0.W) (Fl.cv .f32 .f64 a1.W) v1 e2⟩, trivial, trivial⟩ ?_
  refine thenQ_normal ?_
  rcases ite2_cases h with ⟨b3, h⟩ | ⟨b3, h⟩
  · refine AW.cond_t rfl b3 ?_
    refine AW.seq ?_
    refine AW.regionA [] [4] [] (s' := ⟨[(4, (.v (.one (.c (.bool false)))))], []⟩) (ob := True ∧ True) (by kernel_rfl) ⟨trivial, trivial⟩ ?_
    refine thenQ_normal ?_
    refine AW.ret ?_
    refine thenQ_ret ?_
    replace h := some_eq h
    subst h
    exact ⟨.inr rfl, retOK_of [(.one (.c (.bool false)))] (by kernel_rfl) ⟨⟨rfl, trivial⟩, trivial⟩ (of_decide_eq_true (by kernel_rfl))⟩
  · refine AW.cond_f rfl b3 ?_
    refine AW.skip ?_
    refine thenQ_normal ?_
    refine AW.seq ?_
    refine AW.seq ?_
    obtain ⟨v4, e5, h⟩ := bind_some h
    refine AW.regionA [.no, .no, .no, .no, .no, .no, .call [.one (.flt .f64 (Fl.cv .f32 .f64 a0.X).bits), .one (.flt .f64 (Fl.cv .f32 .f64 a1.X).bits)] [.one (.bool v4)] [[.view]]] [2, 3, 20] [1, 2] (s' := ⟨[(2, (.v (.one (.ptr 1 0)))), (3, (.v (.one (.ptr 2 0)))), (20, (.v (.one (.c (.bool (!v4))))))], [(1, (.box [(.c (.flt .f32 a0.W.bits)), (.c (.flt .f32 a0.X.bits)), (.c (.flt .f32 a0.Y.bits)), (.c (.flt .f32 a0.Z.bits))])), (2, (.box [(.c (.flt .f32 a1.W.bits)), (.c (.flt .f32 a1.X.bits)), (.c (.flt .f32 a1.Y.bits)), (.c (.flt .f32 a1.Z.bits))]))]⟩) (ob := True ∧ True ∧ ((convBits .f32 a0.X.bits .f64).isSome = true) ∧ True ∧ True ∧ ((convBits .f32 a1.X.bits .f64).isSome = true) ∧ (((((.flt .f64 (Fl.cv .f32 .f64 a0.X).bits) : C) = (.flt .f64 (Fl.cv .f32 .f64 a0.X).bits)) ∧ (((.flt .f64 (Fl.cv .f32 .f64 a1.X).bits) : C) = (.flt .f64 (Fl.cv .f32 .f64 a1.X).bits)) ∧ True) ∧ CallOK Try.prog 98 [.one (.flt .f64 (Fl.cv .f32 .f64 a0.X).bits), .one (.flt .f64 (Fl.cv .f32 .f64 a1.X).bits)] [.one (.bool v4)]) ∧ True ∧ True) (by kernel_rfl) ⟨trivial, trivial, cv_wide a0.X, trivial, trivial, cv_wide a1.X, ⟨⟨rfl, rfl, trivial⟩, ok_laws_sameFloat K (Fl.cv .f32 .f64 a0.X) (Fl.cv .f32 .f64 a1.X) v4 e5⟩, trivial, trivial⟩ ?_
    refine thenQ_normal ?_
    rcases ite2_cases h with ⟨b6, h⟩ | ⟨b6, h⟩
    · refine AW.cond_t rfl b6 ?_
      refine AW.seq ?_
      refine AW.regionA [] [4] [] (s' := ⟨[(4, (.v (.one (.c (.bool false)))))], []⟩) (ob := True ∧ True) (by kernel_rfl) ⟨trivial, trivial⟩ ?_
      refine thenQ_normal ?_
      refine AW.ret ?_
      refine thenQ_ret ?_
      replace h := some_eq h
      subst h
      exact ⟨.inr rfl, retOK_of [(.one (.c (.bool false)))] (by kernel_rfl) ⟨⟨rfl, trivial⟩, trivial⟩ (of_decide_eq_true (by kernel_rfl))⟩
    · refine AW.cond_f rfl b6 ?_
      refine AW.skip ?_
      refine thenQ_normal ?_
      refine AW.seq ?_
      refine AW.seq ?_
      obtain ⟨v7, e8, h⟩ := bind_some h
      refine AW.regionA [.no, .no, .no, .no, .no, .no, .call [.one (.flt .f64 (Fl.cv .f32 .f64 a0.Y).bits), .one (.flt .f64 (Fl.cv .f32 .f64 a1.Y).bits)] [.one (.bool v7)] [[.view]]] [2, 3, 28] [1, 2] (s' := ⟨[(2, (.v (.one (.ptr 1 0)))), (3, (.v (.one (.ptr 2 0)))), (28, (.v (.one (.c (.bool (!v7))))))], [(1, (.box [(.c (.flt .f32 a0.W.bits)), (.c (.flt .f32 a0.X.bits)), (.c (.flt .f32 a0.Y.bits)), (.c (.flt .f32 a0.Z.bits))])), (2, (.box [(.c (.flt .f32 a1.W.bits)), (.c (.flt .f32 a1.X.bits)), (.c (.flt .f32 a1.Y.bits)), (.c (.flt .f32 a1.Z.bits))]))]⟩) (ob := True ∧ True ∧ ((convBits .f32 a0.Y.bits .f64).isSome = true) ∧ True ∧ True ∧ ((convBits .f32 a1.Y.bits .f64).isSome = true) ∧ (((((.flt .f64 (Fl.cv .f32 .f64 a0.Y).bits) : C) = (.flt .f64 (Fl.cv .f32 .f64 a0.Y).bits)) ∧ (((.flt .f64 (Fl.cv .f32 .f64 a1.Y).bits) : C) = (.flt .f64 (Fl.cv .f32 .f64 a1.Y).bits)) ∧ True) ∧ CallOK Try.prog 98 [.one (.flt .f64 (Fl.cv .f32 .f64 a0.Y).bits), .one (.flt .f64 (Fl.cv .f32 .f64 a1.Y).bits)] [.one (.bool v7)]) ∧ True ∧ True) (by kernel_rfl) ⟨trivial, trivial, cv_wide a0.Y, trivial, trivial, cv_wide a1.Y, ⟨⟨rfl, rfl, trivial⟩, ok_laws_sameFloat K (Fl.cv .f32 .f64 a0.Y) (Fl.cv .f32 .f64 a1.Y) v7 e8⟩, trivial, trivial⟩ ?_
      refine thenQ_normal ?_
      rcases ite2_cases h with ⟨b9, h⟩ | ⟨b9, h⟩
      · refine AW.cond_t rfl b9 ?_
        refine AW.seq ?_
        refine AW.regionA [] [4] [] (s' := ⟨[(4, (.v (.one (.c (.bool false)))))], []⟩) (ob := True ∧ True) (by kernel_rfl) ⟨trivial, trivial⟩ ?_
        refine thenQ_normal ?_
        refine AW.ret ?_
        refine thenQ_ret ?_
        replace h := some_eq h
        subst h
        exact ⟨.inr rfl, retOK_of [(.one (.c (.bool false)))] (by kernel_rfl) ⟨⟨rfl, trivial⟩, trivial⟩ (of_decide_eq_true (by kernel_rfl))⟩
      · refine AW.cond_f rfl b9 ?_
        refine AW.skip ?_
        refine thenQ_normal ?_
        refine AW.seq ?_
        refine AW.seq ?_
        obtain ⟨v10, e11, h⟩ := bind_some h
        refine AW.regionA [.no, .no, .no, .no, .no, .no, .call [.one (.flt .f64 (Fl.cv .f32 .f64 a0.Z).bits), .one (.flt .f64 (Fl.cv .f32 .f64 a1.Z).bits)] [.one (.bool v10)] [[.view]]] [36] [] (s' := ⟨[(36, (.v (.one (.c (.bool (!v10))))))], []⟩) (ob := True ∧ True ∧ ((convBits .f32 a0.Z.bits .f64).isSome = true) ∧ True ∧ True ∧ ((convBits .f32 a1.Z.bits .f64).isSome = true) ∧ (((((.flt .f64 (Fl.cv .f32 .f64 a0.Z).bits) : C) = (.flt .f64 (Fl.cv .f32 .f64 a0.Z).bits)) ∧ (((.flt .f64 (Fl.cv .f32 .f64 a1.Z).bits) : C) = (.flt .f64 (Fl.cv .f32 .f64 a1.Z).bits)) ∧ True) ∧ CallOK Try.prog 98 [.one (.flt .f64 (Fl.cv .f32 .f64 a0.Z).bits), .one (.flt .f64 (Fl.cv .f32 .f64 a1.Z).bits)] [.one (.bool v10)]) ∧ True ∧ True) (by kernel_rfl) ⟨trivial, trivial, cv_wide a0.Z, trivial, trivial, cv_wide a1.Z, ⟨⟨rfl, rfl, trivial⟩, ok_laws_sameFloat K (Fl.cv .f32 .f64 a0.Z) (Fl.cv .f32 .f64 a1.Z) v10 e11⟩, trivial, trivial⟩ ?_
        refine thenQ_normal ?_
        rcases ite2_cases h with ⟨b12, h⟩ | ⟨b12, h⟩
        · refine AW.cond_t rfl b12 ?_
          refine AW.seq ?_
          refine AW.regionA [] [4] [] (s' := ⟨[(4, (.v (.one (.c (.bool false)))))], []⟩) (ob := True ∧ True) (by kernel_rfl) ⟨trivial, trivial⟩ ?_
          refine thenQ_normal ?_
          refine AW.ret ?_
          refine thenQ_ret ?_
          replace h := some_eq h
          subst h
          exact ⟨.inr rfl, retOK_of [(.one (.c (.bool false)))] (by kernel_rfl) ⟨⟨rfl, trivial⟩, trivial⟩ (of_decide_eq_true (by kernel_rfl))⟩
        · refine AW.cond_f rfl b12 ?_
          refine AW.skip ?_
          refine thenQ_normal ?_
          refine AW.seq ?_
          refine AW.regionA [] [4] [] (s' := ⟨[(4, (.v (.one (.c (.bool true)))))], []⟩) (ob := True ∧ True) (by kernel_rfl) ⟨trivial, trivial⟩ ?_
          refine thenQ_normal ?_
          refine AW.ret ?_
          replace h := some_eq h
          subst h
          exact ⟨.inr rfl, retOK_of [(.one (.c (.bool true)))] (by kernel_rfl) ⟨⟨rfl, trivial⟩, trivial⟩ (of_decide_eq_true (by kernel_rfl))⟩

/-! laws.eqTurnS -/
def laws_eqTurnS_l1 (K : Nat) (a0 : (List Turn)) (a1 : (List Turn)) : Nat → Int → Option (Bool)
  | 0, _ => none
  | k + 1, x3 => ite2 ((decide (x3 < (a0.length : Int)))) (chk (0 ≤ x3 ∧ x3 < (a0.length : Int)) (chk (0 ≤ x3 ∧ x3 < (a1.length : Int)) ((laws_eqTurn K (a0.getD x3.toNat default) (a1.getD x3.toNat default)).bind fun v7 => ite2 ((!v7)) (some false) (laws_eqTurnS_l1 K a0 a1 k (IntKind.i64.wrap (x3 + (1 : Int))))))) (some true)

def laws_eqTurnS (K : Nat) (a0 : (List Turn)) (a1 : (List Turn)) : Option (Bool) :=
  ite2 (((a0.length : Int) != (a1.length : Int))) (some false) (laws_eqTurnS_l1 K a0 a1 K (0 : Int))

theorem ok_laws_eqTurnS (K : Nat) (a0 : (List Turn)) (a1 : (List Turn)) (o : (Bool)) (h : laws_eqTurnS K a0 a1 = some o) : CallOK Try.prog 91 [.one (sl 4 cs_Turn a0), .one (sl 4 cs_Turn a1)] [.one (.bool o)] := by
  refine callOK_of_AW Try.func91 rfl (by kernel_rfl) (Nat.le_of_ble_eq_true (by kernel_rfl)) ?_
  intro w0
  unfold laws_eqTurnS at h
  refine AW.seq ?_
  refine AW.regionA [] [0, 1] [] (s' := ⟨[(0, (.v (.one (.c (sl 4 cs_Turn a0))))), (1, (.v (.one (.c (sl 4 cs_Turn a1)))))], []⟩) (ob := True ∧ True) (by kernel_rfl) ⟨trivial, trivial⟩ ?_
  refine thenQ_normal ?_
  refine AW.seq ?_
  refine AW.seq ?_
  refine AW.regionA [] [0, 1, 10] [] (s' := ⟨[(0, (.v (.one (.c (sl 4 cs_Turn a0))))), (1, (.v (.one (.c (sl 4 cs_Turn a1))))), (10, (.v (.one (.c (.bool ((a0.length : Int) != (a1.length : Int)))))))], []⟩) (ob := True ∧ True ∧ True ∧ True ∧ True ∧ True) (by kernel_rfl) ⟨trivial, trivial, trivial, trivial, trivial, trivial⟩ ?_
  refine thenQ_normal ?_
  rcases ite2_cases h with ⟨b1, h⟩ | ⟨b1, h⟩
  · refine AW.cond_t rfl b1 ?_
    refine AW.seq ?_
    refine AW.regionA [] [4] [] (s' := ⟨[(4, (.v (.one (.c (.bool false)))))], []⟩) (ob := True ∧ True) (by kernel_rfl) ⟨trivial, trivial⟩ ?_
    refine thenQ_normal ?_
    refine AW.ret ?_
    refine thenQ_ret ?_
    replace h := some_eq h
    subst h
    exact ⟨.inr rfl, retOK_of [(.one (.c (.bool false)))] (by kernel_rfl) ⟨⟨rfl, trivial⟩, trivial⟩ (of_decide_eq_true (by kernel_rfl))⟩
  · refine AW.cond_f rfl b1 ?_
    refine AW.skip ?_
    refine thenQ_normal ?_
    refine AW.seq ?_
    refine AW.seq ?_
    refine AW.regionA [] [0, 1, 5] [] (s' := ⟨[(0, (.v (.one (.c (sl 4 cs_Turn a0))))), (1, (.v (.one (.c (sl 4 cs_Turn a1))))), (5, (.v (.one (.c (.int .i64 (0 : Int))))))], []⟩) (ob := True ∧ True) (by kernel_rfl) ⟨trivial, trivial⟩ ?_
    refine thenQ_normal ?_
    refine AW.block ?_
    refine AW.loopQ (σ := Nat × Int) (fun p => ⟨[(0, (.v (.one (.c (sl 4 cs_Turn a0))))), (1, (.v (.one (.c (sl 4 cs_Turn a1))))), (5, (.v (.one (.c (.int .i64 p.2)))))], []⟩) (fun p => laws_eqTurnS_l1 K a0 a1 p.1 p.2 = some o) (fun p => p.1) (K, (0 : Int)) h ?_
    clear h
    rintro ⟨k, x3⟩ h
    replace h : laws_eqTurnS_l1 K a0 a1 k x3 = some o := h
    show AW _ _ (⟨[(0, (.v (.one (.c (sl 4 cs_Turn a0))))), (1, (.v (.one (.c (sl 4 cs_Turn a1))))), (5, (.v (.one (.c (.int .i64 x3)))))], []⟩ : St) _
    obtain _ | k := k
    · rw [laws_eqTurnS_l1] at h; cases h
    rw [laws_eqTurnS_l1] at h
    refine AW.seq ?_
    refine AW.seq ?_
    refine AW.regionA [] [0, 1, 5, 14] [] (s' := ⟨[(0, (.v (.one (.c (sl 4 cs_Turn a0))))), (1, (.v (.one (.c (sl 4 cs_Turn a1))))), (5, (.v (.one (.c (.int .i64 x3))))), (14, (.v (.one (.c (.bool (decide (x3 < (a0.length : Int))))))))], []⟩) (ob := True ∧ True ∧ True ∧ True ∧ True) (by kernel_rfl) ⟨trivial, trivial, trivial, trivial, trivial⟩ ?_
    refine thenQ_normal ?_
    rcases ite2_cases h with ⟨b4, h⟩ | ⟨b4, h⟩
    · refine AW.cond_t rfl b4 ?_
      refine AW.skip ?_
      refine thenQ_normal ?_
      refine AW.seq ?_
      refine AW.block ?_
      refine AW.seq ?_
      obtain ⟨c5, h⟩ := chk_some h
      obtain ⟨c6, h⟩ := chk_some h
      obtain ⟨v7, e8, h⟩ := bind_some h
      refine AW.drawnA (by kernel_rfl) 10 [.no, .no, .no, .no, .no, .no, .no, .no, .call [.agg (cs_Turn (a0.getD x3.toNat default)), .agg (cs_Turn (a1.getD x3.toNat default))] [.one (.bool v7)] [[.view]]] [0, 1, 5, 26] [] (s' := ⟨[(0, (.v (.one (.c (sl 4 cs_Turn a0))))), (1, (.v (.one (.c (sl 4 cs_Turn a1))))), (5, (.v (.one (.c (.int .i64 x3))))), (26, (.v (.one (.c (.bool (!v7))))))], []⟩) (ob := (True ∧ True ∧ (0 ≤ x3 ∧ x3 < (a0.length : Int)) ∧ True ∧ True ∧ True ∧ (0 ≤ x3 ∧ x3 < (a1.length : Int)) ∧ True ∧ ((((((.flt .f32 ((a0.getD x3.toNat default).W).bits) : C) = (.flt .f32 ((a0.getD x3.toNat default).W).bits)) ∧ (((.flt .f32 ((a0.getD x3.toNat default).X).bits) : C) = (.flt .f32 ((a0.getD x3.toNat default).X).bits)) ∧ (((.flt .f32 ((a0.getD x3.toNat default).Y).bits) : C) = (.flt .f32 ((a0.getD x3.toNat default).Y).bits)) ∧ (((.flt .f32 ((a0.getD x3.toNat default).Z).bits) : C) = (.flt .f32 ((a0.getD x3.toNat default).Z).bits)) ∧ True) ∧ ((((.flt .f32 ((a1.getD x3.toNat default).W).bits) : C) = (.flt .f32 ((a1.getD x3.toNat default).W).bits)) ∧ (((.flt .f32 ((a1.getD x3.toNat default).X).bits) : C) = (.flt .f32 ((a1.getD x3.toNat default).X).bits)) ∧ (((.flt .f32 ((a1.getD x3.toNat default).Y).bits) : C) = (.flt .f32 ((a1.getD x3.toNat default).Y).bits)) ∧ (((.flt .f32 ((a1.getD x3.toNat default).Z).bits) : C) = (.flt .f32 ((a1.getD x3.toNat default).Z).bits)) ∧ True) ∧ True) ∧ CallOK Try.prog 131 [.agg (cs_Turn (a0.getD x3.toNat default)), .agg (cs_Turn (a1.getD x3.toNat default))] [.one (.bool v7)]) ∧ True ∧ True) ∧ (True)) (by kernel_rfl) ⟨⟨trivial, trivial, c5, trivial, trivial, trivial, c6, trivial, ⟨⟨⟨rfl, rfl, rfl, rfl, trivial⟩, ⟨rfl, rfl, rfl, rfl, trivial⟩, trivial⟩, ok_laws_eqTurn K (a0.getD x3.toNat default) (a1.getD x3.toNat default) v7 e8⟩, trivial, trivial⟩, trivial⟩ ?_
      refine thenQ_normal ?_
      rcases ite2_cases h with ⟨b9, h⟩ | ⟨b9, h⟩
      · refine AW.cond_t rfl b9 ?_
        refine AW.seq ?_
        refine AW.regionA [] [4] [] (s' := ⟨[(4, (.v (.one (.c (.bool false)))))], []⟩) (ob := True ∧ True) (by kernel_rfl) ⟨trivial, trivial⟩ ?_
        refine thenQ_normal ?_
        refine AW.ret ?_
        refine blockQ_ret ?_
        refine thenQ_ret ?_
        refine loopQ_ret ?_
        refine blockQ_ret ?_
        refine thenQ_ret ?_
        replace h := some_eq h
        subst h
        exact ⟨.inr rfl, retOK_of [(.one (.c (.bool false)))] (by kernel_rfl) ⟨⟨rfl, trivial⟩, trivial⟩ (of_decide_eq_true (by kernel_rfl))⟩
      · refine AW.cond_f rfl b9 ?_
        refine AW.skip ?_
        refine blockQ_normal ?_
        refine thenQ_normal ?_
        refine AW.regionA [] [0, 1, 5] [] (s' := ⟨[(0, (.v (.one (.c (sl 4 cs_Turn a0))))), (1, (.v (.one (.c (sl 4 cs_Turn a1))))), (5, (.v (.one (.c (.int .i64 (IntKind.i64.wrap (x3 + (1 : Int))))))))], []⟩) (ob := True ∧ True ∧ True ∧ True) (by kernel_rfl) ⟨trivial, trivial, trivial, trivial⟩ ?_
        exact loopQ_normal (k, (IntKind.i64.wrap (x3 + (1 : Int)))) h (Nat.lt_succ_self k) (Sub.keep [0, 1, 5] [] (by kernel_rfl) (by kernel_rfl))
    · refine AW.cond_f rfl b4 ?_
      refine AW.exit ?_
      refine thenQ_exit ?_
      refine loopQ_exit ?_
      refine blockQ_exit ?_
      refine thenQ_normal ?_
      refine AW.seq ?_
      refine AW.regionA [] [4] [] (s' := ⟨[(4, (.v (.one (.c (.bool true)))))], []⟩) (ob := True ∧ True) (by kernel_rfl) ⟨trivial, trivial⟩ ?_
      refine thenQ_normal ?_
      refine AW.ret ?_
      replace h := some_eq h
      subst h
      exact ⟨.inr rfl, retOK_of [(.one (.c (.bool true)))] (by kernel_rfl) ⟨⟨rfl, trivial⟩, trivial⟩ (of_decide_eq_true (by kernel_rfl))⟩

/-! laws.eqPose -/
def laws_eqPose (K : Nat) (a0 : Pose) (a1 : Pose) : Option (Bool) :=
  (laws_eqVector K a0.Root a1.Root).bind fun v1 => ite2 ((!v1)) (some false) ((laws_eqTurnS K a0.Turns a1.Turns).bind fun v4 => ite2 ((!v4)) (some false) (some true))

theorem ok_laws_eqPose (K : Nat) (a0 : Pose) (a1 : Pose) (o : (Bool)) (h : laws_eqPose K a0 a1 = some o) : CallOK Try.prog 36 [.agg (cs_Pose a0), .agg (cs_Pose a1)] [.one (.bool o)] := by
  refine callOK_of_AW Try.func36 rfl (by kernel_rfl) (Nat.le_of_ble_eq_true (by kernel_rfl)) ?_
  intro w0
  unfold laws_eqPose at h
  refine AW.seq ?_
  refine AW.regionA [.box 1, .box 2] [2, 3] [1, 2] (s' := ⟨[(2, (.v (.one (.ptr 1 0)))), (3, (.v (.one (.ptr 2 0))))], [(1, (.box [(.c (.flt .f32 a0.Root.X.bits)), (.c (.flt .f32 a0.Root.Y.bits)), (.c (.flt .f32 a0.Root.Z.bits)), (.c (sl 4 cs_Turn a0.Turns))])), (2, (.box [(.c (.flt .f32 a1.Root.X.bits)), (.c (.flt .f32 a1.Root.Y.bits)), (.c (.flt .f32 a1.Root.Z.bits)), (.c (sl 4 cs_Turn a1.Turns))]))]⟩) (ob := True ∧ True ∧ True ∧ True) (by kernel_rfl) ⟨trivial, trivial, trivial, trivial⟩ ?_
  refine thenQ_normal ?_
  refine AW.seq ?_
  refine AW.seq ?_
  obtain ⟨v1, e2, h⟩ := bind_some h
  refine AW.regionA [.no, .no, .no, .no, .call [.agg (cs_Vector a0.Root), .agg (cs_Vector a1.Root)] [.one (.bool v1)] [[.view]]] [2, 3, 10] [1, 2] (s' := ⟨[(2, (.v (.one (.ptr 1 0)))), (3, (.v (.one (.ptr 2 0)))), (10, (.v (.one (.c (.bool (!v1))))))], [(1, (.box [(.c (.flt .f32 a0.Root.X.bits)), (.c (.flt .f32 a0.Root.Y.bits)), (.c (.flt .f32 a0.Root.Z.bits)), (.c (sl 4 cs_Turn a0.Turns))])), (2, (.box [(.c (.flt .f32 a1.Root.X.bits)), (.c (.flt .f32 a1.Root.Y.bits)), (.c (.flt .f32 a1.Root.Z.bits)), (.c (sl 4 cs_Turn a1.Turns))]))]⟩) (ob := True ∧ True ∧ True ∧ True ∧ ((((((.flt .f32 a0.Root.X.bits) : C) = (.flt .f32 a0.Root.X.bits)) ∧ (((.flt .f32 a0.Root.Y.bits) : C) = (.flt .f32 a0.Root.Y.bits)) ∧ (((.flt .f32 a0.Root.Z.bits) : C) = (.flt .f32 a0.Root.Z.bits)) ∧ True) ∧ ((((.flt .f32 a1.Root.X.bits) : C) = (.flt .f32 a1.Root.X.bits)) ∧ (((.flt .f32 a1.Root.Y.bits) : C) = (.flt .f32 a1.Root.Y.bits)) ∧ (((.flt .f32 a1.Root.Z.bits) : C) = (.flt .f32 a1.Root.Z.bits)) ∧ True) ∧ True) ∧ CallOK Try.prog 90 [.agg (cs_Vector a0.Root), .agg (cs_Vector a1.Root)] [.one (.bool v1)]) ∧ True ∧ True) (by kernel_rfl) ⟨trivial, trivial, trivial, trivial, ⟨⟨⟨rfl, rfl, rfl, trivial⟩, ⟨rfl, rfl, rfl, trivial⟩, trivial⟩, ok_laws_eqVector K a0.Root a1.Root v1 e2⟩, trivial, trivial⟩ ?_
  refine thenQ_normal ?_
  rcases ite2_cases h with ⟨b3, h⟩ | ⟨b3, h⟩
  · refine AW.cond_t rfl b3 ?_
    refine AW.seq ?_
    refine AW.regionA [] [4] [] (s' := ⟨[(4, (.v (.one (.c (.bool false)))))], []⟩) (ob := True ∧ True) (by kernel_rfl) ⟨trivial, trivial⟩ ?_
    refine thenQ_normal ?_
    refine AW.ret ?_
    refine thenQ_ret ?_
    replace h := some_eq h
    subst h
    exact ⟨.inr rfl, retOK_of [(.one (.c (.bool false)))] (by kernel_rfl) ⟨⟨rfl, trivial⟩, trivial⟩ (of_decide_eq_true (by kernel_rfl))⟩
  · refine AW.cond_f rfl b3 ?_
    refine AW.skip ?_
    refine thenQ_normal ?_
    refine AW.seq ?_
    refine AW.seq ?_
    obtain ⟨v4, e5, h⟩ := bind_some h
    refine AW.regionA [.no, .no, .no, .no, .call [.one (sl 4 cs_Turn a0.Turns), .one (sl 4 cs_Turn a1.Turns)] [.one (.bool v4)] [[.view]]] [16] [] (s' := ⟨[(16, (.v (.one (.c (.bool (!v4))))))], []⟩) (ob := True ∧ True ∧ True ∧ True ∧ (((((sl 4 cs_Turn a0.Turns) : C) = (sl 4 cs_Turn a0.Turns)) ∧ (((sl 4 cs_Turn a1.Turns) : C) = (sl 4 cs_Turn a1.Turns)) ∧ True) ∧ CallOK Try.prog 91 [.one (sl 4 cs_Turn a0.Turns), .one (sl 4 cs_Turn a1.Turns)] [.one (.bool v4)]) ∧ True ∧ True) (by kernel_rfl) ⟨trivial, trivial, trivial, trivial, ⟨⟨rfl, rfl, trivial⟩, ok_laws_eqTurnS K a0.Turns a1.Turns v4 e5⟩, trivial, trivial⟩ ?_
    refine thenQ_normal ?_
    rcases ite2_cases h with ⟨b6, h⟩ | ⟨b6, h⟩
    · refine AW.cond_t rfl b6 ?_
      refine AW.seq ?_
      refine AW.regionA [] [4] [] (s' := ⟨[(4, (.v (.one (.c (.bool false)))))], []⟩) (ob := True ∧ True) (by kernel_rfl) ⟨trivial, trivial⟩ ?_
      refine thenQ_normal ?_
      refine AW.ret ?_
      refine thenQ_ret ?_
      replace h := some_eq h
      subst h
      exact ⟨.inr rfl, retOK_of [(.one (.c (.bool false)))] (by kernel_rfl) ⟨⟨rfl, trivial⟩, trivial⟩ (of_decide_eq_true (by kernel_rfl))⟩
    · refine AW.cond_f rfl b6 ?_
      refine AW.skip ?_
      refine thenQ_normal ?_
      refine AW.seq ?_
      refine AW.regionA [] [4] [] (s' := ⟨[(4, (.v (.one (.c (.bool true)))))], []⟩) (ob := True ∧ True) (by kernel_rfl) ⟨trivial, trivial⟩ ?_
      refine thenQ_normal ?_
      refine AW.ret ?_
      replace h := some_eq h
      subst h
      exact ⟨.inr rfl, retOK_of [(.one (.c (.bool true)))] (by kernel_rfl) ⟨⟨rfl, trivial⟩, trivial⟩ (of_decide_eq_true (by kernel_rfl))⟩

/-! laws.eqPoseS -/
def laws_eqPoseS_l1 (K : Nat) (a0 : (List Pose)) (a1 : (List Pose)) : Nat → Int → Option (Bool)
  | 0, _ => none
  | k + 1, x3 => ite2 ((decide (x3 < (a0.length : Int)))) (chk (0 ≤ x3 ∧ x3 < (a0.length : Int)) (chk (0 ≤ x3 ∧ x3 < (a1.length : Int)) ((laws_eqPose K (a0.getD x3.toNat default) (a1.getD x3.toNat default)).bind fun v7 => ite2 ((!v7)) (some false) (laws_eqPoseS_l1 K a0 a1 k (IntKind.i64.wrap (x3 + (1 : Int))))))) (some true)

def laws_eqPoseS (K : Nat) (a0 : (List Pose)) (a1 : (List Pose)) : Option (Bool) :=
  ite2 (((a0.length : Int) != (a1.length : Int))) (some false) (laws_eqPoseS_l1 K a0 a1 K (0 : Int))

theorem ok_laws_eqPoseS (K : Nat) (a0 : (List Pose)) (a1 : (List Pose)) (o : (Bool)) (h : laws_eqPoseS K a0 a1 = some o) : CallOK Try.prog 77 [.one (sl 4 cs_Pose a0), .one (sl 4 cs_Pose a1)] [.one (.bool o)] := by
  refine callOK_of_AW Try.func77 rfl (by kernel_rfl) (Nat.le_of_ble_eq_true (by kernel_rfl)) ?_
  intro w0
  unfold laws_eqPoseS at h
  refine AW.seq ?_
  refine AW.regionA [] [0, 1] [] (s' := ⟨[(0, (.v (.one (.c (sl 4 cs_Pose a0))))), (1, (.v (.one (.c (sl 4 cs_Pose a1)))))], []⟩) (ob := True ∧ True) (by kernel_rfl) ⟨trivial, trivial⟩ ?_
  refine thenQ_normal ?_
  refine AW.seq ?_
  refine AW.seq ?_
  refine AW.regionA [] [0, 1, 10] [] (s' := ⟨[(0, (.v (.one (.c (sl 4 cs_Pose a0))))), (1, (.v (.one (.c (sl 4 cs_Pose a1))))), (10, (.v (.one (.c (.bool ((a0.length : Int) != (a1.length : Int)))))))], []⟩) (ob := True ∧ True ∧ True ∧ True ∧ True ∧ True) (by kernel_rfl) ⟨trivial, trivial, trivial, trivial, trivial, trivial⟩ ?_
  refine thenQ_normal ?_
  rcases ite2_cases h with ⟨b1, h⟩ | ⟨b1, h⟩
  · refine AW.cond_t rfl b1 ?_
    refine AW.seq ?_
    refine AW.regionA [] [4] [] (s' := ⟨[(4, (.v (.one (.c (.bool false)))))], []⟩) (ob := True ∧ True) (by kernel_rfl) ⟨trivial, trivial⟩ ?_
    refine thenQ_normal ?_
    refine AW.ret ?_
    refine thenQ_ret ?_
    replace h := some_eq h
    subst h
    exact ⟨.inr rfl, retOK_of [(.one (.c (.bool false)))] (by kernel_rfl) ⟨⟨rfl, trivial⟩, trivial⟩ (of_decide_eq_true (by kernel_rfl))⟩
  · refine AW.cond_f rfl b1 ?_
    refine AW.skip ?_
    refine thenQ_normal ?_
    refine AW.seq ?_
    refine AW.seq ?_
    refine AW.regionA [] [0, 1, 5] [] (s' := ⟨[(0, (.v (.one (.c (sl 4 cs_Pose a0))))), (1, (.v (.one (.c (sl 4 cs_Pose a1))))), (5, (.v (.one (.c (.int .i64 (0 : Int))))))], []⟩) (ob := True ∧ True) (by kernel_rfl) ⟨trivial, trivial⟩ ?_
    refine thenQ_normal ?_
    refine AW.block ?_
    refine AW.loopQ (σ := Nat × Int) (fun p => ⟨[(0, (.v (.one (.c (sl 4 cs_Pose a0))))), (1, (.v (.one (.c (sl 4 cs_Pose a1))))), (5, (.v (.one (.c (.int .i64 p.2)))))], []⟩) (fun p => laws_eqPoseS_l1 K a0 a1 p.1 p.2 = some o) (fun p => p.1) (K, (0 : Int)) h ?_
    clear h
    rintro ⟨k, x3⟩ h
    replace h : laws_eqPoseS_l1 K a0 a1 k x3 = some o := h
    show AW _ _ (⟨[(0, (.v (.one (.c (sl 4 cs_Pose a0))))), (1, (.v (.one (.c (sl 4 cs_Pose a1))))), (5, (.v (.one (.c (.int .i64 x3)))))], []⟩ : St) _
    obtain _ | k := k
    · rw [laws_eqPoseS_l1] at h; cases h
    rw [laws_eqPoseS_l1] at h
    refine AW.seq ?_
    refine AW.seq ?_
    refine AW.regionA [] [0, 1, 5, 14] [] (s' := ⟨[(0, (.v (.one (.c (sl 4 cs_Pose a0))))), (1, (.v (.one (.c (sl 4 cs_Pose a1))))), (5, (.v (.one (.c (.int .i64 x3))))), (14, (.v (.one (.c (.bool (decide (x3 < (a0.length : Int))))))))], []⟩) (ob := True ∧ True ∧ True ∧ True ∧ True) (by kernel_rfl) ⟨trivial, trivial, trivial, trivial, trivial⟩ ?_
    refine thenQ_normal ?_
    rcases ite2_cases h with ⟨b4, h⟩ | ⟨b4, h⟩
    · refine AW.cond_t rfl b4 ?_
      refine AW.skip ?_
      refine thenQ_normal ?_
      refine AW.seq ?_
      refine AW.block ?_
      refine AW.seq ?_
      obtain ⟨c5, h⟩ := chk_some h
      obtain ⟨c6, h⟩ := chk_some h
      obtain ⟨v7, e8, h⟩ := bind_some h
      refine AW.drawnA (by kernel_rfl) 10 [.no, .no, .no, .no, .no, .no, .no, .no, .call [.agg (cs_Pose (a0.getD x3.toNat default)), .agg (cs_Pose (a1.getD x3.toNat default))] [.one (.bool v7)] [[.view]]] [0, 1, 5, 26] [] (s' := ⟨[(0, (.v (.one (.c (sl 4 cs_Pose a0))))), (1, (.v (.one (.c (sl 4 cs_Pose a1))))), (5, (.v (.one (.c (.int .i64 x3))))), (26, (.v (.one (.c (.bool (!v7))))))], []⟩) (ob := (True ∧ True ∧ (0 ≤ x3 ∧ x3 < (a0.length : Int)) ∧ True ∧ True ∧ True ∧ (0 ≤ x3 ∧ x3 < (a1.length : Int)) ∧ True ∧ ((((((.flt .f32 (((a0.getD x3.toNat default).Root).X).bits) : C) = (.flt .f32 (((a0.getD x3.toNat default).Root).X).bits)) ∧ (((.flt .f32 (((a0.getD x3.toNat default).Root).Y).bits) : C) = (.flt .f32 (((a0.getD x3.toNat default).Root).Y).bits)) ∧ (((.flt .f32 (((a0.getD x3.toNat default).Root).Z).bits) : C) = (.flt .f32 (((a0.getD x3.toNat default).Root).Z).bits)) ∧ (((sl 4 cs_Turn ((a0.getD x3.toNat default).Turns)) : C) = (sl 4 cs_Turn ((a0.getD x3.toNat default).Turns))) ∧ True) ∧ ((((.flt .f32 (((a1.getD x3.toNat default).Root).X).bits) : C) = (.flt .f32 (((a1.getD x3.toNat default).Root).X).bits)) ∧ (((.flt .f32 (((a1.getD x3.toNat default).Root).Y).bits) : C) = (.flt .f32 (((a1.getD x3.toNat default).Root).Y).bits)) ∧ (((.flt .f32 (((a1.getD x3.toNat default).Root).Z).bits) : C) = (.flt .f32 (((a1.getD x3.toNat default).Root).Z).bits)) ∧ (((sl 4 cs_Turn ((a1.getD x3.toNat default).Turns)) : C) = (sl 4 cs_Turn ((a1.getD x3.toNat default).Turns))) ∧ True) ∧ True) ∧ CallOK Try.prog 36 [.agg (cs_Pose (a0.getD x3.toNat default)), .agg (cs_Pose (a1.getD x3.toNat default))] [.one (.bool v7)]) ∧ True ∧ True) ∧ (True)) (by kernel_rfl) ⟨⟨trivial, trivial, c5, trivial, trivial, trivial, c6, trivial, ⟨⟨⟨rfl, rfl, rfl, rfl, trivial⟩, ⟨rfl, rfl, rfl, rfl, trivial⟩, trivial⟩, ok_laws_eqPose K (a0.getD x3.toNat default) (a1.getD x3.toNat default) v7 e8⟩, trivial, trivial⟩, trivial⟩ ?_
      refine thenQ_normal ?_
      rcases ite2_cases h with ⟨b9, h⟩ | ⟨b9, h⟩
      · refine AW.cond_t rfl b9 ?_
        refine AW.seq ?_
        refine AW.regionA [] [4] [] (s' := ⟨[(4, (.v (.one (.c (.bool false)))))], []⟩) (ob := True ∧ True) (by kernel_rfl) ⟨trivial, trivial⟩ ?_
        refine thenQ_normal ?_
        refine AW.ret ?_
        refine blockQ_ret ?_
        refine thenQ_ret ?_
        refine loopQ_ret ?_
        refine blockQ_ret ?_
        refine thenQ_ret ?_
        replace h := some_eq h
        subst h
        exact ⟨.inr rfl, retOK_of [(.one (.c (.bool false)))] (by kernel_rfl) ⟨⟨rfl, trivial⟩, trivial⟩ (of_decide_eq_true (by kernel_rfl))⟩
      · refine AW.cond_f rfl b9 ?_
        refine AW.skip ?_
        refine blockQ_normal ?_
        refine thenQ_normal ?_
        refine AW.regionA [] [0, 1, 5] [] (s' := ⟨[(0, (.v (.one (.c (sl 4 cs_Pose a0))))), (1, (.v (.one (.c (sl 4 cs_Pose a1))))), (5, (.v (.one (.c (.int .i64 (IntKind.i64.wrap (x3 + (1 : Int))))))))], []⟩) (ob := True ∧ True ∧ True ∧ True) (by kernel_rfl) ⟨trivial, trivial, trivial, trivial⟩ ?_
        exact loopQ_normal (k, (IntKind.i64.wrap (x3 + (1 : Int)))) h (Nat.lt_succ_self k) (Sub.keep [0, 1, 5] [] (by kernel_rfl) (by kernel_rfl))
    · refine AW.cond_f rfl b4 ?_
      refine AW.exit ?_
      refine thenQ_exit ?_
      refine loopQ_exit ?_
      refine blockQ_exit ?_
      refine thenQ_normal ?_
      refine AW.seq ?_
      refine AW.regionA [] [4] [] (s' := ⟨[(4, (.v (.one (.c (.bool true)))))], []⟩) (ob := True ∧ True) (by kernel_rfl) ⟨trivial, trivial⟩ ?_
      refine thenQ_normal ?_
      refine AW.ret ?_
      replace h := some_eq h
      subst h
      exact ⟨.inr rfl, retOK_of [(.one (.c (.bool true)))] (by kernel_rfl) ⟨⟨rfl, trivial⟩, trivial⟩ (of_decide_eq_true (by kernel_rfl))⟩

/-! laws.eqRecording -/
def laws_eqRecording (K : Nat) (a0 : Recording) (a1 : Recording) : Option (Bool) :=
  ite2 ((a0.Bones != a1.Bones)) (some false) ((laws_eqPoseS K a0.Frames a1.Frames).bind fun v2 => ite2 ((!v2)) (some false) (some true))

theorem ok_laws_eqRecording (K : Nat) (a0 : Recording) (a1 : Recording) (o : (Bool)) (h : laws_eqRecording K a0 a1 = some o) : CallOK Try.prog 25 [.agg (cs_Recording a0), .agg (cs_Recording a1)] [.one (.bool o)] := by
  refine callOK_of_AW Try.func25 rfl (by kernel_rfl) (Nat.le_of_ble_eq_true (by kernel_rfl)) ?_
  intro w0
  unfold laws_eqRecording at h
  refine AW.seq ?_
  refine AW.regionA [.box 1, .box 2] [2, 3] [1, 2] (s' := ⟨[(2, (.v (.one (.ptr 1 0)))), (3, (.v (.one (.ptr 2 0))))], [(1, (.box [(.c (.int .i64 a0.Bones)), (.c (sl 4 cs_Pose a0.Frames))])), (2, (.box [(.c (.int .i64 a1.Bones)), (.c (sl 4 cs_Pose a1.Frames))]))]⟩) (ob := True ∧ True ∧ True ∧ True) (by kernel_rfl) ⟨trivial, trivial, trivial, trivial⟩ ?_
  refine thenQ_normal ?_
  refine AW.seq ?_
  refine AW.seq ?_
  refine AW.regionA [] [2, 3, 9] [1, 2] (s' := ⟨[(2, (.v (.one (.ptr 1 0)))), (3, (.v (.one (.ptr 2 0)))), (9, (.v (.one (.c (.bool (a0.Bones != a1.Bones))))))], [(1, (.box [(.c (.int .i64 a0.Bones)), (.c (sl 4 cs_Pose a0.Frames))])), (2, (.box [(.c (.int .i64 a1.Bones)), (.c (sl 4 cs_Pose a1.Frames))]))]⟩) (ob := True ∧ True ∧ True ∧ True ∧ True ∧ True) (by kernel_rfl) ⟨trivial, trivial, trivial, trivial, trivial, trivial⟩ ?_
  refine thenQ_normal ?_
  rcases ite2_cases h with ⟨b1, h⟩ | ⟨b1, h⟩
  · refine AW.cond_t rfl b1 ?_
    refine AW.seq ?_
    refine AW.regionA [] [4] [] (s' := ⟨[(4, (.v (.one (.c (.bool false)))))], []⟩) (ob := True ∧ True) (by kernel_rfl) ⟨trivial, trivial⟩ ?_
    refine thenQ_normal ?_
    refine AW.ret ?_
    refine thenQ_ret ?_
    replace h := some_eq h
    subst h
    exact ⟨.inr rfl, retOK_of [(.one (.c (.bool false)))] (by kernel_rfl) ⟨⟨rfl, trivial⟩, trivial⟩ (of_decide_eq_true (by kernel_rfl))⟩
  · refine AW.cond_f rfl b1 ?_
    refine AW.skip ?_
    refine thenQ_normal ?_
    refine AW.seq ?_
    refine AW.seq ?_
    obtain ⟨v2, e3, h⟩ := bind_some h
    refine AW.regionA [.no, .no, .no, .no, .call [.one (sl 4 cs_Pose a0.Frames), .one (sl 4 cs_Pose a1.Frames)] [.one (.bool v2)] [[.view]]] [15] [] (s' := ⟨[(15, (.v (.one (.c (.bool (!v2))))))], []⟩) (ob := True ∧ True ∧ True ∧ True ∧ (((((sl 4 cs_Pose a0.Frames) : C) = (sl 4 cs_Pose a0.Frames)) ∧ (((sl 4 cs_Pose a1.Frames) : C) = (sl 4 cs_Pose a1.Frames)) ∧ True) ∧ CallOK Try.prog 77 [.one (sl 4 cs_Pose a0.Frames), .one (sl 4 cs_Pose a1.Frames)] [.one (.bool v2)]) ∧ True ∧ True) (by kernel_rfl) ⟨trivial, trivial, trivial, trivial, ⟨⟨rfl, rfl, trivial⟩, ok_laws_eqPoseS K a0.Frames a1.Frames v2 e3⟩, trivial, trivial⟩ ?_
    refine thenQ_normal ?_
    rcases ite2_cases h with ⟨b4, h⟩ | ⟨b4, h⟩
    · refine AW.cond_t rfl b4 ?_
      refine AW.seq ?_
      refine AW.regionA [] [4] [] (s' := ⟨[(4, (.v (.one (.c (.bool false)))))], []⟩) (ob := True ∧ True) (by kernel_rfl) ⟨trivial, trivial⟩ ?_
      refine thenQ_normal ?_
      refine AW.ret ?_
      refine thenQ_ret ?_
      replace h := some_eq h
      subst h
      exact ⟨.inr rfl, retOK_of [(.one (.c (.bool false)))] (by kernel_rfl) ⟨⟨rfl, trivial⟩, trivial⟩ (of_decide_eq_true (by kernel_rfl))⟩
    · refine AW.cond_f rfl b4 ?_
      refine AW.skip ?_
      refine thenQ_normal ?_
      refine AW.seq ?_
      refine AW.regionA [] [4] [] (s' := ⟨[(4, (.v (.one (.c (.bool true)))))], []⟩) (ob := True ∧ True) (by kernel_rfl) ⟨trivial, trivial⟩ ?_
      refine thenQ_normal ?_
      refine AW.ret ?_
      replace h := some_eq h
      subst h
      exact ⟨.inr rfl, retOK_of [(.one (.c (.bool true)))] (by kernel_rfl) ⟨⟨rfl, trivial⟩, trivial⟩ (of_decide_eq_true (by kernel_rfl))⟩

/-! laws.markTurnS -/
def laws_markTurnS_l1 (K : Nat) (a0 : (List Turn)) : Nat → Int → Int → (List Turn) → Option (Int × (List Turn))
  | 0, _, _, _ => none
  | k + 1, x4, x5, x6 => ite2 ((decide (x5 < (x6.length : Int)))) (chk (0 ≤ x5 ∧ x5 < (x6.length : Int)) ((some (x6.set x5.toNat (Turn.mk (Fl.ofInt .f32 x4) ((x6.getD x5.toNat default).X) ((x6.getD x5.toNat default).Y) ((x6.getD x5.toNat default).Z)))).bind fun y9 => chk (0 ≤ x5 ∧ x5 < (y9.length : Int)) ((some (y9.set x5.toNat (Turn.mk ((y9.getD x5.toNat default).W) (Fl.ofInt .f32 (IntKind.i64.wrap (x4 + (1 : Int)))) ((y9.getD x5.toNat default).Y) ((y9.getD x5.toNat default).Z)))).bind fun y12 => chk (0 ≤ x5 ∧ x5 < (y12.length : Int)) ((some (y12.set x5.toNat (Turn.mk ((y12.getD x5.toNat default).W) ((y12.getD x5.toNat default).X) (Fl.ofInt .f32 (IntKind.i64.wrap ((IntKind.i64.wrap (x4 + (1 : Int))) + (1 : Int)))) ((y12.getD x5.toNat default).Z)))).bind fun y15 => chk (0 ≤ x5 ∧ x5 < (y15.length : Int)) ((some (y15.set x5.toNat (Turn.mk ((y15.getD x5.toNat default).W) ((y15.getD x5.toNat default).X) ((y15.getD x5.toNat default).Y) (Fl.ofInt .f32 (IntKind.i64.wrap ((IntKind.i64.wrap ((IntKind.i64.wrap (x4 + (1 : Int))) + (1 : Int))) + (1 : Int))))))).bind fun y18 => laws_markTurnS_l1 K a0 k (IntKind.i64.wrap ((IntKind.i64.wrap ((IntKind.i64.wrap ((IntKind.i64.wrap (x4 + (1 : Int))) + (1 : Int))) + (1 : Int))) + (1 : Int))) (IntKind.i64.wrap (x5 + (1 : Int))) y18))))) (chk (x6.length = a0.length) (some (x4, x6)))

def laws_markTurnS (K : Nat) (a0 : (List Turn)) (a1 : Int) : Option (Int × (List Turn)) :=
  laws_markTurnS_l1 K a0 K a1 (0 : Int) a0

theorem ok_laws_markTurnS (K : Nat) (a0 : (List Turn)) (a1 : Int) (o : (Int × (List Turn))) (h : laws_markTurnS K a0 a1 = some o) : MutOK Try.prog 92 [(.one (.mu (sl 4 cs_Turn a0) (sl 4 cs_Turn o.2))), (.one (.ro (.int .i64 a1)))] [.one (.int .i64 o.1)] := by
  refine mutOK_of_AW 1 Try.func92 rfl (by kernel_rfl) (Nat.le_of_ble_eq_true (by kernel_rfl)) (by kernel_rfl) (by kernel_rfl) ?_
  intro w0 K0 v0 s0
  unfold laws_markTurnS at h
  refine AW.seq ?_
  refine AW.regionA [] [0, 1] [0] (s' := ⟨[(0, (.v (.one (.arr 0)))), (1, (.v (.one (.c (.int .i64 a1)))))], [(0, (.arr true a0.length 4 (gl cs_Turn a0)))]⟩) (ob := True ∧ True) (by kernel_rfl) ⟨trivial, trivial⟩ ?_
  refine thenQ_normal ?_
  refine AW.seq ?_
  refine AW.seq ?_
  refine AW.regionA [] [0, 1, 5] [0] (s' := ⟨[(0, (.v (.one (.arr 0)))), (1, (.v (.one (.c (.int .i64 a1))))), (5, (.v (.one (.c (.int .i64 (0 : Int))))))], [(0, (.arr true a0.length 4 (gl cs_Turn a0)))]⟩) (ob := True ∧ True) (by kernel_rfl) ⟨trivial, trivial⟩ ?_
  refine thenQ_normal ?_
  refine AW.block ?_
  refine AW.loopQ (σ := Nat × Int × Int × (List Turn)) (fun p => ⟨[(0, (.v (.one (.arr 0)))), (1, (.v (.one (.c (.int .i64 p.2.1))))), (5, (.v (.one (.c (.int .i64 p.2.2.1)))))], [(0, (.arr true p.2.2.2.length 4 (gl cs_Turn p.2.2.2)))]⟩) (fun p => laws_markTurnS_l1 K a0 p.1 p.2.1 p.2.2.1 p.2.2.2 = some o) (fun p => p.1) (K, a1, (0 : Int), a0) h ?_
  clear h
  rintro ⟨k, x4, x5, x6⟩ h
  replace h : laws_markTurnS_l1 K a0 k x4 x5 x6 = some o := h
  show AW _ _ (⟨[(0, (.v (.one (.arr 0)))), (1, (.v (.one (.c (.int .i64 x4))))), (5, (.v (.one (.c (.int .i64 x5)))))], [(0, (.arr true x6.length 4 (gl cs_Turn x6)))]⟩ : St) _
  obtain _ | k := k
  · rw [laws_markTurnS_l1] at h; cases h
  rw [laws_markTurnS_l1] at h
  refine AW.seq ?_
  refine AW.seq ?_
  refine AW.regionA [] [0, 1, 5, 9] [0] (s' := ⟨[(0, (.v (.one (.arr 0)))), (1, (.v (.one (.c (.int .i64 x4))))), (5, (.v (.one (.c (.int .i64 x5))))), (9, (.v (.one (.c (.bool (decide (x5 < (x6.length : Int))))))))], [(0, (.arr true x6.length 4 (gl cs_Turn x6)))]⟩) (ob := True ∧ True ∧ True ∧ True ∧ True) (by kernel_rfl) ⟨trivial, trivial, trivial, trivial, trivial⟩ ?_
  refine thenQ_normal ?_
  rcases ite2_cases h with ⟨b7, h⟩ | ⟨b7, h⟩
  · refine AW.cond_t rfl b7 ?_
    refine AW.skip ?_
    refine thenQ_normal ?_
    refine AW.seq ?_
    refine AW.block ?_
    refine AW.seq ?_
    obtain ⟨c8, h⟩ := chk_some h
    obtain ⟨y9, e10, h⟩ := bind_some h
    refine AW.regionA [.no, .no, .no, .no, .no, .no, .set y9.length (gl cs_Turn y9) ((List.range 1).map fun j => (cs_Turn (Turn.mk (Fl.ofInt .f32 x4) ((x6.getD x5.toNat default).X) ((x6.getD x5.toNat default).Y) ((x6.getD x5.toNat default).Z))).getD (0 + j) .nilptr)] [0, 1, 5] [0] (s' := ⟨[(0, (.v (.one (.arr 0)))), (1, (.v (.one (.c (.int .i64 x4))))), (5, (.v (.one (.c (.int .i64 x5)))))], [(0, (.arr true y9.length 4 (gl cs_Turn y9)))]⟩) (ob := True ∧ True ∧ True ∧ True ∧ (0 ≤ x5 ∧ x5 < (x6.length : Int)) ∧ True ∧ (y9.length = x6.length ∧ SetOb x6.length 4 x5.toNat 0 1 (gl cs_Turn x6) (gl cs_Turn y9) ∧ ((List.range 1).map fun j => (cs_Turn (Turn.mk (Fl.ofInt .f32 x4) ((x6.getD x5.toNat default).X) ((x6.getD x5.toNat default).Y) ((x6.getD x5.toNat default).Z))).getD (0 + j) .nilptr) = ((List.range 1).map fun j => gl cs_Turn y9 x5.toNat (0 + j)) ∧ ((((.flt .f32 (Fl.ofInt .f32 x4).bits) : C) = (.flt .f32 (Fl.ofInt .f32 x4).bits) ∧ True) ∧ True) ∧ (true = true → ∀ j, j < 1 → isSeq (gl cs_Turn x6 x5.toNat (0 + j)) = false ∧ isSeq (gl cs_Turn y9 x5.toNat (0 + j)) = false)) ∧ True) (by kernel_rfl) ⟨trivial, trivial, trivial, trivial, c8, trivial, (letP (some_eq e10) (fun z => (z.length = x6.length ∧ SetOb x6.length 4 x5.toNat 0 1 (gl cs_Turn x6) (gl cs_Turn z) ∧ ((List.range 1).map fun j => (cs_Turn (Turn.mk (Fl.ofInt .f32 x4) ((x6.getD x5.toNat default).X) ((x6.getD x5.toNat default).Y) ((x6.getD x5.toNat default).Z))).getD (0 + j) .nilptr) = ((List.range 1).map fun j => gl cs_Turn z x5.toNat (0 + j)) ∧ ((((.flt .f32 (Fl.ofInt .f32 x4).bits) : C) = (.flt .f32 (Fl.ofInt .f32 x4).bits) ∧ True) ∧ True) ∧ (true = true → ∀ j, j < 1 → isSeq (gl cs_Turn x6 x5.toNat (0 + j)) = false ∧ isSeq (gl cs_Turn z x5.toNat (0 + j)) = false))) ⟨List.length_set, gl_setp (fun j hj hn => match j, hj, hn with | 0, _, hn => absurd ⟨by decide, by decide⟩ hn | 1, _, _ => rfl | 2, _, _ => rfl | 3, _, _ => rfl) (lt_of_bound c8), (gl_atp (lt_of_bound c8)).symm, ⟨⟨rfl, trivial⟩, trivial⟩, (fun _ j hj => match j, hj with | 0, _ => ⟨rfl, rfl⟩)⟩), trivial⟩ ?_
    refine thenQ_normal ?_
    refine AW.seq ?_
    refine AW.regionA [] [0, 1, 5] [0] (s' := ⟨[(0, (.v (.one (.arr 0)))), (1, (.v (.one (.c (.int .i64 (IntKind.i64.wrap (x4 + (1 : Int)))))))), (5, (.v (.one (.c (.int .i64 x5)))))], [(0, (.arr true y9.length 4 (gl cs_Turn y9)))]⟩) (ob := True ∧ True ∧ True ∧ True) (by kernel_rfl) ⟨trivial, trivial, trivial, trivial⟩ ?_
    refine thenQ_normal ?_
    refine AW.seq ?_
    obtain ⟨c11, h⟩ := chk_some h
    obtain ⟨y12, e13, h⟩ := bind_some h
    refine AW.regionA [.no, .no, .no, .no, .no, .no, .set y12.length (gl cs_Turn y12) ((List.range 1).map fun j => (cs_Turn (Turn.mk ((y9.getD x5.toNat default).W) (Fl.ofInt .f32 (IntKind.i64.wrap (x4 + (1 : Int)))) ((y9.getD x5.toNat default).Y) ((y9.getD x5.toNat default).Z))).getD (1 + j) .nilptr)] [0, 1, 5] [0] (s' := ⟨[(0, (.v (.one (.arr 0)))), (1, (.v (.one (.c (.int .i64 (IntKind.i64.wrap (x4 + (1 : Int)))))))), (5, (.v (.one (.c (.int .i64 x5)))))], [(0, (.arr true y12.length 4 (gl cs_Turn y12)))]⟩) (ob := True ∧ True ∧ True ∧ True ∧ (0 ≤ x5 ∧ x5 < (y9.length : Int)) ∧ True ∧ (y12.length = y9.length ∧ SetOb y9.length 4 x5.toNat 1 1 (gl cs_Turn y9) (gl cs_Turn y12) ∧ ((List.range 1).map fun j => (cs_Turn (Turn.mk ((y9.getD x5.toNat default).W) (Fl.ofInt .f32 (IntKind.i64.wrap (x4 + (1 : Int)))) ((y9.getD x5.toNat default).Y) ((y9.getD x5.toNat default).Z))).getD (1 + j) .nilptr) = ((List.range 1).map fun j => gl cs_Turn y12 x5.toNat (1 + j)) ∧ ((((.flt .f32 (Fl.ofInt .f32 (IntKind.i64.wrap (x4 + (1 : Int)))).bits) : C) = (.flt .f32 (Fl.ofInt .f32 (IntKind.i64.wrap (x4 + (1 : Int)))).bits) ∧ True) ∧ True) ∧ (true = true → ∀ j, j < 1 → isSeq (gl cs_Turn y9 x5.toNat (1 + j)) = false ∧ isSeq (gl cs_Turn y12 x5.toNat (1 + j)) = false)) ∧ True) (by kernel_rfl) ⟨trivial, trivial, trivial, trivial, c11, trivial, (letP (some_eq e13) (fun z => (z.length = y9.length ∧ SetOb y9.length 4 x5.toNat 1 1 (gl cs_Turn y9) (gl cs_Turn z) ∧ ((List.range 1).map fun j => (cs_Turn (Turn.mk ((y9.getD x5.toNat default).W) (Fl.ofInt .f32 (IntKind.i64.wrap (x4 + (1 : Int)))) ((y9.getD x5.toNat default).Y) ((y9.getD x5.toNat default).Z))).getD (1 + j) .nilptr) = ((List.range 1).map fun j => gl cs_Turn z x5.toNat (1 + j)) ∧ ((((.flt .f32 (Fl.ofInt .f32 (IntKind.i64.wrap (x4 + (1 : Int)))).bits) : C) = (.flt .f32 (Fl.ofInt .f32 (IntKind.i64.wrap (x4 + (1 : Int)))).bits) ∧ True) ∧ True) ∧ (true = true → ∀ j, j < 1 → isSeq (gl cs_Turn y9 x5.toNat (1 + j)) = false ∧ isSeq (gl cs_Turn z x5.toNat (1 + j)) = false))) ⟨List.length_set, gl_setp (fun j hj hn => match j, hj, hn with | 0, _, _ => rfl | 1, _, hn => absurd ⟨by decide, by decide⟩ hn | 2, _, _ => rfl | 3, _, _ => rfl) (lt_of_bound c11), (gl_atp (lt_of_bound c11)).symm, ⟨⟨rfl, trivial⟩, trivial⟩, (fun _ j hj => match j, hj with | 0, _ => ⟨rfl, rfl⟩)⟩), trivial⟩ ?_
    refine thenQ_normal ?_
    refine AW.seq ?_
    refine AW.regionA [] [0, 1, 5] [0] (s' := ⟨[(0, (.v (.one (.arr 0)))), (1, (.v (.one (.c (.int .i64 (IntKind.i64.wrap ((IntKind.i64.wrap (x4 + (1 : Int))) + (1 : Int)))))))), (5, (.v (.one (.c (.int .i64 x5)))))], [(0, (.arr true y12.length 4 (gl cs_Turn y12)))]⟩) (ob := True ∧ True ∧ True ∧ True) (by kernel_rfl) ⟨trivial, trivial, trivial, trivial⟩ ?_
    refine thenQ_normal ?_
    refine AW.seq ?_
    obtain ⟨c14, h⟩ := chk_some h
    obtain ⟨y15, e16, h⟩ := bind_some h
    refine AW.regionA [.no, .no, .no, .no, .no, .no, .set y15.length (gl cs_Turn y15) ((List.range 1).map fun j => (cs_Turn (Turn.mk ((y12.getD x5.toNat default).W) ((y12.getD x5.toNat default).X) (Fl.ofInt .f32 (IntKind.i64.wrap ((IntKind.i64.wrap (x4 + (1 : Int))) + (1 : Int)))) ((y12.getD x5.toNat default).Z))).getD (2 + j) .nilptr)] [0, 1, 5] [0] (s' := ⟨[(0, (.v (.one (.arr 0)))), (1, (.v (.one (.c (.int .i64 (IntKind.i64.wrap ((IntKind.i64.wrap (x4 + (1 : Int))) + (1 : Int)))))))), (5, (.v (.one (.c (.int .i64 x5)))))], [(0, (.arr true y15.length 4 (gl cs_Turn y15)))]⟩) (ob := True ∧ True ∧ True ∧ True ∧ (0 ≤ x5 ∧ x5 < (y12.length : Int)) ∧ True ∧ (y15.length = y12.length ∧ SetOb y12.length 4 x5.toNat 2 1 (gl cs_Turn y12) (gl cs_Turn y15) ∧ ((List.range 1).map fun j => (cs_Turn (Turn.mk ((y12.getD x5.toNat default).W) ((y12.getD x5.toNat default).X) (Fl.ofInt .f32 (IntKind.i64.wrap ((IntKind.i64.wrap (x4 + (1 : Int))) + (1 : Int)))) ((y12.getD x5.toNat default).Z))).getD (2 + j) .nilptr) = ((List.range 1).map fun j => gl cs_Turn y15 x5.toNat (2 + j)) ∧ ((((.flt .f32 (Fl.ofInt .f32 (IntKind.i64.wrap ((IntKind.i64.wrap (x4 + (1 : Int))) + (1 : Int)))).bits) : C) = (.flt .f32 (Fl.ofInt .f32 (IntKind.i64.wrap ((IntKind.i64.wrap (x4 + (1 : Int))) + (1 : Int)))).bits) ∧ True) ∧ True) ∧ (true = true → ∀ j, j < 1 → isSeq (gl cs_Turn y12 x5.toNat (2 + j)) = false ∧ isSeq (gl cs_Turn y15 x5.toNat (2 + j)) = false)) ∧ True) (by kernel_rfl) ⟨trivial, trivial, trivial, trivial, c14, trivial, (letP (some_eq e16) (fun z => (z.length = y12.length ∧ SetOb y12.length 4 x5.toNat 2 1 (gl cs_Turn y12) (gl cs_Turn z) ∧ ((List.range 1).map fun j => (cs_Turn (Turn.mk ((y12.getD x5.toNat default).W) ((y12.getD x5.toNat default).X) (Fl.ofInt .f32 (IntKind.i64.wrap ((IntKind.i64.wrap (x4 + (1 : Int))) + (1 : Int)))) ((y12.getD x5.toNat default).Z))).getD (2 + j) .nilptr) = ((List.range 1).map fun j => gl cs_Turn z x5.toNat (2 + j)) ∧ ((((.flt .f32 (Fl.ofInt .f32 (IntKind.i64.wrap ((IntKind.i64.wrap (x4 + (1 : Int))) + (1 : Int)))).bits) : C) = (.flt .f32 (Fl.ofInt .f32 (IntKind.i64.wrap ((IntKind.i64.wrap (x4 + (1 : Int))) + (1 : Int)))).bits) ∧ True) ∧ True) ∧ (true = true → ∀ j, j < 1 → isSeq (gl cs_Turn y12 x5.toNat (2 + j)) = false ∧ isSeq (gl cs_Turn z x5.toNat (2 + j)) = false))) ⟨List.length_set, gl_setp (fun j hj hn => match j, hj, hn with | 0, _, _ => rfl | 1, _, _ => rfl | 2, _, hn => absurd ⟨by decide, by decide⟩ hn | 3, _, _ => rfl) (lt_of_bound c14), (gl_atp (lt_of_bound c14)).symm, ⟨⟨rfl, trivial⟩, trivial⟩, (fun _ j hj => match j, hj with | 0, _ => ⟨rfl, rfl⟩)⟩), trivial⟩ ?_
    refine thenQ_normal ?_
    refine AW.seq ?_
    refine AW.regionA [] [0, 1, 5] [0] (s' := ⟨[(0, (.v (.one (.arr 0)))), (1, (.v (.one (.c (.int .i64 (IntKind.i64.wrap ((IntKind.i64.wrap ((IntKind.i64.wrap (x4 + (1 : Int))) + (1 : Int))) + (1 : Int)))))))), (5, (.v (.one (.c (.int .i64 x5)))))], [(0, (.arr true y15.length 4 (gl cs_Turn y15)))]⟩) (ob := True ∧ True ∧ True ∧ True) (by kernel_rfl) ⟨trivial, trivial, trivial, trivial⟩ ?_
    refine thenQ_normal ?_
    refine AW.seq ?_
    obtain ⟨c17, h⟩ := chk_some h
    obtain ⟨y18, e19, h⟩ := bind_some h
    refine AW.regionA [.no, .no, .no, .no, .no, .no, .set y18.length (gl cs_Turn y18) ((List.range 1).map fun j => (cs_Turn (Turn.mk ((y15.getD x5.toNat default).W) ((y15.getD x5.toNat default).X) ((y15.getD x5.toNat default).Y) (Fl.ofInt .f32 (IntKind.i64.wrap ((IntKind.i64.wrap ((IntKind.i64.wrap (x4 + (1 : Int))) + (1 : Int))) + (1 : Int)))))).getD (3 + j) .nilptr)] [0, 1, 5] [0] (s' := ⟨[(0, (.v (.one (.arr 0)))), (1, (.v (.one (.c (.int .i64 (IntKind.i64.wrap ((IntKind.i64.wrap ((IntKind.i64.wrap (x4 + (1 : Int))) + (1 : Int))) + (1 : Int)))))))), (5, (.v (.one (.c (.int .i64 x5)))))], [(0, (.arr true y18.length 4 (gl cs_Turn y18)))]⟩) (ob := True ∧ True ∧ True ∧ True ∧ (0 ≤ x5 ∧ x5 < (y15.length : Int)) ∧ True ∧ (y18.length = y15.length ∧ SetOb y15.length 4 x5.toNat 3 1 (gl cs_Turn y15) (gl cs_Turn y18) ∧ ((List.range 1).map fun j => (cs_Turn (Turn.mk ((y15.getD x5.toNat default).W) ((y15.getD x5.toNat default).X) ((y15.getD x5.toNat default).Y) (Fl.ofInt .f32 (IntKind.i64.wrap ((IntKind.i64.wrap ((IntKind.i64.wrap (x4 + (1 : Int))) + (1 : Int))) + (1 : Int)))))).getD (3 + j) .nilptr) = ((List.range 1).map fun j => gl cs_Turn y18 x5.toNat (3 + j)) ∧ ((((.flt .f32 (Fl.ofInt .f32 (IntKind.i64.wrap ((IntKind.i64.wrap ((IntKind.i64.wrap (x4 + (1 : Int))) + (1 : Int))) + (1 : Int)))).bits) : C) = (.flt .f32 (Fl.ofInt .f32 (IntKind.i64.wrap ((IntKind.i64.wrap ((IntKind.i64.wrap (x4 + (1 : Int))) + (1 : Int))) + (1 : Int)))).bits) ∧ True) ∧ True) ∧ (true = true → ∀ j, j < 1 → isSeq (gl cs_Turn y15 x5.toNat (3 + j)) = false ∧ isSeq (gl cs_Turn y18 x5.toNat (3 + j)) = false)) ∧ True) (by kernel_rfl) ⟨trivial, trivial, trivial, trivial, c17, trivial, (letP (some_eq e19) (fun z => (z.length = y15.length ∧ SetOb y15.length 4 x5.toNat 3 1 (gl cs_Turn y15) (gl cs_Turn z) ∧ ((List.range 1).map fun j => (cs_Turn (Turn.mk ((y15.getD x5.toNat default).W) ((y15.getD x5.toNat default).X) ((y15.getD x5.toNat default).Y) (Fl.ofInt .f32 (IntKind.i64.wrap ((IntKind.i64.wrap ((IntKind.i64.wrap (x4 + (1 : Int))) + (1 : Int))) + (1 : Int)))))).getD (3 + j) .nilptr) = ((List.range 1).map fun j => gl cs_Turn z x5.toNat (3 + j)) ∧ ((((.flt .f32 (Fl.ofInt .f32 (IntKind.i64.wrap ((IntKind.i64.wrap ((IntKind.i64.wrap (x4 + (1 : Int))) + (1 : Int))) + (1 : Int)))).bits) : C) = (.flt .f32 (Fl.ofInt .f32 (IntKind.i64.wrap ((IntKind.i64.wrap ((IntKind.i64.wrap (x4 + (1 : Int))) + (1 : Int))) + (1 : Int)))).bits) ∧ True) ∧ True) ∧ (true = true → ∀ j, j < 1 → isSeq (gl cs_Turn y15 x5.toNat (3 + j)) = false ∧ isSeq (gl cs_Turn z x5.toNat (3 + j)) = false))) ⟨List.length_set, gl_setp (fun j hj hn => match j, hj, hn with | 0, _, _ => rfl | 1, _, _ => rfl | 2, _, _ => rfl | 3, _, hn => absurd ⟨by decide, by decide⟩ hn) (lt_of_bound c17), (gl_atp (lt_of_bound c17)).symm, ⟨⟨rfl, trivial⟩, trivial⟩, (fun _ j hj => match j, hj with | 0, _ => ⟨rfl, rfl⟩)⟩), trivial⟩ ?_
    refine thenQ_normal ?_
    refine AW.regionA [] [0, 1, 5] [0] (s' := ⟨[(0, (.v (.one (.arr 0)))), (1, (.v (.one (.c (.int .i64 (IntKind.i64.wrap ((IntKind.i64.wrap ((IntKind.i64.wrap ((IntKind.i64.wrap (x4 + (1 : Int))) + (1 : Int))) + (1 : Int))) + (1 : Int)))))))), (5, (.v (.one (.c (.int .i64 x5)))))], [(0, (.arr true y18.length 4 (gl cs_Turn y18)))]⟩) (ob := True ∧ True ∧ True ∧ True) (by kernel_rfl) ⟨trivial, trivial, trivial, trivial⟩ ?_
    refine blockQ_normal ?_
    refine thenQ_normal ?_
    refine AW.regionA [] [0, 1, 5] [0] (s' := ⟨[(0, (.v (.one (.arr 0)))), (1, (.v (.one (.c (.int .i64 (IntKind.i64.wrap ((IntKind.i64.wrap ((IntKind.i64.wrap ((IntKind.i64.wrap (x4 + (1 : Int))) + (1 : Int))) + (1 : Int))) + (1 : Int)))))))), (5, (.v (.one (.c (.int .i64 (IntKind.i64.wrap (x5 + (1 : Int))))))))], [(0, (.arr true y18.length 4 (gl cs_Turn y18)))]⟩) (ob := True ∧ True ∧ True ∧ True) (by kernel_rfl) ⟨trivial, trivial, trivial, trivial⟩ ?_
    exact loopQ_normal (k, (IntKind.i64.wrap ((IntKind.i64.wrap ((IntKind.i64.wrap ((IntKind.i64.wrap (x4 + (1 : Int))) + (1 : Int))) + (1 : Int))) + (1 : Int))), (IntKind.i64.wrap (x5 + (1 : Int))), y18) h (Nat.lt_succ_self k) (Sub.keep [0, 1, 5] [0] (by kernel_rfl) (by kernel_rfl))
  · refine AW.cond_f rfl b7 ?_
    refine AW.exit ?_
    refine thenQ_exit ?_
    refine loopQ_exit ?_
    refine blockQ_exit ?_
    refine thenQ_normal ?_
    refine AW.seq ?_
    refine AW.regionA [] [0, 1, 4] [0] (s' := ⟨[(0, (.v (.one (.arr 0)))), (1, (.v (.one (.c (.int .i64 x4))))), (4, (.v (.one (.c (.int .i64 x4)))))], [(0, (.arr true x6.length 4 (gl cs_Turn x6)))]⟩) (ob := True ∧ True ∧ True) (by kernel_rfl) ⟨trivial, trivial, trivial⟩ ?_
    refine thenQ_normal ?_
    refine AW.ret ?_
    obtain ⟨c20, h⟩ := chk_some h
    replace h := some_eq h
    subst h
    exact ⟨.inr rfl, retOK_of [(.one (.c (.int .i64 x4)))] (by kernel_rfl) ⟨⟨rfl, trivial⟩, trivial⟩ (of_decide_eq_true (by kernel_rfl)), by kernel_rfl, ⟨⟨c20, rfl, rfl⟩, trivial, trivial⟩⟩

/-! laws.markPoseS -/
def laws_markPoseS_l1 (K : Nat) (a0 : (List Pose)) : Nat → Int → Int → (List Pose) → Option (Int × (List Pose))
  | 0, _, _, _ => none
  | k + 1, x4, x5, x6 => ite2 ((decide (x5 < (x6.length : Int)))) (chk (0 ≤ x5 ∧ x5 < (x6.length : Int)) ((some (x6.set x5.toNat (Pose.mk (Vector.mk (Fl.ofInt .f32 x4) (((x6.getD x5.toNat default).Root).Y) (((x6.getD x5.toNat default).Root).Z)) ((x6.getD x5.toNat default).Turns)))).bind fun y9 => chk (0 ≤ x5 ∧ x5 < (y9.length : Int)) ((some (y9.set x5.toNat (Pose.mk (Vector.mk (((y9.getD x5.toNat default).Root).X) (Fl.ofInt .f32 (IntKind.i64.wrap (x4 + (1 : Int)))) (((y9.getD x5.toNat default).Root).Z)) ((y9.getD x5.toNat default).Turns)))).bind fun y12 => chk (0 ≤ x5 ∧ x5 < (y12.length : Int)) ((some (y12.set x5.toNat (Pose.mk (Vector.mk (((y12.getD x5.toNat default).Root).X) (((y12.getD x5.toNat default).Root).Y) (Fl.ofInt .f32 (IntKind.i64.wrap ((IntKind.i64.wrap (x4 + (1 : Int))) + (1 : Int))))) ((y12.getD x5.toNat default).Turns)))).bind fun y15 => chk (0 ≤ x5 ∧ x5 < (y15.length : Int)) ((laws_markTurnS K ((y15.getD x5.toNat default).Turns) (IntKind.i64.wrap ((IntKind.i64.wrap ((IntKind.i64.wrap (x4 + (1 : Int))) + (1 : Int))) + (1 : Int)))).bind fun v18 => laws_markPoseS_l1 K a0 k v18.1 (IntKind.i64.wrap (x5 + (1 : Int))) (y15.set x5.toNat (Pose.mk ((y15.getD x5.toNat default).Root) v18.2))))))) (chk (x6.length = a0.length) (some (x4, x6)))

def laws_markPoseS (K : Nat) (a0 : (List Pose)) (a1 : Int) : Option (Int × (List Pose)) :=
  laws_markPoseS_l1 K a0 K a1 (0 : Int) a0

theorem ok_laws_markPoseS (K : Nat) (a0 : (List Pose)) (a1 : Int) (o : (Int × (List Pose))) (h : laws_markPoseS K a0 a1 = some o) : MutOK Try.prog 78 [(.one (.mu (sl 4 cs_Pose a0) (sl 4 cs_Pose o.2))), (.one (.ro (.int .i64 a1)))] [.one (.int .i64 o.1)] := by
  refine mutOK_of_AW 1 Try.func78 rfl (by kernel_rfl) (Nat.le_of_ble_eq_true (by kernel_rfl)) (by kernel_rfl) (by kernel_rfl) ?_
  intro w0 K0 v0 s0
  unfold laws_markPoseS at h
  refine AW.seq ?_
  refine AW.regionA [] [0, 1] [0] (s' := ⟨[(0, (.v (.one (.arr 0)))), (1, (.v (.one (.c (.int .i64 a1)))))], [(0, (.arr true a0.length 4 (gl cs_Pose a0)))]⟩) (ob := True ∧ True) (by kernel_rfl) ⟨trivial, trivial⟩ ?_
  refine thenQ_normal ?_
  refine AW.seq ?_
  refine AW.seq ?_
  refine AW.regionA [] [0, 1, 5] [0] (s' := ⟨[(0, (.v (.one (.arr 0)))), (1, (.v (.one (.c (.int .i64 a1))))), (5, (.v (.one (.c (.int .i64 (0 : Int))))))], [(0, (.arr true a0.length 4 (gl cs_Pose a0)))]⟩) (ob := True ∧ True) (by kernel_rfl) ⟨trivial, trivial⟩ ?_
  refine thenQ_normal ?_
  refine AW.block ?_
  refine AW.loopQ (σ := Nat × Int × Int × (List Pose)) (fun p => ⟨[(0, (.v (.one (.arr 0)))), (1, (.v (.one (.c (.int .i64 p.2.1))))), (5, (.v (.one (.c (.int .i64 p.2.2.1)))))], [(0, (.arr true p.2.2.2.length 4 (gl cs_Pose p.2.2.2)))]⟩) (fun p => laws_markPoseS_l1 K a0 p.1 p.2.1 p.2.2.1 p.2.2.2 = some o) (fun p => p.1) (K, a1, (0 : Int), a0) h ?_
  clear h
  rintro ⟨k, x4, x5, x6⟩ h
  replace h : laws_markPoseS_l1 K a0 k x4 x5 x6 = some o := h
  show AW _ _ (⟨[(0, (.v (.one (.arr 0)))), (1, (.v (.one (.c (.int .i64 x4))))), (5, (.v (.one (.c (.int .i64 x5)))))], [(0, (.arr true x6.length 4 (gl cs_Pose x6)))]⟩ : St) _
  obtain _ | k := k
  · rw [laws_markPoseS_l1] at h; cases h
  rw [laws_markPoseS_l1] at h
  refine AW.seq ?_
  refine AW.seq ?_
  refine AW.regionA [] [0, 1, 5, 9] [0] (s' := ⟨[(0, (.v (.one (.arr 0)))), (1, (.v (.one (.c (.int .i64 x4))))), (5, (.v (.one (.c (.int .i64 x5))))), (9, (.v (.one (.c (.bool (decide (x5 < (x6.length : Int))))))))], [(0, (.arr true x6.length 4 (gl cs_Pose x6)))]⟩) (ob := True ∧ True ∧ True ∧ True ∧ True) (by kernel_rfl) ⟨trivial, trivial, trivial, trivial, trivial⟩ ?_
  refine thenQ_normal ?_
  rcases ite2_cases h with ⟨b7, h⟩ | ⟨b7, h⟩
  · refine AW.cond_t rfl b7 ?_
    refine AW.skip ?_
    refine thenQ_normal ?_
    refine AW.seq ?_
    refine AW.block ?_
    refine AW.seq ?_
    obtain ⟨c8, h⟩ := chk_some h
    obtain ⟨y9, e10, h⟩ := bind_some h
    refine AW.regionA [.no, .no, .no, .no, .no, .no, .no, .set y9.length (gl cs_Pose y9) ((List.range 1).map fun j => (cs_Pose (Pose.mk (Vector.mk (Fl.ofInt .f32 x4) (((x6.getD x5.toNat default).Root).Y) (((x6.getD x5.toNat default).Root).Z)) ((x6.getD x5.toNat default).Turns))).getD (0 + j) .nilptr)] [0, 1, 5] [0] (s' := ⟨[(0, (.v (.one (.arr 0)))), (1, (.v (.one (.c (.int .i64 x4))))), (5, (.v (.one (.c (.int .i64 x5)))))], [(0, (.arr true y9.length 4 (gl cs_Pose y9)))]⟩) (ob := True ∧ True ∧ True ∧ True ∧ (0 ≤ x5 ∧ x5 < (x6.length : Int)) ∧ True ∧ True ∧ (y9.length = x6.length ∧ SetOb x6.length 4 x5.toNat 0 1 (gl cs_Pose x6) (gl cs_Pose y9) ∧ ((List.range 1).map fun j => (cs_Pose (Pose.mk (Vector.mk (Fl.ofInt .f32 x4) (((x6.getD x5.toNat default).Root).Y) (((x6.getD x5.toNat default).Root).Z)) ((x6.getD x5.toNat default).Turns))).getD (0 + j) .nilptr) = ((List.range 1).map fun j => gl cs_Pose y9 x5.toNat (0 + j)) ∧ ((((.flt .f32 (Fl.ofInt .f32 x4).bits) : C) = (.flt .f32 (Fl.ofInt .f32 x4).bits) ∧ True) ∧ True) ∧ (true = true → ∀ j, j < 1 → isSeq (gl cs_Pose x6 x5.toNat (0 + j)) = false ∧ isSeq (gl cs_Pose y9 x5.toNat (0 + j)) = false)) ∧ True) (by kernel_rfl) ⟨trivial, trivial, trivial, trivial, c8, trivial, trivial, (letP (some_eq e10) (fun z => (z.length = x6.length ∧ SetOb x6.length 4 x5.toNat 0 1 (gl cs_Pose x6) (gl cs_Pose z) ∧ ((List.range 1).map fun j => (cs_Pose (Pose.mk (Vector.mk (Fl.ofInt .f32 x4) (((x6.getD x5.toNat default).Root).Y) (((x6.getD x5.toNat default).Root).Z)) ((x6.getD x5.toNat default).Turns))).getD (0 + j) .nilptr) = ((List.range 1).map fun j => gl cs_Pose z x5.toNat (0 + j)) ∧ ((((.flt .f32 (Fl.ofInt .f32 x4).bits) : C) = (.flt .f32 (Fl.ofInt .f32 x4).bits) ∧ True) ∧ True) ∧ (true = true → ∀ j, j < 1 → isSeq (gl cs_Pose x6 x5.toNat (0 + j)) = false ∧ isSeq (gl cs_Pose z x5.toNat (0 + j)) = false))) ⟨List.length_set, gl_setp (fun j hj hn => match j, hj, hn with | 0, _, hn => absurd ⟨by decide, by decide⟩ hn | 1, _, _ => rfl | 2, _, _ => rfl | 3, _, _ => rfl) (lt_of_bound c8), (gl_atp (lt_of_bound c8)).symm, ⟨⟨rfl, trivial⟩, trivial⟩, (fun _ j hj => match j, hj with | 0, _ => ⟨rfl, rfl⟩)⟩), trivial⟩ ?_
    refine thenQ_normal ?_
    refine AW.seq ?_
    refine AW.regionA [] [0, 1, 5] [0] (s' := ⟨[(0, (.v (.one (.arr 0)))), (1, (.v (.one (.c (.int .i64 (IntKind.i64.wrap (x4 + (1 : Int)))))))), (5, (.v (.one (.c (.int .i64 x5)))))], [(0, (.arr true y9.length 4 (gl cs_Pose y9)))]⟩) (ob := True ∧ True ∧ True ∧ True) (by kernel_rfl) ⟨trivial, trivial, trivial, trivial⟩ ?_
    refine thenQ_normal ?_
    refine AW.seq ?_
    obtain ⟨c11, h⟩ := chk_some h
    obtain ⟨y12, e13, h⟩ := bind_some h
    refine AW.regionA [.no, .no, .no, .no, .no, .no, .no, .set y12.length (gl cs_Pose y12) ((List.range 1).map fun j => (cs_Pose (Pose.mk (Vector.mk (((y9.getD x5.toNat default).Root).X) (Fl.ofInt .f32 (IntKind.i64.wrap (x4 + (1 : Int)))) (((y9.getD x5.toNat default).Root).Z)) ((y9.getD x5.toNat default).Turns))).getD (1 + j) .nilptr)] [0, 1, 5] [0] (s' := ⟨[(0, (.v (.one (.arr 0)))), (1, (.v (.one (.c (.int .i64 (IntKind.i64.wrap (x4 + (1 : Int)))))))), (5, (.v (.one (.c (.int .i64 x5)))))], [(0, (.arr true y12.length 4 (gl cs_Pose y12)))]⟩) (ob := True ∧ True ∧ True ∧ True ∧ (0 ≤ x5 ∧ x5 < (y9.length : Int)) ∧ True ∧ True ∧ (y12.length = y9.length ∧ SetOb y9.length 4 x5.toNat 1 1 (gl cs_Pose y9) (gl cs_Pose y12) ∧ ((List.range 1).map fun j => (cs_Pose (Pose.mk (Vector.mk (((y9.getD x5.toNat default).Root).X) (Fl.ofInt .f32 (IntKind.i64.wrap (x4 + (1 : Int)))) (((y9.getD x5.toNat default).Root).Z)) ((y9.getD x5.toNat default).Turns))).getD (1 + j) .nilptr) = ((List.range 1).map fun j => gl cs_Pose y12 x5.toNat (1 + j)) ∧ ((((.flt .f32 (Fl.ofInt .f32 (IntKind.i64.wrap (x4 + (1 : Int)))).bits) : C) = (.flt .f32 (Fl.ofInt .f32 (IntKind.i64.wrap (x4 + (1 : Int)))).bits) ∧ True) ∧ True) ∧ (true = true → ∀ j, j < 1 → isSeq (gl cs_Pose y9 x5.toNat (1 + j)) = false ∧ isSeq (gl cs_Pose y12 x5.toNat (1 + j)) = false)) ∧ True) (by kernel_rfl) ⟨trivial, trivial, trivial, trivial, c11, trivial, trivial, (letP (some_eq e13) (fun z => (z.length = y9.length ∧ SetOb y9.length 4 x5.toNat 1 1 (gl cs_Pose y9) (gl cs_Pose z) ∧ ((List.range 1).map fun j => (cs_Pose (Pose.mk (Vector.mk (((y9.getD x5.toNat default).Root).X) (Fl.ofInt .f32 (IntKind.i64.wrap (x4 + (1 : Int)))) (((y9.getD x5.toNat default).Root).Z)) ((y9.getD x5.toNat default).Turns))).getD (1 + j) .nilptr) = ((List.range 1).map fun j => gl cs_Pose z x5.toNat (1 + j)) ∧ ((((.flt .f32 (Fl.ofInt .f32 (IntKind.i64.wrap (x4 + (1 : Int)))).bits) : C) = (.flt .f32 (Fl.ofInt .f32 (IntKind.i64.wrap (x4 + (1 : Int)))).bits) ∧ True) ∧ True) ∧ (true = true → ∀ j, j < 1 → isSeq (gl cs_Pose y9 x5.toNat (1 + j)) = false ∧ isSeq (gl cs_Pose z x5.toNat (1 + j)) = false))) ⟨List.length_set, gl_setp (fun j hj hn => match j, hj, hn with | 0, _, _ => rfl | 1, _, hn => absurd ⟨by decide, by decide⟩ hn | 2, _, _ => rfl | 3, _, _ => rfl) (lt_of_bound c11), (gl_atp (lt_of_bound c11)).symm, ⟨⟨rfl, trivial⟩, trivial⟩, (fun _ j hj => match j, hj with | 0, _ => ⟨rfl, rfl⟩)⟩), trivial⟩ ?_
    refine thenQ_normal ?_
    refine AW.seq ?_
    refine AW.regionA [] [0, 1, 5] [0] (s' := ⟨[(0, (.v (.one (.arr 0)))), (1, (.v (.one (.c (.int .i64 (IntKind.i64.wrap ((IntKind.i64.wrap (x4 + (1 : Int))) + (1 : Int)))))))), (5, (.v (.one (.c (.int .i64 x5)))))], [(0, (.arr true y12.length 4 (gl cs_Pose y12)))]⟩) (ob := True ∧ True ∧ True ∧ True) (by kernel_rfl) ⟨trivial, trivial, trivial, trivial⟩ ?_
    refine thenQ_normal ?_
    refine AW.seq ?_
    obtain ⟨c14, h⟩ := chk_some h
    obtain ⟨y15, e16, h⟩ := bind_some h
    refine AW.regionA [.no, .no, .no, .no, .no, .no, .no, .set y15.length (gl cs_Pose y15) ((List.range 1).map fun j => (cs_Pose (Pose.mk (Vector.mk (((y12.getD x5.toNat default).Root).X) (((y12.getD x5.toNat default).Root).Y) (Fl.ofInt .f32 (IntKind.i64.wrap ((IntKind.i64.wrap (x4 + (1 : Int))) + (1 : Int))))) ((y12.getD x5.toNat default).Turns))).getD (2 + j) .nilptr)] [0, 1, 5] [0] (s' := ⟨[(0, (.v (.one (.arr 0)))), (1, (.v (.one (.c (.int .i64 (IntKind.i64.wrap ((IntKind.i64.wrap (x4 + (1 : Int))) + (1 : Int)))))))), (5, (.v (.one (.c (.int .i64 x5)))))], [(0, (.arr true y15.length 4 (gl cs_Pose y15)))]⟩) (ob := True ∧ True ∧ True ∧ True ∧ (0 ≤ x5 ∧ x5 < (y12.length : Int)) ∧ True ∧ True ∧ (y15.length = y12.length ∧ SetOb y12.length 4 x5.toNat 2 1 (gl cs_Pose y12) (gl cs_Pose y15) ∧ ((List.range 1).map fun j => (cs_Pose (Pose.mk (Vector.mk (((y12.getD x5.toNat default).Root).X) (((y12.getD x5.toNat default).Root).Y) (Fl.ofInt .f32 (IntKind.i64.wrap ((IntKind.i64.wrap (x4 + (1 : Int))) + (1 : Int))))) ((y12.getD x5.toNat default).Turns))).getD (2 + j) .nilptr) = ((List.range 1).map fun j => gl cs_Pose y15 x5.toNat (2 + j)) ∧ ((((.flt .f32 (Fl.ofInt .f32 (IntKind.i64.wrap ((IntKind.i64.wrap (x4 + (1 : Int))) + (1 : Int)))).bits) : C) = (.flt .f32 (Fl.ofInt .f32 (IntKind.i64.wrap ((IntKind.i64.wrap (x4 + (1 : Int))) + (1 : Int)))).bits) ∧ True) ∧ True) ∧ (true = true → ∀ j, j < 1 → isSeq (gl cs_Pose y12 x5.toNat (2 + j)) = false ∧ isSeq (gl cs_Pose y15 x5.toNat (2 + j)) = false)) ∧ True) (by kernel_rfl) ⟨trivial, trivial, trivial, trivial, c14, trivial, trivial, (letP (some_eq e16) (fun z => (z.length = y12.length ∧ SetOb y12.length 4 x5.toNat 2 1 (gl cs_Pose y12) (gl cs_Pose z) ∧ ((List.range 1).map fun j => (cs_Pose (Pose.mk (Vector.mk (((y12.getD x5.toNat default).Root).X) (((y12.getD x5.toNat default).Root).Y) (Fl.ofInt .f32 (IntKind.i64.wrap ((IntKind.i64.wrap (x4 + (1 : Int))) + (1 : Int))))) ((y12.getD x5.toNat default).Turns))).getD (2 + j) .nilptr) = ((List.range 1).map fun j => gl cs_Pose z x5.toNat (2 + j)) ∧ ((((.flt .f32 (Fl.ofInt .f32 (IntKind.i64.wrap ((IntKind.i64.wrap (x4 + (1 : Int))) + (1 : Int)))).bits) : C) = (.flt .f32 (Fl.ofInt .f32 (IntKind.i64.wrap ((IntKind.i64.wrap (x4 + (1 : Int))) + (1 : Int)))).bits) ∧ True) ∧ True) ∧ (true = true → ∀ j, j < 1 → isSeq (gl cs_Pose y12 x5.toNat (2 + j)) = false ∧ isSeq (gl cs_Pose z x5.toNat (2 + j)) = false))) ⟨List.length_set, gl_setp (fun j hj hn => match j, hj, hn with | 0, _, _ => rfl | 1, _, _ => rfl | 2, _, hn => absurd ⟨by decide, by decide⟩ hn | 3, _, _ => rfl) (lt_of_bound c14), (gl_atp (lt_of_bound c14)).symm, ⟨⟨rfl, trivial⟩, trivial⟩, (fun _ j hj => match j, hj with | 0, _ => ⟨rfl, rfl⟩)⟩), trivial⟩ ?_
    refine thenQ_normal ?_
    refine AW.seq ?_
    refine AW.regionA [] [0, 1, 5] [0] (s' := ⟨[(0, (.v (.one (.arr 0)))), (1, (.v (.one (.c (.int .i64 (IntKind.i64.wrap ((IntKind.i64.wrap ((IntKind.i64.wrap (x4 + (1 : Int))) + (1 : Int))) + (1 : Int)))))))), (5, (.v (.one (.c (.int .i64 x5)))))], [(0, (.arr true y15.length 4 (gl cs_Pose y15)))]⟩) (ob := True ∧ True ∧ True ∧ True) (by kernel_rfl) ⟨trivial, trivial, trivial, trivial⟩ ?_
    refine thenQ_normal ?_
    obtain ⟨c17, h⟩ := chk_some h
    obtain ⟨v18, e19, h⟩ := bind_some h
    refine AW.regionA [.no, .no, .no, .no, .no, .no, .callM [(.one (.mu (sl 4 cs_Turn ((y15.getD x5.toNat default).Turns)) (sl 4 cs_Turn v18.2))), .one (.ro (.int .i64 (IntKind.i64.wrap ((IntKind.i64.wrap ((IntKind.i64.wrap (x4 + (1 : Int))) + (1 : Int))) + (1 : Int)))))] [.one (.int .i64 v18.1)] [[.view]] (some ((y15.set x5.toNat (Pose.mk ((y15.getD x5.toNat default).Root) v18.2)).length, gl cs_Pose (y15.set x5.toNat (Pose.mk ((y15.getD x5.toNat default).Root) v18.2))))] [0, 1, 5] [0] (s' := ⟨[(0, (.v (.one (.arr 0)))), (1, (.v (.one (.c (.int .i64 v18.1))))), (5, (.v (.one (.c (.int .i64 x5)))))], [(0, (.arr true (y15.set x5.toNat (Pose.mk ((y15.getD x5.toNat default).Root) v18.2)).length 4 (gl cs_Pose (y15.set x5.toNat (Pose.mk ((y15.getD x5.toNat default).Root) v18.2)))))]⟩) (ob := True ∧ True ∧ (0 ≤ x5 ∧ x5 < (y15.length : Int)) ∧ True ∧ True ∧ True ∧ ((((y15.set x5.toNat (Pose.mk ((y15.getD x5.toNat default).Root) v18.2)).length = y15.length ∧ ((sl 4 cs_Turn ((y15.getD x5.toNat default).Turns)) : C) = gl cs_Pose y15 x5.toNat 3 ∧ gl cs_Pose (y15.set x5.toNat (Pose.mk ((y15.getD x5.toNat default).Root) v18.2)) x5.toNat 3 = ((sl 4 cs_Turn v18.2) : C) ∧ isSeq (sl 4 cs_Turn v18.2) = true ∧ SetOb y15.length 4 x5.toNat 3 1 (gl cs_Pose y15) (gl cs_Pose (y15.set x5.toNat (Pose.mk ((y15.getD x5.toNat default).Root) v18.2)))) ∧ (((.int .i64 (IntKind.i64.wrap ((IntKind.i64.wrap ((IntKind.i64.wrap (x4 + (1 : Int))) + (1 : Int))) + (1 : Int)))) : C) = (.int .i64 (IntKind.i64.wrap ((IntKind.i64.wrap ((IntKind.i64.wrap (x4 + (1 : Int))) + (1 : Int))) + (1 : Int))))) ∧ True) ∧ MutOK Try.prog 92 [(.one (.mu (sl 4 cs_Turn ((y15.getD x5.toNat default).Turns)) (sl 4 cs_Turn v18.2))), .one (.ro (.int .i64 (IntKind.i64.wrap ((IntKind.i64.wrap ((IntKind.i64.wrap (x4 + (1 : Int))) + (1 : Int))) + (1 : Int)))))] [.one (.int .i64 v18.1)]) ∧ True ∧ True) (by kernel_rfl) ⟨trivial, trivial, c17, trivial, trivial, trivial, ⟨⟨⟨List.length_set, rfl, gl_cell (lt_of_bound c17) rfl, rfl, gl_setp (fun j hj hn => match j, hj, hn with | 0, _, _ => rfl | 1, _, _ => rfl | 2, _, _ => rfl | 3, _, hn => absurd ⟨by decide, by decide⟩ hn) (lt_of_bound c17)⟩, rfl, trivial⟩, ok_laws_markTurnS K ((y15.getD x5.toNat default).Turns) (IntKind.i64.wrap ((IntKind.i64.wrap ((IntKind.i64.wrap (x4 + (1 : Int))) + (1 : Int))) + (1 : Int))) v18 e19⟩, trivial, trivial⟩ ?_
    refine blockQ_normal ?_
    refine thenQ_normal ?_
    refine AW.regionA [] [0, 1, 5] [0] (s' := ⟨[(0, (.v (.one (.arr 0)))), (1, (.v (.one (.c (.int .i64 v18.1))))), (5, (.v (.one (.c (.int .i64 (IntKind.i64.wrap (x5 + (1 : Int))))))))], [(0, (.arr true (y15.set x5.toNat (Pose.mk ((y15.getD x5.toNat default).Root) v18.2)).length 4 (gl cs_Pose (y15.set x5.toNat (Pose.mk ((y15.getD x5.toNat default).Root) v18.2)))))]⟩) (ob := True ∧ True ∧ True ∧ True) (by kernel_rfl) ⟨trivial, trivial, trivial, trivial⟩ ?_
    exact loopQ_normal (k, v18.1, (IntKind.i64.wrap (x5 + (1 : Int))), (y15.set x5.toNat (Pose.mk ((y15.getD x5.toNat default).Root) v18.2))) h (Nat.lt_succ_self k) (Sub.keep [0, 1, 5] [0] (by kernel_rfl) (by kernel_rfl))
  · refine AW.cond_f rfl b7 ?_
    refine AW.exit ?_
    refine thenQ_exit ?_
    refine loopQ_exit ?_
    refine blockQ_exit ?_
    refine thenQ_normal ?_
    refine AW.seq ?_
    refine AW.regionA [] [0, 1, 4] [0] (s' := ⟨[(0, (.v (.one (.arr 0)))), (1, (.v (.one (.c (.int .i64 x4))))), (4, (.v (.one (.c (.int .i64 x4)))))], [(0, (.arr true x6.length 4 (gl cs_Pose x6)))]⟩) (ob := True ∧ True ∧ True) (by kernel_rfl) ⟨trivial, trivial, trivial⟩ ?_
    refine thenQ_normal ?_
    refine AW.ret ?_
    obtain ⟨c20, h⟩ := chk_some h
    replace h := some_eq h
    subst h
    exact ⟨.inr rfl, retOK_of [(.one (.c (.int .i64 x4)))] (by kernel_rfl) ⟨⟨rfl, trivial⟩, trivial⟩ (of_decide_eq_true (by kernel_rfl)), by kernel_rfl, ⟨⟨c20, rfl, rfl⟩, trivial, trivial⟩⟩

/-! laws.markRecording -/
def laws_markRecording (K : Nat) (a0 : Recording) (a1 : Int) : Option (Int × (List Pose)) :=
  (laws_markPoseS K a0.Frames a1).bind fun v1 => chk (v1.2.length = a0.Frames.length) (chk (v1.2.length = a0.Frames.length) (some (v1.1, v1.2)))

theorem ok_laws_markRecording (K : Nat) (a0 : Recording) (a1 : Int) (o : (Int × (List Pose))) (h : laws_markRecording K a0 a1 = some o) : MutOK Try.prog 26 [(.agg [(.ro (.int .i64 a0.Bones)), (.mu (sl 4 cs_Pose a0.Frames) (sl 4 cs_Pose o.2))]), (.one (.ro (.int .i64 a1)))] [.one (.int .i64 o.1)] := by
  refine mutOK_of_AW 1 Try.func26 rfl (by kernel_rfl) (Nat.le_of_ble_eq_true (by kernel_rfl)) (by kernel_rfl) (by kernel_rfl) ?_
  intro w0 K0 v0 s0
  unfold laws_markRecording at h
  refine AW.seq ?_
  refine AW.regionA [.box 1] [0, 1, 2] [0, 1] (s' := ⟨[(0, (.v (.agg [(.c (.int .i64 a0.Bones)), (.arr 0)]))), (1, (.v (.one (.c (.int .i64 a1))))), (2, (.v (.one (.ptr 1 0))))], [(0, (.arr true a0.Frames.length 4 (gl cs_Pose a0.Frames))), (1, (.box [(.c (.int .i64 a0.Bones)), (.arr 0)]))]⟩) (ob := True ∧ True ∧ True) (by kernel_rfl) ⟨trivial, trivial, trivial⟩ ?_
  refine thenQ_normal ?_
  refine AW.seq ?_
  obtain ⟨v1, e2, h⟩ := bind_some h
  obtain ⟨c3, h⟩ := chk_some h
  refine AW.regionA [.no, .no, .no, .callM [(.one (.mu (sl 4 cs_Pose a0.Frames) (sl 4 cs_Pose v1.2))), .one (.ro (.int .i64 a1))] [.one (.int .i64 v1.1)] [[.view]] none] [0, 1] [0] (s' := ⟨[(0, (.v (.agg [(.c (.int .i64 a0.Bones)), (.arr 0)]))), (1, (.v (.one (.c (.int .i64 v1.1)))))], [(0, (.arr true v1.2.length 4 (gl cs_Pose v1.2)))]⟩) (ob := True ∧ True ∧ True ∧ (((((sl 4 cs_Pose a0.Frames) : C) = (sl 4 cs_Pose a0.Frames) ∧ v1.2.length = a0.Frames.length ∧ 4 = 4 ∧ ∀ i j, i < a0.Frames.length → j < 4 → isSeq (gl cs_Pose v1.2 i j) = isSeq (gl cs_Pose a0.Frames i j)) ∧ (((.int .i64 a1) : C) = (.int .i64 a1)) ∧ True) ∧ MutOK Try.prog 78 [(.one (.mu (sl 4 cs_Pose a0.Frames) (sl 4 cs_Pose v1.2))), .one (.ro (.int .i64 a1))] [.one (.int .i64 v1.1)]) ∧ True ∧ True) (by kernel_rfl) ⟨trivial, trivial, trivial, ⟨⟨⟨rfl, c3, rfl, gl_seq sq_Pose⟩, rfl, trivial⟩, ok_laws_markPoseS K a0.Frames a1 v1 e2⟩, trivial, trivial⟩ ?_
  refine thenQ_normal ?_
  refine AW.seq ?_
  refine AW.regionA [] [0, 1, 4] [0] (s' := ⟨[(0, (.v (.agg [(.c (.int .i64 a0.Bones)), (.arr 0)]))), (1, (.v (.one (.c (.int .i64 v1.1))))), (4, (.v (.one (.c (.int .i64 v1.1)))))], [(0, (.arr true v1.2.length 4 (gl cs_Pose v1.2)))]⟩) (ob := True ∧ True ∧ True) (by kernel_rfl) ⟨trivial, trivial, trivial⟩ ?_
  refine thenQ_normal ?_
  refine AW.ret ?_
  obtain ⟨c4, h⟩ := chk_some h
  replace h := some_eq h
  subst h
  exact ⟨.inr rfl, retOK_of [(.one (.c (.int .i64 v1.1)))] (by kernel_rfl) ⟨⟨rfl, trivial⟩, trivial⟩ (of_decide_eq_true (by kernel_rfl)), by kernel_rfl, ⟨⟨trivial, ⟨c4, rfl, rfl⟩, trivial⟩, trivial, trivial⟩⟩

/-! laws.heldTurnS -/
def laws_heldTurnS_l1 (K : Nat) (a0 : (List Turn)) : Nat → Int → Int → Option (Int)
  | 0, _, _ => none
  | k + 1, x3, x4 => ite2 ((decide (x4 < (a0.length : Int)))) (chk (0 ≤ x4 ∧ x4 < (a0.length : Int)) (ite2 ((((a0.getD x4.toNat default).W).ne (Fl.ofInt .f32 x3))) (some ((-1) : Int)) (ite2 ((((a0.getD x4.toNat default).X).ne (Fl.ofInt .f32 (IntKind.i64.wrap (x3 + (1 : Int)))))) (some ((-1) : Int)) (ite2 ((((a0.getD x4.toNat default).Y).ne (Fl.ofInt .f32 (IntKind.i64.wrap ((IntKind.i64.wrap (x3 + (1 : Int))) + (1 : Int)))))) (some ((-1) : Int)) (ite2 ((((a0.getD x4.toNat default).Z).ne (Fl.ofInt .f32 (IntKind.i64.wrap ((IntKind.i64.wrap ((IntKind.i64.wrap (x3 + (1 : Int))) + (1 : Int))) + (1 : Int)))))) (some ((-1) : Int)) (laws_heldTurnS_l1 K a0 k (IntKind.i64.wrap ((IntKind.i64.wrap ((IntKind.i64.wrap ((IntKind.i64.wrap (x3 + (1 : Int))) + (1 : Int))) + (1 : Int))) + (1 : Int))) (IntKind.i64.wrap (x4 + (1 : Int))))))))) (some x3)

def laws_heldTurnS (K : Nat) (a0 : (List Turn)) (a1 : Int) : Option (Int) :=
  laws_heldTurnS_l1 K a0 K a1 (0 : Int)

theorem ok_laws_heldTurnS (K : Nat) (a0 : (List Turn)) (a1 : Int) (o : (Int)) (h : laws_heldTurnS K a0 a1 = some o) : CallOK Try.prog 124 [.one (sl 4 cs_Turn a0), .one (.int .i64 a1)] [.one (.int .i64 o)] := by
  refine callOK_of_AW Try.func124 rfl (by kernel_rfl) (Nat.le_of_ble_eq_true (by kernel_rfl)) ?_
  intro w0
  unfold laws_heldTurnS at h
  refine AW.seq ?_
  refine AW.regionA [] [0, 1] [] (s' := ⟨[(0, (.v (.one (.c (sl 4 cs_Turn a0))))), (1, (.v (.one (.c (.int .i64 a1)))))], []⟩) (ob := True ∧ True) (by kernel_rfl) ⟨trivial, trivial⟩ ?_
  refine thenQ_normal ?_
  refine AW.seq ?_
  refine AW.seq ?_
  refine AW.regionA [] [0, 1, 5] [] (s' := ⟨[(0, (.v (.one (.c (sl 4 cs_Turn a0))))), (1, (.v (.one (.c (.int .i64 a1))))), (5, (.v (.one (.c (.int .i64 (0 : Int))))))], []⟩) (ob := True ∧ True) (by kernel_rfl) ⟨trivial, trivial⟩ ?_
  refine thenQ_normal ?_
  refine AW.block ?_
  refine AW.loopQ (σ := Nat × Int × Int) (fun p => ⟨[(0, (.v (.one (.c (sl 4 cs_Turn a0))))), (1, (.v (.one (.c (.int .i64 p.2.1))))), (5, (.v (.one (.c (.int .i64 p.2.2)))))], []⟩) (fun p => laws_heldTurnS_l1 K a0 p.1 p.2.1 p.2.2 = some o) (fun p => p.1) (K, a1, (0 : Int)) h ?_
  clear h
  rintro ⟨k, x3, x4⟩ h
  replace h : laws_heldTurnS_l1 K a0 k x3 x4 = some o := h
  show AW _ _ (⟨[(0, (.v (.one (.c (sl 4 cs_Turn a0))))), (1, (.v (.one (.c (.int .i64 x3))))), (5, (.v (.one (.c (.int .i64 x4)))))], []⟩ : St) _
  obtain _ | k := k
  · rw [laws_heldTurnS_l1] at h; cases h
  rw [laws_heldTurnS_l1] at h
  refine AW.seq ?_
  refine AW.seq ?_
  refine AW.regionA [] [0, 1, 5, 9] [] (s' := ⟨[(0, (.v (.one (.c (sl 4 cs_Turn a0))))), (1, (.v (.one (.c (.int .i64 x3))))), (5, (.v (.one (.c (.int .i64 x4))))), (9, (.v (.one (.c (.bool (decide (x4 < (a0.length : Int))))))))], []⟩) (ob := True ∧ True ∧ True ∧ True ∧ True) (by kernel_rfl) ⟨trivial, trivial, trivial, trivial, trivial⟩ ?_
  refine thenQ_normal ?_
  rcases ite2_cases h with ⟨b5, h⟩ | ⟨b5, h⟩
  · refine AW.cond_t rfl b5 ?_
    refine AW.skip ?_
    refine thenQ_normal ?_
    refine AW.seq ?_
    refine AW.block ?_
    refine AW.seq ?_
    refine AW.seq ?_
    obtain ⟨c6, h⟩ := chk_some h
    refine AW.regionA [] [0, 1, 5, 19] [] (s' := ⟨[(0, (.v (.one (.c (sl 4 cs_Turn a0))))), (1, (.v (.one (.c (.int .i64 x3))))), (5, (.v (.one (.c (.int .i64 x4))))), (19, (.v (.one (.c (.bool (((a0.getD x4.toNat default).W).ne (Fl.ofInt .f32 x3)))))))], []⟩) (ob := True ∧ True ∧ (0 ≤ x4 ∧ x4 < (a0.length : Int)) ∧ True ∧ True ∧ True ∧ True ∧ True ∧ True) (by kernel_rfl) ⟨trivial, trivial, c6, trivial, trivial, trivial, trivial, trivial, trivial⟩ ?_
    refine thenQ_normal ?_
    rcases ite2_cases h with ⟨b7, h⟩ | ⟨b7, h⟩
    · refine AW.cond_t rfl b7 ?_
      refine AW.seq ?_
      refine AW.regionA [] [4] [] (s' := ⟨[(4, (.v (.one (.c (.int .i64 ((-1) : Int))))))], []⟩) (ob := True ∧ True) (by kernel_rfl) ⟨trivial, trivial⟩ ?_
      refine thenQ_normal ?_
      refine AW.ret ?_
      refine thenQ_ret ?_
      refine blockQ_ret ?_
      refine thenQ_ret ?_
      refine loopQ_ret ?_
      refine blockQ_ret ?_
      refine thenQ_ret ?_
      replace h := some_eq h
      subst h
      exact ⟨.inr rfl, retOK_of [(.one (.c (.int .i64 ((-1) : Int))))] (by kernel_rfl) ⟨⟨rfl, trivial⟩, trivial⟩ (of_decide_eq_true (by kernel_rfl))⟩
    · refine AW.cond_f rfl b7 ?_
      refine AW.skip ?_
      refine thenQ_normal ?_
      refine AW.seq ?_
      refine AW.regionA [] [0, 1, 5] [] (s' := ⟨[(0, (.v (.one (.c (sl 4 cs_Turn a0))))), (1, (.v (.one (.c (.int .i64 (IntKind.i64.wrap (x3 + (1 : Int)))))))), (5, (.v (.one (.c (.int .i64 x4)))))], []⟩) (ob := True ∧ True ∧ True ∧ True) (by kernel_rfl) ⟨trivial, trivial, trivial, trivial⟩ ?_
      refine thenQ_normal ?_
      refine AW.seq ?_
      refine AW.seq ?_
      refine AW.regionA [] [0, 1, 5, 29] [] (s' := ⟨[(0, (.v (.one (.c (sl 4 cs_Turn a0))))), (1, (.v (.one (.c (.int .i64 (IntKind.i64.wrap (x3 + (1 : Int)))))))), (5, (.v (.one (.c (.int .i64 x4))))), (29, (.v (.one (.c (.bool (((a0.getD x4.toNat default).X).ne (Fl.ofInt .f32 (IntKind.i64.wrap (x3 + (1 : Int))))))))))], []⟩) (ob := True ∧ True ∧ (0 ≤ x4 ∧ x4 < (a0.length : Int)) ∧ True ∧ True ∧ True ∧ True ∧ True ∧ True) (by kernel_rfl) ⟨trivial, trivial, c6, trivial, trivial, trivial, trivial, trivial, trivial⟩ ?_
      refine thenQ_normal ?_
      rcases ite2_cases h with ⟨b8, h⟩ | ⟨b8, h⟩
      · refine AW.cond_t rfl b8 ?_
        refine AW.seq ?_
        refine AW.regionA [] [4] [] (s' := ⟨[(4, (.v (.one (.c (.int .i64 ((-1) : Int))))))], []⟩) (ob := True ∧ True) (by kernel_rfl) ⟨trivial, trivial⟩ ?_
        refine thenQ_normal ?_
        refine AW.ret ?_
        refine thenQ_ret ?_
        refine blockQ_ret ?_
        refine thenQ_ret ?_
        refine loopQ_ret ?_
        refine blockQ_ret ?_
        refine thenQ_ret ?_
        replace h := some_eq h
        subst h
        exact ⟨.inr rfl, retOK_of [(.one (.c (.int .i64 ((-1) : Int))))] (by kernel_rfl) ⟨⟨rfl, trivial⟩, trivial⟩ (of_decide_eq_true (by kernel_rfl))⟩
      · refine AW.cond_f rfl b8 ?_
        refine AW.skip ?_
        refine thenQ_normal ?_
        refine AW.seq ?_
        refine AW.regionA [] [0, 1, 5] [] (s' := ⟨[(0, (.v (.one (.c (sl 4 cs_Turn a0))))), (1, (.v (.one (.c (.int .i64 (IntKind.i64.wrap ((IntKind.i64.wrap (x3 + (1 : Int))) + (1 : Int)))))))), (5, (.v (.one (.c (.int .i64 x4)))))], []⟩) (ob := True ∧ True ∧ True ∧ True) (by kernel_rfl) ⟨trivial, trivial, trivial, trivial⟩ ?_
        refine thenQ_normal ?_
        refine AW.seq ?_
        refine AW.seq ?_
        refine AW.regionA [] [0, 1, 5, 39] [] (s' := ⟨[(0, (.v (.one (.c (sl 4 cs_Turn a0))))), (1, (.v (.one (.c (.int .i64 (IntKind.i64.wrap ((IntKind.i64.wrap (x3 + (1 : Int))) + (1 : Int)))))))), (5, (.v (.one (.c (.int .i64 x4))))), (39, (.v (.one (.c (.bool (((a0.getD x4.toNat default).Y).ne (Fl.ofInt .f32 (IntKind.i64.wrap ((IntKind.i64.wrap (x3 + (1 : Int))) + (1 : Int))))))))))], []⟩) (ob := True ∧ True ∧ (0 ≤ x4 ∧ x4 < (a0.length : Int)) ∧ True ∧ True ∧ True ∧ True ∧ True ∧ True) (by kernel_rfl) ⟨trivial, trivial, c6, trivial, trivial, trivial, trivial, trivial, trivial⟩ ?_
        refine thenQ_normal ?_
        rcases ite2_cases h with ⟨b9, h⟩ | ⟨b9, h⟩
        · refine AW.cond_t rfl b9 ?_
          refine AW.seq ?_
          refine AW.regionA [] [4] [] (s' := ⟨[(4, (.v (.one (.c (.int .i64 ((-1) : Int))))))], []⟩) (ob := True ∧ True) (by kernel_rfl) ⟨trivial, trivial⟩ ?_
          refine thenQ_normal ?_
          refine AW.ret ?_
          refine thenQ_ret ?_
          refine blockQ_ret ?_
          refine thenQ_ret ?_
          refine loopQ_ret ?_
          refine blockQ_ret ?_
          refine thenQ_ret ?_
          replace h := some_eq h
          subst h
          exact ⟨.inr rfl, retOK_of [(.one (.c (.int .i64 ((-1) : Int))))] (by kernel_rfl) ⟨⟨rfl, trivial⟩, trivial⟩ (of_decide_eq_true (by kernel_rfl))⟩
        · refine AW.cond_f rfl b9 ?_
          refine AW.skip ?_
          refine thenQ_normal ?_
          refine AW.seq ?_
          refine AW.regionA [] [0, 1, 5] [] (s' := ⟨[(0, (.v (.one (.c (sl 4 cs_Turn a0))))), (1, (.v (.one (.c (.int .i64 (IntKind.i64.wrap ((IntKind.i64.wrap ((IntKind.i64.wrap (x3 + (1 : Int))) + (1 : Int))) + (1 : Int)))))))), (5, (.v (.one (.c (.int .i64 x4)))))], []⟩) (ob := True ∧ True ∧ True ∧ True) (by kernel_rfl) ⟨trivial, trivial, trivial, trivial⟩ ?_
          refine thenQ_normal ?_
          refine AW.seq ?_
          refine AW.seq ?_
          refine AW.regionA [] [0, 1, 5, 49] [] (s' := ⟨[(0, (.v (.one (.c (sl 4 cs_Turn a0))))), (1, (.v (.one (.c (.int .i64 (IntKind.i64.wrap ((IntKind.i64.wrap ((IntKind.i64.wrap (x3 + (1 : Int))) + (1 : Int))) + (1 : Int)))))))), (5, (.v (.one (.c (.int .i64 x4))))), (49, (.v (.one (.c (.bool (((a0.getD x4.toNat default).Z).ne (Fl.ofInt .f32 (IntKind.i64.wrap ((IntKind.i64.wrap ((IntKind.i64.wrap (x3 + (1 : Int))) + (1 : Int))) + (1 : Int))))))))))], []⟩) (ob := True ∧ True ∧ (0 ≤ x4 ∧ x4 < (a0.length : Int)) ∧ True ∧ True ∧ True ∧ True ∧ True ∧ True) (by kernel_rfl) ⟨trivial, trivial, c6, trivial, trivial, trivial, trivial, trivial, trivial⟩ ?_
          refine thenQ_normal ?_
          rcases ite2_cases h with ⟨b10, h⟩ | ⟨b10, h⟩
          · refine AW.cond_t rfl b10 ?_
            refine AW.seq ?_
            refine AW.regionA [] [4] [] (s' := ⟨[(4, (.v (.one (.c (.int .i64 ((-1) : Int))))))], []⟩) (ob := True ∧ True) (by kernel_rfl) ⟨trivial, trivial⟩ ?_
            refine thenQ_normal ?_
            refine AW.ret ?_
            refine thenQ_ret ?_
            refine blockQ_ret ?_
            refine thenQ_ret ?_
            refine loopQ_ret ?_
            refine blockQ_ret ?_
            refine thenQ_ret ?_
            replace h := some_eq h
            subst h
            exact ⟨.inr rfl, retOK_of [(.one (.c (.int .i64 ((-1) : Int))))] (by kernel_rfl) ⟨⟨rfl, trivial⟩, trivial⟩ (of_decide_eq_true (by kernel_rfl))⟩
          · refine AW.cond_f rfl b10 ?_
            refine AW.skip ?_
            refine thenQ_normal ?_
            refine AW.regionA [] [0, 1, 5] [] (s' := ⟨[(0, (.v (.one (.c (sl 4 cs_Turn a0))))), (1, (.v (.one (.c (.int .i64 (IntKind.i64.wrap ((IntKind.i64.wrap ((IntKind.i64.wrap ((IntKind.i64.wrap (x3 + (1 : Int))) + (1 : Int))) + (1 : Int))) + (1 : Int)))))))), (5, (.v (.one (.c (.int .i64 x4)))))], []⟩) (ob := True ∧ True ∧ True ∧ True) (by kernel_rfl) ⟨trivial, trivial, trivial, trivial⟩ ?_
            refine blockQ_normal ?_
            refine thenQ_normal ?_
            refine AW.regionA [] [0, 1, 5] [] (s' := ⟨[(0, (.v (.one (.c (sl 4 cs_Turn a0))))), (1, (.v (.one (.c (.int .i64 (IntKind.i64.wrap ((IntKind.i64.wrap ((IntKind.i64.wrap ((IntKind.i64.wrap (x3 + (1 : Int))) + (1 : Int))) + (1 : Int))) + (1 : Int)))))))), (5, (.v (.one (.c (.int .i64 (IntKind.i64.wrap (x4 + (1 : Int))))))))], []⟩) (ob := True ∧ True ∧ True ∧ True) (by kernel_rfl) ⟨trivial, trivial, trivial, trivial⟩ ?_
            exact loopQ_normal (k, (IntKind.i64.wrap ((IntKind.i64.wrap ((IntKind.i64.wrap ((IntKind.i64.wrap (x3 + (1 : Int))) + (1 : Int))) + (1 : Int))) + (1 : Int))), (IntKind.i64.wrap (x4 + (1 : Int)))) h (Nat.lt_succ_self k) (Sub.keep [0, 1, 5] [] (by kernel_rfl) (by kernel_rfl))
  · refine AW.cond_f rfl b5 ?_
    refine AW.exit ?_
    refine thenQ_exit ?_
    refine loopQ_exit ?_
    refine blockQ_exit ?_
    refine thenQ_normal ?_
    refine AW.seq ?_
    refine AW.regionA [] [4] [] (s' := ⟨[(4, (.v (.one (.c (.int .i64 x3)))))], []⟩) (ob := True ∧ True ∧ True) (by kernel_rfl) ⟨trivial, trivial, trivial⟩ ?_
    refine thenQ_normal ?_
    refine AW.ret ?_
    replace h := some_eq h
    subst h
    exact ⟨.inr rfl, retOK_of [(.one (.c (.int .i64 x3)))] (by kernel_rfl) ⟨⟨rfl, trivial⟩, trivial⟩ (of_decide_eq_true (by kernel_rfl))⟩

/-! laws.heldPoseS -/
def laws_heldPoseS_l1 (K : Nat) (a0 : (List Pose)) : Nat → Int → Int → Option (Int)
  | 0, _, _ => none
  | k + 1, x3, x4 => ite2 ((decide (x4 < (a0.length : Int)))) (chk (0 ≤ x4 ∧ x4 < (a0.length : Int)) (ite2 (((((a0.getD x4.toNat default).Root).X).ne (Fl.ofInt .f32 x3))) (some ((-1) : Int)) (ite2 (((((a0.getD x4.toNat default).Root).Y).ne (Fl.ofInt .f32 (IntKind.i64.wrap (x3 + (1 : Int)))))) (some ((-1) : Int)) (ite2 (((((a0.getD x4.toNat default).Root).Z).ne (Fl.ofInt .f32 (IntKind.i64.wrap ((IntKind.i64.wrap (x3 + (1 : Int))) + (1 : Int)))))) (some ((-1) : Int)) ((laws_heldTurnS K ((a0.getD x4.toNat default).Turns) (IntKind.i64.wrap ((IntKind.i64.wrap ((IntKind.i64.wrap (x3 + (1 : Int))) + (1 : Int))) + (1 : Int)))).bind fun v10 => ite2 ((decide (v10 < (0 : Int)))) (some ((-1) : Int)) (laws_heldPoseS_l1 K a0 k v10 (IntKind.i64.wrap (x4 + (1 : Int))))))))) (some x3)

def laws_heldPoseS (K : Nat) (a0 : (List Pose)) (a1 : Int) : Option (Int) :=
  laws_heldPoseS_l1 K a0 K a1 (0 : Int)

theorem ok_laws_heldPoseS (K : Nat) (a0 : (List Pose)) (a1 : Int) (o : (Int)) (h : laws_heldPoseS K a0 a1 = some o) : CallOK Try.prog 79 [.one (sl 4 cs_Pose a0), .one (.int .i64 a1)] [.one (.int .i64 o)] := by
  refine callOK_of_AW Try.func79 rfl (by kernel_rfl) (Nat.le_of_ble_eq_true (by kernel_rfl)) ?_
  intro w0
  unfold laws_heldPoseS at h
  refine AW.seq ?_
  refine AW.regionA [] [0, 1] [] (s' := ⟨[(0, (.v (.one (.c (sl 4 cs_Pose a0))))), (1, (.v (.one (.c (.int .i64 a1)))))], []⟩) (ob := True ∧ True) (by kernel_rfl) ⟨trivial, trivial⟩ ?_
  refine thenQ_normal ?_
  refine AW.seq ?_
  refine AW.seq ?_
  refine AW.regionA [] [0, 1, 5] [] (s' := ⟨[(0, (.v (.one (.c (sl 4 cs_Pose a0))))), (1, (.v (.one (.c (.int .i64 a1))))), (5, (.v (.one (.c (.int .i64 (0 : Int))))))], []⟩) (ob := True ∧ True) (by kernel_rfl) ⟨trivial, trivial⟩ ?_
  refine thenQ_normal ?_
  refine AW.block ?_
  refine AW.loopQ (σ := Nat × Int × Int) (fun p => ⟨[(0, (.v (.one (.c (sl 4 cs_Pose a0))))), (1, (.v (.one (.c (.int .i64 p.2.1))))), (5, (.v (.one (.c (.int .i64 p.2.2)))))], []⟩) (fun p => laws_heldPoseS_l1 K a0 p.1 p.2.1 p.2.2 = some o) (fun p => p.1) (K, a1, (0 : Int)) h ?_
  clear h
  rintro ⟨k, x3, x4⟩ h
  replace h : laws_heldPoseS_l1 K a0 k x3 x4 = some o := h
  show AW _ _ (⟨[(0, (.v (.one (.c (sl 4 cs_Pose a0))))), (1, (.v (.one (.c (.int .i64 x3))))), (5, (.v (.one (.c (.int .i64 x4)))))], []⟩ : St) _
  obtain _ | k := k
  · rw [laws_heldPoseS_l1] at h; cases h
  rw [laws_heldPoseS_l1] at h
  refine AW.seq ?_
  refine AW.seq ?_
  refine AW.regionA [] [0, 1, 5, 9] [] (s' := ⟨[(0, (.v (.one (.c (sl 4 cs_Pose a0))))), (1, (.v (.one (.c (.int .i64 x3))))), (5, (.v (.one (.c (.int .i64 x4))))), (9, (.v (.one (.c (.bool (decide (x4 < (a0.length : Int))))))))], []⟩) (ob := True ∧ True ∧ True ∧ True ∧ True) (by kernel_rfl) ⟨trivial, trivial, trivial, trivial, trivial⟩ ?_
  refine thenQ_normal ?_
  rcases ite2_cases h with ⟨b5, h⟩ | ⟨b5, h⟩
  · refine AW.cond_t rfl b5 ?_
    refine AW.skip ?_
    refine thenQ_normal ?_
    refine AW.seq ?_
    refine AW.block ?_
    refine AW.seq ?_
    refine AW.seq ?_
    obtain ⟨c6, h⟩ := chk_some h
    refine AW.regionA [] [0, 1, 5, 20] [] (s' := ⟨[(0, (.v (.one (.c (sl 4 cs_Pose a0))))), (1, (.v (.one (.c (.int .i64 x3))))), (5, (.v (.one (.c (.int .i64 x4))))), (20, (.v (.one (.c (.bool ((((a0.getD x4.toNat default).Root).X).ne (Fl.ofInt .f32 x3)))))))], []⟩) (ob := True ∧ True ∧ (0 ≤ x4 ∧ x4 < (a0.length : Int)) ∧ True ∧ True ∧ True ∧ True ∧ True ∧ True ∧ True) (by kernel_rfl) ⟨trivial, trivial, c6, trivial, trivial, trivial, trivial, trivial, trivial, trivial⟩ ?_
    refine thenQ_normal ?_
    rcases ite2_cases h with ⟨b7, h⟩ | ⟨b7, h⟩
    · refine AW.cond_t rfl b7 ?_
      refine AW.seq ?_
      refine AW.regionA [] [4] [] (s' := ⟨[(4, (.v (.one (.c (.int .i64 ((-1) : Int))))))], []⟩) (ob := True ∧ True) (by kernel_rfl) ⟨trivial, trivial⟩ ?_
      refine thenQ_normal ?_
      refine AW.ret ?_
      refine thenQ_ret ?_
      refine blockQ_ret ?_
      refine thenQ_ret ?_
      refine loopQ_ret ?_
      refine blockQ_ret ?_
      refine thenQ_ret ?_
      replace h := some_eq h
      subst h
      exact ⟨.inr rfl, retOK_of [(.one (.c (.int .i64 ((-1) : Int))))] (by kernel_rfl) ⟨⟨rfl, trivial⟩, trivial⟩ (of_decide_eq_true (by kernel_rfl))⟩
    · refine AW.cond_f rfl b7 ?_
      refine AW.skip ?_
      refine thenQ_normal ?_
      refine AW.seq ?_
      refine AW.regionA [] [0, 1, 5] [] (s' := ⟨[(0, (.v (.one (.c (sl 4 cs_Pose a0))))), (1, (.v (.one (.c (.int .i64 (IntKind.i64.wrap (x3 + (1 : Int)))))))), (5, (.v (.one (.c (.int .i64 x4)))))], []⟩) (ob := True ∧ True ∧ True ∧ True) (by kernel_rfl) ⟨trivial, trivial, trivial, trivial⟩ ?_
      refine thenQ_normal ?_
      refine AW.seq ?_
      refine AW.seq ?_
      refine AW.regionA [] [0, 1, 5, 31] [] (s' := ⟨[(0, (.v (.one (.c (sl 4 cs_Pose a0))))), (1, (.v (.one (.c (.int .i64 (IntKind.i64.wrap (x3 + (1 : Int)))))))), (5, (.v (.one (.c (.int .i64 x4))))), (31, (.v (.one (.c (.bool ((((a0.getD x4.toNat default).Root).Y).ne (Fl.ofInt .f32 (IntKind.i64.wrap (x3 + (1 : Int))))))))))], []⟩) (ob := True ∧ True ∧ (0 ≤ x4 ∧ x4 < (a0.length : Int)) ∧ True ∧ True ∧ True ∧ True ∧ True ∧ True ∧ True) (by kernel_rfl) ⟨trivial, trivial, c6, trivial, trivial, trivial, trivial, trivial, trivial, trivial⟩ ?_
      refine thenQ_normal ?_
      rcases ite2_cases h with ⟨b8, h⟩ | ⟨b8, h⟩
      · refine AW.cond_t rfl b8 ?_
        refine AW.seq ?_
        refine AW.regionA [] [4] [] (s' := ⟨[(4, (.v (.one (.c (.int .i64 ((-1) : Int))))))], []⟩) (ob := True ∧ True) (by kernel_rfl) ⟨trivial, trivial⟩ ?_
        refine thenQ_normal ?_
        refine AW.ret ?_
        refine thenQ_ret ?_
        refine blockQ_ret ?_
        refine thenQ_ret ?_
        refine loopQ_ret ?_
        refine blockQ_ret ?_
        refine thenQ_ret ?_
        replace h := some_eq h
        subst h
        exact ⟨.inr rfl, retOK_of [(.one (.c (.int .i64 ((-1) : Int))))] (by kernel_rfl) ⟨⟨rfl, trivial⟩, trivial⟩ (of_decide_eq_true (by kernel_rfl))⟩
      · refine AW.cond_f rfl b8 ?_
        refine AW.skip ?_
        refine thenQ_normal ?_
        refine AW.seq ?_
        refine AW.regionA [] [0, 1, 5] [] (s' := ⟨[(0, (.v (.one (.c (sl 4 cs_Pose a0))))), (1, (.v (.one (.c (.int .i64 (IntKind.i64.wrap ((IntKind.i64.wrap (x3 + (1 : Int))) + (1 : Int)))))))), (5, (.v (.one (.c (.int .i64 x4)))))], []⟩) (ob := True ∧ True ∧ True ∧ True) (by kernel_rfl) ⟨trivial, trivial, trivial, trivial⟩ ?_
        refine thenQ_normal ?_
        refine AW.seq ?_
        refine AW.seq ?_
        refine AW.regionA [] [0, 1, 5, 42] [] (s' := ⟨[(0, (.v (.one (.c (sl 4 cs_Pose a0))))), (1, (.v (.one (.c (.int .i64 (IntKind.i64.wrap ((IntKind.i64.wrap (x3 + (1 : Int))) + (1 : Int)))))))), (5, (.v (.one (.c (.int .i64 x4))))), (42, (.v (.one (.c (.bool ((((a0.getD x4.toNat default).Root).Z).ne (Fl.ofInt .f32 (IntKind.i64.wrap ((IntKind.i64.wrap (x3 + (1 : Int))) + (1 : Int))))))))))], []⟩) (ob := True ∧ True ∧ (0 ≤ x4 ∧ x4 < (a0.length : Int)) ∧ True ∧ True ∧ True ∧ True ∧ True ∧ True ∧ True) (by kernel_rfl) ⟨trivial, trivial, c6, trivial, trivial, trivial, trivial, trivial, trivial, trivial⟩ ?_
        refine thenQ_normal ?_
        rcases ite2_cases h with ⟨b9, h⟩ | ⟨b9, h⟩
        · refine AW.cond_t rfl b9 ?_
          refine AW.seq ?_
          refine AW.regionA [] [4] [] (s' := ⟨[(4, (.v (.one (.c (.int .i64 ((-1) : Int))))))], []⟩) (ob := True ∧ True) (by kernel_rfl) ⟨trivial, trivial⟩ ?_
          refine thenQ_normal ?_
          refine AW.ret ?_
          refine thenQ_ret ?_
          refine blockQ_ret ?_
          refine thenQ_ret ?_
          refine loopQ_ret ?_
          refine blockQ_ret ?_
          refine thenQ_ret ?_
          replace h := some_eq h
          subst h
          exact ⟨.inr rfl, retOK_of [(.one (.c (.int .i64 ((-1) : Int))))] (by kernel_rfl) ⟨⟨rfl, trivial⟩, trivial⟩ (of_decide_eq_true (by kernel_rfl))⟩
        · refine AW.cond_f rfl b9 ?_
          refine AW.skip ?_
          refine thenQ_normal ?_
          refine AW.seq ?_
          refine AW.regionA [] [0, 1, 5] [] (s' := ⟨[(0, (.v (.one (.c (sl 4 cs_Pose a0))))), (1, (.v (.one (.c (.int .i64 (IntKind.i64.wrap ((IntKind.i64.wrap ((IntKind.i64.wrap (x3 + (1 : Int))) + (1 : Int))) + (1 : Int)))))))), (5, (.v (.one (.c (.int .i64 x4)))))], []⟩) (ob := True ∧ True ∧ True ∧ True) (by kernel_rfl) ⟨trivial, trivial, trivial, trivial⟩ ?_
          refine thenQ_normal ?_
          refine AW.seq ?_
          obtain ⟨v10, e11, h⟩ := bind_some h
          refine AW.regionA [.no, .no, .no, .no, .no, .no, .call [.one (sl 4 cs_Turn ((a0.getD x4.toNat default).Turns)), .one (.int .i64 (IntKind.i64.wrap ((IntKind.i64.wrap ((IntKind.i64.wrap (x3 + (1 : Int))) + (1 : Int))) + (1 : Int))))] [.one (.int .i64 v10)] [[.view]]] [0, 1, 5] [] (s' := ⟨[(0, (.v (.one (.c (sl 4 cs_Pose a0))))), (1, (.v (.one (.c (.int .i64 v10))))), (5, (.v (.one (.c (.int .i64 x4)))))], []⟩) (ob := True ∧ True ∧ (0 ≤ x4 ∧ x4 < (a0.length : Int)) ∧ True ∧ True ∧ True ∧ (((((sl 4 cs_Turn ((a0.getD x4.toNat default).Turns)) : C) = (sl 4 cs_Turn ((a0.getD x4.toNat default).Turns))) ∧ (((.int .i64 (IntKind.i64.wrap ((IntKind.i64.wrap ((IntKind.i64.wrap (x3 + (1 : Int))) + (1 : Int))) + (1 : Int)))) : C) = (.int .i64 (IntKind.i64.wrap ((IntKind.i64.wrap ((IntKind.i64.wrap (x3 + (1 : Int))) + (1 : Int))) + (1 : Int))))) ∧ True) ∧ CallOK Try.prog 124 [.one (sl 4 cs_Turn ((a0.getD x4.toNat default).Turns)), .one (.int .i64 (IntKind.i64.wrap ((IntKind.i64.wrap ((IntKind.i64.wrap (x3 + (1 : Int))) + (1 : Int))) + (1 : Int))))] [.one (.int .i64 v10)]) ∧ True ∧ True) (by kernel_rfl) ⟨trivial, trivial, c6, trivial, trivial, trivial, ⟨⟨rfl, rfl, trivial⟩, ok_laws_heldTurnS K ((a0.getD x4.toNat default).Turns) (IntKind.i64.wrap ((IntKind.i64.wrap ((IntKind.i64.wrap (x3 + (1 : Int))) + (1 : Int))) + (1 : Int))) v10 e11⟩, trivial, trivial⟩ ?_
          refine thenQ_normal ?_
          refine AW.seq ?_
          refine AW.regionA [] [0, 1, 5, 53] [] (s' := ⟨[(0, (.v (.one (.c (sl 4 cs_Pose a0))))), (1, (.v (.one (.c (.int .i64 v10))))), (5, (.v (.one (.c (.int .i64 x4))))), (53, (.v (.one (.c (.bool (decide (v10 < (0 : Int))))))))], []⟩) (ob := True ∧ True ∧ True) (by kernel_rfl) ⟨trivial, trivial, trivial⟩ ?_
          refine thenQ_normal ?_
          rcases ite2_cases h with ⟨b12, h⟩ | ⟨b12, h⟩
          · refine AW.cond_t rfl b12 ?_
            refine AW.seq ?_
            refine AW.regionA [] [4] [] (s' := ⟨[(4, (.v (.one (.c (.int .i64 ((-1) : Int))))))], []⟩) (ob := True ∧ True) (by kernel_rfl) ⟨trivial, trivial⟩ ?_
            refine thenQ_normal ?_
            refine AW.ret ?_
            refine blockQ_ret ?_
            refine thenQ_ret ?_
            refine loopQ_ret ?_
            refine blockQ_ret ?_
            refine thenQ_ret ?_
            replace h := some_eq h
            subst h
            exact ⟨.inr rfl, retOK_of [(.one (.c (.int .i64 ((-1) : Int))))] (by kernel_rfl) ⟨⟨rfl, trivial⟩, trivial⟩ (of_decide_eq_true (by kernel_rfl))⟩
          · refine AW.cond_f rfl b12 ?_
            refine AW.skip ?_
            refine blockQ_normal ?_
            refine thenQ_normal ?_
            refine AW.regionA [] [0, 1, 5] [] (s' := ⟨[(0, (.v (.one (.c (sl 4 cs_Pose a0))))), (1, (.v (.one (.c (.int .i64 v10))))), (5, (.v (.one (.c (.int .i64 (IntKind.i64.wrap (x4 + (1 : Int))))))))], []⟩) (ob := True ∧ True ∧ True ∧ True) (by kernel_rfl) ⟨trivial, trivial, trivial, trivial⟩ ?_
            exact loopQ_normal (k, v10, (IntKind.i64.wrap (x4 + (1 : Int)))) h (Nat.lt_succ_self k) (Sub.keep [0, 1, 5] [] (by kernel_rfl) (by kernel_rfl))
  · refine AW.cond_f rfl b5 ?_
    refine AW.exit ?_
    refine thenQ_exit ?_
    refine loopQ_exit ?_
    refine blockQ_exit ?_
    refine thenQ_normal ?_
    refine AW.seq ?_
    refine AW.regionA [] [4] [] (s' := ⟨[(4, (.v (.one (.c (.int .i64 x3)))))], []⟩) (ob := True ∧ True ∧ True) (by kernel_rfl) ⟨trivial, trivial, trivial⟩ ?_
    refine thenQ_normal ?_
    refine AW.ret ?_
    replace h := some_eq h
    subst h
    exact ⟨.inr rfl, retOK_of [(.one (.c (.int .i64 x3)))] (by kernel_rfl) ⟨⟨rfl, trivial⟩, trivial⟩ (of_decide_eq_true (by kernel_rfl))⟩

/-! laws.heldRecording -/
def laws_heldRecording (K : Nat) (a0 : Recording) (a1 : Int) : Option (Int) :=
  (laws_heldPoseS K a0.Frames a1).bind fun v1 => ite2 ((decide (v1 < (0 : Int)))) (some ((-1) : Int)) (some v1)

theorem ok_laws_heldRecording (K : Nat) (a0 : Recording) (a1 : Int) (o : (Int)) (h : laws_heldRecording K a0 a1 = some o) : CallOK Try.prog 27 [.agg (cs_Recording a0), .one (.int .i64 a1)] [.one (.int .i64 o)] := by
  refine callOK_of_AW Try.func27 rfl (by kernel_rfl) (Nat.le_of_ble_eq_true (by kernel_rfl)) ?_
  intro w0
  unfold laws_heldRecording at h
  refine AW.seq ?_
  refine AW.regionA [.box 1] [1, 2] [1] (s' := ⟨[(1, (.v (.one (.c (.int .i64 a1))))), (2, (.v (.one (.ptr 1 0))))], [(1, (.box [(.c (.int .i64 a0.Bones)), (.c (sl 4 cs_Pose a0.Frames))]))]⟩) (ob := True ∧ True ∧ True) (by kernel_rfl) ⟨trivial, trivial, trivial⟩ ?_
  refine thenQ_normal ?_
  refine AW.seq ?_
  obtain ⟨v1, e2, h⟩ := bind_some h
  refine AW.regionA [.no, .no, .no, .call [.one (sl 4 cs_Pose a0.Frames), .one (.int .i64 a1)] [.one (.int .i64 v1)] [[.view]]] [1] [] (s' := ⟨[(1, (.v (.one (.c (.int .i64 v1)))))], []⟩) (ob := True ∧ True ∧ True ∧ (((((sl 4 cs_Pose a0.Frames) : C) = (sl 4 cs_Pose a0.Frames)) ∧ (((.int .i64 a1) : C) = (.int .i64 a1)) ∧ True) ∧ CallOK Try.prog 79 [.one (sl 4 cs_Pose a0.Frames), .one (.int .i64 a1)] [.one (.int .i64 v1)]) ∧ True ∧ True) (by kernel_rfl) ⟨trivial, trivial, trivial, ⟨⟨rfl, rfl, trivial⟩, ok_laws_heldPoseS K a0.Frames a1 v1 e2⟩, trivial, trivial⟩ ?_
  refine thenQ_normal ?_
  refine AW.seq ?_
  refine AW.seq ?_
  refine AW.regionA [] [1, 10] [] (s' := ⟨[(1, (.v (.one (.c (.int .i64 v1))))), (10, (.v (.one (.c (.bool (decide (v1 < (0 : Int))))))))], []⟩) (ob := True ∧ True ∧ True) (by kernel_rfl) ⟨trivial, trivial, trivial⟩ ?_
  refine thenQ_normal ?_
  rcases ite2_cases h with ⟨b3, h⟩ | ⟨b3, h⟩
  · refine AW.cond_t rfl b3 ?_
    refine AW.seq ?_
    refine AW.regionA [] [4] [] (s' := ⟨[(4, (.v (.one (.c (.int .i64 ((-1) : Int))))))], []⟩) (ob := True ∧ True) (by kernel_rfl) ⟨trivial, trivial⟩ ?_
    refine thenQ_normal ?_
    refine AW.ret ?_
    refine thenQ_ret ?_
    replace h := some_eq h
    subst h
    exact ⟨.inr rfl, retOK_of [(.one (.c (.int .i64 ((-1) : Int))))] (by kernel_rfl) ⟨⟨rfl, trivial⟩, trivial⟩ (of_decide_eq_true (by kernel_rfl))⟩
  · refine AW.cond_f rfl b3 ?_
    refine AW.skip ?_
    refine thenQ_normal ?_
    refine AW.seq ?_
    refine AW.regionA [] [4] [] (s' := ⟨[(4, (.v (.one (.c (.int .i64 v1)))))], []⟩) (ob := True ∧ True ∧ True) (by kernel_rfl) ⟨trivial, trivial, trivial⟩ ?_
    refine thenQ_normal ?_
    refine AW.ret ?_
    replace h := some_eq h
    subst h
    exact ⟨.inr rfl, retOK_of [(.one (.c (.int .i64 v1)))] (by kernel_rfl) ⟨⟨rfl, trivial⟩, trivial⟩ (of_decide_eq_true (by kernel_rfl))⟩

/-! laws.FnExactRecoverRecording -/
def laws_FnExactRecoverRecording (K : Nat) (a0 : ByteArray) : Option (Bool) :=
  ite2 ((decide ((a0.size : Int) > (1048576 : Int)))) (some true) ((spec_RecoverRecording K a0).bind fun v2 => (impl_RecoverRecording K a0).bind fun v4 => (laws_eqRecording K v4.1 v2.1).bind fun v6 => (ite2 ((!v6)) (some true) (ite2 ((v4.2.1 != v2.2.1)) (some true) (some (!(v4.2.2 == v2.2.2))))).bind fun j10 => ite2 (j10) (some false) ((laws_markRecording K v4.1 (1 : Int)).bind fun v13 => chk (v13.2.length = v4.1.Frames.length) ((laws_heldRecording K (Recording.mk v4.1.Bones v13.2) (1 : Int)).bind fun v16 => ite2 ((decide (v16 < (0 : Int)))) (some false) (ite2 ((v16 != v13.1)) (some false) ((impl_RecoverRecording K a0).bind fun v20 => (laws_eqRecording K v20.1 v2.1).bind fun v22 => (ite2 ((!v22)) (some true) (ite2 ((v20.2.1 != v2.2.1)) (some true) (some (!(v20.2.2 == v2.2.2))))).bind fun j26 => ite2 (j26) (some false) ((laws_heldRecording K (Recording.mk v4.1.Bones v13.2) (1 : Int)).bind fun v29 => ite2 ((decide (v29 < (0 : Int)))) (some false) (ite2 ((v29 != v13.1)) (some false) (some true))))))))

theorem ok_laws_FnExactRecoverRecording (K : Nat) (a0 : ByteArray) (o : (Bool)) (h : laws_FnExactRecoverRecording K a0 = some o) : CallOK Try.prog 9 [.one (.str a0)] [.one (.bool o)] := by
  refine callOK_of_AW Try.func9 rfl (by kernel_rfl) (Nat.le_of_ble_eq_true (by kernel_rfl)) ?_
  intro w0
  unfold laws_FnExactRecoverRecording at h
  refine AW.seq ?_
  refine AW.regionA [] [0] [] (s' := ⟨[(0, (.v (.one (.c (.str a0)))))], []⟩) (ob := True ∧ True) (by kernel_rfl) ⟨trivial, trivial⟩ ?_
  refine thenQ_normal ?_
  refine AW.seq ?_
  refine AW.seq ?_
  refine AW.regionA [] [0, 16] [] (s' := ⟨[(0, (.v (.one (.c (.str a0))))), (16, (.v (.one (.c (.bool (decide ((a0.size : Int) > (1048576 : Int))))))))], []⟩) (ob := True ∧ True ∧ True ∧ True) (by kernel_rfl) ⟨trivial, trivial, trivial, trivial⟩ ?_
  refine thenQ_normal ?_
  rcases ite2_cases h with ⟨b1, h⟩ | ⟨b1, h⟩
  · refine AW.cond_t rfl b1 ?_
    refine AW.seq ?_
    refine AW.regionA [] [2] [] (s' := ⟨[(2, (.v (.one (.c (.bool true)))))], []⟩) (ob := True ∧ True) (by kernel_rfl) ⟨trivial, trivial⟩ ?_
    refine thenQ_normal ?_
    refine AW.ret ?_
    refine thenQ_ret ?_
    replace h := some_eq h
    subst h
    exact ⟨.inr rfl, retOK_of [(.one (.c (.bool true)))] (by kernel_rfl) ⟨⟨rfl, trivial⟩, trivial⟩ (of_decide_eq_true (by kernel_rfl))⟩
  · refine AW.cond_f rfl b1 ?_
    refine AW.skip ?_
    refine thenQ_normal ?_
    refine AW.seq ?_
    obtain ⟨v2, e3, h⟩ := bind_some h
    refine AW.regionA [.no, .call [.one (.str a0)] [.agg (cs_Recording v2.1), .one (.int .i64 v2.2.1), .one (.bool v2.2.2)] [[.view, .lst 1], [.view], [.view]], .no, .no, .no, .no, .box 2] [0, 3, 4, 5] [1, 2] (s' := ⟨[(0, (.v (.one (.c (.str a0))))), (3, (.v (.one (.ptr 2 0)))), (4, (.v (.one (.c (.int .i64 v2.2.1))))), (5, (.v (.one (.c (.bool v2.2.2)))))], [(1, (.lst v2.1.Frames.length 4 (gl cs_Pose v2.1.Frames))), (2, (.box [(.c (.int .i64 v2.1.Bones)), (.lst 1 v2.1.Frames.length 4 (gl cs_Pose v2.1.Frames))]))]⟩) (ob := True ∧ (((((.str a0) : C) = (.str a0)) ∧ True) ∧ CallOK Try.prog 40 [.one (.str a0)] [.agg (cs_Recording v2.1), .one (.int .i64 v2.2.1), .one (.bool v2.2.2)]) ∧ True ∧ True ∧ True ∧ True ∧ True ∧ True ∧ True ∧ True ∧ True) (by kernel_rfl) ⟨trivial, ⟨⟨rfl, trivial⟩, ok_spec_RecoverRecording K a0 v2 e3⟩, trivial, trivial, trivial, trivial, trivial, trivial, trivial, trivial, trivial⟩ ?_
    refine thenQ_normal ?_
    refine AW.seq ?_
    obtain ⟨v4, e5, h⟩ := bind_some h
    refine AW.regionA [.no, .call [.one (.str a0)] [.agg (cs_Recording v4.1), .one (.int .i64 v4.2.1), .one (.bool v4.2.2)] [[.view, .own 3], [.view], [.view]], .no, .no, .no, .no, .box 4] [0, 3, 4, 5, 6, 7, 8] [1, 2, 3, 4] (s' := ⟨[(0, (.v (.one (.c (.str a0))))), (3, (.v (.one (.ptr 2 0)))), (4, (.v (.one (.c (.int .i64 v2.2.1))))), (5, (.v (.one (.c (.bool v2.2.2))))), (6, (.v (.one (.ptr 4 0)))), (7, (.v (.one (.c (.int .i64 v4.2.1))))), (8, (.v (.one (.c (.bool v4.2.2)))))], [(1, (.lst v2.1.Frames.length 4 (gl cs_Pose v2.1.Frames))), (2, (.box [(.c (.int .i64 v2.1.Bones)), (.lst 1 v2.1.Frames.length 4 (gl cs_Pose v2.1.Frames))])), (3, (.arr true v4.1.Frames.length 4 (gl cs_Pose v4.1.Frames))), (4, (.box [(.c (.int .i64 v4.1.Bones)), (.arr 3)]))]⟩) (ob := True ∧ (((((.str a0) : C) = (.str a0)) ∧ True) ∧ CallOK Try.prog 41 [.one (.str a0)] [.agg (cs_Recording v4.1), .one (.int .i64 v4.2.1), .one (.bool v4.2.2)]) ∧ True ∧ True ∧ True ∧ True ∧ True ∧ True ∧ True ∧ True ∧ True) (by kernel_rfl) ⟨trivial, ⟨⟨rfl, trivial⟩, ok_impl_RecoverRecording K a0 v4 e5⟩, trivial, trivial, trivial, trivial, trivial, trivial, trivial, trivial, trivial⟩ ?_
    refine thenQ_normal ?_
    refine AW.seq ?_
    refine AW.seq ?_
    obtain ⟨v6, e7, h⟩ := bind_some h
    obtain ⟨j10, e11, h⟩ := bind_some h
    refine AW.join1 (s2 := ⟨[(0, (.v (.one (.c (.str a0))))), (3, (.v (.one (.ptr 2 0)))), (4, (.v (.one (.c (.int .i64 v2.2.1))))), (5, (.v (.one (.c (.bool v2.2.2))))), (6, (.v (.one (.ptr 4 0)))), (42, (.v (.one (.c (.bool j10)))))], [(1, (.lst v2.1.Frames.length 4 (gl cs_Pose v2.1.Frames))), (2, (.box [(.c (.int .i64 v2.1.Bones)), (.lst 1 v2.1.Frames.length 4 (gl cs_Pose v2.1.Frames))])), (3, (.arr true v4.1.Frames.length 4 (gl cs_Pose v4.1.Frames))), (4, (.box [(.c (.int .i64 v4.1.Bones)), (.arr 3)]))]⟩) ?_ ?_
    · rcases ite2_cases e11 with ⟨b8, e11⟩ | ⟨b8, e11⟩
      · replace e11 := some_eq e11
        subst e11
        exact AW.regionA [.no, .no, .call [.agg (cs_Recording v4.1), .agg (cs_Recording v2.1)] [.one (.bool v6)] [[.view]], .no, .dec true] [0, 3, 4, 5, 6, 42] [1, 2, 3, 4] (s' := ⟨[(0, (.v (.one (.c (.str a0))))), (3, (.v (.one (.ptr 2 0)))), (4, (.v (.one (.c (.int .i64 v2.2.1))))), (5, (.v (.one (.c (.bool v2.2.2))))), (6, (.v (.one (.ptr 4 0)))), (42, (.v (.one (.c (.bool true)))))], [(1, (.lst v2.1.Frames.length 4 (gl cs_Pose v2.1.Frames))), (2, (.box [(.c (.int .i64 v2.1.Bones)), (.lst 1 v2.1.Frames.length 4 (gl cs_Pose v2.1.Frames))])), (3, (.arr true v4.1.Frames.length 4 (gl cs_Pose v4.1.Frames))), (4, (.box [(.c (.int .i64 v4.1.Bones)), (.arr 3)]))]⟩) (ob := True ∧ True ∧ ((((((.int .i64 v4.1.Bones) : C) = (.int .i64 v4.1.Bones)) ∧ (((sl 4 cs_Pose v4.1.Frames) : C) = (sl 4 cs_Pose v4.1.Frames)) ∧ True) ∧ ((((.int .i64 v2.1.Bones) : C) = (.int .i64 v2.1.Bones)) ∧ (((sl 4 cs_Pose v2.1.Frames) : C) = (sl 4 cs_Pose v2.1.Frames)) ∧ True) ∧ True) ∧ CallOK Try.prog 25 [.agg (cs_Recording v4.1), .agg (cs_Recording v2.1)] [.one (.bool v6)]) ∧ True ∧ (True ∧ (!v6) = true) ∧ True ∧ True ∧ True ∧ True ∧ True ∧ True ∧ True ∧ True ∧ True ∧ True) (by kernel_rfl) ⟨trivial, trivial, ⟨⟨⟨rfl, rfl, trivial⟩, ⟨rfl, rfl, trivial⟩, trivial⟩, ok_laws_eqRecording K v4.1 v2.1 v6 e7⟩, trivial, ⟨trivial, b8⟩, trivial, trivial, trivial, trivial, trivial, trivial, trivial, trivial, trivial, trivial⟩ ⟨rfl, rfl⟩
      · rcases ite2_cases e11 with ⟨b9, e11⟩ | ⟨b9, e11⟩
        · replace e11 := some_eq e11
          subst e11
          exact AW.regionA [.no, .no, .call [.agg (cs_Recording v4.1), .agg (cs_Recording v2.1)] [.one (.bool v6)] [[.view]], .no, .dec false, .no, .no, .no, .no, .dec true] [0, 3, 4, 5, 6, 42] [1, 2, 3, 4] (s' := ⟨[(0, (.v (.one (.c (.str a0))))), (3, (.v (.one (.ptr 2 0)))), (4, (.v (.one (.c (.int .i64 v2.2.1))))), (5, (.v (.one (.c (.bool v2.2.2))))), (6, (.v (.one (.ptr 4 0)))), (42, (.v (.one (.c (.bool true)))))], [(1, (.lst v2.1.Frames.length 4 (gl cs_Pose v2.1.Frames))), (2, (.box [(.c (.int .i64 v2.1.Bones)), (.lst 1 v2.1.Frames.length 4 (gl cs_Pose v2.1.Frames))])), (3, (.arr true v4.1.Frames.length 4 (gl cs_Pose v4.1.Frames))), (4, (.box [(.c (.int .i64 v4.1.Bones)), (.arr 3)]))]⟩) (ob := True ∧ True ∧ ((((((.int .i64 v4.1.Bones) : C) = (.int .i64 v4.1.Bones)) ∧ (((sl 4 cs_Pose v4.1.Frames) : C) = (sl 4 cs_Pose v4.1.Frames)) ∧ True) ∧ ((((.int .i64 v2.1.Bones) : C) = (.int .i64 v2.1.Bones)) ∧ (((sl 4 cs_Pose v2.1.Frames) : C) = (sl 4 cs_Pose v2.1.Frames)) ∧ True) ∧ True) ∧ CallOK Try.prog 25 [.agg (cs_Recording v4.1), .agg (cs_Recording v2.1)] [.one (.bool v6)]) ∧ True ∧ (True ∧ (!v6) = false) ∧ True ∧ True ∧ True ∧ True ∧ (True ∧ (v4.2.1 != v2.2.1) = true) ∧ True ∧ True ∧ True ∧ True ∧ True) (by kernel_rfl) ⟨trivial, trivial, ⟨⟨⟨rfl, rfl, trivial⟩, ⟨rfl, rfl, trivial⟩, trivial⟩, ok_laws_eqRecording K v4.1 v2.1 v6 e7⟩, trivial, ⟨trivial, b8⟩, trivial, trivial, trivial, trivial, ⟨trivial, b9⟩, trivial, trivial, trivial, trivial, trivial⟩ ⟨rfl, rfl⟩
        · replace e11 := some_eq e11
          subst e11
          exact AW.regionA [.no, .no, .call [.agg (cs_Recording v4.1), .agg (cs_Recording v2.1)] [.one (.bool v6)] [[.view]], .no, .dec false, .no, .no, .no, .no, .dec false] [0, 3, 4, 5, 6, 42] [1, 2, 3, 4] (s' := ⟨[(0, (.v (.one (.c (.str a0))))), (3, (.v (.one (.ptr 2 0)))), (4, (.v (.one (.c (.int .i64 v2.2.1))))), (5, (.v (.one (.c (.bool v2.2.2))))), (6, (.v (.one (.ptr 4 0)))), (42, (.v (.one (.c (.bool (!(v4.2.2 == v2.2.2)))))))], [(1, (.lst v2.1.Frames.length 4 (gl cs_Pose v2.1.Frames))), (2, (.box [(.c (.int .i64 v2.1.Bones)), (.lst 1 v2.1.Frames.length 4 (gl cs_Pose v2.1.Frames))])), (3, (.arr true v4.1.Frames.length 4 (gl cs_Pose v4.1.Frames))), (4, (.box [(.c (.int .i64 v4.1.Bones)), (.arr 3)]))]⟩) (ob := True ∧ True ∧ ((((((.int .i64 v4.1.Bones) : C) = (.int .i64 v4.1.Bones)) ∧ (((sl 4 cs_Pose v4.1.Frames) : C) = (sl 4 cs_Pose v4.1.Frames)) ∧ True) ∧ ((((.int .i64 v2.1.Bones) : C) = (.int .i64 v2.1.Bones)) ∧ (((sl 4 cs_Pose v2.1.Frames) : C) = (sl 4 cs_Pose v2.1.Frames)) ∧ True) ∧ True) ∧ CallOK Try.prog 25 [.agg (cs_Recording v4.1), .agg (cs_Recording v2.1)] [.one (.bool v6)]) ∧ True ∧ (True ∧ (!v6) = false) ∧ True ∧ True ∧ True ∧ True ∧ (True ∧ (v4.2.1 != v2.2.1) = false) ∧ True ∧ True ∧ True ∧ True ∧ True) (by kernel_rfl) ⟨trivial, trivial, ⟨⟨⟨rfl, rfl, trivial⟩, ⟨rfl, rfl, trivial⟩, trivial⟩, ok_laws_eqRecording K v4.1 v2.1 v6 e7⟩, trivial, ⟨trivial, b8⟩, trivial, trivial, trivial, trivial, ⟨trivial, b9⟩, trivial, trivial, trivial, trivial, trivial⟩ ⟨rfl, rfl⟩
    refine thenQ_normal ?_
    rcases ite2_cases h with ⟨b12, h⟩ | ⟨b12, h⟩
    · refine AW.cond_t rfl b12 ?_
      refine AW.seq ?_
      refine AW.regionA [] [2] [] (s' := ⟨[(2, (.v (.one (.c (.bool false)))))], []⟩) (ob := True ∧ True) (by kernel_rfl) ⟨trivial, trivial⟩ ?_
      refine thenQ_normal ?_
      refine AW.ret ?_
      refine thenQ_ret ?_
      replace h := some_eq h
      subst h
      exact ⟨.inr rfl, retOK_of [(.one (.c (.bool false)))] (by kernel_rfl) ⟨⟨rfl, trivial⟩, trivial⟩ (of_decide_eq_true (by kernel_rfl))⟩
    · refine AW.cond_f rfl b12 ?_
      refine AW.skip ?_
      refine thenQ_normal ?_
      refine AW.seq ?_
      refine AW.regionA [] [0, 3, 4, 5, 6, 9] [1, 2, 3, 4] (s' := ⟨[(0, (.v (.one (.c (.str a0))))), (3, (.v (.one (.ptr 2 0)))), (4, (.v (.one (.c (.int .i64 v2.2.1))))), (5, (.v (.one (.c (.bool v2.2.2))))), (6, (.v (.one (.ptr 4 0)))), (9, (.v (.one (.c (.int .i64 (1 : Int))))))], [(1, (.lst v2.1.Frames.length 4 (gl cs_Pose v2.1.Frames))), (2, (.box [(.c (.int .i64 v2.1.Bones)), (.lst 1 v2.1.Frames.length 4 (gl cs_Pose v2.1.Frames))])), (3, (.arr true v4.1.Frames.length 4 (gl cs_Pose v4.1.Frames))), (4, (.box [(.c (.int .i64 v4.1.Bones)), (.arr 3)]))]⟩) (ob := True ∧ True) (by kernel_rfl) ⟨trivial, trivial⟩ ?_
      refine thenQ_normal ?_
      refine AW.seq ?_
      obtain ⟨v13, e14, h⟩ := bind_some h
      obtain ⟨c15, h⟩ := chk_some h
      refine AW.regionA [.no, .no, .callM [(.agg [(.ro (.int .i64 v4.1.Bones)), (.mu (sl 4 cs_Pose v4.1.Frames) (sl 4 cs_Pose v13.2))]), .one (.ro (.int .i64 (1 : Int)))] [.one (.int .i64 v13.1)] [[.view]] none] [0, 3, 4, 5, 6, 9] [1, 2, 3, 4] (s' := ⟨[(0, (.v (.one (.c (.str a0))))), (3, (.v (.one (.ptr 2 0)))), (4, (.v (.one (.c (.int .i64 v2.2.1))))), (5, (.v (.one (.c (.bool v2.2.2))))), (6, (.v (.one (.ptr 4 0)))), (9, (.v (.one (.c (.int .i64 v13.1)))))], [(1, (.lst v2.1.Frames.length 4 (gl cs_Pose v2.1.Frames))), (2, (.box [(.c (.int .i64 v2.1.Bones)), (.lst 1 v2.1.Frames.length 4 (gl cs_Pose v2.1.Frames))])), (3, (.arr true v13.2.length 4 (gl cs_Pose v13.2))), (4, (.box [(.c (.int .i64 v4.1.Bones)), (.arr 3)]))]⟩) (ob := True ∧ True ∧ ((((((.int .i64 v4.1.Bones) : C) = (.int .i64 v4.1.Bones)) ∧ (((sl 4 cs_Pose v4.1.Frames) : C) = (sl 4 cs_Pose v4.1.Frames) ∧ v13.2.length = v4.1.Frames.length ∧ 4 = 4 ∧ ∀ i j, i < v4.1.Frames.length → j < 4 → isSeq (gl cs_Pose v13.2 i j) = isSeq (gl cs_Pose v4.1.Frames i j)) ∧ True) ∧ (((.int .i64 (1 : Int)) : C) = (.int .i64 (1 : Int))) ∧ True) ∧ MutOK Try.prog 26 [(.agg [(.ro (.int .i64 v4.1.Bones)), (.mu (sl 4 cs_Pose v4.1.Frames) (sl 4 cs_Pose v13.2))]), .one (.ro (.int .i64 (1 : Int)))] [.one (.int .i64 v13.1)]) ∧ True ∧ True) (by kernel_rfl) ⟨trivial, trivial, ⟨⟨⟨rfl, ⟨rfl, c15, rfl, gl_seq sq_Pose⟩, trivial⟩, rfl, trivial⟩, ok_laws_markRecording K v4.1 (1 : Int) v13 e14⟩, trivial, trivial⟩ ?_
      refine thenQ_normal ?_
      refine AW.seq ?_
      refine AW.regionA [] [0, 3, 4, 5, 6, 9, 10] [1, 2, 3, 4] (s' := ⟨[(0, (.v (.one (.c (.str a0))))), (3, (.v (.one (.ptr 2 0)))), (4, (.v (.one (.c (.int .i64 v2.2.1))))), (5, (.v (.one (.c (.bool v2.2.2))))), (6, (.v (.one (.ptr 4 0)))), (9, (.v (.one (.c (.int .i64 v13.1))))), (10, (.v (.one (.c (.int .i64 (1 : Int))))))], [(1, (.lst v2.1.Frames.length 4 (gl cs_Pose v2.1.Frames))), (2, (.box [(.c (.int .i64 v2.1.Bones)), (.lst 1 v2.1.Frames.length 4 (gl cs_Pose v2.1.Frames))])), (3, (.arr true v13.2.length 4 (gl cs_Pose v13.2))), (4, (.box [(.c (.int .i64 v4.1.Bones)), (.arr 3)]))]⟩) (ob := True ∧ True) (by kernel_rfl) ⟨trivial, trivial⟩ ?_
      refine thenQ_normal ?_
      refine AW.seq ?_
      obtain ⟨v16, e17, h⟩ := bind_some h
      refine AW.regionA [.no, .no, .call [.agg (cs_Recording (Recording.mk v4.1.Bones v13.2)), .one (.int .i64 (1 : Int))] [.one (.int .i64 v16)] [[.view]]] [0, 3, 4, 5, 6, 9, 10] [1, 2, 3, 4] (s' := ⟨[(0, (.v (.one (.c (.str a0))))), (3, (.v (.one (.ptr 2 0)))), (4, (.v (.one (.c (.int .i64 v2.2.1))))), (5, (.v (.one (.c (.bool v2.2.2))))), (6, (.v (.one (.ptr 4 0)))), (9, (.v (.one (.c (.int .i64 v13.1))))), (10, (.v (.one (.c (.int .i64 v16)))))], [(1, (.lst v2.1.Frames.length 4 (gl cs_Pose v2.1.Frames))), (2, (.box [(.c (.int .i64 v2.1.Bones)), (.lst 1 v2.1.Frames.length 4 (gl cs_Pose v2.1.Frames))])), (3, (.arr true v13.2.length 4 (gl cs_Pose v13.2))), (4, (.box [(.c (.int .i64 v4.1.Bones)), (.arr 3)]))]⟩) (ob := True ∧ True ∧ ((((((.int .i64 v4.1.Bones) : C) = (.int .i64 v4.1.Bones)) ∧ (((sl 4 cs_Pose v13.2) : C) = (sl 4 cs_Pose v13.2)) ∧ True) ∧ (((.int .i64 (1 : Int)) : C) = (.int .i64 (1 : Int))) ∧ True) ∧ CallOK Try.prog 27 [.agg (cs_Recording (Recording.mk v4.1.Bones v13.2)), .one (.int .i64 (1 : Int))] [.one (.int .i64 v16)]) ∧ True ∧ True) (by kernel_rfl) ⟨trivial, trivial, ⟨⟨⟨rfl, rfl, trivial⟩, rfl, trivial⟩, ok_laws_heldRecording K (Recording.mk v4.1.Bones v13.2) (1 : Int) v16 e17⟩, trivial, trivial⟩ ?_
      refine thenQ_normal ?_
      refine AW.seq ?_
      refine AW.seq ?_
      refine AW.regionA [] [0, 3, 4, 5, 6, 9, 10, 50] [1, 2, 3, 4] (s' := ⟨[(0, (.v (.one (.c (.str a0))))), (3, (.v (.one (.ptr 2 0)))), (4, (.v (.one (.c (.int .i64 v2.2.1))))), (5, (.v (.one (.c (.bool v2.2.2))))), (6, (.v (.one (.ptr 4 0)))), (9, (.v (.one (.c (.int .i64 v13.1))))), (10, (.v (.one (.c (.int .i64 v16))))), (50, (.v (.one (.c (.bool (decide (v16 < (0 : Int))))))))], [(1, (.lst v2.1.Frames.length 4 (gl cs_Pose v2.1.Frames))), (2, (.box [(.c (.int .i64 v2.1.Bones)), (.lst 1 v2.1.Frames.length 4 (gl cs_Pose v2.1.Frames))])), (3, (.arr true v13.2.length 4 (gl cs_Pose v13.2))), (4, (.box [(.c (.int .i64 v4.1.Bones)), (.arr 3)]))]⟩) (ob := True ∧ True ∧ True) (by kernel_rfl) ⟨trivial, trivial, trivial⟩ ?_
      refine thenQ_normal ?_
      rcases ite2_cases h with ⟨b18, h⟩ | ⟨b18, h⟩
      · refine AW.cond_t rfl b18 ?_
        refine AW.seq ?_
        refine AW.regionA [] [2] [] (s' := ⟨[(2, (.v (.one (.c (.bool false)))))], []⟩) (ob := True ∧ True) (by kernel_rfl) ⟨trivial, trivial⟩ ?_
        refine thenQ_normal ?_
        refine AW.ret ?_
        refine thenQ_ret ?_
        replace h := some_eq h
        subst h
        exact ⟨.inr rfl, retOK_of [(.one (.c (.bool false)))] (by kernel_rfl) ⟨⟨rfl, trivial⟩, trivial⟩ (of_decide_eq_true (by kernel_rfl))⟩
      · refine AW.cond_f rfl b18 ?_
        refine AW.skip ?_
        refine thenQ_normal ?_
        refine AW.seq ?_
        refine AW.seq ?_
        refine AW.regionA [] [0, 3, 4, 5, 6, 9, 53] [1, 2, 3, 4] (s' := ⟨[(0, (.v (.one (.c (.str a0))))), (3, (.v (.one (.ptr 2 0)))), (4, (.v (.one (.c (.int .i64 v2.2.1))))), (5, (.v (.one (.c (.bool v2.2.2))))), (6, (.v (.one (.ptr 4 0)))), (9, (.v (.one (.c (.int .i64 v13.1))))), (53, (.v (.one (.c (.bool (v16 != v13.1))))))], [(1, (.lst v2.1.Frames.length 4 (gl cs_Pose v2.1.Frames))), (2, (.box [(.c (.int .i64 v2.1.Bones)), (.lst 1 v2.1.Frames.length 4 (gl cs_Pose v2.1.Frames))])), (3, (.arr true v13.2.length 4 (gl cs_Pose v13.2))), (4, (.box [(.c (.int .i64 v4.1.Bones)), (.arr 3)]))]⟩) (ob := True ∧ True ∧ True ∧ True) (by kernel_rfl) ⟨trivial, trivial, trivial, trivial⟩ ?_
        refine thenQ_normal ?_
        rcases ite2_cases h with ⟨b19, h⟩ | ⟨b19, h⟩
        · refine AW.cond_t rfl b19 ?_
          refine AW.seq ?_
          refine AW.regionA [] [2] [] (s' := ⟨[(2, (.v (.one (.c (.bool false)))))], []⟩) (ob := True ∧ True) (by kernel_rfl) ⟨trivial, trivial⟩ ?_
          refine thenQ_normal ?_
          refine AW.ret ?_
          refine thenQ_ret ?_
          replace h := some_eq h
          subst h
          exact ⟨.inr rfl, retOK_of [(.one (.c (.bool false)))] (by kernel_rfl) ⟨⟨rfl, trivial⟩, trivial⟩ (of_decide_eq_true (by kernel_rfl))⟩
        · refine AW.cond_f rfl b19 ?_
          refine AW.skip ?_
          refine thenQ_normal ?_
          refine AW.seq ?_
          obtain ⟨v20, e21, h⟩ := bind_some h
          refine AW.regionA [.no, .call [.one (.str a0)] [.agg (cs_Recording v20.1), .one (.int .i64 v20.2.1), .one (.bool v20.2.2)] [[.view, .lst 5], [.view], [.view]], .no, .no, .no, .no, .box 6] [3, 4, 5, 6, 9, 11, 12, 13] [1, 2, 3, 4, 5, 6] (s' := ⟨[(3, (.v (.one (.ptr 2 0)))), (4, (.v (.one (.c (.int .i64 v2.2.1))))), (5, (.v (.one (.c (.bool v2.2.2))))), (6, (.v (.one (.ptr 4 0)))), (9, (.v (.one (.c (.int .i64 v13.1))))), (11, (.v (.one (.ptr 6 0)))), (12, (.v (.one (.c (.int .i64 v20.2.1))))), (13, (.v (.one (.c (.bool v20.2.2)))))], [(1, (.lst v2.1.Frames.length 4 (gl cs_Pose v2.1.Frames))), (2, (.box [(.c (.int .i64 v2.1.Bones)), (.lst 1 v2.1.Frames.length 4 (gl cs_Pose v2.1.Frames))])), (3, (.arr true v13.2.length 4 (gl cs_Pose v13.2))), (4, (.box [(.c (.int .i64 v4.1.Bones)), (.arr 3)])), (5, (.lst v20.1.Frames.length 4 (gl cs_Pose v20.1.Frames))), (6, (.box [(.c (.int .i64 v20.1.Bones)), (.lst 5 v20.1.Frames.length 4 (gl cs_Pose v20.1.Frames))]))]⟩) (ob := True ∧ (((((.str a0) : C) = (.str a0)) ∧ True) ∧ CallOK Try.prog 41 [.one (.str a0)] [.agg (cs_Recording v20.1), .one (.int .i64 v20.2.1), .one (.bool v20.2.2)]) ∧ True ∧ True ∧ True ∧ True ∧ True ∧ True ∧ True ∧ True ∧ True) (by kernel_rfl) ⟨trivial, ⟨⟨rfl, trivial⟩, ok_impl_RecoverRecording K a0 v20 e21⟩, trivial, trivial, trivial, trivial, trivial, trivial, trivial, trivial, trivial⟩ ?_
          refine thenQ_normal ?_
          refine AW.seq ?_
          refine AW.seq ?_
          obtain ⟨v22, e23, h⟩ := bind_some h
          obtain ⟨j26, e27, h⟩ := bind_some h
          refine AW.join1 (s2 := ⟨[(6, (.v (.one (.ptr 4 0)))), (9, (.v (.one (.c (.int .i64 v13.1))))), (73, (.v (.one (.c (.bool j26)))))], [(3, (.arr true v13.2.length 4 (gl cs_Pose v13.2))), (4, (.box [(.c (.int .i64 v4.1.Bones)), (.arr 3)]))]⟩) ?_ ?_
          · rcases ite2_cases e27 with ⟨b24, e27⟩ | ⟨b24, e27⟩
            · replace e27 := some_eq e27
              subst e27
              exact AW.regionA [.no, .no, .call [.agg (cs_Recording v20.1), .agg (cs_Recording v2.1)] [.one (.bool v22)] [[.view]], .no, .dec true] [6, 9, 73] [3, 4] (s' := ⟨[(6, (.v (.one (.ptr 4 0)))), (9, (.v (.one (.c (.int .i64 v13.1))))), (73, (.v (.one (.c (.bool true)))))], [(3, (.arr true v13.2.length 4 (gl cs_Pose v13.2))), (4, (.box [(.c (.int .i64 v4.1.Bones)), (.arr 3)]))]⟩) (ob := True ∧ True ∧ ((((((.int .i64 v20.1.Bones) : C) = (.int .i64 v20.1.Bones)) ∧ (((sl 4 cs_Pose v20.1.Frames) : C) = (sl 4 cs_Pose v20.1.Frames)) ∧ True) ∧ ((((.int .i64 v2.1.Bones) : C) = (.int .i64 v2.1.Bones)) ∧ (((sl 4 cs_Pose v2.1.Frames) : C) = (sl 4 cs_Pose v2.1.Frames)) ∧ True) ∧ True) ∧ CallOK Try.prog 25 [.agg (cs_Recording v20.1), .agg (cs_Recording v2.1)] [.one (.bool v22)]) ∧ True ∧ (True ∧ (!v22) = true) ∧ True ∧ True ∧ True ∧ True ∧ True ∧ True ∧ True ∧ True ∧ True ∧ True) (by kernel_rfl) ⟨trivial, trivial, ⟨⟨⟨rfl, rfl, trivial⟩, ⟨rfl, rfl, trivial⟩, trivial⟩, ok_laws_eqRecording K v20.1 v2.1 v22 e23⟩, trivial, ⟨trivial, b24⟩, trivial, trivial, trivial, trivial, trivial, trivial, trivial, trivial, trivial, trivial⟩ ⟨rfl, rfl⟩
            · rcases ite2_cases e27 with ⟨b25, e27⟩ | ⟨b25, e27⟩
              · replace e27 := some_eq e27
                subst e27
                exact AW.regionA [.no, .no, .call [.agg (cs_Recording v20.1), .agg (cs_Recording v2.1)] [.one (.bool v22)] [[.view]], .no, .dec false, .no, .no, .no, .no, .dec true] [6, 9, 73] [3, 4] (s' := ⟨[(6, (.v (.one (.ptr 4 0)))), (9, (.v (.one (.c (.int .i64 v13.1))))), (73, (.v (.one (.c (.bool true)))))], [(3, (.arr true v13.2.length 4 (gl cs_Pose v13.2))), (4, (.box [(.c (.int .i64 v4.1.Bones)), (.arr 3)]))]⟩) (ob := True ∧ True ∧ ((((((.int .i64 v20.1.Bones) : C) = (.int .i64 v20.1.Bones)) ∧ (((sl 4 cs_Pose v20.1.Frames) : C) = (sl 4 cs_Pose v20.1.Frames)) ∧ True) ∧ ((((.int .i64 v2.1.Bones) : C) = (.int .i64 v2.1.Bones)) ∧ (((sl 4 cs_Pose v2.1.Frames) : C) = (sl 4 cs_Pose v2.1.Frames)) ∧ True) ∧ True) ∧ CallOK Try.prog 25 [.agg (cs_Recording v20.1), .agg (cs_Recording v2.1)] [.one (.bool v22)]) ∧ True ∧ (True ∧ (!v22) = false) ∧ True ∧ True ∧ True ∧ True ∧ (True ∧ (v20.2.1 != v2.2.1) = true) ∧ True ∧ True ∧ True ∧ True ∧ True) (by kernel_rfl) ⟨trivial, trivial, ⟨⟨⟨rfl, rfl, trivial⟩, ⟨rfl, rfl, trivial⟩, trivial⟩, ok_laws_eqRecording K v20.1 v2.1 v22 e23⟩, trivial, ⟨trivial, b24⟩, trivial, trivial, trivial, trivial, ⟨trivial, b25⟩, trivial, trivial, trivial, trivial, trivial⟩ ⟨rfl, rfl⟩
              · replace e27 := some_eq e27
                subst e27
                exact AW.regionA [.no, .no, .call [.agg (cs_Recording v20.1), .agg (cs_Recording v2.1)] [.one (.bool v22)] [[.view]], .no, .dec false, .no, .no, .no, .no, .dec false] [6, 9, 73] [3, 4] (s' := ⟨[(6, (.v (.one (.ptr 4 0)))), (9, (.v (.one (.c (.int .i64 v13.1))))), (73, (.v (.one (.c (.bool (!(v20.2.2 == v2.2.2)))))))], [(3, (.arr true v13.2.length 4 (gl cs_Pose v13.2))), (4, (.box [(.c (.int .i64 v4.1.Bones)), (.arr 3)]))]⟩) (ob := True ∧ True ∧ ((((((.int .i64 v20.1.Bones) : C) = (.int .i64 v20.1.Bones)) ∧ (((sl 4 cs_Pose v20.1.Frames) : C) = (sl 4 cs_Pose v20.1.Frames)) ∧ True) ∧ ((((.int .i64 v2.1.Bones) : C) = (.int .i64 v2.1.Bones)) ∧ (((sl 4 cs_Pose v2.1.Frames) : C) = (sl 4 cs_Pose v2.1.Frames)) ∧ True) ∧ True) ∧ CallOK Try.prog 25 [.agg (cs_Recording v20.1), .agg (cs_Recording v2.1)] [.one (.bool v22)]) ∧ True ∧ (True ∧ (!v22) = false) ∧ True ∧ True ∧ True ∧ True ∧ (True ∧ (v20.2.1 != v2.2.1) = false) ∧ True ∧ True ∧ True ∧ True ∧ True) (by kernel_rfl) ⟨trivial, trivial, ⟨⟨⟨rfl, rfl, trivial⟩, ⟨rfl, rfl, trivial⟩, trivial⟩, ok_laws_eqRecording K v20.1 v2.1 v22 e23⟩, trivial, ⟨trivial, b24⟩, trivial, trivial, trivial, trivial, ⟨trivial, b25⟩, trivial, trivial, trivial, trivial, trivial⟩ ⟨rfl, rfl⟩
          refine thenQ_normal ?_
          rcases ite2_cases h with ⟨b28, h⟩ | ⟨b28, h⟩
          · refine AW.cond_t rfl b28 ?_
            refine AW.seq ?_
            refine AW.regionA [] [2] [] (s' := ⟨[(2, (.v (.one (.c (.bool false)))))], []⟩) (ob := True ∧ True) (by kernel_rfl) ⟨trivial, trivial⟩ ?_
            refine thenQ_normal ?_
            refine AW.ret ?_
            refine thenQ_ret ?_
            replace h := some_eq h
            subst h
            exact ⟨.inr rfl, retOK_of [(.one (.c (.bool false)))] (by kernel_rfl) ⟨⟨rfl, trivial⟩, trivial⟩ (of_decide_eq_true (by kernel_rfl))⟩
          · refine AW.cond_f rfl b28 ?_
            refine AW.skip ?_
            refine thenQ_normal ?_
            refine AW.seq ?_
            refine AW.regionA [] [6, 9, 10] [3, 4] (s' := ⟨[(6, (.v (.one (.ptr 4 0)))), (9, (.v (.one (.c (.int .i64 v13.1))))), (10, (.v (.one (.c (.int .i64 (1 : Int))))))], [(3, (.arr true v13.2.length 4 (gl cs_Pose v13.2))), (4, (.box [(.c (.int .i64 v4.1.Bones)), (.arr 3)]))]⟩) (ob := True ∧ True) (by kernel_rfl) ⟨trivial, trivial⟩ ?_
            refine thenQ_normal ?_
            refine AW.seq ?_
            obtain ⟨v29, e30, h⟩ := bind_some h
            refine AW.regionA [.no, .no, .call [.agg (cs_Recording (Recording.mk v4.1.Bones v13.2)), .one (.int .i64 (1 : Int))] [.one (.int .i64 v29)] [[.view]]] [9, 10] [] (s' := ⟨[(9, (.v (.one (.c (.int .i64 v13.1))))), (10, (.v (.one (.c (.int .i64 v29)))))], []⟩) (ob := True ∧ True ∧ ((((((.int .i64 v4.1.Bones) : C) = (.int .i64 v4.1.Bones)) ∧ (((sl 4 cs_Pose v13.2) : C) = (sl 4 cs_Pose v13.2)) ∧ True) ∧ (((.int .i64 (1 : Int)) : C) = (.int .i64 (1 : Int))) ∧ True) ∧ CallOK Try.prog 27 [.agg (cs_Recording (Recording.mk v4.1.Bones v13.2)), .one (.int .i64 (1 : Int))] [.one (.int .i64 v29)]) ∧ True ∧ True) (by kernel_rfl) ⟨trivial, trivial, ⟨⟨⟨rfl, rfl, trivial⟩, rfl, trivial⟩, ok_laws_heldRecording K (Recording.mk v4.1.Bones v13.2) (1 : Int) v29 e30⟩, trivial, trivial⟩ ?_
            refine thenQ_normal ?_
            refine AW.seq ?_
            refine AW.seq ?_
            refine AW.regionA [] [9, 10, 78] [] (s' := ⟨[(9, (.v (.one (.c (.int .i64 v13.1))))), (10, (.v (.one (.c (.int .i64 v29))))), (78, (.v (.one (.c (.bool (decide (v29 < (0 : Int))))))))], []⟩) (ob := True ∧ True ∧ True) (by kernel_rfl) ⟨trivial, trivial, trivial⟩ ?_
            refine thenQ_normal ?_
            rcases ite2_cases h with ⟨b31, h⟩ | ⟨b31, h⟩
            · refine AW.cond_t rfl b31 ?_
              refine AW.seq ?_
              refine AW.regionA [] [2] [] (s' := ⟨[(2, (.v (.one (.c (.bool false)))))], []⟩) (ob := True ∧ True) (by kernel_rfl) ⟨trivial, trivial⟩ ?_
              refine thenQ_normal ?_
              refine AW.ret ?_
              refine thenQ_ret ?_
              replace h := some_eq h
              subst h
              exact ⟨.inr rfl, retOK_of [(.one (.c (.bool false)))] (by kernel_rfl) ⟨⟨rfl, trivial⟩, trivial⟩ (of_decide_eq_true (by kernel_rfl))⟩
            · refine AW.cond_f rfl b31 ?_
              refine AW.skip ?_
              refine thenQ_normal ?_
              refine AW.seq ?_
              refine AW.seq ?_
              refine AW.regionA [] [81] [] (s' := ⟨[(81, (.v (.one (.c (.bool (v29 != v13.1))))))], []⟩) (ob := True ∧ True ∧ True ∧ True) (by kernel_rfl) ⟨trivial, trivial, trivial, trivial⟩ ?_
              refine thenQ_normal ?_
              rcases ite2_cases h with ⟨b32, h⟩ | ⟨b32, h⟩
              · refine AW.cond_t rfl b32 ?_
                refine AW.seq ?_
                refine AW.regionA [] [2] [] (s' := ⟨[(2, (.v (.one (.c (.bool false)))))], []⟩) (ob := True ∧ True) (by kernel_rfl) ⟨trivial, trivial⟩ ?_
                refine thenQ_normal ?_
                refine AW.ret ?_
                refine thenQ_ret ?_
                replace h := some_eq h
                subst h
                exact ⟨.inr rfl, retOK_of [(.one (.c (.bool false)))] (by kernel_rfl) ⟨⟨rfl, trivial⟩, trivial⟩ (of_decide_eq_true (by kernel_rfl))⟩
              · refine AW.cond_f rfl b32 ?_
                refine AW.skip ?_
                refine thenQ_normal ?_
                refine AW.seq ?_
                refine AW.regionA [] [2] [] (s' := ⟨[(2, (.v (.one (.c (.bool true)))))], []⟩) (ob := True ∧ True) (by kernel_rfl) ⟨trivial, trivial⟩ ?_
                refine thenQ_normal ?_
                refine AW.ret ?_
                replace h := some_eq h
                subst h
                exact ⟨.inr rfl, retOK_of [(.one (.c (.bool true)))] (by kernel_rfl) ⟨⟨rfl, trivial⟩, trivial⟩ (of_decide_eq_true (by kernel_rfl))⟩

/-! spec.LoadRecording -/
def spec_LoadRecording (K : Nat) (a0 : ByteArray) : Option (Recording × Bool) :=
  (spec_l10Recover K a0).bind fun v1 => (ite2 ((!v1.2.2)) (some true) (some (v1.2.1 != (a0.size : Int)))).bind fun j4 => ite2 (j4) (some ((Recording.mk (0 : Int) ([] : (List Pose))), false)) (some (v1.1, true))

theorem ok_spec_LoadRecording (K : Nat) (a0 : ByteArray) (o : (Recording × Bool)) (h : spec_LoadRecording K a0 = some o) : CallOK Try.prog 42 [.one (.str a0)] [.agg (cs_Recording o.1), .one (.bool o.2)] := by
  refine callOK_of_AW Try.func42 rfl (by kernel_rfl) (Nat.le_of_ble_eq_true (by kernel_rfl)) ?_
  intro w0
  unfold spec_LoadRecording at h
  refine AW.seq ?_
  refine AW.regionA [.box 1] [0, 2] [1] (s' := ⟨[(0, (.v (.one (.c (.str a0))))), (2, (.v (.one (.ptr 1 0))))], [(1, (.box [(.c (.int .i64 (0 : Int))), .nils]))]⟩) (ob := True ∧ True ∧ True) (by kernel_rfl) ⟨trivial, trivial, trivial⟩ ?_
  refine thenQ_normal ?_
  refine AW.seq ?_
  obtain ⟨v1, e2, h⟩ := bind_some h
  refine AW.regionA [.no, .call [.one (.str a0)] [.agg (cs_Recording v1.1), .one (.int .i64 v1.2.1), .one (.bool v1.2.2)] [[.view, .lst 2], [.view], [.view]], .no, .no, .no, .no, .box 3] [0, 2, 4, 5, 6] [1, 2, 3] (s' := ⟨[(0, (.v (.one (.c (.str a0))))), (2, (.v (.one (.ptr 1 0)))), (4, (.v (.one (.ptr 3 0)))), (5, (.v (.one (.c (.int .i64 v1.2.1))))), (6, (.v (.one (.c (.bool v1.2.2)))))], [(1, (.box [(.c (.int .i64 (0 : Int))), .nils])), (2, (.lst v1.1.Frames.length 4 (gl cs_Pose v1.1.Frames))), (3, (.box [(.c (.int .i64 v1.1.Bones)), (.lst 2 v1.1.Frames.length 4 (gl cs_Pose v1.1.Frames))]))]⟩) (ob := True ∧ (((((.str a0) : C) = (.str a0)) ∧ True) ∧ CallOK Try.prog 93 [.one (.str a0)] [.agg (cs_Recording v1.1), .one (.int .i64 v1.2.1), .one (.bool v1.2.2)]) ∧ True ∧ True ∧ True ∧ True ∧ True ∧ True ∧ True ∧ True ∧ True) (by kernel_rfl) ⟨trivial, ⟨⟨rfl, trivial⟩, ok_spec_l10Recover K a0 v1 e2⟩, trivial, trivial, trivial, trivial, trivial, trivial, trivial, trivial, trivial⟩ ?_
  refine thenQ_normal ?_
  refine AW.seq ?_
  refine AW.seq ?_
  obtain ⟨j4, e5, h⟩ := bind_some h
  refine AW.join1 (s2 := ⟨[(2, (.v (.one (.ptr 1 0)))), (4, (.v (.one (.ptr 3 0)))), (20, (.v (.one (.c (.bool j4)))))], [(1, (.box [(.c (.int .i64 (0 : Int))), .nils])), (2, (.lst v1.1.Frames.length 4 (gl cs_Pose v1.1.Frames))), (3, (.box [(.c (.int .i64 v1.1.Bones)), (.lst 2 v1.1.Frames.length 4 (gl cs_Pose v1.1.Frames))]))]⟩) ?_ ?_
  · rcases ite2_cases e5 with ⟨b3, e5⟩ | ⟨b3, e5⟩
    · replace e5 := some_eq e5
      subst e5
      exact AW.regionA [.no, .no, .dec true] [2, 4, 20] [1, 2, 3] (s' := ⟨[(2, (.v (.one (.ptr 1 0)))), (4, (.v (.one (.ptr 3 0)))), (20, (.v (.one (.c (.bool true)))))], [(1, (.box [(.c (.int .i64 (0 : Int))), .nils])), (2, (.lst v1.1.Frames.length 4 (gl cs_Pose v1.1.Frames))), (3, (.box [(.c (.int .i64 v1.1.Bones)), (.lst 2 v1.1.Frames.length 4 (gl cs_Pose v1.1.Frames))]))]⟩) (ob := True ∧ True ∧ (True ∧ (!v1.2.2) = true) ∧ True ∧ True ∧ True ∧ True ∧ True ∧ True) (by kernel_rfl) ⟨trivial, trivial, ⟨trivial, b3⟩, trivial, trivial, trivial, trivial, trivial, trivial⟩ ⟨rfl, rfl⟩
    · replace e5 := some_eq e5
      subst e5
      exact AW.regionA [.no, .no, .dec false] [2, 4, 20] [1, 2, 3] (s' := ⟨[(2, (.v (.one (.ptr 1 0)))), (4, (.v (.one (.ptr 3 0)))), (20, (.v (.one (.c (.bool (v1.2.1 != (a0.size : Int)))))))], [(1, (.box [(.c (.int .i64 (0 : Int))), .nils])), (2, (.lst v1.1.Frames.length 4 (gl cs_Pose v1.1.Frames))), (3, (.box [(.c (.int .i64 v1.1.Bones)), (.lst 2 v1.1.Frames.length 4 (gl cs_Pose v1.1.Frames))]))]⟩) (ob := True ∧ True ∧ (True ∧ (!v1.2.2) = false) ∧ True ∧ True ∧ True ∧ True ∧ True ∧ True) (by kernel_rfl) ⟨trivial, trivial, ⟨trivial, b3⟩, trivial, trivial, trivial, trivial, trivial, trivial⟩ ⟨rfl, rfl⟩
  refine thenQ_normal ?_
  rcases ite2_cases h with ⟨b6, h⟩ | ⟨b6, h⟩
  · refine AW.cond_t rfl b6 ?_
    refine AW.seq ?_
    refine AW.regionA [] [2, 3] [1] (s' := ⟨[(2, (.v (.one (.ptr 1 0)))), (3, (.v (.one (.c (.bool false)))))], [(1, (.box [(.c (.int .i64 (0 : Int))), .nils]))]⟩) (ob := True ∧ True ∧ True ∧ True) (by kernel_rfl) ⟨trivial, trivial, trivial, trivial⟩ ?_
    refine thenQ_normal ?_
    refine AW.ret ?_
    refine thenQ_ret ?_
    replace h := some_eq h
    subst h
    exact ⟨.inr rfl, retOK_of [(.agg [(.c (.int .i64 (0 : Int))), .nils]), (.one (.c (.bool false)))] (by kernel_rfl) ⟨⟨⟨rfl, trivial⟩, rfl, trivial⟩, ⟨rfl, trivial⟩, trivial⟩ (of_decide_eq_true (by kernel_rfl))⟩
  · refine AW.cond_f rfl b6 ?_
    refine AW.skip ?_
    refine thenQ_normal ?_
    refine AW.seq ?_
    refine AW.regionA [] [2, 3] [1, 2] (s' := ⟨[(2, (.v (.one (.ptr 1 0)))), (3, (.v (.one (.c (.bool true)))))], [(1, (.box [(.c (.int .i64 v1.1.Bones)), (.lst 2 v1.1.Frames.length 4 (gl cs_Pose v1.1.Frames))])), (2, (.lst v1.1.Frames.length 4 (gl cs_Pose v1.1.Frames)))]⟩) (ob := True ∧ True ∧ True ∧ True) (by kernel_rfl) ⟨trivial, trivial, trivial, trivial⟩ ?_
    refine thenQ_normal ?_
    refine AW.ret ?_
    replace h := some_eq h
    subst h
    exact ⟨.inr rfl, retOK_of [(.agg [(.c (.int .i64 v1.1.Bones)), (.lst 2 v1.1.Frames.length 4 (gl cs_Pose v1.1.Frames))]), (.one (.c (.bool true)))] (by kernel_rfl) ⟨⟨⟨rfl, trivial⟩, rfl, trivial⟩, ⟨rfl, trivial⟩, trivial⟩ (of_decide_eq_true (by kernel_rfl))⟩

/-! impl.LoadRecording -/
def impl_LoadRecording (K : Nat) (a0 : ByteArray) : Option (Recording × Bool) :=
  (impl_RecoverRecording K a0).bind fun v1 => (ite2 ((!v1.2.2)) (some true) (some (v1.2.1 != (a0.size : Int)))).bind fun j4 => ite2 (j4) (some ((Recording.mk (0 : Int) ([] : (List Pose))), false)) (some (v1.1, true))

theorem ok_impl_LoadRecording (K : Nat) (a0 : ByteArray) (o : (Recording × Bool)) (h : impl_LoadRecording K a0 = some o) : CallOK Try.prog 43 [.one (.str a0)] [.agg (cs_Recording o.1), .one (.bool o.2)] := by
  refine callOK_of_AW Try.func43 rfl (by kernel_rfl) (Nat.le_of_ble_eq_true (by kernel_rfl)) ?_
  intro w0
  unfold impl_LoadRecording at h
  refine AW.seq ?_
  refine AW.regionA [.box 1] [0, 2] [1] (s' := ⟨[(0, (.v (.one (.c (.str a0))))), (2, (.v (.one (.ptr 1 0))))], [(1, (.box [(.c (.int .i64 (0 : Int))), .nils]))]⟩) (ob := True ∧ True ∧ True) (by kernel_rfl) ⟨trivial, trivial, trivial⟩ ?_
  refine thenQ_normal ?_
  refine AW.seq ?_
  obtain ⟨v1, e2, h⟩ := bind_some h
  refine AW.regionA [.no, .call [.one (.str a0)] [.agg (cs_Recording v1.1), .one (.int .i64 v1.2.1), .one (.bool v1.2.2)] [[.view, .lst 2], [.view], [.view]], .no, .no, .no, .no, .box 3] [0, 2, 4, 5, 6] [1, 2, 3] (s' := ⟨[(0, (.v (.one (.c (.str a0))))), (2, (.v (.one (.ptr 1 0)))), (4, (.v (.one (.ptr 3 0)))), (5, (.v (.one (.c (.int .i64 v1.2.1))))), (6, (.v (.one (.c (.bool v1.2.2)))))], [(1, (.box [(.c (.int .i64 (0 : Int))), .nils])), (2, (.lst v1.1.Frames.length 4 (gl cs_Pose v1.1.Frames))), (3, (.box [(.c (.int .i64 v1.1.Bones)), (.lst 2 v1.1.Frames.length 4 (gl cs_Pose v1.1.Frames))]))]⟩) (ob := True ∧ (((((.str a0) : C) = (.str a0)) ∧ True) ∧ CallOK Try.prog 41 [.one (.str a0)] [.agg (cs_Recording v1.1), .one (.int .i64 v1.2.1), .one (.bool v1.2.2)]) ∧ True ∧ True ∧ True ∧ True ∧ True ∧ True ∧ True ∧ True ∧ True) (by kernel_rfl) ⟨trivial, ⟨⟨rfl, trivial⟩, ok_impl_RecoverRecording K a0 v1 e2⟩, trivial, trivial, trivial, trivial, trivial, trivial, trivial, trivial, trivial⟩ ?_
  refine thenQ_normal ?_
  refine AW.seq ?_
  refine AW.seq ?_
  obtain ⟨j4, e5, h⟩ := bind_some h
  refine AW.join1 (s2 := ⟨[(2, (.v (.one (.ptr 1 0)))), (4, (.v (.one (.ptr 3 0)))), (20, (.v (.one (.c (.bool j4)))))], [(1, (.box [(.c (.int .i64 (0 : Int))), .nils])), (2, (.lst v1.1.Frames.length 4 (gl cs_Pose v1.1.Frames))), (3, (.box [(.c (.int .i64 v1.1.Bones)), (.lst 2 v1.1.Frames.length 4 (gl cs_Pose v1.1.Frames))]))]⟩) ?_ ?_
  · rcases ite2_cases e5 with ⟨b3, e5⟩ | ⟨b3, e5⟩
    · replace e5 := some_eq e5
      subst e5
      exact AW.regionA [.no, .no, .dec true] [2, 4, 20] [1, 2, 3] (s' := ⟨[(2, (.v (.one (.ptr 1 0)))), (4, (.v (.one (.ptr 3 0)))), (20, (.v (.one (.c (.bool true)))))], [(1, (.box [(.c (.int .i64 (0 : Int))), .nils])), (2, (.lst v1.1.Frames.length 4 (gl cs_Pose v1.1.Frames))), (3, (.box [(.c (.int .i64 v1.1.Bones)), (.lst 2 v1.1.Frames.length 4 (gl cs_Pose v1.1.Frames))]))]⟩) (ob := True ∧ True ∧ (True ∧ (!v1.2.2) = true) ∧ True ∧ True ∧ True ∧ True ∧ True ∧ True) (by kernel_rfl) ⟨trivial, trivial, ⟨trivial, b3⟩, trivial, trivial, trivial, trivial, trivial, trivial⟩ ⟨rfl, rfl⟩
    · replace e5 := some_eq e5
      subst e5
      exact AW.regionA [.no, .no, .dec false] [2, 4, 20] [1, 2, 3] (s' := ⟨[(2, (.v (.one (.ptr 1 0)))), (4, (.v (.one (.ptr 3 0)))), (20, (.v (.one (.c (.bool (v1.2.1 != (a0.size : Int)))))))], [(1, (.box [(.c (.int .i64 (0 : Int))), .nils])), (2, (.lst v1.1.Frames.length 4 (gl cs_Pose v1.1.Frames))), (3, (.box [(.c (.int .i64 v1.1.Bones)), (.lst 2 v1.1.Frames.length 4 (gl cs_Pose v1.1.Frames))]))]⟩) (ob := True ∧ True ∧ (True ∧ (!v1.2.2) = false) ∧ True ∧ True ∧ True ∧ True ∧ True ∧ True) (by kernel_rfl) ⟨trivial, trivial, ⟨trivial, b3⟩, trivial, trivial, trivial, trivial, trivial, trivial⟩ ⟨rfl, rfl⟩
  refine thenQ_normal ?_
  rcases ite2_cases h with ⟨b6, h⟩ | ⟨b6, h⟩
  · refine AW.cond_t rfl b6 ?_
    refine AW.seq ?_
    refine AW.regionA [] [2, 3] [1] (s' := ⟨[(2, (.v (.one (.ptr 1 0)))), (3, (.v (.one (.c (.bool false)))))], [(1, (.box [(.c (.int .i64 (0 : Int))), .nils]))]⟩) (ob := True ∧ True ∧ True ∧ True) (by kernel_rfl) ⟨trivial, trivial, trivial, trivial⟩ ?_
    refine thenQ_normal ?_
    refine AW.ret ?_
    refine thenQ_ret ?_
    replace h := some_eq h
    subst h
    exact ⟨.inr rfl, retOK_of [(.agg [(.c (.int .i64 (0 : Int))), .nils]), (.one (.c (.bool false)))] (by kernel_rfl) ⟨⟨⟨rfl, trivial⟩, rfl, trivial⟩, ⟨rfl, trivial⟩, trivial⟩ (of_decide_eq_true (by kernel_rfl))⟩
  · refine AW.cond_f rfl b6 ?_
    refine AW.skip ?_
    refine thenQ_normal ?_
    refine AW.seq ?_
    refine AW.regionA [] [2, 3] [1, 2] (s' := ⟨[(2, (.v (.one (.ptr 1 0)))), (3, (.v (.one (.c (.bool true)))))], [(1, (.box [(.c (.int .i64 v1.1.Bones)), (.lst 2 v1.1.Frames.length 4 (gl cs_Pose v1.1.Frames))])), (2, (.lst v1.1.Frames.length 4 (gl cs_Pose v1.1.Frames)))]⟩) (ob := True ∧ True ∧ True ∧ True) (by kernel_rfl) ⟨trivial, trivial, trivial, trivial⟩ ?_
    refine thenQ_normal ?_
    refine AW.ret ?_
    replace h := some_eq h
    subst h
    exact ⟨.inr rfl, retOK_of [(.agg [(.c (.int .i64 v1.1.Bones)), (.lst 2 v1.1.Frames.length 4 (gl cs_Pose v1.1.Frames))]), (.one (.c (.bool true)))] (by kernel_rfl) ⟨⟨⟨rfl, trivial⟩, rfl, trivial⟩, ⟨rfl, trivial⟩, trivial⟩ (of_decide_eq_true (by kernel_rfl))⟩

/-! laws.FnExactLoadRecording -/
def laws_FnExactLoadRecording (K : Nat) (a0 : ByteArray) : Option (Bool) :=
  ite2 ((decide ((a0.size : Int) > (1048576 : Int)))) (some true) ((spec_LoadRecording K a0).bind fun v2 => (impl_LoadRecording K a0).bind fun v4 => (laws_eqRecording K v4.1 v2.1).bind fun v6 => (ite2 ((!v6)) (some true) (some (!(v4.2 == v2.2)))).bind fun j9 => ite2 (j9) (some false) ((laws_markRecording K v4.1 (1 : Int)).bind fun v12 => chk (v12.2.length = v4.1.Frames.length) ((laws_heldRecording K (Recording.mk v4.1.Bones v12.2) (1 : Int)).bind fun v15 => ite2 ((decide (v15 < (0 : Int)))) (some false) (ite2 ((v15 != v12.1)) (some false) ((impl_LoadRecording K a0).bind fun v19 => (laws_eqRecording K v19.1 v2.1).bind fun v21 => (ite2 ((!v21)) (some true) (some (!(v19.2 == v2.2)))).bind fun j24 => ite2 (j24) (some false) ((laws_heldRecording K (Recording.mk v4.1.Bones v12.2) (1 : Int)).bind fun v27 => ite2 ((decide (v27 < (0 : Int)))) (some false) (ite2 ((v27 != v12.1)) (some false) (some true))))))))

theorem ok_laws_FnExactLoadRecording (K : Nat) (a0 : ByteArray) (o : (Bool)) (h : laws_FnExactLoadRecording K a0 = some o) : CallOK Try.prog 10 [.one (.str a0)] [.one (.bool o)] := by
  refine callOK_of_AW Try.func10 rfl (by kernel_rfl) (Nat.le_of_ble_eq_true (by kernel_rfl)) ?_
  intro w0
  unfold laws_FnExactLoadRecording at h
  refine AW.seq ?_
  refine AW.regionA [] [0] [] (s' := ⟨[(0, (.v (.one (.c (.str a0)))))], []⟩) (ob := True ∧ True) (by kernel_rfl) ⟨trivial, trivial⟩ ?_
  refine thenQ_normal ?_
  refine AW.seq ?_
  refine AW.seq ?_
  refine AW.regionA [] [0, 13] [] (s' := ⟨[(0, (.v (.one (.c (.str a0))))), (13, (.v (.one (.c (.bool (decide ((a0.size : Int) > (1048576 : Int))))))))], []⟩) (ob := True ∧ True ∧ True ∧ True) (by kernel_rfl) ⟨trivial, trivial, trivial, trivial⟩ ?_
  refine thenQ_normal ?_
  rcases ite2_cases h with ⟨b1, h⟩ | ⟨b1, h⟩
  · refine AW.cond_t rfl b1 ?_
    refine AW.seq ?_
    refine AW.regionA [] [2] [] (s' := ⟨[(2, (.v (.one (.c (.bool true)))))], []⟩) (ob := True ∧ True) (by kernel_rfl) ⟨trivial, trivial⟩ ?_
    refine thenQ_normal ?_
    refine AW.ret ?_
    refine thenQ_ret ?_
    replace h := some_eq h
    subst h
    exact ⟨.inr rfl, retOK_of [(.one (.c (.bool true)))] (by kernel_rfl) ⟨⟨rfl, trivial⟩, trivial⟩ (of_decide_eq_true (by kernel_rfl))⟩
  · refine AW.cond_f rfl b1 ?_
    refine AW.skip ?_
    refine thenQ_normal ?_
    refine AW.seq ?_
    obtain ⟨v2, e3, h⟩ := bind_some h
    refine AW.regionA [.no, .call [.one (.str a0)] [.agg (cs_Recording v2.1), .one (.bool v2.2)] [[.view, .lst 1], [.view]], .no, .no, .no, .box 2] [0, 3, 4] [1, 2] (s' := ⟨[(0, (.v (.one (.c (.str a0))))), (3, (.v (.one (.ptr 2 0)))), (4, (.v (.one (.c (.bool v2.2)))))], [(1, (.lst v2.1.Frames.length 4 (gl cs_Pose v2.1.Frames))), (2, (.box [(.c (.int .i64 v2.1.Bones)), (.lst 1 v2.1.Frames.length 4 (gl cs_Pose v2.1.Frames))]))]⟩) (ob := True ∧ (((((.str a0) : C) = (.str a0)) ∧ True) ∧ CallOK Try.prog 42 [.one (.str a0)] [.agg (cs_Recording v2.1), .one (.bool v2.2)]) ∧ True ∧ True ∧ True ∧ True ∧ True ∧ True ∧ True) (by kernel_rfl) ⟨trivial, ⟨⟨rfl, trivial⟩, ok_spec_LoadRecording K a0 v2 e3⟩, trivial, trivial, trivial, trivial, trivial, trivial, trivial⟩ ?_
    refine thenQ_normal ?_
    refine AW.seq ?_
    obtain ⟨v4, e5, h⟩ := bind_some h
    refine AW.regionA [.no, .call [.one (.str a0)] [.agg (cs_Recording v4.1), .one (.bool v4.2)] [[.view, .own 3], [.view]], .no, .no, .no, .box 4] [0, 3, 4, 5, 6] [1, 2, 3, 4] (s' := ⟨[(0, (.v (.one (.c (.str a0))))), (3, (.v (.one (.ptr 2 0)))), (4, (.v (.one (.c (.bool v2.2))))), (5, (.v (.one (.ptr 4 0)))), (6, (.v (.one (.c (.bool v4.2)))))], [(1, (.lst v2.1.Frames.length 4 (gl cs_Pose v2.1.Frames))), (2, (.box [(.c (.int .i64 v2.1.Bones)), (.lst 1 v2.1.Frames.length 4 (gl cs_Pose v2.1.Frames))])), (3, (.arr true v4.1.Frames.length 4 (gl cs_Pose v4.1.Frames))), (4, (.box [(.c (.int .i64 v4.1.Bones)), (.arr 3)]))]⟩) (ob := True ∧ (((((.str a0) : C) = (.str a0)) ∧ True) ∧ CallOK Try.prog 43 [.one (.str a0)] [.agg (cs_Recording v4.1), .one (.bool v4.2)]) ∧ True ∧ True ∧ True ∧ True ∧ True ∧ True ∧ True) (by kernel_rfl) ⟨trivial, ⟨⟨rfl, trivial⟩, ok_impl_LoadRecording K a0 v4 e5⟩, trivial, trivial, trivial, trivial, trivial, trivial, trivial⟩ ?_
    refine thenQ_normal ?_
    refine AW.seq ?_
    refine AW.seq ?_
    obtain ⟨v6, e7, h⟩ := bind_some h
    obtain ⟨j9, e10, h⟩ := bind_some h
    refine AW.join1 (s2 := ⟨[(0, (.v (.one (.c (.str a0))))), (3, (.v (.one (.ptr 2 0)))), (4, (.v (.one (.c (.bool v2.2))))), (5, (.v (.one (.ptr 4 0)))), (32, (.v (.one (.c (.bool j9)))))], [(1, (.lst v2.1.Frames.length 4 (gl cs_Pose v2.1.Frames))), (2, (.box [(.c (.int .i64 v2.1.Bones)), (.lst 1 v2.1.Frames.length 4 (gl cs_Pose v2.1.Frames))])), (3, (.arr true v4.1.Frames.length 4 (gl cs_Pose v4.1.Frames))), (4, (.box [(.c (.int .i64 v4.1.Bones)), (.arr 3)]))]⟩) ?_ ?_
    · rcases ite2_cases e10 with ⟨b8, e10⟩ | ⟨b8, e10⟩
      · replace e10 := some_eq e10
        subst e10
        exact AW.regionA [.no, .no, .call [.agg (cs_Recording v4.1), .agg (cs_Recording v2.1)] [.one (.bool v6)] [[.view]], .no, .dec true] [0, 3, 4, 5, 32] [1, 2, 3, 4] (s' := ⟨[(0, (.v (.one (.c (.str a0))))), (3, (.v (.one (.ptr 2 0)))), (4, (.v (.one (.c (.bool v2.2))))), (5, (.v (.one (.ptr 4 0)))), (32, (.v (.one (.c (.bool true)))))], [(1, (.lst v2.1.Frames.length 4 (gl cs_Pose v2.1.Frames))), (2, (.box [(.c (.int .i64 v2.1.Bones)), (.lst 1 v2.1.Frames.length 4 (gl cs_Pose v2.1.Frames))])), (3, (.arr true v4.1.Frames.length 4 (gl cs_Pose v4.1.Frames))), (4, (.box [(.c (.int .i64 v4.1.Bones)), (.arr 3)]))]⟩) (ob := True ∧ True ∧ ((((((.int .i64 v4.1.Bones) : C) = (.int .i64 v4.1.Bones)) ∧ (((sl 4 cs_Pose v4.1.Frames) : C) = (sl 4 cs_Pose v4.1.Frames)) ∧ True) ∧ ((((.int .i64 v2.1.Bones) : C) = (.int .i64 v2.1.Bones)) ∧ (((sl 4 cs_Pose v2.1.Frames) : C) = (sl 4 cs_Pose v2.1.Frames)) ∧ True) ∧ True) ∧ CallOK Try.prog 25 [.agg (cs_Recording v4.1), .agg (cs_Recording v2.1)] [.one (.bool v6)]) ∧ True ∧ (True ∧ (!v6) = true) ∧ True ∧ True ∧ True ∧ True ∧ True) (by kernel_rfl) ⟨trivial, trivial, ⟨⟨⟨rfl, rfl, trivial⟩, ⟨rfl, rfl, trivial⟩, trivial⟩, ok_laws_eqRecording K v4.1 v2.1 v6 e7⟩, trivial, ⟨trivial, b8⟩, trivial, trivial, trivial, trivial, trivial⟩ ⟨rfl, rfl⟩
      · replace e10 := some_eq e10
        subst e10
        exact AW.regionA [.no, .no, .call [.agg (cs_Recording v4.1), .agg (cs_Recording v2.1)] [.one (.bool v6)] [[.view]], .no, .dec false] [0, 3, 4, 5, 32] [1, 2, 3, 4] (s' := ⟨[(0, (.v (.one (.c (.str a0))))), (3, (.v (.one (.ptr 2 0)))), (4, (.v (.one (.c (.bool v2.2))))), (5, (.v (.one (.ptr 4 0)))), (32, (.v (.one (.c (.bool (!(v4.2 == v2.2)))))))], [(1, (.lst v2.1.Frames.length 4 (gl cs_Pose v2.1.Frames))), (2, (.box [(.c (.int .i64 v2.1.Bones)), (.lst 1 v2.1.Frames.length 4 (gl cs_Pose v2.1.Frames))])), (3, (.arr true v4.1.Frames.length 4 (gl cs_Pose v4.1.Frames))), (4, (.box [(.c (.int .i64 v4.1.Bones)), (.arr 3)]))]⟩) (ob := True ∧ True ∧ ((((((.int .i64 v4.1.Bones) : C) = (.int .i64 v4.1.Bones)) ∧ (((sl 4 cs_Pose v4.1.Frames) : C) = (sl 4 cs_Pose v4.1.Frames)) ∧ True) ∧ ((((.int .i64 v2.1.Bones) : C) = (.int .i64 v2.1.Bones)) ∧ (((sl 4 cs_Pose v2.1.Frames) : C) = (sl 4 cs_Pose v2.1.Frames)) ∧ True) ∧ True) ∧ CallOK Try.prog 25 [.agg (cs_Recording v4.1), .agg (cs_Recording v2.1)] [.one (.bool v6)]) ∧ True ∧ (True ∧ (!v6) = false) ∧ True ∧ True ∧ True ∧ True ∧ True) (by kernel_rfl) ⟨trivial, trivial, ⟨⟨⟨rfl, rfl, trivial⟩, ⟨rfl, rfl, trivial⟩, trivial⟩, ok_laws_eqRecording K v4.1 v2.1 v6 e7⟩, trivial, ⟨trivial, b8⟩, trivial, trivial, trivial, trivial, trivial⟩ ⟨rfl, rfl⟩
    refine thenQ_normal ?_
    rcases ite2_cases h with ⟨b11, h⟩ | ⟨b11, h⟩
    · refine AW.cond_t rfl b11 ?_
      refine AW.seq ?_
      refine AW.regionA [] [2] [] (s' := ⟨[(2, (.v (.one (.c (.bool false)))))], []⟩) (ob := True ∧ True) (by kernel_rfl) ⟨trivial, trivial⟩ ?_
      refine thenQ_normal ?_
      refine AW.ret ?_
      refine thenQ_ret ?_
      replace h := some_eq h
      subst h
      exact ⟨.inr rfl, retOK_of [(.one (.c (.bool false)))] (by kernel_rfl) ⟨⟨rfl, trivial⟩, trivial⟩ (of_decide_eq_true (by kernel_rfl))⟩
    · refine AW.cond_f rfl b11 ?_
      refine AW.skip ?_
      refine thenQ_normal ?_
      refine AW.seq ?_
      refine AW.regionA [] [0, 3, 4, 5, 7] [1, 2, 3, 4] (s' := ⟨[(0, (.v (.one (.c (.str a0))))), (3, (.v (.one (.ptr 2 0)))), (4, (.v (.one (.c (.bool v2.2))))), (5, (.v (.one (.ptr 4 0)))), (7, (.v (.one (.c (.int .i64 (1 : Int))))))], [(1, (.lst v2.1.Frames.length 4 (gl cs_Pose v2.1.Frames))), (2, (.box [(.c (.int .i64 v2.1.Bones)), (.lst 1 v2.1.Frames.length 4 (gl cs_Pose v2.1.Frames))])), (3, (.arr true v4.1.Frames.length 4 (gl cs_Pose v4.1.Frames))), (4, (.box [(.c (.int .i64 v4.1.Bones)), (.arr 3)]))]⟩) (ob := True ∧ True) (by kernel_rfl) ⟨trivial, trivial⟩ ?_
      refine thenQ_normal ?_
      refine AW.seq ?_
      obtain ⟨v12, e13, h⟩ := bind_some h
      obtain ⟨c14, h⟩ := chk_some h
      refine AW.regionA [.no, .no, .callM [(.agg [(.ro (.int .i64 v4.1.Bones)), (.mu (sl 4 cs_Pose v4.1.Frames) (sl 4 cs_Pose v12.2))]), .one (.ro (.int .i64 (1 : Int)))] [.one (.int .i64 v12.1)] [[.view]] none] [0, 3, 4, 5, 7] [1, 2, 3, 4] (s' := ⟨[(0, (.v (.one (.c (.str a0))))), (3, (.v (.one (.ptr 2 0)))), (4, (.v (.one (.c (.bool v2.2))))), (5, (.v (.one (.ptr 4 0)))), (7, (.v (.one (.c (.int .i64 v12.1)))))], [(1, (.lst v2.1.Frames.length 4 (gl cs_Pose v2.1.Frames))), (2, (.box [(.c (.int .i64 v2.1.Bones)), (.lst 1 v2.1.Frames.length 4 (gl cs_Pose v2.1.Frames))])), (3, (.arr true v12.2.length 4 (gl cs_Pose v12.2))), (4, (.box [(.c (.int .i64 v4.1.Bones)), (.arr 3)]))]⟩) (ob := True ∧ True ∧ ((((((.int .i64 v4.1.Bones) : C) = (.int .i64 v4.1.Bones)) ∧ (((sl 4 cs_Pose v4.1.Frames) : C) = (sl 4 cs_Pose v4.1.Frames) ∧ v12.2.length = v4.1.Frames.length ∧ 4 = 4 ∧ ∀ i j, i < v4.1.Frames.length → j < 4 → isSeq (gl cs_Pose v12.2 i j) = isSeq (gl cs_Pose v4.1.Frames i j)) ∧ True) ∧ (((.int .i64 (1 : Int)) : C) = (.int .i64 (1 : Int))) ∧ True) ∧ MutOK Try.prog 26 [(.agg [(.ro (.int .i64 v4.1.Bones)), (.mu (sl 4 cs_Pose v4.1.Frames) (sl 4 cs_Pose v12.2))]), .one (.ro (.int .i64 (1 : Int)))] [.one (.int .i64 v12.1)]) ∧ True ∧ True) (by kernel_rfl) ⟨trivial, trivial, ⟨⟨⟨rfl, ⟨rfl, c14, rfl, gl_seq sq_Pose⟩, trivial⟩, rfl, trivial⟩, ok_laws_markRecording K v4.1 (1 : Int) v12 e13⟩, trivial, trivial⟩ ?_
      refine thenQ_normal ?_
      refine AW.seq ?_
      refine AW.regionA [] [0, 3, 4, 5, 7, 8] [1, 2, 3, 4] (s' := ⟨[(0, (.v (.one (.c (.str a0))))), (3, (.v (.one (.ptr 2 0)))), (4, (.v (.one (.c (.bool v2.2))))), (5, (.v (.one (.ptr 4 0)))), (7, (.v (.one (.c (.int .i64 v12.1))))), (8, (.v (.one (.c (.int .i64 (1 : Int))))))], [(1, (.lst v2.1.Frames.length 4 (gl cs_Pose v2.1.Frames))), (2, (.box [(.c (.int .i64 v2.1.Bones)), (.lst 1 v2.1.Frames.length 4 (gl cs_Pose v2.1.Frames))])), (3, (.arr true v12.2.length 4 (gl cs_Pose v12.2))), (4, (.box [(.c (.int .i64 v4.1.Bones)), (.arr 3)]))]⟩) (ob := True ∧ True) (by kernel_rfl) ⟨trivial, trivial⟩ ?_
      refine thenQ_normal ?_
      refine AW.seq ?_
      obtain ⟨v15, e16, h⟩ := bind_some h
      refine AW.regionA [.no, .no, .call [.agg (cs_Recording (Recording.mk v4.1.Bones v12.2)), .one (.int .i64 (1 : Int))] [.one (.int .i64 v15)] [[.view]]] [0, 3, 4, 5, 7, 8] [1, 2, 3, 4] (s' := ⟨[(0, (.v (.one (.c (.str a0))))), (3, (.v (.one (.ptr 2 0)))), (4, (.v (.one (.c (.bool v2.2))))), (5, (.v (.one (.ptr 4 0)))), (7, (.v (.one (.c (.int .i64 v12.1))))), (8, (.v (.one (.c (.int .i64 v15)))))], [(1, (.lst v2.1.Frames.length 4 (gl cs_Pose v2.1.Frames))), (2, (.box [(.c (.int .i64 v2.1.Bones)), (.lst 1 v2.1.Frames.length 4 (gl cs_Pose v2.1.Frames))])), (3, (.arr true v12.2.length 4 (gl cs_Pose v12.2))), (4, (.box [(.c (.int .i64 v4.1.Bones)), (.arr 3)]))]⟩) (ob := True ∧ True ∧ ((((((.int .i64 v4.1.Bones) : C) = (.int .i64 v4.1.Bones)) ∧ (((sl 4 cs_Pose v12.2) : C) = (sl 4 cs_Pose v12.2)) ∧ True) ∧ (((.int .i64 (1 : Int)) : C) = (.int .i64 (1 : Int))) ∧ True) ∧ CallOK Try.prog 27 [.agg (cs_Recording (Recording.mk v4.1.Bones v12.2)), .one (.int .i64 (1 : Int))] [.one (.int .i64 v15)]) ∧ True ∧ True) (by kernel_rfl) ⟨trivial, trivial, ⟨⟨⟨rfl, rfl, trivial⟩, rfl, trivial⟩, ok_laws_heldRecording K (Recording.mk v4.1.Bones v12.2) (1 : Int) v15 e16⟩, trivial, trivial⟩ ?_
      refine thenQ_normal ?_
      refine AW.seq ?_
      refine AW.seq ?_
      refine AW.regionA [] [0, 3, 4, 5, 7, 8, 40] [1, 2, 3, 4] (s' := ⟨[(0, (.v (.one (.c (.str a0))))), (3, (.v (.one (.ptr 2 0)))), (4, (.v (.one (.c (.bool v2.2))))), (5, (.v (.one (.ptr 4 0)))), (7, (.v (.one (.c (.int .i64 v12.1))))), (8, (.v (.one (.c (.int .i64 v15))))), (40, (.v (.one (.c (.bool (decide (v15 < (0 : Int))))))))], [(1, (.lst v2.1.Frames.length 4 (gl cs_Pose v2.1.Frames))), (2, (.box [(.c (.int .i64 v2.1.Bones)), (.lst 1 v2.1.Frames.length 4 (gl cs_Pose v2.1.Frames))])), (3, (.arr true v12.2.length 4 (gl cs_Pose v12.2))), (4, (.box [(.c (.int .i64 v4.1.Bones)), (.arr 3)]))]⟩) (ob := True ∧ True ∧ True) (by kernel_rfl) ⟨trivial, trivial, trivial⟩ ?_
      refine thenQ_normal ?_
      rcases ite2_cases h with ⟨b17, h⟩ | ⟨b17, h⟩
      · refine AW.cond_t rfl b17 ?_
        refine AW.seq ?_
        refine AW.regionA [] [2] [] (s' := ⟨[(2, (.v (.one (.c (.bool false)))))], []⟩) (ob := True ∧ True) (by kernel_rfl) ⟨trivial, trivial⟩ ?_
        refine thenQ_normal ?_
        refine AW.ret ?_
        refine thenQ_ret ?_
        replace h := some_eq h
        subst h
        exact ⟨.inr rfl, retOK_of [(.one (.c (.bool false)))] (by kernel_rfl) ⟨⟨rfl, trivial⟩, trivial⟩ (of_decide_eq_true (by kernel_rfl))⟩
      · refine AW.cond_f rfl b17 ?_
        refine AW.skip ?_
        refine thenQ_normal ?_
        refine AW.seq ?_
        refine AW.seq ?_
        refine AW.regionA [] [0, 3, 4, 5, 7, 43] [1, 2, 3, 4] (s' := ⟨[(0, (.v (.one (.c (.str a0))))), (3, (.v (.one (.ptr 2 0)))), (4, (.v (.one (.c (.bool v2.2))))), (5, (.v (.one (.ptr 4 0)))), (7, (.v (.one (.c (.int .i64 v12.1))))), (43, (.v (.one (.c (.bool (v15 != v12.1))))))], [(1, (.lst v2.1.Frames.length 4 (gl cs_Pose v2.1.Frames))), (2, (.box [(.c (.int .i64 v2.1.Bones)), (.lst 1 v2.1.Frames.length 4 (gl cs_Pose v2.1.Frames))])), (3, (.arr true v12.2.length 4 (gl cs_Pose v12.2))), (4, (.box [(.c (.int .i64 v4.1.Bones)), (.arr 3)]))]⟩) (ob := True ∧ True ∧ True ∧ True) (by kernel_rfl) ⟨trivial, trivial, trivial, trivial⟩ ?_
        refine thenQ_normal ?_
        rcases ite2_cases h with ⟨b18, h⟩ | ⟨b18, h⟩
        · refine AW.cond_t rfl b18 ?_
          refine AW.seq ?_
          refine AW.regionA [] [2] [] (s' := ⟨[(2, (.v (.one (.c (.bool false)))))], []⟩) (ob := True ∧ True) (by kernel_rfl) ⟨trivial, trivial⟩ ?_
          refine thenQ_normal ?_
          refine AW.ret ?_
          refine thenQ_ret ?_
          replace h := some_eq h
          subst h
          exact ⟨.inr rfl, retOK_of [(.one (.c (.bool false)))] (by kernel_rfl) ⟨⟨rfl, trivial⟩, trivial⟩ (of_decide_eq_true (by kernel_rfl))⟩
        · refine AW.cond_f rfl b18 ?_
          refine AW.skip ?_
          refine thenQ_normal ?_
          refine AW.seq ?_
          obtain ⟨v19, e20, h⟩ := bind_some h
          refine AW.regionA [.no, .call [.one (.str a0)] [.agg (cs_Recording v19.1), .one (.bool v19.2)] [[.view, .lst 5], [.view]], .no, .no, .no, .box 6] [3, 4, 5, 7, 9, 10] [1, 2, 3, 4, 5, 6] (s' := ⟨[(3, (.v (.one (.ptr 2 0)))), (4, (.v (.one (.c (.bool v2.2))))), (5, (.v (.one (.ptr 4 0)))), (7, (.v (.one (.c (.int .i64 v12.1))))), (9, (.v (.one (.ptr 6 0)))), (10, (.v (.one (.c (.bool v19.2)))))], [(1, (.lst v2.1.Frames.length 4 (gl cs_Pose v2.1.Frames))), (2, (.box [(.c (.int .i64 v2.1.Bones)), (.lst 1 v2.1.Frames.length 4 (gl cs_Pose v2.1.Frames))])), (3, (.arr true v12.2.length 4 (gl cs_Pose v12.2))), (4, (.box [(.c (.int .i64 v4.1.Bones)), (.arr 3)])), (5, (.lst v19.1.Frames.length 4 (gl cs_Pose v19.1.Frames))), (6, (.box [(.c (.int .i64 v19.1.Bones)), (.lst 5 v19.1.Frames.length 4 (gl cs_Pose v19.1.Frames))]))]⟩) (ob := True ∧ (((((.str a0) : C) = (.str a0)) ∧ True) ∧ CallOK Try.prog 43 [.one (.str a0)] [.agg (cs_Recording v19.1), .one (.bool v19.2)]) ∧ True ∧ True ∧ True ∧ True ∧ True ∧ True ∧ True) (by kernel_rfl) ⟨trivial, ⟨⟨rfl, trivial⟩, ok_impl_LoadRecording K a0 v19 e20⟩, trivial, trivial, trivial, trivial, trivial, trivial, trivial⟩ ?_
          refine thenQ_normal ?_
          refine AW.seq ?_
          refine AW.seq ?_
          obtain ⟨v21, e22, h⟩ := bind_some h
          obtain ⟨j24, e25, h⟩ := bind_some h
          refine AW.join1 (s2 := ⟨[(5, (.v (.one (.ptr 4 0)))), (7, (.v (.one (.c (.int .i64 v12.1))))), (57, (.v (.one (.c (.bool j24)))))], [(3, (.arr true v12.2.length 4 (gl cs_Pose v12.2))), (4, (.box [(.c (.int .i64 v4.1.Bones)), (.arr 3)]))]⟩) ?_ ?_
          · rcases ite2_cases e25 with ⟨b23, e25⟩ | ⟨b23, e25⟩
            · replace e25 := some_eq e25
              subst e25
              exact AW.regionA [.no, .no, .call [.agg (cs_Recording v19.1), .agg (cs_Recording v2.1)] [.one (.bool v21)] [[.view]], .no, .dec true] [5, 7, 57] [3, 4] (s' := ⟨[(5, (.v (.one (.ptr 4 0)))), (7, (.v (.one (.c (.int .i64 v12.1))))), (57, (.v (.one (.c (.bool true)))))], [(3, (.arr true v12.2.length 4 (gl cs_Pose v12.2))), (4, (.box [(.c (.int .i64 v4.1.Bones)), (.arr 3)]))]⟩) (ob := True ∧ True ∧ ((((((.int .i64 v19.1.Bones) : C) = (.int .i64 v19.1.Bones)) ∧ (((sl 4 cs_Pose v19.1.Frames) : C) = (sl 4 cs_Pose v19.1.Frames)) ∧ True) ∧ ((((.int .i64 v2.1.Bones) : C) = (.int .i64 v2.1.Bones)) ∧ (((sl 4 cs_Pose v2.1.Frames) : C) = (sl 4 cs_Pose v2.1.Frames)) ∧ True) ∧ True) ∧ CallOK Try.prog 25 [.agg (cs_Recording v19.1), .agg (cs_Recording v2.1)] [.one (.bool v21)]) ∧ True ∧ (True ∧ (!v21) = true) ∧ True ∧ True ∧ True ∧ True ∧ True) (by kernel_rfl) ⟨trivial, trivial, ⟨⟨⟨rfl, rfl, trivial⟩, ⟨rfl, rfl, trivial⟩, trivial⟩, ok_laws_eqRecording K v19.1 v2.1 v21 e22⟩, trivial, ⟨trivial, b23⟩, trivial, trivial, trivial, trivial, trivial⟩ ⟨rfl, rfl⟩
            · replace e25 := some_eq e25
              subst e25
              exact AW.regionA [.no, .no, .call [.agg (cs_Recording v19.1), .agg (cs_Recording v2.1)] [.one (.bool v21)] [[.view]], .no, .dec false] [5, 7, 57] [3, 4] (s' := ⟨[(5, (.v (.one (.ptr 4 0)))), (7, (.v (.one (.c (.int .i64 v12.1))))), (57, (.v (.one (.c (.bool (!(v19.2 == v2.2)))))))], [(3, (.arr true v12.2.length 4 (gl cs_Pose v12.2))), (4, (.box [(.c (.int .i64 v4.1.Bones)), (.arr 3)]))]⟩) (ob := True ∧ True ∧ ((((((.int .i64 v19.1.Bones) : C) = (.int .i64 v19.1.Bones)) ∧ (((sl 4 cs_Pose v19.1.Frames) : C) = (sl 4 cs_Pose v19.1.Frames)) ∧ True) ∧ ((((.int .i64 v2.1.Bones) : C) = (.int .i64 v2.1.Bones)) ∧ (((sl 4 cs_Pose v2.1.Frames) : C) = (sl 4 cs_Pose v2.1.Frames)) ∧ True) ∧ True) ∧ CallOK Try.prog 25 [.agg (cs_Recording v19.1), .agg (cs_Recording v2.1)] [.one (.bool v21)]) ∧ True ∧ (True ∧ (!v21) = false) ∧ True ∧ True ∧ True ∧ True ∧ True) (by kernel_rfl) ⟨trivial, trivial, ⟨⟨⟨rfl, rfl, trivial⟩, ⟨rfl, rfl, trivial⟩, trivial⟩, ok_laws_eqRecording K v19.1 v2.1 v21 e22⟩, trivial, ⟨trivial, b23⟩, trivial, trivial, trivial, trivial, trivial⟩ ⟨rfl, rfl⟩
          refine thenQ_normal ?_
          rcases ite2_cases h with ⟨b26, h⟩ | ⟨b26, h⟩
          · refine AW.cond_t rfl b26 ?_
            refine AW.seq ?_
            refine AW.regionA [] [2] [] (s' := ⟨[(2, (.v (.one (.c (.bool false)))))], []⟩) (ob := True ∧ True) (by kernel_rfl) ⟨trivial, trivial⟩ ?_
            refine thenQ_normal ?_
            refine AW.ret ?_
            refine thenQ_ret ?_
            replace h := some_eq h
            subst h
            exact ⟨.inr rfl, retOK_of [(.one (.c (.bool false)))] (by kernel_rfl) ⟨⟨rfl, trivial⟩, trivial⟩ (of_decide_eq_true (by kernel_rfl))⟩
          · refine AW.cond_f rfl b26 ?_
            refine AW.skip ?_
            refine thenQ_normal ?_
            refine AW.seq ?_
            refine AW.regionA [] [5, 7, 8] [3, 4] (s' := ⟨[(5, (.v (.one (.ptr 4 0)))), (7, (.v (.one (.c (.int .i64 v12.1))))), (8, (.v (.one (.c (.int .i64 (1 : Int))))))], [(3, (.arr true v12.2.length 4 (gl cs_Pose v12.2))), (4, (.box [(.c (.int .i64 v4.1.Bones)), (.arr 3)]))]⟩) (ob := True ∧ True) (by kernel_rfl) ⟨trivial, trivial⟩ ?_
            refine thenQ_normal ?_
            refine AW.seq ?_
            obtain ⟨v27, e28, h⟩ := bind_some h
            refine AW.regionA [.no, .no, .call [.agg (cs_Recording (Recording.mk v4.1.Bones v12.2)), .one (.int .i64 (1 : Int))] [.one (.int .i64 v27)] [[.view]]] [7, 8] [] (s' := ⟨[(7, (.v (.one (.c (.int .i64 v12.1))))), (8, (.v (.one (.c (.int .i64 v27)))))], []⟩) (ob := True ∧ True ∧ ((((((.int .i64 v4.1.Bones) : C) = (.int .i64 v4.1.Bones)) ∧ (((sl 4 cs_Pose v12.2) : C) = (sl 4 cs_Pose v12.2)) ∧ True) ∧ (((.int .i64 (1 : Int)) : C) = (.int .i64 (1 : Int))) ∧ True) ∧ CallOK Try.prog 27 [.agg (cs_Recording (Recording.mk v4.1.Bones v12.2)), .one (.int .i64 (1 : Int))] [.one (.int .i64 v27)]) ∧ True ∧ True) (by kernel_rfl) ⟨trivial, trivial, ⟨⟨⟨rfl, rfl, trivial⟩, rfl, trivial⟩, ok_laws_heldRecording K (Recording.mk v4.1.Bones v12.2) (1 : Int) v27 e28⟩, trivial, trivial⟩ ?_
            refine thenQ_normal ?_
            refine AW.seq ?_
            refine AW.seq ?_
            refine AW.regionA [] [7, 8, 62] [] (s' := ⟨[(7, (.v (.one (.c (.int .i64 v12.1))))), (8, (.v (.one (.c (.int .i64 v27))))), (62, (.v (.one (.c (.bool (decide (v27 < (0 : Int))))))))], []⟩) (ob := True ∧ True ∧ True) (by kernel_rfl) ⟨trivial, trivial, trivial⟩ ?_
            refine thenQ_normal ?_
            rcases ite2_cases h with ⟨b29, h⟩ | ⟨b29, h⟩
            · refine AW.cond_t rfl b29 ?_
              refine AW.seq ?_
              refine AW.regionA [] [2] [] (s' := ⟨[(2, (.v (.one (.c (.bool false)))))], []⟩) (ob := True ∧ True) (by kernel_rfl) ⟨trivial, trivial⟩ ?_
              refine thenQ_normal ?_
              refine AW.ret ?_
              refine thenQ_ret ?_
              replace h := some_eq h
              subst h
              exact ⟨.inr rfl, retOK_of [(.one (.c (.bool false)))] (by kernel_rfl) ⟨⟨rfl, trivial⟩, trivial⟩ (of_decide_eq_true (by kernel_rfl))⟩
            · refine AW.cond_f rfl b29 ?_
              refine AW.skip ?_
              refine thenQ_normal ?_
              refine AW.seq ?_
              refine AW.seq ?_
              refine AW.regionA [] [65] [] (s' := ⟨[(65, (.v (.one (.c (.bool (v27 != v12.1))))))], []⟩) (ob := True ∧ True ∧ True ∧ True) (by kernel_rfl) ⟨trivial, trivial, trivial, trivial⟩ ?_
              refine thenQ_normal ?_
              rcases ite2_cases h with ⟨b30, h⟩ | ⟨b30, h⟩
              · refine AW.cond_t rfl b30 ?_
                refine AW.seq ?_
                refine AW.regionA [] [2] [] (s' := ⟨[(2, (.v (.one (.c (.bool false)))))], []⟩) (ob := True ∧ True) (by kernel_rfl) ⟨trivial, trivial⟩ ?_
                refine thenQ_normal ?_
                refine AW.ret ?_
                refine thenQ_ret ?_
                replace h := some_eq h
                subst h
                exact ⟨.inr rfl, retOK_of [(.one (.c (.bool false)))] (by kernel_rfl) ⟨⟨rfl, trivial⟩, trivial⟩ (of_decide_eq_true (by kernel_rfl))⟩
              · refine AW.cond_f rfl b30 ?_
                refine AW.skip ?_
                refine thenQ_normal ?_
                refine AW.seq ?_
                refine AW.regionA [] [2] [] (s' := ⟨[(2, (.v (.one (.c (.bool true)))))], []⟩) (ob := True ∧ True) (by kernel_rfl) ⟨trivial, trivial⟩ ?_
                refine thenQ_normal ?_
                refine AW.ret ?_
                replace h := some_eq h
                subst h
                exact ⟨.inr rfl, retOK_of [(.one (.c (.bool true)))] (by kernel_rfl) ⟨⟨rfl, trivial⟩, trivial⟩ (of_decide_eq_true (by kernel_rfl))⟩

end
end Go.Fw
