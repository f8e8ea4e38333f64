/- Functions of the program: what each computes, and that it computes just that. -/
import Derived.Test.YtbfcahbecedaiacFwTy
import Derived.Test.YtbfcahbecedaiacFwH
import Derived.Test.YtbfcahbecedaiacFwV
import Derived.Test.YtbfcahbecedaiacFwGE1
import Derived.Test.YtbfcahbecedaiacFwHF
import Derived.Test.YtbfcahbecedaiacFwMK
import Derived.Test.YtbfcahbecedaiacProg
import Derived.KernelRfl
namespace Go.Fw
open Go Go.Proofs
noncomputable section
set_option maxRecDepth 10000

/-! impl.LocalOf -/
def impl_LocalOf_l1 (K : Nat) (a0 : Skeleton) (a1 : Vector) (a2 : (List Turn)) : Nat → Int → (List Turn) → Option (Pose × Bool)
  | 0, _, _ => none
  | k + 1, x11, x12 => ite2 ((decide (x11 < (a0.Bones.length : Int)))) (chk (0 ≤ x11 ∧ x11 < (a0.Bones.length : Int)) (ite2 ((decide (x11 > (0 : Int)))) (chk (0 ≤ ((a0.Bones.getD x11.toNat default).Parent) ∧ ((a0.Bones.getD x11.toNat default).Parent) < (a2.length : Int)) ((impl_InverseOf K (a2.getD (((a0.Bones.getD x11.toNat default).Parent).toNat) default)).bind fun v17 => chk (0 ≤ x11 ∧ x11 < (a2.length : Int)) ((impl_MulTurns K v17 (a2.getD x11.toNat default)).bind fun v20 => chk (0 ≤ x11 ∧ x11 < (x12.length : Int)) (impl_LocalOf_l1 K a0 a1 a2 k (IntKind.i64.wrap (x11 + (1 : Int))) (x12.set x11.toNat v20))))) (impl_LocalOf_l1 K a0 a1 a2 k (IntKind.i64.wrap (x11 + (1 : Int))) x12))) (some ((Pose.mk a1 x12), true))

def impl_LocalOf (K : Nat) (a0 : Skeleton) (a1 : Vector) (a2 : (List Turn)) : Option (Pose × Bool) :=
  (impl_ValidSkeleton K a0).bind fun v1 => (ite2 ((!v1)) (some true) (some ((a2.length : Int) != (a0.Bones.length : Int)))).bind fun j4 => ite2 (j4) (some ((Pose.mk (Vector.mk (default : F32) (default : F32) (default : F32)) ([] : (List Turn))), false)) ((slices_Clone_impl_Turn_impl_Turn K a2).bind fun v7 => impl_LocalOf_l1 K a0 a1 a2 K (0 : Int) v7)

theorem ok_impl_LocalOf (K : Nat) (a0 : Skeleton) (a1 : Vector) (a2 : (List Turn)) (o : (Pose × Bool)) (h : impl_LocalOf K a0 a1 a2 = some o) : CallOK Try.prog 8 [.agg (cs_Skeleton a0), .agg (cs_Vector a1), .one (sl 4 cs_Turn a2)] [.agg (cs_Pose o.1), .one (.bool o.2)] := by
  refine callOK_of_AW Try.func8 rfl (by kernel_rfl) (Nat.le_of_ble_eq_true (by kernel_rfl)) ?_
  intro w0
  unfold impl_LocalOf at h
  refine AW.seq (AW.rA ⟨[(2, (vc (sl 4 cs_Turn a2))), (3, (vp 1 0)), (4, (vp 2 0)), (6, (vp 3 0))], [(1, (.box [(.c (sl 4 cs_Bone a0.Bones))])), (2, (.box [(.c (.flt .f32 a1.X.bits)), (.c (.flt .f32 a1.Y.bits)), (.c (.flt .f32 a1.Z.bits))])), (3, (.box [(.c (.flt .f32 (default : F32).bits)), (.c (.flt .f32 (default : F32).bits)), (.c (.flt .f32 (default : F32).bits)), .nils]))]⟩ (T4 Tt) [.box 1, .box 2, .box 3] [2, 3, 4, 6] [1, 2, 3] ⟨tr, tr, tr, tr, tr⟩ (thenQ_normal ?_))
  refine AW.seq ?_
  refine AW.seq ?_
  obtain ⟨v1, e2, h⟩ := bind_some h
  obtain ⟨j4, e5, h⟩ := bind_some h
  refine AW.join1 (s2 := ⟨[(2, (vc (sl 4 cs_Turn a2))), (3, (vp 1 0)), (4, (vp 2 0)), (6, (vp 3 0)), (21, (vc (.bool j4)))], [(1, (.box [(.c (sl 4 cs_Bone a0.Bones))])), (2, (.box [(.c (.flt .f32 a1.X.bits)), (.c (.flt .f32 a1.Y.bits)), (.c (.flt .f32 a1.Z.bits))])), (3, (.box [(.c (.flt .f32 (default : F32).bits)), (.c (.flt .f32 (default : F32).bits)), (.c (.flt .f32 (default : F32).bits)), .nils]))]⟩) ?_ ?_
  · rcases ite2_cases e5 with ⟨b3, e5⟩ | ⟨b3, e5⟩
    · replace e5 := some_eq e5
      subst e5
      exact AW.rA ⟨[(2, (vc (sl 4 cs_Turn a2))), (3, (vp 1 0)), (4, (vp 2 0)), (6, (vp 3 0)), (21, (vc (.bool true)))], [(1, (.box [(.c (sl 4 cs_Bone a0.Bones))])), (2, (.box [(.c (.flt .f32 a1.X.bits)), (.c (.flt .f32 a1.Y.bits)), (.c (.flt .f32 a1.Z.bits))])), (3, (.box [(.c (.flt .f32 (default : F32).bits)), (.c (.flt .f32 (default : F32).bits)), (.c (.flt .f32 (default : F32).bits)), .nils]))]⟩ (Tt ∧ ((((Eqc (sl 4 cs_Bone a0.Bones)) ∧ Tt) ∧ Tt) ∧ CallOK Try.prog 23 [.agg (cs_Skeleton a0)] [.one (.bool v1)]) ∧ Tt ∧ (Tt ∧ (!v1) = true) ∧ Tt ∧ T2 (T4 Tt)) [.no, .call [.agg (cs_Skeleton a0)] [.one (.bool v1)] [[.view]], .no, .dec true] [2, 3, 4, 6, 21] [1, 2, 3] ⟨tr, ⟨⟨⟨rfl, tr⟩, tr⟩, ok_impl_ValidSkeleton K a0 v1 e2⟩, tr, ⟨tr, b3⟩, tr, tr, tr, tr, tr, tr, tr, tr⟩ ⟨rfl, rfl⟩
    · replace e5 := some_eq e5
      subst e5
      exact AW.rA ⟨[(2, (vc (sl 4 cs_Turn a2))), (3, (vp 1 0)), (4, (vp 2 0)), (6, (vp 3 0)), (21, (vc (.bool ((a2.length : Int) != (a0.Bones.length : Int)))))], [(1, (.box [(.c (sl 4 cs_Bone a0.Bones))])), (2, (.box [(.c (.flt .f32 a1.X.bits)), (.c (.flt .f32 a1.Y.bits)), (.c (.flt .f32 a1.Z.bits))])), (3, (.box [(.c (.flt .f32 (default : F32).bits)), (.c (.flt .f32 (default : F32).bits)), (.c (.flt .f32 (default : F32).bits)), .nils]))]⟩ (Tt ∧ ((((Eqc (sl 4 cs_Bone a0.Bones)) ∧ Tt) ∧ Tt) ∧ CallOK Try.prog 23 [.agg (cs_Skeleton a0)] [.one (.bool v1)]) ∧ Tt ∧ (Tt ∧ (!v1) = false) ∧ Tt ∧ T2 (T4 Tt)) [.no, .call [.agg (cs_Skeleton a0)] [.one (.bool v1)] [[.view]], .no, .dec false] [2, 3, 4, 6, 21] [1, 2, 3] ⟨tr, ⟨⟨⟨rfl, tr⟩, tr⟩, ok_impl_ValidSkeleton K a0 v1 e2⟩, tr, ⟨tr, b3⟩, tr, tr, tr, tr, tr, tr, tr, tr⟩ ⟨rfl, rfl⟩
  refine thenQ_normal ?_
  rcases ite2_cases h with ⟨b6, h⟩ | ⟨b6, h⟩
  · refine AW.cond_t rfl b6 ?_
    refine AW.seq (AW.rA ⟨[(6, (vp 3 0)), (7, (vc (.bool false)))], [(3, (.box [(.c (.flt .f32 (default : F32).bits)), (.c (.flt .f32 (default : F32).bits)), (.c (.flt .f32 (default : F32).bits)), .nils]))]⟩ (Tt ∧ T2 Tt) [] [6, 7] [3] ⟨tr, tr, tr, tr⟩ (thenQ_normal ?_))
    refine AW.ret ?_
    refine thenQ_ret ?_
    replace h := some_eq h
    subst h
    exact ⟨.inr rfl, retOK_of [(.agg [(.c (.flt .f32 (default : F32).bits)), (.c (.flt .f32 (default : F32).bits)), (.c (.flt .f32 (default : F32).bits)), .nils]), (.one (.c (.bool false)))] (by kernel_rfl) ⟨⟨⟨rfl, tr⟩, ⟨rfl, tr⟩, ⟨rfl, tr⟩, rfl, tr⟩, ⟨rfl, tr⟩, tr⟩ (of_decide_eq_true (by kernel_rfl))⟩
  · refine AW.cond_f rfl b6 ?_
    refine AW.skip ?_
    refine thenQ_normal ?_
    refine AW.seq ?_
    obtain ⟨v7, e8, h⟩ := bind_some h
    refine AW.dA ⟨[(2, (vc (sl 4 cs_Turn a2))), (3, (vp 1 0)), (6, (vp 3 0)), (8, (vp 5 0))], [(1, (.box [(.c (sl 4 cs_Bone a0.Bones))])), (3, (.box [(.c (.flt .f32 (default : F32).bits)), (.c (.flt .f32 (default : F32).bits)), (.c (.flt .f32 (default : F32).bits)), .nils])), (4, (.arr true v7.length 4 (gl cs_Turn v7))), (5, (.box [(.c (.flt .f32 a1.X.bits)), (.c (.flt .f32 a1.Y.bits)), (.c (.flt .f32 a1.Z.bits)), (.arr 4)]))]⟩ ((T2 ((((Eqc (sl 4 cs_Turn a2)) ∧ Tt) ∧ CallOK Try.prog 24 [.one (sl 4 cs_Turn a2)] [.one (sl 4 cs_Turn v7)]) ∧ T2 Tt)) ∧ (Tt ∧ Tt)) 5 [.no, .no, .call [.one (sl 4 cs_Turn a2)] [.one (sl 4 cs_Turn v7)] [[.own 4]], .no, .box 5] [2, 3, 6, 8] [1, 3, 4, 5] ⟨⟨tr, tr, ⟨⟨rfl, tr⟩, ok_slices_Clone_impl_Turn_impl_Turn K a2 v7 e8⟩, tr, tr, tr⟩, ⟨tr, tr⟩⟩ ?_
    refine thenQ_normal ?_
    refine AW.seq ?_
    refine AW.seq (AW.rA ⟨[(2, (vc (sl 4 cs_Turn a2))), (6, (vp 3 0)), (8, (vp 5 0)), (28, (vc (sl 4 cs_Bone a0.Bones))), (29, (vc (.int .i64 (a0.Bones.length : Int)))), (30, (vc (.int .i64 (0 : Int))))], [(3, (.box [(.c (.flt .f32 (default : F32).bits)), (.c (.flt .f32 (default : F32).bits)), (.c (.flt .f32 (default : F32).bits)), .nils])), (4, (.arr true v7.length 4 (gl cs_Turn v7))), (5, (.box [(.c (.flt .f32 a1.X.bits)), (.c (.flt .f32 a1.Y.bits)), (.c (.flt .f32 a1.Z.bits)), (.arr 4)]))]⟩ (T4 Tt) [] [2, 6, 8, 28, 29, 30] [3, 4, 5] ⟨tr, tr, tr, tr, tr⟩ (thenQ_normal ?_))
    refine AW.block ?_
    refine AW.loopQ (σ := Nat × Int × (List Turn)) (fun p => ⟨[(2, (vc (sl 4 cs_Turn a2))), (6, (vp 3 0)), (8, (vp 5 0)), (28, (vc (sl 4 cs_Bone a0.Bones))), (29, (vc (.int .i64 (a0.Bones.length : Int)))), (30, (vc (.int .i64 p.2.1)))], [(3, (.box [(.c (.flt .f32 (default : F32).bits)), (.c (.flt .f32 (default : F32).bits)), (.c (.flt .f32 (default : F32).bits)), .nils])), (4, (.arr true p.2.2.length 4 (gl cs_Turn p.2.2))), (5, (.box [(.c (.flt .f32 a1.X.bits)), (.c (.flt .f32 a1.Y.bits)), (.c (.flt .f32 a1.Z.bits)), (.arr 4)]))]⟩) (fun p => impl_LocalOf_l1 K a0 a1 a2 p.1 p.2.1 p.2.2 = some o) (fun p => p.1) (K, (0 : Int), v7) h ?_
    clear h
    rintro ⟨k, x11, x12⟩ h
    replace h : impl_LocalOf_l1 K a0 a1 a2 k x11 x12 = some o := h
    show AW _ _ (⟨[(2, (vc (sl 4 cs_Turn a2))), (6, (vp 3 0)), (8, (vp 5 0)), (28, (vc (sl 4 cs_Bone a0.Bones))), (29, (vc (.int .i64 (a0.Bones.length : Int)))), (30, (vc (.int .i64 x11)))], [(3, (.box [(.c (.flt .f32 (default : F32).bits)), (.c (.flt .f32 (default : F32).bits)), (.c (.flt .f32 (default : F32).bits)), .nils])), (4, (.arr true x12.length 4 (gl cs_Turn x12))), (5, (.box [(.c (.flt .f32 a1.X.bits)), (.c (.flt .f32 a1.Y.bits)), (.c (.flt .f32 a1.Z.bits)), (.arr 4)]))]⟩ : St) _
    obtain _ | k := k
    · rw [impl_LocalOf_l1] at h; cases h
    rw [impl_LocalOf_l1] at h
    refine AW.seq (AW.rA ⟨[(2, (vc (sl 4 cs_Turn a2))), (6, (vp 3 0)), (8, (vp 5 0)), (28, (vc (sl 4 cs_Bone a0.Bones))), (29, (vc (.int .i64 (a0.Bones.length : Int)))), (30, (vc (.int .i64 x11))), (31, (vc (.bool (decide (x11 < (a0.Bones.length : Int))))))], [(3, (.box [(.c (.flt .f32 (default : F32).bits)), (.c (.flt .f32 (default : F32).bits)), (.c (.flt .f32 (default : F32).bits)), .nils])), (4, (.arr true x12.length 4 (gl cs_Turn x12))), (5, (.box [(.c (.flt .f32 a1.X.bits)), (.c (.flt .f32 a1.Y.bits)), (.c (.flt .f32 a1.Z.bits)), (.arr 4)]))]⟩ (Tt ∧ Tt) [] [2, 6, 8, 28, 29, 30, 31] [3, 4, 5] ⟨tr, tr⟩ (thenQ_normal ?_))
    refine AW.seq ?_
    rcases ite2_cases h with ⟨b13, h⟩ | ⟨b13, h⟩
    · refine AW.cond_t rfl b13 ?_
      refine AW.skip ?_
      refine thenQ_normal ?_
      refine AW.seq ?_
      refine AW.block ?_
      refine AW.seq ?_
      obtain ⟨c14, h⟩ := chk_some h
      refine AW.rA ⟨[(2, (vc (sl 4 cs_Turn a2))), (6, (vp 3 0)), (8, (vp 5 0)), (9, (vc (.int .i64 x11))), (10, (vp 8 0)), (28, (vc (sl 4 cs_Bone a0.Bones))), (29, (vc (.int .i64 (a0.Bones.length : Int)))), (30, (vc (.int .i64 x11)))], [(3, (.box [(.c (.flt .f32 (default : F32).bits)), (.c (.flt .f32 (default : F32).bits)), (.c (.flt .f32 (default : F32).bits)), .nils])), (4, (.arr true x12.length 4 (gl cs_Turn x12))), (5, (.box [(.c (.flt .f32 a1.X.bits)), (.c (.flt .f32 a1.Y.bits)), (.c (.flt .f32 a1.Z.bits)), (.arr 4)])), (8, (.box [(.c (.int .i64 ((a0.Bones.getD x11.toNat default).Parent))), (.c (.flt .f32 (((a0.Bones.getD x11.toNat default).Offset).X).bits)), (.c (.flt .f32 (((a0.Bones.getD x11.toNat default).Offset).Y).bits)), (.c (.flt .f32 (((a0.Bones.getD x11.toNat default).Offset).Z).bits))]))]⟩ (Tt ∧ (0 ≤ x11 ∧ x11 < (a0.Bones.length : Int)) ∧ T4 Tt) [.no, .no, .no, .box 8] [2, 6, 8, 9, 10, 28, 29, 30] [3, 4, 5, 8] ⟨tr, c14, tr, tr, tr, tr, tr⟩ ?_
      refine thenQ_normal ?_
      refine AW.seq (AW.rA ⟨[(2, (vc (sl 4 cs_Turn a2))), (6, (vp 3 0)), (8, (vp 5 0)), (9, (vc (.int .i64 x11))), (10, (vp 8 0)), (28, (vc (sl 4 cs_Bone a0.Bones))), (29, (vc (.int .i64 (a0.Bones.length : Int)))), (30, (vc (.int .i64 x11))), (36, (vc (.bool (decide (x11 > (0 : Int))))))], [(3, (.box [(.c (.flt .f32 (default : F32).bits)), (.c (.flt .f32 (default : F32).bits)), (.c (.flt .f32 (default : F32).bits)), .nils])), (4, (.arr true x12.length 4 (gl cs_Turn x12))), (5, (.box [(.c (.flt .f32 a1.X.bits)), (.c (.flt .f32 a1.Y.bits)), (.c (.flt .f32 a1.Z.bits)), (.arr 4)])), (8, (.box [(.c (.int .i64 ((a0.Bones.getD x11.toNat default).Parent))), (.c (.flt .f32 (((a0.Bones.getD x11.toNat default).Offset).X).bits)), (.c (.flt .f32 (((a0.Bones.getD x11.toNat default).Offset).Y).bits)), (.c (.flt .f32 (((a0.Bones.getD x11.toNat default).Offset).Z).bits))]))]⟩ (T2 Tt) [] [2, 6, 8, 9, 10, 28, 29, 30, 36] [3, 4, 5, 8] ⟨tr, tr, tr⟩ (thenQ_normal ?_))
      rcases ite2_cases h with ⟨b15, h⟩ | ⟨b15, h⟩
      · refine AW.cond_t rfl b15 ?_
        obtain ⟨c16, h⟩ := chk_some h
        obtain ⟨v17, e18, h⟩ := bind_some h
        obtain ⟨c19, h⟩ := chk_some h
        obtain ⟨v20, e21, h⟩ := bind_some h
        obtain ⟨c22, h⟩ := chk_some h
        refine AW.dA ⟨[(2, (vc (sl 4 cs_Turn a2))), (6, (vp 3 0)), (8, (vp 5 0)), (28, (vc (sl 4 cs_Bone a0.Bones))), (29, (vc (.int .i64 (a0.Bones.length : Int)))), (30, (vc (.int .i64 x11)))], [(3, (.box [(.c (.flt .f32 (default : F32).bits)), (.c (.flt .f32 (default : F32).bits)), (.c (.flt .f32 (default : F32).bits)), .nils])), (4, (.arr true (x12.set x11.toNat v20).length 4 (gl cs_Turn (x12.set x11.toNat v20)))), (5, (.box [(.c (.flt .f32 a1.X.bits)), (.c (.flt .f32 a1.Y.bits)), (.c (.flt .f32 a1.Z.bits)), (.arr 4)]))]⟩ ((T2 (T4 ((0 ≤ ((a0.Bones.getD x11.toNat default).Parent) ∧ ((a0.Bones.getD x11.toNat default).Parent) < (a2.length : Int)) ∧ Tt ∧ ((((((.flt .f32 ((a2.getD (((a0.Bones.getD x11.toNat default).Parent).toNat) default).W).bits) : C) = (.flt .f32 ((a2.getD (((a0.Bones.getD x11.toNat default).Parent).toNat) default).W).bits)) ∧ (((.flt .f32 ((a2.getD (((a0.Bones.getD x11.toNat default).Parent).toNat) default).X).bits) : C) = (.flt .f32 ((a2.getD (((a0.Bones.getD x11.toNat default).Parent).toNat) default).X).bits)) ∧ (((.flt .f32 ((a2.getD (((a0.Bones.getD x11.toNat default).Parent).toNat) default).Y).bits) : C) = (.flt .f32 ((a2.getD (((a0.Bones.getD x11.toNat default).Parent).toNat) default).Y).bits)) ∧ (((.flt .f32 ((a2.getD (((a0.Bones.getD x11.toNat default).Parent).toNat) default).Z).bits) : C) = (.flt .f32 ((a2.getD (((a0.Bones.getD x11.toNat default).Parent).toNat) default).Z).bits)) ∧ Tt) ∧ Tt) ∧ CallOK Try.prog 26 [.agg (cs_Turn (a2.getD (((a0.Bones.getD x11.toNat default).Parent).toNat) default))] [.agg (cs_Turn v17)]) ∧ T2 ((0 ≤ x11 ∧ x11 < (a2.length : Int)) ∧ Tt ∧ ((((Eqc (.flt .f32 v17.W.bits)) ∧ (Eqc (.flt .f32 v17.X.bits)) ∧ (Eqc (.flt .f32 v17.Y.bits)) ∧ (Eqc (.flt .f32 v17.Z.bits)) ∧ Tt) ∧ ((Eqc (.flt .f32 ((a2.getD x11.toNat default).W).bits)) ∧ (Eqc (.flt .f32 ((a2.getD x11.toNat default).X).bits)) ∧ (Eqc (.flt .f32 ((a2.getD x11.toNat default).Y).bits)) ∧ (Eqc (.flt .f32 ((a2.getD x11.toNat default).Z).bits)) ∧ Tt) ∧ Tt) ∧ CallOK Try.prog 25 [.agg (cs_Turn v17), .agg (cs_Turn (a2.getD x11.toNat default))] [.agg (cs_Turn v20)]) ∧ (0 ≤ x11 ∧ x11 < (x12.length : Int)) ∧ Tt)))) ∧ (((x12.set x11.toNat v20).length = x12.length ∧ SetOb x12.length 4 x11.toNat 0 4 (gl cs_Turn x12) (gl cs_Turn (x12.set x11.toNat v20)) ∧ ((List.range 4).map fun j => (cs_Turn v20).getD (0 + j) .nilptr) = ((List.range 4).map fun j => gl cs_Turn (x12.set x11.toNat v20) x11.toNat (0 + j)) ∧ ((((.flt .f32 v20.W.bits) : C) = (.flt .f32 v20.W.bits) ∧ Tt) ∧ (((.flt .f32 v20.X.bits) : C) = (.flt .f32 v20.X.bits) ∧ Tt) ∧ (((.flt .f32 v20.Y.bits) : C) = (.flt .f32 v20.Y.bits) ∧ Tt) ∧ (((.flt .f32 v20.Z.bits) : C) = (.flt .f32 v20.Z.bits) ∧ Tt) ∧ Tt) ∧ (true = true → ∀ j, j < 4 → isSeq (gl cs_Turn x12 x11.toNat (0 + j)) = false ∧ isSeq (gl cs_Turn (x12.set x11.toNat v20) x11.toNat (0 + j)) = false)) ∧ Tt)) 15 [.no, .no, .no, .no, .no, .no, .no, .no, .call [.agg (cs_Turn (a2.getD (((a0.Bones.getD x11.toNat default).Parent).toNat) default))] [.agg (cs_Turn v17)] [[.view, .view, .view, .view]], .no, .no, .no, .no, .call [.agg (cs_Turn v17), .agg (cs_Turn (a2.getD x11.toNat default))] [.agg (cs_Turn v20)] [[.view, .view, .view, .view]], .no, .set (x12.set x11.toNat v20).length (gl cs_Turn (x12.set x11.toNat v20)) ((List.range 4).map fun j => (cs_Turn v20).getD (0 + j) .nilptr)] [2, 6, 8, 28, 29, 30] [3, 4, 5] ⟨⟨tr, tr, tr, tr, tr, tr, c16, tr, ⟨⟨⟨rfl, rfl, rfl, rfl, tr⟩, tr⟩, ok_impl_InverseOf K (a2.getD (((a0.Bones.getD x11.toNat default).Parent).toNat) default) v17 e18⟩, tr, tr, c19, tr, ⟨⟨⟨rfl, rfl, rfl, rfl, tr⟩, ⟨rfl, rfl, rfl, rfl, tr⟩, tr⟩, ok_impl_MulTurns K v17 (a2.getD x11.toNat default) v20 e21⟩, c22, tr⟩, ⟨⟨List.length_set, gl_set, (gl_atp (lt_of_bound c22)).symm, ⟨⟨rfl, tr⟩, ⟨rfl, tr⟩, ⟨rfl, tr⟩, ⟨rfl, tr⟩, tr⟩, (fun _ j hj => match j, hj with | 0, _ => ⟨rfl, rfl⟩ | 1, _ => ⟨rfl, rfl⟩ | 2, _ => ⟨rfl, rfl⟩ | 3, _ => ⟨rfl, rfl⟩)⟩, tr⟩⟩ ?_
        refine blockQ_normal ?_
        refine thenQ_normal ?_
        refine AW.rA ⟨[(2, (vc (sl 4 cs_Turn a2))), (6, (vp 3 0)), (8, (vp 5 0)), (28, (vc (sl 4 cs_Bone a0.Bones))), (29, (vc (.int .i64 (a0.Bones.length : Int)))), (30, (vc (.int .i64 (IntKind.i64.wrap (x11 + (1 : Int))))))], [(3, (.box [(.c (.flt .f32 (default : F32).bits)), (.c (.flt .f32 (default : F32).bits)), (.c (.flt .f32 (default : F32).bits)), .nils])), (4, (.arr true (x12.set x11.toNat v20).length 4 (gl cs_Turn (x12.set x11.toNat v20)))), (5, (.box [(.c (.flt .f32 a1.X.bits)), (.c (.flt .f32 a1.Y.bits)), (.c (.flt .f32 a1.Z.bits)), (.arr 4)]))]⟩ (T2 Tt) [] [2, 6, 8, 28, 29, 30] [3, 4, 5] ⟨tr, tr, tr⟩ ?_
        exact loopQ_normal (k, (IntKind.i64.wrap (x11 + (1 : Int))), (x12.set x11.toNat v20)) h (Nat.lt_succ_self k) (Sub.keep [2, 6, 8, 28, 29, 30] [3, 4, 5] (by kernel_rfl) (by kernel_rfl))
      · refine AW.cond_f rfl b15 ?_
        refine AW.skip ?_
        refine blockQ_normal ?_
        refine thenQ_normal ?_
        refine AW.rA ⟨[(2, (vc (sl 4 cs_Turn a2))), (6, (vp 3 0)), (8, (vp 5 0)), (28, (vc (sl 4 cs_Bone a0.Bones))), (29, (vc (.int .i64 (a0.Bones.length : Int)))), (30, (vc (.int .i64 (IntKind.i64.wrap (x11 + (1 : Int))))))], [(3, (.box [(.c (.flt .f32 (default : F32).bits)), (.c (.flt .f32 (default : F32).bits)), (.c (.flt .f32 (default : F32).bits)), .nils])), (4, (.arr true x12.length 4 (gl cs_Turn x12))), (5, (.box [(.c (.flt .f32 a1.X.bits)), (.c (.flt .f32 a1.Y.bits)), (.c (.flt .f32 a1.Z.bits)), (.arr 4)]))]⟩ (T2 Tt) [] [2, 6, 8, 28, 29, 30] [3, 4, 5] ⟨tr, tr, tr⟩ ?_
        exact loopQ_normal (k, (IntKind.i64.wrap (x11 + (1 : Int))), x12) h (Nat.lt_succ_self k) (Sub.keep [2, 6, 8, 28, 29, 30] [3, 4, 5] (by kernel_rfl) (by kernel_rfl))
    · refine AW.cond_f rfl b13 ?_
      refine AW.exit ?_
      refine thenQ_exit ?_
      refine loopQ_exit ?_
      refine blockQ_exit ?_
      refine thenQ_normal ?_
      refine AW.seq (AW.rA ⟨[(6, (vp 3 0)), (7, (vc (.bool true)))], [(3, (.box [(.c (.flt .f32 a1.X.bits)), (.c (.flt .f32 a1.Y.bits)), (.c (.flt .f32 a1.Z.bits)), (.arr 4)])), (4, (.arr true x12.length 4 (gl cs_Turn x12)))]⟩ (Tt ∧ T2 Tt) [] [6, 7] [3, 4] ⟨tr, tr, tr, tr⟩ (thenQ_normal ?_))
      refine AW.ret ?_
      replace h := some_eq h
      subst h
      exact ⟨.inr rfl, retOK_of [(.agg [(.c (.flt .f32 a1.X.bits)), (.c (.flt .f32 a1.Y.bits)), (.c (.flt .f32 a1.Z.bits)), (.arr 4)]), (.one (.c (.bool true)))] (by kernel_rfl) ⟨⟨⟨rfl, tr⟩, ⟨rfl, tr⟩, ⟨rfl, tr⟩, rfl, tr⟩, ⟨rfl, tr⟩, tr⟩ (of_decide_eq_true (by kernel_rfl))⟩

/-! laws.b10VEqual -/
def laws_b10VEqual (_K : Nat) (a0 : Vector) (a1 : Vector) : Option (Bool) :=
  (ite2 ((a0.X.eq a1.X)) (ite2 ((a0.Y.eq a1.Y)) (some (a0.Z.eq a1.Z)) (some false)) (some false)).bind fun j3 => some j3

theorem ok_laws_b10VEqual (K : Nat) (a0 : Vector) (a1 : Vector) (o : (Bool)) (h : laws_b10VEqual K a0 a1 = some o) : CallOK Try.prog 9 [.agg (cs_Vector a0), .agg (cs_Vector a1)] [.one (.bool o)] := by
  refine callOK_of_AW Try.func9 rfl (by kernel_rfl) (Nat.le_of_ble_eq_true (by kernel_rfl)) ?_
  intro w0
  unfold laws_b10VEqual at h
  refine AW.seq (AW.rA ⟨[(2, (vp 1 0)), (3, (vp 2 0))], [(1, (.box [(.c (.flt .f32 a0.X.bits)), (.c (.flt .f32 a0.Y.bits)), (.c (.flt .f32 a0.Z.bits))])), (2, (.box [(.c (.flt .f32 a1.X.bits)), (.c (.flt .f32 a1.Y.bits)), (.c (.flt .f32 a1.Z.bits))]))]⟩ (Tt ∧ T2 Tt) [.box 1, .box 2] [2, 3] [1, 2] ⟨tr, tr, tr, tr⟩ (thenQ_normal ?_))
  refine AW.seq ?_
  obtain ⟨j3, e4, h⟩ := bind_some h
  refine AW.join1 (s2 := ⟨[(4, (vc (.bool j3)))], []⟩) ?_ ?_
  · rcases ite2_cases e4 with ⟨b1, e4⟩ | ⟨b1, e4⟩
    · rcases ite2_cases e4 with ⟨b2, e4⟩ | ⟨b2, e4⟩
      · replace e4 := some_eq e4
        subst e4
        exact AW.rA ⟨[(4, (vc (.bool (a0.Z.eq a1.Z))))], []⟩ (Tt ∧ T4 ((Tt ∧ (a0.X.eq a1.X) = true) ∧ T2 (T4 ((Tt ∧ (a0.Y.eq a1.Y) = true) ∧ Tt ∧ T2 (T4 Tt))))) [.no, .no, .no, .no, .no, .dec true, .no, .no, .no, .no, .no, .no, .dec true] [4] [] ⟨tr, tr, tr, tr, tr, ⟨tr, b1⟩, tr, tr, tr, tr, tr, tr, ⟨tr, b2⟩, tr, tr, tr, tr, tr, tr, tr, tr⟩ ⟨rfl, rfl⟩
      · replace e4 := some_eq e4
        subst e4
        exact AW.rA ⟨[(4, (vc (.bool false)))], []⟩ (Tt ∧ T4 ((Tt ∧ (a0.X.eq a1.X) = true) ∧ T2 (T4 ((Tt ∧ (a0.Y.eq a1.Y) = false) ∧ Tt ∧ T2 (T4 Tt))))) [.no, .no, .no, .no, .no, .dec true, .no, .no, .no, .no, .no, .no, .dec false] [4] [] ⟨tr, tr, tr, tr, tr, ⟨tr, b1⟩, tr, tr, tr, tr, tr, tr, ⟨tr, b2⟩, tr, tr, tr, tr, tr, tr, tr, tr⟩ ⟨rfl, rfl⟩
    · replace e4 := some_eq e4
      subst e4
      exact AW.rA ⟨[(4, (vc (.bool false)))], []⟩ (Tt ∧ T4 ((Tt ∧ (a0.X.eq a1.X) = false) ∧ T2 (T4 (T4 (T4 Tt))))) [.no, .no, .no, .no, .no, .dec false] [4] [] ⟨tr, tr, tr, tr, tr, ⟨tr, b1⟩, tr, tr, tr, tr, tr, tr, tr, tr, tr, tr, tr, tr, tr, tr, tr⟩ ⟨rfl, rfl⟩
  refine thenQ_normal ?_
  refine AW.ret ?_
  replace h := some_eq h
  subst h
  exact ⟨.inr rfl, retOK_of [(.one (.c (.bool j3)))] (by kernel_rfl) ⟨⟨rfl, tr⟩, tr⟩ (of_decide_eq_true (by kernel_rfl))⟩

/-! laws.b10TEqual -/
def laws_b10TEqual (_K : Nat) (a0 : Turn) (a1 : Turn) : Option (Bool) :=
  (ite2 ((a0.W.eq a1.W)) (ite2 ((a0.X.eq a1.X)) (ite2 ((a0.Y.eq a1.Y)) (some (a0.Z.eq a1.Z)) (some false)) (some false)) (some false)).bind fun j4 => some j4

theorem ok_laws_b10TEqual (K : Nat) (a0 : Turn) (a1 : Turn) (o : (Bool)) (h : laws_b10TEqual K a0 a1 = some o) : CallOK Try.prog 10 [.agg (cs_Turn a0), .agg (cs_Turn a1)] [.one (.bool o)] := by
  refine callOK_of_AW Try.func10 rfl (by kernel_rfl) (Nat.le_of_ble_eq_true (by kernel_rfl)) ?_
  intro w0
  unfold laws_b10TEqual at h
  refine AW.seq (AW.rA ⟨[(2, (vp 1 0)), (3, (vp 2 0))], [(1, (.box [(.c (.flt .f32 a0.W.bits)), (.c (.flt .f32 a0.X.bits)), (.c (.flt .f32 a0.Y.bits)), (.c (.flt .f32 a0.Z.bits))])), (2, (.box [(.c (.flt .f32 a1.W.bits)), (.c (.flt .f32 a1.X.bits)), (.c (.flt .f32 a1.Y.bits)), (.c (.flt .f32 a1.Z.bits))]))]⟩ (Tt ∧ T2 Tt) [.box 1, .box 2] [2, 3] [1, 2] ⟨tr, tr, tr, tr⟩ (thenQ_normal ?_))
  refine AW.seq ?_
  obtain ⟨j4, e5, h⟩ := bind_some h
  refine AW.join1 (s2 := ⟨[(4, (vc (.bool j4)))], []⟩) ?_ ?_
  · rcases ite2_cases e5 with ⟨b1, e5⟩ | ⟨b1, e5⟩
    · rcases ite2_cases e5 with ⟨b2, e5⟩ | ⟨b2, e5⟩
      · rcases ite2_cases e5 with ⟨b3, e5⟩ | ⟨b3, e5⟩
        · replace e5 := some_eq e5
          subst e5
          exact AW.rA ⟨[(4, (vc (.bool (a0.Z.eq a1.Z))))], []⟩ (Tt ∧ T4 ((Tt ∧ (a0.W.eq a1.W) = true) ∧ T2 (T4 ((Tt ∧ (a0.X.eq a1.X) = true) ∧ T2 (T4 ((Tt ∧ (a0.Y.eq a1.Y) = true) ∧ Tt ∧ T2 (T4 Tt))))))) [.no, .no, .no, .no, .no, .dec true, .no, .no, .no, .no, .no, .no, .dec true, .no, .no, .no, .no, .no, .no, .dec true] [4] [] ⟨tr, tr, tr, tr, tr, ⟨tr, b1⟩, tr, tr, tr, tr, tr, tr, ⟨tr, b2⟩, tr, tr, tr, tr, tr, tr, ⟨tr, b3⟩, tr, tr, tr, tr, tr, tr, tr, tr⟩ ⟨rfl, rfl⟩
        · replace e5 := some_eq e5
          subst e5
          exact AW.rA ⟨[(4, (vc (.bool false)))], []⟩ (Tt ∧ T4 ((Tt ∧ (a0.W.eq a1.W) = true) ∧ T2 (T4 ((Tt ∧ (a0.X.eq a1.X) = true) ∧ T2 (T4 ((Tt ∧ (a0.Y.eq a1.Y) = false) ∧ Tt ∧ T2 (T4 Tt))))))) [.no, .no, .no, .no, .no, .dec true, .no, .no, .no, .no, .no, .no, .dec true, .no, .no, .no, .no, .no, .no, .dec false] [4] [] ⟨tr, tr, tr, tr, tr, ⟨tr, b1⟩, tr, tr, tr, tr, tr, tr, ⟨tr, b2⟩, tr, tr, tr, tr, tr, tr, ⟨tr, b3⟩, tr, tr, tr, tr, tr, tr, tr, tr⟩ ⟨rfl, rfl⟩
      · replace e5 := some_eq e5
        subst e5
        exact AW.rA ⟨[(4, (vc (.bool false)))], []⟩ (Tt ∧ T4 ((Tt ∧ (a0.W.eq a1.W) = true) ∧ T2 (T4 ((Tt ∧ (a0.X.eq a1.X) = false) ∧ T2 (T4 (T4 (T4 Tt))))))) [.no, .no, .no, .no, .no, .dec true, .no, .no, .no, .no, .no, .no, .dec false] [4] [] ⟨tr, tr, tr, tr, tr, ⟨tr, b1⟩, tr, tr, tr, tr, tr, tr, ⟨tr, b2⟩, tr, tr, tr, tr, tr, tr, tr, tr, tr, tr, tr, tr, tr, tr, tr⟩ ⟨rfl, rfl⟩
    · replace e5 := some_eq e5
      subst e5
      exact AW.rA ⟨[(4, (vc (.bool false)))], []⟩ (Tt ∧ T4 ((Tt ∧ (a0.W.eq a1.W) = false) ∧ Tt ∧ T4 (T4 (T4 (T4 (T4 Tt)))))) [.no, .no, .no, .no, .no, .dec false] [4] [] ⟨tr, tr, tr, tr, tr, ⟨tr, b1⟩, tr, tr, tr, tr, tr, tr, tr, tr, tr, tr, tr, tr, tr, tr, tr, tr, tr, tr, tr, tr, tr, tr⟩ ⟨rfl, rfl⟩
  refine thenQ_normal ?_
  refine AW.ret ?_
  replace h := some_eq h
  subst h
  exact ⟨.inr rfl, retOK_of [(.one (.c (.bool j4)))] (by kernel_rfl) ⟨⟨rfl, tr⟩, tr⟩ (of_decide_eq_true (by kernel_rfl))⟩

/-! spec.l01Less -/
def spec_l01Less (_K : Nat) (a0 : Vector) (a1 : Vector) : Option (Vector) :=
  some (Vector.mk (a0.X.sub a1.X) (a0.Y.sub a1.Y) (a0.Z.sub a1.Z))

theorem ok_spec_l01Less (K : Nat) (a0 : Vector) (a1 : Vector) (o : (Vector)) (h : spec_l01Less K a0 a1 = some o) : CallOK Try.prog 27 [.agg (cs_Vector a0), .agg (cs_Vector a1)] [.agg (cs_Vector o)] := by
  refine callOK_of_AW Try.func27 rfl (by kernel_rfl) (Nat.le_of_ble_eq_true (by kernel_rfl)) ?_
  intro w0
  unfold spec_l01Less at h
  refine AW.seq (AW.rA ⟨[(2, (vp 1 0)), (3, (vp 2 0)), (4, (vp 3 0))], [(1, (.box [(.c (.flt .f32 a0.X.bits)), (.c (.flt .f32 a0.Y.bits)), (.c (.flt .f32 a0.Z.bits))])), (2, (.box [(.c (.flt .f32 a1.X.bits)), (.c (.flt .f32 a1.Y.bits)), (.c (.flt .f32 a1.Z.bits))])), (3, (.box [(.c (.flt .f32 (default : F32).bits)), (.c (.flt .f32 (default : F32).bits)), (.c (.flt .f32 (default : F32).bits))]))]⟩ (Tt ∧ T2 Tt) [.box 1, .box 2, .box 3] [2, 3, 4] [1, 2, 3] ⟨tr, tr, tr, tr⟩ (thenQ_normal ?_))
  refine AW.seq (AW.rA ⟨[(4, (vp 3 0))], [(3, (.box [(.c (.flt .f32 (a0.X.sub a1.X).bits)), (.c (.flt .f32 (a0.Y.sub a1.Y).bits)), (.c (.flt .f32 (a0.Z.sub a1.Z).bits))]))]⟩ (Tt ∧ T4 (T4 (T4 (T4 Tt)))) [] [4] [3] ⟨tr, tr, tr, tr, tr, tr, tr, tr, tr, tr, tr, tr, tr, tr, tr, tr, tr, tr⟩ (thenQ_normal ?_))
  refine AW.ret ?_
  replace h := some_eq h
  subst h
  exact ⟨.inr rfl, retOK_of [(.agg [(.c (.flt .f32 (a0.X.sub a1.X).bits)), (.c (.flt .f32 (a0.Y.sub a1.Y).bits)), (.c (.flt .f32 (a0.Z.sub a1.Z).bits))])] (by kernel_rfl) ⟨⟨⟨rfl, tr⟩, ⟨rfl, tr⟩, ⟨rfl, tr⟩, tr⟩, tr⟩ (of_decide_eq_true (by kernel_rfl))⟩

/-! spec.LessVectors -/
def spec_LessVectors (K : Nat) (a0 : Vector) (a1 : Vector) : Option (Vector) :=
  (spec_l01Less K a0 a1).bind fun v1 => some v1

theorem ok_spec_LessVectors (K : Nat) (a0 : Vector) (a1 : Vector) (o : (Vector)) (h : spec_LessVectors K a0 a1 = some o) : CallOK Try.prog 12 [.agg (cs_Vector a0), .agg (cs_Vector a1)] [.agg (cs_Vector o)] := by
  refine callOK_of_AW Try.func12 rfl (by kernel_rfl) (Nat.le_of_ble_eq_true (by kernel_rfl)) ?_
  intro w0
  unfold spec_LessVectors at h
  refine AW.seq (AW.rA ⟨[(2, (vp 1 0)), (3, (vp 2 0)), (4, (vp 3 0))], [(1, (.box [(.c (.flt .f32 a0.X.bits)), (.c (.flt .f32 a0.Y.bits)), (.c (.flt .f32 a0.Z.bits))])), (2, (.box [(.c (.flt .f32 a1.X.bits)), (.c (.flt .f32 a1.Y.bits)), (.c (.flt .f32 a1.Z.bits))])), (3, (.box [(.c (.flt .f32 (default : F32).bits)), (.c (.flt .f32 (default : F32).bits)), (.c (.flt .f32 (default : F32).bits))]))]⟩ (Tt ∧ T2 Tt) [.box 1, .box 2, .box 3] [2, 3, 4] [1, 2, 3] ⟨tr, tr, tr, tr⟩ (thenQ_normal ?_))
  refine AW.seq ?_
  obtain ⟨v1, e2, h⟩ := bind_some h
  refine AW.rA ⟨[(4, (vp 3 0))], [(3, (.box [(.c (.flt .f32 v1.X.bits)), (.c (.flt .f32 v1.Y.bits)), (.c (.flt .f32 v1.Z.bits))]))]⟩ (T2 (((((Eqc (.flt .f32 a0.X.bits)) ∧ (Eqc (.flt .f32 a0.Y.bits)) ∧ (Eqc (.flt .f32 a0.Z.bits)) ∧ Tt) ∧ ((Eqc (.flt .f32 a1.X.bits)) ∧ (Eqc (.flt .f32 a1.Y.bits)) ∧ (Eqc (.flt .f32 a1.Z.bits)) ∧ Tt) ∧ Tt) ∧ CallOK Try.prog 27 [.agg (cs_Vector a0), .agg (cs_Vector a1)] [.agg (cs_Vector v1)]) ∧ Tt ∧ Tt)) [.no, .no, .call [.agg (cs_Vector a0), .agg (cs_Vector a1)] [.agg (cs_Vector v1)] [[.view, .view, .view]]] [4] [3] ⟨tr, tr, ⟨⟨⟨rfl, rfl, rfl, tr⟩, ⟨rfl, rfl, rfl, tr⟩, tr⟩, ok_spec_l01Less K a0 a1 v1 e2⟩, tr, tr⟩ ?_
  refine thenQ_normal ?_
  refine AW.ret ?_
  replace h := some_eq h
  subst h
  exact ⟨.inr rfl, retOK_of [(.agg [(.c (.flt .f32 v1.X.bits)), (.c (.flt .f32 v1.Y.bits)), (.c (.flt .f32 v1.Z.bits))])] (by kernel_rfl) ⟨⟨⟨rfl, tr⟩, ⟨rfl, tr⟩, ⟨rfl, tr⟩, tr⟩, tr⟩ (of_decide_eq_true (by kernel_rfl))⟩

/-! laws.b10Square -/
def laws_b10Square (_K : Nat) (a0 : Vector) : Option (F32) :=
  some (((a0.X.mul a0.X).add (a0.Y.mul a0.Y)).add (a0.Z.mul a0.Z))

theorem ok_laws_b10Square (K : Nat) (a0 : Vector) (o : (F32)) (h : laws_b10Square K a0 = some o) : CallOK Try.prog 11 [.agg (cs_Vector a0)] [.one (.flt .f32 o.bits)] := by
  refine callOK_of_AW Try.func11 rfl (by kernel_rfl) (Nat.le_of_ble_eq_true (by kernel_rfl)) ?_
  intro w0
  unfold laws_b10Square at h
  refine AW.seq (AW.rA ⟨[(1, (vp 1 0))], [(1, (.box [(.c (.flt .f32 a0.X.bits)), (.c (.flt .f32 a0.Y.bits)), (.c (.flt .f32 a0.Z.bits))]))]⟩ (T2 Tt) [.box 1] [1] [1] ⟨tr, tr, tr⟩ (thenQ_normal ?_))
  refine AW.seq (AW.rA ⟨[(2, (vc (.flt .f32 (((a0.X.mul a0.X).add (a0.Y.mul a0.Y)).add (a0.Z.mul a0.Z)).bits)))], []⟩ (T2 (T4 (T4 (T4 (T4 Tt))))) [] [2] [] ⟨tr, tr, tr, tr, tr, tr, tr, tr, tr, tr, tr, tr, tr, tr, tr, tr, tr, tr, tr⟩ (thenQ_normal ?_))
  refine AW.ret ?_
  replace h := some_eq h
  subst h
  exact ⟨.inr rfl, retOK_of [(.one (.c (.flt .f32 (((a0.X.mul a0.X).add (a0.Y.mul a0.Y)).add (a0.Z.mul a0.Z)).bits)))] (by kernel_rfl) ⟨⟨rfl, tr⟩, tr⟩ (of_decide_eq_true (by kernel_rfl))⟩

/-! impl.IsPairing$1 -/
def impl_IsPairing_1 (_K : Nat) (a0 : Int) (a1 : Int) : Option (Bool) :=
  (ite2 ((decide (a0 < (0 : Int)))) (some true) (some (decide (a0 ≥ a1)))).bind fun j2 => some j2

theorem ok_impl_IsPairing_1 (K : Nat) (a0 : Int) (a1 : Int) (o : (Bool)) (h : impl_IsPairing_1 K a0 a1 = some o) : CallOK Try.prog 32 [.one (.int .i64 a0), .one (pl 1 (csI .i64) a1)] [.one (.bool o)] := by
  refine callOK_of_AW Try.func32 rfl (by kernel_rfl) (Nat.le_of_ble_eq_true (by kernel_rfl)) ?_
  intro w0
  unfold impl_IsPairing_1 at h
  refine AW.seq (AW.rA ⟨[(0, (vc (.int .i64 a0))), (1, (vc (pl 1 (csI .i64) a1)))], []⟩ (Tt ∧ Tt) [] [0, 1] [] ⟨tr, tr⟩ (thenQ_normal ?_))
  refine AW.seq ?_
  obtain ⟨j2, e3, h⟩ := bind_some h
  refine AW.join1 (s2 := ⟨[(3, (vc (.bool j2)))], []⟩) ?_ ?_
  · rcases ite2_cases e3 with ⟨b1, e3⟩ | ⟨b1, e3⟩
    · replace e3 := some_eq e3
      subst e3
      exact AW.rA ⟨[(3, (vc (.bool true)))], []⟩ (T2 ((Tt ∧ (decide (a0 < (0 : Int))) = true) ∧ Tt ∧ T4 Tt)) [.no, .no, .dec true] [3] [] ⟨tr, tr, ⟨tr, b1⟩, tr, tr, tr, tr, tr, tr⟩ ⟨rfl, rfl⟩
    · replace e3 := some_eq e3
      subst e3
      exact AW.rA ⟨[(3, (vc (.bool (decide (a0 ≥ a1)))))], []⟩ (T2 ((Tt ∧ (decide (a0 < (0 : Int))) = false) ∧ Tt ∧ T4 Tt)) [.no, .no, .dec false] [3] [] ⟨tr, tr, ⟨tr, b1⟩, tr, tr, tr, tr, tr, tr⟩ ⟨rfl, rfl⟩
  refine thenQ_normal ?_
  refine AW.ret ?_
  replace h := some_eq h
  subst h
  exact ⟨.inr rfl, retOK_of [(.one (.c (.bool j2)))] (by kernel_rfl) ⟨⟨rfl, tr⟩, tr⟩ (of_decide_eq_true (by kernel_rfl))⟩

/-! slices.IndexFunc[[]int64,int64] -/
def slices_IndexFunc_int64_int64_l1 (K : Nat) (a0 : (List Int)) (a1_0_0 : Int) : Nat → Int → Option (Int)
  | 0, _ => none
  | k + 1, x2 => ite2 ((decide (x2 < (a0.length : Int)))) (chk (0 ≤ x2 ∧ x2 < (a0.length : Int)) ((impl_IsPairing_1 K (a0.getD x2.toNat default) a1_0_0).bind fun v5 => ite2 (v5) (some x2) (slices_IndexFunc_int64_int64_l1 K a0 a1_0_0 k (IntKind.i64.wrap (x2 + (1 : Int)))))) (some ((-1) : Int))

def slices_IndexFunc_int64_int64 (K : Nat) (a0 : (List Int)) (a1_0_0 : Int) : Option (Int) :=
  slices_IndexFunc_int64_int64_l1 K a0 a1_0_0 K (0 : Int)

theorem ok_slices_IndexFunc_int64_int64 (K : Nat) (a0 : (List Int)) (a1_0_0 : Int) (o : (Int)) (h : slices_IndexFunc_int64_int64 K a0 a1_0_0 = some o) : CallOK Try.prog 40 [.one (sl 1 (csI .i64) a0), .one (.fn 32 1 fun j => [(pl 1 (csI .i64) a1_0_0)].getD j .nilptr)] [.one (.int .i64 o)] := by
  refine callOK_of_AW Try.func40 rfl (by kernel_rfl) (Nat.le_of_ble_eq_true (by kernel_rfl)) ?_
  intro w0
  unfold slices_IndexFunc_int64_int64 at h
  refine AW.seq (AW.rA ⟨[(0, (vc (sl 1 (csI .i64) a0))), (1, (vc (.fn 32 1 fun j => [(pl 1 (csI .i64) a1_0_0)].getD j .nilptr)))], []⟩ (Tt ∧ Tt) [] [0, 1] [] ⟨tr, tr⟩ (thenQ_normal ?_))
  refine AW.seq ?_
  refine AW.seq (AW.rA ⟨[(0, (vc (sl 1 (csI .i64) a0))), (1, (vc (.fn 32 1 fun j => [(pl 1 (csI .i64) a1_0_0)].getD j .nilptr))), (7, (vc (.int .i64 (a0.length : Int)))), (8, (vc (.int .i64 (0 : Int))))], []⟩ (Tt ∧ T2 Tt) [] [0, 1, 7, 8] [] ⟨tr, tr, tr, tr⟩ (thenQ_normal ?_))
  refine AW.block ?_
  refine AW.loopQ (σ := Nat × Int) (fun p => ⟨[(0, (vc (sl 1 (csI .i64) a0))), (1, (vc (.fn 32 1 fun j => [(pl 1 (csI .i64) a1_0_0)].getD j .nilptr))), (7, (vc (.int .i64 (a0.length : Int)))), (8, (vc (.int .i64 p.2)))], []⟩) (fun p => slices_IndexFunc_int64_int64_l1 K a0 a1_0_0 p.1 p.2 = some o) (fun p => p.1) (K, (0 : Int)) h ?_
  clear h
  rintro ⟨k, x2⟩ h
  replace h : slices_IndexFunc_int64_int64_l1 K a0 a1_0_0 k x2 = some o := h
  show AW _ _ (⟨[(0, (vc (sl 1 (csI .i64) a0))), (1, (vc (.fn 32 1 fun j => [(pl 1 (csI .i64) a1_0_0)].getD j .nilptr))), (7, (vc (.int .i64 (a0.length : Int)))), (8, (vc (.int .i64 x2)))], []⟩ : St) _
  obtain _ | k := k
  · rw [slices_IndexFunc_int64_int64_l1] at h; cases h
  rw [slices_IndexFunc_int64_int64_l1] at h
  refine AW.seq (AW.rA ⟨[(0, (vc (sl 1 (csI .i64) a0))), (1, (vc (.fn 32 1 fun j => [(pl 1 (csI .i64) a1_0_0)].getD j .nilptr))), (7, (vc (.int .i64 (a0.length : Int)))), (8, (vc (.int .i64 x2))), (9, (vc (.bool (decide (x2 < (a0.length : Int))))))], []⟩ (Tt ∧ Tt) [] [0, 1, 7, 8, 9] [] ⟨tr, tr⟩ (thenQ_normal ?_))
  refine AW.seq ?_
  rcases ite2_cases h with ⟨b3, h⟩ | ⟨b3, h⟩
  · refine AW.cond_t rfl b3 ?_
    refine AW.skip ?_
    refine thenQ_normal ?_
    refine AW.seq ?_
    refine AW.block ?_
    refine AW.seq (AW.rA ⟨[(0, (vc (sl 1 (csI .i64) a0))), (1, (vc (.fn 32 1 fun j => [(pl 1 (csI .i64) a1_0_0)].getD j .nilptr))), (5, (vc (.int .i64 x2))), (7, (vc (.int .i64 (a0.length : Int)))), (8, (vc (.int .i64 x2)))], []⟩ (T2 Tt) [] [0, 1, 5, 7, 8] [] ⟨tr, tr, tr⟩ (thenQ_normal ?_))
    refine AW.seq ?_
    obtain ⟨c4, h⟩ := chk_some h
    obtain ⟨v5, e6, h⟩ := bind_some h
    refine AW.rA ⟨[(0, (vc (sl 1 (csI .i64) a0))), (1, (vc (.fn 32 1 fun j => [(pl 1 (csI .i64) a1_0_0)].getD j .nilptr))), (5, (vc (.int .i64 x2))), (7, (vc (.int .i64 (a0.length : Int)))), (8, (vc (.int .i64 x2))), (16, (vc (.bool v5)))], []⟩ (Tt ∧ T2 ((0 ≤ x2 ∧ x2 < (a0.length : Int)) ∧ Tt ∧ (((Eqc (.int .i64 (a0.getD x2.toNat default))) ∧ (1 = 1 ∧ ∀ j, j < 1 → ((csI .i64) a1_0_0).getD j .nilptr = ((csI .i64) a1_0_0).getD j .nilptr) ∧ Tt) ∧ CallOK Try.prog 32 [.one (.int .i64 (a0.getD x2.toNat default)), .one (pl 1 (csI .i64) a1_0_0)] [.one (.bool v5)]) ∧ Tt)) [.no, .no, .no, .no, .no, .call [.one (.int .i64 (a0.getD x2.toNat default)), .one (pl 1 (csI .i64) a1_0_0)] [.one (.bool v5)] [[.view]]] [0, 1, 5, 7, 8, 16] [] ⟨tr, tr, tr, c4, tr, ⟨⟨rfl, ⟨rfl, fun j hj => rfl⟩, tr⟩, ok_impl_IsPairing_1 K (a0.getD x2.toNat default) a1_0_0 v5 e6⟩, tr⟩ ?_
    refine thenQ_normal ?_
    rcases ite2_cases h with ⟨b7, h⟩ | ⟨b7, h⟩
    · refine AW.cond_t rfl b7 ?_
      refine AW.seq (AW.rA ⟨[(4, (vc (.int .i64 x2)))], []⟩ (T2 Tt) [] [4] [] ⟨tr, tr, tr⟩ (thenQ_normal ?_))
      refine AW.ret ?_
      refine blockQ_ret ?_
      refine thenQ_ret ?_
      refine loopQ_ret ?_
      refine blockQ_ret ?_
      refine thenQ_ret ?_
      replace h := some_eq h
      subst h
      exact ⟨.inr rfl, retOK_of [(.one (.c (.int .i64 x2)))] (by kernel_rfl) ⟨⟨rfl, tr⟩, tr⟩ (of_decide_eq_true (by kernel_rfl))⟩
    · refine AW.cond_f rfl b7 ?_
      refine AW.skip ?_
      refine blockQ_normal ?_
      refine thenQ_normal ?_
      refine AW.rA ⟨[(0, (vc (sl 1 (csI .i64) a0))), (1, (vc (.fn 32 1 fun j => [(pl 1 (csI .i64) a1_0_0)].getD j .nilptr))), (7, (vc (.int .i64 (a0.length : Int)))), (8, (vc (.int .i64 (IntKind.i64.wrap (x2 + (1 : Int))))))], []⟩ (T2 Tt) [] [0, 1, 7, 8] [] ⟨tr, tr, tr⟩ ?_
      exact loopQ_normal (k, (IntKind.i64.wrap (x2 + (1 : Int)))) h (Nat.lt_succ_self k) (Sub.keep [0, 1, 7, 8] [] (by kernel_rfl) (by kernel_rfl))
  · refine AW.cond_f rfl b3 ?_
    refine AW.exit ?_
    refine thenQ_exit ?_
    refine loopQ_exit ?_
    refine blockQ_exit ?_
    refine thenQ_normal ?_
    refine AW.seq (AW.rA ⟨[(4, (vc (.int .i64 ((-1) : Int))))], []⟩ (Tt ∧ Tt) [] [4] [] ⟨tr, tr⟩ (thenQ_normal ?_))
    refine AW.ret ?_
    replace h := some_eq h
    subst h
    exact ⟨.inr rfl, retOK_of [(.one (.c (.int .i64 ((-1) : Int))))] (by kernel_rfl) ⟨⟨rfl, tr⟩, tr⟩ (of_decide_eq_true (by kernel_rfl))⟩

/-! slices.ContainsFunc[[]int64,int64] -/
def slices_ContainsFunc_int64_int64 (K : Nat) (a0 : (List Int)) (a1_0_0 : Int) : Option (Bool) :=
  (slices_IndexFunc_int64_int64 K a0 a1_0_0).bind fun v1 => some (decide (v1 ≥ (0 : Int)))

theorem ok_slices_ContainsFunc_int64_int64 (K : Nat) (a0 : (List Int)) (a1_0_0 : Int) (o : (Bool)) (h : slices_ContainsFunc_int64_int64 K a0 a1_0_0 = some o) : CallOK Try.prog 31 [.one (sl 1 (csI .i64) a0), .one (.fn 32 1 fun j => [(pl 1 (csI .i64) a1_0_0)].getD j .nilptr)] [.one (.bool o)] := by
  refine callOK_of_AW Try.func31 rfl (by kernel_rfl) (Nat.le_of_ble_eq_true (by kernel_rfl)) ?_
  intro w0
  unfold slices_ContainsFunc_int64_int64 at h
  refine AW.seq (AW.rA ⟨[(0, (vc (sl 1 (csI .i64) a0))), (1, (vc (.fn 32 1 fun j => [(pl 1 (csI .i64) a1_0_0)].getD j .nilptr)))], []⟩ (Tt ∧ Tt) [] [0, 1] [] ⟨tr, tr⟩ (thenQ_normal ?_))
  refine AW.seq ?_
  obtain ⟨v1, e2, h⟩ := bind_some h
  refine AW.rA ⟨[(4, (vc (.bool (decide (v1 ≥ (0 : Int))))))], []⟩ (T2 ((((Eqc (sl 1 (csI .i64) a0)) ∧ (Eqc (.fn 32 1 fun j => [(pl 1 (csI .i64) a1_0_0)].getD j .nilptr)) ∧ Tt) ∧ CallOK Try.prog 40 [.one (sl 1 (csI .i64) a0), .one (.fn 32 1 fun j => [(pl 1 (csI .i64) a1_0_0)].getD j .nilptr)] [.one (.int .i64 v1)]) ∧ T2 Tt)) [.no, .no, .call [.one (sl 1 (csI .i64) a0), .one (.fn 32 1 fun j => [(pl 1 (csI .i64) a1_0_0)].getD j .nilptr)] [.one (.int .i64 v1)] [[.view]]] [4] [] ⟨tr, tr, ⟨⟨rfl, rfl, tr⟩, ok_slices_IndexFunc_int64_int64 K a0 a1_0_0 v1 e2⟩, tr, tr, tr⟩ ?_
  refine thenQ_normal ?_
  refine AW.ret ?_
  replace h := some_eq h
  subst h
  exact ⟨.inr rfl, retOK_of [(.one (.c (.bool (decide (v1 ≥ (0 : Int))))))] (by kernel_rfl) ⟨⟨rfl, tr⟩, tr⟩ (of_decide_eq_true (by kernel_rfl))⟩

/-! impl.IsPairing -/
def impl_IsPairing_l1 (K : Nat) (a0 : Skeleton) (a1 : (List Int)) : Nat → Int → Option (Bool)
  | 0, _ => none
  | k + 1, x11 => ite2 ((decide (x11 < (a1.length : Int)))) (chk (0 ≤ x11 ∧ x11 < (a1.length : Int)) (chk (0 ≤ (a1.getD x11.toNat default) ∧ (a1.getD x11.toNat default) < (a1.length : Int)) ((ite2 (((a1.getD ((a1.getD x11.toNat default).toNat) default) != x11)) (some true) (ite2 ((decide (x11 > (0 : Int)))) (chk (0 ≤ (a1.getD x11.toNat default) ∧ (a1.getD x11.toNat default) < (a0.Bones.length : Int)) (chk (0 ≤ x11 ∧ x11 < (a0.Bones.length : Int)) (chk (0 ≤ ((a0.Bones.getD x11.toNat default).Parent) ∧ ((a0.Bones.getD x11.toNat default).Parent) < (a1.length : Int)) (some (((a0.Bones.getD ((a1.getD x11.toNat default).toNat) default).Parent) != (a1.getD (((a0.Bones.getD x11.toNat default).Parent).toNat) default)))))) (some false))).bind fun j20 => ite2 (j20) (some false) (impl_IsPairing_l1 K a0 a1 k (IntKind.i64.wrap (x11 + (1 : Int))))))) (some true)

def impl_IsPairing (K : Nat) (a0 : Skeleton) (a1 : (List Int)) : Option (Bool) :=
  (impl_ValidSkeleton K a0).bind fun v1 => (ite2 ((!v1)) (some true) (some ((a1.length : Int) != (a0.Bones.length : Int)))).bind fun j4 => ite2 (j4) (some false) ((slices_ContainsFunc_int64_int64 K a1 (a0.Bones.length : Int)).bind fun v7 => ite2 (v7) (some false) (impl_IsPairing_l1 K a0 a1 K (0 : Int)))

theorem ok_impl_IsPairing (K : Nat) (a0 : Skeleton) (a1 : (List Int)) (o : (Bool)) (h : impl_IsPairing K a0 a1 = some o) : CallOK Try.prog 15 [.agg (cs_Skeleton a0), .one (sl 1 (csI .i64) a1)] [.one (.bool o)] := by
  refine callOK_of_AW Try.func15 rfl (by kernel_rfl) (Nat.le_of_ble_eq_true (by kernel_rfl)) ?_
  intro w0
  unfold impl_IsPairing at h
  refine AW.seq (AW.rA ⟨[(1, (vc (sl 1 (csI .i64) a1))), (2, (vp 1 0))], [(1, (.box [(.c (sl 4 cs_Bone a0.Bones))]))]⟩ (T2 Tt) [.box 1] [1, 2] [1] ⟨tr, tr, tr⟩ (thenQ_normal ?_))
  refine AW.seq (AW.rA ⟨[(1, (vc (sl 1 (csI .i64) a1))), (2, (vp 1 0)), (5, (vp 2 0))], [(1, (.box [(.c (sl 4 cs_Bone a0.Bones))])), (2, (.box [(.c (.int .i64 (a0.Bones.length : Int)))]))]⟩ (Tt ∧ T4 Tt) [.no, .no, .no, .box 2] [1, 2, 5] [1, 2] ⟨tr, tr, tr, tr, tr, tr⟩ (thenQ_normal ?_))
  refine AW.seq ?_
  refine AW.seq ?_
  obtain ⟨v1, e2, h⟩ := bind_some h
  obtain ⟨j4, e5, h⟩ := bind_some h
  refine AW.join1 (s2 := ⟨[(1, (vc (sl 1 (csI .i64) a1))), (2, (vp 1 0)), (5, (vp 2 0)), (19, (vc (.bool j4)))], [(1, (.box [(.c (sl 4 cs_Bone a0.Bones))])), (2, (.box [(.c (.int .i64 (a0.Bones.length : Int)))]))]⟩) ?_ ?_
  · rcases ite2_cases e5 with ⟨b3, e5⟩ | ⟨b3, e5⟩
    · replace e5 := some_eq e5
      subst e5
      exact AW.rA ⟨[(1, (vc (sl 1 (csI .i64) a1))), (2, (vp 1 0)), (5, (vp 2 0)), (19, (vc (.bool true)))], [(1, (.box [(.c (sl 4 cs_Bone a0.Bones))])), (2, (.box [(.c (.int .i64 (a0.Bones.length : Int)))]))]⟩ (Tt ∧ ((((Eqc (sl 4 cs_Bone a0.Bones)) ∧ Tt) ∧ Tt) ∧ CallOK Try.prog 23 [.agg (cs_Skeleton a0)] [.one (.bool v1)]) ∧ Tt ∧ (Tt ∧ (!v1) = true) ∧ Tt ∧ T4 Tt) [.no, .call [.agg (cs_Skeleton a0)] [.one (.bool v1)] [[.view]], .no, .dec true] [1, 2, 5, 19] [1, 2] ⟨tr, ⟨⟨⟨rfl, tr⟩, tr⟩, ok_impl_ValidSkeleton K a0 v1 e2⟩, tr, ⟨tr, b3⟩, tr, tr, tr, tr, tr, tr⟩ ⟨rfl, rfl⟩
    · replace e5 := some_eq e5
      subst e5
      exact AW.rA ⟨[(1, (vc (sl 1 (csI .i64) a1))), (2, (vp 1 0)), (5, (vp 2 0)), (19, (vc (.bool ((a1.length : Int) != (a0.Bones.length : Int)))))], [(1, (.box [(.c (sl 4 cs_Bone a0.Bones))])), (2, (.box [(.c (.int .i64 (a0.Bones.length : Int)))]))]⟩ (Tt ∧ ((((Eqc (sl 4 cs_Bone a0.Bones)) ∧ Tt) ∧ Tt) ∧ CallOK Try.prog 23 [.agg (cs_Skeleton a0)] [.one (.bool v1)]) ∧ Tt ∧ (Tt ∧ (!v1) = false) ∧ Tt ∧ T4 Tt) [.no, .call [.agg (cs_Skeleton a0)] [.one (.bool v1)] [[.view]], .no, .dec false] [1, 2, 5, 19] [1, 2] ⟨tr, ⟨⟨⟨rfl, tr⟩, tr⟩, ok_impl_ValidSkeleton K a0 v1 e2⟩, tr, ⟨tr, b3⟩, tr, tr, tr, tr, tr, tr⟩ ⟨rfl, rfl⟩
  refine thenQ_normal ?_
  rcases ite2_cases h with ⟨b6, h⟩ | ⟨b6, h⟩
  · refine AW.cond_t rfl b6 ?_
    refine AW.seq (AW.rA ⟨[(4, (vc (.bool false)))], []⟩ (Tt ∧ Tt) [] [4] [] ⟨tr, tr⟩ (thenQ_normal ?_))
    refine AW.ret ?_
    refine thenQ_ret ?_
    replace h := some_eq h
    subst h
    exact ⟨.inr rfl, retOK_of [(.one (.c (.bool false)))] (by kernel_rfl) ⟨⟨rfl, tr⟩, tr⟩ (of_decide_eq_true (by kernel_rfl))⟩
  · refine AW.cond_f rfl b6 ?_
    refine AW.skip ?_
    refine thenQ_normal ?_
    refine AW.seq ?_
    refine AW.seq ?_
    obtain ⟨v7, e8, h⟩ := bind_some h
    refine AW.rA ⟨[(1, (vc (sl 1 (csI .i64) a1))), (2, (vp 1 0)), (22, (vc (.bool v7)))], [(1, (.box [(.c (sl 4 cs_Bone a0.Bones))]))]⟩ (T2 ((((Eqc (sl 1 (csI .i64) a1)) ∧ (32 = 32 ∧ 1 = 1 ∧ ((Eqc (.int .i64 (a0.Bones.length : Int))) ∧ Tt) ∧ Tt) ∧ Tt) ∧ CallOK Try.prog 31 [.one (sl 1 (csI .i64) a1), .one (.fn 32 1 fun j => [(pl 1 (csI .i64) (a0.Bones.length : Int))].getD j .nilptr)] [.one (.bool v7)]) ∧ Tt)) [.no, .no, .call [.one (sl 1 (csI .i64) a1), .one (.fn 32 1 fun j => [(pl 1 (csI .i64) (a0.Bones.length : Int))].getD j .nilptr)] [.one (.bool v7)] [[.view]]] [1, 2, 22] [1] ⟨tr, tr, ⟨⟨rfl, ⟨rfl, rfl, ⟨⟨rfl, tr⟩, tr⟩⟩, tr⟩, ok_slices_ContainsFunc_int64_int64 K a1 (a0.Bones.length : Int) v7 e8⟩, tr⟩ ?_
    refine thenQ_normal ?_
    rcases ite2_cases h with ⟨b9, h⟩ | ⟨b9, h⟩
    · refine AW.cond_t rfl b9 ?_
      refine AW.seq (AW.rA ⟨[(4, (vc (.bool false)))], []⟩ (Tt ∧ Tt) [] [4] [] ⟨tr, tr⟩ (thenQ_normal ?_))
      refine AW.ret ?_
      refine thenQ_ret ?_
      replace h := some_eq h
      subst h
      exact ⟨.inr rfl, retOK_of [(.one (.c (.bool false)))] (by kernel_rfl) ⟨⟨rfl, tr⟩, tr⟩ (of_decide_eq_true (by kernel_rfl))⟩
    · refine AW.cond_f rfl b9 ?_
      refine AW.skip ?_
      refine thenQ_normal ?_
      refine AW.seq ?_
      refine AW.seq (AW.rA ⟨[(1, (vc (sl 1 (csI .i64) a1))), (2, (vp 1 0)), (23, (vc (sl 1 (csI .i64) a1))), (24, (vc (.int .i64 (a1.length : Int)))), (25, (vc (.int .i64 (0 : Int))))], [(1, (.box [(.c (sl 4 cs_Bone a0.Bones))]))]⟩ (Tt ∧ T2 Tt) [] [1, 2, 23, 24, 25] [1] ⟨tr, tr, tr, tr⟩ (thenQ_normal ?_))
      refine AW.block ?_
      refine AW.loopQ (σ := Nat × Int) (fun p => ⟨[(1, (vc (sl 1 (csI .i64) a1))), (2, (vp 1 0)), (23, (vc (sl 1 (csI .i64) a1))), (24, (vc (.int .i64 (a1.length : Int)))), (25, (vc (.int .i64 p.2)))], [(1, (.box [(.c (sl 4 cs_Bone a0.Bones))]))]⟩) (fun p => impl_IsPairing_l1 K a0 a1 p.1 p.2 = some o) (fun p => p.1) (K, (0 : Int)) h ?_
      clear h
      rintro ⟨k, x11⟩ h
      replace h : impl_IsPairing_l1 K a0 a1 k x11 = some o := h
      show AW _ _ (⟨[(1, (vc (sl 1 (csI .i64) a1))), (2, (vp 1 0)), (23, (vc (sl 1 (csI .i64) a1))), (24, (vc (.int .i64 (a1.length : Int)))), (25, (vc (.int .i64 x11)))], [(1, (.box [(.c (sl 4 cs_Bone a0.Bones))]))]⟩ : St) _
      obtain _ | k := k
      · rw [impl_IsPairing_l1] at h; cases h
      rw [impl_IsPairing_l1] at h
      refine AW.seq (AW.rA ⟨[(1, (vc (sl 1 (csI .i64) a1))), (2, (vp 1 0)), (23, (vc (sl 1 (csI .i64) a1))), (24, (vc (.int .i64 (a1.length : Int)))), (25, (vc (.int .i64 x11))), (26, (vc (.bool (decide (x11 < (a1.length : Int))))))], [(1, (.box [(.c (sl 4 cs_Bone a0.Bones))]))]⟩ (Tt ∧ Tt) [] [1, 2, 23, 24, 25, 26] [1] ⟨tr, tr⟩ (thenQ_normal ?_))
      refine AW.seq ?_
      rcases ite2_cases h with ⟨b12, h⟩ | ⟨b12, h⟩
      · refine AW.cond_t rfl b12 ?_
        refine AW.skip ?_
        refine thenQ_normal ?_
        refine AW.seq ?_
        refine AW.block ?_
        refine AW.seq ?_
        obtain ⟨c13, h⟩ := chk_some h
        refine AW.rA ⟨[(1, (vc (sl 1 (csI .i64) a1))), (2, (vp 1 0)), (6, (vc (.int .i64 x11))), (7, (vc (.int .i64 (a1.getD x11.toNat default)))), (23, (vc (sl 1 (csI .i64) a1))), (24, (vc (.int .i64 (a1.length : Int)))), (25, (vc (.int .i64 x11)))], [(1, (.box [(.c (sl 4 cs_Bone a0.Bones))]))]⟩ (Tt ∧ (0 ≤ x11 ∧ x11 < (a1.length : Int)) ∧ Tt ∧ T2 Tt) [] [1, 2, 6, 7, 23, 24, 25] [1] ⟨tr, c13, tr, tr, tr, tr⟩ ?_
        refine thenQ_normal ?_
        refine AW.seq ?_
        obtain ⟨c14, h⟩ := chk_some h
        obtain ⟨j20, e21, h⟩ := bind_some h
        refine AW.join1 (s2 := ⟨[(1, (vc (sl 1 (csI .i64) a1))), (2, (vp 1 0)), (23, (vc (sl 1 (csI .i64) a1))), (24, (vc (.int .i64 (a1.length : Int)))), (25, (vc (.int .i64 x11))), (57, (vc (.bool j20)))], [(1, (.box [(.c (sl 4 cs_Bone a0.Bones))]))]⟩) ?_ ?_
        · rcases ite2_cases e21 with ⟨b15, e21⟩ | ⟨b15, e21⟩
          · replace e21 := some_eq e21
            subst e21
            exact AW.dA ⟨[(1, (vc (sl 1 (csI .i64) a1))), (2, (vp 1 0)), (23, (vc (sl 1 (csI .i64) a1))), (24, (vc (.int .i64 (a1.length : Int)))), (25, (vc (.int .i64 x11))), (57, (vc (.bool true)))], [(1, (.box [(.c (sl 4 cs_Bone a0.Bones))]))]⟩ ((T2 ((0 ≤ (a1.getD x11.toNat default) ∧ (a1.getD x11.toNat default) < (a1.length : Int)) ∧ Tt ∧ T2 ((Tt ∧ ((a1.getD ((a1.getD x11.toNat default).toNat) default) != x11) = true) ∧ Tt ∧ T4 (T4 (T4 (T4 (T4 Tt))))))) ∧ (Tt)) 28 [.no, .no, .no, .no, .no, .no, .dec true] [1, 2, 23, 24, 25, 57] [1] ⟨⟨tr, tr, c14, tr, tr, tr, ⟨tr, b15⟩, tr, tr, tr, tr, tr, tr, tr, tr, tr, tr, tr, tr, tr, tr, tr, tr, tr, tr, tr, tr, tr, tr⟩, tr⟩ ⟨rfl, rfl⟩
          · rcases ite2_cases e21 with ⟨b16, e21⟩ | ⟨b16, e21⟩
            · obtain ⟨c17, e21⟩ := chk_some e21
              obtain ⟨c18, e21⟩ := chk_some e21
              obtain ⟨c19, e21⟩ := chk_some e21
              replace e21 := some_eq e21
              subst e21
              exact AW.dA ⟨[(1, (vc (sl 1 (csI .i64) a1))), (2, (vp 1 0)), (23, (vc (sl 1 (csI .i64) a1))), (24, (vc (.int .i64 (a1.length : Int)))), (25, (vc (.int .i64 x11))), (57, (vc (.bool (((a0.Bones.getD ((a1.getD x11.toNat default).toNat) default).Parent) != (a1.getD (((a0.Bones.getD x11.toNat default).Parent).toNat) default)))))], [(1, (.box [(.c (sl 4 cs_Bone a0.Bones))]))]⟩ ((T2 ((0 ≤ (a1.getD x11.toNat default) ∧ (a1.getD x11.toNat default) < (a1.length : Int)) ∧ Tt ∧ T2 ((Tt ∧ ((a1.getD ((a1.getD x11.toNat default).toNat) default) != x11) = false) ∧ T2 ((Tt ∧ (decide (x11 > (0 : Int))) = true) ∧ Tt ∧ T2 ((0 ≤ (a1.getD x11.toNat default) ∧ (a1.getD x11.toNat default) < (a0.Bones.length : Int)) ∧ T2 (T4 ((0 ≤ x11 ∧ x11 < (a0.Bones.length : Int)) ∧ T2 ((0 ≤ ((a0.Bones.getD x11.toNat default).Parent) ∧ ((a0.Bones.getD x11.toNat default).Parent) < (a1.length : Int)) ∧ T4 Tt)))))))) ∧ (Tt)) 28 [.no, .no, .no, .no, .no, .no, .dec false, .no, .no, .dec true] [1, 2, 23, 24, 25, 57] [1] ⟨⟨tr, tr, c14, tr, tr, tr, ⟨tr, b15⟩, tr, tr, ⟨tr, b16⟩, tr, tr, tr, c17, tr, tr, tr, tr, tr, tr, c18, tr, tr, c19, tr, tr, tr, tr, tr⟩, tr⟩ ⟨rfl, rfl⟩
            · replace e21 := some_eq e21
              subst e21
              exact AW.dA ⟨[(1, (vc (sl 1 (csI .i64) a1))), (2, (vp 1 0)), (23, (vc (sl 1 (csI .i64) a1))), (24, (vc (.int .i64 (a1.length : Int)))), (25, (vc (.int .i64 x11))), (57, (vc (.bool false)))], [(1, (.box [(.c (sl 4 cs_Bone a0.Bones))]))]⟩ ((T2 ((0 ≤ (a1.getD x11.toNat default) ∧ (a1.getD x11.toNat default) < (a1.length : Int)) ∧ Tt ∧ T2 ((Tt ∧ ((a1.getD ((a1.getD x11.toNat default).toNat) default) != x11) = false) ∧ T2 ((Tt ∧ (decide (x11 > (0 : Int))) = false) ∧ T2 (T4 (T4 (T4 (T4 Tt)))))))) ∧ (Tt)) 28 [.no, .no, .no, .no, .no, .no, .dec false, .no, .no, .dec false] [1, 2, 23, 24, 25, 57] [1] ⟨⟨tr, tr, c14, tr, tr, tr, ⟨tr, b15⟩, tr, tr, ⟨tr, b16⟩, tr, tr, tr, tr, tr, tr, tr, tr, tr, tr, tr, tr, tr, tr, tr, tr, tr, tr, tr⟩, tr⟩ ⟨rfl, rfl⟩
        refine thenQ_normal ?_
        rcases ite2_cases h with ⟨b22, h⟩ | ⟨b22, h⟩
        · refine AW.cond_t rfl b22 ?_
          refine AW.seq (AW.rA ⟨[(4, (vc (.bool false)))], []⟩ (Tt ∧ Tt) [] [4] [] ⟨tr, tr⟩ (thenQ_normal ?_))
          refine AW.ret ?_
          refine blockQ_ret ?_
          refine thenQ_ret ?_
          refine loopQ_ret ?_
          refine blockQ_ret ?_
          refine thenQ_ret ?_
          replace h := some_eq h
          subst h
          exact ⟨.inr rfl, retOK_of [(.one (.c (.bool false)))] (by kernel_rfl) ⟨⟨rfl, tr⟩, tr⟩ (of_decide_eq_true (by kernel_rfl))⟩
        · refine AW.cond_f rfl b22 ?_
          refine AW.skip ?_
          refine blockQ_normal ?_
          refine thenQ_normal ?_
          refine AW.rA ⟨[(1, (vc (sl 1 (csI .i64) a1))), (2, (vp 1 0)), (23, (vc (sl 1 (csI .i64) a1))), (24, (vc (.int .i64 (a1.length : Int)))), (25, (vc (.int .i64 (IntKind.i64.wrap (x11 + (1 : Int))))))], [(1, (.box [(.c (sl 4 cs_Bone a0.Bones))]))]⟩ (T2 Tt) [] [1, 2, 23, 24, 25] [1] ⟨tr, tr, tr⟩ ?_
          exact loopQ_normal (k, (IntKind.i64.wrap (x11 + (1 : Int)))) h (Nat.lt_succ_self k) (Sub.keep [1, 2, 23, 24, 25] [1] (by kernel_rfl) (by kernel_rfl))
      · refine AW.cond_f rfl b12 ?_
        refine AW.exit ?_
        refine thenQ_exit ?_
        refine loopQ_exit ?_
        refine blockQ_exit ?_
        refine thenQ_normal ?_
        refine AW.seq (AW.rA ⟨[(4, (vc (.bool true)))], []⟩ (Tt ∧ Tt) [] [4] [] ⟨tr, tr⟩ (thenQ_normal ?_))
        refine AW.ret ?_
        replace h := some_eq h
        subst h
        exact ⟨.inr rfl, retOK_of [(.one (.c (.bool true)))] (by kernel_rfl) ⟨⟨rfl, tr⟩, tr⟩ (of_decide_eq_true (by kernel_rfl))⟩

/-! (impl.Vector).mirrored -/
def impl_Vector_mirrored (_K : Nat) (a0 : Vector) : Option (Vector) :=
  some (Vector.mk (a0.X.neg) a0.Y a0.Z)

theorem ok_impl_Vector_mirrored (K : Nat) (a0 : Vector) (o : (Vector)) (h : impl_Vector_mirrored K a0 = some o) : CallOK Try.prog 28 [.agg (cs_Vector a0)] [.agg (cs_Vector o)] := by
  refine callOK_of_AW Try.func28 rfl (by kernel_rfl) (Nat.le_of_ble_eq_true (by kernel_rfl)) ?_
  intro w0
  unfold impl_Vector_mirrored at h
  refine AW.seq (AW.rA ⟨[(1, (vp 1 0)), (2, (vp 2 0))], [(1, (.box [(.c (.flt .f32 a0.X.bits)), (.c (.flt .f32 a0.Y.bits)), (.c (.flt .f32 a0.Z.bits))])), (2, (.box [(.c (.flt .f32 (default : F32).bits)), (.c (.flt .f32 (default : F32).bits)), (.c (.flt .f32 (default : F32).bits))]))]⟩ (T2 Tt) [.box 1, .box 2] [1, 2] [1, 2] ⟨tr, tr, tr⟩ (thenQ_normal ?_))
  refine AW.seq (AW.rA ⟨[(2, (vp 2 0))], [(2, (.box [(.c (.flt .f32 (a0.X.neg).bits)), (.c (.flt .f32 a0.Y.bits)), (.c (.flt .f32 a0.Z.bits))]))]⟩ (Tt ∧ T4 (T4 Tt)) [] [2] [2] ⟨tr, tr, tr, tr, tr, tr, tr, tr, tr, tr⟩ (thenQ_normal ?_))
  refine AW.ret ?_
  replace h := some_eq h
  subst h
  exact ⟨.inr rfl, retOK_of [(.agg [(.c (.flt .f32 (a0.X.neg).bits)), (.c (.flt .f32 a0.Y.bits)), (.c (.flt .f32 a0.Z.bits))])] (by kernel_rfl) ⟨⟨⟨rfl, tr⟩, ⟨rfl, tr⟩, ⟨rfl, tr⟩, tr⟩, tr⟩ (of_decide_eq_true (by kernel_rfl))⟩

/-! (impl.Turn).mirrored -/
def impl_Turn_mirrored (_K : Nat) (a0 : Turn) : Option (Turn) :=
  some (Turn.mk a0.W a0.X (a0.Y.neg) (a0.Z.neg))

theorem ok_impl_Turn_mirrored (K : Nat) (a0 : Turn) (o : (Turn)) (h : impl_Turn_mirrored K a0 = some o) : CallOK Try.prog 29 [.agg (cs_Turn a0)] [.agg (cs_Turn o)] := by
  refine callOK_of_AW Try.func29 rfl (by kernel_rfl) (Nat.le_of_ble_eq_true (by kernel_rfl)) ?_
  intro w0
  unfold impl_Turn_mirrored at h
  refine AW.seq (AW.rA ⟨[(1, (vp 1 0)), (2, (vp 2 0))], [(1, (.box [(.c (.flt .f32 a0.W.bits)), (.c (.flt .f32 a0.X.bits)), (.c (.flt .f32 a0.Y.bits)), (.c (.flt .f32 a0.Z.bits))])), (2, (.box [(.c (.flt .f32 (default : F32).bits)), (.c (.flt .f32 (default : F32).bits)), (.c (.flt .f32 (default : F32).bits)), (.c (.flt .f32 (default : F32).bits))]))]⟩ (T2 Tt) [.box 1, .box 2] [1, 2] [1, 2] ⟨tr, tr, tr⟩ (thenQ_normal ?_))
  refine AW.seq (AW.rA ⟨[(2, (vp 2 0))], [(2, (.box [(.c (.flt .f32 a0.W.bits)), (.c (.flt .f32 a0.X.bits)), (.c (.flt .f32 (a0.Y.neg).bits)), (.c (.flt .f32 (a0.Z.neg).bits))]))]⟩ (T4 (T4 (T4 Tt))) [] [2] [2] ⟨tr, tr, tr, tr, tr, tr, tr, tr, tr, tr, tr, tr, tr⟩ (thenQ_normal ?_))
  refine AW.ret ?_
  replace h := some_eq h
  subst h
  exact ⟨.inr rfl, retOK_of [(.agg [(.c (.flt .f32 a0.W.bits)), (.c (.flt .f32 a0.X.bits)), (.c (.flt .f32 (a0.Y.neg).bits)), (.c (.flt .f32 (a0.Z.neg).bits))])] (by kernel_rfl) ⟨⟨⟨rfl, tr⟩, ⟨rfl, tr⟩, ⟨rfl, tr⟩, ⟨rfl, tr⟩, tr⟩, tr⟩ (of_decide_eq_true (by kernel_rfl))⟩

/-! impl.MirrorPose -/
def impl_MirrorPose_l1 (K : Nat) (a1 : Pose) (a2 : (List Int)) (v9 : (Vector)) : Nat → Int → (List Turn) → Option (Pose × Bool)
  | 0, _, _ => none
  | k + 1, x14, x15 => ite2 ((decide (x14 < (a2.length : Int)))) (chk (0 ≤ x14 ∧ x14 < (a2.length : Int)) (chk (0 ≤ (a2.getD x14.toNat default) ∧ (a2.getD x14.toNat default) < (a1.Turns.length : Int)) ((impl_Turn_mirrored K (a1.Turns.getD ((a2.getD x14.toNat default).toNat) default)).bind fun v19 => chk (0 ≤ x14 ∧ x14 < (x15.length : Int)) (impl_MirrorPose_l1 K a1 a2 v9 k (IntKind.i64.wrap (x14 + (1 : Int))) (x15.set x14.toNat v19))))) (some ((Pose.mk v9 x15), true))

def impl_MirrorPose (K : Nat) (a0 : Skeleton) (a1 : Pose) (a2 : (List Int)) : Option (Pose × Bool) :=
  (impl_IsPose K a0 a1).bind fun v1 => (ite2 ((!v1)) (some true) ((impl_IsPairing K a0 a2).bind fun v4 => some (!v4))).bind fun j6 => ite2 (j6) (some ((Pose.mk (Vector.mk (default : F32) (default : F32) (default : F32)) ([] : (List Turn))), false)) ((impl_Vector_mirrored K a1.Root).bind fun v9 => chk (0 ≤ (a2.length : Int) ∧ (a2.length : Int).toNat * 16 ≤ 140737488355328) (impl_MirrorPose_l1 K a1 a2 v9 K (0 : Int) (List.replicate (a2.length : Int).toNat (default : Turn))))

theorem ok_impl_MirrorPose (K : Nat) (a0 : Skeleton) (a1 : Pose) (a2 : (List Int)) (o : (Pose × Bool)) (h : impl_MirrorPose K a0 a1 a2 = some o) : CallOK Try.prog 13 [.agg (cs_Skeleton a0), .agg (cs_Pose a1), .one (sl 1 (csI .i64) a2)] [.agg (cs_Pose o.1), .one (.bool o.2)] := by
  refine callOK_of_AW Try.func13 rfl (by kernel_rfl) (Nat.le_of_ble_eq_true (by kernel_rfl)) ?_
  intro w0
  unfold impl_MirrorPose at h
  refine AW.seq (AW.rA ⟨[(2, (vc (sl 1 (csI .i64) a2))), (3, (vp 1 0)), (4, (vp 2 0)), (6, (vp 3 0))], [(1, (.box [(.c (sl 4 cs_Bone a0.Bones))])), (2, (.box [(.c (.flt .f32 a1.Root.X.bits)), (.c (.flt .f32 a1.Root.Y.bits)), (.c (.flt .f32 a1.Root.Z.bits)), (.c (sl 4 cs_Turn a1.Turns))])), (3, (.box [(.c (.flt .f32 (default : F32).bits)), (.c (.flt .f32 (default : F32).bits)), (.c (.flt .f32 (default : F32).bits)), .nils]))]⟩ (T4 Tt) [.box 1, .box 2, .box 3] [2, 3, 4, 6] [1, 2, 3] ⟨tr, tr, tr, tr, tr⟩ (thenQ_normal ?_))
  refine AW.seq ?_
  refine AW.seq ?_
  obtain ⟨v1, e2, h⟩ := bind_some h
  obtain ⟨j6, e7, h⟩ := bind_some h
  refine AW.join1 (s2 := ⟨[(2, (vc (sl 1 (csI .i64) a2))), (4, (vp 2 0)), (6, (vp 3 0)), (20, (vc (.bool j6)))], [(2, (.box [(.c (.flt .f32 a1.Root.X.bits)), (.c (.flt .f32 a1.Root.Y.bits)), (.c (.flt .f32 a1.Root.Z.bits)), (.c (sl 4 cs_Turn a1.Turns))])), (3, (.box [(.c (.flt .f32 (default : F32).bits)), (.c (.flt .f32 (default : F32).bits)), (.c (.flt .f32 (default : F32).bits)), .nils]))]⟩) ?_ ?_
  · rcases ite2_cases e7 with ⟨b3, e7⟩ | ⟨b3, e7⟩
    · replace e7 := some_eq e7
      subst e7
      exact AW.rA ⟨[(2, (vc (sl 1 (csI .i64) a2))), (4, (vp 2 0)), (6, (vp 3 0)), (20, (vc (.bool true)))], [(2, (.box [(.c (.flt .f32 a1.Root.X.bits)), (.c (.flt .f32 a1.Root.Y.bits)), (.c (.flt .f32 a1.Root.Z.bits)), (.c (sl 4 cs_Turn a1.Turns))])), (3, (.box [(.c (.flt .f32 (default : F32).bits)), (.c (.flt .f32 (default : F32).bits)), (.c (.flt .f32 (default : F32).bits)), .nils]))]⟩ (T2 (((((Eqc (sl 4 cs_Bone a0.Bones)) ∧ Tt) ∧ ((Eqc (.flt .f32 a1.Root.X.bits)) ∧ (Eqc (.flt .f32 a1.Root.Y.bits)) ∧ (Eqc (.flt .f32 a1.Root.Z.bits)) ∧ (Eqc (sl 4 cs_Turn a1.Turns)) ∧ Tt) ∧ Tt) ∧ CallOK Try.prog 21 [.agg (cs_Skeleton a0), .agg (cs_Pose a1)] [.one (.bool v1)]) ∧ Tt ∧ (Tt ∧ (!v1) = true) ∧ Tt ∧ T4 Tt)) [.no, .no, .call [.agg (cs_Skeleton a0), .agg (cs_Pose a1)] [.one (.bool v1)] [[.view]], .no, .dec true] [2, 4, 6, 20] [2, 3] ⟨tr, tr, ⟨⟨⟨rfl, tr⟩, ⟨rfl, rfl, rfl, rfl, tr⟩, tr⟩, ok_impl_IsPose K a0 a1 v1 e2⟩, tr, ⟨tr, b3⟩, tr, tr, tr, tr, tr, tr⟩ ⟨rfl, rfl⟩
    · obtain ⟨v4, e5, e7⟩ := bind_some e7
      replace e7 := some_eq e7
      subst e7
      exact AW.rA ⟨[(2, (vc (sl 1 (csI .i64) a2))), (4, (vp 2 0)), (6, (vp 3 0)), (20, (vc (.bool (!v4))))], [(2, (.box [(.c (.flt .f32 a1.Root.X.bits)), (.c (.flt .f32 a1.Root.Y.bits)), (.c (.flt .f32 a1.Root.Z.bits)), (.c (sl 4 cs_Turn a1.Turns))])), (3, (.box [(.c (.flt .f32 (default : F32).bits)), (.c (.flt .f32 (default : F32).bits)), (.c (.flt .f32 (default : F32).bits)), .nils]))]⟩ (T2 (((((Eqc (sl 4 cs_Bone a0.Bones)) ∧ Tt) ∧ ((Eqc (.flt .f32 a1.Root.X.bits)) ∧ (Eqc (.flt .f32 a1.Root.Y.bits)) ∧ (Eqc (.flt .f32 a1.Root.Z.bits)) ∧ (Eqc (sl 4 cs_Turn a1.Turns)) ∧ Tt) ∧ Tt) ∧ CallOK Try.prog 21 [.agg (cs_Skeleton a0), .agg (cs_Pose a1)] [.one (.bool v1)]) ∧ Tt ∧ (Tt ∧ (!v1) = false) ∧ T2 (((((Eqc (sl 4 cs_Bone a0.Bones)) ∧ Tt) ∧ (Eqc (sl 1 (csI .i64) a2)) ∧ Tt) ∧ CallOK Try.prog 15 [.agg (cs_Skeleton a0), .one (sl 1 (csI .i64) a2)] [.one (.bool v4)]) ∧ T2 Tt))) [.no, .no, .call [.agg (cs_Skeleton a0), .agg (cs_Pose a1)] [.one (.bool v1)] [[.view]], .no, .dec false, .no, .no, .call [.agg (cs_Skeleton a0), .one (sl 1 (csI .i64) a2)] [.one (.bool v4)] [[.view]]] [2, 4, 6, 20] [2, 3] ⟨tr, tr, ⟨⟨⟨rfl, tr⟩, ⟨rfl, rfl, rfl, rfl, tr⟩, tr⟩, ok_impl_IsPose K a0 a1 v1 e2⟩, tr, ⟨tr, b3⟩, tr, tr, ⟨⟨⟨rfl, tr⟩, rfl, tr⟩, ok_impl_IsPairing K a0 a2 v4 e5⟩, tr, tr, tr⟩ ⟨rfl, rfl⟩
  refine thenQ_normal ?_
  rcases ite2_cases h with ⟨b8, h⟩ | ⟨b8, h⟩
  · refine AW.cond_t rfl b8 ?_
    refine AW.seq (AW.rA ⟨[(6, (vp 3 0)), (7, (vc (.bool false)))], [(3, (.box [(.c (.flt .f32 (default : F32).bits)), (.c (.flt .f32 (default : F32).bits)), (.c (.flt .f32 (default : F32).bits)), .nils]))]⟩ (Tt ∧ T2 Tt) [] [6, 7] [3] ⟨tr, tr, tr, tr⟩ (thenQ_normal ?_))
    refine AW.ret ?_
    refine thenQ_ret ?_
    replace h := some_eq h
    subst h
    exact ⟨.inr rfl, retOK_of [(.agg [(.c (.flt .f32 (default : F32).bits)), (.c (.flt .f32 (default : F32).bits)), (.c (.flt .f32 (default : F32).bits)), .nils]), (.one (.c (.bool false)))] (by kernel_rfl) ⟨⟨⟨rfl, tr⟩, ⟨rfl, tr⟩, ⟨rfl, tr⟩, rfl, tr⟩, ⟨rfl, tr⟩, tr⟩ (of_decide_eq_true (by kernel_rfl))⟩
  · refine AW.cond_f rfl b8 ?_
    refine AW.skip ?_
    refine thenQ_normal ?_
    refine AW.seq ?_
    obtain ⟨v9, e10, h⟩ := bind_some h
    obtain ⟨c11, h⟩ := chk_some h
    refine AW.dA ⟨[(2, (vc (sl 1 (csI .i64) a2))), (4, (vp 2 0)), (6, (vp 3 0)), (8, (vp 5 0))], [(2, (.box [(.c (.flt .f32 a1.Root.X.bits)), (.c (.flt .f32 a1.Root.Y.bits)), (.c (.flt .f32 a1.Root.Z.bits)), (.c (sl 4 cs_Turn a1.Turns))])), (3, (.box [(.c (.flt .f32 (default : F32).bits)), (.c (.flt .f32 (default : F32).bits)), (.c (.flt .f32 (default : F32).bits)), .nils])), (4, (.arr false (List.replicate (a2.length : Int).toNat (default : Turn)).length 4 (gl cs_Turn (List.replicate (a2.length : Int).toNat (default : Turn))))), (5, (.box [(.c (.flt .f32 v9.X.bits)), (.c (.flt .f32 v9.Y.bits)), (.c (.flt .f32 v9.Z.bits)), (.arr 4)]))]⟩ ((T2 (((((Eqc (.flt .f32 a1.Root.X.bits)) ∧ (Eqc (.flt .f32 a1.Root.Y.bits)) ∧ (Eqc (.flt .f32 a1.Root.Z.bits)) ∧ Tt) ∧ Tt) ∧ CallOK Try.prog 28 [.agg (cs_Vector a1.Root)] [.agg (cs_Vector v9)]) ∧ T2 ((0 ≤ (a2.length : Int) ∧ (a2.length : Int) = (a2.length : Int) ∧ (((List.replicate (a2.length : Int).toNat (default : Turn)).length : Nat) : Int) = (a2.length : Int) ∧ (List.replicate (a2.length : Int).toNat (default : Turn)).length * 16 ≤ 140737488355328 ∧ ∀ i, i < (List.replicate (a2.length : Int).toNat (default : Turn)).length → zeroRow (fun _ => none) [(.c (.flt .f32 (default : F32).bits)), (.c (.flt .f32 (default : F32).bits)), (.c (.flt .f32 (default : F32).bits)), (.c (.flt .f32 (default : F32).bits))] (gl cs_Turn (List.replicate (a2.length : Int).toNat (default : Turn)) i)) ∧ T2 Tt))) ∧ (Tt ∧ Tt)) 8 [.no, .no, .call [.agg (cs_Vector a1.Root)] [.agg (cs_Vector v9)] [[.view, .view, .view]], .no, .no, .objA 4 (List.replicate (a2.length : Int).toNat (default : Turn)).length (gl cs_Turn (List.replicate (a2.length : Int).toNat (default : Turn))), .no, .box 5] [2, 4, 6, 8] [2, 3, 4, 5] ⟨⟨tr, tr, ⟨⟨⟨rfl, rfl, rfl, tr⟩, tr⟩, ok_impl_Vector_mirrored K a1.Root v9 e10⟩, tr, tr, ⟨c11.1, rfl, len_rep c11.1, rep_bytes c11.2, fun i hi => gl_zero (cs := cs_Turn) (zs := [(.c (.flt .f32 (default : F32).bits)), (.c (.flt .f32 (default : F32).bits)), (.c (.flt .f32 (default : F32).bits)), (.c (.flt .f32 (default : F32).bits))]) (n := (a2.length : Int).toNat) ⟨⟨rfl, tr⟩, ⟨rfl, tr⟩, ⟨rfl, tr⟩, ⟨rfl, tr⟩, tr⟩ i (rep_lt hi)⟩, tr, tr, tr⟩, ⟨tr, tr⟩⟩ ?_
    refine thenQ_normal ?_
    refine AW.seq ?_
    refine AW.seq (AW.rA ⟨[(4, (vp 2 0)), (6, (vp 3 0)), (8, (vp 5 0)), (29, (vc (sl 1 (csI .i64) a2))), (30, (vc (.int .i64 (a2.length : Int)))), (31, (vc (.int .i64 (0 : Int))))], [(2, (.box [(.c (.flt .f32 a1.Root.X.bits)), (.c (.flt .f32 a1.Root.Y.bits)), (.c (.flt .f32 a1.Root.Z.bits)), (.c (sl 4 cs_Turn a1.Turns))])), (3, (.box [(.c (.flt .f32 (default : F32).bits)), (.c (.flt .f32 (default : F32).bits)), (.c (.flt .f32 (default : F32).bits)), .nils])), (4, (.arr false (List.replicate (a2.length : Int).toNat (default : Turn)).length 4 (gl cs_Turn (List.replicate (a2.length : Int).toNat (default : Turn))))), (5, (.box [(.c (.flt .f32 v9.X.bits)), (.c (.flt .f32 v9.Y.bits)), (.c (.flt .f32 v9.Z.bits)), (.arr 4)]))]⟩ (Tt ∧ T2 Tt) [] [4, 6, 8, 29, 30, 31] [2, 3, 4, 5] ⟨tr, tr, tr, tr⟩ (thenQ_normal ?_))
    refine AW.block ?_
    refine AW.loopQ (σ := Nat × Int × (List Turn)) (fun p => ⟨[(4, (vp 2 0)), (6, (vp 3 0)), (8, (vp 5 0)), (29, (vc (sl 1 (csI .i64) a2))), (30, (vc (.int .i64 (a2.length : Int)))), (31, (vc (.int .i64 p.2.1)))], [(2, (.box [(.c (.flt .f32 a1.Root.X.bits)), (.c (.flt .f32 a1.Root.Y.bits)), (.c (.flt .f32 a1.Root.Z.bits)), (.c (sl 4 cs_Turn a1.Turns))])), (3, (.box [(.c (.flt .f32 (default : F32).bits)), (.c (.flt .f32 (default : F32).bits)), (.c (.flt .f32 (default : F32).bits)), .nils])), (4, (.arr false p.2.2.length 4 (gl cs_Turn p.2.2))), (5, (.box [(.c (.flt .f32 v9.X.bits)), (.c (.flt .f32 v9.Y.bits)), (.c (.flt .f32 v9.Z.bits)), (.arr 4)]))]⟩) (fun p => impl_MirrorPose_l1 K a1 a2 v9 p.1 p.2.1 p.2.2 = some o) (fun p => p.1) (K, (0 : Int), (List.replicate (a2.length : Int).toNat (default : Turn))) h ?_
    clear h
    rintro ⟨k, x14, x15⟩ h
    replace h : impl_MirrorPose_l1 K a1 a2 v9 k x14 x15 = some o := h
    show AW _ _ (⟨[(4, (vp 2 0)), (6, (vp 3 0)), (8, (vp 5 0)), (29, (vc (sl 1 (csI .i64) a2))), (30, (vc (.int .i64 (a2.length : Int)))), (31, (vc (.int .i64 x14)))], [(2, (.box [(.c (.flt .f32 a1.Root.X.bits)), (.c (.flt .f32 a1.Root.Y.bits)), (.c (.flt .f32 a1.Root.Z.bits)), (.c (sl 4 cs_Turn a1.Turns))])), (3, (.box [(.c (.flt .f32 (default : F32).bits)), (.c (.flt .f32 (default : F32).bits)), (.c (.flt .f32 (default : F32).bits)), .nils])), (4, (.arr false x15.length 4 (gl cs_Turn x15))), (5, (.box [(.c (.flt .f32 v9.X.bits)), (.c (.flt .f32 v9.Y.bits)), (.c (.flt .f32 v9.Z.bits)), (.arr 4)]))]⟩ : St) _
    obtain _ | k := k
    · rw [impl_MirrorPose_l1] at h; cases h
    rw [impl_MirrorPose_l1] at h
    refine AW.seq (AW.rA ⟨[(4, (vp 2 0)), (6, (vp 3 0)), (8, (vp 5 0)), (29, (vc (sl 1 (csI .i64) a2))), (30, (vc (.int .i64 (a2.length : Int)))), (31, (vc (.int .i64 x14))), (32, (vc (.bool (decide (x14 < (a2.length : Int))))))], [(2, (.box [(.c (.flt .f32 a1.Root.X.bits)), (.c (.flt .f32 a1.Root.Y.bits)), (.c (.flt .f32 a1.Root.Z.bits)), (.c (sl 4 cs_Turn a1.Turns))])), (3, (.box [(.c (.flt .f32 (default : F32).bits)), (.c (.flt .f32 (default : F32).bits)), (.c (.flt .f32 (default : F32).bits)), .nils])), (4, (.arr false x15.length 4 (gl cs_Turn x15))), (5, (.box [(.c (.flt .f32 v9.X.bits)), (.c (.flt .f32 v9.Y.bits)), (.c (.flt .f32 v9.Z.bits)), (.arr 4)]))]⟩ (Tt ∧ Tt) [] [4, 6, 8, 29, 30, 31, 32] [2, 3, 4, 5] ⟨tr, tr⟩ (thenQ_normal ?_))
    refine AW.seq ?_
    rcases ite2_cases h with ⟨b16, h⟩ | ⟨b16, h⟩
    · refine AW.cond_t rfl b16 ?_
      refine AW.skip ?_
      refine thenQ_normal ?_
      refine AW.seq ?_
      refine AW.block ?_
      refine AW.seq ?_
      obtain ⟨c17, h⟩ := chk_some h
      refine AW.rA ⟨[(4, (vp 2 0)), (6, (vp 3 0)), (8, (vp 5 0)), (9, (vc (.int .i64 x14))), (10, (vc (.int .i64 (a2.getD x14.toNat default)))), (29, (vc (sl 1 (csI .i64) a2))), (30, (vc (.int .i64 (a2.length : Int)))), (31, (vc (.int .i64 x14)))], [(2, (.box [(.c (.flt .f32 a1.Root.X.bits)), (.c (.flt .f32 a1.Root.Y.bits)), (.c (.flt .f32 a1.Root.Z.bits)), (.c (sl 4 cs_Turn a1.Turns))])), (3, (.box [(.c (.flt .f32 (default : F32).bits)), (.c (.flt .f32 (default : F32).bits)), (.c (.flt .f32 (default : F32).bits)), .nils])), (4, (.arr false x15.length 4 (gl cs_Turn x15))), (5, (.box [(.c (.flt .f32 v9.X.bits)), (.c (.flt .f32 v9.Y.bits)), (.c (.flt .f32 v9.Z.bits)), (.arr 4)]))]⟩ (Tt ∧ (0 ≤ x14 ∧ x14 < (a2.length : Int)) ∧ Tt ∧ T2 Tt) [] [4, 6, 8, 9, 10, 29, 30, 31] [2, 3, 4, 5] ⟨tr, c17, tr, tr, tr, tr⟩ ?_
      refine thenQ_normal ?_
      obtain ⟨c18, h⟩ := chk_some h
      obtain ⟨v19, e20, h⟩ := bind_some h
      obtain ⟨c21, h⟩ := chk_some h
      refine AW.dA ⟨[(4, (vp 2 0)), (6, (vp 3 0)), (8, (vp 5 0)), (29, (vc (sl 1 (csI .i64) a2))), (30, (vc (.int .i64 (a2.length : Int)))), (31, (vc (.int .i64 x14)))], [(2, (.box [(.c (.flt .f32 a1.Root.X.bits)), (.c (.flt .f32 a1.Root.Y.bits)), (.c (.flt .f32 a1.Root.Z.bits)), (.c (sl 4 cs_Turn a1.Turns))])), (3, (.box [(.c (.flt .f32 (default : F32).bits)), (.c (.flt .f32 (default : F32).bits)), (.c (.flt .f32 (default : F32).bits)), .nils])), (4, (.arr false (x15.set x14.toNat v19).length 4 (gl cs_Turn (x15.set x14.toNat v19)))), (5, (.box [(.c (.flt .f32 v9.X.bits)), (.c (.flt .f32 v9.Y.bits)), (.c (.flt .f32 v9.Z.bits)), (.arr 4)]))]⟩ ((T2 (T4 ((0 ≤ (a2.getD x14.toNat default) ∧ (a2.getD x14.toNat default) < (a1.Turns.length : Int)) ∧ Tt ∧ ((((Eqc (.flt .f32 ((a1.Turns.getD ((a2.getD x14.toNat default).toNat) default).W).bits)) ∧ (Eqc (.flt .f32 ((a1.Turns.getD ((a2.getD x14.toNat default).toNat) default).X).bits)) ∧ (Eqc (.flt .f32 ((a1.Turns.getD ((a2.getD x14.toNat default).toNat) default).Y).bits)) ∧ (Eqc (.flt .f32 ((a1.Turns.getD ((a2.getD x14.toNat default).toNat) default).Z).bits)) ∧ Tt) ∧ Tt) ∧ CallOK Try.prog 29 [.agg (cs_Turn (a1.Turns.getD ((a2.getD x14.toNat default).toNat) default))] [.agg (cs_Turn v19)]) ∧ (0 ≤ x14 ∧ x14 < (x15.length : Int)) ∧ Tt))) ∧ (((x15.set x14.toNat v19).length = x15.length ∧ SetOb x15.length 4 x14.toNat 0 4 (gl cs_Turn x15) (gl cs_Turn (x15.set x14.toNat v19)) ∧ ((List.range 4).map fun j => (cs_Turn v19).getD (0 + j) .nilptr) = ((List.range 4).map fun j => gl cs_Turn (x15.set x14.toNat v19) x14.toNat (0 + j)) ∧ ((((.flt .f32 v19.W.bits) : C) = (.flt .f32 v19.W.bits) ∧ Tt) ∧ (((.flt .f32 v19.X.bits) : C) = (.flt .f32 v19.X.bits) ∧ Tt) ∧ (((.flt .f32 v19.Y.bits) : C) = (.flt .f32 v19.Y.bits) ∧ Tt) ∧ (((.flt .f32 v19.Z.bits) : C) = (.flt .f32 v19.Z.bits) ∧ Tt) ∧ Tt) ∧ (false = true → ∀ j, j < 4 → isSeq (gl cs_Turn x15 x14.toNat (0 + j)) = false ∧ isSeq (gl cs_Turn (x15.set x14.toNat v19) x14.toNat (0 + j)) = false)) ∧ Tt)) 10 [.no, .no, .no, .no, .no, .no, .no, .no, .call [.agg (cs_Turn (a1.Turns.getD ((a2.getD x14.toNat default).toNat) default))] [.agg (cs_Turn v19)] [[.view, .view, .view, .view]], .no, .set (x15.set x14.toNat v19).length (gl cs_Turn (x15.set x14.toNat v19)) ((List.range 4).map fun j => (cs_Turn v19).getD (0 + j) .nilptr)] [4, 6, 8, 29, 30, 31] [2, 3, 4, 5] ⟨⟨tr, tr, tr, tr, tr, tr, c18, tr, ⟨⟨⟨rfl, rfl, rfl, rfl, tr⟩, tr⟩, ok_impl_Turn_mirrored K (a1.Turns.getD ((a2.getD x14.toNat default).toNat) default) v19 e20⟩, c21, tr⟩, ⟨⟨List.length_set, gl_set, (gl_atp (lt_of_bound c21)).symm, ⟨⟨rfl, tr⟩, ⟨rfl, tr⟩, ⟨rfl, tr⟩, ⟨rfl, tr⟩, tr⟩, (fun h => nomatch h)⟩, tr⟩⟩ ?_
      refine blockQ_normal ?_
      refine thenQ_normal ?_
      refine AW.rA ⟨[(4, (vp 2 0)), (6, (vp 3 0)), (8, (vp 5 0)), (29, (vc (sl 1 (csI .i64) a2))), (30, (vc (.int .i64 (a2.length : Int)))), (31, (vc (.int .i64 (IntKind.i64.wrap (x14 + (1 : Int))))))], [(2, (.box [(.c (.flt .f32 a1.Root.X.bits)), (.c (.flt .f32 a1.Root.Y.bits)), (.c (.flt .f32 a1.Root.Z.bits)), (.c (sl 4 cs_Turn a1.Turns))])), (3, (.box [(.c (.flt .f32 (default : F32).bits)), (.c (.flt .f32 (default : F32).bits)), (.c (.flt .f32 (default : F32).bits)), .nils])), (4, (.arr false (x15.set x14.toNat v19).length 4 (gl cs_Turn (x15.set x14.toNat v19)))), (5, (.box [(.c (.flt .f32 v9.X.bits)), (.c (.flt .f32 v9.Y.bits)), (.c (.flt .f32 v9.Z.bits)), (.arr 4)]))]⟩ (T2 Tt) [] [4, 6, 8, 29, 30, 31] [2, 3, 4, 5] ⟨tr, tr, tr⟩ ?_
      exact loopQ_normal (k, (IntKind.i64.wrap (x14 + (1 : Int))), (x15.set x14.toNat v19)) h (Nat.lt_succ_self k) (Sub.keep [4, 6, 8, 29, 30, 31] [2, 3, 4, 5] (by kernel_rfl) (by kernel_rfl))
    · refine AW.cond_f rfl b16 ?_
      refine AW.exit ?_
      refine thenQ_exit ?_
      refine loopQ_exit ?_
      refine blockQ_exit ?_
      refine thenQ_normal ?_
      refine AW.seq (AW.rA ⟨[(6, (vp 3 0)), (7, (vc (.bool true)))], [(3, (.box [(.c (.flt .f32 v9.X.bits)), (.c (.flt .f32 v9.Y.bits)), (.c (.flt .f32 v9.Z.bits)), (.arr 4)])), (4, (.arr false x15.length 4 (gl cs_Turn x15)))]⟩ (Tt ∧ T2 Tt) [] [6, 7] [3, 4] ⟨tr, tr, tr, tr⟩ (thenQ_normal ?_))
      refine AW.ret ?_
      replace h := some_eq h
      subst h
      exact ⟨.inr rfl, retOK_of [(.agg [(.c (.flt .f32 v9.X.bits)), (.c (.flt .f32 v9.Y.bits)), (.c (.flt .f32 v9.Z.bits)), (.arr 4)]), (.one (.c (.bool true)))] (by kernel_rfl) ⟨⟨⟨rfl, tr⟩, ⟨rfl, tr⟩, ⟨rfl, tr⟩, rfl, tr⟩, ⟨rfl, tr⟩, tr⟩ (of_decide_eq_true (by kernel_rfl))⟩

/-! slices.Clone[[]impl.Bone,impl.Bone] -/
def slices_Clone_impl_Bone_impl_Bone (_K : Nat) (a0 : (List Bone)) : Option ((List Bone)) :=
  chk ((([] : List Bone).length + a0.length) * 24 ≤ 140737488355328) (some (([] : List Bone) ++ a0))

theorem ok_slices_Clone_impl_Bone_impl_Bone (K : Nat) (a0 : (List Bone)) (o : ((List Bone))) (h : slices_Clone_impl_Bone_impl_Bone K a0 = some o) : CallOK Try.prog 30 [.one (sl 4 cs_Bone a0)] [.one (sl 4 cs_Bone o)] := by
  refine callOK_of_AW Try.func30 rfl (by kernel_rfl) (Nat.le_of_ble_eq_true (by kernel_rfl)) ?_
  intro w0
  unfold slices_Clone_impl_Bone_impl_Bone at h
  refine AW.seq (AW.rA ⟨[(0, (vc (sl 4 cs_Bone a0)))], []⟩ (Tt ∧ Tt) [] [0] [] ⟨tr, tr⟩ (thenQ_normal ?_))
  refine AW.seq ?_
  refine AW.seq ?_
  refine AW.nilA (d := 4) (n := a0.length) 1 [.no] [0] [] (s' := ⟨[(0, (vc (sl 4 cs_Bone a0)))], []⟩) (ob := Tt ∧ Tt) (by kernel_rfl) ⟨tr, tr⟩ ?_
  intro b2 b1
  cases b2
  · refine thenQ_normal ?_
    refine AW.cond_f (b := false) rfl rfl ?_
    refine AW.skip ?_
    refine thenQ_normal ?_
    refine AW.seq ?_
    obtain ⟨c3, h⟩ := chk_some h
    refine AW.rA ⟨[(2, (.v (.one (.lst 2 (([] : List Bone) ++ a0).length 4 (gl cs_Bone (([] : List Bone) ++ a0))))))], [(2, (.lst (([] : List Bone) ++ a0).length 4 (gl cs_Bone (([] : List Bone) ++ a0))))]⟩ ((([] : List Bone).length = 0 ∧ Tt) ∧ Tt ∧ ((([] : List Bone) ++ a0).length = ([] : List Bone).length + a0.length ∧ AppOb (([] : List Bone).length) (a0.length) 4 (gl cs_Bone ([] : List Bone)) (gl cs_Bone a0) (gl cs_Bone (([] : List Bone) ++ a0)) ∧ (∀ i j, i < a0.length → j < 4 → scalarC (gl cs_Bone a0 i j)) ∧ (([] : List Bone).length + a0.length) * 24 ≤ 140737488355328) ∧ Tt ∧ Tt) [.obj 1 ([] : List Bone).length (gl cs_Bone ([] : List Bone)), .no, .obj 2 (([] : List Bone) ++ a0).length (gl cs_Bone (([] : List Bone) ++ a0))] [2] [2] ⟨⟨rfl, tr⟩, tr, ⟨List.length_append, gl_append, gl_scalar sc_Bone _, c3⟩, tr, tr⟩ ?_
    refine thenQ_normal ?_
    refine AW.ret ?_
    replace h := some_eq h
    subst h
    exact ⟨.inr rfl, retOK_of [(.one (.lst 2 (([] : List Bone) ++ a0).length 4 (gl cs_Bone (([] : List Bone) ++ a0))))] (by kernel_rfl) ⟨rfl, tr⟩ (of_decide_eq_true (by kernel_rfl))⟩
  · obtain rfl := List.eq_nil_of_length_eq_zero (b1 rfl)
    replace h : some ([] : (List Bone)) = some o := by simpa [chk] using h
    refine thenQ_normal ?_
    refine AW.cond_t (b := true) rfl rfl ?_
    refine AW.seq (AW.rA ⟨[(2, (.v (.one .nils)))], []⟩ (Tt ∧ Tt) [] [2] [] ⟨tr, tr⟩ (thenQ_normal ?_))
    refine AW.ret ?_
    refine thenQ_ret ?_
    replace h := some_eq h
    subst h
    exact ⟨.inr rfl, retOK_of [(.one .nils)] (by kernel_rfl) ⟨rfl, tr⟩ (of_decide_eq_true (by kernel_rfl))⟩

/-! impl.MirrorSkeleton -/
def impl_MirrorSkeleton_l1 (K : Nat) (a0 : Skeleton) (a1 : (List Int)) : Nat → Int → (List Bone) → Option (Skeleton × Bool)
  | 0, _, _ => none
  | k + 1, x8, x9 => ite2 ((decide (x8 < (a1.length : Int)))) (chk (0 ≤ x8 ∧ x8 < (a1.length : Int)) (chk (0 ≤ (a1.getD x8.toNat default) ∧ (a1.getD x8.toNat default) < (a0.Bones.length : Int)) ((impl_Vector_mirrored K ((a0.Bones.getD ((a1.getD x8.toNat default).toNat) default).Offset)).bind fun v13 => chk (0 ≤ x8 ∧ x8 < (x9.length : Int)) ((some (x9.set x8.toNat (Bone.mk ((x9.getD x8.toNat default).Parent) v13))).bind fun y16 => impl_MirrorSkeleton_l1 K a0 a1 k (IntKind.i64.wrap (x8 + (1 : Int))) y16)))) (some ((Skeleton.mk x9), true))

def impl_MirrorSkeleton (K : Nat) (a0 : Skeleton) (a1 : (List Int)) : Option (Skeleton × Bool) :=
  (impl_IsPairing K a0 a1).bind fun v1 => ite2 ((!v1)) (some ((Skeleton.mk ([] : (List Bone))), false)) ((slices_Clone_impl_Bone_impl_Bone K a0.Bones).bind fun v4 => impl_MirrorSkeleton_l1 K a0 a1 K (0 : Int) v4)

theorem ok_impl_MirrorSkeleton (K : Nat) (a0 : Skeleton) (a1 : (List Int)) (o : (Skeleton × Bool)) (h : impl_MirrorSkeleton K a0 a1 = some o) : CallOK Try.prog 14 [.agg (cs_Skeleton a0), .one (sl 1 (csI .i64) a1)] [.agg (cs_Skeleton o.1), .one (.bool o.2)] := by
  refine callOK_of_AW Try.func14 rfl (by kernel_rfl) (Nat.le_of_ble_eq_true (by kernel_rfl)) ?_
  intro w0
  unfold impl_MirrorSkeleton at h
  refine AW.seq (AW.rA ⟨[(1, (vc (sl 1 (csI .i64) a1))), (2, (vp 1 0)), (4, (vp 2 0))], [(1, (.box [(.c (sl 4 cs_Bone a0.Bones))])), (2, (.box [.nils]))]⟩ (Tt ∧ T2 Tt) [.box 1, .box 2] [1, 2, 4] [1, 2] ⟨tr, tr, tr, tr⟩ (thenQ_normal ?_))
  refine AW.seq ?_
  refine AW.seq ?_
  obtain ⟨v1, e2, h⟩ := bind_some h
  refine AW.rA ⟨[(1, (vc (sl 1 (csI .i64) a1))), (2, (vp 1 0)), (4, (vp 2 0)), (12, (vc (.bool (!v1))))], [(1, (.box [(.c (sl 4 cs_Bone a0.Bones))])), (2, (.box [.nils]))]⟩ (T2 (((((Eqc (sl 4 cs_Bone a0.Bones)) ∧ Tt) ∧ (Eqc (sl 1 (csI .i64) a1)) ∧ Tt) ∧ CallOK Try.prog 15 [.agg (cs_Skeleton a0), .one (sl 1 (csI .i64) a1)] [.one (.bool v1)]) ∧ Tt ∧ Tt)) [.no, .no, .call [.agg (cs_Skeleton a0), .one (sl 1 (csI .i64) a1)] [.one (.bool v1)] [[.view]]] [1, 2, 4, 12] [1, 2] ⟨tr, tr, ⟨⟨⟨rfl, tr⟩, rfl, tr⟩, ok_impl_IsPairing K a0 a1 v1 e2⟩, tr, tr⟩ ?_
  refine thenQ_normal ?_
  rcases ite2_cases h with ⟨b3, h⟩ | ⟨b3, h⟩
  · refine AW.cond_t rfl b3 ?_
    refine AW.seq (AW.rA ⟨[(4, (vp 2 0)), (5, (vc (.bool false)))], [(2, (.box [.nils]))]⟩ (Tt ∧ T2 Tt) [] [4, 5] [2] ⟨tr, tr, tr, tr⟩ (thenQ_normal ?_))
    refine AW.ret ?_
    refine thenQ_ret ?_
    replace h := some_eq h
    subst h
    exact ⟨.inr rfl, retOK_of [(.agg [.nils]), (.one (.c (.bool false)))] (by kernel_rfl) ⟨⟨rfl, tr⟩, ⟨rfl, tr⟩, tr⟩ (of_decide_eq_true (by kernel_rfl))⟩
  · refine AW.cond_f rfl b3 ?_
    refine AW.skip ?_
    refine thenQ_normal ?_
    refine AW.seq ?_
    obtain ⟨v4, e5, h⟩ := bind_some h
    refine AW.rA ⟨[(1, (vc (sl 1 (csI .i64) a1))), (2, (vp 1 0)), (4, (vp 2 0)), (6, (vp 4 0))], [(1, (.box [(.c (sl 4 cs_Bone a0.Bones))])), (2, (.box [.nils])), (3, (.arr true v4.length 4 (gl cs_Bone v4))), (4, (.box [(.arr 3)]))]⟩ (T2 ((((Eqc (sl 4 cs_Bone a0.Bones)) ∧ Tt) ∧ CallOK Try.prog 30 [.one (sl 4 cs_Bone a0.Bones)] [.one (sl 4 cs_Bone v4)]) ∧ Tt ∧ T2 Tt)) [.no, .no, .call [.one (sl 4 cs_Bone a0.Bones)] [.one (sl 4 cs_Bone v4)] [[.own 3]], .no, .box 4] [1, 2, 4, 6] [1, 2, 3, 4] ⟨tr, tr, ⟨⟨rfl, tr⟩, ok_slices_Clone_impl_Bone_impl_Bone K a0.Bones v4 e5⟩, tr, tr, tr, tr⟩ ?_
    refine thenQ_normal ?_
    refine AW.seq ?_
    refine AW.seq (AW.rA ⟨[(2, (vp 1 0)), (4, (vp 2 0)), (6, (vp 4 0)), (18, (vc (sl 1 (csI .i64) a1))), (19, (vc (.int .i64 (a1.length : Int)))), (20, (vc (.int .i64 (0 : Int))))], [(1, (.box [(.c (sl 4 cs_Bone a0.Bones))])), (2, (.box [.nils])), (3, (.arr true v4.length 4 (gl cs_Bone v4))), (4, (.box [(.arr 3)]))]⟩ (Tt ∧ T2 Tt) [] [2, 4, 6, 18, 19, 20] [1, 2, 3, 4] ⟨tr, tr, tr, tr⟩ (thenQ_normal ?_))
    refine AW.block ?_
    refine AW.loopQ (σ := Nat × Int × (List Bone)) (fun p => ⟨[(2, (vp 1 0)), (4, (vp 2 0)), (6, (vp 4 0)), (18, (vc (sl 1 (csI .i64) a1))), (19, (vc (.int .i64 (a1.length : Int)))), (20, (vc (.int .i64 p.2.1)))], [(1, (.box [(.c (sl 4 cs_Bone a0.Bones))])), (2, (.box [.nils])), (3, (.arr true p.2.2.length 4 (gl cs_Bone p.2.2))), (4, (.box [(.arr 3)]))]⟩) (fun p => impl_MirrorSkeleton_l1 K a0 a1 p.1 p.2.1 p.2.2 = some o) (fun p => p.1) (K, (0 : Int), v4) h ?_
    clear h
    rintro ⟨k, x8, x9⟩ h
    replace h : impl_MirrorSkeleton_l1 K a0 a1 k x8 x9 = some o := h
    show AW _ _ (⟨[(2, (vp 1 0)), (4, (vp 2 0)), (6, (vp 4 0)), (18, (vc (sl 1 (csI .i64) a1))), (19, (vc (.int .i64 (a1.length : Int)))), (20, (vc (.int .i64 x8)))], [(1, (.box [(.c (sl 4 cs_Bone a0.Bones))])), (2, (.box [.nils])), (3, (.arr true x9.length 4 (gl cs_Bone x9))), (4, (.box [(.arr 3)]))]⟩ : St) _
    obtain _ | k := k
    · rw [impl_MirrorSkeleton_l1] at h; cases h
    rw [impl_MirrorSkeleton_l1] at h
    refine AW.seq (AW.rA ⟨[(2, (vp 1 0)), (4, (vp 2 0)), (6, (vp 4 0)), (18, (vc (sl 1 (csI .i64) a1))), (19, (vc (.int .i64 (a1.length : Int)))), (20, (vc (.int .i64 x8))), (21, (vc (.bool (decide (x8 < (a1.length : Int))))))], [(1, (.box [(.c (sl 4 cs_Bone a0.Bones))])), (2, (.box [.nils])), (3, (.arr true x9.length 4 (gl cs_Bone x9))), (4, (.box [(.arr 3)]))]⟩ (Tt ∧ Tt) [] [2, 4, 6, 18, 19, 20, 21] [1, 2, 3, 4] ⟨tr, tr⟩ (thenQ_normal ?_))
    refine AW.seq ?_
    rcases ite2_cases h with ⟨b10, h⟩ | ⟨b10, h⟩
    · refine AW.cond_t rfl b10 ?_
      refine AW.skip ?_
      refine thenQ_normal ?_
      refine AW.seq ?_
      refine AW.block ?_
      refine AW.seq ?_
      obtain ⟨c11, h⟩ := chk_some h
      refine AW.rA ⟨[(2, (vp 1 0)), (4, (vp 2 0)), (6, (vp 4 0)), (7, (vc (.int .i64 x8))), (8, (vc (.int .i64 (a1.getD x8.toNat default)))), (18, (vc (sl 1 (csI .i64) a1))), (19, (vc (.int .i64 (a1.length : Int)))), (20, (vc (.int .i64 x8)))], [(1, (.box [(.c (sl 4 cs_Bone a0.Bones))])), (2, (.box [.nils])), (3, (.arr true x9.length 4 (gl cs_Bone x9))), (4, (.box [(.arr 3)]))]⟩ (Tt ∧ (0 ≤ x8 ∧ x8 < (a1.length : Int)) ∧ Tt ∧ T2 Tt) [] [2, 4, 6, 7, 8, 18, 19, 20] [1, 2, 3, 4] ⟨tr, c11, tr, tr, tr, tr⟩ ?_
      refine thenQ_normal ?_
      obtain ⟨c12, h⟩ := chk_some h
      obtain ⟨v13, e14, h⟩ := bind_some h
      obtain ⟨c15, h⟩ := chk_some h
      obtain ⟨y16, e17, h⟩ := bind_some h
      refine AW.dA ⟨[(2, (vp 1 0)), (4, (vp 2 0)), (6, (vp 4 0)), (18, (vc (sl 1 (csI .i64) a1))), (19, (vc (.int .i64 (a1.length : Int)))), (20, (vc (.int .i64 x8)))], [(1, (.box [(.c (sl 4 cs_Bone a0.Bones))])), (2, (.box [.nils])), (3, (.arr true y16.length 4 (gl cs_Bone y16))), (4, (.box [(.arr 3)]))]⟩ ((T2 (T4 ((0 ≤ (a1.getD x8.toNat default) ∧ (a1.getD x8.toNat default) < (a0.Bones.length : Int)) ∧ T2 (((((((.flt .f32 (((a0.Bones.getD ((a1.getD x8.toNat default).toNat) default).Offset).X).bits) : C) = (.flt .f32 (((a0.Bones.getD ((a1.getD x8.toNat default).toNat) default).Offset).X).bits)) ∧ (((.flt .f32 (((a0.Bones.getD ((a1.getD x8.toNat default).toNat) default).Offset).Y).bits) : C) = (.flt .f32 (((a0.Bones.getD ((a1.getD x8.toNat default).toNat) default).Offset).Y).bits)) ∧ (((.flt .f32 (((a0.Bones.getD ((a1.getD x8.toNat default).toNat) default).Offset).Z).bits) : C) = (.flt .f32 (((a0.Bones.getD ((a1.getD x8.toNat default).toNat) default).Offset).Z).bits)) ∧ Tt) ∧ Tt) ∧ CallOK Try.prog 28 [.agg (cs_Vector ((a0.Bones.getD ((a1.getD x8.toNat default).toNat) default).Offset))] [.agg (cs_Vector v13)]) ∧ (0 ≤ x8 ∧ x8 < (x9.length : Int)) ∧ Tt ∧ Tt)))) ∧ ((y16.length = x9.length ∧ SetOb x9.length 4 x8.toNat 1 3 (gl cs_Bone x9) (gl cs_Bone y16) ∧ ((List.range 3).map fun j => (cs_Bone (Bone.mk ((x9.getD x8.toNat default).Parent) v13)).getD (1 + j) .nilptr) = ((List.range 3).map fun j => gl cs_Bone y16 x8.toNat (1 + j)) ∧ ((((.flt .f32 v13.X.bits) : C) = (.flt .f32 v13.X.bits) ∧ Tt) ∧ (((.flt .f32 v13.Y.bits) : C) = (.flt .f32 v13.Y.bits) ∧ Tt) ∧ (((.flt .f32 v13.Z.bits) : C) = (.flt .f32 v13.Z.bits) ∧ Tt) ∧ Tt) ∧ (true = true → ∀ j, j < 3 → isSeq (gl cs_Bone x9 x8.toNat (1 + j)) = false ∧ isSeq (gl cs_Bone y16 x8.toNat (1 + j)) = false)) ∧ Tt)) 12 [.no, .no, .no, .no, .no, .no, .no, .no, .no, .call [.agg (cs_Vector ((a0.Bones.getD ((a1.getD x8.toNat default).toNat) default).Offset))] [.agg (cs_Vector v13)] [[.view, .view, .view]], .no, .no, .set y16.length (gl cs_Bone y16) ((List.range 3).map fun j => (cs_Bone (Bone.mk ((x9.getD x8.toNat default).Parent) v13)).getD (1 + j) .nilptr)] [2, 4, 6, 18, 19, 20] [1, 2, 3, 4] ⟨⟨tr, tr, tr, tr, tr, tr, c12, tr, tr, ⟨⟨⟨rfl, rfl, rfl, tr⟩, tr⟩, ok_impl_Vector_mirrored K ((a0.Bones.getD ((a1.getD x8.toNat default).toNat) default).Offset) v13 e14⟩, c15, tr, tr⟩, ⟨(letP (some_eq e17) (fun z => (z.length = x9.length ∧ SetOb x9.length 4 x8.toNat 1 3 (gl cs_Bone x9) (gl cs_Bone z) ∧ ((List.range 3).map fun j => (cs_Bone (Bone.mk ((x9.getD x8.toNat default).Parent) v13)).getD (1 + j) .nilptr) = ((List.range 3).map fun j => gl cs_Bone z x8.toNat (1 + j)) ∧ ((((.flt .f32 v13.X.bits) : C) = (.flt .f32 v13.X.bits) ∧ Tt) ∧ (((.flt .f32 v13.Y.bits) : C) = (.flt .f32 v13.Y.bits) ∧ Tt) ∧ (((.flt .f32 v13.Z.bits) : C) = (.flt .f32 v13.Z.bits) ∧ Tt) ∧ Tt) ∧ (true = true → ∀ j, j < 3 → isSeq (gl cs_Bone x9 x8.toNat (1 + j)) = false ∧ isSeq (gl cs_Bone z x8.toNat (1 + j)) = false))) ⟨List.length_set, gl_setp (fun j hj hn => match j, hj, hn with | 0, _, _ => rfl | 1, _, hn => absurd ⟨by decide, by decide⟩ hn | 2, _, hn => absurd ⟨by decide, by decide⟩ hn | 3, _, hn => absurd ⟨by decide, by decide⟩ hn) (lt_of_bound c15), (gl_atp (lt_of_bound c15)).symm, ⟨⟨rfl, tr⟩, ⟨rfl, tr⟩, ⟨rfl, tr⟩, tr⟩, (fun _ j hj => match j, hj with | 0, _ => ⟨rfl, rfl⟩ | 1, _ => ⟨rfl, rfl⟩ | 2, _ => ⟨rfl, rfl⟩)⟩), tr⟩⟩ ?_
      refine blockQ_normal ?_
      refine thenQ_normal ?_
      refine AW.rA ⟨[(2, (vp 1 0)), (4, (vp 2 0)), (6, (vp 4 0)), (18, (vc (sl 1 (csI .i64) a1))), (19, (vc (.int .i64 (a1.length : Int)))), (20, (vc (.int .i64 (IntKind.i64.wrap (x8 + (1 : Int))))))], [(1, (.box [(.c (sl 4 cs_Bone a0.Bones))])), (2, (.box [.nils])), (3, (.arr true y16.length 4 (gl cs_Bone y16))), (4, (.box [(.arr 3)]))]⟩ (T2 Tt) [] [2, 4, 6, 18, 19, 20] [1, 2, 3, 4] ⟨tr, tr, tr⟩ ?_
      exact loopQ_normal (k, (IntKind.i64.wrap (x8 + (1 : Int))), y16) h (Nat.lt_succ_self k) (Sub.keep [2, 4, 6, 18, 19, 20] [1, 2, 3, 4] (by kernel_rfl) (by kernel_rfl))
    · refine AW.cond_f rfl b10 ?_
      refine AW.exit ?_
      refine thenQ_exit ?_
      refine loopQ_exit ?_
      refine blockQ_exit ?_
      refine thenQ_normal ?_
      refine AW.seq (AW.rA ⟨[(4, (vp 2 0)), (5, (vc (.bool true)))], [(2, (.box [(.arr 3)])), (3, (.arr true x9.length 4 (gl cs_Bone x9)))]⟩ (Tt ∧ T2 Tt) [] [4, 5] [2, 3] ⟨tr, tr, tr, tr⟩ (thenQ_normal ?_))
      refine AW.ret ?_
      replace h := some_eq h
      subst h
      exact ⟨.inr rfl, retOK_of [(.agg [(.arr 3)]), (.one (.c (.bool true)))] (by kernel_rfl) ⟨⟨rfl, tr⟩, ⟨rfl, tr⟩, tr⟩ (of_decide_eq_true (by kernel_rfl))⟩

/-! impl.lesser -/
def impl_lesser (_K : Nat) (a0 : F32) (a1 : F32) : Option (F32) :=
  ite2 ((a1.lt' a0)) (some a1) (some a0)

theorem ok_impl_lesser (K : Nat) (a0 : F32) (a1 : F32) (o : (F32)) (h : impl_lesser K a0 a1 = some o) : CallOK Try.prog 33 [.one (.flt .f32 a0.bits), .one (.flt .f32 a1.bits)] [.one (.flt .f32 o.bits)] := by
  refine callOK_of_AW Try.func33 rfl (by kernel_rfl) (Nat.le_of_ble_eq_true (by kernel_rfl)) ?_
  intro w0
  unfold impl_lesser at h
  refine AW.seq (AW.rA ⟨[(0, (vc (.flt .f32 a0.bits))), (1, (vc (.flt .f32 a1.bits)))], []⟩ (Tt ∧ Tt) [] [0, 1] [] ⟨tr, tr⟩ (thenQ_normal ?_))
  refine AW.seq ?_
  refine AW.seq (AW.rA ⟨[(0, (vc (.flt .f32 a0.bits))), (1, (vc (.flt .f32 a1.bits))), (7, (vc (.bool (a1.lt' a0))))], []⟩ (Tt ∧ T2 Tt) [] [0, 1, 7] [] ⟨tr, tr, tr, tr⟩ (thenQ_normal ?_))
  rcases ite2_cases h with ⟨b1, h⟩ | ⟨b1, h⟩
  · refine AW.cond_t rfl b1 ?_
    refine AW.seq (AW.rA ⟨[(4, (vc (.flt .f32 a1.bits)))], []⟩ (T2 Tt) [] [4] [] ⟨tr, tr, tr⟩ (thenQ_normal ?_))
    refine AW.ret ?_
    refine thenQ_ret ?_
    replace h := some_eq h
    subst h
    exact ⟨.inr rfl, retOK_of [(.one (.c (.flt .f32 a1.bits)))] (by kernel_rfl) ⟨⟨rfl, tr⟩, tr⟩ (of_decide_eq_true (by kernel_rfl))⟩
  · refine AW.cond_f rfl b1 ?_
    refine AW.skip ?_
    refine thenQ_normal ?_
    refine AW.seq (AW.rA ⟨[(4, (vc (.flt .f32 a0.bits)))], []⟩ (T2 Tt) [] [4] [] ⟨tr, tr, tr⟩ (thenQ_normal ?_))
    refine AW.ret ?_
    replace h := some_eq h
    subst h
    exact ⟨.inr rfl, retOK_of [(.one (.c (.flt .f32 a0.bits)))] (by kernel_rfl) ⟨⟨rfl, tr⟩, tr⟩ (of_decide_eq_true (by kernel_rfl))⟩

/-! impl.greater -/
def impl_greater (_K : Nat) (a0 : F32) (a1 : F32) : Option (F32) :=
  ite2 ((a1.gt a0)) (some a1) (some a0)

theorem ok_impl_greater (K : Nat) (a0 : F32) (a1 : F32) (o : (F32)) (h : impl_greater K a0 a1 = some o) : CallOK Try.prog 34 [.one (.flt .f32 a0.bits), .one (.flt .f32 a1.bits)] [.one (.flt .f32 o.bits)] := by
  refine callOK_of_AW Try.func34 rfl (by kernel_rfl) (Nat.le_of_ble_eq_true (by kernel_rfl)) ?_
  intro w0
  unfold impl_greater at h
  refine AW.seq (AW.rA ⟨[(0, (vc (.flt .f32 a0.bits))), (1, (vc (.flt .f32 a1.bits)))], []⟩ (Tt ∧ Tt) [] [0, 1] [] ⟨tr, tr⟩ (thenQ_normal ?_))
  refine AW.seq ?_
  refine AW.seq (AW.rA ⟨[(0, (vc (.flt .f32 a0.bits))), (1, (vc (.flt .f32 a1.bits))), (7, (vc (.bool (a1.gt a0))))], []⟩ (Tt ∧ T2 Tt) [] [0, 1, 7] [] ⟨tr, tr, tr, tr⟩ (thenQ_normal ?_))
  rcases ite2_cases h with ⟨b1, h⟩ | ⟨b1, h⟩
  · refine AW.cond_t rfl b1 ?_
    refine AW.seq (AW.rA ⟨[(4, (vc (.flt .f32 a1.bits)))], []⟩ (T2 Tt) [] [4] [] ⟨tr, tr, tr⟩ (thenQ_normal ?_))
    refine AW.ret ?_
    refine thenQ_ret ?_
    replace h := some_eq h
    subst h
    exact ⟨.inr rfl, retOK_of [(.one (.c (.flt .f32 a1.bits)))] (by kernel_rfl) ⟨⟨rfl, tr⟩, tr⟩ (of_decide_eq_true (by kernel_rfl))⟩
  · refine AW.cond_f rfl b1 ?_
    refine AW.skip ?_
    refine thenQ_normal ?_
    refine AW.seq (AW.rA ⟨[(4, (vc (.flt .f32 a0.bits)))], []⟩ (T2 Tt) [] [4] [] ⟨tr, tr, tr⟩ (thenQ_normal ?_))
    refine AW.ret ?_
    replace h := some_eq h
    subst h
    exact ⟨.inr rfl, retOK_of [(.one (.c (.flt .f32 a0.bits)))] (by kernel_rfl) ⟨⟨rfl, tr⟩, tr⟩ (of_decide_eq_true (by kernel_rfl))⟩

/-! impl.BoxOfPlaces -/
def Zt15 (QE : Prop) : Prop := ((Tt ∧ (Tt ∧ (Tt ∧ (Tt ∧ Tt)))) ∧ (Tt ∧ (Tt ∧ (Tt ∧ (Tt ∧ Tt)))) ∧ QE)
theorem zt15 {QE : Prop} (qe : QE) : Zt15 QE := ⟨⟨tr, ⟨tr, ⟨tr, ⟨tr, tr⟩⟩⟩⟩, ⟨tr, ⟨tr, ⟨tr, ⟨tr, tr⟩⟩⟩⟩, qe⟩
def impl_BoxOfPlaces_l1 (K : Nat) (a0 : (List Vector)) : Nat → Int → F32 → F32 → F32 → F32 → F32 → F32 → Option (Vector × Vector × Bool)
  | 0, _, _, _, _, _, _, _ => none
  | k + 1, x14, x15, x16, x17, x18, x19, x20 => ite2 ((decide (x14 < (((a0.drop (1 : Int).toNat).take ((a0.length : Int).toNat - (1 : Int).toNat)).length : Int)))) (chk (0 ≤ x14 ∧ x14 < (((a0.drop (1 : Int).toNat).take ((a0.length : Int).toNat - (1 : Int).toNat)).length : Int)) ((impl_lesser K x15 ((((a0.drop (1 : Int).toNat).take ((a0.length : Int).toNat - (1 : Int).toNat)).getD x14.toNat default).X)).bind fun v23 => (impl_lesser K x16 ((((a0.drop (1 : Int).toNat).take ((a0.length : Int).toNat - (1 : Int).toNat)).getD x14.toNat default).Y)).bind fun v25 => (impl_lesser K x17 ((((a0.drop (1 : Int).toNat).take ((a0.length : Int).toNat - (1 : Int).toNat)).getD x14.toNat default).Z)).bind fun v27 => (impl_greater K x18 ((((a0.drop (1 : Int).toNat).take ((a0.length : Int).toNat - (1 : Int).toNat)).getD x14.toNat default).X)).bind fun v29 => (impl_greater K x19 ((((a0.drop (1 : Int).toNat).take ((a0.length : Int).toNat - (1 : Int).toNat)).getD x14.toNat default).Y)).bind fun v31 => (impl_greater K x20 ((((a0.drop (1 : Int).toNat).take ((a0.length : Int).toNat - (1 : Int).toNat)).getD x14.toNat default).Z)).bind fun v33 => impl_BoxOfPlaces_l1 K a0 k (IntKind.i64.wrap (x14 + (1 : Int))) v23 v25 v27 v29 v31 v33)) (some ((Vector.mk x15 x16 x17), (Vector.mk x18 x19 x20), true))

def impl_BoxOfPlaces (K : Nat) (a0 : (List Vector)) : Option (Vector × Vector × Bool) :=
  (ite2 ((decide ((a0.length : Int) < (1 : Int)))) (some true) (some (decide ((a0.length : Int) > (12 : Int))))).bind fun j2 => ite2 (j2) (some ((Vector.mk (default : F32) (default : F32) (default : F32)), (Vector.mk (default : F32) (default : F32) (default : F32)), false)) (chk (0 ≤ (0 : Int) ∧ (0 : Int) < (a0.length : Int)) (chk (0 ≤ (1 : Int) ∧ (1 : Int) ≤ (a0.length : Int) ∧ (a0.length : Int) ≤ (a0.length : Int)) (impl_BoxOfPlaces_l1 K a0 K (0 : Int) ((a0.getD ((0 : Int).toNat) default).X) ((a0.getD ((0 : Int).toNat) default).Y) ((a0.getD ((0 : Int).toNat) default).Z) ((a0.getD ((0 : Int).toNat) default).X) ((a0.getD ((0 : Int).toNat) default).Y) ((a0.getD ((0 : Int).toNat) default).Z))))

theorem ok_impl_BoxOfPlaces (K : Nat) (a0 : (List Vector)) (o : (Vector × Vector × Bool)) (h : impl_BoxOfPlaces K a0 = some o) : CallOK Try.prog 16 [.one (sl 3 cs_Vector a0)] [.agg (cs_Vector o.1), .agg (cs_Vector o.2.1), .one (.bool o.2.2)] := by
  refine callOK_of_AW Try.func16 rfl (by kernel_rfl) (Nat.le_of_ble_eq_true (by kernel_rfl)) ?_
  intro w0
  unfold impl_BoxOfPlaces at h
  refine AW.seq (AW.rA ⟨[(0, (vc (sl 3 cs_Vector a0))), (2, (vp 1 0)), (3, (vp 2 0))], [(1, (.box [(.c (.flt .f32 (default : F32).bits)), (.c (.flt .f32 (default : F32).bits)), (.c (.flt .f32 (default : F32).bits))])), (2, (.box [(.c (.flt .f32 (default : F32).bits)), (.c (.flt .f32 (default : F32).bits)), (.c (.flt .f32 (default : F32).bits))]))]⟩ (Tt ∧ T2 Tt) [.box 1, .box 2] [0, 2, 3] [1, 2] ⟨tr, tr, tr, tr⟩ (thenQ_normal ?_))
  refine AW.seq ?_
  refine AW.seq ?_
  obtain ⟨j2, e3, h⟩ := bind_some h
  refine AW.join1 (s2 := ⟨[(0, (vc (sl 3 cs_Vector a0))), (2, (vp 1 0)), (3, (vp 2 0)), (16, (vc (.bool j2)))], [(1, (.box [(.c (.flt .f32 (default : F32).bits)), (.c (.flt .f32 (default : F32).bits)), (.c (.flt .f32 (default : F32).bits))])), (2, (.box [(.c (.flt .f32 (default : F32).bits)), (.c (.flt .f32 (default : F32).bits)), (.c (.flt .f32 (default : F32).bits))]))]⟩) ?_ ?_
  · rcases ite2_cases e3 with ⟨b1, e3⟩ | ⟨b1, e3⟩
    · replace e3 := some_eq e3
      subst e3
      exact AW.rA ⟨[(0, (vc (sl 3 cs_Vector a0))), (2, (vp 1 0)), (3, (vp 2 0)), (16, (vc (.bool true)))], [(1, (.box [(.c (.flt .f32 (default : F32).bits)), (.c (.flt .f32 (default : F32).bits)), (.c (.flt .f32 (default : F32).bits))])), (2, (.box [(.c (.flt .f32 (default : F32).bits)), (.c (.flt .f32 (default : F32).bits)), (.c (.flt .f32 (default : F32).bits))]))]⟩ (Tt ∧ T2 ((Tt ∧ (decide ((a0.length : Int) < (1 : Int))) = true) ∧ T4 Tt)) [.no, .no, .no, .dec true] [0, 2, 3, 16] [1, 2] ⟨tr, tr, tr, ⟨tr, b1⟩, tr, tr, tr, tr, tr⟩ ⟨rfl, rfl⟩
    · replace e3 := some_eq e3
      subst e3
      exact AW.rA ⟨[(0, (vc (sl 3 cs_Vector a0))), (2, (vp 1 0)), (3, (vp 2 0)), (16, (vc (.bool (decide ((a0.length : Int) > (12 : Int))))))], [(1, (.box [(.c (.flt .f32 (default : F32).bits)), (.c (.flt .f32 (default : F32).bits)), (.c (.flt .f32 (default : F32).bits))])), (2, (.box [(.c (.flt .f32 (default : F32).bits)), (.c (.flt .f32 (default : F32).bits)), (.c (.flt .f32 (default : F32).bits))]))]⟩ (Tt ∧ T2 ((Tt ∧ (decide ((a0.length : Int) < (1 : Int))) = false) ∧ T4 Tt)) [.no, .no, .no, .dec false] [0, 2, 3, 16] [1, 2] ⟨tr, tr, tr, ⟨tr, b1⟩, tr, tr, tr, tr, tr⟩ ⟨rfl, rfl⟩
  refine thenQ_normal ?_
  rcases ite2_cases h with ⟨b4, h⟩ | ⟨b4, h⟩
  · refine AW.cond_t rfl b4 ?_
    refine AW.seq (AW.rA ⟨[(2, (vp 1 0)), (3, (vp 2 0)), (4, (vc (.bool false)))], [(1, (.box [(.c (.flt .f32 (default : F32).bits)), (.c (.flt .f32 (default : F32).bits)), (.c (.flt .f32 (default : F32).bits))])), (2, (.box [(.c (.flt .f32 (default : F32).bits)), (.c (.flt .f32 (default : F32).bits)), (.c (.flt .f32 (default : F32).bits))]))]⟩ (Tt ∧ T4 Tt) [] [2, 3, 4] [1, 2] ⟨tr, tr, tr, tr, tr, tr⟩ (thenQ_normal ?_))
    refine AW.ret ?_
    refine thenQ_ret ?_
    replace h := some_eq h
    subst h
    exact ⟨.inr rfl, retOK_of [(.agg [(.c (.flt .f32 (default : F32).bits)), (.c (.flt .f32 (default : F32).bits)), (.c (.flt .f32 (default : F32).bits))]), (.agg [(.c (.flt .f32 (default : F32).bits)), (.c (.flt .f32 (default : F32).bits)), (.c (.flt .f32 (default : F32).bits))]), (.one (.c (.bool false)))] (by kernel_rfl) ⟨⟨⟨rfl, tr⟩, ⟨rfl, tr⟩, ⟨rfl, tr⟩, tr⟩, ⟨⟨rfl, tr⟩, ⟨rfl, tr⟩, ⟨rfl, tr⟩, tr⟩, ⟨rfl, tr⟩, tr⟩ (of_decide_eq_true (by kernel_rfl))⟩
  · refine AW.cond_f rfl b4 ?_
    refine AW.skip ?_
    refine thenQ_normal ?_
    refine AW.seq ?_
    obtain ⟨c5, h⟩ := chk_some h
    refine AW.heldA (by kernel_rfl) [0, 1, 2, 3, 4, 5] [] 3 [21, 24] [.no, .no, .no, .no, .no, .no, .box 3, .box 4] [5, 6] [3, 4] [0, 2, 3, 5, 6] [1, 2, 3, 4] (s' := ⟨[(0, (vc (sl 3 cs_Vector a0))), (2, (vp 1 0)), (3, (vp 2 0)), (5, (vp 3 0)), (6, (vp 4 0))], [(1, (.box [(.c (.flt .f32 (default : F32).bits)), (.c (.flt .f32 (default : F32).bits)), (.c (.flt .f32 (default : F32).bits))])), (2, (.box [(.c (.flt .f32 (default : F32).bits)), (.c (.flt .f32 (default : F32).bits)), (.c (.flt .f32 (default : F32).bits))])), (3, (.box [(.c (.flt .f32 ((a0.getD ((0 : Int).toNat) default).X).bits)), (.c (.flt .f32 ((a0.getD ((0 : Int).toNat) default).Y).bits)), (.c (.flt .f32 ((a0.getD ((0 : Int).toNat) default).Z).bits))])), (4, (.box [(.c (.flt .f32 ((a0.getD ((0 : Int).toNat) default).X).bits)), (.c (.flt .f32 ((a0.getD ((0 : Int).toNat) default).Y).bits)), (.c (.flt .f32 ((a0.getD ((0 : Int).toNat) default).Z).bits))]))]⟩) (ob := (Tt ∧ (0 ≤ (0 : Int) ∧ (0 : Int) < (a0.length : Int)) ∧ T2 ((0 ≤ (0 : Int) ∧ (0 : Int) < (a0.length : Int)) ∧ Tt ∧ Tt)) ∧ (Zt15 ((⟨[(5, (vp 3 0)), (6, (vp 4 0))], [(3, (.box [(.c (.flt .f32 ((a0.getD ((0 : Int).toNat) default).X).bits)), (.c (.flt .f32 ((a0.getD ((0 : Int).toNat) default).Y).bits)), (.c (.flt .f32 ((a0.getD ((0 : Int).toNat) default).Z).bits))])), (4, (.box [(.c (.flt .f32 ((a0.getD ((0 : Int).toNat) default).X).bits)), (.c (.flt .f32 ((a0.getD ((0 : Int).toNat) default).Y).bits)), (.c (.flt .f32 ((a0.getD ((0 : Int).toNat) default).Z).bits))]))]⟩ : St) = ⟨[(5, (vp 3 0)), (6, (vp 4 0))], [(3, (.box [(.c (.flt .f32 ((a0.getD ((0 : Int).toNat) default).X).bits)), (.c (.flt .f32 ((a0.getD ((0 : Int).toNat) default).Y).bits)), (.c (.flt .f32 ((a0.getD ((0 : Int).toNat) default).Z).bits))])), (4, (.box [(.c (.flt .f32 ((a0.getD ((0 : Int).toNat) default).X).bits)), (.c (.flt .f32 ((a0.getD ((0 : Int).toNat) default).Y).bits)), (.c (.flt .f32 ((a0.getD ((0 : Int).toNat) default).Z).bits))]))]⟩)) ∧ (Tt)) (by kernel_rfl) ⟨⟨tr, c5, tr, tr, c5, tr, tr⟩, (zt15 rfl), tr⟩ ?_
    refine thenQ_normal ?_
    refine AW.seq ?_
    refine AW.seq ?_
    obtain ⟨c6, h⟩ := chk_some h
    refine AW.rA ⟨[(2, (vp 1 0)), (3, (vp 2 0)), (5, (vp 3 0)), (6, (vp 4 0)), (26, (vc (sl 3 cs_Vector ((a0.drop (1 : Int).toNat).take ((a0.length : Int).toNat - (1 : Int).toNat))))), (27, (vc (.int .i64 (((a0.drop (1 : Int).toNat).take ((a0.length : Int).toNat - (1 : Int).toNat)).length : Int)))), (28, (vc (.int .i64 (0 : Int))))], [(1, (.box [(.c (.flt .f32 (default : F32).bits)), (.c (.flt .f32 (default : F32).bits)), (.c (.flt .f32 (default : F32).bits))])), (2, (.box [(.c (.flt .f32 (default : F32).bits)), (.c (.flt .f32 (default : F32).bits)), (.c (.flt .f32 (default : F32).bits))])), (3, (.box [(.c (.flt .f32 ((a0.getD ((0 : Int).toNat) default).X).bits)), (.c (.flt .f32 ((a0.getD ((0 : Int).toNat) default).Y).bits)), (.c (.flt .f32 ((a0.getD ((0 : Int).toNat) default).Z).bits))])), (4, (.box [(.c (.flt .f32 ((a0.getD ((0 : Int).toNat) default).X).bits)), (.c (.flt .f32 ((a0.getD ((0 : Int).toNat) default).Y).bits)), (.c (.flt .f32 ((a0.getD ((0 : Int).toNat) default).Z).bits))]))]⟩ (Tt ∧ (0 ≤ (1 : Int) ∧ (1 : Int) ≤ (a0.length : Int) ∧ (a0.length : Int) ≤ (a0.length : Int) ∧ ((((a0.drop (1 : Int).toNat).take ((a0.length : Int).toNat - (1 : Int).toNat)).length : Nat) : Int) = (a0.length : Int) - (1 : Int) ∧ ∀ i j, i < ((a0.drop (1 : Int).toNat).take ((a0.length : Int).toNat - (1 : Int).toNat)).length → j < 3 → gl cs_Vector ((a0.drop (1 : Int).toNat).take ((a0.length : Int).toNat - (1 : Int).toNat)) i j = gl cs_Vector a0 ((1 : Int).toNat + i) j) ∧ T2 Tt) [.no, .seq ((a0.drop (1 : Int).toNat).take ((a0.length : Int).toNat - (1 : Int).toNat)).length (gl cs_Vector ((a0.drop (1 : Int).toNat).take ((a0.length : Int).toNat - (1 : Int).toNat)))] [2, 3, 5, 6, 26, 27, 28] [1, 2, 3, 4] ⟨tr, ⟨c6.1, c6.2.1, c6.2.2, (gl_drop (sz := 3) (cs := cs_Vector) c6.1 c6.2.1 c6.2.2).1, (gl_drop c6.1 c6.2.1 c6.2.2).2⟩, tr, tr, tr⟩ ?_
    refine thenQ_normal ?_
    refine AW.block ?_
    refine AW.loopQ (σ := Nat × Int × F32 × F32 × F32 × F32 × F32 × F32) (fun p => ⟨[(2, (vp 1 0)), (3, (vp 2 0)), (5, (vp 3 0)), (6, (vp 4 0)), (26, (vc (sl 3 cs_Vector ((a0.drop (1 : Int).toNat).take ((a0.length : Int).toNat - (1 : Int).toNat))))), (27, (vc (.int .i64 (((a0.drop (1 : Int).toNat).take ((a0.length : Int).toNat - (1 : Int).toNat)).length : Int)))), (28, (vc (.int .i64 p.2.1)))], [(1, (.box [(.c (.flt .f32 (default : F32).bits)), (.c (.flt .f32 (default : F32).bits)), (.c (.flt .f32 (default : F32).bits))])), (2, (.box [(.c (.flt .f32 (default : F32).bits)), (.c (.flt .f32 (default : F32).bits)), (.c (.flt .f32 (default : F32).bits))])), (3, (.box [(.c (.flt .f32 p.2.2.1.bits)), (.c (.flt .f32 p.2.2.2.1.bits)), (.c (.flt .f32 p.2.2.2.2.1.bits))])), (4, (.box [(.c (.flt .f32 p.2.2.2.2.2.1.bits)), (.c (.flt .f32 p.2.2.2.2.2.2.1.bits)), (.c (.flt .f32 p.2.2.2.2.2.2.2.bits))]))]⟩) (fun p => impl_BoxOfPlaces_l1 K a0 p.1 p.2.1 p.2.2.1 p.2.2.2.1 p.2.2.2.2.1 p.2.2.2.2.2.1 p.2.2.2.2.2.2.1 p.2.2.2.2.2.2.2 = some o) (fun p => p.1) (K, (0 : Int), (a0.getD ((0 : Int).toNat) default).X, (a0.getD ((0 : Int).toNat) default).Y, (a0.getD ((0 : Int).toNat) default).Z, (a0.getD ((0 : Int).toNat) default).X, (a0.getD ((0 : Int).toNat) default).Y, (a0.getD ((0 : Int).toNat) default).Z) h ?_
    clear h
    rintro ⟨k, x14, x15, x16, x17, x18, x19, x20⟩ h
    replace h : impl_BoxOfPlaces_l1 K a0 k x14 x15 x16 x17 x18 x19 x20 = some o := h
    show AW _ _ (⟨[(2, (vp 1 0)), (3, (vp 2 0)), (5, (vp 3 0)), (6, (vp 4 0)), (26, (vc (sl 3 cs_Vector ((a0.drop (1 : Int).toNat).take ((a0.length : Int).toNat - (1 : Int).toNat))))), (27, (vc (.int .i64 (((a0.drop (1 : Int).toNat).take ((a0.length : Int).toNat - (1 : Int).toNat)).length : Int)))), (28, (vc (.int .i64 x14)))], [(1, (.box [(.c (.flt .f32 (default : F32).bits)), (.c (.flt .f32 (default : F32).bits)), (.c (.flt .f32 (default : F32).bits))])), (2, (.box [(.c (.flt .f32 (default : F32).bits)), (.c (.flt .f32 (default : F32).bits)), (.c (.flt .f32 (default : F32).bits))])), (3, (.box [(.c (.flt .f32 x15.bits)), (.c (.flt .f32 x16.bits)), (.c (.flt .f32 x17.bits))])), (4, (.box [(.c (.flt .f32 x18.bits)), (.c (.flt .f32 x19.bits)), (.c (.flt .f32 x20.bits))]))]⟩ : St) _
    obtain _ | k := k
    · rw [impl_BoxOfPlaces_l1] at h; cases h
    rw [impl_BoxOfPlaces_l1] at h
    refine AW.seq (AW.rA ⟨[(2, (vp 1 0)), (3, (vp 2 0)), (5, (vp 3 0)), (6, (vp 4 0)), (26, (vc (sl 3 cs_Vector ((a0.drop (1 : Int).toNat).take ((a0.length : Int).toNat - (1 : Int).toNat))))), (27, (vc (.int .i64 (((a0.drop (1 : Int).toNat).take ((a0.length : Int).toNat - (1 : Int).toNat)).length : Int)))), (28, (vc (.int .i64 x14))), (29, (vc (.bool (decide (x14 < (((a0.drop (1 : Int).toNat).take ((a0.length : Int).toNat - (1 : Int).toNat)).length : Int))))))], [(1, (.box [(.c (.flt .f32 (default : F32).bits)), (.c (.flt .f32 (default : F32).bits)), (.c (.flt .f32 (default : F32).bits))])), (2, (.box [(.c (.flt .f32 (default : F32).bits)), (.c (.flt .f32 (default : F32).bits)), (.c (.flt .f32 (default : F32).bits))])), (3, (.box [(.c (.flt .f32 x15.bits)), (.c (.flt .f32 x16.bits)), (.c (.flt .f32 x17.bits))])), (4, (.box [(.c (.flt .f32 x18.bits)), (.c (.flt .f32 x19.bits)), (.c (.flt .f32 x20.bits))]))]⟩ (Tt ∧ Tt) [] [2, 3, 5, 6, 26, 27, 28, 29] [1, 2, 3, 4] ⟨tr, tr⟩ (thenQ_normal ?_))
    refine AW.seq ?_
    rcases ite2_cases h with ⟨b21, h⟩ | ⟨b21, h⟩
    · refine AW.cond_t rfl b21 ?_
      refine AW.skip ?_
      refine thenQ_normal ?_
      refine AW.seq ?_
      refine AW.block ?_
      refine AW.seq ?_
      obtain ⟨c22, h⟩ := chk_some h
      refine AW.rA ⟨[(2, (vp 1 0)), (3, (vp 2 0)), (5, (vp 3 0)), (6, (vp 4 0)), (8, (vp 7 0)), (26, (vc (sl 3 cs_Vector ((a0.drop (1 : Int).toNat).take ((a0.length : Int).toNat - (1 : Int).toNat))))), (27, (vc (.int .i64 (((a0.drop (1 : Int).toNat).take ((a0.length : Int).toNat - (1 : Int).toNat)).length : Int)))), (28, (vc (.int .i64 x14)))], [(1, (.box [(.c (.flt .f32 (default : F32).bits)), (.c (.flt .f32 (default : F32).bits)), (.c (.flt .f32 (default : F32).bits))])), (2, (.box [(.c (.flt .f32 (default : F32).bits)), (.c (.flt .f32 (default : F32).bits)), (.c (.flt .f32 (default : F32).bits))])), (3, (.box [(.c (.flt .f32 x15.bits)), (.c (.flt .f32 x16.bits)), (.c (.flt .f32 x17.bits))])), (4, (.box [(.c (.flt .f32 x18.bits)), (.c (.flt .f32 x19.bits)), (.c (.flt .f32 x20.bits))])), (7, (.box [(.c (.flt .f32 ((((a0.drop (1 : Int).toNat).take ((a0.length : Int).toNat - (1 : Int).toNat)).getD x14.toNat default).X).bits)), (.c (.flt .f32 ((((a0.drop (1 : Int).toNat).take ((a0.length : Int).toNat - (1 : Int).toNat)).getD x14.toNat default).Y).bits)), (.c (.flt .f32 ((((a0.drop (1 : Int).toNat).take ((a0.length : Int).toNat - (1 : Int).toNat)).getD x14.toNat default).Z).bits))]))]⟩ ((0 ≤ x14 ∧ x14 < (((a0.drop (1 : Int).toNat).take ((a0.length : Int).toNat - (1 : Int).toNat)).length : Int)) ∧ Tt ∧ T2 Tt) [.no, .no, .box 7] [2, 3, 5, 6, 8, 26, 27, 28] [1, 2, 3, 4, 7] ⟨c22, tr, tr, tr, tr⟩ ?_
      refine thenQ_normal ?_
      refine AW.seq ?_
      obtain ⟨v23, e24, h⟩ := bind_some h
      obtain ⟨v25, e26, h⟩ := bind_some h
      obtain ⟨v27, e28, h⟩ := bind_some h
      refine AW.dA ⟨[(2, (vp 1 0)), (3, (vp 2 0)), (5, (vp 3 0)), (6, (vp 4 0)), (8, (vp 7 0)), (26, (vc (sl 3 cs_Vector ((a0.drop (1 : Int).toNat).take ((a0.length : Int).toNat - (1 : Int).toNat))))), (27, (vc (.int .i64 (((a0.drop (1 : Int).toNat).take ((a0.length : Int).toNat - (1 : Int).toNat)).length : Int)))), (28, (vc (.int .i64 x14)))], [(1, (.box [(.c (.flt .f32 (default : F32).bits)), (.c (.flt .f32 (default : F32).bits)), (.c (.flt .f32 (default : F32).bits))])), (2, (.box [(.c (.flt .f32 (default : F32).bits)), (.c (.flt .f32 (default : F32).bits)), (.c (.flt .f32 (default : F32).bits))])), (3, (.box [(.c (.flt .f32 v23.bits)), (.c (.flt .f32 v25.bits)), (.c (.flt .f32 v27.bits))])), (4, (.box [(.c (.flt .f32 x18.bits)), (.c (.flt .f32 x19.bits)), (.c (.flt .f32 x20.bits))])), (7, (.box [(.c (.flt .f32 ((((a0.drop (1 : Int).toNat).take ((a0.length : Int).toNat - (1 : Int).toNat)).getD x14.toNat default).X).bits)), (.c (.flt .f32 ((((a0.drop (1 : Int).toNat).take ((a0.length : Int).toNat - (1 : Int).toNat)).getD x14.toNat default).Y).bits)), (.c (.flt .f32 ((((a0.drop (1 : Int).toNat).take ((a0.length : Int).toNat - (1 : Int).toNat)).getD x14.toNat default).Z).bits))]))]⟩ ((T4 ((((Eqc (.flt .f32 x15.bits)) ∧ (((.flt .f32 ((((a0.drop (1 : Int).toNat).take ((a0.length : Int).toNat - (1 : Int).toNat)).getD x14.toNat default).X).bits) : C) = (.flt .f32 ((((a0.drop (1 : Int).toNat).take ((a0.length : Int).toNat - (1 : Int).toNat)).getD x14.toNat default).X).bits)) ∧ Tt) ∧ CallOK Try.prog 33 [.one (.flt .f32 x15.bits), .one (.flt .f32 ((((a0.drop (1 : Int).toNat).take ((a0.length : Int).toNat - (1 : Int).toNat)).getD x14.toNat default).X).bits)] [.one (.flt .f32 v23.bits)]) ∧ T4 ((((Eqc (.flt .f32 x16.bits)) ∧ (((.flt .f32 ((((a0.drop (1 : Int).toNat).take ((a0.length : Int).toNat - (1 : Int).toNat)).getD x14.toNat default).Y).bits) : C) = (.flt .f32 ((((a0.drop (1 : Int).toNat).take ((a0.length : Int).toNat - (1 : Int).toNat)).getD x14.toNat default).Y).bits)) ∧ Tt) ∧ CallOK Try.prog 33 [.one (.flt .f32 x16.bits), .one (.flt .f32 ((((a0.drop (1 : Int).toNat).take ((a0.length : Int).toNat - (1 : Int).toNat)).getD x14.toNat default).Y).bits)] [.one (.flt .f32 v25.bits)]) ∧ T4 ((((Eqc (.flt .f32 x17.bits)) ∧ (((.flt .f32 ((((a0.drop (1 : Int).toNat).take ((a0.length : Int).toNat - (1 : Int).toNat)).getD x14.toNat default).Z).bits) : C) = (.flt .f32 ((((a0.drop (1 : Int).toNat).take ((a0.length : Int).toNat - (1 : Int).toNat)).getD x14.toNat default).Z).bits)) ∧ Tt) ∧ CallOK Try.prog 33 [.one (.flt .f32 x17.bits), .one (.flt .f32 ((((a0.drop (1 : Int).toNat).take ((a0.length : Int).toNat - (1 : Int).toNat)).getD x14.toNat default).Z).bits)] [.one (.flt .f32 v27.bits)]) ∧ Tt ∧ Tt)))) ∧ (Tt ∧ Tt)) 16 [.no, .no, .no, .no, .call [.one (.flt .f32 x15.bits), .one (.flt .f32 ((((a0.drop (1 : Int).toNat).take ((a0.length : Int).toNat - (1 : Int).toNat)).getD x14.toNat default).X).bits)] [.one (.flt .f32 v23.bits)] [[.view]], .no, .no, .no, .no, .call [.one (.flt .f32 x16.bits), .one (.flt .f32 ((((a0.drop (1 : Int).toNat).take ((a0.length : Int).toNat - (1 : Int).toNat)).getD x14.toNat default).Y).bits)] [.one (.flt .f32 v25.bits)] [[.view]], .no, .no, .no, .no, .call [.one (.flt .f32 x17.bits), .one (.flt .f32 ((((a0.drop (1 : Int).toNat).take ((a0.length : Int).toNat - (1 : Int).toNat)).getD x14.toNat default).Z).bits)] [.one (.flt .f32 v27.bits)] [[.view]]] [2, 3, 5, 6, 8, 26, 27, 28] [1, 2, 3, 4, 7] ⟨⟨tr, tr, tr, tr, ⟨⟨rfl, rfl, tr⟩, ok_impl_lesser K x15 ((((a0.drop (1 : Int).toNat).take ((a0.length : Int).toNat - (1 : Int).toNat)).getD x14.toNat default).X) v23 e24⟩, tr, tr, tr, tr, ⟨⟨rfl, rfl, tr⟩, ok_impl_lesser K x16 ((((a0.drop (1 : Int).toNat).take ((a0.length : Int).toNat - (1 : Int).toNat)).getD x14.toNat default).Y) v25 e26⟩, tr, tr, tr, tr, ⟨⟨rfl, rfl, tr⟩, ok_impl_lesser K x17 ((((a0.drop (1 : Int).toNat).take ((a0.length : Int).toNat - (1 : Int).toNat)).getD x14.toNat default).Z) v27 e28⟩, tr, tr⟩, ⟨tr, tr⟩⟩ ?_
      refine thenQ_normal ?_
      obtain ⟨v29, e30, h⟩ := bind_some h
      obtain ⟨v31, e32, h⟩ := bind_some h
      obtain ⟨v33, e34, h⟩ := bind_some h
      refine AW.dA ⟨[(2, (vp 1 0)), (3, (vp 2 0)), (5, (vp 3 0)), (6, (vp 4 0)), (26, (vc (sl 3 cs_Vector ((a0.drop (1 : Int).toNat).take ((a0.length : Int).toNat - (1 : Int).toNat))))), (27, (vc (.int .i64 (((a0.drop (1 : Int).toNat).take ((a0.length : Int).toNat - (1 : Int).toNat)).length : Int)))), (28, (vc (.int .i64 x14)))], [(1, (.box [(.c (.flt .f32 (default : F32).bits)), (.c (.flt .f32 (default : F32).bits)), (.c (.flt .f32 (default : F32).bits))])), (2, (.box [(.c (.flt .f32 (default : F32).bits)), (.c (.flt .f32 (default : F32).bits)), (.c (.flt .f32 (default : F32).bits))])), (3, (.box [(.c (.flt .f32 v23.bits)), (.c (.flt .f32 v25.bits)), (.c (.flt .f32 v27.bits))])), (4, (.box [(.c (.flt .f32 v29.bits)), (.c (.flt .f32 v31.bits)), (.c (.flt .f32 v33.bits))]))]⟩ ((T4 ((((Eqc (.flt .f32 x18.bits)) ∧ (((.flt .f32 ((((a0.drop (1 : Int).toNat).take ((a0.length : Int).toNat - (1 : Int).toNat)).getD x14.toNat default).X).bits) : C) = (.flt .f32 ((((a0.drop (1 : Int).toNat).take ((a0.length : Int).toNat - (1 : Int).toNat)).getD x14.toNat default).X).bits)) ∧ Tt) ∧ CallOK Try.prog 34 [.one (.flt .f32 x18.bits), .one (.flt .f32 ((((a0.drop (1 : Int).toNat).take ((a0.length : Int).toNat - (1 : Int).toNat)).getD x14.toNat default).X).bits)] [.one (.flt .f32 v29.bits)]) ∧ T4 ((((Eqc (.flt .f32 x19.bits)) ∧ (((.flt .f32 ((((a0.drop (1 : Int).toNat).take ((a0.length : Int).toNat - (1 : Int).toNat)).getD x14.toNat default).Y).bits) : C) = (.flt .f32 ((((a0.drop (1 : Int).toNat).take ((a0.length : Int).toNat - (1 : Int).toNat)).getD x14.toNat default).Y).bits)) ∧ Tt) ∧ CallOK Try.prog 34 [.one (.flt .f32 x19.bits), .one (.flt .f32 ((((a0.drop (1 : Int).toNat).take ((a0.length : Int).toNat - (1 : Int).toNat)).getD x14.toNat default).Y).bits)] [.one (.flt .f32 v31.bits)]) ∧ T4 ((((Eqc (.flt .f32 x20.bits)) ∧ (((.flt .f32 ((((a0.drop (1 : Int).toNat).take ((a0.length : Int).toNat - (1 : Int).toNat)).getD x14.toNat default).Z).bits) : C) = (.flt .f32 ((((a0.drop (1 : Int).toNat).take ((a0.length : Int).toNat - (1 : Int).toNat)).getD x14.toNat default).Z).bits)) ∧ Tt) ∧ CallOK Try.prog 34 [.one (.flt .f32 x20.bits), .one (.flt .f32 ((((a0.drop (1 : Int).toNat).take ((a0.length : Int).toNat - (1 : Int).toNat)).getD x14.toNat default).Z).bits)] [.one (.flt .f32 v33.bits)]) ∧ Tt ∧ Tt)))) ∧ (Tt ∧ Tt)) 16 [.no, .no, .no, .no, .call [.one (.flt .f32 x18.bits), .one (.flt .f32 ((((a0.drop (1 : Int).toNat).take ((a0.length : Int).toNat - (1 : Int).toNat)).getD x14.toNat default).X).bits)] [.one (.flt .f32 v29.bits)] [[.view]], .no, .no, .no, .no, .call [.one (.flt .f32 x19.bits), .one (.flt .f32 ((((a0.drop (1 : Int).toNat).take ((a0.length : Int).toNat - (1 : Int).toNat)).getD x14.toNat default).Y).bits)] [.one (.flt .f32 v31.bits)] [[.view]], .no, .no, .no, .no, .call [.one (.flt .f32 x20.bits), .one (.flt .f32 ((((a0.drop (1 : Int).toNat).take ((a0.length : Int).toNat - (1 : Int).toNat)).getD x14.toNat default).Z).bits)] [.one (.flt .f32 v33.bits)] [[.view]]] [2, 3, 5, 6, 26, 27, 28] [1, 2, 3, 4] ⟨⟨tr, tr, tr, tr, ⟨⟨rfl, rfl, tr⟩, ok_impl_greater K x18 ((((a0.drop (1 : Int).toNat).take ((a0.length : Int).toNat - (1 : Int).toNat)).getD x14.toNat default).X) v29 e30⟩, tr, tr, tr, tr, ⟨⟨rfl, rfl, tr⟩, ok_impl_greater K x19 ((((a0.drop (1 : Int).toNat).take ((a0.length : Int).toNat - (1 : Int).toNat)).getD x14.toNat default).Y) v31 e32⟩, tr, tr, tr, tr, ⟨⟨rfl, rfl, tr⟩, ok_impl_greater K x20 ((((a0.drop (1 : Int).toNat).take ((a0.length : Int).toNat - (1 : Int).toNat)).getD x14.toNat default).Z) v33 e34⟩, tr, tr⟩, ⟨tr, tr⟩⟩ ?_
      refine blockQ_normal ?_
      refine thenQ_normal ?_
      refine AW.rA ⟨[(2, (vp 1 0)), (3, (vp 2 0)), (5, (vp 3 0)), (6, (vp 4 0)), (26, (vc (sl 3 cs_Vector ((a0.drop (1 : Int).toNat).take ((a0.length : Int).toNat - (1 : Int).toNat))))), (27, (vc (.int .i64 (((a0.drop (1 : Int).toNat).take ((a0.length : Int).toNat - (1 : Int).toNat)).length : Int)))), (28, (vc (.int .i64 (IntKind.i64.wrap (x14 + (1 : Int))))))], [(1, (.box [(.c (.flt .f32 (default : F32).bits)), (.c (.flt .f32 (default : F32).bits)), (.c (.flt .f32 (default : F32).bits))])), (2, (.box [(.c (.flt .f32 (default : F32).bits)), (.c (.flt .f32 (default : F32).bits)), (.c (.flt .f32 (default : F32).bits))])), (3, (.box [(.c (.flt .f32 v23.bits)), (.c (.flt .f32 v25.bits)), (.c (.flt .f32 v27.bits))])), (4, (.box [(.c (.flt .f32 v29.bits)), (.c (.flt .f32 v31.bits)), (.c (.flt .f32 v33.bits))]))]⟩ (T2 Tt) [] [2, 3, 5, 6, 26, 27, 28] [1, 2, 3, 4] ⟨tr, tr, tr⟩ ?_
      exact loopQ_normal (k, (IntKind.i64.wrap (x14 + (1 : Int))), v23, v25, v27, v29, v31, v33) h (Nat.lt_succ_self k) (Sub.keep [2, 3, 5, 6, 26, 27, 28] [1, 2, 3, 4] (by kernel_rfl) (by kernel_rfl))
    · refine AW.cond_f rfl b21 ?_
      refine AW.exit ?_
      refine thenQ_exit ?_
      refine loopQ_exit ?_
      refine blockQ_exit ?_
      refine thenQ_normal ?_
      refine AW.seq (AW.lateA (by kernel_rfl) 2 1 [] [2, 3, 4] [1, 2] (s' := ⟨[(2, (vp 1 0)), (3, (vp 2 0)), (4, (vc (.bool true)))], [(1, (.box [(.c (.flt .f32 x15.bits)), (.c (.flt .f32 x16.bits)), (.c (.flt .f32 x17.bits))])), (2, (.box [(.c (.flt .f32 x18.bits)), (.c (.flt .f32 x19.bits)), (.c (.flt .f32 x20.bits))]))]⟩) (ob := (T2 Tt) ∧ (Tt ∧ T2 Tt) ∧ (T4 Tt) ∧ ((⟨[(2, (vp 1 0)), (3, (vp 2 0)), (4, (vc (.bool true)))], [(1, (.box [(.c (.flt .f32 x15.bits)), (.c (.flt .f32 x16.bits)), (.c (.flt .f32 x17.bits))])), (2, (.box [(.c (.flt .f32 x18.bits)), (.c (.flt .f32 x19.bits)), (.c (.flt .f32 x20.bits))]))]⟩ : St) = ⟨[(2, (vp 1 0)), (3, (vp 2 0)), (4, (vc (.bool true)))], [(1, (.box [(.c (.flt .f32 x15.bits)), (.c (.flt .f32 x16.bits)), (.c (.flt .f32 x17.bits))])), (2, (.box [(.c (.flt .f32 x18.bits)), (.c (.flt .f32 x19.bits)), (.c (.flt .f32 x20.bits))]))]⟩)) (by kernel_rfl) ⟨⟨tr, tr, tr⟩, ⟨tr, tr, tr, tr⟩, ⟨tr, tr, tr, tr, tr⟩, rfl⟩ (thenQ_normal ?_))
      refine AW.ret ?_
      replace h := some_eq h
      subst h
      exact ⟨.inr rfl, retOK_of [(.agg [(.c (.flt .f32 x15.bits)), (.c (.flt .f32 x16.bits)), (.c (.flt .f32 x17.bits))]), (.agg [(.c (.flt .f32 x18.bits)), (.c (.flt .f32 x19.bits)), (.c (.flt .f32 x20.bits))]), (.one (.c (.bool true)))] (by kernel_rfl) ⟨⟨⟨rfl, tr⟩, ⟨rfl, tr⟩, ⟨rfl, tr⟩, tr⟩, ⟨⟨rfl, tr⟩, ⟨rfl, tr⟩, ⟨rfl, tr⟩, tr⟩, ⟨rfl, tr⟩, tr⟩ (of_decide_eq_true (by kernel_rfl))⟩

/-! laws.FnWorlds -/
def laws_FnWorlds_l3 (K : Nat) (v4 : (Skeleton)) (v8 : ((List Turn) × (List Vector) × Bool)) (v71 : (Vector × Vector × Bool)) : Nat → Int → Option (Bool)
  | 0, _ => none
  | k + 1, x75 => ite2 ((decide (x75 < (v4.Bones.length : Int)))) (chk (0 ≤ x75 ∧ x75 < (v8.2.1.length : Int)) ((ite2 ((((v8.2.1.getD x75.toNat default).X).lt' v71.1.X)) (some true) (ite2 ((((v8.2.1.getD x75.toNat default).Y).lt' v71.1.Y)) (some true) (ite2 ((((v8.2.1.getD x75.toNat default).Z).lt' v71.1.Z)) (some true) (ite2 ((((v8.2.1.getD x75.toNat default).X).gt v71.2.1.X)) (some true) (ite2 ((((v8.2.1.getD x75.toNat default).Y).gt v71.2.1.Y)) (some true) (some (((v8.2.1.getD x75.toNat default).Z).gt v71.2.1.Z))))))).bind fun j83 => ite2 (j83) (some false) (laws_FnWorlds_l3 K v4 v8 v71 k (IntKind.i64.wrap (x75 + (1 : Int)))))) (some true)

def laws_FnWorlds_l2 (K : Nat) (v4 : (Skeleton)) (v8 : ((List Turn) × (List Vector) × Bool)) (v52 : ((List Turn) × (List Vector) × Bool)) : Nat → Int → Option (Bool)
  | 0, _ => none
  | k + 1, x64 => ite2 ((decide (x64 < (v4.Bones.length : Int)))) (chk (0 ≤ x64 ∧ x64 < (v52.2.1.length : Int)) (chk (0 ≤ x64 ∧ x64 < (v8.2.1.length : Int)) ((laws_b10VEqual K (v52.2.1.getD x64.toNat default) (Vector.mk (((v8.2.1.getD x64.toNat default).X).neg) ((v8.2.1.getD x64.toNat default).Y) ((v8.2.1.getD x64.toNat default).Z))).bind fun v68 => ite2 ((!v68)) (some false) (laws_FnWorlds_l2 K v4 v8 v52 k (IntKind.i64.wrap (x64 + (1 : Int))))))) ((impl_BoxOfPlaces K v8.2.1).bind fun v71 => ite2 ((!v71.2.2)) (some false) (laws_FnWorlds_l3 K v4 v8 v71 K (0 : Int)))

def laws_FnWorlds_l1 (K : Nat) (v4 : (Skeleton)) (v6 : (Pose)) (v8 : ((List Turn) × (List Vector) × Bool)) (v10 : (Pose × Bool)) : Nat → Int → (List Int) → Option (Bool)
  | 0, _, _ => none
  | k + 1, x28, x29 => ite2 ((decide (x28 < (v4.Bones.length : Int)))) (chk ((x29.length + ([x28]).length) * 8 ≤ 140737488355328) (chk (0 ≤ x28 ∧ x28 < (v10.1.Turns.length : Int)) (chk (0 ≤ x28 ∧ x28 < (v6.Turns.length : Int)) ((laws_b10TEqual K (v10.1.Turns.getD x28.toNat default) (v6.Turns.getD x28.toNat default)).bind fun v34 => ite2 ((!v34)) (some false) (ite2 ((x28 == (0 : Int))) (laws_FnWorlds_l1 K v4 v6 v8 v10 k (IntKind.i64.wrap (x28 + (1 : Int))) (x29 ++ ([x28]))) (chk (0 ≤ x28 ∧ x28 < (v4.Bones.length : Int)) (chk (0 ≤ x28 ∧ x28 < (v8.2.1.length : Int)) (chk (0 ≤ ((v4.Bones.getD x28.toNat default).Parent) ∧ ((v4.Bones.getD x28.toNat default).Parent) < (v8.2.1.length : Int)) ((spec_LessVectors K (v8.2.1.getD x28.toNat default) (v8.2.1.getD (((v4.Bones.getD x28.toNat default).Parent).toNat) default)).bind fun v41 => (laws_b10Square K v41).bind fun v43 => (laws_b10Square K ((v4.Bones.getD x28.toNat default).Offset)).bind fun v45 => ite2 ((v43.ne v45)) (some false) (laws_FnWorlds_l1 K v4 v6 v8 v10 k (IntKind.i64.wrap (x28 + (1 : Int))) (x29 ++ ([x28])))))))))))) ((impl_MirrorPose K v4 v6 x29).bind fun v48 => (impl_MirrorSkeleton K v4 x29).bind fun v50 => (impl_WorldOf K v50.1 v48.1).bind fun v52 => (ite2 ((!v48.2)) (some true) (ite2 ((!v50.2)) (some true) (ite2 ((!v52.2.2)) (some true) (ite2 (((v52.2.1.length : Int) != (v4.Bones.length : Int))) (some true) ((impl_IsPairing K v4 x29).bind fun v58 => some (!v58)))))).bind fun j60 => ite2 (j60) (some false) (laws_FnWorlds_l2 K v4 v8 v52 K (0 : Int)))

def laws_FnWorlds (K : Nat) (a0 : (List Int)) (a1 : (List Int)) : Option (Bool) :=
  (laws_b10Long K a0 a1).bind fun v1 => ite2 (v1) (some true) ((spec_B10Skeleton K a0).bind fun v4 => (spec_B10Exact K a1 (v4.Bones.length : Int)).bind fun v6 => (impl_WorldOf K v4 v6).bind fun v8 => (impl_LocalOf K v4 v6.Root v8.1).bind fun v10 => (ite2 ((!v8.2.2)) (some true) (ite2 ((!v10.2)) (some true) (ite2 (((v8.1.length : Int) != (v4.Bones.length : Int))) (some true) (ite2 (((v8.2.1.length : Int) != (v4.Bones.length : Int))) (some true) (ite2 (((v10.1.Turns.length : Int) != (v4.Bones.length : Int))) (some true) (chk (0 ≤ (0 : Int) ∧ (0 : Int) < (v8.2.1.length : Int)) ((laws_b10VEqual K (v8.2.1.getD ((0 : Int).toNat) default) v6.Root).bind fun v18 => ite2 ((!v18)) (some true) ((laws_b10VEqual K v10.1.Root v6.Root).bind fun v21 => some (!v21))))))))).bind fun j23 => ite2 (j23) (some false) (laws_FnWorlds_l1 K v4 v6 v8 v10 K (0 : Int) ([] : List Int)))

theorem ok_laws_FnWorlds (K : Nat) (a0 : (List Int)) (a1 : (List Int)) (o : (Bool)) (h : laws_FnWorlds K a0 a1 = some o) : CallOK Try.prog 3 [.one (sl 1 (csI .u8) a0), .one (sl 1 (csI .u8) a1)] [.one (.bool o)] := by
  refine callOK_of_AW Try.func3 rfl (by kernel_rfl) (Nat.le_of_ble_eq_true (by kernel_rfl)) ?_
  intro w0
  unfold laws_FnWorlds at h
  refine AW.seq (AW.rA ⟨[(0, (vc (sl 1 (csI .u8) a0))), (1, (vc (sl 1 (csI .u8) a1)))], []⟩ (Tt ∧ Tt) [] [0, 1] [] ⟨tr, tr⟩ (thenQ_normal ?_))
  refine AW.seq ?_
  refine AW.seq ?_
  obtain ⟨v1, e2, h⟩ := bind_some h
  refine AW.rA ⟨[(0, (vc (sl 1 (csI .u8) a0))), (1, (vc (sl 1 (csI .u8) a1))), (31, (vc (.bool v1)))], []⟩ (T2 ((((Eqc (sl 1 (csI .u8) a0)) ∧ (Eqc (sl 1 (csI .u8) a1)) ∧ Tt) ∧ CallOK Try.prog 4 [.one (sl 1 (csI .u8) a0), .one (sl 1 (csI .u8) a1)] [.one (.bool v1)]) ∧ Tt)) [.no, .no, .call [.one (sl 1 (csI .u8) a0), .one (sl 1 (csI .u8) a1)] [.one (.bool v1)] [[.view]]] [0, 1, 31] [] ⟨tr, tr, ⟨⟨rfl, rfl, tr⟩, ok_laws_b10Long K a0 a1 v1 e2⟩, tr⟩ ?_
  refine thenQ_normal ?_
  rcases ite2_cases h with ⟨b3, h⟩ | ⟨b3, h⟩
  · refine AW.cond_t rfl b3 ?_
    refine AW.seq (AW.rA ⟨[(4, (vc (.bool true)))], []⟩ (Tt ∧ Tt) [] [4] [] ⟨tr, tr⟩ (thenQ_normal ?_))
    refine AW.ret ?_
    refine thenQ_ret ?_
    replace h := some_eq h
    subst h
    exact ⟨.inr rfl, retOK_of [(.one (.c (.bool true)))] (by kernel_rfl) ⟨⟨rfl, tr⟩, tr⟩ (of_decide_eq_true (by kernel_rfl))⟩
  · refine AW.cond_f rfl b3 ?_
    refine AW.skip ?_
    refine thenQ_normal ?_
    refine AW.seq ?_
    obtain ⟨v4, e5, h⟩ := bind_some h
    refine AW.rA ⟨[(1, (vc (sl 1 (csI .u8) a1))), (5, (vp 2 0))], [(1, (.lst v4.Bones.length 4 (gl cs_Bone v4.Bones))), (2, (.box [(.lst 1 v4.Bones.length 4 (gl cs_Bone v4.Bones))]))]⟩ (Tt ∧ (((Eqc (sl 1 (csI .u8) a0)) ∧ Tt) ∧ CallOK Try.prog 5 [.one (sl 1 (csI .u8) a0)] [.agg (cs_Skeleton v4)]) ∧ T2 Tt) [.no, .call [.one (sl 1 (csI .u8) a0)] [.agg (cs_Skeleton v4)] [[.lst 1]], .box 2] [1, 5] [1, 2] ⟨tr, ⟨⟨rfl, tr⟩, ok_spec_B10Skeleton K a0 v4 e5⟩, tr, tr, tr⟩ ?_
    refine thenQ_normal ?_
    refine AW.seq (AW.rA ⟨[(1, (vc (sl 1 (csI .u8) a1))), (5, (vp 2 0)), (6, (vc (.int .i64 (v4.Bones.length : Int))))], [(1, (.lst v4.Bones.length 4 (gl cs_Bone v4.Bones))), (2, (.box [(.lst 1 v4.Bones.length 4 (gl cs_Bone v4.Bones))]))]⟩ (T4 Tt) [] [1, 5, 6] [1, 2] ⟨tr, tr, tr, tr, tr⟩ (thenQ_normal ?_))
    refine AW.seq ?_
    obtain ⟨v6, e7, h⟩ := bind_some h
    refine AW.rA ⟨[(5, (vp 2 0)), (6, (vc (.int .i64 (v4.Bones.length : Int)))), (7, (vp 4 0))], [(1, (.lst v4.Bones.length 4 (gl cs_Bone v4.Bones))), (2, (.box [(.lst 1 v4.Bones.length 4 (gl cs_Bone v4.Bones))])), (3, (.lst v6.Turns.length 4 (gl cs_Turn v6.Turns))), (4, (.box [(.c (.flt .f32 v6.Root.X.bits)), (.c (.flt .f32 v6.Root.Y.bits)), (.c (.flt .f32 v6.Root.Z.bits)), (.lst 3 v6.Turns.length 4 (gl cs_Turn v6.Turns))]))]⟩ (T2 ((((Eqc (sl 1 (csI .u8) a1)) ∧ (Eqc (.int .i64 (v4.Bones.length : Int))) ∧ Tt) ∧ CallOK Try.prog 6 [.one (sl 1 (csI .u8) a1), .one (.int .i64 (v4.Bones.length : Int))] [.agg (cs_Pose v6)]) ∧ T2 Tt)) [.no, .no, .call [.one (sl 1 (csI .u8) a1), .one (.int .i64 (v4.Bones.length : Int))] [.agg (cs_Pose v6)] [[.view, .view, .view, .lst 3]], .box 4] [5, 6, 7] [1, 2, 3, 4] ⟨tr, tr, ⟨⟨rfl, rfl, tr⟩, ok_spec_B10Exact K a1 (v4.Bones.length : Int) v6 e7⟩, tr, tr, tr⟩ ?_
    refine thenQ_normal ?_
    refine AW.seq ?_
    obtain ⟨v8, e9, h⟩ := bind_some h
    refine AW.rA ⟨[(5, (vp 2 0)), (6, (vc (.int .i64 (v4.Bones.length : Int)))), (7, (vp 4 0)), (8, (.v (.one (.lst 5 v8.1.length 4 (gl cs_Turn v8.1))))), (9, (.v (.one (.lst 6 v8.2.1.length 3 (gl cs_Vector v8.2.1))))), (10, (vc (.bool v8.2.2)))], [(1, (.lst v4.Bones.length 4 (gl cs_Bone v4.Bones))), (2, (.box [(.lst 1 v4.Bones.length 4 (gl cs_Bone v4.Bones))])), (3, (.lst v6.Turns.length 4 (gl cs_Turn v6.Turns))), (4, (.box [(.c (.flt .f32 v6.Root.X.bits)), (.c (.flt .f32 v6.Root.Y.bits)), (.c (.flt .f32 v6.Root.Z.bits)), (.lst 3 v6.Turns.length 4 (gl cs_Turn v6.Turns))])), (5, (.lst v8.1.length 4 (gl cs_Turn v8.1))), (6, (.lst v8.2.1.length 3 (gl cs_Vector v8.2.1)))]⟩ (T2 (((((Eqc (sl 4 cs_Bone v4.Bones)) ∧ Tt) ∧ ((Eqc (.flt .f32 v6.Root.X.bits)) ∧ (Eqc (.flt .f32 v6.Root.Y.bits)) ∧ (Eqc (.flt .f32 v6.Root.Z.bits)) ∧ (Eqc (sl 4 cs_Turn v6.Turns)) ∧ Tt) ∧ Tt) ∧ CallOK Try.prog 7 [.agg (cs_Skeleton v4), .agg (cs_Pose v6)] [.one (sl 4 cs_Turn v8.1), .one (sl 3 cs_Vector v8.2.1), .one (.bool v8.2.2)]) ∧ Tt ∧ T2 (T4 Tt))) [.no, .no, .call [.agg (cs_Skeleton v4), .agg (cs_Pose v6)] [.one (sl 4 cs_Turn v8.1), .one (sl 3 cs_Vector v8.2.1), .one (.bool v8.2.2)] [[.lst 5], [.lst 6], [.view]]] [5, 6, 7, 8, 9, 10] [1, 2, 3, 4, 5, 6] ⟨tr, tr, ⟨⟨⟨rfl, tr⟩, ⟨rfl, rfl, rfl, rfl, tr⟩, tr⟩, ok_impl_WorldOf K v4 v6 v8 e9⟩, tr, tr, tr, tr, tr, tr, tr, tr⟩ ?_
    refine thenQ_normal ?_
    refine AW.seq ?_
    obtain ⟨v10, e11, h⟩ := bind_some h
    refine AW.rA ⟨[(5, (vp 2 0)), (6, (vc (.int .i64 (v4.Bones.length : Int)))), (7, (vp 4 0)), (8, (.v (.one (.lst 5 v8.1.length 4 (gl cs_Turn v8.1))))), (9, (.v (.one (.lst 6 v8.2.1.length 3 (gl cs_Vector v8.2.1))))), (10, (vc (.bool v8.2.2))), (11, (vp 8 0)), (12, (vc (.bool v10.2)))], [(1, (.lst v4.Bones.length 4 (gl cs_Bone v4.Bones))), (2, (.box [(.lst 1 v4.Bones.length 4 (gl cs_Bone v4.Bones))])), (3, (.lst v6.Turns.length 4 (gl cs_Turn v6.Turns))), (4, (.box [(.c (.flt .f32 v6.Root.X.bits)), (.c (.flt .f32 v6.Root.Y.bits)), (.c (.flt .f32 v6.Root.Z.bits)), (.lst 3 v6.Turns.length 4 (gl cs_Turn v6.Turns))])), (5, (.lst v8.1.length 4 (gl cs_Turn v8.1))), (6, (.lst v8.2.1.length 3 (gl cs_Vector v8.2.1))), (7, (.lst v10.1.Turns.length 4 (gl cs_Turn v10.1.Turns))), (8, (.box [(.c (.flt .f32 v10.1.Root.X.bits)), (.c (.flt .f32 v10.1.Root.Y.bits)), (.c (.flt .f32 v10.1.Root.Z.bits)), (.lst 7 v10.1.Turns.length 4 (gl cs_Turn v10.1.Turns))]))]⟩ (T4 (((((Eqc (sl 4 cs_Bone v4.Bones)) ∧ Tt) ∧ ((Eqc (.flt .f32 v6.Root.X.bits)) ∧ (Eqc (.flt .f32 v6.Root.Y.bits)) ∧ (Eqc (.flt .f32 v6.Root.Z.bits)) ∧ Tt) ∧ (Eqc (sl 4 cs_Turn v8.1)) ∧ Tt) ∧ CallOK Try.prog 8 [.agg (cs_Skeleton v4), .agg (cs_Vector v6.Root), .one (sl 4 cs_Turn v8.1)] [.agg (cs_Pose v10.1), .one (.bool v10.2)]) ∧ T2 (T4 Tt))) [.no, .no, .no, .no, .call [.agg (cs_Skeleton v4), .agg (cs_Vector v6.Root), .one (sl 4 cs_Turn v8.1)] [.agg (cs_Pose v10.1), .one (.bool v10.2)] [[.view, .view, .view, .lst 7], [.view]], .no, .no, .no, .box 8] [5, 6, 7, 8, 9, 10, 11, 12] [1, 2, 3, 4, 5, 6, 7, 8] ⟨tr, tr, tr, tr, ⟨⟨⟨rfl, tr⟩, ⟨rfl, rfl, rfl, tr⟩, rfl, tr⟩, ok_impl_LocalOf K v4 v6.Root v8.1 v10 e11⟩, tr, tr, tr, tr, tr, tr, tr⟩ ?_
    refine thenQ_normal ?_
    refine AW.seq ?_
    refine AW.seq ?_
    obtain ⟨j23, e24, h⟩ := bind_some h
    refine AW.join1 (s2 := ⟨[(5, (vp 2 0)), (6, (vc (.int .i64 (v4.Bones.length : Int)))), (7, (vp 4 0)), (9, (.v (.one (.lst 6 v8.2.1.length 3 (gl cs_Vector v8.2.1))))), (11, (vp 8 0)), (96, (vc (.bool j23)))], [(1, (.lst v4.Bones.length 4 (gl cs_Bone v4.Bones))), (2, (.box [(.lst 1 v4.Bones.length 4 (gl cs_Bone v4.Bones))])), (3, (.lst v6.Turns.length 4 (gl cs_Turn v6.Turns))), (4, (.box [(.c (.flt .f32 v6.Root.X.bits)), (.c (.flt .f32 v6.Root.Y.bits)), (.c (.flt .f32 v6.Root.Z.bits)), (.lst 3 v6.Turns.length 4 (gl cs_Turn v6.Turns))])), (6, (.lst v8.2.1.length 3 (gl cs_Vector v8.2.1))), (7, (.lst v10.1.Turns.length 4 (gl cs_Turn v10.1.Turns))), (8, (.box [(.c (.flt .f32 v10.1.Root.X.bits)), (.c (.flt .f32 v10.1.Root.Y.bits)), (.c (.flt .f32 v10.1.Root.Z.bits)), (.lst 7 v10.1.Turns.length 4 (gl cs_Turn v10.1.Turns))]))]⟩) ?_ ?_
    · rcases ite2_cases e24 with ⟨b12, e24⟩ | ⟨b12, e24⟩
      · replace e24 := some_eq e24
        subst e24
        exact AW.dA ⟨[(5, (vp 2 0)), (6, (vc (.int .i64 (v4.Bones.length : Int)))), (7, (vp 4 0)), (9, (.v (.one (.lst 6 v8.2.1.length 3 (gl cs_Vector v8.2.1))))), (11, (vp 8 0)), (96, (vc (.bool true)))], [(1, (.lst v4.Bones.length 4 (gl cs_Bone v4.Bones))), (2, (.box [(.lst 1 v4.Bones.length 4 (gl cs_Bone v4.Bones))])), (3, (.lst v6.Turns.length 4 (gl cs_Turn v6.Turns))), (4, (.box [(.c (.flt .f32 v6.Root.X.bits)), (.c (.flt .f32 v6.Root.Y.bits)), (.c (.flt .f32 v6.Root.Z.bits)), (.lst 3 v6.Turns.length 4 (gl cs_Turn v6.Turns))])), (6, (.lst v8.2.1.length 3 (gl cs_Vector v8.2.1))), (7, (.lst v10.1.Turns.length 4 (gl cs_Turn v10.1.Turns))), (8, (.box [(.c (.flt .f32 v10.1.Root.X.bits)), (.c (.flt .f32 v10.1.Root.Y.bits)), (.c (.flt .f32 v10.1.Root.Z.bits)), (.lst 7 v10.1.Turns.length 4 (gl cs_Turn v10.1.Turns))]))]⟩ ((T2 ((Tt ∧ (!v8.2.2) = true) ∧ Tt ∧ T2 (T4 (T4 (T4 (T4 (T4 (T4 (T4 (T4 (T4 Tt))))))))))) ∧ (Tt)) 42 [.no, .no, .dec true] [5, 6, 7, 9, 11, 96] [1, 2, 3, 4, 6, 7, 8] ⟨⟨tr, tr, ⟨tr, b12⟩, tr, tr, tr, tr, tr, tr, tr, tr, tr, tr, tr, tr, tr, tr, tr, tr, tr, tr, tr, tr, tr, tr, tr, tr, tr, tr, tr, tr, tr, tr, tr, tr, tr, tr, tr, tr, tr, tr, tr, tr⟩, tr⟩ ⟨rfl, rfl⟩
      · rcases ite2_cases e24 with ⟨b13, e24⟩ | ⟨b13, e24⟩
        · replace e24 := some_eq e24
          subst e24
          exact AW.dA ⟨[(5, (vp 2 0)), (6, (vc (.int .i64 (v4.Bones.length : Int)))), (7, (vp 4 0)), (9, (.v (.one (.lst 6 v8.2.1.length 3 (gl cs_Vector v8.2.1))))), (11, (vp 8 0)), (96, (vc (.bool true)))], [(1, (.lst v4.Bones.length 4 (gl cs_Bone v4.Bones))), (2, (.box [(.lst 1 v4.Bones.length 4 (gl cs_Bone v4.Bones))])), (3, (.lst v6.Turns.length 4 (gl cs_Turn v6.Turns))), (4, (.box [(.c (.flt .f32 v6.Root.X.bits)), (.c (.flt .f32 v6.Root.Y.bits)), (.c (.flt .f32 v6.Root.Z.bits)), (.lst 3 v6.Turns.length 4 (gl cs_Turn v6.Turns))])), (6, (.lst v8.2.1.length 3 (gl cs_Vector v8.2.1))), (7, (.lst v10.1.Turns.length 4 (gl cs_Turn v10.1.Turns))), (8, (.box [(.c (.flt .f32 v10.1.Root.X.bits)), (.c (.flt .f32 v10.1.Root.Y.bits)), (.c (.flt .f32 v10.1.Root.Z.bits)), (.lst 7 v10.1.Turns.length 4 (gl cs_Turn v10.1.Turns))]))]⟩ ((T2 ((Tt ∧ (!v8.2.2) = false) ∧ Tt ∧ T2 ((Tt ∧ (!v10.2) = true) ∧ Tt ∧ T2 (T4 (T4 (T4 (T4 (T4 (T4 (T4 (T4 Tt))))))))))) ∧ (Tt)) 42 [.no, .no, .dec false, .no, .no, .no, .dec true] [5, 6, 7, 9, 11, 96] [1, 2, 3, 4, 6, 7, 8] ⟨⟨tr, tr, ⟨tr, b12⟩, tr, tr, tr, ⟨tr, b13⟩, tr, tr, tr, tr, tr, tr, tr, tr, tr, tr, tr, tr, tr, tr, tr, tr, tr, tr, tr, tr, tr, tr, tr, tr, tr, tr, tr, tr, tr, tr, tr, tr, tr, tr, tr, tr⟩, tr⟩ ⟨rfl, rfl⟩
        · rcases ite2_cases e24 with ⟨b14, e24⟩ | ⟨b14, e24⟩
          · replace e24 := some_eq e24
            subst e24
            exact AW.dA ⟨[(5, (vp 2 0)), (6, (vc (.int .i64 (v4.Bones.length : Int)))), (7, (vp 4 0)), (9, (.v (.one (.lst 6 v8.2.1.length 3 (gl cs_Vector v8.2.1))))), (11, (vp 8 0)), (96, (vc (.bool true)))], [(1, (.lst v4.Bones.length 4 (gl cs_Bone v4.Bones))), (2, (.box [(.lst 1 v4.Bones.length 4 (gl cs_Bone v4.Bones))])), (3, (.lst v6.Turns.length 4 (gl cs_Turn v6.Turns))), (4, (.box [(.c (.flt .f32 v6.Root.X.bits)), (.c (.flt .f32 v6.Root.Y.bits)), (.c (.flt .f32 v6.Root.Z.bits)), (.lst 3 v6.Turns.length 4 (gl cs_Turn v6.Turns))])), (6, (.lst v8.2.1.length 3 (gl cs_Vector v8.2.1))), (7, (.lst v10.1.Turns.length 4 (gl cs_Turn v10.1.Turns))), (8, (.box [(.c (.flt .f32 v10.1.Root.X.bits)), (.c (.flt .f32 v10.1.Root.Y.bits)), (.c (.flt .f32 v10.1.Root.Z.bits)), (.lst 7 v10.1.Turns.length 4 (gl cs_Turn v10.1.Turns))]))]⟩ ((T2 ((Tt ∧ (!v8.2.2) = false) ∧ Tt ∧ T2 ((Tt ∧ (!v10.2) = false) ∧ Tt ∧ T4 ((Tt ∧ ((v8.1.length : Int) != (v4.Bones.length : Int)) = true) ∧ Tt ∧ T4 (T4 (T4 (T4 (T4 (T4 (T4 Tt)))))))))) ∧ (Tt)) 42 [.no, .no, .dec false, .no, .no, .no, .dec false, .no, .no, .no, .no, .no, .dec true] [5, 6, 7, 9, 11, 96] [1, 2, 3, 4, 6, 7, 8] ⟨⟨tr, tr, ⟨tr, b12⟩, tr, tr, tr, ⟨tr, b13⟩, tr, tr, tr, tr, tr, ⟨tr, b14⟩, tr, tr, tr, tr, tr, tr, tr, tr, tr, tr, tr, tr, tr, tr, tr, tr, tr, tr, tr, tr, tr, tr, tr, tr, tr, tr, tr, tr, tr, tr⟩, tr⟩ ⟨rfl, rfl⟩
          · rcases ite2_cases e24 with ⟨b15, e24⟩ | ⟨b15, e24⟩
            · replace e24 := some_eq e24
              subst e24
              exact AW.dA ⟨[(5, (vp 2 0)), (6, (vc (.int .i64 (v4.Bones.length : Int)))), (7, (vp 4 0)), (9, (.v (.one (.lst 6 v8.2.1.length 3 (gl cs_Vector v8.2.1))))), (11, (vp 8 0)), (96, (vc (.bool true)))], [(1, (.lst v4.Bones.length 4 (gl cs_Bone v4.Bones))), (2, (.box [(.lst 1 v4.Bones.length 4 (gl cs_Bone v4.Bones))])), (3, (.lst v6.Turns.length 4 (gl cs_Turn v6.Turns))), (4, (.box [(.c (.flt .f32 v6.Root.X.bits)), (.c (.flt .f32 v6.Root.Y.bits)), (.c (.flt .f32 v6.Root.Z.bits)), (.lst 3 v6.Turns.length 4 (gl cs_Turn v6.Turns))])), (6, (.lst v8.2.1.length 3 (gl cs_Vector v8.2.1))), (7, (.lst v10.1.Turns.length 4 (gl cs_Turn v10.1.Turns))), (8, (.box [(.c (.flt .f32 v10.1.Root.X.bits)), (.c (.flt .f32 v10.1.Root.Y.bits)), (.c (.flt .f32 v10.1.Root.Z.bits)), (.lst 7 v10.1.Turns.length 4 (gl cs_Turn v10.1.Turns))]))]⟩ ((T2 ((Tt ∧ (!v8.2.2) = false) ∧ Tt ∧ T2 ((Tt ∧ (!v10.2) = false) ∧ Tt ∧ T4 ((Tt ∧ ((v8.1.length : Int) != (v4.Bones.length : Int)) = false) ∧ Tt ∧ T4 ((Tt ∧ ((v8.2.1.length : Int) != (v4.Bones.length : Int)) = true) ∧ Tt ∧ T2 (T4 (T4 (T4 (T4 (T4 Tt)))))))))) ∧ (Tt)) 42 [.no, .no, .dec false, .no, .no, .no, .dec false, .no, .no, .no, .no, .no, .dec false, .no, .no, .no, .no, .no, .dec true] [5, 6, 7, 9, 11, 96] [1, 2, 3, 4, 6, 7, 8] ⟨⟨tr, tr, ⟨tr, b12⟩, tr, tr, tr, ⟨tr, b13⟩, tr, tr, tr, tr, tr, ⟨tr, b14⟩, tr, tr, tr, tr, tr, ⟨tr, b15⟩, tr, tr, tr, tr, tr, tr, tr, tr, tr, tr, tr, tr, tr, tr, tr, tr, tr, tr, tr, tr, tr, tr, tr, tr⟩, tr⟩ ⟨rfl, rfl⟩
            · rcases ite2_cases e24 with ⟨b16, e24⟩ | ⟨b16, e24⟩
              · replace e24 := some_eq e24
                subst e24
                exact AW.dA ⟨[(5, (vp 2 0)), (6, (vc (.int .i64 (v4.Bones.length : Int)))), (7, (vp 4 0)), (9, (.v (.one (.lst 6 v8.2.1.length 3 (gl cs_Vector v8.2.1))))), (11, (vp 8 0)), (96, (vc (.bool true)))], [(1, (.lst v4.Bones.length 4 (gl cs_Bone v4.Bones))), (2, (.box [(.lst 1 v4.Bones.length 4 (gl cs_Bone v4.Bones))])), (3, (.lst v6.Turns.length 4 (gl cs_Turn v6.Turns))), (4, (.box [(.c (.flt .f32 v6.Root.X.bits)), (.c (.flt .f32 v6.Root.Y.bits)), (.c (.flt .f32 v6.Root.Z.bits)), (.lst 3 v6.Turns.length 4 (gl cs_Turn v6.Turns))])), (6, (.lst v8.2.1.length 3 (gl cs_Vector v8.2.1))), (7, (.lst v10.1.Turns.length 4 (gl cs_Turn v10.1.Turns))), (8, (.box [(.c (.flt .f32 v10.1.Root.X.bits)), (.c (.flt .f32 v10.1.Root.Y.bits)), (.c (.flt .f32 v10.1.Root.Z.bits)), (.lst 7 v10.1.Turns.length 4 (gl cs_Turn v10.1.Turns))]))]⟩ ((T2 ((Tt ∧ (!v8.2.2) = false) ∧ Tt ∧ T2 ((Tt ∧ (!v10.2) = false) ∧ Tt ∧ T4 ((Tt ∧ ((v8.1.length : Int) != (v4.Bones.length : Int)) = false) ∧ Tt ∧ T4 ((Tt ∧ ((v8.2.1.length : Int) != (v4.Bones.length : Int)) = false) ∧ T2 (T4 ((Tt ∧ ((v10.1.Turns.length : Int) != (v4.Bones.length : Int)) = true) ∧ T4 (T4 (T4 (T4 Tt)))))))))) ∧ (Tt)) 42 [.no, .no, .dec false, .no, .no, .no, .dec false, .no, .no, .no, .no, .no, .dec false, .no, .no, .no, .no, .no, .dec false, .no, .no, .no, .no, .no, .no, .dec true] [5, 6, 7, 9, 11, 96] [1, 2, 3, 4, 6, 7, 8] ⟨⟨tr, tr, ⟨tr, b12⟩, tr, tr, tr, ⟨tr, b13⟩, tr, tr, tr, tr, tr, ⟨tr, b14⟩, tr, tr, tr, tr, tr, ⟨tr, b15⟩, tr, tr, tr, tr, tr, tr, ⟨tr, b16⟩, tr, tr, tr, tr, tr, tr, tr, tr, tr, tr, tr, tr, tr, tr, tr, tr, tr⟩, tr⟩ ⟨rfl, rfl⟩
              · obtain ⟨c17, e24⟩ := chk_some e24
                obtain ⟨v18, e19, e24⟩ := bind_some e24
                rcases ite2_cases e24 with ⟨b20, e24⟩ | ⟨b20, e24⟩
                · replace e24 := some_eq e24
                  subst e24
                  exact AW.dA ⟨[(5, (vp 2 0)), (6, (vc (.int .i64 (v4.Bones.length : Int)))), (7, (vp 4 0)), (9, (.v (.one (.lst 6 v8.2.1.length 3 (gl cs_Vector v8.2.1))))), (11, (vp 8 0)), (96, (vc (.bool true)))], [(1, (.lst v4.Bones.length 4 (gl cs_Bone v4.Bones))), (2, (.box [(.lst 1 v4.Bones.length 4 (gl cs_Bone v4.Bones))])), (3, (.lst v6.Turns.length 4 (gl cs_Turn v6.Turns))), (4, (.box [(.c (.flt .f32 v6.Root.X.bits)), (.c (.flt .f32 v6.Root.Y.bits)), (.c (.flt .f32 v6.Root.Z.bits)), (.lst 3 v6.Turns.length 4 (gl cs_Turn v6.Turns))])), (6, (.lst v8.2.1.length 3 (gl cs_Vector v8.2.1))), (7, (.lst v10.1.Turns.length 4 (gl cs_Turn v10.1.Turns))), (8, (.box [(.c (.flt .f32 v10.1.Root.X.bits)), (.c (.flt .f32 v10.1.Root.Y.bits)), (.c (.flt .f32 v10.1.Root.Z.bits)), (.lst 7 v10.1.Turns.length 4 (gl cs_Turn v10.1.Turns))]))]⟩ ((T2 ((Tt ∧ (!v8.2.2) = false) ∧ Tt ∧ T2 ((Tt ∧ (!v10.2) = false) ∧ Tt ∧ T4 ((Tt ∧ ((v8.1.length : Int) != (v4.Bones.length : Int)) = false) ∧ Tt ∧ T4 ((Tt ∧ ((v8.2.1.length : Int) != (v4.Bones.length : Int)) = false) ∧ T2 (T4 ((Tt ∧ ((v10.1.Turns.length : Int) != (v4.Bones.length : Int)) = false) ∧ Tt ∧ (0 ≤ (0 : Int) ∧ (0 : Int) < (v8.2.1.length : Int)) ∧ Tt ∧ T2 (((((Eqc (.flt .f32 ((v8.2.1.getD ((0 : Int).toNat) default).X).bits)) ∧ (Eqc (.flt .f32 ((v8.2.1.getD ((0 : Int).toNat) default).Y).bits)) ∧ (Eqc (.flt .f32 ((v8.2.1.getD ((0 : Int).toNat) default).Z).bits)) ∧ Tt) ∧ ((Eqc (.flt .f32 v6.Root.X.bits)) ∧ (Eqc (.flt .f32 v6.Root.Y.bits)) ∧ (Eqc (.flt .f32 v6.Root.Z.bits)) ∧ Tt) ∧ Tt) ∧ CallOK Try.prog 9 [.agg (cs_Vector (v8.2.1.getD ((0 : Int).toNat) default)), .agg (cs_Vector v6.Root)] [.one (.bool v18)]) ∧ T2 ((Tt ∧ (!v18) = true) ∧ Tt ∧ T2 (T4 Tt)))))))))) ∧ (Tt)) 42 [.no, .no, .dec false, .no, .no, .no, .dec false, .no, .no, .no, .no, .no, .dec false, .no, .no, .no, .no, .no, .dec false, .no, .no, .no, .no, .no, .no, .dec false, .no, .no, .no, .no, .no, .call [.agg (cs_Vector (v8.2.1.getD ((0 : Int).toNat) default)), .agg (cs_Vector v6.Root)] [.one (.bool v18)] [[.view]], .no, .no, .dec true] [5, 6, 7, 9, 11, 96] [1, 2, 3, 4, 6, 7, 8] ⟨⟨tr, tr, ⟨tr, b12⟩, tr, tr, tr, ⟨tr, b13⟩, tr, tr, tr, tr, tr, ⟨tr, b14⟩, tr, tr, tr, tr, tr, ⟨tr, b15⟩, tr, tr, tr, tr, tr, tr, ⟨tr, b16⟩, tr, c17, tr, tr, tr, ⟨⟨⟨rfl, rfl, rfl, tr⟩, ⟨rfl, rfl, rfl, tr⟩, tr⟩, ok_laws_b10VEqual K (v8.2.1.getD ((0 : Int).toNat) default) v6.Root v18 e19⟩, tr, tr, ⟨tr, b20⟩, tr, tr, tr, tr, tr, tr, tr, tr⟩, tr⟩ ⟨rfl, rfl⟩
                · obtain ⟨v21, e22, e24⟩ := bind_some e24
                  replace e24 := some_eq e24
                  subst e24
                  exact AW.dA ⟨[(5, (vp 2 0)), (6, (vc (.int .i64 (v4.Bones.length : Int)))), (7, (vp 4 0)), (9, (.v (.one (.lst 6 v8.2.1.length 3 (gl cs_Vector v8.2.1))))), (11, (vp 8 0)), (96, (vc (.bool (!v21))))], [(1, (.lst v4.Bones.length 4 (gl cs_Bone v4.Bones))), (2, (.box [(.lst 1 v4.Bones.length 4 (gl cs_Bone v4.Bones))])), (3, (.lst v6.Turns.length 4 (gl cs_Turn v6.Turns))), (4, (.box [(.c (.flt .f32 v6.Root.X.bits)), (.c (.flt .f32 v6.Root.Y.bits)), (.c (.flt .f32 v6.Root.Z.bits)), (.lst 3 v6.Turns.length 4 (gl cs_Turn v6.Turns))])), (6, (.lst v8.2.1.length 3 (gl cs_Vector v8.2.1))), (7, (.lst v10.1.Turns.length 4 (gl cs_Turn v10.1.Turns))), (8, (.box [(.c (.flt .f32 v10.1.Root.X.bits)), (.c (.flt .f32 v10.1.Root.Y.bits)), (.c (.flt .f32 v10.1.Root.Z.bits)), (.lst 7 v10.1.Turns.length 4 (gl cs_Turn v10.1.Turns))]))]⟩ ((T2 ((Tt ∧ (!v8.2.2) = false) ∧ Tt ∧ T2 ((Tt ∧ (!v10.2) = false) ∧ Tt ∧ T4 ((Tt ∧ ((v8.1.length : Int) != (v4.Bones.length : Int)) = false) ∧ Tt ∧ T4 ((Tt ∧ ((v8.2.1.length : Int) != (v4.Bones.length : Int)) = false) ∧ T2 (T4 ((Tt ∧ ((v10.1.Turns.length : Int) != (v4.Bones.length : Int)) = false) ∧ Tt ∧ (0 ≤ (0 : Int) ∧ (0 : Int) < (v8.2.1.length : Int)) ∧ Tt ∧ T2 (((((Eqc (.flt .f32 ((v8.2.1.getD ((0 : Int).toNat) default).X).bits)) ∧ (Eqc (.flt .f32 ((v8.2.1.getD ((0 : Int).toNat) default).Y).bits)) ∧ (Eqc (.flt .f32 ((v8.2.1.getD ((0 : Int).toNat) default).Z).bits)) ∧ Tt) ∧ ((Eqc (.flt .f32 v6.Root.X.bits)) ∧ (Eqc (.flt .f32 v6.Root.Y.bits)) ∧ (Eqc (.flt .f32 v6.Root.Z.bits)) ∧ Tt) ∧ Tt) ∧ CallOK Try.prog 9 [.agg (cs_Vector (v8.2.1.getD ((0 : Int).toNat) default)), .agg (cs_Vector v6.Root)] [.one (.bool v18)]) ∧ T2 ((Tt ∧ (!v18) = false) ∧ T4 (((((Eqc (.flt .f32 v10.1.Root.X.bits)) ∧ (Eqc (.flt .f32 v10.1.Root.Y.bits)) ∧ (Eqc (.flt .f32 v10.1.Root.Z.bits)) ∧ Tt) ∧ ((Eqc (.flt .f32 v6.Root.X.bits)) ∧ (Eqc (.flt .f32 v6.Root.Y.bits)) ∧ (Eqc (.flt .f32 v6.Root.Z.bits)) ∧ Tt) ∧ Tt) ∧ CallOK Try.prog 9 [.agg (cs_Vector v10.1.Root), .agg (cs_Vector v6.Root)] [.one (.bool v21)]) ∧ T2 Tt)))))))))) ∧ (Tt)) 42 [.no, .no, .dec false, .no, .no, .no, .dec false, .no, .no, .no, .no, .no, .dec false, .no, .no, .no, .no, .no, .dec false, .no, .no, .no, .no, .no, .no, .dec false, .no, .no, .no, .no, .no, .call [.agg (cs_Vector (v8.2.1.getD ((0 : Int).toNat) default)), .agg (cs_Vector v6.Root)] [.one (.bool v18)] [[.view]], .no, .no, .dec false, .no, .no, .no, .no, .call [.agg (cs_Vector v10.1.Root), .agg (cs_Vector v6.Root)] [.one (.bool v21)] [[.view]]] [5, 6, 7, 9, 11, 96] [1, 2, 3, 4, 6, 7, 8] ⟨⟨tr, tr, ⟨tr, b12⟩, tr, tr, tr, ⟨tr, b13⟩, tr, tr, tr, tr, tr, ⟨tr, b14⟩, tr, tr, tr, tr, tr, ⟨tr, b15⟩, tr, tr, tr, tr, tr, tr, ⟨tr, b16⟩, tr, c17, tr, tr, tr, ⟨⟨⟨rfl, rfl, rfl, tr⟩, ⟨rfl, rfl, rfl, tr⟩, tr⟩, ok_laws_b10VEqual K (v8.2.1.getD ((0 : Int).toNat) default) v6.Root v18 e19⟩, tr, tr, ⟨tr, b20⟩, tr, tr, tr, tr, ⟨⟨⟨rfl, rfl, rfl, tr⟩, ⟨rfl, rfl, rfl, tr⟩, tr⟩, ok_laws_b10VEqual K v10.1.Root v6.Root v21 e22⟩, tr, tr, tr⟩, tr⟩ ⟨rfl, rfl⟩
    refine thenQ_normal ?_
    rcases ite2_cases h with ⟨b25, h⟩ | ⟨b25, h⟩
    · refine AW.cond_t rfl b25 ?_
      refine AW.seq (AW.rA ⟨[(4, (vc (.bool false)))], []⟩ (Tt ∧ Tt) [] [4] [] ⟨tr, tr⟩ (thenQ_normal ?_))
      refine AW.ret ?_
      refine thenQ_ret ?_
      replace h := some_eq h
      subst h
      exact ⟨.inr rfl, retOK_of [(.one (.c (.bool false)))] (by kernel_rfl) ⟨⟨rfl, tr⟩, tr⟩ (of_decide_eq_true (by kernel_rfl))⟩
    · refine AW.cond_f rfl b25 ?_
      refine AW.skip ?_
      refine thenQ_normal ?_
      refine AW.seq (AW.rA ⟨[(5, (vp 2 0)), (6, (vc (.int .i64 (v4.Bones.length : Int)))), (7, (vp 4 0)), (9, (.v (.one (.lst 6 v8.2.1.length 3 (gl cs_Vector v8.2.1))))), (11, (vp 8 0)), (13, (.v (.one (.lst 9 ([] : List Int).length 1 (gl (csI .i64) ([] : List Int))))))], [(1, (.lst v4.Bones.length 4 (gl cs_Bone v4.Bones))), (2, (.box [(.lst 1 v4.Bones.length 4 (gl cs_Bone v4.Bones))])), (3, (.lst v6.Turns.length 4 (gl cs_Turn v6.Turns))), (4, (.box [(.c (.flt .f32 v6.Root.X.bits)), (.c (.flt .f32 v6.Root.Y.bits)), (.c (.flt .f32 v6.Root.Z.bits)), (.lst 3 v6.Turns.length 4 (gl cs_Turn v6.Turns))])), (6, (.lst v8.2.1.length 3 (gl cs_Vector v8.2.1))), (7, (.lst v10.1.Turns.length 4 (gl cs_Turn v10.1.Turns))), (8, (.box [(.c (.flt .f32 v10.1.Root.X.bits)), (.c (.flt .f32 v10.1.Root.Y.bits)), (.c (.flt .f32 v10.1.Root.Z.bits)), (.lst 7 v10.1.Turns.length 4 (gl cs_Turn v10.1.Turns))])), (9, (.lst ([] : List Int).length 1 (gl (csI .i64) ([] : List Int))))]⟩ ((([] : List Int).length = 0 ∧ Tt) ∧ Tt ∧ Tt) [.obj 9 ([] : List Int).length (gl (csI .i64) ([] : List Int))] [5, 6, 7, 9, 11, 13] [1, 2, 3, 4, 6, 7, 8, 9] ⟨⟨rfl, tr⟩, tr, tr⟩ (thenQ_normal ?_))
      refine AW.seq ?_
      refine AW.seq (AW.rA ⟨[(5, (vp 2 0)), (6, (vc (.int .i64 (v4.Bones.length : Int)))), (7, (vp 4 0)), (9, (.v (.one (.lst 6 v8.2.1.length 3 (gl cs_Vector v8.2.1))))), (11, (vp 8 0)), (13, (.v (.one (.lst 9 ([] : List Int).length 1 (gl (csI .i64) ([] : List Int)))))), (14, (vc (.int .i64 (0 : Int))))], [(1, (.lst v4.Bones.length 4 (gl cs_Bone v4.Bones))), (2, (.box [(.lst 1 v4.Bones.length 4 (gl cs_Bone v4.Bones))])), (3, (.lst v6.Turns.length 4 (gl cs_Turn v6.Turns))), (4, (.box [(.c (.flt .f32 v6.Root.X.bits)), (.c (.flt .f32 v6.Root.Y.bits)), (.c (.flt .f32 v6.Root.Z.bits)), (.lst 3 v6.Turns.length 4 (gl cs_Turn v6.Turns))])), (6, (.lst v8.2.1.length 3 (gl cs_Vector v8.2.1))), (7, (.lst v10.1.Turns.length 4 (gl cs_Turn v10.1.Turns))), (8, (.box [(.c (.flt .f32 v10.1.Root.X.bits)), (.c (.flt .f32 v10.1.Root.Y.bits)), (.c (.flt .f32 v10.1.Root.Z.bits)), (.lst 7 v10.1.Turns.length 4 (gl cs_Turn v10.1.Turns))])), (9, (.lst ([] : List Int).length 1 (gl (csI .i64) ([] : List Int))))]⟩ (Tt ∧ Tt) [] [5, 6, 7, 9, 11, 13, 14] [1, 2, 3, 4, 6, 7, 8, 9] ⟨tr, tr⟩ (thenQ_normal ?_))
      refine AW.block ?_
      refine AW.loopQ (σ := Nat × Int × (List Int)) (fun p => ⟨[(5, (vp 2 0)), (6, (vc (.int .i64 (v4.Bones.length : Int)))), (7, (vp 4 0)), (9, (.v (.one (.lst 6 v8.2.1.length 3 (gl cs_Vector v8.2.1))))), (11, (vp 8 0)), (13, (.v (.one (.lst 9 p.2.2.length 1 (gl (csI .i64) p.2.2))))), (14, (vc (.int .i64 p.2.1)))], [(1, (.lst v4.Bones.length 4 (gl cs_Bone v4.Bones))), (2, (.box [(.lst 1 v4.Bones.length 4 (gl cs_Bone v4.Bones))])), (3, (.lst v6.Turns.length 4 (gl cs_Turn v6.Turns))), (4, (.box [(.c (.flt .f32 v6.Root.X.bits)), (.c (.flt .f32 v6.Root.Y.bits)), (.c (.flt .f32 v6.Root.Z.bits)), (.lst 3 v6.Turns.length 4 (gl cs_Turn v6.Turns))])), (6, (.lst v8.2.1.length 3 (gl cs_Vector v8.2.1))), (7, (.lst v10.1.Turns.length 4 (gl cs_Turn v10.1.Turns))), (8, (.box [(.c (.flt .f32 v10.1.Root.X.bits)), (.c (.flt .f32 v10.1.Root.Y.bits)), (.c (.flt .f32 v10.1.Root.Z.bits)), (.lst 7 v10.1.Turns.length 4 (gl cs_Turn v10.1.Turns))])), (9, (.lst p.2.2.length 1 (gl (csI .i64) p.2.2)))]⟩) (fun p => laws_FnWorlds_l1 K v4 v6 v8 v10 p.1 p.2.1 p.2.2 = some o) (fun p => p.1) (K, (0 : Int), ([] : List Int)) h ?_
      clear h
      rintro ⟨k, x28, x29⟩ h
      replace h : laws_FnWorlds_l1 K v4 v6 v8 v10 k x28 x29 = some o := h
      show AW _ _ (⟨[(5, (vp 2 0)), (6, (vc (.int .i64 (v4.Bones.length : Int)))), (7, (vp 4 0)), (9, (.v (.one (.lst 6 v8.2.1.length 3 (gl cs_Vector v8.2.1))))), (11, (vp 8 0)), (13, (.v (.one (.lst 9 x29.length 1 (gl (csI .i64) x29))))), (14, (vc (.int .i64 x28)))], [(1, (.lst v4.Bones.length 4 (gl cs_Bone v4.Bones))), (2, (.box [(.lst 1 v4.Bones.length 4 (gl cs_Bone v4.Bones))])), (3, (.lst v6.Turns.length 4 (gl cs_Turn v6.Turns))), (4, (.box [(.c (.flt .f32 v6.Root.X.bits)), (.c (.flt .f32 v6.Root.Y.bits)), (.c (.flt .f32 v6.Root.Z.bits)), (.lst 3 v6.Turns.length 4 (gl cs_Turn v6.Turns))])), (6, (.lst v8.2.1.length 3 (gl cs_Vector v8.2.1))), (7, (.lst v10.1.Turns.length 4 (gl cs_Turn v10.1.Turns))), (8, (.box [(.c (.flt .f32 v10.1.Root.X.bits)), (.c (.flt .f32 v10.1.Root.Y.bits)), (.c (.flt .f32 v10.1.Root.Z.bits)), (.lst 7 v10.1.Turns.length 4 (gl cs_Turn v10.1.Turns))])), (9, (.lst x29.length 1 (gl (csI .i64) x29)))]⟩ : St) _
      obtain _ | k := k
      · rw [laws_FnWorlds_l1] at h; cases h
      rw [laws_FnWorlds_l1] at h
      refine AW.seq ?_
      refine AW.seq (AW.rA ⟨[(5, (vp 2 0)), (6, (vc (.int .i64 (v4.Bones.length : Int)))), (7, (vp 4 0)), (9, (.v (.one (.lst 6 v8.2.1.length 3 (gl cs_Vector v8.2.1))))), (11, (vp 8 0)), (13, (.v (.one (.lst 9 x29.length 1 (gl (csI .i64) x29))))), (14, (vc (.int .i64 x28))), (100, (vc (.bool (decide (x28 < (v4.Bones.length : Int))))))], [(1, (.lst v4.Bones.length 4 (gl cs_Bone v4.Bones))), (2, (.box [(.lst 1 v4.Bones.length 4 (gl cs_Bone v4.Bones))])), (3, (.lst v6.Turns.length 4 (gl cs_Turn v6.Turns))), (4, (.box [(.c (.flt .f32 v6.Root.X.bits)), (.c (.flt .f32 v6.Root.Y.bits)), (.c (.flt .f32 v6.Root.Z.bits)), (.lst 3 v6.Turns.length 4 (gl cs_Turn v6.Turns))])), (6, (.lst v8.2.1.length 3 (gl cs_Vector v8.2.1))), (7, (.lst v10.1.Turns.length 4 (gl cs_Turn v10.1.Turns))), (8, (.box [(.c (.flt .f32 v10.1.Root.X.bits)), (.c (.flt .f32 v10.1.Root.Y.bits)), (.c (.flt .f32 v10.1.Root.Z.bits)), (.lst 7 v10.1.Turns.length 4 (gl cs_Turn v10.1.Turns))])), (9, (.lst x29.length 1 (gl (csI .i64) x29)))]⟩ (Tt ∧ T2 Tt) [] [5, 6, 7, 9, 11, 13, 14, 100] [1, 2, 3, 4, 6, 7, 8, 9] ⟨tr, tr, tr, tr⟩ (thenQ_normal ?_))
      rcases ite2_cases h with ⟨b30, h⟩ | ⟨b30, h⟩
      · refine AW.cond_t rfl b30 ?_
        refine AW.skip ?_
        refine thenQ_normal ?_
        refine AW.seq ?_
        refine AW.block ?_
        refine AW.seq ?_
        obtain ⟨c31, h⟩ := chk_some h
        refine AW.rA ⟨[(5, (vp 2 0)), (6, (vc (.int .i64 (v4.Bones.length : Int)))), (7, (vp 4 0)), (9, (.v (.one (.lst 6 v8.2.1.length 3 (gl cs_Vector v8.2.1))))), (11, (vp 8 0)), (13, (.v (.one (.lst 15 (x29 ++ ([x28])).length 1 (gl (csI .i64) (x29 ++ ([x28]))))))), (14, (vc (.int .i64 x28)))], [(1, (.lst v4.Bones.length 4 (gl cs_Bone v4.Bones))), (2, (.box [(.lst 1 v4.Bones.length 4 (gl cs_Bone v4.Bones))])), (3, (.lst v6.Turns.length 4 (gl cs_Turn v6.Turns))), (4, (.box [(.c (.flt .f32 v6.Root.X.bits)), (.c (.flt .f32 v6.Root.Y.bits)), (.c (.flt .f32 v6.Root.Z.bits)), (.lst 3 v6.Turns.length 4 (gl cs_Turn v6.Turns))])), (6, (.lst v8.2.1.length 3 (gl cs_Vector v8.2.1))), (7, (.lst v10.1.Turns.length 4 (gl cs_Turn v10.1.Turns))), (8, (.box [(.c (.flt .f32 v10.1.Root.X.bits)), (.c (.flt .f32 v10.1.Root.Y.bits)), (.c (.flt .f32 v10.1.Root.Z.bits)), (.lst 7 v10.1.Turns.length 4 (gl cs_Turn v10.1.Turns))])), (15, (.lst (x29 ++ ([x28])).length 1 (gl (csI .i64) (x29 ++ ([x28])))))]⟩ (T2 ((([x28]).length = 1 ∧ (((.int .i64 x28) : C) = (.int .i64 x28) ∧ Tt) ∧ Tt) ∧ ((x29 ++ ([x28])).length = x29.length + ([x28]).length ∧ AppOb (x29.length) (([x28]).length) 1 (gl (csI .i64) x29) (gl (csI .i64) ([x28])) (gl (csI .i64) (x29 ++ ([x28]))) ∧ (∀ i j, i < ([x28]).length → j < 1 → scalarC (gl (csI .i64) ([x28]) i j)) ∧ (x29.length + ([x28]).length) * 8 ≤ 140737488355328) ∧ Tt ∧ Tt)) [.no, .no, .obj 14 ([x28]).length (gl (csI .i64) ([x28])), .objK 15 (x29 ++ ([x28])).length (gl (csI .i64) (x29 ++ ([x28])))] [5, 6, 7, 9, 11, 13, 14] [1, 2, 3, 4, 6, 7, 8, 15] ⟨tr, tr, ⟨rfl, ⟨⟨rfl, tr⟩, tr⟩⟩, ⟨List.length_append, gl_append, gl_scalar scI _, c31⟩, tr, tr⟩ ?_
        refine thenQ_normal ?_
        refine AW.seq ?_
        refine AW.seq ?_
        obtain ⟨c32, h⟩ := chk_some h
        obtain ⟨c33, h⟩ := chk_some h
        obtain ⟨v34, e35, h⟩ := bind_some h
        refine AW.dA ⟨[(5, (vp 2 0)), (6, (vc (.int .i64 (v4.Bones.length : Int)))), (7, (vp 4 0)), (9, (.v (.one (.lst 6 v8.2.1.length 3 (gl cs_Vector v8.2.1))))), (11, (vp 8 0)), (13, (.v (.one (.lst 15 (x29 ++ ([x28])).length 1 (gl (csI .i64) (x29 ++ ([x28]))))))), (14, (vc (.int .i64 x28))), (118, (vc (.bool (!v34))))], [(1, (.lst v4.Bones.length 4 (gl cs_Bone v4.Bones))), (2, (.box [(.lst 1 v4.Bones.length 4 (gl cs_Bone v4.Bones))])), (3, (.lst v6.Turns.length 4 (gl cs_Turn v6.Turns))), (4, (.box [(.c (.flt .f32 v6.Root.X.bits)), (.c (.flt .f32 v6.Root.Y.bits)), (.c (.flt .f32 v6.Root.Z.bits)), (.lst 3 v6.Turns.length 4 (gl cs_Turn v6.Turns))])), (6, (.lst v8.2.1.length 3 (gl cs_Vector v8.2.1))), (7, (.lst v10.1.Turns.length 4 (gl cs_Turn v10.1.Turns))), (8, (.box [(.c (.flt .f32 v10.1.Root.X.bits)), (.c (.flt .f32 v10.1.Root.Y.bits)), (.c (.flt .f32 v10.1.Root.Z.bits)), (.lst 7 v10.1.Turns.length 4 (gl cs_Turn v10.1.Turns))])), (15, (.lst (x29 ++ ([x28])).length 1 (gl (csI .i64) (x29 ++ ([x28])))))]⟩ ((Tt ∧ T2 ((0 ≤ x28 ∧ x28 < (v10.1.Turns.length : Int)) ∧ T4 ((0 ≤ x28 ∧ x28 < (v6.Turns.length : Int)) ∧ Tt ∧ ((((Eqc (.flt .f32 ((v10.1.Turns.getD x28.toNat default).W).bits)) ∧ (Eqc (.flt .f32 ((v10.1.Turns.getD x28.toNat default).X).bits)) ∧ (Eqc (.flt .f32 ((v10.1.Turns.getD x28.toNat default).Y).bits)) ∧ (Eqc (.flt .f32 ((v10.1.Turns.getD x28.toNat default).Z).bits)) ∧ Tt) ∧ ((Eqc (.flt .f32 ((v6.Turns.getD x28.toNat default).W).bits)) ∧ (Eqc (.flt .f32 ((v6.Turns.getD x28.toNat default).X).bits)) ∧ (Eqc (.flt .f32 ((v6.Turns.getD x28.toNat default).Y).bits)) ∧ (Eqc (.flt .f32 ((v6.Turns.getD x28.toNat default).Z).bits)) ∧ Tt) ∧ Tt) ∧ CallOK Try.prog 10 [.agg (cs_Turn (v10.1.Turns.getD x28.toNat default)), .agg (cs_Turn (v6.Turns.getD x28.toNat default))] [.one (.bool v34)]) ∧ Tt ∧ Tt))) ∧ (Tt)) 12 [.no, .no, .no, .no, .no, .no, .no, .no, .no, .no, .call [.agg (cs_Turn (v10.1.Turns.getD x28.toNat default)), .agg (cs_Turn (v6.Turns.getD x28.toNat default))] [.one (.bool v34)] [[.view]]] [5, 6, 7, 9, 11, 13, 14, 118] [1, 2, 3, 4, 6, 7, 8, 15] ⟨⟨tr, tr, tr, c32, tr, tr, tr, tr, c33, tr, ⟨⟨⟨rfl, rfl, rfl, rfl, tr⟩, ⟨rfl, rfl, rfl, rfl, tr⟩, tr⟩, ok_laws_b10TEqual K (v10.1.Turns.getD x28.toNat default) (v6.Turns.getD x28.toNat default) v34 e35⟩, tr, tr⟩, tr⟩ ?_
        refine thenQ_normal ?_
        rcases ite2_cases h with ⟨b36, h⟩ | ⟨b36, h⟩
        · refine AW.cond_t rfl b36 ?_
          refine AW.seq (AW.rA ⟨[(4, (vc (.bool false)))], []⟩ (Tt ∧ Tt) [] [4] [] ⟨tr, tr⟩ (thenQ_normal ?_))
          refine AW.ret ?_
          refine thenQ_ret ?_
          refine blockQ_ret ?_
          refine thenQ_ret ?_
          refine loopQ_ret ?_
          refine blockQ_ret ?_
          refine thenQ_ret ?_
          replace h := some_eq h
          subst h
          exact ⟨.inr rfl, retOK_of [(.one (.c (.bool false)))] (by kernel_rfl) ⟨⟨rfl, tr⟩, tr⟩ (of_decide_eq_true (by kernel_rfl))⟩
        · refine AW.cond_f rfl b36 ?_
          refine AW.skip ?_
          refine thenQ_normal ?_
          refine AW.seq ?_
          refine AW.seq (AW.rA ⟨[(5, (vp 2 0)), (6, (vc (.int .i64 (v4.Bones.length : Int)))), (7, (vp 4 0)), (9, (.v (.one (.lst 6 v8.2.1.length 3 (gl cs_Vector v8.2.1))))), (11, (vp 8 0)), (13, (.v (.one (.lst 15 (x29 ++ ([x28])).length 1 (gl (csI .i64) (x29 ++ ([x28]))))))), (14, (vc (.int .i64 x28))), (120, (vc (.bool (x28 == (0 : Int)))))], [(1, (.lst v4.Bones.length 4 (gl cs_Bone v4.Bones))), (2, (.box [(.lst 1 v4.Bones.length 4 (gl cs_Bone v4.Bones))])), (3, (.lst v6.Turns.length 4 (gl cs_Turn v6.Turns))), (4, (.box [(.c (.flt .f32 v6.Root.X.bits)), (.c (.flt .f32 v6.Root.Y.bits)), (.c (.flt .f32 v6.Root.Z.bits)), (.lst 3 v6.Turns.length 4 (gl cs_Turn v6.Turns))])), (6, (.lst v8.2.1.length 3 (gl cs_Vector v8.2.1))), (7, (.lst v10.1.Turns.length 4 (gl cs_Turn v10.1.Turns))), (8, (.box [(.c (.flt .f32 v10.1.Root.X.bits)), (.c (.flt .f32 v10.1.Root.Y.bits)), (.c (.flt .f32 v10.1.Root.Z.bits)), (.lst 7 v10.1.Turns.length 4 (gl cs_Turn v10.1.Turns))])), (15, (.lst (x29 ++ ([x28])).length 1 (gl (csI .i64) (x29 ++ ([x28])))))]⟩ (T2 Tt) [] [5, 6, 7, 9, 11, 13, 14, 120] [1, 2, 3, 4, 6, 7, 8, 15] ⟨tr, tr, tr⟩ (thenQ_normal ?_))
          rcases ite2_cases h with ⟨b37, h⟩ | ⟨b37, h⟩
          · refine AW.cond_t rfl b37 ?_
            refine AW.exit ?_
            refine thenQ_exit ?_
            refine blockQ_exit ?_
            refine thenQ_normal ?_
            refine AW.rA ⟨[(5, (vp 2 0)), (6, (vc (.int .i64 (v4.Bones.length : Int)))), (7, (vp 4 0)), (9, (.v (.one (.lst 6 v8.2.1.length 3 (gl cs_Vector v8.2.1))))), (11, (vp 8 0)), (13, (.v (.one (.lst 15 (x29 ++ ([x28])).length 1 (gl (csI .i64) (x29 ++ ([x28]))))))), (14, (vc (.int .i64 (IntKind.i64.wrap (x28 + (1 : Int))))))], [(1, (.lst v4.Bones.length 4 (gl cs_Bone v4.Bones))), (2, (.box [(.lst 1 v4.Bones.length 4 (gl cs_Bone v4.Bones))])), (3, (.lst v6.Turns.length 4 (gl cs_Turn v6.Turns))), (4, (.box [(.c (.flt .f32 v6.Root.X.bits)), (.c (.flt .f32 v6.Root.Y.bits)), (.c (.flt .f32 v6.Root.Z.bits)), (.lst 3 v6.Turns.length 4 (gl cs_Turn v6.Turns))])), (6, (.lst v8.2.1.length 3 (gl cs_Vector v8.2.1))), (7, (.lst v10.1.Turns.length 4 (gl cs_Turn v10.1.Turns))), (8, (.box [(.c (.flt .f32 v10.1.Root.X.bits)), (.c (.flt .f32 v10.1.Root.Y.bits)), (.c (.flt .f32 v10.1.Root.Z.bits)), (.lst 7 v10.1.Turns.length 4 (gl cs_Turn v10.1.Turns))])), (15, (.lst (x29 ++ ([x28])).length 1 (gl (csI .i64) (x29 ++ ([x28])))))]⟩ (Tt ∧ T2 Tt) [] [5, 6, 7, 9, 11, 13, 14] [1, 2, 3, 4, 6, 7, 8, 15] ⟨tr, tr, tr, tr⟩ ?_
            exact loopQ_normal (k, (IntKind.i64.wrap (x28 + (1 : Int))), (x29 ++ ([x28]))) h (Nat.lt_succ_self k) (Sub.trans (Sub.swap 9 15 _ (by kernel_rfl) (by kernel_rfl)) (Sub.keep [5, 6, 7, 9, 11, 13, 14] [1, 2, 3, 4, 6, 7, 8, 9] (by kernel_rfl) (by kernel_rfl)))
          · refine AW.cond_f rfl b37 ?_
            refine AW.skip ?_
            refine thenQ_normal ?_
            refine AW.seq ?_
            obtain ⟨c38, h⟩ := chk_some h
            refine AW.rA ⟨[(5, (vp 2 0)), (6, (vc (.int .i64 (v4.Bones.length : Int)))), (7, (vp 4 0)), (9, (.v (.one (.lst 6 v8.2.1.length 3 (gl cs_Vector v8.2.1))))), (11, (vp 8 0)), (13, (.v (.one (.lst 15 (x29 ++ ([x28])).length 1 (gl (csI .i64) (x29 ++ ([x28]))))))), (14, (vc (.int .i64 x28))), (15, (vc (.int .i64 ((v4.Bones.getD x28.toNat default).Parent))))], [(1, (.lst v4.Bones.length 4 (gl cs_Bone v4.Bones))), (2, (.box [(.lst 1 v4.Bones.length 4 (gl cs_Bone v4.Bones))])), (3, (.lst v6.Turns.length 4 (gl cs_Turn v6.Turns))), (4, (.box [(.c (.flt .f32 v6.Root.X.bits)), (.c (.flt .f32 v6.Root.Y.bits)), (.c (.flt .f32 v6.Root.Z.bits)), (.lst 3 v6.Turns.length 4 (gl cs_Turn v6.Turns))])), (6, (.lst v8.2.1.length 3 (gl cs_Vector v8.2.1))), (7, (.lst v10.1.Turns.length 4 (gl cs_Turn v10.1.Turns))), (8, (.box [(.c (.flt .f32 v10.1.Root.X.bits)), (.c (.flt .f32 v10.1.Root.Y.bits)), (.c (.flt .f32 v10.1.Root.Z.bits)), (.lst 7 v10.1.Turns.length 4 (gl cs_Turn v10.1.Turns))])), (15, (.lst (x29 ++ ([x28])).length 1 (gl (csI .i64) (x29 ++ ([x28])))))]⟩ (Tt ∧ T2 ((0 ≤ x28 ∧ x28 < (v4.Bones.length : Int)) ∧ Tt ∧ T2 Tt)) [] [5, 6, 7, 9, 11, 13, 14, 15] [1, 2, 3, 4, 6, 7, 8, 15] ⟨tr, tr, tr, c38, tr, tr, tr, tr⟩ ?_
            refine thenQ_normal ?_
            refine AW.seq ?_
            obtain ⟨c39, h⟩ := chk_some h
            obtain ⟨c40, h⟩ := chk_some h
            obtain ⟨v41, e42, h⟩ := bind_some h
            obtain ⟨v43, e44, h⟩ := bind_some h
            obtain ⟨v45, e46, h⟩ := bind_some h
            refine AW.dA ⟨[(5, (vp 2 0)), (6, (vc (.int .i64 (v4.Bones.length : Int)))), (7, (vp 4 0)), (9, (.v (.one (.lst 6 v8.2.1.length 3 (gl cs_Vector v8.2.1))))), (11, (vp 8 0)), (13, (.v (.one (.lst 15 (x29 ++ ([x28])).length 1 (gl (csI .i64) (x29 ++ ([x28]))))))), (14, (vc (.int .i64 x28))), (144, (vc (.bool (v43.ne v45))))], [(1, (.lst v4.Bones.length 4 (gl cs_Bone v4.Bones))), (2, (.box [(.lst 1 v4.Bones.length 4 (gl cs_Bone v4.Bones))])), (3, (.lst v6.Turns.length 4 (gl cs_Turn v6.Turns))), (4, (.box [(.c (.flt .f32 v6.Root.X.bits)), (.c (.flt .f32 v6.Root.Y.bits)), (.c (.flt .f32 v6.Root.Z.bits)), (.lst 3 v6.Turns.length 4 (gl cs_Turn v6.Turns))])), (6, (.lst v8.2.1.length 3 (gl cs_Vector v8.2.1))), (7, (.lst v10.1.Turns.length 4 (gl cs_Turn v10.1.Turns))), (8, (.box [(.c (.flt .f32 v10.1.Root.X.bits)), (.c (.flt .f32 v10.1.Root.Y.bits)), (.c (.flt .f32 v10.1.Root.Z.bits)), (.lst 7 v10.1.Turns.length 4 (gl cs_Turn v10.1.Turns))])), (15, (.lst (x29 ++ ([x28])).length 1 (gl (csI .i64) (x29 ++ ([x28])))))]⟩ ((T2 ((0 ≤ x28 ∧ x28 < (v8.2.1.length : Int)) ∧ Tt ∧ T2 ((0 ≤ ((v4.Bones.getD x28.toNat default).Parent) ∧ ((v4.Bones.getD x28.toNat default).Parent) < (v8.2.1.length : Int)) ∧ Tt ∧ ((((Eqc (.flt .f32 ((v8.2.1.getD x28.toNat default).X).bits)) ∧ (Eqc (.flt .f32 ((v8.2.1.getD x28.toNat default).Y).bits)) ∧ (Eqc (.flt .f32 ((v8.2.1.getD x28.toNat default).Z).bits)) ∧ Tt) ∧ ((((.flt .f32 ((v8.2.1.getD (((v4.Bones.getD x28.toNat default).Parent).toNat) default).X).bits) : C) = (.flt .f32 ((v8.2.1.getD (((v4.Bones.getD x28.toNat default).Parent).toNat) default).X).bits)) ∧ (((.flt .f32 ((v8.2.1.getD (((v4.Bones.getD x28.toNat default).Parent).toNat) default).Y).bits) : C) = (.flt .f32 ((v8.2.1.getD (((v4.Bones.getD x28.toNat default).Parent).toNat) default).Y).bits)) ∧ (((.flt .f32 ((v8.2.1.getD (((v4.Bones.getD x28.toNat default).Parent).toNat) default).Z).bits) : C) = (.flt .f32 ((v8.2.1.getD (((v4.Bones.getD x28.toNat default).Parent).toNat) default).Z).bits)) ∧ Tt) ∧ Tt) ∧ CallOK Try.prog 12 [.agg (cs_Vector (v8.2.1.getD x28.toNat default)), .agg (cs_Vector (v8.2.1.getD (((v4.Bones.getD x28.toNat default).Parent).toNat) default))] [.agg (cs_Vector v41)]) ∧ ((((Eqc (.flt .f32 v41.X.bits)) ∧ (Eqc (.flt .f32 v41.Y.bits)) ∧ (Eqc (.flt .f32 v41.Z.bits)) ∧ Tt) ∧ Tt) ∧ CallOK Try.prog 11 [.agg (cs_Vector v41)] [.one (.flt .f32 v43.bits)]) ∧ Tt ∧ T2 ((0 ≤ x28 ∧ x28 < (v4.Bones.length : Int)) ∧ T2 (((((Eqc (.flt .f32 (((v4.Bones.getD x28.toNat default).Offset).X).bits)) ∧ (Eqc (.flt .f32 (((v4.Bones.getD x28.toNat default).Offset).Y).bits)) ∧ (Eqc (.flt .f32 (((v4.Bones.getD x28.toNat default).Offset).Z).bits)) ∧ Tt) ∧ Tt) ∧ CallOK Try.prog 11 [.agg (cs_Vector ((v4.Bones.getD x28.toNat default).Offset))] [.one (.flt .f32 v45.bits)]) ∧ Tt ∧ Tt))))) ∧ (Tt)) 18 [.no, .no, .no, .no, .no, .no, .no, .no, .call [.agg (cs_Vector (v8.2.1.getD x28.toNat default)), .agg (cs_Vector (v8.2.1.getD (((v4.Bones.getD x28.toNat default).Parent).toNat) default))] [.agg (cs_Vector v41)] [[.view, .view, .view]], .call [.agg (cs_Vector v41)] [.one (.flt .f32 v43.bits)] [[.view]], .no, .no, .no, .no, .no, .no, .call [.agg (cs_Vector ((v4.Bones.getD x28.toNat default).Offset))] [.one (.flt .f32 v45.bits)] [[.view]]] [5, 6, 7, 9, 11, 13, 14, 144] [1, 2, 3, 4, 6, 7, 8, 15] ⟨⟨tr, tr, c39, tr, tr, tr, c40, tr, ⟨⟨⟨rfl, rfl, rfl, tr⟩, ⟨rfl, rfl, rfl, tr⟩, tr⟩, ok_spec_LessVectors K (v8.2.1.getD x28.toNat default) (v8.2.1.getD (((v4.Bones.getD x28.toNat default).Parent).toNat) default) v41 e42⟩, ⟨⟨⟨rfl, rfl, rfl, tr⟩, tr⟩, ok_laws_b10Square K v41 v43 e44⟩, tr, tr, tr, c38, tr, tr, ⟨⟨⟨rfl, rfl, rfl, tr⟩, tr⟩, ok_laws_b10Square K ((v4.Bones.getD x28.toNat default).Offset) v45 e46⟩, tr, tr⟩, tr⟩ ?_
            refine thenQ_normal ?_
            rcases ite2_cases h with ⟨b47, h⟩ | ⟨b47, h⟩
            · refine AW.cond_t rfl b47 ?_
              refine AW.seq (AW.rA ⟨[(4, (vc (.bool false)))], []⟩ (Tt ∧ Tt) [] [4] [] ⟨tr, tr⟩ (thenQ_normal ?_))
              refine AW.ret ?_
              refine blockQ_ret ?_
              refine thenQ_ret ?_
              refine loopQ_ret ?_
              refine blockQ_ret ?_
              refine thenQ_ret ?_
              replace h := some_eq h
              subst h
              exact ⟨.inr rfl, retOK_of [(.one (.c (.bool false)))] (by kernel_rfl) ⟨⟨rfl, tr⟩, tr⟩ (of_decide_eq_true (by kernel_rfl))⟩
            · refine AW.cond_f rfl b47 ?_
              refine AW.skip ?_
              refine blockQ_normal ?_
              refine thenQ_normal ?_
              refine AW.rA ⟨[(5, (vp 2 0)), (6, (vc (.int .i64 (v4.Bones.length : Int)))), (7, (vp 4 0)), (9, (.v (.one (.lst 6 v8.2.1.length 3 (gl cs_Vector v8.2.1))))), (11, (vp 8 0)), (13, (.v (.one (.lst 15 (x29 ++ ([x28])).length 1 (gl (csI .i64) (x29 ++ ([x28]))))))), (14, (vc (.int .i64 (IntKind.i64.wrap (x28 + (1 : Int))))))], [(1, (.lst v4.Bones.length 4 (gl cs_Bone v4.Bones))), (2, (.box [(.lst 1 v4.Bones.length 4 (gl cs_Bone v4.Bones))])), (3, (.lst v6.Turns.length 4 (gl cs_Turn v6.Turns))), (4, (.box [(.c (.flt .f32 v6.Root.X.bits)), (.c (.flt .f32 v6.Root.Y.bits)), (.c (.flt .f32 v6.Root.Z.bits)), (.lst 3 v6.Turns.length 4 (gl cs_Turn v6.Turns))])), (6, (.lst v8.2.1.length 3 (gl cs_Vector v8.2.1))), (7, (.lst v10.1.Turns.length 4 (gl cs_Turn v10.1.Turns))), (8, (.box [(.c (.flt .f32 v10.1.Root.X.bits)), (.c (.flt .f32 v10.1.Root.Y.bits)), (.c (.flt .f32 v10.1.Root.Z.bits)), (.lst 7 v10.1.Turns.length 4 (gl cs_Turn v10.1.Turns))])), (15, (.lst (x29 ++ ([x28])).length 1 (gl (csI .i64) (x29 ++ ([x28])))))]⟩ (Tt ∧ T2 Tt) [] [5, 6, 7, 9, 11, 13, 14] [1, 2, 3, 4, 6, 7, 8, 15] ⟨tr, tr, tr, tr⟩ ?_
              exact loopQ_normal (k, (IntKind.i64.wrap (x28 + (1 : Int))), (x29 ++ ([x28]))) h (Nat.lt_succ_self k) (Sub.trans (Sub.swap 9 15 _ (by kernel_rfl) (by kernel_rfl)) (Sub.keep [5, 6, 7, 9, 11, 13, 14] [1, 2, 3, 4, 6, 7, 8, 9] (by kernel_rfl) (by kernel_rfl)))
      · refine AW.cond_f rfl b30 ?_
        refine AW.exit ?_
        refine thenQ_exit ?_
        refine loopQ_exit ?_
        refine blockQ_exit ?_
        refine thenQ_normal ?_
        refine AW.seq ?_
        obtain ⟨v48, e49, h⟩ := bind_some h
        refine AW.rA ⟨[(5, (vp 2 0)), (6, (vc (.int .i64 (v4.Bones.length : Int)))), (9, (.v (.one (.lst 6 v8.2.1.length 3 (gl cs_Vector v8.2.1))))), (13, (.v (.one (.lst 9 x29.length 1 (gl (csI .i64) x29))))), (16, (vp 17 0)), (17, (vc (.bool v48.2)))], [(1, (.lst v4.Bones.length 4 (gl cs_Bone v4.Bones))), (2, (.box [(.lst 1 v4.Bones.length 4 (gl cs_Bone v4.Bones))])), (6, (.lst v8.2.1.length 3 (gl cs_Vector v8.2.1))), (9, (.lst x29.length 1 (gl (csI .i64) x29))), (16, (.lst v48.1.Turns.length 4 (gl cs_Turn v48.1.Turns))), (17, (.box [(.c (.flt .f32 v48.1.Root.X.bits)), (.c (.flt .f32 v48.1.Root.Y.bits)), (.c (.flt .f32 v48.1.Root.Z.bits)), (.lst 16 v48.1.Turns.length 4 (gl cs_Turn v48.1.Turns))]))]⟩ (Tt ∧ T2 (((((Eqc (sl 4 cs_Bone v4.Bones)) ∧ Tt) ∧ ((Eqc (.flt .f32 v6.Root.X.bits)) ∧ (Eqc (.flt .f32 v6.Root.Y.bits)) ∧ (Eqc (.flt .f32 v6.Root.Z.bits)) ∧ (Eqc (sl 4 cs_Turn v6.Turns)) ∧ Tt) ∧ (Eqc (sl 1 (csI .i64) x29)) ∧ Tt) ∧ CallOK Try.prog 13 [.agg (cs_Skeleton v4), .agg (cs_Pose v6), .one (sl 1 (csI .i64) x29)] [.agg (cs_Pose v48.1), .one (.bool v48.2)]) ∧ T2 (T4 Tt))) [.no, .no, .no, .call [.agg (cs_Skeleton v4), .agg (cs_Pose v6), .one (sl 1 (csI .i64) x29)] [.agg (cs_Pose v48.1), .one (.bool v48.2)] [[.view, .view, .view, .lst 16], [.view]], .no, .no, .no, .box 17] [5, 6, 9, 13, 16, 17] [1, 2, 6, 9, 16, 17] ⟨tr, tr, tr, ⟨⟨⟨rfl, tr⟩, ⟨rfl, rfl, rfl, rfl, tr⟩, rfl, tr⟩, ok_impl_MirrorPose K v4 v6 x29 v48 e49⟩, tr, tr, tr, tr, tr, tr, tr⟩ ?_
        refine thenQ_normal ?_
        refine AW.seq ?_
        obtain ⟨v50, e51, h⟩ := bind_some h
        refine AW.rA ⟨[(5, (vp 2 0)), (6, (vc (.int .i64 (v4.Bones.length : Int)))), (9, (.v (.one (.lst 6 v8.2.1.length 3 (gl cs_Vector v8.2.1))))), (13, (.v (.one (.lst 9 x29.length 1 (gl (csI .i64) x29))))), (16, (vp 17 0)), (17, (vc (.bool v48.2))), (18, (vp 19 0)), (19, (vc (.bool v50.2)))], [(1, (.lst v4.Bones.length 4 (gl cs_Bone v4.Bones))), (2, (.box [(.lst 1 v4.Bones.length 4 (gl cs_Bone v4.Bones))])), (6, (.lst v8.2.1.length 3 (gl cs_Vector v8.2.1))), (9, (.lst x29.length 1 (gl (csI .i64) x29))), (16, (.lst v48.1.Turns.length 4 (gl cs_Turn v48.1.Turns))), (17, (.box [(.c (.flt .f32 v48.1.Root.X.bits)), (.c (.flt .f32 v48.1.Root.Y.bits)), (.c (.flt .f32 v48.1.Root.Z.bits)), (.lst 16 v48.1.Turns.length 4 (gl cs_Turn v48.1.Turns))])), (18, (.lst v50.1.Bones.length 4 (gl cs_Bone v50.1.Bones))), (19, (.box [(.lst 18 v50.1.Bones.length 4 (gl cs_Bone v50.1.Bones))]))]⟩ (T2 (((((Eqc (sl 4 cs_Bone v4.Bones)) ∧ Tt) ∧ (Eqc (sl 1 (csI .i64) x29)) ∧ Tt) ∧ CallOK Try.prog 14 [.agg (cs_Skeleton v4), .one (sl 1 (csI .i64) x29)] [.agg (cs_Skeleton v50.1), .one (.bool v50.2)]) ∧ T2 (T4 Tt))) [.no, .no, .call [.agg (cs_Skeleton v4), .one (sl 1 (csI .i64) x29)] [.agg (cs_Skeleton v50.1), .one (.bool v50.2)] [[.lst 18], [.view]], .no, .no, .no, .box 19] [5, 6, 9, 13, 16, 17, 18, 19] [1, 2, 6, 9, 16, 17, 18, 19] ⟨tr, tr, ⟨⟨⟨rfl, tr⟩, rfl, tr⟩, ok_impl_MirrorSkeleton K v4 x29 v50 e51⟩, tr, tr, tr, tr, tr, tr, tr⟩ ?_
        refine thenQ_normal ?_
        refine AW.seq ?_
        obtain ⟨v52, e53, h⟩ := bind_some h
        refine AW.rA ⟨[(5, (vp 2 0)), (6, (vc (.int .i64 (v4.Bones.length : Int)))), (9, (.v (.one (.lst 6 v8.2.1.length 3 (gl cs_Vector v8.2.1))))), (13, (.v (.one (.lst 9 x29.length 1 (gl (csI .i64) x29))))), (17, (vc (.bool v48.2))), (19, (vc (.bool v50.2))), (21, (.v (.one (.lst 21 v52.2.1.length 3 (gl cs_Vector v52.2.1))))), (22, (vc (.bool v52.2.2)))], [(1, (.lst v4.Bones.length 4 (gl cs_Bone v4.Bones))), (2, (.box [(.lst 1 v4.Bones.length 4 (gl cs_Bone v4.Bones))])), (6, (.lst v8.2.1.length 3 (gl cs_Vector v8.2.1))), (9, (.lst x29.length 1 (gl (csI .i64) x29))), (21, (.lst v52.2.1.length 3 (gl cs_Vector v52.2.1)))]⟩ (T2 (((((Eqc (sl 4 cs_Bone v50.1.Bones)) ∧ Tt) ∧ ((Eqc (.flt .f32 v48.1.Root.X.bits)) ∧ (Eqc (.flt .f32 v48.1.Root.Y.bits)) ∧ (Eqc (.flt .f32 v48.1.Root.Z.bits)) ∧ (Eqc (sl 4 cs_Turn v48.1.Turns)) ∧ Tt) ∧ Tt) ∧ CallOK Try.prog 7 [.agg (cs_Skeleton v50.1), .agg (cs_Pose v48.1)] [.one (sl 4 cs_Turn v52.1), .one (sl 3 cs_Vector v52.2.1), .one (.bool v52.2.2)]) ∧ Tt ∧ T2 (T4 Tt))) [.no, .no, .call [.agg (cs_Skeleton v50.1), .agg (cs_Pose v48.1)] [.one (sl 4 cs_Turn v52.1), .one (sl 3 cs_Vector v52.2.1), .one (.bool v52.2.2)] [[.lst 20], [.lst 21], [.view]]] [5, 6, 9, 13, 17, 19, 21, 22] [1, 2, 6, 9, 21] ⟨tr, tr, ⟨⟨⟨rfl, tr⟩, ⟨rfl, rfl, rfl, rfl, tr⟩, tr⟩, ok_impl_WorldOf K v50.1 v48.1 v52 e53⟩, tr, tr, tr, tr, tr, tr, tr, tr⟩ ?_
        refine thenQ_normal ?_
        refine AW.seq ?_
        refine AW.seq ?_
        obtain ⟨j60, e61, h⟩ := bind_some h
        refine AW.join1 (s2 := ⟨[(6, (vc (.int .i64 (v4.Bones.length : Int)))), (9, (.v (.one (.lst 6 v8.2.1.length 3 (gl cs_Vector v8.2.1))))), (21, (.v (.one (.lst 21 v52.2.1.length 3 (gl cs_Vector v52.2.1))))), (186, (vc (.bool j60)))], [(6, (.lst v8.2.1.length 3 (gl cs_Vector v8.2.1))), (21, (.lst v52.2.1.length 3 (gl cs_Vector v52.2.1)))]⟩) ?_ ?_
        · rcases ite2_cases e61 with ⟨b54, e61⟩ | ⟨b54, e61⟩
          · replace e61 := some_eq e61
            subst e61
            exact AW.rA ⟨[(6, (vc (.int .i64 (v4.Bones.length : Int)))), (9, (.v (.one (.lst 6 v8.2.1.length 3 (gl cs_Vector v8.2.1))))), (21, (.v (.one (.lst 21 v52.2.1.length 3 (gl cs_Vector v52.2.1))))), (186, (vc (.bool true)))], [(6, (.lst v8.2.1.length 3 (gl cs_Vector v8.2.1))), (21, (.lst v52.2.1.length 3 (gl cs_Vector v52.2.1)))]⟩ (T2 ((Tt ∧ (!v48.2) = true) ∧ Tt ∧ T2 (T4 (T4 (T4 (T4 Tt)))))) [.no, .no, .dec true] [6, 9, 21, 186] [6, 21] ⟨tr, tr, ⟨tr, b54⟩, tr, tr, tr, tr, tr, tr, tr, tr, tr, tr, tr, tr, tr, tr, tr, tr, tr, tr, tr, tr⟩ ⟨rfl, rfl⟩
          · rcases ite2_cases e61 with ⟨b55, e61⟩ | ⟨b55, e61⟩
            · replace e61 := some_eq e61
              subst e61
              exact AW.rA ⟨[(6, (vc (.int .i64 (v4.Bones.length : Int)))), (9, (.v (.one (.lst 6 v8.2.1.length 3 (gl cs_Vector v8.2.1))))), (21, (.v (.one (.lst 21 v52.2.1.length 3 (gl cs_Vector v52.2.1))))), (186, (vc (.bool true)))], [(6, (.lst v8.2.1.length 3 (gl cs_Vector v8.2.1))), (21, (.lst v52.2.1.length 3 (gl cs_Vector v52.2.1)))]⟩ (T2 ((Tt ∧ (!v48.2) = false) ∧ Tt ∧ T2 ((Tt ∧ (!v50.2) = true) ∧ Tt ∧ T2 (T4 (T4 (T4 Tt)))))) [.no, .no, .dec false, .no, .no, .no, .dec true] [6, 9, 21, 186] [6, 21] ⟨tr, tr, ⟨tr, b54⟩, tr, tr, tr, ⟨tr, b55⟩, tr, tr, tr, tr, tr, tr, tr, tr, tr, tr, tr, tr, tr, tr, tr, tr⟩ ⟨rfl, rfl⟩
            · rcases ite2_cases e61 with ⟨b56, e61⟩ | ⟨b56, e61⟩
              · replace e61 := some_eq e61
                subst e61
                exact AW.rA ⟨[(6, (vc (.int .i64 (v4.Bones.length : Int)))), (9, (.v (.one (.lst 6 v8.2.1.length 3 (gl cs_Vector v8.2.1))))), (21, (.v (.one (.lst 21 v52.2.1.length 3 (gl cs_Vector v52.2.1))))), (186, (vc (.bool true)))], [(6, (.lst v8.2.1.length 3 (gl cs_Vector v8.2.1))), (21, (.lst v52.2.1.length 3 (gl cs_Vector v52.2.1)))]⟩ (T2 ((Tt ∧ (!v48.2) = false) ∧ Tt ∧ T2 ((Tt ∧ (!v50.2) = false) ∧ Tt ∧ T2 ((Tt ∧ (!v52.2.2) = true) ∧ Tt ∧ T2 (T4 (T4 Tt)))))) [.no, .no, .dec false, .no, .no, .no, .dec false, .no, .no, .no, .dec true] [6, 9, 21, 186] [6, 21] ⟨tr, tr, ⟨tr, b54⟩, tr, tr, tr, ⟨tr, b55⟩, tr, tr, tr, ⟨tr, b56⟩, tr, tr, tr, tr, tr, tr, tr, tr, tr, tr, tr, tr⟩ ⟨rfl, rfl⟩
              · rcases ite2_cases e61 with ⟨b57, e61⟩ | ⟨b57, e61⟩
                · replace e61 := some_eq e61
                  subst e61
                  exact AW.rA ⟨[(6, (vc (.int .i64 (v4.Bones.length : Int)))), (9, (.v (.one (.lst 6 v8.2.1.length 3 (gl cs_Vector v8.2.1))))), (21, (.v (.one (.lst 21 v52.2.1.length 3 (gl cs_Vector v52.2.1))))), (186, (vc (.bool true)))], [(6, (.lst v8.2.1.length 3 (gl cs_Vector v8.2.1))), (21, (.lst v52.2.1.length 3 (gl cs_Vector v52.2.1)))]⟩ (T2 ((Tt ∧ (!v48.2) = false) ∧ Tt ∧ T2 ((Tt ∧ (!v50.2) = false) ∧ Tt ∧ T2 ((Tt ∧ (!v52.2.2) = false) ∧ Tt ∧ T4 ((Tt ∧ ((v52.2.1.length : Int) != (v4.Bones.length : Int)) = true) ∧ Tt ∧ T4 Tt))))) [.no, .no, .dec false, .no, .no, .no, .dec false, .no, .no, .no, .dec false, .no, .no, .no, .no, .no, .dec true] [6, 9, 21, 186] [6, 21] ⟨tr, tr, ⟨tr, b54⟩, tr, tr, tr, ⟨tr, b55⟩, tr, tr, tr, ⟨tr, b56⟩, tr, tr, tr, tr, tr, ⟨tr, b57⟩, tr, tr, tr, tr, tr, tr⟩ ⟨rfl, rfl⟩
                · obtain ⟨v58, e59, e61⟩ := bind_some e61
                  replace e61 := some_eq e61
                  subst e61
                  exact AW.rA ⟨[(6, (vc (.int .i64 (v4.Bones.length : Int)))), (9, (.v (.one (.lst 6 v8.2.1.length 3 (gl cs_Vector v8.2.1))))), (21, (.v (.one (.lst 21 v52.2.1.length 3 (gl cs_Vector v52.2.1))))), (186, (vc (.bool (!v58))))], [(6, (.lst v8.2.1.length 3 (gl cs_Vector v8.2.1))), (21, (.lst v52.2.1.length 3 (gl cs_Vector v52.2.1)))]⟩ (T2 ((Tt ∧ (!v48.2) = false) ∧ Tt ∧ T2 ((Tt ∧ (!v50.2) = false) ∧ Tt ∧ T2 ((Tt ∧ (!v52.2.2) = false) ∧ Tt ∧ T4 ((Tt ∧ ((v52.2.1.length : Int) != (v4.Bones.length : Int)) = false) ∧ T2 (((((Eqc (sl 4 cs_Bone v4.Bones)) ∧ Tt) ∧ (Eqc (sl 1 (csI .i64) x29)) ∧ Tt) ∧ CallOK Try.prog 15 [.agg (cs_Skeleton v4), .one (sl 1 (csI .i64) x29)] [.one (.bool v58)]) ∧ T2 Tt)))))) [.no, .no, .dec false, .no, .no, .no, .dec false, .no, .no, .no, .dec false, .no, .no, .no, .no, .no, .dec false, .no, .no, .call [.agg (cs_Skeleton v4), .one (sl 1 (csI .i64) x29)] [.one (.bool v58)] [[.view]]] [6, 9, 21, 186] [6, 21] ⟨tr, tr, ⟨tr, b54⟩, tr, tr, tr, ⟨tr, b55⟩, tr, tr, tr, ⟨tr, b56⟩, tr, tr, tr, tr, tr, ⟨tr, b57⟩, tr, tr, ⟨⟨⟨rfl, tr⟩, rfl, tr⟩, ok_impl_IsPairing K v4 x29 v58 e59⟩, tr, tr, tr⟩ ⟨rfl, rfl⟩
        refine thenQ_normal ?_
        rcases ite2_cases h with ⟨b62, h⟩ | ⟨b62, h⟩
        · refine AW.cond_t rfl b62 ?_
          refine AW.seq (AW.rA ⟨[(4, (vc (.bool false)))], []⟩ (Tt ∧ Tt) [] [4] [] ⟨tr, tr⟩ (thenQ_normal ?_))
          refine AW.ret ?_
          refine thenQ_ret ?_
          replace h := some_eq h
          subst h
          exact ⟨.inr rfl, retOK_of [(.one (.c (.bool false)))] (by kernel_rfl) ⟨⟨rfl, tr⟩, tr⟩ (of_decide_eq_true (by kernel_rfl))⟩
        · refine AW.cond_f rfl b62 ?_
          refine AW.skip ?_
          refine thenQ_normal ?_
          refine AW.seq ?_
          refine AW.seq (AW.rA ⟨[(6, (vc (.int .i64 (v4.Bones.length : Int)))), (9, (.v (.one (.lst 6 v8.2.1.length 3 (gl cs_Vector v8.2.1))))), (21, (.v (.one (.lst 21 v52.2.1.length 3 (gl cs_Vector v52.2.1))))), (23, (vc (.int .i64 (0 : Int))))], [(6, (.lst v8.2.1.length 3 (gl cs_Vector v8.2.1))), (21, (.lst v52.2.1.length 3 (gl cs_Vector v52.2.1)))]⟩ (Tt ∧ Tt) [] [6, 9, 21, 23] [6, 21] ⟨tr, tr⟩ (thenQ_normal ?_))
          refine AW.block ?_
          refine AW.loopQ (σ := Nat × Int) (fun p => ⟨[(6, (vc (.int .i64 (v4.Bones.length : Int)))), (9, (.v (.one (.lst 6 v8.2.1.length 3 (gl cs_Vector v8.2.1))))), (21, (.v (.one (.lst 21 v52.2.1.length 3 (gl cs_Vector v52.2.1))))), (23, (vc (.int .i64 p.2)))], [(6, (.lst v8.2.1.length 3 (gl cs_Vector v8.2.1))), (21, (.lst v52.2.1.length 3 (gl cs_Vector v52.2.1)))]⟩) (fun p => laws_FnWorlds_l2 K v4 v8 v52 p.1 p.2 = some o) (fun p => p.1) (K, (0 : Int)) h ?_
          clear h
          rintro ⟨k, x64⟩ h
          replace h : laws_FnWorlds_l2 K v4 v8 v52 k x64 = some o := h
          show AW _ _ (⟨[(6, (vc (.int .i64 (v4.Bones.length : Int)))), (9, (.v (.one (.lst 6 v8.2.1.length 3 (gl cs_Vector v8.2.1))))), (21, (.v (.one (.lst 21 v52.2.1.length 3 (gl cs_Vector v52.2.1))))), (23, (vc (.int .i64 x64)))], [(6, (.lst v8.2.1.length 3 (gl cs_Vector v8.2.1))), (21, (.lst v52.2.1.length 3 (gl cs_Vector v52.2.1)))]⟩ : St) _
          obtain _ | k := k
          · rw [laws_FnWorlds_l2] at h; cases h
          rw [laws_FnWorlds_l2] at h
          refine AW.seq ?_
          refine AW.seq (AW.rA ⟨[(6, (vc (.int .i64 (v4.Bones.length : Int)))), (9, (.v (.one (.lst 6 v8.2.1.length 3 (gl cs_Vector v8.2.1))))), (21, (.v (.one (.lst 21 v52.2.1.length 3 (gl cs_Vector v52.2.1))))), (23, (vc (.int .i64 x64))), (189, (vc (.bool (decide (x64 < (v4.Bones.length : Int))))))], [(6, (.lst v8.2.1.length 3 (gl cs_Vector v8.2.1))), (21, (.lst v52.2.1.length 3 (gl cs_Vector v52.2.1)))]⟩ (Tt ∧ T2 Tt) [] [6, 9, 21, 23, 189] [6, 21] ⟨tr, tr, tr, tr⟩ (thenQ_normal ?_))
          rcases ite2_cases h with ⟨b65, h⟩ | ⟨b65, h⟩
          · refine AW.cond_t rfl b65 ?_
            refine AW.skip ?_
            refine thenQ_normal ?_
            refine AW.seq ?_
            refine AW.block ?_
            refine AW.seq ?_
            obtain ⟨c66, h⟩ := chk_some h
            obtain ⟨c67, h⟩ := chk_some h
            obtain ⟨v68, e69, h⟩ := bind_some h
            refine AW.dA ⟨[(6, (vc (.int .i64 (v4.Bones.length : Int)))), (9, (.v (.one (.lst 6 v8.2.1.length 3 (gl cs_Vector v8.2.1))))), (21, (.v (.one (.lst 21 v52.2.1.length 3 (gl cs_Vector v52.2.1))))), (23, (vc (.int .i64 x64))), (214, (vc (.bool (!v68))))], [(6, (.lst v8.2.1.length 3 (gl cs_Vector v8.2.1))), (21, (.lst v52.2.1.length 3 (gl cs_Vector v52.2.1)))]⟩ ((T2 ((0 ≤ x64 ∧ x64 < (v52.2.1.length : Int)) ∧ Tt ∧ T2 ((0 ≤ x64 ∧ x64 < (v8.2.1.length : Int)) ∧ Tt ∧ T4 ((0 ≤ x64 ∧ x64 < (v8.2.1.length : Int)) ∧ T4 ((0 ≤ x64 ∧ x64 < (v8.2.1.length : Int)) ∧ Tt ∧ T2 (((((Eqc (.flt .f32 ((v52.2.1.getD x64.toNat default).X).bits)) ∧ (Eqc (.flt .f32 ((v52.2.1.getD x64.toNat default).Y).bits)) ∧ (Eqc (.flt .f32 ((v52.2.1.getD x64.toNat default).Z).bits)) ∧ Tt) ∧ ((Eqc (.flt .f32 (((v8.2.1.getD x64.toNat default).X).neg).bits)) ∧ (Eqc (.flt .f32 ((v8.2.1.getD x64.toNat default).Y).bits)) ∧ (Eqc (.flt .f32 ((v8.2.1.getD x64.toNat default).Z).bits)) ∧ Tt) ∧ Tt) ∧ CallOK Try.prog 9 [.agg (cs_Vector (v52.2.1.getD x64.toNat default)), .agg (cs_Vector (Vector.mk (((v8.2.1.getD x64.toNat default).X).neg) ((v8.2.1.getD x64.toNat default).Y) ((v8.2.1.getD x64.toNat default).Z)))] [.one (.bool v68)]) ∧ Tt ∧ Tt)))))) ∧ (Tt)) 23 [.no, .no, .no, .no, .no, .no, .no, .no, .no, .no, .no, .no, .no, .no, .no, .no, .no, .no, .no, .no, .no, .call [.agg (cs_Vector (v52.2.1.getD x64.toNat default)), .agg (cs_Vector (Vector.mk (((v8.2.1.getD x64.toNat default).X).neg) ((v8.2.1.getD x64.toNat default).Y) ((v8.2.1.getD x64.toNat default).Z)))] [.one (.bool v68)] [[.view]]] [6, 9, 21, 23, 214] [6, 21] ⟨⟨tr, tr, c66, tr, tr, tr, c67, tr, tr, tr, tr, tr, c67, tr, tr, tr, tr, c67, tr, tr, tr, ⟨⟨⟨rfl, rfl, rfl, tr⟩, ⟨rfl, rfl, rfl, tr⟩, tr⟩, ok_laws_b10VEqual K (v52.2.1.getD x64.toNat default) (Vector.mk (((v8.2.1.getD x64.toNat default).X).neg) ((v8.2.1.getD x64.toNat default).Y) ((v8.2.1.getD x64.toNat default).Z)) v68 e69⟩, tr, tr⟩, tr⟩ ?_
            refine thenQ_normal ?_
            rcases ite2_cases h with ⟨b70, h⟩ | ⟨b70, h⟩
            · refine AW.cond_t rfl b70 ?_
              refine AW.seq (AW.rA ⟨[(4, (vc (.bool false)))], []⟩ (Tt ∧ Tt) [] [4] [] ⟨tr, tr⟩ (thenQ_normal ?_))
              refine AW.ret ?_
              refine blockQ_ret ?_
              refine thenQ_ret ?_
              refine loopQ_ret ?_
              refine blockQ_ret ?_
              refine thenQ_ret ?_
              replace h := some_eq h
              subst h
              exact ⟨.inr rfl, retOK_of [(.one (.c (.bool false)))] (by kernel_rfl) ⟨⟨rfl, tr⟩, tr⟩ (of_decide_eq_true (by kernel_rfl))⟩
            · refine AW.cond_f rfl b70 ?_
              refine AW.skip ?_
              refine blockQ_normal ?_
              refine thenQ_normal ?_
              refine AW.rA ⟨[(6, (vc (.int .i64 (v4.Bones.length : Int)))), (9, (.v (.one (.lst 6 v8.2.1.length 3 (gl cs_Vector v8.2.1))))), (21, (.v (.one (.lst 21 v52.2.1.length 3 (gl cs_Vector v52.2.1))))), (23, (vc (.int .i64 (IntKind.i64.wrap (x64 + (1 : Int))))))], [(6, (.lst v8.2.1.length 3 (gl cs_Vector v8.2.1))), (21, (.lst v52.2.1.length 3 (gl cs_Vector v52.2.1)))]⟩ (Tt ∧ T2 Tt) [] [6, 9, 21, 23] [6, 21] ⟨tr, tr, tr, tr⟩ ?_
              exact loopQ_normal (k, (IntKind.i64.wrap (x64 + (1 : Int)))) h (Nat.lt_succ_self k) (Sub.keep [6, 9, 21, 23] [6, 21] (by kernel_rfl) (by kernel_rfl))
          · refine AW.cond_f rfl b65 ?_
            refine AW.exit ?_
            refine thenQ_exit ?_
            refine loopQ_exit ?_
            refine blockQ_exit ?_
            refine thenQ_normal ?_
            refine AW.seq ?_
            obtain ⟨v71, e72, h⟩ := bind_some h
            refine AW.rA ⟨[(6, (vc (.int .i64 (v4.Bones.length : Int)))), (9, (.v (.one (.lst 6 v8.2.1.length 3 (gl cs_Vector v8.2.1))))), (24, (vp 22 0)), (25, (vp 23 0)), (26, (vc (.bool v71.2.2)))], [(6, (.lst v8.2.1.length 3 (gl cs_Vector v8.2.1))), (22, (.box [(.c (.flt .f32 v71.1.X.bits)), (.c (.flt .f32 v71.1.Y.bits)), (.c (.flt .f32 v71.1.Z.bits))])), (23, (.box [(.c (.flt .f32 v71.2.1.X.bits)), (.c (.flt .f32 v71.2.1.Y.bits)), (.c (.flt .f32 v71.2.1.Z.bits))]))]⟩ (Tt ∧ (((Eqc (sl 3 cs_Vector v8.2.1)) ∧ Tt) ∧ CallOK Try.prog 16 [.one (sl 3 cs_Vector v8.2.1)] [.agg (cs_Vector v71.1), .agg (cs_Vector v71.2.1), .one (.bool v71.2.2)]) ∧ Tt ∧ T4 (T4 Tt)) [.no, .call [.one (sl 3 cs_Vector v8.2.1)] [.agg (cs_Vector v71.1), .agg (cs_Vector v71.2.1), .one (.bool v71.2.2)] [[.view, .view, .view], [.view, .view, .view], [.view]], .no, .no, .no, .no, .box 22, .box 23] [6, 9, 24, 25, 26] [6, 22, 23] ⟨tr, ⟨⟨rfl, tr⟩, ok_impl_BoxOfPlaces K v8.2.1 v71 e72⟩, tr, tr, tr, tr, tr, tr, tr, tr, tr, tr⟩ ?_
            refine thenQ_normal ?_
            refine AW.seq ?_
            refine AW.seq (AW.rA ⟨[(6, (vc (.int .i64 (v4.Bones.length : Int)))), (9, (.v (.one (.lst 6 v8.2.1.length 3 (gl cs_Vector v8.2.1))))), (24, (vp 22 0)), (25, (vp 23 0)), (222, (vc (.bool (!v71.2.2))))], [(6, (.lst v8.2.1.length 3 (gl cs_Vector v8.2.1))), (22, (.box [(.c (.flt .f32 v71.1.X.bits)), (.c (.flt .f32 v71.1.Y.bits)), (.c (.flt .f32 v71.1.Z.bits))])), (23, (.box [(.c (.flt .f32 v71.2.1.X.bits)), (.c (.flt .f32 v71.2.1.Y.bits)), (.c (.flt .f32 v71.2.1.Z.bits))]))]⟩ (T2 Tt) [] [6, 9, 24, 25, 222] [6, 22, 23] ⟨tr, tr, tr⟩ (thenQ_normal ?_))
            rcases ite2_cases h with ⟨b73, h⟩ | ⟨b73, h⟩
            · refine AW.cond_t rfl b73 ?_
              refine AW.seq (AW.rA ⟨[(4, (vc (.bool false)))], []⟩ (Tt ∧ Tt) [] [4] [] ⟨tr, tr⟩ (thenQ_normal ?_))
              refine AW.ret ?_
              refine thenQ_ret ?_
              replace h := some_eq h
              subst h
              exact ⟨.inr rfl, retOK_of [(.one (.c (.bool false)))] (by kernel_rfl) ⟨⟨rfl, tr⟩, tr⟩ (of_decide_eq_true (by kernel_rfl))⟩
            · refine AW.cond_f rfl b73 ?_
              refine AW.skip ?_
              refine thenQ_normal ?_
              refine AW.seq ?_
              refine AW.seq (AW.rA ⟨[(6, (vc (.int .i64 (v4.Bones.length : Int)))), (9, (.v (.one (.lst 6 v8.2.1.length 3 (gl cs_Vector v8.2.1))))), (24, (vp 22 0)), (25, (vp 23 0)), (27, (vc (.int .i64 (0 : Int))))], [(6, (.lst v8.2.1.length 3 (gl cs_Vector v8.2.1))), (22, (.box [(.c (.flt .f32 v71.1.X.bits)), (.c (.flt .f32 v71.1.Y.bits)), (.c (.flt .f32 v71.1.Z.bits))])), (23, (.box [(.c (.flt .f32 v71.2.1.X.bits)), (.c (.flt .f32 v71.2.1.Y.bits)), (.c (.flt .f32 v71.2.1.Z.bits))]))]⟩ (Tt ∧ Tt) [] [6, 9, 24, 25, 27] [6, 22, 23] ⟨tr, tr⟩ (thenQ_normal ?_))
              refine AW.block ?_
              refine AW.loopQ (σ := Nat × Int) (fun p => ⟨[(6, (vc (.int .i64 (v4.Bones.length : Int)))), (9, (.v (.one (.lst 6 v8.2.1.length 3 (gl cs_Vector v8.2.1))))), (24, (vp 22 0)), (25, (vp 23 0)), (27, (vc (.int .i64 p.2)))], [(6, (.lst v8.2.1.length 3 (gl cs_Vector v8.2.1))), (22, (.box [(.c (.flt .f32 v71.1.X.bits)), (.c (.flt .f32 v71.1.Y.bits)), (.c (.flt .f32 v71.1.Z.bits))])), (23, (.box [(.c (.flt .f32 v71.2.1.X.bits)), (.c (.flt .f32 v71.2.1.Y.bits)), (.c (.flt .f32 v71.2.1.Z.bits))]))]⟩) (fun p => laws_FnWorlds_l3 K v4 v8 v71 p.1 p.2 = some o) (fun p => p.1) (K, (0 : Int)) h ?_
              clear h
              rintro ⟨k, x75⟩ h
              replace h : laws_FnWorlds_l3 K v4 v8 v71 k x75 = some o := h
              show AW _ _ (⟨[(6, (vc (.int .i64 (v4.Bones.length : Int)))), (9, (.v (.one (.lst 6 v8.2.1.length 3 (gl cs_Vector v8.2.1))))), (24, (vp 22 0)), (25, (vp 23 0)), (27, (vc (.int .i64 x75)))], [(6, (.lst v8.2.1.length 3 (gl cs_Vector v8.2.1))), (22, (.box [(.c (.flt .f32 v71.1.X.bits)), (.c (.flt .f32 v71.1.Y.bits)), (.c (.flt .f32 v71.1.Z.bits))])), (23, (.box [(.c (.flt .f32 v71.2.1.X.bits)), (.c (.flt .f32 v71.2.1.Y.bits)), (.c (.flt .f32 v71.2.1.Z.bits))]))]⟩ : St) _
              obtain _ | k := k
              · rw [laws_FnWorlds_l3] at h; cases h
              rw [laws_FnWorlds_l3] at h
              refine AW.seq ?_
              refine AW.seq (AW.rA ⟨[(6, (vc (.int .i64 (v4.Bones.length : Int)))), (9, (.v (.one (.lst 6 v8.2.1.length 3 (gl cs_Vector v8.2.1))))), (24, (vp 22 0)), (25, (vp 23 0)), (27, (vc (.int .i64 x75))), (225, (vc (.bool (decide (x75 < (v4.Bones.length : Int))))))], [(6, (.lst v8.2.1.length 3 (gl cs_Vector v8.2.1))), (22, (.box [(.c (.flt .f32 v71.1.X.bits)), (.c (.flt .f32 v71.1.Y.bits)), (.c (.flt .f32 v71.1.Z.bits))])), (23, (.box [(.c (.flt .f32 v71.2.1.X.bits)), (.c (.flt .f32 v71.2.1.Y.bits)), (.c (.flt .f32 v71.2.1.Z.bits))]))]⟩ (Tt ∧ T2 Tt) [] [6, 9, 24, 25, 27, 225] [6, 22, 23] ⟨tr, tr, tr, tr⟩ (thenQ_normal ?_))
              rcases ite2_cases h with ⟨b76, h⟩ | ⟨b76, h⟩
              · refine AW.cond_t rfl b76 ?_
                refine AW.skip ?_
                refine thenQ_normal ?_
                refine AW.seq ?_
                refine AW.block ?_
                refine AW.seq ?_
                obtain ⟨c77, h⟩ := chk_some h
                refine AW.rA ⟨[(6, (vc (.int .i64 (v4.Bones.length : Int)))), (9, (.v (.one (.lst 6 v8.2.1.length 3 (gl cs_Vector v8.2.1))))), (24, (vp 22 0)), (25, (vp 23 0)), (27, (vc (.int .i64 x75))), (28, (vp 26 0))], [(6, (.lst v8.2.1.length 3 (gl cs_Vector v8.2.1))), (22, (.box [(.c (.flt .f32 v71.1.X.bits)), (.c (.flt .f32 v71.1.Y.bits)), (.c (.flt .f32 v71.1.Z.bits))])), (23, (.box [(.c (.flt .f32 v71.2.1.X.bits)), (.c (.flt .f32 v71.2.1.Y.bits)), (.c (.flt .f32 v71.2.1.Z.bits))])), (26, (.box [(.c (.flt .f32 ((v8.2.1.getD x75.toNat default).X).bits)), (.c (.flt .f32 ((v8.2.1.getD x75.toNat default).Y).bits)), (.c (.flt .f32 ((v8.2.1.getD x75.toNat default).Z).bits))]))]⟩ (T2 ((0 ≤ x75 ∧ x75 < (v8.2.1.length : Int)) ∧ Tt ∧ T2 Tt)) [.no, .no, .no, .no, .box 26] [6, 9, 24, 25, 27, 28] [6, 22, 23, 26] ⟨tr, tr, c77, tr, tr, tr, tr⟩ ?_
                refine thenQ_normal ?_
                refine AW.seq ?_
                obtain ⟨j83, e84, h⟩ := bind_some h
                refine AW.join1 (s2 := ⟨[(6, (vc (.int .i64 (v4.Bones.length : Int)))), (9, (.v (.one (.lst 6 v8.2.1.length 3 (gl cs_Vector v8.2.1))))), (24, (vp 22 0)), (25, (vp 23 0)), (27, (vc (.int .i64 x75))), (271, (vc (.bool j83)))], [(6, (.lst v8.2.1.length 3 (gl cs_Vector v8.2.1))), (22, (.box [(.c (.flt .f32 v71.1.X.bits)), (.c (.flt .f32 v71.1.Y.bits)), (.c (.flt .f32 v71.1.Z.bits))])), (23, (.box [(.c (.flt .f32 v71.2.1.X.bits)), (.c (.flt .f32 v71.2.1.Y.bits)), (.c (.flt .f32 v71.2.1.Z.bits))]))]⟩) ?_ ?_
                · rcases ite2_cases e84 with ⟨b78, e84⟩ | ⟨b78, e84⟩
                  · replace e84 := some_eq e84
                    subst e84
                    exact AW.rA ⟨[(6, (vc (.int .i64 (v4.Bones.length : Int)))), (9, (.v (.one (.lst 6 v8.2.1.length 3 (gl cs_Vector v8.2.1))))), (24, (vp 22 0)), (25, (vp 23 0)), (27, (vc (.int .i64 x75))), (271, (vc (.bool true)))], [(6, (.lst v8.2.1.length 3 (gl cs_Vector v8.2.1))), (22, (.box [(.c (.flt .f32 v71.1.X.bits)), (.c (.flt .f32 v71.1.Y.bits)), (.c (.flt .f32 v71.1.Z.bits))])), (23, (.box [(.c (.flt .f32 v71.2.1.X.bits)), (.c (.flt .f32 v71.2.1.Y.bits)), (.c (.flt .f32 v71.2.1.Z.bits))]))]⟩ (Tt ∧ T4 ((Tt ∧ (((v8.2.1.getD x75.toNat default).X).lt' v71.1.X) = true) ∧ T2 (T4 (T4 (T4 (T4 (T4 (T4 (T4 (T4 Tt)))))))))) [.no, .no, .no, .no, .no, .dec true] [6, 9, 24, 25, 27, 271] [6, 22, 23] ⟨tr, tr, tr, tr, tr, ⟨tr, b78⟩, tr, tr, tr, tr, tr, tr, tr, tr, tr, tr, tr, tr, tr, tr, tr, tr, tr, tr, tr, tr, tr, tr, tr, tr, tr, tr, tr, tr, tr, tr, tr, tr, tr, tr, tr⟩ ⟨rfl, rfl⟩
                  · rcases ite2_cases e84 with ⟨b79, e84⟩ | ⟨b79, e84⟩
                    · replace e84 := some_eq e84
                      subst e84
                      exact AW.rA ⟨[(6, (vc (.int .i64 (v4.Bones.length : Int)))), (9, (.v (.one (.lst 6 v8.2.1.length 3 (gl cs_Vector v8.2.1))))), (24, (vp 22 0)), (25, (vp 23 0)), (27, (vc (.int .i64 x75))), (271, (vc (.bool true)))], [(6, (.lst v8.2.1.length 3 (gl cs_Vector v8.2.1))), (22, (.box [(.c (.flt .f32 v71.1.X.bits)), (.c (.flt .f32 v71.1.Y.bits)), (.c (.flt .f32 v71.1.Z.bits))])), (23, (.box [(.c (.flt .f32 v71.2.1.X.bits)), (.c (.flt .f32 v71.2.1.Y.bits)), (.c (.flt .f32 v71.2.1.Z.bits))]))]⟩ (Tt ∧ T4 ((Tt ∧ (((v8.2.1.getD x75.toNat default).X).lt' v71.1.X) = false) ∧ T2 (T4 ((Tt ∧ (((v8.2.1.getD x75.toNat default).Y).lt' v71.1.Y) = true) ∧ Tt ∧ T2 (T4 (T4 (T4 (T4 (T4 (T4 Tt)))))))))) [.no, .no, .no, .no, .no, .dec false, .no, .no, .no, .no, .no, .no, .dec true] [6, 9, 24, 25, 27, 271] [6, 22, 23] ⟨tr, tr, tr, tr, tr, ⟨tr, b78⟩, tr, tr, tr, tr, tr, tr, ⟨tr, b79⟩, tr, tr, tr, tr, tr, tr, tr, tr, tr, tr, tr, tr, tr, tr, tr, tr, tr, tr, tr, tr, tr, tr, tr, tr, tr, tr, tr, tr⟩ ⟨rfl, rfl⟩
                    · rcases ite2_cases e84 with ⟨b80, e84⟩ | ⟨b80, e84⟩
                      · replace e84 := some_eq e84
                        subst e84
                        exact AW.rA ⟨[(6, (vc (.int .i64 (v4.Bones.length : Int)))), (9, (.v (.one (.lst 6 v8.2.1.length 3 (gl cs_Vector v8.2.1))))), (24, (vp 22 0)), (25, (vp 23 0)), (27, (vc (.int .i64 x75))), (271, (vc (.bool true)))], [(6, (.lst v8.2.1.length 3 (gl cs_Vector v8.2.1))), (22, (.box [(.c (.flt .f32 v71.1.X.bits)), (.c (.flt .f32 v71.1.Y.bits)), (.c (.flt .f32 v71.1.Z.bits))])), (23, (.box [(.c (.flt .f32 v71.2.1.X.bits)), (.c (.flt .f32 v71.2.1.Y.bits)), (.c (.flt .f32 v71.2.1.Z.bits))]))]⟩ (Tt ∧ T4 ((Tt ∧ (((v8.2.1.getD x75.toNat default).X).lt' v71.1.X) = false) ∧ T2 (T4 ((Tt ∧ (((v8.2.1.getD x75.toNat default).Y).lt' v71.1.Y) = false) ∧ T2 (T4 ((Tt ∧ (((v8.2.1.getD x75.toNat default).Z).lt' v71.1.Z) = true) ∧ T4 (T4 (T4 (T4 (T4 Tt)))))))))) [.no, .no, .no, .no, .no, .dec false, .no, .no, .no, .no, .no, .no, .dec false, .no, .no, .no, .no, .no, .no, .dec true] [6, 9, 24, 25, 27, 271] [6, 22, 23] ⟨tr, tr, tr, tr, tr, ⟨tr, b78⟩, tr, tr, tr, tr, tr, tr, ⟨tr, b79⟩, tr, tr, tr, tr, tr, tr, ⟨tr, b80⟩, tr, tr, tr, tr, tr, tr, tr, tr, tr, tr, tr, tr, tr, tr, tr, tr, tr, tr, tr, tr, tr⟩ ⟨rfl, rfl⟩
                      · rcases ite2_cases e84 with ⟨b81, e84⟩ | ⟨b81, e84⟩
                        · replace e84 := some_eq e84
                          subst e84
                          exact AW.rA ⟨[(6, (vc (.int .i64 (v4.Bones.length : Int)))), (9, (.v (.one (.lst 6 v8.2.1.length 3 (gl cs_Vector v8.2.1))))), (24, (vp 22 0)), (25, (vp 23 0)), (27, (vc (.int .i64 x75))), (271, (vc (.bool true)))], [(6, (.lst v8.2.1.length 3 (gl cs_Vector v8.2.1))), (22, (.box [(.c (.flt .f32 v71.1.X.bits)), (.c (.flt .f32 v71.1.Y.bits)), (.c (.flt .f32 v71.1.Z.bits))])), (23, (.box [(.c (.flt .f32 v71.2.1.X.bits)), (.c (.flt .f32 v71.2.1.Y.bits)), (.c (.flt .f32 v71.2.1.Z.bits))]))]⟩ (Tt ∧ T4 ((Tt ∧ (((v8.2.1.getD x75.toNat default).X).lt' v71.1.X) = false) ∧ T2 (T4 ((Tt ∧ (((v8.2.1.getD x75.toNat default).Y).lt' v71.1.Y) = false) ∧ T2 (T4 ((Tt ∧ (((v8.2.1.getD x75.toNat default).Z).lt' v71.1.Z) = false) ∧ T2 (T4 ((Tt ∧ (((v8.2.1.getD x75.toNat default).X).gt v71.2.1.X) = true) ∧ Tt ∧ T4 (T4 (T4 Tt)))))))))) [.no, .no, .no, .no, .no, .dec false, .no, .no, .no, .no, .no, .no, .dec false, .no, .no, .no, .no, .no, .no, .dec false, .no, .no, .no, .no, .no, .no, .dec true] [6, 9, 24, 25, 27, 271] [6, 22, 23] ⟨tr, tr, tr, tr, tr, ⟨tr, b78⟩, tr, tr, tr, tr, tr, tr, ⟨tr, b79⟩, tr, tr, tr, tr, tr, tr, ⟨tr, b80⟩, tr, tr, tr, tr, tr, tr, ⟨tr, b81⟩, tr, tr, tr, tr, tr, tr, tr, tr, tr, tr, tr, tr, tr, tr⟩ ⟨rfl, rfl⟩
                        · rcases ite2_cases e84 with ⟨b82, e84⟩ | ⟨b82, e84⟩
                          · replace e84 := some_eq e84
                            subst e84
                            exact AW.rA ⟨[(6, (vc (.int .i64 (v4.Bones.length : Int)))), (9, (.v (.one (.lst 6 v8.2.1.length 3 (gl cs_Vector v8.2.1))))), (24, (vp 22 0)), (25, (vp 23 0)), (27, (vc (.int .i64 x75))), (271, (vc (.bool true)))], [(6, (.lst v8.2.1.length 3 (gl cs_Vector v8.2.1))), (22, (.box [(.c (.flt .f32 v71.1.X.bits)), (.c (.flt .f32 v71.1.Y.bits)), (.c (.flt .f32 v71.1.Z.bits))])), (23, (.box [(.c (.flt .f32 v71.2.1.X.bits)), (.c (.flt .f32 v71.2.1.Y.bits)), (.c (.flt .f32 v71.2.1.Z.bits))]))]⟩ (Tt ∧ T4 ((Tt ∧ (((v8.2.1.getD x75.toNat default).X).lt' v71.1.X) = false) ∧ T2 (T4 ((Tt ∧ (((v8.2.1.getD x75.toNat default).Y).lt' v71.1.Y) = false) ∧ T2 (T4 ((Tt ∧ (((v8.2.1.getD x75.toNat default).Z).lt' v71.1.Z) = false) ∧ T2 (T4 ((Tt ∧ (((v8.2.1.getD x75.toNat default).X).gt v71.2.1.X) = false) ∧ T2 (T4 ((Tt ∧ (((v8.2.1.getD x75.toNat default).Y).gt v71.2.1.Y) = true) ∧ T2 (T4 Tt))))))))))) [.no, .no, .no, .no, .no, .dec false, .no, .no, .no, .no, .no, .no, .dec false, .no, .no, .no, .no, .no, .no, .dec false, .no, .no, .no, .no, .no, .no, .dec false, .no, .no, .no, .no, .no, .no, .dec true] [6, 9, 24, 25, 27, 271] [6, 22, 23] ⟨tr, tr, tr, tr, tr, ⟨tr, b78⟩, tr, tr, tr, tr, tr, tr, ⟨tr, b79⟩, tr, tr, tr, tr, tr, tr, ⟨tr, b80⟩, tr, tr, tr, tr, tr, tr, ⟨tr, b81⟩, tr, tr, tr, tr, tr, tr, ⟨tr, b82⟩, tr, tr, tr, tr, tr, tr, tr⟩ ⟨rfl, rfl⟩
                          · replace e84 := some_eq e84
                            subst e84
                            exact AW.rA ⟨[(6, (vc (.int .i64 (v4.Bones.length : Int)))), (9, (.v (.one (.lst 6 v8.2.1.length 3 (gl cs_Vector v8.2.1))))), (24, (vp 22 0)), (25, (vp 23 0)), (27, (vc (.int .i64 x75))), (271, (vc (.bool (((v8.2.1.getD x75.toNat default).Z).gt v71.2.1.Z))))], [(6, (.lst v8.2.1.length 3 (gl cs_Vector v8.2.1))), (22, (.box [(.c (.flt .f32 v71.1.X.bits)), (.c (.flt .f32 v71.1.Y.bits)), (.c (.flt .f32 v71.1.Z.bits))])), (23, (.box [(.c (.flt .f32 v71.2.1.X.bits)), (.c (.flt .f32 v71.2.1.Y.bits)), (.c (.flt .f32 v71.2.1.Z.bits))]))]⟩ (Tt ∧ T4 ((Tt ∧ (((v8.2.1.getD x75.toNat default).X).lt' v71.1.X) = false) ∧ T2 (T4 ((Tt ∧ (((v8.2.1.getD x75.toNat default).Y).lt' v71.1.Y) = false) ∧ T2 (T4 ((Tt ∧ (((v8.2.1.getD x75.toNat default).Z).lt' v71.1.Z) = false) ∧ T2 (T4 ((Tt ∧ (((v8.2.1.getD x75.toNat default).X).gt v71.2.1.X) = false) ∧ T2 (T4 ((Tt ∧ (((v8.2.1.getD x75.toNat default).Y).gt v71.2.1.Y) = false) ∧ T2 (T4 Tt))))))))))) [.no, .no, .no, .no, .no, .dec false, .no, .no, .no, .no, .no, .no, .dec false, .no, .no, .no, .no, .no, .no, .dec false, .no, .no, .no, .no, .no, .no, .dec false, .no, .no, .no, .no, .no, .no, .dec false] [6, 9, 24, 25, 27, 271] [6, 22, 23] ⟨tr, tr, tr, tr, tr, ⟨tr, b78⟩, tr, tr, tr, tr, tr, tr, ⟨tr, b79⟩, tr, tr, tr, tr, tr, tr, ⟨tr, b80⟩, tr, tr, tr, tr, tr, tr, ⟨tr, b81⟩, tr, tr, tr, tr, tr, tr, ⟨tr, b82⟩, tr, tr, tr, tr, tr, tr, tr⟩ ⟨rfl, rfl⟩
                refine thenQ_normal ?_
                rcases ite2_cases h with ⟨b85, h⟩ | ⟨b85, h⟩
                · refine AW.cond_t rfl b85 ?_
                  refine AW.seq (AW.rA ⟨[(4, (vc (.bool false)))], []⟩ (Tt ∧ Tt) [] [4] [] ⟨tr, tr⟩ (thenQ_normal ?_))
                  refine AW.ret ?_
                  refine blockQ_ret ?_
                  refine thenQ_ret ?_
                  refine loopQ_ret ?_
                  refine blockQ_ret ?_
                  refine thenQ_ret ?_
                  replace h := some_eq h
                  subst h
                  exact ⟨.inr rfl, retOK_of [(.one (.c (.bool false)))] (by kernel_rfl) ⟨⟨rfl, tr⟩, tr⟩ (of_decide_eq_true (by kernel_rfl))⟩
                · refine AW.cond_f rfl b85 ?_
                  refine AW.skip ?_
                  refine blockQ_normal ?_
                  refine thenQ_normal ?_
                  refine AW.rA ⟨[(6, (vc (.int .i64 (v4.Bones.length : Int)))), (9, (.v (.one (.lst 6 v8.2.1.length 3 (gl cs_Vector v8.2.1))))), (24, (vp 22 0)), (25, (vp 23 0)), (27, (vc (.int .i64 (IntKind.i64.wrap (x75 + (1 : Int))))))], [(6, (.lst v8.2.1.length 3 (gl cs_Vector v8.2.1))), (22, (.box [(.c (.flt .f32 v71.1.X.bits)), (.c (.flt .f32 v71.1.Y.bits)), (.c (.flt .f32 v71.1.Z.bits))])), (23, (.box [(.c (.flt .f32 v71.2.1.X.bits)), (.c (.flt .f32 v71.2.1.Y.bits)), (.c (.flt .f32 v71.2.1.Z.bits))]))]⟩ (Tt ∧ T2 Tt) [] [6, 9, 24, 25, 27] [6, 22, 23] ⟨tr, tr, tr, tr⟩ ?_
                  exact loopQ_normal (k, (IntKind.i64.wrap (x75 + (1 : Int)))) h (Nat.lt_succ_self k) (Sub.keep [6, 9, 24, 25, 27] [6, 22, 23] (by kernel_rfl) (by kernel_rfl))
              · refine AW.cond_f rfl b76 ?_
                refine AW.exit ?_
                refine thenQ_exit ?_
                refine loopQ_exit ?_
                refine blockQ_exit ?_
                refine thenQ_normal ?_
                refine AW.seq (AW.rA ⟨[(4, (vc (.bool true)))], []⟩ (Tt ∧ Tt) [] [4] [] ⟨tr, tr⟩ (thenQ_normal ?_))
                refine AW.ret ?_
                replace h := some_eq h
                subst h
                exact ⟨.inr rfl, retOK_of [(.one (.c (.bool true)))] (by kernel_rfl) ⟨⟨rfl, tr⟩, tr⟩ (of_decide_eq_true (by kernel_rfl))⟩

end
end Go.Fw
