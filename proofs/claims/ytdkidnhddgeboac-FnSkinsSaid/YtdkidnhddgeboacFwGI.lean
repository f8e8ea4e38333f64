/- Functions of the program: what each computes, and that it computes just that. -/
import Derived.Test.YtdkidnhddgeboacFwTy
import Derived.Test.YtdkidnhddgeboacFwH
import Derived.Test.YtdkidnhddgeboacFwV
import Derived.Test.YtdkidnhddgeboacFwGI1
import Derived.Test.YtdkidnhddgeboacFwMK
import Derived.Test.YtdkidnhddgeboacFwLB
import Derived.Test.YtdkidnhddgeboacFwSh
import Derived.Test.YtdkidnhddgeboacFwSO
import Derived.Test.YtdkidnhddgeboacFwU
import Derived.Test.YtdkidnhddgeboacProg
import Derived.KernelRfl
namespace Go.Fw
open Go Go.Proofs
noncomputable section
set_option maxRecDepth 10000

/-! impl.SkinLinear -/
def impl_SkinLinear_l5 (K : Nat) (a3 : (List SkinPoint)) (v4 : ((List Turn) × (List Vector))) (x8 : Int) : Nat → Int → F32 → F32 → F32 → Option (F32 × F32 × F32)
  | 0, _, _, _, _ => none
  | k + 1, x39, x40, x41, x42 => ite2 ((decide (x39 < (((a3.getD x8.toNat default).Bones).length : Int)))) (chk (0 ≤ x39 ∧ x39 < (((a3.getD x8.toNat default).Bones).length : Int)) (chk (0 ≤ (((a3.getD x8.toNat default).Bones).getD x39.toNat default) ∧ (((a3.getD x8.toNat default).Bones).getD x39.toNat default) < (v4.1.length : Int)) ((impl_RotateBy K (v4.1.getD ((((a3.getD x8.toNat default).Bones).getD x39.toNat default).toNat) default) ((a3.getD x8.toNat default).Place)).bind fun v46 => chk (0 ≤ (((a3.getD x8.toNat default).Bones).getD x39.toNat default) ∧ (((a3.getD x8.toNat default).Bones).getD x39.toNat default) < (v4.2.length : Int)) ((impl_AddVectors K v46 (v4.2.getD ((((a3.getD x8.toNat default).Bones).getD x39.toNat default).toNat) default)).bind fun v49 => chk (0 ≤ x39 ∧ x39 < (((a3.getD x8.toNat default).Weights).length : Int)) ((impl_ScaleVector K v49 (((a3.getD x8.toNat default).Weights).getD x39.toNat default)).bind fun v52 => (impl_AddVectors K (Vector.mk x40 x41 x42) v52).bind fun v54 => impl_SkinLinear_l5 K a3 v4 x8 k (IntKind.i64.wrap (x39 + (1 : Int))) v54.X v54.Y v54.Z))))) (some (x40, x41, x42))

def impl_SkinLinear_l4 (K : Nat) (a3 : (List SkinPoint)) (v4 : ((List Turn) × (List Vector))) : Nat → Int → (List Vector) → Option ((List Vector) × Bool)
  | 0, _, _ => none
  | k + 1, x8, x9 => ite2 ((decide (x8 < (a3.length : Int)))) (chk (0 ≤ x8 ∧ x8 < (a3.length : Int)) ((impl_SkinLinear_l5 K a3 v4 x8 K (0 : Int) (default : F32) (default : F32) (default : F32)).bind fun j34 => chk ((x9.length + ([(Vector.mk j34.1 j34.2.1 j34.2.2)]).length) * 12 ≤ 140737488355328) (impl_SkinLinear_l4 K a3 v4 k (IntKind.i64.wrap (x8 + (1 : Int))) (x9 ++ ([(Vector.mk j34.1 j34.2.1 j34.2.2)]))))) (some (x9, true))

def impl_SkinLinear (K : Nat) (a0 : Skeleton) (a1 : Pose) (a2 : Pose) (a3 : (List SkinPoint)) : Option ((List Vector) × Bool) :=
  (impl_canSkin K a0 a1 a2 a3).bind fun v1 => ite2 ((!v1)) (some (([] : (List Vector)), false)) ((impl_Skeleton_moves K a0 a1 a2).bind fun v4 => impl_SkinLinear_l4 K a3 v4 K (0 : Int) ([] : (List Vector)))

theorem ok_impl_SkinLinear (K : Nat) (a0 : Skeleton) (a1 : Pose) (a2 : Pose) (a3 : (List SkinPoint)) (o : ((List Vector) × Bool)) (h : impl_SkinLinear K a0 a1 a2 a3 = some o) : CallOK Try.prog 8 [.agg (cs_Skeleton a0), .agg (cs_Pose a1), .agg (cs_Pose a2), .one (sl 5 cs_SkinPoint a3)] [.one (sl 3 cs_Vector o.1), .one (.bool o.2)] := by
  refine callOK_of_AW Try.func8 rfl (by kernel_rfl) (Nat.le_of_ble_eq_true (by kernel_rfl)) ?_
  intro w0
  unfold impl_SkinLinear at h
  refine AW.sC (Tt ∧ T4 Tt) [.box 1, .box 2, .box 3] [3, 4, 5, 6] [1, 2, 3] ⟨tr, tr, tr, tr, tr, tr⟩ ?_
  refine AW.seq ?_
  refine AW.seq ?_
  obtain ⟨v1, e2, h⟩ := bind_some h
  refine AW.tA ⟨[(3, (vc (sl 5 cs_SkinPoint a3))), (4, (vp 1 0)), (5, (vp 2 0)), (6, (vp 3 0)), (24, (vB (!v1)))], [(1, (.box [(.c (sl 4 cs_Bone a0.Bones))])), (2, (.box [(cF a1.Root.X), (cF a1.Root.Y), (cF a1.Root.Z), (.c (sl 4 cs_Turn a1.Turns))])), (3, (.box [(cF a2.Root.X), (cF a2.Root.Y), (cF a2.Root.Z), (.c (sl 4 cs_Turn a2.Turns))]))]⟩ (T4 (((((Eqc (sl 4 cs_Bone a0.Bones)) ∧ Tt) ∧ ((eF a1.Root.X) ∧ (eF a1.Root.Y) ∧ (eF a1.Root.Z) ∧ (Eqc (sl 4 cs_Turn a1.Turns)) ∧ Tt) ∧ ((eF a2.Root.X) ∧ (eF a2.Root.Y) ∧ (eF a2.Root.Z) ∧ (Eqc (sl 4 cs_Turn a2.Turns)) ∧ Tt) ∧ (Eqc (sl 5 cs_SkinPoint a3)) ∧ Tt) ∧ CallOK Try.prog 21 [.agg (cs_Skeleton a0), .agg (cs_Pose a1), .agg (cs_Pose a2), .one (sl 5 cs_SkinPoint a3)] [.one (.bool v1)]) ∧ Tt ∧ Tt)) [.no, .no, .no, .no, .call [.agg (cs_Skeleton a0), .agg (cs_Pose a1), .agg (cs_Pose a2), .one (sl 5 cs_SkinPoint a3)] [.one (.bool v1)] [[.view]]] [3, 4, 5, 6, 24] [1, 2, 3] ⟨tr, tr, tr, tr, ⟨⟨⟨rfl, tr⟩, ⟨rfl, rfl, rfl, rfl, tr⟩, ⟨rfl, rfl, rfl, rfl, tr⟩, rfl, tr⟩, ok_impl_canSkin K a0 a1 a2 a3 v1 e2⟩, tr, tr⟩ ?_
  rcases ite2_cases h with ⟨b3, h⟩ | ⟨b3, h⟩
  · refine AW.cond_t rfl b3 ?_
    refine AW.sA ⟨[(8, (.v (.one .nils))), (9, (vB false))], []⟩ (T2 Tt) [] [8, 9] [] ⟨tr, tr, tr⟩ ?_
    refine AW.ret ?_
    refine thenQ_ret ?_
    replace h := some_eq h
    subst h
    exact ⟨.inr rfl, retOK_of [(.one .nils), (.one (.c (.bool false)))] (by kernel_rfl) ⟨rfl, ⟨rfl, tr⟩, tr⟩ (of_decide_eq_true (by kernel_rfl))⟩
  · refine AW.cond_f rfl b3 ?_
    refine AW.skip ?_
    refine thenQ_normal ?_
    refine AW.seq ?_
    obtain ⟨v4, e5, h⟩ := bind_some h
    refine AW.tC (T2 ((((0 = 0 ∧ (Eqc (sl 4 cs_Bone a0.Bones)) ∧ Tt) ∧ ((eF a1.Root.X) ∧ (eF a1.Root.Y) ∧ (eF a1.Root.Z) ∧ (Eqc (sl 4 cs_Turn a1.Turns)) ∧ Tt) ∧ ((eF a2.Root.X) ∧ (eF a2.Root.Y) ∧ (eF a2.Root.Z) ∧ (Eqc (sl 4 cs_Turn a2.Turns)) ∧ Tt) ∧ Tt) ∧ CallOK Try.prog 22 [.one (pl 1 cs_Skeleton a0), .agg (cs_Pose a1), .agg (cs_Pose a2)] [.one (sl 4 cs_Turn v4.1), .one (sl 3 cs_Vector v4.2)]) ∧ Tt ∧ T4 Tt)) [.no, .no, .call [.one (pl 1 cs_Skeleton a0), .agg (cs_Pose a1), .agg (cs_Pose a2)] [.one (sl 4 cs_Turn v4.1), .one (sl 3 cs_Vector v4.2)] [[.lst 4], [.lst 5]]] [3, 10, 11] [4, 5] ⟨tr, tr, ⟨⟨⟨rfl, rfl, tr⟩, ⟨rfl, rfl, rfl, rfl, tr⟩, ⟨rfl, rfl, rfl, rfl, tr⟩, tr⟩, ok_impl_Skeleton_moves K a0 a1 a2 v4 e5⟩, tr, tr, tr, tr, tr, tr⟩ ?_
    refine AW.sC (Tt ∧ Tt) [] [3, 10, 11, 12] [4, 5] ⟨tr, tr⟩ ?_
    refine AW.seq ?_
    refine AW.sA ⟨[(10, (vL 4 4 cs_Turn v4.1)), (11, (vL 5 3 cs_Vector v4.2)), (12, (.v (.one .nils))), (31, (vc (sl 5 cs_SkinPoint a3))), (32, (vI (a3.length : Int))), (33, (vI (0 : Int)))], [(4, (oL 4 cs_Turn v4.1)), (5, (oL 3 cs_Vector v4.2))]⟩ (Tt ∧ T2 Tt) [] [10, 11, 12, 31, 32, 33] [4, 5] ⟨tr, tr, tr, tr⟩ ?_
    refine AW.block ?_
    refine AW.weak (s' := ⟨[(10, (vL 4 4 cs_Turn v4.1)), (11, (vL 5 3 cs_Vector v4.2)), (12, (vL 16 3 cs_Vector ([] : (List Vector)))), (31, (vc (sl 5 cs_SkinPoint a3))), (32, (vI (a3.length : Int))), (33, (vI (0 : Int)))], [(4, (oL 4 cs_Turn v4.1)), (5, (oL 3 cs_Vector v4.2)), (16, (oL 3 cs_Vector ([] : (List Vector))))]⟩) (Sub.trans (Sub.unnil 16 3 (gl cs_Vector ([] : (List Vector))) [12] [] _ (by kernel_rfl) (by kernel_rfl)) (Sub.keep [10, 11, 12, 31, 32, 33] [4, 5, 16] (by kernel_rfl) (by kernel_rfl))) ?_
    refine AW.loopQ (σ := Nat × Int × (List Vector)) (fun p => ⟨[(10, (vL 4 4 cs_Turn v4.1)), (11, (vL 5 3 cs_Vector v4.2)), (12, (vL 16 3 cs_Vector p.2.2)), (31, (vc (sl 5 cs_SkinPoint a3))), (32, (vI (a3.length : Int))), (33, (vI p.2.1))], [(4, (oL 4 cs_Turn v4.1)), (5, (oL 3 cs_Vector v4.2)), (16, (oL 3 cs_Vector p.2.2))]⟩) (fun p => impl_SkinLinear_l4 K a3 v4 p.1 p.2.1 p.2.2 = some o) (fun p => p.1) (K, (0 : Int), ([] : (List Vector))) h ?_
    clear h
    rintro ⟨k, x8, x9⟩ h
    replace h : impl_SkinLinear_l4 K a3 v4 k x8 x9 = some o := h
    show AW _ _ (⟨[(10, (vL 4 4 cs_Turn v4.1)), (11, (vL 5 3 cs_Vector v4.2)), (12, (vL 16 3 cs_Vector x9)), (31, (vc (sl 5 cs_SkinPoint a3))), (32, (vI (a3.length : Int))), (33, (vI x8))], [(4, (oL 4 cs_Turn v4.1)), (5, (oL 3 cs_Vector v4.2)), (16, (oL 3 cs_Vector x9))]⟩ : St) _
    obtain _ | k := k
    · rw [impl_SkinLinear_l4] at h; cases h
    rw [impl_SkinLinear_l4] at h
    refine AW.sA ⟨[(10, (vL 4 4 cs_Turn v4.1)), (11, (vL 5 3 cs_Vector v4.2)), (12, (vL 16 3 cs_Vector x9)), (31, (vc (sl 5 cs_SkinPoint a3))), (32, (vI (a3.length : Int))), (33, (vI x8)), (34, (vB (decide (x8 < (a3.length : Int)))))], [(4, (oL 4 cs_Turn v4.1)), (5, (oL 3 cs_Vector v4.2)), (16, (oL 3 cs_Vector x9))]⟩ (Tt ∧ Tt) [] [10, 11, 12, 31, 32, 33, 34] [4, 5, 16] ⟨tr, tr⟩ ?_
    refine AW.seq ?_
    rcases ite2_cases h with ⟨b10, h⟩ | ⟨b10, h⟩
    · refine AW.cond_t rfl b10 ?_
      refine AW.skip ?_
      refine thenQ_normal ?_
      refine AW.seq ?_
      refine AW.block ?_
      refine AW.seq ?_
      obtain ⟨c11, h⟩ := chk_some h
      refine AW.tC ((0 ≤ x8 ∧ x8 < (a3.length : Int)) ∧ Tt ∧ T2 Tt) [.no, .no, .box 37] [10, 11, 12, 14, 31, 32, 33] [4, 5, 16, 37] ⟨c11, tr, tr, tr, tr⟩ ?_
      refine AW.sC (Tt ∧ Tt) [.box 38] [10, 11, 12, 14, 15, 31, 32, 33] [4, 5, 16, 37, 38] ⟨tr, tr⟩ ?_
      refine AW.seq ?_
      refine AW.sA ⟨[(10, (vL 4 4 cs_Turn v4.1)), (11, (vL 5 3 cs_Vector v4.2)), (12, (vL 16 3 cs_Vector x9)), (14, (vp 37 0)), (15, (vp 38 0)), (31, (vc (sl 5 cs_SkinPoint a3))), (32, (vI (a3.length : Int))), (33, (vI x8)), (38, (vc (sl 1 (csI .i64) ((a3.getD x8.toNat default).Bones)))), (39, (vI (((a3.getD x8.toNat default).Bones).length : Int))), (40, (vI (0 : Int)))], [(4, (oL 4 cs_Turn v4.1)), (5, (oL 3 cs_Vector v4.2)), (16, (oL 3 cs_Vector x9)), (37, (.box [(cF (((a3.getD x8.toNat default).Place).X)), (cF (((a3.getD x8.toNat default).Place).Y)), (cF (((a3.getD x8.toNat default).Place).Z)), (.c (sl 1 (csI .i64) ((a3.getD x8.toNat default).Bones))), (.c (sl 1 (csF .f32) ((a3.getD x8.toNat default).Weights)))])), (38, (.box [(cF (default : F32)), (cF (default : F32)), (cF (default : F32))]))]⟩ (T4 Tt) [] [10, 11, 12, 14, 15, 31, 32, 33, 38, 39, 40] [4, 5, 16, 37, 38] ⟨tr, tr, tr, tr, tr⟩ ?_
      obtain ⟨j34, e33, h⟩ := bind_some h
      refine AW.joinS (s2 := ⟨[(10, (vL 4 4 cs_Turn v4.1)), (11, (vL 5 3 cs_Vector v4.2)), (12, (vL 16 3 cs_Vector x9)), (15, (vp 38 0)), (31, (vc (sl 5 cs_SkinPoint a3))), (32, (vI (a3.length : Int))), (33, (vI x8))], [(4, (oL 4 cs_Turn v4.1)), (5, (oL 3 cs_Vector v4.2)), (16, (oL 3 cs_Vector x9)), (38, (.box [(cF j34.1), (cF j34.2.1), (cF j34.2.2)]))]⟩) ?_ ?_
      · replace h := e33
        refine AW.block ?_
        refine AW.loopQ (σ := Nat × Int × F32 × F32 × F32) (fun p => ⟨[(10, (vL 4 4 cs_Turn v4.1)), (11, (vL 5 3 cs_Vector v4.2)), (12, (vL 16 3 cs_Vector x9)), (14, (vp 37 0)), (15, (vp 38 0)), (31, (vc (sl 5 cs_SkinPoint a3))), (32, (vI (a3.length : Int))), (33, (vI x8)), (38, (vc (sl 1 (csI .i64) ((a3.getD x8.toNat default).Bones)))), (39, (vI (((a3.getD x8.toNat default).Bones).length : Int))), (40, (vI p.2.1))], [(4, (oL 4 cs_Turn v4.1)), (5, (oL 3 cs_Vector v4.2)), (16, (oL 3 cs_Vector x9)), (37, (.box [(cF (((a3.getD x8.toNat default).Place).X)), (cF (((a3.getD x8.toNat default).Place).Y)), (cF (((a3.getD x8.toNat default).Place).Z)), (.c (sl 1 (csI .i64) ((a3.getD x8.toNat default).Bones))), (.c (sl 1 (csF .f32) ((a3.getD x8.toNat default).Weights)))])), (38, (.box [(cF p.2.2.1), (cF p.2.2.2.1), (cF p.2.2.2.2)]))]⟩) (fun p => impl_SkinLinear_l5 K a3 v4 x8 p.1 p.2.1 p.2.2.1 p.2.2.2.1 p.2.2.2.2 = some j34) (fun p => p.1) (K, (0 : Int), (default : F32), (default : F32), (default : F32)) h ?_
        clear h
        rintro ⟨k, x39, x40, x41, x42⟩ h
        replace h : impl_SkinLinear_l5 K a3 v4 x8 k x39 x40 x41 x42 = some j34 := h
        show AW _ _ (⟨[(10, (vL 4 4 cs_Turn v4.1)), (11, (vL 5 3 cs_Vector v4.2)), (12, (vL 16 3 cs_Vector x9)), (14, (vp 37 0)), (15, (vp 38 0)), (31, (vc (sl 5 cs_SkinPoint a3))), (32, (vI (a3.length : Int))), (33, (vI x8)), (38, (vc (sl 1 (csI .i64) ((a3.getD x8.toNat default).Bones)))), (39, (vI (((a3.getD x8.toNat default).Bones).length : Int))), (40, (vI x39))], [(4, (oL 4 cs_Turn v4.1)), (5, (oL 3 cs_Vector v4.2)), (16, (oL 3 cs_Vector x9)), (37, (.box [(cF (((a3.getD x8.toNat default).Place).X)), (cF (((a3.getD x8.toNat default).Place).Y)), (cF (((a3.getD x8.toNat default).Place).Z)), (.c (sl 1 (csI .i64) ((a3.getD x8.toNat default).Bones))), (.c (sl 1 (csF .f32) ((a3.getD x8.toNat default).Weights)))])), (38, (.box [(cF x40), (cF x41), (cF x42)]))]⟩ : St) _
        obtain _ | k := k
        · rw [impl_SkinLinear_l5] at h; cases h
        rw [impl_SkinLinear_l5] at h
        refine AW.sA ⟨[(10, (vL 4 4 cs_Turn v4.1)), (11, (vL 5 3 cs_Vector v4.2)), (12, (vL 16 3 cs_Vector x9)), (14, (vp 37 0)), (15, (vp 38 0)), (31, (vc (sl 5 cs_SkinPoint a3))), (32, (vI (a3.length : Int))), (33, (vI x8)), (38, (vc (sl 1 (csI .i64) ((a3.getD x8.toNat default).Bones)))), (39, (vI (((a3.getD x8.toNat default).Bones).length : Int))), (40, (vI x39)), (41, (vB (decide (x39 < (((a3.getD x8.toNat default).Bones).length : Int)))))], [(4, (oL 4 cs_Turn v4.1)), (5, (oL 3 cs_Vector v4.2)), (16, (oL 3 cs_Vector x9)), (37, (.box [(cF (((a3.getD x8.toNat default).Place).X)), (cF (((a3.getD x8.toNat default).Place).Y)), (cF (((a3.getD x8.toNat default).Place).Z)), (.c (sl 1 (csI .i64) ((a3.getD x8.toNat default).Bones))), (.c (sl 1 (csF .f32) ((a3.getD x8.toNat default).Weights)))])), (38, (.box [(cF x40), (cF x41), (cF x42)]))]⟩ (Tt ∧ Tt) [] [10, 11, 12, 14, 15, 31, 32, 33, 38, 39, 40, 41] [4, 5, 16, 37, 38] ⟨tr, tr⟩ ?_
        refine AW.seq ?_
        rcases ite2_cases h with ⟨b43, h⟩ | ⟨b43, h⟩
        · refine AW.cond_t rfl b43 ?_
          refine AW.skip ?_
          refine thenQ_normal ?_
          refine AW.seq ?_
          refine AW.block ?_
          refine AW.seq ?_
          obtain ⟨c44, h⟩ := chk_some h
          refine AW.tA ⟨[(10, (vL 4 4 cs_Turn v4.1)), (11, (vL 5 3 cs_Vector v4.2)), (12, (vL 16 3 cs_Vector x9)), (14, (vp 37 0)), (15, (vp 38 0)), (16, (vI x39)), (17, (vI (((a3.getD x8.toNat default).Bones).getD x39.toNat default))), (31, (vc (sl 5 cs_SkinPoint a3))), (32, (vI (a3.length : Int))), (33, (vI x8)), (38, (vc (sl 1 (csI .i64) ((a3.getD x8.toNat default).Bones)))), (39, (vI (((a3.getD x8.toNat default).Bones).length : Int))), (40, (vI x39))], [(4, (oL 4 cs_Turn v4.1)), (5, (oL 3 cs_Vector v4.2)), (16, (oL 3 cs_Vector x9)), (37, (.box [(cF (((a3.getD x8.toNat default).Place).X)), (cF (((a3.getD x8.toNat default).Place).Y)), (cF (((a3.getD x8.toNat default).Place).Z)), (.c (sl 1 (csI .i64) ((a3.getD x8.toNat default).Bones))), (.c (sl 1 (csF .f32) ((a3.getD x8.toNat default).Weights)))])), (38, (.box [(cF x40), (cF x41), (cF x42)]))]⟩ (Tt ∧ (0 ≤ x39 ∧ x39 < (((a3.getD x8.toNat default).Bones).length : Int)) ∧ Tt ∧ T2 Tt) [] [10, 11, 12, 14, 15, 16, 17, 31, 32, 33, 38, 39, 40] [4, 5, 16, 37, 38] ⟨tr, c44, tr, tr, tr, tr⟩ ?_
          refine AW.seq ?_
          obtain ⟨c45, h⟩ := chk_some h
          obtain ⟨v46, e47, h⟩ := bind_some h
          obtain ⟨c48, h⟩ := chk_some h
          obtain ⟨v49, e50, h⟩ := bind_some h
          refine AW.dA ⟨[(10, (vL 4 4 cs_Turn v4.1)), (11, (vL 5 3 cs_Vector v4.2)), (12, (vL 16 3 cs_Vector x9)), (14, (vp 37 0)), (15, (vp 38 0)), (16, (vI x39)), (18, (vp 44 0)), (31, (vc (sl 5 cs_SkinPoint a3))), (32, (vI (a3.length : Int))), (33, (vI x8)), (38, (vc (sl 1 (csI .i64) ((a3.getD x8.toNat default).Bones)))), (39, (vI (((a3.getD x8.toNat default).Bones).length : Int))), (40, (vI x39))], [(4, (oL 4 cs_Turn v4.1)), (5, (oL 3 cs_Vector v4.2)), (16, (oL 3 cs_Vector x9)), (37, (.box [(cF (((a3.getD x8.toNat default).Place).X)), (cF (((a3.getD x8.toNat default).Place).Y)), (cF (((a3.getD x8.toNat default).Place).Z)), (.c (sl 1 (csI .i64) ((a3.getD x8.toNat default).Bones))), (.c (sl 1 (csF .f32) ((a3.getD x8.toNat default).Weights)))])), (38, (.box [(cF x40), (cF x41), (cF x42)])), (44, (.box [(cF v49.X), (cF v49.Y), (cF v49.Z)]))]⟩ ((T2 ((0 ≤ (((a3.getD x8.toNat default).Bones).getD x39.toNat default) ∧ (((a3.getD x8.toNat default).Bones).getD x39.toNat default) < (v4.1.length : Int)) ∧ Tt ∧ T2 (((((((.flt .f32 ((v4.1.getD ((((a3.getD x8.toNat default).Bones).getD x39.toNat default).toNat) default).W).bits) : C) = (.flt .f32 ((v4.1.getD ((((a3.getD x8.toNat default).Bones).getD x39.toNat default).toNat) default).W).bits)) ∧ (((.flt .f32 ((v4.1.getD ((((a3.getD x8.toNat default).Bones).getD x39.toNat default).toNat) default).X).bits) : C) = (.flt .f32 ((v4.1.getD ((((a3.getD x8.toNat default).Bones).getD x39.toNat default).toNat) default).X).bits)) ∧ (((.flt .f32 ((v4.1.getD ((((a3.getD x8.toNat default).Bones).getD x39.toNat default).toNat) default).Y).bits) : C) = (.flt .f32 ((v4.1.getD ((((a3.getD x8.toNat default).Bones).getD x39.toNat default).toNat) default).Y).bits)) ∧ (((.flt .f32 ((v4.1.getD ((((a3.getD x8.toNat default).Bones).getD x39.toNat default).toNat) default).Z).bits) : C) = (.flt .f32 ((v4.1.getD ((((a3.getD x8.toNat default).Bones).getD x39.toNat default).toNat) default).Z).bits)) ∧ Tt) ∧ ((eF (((a3.getD x8.toNat default).Place).X)) ∧ (eF (((a3.getD x8.toNat default).Place).Y)) ∧ (eF (((a3.getD x8.toNat default).Place).Z)) ∧ Tt) ∧ Tt) ∧ CallOK Try.prog 24 [.agg (cs_Turn (v4.1.getD ((((a3.getD x8.toNat default).Bones).getD x39.toNat default).toNat) default)), .agg (cs_Vector ((a3.getD x8.toNat default).Place))] [.agg (cs_Vector v46)]) ∧ T2 ((0 ≤ (((a3.getD x8.toNat default).Bones).getD x39.toNat default) ∧ (((a3.getD x8.toNat default).Bones).getD x39.toNat default) < (v4.2.length : Int)) ∧ Tt ∧ ((((eF v46.X) ∧ (eF v46.Y) ∧ (eF v46.Z) ∧ Tt) ∧ ((((.flt .f32 ((v4.2.getD ((((a3.getD x8.toNat default).Bones).getD x39.toNat default).toNat) default).X).bits) : C) = (.flt .f32 ((v4.2.getD ((((a3.getD x8.toNat default).Bones).getD x39.toNat default).toNat) default).X).bits)) ∧ (((.flt .f32 ((v4.2.getD ((((a3.getD x8.toNat default).Bones).getD x39.toNat default).toNat) default).Y).bits) : C) = (.flt .f32 ((v4.2.getD ((((a3.getD x8.toNat default).Bones).getD x39.toNat default).toNat) default).Y).bits)) ∧ (((.flt .f32 ((v4.2.getD ((((a3.getD x8.toNat default).Bones).getD x39.toNat default).toNat) default).Z).bits) : C) = (.flt .f32 ((v4.2.getD ((((a3.getD x8.toNat default).Bones).getD x39.toNat default).toNat) default).Z).bits)) ∧ Tt) ∧ Tt) ∧ CallOK Try.prog 23 [.agg (cs_Vector v46), .agg (cs_Vector (v4.2.getD ((((a3.getD x8.toNat default).Bones).getD x39.toNat default).toNat) default))] [.agg (cs_Vector v49)]) ∧ Tt ∧ Tt)))) ∧ (Tt ∧ Tt)) 13 [.no, .no, .no, .no, .no, .no, .call [.agg (cs_Turn (v4.1.getD ((((a3.getD x8.toNat default).Bones).getD x39.toNat default).toNat) default)), .agg (cs_Vector ((a3.getD x8.toNat default).Place))] [.agg (cs_Vector v46)] [[.view, .view, .view]], .no, .no, .no, .no, .call [.agg (cs_Vector v46), .agg (cs_Vector (v4.2.getD ((((a3.getD x8.toNat default).Bones).getD x39.toNat default).toNat) default))] [.agg (cs_Vector v49)] [[.view, .view, .view]], .box 44] [10, 11, 12, 14, 15, 16, 18, 31, 32, 33, 38, 39, 40] [4, 5, 16, 37, 38, 44] ⟨⟨tr, tr, c45, tr, tr, tr, ⟨⟨⟨rfl, rfl, rfl, rfl, tr⟩, ⟨rfl, rfl, rfl, tr⟩, tr⟩, ok_impl_RotateBy K (v4.1.getD ((((a3.getD x8.toNat default).Bones).getD x39.toNat default).toNat) default) ((a3.getD x8.toNat default).Place) v46 e47⟩, tr, tr, c48, tr, ⟨⟨⟨rfl, rfl, rfl, tr⟩, ⟨rfl, rfl, rfl, tr⟩, tr⟩, ok_impl_AddVectors K v46 (v4.2.getD ((((a3.getD x8.toNat default).Bones).getD x39.toNat default).toNat) default) v49 e50⟩, tr, tr⟩, ⟨tr, tr⟩⟩ ?_
          refine thenQ_normal ?_
          obtain ⟨c51, h⟩ := chk_some h
          obtain ⟨v52, e53, h⟩ := bind_some h
          obtain ⟨v54, e55, h⟩ := bind_some h
          refine AW.dA ⟨[(10, (vL 4 4 cs_Turn v4.1)), (11, (vL 5 3 cs_Vector v4.2)), (12, (vL 16 3 cs_Vector x9)), (14, (vp 37 0)), (15, (vp 38 0)), (31, (vc (sl 5 cs_SkinPoint a3))), (32, (vI (a3.length : Int))), (33, (vI x8)), (38, (vc (sl 1 (csI .i64) ((a3.getD x8.toNat default).Bones)))), (39, (vI (((a3.getD x8.toNat default).Bones).length : Int))), (40, (vI x39))], [(4, (oL 4 cs_Turn v4.1)), (5, (oL 3 cs_Vector v4.2)), (16, (oL 3 cs_Vector x9)), (37, (.box [(cF (((a3.getD x8.toNat default).Place).X)), (cF (((a3.getD x8.toNat default).Place).Y)), (cF (((a3.getD x8.toNat default).Place).Z)), (.c (sl 1 (csI .i64) ((a3.getD x8.toNat default).Bones))), (.c (sl 1 (csF .f32) ((a3.getD x8.toNat default).Weights)))])), (38, (.box [(cF v54.X), (cF v54.Y), (cF v54.Z)]))]⟩ ((Tt ∧ T4 ((0 ≤ x39 ∧ x39 < (((a3.getD x8.toNat default).Weights).length : Int)) ∧ Tt ∧ ((((eF v49.X) ∧ (eF v49.Y) ∧ (eF v49.Z) ∧ Tt) ∧ (eF (((a3.getD x8.toNat default).Weights).getD x39.toNat default)) ∧ Tt) ∧ CallOK Try.prog 25 [.agg (cs_Vector v49), .one (.flt .f32 (((a3.getD x8.toNat default).Weights).getD x39.toNat default).bits)] [.agg (cs_Vector v52)]) ∧ ((((eF x40) ∧ (eF x41) ∧ (eF x42) ∧ Tt) ∧ ((eF v52.X) ∧ (eF v52.Y) ∧ (eF v52.Z) ∧ Tt) ∧ Tt) ∧ CallOK Try.prog 23 [.agg (cs_Vector (Vector.mk x40 x41 x42)), .agg (cs_Vector v52)] [.agg (cs_Vector v54)]) ∧ Tt)) ∧ (Tt ∧ Tt)) 9 [.no, .no, .no, .no, .no, .no, .no, .call [.agg (cs_Vector v49), .one (.flt .f32 (((a3.getD x8.toNat default).Weights).getD x39.toNat default).bits)] [.agg (cs_Vector v52)] [[.view, .view, .view]], .call [.agg (cs_Vector (Vector.mk x40 x41 x42)), .agg (cs_Vector v52)] [.agg (cs_Vector v54)] [[.view, .view, .view]]] [10, 11, 12, 14, 15, 31, 32, 33, 38, 39, 40] [4, 5, 16, 37, 38] ⟨⟨tr, tr, tr, tr, tr, c51, tr, ⟨⟨⟨rfl, rfl, rfl, tr⟩, rfl, tr⟩, ok_impl_ScaleVector K v49 (((a3.getD x8.toNat default).Weights).getD x39.toNat default) v52 e53⟩, ⟨⟨⟨rfl, rfl, rfl, tr⟩, ⟨rfl, rfl, rfl, tr⟩, tr⟩, ok_impl_AddVectors K (Vector.mk x40 x41 x42) v52 v54 e55⟩, tr⟩, ⟨tr, tr⟩⟩ ?_
          refine blockQ_normal ?_
          refine thenQ_normal ?_
          refine AW.rA ⟨[(10, (vL 4 4 cs_Turn v4.1)), (11, (vL 5 3 cs_Vector v4.2)), (12, (vL 16 3 cs_Vector x9)), (14, (vp 37 0)), (15, (vp 38 0)), (31, (vc (sl 5 cs_SkinPoint a3))), (32, (vI (a3.length : Int))), (33, (vI x8)), (38, (vc (sl 1 (csI .i64) ((a3.getD x8.toNat default).Bones)))), (39, (vI (((a3.getD x8.toNat default).Bones).length : Int))), (40, (vI (IntKind.i64.wrap (x39 + (1 : Int)))))], [(4, (oL 4 cs_Turn v4.1)), (5, (oL 3 cs_Vector v4.2)), (16, (oL 3 cs_Vector x9)), (37, (.box [(cF (((a3.getD x8.toNat default).Place).X)), (cF (((a3.getD x8.toNat default).Place).Y)), (cF (((a3.getD x8.toNat default).Place).Z)), (.c (sl 1 (csI .i64) ((a3.getD x8.toNat default).Bones))), (.c (sl 1 (csF .f32) ((a3.getD x8.toNat default).Weights)))])), (38, (.box [(cF v54.X), (cF v54.Y), (cF v54.Z)]))]⟩ (T2 Tt) [] [10, 11, 12, 14, 15, 31, 32, 33, 38, 39, 40] [4, 5, 16, 37, 38] ⟨tr, tr, tr⟩ ?_
          exact loopQ_normal (k, (IntKind.i64.wrap (x39 + (1 : Int))), v54.X, v54.Y, v54.Z) h (Nat.lt_succ_self k) (Sub.keep [10, 11, 12, 14, 15, 31, 32, 33, 38, 39, 40] [4, 5, 16, 37, 38] (by kernel_rfl) (by kernel_rfl))
        · refine AW.cond_f rfl b43 ?_
          refine AW.exit ?_
          refine thenQ_exit ?_
          refine loopQ_exit ?_
          refine blockQ_exit ?_
          replace h := some_eq h
          subst h
          exact ⟨rfl, Sub.keep [10, 11, 12, 15, 31, 32, 33] [4, 5, 16, 38] (by kernel_rfl) (by kernel_rfl)⟩
      refine thenQ_normal ?_
      obtain ⟨c56, h⟩ := chk_some h
      refine AW.rA ⟨[(10, (vL 4 4 cs_Turn v4.1)), (11, (vL 5 3 cs_Vector v4.2)), (12, (vL 46 3 cs_Vector (x9 ++ ([(Vector.mk j34.1 j34.2.1 j34.2.2)])))), (31, (vc (sl 5 cs_SkinPoint a3))), (32, (vI (a3.length : Int))), (33, (vI x8))], [(4, (oL 4 cs_Turn v4.1)), (5, (oL 3 cs_Vector v4.2)), (46, (oL 3 cs_Vector (x9 ++ ([(Vector.mk j34.1 j34.2.1 j34.2.2)]))))]⟩ (T2 ((([(Vector.mk j34.1 j34.2.1 j34.2.2)]).length = 1 ∧ (((.flt .f32 j34.1.bits) : C) = (.flt .f32 j34.1.bits) ∧ Tt) ∧ (((.flt .f32 j34.2.1.bits) : C) = (.flt .f32 j34.2.1.bits) ∧ Tt) ∧ (((.flt .f32 j34.2.2.bits) : C) = (.flt .f32 j34.2.2.bits) ∧ Tt) ∧ Tt) ∧ ((x9 ++ ([(Vector.mk j34.1 j34.2.1 j34.2.2)])).length = x9.length + ([(Vector.mk j34.1 j34.2.1 j34.2.2)]).length ∧ AppOb (x9.length) (([(Vector.mk j34.1 j34.2.1 j34.2.2)]).length) 3 (gl cs_Vector x9) (gl cs_Vector ([(Vector.mk j34.1 j34.2.1 j34.2.2)])) (gl cs_Vector (x9 ++ ([(Vector.mk j34.1 j34.2.1 j34.2.2)]))) ∧ (∀ i j, i < ([(Vector.mk j34.1 j34.2.1 j34.2.2)]).length → j < 3 → scalarC (gl cs_Vector ([(Vector.mk j34.1 j34.2.1 j34.2.2)]) i j)) ∧ (x9.length + ([(Vector.mk j34.1 j34.2.1 j34.2.2)]).length) * 12 ≤ 140737488355328) ∧ Tt ∧ Tt)) [.no, .no, .obj 45 ([(Vector.mk j34.1 j34.2.1 j34.2.2)]).length (gl cs_Vector ([(Vector.mk j34.1 j34.2.1 j34.2.2)])), .objK 46 (x9 ++ ([(Vector.mk j34.1 j34.2.1 j34.2.2)])).length (gl cs_Vector (x9 ++ ([(Vector.mk j34.1 j34.2.1 j34.2.2)])))] [10, 11, 12, 31, 32, 33] [4, 5, 46] ⟨tr, tr, ⟨rfl, ⟨⟨rfl, tr⟩, ⟨rfl, tr⟩, ⟨rfl, tr⟩, tr⟩⟩, ⟨List.length_append, gl_append, gl_scalar sc_Vector _, c56⟩, tr, tr⟩ ?_
      refine blockQ_normal ?_
      refine thenQ_normal ?_
      refine AW.rA ⟨[(10, (vL 4 4 cs_Turn v4.1)), (11, (vL 5 3 cs_Vector v4.2)), (12, (vL 46 3 cs_Vector (x9 ++ ([(Vector.mk j34.1 j34.2.1 j34.2.2)])))), (31, (vc (sl 5 cs_SkinPoint a3))), (32, (vI (a3.length : Int))), (33, (vI (IntKind.i64.wrap (x8 + (1 : Int)))))], [(4, (oL 4 cs_Turn v4.1)), (5, (oL 3 cs_Vector v4.2)), (46, (oL 3 cs_Vector (x9 ++ ([(Vector.mk j34.1 j34.2.1 j34.2.2)]))))]⟩ (T2 Tt) [] [10, 11, 12, 31, 32, 33] [4, 5, 46] ⟨tr, tr, tr⟩ ?_
      exact loopQ_normal (k, (IntKind.i64.wrap (x8 + (1 : Int))), (x9 ++ ([(Vector.mk j34.1 j34.2.1 j34.2.2)]))) h (Nat.lt_succ_self k) (Sub.trans (Sub.swap 16 46 _ (by kernel_rfl) (by kernel_rfl)) (Sub.keep [10, 11, 12, 31, 32, 33] [4, 5, 16] (by kernel_rfl) (by kernel_rfl)))
    · refine AW.cond_f rfl b10 ?_
      refine AW.exit ?_
      refine thenQ_exit ?_
      refine loopQ_exit ?_
      refine blockQ_exit ?_
      refine thenQ_normal ?_
      refine AW.sA ⟨[(8, (vL 16 3 cs_Vector x9)), (9, (vB true))], [(16, (oL 3 cs_Vector x9))]⟩ (Tt ∧ T2 Tt) [] [8, 9] [16] ⟨tr, tr, tr, tr⟩ ?_
      refine AW.ret ?_
      replace h := some_eq h
      subst h
      exact ⟨.inr rfl, retOK_of [(.one (xL 16 3 cs_Vector x9)), (.one (.c (.bool true)))] (by kernel_rfl) ⟨rfl, ⟨rfl, tr⟩, tr⟩ (of_decide_eq_true (by kernel_rfl))⟩

/-! impl.InnerOfTurns -/
def impl_InnerOfTurns (_K : Nat) (a0 : Turn) (a1 : Turn) : Option (F32) :=
  some ((((a0.W.mul a1.W).add (a0.X.mul a1.X)).add (a0.Y.mul a1.Y)).add (a0.Z.mul a1.Z))

theorem ok_impl_InnerOfTurns (K : Nat) (a0 : Turn) (a1 : Turn) (o : (F32)) (h : impl_InnerOfTurns K a0 a1 = some o) : CallOK Try.prog 42 [.agg (cs_Turn a0), .agg (cs_Turn a1)] [.one (.flt .f32 o.bits)] := by
  refine callOK_of_AW Try.func42 rfl (by kernel_rfl) (Nat.le_of_ble_eq_true (by kernel_rfl)) ?_
  intro w0
  unfold impl_InnerOfTurns at h
  refine AW.sC (Tt ∧ T2 Tt) [.box 1, .box 2] [2, 3] [1, 2] ⟨tr, tr, tr, tr⟩ ?_
  refine AW.sA ⟨[(4, (vc (.flt .f32 ((((a0.W.mul a1.W).add (a0.X.mul a1.X)).add (a0.Y.mul a1.Y)).add (a0.Z.mul a1.Z)).bits)))], []⟩ (T4 (T4 (T4 (T4 (T4 (T4 Tt)))))) [] [4] [] ⟨tr, tr, tr, tr, tr, tr, tr, tr, tr, tr, tr, tr, tr, tr, tr, tr, tr, tr, tr, tr, tr, tr, tr, tr, tr⟩ ?_
  refine AW.ret ?_
  replace h := some_eq h
  subst h
  exact ⟨.inr rfl, retOK_of [(.one (cF ((((a0.W.mul a1.W).add (a0.X.mul a1.X)).add (a0.Y.mul a1.Y)).add (a0.Z.mul a1.Z))))] (by kernel_rfl) ⟨⟨rfl, tr⟩, tr⟩ (of_decide_eq_true (by kernel_rfl))⟩

/-! (impl.Turn).opposite -/
def impl_Turn_opposite (_K : Nat) (a0 : Turn) : Option (Turn) :=
  some (Turn.mk (a0.W.neg) (a0.X.neg) (a0.Y.neg) (a0.Z.neg))

theorem ok_impl_Turn_opposite (K : Nat) (a0 : Turn) (o : (Turn)) (h : impl_Turn_opposite K a0 = some o) : CallOK Try.prog 43 [.agg (cs_Turn a0)] [.agg (cs_Turn o)] := by
  refine callOK_of_AW Try.func43 rfl (by kernel_rfl) (Nat.le_of_ble_eq_true (by kernel_rfl)) ?_
  intro w0
  unfold impl_Turn_opposite at h
  refine AW.sC (T2 Tt) [.box 1, .box 2] [1, 2] [1, 2] ⟨tr, tr, tr⟩ ?_
  refine AW.sA ⟨[(2, (vp 2 0))], [(2, (.box [(cF (a0.W.neg)), (cF (a0.X.neg)), (cF (a0.Y.neg)), (cF (a0.Z.neg))]))]⟩ (T2 (T4 (T4 (T4 Tt)))) [] [2] [2] ⟨tr, tr, tr, tr, tr, tr, tr, tr, tr, tr, tr, tr, tr, tr, tr⟩ ?_
  refine AW.ret ?_
  replace h := some_eq h
  subst h
  exact ⟨.inr rfl, retOK_of [(.agg [(cF (a0.W.neg)), (cF (a0.X.neg)), (cF (a0.Y.neg)), (cF (a0.Z.neg))])] (by kernel_rfl) ⟨⟨⟨rfl, tr⟩, ⟨rfl, tr⟩, ⟨rfl, tr⟩, ⟨rfl, tr⟩, tr⟩, tr⟩ (of_decide_eq_true (by kernel_rfl))⟩

/-! math.sqrt -/
def math_sqrt (_K : Nat) (a0 : F64) : Option (F64) :=
  some a0.sqrt

theorem ok_math_sqrt (K : Nat) (a0 : F64) (o : F64) (h : math_sqrt K a0 = some o) : CallOK Try.prog 77 [.one (.flt .f64 a0.bits)] [.one (.flt .f64 o.bits)] :=
  hand_sqrt (e := Extern.MathSqrt.sqrt) Try.func77 (by kernel_rfl) (by kernel_rfl) (by kernel_rfl) (by kernel_rfl) (fun _ => rfl) a0 o h

/-! math.Sqrt -/
def math_Sqrt (K : Nat) (a0 : F64) : Option (F64) :=
  (math_sqrt K a0).bind fun v1 => some v1

theorem ok_math_Sqrt (K : Nat) (a0 : F64) (o : (F64)) (h : math_Sqrt K a0 = some o) : CallOK Try.prog 75 [.one (.flt .f64 a0.bits)] [.one (.flt .f64 o.bits)] := by
  refine callOK_of_AW Try.func75 rfl (by kernel_rfl) (Nat.le_of_ble_eq_true (by kernel_rfl)) ?_
  intro w0
  unfold math_Sqrt at h
  refine AW.sC (Tt ∧ Tt) [] [0] [] ⟨tr, tr⟩ ?_
  refine AW.seq ?_
  obtain ⟨v1, e2, h⟩ := bind_some h
  refine AW.tA ⟨[(2, (vc (.flt .f64 v1.bits)))], []⟩ (Tt ∧ (((Eqc (.flt .f64 a0.bits)) ∧ Tt) ∧ CallOK Try.prog 77 [.one (.flt .f64 a0.bits)] [.one (.flt .f64 v1.bits)]) ∧ Tt ∧ Tt) [.no, .call [.one (.flt .f64 a0.bits)] [.one (.flt .f64 v1.bits)] [[.view]]] [2] [] ⟨tr, ⟨⟨rfl, tr⟩, ok_math_sqrt K a0 v1 e2⟩, tr, tr⟩ ?_
  refine AW.ret ?_
  replace h := some_eq h
  subst h
  exact ⟨.inr rfl, retOK_of [(.one (.c (.flt .f64 v1.bits)))] (by kernel_rfl) ⟨⟨rfl, tr⟩, tr⟩ (of_decide_eq_true (by kernel_rfl))⟩

/-! impl.RootNumber -/
def impl_RootNumber (K : Nat) (a0 : F32) : Option (F32) :=
  (math_Sqrt K (Fl.cv .f32 .f64 a0)).bind fun v1 => chk ((convBits .f64 v1.bits .f32).isSome = true) (some (Fl.cv .f64 .f32 v1))

theorem ok_impl_RootNumber (K : Nat) (a0 : F32) (o : (F32)) (h : impl_RootNumber K a0 = some o) : CallOK Try.prog 66 [.one (.flt .f32 a0.bits)] [.one (.flt .f32 o.bits)] := by
  refine callOK_of_AW Try.func66 rfl (by kernel_rfl) (Nat.le_of_ble_eq_true (by kernel_rfl)) ?_
  intro w0
  unfold impl_RootNumber at h
  refine AW.sC (Tt ∧ Tt) [] [0] [] ⟨tr, tr⟩ ?_
  refine AW.seq ?_
  obtain ⟨v1, e2, h⟩ := bind_some h
  obtain ⟨c3, h⟩ := chk_some h
  refine AW.tA ⟨[(2, (vc (.flt .f32 (Fl.cv .f64 .f32 v1).bits)))], []⟩ (Tt ∧ ((convBits .f32 a0.bits .f64).isSome = true) ∧ (((Eqc (.flt .f64 (Fl.cv .f32 .f64 a0).bits)) ∧ Tt) ∧ CallOK Try.prog 75 [.one (.flt .f64 (Fl.cv .f32 .f64 a0).bits)] [.one (.flt .f64 v1.bits)]) ∧ ((convBits .f64 v1.bits .f32).isSome = true) ∧ Tt ∧ Tt) [.no, .no, .call [.one (.flt .f64 (Fl.cv .f32 .f64 a0).bits)] [.one (.flt .f64 v1.bits)] [[.view]]] [2] [] ⟨tr, cv_wide a0, ⟨⟨rfl, tr⟩, ok_math_Sqrt K (Fl.cv .f32 .f64 a0) v1 e2⟩, c3, tr, tr⟩ ?_
  refine AW.ret ?_
  replace h := some_eq h
  subst h
  exact ⟨.inr rfl, retOK_of [(.one (cF (Fl.cv .f64 .f32 v1)))] (by kernel_rfl) ⟨⟨rfl, tr⟩, tr⟩ (of_decide_eq_true (by kernel_rfl))⟩

/-! impl.LengthOfTurn -/
def impl_LengthOfTurn (K : Nat) (a0 : Turn) : Option (F32) :=
  (impl_InnerOfTurns K a0 a0).bind fun v1 => (impl_RootNumber K v1).bind fun v3 => some v3

theorem ok_impl_LengthOfTurn (K : Nat) (a0 : Turn) (o : (F32)) (h : impl_LengthOfTurn K a0 = some o) : CallOK Try.prog 49 [.agg (cs_Turn a0)] [.one (.flt .f32 o.bits)] := by
  refine callOK_of_AW Try.func49 rfl (by kernel_rfl) (Nat.le_of_ble_eq_true (by kernel_rfl)) ?_
  intro w0
  unfold impl_LengthOfTurn at h
  refine AW.sC (T2 Tt) [.box 1] [1] [1] ⟨tr, tr, tr⟩ ?_
  refine AW.seq ?_
  obtain ⟨v1, e2, h⟩ := bind_some h
  obtain ⟨v3, e4, h⟩ := bind_some h
  refine AW.tA ⟨[(2, (vc (.flt .f32 v3.bits)))], []⟩ (T2 (((((eF a0.W) ∧ (eF a0.X) ∧ (eF a0.Y) ∧ (eF a0.Z) ∧ Tt) ∧ ((eF a0.W) ∧ (eF a0.X) ∧ (eF a0.Y) ∧ (eF a0.Z) ∧ Tt) ∧ Tt) ∧ CallOK Try.prog 42 [.agg (cs_Turn a0), .agg (cs_Turn a0)] [.one (.flt .f32 v1.bits)]) ∧ (((eF v1) ∧ Tt) ∧ CallOK Try.prog 66 [.one (.flt .f32 v1.bits)] [.one (.flt .f32 v3.bits)]) ∧ Tt ∧ Tt)) [.no, .no, .call [.agg (cs_Turn a0), .agg (cs_Turn a0)] [.one (.flt .f32 v1.bits)] [[.view]], .call [.one (.flt .f32 v1.bits)] [.one (.flt .f32 v3.bits)] [[.view]]] [2] [] ⟨tr, tr, ⟨⟨⟨rfl, rfl, rfl, rfl, tr⟩, ⟨rfl, rfl, rfl, rfl, tr⟩, tr⟩, ok_impl_InnerOfTurns K a0 a0 v1 e2⟩, ⟨⟨rfl, tr⟩, ok_impl_RootNumber K v1 v3 e4⟩, tr, tr⟩ ?_
  refine AW.ret ?_
  replace h := some_eq h
  subst h
  exact ⟨.inr rfl, retOK_of [(.one (cF v3))] (by kernel_rfl) ⟨⟨rfl, tr⟩, tr⟩ (of_decide_eq_true (by kernel_rfl))⟩

/-! impl.IsFinite -/
def impl_IsFinite (_K : Nat) (a0 : F32) : Option (Bool) :=
  some ((a0.sub a0).eq (Fl.mk (k := .f32) 0 (by decide)))

theorem ok_impl_IsFinite (K : Nat) (a0 : F32) (o : (Bool)) (h : impl_IsFinite K a0 = some o) : CallOK Try.prog 67 [.one (.flt .f32 a0.bits)] [.one (.bool o)] := by
  refine callOK_of_AW Try.func67 rfl (by kernel_rfl) (Nat.le_of_ble_eq_true (by kernel_rfl)) ?_
  intro w0
  unfold impl_IsFinite at h
  refine AW.sC (Tt ∧ Tt) [] [0] [] ⟨tr, tr⟩ ?_
  refine AW.sA ⟨[(2, (vB ((a0.sub a0).eq (Fl.mk (k := .f32) 0 (by decide)))))], []⟩ (Tt ∧ T4 Tt) [] [2] [] ⟨tr, tr, tr, tr, tr, tr⟩ ?_
  refine AW.ret ?_
  replace h := some_eq h
  subst h
  exact ⟨.inr rfl, retOK_of [(.one (.c (.bool ((a0.sub a0).eq (Fl.mk (k := .f32) 0 (by decide))))))] (by kernel_rfl) ⟨⟨rfl, tr⟩, tr⟩ (of_decide_eq_true (by kernel_rfl))⟩

/-! impl.isLength -/
def impl_isLength (K : Nat) (a0 : F32) : Option (Bool) :=
  (impl_IsFinite K a0).bind fun v1 => (ite2 (v1) (some (a0.ne (Fl.mk (k := .f32) 0 (by decide)))) (some false)).bind fun j4 => some j4

theorem ok_impl_isLength (K : Nat) (a0 : F32) (o : (Bool)) (h : impl_isLength K a0 = some o) : CallOK Try.prog 50 [.one (.flt .f32 a0.bits)] [.one (.bool o)] := by
  refine callOK_of_AW Try.func50 rfl (by kernel_rfl) (Nat.le_of_ble_eq_true (by kernel_rfl)) ?_
  intro w0
  unfold impl_isLength at h
  refine AW.sA ⟨[(0, (vc (.flt .f32 a0.bits)))], []⟩ (Tt ∧ Tt) [] [0] [] ⟨tr, tr⟩ ?_
  refine AW.seq ?_
  obtain ⟨v1, e2, h⟩ := bind_some h
  obtain ⟨j4, e5, h⟩ := bind_some h
  refine AW.join1 (s2 := ⟨[(2, (vB j4))], []⟩) ?_ ?_
  · rcases ite2_cases e5 with ⟨b3, e5⟩ | ⟨b3, e5⟩
    · replace e5 := some_eq e5
      subst e5
      exact AW.rA ⟨[(2, (vB (a0.ne (Fl.mk (k := .f32) 0 (by decide)))))], []⟩ (Tt ∧ (((eF a0) ∧ Tt) ∧ CallOK Try.prog 67 [.one (.flt .f32 a0.bits)] [.one (.bool v1)]) ∧ (Tt ∧ v1 = true) ∧ T4 Tt) [.no, .call [.one (.flt .f32 a0.bits)] [.one (.bool v1)] [[.view]], .dec true] [2] [] ⟨tr, ⟨⟨rfl, tr⟩, ok_impl_IsFinite K a0 v1 e2⟩, ⟨tr, b3⟩, tr, tr, tr, tr, tr⟩ ⟨rfl, rfl⟩
    · replace e5 := some_eq e5
      subst e5
      exact AW.rA ⟨[(2, (vB false))], []⟩ (Tt ∧ (((eF a0) ∧ Tt) ∧ CallOK Try.prog 67 [.one (.flt .f32 a0.bits)] [.one (.bool v1)]) ∧ (Tt ∧ v1 = false) ∧ T4 Tt) [.no, .call [.one (.flt .f32 a0.bits)] [.one (.bool v1)] [[.view]], .dec false] [2] [] ⟨tr, ⟨⟨rfl, tr⟩, ok_impl_IsFinite K a0 v1 e2⟩, ⟨tr, b3⟩, tr, tr, tr, tr, tr⟩ ⟨rfl, rfl⟩
  refine thenQ_normal ?_
  refine AW.ret ?_
  replace h := some_eq h
  subst h
  exact ⟨.inr rfl, retOK_of [(.one (.c (.bool j4)))] (by kernel_rfl) ⟨⟨rfl, tr⟩, tr⟩ (of_decide_eq_true (by kernel_rfl))⟩

/-! impl.NoTurn -/
def impl_NoTurn (_K : Nat) : Option (Turn) :=
  some (Turn.mk (Fl.mk (k := .f32) 1065353216 (by decide)) (default : F32) (default : F32) (default : F32))

theorem ok_impl_NoTurn (K : Nat) (o : (Turn)) (h : impl_NoTurn K  = some o) : CallOK Try.prog 51 [] [.agg (cs_Turn o)] := by
  refine callOK_of_AW Try.func51 rfl (by kernel_rfl) (Nat.le_of_ble_eq_true (by kernel_rfl)) ?_
  intro w0
  unfold impl_NoTurn at h
  refine AW.sC (Tt ∧ Tt) [.box 1] [0] [1] ⟨tr, tr⟩ ?_
  refine AW.sA ⟨[(0, (vp 1 0))], [(1, (.box [(cF (Fl.mk (k := .f32) 1065353216 (by decide))), (cF (default : F32)), (cF (default : F32)), (cF (default : F32))]))]⟩ (T2 Tt) [] [0] [1] ⟨tr, tr, tr⟩ ?_
  refine AW.ret ?_
  replace h := some_eq h
  subst h
  exact ⟨.inr rfl, retOK_of [(.agg [(cF (Fl.mk (k := .f32) 1065353216 (by decide))), (cF (default : F32)), (cF (default : F32)), (cF (default : F32))])] (by kernel_rfl) ⟨⟨⟨rfl, tr⟩, ⟨rfl, tr⟩, ⟨rfl, tr⟩, ⟨rfl, tr⟩, tr⟩, tr⟩ (of_decide_eq_true (by kernel_rfl))⟩

/-! impl.MendTurn -/
def impl_MendTurn (K : Nat) (a0 : Turn) : Option (Turn) :=
  (impl_LengthOfTurn K a0).bind fun v1 => (impl_isLength K v1).bind fun v3 => ite2 ((!v3)) ((impl_NoTurn K ).bind fun v6 => some v6) (some (Turn.mk (a0.W.div v1) (a0.X.div v1) (a0.Y.div v1) (a0.Z.div v1)))

theorem ok_impl_MendTurn (K : Nat) (a0 : Turn) (o : (Turn)) (h : impl_MendTurn K a0 = some o) : CallOK Try.prog 44 [.agg (cs_Turn a0)] [.agg (cs_Turn o)] := by
  refine callOK_of_AW Try.func44 rfl (by kernel_rfl) (Nat.le_of_ble_eq_true (by kernel_rfl)) ?_
  intro w0
  unfold impl_MendTurn at h
  refine AW.sC (T2 Tt) [.box 1, .box 2] [1, 2] [1, 2] ⟨tr, tr, tr⟩ ?_
  refine AW.seq ?_
  obtain ⟨v1, e2, h⟩ := bind_some h
  refine AW.tC (Tt ∧ ((((eF a0.W) ∧ (eF a0.X) ∧ (eF a0.Y) ∧ (eF a0.Z) ∧ Tt) ∧ Tt) ∧ CallOK Try.prog 49 [.agg (cs_Turn a0)] [.one (.flt .f32 v1.bits)]) ∧ Tt ∧ Tt) [.no, .call [.agg (cs_Turn a0)] [.one (.flt .f32 v1.bits)] [[.view]]] [1, 2, 3] [1, 2] ⟨tr, ⟨⟨⟨rfl, rfl, rfl, rfl, tr⟩, tr⟩, ok_impl_LengthOfTurn K a0 v1 e2⟩, tr, tr⟩ ?_
  refine AW.seq ?_
  refine AW.seq ?_
  obtain ⟨v3, e4, h⟩ := bind_some h
  refine AW.tA ⟨[(1, (vp 1 0)), (2, (vp 2 0)), (3, (vc (.flt .f32 v1.bits))), (8, (vB (!v3)))], [(1, (.box [(cF a0.W), (cF a0.X), (cF a0.Y), (cF a0.Z)])), (2, (.box [(cF (default : F32)), (cF (default : F32)), (cF (default : F32)), (cF (default : F32))]))]⟩ (Tt ∧ (((eF v1) ∧ Tt) ∧ CallOK Try.prog 50 [.one (.flt .f32 v1.bits)] [.one (.bool v3)]) ∧ Tt ∧ Tt) [.no, .call [.one (.flt .f32 v1.bits)] [.one (.bool v3)] [[.view]]] [1, 2, 3, 8] [1, 2] ⟨tr, ⟨⟨rfl, tr⟩, ok_impl_isLength K v1 v3 e4⟩, tr, tr⟩ ?_
  rcases ite2_cases h with ⟨b5, h⟩ | ⟨b5, h⟩
  · refine AW.cond_t rfl b5 ?_
    refine AW.seq ?_
    obtain ⟨v6, e7, h⟩ := bind_some h
    refine AW.tA ⟨[(2, (vp 2 0))], [(2, (.box [(cF v6.W), (cF v6.X), (cF v6.Y), (cF v6.Z)]))]⟩ (((Tt) ∧ CallOK Try.prog 51 [] [.agg (cs_Turn v6)]) ∧ Tt ∧ Tt) [.call [] [.agg (cs_Turn v6)] [[.view, .view, .view, .view]]] [2] [2] ⟨⟨tr, ok_impl_NoTurn K v6 e7⟩, tr, tr⟩ ?_
    refine AW.ret ?_
    refine thenQ_ret ?_
    replace h := some_eq h
    subst h
    exact ⟨.inr rfl, retOK_of [(.agg [(cF v6.W), (cF v6.X), (cF v6.Y), (cF v6.Z)])] (by kernel_rfl) ⟨⟨⟨rfl, tr⟩, ⟨rfl, tr⟩, ⟨rfl, tr⟩, ⟨rfl, tr⟩, tr⟩, tr⟩ (of_decide_eq_true (by kernel_rfl))⟩
  · refine AW.cond_f rfl b5 ?_
    refine AW.skip ?_
    refine thenQ_normal ?_
    refine AW.sA ⟨[(2, (vp 2 0))], [(2, (.box [(cF (a0.W.div v1)), (cF (a0.X.div v1)), (cF (a0.Y.div v1)), (cF (a0.Z.div v1))]))]⟩ (T2 (T4 (T4 (T4 (T4 Tt))))) [] [2] [2] ⟨tr, tr, tr, tr, tr, tr, tr, tr, tr, tr, tr, tr, tr, tr, tr, tr, tr, tr, tr⟩ ?_
    refine AW.ret ?_
    replace h := some_eq h
    subst h
    exact ⟨.inr rfl, retOK_of [(.agg [(cF (a0.W.div v1)), (cF (a0.X.div v1)), (cF (a0.Y.div v1)), (cF (a0.Z.div v1))])] (by kernel_rfl) ⟨⟨⟨rfl, tr⟩, ⟨rfl, tr⟩, ⟨rfl, tr⟩, ⟨rfl, tr⟩, tr⟩, tr⟩ (of_decide_eq_true (by kernel_rfl))⟩

/-! impl.mixTurns -/
def impl_mixTurns_l1 (K : Nat) (a0 : (List Turn)) (a1 : (List F32)) : Nat → Int → F32 → F32 → F32 → F32 → Option (Turn)
  | 0, _, _, _, _, _ => none
  | k + 1, x6, x7, x8, x9, x10 => ite2 ((decide (x6 < (a0.length : Int)))) (chk (0 ≤ x6 ∧ x6 < (a0.length : Int)) (chk (0 ≤ (0 : Int) ∧ (0 : Int) < (a0.length : Int)) ((impl_InnerOfTurns K (a0.getD ((0 : Int).toNat) default) (a0.getD x6.toNat default)).bind fun v14 => ite2 ((v14.lt' (Fl.mk (k := .f32) 0 (by decide)))) ((impl_Turn_opposite K (a0.getD x6.toNat default)).bind fun v17 => chk (0 ≤ x6 ∧ x6 < (a1.length : Int)) (impl_mixTurns_l1 K a0 a1 k (IntKind.i64.wrap (x6 + (1 : Int))) (x7.add (v17.W.mul (a1.getD x6.toNat default))) (x8.add (v17.X.mul (a1.getD x6.toNat default))) (x9.add (v17.Y.mul (a1.getD x6.toNat default))) (x10.add (v17.Z.mul (a1.getD x6.toNat default))))) (chk (0 ≤ x6 ∧ x6 < (a1.length : Int)) (impl_mixTurns_l1 K a0 a1 k (IntKind.i64.wrap (x6 + (1 : Int))) (x7.add (((a0.getD x6.toNat default).W).mul (a1.getD x6.toNat default))) (x8.add (((a0.getD x6.toNat default).X).mul (a1.getD x6.toNat default))) (x9.add (((a0.getD x6.toNat default).Y).mul (a1.getD x6.toNat default))) (x10.add (((a0.getD x6.toNat default).Z).mul (a1.getD x6.toNat default)))))))) ((impl_MendTurn K (Turn.mk x7 x8 x9 x10)).bind fun v21 => some v21)

def impl_mixTurns (K : Nat) (a0 : (List Turn)) (a1 : (List F32)) : Option (Turn) :=
  impl_mixTurns_l1 K a0 a1 K (0 : Int) (default : F32) (default : F32) (default : F32) (default : F32)

theorem ok_impl_mixTurns (K : Nat) (a0 : (List Turn)) (a1 : (List F32)) (o : (Turn)) (h : impl_mixTurns K a0 a1 = some o) : CallOK Try.prog 26 [.one (sl 4 cs_Turn a0), .one (sl 1 (csF .f32) a1)] [.agg (cs_Turn o)] := by
  refine callOK_of_AW Try.func26 rfl (by kernel_rfl) (Nat.le_of_ble_eq_true (by kernel_rfl)) ?_
  intro w0
  unfold impl_mixTurns at h
  refine AW.sC (Tt ∧ Tt) [.box 1] [0, 1, 4] [1] ⟨tr, tr⟩ ?_
  refine AW.sC (Tt ∧ Tt) [.box 2] [0, 1, 4, 5] [1, 2] ⟨tr, tr⟩ ?_
  refine AW.seq ?_
  refine AW.sA ⟨[(0, (vc (sl 4 cs_Turn a0))), (1, (vc (sl 1 (csF .f32) a1))), (4, (vp 1 0)), (5, (vp 2 0)), (9, (vc (sl 4 cs_Turn a0))), (10, (vI (a0.length : Int))), (11, (vI (0 : Int)))], [(1, (.box [(cF (default : F32)), (cF (default : F32)), (cF (default : F32)), (cF (default : F32))])), (2, (.box [(cF (default : F32)), (cF (default : F32)), (cF (default : F32)), (cF (default : F32))]))]⟩ (Tt ∧ T2 Tt) [] [0, 1, 4, 5, 9, 10, 11] [1, 2] ⟨tr, tr, tr, tr⟩ ?_
  refine AW.block ?_
  refine AW.loopQ (σ := Nat × Int × F32 × F32 × F32 × F32) (fun p => ⟨[(0, (vc (sl 4 cs_Turn a0))), (1, (vc (sl 1 (csF .f32) a1))), (4, (vp 1 0)), (5, (vp 2 0)), (9, (vc (sl 4 cs_Turn a0))), (10, (vI (a0.length : Int))), (11, (vI p.2.1))], [(1, (.box [(cF (default : F32)), (cF (default : F32)), (cF (default : F32)), (cF (default : F32))])), (2, (.box [(cF p.2.2.1), (cF p.2.2.2.1), (cF p.2.2.2.2.1), (cF p.2.2.2.2.2)]))]⟩) (fun p => impl_mixTurns_l1 K a0 a1 p.1 p.2.1 p.2.2.1 p.2.2.2.1 p.2.2.2.2.1 p.2.2.2.2.2 = some o) (fun p => p.1) (K, (0 : Int), (default : F32), (default : F32), (default : F32), (default : F32)) h ?_
  clear h
  rintro ⟨k, x6, x7, x8, x9, x10⟩ h
  replace h : impl_mixTurns_l1 K a0 a1 k x6 x7 x8 x9 x10 = some o := h
  show AW _ _ (⟨[(0, (vc (sl 4 cs_Turn a0))), (1, (vc (sl 1 (csF .f32) a1))), (4, (vp 1 0)), (5, (vp 2 0)), (9, (vc (sl 4 cs_Turn a0))), (10, (vI (a0.length : Int))), (11, (vI x6))], [(1, (.box [(cF (default : F32)), (cF (default : F32)), (cF (default : F32)), (cF (default : F32))])), (2, (.box [(cF x7), (cF x8), (cF x9), (cF x10)]))]⟩ : St) _
  obtain _ | k := k
  · rw [impl_mixTurns_l1] at h; cases h
  rw [impl_mixTurns_l1] at h
  refine AW.sA ⟨[(0, (vc (sl 4 cs_Turn a0))), (1, (vc (sl 1 (csF .f32) a1))), (4, (vp 1 0)), (5, (vp 2 0)), (9, (vc (sl 4 cs_Turn a0))), (10, (vI (a0.length : Int))), (11, (vI x6)), (12, (vB (decide (x6 < (a0.length : Int)))))], [(1, (.box [(cF (default : F32)), (cF (default : F32)), (cF (default : F32)), (cF (default : F32))])), (2, (.box [(cF x7), (cF x8), (cF x9), (cF x10)]))]⟩ (Tt ∧ Tt) [] [0, 1, 4, 5, 9, 10, 11, 12] [1, 2] ⟨tr, tr⟩ ?_
  refine AW.seq ?_
  rcases ite2_cases h with ⟨b11, h⟩ | ⟨b11, h⟩
  · refine AW.cond_t rfl b11 ?_
    refine AW.skip ?_
    refine thenQ_normal ?_
    refine AW.seq ?_
    refine AW.block ?_
    refine AW.seq ?_
    obtain ⟨c12, h⟩ := chk_some h
    refine AW.tA ⟨[(0, (vc (sl 4 cs_Turn a0))), (1, (vc (sl 1 (csF .f32) a1))), (4, (vp 1 0)), (5, (vp 2 0)), (6, (vI x6)), (7, (vp 5 0)), (9, (vc (sl 4 cs_Turn a0))), (10, (vI (a0.length : Int))), (11, (vI x6))], [(1, (.box [(cF (default : F32)), (cF (default : F32)), (cF (default : F32)), (cF (default : F32))])), (2, (.box [(cF x7), (cF x8), (cF x9), (cF x10)])), (5, (.box [(cF ((a0.getD x6.toNat default).W)), (cF ((a0.getD x6.toNat default).X)), (cF ((a0.getD x6.toNat default).Y)), (cF ((a0.getD x6.toNat default).Z))]))]⟩ (Tt ∧ (0 ≤ x6 ∧ x6 < (a0.length : Int)) ∧ T4 Tt) [.no, .no, .no, .box 5] [0, 1, 4, 5, 6, 7, 9, 10, 11] [1, 2, 5] ⟨tr, c12, tr, tr, tr, tr, tr⟩ ?_
    refine AW.seq ?_
    refine AW.seq ?_
    obtain ⟨c13, h⟩ := chk_some h
    obtain ⟨v14, e15, h⟩ := bind_some h
    refine AW.dA ⟨[(0, (vc (sl 4 cs_Turn a0))), (1, (vc (sl 1 (csF .f32) a1))), (4, (vp 1 0)), (5, (vp 2 0)), (6, (vI x6)), (7, (vp 5 0)), (9, (vc (sl 4 cs_Turn a0))), (10, (vI (a0.length : Int))), (11, (vI x6)), (21, (vB (v14.lt' (Fl.mk (k := .f32) 0 (by decide)))))], [(1, (.box [(cF (default : F32)), (cF (default : F32)), (cF (default : F32)), (cF (default : F32))])), (2, (.box [(cF x7), (cF x8), (cF x9), (cF x10)])), (5, (.box [(cF ((a0.getD x6.toNat default).W)), (cF ((a0.getD x6.toNat default).X)), (cF ((a0.getD x6.toNat default).Y)), (cF ((a0.getD x6.toNat default).Z))]))]⟩ ((Tt ∧ (0 ≤ (0 : Int) ∧ (0 : Int) < (a0.length : Int)) ∧ T2 (((((eF ((a0.getD ((0 : Int).toNat) default).W)) ∧ (eF ((a0.getD ((0 : Int).toNat) default).X)) ∧ (eF ((a0.getD ((0 : Int).toNat) default).Y)) ∧ (eF ((a0.getD ((0 : Int).toNat) default).Z)) ∧ Tt) ∧ ((eF ((a0.getD x6.toNat default).W)) ∧ (eF ((a0.getD x6.toNat default).X)) ∧ (eF ((a0.getD x6.toNat default).Y)) ∧ (eF ((a0.getD x6.toNat default).Z)) ∧ Tt) ∧ Tt) ∧ CallOK Try.prog 42 [.agg (cs_Turn (a0.getD ((0 : Int).toNat) default)), .agg (cs_Turn (a0.getD x6.toNat default))] [.one (.flt .f32 v14.bits)]) ∧ Tt ∧ Tt)) ∧ (Tt)) 6 [.no, .no, .no, .no, .call [.agg (cs_Turn (a0.getD ((0 : Int).toNat) default)), .agg (cs_Turn (a0.getD x6.toNat default))] [.one (.flt .f32 v14.bits)] [[.view]]] [0, 1, 4, 5, 6, 7, 9, 10, 11, 21] [1, 2, 5] ⟨⟨tr, c13, tr, tr, ⟨⟨⟨rfl, rfl, rfl, rfl, tr⟩, ⟨rfl, rfl, rfl, rfl, tr⟩, tr⟩, ok_impl_InnerOfTurns K (a0.getD ((0 : Int).toNat) default) (a0.getD x6.toNat default) v14 e15⟩, tr, tr⟩, tr⟩ ?_
    refine thenQ_normal ?_
    rcases ite2_cases h with ⟨b16, h⟩ | ⟨b16, h⟩
    · refine AW.cond_t rfl b16 ?_
      obtain ⟨v17, e18, h⟩ := bind_some h
      refine AW.tC (Tt ∧ ((((eF ((a0.getD x6.toNat default).W)) ∧ (eF ((a0.getD x6.toNat default).X)) ∧ (eF ((a0.getD x6.toNat default).Y)) ∧ (eF ((a0.getD x6.toNat default).Z)) ∧ Tt) ∧ Tt) ∧ CallOK Try.prog 43 [.agg (cs_Turn (a0.getD x6.toNat default))] [.agg (cs_Turn v17)]) ∧ Tt ∧ Tt) [.no, .call [.agg (cs_Turn (a0.getD x6.toNat default))] [.agg (cs_Turn v17)] [[.view, .view, .view, .view]]] [0, 1, 4, 5, 6, 7, 9, 10, 11] [1, 2, 5] ⟨tr, ⟨⟨⟨rfl, rfl, rfl, rfl, tr⟩, tr⟩, ok_impl_Turn_opposite K (a0.getD x6.toNat default) v17 e18⟩, tr, tr⟩ ?_
      refine AW.seq ?_
      obtain ⟨c19, h⟩ := chk_some h
      refine AW.tC (T2 ((0 ≤ x6 ∧ x6 < (a1.length : Int)) ∧ T2 Tt)) [] [0, 1, 4, 5, 7, 8, 9, 10, 11] [1, 2, 5] ⟨tr, tr, c19, tr, tr, tr⟩ ?_
      refine AW.rA ⟨[(0, (vc (sl 4 cs_Turn a0))), (1, (vc (sl 1 (csF .f32) a1))), (4, (vp 1 0)), (5, (vp 2 0)), (9, (vc (sl 4 cs_Turn a0))), (10, (vI (a0.length : Int))), (11, (vI x6))], [(1, (.box [(cF (default : F32)), (cF (default : F32)), (cF (default : F32)), (cF (default : F32))])), (2, (.box [(cF (x7.add (v17.W.mul (a1.getD x6.toNat default)))), (cF (x8.add (v17.X.mul (a1.getD x6.toNat default)))), (cF (x9.add (v17.Y.mul (a1.getD x6.toNat default)))), (cF (x10.add (v17.Z.mul (a1.getD x6.toNat default))))]))]⟩ (T2 (T4 (T4 (T4 (T4 (T4 (T4 (T4 Tt)))))))) [] [0, 1, 4, 5, 9, 10, 11] [1, 2] ⟨tr, tr, tr, tr, tr, tr, tr, tr, tr, tr, tr, tr, tr, tr, tr, tr, tr, tr, tr, tr, tr, tr, tr, tr, tr, tr, tr, tr, tr, tr, tr⟩ ?_
      refine blockQ_normal ?_
      refine thenQ_normal ?_
      refine AW.rA ⟨[(0, (vc (sl 4 cs_Turn a0))), (1, (vc (sl 1 (csF .f32) a1))), (4, (vp 1 0)), (5, (vp 2 0)), (9, (vc (sl 4 cs_Turn a0))), (10, (vI (a0.length : Int))), (11, (vI (IntKind.i64.wrap (x6 + (1 : Int)))))], [(1, (.box [(cF (default : F32)), (cF (default : F32)), (cF (default : F32)), (cF (default : F32))])), (2, (.box [(cF (x7.add (v17.W.mul (a1.getD x6.toNat default)))), (cF (x8.add (v17.X.mul (a1.getD x6.toNat default)))), (cF (x9.add (v17.Y.mul (a1.getD x6.toNat default)))), (cF (x10.add (v17.Z.mul (a1.getD x6.toNat default))))]))]⟩ (T2 Tt) [] [0, 1, 4, 5, 9, 10, 11] [1, 2] ⟨tr, tr, tr⟩ ?_
      exact loopQ_normal (k, (IntKind.i64.wrap (x6 + (1 : Int))), (x7.add (v17.W.mul (a1.getD x6.toNat default))), (x8.add (v17.X.mul (a1.getD x6.toNat default))), (x9.add (v17.Y.mul (a1.getD x6.toNat default))), (x10.add (v17.Z.mul (a1.getD x6.toNat default)))) h (Nat.lt_succ_self k) (Sub.keep [0, 1, 4, 5, 9, 10, 11] [1, 2] (by kernel_rfl) (by kernel_rfl))
    · refine AW.cond_f rfl b16 ?_
      refine AW.skip ?_
      refine thenQ_normal ?_
      refine AW.seq ?_
      obtain ⟨c20, h⟩ := chk_some h
      refine AW.tC (T2 ((0 ≤ x6 ∧ x6 < (a1.length : Int)) ∧ T2 Tt)) [] [0, 1, 4, 5, 7, 8, 9, 10, 11] [1, 2, 5] ⟨tr, tr, c20, tr, tr, tr⟩ ?_
      refine AW.rA ⟨[(0, (vc (sl 4 cs_Turn a0))), (1, (vc (sl 1 (csF .f32) a1))), (4, (vp 1 0)), (5, (vp 2 0)), (9, (vc (sl 4 cs_Turn a0))), (10, (vI (a0.length : Int))), (11, (vI x6))], [(1, (.box [(cF (default : F32)), (cF (default : F32)), (cF (default : F32)), (cF (default : F32))])), (2, (.box [(cF (x7.add (((a0.getD x6.toNat default).W).mul (a1.getD x6.toNat default)))), (cF (x8.add (((a0.getD x6.toNat default).X).mul (a1.getD x6.toNat default)))), (cF (x9.add (((a0.getD x6.toNat default).Y).mul (a1.getD x6.toNat default)))), (cF (x10.add (((a0.getD x6.toNat default).Z).mul (a1.getD x6.toNat default))))]))]⟩ (T2 (T4 (T4 (T4 (T4 (T4 (T4 (T4 Tt)))))))) [] [0, 1, 4, 5, 9, 10, 11] [1, 2] ⟨tr, tr, tr, tr, tr, tr, tr, tr, tr, tr, tr, tr, tr, tr, tr, tr, tr, tr, tr, tr, tr, tr, tr, tr, tr, tr, tr, tr, tr, tr, tr⟩ ?_
      refine blockQ_normal ?_
      refine thenQ_normal ?_
      refine AW.rA ⟨[(0, (vc (sl 4 cs_Turn a0))), (1, (vc (sl 1 (csF .f32) a1))), (4, (vp 1 0)), (5, (vp 2 0)), (9, (vc (sl 4 cs_Turn a0))), (10, (vI (a0.length : Int))), (11, (vI (IntKind.i64.wrap (x6 + (1 : Int)))))], [(1, (.box [(cF (default : F32)), (cF (default : F32)), (cF (default : F32)), (cF (default : F32))])), (2, (.box [(cF (x7.add (((a0.getD x6.toNat default).W).mul (a1.getD x6.toNat default)))), (cF (x8.add (((a0.getD x6.toNat default).X).mul (a1.getD x6.toNat default)))), (cF (x9.add (((a0.getD x6.toNat default).Y).mul (a1.getD x6.toNat default)))), (cF (x10.add (((a0.getD x6.toNat default).Z).mul (a1.getD x6.toNat default))))]))]⟩ (T2 Tt) [] [0, 1, 4, 5, 9, 10, 11] [1, 2] ⟨tr, tr, tr⟩ ?_
      exact loopQ_normal (k, (IntKind.i64.wrap (x6 + (1 : Int))), (x7.add (((a0.getD x6.toNat default).W).mul (a1.getD x6.toNat default))), (x8.add (((a0.getD x6.toNat default).X).mul (a1.getD x6.toNat default))), (x9.add (((a0.getD x6.toNat default).Y).mul (a1.getD x6.toNat default))), (x10.add (((a0.getD x6.toNat default).Z).mul (a1.getD x6.toNat default)))) h (Nat.lt_succ_self k) (Sub.keep [0, 1, 4, 5, 9, 10, 11] [1, 2] (by kernel_rfl) (by kernel_rfl))
  · refine AW.cond_f rfl b11 ?_
    refine AW.exit ?_
    refine thenQ_exit ?_
    refine loopQ_exit ?_
    refine blockQ_exit ?_
    refine thenQ_normal ?_
    refine AW.seq ?_
    obtain ⟨v21, e22, h⟩ := bind_some h
    refine AW.tA ⟨[(4, (vp 1 0))], [(1, (.box [(cF v21.W), (cF v21.X), (cF v21.Y), (cF v21.Z)]))]⟩ (Tt ∧ ((((eF x7) ∧ (eF x8) ∧ (eF x9) ∧ (eF x10) ∧ Tt) ∧ Tt) ∧ CallOK Try.prog 44 [.agg (cs_Turn (Turn.mk x7 x8 x9 x10))] [.agg (cs_Turn v21)]) ∧ Tt ∧ Tt) [.no, .call [.agg (cs_Turn (Turn.mk x7 x8 x9 x10))] [.agg (cs_Turn v21)] [[.view, .view, .view, .view]]] [4] [1] ⟨tr, ⟨⟨⟨rfl, rfl, rfl, rfl, tr⟩, tr⟩, ok_impl_MendTurn K (Turn.mk x7 x8 x9 x10) v21 e22⟩, tr, tr⟩ ?_
    refine AW.ret ?_
    replace h := some_eq h
    subst h
    exact ⟨.inr rfl, retOK_of [(.agg [(cF v21.W), (cF v21.X), (cF v21.Y), (cF v21.Z)])] (by kernel_rfl) ⟨⟨⟨rfl, tr⟩, ⟨rfl, tr⟩, ⟨rfl, tr⟩, ⟨rfl, tr⟩, tr⟩, tr⟩ (of_decide_eq_true (by kernel_rfl))⟩

/-! impl.SkinMixed -/
def impl_SkinMixed_l5 (K : Nat) (a3 : (List SkinPoint)) (v4 : ((List Turn) × (List Vector))) (x8 : Int) : Nat → Int → F32 → F32 → F32 → (List Turn) → Option (F32 × F32 × F32 × (List Turn))
  | 0, _, _, _, _, _ => none
  | k + 1, x40, x41, x42, x43, x44 => ite2 ((decide (x40 < (((a3.getD x8.toNat default).Bones).length : Int)))) (chk (0 ≤ x40 ∧ x40 < (((a3.getD x8.toNat default).Bones).length : Int)) (chk (0 ≤ (((a3.getD x8.toNat default).Bones).getD x40.toNat default) ∧ (((a3.getD x8.toNat default).Bones).getD x40.toNat default) < (v4.1.length : Int)) (chk (0 ≤ x40 ∧ x40 < (x44.length : Int)) (chk (0 ≤ (((a3.getD x8.toNat default).Bones).getD x40.toNat default) ∧ (((a3.getD x8.toNat default).Bones).getD x40.toNat default) < (v4.2.length : Int)) (chk (0 ≤ x40 ∧ x40 < (((a3.getD x8.toNat default).Weights).length : Int)) ((impl_ScaleVector K (v4.2.getD ((((a3.getD x8.toNat default).Bones).getD x40.toNat default).toNat) default) (((a3.getD x8.toNat default).Weights).getD x40.toNat default)).bind fun v51 => (impl_AddVectors K (Vector.mk x41 x42 x43) v51).bind fun v53 => impl_SkinMixed_l5 K a3 v4 x8 k (IntKind.i64.wrap (x40 + (1 : Int))) v53.X v53.Y v53.Z (x44.set x40.toNat (v4.1.getD ((((a3.getD x8.toNat default).Bones).getD x40.toNat default).toNat) default)))))))) (some (x41, x42, x43, x44))

def impl_SkinMixed_l4 (K : Nat) (a3 : (List SkinPoint)) (v4 : ((List Turn) × (List Vector))) : Nat → Int → (List Vector) → Option ((List Vector) × Bool)
  | 0, _, _ => none
  | k + 1, x8, x9 => ite2 ((decide (x8 < (a3.length : Int)))) (chk (0 ≤ x8 ∧ x8 < (a3.length : Int)) (chk (0 ≤ (((a3.getD x8.toNat default).Bones).length : Int) ∧ (((a3.getD x8.toNat default).Bones).length : Int).toNat * 16 ≤ 140737488355328) ((impl_SkinMixed_l5 K a3 v4 x8 K (0 : Int) (default : F32) (default : F32) (default : F32) (List.replicate (((a3.getD x8.toNat default).Bones).length : Int).toNat (default : Turn))).bind fun j34 => (impl_mixTurns K j34.2.2.2 ((a3.getD x8.toNat default).Weights)).bind fun v55 => (impl_RotateBy K v55 ((a3.getD x8.toNat default).Place)).bind fun v57 => (impl_AddVectors K v57 (Vector.mk j34.1 j34.2.1 j34.2.2.1)).bind fun v59 => chk ((x9.length + ([v59]).length) * 12 ≤ 140737488355328) (impl_SkinMixed_l4 K a3 v4 k (IntKind.i64.wrap (x8 + (1 : Int))) (x9 ++ ([v59])))))) (some (x9, true))

def impl_SkinMixed (K : Nat) (a0 : Skeleton) (a1 : Pose) (a2 : Pose) (a3 : (List SkinPoint)) : Option ((List Vector) × Bool) :=
  (impl_canSkin K a0 a1 a2 a3).bind fun v1 => ite2 ((!v1)) (some (([] : (List Vector)), false)) ((impl_Skeleton_moves K a0 a1 a2).bind fun v4 => impl_SkinMixed_l4 K a3 v4 K (0 : Int) ([] : (List Vector)))

theorem ok_impl_SkinMixed (K : Nat) (a0 : Skeleton) (a1 : Pose) (a2 : Pose) (a3 : (List SkinPoint)) (o : ((List Vector) × Bool)) (h : impl_SkinMixed K a0 a1 a2 a3 = some o) : CallOK Try.prog 9 [.agg (cs_Skeleton a0), .agg (cs_Pose a1), .agg (cs_Pose a2), .one (sl 5 cs_SkinPoint a3)] [.one (sl 3 cs_Vector o.1), .one (.bool o.2)] := by
  refine callOK_of_AW Try.func9 rfl (by kernel_rfl) (Nat.le_of_ble_eq_true (by kernel_rfl)) ?_
  intro w0
  unfold impl_SkinMixed at h
  refine AW.sC (Tt ∧ T4 Tt) [.box 1, .box 2, .box 3] [3, 4, 5, 6] [1, 2, 3] ⟨tr, tr, tr, tr, tr, tr⟩ ?_
  refine AW.seq ?_
  refine AW.seq ?_
  obtain ⟨v1, e2, h⟩ := bind_some h
  refine AW.tA ⟨[(3, (vc (sl 5 cs_SkinPoint a3))), (4, (vp 1 0)), (5, (vp 2 0)), (6, (vp 3 0)), (24, (vB (!v1)))], [(1, (.box [(.c (sl 4 cs_Bone a0.Bones))])), (2, (.box [(cF a1.Root.X), (cF a1.Root.Y), (cF a1.Root.Z), (.c (sl 4 cs_Turn a1.Turns))])), (3, (.box [(cF a2.Root.X), (cF a2.Root.Y), (cF a2.Root.Z), (.c (sl 4 cs_Turn a2.Turns))]))]⟩ (T4 (((((Eqc (sl 4 cs_Bone a0.Bones)) ∧ Tt) ∧ ((eF a1.Root.X) ∧ (eF a1.Root.Y) ∧ (eF a1.Root.Z) ∧ (Eqc (sl 4 cs_Turn a1.Turns)) ∧ Tt) ∧ ((eF a2.Root.X) ∧ (eF a2.Root.Y) ∧ (eF a2.Root.Z) ∧ (Eqc (sl 4 cs_Turn a2.Turns)) ∧ Tt) ∧ (Eqc (sl 5 cs_SkinPoint a3)) ∧ Tt) ∧ CallOK Try.prog 21 [.agg (cs_Skeleton a0), .agg (cs_Pose a1), .agg (cs_Pose a2), .one (sl 5 cs_SkinPoint a3)] [.one (.bool v1)]) ∧ Tt ∧ Tt)) [.no, .no, .no, .no, .call [.agg (cs_Skeleton a0), .agg (cs_Pose a1), .agg (cs_Pose a2), .one (sl 5 cs_SkinPoint a3)] [.one (.bool v1)] [[.view]]] [3, 4, 5, 6, 24] [1, 2, 3] ⟨tr, tr, tr, tr, ⟨⟨⟨rfl, tr⟩, ⟨rfl, rfl, rfl, rfl, tr⟩, ⟨rfl, rfl, rfl, rfl, tr⟩, rfl, tr⟩, ok_impl_canSkin K a0 a1 a2 a3 v1 e2⟩, tr, tr⟩ ?_
  rcases ite2_cases h with ⟨b3, h⟩ | ⟨b3, h⟩
  · refine AW.cond_t rfl b3 ?_
    refine AW.sA ⟨[(8, (.v (.one .nils))), (9, (vB false))], []⟩ (T2 Tt) [] [8, 9] [] ⟨tr, tr, tr⟩ ?_
    refine AW.ret ?_
    refine thenQ_ret ?_
    replace h := some_eq h
    subst h
    exact ⟨.inr rfl, retOK_of [(.one .nils), (.one (.c (.bool false)))] (by kernel_rfl) ⟨rfl, ⟨rfl, tr⟩, tr⟩ (of_decide_eq_true (by kernel_rfl))⟩
  · refine AW.cond_f rfl b3 ?_
    refine AW.skip ?_
    refine thenQ_normal ?_
    refine AW.seq ?_
    obtain ⟨v4, e5, h⟩ := bind_some h
    refine AW.tC (T2 ((((0 = 0 ∧ (Eqc (sl 4 cs_Bone a0.Bones)) ∧ Tt) ∧ ((eF a1.Root.X) ∧ (eF a1.Root.Y) ∧ (eF a1.Root.Z) ∧ (Eqc (sl 4 cs_Turn a1.Turns)) ∧ Tt) ∧ ((eF a2.Root.X) ∧ (eF a2.Root.Y) ∧ (eF a2.Root.Z) ∧ (Eqc (sl 4 cs_Turn a2.Turns)) ∧ Tt) ∧ Tt) ∧ CallOK Try.prog 22 [.one (pl 1 cs_Skeleton a0), .agg (cs_Pose a1), .agg (cs_Pose a2)] [.one (sl 4 cs_Turn v4.1), .one (sl 3 cs_Vector v4.2)]) ∧ Tt ∧ T4 Tt)) [.no, .no, .call [.one (pl 1 cs_Skeleton a0), .agg (cs_Pose a1), .agg (cs_Pose a2)] [.one (sl 4 cs_Turn v4.1), .one (sl 3 cs_Vector v4.2)] [[.lst 4], [.lst 5]]] [3, 10, 11] [4, 5] ⟨tr, tr, ⟨⟨⟨rfl, rfl, tr⟩, ⟨rfl, rfl, rfl, rfl, tr⟩, ⟨rfl, rfl, rfl, rfl, tr⟩, tr⟩, ok_impl_Skeleton_moves K a0 a1 a2 v4 e5⟩, tr, tr, tr, tr, tr, tr⟩ ?_
    refine AW.sC (Tt ∧ Tt) [] [3, 10, 11, 12] [4, 5] ⟨tr, tr⟩ ?_
    refine AW.seq ?_
    refine AW.sA ⟨[(10, (vL 4 4 cs_Turn v4.1)), (11, (vL 5 3 cs_Vector v4.2)), (12, (.v (.one .nils))), (31, (vc (sl 5 cs_SkinPoint a3))), (32, (vI (a3.length : Int))), (33, (vI (0 : Int)))], [(4, (oL 4 cs_Turn v4.1)), (5, (oL 3 cs_Vector v4.2))]⟩ (Tt ∧ T2 Tt) [] [10, 11, 12, 31, 32, 33] [4, 5] ⟨tr, tr, tr, tr⟩ ?_
    refine AW.block ?_
    refine AW.weak (s' := ⟨[(10, (vL 4 4 cs_Turn v4.1)), (11, (vL 5 3 cs_Vector v4.2)), (12, (vL 11 3 cs_Vector ([] : (List Vector)))), (31, (vc (sl 5 cs_SkinPoint a3))), (32, (vI (a3.length : Int))), (33, (vI (0 : Int)))], [(4, (oL 4 cs_Turn v4.1)), (5, (oL 3 cs_Vector v4.2)), (11, (oL 3 cs_Vector ([] : (List Vector))))]⟩) (Sub.trans (Sub.unnil 11 3 (gl cs_Vector ([] : (List Vector))) [12] [] _ (by kernel_rfl) (by kernel_rfl)) (Sub.keep [10, 11, 12, 31, 32, 33] [4, 5, 11] (by kernel_rfl) (by kernel_rfl))) ?_
    refine AW.loopQ (σ := Nat × Int × (List Vector)) (fun p => ⟨[(10, (vL 4 4 cs_Turn v4.1)), (11, (vL 5 3 cs_Vector v4.2)), (12, (vL 11 3 cs_Vector p.2.2)), (31, (vc (sl 5 cs_SkinPoint a3))), (32, (vI (a3.length : Int))), (33, (vI p.2.1))], [(4, (oL 4 cs_Turn v4.1)), (5, (oL 3 cs_Vector v4.2)), (11, (oL 3 cs_Vector p.2.2))]⟩) (fun p => impl_SkinMixed_l4 K a3 v4 p.1 p.2.1 p.2.2 = some o) (fun p => p.1) (K, (0 : Int), ([] : (List Vector))) h ?_
    clear h
    rintro ⟨k, x8, x9⟩ h
    replace h : impl_SkinMixed_l4 K a3 v4 k x8 x9 = some o := h
    show AW _ _ (⟨[(10, (vL 4 4 cs_Turn v4.1)), (11, (vL 5 3 cs_Vector v4.2)), (12, (vL 11 3 cs_Vector x9)), (31, (vc (sl 5 cs_SkinPoint a3))), (32, (vI (a3.length : Int))), (33, (vI x8))], [(4, (oL 4 cs_Turn v4.1)), (5, (oL 3 cs_Vector v4.2)), (11, (oL 3 cs_Vector x9))]⟩ : St) _
    obtain _ | k := k
    · rw [impl_SkinMixed_l4] at h; cases h
    rw [impl_SkinMixed_l4] at h
    refine AW.sA ⟨[(10, (vL 4 4 cs_Turn v4.1)), (11, (vL 5 3 cs_Vector v4.2)), (12, (vL 11 3 cs_Vector x9)), (31, (vc (sl 5 cs_SkinPoint a3))), (32, (vI (a3.length : Int))), (33, (vI x8)), (34, (vB (decide (x8 < (a3.length : Int)))))], [(4, (oL 4 cs_Turn v4.1)), (5, (oL 3 cs_Vector v4.2)), (11, (oL 3 cs_Vector x9))]⟩ (Tt ∧ Tt) [] [10, 11, 12, 31, 32, 33, 34] [4, 5, 11] ⟨tr, tr⟩ ?_
    refine AW.seq ?_
    rcases ite2_cases h with ⟨b10, h⟩ | ⟨b10, h⟩
    · refine AW.cond_t rfl b10 ?_
      refine AW.skip ?_
      refine thenQ_normal ?_
      refine AW.seq ?_
      refine AW.block ?_
      refine AW.seq ?_
      obtain ⟨c11, h⟩ := chk_some h
      refine AW.tC ((0 ≤ x8 ∧ x8 < (a3.length : Int)) ∧ Tt ∧ T2 Tt) [.no, .no, .box 22] [10, 11, 12, 14, 31, 32, 33] [4, 5, 11, 22] ⟨c11, tr, tr, tr, tr⟩ ?_
      refine AW.sC (Tt ∧ Tt) [.box 23] [10, 11, 12, 14, 15, 31, 32, 33] [4, 5, 11, 22, 23] ⟨tr, tr⟩ ?_
      refine AW.seq ?_
      obtain ⟨c12, h⟩ := chk_some h
      refine AW.tC (Tt ∧ T2 ((0 ≤ (((a3.getD x8.toNat default).Bones).length : Int) ∧ (((a3.getD x8.toNat default).Bones).length : Int) = (((a3.getD x8.toNat default).Bones).length : Int) ∧ (((List.replicate (((a3.getD x8.toNat default).Bones).length : Int).toNat (default : Turn)).length : Nat) : Int) = (((a3.getD x8.toNat default).Bones).length : Int) ∧ (List.replicate (((a3.getD x8.toNat default).Bones).length : Int).toNat (default : Turn)).length * 16 ≤ 140737488355328 ∧ ∀ i, i < (List.replicate (((a3.getD x8.toNat default).Bones).length : Int).toNat (default : Turn)).length → zeroRow (fun _ => none) [(cF (default : F32)), (cF (default : F32)), (cF (default : F32)), (cF (default : F32))] (gl cs_Turn (List.replicate (((a3.getD x8.toNat default).Bones).length : Int).toNat (default : Turn)) i)) ∧ Tt ∧ Tt)) [.no, .no, .no, .objA 24 (List.replicate (((a3.getD x8.toNat default).Bones).length : Int).toNat (default : Turn)).length (gl cs_Turn (List.replicate (((a3.getD x8.toNat default).Bones).length : Int).toNat (default : Turn)))] [10, 11, 12, 14, 15, 16, 31, 32, 33] [4, 5, 11, 22, 23, 24] ⟨tr, tr, tr, ⟨c12.1, rfl, len_rep c12.1, rep_bytes c12.2, fun i hi => gl_zero (cs := cs_Turn) (zs := [(cF (default : F32)), (cF (default : F32)), (cF (default : F32)), (cF (default : F32))]) (n := (((a3.getD x8.toNat default).Bones).length : Int).toNat) ⟨⟨rfl, tr⟩, ⟨rfl, tr⟩, ⟨rfl, tr⟩, ⟨rfl, tr⟩, tr⟩ i (rep_lt hi)⟩, tr, tr⟩ ?_
      refine AW.seq ?_
      refine AW.sA ⟨[(10, (vL 4 4 cs_Turn v4.1)), (11, (vL 5 3 cs_Vector v4.2)), (12, (vL 11 3 cs_Vector x9)), (14, (vp 22 0)), (15, (vp 23 0)), (16, (.v (.one (.arr 24)))), (31, (vc (sl 5 cs_SkinPoint a3))), (32, (vI (a3.length : Int))), (33, (vI x8)), (42, (vc (sl 1 (csI .i64) ((a3.getD x8.toNat default).Bones)))), (43, (vI (((a3.getD x8.toNat default).Bones).length : Int))), (44, (vI (0 : Int)))], [(4, (oL 4 cs_Turn v4.1)), (5, (oL 3 cs_Vector v4.2)), (11, (oL 3 cs_Vector x9)), (22, (.box [(cF (((a3.getD x8.toNat default).Place).X)), (cF (((a3.getD x8.toNat default).Place).Y)), (cF (((a3.getD x8.toNat default).Place).Z)), (.c (sl 1 (csI .i64) ((a3.getD x8.toNat default).Bones))), (.c (sl 1 (csF .f32) ((a3.getD x8.toNat default).Weights)))])), (23, (.box [(cF (default : F32)), (cF (default : F32)), (cF (default : F32))])), (24, (.arr false (List.replicate (((a3.getD x8.toNat default).Bones).length : Int).toNat (default : Turn)).length 4 (gl cs_Turn (List.replicate (((a3.getD x8.toNat default).Bones).length : Int).toNat (default : Turn)))))]⟩ (T4 Tt) [] [10, 11, 12, 14, 15, 16, 31, 32, 33, 42, 43, 44] [4, 5, 11, 22, 23, 24] ⟨tr, tr, tr, tr, tr⟩ ?_
      obtain ⟨j34, e33, h⟩ := bind_some h
      refine AW.joinS (s2 := ⟨[(10, (vL 4 4 cs_Turn v4.1)), (11, (vL 5 3 cs_Vector v4.2)), (12, (vL 11 3 cs_Vector x9)), (14, (vp 22 0)), (15, (vp 23 0)), (16, (.v (.one (.arr 24)))), (31, (vc (sl 5 cs_SkinPoint a3))), (32, (vI (a3.length : Int))), (33, (vI x8))], [(4, (oL 4 cs_Turn v4.1)), (5, (oL 3 cs_Vector v4.2)), (11, (oL 3 cs_Vector x9)), (22, (.box [(cF (((a3.getD x8.toNat default).Place).X)), (cF (((a3.getD x8.toNat default).Place).Y)), (cF (((a3.getD x8.toNat default).Place).Z)), (.c (sl 1 (csI .i64) ((a3.getD x8.toNat default).Bones))), (.c (sl 1 (csF .f32) ((a3.getD x8.toNat default).Weights)))])), (23, (.box [(cF j34.1), (cF j34.2.1), (cF j34.2.2.1)])), (24, (.arr false j34.2.2.2.length 4 (gl cs_Turn j34.2.2.2)))]⟩) ?_ ?_
      · replace h := e33
        refine AW.block ?_
        refine AW.loopQ (σ := Nat × Int × F32 × F32 × F32 × (List Turn)) (fun p => ⟨[(10, (vL 4 4 cs_Turn v4.1)), (11, (vL 5 3 cs_Vector v4.2)), (12, (vL 11 3 cs_Vector x9)), (14, (vp 22 0)), (15, (vp 23 0)), (16, (.v (.one (.arr 24)))), (31, (vc (sl 5 cs_SkinPoint a3))), (32, (vI (a3.length : Int))), (33, (vI x8)), (42, (vc (sl 1 (csI .i64) ((a3.getD x8.toNat default).Bones)))), (43, (vI (((a3.getD x8.toNat default).Bones).length : Int))), (44, (vI p.2.1))], [(4, (oL 4 cs_Turn v4.1)), (5, (oL 3 cs_Vector v4.2)), (11, (oL 3 cs_Vector x9)), (22, (.box [(cF (((a3.getD x8.toNat default).Place).X)), (cF (((a3.getD x8.toNat default).Place).Y)), (cF (((a3.getD x8.toNat default).Place).Z)), (.c (sl 1 (csI .i64) ((a3.getD x8.toNat default).Bones))), (.c (sl 1 (csF .f32) ((a3.getD x8.toNat default).Weights)))])), (23, (.box [(cF p.2.2.1), (cF p.2.2.2.1), (cF p.2.2.2.2.1)])), (24, (.arr false p.2.2.2.2.2.length 4 (gl cs_Turn p.2.2.2.2.2)))]⟩) (fun p => impl_SkinMixed_l5 K a3 v4 x8 p.1 p.2.1 p.2.2.1 p.2.2.2.1 p.2.2.2.2.1 p.2.2.2.2.2 = some j34) (fun p => p.1) (K, (0 : Int), (default : F32), (default : F32), (default : F32), (List.replicate (((a3.getD x8.toNat default).Bones).length : Int).toNat (default : Turn))) h ?_
        clear h
        rintro ⟨k, x40, x41, x42, x43, x44⟩ h
        replace h : impl_SkinMixed_l5 K a3 v4 x8 k x40 x41 x42 x43 x44 = some j34 := h
        show AW _ _ (⟨[(10, (vL 4 4 cs_Turn v4.1)), (11, (vL 5 3 cs_Vector v4.2)), (12, (vL 11 3 cs_Vector x9)), (14, (vp 22 0)), (15, (vp 23 0)), (16, (.v (.one (.arr 24)))), (31, (vc (sl 5 cs_SkinPoint a3))), (32, (vI (a3.length : Int))), (33, (vI x8)), (42, (vc (sl 1 (csI .i64) ((a3.getD x8.toNat default).Bones)))), (43, (vI (((a3.getD x8.toNat default).Bones).length : Int))), (44, (vI x40))], [(4, (oL 4 cs_Turn v4.1)), (5, (oL 3 cs_Vector v4.2)), (11, (oL 3 cs_Vector x9)), (22, (.box [(cF (((a3.getD x8.toNat default).Place).X)), (cF (((a3.getD x8.toNat default).Place).Y)), (cF (((a3.getD x8.toNat default).Place).Z)), (.c (sl 1 (csI .i64) ((a3.getD x8.toNat default).Bones))), (.c (sl 1 (csF .f32) ((a3.getD x8.toNat default).Weights)))])), (23, (.box [(cF x41), (cF x42), (cF x43)])), (24, (.arr false x44.length 4 (gl cs_Turn x44)))]⟩ : St) _
        obtain _ | k := k
        · rw [impl_SkinMixed_l5] at h; cases h
        rw [impl_SkinMixed_l5] at h
        refine AW.sA ⟨[(10, (vL 4 4 cs_Turn v4.1)), (11, (vL 5 3 cs_Vector v4.2)), (12, (vL 11 3 cs_Vector x9)), (14, (vp 22 0)), (15, (vp 23 0)), (16, (.v (.one (.arr 24)))), (31, (vc (sl 5 cs_SkinPoint a3))), (32, (vI (a3.length : Int))), (33, (vI x8)), (42, (vc (sl 1 (csI .i64) ((a3.getD x8.toNat default).Bones)))), (43, (vI (((a3.getD x8.toNat default).Bones).length : Int))), (44, (vI x40)), (45, (vB (decide (x40 < (((a3.getD x8.toNat default).Bones).length : Int)))))], [(4, (oL 4 cs_Turn v4.1)), (5, (oL 3 cs_Vector v4.2)), (11, (oL 3 cs_Vector x9)), (22, (.box [(cF (((a3.getD x8.toNat default).Place).X)), (cF (((a3.getD x8.toNat default).Place).Y)), (cF (((a3.getD x8.toNat default).Place).Z)), (.c (sl 1 (csI .i64) ((a3.getD x8.toNat default).Bones))), (.c (sl 1 (csF .f32) ((a3.getD x8.toNat default).Weights)))])), (23, (.box [(cF x41), (cF x42), (cF x43)])), (24, (.arr false x44.length 4 (gl cs_Turn x44)))]⟩ (Tt ∧ Tt) [] [10, 11, 12, 14, 15, 16, 31, 32, 33, 42, 43, 44, 45] [4, 5, 11, 22, 23, 24] ⟨tr, tr⟩ ?_
        refine AW.seq ?_
        rcases ite2_cases h with ⟨b45, h⟩ | ⟨b45, h⟩
        · refine AW.cond_t rfl b45 ?_
          refine AW.skip ?_
          refine thenQ_normal ?_
          refine AW.seq ?_
          refine AW.block ?_
          refine AW.seq ?_
          obtain ⟨c46, h⟩ := chk_some h
          refine AW.tC (Tt ∧ (0 ≤ x40 ∧ x40 < (((a3.getD x8.toNat default).Bones).length : Int)) ∧ Tt ∧ T2 Tt) [] [10, 11, 12, 14, 15, 16, 17, 18, 31, 32, 33, 42, 43, 44] [4, 5, 11, 22, 23, 24] ⟨tr, c46, tr, tr, tr, tr⟩ ?_
          refine AW.seq ?_
          obtain ⟨c47, h⟩ := chk_some h
          obtain ⟨c48, h⟩ := chk_some h
          refine AW.tA ⟨[(10, (vL 4 4 cs_Turn v4.1)), (11, (vL 5 3 cs_Vector v4.2)), (12, (vL 11 3 cs_Vector x9)), (14, (vp 22 0)), (15, (vp 23 0)), (16, (.v (.one (.arr 24)))), (17, (vI x40)), (18, (vI (((a3.getD x8.toNat default).Bones).getD x40.toNat default))), (31, (vc (sl 5 cs_SkinPoint a3))), (32, (vI (a3.length : Int))), (33, (vI x8)), (42, (vc (sl 1 (csI .i64) ((a3.getD x8.toNat default).Bones)))), (43, (vI (((a3.getD x8.toNat default).Bones).length : Int))), (44, (vI x40))], [(4, (oL 4 cs_Turn v4.1)), (5, (oL 3 cs_Vector v4.2)), (11, (oL 3 cs_Vector x9)), (22, (.box [(cF (((a3.getD x8.toNat default).Place).X)), (cF (((a3.getD x8.toNat default).Place).Y)), (cF (((a3.getD x8.toNat default).Place).Z)), (.c (sl 1 (csI .i64) ((a3.getD x8.toNat default).Bones))), (.c (sl 1 (csF .f32) ((a3.getD x8.toNat default).Weights)))])), (23, (.box [(cF x41), (cF x42), (cF x43)])), (24, (.arr false (x44.set x40.toNat (v4.1.getD ((((a3.getD x8.toNat default).Bones).getD x40.toNat default).toNat) default)).length 4 (gl cs_Turn (x44.set x40.toNat (v4.1.getD ((((a3.getD x8.toNat default).Bones).getD x40.toNat default).toNat) default)))))]⟩ (T4 ((0 ≤ (((a3.getD x8.toNat default).Bones).getD x40.toNat default) ∧ (((a3.getD x8.toNat default).Bones).getD x40.toNat default) < (v4.1.length : Int)) ∧ Tt ∧ (0 ≤ x40 ∧ x40 < (x44.length : Int)) ∧ ((x44.set x40.toNat (v4.1.getD ((((a3.getD x8.toNat default).Bones).getD x40.toNat default).toNat) default)).length = x44.length ∧ SetOb x44.length 4 x40.toNat 0 4 (gl cs_Turn x44) (gl cs_Turn (x44.set x40.toNat (v4.1.getD ((((a3.getD x8.toNat default).Bones).getD x40.toNat default).toNat) default))) ∧ ((List.range 4).map fun j => (cs_Turn (v4.1.getD ((((a3.getD x8.toNat default).Bones).getD x40.toNat default).toNat) default)).getD (0 + j) .nilptr) = ((List.range 4).map fun j => gl cs_Turn (x44.set x40.toNat (v4.1.getD ((((a3.getD x8.toNat default).Bones).getD x40.toNat default).toNat) default)) x40.toNat (0 + j)) ∧ ((((.flt .f32 ((v4.1.getD ((((a3.getD x8.toNat default).Bones).getD x40.toNat default).toNat) default).W).bits) : C) = (.flt .f32 ((v4.1.getD ((((a3.getD x8.toNat default).Bones).getD x40.toNat default).toNat) default).W).bits) ∧ Tt) ∧ (((.flt .f32 ((v4.1.getD ((((a3.getD x8.toNat default).Bones).getD x40.toNat default).toNat) default).X).bits) : C) = (.flt .f32 ((v4.1.getD ((((a3.getD x8.toNat default).Bones).getD x40.toNat default).toNat) default).X).bits) ∧ Tt) ∧ (((.flt .f32 ((v4.1.getD ((((a3.getD x8.toNat default).Bones).getD x40.toNat default).toNat) default).Y).bits) : C) = (.flt .f32 ((v4.1.getD ((((a3.getD x8.toNat default).Bones).getD x40.toNat default).toNat) default).Y).bits) ∧ Tt) ∧ (((.flt .f32 ((v4.1.getD ((((a3.getD x8.toNat default).Bones).getD x40.toNat default).toNat) default).Z).bits) : C) = (.flt .f32 ((v4.1.getD ((((a3.getD x8.toNat default).Bones).getD x40.toNat default).toNat) default).Z).bits) ∧ Tt) ∧ Tt) ∧ (false = true → ∀ j, j < 4 → isSeq (gl cs_Turn x44 x40.toNat (0 + j)) = false ∧ isSeq (gl cs_Turn (x44.set x40.toNat (v4.1.getD ((((a3.getD x8.toNat default).Bones).getD x40.toNat default).toNat) default)) x40.toNat (0 + j)) = false)) ∧ Tt)) [.no, .no, .no, .no, .no, .no, .no, .set (x44.set x40.toNat (v4.1.getD ((((a3.getD x8.toNat default).Bones).getD x40.toNat default).toNat) default)).length (gl cs_Turn (x44.set x40.toNat (v4.1.getD ((((a3.getD x8.toNat default).Bones).getD x40.toNat default).toNat) default))) ((List.range 4).map fun j => (cs_Turn (v4.1.getD ((((a3.getD x8.toNat default).Bones).getD x40.toNat default).toNat) default)).getD (0 + j) .nilptr)] [10, 11, 12, 14, 15, 16, 17, 18, 31, 32, 33, 42, 43, 44] [4, 5, 11, 22, 23, 24] ⟨tr, tr, tr, tr, c47, tr, c48, ⟨List.length_set, gl_set, (gl_atp (lt_of_bound c48)).symm, ⟨⟨rfl, tr⟩, ⟨rfl, tr⟩, ⟨rfl, tr⟩, ⟨rfl, tr⟩, tr⟩, (fun h => nomatch h)⟩, tr⟩ ?_
          obtain ⟨c49, h⟩ := chk_some h
          obtain ⟨c50, h⟩ := chk_some h
          obtain ⟨v51, e52, h⟩ := bind_some h
          obtain ⟨v53, e54, h⟩ := bind_some h
          refine AW.dA ⟨[(10, (vL 4 4 cs_Turn v4.1)), (11, (vL 5 3 cs_Vector v4.2)), (12, (vL 11 3 cs_Vector x9)), (14, (vp 22 0)), (15, (vp 23 0)), (16, (.v (.one (.arr 24)))), (31, (vc (sl 5 cs_SkinPoint a3))), (32, (vI (a3.length : Int))), (33, (vI x8)), (42, (vc (sl 1 (csI .i64) ((a3.getD x8.toNat default).Bones)))), (43, (vI (((a3.getD x8.toNat default).Bones).length : Int))), (44, (vI x40))], [(4, (oL 4 cs_Turn v4.1)), (5, (oL 3 cs_Vector v4.2)), (11, (oL 3 cs_Vector x9)), (22, (.box [(cF (((a3.getD x8.toNat default).Place).X)), (cF (((a3.getD x8.toNat default).Place).Y)), (cF (((a3.getD x8.toNat default).Place).Z)), (.c (sl 1 (csI .i64) ((a3.getD x8.toNat default).Bones))), (.c (sl 1 (csF .f32) ((a3.getD x8.toNat default).Weights)))])), (23, (.box [(cF v53.X), (cF v53.Y), (cF v53.Z)])), (24, (.arr false (x44.set x40.toNat (v4.1.getD ((((a3.getD x8.toNat default).Bones).getD x40.toNat default).toNat) default)).length 4 (gl cs_Turn (x44.set x40.toNat (v4.1.getD ((((a3.getD x8.toNat default).Bones).getD x40.toNat default).toNat) default)))))]⟩ ((Tt ∧ T2 ((0 ≤ (((a3.getD x8.toNat default).Bones).getD x40.toNat default) ∧ (((a3.getD x8.toNat default).Bones).getD x40.toNat default) < (v4.2.length : Int)) ∧ T4 ((0 ≤ x40 ∧ x40 < (((a3.getD x8.toNat default).Weights).length : Int)) ∧ Tt ∧ ((((((.flt .f32 ((v4.2.getD ((((a3.getD x8.toNat default).Bones).getD x40.toNat default).toNat) default).X).bits) : C) = (.flt .f32 ((v4.2.getD ((((a3.getD x8.toNat default).Bones).getD x40.toNat default).toNat) default).X).bits)) ∧ (((.flt .f32 ((v4.2.getD ((((a3.getD x8.toNat default).Bones).getD x40.toNat default).toNat) default).Y).bits) : C) = (.flt .f32 ((v4.2.getD ((((a3.getD x8.toNat default).Bones).getD x40.toNat default).toNat) default).Y).bits)) ∧ (((.flt .f32 ((v4.2.getD ((((a3.getD x8.toNat default).Bones).getD x40.toNat default).toNat) default).Z).bits) : C) = (.flt .f32 ((v4.2.getD ((((a3.getD x8.toNat default).Bones).getD x40.toNat default).toNat) default).Z).bits)) ∧ Tt) ∧ (eF (((a3.getD x8.toNat default).Weights).getD x40.toNat default)) ∧ Tt) ∧ CallOK Try.prog 25 [.agg (cs_Vector (v4.2.getD ((((a3.getD x8.toNat default).Bones).getD x40.toNat default).toNat) default)), .one (.flt .f32 (((a3.getD x8.toNat default).Weights).getD x40.toNat default).bits)] [.agg (cs_Vector v51)]) ∧ ((((eF x41) ∧ (eF x42) ∧ (eF x43) ∧ Tt) ∧ ((eF v51.X) ∧ (eF v51.Y) ∧ (eF v51.Z) ∧ Tt) ∧ Tt) ∧ CallOK Try.prog 23 [.agg (cs_Vector (Vector.mk x41 x42 x43)), .agg (cs_Vector v51)] [.agg (cs_Vector v53)]) ∧ Tt))) ∧ (Tt ∧ Tt)) 12 [.no, .no, .no, .no, .no, .no, .no, .no, .no, .no, .call [.agg (cs_Vector (v4.2.getD ((((a3.getD x8.toNat default).Bones).getD x40.toNat default).toNat) default)), .one (.flt .f32 (((a3.getD x8.toNat default).Weights).getD x40.toNat default).bits)] [.agg (cs_Vector v51)] [[.view, .view, .view]], .call [.agg (cs_Vector (Vector.mk x41 x42 x43)), .agg (cs_Vector v51)] [.agg (cs_Vector v53)] [[.view, .view, .view]]] [10, 11, 12, 14, 15, 16, 31, 32, 33, 42, 43, 44] [4, 5, 11, 22, 23, 24] ⟨⟨tr, tr, tr, c49, tr, tr, tr, tr, c50, tr, ⟨⟨⟨rfl, rfl, rfl, tr⟩, rfl, tr⟩, ok_impl_ScaleVector K (v4.2.getD ((((a3.getD x8.toNat default).Bones).getD x40.toNat default).toNat) default) (((a3.getD x8.toNat default).Weights).getD x40.toNat default) v51 e52⟩, ⟨⟨⟨rfl, rfl, rfl, tr⟩, ⟨rfl, rfl, rfl, tr⟩, tr⟩, ok_impl_AddVectors K (Vector.mk x41 x42 x43) v51 v53 e54⟩, tr⟩, ⟨tr, tr⟩⟩ ?_
          refine blockQ_normal ?_
          refine thenQ_normal ?_
          refine AW.rA ⟨[(10, (vL 4 4 cs_Turn v4.1)), (11, (vL 5 3 cs_Vector v4.2)), (12, (vL 11 3 cs_Vector x9)), (14, (vp 22 0)), (15, (vp 23 0)), (16, (.v (.one (.arr 24)))), (31, (vc (sl 5 cs_SkinPoint a3))), (32, (vI (a3.length : Int))), (33, (vI x8)), (42, (vc (sl 1 (csI .i64) ((a3.getD x8.toNat default).Bones)))), (43, (vI (((a3.getD x8.toNat default).Bones).length : Int))), (44, (vI (IntKind.i64.wrap (x40 + (1 : Int)))))], [(4, (oL 4 cs_Turn v4.1)), (5, (oL 3 cs_Vector v4.2)), (11, (oL 3 cs_Vector x9)), (22, (.box [(cF (((a3.getD x8.toNat default).Place).X)), (cF (((a3.getD x8.toNat default).Place).Y)), (cF (((a3.getD x8.toNat default).Place).Z)), (.c (sl 1 (csI .i64) ((a3.getD x8.toNat default).Bones))), (.c (sl 1 (csF .f32) ((a3.getD x8.toNat default).Weights)))])), (23, (.box [(cF v53.X), (cF v53.Y), (cF v53.Z)])), (24, (.arr false (x44.set x40.toNat (v4.1.getD ((((a3.getD x8.toNat default).Bones).getD x40.toNat default).toNat) default)).length 4 (gl cs_Turn (x44.set x40.toNat (v4.1.getD ((((a3.getD x8.toNat default).Bones).getD x40.toNat default).toNat) default)))))]⟩ (T2 Tt) [] [10, 11, 12, 14, 15, 16, 31, 32, 33, 42, 43, 44] [4, 5, 11, 22, 23, 24] ⟨tr, tr, tr⟩ ?_
          exact loopQ_normal (k, (IntKind.i64.wrap (x40 + (1 : Int))), v53.X, v53.Y, v53.Z, (x44.set x40.toNat (v4.1.getD ((((a3.getD x8.toNat default).Bones).getD x40.toNat default).toNat) default))) h (Nat.lt_succ_self k) (Sub.keep [10, 11, 12, 14, 15, 16, 31, 32, 33, 42, 43, 44] [4, 5, 11, 22, 23, 24] (by kernel_rfl) (by kernel_rfl))
        · refine AW.cond_f rfl b45 ?_
          refine AW.exit ?_
          refine thenQ_exit ?_
          refine loopQ_exit ?_
          refine blockQ_exit ?_
          replace h := some_eq h
          subst h
          exact ⟨rfl, Sub.keep [10, 11, 12, 14, 15, 16, 31, 32, 33] [4, 5, 11, 22, 23, 24] (by kernel_rfl) (by kernel_rfl)⟩
      refine thenQ_normal ?_
      obtain ⟨v55, e56, h⟩ := bind_some h
      obtain ⟨v57, e58, h⟩ := bind_some h
      obtain ⟨v59, e60, h⟩ := bind_some h
      obtain ⟨c61, h⟩ := chk_some h
      refine AW.dA ⟨[(10, (vL 4 4 cs_Turn v4.1)), (11, (vL 5 3 cs_Vector v4.2)), (12, (vL 26 3 cs_Vector (x9 ++ ([v59])))), (31, (vc (sl 5 cs_SkinPoint a3))), (32, (vI (a3.length : Int))), (33, (vI x8))], [(4, (oL 4 cs_Turn v4.1)), (5, (oL 3 cs_Vector v4.2)), (26, (oL 3 cs_Vector (x9 ++ ([v59]))))]⟩ ((T4 ((((Eqc (sl 4 cs_Turn j34.2.2.2)) ∧ (Eqc (sl 1 (csF .f32) ((a3.getD x8.toNat default).Weights))) ∧ Tt) ∧ CallOK Try.prog 26 [.one (sl 4 cs_Turn j34.2.2.2), .one (sl 1 (csF .f32) ((a3.getD x8.toNat default).Weights))] [.agg (cs_Turn v55)]) ∧ T2 (((((eF v55.W) ∧ (eF v55.X) ∧ (eF v55.Y) ∧ (eF v55.Z) ∧ Tt) ∧ ((eF (((a3.getD x8.toNat default).Place).X)) ∧ (eF (((a3.getD x8.toNat default).Place).Y)) ∧ (eF (((a3.getD x8.toNat default).Place).Z)) ∧ Tt) ∧ Tt) ∧ CallOK Try.prog 24 [.agg (cs_Turn v55), .agg (cs_Vector ((a3.getD x8.toNat default).Place))] [.agg (cs_Vector v57)]) ∧ Tt ∧ ((((eF v57.X) ∧ (eF v57.Y) ∧ (eF v57.Z) ∧ Tt) ∧ ((eF j34.1) ∧ (eF j34.2.1) ∧ (eF j34.2.2.1) ∧ Tt) ∧ Tt) ∧ CallOK Try.prog 23 [.agg (cs_Vector v57), .agg (cs_Vector (Vector.mk j34.1 j34.2.1 j34.2.2.1))] [.agg (cs_Vector v59)]) ∧ (([v59]).length = 1 ∧ (((.flt .f32 v59.X.bits) : C) = (.flt .f32 v59.X.bits) ∧ Tt) ∧ (((.flt .f32 v59.Y.bits) : C) = (.flt .f32 v59.Y.bits) ∧ Tt) ∧ (((.flt .f32 v59.Z.bits) : C) = (.flt .f32 v59.Z.bits) ∧ Tt) ∧ Tt) ∧ ((x9 ++ ([v59])).length = x9.length + ([v59]).length ∧ AppOb (x9.length) (([v59]).length) 3 (gl cs_Vector x9) (gl cs_Vector ([v59])) (gl cs_Vector (x9 ++ ([v59]))) ∧ (∀ i j, i < ([v59]).length → j < 3 → scalarC (gl cs_Vector ([v59]) i j)) ∧ (x9.length + ([v59]).length) * 12 ≤ 140737488355328) ∧ Tt))) ∧ (Tt ∧ Tt)) 12 [.no, .no, .no, .no, .call [.one (sl 4 cs_Turn j34.2.2.2), .one (sl 1 (csF .f32) ((a3.getD x8.toNat default).Weights))] [.agg (cs_Turn v55)] [[.view, .view, .view, .view]], .no, .no, .call [.agg (cs_Turn v55), .agg (cs_Vector ((a3.getD x8.toNat default).Place))] [.agg (cs_Vector v57)] [[.view, .view, .view]], .no, .call [.agg (cs_Vector v57), .agg (cs_Vector (Vector.mk j34.1 j34.2.1 j34.2.2.1))] [.agg (cs_Vector v59)] [[.view, .view, .view]], .obj 25 ([v59]).length (gl cs_Vector ([v59])), .objK 26 (x9 ++ ([v59])).length (gl cs_Vector (x9 ++ ([v59])))] [10, 11, 12, 31, 32, 33] [4, 5, 26] ⟨⟨tr, tr, tr, tr, ⟨⟨rfl, rfl, tr⟩, ok_impl_mixTurns K j34.2.2.2 ((a3.getD x8.toNat default).Weights) v55 e56⟩, tr, tr, ⟨⟨⟨rfl, rfl, rfl, rfl, tr⟩, ⟨rfl, rfl, rfl, tr⟩, tr⟩, ok_impl_RotateBy K v55 ((a3.getD x8.toNat default).Place) v57 e58⟩, tr, ⟨⟨⟨rfl, rfl, rfl, tr⟩, ⟨rfl, rfl, rfl, tr⟩, tr⟩, ok_impl_AddVectors K v57 (Vector.mk j34.1 j34.2.1 j34.2.2.1) v59 e60⟩, ⟨rfl, ⟨⟨rfl, tr⟩, ⟨rfl, tr⟩, ⟨rfl, tr⟩, tr⟩⟩, ⟨List.length_append, gl_append, gl_scalar sc_Vector _, c61⟩, tr⟩, ⟨tr, tr⟩⟩ ?_
      refine blockQ_normal ?_
      refine thenQ_normal ?_
      refine AW.rA ⟨[(10, (vL 4 4 cs_Turn v4.1)), (11, (vL 5 3 cs_Vector v4.2)), (12, (vL 26 3 cs_Vector (x9 ++ ([v59])))), (31, (vc (sl 5 cs_SkinPoint a3))), (32, (vI (a3.length : Int))), (33, (vI (IntKind.i64.wrap (x8 + (1 : Int)))))], [(4, (oL 4 cs_Turn v4.1)), (5, (oL 3 cs_Vector v4.2)), (26, (oL 3 cs_Vector (x9 ++ ([v59]))))]⟩ (T2 Tt) [] [10, 11, 12, 31, 32, 33] [4, 5, 26] ⟨tr, tr, tr⟩ ?_
      exact loopQ_normal (k, (IntKind.i64.wrap (x8 + (1 : Int))), (x9 ++ ([v59]))) h (Nat.lt_succ_self k) (Sub.trans (Sub.swap 11 26 _ (by kernel_rfl) (by kernel_rfl)) (Sub.keep [10, 11, 12, 31, 32, 33] [4, 5, 11] (by kernel_rfl) (by kernel_rfl)))
    · refine AW.cond_f rfl b10 ?_
      refine AW.exit ?_
      refine thenQ_exit ?_
      refine loopQ_exit ?_
      refine blockQ_exit ?_
      refine thenQ_normal ?_
      refine AW.sA ⟨[(8, (vL 11 3 cs_Vector x9)), (9, (vB true))], [(11, (oL 3 cs_Vector x9))]⟩ (Tt ∧ T2 Tt) [] [8, 9] [11] ⟨tr, tr, tr, tr⟩ ?_
      refine AW.ret ?_
      replace h := some_eq h
      subst h
      exact ⟨.inr rfl, retOK_of [(.one (xL 11 3 cs_Vector x9)), (.one (.c (.bool true)))] (by kernel_rfl) ⟨rfl, ⟨rfl, tr⟩, tr⟩ (of_decide_eq_true (by kernel_rfl))⟩

/-! impl.WorldOf -/
def impl_WorldOf (K : Nat) (a0 : Skeleton) (a1 : Pose) : Option ((List Turn) × (List Vector) × Bool) :=
  (impl_IsPose K a0 a1).bind fun v1 => ite2 ((!v1)) (some (([] : (List Turn)), ([] : (List Vector)), false)) ((impl_Skeleton_world K a0 a1).bind fun v4 => some (v4.1, v4.2, true))

theorem ok_impl_WorldOf (K : Nat) (a0 : Skeleton) (a1 : Pose) (o : ((List Turn) × (List Vector) × Bool)) (h : impl_WorldOf K a0 a1 = some o) : CallOK Try.prog 10 [.agg (cs_Skeleton a0), .agg (cs_Pose a1)] [.one (sl 4 cs_Turn o.1), .one (sl 3 cs_Vector o.2.1), .one (.bool o.2.2)] := by
  refine callOK_of_AW Try.func10 rfl (by kernel_rfl) (Nat.le_of_ble_eq_true (by kernel_rfl)) ?_
  intro w0
  unfold impl_WorldOf at h
  refine AW.sC (Tt ∧ T4 Tt) [.box 1, .box 2] [2, 3] [1, 2] ⟨tr, tr, tr, tr, tr, tr⟩ ?_
  refine AW.seq ?_
  refine AW.seq ?_
  obtain ⟨v1, e2, h⟩ := bind_some h
  refine AW.tA ⟨[(2, (vp 1 0)), (3, (vp 2 0)), (12, (vB (!v1)))], [(1, (.box [(.c (sl 4 cs_Bone a0.Bones))])), (2, (.box [(cF a1.Root.X), (cF a1.Root.Y), (cF a1.Root.Z), (.c (sl 4 cs_Turn a1.Turns))]))]⟩ (T2 (((((Eqc (sl 4 cs_Bone a0.Bones)) ∧ Tt) ∧ ((eF a1.Root.X) ∧ (eF a1.Root.Y) ∧ (eF a1.Root.Z) ∧ (Eqc (sl 4 cs_Turn a1.Turns)) ∧ Tt) ∧ Tt) ∧ CallOK Try.prog 27 [.agg (cs_Skeleton a0), .agg (cs_Pose a1)] [.one (.bool v1)]) ∧ Tt ∧ Tt)) [.no, .no, .call [.agg (cs_Skeleton a0), .agg (cs_Pose a1)] [.one (.bool v1)] [[.view]]] [2, 3, 12] [1, 2] ⟨tr, tr, ⟨⟨⟨rfl, tr⟩, ⟨rfl, rfl, rfl, rfl, tr⟩, tr⟩, ok_impl_IsPose K a0 a1 v1 e2⟩, tr, tr⟩ ?_
  rcases ite2_cases h with ⟨b3, h⟩ | ⟨b3, h⟩
  · refine AW.cond_t rfl b3 ?_
    refine AW.sA ⟨[(4, (.v (.one .nils))), (5, (.v (.one .nils))), (6, (vB false))], []⟩ (Tt ∧ T2 Tt) [] [4, 5, 6] [] ⟨tr, tr, tr, tr⟩ ?_
    refine AW.ret ?_
    refine thenQ_ret ?_
    replace h := some_eq h
    subst h
    exact ⟨.inr rfl, retOK_of [(.one .nils), (.one .nils), (.one (.c (.bool false)))] (by kernel_rfl) ⟨rfl, rfl, ⟨rfl, tr⟩, tr⟩ (of_decide_eq_true (by kernel_rfl))⟩
  · refine AW.cond_f rfl b3 ?_
    refine AW.skip ?_
    refine thenQ_normal ?_
    refine AW.seq ?_
    obtain ⟨v4, e5, h⟩ := bind_some h
    refine AW.tC (Tt ∧ (((0 = 0 ∧ (Eqc (sl 4 cs_Bone a0.Bones)) ∧ Tt) ∧ ((eF a1.Root.X) ∧ (eF a1.Root.Y) ∧ (eF a1.Root.Z) ∧ (Eqc (sl 4 cs_Turn a1.Turns)) ∧ Tt) ∧ Tt) ∧ CallOK Try.prog 28 [.one (pl 1 cs_Skeleton a0), .agg (cs_Pose a1)] [.one (sl 4 cs_Turn v4.1), .one (sl 3 cs_Vector v4.2)]) ∧ Tt ∧ T4 Tt) [.no, .call [.one (pl 1 cs_Skeleton a0), .agg (cs_Pose a1)] [.one (sl 4 cs_Turn v4.1), .one (sl 3 cs_Vector v4.2)] [[.lst 3], [.lst 4]]] [7, 8] [3, 4] ⟨tr, ⟨⟨⟨rfl, rfl, tr⟩, ⟨rfl, rfl, rfl, rfl, tr⟩, tr⟩, ok_impl_Skeleton_world K a0 a1 v4 e5⟩, tr, tr, tr, tr, tr, tr⟩ ?_
    refine AW.sA ⟨[(4, (vL 3 4 cs_Turn v4.1)), (5, (vL 4 3 cs_Vector v4.2)), (6, (vB true))], [(3, (oL 4 cs_Turn v4.1)), (4, (oL 3 cs_Vector v4.2))]⟩ (Tt ∧ T4 Tt) [] [4, 5, 6] [3, 4] ⟨tr, tr, tr, tr, tr, tr⟩ ?_
    refine AW.ret ?_
    replace h := some_eq h
    subst h
    exact ⟨.inr rfl, retOK_of [(.one (xL 3 4 cs_Turn v4.1)), (.one (xL 4 3 cs_Vector v4.2)), (.one (.c (.bool true)))] (by kernel_rfl) ⟨rfl, rfl, ⟨rfl, tr⟩, tr⟩ (of_decide_eq_true (by kernel_rfl))⟩

/-! impl.MovesOf -/
def impl_MovesOf (K : Nat) (a0 : Skeleton) (a1 : Pose) (a2 : Pose) : Option ((List Turn) × (List Vector) × Bool) :=
  (impl_IsPose K a0 a1).bind fun v1 => (ite2 ((!v1)) (some true) ((impl_IsPose K a0 a2).bind fun v4 => some (!v4))).bind fun j6 => ite2 (j6) (some (([] : (List Turn)), ([] : (List Vector)), false)) ((impl_Skeleton_moves K a0 a1 a2).bind fun v9 => some (v9.1, v9.2, true))

theorem ok_impl_MovesOf (K : Nat) (a0 : Skeleton) (a1 : Pose) (a2 : Pose) (o : ((List Turn) × (List Vector) × Bool)) (h : impl_MovesOf K a0 a1 a2 = some o) : CallOK Try.prog 11 [.agg (cs_Skeleton a0), .agg (cs_Pose a1), .agg (cs_Pose a2)] [.one (sl 4 cs_Turn o.1), .one (sl 3 cs_Vector o.2.1), .one (.bool o.2.2)] := by
  refine callOK_of_AW Try.func11 rfl (by kernel_rfl) (Nat.le_of_ble_eq_true (by kernel_rfl)) ?_
  intro w0
  unfold impl_MovesOf at h
  refine AW.sA ⟨[(3, (vp 1 0)), (4, (vp 2 0)), (5, (vp 3 0))], [(1, (.box [(.c (sl 4 cs_Bone a0.Bones))])), (2, (.box [(cF a1.Root.X), (cF a1.Root.Y), (cF a1.Root.Z), (.c (sl 4 cs_Turn a1.Turns))])), (3, (.box [(cF a2.Root.X), (cF a2.Root.Y), (cF a2.Root.Z), (.c (sl 4 cs_Turn a2.Turns))]))]⟩ (T2 (T4 Tt)) [.box 1, .box 2, .box 3] [3, 4, 5] [1, 2, 3] ⟨tr, tr, tr, tr, tr, tr, tr⟩ ?_
  refine AW.seq ?_
  refine AW.seq ?_
  obtain ⟨v1, e2, h⟩ := bind_some h
  obtain ⟨j6, e7, h⟩ := bind_some h
  refine AW.join1 (s2 := ⟨[(3, (vp 1 0)), (4, (vp 2 0)), (5, (vp 3 0)), (20, (vB j6))], [(1, (.box [(.c (sl 4 cs_Bone a0.Bones))])), (2, (.box [(cF a1.Root.X), (cF a1.Root.Y), (cF a1.Root.Z), (.c (sl 4 cs_Turn a1.Turns))])), (3, (.box [(cF a2.Root.X), (cF a2.Root.Y), (cF a2.Root.Z), (.c (sl 4 cs_Turn a2.Turns))]))]⟩) ?_ ?_
  · rcases ite2_cases e7 with ⟨b3, e7⟩ | ⟨b3, e7⟩
    · replace e7 := some_eq e7
      subst e7
      exact AW.rA ⟨[(3, (vp 1 0)), (4, (vp 2 0)), (5, (vp 3 0)), (20, (vB true))], [(1, (.box [(.c (sl 4 cs_Bone a0.Bones))])), (2, (.box [(cF a1.Root.X), (cF a1.Root.Y), (cF a1.Root.Z), (.c (sl 4 cs_Turn a1.Turns))])), (3, (.box [(cF a2.Root.X), (cF a2.Root.Y), (cF a2.Root.Z), (.c (sl 4 cs_Turn a2.Turns))]))]⟩ (T2 (((((Eqc (sl 4 cs_Bone a0.Bones)) ∧ Tt) ∧ ((eF a1.Root.X) ∧ (eF a1.Root.Y) ∧ (eF a1.Root.Z) ∧ (Eqc (sl 4 cs_Turn a1.Turns)) ∧ Tt) ∧ Tt) ∧ CallOK Try.prog 27 [.agg (cs_Skeleton a0), .agg (cs_Pose a1)] [.one (.bool v1)]) ∧ Tt ∧ (Tt ∧ (!v1) = true) ∧ Tt ∧ T4 Tt)) [.no, .no, .call [.agg (cs_Skeleton a0), .agg (cs_Pose a1)] [.one (.bool v1)] [[.view]], .no, .dec true] [3, 4, 5, 20] [1, 2, 3] ⟨tr, tr, ⟨⟨⟨rfl, tr⟩, ⟨rfl, rfl, rfl, rfl, tr⟩, tr⟩, ok_impl_IsPose K a0 a1 v1 e2⟩, tr, ⟨tr, b3⟩, tr, tr, tr, tr, tr, tr⟩ ⟨rfl, rfl⟩
    · obtain ⟨v4, e5, e7⟩ := bind_some e7
      replace e7 := some_eq e7
      subst e7
      exact AW.rA ⟨[(3, (vp 1 0)), (4, (vp 2 0)), (5, (vp 3 0)), (20, (vB (!v4)))], [(1, (.box [(.c (sl 4 cs_Bone a0.Bones))])), (2, (.box [(cF a1.Root.X), (cF a1.Root.Y), (cF a1.Root.Z), (.c (sl 4 cs_Turn a1.Turns))])), (3, (.box [(cF a2.Root.X), (cF a2.Root.Y), (cF a2.Root.Z), (.c (sl 4 cs_Turn a2.Turns))]))]⟩ (T2 (((((Eqc (sl 4 cs_Bone a0.Bones)) ∧ Tt) ∧ ((eF a1.Root.X) ∧ (eF a1.Root.Y) ∧ (eF a1.Root.Z) ∧ (Eqc (sl 4 cs_Turn a1.Turns)) ∧ Tt) ∧ Tt) ∧ CallOK Try.prog 27 [.agg (cs_Skeleton a0), .agg (cs_Pose a1)] [.one (.bool v1)]) ∧ Tt ∧ (Tt ∧ (!v1) = false) ∧ T2 (((((Eqc (sl 4 cs_Bone a0.Bones)) ∧ Tt) ∧ ((eF a2.Root.X) ∧ (eF a2.Root.Y) ∧ (eF a2.Root.Z) ∧ (Eqc (sl 4 cs_Turn a2.Turns)) ∧ Tt) ∧ Tt) ∧ CallOK Try.prog 27 [.agg (cs_Skeleton a0), .agg (cs_Pose a2)] [.one (.bool v4)]) ∧ T2 Tt))) [.no, .no, .call [.agg (cs_Skeleton a0), .agg (cs_Pose a1)] [.one (.bool v1)] [[.view]], .no, .dec false, .no, .no, .call [.agg (cs_Skeleton a0), .agg (cs_Pose a2)] [.one (.bool v4)] [[.view]]] [3, 4, 5, 20] [1, 2, 3] ⟨tr, tr, ⟨⟨⟨rfl, tr⟩, ⟨rfl, rfl, rfl, rfl, tr⟩, tr⟩, ok_impl_IsPose K a0 a1 v1 e2⟩, tr, ⟨tr, b3⟩, tr, tr, ⟨⟨⟨rfl, tr⟩, ⟨rfl, rfl, rfl, rfl, tr⟩, tr⟩, ok_impl_IsPose K a0 a2 v4 e5⟩, tr, tr, tr⟩ ⟨rfl, rfl⟩
  refine thenQ_normal ?_
  rcases ite2_cases h with ⟨b8, h⟩ | ⟨b8, h⟩
  · refine AW.cond_t rfl b8 ?_
    refine AW.sA ⟨[(6, (.v (.one .nils))), (7, (.v (.one .nils))), (8, (vB false))], []⟩ (Tt ∧ T2 Tt) [] [6, 7, 8] [] ⟨tr, tr, tr, tr⟩ ?_
    refine AW.ret ?_
    refine thenQ_ret ?_
    replace h := some_eq h
    subst h
    exact ⟨.inr rfl, retOK_of [(.one .nils), (.one .nils), (.one (.c (.bool false)))] (by kernel_rfl) ⟨rfl, rfl, ⟨rfl, tr⟩, tr⟩ (of_decide_eq_true (by kernel_rfl))⟩
  · refine AW.cond_f rfl b8 ?_
    refine AW.skip ?_
    refine thenQ_normal ?_
    refine AW.seq ?_
    obtain ⟨v9, e10, h⟩ := bind_some h
    refine AW.tC (T2 ((((0 = 0 ∧ (Eqc (sl 4 cs_Bone a0.Bones)) ∧ Tt) ∧ ((eF a1.Root.X) ∧ (eF a1.Root.Y) ∧ (eF a1.Root.Z) ∧ (Eqc (sl 4 cs_Turn a1.Turns)) ∧ Tt) ∧ ((eF a2.Root.X) ∧ (eF a2.Root.Y) ∧ (eF a2.Root.Z) ∧ (Eqc (sl 4 cs_Turn a2.Turns)) ∧ Tt) ∧ Tt) ∧ CallOK Try.prog 22 [.one (pl 1 cs_Skeleton a0), .agg (cs_Pose a1), .agg (cs_Pose a2)] [.one (sl 4 cs_Turn v9.1), .one (sl 3 cs_Vector v9.2)]) ∧ Tt ∧ T4 Tt)) [.no, .no, .call [.one (pl 1 cs_Skeleton a0), .agg (cs_Pose a1), .agg (cs_Pose a2)] [.one (sl 4 cs_Turn v9.1), .one (sl 3 cs_Vector v9.2)] [[.lst 4], [.lst 5]]] [9, 10] [4, 5] ⟨tr, tr, ⟨⟨⟨rfl, rfl, tr⟩, ⟨rfl, rfl, rfl, rfl, tr⟩, ⟨rfl, rfl, rfl, rfl, tr⟩, tr⟩, ok_impl_Skeleton_moves K a0 a1 a2 v9 e10⟩, tr, tr, tr, tr, tr, tr⟩ ?_
    refine AW.sA ⟨[(6, (vL 4 4 cs_Turn v9.1)), (7, (vL 5 3 cs_Vector v9.2)), (8, (vB true))], [(4, (oL 4 cs_Turn v9.1)), (5, (oL 3 cs_Vector v9.2))]⟩ (Tt ∧ T4 Tt) [] [6, 7, 8] [4, 5] ⟨tr, tr, tr, tr, tr, tr⟩ ?_
    refine AW.ret ?_
    replace h := some_eq h
    subst h
    exact ⟨.inr rfl, retOK_of [(.one (xL 4 4 cs_Turn v9.1)), (.one (xL 5 3 cs_Vector v9.2)), (.one (.c (.bool true)))] (by kernel_rfl) ⟨rfl, rfl, ⟨rfl, tr⟩, tr⟩ (of_decide_eq_true (by kernel_rfl))⟩

/-! slices.Sort[[]int64,int64] -/
def slices_Sort_int64_int64 (_K : Nat) (a0 : (List Int)) : Option ((List Int)) :=
  sortI a0

theorem ok_slices_Sort_int64_int64 (K : Nat) (a0 : (List Int)) (o : (List Int)) (h : slices_Sort_int64_int64 K a0 = some o) : MutOK Try.prog 29 [(.one (.mu (sl 1 (csI .i64) a0) (sl 1 (csI .i64) o)))] [] :=
  mut_sort (enter_of Try.func29 (by kernel_rfl) (by kernel_rfl)) (fun blk off cap zs w h1 h2 h3 => Try.slices_Sort_int blk off cap zs w h1 h2 h3) (fun p cap w => Try.slices_Sort_int_none p cap w) a0 o h

/-! slices.Compact[[]int64,int64] -/
def slices_Compact_int64_int64 (_K : Nat) (a0 : (List Int)) : Option ((List Int)) :=
  compactI a0

theorem ok_slices_Compact_int64_int64 (K : Nat) (a0 : (List Int)) (o : (List Int)) (h : slices_Compact_int64_int64 K a0 = some o) : MutOK Try.prog 30 [(.one (.mv (sl 1 (csI .i64) a0)))] [.one (sl 1 (csI .i64) o)] :=
  mut_compact (enter_of Try.func30 (by kernel_rfl) (by kernel_rfl)) (fun blk off cap zs w h1 h2 h3 => Try.slices_Compact_int blk off cap zs w h1 h2 h3) (fun a cap w => Try.slices_Compact_int_empty a cap w) a0 o h

/-! impl.UsedBones -/
def impl_UsedBones_l1 (K : Nat) (a1 : (List SkinPoint)) : Nat → Int → (List Int) → Option ((List Int) × Bool)
  | 0, _, _ => none
  | k + 1, x6, x7 => ite2 ((decide (x6 < (a1.length : Int)))) (chk (0 ≤ x6 ∧ x6 < (a1.length : Int)) (chk ((x7.length + ((a1.getD x6.toNat default).Bones).length) * 8 ≤ 140737488355328) (impl_UsedBones_l1 K a1 k (IntKind.i64.wrap (x6 + (1 : Int))) (x7 ++ ((a1.getD x6.toNat default).Bones))))) ((slices_Sort_int64_int64 K x7).bind fun v11 => chk (v11.length = x7.length) ((slices_Compact_int64_int64 K v11).bind fun v14 => some (v14, true)))

def impl_UsedBones (K : Nat) (a0 : Skeleton) (a1 : (List SkinPoint)) : Option ((List Int) × Bool) :=
  (impl_IsSkin K a0 a1).bind fun v1 => ite2 ((!v1)) (some (([] : (List Int)), false)) (impl_UsedBones_l1 K a1 K (0 : Int) ([] : (List Int)))

theorem ok_impl_UsedBones (K : Nat) (a0 : Skeleton) (a1 : (List SkinPoint)) (o : ((List Int) × Bool)) (h : impl_UsedBones K a0 a1 = some o) : CallOK Try.prog 12 [.agg (cs_Skeleton a0), .one (sl 5 cs_SkinPoint a1)] [.one (sl 1 (csI .i64) o.1), .one (.bool o.2)] := by
  refine callOK_of_AW Try.func12 rfl (by kernel_rfl) (Nat.le_of_ble_eq_true (by kernel_rfl)) ?_
  intro w0
  unfold impl_UsedBones at h
  refine AW.sC (Tt ∧ T2 Tt) [.box 1] [1, 2] [1] ⟨tr, tr, tr, tr⟩ ?_
  refine AW.seq ?_
  refine AW.seq ?_
  obtain ⟨v1, e2, h⟩ := bind_some h
  refine AW.tA ⟨[(1, (vc (sl 5 cs_SkinPoint a1))), (12, (vB (!v1)))], []⟩ (T2 (((((Eqc (sl 4 cs_Bone a0.Bones)) ∧ Tt) ∧ (Eqc (sl 5 cs_SkinPoint a1)) ∧ Tt) ∧ CallOK Try.prog 13 [.agg (cs_Skeleton a0), .one (sl 5 cs_SkinPoint a1)] [.one (.bool v1)]) ∧ Tt ∧ Tt)) [.no, .no, .call [.agg (cs_Skeleton a0), .one (sl 5 cs_SkinPoint a1)] [.one (.bool v1)] [[.view]]] [1, 12] [] ⟨tr, tr, ⟨⟨⟨rfl, tr⟩, rfl, tr⟩, ok_impl_IsSkin K a0 a1 v1 e2⟩, tr, tr⟩ ?_
  rcases ite2_cases h with ⟨b3, h⟩ | ⟨b3, h⟩
  · refine AW.cond_t rfl b3 ?_
    refine AW.sA ⟨[(4, (.v (.one .nils))), (5, (vB false))], []⟩ (T2 Tt) [] [4, 5] [] ⟨tr, tr, tr⟩ ?_
    refine AW.ret ?_
    refine thenQ_ret ?_
    replace h := some_eq h
    subst h
    exact ⟨.inr rfl, retOK_of [(.one .nils), (.one (.c (.bool false)))] (by kernel_rfl) ⟨rfl, ⟨rfl, tr⟩, tr⟩ (of_decide_eq_true (by kernel_rfl))⟩
  · refine AW.cond_f rfl b3 ?_
    refine AW.skip ?_
    refine thenQ_normal ?_
    refine AW.sC (Tt ∧ Tt) [] [1, 6] [] ⟨tr, tr⟩ ?_
    refine AW.seq ?_
    refine AW.sA ⟨[(6, (.v (.one .nils))), (13, (vc (sl 5 cs_SkinPoint a1))), (14, (vI (a1.length : Int))), (15, (vI (0 : Int)))], []⟩ (Tt ∧ T2 Tt) [] [6, 13, 14, 15] [] ⟨tr, tr, tr, tr⟩ ?_
    refine AW.block ?_
    refine AW.weak (s' := ⟨[(6, (.v (.one (.arr 4)))), (13, (vc (sl 5 cs_SkinPoint a1))), (14, (vI (a1.length : Int))), (15, (vI (0 : Int)))], [(4, (oA 1 (csI .i64) ([] : (List Int))))]⟩) (Sub.trans (Sub.unnilA true 4 1 (gl (csI .i64) ([] : (List Int))) [6] [] _ (by kernel_rfl) (by kernel_rfl)) (Sub.keep [6, 13, 14, 15] [4] (by kernel_rfl) (by kernel_rfl))) ?_
    refine AW.loopQ (σ := Nat × Int × (List Int)) (fun p => ⟨[(6, (.v (.one (.arr 4)))), (13, (vc (sl 5 cs_SkinPoint a1))), (14, (vI (a1.length : Int))), (15, (vI p.2.1))], [(4, (oA 1 (csI .i64) p.2.2))]⟩) (fun p => impl_UsedBones_l1 K a1 p.1 p.2.1 p.2.2 = some o) (fun p => p.1) (K, (0 : Int), ([] : (List Int))) h ?_
    clear h
    rintro ⟨k, x6, x7⟩ h
    replace h : impl_UsedBones_l1 K a1 k x6 x7 = some o := h
    show AW _ _ (⟨[(6, (.v (.one (.arr 4)))), (13, (vc (sl 5 cs_SkinPoint a1))), (14, (vI (a1.length : Int))), (15, (vI x6))], [(4, (oA 1 (csI .i64) x7))]⟩ : St) _
    obtain _ | k := k
    · rw [impl_UsedBones_l1] at h; cases h
    rw [impl_UsedBones_l1] at h
    refine AW.sA ⟨[(6, (.v (.one (.arr 4)))), (13, (vc (sl 5 cs_SkinPoint a1))), (14, (vI (a1.length : Int))), (15, (vI x6)), (16, (vB (decide (x6 < (a1.length : Int)))))], [(4, (oA 1 (csI .i64) x7))]⟩ (Tt ∧ Tt) [] [6, 13, 14, 15, 16] [4] ⟨tr, tr⟩ ?_
    refine AW.seq ?_
    rcases ite2_cases h with ⟨b8, h⟩ | ⟨b8, h⟩
    · refine AW.cond_t rfl b8 ?_
      refine AW.skip ?_
      refine thenQ_normal ?_
      refine AW.seq ?_
      refine AW.block ?_
      refine AW.seq ?_
      obtain ⟨c9, h⟩ := chk_some h
      refine AW.tC ((0 ≤ x6 ∧ x6 < (a1.length : Int)) ∧ Tt ∧ T2 Tt) [.no, .no, .box 9] [6, 8, 13, 14, 15] [4, 9] ⟨c9, tr, tr, tr, tr⟩ ?_
      obtain ⟨c10, h⟩ := chk_some h
      refine AW.rA ⟨[(6, (.v (.one (.arr 10)))), (13, (vc (sl 5 cs_SkinPoint a1))), (14, (vI (a1.length : Int))), (15, (vI x6))], [(10, (oA 1 (csI .i64) (x7 ++ ((a1.getD x6.toNat default).Bones))))]⟩ (Tt ∧ T2 (((x7 ++ ((a1.getD x6.toNat default).Bones)).length = x7.length + ((a1.getD x6.toNat default).Bones).length ∧ AppOb (x7.length) (((a1.getD x6.toNat default).Bones).length) 1 (gl (csI .i64) x7) (gl (csI .i64) ((a1.getD x6.toNat default).Bones)) (gl (csI .i64) (x7 ++ ((a1.getD x6.toNat default).Bones))) ∧ (∀ i j, i < ((a1.getD x6.toNat default).Bones).length → j < 1 → scalarC (gl (csI .i64) ((a1.getD x6.toNat default).Bones) i j)) ∧ (x7.length + ((a1.getD x6.toNat default).Bones).length) * 8 ≤ 140737488355328) ∧ Tt ∧ Tt)) [.no, .no, .no, .objD 10 (x7 ++ ((a1.getD x6.toNat default).Bones)).length (gl (csI .i64) (x7 ++ ((a1.getD x6.toNat default).Bones)))] [6, 13, 14, 15] [10] ⟨tr, tr, tr, ⟨List.length_append, gl_append, gl_scalar scI _, c10⟩, tr, tr⟩ ?_
      refine blockQ_normal ?_
      refine thenQ_normal ?_
      refine AW.rA ⟨[(6, (.v (.one (.arr 10)))), (13, (vc (sl 5 cs_SkinPoint a1))), (14, (vI (a1.length : Int))), (15, (vI (IntKind.i64.wrap (x6 + (1 : Int)))))], [(10, (oA 1 (csI .i64) (x7 ++ ((a1.getD x6.toNat default).Bones))))]⟩ (T2 Tt) [] [6, 13, 14, 15] [10] ⟨tr, tr, tr⟩ ?_
      exact loopQ_normal (k, (IntKind.i64.wrap (x6 + (1 : Int))), (x7 ++ ((a1.getD x6.toNat default).Bones))) h (Nat.lt_succ_self k) (Sub.trans (Sub.swap 4 10 _ (by kernel_rfl) (by kernel_rfl)) (Sub.keep [6, 13, 14, 15] [4] (by kernel_rfl) (by kernel_rfl)))
    · refine AW.cond_f rfl b8 ?_
      refine AW.exit ?_
      refine thenQ_exit ?_
      refine loopQ_exit ?_
      refine blockQ_exit ?_
      refine thenQ_normal ?_
      refine AW.seq ?_
      obtain ⟨v11, e12, h⟩ := bind_some h
      obtain ⟨c13, h⟩ := chk_some h
      refine AW.tC (Tt ∧ (((((sl 1 (csI .i64) x7) : C) = (sl 1 (csI .i64) x7) ∧ v11.length = x7.length ∧ 1 = 1 ∧ ∀ i j, i < x7.length → j < 1 → isSeq (gl (csI .i64) v11 i j) = isSeq (gl (csI .i64) x7 i j)) ∧ Tt) ∧ MutOK Try.prog 29 [(.one (.mu (sl 1 (csI .i64) x7) (sl 1 (csI .i64) v11)))] []) ∧ Tt) [.no, .callM [(.one (.mu (sl 1 (csI .i64) x7) (sl 1 (csI .i64) v11)))] [] [] none] [6] [4] ⟨tr, ⟨⟨⟨rfl, c13, rfl, gl_seq sqI⟩, tr⟩, ok_slices_Sort_int64_int64 K x7 v11 e12⟩, tr⟩ ?_
      refine AW.seq ?_
      obtain ⟨v14, e15, h⟩ := bind_some h
      refine AW.tA ⟨[(4, (vL 11 1 (csI .i64) v14)), (5, (vB true))], [(11, (oL 1 (csI .i64) v14))]⟩ (Tt ∧ (((Eqc (sl 1 (csI .i64) v11)) ∧ Tt) ∧ MutOK Try.prog 30 [(.one (.mv (sl 1 (csI .i64) v11)))] [.one (sl 1 (csI .i64) v14)]) ∧ T2 Tt) [.no, .callM [(.one (.mv (sl 1 (csI .i64) v11)))] [.one (sl 1 (csI .i64) v14)] [[.lst 11]] none] [4, 5] [11] ⟨tr, ⟨⟨rfl, tr⟩, ok_slices_Compact_int64_int64 K v11 v14 e15⟩, tr, tr, tr⟩ ?_
      refine AW.ret ?_
      replace h := some_eq h
      subst h
      exact ⟨.inr rfl, retOK_of [(.one (xL 11 1 (csI .i64) v14)), (.one (.c (.bool true)))] (by kernel_rfl) ⟨rfl, ⟨rfl, tr⟩, tr⟩ (of_decide_eq_true (by kernel_rfl))⟩

/-! laws.b10VEqual -/
def laws_b10VEqual (_K : Nat) (a0 : Vector) (a1 : Vector) : Option (Bool) :=
  (ite2 ((a0.X.eq a1.X)) (ite2 ((a0.Y.eq a1.Y)) (some (a0.Z.eq a1.Z)) (some false)) (some false)).bind fun j3 => some j3

theorem ok_laws_b10VEqual (K : Nat) (a0 : Vector) (a1 : Vector) (o : (Bool)) (h : laws_b10VEqual K a0 a1 = some o) : CallOK Try.prog 14 [.agg (cs_Vector a0), .agg (cs_Vector a1)] [.one (.bool o)] := by
  refine callOK_of_AW Try.func14 rfl (by kernel_rfl) (Nat.le_of_ble_eq_true (by kernel_rfl)) ?_
  intro w0
  unfold laws_b10VEqual at h
  refine AW.sA ⟨[(2, (vp 1 0)), (3, (vp 2 0))], [(1, (.box [(cF a0.X), (cF a0.Y), (cF a0.Z)])), (2, (.box [(cF a1.X), (cF a1.Y), (cF a1.Z)]))]⟩ (Tt ∧ T2 Tt) [.box 1, .box 2] [2, 3] [1, 2] ⟨tr, tr, tr, tr⟩ ?_
  refine AW.seq ?_
  obtain ⟨j3, e4, h⟩ := bind_some h
  refine AW.join1 (s2 := ⟨[(4, (vB j3))], []⟩) ?_ ?_
  · rcases ite2_cases e4 with ⟨b1, e4⟩ | ⟨b1, e4⟩
    · rcases ite2_cases e4 with ⟨b2, e4⟩ | ⟨b2, e4⟩
      · replace e4 := some_eq e4
        subst e4
        exact AW.rA ⟨[(4, (vB (a0.Z.eq a1.Z)))], []⟩ (Tt ∧ T4 ((Tt ∧ (a0.X.eq a1.X) = true) ∧ T2 (T4 ((Tt ∧ (a0.Y.eq a1.Y) = true) ∧ Tt ∧ T2 (T4 Tt))))) [.no, .no, .no, .no, .no, .dec true, .no, .no, .no, .no, .no, .no, .dec true] [4] [] ⟨tr, tr, tr, tr, tr, ⟨tr, b1⟩, tr, tr, tr, tr, tr, tr, ⟨tr, b2⟩, tr, tr, tr, tr, tr, tr, tr, tr⟩ ⟨rfl, rfl⟩
      · replace e4 := some_eq e4
        subst e4
        exact AW.rA ⟨[(4, (vB false))], []⟩ (Tt ∧ T4 ((Tt ∧ (a0.X.eq a1.X) = true) ∧ T2 (T4 ((Tt ∧ (a0.Y.eq a1.Y) = false) ∧ Tt ∧ T2 (T4 Tt))))) [.no, .no, .no, .no, .no, .dec true, .no, .no, .no, .no, .no, .no, .dec false] [4] [] ⟨tr, tr, tr, tr, tr, ⟨tr, b1⟩, tr, tr, tr, tr, tr, tr, ⟨tr, b2⟩, tr, tr, tr, tr, tr, tr, tr, tr⟩ ⟨rfl, rfl⟩
    · replace e4 := some_eq e4
      subst e4
      exact AW.rA ⟨[(4, (vB false))], []⟩ (Tt ∧ T4 ((Tt ∧ (a0.X.eq a1.X) = false) ∧ T2 (T4 (T4 (T4 Tt))))) [.no, .no, .no, .no, .no, .dec false] [4] [] ⟨tr, tr, tr, tr, tr, ⟨tr, b1⟩, tr, tr, tr, tr, tr, tr, tr, tr, tr, tr, tr, tr, tr, tr, tr⟩ ⟨rfl, rfl⟩
  refine thenQ_normal ?_
  refine AW.ret ?_
  replace h := some_eq h
  subst h
  exact ⟨.inr rfl, retOK_of [(.one (.c (.bool j3)))] (by kernel_rfl) ⟨⟨rfl, tr⟩, tr⟩ (of_decide_eq_true (by kernel_rfl))⟩

/-! spec.l01Less -/
def spec_l01Less (_K : Nat) (a0 : Vector) (a1 : Vector) : Option (Vector) :=
  some (Vector.mk (a0.X.sub a1.X) (a0.Y.sub a1.Y) (a0.Z.sub a1.Z))

theorem ok_spec_l01Less (K : Nat) (a0 : Vector) (a1 : Vector) (o : (Vector)) (h : spec_l01Less K a0 a1 = some o) : CallOK Try.prog 33 [.agg (cs_Vector a0), .agg (cs_Vector a1)] [.agg (cs_Vector o)] := by
  refine callOK_of_AW Try.func33 rfl (by kernel_rfl) (Nat.le_of_ble_eq_true (by kernel_rfl)) ?_
  intro w0
  unfold spec_l01Less at h
  refine AW.sC (Tt ∧ T2 Tt) [.box 1, .box 2, .box 3] [2, 3, 4] [1, 2, 3] ⟨tr, tr, tr, tr⟩ ?_
  refine AW.sA ⟨[(4, (vp 3 0))], [(3, (.box [(cF (a0.X.sub a1.X)), (cF (a0.Y.sub a1.Y)), (cF (a0.Z.sub a1.Z))]))]⟩ (Tt ∧ T4 (T4 (T4 (T4 Tt)))) [] [4] [3] ⟨tr, tr, tr, tr, tr, tr, tr, tr, tr, tr, tr, tr, tr, tr, tr, tr, tr, tr⟩ ?_
  refine AW.ret ?_
  replace h := some_eq h
  subst h
  exact ⟨.inr rfl, retOK_of [(.agg [(cF (a0.X.sub a1.X)), (cF (a0.Y.sub a1.Y)), (cF (a0.Z.sub a1.Z))])] (by kernel_rfl) ⟨⟨⟨rfl, tr⟩, ⟨rfl, tr⟩, ⟨rfl, tr⟩, tr⟩, tr⟩ (of_decide_eq_true (by kernel_rfl))⟩

/-! spec.LessVectors -/
def spec_LessVectors (K : Nat) (a0 : Vector) (a1 : Vector) : Option (Vector) :=
  (spec_l01Less K a0 a1).bind fun v1 => some v1

theorem ok_spec_LessVectors (K : Nat) (a0 : Vector) (a1 : Vector) (o : (Vector)) (h : spec_LessVectors K a0 a1 = some o) : CallOK Try.prog 16 [.agg (cs_Vector a0), .agg (cs_Vector a1)] [.agg (cs_Vector o)] := by
  refine callOK_of_AW Try.func16 rfl (by kernel_rfl) (Nat.le_of_ble_eq_true (by kernel_rfl)) ?_
  intro w0
  unfold spec_LessVectors at h
  refine AW.sC (Tt ∧ T2 Tt) [.box 1, .box 2, .box 3] [2, 3, 4] [1, 2, 3] ⟨tr, tr, tr, tr⟩ ?_
  refine AW.seq ?_
  obtain ⟨v1, e2, h⟩ := bind_some h
  refine AW.tA ⟨[(4, (vp 3 0))], [(3, (.box [(cF v1.X), (cF v1.Y), (cF v1.Z)]))]⟩ (T2 (((((eF a0.X) ∧ (eF a0.Y) ∧ (eF a0.Z) ∧ Tt) ∧ ((eF a1.X) ∧ (eF a1.Y) ∧ (eF a1.Z) ∧ Tt) ∧ Tt) ∧ CallOK Try.prog 33 [.agg (cs_Vector a0), .agg (cs_Vector a1)] [.agg (cs_Vector v1)]) ∧ Tt ∧ Tt)) [.no, .no, .call [.agg (cs_Vector a0), .agg (cs_Vector a1)] [.agg (cs_Vector v1)] [[.view, .view, .view]]] [4] [3] ⟨tr, tr, ⟨⟨⟨rfl, rfl, rfl, tr⟩, ⟨rfl, rfl, rfl, tr⟩, tr⟩, ok_spec_l01Less K a0 a1 v1 e2⟩, tr, tr⟩ ?_
  refine AW.ret ?_
  replace h := some_eq h
  subst h
  exact ⟨.inr rfl, retOK_of [(.agg [(cF v1.X), (cF v1.Y), (cF v1.Z)])] (by kernel_rfl) ⟨⟨⟨rfl, tr⟩, ⟨rfl, tr⟩, ⟨rfl, tr⟩, tr⟩, tr⟩ (of_decide_eq_true (by kernel_rfl))⟩

/-! laws.b10Square -/
def laws_b10Square (_K : Nat) (a0 : Vector) : Option (F32) :=
  some (((a0.X.mul a0.X).add (a0.Y.mul a0.Y)).add (a0.Z.mul a0.Z))

theorem ok_laws_b10Square (K : Nat) (a0 : Vector) (o : (F32)) (h : laws_b10Square K a0 = some o) : CallOK Try.prog 15 [.agg (cs_Vector a0)] [.one (.flt .f32 o.bits)] := by
  refine callOK_of_AW Try.func15 rfl (by kernel_rfl) (Nat.le_of_ble_eq_true (by kernel_rfl)) ?_
  intro w0
  unfold laws_b10Square at h
  refine AW.sC (T2 Tt) [.box 1] [1] [1] ⟨tr, tr, tr⟩ ?_
  refine AW.sA ⟨[(2, (vc (.flt .f32 (((a0.X.mul a0.X).add (a0.Y.mul a0.Y)).add (a0.Z.mul a0.Z)).bits)))], []⟩ (T2 (T4 (T4 (T4 (T4 Tt))))) [] [2] [] ⟨tr, tr, tr, tr, tr, tr, tr, tr, tr, tr, tr, tr, tr, tr, tr, tr, tr, tr, tr⟩ ?_
  refine AW.ret ?_
  replace h := some_eq h
  subst h
  exact ⟨.inr rfl, retOK_of [(.one (cF (((a0.X.mul a0.X).add (a0.Y.mul a0.Y)).add (a0.Z.mul a0.Z))))] (by kernel_rfl) ⟨⟨rfl, tr⟩, tr⟩ (of_decide_eq_true (by kernel_rfl))⟩

/-! laws.FnSkins -/
def laws_FnSkins_l5 (K : Nat) (x13 : (List SkinPoint)) (v34 : ((List Int) × Bool)) (x54 : Int) : Nat → Bool → Int → Option (Bool)
  | 0, _, _ => none
  | k + 1, x89, x90 => ite2 ((decide (x90 < (v34.1.length : Int)))) ((ite2 (x89) (some true) (chk (0 ≤ x90 ∧ x90 < (v34.1.length : Int)) (some ((v34.1.getD x90.toNat default) == (((x13.getD x54.toNat default).Bones).getD ((0 : Int).toNat) default))))).bind fun j94 => laws_FnSkins_l5 K x13 v34 x54 k j94 (IntKind.i64.wrap (x90 + (1 : Int)))) (some x89)

def laws_FnSkins_l4 (K : Nat) (x13 : (List SkinPoint)) (v24 : ((List Vector) × Bool)) (v26 : ((List Vector) × Bool)) (v28 : ((List Turn) × (List Vector) × Bool)) (v30 : ((List Turn) × (List Vector) × Bool)) (v34 : ((List Int) × Bool)) : Nat → Int → Option (Bool)
  | 0, _ => none
  | k + 1, x54 => ite2 ((decide (x54 < (x13.length : Int)))) (chk (0 ≤ x54 ∧ x54 < (x13.length : Int)) (chk (0 ≤ (0 : Int) ∧ (0 : Int) < (((x13.getD x54.toNat default).Bones).length : Int)) (chk (0 ≤ x54 ∧ x54 < (v24.1.length : Int)) (chk (0 ≤ x54 ∧ x54 < (v26.1.length : Int)) ((laws_b10VEqual K (v24.1.getD x54.toNat default) (v26.1.getD x54.toNat default)).bind fun v60 => (ite2 ((!v60)) (some true) (chk (0 ≤ (((x13.getD x54.toNat default).Bones).getD ((0 : Int).toNat) default) ∧ (((x13.getD x54.toNat default).Bones).getD ((0 : Int).toNat) default) < (v30.2.1.length : Int)) ((spec_LessVectors K (v24.1.getD x54.toNat default) (v30.2.1.getD ((((x13.getD x54.toNat default).Bones).getD ((0 : Int).toNat) default).toNat) default)).bind fun v64 => (laws_b10Square K v64).bind fun v66 => chk (0 ≤ (((x13.getD x54.toNat default).Bones).getD ((0 : Int).toNat) default) ∧ (((x13.getD x54.toNat default).Bones).getD ((0 : Int).toNat) default) < (v28.2.1.length : Int)) ((spec_LessVectors K ((x13.getD x54.toNat default).Place) (v28.2.1.getD ((((x13.getD x54.toNat default).Bones).getD ((0 : Int).toNat) default).toNat) default)).bind fun v69 => (laws_b10Square K v69).bind fun v71 => some (v66.ne v71))))).bind fun j73 => ite2 (j73) (some false) ((laws_FnSkins_l5 K x13 v34 x54 K false (0 : Int)).bind fun j86 => ite2 ((!j86)) (some false) (laws_FnSkins_l4 K x13 v24 v26 v28 v30 v34 k (IntKind.i64.wrap (x54 + (1 : Int)))))))))) (some true)

def laws_FnSkins_l1 (K : Nat) (a0 : (List Int)) (a1 : (List Int)) (v4 : (Skeleton)) (v6 : (Pose)) (v8 : (Pose)) : Nat → Int → (List SkinPoint) → Option (Bool)
  | 0, _, _ => none
  | k + 1, x12, x13 => ite2 ((decide (x12 < (4 : Int)))) ((laws_b10At K a1 (IntKind.i64.wrap ((3 : Int) * x12)) (17 : Int)).bind fun v15 => (laws_b10At K a1 (IntKind.i64.wrap ((IntKind.i64.wrap ((3 : Int) * x12)) + (1 : Int))) (17 : Int)).bind fun v17 => (laws_b10At K a1 (IntKind.i64.wrap ((IntKind.i64.wrap ((3 : Int) * x12)) + (2 : Int))) (17 : Int)).bind fun v19 => (laws_b10At K a0 x12 (v4.Bones.length : Int)).bind fun v21 => chk ((x13.length + ([(SkinPoint.mk (Vector.mk (Fl.ofInt .f32 (IntKind.i64.wrap (v15 - (8 : Int)))) (Fl.ofInt .f32 (IntKind.i64.wrap (v17 - (8 : Int)))) (Fl.ofInt .f32 (IntKind.i64.wrap (v19 - (8 : Int))))) ([v21]) ([(Fl.mk (k := .f32) 1065353216 (by decide))]))]).length) * 64 ≤ 140737488355328) (laws_FnSkins_l1 K a0 a1 v4 v6 v8 k (IntKind.i64.wrap (x12 + (1 : Int))) (x13 ++ ([(SkinPoint.mk (Vector.mk (Fl.ofInt .f32 (IntKind.i64.wrap (v15 - (8 : Int)))) (Fl.ofInt .f32 (IntKind.i64.wrap (v17 - (8 : Int)))) (Fl.ofInt .f32 (IntKind.i64.wrap (v19 - (8 : Int))))) ([v21]) ([(Fl.mk (k := .f32) 1065353216 (by decide))]))])))) ((impl_SkinLinear K v4 v6 v8 x13).bind fun v24 => (impl_SkinMixed K v4 v6 v8 x13).bind fun v26 => (impl_WorldOf K v4 v6).bind fun v28 => (impl_WorldOf K v4 v8).bind fun v30 => (impl_MovesOf K v4 v6 v8).bind fun v32 => (impl_UsedBones K v4 x13).bind fun v34 => (ite2 ((!v24.2)) (some true) (ite2 ((!v26.2)) (some true) (ite2 ((!v28.2.2)) (some true) (ite2 ((!v30.2.2)) (some true) (ite2 ((!v32.2.2)) (some true) (ite2 ((!v34.2)) (some true) ((impl_IsSkin K v4 x13).bind fun v42 => ite2 ((!v42)) (some true) (ite2 (((v24.1.length : Int) != (4 : Int))) (some true) (ite2 (((v26.1.length : Int) != (4 : Int))) (some true) (ite2 (((v32.1.length : Int) != (v4.Bones.length : Int))) (some true) (ite2 (((v32.2.1.length : Int) != (v4.Bones.length : Int))) (some true) (ite2 (((v28.2.1.length : Int) != (v4.Bones.length : Int))) (some true) (some ((v30.2.1.length : Int) != (v4.Bones.length : Int))))))))))))))).bind fun j50 => ite2 (j50) (some false) (laws_FnSkins_l4 K x13 v24 v26 v28 v30 v34 K (0 : Int)))

def laws_FnSkins (K : Nat) (a0 : (List Int)) (a1 : (List Int)) : Option (Bool) :=
  (laws_b10Long K a0 a1).bind fun v1 => ite2 (v1) (some true) ((spec_B10Skeleton K a0).bind fun v4 => (spec_B10Exact K a0 (v4.Bones.length : Int)).bind fun v6 => (spec_B10Exact K a1 (v4.Bones.length : Int)).bind fun v8 => laws_FnSkins_l1 K a0 a1 v4 v6 v8 K (0 : Int) ([] : List SkinPoint))

theorem ok_laws_FnSkins (K : Nat) (a0 : (List Int)) (a1 : (List Int)) (o : (Bool)) (h : laws_FnSkins K a0 a1 = some o) : CallOK Try.prog 3 [.one (sl 1 (csI .u8) a0), .one (sl 1 (csI .u8) a1)] [.one (.bool o)] := by
  refine callOK_of_AW Try.func3 rfl (by kernel_rfl) (Nat.le_of_ble_eq_true (by kernel_rfl)) ?_
  intro w0
  unfold laws_FnSkins at h
  refine AW.sC (Tt ∧ Tt) [] [0, 1] [] ⟨tr, tr⟩ ?_
  refine AW.seq ?_
  refine AW.seq ?_
  obtain ⟨v1, e2, h⟩ := bind_some h
  refine AW.tA ⟨[(0, (vc (sl 1 (csI .u8) a0))), (1, (vc (sl 1 (csI .u8) a1))), (33, (vB v1))], []⟩ (T2 ((((Eqc (sl 1 (csI .u8) a0)) ∧ (Eqc (sl 1 (csI .u8) a1)) ∧ Tt) ∧ CallOK Try.prog 4 [.one (sl 1 (csI .u8) a0), .one (sl 1 (csI .u8) a1)] [.one (.bool v1)]) ∧ Tt)) [.no, .no, .call [.one (sl 1 (csI .u8) a0), .one (sl 1 (csI .u8) a1)] [.one (.bool v1)] [[.view]]] [0, 1, 33] [] ⟨tr, tr, ⟨⟨rfl, rfl, tr⟩, ok_laws_b10Long K a0 a1 v1 e2⟩, tr⟩ ?_
  rcases ite2_cases h with ⟨b3, h⟩ | ⟨b3, h⟩
  · refine AW.cond_t rfl b3 ?_
    refine AW.sA ⟨[(4, (vB true))], []⟩ (Tt ∧ Tt) [] [4] [] ⟨tr, tr⟩ ?_
    refine AW.ret ?_
    refine thenQ_ret ?_
    replace h := some_eq h
    subst h
    exact ⟨.inr rfl, retOK_of [(.one (.c (.bool true)))] (by kernel_rfl) ⟨⟨rfl, tr⟩, tr⟩ (of_decide_eq_true (by kernel_rfl))⟩
  · refine AW.cond_f rfl b3 ?_
    refine AW.skip ?_
    refine thenQ_normal ?_
    refine AW.seq ?_
    obtain ⟨v4, e5, h⟩ := bind_some h
    refine AW.tC (Tt ∧ (((Eqc (sl 1 (csI .u8) a0)) ∧ Tt) ∧ CallOK Try.prog 5 [.one (sl 1 (csI .u8) a0)] [.agg (cs_Skeleton v4)]) ∧ T2 Tt) [.no, .call [.one (sl 1 (csI .u8) a0)] [.agg (cs_Skeleton v4)] [[.lst 1]], .box 2] [0, 1, 5] [1, 2] ⟨tr, ⟨⟨rfl, tr⟩, ok_spec_B10Skeleton K a0 v4 e5⟩, tr, tr, tr⟩ ?_
    refine AW.sC (T4 Tt) [] [0, 1, 5, 6] [1, 2] ⟨tr, tr, tr, tr, tr⟩ ?_
    refine AW.seq ?_
    obtain ⟨v6, e7, h⟩ := bind_some h
    refine AW.tC (T2 ((((Eqc (sl 1 (csI .u8) a0)) ∧ (eI (v4.Bones.length : Int)) ∧ Tt) ∧ CallOK Try.prog 6 [.one (sl 1 (csI .u8) a0), .one (.int .i64 (v4.Bones.length : Int))] [.agg (cs_Pose v6)]) ∧ T2 Tt)) [.no, .no, .call [.one (sl 1 (csI .u8) a0), .one (.int .i64 (v4.Bones.length : Int))] [.agg (cs_Pose v6)] [[.view, .view, .view, .lst 3]], .box 4] [0, 1, 5, 6, 7] [1, 2, 3, 4] ⟨tr, tr, ⟨⟨rfl, rfl, tr⟩, ok_spec_B10Exact K a0 (v4.Bones.length : Int) v6 e7⟩, tr, tr, tr⟩ ?_
    refine AW.seq ?_
    obtain ⟨v8, e9, h⟩ := bind_some h
    refine AW.tC (T2 ((((Eqc (sl 1 (csI .u8) a1)) ∧ (eI (v4.Bones.length : Int)) ∧ Tt) ∧ CallOK Try.prog 6 [.one (sl 1 (csI .u8) a1), .one (.int .i64 (v4.Bones.length : Int))] [.agg (cs_Pose v8)]) ∧ T2 Tt)) [.no, .no, .call [.one (sl 1 (csI .u8) a1), .one (.int .i64 (v4.Bones.length : Int))] [.agg (cs_Pose v8)] [[.view, .view, .view, .lst 5]], .box 6] [0, 1, 5, 6, 7, 8] [1, 2, 3, 4, 5, 6] ⟨tr, tr, ⟨⟨rfl, rfl, tr⟩, ok_spec_B10Exact K a1 (v4.Bones.length : Int) v8 e9⟩, tr, tr, tr⟩ ?_
    refine AW.sC ((([] : List SkinPoint).length = 0 ∧ Tt) ∧ Tt ∧ Tt) [.obj 7 ([] : List SkinPoint).length (gl cs_SkinPoint ([] : List SkinPoint))] [0, 1, 5, 6, 7, 8, 9] [1, 2, 3, 4, 5, 6, 7] ⟨⟨rfl, tr⟩, tr, tr⟩ ?_
    refine AW.seq ?_
    refine AW.sA ⟨[(0, (vc (sl 1 (csI .u8) a0))), (1, (vc (sl 1 (csI .u8) a1))), (5, (vp 2 0)), (6, (vI (v4.Bones.length : Int))), (7, (vp 4 0)), (8, (vp 6 0)), (9, (vL 7 5 cs_SkinPoint ([] : List SkinPoint))), (10, (vI (0 : Int)))], [(1, (oL 4 cs_Bone v4.Bones)), (2, (.box [(xL 1 4 cs_Bone v4.Bones)])), (3, (oL 4 cs_Turn v6.Turns)), (4, (.box [(cF v6.Root.X), (cF v6.Root.Y), (cF v6.Root.Z), (xL 3 4 cs_Turn v6.Turns)])), (5, (oL 4 cs_Turn v8.Turns)), (6, (.box [(cF v8.Root.X), (cF v8.Root.Y), (cF v8.Root.Z), (xL 5 4 cs_Turn v8.Turns)])), (7, (oL 5 cs_SkinPoint ([] : List SkinPoint)))]⟩ (Tt ∧ Tt) [] [0, 1, 5, 6, 7, 8, 9, 10] [1, 2, 3, 4, 5, 6, 7] ⟨tr, tr⟩ ?_
    refine AW.block ?_
    refine AW.loopQ (σ := Nat × Int × (List SkinPoint)) (fun p => ⟨[(0, (vc (sl 1 (csI .u8) a0))), (1, (vc (sl 1 (csI .u8) a1))), (5, (vp 2 0)), (6, (vI (v4.Bones.length : Int))), (7, (vp 4 0)), (8, (vp 6 0)), (9, (vL 7 5 cs_SkinPoint p.2.2)), (10, (vI p.2.1))], [(1, (oL 4 cs_Bone v4.Bones)), (2, (.box [(xL 1 4 cs_Bone v4.Bones)])), (3, (oL 4 cs_Turn v6.Turns)), (4, (.box [(cF v6.Root.X), (cF v6.Root.Y), (cF v6.Root.Z), (xL 3 4 cs_Turn v6.Turns)])), (5, (oL 4 cs_Turn v8.Turns)), (6, (.box [(cF v8.Root.X), (cF v8.Root.Y), (cF v8.Root.Z), (xL 5 4 cs_Turn v8.Turns)])), (7, (oL 5 cs_SkinPoint p.2.2))]⟩) (fun p => laws_FnSkins_l1 K a0 a1 v4 v6 v8 p.1 p.2.1 p.2.2 = some o) (fun p => p.1) (K, (0 : Int), ([] : List SkinPoint)) h ?_
    clear h
    rintro ⟨k, x12, x13⟩ h
    replace h : laws_FnSkins_l1 K a0 a1 v4 v6 v8 k x12 x13 = some o := h
    show AW _ _ (⟨[(0, (vc (sl 1 (csI .u8) a0))), (1, (vc (sl 1 (csI .u8) a1))), (5, (vp 2 0)), (6, (vI (v4.Bones.length : Int))), (7, (vp 4 0)), (8, (vp 6 0)), (9, (vL 7 5 cs_SkinPoint x13)), (10, (vI x12))], [(1, (oL 4 cs_Bone v4.Bones)), (2, (.box [(xL 1 4 cs_Bone v4.Bones)])), (3, (oL 4 cs_Turn v6.Turns)), (4, (.box [(cF v6.Root.X), (cF v6.Root.Y), (cF v6.Root.Z), (xL 3 4 cs_Turn v6.Turns)])), (5, (oL 4 cs_Turn v8.Turns)), (6, (.box [(cF v8.Root.X), (cF v8.Root.Y), (cF v8.Root.Z), (xL 5 4 cs_Turn v8.Turns)])), (7, (oL 5 cs_SkinPoint x13))]⟩ : St) _
    obtain _ | k := k
    · rw [laws_FnSkins_l1] at h; cases h
    rw [laws_FnSkins_l1] at h
    refine AW.seq ?_
    refine AW.sA ⟨[(0, (vc (sl 1 (csI .u8) a0))), (1, (vc (sl 1 (csI .u8) a1))), (5, (vp 2 0)), (6, (vI (v4.Bones.length : Int))), (7, (vp 4 0)), (8, (vp 6 0)), (9, (vL 7 5 cs_SkinPoint x13)), (10, (vI x12)), (47, (vB (decide (x12 < (4 : Int)))))], [(1, (oL 4 cs_Bone v4.Bones)), (2, (.box [(xL 1 4 cs_Bone v4.Bones)])), (3, (oL 4 cs_Turn v6.Turns)), (4, (.box [(cF v6.Root.X), (cF v6.Root.Y), (cF v6.Root.Z), (xL 3 4 cs_Turn v6.Turns)])), (5, (oL 4 cs_Turn v8.Turns)), (6, (.box [(cF v8.Root.X), (cF v8.Root.Y), (cF v8.Root.Z), (xL 5 4 cs_Turn v8.Turns)])), (7, (oL 5 cs_SkinPoint x13))]⟩ (T2 Tt) [] [0, 1, 5, 6, 7, 8, 9, 10, 47] [1, 2, 3, 4, 5, 6, 7] ⟨tr, tr, tr⟩ ?_
    rcases ite2_cases h with ⟨b14, h⟩ | ⟨b14, h⟩
    · refine AW.cond_t rfl b14 ?_
      refine AW.skip ?_
      refine thenQ_normal ?_
      refine AW.seq ?_
      refine AW.block ?_
      refine AW.seq ?_
      obtain ⟨v15, e16, h⟩ := bind_some h
      obtain ⟨v17, e18, h⟩ := bind_some h
      obtain ⟨v19, e20, h⟩ := bind_some h
      refine AW.tA ⟨[(0, (vc (sl 1 (csI .u8) a0))), (1, (vc (sl 1 (csI .u8) a1))), (5, (vp 2 0)), (6, (vI (v4.Bones.length : Int))), (7, (vp 4 0)), (8, (vp 6 0)), (9, (vL 7 5 cs_SkinPoint x13)), (10, (vI x12)), (11, (vp 18 0))], [(1, (oL 4 cs_Bone v4.Bones)), (2, (.box [(xL 1 4 cs_Bone v4.Bones)])), (3, (oL 4 cs_Turn v6.Turns)), (4, (.box [(cF v6.Root.X), (cF v6.Root.Y), (cF v6.Root.Z), (xL 3 4 cs_Turn v6.Turns)])), (5, (oL 4 cs_Turn v8.Turns)), (6, (.box [(cF v8.Root.X), (cF v8.Root.Y), (cF v8.Root.Z), (xL 5 4 cs_Turn v8.Turns)])), (7, (oL 5 cs_SkinPoint x13)), (18, (.box [(cF (Fl.ofInt .f32 (IntKind.i64.wrap (v15 - (8 : Int))))), (cF (Fl.ofInt .f32 (IntKind.i64.wrap (v17 - (8 : Int))))), (cF (Fl.ofInt .f32 (IntKind.i64.wrap (v19 - (8 : Int)))))]))]⟩ (Tt ∧ T2 ((((Eqc (sl 1 (csI .u8) a1)) ∧ (eI (IntKind.i64.wrap ((3 : Int) * x12))) ∧ (eI (17 : Int)) ∧ Tt) ∧ CallOK Try.prog 7 [.one (sl 1 (csI .u8) a1), .one (.int .i64 (IntKind.i64.wrap ((3 : Int) * x12))), .one (.int .i64 (17 : Int))] [.one (.int .i64 v15)]) ∧ T2 (T4 ((((Eqc (sl 1 (csI .u8) a1)) ∧ (((.int .i64 (IntKind.i64.wrap ((IntKind.i64.wrap ((3 : Int) * x12)) + (1 : Int)))) : C) = (.int .i64 (IntKind.i64.wrap ((IntKind.i64.wrap ((3 : Int) * x12)) + (1 : Int))))) ∧ (eI (17 : Int)) ∧ Tt) ∧ CallOK Try.prog 7 [.one (sl 1 (csI .u8) a1), .one (.int .i64 (IntKind.i64.wrap ((IntKind.i64.wrap ((3 : Int) * x12)) + (1 : Int)))), .one (.int .i64 (17 : Int))] [.one (.int .i64 v17)]) ∧ T2 (T4 ((((Eqc (sl 1 (csI .u8) a1)) ∧ (((.int .i64 (IntKind.i64.wrap ((IntKind.i64.wrap ((3 : Int) * x12)) + (2 : Int)))) : C) = (.int .i64 (IntKind.i64.wrap ((IntKind.i64.wrap ((3 : Int) * x12)) + (2 : Int))))) ∧ (eI (17 : Int)) ∧ Tt) ∧ CallOK Try.prog 7 [.one (sl 1 (csI .u8) a1), .one (.int .i64 (IntKind.i64.wrap ((IntKind.i64.wrap ((3 : Int) * x12)) + (2 : Int)))), .one (.int .i64 (17 : Int))] [.one (.int .i64 v19)]) ∧ Tt ∧ T4 Tt)))))) [.no, .no, .no, .call [.one (sl 1 (csI .u8) a1), .one (.int .i64 (IntKind.i64.wrap ((3 : Int) * x12))), .one (.int .i64 (17 : Int))] [.one (.int .i64 v15)] [[.view]], .no, .no, .no, .no, .no, .no, .call [.one (sl 1 (csI .u8) a1), .one (.int .i64 (IntKind.i64.wrap ((IntKind.i64.wrap ((3 : Int) * x12)) + (1 : Int)))), .one (.int .i64 (17 : Int))] [.one (.int .i64 v17)] [[.view]], .no, .no, .no, .no, .no, .no, .call [.one (sl 1 (csI .u8) a1), .one (.int .i64 (IntKind.i64.wrap ((IntKind.i64.wrap ((3 : Int) * x12)) + (2 : Int)))), .one (.int .i64 (17 : Int))] [.one (.int .i64 v19)] [[.view]], .no, .no, .no, .box 18] [0, 1, 5, 6, 7, 8, 9, 10, 11] [1, 2, 3, 4, 5, 6, 7, 18] ⟨tr, tr, tr, ⟨⟨rfl, rfl, rfl, tr⟩, ok_laws_b10At K a1 (IntKind.i64.wrap ((3 : Int) * x12)) (17 : Int) v15 e16⟩, tr, tr, tr, tr, tr, tr, ⟨⟨rfl, rfl, rfl, tr⟩, ok_laws_b10At K a1 (IntKind.i64.wrap ((IntKind.i64.wrap ((3 : Int) * x12)) + (1 : Int))) (17 : Int) v17 e18⟩, tr, tr, tr, tr, tr, tr, ⟨⟨rfl, rfl, rfl, tr⟩, ok_laws_b10At K a1 (IntKind.i64.wrap ((IntKind.i64.wrap ((3 : Int) * x12)) + (2 : Int))) (17 : Int) v19 e20⟩, tr, tr, tr, tr, tr, tr⟩ ?_
      obtain ⟨v21, e22, h⟩ := bind_some h
      obtain ⟨c23, h⟩ := chk_some h
      refine AW.dA ⟨[(0, (vc (sl 1 (csI .u8) a0))), (1, (vc (sl 1 (csI .u8) a1))), (5, (vp 2 0)), (6, (vI (v4.Bones.length : Int))), (7, (vp 4 0)), (8, (vp 6 0)), (9, (vL 22 5 cs_SkinPoint (x13 ++ ([(SkinPoint.mk (Vector.mk (Fl.ofInt .f32 (IntKind.i64.wrap (v15 - (8 : Int)))) (Fl.ofInt .f32 (IntKind.i64.wrap (v17 - (8 : Int)))) (Fl.ofInt .f32 (IntKind.i64.wrap (v19 - (8 : Int))))) ([v21]) ([(Fl.mk (k := .f32) 1065353216 (by decide))]))])))), (10, (vI x12))], [(1, (oL 4 cs_Bone v4.Bones)), (2, (.box [(xL 1 4 cs_Bone v4.Bones)])), (3, (oL 4 cs_Turn v6.Turns)), (4, (.box [(cF v6.Root.X), (cF v6.Root.Y), (cF v6.Root.Z), (xL 3 4 cs_Turn v6.Turns)])), (5, (oL 4 cs_Turn v8.Turns)), (6, (.box [(cF v8.Root.X), (cF v8.Root.Y), (cF v8.Root.Z), (xL 5 4 cs_Turn v8.Turns)])), (22, (oL 5 cs_SkinPoint (x13 ++ ([(SkinPoint.mk (Vector.mk (Fl.ofInt .f32 (IntKind.i64.wrap (v15 - (8 : Int)))) (Fl.ofInt .f32 (IntKind.i64.wrap (v17 - (8 : Int)))) (Fl.ofInt .f32 (IntKind.i64.wrap (v19 - (8 : Int))))) ([v21]) ([(Fl.mk (k := .f32) 1065353216 (by decide))]))]))))]⟩ ((Tt ∧ T4 ((((Eqc (sl 1 (csI .u8) a0)) ∧ (eI x12) ∧ (eI (v4.Bones.length : Int)) ∧ Tt) ∧ CallOK Try.prog 7 [.one (sl 1 (csI .u8) a0), .one (.int .i64 x12), .one (.int .i64 (v4.Bones.length : Int))] [.one (.int .i64 v21)]) ∧ (([v21]).length = 1 ∧ (((.int .i64 v21) : C) = (.int .i64 v21) ∧ Tt) ∧ Tt) ∧ (([(Fl.mk (k := .f32) 1065353216 (by decide))]).length = 1 ∧ (((.flt .f32 (Fl.mk (k := .f32) 1065353216 (by decide)).bits) : C) = (.flt .f32 (Fl.mk (k := .f32) 1065353216 (by decide)).bits) ∧ Tt) ∧ Tt) ∧ Tt ∧ (([(SkinPoint.mk (Vector.mk (Fl.ofInt .f32 (IntKind.i64.wrap (v15 - (8 : Int)))) (Fl.ofInt .f32 (IntKind.i64.wrap (v17 - (8 : Int)))) (Fl.ofInt .f32 (IntKind.i64.wrap (v19 - (8 : Int))))) ([v21]) ([(Fl.mk (k := .f32) 1065353216 (by decide))]))]).length = 1 ∧ (((.flt .f32 (Fl.ofInt .f32 (IntKind.i64.wrap (v15 - (8 : Int)))).bits) : C) = (.flt .f32 (Fl.ofInt .f32 (IntKind.i64.wrap (v15 - (8 : Int)))).bits) ∧ Tt) ∧ (((.flt .f32 (Fl.ofInt .f32 (IntKind.i64.wrap (v17 - (8 : Int)))).bits) : C) = (.flt .f32 (Fl.ofInt .f32 (IntKind.i64.wrap (v17 - (8 : Int)))).bits) ∧ Tt) ∧ (((.flt .f32 (Fl.ofInt .f32 (IntKind.i64.wrap (v19 - (8 : Int)))).bits) : C) = (.flt .f32 (Fl.ofInt .f32 (IntKind.i64.wrap (v19 - (8 : Int)))).bits) ∧ Tt) ∧ (Eqc (sl 1 (csI .i64) ([v21]))) ∧ (Eqc (sl 1 (csF .f32) ([(Fl.mk (k := .f32) 1065353216 (by decide))]))) ∧ Tt) ∧ ((x13 ++ ([(SkinPoint.mk (Vector.mk (Fl.ofInt .f32 (IntKind.i64.wrap (v15 - (8 : Int)))) (Fl.ofInt .f32 (IntKind.i64.wrap (v17 - (8 : Int)))) (Fl.ofInt .f32 (IntKind.i64.wrap (v19 - (8 : Int))))) ([v21]) ([(Fl.mk (k := .f32) 1065353216 (by decide))]))])).length = x13.length + ([(SkinPoint.mk (Vector.mk (Fl.ofInt .f32 (IntKind.i64.wrap (v15 - (8 : Int)))) (Fl.ofInt .f32 (IntKind.i64.wrap (v17 - (8 : Int)))) (Fl.ofInt .f32 (IntKind.i64.wrap (v19 - (8 : Int))))) ([v21]) ([(Fl.mk (k := .f32) 1065353216 (by decide))]))]).length ∧ AppOb (x13.length) (([(SkinPoint.mk (Vector.mk (Fl.ofInt .f32 (IntKind.i64.wrap (v15 - (8 : Int)))) (Fl.ofInt .f32 (IntKind.i64.wrap (v17 - (8 : Int)))) (Fl.ofInt .f32 (IntKind.i64.wrap (v19 - (8 : Int))))) ([v21]) ([(Fl.mk (k := .f32) 1065353216 (by decide))]))]).length) 5 (gl cs_SkinPoint x13) (gl cs_SkinPoint ([(SkinPoint.mk (Vector.mk (Fl.ofInt .f32 (IntKind.i64.wrap (v15 - (8 : Int)))) (Fl.ofInt .f32 (IntKind.i64.wrap (v17 - (8 : Int)))) (Fl.ofInt .f32 (IntKind.i64.wrap (v19 - (8 : Int))))) ([v21]) ([(Fl.mk (k := .f32) 1065353216 (by decide))]))])) (gl cs_SkinPoint (x13 ++ ([(SkinPoint.mk (Vector.mk (Fl.ofInt .f32 (IntKind.i64.wrap (v15 - (8 : Int)))) (Fl.ofInt .f32 (IntKind.i64.wrap (v17 - (8 : Int)))) (Fl.ofInt .f32 (IntKind.i64.wrap (v19 - (8 : Int))))) ([v21]) ([(Fl.mk (k := .f32) 1065353216 (by decide))]))]))) ∧ Tt ∧ (x13.length + ([(SkinPoint.mk (Vector.mk (Fl.ofInt .f32 (IntKind.i64.wrap (v15 - (8 : Int)))) (Fl.ofInt .f32 (IntKind.i64.wrap (v17 - (8 : Int)))) (Fl.ofInt .f32 (IntKind.i64.wrap (v19 - (8 : Int))))) ([v21]) ([(Fl.mk (k := .f32) 1065353216 (by decide))]))]).length) * 64 ≤ 140737488355328) ∧ Tt)) ∧ (Tt ∧ Tt)) 11 [.no, .no, .no, .no, .no, .call [.one (sl 1 (csI .u8) a0), .one (.int .i64 x12), .one (.int .i64 (v4.Bones.length : Int))] [.one (.int .i64 v21)] [[.view]], .obj 19 ([v21]).length (gl (csI .i64) ([v21])), .obj 20 ([(Fl.mk (k := .f32) 1065353216 (by decide))]).length (gl (csF .f32) ([(Fl.mk (k := .f32) 1065353216 (by decide))])), .no, .obj 21 ([(SkinPoint.mk (Vector.mk (Fl.ofInt .f32 (IntKind.i64.wrap (v15 - (8 : Int)))) (Fl.ofInt .f32 (IntKind.i64.wrap (v17 - (8 : Int)))) (Fl.ofInt .f32 (IntKind.i64.wrap (v19 - (8 : Int))))) ([v21]) ([(Fl.mk (k := .f32) 1065353216 (by decide))]))]).length (gl cs_SkinPoint ([(SkinPoint.mk (Vector.mk (Fl.ofInt .f32 (IntKind.i64.wrap (v15 - (8 : Int)))) (Fl.ofInt .f32 (IntKind.i64.wrap (v17 - (8 : Int)))) (Fl.ofInt .f32 (IntKind.i64.wrap (v19 - (8 : Int))))) ([v21]) ([(Fl.mk (k := .f32) 1065353216 (by decide))]))])), .obj 22 (x13 ++ ([(SkinPoint.mk (Vector.mk (Fl.ofInt .f32 (IntKind.i64.wrap (v15 - (8 : Int)))) (Fl.ofInt .f32 (IntKind.i64.wrap (v17 - (8 : Int)))) (Fl.ofInt .f32 (IntKind.i64.wrap (v19 - (8 : Int))))) ([v21]) ([(Fl.mk (k := .f32) 1065353216 (by decide))]))])).length (gl cs_SkinPoint (x13 ++ ([(SkinPoint.mk (Vector.mk (Fl.ofInt .f32 (IntKind.i64.wrap (v15 - (8 : Int)))) (Fl.ofInt .f32 (IntKind.i64.wrap (v17 - (8 : Int)))) (Fl.ofInt .f32 (IntKind.i64.wrap (v19 - (8 : Int))))) ([v21]) ([(Fl.mk (k := .f32) 1065353216 (by decide))]))])))] [0, 1, 5, 6, 7, 8, 9, 10] [1, 2, 3, 4, 5, 6, 22] ⟨⟨tr, tr, tr, tr, tr, ⟨⟨rfl, rfl, rfl, tr⟩, ok_laws_b10At K a0 x12 (v4.Bones.length : Int) v21 e22⟩, ⟨rfl, ⟨⟨rfl, tr⟩, tr⟩⟩, ⟨rfl, ⟨⟨rfl, tr⟩, tr⟩⟩, tr, ⟨rfl, ⟨⟨rfl, tr⟩, ⟨rfl, tr⟩, ⟨rfl, tr⟩, rfl, rfl, tr⟩⟩, ⟨List.length_append, gl_append, tr, c23⟩, tr⟩, ⟨tr, tr⟩⟩ ?_
      refine blockQ_normal ?_
      refine thenQ_normal ?_
      refine AW.rA ⟨[(0, (vc (sl 1 (csI .u8) a0))), (1, (vc (sl 1 (csI .u8) a1))), (5, (vp 2 0)), (6, (vI (v4.Bones.length : Int))), (7, (vp 4 0)), (8, (vp 6 0)), (9, (vL 22 5 cs_SkinPoint (x13 ++ ([(SkinPoint.mk (Vector.mk (Fl.ofInt .f32 (IntKind.i64.wrap (v15 - (8 : Int)))) (Fl.ofInt .f32 (IntKind.i64.wrap (v17 - (8 : Int)))) (Fl.ofInt .f32 (IntKind.i64.wrap (v19 - (8 : Int))))) ([v21]) ([(Fl.mk (k := .f32) 1065353216 (by decide))]))])))), (10, (vI (IntKind.i64.wrap (x12 + (1 : Int)))))], [(1, (oL 4 cs_Bone v4.Bones)), (2, (.box [(xL 1 4 cs_Bone v4.Bones)])), (3, (oL 4 cs_Turn v6.Turns)), (4, (.box [(cF v6.Root.X), (cF v6.Root.Y), (cF v6.Root.Z), (xL 3 4 cs_Turn v6.Turns)])), (5, (oL 4 cs_Turn v8.Turns)), (6, (.box [(cF v8.Root.X), (cF v8.Root.Y), (cF v8.Root.Z), (xL 5 4 cs_Turn v8.Turns)])), (22, (oL 5 cs_SkinPoint (x13 ++ ([(SkinPoint.mk (Vector.mk (Fl.ofInt .f32 (IntKind.i64.wrap (v15 - (8 : Int)))) (Fl.ofInt .f32 (IntKind.i64.wrap (v17 - (8 : Int)))) (Fl.ofInt .f32 (IntKind.i64.wrap (v19 - (8 : Int))))) ([v21]) ([(Fl.mk (k := .f32) 1065353216 (by decide))]))]))))]⟩ (Tt ∧ T2 Tt) [] [0, 1, 5, 6, 7, 8, 9, 10] [1, 2, 3, 4, 5, 6, 22] ⟨tr, tr, tr, tr⟩ ?_
      exact loopQ_normal (k, (IntKind.i64.wrap (x12 + (1 : Int))), (x13 ++ ([(SkinPoint.mk (Vector.mk (Fl.ofInt .f32 (IntKind.i64.wrap (v15 - (8 : Int)))) (Fl.ofInt .f32 (IntKind.i64.wrap (v17 - (8 : Int)))) (Fl.ofInt .f32 (IntKind.i64.wrap (v19 - (8 : Int))))) ([v21]) ([(Fl.mk (k := .f32) 1065353216 (by decide))]))]))) h (Nat.lt_succ_self k) (Sub.trans (Sub.swap 7 22 _ (by kernel_rfl) (by kernel_rfl)) (Sub.keep [0, 1, 5, 6, 7, 8, 9, 10] [1, 2, 3, 4, 5, 6, 7] (by kernel_rfl) (by kernel_rfl)))
    · refine AW.cond_f rfl b14 ?_
      refine AW.exit ?_
      refine thenQ_exit ?_
      refine loopQ_exit ?_
      refine blockQ_exit ?_
      refine thenQ_normal ?_
      refine AW.seq ?_
      obtain ⟨v24, e25, h⟩ := bind_some h
      refine AW.tC (T4 (((((Eqc (sl 4 cs_Bone v4.Bones)) ∧ Tt) ∧ ((eF v6.Root.X) ∧ (eF v6.Root.Y) ∧ (eF v6.Root.Z) ∧ (Eqc (sl 4 cs_Turn v6.Turns)) ∧ Tt) ∧ ((eF v8.Root.X) ∧ (eF v8.Root.Y) ∧ (eF v8.Root.Z) ∧ (Eqc (sl 4 cs_Turn v8.Turns)) ∧ Tt) ∧ (Eqc (sl 5 cs_SkinPoint x13)) ∧ Tt) ∧ CallOK Try.prog 8 [.agg (cs_Skeleton v4), .agg (cs_Pose v6), .agg (cs_Pose v8), .one (sl 5 cs_SkinPoint x13)] [.one (sl 3 cs_Vector v24.1), .one (.bool v24.2)]) ∧ Tt ∧ T4 Tt)) [.no, .no, .no, .no, .call [.agg (cs_Skeleton v4), .agg (cs_Pose v6), .agg (cs_Pose v8), .one (sl 5 cs_SkinPoint x13)] [.one (sl 3 cs_Vector v24.1), .one (.bool v24.2)] [[.lst 23], [.view]]] [5, 6, 7, 8, 9, 12, 13] [1, 2, 3, 4, 5, 6, 7, 23] ⟨tr, tr, tr, tr, ⟨⟨⟨rfl, tr⟩, ⟨rfl, rfl, rfl, rfl, tr⟩, ⟨rfl, rfl, rfl, rfl, tr⟩, rfl, tr⟩, ok_impl_SkinLinear K v4 v6 v8 x13 v24 e25⟩, tr, tr, tr, tr, tr, tr⟩ ?_
      refine AW.seq ?_
      obtain ⟨v26, e27, h⟩ := bind_some h
      refine AW.tC (T4 (((((Eqc (sl 4 cs_Bone v4.Bones)) ∧ Tt) ∧ ((eF v6.Root.X) ∧ (eF v6.Root.Y) ∧ (eF v6.Root.Z) ∧ (Eqc (sl 4 cs_Turn v6.Turns)) ∧ Tt) ∧ ((eF v8.Root.X) ∧ (eF v8.Root.Y) ∧ (eF v8.Root.Z) ∧ (Eqc (sl 4 cs_Turn v8.Turns)) ∧ Tt) ∧ (Eqc (sl 5 cs_SkinPoint x13)) ∧ Tt) ∧ CallOK Try.prog 9 [.agg (cs_Skeleton v4), .agg (cs_Pose v6), .agg (cs_Pose v8), .one (sl 5 cs_SkinPoint x13)] [.one (sl 3 cs_Vector v26.1), .one (.bool v26.2)]) ∧ Tt ∧ T4 Tt)) [.no, .no, .no, .no, .call [.agg (cs_Skeleton v4), .agg (cs_Pose v6), .agg (cs_Pose v8), .one (sl 5 cs_SkinPoint x13)] [.one (sl 3 cs_Vector v26.1), .one (.bool v26.2)] [[.lst 24], [.view]]] [5, 6, 7, 8, 9, 12, 13, 14, 15] [1, 2, 3, 4, 5, 6, 7, 23, 24] ⟨tr, tr, tr, tr, ⟨⟨⟨rfl, tr⟩, ⟨rfl, rfl, rfl, rfl, tr⟩, ⟨rfl, rfl, rfl, rfl, tr⟩, rfl, tr⟩, ok_impl_SkinMixed K v4 v6 v8 x13 v26 e27⟩, tr, tr, tr, tr, tr, tr⟩ ?_
      refine AW.seq ?_
      obtain ⟨v28, e29, h⟩ := bind_some h
      refine AW.tC (T2 (((((Eqc (sl 4 cs_Bone v4.Bones)) ∧ Tt) ∧ ((eF v6.Root.X) ∧ (eF v6.Root.Y) ∧ (eF v6.Root.Z) ∧ (Eqc (sl 4 cs_Turn v6.Turns)) ∧ Tt) ∧ Tt) ∧ CallOK Try.prog 10 [.agg (cs_Skeleton v4), .agg (cs_Pose v6)] [.one (sl 4 cs_Turn v28.1), .one (sl 3 cs_Vector v28.2.1), .one (.bool v28.2.2)]) ∧ Tt ∧ T2 (T4 Tt))) [.no, .no, .call [.agg (cs_Skeleton v4), .agg (cs_Pose v6)] [.one (sl 4 cs_Turn v28.1), .one (sl 3 cs_Vector v28.2.1), .one (.bool v28.2.2)] [[.lst 25], [.lst 26], [.view]]] [5, 6, 7, 8, 9, 12, 13, 14, 15, 17, 18] [1, 2, 3, 4, 5, 6, 7, 23, 24, 26] ⟨tr, tr, ⟨⟨⟨rfl, tr⟩, ⟨rfl, rfl, rfl, rfl, tr⟩, tr⟩, ok_impl_WorldOf K v4 v6 v28 e29⟩, tr, tr, tr, tr, tr, tr, tr, tr⟩ ?_
      refine AW.seq ?_
      obtain ⟨v30, e31, h⟩ := bind_some h
      refine AW.tC (T2 (((((Eqc (sl 4 cs_Bone v4.Bones)) ∧ Tt) ∧ ((eF v8.Root.X) ∧ (eF v8.Root.Y) ∧ (eF v8.Root.Z) ∧ (Eqc (sl 4 cs_Turn v8.Turns)) ∧ Tt) ∧ Tt) ∧ CallOK Try.prog 10 [.agg (cs_Skeleton v4), .agg (cs_Pose v8)] [.one (sl 4 cs_Turn v30.1), .one (sl 3 cs_Vector v30.2.1), .one (.bool v30.2.2)]) ∧ Tt ∧ T2 (T4 Tt))) [.no, .no, .call [.agg (cs_Skeleton v4), .agg (cs_Pose v8)] [.one (sl 4 cs_Turn v30.1), .one (sl 3 cs_Vector v30.2.1), .one (.bool v30.2.2)] [[.lst 27], [.lst 28], [.view]]] [5, 6, 7, 8, 9, 12, 13, 14, 15, 17, 18, 20, 21] [1, 2, 3, 4, 5, 6, 7, 23, 24, 26, 28] ⟨tr, tr, ⟨⟨⟨rfl, tr⟩, ⟨rfl, rfl, rfl, rfl, tr⟩, tr⟩, ok_impl_WorldOf K v4 v8 v30 e31⟩, tr, tr, tr, tr, tr, tr, tr, tr⟩ ?_
      refine AW.seq ?_
      obtain ⟨v32, e33, h⟩ := bind_some h
      refine AW.tC (Tt ∧ T2 (((((Eqc (sl 4 cs_Bone v4.Bones)) ∧ Tt) ∧ ((eF v6.Root.X) ∧ (eF v6.Root.Y) ∧ (eF v6.Root.Z) ∧ (Eqc (sl 4 cs_Turn v6.Turns)) ∧ Tt) ∧ ((eF v8.Root.X) ∧ (eF v8.Root.Y) ∧ (eF v8.Root.Z) ∧ (Eqc (sl 4 cs_Turn v8.Turns)) ∧ Tt) ∧ Tt) ∧ CallOK Try.prog 11 [.agg (cs_Skeleton v4), .agg (cs_Pose v6), .agg (cs_Pose v8)] [.one (sl 4 cs_Turn v32.1), .one (sl 3 cs_Vector v32.2.1), .one (.bool v32.2.2)]) ∧ Tt ∧ T2 (T4 Tt))) [.no, .no, .no, .call [.agg (cs_Skeleton v4), .agg (cs_Pose v6), .agg (cs_Pose v8)] [.one (sl 4 cs_Turn v32.1), .one (sl 3 cs_Vector v32.2.1), .one (.bool v32.2.2)] [[.lst 29], [.lst 30], [.view]]] [5, 6, 9, 12, 13, 14, 15, 17, 18, 20, 21, 22, 23, 24] [1, 2, 7, 23, 24, 26, 28, 29, 30] ⟨tr, tr, tr, ⟨⟨⟨rfl, tr⟩, ⟨rfl, rfl, rfl, rfl, tr⟩, ⟨rfl, rfl, rfl, rfl, tr⟩, tr⟩, ok_impl_MovesOf K v4 v6 v8 v32 e33⟩, tr, tr, tr, tr, tr, tr, tr, tr⟩ ?_
      refine AW.seq ?_
      obtain ⟨v34, e35, h⟩ := bind_some h
      refine AW.tA ⟨[(5, (vp 2 0)), (6, (vI (v4.Bones.length : Int))), (9, (vL 7 5 cs_SkinPoint x13)), (12, (vL 23 3 cs_Vector v24.1)), (13, (vB v24.2)), (14, (vL 24 3 cs_Vector v26.1)), (15, (vB v26.2)), (17, (vL 26 3 cs_Vector v28.2.1)), (18, (vB v28.2.2)), (20, (vL 28 3 cs_Vector v30.2.1)), (21, (vB v30.2.2)), (22, (vL 29 4 cs_Turn v32.1)), (23, (vL 30 3 cs_Vector v32.2.1)), (24, (vB v32.2.2)), (25, (vL 31 1 (csI .i64) v34.1)), (26, (vB v34.2))], [(1, (oL 4 cs_Bone v4.Bones)), (2, (.box [(xL 1 4 cs_Bone v4.Bones)])), (7, (oL 5 cs_SkinPoint x13)), (23, (oL 3 cs_Vector v24.1)), (24, (oL 3 cs_Vector v26.1)), (26, (oL 3 cs_Vector v28.2.1)), (28, (oL 3 cs_Vector v30.2.1)), (29, (oL 4 cs_Turn v32.1)), (30, (oL 3 cs_Vector v32.2.1)), (31, (oL 1 (csI .i64) v34.1))]⟩ (T2 (((((Eqc (sl 4 cs_Bone v4.Bones)) ∧ Tt) ∧ (Eqc (sl 5 cs_SkinPoint x13)) ∧ Tt) ∧ CallOK Try.prog 12 [.agg (cs_Skeleton v4), .one (sl 5 cs_SkinPoint x13)] [.one (sl 1 (csI .i64) v34.1), .one (.bool v34.2)]) ∧ Tt ∧ T4 Tt)) [.no, .no, .call [.agg (cs_Skeleton v4), .one (sl 5 cs_SkinPoint x13)] [.one (sl 1 (csI .i64) v34.1), .one (.bool v34.2)] [[.lst 31], [.view]]] [5, 6, 9, 12, 13, 14, 15, 17, 18, 20, 21, 22, 23, 24, 25, 26] [1, 2, 7, 23, 24, 26, 28, 29, 30, 31] ⟨tr, tr, ⟨⟨⟨rfl, tr⟩, rfl, tr⟩, ok_impl_UsedBones K v4 x13 v34 e35⟩, tr, tr, tr, tr, tr, tr⟩ ?_
      refine AW.seq ?_
      refine AW.seq ?_
      obtain ⟨j50, e51, h⟩ := bind_some h
      refine AW.join1 (s2 := ⟨[(9, (vL 7 5 cs_SkinPoint x13)), (12, (vL 23 3 cs_Vector v24.1)), (14, (vL 24 3 cs_Vector v26.1)), (17, (vL 26 3 cs_Vector v28.2.1)), (20, (vL 28 3 cs_Vector v30.2.1)), (25, (vL 31 1 (csI .i64) v34.1)), (187, (vB j50))], [(7, (oL 5 cs_SkinPoint x13)), (23, (oL 3 cs_Vector v24.1)), (24, (oL 3 cs_Vector v26.1)), (26, (oL 3 cs_Vector v28.2.1)), (28, (oL 3 cs_Vector v30.2.1)), (31, (oL 1 (csI .i64) v34.1))]⟩) ?_ ?_
      · rcases ite2_cases e51 with ⟨b36, e51⟩ | ⟨b36, e51⟩
        · replace e51 := some_eq e51
          subst e51
          exact AW.rA ⟨[(9, (vL 7 5 cs_SkinPoint x13)), (12, (vL 23 3 cs_Vector v24.1)), (14, (vL 24 3 cs_Vector v26.1)), (17, (vL 26 3 cs_Vector v28.2.1)), (20, (vL 28 3 cs_Vector v30.2.1)), (25, (vL 31 1 (csI .i64) v34.1)), (187, (vB true))], [(7, (oL 5 cs_SkinPoint x13)), (23, (oL 3 cs_Vector v24.1)), (24, (oL 3 cs_Vector v26.1)), (26, (oL 3 cs_Vector v28.2.1)), (28, (oL 3 cs_Vector v30.2.1)), (31, (oL 1 (csI .i64) v34.1))]⟩ (T2 ((Tt ∧ (!v24.2) = true) ∧ Tt ∧ T2 (T4 (T4 (T4 (T4 (T4 (T4 (T4 (T4 (T4 (T4 (T4 (T4 (T4 (T4 Tt)))))))))))))))) [.no, .no, .dec true] [9, 12, 14, 17, 20, 25, 187] [7, 23, 24, 26, 28, 31] ⟨tr, tr, ⟨tr, b36⟩, tr, tr, tr, tr, tr, tr, tr, tr, tr, tr, tr, tr, tr, tr, tr, tr, tr, tr, tr, tr, tr, tr, tr, tr, tr, tr, tr, tr, tr, tr, tr, tr, tr, tr, tr, tr, tr, tr, tr, tr, tr, tr, tr, tr, tr, tr, tr, tr, tr, tr, tr, tr, tr, tr, tr, tr, tr, tr, tr, tr⟩ ⟨rfl, rfl⟩
        · rcases ite2_cases e51 with ⟨b37, e51⟩ | ⟨b37, e51⟩
          · replace e51 := some_eq e51
            subst e51
            exact AW.rA ⟨[(9, (vL 7 5 cs_SkinPoint x13)), (12, (vL 23 3 cs_Vector v24.1)), (14, (vL 24 3 cs_Vector v26.1)), (17, (vL 26 3 cs_Vector v28.2.1)), (20, (vL 28 3 cs_Vector v30.2.1)), (25, (vL 31 1 (csI .i64) v34.1)), (187, (vB true))], [(7, (oL 5 cs_SkinPoint x13)), (23, (oL 3 cs_Vector v24.1)), (24, (oL 3 cs_Vector v26.1)), (26, (oL 3 cs_Vector v28.2.1)), (28, (oL 3 cs_Vector v30.2.1)), (31, (oL 1 (csI .i64) v34.1))]⟩ (T2 ((Tt ∧ (!v24.2) = false) ∧ Tt ∧ T2 ((Tt ∧ (!v26.2) = true) ∧ Tt ∧ T2 (T4 (T4 (T4 (T4 (T4 (T4 (T4 (T4 (T4 (T4 (T4 (T4 (T4 Tt)))))))))))))))) [.no, .no, .dec false, .no, .no, .no, .dec true] [9, 12, 14, 17, 20, 25, 187] [7, 23, 24, 26, 28, 31] ⟨tr, tr, ⟨tr, b36⟩, tr, tr, tr, ⟨tr, b37⟩, tr, tr, tr, tr, tr, tr, tr, tr, tr, tr, tr, tr, tr, tr, tr, tr, tr, tr, tr, tr, tr, tr, tr, tr, tr, tr, tr, tr, tr, tr, tr, tr, tr, tr, tr, tr, tr, tr, tr, tr, tr, tr, tr, tr, tr, tr, tr, tr, tr, tr, tr, tr, tr, tr, tr, tr⟩ ⟨rfl, rfl⟩
          · rcases ite2_cases e51 with ⟨b38, e51⟩ | ⟨b38, e51⟩
            · replace e51 := some_eq e51
              subst e51
              exact AW.rA ⟨[(9, (vL 7 5 cs_SkinPoint x13)), (12, (vL 23 3 cs_Vector v24.1)), (14, (vL 24 3 cs_Vector v26.1)), (17, (vL 26 3 cs_Vector v28.2.1)), (20, (vL 28 3 cs_Vector v30.2.1)), (25, (vL 31 1 (csI .i64) v34.1)), (187, (vB true))], [(7, (oL 5 cs_SkinPoint x13)), (23, (oL 3 cs_Vector v24.1)), (24, (oL 3 cs_Vector v26.1)), (26, (oL 3 cs_Vector v28.2.1)), (28, (oL 3 cs_Vector v30.2.1)), (31, (oL 1 (csI .i64) v34.1))]⟩ (T2 ((Tt ∧ (!v24.2) = false) ∧ Tt ∧ T2 ((Tt ∧ (!v26.2) = false) ∧ Tt ∧ T2 ((Tt ∧ (!v28.2.2) = true) ∧ Tt ∧ T2 (T4 (T4 (T4 (T4 (T4 (T4 (T4 (T4 (T4 (T4 (T4 (T4 Tt)))))))))))))))) [.no, .no, .dec false, .no, .no, .no, .dec false, .no, .no, .no, .dec true] [9, 12, 14, 17, 20, 25, 187] [7, 23, 24, 26, 28, 31] ⟨tr, tr, ⟨tr, b36⟩, tr, tr, tr, ⟨tr, b37⟩, tr, tr, tr, ⟨tr, b38⟩, tr, tr, tr, tr, tr, tr, tr, tr, tr, tr, tr, tr, tr, tr, tr, tr, tr, tr, tr, tr, tr, tr, tr, tr, tr, tr, tr, tr, tr, tr, tr, tr, tr, tr, tr, tr, tr, tr, tr, tr, tr, tr, tr, tr, tr, tr, tr, tr, tr, tr, tr, tr⟩ ⟨rfl, rfl⟩
            · rcases ite2_cases e51 with ⟨b39, e51⟩ | ⟨b39, e51⟩
              · replace e51 := some_eq e51
                subst e51
                exact AW.rA ⟨[(9, (vL 7 5 cs_SkinPoint x13)), (12, (vL 23 3 cs_Vector v24.1)), (14, (vL 24 3 cs_Vector v26.1)), (17, (vL 26 3 cs_Vector v28.2.1)), (20, (vL 28 3 cs_Vector v30.2.1)), (25, (vL 31 1 (csI .i64) v34.1)), (187, (vB true))], [(7, (oL 5 cs_SkinPoint x13)), (23, (oL 3 cs_Vector v24.1)), (24, (oL 3 cs_Vector v26.1)), (26, (oL 3 cs_Vector v28.2.1)), (28, (oL 3 cs_Vector v30.2.1)), (31, (oL 1 (csI .i64) v34.1))]⟩ (T2 ((Tt ∧ (!v24.2) = false) ∧ Tt ∧ T2 ((Tt ∧ (!v26.2) = false) ∧ Tt ∧ T2 ((Tt ∧ (!v28.2.2) = false) ∧ Tt ∧ T2 ((Tt ∧ (!v30.2.2) = true) ∧ Tt ∧ T2 (T4 (T4 (T4 (T4 (T4 (T4 (T4 (T4 (T4 (T4 (T4 Tt)))))))))))))))) [.no, .no, .dec false, .no, .no, .no, .dec false, .no, .no, .no, .dec false, .no, .no, .no, .dec true] [9, 12, 14, 17, 20, 25, 187] [7, 23, 24, 26, 28, 31] ⟨tr, tr, ⟨tr, b36⟩, tr, tr, tr, ⟨tr, b37⟩, tr, tr, tr, ⟨tr, b38⟩, tr, tr, tr, ⟨tr, b39⟩, tr, tr, tr, tr, tr, tr, tr, tr, tr, tr, tr, tr, tr, tr, tr, tr, tr, tr, tr, tr, tr, tr, tr, tr, tr, tr, tr, tr, tr, tr, tr, tr, tr, tr, tr, tr, tr, tr, tr, tr, tr, tr, tr, tr, tr, tr, tr, tr⟩ ⟨rfl, rfl⟩
              · rcases ite2_cases e51 with ⟨b40, e51⟩ | ⟨b40, e51⟩
                · replace e51 := some_eq e51
                  subst e51
                  exact AW.rA ⟨[(9, (vL 7 5 cs_SkinPoint x13)), (12, (vL 23 3 cs_Vector v24.1)), (14, (vL 24 3 cs_Vector v26.1)), (17, (vL 26 3 cs_Vector v28.2.1)), (20, (vL 28 3 cs_Vector v30.2.1)), (25, (vL 31 1 (csI .i64) v34.1)), (187, (vB true))], [(7, (oL 5 cs_SkinPoint x13)), (23, (oL 3 cs_Vector v24.1)), (24, (oL 3 cs_Vector v26.1)), (26, (oL 3 cs_Vector v28.2.1)), (28, (oL 3 cs_Vector v30.2.1)), (31, (oL 1 (csI .i64) v34.1))]⟩ (T2 ((Tt ∧ (!v24.2) = false) ∧ Tt ∧ T2 ((Tt ∧ (!v26.2) = false) ∧ Tt ∧ T2 ((Tt ∧ (!v28.2.2) = false) ∧ Tt ∧ T2 ((Tt ∧ (!v30.2.2) = false) ∧ Tt ∧ T2 ((Tt ∧ (!v32.2.2) = true) ∧ Tt ∧ T2 (T4 (T4 (T4 (T4 (T4 (T4 (T4 (T4 (T4 (T4 Tt)))))))))))))))) [.no, .no, .dec false, .no, .no, .no, .dec false, .no, .no, .no, .dec false, .no, .no, .no, .dec false, .no, .no, .no, .dec true] [9, 12, 14, 17, 20, 25, 187] [7, 23, 24, 26, 28, 31] ⟨tr, tr, ⟨tr, b36⟩, tr, tr, tr, ⟨tr, b37⟩, tr, tr, tr, ⟨tr, b38⟩, tr, tr, tr, ⟨tr, b39⟩, tr, tr, tr, ⟨tr, b40⟩, tr, tr, tr, tr, tr, tr, tr, tr, tr, tr, tr, tr, tr, tr, tr, tr, tr, tr, tr, tr, tr, tr, tr, tr, tr, tr, tr, tr, tr, tr, tr, tr, tr, tr, tr, tr, tr, tr, tr, tr, tr, tr, tr, tr⟩ ⟨rfl, rfl⟩
                · rcases ite2_cases e51 with ⟨b41, e51⟩ | ⟨b41, e51⟩
                  · replace e51 := some_eq e51
                    subst e51
                    exact AW.rA ⟨[(9, (vL 7 5 cs_SkinPoint x13)), (12, (vL 23 3 cs_Vector v24.1)), (14, (vL 24 3 cs_Vector v26.1)), (17, (vL 26 3 cs_Vector v28.2.1)), (20, (vL 28 3 cs_Vector v30.2.1)), (25, (vL 31 1 (csI .i64) v34.1)), (187, (vB true))], [(7, (oL 5 cs_SkinPoint x13)), (23, (oL 3 cs_Vector v24.1)), (24, (oL 3 cs_Vector v26.1)), (26, (oL 3 cs_Vector v28.2.1)), (28, (oL 3 cs_Vector v30.2.1)), (31, (oL 1 (csI .i64) v34.1))]⟩ (T2 ((Tt ∧ (!v24.2) = false) ∧ Tt ∧ T2 ((Tt ∧ (!v26.2) = false) ∧ Tt ∧ T2 ((Tt ∧ (!v28.2.2) = false) ∧ Tt ∧ T2 ((Tt ∧ (!v30.2.2) = false) ∧ Tt ∧ T2 ((Tt ∧ (!v32.2.2) = false) ∧ Tt ∧ T2 ((Tt ∧ (!v34.2) = true) ∧ Tt ∧ T2 (T4 (T4 (T4 (T4 (T4 (T4 (T4 (T4 (T4 Tt)))))))))))))))) [.no, .no, .dec false, .no, .no, .no, .dec false, .no, .no, .no, .dec false, .no, .no, .no, .dec false, .no, .no, .no, .dec false, .no, .no, .no, .dec true] [9, 12, 14, 17, 20, 25, 187] [7, 23, 24, 26, 28, 31] ⟨tr, tr, ⟨tr, b36⟩, tr, tr, tr, ⟨tr, b37⟩, tr, tr, tr, ⟨tr, b38⟩, tr, tr, tr, ⟨tr, b39⟩, tr, tr, tr, ⟨tr, b40⟩, tr, tr, tr, ⟨tr, b41⟩, tr, tr, tr, tr, tr, tr, tr, tr, tr, tr, tr, tr, tr, tr, tr, tr, tr, tr, tr, tr, tr, tr, tr, tr, tr, tr, tr, tr, tr, tr, tr, tr, tr, tr, tr, tr, tr, tr, tr, tr⟩ ⟨rfl, rfl⟩
                  · obtain ⟨v42, e43, e51⟩ := bind_some e51
                    rcases ite2_cases e51 with ⟨b44, e51⟩ | ⟨b44, e51⟩
                    · replace e51 := some_eq e51
                      subst e51
                      exact AW.rA ⟨[(9, (vL 7 5 cs_SkinPoint x13)), (12, (vL 23 3 cs_Vector v24.1)), (14, (vL 24 3 cs_Vector v26.1)), (17, (vL 26 3 cs_Vector v28.2.1)), (20, (vL 28 3 cs_Vector v30.2.1)), (25, (vL 31 1 (csI .i64) v34.1)), (187, (vB true))], [(7, (oL 5 cs_SkinPoint x13)), (23, (oL 3 cs_Vector v24.1)), (24, (oL 3 cs_Vector v26.1)), (26, (oL 3 cs_Vector v28.2.1)), (28, (oL 3 cs_Vector v30.2.1)), (31, (oL 1 (csI .i64) v34.1))]⟩ (T2 ((Tt ∧ (!v24.2) = false) ∧ Tt ∧ T2 ((Tt ∧ (!v26.2) = false) ∧ Tt ∧ T2 ((Tt ∧ (!v28.2.2) = false) ∧ Tt ∧ T2 ((Tt ∧ (!v30.2.2) = false) ∧ Tt ∧ T2 ((Tt ∧ (!v32.2.2) = false) ∧ Tt ∧ T2 ((Tt ∧ (!v34.2) = false) ∧ T2 (((((Eqc (sl 4 cs_Bone v4.Bones)) ∧ Tt) ∧ (Eqc (sl 5 cs_SkinPoint x13)) ∧ Tt) ∧ CallOK Try.prog 13 [.agg (cs_Skeleton v4), .one (sl 5 cs_SkinPoint x13)] [.one (.bool v42)]) ∧ T2 ((Tt ∧ (!v42) = true) ∧ Tt ∧ T4 (T4 (T4 (T4 (T4 (T4 (T4 (T4 Tt)))))))))))))))) [.no, .no, .dec false, .no, .no, .no, .dec false, .no, .no, .no, .dec false, .no, .no, .no, .dec false, .no, .no, .no, .dec false, .no, .no, .no, .dec false, .no, .no, .call [.agg (cs_Skeleton v4), .one (sl 5 cs_SkinPoint x13)] [.one (.bool v42)] [[.view]], .no, .no, .dec true] [9, 12, 14, 17, 20, 25, 187] [7, 23, 24, 26, 28, 31] ⟨tr, tr, ⟨tr, b36⟩, tr, tr, tr, ⟨tr, b37⟩, tr, tr, tr, ⟨tr, b38⟩, tr, tr, tr, ⟨tr, b39⟩, tr, tr, tr, ⟨tr, b40⟩, tr, tr, tr, ⟨tr, b41⟩, tr, tr, ⟨⟨⟨rfl, tr⟩, rfl, tr⟩, ok_impl_IsSkin K v4 x13 v42 e43⟩, tr, tr, ⟨tr, b44⟩, tr, tr, tr, tr, tr, tr, tr, tr, tr, tr, tr, tr, tr, tr, tr, tr, tr, tr, tr, tr, tr, tr, tr, tr, tr, tr, tr, tr, tr, tr, tr, tr, tr, tr⟩ ⟨rfl, rfl⟩
                    · rcases ite2_cases e51 with ⟨b45, e51⟩ | ⟨b45, e51⟩
                      · replace e51 := some_eq e51
                        subst e51
                        exact AW.rA ⟨[(9, (vL 7 5 cs_SkinPoint x13)), (12, (vL 23 3 cs_Vector v24.1)), (14, (vL 24 3 cs_Vector v26.1)), (17, (vL 26 3 cs_Vector v28.2.1)), (20, (vL 28 3 cs_Vector v30.2.1)), (25, (vL 31 1 (csI .i64) v34.1)), (187, (vB true))], [(7, (oL 5 cs_SkinPoint x13)), (23, (oL 3 cs_Vector v24.1)), (24, (oL 3 cs_Vector v26.1)), (26, (oL 3 cs_Vector v28.2.1)), (28, (oL 3 cs_Vector v30.2.1)), (31, (oL 1 (csI .i64) v34.1))]⟩ (T2 ((Tt ∧ (!v24.2) = false) ∧ Tt ∧ T2 ((Tt ∧ (!v26.2) = false) ∧ Tt ∧ T2 ((Tt ∧ (!v28.2.2) = false) ∧ Tt ∧ T2 ((Tt ∧ (!v30.2.2) = false) ∧ Tt ∧ T2 ((Tt ∧ (!v32.2.2) = false) ∧ Tt ∧ T2 ((Tt ∧ (!v34.2) = false) ∧ T2 (((((Eqc (sl 4 cs_Bone v4.Bones)) ∧ Tt) ∧ (Eqc (sl 5 cs_SkinPoint x13)) ∧ Tt) ∧ CallOK Try.prog 13 [.agg (cs_Skeleton v4), .one (sl 5 cs_SkinPoint x13)] [.one (.bool v42)]) ∧ T2 ((Tt ∧ (!v42) = false) ∧ T4 ((Tt ∧ ((v24.1.length : Int) != (4 : Int)) = true) ∧ T4 (T4 (T4 (T4 (T4 (T4 (T4 Tt)))))))))))))))) [.no, .no, .dec false, .no, .no, .no, .dec false, .no, .no, .no, .dec false, .no, .no, .no, .dec false, .no, .no, .no, .dec false, .no, .no, .no, .dec false, .no, .no, .call [.agg (cs_Skeleton v4), .one (sl 5 cs_SkinPoint x13)] [.one (.bool v42)] [[.view]], .no, .no, .dec false, .no, .no, .no, .no, .dec true] [9, 12, 14, 17, 20, 25, 187] [7, 23, 24, 26, 28, 31] ⟨tr, tr, ⟨tr, b36⟩, tr, tr, tr, ⟨tr, b37⟩, tr, tr, tr, ⟨tr, b38⟩, tr, tr, tr, ⟨tr, b39⟩, tr, tr, tr, ⟨tr, b40⟩, tr, tr, tr, ⟨tr, b41⟩, tr, tr, ⟨⟨⟨rfl, tr⟩, rfl, tr⟩, ok_impl_IsSkin K v4 x13 v42 e43⟩, tr, tr, ⟨tr, b44⟩, tr, tr, tr, tr, ⟨tr, b45⟩, tr, tr, tr, tr, tr, tr, tr, tr, tr, tr, tr, tr, tr, tr, tr, tr, tr, tr, tr, tr, tr, tr, tr, tr, tr, tr, tr, tr, tr⟩ ⟨rfl, rfl⟩
                      · rcases ite2_cases e51 with ⟨b46, e51⟩ | ⟨b46, e51⟩
                        · replace e51 := some_eq e51
                          subst e51
                          exact AW.rA ⟨[(9, (vL 7 5 cs_SkinPoint x13)), (12, (vL 23 3 cs_Vector v24.1)), (14, (vL 24 3 cs_Vector v26.1)), (17, (vL 26 3 cs_Vector v28.2.1)), (20, (vL 28 3 cs_Vector v30.2.1)), (25, (vL 31 1 (csI .i64) v34.1)), (187, (vB true))], [(7, (oL 5 cs_SkinPoint x13)), (23, (oL 3 cs_Vector v24.1)), (24, (oL 3 cs_Vector v26.1)), (26, (oL 3 cs_Vector v28.2.1)), (28, (oL 3 cs_Vector v30.2.1)), (31, (oL 1 (csI .i64) v34.1))]⟩ (T2 ((Tt ∧ (!v24.2) = false) ∧ Tt ∧ T2 ((Tt ∧ (!v26.2) = false) ∧ Tt ∧ T2 ((Tt ∧ (!v28.2.2) = false) ∧ Tt ∧ T2 ((Tt ∧ (!v30.2.2) = false) ∧ Tt ∧ T2 ((Tt ∧ (!v32.2.2) = false) ∧ Tt ∧ T2 ((Tt ∧ (!v34.2) = false) ∧ T2 (((((Eqc (sl 4 cs_Bone v4.Bones)) ∧ Tt) ∧ (Eqc (sl 5 cs_SkinPoint x13)) ∧ Tt) ∧ CallOK Try.prog 13 [.agg (cs_Skeleton v4), .one (sl 5 cs_SkinPoint x13)] [.one (.bool v42)]) ∧ T2 ((Tt ∧ (!v42) = false) ∧ T4 ((Tt ∧ ((v24.1.length : Int) != (4 : Int)) = false) ∧ T4 ((Tt ∧ ((v26.1.length : Int) != (4 : Int)) = true) ∧ Tt ∧ T2 (T4 (T4 (T4 (T4 (T4 Tt)))))))))))))))) [.no, .no, .dec false, .no, .no, .no, .dec false, .no, .no, .no, .dec false, .no, .no, .no, .dec false, .no, .no, .no, .dec false, .no, .no, .no, .dec false, .no, .no, .call [.agg (cs_Skeleton v4), .one (sl 5 cs_SkinPoint x13)] [.one (.bool v42)] [[.view]], .no, .no, .dec false, .no, .no, .no, .no, .dec false, .no, .no, .no, .no, .dec true] [9, 12, 14, 17, 20, 25, 187] [7, 23, 24, 26, 28, 31] ⟨tr, tr, ⟨tr, b36⟩, tr, tr, tr, ⟨tr, b37⟩, tr, tr, tr, ⟨tr, b38⟩, tr, tr, tr, ⟨tr, b39⟩, tr, tr, tr, ⟨tr, b40⟩, tr, tr, tr, ⟨tr, b41⟩, tr, tr, ⟨⟨⟨rfl, tr⟩, rfl, tr⟩, ok_impl_IsSkin K v4 x13 v42 e43⟩, tr, tr, ⟨tr, b44⟩, tr, tr, tr, tr, ⟨tr, b45⟩, tr, tr, tr, tr, ⟨tr, b46⟩, tr, tr, tr, tr, tr, tr, tr, tr, tr, tr, tr, tr, tr, tr, tr, tr, tr, tr, tr, tr, tr, tr, tr, tr⟩ ⟨rfl, rfl⟩
                        · rcases ite2_cases e51 with ⟨b47, e51⟩ | ⟨b47, e51⟩
                          · replace e51 := some_eq e51
                            subst e51
                            exact AW.rA ⟨[(9, (vL 7 5 cs_SkinPoint x13)), (12, (vL 23 3 cs_Vector v24.1)), (14, (vL 24 3 cs_Vector v26.1)), (17, (vL 26 3 cs_Vector v28.2.1)), (20, (vL 28 3 cs_Vector v30.2.1)), (25, (vL 31 1 (csI .i64) v34.1)), (187, (vB true))], [(7, (oL 5 cs_SkinPoint x13)), (23, (oL 3 cs_Vector v24.1)), (24, (oL 3 cs_Vector v26.1)), (26, (oL 3 cs_Vector v28.2.1)), (28, (oL 3 cs_Vector v30.2.1)), (31, (oL 1 (csI .i64) v34.1))]⟩ (T2 ((Tt ∧ (!v24.2) = false) ∧ Tt ∧ T2 ((Tt ∧ (!v26.2) = false) ∧ Tt ∧ T2 ((Tt ∧ (!v28.2.2) = false) ∧ Tt ∧ T2 ((Tt ∧ (!v30.2.2) = false) ∧ Tt ∧ T2 ((Tt ∧ (!v32.2.2) = false) ∧ Tt ∧ T2 ((Tt ∧ (!v34.2) = false) ∧ T2 (((((Eqc (sl 4 cs_Bone v4.Bones)) ∧ Tt) ∧ (Eqc (sl 5 cs_SkinPoint x13)) ∧ Tt) ∧ CallOK Try.prog 13 [.agg (cs_Skeleton v4), .one (sl 5 cs_SkinPoint x13)] [.one (.bool v42)]) ∧ T2 ((Tt ∧ (!v42) = false) ∧ T4 ((Tt ∧ ((v24.1.length : Int) != (4 : Int)) = false) ∧ T4 ((Tt ∧ ((v26.1.length : Int) != (4 : Int)) = false) ∧ Tt ∧ T4 ((Tt ∧ ((v32.1.length : Int) != (v4.Bones.length : Int)) = true) ∧ Tt ∧ T4 (T4 (T4 (T4 Tt))))))))))))))) [.no, .no, .dec false, .no, .no, .no, .dec false, .no, .no, .no, .dec false, .no, .no, .no, .dec false, .no, .no, .no, .dec false, .no, .no, .no, .dec false, .no, .no, .call [.agg (cs_Skeleton v4), .one (sl 5 cs_SkinPoint x13)] [.one (.bool v42)] [[.view]], .no, .no, .dec false, .no, .no, .no, .no, .dec false, .no, .no, .no, .no, .dec false, .no, .no, .no, .no, .no, .dec true] [9, 12, 14, 17, 20, 25, 187] [7, 23, 24, 26, 28, 31] ⟨tr, tr, ⟨tr, b36⟩, tr, tr, tr, ⟨tr, b37⟩, tr, tr, tr, ⟨tr, b38⟩, tr, tr, tr, ⟨tr, b39⟩, tr, tr, tr, ⟨tr, b40⟩, tr, tr, tr, ⟨tr, b41⟩, tr, tr, ⟨⟨⟨rfl, tr⟩, rfl, tr⟩, ok_impl_IsSkin K v4 x13 v42 e43⟩, tr, tr, ⟨tr, b44⟩, tr, tr, tr, tr, ⟨tr, b45⟩, tr, tr, tr, tr, ⟨tr, b46⟩, tr, tr, tr, tr, tr, ⟨tr, b47⟩, tr, tr, tr, tr, tr, tr, tr, tr, tr, tr, tr, tr, tr, tr, tr, tr, tr, tr⟩ ⟨rfl, rfl⟩
                          · rcases ite2_cases e51 with ⟨b48, e51⟩ | ⟨b48, e51⟩
                            · replace e51 := some_eq e51
                              subst e51
                              exact AW.rA ⟨[(9, (vL 7 5 cs_SkinPoint x13)), (12, (vL 23 3 cs_Vector v24.1)), (14, (vL 24 3 cs_Vector v26.1)), (17, (vL 26 3 cs_Vector v28.2.1)), (20, (vL 28 3 cs_Vector v30.2.1)), (25, (vL 31 1 (csI .i64) v34.1)), (187, (vB true))], [(7, (oL 5 cs_SkinPoint x13)), (23, (oL 3 cs_Vector v24.1)), (24, (oL 3 cs_Vector v26.1)), (26, (oL 3 cs_Vector v28.2.1)), (28, (oL 3 cs_Vector v30.2.1)), (31, (oL 1 (csI .i64) v34.1))]⟩ (T2 ((Tt ∧ (!v24.2) = false) ∧ Tt ∧ T2 ((Tt ∧ (!v26.2) = false) ∧ Tt ∧ T2 ((Tt ∧ (!v28.2.2) = false) ∧ Tt ∧ T2 ((Tt ∧ (!v30.2.2) = false) ∧ Tt ∧ T2 ((Tt ∧ (!v32.2.2) = false) ∧ Tt ∧ T2 ((Tt ∧ (!v34.2) = false) ∧ T2 (((((Eqc (sl 4 cs_Bone v4.Bones)) ∧ Tt) ∧ (Eqc (sl 5 cs_SkinPoint x13)) ∧ Tt) ∧ CallOK Try.prog 13 [.agg (cs_Skeleton v4), .one (sl 5 cs_SkinPoint x13)] [.one (.bool v42)]) ∧ T2 ((Tt ∧ (!v42) = false) ∧ T4 ((Tt ∧ ((v24.1.length : Int) != (4 : Int)) = false) ∧ T4 ((Tt ∧ ((v26.1.length : Int) != (4 : Int)) = false) ∧ Tt ∧ T4 ((Tt ∧ ((v32.1.length : Int) != (v4.Bones.length : Int)) = false) ∧ Tt ∧ T4 ((Tt ∧ ((v32.2.1.length : Int) != (v4.Bones.length : Int)) = true) ∧ Tt ∧ T2 (T4 (T4 Tt))))))))))))))) [.no, .no, .dec false, .no, .no, .no, .dec false, .no, .no, .no, .dec false, .no, .no, .no, .dec false, .no, .no, .no, .dec false, .no, .no, .no, .dec false, .no, .no, .call [.agg (cs_Skeleton v4), .one (sl 5 cs_SkinPoint x13)] [.one (.bool v42)] [[.view]], .no, .no, .dec false, .no, .no, .no, .no, .dec false, .no, .no, .no, .no, .dec false, .no, .no, .no, .no, .no, .dec false, .no, .no, .no, .no, .no, .dec true] [9, 12, 14, 17, 20, 25, 187] [7, 23, 24, 26, 28, 31] ⟨tr, tr, ⟨tr, b36⟩, tr, tr, tr, ⟨tr, b37⟩, tr, tr, tr, ⟨tr, b38⟩, tr, tr, tr, ⟨tr, b39⟩, tr, tr, tr, ⟨tr, b40⟩, tr, tr, tr, ⟨tr, b41⟩, tr, tr, ⟨⟨⟨rfl, tr⟩, rfl, tr⟩, ok_impl_IsSkin K v4 x13 v42 e43⟩, tr, tr, ⟨tr, b44⟩, tr, tr, tr, tr, ⟨tr, b45⟩, tr, tr, tr, tr, ⟨tr, b46⟩, tr, tr, tr, tr, tr, ⟨tr, b47⟩, tr, tr, tr, tr, tr, ⟨tr, b48⟩, tr, tr, tr, tr, tr, tr, tr, tr, tr, tr, tr, tr⟩ ⟨rfl, rfl⟩
                            · rcases ite2_cases e51 with ⟨b49, e51⟩ | ⟨b49, e51⟩
                              · replace e51 := some_eq e51
                                subst e51
                                exact AW.rA ⟨[(9, (vL 7 5 cs_SkinPoint x13)), (12, (vL 23 3 cs_Vector v24.1)), (14, (vL 24 3 cs_Vector v26.1)), (17, (vL 26 3 cs_Vector v28.2.1)), (20, (vL 28 3 cs_Vector v30.2.1)), (25, (vL 31 1 (csI .i64) v34.1)), (187, (vB true))], [(7, (oL 5 cs_SkinPoint x13)), (23, (oL 3 cs_Vector v24.1)), (24, (oL 3 cs_Vector v26.1)), (26, (oL 3 cs_Vector v28.2.1)), (28, (oL 3 cs_Vector v30.2.1)), (31, (oL 1 (csI .i64) v34.1))]⟩ (T2 ((Tt ∧ (!v24.2) = false) ∧ Tt ∧ T2 ((Tt ∧ (!v26.2) = false) ∧ Tt ∧ T2 ((Tt ∧ (!v28.2.2) = false) ∧ Tt ∧ T2 ((Tt ∧ (!v30.2.2) = false) ∧ Tt ∧ T2 ((Tt ∧ (!v32.2.2) = false) ∧ Tt ∧ T2 ((Tt ∧ (!v34.2) = false) ∧ T2 (((((Eqc (sl 4 cs_Bone v4.Bones)) ∧ Tt) ∧ (Eqc (sl 5 cs_SkinPoint x13)) ∧ Tt) ∧ CallOK Try.prog 13 [.agg (cs_Skeleton v4), .one (sl 5 cs_SkinPoint x13)] [.one (.bool v42)]) ∧ T2 ((Tt ∧ (!v42) = false) ∧ T4 ((Tt ∧ ((v24.1.length : Int) != (4 : Int)) = false) ∧ T4 ((Tt ∧ ((v26.1.length : Int) != (4 : Int)) = false) ∧ Tt ∧ T4 ((Tt ∧ ((v32.1.length : Int) != (v4.Bones.length : Int)) = false) ∧ Tt ∧ T4 ((Tt ∧ ((v32.2.1.length : Int) != (v4.Bones.length : Int)) = false) ∧ Tt ∧ T4 ((Tt ∧ ((v28.2.1.length : Int) != (v4.Bones.length : Int)) = true) ∧ Tt ∧ T4 Tt)))))))))))))) [.no, .no, .dec false, .no, .no, .no, .dec false, .no, .no, .no, .dec false, .no, .no, .no, .dec false, .no, .no, .no, .dec false, .no, .no, .no, .dec false, .no, .no, .call [.agg (cs_Skeleton v4), .one (sl 5 cs_SkinPoint x13)] [.one (.bool v42)] [[.view]], .no, .no, .dec false, .no, .no, .no, .no, .dec false, .no, .no, .no, .no, .dec false, .no, .no, .no, .no, .no, .dec false, .no, .no, .no, .no, .no, .dec false, .no, .no, .no, .no, .no, .dec true] [9, 12, 14, 17, 20, 25, 187] [7, 23, 24, 26, 28, 31] ⟨tr, tr, ⟨tr, b36⟩, tr, tr, tr, ⟨tr, b37⟩, tr, tr, tr, ⟨tr, b38⟩, tr, tr, tr, ⟨tr, b39⟩, tr, tr, tr, ⟨tr, b40⟩, tr, tr, tr, ⟨tr, b41⟩, tr, tr, ⟨⟨⟨rfl, tr⟩, rfl, tr⟩, ok_impl_IsSkin K v4 x13 v42 e43⟩, tr, tr, ⟨tr, b44⟩, tr, tr, tr, tr, ⟨tr, b45⟩, tr, tr, tr, tr, ⟨tr, b46⟩, tr, tr, tr, tr, tr, ⟨tr, b47⟩, tr, tr, tr, tr, tr, ⟨tr, b48⟩, tr, tr, tr, tr, tr, ⟨tr, b49⟩, tr, tr, tr, tr, tr, tr⟩ ⟨rfl, rfl⟩
                              · replace e51 := some_eq e51
                                subst e51
                                exact AW.rA ⟨[(9, (vL 7 5 cs_SkinPoint x13)), (12, (vL 23 3 cs_Vector v24.1)), (14, (vL 24 3 cs_Vector v26.1)), (17, (vL 26 3 cs_Vector v28.2.1)), (20, (vL 28 3 cs_Vector v30.2.1)), (25, (vL 31 1 (csI .i64) v34.1)), (187, (vB ((v30.2.1.length : Int) != (v4.Bones.length : Int))))], [(7, (oL 5 cs_SkinPoint x13)), (23, (oL 3 cs_Vector v24.1)), (24, (oL 3 cs_Vector v26.1)), (26, (oL 3 cs_Vector v28.2.1)), (28, (oL 3 cs_Vector v30.2.1)), (31, (oL 1 (csI .i64) v34.1))]⟩ (T2 ((Tt ∧ (!v24.2) = false) ∧ Tt ∧ T2 ((Tt ∧ (!v26.2) = false) ∧ Tt ∧ T2 ((Tt ∧ (!v28.2.2) = false) ∧ Tt ∧ T2 ((Tt ∧ (!v30.2.2) = false) ∧ Tt ∧ T2 ((Tt ∧ (!v32.2.2) = false) ∧ Tt ∧ T2 ((Tt ∧ (!v34.2) = false) ∧ T2 (((((Eqc (sl 4 cs_Bone v4.Bones)) ∧ Tt) ∧ (Eqc (sl 5 cs_SkinPoint x13)) ∧ Tt) ∧ CallOK Try.prog 13 [.agg (cs_Skeleton v4), .one (sl 5 cs_SkinPoint x13)] [.one (.bool v42)]) ∧ T2 ((Tt ∧ (!v42) = false) ∧ T4 ((Tt ∧ ((v24.1.length : Int) != (4 : Int)) = false) ∧ T4 ((Tt ∧ ((v26.1.length : Int) != (4 : Int)) = false) ∧ Tt ∧ T4 ((Tt ∧ ((v32.1.length : Int) != (v4.Bones.length : Int)) = false) ∧ Tt ∧ T4 ((Tt ∧ ((v32.2.1.length : Int) != (v4.Bones.length : Int)) = false) ∧ Tt ∧ T4 ((Tt ∧ ((v28.2.1.length : Int) != (v4.Bones.length : Int)) = false) ∧ Tt ∧ T4 Tt)))))))))))))) [.no, .no, .dec false, .no, .no, .no, .dec false, .no, .no, .no, .dec false, .no, .no, .no, .dec false, .no, .no, .no, .dec false, .no, .no, .no, .dec false, .no, .no, .call [.agg (cs_Skeleton v4), .one (sl 5 cs_SkinPoint x13)] [.one (.bool v42)] [[.view]], .no, .no, .dec false, .no, .no, .no, .no, .dec false, .no, .no, .no, .no, .dec false, .no, .no, .no, .no, .no, .dec false, .no, .no, .no, .no, .no, .dec false, .no, .no, .no, .no, .no, .dec false] [9, 12, 14, 17, 20, 25, 187] [7, 23, 24, 26, 28, 31] ⟨tr, tr, ⟨tr, b36⟩, tr, tr, tr, ⟨tr, b37⟩, tr, tr, tr, ⟨tr, b38⟩, tr, tr, tr, ⟨tr, b39⟩, tr, tr, tr, ⟨tr, b40⟩, tr, tr, tr, ⟨tr, b41⟩, tr, tr, ⟨⟨⟨rfl, tr⟩, rfl, tr⟩, ok_impl_IsSkin K v4 x13 v42 e43⟩, tr, tr, ⟨tr, b44⟩, tr, tr, tr, tr, ⟨tr, b45⟩, tr, tr, tr, tr, ⟨tr, b46⟩, tr, tr, tr, tr, tr, ⟨tr, b47⟩, tr, tr, tr, tr, tr, ⟨tr, b48⟩, tr, tr, tr, tr, tr, ⟨tr, b49⟩, tr, tr, tr, tr, tr, tr⟩ ⟨rfl, rfl⟩
      refine thenQ_normal ?_
      rcases ite2_cases h with ⟨b52, h⟩ | ⟨b52, h⟩
      · refine AW.cond_t rfl b52 ?_
        refine AW.sA ⟨[(4, (vB false))], []⟩ (Tt ∧ Tt) [] [4] [] ⟨tr, tr⟩ ?_
        refine AW.ret ?_
        refine thenQ_ret ?_
        replace h := some_eq h
        subst h
        exact ⟨.inr rfl, retOK_of [(.one (.c (.bool false)))] (by kernel_rfl) ⟨⟨rfl, tr⟩, tr⟩ (of_decide_eq_true (by kernel_rfl))⟩
      · refine AW.cond_f rfl b52 ?_
        refine AW.skip ?_
        refine thenQ_normal ?_
        refine AW.seq ?_
        refine AW.sA ⟨[(9, (vL 7 5 cs_SkinPoint x13)), (12, (vL 23 3 cs_Vector v24.1)), (14, (vL 24 3 cs_Vector v26.1)), (17, (vL 26 3 cs_Vector v28.2.1)), (20, (vL 28 3 cs_Vector v30.2.1)), (25, (vL 31 1 (csI .i64) v34.1)), (189, (vI (x13.length : Int))), (190, (vI (0 : Int)))], [(7, (oL 5 cs_SkinPoint x13)), (23, (oL 3 cs_Vector v24.1)), (24, (oL 3 cs_Vector v26.1)), (26, (oL 3 cs_Vector v28.2.1)), (28, (oL 3 cs_Vector v30.2.1)), (31, (oL 1 (csI .i64) v34.1))]⟩ (Tt ∧ T2 Tt) [] [9, 12, 14, 17, 20, 25, 189, 190] [7, 23, 24, 26, 28, 31] ⟨tr, tr, tr, tr⟩ ?_
        refine AW.block ?_
        refine AW.loopQ (σ := Nat × Int) (fun p => ⟨[(9, (vL 7 5 cs_SkinPoint x13)), (12, (vL 23 3 cs_Vector v24.1)), (14, (vL 24 3 cs_Vector v26.1)), (17, (vL 26 3 cs_Vector v28.2.1)), (20, (vL 28 3 cs_Vector v30.2.1)), (25, (vL 31 1 (csI .i64) v34.1)), (189, (vI (x13.length : Int))), (190, (vI p.2))], [(7, (oL 5 cs_SkinPoint x13)), (23, (oL 3 cs_Vector v24.1)), (24, (oL 3 cs_Vector v26.1)), (26, (oL 3 cs_Vector v28.2.1)), (28, (oL 3 cs_Vector v30.2.1)), (31, (oL 1 (csI .i64) v34.1))]⟩) (fun p => laws_FnSkins_l4 K x13 v24 v26 v28 v30 v34 p.1 p.2 = some o) (fun p => p.1) (K, (0 : Int)) h ?_
        clear h
        rintro ⟨k, x54⟩ h
        replace h : laws_FnSkins_l4 K x13 v24 v26 v28 v30 v34 k x54 = some o := h
        show AW _ _ (⟨[(9, (vL 7 5 cs_SkinPoint x13)), (12, (vL 23 3 cs_Vector v24.1)), (14, (vL 24 3 cs_Vector v26.1)), (17, (vL 26 3 cs_Vector v28.2.1)), (20, (vL 28 3 cs_Vector v30.2.1)), (25, (vL 31 1 (csI .i64) v34.1)), (189, (vI (x13.length : Int))), (190, (vI x54))], [(7, (oL 5 cs_SkinPoint x13)), (23, (oL 3 cs_Vector v24.1)), (24, (oL 3 cs_Vector v26.1)), (26, (oL 3 cs_Vector v28.2.1)), (28, (oL 3 cs_Vector v30.2.1)), (31, (oL 1 (csI .i64) v34.1))]⟩ : St) _
        obtain _ | k := k
        · rw [laws_FnSkins_l4] at h; cases h
        rw [laws_FnSkins_l4] at h
        refine AW.sA ⟨[(9, (vL 7 5 cs_SkinPoint x13)), (12, (vL 23 3 cs_Vector v24.1)), (14, (vL 24 3 cs_Vector v26.1)), (17, (vL 26 3 cs_Vector v28.2.1)), (20, (vL 28 3 cs_Vector v30.2.1)), (25, (vL 31 1 (csI .i64) v34.1)), (189, (vI (x13.length : Int))), (190, (vI x54)), (191, (vB (decide (x54 < (x13.length : Int)))))], [(7, (oL 5 cs_SkinPoint x13)), (23, (oL 3 cs_Vector v24.1)), (24, (oL 3 cs_Vector v26.1)), (26, (oL 3 cs_Vector v28.2.1)), (28, (oL 3 cs_Vector v30.2.1)), (31, (oL 1 (csI .i64) v34.1))]⟩ (Tt ∧ Tt) [] [9, 12, 14, 17, 20, 25, 189, 190, 191] [7, 23, 24, 26, 28, 31] ⟨tr, tr⟩ ?_
        refine AW.seq ?_
        rcases ite2_cases h with ⟨b55, h⟩ | ⟨b55, h⟩
        · refine AW.cond_t rfl b55 ?_
          refine AW.skip ?_
          refine thenQ_normal ?_
          refine AW.seq ?_
          refine AW.block ?_
          refine AW.sC (T2 Tt) [] [9, 12, 14, 17, 20, 25, 27, 189, 190] [7, 23, 24, 26, 28, 31] ⟨tr, tr, tr⟩ ?_
          refine AW.seq ?_
          obtain ⟨c56, h⟩ := chk_some h
          obtain ⟨c57, h⟩ := chk_some h
          refine AW.tA ⟨[(9, (vL 7 5 cs_SkinPoint x13)), (12, (vL 23 3 cs_Vector v24.1)), (14, (vL 24 3 cs_Vector v26.1)), (17, (vL 26 3 cs_Vector v28.2.1)), (20, (vL 28 3 cs_Vector v30.2.1)), (25, (vL 31 1 (csI .i64) v34.1)), (27, (vI x54)), (28, (vI (((x13.getD x54.toNat default).Bones).getD ((0 : Int).toNat) default))), (189, (vI (x13.length : Int))), (190, (vI x54))], [(7, (oL 5 cs_SkinPoint x13)), (23, (oL 3 cs_Vector v24.1)), (24, (oL 3 cs_Vector v26.1)), (26, (oL 3 cs_Vector v28.2.1)), (28, (oL 3 cs_Vector v30.2.1)), (31, (oL 1 (csI .i64) v34.1))]⟩ (T2 ((0 ≤ x54 ∧ x54 < (x13.length : Int)) ∧ T2 ((0 ≤ (0 : Int) ∧ (0 : Int) < (((x13.getD x54.toNat default).Bones).length : Int)) ∧ T2 Tt))) [] [9, 12, 14, 17, 20, 25, 27, 28, 189, 190] [7, 23, 24, 26, 28, 31] ⟨tr, tr, c56, tr, tr, c57, tr, tr, tr⟩ ?_
          refine AW.seq ?_
          refine AW.seq ?_
          obtain ⟨c58, h⟩ := chk_some h
          obtain ⟨c59, h⟩ := chk_some h
          obtain ⟨v60, e61, h⟩ := bind_some h
          obtain ⟨j73, e74, h⟩ := bind_some h
          refine AW.join1 (s2 := ⟨[(9, (vL 7 5 cs_SkinPoint x13)), (12, (vL 23 3 cs_Vector v24.1)), (14, (vL 24 3 cs_Vector v26.1)), (17, (vL 26 3 cs_Vector v28.2.1)), (20, (vL 28 3 cs_Vector v30.2.1)), (25, (vL 31 1 (csI .i64) v34.1)), (28, (vI (((x13.getD x54.toNat default).Bones).getD ((0 : Int).toNat) default))), (189, (vI (x13.length : Int))), (190, (vI x54)), (233, (vB j73))], [(7, (oL 5 cs_SkinPoint x13)), (23, (oL 3 cs_Vector v24.1)), (24, (oL 3 cs_Vector v26.1)), (26, (oL 3 cs_Vector v28.2.1)), (28, (oL 3 cs_Vector v30.2.1)), (31, (oL 1 (csI .i64) v34.1))]⟩) ?_ ?_
          · rcases ite2_cases e74 with ⟨b62, e74⟩ | ⟨b62, e74⟩
            · replace e74 := some_eq e74
              subst e74
              exact AW.dA ⟨[(9, (vL 7 5 cs_SkinPoint x13)), (12, (vL 23 3 cs_Vector v24.1)), (14, (vL 24 3 cs_Vector v26.1)), (17, (vL 26 3 cs_Vector v28.2.1)), (20, (vL 28 3 cs_Vector v30.2.1)), (25, (vL 31 1 (csI .i64) v34.1)), (28, (vI (((x13.getD x54.toNat default).Bones).getD ((0 : Int).toNat) default))), (189, (vI (x13.length : Int))), (190, (vI x54)), (233, (vB true))], [(7, (oL 5 cs_SkinPoint x13)), (23, (oL 3 cs_Vector v24.1)), (24, (oL 3 cs_Vector v26.1)), (26, (oL 3 cs_Vector v28.2.1)), (28, (oL 3 cs_Vector v30.2.1)), (31, (oL 1 (csI .i64) v34.1))]⟩ ((T2 ((0 ≤ x54 ∧ x54 < (v24.1.length : Int)) ∧ Tt ∧ T2 ((0 ≤ x54 ∧ x54 < (v26.1.length : Int)) ∧ Tt ∧ ((((eF ((v24.1.getD x54.toNat default).X)) ∧ (eF ((v24.1.getD x54.toNat default).Y)) ∧ (eF ((v24.1.getD x54.toNat default).Z)) ∧ Tt) ∧ ((eF ((v26.1.getD x54.toNat default).X)) ∧ (eF ((v26.1.getD x54.toNat default).Y)) ∧ (eF ((v26.1.getD x54.toNat default).Z)) ∧ Tt) ∧ Tt) ∧ CallOK Try.prog 14 [.agg (cs_Vector (v24.1.getD x54.toNat default)), .agg (cs_Vector (v26.1.getD x54.toNat default))] [.one (.bool v60)]) ∧ Tt ∧ (Tt ∧ (!v60) = true) ∧ Tt ∧ T2 (T4 (T4 (T4 (T4 (T4 Tt)))))))) ∧ (Tt)) 34 [.no, .no, .no, .no, .no, .no, .no, .no, .call [.agg (cs_Vector (v24.1.getD x54.toNat default)), .agg (cs_Vector (v26.1.getD x54.toNat default))] [.one (.bool v60)] [[.view]], .no, .dec true] [9, 12, 14, 17, 20, 25, 28, 189, 190, 233] [7, 23, 24, 26, 28, 31] ⟨⟨tr, tr, c58, tr, tr, tr, c59, tr, ⟨⟨⟨rfl, rfl, rfl, tr⟩, ⟨rfl, rfl, rfl, tr⟩, tr⟩, ok_laws_b10VEqual K (v24.1.getD x54.toNat default) (v26.1.getD x54.toNat default) v60 e61⟩, tr, ⟨tr, b62⟩, tr, tr, tr, tr, tr, tr, tr, tr, tr, tr, tr, tr, tr, tr, tr, tr, tr, tr, tr, tr, tr, tr, tr, tr⟩, tr⟩ ⟨rfl, rfl⟩
            · obtain ⟨c63, e74⟩ := chk_some e74
              obtain ⟨v64, e65, e74⟩ := bind_some e74
              obtain ⟨v66, e67, e74⟩ := bind_some e74
              obtain ⟨c68, e74⟩ := chk_some e74
              obtain ⟨v69, e70, e74⟩ := bind_some e74
              obtain ⟨v71, e72, e74⟩ := bind_some e74
              replace e74 := some_eq e74
              subst e74
              exact AW.dA ⟨[(9, (vL 7 5 cs_SkinPoint x13)), (12, (vL 23 3 cs_Vector v24.1)), (14, (vL 24 3 cs_Vector v26.1)), (17, (vL 26 3 cs_Vector v28.2.1)), (20, (vL 28 3 cs_Vector v30.2.1)), (25, (vL 31 1 (csI .i64) v34.1)), (28, (vI (((x13.getD x54.toNat default).Bones).getD ((0 : Int).toNat) default))), (189, (vI (x13.length : Int))), (190, (vI x54)), (233, (vB (v66.ne v71)))], [(7, (oL 5 cs_SkinPoint x13)), (23, (oL 3 cs_Vector v24.1)), (24, (oL 3 cs_Vector v26.1)), (26, (oL 3 cs_Vector v28.2.1)), (28, (oL 3 cs_Vector v30.2.1)), (31, (oL 1 (csI .i64) v34.1))]⟩ ((T2 ((0 ≤ x54 ∧ x54 < (v24.1.length : Int)) ∧ Tt ∧ T2 ((0 ≤ x54 ∧ x54 < (v26.1.length : Int)) ∧ Tt ∧ ((((eF ((v24.1.getD x54.toNat default).X)) ∧ (eF ((v24.1.getD x54.toNat default).Y)) ∧ (eF ((v24.1.getD x54.toNat default).Z)) ∧ Tt) ∧ ((eF ((v26.1.getD x54.toNat default).X)) ∧ (eF ((v26.1.getD x54.toNat default).Y)) ∧ (eF ((v26.1.getD x54.toNat default).Z)) ∧ Tt) ∧ Tt) ∧ CallOK Try.prog 14 [.agg (cs_Vector (v24.1.getD x54.toNat default)), .agg (cs_Vector (v26.1.getD x54.toNat default))] [.one (.bool v60)]) ∧ Tt ∧ (Tt ∧ (!v60) = false) ∧ T2 ((0 ≤ x54 ∧ x54 < (v24.1.length : Int)) ∧ Tt ∧ T2 ((0 ≤ (((x13.getD x54.toNat default).Bones).getD ((0 : Int).toNat) default) ∧ (((x13.getD x54.toNat default).Bones).getD ((0 : Int).toNat) default) < (v30.2.1.length : Int)) ∧ Tt ∧ ((((eF ((v24.1.getD x54.toNat default).X)) ∧ (eF ((v24.1.getD x54.toNat default).Y)) ∧ (eF ((v24.1.getD x54.toNat default).Z)) ∧ Tt) ∧ ((((.flt .f32 ((v30.2.1.getD ((((x13.getD x54.toNat default).Bones).getD ((0 : Int).toNat) default).toNat) default).X).bits) : C) = (.flt .f32 ((v30.2.1.getD ((((x13.getD x54.toNat default).Bones).getD ((0 : Int).toNat) default).toNat) default).X).bits)) ∧ (((.flt .f32 ((v30.2.1.getD ((((x13.getD x54.toNat default).Bones).getD ((0 : Int).toNat) default).toNat) default).Y).bits) : C) = (.flt .f32 ((v30.2.1.getD ((((x13.getD x54.toNat default).Bones).getD ((0 : Int).toNat) default).toNat) default).Y).bits)) ∧ (((.flt .f32 ((v30.2.1.getD ((((x13.getD x54.toNat default).Bones).getD ((0 : Int).toNat) default).toNat) default).Z).bits) : C) = (.flt .f32 ((v30.2.1.getD ((((x13.getD x54.toNat default).Bones).getD ((0 : Int).toNat) default).toNat) default).Z).bits)) ∧ Tt) ∧ Tt) ∧ CallOK Try.prog 16 [.agg (cs_Vector (v24.1.getD x54.toNat default)), .agg (cs_Vector (v30.2.1.getD ((((x13.getD x54.toNat default).Bones).getD ((0 : Int).toNat) default).toNat) default))] [.agg (cs_Vector v64)]) ∧ ((((eF v64.X) ∧ (eF v64.Y) ∧ (eF v64.Z) ∧ Tt) ∧ Tt) ∧ CallOK Try.prog 15 [.agg (cs_Vector v64)] [.one (.flt .f32 v66.bits)]) ∧ T2 ((0 ≤ x54 ∧ x54 < (x13.length : Int)) ∧ T4 ((0 ≤ (((x13.getD x54.toNat default).Bones).getD ((0 : Int).toNat) default) ∧ (((x13.getD x54.toNat default).Bones).getD ((0 : Int).toNat) default) < (v28.2.1.length : Int)) ∧ Tt ∧ ((((eF (((x13.getD x54.toNat default).Place).X)) ∧ (eF (((x13.getD x54.toNat default).Place).Y)) ∧ (eF (((x13.getD x54.toNat default).Place).Z)) ∧ Tt) ∧ ((((.flt .f32 ((v28.2.1.getD ((((x13.getD x54.toNat default).Bones).getD ((0 : Int).toNat) default).toNat) default).X).bits) : C) = (.flt .f32 ((v28.2.1.getD ((((x13.getD x54.toNat default).Bones).getD ((0 : Int).toNat) default).toNat) default).X).bits)) ∧ (((.flt .f32 ((v28.2.1.getD ((((x13.getD x54.toNat default).Bones).getD ((0 : Int).toNat) default).toNat) default).Y).bits) : C) = (.flt .f32 ((v28.2.1.getD ((((x13.getD x54.toNat default).Bones).getD ((0 : Int).toNat) default).toNat) default).Y).bits)) ∧ (((.flt .f32 ((v28.2.1.getD ((((x13.getD x54.toNat default).Bones).getD ((0 : Int).toNat) default).toNat) default).Z).bits) : C) = (.flt .f32 ((v28.2.1.getD ((((x13.getD x54.toNat default).Bones).getD ((0 : Int).toNat) default).toNat) default).Z).bits)) ∧ Tt) ∧ Tt) ∧ CallOK Try.prog 16 [.agg (cs_Vector ((x13.getD x54.toNat default).Place)), .agg (cs_Vector (v28.2.1.getD ((((x13.getD x54.toNat default).Bones).getD ((0 : Int).toNat) default).toNat) default))] [.agg (cs_Vector v69)]) ∧ ((((eF v69.X) ∧ (eF v69.Y) ∧ (eF v69.Z) ∧ Tt) ∧ Tt) ∧ CallOK Try.prog 15 [.agg (cs_Vector v69)] [.one (.flt .f32 v71.bits)]) ∧ T2 Tt))))))) ∧ (Tt)) 34 [.no, .no, .no, .no, .no, .no, .no, .no, .call [.agg (cs_Vector (v24.1.getD x54.toNat default)), .agg (cs_Vector (v26.1.getD x54.toNat default))] [.one (.bool v60)] [[.view]], .no, .dec false, .no, .no, .no, .no, .no, .no, .no, .no, .call [.agg (cs_Vector (v24.1.getD x54.toNat default)), .agg (cs_Vector (v30.2.1.getD ((((x13.getD x54.toNat default).Bones).getD ((0 : Int).toNat) default).toNat) default))] [.agg (cs_Vector v64)] [[.view, .view, .view]], .call [.agg (cs_Vector v64)] [.one (.flt .f32 v66.bits)] [[.view]], .no, .no, .no, .no, .no, .no, .no, .no, .no, .call [.agg (cs_Vector ((x13.getD x54.toNat default).Place)), .agg (cs_Vector (v28.2.1.getD ((((x13.getD x54.toNat default).Bones).getD ((0 : Int).toNat) default).toNat) default))] [.agg (cs_Vector v69)] [[.view, .view, .view]], .call [.agg (cs_Vector v69)] [.one (.flt .f32 v71.bits)] [[.view]]] [9, 12, 14, 17, 20, 25, 28, 189, 190, 233] [7, 23, 24, 26, 28, 31] ⟨⟨tr, tr, c58, tr, tr, tr, c59, tr, ⟨⟨⟨rfl, rfl, rfl, tr⟩, ⟨rfl, rfl, rfl, tr⟩, tr⟩, ok_laws_b10VEqual K (v24.1.getD x54.toNat default) (v26.1.getD x54.toNat default) v60 e61⟩, tr, ⟨tr, b62⟩, tr, tr, c58, tr, tr, tr, c63, tr, ⟨⟨⟨rfl, rfl, rfl, tr⟩, ⟨rfl, rfl, rfl, tr⟩, tr⟩, ok_spec_LessVectors K (v24.1.getD x54.toNat default) (v30.2.1.getD ((((x13.getD x54.toNat default).Bones).getD ((0 : Int).toNat) default).toNat) default) v64 e65⟩, ⟨⟨⟨rfl, rfl, rfl, tr⟩, tr⟩, ok_laws_b10Square K v64 v66 e67⟩, tr, tr, c56, tr, tr, tr, tr, c68, tr, ⟨⟨⟨rfl, rfl, rfl, tr⟩, ⟨rfl, rfl, rfl, tr⟩, tr⟩, ok_spec_LessVectors K ((x13.getD x54.toNat default).Place) (v28.2.1.getD ((((x13.getD x54.toNat default).Bones).getD ((0 : Int).toNat) default).toNat) default) v69 e70⟩, ⟨⟨⟨rfl, rfl, rfl, tr⟩, tr⟩, ok_laws_b10Square K v69 v71 e72⟩, tr, tr, tr⟩, tr⟩ ⟨rfl, rfl⟩
          refine thenQ_normal ?_
          rcases ite2_cases h with ⟨b75, h⟩ | ⟨b75, h⟩
          · refine AW.cond_t rfl b75 ?_
            refine AW.sA ⟨[(4, (vB false))], []⟩ (Tt ∧ Tt) [] [4] [] ⟨tr, tr⟩ ?_
            refine AW.ret ?_
            refine thenQ_ret ?_
            refine blockQ_ret ?_
            refine thenQ_ret ?_
            refine loopQ_ret ?_
            refine blockQ_ret ?_
            refine thenQ_ret ?_
            replace h := some_eq h
            subst h
            exact ⟨.inr rfl, retOK_of [(.one (.c (.bool false)))] (by kernel_rfl) ⟨⟨rfl, tr⟩, tr⟩ (of_decide_eq_true (by kernel_rfl))⟩
          · refine AW.cond_f rfl b75 ?_
            refine AW.skip ?_
            refine thenQ_normal ?_
            refine AW.sC (Tt ∧ Tt) [] [9, 12, 14, 17, 20, 25, 28, 29, 189, 190] [7, 23, 24, 26, 28, 31] ⟨tr, tr⟩ ?_
            refine AW.seq ?_
            refine AW.sA ⟨[(9, (vL 7 5 cs_SkinPoint x13)), (12, (vL 23 3 cs_Vector v24.1)), (14, (vL 24 3 cs_Vector v26.1)), (17, (vL 26 3 cs_Vector v28.2.1)), (20, (vL 28 3 cs_Vector v30.2.1)), (25, (vL 31 1 (csI .i64) v34.1)), (28, (vI (((x13.getD x54.toNat default).Bones).getD ((0 : Int).toNat) default))), (29, (vB false)), (189, (vI (x13.length : Int))), (190, (vI x54)), (235, (vI (v34.1.length : Int))), (236, (vI (0 : Int)))], [(7, (oL 5 cs_SkinPoint x13)), (23, (oL 3 cs_Vector v24.1)), (24, (oL 3 cs_Vector v26.1)), (26, (oL 3 cs_Vector v28.2.1)), (28, (oL 3 cs_Vector v30.2.1)), (31, (oL 1 (csI .i64) v34.1))]⟩ (Tt ∧ T2 Tt) [] [9, 12, 14, 17, 20, 25, 28, 29, 189, 190, 235, 236] [7, 23, 24, 26, 28, 31] ⟨tr, tr, tr, tr⟩ ?_
            obtain ⟨j86, e85, h⟩ := bind_some h
            refine AW.joinS (s2 := ⟨[(9, (vL 7 5 cs_SkinPoint x13)), (12, (vL 23 3 cs_Vector v24.1)), (14, (vL 24 3 cs_Vector v26.1)), (17, (vL 26 3 cs_Vector v28.2.1)), (20, (vL 28 3 cs_Vector v30.2.1)), (25, (vL 31 1 (csI .i64) v34.1)), (29, (vB j86)), (189, (vI (x13.length : Int))), (190, (vI x54))], [(7, (oL 5 cs_SkinPoint x13)), (23, (oL 3 cs_Vector v24.1)), (24, (oL 3 cs_Vector v26.1)), (26, (oL 3 cs_Vector v28.2.1)), (28, (oL 3 cs_Vector v30.2.1)), (31, (oL 1 (csI .i64) v34.1))]⟩) ?_ ?_
            · replace h := e85
              refine AW.block ?_
              refine AW.loopQ (σ := Nat × Bool × Int) (fun p => ⟨[(9, (vL 7 5 cs_SkinPoint x13)), (12, (vL 23 3 cs_Vector v24.1)), (14, (vL 24 3 cs_Vector v26.1)), (17, (vL 26 3 cs_Vector v28.2.1)), (20, (vL 28 3 cs_Vector v30.2.1)), (25, (vL 31 1 (csI .i64) v34.1)), (28, (vI (((x13.getD x54.toNat default).Bones).getD ((0 : Int).toNat) default))), (29, (vB p.2.1)), (189, (vI (x13.length : Int))), (190, (vI x54)), (235, (vI (v34.1.length : Int))), (236, (vI p.2.2))], [(7, (oL 5 cs_SkinPoint x13)), (23, (oL 3 cs_Vector v24.1)), (24, (oL 3 cs_Vector v26.1)), (26, (oL 3 cs_Vector v28.2.1)), (28, (oL 3 cs_Vector v30.2.1)), (31, (oL 1 (csI .i64) v34.1))]⟩) (fun p => laws_FnSkins_l5 K x13 v34 x54 p.1 p.2.1 p.2.2 = some j86) (fun p => p.1) (K, false, (0 : Int)) h ?_
              clear h
              rintro ⟨k, x89, x90⟩ h
              replace h : laws_FnSkins_l5 K x13 v34 x54 k x89 x90 = some j86 := h
              show AW _ _ (⟨[(9, (vL 7 5 cs_SkinPoint x13)), (12, (vL 23 3 cs_Vector v24.1)), (14, (vL 24 3 cs_Vector v26.1)), (17, (vL 26 3 cs_Vector v28.2.1)), (20, (vL 28 3 cs_Vector v30.2.1)), (25, (vL 31 1 (csI .i64) v34.1)), (28, (vI (((x13.getD x54.toNat default).Bones).getD ((0 : Int).toNat) default))), (29, (vB x89)), (189, (vI (x13.length : Int))), (190, (vI x54)), (235, (vI (v34.1.length : Int))), (236, (vI x90))], [(7, (oL 5 cs_SkinPoint x13)), (23, (oL 3 cs_Vector v24.1)), (24, (oL 3 cs_Vector v26.1)), (26, (oL 3 cs_Vector v28.2.1)), (28, (oL 3 cs_Vector v30.2.1)), (31, (oL 1 (csI .i64) v34.1))]⟩ : St) _
              obtain _ | k := k
              · rw [laws_FnSkins_l5] at h; cases h
              rw [laws_FnSkins_l5] at h
              refine AW.sA ⟨[(9, (vL 7 5 cs_SkinPoint x13)), (12, (vL 23 3 cs_Vector v24.1)), (14, (vL 24 3 cs_Vector v26.1)), (17, (vL 26 3 cs_Vector v28.2.1)), (20, (vL 28 3 cs_Vector v30.2.1)), (25, (vL 31 1 (csI .i64) v34.1)), (28, (vI (((x13.getD x54.toNat default).Bones).getD ((0 : Int).toNat) default))), (29, (vB x89)), (189, (vI (x13.length : Int))), (190, (vI x54)), (235, (vI (v34.1.length : Int))), (236, (vI x90)), (237, (vB (decide (x90 < (v34.1.length : Int)))))], [(7, (oL 5 cs_SkinPoint x13)), (23, (oL 3 cs_Vector v24.1)), (24, (oL 3 cs_Vector v26.1)), (26, (oL 3 cs_Vector v28.2.1)), (28, (oL 3 cs_Vector v30.2.1)), (31, (oL 1 (csI .i64) v34.1))]⟩ (Tt ∧ Tt) [] [9, 12, 14, 17, 20, 25, 28, 29, 189, 190, 235, 236, 237] [7, 23, 24, 26, 28, 31] ⟨tr, tr⟩ ?_
              refine AW.seq ?_
              rcases ite2_cases h with ⟨b91, h⟩ | ⟨b91, h⟩
              · refine AW.cond_t rfl b91 ?_
                refine AW.skip ?_
                refine thenQ_normal ?_
                refine AW.seq ?_
                refine AW.block ?_
                refine AW.sA ⟨[(9, (vL 7 5 cs_SkinPoint x13)), (12, (vL 23 3 cs_Vector v24.1)), (14, (vL 24 3 cs_Vector v26.1)), (17, (vL 26 3 cs_Vector v28.2.1)), (20, (vL 28 3 cs_Vector v30.2.1)), (25, (vL 31 1 (csI .i64) v34.1)), (28, (vI (((x13.getD x54.toNat default).Bones).getD ((0 : Int).toNat) default))), (29, (vB x89)), (30, (vI x90)), (189, (vI (x13.length : Int))), (190, (vI x54)), (235, (vI (v34.1.length : Int))), (236, (vI x90))], [(7, (oL 5 cs_SkinPoint x13)), (23, (oL 3 cs_Vector v24.1)), (24, (oL 3 cs_Vector v26.1)), (26, (oL 3 cs_Vector v28.2.1)), (28, (oL 3 cs_Vector v30.2.1)), (31, (oL 1 (csI .i64) v34.1))]⟩ (T2 Tt) [] [9, 12, 14, 17, 20, 25, 28, 29, 30, 189, 190, 235, 236] [7, 23, 24, 26, 28, 31] ⟨tr, tr, tr⟩ ?_
                obtain ⟨j94, e95, h⟩ := bind_some h
                refine AW.join1 (s2 := ⟨[(9, (vL 7 5 cs_SkinPoint x13)), (12, (vL 23 3 cs_Vector v24.1)), (14, (vL 24 3 cs_Vector v26.1)), (17, (vL 26 3 cs_Vector v28.2.1)), (20, (vL 28 3 cs_Vector v30.2.1)), (25, (vL 31 1 (csI .i64) v34.1)), (28, (vI (((x13.getD x54.toNat default).Bones).getD ((0 : Int).toNat) default))), (29, (vB j94)), (189, (vI (x13.length : Int))), (190, (vI x54)), (235, (vI (v34.1.length : Int))), (236, (vI x90))], [(7, (oL 5 cs_SkinPoint x13)), (23, (oL 3 cs_Vector v24.1)), (24, (oL 3 cs_Vector v26.1)), (26, (oL 3 cs_Vector v28.2.1)), (28, (oL 3 cs_Vector v30.2.1)), (31, (oL 1 (csI .i64) v34.1))]⟩) ?_ ?_
                · rcases ite2_cases e95 with ⟨b92, e95⟩ | ⟨b92, e95⟩
                  · replace e95 := some_eq e95
                    subst e95
                    exact AW.rA ⟨[(9, (vL 7 5 cs_SkinPoint x13)), (12, (vL 23 3 cs_Vector v24.1)), (14, (vL 24 3 cs_Vector v26.1)), (17, (vL 26 3 cs_Vector v28.2.1)), (20, (vL 28 3 cs_Vector v30.2.1)), (25, (vL 31 1 (csI .i64) v34.1)), (28, (vI (((x13.getD x54.toNat default).Bones).getD ((0 : Int).toNat) default))), (29, (vB true)), (189, (vI (x13.length : Int))), (190, (vI x54)), (235, (vI (v34.1.length : Int))), (236, (vI x90))], [(7, (oL 5 cs_SkinPoint x13)), (23, (oL 3 cs_Vector v24.1)), (24, (oL 3 cs_Vector v26.1)), (26, (oL 3 cs_Vector v28.2.1)), (28, (oL 3 cs_Vector v30.2.1)), (31, (oL 1 (csI .i64) v34.1))]⟩ (Tt ∧ (Tt ∧ x89 = true) ∧ T4 (T4 Tt)) [.no, .dec true] [9, 12, 14, 17, 20, 25, 28, 29, 189, 190, 235, 236] [7, 23, 24, 26, 28, 31] ⟨tr, ⟨tr, b92⟩, tr, tr, tr, tr, tr, tr, tr, tr, tr⟩ ⟨rfl, rfl⟩
                  · obtain ⟨c93, e95⟩ := chk_some e95
                    replace e95 := some_eq e95
                    subst e95
                    exact AW.rA ⟨[(9, (vL 7 5 cs_SkinPoint x13)), (12, (vL 23 3 cs_Vector v24.1)), (14, (vL 24 3 cs_Vector v26.1)), (17, (vL 26 3 cs_Vector v28.2.1)), (20, (vL 28 3 cs_Vector v30.2.1)), (25, (vL 31 1 (csI .i64) v34.1)), (28, (vI (((x13.getD x54.toNat default).Bones).getD ((0 : Int).toNat) default))), (29, (vB ((v34.1.getD x90.toNat default) == (((x13.getD x54.toNat default).Bones).getD ((0 : Int).toNat) default)))), (189, (vI (x13.length : Int))), (190, (vI x54)), (235, (vI (v34.1.length : Int))), (236, (vI x90))], [(7, (oL 5 cs_SkinPoint x13)), (23, (oL 3 cs_Vector v24.1)), (24, (oL 3 cs_Vector v26.1)), (26, (oL 3 cs_Vector v28.2.1)), (28, (oL 3 cs_Vector v30.2.1)), (31, (oL 1 (csI .i64) v34.1))]⟩ (Tt ∧ (Tt ∧ x89 = false) ∧ T2 ((0 ≤ x90 ∧ x90 < (v34.1.length : Int)) ∧ Tt ∧ T4 Tt)) [.no, .dec false] [9, 12, 14, 17, 20, 25, 28, 29, 189, 190, 235, 236] [7, 23, 24, 26, 28, 31] ⟨tr, ⟨tr, b92⟩, tr, tr, c93, tr, tr, tr, tr, tr, tr⟩ ⟨rfl, rfl⟩
                refine blockQ_normal ?_
                refine thenQ_normal ?_
                refine AW.rA ⟨[(9, (vL 7 5 cs_SkinPoint x13)), (12, (vL 23 3 cs_Vector v24.1)), (14, (vL 24 3 cs_Vector v26.1)), (17, (vL 26 3 cs_Vector v28.2.1)), (20, (vL 28 3 cs_Vector v30.2.1)), (25, (vL 31 1 (csI .i64) v34.1)), (28, (vI (((x13.getD x54.toNat default).Bones).getD ((0 : Int).toNat) default))), (29, (vB j94)), (189, (vI (x13.length : Int))), (190, (vI x54)), (235, (vI (v34.1.length : Int))), (236, (vI (IntKind.i64.wrap (x90 + (1 : Int)))))], [(7, (oL 5 cs_SkinPoint x13)), (23, (oL 3 cs_Vector v24.1)), (24, (oL 3 cs_Vector v26.1)), (26, (oL 3 cs_Vector v28.2.1)), (28, (oL 3 cs_Vector v30.2.1)), (31, (oL 1 (csI .i64) v34.1))]⟩ (T2 Tt) [] [9, 12, 14, 17, 20, 25, 28, 29, 189, 190, 235, 236] [7, 23, 24, 26, 28, 31] ⟨tr, tr, tr⟩ ?_
                exact loopQ_normal (k, j94, (IntKind.i64.wrap (x90 + (1 : Int)))) h (Nat.lt_succ_self k) (Sub.keep [9, 12, 14, 17, 20, 25, 28, 29, 189, 190, 235, 236] [7, 23, 24, 26, 28, 31] (by kernel_rfl) (by kernel_rfl))
              · refine AW.cond_f rfl b91 ?_
                refine AW.exit ?_
                refine thenQ_exit ?_
                refine loopQ_exit ?_
                refine blockQ_exit ?_
                replace h := some_eq h
                subst h
                exact ⟨rfl, Sub.keep [9, 12, 14, 17, 20, 25, 29, 189, 190] [7, 23, 24, 26, 28, 31] (by kernel_rfl) (by kernel_rfl)⟩
            refine thenQ_normal ?_
            refine AW.sA ⟨[(9, (vL 7 5 cs_SkinPoint x13)), (12, (vL 23 3 cs_Vector v24.1)), (14, (vL 24 3 cs_Vector v26.1)), (17, (vL 26 3 cs_Vector v28.2.1)), (20, (vL 28 3 cs_Vector v30.2.1)), (25, (vL 31 1 (csI .i64) v34.1)), (189, (vI (x13.length : Int))), (190, (vI x54)), (250, (vB (!j86)))], [(7, (oL 5 cs_SkinPoint x13)), (23, (oL 3 cs_Vector v24.1)), (24, (oL 3 cs_Vector v26.1)), (26, (oL 3 cs_Vector v28.2.1)), (28, (oL 3 cs_Vector v30.2.1)), (31, (oL 1 (csI .i64) v34.1))]⟩ (T2 Tt) [] [9, 12, 14, 17, 20, 25, 189, 190, 250] [7, 23, 24, 26, 28, 31] ⟨tr, tr, tr⟩ ?_
            rcases ite2_cases h with ⟨b96, h⟩ | ⟨b96, h⟩
            · refine AW.cond_t rfl b96 ?_
              refine AW.sA ⟨[(4, (vB false))], []⟩ (Tt ∧ Tt) [] [4] [] ⟨tr, tr⟩ ?_
              refine AW.ret ?_
              refine blockQ_ret ?_
              refine thenQ_ret ?_
              refine loopQ_ret ?_
              refine blockQ_ret ?_
              refine thenQ_ret ?_
              replace h := some_eq h
              subst h
              exact ⟨.inr rfl, retOK_of [(.one (.c (.bool false)))] (by kernel_rfl) ⟨⟨rfl, tr⟩, tr⟩ (of_decide_eq_true (by kernel_rfl))⟩
            · refine AW.cond_f rfl b96 ?_
              refine AW.skip ?_
              refine blockQ_normal ?_
              refine thenQ_normal ?_
              refine AW.rA ⟨[(9, (vL 7 5 cs_SkinPoint x13)), (12, (vL 23 3 cs_Vector v24.1)), (14, (vL 24 3 cs_Vector v26.1)), (17, (vL 26 3 cs_Vector v28.2.1)), (20, (vL 28 3 cs_Vector v30.2.1)), (25, (vL 31 1 (csI .i64) v34.1)), (189, (vI (x13.length : Int))), (190, (vI (IntKind.i64.wrap (x54 + (1 : Int)))))], [(7, (oL 5 cs_SkinPoint x13)), (23, (oL 3 cs_Vector v24.1)), (24, (oL 3 cs_Vector v26.1)), (26, (oL 3 cs_Vector v28.2.1)), (28, (oL 3 cs_Vector v30.2.1)), (31, (oL 1 (csI .i64) v34.1))]⟩ (T2 Tt) [] [9, 12, 14, 17, 20, 25, 189, 190] [7, 23, 24, 26, 28, 31] ⟨tr, tr, tr⟩ ?_
              exact loopQ_normal (k, (IntKind.i64.wrap (x54 + (1 : Int)))) h (Nat.lt_succ_self k) (Sub.keep [9, 12, 14, 17, 20, 25, 189, 190] [7, 23, 24, 26, 28, 31] (by kernel_rfl) (by kernel_rfl))
        · refine AW.cond_f rfl b55 ?_
          refine AW.exit ?_
          refine thenQ_exit ?_
          refine loopQ_exit ?_
          refine blockQ_exit ?_
          refine thenQ_normal ?_
          refine AW.sA ⟨[(4, (vB true))], []⟩ (Tt ∧ Tt) [] [4] [] ⟨tr, tr⟩ ?_
          refine AW.ret ?_
          replace h := some_eq h
          subst h
          exact ⟨.inr rfl, retOK_of [(.one (.c (.bool true)))] (by kernel_rfl) ⟨⟨rfl, tr⟩, tr⟩ (of_decide_eq_true (by kernel_rfl))⟩

end
end Go.Fw
