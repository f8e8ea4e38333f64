/- Functions of the program: what each computes, and that it computes just that. -/
import Derived.Test.YtmfgigeephjmfacFwTy
import Derived.Test.YtmfgigeephjmfacFwH
import Derived.Test.YtmfgigeephjmfacFwV
import Derived.Test.YtmfgigeephjmfacFwGJ1
import Derived.Test.YtmfgigeephjmfacFwMK
import Derived.Test.YtmfgigeephjmfacProg
import Derived.KernelRfl
namespace Go.Fw
open Go Go.Proofs
noncomputable section
set_option maxRecDepth 10000

/-! (*impl.Skeleton).world -/
def Zt8 (QE Q2 Q3 Q4 : Prop) : Prop := ((Tt ∧ (Q2 ∧ (Q3 ∧ (Q4 ∧ Tt)))) ∧ (Q2 ∧ (Tt ∧ (Q3 ∧ (Q4 ∧ Tt)))) ∧ QE)
theorem zt8 {QE Q2 Q3 Q4 : Prop} (qe : QE) (q2 : Q2) (q3 : Q3) (q4 : Q4) : Zt8 QE Q2 Q3 Q4 := ⟨⟨tr, ⟨q2, ⟨q3, ⟨q4, tr⟩⟩⟩⟩, ⟨q2, ⟨tr, ⟨q3, ⟨q4, tr⟩⟩⟩⟩, qe⟩
def Zt9 (QE Q1 Q2 Q3 Q4 : Prop) : Prop := ((Tt ∧ (Q1 ∧ (Q2 ∧ (Q3 ∧ (Q4 ∧ Tt))))) ∧ (Q1 ∧ (Zt8 QE Q2 Q3 Q4)) ∧ QE)
theorem zt9 {QE Q1 Q2 Q3 Q4 : Prop} (qe : QE) (q1 : Q1) (q2 : Q2) (q3 : Q3) (q4 : Q4) : Zt9 QE Q1 Q2 Q3 Q4 := ⟨⟨tr, ⟨q1, ⟨q2, ⟨q3, ⟨q4, tr⟩⟩⟩⟩⟩, ⟨q1, (zt8 qe q2 q3 q4)⟩, qe⟩
def Zt10 (Q1 Q2 Q3 Q4 : Prop) : Prop := (Tt ∧ (Q1 ∧ (Q2 ∧ (Q3 ∧ (Q4 ∧ Tt)))))
theorem zt10 {Q1 Q2 Q3 Q4 : Prop} (q1 : Q1) (q2 : Q2) (q3 : Q3) (q4 : Q4) : Zt10 Q1 Q2 Q3 Q4 := ⟨tr, ⟨q1, ⟨q2, ⟨q3, ⟨q4, tr⟩⟩⟩⟩⟩
def Zt11 (QE Q1 Q2 Q3 Q4 : Prop) : Prop := ((Tt ∧ (Zt9 QE Q1 Q2 Q3 Q4)) ∧ (Tt ∧ (Zt10 Q1 Q2 Q3 Q4)) ∧ QE)
theorem zt11 {QE Q1 Q2 Q3 Q4 : Prop} (qe : QE) (q1 : Q1) (q2 : Q2) (q3 : Q3) (q4 : Q4) : Zt11 QE Q1 Q2 Q3 Q4 := ⟨⟨tr, (zt9 qe q1 q2 q3 q4)⟩, ⟨tr, (zt10 q1 q2 q3 q4)⟩, qe⟩
def Zt12 (QE Q0 Q1 Q2 Q3 Q4 : Prop) : Prop := ((Q0 ∧ (Zt11 QE Q1 Q2 Q3 Q4)) ∧ (Tt ∧ (Q0 ∧ (Zt10 Q1 Q2 Q3 Q4))) ∧ QE)
theorem zt12 {QE Q0 Q1 Q2 Q3 Q4 : Prop} (qe : QE) (q0 : Q0) (q1 : Q1) (q2 : Q2) (q3 : Q3) (q4 : Q4) : Zt12 QE Q0 Q1 Q2 Q3 Q4 := ⟨⟨q0, (zt11 qe q1 q2 q3 q4)⟩, ⟨tr, ⟨q0, (zt10 q1 q2 q3 q4)⟩⟩, qe⟩
def Zt13 (Q0 Q1 Q2 Q3 Q4 : Prop) : Prop := (Tt ∧ (Q0 ∧ (Zt10 Q1 Q2 Q3 Q4)))
theorem zt13 {Q0 Q1 Q2 Q3 Q4 : Prop} (q0 : Q0) (q1 : Q1) (q2 : Q2) (q3 : Q3) (q4 : Q4) : Zt13 Q0 Q1 Q2 Q3 Q4 := ⟨tr, ⟨q0, (zt10 q1 q2 q3 q4)⟩⟩
def Zt14 (QE Q0 Q1 Q2 Q3 Q4 : Prop) : Prop := ((Tt ∧ (Zt12 QE Q0 Q1 Q2 Q3 Q4)) ∧ (Tt ∧ (Zt13 Q0 Q1 Q2 Q3 Q4)) ∧ QE)
theorem zt14 {QE Q0 Q1 Q2 Q3 Q4 : Prop} (qe : QE) (q0 : Q0) (q1 : Q1) (q2 : Q2) (q3 : Q3) (q4 : Q4) : Zt14 QE Q0 Q1 Q2 Q3 Q4 := ⟨⟨tr, (zt12 qe q0 q1 q2 q3 q4)⟩, ⟨tr, (zt13 q0 q1 q2 q3 q4)⟩, qe⟩
def impl_Skeleton_world_l1 (K : Nat) (a0 : Skeleton) (a1 : Pose) : Nat → Int → (List Turn) → (List Vector) → Option ((List Turn) × (List Vector))
  | 0, _, _, _ => none
  | k + 1, x9, x10, x11 => ite2 ((decide (x9 < (a0.Bones.length : Int)))) (chk (0 ≤ x9 ∧ x9 < (a0.Bones.length : Int)) (ite2 ((decide (x9 > (0 : Int)))) (chk (0 ≤ ((a0.Bones.getD x9.toNat default).Parent) ∧ ((a0.Bones.getD x9.toNat default).Parent) < (x10.length : Int)) (chk (0 ≤ x9 ∧ x9 < (a1.Turns.length : Int)) ((impl_MulTurns K (x10.getD (((a0.Bones.getD x9.toNat default).Parent).toNat) default) (a1.Turns.getD x9.toNat default)).bind fun v17 => chk (0 ≤ x9 ∧ x9 < (x10.length : Int)) (chk (0 ≤ ((a0.Bones.getD x9.toNat default).Parent) ∧ ((a0.Bones.getD x9.toNat default).Parent) < (x11.length : Int)) (chk (0 ≤ ((a0.Bones.getD x9.toNat default).Parent) ∧ ((a0.Bones.getD x9.toNat default).Parent) < ((x10.set x9.toNat v17).length : Int)) ((impl_RotateBy K ((x10.set x9.toNat v17).getD (((a0.Bones.getD x9.toNat default).Parent).toNat) default) ((a0.Bones.getD x9.toNat default).Offset)).bind fun v22 => (impl_AddVectors K (x11.getD (((a0.Bones.getD x9.toNat default).Parent).toNat) default) v22).bind fun v24 => chk (0 ≤ x9 ∧ x9 < (x11.length : Int)) (impl_Skeleton_world_l1 K a0 a1 k (IntKind.i64.wrap (x9 + (1 : Int))) (x10.set x9.toNat v17) (x11.set x9.toNat v24)))))))) (impl_Skeleton_world_l1 K a0 a1 k (IntKind.i64.wrap (x9 + (1 : Int))) x10 x11))) (some (x10, x11))

def impl_Skeleton_world (K : Nat) (a0 : Skeleton) (a1 : Pose) : Option ((List Turn) × (List Vector)) :=
  chk (0 ≤ (a0.Bones.length : Int) ∧ (a0.Bones.length : Int).toNat * 16 ≤ 140737488355328) (chk (0 ≤ (a0.Bones.length : Int) ∧ (a0.Bones.length : Int).toNat * 12 ≤ 140737488355328) (chk (0 ≤ (0 : Int) ∧ (0 : Int) < (a1.Turns.length : Int)) (chk (0 ≤ (0 : Int) ∧ (0 : Int) < ((List.replicate (a0.Bones.length : Int).toNat (default : Turn)).length : Int)) (chk (0 ≤ (0 : Int) ∧ (0 : Int) < ((List.replicate (a0.Bones.length : Int).toNat (default : Vector)).length : Int)) (impl_Skeleton_world_l1 K a0 a1 K (0 : Int) ((List.replicate (a0.Bones.length : Int).toNat (default : Turn)).set ((0 : Int).toNat) (a1.Turns.getD ((0 : Int).toNat) default)) ((List.replicate (a0.Bones.length : Int).toNat (default : Vector)).set ((0 : Int).toNat) a1.Root))))))

theorem ok_impl_Skeleton_world (K : Nat) (a0 : Skeleton) (a1 : Pose) (o : ((List Turn) × (List Vector))) (h : impl_Skeleton_world K a0 a1 = some o) : CallOK Try.prog 31 [.one (pl 1 cs_Skeleton a0), .agg (cs_Pose a1)] [.one (sl 4 cs_Turn o.1), .one (sl 3 cs_Vector o.2)] := by
  refine callOK_of_AW Try.func31 rfl (by kernel_rfl) (Nat.le_of_ble_eq_true (by kernel_rfl)) ?_
  intro w0
  unfold impl_Skeleton_world at h
  refine AW.sA ⟨[(0, (vc (pl 1 cs_Skeleton a0))), (3, (vp 1 0))], [(1, (.box [(cF a1.Root.X), (cF a1.Root.Y), (cF a1.Root.Z), (.c (sl 4 cs_Turn a1.Turns))]))]⟩ (Tt ∧ T2 Tt) [.box 1] [0, 3] [1] ⟨tr, tr, tr, tr⟩ ?_
  refine AW.seq ?_
  obtain ⟨c1, h⟩ := chk_some h
  obtain ⟨c2, h⟩ := chk_some h
  refine AW.dA ⟨[(0, (vc (pl 1 cs_Skeleton a0))), (3, (vp 1 0)), (6, (.v (.one (.arr 2)))), (7, (.v (.one (.arr 3))))], [(1, (.box [(cF a1.Root.X), (cF a1.Root.Y), (cF a1.Root.Z), (.c (sl 4 cs_Turn a1.Turns))])), (2, (.arr false (List.replicate (a0.Bones.length : Int).toNat (default : Turn)).length 4 (gl cs_Turn (List.replicate (a0.Bones.length : Int).toNat (default : Turn))))), (3, (.arr false (List.replicate (a0.Bones.length : Int).toNat (default : Vector)).length 3 (gl cs_Vector (List.replicate (a0.Bones.length : Int).toNat (default : Vector)))))]⟩ ((Tt ∧ T4 ((0 ≤ (a0.Bones.length : Int) ∧ (a0.Bones.length : Int) = (a0.Bones.length : Int) ∧ (((List.replicate (a0.Bones.length : Int).toNat (default : Turn)).length : Nat) : Int) = (a0.Bones.length : Int) ∧ (List.replicate (a0.Bones.length : Int).toNat (default : Turn)).length * 16 ≤ 140737488355328 ∧ ∀ i, i < (List.replicate (a0.Bones.length : Int).toNat (default : Turn)).length → zeroRow (fun _ => none) [(cF (default : F32)), (cF (default : F32)), (cF (default : F32)), (cF (default : F32))] (gl cs_Turn (List.replicate (a0.Bones.length : Int).toNat (default : Turn)) i)) ∧ Tt ∧ T4 ((0 ≤ (a0.Bones.length : Int) ∧ (a0.Bones.length : Int) = (a0.Bones.length : Int) ∧ (((List.replicate (a0.Bones.length : Int).toNat (default : Vector)).length : Nat) : Int) = (a0.Bones.length : Int) ∧ (List.replicate (a0.Bones.length : Int).toNat (default : Vector)).length * 12 ≤ 140737488355328 ∧ ∀ i, i < (List.replicate (a0.Bones.length : Int).toNat (default : Vector)).length → zeroRow (fun _ => none) [(cF (default : F32)), (cF (default : F32)), (cF (default : F32))] (gl cs_Vector (List.replicate (a0.Bones.length : Int).toNat (default : Vector)) i)) ∧ T2 Tt))) ∧ (Tt)) 14 [.no, .no, .no, .no, .no, .objA 2 (List.replicate (a0.Bones.length : Int).toNat (default : Turn)).length (gl cs_Turn (List.replicate (a0.Bones.length : Int).toNat (default : Turn))), .no, .no, .no, .no, .no, .objA 3 (List.replicate (a0.Bones.length : Int).toNat (default : Vector)).length (gl cs_Vector (List.replicate (a0.Bones.length : Int).toNat (default : Vector)))] [0, 3, 6, 7] [1, 2, 3] ⟨⟨tr, tr, tr, tr, tr, ⟨c1.1, rfl, len_rep c1.1, rep_bytes c1.2, fun i hi => gl_zero (cs := cs_Turn) (zs := [(cF (default : F32)), (cF (default : F32)), (cF (default : F32)), (cF (default : F32))]) (n := (a0.Bones.length : Int).toNat) ⟨⟨rfl, tr⟩, ⟨rfl, tr⟩, ⟨rfl, tr⟩, ⟨rfl, tr⟩, tr⟩ i (rep_lt hi)⟩, tr, tr, tr, tr, tr, ⟨c2.1, rfl, len_rep c2.1, rep_bytes c2.2, fun i hi => gl_zero (cs := cs_Vector) (zs := [(cF (default : F32)), (cF (default : F32)), (cF (default : F32))]) (n := (a0.Bones.length : Int).toNat) ⟨⟨rfl, tr⟩, ⟨rfl, tr⟩, ⟨rfl, tr⟩, tr⟩ i (rep_lt hi)⟩, tr, tr, tr⟩, tr⟩ ?_
  refine thenQ_normal ?_
  refine AW.seq ?_
  obtain ⟨c3, h⟩ := chk_some h
  obtain ⟨c4, h⟩ := chk_some h
  obtain ⟨c5, h⟩ := chk_some h
  refine AW.post ?_
  refine AW.firstA (by kernel_rfl) [0, 1, 2, 6] [.no, .no, .no, .no, .no, .no, .no, .no, .no, .set (List.replicate (a0.Bones.length : Int).toNat (default : Turn)).length (gl cs_Turn ((List.replicate (a0.Bones.length : Int).toNat (default : Turn)).set ((0 : Int).toNat) (a1.Turns.getD ((0 : Int).toNat) default))) ((List.range 4).map fun j => (cs_Turn (a1.Turns.getD ((0 : Int).toNat) default)).getD (0 + j) .nilptr), .no, .set (List.replicate (a0.Bones.length : Int).toNat (default : Vector)).length (gl cs_Vector ((List.replicate (a0.Bones.length : Int).toNat (default : Vector)).set ((0 : Int).toNat) a1.Root)) ((List.range 3).map fun j => (cs_Vector a1.Root).getD (0 + j) .nilptr)] [0, 3, 6, 7] [1, 2, 3] (s' := ⟨[(0, (vc (pl 1 cs_Skeleton a0))), (3, (vp 1 0)), (6, (.v (.one (.arr 2)))), (7, (.v (.one (.arr 3))))], [(1, (.box [(cF a1.Root.X), (cF a1.Root.Y), (cF a1.Root.Z), (.c (sl 4 cs_Turn a1.Turns))])), (2, (.arr false (List.replicate (a0.Bones.length : Int).toNat (default : Turn)).length 4 (gl cs_Turn ((List.replicate (a0.Bones.length : Int).toNat (default : Turn)).set ((0 : Int).toNat) (a1.Turns.getD ((0 : Int).toNat) default))))), (3, (.arr false (List.replicate (a0.Bones.length : Int).toNat (default : Vector)).length 3 (gl cs_Vector ((List.replicate (a0.Bones.length : Int).toNat (default : Vector)).set ((0 : Int).toNat) a1.Root))))]⟩) (ob := (Zt14 ((⟨[(0, (vc (pl 1 cs_Skeleton a0))), (3, (vp 1 0)), (6, (.v (.one (.arr 2)))), (7, (.v (.one (.arr 3))))], [(1, (.box [(cF a1.Root.X), (cF a1.Root.Y), (cF a1.Root.Z), (.c (sl 4 cs_Turn a1.Turns))])), (2, (.arr false (List.replicate (a0.Bones.length : Int).toNat (default : Turn)).length 4 (gl cs_Turn ((List.replicate (a0.Bones.length : Int).toNat (default : Turn)).set ((0 : Int).toNat) (a1.Turns.getD ((0 : Int).toNat) default))))), (3, (.arr false (List.replicate (a0.Bones.length : Int).toNat (default : Vector)).length 3 (gl cs_Vector ((List.replicate (a0.Bones.length : Int).toNat (default : Vector)).set ((0 : Int).toNat) a1.Root))))]⟩ : St) = ⟨[(0, (vc (pl 1 cs_Skeleton a0))), (3, (vp 1 0)), (6, (.v (.one (.arr 2)))), (7, (.v (.one (.arr 3))))], [(1, (.box [(cF a1.Root.X), (cF a1.Root.Y), (cF a1.Root.Z), (.c (sl 4 cs_Turn a1.Turns))])), (2, (.arr false (List.replicate (a0.Bones.length : Int).toNat (default : Turn)).length 4 (gl cs_Turn ((List.replicate (a0.Bones.length : Int).toNat (default : Turn)).set ((0 : Int).toNat) (a1.Turns.getD ((0 : Int).toNat) default))))), (3, (.arr false (List.replicate (a0.Bones.length : Int).toNat (default : Vector)).length 3 (gl cs_Vector ((List.replicate (a0.Bones.length : Int).toNat (default : Vector)).set ((0 : Int).toNat) a1.Root))))]⟩) ((0 ≤ (0 : Int) ∧ (0 : Int) < (a1.Turns.length : Int))) ((0 ≤ (0 : Int) ∧ (0 : Int) < ((List.replicate (a0.Bones.length : Int).toNat (default : Turn)).length : Int))) (((List.replicate (a0.Bones.length : Int).toNat (default : Turn)).length = (List.replicate (a0.Bones.length : Int).toNat (default : Turn)).length ∧ SetOb (List.replicate (a0.Bones.length : Int).toNat (default : Turn)).length 4 ((0 : Int).toNat) 0 4 (gl cs_Turn (List.replicate (a0.Bones.length : Int).toNat (default : Turn))) (gl cs_Turn ((List.replicate (a0.Bones.length : Int).toNat (default : Turn)).set ((0 : Int).toNat) (a1.Turns.getD ((0 : Int).toNat) default))) ∧ ((List.range 4).map fun j => (cs_Turn (a1.Turns.getD ((0 : Int).toNat) default)).getD (0 + j) .nilptr) = ((List.range 4).map fun j => gl cs_Turn ((List.replicate (a0.Bones.length : Int).toNat (default : Turn)).set ((0 : Int).toNat) (a1.Turns.getD ((0 : Int).toNat) default)) ((0 : Int).toNat) (0 + j)) ∧ ((((.flt .f32 ((a1.Turns.getD ((0 : Int).toNat) default).W).bits) : C) = (.flt .f32 ((a1.Turns.getD ((0 : Int).toNat) default).W).bits) ∧ Tt) ∧ (((.flt .f32 ((a1.Turns.getD ((0 : Int).toNat) default).X).bits) : C) = (.flt .f32 ((a1.Turns.getD ((0 : Int).toNat) default).X).bits) ∧ Tt) ∧ (((.flt .f32 ((a1.Turns.getD ((0 : Int).toNat) default).Y).bits) : C) = (.flt .f32 ((a1.Turns.getD ((0 : Int).toNat) default).Y).bits) ∧ Tt) ∧ (((.flt .f32 ((a1.Turns.getD ((0 : Int).toNat) default).Z).bits) : C) = (.flt .f32 ((a1.Turns.getD ((0 : Int).toNat) default).Z).bits) ∧ Tt) ∧ Tt) ∧ (false = true → ∀ j, j < 4 → isSeq (gl cs_Turn (List.replicate (a0.Bones.length : Int).toNat (default : Turn)) ((0 : Int).toNat) (0 + j)) = false ∧ isSeq (gl cs_Turn ((List.replicate (a0.Bones.length : Int).toNat (default : Turn)).set ((0 : Int).toNat) (a1.Turns.getD ((0 : Int).toNat) default)) ((0 : Int).toNat) (0 + j)) = false))) ((0 ≤ (0 : Int) ∧ (0 : Int) < ((List.replicate (a0.Bones.length : Int).toNat (default : Vector)).length : Int))) (((List.replicate (a0.Bones.length : Int).toNat (default : Vector)).length = (List.replicate (a0.Bones.length : Int).toNat (default : Vector)).length ∧ SetOb (List.replicate (a0.Bones.length : Int).toNat (default : Vector)).length 3 ((0 : Int).toNat) 0 3 (gl cs_Vector (List.replicate (a0.Bones.length : Int).toNat (default : Vector))) (gl cs_Vector ((List.replicate (a0.Bones.length : Int).toNat (default : Vector)).set ((0 : Int).toNat) a1.Root)) ∧ ((List.range 3).map fun j => (cs_Vector a1.Root).getD (0 + j) .nilptr) = ((List.range 3).map fun j => gl cs_Vector ((List.replicate (a0.Bones.length : Int).toNat (default : Vector)).set ((0 : Int).toNat) a1.Root) ((0 : Int).toNat) (0 + j)) ∧ ((((.flt .f32 a1.Root.X.bits) : C) = (.flt .f32 a1.Root.X.bits) ∧ Tt) ∧ (((.flt .f32 a1.Root.Y.bits) : C) = (.flt .f32 a1.Root.Y.bits) ∧ Tt) ∧ (((.flt .f32 a1.Root.Z.bits) : C) = (.flt .f32 a1.Root.Z.bits) ∧ Tt) ∧ Tt) ∧ (false = true → ∀ j, j < 3 → isSeq (gl cs_Vector (List.replicate (a0.Bones.length : Int).toNat (default : Vector)) ((0 : Int).toNat) (0 + j)) = false ∧ isSeq (gl cs_Vector ((List.replicate (a0.Bones.length : Int).toNat (default : Vector)).set ((0 : Int).toNat) a1.Root) ((0 : Int).toNat) (0 + j)) = false))))) (by kernel_rfl) (zt14 rfl (c3) (c4) ⟨rfl, setN rfl gl_set, (gl_atp (ltN rfl c4)).symm, ⟨⟨rfl, tr⟩, ⟨rfl, tr⟩, ⟨rfl, tr⟩, ⟨rfl, tr⟩, tr⟩, (fun h => nomatch h)⟩ (c5) ⟨rfl, setN rfl gl_set, (gl_atp (ltN rfl c5)).symm, ⟨⟨rfl, tr⟩, ⟨rfl, tr⟩, ⟨rfl, tr⟩, tr⟩, (fun h => nomatch h)⟩) ?_
  refine ⟨⟨[(0, (vc (pl 1 cs_Skeleton a0))), (3, (vp 1 0)), (6, (.v (.one (.arr 2)))), (7, (.v (.one (.arr 3))))], [(1, (.box [(cF a1.Root.X), (cF a1.Root.Y), (cF a1.Root.Z), (.c (sl 4 cs_Turn a1.Turns))])), (2, (.arr false ((List.replicate (a0.Bones.length : Int).toNat (default : Turn)).set ((0 : Int).toNat) (a1.Turns.getD ((0 : Int).toNat) default)).length 4 (gl cs_Turn ((List.replicate (a0.Bones.length : Int).toNat (default : Turn)).set ((0 : Int).toNat) (a1.Turns.getD ((0 : Int).toNat) default))))), (3, (.arr false ((List.replicate (a0.Bones.length : Int).toNat (default : Vector)).set ((0 : Int).toNat) a1.Root).length 3 (gl cs_Vector ((List.replicate (a0.Bones.length : Int).toNat (default : Vector)).set ((0 : Int).toNat) a1.Root))))]⟩, subEq (by simp only [List.length_set]), ?_⟩
  refine thenQ_normal ?_
  refine AW.seq ?_
  refine AW.sA ⟨[(3, (vp 1 0)), (6, (.v (.one (.arr 2)))), (7, (.v (.one (.arr 3)))), (35, (vc (sl 4 cs_Bone a0.Bones))), (36, (vI (a0.Bones.length : Int))), (37, (vI (0 : Int)))], [(1, (.box [(cF a1.Root.X), (cF a1.Root.Y), (cF a1.Root.Z), (.c (sl 4 cs_Turn a1.Turns))])), (2, (.arr false ((List.replicate (a0.Bones.length : Int).toNat (default : Turn)).set ((0 : Int).toNat) (a1.Turns.getD ((0 : Int).toNat) default)).length 4 (gl cs_Turn ((List.replicate (a0.Bones.length : Int).toNat (default : Turn)).set ((0 : Int).toNat) (a1.Turns.getD ((0 : Int).toNat) default))))), (3, (.arr false ((List.replicate (a0.Bones.length : Int).toNat (default : Vector)).set ((0 : Int).toNat) a1.Root).length 3 (gl cs_Vector ((List.replicate (a0.Bones.length : Int).toNat (default : Vector)).set ((0 : Int).toNat) a1.Root))))]⟩ (T2 (T4 Tt)) [] [3, 6, 7, 35, 36, 37] [1, 2, 3] ⟨tr, tr, tr, tr, tr, tr, tr⟩ ?_
  refine AW.block ?_
  refine AW.loopQ (σ := Nat × Int × (List Turn) × (List Vector)) (fun p => ⟨[(3, (vp 1 0)), (6, (.v (.one (.arr 2)))), (7, (.v (.one (.arr 3)))), (35, (vc (sl 4 cs_Bone a0.Bones))), (36, (vI (a0.Bones.length : Int))), (37, (vI p.2.1))], [(1, (.box [(cF a1.Root.X), (cF a1.Root.Y), (cF a1.Root.Z), (.c (sl 4 cs_Turn a1.Turns))])), (2, (.arr false p.2.2.1.length 4 (gl cs_Turn p.2.2.1))), (3, (.arr false p.2.2.2.length 3 (gl cs_Vector p.2.2.2)))]⟩) (fun p => impl_Skeleton_world_l1 K a0 a1 p.1 p.2.1 p.2.2.1 p.2.2.2 = some o) (fun p => p.1) (K, (0 : Int), ((List.replicate (a0.Bones.length : Int).toNat (default : Turn)).set ((0 : Int).toNat) (a1.Turns.getD ((0 : Int).toNat) default)), ((List.replicate (a0.Bones.length : Int).toNat (default : Vector)).set ((0 : Int).toNat) a1.Root)) h ?_
  clear h
  rintro ⟨k, x9, x10, x11⟩ h
  replace h : impl_Skeleton_world_l1 K a0 a1 k x9 x10 x11 = some o := h
  show AW _ _ (⟨[(3, (vp 1 0)), (6, (.v (.one (.arr 2)))), (7, (.v (.one (.arr 3)))), (35, (vc (sl 4 cs_Bone a0.Bones))), (36, (vI (a0.Bones.length : Int))), (37, (vI x9))], [(1, (.box [(cF a1.Root.X), (cF a1.Root.Y), (cF a1.Root.Z), (.c (sl 4 cs_Turn a1.Turns))])), (2, (.arr false x10.length 4 (gl cs_Turn x10))), (3, (.arr false x11.length 3 (gl cs_Vector x11)))]⟩ : St) _
  obtain _ | k := k
  · rw [impl_Skeleton_world_l1] at h; cases h
  rw [impl_Skeleton_world_l1] at h
  refine AW.sA ⟨[(3, (vp 1 0)), (6, (.v (.one (.arr 2)))), (7, (.v (.one (.arr 3)))), (35, (vc (sl 4 cs_Bone a0.Bones))), (36, (vI (a0.Bones.length : Int))), (37, (vI x9)), (38, (vB (decide (x9 < (a0.Bones.length : Int)))))], [(1, (.box [(cF a1.Root.X), (cF a1.Root.Y), (cF a1.Root.Z), (.c (sl 4 cs_Turn a1.Turns))])), (2, (.arr false x10.length 4 (gl cs_Turn x10))), (3, (.arr false x11.length 3 (gl cs_Vector x11)))]⟩ (Tt ∧ Tt) [] [3, 6, 7, 35, 36, 37, 38] [1, 2, 3] ⟨tr, tr⟩ ?_
  refine AW.seq ?_
  rcases ite2_cases h with ⟨b12, h⟩ | ⟨b12, h⟩
  · refine AW.cond_t rfl b12 ?_
    refine AW.skip ?_
    refine thenQ_normal ?_
    refine AW.seq ?_
    refine AW.block ?_
    refine AW.seq ?_
    obtain ⟨c13, h⟩ := chk_some h
    refine AW.tC (Tt ∧ (0 ≤ x9 ∧ x9 < (a0.Bones.length : Int)) ∧ T4 Tt) [.no, .no, .no, .box 6] [3, 6, 7, 8, 9, 35, 36, 37] [1, 2, 3, 6] ⟨tr, c13, tr, tr, tr, tr, tr⟩ ?_
    refine AW.sA ⟨[(3, (vp 1 0)), (6, (.v (.one (.arr 2)))), (7, (.v (.one (.arr 3)))), (8, (vI x9)), (9, (vp 6 0)), (35, (vc (sl 4 cs_Bone a0.Bones))), (36, (vI (a0.Bones.length : Int))), (37, (vI x9)), (43, (vB (decide (x9 > (0 : Int)))))], [(1, (.box [(cF a1.Root.X), (cF a1.Root.Y), (cF a1.Root.Z), (.c (sl 4 cs_Turn a1.Turns))])), (2, (.arr false x10.length 4 (gl cs_Turn x10))), (3, (.arr false x11.length 3 (gl cs_Vector x11))), (6, (.box [(cI ((a0.Bones.getD x9.toNat default).Parent)), (cF (((a0.Bones.getD x9.toNat default).Offset).X)), (cF (((a0.Bones.getD x9.toNat default).Offset).Y)), (cF (((a0.Bones.getD x9.toNat default).Offset).Z))]))]⟩ (T2 Tt) [] [3, 6, 7, 8, 9, 35, 36, 37, 43] [1, 2, 3, 6] ⟨tr, tr, tr⟩ ?_
    rcases ite2_cases h with ⟨b14, h⟩ | ⟨b14, h⟩
    · refine AW.cond_t rfl b14 ?_
      refine AW.seq ?_
      obtain ⟨c15, h⟩ := chk_some h
      obtain ⟨c16, h⟩ := chk_some h
      obtain ⟨v17, e18, h⟩ := bind_some h
      obtain ⟨c19, h⟩ := chk_some h
      refine AW.dA ⟨[(3, (vp 1 0)), (6, (.v (.one (.arr 2)))), (7, (.v (.one (.arr 3)))), (8, (vI x9)), (9, (vp 6 0)), (35, (vc (sl 4 cs_Bone a0.Bones))), (36, (vI (a0.Bones.length : Int))), (37, (vI x9))], [(1, (.box [(cF a1.Root.X), (cF a1.Root.Y), (cF a1.Root.Z), (.c (sl 4 cs_Turn a1.Turns))])), (2, (.arr false (x10.set x9.toNat v17).length 4 (gl cs_Turn (x10.set x9.toNat v17)))), (3, (.arr false x11.length 3 (gl cs_Vector x11))), (6, (.box [(cI ((a0.Bones.getD x9.toNat default).Parent)), (cF (((a0.Bones.getD x9.toNat default).Offset).X)), (cF (((a0.Bones.getD x9.toNat default).Offset).Y)), (cF (((a0.Bones.getD x9.toNat default).Offset).Z))]))]⟩ ((Tt ∧ T4 ((0 ≤ ((a0.Bones.getD x9.toNat default).Parent) ∧ ((a0.Bones.getD x9.toNat default).Parent) < (x10.length : Int)) ∧ T4 ((0 ≤ x9 ∧ x9 < (a1.Turns.length : Int)) ∧ Tt ∧ ((((((.flt .f32 ((x10.getD (((a0.Bones.getD x9.toNat default).Parent).toNat) default).W).bits) : C) = (.flt .f32 ((x10.getD (((a0.Bones.getD x9.toNat default).Parent).toNat) default).W).bits)) ∧ (((.flt .f32 ((x10.getD (((a0.Bones.getD x9.toNat default).Parent).toNat) default).X).bits) : C) = (.flt .f32 ((x10.getD (((a0.Bones.getD x9.toNat default).Parent).toNat) default).X).bits)) ∧ (((.flt .f32 ((x10.getD (((a0.Bones.getD x9.toNat default).Parent).toNat) default).Y).bits) : C) = (.flt .f32 ((x10.getD (((a0.Bones.getD x9.toNat default).Parent).toNat) default).Y).bits)) ∧ (((.flt .f32 ((x10.getD (((a0.Bones.getD x9.toNat default).Parent).toNat) default).Z).bits) : C) = (.flt .f32 ((x10.getD (((a0.Bones.getD x9.toNat default).Parent).toNat) default).Z).bits)) ∧ Tt) ∧ ((eF ((a1.Turns.getD x9.toNat default).W)) ∧ (eF ((a1.Turns.getD x9.toNat default).X)) ∧ (eF ((a1.Turns.getD x9.toNat default).Y)) ∧ (eF ((a1.Turns.getD x9.toNat default).Z)) ∧ Tt) ∧ Tt) ∧ CallOK Try.prog 47 [.agg (cs_Turn (x10.getD (((a0.Bones.getD x9.toNat default).Parent).toNat) default)), .agg (cs_Turn (a1.Turns.getD x9.toNat default))] [.agg (cs_Turn v17)]) ∧ (0 ≤ x9 ∧ x9 < (x10.length : Int)) ∧ Tt))) ∧ (((x10.set x9.toNat v17).length = x10.length ∧ SetOb x10.length 4 x9.toNat 0 4 (gl cs_Turn x10) (gl cs_Turn (x10.set x9.toNat v17)) ∧ ((List.range 4).map fun j => (cs_Turn v17).getD (0 + j) .nilptr) = ((List.range 4).map fun j => gl cs_Turn (x10.set x9.toNat v17) x9.toNat (0 + j)) ∧ ((((.flt .f32 v17.W.bits) : C) = (.flt .f32 v17.W.bits) ∧ Tt) ∧ (((.flt .f32 v17.X.bits) : C) = (.flt .f32 v17.X.bits) ∧ Tt) ∧ (((.flt .f32 v17.Y.bits) : C) = (.flt .f32 v17.Y.bits) ∧ Tt) ∧ (((.flt .f32 v17.Z.bits) : C) = (.flt .f32 v17.Z.bits) ∧ Tt) ∧ Tt) ∧ (false = true → ∀ j, j < 4 → isSeq (gl cs_Turn x10 x9.toNat (0 + j)) = false ∧ isSeq (gl cs_Turn (x10.set x9.toNat v17) x9.toNat (0 + j)) = false)) ∧ Tt)) 14 [.no, .no, .no, .no, .no, .no, .no, .no, .no, .no, .no, .no, .call [.agg (cs_Turn (x10.getD (((a0.Bones.getD x9.toNat default).Parent).toNat) default)), .agg (cs_Turn (a1.Turns.getD x9.toNat default))] [.agg (cs_Turn v17)] [[.view, .view, .view, .view]], .no, .set (x10.set x9.toNat v17).length (gl cs_Turn (x10.set x9.toNat v17)) ((List.range 4).map fun j => (cs_Turn v17).getD (0 + j) .nilptr)] [3, 6, 7, 8, 9, 35, 36, 37] [1, 2, 3, 6] ⟨⟨tr, tr, tr, tr, tr, c15, tr, tr, tr, tr, c16, tr, ⟨⟨⟨rfl, rfl, rfl, rfl, tr⟩, ⟨rfl, rfl, rfl, rfl, tr⟩, tr⟩, ok_impl_MulTurns K (x10.getD (((a0.Bones.getD x9.toNat default).Parent).toNat) default) (a1.Turns.getD x9.toNat default) v17 e18⟩, c19, tr⟩, ⟨⟨List.length_set, gl_set, (gl_atp (lt_of_bound c19)).symm, ⟨⟨rfl, tr⟩, ⟨rfl, tr⟩, ⟨rfl, tr⟩, ⟨rfl, tr⟩, tr⟩, (fun h => nomatch h)⟩, tr⟩⟩ ?_
      refine thenQ_normal ?_
      obtain ⟨c20, h⟩ := chk_some h
      obtain ⟨c21, h⟩ := chk_some h
      obtain ⟨v22, e23, h⟩ := bind_some h
      obtain ⟨v24, e25, h⟩ := bind_some h
      obtain ⟨c26, h⟩ := chk_some h
      refine AW.dA ⟨[(3, (vp 1 0)), (6, (.v (.one (.arr 2)))), (7, (.v (.one (.arr 3)))), (35, (vc (sl 4 cs_Bone a0.Bones))), (36, (vI (a0.Bones.length : Int))), (37, (vI x9))], [(1, (.box [(cF a1.Root.X), (cF a1.Root.Y), (cF a1.Root.Z), (.c (sl 4 cs_Turn a1.Turns))])), (2, (.arr false (x10.set x9.toNat v17).length 4 (gl cs_Turn (x10.set x9.toNat v17)))), (3, (.arr false (x11.set x9.toNat v24).length 3 (gl cs_Vector (x11.set x9.toNat v24))))]⟩ ((Tt ∧ T4 ((0 ≤ ((a0.Bones.getD x9.toNat default).Parent) ∧ ((a0.Bones.getD x9.toNat default).Parent) < (x11.length : Int)) ∧ T4 ((0 ≤ ((a0.Bones.getD x9.toNat default).Parent) ∧ ((a0.Bones.getD x9.toNat default).Parent) < ((x10.set x9.toNat v17).length : Int)) ∧ Tt ∧ T2 (((((((.flt .f32 (((x10.set x9.toNat v17).getD (((a0.Bones.getD x9.toNat default).Parent).toNat) default).W).bits) : C) = (.flt .f32 (((x10.set x9.toNat v17).getD (((a0.Bones.getD x9.toNat default).Parent).toNat) default).W).bits)) ∧ (((.flt .f32 (((x10.set x9.toNat v17).getD (((a0.Bones.getD x9.toNat default).Parent).toNat) default).X).bits) : C) = (.flt .f32 (((x10.set x9.toNat v17).getD (((a0.Bones.getD x9.toNat default).Parent).toNat) default).X).bits)) ∧ (((.flt .f32 (((x10.set x9.toNat v17).getD (((a0.Bones.getD x9.toNat default).Parent).toNat) default).Y).bits) : C) = (.flt .f32 (((x10.set x9.toNat v17).getD (((a0.Bones.getD x9.toNat default).Parent).toNat) default).Y).bits)) ∧ (((.flt .f32 (((x10.set x9.toNat v17).getD (((a0.Bones.getD x9.toNat default).Parent).toNat) default).Z).bits) : C) = (.flt .f32 (((x10.set x9.toNat v17).getD (((a0.Bones.getD x9.toNat default).Parent).toNat) default).Z).bits)) ∧ Tt) ∧ ((eF (((a0.Bones.getD x9.toNat default).Offset).X)) ∧ (eF (((a0.Bones.getD x9.toNat default).Offset).Y)) ∧ (eF (((a0.Bones.getD x9.toNat default).Offset).Z)) ∧ Tt) ∧ Tt) ∧ CallOK Try.prog 48 [.agg (cs_Turn ((x10.set x9.toNat v17).getD (((a0.Bones.getD x9.toNat default).Parent).toNat) default)), .agg (cs_Vector ((a0.Bones.getD x9.toNat default).Offset))] [.agg (cs_Vector v22)]) ∧ ((((((.flt .f32 ((x11.getD (((a0.Bones.getD x9.toNat default).Parent).toNat) default).X).bits) : C) = (.flt .f32 ((x11.getD (((a0.Bones.getD x9.toNat default).Parent).toNat) default).X).bits)) ∧ (((.flt .f32 ((x11.getD (((a0.Bones.getD x9.toNat default).Parent).toNat) default).Y).bits) : C) = (.flt .f32 ((x11.getD (((a0.Bones.getD x9.toNat default).Parent).toNat) default).Y).bits)) ∧ (((.flt .f32 ((x11.getD (((a0.Bones.getD x9.toNat default).Parent).toNat) default).Z).bits) : C) = (.flt .f32 ((x11.getD (((a0.Bones.getD x9.toNat default).Parent).toNat) default).Z).bits)) ∧ Tt) ∧ ((eF v22.X) ∧ (eF v22.Y) ∧ (eF v22.Z) ∧ Tt) ∧ Tt) ∧ CallOK Try.prog 36 [.agg (cs_Vector (x11.getD (((a0.Bones.getD x9.toNat default).Parent).toNat) default)), .agg (cs_Vector v22)] [.agg (cs_Vector v24)]) ∧ (0 ≤ x9 ∧ x9 < (x11.length : Int)) ∧ Tt)))) ∧ (((x11.set x9.toNat v24).length = x11.length ∧ SetOb x11.length 3 x9.toNat 0 3 (gl cs_Vector x11) (gl cs_Vector (x11.set x9.toNat v24)) ∧ ((List.range 3).map fun j => (cs_Vector v24).getD (0 + j) .nilptr) = ((List.range 3).map fun j => gl cs_Vector (x11.set x9.toNat v24) x9.toNat (0 + j)) ∧ ((((.flt .f32 v24.X.bits) : C) = (.flt .f32 v24.X.bits) ∧ Tt) ∧ (((.flt .f32 v24.Y.bits) : C) = (.flt .f32 v24.Y.bits) ∧ Tt) ∧ (((.flt .f32 v24.Z.bits) : C) = (.flt .f32 v24.Z.bits) ∧ Tt) ∧ Tt) ∧ (false = true → ∀ j, j < 3 → isSeq (gl cs_Vector x11 x9.toNat (0 + j)) = false ∧ isSeq (gl cs_Vector (x11.set x9.toNat v24) x9.toNat (0 + j)) = false)) ∧ Tt)) 17 [.no, .no, .no, .no, .no, .no, .no, .no, .no, .no, .no, .no, .no, .no, .call [.agg (cs_Turn ((x10.set x9.toNat v17).getD (((a0.Bones.getD x9.toNat default).Parent).toNat) default)), .agg (cs_Vector ((a0.Bones.getD x9.toNat default).Offset))] [.agg (cs_Vector v22)] [[.view, .view, .view]], .call [.agg (cs_Vector (x11.getD (((a0.Bones.getD x9.toNat default).Parent).toNat) default)), .agg (cs_Vector v22)] [.agg (cs_Vector v24)] [[.view, .view, .view]], .no, .set (x11.set x9.toNat v24).length (gl cs_Vector (x11.set x9.toNat v24)) ((List.range 3).map fun j => (cs_Vector v24).getD (0 + j) .nilptr)] [3, 6, 7, 35, 36, 37] [1, 2, 3] ⟨⟨tr, tr, tr, tr, tr, c20, tr, tr, tr, tr, c21, tr, tr, tr, ⟨⟨⟨rfl, rfl, rfl, rfl, tr⟩, ⟨rfl, rfl, rfl, tr⟩, tr⟩, ok_impl_RotateBy K ((x10.set x9.toNat v17).getD (((a0.Bones.getD x9.toNat default).Parent).toNat) default) ((a0.Bones.getD x9.toNat default).Offset) v22 e23⟩, ⟨⟨⟨rfl, rfl, rfl, tr⟩, ⟨rfl, rfl, rfl, tr⟩, tr⟩, ok_impl_AddVectors K (x11.getD (((a0.Bones.getD x9.toNat default).Parent).toNat) default) v22 v24 e25⟩, c26, tr⟩, ⟨⟨List.length_set, gl_set, (gl_atp (lt_of_bound c26)).symm, ⟨⟨rfl, tr⟩, ⟨rfl, tr⟩, ⟨rfl, tr⟩, tr⟩, (fun h => nomatch h)⟩, tr⟩⟩ ?_
      refine blockQ_normal ?_
      refine thenQ_normal ?_
      refine AW.rA ⟨[(3, (vp 1 0)), (6, (.v (.one (.arr 2)))), (7, (.v (.one (.arr 3)))), (35, (vc (sl 4 cs_Bone a0.Bones))), (36, (vI (a0.Bones.length : Int))), (37, (vI (IntKind.i64.wrap (x9 + (1 : Int)))))], [(1, (.box [(cF a1.Root.X), (cF a1.Root.Y), (cF a1.Root.Z), (.c (sl 4 cs_Turn a1.Turns))])), (2, (.arr false (x10.set x9.toNat v17).length 4 (gl cs_Turn (x10.set x9.toNat v17)))), (3, (.arr false (x11.set x9.toNat v24).length 3 (gl cs_Vector (x11.set x9.toNat v24))))]⟩ (T2 Tt) [] [3, 6, 7, 35, 36, 37] [1, 2, 3] ⟨tr, tr, tr⟩ ?_
      exact loopQ_normal (k, (IntKind.i64.wrap (x9 + (1 : Int))), (x10.set x9.toNat v17), (x11.set x9.toNat v24)) h (Nat.lt_succ_self k) (Sub.keep [3, 6, 7, 35, 36, 37] [1, 2, 3] (by kernel_rfl) (by kernel_rfl))
    · refine AW.cond_f rfl b14 ?_
      refine AW.skip ?_
      refine blockQ_normal ?_
      refine thenQ_normal ?_
      refine AW.rA ⟨[(3, (vp 1 0)), (6, (.v (.one (.arr 2)))), (7, (.v (.one (.arr 3)))), (35, (vc (sl 4 cs_Bone a0.Bones))), (36, (vI (a0.Bones.length : Int))), (37, (vI (IntKind.i64.wrap (x9 + (1 : Int)))))], [(1, (.box [(cF a1.Root.X), (cF a1.Root.Y), (cF a1.Root.Z), (.c (sl 4 cs_Turn a1.Turns))])), (2, (.arr false x10.length 4 (gl cs_Turn x10))), (3, (.arr false x11.length 3 (gl cs_Vector x11)))]⟩ (T2 Tt) [] [3, 6, 7, 35, 36, 37] [1, 2, 3] ⟨tr, tr, tr⟩ ?_
      exact loopQ_normal (k, (IntKind.i64.wrap (x9 + (1 : Int))), x10, x11) h (Nat.lt_succ_self k) (Sub.keep [3, 6, 7, 35, 36, 37] [1, 2, 3] (by kernel_rfl) (by kernel_rfl))
  · refine AW.cond_f rfl b12 ?_
    refine AW.exit ?_
    refine thenQ_exit ?_
    refine loopQ_exit ?_
    refine blockQ_exit ?_
    refine thenQ_normal ?_
    refine AW.sA ⟨[(4, (.v (.one (.arr 2)))), (5, (.v (.one (.arr 3))))], [(2, (.arr false x10.length 4 (gl cs_Turn x10))), (3, (.arr false x11.length 3 (gl cs_Vector x11)))]⟩ (T4 Tt) [] [4, 5] [2, 3] ⟨tr, tr, tr, tr, tr⟩ ?_
    refine AW.ret ?_
    replace h := some_eq h
    subst h
    exact ⟨.inr rfl, retOK_of [(.one (.arr 2)), (.one (.arr 3))] (by kernel_rfl) ⟨rfl, rfl, tr⟩ (of_decide_eq_true (by kernel_rfl))⟩

/-! impl.LessVectors -/
def impl_LessVectors (_K : Nat) (a0 : Vector) (a1 : Vector) : Option (Vector) :=
  some (Vector.mk (a0.X.sub a1.X) (a0.Y.sub a1.Y) (a0.Z.sub a1.Z))

theorem ok_impl_LessVectors (K : Nat) (a0 : Vector) (a1 : Vector) (o : (Vector)) (h : impl_LessVectors K a0 a1 = some o) : CallOK Try.prog 33 [.agg (cs_Vector a0), .agg (cs_Vector a1)] [.agg (cs_Vector o)] := by
  refine callOK_of_AW Try.func33 rfl (by kernel_rfl) (Nat.le_of_ble_eq_true (by kernel_rfl)) ?_
  intro w0
  unfold impl_LessVectors at h
  refine AW.sC (Tt ∧ T2 Tt) [.box 1, .box 2, .box 3] [2, 3, 4] [1, 2, 3] ⟨tr, tr, tr, tr⟩ ?_
  refine AW.sA ⟨[(4, (vp 3 0))], [(3, (.box [(cF (a0.X.sub a1.X)), (cF (a0.Y.sub a1.Y)), (cF (a0.Z.sub a1.Z))]))]⟩ (Tt ∧ T4 (T4 (T4 (T4 Tt)))) [] [4] [3] ⟨tr, tr, tr, tr, tr, tr, tr, tr, tr, tr, tr, tr, tr, tr, tr, tr, tr, tr⟩ ?_
  refine AW.ret ?_
  replace h := some_eq h
  subst h
  exact ⟨.inr rfl, retOK_of [(.agg [(cF (a0.X.sub a1.X)), (cF (a0.Y.sub a1.Y)), (cF (a0.Z.sub a1.Z))])] (by kernel_rfl) ⟨⟨⟨rfl, tr⟩, ⟨rfl, tr⟩, ⟨rfl, tr⟩, tr⟩, tr⟩ (of_decide_eq_true (by kernel_rfl))⟩

/-! impl.InnerOf -/
def impl_InnerOf (_K : Nat) (a0 : Vector) (a1 : Vector) : Option (F32) :=
  some (((a0.X.mul a1.X).add (a0.Y.mul a1.Y)).add (a0.Z.mul a1.Z))

theorem ok_impl_InnerOf (K : Nat) (a0 : Vector) (a1 : Vector) (o : (F32)) (h : impl_InnerOf K a0 a1 = some o) : CallOK Try.prog 50 [.agg (cs_Vector a0), .agg (cs_Vector a1)] [.one (.flt .f32 o.bits)] := by
  refine callOK_of_AW Try.func50 rfl (by kernel_rfl) (Nat.le_of_ble_eq_true (by kernel_rfl)) ?_
  intro w0
  unfold impl_InnerOf at h
  refine AW.sC (Tt ∧ T2 Tt) [.box 1, .box 2] [2, 3] [1, 2] ⟨tr, tr, tr, tr⟩ ?_
  refine AW.sA ⟨[(4, (vc (.flt .f32 (((a0.X.mul a1.X).add (a0.Y.mul a1.Y)).add (a0.Z.mul a1.Z)).bits)))], []⟩ (T2 (T4 (T4 (T4 (T4 Tt))))) [] [4] [] ⟨tr, tr, tr, tr, tr, tr, tr, tr, tr, tr, tr, tr, tr, tr, tr, tr, tr, tr, tr⟩ ?_
  refine AW.ret ?_
  replace h := some_eq h
  subst h
  exact ⟨.inr rfl, retOK_of [(.one (cF (((a0.X.mul a1.X).add (a0.Y.mul a1.Y)).add (a0.Z.mul a1.Z))))] (by kernel_rfl) ⟨⟨rfl, tr⟩, tr⟩ (of_decide_eq_true (by kernel_rfl))⟩

/-! math.sqrt -/
def math_sqrt (_K : Nat) (a0 : F64) : Option (F64) :=
  some a0.sqrt

theorem ok_math_sqrt (K : Nat) (a0 : F64) (o : F64) (h : math_sqrt K a0 = some o) : CallOK Try.prog 65 [.one (.flt .f64 a0.bits)] [.one (.flt .f64 o.bits)] :=
  hand_sqrt (e := Extern.MathSqrt.sqrt) Try.func65 (by kernel_rfl) (by kernel_rfl) (by kernel_rfl) (by kernel_rfl) (fun _ => rfl) a0 o h

/-! math.Sqrt -/
def math_Sqrt (K : Nat) (a0 : F64) : Option (F64) :=
  (math_sqrt K a0).bind fun v1 => some v1

theorem ok_math_Sqrt (K : Nat) (a0 : F64) (o : (F64)) (h : math_Sqrt K a0 = some o) : CallOK Try.prog 59 [.one (.flt .f64 a0.bits)] [.one (.flt .f64 o.bits)] := by
  refine callOK_of_AW Try.func59 rfl (by kernel_rfl) (Nat.le_of_ble_eq_true (by kernel_rfl)) ?_
  intro w0
  unfold math_Sqrt at h
  refine AW.sC (Tt ∧ Tt) [] [0] [] ⟨tr, tr⟩ ?_
  refine AW.seq ?_
  obtain ⟨v1, e2, h⟩ := bind_some h
  refine AW.tA ⟨[(2, (vc (.flt .f64 v1.bits)))], []⟩ (Tt ∧ (((Eqc (.flt .f64 a0.bits)) ∧ Tt) ∧ CallOK Try.prog 65 [.one (.flt .f64 a0.bits)] [.one (.flt .f64 v1.bits)]) ∧ Tt ∧ Tt) [.no, .call [.one (.flt .f64 a0.bits)] [.one (.flt .f64 v1.bits)] [[.view]]] [2] [] ⟨tr, ⟨⟨rfl, tr⟩, ok_math_sqrt K a0 v1 e2⟩, tr, tr⟩ ?_
  refine AW.ret ?_
  replace h := some_eq h
  subst h
  exact ⟨.inr rfl, retOK_of [(.one (.c (.flt .f64 v1.bits)))] (by kernel_rfl) ⟨⟨rfl, tr⟩, tr⟩ (of_decide_eq_true (by kernel_rfl))⟩

/-! impl.RootNumber -/
def impl_RootNumber (K : Nat) (a0 : F32) : Option (F32) :=
  (math_Sqrt K (Fl.cv .f32 .f64 a0)).bind fun v1 => chk ((convBits .f64 v1.bits .f32).isSome = true) (some (Fl.cv .f64 .f32 v1))

theorem ok_impl_RootNumber (K : Nat) (a0 : F32) (o : (F32)) (h : impl_RootNumber K a0 = some o) : CallOK Try.prog 49 [.one (.flt .f32 a0.bits)] [.one (.flt .f32 o.bits)] := by
  refine callOK_of_AW Try.func49 rfl (by kernel_rfl) (Nat.le_of_ble_eq_true (by kernel_rfl)) ?_
  intro w0
  unfold impl_RootNumber at h
  refine AW.sC (Tt ∧ Tt) [] [0] [] ⟨tr, tr⟩ ?_
  refine AW.seq ?_
  obtain ⟨v1, e2, h⟩ := bind_some h
  obtain ⟨c3, h⟩ := chk_some h
  refine AW.tA ⟨[(2, (vc (.flt .f32 (Fl.cv .f64 .f32 v1).bits)))], []⟩ (Tt ∧ ((convBits .f32 a0.bits .f64).isSome = true) ∧ (((Eqc (.flt .f64 (Fl.cv .f32 .f64 a0).bits)) ∧ Tt) ∧ CallOK Try.prog 59 [.one (.flt .f64 (Fl.cv .f32 .f64 a0).bits)] [.one (.flt .f64 v1.bits)]) ∧ ((convBits .f64 v1.bits .f32).isSome = true) ∧ Tt ∧ Tt) [.no, .no, .call [.one (.flt .f64 (Fl.cv .f32 .f64 a0).bits)] [.one (.flt .f64 v1.bits)] [[.view]]] [2] [] ⟨tr, cv_wide a0, ⟨⟨rfl, tr⟩, ok_math_Sqrt K (Fl.cv .f32 .f64 a0) v1 e2⟩, c3, tr, tr⟩ ?_
  refine AW.ret ?_
  replace h := some_eq h
  subst h
  exact ⟨.inr rfl, retOK_of [(.one (cF (Fl.cv .f64 .f32 v1)))] (by kernel_rfl) ⟨⟨rfl, tr⟩, tr⟩ (of_decide_eq_true (by kernel_rfl))⟩

/-! impl.LongOf -/
def impl_LongOf (K : Nat) (a0 : Vector) : Option (F32) :=
  (impl_InnerOf K a0 a0).bind fun v1 => (impl_RootNumber K v1).bind fun v3 => some v3

theorem ok_impl_LongOf (K : Nat) (a0 : Vector) (o : (F32)) (h : impl_LongOf K a0 = some o) : CallOK Try.prog 32 [.agg (cs_Vector a0)] [.one (.flt .f32 o.bits)] := by
  refine callOK_of_AW Try.func32 rfl (by kernel_rfl) (Nat.le_of_ble_eq_true (by kernel_rfl)) ?_
  intro w0
  unfold impl_LongOf at h
  refine AW.sC (T2 Tt) [.box 1] [1] [1] ⟨tr, tr, tr⟩ ?_
  refine AW.seq ?_
  obtain ⟨v1, e2, h⟩ := bind_some h
  obtain ⟨v3, e4, h⟩ := bind_some h
  refine AW.tA ⟨[(2, (vc (.flt .f32 v3.bits)))], []⟩ (T2 (((((eF a0.X) ∧ (eF a0.Y) ∧ (eF a0.Z) ∧ Tt) ∧ ((eF a0.X) ∧ (eF a0.Y) ∧ (eF a0.Z) ∧ Tt) ∧ Tt) ∧ CallOK Try.prog 50 [.agg (cs_Vector a0), .agg (cs_Vector a0)] [.one (.flt .f32 v1.bits)]) ∧ (((eF v1) ∧ Tt) ∧ CallOK Try.prog 49 [.one (.flt .f32 v1.bits)] [.one (.flt .f32 v3.bits)]) ∧ Tt ∧ Tt)) [.no, .no, .call [.agg (cs_Vector a0), .agg (cs_Vector a0)] [.one (.flt .f32 v1.bits)] [[.view]], .call [.one (.flt .f32 v1.bits)] [.one (.flt .f32 v3.bits)] [[.view]]] [2] [] ⟨tr, tr, ⟨⟨⟨rfl, rfl, rfl, tr⟩, ⟨rfl, rfl, rfl, tr⟩, tr⟩, ok_impl_InnerOf K a0 a0 v1 e2⟩, ⟨⟨rfl, tr⟩, ok_impl_RootNumber K v1 v3 e4⟩, tr, tr⟩ ?_
  refine AW.ret ?_
  replace h := some_eq h
  subst h
  exact ⟨.inr rfl, retOK_of [(.one (cF v3))] (by kernel_rfl) ⟨⟨rfl, tr⟩, tr⟩ (of_decide_eq_true (by kernel_rfl))⟩

/-! impl.AssignSkin -/
def impl_AssignSkin_l5 (K : Nat) (a2 : (List Vector)) (v7 : ((List Turn) × (List Vector))) (x11 : Int) : Nat → F32 → Int → Int → Option (Int)
  | 0, _, _, _ => none
  | k + 1, x46, x47, x48 => ite2 ((decide (x47 < (v7.2.length : Int)))) (chk (0 ≤ x47 ∧ x47 < (v7.2.length : Int)) ((impl_LessVectors K (a2.getD x11.toNat default) (v7.2.getD x47.toNat default)).bind fun v51 => (impl_LongOf K v51).bind fun v53 => (ite2 ((v53.lt' x46)) (some true) (ite2 ((x46.ne x46)) (some (v53.eq v53)) (some false))).bind fun j57 => ite2 (j57) (impl_AssignSkin_l5 K a2 v7 x11 k v53 (IntKind.i64.wrap (x47 + (1 : Int))) x47) (impl_AssignSkin_l5 K a2 v7 x11 k x46 (IntKind.i64.wrap (x47 + (1 : Int))) x48))) (some x48)

def impl_AssignSkin_l4 (K : Nat) (a2 : (List Vector)) (v7 : ((List Turn) × (List Vector))) : Nat → Int → (List SkinPoint) → Option ((List SkinPoint) × Bool)
  | 0, _, _ => none
  | k + 1, x11, x12 => ite2 ((decide (x11 < (a2.length : Int)))) (chk (0 ≤ x11 ∧ x11 < (a2.length : Int)) (chk (0 ≤ (0 : Int) ∧ (0 : Int) < (v7.2.length : Int)) ((impl_LessVectors K (a2.getD x11.toNat default) (v7.2.getD ((0 : Int).toNat) default)).bind fun v16 => (impl_LongOf K v16).bind fun v18 => (impl_AssignSkin_l5 K a2 v7 x11 K v18 (0 : Int) (0 : Int)).bind fun j40 => chk ((x12.length + ([(SkinPoint.mk (a2.getD x11.toNat default) ([j40]) ([(Fl.mk (k := .f32) 1065353216 (by decide))]))]).length) * 64 ≤ 140737488355328) (impl_AssignSkin_l4 K a2 v7 k (IntKind.i64.wrap (x11 + (1 : Int))) (x12 ++ ([(SkinPoint.mk (a2.getD x11.toNat default) ([j40]) ([(Fl.mk (k := .f32) 1065353216 (by decide))]))])))))) (some (x12, true))

def impl_AssignSkin (K : Nat) (a0 : Skeleton) (a1 : Pose) (a2 : (List Vector)) : Option ((List SkinPoint) × Bool) :=
  (impl_IsPose K a0 a1).bind fun v1 => (ite2 ((!v1)) (some true) (some (decide ((a2.length : Int) > (24 : Int))))).bind fun j4 => ite2 (j4) (some (([] : (List SkinPoint)), false)) ((impl_Skeleton_world K a0 a1).bind fun v7 => impl_AssignSkin_l4 K a2 v7 K (0 : Int) ([] : (List SkinPoint)))

theorem ok_impl_AssignSkin (K : Nat) (a0 : Skeleton) (a1 : Pose) (a2 : (List Vector)) (o : ((List SkinPoint) × Bool)) (h : impl_AssignSkin K a0 a1 a2 = some o) : CallOK Try.prog 10 [.agg (cs_Skeleton a0), .agg (cs_Pose a1), .one (sl 3 cs_Vector a2)] [.one (sl 5 cs_SkinPoint o.1), .one (.bool o.2)] := by
  refine callOK_of_AW Try.func10 rfl (by kernel_rfl) (Nat.le_of_ble_eq_true (by kernel_rfl)) ?_
  intro w0
  unfold impl_AssignSkin at h
  refine AW.sA ⟨[(2, (vc (sl 3 cs_Vector a2))), (3, (vp 1 0)), (4, (vp 2 0))], [(1, (.box [(.c (sl 4 cs_Bone a0.Bones))])), (2, (.box [(cF a1.Root.X), (cF a1.Root.Y), (cF a1.Root.Z), (.c (sl 4 cs_Turn a1.Turns))]))]⟩ (T4 Tt) [.box 1, .box 2] [2, 3, 4] [1, 2] ⟨tr, tr, tr, tr, tr⟩ ?_
  refine AW.seq ?_
  refine AW.seq ?_
  obtain ⟨v1, e2, h⟩ := bind_some h
  obtain ⟨j4, e5, h⟩ := bind_some h
  refine AW.join1 (s2 := ⟨[(2, (vc (sl 3 cs_Vector a2))), (3, (vp 1 0)), (4, (vp 2 0)), (25, (vB j4))], [(1, (.box [(.c (sl 4 cs_Bone a0.Bones))])), (2, (.box [(cF a1.Root.X), (cF a1.Root.Y), (cF a1.Root.Z), (.c (sl 4 cs_Turn a1.Turns))]))]⟩) ?_ ?_
  · rcases ite2_cases e5 with ⟨b3, e5⟩ | ⟨b3, e5⟩
    · replace e5 := some_eq e5
      subst e5
      exact AW.rA ⟨[(2, (vc (sl 3 cs_Vector a2))), (3, (vp 1 0)), (4, (vp 2 0)), (25, (vB true))], [(1, (.box [(.c (sl 4 cs_Bone a0.Bones))])), (2, (.box [(cF a1.Root.X), (cF a1.Root.Y), (cF a1.Root.Z), (.c (sl 4 cs_Turn a1.Turns))]))]⟩ (T2 (((((Eqc (sl 4 cs_Bone a0.Bones)) ∧ Tt) ∧ ((eF a1.Root.X) ∧ (eF a1.Root.Y) ∧ (eF a1.Root.Z) ∧ (Eqc (sl 4 cs_Turn a1.Turns)) ∧ Tt) ∧ Tt) ∧ CallOK Try.prog 30 [.agg (cs_Skeleton a0), .agg (cs_Pose a1)] [.one (.bool v1)]) ∧ Tt ∧ (Tt ∧ (!v1) = true) ∧ T4 Tt)) [.no, .no, .call [.agg (cs_Skeleton a0), .agg (cs_Pose a1)] [.one (.bool v1)] [[.view]], .no, .dec true] [2, 3, 4, 25] [1, 2] ⟨tr, tr, ⟨⟨⟨rfl, tr⟩, ⟨rfl, rfl, rfl, rfl, tr⟩, tr⟩, ok_impl_IsPose K a0 a1 v1 e2⟩, tr, ⟨tr, b3⟩, tr, tr, tr, tr, tr⟩ ⟨rfl, rfl⟩
    · replace e5 := some_eq e5
      subst e5
      exact AW.rA ⟨[(2, (vc (sl 3 cs_Vector a2))), (3, (vp 1 0)), (4, (vp 2 0)), (25, (vB (decide ((a2.length : Int) > (24 : Int)))))], [(1, (.box [(.c (sl 4 cs_Bone a0.Bones))])), (2, (.box [(cF a1.Root.X), (cF a1.Root.Y), (cF a1.Root.Z), (.c (sl 4 cs_Turn a1.Turns))]))]⟩ (T2 (((((Eqc (sl 4 cs_Bone a0.Bones)) ∧ Tt) ∧ ((eF a1.Root.X) ∧ (eF a1.Root.Y) ∧ (eF a1.Root.Z) ∧ (Eqc (sl 4 cs_Turn a1.Turns)) ∧ Tt) ∧ Tt) ∧ CallOK Try.prog 30 [.agg (cs_Skeleton a0), .agg (cs_Pose a1)] [.one (.bool v1)]) ∧ Tt ∧ (Tt ∧ (!v1) = false) ∧ T4 Tt)) [.no, .no, .call [.agg (cs_Skeleton a0), .agg (cs_Pose a1)] [.one (.bool v1)] [[.view]], .no, .dec false] [2, 3, 4, 25] [1, 2] ⟨tr, tr, ⟨⟨⟨rfl, tr⟩, ⟨rfl, rfl, rfl, rfl, tr⟩, tr⟩, ok_impl_IsPose K a0 a1 v1 e2⟩, tr, ⟨tr, b3⟩, tr, tr, tr, tr, tr⟩ ⟨rfl, rfl⟩
  refine thenQ_normal ?_
  rcases ite2_cases h with ⟨b6, h⟩ | ⟨b6, h⟩
  · refine AW.cond_t rfl b6 ?_
    refine AW.sA ⟨[(6, (.v (.one .nils))), (7, (vB false))], []⟩ (T2 Tt) [] [6, 7] [] ⟨tr, tr, tr⟩ ?_
    refine AW.ret ?_
    refine thenQ_ret ?_
    replace h := some_eq h
    subst h
    exact ⟨.inr rfl, retOK_of [(.one .nils), (.one (.c (.bool false)))] (by kernel_rfl) ⟨rfl, ⟨rfl, tr⟩, tr⟩ (of_decide_eq_true (by kernel_rfl))⟩
  · refine AW.cond_f rfl b6 ?_
    refine AW.skip ?_
    refine thenQ_normal ?_
    refine AW.seq ?_
    obtain ⟨v7, e8, h⟩ := bind_some h
    refine AW.tC (Tt ∧ (((0 = 0 ∧ (Eqc (sl 4 cs_Bone a0.Bones)) ∧ Tt) ∧ ((eF a1.Root.X) ∧ (eF a1.Root.Y) ∧ (eF a1.Root.Z) ∧ (Eqc (sl 4 cs_Turn a1.Turns)) ∧ Tt) ∧ Tt) ∧ CallOK Try.prog 31 [.one (pl 1 cs_Skeleton a0), .agg (cs_Pose a1)] [.one (sl 4 cs_Turn v7.1), .one (sl 3 cs_Vector v7.2)]) ∧ Tt ∧ T4 Tt) [.no, .call [.one (pl 1 cs_Skeleton a0), .agg (cs_Pose a1)] [.one (sl 4 cs_Turn v7.1), .one (sl 3 cs_Vector v7.2)] [[.lst 3], [.lst 4]]] [2, 9] [4] ⟨tr, ⟨⟨⟨rfl, rfl, tr⟩, ⟨rfl, rfl, rfl, rfl, tr⟩, tr⟩, ok_impl_Skeleton_world K a0 a1 v7 e8⟩, tr, tr, tr, tr, tr, tr⟩ ?_
    refine AW.sC (Tt ∧ Tt) [] [2, 9, 10] [4] ⟨tr, tr⟩ ?_
    refine AW.seq ?_
    refine AW.sA ⟨[(9, (vL 4 3 cs_Vector v7.2)), (10, (.v (.one .nils))), (31, (vc (sl 3 cs_Vector a2))), (32, (vI (a2.length : Int))), (33, (vI (0 : Int)))], [(4, (oL 3 cs_Vector v7.2))]⟩ (Tt ∧ T2 Tt) [] [9, 10, 31, 32, 33] [4] ⟨tr, tr, tr, tr⟩ ?_
    refine AW.block ?_
    refine AW.weak (s' := ⟨[(9, (vL 4 3 cs_Vector v7.2)), (10, (vL 10 5 cs_SkinPoint ([] : (List SkinPoint)))), (31, (vc (sl 3 cs_Vector a2))), (32, (vI (a2.length : Int))), (33, (vI (0 : Int)))], [(4, (oL 3 cs_Vector v7.2)), (10, (oL 5 cs_SkinPoint ([] : (List SkinPoint))))]⟩) (Sub.trans (Sub.unnil 10 5 (gl cs_SkinPoint ([] : (List SkinPoint))) [10] [] _ (by kernel_rfl) (by kernel_rfl)) (Sub.keep [9, 10, 31, 32, 33] [4, 10] (by kernel_rfl) (by kernel_rfl))) ?_
    refine AW.loopQ (σ := Nat × Int × (List SkinPoint)) (fun p => ⟨[(9, (vL 4 3 cs_Vector v7.2)), (10, (vL 10 5 cs_SkinPoint p.2.2)), (31, (vc (sl 3 cs_Vector a2))), (32, (vI (a2.length : Int))), (33, (vI p.2.1))], [(4, (oL 3 cs_Vector v7.2)), (10, (oL 5 cs_SkinPoint p.2.2))]⟩) (fun p => impl_AssignSkin_l4 K a2 v7 p.1 p.2.1 p.2.2 = some o) (fun p => p.1) (K, (0 : Int), ([] : (List SkinPoint))) h ?_
    clear h
    rintro ⟨k, x11, x12⟩ h
    replace h : impl_AssignSkin_l4 K a2 v7 k x11 x12 = some o := h
    show AW _ _ (⟨[(9, (vL 4 3 cs_Vector v7.2)), (10, (vL 10 5 cs_SkinPoint x12)), (31, (vc (sl 3 cs_Vector a2))), (32, (vI (a2.length : Int))), (33, (vI x11))], [(4, (oL 3 cs_Vector v7.2)), (10, (oL 5 cs_SkinPoint x12))]⟩ : St) _
    obtain _ | k := k
    · rw [impl_AssignSkin_l4] at h; cases h
    rw [impl_AssignSkin_l4] at h
    refine AW.sA ⟨[(9, (vL 4 3 cs_Vector v7.2)), (10, (vL 10 5 cs_SkinPoint x12)), (31, (vc (sl 3 cs_Vector a2))), (32, (vI (a2.length : Int))), (33, (vI x11)), (34, (vB (decide (x11 < (a2.length : Int)))))], [(4, (oL 3 cs_Vector v7.2)), (10, (oL 5 cs_SkinPoint x12))]⟩ (Tt ∧ Tt) [] [9, 10, 31, 32, 33, 34] [4, 10] ⟨tr, tr⟩ ?_
    refine AW.seq ?_
    rcases ite2_cases h with ⟨b13, h⟩ | ⟨b13, h⟩
    · refine AW.cond_t rfl b13 ?_
      refine AW.skip ?_
      refine thenQ_normal ?_
      refine AW.seq ?_
      refine AW.block ?_
      refine AW.seq ?_
      obtain ⟨c14, h⟩ := chk_some h
      refine AW.tA ⟨[(9, (vL 4 3 cs_Vector v7.2)), (10, (vL 10 5 cs_SkinPoint x12)), (12, (vp 21 0)), (31, (vc (sl 3 cs_Vector a2))), (32, (vI (a2.length : Int))), (33, (vI x11))], [(4, (oL 3 cs_Vector v7.2)), (10, (oL 5 cs_SkinPoint x12)), (21, (.box [(cF ((a2.getD x11.toNat default).X)), (cF ((a2.getD x11.toNat default).Y)), (cF ((a2.getD x11.toNat default).Z))]))]⟩ ((0 ≤ x11 ∧ x11 < (a2.length : Int)) ∧ Tt ∧ T2 Tt) [.no, .no, .box 21] [9, 10, 12, 31, 32, 33] [4, 10, 21] ⟨c14, tr, tr, tr, tr⟩ ?_
      refine AW.seq ?_
      obtain ⟨c15, h⟩ := chk_some h
      obtain ⟨v16, e17, h⟩ := bind_some h
      obtain ⟨v18, e19, h⟩ := bind_some h
      refine AW.dA ⟨[(9, (vL 4 3 cs_Vector v7.2)), (10, (vL 10 5 cs_SkinPoint x12)), (12, (vp 21 0)), (13, (vI (0 : Int))), (14, (vc (.flt .f32 v18.bits))), (31, (vc (sl 3 cs_Vector a2))), (32, (vI (a2.length : Int))), (33, (vI x11))], [(4, (oL 3 cs_Vector v7.2)), (10, (oL 5 cs_SkinPoint x12)), (21, (.box [(cF ((a2.getD x11.toNat default).X)), (cF ((a2.getD x11.toNat default).Y)), (cF ((a2.getD x11.toNat default).Z))]))]⟩ ((T2 ((0 ≤ (0 : Int) ∧ (0 : Int) < (v7.2.length : Int)) ∧ Tt ∧ ((((eF ((a2.getD x11.toNat default).X)) ∧ (eF ((a2.getD x11.toNat default).Y)) ∧ (eF ((a2.getD x11.toNat default).Z)) ∧ Tt) ∧ ((eF ((v7.2.getD ((0 : Int).toNat) default).X)) ∧ (eF ((v7.2.getD ((0 : Int).toNat) default).Y)) ∧ (eF ((v7.2.getD ((0 : Int).toNat) default).Z)) ∧ Tt) ∧ Tt) ∧ CallOK Try.prog 33 [.agg (cs_Vector (a2.getD x11.toNat default)), .agg (cs_Vector (v7.2.getD ((0 : Int).toNat) default))] [.agg (cs_Vector v16)]) ∧ ((((eF v16.X) ∧ (eF v16.Y) ∧ (eF v16.Z) ∧ Tt) ∧ Tt) ∧ CallOK Try.prog 32 [.agg (cs_Vector v16)] [.one (.flt .f32 v18.bits)]) ∧ T2 Tt)) ∧ (Tt)) 8 [.no, .no, .no, .no, .call [.agg (cs_Vector (a2.getD x11.toNat default)), .agg (cs_Vector (v7.2.getD ((0 : Int).toNat) default))] [.agg (cs_Vector v16)] [[.view, .view, .view]], .call [.agg (cs_Vector v16)] [.one (.flt .f32 v18.bits)] [[.view]]] [9, 10, 12, 13, 14, 31, 32, 33] [4, 10, 21] ⟨⟨tr, tr, c15, tr, ⟨⟨⟨rfl, rfl, rfl, tr⟩, ⟨rfl, rfl, rfl, tr⟩, tr⟩, ok_impl_LessVectors K (a2.getD x11.toNat default) (v7.2.getD ((0 : Int).toNat) default) v16 e17⟩, ⟨⟨⟨rfl, rfl, rfl, tr⟩, tr⟩, ok_impl_LongOf K v16 v18 e19⟩, tr, tr, tr⟩, tr⟩ ?_
      refine thenQ_normal ?_
      refine AW.seq ?_
      refine AW.sA ⟨[(9, (vL 4 3 cs_Vector v7.2)), (10, (vL 10 5 cs_SkinPoint x12)), (12, (vp 21 0)), (13, (vI (0 : Int))), (14, (vc (.flt .f32 v18.bits))), (31, (vc (sl 3 cs_Vector a2))), (32, (vI (a2.length : Int))), (33, (vI x11)), (44, (vI (v7.2.length : Int))), (45, (vI (0 : Int)))], [(4, (oL 3 cs_Vector v7.2)), (10, (oL 5 cs_SkinPoint x12)), (21, (.box [(cF ((a2.getD x11.toNat default).X)), (cF ((a2.getD x11.toNat default).Y)), (cF ((a2.getD x11.toNat default).Z))]))]⟩ (Tt ∧ T2 Tt) [] [9, 10, 12, 13, 14, 31, 32, 33, 44, 45] [4, 10, 21] ⟨tr, tr, tr, tr⟩ ?_
      obtain ⟨j40, e39, h⟩ := bind_some h
      refine AW.joinS (s2 := ⟨[(9, (vL 4 3 cs_Vector v7.2)), (10, (vL 10 5 cs_SkinPoint x12)), (12, (vp 21 0)), (13, (vI j40)), (31, (vc (sl 3 cs_Vector a2))), (32, (vI (a2.length : Int))), (33, (vI x11))], [(4, (oL 3 cs_Vector v7.2)), (10, (oL 5 cs_SkinPoint x12)), (21, (.box [(cF ((a2.getD x11.toNat default).X)), (cF ((a2.getD x11.toNat default).Y)), (cF ((a2.getD x11.toNat default).Z))]))]⟩) ?_ ?_
      · replace h := e39
        refine AW.block ?_
        refine AW.loopQ (σ := Nat × F32 × Int × Int) (fun p => ⟨[(9, (vL 4 3 cs_Vector v7.2)), (10, (vL 10 5 cs_SkinPoint x12)), (12, (vp 21 0)), (13, (vI p.2.2.2)), (14, (vc (.flt .f32 p.2.1.bits))), (31, (vc (sl 3 cs_Vector a2))), (32, (vI (a2.length : Int))), (33, (vI x11)), (44, (vI (v7.2.length : Int))), (45, (vI p.2.2.1))], [(4, (oL 3 cs_Vector v7.2)), (10, (oL 5 cs_SkinPoint x12)), (21, (.box [(cF ((a2.getD x11.toNat default).X)), (cF ((a2.getD x11.toNat default).Y)), (cF ((a2.getD x11.toNat default).Z))]))]⟩) (fun p => impl_AssignSkin_l5 K a2 v7 x11 p.1 p.2.1 p.2.2.1 p.2.2.2 = some j40) (fun p => p.1) (K, v18, (0 : Int), (0 : Int)) h ?_
        clear h
        rintro ⟨k, x46, x47, x48⟩ h
        replace h : impl_AssignSkin_l5 K a2 v7 x11 k x46 x47 x48 = some j40 := h
        show AW _ _ (⟨[(9, (vL 4 3 cs_Vector v7.2)), (10, (vL 10 5 cs_SkinPoint x12)), (12, (vp 21 0)), (13, (vI x48)), (14, (vc (.flt .f32 x46.bits))), (31, (vc (sl 3 cs_Vector a2))), (32, (vI (a2.length : Int))), (33, (vI x11)), (44, (vI (v7.2.length : Int))), (45, (vI x47))], [(4, (oL 3 cs_Vector v7.2)), (10, (oL 5 cs_SkinPoint x12)), (21, (.box [(cF ((a2.getD x11.toNat default).X)), (cF ((a2.getD x11.toNat default).Y)), (cF ((a2.getD x11.toNat default).Z))]))]⟩ : St) _
        obtain _ | k := k
        · rw [impl_AssignSkin_l5] at h; cases h
        rw [impl_AssignSkin_l5] at h
        refine AW.sA ⟨[(9, (vL 4 3 cs_Vector v7.2)), (10, (vL 10 5 cs_SkinPoint x12)), (12, (vp 21 0)), (13, (vI x48)), (14, (vc (.flt .f32 x46.bits))), (31, (vc (sl 3 cs_Vector a2))), (32, (vI (a2.length : Int))), (33, (vI x11)), (44, (vI (v7.2.length : Int))), (45, (vI x47)), (46, (vB (decide (x47 < (v7.2.length : Int)))))], [(4, (oL 3 cs_Vector v7.2)), (10, (oL 5 cs_SkinPoint x12)), (21, (.box [(cF ((a2.getD x11.toNat default).X)), (cF ((a2.getD x11.toNat default).Y)), (cF ((a2.getD x11.toNat default).Z))]))]⟩ (Tt ∧ Tt) [] [9, 10, 12, 13, 14, 31, 32, 33, 44, 45, 46] [4, 10, 21] ⟨tr, tr⟩ ?_
        refine AW.seq ?_
        rcases ite2_cases h with ⟨b49, h⟩ | ⟨b49, h⟩
        · refine AW.cond_t rfl b49 ?_
          refine AW.skip ?_
          refine thenQ_normal ?_
          refine AW.seq ?_
          refine AW.block ?_
          refine AW.sA ⟨[(9, (vL 4 3 cs_Vector v7.2)), (10, (vL 10 5 cs_SkinPoint x12)), (12, (vp 21 0)), (13, (vI x48)), (14, (vc (.flt .f32 x46.bits))), (15, (vI x47)), (31, (vc (sl 3 cs_Vector a2))), (32, (vI (a2.length : Int))), (33, (vI x11)), (44, (vI (v7.2.length : Int))), (45, (vI x47))], [(4, (oL 3 cs_Vector v7.2)), (10, (oL 5 cs_SkinPoint x12)), (21, (.box [(cF ((a2.getD x11.toNat default).X)), (cF ((a2.getD x11.toNat default).Y)), (cF ((a2.getD x11.toNat default).Z))]))]⟩ (T2 Tt) [] [9, 10, 12, 13, 14, 15, 31, 32, 33, 44, 45] [4, 10, 21] ⟨tr, tr, tr⟩ ?_
          refine AW.seq ?_
          obtain ⟨c50, h⟩ := chk_some h
          obtain ⟨v51, e52, h⟩ := bind_some h
          obtain ⟨v53, e54, h⟩ := bind_some h
          refine AW.dA ⟨[(9, (vL 4 3 cs_Vector v7.2)), (10, (vL 10 5 cs_SkinPoint x12)), (12, (vp 21 0)), (13, (vI x48)), (14, (vc (.flt .f32 x46.bits))), (15, (vI x47)), (16, (vc (.flt .f32 v53.bits))), (31, (vc (sl 3 cs_Vector a2))), (32, (vI (a2.length : Int))), (33, (vI x11)), (44, (vI (v7.2.length : Int))), (45, (vI x47))], [(4, (oL 3 cs_Vector v7.2)), (10, (oL 5 cs_SkinPoint x12)), (21, (.box [(cF ((a2.getD x11.toNat default).X)), (cF ((a2.getD x11.toNat default).Y)), (cF ((a2.getD x11.toNat default).Z))]))]⟩ ((Tt ∧ T2 ((0 ≤ x47 ∧ x47 < (v7.2.length : Int)) ∧ Tt ∧ ((((eF ((a2.getD x11.toNat default).X)) ∧ (eF ((a2.getD x11.toNat default).Y)) ∧ (eF ((a2.getD x11.toNat default).Z)) ∧ Tt) ∧ ((eF ((v7.2.getD x47.toNat default).X)) ∧ (eF ((v7.2.getD x47.toNat default).Y)) ∧ (eF ((v7.2.getD x47.toNat default).Z)) ∧ Tt) ∧ Tt) ∧ CallOK Try.prog 33 [.agg (cs_Vector (a2.getD x11.toNat default)), .agg (cs_Vector (v7.2.getD x47.toNat default))] [.agg (cs_Vector v51)]) ∧ ((((eF v51.X) ∧ (eF v51.Y) ∧ (eF v51.Z) ∧ Tt) ∧ Tt) ∧ CallOK Try.prog 32 [.agg (cs_Vector v51)] [.one (.flt .f32 v53.bits)]) ∧ Tt ∧ Tt)) ∧ (Tt)) 8 [.no, .no, .no, .no, .no, .call [.agg (cs_Vector (a2.getD x11.toNat default)), .agg (cs_Vector (v7.2.getD x47.toNat default))] [.agg (cs_Vector v51)] [[.view, .view, .view]], .call [.agg (cs_Vector v51)] [.one (.flt .f32 v53.bits)] [[.view]]] [9, 10, 12, 13, 14, 15, 16, 31, 32, 33, 44, 45] [4, 10, 21] ⟨⟨tr, tr, tr, c50, tr, ⟨⟨⟨rfl, rfl, rfl, tr⟩, ⟨rfl, rfl, rfl, tr⟩, tr⟩, ok_impl_LessVectors K (a2.getD x11.toNat default) (v7.2.getD x47.toNat default) v51 e52⟩, ⟨⟨⟨rfl, rfl, rfl, tr⟩, tr⟩, ok_impl_LongOf K v51 v53 e54⟩, tr, tr⟩, tr⟩ ?_
          refine thenQ_normal ?_
          refine AW.seq ?_
          obtain ⟨j57, e58, h⟩ := bind_some h
          refine AW.join1 (s2 := ⟨[(9, (vL 4 3 cs_Vector v7.2)), (10, (vL 10 5 cs_SkinPoint x12)), (12, (vp 21 0)), (13, (vI x48)), (14, (vc (.flt .f32 x46.bits))), (15, (vI x47)), (16, (vc (.flt .f32 v53.bits))), (31, (vc (sl 3 cs_Vector a2))), (32, (vI (a2.length : Int))), (33, (vI x11)), (44, (vI (v7.2.length : Int))), (45, (vI x47)), (67, (vB j57))], [(4, (oL 3 cs_Vector v7.2)), (10, (oL 5 cs_SkinPoint x12)), (21, (.box [(cF ((a2.getD x11.toNat default).X)), (cF ((a2.getD x11.toNat default).Y)), (cF ((a2.getD x11.toNat default).Z))]))]⟩) ?_ ?_
          · rcases ite2_cases e58 with ⟨b55, e58⟩ | ⟨b55, e58⟩
            · replace e58 := some_eq e58
              subst e58
              exact AW.rA ⟨[(9, (vL 4 3 cs_Vector v7.2)), (10, (vL 10 5 cs_SkinPoint x12)), (12, (vp 21 0)), (13, (vI x48)), (14, (vc (.flt .f32 x46.bits))), (15, (vI x47)), (16, (vc (.flt .f32 v53.bits))), (31, (vc (sl 3 cs_Vector a2))), (32, (vI (a2.length : Int))), (33, (vI x11)), (44, (vI (v7.2.length : Int))), (45, (vI x47)), (67, (vB true))], [(4, (oL 3 cs_Vector v7.2)), (10, (oL 5 cs_SkinPoint x12)), (21, (.box [(cF ((a2.getD x11.toNat default).X)), (cF ((a2.getD x11.toNat default).Y)), (cF ((a2.getD x11.toNat default).Z))]))]⟩ (Tt ∧ T2 ((Tt ∧ (v53.lt' x46) = true) ∧ Tt ∧ T4 (T4 Tt))) [.no, .no, .no, .dec true] [9, 10, 12, 13, 14, 15, 16, 31, 32, 33, 44, 45, 67] [4, 10, 21] ⟨tr, tr, tr, ⟨tr, b55⟩, tr, tr, tr, tr, tr, tr, tr, tr, tr, tr⟩ ⟨rfl, rfl⟩
            · rcases ite2_cases e58 with ⟨b56, e58⟩ | ⟨b56, e58⟩
              · replace e58 := some_eq e58
                subst e58
                exact AW.rA ⟨[(9, (vL 4 3 cs_Vector v7.2)), (10, (vL 10 5 cs_SkinPoint x12)), (12, (vp 21 0)), (13, (vI x48)), (14, (vc (.flt .f32 x46.bits))), (15, (vI x47)), (16, (vc (.flt .f32 v53.bits))), (31, (vc (sl 3 cs_Vector a2))), (32, (vI (a2.length : Int))), (33, (vI x11)), (44, (vI (v7.2.length : Int))), (45, (vI x47)), (67, (vB (v53.eq v53)))], [(4, (oL 3 cs_Vector v7.2)), (10, (oL 5 cs_SkinPoint x12)), (21, (.box [(cF ((a2.getD x11.toNat default).X)), (cF ((a2.getD x11.toNat default).Y)), (cF ((a2.getD x11.toNat default).Z))]))]⟩ (Tt ∧ T2 ((Tt ∧ (v53.lt' x46) = false) ∧ Tt ∧ T2 ((Tt ∧ (x46.ne x46) = true) ∧ Tt ∧ T4 Tt))) [.no, .no, .no, .dec false, .no, .no, .no, .dec true] [9, 10, 12, 13, 14, 15, 16, 31, 32, 33, 44, 45, 67] [4, 10, 21] ⟨tr, tr, tr, ⟨tr, b55⟩, tr, tr, tr, ⟨tr, b56⟩, tr, tr, tr, tr, tr, tr⟩ ⟨rfl, rfl⟩
              · replace e58 := some_eq e58
                subst e58
                exact AW.rA ⟨[(9, (vL 4 3 cs_Vector v7.2)), (10, (vL 10 5 cs_SkinPoint x12)), (12, (vp 21 0)), (13, (vI x48)), (14, (vc (.flt .f32 x46.bits))), (15, (vI x47)), (16, (vc (.flt .f32 v53.bits))), (31, (vc (sl 3 cs_Vector a2))), (32, (vI (a2.length : Int))), (33, (vI x11)), (44, (vI (v7.2.length : Int))), (45, (vI x47)), (67, (vB false))], [(4, (oL 3 cs_Vector v7.2)), (10, (oL 5 cs_SkinPoint x12)), (21, (.box [(cF ((a2.getD x11.toNat default).X)), (cF ((a2.getD x11.toNat default).Y)), (cF ((a2.getD x11.toNat default).Z))]))]⟩ (Tt ∧ T2 ((Tt ∧ (v53.lt' x46) = false) ∧ Tt ∧ T2 ((Tt ∧ (x46.ne x46) = false) ∧ Tt ∧ T4 Tt))) [.no, .no, .no, .dec false, .no, .no, .no, .dec false] [9, 10, 12, 13, 14, 15, 16, 31, 32, 33, 44, 45, 67] [4, 10, 21] ⟨tr, tr, tr, ⟨tr, b55⟩, tr, tr, tr, ⟨tr, b56⟩, tr, tr, tr, tr, tr, tr⟩ ⟨rfl, rfl⟩
          refine thenQ_normal ?_
          rcases ite2_cases h with ⟨b59, h⟩ | ⟨b59, h⟩
          · refine AW.cond_t rfl b59 ?_
            refine AW.rA ⟨[(9, (vL 4 3 cs_Vector v7.2)), (10, (vL 10 5 cs_SkinPoint x12)), (12, (vp 21 0)), (13, (vI x47)), (14, (vc (.flt .f32 v53.bits))), (31, (vc (sl 3 cs_Vector a2))), (32, (vI (a2.length : Int))), (33, (vI x11)), (44, (vI (v7.2.length : Int))), (45, (vI x47))], [(4, (oL 3 cs_Vector v7.2)), (10, (oL 5 cs_SkinPoint x12)), (21, (.box [(cF ((a2.getD x11.toNat default).X)), (cF ((a2.getD x11.toNat default).Y)), (cF ((a2.getD x11.toNat default).Z))]))]⟩ (T4 Tt) [] [9, 10, 12, 13, 14, 31, 32, 33, 44, 45] [4, 10, 21] ⟨tr, tr, tr, tr, tr⟩ ?_
            refine blockQ_normal ?_
            refine thenQ_normal ?_
            refine AW.rA ⟨[(9, (vL 4 3 cs_Vector v7.2)), (10, (vL 10 5 cs_SkinPoint x12)), (12, (vp 21 0)), (13, (vI x47)), (14, (vc (.flt .f32 v53.bits))), (31, (vc (sl 3 cs_Vector a2))), (32, (vI (a2.length : Int))), (33, (vI x11)), (44, (vI (v7.2.length : Int))), (45, (vI (IntKind.i64.wrap (x47 + (1 : Int)))))], [(4, (oL 3 cs_Vector v7.2)), (10, (oL 5 cs_SkinPoint x12)), (21, (.box [(cF ((a2.getD x11.toNat default).X)), (cF ((a2.getD x11.toNat default).Y)), (cF ((a2.getD x11.toNat default).Z))]))]⟩ (T2 Tt) [] [9, 10, 12, 13, 14, 31, 32, 33, 44, 45] [4, 10, 21] ⟨tr, tr, tr⟩ ?_
            exact loopQ_normal (k, v53, (IntKind.i64.wrap (x47 + (1 : Int))), x47) h (Nat.lt_succ_self k) (Sub.keep [9, 10, 12, 13, 14, 31, 32, 33, 44, 45] [4, 10, 21] (by kernel_rfl) (by kernel_rfl))
          · refine AW.cond_f rfl b59 ?_
            refine AW.skip ?_
            refine blockQ_normal ?_
            refine thenQ_normal ?_
            refine AW.rA ⟨[(9, (vL 4 3 cs_Vector v7.2)), (10, (vL 10 5 cs_SkinPoint x12)), (12, (vp 21 0)), (13, (vI x48)), (14, (vc (.flt .f32 x46.bits))), (31, (vc (sl 3 cs_Vector a2))), (32, (vI (a2.length : Int))), (33, (vI x11)), (44, (vI (v7.2.length : Int))), (45, (vI (IntKind.i64.wrap (x47 + (1 : Int)))))], [(4, (oL 3 cs_Vector v7.2)), (10, (oL 5 cs_SkinPoint x12)), (21, (.box [(cF ((a2.getD x11.toNat default).X)), (cF ((a2.getD x11.toNat default).Y)), (cF ((a2.getD x11.toNat default).Z))]))]⟩ (T2 Tt) [] [9, 10, 12, 13, 14, 31, 32, 33, 44, 45] [4, 10, 21] ⟨tr, tr, tr⟩ ?_
            exact loopQ_normal (k, x46, (IntKind.i64.wrap (x47 + (1 : Int))), x48) h (Nat.lt_succ_self k) (Sub.keep [9, 10, 12, 13, 14, 31, 32, 33, 44, 45] [4, 10, 21] (by kernel_rfl) (by kernel_rfl))
        · refine AW.cond_f rfl b49 ?_
          refine AW.exit ?_
          refine thenQ_exit ?_
          refine loopQ_exit ?_
          refine blockQ_exit ?_
          replace h := some_eq h
          subst h
          exact ⟨rfl, Sub.keep [9, 10, 12, 13, 31, 32, 33] [4, 10, 21] (by kernel_rfl) (by kernel_rfl)⟩
      refine thenQ_normal ?_
      obtain ⟨c60, h⟩ := chk_some h
      refine AW.rA ⟨[(9, (vL 4 3 cs_Vector v7.2)), (10, (vL 25 5 cs_SkinPoint (x12 ++ ([(SkinPoint.mk (a2.getD x11.toNat default) ([j40]) ([(Fl.mk (k := .f32) 1065353216 (by decide))]))])))), (31, (vc (sl 3 cs_Vector a2))), (32, (vI (a2.length : Int))), (33, (vI x11))], [(4, (oL 3 cs_Vector v7.2)), (25, (oL 5 cs_SkinPoint (x12 ++ ([(SkinPoint.mk (a2.getD x11.toNat default) ([j40]) ([(Fl.mk (k := .f32) 1065353216 (by decide))]))]))))]⟩ (Tt ∧ T2 ((([j40]).length = 1 ∧ (((.int .i64 j40) : C) = (.int .i64 j40) ∧ Tt) ∧ Tt) ∧ (([(Fl.mk (k := .f32) 1065353216 (by decide))]).length = 1 ∧ (((.flt .f32 (Fl.mk (k := .f32) 1065353216 (by decide)).bits) : C) = (.flt .f32 (Fl.mk (k := .f32) 1065353216 (by decide)).bits) ∧ Tt) ∧ Tt) ∧ Tt ∧ (([(SkinPoint.mk (a2.getD x11.toNat default) ([j40]) ([(Fl.mk (k := .f32) 1065353216 (by decide))]))]).length = 1 ∧ (((.flt .f32 ((a2.getD x11.toNat default).X).bits) : C) = (.flt .f32 ((a2.getD x11.toNat default).X).bits) ∧ Tt) ∧ (((.flt .f32 ((a2.getD x11.toNat default).Y).bits) : C) = (.flt .f32 ((a2.getD x11.toNat default).Y).bits) ∧ Tt) ∧ (((.flt .f32 ((a2.getD x11.toNat default).Z).bits) : C) = (.flt .f32 ((a2.getD x11.toNat default).Z).bits) ∧ Tt) ∧ (Eqc (sl 1 (csI .i64) ([j40]))) ∧ (Eqc (sl 1 (csF .f32) ([(Fl.mk (k := .f32) 1065353216 (by decide))]))) ∧ Tt) ∧ ((x12 ++ ([(SkinPoint.mk (a2.getD x11.toNat default) ([j40]) ([(Fl.mk (k := .f32) 1065353216 (by decide))]))])).length = x12.length + ([(SkinPoint.mk (a2.getD x11.toNat default) ([j40]) ([(Fl.mk (k := .f32) 1065353216 (by decide))]))]).length ∧ AppOb (x12.length) (([(SkinPoint.mk (a2.getD x11.toNat default) ([j40]) ([(Fl.mk (k := .f32) 1065353216 (by decide))]))]).length) 5 (gl cs_SkinPoint x12) (gl cs_SkinPoint ([(SkinPoint.mk (a2.getD x11.toNat default) ([j40]) ([(Fl.mk (k := .f32) 1065353216 (by decide))]))])) (gl cs_SkinPoint (x12 ++ ([(SkinPoint.mk (a2.getD x11.toNat default) ([j40]) ([(Fl.mk (k := .f32) 1065353216 (by decide))]))]))) ∧ Tt ∧ (x12.length + ([(SkinPoint.mk (a2.getD x11.toNat default) ([j40]) ([(Fl.mk (k := .f32) 1065353216 (by decide))]))]).length) * 64 ≤ 140737488355328) ∧ Tt ∧ Tt)) [.no, .no, .no, .obj 22 ([j40]).length (gl (csI .i64) ([j40])), .obj 23 ([(Fl.mk (k := .f32) 1065353216 (by decide))]).length (gl (csF .f32) ([(Fl.mk (k := .f32) 1065353216 (by decide))])), .no, .obj 24 ([(SkinPoint.mk (a2.getD x11.toNat default) ([j40]) ([(Fl.mk (k := .f32) 1065353216 (by decide))]))]).length (gl cs_SkinPoint ([(SkinPoint.mk (a2.getD x11.toNat default) ([j40]) ([(Fl.mk (k := .f32) 1065353216 (by decide))]))])), .obj 25 (x12 ++ ([(SkinPoint.mk (a2.getD x11.toNat default) ([j40]) ([(Fl.mk (k := .f32) 1065353216 (by decide))]))])).length (gl cs_SkinPoint (x12 ++ ([(SkinPoint.mk (a2.getD x11.toNat default) ([j40]) ([(Fl.mk (k := .f32) 1065353216 (by decide))]))])))] [9, 10, 31, 32, 33] [4, 25] ⟨tr, tr, tr, ⟨rfl, ⟨⟨rfl, tr⟩, tr⟩⟩, ⟨rfl, ⟨⟨rfl, tr⟩, tr⟩⟩, tr, ⟨rfl, ⟨⟨rfl, tr⟩, ⟨rfl, tr⟩, ⟨rfl, tr⟩, rfl, rfl, tr⟩⟩, ⟨List.length_append, gl_append, tr, c60⟩, tr, tr⟩ ?_
      refine blockQ_normal ?_
      refine thenQ_normal ?_
      refine AW.rA ⟨[(9, (vL 4 3 cs_Vector v7.2)), (10, (vL 25 5 cs_SkinPoint (x12 ++ ([(SkinPoint.mk (a2.getD x11.toNat default) ([j40]) ([(Fl.mk (k := .f32) 1065353216 (by decide))]))])))), (31, (vc (sl 3 cs_Vector a2))), (32, (vI (a2.length : Int))), (33, (vI (IntKind.i64.wrap (x11 + (1 : Int)))))], [(4, (oL 3 cs_Vector v7.2)), (25, (oL 5 cs_SkinPoint (x12 ++ ([(SkinPoint.mk (a2.getD x11.toNat default) ([j40]) ([(Fl.mk (k := .f32) 1065353216 (by decide))]))]))))]⟩ (T2 Tt) [] [9, 10, 31, 32, 33] [4, 25] ⟨tr, tr, tr⟩ ?_
      exact loopQ_normal (k, (IntKind.i64.wrap (x11 + (1 : Int))), (x12 ++ ([(SkinPoint.mk (a2.getD x11.toNat default) ([j40]) ([(Fl.mk (k := .f32) 1065353216 (by decide))]))]))) h (Nat.lt_succ_self k) (Sub.trans (Sub.swap 10 25 _ (by kernel_rfl) (by kernel_rfl)) (Sub.keep [9, 10, 31, 32, 33] [4, 10] (by kernel_rfl) (by kernel_rfl)))
    · refine AW.cond_f rfl b13 ?_
      refine AW.exit ?_
      refine thenQ_exit ?_
      refine loopQ_exit ?_
      refine blockQ_exit ?_
      refine thenQ_normal ?_
      refine AW.sA ⟨[(6, (vL 10 5 cs_SkinPoint x12)), (7, (vB true))], [(10, (oL 5 cs_SkinPoint x12))]⟩ (Tt ∧ T2 Tt) [] [6, 7] [10] ⟨tr, tr, tr, tr⟩ ?_
      refine AW.ret ?_
      replace h := some_eq h
      subst h
      exact ⟨.inr rfl, retOK_of [(.one (xL 10 5 cs_SkinPoint x12)), (.one (.c (.bool true)))] (by kernel_rfl) ⟨rfl, ⟨rfl, tr⟩, tr⟩ (of_decide_eq_true (by kernel_rfl))⟩

/-! impl.EdgesOf$1 -/
def impl_EdgesOf_1 (_K : Nat) (a0 : Int) (a1 : (List Vector)) : Option (Bool) :=
  (ite2 ((decide (a0 < (0 : Int)))) (some true) (some (decide (a0 ≥ (a1.length : Int))))).bind fun j2 => some j2

theorem ok_impl_EdgesOf_1 (K : Nat) (a0 : Int) (a1 : (List Vector)) (o : (Bool)) (h : impl_EdgesOf_1 K a0 a1 = some o) : CallOK Try.prog 35 [.one (.int .i64 a0), .one (pl 1 (csL 3 cs_Vector) a1)] [.one (.bool o)] := by
  refine callOK_of_AW Try.func35 rfl (by kernel_rfl) (Nat.le_of_ble_eq_true (by kernel_rfl)) ?_
  intro w0
  unfold impl_EdgesOf_1 at h
  refine AW.sA ⟨[(0, (vI a0)), (1, (vc (pl 1 (csL 3 cs_Vector) a1)))], []⟩ (Tt ∧ Tt) [] [0, 1] [] ⟨tr, tr⟩ ?_
  refine AW.seq ?_
  obtain ⟨j2, e3, h⟩ := bind_some h
  refine AW.join1 (s2 := ⟨[(3, (vB j2))], []⟩) ?_ ?_
  · rcases ite2_cases e3 with ⟨b1, e3⟩ | ⟨b1, e3⟩
    · replace e3 := some_eq e3
      subst e3
      exact AW.rA ⟨[(3, (vB true))], []⟩ (T2 ((Tt ∧ (decide (a0 < (0 : Int))) = true) ∧ T2 (T4 Tt))) [.no, .no, .dec true] [3] [] ⟨tr, tr, ⟨tr, b1⟩, tr, tr, tr, tr, tr, tr, tr⟩ ⟨rfl, rfl⟩
    · replace e3 := some_eq e3
      subst e3
      exact AW.rA ⟨[(3, (vB (decide (a0 ≥ (a1.length : Int)))))], []⟩ (T2 ((Tt ∧ (decide (a0 < (0 : Int))) = false) ∧ T2 (T4 Tt))) [.no, .no, .dec false] [3] [] ⟨tr, tr, ⟨tr, b1⟩, tr, tr, tr, tr, tr, tr, tr⟩ ⟨rfl, rfl⟩
  refine thenQ_normal ?_
  refine AW.ret ?_
  replace h := some_eq h
  subst h
  exact ⟨.inr rfl, retOK_of [(.one (.c (.bool j2)))] (by kernel_rfl) ⟨⟨rfl, tr⟩, tr⟩ (of_decide_eq_true (by kernel_rfl))⟩

/-! slices.IndexFunc[[]int64,int64] -/
def slices_IndexFunc_int64_int64_l1 (K : Nat) (a0 : (List Int)) (a1_0_0 : (List Vector)) : Nat → Int → Option (Int)
  | 0, _ => none
  | k + 1, x2 => ite2 ((decide (x2 < (a0.length : Int)))) (chk (0 ≤ x2 ∧ x2 < (a0.length : Int)) ((impl_EdgesOf_1 K (a0.getD x2.toNat default) a1_0_0).bind fun v5 => ite2 (v5) (some x2) (slices_IndexFunc_int64_int64_l1 K a0 a1_0_0 k (IntKind.i64.wrap (x2 + (1 : Int)))))) (some ((-1) : Int))

def slices_IndexFunc_int64_int64 (K : Nat) (a0 : (List Int)) (a1_0_0 : (List Vector)) : Option (Int) :=
  slices_IndexFunc_int64_int64_l1 K a0 a1_0_0 K (0 : Int)

theorem ok_slices_IndexFunc_int64_int64 (K : Nat) (a0 : (List Int)) (a1_0_0 : (List Vector)) (o : (Int)) (h : slices_IndexFunc_int64_int64 K a0 a1_0_0 = some o) : CallOK Try.prog 51 [.one (sl 1 (csI .i64) a0), .one (.fn 35 1 fun j => [(pl 1 (csL 3 cs_Vector) a1_0_0)].getD j .nilptr)] [.one (.int .i64 o)] := by
  refine callOK_of_AW Try.func51 rfl (by kernel_rfl) (Nat.le_of_ble_eq_true (by kernel_rfl)) ?_
  intro w0
  unfold slices_IndexFunc_int64_int64 at h
  refine AW.sC (Tt ∧ Tt) [] [0, 1] [] ⟨tr, tr⟩ ?_
  refine AW.seq ?_
  refine AW.sA ⟨[(0, (vc (sl 1 (csI .i64) a0))), (1, (vc (.fn 35 1 fun j => [(pl 1 (csL 3 cs_Vector) a1_0_0)].getD j .nilptr))), (7, (vI (a0.length : Int))), (8, (vI (0 : Int)))], []⟩ (Tt ∧ T2 Tt) [] [0, 1, 7, 8] [] ⟨tr, tr, tr, tr⟩ ?_
  refine AW.block ?_
  refine AW.loopQ (σ := Nat × Int) (fun p => ⟨[(0, (vc (sl 1 (csI .i64) a0))), (1, (vc (.fn 35 1 fun j => [(pl 1 (csL 3 cs_Vector) a1_0_0)].getD j .nilptr))), (7, (vI (a0.length : Int))), (8, (vI p.2))], []⟩) (fun p => slices_IndexFunc_int64_int64_l1 K a0 a1_0_0 p.1 p.2 = some o) (fun p => p.1) (K, (0 : Int)) h ?_
  clear h
  rintro ⟨k, x2⟩ h
  replace h : slices_IndexFunc_int64_int64_l1 K a0 a1_0_0 k x2 = some o := h
  show AW _ _ (⟨[(0, (vc (sl 1 (csI .i64) a0))), (1, (vc (.fn 35 1 fun j => [(pl 1 (csL 3 cs_Vector) a1_0_0)].getD j .nilptr))), (7, (vI (a0.length : Int))), (8, (vI x2))], []⟩ : St) _
  obtain _ | k := k
  · rw [slices_IndexFunc_int64_int64_l1] at h; cases h
  rw [slices_IndexFunc_int64_int64_l1] at h
  refine AW.sA ⟨[(0, (vc (sl 1 (csI .i64) a0))), (1, (vc (.fn 35 1 fun j => [(pl 1 (csL 3 cs_Vector) a1_0_0)].getD j .nilptr))), (7, (vI (a0.length : Int))), (8, (vI x2)), (9, (vB (decide (x2 < (a0.length : Int)))))], []⟩ (Tt ∧ Tt) [] [0, 1, 7, 8, 9] [] ⟨tr, tr⟩ ?_
  refine AW.seq ?_
  rcases ite2_cases h with ⟨b3, h⟩ | ⟨b3, h⟩
  · refine AW.cond_t rfl b3 ?_
    refine AW.skip ?_
    refine thenQ_normal ?_
    refine AW.seq ?_
    refine AW.block ?_
    refine AW.sC (T2 Tt) [] [0, 1, 5, 7, 8] [] ⟨tr, tr, tr⟩ ?_
    refine AW.seq ?_
    obtain ⟨c4, h⟩ := chk_some h
    obtain ⟨v5, e6, h⟩ := bind_some h
    refine AW.tA ⟨[(0, (vc (sl 1 (csI .i64) a0))), (1, (vc (.fn 35 1 fun j => [(pl 1 (csL 3 cs_Vector) a1_0_0)].getD j .nilptr))), (5, (vI x2)), (7, (vI (a0.length : Int))), (8, (vI x2)), (16, (vB v5))], []⟩ (Tt ∧ T2 ((0 ≤ x2 ∧ x2 < (a0.length : Int)) ∧ Tt ∧ (((eI (a0.getD x2.toNat default)) ∧ (1 = 1 ∧ ∀ j, j < 1 → ((csL 3 cs_Vector) a1_0_0).getD j .nilptr = ((csL 3 cs_Vector) a1_0_0).getD j .nilptr) ∧ Tt) ∧ CallOK Try.prog 35 [.one (.int .i64 (a0.getD x2.toNat default)), .one (pl 1 (csL 3 cs_Vector) a1_0_0)] [.one (.bool v5)]) ∧ Tt)) [.no, .no, .no, .no, .no, .call [.one (.int .i64 (a0.getD x2.toNat default)), .one (pl 1 (csL 3 cs_Vector) a1_0_0)] [.one (.bool v5)] [[.view]]] [0, 1, 5, 7, 8, 16] [] ⟨tr, tr, tr, c4, tr, ⟨⟨rfl, ⟨rfl, fun j hj => rfl⟩, tr⟩, ok_impl_EdgesOf_1 K (a0.getD x2.toNat default) a1_0_0 v5 e6⟩, tr⟩ ?_
    rcases ite2_cases h with ⟨b7, h⟩ | ⟨b7, h⟩
    · refine AW.cond_t rfl b7 ?_
      refine AW.sA ⟨[(4, (vI x2))], []⟩ (T2 Tt) [] [4] [] ⟨tr, tr, tr⟩ ?_
      refine AW.ret ?_
      refine blockQ_ret ?_
      refine thenQ_ret ?_
      refine loopQ_ret ?_
      refine blockQ_ret ?_
      refine thenQ_ret ?_
      replace h := some_eq h
      subst h
      exact ⟨.inr rfl, retOK_of [(.one (cI x2))] (by kernel_rfl) ⟨⟨rfl, tr⟩, tr⟩ (of_decide_eq_true (by kernel_rfl))⟩
    · refine AW.cond_f rfl b7 ?_
      refine AW.skip ?_
      refine blockQ_normal ?_
      refine thenQ_normal ?_
      refine AW.rA ⟨[(0, (vc (sl 1 (csI .i64) a0))), (1, (vc (.fn 35 1 fun j => [(pl 1 (csL 3 cs_Vector) a1_0_0)].getD j .nilptr))), (7, (vI (a0.length : Int))), (8, (vI (IntKind.i64.wrap (x2 + (1 : Int)))))], []⟩ (T2 Tt) [] [0, 1, 7, 8] [] ⟨tr, tr, tr⟩ ?_
      exact loopQ_normal (k, (IntKind.i64.wrap (x2 + (1 : Int)))) h (Nat.lt_succ_self k) (Sub.keep [0, 1, 7, 8] [] (by kernel_rfl) (by kernel_rfl))
  · refine AW.cond_f rfl b3 ?_
    refine AW.exit ?_
    refine thenQ_exit ?_
    refine loopQ_exit ?_
    refine blockQ_exit ?_
    refine thenQ_normal ?_
    refine AW.sA ⟨[(4, (vI ((-1) : Int)))], []⟩ (Tt ∧ Tt) [] [4] [] ⟨tr, tr⟩ ?_
    refine AW.ret ?_
    replace h := some_eq h
    subst h
    exact ⟨.inr rfl, retOK_of [(.one (cI ((-1) : Int)))] (by kernel_rfl) ⟨⟨rfl, tr⟩, tr⟩ (of_decide_eq_true (by kernel_rfl))⟩

/-! slices.ContainsFunc[[]int64,int64] -/
def slices_ContainsFunc_int64_int64 (K : Nat) (a0 : (List Int)) (a1_0_0 : (List Vector)) : Option (Bool) :=
  (slices_IndexFunc_int64_int64 K a0 a1_0_0).bind fun v1 => some (decide (v1 ≥ (0 : Int)))

theorem ok_slices_ContainsFunc_int64_int64 (K : Nat) (a0 : (List Int)) (a1_0_0 : (List Vector)) (o : (Bool)) (h : slices_ContainsFunc_int64_int64 K a0 a1_0_0 = some o) : CallOK Try.prog 34 [.one (sl 1 (csI .i64) a0), .one (.fn 35 1 fun j => [(pl 1 (csL 3 cs_Vector) a1_0_0)].getD j .nilptr)] [.one (.bool o)] := by
  refine callOK_of_AW Try.func34 rfl (by kernel_rfl) (Nat.le_of_ble_eq_true (by kernel_rfl)) ?_
  intro w0
  unfold slices_ContainsFunc_int64_int64 at h
  refine AW.sC (Tt ∧ Tt) [] [0, 1] [] ⟨tr, tr⟩ ?_
  refine AW.seq ?_
  obtain ⟨v1, e2, h⟩ := bind_some h
  refine AW.tA ⟨[(4, (vB (decide (v1 ≥ (0 : Int)))))], []⟩ (T2 ((((Eqc (sl 1 (csI .i64) a0)) ∧ (Eqc (.fn 35 1 fun j => [(pl 1 (csL 3 cs_Vector) a1_0_0)].getD j .nilptr)) ∧ Tt) ∧ CallOK Try.prog 51 [.one (sl 1 (csI .i64) a0), .one (.fn 35 1 fun j => [(pl 1 (csL 3 cs_Vector) a1_0_0)].getD j .nilptr)] [.one (.int .i64 v1)]) ∧ T2 Tt)) [.no, .no, .call [.one (sl 1 (csI .i64) a0), .one (.fn 35 1 fun j => [(pl 1 (csL 3 cs_Vector) a1_0_0)].getD j .nilptr)] [.one (.int .i64 v1)] [[.view]]] [4] [] ⟨tr, tr, ⟨⟨rfl, rfl, tr⟩, ok_slices_IndexFunc_int64_int64 K a0 a1_0_0 v1 e2⟩, tr, tr, tr⟩ ?_
  refine AW.ret ?_
  replace h := some_eq h
  subst h
  exact ⟨.inr rfl, retOK_of [(.one (.c (.bool (decide (v1 ≥ (0 : Int))))))] (by kernel_rfl) ⟨⟨rfl, tr⟩, tr⟩ (of_decide_eq_true (by kernel_rfl))⟩

/-! impl.EdgesOf -/
def impl_EdgesOf_l1 (K : Nat) (a0 : (List Vector)) (a1 : (List (List Int))) : Nat → Int → (List F32) → Option ((List F32) × Bool)
  | 0, _, _ => none
  | k + 1, x8, x9 => ite2 ((decide (x8 < (a1.length : Int)))) (chk (0 ≤ x8 ∧ x8 < (a1.length : Int)) ((ite2 ((((a1.getD x8.toNat default).length : Int) != (2 : Int))) (some true) ((slices_ContainsFunc_int64_int64 K (a1.getD x8.toNat default) a0).bind fun v13 => some v13)).bind fun j15 => ite2 (j15) (some (([] : (List F32)), false)) (chk (0 ≤ (1 : Int) ∧ (1 : Int) < ((a1.getD x8.toNat default).length : Int)) (chk (0 ≤ ((a1.getD x8.toNat default).getD ((1 : Int).toNat) default) ∧ ((a1.getD x8.toNat default).getD ((1 : Int).toNat) default) < (a0.length : Int)) (chk (0 ≤ (0 : Int) ∧ (0 : Int) < ((a1.getD x8.toNat default).length : Int)) (chk (0 ≤ ((a1.getD x8.toNat default).getD ((0 : Int).toNat) default) ∧ ((a1.getD x8.toNat default).getD ((0 : Int).toNat) default) < (a0.length : Int)) ((impl_LessVectors K (a0.getD (((a1.getD x8.toNat default).getD ((1 : Int).toNat) default).toNat) default) (a0.getD (((a1.getD x8.toNat default).getD ((0 : Int).toNat) default).toNat) default)).bind fun v22 => (impl_LongOf K v22).bind fun v24 => chk (0 ≤ x8 ∧ x8 < (x9.length : Int)) (impl_EdgesOf_l1 K a0 a1 k (IntKind.i64.wrap (x8 + (1 : Int))) (x9.set x8.toNat v24))))))))) (some (x9, true))

def impl_EdgesOf (K : Nat) (a0 : (List Vector)) (a1 : (List (List Int))) : Option ((List F32) × Bool) :=
  (ite2 ((decide ((a0.length : Int) > (24 : Int)))) (some true) (some (decide ((a1.length : Int) > (64 : Int))))).bind fun j2 => ite2 (j2) (some (([] : (List F32)), false)) (chk (0 ≤ (a1.length : Int) ∧ (a1.length : Int).toNat * 4 ≤ 140737488355328) (impl_EdgesOf_l1 K a0 a1 K (0 : Int) (List.replicate (a1.length : Int).toNat (default : F32))))

theorem ok_impl_EdgesOf (K : Nat) (a0 : (List Vector)) (a1 : (List (List Int))) (o : ((List F32) × Bool)) (h : impl_EdgesOf K a0 a1 = some o) : CallOK Try.prog 11 [.one (sl 3 cs_Vector a0), .one (sl 1 (csL 1 (csI .i64)) a1)] [.one (sl 1 (csF .f32) o.1), .one (.bool o.2)] := by
  refine callOK_of_AW Try.func11 rfl (by kernel_rfl) (Nat.le_of_ble_eq_true (by kernel_rfl)) ?_
  intro w0
  unfold impl_EdgesOf at h
  refine AW.sA ⟨[(1, (vc (sl 1 (csL 1 (csI .i64)) a1))), (2, (vp 1 0))], [(1, (.box [(.c (sl 3 cs_Vector a0))]))]⟩ (Tt ∧ T2 Tt) [.box 1] [1, 2] [1] ⟨tr, tr, tr, tr⟩ ?_
  refine AW.seq ?_
  refine AW.seq ?_
  obtain ⟨j2, e3, h⟩ := bind_some h
  refine AW.join1 (s2 := ⟨[(1, (vc (sl 1 (csL 1 (csI .i64)) a1))), (2, (vp 1 0)), (16, (vB j2))], [(1, (.box [(.c (sl 3 cs_Vector a0))]))]⟩) ?_ ?_
  · rcases ite2_cases e3 with ⟨b1, e3⟩ | ⟨b1, e3⟩
    · replace e3 := some_eq e3
      subst e3
      exact AW.rA ⟨[(1, (vc (sl 1 (csL 1 (csI .i64)) a1))), (2, (vp 1 0)), (16, (vB true))], [(1, (.box [(.c (sl 3 cs_Vector a0))]))]⟩ (Tt ∧ T2 ((Tt ∧ (decide ((a0.length : Int) > (24 : Int))) = true) ∧ T4 Tt)) [.no, .no, .no, .dec true] [1, 2, 16] [1] ⟨tr, tr, tr, ⟨tr, b1⟩, tr, tr, tr, tr, tr⟩ ⟨rfl, rfl⟩
    · replace e3 := some_eq e3
      subst e3
      exact AW.rA ⟨[(1, (vc (sl 1 (csL 1 (csI .i64)) a1))), (2, (vp 1 0)), (16, (vB (decide ((a1.length : Int) > (64 : Int)))))], [(1, (.box [(.c (sl 3 cs_Vector a0))]))]⟩ (Tt ∧ T2 ((Tt ∧ (decide ((a0.length : Int) > (24 : Int))) = false) ∧ T4 Tt)) [.no, .no, .no, .dec false] [1, 2, 16] [1] ⟨tr, tr, tr, ⟨tr, b1⟩, tr, tr, tr, tr, tr⟩ ⟨rfl, rfl⟩
  refine thenQ_normal ?_
  rcases ite2_cases h with ⟨b4, h⟩ | ⟨b4, h⟩
  · refine AW.cond_t rfl b4 ?_
    refine AW.sA ⟨[(4, (.v (.one .nils))), (5, (vB false))], []⟩ (T2 Tt) [] [4, 5] [] ⟨tr, tr, tr⟩ ?_
    refine AW.ret ?_
    refine thenQ_ret ?_
    replace h := some_eq h
    subst h
    exact ⟨.inr rfl, retOK_of [(.one .nils), (.one (.c (.bool false)))] (by kernel_rfl) ⟨rfl, ⟨rfl, tr⟩, tr⟩ (of_decide_eq_true (by kernel_rfl))⟩
  · refine AW.cond_f rfl b4 ?_
    refine AW.skip ?_
    refine thenQ_normal ?_
    refine AW.seq ?_
    obtain ⟨c5, h⟩ := chk_some h
    refine AW.tC (T2 ((0 ≤ (a1.length : Int) ∧ (a1.length : Int) = (a1.length : Int) ∧ (((List.replicate (a1.length : Int).toNat (default : F32)).length : Nat) : Int) = (a1.length : Int) ∧ (List.replicate (a1.length : Int).toNat (default : F32)).length * 4 ≤ 140737488355328 ∧ ∀ i, i < (List.replicate (a1.length : Int).toNat (default : F32)).length → zeroRow (fun _ => none) [(cF (default : F32))] (gl (csF .f32) (List.replicate (a1.length : Int).toNat (default : F32)) i)) ∧ Tt ∧ Tt)) [.no, .no, .objA 2 (List.replicate (a1.length : Int).toNat (default : F32)).length (gl (csF .f32) (List.replicate (a1.length : Int).toNat (default : F32)))] [1, 2, 6] [1, 2] ⟨tr, tr, ⟨c5.1, rfl, len_rep c5.1, rep_bytes c5.2, fun i hi => gl_zero (cs := (csF .f32)) (zs := [(cF (default : F32))]) (n := (a1.length : Int).toNat) ⟨⟨rfl, tr⟩, tr⟩ i (rep_lt hi)⟩, tr, tr⟩ ?_
    refine AW.seq ?_
    refine AW.sA ⟨[(2, (vp 1 0)), (6, (.v (.one (.arr 2)))), (20, (vc (sl 1 (csL 1 (csI .i64)) a1))), (21, (vI (a1.length : Int))), (22, (vI (0 : Int)))], [(1, (.box [(.c (sl 3 cs_Vector a0))])), (2, (.arr false (List.replicate (a1.length : Int).toNat (default : F32)).length 1 (gl (csF .f32) (List.replicate (a1.length : Int).toNat (default : F32)))))]⟩ (Tt ∧ T2 Tt) [] [2, 6, 20, 21, 22] [1, 2] ⟨tr, tr, tr, tr⟩ ?_
    refine AW.block ?_
    refine AW.loopQ (σ := Nat × Int × (List F32)) (fun p => ⟨[(2, (vp 1 0)), (6, (.v (.one (.arr 2)))), (20, (vc (sl 1 (csL 1 (csI .i64)) a1))), (21, (vI (a1.length : Int))), (22, (vI p.2.1))], [(1, (.box [(.c (sl 3 cs_Vector a0))])), (2, (.arr false p.2.2.length 1 (gl (csF .f32) p.2.2)))]⟩) (fun p => impl_EdgesOf_l1 K a0 a1 p.1 p.2.1 p.2.2 = some o) (fun p => p.1) (K, (0 : Int), (List.replicate (a1.length : Int).toNat (default : F32))) h ?_
    clear h
    rintro ⟨k, x8, x9⟩ h
    replace h : impl_EdgesOf_l1 K a0 a1 k x8 x9 = some o := h
    show AW _ _ (⟨[(2, (vp 1 0)), (6, (.v (.one (.arr 2)))), (20, (vc (sl 1 (csL 1 (csI .i64)) a1))), (21, (vI (a1.length : Int))), (22, (vI x8))], [(1, (.box [(.c (sl 3 cs_Vector a0))])), (2, (.arr false x9.length 1 (gl (csF .f32) x9)))]⟩ : St) _
    obtain _ | k := k
    · rw [impl_EdgesOf_l1] at h; cases h
    rw [impl_EdgesOf_l1] at h
    refine AW.sA ⟨[(2, (vp 1 0)), (6, (.v (.one (.arr 2)))), (20, (vc (sl 1 (csL 1 (csI .i64)) a1))), (21, (vI (a1.length : Int))), (22, (vI x8)), (23, (vB (decide (x8 < (a1.length : Int)))))], [(1, (.box [(.c (sl 3 cs_Vector a0))])), (2, (.arr false x9.length 1 (gl (csF .f32) x9)))]⟩ (Tt ∧ Tt) [] [2, 6, 20, 21, 22, 23] [1, 2] ⟨tr, tr⟩ ?_
    refine AW.seq ?_
    rcases ite2_cases h with ⟨b10, h⟩ | ⟨b10, h⟩
    · refine AW.cond_t rfl b10 ?_
      refine AW.skip ?_
      refine thenQ_normal ?_
      refine AW.seq ?_
      refine AW.block ?_
      refine AW.seq ?_
      obtain ⟨c11, h⟩ := chk_some h
      refine AW.tA ⟨[(2, (vp 1 0)), (6, (.v (.one (.arr 2)))), (7, (vI x8)), (8, (vc (sl 1 (csI .i64) (a1.getD x8.toNat default)))), (20, (vc (sl 1 (csL 1 (csI .i64)) a1))), (21, (vI (a1.length : Int))), (22, (vI x8))], [(1, (.box [(.c (sl 3 cs_Vector a0))])), (2, (.arr false x9.length 1 (gl (csF .f32) x9)))]⟩ (Tt ∧ (0 ≤ x8 ∧ x8 < (a1.length : Int)) ∧ Tt ∧ T2 Tt) [] [2, 6, 7, 8, 20, 21, 22] [1, 2] ⟨tr, c11, tr, tr, tr, tr⟩ ?_
      refine AW.seq ?_
      refine AW.seq ?_
      obtain ⟨j15, e16, h⟩ := bind_some h
      refine AW.join1 (s2 := ⟨[(2, (vp 1 0)), (6, (.v (.one (.arr 2)))), (7, (vI x8)), (8, (vc (sl 1 (csI .i64) (a1.getD x8.toNat default)))), (20, (vc (sl 1 (csL 1 (csI .i64)) a1))), (21, (vI (a1.length : Int))), (22, (vI x8)), (34, (vB j15))], [(1, (.box [(.c (sl 3 cs_Vector a0))])), (2, (.arr false x9.length 1 (gl (csF .f32) x9)))]⟩) ?_ ?_
      · rcases ite2_cases e16 with ⟨b12, e16⟩ | ⟨b12, e16⟩
        · replace e16 := some_eq e16
          subst e16
          exact AW.rA ⟨[(2, (vp 1 0)), (6, (.v (.one (.arr 2)))), (7, (vI x8)), (8, (vc (sl 1 (csI .i64) (a1.getD x8.toNat default)))), (20, (vc (sl 1 (csL 1 (csI .i64)) a1))), (21, (vI (a1.length : Int))), (22, (vI x8)), (34, (vB true))], [(1, (.box [(.c (sl 3 cs_Vector a0))])), (2, (.arr false x9.length 1 (gl (csF .f32) x9)))]⟩ (Tt ∧ T2 ((Tt ∧ (((a1.getD x8.toNat default).length : Int) != (2 : Int)) = true) ∧ T4 Tt)) [.no, .no, .no, .dec true] [2, 6, 7, 8, 20, 21, 22, 34] [1, 2] ⟨tr, tr, tr, ⟨tr, b12⟩, tr, tr, tr, tr, tr⟩ ⟨rfl, rfl⟩
        · obtain ⟨v13, e14, e16⟩ := bind_some e16
          replace e16 := some_eq e16
          subst e16
          exact AW.rA ⟨[(2, (vp 1 0)), (6, (.v (.one (.arr 2)))), (7, (vI x8)), (8, (vc (sl 1 (csI .i64) (a1.getD x8.toNat default)))), (20, (vc (sl 1 (csL 1 (csI .i64)) a1))), (21, (vI (a1.length : Int))), (22, (vI x8)), (34, (vB v13))], [(1, (.box [(.c (sl 3 cs_Vector a0))])), (2, (.arr false x9.length 1 (gl (csF .f32) x9)))]⟩ (Tt ∧ T2 ((Tt ∧ (((a1.getD x8.toNat default).length : Int) != (2 : Int)) = false) ∧ T2 ((((Eqc (sl 1 (csI .i64) (a1.getD x8.toNat default))) ∧ (35 = 35 ∧ 1 = 1 ∧ ((Eqc (sl 3 cs_Vector a0)) ∧ Tt) ∧ Tt) ∧ Tt) ∧ CallOK Try.prog 34 [.one (sl 1 (csI .i64) (a1.getD x8.toNat default)), .one (.fn 35 1 fun j => [(pl 1 (csL 3 cs_Vector) a0)].getD j .nilptr)] [.one (.bool v13)]) ∧ Tt ∧ Tt))) [.no, .no, .no, .dec false, .no, .no, .call [.one (sl 1 (csI .i64) (a1.getD x8.toNat default)), .one (.fn 35 1 fun j => [(pl 1 (csL 3 cs_Vector) a0)].getD j .nilptr)] [.one (.bool v13)] [[.view]]] [2, 6, 7, 8, 20, 21, 22, 34] [1, 2] ⟨tr, tr, tr, ⟨tr, b12⟩, tr, tr, ⟨⟨rfl, ⟨rfl, rfl, ⟨⟨rfl, tr⟩, tr⟩⟩, tr⟩, ok_slices_ContainsFunc_int64_int64 K (a1.getD x8.toNat default) a0 v13 e14⟩, tr, tr⟩ ⟨rfl, rfl⟩
      refine thenQ_normal ?_
      rcases ite2_cases h with ⟨b17, h⟩ | ⟨b17, h⟩
      · refine AW.cond_t rfl b17 ?_
        refine AW.sA ⟨[(4, (.v (.one .nils))), (5, (vB false))], []⟩ (T2 Tt) [] [4, 5] [] ⟨tr, tr, tr⟩ ?_
        refine AW.ret ?_
        refine thenQ_ret ?_
        refine blockQ_ret ?_
        refine thenQ_ret ?_
        refine loopQ_ret ?_
        refine blockQ_ret ?_
        refine thenQ_ret ?_
        replace h := some_eq h
        subst h
        exact ⟨.inr rfl, retOK_of [(.one .nils), (.one (.c (.bool false)))] (by kernel_rfl) ⟨rfl, ⟨rfl, tr⟩, tr⟩ (of_decide_eq_true (by kernel_rfl))⟩
      · refine AW.cond_f rfl b17 ?_
        refine AW.skip ?_
        refine thenQ_normal ?_
        obtain ⟨c18, h⟩ := chk_some h
        obtain ⟨c19, h⟩ := chk_some h
        obtain ⟨c20, h⟩ := chk_some h
        obtain ⟨c21, h⟩ := chk_some h
        obtain ⟨v22, e23, h⟩ := bind_some h
        obtain ⟨v24, e25, h⟩ := bind_some h
        obtain ⟨c26, h⟩ := chk_some h
        refine AW.dA ⟨[(2, (vp 1 0)), (6, (.v (.one (.arr 2)))), (20, (vc (sl 1 (csL 1 (csI .i64)) a1))), (21, (vI (a1.length : Int))), (22, (vI x8))], [(1, (.box [(.c (sl 3 cs_Vector a0))])), (2, (.arr false (x9.set x8.toNat v24).length 1 (gl (csF .f32) (x9.set x8.toNat v24))))]⟩ ((T4 ((0 ≤ (1 : Int) ∧ (1 : Int) < ((a1.getD x8.toNat default).length : Int)) ∧ Tt ∧ (0 ≤ ((a1.getD x8.toNat default).getD ((1 : Int).toNat) default) ∧ ((a1.getD x8.toNat default).getD ((1 : Int).toNat) default) < (a0.length : Int)) ∧ Tt ∧ T2 ((0 ≤ (0 : Int) ∧ (0 : Int) < ((a1.getD x8.toNat default).length : Int)) ∧ Tt ∧ (0 ≤ ((a1.getD x8.toNat default).getD ((0 : Int).toNat) default) ∧ ((a1.getD x8.toNat default).getD ((0 : Int).toNat) default) < (a0.length : Int)) ∧ Tt ∧ ((((((.flt .f32 ((a0.getD (((a1.getD x8.toNat default).getD ((1 : Int).toNat) default).toNat) default).X).bits) : C) = (.flt .f32 ((a0.getD (((a1.getD x8.toNat default).getD ((1 : Int).toNat) default).toNat) default).X).bits)) ∧ (((.flt .f32 ((a0.getD (((a1.getD x8.toNat default).getD ((1 : Int).toNat) default).toNat) default).Y).bits) : C) = (.flt .f32 ((a0.getD (((a1.getD x8.toNat default).getD ((1 : Int).toNat) default).toNat) default).Y).bits)) ∧ (((.flt .f32 ((a0.getD (((a1.getD x8.toNat default).getD ((1 : Int).toNat) default).toNat) default).Z).bits) : C) = (.flt .f32 ((a0.getD (((a1.getD x8.toNat default).getD ((1 : Int).toNat) default).toNat) default).Z).bits)) ∧ Tt) ∧ ((((.flt .f32 ((a0.getD (((a1.getD x8.toNat default).getD ((0 : Int).toNat) default).toNat) default).X).bits) : C) = (.flt .f32 ((a0.getD (((a1.getD x8.toNat default).getD ((0 : Int).toNat) default).toNat) default).X).bits)) ∧ (((.flt .f32 ((a0.getD (((a1.getD x8.toNat default).getD ((0 : Int).toNat) default).toNat) default).Y).bits) : C) = (.flt .f32 ((a0.getD (((a1.getD x8.toNat default).getD ((0 : Int).toNat) default).toNat) default).Y).bits)) ∧ (((.flt .f32 ((a0.getD (((a1.getD x8.toNat default).getD ((0 : Int).toNat) default).toNat) default).Z).bits) : C) = (.flt .f32 ((a0.getD (((a1.getD x8.toNat default).getD ((0 : Int).toNat) default).toNat) default).Z).bits)) ∧ Tt) ∧ Tt) ∧ CallOK Try.prog 33 [.agg (cs_Vector (a0.getD (((a1.getD x8.toNat default).getD ((1 : Int).toNat) default).toNat) default)), .agg (cs_Vector (a0.getD (((a1.getD x8.toNat default).getD ((0 : Int).toNat) default).toNat) default))] [.agg (cs_Vector v22)]) ∧ ((((eF v22.X) ∧ (eF v22.Y) ∧ (eF v22.Z) ∧ Tt) ∧ Tt) ∧ CallOK Try.prog 32 [.agg (cs_Vector v22)] [.one (.flt .f32 v24.bits)]) ∧ (0 ≤ x8 ∧ x8 < (x9.length : Int)) ∧ Tt))) ∧ (((x9.set x8.toNat v24).length = x9.length ∧ SetOb x9.length 1 x8.toNat 0 1 (gl (csF .f32) x9) (gl (csF .f32) (x9.set x8.toNat v24)) ∧ ((List.range 1).map fun j => ((csF .f32) v24).getD (0 + j) .nilptr) = ((List.range 1).map fun j => gl (csF .f32) (x9.set x8.toNat v24) x8.toNat (0 + j)) ∧ ((((.flt .f32 v24.bits) : C) = (.flt .f32 v24.bits) ∧ Tt) ∧ Tt) ∧ (false = true → ∀ j, j < 1 → isSeq (gl (csF .f32) x9 x8.toNat (0 + j)) = false ∧ isSeq (gl (csF .f32) (x9.set x8.toNat v24) x8.toNat (0 + j)) = false)) ∧ Tt)) 17 [.no, .no, .no, .no, .no, .no, .no, .no, .no, .no, .no, .no, .no, .no, .call [.agg (cs_Vector (a0.getD (((a1.getD x8.toNat default).getD ((1 : Int).toNat) default).toNat) default)), .agg (cs_Vector (a0.getD (((a1.getD x8.toNat default).getD ((0 : Int).toNat) default).toNat) default))] [.agg (cs_Vector v22)] [[.view, .view, .view]], .call [.agg (cs_Vector v22)] [.one (.flt .f32 v24.bits)] [[.view]], .no, .set (x9.set x8.toNat v24).length (gl (csF .f32) (x9.set x8.toNat v24)) ((List.range 1).map fun j => ((csF .f32) v24).getD (0 + j) .nilptr)] [2, 6, 20, 21, 22] [1, 2] ⟨⟨tr, tr, tr, tr, c18, tr, c19, tr, tr, tr, c20, tr, c21, tr, ⟨⟨⟨rfl, rfl, rfl, tr⟩, ⟨rfl, rfl, rfl, tr⟩, tr⟩, ok_impl_LessVectors K (a0.getD (((a1.getD x8.toNat default).getD ((1 : Int).toNat) default).toNat) default) (a0.getD (((a1.getD x8.toNat default).getD ((0 : Int).toNat) default).toNat) default) v22 e23⟩, ⟨⟨⟨rfl, rfl, rfl, tr⟩, tr⟩, ok_impl_LongOf K v22 v24 e25⟩, c26, tr⟩, ⟨⟨List.length_set, gl_set, (gl_atp (lt_of_bound c26)).symm, ⟨⟨rfl, tr⟩, tr⟩, (fun h => nomatch h)⟩, tr⟩⟩ ?_
        refine blockQ_normal ?_
        refine thenQ_normal ?_
        refine AW.rA ⟨[(2, (vp 1 0)), (6, (.v (.one (.arr 2)))), (20, (vc (sl 1 (csL 1 (csI .i64)) a1))), (21, (vI (a1.length : Int))), (22, (vI (IntKind.i64.wrap (x8 + (1 : Int)))))], [(1, (.box [(.c (sl 3 cs_Vector a0))])), (2, (.arr false (x9.set x8.toNat v24).length 1 (gl (csF .f32) (x9.set x8.toNat v24))))]⟩ (T2 Tt) [] [2, 6, 20, 21, 22] [1, 2] ⟨tr, tr, tr⟩ ?_
        exact loopQ_normal (k, (IntKind.i64.wrap (x8 + (1 : Int))), (x9.set x8.toNat v24)) h (Nat.lt_succ_self k) (Sub.keep [2, 6, 20, 21, 22] [1, 2] (by kernel_rfl) (by kernel_rfl))
    · refine AW.cond_f rfl b10 ?_
      refine AW.exit ?_
      refine thenQ_exit ?_
      refine loopQ_exit ?_
      refine blockQ_exit ?_
      refine thenQ_normal ?_
      refine AW.sA ⟨[(4, (.v (.one (.arr 2)))), (5, (vB true))], [(2, (.arr false x9.length 1 (gl (csF .f32) x9)))]⟩ (Tt ∧ T2 Tt) [] [4, 5] [2] ⟨tr, tr, tr, tr⟩ ?_
      refine AW.ret ?_
      replace h := some_eq h
      subst h
      exact ⟨.inr rfl, retOK_of [(.one (.arr 2)), (.one (.c (.bool true)))] (by kernel_rfl) ⟨rfl, ⟨rfl, tr⟩, tr⟩ (of_decide_eq_true (by kernel_rfl))⟩

/-! impl.FarthestMove -/
def impl_FarthestMove_l1 (K : Nat) (a0 : (List Vector)) (a1 : (List Vector)) : Nat → F32 → Int → Int → Option (Int × F32 × Bool)
  | 0, _, _, _ => none
  | k + 1, x17, x18, x19 => ite2 ((decide (x18 < (a0.length : Int)))) (chk (0 ≤ x18 ∧ x18 < (a1.length : Int)) (chk (0 ≤ x18 ∧ x18 < (a0.length : Int)) ((impl_LessVectors K (a1.getD x18.toNat default) (a0.getD x18.toNat default)).bind fun v23 => (impl_LongOf K v23).bind fun v25 => (ite2 ((v25.gt x17)) (some true) (ite2 ((x17.ne x17)) (some (v25.eq v25)) (some false))).bind fun j29 => ite2 (j29) (impl_FarthestMove_l1 K a0 a1 k v25 (IntKind.i64.wrap (x18 + (1 : Int))) x18) (impl_FarthestMove_l1 K a0 a1 k x17 (IntKind.i64.wrap (x18 + (1 : Int))) x19)))) (some (x19, x17, true))

def impl_FarthestMove (K : Nat) (a0 : (List Vector)) (a1 : (List Vector)) : Option (Int × F32 × Bool) :=
  (ite2 ((decide ((a0.length : Int) < (1 : Int)))) (some true) (ite2 ((decide ((a0.length : Int) > (24 : Int)))) (some true) (some ((a1.length : Int) != (a0.length : Int))))).bind fun j3 => ite2 (j3) (some ((0 : Int), (Fl.mk (k := .f32) 0 (by decide)), false)) (chk (0 ≤ (0 : Int) ∧ (0 : Int) < (a1.length : Int)) (chk (0 ≤ (0 : Int) ∧ (0 : Int) < (a0.length : Int)) ((impl_LessVectors K (a1.getD ((0 : Int).toNat) default) (a0.getD ((0 : Int).toNat) default)).bind fun v8 => (impl_LongOf K v8).bind fun v10 => impl_FarthestMove_l1 K a0 a1 K v10 (0 : Int) (0 : Int))))

theorem ok_impl_FarthestMove (K : Nat) (a0 : (List Vector)) (a1 : (List Vector)) (o : (Int × F32 × Bool)) (h : impl_FarthestMove K a0 a1 = some o) : CallOK Try.prog 12 [.one (sl 3 cs_Vector a0), .one (sl 3 cs_Vector a1)] [.one (.int .i64 o.1), .one (.flt .f32 o.2.1.bits), .one (.bool o.2.2)] := by
  refine callOK_of_AW Try.func12 rfl (by kernel_rfl) (Nat.le_of_ble_eq_true (by kernel_rfl)) ?_
  intro w0
  unfold impl_FarthestMove at h
  refine AW.sA ⟨[(0, (vc (sl 3 cs_Vector a0))), (1, (vc (sl 3 cs_Vector a1)))], []⟩ (Tt ∧ T2 Tt) [] [0, 1] [] ⟨tr, tr, tr, tr⟩ ?_
  refine AW.seq ?_
  refine AW.seq ?_
  obtain ⟨j3, e4, h⟩ := bind_some h
  refine AW.join1 (s2 := ⟨[(0, (vc (sl 3 cs_Vector a0))), (1, (vc (sl 3 cs_Vector a1))), (25, (vB j3))], []⟩) ?_ ?_
  · rcases ite2_cases e4 with ⟨b1, e4⟩ | ⟨b1, e4⟩
    · replace e4 := some_eq e4
      subst e4
      exact AW.rA ⟨[(0, (vc (sl 3 cs_Vector a0))), (1, (vc (sl 3 cs_Vector a1))), (25, (vB true))], []⟩ (Tt ∧ T2 ((Tt ∧ (decide ((a0.length : Int) < (1 : Int))) = true) ∧ Tt ∧ T2 (T4 (T4 Tt)))) [.no, .no, .no, .dec true] [0, 1, 25] [] ⟨tr, tr, tr, ⟨tr, b1⟩, tr, tr, tr, tr, tr, tr, tr, tr, tr, tr, tr, tr⟩ ⟨rfl, rfl⟩
    · rcases ite2_cases e4 with ⟨b2, e4⟩ | ⟨b2, e4⟩
      · replace e4 := some_eq e4
        subst e4
        exact AW.rA ⟨[(0, (vc (sl 3 cs_Vector a0))), (1, (vc (sl 3 cs_Vector a1))), (25, (vB true))], []⟩ (Tt ∧ T2 ((Tt ∧ (decide ((a0.length : Int) < (1 : Int))) = false) ∧ T4 ((Tt ∧ (decide ((a0.length : Int) > (24 : Int))) = true) ∧ T2 (T4 Tt)))) [.no, .no, .no, .dec false, .no, .no, .no, .no, .dec true] [0, 1, 25] [] ⟨tr, tr, tr, ⟨tr, b1⟩, tr, tr, tr, tr, ⟨tr, b2⟩, tr, tr, tr, tr, tr, tr, tr⟩ ⟨rfl, rfl⟩
      · replace e4 := some_eq e4
        subst e4
        exact AW.rA ⟨[(0, (vc (sl 3 cs_Vector a0))), (1, (vc (sl 3 cs_Vector a1))), (25, (vB ((a1.length : Int) != (a0.length : Int))))], []⟩ (Tt ∧ T2 ((Tt ∧ (decide ((a0.length : Int) < (1 : Int))) = false) ∧ T4 ((Tt ∧ (decide ((a0.length : Int) > (24 : Int))) = false) ∧ T2 (T4 Tt)))) [.no, .no, .no, .dec false, .no, .no, .no, .no, .dec false] [0, 1, 25] [] ⟨tr, tr, tr, ⟨tr, b1⟩, tr, tr, tr, tr, ⟨tr, b2⟩, tr, tr, tr, tr, tr, tr, tr⟩ ⟨rfl, rfl⟩
  refine thenQ_normal ?_
  rcases ite2_cases h with ⟨b5, h⟩ | ⟨b5, h⟩
  · refine AW.cond_t rfl b5 ?_
    refine AW.sA ⟨[(4, (vI (0 : Int))), (5, (vc (.flt .f32 (Fl.mk (k := .f32) 0 (by decide)).bits))), (6, (vB false))], []⟩ (Tt ∧ T2 Tt) [] [4, 5, 6] [] ⟨tr, tr, tr, tr⟩ ?_
    refine AW.ret ?_
    refine thenQ_ret ?_
    replace h := some_eq h
    subst h
    exact ⟨.inr rfl, retOK_of [(.one (cI (0 : Int))), (.one (cF (Fl.mk (k := .f32) 0 (by decide)))), (.one (.c (.bool false)))] (by kernel_rfl) ⟨⟨rfl, tr⟩, ⟨rfl, tr⟩, ⟨rfl, tr⟩, tr⟩ (of_decide_eq_true (by kernel_rfl))⟩
  · refine AW.cond_f rfl b5 ?_
    refine AW.skip ?_
    refine thenQ_normal ?_
    refine AW.seq ?_
    obtain ⟨c6, h⟩ := chk_some h
    obtain ⟨c7, h⟩ := chk_some h
    obtain ⟨v8, e9, h⟩ := bind_some h
    obtain ⟨v10, e11, h⟩ := bind_some h
    refine AW.dA ⟨[(0, (vc (sl 3 cs_Vector a0))), (1, (vc (sl 3 cs_Vector a1))), (7, (vI (0 : Int))), (8, (vc (.flt .f32 v10.bits)))], []⟩ ((Tt ∧ (0 ≤ (0 : Int) ∧ (0 : Int) < (a1.length : Int)) ∧ T2 ((0 ≤ (0 : Int) ∧ (0 : Int) < (a0.length : Int)) ∧ Tt ∧ ((((eF ((a1.getD ((0 : Int).toNat) default).X)) ∧ (eF ((a1.getD ((0 : Int).toNat) default).Y)) ∧ (eF ((a1.getD ((0 : Int).toNat) default).Z)) ∧ Tt) ∧ ((eF ((a0.getD ((0 : Int).toNat) default).X)) ∧ (eF ((a0.getD ((0 : Int).toNat) default).Y)) ∧ (eF ((a0.getD ((0 : Int).toNat) default).Z)) ∧ Tt) ∧ Tt) ∧ CallOK Try.prog 33 [.agg (cs_Vector (a1.getD ((0 : Int).toNat) default)), .agg (cs_Vector (a0.getD ((0 : Int).toNat) default))] [.agg (cs_Vector v8)]) ∧ ((((eF v8.X) ∧ (eF v8.Y) ∧ (eF v8.Z) ∧ Tt) ∧ Tt) ∧ CallOK Try.prog 32 [.agg (cs_Vector v8)] [.one (.flt .f32 v10.bits)]) ∧ T2 Tt)) ∧ (Tt)) 10 [.no, .no, .no, .no, .no, .no, .call [.agg (cs_Vector (a1.getD ((0 : Int).toNat) default)), .agg (cs_Vector (a0.getD ((0 : Int).toNat) default))] [.agg (cs_Vector v8)] [[.view, .view, .view]], .call [.agg (cs_Vector v8)] [.one (.flt .f32 v10.bits)] [[.view]]] [0, 1, 7, 8] [] ⟨⟨tr, c6, tr, tr, c7, tr, ⟨⟨⟨rfl, rfl, rfl, tr⟩, ⟨rfl, rfl, rfl, tr⟩, tr⟩, ok_impl_LessVectors K (a1.getD ((0 : Int).toNat) default) (a0.getD ((0 : Int).toNat) default) v8 e9⟩, ⟨⟨⟨rfl, rfl, rfl, tr⟩, tr⟩, ok_impl_LongOf K v8 v10 e11⟩, tr, tr, tr⟩, tr⟩ ?_
    refine thenQ_normal ?_
    refine AW.seq ?_
    refine AW.sA ⟨[(0, (vc (sl 3 cs_Vector a0))), (1, (vc (sl 3 cs_Vector a1))), (7, (vI (0 : Int))), (8, (vc (.flt .f32 v10.bits))), (35, (vI (a0.length : Int))), (36, (vI (0 : Int)))], []⟩ (Tt ∧ T2 Tt) [] [0, 1, 7, 8, 35, 36] [] ⟨tr, tr, tr, tr⟩ ?_
    refine AW.block ?_
    refine AW.loopQ (σ := Nat × F32 × Int × Int) (fun p => ⟨[(0, (vc (sl 3 cs_Vector a0))), (1, (vc (sl 3 cs_Vector a1))), (7, (vI p.2.2.2)), (8, (vc (.flt .f32 p.2.1.bits))), (35, (vI (a0.length : Int))), (36, (vI p.2.2.1))], []⟩) (fun p => impl_FarthestMove_l1 K a0 a1 p.1 p.2.1 p.2.2.1 p.2.2.2 = some o) (fun p => p.1) (K, v10, (0 : Int), (0 : Int)) h ?_
    clear h
    rintro ⟨k, x17, x18, x19⟩ h
    replace h : impl_FarthestMove_l1 K a0 a1 k x17 x18 x19 = some o := h
    show AW _ _ (⟨[(0, (vc (sl 3 cs_Vector a0))), (1, (vc (sl 3 cs_Vector a1))), (7, (vI x19)), (8, (vc (.flt .f32 x17.bits))), (35, (vI (a0.length : Int))), (36, (vI x18))], []⟩ : St) _
    obtain _ | k := k
    · rw [impl_FarthestMove_l1] at h; cases h
    rw [impl_FarthestMove_l1] at h
    refine AW.sA ⟨[(0, (vc (sl 3 cs_Vector a0))), (1, (vc (sl 3 cs_Vector a1))), (7, (vI x19)), (8, (vc (.flt .f32 x17.bits))), (35, (vI (a0.length : Int))), (36, (vI x18)), (37, (vB (decide (x18 < (a0.length : Int)))))], []⟩ (Tt ∧ Tt) [] [0, 1, 7, 8, 35, 36, 37] [] ⟨tr, tr⟩ ?_
    refine AW.seq ?_
    rcases ite2_cases h with ⟨b20, h⟩ | ⟨b20, h⟩
    · refine AW.cond_t rfl b20 ?_
      refine AW.skip ?_
      refine thenQ_normal ?_
      refine AW.seq ?_
      refine AW.block ?_
      refine AW.sA ⟨[(0, (vc (sl 3 cs_Vector a0))), (1, (vc (sl 3 cs_Vector a1))), (7, (vI x19)), (8, (vc (.flt .f32 x17.bits))), (9, (vI x18)), (35, (vI (a0.length : Int))), (36, (vI x18))], []⟩ (T2 Tt) [] [0, 1, 7, 8, 9, 35, 36] [] ⟨tr, tr, tr⟩ ?_
      refine AW.seq ?_
      obtain ⟨c21, h⟩ := chk_some h
      obtain ⟨c22, h⟩ := chk_some h
      obtain ⟨v23, e24, h⟩ := bind_some h
      obtain ⟨v25, e26, h⟩ := bind_some h
      refine AW.dA ⟨[(0, (vc (sl 3 cs_Vector a0))), (1, (vc (sl 3 cs_Vector a1))), (7, (vI x19)), (8, (vc (.flt .f32 x17.bits))), (9, (vI x18)), (10, (vc (.flt .f32 v25.bits))), (35, (vI (a0.length : Int))), (36, (vI x18))], []⟩ ((T2 ((0 ≤ x18 ∧ x18 < (a1.length : Int)) ∧ Tt ∧ T2 ((0 ≤ x18 ∧ x18 < (a0.length : Int)) ∧ Tt ∧ ((((eF ((a1.getD x18.toNat default).X)) ∧ (eF ((a1.getD x18.toNat default).Y)) ∧ (eF ((a1.getD x18.toNat default).Z)) ∧ Tt) ∧ ((eF ((a0.getD x18.toNat default).X)) ∧ (eF ((a0.getD x18.toNat default).Y)) ∧ (eF ((a0.getD x18.toNat default).Z)) ∧ Tt) ∧ Tt) ∧ CallOK Try.prog 33 [.agg (cs_Vector (a1.getD x18.toNat default)), .agg (cs_Vector (a0.getD x18.toNat default))] [.agg (cs_Vector v23)]) ∧ ((((eF v23.X) ∧ (eF v23.Y) ∧ (eF v23.Z) ∧ Tt) ∧ Tt) ∧ CallOK Try.prog 32 [.agg (cs_Vector v23)] [.one (.flt .f32 v25.bits)]) ∧ Tt ∧ Tt))) ∧ (Tt)) 11 [.no, .no, .no, .no, .no, .no, .no, .no, .call [.agg (cs_Vector (a1.getD x18.toNat default)), .agg (cs_Vector (a0.getD x18.toNat default))] [.agg (cs_Vector v23)] [[.view, .view, .view]], .call [.agg (cs_Vector v23)] [.one (.flt .f32 v25.bits)] [[.view]]] [0, 1, 7, 8, 9, 10, 35, 36] [] ⟨⟨tr, tr, c21, tr, tr, tr, c22, tr, ⟨⟨⟨rfl, rfl, rfl, tr⟩, ⟨rfl, rfl, rfl, tr⟩, tr⟩, ok_impl_LessVectors K (a1.getD x18.toNat default) (a0.getD x18.toNat default) v23 e24⟩, ⟨⟨⟨rfl, rfl, rfl, tr⟩, tr⟩, ok_impl_LongOf K v23 v25 e26⟩, tr, tr⟩, tr⟩ ?_
      refine thenQ_normal ?_
      refine AW.seq ?_
      obtain ⟨j29, e30, h⟩ := bind_some h
      refine AW.join1 (s2 := ⟨[(0, (vc (sl 3 cs_Vector a0))), (1, (vc (sl 3 cs_Vector a1))), (7, (vI x19)), (8, (vc (.flt .f32 x17.bits))), (9, (vI x18)), (10, (vc (.flt .f32 v25.bits))), (35, (vI (a0.length : Int))), (36, (vI x18)), (61, (vB j29))], []⟩) ?_ ?_
      · rcases ite2_cases e30 with ⟨b27, e30⟩ | ⟨b27, e30⟩
        · replace e30 := some_eq e30
          subst e30
          exact AW.rA ⟨[(0, (vc (sl 3 cs_Vector a0))), (1, (vc (sl 3 cs_Vector a1))), (7, (vI x19)), (8, (vc (.flt .f32 x17.bits))), (9, (vI x18)), (10, (vc (.flt .f32 v25.bits))), (35, (vI (a0.length : Int))), (36, (vI x18)), (61, (vB true))], []⟩ (Tt ∧ T2 ((Tt ∧ (v25.gt x17) = true) ∧ Tt ∧ T4 (T4 Tt))) [.no, .no, .no, .dec true] [0, 1, 7, 8, 9, 10, 35, 36, 61] [] ⟨tr, tr, tr, ⟨tr, b27⟩, tr, tr, tr, tr, tr, tr, tr, tr, tr, tr⟩ ⟨rfl, rfl⟩
        · rcases ite2_cases e30 with ⟨b28, e30⟩ | ⟨b28, e30⟩
          · replace e30 := some_eq e30
            subst e30
            exact AW.rA ⟨[(0, (vc (sl 3 cs_Vector a0))), (1, (vc (sl 3 cs_Vector a1))), (7, (vI x19)), (8, (vc (.flt .f32 x17.bits))), (9, (vI x18)), (10, (vc (.flt .f32 v25.bits))), (35, (vI (a0.length : Int))), (36, (vI x18)), (61, (vB (v25.eq v25)))], []⟩ (Tt ∧ T2 ((Tt ∧ (v25.gt x17) = false) ∧ Tt ∧ T2 ((Tt ∧ (x17.ne x17) = true) ∧ Tt ∧ T4 Tt))) [.no, .no, .no, .dec false, .no, .no, .no, .dec true] [0, 1, 7, 8, 9, 10, 35, 36, 61] [] ⟨tr, tr, tr, ⟨tr, b27⟩, tr, tr, tr, ⟨tr, b28⟩, tr, tr, tr, tr, tr, tr⟩ ⟨rfl, rfl⟩
          · replace e30 := some_eq e30
            subst e30
            exact AW.rA ⟨[(0, (vc (sl 3 cs_Vector a0))), (1, (vc (sl 3 cs_Vector a1))), (7, (vI x19)), (8, (vc (.flt .f32 x17.bits))), (9, (vI x18)), (10, (vc (.flt .f32 v25.bits))), (35, (vI (a0.length : Int))), (36, (vI x18)), (61, (vB false))], []⟩ (Tt ∧ T2 ((Tt ∧ (v25.gt x17) = false) ∧ Tt ∧ T2 ((Tt ∧ (x17.ne x17) = false) ∧ Tt ∧ T4 Tt))) [.no, .no, .no, .dec false, .no, .no, .no, .dec false] [0, 1, 7, 8, 9, 10, 35, 36, 61] [] ⟨tr, tr, tr, ⟨tr, b27⟩, tr, tr, tr, ⟨tr, b28⟩, tr, tr, tr, tr, tr, tr⟩ ⟨rfl, rfl⟩
      refine thenQ_normal ?_
      rcases ite2_cases h with ⟨b31, h⟩ | ⟨b31, h⟩
      · refine AW.cond_t rfl b31 ?_
        refine AW.rA ⟨[(0, (vc (sl 3 cs_Vector a0))), (1, (vc (sl 3 cs_Vector a1))), (7, (vI x18)), (8, (vc (.flt .f32 v25.bits))), (35, (vI (a0.length : Int))), (36, (vI x18))], []⟩ (T4 Tt) [] [0, 1, 7, 8, 35, 36] [] ⟨tr, tr, tr, tr, tr⟩ ?_
        refine blockQ_normal ?_
        refine thenQ_normal ?_
        refine AW.rA ⟨[(0, (vc (sl 3 cs_Vector a0))), (1, (vc (sl 3 cs_Vector a1))), (7, (vI x18)), (8, (vc (.flt .f32 v25.bits))), (35, (vI (a0.length : Int))), (36, (vI (IntKind.i64.wrap (x18 + (1 : Int)))))], []⟩ (T2 Tt) [] [0, 1, 7, 8, 35, 36] [] ⟨tr, tr, tr⟩ ?_
        exact loopQ_normal (k, v25, (IntKind.i64.wrap (x18 + (1 : Int))), x18) h (Nat.lt_succ_self k) (Sub.keep [0, 1, 7, 8, 35, 36] [] (by kernel_rfl) (by kernel_rfl))
      · refine AW.cond_f rfl b31 ?_
        refine AW.skip ?_
        refine blockQ_normal ?_
        refine thenQ_normal ?_
        refine AW.rA ⟨[(0, (vc (sl 3 cs_Vector a0))), (1, (vc (sl 3 cs_Vector a1))), (7, (vI x19)), (8, (vc (.flt .f32 x17.bits))), (35, (vI (a0.length : Int))), (36, (vI (IntKind.i64.wrap (x18 + (1 : Int)))))], []⟩ (T2 Tt) [] [0, 1, 7, 8, 35, 36] [] ⟨tr, tr, tr⟩ ?_
        exact loopQ_normal (k, x17, (IntKind.i64.wrap (x18 + (1 : Int))), x19) h (Nat.lt_succ_self k) (Sub.keep [0, 1, 7, 8, 35, 36] [] (by kernel_rfl) (by kernel_rfl))
    · refine AW.cond_f rfl b20 ?_
      refine AW.exit ?_
      refine thenQ_exit ?_
      refine loopQ_exit ?_
      refine blockQ_exit ?_
      refine thenQ_normal ?_
      refine AW.sA ⟨[(4, (vI x19)), (5, (vc (.flt .f32 x17.bits))), (6, (vB true))], []⟩ (Tt ∧ T4 Tt) [] [4, 5, 6] [] ⟨tr, tr, tr, tr, tr, tr⟩ ?_
      refine AW.ret ?_
      replace h := some_eq h
      subst h
      exact ⟨.inr rfl, retOK_of [(.one (cI x19)), (.one (cF x17)), (.one (.c (.bool true)))] (by kernel_rfl) ⟨⟨rfl, tr⟩, ⟨rfl, tr⟩, ⟨rfl, tr⟩, tr⟩ (of_decide_eq_true (by kernel_rfl))⟩

/-! impl.MiddleOf -/
def impl_MiddleOf_l1 (K : Nat) (a0 : (List Vector)) : Nat → Int → F32 → F32 → F32 → Option (Vector × Bool)
  | 0, _, _, _, _ => none
  | k + 1, x9, x10, x11, x12 => ite2 ((decide (x9 < (a0.length : Int)))) (chk (0 ≤ x9 ∧ x9 < (a0.length : Int)) ((impl_AddVectors K (Vector.mk x10 x11 x12) (a0.getD x9.toNat default)).bind fun v15 => impl_MiddleOf_l1 K a0 k (IntKind.i64.wrap (x9 + (1 : Int))) v15.X v15.Y v15.Z)) ((impl_ScaleVector K (Vector.mk x10 x11 x12) ((Fl.mk (k := .f32) 1065353216 (by decide)).div (Fl.ofInt .f32 (a0.length : Int)))).bind fun v17 => some (v17, true))

def impl_MiddleOf (K : Nat) (a0 : (List Vector)) : Option (Vector × Bool) :=
  (ite2 ((decide ((a0.length : Int) < (1 : Int)))) (some true) (some (decide ((a0.length : Int) > (24 : Int))))).bind fun j2 => ite2 (j2) (some ((Vector.mk (default : F32) (default : F32) (default : F32)), false)) (impl_MiddleOf_l1 K a0 K (0 : Int) (default : F32) (default : F32) (default : F32))

theorem ok_impl_MiddleOf (K : Nat) (a0 : (List Vector)) (o : (Vector × Bool)) (h : impl_MiddleOf K a0 = some o) : CallOK Try.prog 13 [.one (sl 3 cs_Vector a0)] [.agg (cs_Vector o.1), .one (.bool o.2)] := by
  refine callOK_of_AW Try.func13 rfl (by kernel_rfl) (Nat.le_of_ble_eq_true (by kernel_rfl)) ?_
  intro w0
  unfold impl_MiddleOf at h
  refine AW.sA ⟨[(0, (vc (sl 3 cs_Vector a0))), (2, (vp 1 0))], [(1, (.box [(cF (default : F32)), (cF (default : F32)), (cF (default : F32))]))]⟩ (T2 Tt) [.box 1] [0, 2] [1] ⟨tr, tr, tr⟩ ?_
  refine AW.seq ?_
  refine AW.seq ?_
  obtain ⟨j2, e3, h⟩ := bind_some h
  refine AW.join1 (s2 := ⟨[(0, (vc (sl 3 cs_Vector a0))), (2, (vp 1 0)), (14, (vB j2))], [(1, (.box [(cF (default : F32)), (cF (default : F32)), (cF (default : F32))]))]⟩) ?_ ?_
  · rcases ite2_cases e3 with ⟨b1, e3⟩ | ⟨b1, e3⟩
    · replace e3 := some_eq e3
      subst e3
      exact AW.rA ⟨[(0, (vc (sl 3 cs_Vector a0))), (2, (vp 1 0)), (14, (vB true))], [(1, (.box [(cF (default : F32)), (cF (default : F32)), (cF (default : F32))]))]⟩ (Tt ∧ T2 ((Tt ∧ (decide ((a0.length : Int) < (1 : Int))) = true) ∧ T4 Tt)) [.no, .no, .no, .dec true] [0, 2, 14] [1] ⟨tr, tr, tr, ⟨tr, b1⟩, tr, tr, tr, tr, tr⟩ ⟨rfl, rfl⟩
    · replace e3 := some_eq e3
      subst e3
      exact AW.rA ⟨[(0, (vc (sl 3 cs_Vector a0))), (2, (vp 1 0)), (14, (vB (decide ((a0.length : Int) > (24 : Int)))))], [(1, (.box [(cF (default : F32)), (cF (default : F32)), (cF (default : F32))]))]⟩ (Tt ∧ T2 ((Tt ∧ (decide ((a0.length : Int) < (1 : Int))) = false) ∧ T4 Tt)) [.no, .no, .no, .dec false] [0, 2, 14] [1] ⟨tr, tr, tr, ⟨tr, b1⟩, tr, tr, tr, tr, tr⟩ ⟨rfl, rfl⟩
  refine thenQ_normal ?_
  rcases ite2_cases h with ⟨b4, h⟩ | ⟨b4, h⟩
  · refine AW.cond_t rfl b4 ?_
    refine AW.sA ⟨[(2, (vp 1 0)), (3, (vB false))], [(1, (.box [(cF (default : F32)), (cF (default : F32)), (cF (default : F32))]))]⟩ (Tt ∧ T2 Tt) [] [2, 3] [1] ⟨tr, tr, tr, tr⟩ ?_
    refine AW.ret ?_
    refine thenQ_ret ?_
    replace h := some_eq h
    subst h
    exact ⟨.inr rfl, retOK_of [(.agg [(cF (default : F32)), (cF (default : F32)), (cF (default : F32))]), (.one (.c (.bool false)))] (by kernel_rfl) ⟨⟨⟨rfl, tr⟩, ⟨rfl, tr⟩, ⟨rfl, tr⟩, tr⟩, ⟨rfl, tr⟩, tr⟩ (of_decide_eq_true (by kernel_rfl))⟩
  · refine AW.cond_f rfl b4 ?_
    refine AW.skip ?_
    refine thenQ_normal ?_
    refine AW.sC (Tt ∧ Tt) [.box 2] [0, 2, 4] [1, 2] ⟨tr, tr⟩ ?_
    refine AW.seq ?_
    refine AW.sA ⟨[(0, (vc (sl 3 cs_Vector a0))), (2, (vp 1 0)), (4, (vp 2 0)), (16, (vc (sl 3 cs_Vector a0))), (17, (vI (a0.length : Int))), (18, (vI (0 : Int)))], [(1, (.box [(cF (default : F32)), (cF (default : F32)), (cF (default : F32))])), (2, (.box [(cF (default : F32)), (cF (default : F32)), (cF (default : F32))]))]⟩ (Tt ∧ T2 Tt) [] [0, 2, 4, 16, 17, 18] [1, 2] ⟨tr, tr, tr, tr⟩ ?_
    refine AW.block ?_
    refine AW.loopQ (σ := Nat × Int × F32 × F32 × F32) (fun p => ⟨[(0, (vc (sl 3 cs_Vector a0))), (2, (vp 1 0)), (4, (vp 2 0)), (16, (vc (sl 3 cs_Vector a0))), (17, (vI (a0.length : Int))), (18, (vI p.2.1))], [(1, (.box [(cF (default : F32)), (cF (default : F32)), (cF (default : F32))])), (2, (.box [(cF p.2.2.1), (cF p.2.2.2.1), (cF p.2.2.2.2)]))]⟩) (fun p => impl_MiddleOf_l1 K a0 p.1 p.2.1 p.2.2.1 p.2.2.2.1 p.2.2.2.2 = some o) (fun p => p.1) (K, (0 : Int), (default : F32), (default : F32), (default : F32)) h ?_
    clear h
    rintro ⟨k, x9, x10, x11, x12⟩ h
    replace h : impl_MiddleOf_l1 K a0 k x9 x10 x11 x12 = some o := h
    show AW _ _ (⟨[(0, (vc (sl 3 cs_Vector a0))), (2, (vp 1 0)), (4, (vp 2 0)), (16, (vc (sl 3 cs_Vector a0))), (17, (vI (a0.length : Int))), (18, (vI x9))], [(1, (.box [(cF (default : F32)), (cF (default : F32)), (cF (default : F32))])), (2, (.box [(cF x10), (cF x11), (cF x12)]))]⟩ : St) _
    obtain _ | k := k
    · rw [impl_MiddleOf_l1] at h; cases h
    rw [impl_MiddleOf_l1] at h
    refine AW.sA ⟨[(0, (vc (sl 3 cs_Vector a0))), (2, (vp 1 0)), (4, (vp 2 0)), (16, (vc (sl 3 cs_Vector a0))), (17, (vI (a0.length : Int))), (18, (vI x9)), (19, (vB (decide (x9 < (a0.length : Int)))))], [(1, (.box [(cF (default : F32)), (cF (default : F32)), (cF (default : F32))])), (2, (.box [(cF x10), (cF x11), (cF x12)]))]⟩ (Tt ∧ Tt) [] [0, 2, 4, 16, 17, 18, 19] [1, 2] ⟨tr, tr⟩ ?_
    refine AW.seq ?_
    rcases ite2_cases h with ⟨b13, h⟩ | ⟨b13, h⟩
    · refine AW.cond_t rfl b13 ?_
      refine AW.skip ?_
      refine thenQ_normal ?_
      refine AW.seq ?_
      refine AW.block ?_
      refine AW.seq ?_
      obtain ⟨c14, h⟩ := chk_some h
      refine AW.tC ((0 ≤ x9 ∧ x9 < (a0.length : Int)) ∧ Tt ∧ T2 Tt) [.no, .no, .box 5] [0, 2, 4, 6, 16, 17, 18] [1, 2, 5] ⟨c14, tr, tr, tr, tr⟩ ?_
      obtain ⟨v15, e16, h⟩ := bind_some h
      refine AW.rA ⟨[(0, (vc (sl 3 cs_Vector a0))), (2, (vp 1 0)), (4, (vp 2 0)), (16, (vc (sl 3 cs_Vector a0))), (17, (vI (a0.length : Int))), (18, (vI x9))], [(1, (.box [(cF (default : F32)), (cF (default : F32)), (cF (default : F32))])), (2, (.box [(cF v15.X), (cF v15.Y), (cF v15.Z)]))]⟩ (T2 (((((eF x10) ∧ (eF x11) ∧ (eF x12) ∧ Tt) ∧ ((eF ((a0.getD x9.toNat default).X)) ∧ (eF ((a0.getD x9.toNat default).Y)) ∧ (eF ((a0.getD x9.toNat default).Z)) ∧ Tt) ∧ Tt) ∧ CallOK Try.prog 36 [.agg (cs_Vector (Vector.mk x10 x11 x12)), .agg (cs_Vector (a0.getD x9.toNat default))] [.agg (cs_Vector v15)]) ∧ Tt ∧ Tt)) [.no, .no, .call [.agg (cs_Vector (Vector.mk x10 x11 x12)), .agg (cs_Vector (a0.getD x9.toNat default))] [.agg (cs_Vector v15)] [[.view, .view, .view]]] [0, 2, 4, 16, 17, 18] [1, 2] ⟨tr, tr, ⟨⟨⟨rfl, rfl, rfl, tr⟩, ⟨rfl, rfl, rfl, tr⟩, tr⟩, ok_impl_AddVectors K (Vector.mk x10 x11 x12) (a0.getD x9.toNat default) v15 e16⟩, tr, tr⟩ ?_
      refine blockQ_normal ?_
      refine thenQ_normal ?_
      refine AW.rA ⟨[(0, (vc (sl 3 cs_Vector a0))), (2, (vp 1 0)), (4, (vp 2 0)), (16, (vc (sl 3 cs_Vector a0))), (17, (vI (a0.length : Int))), (18, (vI (IntKind.i64.wrap (x9 + (1 : Int)))))], [(1, (.box [(cF (default : F32)), (cF (default : F32)), (cF (default : F32))])), (2, (.box [(cF v15.X), (cF v15.Y), (cF v15.Z)]))]⟩ (T2 Tt) [] [0, 2, 4, 16, 17, 18] [1, 2] ⟨tr, tr, tr⟩ ?_
      exact loopQ_normal (k, (IntKind.i64.wrap (x9 + (1 : Int))), v15.X, v15.Y, v15.Z) h (Nat.lt_succ_self k) (Sub.keep [0, 2, 4, 16, 17, 18] [1, 2] (by kernel_rfl) (by kernel_rfl))
    · refine AW.cond_f rfl b13 ?_
      refine AW.exit ?_
      refine thenQ_exit ?_
      refine loopQ_exit ?_
      refine blockQ_exit ?_
      refine thenQ_normal ?_
      refine AW.seq ?_
      obtain ⟨v17, e18, h⟩ := bind_some h
      refine AW.tA ⟨[(2, (vp 1 0)), (3, (vB true))], [(1, (.box [(cF v17.X), (cF v17.Y), (cF v17.Z)]))]⟩ (Tt ∧ T4 (((((eF x10) ∧ (eF x11) ∧ (eF x12) ∧ Tt) ∧ (eF ((Fl.mk (k := .f32) 1065353216 (by decide)).div (Fl.ofInt .f32 (a0.length : Int)))) ∧ Tt) ∧ CallOK Try.prog 37 [.agg (cs_Vector (Vector.mk x10 x11 x12)), .one (.flt .f32 ((Fl.mk (k := .f32) 1065353216 (by decide)).div (Fl.ofInt .f32 (a0.length : Int))).bits)] [.agg (cs_Vector v17)]) ∧ T2 Tt)) [.no, .no, .no, .no, .no, .call [.agg (cs_Vector (Vector.mk x10 x11 x12)), .one (.flt .f32 ((Fl.mk (k := .f32) 1065353216 (by decide)).div (Fl.ofInt .f32 (a0.length : Int))).bits)] [.agg (cs_Vector v17)] [[.view, .view, .view]]] [2, 3] [1] ⟨tr, tr, tr, tr, tr, ⟨⟨⟨rfl, rfl, rfl, tr⟩, rfl, tr⟩, ok_impl_ScaleVector K (Vector.mk x10 x11 x12) ((Fl.mk (k := .f32) 1065353216 (by decide)).div (Fl.ofInt .f32 (a0.length : Int))) v17 e18⟩, tr, tr, tr⟩ ?_
      refine AW.ret ?_
      replace h := some_eq h
      subst h
      exact ⟨.inr rfl, retOK_of [(.agg [(cF v17.X), (cF v17.Y), (cF v17.Z)]), (.one (.c (.bool true)))] (by kernel_rfl) ⟨⟨⟨rfl, tr⟩, ⟨rfl, tr⟩, ⟨rfl, tr⟩, tr⟩, ⟨rfl, tr⟩, tr⟩ (of_decide_eq_true (by kernel_rfl))⟩

/-! impl.WorldOf -/
def impl_WorldOf (K : Nat) (a0 : Skeleton) (a1 : Pose) : Option ((List Turn) × (List Vector) × Bool) :=
  (impl_IsPose K a0 a1).bind fun v1 => ite2 ((!v1)) (some (([] : (List Turn)), ([] : (List Vector)), false)) ((impl_Skeleton_world K a0 a1).bind fun v4 => some (v4.1, v4.2, true))

theorem ok_impl_WorldOf (K : Nat) (a0 : Skeleton) (a1 : Pose) (o : ((List Turn) × (List Vector) × Bool)) (h : impl_WorldOf K a0 a1 = some o) : CallOK Try.prog 14 [.agg (cs_Skeleton a0), .agg (cs_Pose a1)] [.one (sl 4 cs_Turn o.1), .one (sl 3 cs_Vector o.2.1), .one (.bool o.2.2)] := by
  refine callOK_of_AW Try.func14 rfl (by kernel_rfl) (Nat.le_of_ble_eq_true (by kernel_rfl)) ?_
  intro w0
  unfold impl_WorldOf at h
  refine AW.sC (Tt ∧ T4 Tt) [.box 1, .box 2] [2, 3] [1, 2] ⟨tr, tr, tr, tr, tr, tr⟩ ?_
  refine AW.seq ?_
  refine AW.seq ?_
  obtain ⟨v1, e2, h⟩ := bind_some h
  refine AW.tA ⟨[(2, (vp 1 0)), (3, (vp 2 0)), (12, (vB (!v1)))], [(1, (.box [(.c (sl 4 cs_Bone a0.Bones))])), (2, (.box [(cF a1.Root.X), (cF a1.Root.Y), (cF a1.Root.Z), (.c (sl 4 cs_Turn a1.Turns))]))]⟩ (T2 (((((Eqc (sl 4 cs_Bone a0.Bones)) ∧ Tt) ∧ ((eF a1.Root.X) ∧ (eF a1.Root.Y) ∧ (eF a1.Root.Z) ∧ (Eqc (sl 4 cs_Turn a1.Turns)) ∧ Tt) ∧ Tt) ∧ CallOK Try.prog 30 [.agg (cs_Skeleton a0), .agg (cs_Pose a1)] [.one (.bool v1)]) ∧ Tt ∧ Tt)) [.no, .no, .call [.agg (cs_Skeleton a0), .agg (cs_Pose a1)] [.one (.bool v1)] [[.view]]] [2, 3, 12] [1, 2] ⟨tr, tr, ⟨⟨⟨rfl, tr⟩, ⟨rfl, rfl, rfl, rfl, tr⟩, tr⟩, ok_impl_IsPose K a0 a1 v1 e2⟩, tr, tr⟩ ?_
  rcases ite2_cases h with ⟨b3, h⟩ | ⟨b3, h⟩
  · refine AW.cond_t rfl b3 ?_
    refine AW.sA ⟨[(4, (.v (.one .nils))), (5, (.v (.one .nils))), (6, (vB false))], []⟩ (Tt ∧ T2 Tt) [] [4, 5, 6] [] ⟨tr, tr, tr, tr⟩ ?_
    refine AW.ret ?_
    refine thenQ_ret ?_
    replace h := some_eq h
    subst h
    exact ⟨.inr rfl, retOK_of [(.one .nils), (.one .nils), (.one (.c (.bool false)))] (by kernel_rfl) ⟨rfl, rfl, ⟨rfl, tr⟩, tr⟩ (of_decide_eq_true (by kernel_rfl))⟩
  · refine AW.cond_f rfl b3 ?_
    refine AW.skip ?_
    refine thenQ_normal ?_
    refine AW.seq ?_
    obtain ⟨v4, e5, h⟩ := bind_some h
    refine AW.tC (Tt ∧ (((0 = 0 ∧ (Eqc (sl 4 cs_Bone a0.Bones)) ∧ Tt) ∧ ((eF a1.Root.X) ∧ (eF a1.Root.Y) ∧ (eF a1.Root.Z) ∧ (Eqc (sl 4 cs_Turn a1.Turns)) ∧ Tt) ∧ Tt) ∧ CallOK Try.prog 31 [.one (pl 1 cs_Skeleton a0), .agg (cs_Pose a1)] [.one (sl 4 cs_Turn v4.1), .one (sl 3 cs_Vector v4.2)]) ∧ Tt ∧ T4 Tt) [.no, .call [.one (pl 1 cs_Skeleton a0), .agg (cs_Pose a1)] [.one (sl 4 cs_Turn v4.1), .one (sl 3 cs_Vector v4.2)] [[.lst 3], [.lst 4]]] [7, 8] [3, 4] ⟨tr, ⟨⟨⟨rfl, rfl, tr⟩, ⟨rfl, rfl, rfl, rfl, tr⟩, tr⟩, ok_impl_Skeleton_world K a0 a1 v4 e5⟩, tr, tr, tr, tr, tr, tr⟩ ?_
    refine AW.sA ⟨[(4, (vL 3 4 cs_Turn v4.1)), (5, (vL 4 3 cs_Vector v4.2)), (6, (vB true))], [(3, (oL 4 cs_Turn v4.1)), (4, (oL 3 cs_Vector v4.2))]⟩ (Tt ∧ T4 Tt) [] [4, 5, 6] [3, 4] ⟨tr, tr, tr, tr, tr, tr⟩ ?_
    refine AW.ret ?_
    replace h := some_eq h
    subst h
    exact ⟨.inr rfl, retOK_of [(.one (xL 3 4 cs_Turn v4.1)), (.one (xL 4 3 cs_Vector v4.2)), (.one (.c (.bool true)))] (by kernel_rfl) ⟨rfl, rfl, ⟨rfl, tr⟩, tr⟩ (of_decide_eq_true (by kernel_rfl))⟩

/-! math.Float32bits -/
def math_Float32bits (_K : Nat) (a0 : F32) : Option (Int) :=
  a0.toBits

theorem ok_math_Float32bits (K : Nat) (a0 : F32) (o : Int) (h : math_Float32bits K a0 = some o) : CallOK Try.prog 60 [.one (.flt .f32 a0.bits)] [.one (.int .u32 o)] :=
  hand_toBits (e := Extern.MathFloatBits.float32bits) Try.func60 (by kernel_rfl) (by kernel_rfl) (by kernel_rfl) (by kernel_rfl) (fun _ _ => rfl) a0 o h

/-! spec.l01Bits -/
def spec_l01Bits (K : Nat) (a0 : F32) : Option (Int) :=
  ite2 ((a0.ne a0)) (some (2143289344 : Int)) ((math_Float32bits K a0).bind fun v2 => some (IntKind.i64.wrap v2))

theorem ok_spec_l01Bits (K : Nat) (a0 : F32) (o : (Int)) (h : spec_l01Bits K a0 = some o) : CallOK Try.prog 52 [.one (.flt .f32 a0.bits)] [.one (.int .i64 o)] := by
  refine callOK_of_AW Try.func52 rfl (by kernel_rfl) (Nat.le_of_ble_eq_true (by kernel_rfl)) ?_
  intro w0
  unfold spec_l01Bits at h
  refine AW.sC (Tt ∧ Tt) [] [0] [] ⟨tr, tr⟩ ?_
  refine AW.seq ?_
  refine AW.sA ⟨[(0, (vc (.flt .f32 a0.bits))), (5, (vB (a0.ne a0)))], []⟩ (Tt ∧ T2 Tt) [] [0, 5] [] ⟨tr, tr, tr, tr⟩ ?_
  rcases ite2_cases h with ⟨b1, h⟩ | ⟨b1, h⟩
  · refine AW.cond_t rfl b1 ?_
    refine AW.sA ⟨[(2, (vI (2143289344 : Int)))], []⟩ (Tt ∧ Tt) [] [2] [] ⟨tr, tr⟩ ?_
    refine AW.ret ?_
    refine thenQ_ret ?_
    replace h := some_eq h
    subst h
    exact ⟨.inr rfl, retOK_of [(.one (cI (2143289344 : Int)))] (by kernel_rfl) ⟨⟨rfl, tr⟩, tr⟩ (of_decide_eq_true (by kernel_rfl))⟩
  · refine AW.cond_f rfl b1 ?_
    refine AW.skip ?_
    refine thenQ_normal ?_
    refine AW.seq ?_
    obtain ⟨v2, e3, h⟩ := bind_some h
    refine AW.tA ⟨[(2, (vI (IntKind.i64.wrap v2)))], []⟩ (Tt ∧ (((eF a0) ∧ Tt) ∧ CallOK Try.prog 60 [.one (.flt .f32 a0.bits)] [.one (.int .u32 v2)]) ∧ T2 Tt) [.no, .call [.one (.flt .f32 a0.bits)] [.one (.int .u32 v2)] [[.view]]] [2] [] ⟨tr, ⟨⟨rfl, tr⟩, ok_math_Float32bits K a0 v2 e3⟩, tr, tr, tr⟩ ?_
    refine AW.ret ?_
    replace h := some_eq h
    subst h
    exact ⟨.inr rfl, retOK_of [(.one (cI (IntKind.i64.wrap v2)))] (by kernel_rfl) ⟨⟨rfl, tr⟩, tr⟩ (of_decide_eq_true (by kernel_rfl))⟩

/-! spec.l01Same -/
def spec_l01Same (K : Nat) (a0 : F32) (a1 : F32) : Option (Bool) :=
  (spec_l01Bits K a0).bind fun v1 => (spec_l01Bits K a1).bind fun v3 => some (v1 == v3)

theorem ok_spec_l01Same (K : Nat) (a0 : F32) (a1 : F32) (o : (Bool)) (h : spec_l01Same K a0 a1 = some o) : CallOK Try.prog 38 [.one (.flt .f32 a0.bits), .one (.flt .f32 a1.bits)] [.one (.bool o)] := by
  refine callOK_of_AW Try.func38 rfl (by kernel_rfl) (Nat.le_of_ble_eq_true (by kernel_rfl)) ?_
  intro w0
  unfold spec_l01Same at h
  refine AW.sC (Tt ∧ Tt) [] [0, 1] [] ⟨tr, tr⟩ ?_
  refine AW.seq ?_
  obtain ⟨v1, e2, h⟩ := bind_some h
  obtain ⟨v3, e4, h⟩ := bind_some h
  refine AW.tA ⟨[(4, (vB (v1 == v3)))], []⟩ (Tt ∧ (((eF a0) ∧ Tt) ∧ CallOK Try.prog 52 [.one (.flt .f32 a0.bits)] [.one (.int .i64 v1)]) ∧ Tt ∧ (((eF a1) ∧ Tt) ∧ CallOK Try.prog 52 [.one (.flt .f32 a1.bits)] [.one (.int .i64 v3)]) ∧ T2 Tt) [.no, .call [.one (.flt .f32 a0.bits)] [.one (.int .i64 v1)] [[.view]], .no, .call [.one (.flt .f32 a1.bits)] [.one (.int .i64 v3)] [[.view]]] [4] [] ⟨tr, ⟨⟨rfl, tr⟩, ok_spec_l01Bits K a0 v1 e2⟩, tr, ⟨⟨rfl, tr⟩, ok_spec_l01Bits K a1 v3 e4⟩, tr, tr, tr⟩ ?_
  refine AW.ret ?_
  replace h := some_eq h
  subst h
  exact ⟨.inr rfl, retOK_of [(.one (.c (.bool (v1 == v3))))] (by kernel_rfl) ⟨⟨rfl, tr⟩, tr⟩ (of_decide_eq_true (by kernel_rfl))⟩

/-! spec.SameNumber -/
def spec_SameNumber (K : Nat) (a0 : F32) (a1 : F32) : Option (Bool) :=
  (spec_l01Same K a0 a1).bind fun v1 => some v1

theorem ok_spec_SameNumber (K : Nat) (a0 : F32) (a1 : F32) (o : (Bool)) (h : spec_SameNumber K a0 a1 = some o) : CallOK Try.prog 15 [.one (.flt .f32 a0.bits), .one (.flt .f32 a1.bits)] [.one (.bool o)] := by
  refine callOK_of_AW Try.func15 rfl (by kernel_rfl) (Nat.le_of_ble_eq_true (by kernel_rfl)) ?_
  intro w0
  unfold spec_SameNumber at h
  refine AW.sC (Tt ∧ Tt) [] [0, 1] [] ⟨tr, tr⟩ ?_
  refine AW.seq ?_
  obtain ⟨v1, e2, h⟩ := bind_some h
  refine AW.tA ⟨[(4, (vB v1))], []⟩ (T2 ((((eF a0) ∧ (eF a1) ∧ Tt) ∧ CallOK Try.prog 38 [.one (.flt .f32 a0.bits), .one (.flt .f32 a1.bits)] [.one (.bool v1)]) ∧ Tt ∧ Tt)) [.no, .no, .call [.one (.flt .f32 a0.bits), .one (.flt .f32 a1.bits)] [.one (.bool v1)] [[.view]]] [4] [] ⟨tr, tr, ⟨⟨rfl, rfl, tr⟩, ok_spec_l01Same K a0 a1 v1 e2⟩, tr, tr⟩ ?_
  refine AW.ret ?_
  replace h := some_eq h
  subst h
  exact ⟨.inr rfl, retOK_of [(.one (.c (.bool v1)))] (by kernel_rfl) ⟨⟨rfl, tr⟩, tr⟩ (of_decide_eq_true (by kernel_rfl))⟩

/-! laws.b10VEqual -/
def laws_b10VEqual (_K : Nat) (a0 : Vector) (a1 : Vector) : Option (Bool) :=
  (ite2 ((a0.X.eq a1.X)) (ite2 ((a0.Y.eq a1.Y)) (some (a0.Z.eq a1.Z)) (some false)) (some false)).bind fun j3 => some j3

theorem ok_laws_b10VEqual (K : Nat) (a0 : Vector) (a1 : Vector) (o : (Bool)) (h : laws_b10VEqual K a0 a1 = some o) : CallOK Try.prog 16 [.agg (cs_Vector a0), .agg (cs_Vector a1)] [.one (.bool o)] := by
  refine callOK_of_AW Try.func16 rfl (by kernel_rfl) (Nat.le_of_ble_eq_true (by kernel_rfl)) ?_
  intro w0
  unfold laws_b10VEqual at h
  refine AW.sA ⟨[(2, (vp 1 0)), (3, (vp 2 0))], [(1, (.box [(cF a0.X), (cF a0.Y), (cF a0.Z)])), (2, (.box [(cF a1.X), (cF a1.Y), (cF a1.Z)]))]⟩ (Tt ∧ T2 Tt) [.box 1, .box 2] [2, 3] [1, 2] ⟨tr, tr, tr, tr⟩ ?_
  refine AW.seq ?_
  obtain ⟨j3, e4, h⟩ := bind_some h
  refine AW.join1 (s2 := ⟨[(4, (vB j3))], []⟩) ?_ ?_
  · rcases ite2_cases e4 with ⟨b1, e4⟩ | ⟨b1, e4⟩
    · rcases ite2_cases e4 with ⟨b2, e4⟩ | ⟨b2, e4⟩
      · replace e4 := some_eq e4
        subst e4
        exact AW.rA ⟨[(4, (vB (a0.Z.eq a1.Z)))], []⟩ (Tt ∧ T4 ((Tt ∧ (a0.X.eq a1.X) = true) ∧ T2 (T4 ((Tt ∧ (a0.Y.eq a1.Y) = true) ∧ Tt ∧ T2 (T4 Tt))))) [.no, .no, .no, .no, .no, .dec true, .no, .no, .no, .no, .no, .no, .dec true] [4] [] ⟨tr, tr, tr, tr, tr, ⟨tr, b1⟩, tr, tr, tr, tr, tr, tr, ⟨tr, b2⟩, tr, tr, tr, tr, tr, tr, tr, tr⟩ ⟨rfl, rfl⟩
      · replace e4 := some_eq e4
        subst e4
        exact AW.rA ⟨[(4, (vB false))], []⟩ (Tt ∧ T4 ((Tt ∧ (a0.X.eq a1.X) = true) ∧ T2 (T4 ((Tt ∧ (a0.Y.eq a1.Y) = false) ∧ Tt ∧ T2 (T4 Tt))))) [.no, .no, .no, .no, .no, .dec true, .no, .no, .no, .no, .no, .no, .dec false] [4] [] ⟨tr, tr, tr, tr, tr, ⟨tr, b1⟩, tr, tr, tr, tr, tr, tr, ⟨tr, b2⟩, tr, tr, tr, tr, tr, tr, tr, tr⟩ ⟨rfl, rfl⟩
    · replace e4 := some_eq e4
      subst e4
      exact AW.rA ⟨[(4, (vB false))], []⟩ (Tt ∧ T4 ((Tt ∧ (a0.X.eq a1.X) = false) ∧ T2 (T4 (T4 (T4 Tt))))) [.no, .no, .no, .no, .no, .dec false] [4] [] ⟨tr, tr, tr, tr, tr, ⟨tr, b1⟩, tr, tr, tr, tr, tr, tr, tr, tr, tr, tr, tr, tr, tr, tr, tr⟩ ⟨rfl, rfl⟩
  refine thenQ_normal ?_
  refine AW.ret ?_
  replace h := some_eq h
  subst h
  exact ⟨.inr rfl, retOK_of [(.one (.c (.bool j3)))] (by kernel_rfl) ⟨⟨rfl, tr⟩, tr⟩ (of_decide_eq_true (by kernel_rfl))⟩

/-! laws.b10Gap -/
def laws_b10Gap (_K : Nat) (a0 : F64) (a1 : F64) : Option (F64) :=
  ite2 ((a0.lt' a1)) (some (a1.sub a0)) (some (a0.sub a1))

theorem ok_laws_b10Gap (K : Nat) (a0 : F64) (a1 : F64) (o : (F64)) (h : laws_b10Gap K a0 a1 = some o) : CallOK Try.prog 17 [.one (.flt .f64 a0.bits), .one (.flt .f64 a1.bits)] [.one (.flt .f64 o.bits)] := by
  refine callOK_of_AW Try.func17 rfl (by kernel_rfl) (Nat.le_of_ble_eq_true (by kernel_rfl)) ?_
  intro w0
  unfold laws_b10Gap at h
  refine AW.sC (Tt ∧ Tt) [] [0, 1] [] ⟨tr, tr⟩ ?_
  refine AW.seq ?_
  refine AW.sA ⟨[(0, (vc (.flt .f64 a0.bits))), (1, (vc (.flt .f64 a1.bits))), (7, (vB (a0.lt' a1)))], []⟩ (Tt ∧ T2 Tt) [] [0, 1, 7] [] ⟨tr, tr, tr, tr⟩ ?_
  rcases ite2_cases h with ⟨b1, h⟩ | ⟨b1, h⟩
  · refine AW.cond_t rfl b1 ?_
    refine AW.sA ⟨[(4, (vc (.flt .f64 (a1.sub a0).bits)))], []⟩ (T4 Tt) [] [4] [] ⟨tr, tr, tr, tr, tr⟩ ?_
    refine AW.ret ?_
    refine thenQ_ret ?_
    replace h := some_eq h
    subst h
    exact ⟨.inr rfl, retOK_of [(.one (.c (.flt .f64 (a1.sub a0).bits)))] (by kernel_rfl) ⟨⟨rfl, tr⟩, tr⟩ (of_decide_eq_true (by kernel_rfl))⟩
  · refine AW.cond_f rfl b1 ?_
    refine AW.skip ?_
    refine thenQ_normal ?_
    refine AW.sA ⟨[(4, (vc (.flt .f64 (a0.sub a1).bits)))], []⟩ (T4 Tt) [] [4] [] ⟨tr, tr, tr, tr, tr⟩ ?_
    refine AW.ret ?_
    replace h := some_eq h
    subst h
    exact ⟨.inr rfl, retOK_of [(.one (.c (.flt .f64 (a0.sub a1).bits)))] (by kernel_rfl) ⟨⟨rfl, tr⟩, tr⟩ (of_decide_eq_true (by kernel_rfl))⟩

/-! spec.l01Less -/
def spec_l01Less (_K : Nat) (a0 : Vector) (a1 : Vector) : Option (Vector) :=
  some (Vector.mk (a0.X.sub a1.X) (a0.Y.sub a1.Y) (a0.Z.sub a1.Z))

theorem ok_spec_l01Less (K : Nat) (a0 : Vector) (a1 : Vector) (o : (Vector)) (h : spec_l01Less K a0 a1 = some o) : CallOK Try.prog 40 [.agg (cs_Vector a0), .agg (cs_Vector a1)] [.agg (cs_Vector o)] := by
  refine callOK_of_AW Try.func40 rfl (by kernel_rfl) (Nat.le_of_ble_eq_true (by kernel_rfl)) ?_
  intro w0
  unfold spec_l01Less at h
  refine AW.sC (Tt ∧ T2 Tt) [.box 1, .box 2, .box 3] [2, 3, 4] [1, 2, 3] ⟨tr, tr, tr, tr⟩ ?_
  refine AW.sA ⟨[(4, (vp 3 0))], [(3, (.box [(cF (a0.X.sub a1.X)), (cF (a0.Y.sub a1.Y)), (cF (a0.Z.sub a1.Z))]))]⟩ (Tt ∧ T4 (T4 (T4 (T4 Tt)))) [] [4] [3] ⟨tr, tr, tr, tr, tr, tr, tr, tr, tr, tr, tr, tr, tr, tr, tr, tr, tr, tr⟩ ?_
  refine AW.ret ?_
  replace h := some_eq h
  subst h
  exact ⟨.inr rfl, retOK_of [(.agg [(cF (a0.X.sub a1.X)), (cF (a0.Y.sub a1.Y)), (cF (a0.Z.sub a1.Z))])] (by kernel_rfl) ⟨⟨⟨rfl, tr⟩, ⟨rfl, tr⟩, ⟨rfl, tr⟩, tr⟩, tr⟩ (of_decide_eq_true (by kernel_rfl))⟩

/-! spec.LessVectors -/
def spec_LessVectors (K : Nat) (a0 : Vector) (a1 : Vector) : Option (Vector) :=
  (spec_l01Less K a0 a1).bind fun v1 => some v1

theorem ok_spec_LessVectors (K : Nat) (a0 : Vector) (a1 : Vector) (o : (Vector)) (h : spec_LessVectors K a0 a1 = some o) : CallOK Try.prog 19 [.agg (cs_Vector a0), .agg (cs_Vector a1)] [.agg (cs_Vector o)] := by
  refine callOK_of_AW Try.func19 rfl (by kernel_rfl) (Nat.le_of_ble_eq_true (by kernel_rfl)) ?_
  intro w0
  unfold spec_LessVectors at h
  refine AW.sC (Tt ∧ T2 Tt) [.box 1, .box 2, .box 3] [2, 3, 4] [1, 2, 3] ⟨tr, tr, tr, tr⟩ ?_
  refine AW.seq ?_
  obtain ⟨v1, e2, h⟩ := bind_some h
  refine AW.tA ⟨[(4, (vp 3 0))], [(3, (.box [(cF v1.X), (cF v1.Y), (cF v1.Z)]))]⟩ (T2 (((((eF a0.X) ∧ (eF a0.Y) ∧ (eF a0.Z) ∧ Tt) ∧ ((eF a1.X) ∧ (eF a1.Y) ∧ (eF a1.Z) ∧ Tt) ∧ Tt) ∧ CallOK Try.prog 40 [.agg (cs_Vector a0), .agg (cs_Vector a1)] [.agg (cs_Vector v1)]) ∧ Tt ∧ Tt)) [.no, .no, .call [.agg (cs_Vector a0), .agg (cs_Vector a1)] [.agg (cs_Vector v1)] [[.view, .view, .view]]] [4] [3] ⟨tr, tr, ⟨⟨⟨rfl, rfl, rfl, tr⟩, ⟨rfl, rfl, rfl, tr⟩, tr⟩, ok_spec_l01Less K a0 a1 v1 e2⟩, tr, tr⟩ ?_
  refine AW.ret ?_
  replace h := some_eq h
  subst h
  exact ⟨.inr rfl, retOK_of [(.agg [(cF v1.X), (cF v1.Y), (cF v1.Z)])] (by kernel_rfl) ⟨⟨⟨rfl, tr⟩, ⟨rfl, tr⟩, ⟨rfl, tr⟩, tr⟩, tr⟩ (of_decide_eq_true (by kernel_rfl))⟩

/-! spec.l01Inner -/
def spec_l01Inner (_K : Nat) (a0 : Vector) (a1 : Vector) : Option (F32) :=
  some (((a0.X.mul a1.X).add (a0.Y.mul a1.Y)).add (a0.Z.mul a1.Z))

theorem ok_spec_l01Inner (K : Nat) (a0 : Vector) (a1 : Vector) (o : (F32)) (h : spec_l01Inner K a0 a1 = some o) : CallOK Try.prog 54 [.agg (cs_Vector a0), .agg (cs_Vector a1)] [.one (.flt .f32 o.bits)] := by
  refine callOK_of_AW Try.func54 rfl (by kernel_rfl) (Nat.le_of_ble_eq_true (by kernel_rfl)) ?_
  intro w0
  unfold spec_l01Inner at h
  refine AW.sC (Tt ∧ T2 Tt) [.box 1, .box 2] [2, 3] [1, 2] ⟨tr, tr, tr, tr⟩ ?_
  refine AW.sA ⟨[(4, (vc (.flt .f32 (((a0.X.mul a1.X).add (a0.Y.mul a1.Y)).add (a0.Z.mul a1.Z)).bits)))], []⟩ (T2 (T4 (T4 (T4 (T4 Tt))))) [] [4] [] ⟨tr, tr, tr, tr, tr, tr, tr, tr, tr, tr, tr, tr, tr, tr, tr, tr, tr, tr, tr⟩ ?_
  refine AW.ret ?_
  replace h := some_eq h
  subst h
  exact ⟨.inr rfl, retOK_of [(.one (cF (((a0.X.mul a1.X).add (a0.Y.mul a1.Y)).add (a0.Z.mul a1.Z))))] (by kernel_rfl) ⟨⟨rfl, tr⟩, tr⟩ (of_decide_eq_true (by kernel_rfl))⟩

/-! spec.l01Narrow -/
def spec_l01Narrow (_K : Nat) (a0 : F64) : Option (F32) :=
  chk ((convBits .f64 a0.bits .f32).isSome = true) (some (Fl.cv .f64 .f32 a0))

theorem ok_spec_l01Narrow (K : Nat) (a0 : F64) (o : (F32)) (h : spec_l01Narrow K a0 = some o) : CallOK Try.prog 61 [.one (.flt .f64 a0.bits)] [.one (.flt .f32 o.bits)] := by
  refine callOK_of_AW Try.func61 rfl (by kernel_rfl) (Nat.le_of_ble_eq_true (by kernel_rfl)) ?_
  intro w0
  unfold spec_l01Narrow at h
  refine AW.sC (Tt ∧ Tt) [] [0] [] ⟨tr, tr⟩ ?_
  refine AW.seq ?_
  obtain ⟨c1, h⟩ := chk_some h
  refine AW.tA ⟨[(2, (vc (.flt .f32 (Fl.cv .f64 .f32 a0).bits)))], []⟩ (Tt ∧ ((convBits .f64 a0.bits .f32).isSome = true) ∧ Tt ∧ Tt) [] [2] [] ⟨tr, c1, tr, tr⟩ ?_
  refine AW.ret ?_
  replace h := some_eq h
  subst h
  exact ⟨.inr rfl, retOK_of [(.one (cF (Fl.cv .f64 .f32 a0)))] (by kernel_rfl) ⟨⟨rfl, tr⟩, tr⟩ (of_decide_eq_true (by kernel_rfl))⟩

/-! spec.l01Sqrt -/
def spec_l01Sqrt (K : Nat) (a0 : F32) : Option (F32) :=
  (math_Sqrt K (Fl.cv .f32 .f64 a0)).bind fun v1 => (spec_l01Narrow K v1).bind fun v3 => some v3

theorem ok_spec_l01Sqrt (K : Nat) (a0 : F32) (o : (F32)) (h : spec_l01Sqrt K a0 = some o) : CallOK Try.prog 53 [.one (.flt .f32 a0.bits)] [.one (.flt .f32 o.bits)] := by
  refine callOK_of_AW Try.func53 rfl (by kernel_rfl) (Nat.le_of_ble_eq_true (by kernel_rfl)) ?_
  intro w0
  unfold spec_l01Sqrt at h
  refine AW.sC (Tt ∧ Tt) [] [0] [] ⟨tr, tr⟩ ?_
  refine AW.seq ?_
  obtain ⟨v1, e2, h⟩ := bind_some h
  obtain ⟨v3, e4, h⟩ := bind_some h
  refine AW.tA ⟨[(2, (vc (.flt .f32 v3.bits)))], []⟩ (Tt ∧ ((convBits .f32 a0.bits .f64).isSome = true) ∧ (((Eqc (.flt .f64 (Fl.cv .f32 .f64 a0).bits)) ∧ Tt) ∧ CallOK Try.prog 59 [.one (.flt .f64 (Fl.cv .f32 .f64 a0).bits)] [.one (.flt .f64 v1.bits)]) ∧ (((Eqc (.flt .f64 v1.bits)) ∧ Tt) ∧ CallOK Try.prog 61 [.one (.flt .f64 v1.bits)] [.one (.flt .f32 v3.bits)]) ∧ Tt ∧ Tt) [.no, .no, .call [.one (.flt .f64 (Fl.cv .f32 .f64 a0).bits)] [.one (.flt .f64 v1.bits)] [[.view]], .call [.one (.flt .f64 v1.bits)] [.one (.flt .f32 v3.bits)] [[.view]]] [2] [] ⟨tr, cv_wide a0, ⟨⟨rfl, tr⟩, ok_math_Sqrt K (Fl.cv .f32 .f64 a0) v1 e2⟩, ⟨⟨rfl, tr⟩, ok_spec_l01Narrow K v1 v3 e4⟩, tr, tr⟩ ?_
  refine AW.ret ?_
  replace h := some_eq h
  subst h
  exact ⟨.inr rfl, retOK_of [(.one (cF v3))] (by kernel_rfl) ⟨⟨rfl, tr⟩, tr⟩ (of_decide_eq_true (by kernel_rfl))⟩

/-! spec.l01Long -/
def spec_l01Long (K : Nat) (a0 : Vector) : Option (F32) :=
  (spec_l01Inner K a0 a0).bind fun v1 => (spec_l01Sqrt K v1).bind fun v3 => some v3

theorem ok_spec_l01Long (K : Nat) (a0 : Vector) (o : (F32)) (h : spec_l01Long K a0 = some o) : CallOK Try.prog 39 [.agg (cs_Vector a0)] [.one (.flt .f32 o.bits)] := by
  refine callOK_of_AW Try.func39 rfl (by kernel_rfl) (Nat.le_of_ble_eq_true (by kernel_rfl)) ?_
  intro w0
  unfold spec_l01Long at h
  refine AW.sC (T2 Tt) [.box 1] [1] [1] ⟨tr, tr, tr⟩ ?_
  refine AW.seq ?_
  obtain ⟨v1, e2, h⟩ := bind_some h
  obtain ⟨v3, e4, h⟩ := bind_some h
  refine AW.tA ⟨[(2, (vc (.flt .f32 v3.bits)))], []⟩ (T2 (((((eF a0.X) ∧ (eF a0.Y) ∧ (eF a0.Z) ∧ Tt) ∧ ((eF a0.X) ∧ (eF a0.Y) ∧ (eF a0.Z) ∧ Tt) ∧ Tt) ∧ CallOK Try.prog 54 [.agg (cs_Vector a0), .agg (cs_Vector a0)] [.one (.flt .f32 v1.bits)]) ∧ (((eF v1) ∧ Tt) ∧ CallOK Try.prog 53 [.one (.flt .f32 v1.bits)] [.one (.flt .f32 v3.bits)]) ∧ Tt ∧ Tt)) [.no, .no, .call [.agg (cs_Vector a0), .agg (cs_Vector a0)] [.one (.flt .f32 v1.bits)] [[.view]], .call [.one (.flt .f32 v1.bits)] [.one (.flt .f32 v3.bits)] [[.view]]] [2] [] ⟨tr, tr, ⟨⟨⟨rfl, rfl, rfl, tr⟩, ⟨rfl, rfl, rfl, tr⟩, tr⟩, ok_spec_l01Inner K a0 a0 v1 e2⟩, ⟨⟨rfl, tr⟩, ok_spec_l01Sqrt K v1 v3 e4⟩, tr, tr⟩ ?_
  refine AW.ret ?_
  replace h := some_eq h
  subst h
  exact ⟨.inr rfl, retOK_of [(.one (cF v3))] (by kernel_rfl) ⟨⟨rfl, tr⟩, tr⟩ (of_decide_eq_true (by kernel_rfl))⟩

/-! spec.LongOf -/
def spec_LongOf (K : Nat) (a0 : Vector) : Option (F32) :=
  (spec_l01Long K a0).bind fun v1 => some v1

theorem ok_spec_LongOf (K : Nat) (a0 : Vector) (o : (F32)) (h : spec_LongOf K a0 = some o) : CallOK Try.prog 18 [.agg (cs_Vector a0)] [.one (.flt .f32 o.bits)] := by
  refine callOK_of_AW Try.func18 rfl (by kernel_rfl) (Nat.le_of_ble_eq_true (by kernel_rfl)) ?_
  intro w0
  unfold spec_LongOf at h
  refine AW.sC (T2 Tt) [.box 1] [1] [1] ⟨tr, tr, tr⟩ ?_
  refine AW.seq ?_
  obtain ⟨v1, e2, h⟩ := bind_some h
  refine AW.tA ⟨[(2, (vc (.flt .f32 v1.bits)))], []⟩ (Tt ∧ ((((eF a0.X) ∧ (eF a0.Y) ∧ (eF a0.Z) ∧ Tt) ∧ Tt) ∧ CallOK Try.prog 39 [.agg (cs_Vector a0)] [.one (.flt .f32 v1.bits)]) ∧ Tt ∧ Tt) [.no, .call [.agg (cs_Vector a0)] [.one (.flt .f32 v1.bits)] [[.view]]] [2] [] ⟨tr, ⟨⟨⟨rfl, rfl, rfl, tr⟩, tr⟩, ok_spec_l01Long K a0 v1 e2⟩, tr, tr⟩ ?_
  refine AW.ret ?_
  replace h := some_eq h
  subst h
  exact ⟨.inr rfl, retOK_of [(.one (cF v1))] (by kernel_rfl) ⟨⟨rfl, tr⟩, tr⟩ (of_decide_eq_true (by kernel_rfl))⟩

end
end Go.Fw
