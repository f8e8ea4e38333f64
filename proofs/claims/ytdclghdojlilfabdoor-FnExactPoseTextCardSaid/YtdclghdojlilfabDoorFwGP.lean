/- Functions of the program: what each computes, and that it computes just that. -/
import Derived.Test.YtdclghdojlilfabDoorFwTy
import Derived.Test.YtdclghdojlilfabDoorFwH
import Derived.Test.YtdclghdojlilfabDoorFwV
import Derived.Test.YtdclghdojlilfabDoorFwLB
import Derived.Test.YtdclghdojlilfabDoorFwSh
import Derived.Test.YtdclghdojlilfabDoorFwLX
import Derived.Test.YtdclghdojlilfabDoorFwHx
import Derived.Test.YtdclghdojlilfabDoorProg
import Derived.KernelRfl
namespace Go.Fw
open Go Go.Proofs
noncomputable section
set_option maxRecDepth 10000

/-! laws.szTurnS -/
def laws_szTurnS (_K : Nat) (a0 : (List Turn)) (a1 : Int) : Option (Int) :=
  ite2 ((decide ((IntKind.i64.wrap (a1 - (a0.length : Int))) < (0 : Int)))) (some ((-1) : Int)) (some (IntKind.i64.wrap (a1 - (a0.length : Int))))

theorem ok_laws_szTurnS (K : Nat) (a0 : (List Turn)) (a1 : Int) (o : (Int)) (h : laws_szTurnS K a0 a1 = some o) : CallOK Tryd.prog 9 [.one (sl 4 cs_Turn a0), .one (.int .i64 a1)] [.one (.int .i64 o)] := by
  refine callOK_of_AW Tryd.func9 rfl (by kernel_rfl) (Nat.le_of_ble_eq_true (by kernel_rfl)) ?_
  intro w0
  unfold laws_szTurnS at h
  refine AW.sC (Tt ∧ Tt) [] [0, 1] [] ⟨tr, tr⟩ ?_
  refine AW.sC (Tt ∧ T4 Tt) [] [1] [] ⟨tr, tr, tr, tr, tr, tr⟩ ?_
  refine AW.seq ?_
  refine AW.sA ⟨[(1, (vI (IntKind.i64.wrap (a1 - (a0.length : Int))))), (10, (vB (decide ((IntKind.i64.wrap (a1 - (a0.length : Int))) < (0 : Int)))))], []⟩ (T2 Tt) [] [1, 10] [] ⟨tr, tr, tr⟩ ?_
  rcases ite2_cases h with ⟨b1, h⟩ | ⟨b1, h⟩
  · refine AW.cond_t rfl b1 ?_
    refine AW.sA ⟨[(4, (vI ((-1) : Int)))], []⟩ (Tt ∧ Tt) [] [4] [] ⟨tr, tr⟩ ?_
    refine AW.ret ?_
    refine thenQ_ret ?_
    replace h := some_eq h
    subst h
    exact ⟨.inr rfl, retOK_of [(.one (cI ((-1) : Int)))] (by kernel_rfl) ⟨⟨rfl, tr⟩, tr⟩ (of_decide_eq_true (by kernel_rfl))⟩
  · refine AW.cond_f rfl b1 ?_
    refine AW.skip ?_
    refine thenQ_normal ?_
    refine AW.sA ⟨[(4, (vI (IntKind.i64.wrap (a1 - (a0.length : Int)))))], []⟩ (T2 Tt) [] [4] [] ⟨tr, tr, tr⟩ ?_
    refine AW.ret ?_
    replace h := some_eq h
    subst h
    exact ⟨.inr rfl, retOK_of [(.one (cI (IntKind.i64.wrap (a1 - (a0.length : Int)))))] (by kernel_rfl) ⟨⟨rfl, tr⟩, tr⟩ (of_decide_eq_true (by kernel_rfl))⟩

/-! laws.szPose -/
def laws_szPose (K : Nat) (a0 : Pose) (a1 : Int) : Option (Int) :=
  (laws_szTurnS K a0.Turns a1).bind fun v1 => ite2 ((decide (v1 < (0 : Int)))) (some ((-1) : Int)) (some v1)

theorem ok_laws_szPose (K : Nat) (a0 : Pose) (a1 : Int) (o : (Int)) (h : laws_szPose K a0 a1 = some o) : CallOK Tryd.prog 4 [.agg (cs_Pose a0), .one (.int .i64 a1)] [.one (.int .i64 o)] := by
  refine callOK_of_AW Tryd.func4 rfl (by kernel_rfl) (Nat.le_of_ble_eq_true (by kernel_rfl)) ?_
  intro w0
  unfold laws_szPose at h
  refine AW.sC (T2 Tt) [.box 1] [1, 2] [1] ⟨tr, tr, tr⟩ ?_
  refine AW.seq ?_
  obtain ⟨v1, e2, h⟩ := bind_some h
  refine AW.tC (Tt ∧ T2 ((((Eqc (sl 4 cs_Turn a0.Turns)) ∧ (eI a1) ∧ Tt) ∧ CallOK Tryd.prog 9 [.one (sl 4 cs_Turn a0.Turns), .one (.int .i64 a1)] [.one (.int .i64 v1)]) ∧ Tt ∧ Tt)) [.no, .no, .no, .call [.one (sl 4 cs_Turn a0.Turns), .one (.int .i64 a1)] [.one (.int .i64 v1)] [[.view]]] [1] [] ⟨tr, tr, tr, ⟨⟨rfl, rfl, tr⟩, ok_laws_szTurnS K a0.Turns a1 v1 e2⟩, tr, tr⟩ ?_
  refine AW.seq ?_
  refine AW.sA ⟨[(1, (vI v1)), (10, (vB (decide (v1 < (0 : Int)))))], []⟩ (T2 Tt) [] [1, 10] [] ⟨tr, tr, tr⟩ ?_
  rcases ite2_cases h with ⟨b3, h⟩ | ⟨b3, h⟩
  · refine AW.cond_t rfl b3 ?_
    refine AW.sA ⟨[(4, (vI ((-1) : Int)))], []⟩ (Tt ∧ Tt) [] [4] [] ⟨tr, tr⟩ ?_
    refine AW.ret ?_
    refine thenQ_ret ?_
    replace h := some_eq h
    subst h
    exact ⟨.inr rfl, retOK_of [(.one (cI ((-1) : Int)))] (by kernel_rfl) ⟨⟨rfl, tr⟩, tr⟩ (of_decide_eq_true (by kernel_rfl))⟩
  · refine AW.cond_f rfl b3 ?_
    refine AW.skip ?_
    refine thenQ_normal ?_
    refine AW.sA ⟨[(4, (vI v1))], []⟩ (T2 Tt) [] [4] [] ⟨tr, tr, tr⟩ ?_
    refine AW.ret ?_
    replace h := some_eq h
    subst h
    exact ⟨.inr rfl, retOK_of [(.one (cI v1))] (by kernel_rfl) ⟨⟨rfl, tr⟩, tr⟩ (of_decide_eq_true (by kernel_rfl))⟩

/-! laws.toVector -/
def laws_toVector (_K : Nat) (a0 : Vector) : Option (Vector) :=
  some a0

theorem ok_laws_toVector (K : Nat) (a0 : Vector) (o : (Vector)) (h : laws_toVector K a0 = some o) : CallOK Tryd.prog 12 [.agg (cs_Vector a0)] [.agg (cs_Vector o)] := by
  refine callOK_of_AW Tryd.func12 rfl (by kernel_rfl) (Nat.le_of_ble_eq_true (by kernel_rfl)) ?_
  intro w0
  unfold laws_toVector at h
  refine AW.sC (T2 Tt) [.box 1, .box 2] [1, 2] [1, 2] ⟨tr, tr, tr⟩ ?_
  refine AW.sC (Tt ∧ Tt) [.box 3] [1, 2, 3] [1, 2, 3] ⟨tr, tr⟩ ?_
  refine AW.sC (T4 Tt) [] [1, 2, 3] [1, 2, 3] ⟨tr, tr, tr, tr, tr⟩ ?_
  refine AW.sC (T4 Tt) [] [1, 2, 3] [1, 2, 3] ⟨tr, tr, tr, tr, tr⟩ ?_
  refine AW.sC (T4 Tt) [] [2, 3] [2, 3] ⟨tr, tr, tr, tr, tr⟩ ?_
  refine AW.sA ⟨[(2, (vp 2 0))], [(2, (.box [(cF a0.X), (cF a0.Y), (cF a0.Z)]))]⟩ (T2 Tt) [] [2] [2] ⟨tr, tr, tr⟩ ?_
  refine AW.ret ?_
  replace h := some_eq h
  subst h
  exact ⟨.inr rfl, retOK_of [(.agg [(cF a0.X), (cF a0.Y), (cF a0.Z)])] (by kernel_rfl) ⟨⟨⟨rfl, tr⟩, ⟨rfl, tr⟩, ⟨rfl, tr⟩, tr⟩, tr⟩ (of_decide_eq_true (by kernel_rfl))⟩

/-! laws.toTurn -/
def laws_toTurn (_K : Nat) (a0 : Turn) : Option (Turn) :=
  some a0

theorem ok_laws_toTurn (K : Nat) (a0 : Turn) (o : (Turn)) (h : laws_toTurn K a0 = some o) : CallOK Tryd.prog 22 [.agg (cs_Turn a0)] [.agg (cs_Turn o)] := by
  refine callOK_of_AW Tryd.func22 rfl (by kernel_rfl) (Nat.le_of_ble_eq_true (by kernel_rfl)) ?_
  intro w0
  unfold laws_toTurn at h
  refine AW.sC (T2 Tt) [.box 1, .box 2] [1, 2] [1, 2] ⟨tr, tr, tr⟩ ?_
  refine AW.sC (Tt ∧ Tt) [.box 3] [1, 2, 3] [1, 2, 3] ⟨tr, tr⟩ ?_
  refine AW.sC (T4 Tt) [] [1, 2, 3] [1, 2, 3] ⟨tr, tr, tr, tr, tr⟩ ?_
  refine AW.sC (T4 Tt) [] [1, 2, 3] [1, 2, 3] ⟨tr, tr, tr, tr, tr⟩ ?_
  refine AW.sC (T4 Tt) [] [1, 2, 3] [1, 2, 3] ⟨tr, tr, tr, tr, tr⟩ ?_
  refine AW.sC (T4 Tt) [] [2, 3] [2, 3] ⟨tr, tr, tr, tr, tr⟩ ?_
  refine AW.sA ⟨[(2, (vp 2 0))], [(2, (.box [(cF a0.W), (cF a0.X), (cF a0.Y), (cF a0.Z)]))]⟩ (T2 Tt) [] [2] [2] ⟨tr, tr, tr⟩ ?_
  refine AW.ret ?_
  replace h := some_eq h
  subst h
  exact ⟨.inr rfl, retOK_of [(.agg [(cF a0.W), (cF a0.X), (cF a0.Y), (cF a0.Z)])] (by kernel_rfl) ⟨⟨⟨rfl, tr⟩, ⟨rfl, tr⟩, ⟨rfl, tr⟩, ⟨rfl, tr⟩, tr⟩, tr⟩ (of_decide_eq_true (by kernel_rfl))⟩

/-! laws.toTurnS -/
def laws_toTurnS_l1 (K : Nat) (a0 : (List Turn)) : Nat → Int → (List Turn) → Option ((List Turn))
  | 0, _, _ => none
  | k + 1, x4, x5 => ite2 ((decide (x4 < (a0.length : Int)))) (chk (0 ≤ x4 ∧ x4 < (a0.length : Int)) ((laws_toTurn K (a0.getD x4.toNat default)).bind fun v8 => chk (0 ≤ x4 ∧ x4 < (x5.length : Int)) (laws_toTurnS_l1 K a0 k (IntKind.i64.wrap (x4 + (1 : Int))) (x5.set x4.toNat v8)))) (some x5)

def laws_toTurnS (K : Nat) (a0 : (List Turn)) : Option ((List Turn)) :=
  chk (0 ≤ (a0.length : Int) ∧ (a0.length : Int).toNat * 16 ≤ 140737488355328) (laws_toTurnS_l1 K a0 K (0 : Int) (List.replicate (a0.length : Int).toNat (default : Turn)))

theorem ok_laws_toTurnS (K : Nat) (a0 : (List Turn)) (o : ((List Turn))) (h : laws_toTurnS K a0 = some o) : CallOK Tryd.prog 13 [.one (sl 4 cs_Turn a0)] [.one (sl 4 cs_Turn o)] := by
  refine callOK_of_AW Tryd.func13 rfl (by kernel_rfl) (Nat.le_of_ble_eq_true (by kernel_rfl)) ?_
  intro w0
  unfold laws_toTurnS at h
  refine AW.sC (Tt ∧ Tt) [] [0] [] ⟨tr, tr⟩ ?_
  refine AW.seq ?_
  obtain ⟨c1, h⟩ := chk_some h
  refine AW.tC (T2 ((0 ≤ (a0.length : Int) ∧ (a0.length : Int) = (a0.length : Int) ∧ (((List.replicate (a0.length : Int).toNat (default : Turn)).length : Nat) : Int) = (a0.length : Int) ∧ (List.replicate (a0.length : Int).toNat (default : Turn)).length * 16 ≤ 140737488355328 ∧ ∀ i, i < (List.replicate (a0.length : Int).toNat (default : Turn)).length → zeroRow (fun _ => none) [(cF (default : F32)), (cF (default : F32)), (cF (default : F32)), (cF (default : F32))] (gl cs_Turn (List.replicate (a0.length : Int).toNat (default : Turn)) i)) ∧ Tt ∧ Tt)) [.no, .no, .objA 1 (List.replicate (a0.length : Int).toNat (default : Turn)).length (gl cs_Turn (List.replicate (a0.length : Int).toNat (default : Turn)))] [0, 3] [1] ⟨tr, tr, ⟨c1.1, rfl, len_rep c1.1, rep_bytes c1.2, fun i hi => gl_zero (cs := cs_Turn) (zs := [(cF (default : F32)), (cF (default : F32)), (cF (default : F32)), (cF (default : F32))]) (n := (a0.length : Int).toNat) ⟨⟨rfl, tr⟩, ⟨rfl, tr⟩, ⟨rfl, tr⟩, ⟨rfl, tr⟩, tr⟩ i (rep_lt hi)⟩, tr, tr⟩ ?_
  refine AW.seq ?_
  refine AW.sA ⟨[(0, (vc (sl 4 cs_Turn a0))), (3, (.v (.one (.arr 1)))), (4, (vI (0 : Int)))], [(1, (.arr false (List.replicate (a0.length : Int).toNat (default : Turn)).length 4 (gl cs_Turn (List.replicate (a0.length : Int).toNat (default : Turn)))))]⟩ (Tt ∧ Tt) [] [0, 3, 4] [1] ⟨tr, tr⟩ ?_
  refine AW.block ?_
  refine AW.loopQ (σ := Nat × Int × (List Turn)) (fun p => ⟨[(0, (vc (sl 4 cs_Turn a0))), (3, (.v (.one (.arr 1)))), (4, (vI p.2.1))], [(1, (.arr false p.2.2.length 4 (gl cs_Turn p.2.2)))]⟩) (fun p => laws_toTurnS_l1 K a0 p.1 p.2.1 p.2.2 = some o) (fun p => p.1) (K, (0 : Int), (List.replicate (a0.length : Int).toNat (default : Turn))) h ?_
  clear h
  rintro ⟨k, x4, x5⟩ h
  replace h : laws_toTurnS_l1 K a0 k x4 x5 = some o := h
  show AW _ _ (⟨[(0, (vc (sl 4 cs_Turn a0))), (3, (.v (.one (.arr 1)))), (4, (vI x4))], [(1, (.arr false x5.length 4 (gl cs_Turn x5)))]⟩ : St) _
  obtain _ | k := k
  · rw [laws_toTurnS_l1] at h; cases h
  rw [laws_toTurnS_l1] at h
  refine AW.seq ?_
  refine AW.sA ⟨[(0, (vc (sl 4 cs_Turn a0))), (3, (.v (.one (.arr 1)))), (4, (vI x4)), (11, (vB (decide (x4 < (a0.length : Int)))))], [(1, (.arr false x5.length 4 (gl cs_Turn x5)))]⟩ (T4 Tt) [] [0, 3, 4, 11] [1] ⟨tr, tr, tr, tr, tr⟩ ?_
  rcases ite2_cases h with ⟨b6, h⟩ | ⟨b6, h⟩
  · refine AW.cond_t rfl b6 ?_
    refine AW.skip ?_
    refine thenQ_normal ?_
    refine AW.seq ?_
    refine AW.block ?_
    obtain ⟨c7, h⟩ := chk_some h
    obtain ⟨v8, e9, h⟩ := bind_some h
    obtain ⟨c10, h⟩ := chk_some h
    refine AW.rA ⟨[(0, (vc (sl 4 cs_Turn a0))), (3, (.v (.one (.arr 1)))), (4, (vI x4))], [(1, (.arr false (x5.set x4.toNat v8).length 4 (gl cs_Turn (x5.set x4.toNat v8))))]⟩ (T4 ((0 ≤ x4 ∧ x4 < (a0.length : Int)) ∧ Tt ∧ ((((eF ((a0.getD x4.toNat default).W)) ∧ (eF ((a0.getD x4.toNat default).X)) ∧ (eF ((a0.getD x4.toNat default).Y)) ∧ (eF ((a0.getD x4.toNat default).Z)) ∧ Tt) ∧ Tt) ∧ CallOK Tryd.prog 22 [.agg (cs_Turn (a0.getD x4.toNat default))] [.agg (cs_Turn v8)]) ∧ (0 ≤ x4 ∧ x4 < (x5.length : Int)) ∧ ((x5.set x4.toNat v8).length = x5.length ∧ SetOb x5.length 4 x4.toNat 0 4 (gl cs_Turn x5) (gl cs_Turn (x5.set x4.toNat v8)) ∧ ((List.range 4).map fun j => (cs_Turn v8).getD (0 + j) .nilptr) = ((List.range 4).map fun j => gl cs_Turn (x5.set x4.toNat v8) x4.toNat (0 + j)) ∧ ((((.flt .f32 v8.W.bits) : C) = (.flt .f32 v8.W.bits) ∧ Tt) ∧ (((.flt .f32 v8.X.bits) : C) = (.flt .f32 v8.X.bits) ∧ Tt) ∧ (((.flt .f32 v8.Y.bits) : C) = (.flt .f32 v8.Y.bits) ∧ Tt) ∧ (((.flt .f32 v8.Z.bits) : C) = (.flt .f32 v8.Z.bits) ∧ Tt) ∧ Tt) ∧ (false = true → ∀ j, j < 4 → isSeq (gl cs_Turn x5 x4.toNat (0 + j)) = false ∧ isSeq (gl cs_Turn (x5.set x4.toNat v8) x4.toNat (0 + j)) = false)) ∧ Tt)) [.no, .no, .no, .no, .no, .no, .call [.agg (cs_Turn (a0.getD x4.toNat default))] [.agg (cs_Turn v8)] [[.view, .view, .view, .view]], .no, .set (x5.set x4.toNat v8).length (gl cs_Turn (x5.set x4.toNat v8)) ((List.range 4).map fun j => (cs_Turn v8).getD (0 + j) .nilptr)] [0, 3, 4] [1] ⟨tr, tr, tr, tr, c7, tr, ⟨⟨⟨rfl, rfl, rfl, rfl, tr⟩, tr⟩, ok_laws_toTurn K (a0.getD x4.toNat default) v8 e9⟩, c10, ⟨List.length_set, gl_set, (gl_atp (lt_of_bound c10)).symm, ⟨⟨rfl, tr⟩, ⟨rfl, tr⟩, ⟨rfl, tr⟩, ⟨rfl, tr⟩, tr⟩, (fun h => nomatch h)⟩, tr⟩ ?_
    refine blockQ_normal ?_
    refine thenQ_normal ?_
    refine AW.rA ⟨[(0, (vc (sl 4 cs_Turn a0))), (3, (.v (.one (.arr 1)))), (4, (vI (IntKind.i64.wrap (x4 + (1 : Int)))))], [(1, (.arr false (x5.set x4.toNat v8).length 4 (gl cs_Turn (x5.set x4.toNat v8))))]⟩ (Tt ∧ T2 Tt) [] [0, 3, 4] [1] ⟨tr, tr, tr, tr⟩ ?_
    exact loopQ_normal (k, (IntKind.i64.wrap (x4 + (1 : Int))), (x5.set x4.toNat v8)) h (Nat.lt_succ_self k) (Sub.keep [0, 3, 4] [1] (by kernel_rfl) (by kernel_rfl))
  · refine AW.cond_f rfl b6 ?_
    refine AW.exit ?_
    refine thenQ_exit ?_
    refine loopQ_exit ?_
    refine blockQ_exit ?_
    refine thenQ_normal ?_
    refine AW.sA ⟨[(2, (.v (.one (.arr 1))))], [(1, (.arr false x5.length 4 (gl cs_Turn x5)))]⟩ (T2 Tt) [] [2] [1] ⟨tr, tr, tr⟩ ?_
    refine AW.ret ?_
    replace h := some_eq h
    subst h
    exact ⟨.inr rfl, retOK_of [(.one (.arr 1))] (by kernel_rfl) ⟨rfl, tr⟩ (of_decide_eq_true (by kernel_rfl))⟩

/-! laws.toPose -/
def laws_toPose (K : Nat) (a0 : Pose) : Option (Pose) :=
  (laws_toVector K a0.Root).bind fun v1 => (laws_toTurnS K a0.Turns).bind fun v3 => some (Pose.mk v1 v3)

theorem ok_laws_toPose (K : Nat) (a0 : Pose) (o : (Pose)) (h : laws_toPose K a0 = some o) : CallOK Tryd.prog 6 [.agg (cs_Pose a0)] [.agg (cs_Pose o)] := by
  refine callOK_of_AW Tryd.func6 rfl (by kernel_rfl) (Nat.le_of_ble_eq_true (by kernel_rfl)) ?_
  intro w0
  unfold laws_toPose at h
  refine AW.sC (T2 Tt) [.box 1, .box 2] [1, 2] [1, 2] ⟨tr, tr, tr⟩ ?_
  refine AW.sC (Tt ∧ Tt) [.box 3] [1, 2, 3] [1, 2, 3] ⟨tr, tr⟩ ?_
  refine AW.seq ?_
  obtain ⟨v1, e2, h⟩ := bind_some h
  refine AW.tC (T2 (((((eF a0.Root.X) ∧ (eF a0.Root.Y) ∧ (eF a0.Root.Z) ∧ Tt) ∧ Tt) ∧ CallOK Tryd.prog 12 [.agg (cs_Vector a0.Root)] [.agg (cs_Vector v1)]) ∧ T2 Tt)) [.no, .no, .call [.agg (cs_Vector a0.Root)] [.agg (cs_Vector v1)] [[.view, .view, .view]]] [1, 2, 3] [1, 2, 3] ⟨tr, tr, ⟨⟨⟨rfl, rfl, rfl, tr⟩, tr⟩, ok_laws_toVector K a0.Root v1 e2⟩, tr, tr, tr⟩ ?_
  refine AW.seq ?_
  obtain ⟨v3, e4, h⟩ := bind_some h
  refine AW.tC (T2 ((((Eqc (sl 4 cs_Turn a0.Turns)) ∧ Tt) ∧ CallOK Tryd.prog 13 [.one (sl 4 cs_Turn a0.Turns)] [.one (sl 4 cs_Turn v3)]) ∧ T2 Tt)) [.no, .no, .call [.one (sl 4 cs_Turn a0.Turns)] [.one (sl 4 cs_Turn v3)] [[.lst 4]]] [2, 3] [2, 3, 4] ⟨tr, tr, ⟨⟨rfl, tr⟩, ok_laws_toTurnS K a0.Turns v3 e4⟩, tr, tr, tr⟩ ?_
  refine AW.sA ⟨[(2, (vp 2 0))], [(2, (.box [(cF v1.X), (cF v1.Y), (cF v1.Z), (xL 4 4 cs_Turn v3)])), (4, (oL 4 cs_Turn v3))]⟩ (T2 Tt) [] [2] [2, 4] ⟨tr, tr, tr⟩ ?_
  refine AW.ret ?_
  replace h := some_eq h
  subst h
  exact ⟨.inr rfl, retOK_of [(.agg [(cF v1.X), (cF v1.Y), (cF v1.Z), (xL 4 4 cs_Turn v3)])] (by kernel_rfl) ⟨⟨⟨rfl, tr⟩, ⟨rfl, tr⟩, ⟨rfl, tr⟩, rfl, tr⟩, tr⟩ (of_decide_eq_true (by kernel_rfl))⟩

/-! spec.l03Few -/
def spec_l03Few (_K : Nat) (a0 : Pose) : Option (Bool) :=
  (ite2 ((decide ((a0.Turns.length : Int) ≥ (1 : Int)))) (some (decide ((a0.Turns.length : Int) ≤ (12 : Int)))) (some false)).bind fun j2 => some j2

theorem ok_spec_l03Few (K : Nat) (a0 : Pose) (o : (Bool)) (h : spec_l03Few K a0 = some o) : CallOK Tryd.prog 10 [.one (pl 4 cs_Pose a0)] [.one (.bool o)] := by
  refine callOK_of_AW Tryd.func10 rfl (by kernel_rfl) (Nat.le_of_ble_eq_true (by kernel_rfl)) ?_
  intro w0
  unfold spec_l03Few at h
  refine AW.sA ⟨[(0, (vc (pl 4 cs_Pose a0)))], []⟩ (Tt ∧ Tt) [] [0] [] ⟨tr, tr⟩ ?_
  refine AW.seq ?_
  obtain ⟨j2, e3, h⟩ := bind_some h
  refine AW.join1 (s2 := ⟨[(2, (vB j2))], []⟩) ?_ ?_
  · rcases ite2_cases e3 with ⟨b1, e3⟩ | ⟨b1, e3⟩
    · replace e3 := some_eq e3
      subst e3
      exact AW.rA ⟨[(2, (vB (decide ((a0.Turns.length : Int) ≤ (12 : Int)))))], []⟩ (T2 (T4 ((Tt ∧ (decide ((a0.Turns.length : Int) ≥ (1 : Int))) = true) ∧ T4 (T4 Tt)))) [.no, .no, .no, .no, .no, .no, .dec true] [2] [] ⟨tr, tr, tr, tr, tr, tr, ⟨tr, b1⟩, tr, tr, tr, tr, tr, tr, tr, tr, tr⟩ ⟨rfl, rfl⟩
    · replace e3 := some_eq e3
      subst e3
      exact AW.rA ⟨[(2, (vB false))], []⟩ (T2 (T4 ((Tt ∧ (decide ((a0.Turns.length : Int) ≥ (1 : Int))) = false) ∧ T4 (T4 Tt)))) [.no, .no, .no, .no, .no, .no, .dec false] [2] [] ⟨tr, tr, tr, tr, tr, tr, ⟨tr, b1⟩, tr, tr, tr, tr, tr, tr, tr, tr, tr⟩ ⟨rfl, rfl⟩
  refine thenQ_normal ?_
  refine AW.ret ?_
  replace h := some_eq h
  subst h
  exact ⟨.inr rfl, retOK_of [(.one (.c (.bool j2)))] (by kernel_rfl) ⟨⟨rfl, tr⟩, tr⟩ (of_decide_eq_true (by kernel_rfl))⟩

/-! math.Float32bits -/
def math_Float32bits (_K : Nat) (a0 : F32) : Option (Int) :=
  a0.toBits

theorem ok_math_Float32bits (K : Nat) (a0 : F32) (o : Int) (h : math_Float32bits K a0 = some o) : CallOK Tryd.prog 34 [.one (.flt .f32 a0.bits)] [.one (.int .u32 o)] :=
  hand_toBits (e := Extern.MathFloatBits.float32bits) Tryd.func34 (by kernel_rfl) (by kernel_rfl) (by kernel_rfl) (by kernel_rfl) (fun _ _ => rfl) a0 o h

/-! spec.l01Bits -/
def spec_l01Bits (K : Nat) (a0 : F32) : Option (Int) :=
  ite2 ((a0.ne a0)) (some (2143289344 : Int)) ((math_Float32bits K a0).bind fun v2 => some (IntKind.i64.wrap v2))

theorem ok_spec_l01Bits (K : Nat) (a0 : F32) (o : (Int)) (h : spec_l01Bits K a0 = some o) : CallOK Tryd.prog 32 [.one (.flt .f32 a0.bits)] [.one (.int .i64 o)] := by
  refine callOK_of_AW Tryd.func32 rfl (by kernel_rfl) (Nat.le_of_ble_eq_true (by kernel_rfl)) ?_
  intro w0
  unfold spec_l01Bits at h
  refine AW.sC (Tt ∧ Tt) [] [0] [] ⟨tr, tr⟩ ?_
  refine AW.seq ?_
  refine AW.sA ⟨[(0, (vc (.flt .f32 a0.bits))), (5, (vB (a0.ne a0)))], []⟩ (Tt ∧ T2 Tt) [] [0, 5] [] ⟨tr, tr, tr, tr⟩ ?_
  rcases ite2_cases h with ⟨b1, h⟩ | ⟨b1, h⟩
  · refine AW.cond_t rfl b1 ?_
    refine AW.sA ⟨[(2, (vI (2143289344 : Int)))], []⟩ (Tt ∧ Tt) [] [2] [] ⟨tr, tr⟩ ?_
    refine AW.ret ?_
    refine thenQ_ret ?_
    replace h := some_eq h
    subst h
    exact ⟨.inr rfl, retOK_of [(.one (cI (2143289344 : Int)))] (by kernel_rfl) ⟨⟨rfl, tr⟩, tr⟩ (of_decide_eq_true (by kernel_rfl))⟩
  · refine AW.cond_f rfl b1 ?_
    refine AW.skip ?_
    refine thenQ_normal ?_
    refine AW.seq ?_
    obtain ⟨v2, e3, h⟩ := bind_some h
    refine AW.tA ⟨[(2, (vI (IntKind.i64.wrap v2)))], []⟩ (Tt ∧ (((eF a0) ∧ Tt) ∧ CallOK Tryd.prog 34 [.one (.flt .f32 a0.bits)] [.one (.int .u32 v2)]) ∧ T2 Tt) [.no, .call [.one (.flt .f32 a0.bits)] [.one (.int .u32 v2)] [[.view]]] [2] [] ⟨tr, ⟨⟨rfl, tr⟩, ok_math_Float32bits K a0 v2 e3⟩, tr, tr, tr⟩ ?_
    refine AW.ret ?_
    replace h := some_eq h
    subst h
    exact ⟨.inr rfl, retOK_of [(.one (cI (IntKind.i64.wrap v2)))] (by kernel_rfl) ⟨⟨rfl, tr⟩, tr⟩ (of_decide_eq_true (by kernel_rfl))⟩

/-! spec.l01Hex -/
def spec_l01Hex_l1 (K : Nat) (v1 : (Int)) : Nat → Int → (List Int) → Option (ByteArray)
  | 0, _, _ => none
  | k + 1, x5, x6 => ite2 ((decide (x5 ≥ (0 : Int)))) (chk (0 ≤ (IntKind.u64.wrap x5)) (chk (0 ≤ (bits .and .i64 (v1.fdiv (2 ^ (min (IntKind.u64.wrap x5).toNat (IntKind.bits .i64)))) (15 : Int)) ∧ (bits .and .i64 (v1.fdiv (2 ^ (min (IntKind.u64.wrap x5).toNat (IntKind.bits .i64)))) (15 : Int)) < ((ByteArray.mk #[48, 49, 50, 51, 52, 53, 54, 55, 56, 57, 97, 98, 99, 100, 101, 102]).size : Int)) (chk ((x6.length + ([(bt (ByteArray.mk #[48, 49, 50, 51, 52, 53, 54, 55, 56, 57, 97, 98, 99, 100, 101, 102]) (bits .and .i64 (v1.fdiv (2 ^ (min (IntKind.u64.wrap x5).toNat (IntKind.bits .i64)))) (15 : Int)).toNat)]).length) * 1 ≤ 140737488355328) (spec_l01Hex_l1 K v1 k (IntKind.i64.wrap (x5 - (4 : Int))) (x6 ++ ([(bt (ByteArray.mk #[48, 49, 50, 51, 52, 53, 54, 55, 56, 57, 97, 98, 99, 100, 101, 102]) (bits .and .i64 (v1.fdiv (2 ^ (min (IntKind.u64.wrap x5).toNat (IntKind.bits .i64)))) (15 : Int)).toNat)])))))) (chk (∀ x ∈ x6, 0 ≤ x ∧ x < 256) (some (strOf x6)))

def spec_l01Hex (K : Nat) (a0 : F32) : Option (ByteArray) :=
  (spec_l01Bits K a0).bind fun v1 => spec_l01Hex_l1 K v1 K (28 : Int) ([] : List Int)

theorem ok_spec_l01Hex (K : Nat) (a0 : F32) (o : (ByteArray)) (h : spec_l01Hex K a0 = some o) : CallOK Tryd.prog 27 [.one (.flt .f32 a0.bits)] [.one (.str o)] := by
  refine callOK_of_AW Tryd.func27 rfl (by kernel_rfl) (Nat.le_of_ble_eq_true (by kernel_rfl)) ?_
  intro w0
  unfold spec_l01Hex at h
  refine AW.sC (Tt ∧ Tt) [] [0] [] ⟨tr, tr⟩ ?_
  refine AW.seq ?_
  obtain ⟨v1, e2, h⟩ := bind_some h
  refine AW.tC (Tt ∧ (((eF a0) ∧ Tt) ∧ CallOK Tryd.prog 32 [.one (.flt .f32 a0.bits)] [.one (.int .i64 v1)]) ∧ Tt ∧ Tt) [.no, .call [.one (.flt .f32 a0.bits)] [.one (.int .i64 v1)] [[.view]]] [3] [] ⟨tr, ⟨⟨rfl, tr⟩, ok_spec_l01Bits K a0 v1 e2⟩, tr, tr⟩ ?_
  refine AW.sC ((([] : List Int).length = 0 ∧ Tt) ∧ Tt ∧ Tt) [.obj 1 ([] : List Int).length (gl (csI .u8) ([] : List Int))] [3, 4] [1] ⟨⟨rfl, tr⟩, tr, tr⟩ ?_
  refine AW.seq ?_
  refine AW.sA ⟨[(3, (vI v1)), (4, (vL 1 1 (csI .u8) ([] : List Int))), (5, (vI (28 : Int)))], [(1, (oL 1 (csI .u8) ([] : List Int)))]⟩ (Tt ∧ Tt) [] [3, 4, 5] [1] ⟨tr, tr⟩ ?_
  refine AW.block ?_
  refine AW.loopQ (σ := Nat × Int × (List Int)) (fun p => ⟨[(3, (vI v1)), (4, (vL 1 1 (csI .u8) p.2.2)), (5, (vI p.2.1))], [(1, (oL 1 (csI .u8) p.2.2))]⟩) (fun p => spec_l01Hex_l1 K v1 p.1 p.2.1 p.2.2 = some o) (fun p => p.1) (K, (28 : Int), ([] : List Int)) h ?_
  clear h
  rintro ⟨k, x5, x6⟩ h
  replace h : spec_l01Hex_l1 K v1 k x5 x6 = some o := h
  show AW _ _ (⟨[(3, (vI v1)), (4, (vL 1 1 (csI .u8) x6)), (5, (vI x5))], [(1, (oL 1 (csI .u8) x6))]⟩ : St) _
  obtain _ | k := k
  · rw [spec_l01Hex_l1] at h; cases h
  rw [spec_l01Hex_l1] at h
  refine AW.seq ?_
  refine AW.sA ⟨[(3, (vI v1)), (4, (vL 1 1 (csI .u8) x6)), (5, (vI x5)), (10, (vB (decide (x5 ≥ (0 : Int)))))], [(1, (oL 1 (csI .u8) x6))]⟩ (T2 Tt) [] [3, 4, 5, 10] [1] ⟨tr, tr, tr⟩ ?_
  rcases ite2_cases h with ⟨b7, h⟩ | ⟨b7, h⟩
  · refine AW.cond_t rfl b7 ?_
    refine AW.skip ?_
    refine thenQ_normal ?_
    refine AW.seq ?_
    refine AW.block ?_
    obtain ⟨c8, h⟩ := chk_some h
    obtain ⟨c9, h⟩ := chk_some h
    obtain ⟨c10, h⟩ := chk_some h
    refine AW.rA ⟨[(3, (vI v1)), (4, (vL 7 1 (csI .u8) (x6 ++ ([(bt (ByteArray.mk #[48, 49, 50, 51, 52, 53, 54, 55, 56, 57, 97, 98, 99, 100, 101, 102]) (bits .and .i64 (v1.fdiv (2 ^ (min (IntKind.u64.wrap x5).toNat (IntKind.bits .i64)))) (15 : Int)).toNat)])))), (5, (vI x5))], [(7, (oL 1 (csI .u8) (x6 ++ ([(bt (ByteArray.mk #[48, 49, 50, 51, 52, 53, 54, 55, 56, 57, 97, 98, 99, 100, 101, 102]) (bits .and .i64 (v1.fdiv (2 ^ (min (IntKind.u64.wrap x5).toNat (IntKind.bits .i64)))) (15 : Int)).toNat)]))))]⟩ (T4 ((0 ≤ (IntKind.u64.wrap x5)) ∧ Tt ∧ (0 ≤ (bits .and .i64 (v1.fdiv (2 ^ (min (IntKind.u64.wrap x5).toNat (IntKind.bits .i64)))) (15 : Int)) ∧ (bits .and .i64 (v1.fdiv (2 ^ (min (IntKind.u64.wrap x5).toNat (IntKind.bits .i64)))) (15 : Int)) < ((ByteArray.mk #[48, 49, 50, 51, 52, 53, 54, 55, 56, 57, 97, 98, 99, 100, 101, 102]).size : Int)) ∧ (([(bt (ByteArray.mk #[48, 49, 50, 51, 52, 53, 54, 55, 56, 57, 97, 98, 99, 100, 101, 102]) (bits .and .i64 (v1.fdiv (2 ^ (min (IntKind.u64.wrap x5).toNat (IntKind.bits .i64)))) (15 : Int)).toNat)]).length = 1 ∧ (((.int .u8 (bt (ByteArray.mk #[48, 49, 50, 51, 52, 53, 54, 55, 56, 57, 97, 98, 99, 100, 101, 102]) (bits .and .i64 (v1.fdiv (2 ^ (min (IntKind.u64.wrap x5).toNat (IntKind.bits .i64)))) (15 : Int)).toNat)) : C) = (.int .u8 (bt (ByteArray.mk #[48, 49, 50, 51, 52, 53, 54, 55, 56, 57, 97, 98, 99, 100, 101, 102]) (bits .and .i64 (v1.fdiv (2 ^ (min (IntKind.u64.wrap x5).toNat (IntKind.bits .i64)))) (15 : Int)).toNat)) ∧ Tt) ∧ Tt) ∧ ((x6 ++ ([(bt (ByteArray.mk #[48, 49, 50, 51, 52, 53, 54, 55, 56, 57, 97, 98, 99, 100, 101, 102]) (bits .and .i64 (v1.fdiv (2 ^ (min (IntKind.u64.wrap x5).toNat (IntKind.bits .i64)))) (15 : Int)).toNat)])).length = x6.length + ([(bt (ByteArray.mk #[48, 49, 50, 51, 52, 53, 54, 55, 56, 57, 97, 98, 99, 100, 101, 102]) (bits .and .i64 (v1.fdiv (2 ^ (min (IntKind.u64.wrap x5).toNat (IntKind.bits .i64)))) (15 : Int)).toNat)]).length ∧ AppOb (x6.length) (([(bt (ByteArray.mk #[48, 49, 50, 51, 52, 53, 54, 55, 56, 57, 97, 98, 99, 100, 101, 102]) (bits .and .i64 (v1.fdiv (2 ^ (min (IntKind.u64.wrap x5).toNat (IntKind.bits .i64)))) (15 : Int)).toNat)]).length) 1 (gl (csI .u8) x6) (gl (csI .u8) ([(bt (ByteArray.mk #[48, 49, 50, 51, 52, 53, 54, 55, 56, 57, 97, 98, 99, 100, 101, 102]) (bits .and .i64 (v1.fdiv (2 ^ (min (IntKind.u64.wrap x5).toNat (IntKind.bits .i64)))) (15 : Int)).toNat)])) (gl (csI .u8) (x6 ++ ([(bt (ByteArray.mk #[48, 49, 50, 51, 52, 53, 54, 55, 56, 57, 97, 98, 99, 100, 101, 102]) (bits .and .i64 (v1.fdiv (2 ^ (min (IntKind.u64.wrap x5).toNat (IntKind.bits .i64)))) (15 : Int)).toNat)]))) ∧ (∀ i j, i < ([(bt (ByteArray.mk #[48, 49, 50, 51, 52, 53, 54, 55, 56, 57, 97, 98, 99, 100, 101, 102]) (bits .and .i64 (v1.fdiv (2 ^ (min (IntKind.u64.wrap x5).toNat (IntKind.bits .i64)))) (15 : Int)).toNat)]).length → j < 1 → scalarC (gl (csI .u8) ([(bt (ByteArray.mk #[48, 49, 50, 51, 52, 53, 54, 55, 56, 57, 97, 98, 99, 100, 101, 102]) (bits .and .i64 (v1.fdiv (2 ^ (min (IntKind.u64.wrap x5).toNat (IntKind.bits .i64)))) (15 : Int)).toNat)]) i j)) ∧ (x6.length + ([(bt (ByteArray.mk #[48, 49, 50, 51, 52, 53, 54, 55, 56, 57, 97, 98, 99, 100, 101, 102]) (bits .and .i64 (v1.fdiv (2 ^ (min (IntKind.u64.wrap x5).toNat (IntKind.bits .i64)))) (15 : Int)).toNat)]).length) * 1 ≤ 140737488355328) ∧ Tt ∧ Tt)) [.no, .no, .no, .no, .no, .no, .no, .obj 6 ([(bt (ByteArray.mk #[48, 49, 50, 51, 52, 53, 54, 55, 56, 57, 97, 98, 99, 100, 101, 102]) (bits .and .i64 (v1.fdiv (2 ^ (min (IntKind.u64.wrap x5).toNat (IntKind.bits .i64)))) (15 : Int)).toNat)]).length (gl (csI .u8) ([(bt (ByteArray.mk #[48, 49, 50, 51, 52, 53, 54, 55, 56, 57, 97, 98, 99, 100, 101, 102]) (bits .and .i64 (v1.fdiv (2 ^ (min (IntKind.u64.wrap x5).toNat (IntKind.bits .i64)))) (15 : Int)).toNat)])), .objK 7 (x6 ++ ([(bt (ByteArray.mk #[48, 49, 50, 51, 52, 53, 54, 55, 56, 57, 97, 98, 99, 100, 101, 102]) (bits .and .i64 (v1.fdiv (2 ^ (min (IntKind.u64.wrap x5).toNat (IntKind.bits .i64)))) (15 : Int)).toNat)])).length (gl (csI .u8) (x6 ++ ([(bt (ByteArray.mk #[48, 49, 50, 51, 52, 53, 54, 55, 56, 57, 97, 98, 99, 100, 101, 102]) (bits .and .i64 (v1.fdiv (2 ^ (min (IntKind.u64.wrap x5).toNat (IntKind.bits .i64)))) (15 : Int)).toNat)])))] [3, 4, 5] [7] ⟨tr, tr, tr, tr, c8, tr, c9, ⟨rfl, ⟨⟨rfl, tr⟩, tr⟩⟩, ⟨List.length_append, gl_append, gl_scalar scI _, c10⟩, tr, tr⟩ ?_
    refine blockQ_normal ?_
    refine thenQ_normal ?_
    refine AW.rA ⟨[(3, (vI v1)), (4, (vL 7 1 (csI .u8) (x6 ++ ([(bt (ByteArray.mk #[48, 49, 50, 51, 52, 53, 54, 55, 56, 57, 97, 98, 99, 100, 101, 102]) (bits .and .i64 (v1.fdiv (2 ^ (min (IntKind.u64.wrap x5).toNat (IntKind.bits .i64)))) (15 : Int)).toNat)])))), (5, (vI (IntKind.i64.wrap (x5 - (4 : Int)))))], [(7, (oL 1 (csI .u8) (x6 ++ ([(bt (ByteArray.mk #[48, 49, 50, 51, 52, 53, 54, 55, 56, 57, 97, 98, 99, 100, 101, 102]) (bits .and .i64 (v1.fdiv (2 ^ (min (IntKind.u64.wrap x5).toNat (IntKind.bits .i64)))) (15 : Int)).toNat)]))))]⟩ (Tt ∧ T2 Tt) [] [3, 4, 5] [7] ⟨tr, tr, tr, tr⟩ ?_
    exact loopQ_normal (k, (IntKind.i64.wrap (x5 - (4 : Int))), (x6 ++ ([(bt (ByteArray.mk #[48, 49, 50, 51, 52, 53, 54, 55, 56, 57, 97, 98, 99, 100, 101, 102]) (bits .and .i64 (v1.fdiv (2 ^ (min (IntKind.u64.wrap x5).toNat (IntKind.bits .i64)))) (15 : Int)).toNat)]))) h (Nat.lt_succ_self k) (Sub.trans (Sub.swap 1 7 _ (by kernel_rfl) (by kernel_rfl)) (Sub.keep [3, 4, 5] [1] (by kernel_rfl) (by kernel_rfl)))
  · refine AW.cond_f rfl b7 ?_
    refine AW.exit ?_
    refine thenQ_exit ?_
    refine loopQ_exit ?_
    refine blockQ_exit ?_
    refine thenQ_normal ?_
    refine AW.seq ?_
    obtain ⟨c11, h⟩ := chk_some h
    refine AW.tA ⟨[(2, (vc (.str (strOf x6))))], []⟩ (Tt ∧ (bytesOb (strOf x6) x6.length (gl (csI .u8) x6)) ∧ Tt ∧ Tt) [.no, .str (strOf x6)] [2] [] ⟨tr, strOf_ob c11, tr, tr⟩ ?_
    refine AW.ret ?_
    replace h := some_eq h
    subst h
    exact ⟨.inr rfl, retOK_of [(.one (.c (.str (strOf x6))))] (by kernel_rfl) ⟨⟨rfl, tr⟩, tr⟩ (of_decide_eq_true (by kernel_rfl))⟩

/-! spec.l01NText -/
def spec_l01NText_l1 (K : Nat) (a0 : (List F32)) : Nat → ByteArray → Int → Option (ByteArray)
  | 0, _, _ => none
  | k + 1, x7, x8 => ite2 ((decide (x8 < (a0.length : Int)))) (chk (0 ≤ x8 ∧ x8 < (a0.length : Int)) ((spec_l01Hex K (a0.getD x8.toNat default)).bind fun v11 => chk ((((ByteArray.mk #[44]).size + v11.size : Nat) : Int) ≤ 9223372036854775807) (chk (((x7.size + ((ByteArray.mk #[44]) ++ v11).size : Nat) : Int) ≤ 9223372036854775807) (spec_l01NText_l1 K a0 k (x7 ++ ((ByteArray.mk #[44]) ++ v11)) (IntKind.i64.wrap (x8 + (1 : Int))))))) (some x7)

def spec_l01NText (K : Nat) (a0 : (List F32)) : Option (ByteArray) :=
  ite2 (((a0.length : Int) == (0 : Int))) (some (ByteArray.mk #[110, 111, 110, 101])) (chk (0 ≤ (0 : Int) ∧ (0 : Int) < (a0.length : Int)) ((spec_l01Hex K (a0.getD ((0 : Int).toNat) default)).bind fun v3 => spec_l01NText_l1 K a0 K v3 (1 : Int)))

theorem ok_spec_l01NText (K : Nat) (a0 : (List F32)) (o : (ByteArray)) (h : spec_l01NText K a0 = some o) : CallOK Tryd.prog 20 [.one (sl 1 (csF .f32) a0)] [.one (.str o)] := by
  refine callOK_of_AW Tryd.func20 rfl (by kernel_rfl) (Nat.le_of_ble_eq_true (by kernel_rfl)) ?_
  intro w0
  unfold spec_l01NText at h
  refine AW.sC (Tt ∧ Tt) [] [0] [] ⟨tr, tr⟩ ?_
  refine AW.seq ?_
  refine AW.sA ⟨[(0, (vc (sl 1 (csF .f32) a0))), (7, (vB ((a0.length : Int) == (0 : Int))))], []⟩ (Tt ∧ T2 Tt) [] [0, 7] [] ⟨tr, tr, tr, tr⟩ ?_
  rcases ite2_cases h with ⟨b1, h⟩ | ⟨b1, h⟩
  · refine AW.cond_t rfl b1 ?_
    refine AW.sA ⟨[(2, (vc (.str (ByteArray.mk #[110, 111, 110, 101]))))], []⟩ (Tt ∧ Tt) [] [2] [] ⟨tr, tr⟩ ?_
    refine AW.ret ?_
    refine thenQ_ret ?_
    replace h := some_eq h
    subst h
    exact ⟨.inr rfl, retOK_of [(.one (.c (.str (ByteArray.mk #[110, 111, 110, 101]))))] (by kernel_rfl) ⟨⟨rfl, tr⟩, tr⟩ (of_decide_eq_true (by kernel_rfl))⟩
  · refine AW.cond_f rfl b1 ?_
    refine AW.skip ?_
    refine thenQ_normal ?_
    refine AW.seq ?_
    obtain ⟨c2, h⟩ := chk_some h
    obtain ⟨v3, e4, h⟩ := bind_some h
    refine AW.tC (Tt ∧ (0 ≤ (0 : Int) ∧ (0 : Int) < (a0.length : Int)) ∧ Tt ∧ (((eF (a0.getD ((0 : Int).toNat) default)) ∧ Tt) ∧ CallOK Tryd.prog 27 [.one (.flt .f32 (a0.getD ((0 : Int).toNat) default).bits)] [.one (.str v3)]) ∧ Tt ∧ Tt) [.no, .no, .no, .call [.one (.flt .f32 (a0.getD ((0 : Int).toNat) default).bits)] [.one (.str v3)] [[.view]]] [0, 3] [] ⟨tr, c2, tr, ⟨⟨rfl, tr⟩, ok_spec_l01Hex K (a0.getD ((0 : Int).toNat) default) v3 e4⟩, tr, tr⟩ ?_
    refine AW.seq ?_
    refine AW.sA ⟨[(0, (vc (sl 1 (csF .f32) a0))), (3, (vc (.str v3))), (4, (vI (1 : Int)))], []⟩ (Tt ∧ Tt) [] [0, 3, 4] [] ⟨tr, tr⟩ ?_
    refine AW.block ?_
    refine AW.loopQ (σ := Nat × ByteArray × Int) (fun p => ⟨[(0, (vc (sl 1 (csF .f32) a0))), (3, (vc (.str p.2.1))), (4, (vI p.2.2))], []⟩) (fun p => spec_l01NText_l1 K a0 p.1 p.2.1 p.2.2 = some o) (fun p => p.1) (K, v3, (1 : Int)) h ?_
    clear h
    rintro ⟨k, x7, x8⟩ h
    replace h : spec_l01NText_l1 K a0 k x7 x8 = some o := h
    show AW _ _ (⟨[(0, (vc (sl 1 (csF .f32) a0))), (3, (vc (.str x7))), (4, (vI x8))], []⟩ : St) _
    obtain _ | k := k
    · rw [spec_l01NText_l1] at h; cases h
    rw [spec_l01NText_l1] at h
    refine AW.seq ?_
    refine AW.sA ⟨[(0, (vc (sl 1 (csF .f32) a0))), (3, (vc (.str x7))), (4, (vI x8)), (15, (vB (decide (x8 < (a0.length : Int)))))], []⟩ (T4 Tt) [] [0, 3, 4, 15] [] ⟨tr, tr, tr, tr, tr⟩ ?_
    rcases ite2_cases h with ⟨b9, h⟩ | ⟨b9, h⟩
    · refine AW.cond_t rfl b9 ?_
      refine AW.skip ?_
      refine thenQ_normal ?_
      refine AW.seq ?_
      refine AW.block ?_
      obtain ⟨c10, h⟩ := chk_some h
      obtain ⟨v11, e12, h⟩ := bind_some h
      obtain ⟨c13, h⟩ := chk_some h
      obtain ⟨c14, h⟩ := chk_some h
      refine AW.rA ⟨[(0, (vc (sl 1 (csF .f32) a0))), (3, (vc (.str (x7 ++ ((ByteArray.mk #[44]) ++ v11))))), (4, (vI x8))], []⟩ (Tt ∧ T2 ((0 ≤ x8 ∧ x8 < (a0.length : Int)) ∧ Tt ∧ (((eF (a0.getD x8.toNat default)) ∧ Tt) ∧ CallOK Tryd.prog 27 [.one (.flt .f32 (a0.getD x8.toNat default).bits)] [.one (.str v11)]) ∧ ((((ByteArray.mk #[44]).size + v11.size : Nat) : Int) ≤ 9223372036854775807) ∧ (((x7.size + ((ByteArray.mk #[44]) ++ v11).size : Nat) : Int) ≤ 9223372036854775807) ∧ Tt ∧ Tt)) [.no, .no, .no, .no, .no, .call [.one (.flt .f32 (a0.getD x8.toNat default).bits)] [.one (.str v11)] [[.view]]] [0, 3, 4] [] ⟨tr, tr, tr, c10, tr, ⟨⟨rfl, tr⟩, ok_spec_l01Hex K (a0.getD x8.toNat default) v11 e12⟩, c13, c14, tr, tr⟩ ?_
      refine blockQ_normal ?_
      refine thenQ_normal ?_
      refine AW.rA ⟨[(0, (vc (sl 1 (csF .f32) a0))), (3, (vc (.str (x7 ++ ((ByteArray.mk #[44]) ++ v11))))), (4, (vI (IntKind.i64.wrap (x8 + (1 : Int)))))], []⟩ (Tt ∧ T2 Tt) [] [0, 3, 4] [] ⟨tr, tr, tr, tr⟩ ?_
      exact loopQ_normal (k, (x7 ++ ((ByteArray.mk #[44]) ++ v11)), (IntKind.i64.wrap (x8 + (1 : Int)))) h (Nat.lt_succ_self k) (Sub.keep [0, 3, 4] [] (by kernel_rfl) (by kernel_rfl))
    · refine AW.cond_f rfl b9 ?_
      refine AW.exit ?_
      refine thenQ_exit ?_
      refine loopQ_exit ?_
      refine blockQ_exit ?_
      refine thenQ_normal ?_
      refine AW.sA ⟨[(2, (vc (.str x7)))], []⟩ (T2 Tt) [] [2] [] ⟨tr, tr, tr⟩ ?_
      refine AW.ret ?_
      replace h := some_eq h
      subst h
      exact ⟨.inr rfl, retOK_of [(.one (.c (.str x7)))] (by kernel_rfl) ⟨⟨rfl, tr⟩, tr⟩ (of_decide_eq_true (by kernel_rfl))⟩

/-! spec.l01VText -/
def spec_l01VText (K : Nat) (a0 : Vector) : Option (ByteArray) :=
  (spec_l01NText K ([a0.X, a0.Y, a0.Z])).bind fun v1 => some v1

theorem ok_spec_l01VText (K : Nat) (a0 : Vector) (o : (ByteArray)) (h : spec_l01VText K a0 = some o) : CallOK Tryd.prog 19 [.agg (cs_Vector a0)] [.one (.str o)] := by
  refine callOK_of_AW Tryd.func19 rfl (by kernel_rfl) (Nat.le_of_ble_eq_true (by kernel_rfl)) ?_
  intro w0
  unfold spec_l01VText at h
  refine AW.sC (T2 Tt) [.box 1] [1] [1] ⟨tr, tr, tr⟩ ?_
  refine AW.seq ?_
  obtain ⟨v1, e2, h⟩ := bind_some h
  refine AW.tA ⟨[(2, (vc (.str v1)))], []⟩ (T2 (T4 ((([a0.X, a0.Y, a0.Z]).length = 3 ∧ (((.flt .f32 a0.X.bits) : C) = (.flt .f32 a0.X.bits) ∧ Tt) ∧ (((.flt .f32 a0.Y.bits) : C) = (.flt .f32 a0.Y.bits) ∧ Tt) ∧ (((.flt .f32 a0.Z.bits) : C) = (.flt .f32 a0.Z.bits) ∧ Tt) ∧ Tt) ∧ (((Eqc (sl 1 (csF .f32) ([a0.X, a0.Y, a0.Z]))) ∧ Tt) ∧ CallOK Tryd.prog 20 [.one (sl 1 (csF .f32) ([a0.X, a0.Y, a0.Z]))] [.one (.str v1)]) ∧ Tt ∧ Tt))) [.no, .no, .no, .no, .no, .no, .obj 2 ([a0.X, a0.Y, a0.Z]).length (gl (csF .f32) ([a0.X, a0.Y, a0.Z])), .call [.one (sl 1 (csF .f32) ([a0.X, a0.Y, a0.Z]))] [.one (.str v1)] [[.view]]] [2] [] ⟨tr, tr, tr, tr, tr, tr, ⟨rfl, ⟨⟨rfl, tr⟩, ⟨rfl, tr⟩, ⟨rfl, tr⟩, tr⟩⟩, ⟨⟨rfl, tr⟩, ok_spec_l01NText K ([a0.X, a0.Y, a0.Z]) v1 e2⟩, tr, tr⟩ ?_
  refine AW.ret ?_
  replace h := some_eq h
  subst h
  exact ⟨.inr rfl, retOK_of [(.one (.c (.str v1)))] (by kernel_rfl) ⟨⟨rfl, tr⟩, tr⟩ (of_decide_eq_true (by kernel_rfl))⟩

/-! spec.l11Four -/
def spec_l11Four (_K : Nat) (a0 : Turn) : Option ((List F32)) :=
  some ([a0.W, a0.X, a0.Y, a0.Z])

theorem ok_spec_l11Four (K : Nat) (a0 : Turn) (o : ((List F32))) (h : spec_l11Four K a0 = some o) : CallOK Tryd.prog 21 [.agg (cs_Turn a0)] [.one (sl 1 (csF .f32) o)] := by
  refine callOK_of_AW Tryd.func21 rfl (by kernel_rfl) (Nat.le_of_ble_eq_true (by kernel_rfl)) ?_
  intro w0
  unfold spec_l11Four at h
  refine AW.sC (T2 Tt) [.box 1] [1] [1] ⟨tr, tr, tr⟩ ?_
  refine AW.sA ⟨[(2, (vL 2 1 (csF .f32) ([a0.W, a0.X, a0.Y, a0.Z])))], [(2, (oL 1 (csF .f32) ([a0.W, a0.X, a0.Y, a0.Z])))]⟩ (T4 (T4 ((([a0.W, a0.X, a0.Y, a0.Z]).length = 4 ∧ (((.flt .f32 a0.W.bits) : C) = (.flt .f32 a0.W.bits) ∧ Tt) ∧ (((.flt .f32 a0.X.bits) : C) = (.flt .f32 a0.X.bits) ∧ Tt) ∧ (((.flt .f32 a0.Y.bits) : C) = (.flt .f32 a0.Y.bits) ∧ Tt) ∧ (((.flt .f32 a0.Z.bits) : C) = (.flt .f32 a0.Z.bits) ∧ Tt) ∧ Tt) ∧ Tt ∧ Tt))) [.no, .no, .no, .no, .no, .no, .no, .no, .obj 2 ([a0.W, a0.X, a0.Y, a0.Z]).length (gl (csF .f32) ([a0.W, a0.X, a0.Y, a0.Z]))] [2] [2] ⟨tr, tr, tr, tr, tr, tr, tr, tr, ⟨rfl, ⟨⟨rfl, tr⟩, ⟨rfl, tr⟩, ⟨rfl, tr⟩, ⟨rfl, tr⟩, tr⟩⟩, tr, tr⟩ ?_
  refine AW.ret ?_
  replace h := some_eq h
  subst h
  exact ⟨.inr rfl, retOK_of [(.one (xL 2 1 (csF .f32) ([a0.W, a0.X, a0.Y, a0.Z])))] (by kernel_rfl) ⟨rfl, tr⟩ (of_decide_eq_true (by kernel_rfl))⟩

/-! spec.l11Text -/
def spec_l11Text_l1 (K : Nat) (a0 : Pose) : Nat → ByteArray → Int → Option (ByteArray)
  | 0, _, _ => none
  | k + 1, x5, x6 => ite2 ((decide (x6 < (a0.Turns.length : Int)))) (chk (0 ≤ x6 ∧ x6 < (a0.Turns.length : Int)) ((spec_l11Four K (a0.Turns.getD x6.toNat default)).bind fun v9 => (spec_l01NText K v9).bind fun v11 => chk ((((ByteArray.mk #[59]).size + v11.size : Nat) : Int) ≤ 9223372036854775807) (chk (((x5.size + ((ByteArray.mk #[59]) ++ v11).size : Nat) : Int) ≤ 9223372036854775807) (spec_l11Text_l1 K a0 k (x5 ++ ((ByteArray.mk #[59]) ++ v11)) (IntKind.i64.wrap (x6 + (1 : Int))))))) (some x5)

def spec_l11Text (K : Nat) (a0 : Pose) : Option (ByteArray) :=
  (spec_l01VText K a0.Root).bind fun v1 => spec_l11Text_l1 K a0 K v1 (0 : Int)

theorem ok_spec_l11Text (K : Nat) (a0 : Pose) (o : (ByteArray)) (h : spec_l11Text K a0 = some o) : CallOK Tryd.prog 11 [.one (pl 4 cs_Pose a0)] [.one (.str o)] := by
  refine callOK_of_AW Tryd.func11 rfl (by kernel_rfl) (Nat.le_of_ble_eq_true (by kernel_rfl)) ?_
  intro w0
  unfold spec_l11Text at h
  refine AW.sC (Tt ∧ Tt) [] [0] [] ⟨tr, tr⟩ ?_
  refine AW.seq ?_
  obtain ⟨v1, e2, h⟩ := bind_some h
  refine AW.tC (T4 (((((eF a0.Root.X) ∧ (eF a0.Root.Y) ∧ (eF a0.Root.Z) ∧ Tt) ∧ Tt) ∧ CallOK Tryd.prog 19 [.agg (cs_Vector a0.Root)] [.one (.str v1)]) ∧ Tt ∧ Tt)) [.no, .no, .no, .no, .call [.agg (cs_Vector a0.Root)] [.one (.str v1)] [[.view]]] [0, 3] [] ⟨tr, tr, tr, tr, ⟨⟨⟨rfl, rfl, rfl, tr⟩, tr⟩, ok_spec_l01VText K a0.Root v1 e2⟩, tr, tr⟩ ?_
  refine AW.seq ?_
  refine AW.sA ⟨[(0, (vc (pl 4 cs_Pose a0))), (3, (vc (.str v1))), (14, (vI (a0.Turns.length : Int))), (15, (vI (0 : Int)))], []⟩ (T2 (T4 Tt)) [] [0, 3, 14, 15] [] ⟨tr, tr, tr, tr, tr, tr, tr⟩ ?_
  refine AW.block ?_
  refine AW.loopQ (σ := Nat × ByteArray × Int) (fun p => ⟨[(0, (vc (pl 4 cs_Pose a0))), (3, (vc (.str p.2.1))), (14, (vI (a0.Turns.length : Int))), (15, (vI p.2.2))], []⟩) (fun p => spec_l11Text_l1 K a0 p.1 p.2.1 p.2.2 = some o) (fun p => p.1) (K, v1, (0 : Int)) h ?_
  clear h
  rintro ⟨k, x5, x6⟩ h
  replace h : spec_l11Text_l1 K a0 k x5 x6 = some o := h
  show AW _ _ (⟨[(0, (vc (pl 4 cs_Pose a0))), (3, (vc (.str x5))), (14, (vI (a0.Turns.length : Int))), (15, (vI x6))], []⟩ : St) _
  obtain _ | k := k
  · rw [spec_l11Text_l1] at h; cases h
  rw [spec_l11Text_l1] at h
  refine AW.sA ⟨[(0, (vc (pl 4 cs_Pose a0))), (3, (vc (.str x5))), (14, (vI (a0.Turns.length : Int))), (15, (vI x6)), (16, (vB (decide (x6 < (a0.Turns.length : Int)))))], []⟩ (Tt ∧ Tt) [] [0, 3, 14, 15, 16] [] ⟨tr, tr⟩ ?_
  refine AW.seq ?_
  rcases ite2_cases h with ⟨b7, h⟩ | ⟨b7, h⟩
  · refine AW.cond_t rfl b7 ?_
    refine AW.skip ?_
    refine thenQ_normal ?_
    refine AW.seq ?_
    refine AW.block ?_
    refine AW.sC (T2 Tt) [] [0, 3, 4, 14, 15] [] ⟨tr, tr, tr⟩ ?_
    obtain ⟨c8, h⟩ := chk_some h
    obtain ⟨v9, e10, h⟩ := bind_some h
    obtain ⟨v11, e12, h⟩ := bind_some h
    obtain ⟨c13, h⟩ := chk_some h
    obtain ⟨c14, h⟩ := chk_some h
    refine AW.rA ⟨[(0, (vc (pl 4 cs_Pose a0))), (3, (vc (.str (x5 ++ ((ByteArray.mk #[59]) ++ v11))))), (14, (vI (a0.Turns.length : Int))), (15, (vI x6))], []⟩ (T2 (T4 ((0 ≤ x6 ∧ x6 < (a0.Turns.length : Int)) ∧ Tt ∧ ((((eF ((a0.Turns.getD x6.toNat default).W)) ∧ (eF ((a0.Turns.getD x6.toNat default).X)) ∧ (eF ((a0.Turns.getD x6.toNat default).Y)) ∧ (eF ((a0.Turns.getD x6.toNat default).Z)) ∧ Tt) ∧ Tt) ∧ CallOK Tryd.prog 21 [.agg (cs_Turn (a0.Turns.getD x6.toNat default))] [.one (sl 1 (csF .f32) v9)]) ∧ (((Eqc (sl 1 (csF .f32) v9)) ∧ Tt) ∧ CallOK Tryd.prog 20 [.one (sl 1 (csF .f32) v9)] [.one (.str v11)]) ∧ ((((ByteArray.mk #[59]).size + v11.size : Nat) : Int) ≤ 9223372036854775807) ∧ (((x5.size + ((ByteArray.mk #[59]) ++ v11).size : Nat) : Int) ≤ 9223372036854775807) ∧ Tt ∧ Tt))) [.no, .no, .no, .no, .no, .no, .no, .no, .call [.agg (cs_Turn (a0.Turns.getD x6.toNat default))] [.one (sl 1 (csF .f32) v9)] [[.lst 3]], .call [.one (sl 1 (csF .f32) v9)] [.one (.str v11)] [[.view]]] [0, 3, 14, 15] [] ⟨tr, tr, tr, tr, tr, tr, c8, tr, ⟨⟨⟨rfl, rfl, rfl, rfl, tr⟩, tr⟩, ok_spec_l11Four K (a0.Turns.getD x6.toNat default) v9 e10⟩, ⟨⟨rfl, tr⟩, ok_spec_l01NText K v9 v11 e12⟩, c13, c14, tr, tr⟩ ?_
    refine blockQ_normal ?_
    refine thenQ_normal ?_
    refine AW.rA ⟨[(0, (vc (pl 4 cs_Pose a0))), (3, (vc (.str (x5 ++ ((ByteArray.mk #[59]) ++ v11))))), (14, (vI (a0.Turns.length : Int))), (15, (vI (IntKind.i64.wrap (x6 + (1 : Int)))))], []⟩ (T2 Tt) [] [0, 3, 14, 15] [] ⟨tr, tr, tr⟩ ?_
    exact loopQ_normal (k, (x5 ++ ((ByteArray.mk #[59]) ++ v11)), (IntKind.i64.wrap (x6 + (1 : Int)))) h (Nat.lt_succ_self k) (Sub.keep [0, 3, 14, 15] [] (by kernel_rfl) (by kernel_rfl))
  · refine AW.cond_f rfl b7 ?_
    refine AW.exit ?_
    refine thenQ_exit ?_
    refine loopQ_exit ?_
    refine blockQ_exit ?_
    refine thenQ_normal ?_
    refine AW.sA ⟨[(2, (vc (.str x5)))], []⟩ (T2 Tt) [] [2] [] ⟨tr, tr, tr⟩ ?_
    refine AW.ret ?_
    replace h := some_eq h
    subst h
    exact ⟨.inr rfl, retOK_of [(.one (.c (.str x5)))] (by kernel_rfl) ⟨⟨rfl, tr⟩, tr⟩ (of_decide_eq_true (by kernel_rfl))⟩

/-! spec.PoseText -/
def spec_PoseText (K : Nat) (a0 : Pose) : Option (ByteArray × Bool) :=
  (spec_l03Few K a0).bind fun v1 => ite2 ((!v1)) (some (ByteArray.empty, false)) ((spec_l11Text K a0).bind fun v4 => some (v4, true))

theorem ok_spec_PoseText (K : Nat) (a0 : Pose) (o : (ByteArray × Bool)) (h : spec_PoseText K a0 = some o) : CallOK Tryd.prog 5 [.agg (cs_Pose a0)] [.one (.str o.1), .one (.bool o.2)] := by
  refine callOK_of_AW Tryd.func5 rfl (by kernel_rfl) (Nat.le_of_ble_eq_true (by kernel_rfl)) ?_
  intro w0
  unfold spec_PoseText at h
  refine AW.sC (Tt ∧ T2 Tt) [.box 1] [1] [1] ⟨tr, tr, tr, tr⟩ ?_
  refine AW.seq ?_
  refine AW.seq ?_
  obtain ⟨v1, e2, h⟩ := bind_some h
  refine AW.tA ⟨[(1, (vp 1 0)), (5, (vB (!v1)))], [(1, (.box [(cF a0.Root.X), (cF a0.Root.Y), (cF a0.Root.Z), (.c (sl 4 cs_Turn a0.Turns))]))]⟩ ((((0 = 0 ∧ (eF a0.Root.X) ∧ (eF a0.Root.Y) ∧ (eF a0.Root.Z) ∧ (Eqc (sl 4 cs_Turn a0.Turns)) ∧ Tt) ∧ Tt) ∧ CallOK Tryd.prog 10 [.one (pl 4 cs_Pose a0)] [.one (.bool v1)]) ∧ Tt ∧ Tt) [.call [.one (pl 4 cs_Pose a0)] [.one (.bool v1)] [[.view]]] [1, 5] [1] ⟨⟨⟨⟨rfl, rfl, rfl, rfl, rfl, tr⟩, tr⟩, ok_spec_l03Few K a0 v1 e2⟩, tr, tr⟩ ?_
  rcases ite2_cases h with ⟨b3, h⟩ | ⟨b3, h⟩
  · refine AW.cond_t rfl b3 ?_
    refine AW.sA ⟨[(2, (vc (.str ByteArray.empty))), (3, (vB false))], []⟩ (T2 Tt) [] [2, 3] [] ⟨tr, tr, tr⟩ ?_
    refine AW.ret ?_
    refine thenQ_ret ?_
    replace h := some_eq h
    subst h
    exact ⟨.inr rfl, retOK_of [(.one (.c (.str ByteArray.empty))), (.one (.c (.bool false)))] (by kernel_rfl) ⟨⟨rfl, tr⟩, ⟨rfl, tr⟩, tr⟩ (of_decide_eq_true (by kernel_rfl))⟩
  · refine AW.cond_f rfl b3 ?_
    refine AW.skip ?_
    refine thenQ_normal ?_
    refine AW.seq ?_
    obtain ⟨v4, e5, h⟩ := bind_some h
    refine AW.tA ⟨[(2, (vc (.str v4))), (3, (vB true))], []⟩ ((((0 = 0 ∧ (eF a0.Root.X) ∧ (eF a0.Root.Y) ∧ (eF a0.Root.Z) ∧ (Eqc (sl 4 cs_Turn a0.Turns)) ∧ Tt) ∧ Tt) ∧ CallOK Tryd.prog 11 [.one (pl 4 cs_Pose a0)] [.one (.str v4)]) ∧ T2 Tt) [.call [.one (pl 4 cs_Pose a0)] [.one (.str v4)] [[.view]]] [2, 3] [] ⟨⟨⟨⟨rfl, rfl, rfl, rfl, rfl, tr⟩, tr⟩, ok_spec_l11Text K a0 v4 e5⟩, tr, tr, tr⟩ ?_
    refine AW.ret ?_
    replace h := some_eq h
    subst h
    exact ⟨.inr rfl, retOK_of [(.one (.c (.str v4))), (.one (.c (.bool true)))] (by kernel_rfl) ⟨⟨rfl, tr⟩, ⟨rfl, tr⟩, tr⟩ (of_decide_eq_true (by kernel_rfl))⟩

/-! impl.isPose -/
def impl_isPose (_K : Nat) (a0 : Pose) : Option (Bool) :=
  (ite2 ((decide ((a0.Turns.length : Int) ≥ (1 : Int)))) (some (decide ((a0.Turns.length : Int) ≤ (12 : Int)))) (some false)).bind fun j2 => some j2

theorem ok_impl_isPose (K : Nat) (a0 : Pose) (o : (Bool)) (h : impl_isPose K a0 = some o) : CallOK Tryd.prog 14 [.agg (cs_Pose a0)] [.one (.bool o)] := by
  refine callOK_of_AW Tryd.func14 rfl (by kernel_rfl) (Nat.le_of_ble_eq_true (by kernel_rfl)) ?_
  intro w0
  unfold impl_isPose at h
  refine AW.sA ⟨[(1, (vp 1 0))], [(1, (.box [(cF a0.Root.X), (cF a0.Root.Y), (cF a0.Root.Z), (.c (sl 4 cs_Turn a0.Turns))]))]⟩ (T2 Tt) [.box 1] [1] [1] ⟨tr, tr, tr⟩ ?_
  refine AW.seq ?_
  obtain ⟨j2, e3, h⟩ := bind_some h
  refine AW.join1 (s2 := ⟨[(2, (vB j2))], []⟩) ?_ ?_
  · rcases ite2_cases e3 with ⟨b1, e3⟩ | ⟨b1, e3⟩
    · replace e3 := some_eq e3
      subst e3
      exact AW.rA ⟨[(2, (vB (decide ((a0.Turns.length : Int) ≤ (12 : Int)))))], []⟩ (T4 ((Tt ∧ (decide ((a0.Turns.length : Int) ≥ (1 : Int))) = true) ∧ T2 (T4 Tt))) [.no, .no, .no, .no, .dec true] [2] [] ⟨tr, tr, tr, tr, ⟨tr, b1⟩, tr, tr, tr, tr, tr, tr, tr⟩ ⟨rfl, rfl⟩
    · replace e3 := some_eq e3
      subst e3
      exact AW.rA ⟨[(2, (vB false))], []⟩ (T4 ((Tt ∧ (decide ((a0.Turns.length : Int) ≥ (1 : Int))) = false) ∧ T2 (T4 Tt))) [.no, .no, .no, .no, .dec false] [2] [] ⟨tr, tr, tr, tr, ⟨tr, b1⟩, tr, tr, tr, tr, tr, tr, tr⟩ ⟨rfl, rfl⟩
  refine thenQ_normal ?_
  refine AW.ret ?_
  replace h := some_eq h
  subst h
  exact ⟨.inr rfl, retOK_of [(.one (.c (.bool j2)))] (by kernel_rfl) ⟨⟨rfl, tr⟩, tr⟩ (of_decide_eq_true (by kernel_rfl))⟩

/-! impl.BitsOf -/
def impl_BitsOf (K : Nat) (a0 : F32) : Option (Int) :=
  ite2 ((a0.ne a0)) (some (2143289344 : Int)) ((math_Float32bits K a0).bind fun v2 => some (IntKind.i64.wrap v2))

theorem ok_impl_BitsOf (K : Nat) (a0 : F32) (o : (Int)) (h : impl_BitsOf K a0 = some o) : CallOK Tryd.prog 29 [.one (.flt .f32 a0.bits)] [.one (.int .i64 o)] := by
  refine callOK_of_AW Tryd.func29 rfl (by kernel_rfl) (Nat.le_of_ble_eq_true (by kernel_rfl)) ?_
  intro w0
  unfold impl_BitsOf at h
  refine AW.sC (Tt ∧ Tt) [] [0] [] ⟨tr, tr⟩ ?_
  refine AW.seq ?_
  refine AW.sA ⟨[(0, (vc (.flt .f32 a0.bits))), (5, (vB (a0.ne a0)))], []⟩ (Tt ∧ T2 Tt) [] [0, 5] [] ⟨tr, tr, tr, tr⟩ ?_
  rcases ite2_cases h with ⟨b1, h⟩ | ⟨b1, h⟩
  · refine AW.cond_t rfl b1 ?_
    refine AW.sA ⟨[(2, (vI (2143289344 : Int)))], []⟩ (Tt ∧ Tt) [] [2] [] ⟨tr, tr⟩ ?_
    refine AW.ret ?_
    refine thenQ_ret ?_
    replace h := some_eq h
    subst h
    exact ⟨.inr rfl, retOK_of [(.one (cI (2143289344 : Int)))] (by kernel_rfl) ⟨⟨rfl, tr⟩, tr⟩ (of_decide_eq_true (by kernel_rfl))⟩
  · refine AW.cond_f rfl b1 ?_
    refine AW.skip ?_
    refine thenQ_normal ?_
    refine AW.seq ?_
    obtain ⟨v2, e3, h⟩ := bind_some h
    refine AW.tA ⟨[(2, (vI (IntKind.i64.wrap v2)))], []⟩ (Tt ∧ (((eF a0) ∧ Tt) ∧ CallOK Tryd.prog 34 [.one (.flt .f32 a0.bits)] [.one (.int .u32 v2)]) ∧ T2 Tt) [.no, .call [.one (.flt .f32 a0.bits)] [.one (.int .u32 v2)] [[.view]]] [2] [] ⟨tr, ⟨⟨rfl, tr⟩, ok_math_Float32bits K a0 v2 e3⟩, tr, tr, tr⟩ ?_
    refine AW.ret ?_
    replace h := some_eq h
    subst h
    exact ⟨.inr rfl, retOK_of [(.one (cI (IntKind.i64.wrap v2)))] (by kernel_rfl) ⟨⟨rfl, tr⟩, tr⟩ (of_decide_eq_true (by kernel_rfl))⟩

/-! strconv.FormatInt -/
def strconv_FormatInt (_K : Nat) (a0 : Int) (a1 : Int) : Option (ByteArray) :=
  fmtI a0 a1

theorem ok_strconv_FormatInt (K : Nat) (a0 : Int) (a1 : Int) (o : ByteArray) (h : strconv_FormatInt K a0 a1 = some o) : CallOK Tryd.prog 28 [(.one (.int .i64 a0)), (.one (.int .i64 a1))] [.one (.str o)] :=
  hand_fmtI Tryd.func28 (by kernel_rfl) (by kernel_rfl) (fun _ hg => tabIs_of_gd (g := 1) (by unfold gtabs; exact List.mem_cons_self) (by kernel_rfl) hg) (g := 4) (fun _ hg => cell_of_gd (by unfold gtabs; exact List.mem_cons_of_mem _ List.mem_cons_self) rfl hg) Tryd.strconv_FormatInt_10 Tryd.formatInt16 a0 a1 o h

/-! strings.Repeat -/
def strings_Repeat (_K : Nat) (a0 : ByteArray) (a1 : Int) : Option (ByteArray) :=
  rep1 a0 a1

theorem ok_strings_Repeat (K : Nat) (a0 : ByteArray) (a1 : Int) (o : ByteArray) (h : strings_Repeat K a0 a1 = some o) : CallOK Tryd.prog 30 [(.one (.str a0)), (.one (.int .i64 a1))] [.one (.str o)] :=
  hand_repeat Tryd.func30 (by kernel_rfl) (by kernel_rfl) (fun s c w => Tryd.strings_Repeat s c w) a0 a1 o h

/-! impl.hexOf -/
def impl_hexOf (K : Nat) (a0 : F32) : Option (ByteArray) :=
  (impl_BitsOf K a0).bind fun v1 => (strconv_FormatInt K v1 (16 : Int)).bind fun v3 => (strings_Repeat K (ByteArray.mk #[48]) (IntKind.i64.wrap ((8 : Int) - (v3.size : Int)))).bind fun v5 => chk (((v5.size + v3.size : Nat) : Int) ≤ 9223372036854775807) (some (v5 ++ v3))

theorem ok_impl_hexOf (K : Nat) (a0 : F32) (o : (ByteArray)) (h : impl_hexOf K a0 = some o) : CallOK Tryd.prog 23 [.one (.flt .f32 a0.bits)] [.one (.str o)] := by
  refine callOK_of_AW Tryd.func23 rfl (by kernel_rfl) (Nat.le_of_ble_eq_true (by kernel_rfl)) ?_
  intro w0
  unfold impl_hexOf at h
  refine AW.sC (Tt ∧ Tt) [] [0] [] ⟨tr, tr⟩ ?_
  refine AW.seq ?_
  obtain ⟨v1, e2, h⟩ := bind_some h
  obtain ⟨v3, e4, h⟩ := bind_some h
  refine AW.tC (Tt ∧ (((eF a0) ∧ Tt) ∧ CallOK Tryd.prog 29 [.one (.flt .f32 a0.bits)] [.one (.int .i64 v1)]) ∧ (((eI v1) ∧ (eI (16 : Int)) ∧ Tt) ∧ CallOK Tryd.prog 28 [.one (.int .i64 v1), .one (.int .i64 (16 : Int))] [.one (.str v3)]) ∧ Tt ∧ Tt) [.no, .call [.one (.flt .f32 a0.bits)] [.one (.int .i64 v1)] [[.view]], .call [.one (.int .i64 v1), .one (.int .i64 (16 : Int))] [.one (.str v3)] [[.view]]] [3] [] ⟨tr, ⟨⟨rfl, tr⟩, ok_impl_BitsOf K a0 v1 e2⟩, ⟨⟨rfl, rfl, tr⟩, ok_strconv_FormatInt K v1 (16 : Int) v3 e4⟩, tr, tr⟩ ?_
  refine AW.seq ?_
  obtain ⟨v5, e6, h⟩ := bind_some h
  obtain ⟨c7, h⟩ := chk_some h
  refine AW.tA ⟨[(2, (vc (.str (v5 ++ v3))))], []⟩ (Tt ∧ T2 ((((Eqc (.str (ByteArray.mk #[48]))) ∧ (eI (IntKind.i64.wrap ((8 : Int) - (v3.size : Int)))) ∧ Tt) ∧ CallOK Tryd.prog 30 [.one (.str (ByteArray.mk #[48])), .one (.int .i64 (IntKind.i64.wrap ((8 : Int) - (v3.size : Int))))] [.one (.str v5)]) ∧ Tt ∧ (((v5.size + v3.size : Nat) : Int) ≤ 9223372036854775807) ∧ Tt ∧ Tt)) [.no, .no, .no, .call [.one (.str (ByteArray.mk #[48])), .one (.int .i64 (IntKind.i64.wrap ((8 : Int) - (v3.size : Int))))] [.one (.str v5)] [[.view]]] [2] [] ⟨tr, tr, tr, ⟨⟨rfl, rfl, tr⟩, ok_strings_Repeat K (ByteArray.mk #[48]) (IntKind.i64.wrap ((8 : Int) - (v3.size : Int))) v5 e6⟩, tr, c7, tr, tr⟩ ?_
  refine AW.ret ?_
  replace h := some_eq h
  subst h
  exact ⟨.inr rfl, retOK_of [(.one (.c (.str (v5 ++ v3))))] (by kernel_rfl) ⟨⟨rfl, tr⟩, tr⟩ (of_decide_eq_true (by kernel_rfl))⟩

/-! strings.Join -/
def strings_Join (_K : Nat) (a0 : (List ByteArray)) (a1 : ByteArray) : Option (ByteArray) :=
  join1 a0 a1

theorem ok_strings_Join (K : Nat) (a0 : (List ByteArray)) (a1 : ByteArray) (o : ByteArray) (h : strings_Join K a0 a1 = some o) : CallOK Tryd.prog 31 [(.one (sl 1 csS a0)), (.one (.str a1))] [.one (.str o)] :=
  hand_join Tryd.func31 (by kernel_rfl) (by kernel_rfl) (fun a c sep w => Tryd.strings_Join_none a c sep w) (fun bk o c xs sep w => Tryd.strings_Join bk o c xs sep w) a0 a1 o h

/-! impl.joined -/
def impl_joined (K : Nat) (a0 : (List ByteArray)) : Option (ByteArray) :=
  ite2 (((a0.length : Int) == (0 : Int))) (some (ByteArray.mk #[110, 111, 110, 101])) ((strings_Join K a0 (ByteArray.mk #[44])).bind fun v2 => some v2)

theorem ok_impl_joined (K : Nat) (a0 : (List ByteArray)) (o : (ByteArray)) (h : impl_joined K a0 = some o) : CallOK Tryd.prog 24 [.one (sl 1 csS a0)] [.one (.str o)] := by
  refine callOK_of_AW Tryd.func24 rfl (by kernel_rfl) (Nat.le_of_ble_eq_true (by kernel_rfl)) ?_
  intro w0
  unfold impl_joined at h
  refine AW.sC (Tt ∧ Tt) [] [0] [] ⟨tr, tr⟩ ?_
  refine AW.seq ?_
  refine AW.sA ⟨[(0, (vc (sl 1 csS a0))), (5, (vB ((a0.length : Int) == (0 : Int))))], []⟩ (Tt ∧ T2 Tt) [] [0, 5] [] ⟨tr, tr, tr, tr⟩ ?_
  rcases ite2_cases h with ⟨b1, h⟩ | ⟨b1, h⟩
  · refine AW.cond_t rfl b1 ?_
    refine AW.sA ⟨[(2, (vc (.str (ByteArray.mk #[110, 111, 110, 101]))))], []⟩ (Tt ∧ Tt) [] [2] [] ⟨tr, tr⟩ ?_
    refine AW.ret ?_
    refine thenQ_ret ?_
    replace h := some_eq h
    subst h
    exact ⟨.inr rfl, retOK_of [(.one (.c (.str (ByteArray.mk #[110, 111, 110, 101]))))] (by kernel_rfl) ⟨⟨rfl, tr⟩, tr⟩ (of_decide_eq_true (by kernel_rfl))⟩
  · refine AW.cond_f rfl b1 ?_
    refine AW.skip ?_
    refine thenQ_normal ?_
    refine AW.seq ?_
    obtain ⟨v2, e3, h⟩ := bind_some h
    refine AW.tA ⟨[(2, (vc (.str v2)))], []⟩ (Tt ∧ (((Eqc (sl 1 csS a0)) ∧ (Eqc (.str (ByteArray.mk #[44]))) ∧ Tt) ∧ CallOK Tryd.prog 31 [.one (sl 1 csS a0), .one (.str (ByteArray.mk #[44]))] [.one (.str v2)]) ∧ Tt ∧ Tt) [.no, .call [.one (sl 1 csS a0), .one (.str (ByteArray.mk #[44]))] [.one (.str v2)] [[.view]]] [2] [] ⟨tr, ⟨⟨rfl, rfl, tr⟩, ok_strings_Join K a0 (ByteArray.mk #[44]) v2 e3⟩, tr, tr⟩ ?_
    refine AW.ret ?_
    replace h := some_eq h
    subst h
    exact ⟨.inr rfl, retOK_of [(.one (.c (.str v2)))] (by kernel_rfl) ⟨⟨rfl, tr⟩, tr⟩ (of_decide_eq_true (by kernel_rfl))⟩

/-! impl.numbersText -/
def impl_numbersText_l1 (K : Nat) (a0 : (List F32)) : Nat → Int → (List ByteArray) → Option (ByteArray)
  | 0, _, _ => none
  | k + 1, x4, x5 => ite2 ((decide (x4 < (a0.length : Int)))) (chk (0 ≤ x4 ∧ x4 < (a0.length : Int)) ((impl_hexOf K (a0.getD x4.toNat default)).bind fun v8 => chk (0 ≤ x4 ∧ x4 < (x5.length : Int)) (impl_numbersText_l1 K a0 k (IntKind.i64.wrap (x4 + (1 : Int))) (x5.set x4.toNat v8)))) ((impl_joined K x5).bind fun v11 => some v11)

def impl_numbersText (K : Nat) (a0 : (List F32)) : Option (ByteArray) :=
  chk (0 ≤ (a0.length : Int) ∧ (a0.length : Int).toNat * 16 ≤ 140737488355328) (impl_numbersText_l1 K a0 K (0 : Int) (List.replicate (a0.length : Int).toNat (default : ByteArray)))

theorem ok_impl_numbersText (K : Nat) (a0 : (List F32)) (o : (ByteArray)) (h : impl_numbersText K a0 = some o) : CallOK Tryd.prog 16 [.one (sl 1 (csF .f32) a0)] [.one (.str o)] := by
  refine callOK_of_AW Tryd.func16 rfl (by kernel_rfl) (Nat.le_of_ble_eq_true (by kernel_rfl)) ?_
  intro w0
  unfold impl_numbersText at h
  refine AW.sC (Tt ∧ Tt) [] [0] [] ⟨tr, tr⟩ ?_
  refine AW.seq ?_
  obtain ⟨c1, h⟩ := chk_some h
  refine AW.tC (T2 ((0 ≤ (a0.length : Int) ∧ (a0.length : Int) = (a0.length : Int) ∧ (((List.replicate (a0.length : Int).toNat (default : ByteArray)).length : Nat) : Int) = (a0.length : Int) ∧ (List.replicate (a0.length : Int).toNat (default : ByteArray)).length * 16 ≤ 140737488355328 ∧ ∀ i, i < (List.replicate (a0.length : Int).toNat (default : ByteArray)).length → zeroRow (fun _ => none) [(.c (.str ByteArray.empty))] (gl csS (List.replicate (a0.length : Int).toNat (default : ByteArray)) i)) ∧ Tt ∧ Tt)) [.no, .no, .objA 1 (List.replicate (a0.length : Int).toNat (default : ByteArray)).length (gl csS (List.replicate (a0.length : Int).toNat (default : ByteArray)))] [0, 3] [1] ⟨tr, tr, ⟨c1.1, rfl, len_rep c1.1, rep_bytes c1.2, fun i hi => gl_zero (cs := csS) (zs := [(.c (.str ByteArray.empty))]) (n := (a0.length : Int).toNat) ⟨⟨rfl, tr⟩, tr⟩ i (rep_lt hi)⟩, tr, tr⟩ ?_
  refine AW.seq ?_
  refine AW.sA ⟨[(3, (.v (.one (.arr 1)))), (9, (vc (sl 1 (csF .f32) a0))), (10, (vI (a0.length : Int))), (11, (vI (0 : Int)))], [(1, (.arr false (List.replicate (a0.length : Int).toNat (default : ByteArray)).length 1 (gl csS (List.replicate (a0.length : Int).toNat (default : ByteArray)))))]⟩ (Tt ∧ T2 Tt) [] [3, 9, 10, 11] [1] ⟨tr, tr, tr, tr⟩ ?_
  refine AW.block ?_
  refine AW.loopQ (σ := Nat × Int × (List ByteArray)) (fun p => ⟨[(3, (.v (.one (.arr 1)))), (9, (vc (sl 1 (csF .f32) a0))), (10, (vI (a0.length : Int))), (11, (vI p.2.1))], [(1, (.arr false p.2.2.length 1 (gl csS p.2.2)))]⟩) (fun p => impl_numbersText_l1 K a0 p.1 p.2.1 p.2.2 = some o) (fun p => p.1) (K, (0 : Int), (List.replicate (a0.length : Int).toNat (default : ByteArray))) h ?_
  clear h
  rintro ⟨k, x4, x5⟩ h
  replace h : impl_numbersText_l1 K a0 k x4 x5 = some o := h
  show AW _ _ (⟨[(3, (.v (.one (.arr 1)))), (9, (vc (sl 1 (csF .f32) a0))), (10, (vI (a0.length : Int))), (11, (vI x4))], [(1, (.arr false x5.length 1 (gl csS x5)))]⟩ : St) _
  obtain _ | k := k
  · rw [impl_numbersText_l1] at h; cases h
  rw [impl_numbersText_l1] at h
  refine AW.sA ⟨[(3, (.v (.one (.arr 1)))), (9, (vc (sl 1 (csF .f32) a0))), (10, (vI (a0.length : Int))), (11, (vI x4)), (12, (vB (decide (x4 < (a0.length : Int)))))], [(1, (.arr false x5.length 1 (gl csS x5)))]⟩ (Tt ∧ Tt) [] [3, 9, 10, 11, 12] [1] ⟨tr, tr⟩ ?_
  refine AW.seq ?_
  rcases ite2_cases h with ⟨b6, h⟩ | ⟨b6, h⟩
  · refine AW.cond_t rfl b6 ?_
    refine AW.skip ?_
    refine thenQ_normal ?_
    refine AW.seq ?_
    refine AW.block ?_
    refine AW.seq ?_
    obtain ⟨c7, h⟩ := chk_some h
    refine AW.tC (Tt ∧ (0 ≤ x4 ∧ x4 < (a0.length : Int)) ∧ Tt ∧ T2 Tt) [] [3, 4, 5, 9, 10, 11] [1] ⟨tr, c7, tr, tr, tr, tr⟩ ?_
    obtain ⟨v8, e9, h⟩ := bind_some h
    obtain ⟨c10, h⟩ := chk_some h
    refine AW.rA ⟨[(3, (.v (.one (.arr 1)))), (9, (vc (sl 1 (csF .f32) a0))), (10, (vI (a0.length : Int))), (11, (vI x4))], [(1, (.arr false (x5.set x4.toNat v8).length 1 (gl csS (x5.set x4.toNat v8))))]⟩ (Tt ∧ T2 ((((eF (a0.getD x4.toNat default)) ∧ Tt) ∧ CallOK Tryd.prog 23 [.one (.flt .f32 (a0.getD x4.toNat default).bits)] [.one (.str v8)]) ∧ (0 ≤ x4 ∧ x4 < (x5.length : Int)) ∧ ((x5.set x4.toNat v8).length = x5.length ∧ SetOb x5.length 1 x4.toNat 0 1 (gl csS x5) (gl csS (x5.set x4.toNat v8)) ∧ ((List.range 1).map fun j => (csS v8).getD (0 + j) .nilptr) = ((List.range 1).map fun j => gl csS (x5.set x4.toNat v8) x4.toNat (0 + j)) ∧ ((((.str v8) : C) = (.str v8) ∧ Tt) ∧ Tt) ∧ (false = true → ∀ j, j < 1 → isSeq (gl csS x5 x4.toNat (0 + j)) = false ∧ isSeq (gl csS (x5.set x4.toNat v8) x4.toNat (0 + j)) = false)) ∧ Tt)) [.no, .no, .no, .call [.one (.flt .f32 (a0.getD x4.toNat default).bits)] [.one (.str v8)] [[.view]], .no, .set (x5.set x4.toNat v8).length (gl csS (x5.set x4.toNat v8)) ((List.range 1).map fun j => (csS v8).getD (0 + j) .nilptr)] [3, 9, 10, 11] [1] ⟨tr, tr, tr, ⟨⟨rfl, tr⟩, ok_impl_hexOf K (a0.getD x4.toNat default) v8 e9⟩, c10, ⟨List.length_set, gl_set, (gl_atp (lt_of_bound c10)).symm, ⟨⟨rfl, tr⟩, tr⟩, (fun h => nomatch h)⟩, tr⟩ ?_
    refine blockQ_normal ?_
    refine thenQ_normal ?_
    refine AW.rA ⟨[(3, (.v (.one (.arr 1)))), (9, (vc (sl 1 (csF .f32) a0))), (10, (vI (a0.length : Int))), (11, (vI (IntKind.i64.wrap (x4 + (1 : Int)))))], [(1, (.arr false (x5.set x4.toNat v8).length 1 (gl csS (x5.set x4.toNat v8))))]⟩ (T2 Tt) [] [3, 9, 10, 11] [1] ⟨tr, tr, tr⟩ ?_
    exact loopQ_normal (k, (IntKind.i64.wrap (x4 + (1 : Int))), (x5.set x4.toNat v8)) h (Nat.lt_succ_self k) (Sub.keep [3, 9, 10, 11] [1] (by kernel_rfl) (by kernel_rfl))
  · refine AW.cond_f rfl b6 ?_
    refine AW.exit ?_
    refine thenQ_exit ?_
    refine loopQ_exit ?_
    refine blockQ_exit ?_
    refine thenQ_normal ?_
    refine AW.seq ?_
    obtain ⟨v11, e12, h⟩ := bind_some h
    refine AW.tA ⟨[(2, (vc (.str v11)))], []⟩ (Tt ∧ (((Eqc (sl 1 csS x5)) ∧ Tt) ∧ CallOK Tryd.prog 24 [.one (sl 1 csS x5)] [.one (.str v11)]) ∧ Tt ∧ Tt) [.no, .call [.one (sl 1 csS x5)] [.one (.str v11)] [[.view]]] [2] [] ⟨tr, ⟨⟨rfl, tr⟩, ok_impl_joined K x5 v11 e12⟩, tr, tr⟩ ?_
    refine AW.ret ?_
    replace h := some_eq h
    subst h
    exact ⟨.inr rfl, retOK_of [(.one (.c (.str v11)))] (by kernel_rfl) ⟨⟨rfl, tr⟩, tr⟩ (of_decide_eq_true (by kernel_rfl))⟩

/-! impl.VectorText -/
def impl_VectorText (K : Nat) (a0 : Vector) : Option (ByteArray) :=
  (impl_numbersText K ([a0.X, a0.Y, a0.Z])).bind fun v1 => some v1

theorem ok_impl_VectorText (K : Nat) (a0 : Vector) (o : (ByteArray)) (h : impl_VectorText K a0 = some o) : CallOK Tryd.prog 15 [.agg (cs_Vector a0)] [.one (.str o)] := by
  refine callOK_of_AW Tryd.func15 rfl (by kernel_rfl) (Nat.le_of_ble_eq_true (by kernel_rfl)) ?_
  intro w0
  unfold impl_VectorText at h
  refine AW.sC (T2 Tt) [.box 1] [1] [1] ⟨tr, tr, tr⟩ ?_
  refine AW.seq ?_
  obtain ⟨v1, e2, h⟩ := bind_some h
  refine AW.tA ⟨[(2, (vc (.str v1)))], []⟩ (T2 (T4 ((([a0.X, a0.Y, a0.Z]).length = 3 ∧ (((.flt .f32 a0.X.bits) : C) = (.flt .f32 a0.X.bits) ∧ Tt) ∧ (((.flt .f32 a0.Y.bits) : C) = (.flt .f32 a0.Y.bits) ∧ Tt) ∧ (((.flt .f32 a0.Z.bits) : C) = (.flt .f32 a0.Z.bits) ∧ Tt) ∧ Tt) ∧ (((Eqc (sl 1 (csF .f32) ([a0.X, a0.Y, a0.Z]))) ∧ Tt) ∧ CallOK Tryd.prog 16 [.one (sl 1 (csF .f32) ([a0.X, a0.Y, a0.Z]))] [.one (.str v1)]) ∧ Tt ∧ Tt))) [.no, .no, .no, .no, .no, .no, .obj 2 ([a0.X, a0.Y, a0.Z]).length (gl (csF .f32) ([a0.X, a0.Y, a0.Z])), .call [.one (sl 1 (csF .f32) ([a0.X, a0.Y, a0.Z]))] [.one (.str v1)] [[.view]]] [2] [] ⟨tr, tr, tr, tr, tr, tr, ⟨rfl, ⟨⟨rfl, tr⟩, ⟨rfl, tr⟩, ⟨rfl, tr⟩, tr⟩⟩, ⟨⟨rfl, tr⟩, ok_impl_numbersText K ([a0.X, a0.Y, a0.Z]) v1 e2⟩, tr, tr⟩ ?_
  refine AW.ret ?_
  replace h := some_eq h
  subst h
  exact ⟨.inr rfl, retOK_of [(.one (.c (.str v1)))] (by kernel_rfl) ⟨⟨rfl, tr⟩, tr⟩ (of_decide_eq_true (by kernel_rfl))⟩

/-! impl.PoseText -/
def impl_PoseText_l1 (K : Nat) (a0 : Pose) : Nat → ByteArray → Int → Option (ByteArray × Bool)
  | 0, _, _ => none
  | k + 1, x8, x9 => ite2 ((decide (x9 < (a0.Turns.length : Int)))) (chk (0 ≤ x9 ∧ x9 < (a0.Turns.length : Int)) ((impl_numbersText K ([(a0.Turns.getD x9.toNat default).W, (a0.Turns.getD x9.toNat default).X, (a0.Turns.getD x9.toNat default).Y, (a0.Turns.getD x9.toNat default).Z])).bind fun v12 => chk ((((ByteArray.mk #[59]).size + v12.size : Nat) : Int) ≤ 9223372036854775807) (chk (((x8.size + ((ByteArray.mk #[59]) ++ v12).size : Nat) : Int) ≤ 9223372036854775807) (impl_PoseText_l1 K a0 k (x8 ++ ((ByteArray.mk #[59]) ++ v12)) (IntKind.i64.wrap (x9 + (1 : Int))))))) (some (x8, true))

def impl_PoseText (K : Nat) (a0 : Pose) : Option (ByteArray × Bool) :=
  (impl_isPose K a0).bind fun v1 => ite2 ((!v1)) (some (ByteArray.empty, false)) ((impl_VectorText K a0.Root).bind fun v4 => impl_PoseText_l1 K a0 K v4 (0 : Int))

theorem ok_impl_PoseText (K : Nat) (a0 : Pose) (o : (ByteArray × Bool)) (h : impl_PoseText K a0 = some o) : CallOK Tryd.prog 7 [.agg (cs_Pose a0)] [.one (.str o.1), .one (.bool o.2)] := by
  refine callOK_of_AW Tryd.func7 rfl (by kernel_rfl) (Nat.le_of_ble_eq_true (by kernel_rfl)) ?_
  intro w0
  unfold impl_PoseText at h
  refine AW.sC (Tt ∧ T2 Tt) [.box 1] [1] [1] ⟨tr, tr, tr, tr⟩ ?_
  refine AW.seq ?_
  refine AW.seq ?_
  obtain ⟨v1, e2, h⟩ := bind_some h
  refine AW.tA ⟨[(1, (vp 1 0)), (9, (vB (!v1)))], [(1, (.box [(cF a0.Root.X), (cF a0.Root.Y), (cF a0.Root.Z), (.c (sl 4 cs_Turn a0.Turns))]))]⟩ (Tt ∧ ((((eF a0.Root.X) ∧ (eF a0.Root.Y) ∧ (eF a0.Root.Z) ∧ (Eqc (sl 4 cs_Turn a0.Turns)) ∧ Tt) ∧ Tt) ∧ CallOK Tryd.prog 14 [.agg (cs_Pose a0)] [.one (.bool v1)]) ∧ Tt ∧ Tt) [.no, .call [.agg (cs_Pose a0)] [.one (.bool v1)] [[.view]]] [1, 9] [1] ⟨tr, ⟨⟨⟨rfl, rfl, rfl, rfl, tr⟩, tr⟩, ok_impl_isPose K a0 v1 e2⟩, tr, tr⟩ ?_
  rcases ite2_cases h with ⟨b3, h⟩ | ⟨b3, h⟩
  · refine AW.cond_t rfl b3 ?_
    refine AW.sA ⟨[(2, (vc (.str ByteArray.empty))), (3, (vB false))], []⟩ (T2 Tt) [] [2, 3] [] ⟨tr, tr, tr⟩ ?_
    refine AW.ret ?_
    refine thenQ_ret ?_
    replace h := some_eq h
    subst h
    exact ⟨.inr rfl, retOK_of [(.one (.c (.str ByteArray.empty))), (.one (.c (.bool false)))] (by kernel_rfl) ⟨⟨rfl, tr⟩, ⟨rfl, tr⟩, tr⟩ (of_decide_eq_true (by kernel_rfl))⟩
  · refine AW.cond_f rfl b3 ?_
    refine AW.skip ?_
    refine thenQ_normal ?_
    refine AW.seq ?_
    obtain ⟨v4, e5, h⟩ := bind_some h
    refine AW.tC (T2 (((((eF a0.Root.X) ∧ (eF a0.Root.Y) ∧ (eF a0.Root.Z) ∧ Tt) ∧ Tt) ∧ CallOK Tryd.prog 15 [.agg (cs_Vector a0.Root)] [.one (.str v4)]) ∧ Tt ∧ Tt)) [.no, .no, .call [.agg (cs_Vector a0.Root)] [.one (.str v4)] [[.view]]] [1, 4] [1] ⟨tr, tr, ⟨⟨⟨rfl, rfl, rfl, tr⟩, tr⟩, ok_impl_VectorText K a0.Root v4 e5⟩, tr, tr⟩ ?_
    refine AW.seq ?_
    refine AW.sA ⟨[(4, (vc (.str v4))), (14, (vc (sl 4 cs_Turn a0.Turns))), (15, (vI (a0.Turns.length : Int))), (16, (vI (0 : Int)))], []⟩ (T4 Tt) [] [4, 14, 15, 16] [] ⟨tr, tr, tr, tr, tr⟩ ?_
    refine AW.block ?_
    refine AW.loopQ (σ := Nat × ByteArray × Int) (fun p => ⟨[(4, (vc (.str p.2.1))), (14, (vc (sl 4 cs_Turn a0.Turns))), (15, (vI (a0.Turns.length : Int))), (16, (vI p.2.2))], []⟩) (fun p => impl_PoseText_l1 K a0 p.1 p.2.1 p.2.2 = some o) (fun p => p.1) (K, v4, (0 : Int)) h ?_
    clear h
    rintro ⟨k, x8, x9⟩ h
    replace h : impl_PoseText_l1 K a0 k x8 x9 = some o := h
    show AW _ _ (⟨[(4, (vc (.str x8))), (14, (vc (sl 4 cs_Turn a0.Turns))), (15, (vI (a0.Turns.length : Int))), (16, (vI x9))], []⟩ : St) _
    obtain _ | k := k
    · rw [impl_PoseText_l1] at h; cases h
    rw [impl_PoseText_l1] at h
    refine AW.sA ⟨[(4, (vc (.str x8))), (14, (vc (sl 4 cs_Turn a0.Turns))), (15, (vI (a0.Turns.length : Int))), (16, (vI x9)), (17, (vB (decide (x9 < (a0.Turns.length : Int)))))], []⟩ (Tt ∧ Tt) [] [4, 14, 15, 16, 17] [] ⟨tr, tr⟩ ?_
    refine AW.seq ?_
    rcases ite2_cases h with ⟨b10, h⟩ | ⟨b10, h⟩
    · refine AW.cond_t rfl b10 ?_
      refine AW.skip ?_
      refine thenQ_normal ?_
      refine AW.seq ?_
      refine AW.block ?_
      refine AW.seq ?_
      obtain ⟨c11, h⟩ := chk_some h
      refine AW.tC ((0 ≤ x9 ∧ x9 < (a0.Turns.length : Int)) ∧ Tt ∧ T2 Tt) [.no, .no, .box 6] [4, 6, 14, 15, 16] [6] ⟨c11, tr, tr, tr, tr⟩ ?_
      obtain ⟨v12, e13, h⟩ := bind_some h
      obtain ⟨c14, h⟩ := chk_some h
      obtain ⟨c15, h⟩ := chk_some h
      refine AW.rA ⟨[(4, (vc (.str (x8 ++ ((ByteArray.mk #[59]) ++ v12))))), (14, (vc (sl 4 cs_Turn a0.Turns))), (15, (vI (a0.Turns.length : Int))), (16, (vI x9))], []⟩ (Tt ∧ T4 (T4 ((([(a0.Turns.getD x9.toNat default).W, (a0.Turns.getD x9.toNat default).X, (a0.Turns.getD x9.toNat default).Y, (a0.Turns.getD x9.toNat default).Z]).length = 4 ∧ (((.flt .f32 ((a0.Turns.getD x9.toNat default).W).bits) : C) = (.flt .f32 ((a0.Turns.getD x9.toNat default).W).bits) ∧ Tt) ∧ (((.flt .f32 ((a0.Turns.getD x9.toNat default).X).bits) : C) = (.flt .f32 ((a0.Turns.getD x9.toNat default).X).bits) ∧ Tt) ∧ (((.flt .f32 ((a0.Turns.getD x9.toNat default).Y).bits) : C) = (.flt .f32 ((a0.Turns.getD x9.toNat default).Y).bits) ∧ Tt) ∧ (((.flt .f32 ((a0.Turns.getD x9.toNat default).Z).bits) : C) = (.flt .f32 ((a0.Turns.getD x9.toNat default).Z).bits) ∧ Tt) ∧ Tt) ∧ (((Eqc (sl 1 (csF .f32) ([(a0.Turns.getD x9.toNat default).W, (a0.Turns.getD x9.toNat default).X, (a0.Turns.getD x9.toNat default).Y, (a0.Turns.getD x9.toNat default).Z]))) ∧ Tt) ∧ CallOK Tryd.prog 16 [.one (sl 1 (csF .f32) ([(a0.Turns.getD x9.toNat default).W, (a0.Turns.getD x9.toNat default).X, (a0.Turns.getD x9.toNat default).Y, (a0.Turns.getD x9.toNat default).Z]))] [.one (.str v12)]) ∧ ((((ByteArray.mk #[59]).size + v12.size : Nat) : Int) ≤ 9223372036854775807) ∧ (((x8.size + ((ByteArray.mk #[59]) ++ v12).size : Nat) : Int) ≤ 9223372036854775807) ∧ Tt ∧ Tt))) [.no, .no, .no, .no, .no, .no, .no, .no, .no, .obj 7 ([(a0.Turns.getD x9.toNat default).W, (a0.Turns.getD x9.toNat default).X, (a0.Turns.getD x9.toNat default).Y, (a0.Turns.getD x9.toNat default).Z]).length (gl (csF .f32) ([(a0.Turns.getD x9.toNat default).W, (a0.Turns.getD x9.toNat default).X, (a0.Turns.getD x9.toNat default).Y, (a0.Turns.getD x9.toNat default).Z])), .call [.one (sl 1 (csF .f32) ([(a0.Turns.getD x9.toNat default).W, (a0.Turns.getD x9.toNat default).X, (a0.Turns.getD x9.toNat default).Y, (a0.Turns.getD x9.toNat default).Z]))] [.one (.str v12)] [[.view]]] [4, 14, 15, 16] [] ⟨tr, tr, tr, tr, tr, tr, tr, tr, tr, ⟨rfl, ⟨⟨rfl, tr⟩, ⟨rfl, tr⟩, ⟨rfl, tr⟩, ⟨rfl, tr⟩, tr⟩⟩, ⟨⟨rfl, tr⟩, ok_impl_numbersText K ([(a0.Turns.getD x9.toNat default).W, (a0.Turns.getD x9.toNat default).X, (a0.Turns.getD x9.toNat default).Y, (a0.Turns.getD x9.toNat default).Z]) v12 e13⟩, c14, c15, tr, tr⟩ ?_
      refine blockQ_normal ?_
      refine thenQ_normal ?_
      refine AW.rA ⟨[(4, (vc (.str (x8 ++ ((ByteArray.mk #[59]) ++ v12))))), (14, (vc (sl 4 cs_Turn a0.Turns))), (15, (vI (a0.Turns.length : Int))), (16, (vI (IntKind.i64.wrap (x9 + (1 : Int)))))], []⟩ (T2 Tt) [] [4, 14, 15, 16] [] ⟨tr, tr, tr⟩ ?_
      exact loopQ_normal (k, (x8 ++ ((ByteArray.mk #[59]) ++ v12)), (IntKind.i64.wrap (x9 + (1 : Int)))) h (Nat.lt_succ_self k) (Sub.keep [4, 14, 15, 16] [] (by kernel_rfl) (by kernel_rfl))
    · refine AW.cond_f rfl b10 ?_
      refine AW.exit ?_
      refine thenQ_exit ?_
      refine loopQ_exit ?_
      refine blockQ_exit ?_
      refine thenQ_normal ?_
      refine AW.sA ⟨[(2, (vc (.str x8))), (3, (vB true))], []⟩ (Tt ∧ T2 Tt) [] [2, 3] [] ⟨tr, tr, tr, tr⟩ ?_
      refine AW.ret ?_
      replace h := some_eq h
      subst h
      exact ⟨.inr rfl, retOK_of [(.one (.c (.str x8))), (.one (.c (.bool true)))] (by kernel_rfl) ⟨⟨rfl, tr⟩, ⟨rfl, tr⟩, tr⟩ (of_decide_eq_true (by kernel_rfl))⟩

/-! laws.sameFloat -/
def laws_sameFloat (_K : Nat) (a0 : F64) (a1 : F64) : Option (Bool) :=
  (ite2 ((a0.ne a0)) (some true) (some (a1.ne a1))).bind fun j2 => ite2 (j2) ((ite2 ((a0.ne a0)) (some (a1.ne a1)) (some false)).bind fun j6 => some j6) ((ite2 ((a0.eq (Fl.mk (k := .f64) 0 (by decide)))) (some (a1.eq (Fl.mk (k := .f64) 0 (by decide)))) (some false)).bind fun j9 => ite2 (j9) (some ((((Fl.mk (k := .f64) 4607182418800017408 (by decide)).div a0).gt (Fl.mk (k := .f64) 0 (by decide))) == (((Fl.mk (k := .f64) 4607182418800017408 (by decide)).div a1).gt (Fl.mk (k := .f64) 0 (by decide))))) (some (a0.eq a1)))

theorem ok_laws_sameFloat (K : Nat) (a0 : F64) (a1 : F64) (o : (Bool)) (h : laws_sameFloat K a0 a1 = some o) : CallOK Tryd.prog 25 [.one (.flt .f64 a0.bits), .one (.flt .f64 a1.bits)] [.one (.bool o)] := by
  refine callOK_of_AW Tryd.func25 rfl (by kernel_rfl) (Nat.le_of_ble_eq_true (by kernel_rfl)) ?_
  intro w0
  unfold laws_sameFloat at h
  refine AW.sA ⟨[(0, (vc (.flt .f64 a0.bits))), (1, (vc (.flt .f64 a1.bits)))], []⟩ (Tt ∧ Tt) [] [0, 1] [] ⟨tr, tr⟩ ?_
  refine AW.seq ?_
  refine AW.seq ?_
  obtain ⟨j2, e3, h⟩ := bind_some h
  refine AW.join1 (s2 := ⟨[(0, (vc (.flt .f64 a0.bits))), (1, (vc (.flt .f64 a1.bits))), (12, (vB j2))], []⟩) ?_ ?_
  · rcases ite2_cases e3 with ⟨b1, e3⟩ | ⟨b1, e3⟩
    · replace e3 := some_eq e3
      subst e3
      exact AW.rA ⟨[(0, (vc (.flt .f64 a0.bits))), (1, (vc (.flt .f64 a1.bits))), (12, (vB true))], []⟩ (Tt ∧ T2 ((Tt ∧ (a0.ne a0) = true) ∧ T4 Tt)) [.no, .no, .no, .dec true] [0, 1, 12] [] ⟨tr, tr, tr, ⟨tr, b1⟩, tr, tr, tr, tr, tr⟩ ⟨rfl, rfl⟩
    · replace e3 := some_eq e3
      subst e3
      exact AW.rA ⟨[(0, (vc (.flt .f64 a0.bits))), (1, (vc (.flt .f64 a1.bits))), (12, (vB (a1.ne a1)))], []⟩ (Tt ∧ T2 ((Tt ∧ (a0.ne a0) = false) ∧ T4 Tt)) [.no, .no, .no, .dec false] [0, 1, 12] [] ⟨tr, tr, tr, ⟨tr, b1⟩, tr, tr, tr, tr, tr⟩ ⟨rfl, rfl⟩
  refine thenQ_normal ?_
  rcases ite2_cases h with ⟨b4, h⟩ | ⟨b4, h⟩
  · refine AW.cond_t rfl b4 ?_
    refine AW.seq ?_
    obtain ⟨j6, e7, h⟩ := bind_some h
    refine AW.join1 (s2 := ⟨[(4, (vB j6))], []⟩) ?_ ?_
    · rcases ite2_cases e7 with ⟨b5, e7⟩ | ⟨b5, e7⟩
      · replace e7 := some_eq e7
        subst e7
        exact AW.rA ⟨[(4, (vB (a1.ne a1)))], []⟩ (Tt ∧ T2 ((Tt ∧ (a0.ne a0) = true) ∧ Tt ∧ T4 Tt)) [.no, .no, .no, .dec true] [4] [] ⟨tr, tr, tr, ⟨tr, b5⟩, tr, tr, tr, tr, tr, tr⟩ ⟨rfl, rfl⟩
      · replace e7 := some_eq e7
        subst e7
        exact AW.rA ⟨[(4, (vB false))], []⟩ (Tt ∧ T2 ((Tt ∧ (a0.ne a0) = false) ∧ Tt ∧ T4 Tt)) [.no, .no, .no, .dec false] [4] [] ⟨tr, tr, tr, ⟨tr, b5⟩, tr, tr, tr, tr, tr, tr⟩ ⟨rfl, rfl⟩
    refine thenQ_normal ?_
    refine AW.ret ?_
    refine thenQ_ret ?_
    replace h := some_eq h
    subst h
    exact ⟨.inr rfl, retOK_of [(.one (.c (.bool j6)))] (by kernel_rfl) ⟨⟨rfl, tr⟩, tr⟩ (of_decide_eq_true (by kernel_rfl))⟩
  · refine AW.cond_f rfl b4 ?_
    refine AW.skip ?_
    refine thenQ_normal ?_
    refine AW.seq ?_
    refine AW.seq ?_
    obtain ⟨j9, e10, h⟩ := bind_some h
    refine AW.join1 (s2 := ⟨[(0, (vc (.flt .f64 a0.bits))), (1, (vc (.flt .f64 a1.bits))), (26, (vB j9))], []⟩) ?_ ?_
    · rcases ite2_cases e10 with ⟨b8, e10⟩ | ⟨b8, e10⟩
      · replace e10 := some_eq e10
        subst e10
        exact AW.rA ⟨[(0, (vc (.flt .f64 a0.bits))), (1, (vc (.flt .f64 a1.bits))), (26, (vB (a1.eq (Fl.mk (k := .f64) 0 (by decide)))))], []⟩ (T2 ((Tt ∧ (a0.eq (Fl.mk (k := .f64) 0 (by decide))) = true) ∧ Tt ∧ T2 Tt)) [.no, .no, .dec true] [0, 1, 26] [] ⟨tr, tr, ⟨tr, b8⟩, tr, tr, tr, tr⟩ ⟨rfl, rfl⟩
      · replace e10 := some_eq e10
        subst e10
        exact AW.rA ⟨[(0, (vc (.flt .f64 a0.bits))), (1, (vc (.flt .f64 a1.bits))), (26, (vB false))], []⟩ (T2 ((Tt ∧ (a0.eq (Fl.mk (k := .f64) 0 (by decide))) = false) ∧ Tt ∧ T2 Tt)) [.no, .no, .dec false] [0, 1, 26] [] ⟨tr, tr, ⟨tr, b8⟩, tr, tr, tr, tr⟩ ⟨rfl, rfl⟩
    refine thenQ_normal ?_
    rcases ite2_cases h with ⟨b11, h⟩ | ⟨b11, h⟩
    · refine AW.cond_t rfl b11 ?_
      refine AW.sA ⟨[(4, (vB ((((Fl.mk (k := .f64) 4607182418800017408 (by decide)).div a0).gt (Fl.mk (k := .f64) 0 (by decide))) == (((Fl.mk (k := .f64) 4607182418800017408 (by decide)).div a1).gt (Fl.mk (k := .f64) 0 (by decide))))))], []⟩ (T4 (T4 Tt)) [] [4] [] ⟨tr, tr, tr, tr, tr, tr, tr, tr, tr⟩ ?_
      refine AW.ret ?_
      refine thenQ_ret ?_
      replace h := some_eq h
      subst h
      exact ⟨.inr rfl, retOK_of [(.one (.c (.bool ((((Fl.mk (k := .f64) 4607182418800017408 (by decide)).div a0).gt (Fl.mk (k := .f64) 0 (by decide))) == (((Fl.mk (k := .f64) 4607182418800017408 (by decide)).div a1).gt (Fl.mk (k := .f64) 0 (by decide)))))))] (by kernel_rfl) ⟨⟨rfl, tr⟩, tr⟩ (of_decide_eq_true (by kernel_rfl))⟩
    · refine AW.cond_f rfl b11 ?_
      refine AW.skip ?_
      refine thenQ_normal ?_
      refine AW.sA ⟨[(4, (vB (a0.eq a1)))], []⟩ (T4 Tt) [] [4] [] ⟨tr, tr, tr, tr, tr⟩ ?_
      refine AW.ret ?_
      replace h := some_eq h
      subst h
      exact ⟨.inr rfl, retOK_of [(.one (.c (.bool (a0.eq a1))))] (by kernel_rfl) ⟨⟨rfl, tr⟩, tr⟩ (of_decide_eq_true (by kernel_rfl))⟩

/-! laws.eqVector -/
def laws_eqVector (K : Nat) (a0 : Vector) (a1 : Vector) : Option (Bool) :=
  (laws_sameFloat K (Fl.cv .f32 .f64 a0.X) (Fl.cv .f32 .f64 a1.X)).bind fun v1 => ite2 ((!v1)) (some false) ((laws_sameFloat K (Fl.cv .f32 .f64 a0.Y) (Fl.cv .f32 .f64 a1.Y)).bind fun v4 => ite2 ((!v4)) (some false) ((laws_sameFloat K (Fl.cv .f32 .f64 a0.Z) (Fl.cv .f32 .f64 a1.Z)).bind fun v7 => ite2 ((!v7)) (some false) (some true)))

theorem ok_laws_eqVector (K : Nat) (a0 : Vector) (a1 : Vector) (o : (Bool)) (h : laws_eqVector K a0 a1 = some o) : CallOK Tryd.prog 17 [.agg (cs_Vector a0), .agg (cs_Vector a1)] [.one (.bool o)] := by
  refine callOK_of_AW Tryd.func17 rfl (by kernel_rfl) (Nat.le_of_ble_eq_true (by kernel_rfl)) ?_
  intro w0
  unfold laws_eqVector at h
  refine AW.sC (Tt ∧ T2 Tt) [.box 1, .box 2] [2, 3] [1, 2] ⟨tr, tr, tr, tr⟩ ?_
  refine AW.seq ?_
  refine AW.seq ?_
  obtain ⟨v1, e2, h⟩ := bind_some h
  refine AW.tA ⟨[(2, (vp 1 0)), (3, (vp 2 0)), (12, (vB (!v1)))], [(1, (.box [(cF a0.X), (cF a0.Y), (cF a0.Z)])), (2, (.box [(cF a1.X), (cF a1.Y), (cF a1.Z)]))]⟩ (T2 (((convBits .f32 a0.X.bits .f64).isSome = true) ∧ T2 (((convBits .f32 a1.X.bits .f64).isSome = true) ∧ (((Eqc (.flt .f64 (Fl.cv .f32 .f64 a0.X).bits)) ∧ (Eqc (.flt .f64 (Fl.cv .f32 .f64 a1.X).bits)) ∧ Tt) ∧ CallOK Tryd.prog 25 [.one (.flt .f64 (Fl.cv .f32 .f64 a0.X).bits), .one (.flt .f64 (Fl.cv .f32 .f64 a1.X).bits)] [.one (.bool v1)]) ∧ Tt ∧ Tt))) [.no, .no, .no, .no, .no, .no, .call [.one (.flt .f64 (Fl.cv .f32 .f64 a0.X).bits), .one (.flt .f64 (Fl.cv .f32 .f64 a1.X).bits)] [.one (.bool v1)] [[.view]]] [2, 3, 12] [1, 2] ⟨tr, tr, cv_wide a0.X, tr, tr, cv_wide a1.X, ⟨⟨rfl, rfl, tr⟩, ok_laws_sameFloat K (Fl.cv .f32 .f64 a0.X) (Fl.cv .f32 .f64 a1.X) v1 e2⟩, tr, tr⟩ ?_
  rcases ite2_cases h with ⟨b3, h⟩ | ⟨b3, h⟩
  · refine AW.cond_t rfl b3 ?_
    refine AW.sA ⟨[(4, (vB false))], []⟩ (Tt ∧ Tt) [] [4] [] ⟨tr, tr⟩ ?_
    refine AW.ret ?_
    refine thenQ_ret ?_
    replace h := some_eq h
    subst h
    exact ⟨.inr rfl, retOK_of [(.one (.c (.bool false)))] (by kernel_rfl) ⟨⟨rfl, tr⟩, tr⟩ (of_decide_eq_true (by kernel_rfl))⟩
  · refine AW.cond_f rfl b3 ?_
    refine AW.skip ?_
    refine thenQ_normal ?_
    refine AW.seq ?_
    refine AW.seq ?_
    obtain ⟨v4, e5, h⟩ := bind_some h
    refine AW.tA ⟨[(2, (vp 1 0)), (3, (vp 2 0)), (20, (vB (!v4)))], [(1, (.box [(cF a0.X), (cF a0.Y), (cF a0.Z)])), (2, (.box [(cF a1.X), (cF a1.Y), (cF a1.Z)]))]⟩ (T2 (((convBits .f32 a0.Y.bits .f64).isSome = true) ∧ T2 (((convBits .f32 a1.Y.bits .f64).isSome = true) ∧ (((Eqc (.flt .f64 (Fl.cv .f32 .f64 a0.Y).bits)) ∧ (Eqc (.flt .f64 (Fl.cv .f32 .f64 a1.Y).bits)) ∧ Tt) ∧ CallOK Tryd.prog 25 [.one (.flt .f64 (Fl.cv .f32 .f64 a0.Y).bits), .one (.flt .f64 (Fl.cv .f32 .f64 a1.Y).bits)] [.one (.bool v4)]) ∧ Tt ∧ Tt))) [.no, .no, .no, .no, .no, .no, .call [.one (.flt .f64 (Fl.cv .f32 .f64 a0.Y).bits), .one (.flt .f64 (Fl.cv .f32 .f64 a1.Y).bits)] [.one (.bool v4)] [[.view]]] [2, 3, 20] [1, 2] ⟨tr, tr, cv_wide a0.Y, tr, tr, cv_wide a1.Y, ⟨⟨rfl, rfl, tr⟩, ok_laws_sameFloat K (Fl.cv .f32 .f64 a0.Y) (Fl.cv .f32 .f64 a1.Y) v4 e5⟩, tr, tr⟩ ?_
    rcases ite2_cases h with ⟨b6, h⟩ | ⟨b6, h⟩
    · refine AW.cond_t rfl b6 ?_
      refine AW.sA ⟨[(4, (vB false))], []⟩ (Tt ∧ Tt) [] [4] [] ⟨tr, tr⟩ ?_
      refine AW.ret ?_
      refine thenQ_ret ?_
      replace h := some_eq h
      subst h
      exact ⟨.inr rfl, retOK_of [(.one (.c (.bool false)))] (by kernel_rfl) ⟨⟨rfl, tr⟩, tr⟩ (of_decide_eq_true (by kernel_rfl))⟩
    · refine AW.cond_f rfl b6 ?_
      refine AW.skip ?_
      refine thenQ_normal ?_
      refine AW.seq ?_
      refine AW.seq ?_
      obtain ⟨v7, e8, h⟩ := bind_some h
      refine AW.tA ⟨[(28, (vB (!v7)))], []⟩ (T2 (((convBits .f32 a0.Z.bits .f64).isSome = true) ∧ T2 (((convBits .f32 a1.Z.bits .f64).isSome = true) ∧ (((Eqc (.flt .f64 (Fl.cv .f32 .f64 a0.Z).bits)) ∧ (Eqc (.flt .f64 (Fl.cv .f32 .f64 a1.Z).bits)) ∧ Tt) ∧ CallOK Tryd.prog 25 [.one (.flt .f64 (Fl.cv .f32 .f64 a0.Z).bits), .one (.flt .f64 (Fl.cv .f32 .f64 a1.Z).bits)] [.one (.bool v7)]) ∧ Tt ∧ Tt))) [.no, .no, .no, .no, .no, .no, .call [.one (.flt .f64 (Fl.cv .f32 .f64 a0.Z).bits), .one (.flt .f64 (Fl.cv .f32 .f64 a1.Z).bits)] [.one (.bool v7)] [[.view]]] [28] [] ⟨tr, tr, cv_wide a0.Z, tr, tr, cv_wide a1.Z, ⟨⟨rfl, rfl, tr⟩, ok_laws_sameFloat K (Fl.cv .f32 .f64 a0.Z) (Fl.cv .f32 .f64 a1.Z) v7 e8⟩, tr, tr⟩ ?_
      rcases ite2_cases h with ⟨b9, h⟩ | ⟨b9, h⟩
      · refine AW.cond_t rfl b9 ?_
        refine AW.sA ⟨[(4, (vB false))], []⟩ (Tt ∧ Tt) [] [4] [] ⟨tr, tr⟩ ?_
        refine AW.ret ?_
        refine thenQ_ret ?_
        replace h := some_eq h
        subst h
        exact ⟨.inr rfl, retOK_of [(.one (.c (.bool false)))] (by kernel_rfl) ⟨⟨rfl, tr⟩, tr⟩ (of_decide_eq_true (by kernel_rfl))⟩
      · refine AW.cond_f rfl b9 ?_
        refine AW.skip ?_
        refine thenQ_normal ?_
        refine AW.sA ⟨[(4, (vB true))], []⟩ (Tt ∧ Tt) [] [4] [] ⟨tr, tr⟩ ?_
        refine AW.ret ?_
        replace h := some_eq h
        subst h
        exact ⟨.inr rfl, retOK_of [(.one (.c (.bool true)))] (by kernel_rfl) ⟨⟨rfl, tr⟩, tr⟩ (of_decide_eq_true (by kernel_rfl))⟩

/-! laws.eqTurn -/
def laws_eqTurn (K : Nat) (a0 : Turn) (a1 : Turn) : Option (Bool) :=
  (laws_sameFloat K (Fl.cv .f32 .f64 a0.W) (Fl.cv .f32 .f64 a1.W)).bind fun v1 => ite2 ((!v1)) (some false) ((laws_sameFloat K (Fl.cv .f32 .f64 a0.X) (Fl.cv .f32 .f64 a1.X)).bind fun v4 => ite2 ((!v4)) (some false) ((laws_sameFloat K (Fl.cv .f32 .f64 a0.Y) (Fl.cv .f32 .f64 a1.Y)).bind fun v7 => ite2 ((!v7)) (some false) ((laws_sameFloat K (Fl.cv .f32 .f64 a0.Z) (Fl.cv .f32 .f64 a1.Z)).bind fun v10 => ite2 ((!v10)) (some false) (some true))))

theorem ok_laws_eqTurn (K : Nat) (a0 : Turn) (a1 : Turn) (o : (Bool)) (h : laws_eqTurn K a0 a1 = some o) : CallOK Tryd.prog 26 [.agg (cs_Turn a0), .agg (cs_Turn a1)] [.one (.bool o)] := by
  refine callOK_of_AW Tryd.func26 rfl (by kernel_rfl) (Nat.le_of_ble_eq_true (by kernel_rfl)) ?_
  intro w0
  unfold laws_eqTurn at h
  refine AW.sC (Tt ∧ T2 Tt) [.box 1, .box 2] [2, 3] [1, 2] ⟨tr, tr, tr, tr⟩ ?_
  refine AW.seq ?_
  refine AW.seq ?_
  obtain ⟨v1, e2, h⟩ := bind_some h
  refine AW.tA ⟨[(2, (vp 1 0)), (3, (vp 2 0)), (12, (vB (!v1)))], [(1, (.box [(cF a0.W), (cF a0.X), (cF a0.Y), (cF a0.Z)])), (2, (.box [(cF a1.W), (cF a1.X), (cF a1.Y), (cF a1.Z)]))]⟩ (T2 (((convBits .f32 a0.W.bits .f64).isSome = true) ∧ T2 (((convBits .f32 a1.W.bits .f64).isSome = true) ∧ (((Eqc (.flt .f64 (Fl.cv .f32 .f64 a0.W).bits)) ∧ (Eqc (.flt .f64 (Fl.cv .f32 .f64 a1.W).bits)) ∧ Tt) ∧ CallOK Tryd.prog 25 [.one (.flt .f64 (Fl.cv .f32 .f64 a0.W).bits), .one (.flt .f64 (Fl.cv .f32 .f64 a1.W).bits)] [.one (.bool v1)]) ∧ Tt ∧ Tt))) [.no, .no, .no, .no, .no, .no, .call [.one (.flt .f64 (Fl.cv .f32 .f64 a0.W).bits), .one (.flt .f64 (Fl.cv .f32 .f64 a1.W).bits)] [.one (.bool v1)] [[.view]]] [2, 3, 12] [1, 2] ⟨tr, tr, cv_wide a0.W, tr, tr, cv_wide a1.W, ⟨⟨rfl, rfl, tr⟩, ok_laws_sameFloat K (Fl.cv .f32 .f64 a0.W) (Fl.cv .f32 .f64 a1.W) v1 e2⟩, tr, tr⟩ ?_
  rcases ite2_cases h with ⟨b3, h⟩ | ⟨b3, h⟩
  · refine AW.cond_t rfl b3 ?_
    refine AW.sA ⟨[(4, (vB false))], []⟩ (Tt ∧ Tt) [] [4] [] ⟨tr, tr⟩ ?_
    refine AW.ret ?_
    refine thenQ_ret ?_
    replace h := some_eq h
    subst h
    exact ⟨.inr rfl, retOK_of [(.one (.c (.bool false)))] (by kernel_rfl) ⟨⟨rfl, tr⟩, tr⟩ (of_decide_eq_true (by kernel_rfl))⟩
  · refine AW.cond_f rfl b3 ?_
    refine AW.skip ?_
    refine thenQ_normal ?_
    refine AW.seq ?_
    refine AW.seq ?_
    obtain ⟨v4, e5, h⟩ := bind_some h
    refine AW.tA ⟨[(2, (vp 1 0)), (3, (vp 2 0)), (20, (vB (!v4)))], [(1, (.box [(cF a0.W), (cF a0.X), (cF a0.Y), (cF a0.Z)])), (2, (.box [(cF a1.W), (cF a1.X), (cF a1.Y), (cF a1.Z)]))]⟩ (T2 (((convBits .f32 a0.X.bits .f64).isSome = true) ∧ T2 (((convBits .f32 a1.X.bits .f64).isSome = true) ∧ (((Eqc (.flt .f64 (Fl.cv .f32 .f64 a0.X).bits)) ∧ (Eqc (.flt .f64 (Fl.cv .f32 .f64 a1.X).bits)) ∧ Tt) ∧ CallOK Tryd.prog 25 [.one (.flt .f64 (Fl.cv .f32 .f64 a0.X).bits), .one (.flt .f64 (Fl.cv .f32 .f64 a1.X).bits)] [.one (.bool v4)]) ∧ Tt ∧ Tt))) [.no, .no, .no, .no, .no, .no, .call [.one (.flt .f64 (Fl.cv .f32 .f64 a0.X).bits), .one (.flt .f64 (Fl.cv .f32 .f64 a1.X).bits)] [.one (.bool v4)] [[.view]]] [2, 3, 20] [1, 2] ⟨tr, tr, cv_wide a0.X, tr, tr, cv_wide a1.X, ⟨⟨rfl, rfl, tr⟩, ok_laws_sameFloat K (Fl.cv .f32 .f64 a0.X) (Fl.cv .f32 .f64 a1.X) v4 e5⟩, tr, tr⟩ ?_
    rcases ite2_cases h with ⟨b6, h⟩ | ⟨b6, h⟩
    · refine AW.cond_t rfl b6 ?_
      refine AW.sA ⟨[(4, (vB false))], []⟩ (Tt ∧ Tt) [] [4] [] ⟨tr, tr⟩ ?_
      refine AW.ret ?_
      refine thenQ_ret ?_
      replace h := some_eq h
      subst h
      exact ⟨.inr rfl, retOK_of [(.one (.c (.bool false)))] (by kernel_rfl) ⟨⟨rfl, tr⟩, tr⟩ (of_decide_eq_true (by kernel_rfl))⟩
    · refine AW.cond_f rfl b6 ?_
      refine AW.skip ?_
      refine thenQ_normal ?_
      refine AW.seq ?_
      refine AW.seq ?_
      obtain ⟨v7, e8, h⟩ := bind_some h
      refine AW.tA ⟨[(2, (vp 1 0)), (3, (vp 2 0)), (28, (vB (!v7)))], [(1, (.box [(cF a0.W), (cF a0.X), (cF a0.Y), (cF a0.Z)])), (2, (.box [(cF a1.W), (cF a1.X), (cF a1.Y), (cF a1.Z)]))]⟩ (T2 (((convBits .f32 a0.Y.bits .f64).isSome = true) ∧ T2 (((convBits .f32 a1.Y.bits .f64).isSome = true) ∧ (((Eqc (.flt .f64 (Fl.cv .f32 .f64 a0.Y).bits)) ∧ (Eqc (.flt .f64 (Fl.cv .f32 .f64 a1.Y).bits)) ∧ Tt) ∧ CallOK Tryd.prog 25 [.one (.flt .f64 (Fl.cv .f32 .f64 a0.Y).bits), .one (.flt .f64 (Fl.cv .f32 .f64 a1.Y).bits)] [.one (.bool v7)]) ∧ Tt ∧ Tt))) [.no, .no, .no, .no, .no, .no, .call [.one (.flt .f64 (Fl.cv .f32 .f64 a0.Y).bits), .one (.flt .f64 (Fl.cv .f32 .f64 a1.Y).bits)] [.one (.bool v7)] [[.view]]] [2, 3, 28] [1, 2] ⟨tr, tr, cv_wide a0.Y, tr, tr, cv_wide a1.Y, ⟨⟨rfl, rfl, tr⟩, ok_laws_sameFloat K (Fl.cv .f32 .f64 a0.Y) (Fl.cv .f32 .f64 a1.Y) v7 e8⟩, tr, tr⟩ ?_
      rcases ite2_cases h with ⟨b9, h⟩ | ⟨b9, h⟩
      · refine AW.cond_t rfl b9 ?_
        refine AW.sA ⟨[(4, (vB false))], []⟩ (Tt ∧ Tt) [] [4] [] ⟨tr, tr⟩ ?_
        refine AW.ret ?_
        refine thenQ_ret ?_
        replace h := some_eq h
        subst h
        exact ⟨.inr rfl, retOK_of [(.one (.c (.bool false)))] (by kernel_rfl) ⟨⟨rfl, tr⟩, tr⟩ (of_decide_eq_true (by kernel_rfl))⟩
      · refine AW.cond_f rfl b9 ?_
        refine AW.skip ?_
        refine thenQ_normal ?_
        refine AW.seq ?_
        refine AW.seq ?_
        obtain ⟨v10, e11, h⟩ := bind_some h
        refine AW.tA ⟨[(36, (vB (!v10)))], []⟩ (T2 (((convBits .f32 a0.Z.bits .f64).isSome = true) ∧ T2 (((convBits .f32 a1.Z.bits .f64).isSome = true) ∧ (((Eqc (.flt .f64 (Fl.cv .f32 .f64 a0.Z).bits)) ∧ (Eqc (.flt .f64 (Fl.cv .f32 .f64 a1.Z).bits)) ∧ Tt) ∧ CallOK Tryd.prog 25 [.one (.flt .f64 (Fl.cv .f32 .f64 a0.Z).bits), .one (.flt .f64 (Fl.cv .f32 .f64 a1.Z).bits)] [.one (.bool v10)]) ∧ Tt ∧ Tt))) [.no, .no, .no, .no, .no, .no, .call [.one (.flt .f64 (Fl.cv .f32 .f64 a0.Z).bits), .one (.flt .f64 (Fl.cv .f32 .f64 a1.Z).bits)] [.one (.bool v10)] [[.view]]] [36] [] ⟨tr, tr, cv_wide a0.Z, tr, tr, cv_wide a1.Z, ⟨⟨rfl, rfl, tr⟩, ok_laws_sameFloat K (Fl.cv .f32 .f64 a0.Z) (Fl.cv .f32 .f64 a1.Z) v10 e11⟩, tr, tr⟩ ?_
        rcases ite2_cases h with ⟨b12, h⟩ | ⟨b12, h⟩
        · refine AW.cond_t rfl b12 ?_
          refine AW.sA ⟨[(4, (vB false))], []⟩ (Tt ∧ Tt) [] [4] [] ⟨tr, tr⟩ ?_
          refine AW.ret ?_
          refine thenQ_ret ?_
          replace h := some_eq h
          subst h
          exact ⟨.inr rfl, retOK_of [(.one (.c (.bool false)))] (by kernel_rfl) ⟨⟨rfl, tr⟩, tr⟩ (of_decide_eq_true (by kernel_rfl))⟩
        · refine AW.cond_f rfl b12 ?_
          refine AW.skip ?_
          refine thenQ_normal ?_
          refine AW.sA ⟨[(4, (vB true))], []⟩ (Tt ∧ Tt) [] [4] [] ⟨tr, tr⟩ ?_
          refine AW.ret ?_
          replace h := some_eq h
          subst h
          exact ⟨.inr rfl, retOK_of [(.one (.c (.bool true)))] (by kernel_rfl) ⟨⟨rfl, tr⟩, tr⟩ (of_decide_eq_true (by kernel_rfl))⟩

/-! laws.eqTurnS -/
def laws_eqTurnS_l1 (K : Nat) (a0 : (List Turn)) (a1 : (List Turn)) : Nat → Int → Option (Bool)
  | 0, _ => none
  | k + 1, x3 => ite2 ((decide (x3 < (a0.length : Int)))) (chk (0 ≤ x3 ∧ x3 < (a0.length : Int)) (chk (0 ≤ x3 ∧ x3 < (a1.length : Int)) ((laws_eqTurn K (a0.getD x3.toNat default) (a1.getD x3.toNat default)).bind fun v7 => ite2 ((!v7)) (some false) (laws_eqTurnS_l1 K a0 a1 k (IntKind.i64.wrap (x3 + (1 : Int))))))) (some true)

def laws_eqTurnS (K : Nat) (a0 : (List Turn)) (a1 : (List Turn)) : Option (Bool) :=
  ite2 (((a0.length : Int) != (a1.length : Int))) (some false) (laws_eqTurnS_l1 K a0 a1 K (0 : Int))

theorem ok_laws_eqTurnS (K : Nat) (a0 : (List Turn)) (a1 : (List Turn)) (o : (Bool)) (h : laws_eqTurnS K a0 a1 = some o) : CallOK Tryd.prog 18 [.one (sl 4 cs_Turn a0), .one (sl 4 cs_Turn a1)] [.one (.bool o)] := by
  refine callOK_of_AW Tryd.func18 rfl (by kernel_rfl) (Nat.le_of_ble_eq_true (by kernel_rfl)) ?_
  intro w0
  unfold laws_eqTurnS at h
  refine AW.sC (Tt ∧ Tt) [] [0, 1] [] ⟨tr, tr⟩ ?_
  refine AW.seq ?_
  refine AW.sA ⟨[(0, (vc (sl 4 cs_Turn a0))), (1, (vc (sl 4 cs_Turn a1))), (10, (vB ((a0.length : Int) != (a1.length : Int))))], []⟩ (Tt ∧ T4 Tt) [] [0, 1, 10] [] ⟨tr, tr, tr, tr, tr, tr⟩ ?_
  rcases ite2_cases h with ⟨b1, h⟩ | ⟨b1, h⟩
  · refine AW.cond_t rfl b1 ?_
    refine AW.sA ⟨[(4, (vB false))], []⟩ (Tt ∧ Tt) [] [4] [] ⟨tr, tr⟩ ?_
    refine AW.ret ?_
    refine thenQ_ret ?_
    replace h := some_eq h
    subst h
    exact ⟨.inr rfl, retOK_of [(.one (.c (.bool false)))] (by kernel_rfl) ⟨⟨rfl, tr⟩, tr⟩ (of_decide_eq_true (by kernel_rfl))⟩
  · refine AW.cond_f rfl b1 ?_
    refine AW.skip ?_
    refine thenQ_normal ?_
    refine AW.seq ?_
    refine AW.sA ⟨[(0, (vc (sl 4 cs_Turn a0))), (1, (vc (sl 4 cs_Turn a1))), (5, (vI (0 : Int)))], []⟩ (Tt ∧ Tt) [] [0, 1, 5] [] ⟨tr, tr⟩ ?_
    refine AW.block ?_
    refine AW.loopQ (σ := Nat × Int) (fun p => ⟨[(0, (vc (sl 4 cs_Turn a0))), (1, (vc (sl 4 cs_Turn a1))), (5, (vI p.2))], []⟩) (fun p => laws_eqTurnS_l1 K a0 a1 p.1 p.2 = some o) (fun p => p.1) (K, (0 : Int)) h ?_
    clear h
    rintro ⟨k, x3⟩ h
    replace h : laws_eqTurnS_l1 K a0 a1 k x3 = some o := h
    show AW _ _ (⟨[(0, (vc (sl 4 cs_Turn a0))), (1, (vc (sl 4 cs_Turn a1))), (5, (vI x3))], []⟩ : St) _
    obtain _ | k := k
    · rw [laws_eqTurnS_l1] at h; cases h
    rw [laws_eqTurnS_l1] at h
    refine AW.seq ?_
    refine AW.sA ⟨[(0, (vc (sl 4 cs_Turn a0))), (1, (vc (sl 4 cs_Turn a1))), (5, (vI x3)), (14, (vB (decide (x3 < (a0.length : Int)))))], []⟩ (T4 Tt) [] [0, 1, 5, 14] [] ⟨tr, tr, tr, tr, tr⟩ ?_
    rcases ite2_cases h with ⟨b4, h⟩ | ⟨b4, h⟩
    · refine AW.cond_t rfl b4 ?_
      refine AW.skip ?_
      refine thenQ_normal ?_
      refine AW.seq ?_
      refine AW.block ?_
      refine AW.seq ?_
      obtain ⟨c5, h⟩ := chk_some h
      obtain ⟨c6, h⟩ := chk_some h
      obtain ⟨v7, e8, h⟩ := bind_some h
      refine AW.dA ⟨[(0, (vc (sl 4 cs_Turn a0))), (1, (vc (sl 4 cs_Turn a1))), (5, (vI x3)), (26, (vB (!v7)))], []⟩ ((T2 ((0 ≤ x3 ∧ x3 < (a0.length : Int)) ∧ Tt ∧ T2 ((0 ≤ x3 ∧ x3 < (a1.length : Int)) ∧ Tt ∧ ((((eF ((a0.getD x3.toNat default).W)) ∧ (eF ((a0.getD x3.toNat default).X)) ∧ (eF ((a0.getD x3.toNat default).Y)) ∧ (eF ((a0.getD x3.toNat default).Z)) ∧ Tt) ∧ ((eF ((a1.getD x3.toNat default).W)) ∧ (eF ((a1.getD x3.toNat default).X)) ∧ (eF ((a1.getD x3.toNat default).Y)) ∧ (eF ((a1.getD x3.toNat default).Z)) ∧ Tt) ∧ Tt) ∧ CallOK Tryd.prog 26 [.agg (cs_Turn (a0.getD x3.toNat default)), .agg (cs_Turn (a1.getD x3.toNat default))] [.one (.bool v7)]) ∧ Tt ∧ Tt))) ∧ (Tt)) 10 [.no, .no, .no, .no, .no, .no, .no, .no, .call [.agg (cs_Turn (a0.getD x3.toNat default)), .agg (cs_Turn (a1.getD x3.toNat default))] [.one (.bool v7)] [[.view]]] [0, 1, 5, 26] [] ⟨⟨tr, tr, c5, tr, tr, tr, c6, tr, ⟨⟨⟨rfl, rfl, rfl, rfl, tr⟩, ⟨rfl, rfl, rfl, rfl, tr⟩, tr⟩, ok_laws_eqTurn K (a0.getD x3.toNat default) (a1.getD x3.toNat default) v7 e8⟩, tr, tr⟩, tr⟩ ?_
      refine thenQ_normal ?_
      rcases ite2_cases h with ⟨b9, h⟩ | ⟨b9, h⟩
      · refine AW.cond_t rfl b9 ?_
        refine AW.sA ⟨[(4, (vB false))], []⟩ (Tt ∧ Tt) [] [4] [] ⟨tr, tr⟩ ?_
        refine AW.ret ?_
        refine blockQ_ret ?_
        refine thenQ_ret ?_
        refine loopQ_ret ?_
        refine blockQ_ret ?_
        refine thenQ_ret ?_
        replace h := some_eq h
        subst h
        exact ⟨.inr rfl, retOK_of [(.one (.c (.bool false)))] (by kernel_rfl) ⟨⟨rfl, tr⟩, tr⟩ (of_decide_eq_true (by kernel_rfl))⟩
      · refine AW.cond_f rfl b9 ?_
        refine AW.skip ?_
        refine blockQ_normal ?_
        refine thenQ_normal ?_
        refine AW.rA ⟨[(0, (vc (sl 4 cs_Turn a0))), (1, (vc (sl 4 cs_Turn a1))), (5, (vI (IntKind.i64.wrap (x3 + (1 : Int)))))], []⟩ (Tt ∧ T2 Tt) [] [0, 1, 5] [] ⟨tr, tr, tr, tr⟩ ?_
        exact loopQ_normal (k, (IntKind.i64.wrap (x3 + (1 : Int)))) h (Nat.lt_succ_self k) (Sub.keep [0, 1, 5] [] (by kernel_rfl) (by kernel_rfl))
    · refine AW.cond_f rfl b4 ?_
      refine AW.exit ?_
      refine thenQ_exit ?_
      refine loopQ_exit ?_
      refine blockQ_exit ?_
      refine thenQ_normal ?_
      refine AW.sA ⟨[(4, (vB true))], []⟩ (Tt ∧ Tt) [] [4] [] ⟨tr, tr⟩ ?_
      refine AW.ret ?_
      replace h := some_eq h
      subst h
      exact ⟨.inr rfl, retOK_of [(.one (.c (.bool true)))] (by kernel_rfl) ⟨⟨rfl, tr⟩, tr⟩ (of_decide_eq_true (by kernel_rfl))⟩

/-! laws.eqPose -/
def laws_eqPose (K : Nat) (a0 : Pose) (a1 : Pose) : Option (Bool) :=
  (laws_eqVector K a0.Root a1.Root).bind fun v1 => ite2 ((!v1)) (some false) ((laws_eqTurnS K a0.Turns a1.Turns).bind fun v4 => ite2 ((!v4)) (some false) (some true))

theorem ok_laws_eqPose (K : Nat) (a0 : Pose) (a1 : Pose) (o : (Bool)) (h : laws_eqPose K a0 a1 = some o) : CallOK Tryd.prog 8 [.agg (cs_Pose a0), .agg (cs_Pose a1)] [.one (.bool o)] := by
  refine callOK_of_AW Tryd.func8 rfl (by kernel_rfl) (Nat.le_of_ble_eq_true (by kernel_rfl)) ?_
  intro w0
  unfold laws_eqPose at h
  refine AW.sC (Tt ∧ T2 Tt) [.box 1, .box 2] [2, 3] [1, 2] ⟨tr, tr, tr, tr⟩ ?_
  refine AW.seq ?_
  refine AW.seq ?_
  obtain ⟨v1, e2, h⟩ := bind_some h
  refine AW.tA ⟨[(2, (vp 1 0)), (3, (vp 2 0)), (10, (vB (!v1)))], [(1, (.box [(cF a0.Root.X), (cF a0.Root.Y), (cF a0.Root.Z), (.c (sl 4 cs_Turn a0.Turns))])), (2, (.box [(cF a1.Root.X), (cF a1.Root.Y), (cF a1.Root.Z), (.c (sl 4 cs_Turn a1.Turns))]))]⟩ (T4 (((((eF a0.Root.X) ∧ (eF a0.Root.Y) ∧ (eF a0.Root.Z) ∧ Tt) ∧ ((eF a1.Root.X) ∧ (eF a1.Root.Y) ∧ (eF a1.Root.Z) ∧ Tt) ∧ Tt) ∧ CallOK Tryd.prog 17 [.agg (cs_Vector a0.Root), .agg (cs_Vector a1.Root)] [.one (.bool v1)]) ∧ Tt ∧ Tt)) [.no, .no, .no, .no, .call [.agg (cs_Vector a0.Root), .agg (cs_Vector a1.Root)] [.one (.bool v1)] [[.view]]] [2, 3, 10] [1, 2] ⟨tr, tr, tr, tr, ⟨⟨⟨rfl, rfl, rfl, tr⟩, ⟨rfl, rfl, rfl, tr⟩, tr⟩, ok_laws_eqVector K a0.Root a1.Root v1 e2⟩, tr, tr⟩ ?_
  rcases ite2_cases h with ⟨b3, h⟩ | ⟨b3, h⟩
  · refine AW.cond_t rfl b3 ?_
    refine AW.sA ⟨[(4, (vB false))], []⟩ (Tt ∧ Tt) [] [4] [] ⟨tr, tr⟩ ?_
    refine AW.ret ?_
    refine thenQ_ret ?_
    replace h := some_eq h
    subst h
    exact ⟨.inr rfl, retOK_of [(.one (.c (.bool false)))] (by kernel_rfl) ⟨⟨rfl, tr⟩, tr⟩ (of_decide_eq_true (by kernel_rfl))⟩
  · refine AW.cond_f rfl b3 ?_
    refine AW.skip ?_
    refine thenQ_normal ?_
    refine AW.seq ?_
    refine AW.seq ?_
    obtain ⟨v4, e5, h⟩ := bind_some h
    refine AW.tA ⟨[(16, (vB (!v4)))], []⟩ (T4 ((((Eqc (sl 4 cs_Turn a0.Turns)) ∧ (Eqc (sl 4 cs_Turn a1.Turns)) ∧ Tt) ∧ CallOK Tryd.prog 18 [.one (sl 4 cs_Turn a0.Turns), .one (sl 4 cs_Turn a1.Turns)] [.one (.bool v4)]) ∧ Tt ∧ Tt)) [.no, .no, .no, .no, .call [.one (sl 4 cs_Turn a0.Turns), .one (sl 4 cs_Turn a1.Turns)] [.one (.bool v4)] [[.view]]] [16] [] ⟨tr, tr, tr, tr, ⟨⟨rfl, rfl, tr⟩, ok_laws_eqTurnS K a0.Turns a1.Turns v4 e5⟩, tr, tr⟩ ?_
    rcases ite2_cases h with ⟨b6, h⟩ | ⟨b6, h⟩
    · refine AW.cond_t rfl b6 ?_
      refine AW.sA ⟨[(4, (vB false))], []⟩ (Tt ∧ Tt) [] [4] [] ⟨tr, tr⟩ ?_
      refine AW.ret ?_
      refine thenQ_ret ?_
      replace h := some_eq h
      subst h
      exact ⟨.inr rfl, retOK_of [(.one (.c (.bool false)))] (by kernel_rfl) ⟨⟨rfl, tr⟩, tr⟩ (of_decide_eq_true (by kernel_rfl))⟩
    · refine AW.cond_f rfl b6 ?_
      refine AW.skip ?_
      refine thenQ_normal ?_
      refine AW.sA ⟨[(4, (vB true))], []⟩ (Tt ∧ Tt) [] [4] [] ⟨tr, tr⟩ ?_
      refine AW.ret ?_
      replace h := some_eq h
      subst h
      exact ⟨.inr rfl, retOK_of [(.one (.c (.bool true)))] (by kernel_rfl) ⟨⟨rfl, tr⟩, tr⟩ (of_decide_eq_true (by kernel_rfl))⟩

/-! laws.FnExactPoseText -/
def laws_FnExactPoseText (K : Nat) (a0 : Pose) : Option (Bool) :=
  (laws_szPose K a0 (1048576 : Int)).bind fun v1 => ite2 ((decide (v1 < (0 : Int)))) (some true) ((laws_toPose K a0).bind fun v4 => (spec_PoseText K v4).bind fun v6 => (laws_toPose K a0).bind fun v8 => (impl_PoseText K v8).bind fun v10 => (ite2 ((!(v10.1.toList == v6.1.toList))) (some true) (some (!(v10.2 == v6.2)))).bind fun j13 => ite2 (j13) (some false) ((laws_toPose K a0).bind fun v16 => (laws_eqPose K v8 v16).bind fun v18 => ite2 ((!v18)) (some false) (some true)))

theorem ok_laws_FnExactPoseText (K : Nat) (a0 : Pose) (o : (Bool)) (h : laws_FnExactPoseText K a0 = some o) : CallOK Tryd.prog 3 [.agg (cs_Pose a0)] [.one (.bool o)] := by
  refine callOK_of_AW Tryd.func3 rfl (by kernel_rfl) (Nat.le_of_ble_eq_true (by kernel_rfl)) ?_
  intro w0
  unfold laws_FnExactPoseText at h
  refine AW.sC (T2 Tt) [.box 1] [1] [1] ⟨tr, tr, tr⟩ ?_
  refine AW.sC (Tt ∧ Tt) [] [1, 3] [1] ⟨tr, tr⟩ ?_
  refine AW.seq ?_
  obtain ⟨v1, e2, h⟩ := bind_some h
  refine AW.tC (T2 (((((eF a0.Root.X) ∧ (eF a0.Root.Y) ∧ (eF a0.Root.Z) ∧ (Eqc (sl 4 cs_Turn a0.Turns)) ∧ Tt) ∧ (eI (1048576 : Int)) ∧ Tt) ∧ CallOK Tryd.prog 4 [.agg (cs_Pose a0), .one (.int .i64 (1048576 : Int))] [.one (.int .i64 v1)]) ∧ Tt ∧ Tt)) [.no, .no, .call [.agg (cs_Pose a0), .one (.int .i64 (1048576 : Int))] [.one (.int .i64 v1)] [[.view]]] [1, 3] [1] ⟨tr, tr, ⟨⟨⟨rfl, rfl, rfl, rfl, tr⟩, rfl, tr⟩, ok_laws_szPose K a0 (1048576 : Int) v1 e2⟩, tr, tr⟩ ?_
  refine AW.seq ?_
  refine AW.sA ⟨[(1, (vp 1 0)), (13, (vB (decide (v1 < (0 : Int)))))], [(1, (.box [(cF a0.Root.X), (cF a0.Root.Y), (cF a0.Root.Z), (.c (sl 4 cs_Turn a0.Turns))]))]⟩ (T2 Tt) [] [1, 13] [1] ⟨tr, tr, tr⟩ ?_
  rcases ite2_cases h with ⟨b3, h⟩ | ⟨b3, h⟩
  · refine AW.cond_t rfl b3 ?_
    refine AW.sA ⟨[(2, (vB true))], []⟩ (Tt ∧ Tt) [] [2] [] ⟨tr, tr⟩ ?_
    refine AW.ret ?_
    refine thenQ_ret ?_
    replace h := some_eq h
    subst h
    exact ⟨.inr rfl, retOK_of [(.one (.c (.bool true)))] (by kernel_rfl) ⟨⟨rfl, tr⟩, tr⟩ (of_decide_eq_true (by kernel_rfl))⟩
  · refine AW.cond_f rfl b3 ?_
    refine AW.skip ?_
    refine thenQ_normal ?_
    refine AW.seq ?_
    obtain ⟨v4, e5, h⟩ := bind_some h
    obtain ⟨v6, e7, h⟩ := bind_some h
    refine AW.tC (Tt ∧ ((((eF a0.Root.X) ∧ (eF a0.Root.Y) ∧ (eF a0.Root.Z) ∧ (Eqc (sl 4 cs_Turn a0.Turns)) ∧ Tt) ∧ Tt) ∧ CallOK Tryd.prog 6 [.agg (cs_Pose a0)] [.agg (cs_Pose v4)]) ∧ ((((eF v4.Root.X) ∧ (eF v4.Root.Y) ∧ (eF v4.Root.Z) ∧ (Eqc (sl 4 cs_Turn v4.Turns)) ∧ Tt) ∧ Tt) ∧ CallOK Tryd.prog 5 [.agg (cs_Pose v4)] [.one (.str v6.1), .one (.bool v6.2)]) ∧ Tt ∧ T4 Tt) [.no, .call [.agg (cs_Pose a0)] [.agg (cs_Pose v4)] [[.view, .view, .view, .lst 2]], .call [.agg (cs_Pose v4)] [.one (.str v6.1), .one (.bool v6.2)] [[.view], [.view]]] [1, 4, 5] [1] ⟨tr, ⟨⟨⟨rfl, rfl, rfl, rfl, tr⟩, tr⟩, ok_laws_toPose K a0 v4 e5⟩, ⟨⟨⟨rfl, rfl, rfl, rfl, tr⟩, tr⟩, ok_spec_PoseText K v4 v6 e7⟩, tr, tr, tr, tr, tr, tr⟩ ?_
    refine AW.seq ?_
    obtain ⟨v8, e9, h⟩ := bind_some h
    refine AW.tC (Tt ∧ ((((eF a0.Root.X) ∧ (eF a0.Root.Y) ∧ (eF a0.Root.Z) ∧ (Eqc (sl 4 cs_Turn a0.Turns)) ∧ Tt) ∧ Tt) ∧ CallOK Tryd.prog 6 [.agg (cs_Pose a0)] [.agg (cs_Pose v8)]) ∧ T2 Tt) [.no, .call [.agg (cs_Pose a0)] [.agg (cs_Pose v8)] [[.view, .view, .view, .lst 3]], .box 4] [1, 4, 5, 6] [1, 3, 4] ⟨tr, ⟨⟨⟨rfl, rfl, rfl, rfl, tr⟩, tr⟩, ok_laws_toPose K a0 v8 e9⟩, tr, tr, tr⟩ ?_
    refine AW.seq ?_
    obtain ⟨v10, e11, h⟩ := bind_some h
    refine AW.tA ⟨[(1, (vp 1 0)), (4, (vc (.str v6.1))), (5, (vB v6.2)), (6, (vp 4 0)), (7, (vc (.str v10.1))), (8, (vB v10.2))], [(1, (.box [(cF a0.Root.X), (cF a0.Root.Y), (cF a0.Root.Z), (.c (sl 4 cs_Turn a0.Turns))])), (3, (oL 4 cs_Turn v8.Turns)), (4, (.box [(cF v8.Root.X), (cF v8.Root.Y), (cF v8.Root.Z), (xL 3 4 cs_Turn v8.Turns)]))]⟩ (Tt ∧ ((((eF v8.Root.X) ∧ (eF v8.Root.Y) ∧ (eF v8.Root.Z) ∧ (Eqc (sl 4 cs_Turn v8.Turns)) ∧ Tt) ∧ Tt) ∧ CallOK Tryd.prog 7 [.agg (cs_Pose v8)] [.one (.str v10.1), .one (.bool v10.2)]) ∧ Tt ∧ T4 Tt) [.no, .call [.agg (cs_Pose v8)] [.one (.str v10.1), .one (.bool v10.2)] [[.view], [.view]]] [1, 4, 5, 6, 7, 8] [1, 3, 4] ⟨tr, ⟨⟨⟨rfl, rfl, rfl, rfl, tr⟩, tr⟩, ok_impl_PoseText K v8 v10 e11⟩, tr, tr, tr, tr, tr, tr⟩ ?_
    refine AW.seq ?_
    refine AW.seq ?_
    obtain ⟨j13, e14, h⟩ := bind_some h
    refine AW.join1 (s2 := ⟨[(1, (vp 1 0)), (6, (vp 4 0)), (34, (vB j13))], [(1, (.box [(cF a0.Root.X), (cF a0.Root.Y), (cF a0.Root.Z), (.c (sl 4 cs_Turn a0.Turns))])), (3, (oL 4 cs_Turn v8.Turns)), (4, (.box [(cF v8.Root.X), (cF v8.Root.Y), (cF v8.Root.Z), (xL 3 4 cs_Turn v8.Turns)]))]⟩) ?_ ?_
    · rcases ite2_cases e14 with ⟨b12, e14⟩ | ⟨b12, e14⟩
      · replace e14 := some_eq e14
        subst e14
        exact AW.rA ⟨[(1, (vp 1 0)), (6, (vp 4 0)), (34, (vB true))], [(1, (.box [(cF a0.Root.X), (cF a0.Root.Y), (cF a0.Root.Z), (.c (sl 4 cs_Turn a0.Turns))])), (3, (oL 4 cs_Turn v8.Turns)), (4, (.box [(cF v8.Root.X), (cF v8.Root.Y), (cF v8.Root.Z), (xL 3 4 cs_Turn v8.Turns)]))]⟩ (Tt ∧ T2 ((Tt ∧ (!(v10.1.toList == v6.1.toList)) = true) ∧ T4 Tt)) [.no, .no, .no, .dec true] [1, 6, 34] [1, 3, 4] ⟨tr, tr, tr, ⟨tr, b12⟩, tr, tr, tr, tr, tr⟩ ⟨rfl, rfl⟩
      · replace e14 := some_eq e14
        subst e14
        exact AW.rA ⟨[(1, (vp 1 0)), (6, (vp 4 0)), (34, (vB (!(v10.2 == v6.2))))], [(1, (.box [(cF a0.Root.X), (cF a0.Root.Y), (cF a0.Root.Z), (.c (sl 4 cs_Turn a0.Turns))])), (3, (oL 4 cs_Turn v8.Turns)), (4, (.box [(cF v8.Root.X), (cF v8.Root.Y), (cF v8.Root.Z), (xL 3 4 cs_Turn v8.Turns)]))]⟩ (Tt ∧ T2 ((Tt ∧ (!(v10.1.toList == v6.1.toList)) = false) ∧ T4 Tt)) [.no, .no, .no, .dec false] [1, 6, 34] [1, 3, 4] ⟨tr, tr, tr, ⟨tr, b12⟩, tr, tr, tr, tr, tr⟩ ⟨rfl, rfl⟩
    refine thenQ_normal ?_
    rcases ite2_cases h with ⟨b15, h⟩ | ⟨b15, h⟩
    · refine AW.cond_t rfl b15 ?_
      refine AW.sA ⟨[(2, (vB false))], []⟩ (Tt ∧ Tt) [] [2] [] ⟨tr, tr⟩ ?_
      refine AW.ret ?_
      refine thenQ_ret ?_
      replace h := some_eq h
      subst h
      exact ⟨.inr rfl, retOK_of [(.one (.c (.bool false)))] (by kernel_rfl) ⟨⟨rfl, tr⟩, tr⟩ (of_decide_eq_true (by kernel_rfl))⟩
    · refine AW.cond_f rfl b15 ?_
      refine AW.skip ?_
      refine thenQ_normal ?_
      refine AW.seq ?_
      refine AW.seq ?_
      obtain ⟨v16, e17, h⟩ := bind_some h
      obtain ⟨v18, e19, h⟩ := bind_some h
      refine AW.dA ⟨[(39, (vB (!v18)))], []⟩ ((T2 (((((eF a0.Root.X) ∧ (eF a0.Root.Y) ∧ (eF a0.Root.Z) ∧ (Eqc (sl 4 cs_Turn a0.Turns)) ∧ Tt) ∧ Tt) ∧ CallOK Tryd.prog 6 [.agg (cs_Pose a0)] [.agg (cs_Pose v16)]) ∧ ((((eF v8.Root.X) ∧ (eF v8.Root.Y) ∧ (eF v8.Root.Z) ∧ (Eqc (sl 4 cs_Turn v8.Turns)) ∧ Tt) ∧ ((eF v16.Root.X) ∧ (eF v16.Root.Y) ∧ (eF v16.Root.Z) ∧ (Eqc (sl 4 cs_Turn v16.Turns)) ∧ Tt) ∧ Tt) ∧ CallOK Tryd.prog 8 [.agg (cs_Pose v8), .agg (cs_Pose v16)] [.one (.bool v18)]) ∧ Tt ∧ Tt)) ∧ (Tt)) 5 [.no, .no, .call [.agg (cs_Pose a0)] [.agg (cs_Pose v16)] [[.view, .view, .view, .lst 5]], .call [.agg (cs_Pose v8), .agg (cs_Pose v16)] [.one (.bool v18)] [[.view]]] [39] [] ⟨⟨tr, tr, ⟨⟨⟨rfl, rfl, rfl, rfl, tr⟩, tr⟩, ok_laws_toPose K a0 v16 e17⟩, ⟨⟨⟨rfl, rfl, rfl, rfl, tr⟩, ⟨rfl, rfl, rfl, rfl, tr⟩, tr⟩, ok_laws_eqPose K v8 v16 v18 e19⟩, tr, tr⟩, tr⟩ ?_
      refine thenQ_normal ?_
      rcases ite2_cases h with ⟨b20, h⟩ | ⟨b20, h⟩
      · refine AW.cond_t rfl b20 ?_
        refine AW.sA ⟨[(2, (vB false))], []⟩ (Tt ∧ Tt) [] [2] [] ⟨tr, tr⟩ ?_
        refine AW.ret ?_
        refine thenQ_ret ?_
        replace h := some_eq h
        subst h
        exact ⟨.inr rfl, retOK_of [(.one (.c (.bool false)))] (by kernel_rfl) ⟨⟨rfl, tr⟩, tr⟩ (of_decide_eq_true (by kernel_rfl))⟩
      · refine AW.cond_f rfl b20 ?_
        refine AW.skip ?_
        refine thenQ_normal ?_
        refine AW.sA ⟨[(2, (vB true))], []⟩ (Tt ∧ Tt) [] [2] [] ⟨tr, tr⟩ ?_
        refine AW.ret ?_
        replace h := some_eq h
        subst h
        exact ⟨.inr rfl, retOK_of [(.one (.c (.bool true)))] (by kernel_rfl) ⟨⟨rfl, tr⟩, tr⟩ (of_decide_eq_true (by kernel_rfl))⟩

end
end Go.Fw
