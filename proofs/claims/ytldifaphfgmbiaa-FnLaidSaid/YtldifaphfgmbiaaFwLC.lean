/- Functions of the program: what each computes, and that it computes just that. -/
import Derived.Test.YtldifaphfgmbiaaFwTy
import Derived.Test.YtldifaphfgmbiaaFwH
import Derived.Test.YtldifaphfgmbiaaFwV
import Derived.Test.YtldifaphfgmbiaaFwLC1
import Derived.Test.YtldifaphfgmbiaaFwMK
import Derived.Test.YtldifaphfgmbiaaFwAB
import Derived.Test.YtldifaphfgmbiaaProg
import Derived.KernelRfl
namespace Go.Fw
open Go Go.Proofs
noncomputable section
set_option maxRecDepth 10000

/-! impl.distances -/
def impl_distances_l1 (K : Nat) (a0 : (List Vector)) : Nat → Int → (List F32) → Option ((List F32))
  | 0, _, _ => none
  | k + 1, x4, x5 => ite2 ((decide (x4 < ((List.replicate (IntKind.i64.wrap ((a0.length : Int) - (1 : Int))).toNat (default : F32)).length : Int)))) (chk (0 ≤ (IntKind.i64.wrap (x4 + (1 : Int))) ∧ (IntKind.i64.wrap (x4 + (1 : Int))) < (a0.length : Int)) (chk (0 ≤ x4 ∧ x4 < (a0.length : Int)) ((impl_LessVectors K (a0.getD ((IntKind.i64.wrap (x4 + (1 : Int))).toNat) default) (a0.getD x4.toNat default)).bind fun v9 => (impl_LongOf K v9).bind fun v11 => chk (0 ≤ x4 ∧ x4 < (x5.length : Int)) (impl_distances_l1 K a0 k (IntKind.i64.wrap (x4 + (1 : Int))) (x5.set x4.toNat v11))))) (some x5)

def impl_distances (K : Nat) (a0 : (List Vector)) : Option ((List F32)) :=
  chk (0 ≤ (IntKind.i64.wrap ((a0.length : Int) - (1 : Int))) ∧ (IntKind.i64.wrap ((a0.length : Int) - (1 : Int))).toNat * 4 ≤ 140737488355328) (impl_distances_l1 K a0 K (0 : Int) (List.replicate (IntKind.i64.wrap ((a0.length : Int) - (1 : Int))).toNat (default : F32)))

theorem ok_impl_distances (K : Nat) (a0 : (List Vector)) (o : ((List F32))) (h : impl_distances K a0 = some o) : CallOK Try.prog 17 [.one (sl 3 cs_Vector a0)] [.one (sl 1 (csF .f32) o)] := by
  refine callOK_of_AW Try.func17 rfl (by kernel_rfl) (Nat.le_of_ble_eq_true (by kernel_rfl)) ?_
  intro w0
  unfold impl_distances at h
  refine AW.seq ?_
  refine AW.regionA [] [0] [] (s' := ⟨[(0, (.v (.one (.c (sl 3 cs_Vector a0)))))], []⟩) (ob := True ∧ True) (by kernel_rfl) ⟨trivial, trivial⟩ ?_
  refine thenQ_normal ?_
  refine AW.seq ?_
  obtain ⟨c1, h⟩ := chk_some h
  refine AW.regionA [.no, .no, .no, .objA 1 (List.replicate (IntKind.i64.wrap ((a0.length : Int) - (1 : Int))).toNat (default : F32)).length (gl (csF .f32) (List.replicate (IntKind.i64.wrap ((a0.length : Int) - (1 : Int))).toNat (default : F32)))] [0, 3] [1] (s' := ⟨[(0, (.v (.one (.c (sl 3 cs_Vector a0))))), (3, (.v (.one (.arr 1))))], [(1, (.arr false (List.replicate (IntKind.i64.wrap ((a0.length : Int) - (1 : Int))).toNat (default : F32)).length 1 (gl (csF .f32) (List.replicate (IntKind.i64.wrap ((a0.length : Int) - (1 : Int))).toNat (default : F32)))))]⟩) (ob := True ∧ True ∧ True ∧ (0 ≤ (IntKind.i64.wrap ((a0.length : Int) - (1 : Int))) ∧ (IntKind.i64.wrap ((a0.length : Int) - (1 : Int))) = (IntKind.i64.wrap ((a0.length : Int) - (1 : Int))) ∧ (((List.replicate (IntKind.i64.wrap ((a0.length : Int) - (1 : Int))).toNat (default : F32)).length : Nat) : Int) = (IntKind.i64.wrap ((a0.length : Int) - (1 : Int))) ∧ (List.replicate (IntKind.i64.wrap ((a0.length : Int) - (1 : Int))).toNat (default : F32)).length * 4 ≤ 140737488355328 ∧ ∀ i, i < (List.replicate (IntKind.i64.wrap ((a0.length : Int) - (1 : Int))).toNat (default : F32)).length → zeroRow (fun _ => none) [(.c (.flt .f32 (default : F32).bits))] (gl (csF .f32) (List.replicate (IntKind.i64.wrap ((a0.length : Int) - (1 : Int))).toNat (default : F32)) i)) ∧ True ∧ True) (by kernel_rfl) ⟨trivial, trivial, trivial, ⟨c1.1, rfl, len_rep c1.1, rep_bytes c1.2, fun i hi => gl_zero (cs := (csF .f32)) (zs := [(.c (.flt .f32 (default : F32).bits))]) (n := (IntKind.i64.wrap ((a0.length : Int) - (1 : Int))).toNat) ⟨⟨rfl, trivial⟩, trivial⟩ i (rep_lt hi)⟩, trivial, trivial⟩ ?_
  refine thenQ_normal ?_
  refine AW.seq ?_
  refine AW.seq ?_
  refine AW.regionA [] [0, 3, 10, 11] [1] (s' := ⟨[(0, (.v (.one (.c (sl 3 cs_Vector a0))))), (3, (.v (.one (.arr 1)))), (10, (.v (.one (.c (.int .i64 ((List.replicate (IntKind.i64.wrap ((a0.length : Int) - (1 : Int))).toNat (default : F32)).length : Int)))))), (11, (.v (.one (.c (.int .i64 (0 : Int))))))], [(1, (.arr false (List.replicate (IntKind.i64.wrap ((a0.length : Int) - (1 : Int))).toNat (default : F32)).length 1 (gl (csF .f32) (List.replicate (IntKind.i64.wrap ((a0.length : Int) - (1 : Int))).toNat (default : F32)))))]⟩) (ob := True ∧ True ∧ True ∧ True) (by kernel_rfl) ⟨trivial, trivial, trivial, trivial⟩ ?_
  refine thenQ_normal ?_
  refine AW.block ?_
  refine AW.loopQ (σ := Nat × Int × (List F32)) (fun p => ⟨[(0, (.v (.one (.c (sl 3 cs_Vector a0))))), (3, (.v (.one (.arr 1)))), (10, (.v (.one (.c (.int .i64 ((List.replicate (IntKind.i64.wrap ((a0.length : Int) - (1 : Int))).toNat (default : F32)).length : Int)))))), (11, (.v (.one (.c (.int .i64 p.2.1)))))], [(1, (.arr false p.2.2.length 1 (gl (csF .f32) p.2.2)))]⟩) (fun p => impl_distances_l1 K a0 p.1 p.2.1 p.2.2 = some o) (fun p => p.1) (K, (0 : Int), (List.replicate (IntKind.i64.wrap ((a0.length : Int) - (1 : Int))).toNat (default : F32))) h ?_
  clear h
  rintro ⟨k, x4, x5⟩ h
  replace h : impl_distances_l1 K a0 k x4 x5 = some o := h
  show AW _ _ (⟨[(0, (.v (.one (.c (sl 3 cs_Vector a0))))), (3, (.v (.one (.arr 1)))), (10, (.v (.one (.c (.int .i64 ((List.replicate (IntKind.i64.wrap ((a0.length : Int) - (1 : Int))).toNat (default : F32)).length : Int)))))), (11, (.v (.one (.c (.int .i64 x4)))))], [(1, (.arr false x5.length 1 (gl (csF .f32) x5)))]⟩ : St) _
  obtain _ | k := k
  · rw [impl_distances_l1] at h; cases h
  rw [impl_distances_l1] at h
  refine AW.seq ?_
  refine AW.regionA [] [0, 3, 10, 11, 12] [1] (s' := ⟨[(0, (.v (.one (.c (sl 3 cs_Vector a0))))), (3, (.v (.one (.arr 1)))), (10, (.v (.one (.c (.int .i64 ((List.replicate (IntKind.i64.wrap ((a0.length : Int) - (1 : Int))).toNat (default : F32)).length : Int)))))), (11, (.v (.one (.c (.int .i64 x4))))), (12, (.v (.one (.c (.bool (decide (x4 < ((List.replicate (IntKind.i64.wrap ((a0.length : Int) - (1 : Int))).toNat (default : F32)).length : Int))))))))], [(1, (.arr false x5.length 1 (gl (csF .f32) x5)))]⟩) (ob := True ∧ True) (by kernel_rfl) ⟨trivial, trivial⟩ ?_
  refine thenQ_normal ?_
  refine AW.seq ?_
  rcases ite2_cases h with ⟨b6, h⟩ | ⟨b6, h⟩
  · refine AW.cond_t rfl b6 ?_
    refine AW.skip ?_
    refine thenQ_normal ?_
    refine AW.seq ?_
    refine AW.block ?_
    refine AW.seq ?_
    refine AW.regionA [] [0, 3, 4, 10, 11] [1] (s' := ⟨[(0, (.v (.one (.c (sl 3 cs_Vector a0))))), (3, (.v (.one (.arr 1)))), (4, (.v (.one (.c (.int .i64 x4))))), (10, (.v (.one (.c (.int .i64 ((List.replicate (IntKind.i64.wrap ((a0.length : Int) - (1 : Int))).toNat (default : F32)).length : Int)))))), (11, (.v (.one (.c (.int .i64 x4)))))], [(1, (.arr false x5.length 1 (gl (csF .f32) x5)))]⟩) (ob := True ∧ True ∧ True) (by kernel_rfl) ⟨trivial, trivial, trivial⟩ ?_
    refine thenQ_normal ?_
    obtain ⟨c7, h⟩ := chk_some h
    obtain ⟨c8, h⟩ := chk_some h
    obtain ⟨v9, e10, h⟩ := bind_some h
    obtain ⟨v11, e12, h⟩ := bind_some h
    obtain ⟨c13, h⟩ := chk_some h
    refine AW.drawnA (by kernel_rfl) 14 [.no, .no, .no, .no, .no, .no, .no, .no, .no, .no, .no, .call [.agg (cs_Vector (a0.getD ((IntKind.i64.wrap (x4 + (1 : Int))).toNat) default)), .agg (cs_Vector (a0.getD x4.toNat default))] [.agg (cs_Vector v9)] [[.view, .view, .view]], .call [.agg (cs_Vector v9)] [.one (.flt .f32 v11.bits)] [[.view]], .no, .set (x5.set x4.toNat v11).length (gl (csF .f32) (x5.set x4.toNat v11)) ((List.range 1).map fun j => ((csF .f32) v11).getD (0 + j) .nilptr)] [0, 3, 10, 11] [1] (s' := ⟨[(0, (.v (.one (.c (sl 3 cs_Vector a0))))), (3, (.v (.one (.arr 1)))), (10, (.v (.one (.c (.int .i64 ((List.replicate (IntKind.i64.wrap ((a0.length : Int) - (1 : Int))).toNat (default : F32)).length : Int)))))), (11, (.v (.one (.c (.int .i64 x4)))))], [(1, (.arr false (x5.set x4.toNat v11).length 1 (gl (csF .f32) (x5.set x4.toNat v11))))]⟩) (ob := (True ∧ True ∧ True ∧ True ∧ True ∧ (0 ≤ (IntKind.i64.wrap (x4 + (1 : Int))) ∧ (IntKind.i64.wrap (x4 + (1 : Int))) < (a0.length : Int)) ∧ True ∧ True ∧ True ∧ (0 ≤ x4 ∧ x4 < (a0.length : Int)) ∧ True ∧ ((((((.flt .f32 ((a0.getD ((IntKind.i64.wrap (x4 + (1 : Int))).toNat) default).X).bits) : C) = (.flt .f32 ((a0.getD ((IntKind.i64.wrap (x4 + (1 : Int))).toNat) default).X).bits)) ∧ (((.flt .f32 ((a0.getD ((IntKind.i64.wrap (x4 + (1 : Int))).toNat) default).Y).bits) : C) = (.flt .f32 ((a0.getD ((IntKind.i64.wrap (x4 + (1 : Int))).toNat) default).Y).bits)) ∧ (((.flt .f32 ((a0.getD ((IntKind.i64.wrap (x4 + (1 : Int))).toNat) default).Z).bits) : C) = (.flt .f32 ((a0.getD ((IntKind.i64.wrap (x4 + (1 : Int))).toNat) default).Z).bits)) ∧ True) ∧ ((((.flt .f32 ((a0.getD x4.toNat default).X).bits) : C) = (.flt .f32 ((a0.getD x4.toNat default).X).bits)) ∧ (((.flt .f32 ((a0.getD x4.toNat default).Y).bits) : C) = (.flt .f32 ((a0.getD x4.toNat default).Y).bits)) ∧ (((.flt .f32 ((a0.getD x4.toNat default).Z).bits) : C) = (.flt .f32 ((a0.getD x4.toNat default).Z).bits)) ∧ True) ∧ True) ∧ CallOK Try.prog 30 [.agg (cs_Vector (a0.getD ((IntKind.i64.wrap (x4 + (1 : Int))).toNat) default)), .agg (cs_Vector (a0.getD x4.toNat default))] [.agg (cs_Vector v9)]) ∧ ((((((.flt .f32 v9.X.bits) : C) = (.flt .f32 v9.X.bits)) ∧ (((.flt .f32 v9.Y.bits) : C) = (.flt .f32 v9.Y.bits)) ∧ (((.flt .f32 v9.Z.bits) : C) = (.flt .f32 v9.Z.bits)) ∧ True) ∧ True) ∧ CallOK Try.prog 29 [.agg (cs_Vector v9)] [.one (.flt .f32 v11.bits)]) ∧ (0 ≤ x4 ∧ x4 < (x5.length : Int)) ∧ True) ∧ (((x5.set x4.toNat v11).length = x5.length ∧ SetOb x5.length 1 x4.toNat 0 1 (gl (csF .f32) x5) (gl (csF .f32) (x5.set x4.toNat v11)) ∧ ((List.range 1).map fun j => ((csF .f32) v11).getD (0 + j) .nilptr) = ((List.range 1).map fun j => gl (csF .f32) (x5.set x4.toNat v11) x4.toNat (0 + j)) ∧ ((((.flt .f32 v11.bits) : C) = (.flt .f32 v11.bits) ∧ True) ∧ True) ∧ (false = true → ∀ j, j < 1 → isSeq (gl (csF .f32) x5 x4.toNat (0 + j)) = false ∧ isSeq (gl (csF .f32) (x5.set x4.toNat v11) x4.toNat (0 + j)) = false)) ∧ True)) (by kernel_rfl) ⟨⟨trivial, trivial, trivial, trivial, trivial, c7, trivial, trivial, trivial, c8, trivial, ⟨⟨⟨rfl, rfl, rfl, trivial⟩, ⟨rfl, rfl, rfl, trivial⟩, trivial⟩, ok_impl_LessVectors K (a0.getD ((IntKind.i64.wrap (x4 + (1 : Int))).toNat) default) (a0.getD x4.toNat default) v9 e10⟩, ⟨⟨⟨rfl, rfl, rfl, trivial⟩, trivial⟩, ok_impl_LongOf K v9 v11 e12⟩, c13, trivial⟩, ⟨⟨List.length_set, gl_set, (gl_atp (lt_of_bound c13)).symm, ⟨⟨rfl, trivial⟩, trivial⟩, (fun h => nomatch h)⟩, trivial⟩⟩ ?_
    refine blockQ_normal ?_
    refine thenQ_normal ?_
    refine AW.regionA [] [0, 3, 10, 11] [1] (s' := ⟨[(0, (.v (.one (.c (sl 3 cs_Vector a0))))), (3, (.v (.one (.arr 1)))), (10, (.v (.one (.c (.int .i64 ((List.replicate (IntKind.i64.wrap ((a0.length : Int) - (1 : Int))).toNat (default : F32)).length : Int)))))), (11, (.v (.one (.c (.int .i64 (IntKind.i64.wrap (x4 + (1 : Int))))))))], [(1, (.arr false (x5.set x4.toNat v11).length 1 (gl (csF .f32) (x5.set x4.toNat v11))))]⟩) (ob := True ∧ True ∧ True) (by kernel_rfl) ⟨trivial, trivial, trivial⟩ ?_
    exact loopQ_normal (k, (IntKind.i64.wrap (x4 + (1 : Int))), (x5.set x4.toNat v11)) h (Nat.lt_succ_self k) (Sub.keep [0, 3, 10, 11] [1] (by kernel_rfl) (by kernel_rfl))
  · refine AW.cond_f rfl b6 ?_
    refine AW.exit ?_
    refine thenQ_exit ?_
    refine loopQ_exit ?_
    refine blockQ_exit ?_
    refine thenQ_normal ?_
    refine AW.seq ?_
    refine AW.regionA [] [2] [1] (s' := ⟨[(2, (.v (.one (.arr 1))))], [(1, (.arr false x5.length 1 (gl (csF .f32) x5)))]⟩) (ob := True ∧ True ∧ True) (by kernel_rfl) ⟨trivial, trivial, trivial⟩ ?_
    refine thenQ_normal ?_
    refine AW.ret ?_
    replace h := some_eq h
    subst h
    exact ⟨.inr rfl, retOK_of [(.one (.arr 1))] (by kernel_rfl) ⟨rfl, trivial⟩ (of_decide_eq_true (by kernel_rfl))⟩

/-! impl.PointLengths -/
def impl_PointLengths (K : Nat) (a0 : (List Vector)) : Option ((List F32) × Bool) :=
  (impl_arePoints K a0).bind fun v1 => ite2 ((!v1)) (some (([] : (List F32)), false)) ((impl_distances K a0).bind fun v4 => some (v4, true))

theorem ok_impl_PointLengths (K : Nat) (a0 : (List Vector)) (o : ((List F32) × Bool)) (h : impl_PointLengths K a0 = some o) : CallOK Try.prog 8 [.one (sl 3 cs_Vector a0)] [.one (sl 1 (csF .f32) o.1), .one (.bool o.2)] := by
  refine callOK_of_AW Try.func8 rfl (by kernel_rfl) (Nat.le_of_ble_eq_true (by kernel_rfl)) ?_
  intro w0
  unfold impl_PointLengths at h
  refine AW.seq ?_
  refine AW.regionA [] [0] [] (s' := ⟨[(0, (.v (.one (.c (sl 3 cs_Vector a0)))))], []⟩) (ob := True ∧ True ∧ True) (by kernel_rfl) ⟨trivial, trivial, trivial⟩ ?_
  refine thenQ_normal ?_
  refine AW.seq ?_
  refine AW.seq ?_
  obtain ⟨v1, e2, h⟩ := bind_some h
  refine AW.regionA [.no, .call [.one (sl 3 cs_Vector a0)] [.one (.bool v1)] [[.view]]] [0, 6] [] (s' := ⟨[(0, (.v (.one (.c (sl 3 cs_Vector a0))))), (6, (.v (.one (.c (.bool (!v1))))))], []⟩) (ob := True ∧ (((((sl 3 cs_Vector a0) : C) = (sl 3 cs_Vector a0)) ∧ True) ∧ CallOK Try.prog 16 [.one (sl 3 cs_Vector a0)] [.one (.bool v1)]) ∧ True ∧ True) (by kernel_rfl) ⟨trivial, ⟨⟨rfl, trivial⟩, ok_impl_arePoints K a0 v1 e2⟩, trivial, trivial⟩ ?_
  refine thenQ_normal ?_
  rcases ite2_cases h with ⟨b3, h⟩ | ⟨b3, h⟩
  · refine AW.cond_t rfl b3 ?_
    refine AW.seq ?_
    refine AW.regionA [] [2, 3] [] (s' := ⟨[(2, (.v (.one .nils))), (3, (.v (.one (.c (.bool false)))))], []⟩) (ob := True ∧ True ∧ True) (by kernel_rfl) ⟨trivial, trivial, trivial⟩ ?_
    refine thenQ_normal ?_
    refine AW.ret ?_
    refine thenQ_ret ?_
    replace h := some_eq h
    subst h
    exact ⟨.inr rfl, retOK_of [(.one .nils), (.one (.c (.bool false)))] (by kernel_rfl) ⟨rfl, ⟨rfl, trivial⟩, trivial⟩ (of_decide_eq_true (by kernel_rfl))⟩
  · refine AW.cond_f rfl b3 ?_
    refine AW.skip ?_
    refine thenQ_normal ?_
    refine AW.seq ?_
    obtain ⟨v4, e5, h⟩ := bind_some h
    refine AW.regionA [.no, .call [.one (sl 3 cs_Vector a0)] [.one (sl 1 (csF .f32) v4)] [[.lst 1]]] [2, 3] [1] (s' := ⟨[(2, (.v (.one (.lst 1 v4.length 1 (gl (csF .f32) v4))))), (3, (.v (.one (.c (.bool true)))))], [(1, (.lst v4.length 1 (gl (csF .f32) v4)))]⟩) (ob := True ∧ (((((sl 3 cs_Vector a0) : C) = (sl 3 cs_Vector a0)) ∧ True) ∧ CallOK Try.prog 17 [.one (sl 3 cs_Vector a0)] [.one (sl 1 (csF .f32) v4)]) ∧ True ∧ True ∧ True) (by kernel_rfl) ⟨trivial, ⟨⟨rfl, trivial⟩, ok_impl_distances K a0 v4 e5⟩, trivial, trivial, trivial⟩ ?_
    refine thenQ_normal ?_
    refine AW.ret ?_
    replace h := some_eq h
    subst h
    exact ⟨.inr rfl, retOK_of [(.one (.lst 1 v4.length 1 (gl (csF .f32) v4))), (.one (.c (.bool true)))] (by kernel_rfl) ⟨rfl, ⟨rfl, trivial⟩, trivial⟩ (of_decide_eq_true (by kernel_rfl))⟩

/-! math.Float64frombits -/
def math_Float64frombits (_K : Nat) (a0 : Int) : Option (F64) :=
  Fl.ofBits .f64 a0

theorem ok_math_Float64frombits (K : Nat) (a0 : Int) (o : F64) (h : math_Float64frombits K a0 = some o) : CallOK Try.prog 38 [.one (.int .u64 a0)] [.one (.flt .f64 o.bits)] :=
  hand_ofBits (e := Extern.MathFloatBits.float64frombits) Try.func38 (by kernel_rfl) (by kernel_rfl) (by kernel_rfl) (by kernel_rfl) (fun _ _ => rfl) a0 o h

/-! math.Abs -/
def math_Abs (_K : Nat) (a0 : F64) : Option (F64) :=
  some a0.abs

theorem ok_math_Abs (K : Nat) (a0 : F64) (o : F64) (h : math_Abs K a0 = some o) : CallOK Try.prog 31 [.one (.flt .f64 a0.bits)] [.one (.flt .f64 o.bits)] := by
  refine callOK_of_AW Try.func31 rfl (by kernel_rfl) (Nat.le_of_ble_eq_true (by kernel_rfl)) ?_
  intro w0
  replace h := some_eq h
  subst h
  refine AW.seq ?_
  refine AW.regionA [] [0] [] (s' := ⟨[(0, (.v (.one (.c (.flt .f64 a0.bits)))))], []⟩) (ob := True ∧ True) (by kernel_rfl) ⟨trivial, trivial⟩ ?_
  refine thenQ_normal ?_
  refine AW.seq ?_
  refine AW.rawA (i := .u64) (f := 39) (d := 4) (k := .f64) (c := a0.bits) (s1 := ⟨[(3, (.v (.one (.c (.flt .f64 a0.bits))))), (0, (.v (.one (.c (.flt .f64 a0.bits)))))], []⟩) (ob := True ∧ True) 1 [.no] (by kernel_rfl) ⟨trivial, trivial⟩ (e := Extern.MathFloatBits.float64bits) Try.func39 (by kernel_rfl) (by kernel_rfl) (by kernel_rfl) (by kernel_rfl) (fun _ _ => rfl) ?_
  intro b hb hc
  refine ⟨[.no, .call [.one (.int .u64 (bits .andNot .u64 (b : Int) (9223372036854775808 : Int)))] [.one (.flt .f64 a0.abs.bits)] [[.view]]], ⟨[(2, (.v (.one (.c (.flt .f64 a0.abs.bits))))), (6, (.v (.one (.c (.flt .f64 a0.abs.bits))))), (5, (.v (.one (.c (.int .u64 (bits .andNot .u64 (b : Int) (9223372036854775808 : Int))))))), (4, (.v (.one (.c (.int .u64 (b : Int)))))), (3, (.v (.one (.c (.flt .f64 a0.bits))))), (0, (.v (.one (.c (.flt .f64 a0.bits)))))], []⟩, True ∧ (((((.int .u64 (bits .andNot .u64 (b : Int) (9223372036854775808 : Int))) : C) = (.int .u64 (bits .andNot .u64 (b : Int) (9223372036854775808 : Int)))) ∧ True) ∧ CallOK Try.prog 38 [.one (.int .u64 (bits .andNot .u64 (b : Int) (9223372036854775808 : Int)))] [.one (.flt .f64 a0.abs.bits)]) ∧ True ∧ True, by kernel_rfl, ⟨trivial, ⟨⟨rfl, trivial⟩, ?_⟩, trivial, trivial⟩, ?_⟩
  · exact ok_math_Float64frombits K _ a0.abs (by rw [andNot_sign hb]; exact ofBits_abs hb a0 hc)
  · refine thenQ_normal ?_
    refine AW.ret ?_
    exact ⟨.inr rfl, retOK_of [(.one (.c (.flt .f64 a0.abs.bits)))] (by kernel_rfl) ⟨⟨rfl, trivial⟩, trivial⟩ (of_decide_eq_true (by kernel_rfl))⟩

/-! impl.size -/
def impl_size (K : Nat) (a0 : F32) : Option (F32) :=
  (math_Abs K (Fl.cv .f32 .f64 a0)).bind fun v1 => chk ((convBits .f64 v1.bits .f32).isSome = true) (some (Fl.cv .f64 .f32 v1))

theorem ok_impl_size (K : Nat) (a0 : F32) (o : (F32)) (h : impl_size K a0 = some o) : CallOK Try.prog 19 [.one (.flt .f32 a0.bits)] [.one (.flt .f32 o.bits)] := by
  refine callOK_of_AW Try.func19 rfl (by kernel_rfl) (Nat.le_of_ble_eq_true (by kernel_rfl)) ?_
  intro w0
  unfold impl_size at h
  refine AW.seq ?_
  refine AW.regionA [] [0] [] (s' := ⟨[(0, (.v (.one (.c (.flt .f32 a0.bits)))))], []⟩) (ob := True ∧ True) (by kernel_rfl) ⟨trivial, trivial⟩ ?_
  refine thenQ_normal ?_
  refine AW.seq ?_
  obtain ⟨v1, e2, h⟩ := bind_some h
  obtain ⟨c3, h⟩ := chk_some h
  refine AW.regionA [.no, .no, .call [.one (.flt .f64 (Fl.cv .f32 .f64 a0).bits)] [.one (.flt .f64 v1.bits)] [[.view]]] [2] [] (s' := ⟨[(2, (.v (.one (.c (.flt .f32 (Fl.cv .f64 .f32 v1).bits)))))], []⟩) (ob := True ∧ ((convBits .f32 a0.bits .f64).isSome = true) ∧ (((((.flt .f64 (Fl.cv .f32 .f64 a0).bits) : C) = (.flt .f64 (Fl.cv .f32 .f64 a0).bits)) ∧ True) ∧ CallOK Try.prog 31 [.one (.flt .f64 (Fl.cv .f32 .f64 a0).bits)] [.one (.flt .f64 v1.bits)]) ∧ ((convBits .f64 v1.bits .f32).isSome = true) ∧ True ∧ True) (by kernel_rfl) ⟨trivial, cv_wide a0, ⟨⟨rfl, trivial⟩, ok_math_Abs K (Fl.cv .f32 .f64 a0) v1 e2⟩, c3, trivial, trivial⟩ ?_
  refine thenQ_normal ?_
  refine AW.ret ?_
  replace h := some_eq h
  subst h
  exact ⟨.inr rfl, retOK_of [(.one (.c (.flt .f32 (Fl.cv .f64 .f32 v1).bits)))] (by kernel_rfl) ⟨⟨rfl, trivial⟩, trivial⟩ (of_decide_eq_true (by kernel_rfl))⟩

/-! impl.greater -/
def impl_greater (_K : Nat) (a0 : F32) (a1 : F32) : Option (F32) :=
  ite2 ((a1.gt a0)) (some a1) (some a0)

theorem ok_impl_greater (K : Nat) (a0 : F32) (a1 : F32) (o : (F32)) (h : impl_greater K a0 a1 = some o) : CallOK Try.prog 18 [.one (.flt .f32 a0.bits), .one (.flt .f32 a1.bits)] [.one (.flt .f32 o.bits)] := by
  refine callOK_of_AW Try.func18 rfl (by kernel_rfl) (Nat.le_of_ble_eq_true (by kernel_rfl)) ?_
  intro w0
  unfold impl_greater at h
  refine AW.seq ?_
  refine AW.regionA [] [0, 1] [] (s' := ⟨[(0, (.v (.one (.c (.flt .f32 a0.bits))))), (1, (.v (.one (.c (.flt .f32 a1.bits)))))], []⟩) (ob := True ∧ True) (by kernel_rfl) ⟨trivial, trivial⟩ ?_
  refine thenQ_normal ?_
  refine AW.seq ?_
  refine AW.seq ?_
  refine AW.regionA [] [0, 1, 7] [] (s' := ⟨[(0, (.v (.one (.c (.flt .f32 a0.bits))))), (1, (.v (.one (.c (.flt .f32 a1.bits))))), (7, (.v (.one (.c (.bool (a1.gt a0))))))], []⟩) (ob := True ∧ True ∧ True ∧ True) (by kernel_rfl) ⟨trivial, trivial, trivial, trivial⟩ ?_
  refine thenQ_normal ?_
  rcases ite2_cases h with ⟨b1, h⟩ | ⟨b1, h⟩
  · refine AW.cond_t rfl b1 ?_
    refine AW.seq ?_
    refine AW.regionA [] [4] [] (s' := ⟨[(4, (.v (.one (.c (.flt .f32 a1.bits)))))], []⟩) (ob := True ∧ True ∧ True) (by kernel_rfl) ⟨trivial, trivial, trivial⟩ ?_
    refine thenQ_normal ?_
    refine AW.ret ?_
    refine thenQ_ret ?_
    replace h := some_eq h
    subst h
    exact ⟨.inr rfl, retOK_of [(.one (.c (.flt .f32 a1.bits)))] (by kernel_rfl) ⟨⟨rfl, trivial⟩, trivial⟩ (of_decide_eq_true (by kernel_rfl))⟩
  · refine AW.cond_f rfl b1 ?_
    refine AW.skip ?_
    refine thenQ_normal ?_
    refine AW.seq ?_
    refine AW.regionA [] [4] [] (s' := ⟨[(4, (.v (.one (.c (.flt .f32 a0.bits)))))], []⟩) (ob := True ∧ True ∧ True) (by kernel_rfl) ⟨trivial, trivial, trivial⟩ ?_
    refine thenQ_normal ?_
    refine AW.ret ?_
    replace h := some_eq h
    subst h
    exact ⟨.inr rfl, retOK_of [(.one (.c (.flt .f32 a0.bits)))] (by kernel_rfl) ⟨⟨rfl, trivial⟩, trivial⟩ (of_decide_eq_true (by kernel_rfl))⟩

/-! impl.StretchOf -/
def impl_StretchOf_l1 (K : Nat) (a0 : String) (v4 : ((List F32))) : Nat → F32 → Int → Option (F32 × Bool)
  | 0, _, _ => none
  | k + 1, x8, x9 => ite2 ((decide (x9 < (v4.length : Int)))) (chk (0 ≤ x9 ∧ x9 < (v4.length : Int)) (chk (0 ≤ x9 ∧ x9 < (a0.Lengths.length : Int)) ((impl_size K ((v4.getD x9.toNat default).sub (a0.Lengths.getD x9.toNat default))).bind fun v13 => (impl_greater K x8 v13).bind fun v15 => impl_StretchOf_l1 K a0 v4 k v15 (IntKind.i64.wrap (x9 + (1 : Int)))))) (some (x8, true))

def impl_StretchOf (K : Nat) (a0 : String) : Option (F32 × Bool) :=
  (impl_ValidString K a0).bind fun v1 => ite2 ((!v1)) (some ((Fl.mk (k := .f32) 0 (by decide)), false)) ((impl_distances K a0.Points).bind fun v4 => impl_StretchOf_l1 K a0 v4 K (Fl.mk (k := .f32) 0 (by decide)) (0 : Int))

theorem ok_impl_StretchOf (K : Nat) (a0 : String) (o : (F32 × Bool)) (h : impl_StretchOf K a0 = some o) : CallOK Try.prog 9 [.agg (cs_String a0)] [.one (.flt .f32 o.1.bits), .one (.bool o.2)] := by
  refine callOK_of_AW Try.func9 rfl (by kernel_rfl) (Nat.le_of_ble_eq_true (by kernel_rfl)) ?_
  intro w0
  unfold impl_StretchOf at h
  refine AW.seq ?_
  refine AW.regionA [.box 1] [1] [1] (s' := ⟨[(1, (.v (.one (.ptr 1 0))))], [(1, (.box [(.c (sl 3 cs_Vector a0.Points)), (.c (sl 3 cs_Vector a0.Before)), (.c (sl 1 csB a0.Fixed)), (.c (sl 1 (csF .f32) a0.Lengths)), (.c (.flt .f32 a0.Fall.X.bits)), (.c (.flt .f32 a0.Fall.Y.bits)), (.c (.flt .f32 a0.Fall.Z.bits)), (.c (.flt .f32 a0.Damp.bits)), (.c (.int .i64 a0.Passes))]))]⟩) (ob := True ∧ True ∧ True ∧ True) (by kernel_rfl) ⟨trivial, trivial, trivial, trivial⟩ ?_
  refine thenQ_normal ?_
  refine AW.seq ?_
  refine AW.seq ?_
  obtain ⟨v1, e2, h⟩ := bind_some h
  refine AW.regionA [.no, .call [.agg (cs_String a0)] [.one (.bool v1)] [[.view]]] [1, 9] [1] (s' := ⟨[(1, (.v (.one (.ptr 1 0)))), (9, (.v (.one (.c (.bool (!v1))))))], [(1, (.box [(.c (sl 3 cs_Vector a0.Points)), (.c (sl 3 cs_Vector a0.Before)), (.c (sl 1 csB a0.Fixed)), (.c (sl 1 (csF .f32) a0.Lengths)), (.c (.flt .f32 a0.Fall.X.bits)), (.c (.flt .f32 a0.Fall.Y.bits)), (.c (.flt .f32 a0.Fall.Z.bits)), (.c (.flt .f32 a0.Damp.bits)), (.c (.int .i64 a0.Passes))]))]⟩) (ob := True ∧ ((((((sl 3 cs_Vector a0.Points) : C) = (sl 3 cs_Vector a0.Points)) ∧ (((sl 3 cs_Vector a0.Before) : C) = (sl 3 cs_Vector a0.Before)) ∧ (((sl 1 csB a0.Fixed) : C) = (sl 1 csB a0.Fixed)) ∧ (((sl 1 (csF .f32) a0.Lengths) : C) = (sl 1 (csF .f32) a0.Lengths)) ∧ (((.flt .f32 a0.Fall.X.bits) : C) = (.flt .f32 a0.Fall.X.bits)) ∧ (((.flt .f32 a0.Fall.Y.bits) : C) = (.flt .f32 a0.Fall.Y.bits)) ∧ (((.flt .f32 a0.Fall.Z.bits) : C) = (.flt .f32 a0.Fall.Z.bits)) ∧ (((.flt .f32 a0.Damp.bits) : C) = (.flt .f32 a0.Damp.bits)) ∧ (((.int .i64 a0.Passes) : C) = (.int .i64 a0.Passes)) ∧ True) ∧ True) ∧ CallOK Try.prog 13 [.agg (cs_String a0)] [.one (.bool v1)]) ∧ True ∧ True) (by kernel_rfl) ⟨trivial, ⟨⟨⟨rfl, rfl, rfl, rfl, rfl, rfl, rfl, rfl, rfl, trivial⟩, trivial⟩, ok_impl_ValidString K a0 v1 e2⟩, trivial, trivial⟩ ?_
  refine thenQ_normal ?_
  rcases ite2_cases h with ⟨b3, h⟩ | ⟨b3, h⟩
  · refine AW.cond_t rfl b3 ?_
    refine AW.seq ?_
    refine AW.regionA [] [2, 3] [] (s' := ⟨[(2, (.v (.one (.c (.flt .f32 (Fl.mk (k := .f32) 0 (by decide)).bits))))), (3, (.v (.one (.c (.bool false)))))], []⟩) (ob := True ∧ True ∧ True) (by kernel_rfl) ⟨trivial, trivial, trivial⟩ ?_
    refine thenQ_normal ?_
    refine AW.ret ?_
    refine thenQ_ret ?_
    replace h := some_eq h
    subst h
    exact ⟨.inr rfl, retOK_of [(.one (.c (.flt .f32 (Fl.mk (k := .f32) 0 (by decide)).bits))), (.one (.c (.bool false)))] (by kernel_rfl) ⟨⟨rfl, trivial⟩, ⟨rfl, trivial⟩, trivial⟩ (of_decide_eq_true (by kernel_rfl))⟩
  · refine AW.cond_f rfl b3 ?_
    refine AW.skip ?_
    refine thenQ_normal ?_
    refine AW.seq ?_
    refine AW.regionA [] [1, 4] [1] (s' := ⟨[(1, (.v (.one (.ptr 1 0)))), (4, (.v (.one (.c (.flt .f32 (Fl.mk (k := .f32) 0 (by decide)).bits)))))], [(1, (.box [(.c (sl 3 cs_Vector a0.Points)), (.c (sl 3 cs_Vector a0.Before)), (.c (sl 1 csB a0.Fixed)), (.c (sl 1 (csF .f32) a0.Lengths)), (.c (.flt .f32 a0.Fall.X.bits)), (.c (.flt .f32 a0.Fall.Y.bits)), (.c (.flt .f32 a0.Fall.Z.bits)), (.c (.flt .f32 a0.Damp.bits)), (.c (.int .i64 a0.Passes))]))]⟩) (ob := True ∧ True) (by kernel_rfl) ⟨trivial, trivial⟩ ?_
    refine thenQ_normal ?_
    refine AW.seq ?_
    refine AW.seq ?_
    obtain ⟨v4, e5, h⟩ := bind_some h
    refine AW.regionA [.no, .no, .call [.one (sl 3 cs_Vector a0.Points)] [.one (sl 1 (csF .f32) v4)] [[.lst 2]]] [1, 4, 12, 13, 14] [1, 2] (s' := ⟨[(1, (.v (.one (.ptr 1 0)))), (4, (.v (.one (.c (.flt .f32 (Fl.mk (k := .f32) 0 (by decide)).bits))))), (12, (.v (.one (.lst 2 v4.length 1 (gl (csF .f32) v4))))), (13, (.v (.one (.c (.int .i64 (v4.length : Int)))))), (14, (.v (.one (.c (.int .i64 (0 : Int))))))], [(1, (.box [(.c (sl 3 cs_Vector a0.Points)), (.c (sl 3 cs_Vector a0.Before)), (.c (sl 1 csB a0.Fixed)), (.c (sl 1 (csF .f32) a0.Lengths)), (.c (.flt .f32 a0.Fall.X.bits)), (.c (.flt .f32 a0.Fall.Y.bits)), (.c (.flt .f32 a0.Fall.Z.bits)), (.c (.flt .f32 a0.Damp.bits)), (.c (.int .i64 a0.Passes))])), (2, (.lst v4.length 1 (gl (csF .f32) v4)))]⟩) (ob := True ∧ True ∧ (((((sl 3 cs_Vector a0.Points) : C) = (sl 3 cs_Vector a0.Points)) ∧ True) ∧ CallOK Try.prog 17 [.one (sl 3 cs_Vector a0.Points)] [.one (sl 1 (csF .f32) v4)]) ∧ True ∧ True ∧ True) (by kernel_rfl) ⟨trivial, trivial, ⟨⟨rfl, trivial⟩, ok_impl_distances K a0.Points v4 e5⟩, trivial, trivial, trivial⟩ ?_
    refine thenQ_normal ?_
    refine AW.block ?_
    refine AW.loopQ (σ := Nat × F32 × Int) (fun p => ⟨[(1, (.v (.one (.ptr 1 0)))), (4, (.v (.one (.c (.flt .f32 p.2.1.bits))))), (12, (.v (.one (.lst 2 v4.length 1 (gl (csF .f32) v4))))), (13, (.v (.one (.c (.int .i64 (v4.length : Int)))))), (14, (.v (.one (.c (.int .i64 p.2.2)))))], [(1, (.box [(.c (sl 3 cs_Vector a0.Points)), (.c (sl 3 cs_Vector a0.Before)), (.c (sl 1 csB a0.Fixed)), (.c (sl 1 (csF .f32) a0.Lengths)), (.c (.flt .f32 a0.Fall.X.bits)), (.c (.flt .f32 a0.Fall.Y.bits)), (.c (.flt .f32 a0.Fall.Z.bits)), (.c (.flt .f32 a0.Damp.bits)), (.c (.int .i64 a0.Passes))])), (2, (.lst v4.length 1 (gl (csF .f32) v4)))]⟩) (fun p => impl_StretchOf_l1 K a0 v4 p.1 p.2.1 p.2.2 = some o) (fun p => p.1) (K, (Fl.mk (k := .f32) 0 (by decide)), (0 : Int)) h ?_
    clear h
    rintro ⟨k, x8, x9⟩ h
    replace h : impl_StretchOf_l1 K a0 v4 k x8 x9 = some o := h
    show AW _ _ (⟨[(1, (.v (.one (.ptr 1 0)))), (4, (.v (.one (.c (.flt .f32 x8.bits))))), (12, (.v (.one (.lst 2 v4.length 1 (gl (csF .f32) v4))))), (13, (.v (.one (.c (.int .i64 (v4.length : Int)))))), (14, (.v (.one (.c (.int .i64 x9)))))], [(1, (.box [(.c (sl 3 cs_Vector a0.Points)), (.c (sl 3 cs_Vector a0.Before)), (.c (sl 1 csB a0.Fixed)), (.c (sl 1 (csF .f32) a0.Lengths)), (.c (.flt .f32 a0.Fall.X.bits)), (.c (.flt .f32 a0.Fall.Y.bits)), (.c (.flt .f32 a0.Fall.Z.bits)), (.c (.flt .f32 a0.Damp.bits)), (.c (.int .i64 a0.Passes))])), (2, (.lst v4.length 1 (gl (csF .f32) v4)))]⟩ : St) _
    obtain _ | k := k
    · rw [impl_StretchOf_l1] at h; cases h
    rw [impl_StretchOf_l1] at h
    refine AW.seq ?_
    refine AW.regionA [] [1, 4, 12, 13, 14, 15] [1, 2] (s' := ⟨[(1, (.v (.one (.ptr 1 0)))), (4, (.v (.one (.c (.flt .f32 x8.bits))))), (12, (.v (.one (.lst 2 v4.length 1 (gl (csF .f32) v4))))), (13, (.v (.one (.c (.int .i64 (v4.length : Int)))))), (14, (.v (.one (.c (.int .i64 x9))))), (15, (.v (.one (.c (.bool (decide (x9 < (v4.length : Int))))))))], [(1, (.box [(.c (sl 3 cs_Vector a0.Points)), (.c (sl 3 cs_Vector a0.Before)), (.c (sl 1 csB a0.Fixed)), (.c (sl 1 (csF .f32) a0.Lengths)), (.c (.flt .f32 a0.Fall.X.bits)), (.c (.flt .f32 a0.Fall.Y.bits)), (.c (.flt .f32 a0.Fall.Z.bits)), (.c (.flt .f32 a0.Damp.bits)), (.c (.int .i64 a0.Passes))])), (2, (.lst v4.length 1 (gl (csF .f32) v4)))]⟩) (ob := True ∧ True) (by kernel_rfl) ⟨trivial, trivial⟩ ?_
    refine thenQ_normal ?_
    refine AW.seq ?_
    rcases ite2_cases h with ⟨b10, h⟩ | ⟨b10, h⟩
    · refine AW.cond_t rfl b10 ?_
      refine AW.skip ?_
      refine thenQ_normal ?_
      refine AW.seq ?_
      refine AW.block ?_
      refine AW.seq ?_
      obtain ⟨c11, h⟩ := chk_some h
      refine AW.regionA [] [1, 4, 5, 6, 12, 13, 14] [1, 2] (s' := ⟨[(1, (.v (.one (.ptr 1 0)))), (4, (.v (.one (.c (.flt .f32 x8.bits))))), (5, (.v (.one (.c (.int .i64 x9))))), (6, (.v (.one (.c (.flt .f32 (v4.getD x9.toNat default).bits))))), (12, (.v (.one (.lst 2 v4.length 1 (gl (csF .f32) v4))))), (13, (.v (.one (.c (.int .i64 (v4.length : Int)))))), (14, (.v (.one (.c (.int .i64 x9)))))], [(1, (.box [(.c (sl 3 cs_Vector a0.Points)), (.c (sl 3 cs_Vector a0.Before)), (.c (sl 1 csB a0.Fixed)), (.c (sl 1 (csF .f32) a0.Lengths)), (.c (.flt .f32 a0.Fall.X.bits)), (.c (.flt .f32 a0.Fall.Y.bits)), (.c (.flt .f32 a0.Fall.Z.bits)), (.c (.flt .f32 a0.Damp.bits)), (.c (.int .i64 a0.Passes))])), (2, (.lst v4.length 1 (gl (csF .f32) v4)))]⟩) (ob := True ∧ (0 ≤ x9 ∧ x9 < (v4.length : Int)) ∧ True ∧ True ∧ True ∧ True) (by kernel_rfl) ⟨trivial, c11, trivial, trivial, trivial, trivial⟩ ?_
      refine thenQ_normal ?_
      obtain ⟨c12, h⟩ := chk_some h
      obtain ⟨v13, e14, h⟩ := bind_some h
      obtain ⟨v15, e16, h⟩ := bind_some h
      refine AW.regionA [.no, .no, .no, .no, .no, .no, .no, .no, .call [.one (.flt .f32 ((v4.getD x9.toNat default).sub (a0.Lengths.getD x9.toNat default)).bits)] [.one (.flt .f32 v13.bits)] [[.view]], .call [.one (.flt .f32 x8.bits), .one (.flt .f32 v13.bits)] [.one (.flt .f32 v15.bits)] [[.view]]] [1, 4, 12, 13, 14] [1, 2] (s' := ⟨[(1, (.v (.one (.ptr 1 0)))), (4, (.v (.one (.c (.flt .f32 v15.bits))))), (12, (.v (.one (.lst 2 v4.length 1 (gl (csF .f32) v4))))), (13, (.v (.one (.c (.int .i64 (v4.length : Int)))))), (14, (.v (.one (.c (.int .i64 x9)))))], [(1, (.box [(.c (sl 3 cs_Vector a0.Points)), (.c (sl 3 cs_Vector a0.Before)), (.c (sl 1 csB a0.Fixed)), (.c (sl 1 (csF .f32) a0.Lengths)), (.c (.flt .f32 a0.Fall.X.bits)), (.c (.flt .f32 a0.Fall.Y.bits)), (.c (.flt .f32 a0.Fall.Z.bits)), (.c (.flt .f32 a0.Damp.bits)), (.c (.int .i64 a0.Passes))])), (2, (.lst v4.length 1 (gl (csF .f32) v4)))]⟩) (ob := True ∧ True ∧ True ∧ True ∧ True ∧ (0 ≤ x9 ∧ x9 < (a0.Lengths.length : Int)) ∧ True ∧ True ∧ (((((.flt .f32 ((v4.getD x9.toNat default).sub (a0.Lengths.getD x9.toNat default)).bits) : C) = (.flt .f32 ((v4.getD x9.toNat default).sub (a0.Lengths.getD x9.toNat default)).bits)) ∧ True) ∧ CallOK Try.prog 19 [.one (.flt .f32 ((v4.getD x9.toNat default).sub (a0.Lengths.getD x9.toNat default)).bits)] [.one (.flt .f32 v13.bits)]) ∧ (((((.flt .f32 x8.bits) : C) = (.flt .f32 x8.bits)) ∧ (((.flt .f32 v13.bits) : C) = (.flt .f32 v13.bits)) ∧ True) ∧ CallOK Try.prog 18 [.one (.flt .f32 x8.bits), .one (.flt .f32 v13.bits)] [.one (.flt .f32 v15.bits)]) ∧ True ∧ True) (by kernel_rfl) ⟨trivial, trivial, trivial, trivial, trivial, c12, trivial, trivial, ⟨⟨rfl, trivial⟩, ok_impl_size K ((v4.getD x9.toNat default).sub (a0.Lengths.getD x9.toNat default)) v13 e14⟩, ⟨⟨rfl, rfl, trivial⟩, ok_impl_greater K x8 v13 v15 e16⟩, trivial, trivial⟩ ?_
      refine blockQ_normal ?_
      refine thenQ_normal ?_
      refine AW.regionA [] [1, 4, 12, 13, 14] [1, 2] (s' := ⟨[(1, (.v (.one (.ptr 1 0)))), (4, (.v (.one (.c (.flt .f32 v15.bits))))), (12, (.v (.one (.lst 2 v4.length 1 (gl (csF .f32) v4))))), (13, (.v (.one (.c (.int .i64 (v4.length : Int)))))), (14, (.v (.one (.c (.int .i64 (IntKind.i64.wrap (x9 + (1 : Int))))))))], [(1, (.box [(.c (sl 3 cs_Vector a0.Points)), (.c (sl 3 cs_Vector a0.Before)), (.c (sl 1 csB a0.Fixed)), (.c (sl 1 (csF .f32) a0.Lengths)), (.c (.flt .f32 a0.Fall.X.bits)), (.c (.flt .f32 a0.Fall.Y.bits)), (.c (.flt .f32 a0.Fall.Z.bits)), (.c (.flt .f32 a0.Damp.bits)), (.c (.int .i64 a0.Passes))])), (2, (.lst v4.length 1 (gl (csF .f32) v4)))]⟩) (ob := True ∧ True ∧ True) (by kernel_rfl) ⟨trivial, trivial, trivial⟩ ?_
      exact loopQ_normal (k, v15, (IntKind.i64.wrap (x9 + (1 : Int)))) h (Nat.lt_succ_self k) (Sub.keep [1, 4, 12, 13, 14] [1, 2] (by kernel_rfl) (by kernel_rfl))
    · refine AW.cond_f rfl b10 ?_
      refine AW.exit ?_
      refine thenQ_exit ?_
      refine loopQ_exit ?_
      refine blockQ_exit ?_
      refine thenQ_normal ?_
      refine AW.seq ?_
      refine AW.regionA [] [2, 3] [] (s' := ⟨[(2, (.v (.one (.c (.flt .f32 x8.bits))))), (3, (.v (.one (.c (.bool true)))))], []⟩) (ob := True ∧ True ∧ True ∧ True) (by kernel_rfl) ⟨trivial, trivial, trivial, trivial⟩ ?_
      refine thenQ_normal ?_
      refine AW.ret ?_
      replace h := some_eq h
      subst h
      exact ⟨.inr rfl, retOK_of [(.one (.c (.flt .f32 x8.bits))), (.one (.c (.bool true)))] (by kernel_rfl) ⟨⟨rfl, trivial⟩, ⟨rfl, trivial⟩, trivial⟩ (of_decide_eq_true (by kernel_rfl))⟩

/-! math.Float64bits -/
def math_Float64bits (_K : Nat) (a0 : F64) : Option (Int) :=
  a0.toBits

theorem ok_math_Float64bits (K : Nat) (a0 : F64) (o : Int) (h : math_Float64bits K a0 = some o) : CallOK Try.prog 39 [.one (.flt .f64 a0.bits)] [.one (.int .u64 o)] :=
  hand_toBits (e := Extern.MathFloatBits.float64bits) Try.func39 (by kernel_rfl) (by kernel_rfl) (by kernel_rfl) (by kernel_rfl) (fun _ _ => rfl) a0 o h

/-! math.Signbit -/
def math_Signbit (K : Nat) (a0 : F64) : Option (Bool) :=
  (math_Float64bits K a0).bind fun v1 => some (decide ((IntKind.i64.wrap v1) < (0 : Int)))

theorem ok_math_Signbit (K : Nat) (a0 : F64) (o : (Bool)) (h : math_Signbit K a0 = some o) : CallOK Try.prog 32 [.one (.flt .f64 a0.bits)] [.one (.bool o)] := by
  refine callOK_of_AW Try.func32 rfl (by kernel_rfl) (Nat.le_of_ble_eq_true (by kernel_rfl)) ?_
  intro w0
  unfold math_Signbit at h
  refine AW.seq ?_
  refine AW.regionA [] [0] [] (s' := ⟨[(0, (.v (.one (.c (.flt .f64 a0.bits)))))], []⟩) (ob := True ∧ True) (by kernel_rfl) ⟨trivial, trivial⟩ ?_
  refine thenQ_normal ?_
  refine AW.seq ?_
  obtain ⟨v1, e2, h⟩ := bind_some h
  refine AW.regionA [.no, .call [.one (.flt .f64 a0.bits)] [.one (.int .u64 v1)] [[.view]]] [2] [] (s' := ⟨[(2, (.v (.one (.c (.bool (decide ((IntKind.i64.wrap v1) < (0 : Int))))))))], []⟩) (ob := True ∧ (((((.flt .f64 a0.bits) : C) = (.flt .f64 a0.bits)) ∧ True) ∧ CallOK Try.prog 39 [.one (.flt .f64 a0.bits)] [.one (.int .u64 v1)]) ∧ True ∧ True ∧ True ∧ True) (by kernel_rfl) ⟨trivial, ⟨⟨rfl, trivial⟩, ok_math_Float64bits K a0 v1 e2⟩, trivial, trivial, trivial, trivial⟩ ?_
  refine thenQ_normal ?_
  refine AW.ret ?_
  replace h := some_eq h
  subst h
  exact ⟨.inr rfl, retOK_of [(.one (.c (.bool (decide ((IntKind.i64.wrap v1) < (0 : Int))))))] (by kernel_rfl) ⟨⟨rfl, trivial⟩, trivial⟩ (of_decide_eq_true (by kernel_rfl))⟩

/-! impl.SameNumber -/
def impl_SameNumber (K : Nat) (a0 : F32) (a1 : F32) : Option (Bool) :=
  (ite2 ((a0.ne a0)) (some true) (some (a1.ne a1))).bind fun j2 => ite2 (j2) ((ite2 ((a0.ne a0)) (some (a1.ne a1)) (some false)).bind fun j6 => some j6) ((ite2 ((a0.eq a1)) ((math_Signbit K (Fl.cv .f32 .f64 a0)).bind fun v9 => (math_Signbit K (Fl.cv .f32 .f64 a1)).bind fun v11 => some (v9 == v11)) (some false)).bind fun j13 => some j13)

theorem ok_impl_SameNumber (K : Nat) (a0 : F32) (a1 : F32) (o : (Bool)) (h : impl_SameNumber K a0 a1 = some o) : CallOK Try.prog 20 [.one (.flt .f32 a0.bits), .one (.flt .f32 a1.bits)] [.one (.bool o)] := by
  refine callOK_of_AW Try.func20 rfl (by kernel_rfl) (Nat.le_of_ble_eq_true (by kernel_rfl)) ?_
  intro w0
  unfold impl_SameNumber at h
  refine AW.seq ?_
  refine AW.regionA [] [0, 1] [] (s' := ⟨[(0, (.v (.one (.c (.flt .f32 a0.bits))))), (1, (.v (.one (.c (.flt .f32 a1.bits)))))], []⟩) (ob := True ∧ True) (by kernel_rfl) ⟨trivial, trivial⟩ ?_
  refine thenQ_normal ?_
  refine AW.seq ?_
  refine AW.seq ?_
  obtain ⟨j2, e3, h⟩ := bind_some h
  refine AW.join1 (s2 := ⟨[(0, (.v (.one (.c (.flt .f32 a0.bits))))), (1, (.v (.one (.c (.flt .f32 a1.bits))))), (12, (.v (.one (.c (.bool j2)))))], []⟩) ?_ ?_
  · rcases ite2_cases e3 with ⟨b1, e3⟩ | ⟨b1, e3⟩
    · replace e3 := some_eq e3
      subst e3
      exact AW.regionA [.no, .no, .no, .dec true] [0, 1, 12] [] (s' := ⟨[(0, (.v (.one (.c (.flt .f32 a0.bits))))), (1, (.v (.one (.c (.flt .f32 a1.bits))))), (12, (.v (.one (.c (.bool true)))))], []⟩) (ob := True ∧ True ∧ True ∧ (True ∧ (a0.ne a0) = true) ∧ True ∧ True ∧ True ∧ True ∧ True) (by kernel_rfl) ⟨trivial, trivial, trivial, ⟨trivial, b1⟩, trivial, trivial, trivial, trivial, trivial⟩ ⟨rfl, rfl⟩
    · replace e3 := some_eq e3
      subst e3
      exact AW.regionA [.no, .no, .no, .dec false] [0, 1, 12] [] (s' := ⟨[(0, (.v (.one (.c (.flt .f32 a0.bits))))), (1, (.v (.one (.c (.flt .f32 a1.bits))))), (12, (.v (.one (.c (.bool (a1.ne a1))))))], []⟩) (ob := True ∧ True ∧ True ∧ (True ∧ (a0.ne a0) = false) ∧ True ∧ True ∧ True ∧ True ∧ True) (by kernel_rfl) ⟨trivial, trivial, trivial, ⟨trivial, b1⟩, trivial, trivial, trivial, trivial, trivial⟩ ⟨rfl, rfl⟩
  refine thenQ_normal ?_
  rcases ite2_cases h with ⟨b4, h⟩ | ⟨b4, h⟩
  · refine AW.cond_t rfl b4 ?_
    refine AW.seq ?_
    obtain ⟨j6, e7, h⟩ := bind_some h
    refine AW.join1 (s2 := ⟨[(4, (.v (.one (.c (.bool j6)))))], []⟩) ?_ ?_
    · rcases ite2_cases e7 with ⟨b5, e7⟩ | ⟨b5, e7⟩
      · replace e7 := some_eq e7
        subst e7
        exact AW.regionA [.no, .no, .no, .dec true] [4] [] (s' := ⟨[(4, (.v (.one (.c (.bool (a1.ne a1))))))], []⟩) (ob := True ∧ True ∧ True ∧ (True ∧ (a0.ne a0) = true) ∧ True ∧ True ∧ True ∧ True ∧ True ∧ True) (by kernel_rfl) ⟨trivial, trivial, trivial, ⟨trivial, b5⟩, trivial, trivial, trivial, trivial, trivial, trivial⟩ ⟨rfl, rfl⟩
      · replace e7 := some_eq e7
        subst e7
        exact AW.regionA [.no, .no, .no, .dec false] [4] [] (s' := ⟨[(4, (.v (.one (.c (.bool false)))))], []⟩) (ob := True ∧ True ∧ True ∧ (True ∧ (a0.ne a0) = false) ∧ True ∧ True ∧ True ∧ True ∧ True ∧ True) (by kernel_rfl) ⟨trivial, trivial, trivial, ⟨trivial, b5⟩, trivial, trivial, trivial, trivial, trivial, trivial⟩ ⟨rfl, rfl⟩
    refine thenQ_normal ?_
    refine AW.ret ?_
    refine thenQ_ret ?_
    replace h := some_eq h
    subst h
    exact ⟨.inr rfl, retOK_of [(.one (.c (.bool j6)))] (by kernel_rfl) ⟨⟨rfl, trivial⟩, trivial⟩ (of_decide_eq_true (by kernel_rfl))⟩
  · refine AW.cond_f rfl b4 ?_
    refine AW.skip ?_
    refine thenQ_normal ?_
    refine AW.seq ?_
    obtain ⟨j13, e14, h⟩ := bind_some h
    refine AW.join1 (s2 := ⟨[(4, (.v (.one (.c (.bool j13)))))], []⟩) ?_ ?_
    · rcases ite2_cases e14 with ⟨b8, e14⟩ | ⟨b8, e14⟩
      · obtain ⟨v9, e10, e14⟩ := bind_some e14
        obtain ⟨v11, e12, e14⟩ := bind_some e14
        replace e14 := some_eq e14
        subst e14
        exact AW.regionA [.no, .no, .no, .dec true, .no, .no, .call [.one (.flt .f64 (Fl.cv .f32 .f64 a0).bits)] [.one (.bool v9)] [[.view]], .no, .no, .call [.one (.flt .f64 (Fl.cv .f32 .f64 a1).bits)] [.one (.bool v11)] [[.view]]] [4] [] (s' := ⟨[(4, (.v (.one (.c (.bool (v9 == v11))))))], []⟩) (ob := True ∧ True ∧ True ∧ (True ∧ (a0.eq a1) = true) ∧ True ∧ ((convBits .f32 a0.bits .f64).isSome = true) ∧ (((((.flt .f64 (Fl.cv .f32 .f64 a0).bits) : C) = (.flt .f64 (Fl.cv .f32 .f64 a0).bits)) ∧ True) ∧ CallOK Try.prog 32 [.one (.flt .f64 (Fl.cv .f32 .f64 a0).bits)] [.one (.bool v9)]) ∧ True ∧ ((convBits .f32 a1.bits .f64).isSome = true) ∧ (((((.flt .f64 (Fl.cv .f32 .f64 a1).bits) : C) = (.flt .f64 (Fl.cv .f32 .f64 a1).bits)) ∧ True) ∧ CallOK Try.prog 32 [.one (.flt .f64 (Fl.cv .f32 .f64 a1).bits)] [.one (.bool v11)]) ∧ True ∧ True ∧ True ∧ True) (by kernel_rfl) ⟨trivial, trivial, trivial, ⟨trivial, b8⟩, trivial, cv_wide a0, ⟨⟨rfl, trivial⟩, ok_math_Signbit K (Fl.cv .f32 .f64 a0) v9 e10⟩, trivial, cv_wide a1, ⟨⟨rfl, trivial⟩, ok_math_Signbit K (Fl.cv .f32 .f64 a1) v11 e12⟩, trivial, trivial, trivial, trivial⟩ ⟨rfl, rfl⟩
      · replace e14 := some_eq e14
        subst e14
        exact AW.regionA [.no, .no, .no, .dec false] [4] [] (s' := ⟨[(4, (.v (.one (.c (.bool false)))))], []⟩) (ob := True ∧ True ∧ True ∧ (True ∧ (a0.eq a1) = false) ∧ True ∧ True ∧ True ∧ True ∧ True ∧ True ∧ True ∧ True ∧ True ∧ True) (by kernel_rfl) ⟨trivial, trivial, trivial, ⟨trivial, b8⟩, trivial, trivial, trivial, trivial, trivial, trivial, trivial, trivial, trivial, trivial⟩ ⟨rfl, rfl⟩
    refine thenQ_normal ?_
    refine AW.ret ?_
    replace h := some_eq h
    subst h
    exact ⟨.inr rfl, retOK_of [(.one (.c (.bool j13)))] (by kernel_rfl) ⟨⟨rfl, trivial⟩, trivial⟩ (of_decide_eq_true (by kernel_rfl))⟩

/-! impl.SameVector -/
def impl_SameVector (K : Nat) (a0 : Vector) (a1 : Vector) : Option (Bool) :=
  (impl_SameNumber K a0.X a1.X).bind fun v1 => (ite2 (v1) ((impl_SameNumber K a0.Y a1.Y).bind fun v4 => ite2 (v4) ((impl_SameNumber K a0.Z a1.Z).bind fun v7 => some v7) (some false)) (some false)).bind fun j9 => some j9

theorem ok_impl_SameVector (K : Nat) (a0 : Vector) (a1 : Vector) (o : (Bool)) (h : impl_SameVector K a0 a1 = some o) : CallOK Try.prog 10 [.agg (cs_Vector a0), .agg (cs_Vector a1)] [.one (.bool o)] := by
  refine callOK_of_AW Try.func10 rfl (by kernel_rfl) (Nat.le_of_ble_eq_true (by kernel_rfl)) ?_
  intro w0
  unfold impl_SameVector at h
  refine AW.seq ?_
  refine AW.regionA [.box 1, .box 2] [2, 3] [1, 2] (s' := ⟨[(2, (.v (.one (.ptr 1 0)))), (3, (.v (.one (.ptr 2 0))))], [(1, (.box [(.c (.flt .f32 a0.X.bits)), (.c (.flt .f32 a0.Y.bits)), (.c (.flt .f32 a0.Z.bits))])), (2, (.box [(.c (.flt .f32 a1.X.bits)), (.c (.flt .f32 a1.Y.bits)), (.c (.flt .f32 a1.Z.bits))]))]⟩) (ob := True ∧ True ∧ True ∧ True) (by kernel_rfl) ⟨trivial, trivial, trivial, trivial⟩ ?_
  refine thenQ_normal ?_
  refine AW.seq ?_
  obtain ⟨v1, e2, h⟩ := bind_some h
  obtain ⟨j9, e10, h⟩ := bind_some h
  refine AW.join1 (s2 := ⟨[(4, (.v (.one (.c (.bool j9)))))], []⟩) ?_ ?_
  · rcases ite2_cases e10 with ⟨b3, e10⟩ | ⟨b3, e10⟩
    · obtain ⟨v4, e5, e10⟩ := bind_some e10
      rcases ite2_cases e10 with ⟨b6, e10⟩ | ⟨b6, e10⟩
      · obtain ⟨v7, e8, e10⟩ := bind_some e10
        replace e10 := some_eq e10
        subst e10
        exact AW.regionA [.no, .no, .no, .no, .call [.one (.flt .f32 a0.X.bits), .one (.flt .f32 a1.X.bits)] [.one (.bool v1)] [[.view]], .dec true, .no, .no, .no, .no, .call [.one (.flt .f32 a0.Y.bits), .one (.flt .f32 a1.Y.bits)] [.one (.bool v4)] [[.view]], .no, .dec true, .no, .no, .no, .no, .call [.one (.flt .f32 a0.Z.bits), .one (.flt .f32 a1.Z.bits)] [.one (.bool v7)] [[.view]]] [4] [] (s' := ⟨[(4, (.v (.one (.c (.bool v7)))))], []⟩) (ob := True ∧ True ∧ True ∧ True ∧ (((((.flt .f32 a0.X.bits) : C) = (.flt .f32 a0.X.bits)) ∧ (((.flt .f32 a1.X.bits) : C) = (.flt .f32 a1.X.bits)) ∧ True) ∧ CallOK Try.prog 20 [.one (.flt .f32 a0.X.bits), .one (.flt .f32 a1.X.bits)] [.one (.bool v1)]) ∧ (True ∧ v1 = true) ∧ True ∧ True ∧ True ∧ True ∧ (((((.flt .f32 a0.Y.bits) : C) = (.flt .f32 a0.Y.bits)) ∧ (((.flt .f32 a1.Y.bits) : C) = (.flt .f32 a1.Y.bits)) ∧ True) ∧ CallOK Try.prog 20 [.one (.flt .f32 a0.Y.bits), .one (.flt .f32 a1.Y.bits)] [.one (.bool v4)]) ∧ True ∧ (True ∧ v4 = true) ∧ True ∧ True ∧ True ∧ True ∧ (((((.flt .f32 a0.Z.bits) : C) = (.flt .f32 a0.Z.bits)) ∧ (((.flt .f32 a1.Z.bits) : C) = (.flt .f32 a1.Z.bits)) ∧ True) ∧ CallOK Try.prog 20 [.one (.flt .f32 a0.Z.bits), .one (.flt .f32 a1.Z.bits)] [.one (.bool v7)]) ∧ True ∧ True ∧ True) (by kernel_rfl) ⟨trivial, trivial, trivial, trivial, ⟨⟨rfl, rfl, trivial⟩, ok_impl_SameNumber K a0.X a1.X v1 e2⟩, ⟨trivial, b3⟩, trivial, trivial, trivial, trivial, ⟨⟨rfl, rfl, trivial⟩, ok_impl_SameNumber K a0.Y a1.Y v4 e5⟩, trivial, ⟨trivial, b6⟩, trivial, trivial, trivial, trivial, ⟨⟨rfl, rfl, trivial⟩, ok_impl_SameNumber K a0.Z a1.Z v7 e8⟩, trivial, trivial, trivial⟩ ⟨rfl, rfl⟩
      · replace e10 := some_eq e10
        subst e10
        exact AW.regionA [.no, .no, .no, .no, .call [.one (.flt .f32 a0.X.bits), .one (.flt .f32 a1.X.bits)] [.one (.bool v1)] [[.view]], .dec true, .no, .no, .no, .no, .call [.one (.flt .f32 a0.Y.bits), .one (.flt .f32 a1.Y.bits)] [.one (.bool v4)] [[.view]], .no, .dec false] [4] [] (s' := ⟨[(4, (.v (.one (.c (.bool false)))))], []⟩) (ob := True ∧ True ∧ True ∧ True ∧ (((((.flt .f32 a0.X.bits) : C) = (.flt .f32 a0.X.bits)) ∧ (((.flt .f32 a1.X.bits) : C) = (.flt .f32 a1.X.bits)) ∧ True) ∧ CallOK Try.prog 20 [.one (.flt .f32 a0.X.bits), .one (.flt .f32 a1.X.bits)] [.one (.bool v1)]) ∧ (True ∧ v1 = true) ∧ True ∧ True ∧ True ∧ True ∧ (((((.flt .f32 a0.Y.bits) : C) = (.flt .f32 a0.Y.bits)) ∧ (((.flt .f32 a1.Y.bits) : C) = (.flt .f32 a1.Y.bits)) ∧ True) ∧ CallOK Try.prog 20 [.one (.flt .f32 a0.Y.bits), .one (.flt .f32 a1.Y.bits)] [.one (.bool v4)]) ∧ True ∧ (True ∧ v4 = false) ∧ True ∧ True ∧ True ∧ True ∧ True ∧ True ∧ True ∧ True) (by kernel_rfl) ⟨trivial, trivial, trivial, trivial, ⟨⟨rfl, rfl, trivial⟩, ok_impl_SameNumber K a0.X a1.X v1 e2⟩, ⟨trivial, b3⟩, trivial, trivial, trivial, trivial, ⟨⟨rfl, rfl, trivial⟩, ok_impl_SameNumber K a0.Y a1.Y v4 e5⟩, trivial, ⟨trivial, b6⟩, trivial, trivial, trivial, trivial, trivial, trivial, trivial, trivial⟩ ⟨rfl, rfl⟩
    · replace e10 := some_eq e10
      subst e10
      exact AW.regionA [.no, .no, .no, .no, .call [.one (.flt .f32 a0.X.bits), .one (.flt .f32 a1.X.bits)] [.one (.bool v1)] [[.view]], .dec false] [4] [] (s' := ⟨[(4, (.v (.one (.c (.bool false)))))], []⟩) (ob := True ∧ True ∧ True ∧ True ∧ (((((.flt .f32 a0.X.bits) : C) = (.flt .f32 a0.X.bits)) ∧ (((.flt .f32 a1.X.bits) : C) = (.flt .f32 a1.X.bits)) ∧ True) ∧ CallOK Try.prog 20 [.one (.flt .f32 a0.X.bits), .one (.flt .f32 a1.X.bits)] [.one (.bool v1)]) ∧ (True ∧ v1 = false) ∧ True ∧ True ∧ True ∧ True ∧ True ∧ True ∧ True ∧ True ∧ True ∧ True ∧ True ∧ True ∧ True ∧ True ∧ True) (by kernel_rfl) ⟨trivial, trivial, trivial, trivial, ⟨⟨rfl, rfl, trivial⟩, ok_impl_SameNumber K a0.X a1.X v1 e2⟩, ⟨trivial, b3⟩, trivial, trivial, trivial, trivial, trivial, trivial, trivial, trivial, trivial, trivial, trivial, trivial, trivial, trivial, trivial⟩ ⟨rfl, rfl⟩
  refine thenQ_normal ?_
  refine AW.ret ?_
  replace h := some_eq h
  subst h
  exact ⟨.inr rfl, retOK_of [(.one (.c (.bool j9)))] (by kernel_rfl) ⟨⟨rfl, trivial⟩, trivial⟩ (of_decide_eq_true (by kernel_rfl))⟩

/-! laws.FnLaid -/
def laws_FnLaid_l2 (K : Nat) (v4 : (String)) (v10 : ((List F32) × Bool)) (v12 : (F32 × Bool)) : Nat → Bool → Int → Option (Bool)
  | 0, _, _ => none
  | k + 1, x36, x37 => ite2 ((decide (x37 < (v10.1.length : Int)))) (chk (0 ≤ x37 ∧ x37 < (v10.1.length : Int)) (chk (0 ≤ x37 ∧ x37 < (v4.Lengths.length : Int)) ((ite2 ((((v10.1.getD x37.toNat default).sub (v4.Lengths.getD x37.toNat default)).gt v12.1)) (some true) (some ((((v10.1.getD x37.toNat default).sub (v4.Lengths.getD x37.toNat default)).neg).gt v12.1))).bind fun j42 => ite2 (j42) (some false) ((ite2 (x36) (some true) (ite2 ((((v10.1.getD x37.toNat default).sub (v4.Lengths.getD x37.toNat default)).eq v12.1)) (some true) (some ((((v10.1.getD x37.toNat default).sub (v4.Lengths.getD x37.toNat default)).neg).eq v12.1)))).bind fun j47 => laws_FnLaid_l2 K v4 v10 v12 k j47 (IntKind.i64.wrap (x37 + (1 : Int))))))) (some x36)

def laws_FnLaid_l1 (K : Nat) (v4 : (String)) (v6 : (Int)) (v8 : (String × Bool)) (v10 : ((List F32) × Bool)) (v12 : (F32 × Bool)) : Nat → Int → Option (Bool)
  | 0, _ => none
  | k + 1, x23 => ite2 ((decide (x23 < (v4.Points.length : Int)))) (chk (0 ≤ x23 ∧ x23 < (v8.1.Points.length : Int)) ((ite2 ((((v8.1.Points.getD x23.toNat default).Y).lt' ((Fl.ofInt .f32 (IntKind.i64.wrap (v6 - (8 : Int)))).div (Fl.mk (k := .f32) 1082130432 (by decide))))) (some true) (chk (0 ≤ x23 ∧ x23 < (v4.Points.length : Int)) (ite2 ((((v4.Points.getD x23.toNat default).Y).ge ((Fl.ofInt .f32 (IntKind.i64.wrap (v6 - (8 : Int)))).div (Fl.mk (k := .f32) 1082130432 (by decide))))) ((impl_SameVector K (v8.1.Points.getD x23.toNat default) (v4.Points.getD x23.toNat default)).bind fun v29 => some (!v29)) (some false)))).bind fun j31 => ite2 (j31) (some false) (laws_FnLaid_l1 K v4 v6 v8 v10 v12 k (IntKind.i64.wrap (x23 + (1 : Int)))))) (laws_FnLaid_l2 K v4 v10 v12 K (v12.1.eq (Fl.mk (k := .f32) 0 (by decide))) (0 : Int))

def laws_FnLaid (K : Nat) (a0 : (List Int)) (a1 : (List Int)) : Option (Bool) :=
  (laws_r8Long K a0 a1).bind fun v1 => ite2 (v1) (some true) ((spec_R8String K a0).bind fun v4 => (laws_r8At K a1 (0 : Int) (17 : Int)).bind fun v6 => (impl_LayString K v4 ((Fl.ofInt .f32 (IntKind.i64.wrap (v6 - (8 : Int)))).div (Fl.mk (k := .f32) 1082130432 (by decide)))).bind fun v8 => (impl_PointLengths K v4.Points).bind fun v10 => (impl_StretchOf K v4).bind fun v12 => (ite2 ((!v8.2)) (some true) (ite2 ((!v10.2)) (some true) (ite2 ((!v12.2)) (some true) (ite2 (((v8.1.Points.length : Int) != (v4.Points.length : Int))) (some true) (ite2 (((v10.1.length : Int) != (v4.Lengths.length : Int))) (some true) (some (!(v12.1.ge (Fl.mk (k := .f32) 0 (by decide)))))))))).bind fun j19 => ite2 (j19) (some false) (laws_FnLaid_l1 K v4 v6 v8 v10 v12 K (0 : Int)))

theorem ok_laws_FnLaid (K : Nat) (a0 : (List Int)) (a1 : (List Int)) (o : (Bool)) (h : laws_FnLaid K a0 a1 = some o) : CallOK Try.prog 3 [.one (sl 1 (csI .u8) a0), .one (sl 1 (csI .u8) a1)] [.one (.bool o)] := by
  refine callOK_of_AW Try.func3 rfl (by kernel_rfl) (Nat.le_of_ble_eq_true (by kernel_rfl)) ?_
  intro w0
  unfold laws_FnLaid at h
  refine AW.seq ?_
  refine AW.regionA [] [0, 1] [] (s' := ⟨[(0, (.v (.one (.c (sl 1 (csI .u8) a0))))), (1, (.v (.one (.c (sl 1 (csI .u8) a1)))))], []⟩) (ob := True ∧ True) (by kernel_rfl) ⟨trivial, trivial⟩ ?_
  refine thenQ_normal ?_
  refine AW.seq ?_
  refine AW.seq ?_
  obtain ⟨v1, e2, h⟩ := bind_some h
  refine AW.regionA [.no, .no, .call [.one (sl 1 (csI .u8) a0), .one (sl 1 (csI .u8) a1)] [.one (.bool v1)] [[.view]]] [0, 1, 19] [] (s' := ⟨[(0, (.v (.one (.c (sl 1 (csI .u8) a0))))), (1, (.v (.one (.c (sl 1 (csI .u8) a1))))), (19, (.v (.one (.c (.bool v1)))))], []⟩) (ob := True ∧ True ∧ (((((sl 1 (csI .u8) a0) : C) = (sl 1 (csI .u8) a0)) ∧ (((sl 1 (csI .u8) a1) : C) = (sl 1 (csI .u8) a1)) ∧ True) ∧ CallOK Try.prog 4 [.one (sl 1 (csI .u8) a0), .one (sl 1 (csI .u8) a1)] [.one (.bool v1)]) ∧ True) (by kernel_rfl) ⟨trivial, trivial, ⟨⟨rfl, rfl, trivial⟩, ok_laws_r8Long K a0 a1 v1 e2⟩, trivial⟩ ?_
  refine thenQ_normal ?_
  rcases ite2_cases h with ⟨b3, h⟩ | ⟨b3, h⟩
  · refine AW.cond_t rfl b3 ?_
    refine AW.seq ?_
    refine AW.regionA [] [4] [] (s' := ⟨[(4, (.v (.one (.c (.bool true)))))], []⟩) (ob := True ∧ True) (by kernel_rfl) ⟨trivial, trivial⟩ ?_
    refine thenQ_normal ?_
    refine AW.ret ?_
    refine thenQ_ret ?_
    replace h := some_eq h
    subst h
    exact ⟨.inr rfl, retOK_of [(.one (.c (.bool true)))] (by kernel_rfl) ⟨⟨rfl, trivial⟩, trivial⟩ (of_decide_eq_true (by kernel_rfl))⟩
  · refine AW.cond_f rfl b3 ?_
    refine AW.skip ?_
    refine thenQ_normal ?_
    refine AW.seq ?_
    obtain ⟨v4, e5, h⟩ := bind_some h
    refine AW.regionA [.no, .call [.one (sl 1 (csI .u8) a0)] [.agg (cs_String v4)] [[.lst 1, .lst 2, .lst 3, .lst 4, .view, .view, .view, .view, .view]], .box 5] [1, 5] [1, 2, 3, 4, 5] (s' := ⟨[(1, (.v (.one (.c (sl 1 (csI .u8) a1))))), (5, (.v (.one (.ptr 5 0))))], [(1, (.lst v4.Points.length 3 (gl cs_Vector v4.Points))), (2, (.lst v4.Before.length 3 (gl cs_Vector v4.Before))), (3, (.lst v4.Fixed.length 1 (gl csB v4.Fixed))), (4, (.lst v4.Lengths.length 1 (gl (csF .f32) v4.Lengths))), (5, (.box [(.lst 1 v4.Points.length 3 (gl cs_Vector v4.Points)), (.lst 2 v4.Before.length 3 (gl cs_Vector v4.Before)), (.lst 3 v4.Fixed.length 1 (gl csB v4.Fixed)), (.lst 4 v4.Lengths.length 1 (gl (csF .f32) v4.Lengths)), (.c (.flt .f32 v4.Fall.X.bits)), (.c (.flt .f32 v4.Fall.Y.bits)), (.c (.flt .f32 v4.Fall.Z.bits)), (.c (.flt .f32 v4.Damp.bits)), (.c (.int .i64 v4.Passes))]))]⟩) (ob := True ∧ (((((sl 1 (csI .u8) a0) : C) = (sl 1 (csI .u8) a0)) ∧ True) ∧ CallOK Try.prog 5 [.one (sl 1 (csI .u8) a0)] [.agg (cs_String v4)]) ∧ True ∧ True ∧ True) (by kernel_rfl) ⟨trivial, ⟨⟨rfl, trivial⟩, ok_spec_R8String K a0 v4 e5⟩, trivial, trivial, trivial⟩ ?_
    refine thenQ_normal ?_
    refine AW.seq ?_
    obtain ⟨v6, e7, h⟩ := bind_some h
    refine AW.regionA [.no, .call [.one (sl 1 (csI .u8) a1), .one (.int .i64 (0 : Int)), .one (.int .i64 (17 : Int))] [.one (.int .i64 v6)] [[.view]]] [5, 6] [1, 2, 3, 4, 5] (s' := ⟨[(5, (.v (.one (.ptr 5 0)))), (6, (.v (.one (.c (.flt .f32 ((Fl.ofInt .f32 (IntKind.i64.wrap (v6 - (8 : Int)))).div (Fl.mk (k := .f32) 1082130432 (by decide))).bits)))))], [(1, (.lst v4.Points.length 3 (gl cs_Vector v4.Points))), (2, (.lst v4.Before.length 3 (gl cs_Vector v4.Before))), (3, (.lst v4.Fixed.length 1 (gl csB v4.Fixed))), (4, (.lst v4.Lengths.length 1 (gl (csF .f32) v4.Lengths))), (5, (.box [(.lst 1 v4.Points.length 3 (gl cs_Vector v4.Points)), (.lst 2 v4.Before.length 3 (gl cs_Vector v4.Before)), (.lst 3 v4.Fixed.length 1 (gl csB v4.Fixed)), (.lst 4 v4.Lengths.length 1 (gl (csF .f32) v4.Lengths)), (.c (.flt .f32 v4.Fall.X.bits)), (.c (.flt .f32 v4.Fall.Y.bits)), (.c (.flt .f32 v4.Fall.Z.bits)), (.c (.flt .f32 v4.Damp.bits)), (.c (.int .i64 v4.Passes))]))]⟩) (ob := True ∧ (((((sl 1 (csI .u8) a1) : C) = (sl 1 (csI .u8) a1)) ∧ (((.int .i64 (0 : Int)) : C) = (.int .i64 (0 : Int))) ∧ (((.int .i64 (17 : Int)) : C) = (.int .i64 (17 : Int))) ∧ True) ∧ CallOK Try.prog 6 [.one (sl 1 (csI .u8) a1), .one (.int .i64 (0 : Int)), .one (.int .i64 (17 : Int))] [.one (.int .i64 v6)]) ∧ True ∧ True ∧ True ∧ True ∧ True) (by kernel_rfl) ⟨trivial, ⟨⟨rfl, rfl, rfl, trivial⟩, ok_laws_r8At K a1 (0 : Int) (17 : Int) v6 e7⟩, trivial, trivial, trivial, trivial, trivial⟩ ?_
    refine thenQ_normal ?_
    refine AW.seq ?_
    obtain ⟨v8, e9, h⟩ := bind_some h
    refine AW.regionA [.no, .no, .call [.agg (cs_String v4), .one (.flt .f32 ((Fl.ofInt .f32 (IntKind.i64.wrap (v6 - (8 : Int)))).div (Fl.mk (k := .f32) 1082130432 (by decide))).bits)] [.agg (cs_String v8.1), .one (.bool v8.2)] [[.lst 6, .lst 7, .lst 8, .lst 9, .view, .view, .view, .view, .view], [.view]], .no, .no, .no, .box 10] [5, 6, 7, 8] [1, 2, 3, 4, 5, 6, 7, 8, 9, 10] (s' := ⟨[(5, (.v (.one (.ptr 5 0)))), (6, (.v (.one (.c (.flt .f32 ((Fl.ofInt .f32 (IntKind.i64.wrap (v6 - (8 : Int)))).div (Fl.mk (k := .f32) 1082130432 (by decide))).bits))))), (7, (.v (.one (.ptr 10 0)))), (8, (.v (.one (.c (.bool v8.2)))))], [(1, (.lst v4.Points.length 3 (gl cs_Vector v4.Points))), (2, (.lst v4.Before.length 3 (gl cs_Vector v4.Before))), (3, (.lst v4.Fixed.length 1 (gl csB v4.Fixed))), (4, (.lst v4.Lengths.length 1 (gl (csF .f32) v4.Lengths))), (5, (.box [(.lst 1 v4.Points.length 3 (gl cs_Vector v4.Points)), (.lst 2 v4.Before.length 3 (gl cs_Vector v4.Before)), (.lst 3 v4.Fixed.length 1 (gl csB v4.Fixed)), (.lst 4 v4.Lengths.length 1 (gl (csF .f32) v4.Lengths)), (.c (.flt .f32 v4.Fall.X.bits)), (.c (.flt .f32 v4.Fall.Y.bits)), (.c (.flt .f32 v4.Fall.Z.bits)), (.c (.flt .f32 v4.Damp.bits)), (.c (.int .i64 v4.Passes))])), (6, (.lst v8.1.Points.length 3 (gl cs_Vector v8.1.Points))), (7, (.lst v8.1.Before.length 3 (gl cs_Vector v8.1.Before))), (8, (.lst v8.1.Fixed.length 1 (gl csB v8.1.Fixed))), (9, (.lst v8.1.Lengths.length 1 (gl (csF .f32) v8.1.Lengths))), (10, (.box [(.lst 6 v8.1.Points.length 3 (gl cs_Vector v8.1.Points)), (.lst 7 v8.1.Before.length 3 (gl cs_Vector v8.1.Before)), (.lst 8 v8.1.Fixed.length 1 (gl csB v8.1.Fixed)), (.lst 9 v8.1.Lengths.length 1 (gl (csF .f32) v8.1.Lengths)), (.c (.flt .f32 v8.1.Fall.X.bits)), (.c (.flt .f32 v8.1.Fall.Y.bits)), (.c (.flt .f32 v8.1.Fall.Z.bits)), (.c (.flt .f32 v8.1.Damp.bits)), (.c (.int .i64 v8.1.Passes))]))]⟩) (ob := True ∧ True ∧ ((((((sl 3 cs_Vector v4.Points) : C) = (sl 3 cs_Vector v4.Points)) ∧ (((sl 3 cs_Vector v4.Before) : C) = (sl 3 cs_Vector v4.Before)) ∧ (((sl 1 csB v4.Fixed) : C) = (sl 1 csB v4.Fixed)) ∧ (((sl 1 (csF .f32) v4.Lengths) : C) = (sl 1 (csF .f32) v4.Lengths)) ∧ (((.flt .f32 v4.Fall.X.bits) : C) = (.flt .f32 v4.Fall.X.bits)) ∧ (((.flt .f32 v4.Fall.Y.bits) : C) = (.flt .f32 v4.Fall.Y.bits)) ∧ (((.flt .f32 v4.Fall.Z.bits) : C) = (.flt .f32 v4.Fall.Z.bits)) ∧ (((.flt .f32 v4.Damp.bits) : C) = (.flt .f32 v4.Damp.bits)) ∧ (((.int .i64 v4.Passes) : C) = (.int .i64 v4.Passes)) ∧ True) ∧ (((.flt .f32 ((Fl.ofInt .f32 (IntKind.i64.wrap (v6 - (8 : Int)))).div (Fl.mk (k := .f32) 1082130432 (by decide))).bits) : C) = (.flt .f32 ((Fl.ofInt .f32 (IntKind.i64.wrap (v6 - (8 : Int)))).div (Fl.mk (k := .f32) 1082130432 (by decide))).bits)) ∧ True) ∧ CallOK Try.prog 7 [.agg (cs_String v4), .one (.flt .f32 ((Fl.ofInt .f32 (IntKind.i64.wrap (v6 - (8 : Int)))).div (Fl.mk (k := .f32) 1082130432 (by decide))).bits)] [.agg (cs_String v8.1), .one (.bool v8.2)]) ∧ True ∧ True ∧ True ∧ True ∧ True ∧ True ∧ True) (by kernel_rfl) ⟨trivial, trivial, ⟨⟨⟨rfl, rfl, rfl, rfl, rfl, rfl, rfl, rfl, rfl, trivial⟩, rfl, trivial⟩, ok_impl_LayString K v4 ((Fl.ofInt .f32 (IntKind.i64.wrap (v6 - (8 : Int)))).div (Fl.mk (k := .f32) 1082130432 (by decide))) v8 e9⟩, trivial, trivial, trivial, trivial, trivial, trivial, trivial⟩ ?_
    refine thenQ_normal ?_
    refine AW.seq ?_
    obtain ⟨v10, e11, h⟩ := bind_some h
    refine AW.regionA [.no, .no, .call [.one (sl 3 cs_Vector v4.Points)] [.one (sl 1 (csF .f32) v10.1), .one (.bool v10.2)] [[.lst 11], [.view]]] [5, 6, 7, 8, 9, 10] [1, 2, 3, 4, 5, 6, 7, 8, 9, 10, 11] (s' := ⟨[(5, (.v (.one (.ptr 5 0)))), (6, (.v (.one (.c (.flt .f32 ((Fl.ofInt .f32 (IntKind.i64.wrap (v6 - (8 : Int)))).div (Fl.mk (k := .f32) 1082130432 (by decide))).bits))))), (7, (.v (.one (.ptr 10 0)))), (8, (.v (.one (.c (.bool v8.2))))), (9, (.v (.one (.lst 11 v10.1.length 1 (gl (csF .f32) v10.1))))), (10, (.v (.one (.c (.bool v10.2)))))], [(1, (.lst v4.Points.length 3 (gl cs_Vector v4.Points))), (2, (.lst v4.Before.length 3 (gl cs_Vector v4.Before))), (3, (.lst v4.Fixed.length 1 (gl csB v4.Fixed))), (4, (.lst v4.Lengths.length 1 (gl (csF .f32) v4.Lengths))), (5, (.box [(.lst 1 v4.Points.length 3 (gl cs_Vector v4.Points)), (.lst 2 v4.Before.length 3 (gl cs_Vector v4.Before)), (.lst 3 v4.Fixed.length 1 (gl csB v4.Fixed)), (.lst 4 v4.Lengths.length 1 (gl (csF .f32) v4.Lengths)), (.c (.flt .f32 v4.Fall.X.bits)), (.c (.flt .f32 v4.Fall.Y.bits)), (.c (.flt .f32 v4.Fall.Z.bits)), (.c (.flt .f32 v4.Damp.bits)), (.c (.int .i64 v4.Passes))])), (6, (.lst v8.1.Points.length 3 (gl cs_Vector v8.1.Points))), (7, (.lst v8.1.Before.length 3 (gl cs_Vector v8.1.Before))), (8, (.lst v8.1.Fixed.length 1 (gl csB v8.1.Fixed))), (9, (.lst v8.1.Lengths.length 1 (gl (csF .f32) v8.1.Lengths))), (10, (.box [(.lst 6 v8.1.Points.length 3 (gl cs_Vector v8.1.Points)), (.lst 7 v8.1.Before.length 3 (gl cs_Vector v8.1.Before)), (.lst 8 v8.1.Fixed.length 1 (gl csB v8.1.Fixed)), (.lst 9 v8.1.Lengths.length 1 (gl (csF .f32) v8.1.Lengths)), (.c (.flt .f32 v8.1.Fall.X.bits)), (.c (.flt .f32 v8.1.Fall.Y.bits)), (.c (.flt .f32 v8.1.Fall.Z.bits)), (.c (.flt .f32 v8.1.Damp.bits)), (.c (.int .i64 v8.1.Passes))])), (11, (.lst v10.1.length 1 (gl (csF .f32) v10.1)))]⟩) (ob := True ∧ True ∧ (((((sl 3 cs_Vector v4.Points) : C) = (sl 3 cs_Vector v4.Points)) ∧ True) ∧ CallOK Try.prog 8 [.one (sl 3 cs_Vector v4.Points)] [.one (sl 1 (csF .f32) v10.1), .one (.bool v10.2)]) ∧ True ∧ True ∧ True ∧ True ∧ True ∧ True) (by kernel_rfl) ⟨trivial, trivial, ⟨⟨rfl, trivial⟩, ok_impl_PointLengths K v4.Points v10 e11⟩, trivial, trivial, trivial, trivial, trivial, trivial⟩ ?_
    refine thenQ_normal ?_
    refine AW.seq ?_
    obtain ⟨v12, e13, h⟩ := bind_some h
    refine AW.regionA [.no, .call [.agg (cs_String v4)] [.one (.flt .f32 v12.1.bits), .one (.bool v12.2)] [[.view], [.view]]] [5, 6, 7, 8, 9, 10, 11, 12] [1, 2, 3, 4, 5, 6, 7, 8, 9, 10, 11] (s' := ⟨[(5, (.v (.one (.ptr 5 0)))), (6, (.v (.one (.c (.flt .f32 ((Fl.ofInt .f32 (IntKind.i64.wrap (v6 - (8 : Int)))).div (Fl.mk (k := .f32) 1082130432 (by decide))).bits))))), (7, (.v (.one (.ptr 10 0)))), (8, (.v (.one (.c (.bool v8.2))))), (9, (.v (.one (.lst 11 v10.1.length 1 (gl (csF .f32) v10.1))))), (10, (.v (.one (.c (.bool v10.2))))), (11, (.v (.one (.c (.flt .f32 v12.1.bits))))), (12, (.v (.one (.c (.bool v12.2)))))], [(1, (.lst v4.Points.length 3 (gl cs_Vector v4.Points))), (2, (.lst v4.Before.length 3 (gl cs_Vector v4.Before))), (3, (.lst v4.Fixed.length 1 (gl csB v4.Fixed))), (4, (.lst v4.Lengths.length 1 (gl (csF .f32) v4.Lengths))), (5, (.box [(.lst 1 v4.Points.length 3 (gl cs_Vector v4.Points)), (.lst 2 v4.Before.length 3 (gl cs_Vector v4.Before)), (.lst 3 v4.Fixed.length 1 (gl csB v4.Fixed)), (.lst 4 v4.Lengths.length 1 (gl (csF .f32) v4.Lengths)), (.c (.flt .f32 v4.Fall.X.bits)), (.c (.flt .f32 v4.Fall.Y.bits)), (.c (.flt .f32 v4.Fall.Z.bits)), (.c (.flt .f32 v4.Damp.bits)), (.c (.int .i64 v4.Passes))])), (6, (.lst v8.1.Points.length 3 (gl cs_Vector v8.1.Points))), (7, (.lst v8.1.Before.length 3 (gl cs_Vector v8.1.Before))), (8, (.lst v8.1.Fixed.length 1 (gl csB v8.1.Fixed))), (9, (.lst v8.1.Lengths.length 1 (gl (csF .f32) v8.1.Lengths))), (10, (.box [(.lst 6 v8.1.Points.length 3 (gl cs_Vector v8.1.Points)), (.lst 7 v8.1.Before.length 3 (gl cs_Vector v8.1.Before)), (.lst 8 v8.1.Fixed.length 1 (gl csB v8.1.Fixed)), (.lst 9 v8.1.Lengths.length 1 (gl (csF .f32) v8.1.Lengths)), (.c (.flt .f32 v8.1.Fall.X.bits)), (.c (.flt .f32 v8.1.Fall.Y.bits)), (.c (.flt .f32 v8.1.Fall.Z.bits)), (.c (.flt .f32 v8.1.Damp.bits)), (.c (.int .i64 v8.1.Passes))])), (11, (.lst v10.1.length 1 (gl (csF .f32) v10.1)))]⟩) (ob := True ∧ ((((((sl 3 cs_Vector v4.Points) : C) = (sl 3 cs_Vector v4.Points)) ∧ (((sl 3 cs_Vector v4.Before) : C) = (sl 3 cs_Vector v4.Before)) ∧ (((sl 1 csB v4.Fixed) : C) = (sl 1 csB v4.Fixed)) ∧ (((sl 1 (csF .f32) v4.Lengths) : C) = (sl 1 (csF .f32) v4.Lengths)) ∧ (((.flt .f32 v4.Fall.X.bits) : C) = (.flt .f32 v4.Fall.X.bits)) ∧ (((.flt .f32 v4.Fall.Y.bits) : C) = (.flt .f32 v4.Fall.Y.bits)) ∧ (((.flt .f32 v4.Fall.Z.bits) : C) = (.flt .f32 v4.Fall.Z.bits)) ∧ (((.flt .f32 v4.Damp.bits) : C) = (.flt .f32 v4.Damp.bits)) ∧ (((.int .i64 v4.Passes) : C) = (.int .i64 v4.Passes)) ∧ True) ∧ True) ∧ CallOK Try.prog 9 [.agg (cs_String v4)] [.one (.flt .f32 v12.1.bits), .one (.bool v12.2)]) ∧ True ∧ True ∧ True ∧ True ∧ True ∧ True) (by kernel_rfl) ⟨trivial, ⟨⟨⟨rfl, rfl, rfl, rfl, rfl, rfl, rfl, rfl, rfl, trivial⟩, trivial⟩, ok_impl_StretchOf K v4 v12 e13⟩, trivial, trivial, trivial, trivial, trivial, trivial⟩ ?_
    refine thenQ_normal ?_
    refine AW.seq ?_
    refine AW.seq ?_
    obtain ⟨j19, e20, h⟩ := bind_some h
    refine AW.join1 (s2 := ⟨[(5, (.v (.one (.ptr 5 0)))), (6, (.v (.one (.c (.flt .f32 ((Fl.ofInt .f32 (IntKind.i64.wrap (v6 - (8 : Int)))).div (Fl.mk (k := .f32) 1082130432 (by decide))).bits))))), (7, (.v (.one (.ptr 10 0)))), (9, (.v (.one (.lst 11 v10.1.length 1 (gl (csF .f32) v10.1))))), (11, (.v (.one (.c (.flt .f32 v12.1.bits))))), (75, (.v (.one (.c (.bool j19)))))], [(1, (.lst v4.Points.length 3 (gl cs_Vector v4.Points))), (2, (.lst v4.Before.length 3 (gl cs_Vector v4.Before))), (3, (.lst v4.Fixed.length 1 (gl csB v4.Fixed))), (4, (.lst v4.Lengths.length 1 (gl (csF .f32) v4.Lengths))), (5, (.box [(.lst 1 v4.Points.length 3 (gl cs_Vector v4.Points)), (.lst 2 v4.Before.length 3 (gl cs_Vector v4.Before)), (.lst 3 v4.Fixed.length 1 (gl csB v4.Fixed)), (.lst 4 v4.Lengths.length 1 (gl (csF .f32) v4.Lengths)), (.c (.flt .f32 v4.Fall.X.bits)), (.c (.flt .f32 v4.Fall.Y.bits)), (.c (.flt .f32 v4.Fall.Z.bits)), (.c (.flt .f32 v4.Damp.bits)), (.c (.int .i64 v4.Passes))])), (6, (.lst v8.1.Points.length 3 (gl cs_Vector v8.1.Points))), (7, (.lst v8.1.Before.length 3 (gl cs_Vector v8.1.Before))), (8, (.lst v8.1.Fixed.length 1 (gl csB v8.1.Fixed))), (9, (.lst v8.1.Lengths.length 1 (gl (csF .f32) v8.1.Lengths))), (10, (.box [(.lst 6 v8.1.Points.length 3 (gl cs_Vector v8.1.Points)), (.lst 7 v8.1.Before.length 3 (gl cs_Vector v8.1.Before)), (.lst 8 v8.1.Fixed.length 1 (gl csB v8.1.Fixed)), (.lst 9 v8.1.Lengths.length 1 (gl (csF .f32) v8.1.Lengths)), (.c (.flt .f32 v8.1.Fall.X.bits)), (.c (.flt .f32 v8.1.Fall.Y.bits)), (.c (.flt .f32 v8.1.Fall.Z.bits)), (.c (.flt .f32 v8.1.Damp.bits)), (.c (.int .i64 v8.1.Passes))])), (11, (.lst v10.1.length 1 (gl (csF .f32) v10.1)))]⟩) ?_ ?_
    · rcases ite2_cases e20 with ⟨b14, e20⟩ | ⟨b14, e20⟩
      · replace e20 := some_eq e20
        subst e20
        exact AW.regionA [.no, .no, .dec true] [5, 6, 7, 9, 11, 75] [1, 2, 3, 4, 5, 6, 7, 8, 9, 10, 11] (s' := ⟨[(5, (.v (.one (.ptr 5 0)))), (6, (.v (.one (.c (.flt .f32 ((Fl.ofInt .f32 (IntKind.i64.wrap (v6 - (8 : Int)))).div (Fl.mk (k := .f32) 1082130432 (by decide))).bits))))), (7, (.v (.one (.ptr 10 0)))), (9, (.v (.one (.lst 11 v10.1.length 1 (gl (csF .f32) v10.1))))), (11, (.v (.one (.c (.flt .f32 v12.1.bits))))), (75, (.v (.one (.c (.bool true)))))], [(1, (.lst v4.Points.length 3 (gl cs_Vector v4.Points))), (2, (.lst v4.Before.length 3 (gl cs_Vector v4.Before))), (3, (.lst v4.Fixed.length 1 (gl csB v4.Fixed))), (4, (.lst v4.Lengths.length 1 (gl (csF .f32) v4.Lengths))), (5, (.box [(.lst 1 v4.Points.length 3 (gl cs_Vector v4.Points)), (.lst 2 v4.Before.length 3 (gl cs_Vector v4.Before)), (.lst 3 v4.Fixed.length 1 (gl csB v4.Fixed)), (.lst 4 v4.Lengths.length 1 (gl (csF .f32) v4.Lengths)), (.c (.flt .f32 v4.Fall.X.bits)), (.c (.flt .f32 v4.Fall.Y.bits)), (.c (.flt .f32 v4.Fall.Z.bits)), (.c (.flt .f32 v4.Damp.bits)), (.c (.int .i64 v4.Passes))])), (6, (.lst v8.1.Points.length 3 (gl cs_Vector v8.1.Points))), (7, (.lst v8.1.Before.length 3 (gl cs_Vector v8.1.Before))), (8, (.lst v8.1.Fixed.length 1 (gl csB v8.1.Fixed))), (9, (.lst v8.1.Lengths.length 1 (gl (csF .f32) v8.1.Lengths))), (10, (.box [(.lst 6 v8.1.Points.length 3 (gl cs_Vector v8.1.Points)), (.lst 7 v8.1.Before.length 3 (gl cs_Vector v8.1.Before)), (.lst 8 v8.1.Fixed.length 1 (gl csB v8.1.Fixed)), (.lst 9 v8.1.Lengths.length 1 (gl (csF .f32) v8.1.Lengths)), (.c (.flt .f32 v8.1.Fall.X.bits)), (.c (.flt .f32 v8.1.Fall.Y.bits)), (.c (.flt .f32 v8.1.Fall.Z.bits)), (.c (.flt .f32 v8.1.Damp.bits)), (.c (.int .i64 v8.1.Passes))])), (11, (.lst v10.1.length 1 (gl (csF .f32) v10.1)))]⟩) (ob := True ∧ True ∧ (True ∧ (!v8.2) = true) ∧ True ∧ True ∧ True ∧ True ∧ True ∧ True ∧ True ∧ True ∧ True ∧ True ∧ True ∧ True ∧ True ∧ True ∧ True ∧ True ∧ True ∧ True ∧ True ∧ True ∧ True ∧ True ∧ True ∧ True ∧ True ∧ True ∧ True ∧ True ∧ True ∧ True) (by kernel_rfl) ⟨trivial, trivial, ⟨trivial, b14⟩, trivial, trivial, trivial, trivial, trivial, trivial, trivial, trivial, trivial, trivial, trivial, trivial, trivial, trivial, trivial, trivial, trivial, trivial, trivial, trivial, trivial, trivial, trivial, trivial, trivial, trivial, trivial, trivial, trivial, trivial⟩ ⟨rfl, rfl⟩
      · rcases ite2_cases e20 with ⟨b15, e20⟩ | ⟨b15, e20⟩
        · replace e20 := some_eq e20
          subst e20
          exact AW.regionA [.no, .no, .dec false, .no, .no, .no, .dec true] [5, 6, 7, 9, 11, 75] [1, 2, 3, 4, 5, 6, 7, 8, 9, 10, 11] (s' := ⟨[(5, (.v (.one (.ptr 5 0)))), (6, (.v (.one (.c (.flt .f32 ((Fl.ofInt .f32 (IntKind.i64.wrap (v6 - (8 : Int)))).div (Fl.mk (k := .f32) 1082130432 (by decide))).bits))))), (7, (.v (.one (.ptr 10 0)))), (9, (.v (.one (.lst 11 v10.1.length 1 (gl (csF .f32) v10.1))))), (11, (.v (.one (.c (.flt .f32 v12.1.bits))))), (75, (.v (.one (.c (.bool true)))))], [(1, (.lst v4.Points.length 3 (gl cs_Vector v4.Points))), (2, (.lst v4.Before.length 3 (gl cs_Vector v4.Before))), (3, (.lst v4.Fixed.length 1 (gl csB v4.Fixed))), (4, (.lst v4.Lengths.length 1 (gl (csF .f32) v4.Lengths))), (5, (.box [(.lst 1 v4.Points.length 3 (gl cs_Vector v4.Points)), (.lst 2 v4.Before.length 3 (gl cs_Vector v4.Before)), (.lst 3 v4.Fixed.length 1 (gl csB v4.Fixed)), (.lst 4 v4.Lengths.length 1 (gl (csF .f32) v4.Lengths)), (.c (.flt .f32 v4.Fall.X.bits)), (.c (.flt .f32 v4.Fall.Y.bits)), (.c (.flt .f32 v4.Fall.Z.bits)), (.c (.flt .f32 v4.Damp.bits)), (.c (.int .i64 v4.Passes))])), (6, (.lst v8.1.Points.length 3 (gl cs_Vector v8.1.Points))), (7, (.lst v8.1.Before.length 3 (gl cs_Vector v8.1.Before))), (8, (.lst v8.1.Fixed.length 1 (gl csB v8.1.Fixed))), (9, (.lst v8.1.Lengths.length 1 (gl (csF .f32) v8.1.Lengths))), (10, (.box [(.lst 6 v8.1.Points.length 3 (gl cs_Vector v8.1.Points)), (.lst 7 v8.1.Before.length 3 (gl cs_Vector v8.1.Before)), (.lst 8 v8.1.Fixed.length 1 (gl csB v8.1.Fixed)), (.lst 9 v8.1.Lengths.length 1 (gl (csF .f32) v8.1.Lengths)), (.c (.flt .f32 v8.1.Fall.X.bits)), (.c (.flt .f32 v8.1.Fall.Y.bits)), (.c (.flt .f32 v8.1.Fall.Z.bits)), (.c (.flt .f32 v8.1.Damp.bits)), (.c (.int .i64 v8.1.Passes))])), (11, (.lst v10.1.length 1 (gl (csF .f32) v10.1)))]⟩) (ob := True ∧ True ∧ (True ∧ (!v8.2) = false) ∧ True ∧ True ∧ True ∧ (True ∧ (!v10.2) = true) ∧ True ∧ True ∧ True ∧ True ∧ True ∧ True ∧ True ∧ True ∧ True ∧ True ∧ True ∧ True ∧ True ∧ True ∧ True ∧ True ∧ True ∧ True ∧ True ∧ True ∧ True ∧ True ∧ True ∧ True ∧ True ∧ True) (by kernel_rfl) ⟨trivial, trivial, ⟨trivial, b14⟩, trivial, trivial, trivial, ⟨trivial, b15⟩, trivial, trivial, trivial, trivial, trivial, trivial, trivial, trivial, trivial, trivial, trivial, trivial, trivial, trivial, trivial, trivial, trivial, trivial, trivial, trivial, trivial, trivial, trivial, trivial, trivial, trivial⟩ ⟨rfl, rfl⟩
        · rcases ite2_cases e20 with ⟨b16, e20⟩ | ⟨b16, e20⟩
          · replace e20 := some_eq e20
            subst e20
            exact AW.regionA [.no, .no, .dec false, .no, .no, .no, .dec false, .no, .no, .no, .dec true] [5, 6, 7, 9, 11, 75] [1, 2, 3, 4, 5, 6, 7, 8, 9, 10, 11] (s' := ⟨[(5, (.v (.one (.ptr 5 0)))), (6, (.v (.one (.c (.flt .f32 ((Fl.ofInt .f32 (IntKind.i64.wrap (v6 - (8 : Int)))).div (Fl.mk (k := .f32) 1082130432 (by decide))).bits))))), (7, (.v (.one (.ptr 10 0)))), (9, (.v (.one (.lst 11 v10.1.length 1 (gl (csF .f32) v10.1))))), (11, (.v (.one (.c (.flt .f32 v12.1.bits))))), (75, (.v (.one (.c (.bool true)))))], [(1, (.lst v4.Points.length 3 (gl cs_Vector v4.Points))), (2, (.lst v4.Before.length 3 (gl cs_Vector v4.Before))), (3, (.lst v4.Fixed.length 1 (gl csB v4.Fixed))), (4, (.lst v4.Lengths.length 1 (gl (csF .f32) v4.Lengths))), (5, (.box [(.lst 1 v4.Points.length 3 (gl cs_Vector v4.Points)), (.lst 2 v4.Before.length 3 (gl cs_Vector v4.Before)), (.lst 3 v4.Fixed.length 1 (gl csB v4.Fixed)), (.lst 4 v4.Lengths.length 1 (gl (csF .f32) v4.Lengths)), (.c (.flt .f32 v4.Fall.X.bits)), (.c (.flt .f32 v4.Fall.Y.bits)), (.c (.flt .f32 v4.Fall.Z.bits)), (.c (.flt .f32 v4.Damp.bits)), (.c (.int .i64 v4.Passes))])), (6, (.lst v8.1.Points.length 3 (gl cs_Vector v8.1.Points))), (7, (.lst v8.1.Before.length 3 (gl cs_Vector v8.1.Before))), (8, (.lst v8.1.Fixed.length 1 (gl csB v8.1.Fixed))), (9, (.lst v8.1.Lengths.length 1 (gl (csF .f32) v8.1.Lengths))), (10, (.box [(.lst 6 v8.1.Points.length 3 (gl cs_Vector v8.1.Points)), (.lst 7 v8.1.Before.length 3 (gl cs_Vector v8.1.Before)), (.lst 8 v8.1.Fixed.length 1 (gl csB v8.1.Fixed)), (.lst 9 v8.1.Lengths.length 1 (gl (csF .f32) v8.1.Lengths)), (.c (.flt .f32 v8.1.Fall.X.bits)), (.c (.flt .f32 v8.1.Fall.Y.bits)), (.c (.flt .f32 v8.1.Fall.Z.bits)), (.c (.flt .f32 v8.1.Damp.bits)), (.c (.int .i64 v8.1.Passes))])), (11, (.lst v10.1.length 1 (gl (csF .f32) v10.1)))]⟩) (ob := True ∧ True ∧ (True ∧ (!v8.2) = false) ∧ True ∧ True ∧ True ∧ (True ∧ (!v10.2) = false) ∧ True ∧ True ∧ True ∧ (True ∧ (!v12.2) = true) ∧ True ∧ True ∧ True ∧ True ∧ True ∧ True ∧ True ∧ True ∧ True ∧ True ∧ True ∧ True ∧ True ∧ True ∧ True ∧ True ∧ True ∧ True ∧ True ∧ True ∧ True ∧ True) (by kernel_rfl) ⟨trivial, trivial, ⟨trivial, b14⟩, trivial, trivial, trivial, ⟨trivial, b15⟩, trivial, trivial, trivial, ⟨trivial, b16⟩, trivial, trivial, trivial, trivial, trivial, trivial, trivial, trivial, trivial, trivial, trivial, trivial, trivial, trivial, trivial, trivial, trivial, trivial, trivial, trivial, trivial, trivial⟩ ⟨rfl, rfl⟩
          · rcases ite2_cases e20 with ⟨b17, e20⟩ | ⟨b17, e20⟩
            · replace e20 := some_eq e20
              subst e20
              exact AW.regionA [.no, .no, .dec false, .no, .no, .no, .dec false, .no, .no, .no, .dec false, .no, .no, .no, .no, .no, .no, .no, .no, .dec true] [5, 6, 7, 9, 11, 75] [1, 2, 3, 4, 5, 6, 7, 8, 9, 10, 11] (s' := ⟨[(5, (.v (.one (.ptr 5 0)))), (6, (.v (.one (.c (.flt .f32 ((Fl.ofInt .f32 (IntKind.i64.wrap (v6 - (8 : Int)))).div (Fl.mk (k := .f32) 1082130432 (by decide))).bits))))), (7, (.v (.one (.ptr 10 0)))), (9, (.v (.one (.lst 11 v10.1.length 1 (gl (csF .f32) v10.1))))), (11, (.v (.one (.c (.flt .f32 v12.1.bits))))), (75, (.v (.one (.c (.bool true)))))], [(1, (.lst v4.Points.length 3 (gl cs_Vector v4.Points))), (2, (.lst v4.Before.length 3 (gl cs_Vector v4.Before))), (3, (.lst v4.Fixed.length 1 (gl csB v4.Fixed))), (4, (.lst v4.Lengths.length 1 (gl (csF .f32) v4.Lengths))), (5, (.box [(.lst 1 v4.Points.length 3 (gl cs_Vector v4.Points)), (.lst 2 v4.Before.length 3 (gl cs_Vector v4.Before)), (.lst 3 v4.Fixed.length 1 (gl csB v4.Fixed)), (.lst 4 v4.Lengths.length 1 (gl (csF .f32) v4.Lengths)), (.c (.flt .f32 v4.Fall.X.bits)), (.c (.flt .f32 v4.Fall.Y.bits)), (.c (.flt .f32 v4.Fall.Z.bits)), (.c (.flt .f32 v4.Damp.bits)), (.c (.int .i64 v4.Passes))])), (6, (.lst v8.1.Points.length 3 (gl cs_Vector v8.1.Points))), (7, (.lst v8.1.Before.length 3 (gl cs_Vector v8.1.Before))), (8, (.lst v8.1.Fixed.length 1 (gl csB v8.1.Fixed))), (9, (.lst v8.1.Lengths.length 1 (gl (csF .f32) v8.1.Lengths))), (10, (.box [(.lst 6 v8.1.Points.length 3 (gl cs_Vector v8.1.Points)), (.lst 7 v8.1.Before.length 3 (gl cs_Vector v8.1.Before)), (.lst 8 v8.1.Fixed.length 1 (gl csB v8.1.Fixed)), (.lst 9 v8.1.Lengths.length 1 (gl (csF .f32) v8.1.Lengths)), (.c (.flt .f32 v8.1.Fall.X.bits)), (.c (.flt .f32 v8.1.Fall.Y.bits)), (.c (.flt .f32 v8.1.Fall.Z.bits)), (.c (.flt .f32 v8.1.Damp.bits)), (.c (.int .i64 v8.1.Passes))])), (11, (.lst v10.1.length 1 (gl (csF .f32) v10.1)))]⟩) (ob := True ∧ True ∧ (True ∧ (!v8.2) = false) ∧ True ∧ True ∧ True ∧ (True ∧ (!v10.2) = false) ∧ True ∧ True ∧ True ∧ (True ∧ (!v12.2) = false) ∧ True ∧ True ∧ True ∧ True ∧ True ∧ True ∧ True ∧ True ∧ (True ∧ ((v8.1.Points.length : Int) != (v4.Points.length : Int)) = true) ∧ True ∧ True ∧ True ∧ True ∧ True ∧ True ∧ True ∧ True ∧ True ∧ True ∧ True ∧ True ∧ True) (by kernel_rfl) ⟨trivial, trivial, ⟨trivial, b14⟩, trivial, trivial, trivial, ⟨trivial, b15⟩, trivial, trivial, trivial, ⟨trivial, b16⟩, trivial, trivial, trivial, trivial, trivial, trivial, trivial, trivial, ⟨trivial, b17⟩, trivial, trivial, trivial, trivial, trivial, trivial, trivial, trivial, trivial, trivial, trivial, trivial, trivial⟩ ⟨rfl, rfl⟩
            · rcases ite2_cases e20 with ⟨b18, e20⟩ | ⟨b18, e20⟩
              · replace e20 := some_eq e20
                subst e20
                exact AW.regionA [.no, .no, .dec false, .no, .no, .no, .dec false, .no, .no, .no, .dec false, .no, .no, .no, .no, .no, .no, .no, .no, .dec false, .no, .no, .no, .no, .no, .no, .no, .dec true] [5, 6, 7, 9, 11, 75] [1, 2, 3, 4, 5, 6, 7, 8, 9, 10, 11] (s' := ⟨[(5, (.v (.one (.ptr 5 0)))), (6, (.v (.one (.c (.flt .f32 ((Fl.ofInt .f32 (IntKind.i64.wrap (v6 - (8 : Int)))).div (Fl.mk (k := .f32) 1082130432 (by decide))).bits))))), (7, (.v (.one (.ptr 10 0)))), (9, (.v (.one (.lst 11 v10.1.length 1 (gl (csF .f32) v10.1))))), (11, (.v (.one (.c (.flt .f32 v12.1.bits))))), (75, (.v (.one (.c (.bool true)))))], [(1, (.lst v4.Points.length 3 (gl cs_Vector v4.Points))), (2, (.lst v4.Before.length 3 (gl cs_Vector v4.Before))), (3, (.lst v4.Fixed.length 1 (gl csB v4.Fixed))), (4, (.lst v4.Lengths.length 1 (gl (csF .f32) v4.Lengths))), (5, (.box [(.lst 1 v4.Points.length 3 (gl cs_Vector v4.Points)), (.lst 2 v4.Before.length 3 (gl cs_Vector v4.Before)), (.lst 3 v4.Fixed.length 1 (gl csB v4.Fixed)), (.lst 4 v4.Lengths.length 1 (gl (csF .f32) v4.Lengths)), (.c (.flt .f32 v4.Fall.X.bits)), (.c (.flt .f32 v4.Fall.Y.bits)), (.c (.flt .f32 v4.Fall.Z.bits)), (.c (.flt .f32 v4.Damp.bits)), (.c (.int .i64 v4.Passes))])), (6, (.lst v8.1.Points.length 3 (gl cs_Vector v8.1.Points))), (7, (.lst v8.1.Before.length 3 (gl cs_Vector v8.1.Before))), (8, (.lst v8.1.Fixed.length 1 (gl csB v8.1.Fixed))), (9, (.lst v8.1.Lengths.length 1 (gl (csF .f32) v8.1.Lengths))), (10, (.box [(.lst 6 v8.1.Points.length 3 (gl cs_Vector v8.1.Points)), (.lst 7 v8.1.Before.length 3 (gl cs_Vector v8.1.Before)), (.lst 8 v8.1.Fixed.length 1 (gl csB v8.1.Fixed)), (.lst 9 v8.1.Lengths.length 1 (gl (csF .f32) v8.1.Lengths)), (.c (.flt .f32 v8.1.Fall.X.bits)), (.c (.flt .f32 v8.1.Fall.Y.bits)), (.c (.flt .f32 v8.1.Fall.Z.bits)), (.c (.flt .f32 v8.1.Damp.bits)), (.c (.int .i64 v8.1.Passes))])), (11, (.lst v10.1.length 1 (gl (csF .f32) v10.1)))]⟩) (ob := True ∧ True ∧ (True ∧ (!v8.2) = false) ∧ True ∧ True ∧ True ∧ (True ∧ (!v10.2) = false) ∧ True ∧ True ∧ True ∧ (True ∧ (!v12.2) = false) ∧ True ∧ True ∧ True ∧ True ∧ True ∧ True ∧ True ∧ True ∧ (True ∧ ((v8.1.Points.length : Int) != (v4.Points.length : Int)) = false) ∧ True ∧ True ∧ True ∧ True ∧ True ∧ True ∧ True ∧ (True ∧ ((v10.1.length : Int) != (v4.Lengths.length : Int)) = true) ∧ True ∧ True ∧ True ∧ True ∧ True) (by kernel_rfl) ⟨trivial, trivial, ⟨trivial, b14⟩, trivial, trivial, trivial, ⟨trivial, b15⟩, trivial, trivial, trivial, ⟨trivial, b16⟩, trivial, trivial, trivial, trivial, trivial, trivial, trivial, trivial, ⟨trivial, b17⟩, trivial, trivial, trivial, trivial, trivial, trivial, trivial, ⟨trivial, b18⟩, trivial, trivial, trivial, trivial, trivial⟩ ⟨rfl, rfl⟩
              · replace e20 := some_eq e20
                subst e20
                exact AW.regionA [.no, .no, .dec false, .no, .no, .no, .dec false, .no, .no, .no, .dec false, .no, .no, .no, .no, .no, .no, .no, .no, .dec false, .no, .no, .no, .no, .no, .no, .no, .dec false] [5, 6, 7, 9, 11, 75] [1, 2, 3, 4, 5, 6, 7, 8, 9, 10, 11] (s' := ⟨[(5, (.v (.one (.ptr 5 0)))), (6, (.v (.one (.c (.flt .f32 ((Fl.ofInt .f32 (IntKind.i64.wrap (v6 - (8 : Int)))).div (Fl.mk (k := .f32) 1082130432 (by decide))).bits))))), (7, (.v (.one (.ptr 10 0)))), (9, (.v (.one (.lst 11 v10.1.length 1 (gl (csF .f32) v10.1))))), (11, (.v (.one (.c (.flt .f32 v12.1.bits))))), (75, (.v (.one (.c (.bool (!(v12.1.ge (Fl.mk (k := .f32) 0 (by decide)))))))))], [(1, (.lst v4.Points.length 3 (gl cs_Vector v4.Points))), (2, (.lst v4.Before.length 3 (gl cs_Vector v4.Before))), (3, (.lst v4.Fixed.length 1 (gl csB v4.Fixed))), (4, (.lst v4.Lengths.length 1 (gl (csF .f32) v4.Lengths))), (5, (.box [(.lst 1 v4.Points.length 3 (gl cs_Vector v4.Points)), (.lst 2 v4.Before.length 3 (gl cs_Vector v4.Before)), (.lst 3 v4.Fixed.length 1 (gl csB v4.Fixed)), (.lst 4 v4.Lengths.length 1 (gl (csF .f32) v4.Lengths)), (.c (.flt .f32 v4.Fall.X.bits)), (.c (.flt .f32 v4.Fall.Y.bits)), (.c (.flt .f32 v4.Fall.Z.bits)), (.c (.flt .f32 v4.Damp.bits)), (.c (.int .i64 v4.Passes))])), (6, (.lst v8.1.Points.length 3 (gl cs_Vector v8.1.Points))), (7, (.lst v8.1.Before.length 3 (gl cs_Vector v8.1.Before))), (8, (.lst v8.1.Fixed.length 1 (gl csB v8.1.Fixed))), (9, (.lst v8.1.Lengths.length 1 (gl (csF .f32) v8.1.Lengths))), (10, (.box [(.lst 6 v8.1.Points.length 3 (gl cs_Vector v8.1.Points)), (.lst 7 v8.1.Before.length 3 (gl cs_Vector v8.1.Before)), (.lst 8 v8.1.Fixed.length 1 (gl csB v8.1.Fixed)), (.lst 9 v8.1.Lengths.length 1 (gl (csF .f32) v8.1.Lengths)), (.c (.flt .f32 v8.1.Fall.X.bits)), (.c (.flt .f32 v8.1.Fall.Y.bits)), (.c (.flt .f32 v8.1.Fall.Z.bits)), (.c (.flt .f32 v8.1.Damp.bits)), (.c (.int .i64 v8.1.Passes))])), (11, (.lst v10.1.length 1 (gl (csF .f32) v10.1)))]⟩) (ob := True ∧ True ∧ (True ∧ (!v8.2) = false) ∧ True ∧ True ∧ True ∧ (True ∧ (!v10.2) = false) ∧ True ∧ True ∧ True ∧ (True ∧ (!v12.2) = false) ∧ True ∧ True ∧ True ∧ True ∧ True ∧ True ∧ True ∧ True ∧ (True ∧ ((v8.1.Points.length : Int) != (v4.Points.length : Int)) = false) ∧ True ∧ True ∧ True ∧ True ∧ True ∧ True ∧ True ∧ (True ∧ ((v10.1.length : Int) != (v4.Lengths.length : Int)) = false) ∧ True ∧ True ∧ True ∧ True ∧ True) (by kernel_rfl) ⟨trivial, trivial, ⟨trivial, b14⟩, trivial, trivial, trivial, ⟨trivial, b15⟩, trivial, trivial, trivial, ⟨trivial, b16⟩, trivial, trivial, trivial, trivial, trivial, trivial, trivial, trivial, ⟨trivial, b17⟩, trivial, trivial, trivial, trivial, trivial, trivial, trivial, ⟨trivial, b18⟩, trivial, trivial, trivial, trivial, trivial⟩ ⟨rfl, rfl⟩
    refine thenQ_normal ?_
    rcases ite2_cases h with ⟨b21, h⟩ | ⟨b21, h⟩
    · refine AW.cond_t rfl b21 ?_
      refine AW.seq ?_
      refine AW.regionA [] [4] [] (s' := ⟨[(4, (.v (.one (.c (.bool false)))))], []⟩) (ob := True ∧ True) (by kernel_rfl) ⟨trivial, trivial⟩ ?_
      refine thenQ_normal ?_
      refine AW.ret ?_
      refine thenQ_ret ?_
      replace h := some_eq h
      subst h
      exact ⟨.inr rfl, retOK_of [(.one (.c (.bool false)))] (by kernel_rfl) ⟨⟨rfl, trivial⟩, trivial⟩ (of_decide_eq_true (by kernel_rfl))⟩
    · refine AW.cond_f rfl b21 ?_
      refine AW.skip ?_
      refine thenQ_normal ?_
      refine AW.seq ?_
      refine AW.seq ?_
      refine AW.regionA [] [5, 6, 7, 9, 11, 13] [1, 2, 3, 4, 5, 6, 7, 8, 9, 10, 11] (s' := ⟨[(5, (.v (.one (.ptr 5 0)))), (6, (.v (.one (.c (.flt .f32 ((Fl.ofInt .f32 (IntKind.i64.wrap (v6 - (8 : Int)))).div (Fl.mk (k := .f32) 1082130432 (by decide))).bits))))), (7, (.v (.one (.ptr 10 0)))), (9, (.v (.one (.lst 11 v10.1.length 1 (gl (csF .f32) v10.1))))), (11, (.v (.one (.c (.flt .f32 v12.1.bits))))), (13, (.v (.one (.c (.int .i64 (0 : Int))))))], [(1, (.lst v4.Points.length 3 (gl cs_Vector v4.Points))), (2, (.lst v4.Before.length 3 (gl cs_Vector v4.Before))), (3, (.lst v4.Fixed.length 1 (gl csB v4.Fixed))), (4, (.lst v4.Lengths.length 1 (gl (csF .f32) v4.Lengths))), (5, (.box [(.lst 1 v4.Points.length 3 (gl cs_Vector v4.Points)), (.lst 2 v4.Before.length 3 (gl cs_Vector v4.Before)), (.lst 3 v4.Fixed.length 1 (gl csB v4.Fixed)), (.lst 4 v4.Lengths.length 1 (gl (csF .f32) v4.Lengths)), (.c (.flt .f32 v4.Fall.X.bits)), (.c (.flt .f32 v4.Fall.Y.bits)), (.c (.flt .f32 v4.Fall.Z.bits)), (.c (.flt .f32 v4.Damp.bits)), (.c (.int .i64 v4.Passes))])), (6, (.lst v8.1.Points.length 3 (gl cs_Vector v8.1.Points))), (7, (.lst v8.1.Before.length 3 (gl cs_Vector v8.1.Before))), (8, (.lst v8.1.Fixed.length 1 (gl csB v8.1.Fixed))), (9, (.lst v8.1.Lengths.length 1 (gl (csF .f32) v8.1.Lengths))), (10, (.box [(.lst 6 v8.1.Points.length 3 (gl cs_Vector v8.1.Points)), (.lst 7 v8.1.Before.length 3 (gl cs_Vector v8.1.Before)), (.lst 8 v8.1.Fixed.length 1 (gl csB v8.1.Fixed)), (.lst 9 v8.1.Lengths.length 1 (gl (csF .f32) v8.1.Lengths)), (.c (.flt .f32 v8.1.Fall.X.bits)), (.c (.flt .f32 v8.1.Fall.Y.bits)), (.c (.flt .f32 v8.1.Fall.Z.bits)), (.c (.flt .f32 v8.1.Damp.bits)), (.c (.int .i64 v8.1.Passes))])), (11, (.lst v10.1.length 1 (gl (csF .f32) v10.1)))]⟩) (ob := True ∧ True) (by kernel_rfl) ⟨trivial, trivial⟩ ?_
      refine thenQ_normal ?_
      refine AW.block ?_
      refine AW.loopQ (σ := Nat × Int) (fun p => ⟨[(5, (.v (.one (.ptr 5 0)))), (6, (.v (.one (.c (.flt .f32 ((Fl.ofInt .f32 (IntKind.i64.wrap (v6 - (8 : Int)))).div (Fl.mk (k := .f32) 1082130432 (by decide))).bits))))), (7, (.v (.one (.ptr 10 0)))), (9, (.v (.one (.lst 11 v10.1.length 1 (gl (csF .f32) v10.1))))), (11, (.v (.one (.c (.flt .f32 v12.1.bits))))), (13, (.v (.one (.c (.int .i64 p.2)))))], [(1, (.lst v4.Points.length 3 (gl cs_Vector v4.Points))), (2, (.lst v4.Before.length 3 (gl cs_Vector v4.Before))), (3, (.lst v4.Fixed.length 1 (gl csB v4.Fixed))), (4, (.lst v4.Lengths.length 1 (gl (csF .f32) v4.Lengths))), (5, (.box [(.lst 1 v4.Points.length 3 (gl cs_Vector v4.Points)), (.lst 2 v4.Before.length 3 (gl cs_Vector v4.Before)), (.lst 3 v4.Fixed.length 1 (gl csB v4.Fixed)), (.lst 4 v4.Lengths.length 1 (gl (csF .f32) v4.Lengths)), (.c (.flt .f32 v4.Fall.X.bits)), (.c (.flt .f32 v4.Fall.Y.bits)), (.c (.flt .f32 v4.Fall.Z.bits)), (.c (.flt .f32 v4.Damp.bits)), (.c (.int .i64 v4.Passes))])), (6, (.lst v8.1.Points.length 3 (gl cs_Vector v8.1.Points))), (7, (.lst v8.1.Before.length 3 (gl cs_Vector v8.1.Before))), (8, (.lst v8.1.Fixed.length 1 (gl csB v8.1.Fixed))), (9, (.lst v8.1.Lengths.length 1 (gl (csF .f32) v8.1.Lengths))), (10, (.box [(.lst 6 v8.1.Points.length 3 (gl cs_Vector v8.1.Points)), (.lst 7 v8.1.Before.length 3 (gl cs_Vector v8.1.Before)), (.lst 8 v8.1.Fixed.length 1 (gl csB v8.1.Fixed)), (.lst 9 v8.1.Lengths.length 1 (gl (csF .f32) v8.1.Lengths)), (.c (.flt .f32 v8.1.Fall.X.bits)), (.c (.flt .f32 v8.1.Fall.Y.bits)), (.c (.flt .f32 v8.1.Fall.Z.bits)), (.c (.flt .f32 v8.1.Damp.bits)), (.c (.int .i64 v8.1.Passes))])), (11, (.lst v10.1.length 1 (gl (csF .f32) v10.1)))]⟩) (fun p => laws_FnLaid_l1 K v4 v6 v8 v10 v12 p.1 p.2 = some o) (fun p => p.1) (K, (0 : Int)) h ?_
      clear h
      rintro ⟨k, x23⟩ h
      replace h : laws_FnLaid_l1 K v4 v6 v8 v10 v12 k x23 = some o := h
      show AW _ _ (⟨[(5, (.v (.one (.ptr 5 0)))), (6, (.v (.one (.c (.flt .f32 ((Fl.ofInt .f32 (IntKind.i64.wrap (v6 - (8 : Int)))).div (Fl.mk (k := .f32) 1082130432 (by decide))).bits))))), (7, (.v (.one (.ptr 10 0)))), (9, (.v (.one (.lst 11 v10.1.length 1 (gl (csF .f32) v10.1))))), (11, (.v (.one (.c (.flt .f32 v12.1.bits))))), (13, (.v (.one (.c (.int .i64 x23)))))], [(1, (.lst v4.Points.length 3 (gl cs_Vector v4.Points))), (2, (.lst v4.Before.length 3 (gl cs_Vector v4.Before))), (3, (.lst v4.Fixed.length 1 (gl csB v4.Fixed))), (4, (.lst v4.Lengths.length 1 (gl (csF .f32) v4.Lengths))), (5, (.box [(.lst 1 v4.Points.length 3 (gl cs_Vector v4.Points)), (.lst 2 v4.Before.length 3 (gl cs_Vector v4.Before)), (.lst 3 v4.Fixed.length 1 (gl csB v4.Fixed)), (.lst 4 v4.Lengths.length 1 (gl (csF .f32) v4.Lengths)), (.c (.flt .f32 v4.Fall.X.bits)), (.c (.flt .f32 v4.Fall.Y.bits)), (.c (.flt .f32 v4.Fall.Z.bits)), (.c (.flt .f32 v4.Damp.bits)), (.c (.int .i64 v4.Passes))])), (6, (.lst v8.1.Points.length 3 (gl cs_Vector v8.1.Points))), (7, (.lst v8.1.Before.length 3 (gl cs_Vector v8.1.Before))), (8, (.lst v8.1.Fixed.length 1 (gl csB v8.1.Fixed))), (9, (.lst v8.1.Lengths.length 1 (gl (csF .f32) v8.1.Lengths))), (10, (.box [(.lst 6 v8.1.Points.length 3 (gl cs_Vector v8.1.Points)), (.lst 7 v8.1.Before.length 3 (gl cs_Vector v8.1.Before)), (.lst 8 v8.1.Fixed.length 1 (gl csB v8.1.Fixed)), (.lst 9 v8.1.Lengths.length 1 (gl (csF .f32) v8.1.Lengths)), (.c (.flt .f32 v8.1.Fall.X.bits)), (.c (.flt .f32 v8.1.Fall.Y.bits)), (.c (.flt .f32 v8.1.Fall.Z.bits)), (.c (.flt .f32 v8.1.Damp.bits)), (.c (.int .i64 v8.1.Passes))])), (11, (.lst v10.1.length 1 (gl (csF .f32) v10.1)))]⟩ : St) _
      obtain _ | k := k
      · rw [laws_FnLaid_l1] at h; cases h
      rw [laws_FnLaid_l1] at h
      refine AW.seq ?_
      refine AW.seq ?_
      refine AW.regionA [] [5, 6, 7, 9, 11, 13, 80] [1, 2, 3, 4, 5, 6, 7, 8, 9, 10, 11] (s' := ⟨[(5, (.v (.one (.ptr 5 0)))), (6, (.v (.one (.c (.flt .f32 ((Fl.ofInt .f32 (IntKind.i64.wrap (v6 - (8 : Int)))).div (Fl.mk (k := .f32) 1082130432 (by decide))).bits))))), (7, (.v (.one (.ptr 10 0)))), (9, (.v (.one (.lst 11 v10.1.length 1 (gl (csF .f32) v10.1))))), (11, (.v (.one (.c (.flt .f32 v12.1.bits))))), (13, (.v (.one (.c (.int .i64 x23))))), (80, (.v (.one (.c (.bool (decide (x23 < (v4.Points.length : Int))))))))], [(1, (.lst v4.Points.length 3 (gl cs_Vector v4.Points))), (2, (.lst v4.Before.length 3 (gl cs_Vector v4.Before))), (3, (.lst v4.Fixed.length 1 (gl csB v4.Fixed))), (4, (.lst v4.Lengths.length 1 (gl (csF .f32) v4.Lengths))), (5, (.box [(.lst 1 v4.Points.length 3 (gl cs_Vector v4.Points)), (.lst 2 v4.Before.length 3 (gl cs_Vector v4.Before)), (.lst 3 v4.Fixed.length 1 (gl csB v4.Fixed)), (.lst 4 v4.Lengths.length 1 (gl (csF .f32) v4.Lengths)), (.c (.flt .f32 v4.Fall.X.bits)), (.c (.flt .f32 v4.Fall.Y.bits)), (.c (.flt .f32 v4.Fall.Z.bits)), (.c (.flt .f32 v4.Damp.bits)), (.c (.int .i64 v4.Passes))])), (6, (.lst v8.1.Points.length 3 (gl cs_Vector v8.1.Points))), (7, (.lst v8.1.Before.length 3 (gl cs_Vector v8.1.Before))), (8, (.lst v8.1.Fixed.length 1 (gl csB v8.1.Fixed))), (9, (.lst v8.1.Lengths.length 1 (gl (csF .f32) v8.1.Lengths))), (10, (.box [(.lst 6 v8.1.Points.length 3 (gl cs_Vector v8.1.Points)), (.lst 7 v8.1.Before.length 3 (gl cs_Vector v8.1.Before)), (.lst 8 v8.1.Fixed.length 1 (gl csB v8.1.Fixed)), (.lst 9 v8.1.Lengths.length 1 (gl (csF .f32) v8.1.Lengths)), (.c (.flt .f32 v8.1.Fall.X.bits)), (.c (.flt .f32 v8.1.Fall.Y.bits)), (.c (.flt .f32 v8.1.Fall.Z.bits)), (.c (.flt .f32 v8.1.Damp.bits)), (.c (.int .i64 v8.1.Passes))])), (11, (.lst v10.1.length 1 (gl (csF .f32) v10.1)))]⟩) (ob := True ∧ True ∧ True ∧ True ∧ True ∧ True) (by kernel_rfl) ⟨trivial, trivial, trivial, trivial, trivial, trivial⟩ ?_
      refine thenQ_normal ?_
      rcases ite2_cases h with ⟨b24, h⟩ | ⟨b24, h⟩
      · refine AW.cond_t rfl b24 ?_
        refine AW.skip ?_
        refine thenQ_normal ?_
        refine AW.seq ?_
        refine AW.block ?_
        refine AW.seq ?_
        obtain ⟨c25, h⟩ := chk_some h
        obtain ⟨j31, e32, h⟩ := bind_some h
        refine AW.join1 (s2 := ⟨[(5, (.v (.one (.ptr 5 0)))), (6, (.v (.one (.c (.flt .f32 ((Fl.ofInt .f32 (IntKind.i64.wrap (v6 - (8 : Int)))).div (Fl.mk (k := .f32) 1082130432 (by decide))).bits))))), (7, (.v (.one (.ptr 10 0)))), (9, (.v (.one (.lst 11 v10.1.length 1 (gl (csF .f32) v10.1))))), (11, (.v (.one (.c (.flt .f32 v12.1.bits))))), (13, (.v (.one (.c (.int .i64 x23))))), (114, (.v (.one (.c (.bool j31)))))], [(1, (.lst v4.Points.length 3 (gl cs_Vector v4.Points))), (2, (.lst v4.Before.length 3 (gl cs_Vector v4.Before))), (3, (.lst v4.Fixed.length 1 (gl csB v4.Fixed))), (4, (.lst v4.Lengths.length 1 (gl (csF .f32) v4.Lengths))), (5, (.box [(.lst 1 v4.Points.length 3 (gl cs_Vector v4.Points)), (.lst 2 v4.Before.length 3 (gl cs_Vector v4.Before)), (.lst 3 v4.Fixed.length 1 (gl csB v4.Fixed)), (.lst 4 v4.Lengths.length 1 (gl (csF .f32) v4.Lengths)), (.c (.flt .f32 v4.Fall.X.bits)), (.c (.flt .f32 v4.Fall.Y.bits)), (.c (.flt .f32 v4.Fall.Z.bits)), (.c (.flt .f32 v4.Damp.bits)), (.c (.int .i64 v4.Passes))])), (6, (.lst v8.1.Points.length 3 (gl cs_Vector v8.1.Points))), (7, (.lst v8.1.Before.length 3 (gl cs_Vector v8.1.Before))), (8, (.lst v8.1.Fixed.length 1 (gl csB v8.1.Fixed))), (9, (.lst v8.1.Lengths.length 1 (gl (csF .f32) v8.1.Lengths))), (10, (.box [(.lst 6 v8.1.Points.length 3 (gl cs_Vector v8.1.Points)), (.lst 7 v8.1.Before.length 3 (gl cs_Vector v8.1.Before)), (.lst 8 v8.1.Fixed.length 1 (gl csB v8.1.Fixed)), (.lst 9 v8.1.Lengths.length 1 (gl (csF .f32) v8.1.Lengths)), (.c (.flt .f32 v8.1.Fall.X.bits)), (.c (.flt .f32 v8.1.Fall.Y.bits)), (.c (.flt .f32 v8.1.Fall.Z.bits)), (.c (.flt .f32 v8.1.Damp.bits)), (.c (.int .i64 v8.1.Passes))])), (11, (.lst v10.1.length 1 (gl (csF .f32) v10.1)))]⟩) ?_ ?_
        · rcases ite2_cases e32 with ⟨b26, e32⟩ | ⟨b26, e32⟩
          · replace e32 := some_eq e32
            subst e32
            exact AW.drawnA (by kernel_rfl) 32 [.no, .no, .no, .no, .no, .no, .no, .no, .dec true] [5, 6, 7, 9, 11, 13, 114] [1, 2, 3, 4, 5, 6, 7, 8, 9, 10, 11] (s' := ⟨[(5, (.v (.one (.ptr 5 0)))), (6, (.v (.one (.c (.flt .f32 ((Fl.ofInt .f32 (IntKind.i64.wrap (v6 - (8 : Int)))).div (Fl.mk (k := .f32) 1082130432 (by decide))).bits))))), (7, (.v (.one (.ptr 10 0)))), (9, (.v (.one (.lst 11 v10.1.length 1 (gl (csF .f32) v10.1))))), (11, (.v (.one (.c (.flt .f32 v12.1.bits))))), (13, (.v (.one (.c (.int .i64 x23))))), (114, (.v (.one (.c (.bool true)))))], [(1, (.lst v4.Points.length 3 (gl cs_Vector v4.Points))), (2, (.lst v4.Before.length 3 (gl cs_Vector v4.Before))), (3, (.lst v4.Fixed.length 1 (gl csB v4.Fixed))), (4, (.lst v4.Lengths.length 1 (gl (csF .f32) v4.Lengths))), (5, (.box [(.lst 1 v4.Points.length 3 (gl cs_Vector v4.Points)), (.lst 2 v4.Before.length 3 (gl cs_Vector v4.Before)), (.lst 3 v4.Fixed.length 1 (gl csB v4.Fixed)), (.lst 4 v4.Lengths.length 1 (gl (csF .f32) v4.Lengths)), (.c (.flt .f32 v4.Fall.X.bits)), (.c (.flt .f32 v4.Fall.Y.bits)), (.c (.flt .f32 v4.Fall.Z.bits)), (.c (.flt .f32 v4.Damp.bits)), (.c (.int .i64 v4.Passes))])), (6, (.lst v8.1.Points.length 3 (gl cs_Vector v8.1.Points))), (7, (.lst v8.1.Before.length 3 (gl cs_Vector v8.1.Before))), (8, (.lst v8.1.Fixed.length 1 (gl csB v8.1.Fixed))), (9, (.lst v8.1.Lengths.length 1 (gl (csF .f32) v8.1.Lengths))), (10, (.box [(.lst 6 v8.1.Points.length 3 (gl cs_Vector v8.1.Points)), (.lst 7 v8.1.Before.length 3 (gl cs_Vector v8.1.Before)), (.lst 8 v8.1.Fixed.length 1 (gl csB v8.1.Fixed)), (.lst 9 v8.1.Lengths.length 1 (gl (csF .f32) v8.1.Lengths)), (.c (.flt .f32 v8.1.Fall.X.bits)), (.c (.flt .f32 v8.1.Fall.Y.bits)), (.c (.flt .f32 v8.1.Fall.Z.bits)), (.c (.flt .f32 v8.1.Damp.bits)), (.c (.int .i64 v8.1.Passes))])), (11, (.lst v10.1.length 1 (gl (csF .f32) v10.1)))]⟩) (ob := (True ∧ True ∧ True ∧ (0 ≤ x23 ∧ x23 < (v8.1.Points.length : Int)) ∧ True ∧ True ∧ True ∧ True ∧ (True ∧ (((v8.1.Points.getD x23.toNat default).Y).lt' ((Fl.ofInt .f32 (IntKind.i64.wrap (v6 - (8 : Int)))).div (Fl.mk (k := .f32) 1082130432 (by decide)))) = true) ∧ True ∧ True ∧ True ∧ True ∧ True ∧ True ∧ True ∧ True ∧ True ∧ True ∧ True ∧ True ∧ True ∧ True ∧ True ∧ True ∧ True ∧ True ∧ True ∧ True ∧ True ∧ True ∧ True ∧ True) ∧ (True)) (by kernel_rfl) ⟨⟨trivial, trivial, trivial, c25, trivial, trivial, trivial, trivial, ⟨trivial, b26⟩, trivial, trivial, trivial, trivial, trivial, trivial, trivial, trivial, trivial, trivial, trivial, trivial, trivial, trivial, trivial, trivial, trivial, trivial, trivial, trivial, trivial, trivial, trivial, trivial⟩, trivial⟩ ⟨rfl, rfl⟩
          · obtain ⟨c27, e32⟩ := chk_some e32
            rcases ite2_cases e32 with ⟨b28, e32⟩ | ⟨b28, e32⟩
            · obtain ⟨v29, e30, e32⟩ := bind_some e32
              replace e32 := some_eq e32
              subst e32
              exact AW.drawnA (by kernel_rfl) 32 [.no, .no, .no, .no, .no, .no, .no, .no, .dec false, .no, .no, .no, .no, .no, .no, .no, .no, .dec true, .no, .no, .no, .no, .no, .no, .no, .no, .no, .no, .call [.agg (cs_Vector (v8.1.Points.getD x23.toNat default)), .agg (cs_Vector (v4.Points.getD x23.toNat default))] [.one (.bool v29)] [[.view]]] [5, 6, 7, 9, 11, 13, 114] [1, 2, 3, 4, 5, 6, 7, 8, 9, 10, 11] (s' := ⟨[(5, (.v (.one (.ptr 5 0)))), (6, (.v (.one (.c (.flt .f32 ((Fl.ofInt .f32 (IntKind.i64.wrap (v6 - (8 : Int)))).div (Fl.mk (k := .f32) 1082130432 (by decide))).bits))))), (7, (.v (.one (.ptr 10 0)))), (9, (.v (.one (.lst 11 v10.1.length 1 (gl (csF .f32) v10.1))))), (11, (.v (.one (.c (.flt .f32 v12.1.bits))))), (13, (.v (.one (.c (.int .i64 x23))))), (114, (.v (.one (.c (.bool (!v29))))))], [(1, (.lst v4.Points.length 3 (gl cs_Vector v4.Points))), (2, (.lst v4.Before.length 3 (gl cs_Vector v4.Before))), (3, (.lst v4.Fixed.length 1 (gl csB v4.Fixed))), (4, (.lst v4.Lengths.length 1 (gl (csF .f32) v4.Lengths))), (5, (.box [(.lst 1 v4.Points.length 3 (gl cs_Vector v4.Points)), (.lst 2 v4.Before.length 3 (gl cs_Vector v4.Before)), (.lst 3 v4.Fixed.length 1 (gl csB v4.Fixed)), (.lst 4 v4.Lengths.length 1 (gl (csF .f32) v4.Lengths)), (.c (.flt .f32 v4.Fall.X.bits)), (.c (.flt .f32 v4.Fall.Y.bits)), (.c (.flt .f32 v4.Fall.Z.bits)), (.c (.flt .f32 v4.Damp.bits)), (.c (.int .i64 v4.Passes))])), (6, (.lst v8.1.Points.length 3 (gl cs_Vector v8.1.Points))), (7, (.lst v8.1.Before.length 3 (gl cs_Vector v8.1.Before))), (8, (.lst v8.1.Fixed.length 1 (gl csB v8.1.Fixed))), (9, (.lst v8.1.Lengths.length 1 (gl (csF .f32) v8.1.Lengths))), (10, (.box [(.lst 6 v8.1.Points.length 3 (gl cs_Vector v8.1.Points)), (.lst 7 v8.1.Before.length 3 (gl cs_Vector v8.1.Before)), (.lst 8 v8.1.Fixed.length 1 (gl csB v8.1.Fixed)), (.lst 9 v8.1.Lengths.length 1 (gl (csF .f32) v8.1.Lengths)), (.c (.flt .f32 v8.1.Fall.X.bits)), (.c (.flt .f32 v8.1.Fall.Y.bits)), (.c (.flt .f32 v8.1.Fall.Z.bits)), (.c (.flt .f32 v8.1.Damp.bits)), (.c (.int .i64 v8.1.Passes))])), (11, (.lst v10.1.length 1 (gl (csF .f32) v10.1)))]⟩) (ob := (True ∧ True ∧ True ∧ (0 ≤ x23 ∧ x23 < (v8.1.Points.length : Int)) ∧ True ∧ True ∧ True ∧ True ∧ (True ∧ (((v8.1.Points.getD x23.toNat default).Y).lt' ((Fl.ofInt .f32 (IntKind.i64.wrap (v6 - (8 : Int)))).div (Fl.mk (k := .f32) 1082130432 (by decide)))) = false) ∧ True ∧ True ∧ True ∧ (0 ≤ x23 ∧ x23 < (v4.Points.length : Int)) ∧ True ∧ True ∧ True ∧ True ∧ (True ∧ (((v4.Points.getD x23.toNat default).Y).ge ((Fl.ofInt .f32 (IntKind.i64.wrap (v6 - (8 : Int)))).div (Fl.mk (k := .f32) 1082130432 (by decide)))) = true) ∧ True ∧ True ∧ True ∧ (0 ≤ x23 ∧ x23 < (v8.1.Points.length : Int)) ∧ True ∧ True ∧ True ∧ True ∧ (0 ≤ x23 ∧ x23 < (v4.Points.length : Int)) ∧ True ∧ ((((((.flt .f32 ((v8.1.Points.getD x23.toNat default).X).bits) : C) = (.flt .f32 ((v8.1.Points.getD x23.toNat default).X).bits)) ∧ (((.flt .f32 ((v8.1.Points.getD x23.toNat default).Y).bits) : C) = (.flt .f32 ((v8.1.Points.getD x23.toNat default).Y).bits)) ∧ (((.flt .f32 ((v8.1.Points.getD x23.toNat default).Z).bits) : C) = (.flt .f32 ((v8.1.Points.getD x23.toNat default).Z).bits)) ∧ True) ∧ ((((.flt .f32 ((v4.Points.getD x23.toNat default).X).bits) : C) = (.flt .f32 ((v4.Points.getD x23.toNat default).X).bits)) ∧ (((.flt .f32 ((v4.Points.getD x23.toNat default).Y).bits) : C) = (.flt .f32 ((v4.Points.getD x23.toNat default).Y).bits)) ∧ (((.flt .f32 ((v4.Points.getD x23.toNat default).Z).bits) : C) = (.flt .f32 ((v4.Points.getD x23.toNat default).Z).bits)) ∧ True) ∧ True) ∧ CallOK Try.prog 10 [.agg (cs_Vector (v8.1.Points.getD x23.toNat default)), .agg (cs_Vector (v4.Points.getD x23.toNat default))] [.one (.bool v29)]) ∧ True ∧ True ∧ True ∧ True) ∧ (True)) (by kernel_rfl) ⟨⟨trivial, trivial, trivial, c25, trivial, trivial, trivial, trivial, ⟨trivial, b26⟩, trivial, trivial, trivial, c27, trivial, trivial, trivial, trivial, ⟨trivial, b28⟩, trivial, trivial, trivial, c25, trivial, trivial, trivial, trivial, c27, trivial, ⟨⟨⟨rfl, rfl, rfl, trivial⟩, ⟨rfl, rfl, rfl, trivial⟩, trivial⟩, ok_impl_SameVector K (v8.1.Points.getD x23.toNat default) (v4.Points.getD x23.toNat default) v29 e30⟩, trivial, trivial, trivial, trivial⟩, trivial⟩ ⟨rfl, rfl⟩
            · replace e32 := some_eq e32
              subst e32
              exact AW.drawnA (by kernel_rfl) 32 [.no, .no, .no, .no, .no, .no, .no, .no, .dec false, .no, .no, .no, .no, .no, .no, .no, .no, .dec false] [5, 6, 7, 9, 11, 13, 114] [1, 2, 3, 4, 5, 6, 7, 8, 9, 10, 11] (s' := ⟨[(5, (.v (.one (.ptr 5 0)))), (6, (.v (.one (.c (.flt .f32 ((Fl.ofInt .f32 (IntKind.i64.wrap (v6 - (8 : Int)))).div (Fl.mk (k := .f32) 1082130432 (by decide))).bits))))), (7, (.v (.one (.ptr 10 0)))), (9, (.v (.one (.lst 11 v10.1.length 1 (gl (csF .f32) v10.1))))), (11, (.v (.one (.c (.flt .f32 v12.1.bits))))), (13, (.v (.one (.c (.int .i64 x23))))), (114, (.v (.one (.c (.bool false)))))], [(1, (.lst v4.Points.length 3 (gl cs_Vector v4.Points))), (2, (.lst v4.Before.length 3 (gl cs_Vector v4.Before))), (3, (.lst v4.Fixed.length 1 (gl csB v4.Fixed))), (4, (.lst v4.Lengths.length 1 (gl (csF .f32) v4.Lengths))), (5, (.box [(.lst 1 v4.Points.length 3 (gl cs_Vector v4.Points)), (.lst 2 v4.Before.length 3 (gl cs_Vector v4.Before)), (.lst 3 v4.Fixed.length 1 (gl csB v4.Fixed)), (.lst 4 v4.Lengths.length 1 (gl (csF .f32) v4.Lengths)), (.c (.flt .f32 v4.Fall.X.bits)), (.c (.flt .f32 v4.Fall.Y.bits)), (.c (.flt .f32 v4.Fall.Z.bits)), (.c (.flt .f32 v4.Damp.bits)), (.c (.int .i64 v4.Passes))])), (6, (.lst v8.1.Points.length 3 (gl cs_Vector v8.1.Points))), (7, (.lst v8.1.Before.length 3 (gl cs_Vector v8.1.Before))), (8, (.lst v8.1.Fixed.length 1 (gl csB v8.1.Fixed))), (9, (.lst v8.1.Lengths.length 1 (gl (csF .f32) v8.1.Lengths))), (10, (.box [(.lst 6 v8.1.Points.length 3 (gl cs_Vector v8.1.Points)), (.lst 7 v8.1.Before.length 3 (gl cs_Vector v8.1.Before)), (.lst 8 v8.1.Fixed.length 1 (gl csB v8.1.Fixed)), (.lst 9 v8.1.Lengths.length 1 (gl (csF .f32) v8.1.Lengths)), (.c (.flt .f32 v8.1.Fall.X.bits)), (.c (.flt .f32 v8.1.Fall.Y.bits)), (.c (.flt .f32 v8.1.Fall.Z.bits)), (.c (.flt .f32 v8.1.Damp.bits)), (.c (.int .i64 v8.1.Passes))])), (11, (.lst v10.1.length 1 (gl (csF .f32) v10.1)))]⟩) (ob := (True ∧ True ∧ True ∧ (0 ≤ x23 ∧ x23 < (v8.1.Points.length : Int)) ∧ True ∧ True ∧ True ∧ True ∧ (True ∧ (((v8.1.Points.getD x23.toNat default).Y).lt' ((Fl.ofInt .f32 (IntKind.i64.wrap (v6 - (8 : Int)))).div (Fl.mk (k := .f32) 1082130432 (by decide)))) = false) ∧ True ∧ True ∧ True ∧ (0 ≤ x23 ∧ x23 < (v4.Points.length : Int)) ∧ True ∧ True ∧ True ∧ True ∧ (True ∧ (((v4.Points.getD x23.toNat default).Y).ge ((Fl.ofInt .f32 (IntKind.i64.wrap (v6 - (8 : Int)))).div (Fl.mk (k := .f32) 1082130432 (by decide)))) = false) ∧ True ∧ True ∧ True ∧ True ∧ True ∧ True ∧ True ∧ True ∧ True ∧ True ∧ True ∧ True ∧ True ∧ True ∧ True) ∧ (True)) (by kernel_rfl) ⟨⟨trivial, trivial, trivial, c25, trivial, trivial, trivial, trivial, ⟨trivial, b26⟩, trivial, trivial, trivial, c27, trivial, trivial, trivial, trivial, ⟨trivial, b28⟩, trivial, trivial, trivial, trivial, trivial, trivial, trivial, trivial, trivial, trivial, trivial, trivial, trivial, trivial, trivial⟩, trivial⟩ ⟨rfl, rfl⟩
        refine thenQ_normal ?_
        rcases ite2_cases h with ⟨b33, h⟩ | ⟨b33, h⟩
        · refine AW.cond_t rfl b33 ?_
          refine AW.seq ?_
          refine AW.regionA [] [4] [] (s' := ⟨[(4, (.v (.one (.c (.bool false)))))], []⟩) (ob := True ∧ True) (by kernel_rfl) ⟨trivial, trivial⟩ ?_
          refine thenQ_normal ?_
          refine AW.ret ?_
          refine blockQ_ret ?_
          refine thenQ_ret ?_
          refine loopQ_ret ?_
          refine blockQ_ret ?_
          refine thenQ_ret ?_
          replace h := some_eq h
          subst h
          exact ⟨.inr rfl, retOK_of [(.one (.c (.bool false)))] (by kernel_rfl) ⟨⟨rfl, trivial⟩, trivial⟩ (of_decide_eq_true (by kernel_rfl))⟩
        · refine AW.cond_f rfl b33 ?_
          refine AW.skip ?_
          refine blockQ_normal ?_
          refine thenQ_normal ?_
          refine AW.regionA [] [5, 6, 7, 9, 11, 13] [1, 2, 3, 4, 5, 6, 7, 8, 9, 10, 11] (s' := ⟨[(5, (.v (.one (.ptr 5 0)))), (6, (.v (.one (.c (.flt .f32 ((Fl.ofInt .f32 (IntKind.i64.wrap (v6 - (8 : Int)))).div (Fl.mk (k := .f32) 1082130432 (by decide))).bits))))), (7, (.v (.one (.ptr 10 0)))), (9, (.v (.one (.lst 11 v10.1.length 1 (gl (csF .f32) v10.1))))), (11, (.v (.one (.c (.flt .f32 v12.1.bits))))), (13, (.v (.one (.c (.int .i64 (IntKind.i64.wrap (x23 + (1 : Int))))))))], [(1, (.lst v4.Points.length 3 (gl cs_Vector v4.Points))), (2, (.lst v4.Before.length 3 (gl cs_Vector v4.Before))), (3, (.lst v4.Fixed.length 1 (gl csB v4.Fixed))), (4, (.lst v4.Lengths.length 1 (gl (csF .f32) v4.Lengths))), (5, (.box [(.lst 1 v4.Points.length 3 (gl cs_Vector v4.Points)), (.lst 2 v4.Before.length 3 (gl cs_Vector v4.Before)), (.lst 3 v4.Fixed.length 1 (gl csB v4.Fixed)), (.lst 4 v4.Lengths.length 1 (gl (csF .f32) v4.Lengths)), (.c (.flt .f32 v4.Fall.X.bits)), (.c (.flt .f32 v4.Fall.Y.bits)), (.c (.flt .f32 v4.Fall.Z.bits)), (.c (.flt .f32 v4.Damp.bits)), (.c (.int .i64 v4.Passes))])), (6, (.lst v8.1.Points.length 3 (gl cs_Vector v8.1.Points))), (7, (.lst v8.1.Before.length 3 (gl cs_Vector v8.1.Before))), (8, (.lst v8.1.Fixed.length 1 (gl csB v8.1.Fixed))), (9, (.lst v8.1.Lengths.length 1 (gl (csF .f32) v8.1.Lengths))), (10, (.box [(.lst 6 v8.1.Points.length 3 (gl cs_Vector v8.1.Points)), (.lst 7 v8.1.Before.length 3 (gl cs_Vector v8.1.Before)), (.lst 8 v8.1.Fixed.length 1 (gl csB v8.1.Fixed)), (.lst 9 v8.1.Lengths.length 1 (gl (csF .f32) v8.1.Lengths)), (.c (.flt .f32 v8.1.Fall.X.bits)), (.c (.flt .f32 v8.1.Fall.Y.bits)), (.c (.flt .f32 v8.1.Fall.Z.bits)), (.c (.flt .f32 v8.1.Damp.bits)), (.c (.int .i64 v8.1.Passes))])), (11, (.lst v10.1.length 1 (gl (csF .f32) v10.1)))]⟩) (ob := True ∧ True ∧ True ∧ True) (by kernel_rfl) ⟨trivial, trivial, trivial, trivial⟩ ?_
          exact loopQ_normal (k, (IntKind.i64.wrap (x23 + (1 : Int)))) h (Nat.lt_succ_self k) (Sub.keep [5, 6, 7, 9, 11, 13] [1, 2, 3, 4, 5, 6, 7, 8, 9, 10, 11] (by kernel_rfl) (by kernel_rfl))
      · refine AW.cond_f rfl b24 ?_
        refine AW.exit ?_
        refine thenQ_exit ?_
        refine loopQ_exit ?_
        refine blockQ_exit ?_
        refine thenQ_normal ?_
        refine AW.seq ?_
        refine AW.regionA [] [5, 9, 11, 14] [1, 2, 3, 4, 5, 11] (s' := ⟨[(5, (.v (.one (.ptr 5 0)))), (9, (.v (.one (.lst 11 v10.1.length 1 (gl (csF .f32) v10.1))))), (11, (.v (.one (.c (.flt .f32 v12.1.bits))))), (14, (.v (.one (.c (.bool (v12.1.eq (Fl.mk (k := .f32) 0 (by decide))))))))], [(1, (.lst v4.Points.length 3 (gl cs_Vector v4.Points))), (2, (.lst v4.Before.length 3 (gl cs_Vector v4.Before))), (3, (.lst v4.Fixed.length 1 (gl csB v4.Fixed))), (4, (.lst v4.Lengths.length 1 (gl (csF .f32) v4.Lengths))), (5, (.box [(.lst 1 v4.Points.length 3 (gl cs_Vector v4.Points)), (.lst 2 v4.Before.length 3 (gl cs_Vector v4.Before)), (.lst 3 v4.Fixed.length 1 (gl csB v4.Fixed)), (.lst 4 v4.Lengths.length 1 (gl (csF .f32) v4.Lengths)), (.c (.flt .f32 v4.Fall.X.bits)), (.c (.flt .f32 v4.Fall.Y.bits)), (.c (.flt .f32 v4.Fall.Z.bits)), (.c (.flt .f32 v4.Damp.bits)), (.c (.int .i64 v4.Passes))])), (11, (.lst v10.1.length 1 (gl (csF .f32) v10.1)))]⟩) (ob := True ∧ True ∧ True ∧ True) (by kernel_rfl) ⟨trivial, trivial, trivial, trivial⟩ ?_
        refine thenQ_normal ?_
        refine AW.seq ?_
        refine AW.seq ?_
        refine AW.regionA [] [5, 9, 11, 14, 15] [1, 2, 3, 4, 5, 11] (s' := ⟨[(5, (.v (.one (.ptr 5 0)))), (9, (.v (.one (.lst 11 v10.1.length 1 (gl (csF .f32) v10.1))))), (11, (.v (.one (.c (.flt .f32 v12.1.bits))))), (14, (.v (.one (.c (.bool (v12.1.eq (Fl.mk (k := .f32) 0 (by decide)))))))), (15, (.v (.one (.c (.int .i64 (0 : Int))))))], [(1, (.lst v4.Points.length 3 (gl cs_Vector v4.Points))), (2, (.lst v4.Before.length 3 (gl cs_Vector v4.Before))), (3, (.lst v4.Fixed.length 1 (gl csB v4.Fixed))), (4, (.lst v4.Lengths.length 1 (gl (csF .f32) v4.Lengths))), (5, (.box [(.lst 1 v4.Points.length 3 (gl cs_Vector v4.Points)), (.lst 2 v4.Before.length 3 (gl cs_Vector v4.Before)), (.lst 3 v4.Fixed.length 1 (gl csB v4.Fixed)), (.lst 4 v4.Lengths.length 1 (gl (csF .f32) v4.Lengths)), (.c (.flt .f32 v4.Fall.X.bits)), (.c (.flt .f32 v4.Fall.Y.bits)), (.c (.flt .f32 v4.Fall.Z.bits)), (.c (.flt .f32 v4.Damp.bits)), (.c (.int .i64 v4.Passes))])), (11, (.lst v10.1.length 1 (gl (csF .f32) v10.1)))]⟩) (ob := True ∧ True) (by kernel_rfl) ⟨trivial, trivial⟩ ?_
        refine thenQ_normal ?_
        refine AW.block ?_
        refine AW.loopQ (σ := Nat × Bool × Int) (fun p => ⟨[(5, (.v (.one (.ptr 5 0)))), (9, (.v (.one (.lst 11 v10.1.length 1 (gl (csF .f32) v10.1))))), (11, (.v (.one (.c (.flt .f32 v12.1.bits))))), (14, (.v (.one (.c (.bool p.2.1))))), (15, (.v (.one (.c (.int .i64 p.2.2)))))], [(1, (.lst v4.Points.length 3 (gl cs_Vector v4.Points))), (2, (.lst v4.Before.length 3 (gl cs_Vector v4.Before))), (3, (.lst v4.Fixed.length 1 (gl csB v4.Fixed))), (4, (.lst v4.Lengths.length 1 (gl (csF .f32) v4.Lengths))), (5, (.box [(.lst 1 v4.Points.length 3 (gl cs_Vector v4.Points)), (.lst 2 v4.Before.length 3 (gl cs_Vector v4.Before)), (.lst 3 v4.Fixed.length 1 (gl csB v4.Fixed)), (.lst 4 v4.Lengths.length 1 (gl (csF .f32) v4.Lengths)), (.c (.flt .f32 v4.Fall.X.bits)), (.c (.flt .f32 v4.Fall.Y.bits)), (.c (.flt .f32 v4.Fall.Z.bits)), (.c (.flt .f32 v4.Damp.bits)), (.c (.int .i64 v4.Passes))])), (11, (.lst v10.1.length 1 (gl (csF .f32) v10.1)))]⟩) (fun p => laws_FnLaid_l2 K v4 v10 v12 p.1 p.2.1 p.2.2 = some o) (fun p => p.1) (K, (v12.1.eq (Fl.mk (k := .f32) 0 (by decide))), (0 : Int)) h ?_
        clear h
        rintro ⟨k, x36, x37⟩ h
        replace h : laws_FnLaid_l2 K v4 v10 v12 k x36 x37 = some o := h
        show AW _ _ (⟨[(5, (.v (.one (.ptr 5 0)))), (9, (.v (.one (.lst 11 v10.1.length 1 (gl (csF .f32) v10.1))))), (11, (.v (.one (.c (.flt .f32 v12.1.bits))))), (14, (.v (.one (.c (.bool x36))))), (15, (.v (.one (.c (.int .i64 x37)))))], [(1, (.lst v4.Points.length 3 (gl cs_Vector v4.Points))), (2, (.lst v4.Before.length 3 (gl cs_Vector v4.Before))), (3, (.lst v4.Fixed.length 1 (gl csB v4.Fixed))), (4, (.lst v4.Lengths.length 1 (gl (csF .f32) v4.Lengths))), (5, (.box [(.lst 1 v4.Points.length 3 (gl cs_Vector v4.Points)), (.lst 2 v4.Before.length 3 (gl cs_Vector v4.Before)), (.lst 3 v4.Fixed.length 1 (gl csB v4.Fixed)), (.lst 4 v4.Lengths.length 1 (gl (csF .f32) v4.Lengths)), (.c (.flt .f32 v4.Fall.X.bits)), (.c (.flt .f32 v4.Fall.Y.bits)), (.c (.flt .f32 v4.Fall.Z.bits)), (.c (.flt .f32 v4.Damp.bits)), (.c (.int .i64 v4.Passes))])), (11, (.lst v10.1.length 1 (gl (csF .f32) v10.1)))]⟩ : St) _
        obtain _ | k := k
        · rw [laws_FnLaid_l2] at h; cases h
        rw [laws_FnLaid_l2] at h
        refine AW.seq ?_
        refine AW.seq ?_
        refine AW.regionA [] [5, 9, 11, 14, 15, 120] [1, 2, 3, 4, 5, 11] (s' := ⟨[(5, (.v (.one (.ptr 5 0)))), (9, (.v (.one (.lst 11 v10.1.length 1 (gl (csF .f32) v10.1))))), (11, (.v (.one (.c (.flt .f32 v12.1.bits))))), (14, (.v (.one (.c (.bool x36))))), (15, (.v (.one (.c (.int .i64 x37))))), (120, (.v (.one (.c (.bool (decide (x37 < (v10.1.length : Int))))))))], [(1, (.lst v4.Points.length 3 (gl cs_Vector v4.Points))), (2, (.lst v4.Before.length 3 (gl cs_Vector v4.Before))), (3, (.lst v4.Fixed.length 1 (gl csB v4.Fixed))), (4, (.lst v4.Lengths.length 1 (gl (csF .f32) v4.Lengths))), (5, (.box [(.lst 1 v4.Points.length 3 (gl cs_Vector v4.Points)), (.lst 2 v4.Before.length 3 (gl cs_Vector v4.Before)), (.lst 3 v4.Fixed.length 1 (gl csB v4.Fixed)), (.lst 4 v4.Lengths.length 1 (gl (csF .f32) v4.Lengths)), (.c (.flt .f32 v4.Fall.X.bits)), (.c (.flt .f32 v4.Fall.Y.bits)), (.c (.flt .f32 v4.Fall.Z.bits)), (.c (.flt .f32 v4.Damp.bits)), (.c (.int .i64 v4.Passes))])), (11, (.lst v10.1.length 1 (gl (csF .f32) v10.1)))]⟩) (ob := True ∧ True ∧ True ∧ True ∧ True) (by kernel_rfl) ⟨trivial, trivial, trivial, trivial, trivial⟩ ?_
        refine thenQ_normal ?_
        rcases ite2_cases h with ⟨b38, h⟩ | ⟨b38, h⟩
        · refine AW.cond_t rfl b38 ?_
          refine AW.skip ?_
          refine thenQ_normal ?_
          refine AW.seq ?_
          refine AW.block ?_
          refine AW.seq ?_
          obtain ⟨c39, h⟩ := chk_some h
          obtain ⟨c40, h⟩ := chk_some h
          refine AW.drawnA (by kernel_rfl) 11 [] [5, 9, 11, 14, 15, 16] [1, 2, 3, 4, 5, 11] (s' := ⟨[(5, (.v (.one (.ptr 5 0)))), (9, (.v (.one (.lst 11 v10.1.length 1 (gl (csF .f32) v10.1))))), (11, (.v (.one (.c (.flt .f32 v12.1.bits))))), (14, (.v (.one (.c (.bool x36))))), (15, (.v (.one (.c (.int .i64 x37))))), (16, (.v (.one (.c (.flt .f32 ((v10.1.getD x37.toNat default).sub (v4.Lengths.getD x37.toNat default)).bits)))))], [(1, (.lst v4.Points.length 3 (gl cs_Vector v4.Points))), (2, (.lst v4.Before.length 3 (gl cs_Vector v4.Before))), (3, (.lst v4.Fixed.length 1 (gl csB v4.Fixed))), (4, (.lst v4.Lengths.length 1 (gl (csF .f32) v4.Lengths))), (5, (.box [(.lst 1 v4.Points.length 3 (gl cs_Vector v4.Points)), (.lst 2 v4.Before.length 3 (gl cs_Vector v4.Before)), (.lst 3 v4.Fixed.length 1 (gl csB v4.Fixed)), (.lst 4 v4.Lengths.length 1 (gl (csF .f32) v4.Lengths)), (.c (.flt .f32 v4.Fall.X.bits)), (.c (.flt .f32 v4.Fall.Y.bits)), (.c (.flt .f32 v4.Fall.Z.bits)), (.c (.flt .f32 v4.Damp.bits)), (.c (.int .i64 v4.Passes))])), (11, (.lst v10.1.length 1 (gl (csF .f32) v10.1)))]⟩) (ob := (True ∧ True ∧ (0 ≤ x37 ∧ x37 < (v10.1.length : Int)) ∧ True ∧ True ∧ True ∧ True ∧ (0 ≤ x37 ∧ x37 < (v4.Lengths.length : Int)) ∧ True ∧ True ∧ True ∧ True) ∧ (True)) (by kernel_rfl) ⟨⟨trivial, trivial, c39, trivial, trivial, trivial, trivial, c40, trivial, trivial, trivial, trivial⟩, trivial⟩ ?_
          refine thenQ_normal ?_
          refine AW.seq ?_
          refine AW.seq ?_
          obtain ⟨j42, e43, h⟩ := bind_some h
          refine AW.join1 (s2 := ⟨[(5, (.v (.one (.ptr 5 0)))), (9, (.v (.one (.lst 11 v10.1.length 1 (gl (csF .f32) v10.1))))), (11, (.v (.one (.c (.flt .f32 v12.1.bits))))), (14, (.v (.one (.c (.bool x36))))), (15, (.v (.one (.c (.int .i64 x37))))), (16, (.v (.one (.c (.flt .f32 ((v10.1.getD x37.toNat default).sub (v4.Lengths.getD x37.toNat default)).bits))))), (141, (.v (.one (.c (.bool j42)))))], [(1, (.lst v4.Points.length 3 (gl cs_Vector v4.Points))), (2, (.lst v4.Before.length 3 (gl cs_Vector v4.Before))), (3, (.lst v4.Fixed.length 1 (gl csB v4.Fixed))), (4, (.lst v4.Lengths.length 1 (gl (csF .f32) v4.Lengths))), (5, (.box [(.lst 1 v4.Points.length 3 (gl cs_Vector v4.Points)), (.lst 2 v4.Before.length 3 (gl cs_Vector v4.Before)), (.lst 3 v4.Fixed.length 1 (gl csB v4.Fixed)), (.lst 4 v4.Lengths.length 1 (gl (csF .f32) v4.Lengths)), (.c (.flt .f32 v4.Fall.X.bits)), (.c (.flt .f32 v4.Fall.Y.bits)), (.c (.flt .f32 v4.Fall.Z.bits)), (.c (.flt .f32 v4.Damp.bits)), (.c (.int .i64 v4.Passes))])), (11, (.lst v10.1.length 1 (gl (csF .f32) v10.1)))]⟩) ?_ ?_
          · rcases ite2_cases e43 with ⟨b41, e43⟩ | ⟨b41, e43⟩
            · replace e43 := some_eq e43
              subst e43
              exact AW.regionA [.no, .no, .no, .dec true] [5, 9, 11, 14, 15, 16, 141] [1, 2, 3, 4, 5, 11] (s' := ⟨[(5, (.v (.one (.ptr 5 0)))), (9, (.v (.one (.lst 11 v10.1.length 1 (gl (csF .f32) v10.1))))), (11, (.v (.one (.c (.flt .f32 v12.1.bits))))), (14, (.v (.one (.c (.bool x36))))), (15, (.v (.one (.c (.int .i64 x37))))), (16, (.v (.one (.c (.flt .f32 ((v10.1.getD x37.toNat default).sub (v4.Lengths.getD x37.toNat default)).bits))))), (141, (.v (.one (.c (.bool true)))))], [(1, (.lst v4.Points.length 3 (gl cs_Vector v4.Points))), (2, (.lst v4.Before.length 3 (gl cs_Vector v4.Before))), (3, (.lst v4.Fixed.length 1 (gl csB v4.Fixed))), (4, (.lst v4.Lengths.length 1 (gl (csF .f32) v4.Lengths))), (5, (.box [(.lst 1 v4.Points.length 3 (gl cs_Vector v4.Points)), (.lst 2 v4.Before.length 3 (gl cs_Vector v4.Before)), (.lst 3 v4.Fixed.length 1 (gl csB v4.Fixed)), (.lst 4 v4.Lengths.length 1 (gl (csF .f32) v4.Lengths)), (.c (.flt .f32 v4.Fall.X.bits)), (.c (.flt .f32 v4.Fall.Y.bits)), (.c (.flt .f32 v4.Fall.Z.bits)), (.c (.flt .f32 v4.Damp.bits)), (.c (.int .i64 v4.Passes))])), (11, (.lst v10.1.length 1 (gl (csF .f32) v10.1)))]⟩) (ob := True ∧ True ∧ True ∧ (True ∧ (((v10.1.getD x37.toNat default).sub (v4.Lengths.getD x37.toNat default)).gt v12.1) = true) ∧ True ∧ True ∧ True ∧ True ∧ True ∧ True) (by kernel_rfl) ⟨trivial, trivial, trivial, ⟨trivial, b41⟩, trivial, trivial, trivial, trivial, trivial, trivial⟩ ⟨rfl, rfl⟩
            · replace e43 := some_eq e43
              subst e43
              exact AW.regionA [.no, .no, .no, .dec false] [5, 9, 11, 14, 15, 16, 141] [1, 2, 3, 4, 5, 11] (s' := ⟨[(5, (.v (.one (.ptr 5 0)))), (9, (.v (.one (.lst 11 v10.1.length 1 (gl (csF .f32) v10.1))))), (11, (.v (.one (.c (.flt .f32 v12.1.bits))))), (14, (.v (.one (.c (.bool x36))))), (15, (.v (.one (.c (.int .i64 x37))))), (16, (.v (.one (.c (.flt .f32 ((v10.1.getD x37.toNat default).sub (v4.Lengths.getD x37.toNat default)).bits))))), (141, (.v (.one (.c (.bool ((((v10.1.getD x37.toNat default).sub (v4.Lengths.getD x37.toNat default)).neg).gt v12.1))))))], [(1, (.lst v4.Points.length 3 (gl cs_Vector v4.Points))), (2, (.lst v4.Before.length 3 (gl cs_Vector v4.Before))), (3, (.lst v4.Fixed.length 1 (gl csB v4.Fixed))), (4, (.lst v4.Lengths.length 1 (gl (csF .f32) v4.Lengths))), (5, (.box [(.lst 1 v4.Points.length 3 (gl cs_Vector v4.Points)), (.lst 2 v4.Before.length 3 (gl cs_Vector v4.Before)), (.lst 3 v4.Fixed.length 1 (gl csB v4.Fixed)), (.lst 4 v4.Lengths.length 1 (gl (csF .f32) v4.Lengths)), (.c (.flt .f32 v4.Fall.X.bits)), (.c (.flt .f32 v4.Fall.Y.bits)), (.c (.flt .f32 v4.Fall.Z.bits)), (.c (.flt .f32 v4.Damp.bits)), (.c (.int .i64 v4.Passes))])), (11, (.lst v10.1.length 1 (gl (csF .f32) v10.1)))]⟩) (ob := True ∧ True ∧ True ∧ (True ∧ (((v10.1.getD x37.toNat default).sub (v4.Lengths.getD x37.toNat default)).gt v12.1) = false) ∧ True ∧ True ∧ True ∧ True ∧ True ∧ True) (by kernel_rfl) ⟨trivial, trivial, trivial, ⟨trivial, b41⟩, trivial, trivial, trivial, trivial, trivial, trivial⟩ ⟨rfl, rfl⟩
          refine thenQ_normal ?_
          rcases ite2_cases h with ⟨b44, h⟩ | ⟨b44, h⟩
          · refine AW.cond_t rfl b44 ?_
            refine AW.seq ?_
            refine AW.regionA [] [4] [] (s' := ⟨[(4, (.v (.one (.c (.bool false)))))], []⟩) (ob := True ∧ True) (by kernel_rfl) ⟨trivial, trivial⟩ ?_
            refine thenQ_normal ?_
            refine AW.ret ?_
            refine thenQ_ret ?_
            refine blockQ_ret ?_
            refine thenQ_ret ?_
            refine loopQ_ret ?_
            refine blockQ_ret ?_
            refine thenQ_ret ?_
            replace h := some_eq h
            subst h
            exact ⟨.inr rfl, retOK_of [(.one (.c (.bool false)))] (by kernel_rfl) ⟨⟨rfl, trivial⟩, trivial⟩ (of_decide_eq_true (by kernel_rfl))⟩
          · refine AW.cond_f rfl b44 ?_
            refine AW.skip ?_
            refine thenQ_normal ?_
            obtain ⟨j47, e48, h⟩ := bind_some h
            refine AW.join1 (s2 := ⟨[(5, (.v (.one (.ptr 5 0)))), (9, (.v (.one (.lst 11 v10.1.length 1 (gl (csF .f32) v10.1))))), (11, (.v (.one (.c (.flt .f32 v12.1.bits))))), (14, (.v (.one (.c (.bool j47))))), (15, (.v (.one (.c (.int .i64 x37)))))], [(1, (.lst v4.Points.length 3 (gl cs_Vector v4.Points))), (2, (.lst v4.Before.length 3 (gl cs_Vector v4.Before))), (3, (.lst v4.Fixed.length 1 (gl csB v4.Fixed))), (4, (.lst v4.Lengths.length 1 (gl (csF .f32) v4.Lengths))), (5, (.box [(.lst 1 v4.Points.length 3 (gl cs_Vector v4.Points)), (.lst 2 v4.Before.length 3 (gl cs_Vector v4.Before)), (.lst 3 v4.Fixed.length 1 (gl csB v4.Fixed)), (.lst 4 v4.Lengths.length 1 (gl (csF .f32) v4.Lengths)), (.c (.flt .f32 v4.Fall.X.bits)), (.c (.flt .f32 v4.Fall.Y.bits)), (.c (.flt .f32 v4.Fall.Z.bits)), (.c (.flt .f32 v4.Damp.bits)), (.c (.int .i64 v4.Passes))])), (11, (.lst v10.1.length 1 (gl (csF .f32) v10.1)))]⟩) ?_ ?_
            · rcases ite2_cases e48 with ⟨b45, e48⟩ | ⟨b45, e48⟩
              · replace e48 := some_eq e48
                subst e48
                exact AW.regionA [.no, .dec true] [5, 9, 11, 14, 15] [1, 2, 3, 4, 5, 11] (s' := ⟨[(5, (.v (.one (.ptr 5 0)))), (9, (.v (.one (.lst 11 v10.1.length 1 (gl (csF .f32) v10.1))))), (11, (.v (.one (.c (.flt .f32 v12.1.bits))))), (14, (.v (.one (.c (.bool true))))), (15, (.v (.one (.c (.int .i64 x37)))))], [(1, (.lst v4.Points.length 3 (gl cs_Vector v4.Points))), (2, (.lst v4.Before.length 3 (gl cs_Vector v4.Before))), (3, (.lst v4.Fixed.length 1 (gl csB v4.Fixed))), (4, (.lst v4.Lengths.length 1 (gl (csF .f32) v4.Lengths))), (5, (.box [(.lst 1 v4.Points.length 3 (gl cs_Vector v4.Points)), (.lst 2 v4.Before.length 3 (gl cs_Vector v4.Before)), (.lst 3 v4.Fixed.length 1 (gl csB v4.Fixed)), (.lst 4 v4.Lengths.length 1 (gl (csF .f32) v4.Lengths)), (.c (.flt .f32 v4.Fall.X.bits)), (.c (.flt .f32 v4.Fall.Y.bits)), (.c (.flt .f32 v4.Fall.Z.bits)), (.c (.flt .f32 v4.Damp.bits)), (.c (.int .i64 v4.Passes))])), (11, (.lst v10.1.length 1 (gl (csF .f32) v10.1)))]⟩) (ob := True ∧ (True ∧ x36 = true) ∧ True ∧ True ∧ True ∧ True ∧ True ∧ True ∧ True ∧ True ∧ True ∧ True ∧ True ∧ True) (by kernel_rfl) ⟨trivial, ⟨trivial, b45⟩, trivial, trivial, trivial, trivial, trivial, trivial, trivial, trivial, trivial, trivial, trivial, trivial⟩ ⟨rfl, rfl⟩
              · rcases ite2_cases e48 with ⟨b46, e48⟩ | ⟨b46, e48⟩
                · replace e48 := some_eq e48
                  subst e48
                  exact AW.regionA [.no, .dec false, .no, .no, .no, .no, .dec true] [5, 9, 11, 14, 15] [1, 2, 3, 4, 5, 11] (s' := ⟨[(5, (.v (.one (.ptr 5 0)))), (9, (.v (.one (.lst 11 v10.1.length 1 (gl (csF .f32) v10.1))))), (11, (.v (.one (.c (.flt .f32 v12.1.bits))))), (14, (.v (.one (.c (.bool true))))), (15, (.v (.one (.c (.int .i64 x37)))))], [(1, (.lst v4.Points.length 3 (gl cs_Vector v4.Points))), (2, (.lst v4.Before.length 3 (gl cs_Vector v4.Before))), (3, (.lst v4.Fixed.length 1 (gl csB v4.Fixed))), (4, (.lst v4.Lengths.length 1 (gl (csF .f32) v4.Lengths))), (5, (.box [(.lst 1 v4.Points.length 3 (gl cs_Vector v4.Points)), (.lst 2 v4.Before.length 3 (gl cs_Vector v4.Before)), (.lst 3 v4.Fixed.length 1 (gl csB v4.Fixed)), (.lst 4 v4.Lengths.length 1 (gl (csF .f32) v4.Lengths)), (.c (.flt .f32 v4.Fall.X.bits)), (.c (.flt .f32 v4.Fall.Y.bits)), (.c (.flt .f32 v4.Fall.Z.bits)), (.c (.flt .f32 v4.Damp.bits)), (.c (.int .i64 v4.Passes))])), (11, (.lst v10.1.length 1 (gl (csF .f32) v10.1)))]⟩) (ob := True ∧ (True ∧ x36 = false) ∧ True ∧ True ∧ True ∧ True ∧ (True ∧ (((v10.1.getD x37.toNat default).sub (v4.Lengths.getD x37.toNat default)).eq v12.1) = true) ∧ True ∧ True ∧ True ∧ True ∧ True ∧ True ∧ True) (by kernel_rfl) ⟨trivial, ⟨trivial, b45⟩, trivial, trivial, trivial, trivial, ⟨trivial, b46⟩, trivial, trivial, trivial, trivial, trivial, trivial, trivial⟩ ⟨rfl, rfl⟩
                · replace e48 := some_eq e48
                  subst e48
                  exact AW.regionA [.no, .dec false, .no, .no, .no, .no, .dec false] [5, 9, 11, 14, 15] [1, 2, 3, 4, 5, 11] (s' := ⟨[(5, (.v (.one (.ptr 5 0)))), (9, (.v (.one (.lst 11 v10.1.length 1 (gl (csF .f32) v10.1))))), (11, (.v (.one (.c (.flt .f32 v12.1.bits))))), (14, (.v (.one (.c (.bool ((((v10.1.getD x37.toNat default).sub (v4.Lengths.getD x37.toNat default)).neg).eq v12.1)))))), (15, (.v (.one (.c (.int .i64 x37)))))], [(1, (.lst v4.Points.length 3 (gl cs_Vector v4.Points))), (2, (.lst v4.Before.length 3 (gl cs_Vector v4.Before))), (3, (.lst v4.Fixed.length 1 (gl csB v4.Fixed))), (4, (.lst v4.Lengths.length 1 (gl (csF .f32) v4.Lengths))), (5, (.box [(.lst 1 v4.Points.length 3 (gl cs_Vector v4.Points)), (.lst 2 v4.Before.length 3 (gl cs_Vector v4.Before)), (.lst 3 v4.Fixed.length 1 (gl csB v4.Fixed)), (.lst 4 v4.Lengths.length 1 (gl (csF .f32) v4.Lengths)), (.c (.flt .f32 v4.Fall.X.bits)), (.c (.flt .f32 v4.Fall.Y.bits)), (.c (.flt .f32 v4.Fall.Z.bits)), (.c (.flt .f32 v4.Damp.bits)), (.c (.int .i64 v4.Passes))])), (11, (.lst v10.1.length 1 (gl (csF .f32) v10.1)))]⟩) (ob := True ∧ (True ∧ x36 = false) ∧ True ∧ True ∧ True ∧ True ∧ (True ∧ (((v10.1.getD x37.toNat default).sub (v4.Lengths.getD x37.toNat default)).eq v12.1) = false) ∧ True ∧ True ∧ True ∧ True ∧ True ∧ True ∧ True) (by kernel_rfl) ⟨trivial, ⟨trivial, b45⟩, trivial, trivial, trivial, trivial, ⟨trivial, b46⟩, trivial, trivial, trivial, trivial, trivial, trivial, trivial⟩ ⟨rfl, rfl⟩
            refine blockQ_normal ?_
            refine thenQ_normal ?_
            refine AW.regionA [] [5, 9, 11, 14, 15] [1, 2, 3, 4, 5, 11] (s' := ⟨[(5, (.v (.one (.ptr 5 0)))), (9, (.v (.one (.lst 11 v10.1.length 1 (gl (csF .f32) v10.1))))), (11, (.v (.one (.c (.flt .f32 v12.1.bits))))), (14, (.v (.one (.c (.bool j47))))), (15, (.v (.one (.c (.int .i64 (IntKind.i64.wrap (x37 + (1 : Int))))))))], [(1, (.lst v4.Points.length 3 (gl cs_Vector v4.Points))), (2, (.lst v4.Before.length 3 (gl cs_Vector v4.Before))), (3, (.lst v4.Fixed.length 1 (gl csB v4.Fixed))), (4, (.lst v4.Lengths.length 1 (gl (csF .f32) v4.Lengths))), (5, (.box [(.lst 1 v4.Points.length 3 (gl cs_Vector v4.Points)), (.lst 2 v4.Before.length 3 (gl cs_Vector v4.Before)), (.lst 3 v4.Fixed.length 1 (gl csB v4.Fixed)), (.lst 4 v4.Lengths.length 1 (gl (csF .f32) v4.Lengths)), (.c (.flt .f32 v4.Fall.X.bits)), (.c (.flt .f32 v4.Fall.Y.bits)), (.c (.flt .f32 v4.Fall.Z.bits)), (.c (.flt .f32 v4.Damp.bits)), (.c (.int .i64 v4.Passes))])), (11, (.lst v10.1.length 1 (gl (csF .f32) v10.1)))]⟩) (ob := True ∧ True ∧ True ∧ True) (by kernel_rfl) ⟨trivial, trivial, trivial, trivial⟩ ?_
            exact loopQ_normal (k, j47, (IntKind.i64.wrap (x37 + (1 : Int)))) h (Nat.lt_succ_self k) (Sub.keep [5, 9, 11, 14, 15] [1, 2, 3, 4, 5, 11] (by kernel_rfl) (by kernel_rfl))
        · refine AW.cond_f rfl b38 ?_
          refine AW.exit ?_
          refine thenQ_exit ?_
          refine loopQ_exit ?_
          refine blockQ_exit ?_
          refine thenQ_normal ?_
          refine AW.seq ?_
          refine AW.regionA [] [4] [] (s' := ⟨[(4, (.v (.one (.c (.bool x36)))))], []⟩) (ob := True ∧ True ∧ True) (by kernel_rfl) ⟨trivial, trivial, trivial⟩ ?_
          refine thenQ_normal ?_
          refine AW.ret ?_
          replace h := some_eq h
          subst h
          exact ⟨.inr rfl, retOK_of [(.one (.c (.bool x36)))] (by kernel_rfl) ⟨⟨rfl, trivial⟩, trivial⟩ (of_decide_eq_true (by kernel_rfl))⟩

end
end Go.Fw
