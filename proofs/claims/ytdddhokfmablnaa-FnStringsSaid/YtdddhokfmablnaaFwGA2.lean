/- Functions of the program: what each computes, and that it computes just that. -/
import Derived.Test.YtdddhokfmablnaaFwTy
import Derived.Test.YtdddhokfmablnaaFwH
import Derived.Test.YtdddhokfmablnaaFwV
import Derived.Test.YtdddhokfmablnaaFwGA1
import Derived.Test.YtdddhokfmablnaaFwHF
import Derived.Test.YtdddhokfmablnaaFwMK
import Derived.Test.YtdddhokfmablnaaFwAB
import Derived.Test.YtdddhokfmablnaaProg
import Derived.KernelRfl
namespace Go.Fw
open Go Go.Proofs
noncomputable section
set_option maxRecDepth 10000

/-! (*impl.String).move -/
def impl_String_move_l5 (K : Nat) (a0 : String) (x6 : (List Vector)) : Nat → Int → (List Vector) → Option ((List Vector))
  | 0, _, _ => none
  | k + 1, x38, x39 => ite2 ((decide (x38 < (a0.Lengths.length : Int)))) ((impl_String_pull K (String.mk x39 x6 a0.Fixed a0.Lengths a0.Fall a0.Damp a0.Passes) x38).bind fun v41 => chk (v41.length = x39.length) (impl_String_move_l5 K a0 x6 k (IntKind.i64.wrap (x38 + (1 : Int))) v41)) (some x39)

def impl_String_move_l4 (K : Nat) (a0 : String) (x6 : (List Vector)) : Nat → Int → (List Vector) → Option ((List Vector) × (List Vector))
  | 0, _, _ => none
  | k + 1, x23, x24 => ite2 ((decide (x23 < a0.Passes))) ((impl_String_move_l5 K a0 x6 K (0 : Int) x24).bind fun j35 => impl_String_move_l4 K a0 x6 k (IntKind.i64.wrap (x23 + (1 : Int))) j35) (chk (x24.length = a0.Points.length) (chk (x6.length = a0.Before.length) (some (x24, x6))))

def impl_String_move_l1 (K : Nat) (a0 : String) : Nat → Int → (List Vector) → (List Vector) → Option ((List Vector) × (List Vector))
  | 0, _, _, _ => none
  | k + 1, x4, x5, x6 => ite2 ((decide (x4 < (a0.Points.length : Int)))) (chk (0 ≤ x4 ∧ x4 < (x5.length : Int)) (chk (0 ≤ x4 ∧ x4 < (a0.Fixed.length : Int)) (ite2 ((!(a0.Fixed.getD x4.toNat default))) (chk (0 ≤ x4 ∧ x4 < (x6.length : Int)) ((impl_LessVectors K (x5.getD x4.toNat default) (x6.getD x4.toNat default)).bind fun v12 => (impl_ScaleVector K v12 a0.Damp).bind fun v14 => (impl_AddVectors K (x5.getD x4.toNat default) v14).bind fun v16 => (impl_AddVectors K v16 a0.Fall).bind fun v18 => impl_String_move_l1 K a0 k (IntKind.i64.wrap (x4 + (1 : Int))) (x5.set x4.toNat v18) (x6.set x4.toNat (x5.getD x4.toNat default)))) (chk (0 ≤ x4 ∧ x4 < (x6.length : Int)) (impl_String_move_l1 K a0 k (IntKind.i64.wrap (x4 + (1 : Int))) x5 (x6.set x4.toNat (x5.getD x4.toNat default))))))) (impl_String_move_l4 K a0 x6 K (0 : Int) x5)

def impl_String_move (K : Nat) (a0 : String) : Option ((List Vector) × (List Vector)) :=
  impl_String_move_l1 K a0 K (0 : Int) a0.Points a0.Before

theorem ok_impl_String_move (K : Nat) (a0 : String) (o : ((List Vector) × (List Vector))) (h : impl_String_move K a0 = some o) : MutOK Try.prog 19 [(.boxm [(.mu (sl 3 cs_Vector a0.Points) (sl 3 cs_Vector o.1)), (.mu (sl 3 cs_Vector a0.Before) (sl 3 cs_Vector o.2)), (.ro (sl 1 csB a0.Fixed)), (.ro (sl 1 (csF .f32) a0.Lengths)), (.ro (.flt .f32 a0.Fall.X.bits)), (.ro (.flt .f32 a0.Fall.Y.bits)), (.ro (.flt .f32 a0.Fall.Z.bits)), (.ro (.flt .f32 a0.Damp.bits)), (.ro (.int .i64 a0.Passes))])] [] := by
  refine mutOK_of_AW 3 Try.func19 rfl (by kernel_rfl) (Nat.le_of_ble_eq_true (by kernel_rfl)) (by kernel_rfl) (by kernel_rfl) ?_
  intro w0 K0 v0 s0
  unfold impl_String_move at h
  refine AW.seq ?_
  refine AW.seq (AW.rA ⟨[(0, (vp 0 0)), (8, (.v (.one (.arr 1)))), (9, (vc (.int .i64 (a0.Points.length : Int)))), (10, (vc (.int .i64 (0 : Int))))], [(0, (.box [(.arr 1), (.arr 2), (.fx 0 2 (sl 1 csB a0.Fixed)), (.fx 0 3 (sl 1 (csF .f32) a0.Lengths)), (.fx 0 4 (.flt .f32 a0.Fall.X.bits)), (.fx 0 5 (.flt .f32 a0.Fall.Y.bits)), (.fx 0 6 (.flt .f32 a0.Fall.Z.bits)), (.fx 0 7 (.flt .f32 a0.Damp.bits)), (.fx 0 8 (.int .i64 a0.Passes))])), (1, (.arr true a0.Points.length 3 (gl cs_Vector a0.Points))), (2, (.arr true a0.Before.length 3 (gl cs_Vector a0.Before)))]⟩ (T2 (T4 Tt)) [] [0, 8, 9, 10] [0, 1, 2] ⟨tr, tr, tr, tr, tr, tr, tr⟩ (thenQ_normal ?_))
  refine AW.block ?_
  refine AW.loopQ (σ := Nat × Int × (List Vector) × (List Vector)) (fun p => ⟨[(0, (vp 0 0)), (8, (.v (.one (.arr 1)))), (9, (vc (.int .i64 (a0.Points.length : Int)))), (10, (vc (.int .i64 p.2.1)))], [(0, (.box [(.arr 1), (.arr 2), (.fx 0 2 (sl 1 csB a0.Fixed)), (.fx 0 3 (sl 1 (csF .f32) a0.Lengths)), (.fx 0 4 (.flt .f32 a0.Fall.X.bits)), (.fx 0 5 (.flt .f32 a0.Fall.Y.bits)), (.fx 0 6 (.flt .f32 a0.Fall.Z.bits)), (.fx 0 7 (.flt .f32 a0.Damp.bits)), (.fx 0 8 (.int .i64 a0.Passes))])), (1, (.arr true p.2.2.1.length 3 (gl cs_Vector p.2.2.1))), (2, (.arr true p.2.2.2.length 3 (gl cs_Vector p.2.2.2)))]⟩) (fun p => impl_String_move_l1 K a0 p.1 p.2.1 p.2.2.1 p.2.2.2 = some o) (fun p => p.1) (K, (0 : Int), a0.Points, a0.Before) h ?_
  clear h
  rintro ⟨k, x4, x5, x6⟩ h
  replace h : impl_String_move_l1 K a0 k x4 x5 x6 = some o := h
  show AW _ _ (⟨[(0, (vp 0 0)), (8, (.v (.one (.arr 1)))), (9, (vc (.int .i64 (a0.Points.length : Int)))), (10, (vc (.int .i64 x4)))], [(0, (.box [(.arr 1), (.arr 2), (.fx 0 2 (sl 1 csB a0.Fixed)), (.fx 0 3 (sl 1 (csF .f32) a0.Lengths)), (.fx 0 4 (.flt .f32 a0.Fall.X.bits)), (.fx 0 5 (.flt .f32 a0.Fall.Y.bits)), (.fx 0 6 (.flt .f32 a0.Fall.Z.bits)), (.fx 0 7 (.flt .f32 a0.Damp.bits)), (.fx 0 8 (.int .i64 a0.Passes))])), (1, (.arr true x5.length 3 (gl cs_Vector x5))), (2, (.arr true x6.length 3 (gl cs_Vector x6)))]⟩ : St) _
  obtain _ | k := k
  · rw [impl_String_move_l1] at h; cases h
  rw [impl_String_move_l1] at h
  refine AW.seq (AW.rA ⟨[(0, (vp 0 0)), (8, (.v (.one (.arr 1)))), (9, (vc (.int .i64 (a0.Points.length : Int)))), (10, (vc (.int .i64 x4))), (11, (vc (.bool (decide (x4 < (a0.Points.length : Int))))))], [(0, (.box [(.arr 1), (.arr 2), (.fx 0 2 (sl 1 csB a0.Fixed)), (.fx 0 3 (sl 1 (csF .f32) a0.Lengths)), (.fx 0 4 (.flt .f32 a0.Fall.X.bits)), (.fx 0 5 (.flt .f32 a0.Fall.Y.bits)), (.fx 0 6 (.flt .f32 a0.Fall.Z.bits)), (.fx 0 7 (.flt .f32 a0.Damp.bits)), (.fx 0 8 (.int .i64 a0.Passes))])), (1, (.arr true x5.length 3 (gl cs_Vector x5))), (2, (.arr true x6.length 3 (gl cs_Vector x6)))]⟩ (Tt ∧ Tt) [] [0, 8, 9, 10, 11] [0, 1, 2] ⟨tr, tr⟩ (thenQ_normal ?_))
  refine AW.seq ?_
  rcases ite2_cases h with ⟨b7, h⟩ | ⟨b7, h⟩
  · refine AW.cond_t rfl b7 ?_
    refine AW.skip ?_
    refine thenQ_normal ?_
    refine AW.seq ?_
    refine AW.block ?_
    refine AW.seq ?_
    obtain ⟨c8, h⟩ := chk_some h
    refine AW.rA ⟨[(0, (vp 0 0)), (2, (vc (.int .i64 x4))), (3, (vp 5 0)), (8, (.v (.one (.arr 1)))), (9, (vc (.int .i64 (a0.Points.length : Int)))), (10, (vc (.int .i64 x4)))], [(0, (.box [(.arr 1), (.arr 2), (.fx 0 2 (sl 1 csB a0.Fixed)), (.fx 0 3 (sl 1 (csF .f32) a0.Lengths)), (.fx 0 4 (.flt .f32 a0.Fall.X.bits)), (.fx 0 5 (.flt .f32 a0.Fall.Y.bits)), (.fx 0 6 (.flt .f32 a0.Fall.Z.bits)), (.fx 0 7 (.flt .f32 a0.Damp.bits)), (.fx 0 8 (.int .i64 a0.Passes))])), (1, (.arr true x5.length 3 (gl cs_Vector x5))), (2, (.arr true x6.length 3 (gl cs_Vector x6))), (5, (.box [(.c (.flt .f32 ((x5.getD x4.toNat default).X).bits)), (.c (.flt .f32 ((x5.getD x4.toNat default).Y).bits)), (.c (.flt .f32 ((x5.getD x4.toNat default).Z).bits))]))]⟩ (Tt ∧ (0 ≤ x4 ∧ x4 < (x5.length : Int)) ∧ T4 Tt) [.no, .no, .no, .box 5] [0, 2, 3, 8, 9, 10] [0, 1, 2, 5] ⟨tr, c8, tr, tr, tr, tr, tr⟩ ?_
    refine thenQ_normal ?_
    refine AW.seq ?_
    refine AW.seq ?_
    obtain ⟨c9, h⟩ := chk_some h
    refine AW.rA ⟨[(0, (vp 0 0)), (2, (vc (.int .i64 x4))), (3, (vp 5 0)), (8, (.v (.one (.arr 1)))), (9, (vc (.int .i64 (a0.Points.length : Int)))), (10, (vc (.int .i64 x4))), (22, (vc (.bool (!(a0.Fixed.getD x4.toNat default)))))], [(0, (.box [(.arr 1), (.arr 2), (.fx 0 2 (sl 1 csB a0.Fixed)), (.fx 0 3 (sl 1 (csF .f32) a0.Lengths)), (.fx 0 4 (.flt .f32 a0.Fall.X.bits)), (.fx 0 5 (.flt .f32 a0.Fall.Y.bits)), (.fx 0 6 (.flt .f32 a0.Fall.Z.bits)), (.fx 0 7 (.flt .f32 a0.Damp.bits)), (.fx 0 8 (.int .i64 a0.Passes))])), (1, (.arr true x5.length 3 (gl cs_Vector x5))), (2, (.arr true x6.length 3 (gl cs_Vector x6))), (5, (.box [(.c (.flt .f32 ((x5.getD x4.toNat default).X).bits)), (.c (.flt .f32 ((x5.getD x4.toNat default).Y).bits)), (.c (.flt .f32 ((x5.getD x4.toNat default).Z).bits))]))]⟩ (Tt ∧ T4 ((0 ≤ x4 ∧ x4 < (a0.Fixed.length : Int)) ∧ T2 Tt)) [] [0, 2, 3, 8, 9, 10, 22] [0, 1, 2, 5] ⟨tr, tr, tr, tr, tr, c9, tr, tr, tr⟩ ?_
    refine thenQ_normal ?_
    rcases ite2_cases h with ⟨b10, h⟩ | ⟨b10, h⟩
    · refine AW.cond_t rfl b10 ?_
      obtain ⟨c11, h⟩ := chk_some h
      obtain ⟨v12, e13, h⟩ := bind_some h
      obtain ⟨v14, e15, h⟩ := bind_some h
      obtain ⟨v16, e17, h⟩ := bind_some h
      obtain ⟨v18, e19, h⟩ := bind_some h
      refine AW.dA ⟨[(0, (vp 0 0)), (2, (vc (.int .i64 x4))), (3, (vp 5 0)), (8, (.v (.one (.arr 1)))), (9, (vc (.int .i64 (a0.Points.length : Int)))), (10, (vc (.int .i64 x4)))], [(0, (.box [(.arr 1), (.arr 2), (.fx 0 2 (sl 1 csB a0.Fixed)), (.fx 0 3 (sl 1 (csF .f32) a0.Lengths)), (.fx 0 4 (.flt .f32 a0.Fall.X.bits)), (.fx 0 5 (.flt .f32 a0.Fall.Y.bits)), (.fx 0 6 (.flt .f32 a0.Fall.Z.bits)), (.fx 0 7 (.flt .f32 a0.Damp.bits)), (.fx 0 8 (.int .i64 a0.Passes))])), (1, (.arr true (x5.set x4.toNat v18).length 3 (gl cs_Vector (x5.set x4.toNat v18)))), (2, (.arr true x6.length 3 (gl cs_Vector x6))), (5, (.box [(.c (.flt .f32 ((x5.getD x4.toNat default).X).bits)), (.c (.flt .f32 ((x5.getD x4.toNat default).Y).bits)), (.c (.flt .f32 ((x5.getD x4.toNat default).Z).bits))]))]⟩ ((T4 (T4 (T4 ((0 ≤ x4 ∧ x4 < (x6.length : Int)) ∧ Tt ∧ ((((Eqc (.flt .f32 ((x5.getD x4.toNat default).X).bits)) ∧ (Eqc (.flt .f32 ((x5.getD x4.toNat default).Y).bits)) ∧ (Eqc (.flt .f32 ((x5.getD x4.toNat default).Z).bits)) ∧ Tt) ∧ ((Eqc (.flt .f32 ((x6.getD x4.toNat default).X).bits)) ∧ (Eqc (.flt .f32 ((x6.getD x4.toNat default).Y).bits)) ∧ (Eqc (.flt .f32 ((x6.getD x4.toNat default).Z).bits)) ∧ Tt) ∧ Tt) ∧ CallOK Try.prog 40 [.agg (cs_Vector (x5.getD x4.toNat default)), .agg (cs_Vector (x6.getD x4.toNat default))] [.agg (cs_Vector v12)]) ∧ T4 (((((Eqc (.flt .f32 v12.X.bits)) ∧ (Eqc (.flt .f32 v12.Y.bits)) ∧ (Eqc (.flt .f32 v12.Z.bits)) ∧ Tt) ∧ (Eqc (.flt .f32 a0.Damp.bits)) ∧ Tt) ∧ CallOK Try.prog 39 [.agg (cs_Vector v12), .one (.flt .f32 a0.Damp.bits)] [.agg (cs_Vector v14)]) ∧ ((((Eqc (.flt .f32 ((x5.getD x4.toNat default).X).bits)) ∧ (Eqc (.flt .f32 ((x5.getD x4.toNat default).Y).bits)) ∧ (Eqc (.flt .f32 ((x5.getD x4.toNat default).Z).bits)) ∧ Tt) ∧ ((Eqc (.flt .f32 v14.X.bits)) ∧ (Eqc (.flt .f32 v14.Y.bits)) ∧ (Eqc (.flt .f32 v14.Z.bits)) ∧ Tt) ∧ Tt) ∧ CallOK Try.prog 38 [.agg (cs_Vector (x5.getD x4.toNat default)), .agg (cs_Vector v14)] [.agg (cs_Vector v16)]) ∧ T4 (((((Eqc (.flt .f32 v16.X.bits)) ∧ (Eqc (.flt .f32 v16.Y.bits)) ∧ (Eqc (.flt .f32 v16.Z.bits)) ∧ Tt) ∧ ((Eqc (.flt .f32 a0.Fall.X.bits)) ∧ (Eqc (.flt .f32 a0.Fall.Y.bits)) ∧ (Eqc (.flt .f32 a0.Fall.Z.bits)) ∧ Tt) ∧ Tt) ∧ CallOK Try.prog 38 [.agg (cs_Vector v16), .agg (cs_Vector a0.Fall)] [.agg (cs_Vector v18)]) ∧ (0 ≤ x4 ∧ x4 < (x5.length : Int)) ∧ Tt)))))) ∧ (((x5.set x4.toNat v18).length = x5.length ∧ SetOb x5.length 3 x4.toNat 0 3 (gl cs_Vector x5) (gl cs_Vector (x5.set x4.toNat v18)) ∧ ((List.range 3).map fun j => (cs_Vector v18).getD (0 + j) .nilptr) = ((List.range 3).map fun j => gl cs_Vector (x5.set x4.toNat v18) x4.toNat (0 + j)) ∧ ((((.flt .f32 v18.X.bits) : C) = (.flt .f32 v18.X.bits) ∧ Tt) ∧ (((.flt .f32 v18.Y.bits) : C) = (.flt .f32 v18.Y.bits) ∧ Tt) ∧ (((.flt .f32 v18.Z.bits) : C) = (.flt .f32 v18.Z.bits) ∧ Tt) ∧ Tt) ∧ (true = true → ∀ j, j < 3 → isSeq (gl cs_Vector x5 x4.toNat (0 + j)) = false ∧ isSeq (gl cs_Vector (x5.set x4.toNat v18) x4.toNat (0 + j)) = false)) ∧ Tt)) 27 [.no, .no, .no, .no, .no, .no, .no, .no, .no, .no, .no, .no, .no, .no, .call [.agg (cs_Vector (x5.getD x4.toNat default)), .agg (cs_Vector (x6.getD x4.toNat default))] [.agg (cs_Vector v12)] [[.view, .view, .view]], .no, .no, .no, .no, .call [.agg (cs_Vector v12), .one (.flt .f32 a0.Damp.bits)] [.agg (cs_Vector v14)] [[.view, .view, .view]], .call [.agg (cs_Vector (x5.getD x4.toNat default)), .agg (cs_Vector v14)] [.agg (cs_Vector v16)] [[.view, .view, .view]], .no, .no, .no, .no, .call [.agg (cs_Vector v16), .agg (cs_Vector a0.Fall)] [.agg (cs_Vector v18)] [[.view, .view, .view]], .no, .set (x5.set x4.toNat v18).length (gl cs_Vector (x5.set x4.toNat v18)) ((List.range 3).map fun j => (cs_Vector v18).getD (0 + j) .nilptr)] [0, 2, 3, 8, 9, 10] [0, 1, 2, 5] ⟨⟨tr, tr, tr, tr, tr, tr, tr, tr, tr, tr, tr, tr, c11, tr, ⟨⟨⟨rfl, rfl, rfl, tr⟩, ⟨rfl, rfl, rfl, tr⟩, tr⟩, ok_impl_LessVectors K (x5.getD x4.toNat default) (x6.getD x4.toNat default) v12 e13⟩, tr, tr, tr, tr, ⟨⟨⟨rfl, rfl, rfl, tr⟩, rfl, tr⟩, ok_impl_ScaleVector K v12 a0.Damp v14 e15⟩, ⟨⟨⟨rfl, rfl, rfl, tr⟩, ⟨rfl, rfl, rfl, tr⟩, tr⟩, ok_impl_AddVectors K (x5.getD x4.toNat default) v14 v16 e17⟩, tr, tr, tr, tr, ⟨⟨⟨rfl, rfl, rfl, tr⟩, ⟨rfl, rfl, rfl, tr⟩, tr⟩, ok_impl_AddVectors K v16 a0.Fall v18 e19⟩, c8, tr⟩, ⟨⟨List.length_set, gl_set, (gl_atp (lt_of_bound c8)).symm, ⟨⟨rfl, tr⟩, ⟨rfl, tr⟩, ⟨rfl, tr⟩, tr⟩, (fun _ j hj => match j, hj with | 0, _ => ⟨rfl, rfl⟩ | 1, _ => ⟨rfl, rfl⟩ | 2, _ => ⟨rfl, rfl⟩)⟩, tr⟩⟩ ?_
      refine thenQ_normal ?_
      refine AW.dA ⟨[(0, (vp 0 0)), (8, (.v (.one (.arr 1)))), (9, (vc (.int .i64 (a0.Points.length : Int)))), (10, (vc (.int .i64 x4)))], [(0, (.box [(.arr 1), (.arr 2), (.fx 0 2 (sl 1 csB a0.Fixed)), (.fx 0 3 (sl 1 (csF .f32) a0.Lengths)), (.fx 0 4 (.flt .f32 a0.Fall.X.bits)), (.fx 0 5 (.flt .f32 a0.Fall.Y.bits)), (.fx 0 6 (.flt .f32 a0.Fall.Z.bits)), (.fx 0 7 (.flt .f32 a0.Damp.bits)), (.fx 0 8 (.int .i64 a0.Passes))])), (1, (.arr true (x5.set x4.toNat v18).length 3 (gl cs_Vector (x5.set x4.toNat v18)))), (2, (.arr true (x6.set x4.toNat (x5.getD x4.toNat default)).length 3 (gl cs_Vector (x6.set x4.toNat (x5.getD x4.toNat default)))))]⟩ ((T2 (T4 ((0 ≤ x4 ∧ x4 < (x6.length : Int)) ∧ Tt))) ∧ (((x6.set x4.toNat (x5.getD x4.toNat default)).length = x6.length ∧ SetOb x6.length 3 x4.toNat 0 3 (gl cs_Vector x6) (gl cs_Vector (x6.set x4.toNat (x5.getD x4.toNat default))) ∧ ((List.range 3).map fun j => (cs_Vector (x5.getD x4.toNat default)).getD (0 + j) .nilptr) = ((List.range 3).map fun j => gl cs_Vector (x6.set x4.toNat (x5.getD x4.toNat default)) x4.toNat (0 + j)) ∧ ((((.flt .f32 ((x5.getD x4.toNat default).X).bits) : C) = (.flt .f32 ((x5.getD x4.toNat default).X).bits) ∧ Tt) ∧ (((.flt .f32 ((x5.getD x4.toNat default).Y).bits) : C) = (.flt .f32 ((x5.getD x4.toNat default).Y).bits) ∧ Tt) ∧ (((.flt .f32 ((x5.getD x4.toNat default).Z).bits) : C) = (.flt .f32 ((x5.getD x4.toNat default).Z).bits) ∧ Tt) ∧ Tt) ∧ (true = true → ∀ j, j < 3 → isSeq (gl cs_Vector x6 x4.toNat (0 + j)) = false ∧ isSeq (gl cs_Vector (x6.set x4.toNat (x5.getD x4.toNat default)) x4.toNat (0 + j)) = false)) ∧ Tt)) 7 [.no, .no, .no, .no, .no, .no, .no, .set (x6.set x4.toNat (x5.getD x4.toNat default)).length (gl cs_Vector (x6.set x4.toNat (x5.getD x4.toNat default))) ((List.range 3).map fun j => (cs_Vector (x5.getD x4.toNat default)).getD (0 + j) .nilptr)] [0, 8, 9, 10] [0, 1, 2] ⟨⟨tr, tr, tr, tr, tr, tr, c11, tr⟩, ⟨⟨List.length_set, gl_set, (gl_atp (lt_of_bound c11)).symm, ⟨⟨rfl, tr⟩, ⟨rfl, tr⟩, ⟨rfl, tr⟩, tr⟩, (fun _ j hj => match j, hj with | 0, _ => ⟨rfl, rfl⟩ | 1, _ => ⟨rfl, rfl⟩ | 2, _ => ⟨rfl, rfl⟩)⟩, tr⟩⟩ ?_
      refine blockQ_normal ?_
      refine thenQ_normal ?_
      refine AW.rA ⟨[(0, (vp 0 0)), (8, (.v (.one (.arr 1)))), (9, (vc (.int .i64 (a0.Points.length : Int)))), (10, (vc (.int .i64 (IntKind.i64.wrap (x4 + (1 : Int))))))], [(0, (.box [(.arr 1), (.arr 2), (.fx 0 2 (sl 1 csB a0.Fixed)), (.fx 0 3 (sl 1 (csF .f32) a0.Lengths)), (.fx 0 4 (.flt .f32 a0.Fall.X.bits)), (.fx 0 5 (.flt .f32 a0.Fall.Y.bits)), (.fx 0 6 (.flt .f32 a0.Fall.Z.bits)), (.fx 0 7 (.flt .f32 a0.Damp.bits)), (.fx 0 8 (.int .i64 a0.Passes))])), (1, (.arr true (x5.set x4.toNat v18).length 3 (gl cs_Vector (x5.set x4.toNat v18)))), (2, (.arr true (x6.set x4.toNat (x5.getD x4.toNat default)).length 3 (gl cs_Vector (x6.set x4.toNat (x5.getD x4.toNat default)))))]⟩ (T2 Tt) [] [0, 8, 9, 10] [0, 1, 2] ⟨tr, tr, tr⟩ ?_
      exact loopQ_normal (k, (IntKind.i64.wrap (x4 + (1 : Int))), (x5.set x4.toNat v18), (x6.set x4.toNat (x5.getD x4.toNat default))) h (Nat.lt_succ_self k) (Sub.keep [0, 8, 9, 10] [0, 1, 2] (by kernel_rfl) (by kernel_rfl))
    · refine AW.cond_f rfl b10 ?_
      refine AW.skip ?_
      refine thenQ_normal ?_
      obtain ⟨c20, h⟩ := chk_some h
      refine AW.dA ⟨[(0, (vp 0 0)), (8, (.v (.one (.arr 1)))), (9, (vc (.int .i64 (a0.Points.length : Int)))), (10, (vc (.int .i64 x4)))], [(0, (.box [(.arr 1), (.arr 2), (.fx 0 2 (sl 1 csB a0.Fixed)), (.fx 0 3 (sl 1 (csF .f32) a0.Lengths)), (.fx 0 4 (.flt .f32 a0.Fall.X.bits)), (.fx 0 5 (.flt .f32 a0.Fall.Y.bits)), (.fx 0 6 (.flt .f32 a0.Fall.Z.bits)), (.fx 0 7 (.flt .f32 a0.Damp.bits)), (.fx 0 8 (.int .i64 a0.Passes))])), (1, (.arr true x5.length 3 (gl cs_Vector x5))), (2, (.arr true (x6.set x4.toNat (x5.getD x4.toNat default)).length 3 (gl cs_Vector (x6.set x4.toNat (x5.getD x4.toNat default)))))]⟩ ((T2 (T4 ((0 ≤ x4 ∧ x4 < (x6.length : Int)) ∧ Tt))) ∧ (((x6.set x4.toNat (x5.getD x4.toNat default)).length = x6.length ∧ SetOb x6.length 3 x4.toNat 0 3 (gl cs_Vector x6) (gl cs_Vector (x6.set x4.toNat (x5.getD x4.toNat default))) ∧ ((List.range 3).map fun j => (cs_Vector (x5.getD x4.toNat default)).getD (0 + j) .nilptr) = ((List.range 3).map fun j => gl cs_Vector (x6.set x4.toNat (x5.getD x4.toNat default)) x4.toNat (0 + j)) ∧ ((((.flt .f32 ((x5.getD x4.toNat default).X).bits) : C) = (.flt .f32 ((x5.getD x4.toNat default).X).bits) ∧ Tt) ∧ (((.flt .f32 ((x5.getD x4.toNat default).Y).bits) : C) = (.flt .f32 ((x5.getD x4.toNat default).Y).bits) ∧ Tt) ∧ (((.flt .f32 ((x5.getD x4.toNat default).Z).bits) : C) = (.flt .f32 ((x5.getD x4.toNat default).Z).bits) ∧ Tt) ∧ Tt) ∧ (true = true → ∀ j, j < 3 → isSeq (gl cs_Vector x6 x4.toNat (0 + j)) = false ∧ isSeq (gl cs_Vector (x6.set x4.toNat (x5.getD x4.toNat default)) x4.toNat (0 + j)) = false)) ∧ Tt)) 7 [.no, .no, .no, .no, .no, .no, .no, .set (x6.set x4.toNat (x5.getD x4.toNat default)).length (gl cs_Vector (x6.set x4.toNat (x5.getD x4.toNat default))) ((List.range 3).map fun j => (cs_Vector (x5.getD x4.toNat default)).getD (0 + j) .nilptr)] [0, 8, 9, 10] [0, 1, 2] ⟨⟨tr, tr, tr, tr, tr, tr, c20, tr⟩, ⟨⟨List.length_set, gl_set, (gl_atp (lt_of_bound c20)).symm, ⟨⟨rfl, tr⟩, ⟨rfl, tr⟩, ⟨rfl, tr⟩, tr⟩, (fun _ j hj => match j, hj with | 0, _ => ⟨rfl, rfl⟩ | 1, _ => ⟨rfl, rfl⟩ | 2, _ => ⟨rfl, rfl⟩)⟩, tr⟩⟩ ?_
      refine blockQ_normal ?_
      refine thenQ_normal ?_
      refine AW.rA ⟨[(0, (vp 0 0)), (8, (.v (.one (.arr 1)))), (9, (vc (.int .i64 (a0.Points.length : Int)))), (10, (vc (.int .i64 (IntKind.i64.wrap (x4 + (1 : Int))))))], [(0, (.box [(.arr 1), (.arr 2), (.fx 0 2 (sl 1 csB a0.Fixed)), (.fx 0 3 (sl 1 (csF .f32) a0.Lengths)), (.fx 0 4 (.flt .f32 a0.Fall.X.bits)), (.fx 0 5 (.flt .f32 a0.Fall.Y.bits)), (.fx 0 6 (.flt .f32 a0.Fall.Z.bits)), (.fx 0 7 (.flt .f32 a0.Damp.bits)), (.fx 0 8 (.int .i64 a0.Passes))])), (1, (.arr true x5.length 3 (gl cs_Vector x5))), (2, (.arr true (x6.set x4.toNat (x5.getD x4.toNat default)).length 3 (gl cs_Vector (x6.set x4.toNat (x5.getD x4.toNat default)))))]⟩ (T2 Tt) [] [0, 8, 9, 10] [0, 1, 2] ⟨tr, tr, tr⟩ ?_
      exact loopQ_normal (k, (IntKind.i64.wrap (x4 + (1 : Int))), x5, (x6.set x4.toNat (x5.getD x4.toNat default))) h (Nat.lt_succ_self k) (Sub.keep [0, 8, 9, 10] [0, 1, 2] (by kernel_rfl) (by kernel_rfl))
  · refine AW.cond_f rfl b7 ?_
    refine AW.exit ?_
    refine thenQ_exit ?_
    refine loopQ_exit ?_
    refine blockQ_exit ?_
    refine thenQ_normal ?_
    refine AW.seq (AW.rA ⟨[(0, (vp 0 0)), (61, (vc (.int .i64 a0.Passes))), (62, (vc (.int .i64 (0 : Int))))], [(0, (.box [(.arr 1), (.arr 2), (.fx 0 2 (sl 1 csB a0.Fixed)), (.fx 0 3 (sl 1 (csF .f32) a0.Lengths)), (.fx 0 4 (.flt .f32 a0.Fall.X.bits)), (.fx 0 5 (.flt .f32 a0.Fall.Y.bits)), (.fx 0 6 (.flt .f32 a0.Fall.Z.bits)), (.fx 0 7 (.flt .f32 a0.Damp.bits)), (.fx 0 8 (.int .i64 a0.Passes))])), (1, (.arr true x5.length 3 (gl cs_Vector x5))), (2, (.arr true x6.length 3 (gl cs_Vector x6)))]⟩ (Tt ∧ T4 Tt) [] [0, 61, 62] [0, 1, 2] ⟨tr, tr, tr, tr, tr, tr⟩ (thenQ_normal ?_))
    refine AW.block ?_
    refine AW.loopQ (σ := Nat × Int × (List Vector)) (fun p => ⟨[(0, (vp 0 0)), (61, (vc (.int .i64 a0.Passes))), (62, (vc (.int .i64 p.2.1)))], [(0, (.box [(.arr 1), (.arr 2), (.fx 0 2 (sl 1 csB a0.Fixed)), (.fx 0 3 (sl 1 (csF .f32) a0.Lengths)), (.fx 0 4 (.flt .f32 a0.Fall.X.bits)), (.fx 0 5 (.flt .f32 a0.Fall.Y.bits)), (.fx 0 6 (.flt .f32 a0.Fall.Z.bits)), (.fx 0 7 (.flt .f32 a0.Damp.bits)), (.fx 0 8 (.int .i64 a0.Passes))])), (1, (.arr true p.2.2.length 3 (gl cs_Vector p.2.2))), (2, (.arr true x6.length 3 (gl cs_Vector x6)))]⟩) (fun p => impl_String_move_l4 K a0 x6 p.1 p.2.1 p.2.2 = some o) (fun p => p.1) (K, (0 : Int), x5) h ?_
    clear h
    rintro ⟨k, x23, x24⟩ h
    replace h : impl_String_move_l4 K a0 x6 k x23 x24 = some o := h
    show AW _ _ (⟨[(0, (vp 0 0)), (61, (vc (.int .i64 a0.Passes))), (62, (vc (.int .i64 x23)))], [(0, (.box [(.arr 1), (.arr 2), (.fx 0 2 (sl 1 csB a0.Fixed)), (.fx 0 3 (sl 1 (csF .f32) a0.Lengths)), (.fx 0 4 (.flt .f32 a0.Fall.X.bits)), (.fx 0 5 (.flt .f32 a0.Fall.Y.bits)), (.fx 0 6 (.flt .f32 a0.Fall.Z.bits)), (.fx 0 7 (.flt .f32 a0.Damp.bits)), (.fx 0 8 (.int .i64 a0.Passes))])), (1, (.arr true x24.length 3 (gl cs_Vector x24))), (2, (.arr true x6.length 3 (gl cs_Vector x6)))]⟩ : St) _
    obtain _ | k := k
    · rw [impl_String_move_l4] at h; cases h
    rw [impl_String_move_l4] at h
    refine AW.seq (AW.rA ⟨[(0, (vp 0 0)), (61, (vc (.int .i64 a0.Passes))), (62, (vc (.int .i64 x23))), (63, (vc (.bool (decide (x23 < a0.Passes)))))], [(0, (.box [(.arr 1), (.arr 2), (.fx 0 2 (sl 1 csB a0.Fixed)), (.fx 0 3 (sl 1 (csF .f32) a0.Lengths)), (.fx 0 4 (.flt .f32 a0.Fall.X.bits)), (.fx 0 5 (.flt .f32 a0.Fall.Y.bits)), (.fx 0 6 (.flt .f32 a0.Fall.Z.bits)), (.fx 0 7 (.flt .f32 a0.Damp.bits)), (.fx 0 8 (.int .i64 a0.Passes))])), (1, (.arr true x24.length 3 (gl cs_Vector x24))), (2, (.arr true x6.length 3 (gl cs_Vector x6)))]⟩ (Tt ∧ Tt) [] [0, 61, 62, 63] [0, 1, 2] ⟨tr, tr⟩ (thenQ_normal ?_))
    refine AW.seq ?_
    rcases ite2_cases h with ⟨b25, h⟩ | ⟨b25, h⟩
    · refine AW.cond_t rfl b25 ?_
      refine AW.skip ?_
      refine thenQ_normal ?_
      refine AW.seq ?_
      refine AW.block ?_
      refine AW.seq (AW.rA ⟨[(0, (vp 0 0)), (61, (vc (.int .i64 a0.Passes))), (62, (vc (.int .i64 x23))), (68, (vc (.int .i64 (a0.Lengths.length : Int)))), (69, (vc (.int .i64 (0 : Int))))], [(0, (.box [(.arr 1), (.arr 2), (.fx 0 2 (sl 1 csB a0.Fixed)), (.fx 0 3 (sl 1 (csF .f32) a0.Lengths)), (.fx 0 4 (.flt .f32 a0.Fall.X.bits)), (.fx 0 5 (.flt .f32 a0.Fall.Y.bits)), (.fx 0 6 (.flt .f32 a0.Fall.Z.bits)), (.fx 0 7 (.flt .f32 a0.Damp.bits)), (.fx 0 8 (.int .i64 a0.Passes))])), (1, (.arr true x24.length 3 (gl cs_Vector x24))), (2, (.arr true x6.length 3 (gl cs_Vector x6)))]⟩ (T2 (T4 Tt)) [] [0, 61, 62, 68, 69] [0, 1, 2] ⟨tr, tr, tr, tr, tr, tr, tr⟩ (thenQ_normal ?_))
      obtain ⟨j35, e34, h⟩ := bind_some h
      refine AW.joinS (s2 := ⟨[(0, (vp 0 0)), (61, (vc (.int .i64 a0.Passes))), (62, (vc (.int .i64 x23)))], [(0, (.box [(.arr 1), (.arr 2), (.fx 0 2 (sl 1 csB a0.Fixed)), (.fx 0 3 (sl 1 (csF .f32) a0.Lengths)), (.fx 0 4 (.flt .f32 a0.Fall.X.bits)), (.fx 0 5 (.flt .f32 a0.Fall.Y.bits)), (.fx 0 6 (.flt .f32 a0.Fall.Z.bits)), (.fx 0 7 (.flt .f32 a0.Damp.bits)), (.fx 0 8 (.int .i64 a0.Passes))])), (1, (.arr true j35.length 3 (gl cs_Vector j35))), (2, (.arr true x6.length 3 (gl cs_Vector x6)))]⟩) ?_ ?_
      · replace h := e34
        refine AW.block ?_
        refine AW.loopQ (σ := Nat × Int × (List Vector)) (fun p => ⟨[(0, (vp 0 0)), (61, (vc (.int .i64 a0.Passes))), (62, (vc (.int .i64 x23))), (68, (vc (.int .i64 (a0.Lengths.length : Int)))), (69, (vc (.int .i64 p.2.1)))], [(0, (.box [(.arr 1), (.arr 2), (.fx 0 2 (sl 1 csB a0.Fixed)), (.fx 0 3 (sl 1 (csF .f32) a0.Lengths)), (.fx 0 4 (.flt .f32 a0.Fall.X.bits)), (.fx 0 5 (.flt .f32 a0.Fall.Y.bits)), (.fx 0 6 (.flt .f32 a0.Fall.Z.bits)), (.fx 0 7 (.flt .f32 a0.Damp.bits)), (.fx 0 8 (.int .i64 a0.Passes))])), (1, (.arr true p.2.2.length 3 (gl cs_Vector p.2.2))), (2, (.arr true x6.length 3 (gl cs_Vector x6)))]⟩) (fun p => impl_String_move_l5 K a0 x6 p.1 p.2.1 p.2.2 = some j35) (fun p => p.1) (K, (0 : Int), x24) h ?_
        clear h
        rintro ⟨k, x38, x39⟩ h
        replace h : impl_String_move_l5 K a0 x6 k x38 x39 = some j35 := h
        show AW _ _ (⟨[(0, (vp 0 0)), (61, (vc (.int .i64 a0.Passes))), (62, (vc (.int .i64 x23))), (68, (vc (.int .i64 (a0.Lengths.length : Int)))), (69, (vc (.int .i64 x38)))], [(0, (.box [(.arr 1), (.arr 2), (.fx 0 2 (sl 1 csB a0.Fixed)), (.fx 0 3 (sl 1 (csF .f32) a0.Lengths)), (.fx 0 4 (.flt .f32 a0.Fall.X.bits)), (.fx 0 5 (.flt .f32 a0.Fall.Y.bits)), (.fx 0 6 (.flt .f32 a0.Fall.Z.bits)), (.fx 0 7 (.flt .f32 a0.Damp.bits)), (.fx 0 8 (.int .i64 a0.Passes))])), (1, (.arr true x39.length 3 (gl cs_Vector x39))), (2, (.arr true x6.length 3 (gl cs_Vector x6)))]⟩ : St) _
        obtain _ | k := k
        · rw [impl_String_move_l5] at h; cases h
        rw [impl_String_move_l5] at h
        refine AW.seq (AW.rA ⟨[(0, (vp 0 0)), (61, (vc (.int .i64 a0.Passes))), (62, (vc (.int .i64 x23))), (68, (vc (.int .i64 (a0.Lengths.length : Int)))), (69, (vc (.int .i64 x38))), (70, (vc (.bool (decide (x38 < (a0.Lengths.length : Int))))))], [(0, (.box [(.arr 1), (.arr 2), (.fx 0 2 (sl 1 csB a0.Fixed)), (.fx 0 3 (sl 1 (csF .f32) a0.Lengths)), (.fx 0 4 (.flt .f32 a0.Fall.X.bits)), (.fx 0 5 (.flt .f32 a0.Fall.Y.bits)), (.fx 0 6 (.flt .f32 a0.Fall.Z.bits)), (.fx 0 7 (.flt .f32 a0.Damp.bits)), (.fx 0 8 (.int .i64 a0.Passes))])), (1, (.arr true x39.length 3 (gl cs_Vector x39))), (2, (.arr true x6.length 3 (gl cs_Vector x6)))]⟩ (Tt ∧ Tt) [] [0, 61, 62, 68, 69, 70] [0, 1, 2] ⟨tr, tr⟩ (thenQ_normal ?_))
        refine AW.seq ?_
        rcases ite2_cases h with ⟨b40, h⟩ | ⟨b40, h⟩
        · refine AW.cond_t rfl b40 ?_
          refine AW.skip ?_
          refine thenQ_normal ?_
          refine AW.seq ?_
          refine AW.block ?_
          refine AW.seq (AW.rA ⟨[(0, (vp 0 0)), (4, (vc (.int .i64 x38))), (61, (vc (.int .i64 a0.Passes))), (62, (vc (.int .i64 x23))), (68, (vc (.int .i64 (a0.Lengths.length : Int)))), (69, (vc (.int .i64 x38)))], [(0, (.box [(.arr 1), (.arr 2), (.fx 0 2 (sl 1 csB a0.Fixed)), (.fx 0 3 (sl 1 (csF .f32) a0.Lengths)), (.fx 0 4 (.flt .f32 a0.Fall.X.bits)), (.fx 0 5 (.flt .f32 a0.Fall.Y.bits)), (.fx 0 6 (.flt .f32 a0.Fall.Z.bits)), (.fx 0 7 (.flt .f32 a0.Damp.bits)), (.fx 0 8 (.int .i64 a0.Passes))])), (1, (.arr true x39.length 3 (gl cs_Vector x39))), (2, (.arr true x6.length 3 (gl cs_Vector x6)))]⟩ (T2 Tt) [] [0, 4, 61, 62, 68, 69] [0, 1, 2] ⟨tr, tr, tr⟩ (thenQ_normal ?_))
          obtain ⟨v41, e42, h⟩ := bind_some h
          obtain ⟨c43, h⟩ := chk_some h
          refine AW.rA ⟨[(0, (vp 0 0)), (61, (vc (.int .i64 a0.Passes))), (62, (vc (.int .i64 x23))), (68, (vc (.int .i64 (a0.Lengths.length : Int)))), (69, (vc (.int .i64 x38)))], [(0, (.box [(.arr 1), (.arr 2), (.fx 0 2 (sl 1 csB a0.Fixed)), (.fx 0 3 (sl 1 (csF .f32) a0.Lengths)), (.fx 0 4 (.flt .f32 a0.Fall.X.bits)), (.fx 0 5 (.flt .f32 a0.Fall.Y.bits)), (.fx 0 6 (.flt .f32 a0.Fall.Z.bits)), (.fx 0 7 (.flt .f32 a0.Damp.bits)), (.fx 0 8 (.int .i64 a0.Passes))])), (1, (.arr true v41.length 3 (gl cs_Vector v41))), (2, (.arr true x6.length 3 (gl cs_Vector x6)))]⟩ (T2 (((((((sl 3 cs_Vector x39) : C) = (sl 3 cs_Vector x39) ∧ v41.length = x39.length ∧ 3 = 3 ∧ ∀ i j, i < x39.length → j < 3 → isSeq (gl cs_Vector v41 i j) = isSeq (gl cs_Vector x39 i j)) ∧ (Eqc (sl 3 cs_Vector x6)) ∧ (Eqc (sl 1 csB a0.Fixed)) ∧ (Eqc (sl 1 (csF .f32) a0.Lengths)) ∧ (Eqc (.flt .f32 a0.Fall.X.bits)) ∧ (Eqc (.flt .f32 a0.Fall.Y.bits)) ∧ (Eqc (.flt .f32 a0.Fall.Z.bits)) ∧ (Eqc (.flt .f32 a0.Damp.bits)) ∧ (Eqc (.int .i64 a0.Passes)) ∧ Tt) ∧ (Eqc (.int .i64 x38)) ∧ Tt) ∧ MutOK Try.prog 41 [(.boxm [(.mu (sl 3 cs_Vector x39) (sl 3 cs_Vector v41)), (.ro (sl 3 cs_Vector x6)), (.ro (sl 1 csB a0.Fixed)), (.ro (sl 1 (csF .f32) a0.Lengths)), (.ro (.flt .f32 a0.Fall.X.bits)), (.ro (.flt .f32 a0.Fall.Y.bits)), (.ro (.flt .f32 a0.Fall.Z.bits)), (.ro (.flt .f32 a0.Damp.bits)), (.ro (.int .i64 a0.Passes))]), .one (.ro (.int .i64 x38))] []) ∧ Tt)) [.no, .no, .callM [(.boxm [(.mu (sl 3 cs_Vector x39) (sl 3 cs_Vector v41)), (.ro (sl 3 cs_Vector x6)), (.ro (sl 1 csB a0.Fixed)), (.ro (sl 1 (csF .f32) a0.Lengths)), (.ro (.flt .f32 a0.Fall.X.bits)), (.ro (.flt .f32 a0.Fall.Y.bits)), (.ro (.flt .f32 a0.Fall.Z.bits)), (.ro (.flt .f32 a0.Damp.bits)), (.ro (.int .i64 a0.Passes))]), .one (.ro (.int .i64 x38))] [] [] none] [0, 61, 62, 68, 69] [0, 1, 2] ⟨tr, tr, ⟨⟨⟨⟨rfl, c43, rfl, gl_seq sq_Vector⟩, rfl, rfl, rfl, rfl, rfl, rfl, rfl, rfl, tr⟩, rfl, tr⟩, ok_impl_String_pull K (String.mk x39 x6 a0.Fixed a0.Lengths a0.Fall a0.Damp a0.Passes) x38 v41 e42⟩, tr⟩ ?_
          refine blockQ_normal ?_
          refine thenQ_normal ?_
          refine AW.rA ⟨[(0, (vp 0 0)), (61, (vc (.int .i64 a0.Passes))), (62, (vc (.int .i64 x23))), (68, (vc (.int .i64 (a0.Lengths.length : Int)))), (69, (vc (.int .i64 (IntKind.i64.wrap (x38 + (1 : Int))))))], [(0, (.box [(.arr 1), (.arr 2), (.fx 0 2 (sl 1 csB a0.Fixed)), (.fx 0 3 (sl 1 (csF .f32) a0.Lengths)), (.fx 0 4 (.flt .f32 a0.Fall.X.bits)), (.fx 0 5 (.flt .f32 a0.Fall.Y.bits)), (.fx 0 6 (.flt .f32 a0.Fall.Z.bits)), (.fx 0 7 (.flt .f32 a0.Damp.bits)), (.fx 0 8 (.int .i64 a0.Passes))])), (1, (.arr true v41.length 3 (gl cs_Vector v41))), (2, (.arr true x6.length 3 (gl cs_Vector x6)))]⟩ (T2 Tt) [] [0, 61, 62, 68, 69] [0, 1, 2] ⟨tr, tr, tr⟩ ?_
          exact loopQ_normal (k, (IntKind.i64.wrap (x38 + (1 : Int))), v41) h (Nat.lt_succ_self k) (Sub.keep [0, 61, 62, 68, 69] [0, 1, 2] (by kernel_rfl) (by kernel_rfl))
        · refine AW.cond_f rfl b40 ?_
          refine AW.exit ?_
          refine thenQ_exit ?_
          refine loopQ_exit ?_
          refine blockQ_exit ?_
          replace h := some_eq h
          subst h
          exact ⟨rfl, Sub.keep [0, 61, 62] [0, 1, 2] (by kernel_rfl) (by kernel_rfl)⟩
      refine blockQ_normal ?_
      refine thenQ_normal ?_
      refine AW.rA ⟨[(0, (vp 0 0)), (61, (vc (.int .i64 a0.Passes))), (62, (vc (.int .i64 (IntKind.i64.wrap (x23 + (1 : Int))))))], [(0, (.box [(.arr 1), (.arr 2), (.fx 0 2 (sl 1 csB a0.Fixed)), (.fx 0 3 (sl 1 (csF .f32) a0.Lengths)), (.fx 0 4 (.flt .f32 a0.Fall.X.bits)), (.fx 0 5 (.flt .f32 a0.Fall.Y.bits)), (.fx 0 6 (.flt .f32 a0.Fall.Z.bits)), (.fx 0 7 (.flt .f32 a0.Damp.bits)), (.fx 0 8 (.int .i64 a0.Passes))])), (1, (.arr true j35.length 3 (gl cs_Vector j35))), (2, (.arr true x6.length 3 (gl cs_Vector x6)))]⟩ (T2 Tt) [] [0, 61, 62] [0, 1, 2] ⟨tr, tr, tr⟩ ?_
      exact loopQ_normal (k, (IntKind.i64.wrap (x23 + (1 : Int))), j35) h (Nat.lt_succ_self k) (Sub.keep [0, 61, 62] [0, 1, 2] (by kernel_rfl) (by kernel_rfl))
    · refine AW.cond_f rfl b25 ?_
      refine AW.exit ?_
      refine thenQ_exit ?_
      refine loopQ_exit ?_
      refine blockQ_exit ?_
      obtain ⟨c44, h⟩ := chk_some h
      obtain ⟨c45, h⟩ := chk_some h
      replace h := some_eq h
      subst h
      exact ⟨.inl rfl, retOK_of [] (by kernel_rfl) tr (of_decide_eq_true (by kernel_rfl)), by kernel_rfl, ⟨⟨⟨⟨c44, rfl, rfl⟩, ⟨c45, rfl, rfl⟩, tr, tr, tr, tr, tr, tr, tr, tr⟩, ⟨rfl, rfl, ⟨rfl, rfl⟩, ⟨rfl, rfl⟩, ⟨rfl, rfl⟩, ⟨rfl, rfl⟩, ⟨rfl, rfl⟩, ⟨rfl, rfl⟩, ⟨rfl, rfl⟩, tr⟩⟩, tr⟩⟩

/-! impl.RunString -/
def impl_RunString_l1 (K : Nat) (a1 : Int) (v9 : (String)) : Nat → Int → (List Vector) → (List Vector) → Option (String × Bool)
  | 0, _, _, _ => none
  | k + 1, x14, x15, x16 => ite2 ((decide (x14 < a1))) ((impl_String_move K (String.mk x15 x16 v9.Fixed v9.Lengths v9.Fall v9.Damp v9.Passes)).bind fun v18 => chk (v18.1.length = x15.length) (chk (v18.2.length = x16.length) (impl_RunString_l1 K a1 v9 k (IntKind.i64.wrap (x14 + (1 : Int))) v18.1 v18.2))) (some ((String.mk x15 x16 v9.Fixed v9.Lengths v9.Fall v9.Damp v9.Passes), true))

def impl_RunString (K : Nat) (a0 : String) (a1 : Int) : Option (String × Bool) :=
  (impl_ValidString K a0).bind fun v1 => (ite2 ((!v1)) (some true) ((impl_isMoves K a1).bind fun v4 => some (!v4))).bind fun j6 => ite2 (j6) (some ((String.mk ([] : (List Vector)) ([] : (List Vector)) ([] : (List Bool)) ([] : (List F32)) (Vector.mk (default : F32) (default : F32) (default : F32)) (default : F32) (0 : Int)), false)) ((impl_String_copied K a0).bind fun v9 => impl_RunString_l1 K a1 v9 K (0 : Int) v9.Points v9.Before)

theorem ok_impl_RunString (K : Nat) (a0 : String) (a1 : Int) (o : (String × Bool)) (h : impl_RunString K a0 a1 = some o) : CallOK Try.prog 7 [.agg (cs_String a0), .one (.int .i64 a1)] [.agg (cs_String o.1), .one (.bool o.2)] := by
  refine callOK_of_AW Try.func7 rfl (by kernel_rfl) (Nat.le_of_ble_eq_true (by kernel_rfl)) ?_
  intro w0
  unfold impl_RunString at h
  refine AW.seq (AW.rA ⟨[(1, (vc (.int .i64 a1))), (2, (vp 1 0)), (4, (vp 2 0))], [(1, (.box [(.c (sl 3 cs_Vector a0.Points)), (.c (sl 3 cs_Vector a0.Before)), (.c (sl 1 csB a0.Fixed)), (.c (sl 1 (csF .f32) a0.Lengths)), (.c (.flt .f32 a0.Fall.X.bits)), (.c (.flt .f32 a0.Fall.Y.bits)), (.c (.flt .f32 a0.Fall.Z.bits)), (.c (.flt .f32 a0.Damp.bits)), (.c (.int .i64 a0.Passes))])), (2, (.box [.nils, .nils, .nils, .nils, (.c (.flt .f32 (default : F32).bits)), (.c (.flt .f32 (default : F32).bits)), (.c (.flt .f32 (default : F32).bits)), (.c (.flt .f32 (default : F32).bits)), (.c (.int .i64 (0 : Int)))]))]⟩ (Tt ∧ T2 Tt) [.box 1, .box 2] [1, 2, 4] [1, 2] ⟨tr, tr, tr, tr⟩ (thenQ_normal ?_))
  refine AW.seq ?_
  refine AW.seq ?_
  obtain ⟨v1, e2, h⟩ := bind_some h
  obtain ⟨j6, e7, h⟩ := bind_some h
  refine AW.join1 (s2 := ⟨[(1, (vc (.int .i64 a1))), (2, (vp 1 0)), (4, (vp 2 0)), (13, (vc (.bool j6)))], [(1, (.box [(.c (sl 3 cs_Vector a0.Points)), (.c (sl 3 cs_Vector a0.Before)), (.c (sl 1 csB a0.Fixed)), (.c (sl 1 (csF .f32) a0.Lengths)), (.c (.flt .f32 a0.Fall.X.bits)), (.c (.flt .f32 a0.Fall.Y.bits)), (.c (.flt .f32 a0.Fall.Z.bits)), (.c (.flt .f32 a0.Damp.bits)), (.c (.int .i64 a0.Passes))])), (2, (.box [.nils, .nils, .nils, .nils, (.c (.flt .f32 (default : F32).bits)), (.c (.flt .f32 (default : F32).bits)), (.c (.flt .f32 (default : F32).bits)), (.c (.flt .f32 (default : F32).bits)), (.c (.int .i64 (0 : Int)))]))]⟩) ?_ ?_
  · rcases ite2_cases e7 with ⟨b3, e7⟩ | ⟨b3, e7⟩
    · replace e7 := some_eq e7
      subst e7
      exact AW.rA ⟨[(1, (vc (.int .i64 a1))), (2, (vp 1 0)), (4, (vp 2 0)), (13, (vc (.bool true)))], [(1, (.box [(.c (sl 3 cs_Vector a0.Points)), (.c (sl 3 cs_Vector a0.Before)), (.c (sl 1 csB a0.Fixed)), (.c (sl 1 (csF .f32) a0.Lengths)), (.c (.flt .f32 a0.Fall.X.bits)), (.c (.flt .f32 a0.Fall.Y.bits)), (.c (.flt .f32 a0.Fall.Z.bits)), (.c (.flt .f32 a0.Damp.bits)), (.c (.int .i64 a0.Passes))])), (2, (.box [.nils, .nils, .nils, .nils, (.c (.flt .f32 (default : F32).bits)), (.c (.flt .f32 (default : F32).bits)), (.c (.flt .f32 (default : F32).bits)), (.c (.flt .f32 (default : F32).bits)), (.c (.int .i64 (0 : Int)))]))]⟩ (Tt ∧ ((((Eqc (sl 3 cs_Vector a0.Points)) ∧ (Eqc (sl 3 cs_Vector a0.Before)) ∧ (Eqc (sl 1 csB a0.Fixed)) ∧ (Eqc (sl 1 (csF .f32) a0.Lengths)) ∧ (Eqc (.flt .f32 a0.Fall.X.bits)) ∧ (Eqc (.flt .f32 a0.Fall.Y.bits)) ∧ (Eqc (.flt .f32 a0.Fall.Z.bits)) ∧ (Eqc (.flt .f32 a0.Damp.bits)) ∧ (Eqc (.int .i64 a0.Passes)) ∧ Tt) ∧ Tt) ∧ CallOK Try.prog 8 [.agg (cs_String a0)] [.one (.bool v1)]) ∧ Tt ∧ (Tt ∧ (!v1) = true) ∧ T4 Tt) [.no, .call [.agg (cs_String a0)] [.one (.bool v1)] [[.view]], .no, .dec true] [1, 2, 4, 13] [1, 2] ⟨tr, ⟨⟨⟨rfl, rfl, rfl, rfl, rfl, rfl, rfl, rfl, rfl, tr⟩, tr⟩, ok_impl_ValidString K a0 v1 e2⟩, tr, ⟨tr, b3⟩, tr, tr, tr, tr, tr⟩ ⟨rfl, rfl⟩
    · obtain ⟨v4, e5, e7⟩ := bind_some e7
      replace e7 := some_eq e7
      subst e7
      exact AW.rA ⟨[(1, (vc (.int .i64 a1))), (2, (vp 1 0)), (4, (vp 2 0)), (13, (vc (.bool (!v4))))], [(1, (.box [(.c (sl 3 cs_Vector a0.Points)), (.c (sl 3 cs_Vector a0.Before)), (.c (sl 1 csB a0.Fixed)), (.c (sl 1 (csF .f32) a0.Lengths)), (.c (.flt .f32 a0.Fall.X.bits)), (.c (.flt .f32 a0.Fall.Y.bits)), (.c (.flt .f32 a0.Fall.Z.bits)), (.c (.flt .f32 a0.Damp.bits)), (.c (.int .i64 a0.Passes))])), (2, (.box [.nils, .nils, .nils, .nils, (.c (.flt .f32 (default : F32).bits)), (.c (.flt .f32 (default : F32).bits)), (.c (.flt .f32 (default : F32).bits)), (.c (.flt .f32 (default : F32).bits)), (.c (.int .i64 (0 : Int)))]))]⟩ (Tt ∧ ((((Eqc (sl 3 cs_Vector a0.Points)) ∧ (Eqc (sl 3 cs_Vector a0.Before)) ∧ (Eqc (sl 1 csB a0.Fixed)) ∧ (Eqc (sl 1 (csF .f32) a0.Lengths)) ∧ (Eqc (.flt .f32 a0.Fall.X.bits)) ∧ (Eqc (.flt .f32 a0.Fall.Y.bits)) ∧ (Eqc (.flt .f32 a0.Fall.Z.bits)) ∧ (Eqc (.flt .f32 a0.Damp.bits)) ∧ (Eqc (.int .i64 a0.Passes)) ∧ Tt) ∧ Tt) ∧ CallOK Try.prog 8 [.agg (cs_String a0)] [.one (.bool v1)]) ∧ Tt ∧ (Tt ∧ (!v1) = false) ∧ Tt ∧ (((Eqc (.int .i64 a1)) ∧ Tt) ∧ CallOK Try.prog 17 [.one (.int .i64 a1)] [.one (.bool v4)]) ∧ T2 Tt) [.no, .call [.agg (cs_String a0)] [.one (.bool v1)] [[.view]], .no, .dec false, .no, .call [.one (.int .i64 a1)] [.one (.bool v4)] [[.view]]] [1, 2, 4, 13] [1, 2] ⟨tr, ⟨⟨⟨rfl, rfl, rfl, rfl, rfl, rfl, rfl, rfl, rfl, tr⟩, tr⟩, ok_impl_ValidString K a0 v1 e2⟩, tr, ⟨tr, b3⟩, tr, ⟨⟨rfl, tr⟩, ok_impl_isMoves K a1 v4 e5⟩, tr, tr, tr⟩ ⟨rfl, rfl⟩
  refine thenQ_normal ?_
  rcases ite2_cases h with ⟨b8, h⟩ | ⟨b8, h⟩
  · refine AW.cond_t rfl b8 ?_
    refine AW.seq (AW.rA ⟨[(4, (vp 2 0)), (5, (vc (.bool false)))], [(2, (.box [.nils, .nils, .nils, .nils, (.c (.flt .f32 (default : F32).bits)), (.c (.flt .f32 (default : F32).bits)), (.c (.flt .f32 (default : F32).bits)), (.c (.flt .f32 (default : F32).bits)), (.c (.int .i64 (0 : Int)))]))]⟩ (Tt ∧ T2 Tt) [] [4, 5] [2] ⟨tr, tr, tr, tr⟩ (thenQ_normal ?_))
    refine AW.ret ?_
    refine thenQ_ret ?_
    replace h := some_eq h
    subst h
    exact ⟨.inr rfl, retOK_of [(.agg [.nils, .nils, .nils, .nils, (.c (.flt .f32 (default : F32).bits)), (.c (.flt .f32 (default : F32).bits)), (.c (.flt .f32 (default : F32).bits)), (.c (.flt .f32 (default : F32).bits)), (.c (.int .i64 (0 : Int)))]), (.one (.c (.bool false)))] (by kernel_rfl) ⟨⟨rfl, rfl, rfl, rfl, ⟨rfl, tr⟩, ⟨rfl, tr⟩, ⟨rfl, tr⟩, ⟨rfl, tr⟩, ⟨rfl, tr⟩, tr⟩, ⟨rfl, tr⟩, tr⟩ (of_decide_eq_true (by kernel_rfl))⟩
  · refine AW.cond_f rfl b8 ?_
    refine AW.skip ?_
    refine thenQ_normal ?_
    refine AW.seq ?_
    obtain ⟨v9, e10, h⟩ := bind_some h
    refine AW.rA ⟨[(1, (vc (.int .i64 a1))), (2, (vp 1 0)), (4, (vp 2 0))], [(1, (.box [(.arr 3), (.arr 4), (.lst 5 v9.Fixed.length 1 (gl csB v9.Fixed)), (.lst 6 v9.Lengths.length 1 (gl (csF .f32) v9.Lengths)), (.c (.flt .f32 v9.Fall.X.bits)), (.c (.flt .f32 v9.Fall.Y.bits)), (.c (.flt .f32 v9.Fall.Z.bits)), (.c (.flt .f32 v9.Damp.bits)), (.c (.int .i64 v9.Passes))])), (2, (.box [.nils, .nils, .nils, .nils, (.c (.flt .f32 (default : F32).bits)), (.c (.flt .f32 (default : F32).bits)), (.c (.flt .f32 (default : F32).bits)), (.c (.flt .f32 (default : F32).bits)), (.c (.int .i64 (0 : Int)))])), (3, (.arr true v9.Points.length 3 (gl cs_Vector v9.Points))), (4, (.arr true v9.Before.length 3 (gl cs_Vector v9.Before))), (5, (.lst v9.Fixed.length 1 (gl csB v9.Fixed))), (6, (.lst v9.Lengths.length 1 (gl (csF .f32) v9.Lengths)))]⟩ (Tt ∧ ((((Eqc (sl 3 cs_Vector a0.Points)) ∧ (Eqc (sl 3 cs_Vector a0.Before)) ∧ (Eqc (sl 1 csB a0.Fixed)) ∧ (Eqc (sl 1 (csF .f32) a0.Lengths)) ∧ (Eqc (.flt .f32 a0.Fall.X.bits)) ∧ (Eqc (.flt .f32 a0.Fall.Y.bits)) ∧ (Eqc (.flt .f32 a0.Fall.Z.bits)) ∧ (Eqc (.flt .f32 a0.Damp.bits)) ∧ (Eqc (.int .i64 a0.Passes)) ∧ Tt) ∧ Tt) ∧ CallOK Try.prog 18 [.agg (cs_String a0)] [.agg (cs_String v9)]) ∧ Tt ∧ Tt) [.no, .call [.agg (cs_String a0)] [.agg (cs_String v9)] [[.own 3, .own 4, .lst 5, .lst 6, .view, .view, .view, .view, .view]]] [1, 2, 4] [1, 2, 3, 4, 5, 6] ⟨tr, ⟨⟨⟨rfl, rfl, rfl, rfl, rfl, rfl, rfl, rfl, rfl, tr⟩, tr⟩, ok_impl_String_copied K a0 v9 e10⟩, tr, tr⟩ ?_
    refine thenQ_normal ?_
    refine AW.seq ?_
    refine AW.seq (AW.rA ⟨[(2, (vp 1 0)), (4, (vp 2 0)), (17, (vc (.int .i64 a1))), (18, (vc (.int .i64 (0 : Int))))], [(1, (.box [(.arr 3), (.arr 4), (.lst 5 v9.Fixed.length 1 (gl csB v9.Fixed)), (.lst 6 v9.Lengths.length 1 (gl (csF .f32) v9.Lengths)), (.c (.flt .f32 v9.Fall.X.bits)), (.c (.flt .f32 v9.Fall.Y.bits)), (.c (.flt .f32 v9.Fall.Z.bits)), (.c (.flt .f32 v9.Damp.bits)), (.c (.int .i64 v9.Passes))])), (2, (.box [.nils, .nils, .nils, .nils, (.c (.flt .f32 (default : F32).bits)), (.c (.flt .f32 (default : F32).bits)), (.c (.flt .f32 (default : F32).bits)), (.c (.flt .f32 (default : F32).bits)), (.c (.int .i64 (0 : Int)))])), (3, (.arr true v9.Points.length 3 (gl cs_Vector v9.Points))), (4, (.arr true v9.Before.length 3 (gl cs_Vector v9.Before))), (5, (.lst v9.Fixed.length 1 (gl csB v9.Fixed))), (6, (.lst v9.Lengths.length 1 (gl (csF .f32) v9.Lengths)))]⟩ (T2 Tt) [] [2, 4, 17, 18] [1, 2, 3, 4, 5, 6] ⟨tr, tr, tr⟩ (thenQ_normal ?_))
    refine AW.block ?_
    refine AW.loopQ (σ := Nat × Int × (List Vector) × (List Vector)) (fun p => ⟨[(2, (vp 1 0)), (4, (vp 2 0)), (17, (vc (.int .i64 a1))), (18, (vc (.int .i64 p.2.1)))], [(1, (.box [(.arr 3), (.arr 4), (.lst 5 v9.Fixed.length 1 (gl csB v9.Fixed)), (.lst 6 v9.Lengths.length 1 (gl (csF .f32) v9.Lengths)), (.c (.flt .f32 v9.Fall.X.bits)), (.c (.flt .f32 v9.Fall.Y.bits)), (.c (.flt .f32 v9.Fall.Z.bits)), (.c (.flt .f32 v9.Damp.bits)), (.c (.int .i64 v9.Passes))])), (2, (.box [.nils, .nils, .nils, .nils, (.c (.flt .f32 (default : F32).bits)), (.c (.flt .f32 (default : F32).bits)), (.c (.flt .f32 (default : F32).bits)), (.c (.flt .f32 (default : F32).bits)), (.c (.int .i64 (0 : Int)))])), (3, (.arr true p.2.2.1.length 3 (gl cs_Vector p.2.2.1))), (4, (.arr true p.2.2.2.length 3 (gl cs_Vector p.2.2.2))), (5, (.lst v9.Fixed.length 1 (gl csB v9.Fixed))), (6, (.lst v9.Lengths.length 1 (gl (csF .f32) v9.Lengths)))]⟩) (fun p => impl_RunString_l1 K a1 v9 p.1 p.2.1 p.2.2.1 p.2.2.2 = some o) (fun p => p.1) (K, (0 : Int), v9.Points, v9.Before) h ?_
    clear h
    rintro ⟨k, x14, x15, x16⟩ h
    replace h : impl_RunString_l1 K a1 v9 k x14 x15 x16 = some o := h
    show AW _ _ (⟨[(2, (vp 1 0)), (4, (vp 2 0)), (17, (vc (.int .i64 a1))), (18, (vc (.int .i64 x14)))], [(1, (.box [(.arr 3), (.arr 4), (.lst 5 v9.Fixed.length 1 (gl csB v9.Fixed)), (.lst 6 v9.Lengths.length 1 (gl (csF .f32) v9.Lengths)), (.c (.flt .f32 v9.Fall.X.bits)), (.c (.flt .f32 v9.Fall.Y.bits)), (.c (.flt .f32 v9.Fall.Z.bits)), (.c (.flt .f32 v9.Damp.bits)), (.c (.int .i64 v9.Passes))])), (2, (.box [.nils, .nils, .nils, .nils, (.c (.flt .f32 (default : F32).bits)), (.c (.flt .f32 (default : F32).bits)), (.c (.flt .f32 (default : F32).bits)), (.c (.flt .f32 (default : F32).bits)), (.c (.int .i64 (0 : Int)))])), (3, (.arr true x15.length 3 (gl cs_Vector x15))), (4, (.arr true x16.length 3 (gl cs_Vector x16))), (5, (.lst v9.Fixed.length 1 (gl csB v9.Fixed))), (6, (.lst v9.Lengths.length 1 (gl (csF .f32) v9.Lengths)))]⟩ : St) _
    obtain _ | k := k
    · rw [impl_RunString_l1] at h; cases h
    rw [impl_RunString_l1] at h
    refine AW.seq (AW.rA ⟨[(2, (vp 1 0)), (4, (vp 2 0)), (17, (vc (.int .i64 a1))), (18, (vc (.int .i64 x14))), (19, (vc (.bool (decide (x14 < a1)))))], [(1, (.box [(.arr 3), (.arr 4), (.lst 5 v9.Fixed.length 1 (gl csB v9.Fixed)), (.lst 6 v9.Lengths.length 1 (gl (csF .f32) v9.Lengths)), (.c (.flt .f32 v9.Fall.X.bits)), (.c (.flt .f32 v9.Fall.Y.bits)), (.c (.flt .f32 v9.Fall.Z.bits)), (.c (.flt .f32 v9.Damp.bits)), (.c (.int .i64 v9.Passes))])), (2, (.box [.nils, .nils, .nils, .nils, (.c (.flt .f32 (default : F32).bits)), (.c (.flt .f32 (default : F32).bits)), (.c (.flt .f32 (default : F32).bits)), (.c (.flt .f32 (default : F32).bits)), (.c (.int .i64 (0 : Int)))])), (3, (.arr true x15.length 3 (gl cs_Vector x15))), (4, (.arr true x16.length 3 (gl cs_Vector x16))), (5, (.lst v9.Fixed.length 1 (gl csB v9.Fixed))), (6, (.lst v9.Lengths.length 1 (gl (csF .f32) v9.Lengths)))]⟩ (Tt ∧ Tt) [] [2, 4, 17, 18, 19] [1, 2, 3, 4, 5, 6] ⟨tr, tr⟩ (thenQ_normal ?_))
    refine AW.seq ?_
    rcases ite2_cases h with ⟨b17, h⟩ | ⟨b17, h⟩
    · refine AW.cond_t rfl b17 ?_
      refine AW.skip ?_
      refine thenQ_normal ?_
      refine AW.seq ?_
      refine AW.block ?_
      obtain ⟨v18, e19, h⟩ := bind_some h
      obtain ⟨c20, h⟩ := chk_some h
      obtain ⟨c21, h⟩ := chk_some h
      refine AW.rA ⟨[(2, (vp 1 0)), (4, (vp 2 0)), (17, (vc (.int .i64 a1))), (18, (vc (.int .i64 x14)))], [(1, (.box [(.arr 3), (.arr 4), (.lst 5 v9.Fixed.length 1 (gl csB v9.Fixed)), (.lst 6 v9.Lengths.length 1 (gl (csF .f32) v9.Lengths)), (.c (.flt .f32 v9.Fall.X.bits)), (.c (.flt .f32 v9.Fall.Y.bits)), (.c (.flt .f32 v9.Fall.Z.bits)), (.c (.flt .f32 v9.Damp.bits)), (.c (.int .i64 v9.Passes))])), (2, (.box [.nils, .nils, .nils, .nils, (.c (.flt .f32 (default : F32).bits)), (.c (.flt .f32 (default : F32).bits)), (.c (.flt .f32 (default : F32).bits)), (.c (.flt .f32 (default : F32).bits)), (.c (.int .i64 (0 : Int)))])), (3, (.arr true v18.1.length 3 (gl cs_Vector v18.1))), (4, (.arr true v18.2.length 3 (gl cs_Vector v18.2))), (5, (.lst v9.Fixed.length 1 (gl csB v9.Fixed))), (6, (.lst v9.Lengths.length 1 (gl (csF .f32) v9.Lengths)))]⟩ (((((((sl 3 cs_Vector x15) : C) = (sl 3 cs_Vector x15) ∧ v18.1.length = x15.length ∧ 3 = 3 ∧ ∀ i j, i < x15.length → j < 3 → isSeq (gl cs_Vector v18.1 i j) = isSeq (gl cs_Vector x15 i j)) ∧ (((sl 3 cs_Vector x16) : C) = (sl 3 cs_Vector x16) ∧ v18.2.length = x16.length ∧ 3 = 3 ∧ ∀ i j, i < x16.length → j < 3 → isSeq (gl cs_Vector v18.2 i j) = isSeq (gl cs_Vector x16 i j)) ∧ (Eqc (sl 1 csB v9.Fixed)) ∧ (Eqc (sl 1 (csF .f32) v9.Lengths)) ∧ (Eqc (.flt .f32 v9.Fall.X.bits)) ∧ (Eqc (.flt .f32 v9.Fall.Y.bits)) ∧ (Eqc (.flt .f32 v9.Fall.Z.bits)) ∧ (Eqc (.flt .f32 v9.Damp.bits)) ∧ (Eqc (.int .i64 v9.Passes)) ∧ Tt) ∧ Tt) ∧ MutOK Try.prog 19 [(.boxm [(.mu (sl 3 cs_Vector x15) (sl 3 cs_Vector v18.1)), (.mu (sl 3 cs_Vector x16) (sl 3 cs_Vector v18.2)), (.ro (sl 1 csB v9.Fixed)), (.ro (sl 1 (csF .f32) v9.Lengths)), (.ro (.flt .f32 v9.Fall.X.bits)), (.ro (.flt .f32 v9.Fall.Y.bits)), (.ro (.flt .f32 v9.Fall.Z.bits)), (.ro (.flt .f32 v9.Damp.bits)), (.ro (.int .i64 v9.Passes))])] []) ∧ Tt) [.callM [(.boxm [(.mu (sl 3 cs_Vector x15) (sl 3 cs_Vector v18.1)), (.mu (sl 3 cs_Vector x16) (sl 3 cs_Vector v18.2)), (.ro (sl 1 csB v9.Fixed)), (.ro (sl 1 (csF .f32) v9.Lengths)), (.ro (.flt .f32 v9.Fall.X.bits)), (.ro (.flt .f32 v9.Fall.Y.bits)), (.ro (.flt .f32 v9.Fall.Z.bits)), (.ro (.flt .f32 v9.Damp.bits)), (.ro (.int .i64 v9.Passes))])] [] [] none] [2, 4, 17, 18] [1, 2, 3, 4, 5, 6] ⟨⟨⟨⟨⟨rfl, c20, rfl, gl_seq sq_Vector⟩, ⟨rfl, c21, rfl, gl_seq sq_Vector⟩, rfl, rfl, rfl, rfl, rfl, rfl, rfl, tr⟩, tr⟩, ok_impl_String_move K (String.mk x15 x16 v9.Fixed v9.Lengths v9.Fall v9.Damp v9.Passes) v18 e19⟩, tr⟩ ?_
      refine blockQ_normal ?_
      refine thenQ_normal ?_
      refine AW.rA ⟨[(2, (vp 1 0)), (4, (vp 2 0)), (17, (vc (.int .i64 a1))), (18, (vc (.int .i64 (IntKind.i64.wrap (x14 + (1 : Int))))))], [(1, (.box [(.arr 3), (.arr 4), (.lst 5 v9.Fixed.length 1 (gl csB v9.Fixed)), (.lst 6 v9.Lengths.length 1 (gl (csF .f32) v9.Lengths)), (.c (.flt .f32 v9.Fall.X.bits)), (.c (.flt .f32 v9.Fall.Y.bits)), (.c (.flt .f32 v9.Fall.Z.bits)), (.c (.flt .f32 v9.Damp.bits)), (.c (.int .i64 v9.Passes))])), (2, (.box [.nils, .nils, .nils, .nils, (.c (.flt .f32 (default : F32).bits)), (.c (.flt .f32 (default : F32).bits)), (.c (.flt .f32 (default : F32).bits)), (.c (.flt .f32 (default : F32).bits)), (.c (.int .i64 (0 : Int)))])), (3, (.arr true v18.1.length 3 (gl cs_Vector v18.1))), (4, (.arr true v18.2.length 3 (gl cs_Vector v18.2))), (5, (.lst v9.Fixed.length 1 (gl csB v9.Fixed))), (6, (.lst v9.Lengths.length 1 (gl (csF .f32) v9.Lengths)))]⟩ (T2 Tt) [] [2, 4, 17, 18] [1, 2, 3, 4, 5, 6] ⟨tr, tr, tr⟩ ?_
      exact loopQ_normal (k, (IntKind.i64.wrap (x14 + (1 : Int))), v18.1, v18.2) h (Nat.lt_succ_self k) (Sub.keep [2, 4, 17, 18] [1, 2, 3, 4, 5, 6] (by kernel_rfl) (by kernel_rfl))
    · refine AW.cond_f rfl b17 ?_
      refine AW.exit ?_
      refine thenQ_exit ?_
      refine loopQ_exit ?_
      refine blockQ_exit ?_
      refine thenQ_normal ?_
      refine AW.seq (AW.rA ⟨[(4, (vp 2 0)), (5, (vc (.bool true)))], [(2, (.box [(.arr 3), (.arr 4), (.lst 5 v9.Fixed.length 1 (gl csB v9.Fixed)), (.lst 6 v9.Lengths.length 1 (gl (csF .f32) v9.Lengths)), (.c (.flt .f32 v9.Fall.X.bits)), (.c (.flt .f32 v9.Fall.Y.bits)), (.c (.flt .f32 v9.Fall.Z.bits)), (.c (.flt .f32 v9.Damp.bits)), (.c (.int .i64 v9.Passes))])), (3, (.arr true x15.length 3 (gl cs_Vector x15))), (4, (.arr true x16.length 3 (gl cs_Vector x16))), (5, (.lst v9.Fixed.length 1 (gl csB v9.Fixed))), (6, (.lst v9.Lengths.length 1 (gl (csF .f32) v9.Lengths)))]⟩ (Tt ∧ T2 Tt) [] [4, 5] [2, 3, 4, 5, 6] ⟨tr, tr, tr, tr⟩ (thenQ_normal ?_))
      refine AW.ret ?_
      replace h := some_eq h
      subst h
      exact ⟨.inr rfl, retOK_of [(.agg [(.arr 3), (.arr 4), (.lst 5 v9.Fixed.length 1 (gl csB v9.Fixed)), (.lst 6 v9.Lengths.length 1 (gl (csF .f32) v9.Lengths)), (.c (.flt .f32 v9.Fall.X.bits)), (.c (.flt .f32 v9.Fall.Y.bits)), (.c (.flt .f32 v9.Fall.Z.bits)), (.c (.flt .f32 v9.Damp.bits)), (.c (.int .i64 v9.Passes))]), (.one (.c (.bool true)))] (by kernel_rfl) ⟨⟨rfl, rfl, rfl, rfl, ⟨rfl, tr⟩, ⟨rfl, tr⟩, ⟨rfl, tr⟩, ⟨rfl, tr⟩, ⟨rfl, tr⟩, tr⟩, ⟨rfl, tr⟩, tr⟩ (of_decide_eq_true (by kernel_rfl))⟩

/-! math.Float64bits -/
def math_Float64bits (_K : Nat) (a0 : F64) : Option (Int) :=
  a0.toBits

theorem ok_math_Float64bits (K : Nat) (a0 : F64) (o : Int) (h : math_Float64bits K a0 = some o) : CallOK Try.prog 49 [.one (.flt .f64 a0.bits)] [.one (.int .u64 o)] :=
  hand_toBits (e := Extern.MathFloatBits.float64bits) Try.func49 (by kernel_rfl) (by kernel_rfl) (by kernel_rfl) (by kernel_rfl) (fun _ _ => rfl) a0 o h

/-! math.Signbit -/
def math_Signbit (K : Nat) (a0 : F64) : Option (Bool) :=
  (math_Float64bits K a0).bind fun v1 => some (decide ((IntKind.i64.wrap v1) < (0 : Int)))

theorem ok_math_Signbit (K : Nat) (a0 : F64) (o : (Bool)) (h : math_Signbit K a0 = some o) : CallOK Try.prog 42 [.one (.flt .f64 a0.bits)] [.one (.bool o)] := by
  refine callOK_of_AW Try.func42 rfl (by kernel_rfl) (Nat.le_of_ble_eq_true (by kernel_rfl)) ?_
  intro w0
  unfold math_Signbit at h
  refine AW.seq (AW.rA ⟨[(0, (vc (.flt .f64 a0.bits)))], []⟩ (Tt ∧ Tt) [] [0] [] ⟨tr, tr⟩ (thenQ_normal ?_))
  refine AW.seq ?_
  obtain ⟨v1, e2, h⟩ := bind_some h
  refine AW.rA ⟨[(2, (vc (.bool (decide ((IntKind.i64.wrap v1) < (0 : Int))))))], []⟩ (Tt ∧ (((Eqc (.flt .f64 a0.bits)) ∧ Tt) ∧ CallOK Try.prog 49 [.one (.flt .f64 a0.bits)] [.one (.int .u64 v1)]) ∧ Tt ∧ T2 Tt) [.no, .call [.one (.flt .f64 a0.bits)] [.one (.int .u64 v1)] [[.view]]] [2] [] ⟨tr, ⟨⟨rfl, tr⟩, ok_math_Float64bits K a0 v1 e2⟩, tr, tr, tr, tr⟩ ?_
  refine thenQ_normal ?_
  refine AW.ret ?_
  replace h := some_eq h
  subst h
  exact ⟨.inr rfl, retOK_of [(.one (.c (.bool (decide ((IntKind.i64.wrap v1) < (0 : Int))))))] (by kernel_rfl) ⟨⟨rfl, tr⟩, tr⟩ (of_decide_eq_true (by kernel_rfl))⟩

/-! impl.SameNumber -/
def impl_SameNumber (K : Nat) (a0 : F32) (a1 : F32) : Option (Bool) :=
  (ite2 ((a0.ne a0)) (some true) (some (a1.ne a1))).bind fun j2 => ite2 (j2) ((ite2 ((a0.ne a0)) (some (a1.ne a1)) (some false)).bind fun j6 => some j6) ((ite2 ((a0.eq a1)) ((math_Signbit K (Fl.cv .f32 .f64 a0)).bind fun v9 => (math_Signbit K (Fl.cv .f32 .f64 a1)).bind fun v11 => some (v9 == v11)) (some false)).bind fun j13 => some j13)

theorem ok_impl_SameNumber (K : Nat) (a0 : F32) (a1 : F32) (o : (Bool)) (h : impl_SameNumber K a0 a1 = some o) : CallOK Try.prog 24 [.one (.flt .f32 a0.bits), .one (.flt .f32 a1.bits)] [.one (.bool o)] := by
  refine callOK_of_AW Try.func24 rfl (by kernel_rfl) (Nat.le_of_ble_eq_true (by kernel_rfl)) ?_
  intro w0
  unfold impl_SameNumber at h
  refine AW.seq (AW.rA ⟨[(0, (vc (.flt .f32 a0.bits))), (1, (vc (.flt .f32 a1.bits)))], []⟩ (Tt ∧ Tt) [] [0, 1] [] ⟨tr, tr⟩ (thenQ_normal ?_))
  refine AW.seq ?_
  refine AW.seq ?_
  obtain ⟨j2, e3, h⟩ := bind_some h
  refine AW.join1 (s2 := ⟨[(0, (vc (.flt .f32 a0.bits))), (1, (vc (.flt .f32 a1.bits))), (12, (vc (.bool j2)))], []⟩) ?_ ?_
  · rcases ite2_cases e3 with ⟨b1, e3⟩ | ⟨b1, e3⟩
    · replace e3 := some_eq e3
      subst e3
      exact AW.rA ⟨[(0, (vc (.flt .f32 a0.bits))), (1, (vc (.flt .f32 a1.bits))), (12, (vc (.bool true)))], []⟩ (Tt ∧ T2 ((Tt ∧ (a0.ne a0) = true) ∧ T4 Tt)) [.no, .no, .no, .dec true] [0, 1, 12] [] ⟨tr, tr, tr, ⟨tr, b1⟩, tr, tr, tr, tr, tr⟩ ⟨rfl, rfl⟩
    · replace e3 := some_eq e3
      subst e3
      exact AW.rA ⟨[(0, (vc (.flt .f32 a0.bits))), (1, (vc (.flt .f32 a1.bits))), (12, (vc (.bool (a1.ne a1))))], []⟩ (Tt ∧ T2 ((Tt ∧ (a0.ne a0) = false) ∧ T4 Tt)) [.no, .no, .no, .dec false] [0, 1, 12] [] ⟨tr, tr, tr, ⟨tr, b1⟩, tr, tr, tr, tr, tr⟩ ⟨rfl, rfl⟩
  refine thenQ_normal ?_
  rcases ite2_cases h with ⟨b4, h⟩ | ⟨b4, h⟩
  · refine AW.cond_t rfl b4 ?_
    refine AW.seq ?_
    obtain ⟨j6, e7, h⟩ := bind_some h
    refine AW.join1 (s2 := ⟨[(4, (vc (.bool j6)))], []⟩) ?_ ?_
    · rcases ite2_cases e7 with ⟨b5, e7⟩ | ⟨b5, e7⟩
      · replace e7 := some_eq e7
        subst e7
        exact AW.rA ⟨[(4, (vc (.bool (a1.ne a1))))], []⟩ (Tt ∧ T2 ((Tt ∧ (a0.ne a0) = true) ∧ Tt ∧ T4 Tt)) [.no, .no, .no, .dec true] [4] [] ⟨tr, tr, tr, ⟨tr, b5⟩, tr, tr, tr, tr, tr, tr⟩ ⟨rfl, rfl⟩
      · replace e7 := some_eq e7
        subst e7
        exact AW.rA ⟨[(4, (vc (.bool false)))], []⟩ (Tt ∧ T2 ((Tt ∧ (a0.ne a0) = false) ∧ Tt ∧ T4 Tt)) [.no, .no, .no, .dec false] [4] [] ⟨tr, tr, tr, ⟨tr, b5⟩, tr, tr, tr, tr, tr, tr⟩ ⟨rfl, rfl⟩
    refine thenQ_normal ?_
    refine AW.ret ?_
    refine thenQ_ret ?_
    replace h := some_eq h
    subst h
    exact ⟨.inr rfl, retOK_of [(.one (.c (.bool j6)))] (by kernel_rfl) ⟨⟨rfl, tr⟩, tr⟩ (of_decide_eq_true (by kernel_rfl))⟩
  · refine AW.cond_f rfl b4 ?_
    refine AW.skip ?_
    refine thenQ_normal ?_
    refine AW.seq ?_
    obtain ⟨j13, e14, h⟩ := bind_some h
    refine AW.join1 (s2 := ⟨[(4, (vc (.bool j13)))], []⟩) ?_ ?_
    · rcases ite2_cases e14 with ⟨b8, e14⟩ | ⟨b8, e14⟩
      · obtain ⟨v9, e10, e14⟩ := bind_some e14
        obtain ⟨v11, e12, e14⟩ := bind_some e14
        replace e14 := some_eq e14
        subst e14
        exact AW.rA ⟨[(4, (vc (.bool (v9 == v11))))], []⟩ (Tt ∧ T2 ((Tt ∧ (a0.eq a1) = true) ∧ Tt ∧ ((convBits .f32 a0.bits .f64).isSome = true) ∧ (((Eqc (.flt .f64 (Fl.cv .f32 .f64 a0).bits)) ∧ Tt) ∧ CallOK Try.prog 42 [.one (.flt .f64 (Fl.cv .f32 .f64 a0).bits)] [.one (.bool v9)]) ∧ Tt ∧ ((convBits .f32 a1.bits .f64).isSome = true) ∧ (((Eqc (.flt .f64 (Fl.cv .f32 .f64 a1).bits)) ∧ Tt) ∧ CallOK Try.prog 42 [.one (.flt .f64 (Fl.cv .f32 .f64 a1).bits)] [.one (.bool v11)]) ∧ Tt ∧ T2 Tt)) [.no, .no, .no, .dec true, .no, .no, .call [.one (.flt .f64 (Fl.cv .f32 .f64 a0).bits)] [.one (.bool v9)] [[.view]], .no, .no, .call [.one (.flt .f64 (Fl.cv .f32 .f64 a1).bits)] [.one (.bool v11)] [[.view]]] [4] [] ⟨tr, tr, tr, ⟨tr, b8⟩, tr, cv_wide a0, ⟨⟨rfl, tr⟩, ok_math_Signbit K (Fl.cv .f32 .f64 a0) v9 e10⟩, tr, cv_wide a1, ⟨⟨rfl, tr⟩, ok_math_Signbit K (Fl.cv .f32 .f64 a1) v11 e12⟩, tr, tr, tr, tr⟩ ⟨rfl, rfl⟩
      · replace e14 := some_eq e14
        subst e14
        exact AW.rA ⟨[(4, (vc (.bool false)))], []⟩ (Tt ∧ T2 ((Tt ∧ (a0.eq a1) = false) ∧ Tt ∧ T4 (T4 Tt))) [.no, .no, .no, .dec false] [4] [] ⟨tr, tr, tr, ⟨tr, b8⟩, tr, tr, tr, tr, tr, tr, tr, tr, tr, tr⟩ ⟨rfl, rfl⟩
    refine thenQ_normal ?_
    refine AW.ret ?_
    replace h := some_eq h
    subst h
    exact ⟨.inr rfl, retOK_of [(.one (.c (.bool j13)))] (by kernel_rfl) ⟨⟨rfl, tr⟩, tr⟩ (of_decide_eq_true (by kernel_rfl))⟩

/-! impl.SameVector -/
def impl_SameVector (K : Nat) (a0 : Vector) (a1 : Vector) : Option (Bool) :=
  (impl_SameNumber K a0.X a1.X).bind fun v1 => (ite2 (v1) ((impl_SameNumber K a0.Y a1.Y).bind fun v4 => ite2 (v4) ((impl_SameNumber K a0.Z a1.Z).bind fun v7 => some v7) (some false)) (some false)).bind fun j9 => some j9

theorem ok_impl_SameVector (K : Nat) (a0 : Vector) (a1 : Vector) (o : (Bool)) (h : impl_SameVector K a0 a1 = some o) : CallOK Try.prog 10 [.agg (cs_Vector a0), .agg (cs_Vector a1)] [.one (.bool o)] := by
  refine callOK_of_AW Try.func10 rfl (by kernel_rfl) (Nat.le_of_ble_eq_true (by kernel_rfl)) ?_
  intro w0
  unfold impl_SameVector at h
  refine AW.seq (AW.rA ⟨[(2, (vp 1 0)), (3, (vp 2 0))], [(1, (.box [(.c (.flt .f32 a0.X.bits)), (.c (.flt .f32 a0.Y.bits)), (.c (.flt .f32 a0.Z.bits))])), (2, (.box [(.c (.flt .f32 a1.X.bits)), (.c (.flt .f32 a1.Y.bits)), (.c (.flt .f32 a1.Z.bits))]))]⟩ (Tt ∧ T2 Tt) [.box 1, .box 2] [2, 3] [1, 2] ⟨tr, tr, tr, tr⟩ (thenQ_normal ?_))
  refine AW.seq ?_
  obtain ⟨v1, e2, h⟩ := bind_some h
  obtain ⟨j9, e10, h⟩ := bind_some h
  refine AW.join1 (s2 := ⟨[(4, (vc (.bool j9)))], []⟩) ?_ ?_
  · rcases ite2_cases e10 with ⟨b3, e10⟩ | ⟨b3, e10⟩
    · obtain ⟨v4, e5, e10⟩ := bind_some e10
      rcases ite2_cases e10 with ⟨b6, e10⟩ | ⟨b6, e10⟩
      · obtain ⟨v7, e8, e10⟩ := bind_some e10
        replace e10 := some_eq e10
        subst e10
        exact AW.rA ⟨[(4, (vc (.bool v7)))], []⟩ (T4 ((((Eqc (.flt .f32 a0.X.bits)) ∧ (Eqc (.flt .f32 a1.X.bits)) ∧ Tt) ∧ CallOK Try.prog 24 [.one (.flt .f32 a0.X.bits), .one (.flt .f32 a1.X.bits)] [.one (.bool v1)]) ∧ (Tt ∧ v1 = true) ∧ T4 ((((Eqc (.flt .f32 a0.Y.bits)) ∧ (Eqc (.flt .f32 a1.Y.bits)) ∧ Tt) ∧ CallOK Try.prog 24 [.one (.flt .f32 a0.Y.bits), .one (.flt .f32 a1.Y.bits)] [.one (.bool v4)]) ∧ Tt ∧ (Tt ∧ v4 = true) ∧ T4 ((((Eqc (.flt .f32 a0.Z.bits)) ∧ (Eqc (.flt .f32 a1.Z.bits)) ∧ Tt) ∧ CallOK Try.prog 24 [.one (.flt .f32 a0.Z.bits), .one (.flt .f32 a1.Z.bits)] [.one (.bool v7)]) ∧ T2 Tt)))) [.no, .no, .no, .no, .call [.one (.flt .f32 a0.X.bits), .one (.flt .f32 a1.X.bits)] [.one (.bool v1)] [[.view]], .dec true, .no, .no, .no, .no, .call [.one (.flt .f32 a0.Y.bits), .one (.flt .f32 a1.Y.bits)] [.one (.bool v4)] [[.view]], .no, .dec true, .no, .no, .no, .no, .call [.one (.flt .f32 a0.Z.bits), .one (.flt .f32 a1.Z.bits)] [.one (.bool v7)] [[.view]]] [4] [] ⟨tr, tr, tr, tr, ⟨⟨rfl, rfl, tr⟩, ok_impl_SameNumber K a0.X a1.X v1 e2⟩, ⟨tr, b3⟩, tr, tr, tr, tr, ⟨⟨rfl, rfl, tr⟩, ok_impl_SameNumber K a0.Y a1.Y v4 e5⟩, tr, ⟨tr, b6⟩, tr, tr, tr, tr, ⟨⟨rfl, rfl, tr⟩, ok_impl_SameNumber K a0.Z a1.Z v7 e8⟩, tr, tr, tr⟩ ⟨rfl, rfl⟩
      · replace e10 := some_eq e10
        subst e10
        exact AW.rA ⟨[(4, (vc (.bool false)))], []⟩ (T4 ((((Eqc (.flt .f32 a0.X.bits)) ∧ (Eqc (.flt .f32 a1.X.bits)) ∧ Tt) ∧ CallOK Try.prog 24 [.one (.flt .f32 a0.X.bits), .one (.flt .f32 a1.X.bits)] [.one (.bool v1)]) ∧ (Tt ∧ v1 = true) ∧ T4 ((((Eqc (.flt .f32 a0.Y.bits)) ∧ (Eqc (.flt .f32 a1.Y.bits)) ∧ Tt) ∧ CallOK Try.prog 24 [.one (.flt .f32 a0.Y.bits), .one (.flt .f32 a1.Y.bits)] [.one (.bool v4)]) ∧ Tt ∧ (Tt ∧ v4 = false) ∧ Tt ∧ T2 (T4 Tt)))) [.no, .no, .no, .no, .call [.one (.flt .f32 a0.X.bits), .one (.flt .f32 a1.X.bits)] [.one (.bool v1)] [[.view]], .dec true, .no, .no, .no, .no, .call [.one (.flt .f32 a0.Y.bits), .one (.flt .f32 a1.Y.bits)] [.one (.bool v4)] [[.view]], .no, .dec false] [4] [] ⟨tr, tr, tr, tr, ⟨⟨rfl, rfl, tr⟩, ok_impl_SameNumber K a0.X a1.X v1 e2⟩, ⟨tr, b3⟩, tr, tr, tr, tr, ⟨⟨rfl, rfl, tr⟩, ok_impl_SameNumber K a0.Y a1.Y v4 e5⟩, tr, ⟨tr, b6⟩, tr, tr, tr, tr, tr, tr, tr, tr⟩ ⟨rfl, rfl⟩
    · replace e10 := some_eq e10
      subst e10
      exact AW.rA ⟨[(4, (vc (.bool false)))], []⟩ (T4 ((((Eqc (.flt .f32 a0.X.bits)) ∧ (Eqc (.flt .f32 a1.X.bits)) ∧ Tt) ∧ CallOK Try.prog 24 [.one (.flt .f32 a0.X.bits), .one (.flt .f32 a1.X.bits)] [.one (.bool v1)]) ∧ (Tt ∧ v1 = false) ∧ T2 (T4 (T4 (T4 Tt))))) [.no, .no, .no, .no, .call [.one (.flt .f32 a0.X.bits), .one (.flt .f32 a1.X.bits)] [.one (.bool v1)] [[.view]], .dec false] [4] [] ⟨tr, tr, tr, tr, ⟨⟨rfl, rfl, tr⟩, ok_impl_SameNumber K a0.X a1.X v1 e2⟩, ⟨tr, b3⟩, tr, tr, tr, tr, tr, tr, tr, tr, tr, tr, tr, tr, tr, tr, tr⟩ ⟨rfl, rfl⟩
  refine thenQ_normal ?_
  refine AW.ret ?_
  replace h := some_eq h
  subst h
  exact ⟨.inr rfl, retOK_of [(.one (.c (.bool j9)))] (by kernel_rfl) ⟨⟨rfl, tr⟩, tr⟩ (of_decide_eq_true (by kernel_rfl))⟩

/-! slices.EqualFunc[[]impl.Vector,[]impl.Vector,impl.Vector,impl.Vector] -/
def slices_EqualFunc_impl_Vector_impl_Vector_impl_Vector_impl_Vector_l1 (K : Nat) (a0 : (List Vector)) (a1 : (List Vector)) : Nat → Int → Option (Bool)
  | 0, _ => none
  | k + 1, x3 => ite2 ((decide (x3 < (a0.length : Int)))) (chk (0 ≤ x3 ∧ x3 < (a0.length : Int)) (chk (0 ≤ x3 ∧ x3 < (a1.length : Int)) ((impl_SameVector K (a0.getD x3.toNat default) (a1.getD x3.toNat default)).bind fun v7 => ite2 ((!v7)) (some false) (slices_EqualFunc_impl_Vector_impl_Vector_impl_Vector_impl_Vector_l1 K a0 a1 k (IntKind.i64.wrap (x3 + (1 : Int))))))) (some true)

def slices_EqualFunc_impl_Vector_impl_Vector_impl_Vector_impl_Vector (K : Nat) (a0 : (List Vector)) (a1 : (List Vector)) : Option (Bool) :=
  ite2 (((a0.length : Int) != (a1.length : Int))) (some false) (slices_EqualFunc_impl_Vector_impl_Vector_impl_Vector_impl_Vector_l1 K a0 a1 K (0 : Int))

theorem ok_slices_EqualFunc_impl_Vector_impl_Vector_impl_Vector_impl_Vector (K : Nat) (a0 : (List Vector)) (a1 : (List Vector)) (o : (Bool)) (h : slices_EqualFunc_impl_Vector_impl_Vector_impl_Vector_impl_Vector K a0 a1 = some o) : CallOK Try.prog 21 [.one (sl 3 cs_Vector a0), .one (sl 3 cs_Vector a1), .one (.fn 10 0 fun _ => .nilptr)] [.one (.bool o)] := by
  refine callOK_of_AW Try.func21 rfl (by kernel_rfl) (Nat.le_of_ble_eq_true (by kernel_rfl)) ?_
  intro w0
  unfold slices_EqualFunc_impl_Vector_impl_Vector_impl_Vector_impl_Vector at h
  refine AW.seq (AW.rA ⟨[(0, (vc (sl 3 cs_Vector a0))), (1, (vc (sl 3 cs_Vector a1))), (2, (vc (.fn 10 0 fun _ => .nilptr)))], []⟩ (Tt ∧ Tt) [] [0, 1, 2] [] ⟨tr, tr⟩ (thenQ_normal ?_))
  refine AW.seq ?_
  refine AW.seq (AW.rA ⟨[(0, (vc (sl 3 cs_Vector a0))), (1, (vc (sl 3 cs_Vector a1))), (2, (vc (.fn 10 0 fun _ => .nilptr))), (14, (vc (.bool ((a0.length : Int) != (a1.length : Int)))))], []⟩ (Tt ∧ T4 Tt) [] [0, 1, 2, 14] [] ⟨tr, tr, tr, tr, tr, tr⟩ (thenQ_normal ?_))
  rcases ite2_cases h with ⟨b1, h⟩ | ⟨b1, h⟩
  · refine AW.cond_t rfl b1 ?_
    refine AW.seq (AW.rA ⟨[(6, (vc (.bool false)))], []⟩ (Tt ∧ Tt) [] [6] [] ⟨tr, tr⟩ (thenQ_normal ?_))
    refine AW.ret ?_
    refine thenQ_ret ?_
    replace h := some_eq h
    subst h
    exact ⟨.inr rfl, retOK_of [(.one (.c (.bool false)))] (by kernel_rfl) ⟨⟨rfl, tr⟩, tr⟩ (of_decide_eq_true (by kernel_rfl))⟩
  · refine AW.cond_f rfl b1 ?_
    refine AW.skip ?_
    refine thenQ_normal ?_
    refine AW.seq ?_
    refine AW.seq (AW.rA ⟨[(1, (vc (sl 3 cs_Vector a1))), (2, (vc (.fn 10 0 fun _ => .nilptr))), (15, (vc (sl 3 cs_Vector a0))), (16, (vc (.int .i64 (a0.length : Int)))), (17, (vc (.int .i64 (0 : Int))))], []⟩ (Tt ∧ T2 Tt) [] [1, 2, 15, 16, 17] [] ⟨tr, tr, tr, tr⟩ (thenQ_normal ?_))
    refine AW.block ?_
    refine AW.loopQ (σ := Nat × Int) (fun p => ⟨[(1, (vc (sl 3 cs_Vector a1))), (2, (vc (.fn 10 0 fun _ => .nilptr))), (15, (vc (sl 3 cs_Vector a0))), (16, (vc (.int .i64 (a0.length : Int)))), (17, (vc (.int .i64 p.2)))], []⟩) (fun p => slices_EqualFunc_impl_Vector_impl_Vector_impl_Vector_impl_Vector_l1 K a0 a1 p.1 p.2 = some o) (fun p => p.1) (K, (0 : Int)) h ?_
    clear h
    rintro ⟨k, x3⟩ h
    replace h : slices_EqualFunc_impl_Vector_impl_Vector_impl_Vector_impl_Vector_l1 K a0 a1 k x3 = some o := h
    show AW _ _ (⟨[(1, (vc (sl 3 cs_Vector a1))), (2, (vc (.fn 10 0 fun _ => .nilptr))), (15, (vc (sl 3 cs_Vector a0))), (16, (vc (.int .i64 (a0.length : Int)))), (17, (vc (.int .i64 x3)))], []⟩ : St) _
    obtain _ | k := k
    · rw [slices_EqualFunc_impl_Vector_impl_Vector_impl_Vector_impl_Vector_l1] at h; cases h
    rw [slices_EqualFunc_impl_Vector_impl_Vector_impl_Vector_impl_Vector_l1] at h
    refine AW.seq (AW.rA ⟨[(1, (vc (sl 3 cs_Vector a1))), (2, (vc (.fn 10 0 fun _ => .nilptr))), (15, (vc (sl 3 cs_Vector a0))), (16, (vc (.int .i64 (a0.length : Int)))), (17, (vc (.int .i64 x3))), (18, (vc (.bool (decide (x3 < (a0.length : Int))))))], []⟩ (Tt ∧ Tt) [] [1, 2, 15, 16, 17, 18] [] ⟨tr, tr⟩ (thenQ_normal ?_))
    refine AW.seq ?_
    rcases ite2_cases h with ⟨b4, h⟩ | ⟨b4, h⟩
    · refine AW.cond_t rfl b4 ?_
      refine AW.skip ?_
      refine thenQ_normal ?_
      refine AW.seq ?_
      refine AW.block ?_
      refine AW.seq ?_
      obtain ⟨c5, h⟩ := chk_some h
      refine AW.rA ⟨[(1, (vc (sl 3 cs_Vector a1))), (2, (vc (.fn 10 0 fun _ => .nilptr))), (7, (vc (.int .i64 x3))), (8, (vp 5 0)), (15, (vc (sl 3 cs_Vector a0))), (16, (vc (.int .i64 (a0.length : Int)))), (17, (vc (.int .i64 x3)))], [(5, (.box [(.c (.flt .f32 ((a0.getD x3.toNat default).X).bits)), (.c (.flt .f32 ((a0.getD x3.toNat default).Y).bits)), (.c (.flt .f32 ((a0.getD x3.toNat default).Z).bits))]))]⟩ (Tt ∧ (0 ≤ x3 ∧ x3 < (a0.length : Int)) ∧ T4 Tt) [.no, .no, .no, .box 5] [1, 2, 7, 8, 15, 16, 17] [5] ⟨tr, c5, tr, tr, tr, tr, tr⟩ ?_
      refine thenQ_normal ?_
      refine AW.seq ?_
      obtain ⟨c6, h⟩ := chk_some h
      refine AW.rA ⟨[(1, (vc (sl 3 cs_Vector a1))), (2, (vc (.fn 10 0 fun _ => .nilptr))), (8, (vp 5 0)), (9, (vp 6 0)), (15, (vc (sl 3 cs_Vector a0))), (16, (vc (.int .i64 (a0.length : Int)))), (17, (vc (.int .i64 x3)))], [(5, (.box [(.c (.flt .f32 ((a0.getD x3.toNat default).X).bits)), (.c (.flt .f32 ((a0.getD x3.toNat default).Y).bits)), (.c (.flt .f32 ((a0.getD x3.toNat default).Z).bits))])), (6, (.box [(.c (.flt .f32 ((a1.getD x3.toNat default).X).bits)), (.c (.flt .f32 ((a1.getD x3.toNat default).Y).bits)), (.c (.flt .f32 ((a1.getD x3.toNat default).Z).bits))]))]⟩ (T2 ((0 ≤ x3 ∧ x3 < (a1.length : Int)) ∧ Tt ∧ T2 Tt)) [.no, .no, .no, .no, .box 6] [1, 2, 8, 9, 15, 16, 17] [5, 6] ⟨tr, tr, c6, tr, tr, tr, tr⟩ ?_
      refine thenQ_normal ?_
      refine AW.seq ?_
      obtain ⟨v7, e8, h⟩ := bind_some h
      refine AW.rA ⟨[(1, (vc (sl 3 cs_Vector a1))), (2, (vc (.fn 10 0 fun _ => .nilptr))), (15, (vc (sl 3 cs_Vector a0))), (16, (vc (.int .i64 (a0.length : Int)))), (17, (vc (.int .i64 x3))), (30, (vc (.bool (!v7))))], []⟩ (Tt ∧ T2 (((((Eqc (.flt .f32 ((a0.getD x3.toNat default).X).bits)) ∧ (Eqc (.flt .f32 ((a0.getD x3.toNat default).Y).bits)) ∧ (Eqc (.flt .f32 ((a0.getD x3.toNat default).Z).bits)) ∧ Tt) ∧ ((Eqc (.flt .f32 ((a1.getD x3.toNat default).X).bits)) ∧ (Eqc (.flt .f32 ((a1.getD x3.toNat default).Y).bits)) ∧ (Eqc (.flt .f32 ((a1.getD x3.toNat default).Z).bits)) ∧ Tt) ∧ Tt) ∧ CallOK Try.prog 10 [.agg (cs_Vector (a0.getD x3.toNat default)), .agg (cs_Vector (a1.getD x3.toNat default))] [.one (.bool v7)]) ∧ Tt ∧ Tt)) [.no, .no, .no, .call [.agg (cs_Vector (a0.getD x3.toNat default)), .agg (cs_Vector (a1.getD x3.toNat default))] [.one (.bool v7)] [[.view]]] [1, 2, 15, 16, 17, 30] [] ⟨tr, tr, tr, ⟨⟨⟨rfl, rfl, rfl, tr⟩, ⟨rfl, rfl, rfl, tr⟩, tr⟩, ok_impl_SameVector K (a0.getD x3.toNat default) (a1.getD x3.toNat default) v7 e8⟩, tr, tr⟩ ?_
      refine thenQ_normal ?_
      rcases ite2_cases h with ⟨b9, h⟩ | ⟨b9, h⟩
      · refine AW.cond_t rfl b9 ?_
        refine AW.seq (AW.rA ⟨[(6, (vc (.bool false)))], []⟩ (Tt ∧ Tt) [] [6] [] ⟨tr, tr⟩ (thenQ_normal ?_))
        refine AW.ret ?_
        refine blockQ_ret ?_
        refine thenQ_ret ?_
        refine loopQ_ret ?_
        refine blockQ_ret ?_
        refine thenQ_ret ?_
        replace h := some_eq h
        subst h
        exact ⟨.inr rfl, retOK_of [(.one (.c (.bool false)))] (by kernel_rfl) ⟨⟨rfl, tr⟩, tr⟩ (of_decide_eq_true (by kernel_rfl))⟩
      · refine AW.cond_f rfl b9 ?_
        refine AW.skip ?_
        refine blockQ_normal ?_
        refine thenQ_normal ?_
        refine AW.rA ⟨[(1, (vc (sl 3 cs_Vector a1))), (2, (vc (.fn 10 0 fun _ => .nilptr))), (15, (vc (sl 3 cs_Vector a0))), (16, (vc (.int .i64 (a0.length : Int)))), (17, (vc (.int .i64 (IntKind.i64.wrap (x3 + (1 : Int))))))], []⟩ (T2 Tt) [] [1, 2, 15, 16, 17] [] ⟨tr, tr, tr⟩ ?_
        exact loopQ_normal (k, (IntKind.i64.wrap (x3 + (1 : Int)))) h (Nat.lt_succ_self k) (Sub.keep [1, 2, 15, 16, 17] [] (by kernel_rfl) (by kernel_rfl))
    · refine AW.cond_f rfl b4 ?_
      refine AW.exit ?_
      refine thenQ_exit ?_
      refine loopQ_exit ?_
      refine blockQ_exit ?_
      refine thenQ_normal ?_
      refine AW.seq (AW.rA ⟨[(6, (vc (.bool true)))], []⟩ (Tt ∧ Tt) [] [6] [] ⟨tr, tr⟩ (thenQ_normal ?_))
      refine AW.ret ?_
      replace h := some_eq h
      subst h
      exact ⟨.inr rfl, retOK_of [(.one (.c (.bool true)))] (by kernel_rfl) ⟨⟨rfl, tr⟩, tr⟩ (of_decide_eq_true (by kernel_rfl))⟩

/-! slices.Equal[[]bool,bool] -/
def slices_Equal_bool_bool_l1 (K : Nat) (a0 : (List Bool)) (a1 : (List Bool)) : Nat → Int → Option (Bool)
  | 0, _ => none
  | k + 1, x3 => ite2 ((decide (x3 < (a0.length : Int)))) (chk (0 ≤ x3 ∧ x3 < (a0.length : Int)) (chk (0 ≤ x3 ∧ x3 < (a1.length : Int)) (ite2 ((!((a0.getD x3.toNat default) == (a1.getD x3.toNat default)))) (some false) (slices_Equal_bool_bool_l1 K a0 a1 k (IntKind.i64.wrap (x3 + (1 : Int))))))) (some true)

def slices_Equal_bool_bool (K : Nat) (a0 : (List Bool)) (a1 : (List Bool)) : Option (Bool) :=
  ite2 (((a0.length : Int) != (a1.length : Int))) (some false) (slices_Equal_bool_bool_l1 K a0 a1 K (0 : Int))

theorem ok_slices_Equal_bool_bool (K : Nat) (a0 : (List Bool)) (a1 : (List Bool)) (o : (Bool)) (h : slices_Equal_bool_bool K a0 a1 = some o) : CallOK Try.prog 22 [.one (sl 1 csB a0), .one (sl 1 csB a1)] [.one (.bool o)] := by
  refine callOK_of_AW Try.func22 rfl (by kernel_rfl) (Nat.le_of_ble_eq_true (by kernel_rfl)) ?_
  intro w0
  unfold slices_Equal_bool_bool at h
  refine AW.seq (AW.rA ⟨[(0, (vc (sl 1 csB a0))), (1, (vc (sl 1 csB a1)))], []⟩ (Tt ∧ Tt) [] [0, 1] [] ⟨tr, tr⟩ (thenQ_normal ?_))
  refine AW.seq ?_
  refine AW.seq (AW.rA ⟨[(0, (vc (sl 1 csB a0))), (1, (vc (sl 1 csB a1))), (10, (vc (.bool ((a0.length : Int) != (a1.length : Int)))))], []⟩ (Tt ∧ T4 Tt) [] [0, 1, 10] [] ⟨tr, tr, tr, tr, tr, tr⟩ (thenQ_normal ?_))
  rcases ite2_cases h with ⟨b1, h⟩ | ⟨b1, h⟩
  · refine AW.cond_t rfl b1 ?_
    refine AW.seq (AW.rA ⟨[(4, (vc (.bool false)))], []⟩ (Tt ∧ Tt) [] [4] [] ⟨tr, tr⟩ (thenQ_normal ?_))
    refine AW.ret ?_
    refine thenQ_ret ?_
    replace h := some_eq h
    subst h
    exact ⟨.inr rfl, retOK_of [(.one (.c (.bool false)))] (by kernel_rfl) ⟨⟨rfl, tr⟩, tr⟩ (of_decide_eq_true (by kernel_rfl))⟩
  · refine AW.cond_f rfl b1 ?_
    refine AW.skip ?_
    refine thenQ_normal ?_
    refine AW.seq ?_
    refine AW.seq (AW.rA ⟨[(0, (vc (sl 1 csB a0))), (1, (vc (sl 1 csB a1))), (12, (vc (.int .i64 (a0.length : Int)))), (13, (vc (.int .i64 (0 : Int))))], []⟩ (Tt ∧ T2 Tt) [] [0, 1, 12, 13] [] ⟨tr, tr, tr, tr⟩ (thenQ_normal ?_))
    refine AW.block ?_
    refine AW.loopQ (σ := Nat × Int) (fun p => ⟨[(0, (vc (sl 1 csB a0))), (1, (vc (sl 1 csB a1))), (12, (vc (.int .i64 (a0.length : Int)))), (13, (vc (.int .i64 p.2)))], []⟩) (fun p => slices_Equal_bool_bool_l1 K a0 a1 p.1 p.2 = some o) (fun p => p.1) (K, (0 : Int)) h ?_
    clear h
    rintro ⟨k, x3⟩ h
    replace h : slices_Equal_bool_bool_l1 K a0 a1 k x3 = some o := h
    show AW _ _ (⟨[(0, (vc (sl 1 csB a0))), (1, (vc (sl 1 csB a1))), (12, (vc (.int .i64 (a0.length : Int)))), (13, (vc (.int .i64 x3)))], []⟩ : St) _
    obtain _ | k := k
    · rw [slices_Equal_bool_bool_l1] at h; cases h
    rw [slices_Equal_bool_bool_l1] at h
    refine AW.seq (AW.rA ⟨[(0, (vc (sl 1 csB a0))), (1, (vc (sl 1 csB a1))), (12, (vc (.int .i64 (a0.length : Int)))), (13, (vc (.int .i64 x3))), (14, (vc (.bool (decide (x3 < (a0.length : Int))))))], []⟩ (Tt ∧ Tt) [] [0, 1, 12, 13, 14] [] ⟨tr, tr⟩ (thenQ_normal ?_))
    refine AW.seq ?_
    rcases ite2_cases h with ⟨b4, h⟩ | ⟨b4, h⟩
    · refine AW.cond_t rfl b4 ?_
      refine AW.skip ?_
      refine thenQ_normal ?_
      refine AW.seq ?_
      refine AW.block ?_
      refine AW.seq (AW.rA ⟨[(0, (vc (sl 1 csB a0))), (1, (vc (sl 1 csB a1))), (5, (vc (.int .i64 x3))), (12, (vc (.int .i64 (a0.length : Int)))), (13, (vc (.int .i64 x3)))], []⟩ (T2 Tt) [] [0, 1, 5, 12, 13] [] ⟨tr, tr, tr⟩ (thenQ_normal ?_))
      refine AW.seq ?_
      obtain ⟨c5, h⟩ := chk_some h
      obtain ⟨c6, h⟩ := chk_some h
      refine AW.dA ⟨[(0, (vc (sl 1 csB a0))), (1, (vc (sl 1 csB a1))), (12, (vc (.int .i64 (a0.length : Int)))), (13, (vc (.int .i64 x3))), (24, (vc (.bool (!((a0.getD x3.toNat default) == (a1.getD x3.toNat default))))))], []⟩ ((T2 ((0 ≤ x3 ∧ x3 < (a0.length : Int)) ∧ Tt ∧ T2 ((0 ≤ x3 ∧ x3 < (a1.length : Int)) ∧ T2 Tt))) ∧ (Tt)) 9 [] [0, 1, 12, 13, 24] [] ⟨⟨tr, tr, c5, tr, tr, tr, c6, tr, tr, tr⟩, tr⟩ ?_
      refine thenQ_normal ?_
      rcases ite2_cases h with ⟨b7, h⟩ | ⟨b7, h⟩
      · refine AW.cond_t rfl b7 ?_
        refine AW.seq (AW.rA ⟨[(4, (vc (.bool false)))], []⟩ (Tt ∧ Tt) [] [4] [] ⟨tr, tr⟩ (thenQ_normal ?_))
        refine AW.ret ?_
        refine blockQ_ret ?_
        refine thenQ_ret ?_
        refine loopQ_ret ?_
        refine blockQ_ret ?_
        refine thenQ_ret ?_
        replace h := some_eq h
        subst h
        exact ⟨.inr rfl, retOK_of [(.one (.c (.bool false)))] (by kernel_rfl) ⟨⟨rfl, tr⟩, tr⟩ (of_decide_eq_true (by kernel_rfl))⟩
      · refine AW.cond_f rfl b7 ?_
        refine AW.skip ?_
        refine blockQ_normal ?_
        refine thenQ_normal ?_
        refine AW.rA ⟨[(0, (vc (sl 1 csB a0))), (1, (vc (sl 1 csB a1))), (12, (vc (.int .i64 (a0.length : Int)))), (13, (vc (.int .i64 (IntKind.i64.wrap (x3 + (1 : Int))))))], []⟩ (T2 Tt) [] [0, 1, 12, 13] [] ⟨tr, tr, tr⟩ ?_
        exact loopQ_normal (k, (IntKind.i64.wrap (x3 + (1 : Int)))) h (Nat.lt_succ_self k) (Sub.keep [0, 1, 12, 13] [] (by kernel_rfl) (by kernel_rfl))
    · refine AW.cond_f rfl b4 ?_
      refine AW.exit ?_
      refine thenQ_exit ?_
      refine loopQ_exit ?_
      refine blockQ_exit ?_
      refine thenQ_normal ?_
      refine AW.seq (AW.rA ⟨[(4, (vc (.bool true)))], []⟩ (Tt ∧ Tt) [] [4] [] ⟨tr, tr⟩ (thenQ_normal ?_))
      refine AW.ret ?_
      replace h := some_eq h
      subst h
      exact ⟨.inr rfl, retOK_of [(.one (.c (.bool true)))] (by kernel_rfl) ⟨⟨rfl, tr⟩, tr⟩ (of_decide_eq_true (by kernel_rfl))⟩

/-! slices.EqualFunc[[]float32,[]float32,float32,float32] -/
def slices_EqualFunc_float32_float32_float32_float32_l1 (K : Nat) (a0 : (List F32)) (a1 : (List F32)) : Nat → Int → Option (Bool)
  | 0, _ => none
  | k + 1, x3 => ite2 ((decide (x3 < (a0.length : Int)))) (chk (0 ≤ x3 ∧ x3 < (a0.length : Int)) (chk (0 ≤ x3 ∧ x3 < (a1.length : Int)) ((impl_SameNumber K (a0.getD x3.toNat default) (a1.getD x3.toNat default)).bind fun v7 => ite2 ((!v7)) (some false) (slices_EqualFunc_float32_float32_float32_float32_l1 K a0 a1 k (IntKind.i64.wrap (x3 + (1 : Int))))))) (some true)

def slices_EqualFunc_float32_float32_float32_float32 (K : Nat) (a0 : (List F32)) (a1 : (List F32)) : Option (Bool) :=
  ite2 (((a0.length : Int) != (a1.length : Int))) (some false) (slices_EqualFunc_float32_float32_float32_float32_l1 K a0 a1 K (0 : Int))

theorem ok_slices_EqualFunc_float32_float32_float32_float32 (K : Nat) (a0 : (List F32)) (a1 : (List F32)) (o : (Bool)) (h : slices_EqualFunc_float32_float32_float32_float32 K a0 a1 = some o) : CallOK Try.prog 23 [.one (sl 1 (csF .f32) a0), .one (sl 1 (csF .f32) a1), .one (.fn 24 0 fun _ => .nilptr)] [.one (.bool o)] := by
  refine callOK_of_AW Try.func23 rfl (by kernel_rfl) (Nat.le_of_ble_eq_true (by kernel_rfl)) ?_
  intro w0
  unfold slices_EqualFunc_float32_float32_float32_float32 at h
  refine AW.seq (AW.rA ⟨[(0, (vc (sl 1 (csF .f32) a0))), (1, (vc (sl 1 (csF .f32) a1))), (2, (vc (.fn 24 0 fun _ => .nilptr)))], []⟩ (Tt ∧ Tt) [] [0, 1, 2] [] ⟨tr, tr⟩ (thenQ_normal ?_))
  refine AW.seq ?_
  refine AW.seq (AW.rA ⟨[(0, (vc (sl 1 (csF .f32) a0))), (1, (vc (sl 1 (csF .f32) a1))), (2, (vc (.fn 24 0 fun _ => .nilptr))), (14, (vc (.bool ((a0.length : Int) != (a1.length : Int)))))], []⟩ (Tt ∧ T4 Tt) [] [0, 1, 2, 14] [] ⟨tr, tr, tr, tr, tr, tr⟩ (thenQ_normal ?_))
  rcases ite2_cases h with ⟨b1, h⟩ | ⟨b1, h⟩
  · refine AW.cond_t rfl b1 ?_
    refine AW.seq (AW.rA ⟨[(6, (vc (.bool false)))], []⟩ (Tt ∧ Tt) [] [6] [] ⟨tr, tr⟩ (thenQ_normal ?_))
    refine AW.ret ?_
    refine thenQ_ret ?_
    replace h := some_eq h
    subst h
    exact ⟨.inr rfl, retOK_of [(.one (.c (.bool false)))] (by kernel_rfl) ⟨⟨rfl, tr⟩, tr⟩ (of_decide_eq_true (by kernel_rfl))⟩
  · refine AW.cond_f rfl b1 ?_
    refine AW.skip ?_
    refine thenQ_normal ?_
    refine AW.seq ?_
    refine AW.seq (AW.rA ⟨[(1, (vc (sl 1 (csF .f32) a1))), (2, (vc (.fn 24 0 fun _ => .nilptr))), (15, (vc (sl 1 (csF .f32) a0))), (16, (vc (.int .i64 (a0.length : Int)))), (17, (vc (.int .i64 (0 : Int))))], []⟩ (Tt ∧ T2 Tt) [] [1, 2, 15, 16, 17] [] ⟨tr, tr, tr, tr⟩ (thenQ_normal ?_))
    refine AW.block ?_
    refine AW.loopQ (σ := Nat × Int) (fun p => ⟨[(1, (vc (sl 1 (csF .f32) a1))), (2, (vc (.fn 24 0 fun _ => .nilptr))), (15, (vc (sl 1 (csF .f32) a0))), (16, (vc (.int .i64 (a0.length : Int)))), (17, (vc (.int .i64 p.2)))], []⟩) (fun p => slices_EqualFunc_float32_float32_float32_float32_l1 K a0 a1 p.1 p.2 = some o) (fun p => p.1) (K, (0 : Int)) h ?_
    clear h
    rintro ⟨k, x3⟩ h
    replace h : slices_EqualFunc_float32_float32_float32_float32_l1 K a0 a1 k x3 = some o := h
    show AW _ _ (⟨[(1, (vc (sl 1 (csF .f32) a1))), (2, (vc (.fn 24 0 fun _ => .nilptr))), (15, (vc (sl 1 (csF .f32) a0))), (16, (vc (.int .i64 (a0.length : Int)))), (17, (vc (.int .i64 x3)))], []⟩ : St) _
    obtain _ | k := k
    · rw [slices_EqualFunc_float32_float32_float32_float32_l1] at h; cases h
    rw [slices_EqualFunc_float32_float32_float32_float32_l1] at h
    refine AW.seq (AW.rA ⟨[(1, (vc (sl 1 (csF .f32) a1))), (2, (vc (.fn 24 0 fun _ => .nilptr))), (15, (vc (sl 1 (csF .f32) a0))), (16, (vc (.int .i64 (a0.length : Int)))), (17, (vc (.int .i64 x3))), (18, (vc (.bool (decide (x3 < (a0.length : Int))))))], []⟩ (Tt ∧ Tt) [] [1, 2, 15, 16, 17, 18] [] ⟨tr, tr⟩ (thenQ_normal ?_))
    refine AW.seq ?_
    rcases ite2_cases h with ⟨b4, h⟩ | ⟨b4, h⟩
    · refine AW.cond_t rfl b4 ?_
      refine AW.skip ?_
      refine thenQ_normal ?_
      refine AW.seq ?_
      refine AW.block ?_
      refine AW.seq ?_
      obtain ⟨c5, h⟩ := chk_some h
      refine AW.rA ⟨[(1, (vc (sl 1 (csF .f32) a1))), (2, (vc (.fn 24 0 fun _ => .nilptr))), (7, (vc (.int .i64 x3))), (8, (vc (.flt .f32 (a0.getD x3.toNat default).bits))), (15, (vc (sl 1 (csF .f32) a0))), (16, (vc (.int .i64 (a0.length : Int)))), (17, (vc (.int .i64 x3)))], []⟩ (Tt ∧ (0 ≤ x3 ∧ x3 < (a0.length : Int)) ∧ Tt ∧ T2 Tt) [] [1, 2, 7, 8, 15, 16, 17] [] ⟨tr, c5, tr, tr, tr, tr⟩ ?_
      refine thenQ_normal ?_
      refine AW.seq ?_
      obtain ⟨c6, h⟩ := chk_some h
      refine AW.rA ⟨[(1, (vc (sl 1 (csF .f32) a1))), (2, (vc (.fn 24 0 fun _ => .nilptr))), (8, (vc (.flt .f32 (a0.getD x3.toNat default).bits))), (9, (vc (.flt .f32 (a1.getD x3.toNat default).bits))), (15, (vc (sl 1 (csF .f32) a0))), (16, (vc (.int .i64 (a0.length : Int)))), (17, (vc (.int .i64 x3)))], []⟩ (T2 ((0 ≤ x3 ∧ x3 < (a1.length : Int)) ∧ T2 Tt)) [] [1, 2, 8, 9, 15, 16, 17] [] ⟨tr, tr, c6, tr, tr, tr⟩ ?_
      refine thenQ_normal ?_
      refine AW.seq ?_
      obtain ⟨v7, e8, h⟩ := bind_some h
      refine AW.rA ⟨[(1, (vc (sl 1 (csF .f32) a1))), (2, (vc (.fn 24 0 fun _ => .nilptr))), (15, (vc (sl 1 (csF .f32) a0))), (16, (vc (.int .i64 (a0.length : Int)))), (17, (vc (.int .i64 x3))), (30, (vc (.bool (!v7))))], []⟩ (Tt ∧ T2 ((((Eqc (.flt .f32 (a0.getD x3.toNat default).bits)) ∧ (Eqc (.flt .f32 (a1.getD x3.toNat default).bits)) ∧ Tt) ∧ CallOK Try.prog 24 [.one (.flt .f32 (a0.getD x3.toNat default).bits), .one (.flt .f32 (a1.getD x3.toNat default).bits)] [.one (.bool v7)]) ∧ Tt ∧ Tt)) [.no, .no, .no, .call [.one (.flt .f32 (a0.getD x3.toNat default).bits), .one (.flt .f32 (a1.getD x3.toNat default).bits)] [.one (.bool v7)] [[.view]]] [1, 2, 15, 16, 17, 30] [] ⟨tr, tr, tr, ⟨⟨rfl, rfl, tr⟩, ok_impl_SameNumber K (a0.getD x3.toNat default) (a1.getD x3.toNat default) v7 e8⟩, tr, tr⟩ ?_
      refine thenQ_normal ?_
      rcases ite2_cases h with ⟨b9, h⟩ | ⟨b9, h⟩
      · refine AW.cond_t rfl b9 ?_
        refine AW.seq (AW.rA ⟨[(6, (vc (.bool false)))], []⟩ (Tt ∧ Tt) [] [6] [] ⟨tr, tr⟩ (thenQ_normal ?_))
        refine AW.ret ?_
        refine blockQ_ret ?_
        refine thenQ_ret ?_
        refine loopQ_ret ?_
        refine blockQ_ret ?_
        refine thenQ_ret ?_
        replace h := some_eq h
        subst h
        exact ⟨.inr rfl, retOK_of [(.one (.c (.bool false)))] (by kernel_rfl) ⟨⟨rfl, tr⟩, tr⟩ (of_decide_eq_true (by kernel_rfl))⟩
      · refine AW.cond_f rfl b9 ?_
        refine AW.skip ?_
        refine blockQ_normal ?_
        refine thenQ_normal ?_
        refine AW.rA ⟨[(1, (vc (sl 1 (csF .f32) a1))), (2, (vc (.fn 24 0 fun _ => .nilptr))), (15, (vc (sl 1 (csF .f32) a0))), (16, (vc (.int .i64 (a0.length : Int)))), (17, (vc (.int .i64 (IntKind.i64.wrap (x3 + (1 : Int))))))], []⟩ (T2 Tt) [] [1, 2, 15, 16, 17] [] ⟨tr, tr, tr⟩ ?_
        exact loopQ_normal (k, (IntKind.i64.wrap (x3 + (1 : Int)))) h (Nat.lt_succ_self k) (Sub.keep [1, 2, 15, 16, 17] [] (by kernel_rfl) (by kernel_rfl))
    · refine AW.cond_f rfl b4 ?_
      refine AW.exit ?_
      refine thenQ_exit ?_
      refine loopQ_exit ?_
      refine blockQ_exit ?_
      refine thenQ_normal ?_
      refine AW.seq (AW.rA ⟨[(6, (vc (.bool true)))], []⟩ (Tt ∧ Tt) [] [6] [] ⟨tr, tr⟩ (thenQ_normal ?_))
      refine AW.ret ?_
      replace h := some_eq h
      subst h
      exact ⟨.inr rfl, retOK_of [(.one (.c (.bool true)))] (by kernel_rfl) ⟨⟨rfl, tr⟩, tr⟩ (of_decide_eq_true (by kernel_rfl))⟩

/-! impl.SameString -/
def impl_SameString (K : Nat) (a0 : String) (a1 : String) : Option (Bool) :=
  (impl_ValidString K a0).bind fun v1 => (ite2 (v1) ((impl_ValidString K a1).bind fun v4 => ite2 (v4) ((slices_EqualFunc_impl_Vector_impl_Vector_impl_Vector_impl_Vector K a0.Points a1.Points).bind fun v7 => ite2 (v7) ((slices_EqualFunc_impl_Vector_impl_Vector_impl_Vector_impl_Vector K a0.Before a1.Before).bind fun v10 => ite2 (v10) ((slices_Equal_bool_bool K a0.Fixed a1.Fixed).bind fun v13 => ite2 (v13) ((slices_EqualFunc_float32_float32_float32_float32 K a0.Lengths a1.Lengths).bind fun v16 => ite2 (v16) ((impl_SameVector K a0.Fall a1.Fall).bind fun v19 => ite2 (v19) ((impl_SameNumber K a0.Damp a1.Damp).bind fun v22 => ite2 (v22) (some (a0.Passes == a1.Passes)) (some false)) (some false)) (some false)) (some false)) (some false)) (some false)) (some false)) (some false)).bind fun j25 => some j25

theorem ok_impl_SameString (K : Nat) (a0 : String) (a1 : String) (o : (Bool)) (h : impl_SameString K a0 a1 = some o) : CallOK Try.prog 9 [.agg (cs_String a0), .agg (cs_String a1)] [.one (.bool o)] := by
  refine callOK_of_AW Try.func9 rfl (by kernel_rfl) (Nat.le_of_ble_eq_true (by kernel_rfl)) ?_
  intro w0
  unfold impl_SameString at h
  refine AW.seq (AW.rA ⟨[(2, (vp 1 0)), (3, (vp 2 0))], [(1, (.box [(.c (sl 3 cs_Vector a0.Points)), (.c (sl 3 cs_Vector a0.Before)), (.c (sl 1 csB a0.Fixed)), (.c (sl 1 (csF .f32) a0.Lengths)), (.c (.flt .f32 a0.Fall.X.bits)), (.c (.flt .f32 a0.Fall.Y.bits)), (.c (.flt .f32 a0.Fall.Z.bits)), (.c (.flt .f32 a0.Damp.bits)), (.c (.int .i64 a0.Passes))])), (2, (.box [(.c (sl 3 cs_Vector a1.Points)), (.c (sl 3 cs_Vector a1.Before)), (.c (sl 1 csB a1.Fixed)), (.c (sl 1 (csF .f32) a1.Lengths)), (.c (.flt .f32 a1.Fall.X.bits)), (.c (.flt .f32 a1.Fall.Y.bits)), (.c (.flt .f32 a1.Fall.Z.bits)), (.c (.flt .f32 a1.Damp.bits)), (.c (.int .i64 a1.Passes))]))]⟩ (Tt ∧ T2 Tt) [.box 1, .box 2] [2, 3] [1, 2] ⟨tr, tr, tr, tr⟩ (thenQ_normal ?_))
  refine AW.seq ?_
  obtain ⟨v1, e2, h⟩ := bind_some h
  obtain ⟨j25, e26, h⟩ := bind_some h
  refine AW.join1 (s2 := ⟨[(4, (vc (.bool j25)))], []⟩) ?_ ?_
  · rcases ite2_cases e26 with ⟨b3, e26⟩ | ⟨b3, e26⟩
    · obtain ⟨v4, e5, e26⟩ := bind_some e26
      rcases ite2_cases e26 with ⟨b6, e26⟩ | ⟨b6, e26⟩
      · obtain ⟨v7, e8, e26⟩ := bind_some e26
        rcases ite2_cases e26 with ⟨b9, e26⟩ | ⟨b9, e26⟩
        · obtain ⟨v10, e11, e26⟩ := bind_some e26
          rcases ite2_cases e26 with ⟨b12, e26⟩ | ⟨b12, e26⟩
          · obtain ⟨v13, e14, e26⟩ := bind_some e26
            rcases ite2_cases e26 with ⟨b15, e26⟩ | ⟨b15, e26⟩
            · obtain ⟨v16, e17, e26⟩ := bind_some e26
              rcases ite2_cases e26 with ⟨b18, e26⟩ | ⟨b18, e26⟩
              · obtain ⟨v19, e20, e26⟩ := bind_some e26
                rcases ite2_cases e26 with ⟨b21, e26⟩ | ⟨b21, e26⟩
                · obtain ⟨v22, e23, e26⟩ := bind_some e26
                  rcases ite2_cases e26 with ⟨b24, e26⟩ | ⟨b24, e26⟩
                  · replace e26 := some_eq e26
                    subst e26
                    exact AW.rA ⟨[(4, (vc (.bool (a0.Passes == a1.Passes))))], []⟩ (Tt ∧ ((((Eqc (sl 3 cs_Vector a0.Points)) ∧ (Eqc (sl 3 cs_Vector a0.Before)) ∧ (Eqc (sl 1 csB a0.Fixed)) ∧ (Eqc (sl 1 (csF .f32) a0.Lengths)) ∧ (Eqc (.flt .f32 a0.Fall.X.bits)) ∧ (Eqc (.flt .f32 a0.Fall.Y.bits)) ∧ (Eqc (.flt .f32 a0.Fall.Z.bits)) ∧ (Eqc (.flt .f32 a0.Damp.bits)) ∧ (Eqc (.int .i64 a0.Passes)) ∧ Tt) ∧ Tt) ∧ CallOK Try.prog 8 [.agg (cs_String a0)] [.one (.bool v1)]) ∧ (Tt ∧ v1 = true) ∧ Tt ∧ ((((Eqc (sl 3 cs_Vector a1.Points)) ∧ (Eqc (sl 3 cs_Vector a1.Before)) ∧ (Eqc (sl 1 csB a1.Fixed)) ∧ (Eqc (sl 1 (csF .f32) a1.Lengths)) ∧ (Eqc (.flt .f32 a1.Fall.X.bits)) ∧ (Eqc (.flt .f32 a1.Fall.Y.bits)) ∧ (Eqc (.flt .f32 a1.Fall.Z.bits)) ∧ (Eqc (.flt .f32 a1.Damp.bits)) ∧ (Eqc (.int .i64 a1.Passes)) ∧ Tt) ∧ Tt) ∧ CallOK Try.prog 8 [.agg (cs_String a1)] [.one (.bool v4)]) ∧ Tt ∧ (Tt ∧ v4 = true) ∧ T4 ((((Eqc (sl 3 cs_Vector a0.Points)) ∧ (Eqc (sl 3 cs_Vector a1.Points)) ∧ (Eqc (.fn 10 0 fun _ => .nilptr)) ∧ Tt) ∧ CallOK Try.prog 21 [.one (sl 3 cs_Vector a0.Points), .one (sl 3 cs_Vector a1.Points), .one (.fn 10 0 fun _ => .nilptr)] [.one (.bool v7)]) ∧ Tt ∧ (Tt ∧ v7 = true) ∧ T4 ((((Eqc (sl 3 cs_Vector a0.Before)) ∧ (Eqc (sl 3 cs_Vector a1.Before)) ∧ (Eqc (.fn 10 0 fun _ => .nilptr)) ∧ Tt) ∧ CallOK Try.prog 21 [.one (sl 3 cs_Vector a0.Before), .one (sl 3 cs_Vector a1.Before), .one (.fn 10 0 fun _ => .nilptr)] [.one (.bool v10)]) ∧ Tt ∧ (Tt ∧ v10 = true) ∧ T4 ((((Eqc (sl 1 csB a0.Fixed)) ∧ (Eqc (sl 1 csB a1.Fixed)) ∧ Tt) ∧ CallOK Try.prog 22 [.one (sl 1 csB a0.Fixed), .one (sl 1 csB a1.Fixed)] [.one (.bool v13)]) ∧ Tt ∧ (Tt ∧ v13 = true) ∧ T4 ((((Eqc (sl 1 (csF .f32) a0.Lengths)) ∧ (Eqc (sl 1 (csF .f32) a1.Lengths)) ∧ (Eqc (.fn 24 0 fun _ => .nilptr)) ∧ Tt) ∧ CallOK Try.prog 23 [.one (sl 1 (csF .f32) a0.Lengths), .one (sl 1 (csF .f32) a1.Lengths), .one (.fn 24 0 fun _ => .nilptr)] [.one (.bool v16)]) ∧ Tt ∧ (Tt ∧ v16 = true) ∧ T4 (((((Eqc (.flt .f32 a0.Fall.X.bits)) ∧ (Eqc (.flt .f32 a0.Fall.Y.bits)) ∧ (Eqc (.flt .f32 a0.Fall.Z.bits)) ∧ Tt) ∧ ((Eqc (.flt .f32 a1.Fall.X.bits)) ∧ (Eqc (.flt .f32 a1.Fall.Y.bits)) ∧ (Eqc (.flt .f32 a1.Fall.Z.bits)) ∧ Tt) ∧ Tt) ∧ CallOK Try.prog 10 [.agg (cs_Vector a0.Fall), .agg (cs_Vector a1.Fall)] [.one (.bool v19)]) ∧ Tt ∧ (Tt ∧ v19 = true) ∧ T4 ((((Eqc (.flt .f32 a0.Damp.bits)) ∧ (Eqc (.flt .f32 a1.Damp.bits)) ∧ Tt) ∧ CallOK Try.prog 24 [.one (.flt .f32 a0.Damp.bits), .one (.flt .f32 a1.Damp.bits)] [.one (.bool v22)]) ∧ Tt ∧ (Tt ∧ v22 = true) ∧ Tt ∧ T2 (T4 Tt)))))))) [.no, .call [.agg (cs_String a0)] [.one (.bool v1)] [[.view]], .dec true, .no, .call [.agg (cs_String a1)] [.one (.bool v4)] [[.view]], .no, .dec true, .no, .no, .no, .no, .call [.one (sl 3 cs_Vector a0.Points), .one (sl 3 cs_Vector a1.Points), .one (.fn 10 0 fun _ => .nilptr)] [.one (.bool v7)] [[.view]], .no, .dec true, .no, .no, .no, .no, .call [.one (sl 3 cs_Vector a0.Before), .one (sl 3 cs_Vector a1.Before), .one (.fn 10 0 fun _ => .nilptr)] [.one (.bool v10)] [[.view]], .no, .dec true, .no, .no, .no, .no, .call [.one (sl 1 csB a0.Fixed), .one (sl 1 csB a1.Fixed)] [.one (.bool v13)] [[.view]], .no, .dec true, .no, .no, .no, .no, .call [.one (sl 1 (csF .f32) a0.Lengths), .one (sl 1 (csF .f32) a1.Lengths), .one (.fn 24 0 fun _ => .nilptr)] [.one (.bool v16)] [[.view]], .no, .dec true, .no, .no, .no, .no, .call [.agg (cs_Vector a0.Fall), .agg (cs_Vector a1.Fall)] [.one (.bool v19)] [[.view]], .no, .dec true, .no, .no, .no, .no, .call [.one (.flt .f32 a0.Damp.bits), .one (.flt .f32 a1.Damp.bits)] [.one (.bool v22)] [[.view]], .no, .dec true] [4] [] ⟨tr, ⟨⟨⟨rfl, rfl, rfl, rfl, rfl, rfl, rfl, rfl, rfl, tr⟩, tr⟩, ok_impl_ValidString K a0 v1 e2⟩, ⟨tr, b3⟩, tr, ⟨⟨⟨rfl, rfl, rfl, rfl, rfl, rfl, rfl, rfl, rfl, tr⟩, tr⟩, ok_impl_ValidString K a1 v4 e5⟩, tr, ⟨tr, b6⟩, tr, tr, tr, tr, ⟨⟨rfl, rfl, rfl, tr⟩, ok_slices_EqualFunc_impl_Vector_impl_Vector_impl_Vector_impl_Vector K a0.Points a1.Points v7 e8⟩, tr, ⟨tr, b9⟩, tr, tr, tr, tr, ⟨⟨rfl, rfl, rfl, tr⟩, ok_slices_EqualFunc_impl_Vector_impl_Vector_impl_Vector_impl_Vector K a0.Before a1.Before v10 e11⟩, tr, ⟨tr, b12⟩, tr, tr, tr, tr, ⟨⟨rfl, rfl, tr⟩, ok_slices_Equal_bool_bool K a0.Fixed a1.Fixed v13 e14⟩, tr, ⟨tr, b15⟩, tr, tr, tr, tr, ⟨⟨rfl, rfl, rfl, tr⟩, ok_slices_EqualFunc_float32_float32_float32_float32 K a0.Lengths a1.Lengths v16 e17⟩, tr, ⟨tr, b18⟩, tr, tr, tr, tr, ⟨⟨⟨rfl, rfl, rfl, tr⟩, ⟨rfl, rfl, rfl, tr⟩, tr⟩, ok_impl_SameVector K a0.Fall a1.Fall v19 e20⟩, tr, ⟨tr, b21⟩, tr, tr, tr, tr, ⟨⟨rfl, rfl, tr⟩, ok_impl_SameNumber K a0.Damp a1.Damp v22 e23⟩, tr, ⟨tr, b24⟩, tr, tr, tr, tr, tr, tr, tr, tr⟩ ⟨rfl, rfl⟩
                  · replace e26 := some_eq e26
                    subst e26
                    exact AW.rA ⟨[(4, (vc (.bool false)))], []⟩ (Tt ∧ ((((Eqc (sl 3 cs_Vector a0.Points)) ∧ (Eqc (sl 3 cs_Vector a0.Before)) ∧ (Eqc (sl 1 csB a0.Fixed)) ∧ (Eqc (sl 1 (csF .f32) a0.Lengths)) ∧ (Eqc (.flt .f32 a0.Fall.X.bits)) ∧ (Eqc (.flt .f32 a0.Fall.Y.bits)) ∧ (Eqc (.flt .f32 a0.Fall.Z.bits)) ∧ (Eqc (.flt .f32 a0.Damp.bits)) ∧ (Eqc (.int .i64 a0.Passes)) ∧ Tt) ∧ Tt) ∧ CallOK Try.prog 8 [.agg (cs_String a0)] [.one (.bool v1)]) ∧ (Tt ∧ v1 = true) ∧ Tt ∧ ((((Eqc (sl 3 cs_Vector a1.Points)) ∧ (Eqc (sl 3 cs_Vector a1.Before)) ∧ (Eqc (sl 1 csB a1.Fixed)) ∧ (Eqc (sl 1 (csF .f32) a1.Lengths)) ∧ (Eqc (.flt .f32 a1.Fall.X.bits)) ∧ (Eqc (.flt .f32 a1.Fall.Y.bits)) ∧ (Eqc (.flt .f32 a1.Fall.Z.bits)) ∧ (Eqc (.flt .f32 a1.Damp.bits)) ∧ (Eqc (.int .i64 a1.Passes)) ∧ Tt) ∧ Tt) ∧ CallOK Try.prog 8 [.agg (cs_String a1)] [.one (.bool v4)]) ∧ Tt ∧ (Tt ∧ v4 = true) ∧ T4 ((((Eqc (sl 3 cs_Vector a0.Points)) ∧ (Eqc (sl 3 cs_Vector a1.Points)) ∧ (Eqc (.fn 10 0 fun _ => .nilptr)) ∧ Tt) ∧ CallOK Try.prog 21 [.one (sl 3 cs_Vector a0.Points), .one (sl 3 cs_Vector a1.Points), .one (.fn 10 0 fun _ => .nilptr)] [.one (.bool v7)]) ∧ Tt ∧ (Tt ∧ v7 = true) ∧ T4 ((((Eqc (sl 3 cs_Vector a0.Before)) ∧ (Eqc (sl 3 cs_Vector a1.Before)) ∧ (Eqc (.fn 10 0 fun _ => .nilptr)) ∧ Tt) ∧ CallOK Try.prog 21 [.one (sl 3 cs_Vector a0.Before), .one (sl 3 cs_Vector a1.Before), .one (.fn 10 0 fun _ => .nilptr)] [.one (.bool v10)]) ∧ Tt ∧ (Tt ∧ v10 = true) ∧ T4 ((((Eqc (sl 1 csB a0.Fixed)) ∧ (Eqc (sl 1 csB a1.Fixed)) ∧ Tt) ∧ CallOK Try.prog 22 [.one (sl 1 csB a0.Fixed), .one (sl 1 csB a1.Fixed)] [.one (.bool v13)]) ∧ Tt ∧ (Tt ∧ v13 = true) ∧ T4 ((((Eqc (sl 1 (csF .f32) a0.Lengths)) ∧ (Eqc (sl 1 (csF .f32) a1.Lengths)) ∧ (Eqc (.fn 24 0 fun _ => .nilptr)) ∧ Tt) ∧ CallOK Try.prog 23 [.one (sl 1 (csF .f32) a0.Lengths), .one (sl 1 (csF .f32) a1.Lengths), .one (.fn 24 0 fun _ => .nilptr)] [.one (.bool v16)]) ∧ Tt ∧ (Tt ∧ v16 = true) ∧ T4 (((((Eqc (.flt .f32 a0.Fall.X.bits)) ∧ (Eqc (.flt .f32 a0.Fall.Y.bits)) ∧ (Eqc (.flt .f32 a0.Fall.Z.bits)) ∧ Tt) ∧ ((Eqc (.flt .f32 a1.Fall.X.bits)) ∧ (Eqc (.flt .f32 a1.Fall.Y.bits)) ∧ (Eqc (.flt .f32 a1.Fall.Z.bits)) ∧ Tt) ∧ Tt) ∧ CallOK Try.prog 10 [.agg (cs_Vector a0.Fall), .agg (cs_Vector a1.Fall)] [.one (.bool v19)]) ∧ Tt ∧ (Tt ∧ v19 = true) ∧ T4 ((((Eqc (.flt .f32 a0.Damp.bits)) ∧ (Eqc (.flt .f32 a1.Damp.bits)) ∧ Tt) ∧ CallOK Try.prog 24 [.one (.flt .f32 a0.Damp.bits), .one (.flt .f32 a1.Damp.bits)] [.one (.bool v22)]) ∧ Tt ∧ (Tt ∧ v22 = false) ∧ Tt ∧ T2 (T4 Tt)))))))) [.no, .call [.agg (cs_String a0)] [.one (.bool v1)] [[.view]], .dec true, .no, .call [.agg (cs_String a1)] [.one (.bool v4)] [[.view]], .no, .dec true, .no, .no, .no, .no, .call [.one (sl 3 cs_Vector a0.Points), .one (sl 3 cs_Vector a1.Points), .one (.fn 10 0 fun _ => .nilptr)] [.one (.bool v7)] [[.view]], .no, .dec true, .no, .no, .no, .no, .call [.one (sl 3 cs_Vector a0.Before), .one (sl 3 cs_Vector a1.Before), .one (.fn 10 0 fun _ => .nilptr)] [.one (.bool v10)] [[.view]], .no, .dec true, .no, .no, .no, .no, .call [.one (sl 1 csB a0.Fixed), .one (sl 1 csB a1.Fixed)] [.one (.bool v13)] [[.view]], .no, .dec true, .no, .no, .no, .no, .call [.one (sl 1 (csF .f32) a0.Lengths), .one (sl 1 (csF .f32) a1.Lengths), .one (.fn 24 0 fun _ => .nilptr)] [.one (.bool v16)] [[.view]], .no, .dec true, .no, .no, .no, .no, .call [.agg (cs_Vector a0.Fall), .agg (cs_Vector a1.Fall)] [.one (.bool v19)] [[.view]], .no, .dec true, .no, .no, .no, .no, .call [.one (.flt .f32 a0.Damp.bits), .one (.flt .f32 a1.Damp.bits)] [.one (.bool v22)] [[.view]], .no, .dec false] [4] [] ⟨tr, ⟨⟨⟨rfl, rfl, rfl, rfl, rfl, rfl, rfl, rfl, rfl, tr⟩, tr⟩, ok_impl_ValidString K a0 v1 e2⟩, ⟨tr, b3⟩, tr, ⟨⟨⟨rfl, rfl, rfl, rfl, rfl, rfl, rfl, rfl, rfl, tr⟩, tr⟩, ok_impl_ValidString K a1 v4 e5⟩, tr, ⟨tr, b6⟩, tr, tr, tr, tr, ⟨⟨rfl, rfl, rfl, tr⟩, ok_slices_EqualFunc_impl_Vector_impl_Vector_impl_Vector_impl_Vector K a0.Points a1.Points v7 e8⟩, tr, ⟨tr, b9⟩, tr, tr, tr, tr, ⟨⟨rfl, rfl, rfl, tr⟩, ok_slices_EqualFunc_impl_Vector_impl_Vector_impl_Vector_impl_Vector K a0.Before a1.Before v10 e11⟩, tr, ⟨tr, b12⟩, tr, tr, tr, tr, ⟨⟨rfl, rfl, tr⟩, ok_slices_Equal_bool_bool K a0.Fixed a1.Fixed v13 e14⟩, tr, ⟨tr, b15⟩, tr, tr, tr, tr, ⟨⟨rfl, rfl, rfl, tr⟩, ok_slices_EqualFunc_float32_float32_float32_float32 K a0.Lengths a1.Lengths v16 e17⟩, tr, ⟨tr, b18⟩, tr, tr, tr, tr, ⟨⟨⟨rfl, rfl, rfl, tr⟩, ⟨rfl, rfl, rfl, tr⟩, tr⟩, ok_impl_SameVector K a0.Fall a1.Fall v19 e20⟩, tr, ⟨tr, b21⟩, tr, tr, tr, tr, ⟨⟨rfl, rfl, tr⟩, ok_impl_SameNumber K a0.Damp a1.Damp v22 e23⟩, tr, ⟨tr, b24⟩, tr, tr, tr, tr, tr, tr, tr, tr⟩ ⟨rfl, rfl⟩
                · replace e26 := some_eq e26
                  subst e26
                  exact AW.rA ⟨[(4, (vc (.bool false)))], []⟩ (Tt ∧ ((((Eqc (sl 3 cs_Vector a0.Points)) ∧ (Eqc (sl 3 cs_Vector a0.Before)) ∧ (Eqc (sl 1 csB a0.Fixed)) ∧ (Eqc (sl 1 (csF .f32) a0.Lengths)) ∧ (Eqc (.flt .f32 a0.Fall.X.bits)) ∧ (Eqc (.flt .f32 a0.Fall.Y.bits)) ∧ (Eqc (.flt .f32 a0.Fall.Z.bits)) ∧ (Eqc (.flt .f32 a0.Damp.bits)) ∧ (Eqc (.int .i64 a0.Passes)) ∧ Tt) ∧ Tt) ∧ CallOK Try.prog 8 [.agg (cs_String a0)] [.one (.bool v1)]) ∧ (Tt ∧ v1 = true) ∧ Tt ∧ ((((Eqc (sl 3 cs_Vector a1.Points)) ∧ (Eqc (sl 3 cs_Vector a1.Before)) ∧ (Eqc (sl 1 csB a1.Fixed)) ∧ (Eqc (sl 1 (csF .f32) a1.Lengths)) ∧ (Eqc (.flt .f32 a1.Fall.X.bits)) ∧ (Eqc (.flt .f32 a1.Fall.Y.bits)) ∧ (Eqc (.flt .f32 a1.Fall.Z.bits)) ∧ (Eqc (.flt .f32 a1.Damp.bits)) ∧ (Eqc (.int .i64 a1.Passes)) ∧ Tt) ∧ Tt) ∧ CallOK Try.prog 8 [.agg (cs_String a1)] [.one (.bool v4)]) ∧ Tt ∧ (Tt ∧ v4 = true) ∧ T4 ((((Eqc (sl 3 cs_Vector a0.Points)) ∧ (Eqc (sl 3 cs_Vector a1.Points)) ∧ (Eqc (.fn 10 0 fun _ => .nilptr)) ∧ Tt) ∧ CallOK Try.prog 21 [.one (sl 3 cs_Vector a0.Points), .one (sl 3 cs_Vector a1.Points), .one (.fn 10 0 fun _ => .nilptr)] [.one (.bool v7)]) ∧ Tt ∧ (Tt ∧ v7 = true) ∧ T4 ((((Eqc (sl 3 cs_Vector a0.Before)) ∧ (Eqc (sl 3 cs_Vector a1.Before)) ∧ (Eqc (.fn 10 0 fun _ => .nilptr)) ∧ Tt) ∧ CallOK Try.prog 21 [.one (sl 3 cs_Vector a0.Before), .one (sl 3 cs_Vector a1.Before), .one (.fn 10 0 fun _ => .nilptr)] [.one (.bool v10)]) ∧ Tt ∧ (Tt ∧ v10 = true) ∧ T4 ((((Eqc (sl 1 csB a0.Fixed)) ∧ (Eqc (sl 1 csB a1.Fixed)) ∧ Tt) ∧ CallOK Try.prog 22 [.one (sl 1 csB a0.Fixed), .one (sl 1 csB a1.Fixed)] [.one (.bool v13)]) ∧ Tt ∧ (Tt ∧ v13 = true) ∧ T4 ((((Eqc (sl 1 (csF .f32) a0.Lengths)) ∧ (Eqc (sl 1 (csF .f32) a1.Lengths)) ∧ (Eqc (.fn 24 0 fun _ => .nilptr)) ∧ Tt) ∧ CallOK Try.prog 23 [.one (sl 1 (csF .f32) a0.Lengths), .one (sl 1 (csF .f32) a1.Lengths), .one (.fn 24 0 fun _ => .nilptr)] [.one (.bool v16)]) ∧ Tt ∧ (Tt ∧ v16 = true) ∧ T4 (((((Eqc (.flt .f32 a0.Fall.X.bits)) ∧ (Eqc (.flt .f32 a0.Fall.Y.bits)) ∧ (Eqc (.flt .f32 a0.Fall.Z.bits)) ∧ Tt) ∧ ((Eqc (.flt .f32 a1.Fall.X.bits)) ∧ (Eqc (.flt .f32 a1.Fall.Y.bits)) ∧ (Eqc (.flt .f32 a1.Fall.Z.bits)) ∧ Tt) ∧ Tt) ∧ CallOK Try.prog 10 [.agg (cs_Vector a0.Fall), .agg (cs_Vector a1.Fall)] [.one (.bool v19)]) ∧ Tt ∧ (Tt ∧ v19 = false) ∧ T2 (T4 (T4 (T4 Tt))))))))) [.no, .call [.agg (cs_String a0)] [.one (.bool v1)] [[.view]], .dec true, .no, .call [.agg (cs_String a1)] [.one (.bool v4)] [[.view]], .no, .dec true, .no, .no, .no, .no, .call [.one (sl 3 cs_Vector a0.Points), .one (sl 3 cs_Vector a1.Points), .one (.fn 10 0 fun _ => .nilptr)] [.one (.bool v7)] [[.view]], .no, .dec true, .no, .no, .no, .no, .call [.one (sl 3 cs_Vector a0.Before), .one (sl 3 cs_Vector a1.Before), .one (.fn 10 0 fun _ => .nilptr)] [.one (.bool v10)] [[.view]], .no, .dec true, .no, .no, .no, .no, .call [.one (sl 1 csB a0.Fixed), .one (sl 1 csB a1.Fixed)] [.one (.bool v13)] [[.view]], .no, .dec true, .no, .no, .no, .no, .call [.one (sl 1 (csF .f32) a0.Lengths), .one (sl 1 (csF .f32) a1.Lengths), .one (.fn 24 0 fun _ => .nilptr)] [.one (.bool v16)] [[.view]], .no, .dec true, .no, .no, .no, .no, .call [.agg (cs_Vector a0.Fall), .agg (cs_Vector a1.Fall)] [.one (.bool v19)] [[.view]], .no, .dec false] [4] [] ⟨tr, ⟨⟨⟨rfl, rfl, rfl, rfl, rfl, rfl, rfl, rfl, rfl, tr⟩, tr⟩, ok_impl_ValidString K a0 v1 e2⟩, ⟨tr, b3⟩, tr, ⟨⟨⟨rfl, rfl, rfl, rfl, rfl, rfl, rfl, rfl, rfl, tr⟩, tr⟩, ok_impl_ValidString K a1 v4 e5⟩, tr, ⟨tr, b6⟩, tr, tr, tr, tr, ⟨⟨rfl, rfl, rfl, tr⟩, ok_slices_EqualFunc_impl_Vector_impl_Vector_impl_Vector_impl_Vector K a0.Points a1.Points v7 e8⟩, tr, ⟨tr, b9⟩, tr, tr, tr, tr, ⟨⟨rfl, rfl, rfl, tr⟩, ok_slices_EqualFunc_impl_Vector_impl_Vector_impl_Vector_impl_Vector K a0.Before a1.Before v10 e11⟩, tr, ⟨tr, b12⟩, tr, tr, tr, tr, ⟨⟨rfl, rfl, tr⟩, ok_slices_Equal_bool_bool K a0.Fixed a1.Fixed v13 e14⟩, tr, ⟨tr, b15⟩, tr, tr, tr, tr, ⟨⟨rfl, rfl, rfl, tr⟩, ok_slices_EqualFunc_float32_float32_float32_float32 K a0.Lengths a1.Lengths v16 e17⟩, tr, ⟨tr, b18⟩, tr, tr, tr, tr, ⟨⟨⟨rfl, rfl, rfl, tr⟩, ⟨rfl, rfl, rfl, tr⟩, tr⟩, ok_impl_SameVector K a0.Fall a1.Fall v19 e20⟩, tr, ⟨tr, b21⟩, tr, tr, tr, tr, tr, tr, tr, tr, tr, tr, tr, tr, tr, tr, tr⟩ ⟨rfl, rfl⟩
              · replace e26 := some_eq e26
                subst e26
                exact AW.rA ⟨[(4, (vc (.bool false)))], []⟩ (Tt ∧ ((((Eqc (sl 3 cs_Vector a0.Points)) ∧ (Eqc (sl 3 cs_Vector a0.Before)) ∧ (Eqc (sl 1 csB a0.Fixed)) ∧ (Eqc (sl 1 (csF .f32) a0.Lengths)) ∧ (Eqc (.flt .f32 a0.Fall.X.bits)) ∧ (Eqc (.flt .f32 a0.Fall.Y.bits)) ∧ (Eqc (.flt .f32 a0.Fall.Z.bits)) ∧ (Eqc (.flt .f32 a0.Damp.bits)) ∧ (Eqc (.int .i64 a0.Passes)) ∧ Tt) ∧ Tt) ∧ CallOK Try.prog 8 [.agg (cs_String a0)] [.one (.bool v1)]) ∧ (Tt ∧ v1 = true) ∧ Tt ∧ ((((Eqc (sl 3 cs_Vector a1.Points)) ∧ (Eqc (sl 3 cs_Vector a1.Before)) ∧ (Eqc (sl 1 csB a1.Fixed)) ∧ (Eqc (sl 1 (csF .f32) a1.Lengths)) ∧ (Eqc (.flt .f32 a1.Fall.X.bits)) ∧ (Eqc (.flt .f32 a1.Fall.Y.bits)) ∧ (Eqc (.flt .f32 a1.Fall.Z.bits)) ∧ (Eqc (.flt .f32 a1.Damp.bits)) ∧ (Eqc (.int .i64 a1.Passes)) ∧ Tt) ∧ Tt) ∧ CallOK Try.prog 8 [.agg (cs_String a1)] [.one (.bool v4)]) ∧ Tt ∧ (Tt ∧ v4 = true) ∧ T4 ((((Eqc (sl 3 cs_Vector a0.Points)) ∧ (Eqc (sl 3 cs_Vector a1.Points)) ∧ (Eqc (.fn 10 0 fun _ => .nilptr)) ∧ Tt) ∧ CallOK Try.prog 21 [.one (sl 3 cs_Vector a0.Points), .one (sl 3 cs_Vector a1.Points), .one (.fn 10 0 fun _ => .nilptr)] [.one (.bool v7)]) ∧ Tt ∧ (Tt ∧ v7 = true) ∧ T4 ((((Eqc (sl 3 cs_Vector a0.Before)) ∧ (Eqc (sl 3 cs_Vector a1.Before)) ∧ (Eqc (.fn 10 0 fun _ => .nilptr)) ∧ Tt) ∧ CallOK Try.prog 21 [.one (sl 3 cs_Vector a0.Before), .one (sl 3 cs_Vector a1.Before), .one (.fn 10 0 fun _ => .nilptr)] [.one (.bool v10)]) ∧ Tt ∧ (Tt ∧ v10 = true) ∧ T4 ((((Eqc (sl 1 csB a0.Fixed)) ∧ (Eqc (sl 1 csB a1.Fixed)) ∧ Tt) ∧ CallOK Try.prog 22 [.one (sl 1 csB a0.Fixed), .one (sl 1 csB a1.Fixed)] [.one (.bool v13)]) ∧ Tt ∧ (Tt ∧ v13 = true) ∧ T4 ((((Eqc (sl 1 (csF .f32) a0.Lengths)) ∧ (Eqc (sl 1 (csF .f32) a1.Lengths)) ∧ (Eqc (.fn 24 0 fun _ => .nilptr)) ∧ Tt) ∧ CallOK Try.prog 23 [.one (sl 1 (csF .f32) a0.Lengths), .one (sl 1 (csF .f32) a1.Lengths), .one (.fn 24 0 fun _ => .nilptr)] [.one (.bool v16)]) ∧ Tt ∧ (Tt ∧ v16 = false) ∧ Tt ∧ T4 (T4 (T4 (T4 (T4 Tt))))))))) [.no, .call [.agg (cs_String a0)] [.one (.bool v1)] [[.view]], .dec true, .no, .call [.agg (cs_String a1)] [.one (.bool v4)] [[.view]], .no, .dec true, .no, .no, .no, .no, .call [.one (sl 3 cs_Vector a0.Points), .one (sl 3 cs_Vector a1.Points), .one (.fn 10 0 fun _ => .nilptr)] [.one (.bool v7)] [[.view]], .no, .dec true, .no, .no, .no, .no, .call [.one (sl 3 cs_Vector a0.Before), .one (sl 3 cs_Vector a1.Before), .one (.fn 10 0 fun _ => .nilptr)] [.one (.bool v10)] [[.view]], .no, .dec true, .no, .no, .no, .no, .call [.one (sl 1 csB a0.Fixed), .one (sl 1 csB a1.Fixed)] [.one (.bool v13)] [[.view]], .no, .dec true, .no, .no, .no, .no, .call [.one (sl 1 (csF .f32) a0.Lengths), .one (sl 1 (csF .f32) a1.Lengths), .one (.fn 24 0 fun _ => .nilptr)] [.one (.bool v16)] [[.view]], .no, .dec false] [4] [] ⟨tr, ⟨⟨⟨rfl, rfl, rfl, rfl, rfl, rfl, rfl, rfl, rfl, tr⟩, tr⟩, ok_impl_ValidString K a0 v1 e2⟩, ⟨tr, b3⟩, tr, ⟨⟨⟨rfl, rfl, rfl, rfl, rfl, rfl, rfl, rfl, rfl, tr⟩, tr⟩, ok_impl_ValidString K a1 v4 e5⟩, tr, ⟨tr, b6⟩, tr, tr, tr, tr, ⟨⟨rfl, rfl, rfl, tr⟩, ok_slices_EqualFunc_impl_Vector_impl_Vector_impl_Vector_impl_Vector K a0.Points a1.Points v7 e8⟩, tr, ⟨tr, b9⟩, tr, tr, tr, tr, ⟨⟨rfl, rfl, rfl, tr⟩, ok_slices_EqualFunc_impl_Vector_impl_Vector_impl_Vector_impl_Vector K a0.Before a1.Before v10 e11⟩, tr, ⟨tr, b12⟩, tr, tr, tr, tr, ⟨⟨rfl, rfl, tr⟩, ok_slices_Equal_bool_bool K a0.Fixed a1.Fixed v13 e14⟩, tr, ⟨tr, b15⟩, tr, tr, tr, tr, ⟨⟨rfl, rfl, rfl, tr⟩, ok_slices_EqualFunc_float32_float32_float32_float32 K a0.Lengths a1.Lengths v16 e17⟩, tr, ⟨tr, b18⟩, tr, tr, tr, tr, tr, tr, tr, tr, tr, tr, tr, tr, tr, tr, tr, tr, tr, tr, tr, tr, tr, tr⟩ ⟨rfl, rfl⟩
            · replace e26 := some_eq e26
              subst e26
              exact AW.rA ⟨[(4, (vc (.bool false)))], []⟩ (Tt ∧ ((((Eqc (sl 3 cs_Vector a0.Points)) ∧ (Eqc (sl 3 cs_Vector a0.Before)) ∧ (Eqc (sl 1 csB a0.Fixed)) ∧ (Eqc (sl 1 (csF .f32) a0.Lengths)) ∧ (Eqc (.flt .f32 a0.Fall.X.bits)) ∧ (Eqc (.flt .f32 a0.Fall.Y.bits)) ∧ (Eqc (.flt .f32 a0.Fall.Z.bits)) ∧ (Eqc (.flt .f32 a0.Damp.bits)) ∧ (Eqc (.int .i64 a0.Passes)) ∧ Tt) ∧ Tt) ∧ CallOK Try.prog 8 [.agg (cs_String a0)] [.one (.bool v1)]) ∧ (Tt ∧ v1 = true) ∧ Tt ∧ ((((Eqc (sl 3 cs_Vector a1.Points)) ∧ (Eqc (sl 3 cs_Vector a1.Before)) ∧ (Eqc (sl 1 csB a1.Fixed)) ∧ (Eqc (sl 1 (csF .f32) a1.Lengths)) ∧ (Eqc (.flt .f32 a1.Fall.X.bits)) ∧ (Eqc (.flt .f32 a1.Fall.Y.bits)) ∧ (Eqc (.flt .f32 a1.Fall.Z.bits)) ∧ (Eqc (.flt .f32 a1.Damp.bits)) ∧ (Eqc (.int .i64 a1.Passes)) ∧ Tt) ∧ Tt) ∧ CallOK Try.prog 8 [.agg (cs_String a1)] [.one (.bool v4)]) ∧ Tt ∧ (Tt ∧ v4 = true) ∧ T4 ((((Eqc (sl 3 cs_Vector a0.Points)) ∧ (Eqc (sl 3 cs_Vector a1.Points)) ∧ (Eqc (.fn 10 0 fun _ => .nilptr)) ∧ Tt) ∧ CallOK Try.prog 21 [.one (sl 3 cs_Vector a0.Points), .one (sl 3 cs_Vector a1.Points), .one (.fn 10 0 fun _ => .nilptr)] [.one (.bool v7)]) ∧ Tt ∧ (Tt ∧ v7 = true) ∧ T4 ((((Eqc (sl 3 cs_Vector a0.Before)) ∧ (Eqc (sl 3 cs_Vector a1.Before)) ∧ (Eqc (.fn 10 0 fun _ => .nilptr)) ∧ Tt) ∧ CallOK Try.prog 21 [.one (sl 3 cs_Vector a0.Before), .one (sl 3 cs_Vector a1.Before), .one (.fn 10 0 fun _ => .nilptr)] [.one (.bool v10)]) ∧ Tt ∧ (Tt ∧ v10 = true) ∧ T4 ((((Eqc (sl 1 csB a0.Fixed)) ∧ (Eqc (sl 1 csB a1.Fixed)) ∧ Tt) ∧ CallOK Try.prog 22 [.one (sl 1 csB a0.Fixed), .one (sl 1 csB a1.Fixed)] [.one (.bool v13)]) ∧ Tt ∧ (Tt ∧ v13 = false) ∧ T4 (T4 (T4 (T4 (T4 (T4 (T4 Tt)))))))))) [.no, .call [.agg (cs_String a0)] [.one (.bool v1)] [[.view]], .dec true, .no, .call [.agg (cs_String a1)] [.one (.bool v4)] [[.view]], .no, .dec true, .no, .no, .no, .no, .call [.one (sl 3 cs_Vector a0.Points), .one (sl 3 cs_Vector a1.Points), .one (.fn 10 0 fun _ => .nilptr)] [.one (.bool v7)] [[.view]], .no, .dec true, .no, .no, .no, .no, .call [.one (sl 3 cs_Vector a0.Before), .one (sl 3 cs_Vector a1.Before), .one (.fn 10 0 fun _ => .nilptr)] [.one (.bool v10)] [[.view]], .no, .dec true, .no, .no, .no, .no, .call [.one (sl 1 csB a0.Fixed), .one (sl 1 csB a1.Fixed)] [.one (.bool v13)] [[.view]], .no, .dec false] [4] [] ⟨tr, ⟨⟨⟨rfl, rfl, rfl, rfl, rfl, rfl, rfl, rfl, rfl, tr⟩, tr⟩, ok_impl_ValidString K a0 v1 e2⟩, ⟨tr, b3⟩, tr, ⟨⟨⟨rfl, rfl, rfl, rfl, rfl, rfl, rfl, rfl, rfl, tr⟩, tr⟩, ok_impl_ValidString K a1 v4 e5⟩, tr, ⟨tr, b6⟩, tr, tr, tr, tr, ⟨⟨rfl, rfl, rfl, tr⟩, ok_slices_EqualFunc_impl_Vector_impl_Vector_impl_Vector_impl_Vector K a0.Points a1.Points v7 e8⟩, tr, ⟨tr, b9⟩, tr, tr, tr, tr, ⟨⟨rfl, rfl, rfl, tr⟩, ok_slices_EqualFunc_impl_Vector_impl_Vector_impl_Vector_impl_Vector K a0.Before a1.Before v10 e11⟩, tr, ⟨tr, b12⟩, tr, tr, tr, tr, ⟨⟨rfl, rfl, tr⟩, ok_slices_Equal_bool_bool K a0.Fixed a1.Fixed v13 e14⟩, tr, ⟨tr, b15⟩, tr, tr, tr, tr, tr, tr, tr, tr, tr, tr, tr, tr, tr, tr, tr, tr, tr, tr, tr, tr, tr, tr, tr, tr, tr, tr, tr, tr, tr⟩ ⟨rfl, rfl⟩
          · replace e26 := some_eq e26
            subst e26
            exact AW.rA ⟨[(4, (vc (.bool false)))], []⟩ (Tt ∧ ((((Eqc (sl 3 cs_Vector a0.Points)) ∧ (Eqc (sl 3 cs_Vector a0.Before)) ∧ (Eqc (sl 1 csB a0.Fixed)) ∧ (Eqc (sl 1 (csF .f32) a0.Lengths)) ∧ (Eqc (.flt .f32 a0.Fall.X.bits)) ∧ (Eqc (.flt .f32 a0.Fall.Y.bits)) ∧ (Eqc (.flt .f32 a0.Fall.Z.bits)) ∧ (Eqc (.flt .f32 a0.Damp.bits)) ∧ (Eqc (.int .i64 a0.Passes)) ∧ Tt) ∧ Tt) ∧ CallOK Try.prog 8 [.agg (cs_String a0)] [.one (.bool v1)]) ∧ (Tt ∧ v1 = true) ∧ Tt ∧ ((((Eqc (sl 3 cs_Vector a1.Points)) ∧ (Eqc (sl 3 cs_Vector a1.Before)) ∧ (Eqc (sl 1 csB a1.Fixed)) ∧ (Eqc (sl 1 (csF .f32) a1.Lengths)) ∧ (Eqc (.flt .f32 a1.Fall.X.bits)) ∧ (Eqc (.flt .f32 a1.Fall.Y.bits)) ∧ (Eqc (.flt .f32 a1.Fall.Z.bits)) ∧ (Eqc (.flt .f32 a1.Damp.bits)) ∧ (Eqc (.int .i64 a1.Passes)) ∧ Tt) ∧ Tt) ∧ CallOK Try.prog 8 [.agg (cs_String a1)] [.one (.bool v4)]) ∧ Tt ∧ (Tt ∧ v4 = true) ∧ T4 ((((Eqc (sl 3 cs_Vector a0.Points)) ∧ (Eqc (sl 3 cs_Vector a1.Points)) ∧ (Eqc (.fn 10 0 fun _ => .nilptr)) ∧ Tt) ∧ CallOK Try.prog 21 [.one (sl 3 cs_Vector a0.Points), .one (sl 3 cs_Vector a1.Points), .one (.fn 10 0 fun _ => .nilptr)] [.one (.bool v7)]) ∧ Tt ∧ (Tt ∧ v7 = true) ∧ T4 ((((Eqc (sl 3 cs_Vector a0.Before)) ∧ (Eqc (sl 3 cs_Vector a1.Before)) ∧ (Eqc (.fn 10 0 fun _ => .nilptr)) ∧ Tt) ∧ CallOK Try.prog 21 [.one (sl 3 cs_Vector a0.Before), .one (sl 3 cs_Vector a1.Before), .one (.fn 10 0 fun _ => .nilptr)] [.one (.bool v10)]) ∧ Tt ∧ (Tt ∧ v10 = false) ∧ Tt ∧ T2 (T4 (T4 (T4 (T4 (T4 (T4 (T4 (T4 Tt))))))))))) [.no, .call [.agg (cs_String a0)] [.one (.bool v1)] [[.view]], .dec true, .no, .call [.agg (cs_String a1)] [.one (.bool v4)] [[.view]], .no, .dec true, .no, .no, .no, .no, .call [.one (sl 3 cs_Vector a0.Points), .one (sl 3 cs_Vector a1.Points), .one (.fn 10 0 fun _ => .nilptr)] [.one (.bool v7)] [[.view]], .no, .dec true, .no, .no, .no, .no, .call [.one (sl 3 cs_Vector a0.Before), .one (sl 3 cs_Vector a1.Before), .one (.fn 10 0 fun _ => .nilptr)] [.one (.bool v10)] [[.view]], .no, .dec false] [4] [] ⟨tr, ⟨⟨⟨rfl, rfl, rfl, rfl, rfl, rfl, rfl, rfl, rfl, tr⟩, tr⟩, ok_impl_ValidString K a0 v1 e2⟩, ⟨tr, b3⟩, tr, ⟨⟨⟨rfl, rfl, rfl, rfl, rfl, rfl, rfl, rfl, rfl, tr⟩, tr⟩, ok_impl_ValidString K a1 v4 e5⟩, tr, ⟨tr, b6⟩, tr, tr, tr, tr, ⟨⟨rfl, rfl, rfl, tr⟩, ok_slices_EqualFunc_impl_Vector_impl_Vector_impl_Vector_impl_Vector K a0.Points a1.Points v7 e8⟩, tr, ⟨tr, b9⟩, tr, tr, tr, tr, ⟨⟨rfl, rfl, rfl, tr⟩, ok_slices_EqualFunc_impl_Vector_impl_Vector_impl_Vector_impl_Vector K a0.Before a1.Before v10 e11⟩, tr, ⟨tr, b12⟩, tr, tr, tr, tr, tr, tr, tr, tr, tr, tr, tr, tr, tr, tr, tr, tr, tr, tr, tr, tr, tr, tr, tr, tr, tr, tr, tr, tr, tr, tr, tr, tr, tr, tr, tr, tr⟩ ⟨rfl, rfl⟩
        · replace e26 := some_eq e26
          subst e26
          exact AW.rA ⟨[(4, (vc (.bool false)))], []⟩ (Tt ∧ ((((Eqc (sl 3 cs_Vector a0.Points)) ∧ (Eqc (sl 3 cs_Vector a0.Before)) ∧ (Eqc (sl 1 csB a0.Fixed)) ∧ (Eqc (sl 1 (csF .f32) a0.Lengths)) ∧ (Eqc (.flt .f32 a0.Fall.X.bits)) ∧ (Eqc (.flt .f32 a0.Fall.Y.bits)) ∧ (Eqc (.flt .f32 a0.Fall.Z.bits)) ∧ (Eqc (.flt .f32 a0.Damp.bits)) ∧ (Eqc (.int .i64 a0.Passes)) ∧ Tt) ∧ Tt) ∧ CallOK Try.prog 8 [.agg (cs_String a0)] [.one (.bool v1)]) ∧ (Tt ∧ v1 = true) ∧ Tt ∧ ((((Eqc (sl 3 cs_Vector a1.Points)) ∧ (Eqc (sl 3 cs_Vector a1.Before)) ∧ (Eqc (sl 1 csB a1.Fixed)) ∧ (Eqc (sl 1 (csF .f32) a1.Lengths)) ∧ (Eqc (.flt .f32 a1.Fall.X.bits)) ∧ (Eqc (.flt .f32 a1.Fall.Y.bits)) ∧ (Eqc (.flt .f32 a1.Fall.Z.bits)) ∧ (Eqc (.flt .f32 a1.Damp.bits)) ∧ (Eqc (.int .i64 a1.Passes)) ∧ Tt) ∧ Tt) ∧ CallOK Try.prog 8 [.agg (cs_String a1)] [.one (.bool v4)]) ∧ Tt ∧ (Tt ∧ v4 = true) ∧ T4 ((((Eqc (sl 3 cs_Vector a0.Points)) ∧ (Eqc (sl 3 cs_Vector a1.Points)) ∧ (Eqc (.fn 10 0 fun _ => .nilptr)) ∧ Tt) ∧ CallOK Try.prog 21 [.one (sl 3 cs_Vector a0.Points), .one (sl 3 cs_Vector a1.Points), .one (.fn 10 0 fun _ => .nilptr)] [.one (.bool v7)]) ∧ Tt ∧ (Tt ∧ v7 = false) ∧ T2 (T4 (T4 (T4 (T4 (T4 (T4 (T4 (T4 (T4 (T4 Tt)))))))))))) [.no, .call [.agg (cs_String a0)] [.one (.bool v1)] [[.view]], .dec true, .no, .call [.agg (cs_String a1)] [.one (.bool v4)] [[.view]], .no, .dec true, .no, .no, .no, .no, .call [.one (sl 3 cs_Vector a0.Points), .one (sl 3 cs_Vector a1.Points), .one (.fn 10 0 fun _ => .nilptr)] [.one (.bool v7)] [[.view]], .no, .dec false] [4] [] ⟨tr, ⟨⟨⟨rfl, rfl, rfl, rfl, rfl, rfl, rfl, rfl, rfl, tr⟩, tr⟩, ok_impl_ValidString K a0 v1 e2⟩, ⟨tr, b3⟩, tr, ⟨⟨⟨rfl, rfl, rfl, rfl, rfl, rfl, rfl, rfl, rfl, tr⟩, tr⟩, ok_impl_ValidString K a1 v4 e5⟩, tr, ⟨tr, b6⟩, tr, tr, tr, tr, ⟨⟨rfl, rfl, rfl, tr⟩, ok_slices_EqualFunc_impl_Vector_impl_Vector_impl_Vector_impl_Vector K a0.Points a1.Points v7 e8⟩, tr, ⟨tr, b9⟩, tr, tr, tr, tr, tr, tr, tr, tr, tr, tr, tr, tr, tr, tr, tr, tr, tr, tr, tr, tr, tr, tr, tr, tr, tr, tr, tr, tr, tr, tr, tr, tr, tr, tr, tr, tr, tr, tr, tr, tr, tr, tr, tr⟩ ⟨rfl, rfl⟩
      · replace e26 := some_eq e26
        subst e26
        exact AW.rA ⟨[(4, (vc (.bool false)))], []⟩ (Tt ∧ ((((Eqc (sl 3 cs_Vector a0.Points)) ∧ (Eqc (sl 3 cs_Vector a0.Before)) ∧ (Eqc (sl 1 csB a0.Fixed)) ∧ (Eqc (sl 1 (csF .f32) a0.Lengths)) ∧ (Eqc (.flt .f32 a0.Fall.X.bits)) ∧ (Eqc (.flt .f32 a0.Fall.Y.bits)) ∧ (Eqc (.flt .f32 a0.Fall.Z.bits)) ∧ (Eqc (.flt .f32 a0.Damp.bits)) ∧ (Eqc (.int .i64 a0.Passes)) ∧ Tt) ∧ Tt) ∧ CallOK Try.prog 8 [.agg (cs_String a0)] [.one (.bool v1)]) ∧ (Tt ∧ v1 = true) ∧ Tt ∧ ((((Eqc (sl 3 cs_Vector a1.Points)) ∧ (Eqc (sl 3 cs_Vector a1.Before)) ∧ (Eqc (sl 1 csB a1.Fixed)) ∧ (Eqc (sl 1 (csF .f32) a1.Lengths)) ∧ (Eqc (.flt .f32 a1.Fall.X.bits)) ∧ (Eqc (.flt .f32 a1.Fall.Y.bits)) ∧ (Eqc (.flt .f32 a1.Fall.Z.bits)) ∧ (Eqc (.flt .f32 a1.Damp.bits)) ∧ (Eqc (.int .i64 a1.Passes)) ∧ Tt) ∧ Tt) ∧ CallOK Try.prog 8 [.agg (cs_String a1)] [.one (.bool v4)]) ∧ Tt ∧ (Tt ∧ v4 = false) ∧ Tt ∧ T4 (T4 (T4 (T4 (T4 (T4 (T4 (T4 (T4 (T4 (T4 (T4 Tt)))))))))))) [.no, .call [.agg (cs_String a0)] [.one (.bool v1)] [[.view]], .dec true, .no, .call [.agg (cs_String a1)] [.one (.bool v4)] [[.view]], .no, .dec false] [4] [] ⟨tr, ⟨⟨⟨rfl, rfl, rfl, rfl, rfl, rfl, rfl, rfl, rfl, tr⟩, tr⟩, ok_impl_ValidString K a0 v1 e2⟩, ⟨tr, b3⟩, tr, ⟨⟨⟨rfl, rfl, rfl, rfl, rfl, rfl, rfl, rfl, rfl, tr⟩, tr⟩, ok_impl_ValidString K a1 v4 e5⟩, tr, ⟨tr, b6⟩, tr, tr, tr, tr, tr, tr, tr, tr, tr, tr, tr, tr, tr, tr, tr, tr, tr, tr, tr, tr, tr, tr, tr, tr, tr, tr, tr, tr, tr, tr, tr, tr, tr, tr, tr, tr, tr, tr, tr, tr, tr, tr, tr, tr, tr, tr, tr, tr, tr, tr⟩ ⟨rfl, rfl⟩
    · replace e26 := some_eq e26
      subst e26
      exact AW.rA ⟨[(4, (vc (.bool false)))], []⟩ (Tt ∧ ((((Eqc (sl 3 cs_Vector a0.Points)) ∧ (Eqc (sl 3 cs_Vector a0.Before)) ∧ (Eqc (sl 1 csB a0.Fixed)) ∧ (Eqc (sl 1 (csF .f32) a0.Lengths)) ∧ (Eqc (.flt .f32 a0.Fall.X.bits)) ∧ (Eqc (.flt .f32 a0.Fall.Y.bits)) ∧ (Eqc (.flt .f32 a0.Fall.Z.bits)) ∧ (Eqc (.flt .f32 a0.Damp.bits)) ∧ (Eqc (.int .i64 a0.Passes)) ∧ Tt) ∧ Tt) ∧ CallOK Try.prog 8 [.agg (cs_String a0)] [.one (.bool v1)]) ∧ (Tt ∧ v1 = false) ∧ Tt ∧ T4 (T4 (T4 (T4 (T4 (T4 (T4 (T4 (T4 (T4 (T4 (T4 (T4 Tt))))))))))))) [.no, .call [.agg (cs_String a0)] [.one (.bool v1)] [[.view]], .dec false] [4] [] ⟨tr, ⟨⟨⟨rfl, rfl, rfl, rfl, rfl, rfl, rfl, rfl, rfl, tr⟩, tr⟩, ok_impl_ValidString K a0 v1 e2⟩, ⟨tr, b3⟩, tr, tr, tr, tr, tr, tr, tr, tr, tr, tr, tr, tr, tr, tr, tr, tr, tr, tr, tr, tr, tr, tr, tr, tr, tr, tr, tr, tr, tr, tr, tr, tr, tr, tr, tr, tr, tr, tr, tr, tr, tr, tr, tr, tr, tr, tr, tr, tr, tr, tr, tr, tr, tr, tr⟩ ⟨rfl, rfl⟩
  refine thenQ_normal ?_
  refine AW.ret ?_
  replace h := some_eq h
  subst h
  exact ⟨.inr rfl, retOK_of [(.one (.c (.bool j25)))] (by kernel_rfl) ⟨⟨rfl, tr⟩, tr⟩ (of_decide_eq_true (by kernel_rfl))⟩

/-! spec.R8Small -/
def spec_R8Small (K : Nat) (a0 : (List Int)) : Option (Vector) :=
  (spec_l01DrawSmall K (l00Src.mk a0 (0 : Int) (0 : Int))).bind fun v1 => (spec_l01DrawSmall K (l00Src.mk a0 v1.2.1 v1.2.2)).bind fun v3 => (spec_l01DrawSmall K (l00Src.mk a0 v3.2.1 v3.2.2)).bind fun v5 => some (Vector.mk v1.1 v3.1 v5.1)

theorem ok_spec_R8Small (K : Nat) (a0 : (List Int)) (o : (Vector)) (h : spec_R8Small K a0 = some o) : CallOK Try.prog 11 [.one (sl 1 (csI .u8) a0)] [.agg (cs_Vector o)] := by
  refine callOK_of_AW Try.func11 rfl (by kernel_rfl) (Nat.le_of_ble_eq_true (by kernel_rfl)) ?_
  intro w0
  unfold spec_R8Small at h
  refine AW.seq (AW.rA ⟨[(0, (vc (sl 1 (csI .u8) a0))), (2, (vp 1 0))], [(1, (.box [(.c (.flt .f32 (default : F32).bits)), (.c (.flt .f32 (default : F32).bits)), (.c (.flt .f32 (default : F32).bits))]))]⟩ (Tt ∧ Tt) [.box 1] [0, 2] [1] ⟨tr, tr⟩ (thenQ_normal ?_))
  refine AW.seq (AW.mkA 1 2 [(.i64, 0), (.u64, 0)] [.no] [] [2, 3] [1, 2] (s' := ⟨[(2, (vp 1 0)), (3, (vp 2 0))], [(1, (.box [(.c (.flt .f32 (default : F32).bits)), (.c (.flt .f32 (default : F32).bits)), (.c (.flt .f32 (default : F32).bits))])), (2, (.box [(.c (sl 1 (csI .u8) a0)), (.c (.int .i64 (0 : Int))), (.c (.int .u64 (0 : Int)))]))]⟩) (ob := (Tt ∧ Tt) ∧ Tt ∧ (Tt ∧ Tt)) (by kernel_rfl) ⟨⟨tr, tr⟩, tr, ⟨tr, tr⟩⟩ mk_spec_l00From (thenQ_normal ?_))
  refine AW.seq ?_
  obtain ⟨v1, e2, h⟩ := bind_some h
  refine AW.rA ⟨[(2, (vp 1 0)), (3, (vp 2 0)), (4, (vp 3 0))], [(1, (.box [(.c (.flt .f32 (default : F32).bits)), (.c (.flt .f32 (default : F32).bits)), (.c (.flt .f32 (default : F32).bits))])), (2, (.box [(.c (sl 1 (csI .u8) a0)), (.c (.int .i64 v1.2.1)), (.c (.int .u64 v1.2.2))])), (3, (.box [(.c (.flt .f32 v1.1.bits)), (.c (.flt .f32 (default : F32).bits)), (.c (.flt .f32 (default : F32).bits))]))]⟩ (Tt ∧ ((((Eqc (sl 1 (csI .u8) a0)) ∧ (Eqc (.int .i64 (0 : Int))) ∧ (Eqc (.int .u64 (0 : Int))) ∧ Tt) ∧ Tt) ∧ MutOK Try.prog 25 [(.box 3 (fun j => [true, false, false].getD j true) (fun j => (cs_l00Src (l00Src.mk a0 (0 : Int) (0 : Int))).getD j .nilptr) (fun j => [.nilptr, (.int .i64 v1.2.1), (.int .u64 v1.2.2)].getD j .nilptr))] [.one (.flt .f32 v1.1.bits)]) ∧ Tt ∧ T2 Tt) [.no, .callM [(.box 3 (fun j => [true, false, false].getD j true) (fun j => (cs_l00Src (l00Src.mk a0 (0 : Int) (0 : Int))).getD j .nilptr) (fun j => [.nilptr, (.int .i64 v1.2.1), (.int .u64 v1.2.2)].getD j .nilptr))] [.one (.flt .f32 v1.1.bits)] [[.view]] none, .no, .box 3] [2, 3, 4] [1, 2, 3] ⟨tr, ⟨⟨⟨rfl, rfl, rfl, tr⟩, tr⟩, ok_spec_l01DrawSmall K (l00Src.mk a0 (0 : Int) (0 : Int)) v1 e2⟩, tr, tr, tr, tr⟩ ?_
  refine thenQ_normal ?_
  refine AW.seq ?_
  obtain ⟨v3, e4, h⟩ := bind_some h
  refine AW.rA ⟨[(2, (vp 1 0)), (3, (vp 2 0)), (4, (vp 3 0))], [(1, (.box [(.c (.flt .f32 (default : F32).bits)), (.c (.flt .f32 (default : F32).bits)), (.c (.flt .f32 (default : F32).bits))])), (2, (.box [(.c (sl 1 (csI .u8) a0)), (.c (.int .i64 v3.2.1)), (.c (.int .u64 v3.2.2))])), (3, (.box [(.c (.flt .f32 v1.1.bits)), (.c (.flt .f32 v3.1.bits)), (.c (.flt .f32 (default : F32).bits))]))]⟩ (Tt ∧ ((((Eqc (sl 1 (csI .u8) a0)) ∧ (Eqc (.int .i64 v1.2.1)) ∧ (Eqc (.int .u64 v1.2.2)) ∧ Tt) ∧ Tt) ∧ MutOK Try.prog 25 [(.box 3 (fun j => [true, false, false].getD j true) (fun j => (cs_l00Src (l00Src.mk a0 v1.2.1 v1.2.2)).getD j .nilptr) (fun j => [.nilptr, (.int .i64 v3.2.1), (.int .u64 v3.2.2)].getD j .nilptr))] [.one (.flt .f32 v3.1.bits)]) ∧ T2 Tt) [.no, .callM [(.box 3 (fun j => [true, false, false].getD j true) (fun j => (cs_l00Src (l00Src.mk a0 v1.2.1 v1.2.2)).getD j .nilptr) (fun j => [.nilptr, (.int .i64 v3.2.1), (.int .u64 v3.2.2)].getD j .nilptr))] [.one (.flt .f32 v3.1.bits)] [[.view]] none] [2, 3, 4] [1, 2, 3] ⟨tr, ⟨⟨⟨rfl, rfl, rfl, tr⟩, tr⟩, ok_spec_l01DrawSmall K (l00Src.mk a0 v1.2.1 v1.2.2) v3 e4⟩, tr, tr, tr⟩ ?_
  refine thenQ_normal ?_
  refine AW.seq ?_
  obtain ⟨v5, e6, h⟩ := bind_some h
  refine AW.rA ⟨[(2, (vp 1 0)), (4, (vp 3 0))], [(1, (.box [(.c (.flt .f32 (default : F32).bits)), (.c (.flt .f32 (default : F32).bits)), (.c (.flt .f32 (default : F32).bits))])), (3, (.box [(.c (.flt .f32 v1.1.bits)), (.c (.flt .f32 v3.1.bits)), (.c (.flt .f32 v5.1.bits))]))]⟩ (Tt ∧ ((((Eqc (sl 1 (csI .u8) a0)) ∧ (Eqc (.int .i64 v3.2.1)) ∧ (Eqc (.int .u64 v3.2.2)) ∧ Tt) ∧ Tt) ∧ MutOK Try.prog 25 [(.box 3 (fun j => [true, false, false].getD j true) (fun j => (cs_l00Src (l00Src.mk a0 v3.2.1 v3.2.2)).getD j .nilptr) (fun j => [.nilptr, (.int .i64 v5.2.1), (.int .u64 v5.2.2)].getD j .nilptr))] [.one (.flt .f32 v5.1.bits)]) ∧ T2 Tt) [.no, .callM [(.box 3 (fun j => [true, false, false].getD j true) (fun j => (cs_l00Src (l00Src.mk a0 v3.2.1 v3.2.2)).getD j .nilptr) (fun j => [.nilptr, (.int .i64 v5.2.1), (.int .u64 v5.2.2)].getD j .nilptr))] [.one (.flt .f32 v5.1.bits)] [[.view]] none] [2, 4] [1, 3] ⟨tr, ⟨⟨⟨rfl, rfl, rfl, tr⟩, tr⟩, ok_spec_l01DrawSmall K (l00Src.mk a0 v3.2.1 v3.2.2) v5 e6⟩, tr, tr, tr⟩ ?_
  refine thenQ_normal ?_
  refine AW.seq (AW.rA ⟨[(2, (vp 1 0))], [(1, (.box [(.c (.flt .f32 v1.1.bits)), (.c (.flt .f32 v3.1.bits)), (.c (.flt .f32 v5.1.bits))]))]⟩ (T2 Tt) [] [2] [1] ⟨tr, tr, tr⟩ (thenQ_normal ?_))
  refine AW.ret ?_
  replace h := some_eq h
  subst h
  exact ⟨.inr rfl, retOK_of [(.agg [(.c (.flt .f32 v1.1.bits)), (.c (.flt .f32 v3.1.bits)), (.c (.flt .f32 v5.1.bits))])] (by kernel_rfl) ⟨⟨⟨rfl, tr⟩, ⟨rfl, tr⟩, ⟨rfl, tr⟩, tr⟩, tr⟩ (of_decide_eq_true (by kernel_rfl))⟩

/-! math/bits.Mul64 -/
def bits_Mul64 (_K : Nat) (a0 : Int) (a1 : Int) : Option (Int × Int) :=
  chk (0 ≤ (32 : Int)) (some ((IntKind.u64.wrap ((IntKind.u64.wrap ((IntKind.u64.wrap ((a0.fdiv (2 ^ (min (32 : Int).toNat (IntKind.bits .u64)))) * (a1.fdiv (2 ^ (min (32 : Int).toNat (IntKind.bits .u64)))))) + ((IntKind.u64.wrap ((IntKind.u64.wrap ((a0.fdiv (2 ^ (min (32 : Int).toNat (IntKind.bits .u64)))) * (bits .and .u64 a1 (4294967295 : Int)))) + ((IntKind.u64.wrap ((bits .and .u64 a0 (4294967295 : Int)) * (bits .and .u64 a1 (4294967295 : Int)))).fdiv (2 ^ (min (32 : Int).toNat (IntKind.bits .u64)))))).fdiv (2 ^ (min (32 : Int).toNat (IntKind.bits .u64)))))) + ((IntKind.u64.wrap ((bits .and .u64 (IntKind.u64.wrap ((IntKind.u64.wrap ((a0.fdiv (2 ^ (min (32 : Int).toNat (IntKind.bits .u64)))) * (bits .and .u64 a1 (4294967295 : Int)))) + ((IntKind.u64.wrap ((bits .and .u64 a0 (4294967295 : Int)) * (bits .and .u64 a1 (4294967295 : Int)))).fdiv (2 ^ (min (32 : Int).toNat (IntKind.bits .u64)))))) (4294967295 : Int)) + (IntKind.u64.wrap ((bits .and .u64 a0 (4294967295 : Int)) * (a1.fdiv (2 ^ (min (32 : Int).toNat (IntKind.bits .u64)))))))).fdiv (2 ^ (min (32 : Int).toNat (IntKind.bits .u64)))))), (IntKind.u64.wrap (a0 * a1))))

theorem ok_bits_Mul64 (K : Nat) (a0 : Int) (a1 : Int) (o : (Int × Int)) (h : bits_Mul64 K a0 a1 = some o) : CallOK Try.prog 51 [.one (.int .u64 a0), .one (.int .u64 a1)] [.one (.int .u64 o.1), .one (.int .u64 o.2)] := by
  refine callOK_of_AW Try.func51 rfl (by kernel_rfl) (Nat.le_of_ble_eq_true (by kernel_rfl)) ?_
  intro w0
  unfold bits_Mul64 at h
  refine AW.seq (AW.rA ⟨[(0, (vc (.int .u64 a0))), (1, (vc (.int .u64 a1)))], []⟩ (T2 Tt) [] [0, 1] [] ⟨tr, tr, tr⟩ (thenQ_normal ?_))
  refine AW.seq (AW.rA ⟨[(0, (vc (.int .u64 a0))), (1, (vc (.int .u64 a1))), (6, (vc (.int .u64 (bits .and .u64 a0 (4294967295 : Int)))))], []⟩ (Tt ∧ T2 Tt) [] [0, 1, 6] [] ⟨tr, tr, tr, tr⟩ (thenQ_normal ?_))
  refine AW.seq ?_
  obtain ⟨c1, h⟩ := chk_some h
  refine AW.rA ⟨[(0, (vc (.int .u64 a0))), (1, (vc (.int .u64 a1))), (6, (vc (.int .u64 (bits .and .u64 a0 (4294967295 : Int))))), (7, (vc (.int .u64 (a0.fdiv (2 ^ (min (32 : Int).toNat (IntKind.bits .u64)))))))], []⟩ (Tt ∧ (0 ≤ (32 : Int)) ∧ Tt ∧ Tt) [] [0, 1, 6, 7] [] ⟨tr, c1, tr, tr⟩ ?_
  refine thenQ_normal ?_
  refine AW.seq (AW.rA ⟨[(0, (vc (.int .u64 a0))), (1, (vc (.int .u64 a1))), (6, (vc (.int .u64 (bits .and .u64 a0 (4294967295 : Int))))), (7, (vc (.int .u64 (a0.fdiv (2 ^ (min (32 : Int).toNat (IntKind.bits .u64))))))), (8, (vc (.int .u64 (bits .and .u64 a1 (4294967295 : Int)))))], []⟩ (Tt ∧ T2 Tt) [] [0, 1, 6, 7, 8] [] ⟨tr, tr, tr, tr⟩ (thenQ_normal ?_))
  refine AW.seq (AW.rA ⟨[(0, (vc (.int .u64 a0))), (1, (vc (.int .u64 a1))), (6, (vc (.int .u64 (bits .and .u64 a0 (4294967295 : Int))))), (7, (vc (.int .u64 (a0.fdiv (2 ^ (min (32 : Int).toNat (IntKind.bits .u64))))))), (8, (vc (.int .u64 (bits .and .u64 a1 (4294967295 : Int))))), (9, (vc (.int .u64 (a1.fdiv (2 ^ (min (32 : Int).toNat (IntKind.bits .u64)))))))], []⟩ (Tt ∧ (0 ≤ (32 : Int)) ∧ Tt ∧ Tt) [] [0, 1, 6, 7, 8, 9] [] ⟨tr, c1, tr, tr⟩ (thenQ_normal ?_))
  refine AW.seq (AW.rA ⟨[(0, (vc (.int .u64 a0))), (1, (vc (.int .u64 a1))), (6, (vc (.int .u64 (bits .and .u64 a0 (4294967295 : Int))))), (7, (vc (.int .u64 (a0.fdiv (2 ^ (min (32 : Int).toNat (IntKind.bits .u64))))))), (8, (vc (.int .u64 (bits .and .u64 a1 (4294967295 : Int))))), (9, (vc (.int .u64 (a1.fdiv (2 ^ (min (32 : Int).toNat (IntKind.bits .u64))))))), (10, (vc (.int .u64 (IntKind.u64.wrap ((bits .and .u64 a0 (4294967295 : Int)) * (bits .and .u64 a1 (4294967295 : Int)))))))], []⟩ (T4 Tt) [] [0, 1, 6, 7, 8, 9, 10] [] ⟨tr, tr, tr, tr, tr⟩ (thenQ_normal ?_))
  refine AW.seq (AW.rA ⟨[(0, (vc (.int .u64 a0))), (1, (vc (.int .u64 a1))), (6, (vc (.int .u64 (bits .and .u64 a0 (4294967295 : Int))))), (7, (vc (.int .u64 (a0.fdiv (2 ^ (min (32 : Int).toNat (IntKind.bits .u64))))))), (9, (vc (.int .u64 (a1.fdiv (2 ^ (min (32 : Int).toNat (IntKind.bits .u64))))))), (11, (vc (.int .u64 (IntKind.u64.wrap ((IntKind.u64.wrap ((a0.fdiv (2 ^ (min (32 : Int).toNat (IntKind.bits .u64)))) * (bits .and .u64 a1 (4294967295 : Int)))) + ((IntKind.u64.wrap ((bits .and .u64 a0 (4294967295 : Int)) * (bits .and .u64 a1 (4294967295 : Int)))).fdiv (2 ^ (min (32 : Int).toNat (IntKind.bits .u64)))))))))], []⟩ (T4 ((0 ≤ (32 : Int)) ∧ T2 Tt)) [] [0, 1, 6, 7, 9, 11] [] ⟨tr, tr, tr, tr, c1, tr, tr, tr⟩ (thenQ_normal ?_))
  refine AW.seq (AW.rA ⟨[(0, (vc (.int .u64 a0))), (1, (vc (.int .u64 a1))), (6, (vc (.int .u64 (bits .and .u64 a0 (4294967295 : Int))))), (7, (vc (.int .u64 (a0.fdiv (2 ^ (min (32 : Int).toNat (IntKind.bits .u64))))))), (9, (vc (.int .u64 (a1.fdiv (2 ^ (min (32 : Int).toNat (IntKind.bits .u64))))))), (11, (vc (.int .u64 (IntKind.u64.wrap ((IntKind.u64.wrap ((a0.fdiv (2 ^ (min (32 : Int).toNat (IntKind.bits .u64)))) * (bits .and .u64 a1 (4294967295 : Int)))) + ((IntKind.u64.wrap ((bits .and .u64 a0 (4294967295 : Int)) * (bits .and .u64 a1 (4294967295 : Int)))).fdiv (2 ^ (min (32 : Int).toNat (IntKind.bits .u64))))))))), (12, (vc (.int .u64 (bits .and .u64 (IntKind.u64.wrap ((IntKind.u64.wrap ((a0.fdiv (2 ^ (min (32 : Int).toNat (IntKind.bits .u64)))) * (bits .and .u64 a1 (4294967295 : Int)))) + ((IntKind.u64.wrap ((bits .and .u64 a0 (4294967295 : Int)) * (bits .and .u64 a1 (4294967295 : Int)))).fdiv (2 ^ (min (32 : Int).toNat (IntKind.bits .u64)))))) (4294967295 : Int)))))], []⟩ (Tt ∧ T2 Tt) [] [0, 1, 6, 7, 9, 11, 12] [] ⟨tr, tr, tr, tr⟩ (thenQ_normal ?_))
  refine AW.seq (AW.rA ⟨[(0, (vc (.int .u64 a0))), (1, (vc (.int .u64 a1))), (6, (vc (.int .u64 (bits .and .u64 a0 (4294967295 : Int))))), (7, (vc (.int .u64 (a0.fdiv (2 ^ (min (32 : Int).toNat (IntKind.bits .u64))))))), (9, (vc (.int .u64 (a1.fdiv (2 ^ (min (32 : Int).toNat (IntKind.bits .u64))))))), (12, (vc (.int .u64 (bits .and .u64 (IntKind.u64.wrap ((IntKind.u64.wrap ((a0.fdiv (2 ^ (min (32 : Int).toNat (IntKind.bits .u64)))) * (bits .and .u64 a1 (4294967295 : Int)))) + ((IntKind.u64.wrap ((bits .and .u64 a0 (4294967295 : Int)) * (bits .and .u64 a1 (4294967295 : Int)))).fdiv (2 ^ (min (32 : Int).toNat (IntKind.bits .u64)))))) (4294967295 : Int))))), (13, (vc (.int .u64 ((IntKind.u64.wrap ((IntKind.u64.wrap ((a0.fdiv (2 ^ (min (32 : Int).toNat (IntKind.bits .u64)))) * (bits .and .u64 a1 (4294967295 : Int)))) + ((IntKind.u64.wrap ((bits .and .u64 a0 (4294967295 : Int)) * (bits .and .u64 a1 (4294967295 : Int)))).fdiv (2 ^ (min (32 : Int).toNat (IntKind.bits .u64)))))).fdiv (2 ^ (min (32 : Int).toNat (IntKind.bits .u64)))))))], []⟩ (Tt ∧ (0 ≤ (32 : Int)) ∧ Tt ∧ Tt) [] [0, 1, 6, 7, 9, 12, 13] [] ⟨tr, c1, tr, tr⟩ (thenQ_normal ?_))
  refine AW.seq (AW.rA ⟨[(0, (vc (.int .u64 a0))), (1, (vc (.int .u64 a1))), (7, (vc (.int .u64 (a0.fdiv (2 ^ (min (32 : Int).toNat (IntKind.bits .u64))))))), (9, (vc (.int .u64 (a1.fdiv (2 ^ (min (32 : Int).toNat (IntKind.bits .u64))))))), (12, (vc (.int .u64 (IntKind.u64.wrap ((bits .and .u64 (IntKind.u64.wrap ((IntKind.u64.wrap ((a0.fdiv (2 ^ (min (32 : Int).toNat (IntKind.bits .u64)))) * (bits .and .u64 a1 (4294967295 : Int)))) + ((IntKind.u64.wrap ((bits .and .u64 a0 (4294967295 : Int)) * (bits .and .u64 a1 (4294967295 : Int)))).fdiv (2 ^ (min (32 : Int).toNat (IntKind.bits .u64)))))) (4294967295 : Int)) + (IntKind.u64.wrap ((bits .and .u64 a0 (4294967295 : Int)) * (a1.fdiv (2 ^ (min (32 : Int).toNat (IntKind.bits .u64))))))))))), (13, (vc (.int .u64 ((IntKind.u64.wrap ((IntKind.u64.wrap ((a0.fdiv (2 ^ (min (32 : Int).toNat (IntKind.bits .u64)))) * (bits .and .u64 a1 (4294967295 : Int)))) + ((IntKind.u64.wrap ((bits .and .u64 a0 (4294967295 : Int)) * (bits .and .u64 a1 (4294967295 : Int)))).fdiv (2 ^ (min (32 : Int).toNat (IntKind.bits .u64)))))).fdiv (2 ^ (min (32 : Int).toNat (IntKind.bits .u64)))))))], []⟩ (T2 (T4 Tt)) [] [0, 1, 7, 9, 12, 13] [] ⟨tr, tr, tr, tr, tr, tr, tr⟩ (thenQ_normal ?_))
  refine AW.seq (AW.rA ⟨[(0, (vc (.int .u64 a0))), (1, (vc (.int .u64 a1))), (4, (vc (.int .u64 (IntKind.u64.wrap ((IntKind.u64.wrap ((IntKind.u64.wrap ((a0.fdiv (2 ^ (min (32 : Int).toNat (IntKind.bits .u64)))) * (a1.fdiv (2 ^ (min (32 : Int).toNat (IntKind.bits .u64)))))) + ((IntKind.u64.wrap ((IntKind.u64.wrap ((a0.fdiv (2 ^ (min (32 : Int).toNat (IntKind.bits .u64)))) * (bits .and .u64 a1 (4294967295 : Int)))) + ((IntKind.u64.wrap ((bits .and .u64 a0 (4294967295 : Int)) * (bits .and .u64 a1 (4294967295 : Int)))).fdiv (2 ^ (min (32 : Int).toNat (IntKind.bits .u64)))))).fdiv (2 ^ (min (32 : Int).toNat (IntKind.bits .u64)))))) + ((IntKind.u64.wrap ((bits .and .u64 (IntKind.u64.wrap ((IntKind.u64.wrap ((a0.fdiv (2 ^ (min (32 : Int).toNat (IntKind.bits .u64)))) * (bits .and .u64 a1 (4294967295 : Int)))) + ((IntKind.u64.wrap ((bits .and .u64 a0 (4294967295 : Int)) * (bits .and .u64 a1 (4294967295 : Int)))).fdiv (2 ^ (min (32 : Int).toNat (IntKind.bits .u64)))))) (4294967295 : Int)) + (IntKind.u64.wrap ((bits .and .u64 a0 (4294967295 : Int)) * (a1.fdiv (2 ^ (min (32 : Int).toNat (IntKind.bits .u64)))))))).fdiv (2 ^ (min (32 : Int).toNat (IntKind.bits .u64)))))))))], []⟩ (T2 (T4 ((0 ≤ (32 : Int)) ∧ T2 Tt))) [] [0, 1, 4] [] ⟨tr, tr, tr, tr, tr, tr, c1, tr, tr, tr⟩ (thenQ_normal ?_))
  refine AW.seq (AW.rA ⟨[(4, (vc (.int .u64 (IntKind.u64.wrap ((IntKind.u64.wrap ((IntKind.u64.wrap ((a0.fdiv (2 ^ (min (32 : Int).toNat (IntKind.bits .u64)))) * (a1.fdiv (2 ^ (min (32 : Int).toNat (IntKind.bits .u64)))))) + ((IntKind.u64.wrap ((IntKind.u64.wrap ((a0.fdiv (2 ^ (min (32 : Int).toNat (IntKind.bits .u64)))) * (bits .and .u64 a1 (4294967295 : Int)))) + ((IntKind.u64.wrap ((bits .and .u64 a0 (4294967295 : Int)) * (bits .and .u64 a1 (4294967295 : Int)))).fdiv (2 ^ (min (32 : Int).toNat (IntKind.bits .u64)))))).fdiv (2 ^ (min (32 : Int).toNat (IntKind.bits .u64)))))) + ((IntKind.u64.wrap ((bits .and .u64 (IntKind.u64.wrap ((IntKind.u64.wrap ((a0.fdiv (2 ^ (min (32 : Int).toNat (IntKind.bits .u64)))) * (bits .and .u64 a1 (4294967295 : Int)))) + ((IntKind.u64.wrap ((bits .and .u64 a0 (4294967295 : Int)) * (bits .and .u64 a1 (4294967295 : Int)))).fdiv (2 ^ (min (32 : Int).toNat (IntKind.bits .u64)))))) (4294967295 : Int)) + (IntKind.u64.wrap ((bits .and .u64 a0 (4294967295 : Int)) * (a1.fdiv (2 ^ (min (32 : Int).toNat (IntKind.bits .u64)))))))).fdiv (2 ^ (min (32 : Int).toNat (IntKind.bits .u64))))))))), (5, (vc (.int .u64 (IntKind.u64.wrap (a0 * a1)))))], []⟩ (T4 Tt) [] [4, 5] [] ⟨tr, tr, tr, tr, tr⟩ (thenQ_normal ?_))
  refine AW.ret ?_
  replace h := some_eq h
  subst h
  exact ⟨.inr rfl, retOK_of [(.one (.c (.int .u64 (IntKind.u64.wrap ((IntKind.u64.wrap ((IntKind.u64.wrap ((a0.fdiv (2 ^ (min (32 : Int).toNat (IntKind.bits .u64)))) * (a1.fdiv (2 ^ (min (32 : Int).toNat (IntKind.bits .u64)))))) + ((IntKind.u64.wrap ((IntKind.u64.wrap ((a0.fdiv (2 ^ (min (32 : Int).toNat (IntKind.bits .u64)))) * (bits .and .u64 a1 (4294967295 : Int)))) + ((IntKind.u64.wrap ((bits .and .u64 a0 (4294967295 : Int)) * (bits .and .u64 a1 (4294967295 : Int)))).fdiv (2 ^ (min (32 : Int).toNat (IntKind.bits .u64)))))).fdiv (2 ^ (min (32 : Int).toNat (IntKind.bits .u64)))))) + ((IntKind.u64.wrap ((bits .and .u64 (IntKind.u64.wrap ((IntKind.u64.wrap ((a0.fdiv (2 ^ (min (32 : Int).toNat (IntKind.bits .u64)))) * (bits .and .u64 a1 (4294967295 : Int)))) + ((IntKind.u64.wrap ((bits .and .u64 a0 (4294967295 : Int)) * (bits .and .u64 a1 (4294967295 : Int)))).fdiv (2 ^ (min (32 : Int).toNat (IntKind.bits .u64)))))) (4294967295 : Int)) + (IntKind.u64.wrap ((bits .and .u64 a0 (4294967295 : Int)) * (a1.fdiv (2 ^ (min (32 : Int).toNat (IntKind.bits .u64)))))))).fdiv (2 ^ (min (32 : Int).toNat (IntKind.bits .u64))))))))), (.one (.c (.int .u64 (IntKind.u64.wrap (a0 * a1)))))] (by kernel_rfl) ⟨⟨rfl, tr⟩, ⟨rfl, tr⟩, tr⟩ (of_decide_eq_true (by kernel_rfl))⟩

/-! math/bits.Mul -/
def bits_Mul (K : Nat) (a0 : Int) (a1 : Int) : Option (Int × Int) :=
  (bits_Mul64 K a0 a1).bind fun v1 => some (v1.1, v1.2)

theorem ok_bits_Mul (K : Nat) (a0 : Int) (a1 : Int) (o : (Int × Int)) (h : bits_Mul K a0 a1 = some o) : CallOK Try.prog 43 [.one (.int .u64 a0), .one (.int .u64 a1)] [.one (.int .u64 o.1), .one (.int .u64 o.2)] := by
  refine callOK_of_AW Try.func43 rfl (by kernel_rfl) (Nat.le_of_ble_eq_true (by kernel_rfl)) ?_
  intro w0
  unfold bits_Mul at h
  refine AW.seq (AW.rA ⟨[(0, (vc (.int .u64 a0))), (1, (vc (.int .u64 a1)))], []⟩ (T2 Tt) [] [0, 1] [] ⟨tr, tr, tr⟩ (thenQ_normal ?_))
  refine AW.seq ?_
  refine AW.condk ?_
  refine AW.skip ?_
  refine thenQ_normal ?_
  refine AW.seq ?_
  obtain ⟨v1, e2, h⟩ := bind_some h
  refine AW.rA ⟨[(8, (vc (.int .u64 v1.1))), (9, (vc (.int .u64 v1.2)))], []⟩ (T2 ((((Eqc (.int .u64 a0)) ∧ (Eqc (.int .u64 a1)) ∧ Tt) ∧ CallOK Try.prog 51 [.one (.int .u64 a0), .one (.int .u64 a1)] [.one (.int .u64 v1.1), .one (.int .u64 v1.2)]) ∧ Tt ∧ T4 Tt)) [.no, .no, .call [.one (.int .u64 a0), .one (.int .u64 a1)] [.one (.int .u64 v1.1), .one (.int .u64 v1.2)] [[.view], [.view]]] [8, 9] [] ⟨tr, tr, ⟨⟨rfl, rfl, tr⟩, ok_bits_Mul64 K a0 a1 v1 e2⟩, tr, tr, tr, tr, tr, tr⟩ ?_
  refine thenQ_normal ?_
  refine AW.seq (AW.rA ⟨[(4, (vc (.int .u64 v1.1))), (5, (vc (.int .u64 v1.2)))], []⟩ (T4 Tt) [] [4, 5] [] ⟨tr, tr, tr, tr, tr⟩ (thenQ_normal ?_))
  refine AW.ret ?_
  replace h := some_eq h
  subst h
  exact ⟨.inr rfl, retOK_of [(.one (.c (.int .u64 v1.1))), (.one (.c (.int .u64 v1.2)))] (by kernel_rfl) ⟨⟨rfl, tr⟩, ⟨rfl, tr⟩, tr⟩ (of_decide_eq_true (by kernel_rfl))⟩

/-! slices.Repeat[[]float32,float32] -/
def slices_Repeat_float32_float32_l1 (K : Nat) : Nat → Int → (List F32) → Option ((List F32))
  | 0, _, _ => none
  | k + 1, x12, x13 => ite2 ((decide (x12 < (x13.length : Int)))) (chk (0 ≤ x12 ∧ x12 < (x13.length : Int) ∧ x12 ≤ (x13.length : Int) ∧ (x13.length : Int) ≤ (x13.length : Int)) (chk (0 ≤ (0 : Int) ∧ (0 : Int) < (x13.length : Int) ∧ (0 : Int) ≤ x12 ∧ x12 ≤ (x13.length : Int)) (chk (0 < Nat.min (x12.toNat - (0 : Int).toNat) ((x13.length : Int).toNat - x12.toNat)) (slices_Repeat_float32_float32_l1 K k (IntKind.i64.wrap (x12 + ((Nat.min (x12.toNat - (0 : Int).toNat) ((x13.length : Int).toNat - x12.toNat) : Nat) : Int))) (cpL x13 x12.toNat ((x13.drop (0 : Int).toNat).take (Nat.min (x12.toNat - (0 : Int).toNat) ((x13.length : Int).toNat - x12.toNat)))))))) (some x13)

def slices_Repeat_float32_float32 (K : Nat) (a0 : (List F32)) (a1 : Int) : Option ((List F32)) :=
  ite2 ((decide (a1 < (0 : Int)))) (none) ((bits_Mul K (IntKind.u64.wrap (a0.length : Int)) (IntKind.u64.wrap a1)).bind fun v2 => (ite2 ((decide (v2.1 > (0 : Int)))) (some true) (some (decide (v2.2 > (9223372036854775807 : Int))))).bind fun j5 => ite2 (j5) (none) (chk (0 ≤ (IntKind.i64.wrap v2.2) ∧ (IntKind.i64.wrap v2.2).toNat * 4 ≤ 140737488355328) (chk (0 < Nat.min a0.length (List.replicate (IntKind.i64.wrap v2.2).toNat (default : F32)).length) (slices_Repeat_float32_float32_l1 K K ((Nat.min a0.length (List.replicate (IntKind.i64.wrap v2.2).toNat (default : F32)).length : Nat) : Int) (cpL (List.replicate (IntKind.i64.wrap v2.2).toNat (default : F32)) 0 (a0.take (Nat.min a0.length (List.replicate (IntKind.i64.wrap v2.2).toNat (default : F32)).length)))))))

theorem ok_slices_Repeat_float32_float32 (K : Nat) (a0 : (List F32)) (a1 : Int) (o : ((List F32))) (h : slices_Repeat_float32_float32 K a0 a1 = some o) : CallOK Try.prog 26 [.one (sl 1 (csF .f32) a0), .one (.int .i64 a1)] [.one (sl 1 (csF .f32) o)] := by
  refine callOK_of_AW Try.func26 rfl (by kernel_rfl) (Nat.le_of_ble_eq_true (by kernel_rfl)) ?_
  intro w0
  unfold slices_Repeat_float32_float32 at h
  refine AW.seq (AW.rA ⟨[(0, (vc (sl 1 (csF .f32) a0))), (1, (vc (.int .i64 a1)))], []⟩ (Tt ∧ Tt) [] [0, 1] [] ⟨tr, tr⟩ (thenQ_normal ?_))
  refine AW.seq ?_
  refine AW.seq (AW.rA ⟨[(0, (vc (sl 1 (csF .f32) a0))), (1, (vc (.int .i64 a1))), (10, (vc (.bool (decide (a1 < (0 : Int))))))], []⟩ (T2 Tt) [] [0, 1, 10] [] ⟨tr, tr, tr⟩ (thenQ_normal ?_))
  rcases ite2_cases h with ⟨b1, h⟩ | ⟨b1, h⟩
  · refine AW.cond_t rfl b1 ?_
    cases h
  · refine AW.cond_f rfl b1 ?_
    refine AW.skip ?_
    refine thenQ_normal ?_
    refine AW.seq ?_
    obtain ⟨v2, e3, h⟩ := bind_some h
    refine AW.rA ⟨[(0, (vc (sl 1 (csF .f32) a0))), (5, (vc (.int .u64 v2.1))), (6, (vc (.int .u64 v2.2)))], []⟩ (Tt ∧ T4 ((((Eqc (.int .u64 (IntKind.u64.wrap (a0.length : Int)))) ∧ (Eqc (.int .u64 (IntKind.u64.wrap a1))) ∧ Tt) ∧ CallOK Try.prog 43 [.one (.int .u64 (IntKind.u64.wrap (a0.length : Int))), .one (.int .u64 (IntKind.u64.wrap a1))] [.one (.int .u64 v2.1), .one (.int .u64 v2.2)]) ∧ Tt ∧ T4 Tt)) [.no, .no, .no, .no, .no, .call [.one (.int .u64 (IntKind.u64.wrap (a0.length : Int))), .one (.int .u64 (IntKind.u64.wrap a1))] [.one (.int .u64 v2.1), .one (.int .u64 v2.2)] [[.view], [.view]]] [0, 5, 6] [] ⟨tr, tr, tr, tr, tr, ⟨⟨rfl, rfl, tr⟩, ok_bits_Mul K (IntKind.u64.wrap (a0.length : Int)) (IntKind.u64.wrap a1) v2 e3⟩, tr, tr, tr, tr, tr, tr⟩ ?_
    refine thenQ_normal ?_
    refine AW.seq ?_
    refine AW.seq ?_
    obtain ⟨j5, e6, h⟩ := bind_some h
    refine AW.join1 (s2 := ⟨[(0, (vc (sl 1 (csF .f32) a0))), (6, (vc (.int .u64 v2.2))), (26, (vc (.bool j5)))], []⟩) ?_ ?_
    · rcases ite2_cases e6 with ⟨b4, e6⟩ | ⟨b4, e6⟩
      · replace e6 := some_eq e6
        subst e6
        exact AW.rA ⟨[(0, (vc (sl 1 (csF .f32) a0))), (6, (vc (.int .u64 v2.2))), (26, (vc (.bool true)))], []⟩ (T2 ((Tt ∧ (decide (v2.1 > (0 : Int))) = true) ∧ Tt ∧ T2 Tt)) [.no, .no, .dec true] [0, 6, 26] [] ⟨tr, tr, ⟨tr, b4⟩, tr, tr, tr, tr⟩ ⟨rfl, rfl⟩
      · replace e6 := some_eq e6
        subst e6
        exact AW.rA ⟨[(0, (vc (sl 1 (csF .f32) a0))), (6, (vc (.int .u64 v2.2))), (26, (vc (.bool (decide (v2.2 > (9223372036854775807 : Int))))))], []⟩ (T2 ((Tt ∧ (decide (v2.1 > (0 : Int))) = false) ∧ Tt ∧ T2 Tt)) [.no, .no, .dec false] [0, 6, 26] [] ⟨tr, tr, ⟨tr, b4⟩, tr, tr, tr, tr⟩ ⟨rfl, rfl⟩
    refine thenQ_normal ?_
    rcases ite2_cases h with ⟨b7, h⟩ | ⟨b7, h⟩
    · refine AW.cond_t rfl b7 ?_
      cases h
    · refine AW.cond_f rfl b7 ?_
      refine AW.skip ?_
      refine thenQ_normal ?_
      refine AW.seq ?_
      obtain ⟨c8, h⟩ := chk_some h
      refine AW.rA ⟨[(0, (vc (sl 1 (csF .f32) a0))), (7, (.v (.one (.arr 1))))], [(1, (.arr false (List.replicate (IntKind.i64.wrap v2.2).toNat (default : F32)).length 1 (gl (csF .f32) (List.replicate (IntKind.i64.wrap v2.2).toNat (default : F32)))))]⟩ (T2 ((0 ≤ (IntKind.i64.wrap v2.2) ∧ (IntKind.i64.wrap v2.2) = (IntKind.i64.wrap v2.2) ∧ (((List.replicate (IntKind.i64.wrap v2.2).toNat (default : F32)).length : Nat) : Int) = (IntKind.i64.wrap v2.2) ∧ (List.replicate (IntKind.i64.wrap v2.2).toNat (default : F32)).length * 4 ≤ 140737488355328 ∧ ∀ i, i < (List.replicate (IntKind.i64.wrap v2.2).toNat (default : F32)).length → zeroRow (fun _ => none) [(.c (.flt .f32 (default : F32).bits))] (gl (csF .f32) (List.replicate (IntKind.i64.wrap v2.2).toNat (default : F32)) i)) ∧ Tt ∧ Tt)) [.no, .no, .objA 1 (List.replicate (IntKind.i64.wrap v2.2).toNat (default : F32)).length (gl (csF .f32) (List.replicate (IntKind.i64.wrap v2.2).toNat (default : F32)))] [0, 7] [1] ⟨tr, tr, ⟨c8.1, rfl, len_rep c8.1, rep_bytes c8.2, fun i hi => gl_zero (cs := (csF .f32)) (zs := [(.c (.flt .f32 (default : F32).bits))]) (n := (IntKind.i64.wrap v2.2).toNat) ⟨⟨rfl, tr⟩, tr⟩ i (rep_lt hi)⟩, tr, tr⟩ ?_
      refine thenQ_normal ?_
      refine AW.seq ?_
      obtain ⟨c9, h⟩ := chk_some h
      refine AW.rA ⟨[(7, (.v (.one (.arr 1)))), (8, (vc (.int .i64 ((Nat.min a0.length (List.replicate (IntKind.i64.wrap v2.2).toNat (default : F32)).length : Nat) : Int))))], [(1, (.arr false (cpL (List.replicate (IntKind.i64.wrap v2.2).toNat (default : F32)) 0 (a0.take (Nat.min a0.length (List.replicate (IntKind.i64.wrap v2.2).toNat (default : F32)).length))).length 1 (gl (csF .f32) (cpL (List.replicate (IntKind.i64.wrap v2.2).toNat (default : F32)) 0 (a0.take (Nat.min a0.length (List.replicate (IntKind.i64.wrap v2.2).toNat (default : F32)).length))))))]⟩ (T2 (((cpL (List.replicate (IntKind.i64.wrap v2.2).toNat (default : F32)) 0 (a0.take (Nat.min a0.length (List.replicate (IntKind.i64.wrap v2.2).toNat (default : F32)).length))).length = (List.replicate (IntKind.i64.wrap v2.2).toNat (default : F32)).length ∧ 0 < Nat.min a0.length (List.replicate (IntKind.i64.wrap v2.2).toNat (default : F32)).length ∧ (∀ i j, i < (List.replicate (IntKind.i64.wrap v2.2).toNat (default : F32)).length → j < 1 → gl (csF .f32) (cpL (List.replicate (IntKind.i64.wrap v2.2).toNat (default : F32)) 0 (a0.take (Nat.min a0.length (List.replicate (IntKind.i64.wrap v2.2).toNat (default : F32)).length))) i j = if 0 ≤ i ∧ i < 0 + Nat.min a0.length (List.replicate (IntKind.i64.wrap v2.2).toNat (default : F32)).length then gl (csF .f32) a0 (i - 0) j else gl (csF .f32) (List.replicate (IntKind.i64.wrap v2.2).toNat (default : F32)) i j) ∧ ∀ i j, i < Nat.min a0.length (List.replicate (IntKind.i64.wrap v2.2).toNat (default : F32)).length → j < 1 → scalarC (gl (csF .f32) a0 i j)) ∧ Tt ∧ Tt)) [.no, .no, .seq (cpL (List.replicate (IntKind.i64.wrap v2.2).toNat (default : F32)) 0 (a0.take (Nat.min a0.length (List.replicate (IntKind.i64.wrap v2.2).toNat (default : F32)).length))).length (gl (csF .f32) (cpL (List.replicate (IntKind.i64.wrap v2.2).toNat (default : F32)) 0 (a0.take (Nat.min a0.length (List.replicate (IntKind.i64.wrap v2.2).toNat (default : F32)).length))))] [7, 8] [1] ⟨tr, tr, cp_view scF c9, tr, tr⟩ ?_
      refine thenQ_normal ?_
      refine AW.seq ?_
      refine AW.block ?_
      refine AW.loopQ (σ := Nat × Int × (List F32)) (fun p => ⟨[(7, (.v (.one (.arr 1)))), (8, (vc (.int .i64 p.2.1)))], [(1, (.arr false p.2.2.length 1 (gl (csF .f32) p.2.2)))]⟩) (fun p => slices_Repeat_float32_float32_l1 K p.1 p.2.1 p.2.2 = some o) (fun p => p.1) (K, ((Nat.min a0.length (List.replicate (IntKind.i64.wrap v2.2).toNat (default : F32)).length : Nat) : Int), (cpL (List.replicate (IntKind.i64.wrap v2.2).toNat (default : F32)) 0 (a0.take (Nat.min a0.length (List.replicate (IntKind.i64.wrap v2.2).toNat (default : F32)).length)))) h ?_
      clear h
      rintro ⟨k, x12, x13⟩ h
      replace h : slices_Repeat_float32_float32_l1 K k x12 x13 = some o := h
      show AW _ _ (⟨[(7, (.v (.one (.arr 1)))), (8, (vc (.int .i64 x12)))], [(1, (.arr false x13.length 1 (gl (csF .f32) x13)))]⟩ : St) _
      obtain _ | k := k
      · rw [slices_Repeat_float32_float32_l1] at h; cases h
      rw [slices_Repeat_float32_float32_l1] at h
      refine AW.seq ?_
      refine AW.seq (AW.rA ⟨[(7, (.v (.one (.arr 1)))), (8, (vc (.int .i64 x12))), (37, (vc (.bool (decide (x12 < (x13.length : Int))))))], [(1, (.arr false x13.length 1 (gl (csF .f32) x13)))]⟩ (T4 Tt) [] [7, 8, 37] [1] ⟨tr, tr, tr, tr, tr⟩ (thenQ_normal ?_))
      rcases ite2_cases h with ⟨b14, h⟩ | ⟨b14, h⟩
      · refine AW.cond_t rfl b14 ?_
        refine AW.skip ?_
        refine thenQ_normal ?_
        refine AW.block ?_
        obtain ⟨c15, h⟩ := chk_some h
        obtain ⟨c16, h⟩ := chk_some h
        obtain ⟨c17, h⟩ := chk_some h
        refine AW.lateA (by kernel_rfl) 7 0 [.no, .no, .no, .no, .no, .no, .no, .seq (cpL x13 x12.toNat ((x13.drop (0 : Int).toNat).take (Nat.min (x12.toNat - (0 : Int).toNat) ((x13.length : Int).toNat - x12.toNat)))).length (gl (csF .f32) (cpL x13 x12.toNat ((x13.drop (0 : Int).toNat).take (Nat.min (x12.toNat - (0 : Int).toNat) ((x13.length : Int).toNat - x12.toNat)))))] [7, 8] [1] (s' := ⟨[(7, (.v (.one (.arr 1)))), (8, (vc (.int .i64 (IntKind.i64.wrap (x12 + ((Nat.min (x12.toNat - (0 : Int).toNat) ((x13.length : Int).toNat - x12.toNat) : Nat) : Int))))))], [(1, (.arr false (cpL x13 x12.toNat ((x13.drop (0 : Int).toNat).take (Nat.min (x12.toNat - (0 : Int).toNat) ((x13.length : Int).toNat - x12.toNat)))).length 1 (gl (csF .f32) (cpL x13 x12.toNat ((x13.drop (0 : Int).toNat).take (Nat.min (x12.toNat - (0 : Int).toNat) ((x13.length : Int).toNat - x12.toNat)))))))]⟩) (ob := (Tt ∧ T2 ((0 ≤ x12 ∧ x12 < (x13.length : Int) ∧ x12 ≤ (x13.length : Int) ∧ (x13.length : Int) ≤ (x13.length : Int)) ∧ T2 ((0 ≤ (0 : Int) ∧ (0 : Int) < (x13.length : Int) ∧ (0 : Int) ≤ x12 ∧ x12 ≤ (x13.length : Int)) ∧ Tt))) ∧ (((cpL x13 x12.toNat ((x13.drop (0 : Int).toNat).take (Nat.min (x12.toNat - (0 : Int).toNat) ((x13.length : Int).toNat - x12.toNat)))).length = x13.length ∧ 0 < Nat.min (x12.toNat - (0 : Int).toNat) ((x13.length : Int).toNat - x12.toNat) ∧ (∀ i j, i < x13.length → j < 1 → gl (csF .f32) (cpL x13 x12.toNat ((x13.drop (0 : Int).toNat).take (Nat.min (x12.toNat - (0 : Int).toNat) ((x13.length : Int).toNat - x12.toNat)))) i j = if x12.toNat ≤ i ∧ i < x12.toNat + Nat.min (x12.toNat - (0 : Int).toNat) ((x13.length : Int).toNat - x12.toNat) then gl (csF .f32) x13 ((0 : Int).toNat + (i - x12.toNat)) j else gl (csF .f32) x13 i j) ∧ ∀ i j, i < Nat.min (x12.toNat - (0 : Int).toNat) ((x13.length : Int).toNat - x12.toNat) → j < 1 → scalarC (gl (csF .f32) x13 ((0 : Int).toNat + i) j)) ∧ T2 Tt) ∧ (((cpL x13 x12.toNat ((x13.drop (0 : Int).toNat).take (Nat.min (x12.toNat - (0 : Int).toNat) ((x13.length : Int).toNat - x12.toNat)))).length = x13.length ∧ 0 < Nat.min (x12.toNat - (0 : Int).toNat) ((x13.length : Int).toNat - x12.toNat) ∧ (∀ i j, i < x13.length → j < 1 → gl (csF .f32) (cpL x13 x12.toNat ((x13.drop (0 : Int).toNat).take (Nat.min (x12.toNat - (0 : Int).toNat) ((x13.length : Int).toNat - x12.toNat)))) i j = if x12.toNat ≤ i ∧ i < x12.toNat + Nat.min (x12.toNat - (0 : Int).toNat) ((x13.length : Int).toNat - x12.toNat) then gl (csF .f32) x13 ((0 : Int).toNat + (i - x12.toNat)) j else gl (csF .f32) x13 i j) ∧ ∀ i j, i < Nat.min (x12.toNat - (0 : Int).toNat) ((x13.length : Int).toNat - x12.toNat) → j < 1 → scalarC (gl (csF .f32) x13 ((0 : Int).toNat + i) j)) ∧ Tt ∧ T2 Tt) ∧ ((⟨[(7, (.v (.one (.arr 1)))), (8, (vc (.int .i64 (IntKind.i64.wrap (x12 + ((Nat.min (x12.toNat - (0 : Int).toNat) ((x13.length : Int).toNat - x12.toNat) : Nat) : Int))))))], [(1, (.arr false (cpL x13 x12.toNat ((x13.drop (0 : Int).toNat).take (Nat.min (x12.toNat - (0 : Int).toNat) ((x13.length : Int).toNat - x12.toNat)))).length 1 (gl (csF .f32) (cpL x13 x12.toNat ((x13.drop (0 : Int).toNat).take (Nat.min (x12.toNat - (0 : Int).toNat) ((x13.length : Int).toNat - x12.toNat)))))))]⟩ : St) = ⟨[(7, (.v (.one (.arr 1)))), (8, (vc (.int .i64 (IntKind.i64.wrap (x12 + ((Nat.min (x12.toNat - (0 : Int).toNat) ((x13.length : Int).toNat - x12.toNat) : Nat) : Int))))))], [(1, (.arr false (cpL x13 x12.toNat ((x13.drop (0 : Int).toNat).take (Nat.min (x12.toNat - (0 : Int).toNat) ((x13.length : Int).toNat - x12.toNat)))).length 1 (gl (csF .f32) (cpL x13 x12.toNat ((x13.drop (0 : Int).toNat).take (Nat.min (x12.toNat - (0 : Int).toNat) ((x13.length : Int).toNat - x12.toNat)))))))]⟩)) (by kernel_rfl) ⟨⟨tr, tr, tr, c15, tr, tr, c16, tr⟩, ⟨cp_self (r1 := (x13.length : Int)) (r2 := x12) scF c15 c16 c17, tr, tr, tr⟩, ⟨cp_self (r1 := (x13.length : Int)) (r2 := x12) scF c15 c16 c17, tr, tr, tr, tr⟩, rfl⟩ ?_
        refine blockQ_normal ?_
        exact loopQ_normal (k, (IntKind.i64.wrap (x12 + ((Nat.min (x12.toNat - (0 : Int).toNat) ((x13.length : Int).toNat - x12.toNat) : Nat) : Int))), (cpL x13 x12.toNat ((x13.drop (0 : Int).toNat).take (Nat.min (x12.toNat - (0 : Int).toNat) ((x13.length : Int).toNat - x12.toNat))))) h (Nat.lt_succ_self k) (Sub.keep [7, 8] [1] (by kernel_rfl) (by kernel_rfl))
      · refine AW.cond_f rfl b14 ?_
        refine AW.exit ?_
        refine thenQ_exit ?_
        refine loopQ_exit ?_
        refine blockQ_exit ?_
        refine thenQ_normal ?_
        refine AW.seq (AW.rA ⟨[(4, (.v (.one (.arr 1))))], [(1, (.arr false x13.length 1 (gl (csF .f32) x13)))]⟩ (T2 Tt) [] [4] [1] ⟨tr, tr, tr⟩ (thenQ_normal ?_))
        refine AW.ret ?_
        replace h := some_eq h
        subst h
        exact ⟨.inr rfl, retOK_of [(.one (.arr 1))] (by kernel_rfl) ⟨rfl, tr⟩ (of_decide_eq_true (by kernel_rfl))⟩

/-! impl.HangString -/
def impl_HangString_l1 (K : Nat) (a0 : Vector) (a1 : Int) (a2 : F32) (v6 : ((List F32))) : Nat → Int → F32 → (List Vector) → Option (String × Bool)
  | 0, _, _, _ => none
  | k + 1, x12, x13, x14 => ite2 ((decide (x12 < a1))) (chk ((x14.length + ([(Vector.mk a0.X x13 a0.Z)]).length) * 12 ≤ 140737488355328) (impl_HangString_l1 K a0 a1 a2 v6 k (IntKind.i64.wrap (x12 + (1 : Int))) (x13.sub a2) (x14 ++ ([(Vector.mk a0.X x13 a0.Z)])))) ((slices_Clone_impl_Vector_impl_Vector K x14).bind fun v17 => some ((String.mk x14 v17 ((List.replicate a1.toNat (default : Bool)).set ((0 : Int).toNat) true) v6 (Vector.mk (default : F32) (default : F32) (default : F32)) (Fl.mk (k := .f32) 1065353216 (by decide)) (4 : Int)), true))

def impl_HangString (K : Nat) (a0 : Vector) (a1 : Int) (a2 : F32) : Option (String × Bool) :=
  (ite2 ((decide (a1 < (2 : Int)))) (some true) (some (decide (a1 > (16 : Int))))).bind fun j2 => ite2 (j2) (some ((String.mk ([] : (List Vector)) ([] : (List Vector)) ([] : (List Bool)) ([] : (List F32)) (Vector.mk (default : F32) (default : F32) (default : F32)) (default : F32) (0 : Int)), false)) (chk (0 ≤ a1 ∧ a1.toNat * 1 ≤ 140737488355328) ((slices_Repeat_float32_float32 K ([a2]) (IntKind.i64.wrap (a1 - (1 : Int)))).bind fun v6 => chk (0 ≤ (0 : Int) ∧ (0 : Int) < ((List.replicate a1.toNat (default : Bool)).length : Int)) (impl_HangString_l1 K a0 a1 a2 v6 K (0 : Int) a0.Y ([] : (List Vector)))))

theorem ok_impl_HangString (K : Nat) (a0 : Vector) (a1 : Int) (a2 : F32) (o : (String × Bool)) (h : impl_HangString K a0 a1 a2 = some o) : CallOK Try.prog 12 [.agg (cs_Vector a0), .one (.int .i64 a1), .one (.flt .f32 a2.bits)] [.agg (cs_String o.1), .one (.bool o.2)] := by
  refine callOK_of_AW Try.func12 rfl (by kernel_rfl) (Nat.le_of_ble_eq_true (by kernel_rfl)) ?_
  intro w0
  unfold impl_HangString at h
  refine AW.seq (AW.rA ⟨[(1, (vc (.int .i64 a1))), (2, (vc (.flt .f32 a2.bits))), (3, (vp 1 0)), (6, (vp 2 0))], [(1, (.box [(.c (.flt .f32 a0.X.bits)), (.c (.flt .f32 a0.Y.bits)), (.c (.flt .f32 a0.Z.bits))])), (2, (.box [.nils, .nils, .nils, .nils, (.c (.flt .f32 (default : F32).bits)), (.c (.flt .f32 (default : F32).bits)), (.c (.flt .f32 (default : F32).bits)), (.c (.flt .f32 (default : F32).bits)), (.c (.int .i64 (0 : Int)))]))]⟩ (Tt ∧ T2 Tt) [.box 1, .box 2] [1, 2, 3, 6] [1, 2] ⟨tr, tr, tr, tr⟩ (thenQ_normal ?_))
  refine AW.seq ?_
  refine AW.seq ?_
  obtain ⟨j2, e3, h⟩ := bind_some h
  refine AW.join1 (s2 := ⟨[(1, (vc (.int .i64 a1))), (2, (vc (.flt .f32 a2.bits))), (3, (vp 1 0)), (6, (vp 2 0)), (14, (vc (.bool j2)))], [(1, (.box [(.c (.flt .f32 a0.X.bits)), (.c (.flt .f32 a0.Y.bits)), (.c (.flt .f32 a0.Z.bits))])), (2, (.box [.nils, .nils, .nils, .nils, (.c (.flt .f32 (default : F32).bits)), (.c (.flt .f32 (default : F32).bits)), (.c (.flt .f32 (default : F32).bits)), (.c (.flt .f32 (default : F32).bits)), (.c (.int .i64 (0 : Int)))]))]⟩) ?_ ?_
  · rcases ite2_cases e3 with ⟨b1, e3⟩ | ⟨b1, e3⟩
    · replace e3 := some_eq e3
      subst e3
      exact AW.rA ⟨[(1, (vc (.int .i64 a1))), (2, (vc (.flt .f32 a2.bits))), (3, (vp 1 0)), (6, (vp 2 0)), (14, (vc (.bool true)))], [(1, (.box [(.c (.flt .f32 a0.X.bits)), (.c (.flt .f32 a0.Y.bits)), (.c (.flt .f32 a0.Z.bits))])), (2, (.box [.nils, .nils, .nils, .nils, (.c (.flt .f32 (default : F32).bits)), (.c (.flt .f32 (default : F32).bits)), (.c (.flt .f32 (default : F32).bits)), (.c (.flt .f32 (default : F32).bits)), (.c (.int .i64 (0 : Int)))]))]⟩ (T2 ((Tt ∧ (decide (a1 < (2 : Int))) = true) ∧ Tt ∧ T2 Tt)) [.no, .no, .dec true] [1, 2, 3, 6, 14] [1, 2] ⟨tr, tr, ⟨tr, b1⟩, tr, tr, tr, tr⟩ ⟨rfl, rfl⟩
    · replace e3 := some_eq e3
      subst e3
      exact AW.rA ⟨[(1, (vc (.int .i64 a1))), (2, (vc (.flt .f32 a2.bits))), (3, (vp 1 0)), (6, (vp 2 0)), (14, (vc (.bool (decide (a1 > (16 : Int))))))], [(1, (.box [(.c (.flt .f32 a0.X.bits)), (.c (.flt .f32 a0.Y.bits)), (.c (.flt .f32 a0.Z.bits))])), (2, (.box [.nils, .nils, .nils, .nils, (.c (.flt .f32 (default : F32).bits)), (.c (.flt .f32 (default : F32).bits)), (.c (.flt .f32 (default : F32).bits)), (.c (.flt .f32 (default : F32).bits)), (.c (.int .i64 (0 : Int)))]))]⟩ (T2 ((Tt ∧ (decide (a1 < (2 : Int))) = false) ∧ Tt ∧ T2 Tt)) [.no, .no, .dec false] [1, 2, 3, 6, 14] [1, 2] ⟨tr, tr, ⟨tr, b1⟩, tr, tr, tr, tr⟩ ⟨rfl, rfl⟩
  refine thenQ_normal ?_
  rcases ite2_cases h with ⟨b4, h⟩ | ⟨b4, h⟩
  · refine AW.cond_t rfl b4 ?_
    refine AW.seq (AW.rA ⟨[(6, (vp 2 0)), (7, (vc (.bool false)))], [(2, (.box [.nils, .nils, .nils, .nils, (.c (.flt .f32 (default : F32).bits)), (.c (.flt .f32 (default : F32).bits)), (.c (.flt .f32 (default : F32).bits)), (.c (.flt .f32 (default : F32).bits)), (.c (.int .i64 (0 : Int)))]))]⟩ (Tt ∧ T2 Tt) [] [6, 7] [2] ⟨tr, tr, tr, tr⟩ (thenQ_normal ?_))
    refine AW.ret ?_
    refine thenQ_ret ?_
    replace h := some_eq h
    subst h
    exact ⟨.inr rfl, retOK_of [(.agg [.nils, .nils, .nils, .nils, (.c (.flt .f32 (default : F32).bits)), (.c (.flt .f32 (default : F32).bits)), (.c (.flt .f32 (default : F32).bits)), (.c (.flt .f32 (default : F32).bits)), (.c (.int .i64 (0 : Int)))]), (.one (.c (.bool false)))] (by kernel_rfl) ⟨⟨rfl, rfl, rfl, rfl, ⟨rfl, tr⟩, ⟨rfl, tr⟩, ⟨rfl, tr⟩, ⟨rfl, tr⟩, ⟨rfl, tr⟩, tr⟩, ⟨rfl, tr⟩, tr⟩ (of_decide_eq_true (by kernel_rfl))⟩
  · refine AW.cond_f rfl b4 ?_
    refine AW.skip ?_
    refine thenQ_normal ?_
    refine AW.seq ?_
    obtain ⟨c5, h⟩ := chk_some h
    obtain ⟨v6, e7, h⟩ := bind_some h
    refine AW.dA ⟨[(1, (vc (.int .i64 a1))), (2, (vc (.flt .f32 a2.bits))), (3, (vp 1 0)), (6, (vp 2 0)), (8, (vp 6 0))], [(1, (.box [(.c (.flt .f32 a0.X.bits)), (.c (.flt .f32 a0.Y.bits)), (.c (.flt .f32 a0.Z.bits))])), (2, (.box [.nils, .nils, .nils, .nils, (.c (.flt .f32 (default : F32).bits)), (.c (.flt .f32 (default : F32).bits)), (.c (.flt .f32 (default : F32).bits)), (.c (.flt .f32 (default : F32).bits)), (.c (.int .i64 (0 : Int)))])), (3, (.arr false (List.replicate a1.toNat (default : Bool)).length 1 (gl csB (List.replicate a1.toNat (default : Bool))))), (5, (.lst v6.length 1 (gl (csF .f32) v6))), (6, (.box [.nils, .nils, (.arr 3), (.lst 5 v6.length 1 (gl (csF .f32) v6)), (.c (.flt .f32 (default : F32).bits)), (.c (.flt .f32 (default : F32).bits)), (.c (.flt .f32 (default : F32).bits)), (.c (.flt .f32 (Fl.mk (k := .f32) 1065353216 (by decide)).bits)), (.c (.int .i64 (4 : Int)))]))]⟩ ((Tt ∧ (0 ≤ a1 ∧ a1 = a1 ∧ (((List.replicate a1.toNat (default : Bool)).length : Nat) : Int) = a1 ∧ (List.replicate a1.toNat (default : Bool)).length * 1 ≤ 140737488355328 ∧ ∀ i, i < (List.replicate a1.toNat (default : Bool)).length → zeroRow (fun _ => none) [(.c (.bool false))] (gl csB (List.replicate a1.toNat (default : Bool)) i)) ∧ Tt ∧ (([a2]).length = 1 ∧ (((.flt .f32 a2.bits) : C) = (.flt .f32 a2.bits) ∧ Tt) ∧ Tt) ∧ T2 ((((Eqc (sl 1 (csF .f32) ([a2]))) ∧ (Eqc (.int .i64 (IntKind.i64.wrap (a1 - (1 : Int))))) ∧ Tt) ∧ CallOK Try.prog 26 [.one (sl 1 (csF .f32) ([a2])), .one (.int .i64 (IntKind.i64.wrap (a1 - (1 : Int))))] [.one (sl 1 (csF .f32) v6)]) ∧ T2 Tt)) ∧ (Tt ∧ Tt)) 9 [.no, .objA 3 (List.replicate a1.toNat (default : Bool)).length (gl csB (List.replicate a1.toNat (default : Bool))), .no, .obj 4 ([a2]).length (gl (csF .f32) ([a2])), .no, .no, .call [.one (sl 1 (csF .f32) ([a2])), .one (.int .i64 (IntKind.i64.wrap (a1 - (1 : Int))))] [.one (sl 1 (csF .f32) v6)] [[.lst 5]], .no, .box 6] [1, 2, 3, 6, 8] [1, 2, 3, 5, 6] ⟨⟨tr, ⟨c5.1, rfl, len_rep c5.1, rep_bytes c5.2, fun i hi => gl_zero (cs := csB) (zs := [(.c (.bool false))]) (n := a1.toNat) ⟨⟨rfl, tr⟩, tr⟩ i (rep_lt hi)⟩, tr, ⟨rfl, ⟨⟨rfl, tr⟩, tr⟩⟩, tr, tr, ⟨⟨rfl, rfl, tr⟩, ok_slices_Repeat_float32_float32 K ([a2]) (IntKind.i64.wrap (a1 - (1 : Int))) v6 e7⟩, tr, tr, tr⟩, ⟨tr, tr⟩⟩ ?_
    refine thenQ_normal ?_
    refine AW.seq ?_
    obtain ⟨c8, h⟩ := chk_some h
    refine AW.rA ⟨[(1, (vc (.int .i64 a1))), (2, (vc (.flt .f32 a2.bits))), (3, (vp 1 0)), (6, (vp 2 0)), (8, (vp 6 0))], [(1, (.box [(.c (.flt .f32 a0.X.bits)), (.c (.flt .f32 a0.Y.bits)), (.c (.flt .f32 a0.Z.bits))])), (2, (.box [.nils, .nils, .nils, .nils, (.c (.flt .f32 (default : F32).bits)), (.c (.flt .f32 (default : F32).bits)), (.c (.flt .f32 (default : F32).bits)), (.c (.flt .f32 (default : F32).bits)), (.c (.int .i64 (0 : Int)))])), (3, (.arr false ((List.replicate a1.toNat (default : Bool)).set ((0 : Int).toNat) true).length 1 (gl csB ((List.replicate a1.toNat (default : Bool)).set ((0 : Int).toNat) true)))), (5, (.lst v6.length 1 (gl (csF .f32) v6))), (6, (.box [.nils, .nils, (.arr 3), (.lst 5 v6.length 1 (gl (csF .f32) v6)), (.c (.flt .f32 (default : F32).bits)), (.c (.flt .f32 (default : F32).bits)), (.c (.flt .f32 (default : F32).bits)), (.c (.flt .f32 (Fl.mk (k := .f32) 1065353216 (by decide)).bits)), (.c (.int .i64 (4 : Int)))]))]⟩ (T2 ((0 ≤ (0 : Int) ∧ (0 : Int) < ((List.replicate a1.toNat (default : Bool)).length : Int)) ∧ (((List.replicate a1.toNat (default : Bool)).set ((0 : Int).toNat) true).length = (List.replicate a1.toNat (default : Bool)).length ∧ SetOb (List.replicate a1.toNat (default : Bool)).length 1 ((0 : Int).toNat) 0 1 (gl csB (List.replicate a1.toNat (default : Bool))) (gl csB ((List.replicate a1.toNat (default : Bool)).set ((0 : Int).toNat) true)) ∧ ((List.range 1).map fun j => (csB true).getD (0 + j) .nilptr) = ((List.range 1).map fun j => gl csB ((List.replicate a1.toNat (default : Bool)).set ((0 : Int).toNat) true) ((0 : Int).toNat) (0 + j)) ∧ ((((.bool true) : C) = (.bool true) ∧ Tt) ∧ Tt) ∧ (false = true → ∀ j, j < 1 → isSeq (gl csB (List.replicate a1.toNat (default : Bool)) ((0 : Int).toNat) (0 + j)) = false ∧ isSeq (gl csB ((List.replicate a1.toNat (default : Bool)).set ((0 : Int).toNat) true) ((0 : Int).toNat) (0 + j)) = false)) ∧ Tt)) [.no, .no, .no, .set ((List.replicate a1.toNat (default : Bool)).set ((0 : Int).toNat) true).length (gl csB ((List.replicate a1.toNat (default : Bool)).set ((0 : Int).toNat) true)) ((List.range 1).map fun j => (csB true).getD (0 + j) .nilptr)] [1, 2, 3, 6, 8] [1, 2, 3, 5, 6] ⟨tr, tr, c8, ⟨List.length_set, gl_set, (gl_atp (lt_of_bound c8)).symm, ⟨⟨rfl, tr⟩, tr⟩, (fun h => nomatch h)⟩, tr⟩ ?_
    refine thenQ_normal ?_
    refine AW.seq ?_
    refine AW.seq (AW.rA ⟨[(2, (vc (.flt .f32 a2.bits))), (3, (vp 1 0)), (6, (vp 2 0)), (8, (vp 6 0)), (27, (vc (.int .i64 a1))), (28, (vc (.int .i64 (0 : Int))))], [(1, (.box [(.c (.flt .f32 a0.X.bits)), (.c (.flt .f32 a0.Y.bits)), (.c (.flt .f32 a0.Z.bits))])), (2, (.box [.nils, .nils, .nils, .nils, (.c (.flt .f32 (default : F32).bits)), (.c (.flt .f32 (default : F32).bits)), (.c (.flt .f32 (default : F32).bits)), (.c (.flt .f32 (default : F32).bits)), (.c (.int .i64 (0 : Int)))])), (3, (.arr false ((List.replicate a1.toNat (default : Bool)).set ((0 : Int).toNat) true).length 1 (gl csB ((List.replicate a1.toNat (default : Bool)).set ((0 : Int).toNat) true)))), (5, (.lst v6.length 1 (gl (csF .f32) v6))), (6, (.box [.nils, .nils, (.arr 3), (.lst 5 v6.length 1 (gl (csF .f32) v6)), (.c (.flt .f32 (default : F32).bits)), (.c (.flt .f32 (default : F32).bits)), (.c (.flt .f32 (default : F32).bits)), (.c (.flt .f32 (Fl.mk (k := .f32) 1065353216 (by decide)).bits)), (.c (.int .i64 (4 : Int)))]))]⟩ (T2 Tt) [] [2, 3, 6, 8, 27, 28] [1, 2, 3, 5, 6] ⟨tr, tr, tr⟩ (thenQ_normal ?_))
    refine AW.block ?_
    refine AW.weak (s' := ⟨[(2, (vc (.flt .f32 a2.bits))), (3, (vp 1 0)), (6, (vp 2 0)), (8, (vp 6 0)), (27, (vc (.int .i64 a1))), (28, (vc (.int .i64 (0 : Int))))], [(1, (.box [(.c (.flt .f32 a0.X.bits)), (.c (.flt .f32 a0.Y.bits)), (.c (.flt .f32 a0.Z.bits))])), (2, (.box [.nils, .nils, .nils, .nils, (.c (.flt .f32 (default : F32).bits)), (.c (.flt .f32 (default : F32).bits)), (.c (.flt .f32 (default : F32).bits)), (.c (.flt .f32 (default : F32).bits)), (.c (.int .i64 (0 : Int)))])), (3, (.arr false ((List.replicate a1.toNat (default : Bool)).set ((0 : Int).toNat) true).length 1 (gl csB ((List.replicate a1.toNat (default : Bool)).set ((0 : Int).toNat) true)))), (5, (.lst v6.length 1 (gl (csF .f32) v6))), (6, (.box [(.lst 9 ([] : (List Vector)).length 3 (gl cs_Vector ([] : (List Vector)))), .nils, (.arr 3), (.lst 5 v6.length 1 (gl (csF .f32) v6)), (.c (.flt .f32 (default : F32).bits)), (.c (.flt .f32 (default : F32).bits)), (.c (.flt .f32 (default : F32).bits)), (.c (.flt .f32 (Fl.mk (k := .f32) 1065353216 (by decide)).bits)), (.c (.int .i64 (4 : Int)))])), (9, (.lst ([] : (List Vector)).length 3 (gl cs_Vector ([] : (List Vector)))))]⟩) (Sub.trans (Sub.unnil 9 3 (gl cs_Vector ([] : (List Vector))) [] [(6, 0)] _ (by kernel_rfl) (by kernel_rfl)) (Sub.keep [2, 3, 6, 8, 27, 28] [1, 2, 3, 5, 6, 9] (by kernel_rfl) (by kernel_rfl))) ?_
    refine AW.loopQ (σ := Nat × Int × F32 × (List Vector)) (fun p => ⟨[(2, (vc (.flt .f32 a2.bits))), (3, (vp 1 0)), (6, (vp 2 0)), (8, (vp 6 0)), (27, (vc (.int .i64 a1))), (28, (vc (.int .i64 p.2.1)))], [(1, (.box [(.c (.flt .f32 a0.X.bits)), (.c (.flt .f32 p.2.2.1.bits)), (.c (.flt .f32 a0.Z.bits))])), (2, (.box [.nils, .nils, .nils, .nils, (.c (.flt .f32 (default : F32).bits)), (.c (.flt .f32 (default : F32).bits)), (.c (.flt .f32 (default : F32).bits)), (.c (.flt .f32 (default : F32).bits)), (.c (.int .i64 (0 : Int)))])), (3, (.arr false ((List.replicate a1.toNat (default : Bool)).set ((0 : Int).toNat) true).length 1 (gl csB ((List.replicate a1.toNat (default : Bool)).set ((0 : Int).toNat) true)))), (5, (.lst v6.length 1 (gl (csF .f32) v6))), (6, (.box [(.lst 9 p.2.2.2.length 3 (gl cs_Vector p.2.2.2)), .nils, (.arr 3), (.lst 5 v6.length 1 (gl (csF .f32) v6)), (.c (.flt .f32 (default : F32).bits)), (.c (.flt .f32 (default : F32).bits)), (.c (.flt .f32 (default : F32).bits)), (.c (.flt .f32 (Fl.mk (k := .f32) 1065353216 (by decide)).bits)), (.c (.int .i64 (4 : Int)))])), (9, (.lst p.2.2.2.length 3 (gl cs_Vector p.2.2.2)))]⟩) (fun p => impl_HangString_l1 K a0 a1 a2 v6 p.1 p.2.1 p.2.2.1 p.2.2.2 = some o) (fun p => p.1) (K, (0 : Int), a0.Y, ([] : (List Vector))) h ?_
    clear h
    rintro ⟨k, x12, x13, x14⟩ h
    replace h : impl_HangString_l1 K a0 a1 a2 v6 k x12 x13 x14 = some o := h
    show AW _ _ (⟨[(2, (vc (.flt .f32 a2.bits))), (3, (vp 1 0)), (6, (vp 2 0)), (8, (vp 6 0)), (27, (vc (.int .i64 a1))), (28, (vc (.int .i64 x12)))], [(1, (.box [(.c (.flt .f32 a0.X.bits)), (.c (.flt .f32 x13.bits)), (.c (.flt .f32 a0.Z.bits))])), (2, (.box [.nils, .nils, .nils, .nils, (.c (.flt .f32 (default : F32).bits)), (.c (.flt .f32 (default : F32).bits)), (.c (.flt .f32 (default : F32).bits)), (.c (.flt .f32 (default : F32).bits)), (.c (.int .i64 (0 : Int)))])), (3, (.arr false ((List.replicate a1.toNat (default : Bool)).set ((0 : Int).toNat) true).length 1 (gl csB ((List.replicate a1.toNat (default : Bool)).set ((0 : Int).toNat) true)))), (5, (.lst v6.length 1 (gl (csF .f32) v6))), (6, (.box [(.lst 9 x14.length 3 (gl cs_Vector x14)), .nils, (.arr 3), (.lst 5 v6.length 1 (gl (csF .f32) v6)), (.c (.flt .f32 (default : F32).bits)), (.c (.flt .f32 (default : F32).bits)), (.c (.flt .f32 (default : F32).bits)), (.c (.flt .f32 (Fl.mk (k := .f32) 1065353216 (by decide)).bits)), (.c (.int .i64 (4 : Int)))])), (9, (.lst x14.length 3 (gl cs_Vector x14)))]⟩ : St) _
    obtain _ | k := k
    · rw [impl_HangString_l1] at h; cases h
    rw [impl_HangString_l1] at h
    refine AW.seq (AW.rA ⟨[(2, (vc (.flt .f32 a2.bits))), (3, (vp 1 0)), (6, (vp 2 0)), (8, (vp 6 0)), (27, (vc (.int .i64 a1))), (28, (vc (.int .i64 x12))), (29, (vc (.bool (decide (x12 < a1)))))], [(1, (.box [(.c (.flt .f32 a0.X.bits)), (.c (.flt .f32 x13.bits)), (.c (.flt .f32 a0.Z.bits))])), (2, (.box [.nils, .nils, .nils, .nils, (.c (.flt .f32 (default : F32).bits)), (.c (.flt .f32 (default : F32).bits)), (.c (.flt .f32 (default : F32).bits)), (.c (.flt .f32 (default : F32).bits)), (.c (.int .i64 (0 : Int)))])), (3, (.arr false ((List.replicate a1.toNat (default : Bool)).set ((0 : Int).toNat) true).length 1 (gl csB ((List.replicate a1.toNat (default : Bool)).set ((0 : Int).toNat) true)))), (5, (.lst v6.length 1 (gl (csF .f32) v6))), (6, (.box [(.lst 9 x14.length 3 (gl cs_Vector x14)), .nils, (.arr 3), (.lst 5 v6.length 1 (gl (csF .f32) v6)), (.c (.flt .f32 (default : F32).bits)), (.c (.flt .f32 (default : F32).bits)), (.c (.flt .f32 (default : F32).bits)), (.c (.flt .f32 (Fl.mk (k := .f32) 1065353216 (by decide)).bits)), (.c (.int .i64 (4 : Int)))])), (9, (.lst x14.length 3 (gl cs_Vector x14)))]⟩ (Tt ∧ Tt) [] [2, 3, 6, 8, 27, 28, 29] [1, 2, 3, 5, 6, 9] ⟨tr, tr⟩ (thenQ_normal ?_))
    refine AW.seq ?_
    rcases ite2_cases h with ⟨b15, h⟩ | ⟨b15, h⟩
    · refine AW.cond_t rfl b15 ?_
      refine AW.skip ?_
      refine thenQ_normal ?_
      refine AW.seq ?_
      refine AW.block ?_
      refine AW.seq ?_
      obtain ⟨c16, h⟩ := chk_some h
      refine AW.rA ⟨[(2, (vc (.flt .f32 a2.bits))), (3, (vp 1 0)), (6, (vp 2 0)), (8, (vp 6 0)), (27, (vc (.int .i64 a1))), (28, (vc (.int .i64 x12)))], [(1, (.box [(.c (.flt .f32 a0.X.bits)), (.c (.flt .f32 x13.bits)), (.c (.flt .f32 a0.Z.bits))])), (2, (.box [.nils, .nils, .nils, .nils, (.c (.flt .f32 (default : F32).bits)), (.c (.flt .f32 (default : F32).bits)), (.c (.flt .f32 (default : F32).bits)), (.c (.flt .f32 (default : F32).bits)), (.c (.int .i64 (0 : Int)))])), (3, (.arr false ((List.replicate a1.toNat (default : Bool)).set ((0 : Int).toNat) true).length 1 (gl csB ((List.replicate a1.toNat (default : Bool)).set ((0 : Int).toNat) true)))), (5, (.lst v6.length 1 (gl (csF .f32) v6))), (6, (.box [(.lst 15 (x14 ++ ([(Vector.mk a0.X x13 a0.Z)])).length 3 (gl cs_Vector (x14 ++ ([(Vector.mk a0.X x13 a0.Z)])))), .nils, (.arr 3), (.lst 5 v6.length 1 (gl (csF .f32) v6)), (.c (.flt .f32 (default : F32).bits)), (.c (.flt .f32 (default : F32).bits)), (.c (.flt .f32 (default : F32).bits)), (.c (.flt .f32 (Fl.mk (k := .f32) 1065353216 (by decide)).bits)), (.c (.int .i64 (4 : Int)))])), (15, (.lst (x14 ++ ([(Vector.mk a0.X x13 a0.Z)])).length 3 (gl cs_Vector (x14 ++ ([(Vector.mk a0.X x13 a0.Z)])))))]⟩ (Tt ∧ T2 ((([(Vector.mk a0.X x13 a0.Z)]).length = 1 ∧ (((.flt .f32 a0.X.bits) : C) = (.flt .f32 a0.X.bits) ∧ Tt) ∧ (((.flt .f32 x13.bits) : C) = (.flt .f32 x13.bits) ∧ Tt) ∧ (((.flt .f32 a0.Z.bits) : C) = (.flt .f32 a0.Z.bits) ∧ Tt) ∧ Tt) ∧ ((x14 ++ ([(Vector.mk a0.X x13 a0.Z)])).length = x14.length + ([(Vector.mk a0.X x13 a0.Z)]).length ∧ AppOb (x14.length) (([(Vector.mk a0.X x13 a0.Z)]).length) 3 (gl cs_Vector x14) (gl cs_Vector ([(Vector.mk a0.X x13 a0.Z)])) (gl cs_Vector (x14 ++ ([(Vector.mk a0.X x13 a0.Z)]))) ∧ (∀ i j, i < ([(Vector.mk a0.X x13 a0.Z)]).length → j < 3 → scalarC (gl cs_Vector ([(Vector.mk a0.X x13 a0.Z)]) i j)) ∧ (x14.length + ([(Vector.mk a0.X x13 a0.Z)]).length) * 12 ≤ 140737488355328) ∧ T2 Tt)) [.no, .no, .no, .obj 14 ([(Vector.mk a0.X x13 a0.Z)]).length (gl cs_Vector ([(Vector.mk a0.X x13 a0.Z)])), .objK 15 (x14 ++ ([(Vector.mk a0.X x13 a0.Z)])).length (gl cs_Vector (x14 ++ ([(Vector.mk a0.X x13 a0.Z)])))] [2, 3, 6, 8, 27, 28] [1, 2, 3, 5, 6, 15] ⟨tr, tr, tr, ⟨rfl, ⟨⟨rfl, tr⟩, ⟨rfl, tr⟩, ⟨rfl, tr⟩, tr⟩⟩, ⟨List.length_append, gl_append, gl_scalar sc_Vector _, c16⟩, tr, tr, tr⟩ ?_
      refine thenQ_normal ?_
      refine AW.rA ⟨[(2, (vc (.flt .f32 a2.bits))), (3, (vp 1 0)), (6, (vp 2 0)), (8, (vp 6 0)), (27, (vc (.int .i64 a1))), (28, (vc (.int .i64 x12)))], [(1, (.box [(.c (.flt .f32 a0.X.bits)), (.c (.flt .f32 (x13.sub a2).bits)), (.c (.flt .f32 a0.Z.bits))])), (2, (.box [.nils, .nils, .nils, .nils, (.c (.flt .f32 (default : F32).bits)), (.c (.flt .f32 (default : F32).bits)), (.c (.flt .f32 (default : F32).bits)), (.c (.flt .f32 (default : F32).bits)), (.c (.int .i64 (0 : Int)))])), (3, (.arr false ((List.replicate a1.toNat (default : Bool)).set ((0 : Int).toNat) true).length 1 (gl csB ((List.replicate a1.toNat (default : Bool)).set ((0 : Int).toNat) true)))), (5, (.lst v6.length 1 (gl (csF .f32) v6))), (6, (.box [(.lst 15 (x14 ++ ([(Vector.mk a0.X x13 a0.Z)])).length 3 (gl cs_Vector (x14 ++ ([(Vector.mk a0.X x13 a0.Z)])))), .nils, (.arr 3), (.lst 5 v6.length 1 (gl (csF .f32) v6)), (.c (.flt .f32 (default : F32).bits)), (.c (.flt .f32 (default : F32).bits)), (.c (.flt .f32 (default : F32).bits)), (.c (.flt .f32 (Fl.mk (k := .f32) 1065353216 (by decide)).bits)), (.c (.int .i64 (4 : Int)))])), (15, (.lst (x14 ++ ([(Vector.mk a0.X x13 a0.Z)])).length 3 (gl cs_Vector (x14 ++ ([(Vector.mk a0.X x13 a0.Z)])))))]⟩ (T2 (T4 Tt)) [] [2, 3, 6, 8, 27, 28] [1, 2, 3, 5, 6, 15] ⟨tr, tr, tr, tr, tr, tr, tr⟩ ?_
      refine blockQ_normal ?_
      refine thenQ_normal ?_
      refine AW.rA ⟨[(2, (vc (.flt .f32 a2.bits))), (3, (vp 1 0)), (6, (vp 2 0)), (8, (vp 6 0)), (27, (vc (.int .i64 a1))), (28, (vc (.int .i64 (IntKind.i64.wrap (x12 + (1 : Int))))))], [(1, (.box [(.c (.flt .f32 a0.X.bits)), (.c (.flt .f32 (x13.sub a2).bits)), (.c (.flt .f32 a0.Z.bits))])), (2, (.box [.nils, .nils, .nils, .nils, (.c (.flt .f32 (default : F32).bits)), (.c (.flt .f32 (default : F32).bits)), (.c (.flt .f32 (default : F32).bits)), (.c (.flt .f32 (default : F32).bits)), (.c (.int .i64 (0 : Int)))])), (3, (.arr false ((List.replicate a1.toNat (default : Bool)).set ((0 : Int).toNat) true).length 1 (gl csB ((List.replicate a1.toNat (default : Bool)).set ((0 : Int).toNat) true)))), (5, (.lst v6.length 1 (gl (csF .f32) v6))), (6, (.box [(.lst 15 (x14 ++ ([(Vector.mk a0.X x13 a0.Z)])).length 3 (gl cs_Vector (x14 ++ ([(Vector.mk a0.X x13 a0.Z)])))), .nils, (.arr 3), (.lst 5 v6.length 1 (gl (csF .f32) v6)), (.c (.flt .f32 (default : F32).bits)), (.c (.flt .f32 (default : F32).bits)), (.c (.flt .f32 (default : F32).bits)), (.c (.flt .f32 (Fl.mk (k := .f32) 1065353216 (by decide)).bits)), (.c (.int .i64 (4 : Int)))])), (15, (.lst (x14 ++ ([(Vector.mk a0.X x13 a0.Z)])).length 3 (gl cs_Vector (x14 ++ ([(Vector.mk a0.X x13 a0.Z)])))))]⟩ (T2 Tt) [] [2, 3, 6, 8, 27, 28] [1, 2, 3, 5, 6, 15] ⟨tr, tr, tr⟩ ?_
      exact loopQ_normal (k, (IntKind.i64.wrap (x12 + (1 : Int))), (x13.sub a2), (x14 ++ ([(Vector.mk a0.X x13 a0.Z)]))) h (Nat.lt_succ_self k) (Sub.trans (Sub.swap 9 15 _ (by kernel_rfl) (by kernel_rfl)) (Sub.keep [2, 3, 6, 8, 27, 28] [1, 2, 3, 5, 6, 9] (by kernel_rfl) (by kernel_rfl)))
    · refine AW.cond_f rfl b15 ?_
      refine AW.exit ?_
      refine thenQ_exit ?_
      refine loopQ_exit ?_
      refine blockQ_exit ?_
      refine thenQ_normal ?_
      refine AW.seq ?_
      obtain ⟨v17, e18, h⟩ := bind_some h
      refine AW.rA ⟨[(6, (vp 2 0)), (8, (vp 6 0))], [(2, (.box [.nils, .nils, .nils, .nils, (.c (.flt .f32 (default : F32).bits)), (.c (.flt .f32 (default : F32).bits)), (.c (.flt .f32 (default : F32).bits)), (.c (.flt .f32 (default : F32).bits)), (.c (.int .i64 (0 : Int)))])), (3, (.arr false ((List.replicate a1.toNat (default : Bool)).set ((0 : Int).toNat) true).length 1 (gl csB ((List.replicate a1.toNat (default : Bool)).set ((0 : Int).toNat) true)))), (5, (.lst v6.length 1 (gl (csF .f32) v6))), (6, (.box [(.lst 9 x14.length 3 (gl cs_Vector x14)), (.lst 16 v17.length 3 (gl cs_Vector v17)), (.arr 3), (.lst 5 v6.length 1 (gl (csF .f32) v6)), (.c (.flt .f32 (default : F32).bits)), (.c (.flt .f32 (default : F32).bits)), (.c (.flt .f32 (default : F32).bits)), (.c (.flt .f32 (Fl.mk (k := .f32) 1065353216 (by decide)).bits)), (.c (.int .i64 (4 : Int)))])), (9, (.lst x14.length 3 (gl cs_Vector x14))), (16, (.lst v17.length 3 (gl cs_Vector v17)))]⟩ (T2 ((((Eqc (sl 3 cs_Vector x14)) ∧ Tt) ∧ CallOK Try.prog 27 [.one (sl 3 cs_Vector x14)] [.one (sl 3 cs_Vector v17)]) ∧ T2 Tt)) [.no, .no, .call [.one (sl 3 cs_Vector x14)] [.one (sl 3 cs_Vector v17)] [[.lst 16]]] [6, 8] [2, 3, 5, 6, 9, 16] ⟨tr, tr, ⟨⟨rfl, tr⟩, ok_slices_Clone_impl_Vector_impl_Vector K x14 v17 e18⟩, tr, tr, tr⟩ ?_
      refine thenQ_normal ?_
      refine AW.seq (AW.rA ⟨[(6, (vp 2 0)), (7, (vc (.bool true)))], [(2, (.box [(.lst 9 x14.length 3 (gl cs_Vector x14)), (.lst 16 v17.length 3 (gl cs_Vector v17)), (.arr 3), (.lst 5 v6.length 1 (gl (csF .f32) v6)), (.c (.flt .f32 (default : F32).bits)), (.c (.flt .f32 (default : F32).bits)), (.c (.flt .f32 (default : F32).bits)), (.c (.flt .f32 (Fl.mk (k := .f32) 1065353216 (by decide)).bits)), (.c (.int .i64 (4 : Int)))])), (3, (.arr false ((List.replicate a1.toNat (default : Bool)).set ((0 : Int).toNat) true).length 1 (gl csB ((List.replicate a1.toNat (default : Bool)).set ((0 : Int).toNat) true)))), (5, (.lst v6.length 1 (gl (csF .f32) v6))), (9, (.lst x14.length 3 (gl cs_Vector x14))), (16, (.lst v17.length 3 (gl cs_Vector v17)))]⟩ (Tt ∧ T2 Tt) [] [6, 7] [2, 3, 5, 9, 16] ⟨tr, tr, tr, tr⟩ (thenQ_normal ?_))
      refine AW.ret ?_
      replace h := some_eq h
      subst h
      exact ⟨.inr rfl, retOK_of [(.agg [(.lst 9 x14.length 3 (gl cs_Vector x14)), (.lst 16 v17.length 3 (gl cs_Vector v17)), (.arr 3), (.lst 5 v6.length 1 (gl (csF .f32) v6)), (.c (.flt .f32 (default : F32).bits)), (.c (.flt .f32 (default : F32).bits)), (.c (.flt .f32 (default : F32).bits)), (.c (.flt .f32 (Fl.mk (k := .f32) 1065353216 (by decide)).bits)), (.c (.int .i64 (4 : Int)))]), (.one (.c (.bool true)))] (by kernel_rfl) ⟨⟨rfl, rfl, rfl, rfl, ⟨rfl, tr⟩, ⟨rfl, tr⟩, ⟨rfl, tr⟩, ⟨rfl, tr⟩, ⟨rfl, tr⟩, tr⟩, ⟨rfl, tr⟩, tr⟩ (of_decide_eq_true (by kernel_rfl))⟩

/-! impl.StepString -/
def impl_StepString (K : Nat) (a0 : String) : Option (String × Bool) :=
  (impl_RunString K a0 (1 : Int)).bind fun v1 => some (v1.1, v1.2)

theorem ok_impl_StepString (K : Nat) (a0 : String) (o : (String × Bool)) (h : impl_StepString K a0 = some o) : CallOK Try.prog 13 [.agg (cs_String a0)] [.agg (cs_String o.1), .one (.bool o.2)] := by
  refine callOK_of_AW Try.func13 rfl (by kernel_rfl) (Nat.le_of_ble_eq_true (by kernel_rfl)) ?_
  intro w0
  unfold impl_StepString at h
  refine AW.seq (AW.rA ⟨[(1, (vp 1 0)), (2, (vp 2 0))], [(1, (.box [(.c (sl 3 cs_Vector a0.Points)), (.c (sl 3 cs_Vector a0.Before)), (.c (sl 1 csB a0.Fixed)), (.c (sl 1 (csF .f32) a0.Lengths)), (.c (.flt .f32 a0.Fall.X.bits)), (.c (.flt .f32 a0.Fall.Y.bits)), (.c (.flt .f32 a0.Fall.Z.bits)), (.c (.flt .f32 a0.Damp.bits)), (.c (.int .i64 a0.Passes))])), (2, (.box [.nils, .nils, .nils, .nils, (.c (.flt .f32 (default : F32).bits)), (.c (.flt .f32 (default : F32).bits)), (.c (.flt .f32 (default : F32).bits)), (.c (.flt .f32 (default : F32).bits)), (.c (.int .i64 (0 : Int)))]))]⟩ (Tt ∧ T2 Tt) [.box 1, .box 2] [1, 2] [1, 2] ⟨tr, tr, tr, tr⟩ (thenQ_normal ?_))
  refine AW.seq ?_
  obtain ⟨v1, e2, h⟩ := bind_some h
  refine AW.rA ⟨[(2, (vp 2 0)), (3, (vc (.bool v1.2)))], [(2, (.box [(.lst 3 v1.1.Points.length 3 (gl cs_Vector v1.1.Points)), (.lst 4 v1.1.Before.length 3 (gl cs_Vector v1.1.Before)), (.lst 5 v1.1.Fixed.length 1 (gl csB v1.1.Fixed)), (.lst 6 v1.1.Lengths.length 1 (gl (csF .f32) v1.1.Lengths)), (.c (.flt .f32 v1.1.Fall.X.bits)), (.c (.flt .f32 v1.1.Fall.Y.bits)), (.c (.flt .f32 v1.1.Fall.Z.bits)), (.c (.flt .f32 v1.1.Damp.bits)), (.c (.int .i64 v1.1.Passes))])), (3, (.lst v1.1.Points.length 3 (gl cs_Vector v1.1.Points))), (4, (.lst v1.1.Before.length 3 (gl cs_Vector v1.1.Before))), (5, (.lst v1.1.Fixed.length 1 (gl csB v1.1.Fixed))), (6, (.lst v1.1.Lengths.length 1 (gl (csF .f32) v1.1.Lengths)))]⟩ (Tt ∧ ((((Eqc (sl 3 cs_Vector a0.Points)) ∧ (Eqc (sl 3 cs_Vector a0.Before)) ∧ (Eqc (sl 1 csB a0.Fixed)) ∧ (Eqc (sl 1 (csF .f32) a0.Lengths)) ∧ (Eqc (.flt .f32 a0.Fall.X.bits)) ∧ (Eqc (.flt .f32 a0.Fall.Y.bits)) ∧ (Eqc (.flt .f32 a0.Fall.Z.bits)) ∧ (Eqc (.flt .f32 a0.Damp.bits)) ∧ (Eqc (.int .i64 a0.Passes)) ∧ Tt) ∧ (Eqc (.int .i64 (1 : Int))) ∧ Tt) ∧ CallOK Try.prog 7 [.agg (cs_String a0), .one (.int .i64 (1 : Int))] [.agg (cs_String v1.1), .one (.bool v1.2)]) ∧ T4 Tt) [.no, .call [.agg (cs_String a0), .one (.int .i64 (1 : Int))] [.agg (cs_String v1.1), .one (.bool v1.2)] [[.lst 3, .lst 4, .lst 5, .lst 6, .view, .view, .view, .view, .view], [.view]]] [2, 3] [2, 3, 4, 5, 6] ⟨tr, ⟨⟨⟨rfl, rfl, rfl, rfl, rfl, rfl, rfl, rfl, rfl, tr⟩, rfl, tr⟩, ok_impl_RunString K a0 (1 : Int) v1 e2⟩, tr, tr, tr, tr, tr⟩ ?_
  refine thenQ_normal ?_
  refine AW.ret ?_
  replace h := some_eq h
  subst h
  exact ⟨.inr rfl, retOK_of [(.agg [(.lst 3 v1.1.Points.length 3 (gl cs_Vector v1.1.Points)), (.lst 4 v1.1.Before.length 3 (gl cs_Vector v1.1.Before)), (.lst 5 v1.1.Fixed.length 1 (gl csB v1.1.Fixed)), (.lst 6 v1.1.Lengths.length 1 (gl (csF .f32) v1.1.Lengths)), (.c (.flt .f32 v1.1.Fall.X.bits)), (.c (.flt .f32 v1.1.Fall.Y.bits)), (.c (.flt .f32 v1.1.Fall.Z.bits)), (.c (.flt .f32 v1.1.Damp.bits)), (.c (.int .i64 v1.1.Passes))]), (.one (.c (.bool v1.2)))] (by kernel_rfl) ⟨⟨rfl, rfl, rfl, rfl, ⟨rfl, tr⟩, ⟨rfl, tr⟩, ⟨rfl, tr⟩, ⟨rfl, tr⟩, ⟨rfl, tr⟩, tr⟩, ⟨rfl, tr⟩, tr⟩ (of_decide_eq_true (by kernel_rfl))⟩

/-! impl.distances -/
def impl_distances_l1 (K : Nat) (a0 : (List Vector)) : Nat → Int → (List F32) → Option ((List F32))
  | 0, _, _ => none
  | k + 1, x4, x5 => ite2 ((decide (x4 < ((List.replicate (IntKind.i64.wrap ((a0.length : Int) - (1 : Int))).toNat (default : F32)).length : Int)))) (chk (0 ≤ (IntKind.i64.wrap (x4 + (1 : Int))) ∧ (IntKind.i64.wrap (x4 + (1 : Int))) < (a0.length : Int)) (chk (0 ≤ x4 ∧ x4 < (a0.length : Int)) ((impl_LessVectors K (a0.getD ((IntKind.i64.wrap (x4 + (1 : Int))).toNat) default) (a0.getD x4.toNat default)).bind fun v9 => (impl_LongOf K v9).bind fun v11 => chk (0 ≤ x4 ∧ x4 < (x5.length : Int)) (impl_distances_l1 K a0 k (IntKind.i64.wrap (x4 + (1 : Int))) (x5.set x4.toNat v11))))) (some x5)

def impl_distances (K : Nat) (a0 : (List Vector)) : Option ((List F32)) :=
  chk (0 ≤ (IntKind.i64.wrap ((a0.length : Int) - (1 : Int))) ∧ (IntKind.i64.wrap ((a0.length : Int) - (1 : Int))).toNat * 4 ≤ 140737488355328) (impl_distances_l1 K a0 K (0 : Int) (List.replicate (IntKind.i64.wrap ((a0.length : Int) - (1 : Int))).toNat (default : F32)))

theorem ok_impl_distances (K : Nat) (a0 : (List Vector)) (o : ((List F32))) (h : impl_distances K a0 = some o) : CallOK Try.prog 28 [.one (sl 3 cs_Vector a0)] [.one (sl 1 (csF .f32) o)] := by
  refine callOK_of_AW Try.func28 rfl (by kernel_rfl) (Nat.le_of_ble_eq_true (by kernel_rfl)) ?_
  intro w0
  unfold impl_distances at h
  refine AW.seq (AW.rA ⟨[(0, (vc (sl 3 cs_Vector a0)))], []⟩ (Tt ∧ Tt) [] [0] [] ⟨tr, tr⟩ (thenQ_normal ?_))
  refine AW.seq ?_
  obtain ⟨c1, h⟩ := chk_some h
  refine AW.rA ⟨[(0, (vc (sl 3 cs_Vector a0))), (3, (.v (.one (.arr 1))))], [(1, (.arr false (List.replicate (IntKind.i64.wrap ((a0.length : Int) - (1 : Int))).toNat (default : F32)).length 1 (gl (csF .f32) (List.replicate (IntKind.i64.wrap ((a0.length : Int) - (1 : Int))).toNat (default : F32)))))]⟩ (Tt ∧ T2 ((0 ≤ (IntKind.i64.wrap ((a0.length : Int) - (1 : Int))) ∧ (IntKind.i64.wrap ((a0.length : Int) - (1 : Int))) = (IntKind.i64.wrap ((a0.length : Int) - (1 : Int))) ∧ (((List.replicate (IntKind.i64.wrap ((a0.length : Int) - (1 : Int))).toNat (default : F32)).length : Nat) : Int) = (IntKind.i64.wrap ((a0.length : Int) - (1 : Int))) ∧ (List.replicate (IntKind.i64.wrap ((a0.length : Int) - (1 : Int))).toNat (default : F32)).length * 4 ≤ 140737488355328 ∧ ∀ i, i < (List.replicate (IntKind.i64.wrap ((a0.length : Int) - (1 : Int))).toNat (default : F32)).length → zeroRow (fun _ => none) [(.c (.flt .f32 (default : F32).bits))] (gl (csF .f32) (List.replicate (IntKind.i64.wrap ((a0.length : Int) - (1 : Int))).toNat (default : F32)) i)) ∧ Tt ∧ Tt)) [.no, .no, .no, .objA 1 (List.replicate (IntKind.i64.wrap ((a0.length : Int) - (1 : Int))).toNat (default : F32)).length (gl (csF .f32) (List.replicate (IntKind.i64.wrap ((a0.length : Int) - (1 : Int))).toNat (default : F32)))] [0, 3] [1] ⟨tr, tr, tr, ⟨c1.1, rfl, len_rep c1.1, rep_bytes c1.2, fun i hi => gl_zero (cs := (csF .f32)) (zs := [(.c (.flt .f32 (default : F32).bits))]) (n := (IntKind.i64.wrap ((a0.length : Int) - (1 : Int))).toNat) ⟨⟨rfl, tr⟩, tr⟩ i (rep_lt hi)⟩, tr, tr⟩ ?_
  refine thenQ_normal ?_
  refine AW.seq ?_
  refine AW.seq (AW.rA ⟨[(0, (vc (sl 3 cs_Vector a0))), (3, (.v (.one (.arr 1)))), (10, (vc (.int .i64 ((List.replicate (IntKind.i64.wrap ((a0.length : Int) - (1 : Int))).toNat (default : F32)).length : Int)))), (11, (vc (.int .i64 (0 : Int))))], [(1, (.arr false (List.replicate (IntKind.i64.wrap ((a0.length : Int) - (1 : Int))).toNat (default : F32)).length 1 (gl (csF .f32) (List.replicate (IntKind.i64.wrap ((a0.length : Int) - (1 : Int))).toNat (default : F32)))))]⟩ (Tt ∧ T2 Tt) [] [0, 3, 10, 11] [1] ⟨tr, tr, tr, tr⟩ (thenQ_normal ?_))
  refine AW.block ?_
  refine AW.loopQ (σ := Nat × Int × (List F32)) (fun p => ⟨[(0, (vc (sl 3 cs_Vector a0))), (3, (.v (.one (.arr 1)))), (10, (vc (.int .i64 ((List.replicate (IntKind.i64.wrap ((a0.length : Int) - (1 : Int))).toNat (default : F32)).length : Int)))), (11, (vc (.int .i64 p.2.1)))], [(1, (.arr false p.2.2.length 1 (gl (csF .f32) p.2.2)))]⟩) (fun p => impl_distances_l1 K a0 p.1 p.2.1 p.2.2 = some o) (fun p => p.1) (K, (0 : Int), (List.replicate (IntKind.i64.wrap ((a0.length : Int) - (1 : Int))).toNat (default : F32))) h ?_
  clear h
  rintro ⟨k, x4, x5⟩ h
  replace h : impl_distances_l1 K a0 k x4 x5 = some o := h
  show AW _ _ (⟨[(0, (vc (sl 3 cs_Vector a0))), (3, (.v (.one (.arr 1)))), (10, (vc (.int .i64 ((List.replicate (IntKind.i64.wrap ((a0.length : Int) - (1 : Int))).toNat (default : F32)).length : Int)))), (11, (vc (.int .i64 x4)))], [(1, (.arr false x5.length 1 (gl (csF .f32) x5)))]⟩ : St) _
  obtain _ | k := k
  · rw [impl_distances_l1] at h; cases h
  rw [impl_distances_l1] at h
  refine AW.seq (AW.rA ⟨[(0, (vc (sl 3 cs_Vector a0))), (3, (.v (.one (.arr 1)))), (10, (vc (.int .i64 ((List.replicate (IntKind.i64.wrap ((a0.length : Int) - (1 : Int))).toNat (default : F32)).length : Int)))), (11, (vc (.int .i64 x4))), (12, (vc (.bool (decide (x4 < ((List.replicate (IntKind.i64.wrap ((a0.length : Int) - (1 : Int))).toNat (default : F32)).length : Int))))))], [(1, (.arr false x5.length 1 (gl (csF .f32) x5)))]⟩ (Tt ∧ Tt) [] [0, 3, 10, 11, 12] [1] ⟨tr, tr⟩ (thenQ_normal ?_))
  refine AW.seq ?_
  rcases ite2_cases h with ⟨b6, h⟩ | ⟨b6, h⟩
  · refine AW.cond_t rfl b6 ?_
    refine AW.skip ?_
    refine thenQ_normal ?_
    refine AW.seq ?_
    refine AW.block ?_
    refine AW.seq (AW.rA ⟨[(0, (vc (sl 3 cs_Vector a0))), (3, (.v (.one (.arr 1)))), (4, (vc (.int .i64 x4))), (10, (vc (.int .i64 ((List.replicate (IntKind.i64.wrap ((a0.length : Int) - (1 : Int))).toNat (default : F32)).length : Int)))), (11, (vc (.int .i64 x4)))], [(1, (.arr false x5.length 1 (gl (csF .f32) x5)))]⟩ (T2 Tt) [] [0, 3, 4, 10, 11] [1] ⟨tr, tr, tr⟩ (thenQ_normal ?_))
    obtain ⟨c7, h⟩ := chk_some h
    obtain ⟨c8, h⟩ := chk_some h
    obtain ⟨v9, e10, h⟩ := bind_some h
    obtain ⟨v11, e12, h⟩ := bind_some h
    obtain ⟨c13, h⟩ := chk_some h
    refine AW.dA ⟨[(0, (vc (sl 3 cs_Vector a0))), (3, (.v (.one (.arr 1)))), (10, (vc (.int .i64 ((List.replicate (IntKind.i64.wrap ((a0.length : Int) - (1 : Int))).toNat (default : F32)).length : Int)))), (11, (vc (.int .i64 x4)))], [(1, (.arr false (x5.set x4.toNat v11).length 1 (gl (csF .f32) (x5.set x4.toNat v11))))]⟩ ((Tt ∧ T4 ((0 ≤ (IntKind.i64.wrap (x4 + (1 : Int))) ∧ (IntKind.i64.wrap (x4 + (1 : Int))) < (a0.length : Int)) ∧ Tt ∧ T2 ((0 ≤ x4 ∧ x4 < (a0.length : Int)) ∧ Tt ∧ ((((((.flt .f32 ((a0.getD ((IntKind.i64.wrap (x4 + (1 : Int))).toNat) default).X).bits) : C) = (.flt .f32 ((a0.getD ((IntKind.i64.wrap (x4 + (1 : Int))).toNat) default).X).bits)) ∧ (((.flt .f32 ((a0.getD ((IntKind.i64.wrap (x4 + (1 : Int))).toNat) default).Y).bits) : C) = (.flt .f32 ((a0.getD ((IntKind.i64.wrap (x4 + (1 : Int))).toNat) default).Y).bits)) ∧ (((.flt .f32 ((a0.getD ((IntKind.i64.wrap (x4 + (1 : Int))).toNat) default).Z).bits) : C) = (.flt .f32 ((a0.getD ((IntKind.i64.wrap (x4 + (1 : Int))).toNat) default).Z).bits)) ∧ Tt) ∧ ((Eqc (.flt .f32 ((a0.getD x4.toNat default).X).bits)) ∧ (Eqc (.flt .f32 ((a0.getD x4.toNat default).Y).bits)) ∧ (Eqc (.flt .f32 ((a0.getD x4.toNat default).Z).bits)) ∧ Tt) ∧ Tt) ∧ CallOK Try.prog 40 [.agg (cs_Vector (a0.getD ((IntKind.i64.wrap (x4 + (1 : Int))).toNat) default)), .agg (cs_Vector (a0.getD x4.toNat default))] [.agg (cs_Vector v9)]) ∧ ((((Eqc (.flt .f32 v9.X.bits)) ∧ (Eqc (.flt .f32 v9.Y.bits)) ∧ (Eqc (.flt .f32 v9.Z.bits)) ∧ Tt) ∧ Tt) ∧ CallOK Try.prog 44 [.agg (cs_Vector v9)] [.one (.flt .f32 v11.bits)]) ∧ (0 ≤ x4 ∧ x4 < (x5.length : Int)) ∧ Tt))) ∧ (((x5.set x4.toNat v11).length = x5.length ∧ SetOb x5.length 1 x4.toNat 0 1 (gl (csF .f32) x5) (gl (csF .f32) (x5.set x4.toNat v11)) ∧ ((List.range 1).map fun j => ((csF .f32) v11).getD (0 + j) .nilptr) = ((List.range 1).map fun j => gl (csF .f32) (x5.set x4.toNat v11) x4.toNat (0 + j)) ∧ ((((.flt .f32 v11.bits) : C) = (.flt .f32 v11.bits) ∧ Tt) ∧ Tt) ∧ (false = true → ∀ j, j < 1 → isSeq (gl (csF .f32) x5 x4.toNat (0 + j)) = false ∧ isSeq (gl (csF .f32) (x5.set x4.toNat v11) x4.toNat (0 + j)) = false)) ∧ Tt)) 14 [.no, .no, .no, .no, .no, .no, .no, .no, .no, .no, .no, .call [.agg (cs_Vector (a0.getD ((IntKind.i64.wrap (x4 + (1 : Int))).toNat) default)), .agg (cs_Vector (a0.getD x4.toNat default))] [.agg (cs_Vector v9)] [[.view, .view, .view]], .call [.agg (cs_Vector v9)] [.one (.flt .f32 v11.bits)] [[.view]], .no, .set (x5.set x4.toNat v11).length (gl (csF .f32) (x5.set x4.toNat v11)) ((List.range 1).map fun j => ((csF .f32) v11).getD (0 + j) .nilptr)] [0, 3, 10, 11] [1] ⟨⟨tr, tr, tr, tr, tr, c7, tr, tr, tr, c8, tr, ⟨⟨⟨rfl, rfl, rfl, tr⟩, ⟨rfl, rfl, rfl, tr⟩, tr⟩, ok_impl_LessVectors K (a0.getD ((IntKind.i64.wrap (x4 + (1 : Int))).toNat) default) (a0.getD x4.toNat default) v9 e10⟩, ⟨⟨⟨rfl, rfl, rfl, tr⟩, tr⟩, ok_impl_LongOf K v9 v11 e12⟩, c13, tr⟩, ⟨⟨List.length_set, gl_set, (gl_atp (lt_of_bound c13)).symm, ⟨⟨rfl, tr⟩, tr⟩, (fun h => nomatch h)⟩, tr⟩⟩ ?_
    refine blockQ_normal ?_
    refine thenQ_normal ?_
    refine AW.rA ⟨[(0, (vc (sl 3 cs_Vector a0))), (3, (.v (.one (.arr 1)))), (10, (vc (.int .i64 ((List.replicate (IntKind.i64.wrap ((a0.length : Int) - (1 : Int))).toNat (default : F32)).length : Int)))), (11, (vc (.int .i64 (IntKind.i64.wrap (x4 + (1 : Int))))))], [(1, (.arr false (x5.set x4.toNat v11).length 1 (gl (csF .f32) (x5.set x4.toNat v11))))]⟩ (T2 Tt) [] [0, 3, 10, 11] [1] ⟨tr, tr, tr⟩ ?_
    exact loopQ_normal (k, (IntKind.i64.wrap (x4 + (1 : Int))), (x5.set x4.toNat v11)) h (Nat.lt_succ_self k) (Sub.keep [0, 3, 10, 11] [1] (by kernel_rfl) (by kernel_rfl))
  · refine AW.cond_f rfl b6 ?_
    refine AW.exit ?_
    refine thenQ_exit ?_
    refine loopQ_exit ?_
    refine blockQ_exit ?_
    refine thenQ_normal ?_
    refine AW.seq (AW.rA ⟨[(2, (.v (.one (.arr 1))))], [(1, (.arr false x5.length 1 (gl (csF .f32) x5)))]⟩ (T2 Tt) [] [2] [1] ⟨tr, tr, tr⟩ (thenQ_normal ?_))
    refine AW.ret ?_
    replace h := some_eq h
    subst h
    exact ⟨.inr rfl, retOK_of [(.one (.arr 1))] (by kernel_rfl) ⟨rfl, tr⟩ (of_decide_eq_true (by kernel_rfl))⟩

/-! math.Float64frombits -/
def math_Float64frombits (_K : Nat) (a0 : Int) : Option (F64) :=
  Fl.ofBits .f64 a0

theorem ok_math_Float64frombits (K : Nat) (a0 : Int) (o : F64) (h : math_Float64frombits K a0 = some o) : CallOK Try.prog 54 [.one (.int .u64 a0)] [.one (.flt .f64 o.bits)] :=
  hand_ofBits (e := Extern.MathFloatBits.float64frombits) Try.func54 (by kernel_rfl) (by kernel_rfl) (by kernel_rfl) (by kernel_rfl) (fun _ _ => rfl) a0 o h

/-! math.Abs -/
def math_Abs (_K : Nat) (a0 : F64) : Option (F64) :=
  some a0.abs

theorem ok_math_Abs (K : Nat) (a0 : F64) (o : F64) (h : math_Abs K a0 = some o) : CallOK Try.prog 45 [.one (.flt .f64 a0.bits)] [.one (.flt .f64 o.bits)] := by
  refine callOK_of_AW Try.func45 rfl (by kernel_rfl) (Nat.le_of_ble_eq_true (by kernel_rfl)) ?_
  intro w0
  replace h := some_eq h
  subst h
  refine AW.seq (AW.rA ⟨[(0, (vc (.flt .f64 a0.bits)))], []⟩ (Tt ∧ Tt) [] [0] [] ⟨tr, tr⟩ (thenQ_normal ?_))
  refine AW.seq ?_
  refine AW.rawA (i := .u64) (f := 49) (d := 4) (k := .f64) (c := a0.bits) (s1 := ⟨[(3, (vc (.flt .f64 a0.bits))), (0, (vc (.flt .f64 a0.bits)))], []⟩) (ob := Tt ∧ Tt) 1 [.no] (by kernel_rfl) ⟨tr, tr⟩ (e := Extern.MathFloatBits.float64bits) Try.func49 (by kernel_rfl) (by kernel_rfl) (by kernel_rfl) (by kernel_rfl) (fun _ _ => rfl) ?_
  intro b hb hc
  refine ⟨[.no, .call [.one (.int .u64 (bits .andNot .u64 (b : Int) (9223372036854775808 : Int)))] [.one (.flt .f64 a0.abs.bits)] [[.view]]], ⟨[(2, (vc (.flt .f64 a0.abs.bits))), (6, (vc (.flt .f64 a0.abs.bits))), (5, (vc (.int .u64 (bits .andNot .u64 (b : Int) (9223372036854775808 : Int))))), (4, (vc (.int .u64 (b : Int)))), (3, (vc (.flt .f64 a0.bits))), (0, (vc (.flt .f64 a0.bits)))], []⟩, Tt ∧ (((Eqc (.int .u64 (bits .andNot .u64 (b : Int) (9223372036854775808 : Int)))) ∧ Tt) ∧ CallOK Try.prog 54 [.one (.int .u64 (bits .andNot .u64 (b : Int) (9223372036854775808 : Int)))] [.one (.flt .f64 a0.abs.bits)]) ∧ Tt ∧ Tt, by kernel_rfl, ⟨tr, ⟨⟨rfl, tr⟩, ?_⟩, tr, tr⟩, ?_⟩
  · exact ok_math_Float64frombits K _ a0.abs (by rw [andNot_sign hb]; exact ofBits_abs hb a0 hc)
  · refine thenQ_normal ?_
    refine AW.ret ?_
    exact ⟨.inr rfl, retOK_of [(.one (.c (.flt .f64 a0.abs.bits)))] (by kernel_rfl) ⟨⟨rfl, tr⟩, tr⟩ (of_decide_eq_true (by kernel_rfl))⟩

/-! impl.size -/
def impl_size (K : Nat) (a0 : F32) : Option (F32) :=
  (math_Abs K (Fl.cv .f32 .f64 a0)).bind fun v1 => chk ((convBits .f64 v1.bits .f32).isSome = true) (some (Fl.cv .f64 .f32 v1))

theorem ok_impl_size (K : Nat) (a0 : F32) (o : (F32)) (h : impl_size K a0 = some o) : CallOK Try.prog 30 [.one (.flt .f32 a0.bits)] [.one (.flt .f32 o.bits)] := by
  refine callOK_of_AW Try.func30 rfl (by kernel_rfl) (Nat.le_of_ble_eq_true (by kernel_rfl)) ?_
  intro w0
  unfold impl_size at h
  refine AW.seq (AW.rA ⟨[(0, (vc (.flt .f32 a0.bits)))], []⟩ (Tt ∧ Tt) [] [0] [] ⟨tr, tr⟩ (thenQ_normal ?_))
  refine AW.seq ?_
  obtain ⟨v1, e2, h⟩ := bind_some h
  obtain ⟨c3, h⟩ := chk_some h
  refine AW.rA ⟨[(2, (vc (.flt .f32 (Fl.cv .f64 .f32 v1).bits)))], []⟩ (Tt ∧ ((convBits .f32 a0.bits .f64).isSome = true) ∧ (((Eqc (.flt .f64 (Fl.cv .f32 .f64 a0).bits)) ∧ Tt) ∧ CallOK Try.prog 45 [.one (.flt .f64 (Fl.cv .f32 .f64 a0).bits)] [.one (.flt .f64 v1.bits)]) ∧ ((convBits .f64 v1.bits .f32).isSome = true) ∧ Tt ∧ Tt) [.no, .no, .call [.one (.flt .f64 (Fl.cv .f32 .f64 a0).bits)] [.one (.flt .f64 v1.bits)] [[.view]]] [2] [] ⟨tr, cv_wide a0, ⟨⟨rfl, tr⟩, ok_math_Abs K (Fl.cv .f32 .f64 a0) v1 e2⟩, c3, tr, tr⟩ ?_
  refine thenQ_normal ?_
  refine AW.ret ?_
  replace h := some_eq h
  subst h
  exact ⟨.inr rfl, retOK_of [(.one (.c (.flt .f32 (Fl.cv .f64 .f32 v1).bits)))] (by kernel_rfl) ⟨⟨rfl, tr⟩, tr⟩ (of_decide_eq_true (by kernel_rfl))⟩

/-! impl.greater -/
def impl_greater (_K : Nat) (a0 : F32) (a1 : F32) : Option (F32) :=
  ite2 ((a1.gt a0)) (some a1) (some a0)

theorem ok_impl_greater (K : Nat) (a0 : F32) (a1 : F32) (o : (F32)) (h : impl_greater K a0 a1 = some o) : CallOK Try.prog 29 [.one (.flt .f32 a0.bits), .one (.flt .f32 a1.bits)] [.one (.flt .f32 o.bits)] := by
  refine callOK_of_AW Try.func29 rfl (by kernel_rfl) (Nat.le_of_ble_eq_true (by kernel_rfl)) ?_
  intro w0
  unfold impl_greater at h
  refine AW.seq (AW.rA ⟨[(0, (vc (.flt .f32 a0.bits))), (1, (vc (.flt .f32 a1.bits)))], []⟩ (Tt ∧ Tt) [] [0, 1] [] ⟨tr, tr⟩ (thenQ_normal ?_))
  refine AW.seq ?_
  refine AW.seq (AW.rA ⟨[(0, (vc (.flt .f32 a0.bits))), (1, (vc (.flt .f32 a1.bits))), (7, (vc (.bool (a1.gt a0))))], []⟩ (Tt ∧ T2 Tt) [] [0, 1, 7] [] ⟨tr, tr, tr, tr⟩ (thenQ_normal ?_))
  rcases ite2_cases h with ⟨b1, h⟩ | ⟨b1, h⟩
  · refine AW.cond_t rfl b1 ?_
    refine AW.seq (AW.rA ⟨[(4, (vc (.flt .f32 a1.bits)))], []⟩ (T2 Tt) [] [4] [] ⟨tr, tr, tr⟩ (thenQ_normal ?_))
    refine AW.ret ?_
    refine thenQ_ret ?_
    replace h := some_eq h
    subst h
    exact ⟨.inr rfl, retOK_of [(.one (.c (.flt .f32 a1.bits)))] (by kernel_rfl) ⟨⟨rfl, tr⟩, tr⟩ (of_decide_eq_true (by kernel_rfl))⟩
  · refine AW.cond_f rfl b1 ?_
    refine AW.skip ?_
    refine thenQ_normal ?_
    refine AW.seq (AW.rA ⟨[(4, (vc (.flt .f32 a0.bits)))], []⟩ (T2 Tt) [] [4] [] ⟨tr, tr, tr⟩ (thenQ_normal ?_))
    refine AW.ret ?_
    replace h := some_eq h
    subst h
    exact ⟨.inr rfl, retOK_of [(.one (.c (.flt .f32 a0.bits)))] (by kernel_rfl) ⟨⟨rfl, tr⟩, tr⟩ (of_decide_eq_true (by kernel_rfl))⟩

/-! impl.StretchOf -/
def impl_StretchOf_l1 (K : Nat) (a0 : String) (v4 : ((List F32))) : Nat → F32 → Int → Option (F32 × Bool)
  | 0, _, _ => none
  | k + 1, x8, x9 => ite2 ((decide (x9 < (v4.length : Int)))) (chk (0 ≤ x9 ∧ x9 < (v4.length : Int)) (chk (0 ≤ x9 ∧ x9 < (a0.Lengths.length : Int)) ((impl_size K ((v4.getD x9.toNat default).sub (a0.Lengths.getD x9.toNat default))).bind fun v13 => (impl_greater K x8 v13).bind fun v15 => impl_StretchOf_l1 K a0 v4 k v15 (IntKind.i64.wrap (x9 + (1 : Int)))))) (some (x8, true))

def impl_StretchOf (K : Nat) (a0 : String) : Option (F32 × Bool) :=
  (impl_ValidString K a0).bind fun v1 => ite2 ((!v1)) (some ((Fl.mk (k := .f32) 0 (by decide)), false)) ((impl_distances K a0.Points).bind fun v4 => impl_StretchOf_l1 K a0 v4 K (Fl.mk (k := .f32) 0 (by decide)) (0 : Int))

theorem ok_impl_StretchOf (K : Nat) (a0 : String) (o : (F32 × Bool)) (h : impl_StretchOf K a0 = some o) : CallOK Try.prog 14 [.agg (cs_String a0)] [.one (.flt .f32 o.1.bits), .one (.bool o.2)] := by
  refine callOK_of_AW Try.func14 rfl (by kernel_rfl) (Nat.le_of_ble_eq_true (by kernel_rfl)) ?_
  intro w0
  unfold impl_StretchOf at h
  refine AW.seq (AW.rA ⟨[(1, (vp 1 0))], [(1, (.box [(.c (sl 3 cs_Vector a0.Points)), (.c (sl 3 cs_Vector a0.Before)), (.c (sl 1 csB a0.Fixed)), (.c (sl 1 (csF .f32) a0.Lengths)), (.c (.flt .f32 a0.Fall.X.bits)), (.c (.flt .f32 a0.Fall.Y.bits)), (.c (.flt .f32 a0.Fall.Z.bits)), (.c (.flt .f32 a0.Damp.bits)), (.c (.int .i64 a0.Passes))]))]⟩ (Tt ∧ T2 Tt) [.box 1] [1] [1] ⟨tr, tr, tr, tr⟩ (thenQ_normal ?_))
  refine AW.seq ?_
  refine AW.seq ?_
  obtain ⟨v1, e2, h⟩ := bind_some h
  refine AW.rA ⟨[(1, (vp 1 0)), (9, (vc (.bool (!v1))))], [(1, (.box [(.c (sl 3 cs_Vector a0.Points)), (.c (sl 3 cs_Vector a0.Before)), (.c (sl 1 csB a0.Fixed)), (.c (sl 1 (csF .f32) a0.Lengths)), (.c (.flt .f32 a0.Fall.X.bits)), (.c (.flt .f32 a0.Fall.Y.bits)), (.c (.flt .f32 a0.Fall.Z.bits)), (.c (.flt .f32 a0.Damp.bits)), (.c (.int .i64 a0.Passes))]))]⟩ (Tt ∧ ((((Eqc (sl 3 cs_Vector a0.Points)) ∧ (Eqc (sl 3 cs_Vector a0.Before)) ∧ (Eqc (sl 1 csB a0.Fixed)) ∧ (Eqc (sl 1 (csF .f32) a0.Lengths)) ∧ (Eqc (.flt .f32 a0.Fall.X.bits)) ∧ (Eqc (.flt .f32 a0.Fall.Y.bits)) ∧ (Eqc (.flt .f32 a0.Fall.Z.bits)) ∧ (Eqc (.flt .f32 a0.Damp.bits)) ∧ (Eqc (.int .i64 a0.Passes)) ∧ Tt) ∧ Tt) ∧ CallOK Try.prog 8 [.agg (cs_String a0)] [.one (.bool v1)]) ∧ Tt ∧ Tt) [.no, .call [.agg (cs_String a0)] [.one (.bool v1)] [[.view]]] [1, 9] [1] ⟨tr, ⟨⟨⟨rfl, rfl, rfl, rfl, rfl, rfl, rfl, rfl, rfl, tr⟩, tr⟩, ok_impl_ValidString K a0 v1 e2⟩, tr, tr⟩ ?_
  refine thenQ_normal ?_
  rcases ite2_cases h with ⟨b3, h⟩ | ⟨b3, h⟩
  · refine AW.cond_t rfl b3 ?_
    refine AW.seq (AW.rA ⟨[(2, (vc (.flt .f32 (Fl.mk (k := .f32) 0 (by decide)).bits))), (3, (vc (.bool false)))], []⟩ (T2 Tt) [] [2, 3] [] ⟨tr, tr, tr⟩ (thenQ_normal ?_))
    refine AW.ret ?_
    refine thenQ_ret ?_
    replace h := some_eq h
    subst h
    exact ⟨.inr rfl, retOK_of [(.one (.c (.flt .f32 (Fl.mk (k := .f32) 0 (by decide)).bits))), (.one (.c (.bool false)))] (by kernel_rfl) ⟨⟨rfl, tr⟩, ⟨rfl, tr⟩, tr⟩ (of_decide_eq_true (by kernel_rfl))⟩
  · refine AW.cond_f rfl b3 ?_
    refine AW.skip ?_
    refine thenQ_normal ?_
    refine AW.seq (AW.rA ⟨[(1, (vp 1 0)), (4, (vc (.flt .f32 (Fl.mk (k := .f32) 0 (by decide)).bits)))], [(1, (.box [(.c (sl 3 cs_Vector a0.Points)), (.c (sl 3 cs_Vector a0.Before)), (.c (sl 1 csB a0.Fixed)), (.c (sl 1 (csF .f32) a0.Lengths)), (.c (.flt .f32 a0.Fall.X.bits)), (.c (.flt .f32 a0.Fall.Y.bits)), (.c (.flt .f32 a0.Fall.Z.bits)), (.c (.flt .f32 a0.Damp.bits)), (.c (.int .i64 a0.Passes))]))]⟩ (Tt ∧ Tt) [] [1, 4] [1] ⟨tr, tr⟩ (thenQ_normal ?_))
    refine AW.seq ?_
    refine AW.seq ?_
    obtain ⟨v4, e5, h⟩ := bind_some h
    refine AW.rA ⟨[(1, (vp 1 0)), (4, (vc (.flt .f32 (Fl.mk (k := .f32) 0 (by decide)).bits))), (12, (.v (.one (.lst 2 v4.length 1 (gl (csF .f32) v4))))), (13, (vc (.int .i64 (v4.length : Int)))), (14, (vc (.int .i64 (0 : Int))))], [(1, (.box [(.c (sl 3 cs_Vector a0.Points)), (.c (sl 3 cs_Vector a0.Before)), (.c (sl 1 csB a0.Fixed)), (.c (sl 1 (csF .f32) a0.Lengths)), (.c (.flt .f32 a0.Fall.X.bits)), (.c (.flt .f32 a0.Fall.Y.bits)), (.c (.flt .f32 a0.Fall.Z.bits)), (.c (.flt .f32 a0.Damp.bits)), (.c (.int .i64 a0.Passes))])), (2, (.lst v4.length 1 (gl (csF .f32) v4)))]⟩ (T2 ((((Eqc (sl 3 cs_Vector a0.Points)) ∧ Tt) ∧ CallOK Try.prog 28 [.one (sl 3 cs_Vector a0.Points)] [.one (sl 1 (csF .f32) v4)]) ∧ T2 Tt)) [.no, .no, .call [.one (sl 3 cs_Vector a0.Points)] [.one (sl 1 (csF .f32) v4)] [[.lst 2]]] [1, 4, 12, 13, 14] [1, 2] ⟨tr, tr, ⟨⟨rfl, tr⟩, ok_impl_distances K a0.Points v4 e5⟩, tr, tr, tr⟩ ?_
    refine thenQ_normal ?_
    refine AW.block ?_
    refine AW.loopQ (σ := Nat × F32 × Int) (fun p => ⟨[(1, (vp 1 0)), (4, (vc (.flt .f32 p.2.1.bits))), (12, (.v (.one (.lst 2 v4.length 1 (gl (csF .f32) v4))))), (13, (vc (.int .i64 (v4.length : Int)))), (14, (vc (.int .i64 p.2.2)))], [(1, (.box [(.c (sl 3 cs_Vector a0.Points)), (.c (sl 3 cs_Vector a0.Before)), (.c (sl 1 csB a0.Fixed)), (.c (sl 1 (csF .f32) a0.Lengths)), (.c (.flt .f32 a0.Fall.X.bits)), (.c (.flt .f32 a0.Fall.Y.bits)), (.c (.flt .f32 a0.Fall.Z.bits)), (.c (.flt .f32 a0.Damp.bits)), (.c (.int .i64 a0.Passes))])), (2, (.lst v4.length 1 (gl (csF .f32) v4)))]⟩) (fun p => impl_StretchOf_l1 K a0 v4 p.1 p.2.1 p.2.2 = some o) (fun p => p.1) (K, (Fl.mk (k := .f32) 0 (by decide)), (0 : Int)) h ?_
    clear h
    rintro ⟨k, x8, x9⟩ h
    replace h : impl_StretchOf_l1 K a0 v4 k x8 x9 = some o := h
    show AW _ _ (⟨[(1, (vp 1 0)), (4, (vc (.flt .f32 x8.bits))), (12, (.v (.one (.lst 2 v4.length 1 (gl (csF .f32) v4))))), (13, (vc (.int .i64 (v4.length : Int)))), (14, (vc (.int .i64 x9)))], [(1, (.box [(.c (sl 3 cs_Vector a0.Points)), (.c (sl 3 cs_Vector a0.Before)), (.c (sl 1 csB a0.Fixed)), (.c (sl 1 (csF .f32) a0.Lengths)), (.c (.flt .f32 a0.Fall.X.bits)), (.c (.flt .f32 a0.Fall.Y.bits)), (.c (.flt .f32 a0.Fall.Z.bits)), (.c (.flt .f32 a0.Damp.bits)), (.c (.int .i64 a0.Passes))])), (2, (.lst v4.length 1 (gl (csF .f32) v4)))]⟩ : St) _
    obtain _ | k := k
    · rw [impl_StretchOf_l1] at h; cases h
    rw [impl_StretchOf_l1] at h
    refine AW.seq (AW.rA ⟨[(1, (vp 1 0)), (4, (vc (.flt .f32 x8.bits))), (12, (.v (.one (.lst 2 v4.length 1 (gl (csF .f32) v4))))), (13, (vc (.int .i64 (v4.length : Int)))), (14, (vc (.int .i64 x9))), (15, (vc (.bool (decide (x9 < (v4.length : Int))))))], [(1, (.box [(.c (sl 3 cs_Vector a0.Points)), (.c (sl 3 cs_Vector a0.Before)), (.c (sl 1 csB a0.Fixed)), (.c (sl 1 (csF .f32) a0.Lengths)), (.c (.flt .f32 a0.Fall.X.bits)), (.c (.flt .f32 a0.Fall.Y.bits)), (.c (.flt .f32 a0.Fall.Z.bits)), (.c (.flt .f32 a0.Damp.bits)), (.c (.int .i64 a0.Passes))])), (2, (.lst v4.length 1 (gl (csF .f32) v4)))]⟩ (Tt ∧ Tt) [] [1, 4, 12, 13, 14, 15] [1, 2] ⟨tr, tr⟩ (thenQ_normal ?_))
    refine AW.seq ?_
    rcases ite2_cases h with ⟨b10, h⟩ | ⟨b10, h⟩
    · refine AW.cond_t rfl b10 ?_
      refine AW.skip ?_
      refine thenQ_normal ?_
      refine AW.seq ?_
      refine AW.block ?_
      refine AW.seq ?_
      obtain ⟨c11, h⟩ := chk_some h
      refine AW.rA ⟨[(1, (vp 1 0)), (4, (vc (.flt .f32 x8.bits))), (5, (vc (.int .i64 x9))), (6, (vc (.flt .f32 (v4.getD x9.toNat default).bits))), (12, (.v (.one (.lst 2 v4.length 1 (gl (csF .f32) v4))))), (13, (vc (.int .i64 (v4.length : Int)))), (14, (vc (.int .i64 x9)))], [(1, (.box [(.c (sl 3 cs_Vector a0.Points)), (.c (sl 3 cs_Vector a0.Before)), (.c (sl 1 csB a0.Fixed)), (.c (sl 1 (csF .f32) a0.Lengths)), (.c (.flt .f32 a0.Fall.X.bits)), (.c (.flt .f32 a0.Fall.Y.bits)), (.c (.flt .f32 a0.Fall.Z.bits)), (.c (.flt .f32 a0.Damp.bits)), (.c (.int .i64 a0.Passes))])), (2, (.lst v4.length 1 (gl (csF .f32) v4)))]⟩ (Tt ∧ (0 ≤ x9 ∧ x9 < (v4.length : Int)) ∧ Tt ∧ T2 Tt) [] [1, 4, 5, 6, 12, 13, 14] [1, 2] ⟨tr, c11, tr, tr, tr, tr⟩ ?_
      refine thenQ_normal ?_
      obtain ⟨c12, h⟩ := chk_some h
      obtain ⟨v13, e14, h⟩ := bind_some h
      obtain ⟨v15, e16, h⟩ := bind_some h
      refine AW.rA ⟨[(1, (vp 1 0)), (4, (vc (.flt .f32 v15.bits))), (12, (.v (.one (.lst 2 v4.length 1 (gl (csF .f32) v4))))), (13, (vc (.int .i64 (v4.length : Int)))), (14, (vc (.int .i64 x9)))], [(1, (.box [(.c (sl 3 cs_Vector a0.Points)), (.c (sl 3 cs_Vector a0.Before)), (.c (sl 1 csB a0.Fixed)), (.c (sl 1 (csF .f32) a0.Lengths)), (.c (.flt .f32 a0.Fall.X.bits)), (.c (.flt .f32 a0.Fall.Y.bits)), (.c (.flt .f32 a0.Fall.Z.bits)), (.c (.flt .f32 a0.Damp.bits)), (.c (.int .i64 a0.Passes))])), (2, (.lst v4.length 1 (gl (csF .f32) v4)))]⟩ (Tt ∧ T4 ((0 ≤ x9 ∧ x9 < (a0.Lengths.length : Int)) ∧ T2 ((((Eqc (.flt .f32 ((v4.getD x9.toNat default).sub (a0.Lengths.getD x9.toNat default)).bits)) ∧ Tt) ∧ CallOK Try.prog 30 [.one (.flt .f32 ((v4.getD x9.toNat default).sub (a0.Lengths.getD x9.toNat default)).bits)] [.one (.flt .f32 v13.bits)]) ∧ (((Eqc (.flt .f32 x8.bits)) ∧ (Eqc (.flt .f32 v13.bits)) ∧ Tt) ∧ CallOK Try.prog 29 [.one (.flt .f32 x8.bits), .one (.flt .f32 v13.bits)] [.one (.flt .f32 v15.bits)]) ∧ Tt ∧ Tt))) [.no, .no, .no, .no, .no, .no, .no, .no, .call [.one (.flt .f32 ((v4.getD x9.toNat default).sub (a0.Lengths.getD x9.toNat default)).bits)] [.one (.flt .f32 v13.bits)] [[.view]], .call [.one (.flt .f32 x8.bits), .one (.flt .f32 v13.bits)] [.one (.flt .f32 v15.bits)] [[.view]]] [1, 4, 12, 13, 14] [1, 2] ⟨tr, tr, tr, tr, tr, c12, tr, tr, ⟨⟨rfl, tr⟩, ok_impl_size K ((v4.getD x9.toNat default).sub (a0.Lengths.getD x9.toNat default)) v13 e14⟩, ⟨⟨rfl, rfl, tr⟩, ok_impl_greater K x8 v13 v15 e16⟩, tr, tr⟩ ?_
      refine blockQ_normal ?_
      refine thenQ_normal ?_
      refine AW.rA ⟨[(1, (vp 1 0)), (4, (vc (.flt .f32 v15.bits))), (12, (.v (.one (.lst 2 v4.length 1 (gl (csF .f32) v4))))), (13, (vc (.int .i64 (v4.length : Int)))), (14, (vc (.int .i64 (IntKind.i64.wrap (x9 + (1 : Int))))))], [(1, (.box [(.c (sl 3 cs_Vector a0.Points)), (.c (sl 3 cs_Vector a0.Before)), (.c (sl 1 csB a0.Fixed)), (.c (sl 1 (csF .f32) a0.Lengths)), (.c (.flt .f32 a0.Fall.X.bits)), (.c (.flt .f32 a0.Fall.Y.bits)), (.c (.flt .f32 a0.Fall.Z.bits)), (.c (.flt .f32 a0.Damp.bits)), (.c (.int .i64 a0.Passes))])), (2, (.lst v4.length 1 (gl (csF .f32) v4)))]⟩ (T2 Tt) [] [1, 4, 12, 13, 14] [1, 2] ⟨tr, tr, tr⟩ ?_
      exact loopQ_normal (k, v15, (IntKind.i64.wrap (x9 + (1 : Int)))) h (Nat.lt_succ_self k) (Sub.keep [1, 4, 12, 13, 14] [1, 2] (by kernel_rfl) (by kernel_rfl))
    · refine AW.cond_f rfl b10 ?_
      refine AW.exit ?_
      refine thenQ_exit ?_
      refine loopQ_exit ?_
      refine blockQ_exit ?_
      refine thenQ_normal ?_
      refine AW.seq (AW.rA ⟨[(2, (vc (.flt .f32 x8.bits))), (3, (vc (.bool true)))], []⟩ (Tt ∧ T2 Tt) [] [2, 3] [] ⟨tr, tr, tr, tr⟩ (thenQ_normal ?_))
      refine AW.ret ?_
      replace h := some_eq h
      subst h
      exact ⟨.inr rfl, retOK_of [(.one (.c (.flt .f32 x8.bits))), (.one (.c (.bool true)))] (by kernel_rfl) ⟨⟨rfl, tr⟩, ⟨rfl, tr⟩, tr⟩ (of_decide_eq_true (by kernel_rfl))⟩

end
end Go.Fw
