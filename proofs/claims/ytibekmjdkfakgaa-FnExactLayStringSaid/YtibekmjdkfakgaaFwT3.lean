/- Functions of the program: what each computes, and that it computes just that. -/
import Derived.Test.YtibekmjdkfakgaaFwTy
import Derived.Test.YtibekmjdkfakgaaFwH
import Derived.Test.YtibekmjdkfakgaaFwV
import Derived.Test.YtibekmjdkfakgaaFwT31
import Derived.Test.YtibekmjdkfakgaaProg
import Derived.KernelRfl
namespace Go.Fw
open Go Go.Proofs
noncomputable section
set_option maxRecDepth 10000

/-! laws.markFloat32S -/
def laws_markFloat32S_l1 (K : Nat) (a0 : (List F32)) : Nat → Int → Int → (List F32) → Option (Int × (List F32))
  | 0, _, _, _ => none
  | k + 1, x4, x5, x6 => ite2 ((decide (x5 < (x6.length : Int)))) (chk (0 ≤ x5 ∧ x5 < (x6.length : Int)) (laws_markFloat32S_l1 K a0 k (IntKind.i64.wrap (x4 + (1 : Int))) (IntKind.i64.wrap (x5 + (1 : Int))) (x6.set x5.toNat (Fl.ofInt .f32 x4)))) (chk (x6.length = a0.length) (some (x4, x6)))

def laws_markFloat32S (K : Nat) (a0 : (List F32)) (a1 : Int) : Option (Int × (List F32)) :=
  laws_markFloat32S_l1 K a0 K a1 (0 : Int) a0

theorem ok_laws_markFloat32S (K : Nat) (a0 : (List F32)) (a1 : Int) (o : (Int × (List F32))) (h : laws_markFloat32S K a0 a1 = some o) : MutOK Try.prog 111 [(.one (.mu (sl 1 (csF .f32) a0) (sl 1 (csF .f32) o.2))), (.one (.ro (.int .i64 a1)))] [.one (.int .i64 o.1)] := by
  refine mutOK_of_AW 1 Try.func111 rfl (by kernel_rfl) (Nat.le_of_ble_eq_true (by kernel_rfl)) (by kernel_rfl) (by kernel_rfl) ?_
  intro w0 K0 v0 s0
  unfold laws_markFloat32S at h
  refine AW.seq ?_
  refine AW.regionA [] [0, 1] [0] (s' := ⟨[(0, (.v (.one (.arr 0)))), (1, (.v (.one (.c (.int .i64 a1)))))], [(0, (.arr true a0.length 1 (gl (csF .f32) a0)))]⟩) (ob := True ∧ True) (by kernel_rfl) ⟨trivial, trivial⟩ ?_
  refine thenQ_normal ?_
  refine AW.seq ?_
  refine AW.seq ?_
  refine AW.regionA [] [0, 1, 5] [0] (s' := ⟨[(0, (.v (.one (.arr 0)))), (1, (.v (.one (.c (.int .i64 a1))))), (5, (.v (.one (.c (.int .i64 (0 : Int))))))], [(0, (.arr true a0.length 1 (gl (csF .f32) a0)))]⟩) (ob := True ∧ True) (by kernel_rfl) ⟨trivial, trivial⟩ ?_
  refine thenQ_normal ?_
  refine AW.block ?_
  refine AW.loopQ (σ := Nat × Int × Int × (List F32)) (fun p => ⟨[(0, (.v (.one (.arr 0)))), (1, (.v (.one (.c (.int .i64 p.2.1))))), (5, (.v (.one (.c (.int .i64 p.2.2.1)))))], [(0, (.arr true p.2.2.2.length 1 (gl (csF .f32) p.2.2.2)))]⟩) (fun p => laws_markFloat32S_l1 K a0 p.1 p.2.1 p.2.2.1 p.2.2.2 = some o) (fun p => p.1) (K, a1, (0 : Int), a0) h ?_
  clear h
  rintro ⟨k, x4, x5, x6⟩ h
  replace h : laws_markFloat32S_l1 K a0 k x4 x5 x6 = some o := h
  show AW _ _ (⟨[(0, (.v (.one (.arr 0)))), (1, (.v (.one (.c (.int .i64 x4))))), (5, (.v (.one (.c (.int .i64 x5)))))], [(0, (.arr true x6.length 1 (gl (csF .f32) x6)))]⟩ : St) _
  obtain _ | k := k
  · rw [laws_markFloat32S_l1] at h; cases h
  rw [laws_markFloat32S_l1] at h
  refine AW.seq ?_
  refine AW.seq ?_
  refine AW.regionA [] [0, 1, 5, 9] [0] (s' := ⟨[(0, (.v (.one (.arr 0)))), (1, (.v (.one (.c (.int .i64 x4))))), (5, (.v (.one (.c (.int .i64 x5))))), (9, (.v (.one (.c (.bool (decide (x5 < (x6.length : Int))))))))], [(0, (.arr true x6.length 1 (gl (csF .f32) x6)))]⟩) (ob := True ∧ True ∧ True ∧ True ∧ True) (by kernel_rfl) ⟨trivial, trivial, trivial, trivial, trivial⟩ ?_
  refine thenQ_normal ?_
  rcases ite2_cases h with ⟨b7, h⟩ | ⟨b7, h⟩
  · refine AW.cond_t rfl b7 ?_
    refine AW.skip ?_
    refine thenQ_normal ?_
    refine AW.seq ?_
    refine AW.block ?_
    refine AW.seq ?_
    obtain ⟨c8, h⟩ := chk_some h
    refine AW.regionA [.no, .no, .no, .no, .no, .set (x6.set x5.toNat (Fl.ofInt .f32 x4)).length (gl (csF .f32) (x6.set x5.toNat (Fl.ofInt .f32 x4))) ((List.range 1).map fun j => ((csF .f32) (Fl.ofInt .f32 x4)).getD (0 + j) .nilptr)] [0, 1, 5] [0] (s' := ⟨[(0, (.v (.one (.arr 0)))), (1, (.v (.one (.c (.int .i64 x4))))), (5, (.v (.one (.c (.int .i64 x5)))))], [(0, (.arr true (x6.set x5.toNat (Fl.ofInt .f32 x4)).length 1 (gl (csF .f32) (x6.set x5.toNat (Fl.ofInt .f32 x4)))))]⟩) (ob := True ∧ True ∧ True ∧ True ∧ (0 ≤ x5 ∧ x5 < (x6.length : Int)) ∧ ((x6.set x5.toNat (Fl.ofInt .f32 x4)).length = x6.length ∧ SetOb x6.length 1 x5.toNat 0 1 (gl (csF .f32) x6) (gl (csF .f32) (x6.set x5.toNat (Fl.ofInt .f32 x4))) ∧ ((List.range 1).map fun j => ((csF .f32) (Fl.ofInt .f32 x4)).getD (0 + j) .nilptr) = ((List.range 1).map fun j => gl (csF .f32) (x6.set x5.toNat (Fl.ofInt .f32 x4)) x5.toNat (0 + j)) ∧ ((((.flt .f32 (Fl.ofInt .f32 x4).bits) : C) = (.flt .f32 (Fl.ofInt .f32 x4).bits) ∧ True) ∧ True) ∧ (true = true → ∀ j, j < 1 → isSeq (gl (csF .f32) x6 x5.toNat (0 + j)) = false ∧ isSeq (gl (csF .f32) (x6.set x5.toNat (Fl.ofInt .f32 x4)) x5.toNat (0 + j)) = false)) ∧ True) (by kernel_rfl) ⟨trivial, trivial, trivial, trivial, c8, ⟨List.length_set, gl_set, (gl_atp (lt_of_bound c8)).symm, ⟨⟨rfl, trivial⟩, trivial⟩, (fun _ j hj => match j, hj with | 0, _ => ⟨rfl, rfl⟩)⟩, trivial⟩ ?_
    refine thenQ_normal ?_
    refine AW.regionA [] [0, 1, 5] [0] (s' := ⟨[(0, (.v (.one (.arr 0)))), (1, (.v (.one (.c (.int .i64 (IntKind.i64.wrap (x4 + (1 : Int)))))))), (5, (.v (.one (.c (.int .i64 x5)))))], [(0, (.arr true (x6.set x5.toNat (Fl.ofInt .f32 x4)).length 1 (gl (csF .f32) (x6.set x5.toNat (Fl.ofInt .f32 x4)))))]⟩) (ob := True ∧ True ∧ True ∧ True) (by kernel_rfl) ⟨trivial, trivial, trivial, trivial⟩ ?_
    refine blockQ_normal ?_
    refine thenQ_normal ?_
    refine AW.regionA [] [0, 1, 5] [0] (s' := ⟨[(0, (.v (.one (.arr 0)))), (1, (.v (.one (.c (.int .i64 (IntKind.i64.wrap (x4 + (1 : Int)))))))), (5, (.v (.one (.c (.int .i64 (IntKind.i64.wrap (x5 + (1 : Int))))))))], [(0, (.arr true (x6.set x5.toNat (Fl.ofInt .f32 x4)).length 1 (gl (csF .f32) (x6.set x5.toNat (Fl.ofInt .f32 x4)))))]⟩) (ob := True ∧ True ∧ True ∧ True) (by kernel_rfl) ⟨trivial, trivial, trivial, trivial⟩ ?_
    exact loopQ_normal (k, (IntKind.i64.wrap (x4 + (1 : Int))), (IntKind.i64.wrap (x5 + (1 : Int))), (x6.set x5.toNat (Fl.ofInt .f32 x4))) h (Nat.lt_succ_self k) (Sub.keep [0, 1, 5] [0] (by kernel_rfl) (by kernel_rfl))
  · refine AW.cond_f rfl b7 ?_
    refine AW.exit ?_
    refine thenQ_exit ?_
    refine loopQ_exit ?_
    refine blockQ_exit ?_
    refine thenQ_normal ?_
    refine AW.seq ?_
    refine AW.regionA [] [0, 1, 4] [0] (s' := ⟨[(0, (.v (.one (.arr 0)))), (1, (.v (.one (.c (.int .i64 x4))))), (4, (.v (.one (.c (.int .i64 x4)))))], [(0, (.arr true x6.length 1 (gl (csF .f32) x6)))]⟩) (ob := True ∧ True ∧ True) (by kernel_rfl) ⟨trivial, trivial, trivial⟩ ?_
    refine thenQ_normal ?_
    refine AW.ret ?_
    obtain ⟨c9, h⟩ := chk_some h
    replace h := some_eq h
    subst h
    exact ⟨.inr rfl, retOK_of [(.one (.c (.int .i64 x4)))] (by kernel_rfl) ⟨⟨rfl, trivial⟩, trivial⟩ (of_decide_eq_true (by kernel_rfl)), by kernel_rfl, ⟨⟨c9, rfl, rfl⟩, trivial, trivial⟩⟩

/-! laws.markString -/
def laws_markString (K : Nat) (a0 : String) (a1 : Int) : Option (Int × (List Vector) × (List Vector) × (List Bool) × (List F32)) :=
  (laws_markVectorS K a0.Points a1).bind fun v1 => chk (v1.2.length = a0.Points.length) ((laws_markVectorS K a0.Before v1.1).bind fun v4 => chk (v4.2.length = a0.Before.length) ((laws_markBoolS K a0.Fixed v4.1).bind fun v7 => chk (v7.2.length = a0.Fixed.length) ((laws_markFloat32S K a0.Lengths v7.1).bind fun v10 => chk (v10.2.length = a0.Lengths.length) (chk (v1.2.length = a0.Points.length) (chk (v4.2.length = a0.Before.length) (chk (v7.2.length = a0.Fixed.length) (chk (v10.2.length = a0.Lengths.length) (some (v10.1, v1.2, v4.2, v7.2, v10.2)))))))))

theorem ok_laws_markString (K : Nat) (a0 : String) (a1 : Int) (o : (Int × (List Vector) × (List Vector) × (List Bool) × (List F32))) (h : laws_markString K a0 a1 = some o) : MutOK Try.prog 20 [(.agg [(.mu (sl 3 cs_Vector a0.Points) (sl 3 cs_Vector o.2.1)), (.mu (sl 3 cs_Vector a0.Before) (sl 3 cs_Vector o.2.2.1)), (.mu (sl 1 csB a0.Fixed) (sl 1 csB o.2.2.2.1)), (.mu (sl 1 (csF .f32) a0.Lengths) (sl 1 (csF .f32) o.2.2.2.2)), (.ro (.flt .f32 a0.Fall.X.bits)), (.ro (.flt .f32 a0.Fall.Y.bits)), (.ro (.flt .f32 a0.Fall.Z.bits)), (.ro (.flt .f32 a0.Damp.bits)), (.ro (.int .i64 a0.Passes))]), (.one (.ro (.int .i64 a1)))] [.one (.int .i64 o.1)] := by
  refine mutOK_of_AW 4 Try.func20 rfl (by kernel_rfl) (Nat.le_of_ble_eq_true (by kernel_rfl)) (by kernel_rfl) (by kernel_rfl) ?_
  intro w0 K0 v0 s0
  unfold laws_markString at h
  refine AW.seq ?_
  refine AW.regionA [.box 4] [0, 1, 2] [0, 1, 2, 3, 4] (s' := ⟨[(0, (.v (.agg [(.arr 0), (.arr 1), (.arr 2), (.arr 3), (.c (.flt .f32 a0.Fall.X.bits)), (.c (.flt .f32 a0.Fall.Y.bits)), (.c (.flt .f32 a0.Fall.Z.bits)), (.c (.flt .f32 a0.Damp.bits)), (.c (.int .i64 a0.Passes))]))), (1, (.v (.one (.c (.int .i64 a1))))), (2, (.v (.one (.ptr 4 0))))], [(0, (.arr true a0.Points.length 3 (gl cs_Vector a0.Points))), (1, (.arr true a0.Before.length 3 (gl cs_Vector a0.Before))), (2, (.arr true a0.Fixed.length 1 (gl csB a0.Fixed))), (3, (.arr true a0.Lengths.length 1 (gl (csF .f32) a0.Lengths))), (4, (.box [(.arr 0), (.arr 1), (.arr 2), (.arr 3), (.c (.flt .f32 a0.Fall.X.bits)), (.c (.flt .f32 a0.Fall.Y.bits)), (.c (.flt .f32 a0.Fall.Z.bits)), (.c (.flt .f32 a0.Damp.bits)), (.c (.int .i64 a0.Passes))]))]⟩) (ob := True ∧ True ∧ True) (by kernel_rfl) ⟨trivial, trivial, trivial⟩ ?_
  refine thenQ_normal ?_
  refine AW.seq ?_
  obtain ⟨v1, e2, h⟩ := bind_some h
  obtain ⟨c3, h⟩ := chk_some h
  refine AW.regionA [.no, .no, .no, .callM [(.one (.mu (sl 3 cs_Vector a0.Points) (sl 3 cs_Vector v1.2))), .one (.ro (.int .i64 a1))] [.one (.int .i64 v1.1)] [[.view]] none] [0, 1, 2] [0, 1, 2, 3, 4] (s' := ⟨[(0, (.v (.agg [(.arr 0), (.arr 1), (.arr 2), (.arr 3), (.c (.flt .f32 a0.Fall.X.bits)), (.c (.flt .f32 a0.Fall.Y.bits)), (.c (.flt .f32 a0.Fall.Z.bits)), (.c (.flt .f32 a0.Damp.bits)), (.c (.int .i64 a0.Passes))]))), (1, (.v (.one (.c (.int .i64 v1.1))))), (2, (.v (.one (.ptr 4 0))))], [(0, (.arr true v1.2.length 3 (gl cs_Vector v1.2))), (1, (.arr true a0.Before.length 3 (gl cs_Vector a0.Before))), (2, (.arr true a0.Fixed.length 1 (gl csB a0.Fixed))), (3, (.arr true a0.Lengths.length 1 (gl (csF .f32) a0.Lengths))), (4, (.box [(.arr 0), (.arr 1), (.arr 2), (.arr 3), (.c (.flt .f32 a0.Fall.X.bits)), (.c (.flt .f32 a0.Fall.Y.bits)), (.c (.flt .f32 a0.Fall.Z.bits)), (.c (.flt .f32 a0.Damp.bits)), (.c (.int .i64 a0.Passes))]))]⟩) (ob := True ∧ True ∧ True ∧ (((((sl 3 cs_Vector a0.Points) : C) = (sl 3 cs_Vector a0.Points) ∧ v1.2.length = a0.Points.length ∧ 3 = 3 ∧ ∀ i j, i < a0.Points.length → j < 3 → isSeq (gl cs_Vector v1.2 i j) = isSeq (gl cs_Vector a0.Points i j)) ∧ (((.int .i64 a1) : C) = (.int .i64 a1)) ∧ True) ∧ MutOK Try.prog 109 [(.one (.mu (sl 3 cs_Vector a0.Points) (sl 3 cs_Vector v1.2))), .one (.ro (.int .i64 a1))] [.one (.int .i64 v1.1)]) ∧ True ∧ True) (by kernel_rfl) ⟨trivial, trivial, trivial, ⟨⟨⟨rfl, c3, rfl, gl_seq sq_Vector⟩, rfl, trivial⟩, ok_laws_markVectorS K a0.Points a1 v1 e2⟩, trivial, trivial⟩ ?_
  refine thenQ_normal ?_
  refine AW.seq ?_
  obtain ⟨v4, e5, h⟩ := bind_some h
  obtain ⟨c6, h⟩ := chk_some h
  refine AW.regionA [.no, .no, .no, .callM [(.one (.mu (sl 3 cs_Vector a0.Before) (sl 3 cs_Vector v4.2))), .one (.ro (.int .i64 v1.1))] [.one (.int .i64 v4.1)] [[.view]] none] [0, 1, 2] [0, 1, 2, 3, 4] (s' := ⟨[(0, (.v (.agg [(.arr 0), (.arr 1), (.arr 2), (.arr 3), (.c (.flt .f32 a0.Fall.X.bits)), (.c (.flt .f32 a0.Fall.Y.bits)), (.c (.flt .f32 a0.Fall.Z.bits)), (.c (.flt .f32 a0.Damp.bits)), (.c (.int .i64 a0.Passes))]))), (1, (.v (.one (.c (.int .i64 v4.1))))), (2, (.v (.one (.ptr 4 0))))], [(0, (.arr true v1.2.length 3 (gl cs_Vector v1.2))), (1, (.arr true v4.2.length 3 (gl cs_Vector v4.2))), (2, (.arr true a0.Fixed.length 1 (gl csB a0.Fixed))), (3, (.arr true a0.Lengths.length 1 (gl (csF .f32) a0.Lengths))), (4, (.box [(.arr 0), (.arr 1), (.arr 2), (.arr 3), (.c (.flt .f32 a0.Fall.X.bits)), (.c (.flt .f32 a0.Fall.Y.bits)), (.c (.flt .f32 a0.Fall.Z.bits)), (.c (.flt .f32 a0.Damp.bits)), (.c (.int .i64 a0.Passes))]))]⟩) (ob := True ∧ True ∧ True ∧ (((((sl 3 cs_Vector a0.Before) : C) = (sl 3 cs_Vector a0.Before) ∧ v4.2.length = a0.Before.length ∧ 3 = 3 ∧ ∀ i j, i < a0.Before.length → j < 3 → isSeq (gl cs_Vector v4.2 i j) = isSeq (gl cs_Vector a0.Before i j)) ∧ (((.int .i64 v1.1) : C) = (.int .i64 v1.1)) ∧ True) ∧ MutOK Try.prog 109 [(.one (.mu (sl 3 cs_Vector a0.Before) (sl 3 cs_Vector v4.2))), .one (.ro (.int .i64 v1.1))] [.one (.int .i64 v4.1)]) ∧ True ∧ True) (by kernel_rfl) ⟨trivial, trivial, trivial, ⟨⟨⟨rfl, c6, rfl, gl_seq sq_Vector⟩, rfl, trivial⟩, ok_laws_markVectorS K a0.Before v1.1 v4 e5⟩, trivial, trivial⟩ ?_
  refine thenQ_normal ?_
  refine AW.seq ?_
  obtain ⟨v7, e8, h⟩ := bind_some h
  obtain ⟨c9, h⟩ := chk_some h
  refine AW.regionA [.no, .no, .no, .callM [(.one (.mu (sl 1 csB a0.Fixed) (sl 1 csB v7.2))), .one (.ro (.int .i64 v4.1))] [.one (.int .i64 v7.1)] [[.view]] none] [0, 1, 2] [0, 1, 2, 3, 4] (s' := ⟨[(0, (.v (.agg [(.arr 0), (.arr 1), (.arr 2), (.arr 3), (.c (.flt .f32 a0.Fall.X.bits)), (.c (.flt .f32 a0.Fall.Y.bits)), (.c (.flt .f32 a0.Fall.Z.bits)), (.c (.flt .f32 a0.Damp.bits)), (.c (.int .i64 a0.Passes))]))), (1, (.v (.one (.c (.int .i64 v7.1))))), (2, (.v (.one (.ptr 4 0))))], [(0, (.arr true v1.2.length 3 (gl cs_Vector v1.2))), (1, (.arr true v4.2.length 3 (gl cs_Vector v4.2))), (2, (.arr true v7.2.length 1 (gl csB v7.2))), (3, (.arr true a0.Lengths.length 1 (gl (csF .f32) a0.Lengths))), (4, (.box [(.arr 0), (.arr 1), (.arr 2), (.arr 3), (.c (.flt .f32 a0.Fall.X.bits)), (.c (.flt .f32 a0.Fall.Y.bits)), (.c (.flt .f32 a0.Fall.Z.bits)), (.c (.flt .f32 a0.Damp.bits)), (.c (.int .i64 a0.Passes))]))]⟩) (ob := True ∧ True ∧ True ∧ (((((sl 1 csB a0.Fixed) : C) = (sl 1 csB a0.Fixed) ∧ v7.2.length = a0.Fixed.length ∧ 1 = 1 ∧ ∀ i j, i < a0.Fixed.length → j < 1 → isSeq (gl csB v7.2 i j) = isSeq (gl csB a0.Fixed i j)) ∧ (((.int .i64 v4.1) : C) = (.int .i64 v4.1)) ∧ True) ∧ MutOK Try.prog 110 [(.one (.mu (sl 1 csB a0.Fixed) (sl 1 csB v7.2))), .one (.ro (.int .i64 v4.1))] [.one (.int .i64 v7.1)]) ∧ True ∧ True) (by kernel_rfl) ⟨trivial, trivial, trivial, ⟨⟨⟨rfl, c9, rfl, gl_seq sqB⟩, rfl, trivial⟩, ok_laws_markBoolS K a0.Fixed v4.1 v7 e8⟩, trivial, trivial⟩ ?_
  refine thenQ_normal ?_
  refine AW.seq ?_
  obtain ⟨v10, e11, h⟩ := bind_some h
  obtain ⟨c12, h⟩ := chk_some h
  refine AW.regionA [.no, .no, .no, .callM [(.one (.mu (sl 1 (csF .f32) a0.Lengths) (sl 1 (csF .f32) v10.2))), .one (.ro (.int .i64 v7.1))] [.one (.int .i64 v10.1)] [[.view]] none] [0, 1] [0, 1, 2, 3] (s' := ⟨[(0, (.v (.agg [(.arr 0), (.arr 1), (.arr 2), (.arr 3), (.c (.flt .f32 a0.Fall.X.bits)), (.c (.flt .f32 a0.Fall.Y.bits)), (.c (.flt .f32 a0.Fall.Z.bits)), (.c (.flt .f32 a0.Damp.bits)), (.c (.int .i64 a0.Passes))]))), (1, (.v (.one (.c (.int .i64 v10.1)))))], [(0, (.arr true v1.2.length 3 (gl cs_Vector v1.2))), (1, (.arr true v4.2.length 3 (gl cs_Vector v4.2))), (2, (.arr true v7.2.length 1 (gl csB v7.2))), (3, (.arr true v10.2.length 1 (gl (csF .f32) v10.2)))]⟩) (ob := True ∧ True ∧ True ∧ (((((sl 1 (csF .f32) a0.Lengths) : C) = (sl 1 (csF .f32) a0.Lengths) ∧ v10.2.length = a0.Lengths.length ∧ 1 = 1 ∧ ∀ i j, i < a0.Lengths.length → j < 1 → isSeq (gl (csF .f32) v10.2 i j) = isSeq (gl (csF .f32) a0.Lengths i j)) ∧ (((.int .i64 v7.1) : C) = (.int .i64 v7.1)) ∧ True) ∧ MutOK Try.prog 111 [(.one (.mu (sl 1 (csF .f32) a0.Lengths) (sl 1 (csF .f32) v10.2))), .one (.ro (.int .i64 v7.1))] [.one (.int .i64 v10.1)]) ∧ True ∧ True) (by kernel_rfl) ⟨trivial, trivial, trivial, ⟨⟨⟨rfl, c12, rfl, gl_seq sqF⟩, rfl, trivial⟩, ok_laws_markFloat32S K a0.Lengths v7.1 v10 e11⟩, trivial, trivial⟩ ?_
  refine thenQ_normal ?_
  refine AW.seq ?_
  refine AW.regionA [] [0, 1, 4] [0, 1, 2, 3] (s' := ⟨[(0, (.v (.agg [(.arr 0), (.arr 1), (.arr 2), (.arr 3), (.c (.flt .f32 a0.Fall.X.bits)), (.c (.flt .f32 a0.Fall.Y.bits)), (.c (.flt .f32 a0.Fall.Z.bits)), (.c (.flt .f32 a0.Damp.bits)), (.c (.int .i64 a0.Passes))]))), (1, (.v (.one (.c (.int .i64 v10.1))))), (4, (.v (.one (.c (.int .i64 v10.1)))))], [(0, (.arr true v1.2.length 3 (gl cs_Vector v1.2))), (1, (.arr true v4.2.length 3 (gl cs_Vector v4.2))), (2, (.arr true v7.2.length 1 (gl csB v7.2))), (3, (.arr true v10.2.length 1 (gl (csF .f32) v10.2)))]⟩) (ob := True ∧ True ∧ True) (by kernel_rfl) ⟨trivial, trivial, trivial⟩ ?_
  refine thenQ_normal ?_
  refine AW.ret ?_
  obtain ⟨c13, h⟩ := chk_some h
  obtain ⟨c14, h⟩ := chk_some h
  obtain ⟨c15, h⟩ := chk_some h
  obtain ⟨c16, h⟩ := chk_some h
  replace h := some_eq h
  subst h
  exact ⟨.inr rfl, retOK_of [(.one (.c (.int .i64 v10.1)))] (by kernel_rfl) ⟨⟨rfl, trivial⟩, trivial⟩ (of_decide_eq_true (by kernel_rfl)), by kernel_rfl, ⟨⟨⟨c13, rfl, rfl⟩, ⟨c14, rfl, rfl⟩, ⟨c15, rfl, rfl⟩, ⟨c16, rfl, rfl⟩, trivial, trivial, trivial, trivial, trivial, trivial⟩, trivial, trivial⟩⟩

/-! laws.heldVectorS -/
def laws_heldVectorS_l1 (K : Nat) (a0 : (List Vector)) : Nat → Int → Int → Option (Int)
  | 0, _, _ => none
  | k + 1, x3, x4 => ite2 ((decide (x4 < (a0.length : Int)))) (chk (0 ≤ x4 ∧ x4 < (a0.length : Int)) (ite2 ((((a0.getD x4.toNat default).X).ne (Fl.ofInt .f32 x3))) (some ((-1) : Int)) (ite2 ((((a0.getD x4.toNat default).Y).ne (Fl.ofInt .f32 (IntKind.i64.wrap (x3 + (1 : Int)))))) (some ((-1) : Int)) (ite2 ((((a0.getD x4.toNat default).Z).ne (Fl.ofInt .f32 (IntKind.i64.wrap ((IntKind.i64.wrap (x3 + (1 : Int))) + (1 : Int)))))) (some ((-1) : Int)) (laws_heldVectorS_l1 K a0 k (IntKind.i64.wrap ((IntKind.i64.wrap ((IntKind.i64.wrap (x3 + (1 : Int))) + (1 : Int))) + (1 : Int))) (IntKind.i64.wrap (x4 + (1 : Int)))))))) (some x3)

def laws_heldVectorS (K : Nat) (a0 : (List Vector)) (a1 : Int) : Option (Int) :=
  laws_heldVectorS_l1 K a0 K a1 (0 : Int)

theorem ok_laws_heldVectorS (K : Nat) (a0 : (List Vector)) (a1 : Int) (o : (Int)) (h : laws_heldVectorS K a0 a1 = some o) : CallOK Try.prog 112 [.one (sl 3 cs_Vector a0), .one (.int .i64 a1)] [.one (.int .i64 o)] := by
  refine callOK_of_AW Try.func112 rfl (by kernel_rfl) (Nat.le_of_ble_eq_true (by kernel_rfl)) ?_
  intro w0
  unfold laws_heldVectorS at h
  refine AW.seq ?_
  refine AW.regionA [] [0, 1] [] (s' := ⟨[(0, (.v (.one (.c (sl 3 cs_Vector a0))))), (1, (.v (.one (.c (.int .i64 a1)))))], []⟩) (ob := True ∧ True) (by kernel_rfl) ⟨trivial, trivial⟩ ?_
  refine thenQ_normal ?_
  refine AW.seq ?_
  refine AW.seq ?_
  refine AW.regionA [] [0, 1, 5] [] (s' := ⟨[(0, (.v (.one (.c (sl 3 cs_Vector a0))))), (1, (.v (.one (.c (.int .i64 a1))))), (5, (.v (.one (.c (.int .i64 (0 : Int))))))], []⟩) (ob := True ∧ True) (by kernel_rfl) ⟨trivial, trivial⟩ ?_
  refine thenQ_normal ?_
  refine AW.block ?_
  refine AW.loopQ (σ := Nat × Int × Int) (fun p => ⟨[(0, (.v (.one (.c (sl 3 cs_Vector a0))))), (1, (.v (.one (.c (.int .i64 p.2.1))))), (5, (.v (.one (.c (.int .i64 p.2.2)))))], []⟩) (fun p => laws_heldVectorS_l1 K a0 p.1 p.2.1 p.2.2 = some o) (fun p => p.1) (K, a1, (0 : Int)) h ?_
  clear h
  rintro ⟨k, x3, x4⟩ h
  replace h : laws_heldVectorS_l1 K a0 k x3 x4 = some o := h
  show AW _ _ (⟨[(0, (.v (.one (.c (sl 3 cs_Vector a0))))), (1, (.v (.one (.c (.int .i64 x3))))), (5, (.v (.one (.c (.int .i64 x4)))))], []⟩ : St) _
  obtain _ | k := k
  · rw [laws_heldVectorS_l1] at h; cases h
  rw [laws_heldVectorS_l1] at h
  refine AW.seq ?_
  refine AW.seq ?_
  refine AW.regionA [] [0, 1, 5, 9] [] (s' := ⟨[(0, (.v (.one (.c (sl 3 cs_Vector a0))))), (1, (.v (.one (.c (.int .i64 x3))))), (5, (.v (.one (.c (.int .i64 x4))))), (9, (.v (.one (.c (.bool (decide (x4 < (a0.length : Int))))))))], []⟩) (ob := True ∧ True ∧ True ∧ True ∧ True) (by kernel_rfl) ⟨trivial, trivial, trivial, trivial, trivial⟩ ?_
  refine thenQ_normal ?_
  rcases ite2_cases h with ⟨b5, h⟩ | ⟨b5, h⟩
  · refine AW.cond_t rfl b5 ?_
    refine AW.skip ?_
    refine thenQ_normal ?_
    refine AW.seq ?_
    refine AW.block ?_
    refine AW.seq ?_
    refine AW.seq ?_
    obtain ⟨c6, h⟩ := chk_some h
    refine AW.regionA [] [0, 1, 5, 19] [] (s' := ⟨[(0, (.v (.one (.c (sl 3 cs_Vector a0))))), (1, (.v (.one (.c (.int .i64 x3))))), (5, (.v (.one (.c (.int .i64 x4))))), (19, (.v (.one (.c (.bool (((a0.getD x4.toNat default).X).ne (Fl.ofInt .f32 x3)))))))], []⟩) (ob := True ∧ True ∧ (0 ≤ x4 ∧ x4 < (a0.length : Int)) ∧ True ∧ True ∧ True ∧ True ∧ True ∧ True) (by kernel_rfl) ⟨trivial, trivial, c6, trivial, trivial, trivial, trivial, trivial, trivial⟩ ?_
    refine thenQ_normal ?_
    rcases ite2_cases h with ⟨b7, h⟩ | ⟨b7, h⟩
    · refine AW.cond_t rfl b7 ?_
      refine AW.seq ?_
      refine AW.regionA [] [4] [] (s' := ⟨[(4, (.v (.one (.c (.int .i64 ((-1) : Int))))))], []⟩) (ob := True ∧ True) (by kernel_rfl) ⟨trivial, trivial⟩ ?_
      refine thenQ_normal ?_
      refine AW.ret ?_
      refine thenQ_ret ?_
      refine blockQ_ret ?_
      refine thenQ_ret ?_
      refine loopQ_ret ?_
      refine blockQ_ret ?_
      refine thenQ_ret ?_
      replace h := some_eq h
      subst h
      exact ⟨.inr rfl, retOK_of [(.one (.c (.int .i64 ((-1) : Int))))] (by kernel_rfl) ⟨⟨rfl, trivial⟩, trivial⟩ (of_decide_eq_true (by kernel_rfl))⟩
    · refine AW.cond_f rfl b7 ?_
      refine AW.skip ?_
      refine thenQ_normal ?_
      refine AW.seq ?_
      refine AW.regionA [] [0, 1, 5] [] (s' := ⟨[(0, (.v (.one (.c (sl 3 cs_Vector a0))))), (1, (.v (.one (.c (.int .i64 (IntKind.i64.wrap (x3 + (1 : Int)))))))), (5, (.v (.one (.c (.int .i64 x4)))))], []⟩) (ob := True ∧ True ∧ True ∧ True) (by kernel_rfl) ⟨trivial, trivial, trivial, trivial⟩ ?_
      refine thenQ_normal ?_
      refine AW.seq ?_
      refine AW.seq ?_
      refine AW.regionA [] [0, 1, 5, 29] [] (s' := ⟨[(0, (.v (.one (.c (sl 3 cs_Vector a0))))), (1, (.v (.one (.c (.int .i64 (IntKind.i64.wrap (x3 + (1 : Int)))))))), (5, (.v (.one (.c (.int .i64 x4))))), (29, (.v (.one (.c (.bool (((a0.getD x4.toNat default).Y).ne (Fl.ofInt .f32 (IntKind.i64.wrap (x3 + (1 : Int))))))))))], []⟩) (ob := True ∧ True ∧ (0 ≤ x4 ∧ x4 < (a0.length : Int)) ∧ True ∧ True ∧ True ∧ True ∧ True ∧ True) (by kernel_rfl) ⟨trivial, trivial, c6, trivial, trivial, trivial, trivial, trivial, trivial⟩ ?_
      refine thenQ_normal ?_
      rcases ite2_cases h with ⟨b8, h⟩ | ⟨b8, h⟩
      · refine AW.cond_t rfl b8 ?_
        refine AW.seq ?_
        refine AW.regionA [] [4] [] (s' := ⟨[(4, (.v (.one (.c (.int .i64 ((-1) : Int))))))], []⟩) (ob := True ∧ True) (by kernel_rfl) ⟨trivial, trivial⟩ ?_
        refine thenQ_normal ?_
        refine AW.ret ?_
        refine thenQ_ret ?_
        refine blockQ_ret ?_
        refine thenQ_ret ?_
        refine loopQ_ret ?_
        refine blockQ_ret ?_
        refine thenQ_ret ?_
        replace h := some_eq h
        subst h
        exact ⟨.inr rfl, retOK_of [(.one (.c (.int .i64 ((-1) : Int))))] (by kernel_rfl) ⟨⟨rfl, trivial⟩, trivial⟩ (of_decide_eq_true (by kernel_rfl))⟩
      · refine AW.cond_f rfl b8 ?_
        refine AW.skip ?_
        refine thenQ_normal ?_
        refine AW.seq ?_
        refine AW.regionA [] [0, 1, 5] [] (s' := ⟨[(0, (.v (.one (.c (sl 3 cs_Vector a0))))), (1, (.v (.one (.c (.int .i64 (IntKind.i64.wrap ((IntKind.i64.wrap (x3 + (1 : Int))) + (1 : Int)))))))), (5, (.v (.one (.c (.int .i64 x4)))))], []⟩) (ob := True ∧ True ∧ True ∧ True) (by kernel_rfl) ⟨trivial, trivial, trivial, trivial⟩ ?_
        refine thenQ_normal ?_
        refine AW.seq ?_
        refine AW.seq ?_
        refine AW.regionA [] [0, 1, 5, 39] [] (s' := ⟨[(0, (.v (.one (.c (sl 3 cs_Vector a0))))), (1, (.v (.one (.c (.int .i64 (IntKind.i64.wrap ((IntKind.i64.wrap (x3 + (1 : Int))) + (1 : Int)))))))), (5, (.v (.one (.c (.int .i64 x4))))), (39, (.v (.one (.c (.bool (((a0.getD x4.toNat default).Z).ne (Fl.ofInt .f32 (IntKind.i64.wrap ((IntKind.i64.wrap (x3 + (1 : Int))) + (1 : Int))))))))))], []⟩) (ob := True ∧ True ∧ (0 ≤ x4 ∧ x4 < (a0.length : Int)) ∧ True ∧ True ∧ True ∧ True ∧ True ∧ True) (by kernel_rfl) ⟨trivial, trivial, c6, trivial, trivial, trivial, trivial, trivial, trivial⟩ ?_
        refine thenQ_normal ?_
        rcases ite2_cases h with ⟨b9, h⟩ | ⟨b9, h⟩
        · refine AW.cond_t rfl b9 ?_
          refine AW.seq ?_
          refine AW.regionA [] [4] [] (s' := ⟨[(4, (.v (.one (.c (.int .i64 ((-1) : Int))))))], []⟩) (ob := True ∧ True) (by kernel_rfl) ⟨trivial, trivial⟩ ?_
          refine thenQ_normal ?_
          refine AW.ret ?_
          refine thenQ_ret ?_
          refine blockQ_ret ?_
          refine thenQ_ret ?_
          refine loopQ_ret ?_
          refine blockQ_ret ?_
          refine thenQ_ret ?_
          replace h := some_eq h
          subst h
          exact ⟨.inr rfl, retOK_of [(.one (.c (.int .i64 ((-1) : Int))))] (by kernel_rfl) ⟨⟨rfl, trivial⟩, trivial⟩ (of_decide_eq_true (by kernel_rfl))⟩
        · refine AW.cond_f rfl b9 ?_
          refine AW.skip ?_
          refine thenQ_normal ?_
          refine AW.regionA [] [0, 1, 5] [] (s' := ⟨[(0, (.v (.one (.c (sl 3 cs_Vector a0))))), (1, (.v (.one (.c (.int .i64 (IntKind.i64.wrap ((IntKind.i64.wrap ((IntKind.i64.wrap (x3 + (1 : Int))) + (1 : Int))) + (1 : Int)))))))), (5, (.v (.one (.c (.int .i64 x4)))))], []⟩) (ob := True ∧ True ∧ True ∧ True) (by kernel_rfl) ⟨trivial, trivial, trivial, trivial⟩ ?_
          refine blockQ_normal ?_
          refine thenQ_normal ?_
          refine AW.regionA [] [0, 1, 5] [] (s' := ⟨[(0, (.v (.one (.c (sl 3 cs_Vector a0))))), (1, (.v (.one (.c (.int .i64 (IntKind.i64.wrap ((IntKind.i64.wrap ((IntKind.i64.wrap (x3 + (1 : Int))) + (1 : Int))) + (1 : Int)))))))), (5, (.v (.one (.c (.int .i64 (IntKind.i64.wrap (x4 + (1 : Int))))))))], []⟩) (ob := True ∧ True ∧ True ∧ True) (by kernel_rfl) ⟨trivial, trivial, trivial, trivial⟩ ?_
          exact loopQ_normal (k, (IntKind.i64.wrap ((IntKind.i64.wrap ((IntKind.i64.wrap (x3 + (1 : Int))) + (1 : Int))) + (1 : Int))), (IntKind.i64.wrap (x4 + (1 : Int)))) h (Nat.lt_succ_self k) (Sub.keep [0, 1, 5] [] (by kernel_rfl) (by kernel_rfl))
  · refine AW.cond_f rfl b5 ?_
    refine AW.exit ?_
    refine thenQ_exit ?_
    refine loopQ_exit ?_
    refine blockQ_exit ?_
    refine thenQ_normal ?_
    refine AW.seq ?_
    refine AW.regionA [] [4] [] (s' := ⟨[(4, (.v (.one (.c (.int .i64 x3)))))], []⟩) (ob := True ∧ True ∧ True) (by kernel_rfl) ⟨trivial, trivial, trivial⟩ ?_
    refine thenQ_normal ?_
    refine AW.ret ?_
    replace h := some_eq h
    subst h
    exact ⟨.inr rfl, retOK_of [(.one (.c (.int .i64 x3)))] (by kernel_rfl) ⟨⟨rfl, trivial⟩, trivial⟩ (of_decide_eq_true (by kernel_rfl))⟩

/-! laws.heldBoolS -/
def laws_heldBoolS_l1 (K : Nat) (a0 : (List Bool)) : Nat → Int → Int → Option (Int)
  | 0, _, _ => none
  | k + 1, x3, x4 => ite2 ((decide (x4 < (a0.length : Int)))) (chk (0 ≤ x4 ∧ x4 < (a0.length : Int)) (chk ((3 : Int) ≠ 0) (ite2 ((!((a0.getD x4.toNat default) == ((x3.tmod (3 : Int)) == (0 : Int))))) (some ((-1) : Int)) (laws_heldBoolS_l1 K a0 k (IntKind.i64.wrap (x3 + (1 : Int))) (IntKind.i64.wrap (x4 + (1 : Int))))))) (some x3)

def laws_heldBoolS (K : Nat) (a0 : (List Bool)) (a1 : Int) : Option (Int) :=
  laws_heldBoolS_l1 K a0 K a1 (0 : Int)

theorem ok_laws_heldBoolS (K : Nat) (a0 : (List Bool)) (a1 : Int) (o : (Int)) (h : laws_heldBoolS K a0 a1 = some o) : CallOK Try.prog 113 [.one (sl 1 csB a0), .one (.int .i64 a1)] [.one (.int .i64 o)] := by
  refine callOK_of_AW Try.func113 rfl (by kernel_rfl) (Nat.le_of_ble_eq_true (by kernel_rfl)) ?_
  intro w0
  unfold laws_heldBoolS at h
  refine AW.seq ?_
  refine AW.regionA [] [0, 1] [] (s' := ⟨[(0, (.v (.one (.c (sl 1 csB a0))))), (1, (.v (.one (.c (.int .i64 a1)))))], []⟩) (ob := True ∧ True) (by kernel_rfl) ⟨trivial, trivial⟩ ?_
  refine thenQ_normal ?_
  refine AW.seq ?_
  refine AW.seq ?_
  refine AW.regionA [] [0, 1, 5] [] (s' := ⟨[(0, (.v (.one (.c (sl 1 csB a0))))), (1, (.v (.one (.c (.int .i64 a1))))), (5, (.v (.one (.c (.int .i64 (0 : Int))))))], []⟩) (ob := True ∧ True) (by kernel_rfl) ⟨trivial, trivial⟩ ?_
  refine thenQ_normal ?_
  refine AW.block ?_
  refine AW.loopQ (σ := Nat × Int × Int) (fun p => ⟨[(0, (.v (.one (.c (sl 1 csB a0))))), (1, (.v (.one (.c (.int .i64 p.2.1))))), (5, (.v (.one (.c (.int .i64 p.2.2)))))], []⟩) (fun p => laws_heldBoolS_l1 K a0 p.1 p.2.1 p.2.2 = some o) (fun p => p.1) (K, a1, (0 : Int)) h ?_
  clear h
  rintro ⟨k, x3, x4⟩ h
  replace h : laws_heldBoolS_l1 K a0 k x3 x4 = some o := h
  show AW _ _ (⟨[(0, (.v (.one (.c (sl 1 csB a0))))), (1, (.v (.one (.c (.int .i64 x3))))), (5, (.v (.one (.c (.int .i64 x4)))))], []⟩ : St) _
  obtain _ | k := k
  · rw [laws_heldBoolS_l1] at h; cases h
  rw [laws_heldBoolS_l1] at h
  refine AW.seq ?_
  refine AW.seq ?_
  refine AW.regionA [] [0, 1, 5, 9] [] (s' := ⟨[(0, (.v (.one (.c (sl 1 csB a0))))), (1, (.v (.one (.c (.int .i64 x3))))), (5, (.v (.one (.c (.int .i64 x4))))), (9, (.v (.one (.c (.bool (decide (x4 < (a0.length : Int))))))))], []⟩) (ob := True ∧ True ∧ True ∧ True ∧ True) (by kernel_rfl) ⟨trivial, trivial, trivial, trivial, trivial⟩ ?_
  refine thenQ_normal ?_
  rcases ite2_cases h with ⟨b5, h⟩ | ⟨b5, h⟩
  · refine AW.cond_t rfl b5 ?_
    refine AW.skip ?_
    refine thenQ_normal ?_
    refine AW.seq ?_
    refine AW.block ?_
    refine AW.seq ?_
    refine AW.seq ?_
    obtain ⟨c6, h⟩ := chk_some h
    obtain ⟨c7, h⟩ := chk_some h
    refine AW.regionA [] [0, 1, 5, 19] [] (s' := ⟨[(0, (.v (.one (.c (sl 1 csB a0))))), (1, (.v (.one (.c (.int .i64 x3))))), (5, (.v (.one (.c (.int .i64 x4))))), (19, (.v (.one (.c (.bool (!((a0.getD x4.toNat default) == ((x3.tmod (3 : Int)) == (0 : Int)))))))))], []⟩) (ob := True ∧ True ∧ (0 ≤ x4 ∧ x4 < (a0.length : Int)) ∧ True ∧ True ∧ ((3 : Int) ≠ 0) ∧ True ∧ True ∧ True) (by kernel_rfl) ⟨trivial, trivial, c6, trivial, trivial, c7, trivial, trivial, trivial⟩ ?_
    refine thenQ_normal ?_
    rcases ite2_cases h with ⟨b8, h⟩ | ⟨b8, h⟩
    · refine AW.cond_t rfl b8 ?_
      refine AW.seq ?_
      refine AW.regionA [] [4] [] (s' := ⟨[(4, (.v (.one (.c (.int .i64 ((-1) : Int))))))], []⟩) (ob := True ∧ True) (by kernel_rfl) ⟨trivial, trivial⟩ ?_
      refine thenQ_normal ?_
      refine AW.ret ?_
      refine thenQ_ret ?_
      refine blockQ_ret ?_
      refine thenQ_ret ?_
      refine loopQ_ret ?_
      refine blockQ_ret ?_
      refine thenQ_ret ?_
      replace h := some_eq h
      subst h
      exact ⟨.inr rfl, retOK_of [(.one (.c (.int .i64 ((-1) : Int))))] (by kernel_rfl) ⟨⟨rfl, trivial⟩, trivial⟩ (of_decide_eq_true (by kernel_rfl))⟩
    · refine AW.cond_f rfl b8 ?_
      refine AW.skip ?_
      refine thenQ_normal ?_
      refine AW.regionA [] [0, 1, 5] [] (s' := ⟨[(0, (.v (.one (.c (sl 1 csB a0))))), (1, (.v (.one (.c (.int .i64 (IntKind.i64.wrap (x3 + (1 : Int)))))))), (5, (.v (.one (.c (.int .i64 x4)))))], []⟩) (ob := True ∧ True ∧ True ∧ True) (by kernel_rfl) ⟨trivial, trivial, trivial, trivial⟩ ?_
      refine blockQ_normal ?_
      refine thenQ_normal ?_
      refine AW.regionA [] [0, 1, 5] [] (s' := ⟨[(0, (.v (.one (.c (sl 1 csB a0))))), (1, (.v (.one (.c (.int .i64 (IntKind.i64.wrap (x3 + (1 : Int)))))))), (5, (.v (.one (.c (.int .i64 (IntKind.i64.wrap (x4 + (1 : Int))))))))], []⟩) (ob := True ∧ True ∧ True ∧ True) (by kernel_rfl) ⟨trivial, trivial, trivial, trivial⟩ ?_
      exact loopQ_normal (k, (IntKind.i64.wrap (x3 + (1 : Int))), (IntKind.i64.wrap (x4 + (1 : Int)))) h (Nat.lt_succ_self k) (Sub.keep [0, 1, 5] [] (by kernel_rfl) (by kernel_rfl))
  · refine AW.cond_f rfl b5 ?_
    refine AW.exit ?_
    refine thenQ_exit ?_
    refine loopQ_exit ?_
    refine blockQ_exit ?_
    refine thenQ_normal ?_
    refine AW.seq ?_
    refine AW.regionA [] [4] [] (s' := ⟨[(4, (.v (.one (.c (.int .i64 x3)))))], []⟩) (ob := True ∧ True ∧ True) (by kernel_rfl) ⟨trivial, trivial, trivial⟩ ?_
    refine thenQ_normal ?_
    refine AW.ret ?_
    replace h := some_eq h
    subst h
    exact ⟨.inr rfl, retOK_of [(.one (.c (.int .i64 x3)))] (by kernel_rfl) ⟨⟨rfl, trivial⟩, trivial⟩ (of_decide_eq_true (by kernel_rfl))⟩

/-! laws.heldFloat32S -/
def laws_heldFloat32S_l1 (K : Nat) (a0 : (List F32)) : Nat → Int → Int → Option (Int)
  | 0, _, _ => none
  | k + 1, x3, x4 => ite2 ((decide (x4 < (a0.length : Int)))) (chk (0 ≤ x4 ∧ x4 < (a0.length : Int)) (ite2 (((a0.getD x4.toNat default).ne (Fl.ofInt .f32 x3))) (some ((-1) : Int)) (laws_heldFloat32S_l1 K a0 k (IntKind.i64.wrap (x3 + (1 : Int))) (IntKind.i64.wrap (x4 + (1 : Int)))))) (some x3)

def laws_heldFloat32S (K : Nat) (a0 : (List F32)) (a1 : Int) : Option (Int) :=
  laws_heldFloat32S_l1 K a0 K a1 (0 : Int)

theorem ok_laws_heldFloat32S (K : Nat) (a0 : (List F32)) (a1 : Int) (o : (Int)) (h : laws_heldFloat32S K a0 a1 = some o) : CallOK Try.prog 114 [.one (sl 1 (csF .f32) a0), .one (.int .i64 a1)] [.one (.int .i64 o)] := by
  refine callOK_of_AW Try.func114 rfl (by kernel_rfl) (Nat.le_of_ble_eq_true (by kernel_rfl)) ?_
  intro w0
  unfold laws_heldFloat32S at h
  refine AW.seq ?_
  refine AW.regionA [] [0, 1] [] (s' := ⟨[(0, (.v (.one (.c (sl 1 (csF .f32) a0))))), (1, (.v (.one (.c (.int .i64 a1)))))], []⟩) (ob := True ∧ True) (by kernel_rfl) ⟨trivial, trivial⟩ ?_
  refine thenQ_normal ?_
  refine AW.seq ?_
  refine AW.seq ?_
  refine AW.regionA [] [0, 1, 5] [] (s' := ⟨[(0, (.v (.one (.c (sl 1 (csF .f32) a0))))), (1, (.v (.one (.c (.int .i64 a1))))), (5, (.v (.one (.c (.int .i64 (0 : Int))))))], []⟩) (ob := True ∧ True) (by kernel_rfl) ⟨trivial, trivial⟩ ?_
  refine thenQ_normal ?_
  refine AW.block ?_
  refine AW.loopQ (σ := Nat × Int × Int) (fun p => ⟨[(0, (.v (.one (.c (sl 1 (csF .f32) a0))))), (1, (.v (.one (.c (.int .i64 p.2.1))))), (5, (.v (.one (.c (.int .i64 p.2.2)))))], []⟩) (fun p => laws_heldFloat32S_l1 K a0 p.1 p.2.1 p.2.2 = some o) (fun p => p.1) (K, a1, (0 : Int)) h ?_
  clear h
  rintro ⟨k, x3, x4⟩ h
  replace h : laws_heldFloat32S_l1 K a0 k x3 x4 = some o := h
  show AW _ _ (⟨[(0, (.v (.one (.c (sl 1 (csF .f32) a0))))), (1, (.v (.one (.c (.int .i64 x3))))), (5, (.v (.one (.c (.int .i64 x4)))))], []⟩ : St) _
  obtain _ | k := k
  · rw [laws_heldFloat32S_l1] at h; cases h
  rw [laws_heldFloat32S_l1] at h
  refine AW.seq ?_
  refine AW.seq ?_
  refine AW.regionA [] [0, 1, 5, 9] [] (s' := ⟨[(0, (.v (.one (.c (sl 1 (csF .f32) a0))))), (1, (.v (.one (.c (.int .i64 x3))))), (5, (.v (.one (.c (.int .i64 x4))))), (9, (.v (.one (.c (.bool (decide (x4 < (a0.length : Int))))))))], []⟩) (ob := True ∧ True ∧ True ∧ True ∧ True) (by kernel_rfl) ⟨trivial, trivial, trivial, trivial, trivial⟩ ?_
  refine thenQ_normal ?_
  rcases ite2_cases h with ⟨b5, h⟩ | ⟨b5, h⟩
  · refine AW.cond_t rfl b5 ?_
    refine AW.skip ?_
    refine thenQ_normal ?_
    refine AW.seq ?_
    refine AW.block ?_
    refine AW.seq ?_
    refine AW.seq ?_
    obtain ⟨c6, h⟩ := chk_some h
    refine AW.regionA [] [0, 1, 5, 18] [] (s' := ⟨[(0, (.v (.one (.c (sl 1 (csF .f32) a0))))), (1, (.v (.one (.c (.int .i64 x3))))), (5, (.v (.one (.c (.int .i64 x4))))), (18, (.v (.one (.c (.bool ((a0.getD x4.toNat default).ne (Fl.ofInt .f32 x3)))))))], []⟩) (ob := True ∧ True ∧ (0 ≤ x4 ∧ x4 < (a0.length : Int)) ∧ True ∧ True ∧ True ∧ True ∧ True) (by kernel_rfl) ⟨trivial, trivial, c6, trivial, trivial, trivial, trivial, trivial⟩ ?_
    refine thenQ_normal ?_
    rcases ite2_cases h with ⟨b7, h⟩ | ⟨b7, h⟩
    · refine AW.cond_t rfl b7 ?_
      refine AW.seq ?_
      refine AW.regionA [] [4] [] (s' := ⟨[(4, (.v (.one (.c (.int .i64 ((-1) : Int))))))], []⟩) (ob := True ∧ True) (by kernel_rfl) ⟨trivial, trivial⟩ ?_
      refine thenQ_normal ?_
      refine AW.ret ?_
      refine thenQ_ret ?_
      refine blockQ_ret ?_
      refine thenQ_ret ?_
      refine loopQ_ret ?_
      refine blockQ_ret ?_
      refine thenQ_ret ?_
      replace h := some_eq h
      subst h
      exact ⟨.inr rfl, retOK_of [(.one (.c (.int .i64 ((-1) : Int))))] (by kernel_rfl) ⟨⟨rfl, trivial⟩, trivial⟩ (of_decide_eq_true (by kernel_rfl))⟩
    · refine AW.cond_f rfl b7 ?_
      refine AW.skip ?_
      refine thenQ_normal ?_
      refine AW.regionA [] [0, 1, 5] [] (s' := ⟨[(0, (.v (.one (.c (sl 1 (csF .f32) a0))))), (1, (.v (.one (.c (.int .i64 (IntKind.i64.wrap (x3 + (1 : Int)))))))), (5, (.v (.one (.c (.int .i64 x4)))))], []⟩) (ob := True ∧ True ∧ True ∧ True) (by kernel_rfl) ⟨trivial, trivial, trivial, trivial⟩ ?_
      refine blockQ_normal ?_
      refine thenQ_normal ?_
      refine AW.regionA [] [0, 1, 5] [] (s' := ⟨[(0, (.v (.one (.c (sl 1 (csF .f32) a0))))), (1, (.v (.one (.c (.int .i64 (IntKind.i64.wrap (x3 + (1 : Int)))))))), (5, (.v (.one (.c (.int .i64 (IntKind.i64.wrap (x4 + (1 : Int))))))))], []⟩) (ob := True ∧ True ∧ True ∧ True) (by kernel_rfl) ⟨trivial, trivial, trivial, trivial⟩ ?_
      exact loopQ_normal (k, (IntKind.i64.wrap (x3 + (1 : Int))), (IntKind.i64.wrap (x4 + (1 : Int)))) h (Nat.lt_succ_self k) (Sub.keep [0, 1, 5] [] (by kernel_rfl) (by kernel_rfl))
  · refine AW.cond_f rfl b5 ?_
    refine AW.exit ?_
    refine thenQ_exit ?_
    refine loopQ_exit ?_
    refine blockQ_exit ?_
    refine thenQ_normal ?_
    refine AW.seq ?_
    refine AW.regionA [] [4] [] (s' := ⟨[(4, (.v (.one (.c (.int .i64 x3)))))], []⟩) (ob := True ∧ True ∧ True) (by kernel_rfl) ⟨trivial, trivial, trivial⟩ ?_
    refine thenQ_normal ?_
    refine AW.ret ?_
    replace h := some_eq h
    subst h
    exact ⟨.inr rfl, retOK_of [(.one (.c (.int .i64 x3)))] (by kernel_rfl) ⟨⟨rfl, trivial⟩, trivial⟩ (of_decide_eq_true (by kernel_rfl))⟩

/-! laws.heldString -/
def laws_heldString (K : Nat) (a0 : String) (a1 : Int) : Option (Int) :=
  (laws_heldVectorS K a0.Points a1).bind fun v1 => ite2 ((decide (v1 < (0 : Int)))) (some ((-1) : Int)) ((laws_heldVectorS K a0.Before v1).bind fun v4 => ite2 ((decide (v4 < (0 : Int)))) (some ((-1) : Int)) ((laws_heldBoolS K a0.Fixed v4).bind fun v7 => ite2 ((decide (v7 < (0 : Int)))) (some ((-1) : Int)) ((laws_heldFloat32S K a0.Lengths v7).bind fun v10 => ite2 ((decide (v10 < (0 : Int)))) (some ((-1) : Int)) (some v10))))

theorem ok_laws_heldString (K : Nat) (a0 : String) (a1 : Int) (o : (Int)) (h : laws_heldString K a0 a1 = some o) : CallOK Try.prog 21 [.agg (cs_String a0), .one (.int .i64 a1)] [.one (.int .i64 o)] := by
  refine callOK_of_AW Try.func21 rfl (by kernel_rfl) (Nat.le_of_ble_eq_true (by kernel_rfl)) ?_
  intro w0
  unfold laws_heldString at h
  refine AW.seq ?_
  refine AW.regionA [.box 1] [1, 2] [1] (s' := ⟨[(1, (.v (.one (.c (.int .i64 a1))))), (2, (.v (.one (.ptr 1 0))))], [(1, (.box [(.c (sl 3 cs_Vector a0.Points)), (.c (sl 3 cs_Vector a0.Before)), (.c (sl 1 csB a0.Fixed)), (.c (sl 1 (csF .f32) a0.Lengths)), (.c (.flt .f32 a0.Fall.X.bits)), (.c (.flt .f32 a0.Fall.Y.bits)), (.c (.flt .f32 a0.Fall.Z.bits)), (.c (.flt .f32 a0.Damp.bits)), (.c (.int .i64 a0.Passes))]))]⟩) (ob := True ∧ True ∧ True) (by kernel_rfl) ⟨trivial, trivial, trivial⟩ ?_
  refine thenQ_normal ?_
  refine AW.seq ?_
  obtain ⟨v1, e2, h⟩ := bind_some h
  refine AW.regionA [.no, .no, .no, .call [.one (sl 3 cs_Vector a0.Points), .one (.int .i64 a1)] [.one (.int .i64 v1)] [[.view]]] [1, 2] [1] (s' := ⟨[(1, (.v (.one (.c (.int .i64 v1))))), (2, (.v (.one (.ptr 1 0))))], [(1, (.box [(.c (sl 3 cs_Vector a0.Points)), (.c (sl 3 cs_Vector a0.Before)), (.c (sl 1 csB a0.Fixed)), (.c (sl 1 (csF .f32) a0.Lengths)), (.c (.flt .f32 a0.Fall.X.bits)), (.c (.flt .f32 a0.Fall.Y.bits)), (.c (.flt .f32 a0.Fall.Z.bits)), (.c (.flt .f32 a0.Damp.bits)), (.c (.int .i64 a0.Passes))]))]⟩) (ob := True ∧ True ∧ True ∧ (((((sl 3 cs_Vector a0.Points) : C) = (sl 3 cs_Vector a0.Points)) ∧ (((.int .i64 a1) : C) = (.int .i64 a1)) ∧ True) ∧ CallOK Try.prog 112 [.one (sl 3 cs_Vector a0.Points), .one (.int .i64 a1)] [.one (.int .i64 v1)]) ∧ True ∧ True) (by kernel_rfl) ⟨trivial, trivial, trivial, ⟨⟨rfl, rfl, trivial⟩, ok_laws_heldVectorS K a0.Points a1 v1 e2⟩, trivial, trivial⟩ ?_
  refine thenQ_normal ?_
  refine AW.seq ?_
  refine AW.seq ?_
  refine AW.regionA [] [1, 2, 10] [1] (s' := ⟨[(1, (.v (.one (.c (.int .i64 v1))))), (2, (.v (.one (.ptr 1 0)))), (10, (.v (.one (.c (.bool (decide (v1 < (0 : Int))))))))], [(1, (.box [(.c (sl 3 cs_Vector a0.Points)), (.c (sl 3 cs_Vector a0.Before)), (.c (sl 1 csB a0.Fixed)), (.c (sl 1 (csF .f32) a0.Lengths)), (.c (.flt .f32 a0.Fall.X.bits)), (.c (.flt .f32 a0.Fall.Y.bits)), (.c (.flt .f32 a0.Fall.Z.bits)), (.c (.flt .f32 a0.Damp.bits)), (.c (.int .i64 a0.Passes))]))]⟩) (ob := True ∧ True ∧ True) (by kernel_rfl) ⟨trivial, trivial, trivial⟩ ?_
  refine thenQ_normal ?_
  rcases ite2_cases h with ⟨b3, h⟩ | ⟨b3, h⟩
  · refine AW.cond_t rfl b3 ?_
    refine AW.seq ?_
    refine AW.regionA [] [4] [] (s' := ⟨[(4, (.v (.one (.c (.int .i64 ((-1) : Int))))))], []⟩) (ob := True ∧ True) (by kernel_rfl) ⟨trivial, trivial⟩ ?_
    refine thenQ_normal ?_
    refine AW.ret ?_
    refine thenQ_ret ?_
    replace h := some_eq h
    subst h
    exact ⟨.inr rfl, retOK_of [(.one (.c (.int .i64 ((-1) : Int))))] (by kernel_rfl) ⟨⟨rfl, trivial⟩, trivial⟩ (of_decide_eq_true (by kernel_rfl))⟩
  · refine AW.cond_f rfl b3 ?_
    refine AW.skip ?_
    refine thenQ_normal ?_
    refine AW.seq ?_
    obtain ⟨v4, e5, h⟩ := bind_some h
    refine AW.regionA [.no, .no, .no, .call [.one (sl 3 cs_Vector a0.Before), .one (.int .i64 v1)] [.one (.int .i64 v4)] [[.view]]] [1, 2] [1] (s' := ⟨[(1, (.v (.one (.c (.int .i64 v4))))), (2, (.v (.one (.ptr 1 0))))], [(1, (.box [(.c (sl 3 cs_Vector a0.Points)), (.c (sl 3 cs_Vector a0.Before)), (.c (sl 1 csB a0.Fixed)), (.c (sl 1 (csF .f32) a0.Lengths)), (.c (.flt .f32 a0.Fall.X.bits)), (.c (.flt .f32 a0.Fall.Y.bits)), (.c (.flt .f32 a0.Fall.Z.bits)), (.c (.flt .f32 a0.Damp.bits)), (.c (.int .i64 a0.Passes))]))]⟩) (ob := True ∧ True ∧ True ∧ (((((sl 3 cs_Vector a0.Before) : C) = (sl 3 cs_Vector a0.Before)) ∧ (((.int .i64 v1) : C) = (.int .i64 v1)) ∧ True) ∧ CallOK Try.prog 112 [.one (sl 3 cs_Vector a0.Before), .one (.int .i64 v1)] [.one (.int .i64 v4)]) ∧ True ∧ True) (by kernel_rfl) ⟨trivial, trivial, trivial, ⟨⟨rfl, rfl, trivial⟩, ok_laws_heldVectorS K a0.Before v1 v4 e5⟩, trivial, trivial⟩ ?_
    refine thenQ_normal ?_
    refine AW.seq ?_
    refine AW.seq ?_
    refine AW.regionA [] [1, 2, 16] [1] (s' := ⟨[(1, (.v (.one (.c (.int .i64 v4))))), (2, (.v (.one (.ptr 1 0)))), (16, (.v (.one (.c (.bool (decide (v4 < (0 : Int))))))))], [(1, (.box [(.c (sl 3 cs_Vector a0.Points)), (.c (sl 3 cs_Vector a0.Before)), (.c (sl 1 csB a0.Fixed)), (.c (sl 1 (csF .f32) a0.Lengths)), (.c (.flt .f32 a0.Fall.X.bits)), (.c (.flt .f32 a0.Fall.Y.bits)), (.c (.flt .f32 a0.Fall.Z.bits)), (.c (.flt .f32 a0.Damp.bits)), (.c (.int .i64 a0.Passes))]))]⟩) (ob := True ∧ True ∧ True) (by kernel_rfl) ⟨trivial, trivial, trivial⟩ ?_
    refine thenQ_normal ?_
    rcases ite2_cases h with ⟨b6, h⟩ | ⟨b6, h⟩
    · refine AW.cond_t rfl b6 ?_
      refine AW.seq ?_
      refine AW.regionA [] [4] [] (s' := ⟨[(4, (.v (.one (.c (.int .i64 ((-1) : Int))))))], []⟩) (ob := True ∧ True) (by kernel_rfl) ⟨trivial, trivial⟩ ?_
      refine thenQ_normal ?_
      refine AW.ret ?_
      refine thenQ_ret ?_
      replace h := some_eq h
      subst h
      exact ⟨.inr rfl, retOK_of [(.one (.c (.int .i64 ((-1) : Int))))] (by kernel_rfl) ⟨⟨rfl, trivial⟩, trivial⟩ (of_decide_eq_true (by kernel_rfl))⟩
    · refine AW.cond_f rfl b6 ?_
      refine AW.skip ?_
      refine thenQ_normal ?_
      refine AW.seq ?_
      obtain ⟨v7, e8, h⟩ := bind_some h
      refine AW.regionA [.no, .no, .no, .call [.one (sl 1 csB a0.Fixed), .one (.int .i64 v4)] [.one (.int .i64 v7)] [[.view]]] [1, 2] [1] (s' := ⟨[(1, (.v (.one (.c (.int .i64 v7))))), (2, (.v (.one (.ptr 1 0))))], [(1, (.box [(.c (sl 3 cs_Vector a0.Points)), (.c (sl 3 cs_Vector a0.Before)), (.c (sl 1 csB a0.Fixed)), (.c (sl 1 (csF .f32) a0.Lengths)), (.c (.flt .f32 a0.Fall.X.bits)), (.c (.flt .f32 a0.Fall.Y.bits)), (.c (.flt .f32 a0.Fall.Z.bits)), (.c (.flt .f32 a0.Damp.bits)), (.c (.int .i64 a0.Passes))]))]⟩) (ob := True ∧ True ∧ True ∧ (((((sl 1 csB a0.Fixed) : C) = (sl 1 csB a0.Fixed)) ∧ (((.int .i64 v4) : C) = (.int .i64 v4)) ∧ True) ∧ CallOK Try.prog 113 [.one (sl 1 csB a0.Fixed), .one (.int .i64 v4)] [.one (.int .i64 v7)]) ∧ True ∧ True) (by kernel_rfl) ⟨trivial, trivial, trivial, ⟨⟨rfl, rfl, trivial⟩, ok_laws_heldBoolS K a0.Fixed v4 v7 e8⟩, trivial, trivial⟩ ?_
      refine thenQ_normal ?_
      refine AW.seq ?_
      refine AW.seq ?_
      refine AW.regionA [] [1, 2, 22] [1] (s' := ⟨[(1, (.v (.one (.c (.int .i64 v7))))), (2, (.v (.one (.ptr 1 0)))), (22, (.v (.one (.c (.bool (decide (v7 < (0 : Int))))))))], [(1, (.box [(.c (sl 3 cs_Vector a0.Points)), (.c (sl 3 cs_Vector a0.Before)), (.c (sl 1 csB a0.Fixed)), (.c (sl 1 (csF .f32) a0.Lengths)), (.c (.flt .f32 a0.Fall.X.bits)), (.c (.flt .f32 a0.Fall.Y.bits)), (.c (.flt .f32 a0.Fall.Z.bits)), (.c (.flt .f32 a0.Damp.bits)), (.c (.int .i64 a0.Passes))]))]⟩) (ob := True ∧ True ∧ True) (by kernel_rfl) ⟨trivial, trivial, trivial⟩ ?_
      refine thenQ_normal ?_
      rcases ite2_cases h with ⟨b9, h⟩ | ⟨b9, h⟩
      · refine AW.cond_t rfl b9 ?_
        refine AW.seq ?_
        refine AW.regionA [] [4] [] (s' := ⟨[(4, (.v (.one (.c (.int .i64 ((-1) : Int))))))], []⟩) (ob := True ∧ True) (by kernel_rfl) ⟨trivial, trivial⟩ ?_
        refine thenQ_normal ?_
        refine AW.ret ?_
        refine thenQ_ret ?_
        replace h := some_eq h
        subst h
        exact ⟨.inr rfl, retOK_of [(.one (.c (.int .i64 ((-1) : Int))))] (by kernel_rfl) ⟨⟨rfl, trivial⟩, trivial⟩ (of_decide_eq_true (by kernel_rfl))⟩
      · refine AW.cond_f rfl b9 ?_
        refine AW.skip ?_
        refine thenQ_normal ?_
        refine AW.seq ?_
        obtain ⟨v10, e11, h⟩ := bind_some h
        refine AW.regionA [.no, .no, .no, .call [.one (sl 1 (csF .f32) a0.Lengths), .one (.int .i64 v7)] [.one (.int .i64 v10)] [[.view]]] [1] [] (s' := ⟨[(1, (.v (.one (.c (.int .i64 v10)))))], []⟩) (ob := True ∧ True ∧ True ∧ (((((sl 1 (csF .f32) a0.Lengths) : C) = (sl 1 (csF .f32) a0.Lengths)) ∧ (((.int .i64 v7) : C) = (.int .i64 v7)) ∧ True) ∧ CallOK Try.prog 114 [.one (sl 1 (csF .f32) a0.Lengths), .one (.int .i64 v7)] [.one (.int .i64 v10)]) ∧ True ∧ True) (by kernel_rfl) ⟨trivial, trivial, trivial, ⟨⟨rfl, rfl, trivial⟩, ok_laws_heldFloat32S K a0.Lengths v7 v10 e11⟩, trivial, trivial⟩ ?_
        refine thenQ_normal ?_
        refine AW.seq ?_
        refine AW.seq ?_
        refine AW.regionA [] [1, 28] [] (s' := ⟨[(1, (.v (.one (.c (.int .i64 v10))))), (28, (.v (.one (.c (.bool (decide (v10 < (0 : Int))))))))], []⟩) (ob := True ∧ True ∧ True) (by kernel_rfl) ⟨trivial, trivial, trivial⟩ ?_
        refine thenQ_normal ?_
        rcases ite2_cases h with ⟨b12, h⟩ | ⟨b12, h⟩
        · refine AW.cond_t rfl b12 ?_
          refine AW.seq ?_
          refine AW.regionA [] [4] [] (s' := ⟨[(4, (.v (.one (.c (.int .i64 ((-1) : Int))))))], []⟩) (ob := True ∧ True) (by kernel_rfl) ⟨trivial, trivial⟩ ?_
          refine thenQ_normal ?_
          refine AW.ret ?_
          refine thenQ_ret ?_
          replace h := some_eq h
          subst h
          exact ⟨.inr rfl, retOK_of [(.one (.c (.int .i64 ((-1) : Int))))] (by kernel_rfl) ⟨⟨rfl, trivial⟩, trivial⟩ (of_decide_eq_true (by kernel_rfl))⟩
        · refine AW.cond_f rfl b12 ?_
          refine AW.skip ?_
          refine thenQ_normal ?_
          refine AW.seq ?_
          refine AW.regionA [] [4] [] (s' := ⟨[(4, (.v (.one (.c (.int .i64 v10)))))], []⟩) (ob := True ∧ True ∧ True) (by kernel_rfl) ⟨trivial, trivial, trivial⟩ ?_
          refine thenQ_normal ?_
          refine AW.ret ?_
          replace h := some_eq h
          subst h
          exact ⟨.inr rfl, retOK_of [(.one (.c (.int .i64 v10)))] (by kernel_rfl) ⟨⟨rfl, trivial⟩, trivial⟩ (of_decide_eq_true (by kernel_rfl))⟩

/-! laws.FnExactLayString -/
def laws_FnExactLayString (K : Nat) (a0 : String) (a1 : F32) : Option (Bool) :=
  (laws_szString K a0 (1048576 : Int)).bind fun v1 => ite2 ((decide (v1 < (0 : Int)))) (some true) ((laws_toString K a0).bind fun v4 => (spec_LayString K v4 a1).bind fun v6 => (laws_toString K a0).bind fun v8 => (impl_LayString K v8 a1).bind fun v10 => (laws_eqString K v10.1 v6.1).bind fun v12 => (ite2 ((!v12)) (some true) (some (!(v10.2 == v6.2)))).bind fun j15 => ite2 (j15) (some false) ((laws_toString K a0).bind fun v18 => (laws_eqString K v8 v18).bind fun v20 => ite2 ((!v20)) (some false) ((laws_markString K v8 (1 : Int)).bind fun v23 => chk (v23.2.1.length = v8.Points.length) (chk (v23.2.2.1.length = v8.Before.length) (chk (v23.2.2.2.1.length = v8.Fixed.length) (chk (v23.2.2.2.2.length = v8.Lengths.length) ((ite2 ((decide (v23.1 < (0 : Int)))) (some true) ((laws_eqString K v10.1 v6.1).bind fun v30 => ite2 ((!v30)) (some true) (some (!(v10.2 == v6.2))))).bind fun j33 => ite2 (j33) (some false) ((laws_markString K v10.1 (1 : Int)).bind fun v36 => chk (v36.2.1.length = v10.1.Points.length) (chk (v36.2.2.1.length = v10.1.Before.length) (chk (v36.2.2.2.1.length = v10.1.Fixed.length) (chk (v36.2.2.2.2.length = v10.1.Lengths.length) ((laws_heldString K (String.mk v36.2.1 v36.2.2.1 v36.2.2.2.1 v36.2.2.2.2 v10.1.Fall v10.1.Damp v10.1.Passes) (1 : Int)).bind fun v42 => ite2 ((decide (v42 < (0 : Int)))) (some false) (ite2 ((v42 != v36.1)) (some false) ((laws_toString K a0).bind fun v46 => (impl_LayString K v46 a1).bind fun v48 => (laws_eqString K v48.1 v6.1).bind fun v50 => (ite2 ((!v50)) (some true) (some (!(v48.2 == v6.2)))).bind fun j53 => ite2 (j53) (some false) ((laws_heldString K (String.mk v36.2.1 v36.2.2.1 v36.2.2.2.1 v36.2.2.2.2 v10.1.Fall v10.1.Damp v10.1.Passes) (1 : Int)).bind fun v56 => ite2 ((decide (v56 < (0 : Int)))) (some false) (ite2 ((v56 != v36.1)) (some false) (some true)))))))))))))))))

theorem ok_laws_FnExactLayString (K : Nat) (a0 : String) (a1 : F32) (o : (Bool)) (h : laws_FnExactLayString K a0 a1 = some o) : CallOK Try.prog 3 [.agg (cs_String a0), .one (.flt .f32 a1.bits)] [.one (.bool o)] := by
  refine callOK_of_AW Try.func3 rfl (by kernel_rfl) (Nat.le_of_ble_eq_true (by kernel_rfl)) ?_
  intro w0
  unfold laws_FnExactLayString at h
  refine AW.seq ?_
  refine AW.regionA [.box 1] [1, 2] [1] (s' := ⟨[(1, (.v (.one (.c (.flt .f32 a1.bits))))), (2, (.v (.one (.ptr 1 0))))], [(1, (.box [(.c (sl 3 cs_Vector a0.Points)), (.c (sl 3 cs_Vector a0.Before)), (.c (sl 1 csB a0.Fixed)), (.c (sl 1 (csF .f32) a0.Lengths)), (.c (.flt .f32 a0.Fall.X.bits)), (.c (.flt .f32 a0.Fall.Y.bits)), (.c (.flt .f32 a0.Fall.Z.bits)), (.c (.flt .f32 a0.Damp.bits)), (.c (.int .i64 a0.Passes))]))]⟩) (ob := True ∧ True ∧ True) (by kernel_rfl) ⟨trivial, trivial, trivial⟩ ?_
  refine thenQ_normal ?_
  refine AW.seq ?_
  refine AW.regionA [] [1, 2, 5] [1] (s' := ⟨[(1, (.v (.one (.c (.flt .f32 a1.bits))))), (2, (.v (.one (.ptr 1 0)))), (5, (.v (.one (.c (.int .i64 (1048576 : Int))))))], [(1, (.box [(.c (sl 3 cs_Vector a0.Points)), (.c (sl 3 cs_Vector a0.Before)), (.c (sl 1 csB a0.Fixed)), (.c (sl 1 (csF .f32) a0.Lengths)), (.c (.flt .f32 a0.Fall.X.bits)), (.c (.flt .f32 a0.Fall.Y.bits)), (.c (.flt .f32 a0.Fall.Z.bits)), (.c (.flt .f32 a0.Damp.bits)), (.c (.int .i64 a0.Passes))]))]⟩) (ob := True ∧ True) (by kernel_rfl) ⟨trivial, trivial⟩ ?_
  refine thenQ_normal ?_
  refine AW.seq ?_
  obtain ⟨v1, e2, h⟩ := bind_some h
  refine AW.regionA [.no, .no, .call [.agg (cs_String a0), .one (.int .i64 (1048576 : Int))] [.one (.int .i64 v1)] [[.view]]] [1, 2, 5] [1] (s' := ⟨[(1, (.v (.one (.c (.flt .f32 a1.bits))))), (2, (.v (.one (.ptr 1 0)))), (5, (.v (.one (.c (.int .i64 v1)))))], [(1, (.box [(.c (sl 3 cs_Vector a0.Points)), (.c (sl 3 cs_Vector a0.Before)), (.c (sl 1 csB a0.Fixed)), (.c (sl 1 (csF .f32) a0.Lengths)), (.c (.flt .f32 a0.Fall.X.bits)), (.c (.flt .f32 a0.Fall.Y.bits)), (.c (.flt .f32 a0.Fall.Z.bits)), (.c (.flt .f32 a0.Damp.bits)), (.c (.int .i64 a0.Passes))]))]⟩) (ob := True ∧ True ∧ ((((((sl 3 cs_Vector a0.Points) : C) = (sl 3 cs_Vector a0.Points)) ∧ (((sl 3 cs_Vector a0.Before) : C) = (sl 3 cs_Vector a0.Before)) ∧ (((sl 1 csB a0.Fixed) : C) = (sl 1 csB a0.Fixed)) ∧ (((sl 1 (csF .f32) a0.Lengths) : C) = (sl 1 (csF .f32) a0.Lengths)) ∧ (((.flt .f32 a0.Fall.X.bits) : C) = (.flt .f32 a0.Fall.X.bits)) ∧ (((.flt .f32 a0.Fall.Y.bits) : C) = (.flt .f32 a0.Fall.Y.bits)) ∧ (((.flt .f32 a0.Fall.Z.bits) : C) = (.flt .f32 a0.Fall.Z.bits)) ∧ (((.flt .f32 a0.Damp.bits) : C) = (.flt .f32 a0.Damp.bits)) ∧ (((.int .i64 a0.Passes) : C) = (.int .i64 a0.Passes)) ∧ True) ∧ (((.int .i64 (1048576 : Int)) : C) = (.int .i64 (1048576 : Int))) ∧ True) ∧ CallOK Try.prog 15 [.agg (cs_String a0), .one (.int .i64 (1048576 : Int))] [.one (.int .i64 v1)]) ∧ True ∧ True) (by kernel_rfl) ⟨trivial, trivial, ⟨⟨⟨rfl, rfl, rfl, rfl, rfl, rfl, rfl, rfl, rfl, trivial⟩, rfl, trivial⟩, ok_laws_szString K a0 (1048576 : Int) v1 e2⟩, trivial, trivial⟩ ?_
  refine thenQ_normal ?_
  refine AW.seq ?_
  refine AW.seq ?_
  refine AW.regionA [] [1, 2, 20] [1] (s' := ⟨[(1, (.v (.one (.c (.flt .f32 a1.bits))))), (2, (.v (.one (.ptr 1 0)))), (20, (.v (.one (.c (.bool (decide (v1 < (0 : Int))))))))], [(1, (.box [(.c (sl 3 cs_Vector a0.Points)), (.c (sl 3 cs_Vector a0.Before)), (.c (sl 1 csB a0.Fixed)), (.c (sl 1 (csF .f32) a0.Lengths)), (.c (.flt .f32 a0.Fall.X.bits)), (.c (.flt .f32 a0.Fall.Y.bits)), (.c (.flt .f32 a0.Fall.Z.bits)), (.c (.flt .f32 a0.Damp.bits)), (.c (.int .i64 a0.Passes))]))]⟩) (ob := True ∧ True ∧ True) (by kernel_rfl) ⟨trivial, trivial, trivial⟩ ?_
  refine thenQ_normal ?_
  rcases ite2_cases h with ⟨b3, h⟩ | ⟨b3, h⟩
  · refine AW.cond_t rfl b3 ?_
    refine AW.seq ?_
    refine AW.regionA [] [4] [] (s' := ⟨[(4, (.v (.one (.c (.bool true)))))], []⟩) (ob := True ∧ True) (by kernel_rfl) ⟨trivial, trivial⟩ ?_
    refine thenQ_normal ?_
    refine AW.ret ?_
    refine thenQ_ret ?_
    replace h := some_eq h
    subst h
    exact ⟨.inr rfl, retOK_of [(.one (.c (.bool true)))] (by kernel_rfl) ⟨⟨rfl, trivial⟩, trivial⟩ (of_decide_eq_true (by kernel_rfl))⟩
  · refine AW.cond_f rfl b3 ?_
    refine AW.skip ?_
    refine thenQ_normal ?_
    refine AW.seq ?_
    obtain ⟨v4, e5, h⟩ := bind_some h
    obtain ⟨v6, e7, h⟩ := bind_some h
    refine AW.regionA [.no, .call [.agg (cs_String a0)] [.agg (cs_String v4)] [[.lst 2, .lst 3, .lst 4, .lst 5, .view, .view, .view, .view, .view]], .no, .call [.agg (cs_String v4), .one (.flt .f32 a1.bits)] [.agg (cs_String v6.1), .one (.bool v6.2)] [[.lst 6, .lst 7, .lst 8, .lst 9, .view, .view, .view, .view, .view], [.view]], .no, .no, .no, .box 10] [1, 2, 6, 7] [1, 6, 7, 8, 9, 10] (s' := ⟨[(1, (.v (.one (.c (.flt .f32 a1.bits))))), (2, (.v (.one (.ptr 1 0)))), (6, (.v (.one (.ptr 10 0)))), (7, (.v (.one (.c (.bool v6.2)))))], [(1, (.box [(.c (sl 3 cs_Vector a0.Points)), (.c (sl 3 cs_Vector a0.Before)), (.c (sl 1 csB a0.Fixed)), (.c (sl 1 (csF .f32) a0.Lengths)), (.c (.flt .f32 a0.Fall.X.bits)), (.c (.flt .f32 a0.Fall.Y.bits)), (.c (.flt .f32 a0.Fall.Z.bits)), (.c (.flt .f32 a0.Damp.bits)), (.c (.int .i64 a0.Passes))])), (6, (.lst v6.1.Points.length 3 (gl cs_Vector v6.1.Points))), (7, (.lst v6.1.Before.length 3 (gl cs_Vector v6.1.Before))), (8, (.lst v6.1.Fixed.length 1 (gl csB v6.1.Fixed))), (9, (.lst v6.1.Lengths.length 1 (gl (csF .f32) v6.1.Lengths))), (10, (.box [(.lst 6 v6.1.Points.length 3 (gl cs_Vector v6.1.Points)), (.lst 7 v6.1.Before.length 3 (gl cs_Vector v6.1.Before)), (.lst 8 v6.1.Fixed.length 1 (gl csB v6.1.Fixed)), (.lst 9 v6.1.Lengths.length 1 (gl (csF .f32) v6.1.Lengths)), (.c (.flt .f32 v6.1.Fall.X.bits)), (.c (.flt .f32 v6.1.Fall.Y.bits)), (.c (.flt .f32 v6.1.Fall.Z.bits)), (.c (.flt .f32 v6.1.Damp.bits)), (.c (.int .i64 v6.1.Passes))]))]⟩) (ob := True ∧ ((((((sl 3 cs_Vector a0.Points) : C) = (sl 3 cs_Vector a0.Points)) ∧ (((sl 3 cs_Vector a0.Before) : C) = (sl 3 cs_Vector a0.Before)) ∧ (((sl 1 csB a0.Fixed) : C) = (sl 1 csB a0.Fixed)) ∧ (((sl 1 (csF .f32) a0.Lengths) : C) = (sl 1 (csF .f32) a0.Lengths)) ∧ (((.flt .f32 a0.Fall.X.bits) : C) = (.flt .f32 a0.Fall.X.bits)) ∧ (((.flt .f32 a0.Fall.Y.bits) : C) = (.flt .f32 a0.Fall.Y.bits)) ∧ (((.flt .f32 a0.Fall.Z.bits) : C) = (.flt .f32 a0.Fall.Z.bits)) ∧ (((.flt .f32 a0.Damp.bits) : C) = (.flt .f32 a0.Damp.bits)) ∧ (((.int .i64 a0.Passes) : C) = (.int .i64 a0.Passes)) ∧ True) ∧ True) ∧ CallOK Try.prog 17 [.agg (cs_String a0)] [.agg (cs_String v4)]) ∧ True ∧ ((((((sl 3 cs_Vector v4.Points) : C) = (sl 3 cs_Vector v4.Points)) ∧ (((sl 3 cs_Vector v4.Before) : C) = (sl 3 cs_Vector v4.Before)) ∧ (((sl 1 csB v4.Fixed) : C) = (sl 1 csB v4.Fixed)) ∧ (((sl 1 (csF .f32) v4.Lengths) : C) = (sl 1 (csF .f32) v4.Lengths)) ∧ (((.flt .f32 v4.Fall.X.bits) : C) = (.flt .f32 v4.Fall.X.bits)) ∧ (((.flt .f32 v4.Fall.Y.bits) : C) = (.flt .f32 v4.Fall.Y.bits)) ∧ (((.flt .f32 v4.Fall.Z.bits) : C) = (.flt .f32 v4.Fall.Z.bits)) ∧ (((.flt .f32 v4.Damp.bits) : C) = (.flt .f32 v4.Damp.bits)) ∧ (((.int .i64 v4.Passes) : C) = (.int .i64 v4.Passes)) ∧ True) ∧ (((.flt .f32 a1.bits) : C) = (.flt .f32 a1.bits)) ∧ True) ∧ CallOK Try.prog 16 [.agg (cs_String v4), .one (.flt .f32 a1.bits)] [.agg (cs_String v6.1), .one (.bool v6.2)]) ∧ True ∧ True ∧ True ∧ True ∧ True ∧ True ∧ True) (by kernel_rfl) ⟨trivial, ⟨⟨⟨rfl, rfl, rfl, rfl, rfl, rfl, rfl, rfl, rfl, trivial⟩, trivial⟩, ok_laws_toString K a0 v4 e5⟩, trivial, ⟨⟨⟨rfl, rfl, rfl, rfl, rfl, rfl, rfl, rfl, rfl, trivial⟩, rfl, trivial⟩, ok_spec_LayString K v4 a1 v6 e7⟩, trivial, trivial, trivial, trivial, trivial, trivial, trivial⟩ ?_
    refine thenQ_normal ?_
    refine AW.seq ?_
    obtain ⟨v8, e9, h⟩ := bind_some h
    refine AW.regionA [.no, .call [.agg (cs_String a0)] [.agg (cs_String v8)] [[.own 11, .own 12, .own 13, .own 14, .view, .view, .view, .view, .view]], .box 15] [1, 2, 6, 7, 8] [1, 6, 7, 8, 9, 10, 11, 12, 13, 14, 15] (s' := ⟨[(1, (.v (.one (.c (.flt .f32 a1.bits))))), (2, (.v (.one (.ptr 1 0)))), (6, (.v (.one (.ptr 10 0)))), (7, (.v (.one (.c (.bool v6.2))))), (8, (.v (.one (.ptr 15 0))))], [(1, (.box [(.c (sl 3 cs_Vector a0.Points)), (.c (sl 3 cs_Vector a0.Before)), (.c (sl 1 csB a0.Fixed)), (.c (sl 1 (csF .f32) a0.Lengths)), (.c (.flt .f32 a0.Fall.X.bits)), (.c (.flt .f32 a0.Fall.Y.bits)), (.c (.flt .f32 a0.Fall.Z.bits)), (.c (.flt .f32 a0.Damp.bits)), (.c (.int .i64 a0.Passes))])), (6, (.lst v6.1.Points.length 3 (gl cs_Vector v6.1.Points))), (7, (.lst v6.1.Before.length 3 (gl cs_Vector v6.1.Before))), (8, (.lst v6.1.Fixed.length 1 (gl csB v6.1.Fixed))), (9, (.lst v6.1.Lengths.length 1 (gl (csF .f32) v6.1.Lengths))), (10, (.box [(.lst 6 v6.1.Points.length 3 (gl cs_Vector v6.1.Points)), (.lst 7 v6.1.Before.length 3 (gl cs_Vector v6.1.Before)), (.lst 8 v6.1.Fixed.length 1 (gl csB v6.1.Fixed)), (.lst 9 v6.1.Lengths.length 1 (gl (csF .f32) v6.1.Lengths)), (.c (.flt .f32 v6.1.Fall.X.bits)), (.c (.flt .f32 v6.1.Fall.Y.bits)), (.c (.flt .f32 v6.1.Fall.Z.bits)), (.c (.flt .f32 v6.1.Damp.bits)), (.c (.int .i64 v6.1.Passes))])), (11, (.arr true v8.Points.length 3 (gl cs_Vector v8.Points))), (12, (.arr true v8.Before.length 3 (gl cs_Vector v8.Before))), (13, (.arr true v8.Fixed.length 1 (gl csB v8.Fixed))), (14, (.arr true v8.Lengths.length 1 (gl (csF .f32) v8.Lengths))), (15, (.box [(.arr 11), (.arr 12), (.arr 13), (.arr 14), (.c (.flt .f32 v8.Fall.X.bits)), (.c (.flt .f32 v8.Fall.Y.bits)), (.c (.flt .f32 v8.Fall.Z.bits)), (.c (.flt .f32 v8.Damp.bits)), (.c (.int .i64 v8.Passes))]))]⟩) (ob := True ∧ ((((((sl 3 cs_Vector a0.Points) : C) = (sl 3 cs_Vector a0.Points)) ∧ (((sl 3 cs_Vector a0.Before) : C) = (sl 3 cs_Vector a0.Before)) ∧ (((sl 1 csB a0.Fixed) : C) = (sl 1 csB a0.Fixed)) ∧ (((sl 1 (csF .f32) a0.Lengths) : C) = (sl 1 (csF .f32) a0.Lengths)) ∧ (((.flt .f32 a0.Fall.X.bits) : C) = (.flt .f32 a0.Fall.X.bits)) ∧ (((.flt .f32 a0.Fall.Y.bits) : C) = (.flt .f32 a0.Fall.Y.bits)) ∧ (((.flt .f32 a0.Fall.Z.bits) : C) = (.flt .f32 a0.Fall.Z.bits)) ∧ (((.flt .f32 a0.Damp.bits) : C) = (.flt .f32 a0.Damp.bits)) ∧ (((.int .i64 a0.Passes) : C) = (.int .i64 a0.Passes)) ∧ True) ∧ True) ∧ CallOK Try.prog 17 [.agg (cs_String a0)] [.agg (cs_String v8)]) ∧ True ∧ True ∧ True) (by kernel_rfl) ⟨trivial, ⟨⟨⟨rfl, rfl, rfl, rfl, rfl, rfl, rfl, rfl, rfl, trivial⟩, trivial⟩, ok_laws_toString K a0 v8 e9⟩, trivial, trivial, trivial⟩ ?_
    refine thenQ_normal ?_
    refine AW.seq ?_
    obtain ⟨v10, e11, h⟩ := bind_some h
    refine AW.regionA [.no, .no, .call [.agg (cs_String v8), .one (.flt .f32 a1.bits)] [.agg (cs_String v10.1), .one (.bool v10.2)] [[.own 16, .own 17, .own 18, .own 19, .view, .view, .view, .view, .view], [.view]], .no, .no, .no, .box 20] [1, 2, 6, 7, 8, 9, 10] [1, 6, 7, 8, 9, 10, 11, 12, 13, 14, 15, 16, 17, 18, 19, 20] (s' := ⟨[(1, (.v (.one (.c (.flt .f32 a1.bits))))), (2, (.v (.one (.ptr 1 0)))), (6, (.v (.one (.ptr 10 0)))), (7, (.v (.one (.c (.bool v6.2))))), (8, (.v (.one (.ptr 15 0)))), (9, (.v (.one (.ptr 20 0)))), (10, (.v (.one (.c (.bool v10.2)))))], [(1, (.box [(.c (sl 3 cs_Vector a0.Points)), (.c (sl 3 cs_Vector a0.Before)), (.c (sl 1 csB a0.Fixed)), (.c (sl 1 (csF .f32) a0.Lengths)), (.c (.flt .f32 a0.Fall.X.bits)), (.c (.flt .f32 a0.Fall.Y.bits)), (.c (.flt .f32 a0.Fall.Z.bits)), (.c (.flt .f32 a0.Damp.bits)), (.c (.int .i64 a0.Passes))])), (6, (.lst v6.1.Points.length 3 (gl cs_Vector v6.1.Points))), (7, (.lst v6.1.Before.length 3 (gl cs_Vector v6.1.Before))), (8, (.lst v6.1.Fixed.length 1 (gl csB v6.1.Fixed))), (9, (.lst v6.1.Lengths.length 1 (gl (csF .f32) v6.1.Lengths))), (10, (.box [(.lst 6 v6.1.Points.length 3 (gl cs_Vector v6.1.Points)), (.lst 7 v6.1.Before.length 3 (gl cs_Vector v6.1.Before)), (.lst 8 v6.1.Fixed.length 1 (gl csB v6.1.Fixed)), (.lst 9 v6.1.Lengths.length 1 (gl (csF .f32) v6.1.Lengths)), (.c (.flt .f32 v6.1.Fall.X.bits)), (.c (.flt .f32 v6.1.Fall.Y.bits)), (.c (.flt .f32 v6.1.Fall.Z.bits)), (.c (.flt .f32 v6.1.Damp.bits)), (.c (.int .i64 v6.1.Passes))])), (11, (.arr true v8.Points.length 3 (gl cs_Vector v8.Points))), (12, (.arr true v8.Before.length 3 (gl cs_Vector v8.Before))), (13, (.arr true v8.Fixed.length 1 (gl csB v8.Fixed))), (14, (.arr true v8.Lengths.length 1 (gl (csF .f32) v8.Lengths))), (15, (.box [(.arr 11), (.arr 12), (.arr 13), (.arr 14), (.c (.flt .f32 v8.Fall.X.bits)), (.c (.flt .f32 v8.Fall.Y.bits)), (.c (.flt .f32 v8.Fall.Z.bits)), (.c (.flt .f32 v8.Damp.bits)), (.c (.int .i64 v8.Passes))])), (16, (.arr true v10.1.Points.length 3 (gl cs_Vector v10.1.Points))), (17, (.arr true v10.1.Before.length 3 (gl cs_Vector v10.1.Before))), (18, (.arr true v10.1.Fixed.length 1 (gl csB v10.1.Fixed))), (19, (.arr true v10.1.Lengths.length 1 (gl (csF .f32) v10.1.Lengths))), (20, (.box [(.arr 16), (.arr 17), (.arr 18), (.arr 19), (.c (.flt .f32 v10.1.Fall.X.bits)), (.c (.flt .f32 v10.1.Fall.Y.bits)), (.c (.flt .f32 v10.1.Fall.Z.bits)), (.c (.flt .f32 v10.1.Damp.bits)), (.c (.int .i64 v10.1.Passes))]))]⟩) (ob := True ∧ True ∧ ((((((sl 3 cs_Vector v8.Points) : C) = (sl 3 cs_Vector v8.Points)) ∧ (((sl 3 cs_Vector v8.Before) : C) = (sl 3 cs_Vector v8.Before)) ∧ (((sl 1 csB v8.Fixed) : C) = (sl 1 csB v8.Fixed)) ∧ (((sl 1 (csF .f32) v8.Lengths) : C) = (sl 1 (csF .f32) v8.Lengths)) ∧ (((.flt .f32 v8.Fall.X.bits) : C) = (.flt .f32 v8.Fall.X.bits)) ∧ (((.flt .f32 v8.Fall.Y.bits) : C) = (.flt .f32 v8.Fall.Y.bits)) ∧ (((.flt .f32 v8.Fall.Z.bits) : C) = (.flt .f32 v8.Fall.Z.bits)) ∧ (((.flt .f32 v8.Damp.bits) : C) = (.flt .f32 v8.Damp.bits)) ∧ (((.int .i64 v8.Passes) : C) = (.int .i64 v8.Passes)) ∧ True) ∧ (((.flt .f32 a1.bits) : C) = (.flt .f32 a1.bits)) ∧ True) ∧ CallOK Try.prog 18 [.agg (cs_String v8), .one (.flt .f32 a1.bits)] [.agg (cs_String v10.1), .one (.bool v10.2)]) ∧ True ∧ True ∧ True ∧ True ∧ True ∧ True ∧ True) (by kernel_rfl) ⟨trivial, trivial, ⟨⟨⟨rfl, rfl, rfl, rfl, rfl, rfl, rfl, rfl, rfl, trivial⟩, rfl, trivial⟩, ok_impl_LayString K v8 a1 v10 e11⟩, trivial, trivial, trivial, trivial, trivial, trivial, trivial⟩ ?_
    refine thenQ_normal ?_
    refine AW.seq ?_
    refine AW.seq ?_
    obtain ⟨v12, e13, h⟩ := bind_some h
    obtain ⟨j15, e16, h⟩ := bind_some h
    refine AW.join1 (s2 := ⟨[(1, (.v (.one (.c (.flt .f32 a1.bits))))), (2, (.v (.one (.ptr 1 0)))), (6, (.v (.one (.ptr 10 0)))), (7, (.v (.one (.c (.bool v6.2))))), (8, (.v (.one (.ptr 15 0)))), (9, (.v (.one (.ptr 20 0)))), (10, (.v (.one (.c (.bool v10.2))))), (44, (.v (.one (.c (.bool j15)))))], [(1, (.box [(.c (sl 3 cs_Vector a0.Points)), (.c (sl 3 cs_Vector a0.Before)), (.c (sl 1 csB a0.Fixed)), (.c (sl 1 (csF .f32) a0.Lengths)), (.c (.flt .f32 a0.Fall.X.bits)), (.c (.flt .f32 a0.Fall.Y.bits)), (.c (.flt .f32 a0.Fall.Z.bits)), (.c (.flt .f32 a0.Damp.bits)), (.c (.int .i64 a0.Passes))])), (6, (.lst v6.1.Points.length 3 (gl cs_Vector v6.1.Points))), (7, (.lst v6.1.Before.length 3 (gl cs_Vector v6.1.Before))), (8, (.lst v6.1.Fixed.length 1 (gl csB v6.1.Fixed))), (9, (.lst v6.1.Lengths.length 1 (gl (csF .f32) v6.1.Lengths))), (10, (.box [(.lst 6 v6.1.Points.length 3 (gl cs_Vector v6.1.Points)), (.lst 7 v6.1.Before.length 3 (gl cs_Vector v6.1.Before)), (.lst 8 v6.1.Fixed.length 1 (gl csB v6.1.Fixed)), (.lst 9 v6.1.Lengths.length 1 (gl (csF .f32) v6.1.Lengths)), (.c (.flt .f32 v6.1.Fall.X.bits)), (.c (.flt .f32 v6.1.Fall.Y.bits)), (.c (.flt .f32 v6.1.Fall.Z.bits)), (.c (.flt .f32 v6.1.Damp.bits)), (.c (.int .i64 v6.1.Passes))])), (11, (.arr true v8.Points.length 3 (gl cs_Vector v8.Points))), (12, (.arr true v8.Before.length 3 (gl cs_Vector v8.Before))), (13, (.arr true v8.Fixed.length 1 (gl csB v8.Fixed))), (14, (.arr true v8.Lengths.length 1 (gl (csF .f32) v8.Lengths))), (15, (.box [(.arr 11), (.arr 12), (.arr 13), (.arr 14), (.c (.flt .f32 v8.Fall.X.bits)), (.c (.flt .f32 v8.Fall.Y.bits)), (.c (.flt .f32 v8.Fall.Z.bits)), (.c (.flt .f32 v8.Damp.bits)), (.c (.int .i64 v8.Passes))])), (16, (.arr true v10.1.Points.length 3 (gl cs_Vector v10.1.Points))), (17, (.arr true v10.1.Before.length 3 (gl cs_Vector v10.1.Before))), (18, (.arr true v10.1.Fixed.length 1 (gl csB v10.1.Fixed))), (19, (.arr true v10.1.Lengths.length 1 (gl (csF .f32) v10.1.Lengths))), (20, (.box [(.arr 16), (.arr 17), (.arr 18), (.arr 19), (.c (.flt .f32 v10.1.Fall.X.bits)), (.c (.flt .f32 v10.1.Fall.Y.bits)), (.c (.flt .f32 v10.1.Fall.Z.bits)), (.c (.flt .f32 v10.1.Damp.bits)), (.c (.int .i64 v10.1.Passes))]))]⟩) ?_ ?_
    · rcases ite2_cases e16 with ⟨b14, e16⟩ | ⟨b14, e16⟩
      · replace e16 := some_eq e16
        subst e16
        exact AW.regionA [.no, .no, .call [.agg (cs_String v10.1), .agg (cs_String v6.1)] [.one (.bool v12)] [[.view]], .no, .dec true] [1, 2, 6, 7, 8, 9, 10, 44] [1, 6, 7, 8, 9, 10, 11, 12, 13, 14, 15, 16, 17, 18, 19, 20] (s' := ⟨[(1, (.v (.one (.c (.flt .f32 a1.bits))))), (2, (.v (.one (.ptr 1 0)))), (6, (.v (.one (.ptr 10 0)))), (7, (.v (.one (.c (.bool v6.2))))), (8, (.v (.one (.ptr 15 0)))), (9, (.v (.one (.ptr 20 0)))), (10, (.v (.one (.c (.bool v10.2))))), (44, (.v (.one (.c (.bool true)))))], [(1, (.box [(.c (sl 3 cs_Vector a0.Points)), (.c (sl 3 cs_Vector a0.Before)), (.c (sl 1 csB a0.Fixed)), (.c (sl 1 (csF .f32) a0.Lengths)), (.c (.flt .f32 a0.Fall.X.bits)), (.c (.flt .f32 a0.Fall.Y.bits)), (.c (.flt .f32 a0.Fall.Z.bits)), (.c (.flt .f32 a0.Damp.bits)), (.c (.int .i64 a0.Passes))])), (6, (.lst v6.1.Points.length 3 (gl cs_Vector v6.1.Points))), (7, (.lst v6.1.Before.length 3 (gl cs_Vector v6.1.Before))), (8, (.lst v6.1.Fixed.length 1 (gl csB v6.1.Fixed))), (9, (.lst v6.1.Lengths.length 1 (gl (csF .f32) v6.1.Lengths))), (10, (.box [(.lst 6 v6.1.Points.length 3 (gl cs_Vector v6.1.Points)), (.lst 7 v6.1.Before.length 3 (gl cs_Vector v6.1.Before)), (.lst 8 v6.1.Fixed.length 1 (gl csB v6.1.Fixed)), (.lst 9 v6.1.Lengths.length 1 (gl (csF .f32) v6.1.Lengths)), (.c (.flt .f32 v6.1.Fall.X.bits)), (.c (.flt .f32 v6.1.Fall.Y.bits)), (.c (.flt .f32 v6.1.Fall.Z.bits)), (.c (.flt .f32 v6.1.Damp.bits)), (.c (.int .i64 v6.1.Passes))])), (11, (.arr true v8.Points.length 3 (gl cs_Vector v8.Points))), (12, (.arr true v8.Before.length 3 (gl cs_Vector v8.Before))), (13, (.arr true v8.Fixed.length 1 (gl csB v8.Fixed))), (14, (.arr true v8.Lengths.length 1 (gl (csF .f32) v8.Lengths))), (15, (.box [(.arr 11), (.arr 12), (.arr 13), (.arr 14), (.c (.flt .f32 v8.Fall.X.bits)), (.c (.flt .f32 v8.Fall.Y.bits)), (.c (.flt .f32 v8.Fall.Z.bits)), (.c (.flt .f32 v8.Damp.bits)), (.c (.int .i64 v8.Passes))])), (16, (.arr true v10.1.Points.length 3 (gl cs_Vector v10.1.Points))), (17, (.arr true v10.1.Before.length 3 (gl cs_Vector v10.1.Before))), (18, (.arr true v10.1.Fixed.length 1 (gl csB v10.1.Fixed))), (19, (.arr true v10.1.Lengths.length 1 (gl (csF .f32) v10.1.Lengths))), (20, (.box [(.arr 16), (.arr 17), (.arr 18), (.arr 19), (.c (.flt .f32 v10.1.Fall.X.bits)), (.c (.flt .f32 v10.1.Fall.Y.bits)), (.c (.flt .f32 v10.1.Fall.Z.bits)), (.c (.flt .f32 v10.1.Damp.bits)), (.c (.int .i64 v10.1.Passes))]))]⟩) (ob := True ∧ True ∧ ((((((sl 3 cs_Vector v10.1.Points) : C) = (sl 3 cs_Vector v10.1.Points)) ∧ (((sl 3 cs_Vector v10.1.Before) : C) = (sl 3 cs_Vector v10.1.Before)) ∧ (((sl 1 csB v10.1.Fixed) : C) = (sl 1 csB v10.1.Fixed)) ∧ (((sl 1 (csF .f32) v10.1.Lengths) : C) = (sl 1 (csF .f32) v10.1.Lengths)) ∧ (((.flt .f32 v10.1.Fall.X.bits) : C) = (.flt .f32 v10.1.Fall.X.bits)) ∧ (((.flt .f32 v10.1.Fall.Y.bits) : C) = (.flt .f32 v10.1.Fall.Y.bits)) ∧ (((.flt .f32 v10.1.Fall.Z.bits) : C) = (.flt .f32 v10.1.Fall.Z.bits)) ∧ (((.flt .f32 v10.1.Damp.bits) : C) = (.flt .f32 v10.1.Damp.bits)) ∧ (((.int .i64 v10.1.Passes) : C) = (.int .i64 v10.1.Passes)) ∧ True) ∧ ((((sl 3 cs_Vector v6.1.Points) : C) = (sl 3 cs_Vector v6.1.Points)) ∧ (((sl 3 cs_Vector v6.1.Before) : C) = (sl 3 cs_Vector v6.1.Before)) ∧ (((sl 1 csB v6.1.Fixed) : C) = (sl 1 csB v6.1.Fixed)) ∧ (((sl 1 (csF .f32) v6.1.Lengths) : C) = (sl 1 (csF .f32) v6.1.Lengths)) ∧ (((.flt .f32 v6.1.Fall.X.bits) : C) = (.flt .f32 v6.1.Fall.X.bits)) ∧ (((.flt .f32 v6.1.Fall.Y.bits) : C) = (.flt .f32 v6.1.Fall.Y.bits)) ∧ (((.flt .f32 v6.1.Fall.Z.bits) : C) = (.flt .f32 v6.1.Fall.Z.bits)) ∧ (((.flt .f32 v6.1.Damp.bits) : C) = (.flt .f32 v6.1.Damp.bits)) ∧ (((.int .i64 v6.1.Passes) : C) = (.int .i64 v6.1.Passes)) ∧ True) ∧ True) ∧ CallOK Try.prog 19 [.agg (cs_String v10.1), .agg (cs_String v6.1)] [.one (.bool v12)]) ∧ True ∧ (True ∧ (!v12) = true) ∧ True ∧ True ∧ True ∧ True ∧ True) (by kernel_rfl) ⟨trivial, trivial, ⟨⟨⟨rfl, rfl, rfl, rfl, rfl, rfl, rfl, rfl, rfl, trivial⟩, ⟨rfl, rfl, rfl, rfl, rfl, rfl, rfl, rfl, rfl, trivial⟩, trivial⟩, ok_laws_eqString K v10.1 v6.1 v12 e13⟩, trivial, ⟨trivial, b14⟩, trivial, trivial, trivial, trivial, trivial⟩ ⟨rfl, rfl⟩
      · replace e16 := some_eq e16
        subst e16
        exact AW.regionA [.no, .no, .call [.agg (cs_String v10.1), .agg (cs_String v6.1)] [.one (.bool v12)] [[.view]], .no, .dec false] [1, 2, 6, 7, 8, 9, 10, 44] [1, 6, 7, 8, 9, 10, 11, 12, 13, 14, 15, 16, 17, 18, 19, 20] (s' := ⟨[(1, (.v (.one (.c (.flt .f32 a1.bits))))), (2, (.v (.one (.ptr 1 0)))), (6, (.v (.one (.ptr 10 0)))), (7, (.v (.one (.c (.bool v6.2))))), (8, (.v (.one (.ptr 15 0)))), (9, (.v (.one (.ptr 20 0)))), (10, (.v (.one (.c (.bool v10.2))))), (44, (.v (.one (.c (.bool (!(v10.2 == v6.2)))))))], [(1, (.box [(.c (sl 3 cs_Vector a0.Points)), (.c (sl 3 cs_Vector a0.Before)), (.c (sl 1 csB a0.Fixed)), (.c (sl 1 (csF .f32) a0.Lengths)), (.c (.flt .f32 a0.Fall.X.bits)), (.c (.flt .f32 a0.Fall.Y.bits)), (.c (.flt .f32 a0.Fall.Z.bits)), (.c (.flt .f32 a0.Damp.bits)), (.c (.int .i64 a0.Passes))])), (6, (.lst v6.1.Points.length 3 (gl cs_Vector v6.1.Points))), (7, (.lst v6.1.Before.length 3 (gl cs_Vector v6.1.Before))), (8, (.lst v6.1.Fixed.length 1 (gl csB v6.1.Fixed))), (9, (.lst v6.1.Lengths.length 1 (gl (csF .f32) v6.1.Lengths))), (10, (.box [(.lst 6 v6.1.Points.length 3 (gl cs_Vector v6.1.Points)), (.lst 7 v6.1.Before.length 3 (gl cs_Vector v6.1.Before)), (.lst 8 v6.1.Fixed.length 1 (gl csB v6.1.Fixed)), (.lst 9 v6.1.Lengths.length 1 (gl (csF .f32) v6.1.Lengths)), (.c (.flt .f32 v6.1.Fall.X.bits)), (.c (.flt .f32 v6.1.Fall.Y.bits)), (.c (.flt .f32 v6.1.Fall.Z.bits)), (.c (.flt .f32 v6.1.Damp.bits)), (.c (.int .i64 v6.1.Passes))])), (11, (.arr true v8.Points.length 3 (gl cs_Vector v8.Points))), (12, (.arr true v8.Before.length 3 (gl cs_Vector v8.Before))), (13, (.arr true v8.Fixed.length 1 (gl csB v8.Fixed))), (14, (.arr true v8.Lengths.length 1 (gl (csF .f32) v8.Lengths))), (15, (.box [(.arr 11), (.arr 12), (.arr 13), (.arr 14), (.c (.flt .f32 v8.Fall.X.bits)), (.c (.flt .f32 v8.Fall.Y.bits)), (.c (.flt .f32 v8.Fall.Z.bits)), (.c (.flt .f32 v8.Damp.bits)), (.c (.int .i64 v8.Passes))])), (16, (.arr true v10.1.Points.length 3 (gl cs_Vector v10.1.Points))), (17, (.arr true v10.1.Before.length 3 (gl cs_Vector v10.1.Before))), (18, (.arr true v10.1.Fixed.length 1 (gl csB v10.1.Fixed))), (19, (.arr true v10.1.Lengths.length 1 (gl (csF .f32) v10.1.Lengths))), (20, (.box [(.arr 16), (.arr 17), (.arr 18), (.arr 19), (.c (.flt .f32 v10.1.Fall.X.bits)), (.c (.flt .f32 v10.1.Fall.Y.bits)), (.c (.flt .f32 v10.1.Fall.Z.bits)), (.c (.flt .f32 v10.1.Damp.bits)), (.c (.int .i64 v10.1.Passes))]))]⟩) (ob := True ∧ True ∧ ((((((sl 3 cs_Vector v10.1.Points) : C) = (sl 3 cs_Vector v10.1.Points)) ∧ (((sl 3 cs_Vector v10.1.Before) : C) = (sl 3 cs_Vector v10.1.Before)) ∧ (((sl 1 csB v10.1.Fixed) : C) = (sl 1 csB v10.1.Fixed)) ∧ (((sl 1 (csF .f32) v10.1.Lengths) : C) = (sl 1 (csF .f32) v10.1.Lengths)) ∧ (((.flt .f32 v10.1.Fall.X.bits) : C) = (.flt .f32 v10.1.Fall.X.bits)) ∧ (((.flt .f32 v10.1.Fall.Y.bits) : C) = (.flt .f32 v10.1.Fall.Y.bits)) ∧ (((.flt .f32 v10.1.Fall.Z.bits) : C) = (.flt .f32 v10.1.Fall.Z.bits)) ∧ (((.flt .f32 v10.1.Damp.bits) : C) = (.flt .f32 v10.1.Damp.bits)) ∧ (((.int .i64 v10.1.Passes) : C) = (.int .i64 v10.1.Passes)) ∧ True) ∧ ((((sl 3 cs_Vector v6.1.Points) : C) = (sl 3 cs_Vector v6.1.Points)) ∧ (((sl 3 cs_Vector v6.1.Before) : C) = (sl 3 cs_Vector v6.1.Before)) ∧ (((sl 1 csB v6.1.Fixed) : C) = (sl 1 csB v6.1.Fixed)) ∧ (((sl 1 (csF .f32) v6.1.Lengths) : C) = (sl 1 (csF .f32) v6.1.Lengths)) ∧ (((.flt .f32 v6.1.Fall.X.bits) : C) = (.flt .f32 v6.1.Fall.X.bits)) ∧ (((.flt .f32 v6.1.Fall.Y.bits) : C) = (.flt .f32 v6.1.Fall.Y.bits)) ∧ (((.flt .f32 v6.1.Fall.Z.bits) : C) = (.flt .f32 v6.1.Fall.Z.bits)) ∧ (((.flt .f32 v6.1.Damp.bits) : C) = (.flt .f32 v6.1.Damp.bits)) ∧ (((.int .i64 v6.1.Passes) : C) = (.int .i64 v6.1.Passes)) ∧ True) ∧ True) ∧ CallOK Try.prog 19 [.agg (cs_String v10.1), .agg (cs_String v6.1)] [.one (.bool v12)]) ∧ True ∧ (True ∧ (!v12) = false) ∧ True ∧ True ∧ True ∧ True ∧ True) (by kernel_rfl) ⟨trivial, trivial, ⟨⟨⟨rfl, rfl, rfl, rfl, rfl, rfl, rfl, rfl, rfl, trivial⟩, ⟨rfl, rfl, rfl, rfl, rfl, rfl, rfl, rfl, rfl, trivial⟩, trivial⟩, ok_laws_eqString K v10.1 v6.1 v12 e13⟩, trivial, ⟨trivial, b14⟩, trivial, trivial, trivial, trivial, trivial⟩ ⟨rfl, rfl⟩
    refine thenQ_normal ?_
    rcases ite2_cases h with ⟨b17, h⟩ | ⟨b17, h⟩
    · refine AW.cond_t rfl b17 ?_
      refine AW.seq ?_
      refine AW.regionA [] [4] [] (s' := ⟨[(4, (.v (.one (.c (.bool false)))))], []⟩) (ob := True ∧ True) (by kernel_rfl) ⟨trivial, trivial⟩ ?_
      refine thenQ_normal ?_
      refine AW.ret ?_
      refine thenQ_ret ?_
      replace h := some_eq h
      subst h
      exact ⟨.inr rfl, retOK_of [(.one (.c (.bool false)))] (by kernel_rfl) ⟨⟨rfl, trivial⟩, trivial⟩ (of_decide_eq_true (by kernel_rfl))⟩
    · refine AW.cond_f rfl b17 ?_
      refine AW.skip ?_
      refine thenQ_normal ?_
      refine AW.seq ?_
      refine AW.seq ?_
      obtain ⟨v18, e19, h⟩ := bind_some h
      obtain ⟨v20, e21, h⟩ := bind_some h
      refine AW.drawnA (by kernel_rfl) 5 [.no, .no, .call [.agg (cs_String a0)] [.agg (cs_String v18)] [[.lst 21, .lst 22, .lst 23, .lst 24, .view, .view, .view, .view, .view]], .call [.agg (cs_String v8), .agg (cs_String v18)] [.one (.bool v20)] [[.view]]] [1, 2, 6, 7, 8, 9, 10, 49] [1, 6, 7, 8, 9, 10, 11, 12, 13, 14, 15, 16, 17, 18, 19, 20] (s' := ⟨[(1, (.v (.one (.c (.flt .f32 a1.bits))))), (2, (.v (.one (.ptr 1 0)))), (6, (.v (.one (.ptr 10 0)))), (7, (.v (.one (.c (.bool v6.2))))), (8, (.v (.one (.ptr 15 0)))), (9, (.v (.one (.ptr 20 0)))), (10, (.v (.one (.c (.bool v10.2))))), (49, (.v (.one (.c (.bool (!v20))))))], [(1, (.box [(.c (sl 3 cs_Vector a0.Points)), (.c (sl 3 cs_Vector a0.Before)), (.c (sl 1 csB a0.Fixed)), (.c (sl 1 (csF .f32) a0.Lengths)), (.c (.flt .f32 a0.Fall.X.bits)), (.c (.flt .f32 a0.Fall.Y.bits)), (.c (.flt .f32 a0.Fall.Z.bits)), (.c (.flt .f32 a0.Damp.bits)), (.c (.int .i64 a0.Passes))])), (6, (.lst v6.1.Points.length 3 (gl cs_Vector v6.1.Points))), (7, (.lst v6.1.Before.length 3 (gl cs_Vector v6.1.Before))), (8, (.lst v6.1.Fixed.length 1 (gl csB v6.1.Fixed))), (9, (.lst v6.1.Lengths.length 1 (gl (csF .f32) v6.1.Lengths))), (10, (.box [(.lst 6 v6.1.Points.length 3 (gl cs_Vector v6.1.Points)), (.lst 7 v6.1.Before.length 3 (gl cs_Vector v6.1.Before)), (.lst 8 v6.1.Fixed.length 1 (gl csB v6.1.Fixed)), (.lst 9 v6.1.Lengths.length 1 (gl (csF .f32) v6.1.Lengths)), (.c (.flt .f32 v6.1.Fall.X.bits)), (.c (.flt .f32 v6.1.Fall.Y.bits)), (.c (.flt .f32 v6.1.Fall.Z.bits)), (.c (.flt .f32 v6.1.Damp.bits)), (.c (.int .i64 v6.1.Passes))])), (11, (.arr true v8.Points.length 3 (gl cs_Vector v8.Points))), (12, (.arr true v8.Before.length 3 (gl cs_Vector v8.Before))), (13, (.arr true v8.Fixed.length 1 (gl csB v8.Fixed))), (14, (.arr true v8.Lengths.length 1 (gl (csF .f32) v8.Lengths))), (15, (.box [(.arr 11), (.arr 12), (.arr 13), (.arr 14), (.c (.flt .f32 v8.Fall.X.bits)), (.c (.flt .f32 v8.Fall.Y.bits)), (.c (.flt .f32 v8.Fall.Z.bits)), (.c (.flt .f32 v8.Damp.bits)), (.c (.int .i64 v8.Passes))])), (16, (.arr true v10.1.Points.length 3 (gl cs_Vector v10.1.Points))), (17, (.arr true v10.1.Before.length 3 (gl cs_Vector v10.1.Before))), (18, (.arr true v10.1.Fixed.length 1 (gl csB v10.1.Fixed))), (19, (.arr true v10.1.Lengths.length 1 (gl (csF .f32) v10.1.Lengths))), (20, (.box [(.arr 16), (.arr 17), (.arr 18), (.arr 19), (.c (.flt .f32 v10.1.Fall.X.bits)), (.c (.flt .f32 v10.1.Fall.Y.bits)), (.c (.flt .f32 v10.1.Fall.Z.bits)), (.c (.flt .f32 v10.1.Damp.bits)), (.c (.int .i64 v10.1.Passes))]))]⟩) (ob := (True ∧ True ∧ ((((((sl 3 cs_Vector a0.Points) : C) = (sl 3 cs_Vector a0.Points)) ∧ (((sl 3 cs_Vector a0.Before) : C) = (sl 3 cs_Vector a0.Before)) ∧ (((sl 1 csB a0.Fixed) : C) = (sl 1 csB a0.Fixed)) ∧ (((sl 1 (csF .f32) a0.Lengths) : C) = (sl 1 (csF .f32) a0.Lengths)) ∧ (((.flt .f32 a0.Fall.X.bits) : C) = (.flt .f32 a0.Fall.X.bits)) ∧ (((.flt .f32 a0.Fall.Y.bits) : C) = (.flt .f32 a0.Fall.Y.bits)) ∧ (((.flt .f32 a0.Fall.Z.bits) : C) = (.flt .f32 a0.Fall.Z.bits)) ∧ (((.flt .f32 a0.Damp.bits) : C) = (.flt .f32 a0.Damp.bits)) ∧ (((.int .i64 a0.Passes) : C) = (.int .i64 a0.Passes)) ∧ True) ∧ True) ∧ CallOK Try.prog 17 [.agg (cs_String a0)] [.agg (cs_String v18)]) ∧ ((((((sl 3 cs_Vector v8.Points) : C) = (sl 3 cs_Vector v8.Points)) ∧ (((sl 3 cs_Vector v8.Before) : C) = (sl 3 cs_Vector v8.Before)) ∧ (((sl 1 csB v8.Fixed) : C) = (sl 1 csB v8.Fixed)) ∧ (((sl 1 (csF .f32) v8.Lengths) : C) = (sl 1 (csF .f32) v8.Lengths)) ∧ (((.flt .f32 v8.Fall.X.bits) : C) = (.flt .f32 v8.Fall.X.bits)) ∧ (((.flt .f32 v8.Fall.Y.bits) : C) = (.flt .f32 v8.Fall.Y.bits)) ∧ (((.flt .f32 v8.Fall.Z.bits) : C) = (.flt .f32 v8.Fall.Z.bits)) ∧ (((.flt .f32 v8.Damp.bits) : C) = (.flt .f32 v8.Damp.bits)) ∧ (((.int .i64 v8.Passes) : C) = (.int .i64 v8.Passes)) ∧ True) ∧ ((((sl 3 cs_Vector v18.Points) : C) = (sl 3 cs_Vector v18.Points)) ∧ (((sl 3 cs_Vector v18.Before) : C) = (sl 3 cs_Vector v18.Before)) ∧ (((sl 1 csB v18.Fixed) : C) = (sl 1 csB v18.Fixed)) ∧ (((sl 1 (csF .f32) v18.Lengths) : C) = (sl 1 (csF .f32) v18.Lengths)) ∧ (((.flt .f32 v18.Fall.X.bits) : C) = (.flt .f32 v18.Fall.X.bits)) ∧ (((.flt .f32 v18.Fall.Y.bits) : C) = (.flt .f32 v18.Fall.Y.bits)) ∧ (((.flt .f32 v18.Fall.Z.bits) : C) = (.flt .f32 v18.Fall.Z.bits)) ∧ (((.flt .f32 v18.Damp.bits) : C) = (.flt .f32 v18.Damp.bits)) ∧ (((.int .i64 v18.Passes) : C) = (.int .i64 v18.Passes)) ∧ True) ∧ True) ∧ CallOK Try.prog 19 [.agg (cs_String v8), .agg (cs_String v18)] [.one (.bool v20)]) ∧ True ∧ True) ∧ (True)) (by kernel_rfl) ⟨⟨trivial, trivial, ⟨⟨⟨rfl, rfl, rfl, rfl, rfl, rfl, rfl, rfl, rfl, trivial⟩, trivial⟩, ok_laws_toString K a0 v18 e19⟩, ⟨⟨⟨rfl, rfl, rfl, rfl, rfl, rfl, rfl, rfl, rfl, trivial⟩, ⟨rfl, rfl, rfl, rfl, rfl, rfl, rfl, rfl, rfl, trivial⟩, trivial⟩, ok_laws_eqString K v8 v18 v20 e21⟩, trivial, trivial⟩, trivial⟩ ?_
      refine thenQ_normal ?_
      rcases ite2_cases h with ⟨b22, h⟩ | ⟨b22, h⟩
      · refine AW.cond_t rfl b22 ?_
        refine AW.seq ?_
        refine AW.regionA [] [4] [] (s' := ⟨[(4, (.v (.one (.c (.bool false)))))], []⟩) (ob := True ∧ True) (by kernel_rfl) ⟨trivial, trivial⟩ ?_
        refine thenQ_normal ?_
        refine AW.ret ?_
        refine thenQ_ret ?_
        replace h := some_eq h
        subst h
        exact ⟨.inr rfl, retOK_of [(.one (.c (.bool false)))] (by kernel_rfl) ⟨⟨rfl, trivial⟩, trivial⟩ (of_decide_eq_true (by kernel_rfl))⟩
      · refine AW.cond_f rfl b22 ?_
        refine AW.skip ?_
        refine thenQ_normal ?_
        refine AW.seq ?_
        refine AW.regionA [] [1, 2, 6, 7, 8, 9, 10, 11] [1, 6, 7, 8, 9, 10, 11, 12, 13, 14, 15, 16, 17, 18, 19, 20] (s' := ⟨[(1, (.v (.one (.c (.flt .f32 a1.bits))))), (2, (.v (.one (.ptr 1 0)))), (6, (.v (.one (.ptr 10 0)))), (7, (.v (.one (.c (.bool v6.2))))), (8, (.v (.one (.ptr 15 0)))), (9, (.v (.one (.ptr 20 0)))), (10, (.v (.one (.c (.bool v10.2))))), (11, (.v (.one (.c (.int .i64 (1 : Int))))))], [(1, (.box [(.c (sl 3 cs_Vector a0.Points)), (.c (sl 3 cs_Vector a0.Before)), (.c (sl 1 csB a0.Fixed)), (.c (sl 1 (csF .f32) a0.Lengths)), (.c (.flt .f32 a0.Fall.X.bits)), (.c (.flt .f32 a0.Fall.Y.bits)), (.c (.flt .f32 a0.Fall.Z.bits)), (.c (.flt .f32 a0.Damp.bits)), (.c (.int .i64 a0.Passes))])), (6, (.lst v6.1.Points.length 3 (gl cs_Vector v6.1.Points))), (7, (.lst v6.1.Before.length 3 (gl cs_Vector v6.1.Before))), (8, (.lst v6.1.Fixed.length 1 (gl csB v6.1.Fixed))), (9, (.lst v6.1.Lengths.length 1 (gl (csF .f32) v6.1.Lengths))), (10, (.box [(.lst 6 v6.1.Points.length 3 (gl cs_Vector v6.1.Points)), (.lst 7 v6.1.Before.length 3 (gl cs_Vector v6.1.Before)), (.lst 8 v6.1.Fixed.length 1 (gl csB v6.1.Fixed)), (.lst 9 v6.1.Lengths.length 1 (gl (csF .f32) v6.1.Lengths)), (.c (.flt .f32 v6.1.Fall.X.bits)), (.c (.flt .f32 v6.1.Fall.Y.bits)), (.c (.flt .f32 v6.1.Fall.Z.bits)), (.c (.flt .f32 v6.1.Damp.bits)), (.c (.int .i64 v6.1.Passes))])), (11, (.arr true v8.Points.length 3 (gl cs_Vector v8.Points))), (12, (.arr true v8.Before.length 3 (gl cs_Vector v8.Before))), (13, (.arr true v8.Fixed.length 1 (gl csB v8.Fixed))), (14, (.arr true v8.Lengths.length 1 (gl (csF .f32) v8.Lengths))), (15, (.box [(.arr 11), (.arr 12), (.arr 13), (.arr 14), (.c (.flt .f32 v8.Fall.X.bits)), (.c (.flt .f32 v8.Fall.Y.bits)), (.c (.flt .f32 v8.Fall.Z.bits)), (.c (.flt .f32 v8.Damp.bits)), (.c (.int .i64 v8.Passes))])), (16, (.arr true v10.1.Points.length 3 (gl cs_Vector v10.1.Points))), (17, (.arr true v10.1.Before.length 3 (gl cs_Vector v10.1.Before))), (18, (.arr true v10.1.Fixed.length 1 (gl csB v10.1.Fixed))), (19, (.arr true v10.1.Lengths.length 1 (gl (csF .f32) v10.1.Lengths))), (20, (.box [(.arr 16), (.arr 17), (.arr 18), (.arr 19), (.c (.flt .f32 v10.1.Fall.X.bits)), (.c (.flt .f32 v10.1.Fall.Y.bits)), (.c (.flt .f32 v10.1.Fall.Z.bits)), (.c (.flt .f32 v10.1.Damp.bits)), (.c (.int .i64 v10.1.Passes))]))]⟩) (ob := True ∧ True) (by kernel_rfl) ⟨trivial, trivial⟩ ?_
        refine thenQ_normal ?_
        refine AW.seq ?_
        obtain ⟨v23, e24, h⟩ := bind_some h
        obtain ⟨c25, h⟩ := chk_some h
        obtain ⟨c26, h⟩ := chk_some h
        obtain ⟨c27, h⟩ := chk_some h
        obtain ⟨c28, h⟩ := chk_some h
        refine AW.regionA [.no, .no, .callM [(.agg [(.mu (sl 3 cs_Vector v8.Points) (sl 3 cs_Vector v23.2.1)), (.mu (sl 3 cs_Vector v8.Before) (sl 3 cs_Vector v23.2.2.1)), (.mu (sl 1 csB v8.Fixed) (sl 1 csB v23.2.2.2.1)), (.mu (sl 1 (csF .f32) v8.Lengths) (sl 1 (csF .f32) v23.2.2.2.2)), (.ro (.flt .f32 v8.Fall.X.bits)), (.ro (.flt .f32 v8.Fall.Y.bits)), (.ro (.flt .f32 v8.Fall.Z.bits)), (.ro (.flt .f32 v8.Damp.bits)), (.ro (.int .i64 v8.Passes))]), .one (.ro (.int .i64 (1 : Int)))] [.one (.int .i64 v23.1)] [[.view]] none] [1, 2, 6, 7, 9, 10, 11] [1, 6, 7, 8, 9, 10, 16, 17, 18, 19, 20] (s' := ⟨[(1, (.v (.one (.c (.flt .f32 a1.bits))))), (2, (.v (.one (.ptr 1 0)))), (6, (.v (.one (.ptr 10 0)))), (7, (.v (.one (.c (.bool v6.2))))), (9, (.v (.one (.ptr 20 0)))), (10, (.v (.one (.c (.bool v10.2))))), (11, (.v (.one (.c (.int .i64 v23.1)))))], [(1, (.box [(.c (sl 3 cs_Vector a0.Points)), (.c (sl 3 cs_Vector a0.Before)), (.c (sl 1 csB a0.Fixed)), (.c (sl 1 (csF .f32) a0.Lengths)), (.c (.flt .f32 a0.Fall.X.bits)), (.c (.flt .f32 a0.Fall.Y.bits)), (.c (.flt .f32 a0.Fall.Z.bits)), (.c (.flt .f32 a0.Damp.bits)), (.c (.int .i64 a0.Passes))])), (6, (.lst v6.1.Points.length 3 (gl cs_Vector v6.1.Points))), (7, (.lst v6.1.Before.length 3 (gl cs_Vector v6.1.Before))), (8, (.lst v6.1.Fixed.length 1 (gl csB v6.1.Fixed))), (9, (.lst v6.1.Lengths.length 1 (gl (csF .f32) v6.1.Lengths))), (10, (.box [(.lst 6 v6.1.Points.length 3 (gl cs_Vector v6.1.Points)), (.lst 7 v6.1.Before.length 3 (gl cs_Vector v6.1.Before)), (.lst 8 v6.1.Fixed.length 1 (gl csB v6.1.Fixed)), (.lst 9 v6.1.Lengths.length 1 (gl (csF .f32) v6.1.Lengths)), (.c (.flt .f32 v6.1.Fall.X.bits)), (.c (.flt .f32 v6.1.Fall.Y.bits)), (.c (.flt .f32 v6.1.Fall.Z.bits)), (.c (.flt .f32 v6.1.Damp.bits)), (.c (.int .i64 v6.1.Passes))])), (16, (.arr true v10.1.Points.length 3 (gl cs_Vector v10.1.Points))), (17, (.arr true v10.1.Before.length 3 (gl cs_Vector v10.1.Before))), (18, (.arr true v10.1.Fixed.length 1 (gl csB v10.1.Fixed))), (19, (.arr true v10.1.Lengths.length 1 (gl (csF .f32) v10.1.Lengths))), (20, (.box [(.arr 16), (.arr 17), (.arr 18), (.arr 19), (.c (.flt .f32 v10.1.Fall.X.bits)), (.c (.flt .f32 v10.1.Fall.Y.bits)), (.c (.flt .f32 v10.1.Fall.Z.bits)), (.c (.flt .f32 v10.1.Damp.bits)), (.c (.int .i64 v10.1.Passes))]))]⟩) (ob := True ∧ True ∧ ((((((sl 3 cs_Vector v8.Points) : C) = (sl 3 cs_Vector v8.Points) ∧ v23.2.1.length = v8.Points.length ∧ 3 = 3 ∧ ∀ i j, i < v8.Points.length → j < 3 → isSeq (gl cs_Vector v23.2.1 i j) = isSeq (gl cs_Vector v8.Points i j)) ∧ (((sl 3 cs_Vector v8.Before) : C) = (sl 3 cs_Vector v8.Before) ∧ v23.2.2.1.length = v8.Before.length ∧ 3 = 3 ∧ ∀ i j, i < v8.Before.length → j < 3 → isSeq (gl cs_Vector v23.2.2.1 i j) = isSeq (gl cs_Vector v8.Before i j)) ∧ (((sl 1 csB v8.Fixed) : C) = (sl 1 csB v8.Fixed) ∧ v23.2.2.2.1.length = v8.Fixed.length ∧ 1 = 1 ∧ ∀ i j, i < v8.Fixed.length → j < 1 → isSeq (gl csB v23.2.2.2.1 i j) = isSeq (gl csB v8.Fixed i j)) ∧ (((sl 1 (csF .f32) v8.Lengths) : C) = (sl 1 (csF .f32) v8.Lengths) ∧ v23.2.2.2.2.length = v8.Lengths.length ∧ 1 = 1 ∧ ∀ i j, i < v8.Lengths.length → j < 1 → isSeq (gl (csF .f32) v23.2.2.2.2 i j) = isSeq (gl (csF .f32) v8.Lengths i j)) ∧ (((.flt .f32 v8.Fall.X.bits) : C) = (.flt .f32 v8.Fall.X.bits)) ∧ (((.flt .f32 v8.Fall.Y.bits) : C) = (.flt .f32 v8.Fall.Y.bits)) ∧ (((.flt .f32 v8.Fall.Z.bits) : C) = (.flt .f32 v8.Fall.Z.bits)) ∧ (((.flt .f32 v8.Damp.bits) : C) = (.flt .f32 v8.Damp.bits)) ∧ (((.int .i64 v8.Passes) : C) = (.int .i64 v8.Passes)) ∧ True) ∧ (((.int .i64 (1 : Int)) : C) = (.int .i64 (1 : Int))) ∧ True) ∧ MutOK Try.prog 20 [(.agg [(.mu (sl 3 cs_Vector v8.Points) (sl 3 cs_Vector v23.2.1)), (.mu (sl 3 cs_Vector v8.Before) (sl 3 cs_Vector v23.2.2.1)), (.mu (sl 1 csB v8.Fixed) (sl 1 csB v23.2.2.2.1)), (.mu (sl 1 (csF .f32) v8.Lengths) (sl 1 (csF .f32) v23.2.2.2.2)), (.ro (.flt .f32 v8.Fall.X.bits)), (.ro (.flt .f32 v8.Fall.Y.bits)), (.ro (.flt .f32 v8.Fall.Z.bits)), (.ro (.flt .f32 v8.Damp.bits)), (.ro (.int .i64 v8.Passes))]), .one (.ro (.int .i64 (1 : Int)))] [.one (.int .i64 v23.1)]) ∧ True ∧ True) (by kernel_rfl) ⟨trivial, trivial, ⟨⟨⟨⟨rfl, c25, rfl, gl_seq sq_Vector⟩, ⟨rfl, c26, rfl, gl_seq sq_Vector⟩, ⟨rfl, c27, rfl, gl_seq sqB⟩, ⟨rfl, c28, rfl, gl_seq sqF⟩, rfl, rfl, rfl, rfl, rfl, trivial⟩, rfl, trivial⟩, ok_laws_markString K v8 (1 : Int) v23 e24⟩, trivial, trivial⟩ ?_
        refine thenQ_normal ?_
        refine AW.seq ?_
        refine AW.seq ?_
        obtain ⟨j33, e34, h⟩ := bind_some h
        refine AW.join1 (s2 := ⟨[(1, (.v (.one (.c (.flt .f32 a1.bits))))), (2, (.v (.one (.ptr 1 0)))), (6, (.v (.one (.ptr 10 0)))), (7, (.v (.one (.c (.bool v6.2))))), (9, (.v (.one (.ptr 20 0)))), (65, (.v (.one (.c (.bool j33)))))], [(1, (.box [(.c (sl 3 cs_Vector a0.Points)), (.c (sl 3 cs_Vector a0.Before)), (.c (sl 1 csB a0.Fixed)), (.c (sl 1 (csF .f32) a0.Lengths)), (.c (.flt .f32 a0.Fall.X.bits)), (.c (.flt .f32 a0.Fall.Y.bits)), (.c (.flt .f32 a0.Fall.Z.bits)), (.c (.flt .f32 a0.Damp.bits)), (.c (.int .i64 a0.Passes))])), (6, (.lst v6.1.Points.length 3 (gl cs_Vector v6.1.Points))), (7, (.lst v6.1.Before.length 3 (gl cs_Vector v6.1.Before))), (8, (.lst v6.1.Fixed.length 1 (gl csB v6.1.Fixed))), (9, (.lst v6.1.Lengths.length 1 (gl (csF .f32) v6.1.Lengths))), (10, (.box [(.lst 6 v6.1.Points.length 3 (gl cs_Vector v6.1.Points)), (.lst 7 v6.1.Before.length 3 (gl cs_Vector v6.1.Before)), (.lst 8 v6.1.Fixed.length 1 (gl csB v6.1.Fixed)), (.lst 9 v6.1.Lengths.length 1 (gl (csF .f32) v6.1.Lengths)), (.c (.flt .f32 v6.1.Fall.X.bits)), (.c (.flt .f32 v6.1.Fall.Y.bits)), (.c (.flt .f32 v6.1.Fall.Z.bits)), (.c (.flt .f32 v6.1.Damp.bits)), (.c (.int .i64 v6.1.Passes))])), (16, (.arr true v10.1.Points.length 3 (gl cs_Vector v10.1.Points))), (17, (.arr true v10.1.Before.length 3 (gl cs_Vector v10.1.Before))), (18, (.arr true v10.1.Fixed.length 1 (gl csB v10.1.Fixed))), (19, (.arr true v10.1.Lengths.length 1 (gl (csF .f32) v10.1.Lengths))), (20, (.box [(.arr 16), (.arr 17), (.arr 18), (.arr 19), (.c (.flt .f32 v10.1.Fall.X.bits)), (.c (.flt .f32 v10.1.Fall.Y.bits)), (.c (.flt .f32 v10.1.Fall.Z.bits)), (.c (.flt .f32 v10.1.Damp.bits)), (.c (.int .i64 v10.1.Passes))]))]⟩) ?_ ?_
        · rcases ite2_cases e34 with ⟨b29, e34⟩ | ⟨b29, e34⟩
          · replace e34 := some_eq e34
            subst e34
            exact AW.regionA [.no, .no, .dec true] [1, 2, 6, 7, 9, 65] [1, 6, 7, 8, 9, 10, 16, 17, 18, 19, 20] (s' := ⟨[(1, (.v (.one (.c (.flt .f32 a1.bits))))), (2, (.v (.one (.ptr 1 0)))), (6, (.v (.one (.ptr 10 0)))), (7, (.v (.one (.c (.bool v6.2))))), (9, (.v (.one (.ptr 20 0)))), (65, (.v (.one (.c (.bool true)))))], [(1, (.box [(.c (sl 3 cs_Vector a0.Points)), (.c (sl 3 cs_Vector a0.Before)), (.c (sl 1 csB a0.Fixed)), (.c (sl 1 (csF .f32) a0.Lengths)), (.c (.flt .f32 a0.Fall.X.bits)), (.c (.flt .f32 a0.Fall.Y.bits)), (.c (.flt .f32 a0.Fall.Z.bits)), (.c (.flt .f32 a0.Damp.bits)), (.c (.int .i64 a0.Passes))])), (6, (.lst v6.1.Points.length 3 (gl cs_Vector v6.1.Points))), (7, (.lst v6.1.Before.length 3 (gl cs_Vector v6.1.Before))), (8, (.lst v6.1.Fixed.length 1 (gl csB v6.1.Fixed))), (9, (.lst v6.1.Lengths.length 1 (gl (csF .f32) v6.1.Lengths))), (10, (.box [(.lst 6 v6.1.Points.length 3 (gl cs_Vector v6.1.Points)), (.lst 7 v6.1.Before.length 3 (gl cs_Vector v6.1.Before)), (.lst 8 v6.1.Fixed.length 1 (gl csB v6.1.Fixed)), (.lst 9 v6.1.Lengths.length 1 (gl (csF .f32) v6.1.Lengths)), (.c (.flt .f32 v6.1.Fall.X.bits)), (.c (.flt .f32 v6.1.Fall.Y.bits)), (.c (.flt .f32 v6.1.Fall.Z.bits)), (.c (.flt .f32 v6.1.Damp.bits)), (.c (.int .i64 v6.1.Passes))])), (16, (.arr true v10.1.Points.length 3 (gl cs_Vector v10.1.Points))), (17, (.arr true v10.1.Before.length 3 (gl cs_Vector v10.1.Before))), (18, (.arr true v10.1.Fixed.length 1 (gl csB v10.1.Fixed))), (19, (.arr true v10.1.Lengths.length 1 (gl (csF .f32) v10.1.Lengths))), (20, (.box [(.arr 16), (.arr 17), (.arr 18), (.arr 19), (.c (.flt .f32 v10.1.Fall.X.bits)), (.c (.flt .f32 v10.1.Fall.Y.bits)), (.c (.flt .f32 v10.1.Fall.Z.bits)), (.c (.flt .f32 v10.1.Damp.bits)), (.c (.int .i64 v10.1.Passes))]))]⟩) (ob := True ∧ True ∧ (True ∧ (decide (v23.1 < (0 : Int))) = true) ∧ True ∧ True ∧ True ∧ True ∧ True ∧ True ∧ True ∧ True ∧ True ∧ True ∧ True) (by kernel_rfl) ⟨trivial, trivial, ⟨trivial, b29⟩, trivial, trivial, trivial, trivial, trivial, trivial, trivial, trivial, trivial, trivial, trivial⟩ ⟨rfl, rfl⟩
          · obtain ⟨v30, e31, e34⟩ := bind_some e34
            rcases ite2_cases e34 with ⟨b32, e34⟩ | ⟨b32, e34⟩
            · replace e34 := some_eq e34
              subst e34
              exact AW.regionA [.no, .no, .dec false, .no, .no, .call [.agg (cs_String v10.1), .agg (cs_String v6.1)] [.one (.bool v30)] [[.view]], .no, .no, .dec true] [1, 2, 6, 7, 9, 65] [1, 6, 7, 8, 9, 10, 16, 17, 18, 19, 20] (s' := ⟨[(1, (.v (.one (.c (.flt .f32 a1.bits))))), (2, (.v (.one (.ptr 1 0)))), (6, (.v (.one (.ptr 10 0)))), (7, (.v (.one (.c (.bool v6.2))))), (9, (.v (.one (.ptr 20 0)))), (65, (.v (.one (.c (.bool true)))))], [(1, (.box [(.c (sl 3 cs_Vector a0.Points)), (.c (sl 3 cs_Vector a0.Before)), (.c (sl 1 csB a0.Fixed)), (.c (sl 1 (csF .f32) a0.Lengths)), (.c (.flt .f32 a0.Fall.X.bits)), (.c (.flt .f32 a0.Fall.Y.bits)), (.c (.flt .f32 a0.Fall.Z.bits)), (.c (.flt .f32 a0.Damp.bits)), (.c (.int .i64 a0.Passes))])), (6, (.lst v6.1.Points.length 3 (gl cs_Vector v6.1.Points))), (7, (.lst v6.1.Before.length 3 (gl cs_Vector v6.1.Before))), (8, (.lst v6.1.Fixed.length 1 (gl csB v6.1.Fixed))), (9, (.lst v6.1.Lengths.length 1 (gl (csF .f32) v6.1.Lengths))), (10, (.box [(.lst 6 v6.1.Points.length 3 (gl cs_Vector v6.1.Points)), (.lst 7 v6.1.Before.length 3 (gl cs_Vector v6.1.Before)), (.lst 8 v6.1.Fixed.length 1 (gl csB v6.1.Fixed)), (.lst 9 v6.1.Lengths.length 1 (gl (csF .f32) v6.1.Lengths)), (.c (.flt .f32 v6.1.Fall.X.bits)), (.c (.flt .f32 v6.1.Fall.Y.bits)), (.c (.flt .f32 v6.1.Fall.Z.bits)), (.c (.flt .f32 v6.1.Damp.bits)), (.c (.int .i64 v6.1.Passes))])), (16, (.arr true v10.1.Points.length 3 (gl cs_Vector v10.1.Points))), (17, (.arr true v10.1.Before.length 3 (gl cs_Vector v10.1.Before))), (18, (.arr true v10.1.Fixed.length 1 (gl csB v10.1.Fixed))), (19, (.arr true v10.1.Lengths.length 1 (gl (csF .f32) v10.1.Lengths))), (20, (.box [(.arr 16), (.arr 17), (.arr 18), (.arr 19), (.c (.flt .f32 v10.1.Fall.X.bits)), (.c (.flt .f32 v10.1.Fall.Y.bits)), (.c (.flt .f32 v10.1.Fall.Z.bits)), (.c (.flt .f32 v10.1.Damp.bits)), (.c (.int .i64 v10.1.Passes))]))]⟩) (ob := True ∧ True ∧ (True ∧ (decide (v23.1 < (0 : Int))) = false) ∧ True ∧ True ∧ ((((((sl 3 cs_Vector v10.1.Points) : C) = (sl 3 cs_Vector v10.1.Points)) ∧ (((sl 3 cs_Vector v10.1.Before) : C) = (sl 3 cs_Vector v10.1.Before)) ∧ (((sl 1 csB v10.1.Fixed) : C) = (sl 1 csB v10.1.Fixed)) ∧ (((sl 1 (csF .f32) v10.1.Lengths) : C) = (sl 1 (csF .f32) v10.1.Lengths)) ∧ (((.flt .f32 v10.1.Fall.X.bits) : C) = (.flt .f32 v10.1.Fall.X.bits)) ∧ (((.flt .f32 v10.1.Fall.Y.bits) : C) = (.flt .f32 v10.1.Fall.Y.bits)) ∧ (((.flt .f32 v10.1.Fall.Z.bits) : C) = (.flt .f32 v10.1.Fall.Z.bits)) ∧ (((.flt .f32 v10.1.Damp.bits) : C) = (.flt .f32 v10.1.Damp.bits)) ∧ (((.int .i64 v10.1.Passes) : C) = (.int .i64 v10.1.Passes)) ∧ True) ∧ ((((sl 3 cs_Vector v6.1.Points) : C) = (sl 3 cs_Vector v6.1.Points)) ∧ (((sl 3 cs_Vector v6.1.Before) : C) = (sl 3 cs_Vector v6.1.Before)) ∧ (((sl 1 csB v6.1.Fixed) : C) = (sl 1 csB v6.1.Fixed)) ∧ (((sl 1 (csF .f32) v6.1.Lengths) : C) = (sl 1 (csF .f32) v6.1.Lengths)) ∧ (((.flt .f32 v6.1.Fall.X.bits) : C) = (.flt .f32 v6.1.Fall.X.bits)) ∧ (((.flt .f32 v6.1.Fall.Y.bits) : C) = (.flt .f32 v6.1.Fall.Y.bits)) ∧ (((.flt .f32 v6.1.Fall.Z.bits) : C) = (.flt .f32 v6.1.Fall.Z.bits)) ∧ (((.flt .f32 v6.1.Damp.bits) : C) = (.flt .f32 v6.1.Damp.bits)) ∧ (((.int .i64 v6.1.Passes) : C) = (.int .i64 v6.1.Passes)) ∧ True) ∧ True) ∧ CallOK Try.prog 19 [.agg (cs_String v10.1), .agg (cs_String v6.1)] [.one (.bool v30)]) ∧ True ∧ True ∧ (True ∧ (!v30) = true) ∧ True ∧ True ∧ True ∧ True ∧ True) (by kernel_rfl) ⟨trivial, trivial, ⟨trivial, b29⟩, trivial, trivial, ⟨⟨⟨rfl, rfl, rfl, rfl, rfl, rfl, rfl, rfl, rfl, trivial⟩, ⟨rfl, rfl, rfl, rfl, rfl, rfl, rfl, rfl, rfl, trivial⟩, trivial⟩, ok_laws_eqString K v10.1 v6.1 v30 e31⟩, trivial, trivial, ⟨trivial, b32⟩, trivial, trivial, trivial, trivial, trivial⟩ ⟨rfl, rfl⟩
            · replace e34 := some_eq e34
              subst e34
              exact AW.regionA [.no, .no, .dec false, .no, .no, .call [.agg (cs_String v10.1), .agg (cs_String v6.1)] [.one (.bool v30)] [[.view]], .no, .no, .dec false] [1, 2, 6, 7, 9, 65] [1, 6, 7, 8, 9, 10, 16, 17, 18, 19, 20] (s' := ⟨[(1, (.v (.one (.c (.flt .f32 a1.bits))))), (2, (.v (.one (.ptr 1 0)))), (6, (.v (.one (.ptr 10 0)))), (7, (.v (.one (.c (.bool v6.2))))), (9, (.v (.one (.ptr 20 0)))), (65, (.v (.one (.c (.bool (!(v10.2 == v6.2)))))))], [(1, (.box [(.c (sl 3 cs_Vector a0.Points)), (.c (sl 3 cs_Vector a0.Before)), (.c (sl 1 csB a0.Fixed)), (.c (sl 1 (csF .f32) a0.Lengths)), (.c (.flt .f32 a0.Fall.X.bits)), (.c (.flt .f32 a0.Fall.Y.bits)), (.c (.flt .f32 a0.Fall.Z.bits)), (.c (.flt .f32 a0.Damp.bits)), (.c (.int .i64 a0.Passes))])), (6, (.lst v6.1.Points.length 3 (gl cs_Vector v6.1.Points))), (7, (.lst v6.1.Before.length 3 (gl cs_Vector v6.1.Before))), (8, (.lst v6.1.Fixed.length 1 (gl csB v6.1.Fixed))), (9, (.lst v6.1.Lengths.length 1 (gl (csF .f32) v6.1.Lengths))), (10, (.box [(.lst 6 v6.1.Points.length 3 (gl cs_Vector v6.1.Points)), (.lst 7 v6.1.Before.length 3 (gl cs_Vector v6.1.Before)), (.lst 8 v6.1.Fixed.length 1 (gl csB v6.1.Fixed)), (.lst 9 v6.1.Lengths.length 1 (gl (csF .f32) v6.1.Lengths)), (.c (.flt .f32 v6.1.Fall.X.bits)), (.c (.flt .f32 v6.1.Fall.Y.bits)), (.c (.flt .f32 v6.1.Fall.Z.bits)), (.c (.flt .f32 v6.1.Damp.bits)), (.c (.int .i64 v6.1.Passes))])), (16, (.arr true v10.1.Points.length 3 (gl cs_Vector v10.1.Points))), (17, (.arr true v10.1.Before.length 3 (gl cs_Vector v10.1.Before))), (18, (.arr true v10.1.Fixed.length 1 (gl csB v10.1.Fixed))), (19, (.arr true v10.1.Lengths.length 1 (gl (csF .f32) v10.1.Lengths))), (20, (.box [(.arr 16), (.arr 17), (.arr 18), (.arr 19), (.c (.flt .f32 v10.1.Fall.X.bits)), (.c (.flt .f32 v10.1.Fall.Y.bits)), (.c (.flt .f32 v10.1.Fall.Z.bits)), (.c (.flt .f32 v10.1.Damp.bits)), (.c (.int .i64 v10.1.Passes))]))]⟩) (ob := True ∧ True ∧ (True ∧ (decide (v23.1 < (0 : Int))) = false) ∧ True ∧ True ∧ ((((((sl 3 cs_Vector v10.1.Points) : C) = (sl 3 cs_Vector v10.1.Points)) ∧ (((sl 3 cs_Vector v10.1.Before) : C) = (sl 3 cs_Vector v10.1.Before)) ∧ (((sl 1 csB v10.1.Fixed) : C) = (sl 1 csB v10.1.Fixed)) ∧ (((sl 1 (csF .f32) v10.1.Lengths) : C) = (sl 1 (csF .f32) v10.1.Lengths)) ∧ (((.flt .f32 v10.1.Fall.X.bits) : C) = (.flt .f32 v10.1.Fall.X.bits)) ∧ (((.flt .f32 v10.1.Fall.Y.bits) : C) = (.flt .f32 v10.1.Fall.Y.bits)) ∧ (((.flt .f32 v10.1.Fall.Z.bits) : C) = (.flt .f32 v10.1.Fall.Z.bits)) ∧ (((.flt .f32 v10.1.Damp.bits) : C) = (.flt .f32 v10.1.Damp.bits)) ∧ (((.int .i64 v10.1.Passes) : C) = (.int .i64 v10.1.Passes)) ∧ True) ∧ ((((sl 3 cs_Vector v6.1.Points) : C) = (sl 3 cs_Vector v6.1.Points)) ∧ (((sl 3 cs_Vector v6.1.Before) : C) = (sl 3 cs_Vector v6.1.Before)) ∧ (((sl 1 csB v6.1.Fixed) : C) = (sl 1 csB v6.1.Fixed)) ∧ (((sl 1 (csF .f32) v6.1.Lengths) : C) = (sl 1 (csF .f32) v6.1.Lengths)) ∧ (((.flt .f32 v6.1.Fall.X.bits) : C) = (.flt .f32 v6.1.Fall.X.bits)) ∧ (((.flt .f32 v6.1.Fall.Y.bits) : C) = (.flt .f32 v6.1.Fall.Y.bits)) ∧ (((.flt .f32 v6.1.Fall.Z.bits) : C) = (.flt .f32 v6.1.Fall.Z.bits)) ∧ (((.flt .f32 v6.1.Damp.bits) : C) = (.flt .f32 v6.1.Damp.bits)) ∧ (((.int .i64 v6.1.Passes) : C) = (.int .i64 v6.1.Passes)) ∧ True) ∧ True) ∧ CallOK Try.prog 19 [.agg (cs_String v10.1), .agg (cs_String v6.1)] [.one (.bool v30)]) ∧ True ∧ True ∧ (True ∧ (!v30) = false) ∧ True ∧ True ∧ True ∧ True ∧ True) (by kernel_rfl) ⟨trivial, trivial, ⟨trivial, b29⟩, trivial, trivial, ⟨⟨⟨rfl, rfl, rfl, rfl, rfl, rfl, rfl, rfl, rfl, trivial⟩, ⟨rfl, rfl, rfl, rfl, rfl, rfl, rfl, rfl, rfl, trivial⟩, trivial⟩, ok_laws_eqString K v10.1 v6.1 v30 e31⟩, trivial, trivial, ⟨trivial, b32⟩, trivial, trivial, trivial, trivial, trivial⟩ ⟨rfl, rfl⟩
        refine thenQ_normal ?_
        rcases ite2_cases h with ⟨b35, h⟩ | ⟨b35, h⟩
        · refine AW.cond_t rfl b35 ?_
          refine AW.seq ?_
          refine AW.regionA [] [4] [] (s' := ⟨[(4, (.v (.one (.c (.bool false)))))], []⟩) (ob := True ∧ True) (by kernel_rfl) ⟨trivial, trivial⟩ ?_
          refine thenQ_normal ?_
          refine AW.ret ?_
          refine thenQ_ret ?_
          replace h := some_eq h
          subst h
          exact ⟨.inr rfl, retOK_of [(.one (.c (.bool false)))] (by kernel_rfl) ⟨⟨rfl, trivial⟩, trivial⟩ (of_decide_eq_true (by kernel_rfl))⟩
        · refine AW.cond_f rfl b35 ?_
          refine AW.skip ?_
          refine thenQ_normal ?_
          refine AW.seq ?_
          refine AW.regionA [] [1, 2, 6, 7, 9, 12] [1, 6, 7, 8, 9, 10, 16, 17, 18, 19, 20] (s' := ⟨[(1, (.v (.one (.c (.flt .f32 a1.bits))))), (2, (.v (.one (.ptr 1 0)))), (6, (.v (.one (.ptr 10 0)))), (7, (.v (.one (.c (.bool v6.2))))), (9, (.v (.one (.ptr 20 0)))), (12, (.v (.one (.c (.int .i64 (1 : Int))))))], [(1, (.box [(.c (sl 3 cs_Vector a0.Points)), (.c (sl 3 cs_Vector a0.Before)), (.c (sl 1 csB a0.Fixed)), (.c (sl 1 (csF .f32) a0.Lengths)), (.c (.flt .f32 a0.Fall.X.bits)), (.c (.flt .f32 a0.Fall.Y.bits)), (.c (.flt .f32 a0.Fall.Z.bits)), (.c (.flt .f32 a0.Damp.bits)), (.c (.int .i64 a0.Passes))])), (6, (.lst v6.1.Points.length 3 (gl cs_Vector v6.1.Points))), (7, (.lst v6.1.Before.length 3 (gl cs_Vector v6.1.Before))), (8, (.lst v6.1.Fixed.length 1 (gl csB v6.1.Fixed))), (9, (.lst v6.1.Lengths.length 1 (gl (csF .f32) v6.1.Lengths))), (10, (.box [(.lst 6 v6.1.Points.length 3 (gl cs_Vector v6.1.Points)), (.lst 7 v6.1.Before.length 3 (gl cs_Vector v6.1.Before)), (.lst 8 v6.1.Fixed.length 1 (gl csB v6.1.Fixed)), (.lst 9 v6.1.Lengths.length 1 (gl (csF .f32) v6.1.Lengths)), (.c (.flt .f32 v6.1.Fall.X.bits)), (.c (.flt .f32 v6.1.Fall.Y.bits)), (.c (.flt .f32 v6.1.Fall.Z.bits)), (.c (.flt .f32 v6.1.Damp.bits)), (.c (.int .i64 v6.1.Passes))])), (16, (.arr true v10.1.Points.length 3 (gl cs_Vector v10.1.Points))), (17, (.arr true v10.1.Before.length 3 (gl cs_Vector v10.1.Before))), (18, (.arr true v10.1.Fixed.length 1 (gl csB v10.1.Fixed))), (19, (.arr true v10.1.Lengths.length 1 (gl (csF .f32) v10.1.Lengths))), (20, (.box [(.arr 16), (.arr 17), (.arr 18), (.arr 19), (.c (.flt .f32 v10.1.Fall.X.bits)), (.c (.flt .f32 v10.1.Fall.Y.bits)), (.c (.flt .f32 v10.1.Fall.Z.bits)), (.c (.flt .f32 v10.1.Damp.bits)), (.c (.int .i64 v10.1.Passes))]))]⟩) (ob := True ∧ True) (by kernel_rfl) ⟨trivial, trivial⟩ ?_
          refine thenQ_normal ?_
          refine AW.seq ?_
          obtain ⟨v36, e37, h⟩ := bind_some h
          obtain ⟨c38, h⟩ := chk_some h
          obtain ⟨c39, h⟩ := chk_some h
          obtain ⟨c40, h⟩ := chk_some h
          obtain ⟨c41, h⟩ := chk_some h
          refine AW.regionA [.no, .no, .callM [(.agg [(.mu (sl 3 cs_Vector v10.1.Points) (sl 3 cs_Vector v36.2.1)), (.mu (sl 3 cs_Vector v10.1.Before) (sl 3 cs_Vector v36.2.2.1)), (.mu (sl 1 csB v10.1.Fixed) (sl 1 csB v36.2.2.2.1)), (.mu (sl 1 (csF .f32) v10.1.Lengths) (sl 1 (csF .f32) v36.2.2.2.2)), (.ro (.flt .f32 v10.1.Fall.X.bits)), (.ro (.flt .f32 v10.1.Fall.Y.bits)), (.ro (.flt .f32 v10.1.Fall.Z.bits)), (.ro (.flt .f32 v10.1.Damp.bits)), (.ro (.int .i64 v10.1.Passes))]), .one (.ro (.int .i64 (1 : Int)))] [.one (.int .i64 v36.1)] [[.view]] none] [1, 2, 6, 7, 9, 12] [1, 6, 7, 8, 9, 10, 16, 17, 18, 19, 20] (s' := ⟨[(1, (.v (.one (.c (.flt .f32 a1.bits))))), (2, (.v (.one (.ptr 1 0)))), (6, (.v (.one (.ptr 10 0)))), (7, (.v (.one (.c (.bool v6.2))))), (9, (.v (.one (.ptr 20 0)))), (12, (.v (.one (.c (.int .i64 v36.1)))))], [(1, (.box [(.c (sl 3 cs_Vector a0.Points)), (.c (sl 3 cs_Vector a0.Before)), (.c (sl 1 csB a0.Fixed)), (.c (sl 1 (csF .f32) a0.Lengths)), (.c (.flt .f32 a0.Fall.X.bits)), (.c (.flt .f32 a0.Fall.Y.bits)), (.c (.flt .f32 a0.Fall.Z.bits)), (.c (.flt .f32 a0.Damp.bits)), (.c (.int .i64 a0.Passes))])), (6, (.lst v6.1.Points.length 3 (gl cs_Vector v6.1.Points))), (7, (.lst v6.1.Before.length 3 (gl cs_Vector v6.1.Before))), (8, (.lst v6.1.Fixed.length 1 (gl csB v6.1.Fixed))), (9, (.lst v6.1.Lengths.length 1 (gl (csF .f32) v6.1.Lengths))), (10, (.box [(.lst 6 v6.1.Points.length 3 (gl cs_Vector v6.1.Points)), (.lst 7 v6.1.Before.length 3 (gl cs_Vector v6.1.Before)), (.lst 8 v6.1.Fixed.length 1 (gl csB v6.1.Fixed)), (.lst 9 v6.1.Lengths.length 1 (gl (csF .f32) v6.1.Lengths)), (.c (.flt .f32 v6.1.Fall.X.bits)), (.c (.flt .f32 v6.1.Fall.Y.bits)), (.c (.flt .f32 v6.1.Fall.Z.bits)), (.c (.flt .f32 v6.1.Damp.bits)), (.c (.int .i64 v6.1.Passes))])), (16, (.arr true v36.2.1.length 3 (gl cs_Vector v36.2.1))), (17, (.arr true v36.2.2.1.length 3 (gl cs_Vector v36.2.2.1))), (18, (.arr true v36.2.2.2.1.length 1 (gl csB v36.2.2.2.1))), (19, (.arr true v36.2.2.2.2.length 1 (gl (csF .f32) v36.2.2.2.2))), (20, (.box [(.arr 16), (.arr 17), (.arr 18), (.arr 19), (.c (.flt .f32 v10.1.Fall.X.bits)), (.c (.flt .f32 v10.1.Fall.Y.bits)), (.c (.flt .f32 v10.1.Fall.Z.bits)), (.c (.flt .f32 v10.1.Damp.bits)), (.c (.int .i64 v10.1.Passes))]))]⟩) (ob := True ∧ True ∧ ((((((sl 3 cs_Vector v10.1.Points) : C) = (sl 3 cs_Vector v10.1.Points) ∧ v36.2.1.length = v10.1.Points.length ∧ 3 = 3 ∧ ∀ i j, i < v10.1.Points.length → j < 3 → isSeq (gl cs_Vector v36.2.1 i j) = isSeq (gl cs_Vector v10.1.Points i j)) ∧ (((sl 3 cs_Vector v10.1.Before) : C) = (sl 3 cs_Vector v10.1.Before) ∧ v36.2.2.1.length = v10.1.Before.length ∧ 3 = 3 ∧ ∀ i j, i < v10.1.Before.length → j < 3 → isSeq (gl cs_Vector v36.2.2.1 i j) = isSeq (gl cs_Vector v10.1.Before i j)) ∧ (((sl 1 csB v10.1.Fixed) : C) = (sl 1 csB v10.1.Fixed) ∧ v36.2.2.2.1.length = v10.1.Fixed.length ∧ 1 = 1 ∧ ∀ i j, i < v10.1.Fixed.length → j < 1 → isSeq (gl csB v36.2.2.2.1 i j) = isSeq (gl csB v10.1.Fixed i j)) ∧ (((sl 1 (csF .f32) v10.1.Lengths) : C) = (sl 1 (csF .f32) v10.1.Lengths) ∧ v36.2.2.2.2.length = v10.1.Lengths.length ∧ 1 = 1 ∧ ∀ i j, i < v10.1.Lengths.length → j < 1 → isSeq (gl (csF .f32) v36.2.2.2.2 i j) = isSeq (gl (csF .f32) v10.1.Lengths i j)) ∧ (((.flt .f32 v10.1.Fall.X.bits) : C) = (.flt .f32 v10.1.Fall.X.bits)) ∧ (((.flt .f32 v10.1.Fall.Y.bits) : C) = (.flt .f32 v10.1.Fall.Y.bits)) ∧ (((.flt .f32 v10.1.Fall.Z.bits) : C) = (.flt .f32 v10.1.Fall.Z.bits)) ∧ (((.flt .f32 v10.1.Damp.bits) : C) = (.flt .f32 v10.1.Damp.bits)) ∧ (((.int .i64 v10.1.Passes) : C) = (.int .i64 v10.1.Passes)) ∧ True) ∧ (((.int .i64 (1 : Int)) : C) = (.int .i64 (1 : Int))) ∧ True) ∧ MutOK Try.prog 20 [(.agg [(.mu (sl 3 cs_Vector v10.1.Points) (sl 3 cs_Vector v36.2.1)), (.mu (sl 3 cs_Vector v10.1.Before) (sl 3 cs_Vector v36.2.2.1)), (.mu (sl 1 csB v10.1.Fixed) (sl 1 csB v36.2.2.2.1)), (.mu (sl 1 (csF .f32) v10.1.Lengths) (sl 1 (csF .f32) v36.2.2.2.2)), (.ro (.flt .f32 v10.1.Fall.X.bits)), (.ro (.flt .f32 v10.1.Fall.Y.bits)), (.ro (.flt .f32 v10.1.Fall.Z.bits)), (.ro (.flt .f32 v10.1.Damp.bits)), (.ro (.int .i64 v10.1.Passes))]), .one (.ro (.int .i64 (1 : Int)))] [.one (.int .i64 v36.1)]) ∧ True ∧ True) (by kernel_rfl) ⟨trivial, trivial, ⟨⟨⟨⟨rfl, c38, rfl, gl_seq sq_Vector⟩, ⟨rfl, c39, rfl, gl_seq sq_Vector⟩, ⟨rfl, c40, rfl, gl_seq sqB⟩, ⟨rfl, c41, rfl, gl_seq sqF⟩, rfl, rfl, rfl, rfl, rfl, trivial⟩, rfl, trivial⟩, ok_laws_markString K v10.1 (1 : Int) v36 e37⟩, trivial, trivial⟩ ?_
          refine thenQ_normal ?_
          refine AW.seq ?_
          refine AW.regionA [] [1, 2, 6, 7, 9, 12, 13] [1, 6, 7, 8, 9, 10, 16, 17, 18, 19, 20] (s' := ⟨[(1, (.v (.one (.c (.flt .f32 a1.bits))))), (2, (.v (.one (.ptr 1 0)))), (6, (.v (.one (.ptr 10 0)))), (7, (.v (.one (.c (.bool v6.2))))), (9, (.v (.one (.ptr 20 0)))), (12, (.v (.one (.c (.int .i64 v36.1))))), (13, (.v (.one (.c (.int .i64 (1 : Int))))))], [(1, (.box [(.c (sl 3 cs_Vector a0.Points)), (.c (sl 3 cs_Vector a0.Before)), (.c (sl 1 csB a0.Fixed)), (.c (sl 1 (csF .f32) a0.Lengths)), (.c (.flt .f32 a0.Fall.X.bits)), (.c (.flt .f32 a0.Fall.Y.bits)), (.c (.flt .f32 a0.Fall.Z.bits)), (.c (.flt .f32 a0.Damp.bits)), (.c (.int .i64 a0.Passes))])), (6, (.lst v6.1.Points.length 3 (gl cs_Vector v6.1.Points))), (7, (.lst v6.1.Before.length 3 (gl cs_Vector v6.1.Before))), (8, (.lst v6.1.Fixed.length 1 (gl csB v6.1.Fixed))), (9, (.lst v6.1.Lengths.length 1 (gl (csF .f32) v6.1.Lengths))), (10, (.box [(.lst 6 v6.1.Points.length 3 (gl cs_Vector v6.1.Points)), (.lst 7 v6.1.Before.length 3 (gl cs_Vector v6.1.Before)), (.lst 8 v6.1.Fixed.length 1 (gl csB v6.1.Fixed)), (.lst 9 v6.1.Lengths.length 1 (gl (csF .f32) v6.1.Lengths)), (.c (.flt .f32 v6.1.Fall.X.bits)), (.c (.flt .f32 v6.1.Fall.Y.bits)), (.c (.flt .f32 v6.1.Fall.Z.bits)), (.c (.flt .f32 v6.1.Damp.bits)), (.c (.int .i64 v6.1.Passes))])), (16, (.arr true v36.2.1.length 3 (gl cs_Vector v36.2.1))), (17, (.arr true v36.2.2.1.length 3 (gl cs_Vector v36.2.2.1))), (18, (.arr true v36.2.2.2.1.length 1 (gl csB v36.2.2.2.1))), (19, (.arr true v36.2.2.2.2.length 1 (gl (csF .f32) v36.2.2.2.2))), (20, (.box [(.arr 16), (.arr 17), (.arr 18), (.arr 19), (.c (.flt .f32 v10.1.Fall.X.bits)), (.c (.flt .f32 v10.1.Fall.Y.bits)), (.c (.flt .f32 v10.1.Fall.Z.bits)), (.c (.flt .f32 v10.1.Damp.bits)), (.c (.int .i64 v10.1.Passes))]))]⟩) (ob := True ∧ True) (by kernel_rfl) ⟨trivial, trivial⟩ ?_
          refine thenQ_normal ?_
          refine AW.seq ?_
          obtain ⟨v42, e43, h⟩ := bind_some h
          refine AW.regionA [.no, .no, .call [.agg (cs_String (String.mk v36.2.1 v36.2.2.1 v36.2.2.2.1 v36.2.2.2.2 v10.1.Fall v10.1.Damp v10.1.Passes)), .one (.int .i64 (1 : Int))] [.one (.int .i64 v42)] [[.view]]] [1, 2, 6, 7, 9, 12, 13] [1, 6, 7, 8, 9, 10, 16, 17, 18, 19, 20] (s' := ⟨[(1, (.v (.one (.c (.flt .f32 a1.bits))))), (2, (.v (.one (.ptr 1 0)))), (6, (.v (.one (.ptr 10 0)))), (7, (.v (.one (.c (.bool v6.2))))), (9, (.v (.one (.ptr 20 0)))), (12, (.v (.one (.c (.int .i64 v36.1))))), (13, (.v (.one (.c (.int .i64 v42)))))], [(1, (.box [(.c (sl 3 cs_Vector a0.Points)), (.c (sl 3 cs_Vector a0.Before)), (.c (sl 1 csB a0.Fixed)), (.c (sl 1 (csF .f32) a0.Lengths)), (.c (.flt .f32 a0.Fall.X.bits)), (.c (.flt .f32 a0.Fall.Y.bits)), (.c (.flt .f32 a0.Fall.Z.bits)), (.c (.flt .f32 a0.Damp.bits)), (.c (.int .i64 a0.Passes))])), (6, (.lst v6.1.Points.length 3 (gl cs_Vector v6.1.Points))), (7, (.lst v6.1.Before.length 3 (gl cs_Vector v6.1.Before))), (8, (.lst v6.1.Fixed.length 1 (gl csB v6.1.Fixed))), (9, (.lst v6.1.Lengths.length 1 (gl (csF .f32) v6.1.Lengths))), (10, (.box [(.lst 6 v6.1.Points.length 3 (gl cs_Vector v6.1.Points)), (.lst 7 v6.1.Before.length 3 (gl cs_Vector v6.1.Before)), (.lst 8 v6.1.Fixed.length 1 (gl csB v6.1.Fixed)), (.lst 9 v6.1.Lengths.length 1 (gl (csF .f32) v6.1.Lengths)), (.c (.flt .f32 v6.1.Fall.X.bits)), (.c (.flt .f32 v6.1.Fall.Y.bits)), (.c (.flt .f32 v6.1.Fall.Z.bits)), (.c (.flt .f32 v6.1.Damp.bits)), (.c (.int .i64 v6.1.Passes))])), (16, (.arr true v36.2.1.length 3 (gl cs_Vector v36.2.1))), (17, (.arr true v36.2.2.1.length 3 (gl cs_Vector v36.2.2.1))), (18, (.arr true v36.2.2.2.1.length 1 (gl csB v36.2.2.2.1))), (19, (.arr true v36.2.2.2.2.length 1 (gl (csF .f32) v36.2.2.2.2))), (20, (.box [(.arr 16), (.arr 17), (.arr 18), (.arr 19), (.c (.flt .f32 v10.1.Fall.X.bits)), (.c (.flt .f32 v10.1.Fall.Y.bits)), (.c (.flt .f32 v10.1.Fall.Z.bits)), (.c (.flt .f32 v10.1.Damp.bits)), (.c (.int .i64 v10.1.Passes))]))]⟩) (ob := True ∧ True ∧ ((((((sl 3 cs_Vector v36.2.1) : C) = (sl 3 cs_Vector v36.2.1)) ∧ (((sl 3 cs_Vector v36.2.2.1) : C) = (sl 3 cs_Vector v36.2.2.1)) ∧ (((sl 1 csB v36.2.2.2.1) : C) = (sl 1 csB v36.2.2.2.1)) ∧ (((sl 1 (csF .f32) v36.2.2.2.2) : C) = (sl 1 (csF .f32) v36.2.2.2.2)) ∧ (((.flt .f32 v10.1.Fall.X.bits) : C) = (.flt .f32 v10.1.Fall.X.bits)) ∧ (((.flt .f32 v10.1.Fall.Y.bits) : C) = (.flt .f32 v10.1.Fall.Y.bits)) ∧ (((.flt .f32 v10.1.Fall.Z.bits) : C) = (.flt .f32 v10.1.Fall.Z.bits)) ∧ (((.flt .f32 v10.1.Damp.bits) : C) = (.flt .f32 v10.1.Damp.bits)) ∧ (((.int .i64 v10.1.Passes) : C) = (.int .i64 v10.1.Passes)) ∧ True) ∧ (((.int .i64 (1 : Int)) : C) = (.int .i64 (1 : Int))) ∧ True) ∧ CallOK Try.prog 21 [.agg (cs_String (String.mk v36.2.1 v36.2.2.1 v36.2.2.2.1 v36.2.2.2.2 v10.1.Fall v10.1.Damp v10.1.Passes)), .one (.int .i64 (1 : Int))] [.one (.int .i64 v42)]) ∧ True ∧ True) (by kernel_rfl) ⟨trivial, trivial, ⟨⟨⟨rfl, rfl, rfl, rfl, rfl, rfl, rfl, rfl, rfl, trivial⟩, rfl, trivial⟩, ok_laws_heldString K (String.mk v36.2.1 v36.2.2.1 v36.2.2.2.1 v36.2.2.2.2 v10.1.Fall v10.1.Damp v10.1.Passes) (1 : Int) v42 e43⟩, trivial, trivial⟩ ?_
          refine thenQ_normal ?_
          refine AW.seq ?_
          refine AW.seq ?_
          refine AW.regionA [] [1, 2, 6, 7, 9, 12, 13, 73] [1, 6, 7, 8, 9, 10, 16, 17, 18, 19, 20] (s' := ⟨[(1, (.v (.one (.c (.flt .f32 a1.bits))))), (2, (.v (.one (.ptr 1 0)))), (6, (.v (.one (.ptr 10 0)))), (7, (.v (.one (.c (.bool v6.2))))), (9, (.v (.one (.ptr 20 0)))), (12, (.v (.one (.c (.int .i64 v36.1))))), (13, (.v (.one (.c (.int .i64 v42))))), (73, (.v (.one (.c (.bool (decide (v42 < (0 : Int))))))))], [(1, (.box [(.c (sl 3 cs_Vector a0.Points)), (.c (sl 3 cs_Vector a0.Before)), (.c (sl 1 csB a0.Fixed)), (.c (sl 1 (csF .f32) a0.Lengths)), (.c (.flt .f32 a0.Fall.X.bits)), (.c (.flt .f32 a0.Fall.Y.bits)), (.c (.flt .f32 a0.Fall.Z.bits)), (.c (.flt .f32 a0.Damp.bits)), (.c (.int .i64 a0.Passes))])), (6, (.lst v6.1.Points.length 3 (gl cs_Vector v6.1.Points))), (7, (.lst v6.1.Before.length 3 (gl cs_Vector v6.1.Before))), (8, (.lst v6.1.Fixed.length 1 (gl csB v6.1.Fixed))), (9, (.lst v6.1.Lengths.length 1 (gl (csF .f32) v6.1.Lengths))), (10, (.box [(.lst 6 v6.1.Points.length 3 (gl cs_Vector v6.1.Points)), (.lst 7 v6.1.Before.length 3 (gl cs_Vector v6.1.Before)), (.lst 8 v6.1.Fixed.length 1 (gl csB v6.1.Fixed)), (.lst 9 v6.1.Lengths.length 1 (gl (csF .f32) v6.1.Lengths)), (.c (.flt .f32 v6.1.Fall.X.bits)), (.c (.flt .f32 v6.1.Fall.Y.bits)), (.c (.flt .f32 v6.1.Fall.Z.bits)), (.c (.flt .f32 v6.1.Damp.bits)), (.c (.int .i64 v6.1.Passes))])), (16, (.arr true v36.2.1.length 3 (gl cs_Vector v36.2.1))), (17, (.arr true v36.2.2.1.length 3 (gl cs_Vector v36.2.2.1))), (18, (.arr true v36.2.2.2.1.length 1 (gl csB v36.2.2.2.1))), (19, (.arr true v36.2.2.2.2.length 1 (gl (csF .f32) v36.2.2.2.2))), (20, (.box [(.arr 16), (.arr 17), (.arr 18), (.arr 19), (.c (.flt .f32 v10.1.Fall.X.bits)), (.c (.flt .f32 v10.1.Fall.Y.bits)), (.c (.flt .f32 v10.1.Fall.Z.bits)), (.c (.flt .f32 v10.1.Damp.bits)), (.c (.int .i64 v10.1.Passes))]))]⟩) (ob := True ∧ True ∧ True) (by kernel_rfl) ⟨trivial, trivial, trivial⟩ ?_
          refine thenQ_normal ?_
          rcases ite2_cases h with ⟨b44, h⟩ | ⟨b44, h⟩
          · refine AW.cond_t rfl b44 ?_
            refine AW.seq ?_
            refine AW.regionA [] [4] [] (s' := ⟨[(4, (.v (.one (.c (.bool false)))))], []⟩) (ob := True ∧ True) (by kernel_rfl) ⟨trivial, trivial⟩ ?_
            refine thenQ_normal ?_
            refine AW.ret ?_
            refine thenQ_ret ?_
            replace h := some_eq h
            subst h
            exact ⟨.inr rfl, retOK_of [(.one (.c (.bool false)))] (by kernel_rfl) ⟨⟨rfl, trivial⟩, trivial⟩ (of_decide_eq_true (by kernel_rfl))⟩
          · refine AW.cond_f rfl b44 ?_
            refine AW.skip ?_
            refine thenQ_normal ?_
            refine AW.seq ?_
            refine AW.seq ?_
            refine AW.regionA [] [1, 2, 6, 7, 9, 12, 76] [1, 6, 7, 8, 9, 10, 16, 17, 18, 19, 20] (s' := ⟨[(1, (.v (.one (.c (.flt .f32 a1.bits))))), (2, (.v (.one (.ptr 1 0)))), (6, (.v (.one (.ptr 10 0)))), (7, (.v (.one (.c (.bool v6.2))))), (9, (.v (.one (.ptr 20 0)))), (12, (.v (.one (.c (.int .i64 v36.1))))), (76, (.v (.one (.c (.bool (v42 != v36.1))))))], [(1, (.box [(.c (sl 3 cs_Vector a0.Points)), (.c (sl 3 cs_Vector a0.Before)), (.c (sl 1 csB a0.Fixed)), (.c (sl 1 (csF .f32) a0.Lengths)), (.c (.flt .f32 a0.Fall.X.bits)), (.c (.flt .f32 a0.Fall.Y.bits)), (.c (.flt .f32 a0.Fall.Z.bits)), (.c (.flt .f32 a0.Damp.bits)), (.c (.int .i64 a0.Passes))])), (6, (.lst v6.1.Points.length 3 (gl cs_Vector v6.1.Points))), (7, (.lst v6.1.Before.length 3 (gl cs_Vector v6.1.Before))), (8, (.lst v6.1.Fixed.length 1 (gl csB v6.1.Fixed))), (9, (.lst v6.1.Lengths.length 1 (gl (csF .f32) v6.1.Lengths))), (10, (.box [(.lst 6 v6.1.Points.length 3 (gl cs_Vector v6.1.Points)), (.lst 7 v6.1.Before.length 3 (gl cs_Vector v6.1.Before)), (.lst 8 v6.1.Fixed.length 1 (gl csB v6.1.Fixed)), (.lst 9 v6.1.Lengths.length 1 (gl (csF .f32) v6.1.Lengths)), (.c (.flt .f32 v6.1.Fall.X.bits)), (.c (.flt .f32 v6.1.Fall.Y.bits)), (.c (.flt .f32 v6.1.Fall.Z.bits)), (.c (.flt .f32 v6.1.Damp.bits)), (.c (.int .i64 v6.1.Passes))])), (16, (.arr true v36.2.1.length 3 (gl cs_Vector v36.2.1))), (17, (.arr true v36.2.2.1.length 3 (gl cs_Vector v36.2.2.1))), (18, (.arr true v36.2.2.2.1.length 1 (gl csB v36.2.2.2.1))), (19, (.arr true v36.2.2.2.2.length 1 (gl (csF .f32) v36.2.2.2.2))), (20, (.box [(.arr 16), (.arr 17), (.arr 18), (.arr 19), (.c (.flt .f32 v10.1.Fall.X.bits)), (.c (.flt .f32 v10.1.Fall.Y.bits)), (.c (.flt .f32 v10.1.Fall.Z.bits)), (.c (.flt .f32 v10.1.Damp.bits)), (.c (.int .i64 v10.1.Passes))]))]⟩) (ob := True ∧ True ∧ True ∧ True) (by kernel_rfl) ⟨trivial, trivial, trivial, trivial⟩ ?_
            refine thenQ_normal ?_
            rcases ite2_cases h with ⟨b45, h⟩ | ⟨b45, h⟩
            · refine AW.cond_t rfl b45 ?_
              refine AW.seq ?_
              refine AW.regionA [] [4] [] (s' := ⟨[(4, (.v (.one (.c (.bool false)))))], []⟩) (ob := True ∧ True) (by kernel_rfl) ⟨trivial, trivial⟩ ?_
              refine thenQ_normal ?_
              refine AW.ret ?_
              refine thenQ_ret ?_
              replace h := some_eq h
              subst h
              exact ⟨.inr rfl, retOK_of [(.one (.c (.bool false)))] (by kernel_rfl) ⟨⟨rfl, trivial⟩, trivial⟩ (of_decide_eq_true (by kernel_rfl))⟩
            · refine AW.cond_f rfl b45 ?_
              refine AW.skip ?_
              refine thenQ_normal ?_
              refine AW.seq ?_
              obtain ⟨v46, e47, h⟩ := bind_some h
              obtain ⟨v48, e49, h⟩ := bind_some h
              refine AW.regionA [.no, .call [.agg (cs_String a0)] [.agg (cs_String v46)] [[.lst 25, .lst 26, .lst 27, .lst 28, .view, .view, .view, .view, .view]], .no, .call [.agg (cs_String v46), .one (.flt .f32 a1.bits)] [.agg (cs_String v48.1), .one (.bool v48.2)] [[.lst 29, .lst 30, .lst 31, .lst 32, .view, .view, .view, .view, .view], [.view]], .no, .no, .no, .box 33] [6, 7, 9, 12, 14, 15] [6, 7, 8, 9, 10, 16, 17, 18, 19, 20, 29, 30, 31, 32, 33] (s' := ⟨[(6, (.v (.one (.ptr 10 0)))), (7, (.v (.one (.c (.bool v6.2))))), (9, (.v (.one (.ptr 20 0)))), (12, (.v (.one (.c (.int .i64 v36.1))))), (14, (.v (.one (.ptr 33 0)))), (15, (.v (.one (.c (.bool v48.2)))))], [(6, (.lst v6.1.Points.length 3 (gl cs_Vector v6.1.Points))), (7, (.lst v6.1.Before.length 3 (gl cs_Vector v6.1.Before))), (8, (.lst v6.1.Fixed.length 1 (gl csB v6.1.Fixed))), (9, (.lst v6.1.Lengths.length 1 (gl (csF .f32) v6.1.Lengths))), (10, (.box [(.lst 6 v6.1.Points.length 3 (gl cs_Vector v6.1.Points)), (.lst 7 v6.1.Before.length 3 (gl cs_Vector v6.1.Before)), (.lst 8 v6.1.Fixed.length 1 (gl csB v6.1.Fixed)), (.lst 9 v6.1.Lengths.length 1 (gl (csF .f32) v6.1.Lengths)), (.c (.flt .f32 v6.1.Fall.X.bits)), (.c (.flt .f32 v6.1.Fall.Y.bits)), (.c (.flt .f32 v6.1.Fall.Z.bits)), (.c (.flt .f32 v6.1.Damp.bits)), (.c (.int .i64 v6.1.Passes))])), (16, (.arr true v36.2.1.length 3 (gl cs_Vector v36.2.1))), (17, (.arr true v36.2.2.1.length 3 (gl cs_Vector v36.2.2.1))), (18, (.arr true v36.2.2.2.1.length 1 (gl csB v36.2.2.2.1))), (19, (.arr true v36.2.2.2.2.length 1 (gl (csF .f32) v36.2.2.2.2))), (20, (.box [(.arr 16), (.arr 17), (.arr 18), (.arr 19), (.c (.flt .f32 v10.1.Fall.X.bits)), (.c (.flt .f32 v10.1.Fall.Y.bits)), (.c (.flt .f32 v10.1.Fall.Z.bits)), (.c (.flt .f32 v10.1.Damp.bits)), (.c (.int .i64 v10.1.Passes))])), (29, (.lst v48.1.Points.length 3 (gl cs_Vector v48.1.Points))), (30, (.lst v48.1.Before.length 3 (gl cs_Vector v48.1.Before))), (31, (.lst v48.1.Fixed.length 1 (gl csB v48.1.Fixed))), (32, (.lst v48.1.Lengths.length 1 (gl (csF .f32) v48.1.Lengths))), (33, (.box [(.lst 29 v48.1.Points.length 3 (gl cs_Vector v48.1.Points)), (.lst 30 v48.1.Before.length 3 (gl cs_Vector v48.1.Before)), (.lst 31 v48.1.Fixed.length 1 (gl csB v48.1.Fixed)), (.lst 32 v48.1.Lengths.length 1 (gl (csF .f32) v48.1.Lengths)), (.c (.flt .f32 v48.1.Fall.X.bits)), (.c (.flt .f32 v48.1.Fall.Y.bits)), (.c (.flt .f32 v48.1.Fall.Z.bits)), (.c (.flt .f32 v48.1.Damp.bits)), (.c (.int .i64 v48.1.Passes))]))]⟩) (ob := True ∧ ((((((sl 3 cs_Vector a0.Points) : C) = (sl 3 cs_Vector a0.Points)) ∧ (((sl 3 cs_Vector a0.Before) : C) = (sl 3 cs_Vector a0.Before)) ∧ (((sl 1 csB a0.Fixed) : C) = (sl 1 csB a0.Fixed)) ∧ (((sl 1 (csF .f32) a0.Lengths) : C) = (sl 1 (csF .f32) a0.Lengths)) ∧ (((.flt .f32 a0.Fall.X.bits) : C) = (.flt .f32 a0.Fall.X.bits)) ∧ (((.flt .f32 a0.Fall.Y.bits) : C) = (.flt .f32 a0.Fall.Y.bits)) ∧ (((.flt .f32 a0.Fall.Z.bits) : C) = (.flt .f32 a0.Fall.Z.bits)) ∧ (((.flt .f32 a0.Damp.bits) : C) = (.flt .f32 a0.Damp.bits)) ∧ (((.int .i64 a0.Passes) : C) = (.int .i64 a0.Passes)) ∧ True) ∧ True) ∧ CallOK Try.prog 17 [.agg (cs_String a0)] [.agg (cs_String v46)]) ∧ True ∧ ((((((sl 3 cs_Vector v46.Points) : C) = (sl 3 cs_Vector v46.Points)) ∧ (((sl 3 cs_Vector v46.Before) : C) = (sl 3 cs_Vector v46.Before)) ∧ (((sl 1 csB v46.Fixed) : C) = (sl 1 csB v46.Fixed)) ∧ (((sl 1 (csF .f32) v46.Lengths) : C) = (sl 1 (csF .f32) v46.Lengths)) ∧ (((.flt .f32 v46.Fall.X.bits) : C) = (.flt .f32 v46.Fall.X.bits)) ∧ (((.flt .f32 v46.Fall.Y.bits) : C) = (.flt .f32 v46.Fall.Y.bits)) ∧ (((.flt .f32 v46.Fall.Z.bits) : C) = (.flt .f32 v46.Fall.Z.bits)) ∧ (((.flt .f32 v46.Damp.bits) : C) = (.flt .f32 v46.Damp.bits)) ∧ (((.int .i64 v46.Passes) : C) = (.int .i64 v46.Passes)) ∧ True) ∧ (((.flt .f32 a1.bits) : C) = (.flt .f32 a1.bits)) ∧ True) ∧ CallOK Try.prog 18 [.agg (cs_String v46), .one (.flt .f32 a1.bits)] [.agg (cs_String v48.1), .one (.bool v48.2)]) ∧ True ∧ True ∧ True ∧ True ∧ True ∧ True ∧ True) (by kernel_rfl) ⟨trivial, ⟨⟨⟨rfl, rfl, rfl, rfl, rfl, rfl, rfl, rfl, rfl, trivial⟩, trivial⟩, ok_laws_toString K a0 v46 e47⟩, trivial, ⟨⟨⟨rfl, rfl, rfl, rfl, rfl, rfl, rfl, rfl, rfl, trivial⟩, rfl, trivial⟩, ok_impl_LayString K v46 a1 v48 e49⟩, trivial, trivial, trivial, trivial, trivial, trivial, trivial⟩ ?_
              refine thenQ_normal ?_
              refine AW.seq ?_
              refine AW.seq ?_
              obtain ⟨v50, e51, h⟩ := bind_some h
              obtain ⟨j53, e54, h⟩ := bind_some h
              refine AW.join1 (s2 := ⟨[(9, (.v (.one (.ptr 20 0)))), (12, (.v (.one (.c (.int .i64 v36.1))))), (92, (.v (.one (.c (.bool j53)))))], [(16, (.arr true v36.2.1.length 3 (gl cs_Vector v36.2.1))), (17, (.arr true v36.2.2.1.length 3 (gl cs_Vector v36.2.2.1))), (18, (.arr true v36.2.2.2.1.length 1 (gl csB v36.2.2.2.1))), (19, (.arr true v36.2.2.2.2.length 1 (gl (csF .f32) v36.2.2.2.2))), (20, (.box [(.arr 16), (.arr 17), (.arr 18), (.arr 19), (.c (.flt .f32 v10.1.Fall.X.bits)), (.c (.flt .f32 v10.1.Fall.Y.bits)), (.c (.flt .f32 v10.1.Fall.Z.bits)), (.c (.flt .f32 v10.1.Damp.bits)), (.c (.int .i64 v10.1.Passes))]))]⟩) ?_ ?_
              · rcases ite2_cases e54 with ⟨b52, e54⟩ | ⟨b52, e54⟩
                · replace e54 := some_eq e54
                  subst e54
                  exact AW.regionA [.no, .no, .call [.agg (cs_String v48.1), .agg (cs_String v6.1)] [.one (.bool v50)] [[.view]], .no, .dec true] [9, 12, 92] [16, 17, 18, 19, 20] (s' := ⟨[(9, (.v (.one (.ptr 20 0)))), (12, (.v (.one (.c (.int .i64 v36.1))))), (92, (.v (.one (.c (.bool true)))))], [(16, (.arr true v36.2.1.length 3 (gl cs_Vector v36.2.1))), (17, (.arr true v36.2.2.1.length 3 (gl cs_Vector v36.2.2.1))), (18, (.arr true v36.2.2.2.1.length 1 (gl csB v36.2.2.2.1))), (19, (.arr true v36.2.2.2.2.length 1 (gl (csF .f32) v36.2.2.2.2))), (20, (.box [(.arr 16), (.arr 17), (.arr 18), (.arr 19), (.c (.flt .f32 v10.1.Fall.X.bits)), (.c (.flt .f32 v10.1.Fall.Y.bits)), (.c (.flt .f32 v10.1.Fall.Z.bits)), (.c (.flt .f32 v10.1.Damp.bits)), (.c (.int .i64 v10.1.Passes))]))]⟩) (ob := True ∧ True ∧ ((((((sl 3 cs_Vector v48.1.Points) : C) = (sl 3 cs_Vector v48.1.Points)) ∧ (((sl 3 cs_Vector v48.1.Before) : C) = (sl 3 cs_Vector v48.1.Before)) ∧ (((sl 1 csB v48.1.Fixed) : C) = (sl 1 csB v48.1.Fixed)) ∧ (((sl 1 (csF .f32) v48.1.Lengths) : C) = (sl 1 (csF .f32) v48.1.Lengths)) ∧ (((.flt .f32 v48.1.Fall.X.bits) : C) = (.flt .f32 v48.1.Fall.X.bits)) ∧ (((.flt .f32 v48.1.Fall.Y.bits) : C) = (.flt .f32 v48.1.Fall.Y.bits)) ∧ (((.flt .f32 v48.1.Fall.Z.bits) : C) = (.flt .f32 v48.1.Fall.Z.bits)) ∧ (((.flt .f32 v48.1.Damp.bits) : C) = (.flt .f32 v48.1.Damp.bits)) ∧ (((.int .i64 v48.1.Passes) : C) = (.int .i64 v48.1.Passes)) ∧ True) ∧ ((((sl 3 cs_Vector v6.1.Points) : C) = (sl 3 cs_Vector v6.1.Points)) ∧ (((sl 3 cs_Vector v6.1.Before) : C) = (sl 3 cs_Vector v6.1.Before)) ∧ (((sl 1 csB v6.1.Fixed) : C) = (sl 1 csB v6.1.Fixed)) ∧ (((sl 1 (csF .f32) v6.1.Lengths) : C) = (sl 1 (csF .f32) v6.1.Lengths)) ∧ (((.flt .f32 v6.1.Fall.X.bits) : C) = (.flt .f32 v6.1.Fall.X.bits)) ∧ (((.flt .f32 v6.1.Fall.Y.bits) : C) = (.flt .f32 v6.1.Fall.Y.bits)) ∧ (((.flt .f32 v6.1.Fall.Z.bits) : C) = (.flt .f32 v6.1.Fall.Z.bits)) ∧ (((.flt .f32 v6.1.Damp.bits) : C) = (.flt .f32 v6.1.Damp.bits)) ∧ (((.int .i64 v6.1.Passes) : C) = (.int .i64 v6.1.Passes)) ∧ True) ∧ True) ∧ CallOK Try.prog 19 [.agg (cs_String v48.1), .agg (cs_String v6.1)] [.one (.bool v50)]) ∧ True ∧ (True ∧ (!v50) = true) ∧ True ∧ True ∧ True ∧ True ∧ True) (by kernel_rfl) ⟨trivial, trivial, ⟨⟨⟨rfl, rfl, rfl, rfl, rfl, rfl, rfl, rfl, rfl, trivial⟩, ⟨rfl, rfl, rfl, rfl, rfl, rfl, rfl, rfl, rfl, trivial⟩, trivial⟩, ok_laws_eqString K v48.1 v6.1 v50 e51⟩, trivial, ⟨trivial, b52⟩, trivial, trivial, trivial, trivial, trivial⟩ ⟨rfl, rfl⟩
                · replace e54 := some_eq e54
                  subst e54
                  exact AW.regionA [.no, .no, .call [.agg (cs_String v48.1), .agg (cs_String v6.1)] [.one (.bool v50)] [[.view]], .no, .dec false] [9, 12, 92] [16, 17, 18, 19, 20] (s' := ⟨[(9, (.v (.one (.ptr 20 0)))), (12, (.v (.one (.c (.int .i64 v36.1))))), (92, (.v (.one (.c (.bool (!(v48.2 == v6.2)))))))], [(16, (.arr true v36.2.1.length 3 (gl cs_Vector v36.2.1))), (17, (.arr true v36.2.2.1.length 3 (gl cs_Vector v36.2.2.1))), (18, (.arr true v36.2.2.2.1.length 1 (gl csB v36.2.2.2.1))), (19, (.arr true v36.2.2.2.2.length 1 (gl (csF .f32) v36.2.2.2.2))), (20, (.box [(.arr 16), (.arr 17), (.arr 18), (.arr 19), (.c (.flt .f32 v10.1.Fall.X.bits)), (.c (.flt .f32 v10.1.Fall.Y.bits)), (.c (.flt .f32 v10.1.Fall.Z.bits)), (.c (.flt .f32 v10.1.Damp.bits)), (.c (.int .i64 v10.1.Passes))]))]⟩) (ob := True ∧ True ∧ ((((((sl 3 cs_Vector v48.1.Points) : C) = (sl 3 cs_Vector v48.1.Points)) ∧ (((sl 3 cs_Vector v48.1.Before) : C) = (sl 3 cs_Vector v48.1.Before)) ∧ (((sl 1 csB v48.1.Fixed) : C) = (sl 1 csB v48.1.Fixed)) ∧ (((sl 1 (csF .f32) v48.1.Lengths) : C) = (sl 1 (csF .f32) v48.1.Lengths)) ∧ (((.flt .f32 v48.1.Fall.X.bits) : C) = (.flt .f32 v48.1.Fall.X.bits)) ∧ (((.flt .f32 v48.1.Fall.Y.bits) : C) = (.flt .f32 v48.1.Fall.Y.bits)) ∧ (((.flt .f32 v48.1.Fall.Z.bits) : C) = (.flt .f32 v48.1.Fall.Z.bits)) ∧ (((.flt .f32 v48.1.Damp.bits) : C) = (.flt .f32 v48.1.Damp.bits)) ∧ (((.int .i64 v48.1.Passes) : C) = (.int .i64 v48.1.Passes)) ∧ True) ∧ ((((sl 3 cs_Vector v6.1.Points) : C) = (sl 3 cs_Vector v6.1.Points)) ∧ (((sl 3 cs_Vector v6.1.Before) : C) = (sl 3 cs_Vector v6.1.Before)) ∧ (((sl 1 csB v6.1.Fixed) : C) = (sl 1 csB v6.1.Fixed)) ∧ (((sl 1 (csF .f32) v6.1.Lengths) : C) = (sl 1 (csF .f32) v6.1.Lengths)) ∧ (((.flt .f32 v6.1.Fall.X.bits) : C) = (.flt .f32 v6.1.Fall.X.bits)) ∧ (((.flt .f32 v6.1.Fall.Y.bits) : C) = (.flt .f32 v6.1.Fall.Y.bits)) ∧ (((.flt .f32 v6.1.Fall.Z.bits) : C) = (.flt .f32 v6.1.Fall.Z.bits)) ∧ (((.flt .f32 v6.1.Damp.bits) : C) = (.flt .f32 v6.1.Damp.bits)) ∧ (((.int .i64 v6.1.Passes) : C) = (.int .i64 v6.1.Passes)) ∧ True) ∧ True) ∧ CallOK Try.prog 19 [.agg (cs_String v48.1), .agg (cs_String v6.1)] [.one (.bool v50)]) ∧ True ∧ (True ∧ (!v50) = false) ∧ True ∧ True ∧ True ∧ True ∧ True) (by kernel_rfl) ⟨trivial, trivial, ⟨⟨⟨rfl, rfl, rfl, rfl, rfl, rfl, rfl, rfl, rfl, trivial⟩, ⟨rfl, rfl, rfl, rfl, rfl, rfl, rfl, rfl, rfl, trivial⟩, trivial⟩, ok_laws_eqString K v48.1 v6.1 v50 e51⟩, trivial, ⟨trivial, b52⟩, trivial, trivial, trivial, trivial, trivial⟩ ⟨rfl, rfl⟩
              refine thenQ_normal ?_
              rcases ite2_cases h with ⟨b55, h⟩ | ⟨b55, h⟩
              · refine AW.cond_t rfl b55 ?_
                refine AW.seq ?_
                refine AW.regionA [] [4] [] (s' := ⟨[(4, (.v (.one (.c (.bool false)))))], []⟩) (ob := True ∧ True) (by kernel_rfl) ⟨trivial, trivial⟩ ?_
                refine thenQ_normal ?_
                refine AW.ret ?_
                refine thenQ_ret ?_
                replace h := some_eq h
                subst h
                exact ⟨.inr rfl, retOK_of [(.one (.c (.bool false)))] (by kernel_rfl) ⟨⟨rfl, trivial⟩, trivial⟩ (of_decide_eq_true (by kernel_rfl))⟩
              · refine AW.cond_f rfl b55 ?_
                refine AW.skip ?_
                refine thenQ_normal ?_
                refine AW.seq ?_
                refine AW.regionA [] [9, 12, 13] [16, 17, 18, 19, 20] (s' := ⟨[(9, (.v (.one (.ptr 20 0)))), (12, (.v (.one (.c (.int .i64 v36.1))))), (13, (.v (.one (.c (.int .i64 (1 : Int))))))], [(16, (.arr true v36.2.1.length 3 (gl cs_Vector v36.2.1))), (17, (.arr true v36.2.2.1.length 3 (gl cs_Vector v36.2.2.1))), (18, (.arr true v36.2.2.2.1.length 1 (gl csB v36.2.2.2.1))), (19, (.arr true v36.2.2.2.2.length 1 (gl (csF .f32) v36.2.2.2.2))), (20, (.box [(.arr 16), (.arr 17), (.arr 18), (.arr 19), (.c (.flt .f32 v10.1.Fall.X.bits)), (.c (.flt .f32 v10.1.Fall.Y.bits)), (.c (.flt .f32 v10.1.Fall.Z.bits)), (.c (.flt .f32 v10.1.Damp.bits)), (.c (.int .i64 v10.1.Passes))]))]⟩) (ob := True ∧ True) (by kernel_rfl) ⟨trivial, trivial⟩ ?_
                refine thenQ_normal ?_
                refine AW.seq ?_
                obtain ⟨v56, e57, h⟩ := bind_some h
                refine AW.regionA [.no, .no, .call [.agg (cs_String (String.mk v36.2.1 v36.2.2.1 v36.2.2.2.1 v36.2.2.2.2 v10.1.Fall v10.1.Damp v10.1.Passes)), .one (.int .i64 (1 : Int))] [.one (.int .i64 v56)] [[.view]]] [12, 13] [] (s' := ⟨[(12, (.v (.one (.c (.int .i64 v36.1))))), (13, (.v (.one (.c (.int .i64 v56)))))], []⟩) (ob := True ∧ True ∧ ((((((sl 3 cs_Vector v36.2.1) : C) = (sl 3 cs_Vector v36.2.1)) ∧ (((sl 3 cs_Vector v36.2.2.1) : C) = (sl 3 cs_Vector v36.2.2.1)) ∧ (((sl 1 csB v36.2.2.2.1) : C) = (sl 1 csB v36.2.2.2.1)) ∧ (((sl 1 (csF .f32) v36.2.2.2.2) : C) = (sl 1 (csF .f32) v36.2.2.2.2)) ∧ (((.flt .f32 v10.1.Fall.X.bits) : C) = (.flt .f32 v10.1.Fall.X.bits)) ∧ (((.flt .f32 v10.1.Fall.Y.bits) : C) = (.flt .f32 v10.1.Fall.Y.bits)) ∧ (((.flt .f32 v10.1.Fall.Z.bits) : C) = (.flt .f32 v10.1.Fall.Z.bits)) ∧ (((.flt .f32 v10.1.Damp.bits) : C) = (.flt .f32 v10.1.Damp.bits)) ∧ (((.int .i64 v10.1.Passes) : C) = (.int .i64 v10.1.Passes)) ∧ True) ∧ (((.int .i64 (1 : Int)) : C) = (.int .i64 (1 : Int))) ∧ True) ∧ CallOK Try.prog 21 [.agg (cs_String (String.mk v36.2.1 v36.2.2.1 v36.2.2.2.1 v36.2.2.2.2 v10.1.Fall v10.1.Damp v10.1.Passes)), .one (.int .i64 (1 : Int))] [.one (.int .i64 v56)]) ∧ True ∧ True) (by kernel_rfl) ⟨trivial, trivial, ⟨⟨⟨rfl, rfl, rfl, rfl, rfl, rfl, rfl, rfl, rfl, trivial⟩, rfl, trivial⟩, ok_laws_heldString K (String.mk v36.2.1 v36.2.2.1 v36.2.2.2.1 v36.2.2.2.2 v10.1.Fall v10.1.Damp v10.1.Passes) (1 : Int) v56 e57⟩, trivial, trivial⟩ ?_
                refine thenQ_normal ?_
                refine AW.seq ?_
                refine AW.seq ?_
                refine AW.regionA [] [12, 13, 97] [] (s' := ⟨[(12, (.v (.one (.c (.int .i64 v36.1))))), (13, (.v (.one (.c (.int .i64 v56))))), (97, (.v (.one (.c (.bool (decide (v56 < (0 : Int))))))))], []⟩) (ob := True ∧ True ∧ True) (by kernel_rfl) ⟨trivial, trivial, trivial⟩ ?_
                refine thenQ_normal ?_
                rcases ite2_cases h with ⟨b58, h⟩ | ⟨b58, h⟩
                · refine AW.cond_t rfl b58 ?_
                  refine AW.seq ?_
                  refine AW.regionA [] [4] [] (s' := ⟨[(4, (.v (.one (.c (.bool false)))))], []⟩) (ob := True ∧ True) (by kernel_rfl) ⟨trivial, trivial⟩ ?_
                  refine thenQ_normal ?_
                  refine AW.ret ?_
                  refine thenQ_ret ?_
                  replace h := some_eq h
                  subst h
                  exact ⟨.inr rfl, retOK_of [(.one (.c (.bool false)))] (by kernel_rfl) ⟨⟨rfl, trivial⟩, trivial⟩ (of_decide_eq_true (by kernel_rfl))⟩
                · refine AW.cond_f rfl b58 ?_
                  refine AW.skip ?_
                  refine thenQ_normal ?_
                  refine AW.seq ?_
                  refine AW.seq ?_
                  refine AW.regionA [] [100] [] (s' := ⟨[(100, (.v (.one (.c (.bool (v56 != v36.1))))))], []⟩) (ob := True ∧ True ∧ True ∧ True) (by kernel_rfl) ⟨trivial, trivial, trivial, trivial⟩ ?_
                  refine thenQ_normal ?_
                  rcases ite2_cases h with ⟨b59, h⟩ | ⟨b59, h⟩
                  · refine AW.cond_t rfl b59 ?_
                    refine AW.seq ?_
                    refine AW.regionA [] [4] [] (s' := ⟨[(4, (.v (.one (.c (.bool false)))))], []⟩) (ob := True ∧ True) (by kernel_rfl) ⟨trivial, trivial⟩ ?_
                    refine thenQ_normal ?_
                    refine AW.ret ?_
                    refine thenQ_ret ?_
                    replace h := some_eq h
                    subst h
                    exact ⟨.inr rfl, retOK_of [(.one (.c (.bool false)))] (by kernel_rfl) ⟨⟨rfl, trivial⟩, trivial⟩ (of_decide_eq_true (by kernel_rfl))⟩
                  · refine AW.cond_f rfl b59 ?_
                    refine AW.skip ?_
                    refine thenQ_normal ?_
                    refine AW.seq ?_
                    refine AW.regionA [] [4] [] (s' := ⟨[(4, (.v (.one (.c (.bool true)))))], []⟩) (ob := True ∧ True) (by kernel_rfl) ⟨trivial, trivial⟩ ?_
                    refine thenQ_normal ?_
                    refine AW.ret ?_
                    replace h := some_eq h
                    subst h
                    exact ⟨.inr rfl, retOK_of [(.one (.c (.bool true)))] (by kernel_rfl) ⟨⟨rfl, trivial⟩, trivial⟩ (of_decide_eq_true (by kernel_rfl))⟩

end
end Go.Fw
