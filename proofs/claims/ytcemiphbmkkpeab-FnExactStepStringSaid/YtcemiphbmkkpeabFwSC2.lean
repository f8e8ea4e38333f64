/- Functions of the program: what each computes, and that it computes just that. -/
import Derived.Test.YtcemiphbmkkpeabFwTy
import Derived.Test.YtcemiphbmkkpeabFwH
import Derived.Test.YtcemiphbmkkpeabFwV
import Derived.Test.YtcemiphbmkkpeabFwSC1
import Derived.Test.YtcemiphbmkkpeabFwHF
import Derived.Test.YtcemiphbmkkpeabFwMK
import Derived.Test.YtcemiphbmkkpeabProg
import Derived.KernelRfl
namespace Go.Fw
open Go Go.Proofs
noncomputable section
set_option maxRecDepth 10000

/-! (*impl.String).pull -/
def Zt1 (QE : Prop) : Prop := ((Tt ∧ (Tt ∧ (Tt ∧ (Tt ∧ Tt)))) ∧ (Tt ∧ (Tt ∧ (Tt ∧ (Tt ∧ Tt)))) ∧ QE)
theorem zt1 {QE : Prop} (qe : QE) : Zt1 QE := ⟨⟨tr, ⟨tr, ⟨tr, ⟨tr, tr⟩⟩⟩⟩, ⟨tr, ⟨tr, ⟨tr, ⟨tr, tr⟩⟩⟩⟩, qe⟩
def Zt2 (Q1 Q2 Q3 Q4 Q5 : Prop) : Prop := (Q1 ∧ (Q2 ∧ (Q3 ∧ (Q4 ∧ (Q5 ∧ Tt)))))
theorem zt2 {Q1 Q2 Q3 Q4 Q5 : Prop} (q1 : Q1) (q2 : Q2) (q3 : Q3) (q4 : Q4) (q5 : Q5) : Zt2 Q1 Q2 Q3 Q4 Q5 := ⟨q1, ⟨q2, ⟨q3, ⟨q4, ⟨q5, tr⟩⟩⟩⟩⟩
def impl_String_pull (K : Nat) (a0 : String) (a1 : Int) : Option ((List Vector)) :=
  chk (0 ≤ a1 ∧ a1 < (a0.Points.length : Int)) (chk (0 ≤ (IntKind.i64.wrap (a1 + (1 : Int))) ∧ (IntKind.i64.wrap (a1 + (1 : Int))) < (a0.Points.length : Int)) ((impl_LessVectors K (a0.Points.getD ((IntKind.i64.wrap (a1 + (1 : Int))).toNat) default) (a0.Points.getD a1.toNat default)).bind fun v3 => (impl_LongOf K v3).bind fun v5 => (impl_isLength K v5).bind fun v7 => ite2 ((!v7)) (chk (a0.Points.length = a0.Points.length) (some a0.Points)) (chk (0 ≤ a1 ∧ a1 < (a0.Lengths.length : Int)) ((impl_ScaleVector K v3 ((v5.sub (a0.Lengths.getD a1.toNat default)).div v5)).bind fun v12 => chk (0 ≤ a1 ∧ a1 < (a0.Fixed.length : Int)) ((ite2 ((a0.Fixed.getD a1.toNat default)) (chk (0 ≤ (IntKind.i64.wrap (a1 + (1 : Int))) ∧ (IntKind.i64.wrap (a1 + (1 : Int))) < (a0.Fixed.length : Int)) (some (a0.Fixed.getD ((IntKind.i64.wrap (a1 + (1 : Int))).toNat) default))) (some false)).bind fun j17 => ite2 (j17) (chk (a0.Points.length = a0.Points.length) (some a0.Points)) (ite2 ((a0.Fixed.getD a1.toNat default)) ((impl_LessVectors K (a0.Points.getD ((IntKind.i64.wrap (a1 + (1 : Int))).toNat) default) v12).bind fun v22 => chk ((a0.Points.set ((IntKind.i64.wrap (a1 + (1 : Int))).toNat) v22).length = a0.Points.length) (some (a0.Points.set ((IntKind.i64.wrap (a1 + (1 : Int))).toNat) v22))) (chk (0 ≤ (IntKind.i64.wrap (a1 + (1 : Int))) ∧ (IntKind.i64.wrap (a1 + (1 : Int))) < (a0.Fixed.length : Int)) (ite2 ((a0.Fixed.getD ((IntKind.i64.wrap (a1 + (1 : Int))).toNat) default)) ((impl_AddVectors K (a0.Points.getD a1.toNat default) v12).bind fun v27 => chk ((a0.Points.set a1.toNat v27).length = a0.Points.length) (some (a0.Points.set a1.toNat v27))) ((impl_ScaleVector K v12 (Fl.mk (k := .f32) 1056964608 (by decide))).bind fun v30 => (impl_AddVectors K (a0.Points.getD a1.toNat default) v30).bind fun v32 => (impl_LessVectors K (a0.Points.getD ((IntKind.i64.wrap (a1 + (1 : Int))).toNat) default) v30).bind fun v34 => chk (((a0.Points.set a1.toNat v32).set ((IntKind.i64.wrap (a1 + (1 : Int))).toNat) v34).length = a0.Points.length) (some ((a0.Points.set a1.toNat v32).set ((IntKind.i64.wrap (a1 + (1 : Int))).toNat) v34)))))))))))

theorem ok_impl_String_pull (K : Nat) (a0 : String) (a1 : Int) (o : ((List Vector))) (h : impl_String_pull K a0 a1 = some o) : MutOK Try.prog 52 [(.boxm [(.mu (sl 3 cs_Vector a0.Points) (sl 3 cs_Vector o)), (.ro (sl 3 cs_Vector a0.Before)), (.ro (sl 1 csB a0.Fixed)), (.ro (sl 1 (csF .f32) a0.Lengths)), (.ro (.flt .f32 a0.Fall.X.bits)), (.ro (.flt .f32 a0.Fall.Y.bits)), (.ro (.flt .f32 a0.Fall.Z.bits)), (.ro (.flt .f32 a0.Damp.bits)), (.ro (.int .i64 a0.Passes))]), (.one (.ro (.int .i64 a1)))] [] := by
  refine mutOK_of_AW 2 Try.func52 rfl (by kernel_rfl) (Nat.le_of_ble_eq_true (by kernel_rfl)) (by kernel_rfl) (by kernel_rfl) ?_
  intro w0 K0 v0 s0
  unfold impl_String_pull at h
  refine AW.seq ?_
  obtain ⟨c1, h⟩ := chk_some h
  obtain ⟨c2, h⟩ := chk_some h
  refine AW.heldA (by kernel_rfl) [0, 1, 2, 3, 4, 5, 6, 7, 8, 9, 10, 11, 12, 13, 14] [] 2 [16, 24] [.no, .no, .no, .no, .no, .no, .no, .no, .no, .no, .no, .no, .no, .no, .no, .box 2, .box 3] [4, 5] [2, 3] [0, 1, 4, 5] [0, 1, 2, 3] (s' := ⟨[(0, (vp 0 0)), (1, (vc (.int .i64 a1))), (4, (vp 2 0)), (5, (vp 3 0))], [(0, (.box [(.arr 1), (.fx 0 1 (sl 3 cs_Vector a0.Before)), (.fx 0 2 (sl 1 csB a0.Fixed)), (.fx 0 3 (sl 1 (csF .f32) a0.Lengths)), (.fx 0 4 (.flt .f32 a0.Fall.X.bits)), (.fx 0 5 (.flt .f32 a0.Fall.Y.bits)), (.fx 0 6 (.flt .f32 a0.Fall.Z.bits)), (.fx 0 7 (.flt .f32 a0.Damp.bits)), (.fx 0 8 (.int .i64 a0.Passes))])), (1, (.arr true a0.Points.length 3 (gl cs_Vector a0.Points))), (2, (.box [(.c (.flt .f32 ((a0.Points.getD a1.toNat default).X).bits)), (.c (.flt .f32 ((a0.Points.getD a1.toNat default).Y).bits)), (.c (.flt .f32 ((a0.Points.getD a1.toNat default).Z).bits))])), (3, (.box [(.c (.flt .f32 ((a0.Points.getD ((IntKind.i64.wrap (a1 + (1 : Int))).toNat) default).X).bits)), (.c (.flt .f32 ((a0.Points.getD ((IntKind.i64.wrap (a1 + (1 : Int))).toNat) default).Y).bits)), (.c (.flt .f32 ((a0.Points.getD ((IntKind.i64.wrap (a1 + (1 : Int))).toNat) default).Z).bits))]))]⟩) (ob := (Tt ∧ T4 ((0 ≤ a1 ∧ a1 < (a0.Points.length : Int)) ∧ Tt ∧ T2 (T4 ((0 ≤ (IntKind.i64.wrap (a1 + (1 : Int))) ∧ (IntKind.i64.wrap (a1 + (1 : Int))) < (a0.Points.length : Int)) ∧ Tt ∧ Tt)))) ∧ (Zt1 ((⟨[(4, (vp 2 0)), (5, (vp 3 0))], [(2, (.box [(.c (.flt .f32 ((a0.Points.getD a1.toNat default).X).bits)), (.c (.flt .f32 ((a0.Points.getD a1.toNat default).Y).bits)), (.c (.flt .f32 ((a0.Points.getD a1.toNat default).Z).bits))])), (3, (.box [(.c (.flt .f32 ((a0.Points.getD ((IntKind.i64.wrap (a1 + (1 : Int))).toNat) default).X).bits)), (.c (.flt .f32 ((a0.Points.getD ((IntKind.i64.wrap (a1 + (1 : Int))).toNat) default).Y).bits)), (.c (.flt .f32 ((a0.Points.getD ((IntKind.i64.wrap (a1 + (1 : Int))).toNat) default).Z).bits))]))]⟩ : St) = ⟨[(4, (vp 2 0)), (5, (vp 3 0))], [(2, (.box [(.c (.flt .f32 ((a0.Points.getD a1.toNat default).X).bits)), (.c (.flt .f32 ((a0.Points.getD a1.toNat default).Y).bits)), (.c (.flt .f32 ((a0.Points.getD a1.toNat default).Z).bits))])), (3, (.box [(.c (.flt .f32 ((a0.Points.getD ((IntKind.i64.wrap (a1 + (1 : Int))).toNat) default).X).bits)), (.c (.flt .f32 ((a0.Points.getD ((IntKind.i64.wrap (a1 + (1 : Int))).toNat) default).Y).bits)), (.c (.flt .f32 ((a0.Points.getD ((IntKind.i64.wrap (a1 + (1 : Int))).toNat) default).Z).bits))]))]⟩)) ∧ (Tt)) (by kernel_rfl) ⟨⟨tr, tr, tr, tr, tr, c1, tr, tr, tr, tr, tr, tr, tr, c2, tr, tr⟩, (zt1 rfl), tr⟩ ?_
  refine thenQ_normal ?_
  refine AW.seq ?_
  obtain ⟨v3, e4, h⟩ := bind_some h
  refine AW.rA ⟨[(0, (vp 0 0)), (1, (vc (.int .i64 a1))), (4, (vp 2 0)), (5, (vp 3 0)), (6, (vp 4 0))], [(0, (.box [(.arr 1), (.fx 0 1 (sl 3 cs_Vector a0.Before)), (.fx 0 2 (sl 1 csB a0.Fixed)), (.fx 0 3 (sl 1 (csF .f32) a0.Lengths)), (.fx 0 4 (.flt .f32 a0.Fall.X.bits)), (.fx 0 5 (.flt .f32 a0.Fall.Y.bits)), (.fx 0 6 (.flt .f32 a0.Fall.Z.bits)), (.fx 0 7 (.flt .f32 a0.Damp.bits)), (.fx 0 8 (.int .i64 a0.Passes))])), (1, (.arr true a0.Points.length 3 (gl cs_Vector a0.Points))), (2, (.box [(.c (.flt .f32 ((a0.Points.getD a1.toNat default).X).bits)), (.c (.flt .f32 ((a0.Points.getD a1.toNat default).Y).bits)), (.c (.flt .f32 ((a0.Points.getD a1.toNat default).Z).bits))])), (3, (.box [(.c (.flt .f32 ((a0.Points.getD ((IntKind.i64.wrap (a1 + (1 : Int))).toNat) default).X).bits)), (.c (.flt .f32 ((a0.Points.getD ((IntKind.i64.wrap (a1 + (1 : Int))).toNat) default).Y).bits)), (.c (.flt .f32 ((a0.Points.getD ((IntKind.i64.wrap (a1 + (1 : Int))).toNat) default).Z).bits))])), (4, (.box [(.c (.flt .f32 v3.X.bits)), (.c (.flt .f32 v3.Y.bits)), (.c (.flt .f32 v3.Z.bits))]))]⟩ (T2 (((((((.flt .f32 ((a0.Points.getD ((IntKind.i64.wrap (a1 + (1 : Int))).toNat) default).X).bits) : C) = (.flt .f32 ((a0.Points.getD ((IntKind.i64.wrap (a1 + (1 : Int))).toNat) default).X).bits)) ∧ (((.flt .f32 ((a0.Points.getD ((IntKind.i64.wrap (a1 + (1 : Int))).toNat) default).Y).bits) : C) = (.flt .f32 ((a0.Points.getD ((IntKind.i64.wrap (a1 + (1 : Int))).toNat) default).Y).bits)) ∧ (((.flt .f32 ((a0.Points.getD ((IntKind.i64.wrap (a1 + (1 : Int))).toNat) default).Z).bits) : C) = (.flt .f32 ((a0.Points.getD ((IntKind.i64.wrap (a1 + (1 : Int))).toNat) default).Z).bits)) ∧ Tt) ∧ ((Eqc (.flt .f32 ((a0.Points.getD a1.toNat default).X).bits)) ∧ (Eqc (.flt .f32 ((a0.Points.getD a1.toNat default).Y).bits)) ∧ (Eqc (.flt .f32 ((a0.Points.getD a1.toNat default).Z).bits)) ∧ Tt) ∧ Tt) ∧ CallOK Try.prog 51 [.agg (cs_Vector (a0.Points.getD ((IntKind.i64.wrap (a1 + (1 : Int))).toNat) default)), .agg (cs_Vector (a0.Points.getD a1.toNat default))] [.agg (cs_Vector v3)]) ∧ T2 Tt)) [.no, .no, .call [.agg (cs_Vector (a0.Points.getD ((IntKind.i64.wrap (a1 + (1 : Int))).toNat) default)), .agg (cs_Vector (a0.Points.getD a1.toNat default))] [.agg (cs_Vector v3)] [[.view, .view, .view]], .box 4] [0, 1, 4, 5, 6] [0, 1, 2, 3, 4] ⟨tr, tr, ⟨⟨⟨rfl, rfl, rfl, tr⟩, ⟨rfl, rfl, rfl, tr⟩, tr⟩, ok_impl_LessVectors K (a0.Points.getD ((IntKind.i64.wrap (a1 + (1 : Int))).toNat) default) (a0.Points.getD a1.toNat default) v3 e4⟩, tr, tr, tr⟩ ?_
  refine thenQ_normal ?_
  refine AW.seq ?_
  obtain ⟨v5, e6, h⟩ := bind_some h
  refine AW.rA ⟨[(0, (vp 0 0)), (1, (vc (.int .i64 a1))), (4, (vp 2 0)), (5, (vp 3 0)), (6, (vp 4 0)), (7, (vc (.flt .f32 v5.bits)))], [(0, (.box [(.arr 1), (.fx 0 1 (sl 3 cs_Vector a0.Before)), (.fx 0 2 (sl 1 csB a0.Fixed)), (.fx 0 3 (sl 1 (csF .f32) a0.Lengths)), (.fx 0 4 (.flt .f32 a0.Fall.X.bits)), (.fx 0 5 (.flt .f32 a0.Fall.Y.bits)), (.fx 0 6 (.flt .f32 a0.Fall.Z.bits)), (.fx 0 7 (.flt .f32 a0.Damp.bits)), (.fx 0 8 (.int .i64 a0.Passes))])), (1, (.arr true a0.Points.length 3 (gl cs_Vector a0.Points))), (2, (.box [(.c (.flt .f32 ((a0.Points.getD a1.toNat default).X).bits)), (.c (.flt .f32 ((a0.Points.getD a1.toNat default).Y).bits)), (.c (.flt .f32 ((a0.Points.getD a1.toNat default).Z).bits))])), (3, (.box [(.c (.flt .f32 ((a0.Points.getD ((IntKind.i64.wrap (a1 + (1 : Int))).toNat) default).X).bits)), (.c (.flt .f32 ((a0.Points.getD ((IntKind.i64.wrap (a1 + (1 : Int))).toNat) default).Y).bits)), (.c (.flt .f32 ((a0.Points.getD ((IntKind.i64.wrap (a1 + (1 : Int))).toNat) default).Z).bits))])), (4, (.box [(.c (.flt .f32 v3.X.bits)), (.c (.flt .f32 v3.Y.bits)), (.c (.flt .f32 v3.Z.bits))]))]⟩ (Tt ∧ ((((Eqc (.flt .f32 v3.X.bits)) ∧ (Eqc (.flt .f32 v3.Y.bits)) ∧ (Eqc (.flt .f32 v3.Z.bits)) ∧ Tt) ∧ Tt) ∧ CallOK Try.prog 55 [.agg (cs_Vector v3)] [.one (.flt .f32 v5.bits)]) ∧ Tt ∧ Tt) [.no, .call [.agg (cs_Vector v3)] [.one (.flt .f32 v5.bits)] [[.view]]] [0, 1, 4, 5, 6, 7] [0, 1, 2, 3, 4] ⟨tr, ⟨⟨⟨rfl, rfl, rfl, tr⟩, tr⟩, ok_impl_LongOf K v3 v5 e6⟩, tr, tr⟩ ?_
  refine thenQ_normal ?_
  refine AW.seq ?_
  refine AW.seq ?_
  obtain ⟨v7, e8, h⟩ := bind_some h
  refine AW.rA ⟨[(0, (vp 0 0)), (1, (vc (.int .i64 a1))), (4, (vp 2 0)), (5, (vp 3 0)), (6, (vp 4 0)), (7, (vc (.flt .f32 v5.bits))), (32, (vc (.bool (!v7))))], [(0, (.box [(.arr 1), (.fx 0 1 (sl 3 cs_Vector a0.Before)), (.fx 0 2 (sl 1 csB a0.Fixed)), (.fx 0 3 (sl 1 (csF .f32) a0.Lengths)), (.fx 0 4 (.flt .f32 a0.Fall.X.bits)), (.fx 0 5 (.flt .f32 a0.Fall.Y.bits)), (.fx 0 6 (.flt .f32 a0.Fall.Z.bits)), (.fx 0 7 (.flt .f32 a0.Damp.bits)), (.fx 0 8 (.int .i64 a0.Passes))])), (1, (.arr true a0.Points.length 3 (gl cs_Vector a0.Points))), (2, (.box [(.c (.flt .f32 ((a0.Points.getD a1.toNat default).X).bits)), (.c (.flt .f32 ((a0.Points.getD a1.toNat default).Y).bits)), (.c (.flt .f32 ((a0.Points.getD a1.toNat default).Z).bits))])), (3, (.box [(.c (.flt .f32 ((a0.Points.getD ((IntKind.i64.wrap (a1 + (1 : Int))).toNat) default).X).bits)), (.c (.flt .f32 ((a0.Points.getD ((IntKind.i64.wrap (a1 + (1 : Int))).toNat) default).Y).bits)), (.c (.flt .f32 ((a0.Points.getD ((IntKind.i64.wrap (a1 + (1 : Int))).toNat) default).Z).bits))])), (4, (.box [(.c (.flt .f32 v3.X.bits)), (.c (.flt .f32 v3.Y.bits)), (.c (.flt .f32 v3.Z.bits))]))]⟩ (Tt ∧ (((Eqc (.flt .f32 v5.bits)) ∧ Tt) ∧ CallOK Try.prog 56 [.one (.flt .f32 v5.bits)] [.one (.bool v7)]) ∧ Tt ∧ Tt) [.no, .call [.one (.flt .f32 v5.bits)] [.one (.bool v7)] [[.view]]] [0, 1, 4, 5, 6, 7, 32] [0, 1, 2, 3, 4] ⟨tr, ⟨⟨rfl, tr⟩, ok_impl_isLength K v5 v7 e8⟩, tr, tr⟩ ?_
  refine thenQ_normal ?_
  rcases ite2_cases h with ⟨b9, h⟩ | ⟨b9, h⟩
  · refine AW.cond_t rfl b9 ?_
    refine AW.ret ?_
    refine thenQ_ret ?_
    obtain ⟨c10, h⟩ := chk_some h
    replace h := some_eq h
    subst h
    exact ⟨.inr rfl, retOK_of [] (by kernel_rfl) tr (of_decide_eq_true (by kernel_rfl)), by kernel_rfl, ⟨⟨⟨⟨c10, rfl, rfl⟩, tr, tr, tr, tr, tr, tr, tr, tr, tr⟩, ⟨rfl, ⟨rfl, rfl⟩, ⟨rfl, rfl⟩, ⟨rfl, rfl⟩, ⟨rfl, rfl⟩, ⟨rfl, rfl⟩, ⟨rfl, rfl⟩, ⟨rfl, rfl⟩, ⟨rfl, rfl⟩, tr⟩⟩, tr, tr⟩⟩
  · refine AW.cond_f rfl b9 ?_
    refine AW.skip ?_
    refine thenQ_normal ?_
    refine AW.seq ?_
    obtain ⟨c11, h⟩ := chk_some h
    obtain ⟨v12, e13, h⟩ := bind_some h
    refine AW.dA ⟨[(0, (vp 0 0)), (1, (vc (.int .i64 a1))), (4, (vp 2 0)), (5, (vp 3 0)), (8, (vp 5 0))], [(0, (.box [(.arr 1), (.fx 0 1 (sl 3 cs_Vector a0.Before)), (.fx 0 2 (sl 1 csB a0.Fixed)), (.fx 0 3 (sl 1 (csF .f32) a0.Lengths)), (.fx 0 4 (.flt .f32 a0.Fall.X.bits)), (.fx 0 5 (.flt .f32 a0.Fall.Y.bits)), (.fx 0 6 (.flt .f32 a0.Fall.Z.bits)), (.fx 0 7 (.flt .f32 a0.Damp.bits)), (.fx 0 8 (.int .i64 a0.Passes))])), (1, (.arr true a0.Points.length 3 (gl cs_Vector a0.Points))), (2, (.box [(.c (.flt .f32 ((a0.Points.getD a1.toNat default).X).bits)), (.c (.flt .f32 ((a0.Points.getD a1.toNat default).Y).bits)), (.c (.flt .f32 ((a0.Points.getD a1.toNat default).Z).bits))])), (3, (.box [(.c (.flt .f32 ((a0.Points.getD ((IntKind.i64.wrap (a1 + (1 : Int))).toNat) default).X).bits)), (.c (.flt .f32 ((a0.Points.getD ((IntKind.i64.wrap (a1 + (1 : Int))).toNat) default).Y).bits)), (.c (.flt .f32 ((a0.Points.getD ((IntKind.i64.wrap (a1 + (1 : Int))).toNat) default).Z).bits))])), (5, (.box [(.c (.flt .f32 v12.X.bits)), (.c (.flt .f32 v12.Y.bits)), (.c (.flt .f32 v12.Z.bits))]))]⟩ ((Tt ∧ T2 (T4 ((0 ≤ a1 ∧ a1 < (a0.Lengths.length : Int)) ∧ T4 (((((Eqc (.flt .f32 v3.X.bits)) ∧ (Eqc (.flt .f32 v3.Y.bits)) ∧ (Eqc (.flt .f32 v3.Z.bits)) ∧ Tt) ∧ (Eqc (.flt .f32 ((v5.sub (a0.Lengths.getD a1.toNat default)).div v5).bits)) ∧ Tt) ∧ CallOK Try.prog 50 [.agg (cs_Vector v3), .one (.flt .f32 ((v5.sub (a0.Lengths.getD a1.toNat default)).div v5).bits)] [.agg (cs_Vector v12)]) ∧ Tt ∧ Tt)))) ∧ (Tt ∧ Tt)) 14 [.no, .no, .no, .no, .no, .no, .no, .no, .no, .no, .no, .no, .call [.agg (cs_Vector v3), .one (.flt .f32 ((v5.sub (a0.Lengths.getD a1.toNat default)).div v5).bits)] [.agg (cs_Vector v12)] [[.view, .view, .view]], .box 5] [0, 1, 4, 5, 8] [0, 1, 2, 3, 5] ⟨⟨tr, tr, tr, tr, tr, tr, tr, c11, tr, tr, tr, tr, ⟨⟨⟨rfl, rfl, rfl, tr⟩, rfl, tr⟩, ok_impl_ScaleVector K v3 ((v5.sub (a0.Lengths.getD a1.toNat default)).div v5) v12 e13⟩, tr, tr⟩, ⟨tr, tr⟩⟩ ?_
    refine thenQ_normal ?_
    refine AW.block ?_
    refine AW.seq ?_
    obtain ⟨c14, h⟩ := chk_some h
    obtain ⟨j17, e18, h⟩ := bind_some h
    refine AW.join1 (s2 := ⟨[(0, (vp 0 0)), (1, (vc (.int .i64 a1))), (4, (vp 2 0)), (5, (vp 3 0)), (8, (vp 5 0)), (67, (vc (.bool j17)))], [(0, (.box [(.arr 1), (.fx 0 1 (sl 3 cs_Vector a0.Before)), (.fx 0 2 (sl 1 csB a0.Fixed)), (.fx 0 3 (sl 1 (csF .f32) a0.Lengths)), (.fx 0 4 (.flt .f32 a0.Fall.X.bits)), (.fx 0 5 (.flt .f32 a0.Fall.Y.bits)), (.fx 0 6 (.flt .f32 a0.Fall.Z.bits)), (.fx 0 7 (.flt .f32 a0.Damp.bits)), (.fx 0 8 (.int .i64 a0.Passes))])), (1, (.arr true a0.Points.length 3 (gl cs_Vector a0.Points))), (2, (.box [(.c (.flt .f32 ((a0.Points.getD a1.toNat default).X).bits)), (.c (.flt .f32 ((a0.Points.getD a1.toNat default).Y).bits)), (.c (.flt .f32 ((a0.Points.getD a1.toNat default).Z).bits))])), (3, (.box [(.c (.flt .f32 ((a0.Points.getD ((IntKind.i64.wrap (a1 + (1 : Int))).toNat) default).X).bits)), (.c (.flt .f32 ((a0.Points.getD ((IntKind.i64.wrap (a1 + (1 : Int))).toNat) default).Y).bits)), (.c (.flt .f32 ((a0.Points.getD ((IntKind.i64.wrap (a1 + (1 : Int))).toNat) default).Z).bits))])), (5, (.box [(.c (.flt .f32 v12.X.bits)), (.c (.flt .f32 v12.Y.bits)), (.c (.flt .f32 v12.Z.bits))]))]⟩) ?_ ?_
    · rcases ite2_cases e18 with ⟨b15, e18⟩ | ⟨b15, e18⟩
      · obtain ⟨c16, e18⟩ := chk_some e18
        replace e18 := some_eq e18
        subst e18
        exact AW.rA ⟨[(0, (vp 0 0)), (1, (vc (.int .i64 a1))), (4, (vp 2 0)), (5, (vp 3 0)), (8, (vp 5 0)), (67, (vc (.bool (a0.Fixed.getD ((IntKind.i64.wrap (a1 + (1 : Int))).toNat) default))))], [(0, (.box [(.arr 1), (.fx 0 1 (sl 3 cs_Vector a0.Before)), (.fx 0 2 (sl 1 csB a0.Fixed)), (.fx 0 3 (sl 1 (csF .f32) a0.Lengths)), (.fx 0 4 (.flt .f32 a0.Fall.X.bits)), (.fx 0 5 (.flt .f32 a0.Fall.Y.bits)), (.fx 0 6 (.flt .f32 a0.Fall.Z.bits)), (.fx 0 7 (.flt .f32 a0.Damp.bits)), (.fx 0 8 (.int .i64 a0.Passes))])), (1, (.arr true a0.Points.length 3 (gl cs_Vector a0.Points))), (2, (.box [(.c (.flt .f32 ((a0.Points.getD a1.toNat default).X).bits)), (.c (.flt .f32 ((a0.Points.getD a1.toNat default).Y).bits)), (.c (.flt .f32 ((a0.Points.getD a1.toNat default).Z).bits))])), (3, (.box [(.c (.flt .f32 ((a0.Points.getD ((IntKind.i64.wrap (a1 + (1 : Int))).toNat) default).X).bits)), (.c (.flt .f32 ((a0.Points.getD ((IntKind.i64.wrap (a1 + (1 : Int))).toNat) default).Y).bits)), (.c (.flt .f32 ((a0.Points.getD ((IntKind.i64.wrap (a1 + (1 : Int))).toNat) default).Z).bits))])), (5, (.box [(.c (.flt .f32 v12.X.bits)), (.c (.flt .f32 v12.Y.bits)), (.c (.flt .f32 v12.Z.bits))]))]⟩ (Tt ∧ T4 ((0 ≤ a1 ∧ a1 < (a0.Fixed.length : Int)) ∧ Tt ∧ (Tt ∧ (a0.Fixed.getD a1.toNat default) = true) ∧ T2 (T4 ((0 ≤ (IntKind.i64.wrap (a1 + (1 : Int))) ∧ (IntKind.i64.wrap (a1 + (1 : Int))) < (a0.Fixed.length : Int)) ∧ Tt ∧ T2 Tt)))) [.no, .no, .no, .no, .no, .no, .no, .dec true] [0, 1, 4, 5, 8, 67] [0, 1, 2, 3, 5] ⟨tr, tr, tr, tr, tr, c14, tr, ⟨tr, b15⟩, tr, tr, tr, tr, tr, tr, c16, tr, tr, tr, tr⟩ ⟨rfl, rfl⟩
      · replace e18 := some_eq e18
        subst e18
        exact AW.rA ⟨[(0, (vp 0 0)), (1, (vc (.int .i64 a1))), (4, (vp 2 0)), (5, (vp 3 0)), (8, (vp 5 0)), (67, (vc (.bool false)))], [(0, (.box [(.arr 1), (.fx 0 1 (sl 3 cs_Vector a0.Before)), (.fx 0 2 (sl 1 csB a0.Fixed)), (.fx 0 3 (sl 1 (csF .f32) a0.Lengths)), (.fx 0 4 (.flt .f32 a0.Fall.X.bits)), (.fx 0 5 (.flt .f32 a0.Fall.Y.bits)), (.fx 0 6 (.flt .f32 a0.Fall.Z.bits)), (.fx 0 7 (.flt .f32 a0.Damp.bits)), (.fx 0 8 (.int .i64 a0.Passes))])), (1, (.arr true a0.Points.length 3 (gl cs_Vector a0.Points))), (2, (.box [(.c (.flt .f32 ((a0.Points.getD a1.toNat default).X).bits)), (.c (.flt .f32 ((a0.Points.getD a1.toNat default).Y).bits)), (.c (.flt .f32 ((a0.Points.getD a1.toNat default).Z).bits))])), (3, (.box [(.c (.flt .f32 ((a0.Points.getD ((IntKind.i64.wrap (a1 + (1 : Int))).toNat) default).X).bits)), (.c (.flt .f32 ((a0.Points.getD ((IntKind.i64.wrap (a1 + (1 : Int))).toNat) default).Y).bits)), (.c (.flt .f32 ((a0.Points.getD ((IntKind.i64.wrap (a1 + (1 : Int))).toNat) default).Z).bits))])), (5, (.box [(.c (.flt .f32 v12.X.bits)), (.c (.flt .f32 v12.Y.bits)), (.c (.flt .f32 v12.Z.bits))]))]⟩ (Tt ∧ T4 ((0 ≤ a1 ∧ a1 < (a0.Fixed.length : Int)) ∧ Tt ∧ (Tt ∧ (a0.Fixed.getD a1.toNat default) = false) ∧ T2 (T4 (T4 Tt)))) [.no, .no, .no, .no, .no, .no, .no, .dec false] [0, 1, 4, 5, 8, 67] [0, 1, 2, 3, 5] ⟨tr, tr, tr, tr, tr, c14, tr, ⟨tr, b15⟩, tr, tr, tr, tr, tr, tr, tr, tr, tr, tr, tr⟩ ⟨rfl, rfl⟩
    refine thenQ_normal ?_
    rcases ite2_cases h with ⟨b19, h⟩ | ⟨b19, h⟩
    · refine AW.cond_t rfl b19 ?_
      refine AW.skip ?_
      refine blockQ_normal ?_
      obtain ⟨c20, h⟩ := chk_some h
      replace h := some_eq h
      subst h
      exact ⟨.inl rfl, retOK_of [] (by kernel_rfl) tr (of_decide_eq_true (by kernel_rfl)), by kernel_rfl, ⟨⟨⟨⟨c20, rfl, rfl⟩, tr, tr, tr, tr, tr, tr, tr, tr, tr⟩, ⟨rfl, ⟨rfl, rfl⟩, ⟨rfl, rfl⟩, ⟨rfl, rfl⟩, ⟨rfl, rfl⟩, ⟨rfl, rfl⟩, ⟨rfl, rfl⟩, ⟨rfl, rfl⟩, ⟨rfl, rfl⟩, tr⟩⟩, tr, tr⟩⟩
    · refine AW.cond_f rfl b19 ?_
      refine AW.seq (AW.rA ⟨[(0, (vp 0 0)), (1, (vc (.int .i64 a1))), (4, (vp 2 0)), (5, (vp 3 0)), (8, (vp 5 0)), (85, (vc (.bool (a0.Fixed.getD a1.toNat default))))], [(0, (.box [(.arr 1), (.fx 0 1 (sl 3 cs_Vector a0.Before)), (.fx 0 2 (sl 1 csB a0.Fixed)), (.fx 0 3 (sl 1 (csF .f32) a0.Lengths)), (.fx 0 4 (.flt .f32 a0.Fall.X.bits)), (.fx 0 5 (.flt .f32 a0.Fall.Y.bits)), (.fx 0 6 (.flt .f32 a0.Fall.Z.bits)), (.fx 0 7 (.flt .f32 a0.Damp.bits)), (.fx 0 8 (.int .i64 a0.Passes))])), (1, (.arr true a0.Points.length 3 (gl cs_Vector a0.Points))), (2, (.box [(.c (.flt .f32 ((a0.Points.getD a1.toNat default).X).bits)), (.c (.flt .f32 ((a0.Points.getD a1.toNat default).Y).bits)), (.c (.flt .f32 ((a0.Points.getD a1.toNat default).Z).bits))])), (3, (.box [(.c (.flt .f32 ((a0.Points.getD ((IntKind.i64.wrap (a1 + (1 : Int))).toNat) default).X).bits)), (.c (.flt .f32 ((a0.Points.getD ((IntKind.i64.wrap (a1 + (1 : Int))).toNat) default).Y).bits)), (.c (.flt .f32 ((a0.Points.getD ((IntKind.i64.wrap (a1 + (1 : Int))).toNat) default).Z).bits))])), (5, (.box [(.c (.flt .f32 v12.X.bits)), (.c (.flt .f32 v12.Y.bits)), (.c (.flt .f32 v12.Z.bits))]))]⟩ (Tt ∧ T4 ((0 ≤ a1 ∧ a1 < (a0.Fixed.length : Int)) ∧ T2 Tt)) [] [0, 1, 4, 5, 8, 85] [0, 1, 2, 3, 5] ⟨tr, tr, tr, tr, tr, c14, tr, tr, tr⟩ (thenQ_normal ?_))
      rcases ite2_cases h with ⟨b21, h⟩ | ⟨b21, h⟩
      · refine AW.cond_t rfl b21 ?_
        obtain ⟨v22, e23, h⟩ := bind_some h
        refine AW.dA ⟨[(0, (vp 0 0)), (1, (vc (.int .i64 a1)))], [(0, (.box [(.arr 1), (.fx 0 1 (sl 3 cs_Vector a0.Before)), (.fx 0 2 (sl 1 csB a0.Fixed)), (.fx 0 3 (sl 1 (csF .f32) a0.Lengths)), (.fx 0 4 (.flt .f32 a0.Fall.X.bits)), (.fx 0 5 (.flt .f32 a0.Fall.Y.bits)), (.fx 0 6 (.flt .f32 a0.Fall.Z.bits)), (.fx 0 7 (.flt .f32 a0.Damp.bits)), (.fx 0 8 (.int .i64 a0.Passes))])), (1, (.arr true (a0.Points.set ((IntKind.i64.wrap (a1 + (1 : Int))).toNat) v22).length 3 (gl cs_Vector (a0.Points.set ((IntKind.i64.wrap (a1 + (1 : Int))).toNat) v22))))]⟩ ((T4 (T4 (((((((.flt .f32 ((a0.Points.getD ((IntKind.i64.wrap (a1 + (1 : Int))).toNat) default).X).bits) : C) = (.flt .f32 ((a0.Points.getD ((IntKind.i64.wrap (a1 + (1 : Int))).toNat) default).X).bits)) ∧ (((.flt .f32 ((a0.Points.getD ((IntKind.i64.wrap (a1 + (1 : Int))).toNat) default).Y).bits) : C) = (.flt .f32 ((a0.Points.getD ((IntKind.i64.wrap (a1 + (1 : Int))).toNat) default).Y).bits)) ∧ (((.flt .f32 ((a0.Points.getD ((IntKind.i64.wrap (a1 + (1 : Int))).toNat) default).Z).bits) : C) = (.flt .f32 ((a0.Points.getD ((IntKind.i64.wrap (a1 + (1 : Int))).toNat) default).Z).bits)) ∧ Tt) ∧ ((Eqc (.flt .f32 v12.X.bits)) ∧ (Eqc (.flt .f32 v12.Y.bits)) ∧ (Eqc (.flt .f32 v12.Z.bits)) ∧ Tt) ∧ Tt) ∧ CallOK Try.prog 51 [.agg (cs_Vector (a0.Points.getD ((IntKind.i64.wrap (a1 + (1 : Int))).toNat) default)), .agg (cs_Vector v12)] [.agg (cs_Vector v22)]) ∧ (0 ≤ (IntKind.i64.wrap (a1 + (1 : Int))) ∧ (IntKind.i64.wrap (a1 + (1 : Int))) < (a0.Points.length : Int)) ∧ Tt))) ∧ (((a0.Points.set ((IntKind.i64.wrap (a1 + (1 : Int))).toNat) v22).length = a0.Points.length ∧ SetOb a0.Points.length 3 ((IntKind.i64.wrap (a1 + (1 : Int))).toNat) 0 3 (gl cs_Vector a0.Points) (gl cs_Vector (a0.Points.set ((IntKind.i64.wrap (a1 + (1 : Int))).toNat) v22)) ∧ ((List.range 3).map fun j => (cs_Vector v22).getD (0 + j) .nilptr) = ((List.range 3).map fun j => gl cs_Vector (a0.Points.set ((IntKind.i64.wrap (a1 + (1 : Int))).toNat) v22) ((IntKind.i64.wrap (a1 + (1 : Int))).toNat) (0 + j)) ∧ ((((.flt .f32 v22.X.bits) : C) = (.flt .f32 v22.X.bits) ∧ Tt) ∧ (((.flt .f32 v22.Y.bits) : C) = (.flt .f32 v22.Y.bits) ∧ Tt) ∧ (((.flt .f32 v22.Z.bits) : C) = (.flt .f32 v22.Z.bits) ∧ Tt) ∧ Tt) ∧ (true = true → ∀ j, j < 3 → isSeq (gl cs_Vector a0.Points ((IntKind.i64.wrap (a1 + (1 : Int))).toNat) (0 + j)) = false ∧ isSeq (gl cs_Vector (a0.Points.set ((IntKind.i64.wrap (a1 + (1 : Int))).toNat) v22) ((IntKind.i64.wrap (a1 + (1 : Int))).toNat) (0 + j)) = false)) ∧ Tt)) 10 [.no, .no, .no, .no, .no, .no, .no, .no, .call [.agg (cs_Vector (a0.Points.getD ((IntKind.i64.wrap (a1 + (1 : Int))).toNat) default)), .agg (cs_Vector v12)] [.agg (cs_Vector v22)] [[.view, .view, .view]], .no, .set (a0.Points.set ((IntKind.i64.wrap (a1 + (1 : Int))).toNat) v22).length (gl cs_Vector (a0.Points.set ((IntKind.i64.wrap (a1 + (1 : Int))).toNat) v22)) ((List.range 3).map fun j => (cs_Vector v22).getD (0 + j) .nilptr)] [0, 1] [0, 1] ⟨⟨tr, tr, tr, tr, tr, tr, tr, tr, ⟨⟨⟨rfl, rfl, rfl, tr⟩, ⟨rfl, rfl, rfl, tr⟩, tr⟩, ok_impl_LessVectors K (a0.Points.getD ((IntKind.i64.wrap (a1 + (1 : Int))).toNat) default) v12 v22 e23⟩, c2, tr⟩, ⟨⟨List.length_set, gl_set, (gl_atp (lt_of_bound c2)).symm, ⟨⟨rfl, tr⟩, ⟨rfl, tr⟩, ⟨rfl, tr⟩, tr⟩, (fun _ j hj => match j, hj with | 0, _ => ⟨rfl, rfl⟩ | 1, _ => ⟨rfl, rfl⟩ | 2, _ => ⟨rfl, rfl⟩)⟩, tr⟩⟩ ?_
        refine blockQ_normal ?_
        obtain ⟨c24, h⟩ := chk_some h
        replace h := some_eq h
        subst h
        exact ⟨.inl rfl, retOK_of [] (by kernel_rfl) tr (of_decide_eq_true (by kernel_rfl)), by kernel_rfl, ⟨⟨⟨⟨c24, rfl, rfl⟩, tr, tr, tr, tr, tr, tr, tr, tr, tr⟩, ⟨rfl, ⟨rfl, rfl⟩, ⟨rfl, rfl⟩, ⟨rfl, rfl⟩, ⟨rfl, rfl⟩, ⟨rfl, rfl⟩, ⟨rfl, rfl⟩, ⟨rfl, rfl⟩, ⟨rfl, rfl⟩, tr⟩⟩, tr, tr⟩⟩
      · refine AW.cond_f rfl b21 ?_
        refine AW.seq ?_
        obtain ⟨c25, h⟩ := chk_some h
        refine AW.rA ⟨[(0, (vp 0 0)), (1, (vc (.int .i64 a1))), (4, (vp 2 0)), (5, (vp 3 0)), (8, (vp 5 0)), (103, (vc (.bool (a0.Fixed.getD ((IntKind.i64.wrap (a1 + (1 : Int))).toNat) default))))], [(0, (.box [(.arr 1), (.fx 0 1 (sl 3 cs_Vector a0.Before)), (.fx 0 2 (sl 1 csB a0.Fixed)), (.fx 0 3 (sl 1 (csF .f32) a0.Lengths)), (.fx 0 4 (.flt .f32 a0.Fall.X.bits)), (.fx 0 5 (.flt .f32 a0.Fall.Y.bits)), (.fx 0 6 (.flt .f32 a0.Fall.Z.bits)), (.fx 0 7 (.flt .f32 a0.Damp.bits)), (.fx 0 8 (.int .i64 a0.Passes))])), (1, (.arr true a0.Points.length 3 (gl cs_Vector a0.Points))), (2, (.box [(.c (.flt .f32 ((a0.Points.getD a1.toNat default).X).bits)), (.c (.flt .f32 ((a0.Points.getD a1.toNat default).Y).bits)), (.c (.flt .f32 ((a0.Points.getD a1.toNat default).Z).bits))])), (3, (.box [(.c (.flt .f32 ((a0.Points.getD ((IntKind.i64.wrap (a1 + (1 : Int))).toNat) default).X).bits)), (.c (.flt .f32 ((a0.Points.getD ((IntKind.i64.wrap (a1 + (1 : Int))).toNat) default).Y).bits)), (.c (.flt .f32 ((a0.Points.getD ((IntKind.i64.wrap (a1 + (1 : Int))).toNat) default).Z).bits))])), (5, (.box [(.c (.flt .f32 v12.X.bits)), (.c (.flt .f32 v12.Y.bits)), (.c (.flt .f32 v12.Z.bits))]))]⟩ (T2 (T4 ((0 ≤ (IntKind.i64.wrap (a1 + (1 : Int))) ∧ (IntKind.i64.wrap (a1 + (1 : Int))) < (a0.Fixed.length : Int)) ∧ T2 Tt))) [] [0, 1, 4, 5, 8, 103] [0, 1, 2, 3, 5] ⟨tr, tr, tr, tr, tr, tr, c25, tr, tr, tr⟩ ?_
        refine thenQ_normal ?_
        rcases ite2_cases h with ⟨b26, h⟩ | ⟨b26, h⟩
        · refine AW.cond_t rfl b26 ?_
          obtain ⟨v27, e28, h⟩ := bind_some h
          refine AW.dA ⟨[(0, (vp 0 0)), (1, (vc (.int .i64 a1)))], [(0, (.box [(.arr 1), (.fx 0 1 (sl 3 cs_Vector a0.Before)), (.fx 0 2 (sl 1 csB a0.Fixed)), (.fx 0 3 (sl 1 (csF .f32) a0.Lengths)), (.fx 0 4 (.flt .f32 a0.Fall.X.bits)), (.fx 0 5 (.flt .f32 a0.Fall.Y.bits)), (.fx 0 6 (.flt .f32 a0.Fall.Z.bits)), (.fx 0 7 (.flt .f32 a0.Damp.bits)), (.fx 0 8 (.int .i64 a0.Passes))])), (1, (.arr true (a0.Points.set a1.toNat v27).length 3 (gl cs_Vector (a0.Points.set a1.toNat v27))))]⟩ ((Tt ∧ T2 (T4 (((((Eqc (.flt .f32 ((a0.Points.getD a1.toNat default).X).bits)) ∧ (Eqc (.flt .f32 ((a0.Points.getD a1.toNat default).Y).bits)) ∧ (Eqc (.flt .f32 ((a0.Points.getD a1.toNat default).Z).bits)) ∧ Tt) ∧ ((Eqc (.flt .f32 v12.X.bits)) ∧ (Eqc (.flt .f32 v12.Y.bits)) ∧ (Eqc (.flt .f32 v12.Z.bits)) ∧ Tt) ∧ Tt) ∧ CallOK Try.prog 49 [.agg (cs_Vector (a0.Points.getD a1.toNat default)), .agg (cs_Vector v12)] [.agg (cs_Vector v27)]) ∧ (0 ≤ a1 ∧ a1 < (a0.Points.length : Int)) ∧ Tt))) ∧ (((a0.Points.set a1.toNat v27).length = a0.Points.length ∧ SetOb a0.Points.length 3 a1.toNat 0 3 (gl cs_Vector a0.Points) (gl cs_Vector (a0.Points.set a1.toNat v27)) ∧ ((List.range 3).map fun j => (cs_Vector v27).getD (0 + j) .nilptr) = ((List.range 3).map fun j => gl cs_Vector (a0.Points.set a1.toNat v27) a1.toNat (0 + j)) ∧ ((((.flt .f32 v27.X.bits) : C) = (.flt .f32 v27.X.bits) ∧ Tt) ∧ (((.flt .f32 v27.Y.bits) : C) = (.flt .f32 v27.Y.bits) ∧ Tt) ∧ (((.flt .f32 v27.Z.bits) : C) = (.flt .f32 v27.Z.bits) ∧ Tt) ∧ Tt) ∧ (true = true → ∀ j, j < 3 → isSeq (gl cs_Vector a0.Points a1.toNat (0 + j)) = false ∧ isSeq (gl cs_Vector (a0.Points.set a1.toNat v27) a1.toNat (0 + j)) = false)) ∧ Tt)) 9 [.no, .no, .no, .no, .no, .no, .no, .call [.agg (cs_Vector (a0.Points.getD a1.toNat default)), .agg (cs_Vector v12)] [.agg (cs_Vector v27)] [[.view, .view, .view]], .no, .set (a0.Points.set a1.toNat v27).length (gl cs_Vector (a0.Points.set a1.toNat v27)) ((List.range 3).map fun j => (cs_Vector v27).getD (0 + j) .nilptr)] [0, 1] [0, 1] ⟨⟨tr, tr, tr, tr, tr, tr, tr, ⟨⟨⟨rfl, rfl, rfl, tr⟩, ⟨rfl, rfl, rfl, tr⟩, tr⟩, ok_impl_AddVectors K (a0.Points.getD a1.toNat default) v12 v27 e28⟩, c1, tr⟩, ⟨⟨List.length_set, gl_set, (gl_atp (lt_of_bound c1)).symm, ⟨⟨rfl, tr⟩, ⟨rfl, tr⟩, ⟨rfl, tr⟩, tr⟩, (fun _ j hj => match j, hj with | 0, _ => ⟨rfl, rfl⟩ | 1, _ => ⟨rfl, rfl⟩ | 2, _ => ⟨rfl, rfl⟩)⟩, tr⟩⟩ ?_
          refine blockQ_normal ?_
          obtain ⟨c29, h⟩ := chk_some h
          replace h := some_eq h
          subst h
          exact ⟨.inl rfl, retOK_of [] (by kernel_rfl) tr (of_decide_eq_true (by kernel_rfl)), by kernel_rfl, ⟨⟨⟨⟨c29, rfl, rfl⟩, tr, tr, tr, tr, tr, tr, tr, tr, tr⟩, ⟨rfl, ⟨rfl, rfl⟩, ⟨rfl, rfl⟩, ⟨rfl, rfl⟩, ⟨rfl, rfl⟩, ⟨rfl, rfl⟩, ⟨rfl, rfl⟩, ⟨rfl, rfl⟩, ⟨rfl, rfl⟩, tr⟩⟩, tr, tr⟩⟩
        · refine AW.cond_f rfl b26 ?_
          refine AW.seq ?_
          obtain ⟨v30, e31, h⟩ := bind_some h
          refine AW.rA ⟨[(0, (vp 0 0)), (1, (vc (.int .i64 a1))), (4, (vp 2 0)), (5, (vp 3 0)), (9, (vp 6 0))], [(0, (.box [(.arr 1), (.fx 0 1 (sl 3 cs_Vector a0.Before)), (.fx 0 2 (sl 1 csB a0.Fixed)), (.fx 0 3 (sl 1 (csF .f32) a0.Lengths)), (.fx 0 4 (.flt .f32 a0.Fall.X.bits)), (.fx 0 5 (.flt .f32 a0.Fall.Y.bits)), (.fx 0 6 (.flt .f32 a0.Fall.Z.bits)), (.fx 0 7 (.flt .f32 a0.Damp.bits)), (.fx 0 8 (.int .i64 a0.Passes))])), (1, (.arr true a0.Points.length 3 (gl cs_Vector a0.Points))), (2, (.box [(.c (.flt .f32 ((a0.Points.getD a1.toNat default).X).bits)), (.c (.flt .f32 ((a0.Points.getD a1.toNat default).Y).bits)), (.c (.flt .f32 ((a0.Points.getD a1.toNat default).Z).bits))])), (3, (.box [(.c (.flt .f32 ((a0.Points.getD ((IntKind.i64.wrap (a1 + (1 : Int))).toNat) default).X).bits)), (.c (.flt .f32 ((a0.Points.getD ((IntKind.i64.wrap (a1 + (1 : Int))).toNat) default).Y).bits)), (.c (.flt .f32 ((a0.Points.getD ((IntKind.i64.wrap (a1 + (1 : Int))).toNat) default).Z).bits))])), (6, (.box [(.c (.flt .f32 v30.X.bits)), (.c (.flt .f32 v30.Y.bits)), (.c (.flt .f32 v30.Z.bits))]))]⟩ (Tt ∧ ((((Eqc (.flt .f32 v12.X.bits)) ∧ (Eqc (.flt .f32 v12.Y.bits)) ∧ (Eqc (.flt .f32 v12.Z.bits)) ∧ Tt) ∧ (Eqc (.flt .f32 (Fl.mk (k := .f32) 1056964608 (by decide)).bits)) ∧ Tt) ∧ CallOK Try.prog 50 [.agg (cs_Vector v12), .one (.flt .f32 (Fl.mk (k := .f32) 1056964608 (by decide)).bits)] [.agg (cs_Vector v30)]) ∧ T2 Tt) [.no, .call [.agg (cs_Vector v12), .one (.flt .f32 (Fl.mk (k := .f32) 1056964608 (by decide)).bits)] [.agg (cs_Vector v30)] [[.view, .view, .view]], .box 6] [0, 1, 4, 5, 9] [0, 1, 2, 3, 6] ⟨tr, ⟨⟨⟨rfl, rfl, rfl, tr⟩, rfl, tr⟩, ok_impl_ScaleVector K v12 (Fl.mk (k := .f32) 1056964608 (by decide)) v30 e31⟩, tr, tr, tr⟩ ?_
          refine thenQ_normal ?_
          obtain ⟨v32, e33, h⟩ := bind_some h
          obtain ⟨v34, e35, h⟩ := bind_some h
          refine AW.post ?_
          refine AW.heldA (by kernel_rfl) [0, 1, 2, 3, 4, 5, 6, 7, 8, 9, 10, 11, 12, 14, 15] [1] 7 [51, 52, 56, 58, 59, 60, 62, 63] [.no, .no, .no, .no, .no, .no, .no, .no, .no, .no, .no, .no, .no, .call [.agg (cs_Vector (a0.Points.getD a1.toNat default)), .agg (cs_Vector v30)] [.agg (cs_Vector v32)] [[.view, .view, .view]], .no, .no, .call [.agg (cs_Vector (a0.Points.getD ((IntKind.i64.wrap (a1 + (1 : Int))).toNat) default)), .agg (cs_Vector v30)] [.agg (cs_Vector v34)] [[.view, .view, .view]], .no, .set a0.Points.length (gl cs_Vector (a0.Points.set a1.toNat v32)) ((List.range 3).map fun j => (cs_Vector v32).getD (0 + j) .nilptr), .no, .set a0.Points.length (gl cs_Vector ((a0.Points.set a1.toNat v32).set ((IntKind.i64.wrap (a1 + (1 : Int))).toNat) v34)) ((List.range 3).map fun j => (cs_Vector v34).getD (0 + j) .nilptr)] [] [1] [0, 1] [0, 1] (s' := ⟨[(0, (vp 0 0)), (1, (vc (.int .i64 a1)))], [(0, (.box [(.arr 1), (.fx 0 1 (sl 3 cs_Vector a0.Before)), (.fx 0 2 (sl 1 csB a0.Fixed)), (.fx 0 3 (sl 1 (csF .f32) a0.Lengths)), (.fx 0 4 (.flt .f32 a0.Fall.X.bits)), (.fx 0 5 (.flt .f32 a0.Fall.Y.bits)), (.fx 0 6 (.flt .f32 a0.Fall.Z.bits)), (.fx 0 7 (.flt .f32 a0.Damp.bits)), (.fx 0 8 (.int .i64 a0.Passes))])), (1, (.arr true a0.Points.length 3 (gl cs_Vector ((a0.Points.set a1.toNat v32).set ((IntKind.i64.wrap (a1 + (1 : Int))).toNat) v34))))]⟩) (ob := (Tt ∧ T2 (T4 (T4 (T4 Tt)))) ∧ ((((((Eqc (.flt .f32 ((a0.Points.getD a1.toNat default).X).bits)) ∧ (Eqc (.flt .f32 ((a0.Points.getD a1.toNat default).Y).bits)) ∧ (Eqc (.flt .f32 ((a0.Points.getD a1.toNat default).Z).bits)) ∧ Tt) ∧ ((Eqc (.flt .f32 v30.X.bits)) ∧ (Eqc (.flt .f32 v30.Y.bits)) ∧ (Eqc (.flt .f32 v30.Z.bits)) ∧ Tt) ∧ Tt) ∧ CallOK Try.prog 49 [.agg (cs_Vector (a0.Points.getD a1.toNat default)), .agg (cs_Vector v30)] [.agg (cs_Vector v32)])) ∧ (Zt2 (((((((.flt .f32 ((a0.Points.getD ((IntKind.i64.wrap (a1 + (1 : Int))).toNat) default).X).bits) : C) = (.flt .f32 ((a0.Points.getD ((IntKind.i64.wrap (a1 + (1 : Int))).toNat) default).X).bits)) ∧ (((.flt .f32 ((a0.Points.getD ((IntKind.i64.wrap (a1 + (1 : Int))).toNat) default).Y).bits) : C) = (.flt .f32 ((a0.Points.getD ((IntKind.i64.wrap (a1 + (1 : Int))).toNat) default).Y).bits)) ∧ (((.flt .f32 ((a0.Points.getD ((IntKind.i64.wrap (a1 + (1 : Int))).toNat) default).Z).bits) : C) = (.flt .f32 ((a0.Points.getD ((IntKind.i64.wrap (a1 + (1 : Int))).toNat) default).Z).bits)) ∧ Tt) ∧ ((Eqc (.flt .f32 v30.X.bits)) ∧ (Eqc (.flt .f32 v30.Y.bits)) ∧ (Eqc (.flt .f32 v30.Z.bits)) ∧ Tt) ∧ Tt) ∧ CallOK Try.prog 51 [.agg (cs_Vector (a0.Points.getD ((IntKind.i64.wrap (a1 + (1 : Int))).toNat) default)), .agg (cs_Vector v30)] [.agg (cs_Vector v34)])) ((0 ≤ a1 ∧ a1 < (a0.Points.length : Int))) ((a0.Points.length = a0.Points.length ∧ SetOb a0.Points.length 3 a1.toNat 0 3 (gl cs_Vector a0.Points) (gl cs_Vector (a0.Points.set a1.toNat v32)) ∧ ((List.range 3).map fun j => (cs_Vector v32).getD (0 + j) .nilptr) = ((List.range 3).map fun j => gl cs_Vector (a0.Points.set a1.toNat v32) a1.toNat (0 + j)) ∧ ((((.flt .f32 v32.X.bits) : C) = (.flt .f32 v32.X.bits) ∧ Tt) ∧ (((.flt .f32 v32.Y.bits) : C) = (.flt .f32 v32.Y.bits) ∧ Tt) ∧ (((.flt .f32 v32.Z.bits) : C) = (.flt .f32 v32.Z.bits) ∧ Tt) ∧ Tt) ∧ (true = true → ∀ j, j < 3 → isSeq (gl cs_Vector a0.Points a1.toNat (0 + j)) = false ∧ isSeq (gl cs_Vector (a0.Points.set a1.toNat v32) a1.toNat (0 + j)) = false))) ((0 ≤ (IntKind.i64.wrap (a1 + (1 : Int))) ∧ (IntKind.i64.wrap (a1 + (1 : Int))) < (a0.Points.length : Int))) ((a0.Points.length = a0.Points.length ∧ SetOb a0.Points.length 3 ((IntKind.i64.wrap (a1 + (1 : Int))).toNat) 0 3 (gl cs_Vector (a0.Points.set a1.toNat v32)) (gl cs_Vector ((a0.Points.set a1.toNat v32).set ((IntKind.i64.wrap (a1 + (1 : Int))).toNat) v34)) ∧ ((List.range 3).map fun j => (cs_Vector v34).getD (0 + j) .nilptr) = ((List.range 3).map fun j => gl cs_Vector ((a0.Points.set a1.toNat v32).set ((IntKind.i64.wrap (a1 + (1 : Int))).toNat) v34) ((IntKind.i64.wrap (a1 + (1 : Int))).toNat) (0 + j)) ∧ ((((.flt .f32 v34.X.bits) : C) = (.flt .f32 v34.X.bits) ∧ Tt) ∧ (((.flt .f32 v34.Y.bits) : C) = (.flt .f32 v34.Y.bits) ∧ Tt) ∧ (((.flt .f32 v34.Z.bits) : C) = (.flt .f32 v34.Z.bits) ∧ Tt) ∧ Tt) ∧ (true = true → ∀ j, j < 3 → isSeq (gl cs_Vector (a0.Points.set a1.toNat v32) ((IntKind.i64.wrap (a1 + (1 : Int))).toNat) (0 + j)) = false ∧ isSeq (gl cs_Vector ((a0.Points.set a1.toNat v32).set ((IntKind.i64.wrap (a1 + (1 : Int))).toNat) v34) ((IntKind.i64.wrap (a1 + (1 : Int))).toNat) (0 + j)) = false))))) ∧ ((a0.Points.length = a0.Points.length ∧ 3 = 3 ∧ ∀ i j, i < a0.Points.length → j < 3 → isSeq (gl cs_Vector ((a0.Points.set a1.toNat v32).set ((IntKind.i64.wrap (a1 + (1 : Int))).toNat) v34) i j) = isSeq (gl cs_Vector a0.Points i j)) ∧ Tt)) (by kernel_rfl) ⟨⟨tr, tr, tr, tr, tr, tr, tr, tr, tr, tr, tr, tr, tr, tr, tr, tr⟩, ⟨⟨⟨⟨rfl, rfl, rfl, tr⟩, ⟨rfl, rfl, rfl, tr⟩, tr⟩, ok_impl_AddVectors K (a0.Points.getD a1.toNat default) v30 v32 e33⟩, (zt2 ⟨⟨⟨rfl, rfl, rfl, tr⟩, ⟨rfl, rfl, rfl, tr⟩, tr⟩, ok_impl_LessVectors K (a0.Points.getD ((IntKind.i64.wrap (a1 + (1 : Int))).toNat) default) v30 v34 e35⟩ (c1) ⟨rfl, setN rfl gl_set, (gl_atp (ltN rfl c1)).symm, ⟨⟨rfl, tr⟩, ⟨rfl, tr⟩, ⟨rfl, tr⟩, tr⟩, (fun _ j hj => match j, hj with | 0, _ => ⟨rfl, rfl⟩ | 1, _ => ⟨rfl, rfl⟩ | 2, _ => ⟨rfl, rfl⟩)⟩ (c2) ⟨rfl, setN (by simp only [List.length_set]) gl_set, (gl_atp (ltN (by simp only [List.length_set]) c2)).symm, ⟨⟨rfl, tr⟩, ⟨rfl, tr⟩, ⟨rfl, tr⟩, tr⟩, (fun _ j hj => match j, hj with | 0, _ => ⟨rfl, rfl⟩ | 1, _ => ⟨rfl, rfl⟩ | 2, _ => ⟨rfl, rfl⟩)⟩)⟩, ⟨⟨rfl, rfl, gl_seq sq_Vector⟩, tr⟩⟩ ?_
          refine ⟨⟨[(0, (vp 0 0)), (1, (vc (.int .i64 a1)))], [(0, (.box [(.arr 1), (.fx 0 1 (sl 3 cs_Vector a0.Before)), (.fx 0 2 (sl 1 csB a0.Fixed)), (.fx 0 3 (sl 1 (csF .f32) a0.Lengths)), (.fx 0 4 (.flt .f32 a0.Fall.X.bits)), (.fx 0 5 (.flt .f32 a0.Fall.Y.bits)), (.fx 0 6 (.flt .f32 a0.Fall.Z.bits)), (.fx 0 7 (.flt .f32 a0.Damp.bits)), (.fx 0 8 (.int .i64 a0.Passes))])), (1, (.arr true ((a0.Points.set a1.toNat v32).set ((IntKind.i64.wrap (a1 + (1 : Int))).toNat) v34).length 3 (gl cs_Vector ((a0.Points.set a1.toNat v32).set ((IntKind.i64.wrap (a1 + (1 : Int))).toNat) v34))))]⟩, subEq (by simp only [List.length_set]), ?_⟩
          refine blockQ_normal ?_
          obtain ⟨c36, h⟩ := chk_some h
          replace h := some_eq h
          subst h
          exact ⟨.inl rfl, retOK_of [] (by kernel_rfl) tr (of_decide_eq_true (by kernel_rfl)), by kernel_rfl, ⟨⟨⟨⟨c36, rfl, rfl⟩, tr, tr, tr, tr, tr, tr, tr, tr, tr⟩, ⟨rfl, ⟨rfl, rfl⟩, ⟨rfl, rfl⟩, ⟨rfl, rfl⟩, ⟨rfl, rfl⟩, ⟨rfl, rfl⟩, ⟨rfl, rfl⟩, ⟨rfl, rfl⟩, ⟨rfl, rfl⟩, tr⟩⟩, tr, tr⟩⟩

/-! (*impl.String).move -/
def impl_String_move_l5 (K : Nat) (a0 : String) (x6 : (List Vector)) : Nat → Int → (List Vector) → Option ((List Vector))
  | 0, _, _ => none
  | k + 1, x38, x39 => ite2 ((decide (x38 < (a0.Lengths.length : Int)))) ((impl_String_pull K (String.mk x39 x6 a0.Fixed a0.Lengths a0.Fall a0.Damp a0.Passes) x38).bind fun v41 => chk (v41.length = x39.length) (impl_String_move_l5 K a0 x6 k (IntKind.i64.wrap (x38 + (1 : Int))) v41)) (some x39)

def impl_String_move_l4 (K : Nat) (a0 : String) (x6 : (List Vector)) : Nat → Int → (List Vector) → Option ((List Vector) × (List Vector))
  | 0, _, _ => none
  | k + 1, x23, x24 => ite2 ((decide (x23 < a0.Passes))) ((impl_String_move_l5 K a0 x6 K (0 : Int) x24).bind fun j34 => impl_String_move_l4 K a0 x6 k (IntKind.i64.wrap (x23 + (1 : Int))) j34) (chk (x24.length = a0.Points.length) (chk (x6.length = a0.Before.length) (some (x24, x6))))

def impl_String_move_l1 (K : Nat) (a0 : String) : Nat → Int → (List Vector) → (List Vector) → Option ((List Vector) × (List Vector))
  | 0, _, _, _ => none
  | k + 1, x4, x5, x6 => ite2 ((decide (x4 < (a0.Points.length : Int)))) (chk (0 ≤ x4 ∧ x4 < (x5.length : Int)) (chk (0 ≤ x4 ∧ x4 < (a0.Fixed.length : Int)) (ite2 ((!(a0.Fixed.getD x4.toNat default))) (chk (0 ≤ x4 ∧ x4 < (x6.length : Int)) ((impl_LessVectors K (x5.getD x4.toNat default) (x6.getD x4.toNat default)).bind fun v12 => (impl_ScaleVector K v12 a0.Damp).bind fun v14 => (impl_AddVectors K (x5.getD x4.toNat default) v14).bind fun v16 => (impl_AddVectors K v16 a0.Fall).bind fun v18 => impl_String_move_l1 K a0 k (IntKind.i64.wrap (x4 + (1 : Int))) (x5.set x4.toNat v18) (x6.set x4.toNat (x5.getD x4.toNat default)))) (chk (0 ≤ x4 ∧ x4 < (x6.length : Int)) (impl_String_move_l1 K a0 k (IntKind.i64.wrap (x4 + (1 : Int))) x5 (x6.set x4.toNat (x5.getD x4.toNat default))))))) (impl_String_move_l4 K a0 x6 K (0 : Int) x5)

def impl_String_move (K : Nat) (a0 : String) : Option ((List Vector) × (List Vector)) :=
  impl_String_move_l1 K a0 K (0 : Int) a0.Points a0.Before

theorem ok_impl_String_move (K : Nat) (a0 : String) (o : ((List Vector) × (List Vector))) (h : impl_String_move K a0 = some o) : MutOK Try.prog 42 [(.boxm [(.mu (sl 3 cs_Vector a0.Points) (sl 3 cs_Vector o.1)), (.mu (sl 3 cs_Vector a0.Before) (sl 3 cs_Vector o.2)), (.ro (sl 1 csB a0.Fixed)), (.ro (sl 1 (csF .f32) a0.Lengths)), (.ro (.flt .f32 a0.Fall.X.bits)), (.ro (.flt .f32 a0.Fall.Y.bits)), (.ro (.flt .f32 a0.Fall.Z.bits)), (.ro (.flt .f32 a0.Damp.bits)), (.ro (.int .i64 a0.Passes))])] [] := by
  refine mutOK_of_AW 3 Try.func42 rfl (by kernel_rfl) (Nat.le_of_ble_eq_true (by kernel_rfl)) (by kernel_rfl) (by kernel_rfl) ?_
  intro w0 K0 v0 s0
  unfold impl_String_move at h
  refine AW.seq ?_
  refine AW.seq (AW.rA ⟨[(0, (vp 0 0)), (8, (.v (.one (.arr 1)))), (9, (vc (.int .i64 (a0.Points.length : Int)))), (10, (vc (.int .i64 (0 : Int))))], [(0, (.box [(.arr 1), (.arr 2), (.fx 0 2 (sl 1 csB a0.Fixed)), (.fx 0 3 (sl 1 (csF .f32) a0.Lengths)), (.fx 0 4 (.flt .f32 a0.Fall.X.bits)), (.fx 0 5 (.flt .f32 a0.Fall.Y.bits)), (.fx 0 6 (.flt .f32 a0.Fall.Z.bits)), (.fx 0 7 (.flt .f32 a0.Damp.bits)), (.fx 0 8 (.int .i64 a0.Passes))])), (1, (.arr true a0.Points.length 3 (gl cs_Vector a0.Points))), (2, (.arr true a0.Before.length 3 (gl cs_Vector a0.Before)))]⟩ (T2 (T4 Tt)) [] [0, 8, 9, 10] [0, 1, 2] ⟨tr, tr, tr, tr, tr, tr, tr⟩ (thenQ_normal ?_))
  refine AW.block ?_
  refine AW.loopQ (σ := Nat × Int × (List Vector) × (List Vector)) (fun p => ⟨[(0, (vp 0 0)), (8, (.v (.one (.arr 1)))), (9, (vc (.int .i64 (a0.Points.length : Int)))), (10, (vc (.int .i64 p.2.1)))], [(0, (.box [(.arr 1), (.arr 2), (.fx 0 2 (sl 1 csB a0.Fixed)), (.fx 0 3 (sl 1 (csF .f32) a0.Lengths)), (.fx 0 4 (.flt .f32 a0.Fall.X.bits)), (.fx 0 5 (.flt .f32 a0.Fall.Y.bits)), (.fx 0 6 (.flt .f32 a0.Fall.Z.bits)), (.fx 0 7 (.flt .f32 a0.Damp.bits)), (.fx 0 8 (.int .i64 a0.Passes))])), (1, (.arr true p.2.2.1.length 3 (gl cs_Vector p.2.2.1))), (2, (.arr true p.2.2.2.length 3 (gl cs_Vector p.2.2.2)))]⟩) (fun p => impl_String_move_l1 K a0 p.1 p.2.1 p.2.2.1 p.2.2.2 = some o) (fun p => p.1) (K, (0 : Int), a0.Points, a0.Before) h ?_
  clear h
  rintro ⟨k, x4, x5, x6⟩ h
  replace h : impl_String_move_l1 K a0 k x4 x5 x6 = some o := h
  show AW _ _ (⟨[(0, (vp 0 0)), (8, (.v (.one (.arr 1)))), (9, (vc (.int .i64 (a0.Points.length : Int)))), (10, (vc (.int .i64 x4)))], [(0, (.box [(.arr 1), (.arr 2), (.fx 0 2 (sl 1 csB a0.Fixed)), (.fx 0 3 (sl 1 (csF .f32) a0.Lengths)), (.fx 0 4 (.flt .f32 a0.Fall.X.bits)), (.fx 0 5 (.flt .f32 a0.Fall.Y.bits)), (.fx 0 6 (.flt .f32 a0.Fall.Z.bits)), (.fx 0 7 (.flt .f32 a0.Damp.bits)), (.fx 0 8 (.int .i64 a0.Passes))])), (1, (.arr true x5.length 3 (gl cs_Vector x5))), (2, (.arr true x6.length 3 (gl cs_Vector x6)))]⟩ : St) _
  obtain _ | k := k
  · rw [impl_String_move_l1] at h; cases h
  rw [impl_String_move_l1] at h
  refine AW.seq (AW.rA ⟨[(0, (vp 0 0)), (8, (.v (.one (.arr 1)))), (9, (vc (.int .i64 (a0.Points.length : Int)))), (10, (vc (.int .i64 x4))), (11, (vc (.bool (decide (x4 < (a0.Points.length : Int))))))], [(0, (.box [(.arr 1), (.arr 2), (.fx 0 2 (sl 1 csB a0.Fixed)), (.fx 0 3 (sl 1 (csF .f32) a0.Lengths)), (.fx 0 4 (.flt .f32 a0.Fall.X.bits)), (.fx 0 5 (.flt .f32 a0.Fall.Y.bits)), (.fx 0 6 (.flt .f32 a0.Fall.Z.bits)), (.fx 0 7 (.flt .f32 a0.Damp.bits)), (.fx 0 8 (.int .i64 a0.Passes))])), (1, (.arr true x5.length 3 (gl cs_Vector x5))), (2, (.arr true x6.length 3 (gl cs_Vector x6)))]⟩ (Tt ∧ Tt) [] [0, 8, 9, 10, 11] [0, 1, 2] ⟨tr, tr⟩ (thenQ_normal ?_))
  refine AW.seq ?_
  rcases ite2_cases h with ⟨b7, h⟩ | ⟨b7, h⟩
  · refine AW.cond_t rfl b7 ?_
    refine AW.skip ?_
    refine thenQ_normal ?_
    refine AW.seq ?_
    refine AW.block ?_
    refine AW.seq ?_
    obtain ⟨c8, h⟩ := chk_some h
    refine AW.rA ⟨[(0, (vp 0 0)), (2, (vc (.int .i64 x4))), (3, (vp 5 0)), (8, (.v (.one (.arr 1)))), (9, (vc (.int .i64 (a0.Points.length : Int)))), (10, (vc (.int .i64 x4)))], [(0, (.box [(.arr 1), (.arr 2), (.fx 0 2 (sl 1 csB a0.Fixed)), (.fx 0 3 (sl 1 (csF .f32) a0.Lengths)), (.fx 0 4 (.flt .f32 a0.Fall.X.bits)), (.fx 0 5 (.flt .f32 a0.Fall.Y.bits)), (.fx 0 6 (.flt .f32 a0.Fall.Z.bits)), (.fx 0 7 (.flt .f32 a0.Damp.bits)), (.fx 0 8 (.int .i64 a0.Passes))])), (1, (.arr true x5.length 3 (gl cs_Vector x5))), (2, (.arr true x6.length 3 (gl cs_Vector x6))), (5, (.box [(.c (.flt .f32 ((x5.getD x4.toNat default).X).bits)), (.c (.flt .f32 ((x5.getD x4.toNat default).Y).bits)), (.c (.flt .f32 ((x5.getD x4.toNat default).Z).bits))]))]⟩ (Tt ∧ (0 ≤ x4 ∧ x4 < (x5.length : Int)) ∧ T4 Tt) [.no, .no, .no, .box 5] [0, 2, 3, 8, 9, 10] [0, 1, 2, 5] ⟨tr, c8, tr, tr, tr, tr, tr⟩ ?_
    refine thenQ_normal ?_
    refine AW.seq ?_
    refine AW.seq ?_
    obtain ⟨c9, h⟩ := chk_some h
    refine AW.rA ⟨[(0, (vp 0 0)), (2, (vc (.int .i64 x4))), (3, (vp 5 0)), (8, (.v (.one (.arr 1)))), (9, (vc (.int .i64 (a0.Points.length : Int)))), (10, (vc (.int .i64 x4))), (22, (vc (.bool (!(a0.Fixed.getD x4.toNat default)))))], [(0, (.box [(.arr 1), (.arr 2), (.fx 0 2 (sl 1 csB a0.Fixed)), (.fx 0 3 (sl 1 (csF .f32) a0.Lengths)), (.fx 0 4 (.flt .f32 a0.Fall.X.bits)), (.fx 0 5 (.flt .f32 a0.Fall.Y.bits)), (.fx 0 6 (.flt .f32 a0.Fall.Z.bits)), (.fx 0 7 (.flt .f32 a0.Damp.bits)), (.fx 0 8 (.int .i64 a0.Passes))])), (1, (.arr true x5.length 3 (gl cs_Vector x5))), (2, (.arr true x6.length 3 (gl cs_Vector x6))), (5, (.box [(.c (.flt .f32 ((x5.getD x4.toNat default).X).bits)), (.c (.flt .f32 ((x5.getD x4.toNat default).Y).bits)), (.c (.flt .f32 ((x5.getD x4.toNat default).Z).bits))]))]⟩ (Tt ∧ T4 ((0 ≤ x4 ∧ x4 < (a0.Fixed.length : Int)) ∧ T2 Tt)) [] [0, 2, 3, 8, 9, 10, 22] [0, 1, 2, 5] ⟨tr, tr, tr, tr, tr, c9, tr, tr, tr⟩ ?_
    refine thenQ_normal ?_
    rcases ite2_cases h with ⟨b10, h⟩ | ⟨b10, h⟩
    · refine AW.cond_t rfl b10 ?_
      obtain ⟨c11, h⟩ := chk_some h
      obtain ⟨v12, e13, h⟩ := bind_some h
      obtain ⟨v14, e15, h⟩ := bind_some h
      obtain ⟨v16, e17, h⟩ := bind_some h
      obtain ⟨v18, e19, h⟩ := bind_some h
      refine AW.dA ⟨[(0, (vp 0 0)), (2, (vc (.int .i64 x4))), (3, (vp 5 0)), (8, (.v (.one (.arr 1)))), (9, (vc (.int .i64 (a0.Points.length : Int)))), (10, (vc (.int .i64 x4)))], [(0, (.box [(.arr 1), (.arr 2), (.fx 0 2 (sl 1 csB a0.Fixed)), (.fx 0 3 (sl 1 (csF .f32) a0.Lengths)), (.fx 0 4 (.flt .f32 a0.Fall.X.bits)), (.fx 0 5 (.flt .f32 a0.Fall.Y.bits)), (.fx 0 6 (.flt .f32 a0.Fall.Z.bits)), (.fx 0 7 (.flt .f32 a0.Damp.bits)), (.fx 0 8 (.int .i64 a0.Passes))])), (1, (.arr true (x5.set x4.toNat v18).length 3 (gl cs_Vector (x5.set x4.toNat v18)))), (2, (.arr true x6.length 3 (gl cs_Vector x6))), (5, (.box [(.c (.flt .f32 ((x5.getD x4.toNat default).X).bits)), (.c (.flt .f32 ((x5.getD x4.toNat default).Y).bits)), (.c (.flt .f32 ((x5.getD x4.toNat default).Z).bits))]))]⟩ ((T4 (T4 (T4 ((0 ≤ x4 ∧ x4 < (x6.length : Int)) ∧ Tt ∧ ((((Eqc (.flt .f32 ((x5.getD x4.toNat default).X).bits)) ∧ (Eqc (.flt .f32 ((x5.getD x4.toNat default).Y).bits)) ∧ (Eqc (.flt .f32 ((x5.getD x4.toNat default).Z).bits)) ∧ Tt) ∧ ((Eqc (.flt .f32 ((x6.getD x4.toNat default).X).bits)) ∧ (Eqc (.flt .f32 ((x6.getD x4.toNat default).Y).bits)) ∧ (Eqc (.flt .f32 ((x6.getD x4.toNat default).Z).bits)) ∧ Tt) ∧ Tt) ∧ CallOK Try.prog 51 [.agg (cs_Vector (x5.getD x4.toNat default)), .agg (cs_Vector (x6.getD x4.toNat default))] [.agg (cs_Vector v12)]) ∧ T4 (((((Eqc (.flt .f32 v12.X.bits)) ∧ (Eqc (.flt .f32 v12.Y.bits)) ∧ (Eqc (.flt .f32 v12.Z.bits)) ∧ Tt) ∧ (Eqc (.flt .f32 a0.Damp.bits)) ∧ Tt) ∧ CallOK Try.prog 50 [.agg (cs_Vector v12), .one (.flt .f32 a0.Damp.bits)] [.agg (cs_Vector v14)]) ∧ ((((Eqc (.flt .f32 ((x5.getD x4.toNat default).X).bits)) ∧ (Eqc (.flt .f32 ((x5.getD x4.toNat default).Y).bits)) ∧ (Eqc (.flt .f32 ((x5.getD x4.toNat default).Z).bits)) ∧ Tt) ∧ ((Eqc (.flt .f32 v14.X.bits)) ∧ (Eqc (.flt .f32 v14.Y.bits)) ∧ (Eqc (.flt .f32 v14.Z.bits)) ∧ Tt) ∧ Tt) ∧ CallOK Try.prog 49 [.agg (cs_Vector (x5.getD x4.toNat default)), .agg (cs_Vector v14)] [.agg (cs_Vector v16)]) ∧ T4 (((((Eqc (.flt .f32 v16.X.bits)) ∧ (Eqc (.flt .f32 v16.Y.bits)) ∧ (Eqc (.flt .f32 v16.Z.bits)) ∧ Tt) ∧ ((Eqc (.flt .f32 a0.Fall.X.bits)) ∧ (Eqc (.flt .f32 a0.Fall.Y.bits)) ∧ (Eqc (.flt .f32 a0.Fall.Z.bits)) ∧ Tt) ∧ Tt) ∧ CallOK Try.prog 49 [.agg (cs_Vector v16), .agg (cs_Vector a0.Fall)] [.agg (cs_Vector v18)]) ∧ (0 ≤ x4 ∧ x4 < (x5.length : Int)) ∧ Tt)))))) ∧ (((x5.set x4.toNat v18).length = x5.length ∧ SetOb x5.length 3 x4.toNat 0 3 (gl cs_Vector x5) (gl cs_Vector (x5.set x4.toNat v18)) ∧ ((List.range 3).map fun j => (cs_Vector v18).getD (0 + j) .nilptr) = ((List.range 3).map fun j => gl cs_Vector (x5.set x4.toNat v18) x4.toNat (0 + j)) ∧ ((((.flt .f32 v18.X.bits) : C) = (.flt .f32 v18.X.bits) ∧ Tt) ∧ (((.flt .f32 v18.Y.bits) : C) = (.flt .f32 v18.Y.bits) ∧ Tt) ∧ (((.flt .f32 v18.Z.bits) : C) = (.flt .f32 v18.Z.bits) ∧ Tt) ∧ Tt) ∧ (true = true → ∀ j, j < 3 → isSeq (gl cs_Vector x5 x4.toNat (0 + j)) = false ∧ isSeq (gl cs_Vector (x5.set x4.toNat v18) x4.toNat (0 + j)) = false)) ∧ Tt)) 27 [.no, .no, .no, .no, .no, .no, .no, .no, .no, .no, .no, .no, .no, .no, .call [.agg (cs_Vector (x5.getD x4.toNat default)), .agg (cs_Vector (x6.getD x4.toNat default))] [.agg (cs_Vector v12)] [[.view, .view, .view]], .no, .no, .no, .no, .call [.agg (cs_Vector v12), .one (.flt .f32 a0.Damp.bits)] [.agg (cs_Vector v14)] [[.view, .view, .view]], .call [.agg (cs_Vector (x5.getD x4.toNat default)), .agg (cs_Vector v14)] [.agg (cs_Vector v16)] [[.view, .view, .view]], .no, .no, .no, .no, .call [.agg (cs_Vector v16), .agg (cs_Vector a0.Fall)] [.agg (cs_Vector v18)] [[.view, .view, .view]], .no, .set (x5.set x4.toNat v18).length (gl cs_Vector (x5.set x4.toNat v18)) ((List.range 3).map fun j => (cs_Vector v18).getD (0 + j) .nilptr)] [0, 2, 3, 8, 9, 10] [0, 1, 2, 5] ⟨⟨tr, tr, tr, tr, tr, tr, tr, tr, tr, tr, tr, tr, c11, tr, ⟨⟨⟨rfl, rfl, rfl, tr⟩, ⟨rfl, rfl, rfl, tr⟩, tr⟩, ok_impl_LessVectors K (x5.getD x4.toNat default) (x6.getD x4.toNat default) v12 e13⟩, tr, tr, tr, tr, ⟨⟨⟨rfl, rfl, rfl, tr⟩, rfl, tr⟩, ok_impl_ScaleVector K v12 a0.Damp v14 e15⟩, ⟨⟨⟨rfl, rfl, rfl, tr⟩, ⟨rfl, rfl, rfl, tr⟩, tr⟩, ok_impl_AddVectors K (x5.getD x4.toNat default) v14 v16 e17⟩, tr, tr, tr, tr, ⟨⟨⟨rfl, rfl, rfl, tr⟩, ⟨rfl, rfl, rfl, tr⟩, tr⟩, ok_impl_AddVectors K v16 a0.Fall v18 e19⟩, c8, tr⟩, ⟨⟨List.length_set, gl_set, (gl_atp (lt_of_bound c8)).symm, ⟨⟨rfl, tr⟩, ⟨rfl, tr⟩, ⟨rfl, tr⟩, tr⟩, (fun _ j hj => match j, hj with | 0, _ => ⟨rfl, rfl⟩ | 1, _ => ⟨rfl, rfl⟩ | 2, _ => ⟨rfl, rfl⟩)⟩, tr⟩⟩ ?_
      refine thenQ_normal ?_
      refine AW.dA ⟨[(0, (vp 0 0)), (8, (.v (.one (.arr 1)))), (9, (vc (.int .i64 (a0.Points.length : Int)))), (10, (vc (.int .i64 x4)))], [(0, (.box [(.arr 1), (.arr 2), (.fx 0 2 (sl 1 csB a0.Fixed)), (.fx 0 3 (sl 1 (csF .f32) a0.Lengths)), (.fx 0 4 (.flt .f32 a0.Fall.X.bits)), (.fx 0 5 (.flt .f32 a0.Fall.Y.bits)), (.fx 0 6 (.flt .f32 a0.Fall.Z.bits)), (.fx 0 7 (.flt .f32 a0.Damp.bits)), (.fx 0 8 (.int .i64 a0.Passes))])), (1, (.arr true (x5.set x4.toNat v18).length 3 (gl cs_Vector (x5.set x4.toNat v18)))), (2, (.arr true (x6.set x4.toNat (x5.getD x4.toNat default)).length 3 (gl cs_Vector (x6.set x4.toNat (x5.getD x4.toNat default)))))]⟩ ((T2 (T4 ((0 ≤ x4 ∧ x4 < (x6.length : Int)) ∧ Tt))) ∧ (((x6.set x4.toNat (x5.getD x4.toNat default)).length = x6.length ∧ SetOb x6.length 3 x4.toNat 0 3 (gl cs_Vector x6) (gl cs_Vector (x6.set x4.toNat (x5.getD x4.toNat default))) ∧ ((List.range 3).map fun j => (cs_Vector (x5.getD x4.toNat default)).getD (0 + j) .nilptr) = ((List.range 3).map fun j => gl cs_Vector (x6.set x4.toNat (x5.getD x4.toNat default)) x4.toNat (0 + j)) ∧ ((((.flt .f32 ((x5.getD x4.toNat default).X).bits) : C) = (.flt .f32 ((x5.getD x4.toNat default).X).bits) ∧ Tt) ∧ (((.flt .f32 ((x5.getD x4.toNat default).Y).bits) : C) = (.flt .f32 ((x5.getD x4.toNat default).Y).bits) ∧ Tt) ∧ (((.flt .f32 ((x5.getD x4.toNat default).Z).bits) : C) = (.flt .f32 ((x5.getD x4.toNat default).Z).bits) ∧ Tt) ∧ Tt) ∧ (true = true → ∀ j, j < 3 → isSeq (gl cs_Vector x6 x4.toNat (0 + j)) = false ∧ isSeq (gl cs_Vector (x6.set x4.toNat (x5.getD x4.toNat default)) x4.toNat (0 + j)) = false)) ∧ Tt)) 7 [.no, .no, .no, .no, .no, .no, .no, .set (x6.set x4.toNat (x5.getD x4.toNat default)).length (gl cs_Vector (x6.set x4.toNat (x5.getD x4.toNat default))) ((List.range 3).map fun j => (cs_Vector (x5.getD x4.toNat default)).getD (0 + j) .nilptr)] [0, 8, 9, 10] [0, 1, 2] ⟨⟨tr, tr, tr, tr, tr, tr, c11, tr⟩, ⟨⟨List.length_set, gl_set, (gl_atp (lt_of_bound c11)).symm, ⟨⟨rfl, tr⟩, ⟨rfl, tr⟩, ⟨rfl, tr⟩, tr⟩, (fun _ j hj => match j, hj with | 0, _ => ⟨rfl, rfl⟩ | 1, _ => ⟨rfl, rfl⟩ | 2, _ => ⟨rfl, rfl⟩)⟩, tr⟩⟩ ?_
      refine blockQ_normal ?_
      refine thenQ_normal ?_
      refine AW.rA ⟨[(0, (vp 0 0)), (8, (.v (.one (.arr 1)))), (9, (vc (.int .i64 (a0.Points.length : Int)))), (10, (vc (.int .i64 (IntKind.i64.wrap (x4 + (1 : Int))))))], [(0, (.box [(.arr 1), (.arr 2), (.fx 0 2 (sl 1 csB a0.Fixed)), (.fx 0 3 (sl 1 (csF .f32) a0.Lengths)), (.fx 0 4 (.flt .f32 a0.Fall.X.bits)), (.fx 0 5 (.flt .f32 a0.Fall.Y.bits)), (.fx 0 6 (.flt .f32 a0.Fall.Z.bits)), (.fx 0 7 (.flt .f32 a0.Damp.bits)), (.fx 0 8 (.int .i64 a0.Passes))])), (1, (.arr true (x5.set x4.toNat v18).length 3 (gl cs_Vector (x5.set x4.toNat v18)))), (2, (.arr true (x6.set x4.toNat (x5.getD x4.toNat default)).length 3 (gl cs_Vector (x6.set x4.toNat (x5.getD x4.toNat default)))))]⟩ (T2 Tt) [] [0, 8, 9, 10] [0, 1, 2] ⟨tr, tr, tr⟩ ?_
      exact loopQ_normal (k, (IntKind.i64.wrap (x4 + (1 : Int))), (x5.set x4.toNat v18), (x6.set x4.toNat (x5.getD x4.toNat default))) h (Nat.lt_succ_self k) (Sub.keep [0, 8, 9, 10] [0, 1, 2] (by kernel_rfl) (by kernel_rfl))
    · refine AW.cond_f rfl b10 ?_
      refine AW.skip ?_
      refine thenQ_normal ?_
      obtain ⟨c20, h⟩ := chk_some h
      refine AW.dA ⟨[(0, (vp 0 0)), (8, (.v (.one (.arr 1)))), (9, (vc (.int .i64 (a0.Points.length : Int)))), (10, (vc (.int .i64 x4)))], [(0, (.box [(.arr 1), (.arr 2), (.fx 0 2 (sl 1 csB a0.Fixed)), (.fx 0 3 (sl 1 (csF .f32) a0.Lengths)), (.fx 0 4 (.flt .f32 a0.Fall.X.bits)), (.fx 0 5 (.flt .f32 a0.Fall.Y.bits)), (.fx 0 6 (.flt .f32 a0.Fall.Z.bits)), (.fx 0 7 (.flt .f32 a0.Damp.bits)), (.fx 0 8 (.int .i64 a0.Passes))])), (1, (.arr true x5.length 3 (gl cs_Vector x5))), (2, (.arr true (x6.set x4.toNat (x5.getD x4.toNat default)).length 3 (gl cs_Vector (x6.set x4.toNat (x5.getD x4.toNat default)))))]⟩ ((T2 (T4 ((0 ≤ x4 ∧ x4 < (x6.length : Int)) ∧ Tt))) ∧ (((x6.set x4.toNat (x5.getD x4.toNat default)).length = x6.length ∧ SetOb x6.length 3 x4.toNat 0 3 (gl cs_Vector x6) (gl cs_Vector (x6.set x4.toNat (x5.getD x4.toNat default))) ∧ ((List.range 3).map fun j => (cs_Vector (x5.getD x4.toNat default)).getD (0 + j) .nilptr) = ((List.range 3).map fun j => gl cs_Vector (x6.set x4.toNat (x5.getD x4.toNat default)) x4.toNat (0 + j)) ∧ ((((.flt .f32 ((x5.getD x4.toNat default).X).bits) : C) = (.flt .f32 ((x5.getD x4.toNat default).X).bits) ∧ Tt) ∧ (((.flt .f32 ((x5.getD x4.toNat default).Y).bits) : C) = (.flt .f32 ((x5.getD x4.toNat default).Y).bits) ∧ Tt) ∧ (((.flt .f32 ((x5.getD x4.toNat default).Z).bits) : C) = (.flt .f32 ((x5.getD x4.toNat default).Z).bits) ∧ Tt) ∧ Tt) ∧ (true = true → ∀ j, j < 3 → isSeq (gl cs_Vector x6 x4.toNat (0 + j)) = false ∧ isSeq (gl cs_Vector (x6.set x4.toNat (x5.getD x4.toNat default)) x4.toNat (0 + j)) = false)) ∧ Tt)) 7 [.no, .no, .no, .no, .no, .no, .no, .set (x6.set x4.toNat (x5.getD x4.toNat default)).length (gl cs_Vector (x6.set x4.toNat (x5.getD x4.toNat default))) ((List.range 3).map fun j => (cs_Vector (x5.getD x4.toNat default)).getD (0 + j) .nilptr)] [0, 8, 9, 10] [0, 1, 2] ⟨⟨tr, tr, tr, tr, tr, tr, c20, tr⟩, ⟨⟨List.length_set, gl_set, (gl_atp (lt_of_bound c20)).symm, ⟨⟨rfl, tr⟩, ⟨rfl, tr⟩, ⟨rfl, tr⟩, tr⟩, (fun _ j hj => match j, hj with | 0, _ => ⟨rfl, rfl⟩ | 1, _ => ⟨rfl, rfl⟩ | 2, _ => ⟨rfl, rfl⟩)⟩, tr⟩⟩ ?_
      refine blockQ_normal ?_
      refine thenQ_normal ?_
      refine AW.rA ⟨[(0, (vp 0 0)), (8, (.v (.one (.arr 1)))), (9, (vc (.int .i64 (a0.Points.length : Int)))), (10, (vc (.int .i64 (IntKind.i64.wrap (x4 + (1 : Int))))))], [(0, (.box [(.arr 1), (.arr 2), (.fx 0 2 (sl 1 csB a0.Fixed)), (.fx 0 3 (sl 1 (csF .f32) a0.Lengths)), (.fx 0 4 (.flt .f32 a0.Fall.X.bits)), (.fx 0 5 (.flt .f32 a0.Fall.Y.bits)), (.fx 0 6 (.flt .f32 a0.Fall.Z.bits)), (.fx 0 7 (.flt .f32 a0.Damp.bits)), (.fx 0 8 (.int .i64 a0.Passes))])), (1, (.arr true x5.length 3 (gl cs_Vector x5))), (2, (.arr true (x6.set x4.toNat (x5.getD x4.toNat default)).length 3 (gl cs_Vector (x6.set x4.toNat (x5.getD x4.toNat default)))))]⟩ (T2 Tt) [] [0, 8, 9, 10] [0, 1, 2] ⟨tr, tr, tr⟩ ?_
      exact loopQ_normal (k, (IntKind.i64.wrap (x4 + (1 : Int))), x5, (x6.set x4.toNat (x5.getD x4.toNat default))) h (Nat.lt_succ_self k) (Sub.keep [0, 8, 9, 10] [0, 1, 2] (by kernel_rfl) (by kernel_rfl))
  · refine AW.cond_f rfl b7 ?_
    refine AW.exit ?_
    refine thenQ_exit ?_
    refine loopQ_exit ?_
    refine blockQ_exit ?_
    refine thenQ_normal ?_
    refine AW.seq (AW.rA ⟨[(0, (vp 0 0)), (61, (vc (.int .i64 a0.Passes))), (62, (vc (.int .i64 (0 : Int))))], [(0, (.box [(.arr 1), (.arr 2), (.fx 0 2 (sl 1 csB a0.Fixed)), (.fx 0 3 (sl 1 (csF .f32) a0.Lengths)), (.fx 0 4 (.flt .f32 a0.Fall.X.bits)), (.fx 0 5 (.flt .f32 a0.Fall.Y.bits)), (.fx 0 6 (.flt .f32 a0.Fall.Z.bits)), (.fx 0 7 (.flt .f32 a0.Damp.bits)), (.fx 0 8 (.int .i64 a0.Passes))])), (1, (.arr true x5.length 3 (gl cs_Vector x5))), (2, (.arr true x6.length 3 (gl cs_Vector x6)))]⟩ (Tt ∧ T4 Tt) [] [0, 61, 62] [0, 1, 2] ⟨tr, tr, tr, tr, tr, tr⟩ (thenQ_normal ?_))
    refine AW.block ?_
    refine AW.loopQ (σ := Nat × Int × (List Vector)) (fun p => ⟨[(0, (vp 0 0)), (61, (vc (.int .i64 a0.Passes))), (62, (vc (.int .i64 p.2.1)))], [(0, (.box [(.arr 1), (.arr 2), (.fx 0 2 (sl 1 csB a0.Fixed)), (.fx 0 3 (sl 1 (csF .f32) a0.Lengths)), (.fx 0 4 (.flt .f32 a0.Fall.X.bits)), (.fx 0 5 (.flt .f32 a0.Fall.Y.bits)), (.fx 0 6 (.flt .f32 a0.Fall.Z.bits)), (.fx 0 7 (.flt .f32 a0.Damp.bits)), (.fx 0 8 (.int .i64 a0.Passes))])), (1, (.arr true p.2.2.length 3 (gl cs_Vector p.2.2))), (2, (.arr true x6.length 3 (gl cs_Vector x6)))]⟩) (fun p => impl_String_move_l4 K a0 x6 p.1 p.2.1 p.2.2 = some o) (fun p => p.1) (K, (0 : Int), x5) h ?_
    clear h
    rintro ⟨k, x23, x24⟩ h
    replace h : impl_String_move_l4 K a0 x6 k x23 x24 = some o := h
    show AW _ _ (⟨[(0, (vp 0 0)), (61, (vc (.int .i64 a0.Passes))), (62, (vc (.int .i64 x23)))], [(0, (.box [(.arr 1), (.arr 2), (.fx 0 2 (sl 1 csB a0.Fixed)), (.fx 0 3 (sl 1 (csF .f32) a0.Lengths)), (.fx 0 4 (.flt .f32 a0.Fall.X.bits)), (.fx 0 5 (.flt .f32 a0.Fall.Y.bits)), (.fx 0 6 (.flt .f32 a0.Fall.Z.bits)), (.fx 0 7 (.flt .f32 a0.Damp.bits)), (.fx 0 8 (.int .i64 a0.Passes))])), (1, (.arr true x24.length 3 (gl cs_Vector x24))), (2, (.arr true x6.length 3 (gl cs_Vector x6)))]⟩ : St) _
    obtain _ | k := k
    · rw [impl_String_move_l4] at h; cases h
    rw [impl_String_move_l4] at h
    refine AW.seq (AW.rA ⟨[(0, (vp 0 0)), (61, (vc (.int .i64 a0.Passes))), (62, (vc (.int .i64 x23))), (63, (vc (.bool (decide (x23 < a0.Passes)))))], [(0, (.box [(.arr 1), (.arr 2), (.fx 0 2 (sl 1 csB a0.Fixed)), (.fx 0 3 (sl 1 (csF .f32) a0.Lengths)), (.fx 0 4 (.flt .f32 a0.Fall.X.bits)), (.fx 0 5 (.flt .f32 a0.Fall.Y.bits)), (.fx 0 6 (.flt .f32 a0.Fall.Z.bits)), (.fx 0 7 (.flt .f32 a0.Damp.bits)), (.fx 0 8 (.int .i64 a0.Passes))])), (1, (.arr true x24.length 3 (gl cs_Vector x24))), (2, (.arr true x6.length 3 (gl cs_Vector x6)))]⟩ (Tt ∧ Tt) [] [0, 61, 62, 63] [0, 1, 2] ⟨tr, tr⟩ (thenQ_normal ?_))
    refine AW.seq ?_
    rcases ite2_cases h with ⟨b25, h⟩ | ⟨b25, h⟩
    · refine AW.cond_t rfl b25 ?_
      refine AW.skip ?_
      refine thenQ_normal ?_
      refine AW.seq ?_
      refine AW.block ?_
      refine AW.seq (AW.rA ⟨[(0, (vp 0 0)), (61, (vc (.int .i64 a0.Passes))), (62, (vc (.int .i64 x23))), (68, (vc (.int .i64 (a0.Lengths.length : Int)))), (69, (vc (.int .i64 (0 : Int))))], [(0, (.box [(.arr 1), (.arr 2), (.fx 0 2 (sl 1 csB a0.Fixed)), (.fx 0 3 (sl 1 (csF .f32) a0.Lengths)), (.fx 0 4 (.flt .f32 a0.Fall.X.bits)), (.fx 0 5 (.flt .f32 a0.Fall.Y.bits)), (.fx 0 6 (.flt .f32 a0.Fall.Z.bits)), (.fx 0 7 (.flt .f32 a0.Damp.bits)), (.fx 0 8 (.int .i64 a0.Passes))])), (1, (.arr true x24.length 3 (gl cs_Vector x24))), (2, (.arr true x6.length 3 (gl cs_Vector x6)))]⟩ (T2 (T4 Tt)) [] [0, 61, 62, 68, 69] [0, 1, 2] ⟨tr, tr, tr, tr, tr, tr, tr⟩ (thenQ_normal ?_))
      obtain ⟨j34, e35, h⟩ := bind_some h
      refine AW.joinS (s2 := ⟨[(0, (vp 0 0)), (61, (vc (.int .i64 a0.Passes))), (62, (vc (.int .i64 x23)))], [(0, (.box [(.arr 1), (.arr 2), (.fx 0 2 (sl 1 csB a0.Fixed)), (.fx 0 3 (sl 1 (csF .f32) a0.Lengths)), (.fx 0 4 (.flt .f32 a0.Fall.X.bits)), (.fx 0 5 (.flt .f32 a0.Fall.Y.bits)), (.fx 0 6 (.flt .f32 a0.Fall.Z.bits)), (.fx 0 7 (.flt .f32 a0.Damp.bits)), (.fx 0 8 (.int .i64 a0.Passes))])), (1, (.arr true j34.length 3 (gl cs_Vector j34))), (2, (.arr true x6.length 3 (gl cs_Vector x6)))]⟩) ?_ ?_
      · replace h := e35
        refine AW.block ?_
        refine AW.loopQ (σ := Nat × Int × (List Vector)) (fun p => ⟨[(0, (vp 0 0)), (61, (vc (.int .i64 a0.Passes))), (62, (vc (.int .i64 x23))), (68, (vc (.int .i64 (a0.Lengths.length : Int)))), (69, (vc (.int .i64 p.2.1)))], [(0, (.box [(.arr 1), (.arr 2), (.fx 0 2 (sl 1 csB a0.Fixed)), (.fx 0 3 (sl 1 (csF .f32) a0.Lengths)), (.fx 0 4 (.flt .f32 a0.Fall.X.bits)), (.fx 0 5 (.flt .f32 a0.Fall.Y.bits)), (.fx 0 6 (.flt .f32 a0.Fall.Z.bits)), (.fx 0 7 (.flt .f32 a0.Damp.bits)), (.fx 0 8 (.int .i64 a0.Passes))])), (1, (.arr true p.2.2.length 3 (gl cs_Vector p.2.2))), (2, (.arr true x6.length 3 (gl cs_Vector x6)))]⟩) (fun p => impl_String_move_l5 K a0 x6 p.1 p.2.1 p.2.2 = some j34) (fun p => p.1) (K, (0 : Int), x24) h ?_
        clear h
        rintro ⟨k, x38, x39⟩ h
        replace h : impl_String_move_l5 K a0 x6 k x38 x39 = some j34 := h
        show AW _ _ (⟨[(0, (vp 0 0)), (61, (vc (.int .i64 a0.Passes))), (62, (vc (.int .i64 x23))), (68, (vc (.int .i64 (a0.Lengths.length : Int)))), (69, (vc (.int .i64 x38)))], [(0, (.box [(.arr 1), (.arr 2), (.fx 0 2 (sl 1 csB a0.Fixed)), (.fx 0 3 (sl 1 (csF .f32) a0.Lengths)), (.fx 0 4 (.flt .f32 a0.Fall.X.bits)), (.fx 0 5 (.flt .f32 a0.Fall.Y.bits)), (.fx 0 6 (.flt .f32 a0.Fall.Z.bits)), (.fx 0 7 (.flt .f32 a0.Damp.bits)), (.fx 0 8 (.int .i64 a0.Passes))])), (1, (.arr true x39.length 3 (gl cs_Vector x39))), (2, (.arr true x6.length 3 (gl cs_Vector x6)))]⟩ : St) _
        obtain _ | k := k
        · rw [impl_String_move_l5] at h; cases h
        rw [impl_String_move_l5] at h
        refine AW.seq (AW.rA ⟨[(0, (vp 0 0)), (61, (vc (.int .i64 a0.Passes))), (62, (vc (.int .i64 x23))), (68, (vc (.int .i64 (a0.Lengths.length : Int)))), (69, (vc (.int .i64 x38))), (70, (vc (.bool (decide (x38 < (a0.Lengths.length : Int))))))], [(0, (.box [(.arr 1), (.arr 2), (.fx 0 2 (sl 1 csB a0.Fixed)), (.fx 0 3 (sl 1 (csF .f32) a0.Lengths)), (.fx 0 4 (.flt .f32 a0.Fall.X.bits)), (.fx 0 5 (.flt .f32 a0.Fall.Y.bits)), (.fx 0 6 (.flt .f32 a0.Fall.Z.bits)), (.fx 0 7 (.flt .f32 a0.Damp.bits)), (.fx 0 8 (.int .i64 a0.Passes))])), (1, (.arr true x39.length 3 (gl cs_Vector x39))), (2, (.arr true x6.length 3 (gl cs_Vector x6)))]⟩ (Tt ∧ Tt) [] [0, 61, 62, 68, 69, 70] [0, 1, 2] ⟨tr, tr⟩ (thenQ_normal ?_))
        refine AW.seq ?_
        rcases ite2_cases h with ⟨b40, h⟩ | ⟨b40, h⟩
        · refine AW.cond_t rfl b40 ?_
          refine AW.skip ?_
          refine thenQ_normal ?_
          refine AW.seq ?_
          refine AW.block ?_
          refine AW.seq (AW.rA ⟨[(0, (vp 0 0)), (4, (vc (.int .i64 x38))), (61, (vc (.int .i64 a0.Passes))), (62, (vc (.int .i64 x23))), (68, (vc (.int .i64 (a0.Lengths.length : Int)))), (69, (vc (.int .i64 x38)))], [(0, (.box [(.arr 1), (.arr 2), (.fx 0 2 (sl 1 csB a0.Fixed)), (.fx 0 3 (sl 1 (csF .f32) a0.Lengths)), (.fx 0 4 (.flt .f32 a0.Fall.X.bits)), (.fx 0 5 (.flt .f32 a0.Fall.Y.bits)), (.fx 0 6 (.flt .f32 a0.Fall.Z.bits)), (.fx 0 7 (.flt .f32 a0.Damp.bits)), (.fx 0 8 (.int .i64 a0.Passes))])), (1, (.arr true x39.length 3 (gl cs_Vector x39))), (2, (.arr true x6.length 3 (gl cs_Vector x6)))]⟩ (T2 Tt) [] [0, 4, 61, 62, 68, 69] [0, 1, 2] ⟨tr, tr, tr⟩ (thenQ_normal ?_))
          obtain ⟨v41, e42, h⟩ := bind_some h
          obtain ⟨c43, h⟩ := chk_some h
          refine AW.rA ⟨[(0, (vp 0 0)), (61, (vc (.int .i64 a0.Passes))), (62, (vc (.int .i64 x23))), (68, (vc (.int .i64 (a0.Lengths.length : Int)))), (69, (vc (.int .i64 x38)))], [(0, (.box [(.arr 1), (.arr 2), (.fx 0 2 (sl 1 csB a0.Fixed)), (.fx 0 3 (sl 1 (csF .f32) a0.Lengths)), (.fx 0 4 (.flt .f32 a0.Fall.X.bits)), (.fx 0 5 (.flt .f32 a0.Fall.Y.bits)), (.fx 0 6 (.flt .f32 a0.Fall.Z.bits)), (.fx 0 7 (.flt .f32 a0.Damp.bits)), (.fx 0 8 (.int .i64 a0.Passes))])), (1, (.arr true v41.length 3 (gl cs_Vector v41))), (2, (.arr true x6.length 3 (gl cs_Vector x6)))]⟩ (T2 (((((((sl 3 cs_Vector x39) : C) = (sl 3 cs_Vector x39) ∧ v41.length = x39.length ∧ 3 = 3 ∧ ∀ i j, i < x39.length → j < 3 → isSeq (gl cs_Vector v41 i j) = isSeq (gl cs_Vector x39 i j)) ∧ (Eqc (sl 3 cs_Vector x6)) ∧ (Eqc (sl 1 csB a0.Fixed)) ∧ (Eqc (sl 1 (csF .f32) a0.Lengths)) ∧ (Eqc (.flt .f32 a0.Fall.X.bits)) ∧ (Eqc (.flt .f32 a0.Fall.Y.bits)) ∧ (Eqc (.flt .f32 a0.Fall.Z.bits)) ∧ (Eqc (.flt .f32 a0.Damp.bits)) ∧ (Eqc (.int .i64 a0.Passes)) ∧ Tt) ∧ (Eqc (.int .i64 x38)) ∧ Tt) ∧ MutOK Try.prog 52 [(.boxm [(.mu (sl 3 cs_Vector x39) (sl 3 cs_Vector v41)), (.ro (sl 3 cs_Vector x6)), (.ro (sl 1 csB a0.Fixed)), (.ro (sl 1 (csF .f32) a0.Lengths)), (.ro (.flt .f32 a0.Fall.X.bits)), (.ro (.flt .f32 a0.Fall.Y.bits)), (.ro (.flt .f32 a0.Fall.Z.bits)), (.ro (.flt .f32 a0.Damp.bits)), (.ro (.int .i64 a0.Passes))]), .one (.ro (.int .i64 x38))] []) ∧ Tt)) [.no, .no, .callM [(.boxm [(.mu (sl 3 cs_Vector x39) (sl 3 cs_Vector v41)), (.ro (sl 3 cs_Vector x6)), (.ro (sl 1 csB a0.Fixed)), (.ro (sl 1 (csF .f32) a0.Lengths)), (.ro (.flt .f32 a0.Fall.X.bits)), (.ro (.flt .f32 a0.Fall.Y.bits)), (.ro (.flt .f32 a0.Fall.Z.bits)), (.ro (.flt .f32 a0.Damp.bits)), (.ro (.int .i64 a0.Passes))]), .one (.ro (.int .i64 x38))] [] [] none] [0, 61, 62, 68, 69] [0, 1, 2] ⟨tr, tr, ⟨⟨⟨⟨rfl, c43, rfl, gl_seq sq_Vector⟩, rfl, rfl, rfl, rfl, rfl, rfl, rfl, rfl, tr⟩, rfl, tr⟩, ok_impl_String_pull K (String.mk x39 x6 a0.Fixed a0.Lengths a0.Fall a0.Damp a0.Passes) x38 v41 e42⟩, tr⟩ ?_
          refine blockQ_normal ?_
          refine thenQ_normal ?_
          refine AW.rA ⟨[(0, (vp 0 0)), (61, (vc (.int .i64 a0.Passes))), (62, (vc (.int .i64 x23))), (68, (vc (.int .i64 (a0.Lengths.length : Int)))), (69, (vc (.int .i64 (IntKind.i64.wrap (x38 + (1 : Int))))))], [(0, (.box [(.arr 1), (.arr 2), (.fx 0 2 (sl 1 csB a0.Fixed)), (.fx 0 3 (sl 1 (csF .f32) a0.Lengths)), (.fx 0 4 (.flt .f32 a0.Fall.X.bits)), (.fx 0 5 (.flt .f32 a0.Fall.Y.bits)), (.fx 0 6 (.flt .f32 a0.Fall.Z.bits)), (.fx 0 7 (.flt .f32 a0.Damp.bits)), (.fx 0 8 (.int .i64 a0.Passes))])), (1, (.arr true v41.length 3 (gl cs_Vector v41))), (2, (.arr true x6.length 3 (gl cs_Vector x6)))]⟩ (T2 Tt) [] [0, 61, 62, 68, 69] [0, 1, 2] ⟨tr, tr, tr⟩ ?_
          exact loopQ_normal (k, (IntKind.i64.wrap (x38 + (1 : Int))), v41) h (Nat.lt_succ_self k) (Sub.keep [0, 61, 62, 68, 69] [0, 1, 2] (by kernel_rfl) (by kernel_rfl))
        · refine AW.cond_f rfl b40 ?_
          refine AW.exit ?_
          refine thenQ_exit ?_
          refine loopQ_exit ?_
          refine blockQ_exit ?_
          replace h := some_eq h
          subst h
          exact ⟨rfl, Sub.keep [0, 61, 62] [0, 1, 2] (by kernel_rfl) (by kernel_rfl)⟩
      refine blockQ_normal ?_
      refine thenQ_normal ?_
      refine AW.rA ⟨[(0, (vp 0 0)), (61, (vc (.int .i64 a0.Passes))), (62, (vc (.int .i64 (IntKind.i64.wrap (x23 + (1 : Int))))))], [(0, (.box [(.arr 1), (.arr 2), (.fx 0 2 (sl 1 csB a0.Fixed)), (.fx 0 3 (sl 1 (csF .f32) a0.Lengths)), (.fx 0 4 (.flt .f32 a0.Fall.X.bits)), (.fx 0 5 (.flt .f32 a0.Fall.Y.bits)), (.fx 0 6 (.flt .f32 a0.Fall.Z.bits)), (.fx 0 7 (.flt .f32 a0.Damp.bits)), (.fx 0 8 (.int .i64 a0.Passes))])), (1, (.arr true j34.length 3 (gl cs_Vector j34))), (2, (.arr true x6.length 3 (gl cs_Vector x6)))]⟩ (T2 Tt) [] [0, 61, 62] [0, 1, 2] ⟨tr, tr, tr⟩ ?_
      exact loopQ_normal (k, (IntKind.i64.wrap (x23 + (1 : Int))), j34) h (Nat.lt_succ_self k) (Sub.keep [0, 61, 62] [0, 1, 2] (by kernel_rfl) (by kernel_rfl))
    · refine AW.cond_f rfl b25 ?_
      refine AW.exit ?_
      refine thenQ_exit ?_
      refine loopQ_exit ?_
      refine blockQ_exit ?_
      obtain ⟨c44, h⟩ := chk_some h
      obtain ⟨c45, h⟩ := chk_some h
      replace h := some_eq h
      subst h
      exact ⟨.inl rfl, retOK_of [] (by kernel_rfl) tr (of_decide_eq_true (by kernel_rfl)), by kernel_rfl, ⟨⟨⟨⟨c44, rfl, rfl⟩, ⟨c45, rfl, rfl⟩, tr, tr, tr, tr, tr, tr, tr, tr⟩, ⟨rfl, rfl, ⟨rfl, rfl⟩, ⟨rfl, rfl⟩, ⟨rfl, rfl⟩, ⟨rfl, rfl⟩, ⟨rfl, rfl⟩, ⟨rfl, rfl⟩, ⟨rfl, rfl⟩, tr⟩⟩, tr⟩⟩

/-! impl.RunString -/
def impl_RunString_l1 (K : Nat) (a1 : Int) (v9 : (String)) : Nat → Int → (List Vector) → (List Vector) → Option (String × Bool)
  | 0, _, _, _ => none
  | k + 1, x14, x15, x16 => ite2 ((decide (x14 < a1))) ((impl_String_move K (String.mk x15 x16 v9.Fixed v9.Lengths v9.Fall v9.Damp v9.Passes)).bind fun v18 => chk (v18.1.length = x15.length) (chk (v18.2.length = x16.length) (impl_RunString_l1 K a1 v9 k (IntKind.i64.wrap (x14 + (1 : Int))) v18.1 v18.2))) (some ((String.mk x15 x16 v9.Fixed v9.Lengths v9.Fall v9.Damp v9.Passes), true))

def impl_RunString (K : Nat) (a0 : String) (a1 : Int) : Option (String × Bool) :=
  (impl_ValidString K a0).bind fun v1 => (ite2 ((!v1)) (some true) ((impl_isMoves K a1).bind fun v4 => some (!v4))).bind fun j6 => ite2 (j6) (some ((String.mk ([] : (List Vector)) ([] : (List Vector)) ([] : (List Bool)) ([] : (List F32)) (Vector.mk (default : F32) (default : F32) (default : F32)) (default : F32) (0 : Int)), false)) ((impl_String_copied K a0).bind fun v9 => impl_RunString_l1 K a1 v9 K (0 : Int) v9.Points v9.Before)

theorem ok_impl_RunString (K : Nat) (a0 : String) (a1 : Int) (o : (String × Bool)) (h : impl_RunString K a0 a1 = some o) : CallOK Try.prog 20 [.agg (cs_String a0), .one (.int .i64 a1)] [.agg (cs_String o.1), .one (.bool o.2)] := by
  refine callOK_of_AW Try.func20 rfl (by kernel_rfl) (Nat.le_of_ble_eq_true (by kernel_rfl)) ?_
  intro w0
  unfold impl_RunString at h
  refine AW.seq (AW.rA ⟨[(1, (vc (.int .i64 a1))), (2, (vp 1 0)), (4, (vp 2 0))], [(1, (.box [(.c (sl 3 cs_Vector a0.Points)), (.c (sl 3 cs_Vector a0.Before)), (.c (sl 1 csB a0.Fixed)), (.c (sl 1 (csF .f32) a0.Lengths)), (.c (.flt .f32 a0.Fall.X.bits)), (.c (.flt .f32 a0.Fall.Y.bits)), (.c (.flt .f32 a0.Fall.Z.bits)), (.c (.flt .f32 a0.Damp.bits)), (.c (.int .i64 a0.Passes))])), (2, (.box [.nils, .nils, .nils, .nils, (.c (.flt .f32 (default : F32).bits)), (.c (.flt .f32 (default : F32).bits)), (.c (.flt .f32 (default : F32).bits)), (.c (.flt .f32 (default : F32).bits)), (.c (.int .i64 (0 : Int)))]))]⟩ (Tt ∧ T2 Tt) [.box 1, .box 2] [1, 2, 4] [1, 2] ⟨tr, tr, tr, tr⟩ (thenQ_normal ?_))
  refine AW.seq ?_
  refine AW.seq ?_
  obtain ⟨v1, e2, h⟩ := bind_some h
  obtain ⟨j6, e7, h⟩ := bind_some h
  refine AW.join1 (s2 := ⟨[(1, (vc (.int .i64 a1))), (2, (vp 1 0)), (4, (vp 2 0)), (13, (vc (.bool j6)))], [(1, (.box [(.c (sl 3 cs_Vector a0.Points)), (.c (sl 3 cs_Vector a0.Before)), (.c (sl 1 csB a0.Fixed)), (.c (sl 1 (csF .f32) a0.Lengths)), (.c (.flt .f32 a0.Fall.X.bits)), (.c (.flt .f32 a0.Fall.Y.bits)), (.c (.flt .f32 a0.Fall.Z.bits)), (.c (.flt .f32 a0.Damp.bits)), (.c (.int .i64 a0.Passes))])), (2, (.box [.nils, .nils, .nils, .nils, (.c (.flt .f32 (default : F32).bits)), (.c (.flt .f32 (default : F32).bits)), (.c (.flt .f32 (default : F32).bits)), (.c (.flt .f32 (default : F32).bits)), (.c (.int .i64 (0 : Int)))]))]⟩) ?_ ?_
  · rcases ite2_cases e7 with ⟨b3, e7⟩ | ⟨b3, e7⟩
    · replace e7 := some_eq e7
      subst e7
      exact AW.rA ⟨[(1, (vc (.int .i64 a1))), (2, (vp 1 0)), (4, (vp 2 0)), (13, (vc (.bool true)))], [(1, (.box [(.c (sl 3 cs_Vector a0.Points)), (.c (sl 3 cs_Vector a0.Before)), (.c (sl 1 csB a0.Fixed)), (.c (sl 1 (csF .f32) a0.Lengths)), (.c (.flt .f32 a0.Fall.X.bits)), (.c (.flt .f32 a0.Fall.Y.bits)), (.c (.flt .f32 a0.Fall.Z.bits)), (.c (.flt .f32 a0.Damp.bits)), (.c (.int .i64 a0.Passes))])), (2, (.box [.nils, .nils, .nils, .nils, (.c (.flt .f32 (default : F32).bits)), (.c (.flt .f32 (default : F32).bits)), (.c (.flt .f32 (default : F32).bits)), (.c (.flt .f32 (default : F32).bits)), (.c (.int .i64 (0 : Int)))]))]⟩ (Tt ∧ ((((Eqc (sl 3 cs_Vector a0.Points)) ∧ (Eqc (sl 3 cs_Vector a0.Before)) ∧ (Eqc (sl 1 csB a0.Fixed)) ∧ (Eqc (sl 1 (csF .f32) a0.Lengths)) ∧ (Eqc (.flt .f32 a0.Fall.X.bits)) ∧ (Eqc (.flt .f32 a0.Fall.Y.bits)) ∧ (Eqc (.flt .f32 a0.Fall.Z.bits)) ∧ (Eqc (.flt .f32 a0.Damp.bits)) ∧ (Eqc (.int .i64 a0.Passes)) ∧ Tt) ∧ Tt) ∧ CallOK Try.prog 39 [.agg (cs_String a0)] [.one (.bool v1)]) ∧ Tt ∧ (Tt ∧ (!v1) = true) ∧ T4 Tt) [.no, .call [.agg (cs_String a0)] [.one (.bool v1)] [[.view]], .no, .dec true] [1, 2, 4, 13] [1, 2] ⟨tr, ⟨⟨⟨rfl, rfl, rfl, rfl, rfl, rfl, rfl, rfl, rfl, tr⟩, tr⟩, ok_impl_ValidString K a0 v1 e2⟩, tr, ⟨tr, b3⟩, tr, tr, tr, tr, tr⟩ ⟨rfl, rfl⟩
    · obtain ⟨v4, e5, e7⟩ := bind_some e7
      replace e7 := some_eq e7
      subst e7
      exact AW.rA ⟨[(1, (vc (.int .i64 a1))), (2, (vp 1 0)), (4, (vp 2 0)), (13, (vc (.bool (!v4))))], [(1, (.box [(.c (sl 3 cs_Vector a0.Points)), (.c (sl 3 cs_Vector a0.Before)), (.c (sl 1 csB a0.Fixed)), (.c (sl 1 (csF .f32) a0.Lengths)), (.c (.flt .f32 a0.Fall.X.bits)), (.c (.flt .f32 a0.Fall.Y.bits)), (.c (.flt .f32 a0.Fall.Z.bits)), (.c (.flt .f32 a0.Damp.bits)), (.c (.int .i64 a0.Passes))])), (2, (.box [.nils, .nils, .nils, .nils, (.c (.flt .f32 (default : F32).bits)), (.c (.flt .f32 (default : F32).bits)), (.c (.flt .f32 (default : F32).bits)), (.c (.flt .f32 (default : F32).bits)), (.c (.int .i64 (0 : Int)))]))]⟩ (Tt ∧ ((((Eqc (sl 3 cs_Vector a0.Points)) ∧ (Eqc (sl 3 cs_Vector a0.Before)) ∧ (Eqc (sl 1 csB a0.Fixed)) ∧ (Eqc (sl 1 (csF .f32) a0.Lengths)) ∧ (Eqc (.flt .f32 a0.Fall.X.bits)) ∧ (Eqc (.flt .f32 a0.Fall.Y.bits)) ∧ (Eqc (.flt .f32 a0.Fall.Z.bits)) ∧ (Eqc (.flt .f32 a0.Damp.bits)) ∧ (Eqc (.int .i64 a0.Passes)) ∧ Tt) ∧ Tt) ∧ CallOK Try.prog 39 [.agg (cs_String a0)] [.one (.bool v1)]) ∧ Tt ∧ (Tt ∧ (!v1) = false) ∧ Tt ∧ (((Eqc (.int .i64 a1)) ∧ Tt) ∧ CallOK Try.prog 40 [.one (.int .i64 a1)] [.one (.bool v4)]) ∧ T2 Tt) [.no, .call [.agg (cs_String a0)] [.one (.bool v1)] [[.view]], .no, .dec false, .no, .call [.one (.int .i64 a1)] [.one (.bool v4)] [[.view]]] [1, 2, 4, 13] [1, 2] ⟨tr, ⟨⟨⟨rfl, rfl, rfl, rfl, rfl, rfl, rfl, rfl, rfl, tr⟩, tr⟩, ok_impl_ValidString K a0 v1 e2⟩, tr, ⟨tr, b3⟩, tr, ⟨⟨rfl, tr⟩, ok_impl_isMoves K a1 v4 e5⟩, tr, tr, tr⟩ ⟨rfl, rfl⟩
  refine thenQ_normal ?_
  rcases ite2_cases h with ⟨b8, h⟩ | ⟨b8, h⟩
  · refine AW.cond_t rfl b8 ?_
    refine AW.seq (AW.rA ⟨[(4, (vp 2 0)), (5, (vc (.bool false)))], [(2, (.box [.nils, .nils, .nils, .nils, (.c (.flt .f32 (default : F32).bits)), (.c (.flt .f32 (default : F32).bits)), (.c (.flt .f32 (default : F32).bits)), (.c (.flt .f32 (default : F32).bits)), (.c (.int .i64 (0 : Int)))]))]⟩ (Tt ∧ T2 Tt) [] [4, 5] [2] ⟨tr, tr, tr, tr⟩ (thenQ_normal ?_))
    refine AW.ret ?_
    refine thenQ_ret ?_
    replace h := some_eq h
    subst h
    exact ⟨.inr rfl, retOK_of [(.agg [.nils, .nils, .nils, .nils, (.c (.flt .f32 (default : F32).bits)), (.c (.flt .f32 (default : F32).bits)), (.c (.flt .f32 (default : F32).bits)), (.c (.flt .f32 (default : F32).bits)), (.c (.int .i64 (0 : Int)))]), (.one (.c (.bool false)))] (by kernel_rfl) ⟨⟨rfl, rfl, rfl, rfl, ⟨rfl, tr⟩, ⟨rfl, tr⟩, ⟨rfl, tr⟩, ⟨rfl, tr⟩, ⟨rfl, tr⟩, tr⟩, ⟨rfl, tr⟩, tr⟩ (of_decide_eq_true (by kernel_rfl))⟩
  · refine AW.cond_f rfl b8 ?_
    refine AW.skip ?_
    refine thenQ_normal ?_
    refine AW.seq ?_
    obtain ⟨v9, e10, h⟩ := bind_some h
    refine AW.rA ⟨[(1, (vc (.int .i64 a1))), (2, (vp 1 0)), (4, (vp 2 0))], [(1, (.box [(.arr 3), (.arr 4), (.lst 5 v9.Fixed.length 1 (gl csB v9.Fixed)), (.lst 6 v9.Lengths.length 1 (gl (csF .f32) v9.Lengths)), (.c (.flt .f32 v9.Fall.X.bits)), (.c (.flt .f32 v9.Fall.Y.bits)), (.c (.flt .f32 v9.Fall.Z.bits)), (.c (.flt .f32 v9.Damp.bits)), (.c (.int .i64 v9.Passes))])), (2, (.box [.nils, .nils, .nils, .nils, (.c (.flt .f32 (default : F32).bits)), (.c (.flt .f32 (default : F32).bits)), (.c (.flt .f32 (default : F32).bits)), (.c (.flt .f32 (default : F32).bits)), (.c (.int .i64 (0 : Int)))])), (3, (.arr true v9.Points.length 3 (gl cs_Vector v9.Points))), (4, (.arr true v9.Before.length 3 (gl cs_Vector v9.Before))), (5, (.lst v9.Fixed.length 1 (gl csB v9.Fixed))), (6, (.lst v9.Lengths.length 1 (gl (csF .f32) v9.Lengths)))]⟩ (Tt ∧ ((((Eqc (sl 3 cs_Vector a0.Points)) ∧ (Eqc (sl 3 cs_Vector a0.Before)) ∧ (Eqc (sl 1 csB a0.Fixed)) ∧ (Eqc (sl 1 (csF .f32) a0.Lengths)) ∧ (Eqc (.flt .f32 a0.Fall.X.bits)) ∧ (Eqc (.flt .f32 a0.Fall.Y.bits)) ∧ (Eqc (.flt .f32 a0.Fall.Z.bits)) ∧ (Eqc (.flt .f32 a0.Damp.bits)) ∧ (Eqc (.int .i64 a0.Passes)) ∧ Tt) ∧ Tt) ∧ CallOK Try.prog 41 [.agg (cs_String a0)] [.agg (cs_String v9)]) ∧ Tt ∧ Tt) [.no, .call [.agg (cs_String a0)] [.agg (cs_String v9)] [[.own 3, .own 4, .lst 5, .lst 6, .view, .view, .view, .view, .view]]] [1, 2, 4] [1, 2, 3, 4, 5, 6] ⟨tr, ⟨⟨⟨rfl, rfl, rfl, rfl, rfl, rfl, rfl, rfl, rfl, tr⟩, tr⟩, ok_impl_String_copied K a0 v9 e10⟩, tr, tr⟩ ?_
    refine thenQ_normal ?_
    refine AW.seq ?_
    refine AW.seq (AW.rA ⟨[(2, (vp 1 0)), (4, (vp 2 0)), (17, (vc (.int .i64 a1))), (18, (vc (.int .i64 (0 : Int))))], [(1, (.box [(.arr 3), (.arr 4), (.lst 5 v9.Fixed.length 1 (gl csB v9.Fixed)), (.lst 6 v9.Lengths.length 1 (gl (csF .f32) v9.Lengths)), (.c (.flt .f32 v9.Fall.X.bits)), (.c (.flt .f32 v9.Fall.Y.bits)), (.c (.flt .f32 v9.Fall.Z.bits)), (.c (.flt .f32 v9.Damp.bits)), (.c (.int .i64 v9.Passes))])), (2, (.box [.nils, .nils, .nils, .nils, (.c (.flt .f32 (default : F32).bits)), (.c (.flt .f32 (default : F32).bits)), (.c (.flt .f32 (default : F32).bits)), (.c (.flt .f32 (default : F32).bits)), (.c (.int .i64 (0 : Int)))])), (3, (.arr true v9.Points.length 3 (gl cs_Vector v9.Points))), (4, (.arr true v9.Before.length 3 (gl cs_Vector v9.Before))), (5, (.lst v9.Fixed.length 1 (gl csB v9.Fixed))), (6, (.lst v9.Lengths.length 1 (gl (csF .f32) v9.Lengths)))]⟩ (T2 Tt) [] [2, 4, 17, 18] [1, 2, 3, 4, 5, 6] ⟨tr, tr, tr⟩ (thenQ_normal ?_))
    refine AW.block ?_
    refine AW.loopQ (σ := Nat × Int × (List Vector) × (List Vector)) (fun p => ⟨[(2, (vp 1 0)), (4, (vp 2 0)), (17, (vc (.int .i64 a1))), (18, (vc (.int .i64 p.2.1)))], [(1, (.box [(.arr 3), (.arr 4), (.lst 5 v9.Fixed.length 1 (gl csB v9.Fixed)), (.lst 6 v9.Lengths.length 1 (gl (csF .f32) v9.Lengths)), (.c (.flt .f32 v9.Fall.X.bits)), (.c (.flt .f32 v9.Fall.Y.bits)), (.c (.flt .f32 v9.Fall.Z.bits)), (.c (.flt .f32 v9.Damp.bits)), (.c (.int .i64 v9.Passes))])), (2, (.box [.nils, .nils, .nils, .nils, (.c (.flt .f32 (default : F32).bits)), (.c (.flt .f32 (default : F32).bits)), (.c (.flt .f32 (default : F32).bits)), (.c (.flt .f32 (default : F32).bits)), (.c (.int .i64 (0 : Int)))])), (3, (.arr true p.2.2.1.length 3 (gl cs_Vector p.2.2.1))), (4, (.arr true p.2.2.2.length 3 (gl cs_Vector p.2.2.2))), (5, (.lst v9.Fixed.length 1 (gl csB v9.Fixed))), (6, (.lst v9.Lengths.length 1 (gl (csF .f32) v9.Lengths)))]⟩) (fun p => impl_RunString_l1 K a1 v9 p.1 p.2.1 p.2.2.1 p.2.2.2 = some o) (fun p => p.1) (K, (0 : Int), v9.Points, v9.Before) h ?_
    clear h
    rintro ⟨k, x14, x15, x16⟩ h
    replace h : impl_RunString_l1 K a1 v9 k x14 x15 x16 = some o := h
    show AW _ _ (⟨[(2, (vp 1 0)), (4, (vp 2 0)), (17, (vc (.int .i64 a1))), (18, (vc (.int .i64 x14)))], [(1, (.box [(.arr 3), (.arr 4), (.lst 5 v9.Fixed.length 1 (gl csB v9.Fixed)), (.lst 6 v9.Lengths.length 1 (gl (csF .f32) v9.Lengths)), (.c (.flt .f32 v9.Fall.X.bits)), (.c (.flt .f32 v9.Fall.Y.bits)), (.c (.flt .f32 v9.Fall.Z.bits)), (.c (.flt .f32 v9.Damp.bits)), (.c (.int .i64 v9.Passes))])), (2, (.box [.nils, .nils, .nils, .nils, (.c (.flt .f32 (default : F32).bits)), (.c (.flt .f32 (default : F32).bits)), (.c (.flt .f32 (default : F32).bits)), (.c (.flt .f32 (default : F32).bits)), (.c (.int .i64 (0 : Int)))])), (3, (.arr true x15.length 3 (gl cs_Vector x15))), (4, (.arr true x16.length 3 (gl cs_Vector x16))), (5, (.lst v9.Fixed.length 1 (gl csB v9.Fixed))), (6, (.lst v9.Lengths.length 1 (gl (csF .f32) v9.Lengths)))]⟩ : St) _
    obtain _ | k := k
    · rw [impl_RunString_l1] at h; cases h
    rw [impl_RunString_l1] at h
    refine AW.seq (AW.rA ⟨[(2, (vp 1 0)), (4, (vp 2 0)), (17, (vc (.int .i64 a1))), (18, (vc (.int .i64 x14))), (19, (vc (.bool (decide (x14 < a1)))))], [(1, (.box [(.arr 3), (.arr 4), (.lst 5 v9.Fixed.length 1 (gl csB v9.Fixed)), (.lst 6 v9.Lengths.length 1 (gl (csF .f32) v9.Lengths)), (.c (.flt .f32 v9.Fall.X.bits)), (.c (.flt .f32 v9.Fall.Y.bits)), (.c (.flt .f32 v9.Fall.Z.bits)), (.c (.flt .f32 v9.Damp.bits)), (.c (.int .i64 v9.Passes))])), (2, (.box [.nils, .nils, .nils, .nils, (.c (.flt .f32 (default : F32).bits)), (.c (.flt .f32 (default : F32).bits)), (.c (.flt .f32 (default : F32).bits)), (.c (.flt .f32 (default : F32).bits)), (.c (.int .i64 (0 : Int)))])), (3, (.arr true x15.length 3 (gl cs_Vector x15))), (4, (.arr true x16.length 3 (gl cs_Vector x16))), (5, (.lst v9.Fixed.length 1 (gl csB v9.Fixed))), (6, (.lst v9.Lengths.length 1 (gl (csF .f32) v9.Lengths)))]⟩ (Tt ∧ Tt) [] [2, 4, 17, 18, 19] [1, 2, 3, 4, 5, 6] ⟨tr, tr⟩ (thenQ_normal ?_))
    refine AW.seq ?_
    rcases ite2_cases h with ⟨b17, h⟩ | ⟨b17, h⟩
    · refine AW.cond_t rfl b17 ?_
      refine AW.skip ?_
      refine thenQ_normal ?_
      refine AW.seq ?_
      refine AW.block ?_
      obtain ⟨v18, e19, h⟩ := bind_some h
      obtain ⟨c20, h⟩ := chk_some h
      obtain ⟨c21, h⟩ := chk_some h
      refine AW.rA ⟨[(2, (vp 1 0)), (4, (vp 2 0)), (17, (vc (.int .i64 a1))), (18, (vc (.int .i64 x14)))], [(1, (.box [(.arr 3), (.arr 4), (.lst 5 v9.Fixed.length 1 (gl csB v9.Fixed)), (.lst 6 v9.Lengths.length 1 (gl (csF .f32) v9.Lengths)), (.c (.flt .f32 v9.Fall.X.bits)), (.c (.flt .f32 v9.Fall.Y.bits)), (.c (.flt .f32 v9.Fall.Z.bits)), (.c (.flt .f32 v9.Damp.bits)), (.c (.int .i64 v9.Passes))])), (2, (.box [.nils, .nils, .nils, .nils, (.c (.flt .f32 (default : F32).bits)), (.c (.flt .f32 (default : F32).bits)), (.c (.flt .f32 (default : F32).bits)), (.c (.flt .f32 (default : F32).bits)), (.c (.int .i64 (0 : Int)))])), (3, (.arr true v18.1.length 3 (gl cs_Vector v18.1))), (4, (.arr true v18.2.length 3 (gl cs_Vector v18.2))), (5, (.lst v9.Fixed.length 1 (gl csB v9.Fixed))), (6, (.lst v9.Lengths.length 1 (gl (csF .f32) v9.Lengths)))]⟩ (((((((sl 3 cs_Vector x15) : C) = (sl 3 cs_Vector x15) ∧ v18.1.length = x15.length ∧ 3 = 3 ∧ ∀ i j, i < x15.length → j < 3 → isSeq (gl cs_Vector v18.1 i j) = isSeq (gl cs_Vector x15 i j)) ∧ (((sl 3 cs_Vector x16) : C) = (sl 3 cs_Vector x16) ∧ v18.2.length = x16.length ∧ 3 = 3 ∧ ∀ i j, i < x16.length → j < 3 → isSeq (gl cs_Vector v18.2 i j) = isSeq (gl cs_Vector x16 i j)) ∧ (Eqc (sl 1 csB v9.Fixed)) ∧ (Eqc (sl 1 (csF .f32) v9.Lengths)) ∧ (Eqc (.flt .f32 v9.Fall.X.bits)) ∧ (Eqc (.flt .f32 v9.Fall.Y.bits)) ∧ (Eqc (.flt .f32 v9.Fall.Z.bits)) ∧ (Eqc (.flt .f32 v9.Damp.bits)) ∧ (Eqc (.int .i64 v9.Passes)) ∧ Tt) ∧ Tt) ∧ MutOK Try.prog 42 [(.boxm [(.mu (sl 3 cs_Vector x15) (sl 3 cs_Vector v18.1)), (.mu (sl 3 cs_Vector x16) (sl 3 cs_Vector v18.2)), (.ro (sl 1 csB v9.Fixed)), (.ro (sl 1 (csF .f32) v9.Lengths)), (.ro (.flt .f32 v9.Fall.X.bits)), (.ro (.flt .f32 v9.Fall.Y.bits)), (.ro (.flt .f32 v9.Fall.Z.bits)), (.ro (.flt .f32 v9.Damp.bits)), (.ro (.int .i64 v9.Passes))])] []) ∧ Tt) [.callM [(.boxm [(.mu (sl 3 cs_Vector x15) (sl 3 cs_Vector v18.1)), (.mu (sl 3 cs_Vector x16) (sl 3 cs_Vector v18.2)), (.ro (sl 1 csB v9.Fixed)), (.ro (sl 1 (csF .f32) v9.Lengths)), (.ro (.flt .f32 v9.Fall.X.bits)), (.ro (.flt .f32 v9.Fall.Y.bits)), (.ro (.flt .f32 v9.Fall.Z.bits)), (.ro (.flt .f32 v9.Damp.bits)), (.ro (.int .i64 v9.Passes))])] [] [] none] [2, 4, 17, 18] [1, 2, 3, 4, 5, 6] ⟨⟨⟨⟨⟨rfl, c20, rfl, gl_seq sq_Vector⟩, ⟨rfl, c21, rfl, gl_seq sq_Vector⟩, rfl, rfl, rfl, rfl, rfl, rfl, rfl, tr⟩, tr⟩, ok_impl_String_move K (String.mk x15 x16 v9.Fixed v9.Lengths v9.Fall v9.Damp v9.Passes) v18 e19⟩, tr⟩ ?_
      refine blockQ_normal ?_
      refine thenQ_normal ?_
      refine AW.rA ⟨[(2, (vp 1 0)), (4, (vp 2 0)), (17, (vc (.int .i64 a1))), (18, (vc (.int .i64 (IntKind.i64.wrap (x14 + (1 : Int))))))], [(1, (.box [(.arr 3), (.arr 4), (.lst 5 v9.Fixed.length 1 (gl csB v9.Fixed)), (.lst 6 v9.Lengths.length 1 (gl (csF .f32) v9.Lengths)), (.c (.flt .f32 v9.Fall.X.bits)), (.c (.flt .f32 v9.Fall.Y.bits)), (.c (.flt .f32 v9.Fall.Z.bits)), (.c (.flt .f32 v9.Damp.bits)), (.c (.int .i64 v9.Passes))])), (2, (.box [.nils, .nils, .nils, .nils, (.c (.flt .f32 (default : F32).bits)), (.c (.flt .f32 (default : F32).bits)), (.c (.flt .f32 (default : F32).bits)), (.c (.flt .f32 (default : F32).bits)), (.c (.int .i64 (0 : Int)))])), (3, (.arr true v18.1.length 3 (gl cs_Vector v18.1))), (4, (.arr true v18.2.length 3 (gl cs_Vector v18.2))), (5, (.lst v9.Fixed.length 1 (gl csB v9.Fixed))), (6, (.lst v9.Lengths.length 1 (gl (csF .f32) v9.Lengths)))]⟩ (T2 Tt) [] [2, 4, 17, 18] [1, 2, 3, 4, 5, 6] ⟨tr, tr, tr⟩ ?_
      exact loopQ_normal (k, (IntKind.i64.wrap (x14 + (1 : Int))), v18.1, v18.2) h (Nat.lt_succ_self k) (Sub.keep [2, 4, 17, 18] [1, 2, 3, 4, 5, 6] (by kernel_rfl) (by kernel_rfl))
    · refine AW.cond_f rfl b17 ?_
      refine AW.exit ?_
      refine thenQ_exit ?_
      refine loopQ_exit ?_
      refine blockQ_exit ?_
      refine thenQ_normal ?_
      refine AW.seq (AW.rA ⟨[(4, (vp 2 0)), (5, (vc (.bool true)))], [(2, (.box [(.arr 3), (.arr 4), (.lst 5 v9.Fixed.length 1 (gl csB v9.Fixed)), (.lst 6 v9.Lengths.length 1 (gl (csF .f32) v9.Lengths)), (.c (.flt .f32 v9.Fall.X.bits)), (.c (.flt .f32 v9.Fall.Y.bits)), (.c (.flt .f32 v9.Fall.Z.bits)), (.c (.flt .f32 v9.Damp.bits)), (.c (.int .i64 v9.Passes))])), (3, (.arr true x15.length 3 (gl cs_Vector x15))), (4, (.arr true x16.length 3 (gl cs_Vector x16))), (5, (.lst v9.Fixed.length 1 (gl csB v9.Fixed))), (6, (.lst v9.Lengths.length 1 (gl (csF .f32) v9.Lengths)))]⟩ (Tt ∧ T2 Tt) [] [4, 5] [2, 3, 4, 5, 6] ⟨tr, tr, tr, tr⟩ (thenQ_normal ?_))
      refine AW.ret ?_
      replace h := some_eq h
      subst h
      exact ⟨.inr rfl, retOK_of [(.agg [(.arr 3), (.arr 4), (.lst 5 v9.Fixed.length 1 (gl csB v9.Fixed)), (.lst 6 v9.Lengths.length 1 (gl (csF .f32) v9.Lengths)), (.c (.flt .f32 v9.Fall.X.bits)), (.c (.flt .f32 v9.Fall.Y.bits)), (.c (.flt .f32 v9.Fall.Z.bits)), (.c (.flt .f32 v9.Damp.bits)), (.c (.int .i64 v9.Passes))]), (.one (.c (.bool true)))] (by kernel_rfl) ⟨⟨rfl, rfl, rfl, rfl, ⟨rfl, tr⟩, ⟨rfl, tr⟩, ⟨rfl, tr⟩, ⟨rfl, tr⟩, ⟨rfl, tr⟩, tr⟩, ⟨rfl, tr⟩, tr⟩ (of_decide_eq_true (by kernel_rfl))⟩

/-! impl.StepString -/
def impl_StepString (K : Nat) (a0 : String) : Option (String × Bool) :=
  (impl_RunString K a0 (1 : Int)).bind fun v1 => some (v1.1, v1.2)

theorem ok_impl_StepString (K : Nat) (a0 : String) (o : (String × Bool)) (h : impl_StepString K a0 = some o) : CallOK Try.prog 7 [.agg (cs_String a0)] [.agg (cs_String o.1), .one (.bool o.2)] := by
  refine callOK_of_AW Try.func7 rfl (by kernel_rfl) (Nat.le_of_ble_eq_true (by kernel_rfl)) ?_
  intro w0
  unfold impl_StepString at h
  refine AW.seq (AW.rA ⟨[(1, (vp 1 0)), (2, (vp 2 0))], [(1, (.box [(.c (sl 3 cs_Vector a0.Points)), (.c (sl 3 cs_Vector a0.Before)), (.c (sl 1 csB a0.Fixed)), (.c (sl 1 (csF .f32) a0.Lengths)), (.c (.flt .f32 a0.Fall.X.bits)), (.c (.flt .f32 a0.Fall.Y.bits)), (.c (.flt .f32 a0.Fall.Z.bits)), (.c (.flt .f32 a0.Damp.bits)), (.c (.int .i64 a0.Passes))])), (2, (.box [.nils, .nils, .nils, .nils, (.c (.flt .f32 (default : F32).bits)), (.c (.flt .f32 (default : F32).bits)), (.c (.flt .f32 (default : F32).bits)), (.c (.flt .f32 (default : F32).bits)), (.c (.int .i64 (0 : Int)))]))]⟩ (Tt ∧ T2 Tt) [.box 1, .box 2] [1, 2] [1, 2] ⟨tr, tr, tr, tr⟩ (thenQ_normal ?_))
  refine AW.seq ?_
  obtain ⟨v1, e2, h⟩ := bind_some h
  refine AW.rA ⟨[(2, (vp 2 0)), (3, (vc (.bool v1.2)))], [(2, (.box [(.lst 3 v1.1.Points.length 3 (gl cs_Vector v1.1.Points)), (.lst 4 v1.1.Before.length 3 (gl cs_Vector v1.1.Before)), (.lst 5 v1.1.Fixed.length 1 (gl csB v1.1.Fixed)), (.lst 6 v1.1.Lengths.length 1 (gl (csF .f32) v1.1.Lengths)), (.c (.flt .f32 v1.1.Fall.X.bits)), (.c (.flt .f32 v1.1.Fall.Y.bits)), (.c (.flt .f32 v1.1.Fall.Z.bits)), (.c (.flt .f32 v1.1.Damp.bits)), (.c (.int .i64 v1.1.Passes))])), (3, (.lst v1.1.Points.length 3 (gl cs_Vector v1.1.Points))), (4, (.lst v1.1.Before.length 3 (gl cs_Vector v1.1.Before))), (5, (.lst v1.1.Fixed.length 1 (gl csB v1.1.Fixed))), (6, (.lst v1.1.Lengths.length 1 (gl (csF .f32) v1.1.Lengths)))]⟩ (Tt ∧ ((((Eqc (sl 3 cs_Vector a0.Points)) ∧ (Eqc (sl 3 cs_Vector a0.Before)) ∧ (Eqc (sl 1 csB a0.Fixed)) ∧ (Eqc (sl 1 (csF .f32) a0.Lengths)) ∧ (Eqc (.flt .f32 a0.Fall.X.bits)) ∧ (Eqc (.flt .f32 a0.Fall.Y.bits)) ∧ (Eqc (.flt .f32 a0.Fall.Z.bits)) ∧ (Eqc (.flt .f32 a0.Damp.bits)) ∧ (Eqc (.int .i64 a0.Passes)) ∧ Tt) ∧ (Eqc (.int .i64 (1 : Int))) ∧ Tt) ∧ CallOK Try.prog 20 [.agg (cs_String a0), .one (.int .i64 (1 : Int))] [.agg (cs_String v1.1), .one (.bool v1.2)]) ∧ T4 Tt) [.no, .call [.agg (cs_String a0), .one (.int .i64 (1 : Int))] [.agg (cs_String v1.1), .one (.bool v1.2)] [[.lst 3, .lst 4, .lst 5, .lst 6, .view, .view, .view, .view, .view], [.view]]] [2, 3] [2, 3, 4, 5, 6] ⟨tr, ⟨⟨⟨rfl, rfl, rfl, rfl, rfl, rfl, rfl, rfl, rfl, tr⟩, rfl, tr⟩, ok_impl_RunString K a0 (1 : Int) v1 e2⟩, tr, tr, tr, tr, tr⟩ ?_
  refine thenQ_normal ?_
  refine AW.ret ?_
  replace h := some_eq h
  subst h
  exact ⟨.inr rfl, retOK_of [(.agg [(.lst 3 v1.1.Points.length 3 (gl cs_Vector v1.1.Points)), (.lst 4 v1.1.Before.length 3 (gl cs_Vector v1.1.Before)), (.lst 5 v1.1.Fixed.length 1 (gl csB v1.1.Fixed)), (.lst 6 v1.1.Lengths.length 1 (gl (csF .f32) v1.1.Lengths)), (.c (.flt .f32 v1.1.Fall.X.bits)), (.c (.flt .f32 v1.1.Fall.Y.bits)), (.c (.flt .f32 v1.1.Fall.Z.bits)), (.c (.flt .f32 v1.1.Damp.bits)), (.c (.int .i64 v1.1.Passes))]), (.one (.c (.bool v1.2)))] (by kernel_rfl) ⟨⟨rfl, rfl, rfl, rfl, ⟨rfl, tr⟩, ⟨rfl, tr⟩, ⟨rfl, tr⟩, ⟨rfl, tr⟩, ⟨rfl, tr⟩, tr⟩, ⟨rfl, tr⟩, tr⟩ (of_decide_eq_true (by kernel_rfl))⟩

/-! laws.sameFloat -/
def laws_sameFloat (_K : Nat) (a0 : F64) (a1 : F64) : Option (Bool) :=
  (ite2 ((a0.ne a0)) (some true) (some (a1.ne a1))).bind fun j2 => ite2 (j2) ((ite2 ((a0.ne a0)) (some (a1.ne a1)) (some false)).bind fun j6 => some j6) ((ite2 ((a0.eq (Fl.mk (k := .f64) 0 (by decide)))) (some (a1.eq (Fl.mk (k := .f64) 0 (by decide)))) (some false)).bind fun j9 => ite2 (j9) (some ((((Fl.mk (k := .f64) 4607182418800017408 (by decide)).div a0).gt (Fl.mk (k := .f64) 0 (by decide))) == (((Fl.mk (k := .f64) 4607182418800017408 (by decide)).div a1).gt (Fl.mk (k := .f64) 0 (by decide))))) (some (a0.eq a1)))

theorem ok_laws_sameFloat (K : Nat) (a0 : F64) (a1 : F64) (o : (Bool)) (h : laws_sameFloat K a0 a1 = some o) : CallOK Try.prog 25 [.one (.flt .f64 a0.bits), .one (.flt .f64 a1.bits)] [.one (.bool o)] := by
  refine callOK_of_AW Try.func25 rfl (by kernel_rfl) (Nat.le_of_ble_eq_true (by kernel_rfl)) ?_
  intro w0
  unfold laws_sameFloat at h
  refine AW.seq (AW.rA ⟨[(0, (vc (.flt .f64 a0.bits))), (1, (vc (.flt .f64 a1.bits)))], []⟩ (Tt ∧ Tt) [] [0, 1] [] ⟨tr, tr⟩ (thenQ_normal ?_))
  refine AW.seq ?_
  refine AW.seq ?_
  obtain ⟨j2, e3, h⟩ := bind_some h
  refine AW.join1 (s2 := ⟨[(0, (vc (.flt .f64 a0.bits))), (1, (vc (.flt .f64 a1.bits))), (12, (vc (.bool j2)))], []⟩) ?_ ?_
  · rcases ite2_cases e3 with ⟨b1, e3⟩ | ⟨b1, e3⟩
    · replace e3 := some_eq e3
      subst e3
      exact AW.rA ⟨[(0, (vc (.flt .f64 a0.bits))), (1, (vc (.flt .f64 a1.bits))), (12, (vc (.bool true)))], []⟩ (Tt ∧ T2 ((Tt ∧ (a0.ne a0) = true) ∧ T4 Tt)) [.no, .no, .no, .dec true] [0, 1, 12] [] ⟨tr, tr, tr, ⟨tr, b1⟩, tr, tr, tr, tr, tr⟩ ⟨rfl, rfl⟩
    · replace e3 := some_eq e3
      subst e3
      exact AW.rA ⟨[(0, (vc (.flt .f64 a0.bits))), (1, (vc (.flt .f64 a1.bits))), (12, (vc (.bool (a1.ne a1))))], []⟩ (Tt ∧ T2 ((Tt ∧ (a0.ne a0) = false) ∧ T4 Tt)) [.no, .no, .no, .dec false] [0, 1, 12] [] ⟨tr, tr, tr, ⟨tr, b1⟩, tr, tr, tr, tr, tr⟩ ⟨rfl, rfl⟩
  refine thenQ_normal ?_
  rcases ite2_cases h with ⟨b4, h⟩ | ⟨b4, h⟩
  · refine AW.cond_t rfl b4 ?_
    refine AW.seq ?_
    obtain ⟨j6, e7, h⟩ := bind_some h
    refine AW.join1 (s2 := ⟨[(4, (vc (.bool j6)))], []⟩) ?_ ?_
    · rcases ite2_cases e7 with ⟨b5, e7⟩ | ⟨b5, e7⟩
      · replace e7 := some_eq e7
        subst e7
        exact AW.rA ⟨[(4, (vc (.bool (a1.ne a1))))], []⟩ (Tt ∧ T2 ((Tt ∧ (a0.ne a0) = true) ∧ Tt ∧ T4 Tt)) [.no, .no, .no, .dec true] [4] [] ⟨tr, tr, tr, ⟨tr, b5⟩, tr, tr, tr, tr, tr, tr⟩ ⟨rfl, rfl⟩
      · replace e7 := some_eq e7
        subst e7
        exact AW.rA ⟨[(4, (vc (.bool false)))], []⟩ (Tt ∧ T2 ((Tt ∧ (a0.ne a0) = false) ∧ Tt ∧ T4 Tt)) [.no, .no, .no, .dec false] [4] [] ⟨tr, tr, tr, ⟨tr, b5⟩, tr, tr, tr, tr, tr, tr⟩ ⟨rfl, rfl⟩
    refine thenQ_normal ?_
    refine AW.ret ?_
    refine thenQ_ret ?_
    replace h := some_eq h
    subst h
    exact ⟨.inr rfl, retOK_of [(.one (.c (.bool j6)))] (by kernel_rfl) ⟨⟨rfl, tr⟩, tr⟩ (of_decide_eq_true (by kernel_rfl))⟩
  · refine AW.cond_f rfl b4 ?_
    refine AW.skip ?_
    refine thenQ_normal ?_
    refine AW.seq ?_
    refine AW.seq ?_
    obtain ⟨j9, e10, h⟩ := bind_some h
    refine AW.join1 (s2 := ⟨[(0, (vc (.flt .f64 a0.bits))), (1, (vc (.flt .f64 a1.bits))), (26, (vc (.bool j9)))], []⟩) ?_ ?_
    · rcases ite2_cases e10 with ⟨b8, e10⟩ | ⟨b8, e10⟩
      · replace e10 := some_eq e10
        subst e10
        exact AW.rA ⟨[(0, (vc (.flt .f64 a0.bits))), (1, (vc (.flt .f64 a1.bits))), (26, (vc (.bool (a1.eq (Fl.mk (k := .f64) 0 (by decide))))))], []⟩ (T2 ((Tt ∧ (a0.eq (Fl.mk (k := .f64) 0 (by decide))) = true) ∧ Tt ∧ T2 Tt)) [.no, .no, .dec true] [0, 1, 26] [] ⟨tr, tr, ⟨tr, b8⟩, tr, tr, tr, tr⟩ ⟨rfl, rfl⟩
      · replace e10 := some_eq e10
        subst e10
        exact AW.rA ⟨[(0, (vc (.flt .f64 a0.bits))), (1, (vc (.flt .f64 a1.bits))), (26, (vc (.bool false)))], []⟩ (T2 ((Tt ∧ (a0.eq (Fl.mk (k := .f64) 0 (by decide))) = false) ∧ Tt ∧ T2 Tt)) [.no, .no, .dec false] [0, 1, 26] [] ⟨tr, tr, ⟨tr, b8⟩, tr, tr, tr, tr⟩ ⟨rfl, rfl⟩
    refine thenQ_normal ?_
    rcases ite2_cases h with ⟨b11, h⟩ | ⟨b11, h⟩
    · refine AW.cond_t rfl b11 ?_
      refine AW.seq (AW.rA ⟨[(4, (vc (.bool ((((Fl.mk (k := .f64) 4607182418800017408 (by decide)).div a0).gt (Fl.mk (k := .f64) 0 (by decide))) == (((Fl.mk (k := .f64) 4607182418800017408 (by decide)).div a1).gt (Fl.mk (k := .f64) 0 (by decide)))))))], []⟩ (T4 (T4 Tt)) [] [4] [] ⟨tr, tr, tr, tr, tr, tr, tr, tr, tr⟩ (thenQ_normal ?_))
      refine AW.ret ?_
      refine thenQ_ret ?_
      replace h := some_eq h
      subst h
      exact ⟨.inr rfl, retOK_of [(.one (.c (.bool ((((Fl.mk (k := .f64) 4607182418800017408 (by decide)).div a0).gt (Fl.mk (k := .f64) 0 (by decide))) == (((Fl.mk (k := .f64) 4607182418800017408 (by decide)).div a1).gt (Fl.mk (k := .f64) 0 (by decide)))))))] (by kernel_rfl) ⟨⟨rfl, tr⟩, tr⟩ (of_decide_eq_true (by kernel_rfl))⟩
    · refine AW.cond_f rfl b11 ?_
      refine AW.skip ?_
      refine thenQ_normal ?_
      refine AW.seq (AW.rA ⟨[(4, (vc (.bool (a0.eq a1))))], []⟩ (T4 Tt) [] [4] [] ⟨tr, tr, tr, tr, tr⟩ (thenQ_normal ?_))
      refine AW.ret ?_
      replace h := some_eq h
      subst h
      exact ⟨.inr rfl, retOK_of [(.one (.c (.bool (a0.eq a1))))] (by kernel_rfl) ⟨⟨rfl, tr⟩, tr⟩ (of_decide_eq_true (by kernel_rfl))⟩

/-! laws.eqVector -/
def laws_eqVector (K : Nat) (a0 : Vector) (a1 : Vector) : Option (Bool) :=
  (laws_sameFloat K (Fl.cv .f32 .f64 a0.X) (Fl.cv .f32 .f64 a1.X)).bind fun v1 => ite2 ((!v1)) (some false) ((laws_sameFloat K (Fl.cv .f32 .f64 a0.Y) (Fl.cv .f32 .f64 a1.Y)).bind fun v4 => ite2 ((!v4)) (some false) ((laws_sameFloat K (Fl.cv .f32 .f64 a0.Z) (Fl.cv .f32 .f64 a1.Z)).bind fun v7 => ite2 ((!v7)) (some false) (some true)))

theorem ok_laws_eqVector (K : Nat) (a0 : Vector) (a1 : Vector) (o : (Bool)) (h : laws_eqVector K a0 a1 = some o) : CallOK Try.prog 24 [.agg (cs_Vector a0), .agg (cs_Vector a1)] [.one (.bool o)] := by
  refine callOK_of_AW Try.func24 rfl (by kernel_rfl) (Nat.le_of_ble_eq_true (by kernel_rfl)) ?_
  intro w0
  unfold laws_eqVector at h
  refine AW.seq (AW.rA ⟨[(2, (vp 1 0)), (3, (vp 2 0))], [(1, (.box [(.c (.flt .f32 a0.X.bits)), (.c (.flt .f32 a0.Y.bits)), (.c (.flt .f32 a0.Z.bits))])), (2, (.box [(.c (.flt .f32 a1.X.bits)), (.c (.flt .f32 a1.Y.bits)), (.c (.flt .f32 a1.Z.bits))]))]⟩ (Tt ∧ T2 Tt) [.box 1, .box 2] [2, 3] [1, 2] ⟨tr, tr, tr, tr⟩ (thenQ_normal ?_))
  refine AW.seq ?_
  refine AW.seq ?_
  obtain ⟨v1, e2, h⟩ := bind_some h
  refine AW.rA ⟨[(2, (vp 1 0)), (3, (vp 2 0)), (12, (vc (.bool (!v1))))], [(1, (.box [(.c (.flt .f32 a0.X.bits)), (.c (.flt .f32 a0.Y.bits)), (.c (.flt .f32 a0.Z.bits))])), (2, (.box [(.c (.flt .f32 a1.X.bits)), (.c (.flt .f32 a1.Y.bits)), (.c (.flt .f32 a1.Z.bits))]))]⟩ (T2 (((convBits .f32 a0.X.bits .f64).isSome = true) ∧ T2 (((convBits .f32 a1.X.bits .f64).isSome = true) ∧ (((Eqc (.flt .f64 (Fl.cv .f32 .f64 a0.X).bits)) ∧ (Eqc (.flt .f64 (Fl.cv .f32 .f64 a1.X).bits)) ∧ Tt) ∧ CallOK Try.prog 25 [.one (.flt .f64 (Fl.cv .f32 .f64 a0.X).bits), .one (.flt .f64 (Fl.cv .f32 .f64 a1.X).bits)] [.one (.bool v1)]) ∧ Tt ∧ Tt))) [.no, .no, .no, .no, .no, .no, .call [.one (.flt .f64 (Fl.cv .f32 .f64 a0.X).bits), .one (.flt .f64 (Fl.cv .f32 .f64 a1.X).bits)] [.one (.bool v1)] [[.view]]] [2, 3, 12] [1, 2] ⟨tr, tr, cv_wide a0.X, tr, tr, cv_wide a1.X, ⟨⟨rfl, rfl, tr⟩, ok_laws_sameFloat K (Fl.cv .f32 .f64 a0.X) (Fl.cv .f32 .f64 a1.X) v1 e2⟩, tr, tr⟩ ?_
  refine thenQ_normal ?_
  rcases ite2_cases h with ⟨b3, h⟩ | ⟨b3, h⟩
  · refine AW.cond_t rfl b3 ?_
    refine AW.seq (AW.rA ⟨[(4, (vc (.bool false)))], []⟩ (Tt ∧ Tt) [] [4] [] ⟨tr, tr⟩ (thenQ_normal ?_))
    refine AW.ret ?_
    refine thenQ_ret ?_
    replace h := some_eq h
    subst h
    exact ⟨.inr rfl, retOK_of [(.one (.c (.bool false)))] (by kernel_rfl) ⟨⟨rfl, tr⟩, tr⟩ (of_decide_eq_true (by kernel_rfl))⟩
  · refine AW.cond_f rfl b3 ?_
    refine AW.skip ?_
    refine thenQ_normal ?_
    refine AW.seq ?_
    refine AW.seq ?_
    obtain ⟨v4, e5, h⟩ := bind_some h
    refine AW.rA ⟨[(2, (vp 1 0)), (3, (vp 2 0)), (20, (vc (.bool (!v4))))], [(1, (.box [(.c (.flt .f32 a0.X.bits)), (.c (.flt .f32 a0.Y.bits)), (.c (.flt .f32 a0.Z.bits))])), (2, (.box [(.c (.flt .f32 a1.X.bits)), (.c (.flt .f32 a1.Y.bits)), (.c (.flt .f32 a1.Z.bits))]))]⟩ (T2 (((convBits .f32 a0.Y.bits .f64).isSome = true) ∧ T2 (((convBits .f32 a1.Y.bits .f64).isSome = true) ∧ (((Eqc (.flt .f64 (Fl.cv .f32 .f64 a0.Y).bits)) ∧ (Eqc (.flt .f64 (Fl.cv .f32 .f64 a1.Y).bits)) ∧ Tt) ∧ CallOK Try.prog 25 [.one (.flt .f64 (Fl.cv .f32 .f64 a0.Y).bits), .one (.flt .f64 (Fl.cv .f32 .f64 a1.Y).bits)] [.one (.bool v4)]) ∧ Tt ∧ Tt))) [.no, .no, .no, .no, .no, .no, .call [.one (.flt .f64 (Fl.cv .f32 .f64 a0.Y).bits), .one (.flt .f64 (Fl.cv .f32 .f64 a1.Y).bits)] [.one (.bool v4)] [[.view]]] [2, 3, 20] [1, 2] ⟨tr, tr, cv_wide a0.Y, tr, tr, cv_wide a1.Y, ⟨⟨rfl, rfl, tr⟩, ok_laws_sameFloat K (Fl.cv .f32 .f64 a0.Y) (Fl.cv .f32 .f64 a1.Y) v4 e5⟩, tr, tr⟩ ?_
    refine thenQ_normal ?_
    rcases ite2_cases h with ⟨b6, h⟩ | ⟨b6, h⟩
    · refine AW.cond_t rfl b6 ?_
      refine AW.seq (AW.rA ⟨[(4, (vc (.bool false)))], []⟩ (Tt ∧ Tt) [] [4] [] ⟨tr, tr⟩ (thenQ_normal ?_))
      refine AW.ret ?_
      refine thenQ_ret ?_
      replace h := some_eq h
      subst h
      exact ⟨.inr rfl, retOK_of [(.one (.c (.bool false)))] (by kernel_rfl) ⟨⟨rfl, tr⟩, tr⟩ (of_decide_eq_true (by kernel_rfl))⟩
    · refine AW.cond_f rfl b6 ?_
      refine AW.skip ?_
      refine thenQ_normal ?_
      refine AW.seq ?_
      refine AW.seq ?_
      obtain ⟨v7, e8, h⟩ := bind_some h
      refine AW.rA ⟨[(28, (vc (.bool (!v7))))], []⟩ (T2 (((convBits .f32 a0.Z.bits .f64).isSome = true) ∧ T2 (((convBits .f32 a1.Z.bits .f64).isSome = true) ∧ (((Eqc (.flt .f64 (Fl.cv .f32 .f64 a0.Z).bits)) ∧ (Eqc (.flt .f64 (Fl.cv .f32 .f64 a1.Z).bits)) ∧ Tt) ∧ CallOK Try.prog 25 [.one (.flt .f64 (Fl.cv .f32 .f64 a0.Z).bits), .one (.flt .f64 (Fl.cv .f32 .f64 a1.Z).bits)] [.one (.bool v7)]) ∧ Tt ∧ Tt))) [.no, .no, .no, .no, .no, .no, .call [.one (.flt .f64 (Fl.cv .f32 .f64 a0.Z).bits), .one (.flt .f64 (Fl.cv .f32 .f64 a1.Z).bits)] [.one (.bool v7)] [[.view]]] [28] [] ⟨tr, tr, cv_wide a0.Z, tr, tr, cv_wide a1.Z, ⟨⟨rfl, rfl, tr⟩, ok_laws_sameFloat K (Fl.cv .f32 .f64 a0.Z) (Fl.cv .f32 .f64 a1.Z) v7 e8⟩, tr, tr⟩ ?_
      refine thenQ_normal ?_
      rcases ite2_cases h with ⟨b9, h⟩ | ⟨b9, h⟩
      · refine AW.cond_t rfl b9 ?_
        refine AW.seq (AW.rA ⟨[(4, (vc (.bool false)))], []⟩ (Tt ∧ Tt) [] [4] [] ⟨tr, tr⟩ (thenQ_normal ?_))
        refine AW.ret ?_
        refine thenQ_ret ?_
        replace h := some_eq h
        subst h
        exact ⟨.inr rfl, retOK_of [(.one (.c (.bool false)))] (by kernel_rfl) ⟨⟨rfl, tr⟩, tr⟩ (of_decide_eq_true (by kernel_rfl))⟩
      · refine AW.cond_f rfl b9 ?_
        refine AW.skip ?_
        refine thenQ_normal ?_
        refine AW.seq (AW.rA ⟨[(4, (vc (.bool true)))], []⟩ (Tt ∧ Tt) [] [4] [] ⟨tr, tr⟩ (thenQ_normal ?_))
        refine AW.ret ?_
        replace h := some_eq h
        subst h
        exact ⟨.inr rfl, retOK_of [(.one (.c (.bool true)))] (by kernel_rfl) ⟨⟨rfl, tr⟩, tr⟩ (of_decide_eq_true (by kernel_rfl))⟩

/-! laws.eqVectorS -/
def laws_eqVectorS_l1 (K : Nat) (a0 : (List Vector)) (a1 : (List Vector)) : Nat → Int → Option (Bool)
  | 0, _ => none
  | k + 1, x3 => ite2 ((decide (x3 < (a0.length : Int)))) (chk (0 ≤ x3 ∧ x3 < (a0.length : Int)) (chk (0 ≤ x3 ∧ x3 < (a1.length : Int)) ((laws_eqVector K (a0.getD x3.toNat default) (a1.getD x3.toNat default)).bind fun v7 => ite2 ((!v7)) (some false) (laws_eqVectorS_l1 K a0 a1 k (IntKind.i64.wrap (x3 + (1 : Int))))))) (some true)

def laws_eqVectorS (K : Nat) (a0 : (List Vector)) (a1 : (List Vector)) : Option (Bool) :=
  ite2 (((a0.length : Int) != (a1.length : Int))) (some false) (laws_eqVectorS_l1 K a0 a1 K (0 : Int))

theorem ok_laws_eqVectorS (K : Nat) (a0 : (List Vector)) (a1 : (List Vector)) (o : (Bool)) (h : laws_eqVectorS K a0 a1 = some o) : CallOK Try.prog 21 [.one (sl 3 cs_Vector a0), .one (sl 3 cs_Vector a1)] [.one (.bool o)] := by
  refine callOK_of_AW Try.func21 rfl (by kernel_rfl) (Nat.le_of_ble_eq_true (by kernel_rfl)) ?_
  intro w0
  unfold laws_eqVectorS at h
  refine AW.seq (AW.rA ⟨[(0, (vc (sl 3 cs_Vector a0))), (1, (vc (sl 3 cs_Vector a1)))], []⟩ (Tt ∧ Tt) [] [0, 1] [] ⟨tr, tr⟩ (thenQ_normal ?_))
  refine AW.seq ?_
  refine AW.seq (AW.rA ⟨[(0, (vc (sl 3 cs_Vector a0))), (1, (vc (sl 3 cs_Vector a1))), (10, (vc (.bool ((a0.length : Int) != (a1.length : Int)))))], []⟩ (Tt ∧ T4 Tt) [] [0, 1, 10] [] ⟨tr, tr, tr, tr, tr, tr⟩ (thenQ_normal ?_))
  rcases ite2_cases h with ⟨b1, h⟩ | ⟨b1, h⟩
  · refine AW.cond_t rfl b1 ?_
    refine AW.seq (AW.rA ⟨[(4, (vc (.bool false)))], []⟩ (Tt ∧ Tt) [] [4] [] ⟨tr, tr⟩ (thenQ_normal ?_))
    refine AW.ret ?_
    refine thenQ_ret ?_
    replace h := some_eq h
    subst h
    exact ⟨.inr rfl, retOK_of [(.one (.c (.bool false)))] (by kernel_rfl) ⟨⟨rfl, tr⟩, tr⟩ (of_decide_eq_true (by kernel_rfl))⟩
  · refine AW.cond_f rfl b1 ?_
    refine AW.skip ?_
    refine thenQ_normal ?_
    refine AW.seq ?_
    refine AW.seq (AW.rA ⟨[(0, (vc (sl 3 cs_Vector a0))), (1, (vc (sl 3 cs_Vector a1))), (5, (vc (.int .i64 (0 : Int))))], []⟩ (Tt ∧ Tt) [] [0, 1, 5] [] ⟨tr, tr⟩ (thenQ_normal ?_))
    refine AW.block ?_
    refine AW.loopQ (σ := Nat × Int) (fun p => ⟨[(0, (vc (sl 3 cs_Vector a0))), (1, (vc (sl 3 cs_Vector a1))), (5, (vc (.int .i64 p.2)))], []⟩) (fun p => laws_eqVectorS_l1 K a0 a1 p.1 p.2 = some o) (fun p => p.1) (K, (0 : Int)) h ?_
    clear h
    rintro ⟨k, x3⟩ h
    replace h : laws_eqVectorS_l1 K a0 a1 k x3 = some o := h
    show AW _ _ (⟨[(0, (vc (sl 3 cs_Vector a0))), (1, (vc (sl 3 cs_Vector a1))), (5, (vc (.int .i64 x3)))], []⟩ : St) _
    obtain _ | k := k
    · rw [laws_eqVectorS_l1] at h; cases h
    rw [laws_eqVectorS_l1] at h
    refine AW.seq ?_
    refine AW.seq (AW.rA ⟨[(0, (vc (sl 3 cs_Vector a0))), (1, (vc (sl 3 cs_Vector a1))), (5, (vc (.int .i64 x3))), (14, (vc (.bool (decide (x3 < (a0.length : Int))))))], []⟩ (T4 Tt) [] [0, 1, 5, 14] [] ⟨tr, tr, tr, tr, tr⟩ (thenQ_normal ?_))
    rcases ite2_cases h with ⟨b4, h⟩ | ⟨b4, h⟩
    · refine AW.cond_t rfl b4 ?_
      refine AW.skip ?_
      refine thenQ_normal ?_
      refine AW.seq ?_
      refine AW.block ?_
      refine AW.seq ?_
      obtain ⟨c5, h⟩ := chk_some h
      obtain ⟨c6, h⟩ := chk_some h
      obtain ⟨v7, e8, h⟩ := bind_some h
      refine AW.dA ⟨[(0, (vc (sl 3 cs_Vector a0))), (1, (vc (sl 3 cs_Vector a1))), (5, (vc (.int .i64 x3))), (26, (vc (.bool (!v7))))], []⟩ ((T2 ((0 ≤ x3 ∧ x3 < (a0.length : Int)) ∧ Tt ∧ T2 ((0 ≤ x3 ∧ x3 < (a1.length : Int)) ∧ Tt ∧ ((((Eqc (.flt .f32 ((a0.getD x3.toNat default).X).bits)) ∧ (Eqc (.flt .f32 ((a0.getD x3.toNat default).Y).bits)) ∧ (Eqc (.flt .f32 ((a0.getD x3.toNat default).Z).bits)) ∧ Tt) ∧ ((Eqc (.flt .f32 ((a1.getD x3.toNat default).X).bits)) ∧ (Eqc (.flt .f32 ((a1.getD x3.toNat default).Y).bits)) ∧ (Eqc (.flt .f32 ((a1.getD x3.toNat default).Z).bits)) ∧ Tt) ∧ Tt) ∧ CallOK Try.prog 24 [.agg (cs_Vector (a0.getD x3.toNat default)), .agg (cs_Vector (a1.getD x3.toNat default))] [.one (.bool v7)]) ∧ Tt ∧ Tt))) ∧ (Tt)) 10 [.no, .no, .no, .no, .no, .no, .no, .no, .call [.agg (cs_Vector (a0.getD x3.toNat default)), .agg (cs_Vector (a1.getD x3.toNat default))] [.one (.bool v7)] [[.view]]] [0, 1, 5, 26] [] ⟨⟨tr, tr, c5, tr, tr, tr, c6, tr, ⟨⟨⟨rfl, rfl, rfl, tr⟩, ⟨rfl, rfl, rfl, tr⟩, tr⟩, ok_laws_eqVector K (a0.getD x3.toNat default) (a1.getD x3.toNat default) v7 e8⟩, tr, tr⟩, tr⟩ ?_
      refine thenQ_normal ?_
      rcases ite2_cases h with ⟨b9, h⟩ | ⟨b9, h⟩
      · refine AW.cond_t rfl b9 ?_
        refine AW.seq (AW.rA ⟨[(4, (vc (.bool false)))], []⟩ (Tt ∧ Tt) [] [4] [] ⟨tr, tr⟩ (thenQ_normal ?_))
        refine AW.ret ?_
        refine blockQ_ret ?_
        refine thenQ_ret ?_
        refine loopQ_ret ?_
        refine blockQ_ret ?_
        refine thenQ_ret ?_
        replace h := some_eq h
        subst h
        exact ⟨.inr rfl, retOK_of [(.one (.c (.bool false)))] (by kernel_rfl) ⟨⟨rfl, tr⟩, tr⟩ (of_decide_eq_true (by kernel_rfl))⟩
      · refine AW.cond_f rfl b9 ?_
        refine AW.skip ?_
        refine blockQ_normal ?_
        refine thenQ_normal ?_
        refine AW.rA ⟨[(0, (vc (sl 3 cs_Vector a0))), (1, (vc (sl 3 cs_Vector a1))), (5, (vc (.int .i64 (IntKind.i64.wrap (x3 + (1 : Int))))))], []⟩ (Tt ∧ T2 Tt) [] [0, 1, 5] [] ⟨tr, tr, tr, tr⟩ ?_
        exact loopQ_normal (k, (IntKind.i64.wrap (x3 + (1 : Int)))) h (Nat.lt_succ_self k) (Sub.keep [0, 1, 5] [] (by kernel_rfl) (by kernel_rfl))
    · refine AW.cond_f rfl b4 ?_
      refine AW.exit ?_
      refine thenQ_exit ?_
      refine loopQ_exit ?_
      refine blockQ_exit ?_
      refine thenQ_normal ?_
      refine AW.seq (AW.rA ⟨[(4, (vc (.bool true)))], []⟩ (Tt ∧ Tt) [] [4] [] ⟨tr, tr⟩ (thenQ_normal ?_))
      refine AW.ret ?_
      replace h := some_eq h
      subst h
      exact ⟨.inr rfl, retOK_of [(.one (.c (.bool true)))] (by kernel_rfl) ⟨⟨rfl, tr⟩, tr⟩ (of_decide_eq_true (by kernel_rfl))⟩

/-! laws.eqBoolS -/
def laws_eqBoolS_l1 (K : Nat) (a0 : (List Bool)) (a1 : (List Bool)) : Nat → Int → Option (Bool)
  | 0, _ => none
  | k + 1, x3 => ite2 ((decide (x3 < (a0.length : Int)))) (chk (0 ≤ x3 ∧ x3 < (a0.length : Int)) (chk (0 ≤ x3 ∧ x3 < (a1.length : Int)) (ite2 ((!((a0.getD x3.toNat default) == (a1.getD x3.toNat default)))) (some false) (laws_eqBoolS_l1 K a0 a1 k (IntKind.i64.wrap (x3 + (1 : Int))))))) (some true)

def laws_eqBoolS (K : Nat) (a0 : (List Bool)) (a1 : (List Bool)) : Option (Bool) :=
  ite2 (((a0.length : Int) != (a1.length : Int))) (some false) (laws_eqBoolS_l1 K a0 a1 K (0 : Int))

theorem ok_laws_eqBoolS (K : Nat) (a0 : (List Bool)) (a1 : (List Bool)) (o : (Bool)) (h : laws_eqBoolS K a0 a1 = some o) : CallOK Try.prog 22 [.one (sl 1 csB a0), .one (sl 1 csB a1)] [.one (.bool o)] := by
  refine callOK_of_AW Try.func22 rfl (by kernel_rfl) (Nat.le_of_ble_eq_true (by kernel_rfl)) ?_
  intro w0
  unfold laws_eqBoolS at h
  refine AW.seq (AW.rA ⟨[(0, (vc (sl 1 csB a0))), (1, (vc (sl 1 csB a1)))], []⟩ (Tt ∧ Tt) [] [0, 1] [] ⟨tr, tr⟩ (thenQ_normal ?_))
  refine AW.seq ?_
  refine AW.seq (AW.rA ⟨[(0, (vc (sl 1 csB a0))), (1, (vc (sl 1 csB a1))), (10, (vc (.bool ((a0.length : Int) != (a1.length : Int)))))], []⟩ (Tt ∧ T4 Tt) [] [0, 1, 10] [] ⟨tr, tr, tr, tr, tr, tr⟩ (thenQ_normal ?_))
  rcases ite2_cases h with ⟨b1, h⟩ | ⟨b1, h⟩
  · refine AW.cond_t rfl b1 ?_
    refine AW.seq (AW.rA ⟨[(4, (vc (.bool false)))], []⟩ (Tt ∧ Tt) [] [4] [] ⟨tr, tr⟩ (thenQ_normal ?_))
    refine AW.ret ?_
    refine thenQ_ret ?_
    replace h := some_eq h
    subst h
    exact ⟨.inr rfl, retOK_of [(.one (.c (.bool false)))] (by kernel_rfl) ⟨⟨rfl, tr⟩, tr⟩ (of_decide_eq_true (by kernel_rfl))⟩
  · refine AW.cond_f rfl b1 ?_
    refine AW.skip ?_
    refine thenQ_normal ?_
    refine AW.seq ?_
    refine AW.seq (AW.rA ⟨[(0, (vc (sl 1 csB a0))), (1, (vc (sl 1 csB a1))), (5, (vc (.int .i64 (0 : Int))))], []⟩ (Tt ∧ Tt) [] [0, 1, 5] [] ⟨tr, tr⟩ (thenQ_normal ?_))
    refine AW.block ?_
    refine AW.loopQ (σ := Nat × Int) (fun p => ⟨[(0, (vc (sl 1 csB a0))), (1, (vc (sl 1 csB a1))), (5, (vc (.int .i64 p.2)))], []⟩) (fun p => laws_eqBoolS_l1 K a0 a1 p.1 p.2 = some o) (fun p => p.1) (K, (0 : Int)) h ?_
    clear h
    rintro ⟨k, x3⟩ h
    replace h : laws_eqBoolS_l1 K a0 a1 k x3 = some o := h
    show AW _ _ (⟨[(0, (vc (sl 1 csB a0))), (1, (vc (sl 1 csB a1))), (5, (vc (.int .i64 x3)))], []⟩ : St) _
    obtain _ | k := k
    · rw [laws_eqBoolS_l1] at h; cases h
    rw [laws_eqBoolS_l1] at h
    refine AW.seq ?_
    refine AW.seq (AW.rA ⟨[(0, (vc (sl 1 csB a0))), (1, (vc (sl 1 csB a1))), (5, (vc (.int .i64 x3))), (14, (vc (.bool (decide (x3 < (a0.length : Int))))))], []⟩ (T4 Tt) [] [0, 1, 5, 14] [] ⟨tr, tr, tr, tr, tr⟩ (thenQ_normal ?_))
    rcases ite2_cases h with ⟨b4, h⟩ | ⟨b4, h⟩
    · refine AW.cond_t rfl b4 ?_
      refine AW.skip ?_
      refine thenQ_normal ?_
      refine AW.seq ?_
      refine AW.block ?_
      refine AW.seq ?_
      obtain ⟨c5, h⟩ := chk_some h
      obtain ⟨c6, h⟩ := chk_some h
      refine AW.dA ⟨[(0, (vc (sl 1 csB a0))), (1, (vc (sl 1 csB a1))), (5, (vc (.int .i64 x3))), (25, (vc (.bool (!((a0.getD x3.toNat default) == (a1.getD x3.toNat default))))))], []⟩ ((T2 ((0 ≤ x3 ∧ x3 < (a0.length : Int)) ∧ Tt ∧ T2 ((0 ≤ x3 ∧ x3 < (a1.length : Int)) ∧ T2 Tt))) ∧ (Tt)) 9 [] [0, 1, 5, 25] [] ⟨⟨tr, tr, c5, tr, tr, tr, c6, tr, tr, tr⟩, tr⟩ ?_
      refine thenQ_normal ?_
      rcases ite2_cases h with ⟨b7, h⟩ | ⟨b7, h⟩
      · refine AW.cond_t rfl b7 ?_
        refine AW.seq (AW.rA ⟨[(4, (vc (.bool false)))], []⟩ (Tt ∧ Tt) [] [4] [] ⟨tr, tr⟩ (thenQ_normal ?_))
        refine AW.ret ?_
        refine blockQ_ret ?_
        refine thenQ_ret ?_
        refine loopQ_ret ?_
        refine blockQ_ret ?_
        refine thenQ_ret ?_
        replace h := some_eq h
        subst h
        exact ⟨.inr rfl, retOK_of [(.one (.c (.bool false)))] (by kernel_rfl) ⟨⟨rfl, tr⟩, tr⟩ (of_decide_eq_true (by kernel_rfl))⟩
      · refine AW.cond_f rfl b7 ?_
        refine AW.skip ?_
        refine blockQ_normal ?_
        refine thenQ_normal ?_
        refine AW.rA ⟨[(0, (vc (sl 1 csB a0))), (1, (vc (sl 1 csB a1))), (5, (vc (.int .i64 (IntKind.i64.wrap (x3 + (1 : Int))))))], []⟩ (Tt ∧ T2 Tt) [] [0, 1, 5] [] ⟨tr, tr, tr, tr⟩ ?_
        exact loopQ_normal (k, (IntKind.i64.wrap (x3 + (1 : Int)))) h (Nat.lt_succ_self k) (Sub.keep [0, 1, 5] [] (by kernel_rfl) (by kernel_rfl))
    · refine AW.cond_f rfl b4 ?_
      refine AW.exit ?_
      refine thenQ_exit ?_
      refine loopQ_exit ?_
      refine blockQ_exit ?_
      refine thenQ_normal ?_
      refine AW.seq (AW.rA ⟨[(4, (vc (.bool true)))], []⟩ (Tt ∧ Tt) [] [4] [] ⟨tr, tr⟩ (thenQ_normal ?_))
      refine AW.ret ?_
      replace h := some_eq h
      subst h
      exact ⟨.inr rfl, retOK_of [(.one (.c (.bool true)))] (by kernel_rfl) ⟨⟨rfl, tr⟩, tr⟩ (of_decide_eq_true (by kernel_rfl))⟩

/-! laws.eqFloat32S -/
def laws_eqFloat32S_l1 (K : Nat) (a0 : (List F32)) (a1 : (List F32)) : Nat → Int → Option (Bool)
  | 0, _ => none
  | k + 1, x3 => ite2 ((decide (x3 < (a0.length : Int)))) (chk (0 ≤ x3 ∧ x3 < (a0.length : Int)) (chk (0 ≤ x3 ∧ x3 < (a1.length : Int)) ((laws_sameFloat K (Fl.cv .f32 .f64 (a0.getD x3.toNat default)) (Fl.cv .f32 .f64 (a1.getD x3.toNat default))).bind fun v7 => ite2 ((!v7)) (some false) (laws_eqFloat32S_l1 K a0 a1 k (IntKind.i64.wrap (x3 + (1 : Int))))))) (some true)

def laws_eqFloat32S (K : Nat) (a0 : (List F32)) (a1 : (List F32)) : Option (Bool) :=
  ite2 (((a0.length : Int) != (a1.length : Int))) (some false) (laws_eqFloat32S_l1 K a0 a1 K (0 : Int))

theorem ok_laws_eqFloat32S (K : Nat) (a0 : (List F32)) (a1 : (List F32)) (o : (Bool)) (h : laws_eqFloat32S K a0 a1 = some o) : CallOK Try.prog 23 [.one (sl 1 (csF .f32) a0), .one (sl 1 (csF .f32) a1)] [.one (.bool o)] := by
  refine callOK_of_AW Try.func23 rfl (by kernel_rfl) (Nat.le_of_ble_eq_true (by kernel_rfl)) ?_
  intro w0
  unfold laws_eqFloat32S at h
  refine AW.seq (AW.rA ⟨[(0, (vc (sl 1 (csF .f32) a0))), (1, (vc (sl 1 (csF .f32) a1)))], []⟩ (Tt ∧ Tt) [] [0, 1] [] ⟨tr, tr⟩ (thenQ_normal ?_))
  refine AW.seq ?_
  refine AW.seq (AW.rA ⟨[(0, (vc (sl 1 (csF .f32) a0))), (1, (vc (sl 1 (csF .f32) a1))), (10, (vc (.bool ((a0.length : Int) != (a1.length : Int)))))], []⟩ (Tt ∧ T4 Tt) [] [0, 1, 10] [] ⟨tr, tr, tr, tr, tr, tr⟩ (thenQ_normal ?_))
  rcases ite2_cases h with ⟨b1, h⟩ | ⟨b1, h⟩
  · refine AW.cond_t rfl b1 ?_
    refine AW.seq (AW.rA ⟨[(4, (vc (.bool false)))], []⟩ (Tt ∧ Tt) [] [4] [] ⟨tr, tr⟩ (thenQ_normal ?_))
    refine AW.ret ?_
    refine thenQ_ret ?_
    replace h := some_eq h
    subst h
    exact ⟨.inr rfl, retOK_of [(.one (.c (.bool false)))] (by kernel_rfl) ⟨⟨rfl, tr⟩, tr⟩ (of_decide_eq_true (by kernel_rfl))⟩
  · refine AW.cond_f rfl b1 ?_
    refine AW.skip ?_
    refine thenQ_normal ?_
    refine AW.seq ?_
    refine AW.seq (AW.rA ⟨[(0, (vc (sl 1 (csF .f32) a0))), (1, (vc (sl 1 (csF .f32) a1))), (5, (vc (.int .i64 (0 : Int))))], []⟩ (Tt ∧ Tt) [] [0, 1, 5] [] ⟨tr, tr⟩ (thenQ_normal ?_))
    refine AW.block ?_
    refine AW.loopQ (σ := Nat × Int) (fun p => ⟨[(0, (vc (sl 1 (csF .f32) a0))), (1, (vc (sl 1 (csF .f32) a1))), (5, (vc (.int .i64 p.2)))], []⟩) (fun p => laws_eqFloat32S_l1 K a0 a1 p.1 p.2 = some o) (fun p => p.1) (K, (0 : Int)) h ?_
    clear h
    rintro ⟨k, x3⟩ h
    replace h : laws_eqFloat32S_l1 K a0 a1 k x3 = some o := h
    show AW _ _ (⟨[(0, (vc (sl 1 (csF .f32) a0))), (1, (vc (sl 1 (csF .f32) a1))), (5, (vc (.int .i64 x3)))], []⟩ : St) _
    obtain _ | k := k
    · rw [laws_eqFloat32S_l1] at h; cases h
    rw [laws_eqFloat32S_l1] at h
    refine AW.seq ?_
    refine AW.seq (AW.rA ⟨[(0, (vc (sl 1 (csF .f32) a0))), (1, (vc (sl 1 (csF .f32) a1))), (5, (vc (.int .i64 x3))), (14, (vc (.bool (decide (x3 < (a0.length : Int))))))], []⟩ (T4 Tt) [] [0, 1, 5, 14] [] ⟨tr, tr, tr, tr, tr⟩ (thenQ_normal ?_))
    rcases ite2_cases h with ⟨b4, h⟩ | ⟨b4, h⟩
    · refine AW.cond_t rfl b4 ?_
      refine AW.skip ?_
      refine thenQ_normal ?_
      refine AW.seq ?_
      refine AW.block ?_
      refine AW.seq ?_
      obtain ⟨c5, h⟩ := chk_some h
      obtain ⟨c6, h⟩ := chk_some h
      obtain ⟨v7, e8, h⟩ := bind_some h
      refine AW.dA ⟨[(0, (vc (sl 1 (csF .f32) a0))), (1, (vc (sl 1 (csF .f32) a1))), (5, (vc (.int .i64 x3))), (28, (vc (.bool (!v7))))], []⟩ ((T2 ((0 ≤ x3 ∧ x3 < (a0.length : Int)) ∧ Tt ∧ ((convBits .f32 (a0.getD x3.toNat default).bits .f64).isSome = true) ∧ T2 ((0 ≤ x3 ∧ x3 < (a1.length : Int)) ∧ Tt ∧ ((convBits .f32 (a1.getD x3.toNat default).bits .f64).isSome = true) ∧ (((Eqc (.flt .f64 (Fl.cv .f32 .f64 (a0.getD x3.toNat default)).bits)) ∧ (Eqc (.flt .f64 (Fl.cv .f32 .f64 (a1.getD x3.toNat default)).bits)) ∧ Tt) ∧ CallOK Try.prog 25 [.one (.flt .f64 (Fl.cv .f32 .f64 (a0.getD x3.toNat default)).bits), .one (.flt .f64 (Fl.cv .f32 .f64 (a1.getD x3.toNat default)).bits)] [.one (.bool v7)]) ∧ Tt ∧ Tt))) ∧ (Tt)) 12 [.no, .no, .no, .no, .no, .no, .no, .no, .no, .no, .call [.one (.flt .f64 (Fl.cv .f32 .f64 (a0.getD x3.toNat default)).bits), .one (.flt .f64 (Fl.cv .f32 .f64 (a1.getD x3.toNat default)).bits)] [.one (.bool v7)] [[.view]]] [0, 1, 5, 28] [] ⟨⟨tr, tr, c5, tr, cv_wide (a0.getD x3.toNat default), tr, tr, c6, tr, cv_wide (a1.getD x3.toNat default), ⟨⟨rfl, rfl, tr⟩, ok_laws_sameFloat K (Fl.cv .f32 .f64 (a0.getD x3.toNat default)) (Fl.cv .f32 .f64 (a1.getD x3.toNat default)) v7 e8⟩, tr, tr⟩, tr⟩ ?_
      refine thenQ_normal ?_
      rcases ite2_cases h with ⟨b9, h⟩ | ⟨b9, h⟩
      · refine AW.cond_t rfl b9 ?_
        refine AW.seq (AW.rA ⟨[(4, (vc (.bool false)))], []⟩ (Tt ∧ Tt) [] [4] [] ⟨tr, tr⟩ (thenQ_normal ?_))
        refine AW.ret ?_
        refine blockQ_ret ?_
        refine thenQ_ret ?_
        refine loopQ_ret ?_
        refine blockQ_ret ?_
        refine thenQ_ret ?_
        replace h := some_eq h
        subst h
        exact ⟨.inr rfl, retOK_of [(.one (.c (.bool false)))] (by kernel_rfl) ⟨⟨rfl, tr⟩, tr⟩ (of_decide_eq_true (by kernel_rfl))⟩
      · refine AW.cond_f rfl b9 ?_
        refine AW.skip ?_
        refine blockQ_normal ?_
        refine thenQ_normal ?_
        refine AW.rA ⟨[(0, (vc (sl 1 (csF .f32) a0))), (1, (vc (sl 1 (csF .f32) a1))), (5, (vc (.int .i64 (IntKind.i64.wrap (x3 + (1 : Int))))))], []⟩ (Tt ∧ T2 Tt) [] [0, 1, 5] [] ⟨tr, tr, tr, tr⟩ ?_
        exact loopQ_normal (k, (IntKind.i64.wrap (x3 + (1 : Int)))) h (Nat.lt_succ_self k) (Sub.keep [0, 1, 5] [] (by kernel_rfl) (by kernel_rfl))
    · refine AW.cond_f rfl b4 ?_
      refine AW.exit ?_
      refine thenQ_exit ?_
      refine loopQ_exit ?_
      refine blockQ_exit ?_
      refine thenQ_normal ?_
      refine AW.seq (AW.rA ⟨[(4, (vc (.bool true)))], []⟩ (Tt ∧ Tt) [] [4] [] ⟨tr, tr⟩ (thenQ_normal ?_))
      refine AW.ret ?_
      replace h := some_eq h
      subst h
      exact ⟨.inr rfl, retOK_of [(.one (.c (.bool true)))] (by kernel_rfl) ⟨⟨rfl, tr⟩, tr⟩ (of_decide_eq_true (by kernel_rfl))⟩

/-! laws.eqString -/
def laws_eqString (K : Nat) (a0 : String) (a1 : String) : Option (Bool) :=
  (laws_eqVectorS K a0.Points a1.Points).bind fun v1 => ite2 ((!v1)) (some false) ((laws_eqVectorS K a0.Before a1.Before).bind fun v4 => ite2 ((!v4)) (some false) ((laws_eqBoolS K a0.Fixed a1.Fixed).bind fun v7 => ite2 ((!v7)) (some false) ((laws_eqFloat32S K a0.Lengths a1.Lengths).bind fun v10 => ite2 ((!v10)) (some false) ((laws_eqVector K a0.Fall a1.Fall).bind fun v13 => ite2 ((!v13)) (some false) ((laws_sameFloat K (Fl.cv .f32 .f64 a0.Damp) (Fl.cv .f32 .f64 a1.Damp)).bind fun v16 => ite2 ((!v16)) (some false) (ite2 ((a0.Passes != a1.Passes)) (some false) (some true)))))))

theorem ok_laws_eqString (K : Nat) (a0 : String) (a1 : String) (o : (Bool)) (h : laws_eqString K a0 a1 = some o) : CallOK Try.prog 8 [.agg (cs_String a0), .agg (cs_String a1)] [.one (.bool o)] := by
  refine callOK_of_AW Try.func8 rfl (by kernel_rfl) (Nat.le_of_ble_eq_true (by kernel_rfl)) ?_
  intro w0
  unfold laws_eqString at h
  refine AW.seq (AW.rA ⟨[(2, (vp 1 0)), (3, (vp 2 0))], [(1, (.box [(.c (sl 3 cs_Vector a0.Points)), (.c (sl 3 cs_Vector a0.Before)), (.c (sl 1 csB a0.Fixed)), (.c (sl 1 (csF .f32) a0.Lengths)), (.c (.flt .f32 a0.Fall.X.bits)), (.c (.flt .f32 a0.Fall.Y.bits)), (.c (.flt .f32 a0.Fall.Z.bits)), (.c (.flt .f32 a0.Damp.bits)), (.c (.int .i64 a0.Passes))])), (2, (.box [(.c (sl 3 cs_Vector a1.Points)), (.c (sl 3 cs_Vector a1.Before)), (.c (sl 1 csB a1.Fixed)), (.c (sl 1 (csF .f32) a1.Lengths)), (.c (.flt .f32 a1.Fall.X.bits)), (.c (.flt .f32 a1.Fall.Y.bits)), (.c (.flt .f32 a1.Fall.Z.bits)), (.c (.flt .f32 a1.Damp.bits)), (.c (.int .i64 a1.Passes))]))]⟩ (Tt ∧ T2 Tt) [.box 1, .box 2] [2, 3] [1, 2] ⟨tr, tr, tr, tr⟩ (thenQ_normal ?_))
  refine AW.seq ?_
  refine AW.seq ?_
  obtain ⟨v1, e2, h⟩ := bind_some h
  refine AW.rA ⟨[(2, (vp 1 0)), (3, (vp 2 0)), (10, (vc (.bool (!v1))))], [(1, (.box [(.c (sl 3 cs_Vector a0.Points)), (.c (sl 3 cs_Vector a0.Before)), (.c (sl 1 csB a0.Fixed)), (.c (sl 1 (csF .f32) a0.Lengths)), (.c (.flt .f32 a0.Fall.X.bits)), (.c (.flt .f32 a0.Fall.Y.bits)), (.c (.flt .f32 a0.Fall.Z.bits)), (.c (.flt .f32 a0.Damp.bits)), (.c (.int .i64 a0.Passes))])), (2, (.box [(.c (sl 3 cs_Vector a1.Points)), (.c (sl 3 cs_Vector a1.Before)), (.c (sl 1 csB a1.Fixed)), (.c (sl 1 (csF .f32) a1.Lengths)), (.c (.flt .f32 a1.Fall.X.bits)), (.c (.flt .f32 a1.Fall.Y.bits)), (.c (.flt .f32 a1.Fall.Z.bits)), (.c (.flt .f32 a1.Damp.bits)), (.c (.int .i64 a1.Passes))]))]⟩ (T4 ((((Eqc (sl 3 cs_Vector a0.Points)) ∧ (Eqc (sl 3 cs_Vector a1.Points)) ∧ Tt) ∧ CallOK Try.prog 21 [.one (sl 3 cs_Vector a0.Points), .one (sl 3 cs_Vector a1.Points)] [.one (.bool v1)]) ∧ Tt ∧ Tt)) [.no, .no, .no, .no, .call [.one (sl 3 cs_Vector a0.Points), .one (sl 3 cs_Vector a1.Points)] [.one (.bool v1)] [[.view]]] [2, 3, 10] [1, 2] ⟨tr, tr, tr, tr, ⟨⟨rfl, rfl, tr⟩, ok_laws_eqVectorS K a0.Points a1.Points v1 e2⟩, tr, tr⟩ ?_
  refine thenQ_normal ?_
  rcases ite2_cases h with ⟨b3, h⟩ | ⟨b3, h⟩
  · refine AW.cond_t rfl b3 ?_
    refine AW.seq (AW.rA ⟨[(4, (vc (.bool false)))], []⟩ (Tt ∧ Tt) [] [4] [] ⟨tr, tr⟩ (thenQ_normal ?_))
    refine AW.ret ?_
    refine thenQ_ret ?_
    replace h := some_eq h
    subst h
    exact ⟨.inr rfl, retOK_of [(.one (.c (.bool false)))] (by kernel_rfl) ⟨⟨rfl, tr⟩, tr⟩ (of_decide_eq_true (by kernel_rfl))⟩
  · refine AW.cond_f rfl b3 ?_
    refine AW.skip ?_
    refine thenQ_normal ?_
    refine AW.seq ?_
    refine AW.seq ?_
    obtain ⟨v4, e5, h⟩ := bind_some h
    refine AW.rA ⟨[(2, (vp 1 0)), (3, (vp 2 0)), (16, (vc (.bool (!v4))))], [(1, (.box [(.c (sl 3 cs_Vector a0.Points)), (.c (sl 3 cs_Vector a0.Before)), (.c (sl 1 csB a0.Fixed)), (.c (sl 1 (csF .f32) a0.Lengths)), (.c (.flt .f32 a0.Fall.X.bits)), (.c (.flt .f32 a0.Fall.Y.bits)), (.c (.flt .f32 a0.Fall.Z.bits)), (.c (.flt .f32 a0.Damp.bits)), (.c (.int .i64 a0.Passes))])), (2, (.box [(.c (sl 3 cs_Vector a1.Points)), (.c (sl 3 cs_Vector a1.Before)), (.c (sl 1 csB a1.Fixed)), (.c (sl 1 (csF .f32) a1.Lengths)), (.c (.flt .f32 a1.Fall.X.bits)), (.c (.flt .f32 a1.Fall.Y.bits)), (.c (.flt .f32 a1.Fall.Z.bits)), (.c (.flt .f32 a1.Damp.bits)), (.c (.int .i64 a1.Passes))]))]⟩ (T4 ((((Eqc (sl 3 cs_Vector a0.Before)) ∧ (Eqc (sl 3 cs_Vector a1.Before)) ∧ Tt) ∧ CallOK Try.prog 21 [.one (sl 3 cs_Vector a0.Before), .one (sl 3 cs_Vector a1.Before)] [.one (.bool v4)]) ∧ Tt ∧ Tt)) [.no, .no, .no, .no, .call [.one (sl 3 cs_Vector a0.Before), .one (sl 3 cs_Vector a1.Before)] [.one (.bool v4)] [[.view]]] [2, 3, 16] [1, 2] ⟨tr, tr, tr, tr, ⟨⟨rfl, rfl, tr⟩, ok_laws_eqVectorS K a0.Before a1.Before v4 e5⟩, tr, tr⟩ ?_
    refine thenQ_normal ?_
    rcases ite2_cases h with ⟨b6, h⟩ | ⟨b6, h⟩
    · refine AW.cond_t rfl b6 ?_
      refine AW.seq (AW.rA ⟨[(4, (vc (.bool false)))], []⟩ (Tt ∧ Tt) [] [4] [] ⟨tr, tr⟩ (thenQ_normal ?_))
      refine AW.ret ?_
      refine thenQ_ret ?_
      replace h := some_eq h
      subst h
      exact ⟨.inr rfl, retOK_of [(.one (.c (.bool false)))] (by kernel_rfl) ⟨⟨rfl, tr⟩, tr⟩ (of_decide_eq_true (by kernel_rfl))⟩
    · refine AW.cond_f rfl b6 ?_
      refine AW.skip ?_
      refine thenQ_normal ?_
      refine AW.seq ?_
      refine AW.seq ?_
      obtain ⟨v7, e8, h⟩ := bind_some h
      refine AW.rA ⟨[(2, (vp 1 0)), (3, (vp 2 0)), (22, (vc (.bool (!v7))))], [(1, (.box [(.c (sl 3 cs_Vector a0.Points)), (.c (sl 3 cs_Vector a0.Before)), (.c (sl 1 csB a0.Fixed)), (.c (sl 1 (csF .f32) a0.Lengths)), (.c (.flt .f32 a0.Fall.X.bits)), (.c (.flt .f32 a0.Fall.Y.bits)), (.c (.flt .f32 a0.Fall.Z.bits)), (.c (.flt .f32 a0.Damp.bits)), (.c (.int .i64 a0.Passes))])), (2, (.box [(.c (sl 3 cs_Vector a1.Points)), (.c (sl 3 cs_Vector a1.Before)), (.c (sl 1 csB a1.Fixed)), (.c (sl 1 (csF .f32) a1.Lengths)), (.c (.flt .f32 a1.Fall.X.bits)), (.c (.flt .f32 a1.Fall.Y.bits)), (.c (.flt .f32 a1.Fall.Z.bits)), (.c (.flt .f32 a1.Damp.bits)), (.c (.int .i64 a1.Passes))]))]⟩ (T4 ((((Eqc (sl 1 csB a0.Fixed)) ∧ (Eqc (sl 1 csB a1.Fixed)) ∧ Tt) ∧ CallOK Try.prog 22 [.one (sl 1 csB a0.Fixed), .one (sl 1 csB a1.Fixed)] [.one (.bool v7)]) ∧ Tt ∧ Tt)) [.no, .no, .no, .no, .call [.one (sl 1 csB a0.Fixed), .one (sl 1 csB a1.Fixed)] [.one (.bool v7)] [[.view]]] [2, 3, 22] [1, 2] ⟨tr, tr, tr, tr, ⟨⟨rfl, rfl, tr⟩, ok_laws_eqBoolS K a0.Fixed a1.Fixed v7 e8⟩, tr, tr⟩ ?_
      refine thenQ_normal ?_
      rcases ite2_cases h with ⟨b9, h⟩ | ⟨b9, h⟩
      · refine AW.cond_t rfl b9 ?_
        refine AW.seq (AW.rA ⟨[(4, (vc (.bool false)))], []⟩ (Tt ∧ Tt) [] [4] [] ⟨tr, tr⟩ (thenQ_normal ?_))
        refine AW.ret ?_
        refine thenQ_ret ?_
        replace h := some_eq h
        subst h
        exact ⟨.inr rfl, retOK_of [(.one (.c (.bool false)))] (by kernel_rfl) ⟨⟨rfl, tr⟩, tr⟩ (of_decide_eq_true (by kernel_rfl))⟩
      · refine AW.cond_f rfl b9 ?_
        refine AW.skip ?_
        refine thenQ_normal ?_
        refine AW.seq ?_
        refine AW.seq ?_
        obtain ⟨v10, e11, h⟩ := bind_some h
        refine AW.rA ⟨[(2, (vp 1 0)), (3, (vp 2 0)), (28, (vc (.bool (!v10))))], [(1, (.box [(.c (sl 3 cs_Vector a0.Points)), (.c (sl 3 cs_Vector a0.Before)), (.c (sl 1 csB a0.Fixed)), (.c (sl 1 (csF .f32) a0.Lengths)), (.c (.flt .f32 a0.Fall.X.bits)), (.c (.flt .f32 a0.Fall.Y.bits)), (.c (.flt .f32 a0.Fall.Z.bits)), (.c (.flt .f32 a0.Damp.bits)), (.c (.int .i64 a0.Passes))])), (2, (.box [(.c (sl 3 cs_Vector a1.Points)), (.c (sl 3 cs_Vector a1.Before)), (.c (sl 1 csB a1.Fixed)), (.c (sl 1 (csF .f32) a1.Lengths)), (.c (.flt .f32 a1.Fall.X.bits)), (.c (.flt .f32 a1.Fall.Y.bits)), (.c (.flt .f32 a1.Fall.Z.bits)), (.c (.flt .f32 a1.Damp.bits)), (.c (.int .i64 a1.Passes))]))]⟩ (T4 ((((Eqc (sl 1 (csF .f32) a0.Lengths)) ∧ (Eqc (sl 1 (csF .f32) a1.Lengths)) ∧ Tt) ∧ CallOK Try.prog 23 [.one (sl 1 (csF .f32) a0.Lengths), .one (sl 1 (csF .f32) a1.Lengths)] [.one (.bool v10)]) ∧ Tt ∧ Tt)) [.no, .no, .no, .no, .call [.one (sl 1 (csF .f32) a0.Lengths), .one (sl 1 (csF .f32) a1.Lengths)] [.one (.bool v10)] [[.view]]] [2, 3, 28] [1, 2] ⟨tr, tr, tr, tr, ⟨⟨rfl, rfl, tr⟩, ok_laws_eqFloat32S K a0.Lengths a1.Lengths v10 e11⟩, tr, tr⟩ ?_
        refine thenQ_normal ?_
        rcases ite2_cases h with ⟨b12, h⟩ | ⟨b12, h⟩
        · refine AW.cond_t rfl b12 ?_
          refine AW.seq (AW.rA ⟨[(4, (vc (.bool false)))], []⟩ (Tt ∧ Tt) [] [4] [] ⟨tr, tr⟩ (thenQ_normal ?_))
          refine AW.ret ?_
          refine thenQ_ret ?_
          replace h := some_eq h
          subst h
          exact ⟨.inr rfl, retOK_of [(.one (.c (.bool false)))] (by kernel_rfl) ⟨⟨rfl, tr⟩, tr⟩ (of_decide_eq_true (by kernel_rfl))⟩
        · refine AW.cond_f rfl b12 ?_
          refine AW.skip ?_
          refine thenQ_normal ?_
          refine AW.seq ?_
          refine AW.seq ?_
          obtain ⟨v13, e14, h⟩ := bind_some h
          refine AW.rA ⟨[(2, (vp 1 0)), (3, (vp 2 0)), (34, (vc (.bool (!v13))))], [(1, (.box [(.c (sl 3 cs_Vector a0.Points)), (.c (sl 3 cs_Vector a0.Before)), (.c (sl 1 csB a0.Fixed)), (.c (sl 1 (csF .f32) a0.Lengths)), (.c (.flt .f32 a0.Fall.X.bits)), (.c (.flt .f32 a0.Fall.Y.bits)), (.c (.flt .f32 a0.Fall.Z.bits)), (.c (.flt .f32 a0.Damp.bits)), (.c (.int .i64 a0.Passes))])), (2, (.box [(.c (sl 3 cs_Vector a1.Points)), (.c (sl 3 cs_Vector a1.Before)), (.c (sl 1 csB a1.Fixed)), (.c (sl 1 (csF .f32) a1.Lengths)), (.c (.flt .f32 a1.Fall.X.bits)), (.c (.flt .f32 a1.Fall.Y.bits)), (.c (.flt .f32 a1.Fall.Z.bits)), (.c (.flt .f32 a1.Damp.bits)), (.c (.int .i64 a1.Passes))]))]⟩ (T4 (((((Eqc (.flt .f32 a0.Fall.X.bits)) ∧ (Eqc (.flt .f32 a0.Fall.Y.bits)) ∧ (Eqc (.flt .f32 a0.Fall.Z.bits)) ∧ Tt) ∧ ((Eqc (.flt .f32 a1.Fall.X.bits)) ∧ (Eqc (.flt .f32 a1.Fall.Y.bits)) ∧ (Eqc (.flt .f32 a1.Fall.Z.bits)) ∧ Tt) ∧ Tt) ∧ CallOK Try.prog 24 [.agg (cs_Vector a0.Fall), .agg (cs_Vector a1.Fall)] [.one (.bool v13)]) ∧ Tt ∧ Tt)) [.no, .no, .no, .no, .call [.agg (cs_Vector a0.Fall), .agg (cs_Vector a1.Fall)] [.one (.bool v13)] [[.view]]] [2, 3, 34] [1, 2] ⟨tr, tr, tr, tr, ⟨⟨⟨rfl, rfl, rfl, tr⟩, ⟨rfl, rfl, rfl, tr⟩, tr⟩, ok_laws_eqVector K a0.Fall a1.Fall v13 e14⟩, tr, tr⟩ ?_
          refine thenQ_normal ?_
          rcases ite2_cases h with ⟨b15, h⟩ | ⟨b15, h⟩
          · refine AW.cond_t rfl b15 ?_
            refine AW.seq (AW.rA ⟨[(4, (vc (.bool false)))], []⟩ (Tt ∧ Tt) [] [4] [] ⟨tr, tr⟩ (thenQ_normal ?_))
            refine AW.ret ?_
            refine thenQ_ret ?_
            replace h := some_eq h
            subst h
            exact ⟨.inr rfl, retOK_of [(.one (.c (.bool false)))] (by kernel_rfl) ⟨⟨rfl, tr⟩, tr⟩ (of_decide_eq_true (by kernel_rfl))⟩
          · refine AW.cond_f rfl b15 ?_
            refine AW.skip ?_
            refine thenQ_normal ?_
            refine AW.seq ?_
            refine AW.seq ?_
            obtain ⟨v16, e17, h⟩ := bind_some h
            refine AW.rA ⟨[(2, (vp 1 0)), (3, (vp 2 0)), (42, (vc (.bool (!v16))))], [(1, (.box [(.c (sl 3 cs_Vector a0.Points)), (.c (sl 3 cs_Vector a0.Before)), (.c (sl 1 csB a0.Fixed)), (.c (sl 1 (csF .f32) a0.Lengths)), (.c (.flt .f32 a0.Fall.X.bits)), (.c (.flt .f32 a0.Fall.Y.bits)), (.c (.flt .f32 a0.Fall.Z.bits)), (.c (.flt .f32 a0.Damp.bits)), (.c (.int .i64 a0.Passes))])), (2, (.box [(.c (sl 3 cs_Vector a1.Points)), (.c (sl 3 cs_Vector a1.Before)), (.c (sl 1 csB a1.Fixed)), (.c (sl 1 (csF .f32) a1.Lengths)), (.c (.flt .f32 a1.Fall.X.bits)), (.c (.flt .f32 a1.Fall.Y.bits)), (.c (.flt .f32 a1.Fall.Z.bits)), (.c (.flt .f32 a1.Damp.bits)), (.c (.int .i64 a1.Passes))]))]⟩ (T2 (((convBits .f32 a0.Damp.bits .f64).isSome = true) ∧ T2 (((convBits .f32 a1.Damp.bits .f64).isSome = true) ∧ (((Eqc (.flt .f64 (Fl.cv .f32 .f64 a0.Damp).bits)) ∧ (Eqc (.flt .f64 (Fl.cv .f32 .f64 a1.Damp).bits)) ∧ Tt) ∧ CallOK Try.prog 25 [.one (.flt .f64 (Fl.cv .f32 .f64 a0.Damp).bits), .one (.flt .f64 (Fl.cv .f32 .f64 a1.Damp).bits)] [.one (.bool v16)]) ∧ Tt ∧ Tt))) [.no, .no, .no, .no, .no, .no, .call [.one (.flt .f64 (Fl.cv .f32 .f64 a0.Damp).bits), .one (.flt .f64 (Fl.cv .f32 .f64 a1.Damp).bits)] [.one (.bool v16)] [[.view]]] [2, 3, 42] [1, 2] ⟨tr, tr, cv_wide a0.Damp, tr, tr, cv_wide a1.Damp, ⟨⟨rfl, rfl, tr⟩, ok_laws_sameFloat K (Fl.cv .f32 .f64 a0.Damp) (Fl.cv .f32 .f64 a1.Damp) v16 e17⟩, tr, tr⟩ ?_
            refine thenQ_normal ?_
            rcases ite2_cases h with ⟨b18, h⟩ | ⟨b18, h⟩
            · refine AW.cond_t rfl b18 ?_
              refine AW.seq (AW.rA ⟨[(4, (vc (.bool false)))], []⟩ (Tt ∧ Tt) [] [4] [] ⟨tr, tr⟩ (thenQ_normal ?_))
              refine AW.ret ?_
              refine thenQ_ret ?_
              replace h := some_eq h
              subst h
              exact ⟨.inr rfl, retOK_of [(.one (.c (.bool false)))] (by kernel_rfl) ⟨⟨rfl, tr⟩, tr⟩ (of_decide_eq_true (by kernel_rfl))⟩
            · refine AW.cond_f rfl b18 ?_
              refine AW.skip ?_
              refine thenQ_normal ?_
              refine AW.seq ?_
              refine AW.seq (AW.rA ⟨[(47, (vc (.bool (a0.Passes != a1.Passes))))], []⟩ (Tt ∧ T4 Tt) [] [47] [] ⟨tr, tr, tr, tr, tr, tr⟩ (thenQ_normal ?_))
              rcases ite2_cases h with ⟨b19, h⟩ | ⟨b19, h⟩
              · refine AW.cond_t rfl b19 ?_
                refine AW.seq (AW.rA ⟨[(4, (vc (.bool false)))], []⟩ (Tt ∧ Tt) [] [4] [] ⟨tr, tr⟩ (thenQ_normal ?_))
                refine AW.ret ?_
                refine thenQ_ret ?_
                replace h := some_eq h
                subst h
                exact ⟨.inr rfl, retOK_of [(.one (.c (.bool false)))] (by kernel_rfl) ⟨⟨rfl, tr⟩, tr⟩ (of_decide_eq_true (by kernel_rfl))⟩
              · refine AW.cond_f rfl b19 ?_
                refine AW.skip ?_
                refine thenQ_normal ?_
                refine AW.seq (AW.rA ⟨[(4, (vc (.bool true)))], []⟩ (Tt ∧ Tt) [] [4] [] ⟨tr, tr⟩ (thenQ_normal ?_))
                refine AW.ret ?_
                replace h := some_eq h
                subst h
                exact ⟨.inr rfl, retOK_of [(.one (.c (.bool true)))] (by kernel_rfl) ⟨⟨rfl, tr⟩, tr⟩ (of_decide_eq_true (by kernel_rfl))⟩

/-! laws.markVectorS -/
def laws_markVectorS_l1 (K : Nat) (a0 : (List Vector)) : Nat → Int → Int → (List Vector) → Option (Int × (List Vector))
  | 0, _, _, _ => none
  | k + 1, x4, x5, x6 => ite2 ((decide (x5 < (x6.length : Int)))) (chk (0 ≤ x5 ∧ x5 < (x6.length : Int)) ((some (x6.set x5.toNat (Vector.mk (Fl.ofInt .f32 x4) ((x6.getD x5.toNat default).Y) ((x6.getD x5.toNat default).Z)))).bind fun y9 => chk (0 ≤ x5 ∧ x5 < (y9.length : Int)) ((some (y9.set x5.toNat (Vector.mk ((y9.getD x5.toNat default).X) (Fl.ofInt .f32 (IntKind.i64.wrap (x4 + (1 : Int)))) ((y9.getD x5.toNat default).Z)))).bind fun y12 => chk (0 ≤ x5 ∧ x5 < (y12.length : Int)) ((some (y12.set x5.toNat (Vector.mk ((y12.getD x5.toNat default).X) ((y12.getD x5.toNat default).Y) (Fl.ofInt .f32 (IntKind.i64.wrap ((IntKind.i64.wrap (x4 + (1 : Int))) + (1 : Int))))))).bind fun y15 => laws_markVectorS_l1 K a0 k (IntKind.i64.wrap ((IntKind.i64.wrap ((IntKind.i64.wrap (x4 + (1 : Int))) + (1 : Int))) + (1 : Int))) (IntKind.i64.wrap (x5 + (1 : Int))) y15)))) (chk (x6.length = a0.length) (some (x4, x6)))

def laws_markVectorS (K : Nat) (a0 : (List Vector)) (a1 : Int) : Option (Int × (List Vector)) :=
  laws_markVectorS_l1 K a0 K a1 (0 : Int) a0

theorem ok_laws_markVectorS (K : Nat) (a0 : (List Vector)) (a1 : Int) (o : (Int × (List Vector))) (h : laws_markVectorS K a0 a1 = some o) : MutOK Try.prog 26 [(.one (.mu (sl 3 cs_Vector a0) (sl 3 cs_Vector o.2))), (.one (.ro (.int .i64 a1)))] [.one (.int .i64 o.1)] := by
  refine mutOK_of_AW 1 Try.func26 rfl (by kernel_rfl) (Nat.le_of_ble_eq_true (by kernel_rfl)) (by kernel_rfl) (by kernel_rfl) ?_
  intro w0 K0 v0 s0
  unfold laws_markVectorS at h
  refine AW.seq (AW.rA ⟨[(0, (.v (.one (.arr 0)))), (1, (vc (.int .i64 a1)))], [(0, (.arr true a0.length 3 (gl cs_Vector a0)))]⟩ (Tt ∧ Tt) [] [0, 1] [0] ⟨tr, tr⟩ (thenQ_normal ?_))
  refine AW.seq ?_
  refine AW.seq (AW.rA ⟨[(0, (.v (.one (.arr 0)))), (1, (vc (.int .i64 a1))), (5, (vc (.int .i64 (0 : Int))))], [(0, (.arr true a0.length 3 (gl cs_Vector a0)))]⟩ (Tt ∧ Tt) [] [0, 1, 5] [0] ⟨tr, tr⟩ (thenQ_normal ?_))
  refine AW.block ?_
  refine AW.loopQ (σ := Nat × Int × Int × (List Vector)) (fun p => ⟨[(0, (.v (.one (.arr 0)))), (1, (vc (.int .i64 p.2.1))), (5, (vc (.int .i64 p.2.2.1)))], [(0, (.arr true p.2.2.2.length 3 (gl cs_Vector p.2.2.2)))]⟩) (fun p => laws_markVectorS_l1 K a0 p.1 p.2.1 p.2.2.1 p.2.2.2 = some o) (fun p => p.1) (K, a1, (0 : Int), a0) h ?_
  clear h
  rintro ⟨k, x4, x5, x6⟩ h
  replace h : laws_markVectorS_l1 K a0 k x4 x5 x6 = some o := h
  show AW _ _ (⟨[(0, (.v (.one (.arr 0)))), (1, (vc (.int .i64 x4))), (5, (vc (.int .i64 x5)))], [(0, (.arr true x6.length 3 (gl cs_Vector x6)))]⟩ : St) _
  obtain _ | k := k
  · rw [laws_markVectorS_l1] at h; cases h
  rw [laws_markVectorS_l1] at h
  refine AW.seq ?_
  refine AW.seq (AW.rA ⟨[(0, (.v (.one (.arr 0)))), (1, (vc (.int .i64 x4))), (5, (vc (.int .i64 x5))), (9, (vc (.bool (decide (x5 < (x6.length : Int))))))], [(0, (.arr true x6.length 3 (gl cs_Vector x6)))]⟩ (T4 Tt) [] [0, 1, 5, 9] [0] ⟨tr, tr, tr, tr, tr⟩ (thenQ_normal ?_))
  rcases ite2_cases h with ⟨b7, h⟩ | ⟨b7, h⟩
  · refine AW.cond_t rfl b7 ?_
    refine AW.skip ?_
    refine thenQ_normal ?_
    refine AW.seq ?_
    refine AW.block ?_
    refine AW.seq ?_
    obtain ⟨c8, h⟩ := chk_some h
    obtain ⟨y9, e10, h⟩ := bind_some h
    refine AW.rA ⟨[(0, (.v (.one (.arr 0)))), (1, (vc (.int .i64 x4))), (5, (vc (.int .i64 x5)))], [(0, (.arr true y9.length 3 (gl cs_Vector y9)))]⟩ (T4 ((0 ≤ x5 ∧ x5 < (x6.length : Int)) ∧ Tt ∧ (y9.length = x6.length ∧ SetOb x6.length 3 x5.toNat 0 1 (gl cs_Vector x6) (gl cs_Vector y9) ∧ ((List.range 1).map fun j => (cs_Vector (Vector.mk (Fl.ofInt .f32 x4) ((x6.getD x5.toNat default).Y) ((x6.getD x5.toNat default).Z))).getD (0 + j) .nilptr) = ((List.range 1).map fun j => gl cs_Vector y9 x5.toNat (0 + j)) ∧ ((((.flt .f32 (Fl.ofInt .f32 x4).bits) : C) = (.flt .f32 (Fl.ofInt .f32 x4).bits) ∧ Tt) ∧ Tt) ∧ (true = true → ∀ j, j < 1 → isSeq (gl cs_Vector x6 x5.toNat (0 + j)) = false ∧ isSeq (gl cs_Vector y9 x5.toNat (0 + j)) = false)) ∧ Tt)) [.no, .no, .no, .no, .no, .no, .set y9.length (gl cs_Vector y9) ((List.range 1).map fun j => (cs_Vector (Vector.mk (Fl.ofInt .f32 x4) ((x6.getD x5.toNat default).Y) ((x6.getD x5.toNat default).Z))).getD (0 + j) .nilptr)] [0, 1, 5] [0] ⟨tr, tr, tr, tr, c8, tr, (letP (some_eq e10) (fun z => (z.length = x6.length ∧ SetOb x6.length 3 x5.toNat 0 1 (gl cs_Vector x6) (gl cs_Vector z) ∧ ((List.range 1).map fun j => (cs_Vector (Vector.mk (Fl.ofInt .f32 x4) ((x6.getD x5.toNat default).Y) ((x6.getD x5.toNat default).Z))).getD (0 + j) .nilptr) = ((List.range 1).map fun j => gl cs_Vector z x5.toNat (0 + j)) ∧ ((((.flt .f32 (Fl.ofInt .f32 x4).bits) : C) = (.flt .f32 (Fl.ofInt .f32 x4).bits) ∧ Tt) ∧ Tt) ∧ (true = true → ∀ j, j < 1 → isSeq (gl cs_Vector x6 x5.toNat (0 + j)) = false ∧ isSeq (gl cs_Vector z x5.toNat (0 + j)) = false))) ⟨List.length_set, gl_setp (fun j hj hn => match j, hj, hn with | 0, _, hn => absurd ⟨by decide, by decide⟩ hn | 1, _, _ => rfl | 2, _, _ => rfl) (lt_of_bound c8), (gl_atp (lt_of_bound c8)).symm, ⟨⟨rfl, tr⟩, tr⟩, (fun _ j hj => match j, hj with | 0, _ => ⟨rfl, rfl⟩)⟩), tr⟩ ?_
    refine thenQ_normal ?_
    refine AW.seq (AW.rA ⟨[(0, (.v (.one (.arr 0)))), (1, (vc (.int .i64 (IntKind.i64.wrap (x4 + (1 : Int)))))), (5, (vc (.int .i64 x5)))], [(0, (.arr true y9.length 3 (gl cs_Vector y9)))]⟩ (Tt ∧ T2 Tt) [] [0, 1, 5] [0] ⟨tr, tr, tr, tr⟩ (thenQ_normal ?_))
    refine AW.seq ?_
    obtain ⟨c11, h⟩ := chk_some h
    obtain ⟨y12, e13, h⟩ := bind_some h
    refine AW.rA ⟨[(0, (.v (.one (.arr 0)))), (1, (vc (.int .i64 (IntKind.i64.wrap (x4 + (1 : Int)))))), (5, (vc (.int .i64 x5)))], [(0, (.arr true y12.length 3 (gl cs_Vector y12)))]⟩ (T4 ((0 ≤ x5 ∧ x5 < (y9.length : Int)) ∧ Tt ∧ (y12.length = y9.length ∧ SetOb y9.length 3 x5.toNat 1 1 (gl cs_Vector y9) (gl cs_Vector y12) ∧ ((List.range 1).map fun j => (cs_Vector (Vector.mk ((y9.getD x5.toNat default).X) (Fl.ofInt .f32 (IntKind.i64.wrap (x4 + (1 : Int)))) ((y9.getD x5.toNat default).Z))).getD (1 + j) .nilptr) = ((List.range 1).map fun j => gl cs_Vector y12 x5.toNat (1 + j)) ∧ ((((.flt .f32 (Fl.ofInt .f32 (IntKind.i64.wrap (x4 + (1 : Int)))).bits) : C) = (.flt .f32 (Fl.ofInt .f32 (IntKind.i64.wrap (x4 + (1 : Int)))).bits) ∧ Tt) ∧ Tt) ∧ (true = true → ∀ j, j < 1 → isSeq (gl cs_Vector y9 x5.toNat (1 + j)) = false ∧ isSeq (gl cs_Vector y12 x5.toNat (1 + j)) = false)) ∧ Tt)) [.no, .no, .no, .no, .no, .no, .set y12.length (gl cs_Vector y12) ((List.range 1).map fun j => (cs_Vector (Vector.mk ((y9.getD x5.toNat default).X) (Fl.ofInt .f32 (IntKind.i64.wrap (x4 + (1 : Int)))) ((y9.getD x5.toNat default).Z))).getD (1 + j) .nilptr)] [0, 1, 5] [0] ⟨tr, tr, tr, tr, c11, tr, (letP (some_eq e13) (fun z => (z.length = y9.length ∧ SetOb y9.length 3 x5.toNat 1 1 (gl cs_Vector y9) (gl cs_Vector z) ∧ ((List.range 1).map fun j => (cs_Vector (Vector.mk ((y9.getD x5.toNat default).X) (Fl.ofInt .f32 (IntKind.i64.wrap (x4 + (1 : Int)))) ((y9.getD x5.toNat default).Z))).getD (1 + j) .nilptr) = ((List.range 1).map fun j => gl cs_Vector z x5.toNat (1 + j)) ∧ ((((.flt .f32 (Fl.ofInt .f32 (IntKind.i64.wrap (x4 + (1 : Int)))).bits) : C) = (.flt .f32 (Fl.ofInt .f32 (IntKind.i64.wrap (x4 + (1 : Int)))).bits) ∧ Tt) ∧ Tt) ∧ (true = true → ∀ j, j < 1 → isSeq (gl cs_Vector y9 x5.toNat (1 + j)) = false ∧ isSeq (gl cs_Vector z x5.toNat (1 + j)) = false))) ⟨List.length_set, gl_setp (fun j hj hn => match j, hj, hn with | 0, _, _ => rfl | 1, _, hn => absurd ⟨by decide, by decide⟩ hn | 2, _, _ => rfl) (lt_of_bound c11), (gl_atp (lt_of_bound c11)).symm, ⟨⟨rfl, tr⟩, tr⟩, (fun _ j hj => match j, hj with | 0, _ => ⟨rfl, rfl⟩)⟩), tr⟩ ?_
    refine thenQ_normal ?_
    refine AW.seq (AW.rA ⟨[(0, (.v (.one (.arr 0)))), (1, (vc (.int .i64 (IntKind.i64.wrap ((IntKind.i64.wrap (x4 + (1 : Int))) + (1 : Int)))))), (5, (vc (.int .i64 x5)))], [(0, (.arr true y12.length 3 (gl cs_Vector y12)))]⟩ (Tt ∧ T2 Tt) [] [0, 1, 5] [0] ⟨tr, tr, tr, tr⟩ (thenQ_normal ?_))
    refine AW.seq ?_
    obtain ⟨c14, h⟩ := chk_some h
    obtain ⟨y15, e16, h⟩ := bind_some h
    refine AW.rA ⟨[(0, (.v (.one (.arr 0)))), (1, (vc (.int .i64 (IntKind.i64.wrap ((IntKind.i64.wrap (x4 + (1 : Int))) + (1 : Int)))))), (5, (vc (.int .i64 x5)))], [(0, (.arr true y15.length 3 (gl cs_Vector y15)))]⟩ (T4 ((0 ≤ x5 ∧ x5 < (y12.length : Int)) ∧ Tt ∧ (y15.length = y12.length ∧ SetOb y12.length 3 x5.toNat 2 1 (gl cs_Vector y12) (gl cs_Vector y15) ∧ ((List.range 1).map fun j => (cs_Vector (Vector.mk ((y12.getD x5.toNat default).X) ((y12.getD x5.toNat default).Y) (Fl.ofInt .f32 (IntKind.i64.wrap ((IntKind.i64.wrap (x4 + (1 : Int))) + (1 : Int)))))).getD (2 + j) .nilptr) = ((List.range 1).map fun j => gl cs_Vector y15 x5.toNat (2 + j)) ∧ ((((.flt .f32 (Fl.ofInt .f32 (IntKind.i64.wrap ((IntKind.i64.wrap (x4 + (1 : Int))) + (1 : Int)))).bits) : C) = (.flt .f32 (Fl.ofInt .f32 (IntKind.i64.wrap ((IntKind.i64.wrap (x4 + (1 : Int))) + (1 : Int)))).bits) ∧ Tt) ∧ Tt) ∧ (true = true → ∀ j, j < 1 → isSeq (gl cs_Vector y12 x5.toNat (2 + j)) = false ∧ isSeq (gl cs_Vector y15 x5.toNat (2 + j)) = false)) ∧ Tt)) [.no, .no, .no, .no, .no, .no, .set y15.length (gl cs_Vector y15) ((List.range 1).map fun j => (cs_Vector (Vector.mk ((y12.getD x5.toNat default).X) ((y12.getD x5.toNat default).Y) (Fl.ofInt .f32 (IntKind.i64.wrap ((IntKind.i64.wrap (x4 + (1 : Int))) + (1 : Int)))))).getD (2 + j) .nilptr)] [0, 1, 5] [0] ⟨tr, tr, tr, tr, c14, tr, (letP (some_eq e16) (fun z => (z.length = y12.length ∧ SetOb y12.length 3 x5.toNat 2 1 (gl cs_Vector y12) (gl cs_Vector z) ∧ ((List.range 1).map fun j => (cs_Vector (Vector.mk ((y12.getD x5.toNat default).X) ((y12.getD x5.toNat default).Y) (Fl.ofInt .f32 (IntKind.i64.wrap ((IntKind.i64.wrap (x4 + (1 : Int))) + (1 : Int)))))).getD (2 + j) .nilptr) = ((List.range 1).map fun j => gl cs_Vector z x5.toNat (2 + j)) ∧ ((((.flt .f32 (Fl.ofInt .f32 (IntKind.i64.wrap ((IntKind.i64.wrap (x4 + (1 : Int))) + (1 : Int)))).bits) : C) = (.flt .f32 (Fl.ofInt .f32 (IntKind.i64.wrap ((IntKind.i64.wrap (x4 + (1 : Int))) + (1 : Int)))).bits) ∧ Tt) ∧ Tt) ∧ (true = true → ∀ j, j < 1 → isSeq (gl cs_Vector y12 x5.toNat (2 + j)) = false ∧ isSeq (gl cs_Vector z x5.toNat (2 + j)) = false))) ⟨List.length_set, gl_setp (fun j hj hn => match j, hj, hn with | 0, _, _ => rfl | 1, _, _ => rfl | 2, _, hn => absurd ⟨by decide, by decide⟩ hn) (lt_of_bound c14), (gl_atp (lt_of_bound c14)).symm, ⟨⟨rfl, tr⟩, tr⟩, (fun _ j hj => match j, hj with | 0, _ => ⟨rfl, rfl⟩)⟩), tr⟩ ?_
    refine thenQ_normal ?_
    refine AW.rA ⟨[(0, (.v (.one (.arr 0)))), (1, (vc (.int .i64 (IntKind.i64.wrap ((IntKind.i64.wrap ((IntKind.i64.wrap (x4 + (1 : Int))) + (1 : Int))) + (1 : Int)))))), (5, (vc (.int .i64 x5)))], [(0, (.arr true y15.length 3 (gl cs_Vector y15)))]⟩ (Tt ∧ T2 Tt) [] [0, 1, 5] [0] ⟨tr, tr, tr, tr⟩ ?_
    refine blockQ_normal ?_
    refine thenQ_normal ?_
    refine AW.rA ⟨[(0, (.v (.one (.arr 0)))), (1, (vc (.int .i64 (IntKind.i64.wrap ((IntKind.i64.wrap ((IntKind.i64.wrap (x4 + (1 : Int))) + (1 : Int))) + (1 : Int)))))), (5, (vc (.int .i64 (IntKind.i64.wrap (x5 + (1 : Int))))))], [(0, (.arr true y15.length 3 (gl cs_Vector y15)))]⟩ (Tt ∧ T2 Tt) [] [0, 1, 5] [0] ⟨tr, tr, tr, tr⟩ ?_
    exact loopQ_normal (k, (IntKind.i64.wrap ((IntKind.i64.wrap ((IntKind.i64.wrap (x4 + (1 : Int))) + (1 : Int))) + (1 : Int))), (IntKind.i64.wrap (x5 + (1 : Int))), y15) h (Nat.lt_succ_self k) (Sub.keep [0, 1, 5] [0] (by kernel_rfl) (by kernel_rfl))
  · refine AW.cond_f rfl b7 ?_
    refine AW.exit ?_
    refine thenQ_exit ?_
    refine loopQ_exit ?_
    refine blockQ_exit ?_
    refine thenQ_normal ?_
    refine AW.seq (AW.rA ⟨[(0, (.v (.one (.arr 0)))), (1, (vc (.int .i64 x4))), (4, (vc (.int .i64 x4)))], [(0, (.arr true x6.length 3 (gl cs_Vector x6)))]⟩ (T2 Tt) [] [0, 1, 4] [0] ⟨tr, tr, tr⟩ (thenQ_normal ?_))
    refine AW.ret ?_
    obtain ⟨c17, h⟩ := chk_some h
    replace h := some_eq h
    subst h
    exact ⟨.inr rfl, retOK_of [(.one (.c (.int .i64 x4)))] (by kernel_rfl) ⟨⟨rfl, tr⟩, tr⟩ (of_decide_eq_true (by kernel_rfl)), by kernel_rfl, ⟨⟨c17, rfl, rfl⟩, tr, tr⟩⟩

/-! laws.markBoolS -/
def laws_markBoolS_l1 (K : Nat) (a0 : (List Bool)) : Nat → Int → Int → (List Bool) → Option (Int × (List Bool))
  | 0, _, _, _ => none
  | k + 1, x4, x5, x6 => ite2 ((decide (x5 < (x6.length : Int)))) (chk ((3 : Int) ≠ 0) (chk (0 ≤ x5 ∧ x5 < (x6.length : Int)) (laws_markBoolS_l1 K a0 k (IntKind.i64.wrap (x4 + (1 : Int))) (IntKind.i64.wrap (x5 + (1 : Int))) (x6.set x5.toNat ((x4.tmod (3 : Int)) == (0 : Int)))))) (chk (x6.length = a0.length) (some (x4, x6)))

def laws_markBoolS (K : Nat) (a0 : (List Bool)) (a1 : Int) : Option (Int × (List Bool)) :=
  laws_markBoolS_l1 K a0 K a1 (0 : Int) a0

theorem ok_laws_markBoolS (K : Nat) (a0 : (List Bool)) (a1 : Int) (o : (Int × (List Bool))) (h : laws_markBoolS K a0 a1 = some o) : MutOK Try.prog 27 [(.one (.mu (sl 1 csB a0) (sl 1 csB o.2))), (.one (.ro (.int .i64 a1)))] [.one (.int .i64 o.1)] := by
  refine mutOK_of_AW 1 Try.func27 rfl (by kernel_rfl) (Nat.le_of_ble_eq_true (by kernel_rfl)) (by kernel_rfl) (by kernel_rfl) ?_
  intro w0 K0 v0 s0
  unfold laws_markBoolS at h
  refine AW.seq (AW.rA ⟨[(0, (.v (.one (.arr 0)))), (1, (vc (.int .i64 a1)))], [(0, (.arr true a0.length 1 (gl csB a0)))]⟩ (Tt ∧ Tt) [] [0, 1] [0] ⟨tr, tr⟩ (thenQ_normal ?_))
  refine AW.seq ?_
  refine AW.seq (AW.rA ⟨[(0, (.v (.one (.arr 0)))), (1, (vc (.int .i64 a1))), (5, (vc (.int .i64 (0 : Int))))], [(0, (.arr true a0.length 1 (gl csB a0)))]⟩ (Tt ∧ Tt) [] [0, 1, 5] [0] ⟨tr, tr⟩ (thenQ_normal ?_))
  refine AW.block ?_
  refine AW.loopQ (σ := Nat × Int × Int × (List Bool)) (fun p => ⟨[(0, (.v (.one (.arr 0)))), (1, (vc (.int .i64 p.2.1))), (5, (vc (.int .i64 p.2.2.1)))], [(0, (.arr true p.2.2.2.length 1 (gl csB p.2.2.2)))]⟩) (fun p => laws_markBoolS_l1 K a0 p.1 p.2.1 p.2.2.1 p.2.2.2 = some o) (fun p => p.1) (K, a1, (0 : Int), a0) h ?_
  clear h
  rintro ⟨k, x4, x5, x6⟩ h
  replace h : laws_markBoolS_l1 K a0 k x4 x5 x6 = some o := h
  show AW _ _ (⟨[(0, (.v (.one (.arr 0)))), (1, (vc (.int .i64 x4))), (5, (vc (.int .i64 x5)))], [(0, (.arr true x6.length 1 (gl csB x6)))]⟩ : St) _
  obtain _ | k := k
  · rw [laws_markBoolS_l1] at h; cases h
  rw [laws_markBoolS_l1] at h
  refine AW.seq ?_
  refine AW.seq (AW.rA ⟨[(0, (.v (.one (.arr 0)))), (1, (vc (.int .i64 x4))), (5, (vc (.int .i64 x5))), (9, (vc (.bool (decide (x5 < (x6.length : Int))))))], [(0, (.arr true x6.length 1 (gl csB x6)))]⟩ (T4 Tt) [] [0, 1, 5, 9] [0] ⟨tr, tr, tr, tr, tr⟩ (thenQ_normal ?_))
  rcases ite2_cases h with ⟨b7, h⟩ | ⟨b7, h⟩
  · refine AW.cond_t rfl b7 ?_
    refine AW.skip ?_
    refine thenQ_normal ?_
    refine AW.seq ?_
    refine AW.block ?_
    refine AW.seq ?_
    obtain ⟨c8, h⟩ := chk_some h
    obtain ⟨c9, h⟩ := chk_some h
    refine AW.rA ⟨[(0, (.v (.one (.arr 0)))), (1, (vc (.int .i64 x4))), (5, (vc (.int .i64 x5)))], [(0, (.arr true (x6.set x5.toNat ((x4.tmod (3 : Int)) == (0 : Int))).length 1 (gl csB (x6.set x5.toNat ((x4.tmod (3 : Int)) == (0 : Int))))))]⟩ (Tt ∧ T2 (((3 : Int) ≠ 0) ∧ Tt ∧ (0 ≤ x5 ∧ x5 < (x6.length : Int)) ∧ ((x6.set x5.toNat ((x4.tmod (3 : Int)) == (0 : Int))).length = x6.length ∧ SetOb x6.length 1 x5.toNat 0 1 (gl csB x6) (gl csB (x6.set x5.toNat ((x4.tmod (3 : Int)) == (0 : Int)))) ∧ ((List.range 1).map fun j => (csB ((x4.tmod (3 : Int)) == (0 : Int))).getD (0 + j) .nilptr) = ((List.range 1).map fun j => gl csB (x6.set x5.toNat ((x4.tmod (3 : Int)) == (0 : Int))) x5.toNat (0 + j)) ∧ ((((.bool ((x4.tmod (3 : Int)) == (0 : Int))) : C) = (.bool ((x4.tmod (3 : Int)) == (0 : Int))) ∧ Tt) ∧ Tt) ∧ (true = true → ∀ j, j < 1 → isSeq (gl csB x6 x5.toNat (0 + j)) = false ∧ isSeq (gl csB (x6.set x5.toNat ((x4.tmod (3 : Int)) == (0 : Int))) x5.toNat (0 + j)) = false)) ∧ Tt)) [.no, .no, .no, .no, .no, .no, .set (x6.set x5.toNat ((x4.tmod (3 : Int)) == (0 : Int))).length (gl csB (x6.set x5.toNat ((x4.tmod (3 : Int)) == (0 : Int)))) ((List.range 1).map fun j => (csB ((x4.tmod (3 : Int)) == (0 : Int))).getD (0 + j) .nilptr)] [0, 1, 5] [0] ⟨tr, tr, tr, c8, tr, c9, ⟨List.length_set, gl_set, (gl_atp (lt_of_bound c9)).symm, ⟨⟨rfl, tr⟩, tr⟩, (fun _ j hj => match j, hj with | 0, _ => ⟨rfl, rfl⟩)⟩, tr⟩ ?_
    refine thenQ_normal ?_
    refine AW.rA ⟨[(0, (.v (.one (.arr 0)))), (1, (vc (.int .i64 (IntKind.i64.wrap (x4 + (1 : Int)))))), (5, (vc (.int .i64 x5)))], [(0, (.arr true (x6.set x5.toNat ((x4.tmod (3 : Int)) == (0 : Int))).length 1 (gl csB (x6.set x5.toNat ((x4.tmod (3 : Int)) == (0 : Int))))))]⟩ (Tt ∧ T2 Tt) [] [0, 1, 5] [0] ⟨tr, tr, tr, tr⟩ ?_
    refine blockQ_normal ?_
    refine thenQ_normal ?_
    refine AW.rA ⟨[(0, (.v (.one (.arr 0)))), (1, (vc (.int .i64 (IntKind.i64.wrap (x4 + (1 : Int)))))), (5, (vc (.int .i64 (IntKind.i64.wrap (x5 + (1 : Int))))))], [(0, (.arr true (x6.set x5.toNat ((x4.tmod (3 : Int)) == (0 : Int))).length 1 (gl csB (x6.set x5.toNat ((x4.tmod (3 : Int)) == (0 : Int))))))]⟩ (Tt ∧ T2 Tt) [] [0, 1, 5] [0] ⟨tr, tr, tr, tr⟩ ?_
    exact loopQ_normal (k, (IntKind.i64.wrap (x4 + (1 : Int))), (IntKind.i64.wrap (x5 + (1 : Int))), (x6.set x5.toNat ((x4.tmod (3 : Int)) == (0 : Int)))) h (Nat.lt_succ_self k) (Sub.keep [0, 1, 5] [0] (by kernel_rfl) (by kernel_rfl))
  · refine AW.cond_f rfl b7 ?_
    refine AW.exit ?_
    refine thenQ_exit ?_
    refine loopQ_exit ?_
    refine blockQ_exit ?_
    refine thenQ_normal ?_
    refine AW.seq (AW.rA ⟨[(0, (.v (.one (.arr 0)))), (1, (vc (.int .i64 x4))), (4, (vc (.int .i64 x4)))], [(0, (.arr true x6.length 1 (gl csB x6)))]⟩ (T2 Tt) [] [0, 1, 4] [0] ⟨tr, tr, tr⟩ (thenQ_normal ?_))
    refine AW.ret ?_
    obtain ⟨c10, h⟩ := chk_some h
    replace h := some_eq h
    subst h
    exact ⟨.inr rfl, retOK_of [(.one (.c (.int .i64 x4)))] (by kernel_rfl) ⟨⟨rfl, tr⟩, tr⟩ (of_decide_eq_true (by kernel_rfl)), by kernel_rfl, ⟨⟨c10, rfl, rfl⟩, tr, tr⟩⟩

/-! laws.markFloat32S -/
def laws_markFloat32S_l1 (K : Nat) (a0 : (List F32)) : Nat → Int → Int → (List F32) → Option (Int × (List F32))
  | 0, _, _, _ => none
  | k + 1, x4, x5, x6 => ite2 ((decide (x5 < (x6.length : Int)))) (chk (0 ≤ x5 ∧ x5 < (x6.length : Int)) (laws_markFloat32S_l1 K a0 k (IntKind.i64.wrap (x4 + (1 : Int))) (IntKind.i64.wrap (x5 + (1 : Int))) (x6.set x5.toNat (Fl.ofInt .f32 x4)))) (chk (x6.length = a0.length) (some (x4, x6)))

def laws_markFloat32S (K : Nat) (a0 : (List F32)) (a1 : Int) : Option (Int × (List F32)) :=
  laws_markFloat32S_l1 K a0 K a1 (0 : Int) a0

theorem ok_laws_markFloat32S (K : Nat) (a0 : (List F32)) (a1 : Int) (o : (Int × (List F32))) (h : laws_markFloat32S K a0 a1 = some o) : MutOK Try.prog 28 [(.one (.mu (sl 1 (csF .f32) a0) (sl 1 (csF .f32) o.2))), (.one (.ro (.int .i64 a1)))] [.one (.int .i64 o.1)] := by
  refine mutOK_of_AW 1 Try.func28 rfl (by kernel_rfl) (Nat.le_of_ble_eq_true (by kernel_rfl)) (by kernel_rfl) (by kernel_rfl) ?_
  intro w0 K0 v0 s0
  unfold laws_markFloat32S at h
  refine AW.seq (AW.rA ⟨[(0, (.v (.one (.arr 0)))), (1, (vc (.int .i64 a1)))], [(0, (.arr true a0.length 1 (gl (csF .f32) a0)))]⟩ (Tt ∧ Tt) [] [0, 1] [0] ⟨tr, tr⟩ (thenQ_normal ?_))
  refine AW.seq ?_
  refine AW.seq (AW.rA ⟨[(0, (.v (.one (.arr 0)))), (1, (vc (.int .i64 a1))), (5, (vc (.int .i64 (0 : Int))))], [(0, (.arr true a0.length 1 (gl (csF .f32) a0)))]⟩ (Tt ∧ Tt) [] [0, 1, 5] [0] ⟨tr, tr⟩ (thenQ_normal ?_))
  refine AW.block ?_
  refine AW.loopQ (σ := Nat × Int × Int × (List F32)) (fun p => ⟨[(0, (.v (.one (.arr 0)))), (1, (vc (.int .i64 p.2.1))), (5, (vc (.int .i64 p.2.2.1)))], [(0, (.arr true p.2.2.2.length 1 (gl (csF .f32) p.2.2.2)))]⟩) (fun p => laws_markFloat32S_l1 K a0 p.1 p.2.1 p.2.2.1 p.2.2.2 = some o) (fun p => p.1) (K, a1, (0 : Int), a0) h ?_
  clear h
  rintro ⟨k, x4, x5, x6⟩ h
  replace h : laws_markFloat32S_l1 K a0 k x4 x5 x6 = some o := h
  show AW _ _ (⟨[(0, (.v (.one (.arr 0)))), (1, (vc (.int .i64 x4))), (5, (vc (.int .i64 x5)))], [(0, (.arr true x6.length 1 (gl (csF .f32) x6)))]⟩ : St) _
  obtain _ | k := k
  · rw [laws_markFloat32S_l1] at h; cases h
  rw [laws_markFloat32S_l1] at h
  refine AW.seq ?_
  refine AW.seq (AW.rA ⟨[(0, (.v (.one (.arr 0)))), (1, (vc (.int .i64 x4))), (5, (vc (.int .i64 x5))), (9, (vc (.bool (decide (x5 < (x6.length : Int))))))], [(0, (.arr true x6.length 1 (gl (csF .f32) x6)))]⟩ (T4 Tt) [] [0, 1, 5, 9] [0] ⟨tr, tr, tr, tr, tr⟩ (thenQ_normal ?_))
  rcases ite2_cases h with ⟨b7, h⟩ | ⟨b7, h⟩
  · refine AW.cond_t rfl b7 ?_
    refine AW.skip ?_
    refine thenQ_normal ?_
    refine AW.seq ?_
    refine AW.block ?_
    refine AW.seq ?_
    obtain ⟨c8, h⟩ := chk_some h
    refine AW.rA ⟨[(0, (.v (.one (.arr 0)))), (1, (vc (.int .i64 x4))), (5, (vc (.int .i64 x5)))], [(0, (.arr true (x6.set x5.toNat (Fl.ofInt .f32 x4)).length 1 (gl (csF .f32) (x6.set x5.toNat (Fl.ofInt .f32 x4)))))]⟩ (T4 ((0 ≤ x5 ∧ x5 < (x6.length : Int)) ∧ ((x6.set x5.toNat (Fl.ofInt .f32 x4)).length = x6.length ∧ SetOb x6.length 1 x5.toNat 0 1 (gl (csF .f32) x6) (gl (csF .f32) (x6.set x5.toNat (Fl.ofInt .f32 x4))) ∧ ((List.range 1).map fun j => ((csF .f32) (Fl.ofInt .f32 x4)).getD (0 + j) .nilptr) = ((List.range 1).map fun j => gl (csF .f32) (x6.set x5.toNat (Fl.ofInt .f32 x4)) x5.toNat (0 + j)) ∧ ((((.flt .f32 (Fl.ofInt .f32 x4).bits) : C) = (.flt .f32 (Fl.ofInt .f32 x4).bits) ∧ Tt) ∧ Tt) ∧ (true = true → ∀ j, j < 1 → isSeq (gl (csF .f32) x6 x5.toNat (0 + j)) = false ∧ isSeq (gl (csF .f32) (x6.set x5.toNat (Fl.ofInt .f32 x4)) x5.toNat (0 + j)) = false)) ∧ Tt)) [.no, .no, .no, .no, .no, .set (x6.set x5.toNat (Fl.ofInt .f32 x4)).length (gl (csF .f32) (x6.set x5.toNat (Fl.ofInt .f32 x4))) ((List.range 1).map fun j => ((csF .f32) (Fl.ofInt .f32 x4)).getD (0 + j) .nilptr)] [0, 1, 5] [0] ⟨tr, tr, tr, tr, c8, ⟨List.length_set, gl_set, (gl_atp (lt_of_bound c8)).symm, ⟨⟨rfl, tr⟩, tr⟩, (fun _ j hj => match j, hj with | 0, _ => ⟨rfl, rfl⟩)⟩, tr⟩ ?_
    refine thenQ_normal ?_
    refine AW.rA ⟨[(0, (.v (.one (.arr 0)))), (1, (vc (.int .i64 (IntKind.i64.wrap (x4 + (1 : Int)))))), (5, (vc (.int .i64 x5)))], [(0, (.arr true (x6.set x5.toNat (Fl.ofInt .f32 x4)).length 1 (gl (csF .f32) (x6.set x5.toNat (Fl.ofInt .f32 x4)))))]⟩ (Tt ∧ T2 Tt) [] [0, 1, 5] [0] ⟨tr, tr, tr, tr⟩ ?_
    refine blockQ_normal ?_
    refine thenQ_normal ?_
    refine AW.rA ⟨[(0, (.v (.one (.arr 0)))), (1, (vc (.int .i64 (IntKind.i64.wrap (x4 + (1 : Int)))))), (5, (vc (.int .i64 (IntKind.i64.wrap (x5 + (1 : Int))))))], [(0, (.arr true (x6.set x5.toNat (Fl.ofInt .f32 x4)).length 1 (gl (csF .f32) (x6.set x5.toNat (Fl.ofInt .f32 x4)))))]⟩ (Tt ∧ T2 Tt) [] [0, 1, 5] [0] ⟨tr, tr, tr, tr⟩ ?_
    exact loopQ_normal (k, (IntKind.i64.wrap (x4 + (1 : Int))), (IntKind.i64.wrap (x5 + (1 : Int))), (x6.set x5.toNat (Fl.ofInt .f32 x4))) h (Nat.lt_succ_self k) (Sub.keep [0, 1, 5] [0] (by kernel_rfl) (by kernel_rfl))
  · refine AW.cond_f rfl b7 ?_
    refine AW.exit ?_
    refine thenQ_exit ?_
    refine loopQ_exit ?_
    refine blockQ_exit ?_
    refine thenQ_normal ?_
    refine AW.seq (AW.rA ⟨[(0, (.v (.one (.arr 0)))), (1, (vc (.int .i64 x4))), (4, (vc (.int .i64 x4)))], [(0, (.arr true x6.length 1 (gl (csF .f32) x6)))]⟩ (T2 Tt) [] [0, 1, 4] [0] ⟨tr, tr, tr⟩ (thenQ_normal ?_))
    refine AW.ret ?_
    obtain ⟨c9, h⟩ := chk_some h
    replace h := some_eq h
    subst h
    exact ⟨.inr rfl, retOK_of [(.one (.c (.int .i64 x4)))] (by kernel_rfl) ⟨⟨rfl, tr⟩, tr⟩ (of_decide_eq_true (by kernel_rfl)), by kernel_rfl, ⟨⟨c9, rfl, rfl⟩, tr, tr⟩⟩

/-! laws.markString -/
def laws_markString (K : Nat) (a0 : String) (a1 : Int) : Option (Int × (List Vector) × (List Vector) × (List Bool) × (List F32)) :=
  (laws_markVectorS K a0.Points a1).bind fun v1 => chk (v1.2.length = a0.Points.length) ((laws_markVectorS K a0.Before v1.1).bind fun v4 => chk (v4.2.length = a0.Before.length) ((laws_markBoolS K a0.Fixed v4.1).bind fun v7 => chk (v7.2.length = a0.Fixed.length) ((laws_markFloat32S K a0.Lengths v7.1).bind fun v10 => chk (v10.2.length = a0.Lengths.length) (chk (v1.2.length = a0.Points.length) (chk (v4.2.length = a0.Before.length) (chk (v7.2.length = a0.Fixed.length) (chk (v10.2.length = a0.Lengths.length) (some (v10.1, v1.2, v4.2, v7.2, v10.2)))))))))

theorem ok_laws_markString (K : Nat) (a0 : String) (a1 : Int) (o : (Int × (List Vector) × (List Vector) × (List Bool) × (List F32))) (h : laws_markString K a0 a1 = some o) : MutOK Try.prog 9 [(.agg [(.mu (sl 3 cs_Vector a0.Points) (sl 3 cs_Vector o.2.1)), (.mu (sl 3 cs_Vector a0.Before) (sl 3 cs_Vector o.2.2.1)), (.mu (sl 1 csB a0.Fixed) (sl 1 csB o.2.2.2.1)), (.mu (sl 1 (csF .f32) a0.Lengths) (sl 1 (csF .f32) o.2.2.2.2)), (.ro (.flt .f32 a0.Fall.X.bits)), (.ro (.flt .f32 a0.Fall.Y.bits)), (.ro (.flt .f32 a0.Fall.Z.bits)), (.ro (.flt .f32 a0.Damp.bits)), (.ro (.int .i64 a0.Passes))]), (.one (.ro (.int .i64 a1)))] [.one (.int .i64 o.1)] := by
  refine mutOK_of_AW 4 Try.func9 rfl (by kernel_rfl) (Nat.le_of_ble_eq_true (by kernel_rfl)) (by kernel_rfl) (by kernel_rfl) ?_
  intro w0 K0 v0 s0
  unfold laws_markString at h
  refine AW.seq (AW.rA ⟨[(0, (.v (.agg [(.arr 0), (.arr 1), (.arr 2), (.arr 3), (.c (.flt .f32 a0.Fall.X.bits)), (.c (.flt .f32 a0.Fall.Y.bits)), (.c (.flt .f32 a0.Fall.Z.bits)), (.c (.flt .f32 a0.Damp.bits)), (.c (.int .i64 a0.Passes))]))), (1, (vc (.int .i64 a1))), (2, (vp 4 0))], [(0, (.arr true a0.Points.length 3 (gl cs_Vector a0.Points))), (1, (.arr true a0.Before.length 3 (gl cs_Vector a0.Before))), (2, (.arr true a0.Fixed.length 1 (gl csB a0.Fixed))), (3, (.arr true a0.Lengths.length 1 (gl (csF .f32) a0.Lengths))), (4, (.box [(.arr 0), (.arr 1), (.arr 2), (.arr 3), (.c (.flt .f32 a0.Fall.X.bits)), (.c (.flt .f32 a0.Fall.Y.bits)), (.c (.flt .f32 a0.Fall.Z.bits)), (.c (.flt .f32 a0.Damp.bits)), (.c (.int .i64 a0.Passes))]))]⟩ (T2 Tt) [.box 4] [0, 1, 2] [0, 1, 2, 3, 4] ⟨tr, tr, tr⟩ (thenQ_normal ?_))
  refine AW.seq ?_
  obtain ⟨v1, e2, h⟩ := bind_some h
  obtain ⟨c3, h⟩ := chk_some h
  refine AW.rA ⟨[(0, (.v (.agg [(.arr 0), (.arr 1), (.arr 2), (.arr 3), (.c (.flt .f32 a0.Fall.X.bits)), (.c (.flt .f32 a0.Fall.Y.bits)), (.c (.flt .f32 a0.Fall.Z.bits)), (.c (.flt .f32 a0.Damp.bits)), (.c (.int .i64 a0.Passes))]))), (1, (vc (.int .i64 v1.1))), (2, (vp 4 0))], [(0, (.arr true v1.2.length 3 (gl cs_Vector v1.2))), (1, (.arr true a0.Before.length 3 (gl cs_Vector a0.Before))), (2, (.arr true a0.Fixed.length 1 (gl csB a0.Fixed))), (3, (.arr true a0.Lengths.length 1 (gl (csF .f32) a0.Lengths))), (4, (.box [(.arr 0), (.arr 1), (.arr 2), (.arr 3), (.c (.flt .f32 a0.Fall.X.bits)), (.c (.flt .f32 a0.Fall.Y.bits)), (.c (.flt .f32 a0.Fall.Z.bits)), (.c (.flt .f32 a0.Damp.bits)), (.c (.int .i64 a0.Passes))]))]⟩ (Tt ∧ T2 ((((((sl 3 cs_Vector a0.Points) : C) = (sl 3 cs_Vector a0.Points) ∧ v1.2.length = a0.Points.length ∧ 3 = 3 ∧ ∀ i j, i < a0.Points.length → j < 3 → isSeq (gl cs_Vector v1.2 i j) = isSeq (gl cs_Vector a0.Points i j)) ∧ (Eqc (.int .i64 a1)) ∧ Tt) ∧ MutOK Try.prog 26 [(.one (.mu (sl 3 cs_Vector a0.Points) (sl 3 cs_Vector v1.2))), .one (.ro (.int .i64 a1))] [.one (.int .i64 v1.1)]) ∧ Tt ∧ Tt)) [.no, .no, .no, .callM [(.one (.mu (sl 3 cs_Vector a0.Points) (sl 3 cs_Vector v1.2))), .one (.ro (.int .i64 a1))] [.one (.int .i64 v1.1)] [[.view]] none] [0, 1, 2] [0, 1, 2, 3, 4] ⟨tr, tr, tr, ⟨⟨⟨rfl, c3, rfl, gl_seq sq_Vector⟩, rfl, tr⟩, ok_laws_markVectorS K a0.Points a1 v1 e2⟩, tr, tr⟩ ?_
  refine thenQ_normal ?_
  refine AW.seq ?_
  obtain ⟨v4, e5, h⟩ := bind_some h
  obtain ⟨c6, h⟩ := chk_some h
  refine AW.rA ⟨[(0, (.v (.agg [(.arr 0), (.arr 1), (.arr 2), (.arr 3), (.c (.flt .f32 a0.Fall.X.bits)), (.c (.flt .f32 a0.Fall.Y.bits)), (.c (.flt .f32 a0.Fall.Z.bits)), (.c (.flt .f32 a0.Damp.bits)), (.c (.int .i64 a0.Passes))]))), (1, (vc (.int .i64 v4.1))), (2, (vp 4 0))], [(0, (.arr true v1.2.length 3 (gl cs_Vector v1.2))), (1, (.arr true v4.2.length 3 (gl cs_Vector v4.2))), (2, (.arr true a0.Fixed.length 1 (gl csB a0.Fixed))), (3, (.arr true a0.Lengths.length 1 (gl (csF .f32) a0.Lengths))), (4, (.box [(.arr 0), (.arr 1), (.arr 2), (.arr 3), (.c (.flt .f32 a0.Fall.X.bits)), (.c (.flt .f32 a0.Fall.Y.bits)), (.c (.flt .f32 a0.Fall.Z.bits)), (.c (.flt .f32 a0.Damp.bits)), (.c (.int .i64 a0.Passes))]))]⟩ (Tt ∧ T2 ((((((sl 3 cs_Vector a0.Before) : C) = (sl 3 cs_Vector a0.Before) ∧ v4.2.length = a0.Before.length ∧ 3 = 3 ∧ ∀ i j, i < a0.Before.length → j < 3 → isSeq (gl cs_Vector v4.2 i j) = isSeq (gl cs_Vector a0.Before i j)) ∧ (Eqc (.int .i64 v1.1)) ∧ Tt) ∧ MutOK Try.prog 26 [(.one (.mu (sl 3 cs_Vector a0.Before) (sl 3 cs_Vector v4.2))), .one (.ro (.int .i64 v1.1))] [.one (.int .i64 v4.1)]) ∧ Tt ∧ Tt)) [.no, .no, .no, .callM [(.one (.mu (sl 3 cs_Vector a0.Before) (sl 3 cs_Vector v4.2))), .one (.ro (.int .i64 v1.1))] [.one (.int .i64 v4.1)] [[.view]] none] [0, 1, 2] [0, 1, 2, 3, 4] ⟨tr, tr, tr, ⟨⟨⟨rfl, c6, rfl, gl_seq sq_Vector⟩, rfl, tr⟩, ok_laws_markVectorS K a0.Before v1.1 v4 e5⟩, tr, tr⟩ ?_
  refine thenQ_normal ?_
  refine AW.seq ?_
  obtain ⟨v7, e8, h⟩ := bind_some h
  obtain ⟨c9, h⟩ := chk_some h
  refine AW.rA ⟨[(0, (.v (.agg [(.arr 0), (.arr 1), (.arr 2), (.arr 3), (.c (.flt .f32 a0.Fall.X.bits)), (.c (.flt .f32 a0.Fall.Y.bits)), (.c (.flt .f32 a0.Fall.Z.bits)), (.c (.flt .f32 a0.Damp.bits)), (.c (.int .i64 a0.Passes))]))), (1, (vc (.int .i64 v7.1))), (2, (vp 4 0))], [(0, (.arr true v1.2.length 3 (gl cs_Vector v1.2))), (1, (.arr true v4.2.length 3 (gl cs_Vector v4.2))), (2, (.arr true v7.2.length 1 (gl csB v7.2))), (3, (.arr true a0.Lengths.length 1 (gl (csF .f32) a0.Lengths))), (4, (.box [(.arr 0), (.arr 1), (.arr 2), (.arr 3), (.c (.flt .f32 a0.Fall.X.bits)), (.c (.flt .f32 a0.Fall.Y.bits)), (.c (.flt .f32 a0.Fall.Z.bits)), (.c (.flt .f32 a0.Damp.bits)), (.c (.int .i64 a0.Passes))]))]⟩ (Tt ∧ T2 ((((((sl 1 csB a0.Fixed) : C) = (sl 1 csB a0.Fixed) ∧ v7.2.length = a0.Fixed.length ∧ 1 = 1 ∧ ∀ i j, i < a0.Fixed.length → j < 1 → isSeq (gl csB v7.2 i j) = isSeq (gl csB a0.Fixed i j)) ∧ (Eqc (.int .i64 v4.1)) ∧ Tt) ∧ MutOK Try.prog 27 [(.one (.mu (sl 1 csB a0.Fixed) (sl 1 csB v7.2))), .one (.ro (.int .i64 v4.1))] [.one (.int .i64 v7.1)]) ∧ Tt ∧ Tt)) [.no, .no, .no, .callM [(.one (.mu (sl 1 csB a0.Fixed) (sl 1 csB v7.2))), .one (.ro (.int .i64 v4.1))] [.one (.int .i64 v7.1)] [[.view]] none] [0, 1, 2] [0, 1, 2, 3, 4] ⟨tr, tr, tr, ⟨⟨⟨rfl, c9, rfl, gl_seq sqB⟩, rfl, tr⟩, ok_laws_markBoolS K a0.Fixed v4.1 v7 e8⟩, tr, tr⟩ ?_
  refine thenQ_normal ?_
  refine AW.seq ?_
  obtain ⟨v10, e11, h⟩ := bind_some h
  obtain ⟨c12, h⟩ := chk_some h
  refine AW.rA ⟨[(0, (.v (.agg [(.arr 0), (.arr 1), (.arr 2), (.arr 3), (.c (.flt .f32 a0.Fall.X.bits)), (.c (.flt .f32 a0.Fall.Y.bits)), (.c (.flt .f32 a0.Fall.Z.bits)), (.c (.flt .f32 a0.Damp.bits)), (.c (.int .i64 a0.Passes))]))), (1, (vc (.int .i64 v10.1)))], [(0, (.arr true v1.2.length 3 (gl cs_Vector v1.2))), (1, (.arr true v4.2.length 3 (gl cs_Vector v4.2))), (2, (.arr true v7.2.length 1 (gl csB v7.2))), (3, (.arr true v10.2.length 1 (gl (csF .f32) v10.2)))]⟩ (Tt ∧ T2 ((((((sl 1 (csF .f32) a0.Lengths) : C) = (sl 1 (csF .f32) a0.Lengths) ∧ v10.2.length = a0.Lengths.length ∧ 1 = 1 ∧ ∀ i j, i < a0.Lengths.length → j < 1 → isSeq (gl (csF .f32) v10.2 i j) = isSeq (gl (csF .f32) a0.Lengths i j)) ∧ (Eqc (.int .i64 v7.1)) ∧ Tt) ∧ MutOK Try.prog 28 [(.one (.mu (sl 1 (csF .f32) a0.Lengths) (sl 1 (csF .f32) v10.2))), .one (.ro (.int .i64 v7.1))] [.one (.int .i64 v10.1)]) ∧ Tt ∧ Tt)) [.no, .no, .no, .callM [(.one (.mu (sl 1 (csF .f32) a0.Lengths) (sl 1 (csF .f32) v10.2))), .one (.ro (.int .i64 v7.1))] [.one (.int .i64 v10.1)] [[.view]] none] [0, 1] [0, 1, 2, 3] ⟨tr, tr, tr, ⟨⟨⟨rfl, c12, rfl, gl_seq sqF⟩, rfl, tr⟩, ok_laws_markFloat32S K a0.Lengths v7.1 v10 e11⟩, tr, tr⟩ ?_
  refine thenQ_normal ?_
  refine AW.seq (AW.rA ⟨[(0, (.v (.agg [(.arr 0), (.arr 1), (.arr 2), (.arr 3), (.c (.flt .f32 a0.Fall.X.bits)), (.c (.flt .f32 a0.Fall.Y.bits)), (.c (.flt .f32 a0.Fall.Z.bits)), (.c (.flt .f32 a0.Damp.bits)), (.c (.int .i64 a0.Passes))]))), (1, (vc (.int .i64 v10.1))), (4, (vc (.int .i64 v10.1)))], [(0, (.arr true v1.2.length 3 (gl cs_Vector v1.2))), (1, (.arr true v4.2.length 3 (gl cs_Vector v4.2))), (2, (.arr true v7.2.length 1 (gl csB v7.2))), (3, (.arr true v10.2.length 1 (gl (csF .f32) v10.2)))]⟩ (T2 Tt) [] [0, 1, 4] [0, 1, 2, 3] ⟨tr, tr, tr⟩ (thenQ_normal ?_))
  refine AW.ret ?_
  obtain ⟨c13, h⟩ := chk_some h
  obtain ⟨c14, h⟩ := chk_some h
  obtain ⟨c15, h⟩ := chk_some h
  obtain ⟨c16, h⟩ := chk_some h
  replace h := some_eq h
  subst h
  exact ⟨.inr rfl, retOK_of [(.one (.c (.int .i64 v10.1)))] (by kernel_rfl) ⟨⟨rfl, tr⟩, tr⟩ (of_decide_eq_true (by kernel_rfl)), by kernel_rfl, ⟨⟨⟨c13, rfl, rfl⟩, ⟨c14, rfl, rfl⟩, ⟨c15, rfl, rfl⟩, ⟨c16, rfl, rfl⟩, tr, tr, tr, tr, tr, tr⟩, tr, tr⟩⟩

/-! laws.heldVectorS -/
def laws_heldVectorS_l1 (K : Nat) (a0 : (List Vector)) : Nat → Int → Int → Option (Int)
  | 0, _, _ => none
  | k + 1, x3, x4 => ite2 ((decide (x4 < (a0.length : Int)))) (chk (0 ≤ x4 ∧ x4 < (a0.length : Int)) (ite2 ((((a0.getD x4.toNat default).X).ne (Fl.ofInt .f32 x3))) (some ((-1) : Int)) (ite2 ((((a0.getD x4.toNat default).Y).ne (Fl.ofInt .f32 (IntKind.i64.wrap (x3 + (1 : Int)))))) (some ((-1) : Int)) (ite2 ((((a0.getD x4.toNat default).Z).ne (Fl.ofInt .f32 (IntKind.i64.wrap ((IntKind.i64.wrap (x3 + (1 : Int))) + (1 : Int)))))) (some ((-1) : Int)) (laws_heldVectorS_l1 K a0 k (IntKind.i64.wrap ((IntKind.i64.wrap ((IntKind.i64.wrap (x3 + (1 : Int))) + (1 : Int))) + (1 : Int))) (IntKind.i64.wrap (x4 + (1 : Int)))))))) (some x3)

def laws_heldVectorS (K : Nat) (a0 : (List Vector)) (a1 : Int) : Option (Int) :=
  laws_heldVectorS_l1 K a0 K a1 (0 : Int)

theorem ok_laws_heldVectorS (K : Nat) (a0 : (List Vector)) (a1 : Int) (o : (Int)) (h : laws_heldVectorS K a0 a1 = some o) : CallOK Try.prog 29 [.one (sl 3 cs_Vector a0), .one (.int .i64 a1)] [.one (.int .i64 o)] := by
  refine callOK_of_AW Try.func29 rfl (by kernel_rfl) (Nat.le_of_ble_eq_true (by kernel_rfl)) ?_
  intro w0
  unfold laws_heldVectorS at h
  refine AW.seq (AW.rA ⟨[(0, (vc (sl 3 cs_Vector a0))), (1, (vc (.int .i64 a1)))], []⟩ (Tt ∧ Tt) [] [0, 1] [] ⟨tr, tr⟩ (thenQ_normal ?_))
  refine AW.seq ?_
  refine AW.seq (AW.rA ⟨[(0, (vc (sl 3 cs_Vector a0))), (1, (vc (.int .i64 a1))), (5, (vc (.int .i64 (0 : Int))))], []⟩ (Tt ∧ Tt) [] [0, 1, 5] [] ⟨tr, tr⟩ (thenQ_normal ?_))
  refine AW.block ?_
  refine AW.loopQ (σ := Nat × Int × Int) (fun p => ⟨[(0, (vc (sl 3 cs_Vector a0))), (1, (vc (.int .i64 p.2.1))), (5, (vc (.int .i64 p.2.2)))], []⟩) (fun p => laws_heldVectorS_l1 K a0 p.1 p.2.1 p.2.2 = some o) (fun p => p.1) (K, a1, (0 : Int)) h ?_
  clear h
  rintro ⟨k, x3, x4⟩ h
  replace h : laws_heldVectorS_l1 K a0 k x3 x4 = some o := h
  show AW _ _ (⟨[(0, (vc (sl 3 cs_Vector a0))), (1, (vc (.int .i64 x3))), (5, (vc (.int .i64 x4)))], []⟩ : St) _
  obtain _ | k := k
  · rw [laws_heldVectorS_l1] at h; cases h
  rw [laws_heldVectorS_l1] at h
  refine AW.seq ?_
  refine AW.seq (AW.rA ⟨[(0, (vc (sl 3 cs_Vector a0))), (1, (vc (.int .i64 x3))), (5, (vc (.int .i64 x4))), (9, (vc (.bool (decide (x4 < (a0.length : Int))))))], []⟩ (T4 Tt) [] [0, 1, 5, 9] [] ⟨tr, tr, tr, tr, tr⟩ (thenQ_normal ?_))
  rcases ite2_cases h with ⟨b5, h⟩ | ⟨b5, h⟩
  · refine AW.cond_t rfl b5 ?_
    refine AW.skip ?_
    refine thenQ_normal ?_
    refine AW.seq ?_
    refine AW.block ?_
    refine AW.seq ?_
    refine AW.seq ?_
    obtain ⟨c6, h⟩ := chk_some h
    refine AW.rA ⟨[(0, (vc (sl 3 cs_Vector a0))), (1, (vc (.int .i64 x3))), (5, (vc (.int .i64 x4))), (19, (vc (.bool (((a0.getD x4.toNat default).X).ne (Fl.ofInt .f32 x3)))))], []⟩ (T2 ((0 ≤ x4 ∧ x4 < (a0.length : Int)) ∧ Tt ∧ T4 Tt)) [] [0, 1, 5, 19] [] ⟨tr, tr, c6, tr, tr, tr, tr, tr, tr⟩ ?_
    refine thenQ_normal ?_
    rcases ite2_cases h with ⟨b7, h⟩ | ⟨b7, h⟩
    · refine AW.cond_t rfl b7 ?_
      refine AW.seq (AW.rA ⟨[(4, (vc (.int .i64 ((-1) : Int))))], []⟩ (Tt ∧ Tt) [] [4] [] ⟨tr, tr⟩ (thenQ_normal ?_))
      refine AW.ret ?_
      refine thenQ_ret ?_
      refine blockQ_ret ?_
      refine thenQ_ret ?_
      refine loopQ_ret ?_
      refine blockQ_ret ?_
      refine thenQ_ret ?_
      replace h := some_eq h
      subst h
      exact ⟨.inr rfl, retOK_of [(.one (.c (.int .i64 ((-1) : Int))))] (by kernel_rfl) ⟨⟨rfl, tr⟩, tr⟩ (of_decide_eq_true (by kernel_rfl))⟩
    · refine AW.cond_f rfl b7 ?_
      refine AW.skip ?_
      refine thenQ_normal ?_
      refine AW.seq (AW.rA ⟨[(0, (vc (sl 3 cs_Vector a0))), (1, (vc (.int .i64 (IntKind.i64.wrap (x3 + (1 : Int)))))), (5, (vc (.int .i64 x4)))], []⟩ (Tt ∧ T2 Tt) [] [0, 1, 5] [] ⟨tr, tr, tr, tr⟩ (thenQ_normal ?_))
      refine AW.seq ?_
      refine AW.seq (AW.rA ⟨[(0, (vc (sl 3 cs_Vector a0))), (1, (vc (.int .i64 (IntKind.i64.wrap (x3 + (1 : Int)))))), (5, (vc (.int .i64 x4))), (29, (vc (.bool (((a0.getD x4.toNat default).Y).ne (Fl.ofInt .f32 (IntKind.i64.wrap (x3 + (1 : Int))))))))], []⟩ (T2 ((0 ≤ x4 ∧ x4 < (a0.length : Int)) ∧ Tt ∧ T4 Tt)) [] [0, 1, 5, 29] [] ⟨tr, tr, c6, tr, tr, tr, tr, tr, tr⟩ (thenQ_normal ?_))
      rcases ite2_cases h with ⟨b8, h⟩ | ⟨b8, h⟩
      · refine AW.cond_t rfl b8 ?_
        refine AW.seq (AW.rA ⟨[(4, (vc (.int .i64 ((-1) : Int))))], []⟩ (Tt ∧ Tt) [] [4] [] ⟨tr, tr⟩ (thenQ_normal ?_))
        refine AW.ret ?_
        refine thenQ_ret ?_
        refine blockQ_ret ?_
        refine thenQ_ret ?_
        refine loopQ_ret ?_
        refine blockQ_ret ?_
        refine thenQ_ret ?_
        replace h := some_eq h
        subst h
        exact ⟨.inr rfl, retOK_of [(.one (.c (.int .i64 ((-1) : Int))))] (by kernel_rfl) ⟨⟨rfl, tr⟩, tr⟩ (of_decide_eq_true (by kernel_rfl))⟩
      · refine AW.cond_f rfl b8 ?_
        refine AW.skip ?_
        refine thenQ_normal ?_
        refine AW.seq (AW.rA ⟨[(0, (vc (sl 3 cs_Vector a0))), (1, (vc (.int .i64 (IntKind.i64.wrap ((IntKind.i64.wrap (x3 + (1 : Int))) + (1 : Int)))))), (5, (vc (.int .i64 x4)))], []⟩ (Tt ∧ T2 Tt) [] [0, 1, 5] [] ⟨tr, tr, tr, tr⟩ (thenQ_normal ?_))
        refine AW.seq ?_
        refine AW.seq (AW.rA ⟨[(0, (vc (sl 3 cs_Vector a0))), (1, (vc (.int .i64 (IntKind.i64.wrap ((IntKind.i64.wrap (x3 + (1 : Int))) + (1 : Int)))))), (5, (vc (.int .i64 x4))), (39, (vc (.bool (((a0.getD x4.toNat default).Z).ne (Fl.ofInt .f32 (IntKind.i64.wrap ((IntKind.i64.wrap (x3 + (1 : Int))) + (1 : Int))))))))], []⟩ (T2 ((0 ≤ x4 ∧ x4 < (a0.length : Int)) ∧ Tt ∧ T4 Tt)) [] [0, 1, 5, 39] [] ⟨tr, tr, c6, tr, tr, tr, tr, tr, tr⟩ (thenQ_normal ?_))
        rcases ite2_cases h with ⟨b9, h⟩ | ⟨b9, h⟩
        · refine AW.cond_t rfl b9 ?_
          refine AW.seq (AW.rA ⟨[(4, (vc (.int .i64 ((-1) : Int))))], []⟩ (Tt ∧ Tt) [] [4] [] ⟨tr, tr⟩ (thenQ_normal ?_))
          refine AW.ret ?_
          refine thenQ_ret ?_
          refine blockQ_ret ?_
          refine thenQ_ret ?_
          refine loopQ_ret ?_
          refine blockQ_ret ?_
          refine thenQ_ret ?_
          replace h := some_eq h
          subst h
          exact ⟨.inr rfl, retOK_of [(.one (.c (.int .i64 ((-1) : Int))))] (by kernel_rfl) ⟨⟨rfl, tr⟩, tr⟩ (of_decide_eq_true (by kernel_rfl))⟩
        · refine AW.cond_f rfl b9 ?_
          refine AW.skip ?_
          refine thenQ_normal ?_
          refine AW.rA ⟨[(0, (vc (sl 3 cs_Vector a0))), (1, (vc (.int .i64 (IntKind.i64.wrap ((IntKind.i64.wrap ((IntKind.i64.wrap (x3 + (1 : Int))) + (1 : Int))) + (1 : Int)))))), (5, (vc (.int .i64 x4)))], []⟩ (Tt ∧ T2 Tt) [] [0, 1, 5] [] ⟨tr, tr, tr, tr⟩ ?_
          refine blockQ_normal ?_
          refine thenQ_normal ?_
          refine AW.rA ⟨[(0, (vc (sl 3 cs_Vector a0))), (1, (vc (.int .i64 (IntKind.i64.wrap ((IntKind.i64.wrap ((IntKind.i64.wrap (x3 + (1 : Int))) + (1 : Int))) + (1 : Int)))))), (5, (vc (.int .i64 (IntKind.i64.wrap (x4 + (1 : Int))))))], []⟩ (Tt ∧ T2 Tt) [] [0, 1, 5] [] ⟨tr, tr, tr, tr⟩ ?_
          exact loopQ_normal (k, (IntKind.i64.wrap ((IntKind.i64.wrap ((IntKind.i64.wrap (x3 + (1 : Int))) + (1 : Int))) + (1 : Int))), (IntKind.i64.wrap (x4 + (1 : Int)))) h (Nat.lt_succ_self k) (Sub.keep [0, 1, 5] [] (by kernel_rfl) (by kernel_rfl))
  · refine AW.cond_f rfl b5 ?_
    refine AW.exit ?_
    refine thenQ_exit ?_
    refine loopQ_exit ?_
    refine blockQ_exit ?_
    refine thenQ_normal ?_
    refine AW.seq (AW.rA ⟨[(4, (vc (.int .i64 x3)))], []⟩ (T2 Tt) [] [4] [] ⟨tr, tr, tr⟩ (thenQ_normal ?_))
    refine AW.ret ?_
    replace h := some_eq h
    subst h
    exact ⟨.inr rfl, retOK_of [(.one (.c (.int .i64 x3)))] (by kernel_rfl) ⟨⟨rfl, tr⟩, tr⟩ (of_decide_eq_true (by kernel_rfl))⟩

/-! laws.heldBoolS -/
def laws_heldBoolS_l1 (K : Nat) (a0 : (List Bool)) : Nat → Int → Int → Option (Int)
  | 0, _, _ => none
  | k + 1, x3, x4 => ite2 ((decide (x4 < (a0.length : Int)))) (chk (0 ≤ x4 ∧ x4 < (a0.length : Int)) (chk ((3 : Int) ≠ 0) (ite2 ((!((a0.getD x4.toNat default) == ((x3.tmod (3 : Int)) == (0 : Int))))) (some ((-1) : Int)) (laws_heldBoolS_l1 K a0 k (IntKind.i64.wrap (x3 + (1 : Int))) (IntKind.i64.wrap (x4 + (1 : Int))))))) (some x3)

def laws_heldBoolS (K : Nat) (a0 : (List Bool)) (a1 : Int) : Option (Int) :=
  laws_heldBoolS_l1 K a0 K a1 (0 : Int)

theorem ok_laws_heldBoolS (K : Nat) (a0 : (List Bool)) (a1 : Int) (o : (Int)) (h : laws_heldBoolS K a0 a1 = some o) : CallOK Try.prog 30 [.one (sl 1 csB a0), .one (.int .i64 a1)] [.one (.int .i64 o)] := by
  refine callOK_of_AW Try.func30 rfl (by kernel_rfl) (Nat.le_of_ble_eq_true (by kernel_rfl)) ?_
  intro w0
  unfold laws_heldBoolS at h
  refine AW.seq (AW.rA ⟨[(0, (vc (sl 1 csB a0))), (1, (vc (.int .i64 a1)))], []⟩ (Tt ∧ Tt) [] [0, 1] [] ⟨tr, tr⟩ (thenQ_normal ?_))
  refine AW.seq ?_
  refine AW.seq (AW.rA ⟨[(0, (vc (sl 1 csB a0))), (1, (vc (.int .i64 a1))), (5, (vc (.int .i64 (0 : Int))))], []⟩ (Tt ∧ Tt) [] [0, 1, 5] [] ⟨tr, tr⟩ (thenQ_normal ?_))
  refine AW.block ?_
  refine AW.loopQ (σ := Nat × Int × Int) (fun p => ⟨[(0, (vc (sl 1 csB a0))), (1, (vc (.int .i64 p.2.1))), (5, (vc (.int .i64 p.2.2)))], []⟩) (fun p => laws_heldBoolS_l1 K a0 p.1 p.2.1 p.2.2 = some o) (fun p => p.1) (K, a1, (0 : Int)) h ?_
  clear h
  rintro ⟨k, x3, x4⟩ h
  replace h : laws_heldBoolS_l1 K a0 k x3 x4 = some o := h
  show AW _ _ (⟨[(0, (vc (sl 1 csB a0))), (1, (vc (.int .i64 x3))), (5, (vc (.int .i64 x4)))], []⟩ : St) _
  obtain _ | k := k
  · rw [laws_heldBoolS_l1] at h; cases h
  rw [laws_heldBoolS_l1] at h
  refine AW.seq ?_
  refine AW.seq (AW.rA ⟨[(0, (vc (sl 1 csB a0))), (1, (vc (.int .i64 x3))), (5, (vc (.int .i64 x4))), (9, (vc (.bool (decide (x4 < (a0.length : Int))))))], []⟩ (T4 Tt) [] [0, 1, 5, 9] [] ⟨tr, tr, tr, tr, tr⟩ (thenQ_normal ?_))
  rcases ite2_cases h with ⟨b5, h⟩ | ⟨b5, h⟩
  · refine AW.cond_t rfl b5 ?_
    refine AW.skip ?_
    refine thenQ_normal ?_
    refine AW.seq ?_
    refine AW.block ?_
    refine AW.seq ?_
    refine AW.seq ?_
    obtain ⟨c6, h⟩ := chk_some h
    obtain ⟨c7, h⟩ := chk_some h
    refine AW.rA ⟨[(0, (vc (sl 1 csB a0))), (1, (vc (.int .i64 x3))), (5, (vc (.int .i64 x4))), (19, (vc (.bool (!((a0.getD x4.toNat default) == ((x3.tmod (3 : Int)) == (0 : Int)))))))], []⟩ (T2 ((0 ≤ x4 ∧ x4 < (a0.length : Int)) ∧ T2 (((3 : Int) ≠ 0) ∧ T2 Tt))) [] [0, 1, 5, 19] [] ⟨tr, tr, c6, tr, tr, c7, tr, tr, tr⟩ ?_
    refine thenQ_normal ?_
    rcases ite2_cases h with ⟨b8, h⟩ | ⟨b8, h⟩
    · refine AW.cond_t rfl b8 ?_
      refine AW.seq (AW.rA ⟨[(4, (vc (.int .i64 ((-1) : Int))))], []⟩ (Tt ∧ Tt) [] [4] [] ⟨tr, tr⟩ (thenQ_normal ?_))
      refine AW.ret ?_
      refine thenQ_ret ?_
      refine blockQ_ret ?_
      refine thenQ_ret ?_
      refine loopQ_ret ?_
      refine blockQ_ret ?_
      refine thenQ_ret ?_
      replace h := some_eq h
      subst h
      exact ⟨.inr rfl, retOK_of [(.one (.c (.int .i64 ((-1) : Int))))] (by kernel_rfl) ⟨⟨rfl, tr⟩, tr⟩ (of_decide_eq_true (by kernel_rfl))⟩
    · refine AW.cond_f rfl b8 ?_
      refine AW.skip ?_
      refine thenQ_normal ?_
      refine AW.rA ⟨[(0, (vc (sl 1 csB a0))), (1, (vc (.int .i64 (IntKind.i64.wrap (x3 + (1 : Int)))))), (5, (vc (.int .i64 x4)))], []⟩ (Tt ∧ T2 Tt) [] [0, 1, 5] [] ⟨tr, tr, tr, tr⟩ ?_
      refine blockQ_normal ?_
      refine thenQ_normal ?_
      refine AW.rA ⟨[(0, (vc (sl 1 csB a0))), (1, (vc (.int .i64 (IntKind.i64.wrap (x3 + (1 : Int)))))), (5, (vc (.int .i64 (IntKind.i64.wrap (x4 + (1 : Int))))))], []⟩ (Tt ∧ T2 Tt) [] [0, 1, 5] [] ⟨tr, tr, tr, tr⟩ ?_
      exact loopQ_normal (k, (IntKind.i64.wrap (x3 + (1 : Int))), (IntKind.i64.wrap (x4 + (1 : Int)))) h (Nat.lt_succ_self k) (Sub.keep [0, 1, 5] [] (by kernel_rfl) (by kernel_rfl))
  · refine AW.cond_f rfl b5 ?_
    refine AW.exit ?_
    refine thenQ_exit ?_
    refine loopQ_exit ?_
    refine blockQ_exit ?_
    refine thenQ_normal ?_
    refine AW.seq (AW.rA ⟨[(4, (vc (.int .i64 x3)))], []⟩ (T2 Tt) [] [4] [] ⟨tr, tr, tr⟩ (thenQ_normal ?_))
    refine AW.ret ?_
    replace h := some_eq h
    subst h
    exact ⟨.inr rfl, retOK_of [(.one (.c (.int .i64 x3)))] (by kernel_rfl) ⟨⟨rfl, tr⟩, tr⟩ (of_decide_eq_true (by kernel_rfl))⟩

/-! laws.heldFloat32S -/
def laws_heldFloat32S_l1 (K : Nat) (a0 : (List F32)) : Nat → Int → Int → Option (Int)
  | 0, _, _ => none
  | k + 1, x3, x4 => ite2 ((decide (x4 < (a0.length : Int)))) (chk (0 ≤ x4 ∧ x4 < (a0.length : Int)) (ite2 (((a0.getD x4.toNat default).ne (Fl.ofInt .f32 x3))) (some ((-1) : Int)) (laws_heldFloat32S_l1 K a0 k (IntKind.i64.wrap (x3 + (1 : Int))) (IntKind.i64.wrap (x4 + (1 : Int)))))) (some x3)

def laws_heldFloat32S (K : Nat) (a0 : (List F32)) (a1 : Int) : Option (Int) :=
  laws_heldFloat32S_l1 K a0 K a1 (0 : Int)

theorem ok_laws_heldFloat32S (K : Nat) (a0 : (List F32)) (a1 : Int) (o : (Int)) (h : laws_heldFloat32S K a0 a1 = some o) : CallOK Try.prog 31 [.one (sl 1 (csF .f32) a0), .one (.int .i64 a1)] [.one (.int .i64 o)] := by
  refine callOK_of_AW Try.func31 rfl (by kernel_rfl) (Nat.le_of_ble_eq_true (by kernel_rfl)) ?_
  intro w0
  unfold laws_heldFloat32S at h
  refine AW.seq (AW.rA ⟨[(0, (vc (sl 1 (csF .f32) a0))), (1, (vc (.int .i64 a1)))], []⟩ (Tt ∧ Tt) [] [0, 1] [] ⟨tr, tr⟩ (thenQ_normal ?_))
  refine AW.seq ?_
  refine AW.seq (AW.rA ⟨[(0, (vc (sl 1 (csF .f32) a0))), (1, (vc (.int .i64 a1))), (5, (vc (.int .i64 (0 : Int))))], []⟩ (Tt ∧ Tt) [] [0, 1, 5] [] ⟨tr, tr⟩ (thenQ_normal ?_))
  refine AW.block ?_
  refine AW.loopQ (σ := Nat × Int × Int) (fun p => ⟨[(0, (vc (sl 1 (csF .f32) a0))), (1, (vc (.int .i64 p.2.1))), (5, (vc (.int .i64 p.2.2)))], []⟩) (fun p => laws_heldFloat32S_l1 K a0 p.1 p.2.1 p.2.2 = some o) (fun p => p.1) (K, a1, (0 : Int)) h ?_
  clear h
  rintro ⟨k, x3, x4⟩ h
  replace h : laws_heldFloat32S_l1 K a0 k x3 x4 = some o := h
  show AW _ _ (⟨[(0, (vc (sl 1 (csF .f32) a0))), (1, (vc (.int .i64 x3))), (5, (vc (.int .i64 x4)))], []⟩ : St) _
  obtain _ | k := k
  · rw [laws_heldFloat32S_l1] at h; cases h
  rw [laws_heldFloat32S_l1] at h
  refine AW.seq ?_
  refine AW.seq (AW.rA ⟨[(0, (vc (sl 1 (csF .f32) a0))), (1, (vc (.int .i64 x3))), (5, (vc (.int .i64 x4))), (9, (vc (.bool (decide (x4 < (a0.length : Int))))))], []⟩ (T4 Tt) [] [0, 1, 5, 9] [] ⟨tr, tr, tr, tr, tr⟩ (thenQ_normal ?_))
  rcases ite2_cases h with ⟨b5, h⟩ | ⟨b5, h⟩
  · refine AW.cond_t rfl b5 ?_
    refine AW.skip ?_
    refine thenQ_normal ?_
    refine AW.seq ?_
    refine AW.block ?_
    refine AW.seq ?_
    refine AW.seq ?_
    obtain ⟨c6, h⟩ := chk_some h
    refine AW.rA ⟨[(0, (vc (sl 1 (csF .f32) a0))), (1, (vc (.int .i64 x3))), (5, (vc (.int .i64 x4))), (18, (vc (.bool ((a0.getD x4.toNat default).ne (Fl.ofInt .f32 x3)))))], []⟩ (T2 ((0 ≤ x4 ∧ x4 < (a0.length : Int)) ∧ T4 Tt)) [] [0, 1, 5, 18] [] ⟨tr, tr, c6, tr, tr, tr, tr, tr⟩ ?_
    refine thenQ_normal ?_
    rcases ite2_cases h with ⟨b7, h⟩ | ⟨b7, h⟩
    · refine AW.cond_t rfl b7 ?_
      refine AW.seq (AW.rA ⟨[(4, (vc (.int .i64 ((-1) : Int))))], []⟩ (Tt ∧ Tt) [] [4] [] ⟨tr, tr⟩ (thenQ_normal ?_))
      refine AW.ret ?_
      refine thenQ_ret ?_
      refine blockQ_ret ?_
      refine thenQ_ret ?_
      refine loopQ_ret ?_
      refine blockQ_ret ?_
      refine thenQ_ret ?_
      replace h := some_eq h
      subst h
      exact ⟨.inr rfl, retOK_of [(.one (.c (.int .i64 ((-1) : Int))))] (by kernel_rfl) ⟨⟨rfl, tr⟩, tr⟩ (of_decide_eq_true (by kernel_rfl))⟩
    · refine AW.cond_f rfl b7 ?_
      refine AW.skip ?_
      refine thenQ_normal ?_
      refine AW.rA ⟨[(0, (vc (sl 1 (csF .f32) a0))), (1, (vc (.int .i64 (IntKind.i64.wrap (x3 + (1 : Int)))))), (5, (vc (.int .i64 x4)))], []⟩ (Tt ∧ T2 Tt) [] [0, 1, 5] [] ⟨tr, tr, tr, tr⟩ ?_
      refine blockQ_normal ?_
      refine thenQ_normal ?_
      refine AW.rA ⟨[(0, (vc (sl 1 (csF .f32) a0))), (1, (vc (.int .i64 (IntKind.i64.wrap (x3 + (1 : Int)))))), (5, (vc (.int .i64 (IntKind.i64.wrap (x4 + (1 : Int))))))], []⟩ (Tt ∧ T2 Tt) [] [0, 1, 5] [] ⟨tr, tr, tr, tr⟩ ?_
      exact loopQ_normal (k, (IntKind.i64.wrap (x3 + (1 : Int))), (IntKind.i64.wrap (x4 + (1 : Int)))) h (Nat.lt_succ_self k) (Sub.keep [0, 1, 5] [] (by kernel_rfl) (by kernel_rfl))
  · refine AW.cond_f rfl b5 ?_
    refine AW.exit ?_
    refine thenQ_exit ?_
    refine loopQ_exit ?_
    refine blockQ_exit ?_
    refine thenQ_normal ?_
    refine AW.seq (AW.rA ⟨[(4, (vc (.int .i64 x3)))], []⟩ (T2 Tt) [] [4] [] ⟨tr, tr, tr⟩ (thenQ_normal ?_))
    refine AW.ret ?_
    replace h := some_eq h
    subst h
    exact ⟨.inr rfl, retOK_of [(.one (.c (.int .i64 x3)))] (by kernel_rfl) ⟨⟨rfl, tr⟩, tr⟩ (of_decide_eq_true (by kernel_rfl))⟩

/-! laws.heldString -/
def laws_heldString (K : Nat) (a0 : String) (a1 : Int) : Option (Int) :=
  (laws_heldVectorS K a0.Points a1).bind fun v1 => ite2 ((decide (v1 < (0 : Int)))) (some ((-1) : Int)) ((laws_heldVectorS K a0.Before v1).bind fun v4 => ite2 ((decide (v4 < (0 : Int)))) (some ((-1) : Int)) ((laws_heldBoolS K a0.Fixed v4).bind fun v7 => ite2 ((decide (v7 < (0 : Int)))) (some ((-1) : Int)) ((laws_heldFloat32S K a0.Lengths v7).bind fun v10 => ite2 ((decide (v10 < (0 : Int)))) (some ((-1) : Int)) (some v10))))

theorem ok_laws_heldString (K : Nat) (a0 : String) (a1 : Int) (o : (Int)) (h : laws_heldString K a0 a1 = some o) : CallOK Try.prog 10 [.agg (cs_String a0), .one (.int .i64 a1)] [.one (.int .i64 o)] := by
  refine callOK_of_AW Try.func10 rfl (by kernel_rfl) (Nat.le_of_ble_eq_true (by kernel_rfl)) ?_
  intro w0
  unfold laws_heldString at h
  refine AW.seq (AW.rA ⟨[(1, (vc (.int .i64 a1))), (2, (vp 1 0))], [(1, (.box [(.c (sl 3 cs_Vector a0.Points)), (.c (sl 3 cs_Vector a0.Before)), (.c (sl 1 csB a0.Fixed)), (.c (sl 1 (csF .f32) a0.Lengths)), (.c (.flt .f32 a0.Fall.X.bits)), (.c (.flt .f32 a0.Fall.Y.bits)), (.c (.flt .f32 a0.Fall.Z.bits)), (.c (.flt .f32 a0.Damp.bits)), (.c (.int .i64 a0.Passes))]))]⟩ (T2 Tt) [.box 1] [1, 2] [1] ⟨tr, tr, tr⟩ (thenQ_normal ?_))
  refine AW.seq ?_
  obtain ⟨v1, e2, h⟩ := bind_some h
  refine AW.rA ⟨[(1, (vc (.int .i64 v1))), (2, (vp 1 0))], [(1, (.box [(.c (sl 3 cs_Vector a0.Points)), (.c (sl 3 cs_Vector a0.Before)), (.c (sl 1 csB a0.Fixed)), (.c (sl 1 (csF .f32) a0.Lengths)), (.c (.flt .f32 a0.Fall.X.bits)), (.c (.flt .f32 a0.Fall.Y.bits)), (.c (.flt .f32 a0.Fall.Z.bits)), (.c (.flt .f32 a0.Damp.bits)), (.c (.int .i64 a0.Passes))]))]⟩ (Tt ∧ T2 ((((Eqc (sl 3 cs_Vector a0.Points)) ∧ (Eqc (.int .i64 a1)) ∧ Tt) ∧ CallOK Try.prog 29 [.one (sl 3 cs_Vector a0.Points), .one (.int .i64 a1)] [.one (.int .i64 v1)]) ∧ Tt ∧ Tt)) [.no, .no, .no, .call [.one (sl 3 cs_Vector a0.Points), .one (.int .i64 a1)] [.one (.int .i64 v1)] [[.view]]] [1, 2] [1] ⟨tr, tr, tr, ⟨⟨rfl, rfl, tr⟩, ok_laws_heldVectorS K a0.Points a1 v1 e2⟩, tr, tr⟩ ?_
  refine thenQ_normal ?_
  refine AW.seq ?_
  refine AW.seq (AW.rA ⟨[(1, (vc (.int .i64 v1))), (2, (vp 1 0)), (10, (vc (.bool (decide (v1 < (0 : Int))))))], [(1, (.box [(.c (sl 3 cs_Vector a0.Points)), (.c (sl 3 cs_Vector a0.Before)), (.c (sl 1 csB a0.Fixed)), (.c (sl 1 (csF .f32) a0.Lengths)), (.c (.flt .f32 a0.Fall.X.bits)), (.c (.flt .f32 a0.Fall.Y.bits)), (.c (.flt .f32 a0.Fall.Z.bits)), (.c (.flt .f32 a0.Damp.bits)), (.c (.int .i64 a0.Passes))]))]⟩ (T2 Tt) [] [1, 2, 10] [1] ⟨tr, tr, tr⟩ (thenQ_normal ?_))
  rcases ite2_cases h with ⟨b3, h⟩ | ⟨b3, h⟩
  · refine AW.cond_t rfl b3 ?_
    refine AW.seq (AW.rA ⟨[(4, (vc (.int .i64 ((-1) : Int))))], []⟩ (Tt ∧ Tt) [] [4] [] ⟨tr, tr⟩ (thenQ_normal ?_))
    refine AW.ret ?_
    refine thenQ_ret ?_
    replace h := some_eq h
    subst h
    exact ⟨.inr rfl, retOK_of [(.one (.c (.int .i64 ((-1) : Int))))] (by kernel_rfl) ⟨⟨rfl, tr⟩, tr⟩ (of_decide_eq_true (by kernel_rfl))⟩
  · refine AW.cond_f rfl b3 ?_
    refine AW.skip ?_
    refine thenQ_normal ?_
    refine AW.seq ?_
    obtain ⟨v4, e5, h⟩ := bind_some h
    refine AW.rA ⟨[(1, (vc (.int .i64 v4))), (2, (vp 1 0))], [(1, (.box [(.c (sl 3 cs_Vector a0.Points)), (.c (sl 3 cs_Vector a0.Before)), (.c (sl 1 csB a0.Fixed)), (.c (sl 1 (csF .f32) a0.Lengths)), (.c (.flt .f32 a0.Fall.X.bits)), (.c (.flt .f32 a0.Fall.Y.bits)), (.c (.flt .f32 a0.Fall.Z.bits)), (.c (.flt .f32 a0.Damp.bits)), (.c (.int .i64 a0.Passes))]))]⟩ (Tt ∧ T2 ((((Eqc (sl 3 cs_Vector a0.Before)) ∧ (Eqc (.int .i64 v1)) ∧ Tt) ∧ CallOK Try.prog 29 [.one (sl 3 cs_Vector a0.Before), .one (.int .i64 v1)] [.one (.int .i64 v4)]) ∧ Tt ∧ Tt)) [.no, .no, .no, .call [.one (sl 3 cs_Vector a0.Before), .one (.int .i64 v1)] [.one (.int .i64 v4)] [[.view]]] [1, 2] [1] ⟨tr, tr, tr, ⟨⟨rfl, rfl, tr⟩, ok_laws_heldVectorS K a0.Before v1 v4 e5⟩, tr, tr⟩ ?_
    refine thenQ_normal ?_
    refine AW.seq ?_
    refine AW.seq (AW.rA ⟨[(1, (vc (.int .i64 v4))), (2, (vp 1 0)), (16, (vc (.bool (decide (v4 < (0 : Int))))))], [(1, (.box [(.c (sl 3 cs_Vector a0.Points)), (.c (sl 3 cs_Vector a0.Before)), (.c (sl 1 csB a0.Fixed)), (.c (sl 1 (csF .f32) a0.Lengths)), (.c (.flt .f32 a0.Fall.X.bits)), (.c (.flt .f32 a0.Fall.Y.bits)), (.c (.flt .f32 a0.Fall.Z.bits)), (.c (.flt .f32 a0.Damp.bits)), (.c (.int .i64 a0.Passes))]))]⟩ (T2 Tt) [] [1, 2, 16] [1] ⟨tr, tr, tr⟩ (thenQ_normal ?_))
    rcases ite2_cases h with ⟨b6, h⟩ | ⟨b6, h⟩
    · refine AW.cond_t rfl b6 ?_
      refine AW.seq (AW.rA ⟨[(4, (vc (.int .i64 ((-1) : Int))))], []⟩ (Tt ∧ Tt) [] [4] [] ⟨tr, tr⟩ (thenQ_normal ?_))
      refine AW.ret ?_
      refine thenQ_ret ?_
      replace h := some_eq h
      subst h
      exact ⟨.inr rfl, retOK_of [(.one (.c (.int .i64 ((-1) : Int))))] (by kernel_rfl) ⟨⟨rfl, tr⟩, tr⟩ (of_decide_eq_true (by kernel_rfl))⟩
    · refine AW.cond_f rfl b6 ?_
      refine AW.skip ?_
      refine thenQ_normal ?_
      refine AW.seq ?_
      obtain ⟨v7, e8, h⟩ := bind_some h
      refine AW.rA ⟨[(1, (vc (.int .i64 v7))), (2, (vp 1 0))], [(1, (.box [(.c (sl 3 cs_Vector a0.Points)), (.c (sl 3 cs_Vector a0.Before)), (.c (sl 1 csB a0.Fixed)), (.c (sl 1 (csF .f32) a0.Lengths)), (.c (.flt .f32 a0.Fall.X.bits)), (.c (.flt .f32 a0.Fall.Y.bits)), (.c (.flt .f32 a0.Fall.Z.bits)), (.c (.flt .f32 a0.Damp.bits)), (.c (.int .i64 a0.Passes))]))]⟩ (Tt ∧ T2 ((((Eqc (sl 1 csB a0.Fixed)) ∧ (Eqc (.int .i64 v4)) ∧ Tt) ∧ CallOK Try.prog 30 [.one (sl 1 csB a0.Fixed), .one (.int .i64 v4)] [.one (.int .i64 v7)]) ∧ Tt ∧ Tt)) [.no, .no, .no, .call [.one (sl 1 csB a0.Fixed), .one (.int .i64 v4)] [.one (.int .i64 v7)] [[.view]]] [1, 2] [1] ⟨tr, tr, tr, ⟨⟨rfl, rfl, tr⟩, ok_laws_heldBoolS K a0.Fixed v4 v7 e8⟩, tr, tr⟩ ?_
      refine thenQ_normal ?_
      refine AW.seq ?_
      refine AW.seq (AW.rA ⟨[(1, (vc (.int .i64 v7))), (2, (vp 1 0)), (22, (vc (.bool (decide (v7 < (0 : Int))))))], [(1, (.box [(.c (sl 3 cs_Vector a0.Points)), (.c (sl 3 cs_Vector a0.Before)), (.c (sl 1 csB a0.Fixed)), (.c (sl 1 (csF .f32) a0.Lengths)), (.c (.flt .f32 a0.Fall.X.bits)), (.c (.flt .f32 a0.Fall.Y.bits)), (.c (.flt .f32 a0.Fall.Z.bits)), (.c (.flt .f32 a0.Damp.bits)), (.c (.int .i64 a0.Passes))]))]⟩ (T2 Tt) [] [1, 2, 22] [1] ⟨tr, tr, tr⟩ (thenQ_normal ?_))
      rcases ite2_cases h with ⟨b9, h⟩ | ⟨b9, h⟩
      · refine AW.cond_t rfl b9 ?_
        refine AW.seq (AW.rA ⟨[(4, (vc (.int .i64 ((-1) : Int))))], []⟩ (Tt ∧ Tt) [] [4] [] ⟨tr, tr⟩ (thenQ_normal ?_))
        refine AW.ret ?_
        refine thenQ_ret ?_
        replace h := some_eq h
        subst h
        exact ⟨.inr rfl, retOK_of [(.one (.c (.int .i64 ((-1) : Int))))] (by kernel_rfl) ⟨⟨rfl, tr⟩, tr⟩ (of_decide_eq_true (by kernel_rfl))⟩
      · refine AW.cond_f rfl b9 ?_
        refine AW.skip ?_
        refine thenQ_normal ?_
        refine AW.seq ?_
        obtain ⟨v10, e11, h⟩ := bind_some h
        refine AW.rA ⟨[(1, (vc (.int .i64 v10)))], []⟩ (Tt ∧ T2 ((((Eqc (sl 1 (csF .f32) a0.Lengths)) ∧ (Eqc (.int .i64 v7)) ∧ Tt) ∧ CallOK Try.prog 31 [.one (sl 1 (csF .f32) a0.Lengths), .one (.int .i64 v7)] [.one (.int .i64 v10)]) ∧ Tt ∧ Tt)) [.no, .no, .no, .call [.one (sl 1 (csF .f32) a0.Lengths), .one (.int .i64 v7)] [.one (.int .i64 v10)] [[.view]]] [1] [] ⟨tr, tr, tr, ⟨⟨rfl, rfl, tr⟩, ok_laws_heldFloat32S K a0.Lengths v7 v10 e11⟩, tr, tr⟩ ?_
        refine thenQ_normal ?_
        refine AW.seq ?_
        refine AW.seq (AW.rA ⟨[(1, (vc (.int .i64 v10))), (28, (vc (.bool (decide (v10 < (0 : Int))))))], []⟩ (T2 Tt) [] [1, 28] [] ⟨tr, tr, tr⟩ (thenQ_normal ?_))
        rcases ite2_cases h with ⟨b12, h⟩ | ⟨b12, h⟩
        · refine AW.cond_t rfl b12 ?_
          refine AW.seq (AW.rA ⟨[(4, (vc (.int .i64 ((-1) : Int))))], []⟩ (Tt ∧ Tt) [] [4] [] ⟨tr, tr⟩ (thenQ_normal ?_))
          refine AW.ret ?_
          refine thenQ_ret ?_
          replace h := some_eq h
          subst h
          exact ⟨.inr rfl, retOK_of [(.one (.c (.int .i64 ((-1) : Int))))] (by kernel_rfl) ⟨⟨rfl, tr⟩, tr⟩ (of_decide_eq_true (by kernel_rfl))⟩
        · refine AW.cond_f rfl b12 ?_
          refine AW.skip ?_
          refine thenQ_normal ?_
          refine AW.seq (AW.rA ⟨[(4, (vc (.int .i64 v10)))], []⟩ (T2 Tt) [] [4] [] ⟨tr, tr, tr⟩ (thenQ_normal ?_))
          refine AW.ret ?_
          replace h := some_eq h
          subst h
          exact ⟨.inr rfl, retOK_of [(.one (.c (.int .i64 v10)))] (by kernel_rfl) ⟨⟨rfl, tr⟩, tr⟩ (of_decide_eq_true (by kernel_rfl))⟩

end
end Go.Fw
