/- Functions of the program: what each computes, and that it computes just that. -/
import Derived.Test.YtcemiphbmkkpeabFwTy
import Derived.Test.YtcemiphbmkkpeabFwH
import Derived.Test.YtcemiphbmkkpeabFwV
import Derived.Test.YtcemiphbmkkpeabFwHF
import Derived.Test.YtcemiphbmkkpeabFwMK
import Derived.Test.YtcemiphbmkkpeabProg
import Derived.KernelRfl
namespace Go.Fw
open Go Go.Proofs
noncomputable section
set_option maxRecDepth 10000

/-! laws.szVectorS -/
def laws_szVectorS (_K : Nat) (a0 : (List Vector)) (a1 : Int) : Option (Int) :=
  ite2 ((decide ((IntKind.i64.wrap (a1 - (a0.length : Int))) < (0 : Int)))) (some ((-1) : Int)) (some (IntKind.i64.wrap (a1 - (a0.length : Int))))

theorem ok_laws_szVectorS (K : Nat) (a0 : (List Vector)) (a1 : Int) (o : (Int)) (h : laws_szVectorS K a0 a1 = some o) : CallOK Try.prog 11 [.one (sl 3 cs_Vector a0), .one (.int .i64 a1)] [.one (.int .i64 o)] := by
  refine callOK_of_AW Try.func11 rfl (by kernel_rfl) (Nat.le_of_ble_eq_true (by kernel_rfl)) ?_
  intro w0
  unfold laws_szVectorS at h
  refine AW.seq (AW.rA ⟨[(0, (vc (sl 3 cs_Vector a0))), (1, (vc (.int .i64 a1)))], []⟩ (Tt ∧ Tt) [] [0, 1] [] ⟨tr, tr⟩ (thenQ_normal ?_))
  refine AW.seq (AW.rA ⟨[(1, (vc (.int .i64 (IntKind.i64.wrap (a1 - (a0.length : Int))))))], []⟩ (Tt ∧ T4 Tt) [] [1] [] ⟨tr, tr, tr, tr, tr, tr⟩ (thenQ_normal ?_))
  refine AW.seq ?_
  refine AW.seq (AW.rA ⟨[(1, (vc (.int .i64 (IntKind.i64.wrap (a1 - (a0.length : Int)))))), (10, (vc (.bool (decide ((IntKind.i64.wrap (a1 - (a0.length : Int))) < (0 : Int))))))], []⟩ (T2 Tt) [] [1, 10] [] ⟨tr, tr, tr⟩ (thenQ_normal ?_))
  rcases ite2_cases h with ⟨b1, h⟩ | ⟨b1, h⟩
  · refine AW.cond_t rfl b1 ?_
    refine AW.seq (AW.rA ⟨[(4, (vc (.int .i64 ((-1) : Int))))], []⟩ (Tt ∧ Tt) [] [4] [] ⟨tr, tr⟩ (thenQ_normal ?_))
    refine AW.ret ?_
    refine thenQ_ret ?_
    replace h := some_eq h
    subst h
    exact ⟨.inr rfl, retOK_of [(.one (.c (.int .i64 ((-1) : Int))))] (by kernel_rfl) ⟨⟨rfl, tr⟩, tr⟩ (of_decide_eq_true (by kernel_rfl))⟩
  · refine AW.cond_f rfl b1 ?_
    refine AW.skip ?_
    refine thenQ_normal ?_
    refine AW.seq (AW.rA ⟨[(4, (vc (.int .i64 (IntKind.i64.wrap (a1 - (a0.length : Int))))))], []⟩ (T2 Tt) [] [4] [] ⟨tr, tr, tr⟩ (thenQ_normal ?_))
    refine AW.ret ?_
    replace h := some_eq h
    subst h
    exact ⟨.inr rfl, retOK_of [(.one (.c (.int .i64 (IntKind.i64.wrap (a1 - (a0.length : Int))))))] (by kernel_rfl) ⟨⟨rfl, tr⟩, tr⟩ (of_decide_eq_true (by kernel_rfl))⟩

/-! laws.szBoolS -/
def laws_szBoolS (_K : Nat) (a0 : (List Bool)) (a1 : Int) : Option (Int) :=
  ite2 ((decide ((IntKind.i64.wrap (a1 - (a0.length : Int))) < (0 : Int)))) (some ((-1) : Int)) (some (IntKind.i64.wrap (a1 - (a0.length : Int))))

theorem ok_laws_szBoolS (K : Nat) (a0 : (List Bool)) (a1 : Int) (o : (Int)) (h : laws_szBoolS K a0 a1 = some o) : CallOK Try.prog 12 [.one (sl 1 csB a0), .one (.int .i64 a1)] [.one (.int .i64 o)] := by
  refine callOK_of_AW Try.func12 rfl (by kernel_rfl) (Nat.le_of_ble_eq_true (by kernel_rfl)) ?_
  intro w0
  unfold laws_szBoolS at h
  refine AW.seq (AW.rA ⟨[(0, (vc (sl 1 csB a0))), (1, (vc (.int .i64 a1)))], []⟩ (Tt ∧ Tt) [] [0, 1] [] ⟨tr, tr⟩ (thenQ_normal ?_))
  refine AW.seq (AW.rA ⟨[(1, (vc (.int .i64 (IntKind.i64.wrap (a1 - (a0.length : Int))))))], []⟩ (Tt ∧ T4 Tt) [] [1] [] ⟨tr, tr, tr, tr, tr, tr⟩ (thenQ_normal ?_))
  refine AW.seq ?_
  refine AW.seq (AW.rA ⟨[(1, (vc (.int .i64 (IntKind.i64.wrap (a1 - (a0.length : Int)))))), (10, (vc (.bool (decide ((IntKind.i64.wrap (a1 - (a0.length : Int))) < (0 : Int))))))], []⟩ (T2 Tt) [] [1, 10] [] ⟨tr, tr, tr⟩ (thenQ_normal ?_))
  rcases ite2_cases h with ⟨b1, h⟩ | ⟨b1, h⟩
  · refine AW.cond_t rfl b1 ?_
    refine AW.seq (AW.rA ⟨[(4, (vc (.int .i64 ((-1) : Int))))], []⟩ (Tt ∧ Tt) [] [4] [] ⟨tr, tr⟩ (thenQ_normal ?_))
    refine AW.ret ?_
    refine thenQ_ret ?_
    replace h := some_eq h
    subst h
    exact ⟨.inr rfl, retOK_of [(.one (.c (.int .i64 ((-1) : Int))))] (by kernel_rfl) ⟨⟨rfl, tr⟩, tr⟩ (of_decide_eq_true (by kernel_rfl))⟩
  · refine AW.cond_f rfl b1 ?_
    refine AW.skip ?_
    refine thenQ_normal ?_
    refine AW.seq (AW.rA ⟨[(4, (vc (.int .i64 (IntKind.i64.wrap (a1 - (a0.length : Int))))))], []⟩ (T2 Tt) [] [4] [] ⟨tr, tr, tr⟩ (thenQ_normal ?_))
    refine AW.ret ?_
    replace h := some_eq h
    subst h
    exact ⟨.inr rfl, retOK_of [(.one (.c (.int .i64 (IntKind.i64.wrap (a1 - (a0.length : Int))))))] (by kernel_rfl) ⟨⟨rfl, tr⟩, tr⟩ (of_decide_eq_true (by kernel_rfl))⟩

/-! laws.szFloat32S -/
def laws_szFloat32S (_K : Nat) (a0 : (List F32)) (a1 : Int) : Option (Int) :=
  ite2 ((decide ((IntKind.i64.wrap (a1 - (a0.length : Int))) < (0 : Int)))) (some ((-1) : Int)) (some (IntKind.i64.wrap (a1 - (a0.length : Int))))

theorem ok_laws_szFloat32S (K : Nat) (a0 : (List F32)) (a1 : Int) (o : (Int)) (h : laws_szFloat32S K a0 a1 = some o) : CallOK Try.prog 13 [.one (sl 1 (csF .f32) a0), .one (.int .i64 a1)] [.one (.int .i64 o)] := by
  refine callOK_of_AW Try.func13 rfl (by kernel_rfl) (Nat.le_of_ble_eq_true (by kernel_rfl)) ?_
  intro w0
  unfold laws_szFloat32S at h
  refine AW.seq (AW.rA ⟨[(0, (vc (sl 1 (csF .f32) a0))), (1, (vc (.int .i64 a1)))], []⟩ (Tt ∧ Tt) [] [0, 1] [] ⟨tr, tr⟩ (thenQ_normal ?_))
  refine AW.seq (AW.rA ⟨[(1, (vc (.int .i64 (IntKind.i64.wrap (a1 - (a0.length : Int))))))], []⟩ (Tt ∧ T4 Tt) [] [1] [] ⟨tr, tr, tr, tr, tr, tr⟩ (thenQ_normal ?_))
  refine AW.seq ?_
  refine AW.seq (AW.rA ⟨[(1, (vc (.int .i64 (IntKind.i64.wrap (a1 - (a0.length : Int)))))), (10, (vc (.bool (decide ((IntKind.i64.wrap (a1 - (a0.length : Int))) < (0 : Int))))))], []⟩ (T2 Tt) [] [1, 10] [] ⟨tr, tr, tr⟩ (thenQ_normal ?_))
  rcases ite2_cases h with ⟨b1, h⟩ | ⟨b1, h⟩
  · refine AW.cond_t rfl b1 ?_
    refine AW.seq (AW.rA ⟨[(4, (vc (.int .i64 ((-1) : Int))))], []⟩ (Tt ∧ Tt) [] [4] [] ⟨tr, tr⟩ (thenQ_normal ?_))
    refine AW.ret ?_
    refine thenQ_ret ?_
    replace h := some_eq h
    subst h
    exact ⟨.inr rfl, retOK_of [(.one (.c (.int .i64 ((-1) : Int))))] (by kernel_rfl) ⟨⟨rfl, tr⟩, tr⟩ (of_decide_eq_true (by kernel_rfl))⟩
  · refine AW.cond_f rfl b1 ?_
    refine AW.skip ?_
    refine thenQ_normal ?_
    refine AW.seq (AW.rA ⟨[(4, (vc (.int .i64 (IntKind.i64.wrap (a1 - (a0.length : Int))))))], []⟩ (T2 Tt) [] [4] [] ⟨tr, tr, tr⟩ (thenQ_normal ?_))
    refine AW.ret ?_
    replace h := some_eq h
    subst h
    exact ⟨.inr rfl, retOK_of [(.one (.c (.int .i64 (IntKind.i64.wrap (a1 - (a0.length : Int))))))] (by kernel_rfl) ⟨⟨rfl, tr⟩, tr⟩ (of_decide_eq_true (by kernel_rfl))⟩

/-! laws.szString -/
def laws_szString (K : Nat) (a0 : String) (a1 : Int) : Option (Int) :=
  (laws_szVectorS K a0.Points a1).bind fun v1 => ite2 ((decide (v1 < (0 : Int)))) (some ((-1) : Int)) ((laws_szVectorS K a0.Before v1).bind fun v4 => ite2 ((decide (v4 < (0 : Int)))) (some ((-1) : Int)) ((laws_szBoolS K a0.Fixed v4).bind fun v7 => ite2 ((decide (v7 < (0 : Int)))) (some ((-1) : Int)) ((laws_szFloat32S K a0.Lengths v7).bind fun v10 => ite2 ((decide (v10 < (0 : Int)))) (some ((-1) : Int)) (some v10))))

theorem ok_laws_szString (K : Nat) (a0 : String) (a1 : Int) (o : (Int)) (h : laws_szString K a0 a1 = some o) : CallOK Try.prog 4 [.agg (cs_String a0), .one (.int .i64 a1)] [.one (.int .i64 o)] := by
  refine callOK_of_AW Try.func4 rfl (by kernel_rfl) (Nat.le_of_ble_eq_true (by kernel_rfl)) ?_
  intro w0
  unfold laws_szString at h
  refine AW.seq (AW.rA ⟨[(1, (vc (.int .i64 a1))), (2, (vp 1 0))], [(1, (.box [(.c (sl 3 cs_Vector a0.Points)), (.c (sl 3 cs_Vector a0.Before)), (.c (sl 1 csB a0.Fixed)), (.c (sl 1 (csF .f32) a0.Lengths)), (.c (.flt .f32 a0.Fall.X.bits)), (.c (.flt .f32 a0.Fall.Y.bits)), (.c (.flt .f32 a0.Fall.Z.bits)), (.c (.flt .f32 a0.Damp.bits)), (.c (.int .i64 a0.Passes))]))]⟩ (T2 Tt) [.box 1] [1, 2] [1] ⟨tr, tr, tr⟩ (thenQ_normal ?_))
  refine AW.seq ?_
  obtain ⟨v1, e2, h⟩ := bind_some h
  refine AW.rA ⟨[(1, (vc (.int .i64 v1))), (2, (vp 1 0))], [(1, (.box [(.c (sl 3 cs_Vector a0.Points)), (.c (sl 3 cs_Vector a0.Before)), (.c (sl 1 csB a0.Fixed)), (.c (sl 1 (csF .f32) a0.Lengths)), (.c (.flt .f32 a0.Fall.X.bits)), (.c (.flt .f32 a0.Fall.Y.bits)), (.c (.flt .f32 a0.Fall.Z.bits)), (.c (.flt .f32 a0.Damp.bits)), (.c (.int .i64 a0.Passes))]))]⟩ (Tt ∧ T2 ((((Eqc (sl 3 cs_Vector a0.Points)) ∧ (Eqc (.int .i64 a1)) ∧ Tt) ∧ CallOK Try.prog 11 [.one (sl 3 cs_Vector a0.Points), .one (.int .i64 a1)] [.one (.int .i64 v1)]) ∧ Tt ∧ Tt)) [.no, .no, .no, .call [.one (sl 3 cs_Vector a0.Points), .one (.int .i64 a1)] [.one (.int .i64 v1)] [[.view]]] [1, 2] [1] ⟨tr, tr, tr, ⟨⟨rfl, rfl, tr⟩, ok_laws_szVectorS K a0.Points a1 v1 e2⟩, tr, tr⟩ ?_
  refine thenQ_normal ?_
  refine AW.seq ?_
  refine AW.seq (AW.rA ⟨[(1, (vc (.int .i64 v1))), (2, (vp 1 0)), (10, (vc (.bool (decide (v1 < (0 : Int))))))], [(1, (.box [(.c (sl 3 cs_Vector a0.Points)), (.c (sl 3 cs_Vector a0.Before)), (.c (sl 1 csB a0.Fixed)), (.c (sl 1 (csF .f32) a0.Lengths)), (.c (.flt .f32 a0.Fall.X.bits)), (.c (.flt .f32 a0.Fall.Y.bits)), (.c (.flt .f32 a0.Fall.Z.bits)), (.c (.flt .f32 a0.Damp.bits)), (.c (.int .i64 a0.Passes))]))]⟩ (T2 Tt) [] [1, 2, 10] [1] ⟨tr, tr, tr⟩ (thenQ_normal ?_))
  rcases ite2_cases h with ⟨b3, h⟩ | ⟨b3, h⟩
  · refine AW.cond_t rfl b3 ?_
    refine AW.seq (AW.rA ⟨[(4, (vc (.int .i64 ((-1) : Int))))], []⟩ (Tt ∧ Tt) [] [4] [] ⟨tr, tr⟩ (thenQ_normal ?_))
    refine AW.ret ?_
    refine thenQ_ret ?_
    replace h := some_eq h
    subst h
    exact ⟨.inr rfl, retOK_of [(.one (.c (.int .i64 ((-1) : Int))))] (by kernel_rfl) ⟨⟨rfl, tr⟩, tr⟩ (of_decide_eq_true (by kernel_rfl))⟩
  · refine AW.cond_f rfl b3 ?_
    refine AW.skip ?_
    refine thenQ_normal ?_
    refine AW.seq ?_
    obtain ⟨v4, e5, h⟩ := bind_some h
    refine AW.rA ⟨[(1, (vc (.int .i64 v4))), (2, (vp 1 0))], [(1, (.box [(.c (sl 3 cs_Vector a0.Points)), (.c (sl 3 cs_Vector a0.Before)), (.c (sl 1 csB a0.Fixed)), (.c (sl 1 (csF .f32) a0.Lengths)), (.c (.flt .f32 a0.Fall.X.bits)), (.c (.flt .f32 a0.Fall.Y.bits)), (.c (.flt .f32 a0.Fall.Z.bits)), (.c (.flt .f32 a0.Damp.bits)), (.c (.int .i64 a0.Passes))]))]⟩ (Tt ∧ T2 ((((Eqc (sl 3 cs_Vector a0.Before)) ∧ (Eqc (.int .i64 v1)) ∧ Tt) ∧ CallOK Try.prog 11 [.one (sl 3 cs_Vector a0.Before), .one (.int .i64 v1)] [.one (.int .i64 v4)]) ∧ Tt ∧ Tt)) [.no, .no, .no, .call [.one (sl 3 cs_Vector a0.Before), .one (.int .i64 v1)] [.one (.int .i64 v4)] [[.view]]] [1, 2] [1] ⟨tr, tr, tr, ⟨⟨rfl, rfl, tr⟩, ok_laws_szVectorS K a0.Before v1 v4 e5⟩, tr, tr⟩ ?_
    refine thenQ_normal ?_
    refine AW.seq ?_
    refine AW.seq (AW.rA ⟨[(1, (vc (.int .i64 v4))), (2, (vp 1 0)), (16, (vc (.bool (decide (v4 < (0 : Int))))))], [(1, (.box [(.c (sl 3 cs_Vector a0.Points)), (.c (sl 3 cs_Vector a0.Before)), (.c (sl 1 csB a0.Fixed)), (.c (sl 1 (csF .f32) a0.Lengths)), (.c (.flt .f32 a0.Fall.X.bits)), (.c (.flt .f32 a0.Fall.Y.bits)), (.c (.flt .f32 a0.Fall.Z.bits)), (.c (.flt .f32 a0.Damp.bits)), (.c (.int .i64 a0.Passes))]))]⟩ (T2 Tt) [] [1, 2, 16] [1] ⟨tr, tr, tr⟩ (thenQ_normal ?_))
    rcases ite2_cases h with ⟨b6, h⟩ | ⟨b6, h⟩
    · refine AW.cond_t rfl b6 ?_
      refine AW.seq (AW.rA ⟨[(4, (vc (.int .i64 ((-1) : Int))))], []⟩ (Tt ∧ Tt) [] [4] [] ⟨tr, tr⟩ (thenQ_normal ?_))
      refine AW.ret ?_
      refine thenQ_ret ?_
      replace h := some_eq h
      subst h
      exact ⟨.inr rfl, retOK_of [(.one (.c (.int .i64 ((-1) : Int))))] (by kernel_rfl) ⟨⟨rfl, tr⟩, tr⟩ (of_decide_eq_true (by kernel_rfl))⟩
    · refine AW.cond_f rfl b6 ?_
      refine AW.skip ?_
      refine thenQ_normal ?_
      refine AW.seq ?_
      obtain ⟨v7, e8, h⟩ := bind_some h
      refine AW.rA ⟨[(1, (vc (.int .i64 v7))), (2, (vp 1 0))], [(1, (.box [(.c (sl 3 cs_Vector a0.Points)), (.c (sl 3 cs_Vector a0.Before)), (.c (sl 1 csB a0.Fixed)), (.c (sl 1 (csF .f32) a0.Lengths)), (.c (.flt .f32 a0.Fall.X.bits)), (.c (.flt .f32 a0.Fall.Y.bits)), (.c (.flt .f32 a0.Fall.Z.bits)), (.c (.flt .f32 a0.Damp.bits)), (.c (.int .i64 a0.Passes))]))]⟩ (Tt ∧ T2 ((((Eqc (sl 1 csB a0.Fixed)) ∧ (Eqc (.int .i64 v4)) ∧ Tt) ∧ CallOK Try.prog 12 [.one (sl 1 csB a0.Fixed), .one (.int .i64 v4)] [.one (.int .i64 v7)]) ∧ Tt ∧ Tt)) [.no, .no, .no, .call [.one (sl 1 csB a0.Fixed), .one (.int .i64 v4)] [.one (.int .i64 v7)] [[.view]]] [1, 2] [1] ⟨tr, tr, tr, ⟨⟨rfl, rfl, tr⟩, ok_laws_szBoolS K a0.Fixed v4 v7 e8⟩, tr, tr⟩ ?_
      refine thenQ_normal ?_
      refine AW.seq ?_
      refine AW.seq (AW.rA ⟨[(1, (vc (.int .i64 v7))), (2, (vp 1 0)), (22, (vc (.bool (decide (v7 < (0 : Int))))))], [(1, (.box [(.c (sl 3 cs_Vector a0.Points)), (.c (sl 3 cs_Vector a0.Before)), (.c (sl 1 csB a0.Fixed)), (.c (sl 1 (csF .f32) a0.Lengths)), (.c (.flt .f32 a0.Fall.X.bits)), (.c (.flt .f32 a0.Fall.Y.bits)), (.c (.flt .f32 a0.Fall.Z.bits)), (.c (.flt .f32 a0.Damp.bits)), (.c (.int .i64 a0.Passes))]))]⟩ (T2 Tt) [] [1, 2, 22] [1] ⟨tr, tr, tr⟩ (thenQ_normal ?_))
      rcases ite2_cases h with ⟨b9, h⟩ | ⟨b9, h⟩
      · refine AW.cond_t rfl b9 ?_
        refine AW.seq (AW.rA ⟨[(4, (vc (.int .i64 ((-1) : Int))))], []⟩ (Tt ∧ Tt) [] [4] [] ⟨tr, tr⟩ (thenQ_normal ?_))
        refine AW.ret ?_
        refine thenQ_ret ?_
        replace h := some_eq h
        subst h
        exact ⟨.inr rfl, retOK_of [(.one (.c (.int .i64 ((-1) : Int))))] (by kernel_rfl) ⟨⟨rfl, tr⟩, tr⟩ (of_decide_eq_true (by kernel_rfl))⟩
      · refine AW.cond_f rfl b9 ?_
        refine AW.skip ?_
        refine thenQ_normal ?_
        refine AW.seq ?_
        obtain ⟨v10, e11, h⟩ := bind_some h
        refine AW.rA ⟨[(1, (vc (.int .i64 v10)))], []⟩ (Tt ∧ T2 ((((Eqc (sl 1 (csF .f32) a0.Lengths)) ∧ (Eqc (.int .i64 v7)) ∧ Tt) ∧ CallOK Try.prog 13 [.one (sl 1 (csF .f32) a0.Lengths), .one (.int .i64 v7)] [.one (.int .i64 v10)]) ∧ Tt ∧ Tt)) [.no, .no, .no, .call [.one (sl 1 (csF .f32) a0.Lengths), .one (.int .i64 v7)] [.one (.int .i64 v10)] [[.view]]] [1] [] ⟨tr, tr, tr, ⟨⟨rfl, rfl, tr⟩, ok_laws_szFloat32S K a0.Lengths v7 v10 e11⟩, tr, tr⟩ ?_
        refine thenQ_normal ?_
        refine AW.seq ?_
        refine AW.seq (AW.rA ⟨[(1, (vc (.int .i64 v10))), (28, (vc (.bool (decide (v10 < (0 : Int))))))], []⟩ (T2 Tt) [] [1, 28] [] ⟨tr, tr, tr⟩ (thenQ_normal ?_))
        rcases ite2_cases h with ⟨b12, h⟩ | ⟨b12, h⟩
        · refine AW.cond_t rfl b12 ?_
          refine AW.seq (AW.rA ⟨[(4, (vc (.int .i64 ((-1) : Int))))], []⟩ (Tt ∧ Tt) [] [4] [] ⟨tr, tr⟩ (thenQ_normal ?_))
          refine AW.ret ?_
          refine thenQ_ret ?_
          replace h := some_eq h
          subst h
          exact ⟨.inr rfl, retOK_of [(.one (.c (.int .i64 ((-1) : Int))))] (by kernel_rfl) ⟨⟨rfl, tr⟩, tr⟩ (of_decide_eq_true (by kernel_rfl))⟩
        · refine AW.cond_f rfl b12 ?_
          refine AW.skip ?_
          refine thenQ_normal ?_
          refine AW.seq (AW.rA ⟨[(4, (vc (.int .i64 v10)))], []⟩ (T2 Tt) [] [4] [] ⟨tr, tr, tr⟩ (thenQ_normal ?_))
          refine AW.ret ?_
          replace h := some_eq h
          subst h
          exact ⟨.inr rfl, retOK_of [(.one (.c (.int .i64 v10)))] (by kernel_rfl) ⟨⟨rfl, tr⟩, tr⟩ (of_decide_eq_true (by kernel_rfl))⟩

/-! laws.toVector -/
def laws_toVector (_K : Nat) (a0 : Vector) : Option (Vector) :=
  some a0

theorem ok_laws_toVector (K : Nat) (a0 : Vector) (o : (Vector)) (h : laws_toVector K a0 = some o) : CallOK Try.prog 19 [.agg (cs_Vector a0)] [.agg (cs_Vector o)] := by
  refine callOK_of_AW Try.func19 rfl (by kernel_rfl) (Nat.le_of_ble_eq_true (by kernel_rfl)) ?_
  intro w0
  unfold laws_toVector at h
  refine AW.seq (AW.rA ⟨[(1, (vp 1 0)), (2, (vp 2 0))], [(1, (.box [(.c (.flt .f32 a0.X.bits)), (.c (.flt .f32 a0.Y.bits)), (.c (.flt .f32 a0.Z.bits))])), (2, (.box [(.c (.flt .f32 (default : F32).bits)), (.c (.flt .f32 (default : F32).bits)), (.c (.flt .f32 (default : F32).bits))]))]⟩ (T2 Tt) [.box 1, .box 2] [1, 2] [1, 2] ⟨tr, tr, tr⟩ (thenQ_normal ?_))
  refine AW.seq (AW.rA ⟨[(1, (vp 1 0)), (2, (vp 2 0)), (3, (vp 3 0))], [(1, (.box [(.c (.flt .f32 a0.X.bits)), (.c (.flt .f32 a0.Y.bits)), (.c (.flt .f32 a0.Z.bits))])), (2, (.box [(.c (.flt .f32 (default : F32).bits)), (.c (.flt .f32 (default : F32).bits)), (.c (.flt .f32 (default : F32).bits))])), (3, (.box [(.c (.flt .f32 (default : F32).bits)), (.c (.flt .f32 (default : F32).bits)), (.c (.flt .f32 (default : F32).bits))]))]⟩ (Tt ∧ Tt) [.box 3] [1, 2, 3] [1, 2, 3] ⟨tr, tr⟩ (thenQ_normal ?_))
  refine AW.seq (AW.rA ⟨[(1, (vp 1 0)), (2, (vp 2 0)), (3, (vp 3 0))], [(1, (.box [(.c (.flt .f32 a0.X.bits)), (.c (.flt .f32 a0.Y.bits)), (.c (.flt .f32 a0.Z.bits))])), (2, (.box [(.c (.flt .f32 (default : F32).bits)), (.c (.flt .f32 (default : F32).bits)), (.c (.flt .f32 (default : F32).bits))])), (3, (.box [(.c (.flt .f32 a0.X.bits)), (.c (.flt .f32 (default : F32).bits)), (.c (.flt .f32 (default : F32).bits))]))]⟩ (T4 Tt) [] [1, 2, 3] [1, 2, 3] ⟨tr, tr, tr, tr, tr⟩ (thenQ_normal ?_))
  refine AW.seq (AW.rA ⟨[(1, (vp 1 0)), (2, (vp 2 0)), (3, (vp 3 0))], [(1, (.box [(.c (.flt .f32 a0.X.bits)), (.c (.flt .f32 a0.Y.bits)), (.c (.flt .f32 a0.Z.bits))])), (2, (.box [(.c (.flt .f32 (default : F32).bits)), (.c (.flt .f32 (default : F32).bits)), (.c (.flt .f32 (default : F32).bits))])), (3, (.box [(.c (.flt .f32 a0.X.bits)), (.c (.flt .f32 a0.Y.bits)), (.c (.flt .f32 (default : F32).bits))]))]⟩ (T4 Tt) [] [1, 2, 3] [1, 2, 3] ⟨tr, tr, tr, tr, tr⟩ (thenQ_normal ?_))
  refine AW.seq (AW.rA ⟨[(2, (vp 2 0)), (3, (vp 3 0))], [(2, (.box [(.c (.flt .f32 (default : F32).bits)), (.c (.flt .f32 (default : F32).bits)), (.c (.flt .f32 (default : F32).bits))])), (3, (.box [(.c (.flt .f32 a0.X.bits)), (.c (.flt .f32 a0.Y.bits)), (.c (.flt .f32 a0.Z.bits))]))]⟩ (T4 Tt) [] [2, 3] [2, 3] ⟨tr, tr, tr, tr, tr⟩ (thenQ_normal ?_))
  refine AW.seq (AW.rA ⟨[(2, (vp 2 0))], [(2, (.box [(.c (.flt .f32 a0.X.bits)), (.c (.flt .f32 a0.Y.bits)), (.c (.flt .f32 a0.Z.bits))]))]⟩ (T2 Tt) [] [2] [2] ⟨tr, tr, tr⟩ (thenQ_normal ?_))
  refine AW.ret ?_
  replace h := some_eq h
  subst h
  exact ⟨.inr rfl, retOK_of [(.agg [(.c (.flt .f32 a0.X.bits)), (.c (.flt .f32 a0.Y.bits)), (.c (.flt .f32 a0.Z.bits))])] (by kernel_rfl) ⟨⟨⟨rfl, tr⟩, ⟨rfl, tr⟩, ⟨rfl, tr⟩, tr⟩, tr⟩ (of_decide_eq_true (by kernel_rfl))⟩

/-! laws.toVectorS -/
def laws_toVectorS_l1 (K : Nat) (a0 : (List Vector)) : Nat → Int → (List Vector) → Option ((List Vector))
  | 0, _, _ => none
  | k + 1, x4, x5 => ite2 ((decide (x4 < (a0.length : Int)))) (chk (0 ≤ x4 ∧ x4 < (a0.length : Int)) ((laws_toVector K (a0.getD x4.toNat default)).bind fun v8 => chk (0 ≤ x4 ∧ x4 < (x5.length : Int)) (laws_toVectorS_l1 K a0 k (IntKind.i64.wrap (x4 + (1 : Int))) (x5.set x4.toNat v8)))) (some x5)

def laws_toVectorS (K : Nat) (a0 : (List Vector)) : Option ((List Vector)) :=
  chk (0 ≤ (a0.length : Int) ∧ (a0.length : Int).toNat * 12 ≤ 140737488355328) (laws_toVectorS_l1 K a0 K (0 : Int) (List.replicate (a0.length : Int).toNat (default : Vector)))

theorem ok_laws_toVectorS (K : Nat) (a0 : (List Vector)) (o : ((List Vector))) (h : laws_toVectorS K a0 = some o) : CallOK Try.prog 16 [.one (sl 3 cs_Vector a0)] [.one (sl 3 cs_Vector o)] := by
  refine callOK_of_AW Try.func16 rfl (by kernel_rfl) (Nat.le_of_ble_eq_true (by kernel_rfl)) ?_
  intro w0
  unfold laws_toVectorS at h
  refine AW.seq (AW.rA ⟨[(0, (vc (sl 3 cs_Vector a0)))], []⟩ (Tt ∧ Tt) [] [0] [] ⟨tr, tr⟩ (thenQ_normal ?_))
  refine AW.seq ?_
  obtain ⟨c1, h⟩ := chk_some h
  refine AW.rA ⟨[(0, (vc (sl 3 cs_Vector a0))), (3, (.v (.one (.arr 1))))], [(1, (.arr false (List.replicate (a0.length : Int).toNat (default : Vector)).length 3 (gl cs_Vector (List.replicate (a0.length : Int).toNat (default : Vector)))))]⟩ (T2 ((0 ≤ (a0.length : Int) ∧ (a0.length : Int) = (a0.length : Int) ∧ (((List.replicate (a0.length : Int).toNat (default : Vector)).length : Nat) : Int) = (a0.length : Int) ∧ (List.replicate (a0.length : Int).toNat (default : Vector)).length * 12 ≤ 140737488355328 ∧ ∀ i, i < (List.replicate (a0.length : Int).toNat (default : Vector)).length → zeroRow (fun _ => none) [(.c (.flt .f32 (default : F32).bits)), (.c (.flt .f32 (default : F32).bits)), (.c (.flt .f32 (default : F32).bits))] (gl cs_Vector (List.replicate (a0.length : Int).toNat (default : Vector)) i)) ∧ Tt ∧ Tt)) [.no, .no, .objA 1 (List.replicate (a0.length : Int).toNat (default : Vector)).length (gl cs_Vector (List.replicate (a0.length : Int).toNat (default : Vector)))] [0, 3] [1] ⟨tr, tr, ⟨c1.1, rfl, len_rep c1.1, rep_bytes c1.2, fun i hi => gl_zero (cs := cs_Vector) (zs := [(.c (.flt .f32 (default : F32).bits)), (.c (.flt .f32 (default : F32).bits)), (.c (.flt .f32 (default : F32).bits))]) (n := (a0.length : Int).toNat) ⟨⟨rfl, tr⟩, ⟨rfl, tr⟩, ⟨rfl, tr⟩, tr⟩ i (rep_lt hi)⟩, tr, tr⟩ ?_
  refine thenQ_normal ?_
  refine AW.seq ?_
  refine AW.seq (AW.rA ⟨[(0, (vc (sl 3 cs_Vector a0))), (3, (.v (.one (.arr 1)))), (4, (vc (.int .i64 (0 : Int))))], [(1, (.arr false (List.replicate (a0.length : Int).toNat (default : Vector)).length 3 (gl cs_Vector (List.replicate (a0.length : Int).toNat (default : Vector)))))]⟩ (Tt ∧ Tt) [] [0, 3, 4] [1] ⟨tr, tr⟩ (thenQ_normal ?_))
  refine AW.block ?_
  refine AW.loopQ (σ := Nat × Int × (List Vector)) (fun p => ⟨[(0, (vc (sl 3 cs_Vector a0))), (3, (.v (.one (.arr 1)))), (4, (vc (.int .i64 p.2.1)))], [(1, (.arr false p.2.2.length 3 (gl cs_Vector p.2.2)))]⟩) (fun p => laws_toVectorS_l1 K a0 p.1 p.2.1 p.2.2 = some o) (fun p => p.1) (K, (0 : Int), (List.replicate (a0.length : Int).toNat (default : Vector))) h ?_
  clear h
  rintro ⟨k, x4, x5⟩ h
  replace h : laws_toVectorS_l1 K a0 k x4 x5 = some o := h
  show AW _ _ (⟨[(0, (vc (sl 3 cs_Vector a0))), (3, (.v (.one (.arr 1)))), (4, (vc (.int .i64 x4)))], [(1, (.arr false x5.length 3 (gl cs_Vector x5)))]⟩ : St) _
  obtain _ | k := k
  · rw [laws_toVectorS_l1] at h; cases h
  rw [laws_toVectorS_l1] at h
  refine AW.seq ?_
  refine AW.seq (AW.rA ⟨[(0, (vc (sl 3 cs_Vector a0))), (3, (.v (.one (.arr 1)))), (4, (vc (.int .i64 x4))), (11, (vc (.bool (decide (x4 < (a0.length : Int))))))], [(1, (.arr false x5.length 3 (gl cs_Vector x5)))]⟩ (T4 Tt) [] [0, 3, 4, 11] [1] ⟨tr, tr, tr, tr, tr⟩ (thenQ_normal ?_))
  rcases ite2_cases h with ⟨b6, h⟩ | ⟨b6, h⟩
  · refine AW.cond_t rfl b6 ?_
    refine AW.skip ?_
    refine thenQ_normal ?_
    refine AW.seq ?_
    refine AW.block ?_
    obtain ⟨c7, h⟩ := chk_some h
    obtain ⟨v8, e9, h⟩ := bind_some h
    obtain ⟨c10, h⟩ := chk_some h
    refine AW.rA ⟨[(0, (vc (sl 3 cs_Vector a0))), (3, (.v (.one (.arr 1)))), (4, (vc (.int .i64 x4)))], [(1, (.arr false (x5.set x4.toNat v8).length 3 (gl cs_Vector (x5.set x4.toNat v8))))]⟩ (T4 ((0 ≤ x4 ∧ x4 < (a0.length : Int)) ∧ Tt ∧ ((((Eqc (.flt .f32 ((a0.getD x4.toNat default).X).bits)) ∧ (Eqc (.flt .f32 ((a0.getD x4.toNat default).Y).bits)) ∧ (Eqc (.flt .f32 ((a0.getD x4.toNat default).Z).bits)) ∧ Tt) ∧ Tt) ∧ CallOK Try.prog 19 [.agg (cs_Vector (a0.getD x4.toNat default))] [.agg (cs_Vector v8)]) ∧ (0 ≤ x4 ∧ x4 < (x5.length : Int)) ∧ ((x5.set x4.toNat v8).length = x5.length ∧ SetOb x5.length 3 x4.toNat 0 3 (gl cs_Vector x5) (gl cs_Vector (x5.set x4.toNat v8)) ∧ ((List.range 3).map fun j => (cs_Vector v8).getD (0 + j) .nilptr) = ((List.range 3).map fun j => gl cs_Vector (x5.set x4.toNat v8) x4.toNat (0 + j)) ∧ ((((.flt .f32 v8.X.bits) : C) = (.flt .f32 v8.X.bits) ∧ Tt) ∧ (((.flt .f32 v8.Y.bits) : C) = (.flt .f32 v8.Y.bits) ∧ Tt) ∧ (((.flt .f32 v8.Z.bits) : C) = (.flt .f32 v8.Z.bits) ∧ Tt) ∧ Tt) ∧ (false = true → ∀ j, j < 3 → isSeq (gl cs_Vector x5 x4.toNat (0 + j)) = false ∧ isSeq (gl cs_Vector (x5.set x4.toNat v8) x4.toNat (0 + j)) = false)) ∧ Tt)) [.no, .no, .no, .no, .no, .no, .call [.agg (cs_Vector (a0.getD x4.toNat default))] [.agg (cs_Vector v8)] [[.view, .view, .view]], .no, .set (x5.set x4.toNat v8).length (gl cs_Vector (x5.set x4.toNat v8)) ((List.range 3).map fun j => (cs_Vector v8).getD (0 + j) .nilptr)] [0, 3, 4] [1] ⟨tr, tr, tr, tr, c7, tr, ⟨⟨⟨rfl, rfl, rfl, tr⟩, tr⟩, ok_laws_toVector K (a0.getD x4.toNat default) v8 e9⟩, c10, ⟨List.length_set, gl_set, (gl_atp (lt_of_bound c10)).symm, ⟨⟨rfl, tr⟩, ⟨rfl, tr⟩, ⟨rfl, tr⟩, tr⟩, (fun h => nomatch h)⟩, tr⟩ ?_
    refine blockQ_normal ?_
    refine thenQ_normal ?_
    refine AW.rA ⟨[(0, (vc (sl 3 cs_Vector a0))), (3, (.v (.one (.arr 1)))), (4, (vc (.int .i64 (IntKind.i64.wrap (x4 + (1 : Int))))))], [(1, (.arr false (x5.set x4.toNat v8).length 3 (gl cs_Vector (x5.set x4.toNat v8))))]⟩ (Tt ∧ T2 Tt) [] [0, 3, 4] [1] ⟨tr, tr, tr, tr⟩ ?_
    exact loopQ_normal (k, (IntKind.i64.wrap (x4 + (1 : Int))), (x5.set x4.toNat v8)) h (Nat.lt_succ_self k) (Sub.keep [0, 3, 4] [1] (by kernel_rfl) (by kernel_rfl))
  · refine AW.cond_f rfl b6 ?_
    refine AW.exit ?_
    refine thenQ_exit ?_
    refine loopQ_exit ?_
    refine blockQ_exit ?_
    refine thenQ_normal ?_
    refine AW.seq (AW.rA ⟨[(2, (.v (.one (.arr 1))))], [(1, (.arr false x5.length 3 (gl cs_Vector x5)))]⟩ (T2 Tt) [] [2] [1] ⟨tr, tr, tr⟩ (thenQ_normal ?_))
    refine AW.ret ?_
    replace h := some_eq h
    subst h
    exact ⟨.inr rfl, retOK_of [(.one (.arr 1))] (by kernel_rfl) ⟨rfl, tr⟩ (of_decide_eq_true (by kernel_rfl))⟩

/-! laws.toBoolS -/
def laws_toBoolS_l1 (K : Nat) (a0 : (List Bool)) : Nat → Int → (List Bool) → Option ((List Bool))
  | 0, _, _ => none
  | k + 1, x4, x5 => ite2 ((decide (x4 < (a0.length : Int)))) (chk (0 ≤ x4 ∧ x4 < (a0.length : Int)) (chk (0 ≤ x4 ∧ x4 < (x5.length : Int)) (laws_toBoolS_l1 K a0 k (IntKind.i64.wrap (x4 + (1 : Int))) (x5.set x4.toNat (a0.getD x4.toNat default))))) (some x5)

def laws_toBoolS (K : Nat) (a0 : (List Bool)) : Option ((List Bool)) :=
  chk (0 ≤ (a0.length : Int) ∧ (a0.length : Int).toNat * 1 ≤ 140737488355328) (laws_toBoolS_l1 K a0 K (0 : Int) (List.replicate (a0.length : Int).toNat (default : Bool)))

theorem ok_laws_toBoolS (K : Nat) (a0 : (List Bool)) (o : ((List Bool))) (h : laws_toBoolS K a0 = some o) : CallOK Try.prog 17 [.one (sl 1 csB a0)] [.one (sl 1 csB o)] := by
  refine callOK_of_AW Try.func17 rfl (by kernel_rfl) (Nat.le_of_ble_eq_true (by kernel_rfl)) ?_
  intro w0
  unfold laws_toBoolS at h
  refine AW.seq (AW.rA ⟨[(0, (vc (sl 1 csB a0)))], []⟩ (Tt ∧ Tt) [] [0] [] ⟨tr, tr⟩ (thenQ_normal ?_))
  refine AW.seq ?_
  obtain ⟨c1, h⟩ := chk_some h
  refine AW.rA ⟨[(0, (vc (sl 1 csB a0))), (3, (.v (.one (.arr 1))))], [(1, (.arr false (List.replicate (a0.length : Int).toNat (default : Bool)).length 1 (gl csB (List.replicate (a0.length : Int).toNat (default : Bool)))))]⟩ (T2 ((0 ≤ (a0.length : Int) ∧ (a0.length : Int) = (a0.length : Int) ∧ (((List.replicate (a0.length : Int).toNat (default : Bool)).length : Nat) : Int) = (a0.length : Int) ∧ (List.replicate (a0.length : Int).toNat (default : Bool)).length * 1 ≤ 140737488355328 ∧ ∀ i, i < (List.replicate (a0.length : Int).toNat (default : Bool)).length → zeroRow (fun _ => none) [(.c (.bool false))] (gl csB (List.replicate (a0.length : Int).toNat (default : Bool)) i)) ∧ Tt ∧ Tt)) [.no, .no, .objA 1 (List.replicate (a0.length : Int).toNat (default : Bool)).length (gl csB (List.replicate (a0.length : Int).toNat (default : Bool)))] [0, 3] [1] ⟨tr, tr, ⟨c1.1, rfl, len_rep c1.1, rep_bytes c1.2, fun i hi => gl_zero (cs := csB) (zs := [(.c (.bool false))]) (n := (a0.length : Int).toNat) ⟨⟨rfl, tr⟩, tr⟩ i (rep_lt hi)⟩, tr, tr⟩ ?_
  refine thenQ_normal ?_
  refine AW.seq ?_
  refine AW.seq (AW.rA ⟨[(0, (vc (sl 1 csB a0))), (3, (.v (.one (.arr 1)))), (4, (vc (.int .i64 (0 : Int))))], [(1, (.arr false (List.replicate (a0.length : Int).toNat (default : Bool)).length 1 (gl csB (List.replicate (a0.length : Int).toNat (default : Bool)))))]⟩ (Tt ∧ Tt) [] [0, 3, 4] [1] ⟨tr, tr⟩ (thenQ_normal ?_))
  refine AW.block ?_
  refine AW.loopQ (σ := Nat × Int × (List Bool)) (fun p => ⟨[(0, (vc (sl 1 csB a0))), (3, (.v (.one (.arr 1)))), (4, (vc (.int .i64 p.2.1)))], [(1, (.arr false p.2.2.length 1 (gl csB p.2.2)))]⟩) (fun p => laws_toBoolS_l1 K a0 p.1 p.2.1 p.2.2 = some o) (fun p => p.1) (K, (0 : Int), (List.replicate (a0.length : Int).toNat (default : Bool))) h ?_
  clear h
  rintro ⟨k, x4, x5⟩ h
  replace h : laws_toBoolS_l1 K a0 k x4 x5 = some o := h
  show AW _ _ (⟨[(0, (vc (sl 1 csB a0))), (3, (.v (.one (.arr 1)))), (4, (vc (.int .i64 x4)))], [(1, (.arr false x5.length 1 (gl csB x5)))]⟩ : St) _
  obtain _ | k := k
  · rw [laws_toBoolS_l1] at h; cases h
  rw [laws_toBoolS_l1] at h
  refine AW.seq ?_
  refine AW.seq (AW.rA ⟨[(0, (vc (sl 1 csB a0))), (3, (.v (.one (.arr 1)))), (4, (vc (.int .i64 x4))), (11, (vc (.bool (decide (x4 < (a0.length : Int))))))], [(1, (.arr false x5.length 1 (gl csB x5)))]⟩ (T4 Tt) [] [0, 3, 4, 11] [1] ⟨tr, tr, tr, tr, tr⟩ (thenQ_normal ?_))
  rcases ite2_cases h with ⟨b6, h⟩ | ⟨b6, h⟩
  · refine AW.cond_t rfl b6 ?_
    refine AW.skip ?_
    refine thenQ_normal ?_
    refine AW.seq ?_
    refine AW.block ?_
    obtain ⟨c7, h⟩ := chk_some h
    obtain ⟨c8, h⟩ := chk_some h
    refine AW.rA ⟨[(0, (vc (sl 1 csB a0))), (3, (.v (.one (.arr 1)))), (4, (vc (.int .i64 x4)))], [(1, (.arr false (x5.set x4.toNat (a0.getD x4.toNat default)).length 1 (gl csB (x5.set x4.toNat (a0.getD x4.toNat default)))))]⟩ (T4 ((0 ≤ x4 ∧ x4 < (a0.length : Int)) ∧ Tt ∧ (0 ≤ x4 ∧ x4 < (x5.length : Int)) ∧ ((x5.set x4.toNat (a0.getD x4.toNat default)).length = x5.length ∧ SetOb x5.length 1 x4.toNat 0 1 (gl csB x5) (gl csB (x5.set x4.toNat (a0.getD x4.toNat default))) ∧ ((List.range 1).map fun j => (csB (a0.getD x4.toNat default)).getD (0 + j) .nilptr) = ((List.range 1).map fun j => gl csB (x5.set x4.toNat (a0.getD x4.toNat default)) x4.toNat (0 + j)) ∧ ((((.bool (a0.getD x4.toNat default)) : C) = (.bool (a0.getD x4.toNat default)) ∧ Tt) ∧ Tt) ∧ (false = true → ∀ j, j < 1 → isSeq (gl csB x5 x4.toNat (0 + j)) = false ∧ isSeq (gl csB (x5.set x4.toNat (a0.getD x4.toNat default)) x4.toNat (0 + j)) = false)) ∧ Tt)) [.no, .no, .no, .no, .no, .no, .no, .set (x5.set x4.toNat (a0.getD x4.toNat default)).length (gl csB (x5.set x4.toNat (a0.getD x4.toNat default))) ((List.range 1).map fun j => (csB (a0.getD x4.toNat default)).getD (0 + j) .nilptr)] [0, 3, 4] [1] ⟨tr, tr, tr, tr, c7, tr, c8, ⟨List.length_set, gl_set, (gl_atp (lt_of_bound c8)).symm, ⟨⟨rfl, tr⟩, tr⟩, (fun h => nomatch h)⟩, tr⟩ ?_
    refine blockQ_normal ?_
    refine thenQ_normal ?_
    refine AW.rA ⟨[(0, (vc (sl 1 csB a0))), (3, (.v (.one (.arr 1)))), (4, (vc (.int .i64 (IntKind.i64.wrap (x4 + (1 : Int))))))], [(1, (.arr false (x5.set x4.toNat (a0.getD x4.toNat default)).length 1 (gl csB (x5.set x4.toNat (a0.getD x4.toNat default)))))]⟩ (Tt ∧ T2 Tt) [] [0, 3, 4] [1] ⟨tr, tr, tr, tr⟩ ?_
    exact loopQ_normal (k, (IntKind.i64.wrap (x4 + (1 : Int))), (x5.set x4.toNat (a0.getD x4.toNat default))) h (Nat.lt_succ_self k) (Sub.keep [0, 3, 4] [1] (by kernel_rfl) (by kernel_rfl))
  · refine AW.cond_f rfl b6 ?_
    refine AW.exit ?_
    refine thenQ_exit ?_
    refine loopQ_exit ?_
    refine blockQ_exit ?_
    refine thenQ_normal ?_
    refine AW.seq (AW.rA ⟨[(2, (.v (.one (.arr 1))))], [(1, (.arr false x5.length 1 (gl csB x5)))]⟩ (T2 Tt) [] [2] [1] ⟨tr, tr, tr⟩ (thenQ_normal ?_))
    refine AW.ret ?_
    replace h := some_eq h
    subst h
    exact ⟨.inr rfl, retOK_of [(.one (.arr 1))] (by kernel_rfl) ⟨rfl, tr⟩ (of_decide_eq_true (by kernel_rfl))⟩

/-! laws.toFloat32S -/
def laws_toFloat32S_l1 (K : Nat) (a0 : (List F32)) : Nat → Int → (List F32) → Option ((List F32))
  | 0, _, _ => none
  | k + 1, x4, x5 => ite2 ((decide (x4 < (a0.length : Int)))) (chk (0 ≤ x4 ∧ x4 < (a0.length : Int)) (chk (0 ≤ x4 ∧ x4 < (x5.length : Int)) (laws_toFloat32S_l1 K a0 k (IntKind.i64.wrap (x4 + (1 : Int))) (x5.set x4.toNat (a0.getD x4.toNat default))))) (some x5)

def laws_toFloat32S (K : Nat) (a0 : (List F32)) : Option ((List F32)) :=
  chk (0 ≤ (a0.length : Int) ∧ (a0.length : Int).toNat * 4 ≤ 140737488355328) (laws_toFloat32S_l1 K a0 K (0 : Int) (List.replicate (a0.length : Int).toNat (default : F32)))

theorem ok_laws_toFloat32S (K : Nat) (a0 : (List F32)) (o : ((List F32))) (h : laws_toFloat32S K a0 = some o) : CallOK Try.prog 18 [.one (sl 1 (csF .f32) a0)] [.one (sl 1 (csF .f32) o)] := by
  refine callOK_of_AW Try.func18 rfl (by kernel_rfl) (Nat.le_of_ble_eq_true (by kernel_rfl)) ?_
  intro w0
  unfold laws_toFloat32S at h
  refine AW.seq (AW.rA ⟨[(0, (vc (sl 1 (csF .f32) a0)))], []⟩ (Tt ∧ Tt) [] [0] [] ⟨tr, tr⟩ (thenQ_normal ?_))
  refine AW.seq ?_
  obtain ⟨c1, h⟩ := chk_some h
  refine AW.rA ⟨[(0, (vc (sl 1 (csF .f32) a0))), (3, (.v (.one (.arr 1))))], [(1, (.arr false (List.replicate (a0.length : Int).toNat (default : F32)).length 1 (gl (csF .f32) (List.replicate (a0.length : Int).toNat (default : F32)))))]⟩ (T2 ((0 ≤ (a0.length : Int) ∧ (a0.length : Int) = (a0.length : Int) ∧ (((List.replicate (a0.length : Int).toNat (default : F32)).length : Nat) : Int) = (a0.length : Int) ∧ (List.replicate (a0.length : Int).toNat (default : F32)).length * 4 ≤ 140737488355328 ∧ ∀ i, i < (List.replicate (a0.length : Int).toNat (default : F32)).length → zeroRow (fun _ => none) [(.c (.flt .f32 (default : F32).bits))] (gl (csF .f32) (List.replicate (a0.length : Int).toNat (default : F32)) i)) ∧ Tt ∧ Tt)) [.no, .no, .objA 1 (List.replicate (a0.length : Int).toNat (default : F32)).length (gl (csF .f32) (List.replicate (a0.length : Int).toNat (default : F32)))] [0, 3] [1] ⟨tr, tr, ⟨c1.1, rfl, len_rep c1.1, rep_bytes c1.2, fun i hi => gl_zero (cs := (csF .f32)) (zs := [(.c (.flt .f32 (default : F32).bits))]) (n := (a0.length : Int).toNat) ⟨⟨rfl, tr⟩, tr⟩ i (rep_lt hi)⟩, tr, tr⟩ ?_
  refine thenQ_normal ?_
  refine AW.seq ?_
  refine AW.seq (AW.rA ⟨[(0, (vc (sl 1 (csF .f32) a0))), (3, (.v (.one (.arr 1)))), (4, (vc (.int .i64 (0 : Int))))], [(1, (.arr false (List.replicate (a0.length : Int).toNat (default : F32)).length 1 (gl (csF .f32) (List.replicate (a0.length : Int).toNat (default : F32)))))]⟩ (Tt ∧ Tt) [] [0, 3, 4] [1] ⟨tr, tr⟩ (thenQ_normal ?_))
  refine AW.block ?_
  refine AW.loopQ (σ := Nat × Int × (List F32)) (fun p => ⟨[(0, (vc (sl 1 (csF .f32) a0))), (3, (.v (.one (.arr 1)))), (4, (vc (.int .i64 p.2.1)))], [(1, (.arr false p.2.2.length 1 (gl (csF .f32) p.2.2)))]⟩) (fun p => laws_toFloat32S_l1 K a0 p.1 p.2.1 p.2.2 = some o) (fun p => p.1) (K, (0 : Int), (List.replicate (a0.length : Int).toNat (default : F32))) h ?_
  clear h
  rintro ⟨k, x4, x5⟩ h
  replace h : laws_toFloat32S_l1 K a0 k x4 x5 = some o := h
  show AW _ _ (⟨[(0, (vc (sl 1 (csF .f32) a0))), (3, (.v (.one (.arr 1)))), (4, (vc (.int .i64 x4)))], [(1, (.arr false x5.length 1 (gl (csF .f32) x5)))]⟩ : St) _
  obtain _ | k := k
  · rw [laws_toFloat32S_l1] at h; cases h
  rw [laws_toFloat32S_l1] at h
  refine AW.seq ?_
  refine AW.seq (AW.rA ⟨[(0, (vc (sl 1 (csF .f32) a0))), (3, (.v (.one (.arr 1)))), (4, (vc (.int .i64 x4))), (11, (vc (.bool (decide (x4 < (a0.length : Int))))))], [(1, (.arr false x5.length 1 (gl (csF .f32) x5)))]⟩ (T4 Tt) [] [0, 3, 4, 11] [1] ⟨tr, tr, tr, tr, tr⟩ (thenQ_normal ?_))
  rcases ite2_cases h with ⟨b6, h⟩ | ⟨b6, h⟩
  · refine AW.cond_t rfl b6 ?_
    refine AW.skip ?_
    refine thenQ_normal ?_
    refine AW.seq ?_
    refine AW.block ?_
    obtain ⟨c7, h⟩ := chk_some h
    obtain ⟨c8, h⟩ := chk_some h
    refine AW.rA ⟨[(0, (vc (sl 1 (csF .f32) a0))), (3, (.v (.one (.arr 1)))), (4, (vc (.int .i64 x4)))], [(1, (.arr false (x5.set x4.toNat (a0.getD x4.toNat default)).length 1 (gl (csF .f32) (x5.set x4.toNat (a0.getD x4.toNat default)))))]⟩ (T4 ((0 ≤ x4 ∧ x4 < (a0.length : Int)) ∧ Tt ∧ (0 ≤ x4 ∧ x4 < (x5.length : Int)) ∧ ((x5.set x4.toNat (a0.getD x4.toNat default)).length = x5.length ∧ SetOb x5.length 1 x4.toNat 0 1 (gl (csF .f32) x5) (gl (csF .f32) (x5.set x4.toNat (a0.getD x4.toNat default))) ∧ ((List.range 1).map fun j => ((csF .f32) (a0.getD x4.toNat default)).getD (0 + j) .nilptr) = ((List.range 1).map fun j => gl (csF .f32) (x5.set x4.toNat (a0.getD x4.toNat default)) x4.toNat (0 + j)) ∧ ((((.flt .f32 (a0.getD x4.toNat default).bits) : C) = (.flt .f32 (a0.getD x4.toNat default).bits) ∧ Tt) ∧ Tt) ∧ (false = true → ∀ j, j < 1 → isSeq (gl (csF .f32) x5 x4.toNat (0 + j)) = false ∧ isSeq (gl (csF .f32) (x5.set x4.toNat (a0.getD x4.toNat default)) x4.toNat (0 + j)) = false)) ∧ Tt)) [.no, .no, .no, .no, .no, .no, .no, .set (x5.set x4.toNat (a0.getD x4.toNat default)).length (gl (csF .f32) (x5.set x4.toNat (a0.getD x4.toNat default))) ((List.range 1).map fun j => ((csF .f32) (a0.getD x4.toNat default)).getD (0 + j) .nilptr)] [0, 3, 4] [1] ⟨tr, tr, tr, tr, c7, tr, c8, ⟨List.length_set, gl_set, (gl_atp (lt_of_bound c8)).symm, ⟨⟨rfl, tr⟩, tr⟩, (fun h => nomatch h)⟩, tr⟩ ?_
    refine blockQ_normal ?_
    refine thenQ_normal ?_
    refine AW.rA ⟨[(0, (vc (sl 1 (csF .f32) a0))), (3, (.v (.one (.arr 1)))), (4, (vc (.int .i64 (IntKind.i64.wrap (x4 + (1 : Int))))))], [(1, (.arr false (x5.set x4.toNat (a0.getD x4.toNat default)).length 1 (gl (csF .f32) (x5.set x4.toNat (a0.getD x4.toNat default)))))]⟩ (Tt ∧ T2 Tt) [] [0, 3, 4] [1] ⟨tr, tr, tr, tr⟩ ?_
    exact loopQ_normal (k, (IntKind.i64.wrap (x4 + (1 : Int))), (x5.set x4.toNat (a0.getD x4.toNat default))) h (Nat.lt_succ_self k) (Sub.keep [0, 3, 4] [1] (by kernel_rfl) (by kernel_rfl))
  · refine AW.cond_f rfl b6 ?_
    refine AW.exit ?_
    refine thenQ_exit ?_
    refine loopQ_exit ?_
    refine blockQ_exit ?_
    refine thenQ_normal ?_
    refine AW.seq (AW.rA ⟨[(2, (.v (.one (.arr 1))))], [(1, (.arr false x5.length 1 (gl (csF .f32) x5)))]⟩ (T2 Tt) [] [2] [1] ⟨tr, tr, tr⟩ (thenQ_normal ?_))
    refine AW.ret ?_
    replace h := some_eq h
    subst h
    exact ⟨.inr rfl, retOK_of [(.one (.arr 1))] (by kernel_rfl) ⟨rfl, tr⟩ (of_decide_eq_true (by kernel_rfl))⟩

/-! laws.toString -/
def laws_toString (K : Nat) (a0 : String) : Option (String) :=
  (laws_toVectorS K a0.Points).bind fun v1 => (laws_toVectorS K a0.Before).bind fun v3 => (laws_toBoolS K a0.Fixed).bind fun v5 => (laws_toFloat32S K a0.Lengths).bind fun v7 => (laws_toVector K a0.Fall).bind fun v9 => some (String.mk v1 v3 v5 v7 v9 a0.Damp a0.Passes)

theorem ok_laws_toString (K : Nat) (a0 : String) (o : (String)) (h : laws_toString K a0 = some o) : CallOK Try.prog 6 [.agg (cs_String a0)] [.agg (cs_String o)] := by
  refine callOK_of_AW Try.func6 rfl (by kernel_rfl) (Nat.le_of_ble_eq_true (by kernel_rfl)) ?_
  intro w0
  unfold laws_toString at h
  refine AW.seq (AW.rA ⟨[(1, (vp 1 0)), (2, (vp 2 0))], [(1, (.box [(.c (sl 3 cs_Vector a0.Points)), (.c (sl 3 cs_Vector a0.Before)), (.c (sl 1 csB a0.Fixed)), (.c (sl 1 (csF .f32) a0.Lengths)), (.c (.flt .f32 a0.Fall.X.bits)), (.c (.flt .f32 a0.Fall.Y.bits)), (.c (.flt .f32 a0.Fall.Z.bits)), (.c (.flt .f32 a0.Damp.bits)), (.c (.int .i64 a0.Passes))])), (2, (.box [.nils, .nils, .nils, .nils, (.c (.flt .f32 (default : F32).bits)), (.c (.flt .f32 (default : F32).bits)), (.c (.flt .f32 (default : F32).bits)), (.c (.flt .f32 (default : F32).bits)), (.c (.int .i64 (0 : Int)))]))]⟩ (T2 Tt) [.box 1, .box 2] [1, 2] [1, 2] ⟨tr, tr, tr⟩ (thenQ_normal ?_))
  refine AW.seq (AW.rA ⟨[(1, (vp 1 0)), (2, (vp 2 0)), (3, (vp 3 0))], [(1, (.box [(.c (sl 3 cs_Vector a0.Points)), (.c (sl 3 cs_Vector a0.Before)), (.c (sl 1 csB a0.Fixed)), (.c (sl 1 (csF .f32) a0.Lengths)), (.c (.flt .f32 a0.Fall.X.bits)), (.c (.flt .f32 a0.Fall.Y.bits)), (.c (.flt .f32 a0.Fall.Z.bits)), (.c (.flt .f32 a0.Damp.bits)), (.c (.int .i64 a0.Passes))])), (2, (.box [.nils, .nils, .nils, .nils, (.c (.flt .f32 (default : F32).bits)), (.c (.flt .f32 (default : F32).bits)), (.c (.flt .f32 (default : F32).bits)), (.c (.flt .f32 (default : F32).bits)), (.c (.int .i64 (0 : Int)))])), (3, (.box [.nils, .nils, .nils, .nils, (.c (.flt .f32 (default : F32).bits)), (.c (.flt .f32 (default : F32).bits)), (.c (.flt .f32 (default : F32).bits)), (.c (.flt .f32 (default : F32).bits)), (.c (.int .i64 (0 : Int)))]))]⟩ (Tt ∧ Tt) [.box 3] [1, 2, 3] [1, 2, 3] ⟨tr, tr⟩ (thenQ_normal ?_))
  refine AW.seq ?_
  obtain ⟨v1, e2, h⟩ := bind_some h
  refine AW.rA ⟨[(1, (vp 1 0)), (2, (vp 2 0)), (3, (vp 3 0))], [(1, (.box [(.c (sl 3 cs_Vector a0.Points)), (.c (sl 3 cs_Vector a0.Before)), (.c (sl 1 csB a0.Fixed)), (.c (sl 1 (csF .f32) a0.Lengths)), (.c (.flt .f32 a0.Fall.X.bits)), (.c (.flt .f32 a0.Fall.Y.bits)), (.c (.flt .f32 a0.Fall.Z.bits)), (.c (.flt .f32 a0.Damp.bits)), (.c (.int .i64 a0.Passes))])), (2, (.box [.nils, .nils, .nils, .nils, (.c (.flt .f32 (default : F32).bits)), (.c (.flt .f32 (default : F32).bits)), (.c (.flt .f32 (default : F32).bits)), (.c (.flt .f32 (default : F32).bits)), (.c (.int .i64 (0 : Int)))])), (3, (.box [(.lst 4 v1.length 3 (gl cs_Vector v1)), .nils, .nils, .nils, (.c (.flt .f32 (default : F32).bits)), (.c (.flt .f32 (default : F32).bits)), (.c (.flt .f32 (default : F32).bits)), (.c (.flt .f32 (default : F32).bits)), (.c (.int .i64 (0 : Int)))])), (4, (.lst v1.length 3 (gl cs_Vector v1)))]⟩ (T2 ((((Eqc (sl 3 cs_Vector a0.Points)) ∧ Tt) ∧ CallOK Try.prog 16 [.one (sl 3 cs_Vector a0.Points)] [.one (sl 3 cs_Vector v1)]) ∧ T2 Tt)) [.no, .no, .call [.one (sl 3 cs_Vector a0.Points)] [.one (sl 3 cs_Vector v1)] [[.lst 4]]] [1, 2, 3] [1, 2, 3, 4] ⟨tr, tr, ⟨⟨rfl, tr⟩, ok_laws_toVectorS K a0.Points v1 e2⟩, tr, tr, tr⟩ ?_
  refine thenQ_normal ?_
  refine AW.seq ?_
  obtain ⟨v3, e4, h⟩ := bind_some h
  refine AW.rA ⟨[(1, (vp 1 0)), (2, (vp 2 0)), (3, (vp 3 0))], [(1, (.box [(.c (sl 3 cs_Vector a0.Points)), (.c (sl 3 cs_Vector a0.Before)), (.c (sl 1 csB a0.Fixed)), (.c (sl 1 (csF .f32) a0.Lengths)), (.c (.flt .f32 a0.Fall.X.bits)), (.c (.flt .f32 a0.Fall.Y.bits)), (.c (.flt .f32 a0.Fall.Z.bits)), (.c (.flt .f32 a0.Damp.bits)), (.c (.int .i64 a0.Passes))])), (2, (.box [.nils, .nils, .nils, .nils, (.c (.flt .f32 (default : F32).bits)), (.c (.flt .f32 (default : F32).bits)), (.c (.flt .f32 (default : F32).bits)), (.c (.flt .f32 (default : F32).bits)), (.c (.int .i64 (0 : Int)))])), (3, (.box [(.lst 4 v1.length 3 (gl cs_Vector v1)), (.lst 5 v3.length 3 (gl cs_Vector v3)), .nils, .nils, (.c (.flt .f32 (default : F32).bits)), (.c (.flt .f32 (default : F32).bits)), (.c (.flt .f32 (default : F32).bits)), (.c (.flt .f32 (default : F32).bits)), (.c (.int .i64 (0 : Int)))])), (4, (.lst v1.length 3 (gl cs_Vector v1))), (5, (.lst v3.length 3 (gl cs_Vector v3)))]⟩ (T2 ((((Eqc (sl 3 cs_Vector a0.Before)) ∧ Tt) ∧ CallOK Try.prog 16 [.one (sl 3 cs_Vector a0.Before)] [.one (sl 3 cs_Vector v3)]) ∧ T2 Tt)) [.no, .no, .call [.one (sl 3 cs_Vector a0.Before)] [.one (sl 3 cs_Vector v3)] [[.lst 5]]] [1, 2, 3] [1, 2, 3, 4, 5] ⟨tr, tr, ⟨⟨rfl, tr⟩, ok_laws_toVectorS K a0.Before v3 e4⟩, tr, tr, tr⟩ ?_
  refine thenQ_normal ?_
  refine AW.seq ?_
  obtain ⟨v5, e6, h⟩ := bind_some h
  refine AW.rA ⟨[(1, (vp 1 0)), (2, (vp 2 0)), (3, (vp 3 0))], [(1, (.box [(.c (sl 3 cs_Vector a0.Points)), (.c (sl 3 cs_Vector a0.Before)), (.c (sl 1 csB a0.Fixed)), (.c (sl 1 (csF .f32) a0.Lengths)), (.c (.flt .f32 a0.Fall.X.bits)), (.c (.flt .f32 a0.Fall.Y.bits)), (.c (.flt .f32 a0.Fall.Z.bits)), (.c (.flt .f32 a0.Damp.bits)), (.c (.int .i64 a0.Passes))])), (2, (.box [.nils, .nils, .nils, .nils, (.c (.flt .f32 (default : F32).bits)), (.c (.flt .f32 (default : F32).bits)), (.c (.flt .f32 (default : F32).bits)), (.c (.flt .f32 (default : F32).bits)), (.c (.int .i64 (0 : Int)))])), (3, (.box [(.lst 4 v1.length 3 (gl cs_Vector v1)), (.lst 5 v3.length 3 (gl cs_Vector v3)), (.lst 6 v5.length 1 (gl csB v5)), .nils, (.c (.flt .f32 (default : F32).bits)), (.c (.flt .f32 (default : F32).bits)), (.c (.flt .f32 (default : F32).bits)), (.c (.flt .f32 (default : F32).bits)), (.c (.int .i64 (0 : Int)))])), (4, (.lst v1.length 3 (gl cs_Vector v1))), (5, (.lst v3.length 3 (gl cs_Vector v3))), (6, (.lst v5.length 1 (gl csB v5)))]⟩ (T2 ((((Eqc (sl 1 csB a0.Fixed)) ∧ Tt) ∧ CallOK Try.prog 17 [.one (sl 1 csB a0.Fixed)] [.one (sl 1 csB v5)]) ∧ T2 Tt)) [.no, .no, .call [.one (sl 1 csB a0.Fixed)] [.one (sl 1 csB v5)] [[.lst 6]]] [1, 2, 3] [1, 2, 3, 4, 5, 6] ⟨tr, tr, ⟨⟨rfl, tr⟩, ok_laws_toBoolS K a0.Fixed v5 e6⟩, tr, tr, tr⟩ ?_
  refine thenQ_normal ?_
  refine AW.seq ?_
  obtain ⟨v7, e8, h⟩ := bind_some h
  refine AW.rA ⟨[(1, (vp 1 0)), (2, (vp 2 0)), (3, (vp 3 0))], [(1, (.box [(.c (sl 3 cs_Vector a0.Points)), (.c (sl 3 cs_Vector a0.Before)), (.c (sl 1 csB a0.Fixed)), (.c (sl 1 (csF .f32) a0.Lengths)), (.c (.flt .f32 a0.Fall.X.bits)), (.c (.flt .f32 a0.Fall.Y.bits)), (.c (.flt .f32 a0.Fall.Z.bits)), (.c (.flt .f32 a0.Damp.bits)), (.c (.int .i64 a0.Passes))])), (2, (.box [.nils, .nils, .nils, .nils, (.c (.flt .f32 (default : F32).bits)), (.c (.flt .f32 (default : F32).bits)), (.c (.flt .f32 (default : F32).bits)), (.c (.flt .f32 (default : F32).bits)), (.c (.int .i64 (0 : Int)))])), (3, (.box [(.lst 4 v1.length 3 (gl cs_Vector v1)), (.lst 5 v3.length 3 (gl cs_Vector v3)), (.lst 6 v5.length 1 (gl csB v5)), (.lst 7 v7.length 1 (gl (csF .f32) v7)), (.c (.flt .f32 (default : F32).bits)), (.c (.flt .f32 (default : F32).bits)), (.c (.flt .f32 (default : F32).bits)), (.c (.flt .f32 (default : F32).bits)), (.c (.int .i64 (0 : Int)))])), (4, (.lst v1.length 3 (gl cs_Vector v1))), (5, (.lst v3.length 3 (gl cs_Vector v3))), (6, (.lst v5.length 1 (gl csB v5))), (7, (.lst v7.length 1 (gl (csF .f32) v7)))]⟩ (T2 ((((Eqc (sl 1 (csF .f32) a0.Lengths)) ∧ Tt) ∧ CallOK Try.prog 18 [.one (sl 1 (csF .f32) a0.Lengths)] [.one (sl 1 (csF .f32) v7)]) ∧ T2 Tt)) [.no, .no, .call [.one (sl 1 (csF .f32) a0.Lengths)] [.one (sl 1 (csF .f32) v7)] [[.lst 7]]] [1, 2, 3] [1, 2, 3, 4, 5, 6, 7] ⟨tr, tr, ⟨⟨rfl, tr⟩, ok_laws_toFloat32S K a0.Lengths v7 e8⟩, tr, tr, tr⟩ ?_
  refine thenQ_normal ?_
  refine AW.seq ?_
  obtain ⟨v9, e10, h⟩ := bind_some h
  refine AW.rA ⟨[(1, (vp 1 0)), (2, (vp 2 0)), (3, (vp 3 0))], [(1, (.box [(.c (sl 3 cs_Vector a0.Points)), (.c (sl 3 cs_Vector a0.Before)), (.c (sl 1 csB a0.Fixed)), (.c (sl 1 (csF .f32) a0.Lengths)), (.c (.flt .f32 a0.Fall.X.bits)), (.c (.flt .f32 a0.Fall.Y.bits)), (.c (.flt .f32 a0.Fall.Z.bits)), (.c (.flt .f32 a0.Damp.bits)), (.c (.int .i64 a0.Passes))])), (2, (.box [.nils, .nils, .nils, .nils, (.c (.flt .f32 (default : F32).bits)), (.c (.flt .f32 (default : F32).bits)), (.c (.flt .f32 (default : F32).bits)), (.c (.flt .f32 (default : F32).bits)), (.c (.int .i64 (0 : Int)))])), (3, (.box [(.lst 4 v1.length 3 (gl cs_Vector v1)), (.lst 5 v3.length 3 (gl cs_Vector v3)), (.lst 6 v5.length 1 (gl csB v5)), (.lst 7 v7.length 1 (gl (csF .f32) v7)), (.c (.flt .f32 v9.X.bits)), (.c (.flt .f32 v9.Y.bits)), (.c (.flt .f32 v9.Z.bits)), (.c (.flt .f32 (default : F32).bits)), (.c (.int .i64 (0 : Int)))])), (4, (.lst v1.length 3 (gl cs_Vector v1))), (5, (.lst v3.length 3 (gl cs_Vector v3))), (6, (.lst v5.length 1 (gl csB v5))), (7, (.lst v7.length 1 (gl (csF .f32) v7)))]⟩ (T2 (((((Eqc (.flt .f32 a0.Fall.X.bits)) ∧ (Eqc (.flt .f32 a0.Fall.Y.bits)) ∧ (Eqc (.flt .f32 a0.Fall.Z.bits)) ∧ Tt) ∧ Tt) ∧ CallOK Try.prog 19 [.agg (cs_Vector a0.Fall)] [.agg (cs_Vector v9)]) ∧ T2 Tt)) [.no, .no, .call [.agg (cs_Vector a0.Fall)] [.agg (cs_Vector v9)] [[.view, .view, .view]]] [1, 2, 3] [1, 2, 3, 4, 5, 6, 7] ⟨tr, tr, ⟨⟨⟨rfl, rfl, rfl, tr⟩, tr⟩, ok_laws_toVector K a0.Fall v9 e10⟩, tr, tr, tr⟩ ?_
  refine thenQ_normal ?_
  refine AW.seq (AW.rA ⟨[(1, (vp 1 0)), (2, (vp 2 0)), (3, (vp 3 0))], [(1, (.box [(.c (sl 3 cs_Vector a0.Points)), (.c (sl 3 cs_Vector a0.Before)), (.c (sl 1 csB a0.Fixed)), (.c (sl 1 (csF .f32) a0.Lengths)), (.c (.flt .f32 a0.Fall.X.bits)), (.c (.flt .f32 a0.Fall.Y.bits)), (.c (.flt .f32 a0.Fall.Z.bits)), (.c (.flt .f32 a0.Damp.bits)), (.c (.int .i64 a0.Passes))])), (2, (.box [.nils, .nils, .nils, .nils, (.c (.flt .f32 (default : F32).bits)), (.c (.flt .f32 (default : F32).bits)), (.c (.flt .f32 (default : F32).bits)), (.c (.flt .f32 (default : F32).bits)), (.c (.int .i64 (0 : Int)))])), (3, (.box [(.lst 4 v1.length 3 (gl cs_Vector v1)), (.lst 5 v3.length 3 (gl cs_Vector v3)), (.lst 6 v5.length 1 (gl csB v5)), (.lst 7 v7.length 1 (gl (csF .f32) v7)), (.c (.flt .f32 v9.X.bits)), (.c (.flt .f32 v9.Y.bits)), (.c (.flt .f32 v9.Z.bits)), (.c (.flt .f32 a0.Damp.bits)), (.c (.int .i64 (0 : Int)))])), (4, (.lst v1.length 3 (gl cs_Vector v1))), (5, (.lst v3.length 3 (gl cs_Vector v3))), (6, (.lst v5.length 1 (gl csB v5))), (7, (.lst v7.length 1 (gl (csF .f32) v7)))]⟩ (T4 Tt) [] [1, 2, 3] [1, 2, 3, 4, 5, 6, 7] ⟨tr, tr, tr, tr, tr⟩ (thenQ_normal ?_))
  refine AW.seq (AW.rA ⟨[(2, (vp 2 0)), (3, (vp 3 0))], [(2, (.box [.nils, .nils, .nils, .nils, (.c (.flt .f32 (default : F32).bits)), (.c (.flt .f32 (default : F32).bits)), (.c (.flt .f32 (default : F32).bits)), (.c (.flt .f32 (default : F32).bits)), (.c (.int .i64 (0 : Int)))])), (3, (.box [(.lst 4 v1.length 3 (gl cs_Vector v1)), (.lst 5 v3.length 3 (gl cs_Vector v3)), (.lst 6 v5.length 1 (gl csB v5)), (.lst 7 v7.length 1 (gl (csF .f32) v7)), (.c (.flt .f32 v9.X.bits)), (.c (.flt .f32 v9.Y.bits)), (.c (.flt .f32 v9.Z.bits)), (.c (.flt .f32 a0.Damp.bits)), (.c (.int .i64 a0.Passes))])), (4, (.lst v1.length 3 (gl cs_Vector v1))), (5, (.lst v3.length 3 (gl cs_Vector v3))), (6, (.lst v5.length 1 (gl csB v5))), (7, (.lst v7.length 1 (gl (csF .f32) v7)))]⟩ (T4 Tt) [] [2, 3] [2, 3, 4, 5, 6, 7] ⟨tr, tr, tr, tr, tr⟩ (thenQ_normal ?_))
  refine AW.seq (AW.rA ⟨[(2, (vp 2 0))], [(2, (.box [(.lst 4 v1.length 3 (gl cs_Vector v1)), (.lst 5 v3.length 3 (gl cs_Vector v3)), (.lst 6 v5.length 1 (gl csB v5)), (.lst 7 v7.length 1 (gl (csF .f32) v7)), (.c (.flt .f32 v9.X.bits)), (.c (.flt .f32 v9.Y.bits)), (.c (.flt .f32 v9.Z.bits)), (.c (.flt .f32 a0.Damp.bits)), (.c (.int .i64 a0.Passes))])), (4, (.lst v1.length 3 (gl cs_Vector v1))), (5, (.lst v3.length 3 (gl cs_Vector v3))), (6, (.lst v5.length 1 (gl csB v5))), (7, (.lst v7.length 1 (gl (csF .f32) v7)))]⟩ (T2 Tt) [] [2] [2, 4, 5, 6, 7] ⟨tr, tr, tr⟩ (thenQ_normal ?_))
  refine AW.ret ?_
  replace h := some_eq h
  subst h
  exact ⟨.inr rfl, retOK_of [(.agg [(.lst 4 v1.length 3 (gl cs_Vector v1)), (.lst 5 v3.length 3 (gl cs_Vector v3)), (.lst 6 v5.length 1 (gl csB v5)), (.lst 7 v7.length 1 (gl (csF .f32) v7)), (.c (.flt .f32 v9.X.bits)), (.c (.flt .f32 v9.Y.bits)), (.c (.flt .f32 v9.Z.bits)), (.c (.flt .f32 a0.Damp.bits)), (.c (.int .i64 a0.Passes))])] (by kernel_rfl) ⟨⟨rfl, rfl, rfl, rfl, ⟨rfl, tr⟩, ⟨rfl, tr⟩, ⟨rfl, tr⟩, ⟨rfl, tr⟩, ⟨rfl, tr⟩, tr⟩, tr⟩ (of_decide_eq_true (by kernel_rfl))⟩

/-! spec.l00In -/
def spec_l00In (_K : Nat) (a0 : Int) (a1 : Int) (a2 : Int) : Option (Bool) :=
  (ite2 ((decide (a0 ≥ a1))) (some (decide (a0 ≤ a2))) (some false)).bind fun j2 => some j2

theorem ok_spec_l00In (K : Nat) (a0 : Int) (a1 : Int) (a2 : Int) (o : (Bool)) (h : spec_l00In K a0 a1 a2 = some o) : CallOK Try.prog 33 [.one (.int .i64 a0), .one (.int .i64 a1), .one (.int .i64 a2)] [.one (.bool o)] := by
  refine callOK_of_AW Try.func33 rfl (by kernel_rfl) (Nat.le_of_ble_eq_true (by kernel_rfl)) ?_
  intro w0
  unfold spec_l00In at h
  refine AW.seq (AW.rA ⟨[(0, (vc (.int .i64 a0))), (1, (vc (.int .i64 a1))), (2, (vc (.int .i64 a2)))], []⟩ (Tt ∧ Tt) [] [0, 1, 2] [] ⟨tr, tr⟩ (thenQ_normal ?_))
  refine AW.seq ?_
  obtain ⟨j2, e3, h⟩ := bind_some h
  refine AW.join1 (s2 := ⟨[(6, (vc (.bool j2)))], []⟩) ?_ ?_
  · rcases ite2_cases e3 with ⟨b1, e3⟩ | ⟨b1, e3⟩
    · replace e3 := some_eq e3
      subst e3
      exact AW.rA ⟨[(6, (vc (.bool (decide (a0 ≤ a2)))))], []⟩ (Tt ∧ T2 ((Tt ∧ (decide (a0 ≥ a1)) = true) ∧ Tt ∧ T4 Tt)) [.no, .no, .no, .dec true] [6] [] ⟨tr, tr, tr, ⟨tr, b1⟩, tr, tr, tr, tr, tr, tr⟩ ⟨rfl, rfl⟩
    · replace e3 := some_eq e3
      subst e3
      exact AW.rA ⟨[(6, (vc (.bool false)))], []⟩ (Tt ∧ T2 ((Tt ∧ (decide (a0 ≥ a1)) = false) ∧ Tt ∧ T4 Tt)) [.no, .no, .no, .dec false] [6] [] ⟨tr, tr, tr, ⟨tr, b1⟩, tr, tr, tr, tr, tr, tr⟩ ⟨rfl, rfl⟩
  refine thenQ_normal ?_
  refine AW.ret ?_
  replace h := some_eq h
  subst h
  exact ⟨.inr rfl, retOK_of [(.one (.c (.bool j2)))] (by kernel_rfl) ⟨⟨rfl, tr⟩, tr⟩ (of_decide_eq_true (by kernel_rfl))⟩

/-! spec.l04Points -/
def spec_l04Points (K : Nat) (a0 : (List Vector)) : Option (Bool) :=
  (spec_l00In K (a0.length : Int) (2 : Int) (16 : Int)).bind fun v1 => some v1

theorem ok_spec_l04Points (K : Nat) (a0 : (List Vector)) (o : (Bool)) (h : spec_l04Points K a0 = some o) : CallOK Try.prog 32 [.one (sl 3 cs_Vector a0)] [.one (.bool o)] := by
  refine callOK_of_AW Try.func32 rfl (by kernel_rfl) (Nat.le_of_ble_eq_true (by kernel_rfl)) ?_
  intro w0
  unfold spec_l04Points at h
  refine AW.seq (AW.rA ⟨[(0, (vc (sl 3 cs_Vector a0)))], []⟩ (Tt ∧ Tt) [] [0] [] ⟨tr, tr⟩ (thenQ_normal ?_))
  refine AW.seq ?_
  obtain ⟨v1, e2, h⟩ := bind_some h
  refine AW.rA ⟨[(2, (vc (.bool v1)))], []⟩ (T2 ((((Eqc (.int .i64 (a0.length : Int))) ∧ (Eqc (.int .i64 (2 : Int))) ∧ (Eqc (.int .i64 (16 : Int))) ∧ Tt) ∧ CallOK Try.prog 33 [.one (.int .i64 (a0.length : Int)), .one (.int .i64 (2 : Int)), .one (.int .i64 (16 : Int))] [.one (.bool v1)]) ∧ Tt ∧ Tt)) [.no, .no, .call [.one (.int .i64 (a0.length : Int)), .one (.int .i64 (2 : Int)), .one (.int .i64 (16 : Int))] [.one (.bool v1)] [[.view]]] [2] [] ⟨tr, tr, ⟨⟨rfl, rfl, rfl, tr⟩, ok_spec_l00In K (a0.length : Int) (2 : Int) (16 : Int) v1 e2⟩, tr, tr⟩ ?_
  refine thenQ_normal ?_
  refine AW.ret ?_
  replace h := some_eq h
  subst h
  exact ⟨.inr rfl, retOK_of [(.one (.c (.bool v1)))] (by kernel_rfl) ⟨⟨rfl, tr⟩, tr⟩ (of_decide_eq_true (by kernel_rfl))⟩

/-! spec.l08Is -/
def spec_l08Is (K : Nat) (a0 : String) : Option (Bool) :=
  (spec_l04Points K a0.Points).bind fun v1 => (ite2 (v1) (ite2 (((a0.Before.length : Int) == (a0.Points.length : Int))) (ite2 (((a0.Fixed.length : Int) == (a0.Points.length : Int))) (ite2 (((a0.Lengths.length : Int) == (IntKind.i64.wrap ((a0.Points.length : Int) - (1 : Int))))) ((spec_l00In K a0.Passes (0 : Int) (16 : Int)).bind fun v7 => some v7) (some false)) (some false)) (some false)) (some false)).bind fun j9 => some j9

theorem ok_spec_l08Is (K : Nat) (a0 : String) (o : (Bool)) (h : spec_l08Is K a0 = some o) : CallOK Try.prog 14 [.one (pl 9 cs_String a0)] [.one (.bool o)] := by
  refine callOK_of_AW Try.func14 rfl (by kernel_rfl) (Nat.le_of_ble_eq_true (by kernel_rfl)) ?_
  intro w0
  unfold spec_l08Is at h
  refine AW.seq (AW.rA ⟨[(0, (vc (pl 9 cs_String a0)))], []⟩ (Tt ∧ Tt) [] [0] [] ⟨tr, tr⟩ (thenQ_normal ?_))
  refine AW.seq (AW.rA ⟨[(0, (vc (pl 9 cs_String a0))), (3, (vc (.int .i64 (a0.Points.length : Int))))], []⟩ (T2 (T4 Tt)) [] [0, 3] [] ⟨tr, tr, tr, tr, tr, tr, tr⟩ (thenQ_normal ?_))
  refine AW.seq ?_
  obtain ⟨v1, e2, h⟩ := bind_some h
  obtain ⟨j9, e10, h⟩ := bind_some h
  refine AW.join1 (s2 := ⟨[(2, (vc (.bool j9)))], []⟩) ?_ ?_
  · rcases ite2_cases e10 with ⟨b3, e10⟩ | ⟨b3, e10⟩
    · rcases ite2_cases e10 with ⟨b4, e10⟩ | ⟨b4, e10⟩
      · rcases ite2_cases e10 with ⟨b5, e10⟩ | ⟨b5, e10⟩
        · rcases ite2_cases e10 with ⟨b6, e10⟩ | ⟨b6, e10⟩
          · obtain ⟨v7, e8, e10⟩ := bind_some e10
            replace e10 := some_eq e10
            subst e10
            exact AW.rA ⟨[(2, (vc (.bool v7)))], []⟩ (T4 ((((Eqc (sl 3 cs_Vector a0.Points)) ∧ Tt) ∧ CallOK Try.prog 32 [.one (sl 3 cs_Vector a0.Points)] [.one (.bool v1)]) ∧ (Tt ∧ v1 = true) ∧ T4 (T4 ((Tt ∧ ((a0.Before.length : Int) == (a0.Points.length : Int)) = true) ∧ T4 (T4 ((Tt ∧ ((a0.Fixed.length : Int) == (a0.Points.length : Int)) = true) ∧ Tt ∧ T4 (T4 ((Tt ∧ ((a0.Lengths.length : Int) == (IntKind.i64.wrap ((a0.Points.length : Int) - (1 : Int)))) = true) ∧ T4 ((((Eqc (.int .i64 a0.Passes)) ∧ (Eqc (.int .i64 (0 : Int))) ∧ (Eqc (.int .i64 (16 : Int))) ∧ Tt) ∧ CallOK Try.prog 33 [.one (.int .i64 a0.Passes), .one (.int .i64 (0 : Int)), .one (.int .i64 (16 : Int))] [.one (.bool v7)]) ∧ T2 Tt))))))))) [.no, .no, .no, .no, .call [.one (sl 3 cs_Vector a0.Points)] [.one (.bool v1)] [[.view]], .dec true, .no, .no, .no, .no, .no, .no, .no, .no, .dec true, .no, .no, .no, .no, .no, .no, .no, .no, .dec true, .no, .no, .no, .no, .no, .no, .no, .no, .no, .dec true, .no, .no, .no, .no, .call [.one (.int .i64 a0.Passes), .one (.int .i64 (0 : Int)), .one (.int .i64 (16 : Int))] [.one (.bool v7)] [[.view]]] [2] [] ⟨tr, tr, tr, tr, ⟨⟨rfl, tr⟩, ok_spec_l04Points K a0.Points v1 e2⟩, ⟨tr, b3⟩, tr, tr, tr, tr, tr, tr, tr, tr, ⟨tr, b4⟩, tr, tr, tr, tr, tr, tr, tr, tr, ⟨tr, b5⟩, tr, tr, tr, tr, tr, tr, tr, tr, tr, ⟨tr, b6⟩, tr, tr, tr, tr, ⟨⟨rfl, rfl, rfl, tr⟩, ok_spec_l00In K a0.Passes (0 : Int) (16 : Int) v7 e8⟩, tr, tr, tr⟩ ⟨rfl, rfl⟩
          · replace e10 := some_eq e10
            subst e10
            exact AW.rA ⟨[(2, (vc (.bool false)))], []⟩ (T4 ((((Eqc (sl 3 cs_Vector a0.Points)) ∧ Tt) ∧ CallOK Try.prog 32 [.one (sl 3 cs_Vector a0.Points)] [.one (.bool v1)]) ∧ (Tt ∧ v1 = true) ∧ T4 (T4 ((Tt ∧ ((a0.Before.length : Int) == (a0.Points.length : Int)) = true) ∧ T4 (T4 ((Tt ∧ ((a0.Fixed.length : Int) == (a0.Points.length : Int)) = true) ∧ Tt ∧ T4 (T4 ((Tt ∧ ((a0.Lengths.length : Int) == (IntKind.i64.wrap ((a0.Points.length : Int) - (1 : Int)))) = false) ∧ Tt ∧ T2 (T4 Tt))))))))) [.no, .no, .no, .no, .call [.one (sl 3 cs_Vector a0.Points)] [.one (.bool v1)] [[.view]], .dec true, .no, .no, .no, .no, .no, .no, .no, .no, .dec true, .no, .no, .no, .no, .no, .no, .no, .no, .dec true, .no, .no, .no, .no, .no, .no, .no, .no, .no, .dec false] [2] [] ⟨tr, tr, tr, tr, ⟨⟨rfl, tr⟩, ok_spec_l04Points K a0.Points v1 e2⟩, ⟨tr, b3⟩, tr, tr, tr, tr, tr, tr, tr, tr, ⟨tr, b4⟩, tr, tr, tr, tr, tr, tr, tr, tr, ⟨tr, b5⟩, tr, tr, tr, tr, tr, tr, tr, tr, tr, ⟨tr, b6⟩, tr, tr, tr, tr, tr, tr, tr, tr⟩ ⟨rfl, rfl⟩
        · replace e10 := some_eq e10
          subst e10
          exact AW.rA ⟨[(2, (vc (.bool false)))], []⟩ (T4 ((((Eqc (sl 3 cs_Vector a0.Points)) ∧ Tt) ∧ CallOK Try.prog 32 [.one (sl 3 cs_Vector a0.Points)] [.one (.bool v1)]) ∧ (Tt ∧ v1 = true) ∧ T4 (T4 ((Tt ∧ ((a0.Before.length : Int) == (a0.Points.length : Int)) = true) ∧ T4 (T4 ((Tt ∧ ((a0.Fixed.length : Int) == (a0.Points.length : Int)) = false) ∧ Tt ∧ T4 (T4 (T4 (T4 Tt))))))))) [.no, .no, .no, .no, .call [.one (sl 3 cs_Vector a0.Points)] [.one (.bool v1)] [[.view]], .dec true, .no, .no, .no, .no, .no, .no, .no, .no, .dec true, .no, .no, .no, .no, .no, .no, .no, .no, .dec false] [2] [] ⟨tr, tr, tr, tr, ⟨⟨rfl, tr⟩, ok_spec_l04Points K a0.Points v1 e2⟩, ⟨tr, b3⟩, tr, tr, tr, tr, tr, tr, tr, tr, ⟨tr, b4⟩, tr, tr, tr, tr, tr, tr, tr, tr, ⟨tr, b5⟩, tr, tr, tr, tr, tr, tr, tr, tr, tr, tr, tr, tr, tr, tr, tr, tr, tr, tr⟩ ⟨rfl, rfl⟩
      · replace e10 := some_eq e10
        subst e10
        exact AW.rA ⟨[(2, (vc (.bool false)))], []⟩ (T4 ((((Eqc (sl 3 cs_Vector a0.Points)) ∧ Tt) ∧ CallOK Try.prog 32 [.one (sl 3 cs_Vector a0.Points)] [.one (.bool v1)]) ∧ (Tt ∧ v1 = true) ∧ T4 (T4 ((Tt ∧ ((a0.Before.length : Int) == (a0.Points.length : Int)) = false) ∧ T2 (T4 (T4 (T4 (T4 (T4 (T4 Tt)))))))))) [.no, .no, .no, .no, .call [.one (sl 3 cs_Vector a0.Points)] [.one (.bool v1)] [[.view]], .dec true, .no, .no, .no, .no, .no, .no, .no, .no, .dec false] [2] [] ⟨tr, tr, tr, tr, ⟨⟨rfl, tr⟩, ok_spec_l04Points K a0.Points v1 e2⟩, ⟨tr, b3⟩, tr, tr, tr, tr, tr, tr, tr, tr, ⟨tr, b4⟩, tr, tr, tr, tr, tr, tr, tr, tr, tr, tr, tr, tr, tr, tr, tr, tr, tr, tr, tr, tr, tr, tr, tr, tr, tr, tr, tr⟩ ⟨rfl, rfl⟩
    · replace e10 := some_eq e10
      subst e10
      exact AW.rA ⟨[(2, (vc (.bool false)))], []⟩ (T4 ((((Eqc (sl 3 cs_Vector a0.Points)) ∧ Tt) ∧ CallOK Try.prog 32 [.one (sl 3 cs_Vector a0.Points)] [.one (.bool v1)]) ∧ (Tt ∧ v1 = false) ∧ Tt ∧ T2 (T4 (T4 (T4 (T4 (T4 (T4 (T4 (T4 Tt)))))))))) [.no, .no, .no, .no, .call [.one (sl 3 cs_Vector a0.Points)] [.one (.bool v1)] [[.view]], .dec false] [2] [] ⟨tr, tr, tr, tr, ⟨⟨rfl, tr⟩, ok_spec_l04Points K a0.Points v1 e2⟩, ⟨tr, b3⟩, tr, tr, tr, tr, tr, tr, tr, tr, tr, tr, tr, tr, tr, tr, tr, tr, tr, tr, tr, tr, tr, tr, tr, tr, tr, tr, tr, tr, tr, tr, tr, tr, tr, tr, tr, tr⟩ ⟨rfl, rfl⟩
  refine thenQ_normal ?_
  refine AW.ret ?_
  replace h := some_eq h
  subst h
  exact ⟨.inr rfl, retOK_of [(.one (.c (.bool j9)))] (by kernel_rfl) ⟨⟨rfl, tr⟩, tr⟩ (of_decide_eq_true (by kernel_rfl))⟩

/-! spec.l08Own -/
def spec_l08Own (_K : Nat) (a0 : String) : Option (String) :=
  chk ((([] : List Vector).length + a0.Points.length) * 12 ≤ 140737488355328) (chk ((([] : List Vector).length + a0.Before.length) * 12 ≤ 140737488355328) (chk ((([] : List Bool).length + a0.Fixed.length) * 1 ≤ 140737488355328) (chk ((([] : List F32).length + a0.Lengths.length) * 4 ≤ 140737488355328) (some (String.mk (([] : List Vector) ++ a0.Points) (([] : List Vector) ++ a0.Before) (([] : List Bool) ++ a0.Fixed) (([] : List F32) ++ a0.Lengths) a0.Fall a0.Damp a0.Passes)))))

theorem ok_spec_l08Own (K : Nat) (a0 : String) (o : (String)) (h : spec_l08Own K a0 = some o) : CallOK Try.prog 34 [.one (pl 9 cs_String a0)] [.agg (cs_String o)] := by
  refine callOK_of_AW Try.func34 rfl (by kernel_rfl) (Nat.le_of_ble_eq_true (by kernel_rfl)) ?_
  intro w0
  unfold spec_l08Own at h
  refine AW.seq (AW.rA ⟨[(0, (vc (pl 9 cs_String a0))), (2, (vp 1 0))], [(1, (.box [.nils, .nils, .nils, .nils, (.c (.flt .f32 (default : F32).bits)), (.c (.flt .f32 (default : F32).bits)), (.c (.flt .f32 (default : F32).bits)), (.c (.flt .f32 (default : F32).bits)), (.c (.int .i64 (0 : Int)))]))]⟩ (Tt ∧ Tt) [.box 1] [0, 2] [1] ⟨tr, tr⟩ (thenQ_normal ?_))
  refine AW.seq (AW.rA ⟨[(0, (vc (pl 9 cs_String a0))), (2, (vp 1 0)), (3, (vp 2 0))], [(1, (.box [.nils, .nils, .nils, .nils, (.c (.flt .f32 (default : F32).bits)), (.c (.flt .f32 (default : F32).bits)), (.c (.flt .f32 (default : F32).bits)), (.c (.flt .f32 (default : F32).bits)), (.c (.int .i64 (0 : Int)))])), (2, (.box [(.c (sl 3 cs_Vector a0.Points)), (.c (sl 3 cs_Vector a0.Before)), (.c (sl 1 csB a0.Fixed)), (.c (sl 1 (csF .f32) a0.Lengths)), (.c (.flt .f32 a0.Fall.X.bits)), (.c (.flt .f32 a0.Fall.Y.bits)), (.c (.flt .f32 a0.Fall.Z.bits)), (.c (.flt .f32 a0.Damp.bits)), (.c (.int .i64 a0.Passes))]))]⟩ (Tt ∧ T4 Tt) [.no, .no, .no, .box 2] [0, 2, 3] [1, 2] ⟨tr, tr, tr, tr, tr, tr⟩ (thenQ_normal ?_))
  refine AW.seq ?_
  obtain ⟨c1, h⟩ := chk_some h
  refine AW.rA ⟨[(0, (vc (pl 9 cs_String a0))), (2, (vp 1 0)), (3, (vp 2 0))], [(1, (.box [.nils, .nils, .nils, .nils, (.c (.flt .f32 (default : F32).bits)), (.c (.flt .f32 (default : F32).bits)), (.c (.flt .f32 (default : F32).bits)), (.c (.flt .f32 (default : F32).bits)), (.c (.int .i64 (0 : Int)))])), (2, (.box [(.lst 4 (([] : List Vector) ++ a0.Points).length 3 (gl cs_Vector (([] : List Vector) ++ a0.Points))), (.c (sl 3 cs_Vector a0.Before)), (.c (sl 1 csB a0.Fixed)), (.c (sl 1 (csF .f32) a0.Lengths)), (.c (.flt .f32 a0.Fall.X.bits)), (.c (.flt .f32 a0.Fall.Y.bits)), (.c (.flt .f32 a0.Fall.Z.bits)), (.c (.flt .f32 a0.Damp.bits)), (.c (.int .i64 a0.Passes))])), (4, (.lst (([] : List Vector) ++ a0.Points).length 3 (gl cs_Vector (([] : List Vector) ++ a0.Points))))]⟩ ((([] : List Vector).length = 0 ∧ Tt) ∧ T4 (((([] : List Vector) ++ a0.Points).length = ([] : List Vector).length + a0.Points.length ∧ AppOb (([] : List Vector).length) (a0.Points.length) 3 (gl cs_Vector ([] : List Vector)) (gl cs_Vector a0.Points) (gl cs_Vector (([] : List Vector) ++ a0.Points)) ∧ (∀ i j, i < a0.Points.length → j < 3 → scalarC (gl cs_Vector a0.Points i j)) ∧ (([] : List Vector).length + a0.Points.length) * 12 ≤ 140737488355328) ∧ T2 Tt)) [.obj 3 ([] : List Vector).length (gl cs_Vector ([] : List Vector)), .no, .no, .no, .no, .obj 4 (([] : List Vector) ++ a0.Points).length (gl cs_Vector (([] : List Vector) ++ a0.Points))] [0, 2, 3] [1, 2, 4] ⟨⟨rfl, tr⟩, tr, tr, tr, tr, ⟨List.length_append, gl_append, gl_scalar sc_Vector _, c1⟩, tr, tr, tr⟩ ?_
  refine thenQ_normal ?_
  refine AW.seq ?_
  obtain ⟨c2, h⟩ := chk_some h
  refine AW.rA ⟨[(0, (vc (pl 9 cs_String a0))), (2, (vp 1 0)), (3, (vp 2 0))], [(1, (.box [.nils, .nils, .nils, .nils, (.c (.flt .f32 (default : F32).bits)), (.c (.flt .f32 (default : F32).bits)), (.c (.flt .f32 (default : F32).bits)), (.c (.flt .f32 (default : F32).bits)), (.c (.int .i64 (0 : Int)))])), (2, (.box [(.lst 4 (([] : List Vector) ++ a0.Points).length 3 (gl cs_Vector (([] : List Vector) ++ a0.Points))), (.lst 6 (([] : List Vector) ++ a0.Before).length 3 (gl cs_Vector (([] : List Vector) ++ a0.Before))), (.c (sl 1 csB a0.Fixed)), (.c (sl 1 (csF .f32) a0.Lengths)), (.c (.flt .f32 a0.Fall.X.bits)), (.c (.flt .f32 a0.Fall.Y.bits)), (.c (.flt .f32 a0.Fall.Z.bits)), (.c (.flt .f32 a0.Damp.bits)), (.c (.int .i64 a0.Passes))])), (4, (.lst (([] : List Vector) ++ a0.Points).length 3 (gl cs_Vector (([] : List Vector) ++ a0.Points)))), (6, (.lst (([] : List Vector) ++ a0.Before).length 3 (gl cs_Vector (([] : List Vector) ++ a0.Before))))]⟩ ((([] : List Vector).length = 0 ∧ Tt) ∧ T4 (((([] : List Vector) ++ a0.Before).length = ([] : List Vector).length + a0.Before.length ∧ AppOb (([] : List Vector).length) (a0.Before.length) 3 (gl cs_Vector ([] : List Vector)) (gl cs_Vector a0.Before) (gl cs_Vector (([] : List Vector) ++ a0.Before)) ∧ (∀ i j, i < a0.Before.length → j < 3 → scalarC (gl cs_Vector a0.Before i j)) ∧ (([] : List Vector).length + a0.Before.length) * 12 ≤ 140737488355328) ∧ T2 Tt)) [.obj 5 ([] : List Vector).length (gl cs_Vector ([] : List Vector)), .no, .no, .no, .no, .obj 6 (([] : List Vector) ++ a0.Before).length (gl cs_Vector (([] : List Vector) ++ a0.Before))] [0, 2, 3] [1, 2, 4, 6] ⟨⟨rfl, tr⟩, tr, tr, tr, tr, ⟨List.length_append, gl_append, gl_scalar sc_Vector _, c2⟩, tr, tr, tr⟩ ?_
  refine thenQ_normal ?_
  refine AW.seq ?_
  obtain ⟨c3, h⟩ := chk_some h
  refine AW.rA ⟨[(0, (vc (pl 9 cs_String a0))), (2, (vp 1 0)), (3, (vp 2 0))], [(1, (.box [.nils, .nils, .nils, .nils, (.c (.flt .f32 (default : F32).bits)), (.c (.flt .f32 (default : F32).bits)), (.c (.flt .f32 (default : F32).bits)), (.c (.flt .f32 (default : F32).bits)), (.c (.int .i64 (0 : Int)))])), (2, (.box [(.lst 4 (([] : List Vector) ++ a0.Points).length 3 (gl cs_Vector (([] : List Vector) ++ a0.Points))), (.lst 6 (([] : List Vector) ++ a0.Before).length 3 (gl cs_Vector (([] : List Vector) ++ a0.Before))), (.lst 8 (([] : List Bool) ++ a0.Fixed).length 1 (gl csB (([] : List Bool) ++ a0.Fixed))), (.c (sl 1 (csF .f32) a0.Lengths)), (.c (.flt .f32 a0.Fall.X.bits)), (.c (.flt .f32 a0.Fall.Y.bits)), (.c (.flt .f32 a0.Fall.Z.bits)), (.c (.flt .f32 a0.Damp.bits)), (.c (.int .i64 a0.Passes))])), (4, (.lst (([] : List Vector) ++ a0.Points).length 3 (gl cs_Vector (([] : List Vector) ++ a0.Points)))), (6, (.lst (([] : List Vector) ++ a0.Before).length 3 (gl cs_Vector (([] : List Vector) ++ a0.Before)))), (8, (.lst (([] : List Bool) ++ a0.Fixed).length 1 (gl csB (([] : List Bool) ++ a0.Fixed))))]⟩ ((([] : List Bool).length = 0 ∧ Tt) ∧ T4 (((([] : List Bool) ++ a0.Fixed).length = ([] : List Bool).length + a0.Fixed.length ∧ AppOb (([] : List Bool).length) (a0.Fixed.length) 1 (gl csB ([] : List Bool)) (gl csB a0.Fixed) (gl csB (([] : List Bool) ++ a0.Fixed)) ∧ (∀ i j, i < a0.Fixed.length → j < 1 → scalarC (gl csB a0.Fixed i j)) ∧ (([] : List Bool).length + a0.Fixed.length) * 1 ≤ 140737488355328) ∧ T2 Tt)) [.obj 7 ([] : List Bool).length (gl csB ([] : List Bool)), .no, .no, .no, .no, .obj 8 (([] : List Bool) ++ a0.Fixed).length (gl csB (([] : List Bool) ++ a0.Fixed))] [0, 2, 3] [1, 2, 4, 6, 8] ⟨⟨rfl, tr⟩, tr, tr, tr, tr, ⟨List.length_append, gl_append, gl_scalar scB _, c3⟩, tr, tr, tr⟩ ?_
  refine thenQ_normal ?_
  refine AW.seq ?_
  obtain ⟨c4, h⟩ := chk_some h
  refine AW.rA ⟨[(2, (vp 1 0)), (3, (vp 2 0))], [(1, (.box [.nils, .nils, .nils, .nils, (.c (.flt .f32 (default : F32).bits)), (.c (.flt .f32 (default : F32).bits)), (.c (.flt .f32 (default : F32).bits)), (.c (.flt .f32 (default : F32).bits)), (.c (.int .i64 (0 : Int)))])), (2, (.box [(.lst 4 (([] : List Vector) ++ a0.Points).length 3 (gl cs_Vector (([] : List Vector) ++ a0.Points))), (.lst 6 (([] : List Vector) ++ a0.Before).length 3 (gl cs_Vector (([] : List Vector) ++ a0.Before))), (.lst 8 (([] : List Bool) ++ a0.Fixed).length 1 (gl csB (([] : List Bool) ++ a0.Fixed))), (.lst 10 (([] : List F32) ++ a0.Lengths).length 1 (gl (csF .f32) (([] : List F32) ++ a0.Lengths))), (.c (.flt .f32 a0.Fall.X.bits)), (.c (.flt .f32 a0.Fall.Y.bits)), (.c (.flt .f32 a0.Fall.Z.bits)), (.c (.flt .f32 a0.Damp.bits)), (.c (.int .i64 a0.Passes))])), (4, (.lst (([] : List Vector) ++ a0.Points).length 3 (gl cs_Vector (([] : List Vector) ++ a0.Points)))), (6, (.lst (([] : List Vector) ++ a0.Before).length 3 (gl cs_Vector (([] : List Vector) ++ a0.Before)))), (8, (.lst (([] : List Bool) ++ a0.Fixed).length 1 (gl csB (([] : List Bool) ++ a0.Fixed)))), (10, (.lst (([] : List F32) ++ a0.Lengths).length 1 (gl (csF .f32) (([] : List F32) ++ a0.Lengths))))]⟩ ((([] : List F32).length = 0 ∧ Tt) ∧ T4 (((([] : List F32) ++ a0.Lengths).length = ([] : List F32).length + a0.Lengths.length ∧ AppOb (([] : List F32).length) (a0.Lengths.length) 1 (gl (csF .f32) ([] : List F32)) (gl (csF .f32) a0.Lengths) (gl (csF .f32) (([] : List F32) ++ a0.Lengths)) ∧ (∀ i j, i < a0.Lengths.length → j < 1 → scalarC (gl (csF .f32) a0.Lengths i j)) ∧ (([] : List F32).length + a0.Lengths.length) * 4 ≤ 140737488355328) ∧ T2 Tt)) [.obj 9 ([] : List F32).length (gl (csF .f32) ([] : List F32)), .no, .no, .no, .no, .obj 10 (([] : List F32) ++ a0.Lengths).length (gl (csF .f32) (([] : List F32) ++ a0.Lengths))] [2, 3] [1, 2, 4, 6, 8, 10] ⟨⟨rfl, tr⟩, tr, tr, tr, tr, ⟨List.length_append, gl_append, gl_scalar scF _, c4⟩, tr, tr, tr⟩ ?_
  refine thenQ_normal ?_
  refine AW.seq (AW.rA ⟨[(2, (vp 1 0))], [(1, (.box [(.lst 4 (([] : List Vector) ++ a0.Points).length 3 (gl cs_Vector (([] : List Vector) ++ a0.Points))), (.lst 6 (([] : List Vector) ++ a0.Before).length 3 (gl cs_Vector (([] : List Vector) ++ a0.Before))), (.lst 8 (([] : List Bool) ++ a0.Fixed).length 1 (gl csB (([] : List Bool) ++ a0.Fixed))), (.lst 10 (([] : List F32) ++ a0.Lengths).length 1 (gl (csF .f32) (([] : List F32) ++ a0.Lengths))), (.c (.flt .f32 a0.Fall.X.bits)), (.c (.flt .f32 a0.Fall.Y.bits)), (.c (.flt .f32 a0.Fall.Z.bits)), (.c (.flt .f32 a0.Damp.bits)), (.c (.int .i64 a0.Passes))])), (4, (.lst (([] : List Vector) ++ a0.Points).length 3 (gl cs_Vector (([] : List Vector) ++ a0.Points)))), (6, (.lst (([] : List Vector) ++ a0.Before).length 3 (gl cs_Vector (([] : List Vector) ++ a0.Before)))), (8, (.lst (([] : List Bool) ++ a0.Fixed).length 1 (gl csB (([] : List Bool) ++ a0.Fixed)))), (10, (.lst (([] : List F32) ++ a0.Lengths).length 1 (gl (csF .f32) (([] : List F32) ++ a0.Lengths))))]⟩ (T2 Tt) [] [2] [1, 4, 6, 8, 10] ⟨tr, tr, tr⟩ (thenQ_normal ?_))
  refine AW.ret ?_
  replace h := some_eq h
  subst h
  exact ⟨.inr rfl, retOK_of [(.agg [(.lst 4 (([] : List Vector) ++ a0.Points).length 3 (gl cs_Vector (([] : List Vector) ++ a0.Points))), (.lst 6 (([] : List Vector) ++ a0.Before).length 3 (gl cs_Vector (([] : List Vector) ++ a0.Before))), (.lst 8 (([] : List Bool) ++ a0.Fixed).length 1 (gl csB (([] : List Bool) ++ a0.Fixed))), (.lst 10 (([] : List F32) ++ a0.Lengths).length 1 (gl (csF .f32) (([] : List F32) ++ a0.Lengths))), (.c (.flt .f32 a0.Fall.X.bits)), (.c (.flt .f32 a0.Fall.Y.bits)), (.c (.flt .f32 a0.Fall.Z.bits)), (.c (.flt .f32 a0.Damp.bits)), (.c (.int .i64 a0.Passes))])] (by kernel_rfl) ⟨⟨rfl, rfl, rfl, rfl, ⟨rfl, tr⟩, ⟨rfl, tr⟩, ⟨rfl, tr⟩, ⟨rfl, tr⟩, ⟨rfl, tr⟩, tr⟩, tr⟩ (of_decide_eq_true (by kernel_rfl))⟩

/-! spec.l01Less -/
def spec_l01Less (_K : Nat) (a0 : Vector) (a1 : Vector) : Option (Vector) :=
  some (Vector.mk (a0.X.sub a1.X) (a0.Y.sub a1.Y) (a0.Z.sub a1.Z))

theorem ok_spec_l01Less (K : Nat) (a0 : Vector) (a1 : Vector) (o : (Vector)) (h : spec_l01Less K a0 a1 = some o) : CallOK Try.prog 37 [.agg (cs_Vector a0), .agg (cs_Vector a1)] [.agg (cs_Vector o)] := by
  refine callOK_of_AW Try.func37 rfl (by kernel_rfl) (Nat.le_of_ble_eq_true (by kernel_rfl)) ?_
  intro w0
  unfold spec_l01Less at h
  refine AW.seq (AW.rA ⟨[(2, (vp 1 0)), (3, (vp 2 0)), (4, (vp 3 0))], [(1, (.box [(.c (.flt .f32 a0.X.bits)), (.c (.flt .f32 a0.Y.bits)), (.c (.flt .f32 a0.Z.bits))])), (2, (.box [(.c (.flt .f32 a1.X.bits)), (.c (.flt .f32 a1.Y.bits)), (.c (.flt .f32 a1.Z.bits))])), (3, (.box [(.c (.flt .f32 (default : F32).bits)), (.c (.flt .f32 (default : F32).bits)), (.c (.flt .f32 (default : F32).bits))]))]⟩ (Tt ∧ T2 Tt) [.box 1, .box 2, .box 3] [2, 3, 4] [1, 2, 3] ⟨tr, tr, tr, tr⟩ (thenQ_normal ?_))
  refine AW.seq (AW.rA ⟨[(4, (vp 3 0))], [(3, (.box [(.c (.flt .f32 (a0.X.sub a1.X).bits)), (.c (.flt .f32 (a0.Y.sub a1.Y).bits)), (.c (.flt .f32 (a0.Z.sub a1.Z).bits))]))]⟩ (Tt ∧ T4 (T4 (T4 (T4 Tt)))) [] [4] [3] ⟨tr, tr, tr, tr, tr, tr, tr, tr, tr, tr, tr, tr, tr, tr, tr, tr, tr, tr⟩ (thenQ_normal ?_))
  refine AW.ret ?_
  replace h := some_eq h
  subst h
  exact ⟨.inr rfl, retOK_of [(.agg [(.c (.flt .f32 (a0.X.sub a1.X).bits)), (.c (.flt .f32 (a0.Y.sub a1.Y).bits)), (.c (.flt .f32 (a0.Z.sub a1.Z).bits))])] (by kernel_rfl) ⟨⟨⟨rfl, tr⟩, ⟨rfl, tr⟩, ⟨rfl, tr⟩, tr⟩, tr⟩ (of_decide_eq_true (by kernel_rfl))⟩

/-! spec.l01Scale -/
def spec_l01Scale (_K : Nat) (a0 : Vector) (a1 : F32) : Option (Vector) :=
  some (Vector.mk (a0.X.mul a1) (a0.Y.mul a1) (a0.Z.mul a1))

theorem ok_spec_l01Scale (K : Nat) (a0 : Vector) (a1 : F32) (o : (Vector)) (h : spec_l01Scale K a0 a1 = some o) : CallOK Try.prog 36 [.agg (cs_Vector a0), .one (.flt .f32 a1.bits)] [.agg (cs_Vector o)] := by
  refine callOK_of_AW Try.func36 rfl (by kernel_rfl) (Nat.le_of_ble_eq_true (by kernel_rfl)) ?_
  intro w0
  unfold spec_l01Scale at h
  refine AW.seq (AW.rA ⟨[(1, (vc (.flt .f32 a1.bits))), (2, (vp 1 0)), (4, (vp 2 0))], [(1, (.box [(.c (.flt .f32 a0.X.bits)), (.c (.flt .f32 a0.Y.bits)), (.c (.flt .f32 a0.Z.bits))])), (2, (.box [(.c (.flt .f32 (default : F32).bits)), (.c (.flt .f32 (default : F32).bits)), (.c (.flt .f32 (default : F32).bits))]))]⟩ (T2 Tt) [.box 1, .box 2] [1, 2, 4] [1, 2] ⟨tr, tr, tr⟩ (thenQ_normal ?_))
  refine AW.seq (AW.rA ⟨[(4, (vp 2 0))], [(2, (.box [(.c (.flt .f32 (a0.X.mul a1).bits)), (.c (.flt .f32 (a0.Y.mul a1).bits)), (.c (.flt .f32 (a0.Z.mul a1).bits))]))]⟩ (T2 (T4 (T4 (T4 Tt)))) [] [4] [2] ⟨tr, tr, tr, tr, tr, tr, tr, tr, tr, tr, tr, tr, tr, tr, tr⟩ (thenQ_normal ?_))
  refine AW.ret ?_
  replace h := some_eq h
  subst h
  exact ⟨.inr rfl, retOK_of [(.agg [(.c (.flt .f32 (a0.X.mul a1).bits)), (.c (.flt .f32 (a0.Y.mul a1).bits)), (.c (.flt .f32 (a0.Z.mul a1).bits))])] (by kernel_rfl) ⟨⟨⟨rfl, tr⟩, ⟨rfl, tr⟩, ⟨rfl, tr⟩, tr⟩, tr⟩ (of_decide_eq_true (by kernel_rfl))⟩

/-! spec.l01Add -/
def spec_l01Add (_K : Nat) (a0 : Vector) (a1 : Vector) : Option (Vector) :=
  some (Vector.mk (a0.X.add a1.X) (a0.Y.add a1.Y) (a0.Z.add a1.Z))

theorem ok_spec_l01Add (K : Nat) (a0 : Vector) (a1 : Vector) (o : (Vector)) (h : spec_l01Add K a0 a1 = some o) : CallOK Try.prog 35 [.agg (cs_Vector a0), .agg (cs_Vector a1)] [.agg (cs_Vector o)] := by
  refine callOK_of_AW Try.func35 rfl (by kernel_rfl) (Nat.le_of_ble_eq_true (by kernel_rfl)) ?_
  intro w0
  unfold spec_l01Add at h
  refine AW.seq (AW.rA ⟨[(2, (vp 1 0)), (3, (vp 2 0)), (4, (vp 3 0))], [(1, (.box [(.c (.flt .f32 a0.X.bits)), (.c (.flt .f32 a0.Y.bits)), (.c (.flt .f32 a0.Z.bits))])), (2, (.box [(.c (.flt .f32 a1.X.bits)), (.c (.flt .f32 a1.Y.bits)), (.c (.flt .f32 a1.Z.bits))])), (3, (.box [(.c (.flt .f32 (default : F32).bits)), (.c (.flt .f32 (default : F32).bits)), (.c (.flt .f32 (default : F32).bits))]))]⟩ (Tt ∧ T2 Tt) [.box 1, .box 2, .box 3] [2, 3, 4] [1, 2, 3] ⟨tr, tr, tr, tr⟩ (thenQ_normal ?_))
  refine AW.seq (AW.rA ⟨[(4, (vp 3 0))], [(3, (.box [(.c (.flt .f32 (a0.X.add a1.X).bits)), (.c (.flt .f32 (a0.Y.add a1.Y).bits)), (.c (.flt .f32 (a0.Z.add a1.Z).bits))]))]⟩ (Tt ∧ T4 (T4 (T4 (T4 Tt)))) [] [4] [3] ⟨tr, tr, tr, tr, tr, tr, tr, tr, tr, tr, tr, tr, tr, tr, tr, tr, tr, tr⟩ (thenQ_normal ?_))
  refine AW.ret ?_
  replace h := some_eq h
  subst h
  exact ⟨.inr rfl, retOK_of [(.agg [(.c (.flt .f32 (a0.X.add a1.X).bits)), (.c (.flt .f32 (a0.Y.add a1.Y).bits)), (.c (.flt .f32 (a0.Z.add a1.Z).bits))])] (by kernel_rfl) ⟨⟨⟨rfl, tr⟩, ⟨rfl, tr⟩, ⟨rfl, tr⟩, tr⟩, tr⟩ (of_decide_eq_true (by kernel_rfl))⟩

/-! spec.l01Inner -/
def spec_l01Inner (_K : Nat) (a0 : Vector) (a1 : Vector) : Option (F32) :=
  some (((a0.X.mul a1.X).add (a0.Y.mul a1.Y)).add (a0.Z.mul a1.Z))

theorem ok_spec_l01Inner (K : Nat) (a0 : Vector) (a1 : Vector) (o : (F32)) (h : spec_l01Inner K a0 a1 = some o) : CallOK Try.prog 54 [.agg (cs_Vector a0), .agg (cs_Vector a1)] [.one (.flt .f32 o.bits)] := by
  refine callOK_of_AW Try.func54 rfl (by kernel_rfl) (Nat.le_of_ble_eq_true (by kernel_rfl)) ?_
  intro w0
  unfold spec_l01Inner at h
  refine AW.seq (AW.rA ⟨[(2, (vp 1 0)), (3, (vp 2 0))], [(1, (.box [(.c (.flt .f32 a0.X.bits)), (.c (.flt .f32 a0.Y.bits)), (.c (.flt .f32 a0.Z.bits))])), (2, (.box [(.c (.flt .f32 a1.X.bits)), (.c (.flt .f32 a1.Y.bits)), (.c (.flt .f32 a1.Z.bits))]))]⟩ (Tt ∧ T2 Tt) [.box 1, .box 2] [2, 3] [1, 2] ⟨tr, tr, tr, tr⟩ (thenQ_normal ?_))
  refine AW.seq (AW.rA ⟨[(4, (vc (.flt .f32 (((a0.X.mul a1.X).add (a0.Y.mul a1.Y)).add (a0.Z.mul a1.Z)).bits)))], []⟩ (T2 (T4 (T4 (T4 (T4 Tt))))) [] [4] [] ⟨tr, tr, tr, tr, tr, tr, tr, tr, tr, tr, tr, tr, tr, tr, tr, tr, tr, tr, tr⟩ (thenQ_normal ?_))
  refine AW.ret ?_
  replace h := some_eq h
  subst h
  exact ⟨.inr rfl, retOK_of [(.one (.c (.flt .f32 (((a0.X.mul a1.X).add (a0.Y.mul a1.Y)).add (a0.Z.mul a1.Z)).bits)))] (by kernel_rfl) ⟨⟨rfl, tr⟩, tr⟩ (of_decide_eq_true (by kernel_rfl))⟩

/-! math.sqrt -/
def math_sqrt (_K : Nat) (a0 : F64) : Option (F64) :=
  some a0.sqrt

theorem ok_math_sqrt (K : Nat) (a0 : F64) (o : F64) (h : math_sqrt K a0 = some o) : CallOK Try.prog 62 [.one (.flt .f64 a0.bits)] [.one (.flt .f64 o.bits)] :=
  hand_sqrt (e := Extern.MathSqrt.sqrt) Try.func62 (by kernel_rfl) (by kernel_rfl) (by kernel_rfl) (by kernel_rfl) (fun _ => rfl) a0 o h

/-! math.Sqrt -/
def math_Sqrt (K : Nat) (a0 : F64) : Option (F64) :=
  (math_sqrt K a0).bind fun v1 => some v1

theorem ok_math_Sqrt (K : Nat) (a0 : F64) (o : (F64)) (h : math_Sqrt K a0 = some o) : CallOK Try.prog 58 [.one (.flt .f64 a0.bits)] [.one (.flt .f64 o.bits)] := by
  refine callOK_of_AW Try.func58 rfl (by kernel_rfl) (Nat.le_of_ble_eq_true (by kernel_rfl)) ?_
  intro w0
  unfold math_Sqrt at h
  refine AW.seq (AW.rA ⟨[(0, (vc (.flt .f64 a0.bits)))], []⟩ (Tt ∧ Tt) [] [0] [] ⟨tr, tr⟩ (thenQ_normal ?_))
  refine AW.seq ?_
  obtain ⟨v1, e2, h⟩ := bind_some h
  refine AW.rA ⟨[(2, (vc (.flt .f64 v1.bits)))], []⟩ (Tt ∧ (((Eqc (.flt .f64 a0.bits)) ∧ Tt) ∧ CallOK Try.prog 62 [.one (.flt .f64 a0.bits)] [.one (.flt .f64 v1.bits)]) ∧ Tt ∧ Tt) [.no, .call [.one (.flt .f64 a0.bits)] [.one (.flt .f64 v1.bits)] [[.view]]] [2] [] ⟨tr, ⟨⟨rfl, tr⟩, ok_math_sqrt K a0 v1 e2⟩, tr, tr⟩ ?_
  refine thenQ_normal ?_
  refine AW.ret ?_
  replace h := some_eq h
  subst h
  exact ⟨.inr rfl, retOK_of [(.one (.c (.flt .f64 v1.bits)))] (by kernel_rfl) ⟨⟨rfl, tr⟩, tr⟩ (of_decide_eq_true (by kernel_rfl))⟩

/-! spec.l01Narrow -/
def spec_l01Narrow (_K : Nat) (a0 : F64) : Option (F32) :=
  chk ((convBits .f64 a0.bits .f32).isSome = true) (some (Fl.cv .f64 .f32 a0))

theorem ok_spec_l01Narrow (K : Nat) (a0 : F64) (o : (F32)) (h : spec_l01Narrow K a0 = some o) : CallOK Try.prog 57 [.one (.flt .f64 a0.bits)] [.one (.flt .f32 o.bits)] := by
  refine callOK_of_AW Try.func57 rfl (by kernel_rfl) (Nat.le_of_ble_eq_true (by kernel_rfl)) ?_
  intro w0
  unfold spec_l01Narrow at h
  refine AW.seq (AW.rA ⟨[(0, (vc (.flt .f64 a0.bits)))], []⟩ (Tt ∧ Tt) [] [0] [] ⟨tr, tr⟩ (thenQ_normal ?_))
  refine AW.seq ?_
  obtain ⟨c1, h⟩ := chk_some h
  refine AW.rA ⟨[(2, (vc (.flt .f32 (Fl.cv .f64 .f32 a0).bits)))], []⟩ (Tt ∧ ((convBits .f64 a0.bits .f32).isSome = true) ∧ Tt ∧ Tt) [] [2] [] ⟨tr, c1, tr, tr⟩ ?_
  refine thenQ_normal ?_
  refine AW.ret ?_
  replace h := some_eq h
  subst h
  exact ⟨.inr rfl, retOK_of [(.one (.c (.flt .f32 (Fl.cv .f64 .f32 a0).bits)))] (by kernel_rfl) ⟨⟨rfl, tr⟩, tr⟩ (of_decide_eq_true (by kernel_rfl))⟩

/-! spec.l01Sqrt -/
def spec_l01Sqrt (K : Nat) (a0 : F32) : Option (F32) :=
  (math_Sqrt K (Fl.cv .f32 .f64 a0)).bind fun v1 => (spec_l01Narrow K v1).bind fun v3 => some v3

theorem ok_spec_l01Sqrt (K : Nat) (a0 : F32) (o : (F32)) (h : spec_l01Sqrt K a0 = some o) : CallOK Try.prog 53 [.one (.flt .f32 a0.bits)] [.one (.flt .f32 o.bits)] := by
  refine callOK_of_AW Try.func53 rfl (by kernel_rfl) (Nat.le_of_ble_eq_true (by kernel_rfl)) ?_
  intro w0
  unfold spec_l01Sqrt at h
  refine AW.seq (AW.rA ⟨[(0, (vc (.flt .f32 a0.bits)))], []⟩ (Tt ∧ Tt) [] [0] [] ⟨tr, tr⟩ (thenQ_normal ?_))
  refine AW.seq ?_
  obtain ⟨v1, e2, h⟩ := bind_some h
  obtain ⟨v3, e4, h⟩ := bind_some h
  refine AW.rA ⟨[(2, (vc (.flt .f32 v3.bits)))], []⟩ (Tt ∧ ((convBits .f32 a0.bits .f64).isSome = true) ∧ (((Eqc (.flt .f64 (Fl.cv .f32 .f64 a0).bits)) ∧ Tt) ∧ CallOK Try.prog 58 [.one (.flt .f64 (Fl.cv .f32 .f64 a0).bits)] [.one (.flt .f64 v1.bits)]) ∧ (((Eqc (.flt .f64 v1.bits)) ∧ Tt) ∧ CallOK Try.prog 57 [.one (.flt .f64 v1.bits)] [.one (.flt .f32 v3.bits)]) ∧ Tt ∧ Tt) [.no, .no, .call [.one (.flt .f64 (Fl.cv .f32 .f64 a0).bits)] [.one (.flt .f64 v1.bits)] [[.view]], .call [.one (.flt .f64 v1.bits)] [.one (.flt .f32 v3.bits)] [[.view]]] [2] [] ⟨tr, cv_wide a0, ⟨⟨rfl, tr⟩, ok_math_Sqrt K (Fl.cv .f32 .f64 a0) v1 e2⟩, ⟨⟨rfl, tr⟩, ok_spec_l01Narrow K v1 v3 e4⟩, tr, tr⟩ ?_
  refine thenQ_normal ?_
  refine AW.ret ?_
  replace h := some_eq h
  subst h
  exact ⟨.inr rfl, retOK_of [(.one (.c (.flt .f32 v3.bits)))] (by kernel_rfl) ⟨⟨rfl, tr⟩, tr⟩ (of_decide_eq_true (by kernel_rfl))⟩

/-! spec.l01Long -/
def spec_l01Long (K : Nat) (a0 : Vector) : Option (F32) :=
  (spec_l01Inner K a0 a0).bind fun v1 => (spec_l01Sqrt K v1).bind fun v3 => some v3

theorem ok_spec_l01Long (K : Nat) (a0 : Vector) (o : (F32)) (h : spec_l01Long K a0 = some o) : CallOK Try.prog 43 [.agg (cs_Vector a0)] [.one (.flt .f32 o.bits)] := by
  refine callOK_of_AW Try.func43 rfl (by kernel_rfl) (Nat.le_of_ble_eq_true (by kernel_rfl)) ?_
  intro w0
  unfold spec_l01Long at h
  refine AW.seq (AW.rA ⟨[(1, (vp 1 0))], [(1, (.box [(.c (.flt .f32 a0.X.bits)), (.c (.flt .f32 a0.Y.bits)), (.c (.flt .f32 a0.Z.bits))]))]⟩ (T2 Tt) [.box 1] [1] [1] ⟨tr, tr, tr⟩ (thenQ_normal ?_))
  refine AW.seq ?_
  obtain ⟨v1, e2, h⟩ := bind_some h
  obtain ⟨v3, e4, h⟩ := bind_some h
  refine AW.rA ⟨[(2, (vc (.flt .f32 v3.bits)))], []⟩ (T2 (((((Eqc (.flt .f32 a0.X.bits)) ∧ (Eqc (.flt .f32 a0.Y.bits)) ∧ (Eqc (.flt .f32 a0.Z.bits)) ∧ Tt) ∧ ((Eqc (.flt .f32 a0.X.bits)) ∧ (Eqc (.flt .f32 a0.Y.bits)) ∧ (Eqc (.flt .f32 a0.Z.bits)) ∧ Tt) ∧ Tt) ∧ CallOK Try.prog 54 [.agg (cs_Vector a0), .agg (cs_Vector a0)] [.one (.flt .f32 v1.bits)]) ∧ (((Eqc (.flt .f32 v1.bits)) ∧ Tt) ∧ CallOK Try.prog 53 [.one (.flt .f32 v1.bits)] [.one (.flt .f32 v3.bits)]) ∧ Tt ∧ Tt)) [.no, .no, .call [.agg (cs_Vector a0), .agg (cs_Vector a0)] [.one (.flt .f32 v1.bits)] [[.view]], .call [.one (.flt .f32 v1.bits)] [.one (.flt .f32 v3.bits)] [[.view]]] [2] [] ⟨tr, tr, ⟨⟨⟨rfl, rfl, rfl, tr⟩, ⟨rfl, rfl, rfl, tr⟩, tr⟩, ok_spec_l01Inner K a0 a0 v1 e2⟩, ⟨⟨rfl, tr⟩, ok_spec_l01Sqrt K v1 v3 e4⟩, tr, tr⟩ ?_
  refine thenQ_normal ?_
  refine AW.ret ?_
  replace h := some_eq h
  subst h
  exact ⟨.inr rfl, retOK_of [(.one (.c (.flt .f32 v3.bits)))] (by kernel_rfl) ⟨⟨rfl, tr⟩, tr⟩ (of_decide_eq_true (by kernel_rfl))⟩

/-! spec.l01Finite -/
def spec_l01Finite (_K : Nat) (a0 : F32) : Option (Bool) :=
  some ((a0.sub a0).eq (Fl.mk (k := .f32) 0 (by decide)))

theorem ok_spec_l01Finite (K : Nat) (a0 : F32) (o : (Bool)) (h : spec_l01Finite K a0 = some o) : CallOK Try.prog 44 [.one (.flt .f32 a0.bits)] [.one (.bool o)] := by
  refine callOK_of_AW Try.func44 rfl (by kernel_rfl) (Nat.le_of_ble_eq_true (by kernel_rfl)) ?_
  intro w0
  unfold spec_l01Finite at h
  refine AW.seq (AW.rA ⟨[(0, (vc (.flt .f32 a0.bits)))], []⟩ (Tt ∧ Tt) [] [0] [] ⟨tr, tr⟩ (thenQ_normal ?_))
  refine AW.seq (AW.rA ⟨[(2, (vc (.bool ((a0.sub a0).eq (Fl.mk (k := .f32) 0 (by decide))))))], []⟩ (Tt ∧ T4 Tt) [] [2] [] ⟨tr, tr, tr, tr, tr, tr⟩ (thenQ_normal ?_))
  refine AW.ret ?_
  replace h := some_eq h
  subst h
  exact ⟨.inr rfl, retOK_of [(.one (.c (.bool ((a0.sub a0).eq (Fl.mk (k := .f32) 0 (by decide))))))] (by kernel_rfl) ⟨⟨rfl, tr⟩, tr⟩ (of_decide_eq_true (by kernel_rfl))⟩

/-! spec.l08Pass -/
def spec_l08Pass (K : Nat) (a0 : String) (a1 : Int) : Option ((List Vector)) :=
  chk (0 ≤ a1 ∧ a1 < (a0.Points.length : Int)) (chk (0 ≤ (IntKind.i64.wrap (a1 + (1 : Int))) ∧ (IntKind.i64.wrap (a1 + (1 : Int))) < (a0.Points.length : Int)) ((spec_l01Less K (a0.Points.getD ((IntKind.i64.wrap (a1 + (1 : Int))).toNat) default) (a0.Points.getD a1.toNat default)).bind fun v3 => (spec_l01Long K v3).bind fun v5 => (ite2 ((v5.eq (Fl.mk (k := .f32) 0 (by decide)))) (some true) ((spec_l01Finite K v5).bind fun v8 => ite2 ((!v8)) (some true) (chk (0 ≤ a1 ∧ a1 < (a0.Fixed.length : Int)) (ite2 ((a0.Fixed.getD a1.toNat default)) (chk (0 ≤ (IntKind.i64.wrap (a1 + (1 : Int))) ∧ (IntKind.i64.wrap (a1 + (1 : Int))) < (a0.Fixed.length : Int)) (some (a0.Fixed.getD ((IntKind.i64.wrap (a1 + (1 : Int))).toNat) default))) (some false))))).bind fun j14 => ite2 (j14) (chk (a0.Points.length = a0.Points.length) (some a0.Points)) (chk (0 ≤ a1 ∧ a1 < (a0.Lengths.length : Int)) ((spec_l01Scale K v3 ((v5.sub (a0.Lengths.getD a1.toNat default)).div v5)).bind fun v19 => chk (0 ≤ a1 ∧ a1 < (a0.Fixed.length : Int)) (ite2 ((a0.Fixed.getD a1.toNat default)) ((spec_l01Less K (a0.Points.getD ((IntKind.i64.wrap (a1 + (1 : Int))).toNat) default) v19).bind fun v23 => chk ((a0.Points.set ((IntKind.i64.wrap (a1 + (1 : Int))).toNat) v23).length = a0.Points.length) (some (a0.Points.set ((IntKind.i64.wrap (a1 + (1 : Int))).toNat) v23))) (chk (0 ≤ (IntKind.i64.wrap (a1 + (1 : Int))) ∧ (IntKind.i64.wrap (a1 + (1 : Int))) < (a0.Fixed.length : Int)) (ite2 ((a0.Fixed.getD ((IntKind.i64.wrap (a1 + (1 : Int))).toNat) default)) ((spec_l01Add K (a0.Points.getD a1.toNat default) v19).bind fun v28 => chk ((a0.Points.set a1.toNat v28).length = a0.Points.length) (some (a0.Points.set a1.toNat v28))) ((spec_l01Scale K v19 (Fl.mk (k := .f32) 1056964608 (by decide))).bind fun v31 => (spec_l01Add K (a0.Points.getD a1.toNat default) v31).bind fun v33 => (spec_l01Less K (a0.Points.getD ((IntKind.i64.wrap (a1 + (1 : Int))).toNat) default) v31).bind fun v35 => chk (0 ≤ (IntKind.i64.wrap (a1 + (1 : Int))) ∧ (IntKind.i64.wrap (a1 + (1 : Int))) < ((a0.Points.set a1.toNat v33).length : Int)) (chk (((a0.Points.set a1.toNat v33).set ((IntKind.i64.wrap (a1 + (1 : Int))).toNat) v35).length = a0.Points.length) (some ((a0.Points.set a1.toNat v33).set ((IntKind.i64.wrap (a1 + (1 : Int))).toNat) v35)))))))))))

theorem ok_spec_l08Pass (K : Nat) (a0 : String) (a1 : Int) (o : ((List Vector))) (h : spec_l08Pass K a0 a1 = some o) : MutOK Try.prog 38 [(.boxm [(.mu (sl 3 cs_Vector a0.Points) (sl 3 cs_Vector o)), (.ro (sl 3 cs_Vector a0.Before)), (.ro (sl 1 csB a0.Fixed)), (.ro (sl 1 (csF .f32) a0.Lengths)), (.ro (.flt .f32 a0.Fall.X.bits)), (.ro (.flt .f32 a0.Fall.Y.bits)), (.ro (.flt .f32 a0.Fall.Z.bits)), (.ro (.flt .f32 a0.Damp.bits)), (.ro (.int .i64 a0.Passes))]), (.one (.ro (.int .i64 a1)))] [] := by
  refine mutOK_of_AW 2 Try.func38 rfl (by kernel_rfl) (Nat.le_of_ble_eq_true (by kernel_rfl)) (by kernel_rfl) (by kernel_rfl) ?_
  intro w0 K0 v0 s0
  unfold spec_l08Pass at h
  refine AW.seq ?_
  obtain ⟨c1, h⟩ := chk_some h
  refine AW.rA ⟨[(0, (vp 0 0)), (1, (vc (.int .i64 a1))), (4, (vp 2 0))], [(0, (.box [(.arr 1), (.fx 0 1 (sl 3 cs_Vector a0.Before)), (.fx 0 2 (sl 1 csB a0.Fixed)), (.fx 0 3 (sl 1 (csF .f32) a0.Lengths)), (.fx 0 4 (.flt .f32 a0.Fall.X.bits)), (.fx 0 5 (.flt .f32 a0.Fall.Y.bits)), (.fx 0 6 (.flt .f32 a0.Fall.Z.bits)), (.fx 0 7 (.flt .f32 a0.Damp.bits)), (.fx 0 8 (.int .i64 a0.Passes))])), (1, (.arr true a0.Points.length 3 (gl cs_Vector a0.Points))), (2, (.box [(.c (.flt .f32 ((a0.Points.getD a1.toNat default).X).bits)), (.c (.flt .f32 ((a0.Points.getD a1.toNat default).Y).bits)), (.c (.flt .f32 ((a0.Points.getD a1.toNat default).Z).bits))]))]⟩ (Tt ∧ T4 ((0 ≤ a1 ∧ a1 < (a0.Points.length : Int)) ∧ Tt ∧ T2 Tt)) [.no, .no, .no, .no, .no, .no, .no, .box 2] [0, 1, 4] [0, 1, 2] ⟨tr, tr, tr, tr, tr, c1, tr, tr, tr, tr⟩ ?_
  refine thenQ_normal ?_
  refine AW.seq ?_
  obtain ⟨c2, h⟩ := chk_some h
  refine AW.rA ⟨[(0, (vp 0 0)), (1, (vc (.int .i64 a1))), (4, (vp 2 0)), (5, (vp 3 0))], [(0, (.box [(.arr 1), (.fx 0 1 (sl 3 cs_Vector a0.Before)), (.fx 0 2 (sl 1 csB a0.Fixed)), (.fx 0 3 (sl 1 (csF .f32) a0.Lengths)), (.fx 0 4 (.flt .f32 a0.Fall.X.bits)), (.fx 0 5 (.flt .f32 a0.Fall.Y.bits)), (.fx 0 6 (.flt .f32 a0.Fall.Z.bits)), (.fx 0 7 (.flt .f32 a0.Damp.bits)), (.fx 0 8 (.int .i64 a0.Passes))])), (1, (.arr true a0.Points.length 3 (gl cs_Vector a0.Points))), (2, (.box [(.c (.flt .f32 ((a0.Points.getD a1.toNat default).X).bits)), (.c (.flt .f32 ((a0.Points.getD a1.toNat default).Y).bits)), (.c (.flt .f32 ((a0.Points.getD a1.toNat default).Z).bits))])), (3, (.box [(.c (.flt .f32 ((a0.Points.getD ((IntKind.i64.wrap (a1 + (1 : Int))).toNat) default).X).bits)), (.c (.flt .f32 ((a0.Points.getD ((IntKind.i64.wrap (a1 + (1 : Int))).toNat) default).Y).bits)), (.c (.flt .f32 ((a0.Points.getD ((IntKind.i64.wrap (a1 + (1 : Int))).toNat) default).Z).bits))]))]⟩ (T2 (T4 ((0 ≤ (IntKind.i64.wrap (a1 + (1 : Int))) ∧ (IntKind.i64.wrap (a1 + (1 : Int))) < (a0.Points.length : Int)) ∧ Tt ∧ T2 Tt))) [.no, .no, .no, .no, .no, .no, .no, .no, .box 3] [0, 1, 4, 5] [0, 1, 2, 3] ⟨tr, tr, tr, tr, tr, tr, c2, tr, tr, tr, tr⟩ ?_
  refine thenQ_normal ?_
  refine AW.seq ?_
  obtain ⟨v3, e4, h⟩ := bind_some h
  refine AW.rA ⟨[(0, (vp 0 0)), (1, (vc (.int .i64 a1))), (4, (vp 2 0)), (5, (vp 3 0)), (6, (vp 4 0))], [(0, (.box [(.arr 1), (.fx 0 1 (sl 3 cs_Vector a0.Before)), (.fx 0 2 (sl 1 csB a0.Fixed)), (.fx 0 3 (sl 1 (csF .f32) a0.Lengths)), (.fx 0 4 (.flt .f32 a0.Fall.X.bits)), (.fx 0 5 (.flt .f32 a0.Fall.Y.bits)), (.fx 0 6 (.flt .f32 a0.Fall.Z.bits)), (.fx 0 7 (.flt .f32 a0.Damp.bits)), (.fx 0 8 (.int .i64 a0.Passes))])), (1, (.arr true a0.Points.length 3 (gl cs_Vector a0.Points))), (2, (.box [(.c (.flt .f32 ((a0.Points.getD a1.toNat default).X).bits)), (.c (.flt .f32 ((a0.Points.getD a1.toNat default).Y).bits)), (.c (.flt .f32 ((a0.Points.getD a1.toNat default).Z).bits))])), (3, (.box [(.c (.flt .f32 ((a0.Points.getD ((IntKind.i64.wrap (a1 + (1 : Int))).toNat) default).X).bits)), (.c (.flt .f32 ((a0.Points.getD ((IntKind.i64.wrap (a1 + (1 : Int))).toNat) default).Y).bits)), (.c (.flt .f32 ((a0.Points.getD ((IntKind.i64.wrap (a1 + (1 : Int))).toNat) default).Z).bits))])), (4, (.box [(.c (.flt .f32 v3.X.bits)), (.c (.flt .f32 v3.Y.bits)), (.c (.flt .f32 v3.Z.bits))]))]⟩ (T2 (((((((.flt .f32 ((a0.Points.getD ((IntKind.i64.wrap (a1 + (1 : Int))).toNat) default).X).bits) : C) = (.flt .f32 ((a0.Points.getD ((IntKind.i64.wrap (a1 + (1 : Int))).toNat) default).X).bits)) ∧ (((.flt .f32 ((a0.Points.getD ((IntKind.i64.wrap (a1 + (1 : Int))).toNat) default).Y).bits) : C) = (.flt .f32 ((a0.Points.getD ((IntKind.i64.wrap (a1 + (1 : Int))).toNat) default).Y).bits)) ∧ (((.flt .f32 ((a0.Points.getD ((IntKind.i64.wrap (a1 + (1 : Int))).toNat) default).Z).bits) : C) = (.flt .f32 ((a0.Points.getD ((IntKind.i64.wrap (a1 + (1 : Int))).toNat) default).Z).bits)) ∧ Tt) ∧ ((Eqc (.flt .f32 ((a0.Points.getD a1.toNat default).X).bits)) ∧ (Eqc (.flt .f32 ((a0.Points.getD a1.toNat default).Y).bits)) ∧ (Eqc (.flt .f32 ((a0.Points.getD a1.toNat default).Z).bits)) ∧ Tt) ∧ Tt) ∧ CallOK Try.prog 37 [.agg (cs_Vector (a0.Points.getD ((IntKind.i64.wrap (a1 + (1 : Int))).toNat) default)), .agg (cs_Vector (a0.Points.getD a1.toNat default))] [.agg (cs_Vector v3)]) ∧ T2 Tt)) [.no, .no, .call [.agg (cs_Vector (a0.Points.getD ((IntKind.i64.wrap (a1 + (1 : Int))).toNat) default)), .agg (cs_Vector (a0.Points.getD a1.toNat default))] [.agg (cs_Vector v3)] [[.view, .view, .view]], .box 4] [0, 1, 4, 5, 6] [0, 1, 2, 3, 4] ⟨tr, tr, ⟨⟨⟨rfl, rfl, rfl, tr⟩, ⟨rfl, rfl, rfl, tr⟩, tr⟩, ok_spec_l01Less K (a0.Points.getD ((IntKind.i64.wrap (a1 + (1 : Int))).toNat) default) (a0.Points.getD a1.toNat default) v3 e4⟩, tr, tr, tr⟩ ?_
  refine thenQ_normal ?_
  refine AW.seq ?_
  obtain ⟨v5, e6, h⟩ := bind_some h
  refine AW.rA ⟨[(0, (vp 0 0)), (1, (vc (.int .i64 a1))), (4, (vp 2 0)), (5, (vp 3 0)), (6, (vp 4 0)), (7, (vc (.flt .f32 v5.bits)))], [(0, (.box [(.arr 1), (.fx 0 1 (sl 3 cs_Vector a0.Before)), (.fx 0 2 (sl 1 csB a0.Fixed)), (.fx 0 3 (sl 1 (csF .f32) a0.Lengths)), (.fx 0 4 (.flt .f32 a0.Fall.X.bits)), (.fx 0 5 (.flt .f32 a0.Fall.Y.bits)), (.fx 0 6 (.flt .f32 a0.Fall.Z.bits)), (.fx 0 7 (.flt .f32 a0.Damp.bits)), (.fx 0 8 (.int .i64 a0.Passes))])), (1, (.arr true a0.Points.length 3 (gl cs_Vector a0.Points))), (2, (.box [(.c (.flt .f32 ((a0.Points.getD a1.toNat default).X).bits)), (.c (.flt .f32 ((a0.Points.getD a1.toNat default).Y).bits)), (.c (.flt .f32 ((a0.Points.getD a1.toNat default).Z).bits))])), (3, (.box [(.c (.flt .f32 ((a0.Points.getD ((IntKind.i64.wrap (a1 + (1 : Int))).toNat) default).X).bits)), (.c (.flt .f32 ((a0.Points.getD ((IntKind.i64.wrap (a1 + (1 : Int))).toNat) default).Y).bits)), (.c (.flt .f32 ((a0.Points.getD ((IntKind.i64.wrap (a1 + (1 : Int))).toNat) default).Z).bits))])), (4, (.box [(.c (.flt .f32 v3.X.bits)), (.c (.flt .f32 v3.Y.bits)), (.c (.flt .f32 v3.Z.bits))]))]⟩ (Tt ∧ ((((Eqc (.flt .f32 v3.X.bits)) ∧ (Eqc (.flt .f32 v3.Y.bits)) ∧ (Eqc (.flt .f32 v3.Z.bits)) ∧ Tt) ∧ Tt) ∧ CallOK Try.prog 43 [.agg (cs_Vector v3)] [.one (.flt .f32 v5.bits)]) ∧ Tt ∧ Tt) [.no, .call [.agg (cs_Vector v3)] [.one (.flt .f32 v5.bits)] [[.view]]] [0, 1, 4, 5, 6, 7] [0, 1, 2, 3, 4] ⟨tr, ⟨⟨⟨rfl, rfl, rfl, tr⟩, tr⟩, ok_spec_l01Long K v3 v5 e6⟩, tr, tr⟩ ?_
  refine thenQ_normal ?_
  refine AW.seq ?_
  refine AW.seq ?_
  obtain ⟨j14, e15, h⟩ := bind_some h
  refine AW.join1 (s2 := ⟨[(0, (vp 0 0)), (1, (vc (.int .i64 a1))), (4, (vp 2 0)), (5, (vp 3 0)), (6, (vp 4 0)), (7, (vc (.flt .f32 v5.bits))), (54, (vc (.bool j14)))], [(0, (.box [(.arr 1), (.fx 0 1 (sl 3 cs_Vector a0.Before)), (.fx 0 2 (sl 1 csB a0.Fixed)), (.fx 0 3 (sl 1 (csF .f32) a0.Lengths)), (.fx 0 4 (.flt .f32 a0.Fall.X.bits)), (.fx 0 5 (.flt .f32 a0.Fall.Y.bits)), (.fx 0 6 (.flt .f32 a0.Fall.Z.bits)), (.fx 0 7 (.flt .f32 a0.Damp.bits)), (.fx 0 8 (.int .i64 a0.Passes))])), (1, (.arr true a0.Points.length 3 (gl cs_Vector a0.Points))), (2, (.box [(.c (.flt .f32 ((a0.Points.getD a1.toNat default).X).bits)), (.c (.flt .f32 ((a0.Points.getD a1.toNat default).Y).bits)), (.c (.flt .f32 ((a0.Points.getD a1.toNat default).Z).bits))])), (3, (.box [(.c (.flt .f32 ((a0.Points.getD ((IntKind.i64.wrap (a1 + (1 : Int))).toNat) default).X).bits)), (.c (.flt .f32 ((a0.Points.getD ((IntKind.i64.wrap (a1 + (1 : Int))).toNat) default).Y).bits)), (.c (.flt .f32 ((a0.Points.getD ((IntKind.i64.wrap (a1 + (1 : Int))).toNat) default).Z).bits))])), (4, (.box [(.c (.flt .f32 v3.X.bits)), (.c (.flt .f32 v3.Y.bits)), (.c (.flt .f32 v3.Z.bits))]))]⟩) ?_ ?_
  · rcases ite2_cases e15 with ⟨b7, e15⟩ | ⟨b7, e15⟩
    · replace e15 := some_eq e15
      subst e15
      exact AW.rA ⟨[(0, (vp 0 0)), (1, (vc (.int .i64 a1))), (4, (vp 2 0)), (5, (vp 3 0)), (6, (vp 4 0)), (7, (vc (.flt .f32 v5.bits))), (54, (vc (.bool true)))], [(0, (.box [(.arr 1), (.fx 0 1 (sl 3 cs_Vector a0.Before)), (.fx 0 2 (sl 1 csB a0.Fixed)), (.fx 0 3 (sl 1 (csF .f32) a0.Lengths)), (.fx 0 4 (.flt .f32 a0.Fall.X.bits)), (.fx 0 5 (.flt .f32 a0.Fall.Y.bits)), (.fx 0 6 (.flt .f32 a0.Fall.Z.bits)), (.fx 0 7 (.flt .f32 a0.Damp.bits)), (.fx 0 8 (.int .i64 a0.Passes))])), (1, (.arr true a0.Points.length 3 (gl cs_Vector a0.Points))), (2, (.box [(.c (.flt .f32 ((a0.Points.getD a1.toNat default).X).bits)), (.c (.flt .f32 ((a0.Points.getD a1.toNat default).Y).bits)), (.c (.flt .f32 ((a0.Points.getD a1.toNat default).Z).bits))])), (3, (.box [(.c (.flt .f32 ((a0.Points.getD ((IntKind.i64.wrap (a1 + (1 : Int))).toNat) default).X).bits)), (.c (.flt .f32 ((a0.Points.getD ((IntKind.i64.wrap (a1 + (1 : Int))).toNat) default).Y).bits)), (.c (.flt .f32 ((a0.Points.getD ((IntKind.i64.wrap (a1 + (1 : Int))).toNat) default).Z).bits))])), (4, (.box [(.c (.flt .f32 v3.X.bits)), (.c (.flt .f32 v3.Y.bits)), (.c (.flt .f32 v3.Z.bits))]))]⟩ (T2 ((Tt ∧ (v5.eq (Fl.mk (k := .f32) 0 (by decide))) = true) ∧ Tt ∧ T2 (T4 (T4 (T4 (T4 (T4 Tt))))))) [.no, .no, .dec true] [0, 1, 4, 5, 6, 7, 54] [0, 1, 2, 3, 4] ⟨tr, tr, ⟨tr, b7⟩, tr, tr, tr, tr, tr, tr, tr, tr, tr, tr, tr, tr, tr, tr, tr, tr, tr, tr, tr, tr, tr, tr, tr, tr⟩ ⟨rfl, rfl⟩
    · obtain ⟨v8, e9, e15⟩ := bind_some e15
      rcases ite2_cases e15 with ⟨b10, e15⟩ | ⟨b10, e15⟩
      · replace e15 := some_eq e15
        subst e15
        exact AW.rA ⟨[(0, (vp 0 0)), (1, (vc (.int .i64 a1))), (4, (vp 2 0)), (5, (vp 3 0)), (6, (vp 4 0)), (7, (vc (.flt .f32 v5.bits))), (54, (vc (.bool true)))], [(0, (.box [(.arr 1), (.fx 0 1 (sl 3 cs_Vector a0.Before)), (.fx 0 2 (sl 1 csB a0.Fixed)), (.fx 0 3 (sl 1 (csF .f32) a0.Lengths)), (.fx 0 4 (.flt .f32 a0.Fall.X.bits)), (.fx 0 5 (.flt .f32 a0.Fall.Y.bits)), (.fx 0 6 (.flt .f32 a0.Fall.Z.bits)), (.fx 0 7 (.flt .f32 a0.Damp.bits)), (.fx 0 8 (.int .i64 a0.Passes))])), (1, (.arr true a0.Points.length 3 (gl cs_Vector a0.Points))), (2, (.box [(.c (.flt .f32 ((a0.Points.getD a1.toNat default).X).bits)), (.c (.flt .f32 ((a0.Points.getD a1.toNat default).Y).bits)), (.c (.flt .f32 ((a0.Points.getD a1.toNat default).Z).bits))])), (3, (.box [(.c (.flt .f32 ((a0.Points.getD ((IntKind.i64.wrap (a1 + (1 : Int))).toNat) default).X).bits)), (.c (.flt .f32 ((a0.Points.getD ((IntKind.i64.wrap (a1 + (1 : Int))).toNat) default).Y).bits)), (.c (.flt .f32 ((a0.Points.getD ((IntKind.i64.wrap (a1 + (1 : Int))).toNat) default).Z).bits))])), (4, (.box [(.c (.flt .f32 v3.X.bits)), (.c (.flt .f32 v3.Y.bits)), (.c (.flt .f32 v3.Z.bits))]))]⟩ (T2 ((Tt ∧ (v5.eq (Fl.mk (k := .f32) 0 (by decide))) = false) ∧ Tt ∧ (((Eqc (.flt .f32 v5.bits)) ∧ Tt) ∧ CallOK Try.prog 44 [.one (.flt .f32 v5.bits)] [.one (.bool v8)]) ∧ T2 ((Tt ∧ (!v8) = true) ∧ T2 (T4 (T4 (T4 (T4 Tt))))))) [.no, .no, .dec false, .no, .call [.one (.flt .f32 v5.bits)] [.one (.bool v8)] [[.view]], .no, .no, .dec true] [0, 1, 4, 5, 6, 7, 54] [0, 1, 2, 3, 4] ⟨tr, tr, ⟨tr, b7⟩, tr, ⟨⟨rfl, tr⟩, ok_spec_l01Finite K v5 v8 e9⟩, tr, tr, ⟨tr, b10⟩, tr, tr, tr, tr, tr, tr, tr, tr, tr, tr, tr, tr, tr, tr, tr, tr, tr, tr, tr⟩ ⟨rfl, rfl⟩
      · obtain ⟨c11, e15⟩ := chk_some e15
        rcases ite2_cases e15 with ⟨b12, e15⟩ | ⟨b12, e15⟩
        · obtain ⟨c13, e15⟩ := chk_some e15
          replace e15 := some_eq e15
          subst e15
          exact AW.rA ⟨[(0, (vp 0 0)), (1, (vc (.int .i64 a1))), (4, (vp 2 0)), (5, (vp 3 0)), (6, (vp 4 0)), (7, (vc (.flt .f32 v5.bits))), (54, (vc (.bool (a0.Fixed.getD ((IntKind.i64.wrap (a1 + (1 : Int))).toNat) default))))], [(0, (.box [(.arr 1), (.fx 0 1 (sl 3 cs_Vector a0.Before)), (.fx 0 2 (sl 1 csB a0.Fixed)), (.fx 0 3 (sl 1 (csF .f32) a0.Lengths)), (.fx 0 4 (.flt .f32 a0.Fall.X.bits)), (.fx 0 5 (.flt .f32 a0.Fall.Y.bits)), (.fx 0 6 (.flt .f32 a0.Fall.Z.bits)), (.fx 0 7 (.flt .f32 a0.Damp.bits)), (.fx 0 8 (.int .i64 a0.Passes))])), (1, (.arr true a0.Points.length 3 (gl cs_Vector a0.Points))), (2, (.box [(.c (.flt .f32 ((a0.Points.getD a1.toNat default).X).bits)), (.c (.flt .f32 ((a0.Points.getD a1.toNat default).Y).bits)), (.c (.flt .f32 ((a0.Points.getD a1.toNat default).Z).bits))])), (3, (.box [(.c (.flt .f32 ((a0.Points.getD ((IntKind.i64.wrap (a1 + (1 : Int))).toNat) default).X).bits)), (.c (.flt .f32 ((a0.Points.getD ((IntKind.i64.wrap (a1 + (1 : Int))).toNat) default).Y).bits)), (.c (.flt .f32 ((a0.Points.getD ((IntKind.i64.wrap (a1 + (1 : Int))).toNat) default).Z).bits))])), (4, (.box [(.c (.flt .f32 v3.X.bits)), (.c (.flt .f32 v3.Y.bits)), (.c (.flt .f32 v3.Z.bits))]))]⟩ (T2 ((Tt ∧ (v5.eq (Fl.mk (k := .f32) 0 (by decide))) = false) ∧ Tt ∧ (((Eqc (.flt .f32 v5.bits)) ∧ Tt) ∧ CallOK Try.prog 44 [.one (.flt .f32 v5.bits)] [.one (.bool v8)]) ∧ T2 ((Tt ∧ (!v8) = false) ∧ Tt ∧ T4 ((0 ≤ a1 ∧ a1 < (a0.Fixed.length : Int)) ∧ Tt ∧ (Tt ∧ (a0.Fixed.getD a1.toNat default) = true) ∧ T2 (T4 ((0 ≤ (IntKind.i64.wrap (a1 + (1 : Int))) ∧ (IntKind.i64.wrap (a1 + (1 : Int))) < (a0.Fixed.length : Int)) ∧ Tt ∧ T2 Tt)))))) [.no, .no, .dec false, .no, .call [.one (.flt .f32 v5.bits)] [.one (.bool v8)] [[.view]], .no, .no, .dec false, .no, .no, .no, .no, .no, .no, .no, .dec true] [0, 1, 4, 5, 6, 7, 54] [0, 1, 2, 3, 4] ⟨tr, tr, ⟨tr, b7⟩, tr, ⟨⟨rfl, tr⟩, ok_spec_l01Finite K v5 v8 e9⟩, tr, tr, ⟨tr, b10⟩, tr, tr, tr, tr, tr, c11, tr, ⟨tr, b12⟩, tr, tr, tr, tr, tr, tr, c13, tr, tr, tr, tr⟩ ⟨rfl, rfl⟩
        · replace e15 := some_eq e15
          subst e15
          exact AW.rA ⟨[(0, (vp 0 0)), (1, (vc (.int .i64 a1))), (4, (vp 2 0)), (5, (vp 3 0)), (6, (vp 4 0)), (7, (vc (.flt .f32 v5.bits))), (54, (vc (.bool false)))], [(0, (.box [(.arr 1), (.fx 0 1 (sl 3 cs_Vector a0.Before)), (.fx 0 2 (sl 1 csB a0.Fixed)), (.fx 0 3 (sl 1 (csF .f32) a0.Lengths)), (.fx 0 4 (.flt .f32 a0.Fall.X.bits)), (.fx 0 5 (.flt .f32 a0.Fall.Y.bits)), (.fx 0 6 (.flt .f32 a0.Fall.Z.bits)), (.fx 0 7 (.flt .f32 a0.Damp.bits)), (.fx 0 8 (.int .i64 a0.Passes))])), (1, (.arr true a0.Points.length 3 (gl cs_Vector a0.Points))), (2, (.box [(.c (.flt .f32 ((a0.Points.getD a1.toNat default).X).bits)), (.c (.flt .f32 ((a0.Points.getD a1.toNat default).Y).bits)), (.c (.flt .f32 ((a0.Points.getD a1.toNat default).Z).bits))])), (3, (.box [(.c (.flt .f32 ((a0.Points.getD ((IntKind.i64.wrap (a1 + (1 : Int))).toNat) default).X).bits)), (.c (.flt .f32 ((a0.Points.getD ((IntKind.i64.wrap (a1 + (1 : Int))).toNat) default).Y).bits)), (.c (.flt .f32 ((a0.Points.getD ((IntKind.i64.wrap (a1 + (1 : Int))).toNat) default).Z).bits))])), (4, (.box [(.c (.flt .f32 v3.X.bits)), (.c (.flt .f32 v3.Y.bits)), (.c (.flt .f32 v3.Z.bits))]))]⟩ (T2 ((Tt ∧ (v5.eq (Fl.mk (k := .f32) 0 (by decide))) = false) ∧ Tt ∧ (((Eqc (.flt .f32 v5.bits)) ∧ Tt) ∧ CallOK Try.prog 44 [.one (.flt .f32 v5.bits)] [.one (.bool v8)]) ∧ T2 ((Tt ∧ (!v8) = false) ∧ Tt ∧ T4 ((0 ≤ a1 ∧ a1 < (a0.Fixed.length : Int)) ∧ Tt ∧ (Tt ∧ (a0.Fixed.getD a1.toNat default) = false) ∧ T2 (T4 (T4 Tt)))))) [.no, .no, .dec false, .no, .call [.one (.flt .f32 v5.bits)] [.one (.bool v8)] [[.view]], .no, .no, .dec false, .no, .no, .no, .no, .no, .no, .no, .dec false] [0, 1, 4, 5, 6, 7, 54] [0, 1, 2, 3, 4] ⟨tr, tr, ⟨tr, b7⟩, tr, ⟨⟨rfl, tr⟩, ok_spec_l01Finite K v5 v8 e9⟩, tr, tr, ⟨tr, b10⟩, tr, tr, tr, tr, tr, c11, tr, ⟨tr, b12⟩, tr, tr, tr, tr, tr, tr, tr, tr, tr, tr, tr⟩ ⟨rfl, rfl⟩
  refine thenQ_normal ?_
  rcases ite2_cases h with ⟨b16, h⟩ | ⟨b16, h⟩
  · refine AW.cond_t rfl b16 ?_
    refine AW.ret ?_
    refine thenQ_ret ?_
    obtain ⟨c17, h⟩ := chk_some h
    replace h := some_eq h
    subst h
    exact ⟨.inr rfl, retOK_of [] (by kernel_rfl) tr (of_decide_eq_true (by kernel_rfl)), by kernel_rfl, ⟨⟨⟨⟨c17, rfl, rfl⟩, tr, tr, tr, tr, tr, tr, tr, tr, tr⟩, ⟨rfl, ⟨rfl, rfl⟩, ⟨rfl, rfl⟩, ⟨rfl, rfl⟩, ⟨rfl, rfl⟩, ⟨rfl, rfl⟩, ⟨rfl, rfl⟩, ⟨rfl, rfl⟩, ⟨rfl, rfl⟩, tr⟩⟩, tr, tr⟩⟩
  · refine AW.cond_f rfl b16 ?_
    refine AW.skip ?_
    refine thenQ_normal ?_
    refine AW.seq ?_
    obtain ⟨c18, h⟩ := chk_some h
    obtain ⟨v19, e20, h⟩ := bind_some h
    refine AW.dA ⟨[(0, (vp 0 0)), (1, (vc (.int .i64 a1))), (4, (vp 2 0)), (5, (vp 3 0)), (8, (vp 5 0))], [(0, (.box [(.arr 1), (.fx 0 1 (sl 3 cs_Vector a0.Before)), (.fx 0 2 (sl 1 csB a0.Fixed)), (.fx 0 3 (sl 1 (csF .f32) a0.Lengths)), (.fx 0 4 (.flt .f32 a0.Fall.X.bits)), (.fx 0 5 (.flt .f32 a0.Fall.Y.bits)), (.fx 0 6 (.flt .f32 a0.Fall.Z.bits)), (.fx 0 7 (.flt .f32 a0.Damp.bits)), (.fx 0 8 (.int .i64 a0.Passes))])), (1, (.arr true a0.Points.length 3 (gl cs_Vector a0.Points))), (2, (.box [(.c (.flt .f32 ((a0.Points.getD a1.toNat default).X).bits)), (.c (.flt .f32 ((a0.Points.getD a1.toNat default).Y).bits)), (.c (.flt .f32 ((a0.Points.getD a1.toNat default).Z).bits))])), (3, (.box [(.c (.flt .f32 ((a0.Points.getD ((IntKind.i64.wrap (a1 + (1 : Int))).toNat) default).X).bits)), (.c (.flt .f32 ((a0.Points.getD ((IntKind.i64.wrap (a1 + (1 : Int))).toNat) default).Y).bits)), (.c (.flt .f32 ((a0.Points.getD ((IntKind.i64.wrap (a1 + (1 : Int))).toNat) default).Z).bits))])), (5, (.box [(.c (.flt .f32 v19.X.bits)), (.c (.flt .f32 v19.Y.bits)), (.c (.flt .f32 v19.Z.bits))]))]⟩ ((Tt ∧ T2 (T4 ((0 ≤ a1 ∧ a1 < (a0.Lengths.length : Int)) ∧ T4 (((((Eqc (.flt .f32 v3.X.bits)) ∧ (Eqc (.flt .f32 v3.Y.bits)) ∧ (Eqc (.flt .f32 v3.Z.bits)) ∧ Tt) ∧ (Eqc (.flt .f32 ((v5.sub (a0.Lengths.getD a1.toNat default)).div v5).bits)) ∧ Tt) ∧ CallOK Try.prog 36 [.agg (cs_Vector v3), .one (.flt .f32 ((v5.sub (a0.Lengths.getD a1.toNat default)).div v5).bits)] [.agg (cs_Vector v19)]) ∧ Tt ∧ Tt)))) ∧ (Tt ∧ Tt)) 14 [.no, .no, .no, .no, .no, .no, .no, .no, .no, .no, .no, .no, .call [.agg (cs_Vector v3), .one (.flt .f32 ((v5.sub (a0.Lengths.getD a1.toNat default)).div v5).bits)] [.agg (cs_Vector v19)] [[.view, .view, .view]], .box 5] [0, 1, 4, 5, 8] [0, 1, 2, 3, 5] ⟨⟨tr, tr, tr, tr, tr, tr, tr, c18, tr, tr, tr, tr, ⟨⟨⟨rfl, rfl, rfl, tr⟩, rfl, tr⟩, ok_spec_l01Scale K v3 ((v5.sub (a0.Lengths.getD a1.toNat default)).div v5) v19 e20⟩, tr, tr⟩, ⟨tr, tr⟩⟩ ?_
    refine thenQ_normal ?_
    refine AW.block ?_
    refine AW.seq ?_
    obtain ⟨c21, h⟩ := chk_some h
    refine AW.rA ⟨[(0, (vp 0 0)), (1, (vc (.int .i64 a1))), (4, (vp 2 0)), (5, (vp 3 0)), (8, (vp 5 0)), (89, (vc (.bool (a0.Fixed.getD a1.toNat default))))], [(0, (.box [(.arr 1), (.fx 0 1 (sl 3 cs_Vector a0.Before)), (.fx 0 2 (sl 1 csB a0.Fixed)), (.fx 0 3 (sl 1 (csF .f32) a0.Lengths)), (.fx 0 4 (.flt .f32 a0.Fall.X.bits)), (.fx 0 5 (.flt .f32 a0.Fall.Y.bits)), (.fx 0 6 (.flt .f32 a0.Fall.Z.bits)), (.fx 0 7 (.flt .f32 a0.Damp.bits)), (.fx 0 8 (.int .i64 a0.Passes))])), (1, (.arr true a0.Points.length 3 (gl cs_Vector a0.Points))), (2, (.box [(.c (.flt .f32 ((a0.Points.getD a1.toNat default).X).bits)), (.c (.flt .f32 ((a0.Points.getD a1.toNat default).Y).bits)), (.c (.flt .f32 ((a0.Points.getD a1.toNat default).Z).bits))])), (3, (.box [(.c (.flt .f32 ((a0.Points.getD ((IntKind.i64.wrap (a1 + (1 : Int))).toNat) default).X).bits)), (.c (.flt .f32 ((a0.Points.getD ((IntKind.i64.wrap (a1 + (1 : Int))).toNat) default).Y).bits)), (.c (.flt .f32 ((a0.Points.getD ((IntKind.i64.wrap (a1 + (1 : Int))).toNat) default).Z).bits))])), (5, (.box [(.c (.flt .f32 v19.X.bits)), (.c (.flt .f32 v19.Y.bits)), (.c (.flt .f32 v19.Z.bits))]))]⟩ (Tt ∧ T4 ((0 ≤ a1 ∧ a1 < (a0.Fixed.length : Int)) ∧ T2 Tt)) [] [0, 1, 4, 5, 8, 89] [0, 1, 2, 3, 5] ⟨tr, tr, tr, tr, tr, c21, tr, tr, tr⟩ ?_
    refine thenQ_normal ?_
    rcases ite2_cases h with ⟨b22, h⟩ | ⟨b22, h⟩
    · refine AW.cond_t rfl b22 ?_
      obtain ⟨v23, e24, h⟩ := bind_some h
      refine AW.dA ⟨[(0, (vp 0 0)), (1, (vc (.int .i64 a1)))], [(0, (.box [(.arr 1), (.fx 0 1 (sl 3 cs_Vector a0.Before)), (.fx 0 2 (sl 1 csB a0.Fixed)), (.fx 0 3 (sl 1 (csF .f32) a0.Lengths)), (.fx 0 4 (.flt .f32 a0.Fall.X.bits)), (.fx 0 5 (.flt .f32 a0.Fall.Y.bits)), (.fx 0 6 (.flt .f32 a0.Fall.Z.bits)), (.fx 0 7 (.flt .f32 a0.Damp.bits)), (.fx 0 8 (.int .i64 a0.Passes))])), (1, (.arr true (a0.Points.set ((IntKind.i64.wrap (a1 + (1 : Int))).toNat) v23).length 3 (gl cs_Vector (a0.Points.set ((IntKind.i64.wrap (a1 + (1 : Int))).toNat) v23))))]⟩ ((T4 (T4 (((((((.flt .f32 ((a0.Points.getD ((IntKind.i64.wrap (a1 + (1 : Int))).toNat) default).X).bits) : C) = (.flt .f32 ((a0.Points.getD ((IntKind.i64.wrap (a1 + (1 : Int))).toNat) default).X).bits)) ∧ (((.flt .f32 ((a0.Points.getD ((IntKind.i64.wrap (a1 + (1 : Int))).toNat) default).Y).bits) : C) = (.flt .f32 ((a0.Points.getD ((IntKind.i64.wrap (a1 + (1 : Int))).toNat) default).Y).bits)) ∧ (((.flt .f32 ((a0.Points.getD ((IntKind.i64.wrap (a1 + (1 : Int))).toNat) default).Z).bits) : C) = (.flt .f32 ((a0.Points.getD ((IntKind.i64.wrap (a1 + (1 : Int))).toNat) default).Z).bits)) ∧ Tt) ∧ ((Eqc (.flt .f32 v19.X.bits)) ∧ (Eqc (.flt .f32 v19.Y.bits)) ∧ (Eqc (.flt .f32 v19.Z.bits)) ∧ Tt) ∧ Tt) ∧ CallOK Try.prog 37 [.agg (cs_Vector (a0.Points.getD ((IntKind.i64.wrap (a1 + (1 : Int))).toNat) default)), .agg (cs_Vector v19)] [.agg (cs_Vector v23)]) ∧ (0 ≤ (IntKind.i64.wrap (a1 + (1 : Int))) ∧ (IntKind.i64.wrap (a1 + (1 : Int))) < (a0.Points.length : Int)) ∧ Tt))) ∧ (((a0.Points.set ((IntKind.i64.wrap (a1 + (1 : Int))).toNat) v23).length = a0.Points.length ∧ SetOb a0.Points.length 3 ((IntKind.i64.wrap (a1 + (1 : Int))).toNat) 0 3 (gl cs_Vector a0.Points) (gl cs_Vector (a0.Points.set ((IntKind.i64.wrap (a1 + (1 : Int))).toNat) v23)) ∧ ((List.range 3).map fun j => (cs_Vector v23).getD (0 + j) .nilptr) = ((List.range 3).map fun j => gl cs_Vector (a0.Points.set ((IntKind.i64.wrap (a1 + (1 : Int))).toNat) v23) ((IntKind.i64.wrap (a1 + (1 : Int))).toNat) (0 + j)) ∧ ((((.flt .f32 v23.X.bits) : C) = (.flt .f32 v23.X.bits) ∧ Tt) ∧ (((.flt .f32 v23.Y.bits) : C) = (.flt .f32 v23.Y.bits) ∧ Tt) ∧ (((.flt .f32 v23.Z.bits) : C) = (.flt .f32 v23.Z.bits) ∧ Tt) ∧ Tt) ∧ (true = true → ∀ j, j < 3 → isSeq (gl cs_Vector a0.Points ((IntKind.i64.wrap (a1 + (1 : Int))).toNat) (0 + j)) = false ∧ isSeq (gl cs_Vector (a0.Points.set ((IntKind.i64.wrap (a1 + (1 : Int))).toNat) v23) ((IntKind.i64.wrap (a1 + (1 : Int))).toNat) (0 + j)) = false)) ∧ Tt)) 10 [.no, .no, .no, .no, .no, .no, .no, .no, .call [.agg (cs_Vector (a0.Points.getD ((IntKind.i64.wrap (a1 + (1 : Int))).toNat) default)), .agg (cs_Vector v19)] [.agg (cs_Vector v23)] [[.view, .view, .view]], .no, .set (a0.Points.set ((IntKind.i64.wrap (a1 + (1 : Int))).toNat) v23).length (gl cs_Vector (a0.Points.set ((IntKind.i64.wrap (a1 + (1 : Int))).toNat) v23)) ((List.range 3).map fun j => (cs_Vector v23).getD (0 + j) .nilptr)] [0, 1] [0, 1] ⟨⟨tr, tr, tr, tr, tr, tr, tr, tr, ⟨⟨⟨rfl, rfl, rfl, tr⟩, ⟨rfl, rfl, rfl, tr⟩, tr⟩, ok_spec_l01Less K (a0.Points.getD ((IntKind.i64.wrap (a1 + (1 : Int))).toNat) default) v19 v23 e24⟩, c2, tr⟩, ⟨⟨List.length_set, gl_set, (gl_atp (lt_of_bound c2)).symm, ⟨⟨rfl, tr⟩, ⟨rfl, tr⟩, ⟨rfl, tr⟩, tr⟩, (fun _ j hj => match j, hj with | 0, _ => ⟨rfl, rfl⟩ | 1, _ => ⟨rfl, rfl⟩ | 2, _ => ⟨rfl, rfl⟩)⟩, tr⟩⟩ ?_
      refine blockQ_normal ?_
      obtain ⟨c25, h⟩ := chk_some h
      replace h := some_eq h
      subst h
      exact ⟨.inl rfl, retOK_of [] (by kernel_rfl) tr (of_decide_eq_true (by kernel_rfl)), by kernel_rfl, ⟨⟨⟨⟨c25, rfl, rfl⟩, tr, tr, tr, tr, tr, tr, tr, tr, tr⟩, ⟨rfl, ⟨rfl, rfl⟩, ⟨rfl, rfl⟩, ⟨rfl, rfl⟩, ⟨rfl, rfl⟩, ⟨rfl, rfl⟩, ⟨rfl, rfl⟩, ⟨rfl, rfl⟩, ⟨rfl, rfl⟩, tr⟩⟩, tr, tr⟩⟩
    · refine AW.cond_f rfl b22 ?_
      refine AW.seq ?_
      obtain ⟨c26, h⟩ := chk_some h
      refine AW.rA ⟨[(0, (vp 0 0)), (1, (vc (.int .i64 a1))), (4, (vp 2 0)), (5, (vp 3 0)), (8, (vp 5 0)), (107, (vc (.bool (a0.Fixed.getD ((IntKind.i64.wrap (a1 + (1 : Int))).toNat) default))))], [(0, (.box [(.arr 1), (.fx 0 1 (sl 3 cs_Vector a0.Before)), (.fx 0 2 (sl 1 csB a0.Fixed)), (.fx 0 3 (sl 1 (csF .f32) a0.Lengths)), (.fx 0 4 (.flt .f32 a0.Fall.X.bits)), (.fx 0 5 (.flt .f32 a0.Fall.Y.bits)), (.fx 0 6 (.flt .f32 a0.Fall.Z.bits)), (.fx 0 7 (.flt .f32 a0.Damp.bits)), (.fx 0 8 (.int .i64 a0.Passes))])), (1, (.arr true a0.Points.length 3 (gl cs_Vector a0.Points))), (2, (.box [(.c (.flt .f32 ((a0.Points.getD a1.toNat default).X).bits)), (.c (.flt .f32 ((a0.Points.getD a1.toNat default).Y).bits)), (.c (.flt .f32 ((a0.Points.getD a1.toNat default).Z).bits))])), (3, (.box [(.c (.flt .f32 ((a0.Points.getD ((IntKind.i64.wrap (a1 + (1 : Int))).toNat) default).X).bits)), (.c (.flt .f32 ((a0.Points.getD ((IntKind.i64.wrap (a1 + (1 : Int))).toNat) default).Y).bits)), (.c (.flt .f32 ((a0.Points.getD ((IntKind.i64.wrap (a1 + (1 : Int))).toNat) default).Z).bits))])), (5, (.box [(.c (.flt .f32 v19.X.bits)), (.c (.flt .f32 v19.Y.bits)), (.c (.flt .f32 v19.Z.bits))]))]⟩ (T2 (T4 ((0 ≤ (IntKind.i64.wrap (a1 + (1 : Int))) ∧ (IntKind.i64.wrap (a1 + (1 : Int))) < (a0.Fixed.length : Int)) ∧ T2 Tt))) [] [0, 1, 4, 5, 8, 107] [0, 1, 2, 3, 5] ⟨tr, tr, tr, tr, tr, tr, c26, tr, tr, tr⟩ ?_
      refine thenQ_normal ?_
      rcases ite2_cases h with ⟨b27, h⟩ | ⟨b27, h⟩
      · refine AW.cond_t rfl b27 ?_
        obtain ⟨v28, e29, h⟩ := bind_some h
        refine AW.dA ⟨[(0, (vp 0 0)), (1, (vc (.int .i64 a1)))], [(0, (.box [(.arr 1), (.fx 0 1 (sl 3 cs_Vector a0.Before)), (.fx 0 2 (sl 1 csB a0.Fixed)), (.fx 0 3 (sl 1 (csF .f32) a0.Lengths)), (.fx 0 4 (.flt .f32 a0.Fall.X.bits)), (.fx 0 5 (.flt .f32 a0.Fall.Y.bits)), (.fx 0 6 (.flt .f32 a0.Fall.Z.bits)), (.fx 0 7 (.flt .f32 a0.Damp.bits)), (.fx 0 8 (.int .i64 a0.Passes))])), (1, (.arr true (a0.Points.set a1.toNat v28).length 3 (gl cs_Vector (a0.Points.set a1.toNat v28))))]⟩ ((Tt ∧ T2 (T4 (((((Eqc (.flt .f32 ((a0.Points.getD a1.toNat default).X).bits)) ∧ (Eqc (.flt .f32 ((a0.Points.getD a1.toNat default).Y).bits)) ∧ (Eqc (.flt .f32 ((a0.Points.getD a1.toNat default).Z).bits)) ∧ Tt) ∧ ((Eqc (.flt .f32 v19.X.bits)) ∧ (Eqc (.flt .f32 v19.Y.bits)) ∧ (Eqc (.flt .f32 v19.Z.bits)) ∧ Tt) ∧ Tt) ∧ CallOK Try.prog 35 [.agg (cs_Vector (a0.Points.getD a1.toNat default)), .agg (cs_Vector v19)] [.agg (cs_Vector v28)]) ∧ (0 ≤ a1 ∧ a1 < (a0.Points.length : Int)) ∧ Tt))) ∧ (((a0.Points.set a1.toNat v28).length = a0.Points.length ∧ SetOb a0.Points.length 3 a1.toNat 0 3 (gl cs_Vector a0.Points) (gl cs_Vector (a0.Points.set a1.toNat v28)) ∧ ((List.range 3).map fun j => (cs_Vector v28).getD (0 + j) .nilptr) = ((List.range 3).map fun j => gl cs_Vector (a0.Points.set a1.toNat v28) a1.toNat (0 + j)) ∧ ((((.flt .f32 v28.X.bits) : C) = (.flt .f32 v28.X.bits) ∧ Tt) ∧ (((.flt .f32 v28.Y.bits) : C) = (.flt .f32 v28.Y.bits) ∧ Tt) ∧ (((.flt .f32 v28.Z.bits) : C) = (.flt .f32 v28.Z.bits) ∧ Tt) ∧ Tt) ∧ (true = true → ∀ j, j < 3 → isSeq (gl cs_Vector a0.Points a1.toNat (0 + j)) = false ∧ isSeq (gl cs_Vector (a0.Points.set a1.toNat v28) a1.toNat (0 + j)) = false)) ∧ Tt)) 9 [.no, .no, .no, .no, .no, .no, .no, .call [.agg (cs_Vector (a0.Points.getD a1.toNat default)), .agg (cs_Vector v19)] [.agg (cs_Vector v28)] [[.view, .view, .view]], .no, .set (a0.Points.set a1.toNat v28).length (gl cs_Vector (a0.Points.set a1.toNat v28)) ((List.range 3).map fun j => (cs_Vector v28).getD (0 + j) .nilptr)] [0, 1] [0, 1] ⟨⟨tr, tr, tr, tr, tr, tr, tr, ⟨⟨⟨rfl, rfl, rfl, tr⟩, ⟨rfl, rfl, rfl, tr⟩, tr⟩, ok_spec_l01Add K (a0.Points.getD a1.toNat default) v19 v28 e29⟩, c1, tr⟩, ⟨⟨List.length_set, gl_set, (gl_atp (lt_of_bound c1)).symm, ⟨⟨rfl, tr⟩, ⟨rfl, tr⟩, ⟨rfl, tr⟩, tr⟩, (fun _ j hj => match j, hj with | 0, _ => ⟨rfl, rfl⟩ | 1, _ => ⟨rfl, rfl⟩ | 2, _ => ⟨rfl, rfl⟩)⟩, tr⟩⟩ ?_
        refine blockQ_normal ?_
        obtain ⟨c30, h⟩ := chk_some h
        replace h := some_eq h
        subst h
        exact ⟨.inl rfl, retOK_of [] (by kernel_rfl) tr (of_decide_eq_true (by kernel_rfl)), by kernel_rfl, ⟨⟨⟨⟨c30, rfl, rfl⟩, tr, tr, tr, tr, tr, tr, tr, tr, tr⟩, ⟨rfl, ⟨rfl, rfl⟩, ⟨rfl, rfl⟩, ⟨rfl, rfl⟩, ⟨rfl, rfl⟩, ⟨rfl, rfl⟩, ⟨rfl, rfl⟩, ⟨rfl, rfl⟩, ⟨rfl, rfl⟩, tr⟩⟩, tr, tr⟩⟩
      · refine AW.cond_f rfl b27 ?_
        refine AW.seq ?_
        obtain ⟨v31, e32, h⟩ := bind_some h
        refine AW.rA ⟨[(0, (vp 0 0)), (1, (vc (.int .i64 a1))), (4, (vp 2 0)), (5, (vp 3 0)), (8, (vp 5 0))], [(0, (.box [(.arr 1), (.fx 0 1 (sl 3 cs_Vector a0.Before)), (.fx 0 2 (sl 1 csB a0.Fixed)), (.fx 0 3 (sl 1 (csF .f32) a0.Lengths)), (.fx 0 4 (.flt .f32 a0.Fall.X.bits)), (.fx 0 5 (.flt .f32 a0.Fall.Y.bits)), (.fx 0 6 (.flt .f32 a0.Fall.Z.bits)), (.fx 0 7 (.flt .f32 a0.Damp.bits)), (.fx 0 8 (.int .i64 a0.Passes))])), (1, (.arr true a0.Points.length 3 (gl cs_Vector a0.Points))), (2, (.box [(.c (.flt .f32 ((a0.Points.getD a1.toNat default).X).bits)), (.c (.flt .f32 ((a0.Points.getD a1.toNat default).Y).bits)), (.c (.flt .f32 ((a0.Points.getD a1.toNat default).Z).bits))])), (3, (.box [(.c (.flt .f32 ((a0.Points.getD ((IntKind.i64.wrap (a1 + (1 : Int))).toNat) default).X).bits)), (.c (.flt .f32 ((a0.Points.getD ((IntKind.i64.wrap (a1 + (1 : Int))).toNat) default).Y).bits)), (.c (.flt .f32 ((a0.Points.getD ((IntKind.i64.wrap (a1 + (1 : Int))).toNat) default).Z).bits))])), (5, (.box [(.c (.flt .f32 v31.X.bits)), (.c (.flt .f32 v31.Y.bits)), (.c (.flt .f32 v31.Z.bits))]))]⟩ (Tt ∧ ((((Eqc (.flt .f32 v19.X.bits)) ∧ (Eqc (.flt .f32 v19.Y.bits)) ∧ (Eqc (.flt .f32 v19.Z.bits)) ∧ Tt) ∧ (Eqc (.flt .f32 (Fl.mk (k := .f32) 1056964608 (by decide)).bits)) ∧ Tt) ∧ CallOK Try.prog 36 [.agg (cs_Vector v19), .one (.flt .f32 (Fl.mk (k := .f32) 1056964608 (by decide)).bits)] [.agg (cs_Vector v31)]) ∧ Tt ∧ Tt) [.no, .call [.agg (cs_Vector v19), .one (.flt .f32 (Fl.mk (k := .f32) 1056964608 (by decide)).bits)] [.agg (cs_Vector v31)] [[.view, .view, .view]]] [0, 1, 4, 5, 8] [0, 1, 2, 3, 5] ⟨tr, ⟨⟨⟨rfl, rfl, rfl, tr⟩, rfl, tr⟩, ok_spec_l01Scale K v19 (Fl.mk (k := .f32) 1056964608 (by decide)) v31 e32⟩, tr, tr⟩ ?_
        refine thenQ_normal ?_
        refine AW.seq ?_
        obtain ⟨v33, e34, h⟩ := bind_some h
        refine AW.dA ⟨[(0, (vp 0 0)), (1, (vc (.int .i64 a1))), (5, (vp 3 0)), (8, (vp 5 0))], [(0, (.box [(.arr 1), (.fx 0 1 (sl 3 cs_Vector a0.Before)), (.fx 0 2 (sl 1 csB a0.Fixed)), (.fx 0 3 (sl 1 (csF .f32) a0.Lengths)), (.fx 0 4 (.flt .f32 a0.Fall.X.bits)), (.fx 0 5 (.flt .f32 a0.Fall.Y.bits)), (.fx 0 6 (.flt .f32 a0.Fall.Z.bits)), (.fx 0 7 (.flt .f32 a0.Damp.bits)), (.fx 0 8 (.int .i64 a0.Passes))])), (1, (.arr true (a0.Points.set a1.toNat v33).length 3 (gl cs_Vector (a0.Points.set a1.toNat v33)))), (3, (.box [(.c (.flt .f32 ((a0.Points.getD ((IntKind.i64.wrap (a1 + (1 : Int))).toNat) default).X).bits)), (.c (.flt .f32 ((a0.Points.getD ((IntKind.i64.wrap (a1 + (1 : Int))).toNat) default).Y).bits)), (.c (.flt .f32 ((a0.Points.getD ((IntKind.i64.wrap (a1 + (1 : Int))).toNat) default).Z).bits))])), (5, (.box [(.c (.flt .f32 v31.X.bits)), (.c (.flt .f32 v31.Y.bits)), (.c (.flt .f32 v31.Z.bits))]))]⟩ ((Tt ∧ T2 (T4 (((((Eqc (.flt .f32 ((a0.Points.getD a1.toNat default).X).bits)) ∧ (Eqc (.flt .f32 ((a0.Points.getD a1.toNat default).Y).bits)) ∧ (Eqc (.flt .f32 ((a0.Points.getD a1.toNat default).Z).bits)) ∧ Tt) ∧ ((Eqc (.flt .f32 v31.X.bits)) ∧ (Eqc (.flt .f32 v31.Y.bits)) ∧ (Eqc (.flt .f32 v31.Z.bits)) ∧ Tt) ∧ Tt) ∧ CallOK Try.prog 35 [.agg (cs_Vector (a0.Points.getD a1.toNat default)), .agg (cs_Vector v31)] [.agg (cs_Vector v33)]) ∧ (0 ≤ a1 ∧ a1 < (a0.Points.length : Int)) ∧ Tt))) ∧ (((a0.Points.set a1.toNat v33).length = a0.Points.length ∧ SetOb a0.Points.length 3 a1.toNat 0 3 (gl cs_Vector a0.Points) (gl cs_Vector (a0.Points.set a1.toNat v33)) ∧ ((List.range 3).map fun j => (cs_Vector v33).getD (0 + j) .nilptr) = ((List.range 3).map fun j => gl cs_Vector (a0.Points.set a1.toNat v33) a1.toNat (0 + j)) ∧ ((((.flt .f32 v33.X.bits) : C) = (.flt .f32 v33.X.bits) ∧ Tt) ∧ (((.flt .f32 v33.Y.bits) : C) = (.flt .f32 v33.Y.bits) ∧ Tt) ∧ (((.flt .f32 v33.Z.bits) : C) = (.flt .f32 v33.Z.bits) ∧ Tt) ∧ Tt) ∧ (true = true → ∀ j, j < 3 → isSeq (gl cs_Vector a0.Points a1.toNat (0 + j)) = false ∧ isSeq (gl cs_Vector (a0.Points.set a1.toNat v33) a1.toNat (0 + j)) = false)) ∧ Tt)) 9 [.no, .no, .no, .no, .no, .no, .no, .call [.agg (cs_Vector (a0.Points.getD a1.toNat default)), .agg (cs_Vector v31)] [.agg (cs_Vector v33)] [[.view, .view, .view]], .no, .set (a0.Points.set a1.toNat v33).length (gl cs_Vector (a0.Points.set a1.toNat v33)) ((List.range 3).map fun j => (cs_Vector v33).getD (0 + j) .nilptr)] [0, 1, 5, 8] [0, 1, 3, 5] ⟨⟨tr, tr, tr, tr, tr, tr, tr, ⟨⟨⟨rfl, rfl, rfl, tr⟩, ⟨rfl, rfl, rfl, tr⟩, tr⟩, ok_spec_l01Add K (a0.Points.getD a1.toNat default) v31 v33 e34⟩, c1, tr⟩, ⟨⟨List.length_set, gl_set, (gl_atp (lt_of_bound c1)).symm, ⟨⟨rfl, tr⟩, ⟨rfl, tr⟩, ⟨rfl, tr⟩, tr⟩, (fun _ j hj => match j, hj with | 0, _ => ⟨rfl, rfl⟩ | 1, _ => ⟨rfl, rfl⟩ | 2, _ => ⟨rfl, rfl⟩)⟩, tr⟩⟩ ?_
        refine thenQ_normal ?_
        obtain ⟨v35, e36, h⟩ := bind_some h
        obtain ⟨c37, h⟩ := chk_some h
        refine AW.dA ⟨[(0, (vp 0 0)), (1, (vc (.int .i64 a1)))], [(0, (.box [(.arr 1), (.fx 0 1 (sl 3 cs_Vector a0.Before)), (.fx 0 2 (sl 1 csB a0.Fixed)), (.fx 0 3 (sl 1 (csF .f32) a0.Lengths)), (.fx 0 4 (.flt .f32 a0.Fall.X.bits)), (.fx 0 5 (.flt .f32 a0.Fall.Y.bits)), (.fx 0 6 (.flt .f32 a0.Fall.Z.bits)), (.fx 0 7 (.flt .f32 a0.Damp.bits)), (.fx 0 8 (.int .i64 a0.Passes))])), (1, (.arr true ((a0.Points.set a1.toNat v33).set ((IntKind.i64.wrap (a1 + (1 : Int))).toNat) v35).length 3 (gl cs_Vector ((a0.Points.set a1.toNat v33).set ((IntKind.i64.wrap (a1 + (1 : Int))).toNat) v35))))]⟩ ((T4 (T4 (((((((.flt .f32 ((a0.Points.getD ((IntKind.i64.wrap (a1 + (1 : Int))).toNat) default).X).bits) : C) = (.flt .f32 ((a0.Points.getD ((IntKind.i64.wrap (a1 + (1 : Int))).toNat) default).X).bits)) ∧ (((.flt .f32 ((a0.Points.getD ((IntKind.i64.wrap (a1 + (1 : Int))).toNat) default).Y).bits) : C) = (.flt .f32 ((a0.Points.getD ((IntKind.i64.wrap (a1 + (1 : Int))).toNat) default).Y).bits)) ∧ (((.flt .f32 ((a0.Points.getD ((IntKind.i64.wrap (a1 + (1 : Int))).toNat) default).Z).bits) : C) = (.flt .f32 ((a0.Points.getD ((IntKind.i64.wrap (a1 + (1 : Int))).toNat) default).Z).bits)) ∧ Tt) ∧ ((Eqc (.flt .f32 v31.X.bits)) ∧ (Eqc (.flt .f32 v31.Y.bits)) ∧ (Eqc (.flt .f32 v31.Z.bits)) ∧ Tt) ∧ Tt) ∧ CallOK Try.prog 37 [.agg (cs_Vector (a0.Points.getD ((IntKind.i64.wrap (a1 + (1 : Int))).toNat) default)), .agg (cs_Vector v31)] [.agg (cs_Vector v35)]) ∧ (0 ≤ (IntKind.i64.wrap (a1 + (1 : Int))) ∧ (IntKind.i64.wrap (a1 + (1 : Int))) < ((a0.Points.set a1.toNat v33).length : Int)) ∧ Tt))) ∧ ((((a0.Points.set a1.toNat v33).set ((IntKind.i64.wrap (a1 + (1 : Int))).toNat) v35).length = (a0.Points.set a1.toNat v33).length ∧ SetOb (a0.Points.set a1.toNat v33).length 3 ((IntKind.i64.wrap (a1 + (1 : Int))).toNat) 0 3 (gl cs_Vector (a0.Points.set a1.toNat v33)) (gl cs_Vector ((a0.Points.set a1.toNat v33).set ((IntKind.i64.wrap (a1 + (1 : Int))).toNat) v35)) ∧ ((List.range 3).map fun j => (cs_Vector v35).getD (0 + j) .nilptr) = ((List.range 3).map fun j => gl cs_Vector ((a0.Points.set a1.toNat v33).set ((IntKind.i64.wrap (a1 + (1 : Int))).toNat) v35) ((IntKind.i64.wrap (a1 + (1 : Int))).toNat) (0 + j)) ∧ ((((.flt .f32 v35.X.bits) : C) = (.flt .f32 v35.X.bits) ∧ Tt) ∧ (((.flt .f32 v35.Y.bits) : C) = (.flt .f32 v35.Y.bits) ∧ Tt) ∧ (((.flt .f32 v35.Z.bits) : C) = (.flt .f32 v35.Z.bits) ∧ Tt) ∧ Tt) ∧ (true = true → ∀ j, j < 3 → isSeq (gl cs_Vector (a0.Points.set a1.toNat v33) ((IntKind.i64.wrap (a1 + (1 : Int))).toNat) (0 + j)) = false ∧ isSeq (gl cs_Vector ((a0.Points.set a1.toNat v33).set ((IntKind.i64.wrap (a1 + (1 : Int))).toNat) v35) ((IntKind.i64.wrap (a1 + (1 : Int))).toNat) (0 + j)) = false)) ∧ Tt)) 10 [.no, .no, .no, .no, .no, .no, .no, .no, .call [.agg (cs_Vector (a0.Points.getD ((IntKind.i64.wrap (a1 + (1 : Int))).toNat) default)), .agg (cs_Vector v31)] [.agg (cs_Vector v35)] [[.view, .view, .view]], .no, .set ((a0.Points.set a1.toNat v33).set ((IntKind.i64.wrap (a1 + (1 : Int))).toNat) v35).length (gl cs_Vector ((a0.Points.set a1.toNat v33).set ((IntKind.i64.wrap (a1 + (1 : Int))).toNat) v35)) ((List.range 3).map fun j => (cs_Vector v35).getD (0 + j) .nilptr)] [0, 1] [0, 1] ⟨⟨tr, tr, tr, tr, tr, tr, tr, tr, ⟨⟨⟨rfl, rfl, rfl, tr⟩, ⟨rfl, rfl, rfl, tr⟩, tr⟩, ok_spec_l01Less K (a0.Points.getD ((IntKind.i64.wrap (a1 + (1 : Int))).toNat) default) v31 v35 e36⟩, c37, tr⟩, ⟨⟨List.length_set, gl_set, (gl_atp (lt_of_bound c37)).symm, ⟨⟨rfl, tr⟩, ⟨rfl, tr⟩, ⟨rfl, tr⟩, tr⟩, (fun _ j hj => match j, hj with | 0, _ => ⟨rfl, rfl⟩ | 1, _ => ⟨rfl, rfl⟩ | 2, _ => ⟨rfl, rfl⟩)⟩, tr⟩⟩ ?_
        refine blockQ_normal ?_
        obtain ⟨c38, h⟩ := chk_some h
        replace h := some_eq h
        subst h
        exact ⟨.inl rfl, retOK_of [] (by kernel_rfl) tr (of_decide_eq_true (by kernel_rfl)), by kernel_rfl, ⟨⟨⟨⟨c38, rfl, rfl⟩, tr, tr, tr, tr, tr, tr, tr, tr, tr⟩, ⟨rfl, ⟨rfl, rfl⟩, ⟨rfl, rfl⟩, ⟨rfl, rfl⟩, ⟨rfl, rfl⟩, ⟨rfl, rfl⟩, ⟨rfl, rfl⟩, ⟨rfl, rfl⟩, ⟨rfl, rfl⟩, tr⟩⟩, tr, tr⟩⟩

/-! spec.l08Move -/
def spec_l08Move_l5 (K : Nat) (v1 : (String)) (x8 : (List Vector)) : Nat → Int → (List Vector) → Option ((List Vector))
  | 0, _, _ => none
  | k + 1, x40, x41 => ite2 ((decide ((IntKind.i64.wrap (x40 + (1 : Int))) < (x41.length : Int)))) ((spec_l08Pass K (String.mk x41 x8 v1.Fixed v1.Lengths v1.Fall v1.Damp v1.Passes) x40).bind fun v43 => chk (v43.length = x41.length) (spec_l08Move_l5 K v1 x8 k (IntKind.i64.wrap (x40 + (1 : Int))) v43)) (some x41)

def spec_l08Move_l4 (K : Nat) (v1 : (String)) (x8 : (List Vector)) : Nat → Int → (List Vector) → Option (String)
  | 0, _, _ => none
  | k + 1, x25, x26 => ite2 ((decide (x25 < v1.Passes))) ((spec_l08Move_l5 K v1 x8 K (0 : Int) x26).bind fun j36 => spec_l08Move_l4 K v1 x8 k (IntKind.i64.wrap (x25 + (1 : Int))) j36) (some (String.mk x26 x8 v1.Fixed v1.Lengths v1.Fall v1.Damp v1.Passes))

def spec_l08Move_l1 (K : Nat) (v1 : (String)) : Nat → Int → (List Vector) → (List Vector) → Option (String)
  | 0, _, _, _ => none
  | k + 1, x6, x7, x8 => ite2 ((decide (x6 < (x7.length : Int)))) (chk (0 ≤ x6 ∧ x6 < (x7.length : Int)) (chk (0 ≤ x6 ∧ x6 < (v1.Fixed.length : Int)) (ite2 ((!(v1.Fixed.getD x6.toNat default))) (chk (0 ≤ x6 ∧ x6 < (x8.length : Int)) ((spec_l01Less K (x7.getD x6.toNat default) (x8.getD x6.toNat default)).bind fun v14 => (spec_l01Scale K v14 v1.Damp).bind fun v16 => (spec_l01Add K (x7.getD x6.toNat default) v16).bind fun v18 => (spec_l01Add K v18 v1.Fall).bind fun v20 => spec_l08Move_l1 K v1 k (IntKind.i64.wrap (x6 + (1 : Int))) (x7.set x6.toNat v20) (x8.set x6.toNat (x7.getD x6.toNat default)))) (chk (0 ≤ x6 ∧ x6 < (x8.length : Int)) (spec_l08Move_l1 K v1 k (IntKind.i64.wrap (x6 + (1 : Int))) x7 (x8.set x6.toNat (x7.getD x6.toNat default))))))) (spec_l08Move_l4 K v1 x8 K (0 : Int) x7)

def spec_l08Move (K : Nat) (a0 : String) : Option (String) :=
  (spec_l08Own K a0).bind fun v1 => spec_l08Move_l1 K v1 K (0 : Int) v1.Points v1.Before

theorem ok_spec_l08Move (K : Nat) (a0 : String) (o : (String)) (h : spec_l08Move K a0 = some o) : CallOK Try.prog 15 [.one (pl 9 cs_String a0)] [.agg (cs_String o)] := by
  refine callOK_of_AW Try.func15 rfl (by kernel_rfl) (Nat.le_of_ble_eq_true (by kernel_rfl)) ?_
  intro w0
  unfold spec_l08Move at h
  refine AW.seq (AW.rA ⟨[(0, (vc (pl 9 cs_String a0))), (2, (vp 1 0))], [(1, (.box [.nils, .nils, .nils, .nils, (.c (.flt .f32 (default : F32).bits)), (.c (.flt .f32 (default : F32).bits)), (.c (.flt .f32 (default : F32).bits)), (.c (.flt .f32 (default : F32).bits)), (.c (.int .i64 (0 : Int)))]))]⟩ (Tt ∧ Tt) [.box 1] [0, 2] [1] ⟨tr, tr⟩ (thenQ_normal ?_))
  refine AW.seq ?_
  obtain ⟨v1, e2, h⟩ := bind_some h
  refine AW.rA ⟨[(2, (vp 1 0)), (3, (vp 6 0))], [(1, (.box [.nils, .nils, .nils, .nils, (.c (.flt .f32 (default : F32).bits)), (.c (.flt .f32 (default : F32).bits)), (.c (.flt .f32 (default : F32).bits)), (.c (.flt .f32 (default : F32).bits)), (.c (.int .i64 (0 : Int)))])), (2, (.arr true v1.Points.length 3 (gl cs_Vector v1.Points))), (3, (.arr true v1.Before.length 3 (gl cs_Vector v1.Before))), (4, (.lst v1.Fixed.length 1 (gl csB v1.Fixed))), (5, (.lst v1.Lengths.length 1 (gl (csF .f32) v1.Lengths))), (6, (.box [(.arr 2), (.arr 3), (.lst 4 v1.Fixed.length 1 (gl csB v1.Fixed)), (.lst 5 v1.Lengths.length 1 (gl (csF .f32) v1.Lengths)), (.c (.flt .f32 v1.Fall.X.bits)), (.c (.flt .f32 v1.Fall.Y.bits)), (.c (.flt .f32 v1.Fall.Z.bits)), (.c (.flt .f32 v1.Damp.bits)), (.c (.int .i64 v1.Passes))]))]⟩ (Tt ∧ (((9 = 9 ∧ ∀ j, j < 9 → (cs_String a0).getD j .nilptr = (cs_String a0).getD j .nilptr) ∧ Tt) ∧ CallOK Try.prog 34 [.one (pl 9 cs_String a0)] [.agg (cs_String v1)]) ∧ T2 Tt) [.no, .call [.one (pl 9 cs_String a0)] [.agg (cs_String v1)] [[.own 2, .own 3, .lst 4, .lst 5, .view, .view, .view, .view, .view]], .box 6] [2, 3] [1, 2, 3, 4, 5, 6] ⟨tr, ⟨⟨⟨rfl, fun j hj => rfl⟩, tr⟩, ok_spec_l08Own K a0 v1 e2⟩, tr, tr, tr⟩ ?_
  refine thenQ_normal ?_
  refine AW.seq ?_
  refine AW.seq (AW.rA ⟨[(2, (vp 1 0)), (3, (vp 6 0)), (4, (vc (.int .i64 (0 : Int))))], [(1, (.box [.nils, .nils, .nils, .nils, (.c (.flt .f32 (default : F32).bits)), (.c (.flt .f32 (default : F32).bits)), (.c (.flt .f32 (default : F32).bits)), (.c (.flt .f32 (default : F32).bits)), (.c (.int .i64 (0 : Int)))])), (2, (.arr true v1.Points.length 3 (gl cs_Vector v1.Points))), (3, (.arr true v1.Before.length 3 (gl cs_Vector v1.Before))), (4, (.lst v1.Fixed.length 1 (gl csB v1.Fixed))), (5, (.lst v1.Lengths.length 1 (gl (csF .f32) v1.Lengths))), (6, (.box [(.arr 2), (.arr 3), (.lst 4 v1.Fixed.length 1 (gl csB v1.Fixed)), (.lst 5 v1.Lengths.length 1 (gl (csF .f32) v1.Lengths)), (.c (.flt .f32 v1.Fall.X.bits)), (.c (.flt .f32 v1.Fall.Y.bits)), (.c (.flt .f32 v1.Fall.Z.bits)), (.c (.flt .f32 v1.Damp.bits)), (.c (.int .i64 v1.Passes))]))]⟩ (Tt ∧ Tt) [] [2, 3, 4] [1, 2, 3, 4, 5, 6] ⟨tr, tr⟩ (thenQ_normal ?_))
  refine AW.block ?_
  refine AW.loopQ (σ := Nat × Int × (List Vector) × (List Vector)) (fun p => ⟨[(2, (vp 1 0)), (3, (vp 6 0)), (4, (vc (.int .i64 p.2.1)))], [(1, (.box [.nils, .nils, .nils, .nils, (.c (.flt .f32 (default : F32).bits)), (.c (.flt .f32 (default : F32).bits)), (.c (.flt .f32 (default : F32).bits)), (.c (.flt .f32 (default : F32).bits)), (.c (.int .i64 (0 : Int)))])), (2, (.arr true p.2.2.1.length 3 (gl cs_Vector p.2.2.1))), (3, (.arr true p.2.2.2.length 3 (gl cs_Vector p.2.2.2))), (4, (.lst v1.Fixed.length 1 (gl csB v1.Fixed))), (5, (.lst v1.Lengths.length 1 (gl (csF .f32) v1.Lengths))), (6, (.box [(.arr 2), (.arr 3), (.lst 4 v1.Fixed.length 1 (gl csB v1.Fixed)), (.lst 5 v1.Lengths.length 1 (gl (csF .f32) v1.Lengths)), (.c (.flt .f32 v1.Fall.X.bits)), (.c (.flt .f32 v1.Fall.Y.bits)), (.c (.flt .f32 v1.Fall.Z.bits)), (.c (.flt .f32 v1.Damp.bits)), (.c (.int .i64 v1.Passes))]))]⟩) (fun p => spec_l08Move_l1 K v1 p.1 p.2.1 p.2.2.1 p.2.2.2 = some o) (fun p => p.1) (K, (0 : Int), v1.Points, v1.Before) h ?_
  clear h
  rintro ⟨k, x6, x7, x8⟩ h
  replace h : spec_l08Move_l1 K v1 k x6 x7 x8 = some o := h
  show AW _ _ (⟨[(2, (vp 1 0)), (3, (vp 6 0)), (4, (vc (.int .i64 x6)))], [(1, (.box [.nils, .nils, .nils, .nils, (.c (.flt .f32 (default : F32).bits)), (.c (.flt .f32 (default : F32).bits)), (.c (.flt .f32 (default : F32).bits)), (.c (.flt .f32 (default : F32).bits)), (.c (.int .i64 (0 : Int)))])), (2, (.arr true x7.length 3 (gl cs_Vector x7))), (3, (.arr true x8.length 3 (gl cs_Vector x8))), (4, (.lst v1.Fixed.length 1 (gl csB v1.Fixed))), (5, (.lst v1.Lengths.length 1 (gl (csF .f32) v1.Lengths))), (6, (.box [(.arr 2), (.arr 3), (.lst 4 v1.Fixed.length 1 (gl csB v1.Fixed)), (.lst 5 v1.Lengths.length 1 (gl (csF .f32) v1.Lengths)), (.c (.flt .f32 v1.Fall.X.bits)), (.c (.flt .f32 v1.Fall.Y.bits)), (.c (.flt .f32 v1.Fall.Z.bits)), (.c (.flt .f32 v1.Damp.bits)), (.c (.int .i64 v1.Passes))]))]⟩ : St) _
  obtain _ | k := k
  · rw [spec_l08Move_l1] at h; cases h
  rw [spec_l08Move_l1] at h
  refine AW.seq ?_
  refine AW.seq (AW.rA ⟨[(2, (vp 1 0)), (3, (vp 6 0)), (4, (vc (.int .i64 x6))), (15, (vc (.bool (decide (x6 < (x7.length : Int))))))], [(1, (.box [.nils, .nils, .nils, .nils, (.c (.flt .f32 (default : F32).bits)), (.c (.flt .f32 (default : F32).bits)), (.c (.flt .f32 (default : F32).bits)), (.c (.flt .f32 (default : F32).bits)), (.c (.int .i64 (0 : Int)))])), (2, (.arr true x7.length 3 (gl cs_Vector x7))), (3, (.arr true x8.length 3 (gl cs_Vector x8))), (4, (.lst v1.Fixed.length 1 (gl csB v1.Fixed))), (5, (.lst v1.Lengths.length 1 (gl (csF .f32) v1.Lengths))), (6, (.box [(.arr 2), (.arr 3), (.lst 4 v1.Fixed.length 1 (gl csB v1.Fixed)), (.lst 5 v1.Lengths.length 1 (gl (csF .f32) v1.Lengths)), (.c (.flt .f32 v1.Fall.X.bits)), (.c (.flt .f32 v1.Fall.Y.bits)), (.c (.flt .f32 v1.Fall.Z.bits)), (.c (.flt .f32 v1.Damp.bits)), (.c (.int .i64 v1.Passes))]))]⟩ (Tt ∧ T4 Tt) [] [2, 3, 4, 15] [1, 2, 3, 4, 5, 6] ⟨tr, tr, tr, tr, tr, tr⟩ (thenQ_normal ?_))
  rcases ite2_cases h with ⟨b9, h⟩ | ⟨b9, h⟩
  · refine AW.cond_t rfl b9 ?_
    refine AW.skip ?_
    refine thenQ_normal ?_
    refine AW.seq ?_
    refine AW.block ?_
    refine AW.seq ?_
    obtain ⟨c10, h⟩ := chk_some h
    refine AW.rA ⟨[(2, (vp 1 0)), (3, (vp 6 0)), (4, (vc (.int .i64 x6))), (5, (vp 11 0))], [(1, (.box [.nils, .nils, .nils, .nils, (.c (.flt .f32 (default : F32).bits)), (.c (.flt .f32 (default : F32).bits)), (.c (.flt .f32 (default : F32).bits)), (.c (.flt .f32 (default : F32).bits)), (.c (.int .i64 (0 : Int)))])), (2, (.arr true x7.length 3 (gl cs_Vector x7))), (3, (.arr true x8.length 3 (gl cs_Vector x8))), (4, (.lst v1.Fixed.length 1 (gl csB v1.Fixed))), (5, (.lst v1.Lengths.length 1 (gl (csF .f32) v1.Lengths))), (6, (.box [(.arr 2), (.arr 3), (.lst 4 v1.Fixed.length 1 (gl csB v1.Fixed)), (.lst 5 v1.Lengths.length 1 (gl (csF .f32) v1.Lengths)), (.c (.flt .f32 v1.Fall.X.bits)), (.c (.flt .f32 v1.Fall.Y.bits)), (.c (.flt .f32 v1.Fall.Z.bits)), (.c (.flt .f32 v1.Damp.bits)), (.c (.int .i64 v1.Passes))])), (11, (.box [(.c (.flt .f32 ((x7.getD x6.toNat default).X).bits)), (.c (.flt .f32 ((x7.getD x6.toNat default).Y).bits)), (.c (.flt .f32 ((x7.getD x6.toNat default).Z).bits))]))]⟩ (Tt ∧ T2 ((0 ≤ x6 ∧ x6 < (x7.length : Int)) ∧ Tt ∧ T2 Tt)) [.no, .no, .no, .no, .no, .box 11] [2, 3, 4, 5] [1, 2, 3, 4, 5, 6, 11] ⟨tr, tr, tr, c10, tr, tr, tr, tr⟩ ?_
    refine thenQ_normal ?_
    refine AW.seq ?_
    refine AW.seq ?_
    obtain ⟨c11, h⟩ := chk_some h
    refine AW.rA ⟨[(2, (vp 1 0)), (3, (vp 6 0)), (4, (vc (.int .i64 x6))), (5, (vp 11 0)), (28, (vc (.bool (!(v1.Fixed.getD x6.toNat default)))))], [(1, (.box [.nils, .nils, .nils, .nils, (.c (.flt .f32 (default : F32).bits)), (.c (.flt .f32 (default : F32).bits)), (.c (.flt .f32 (default : F32).bits)), (.c (.flt .f32 (default : F32).bits)), (.c (.int .i64 (0 : Int)))])), (2, (.arr true x7.length 3 (gl cs_Vector x7))), (3, (.arr true x8.length 3 (gl cs_Vector x8))), (4, (.lst v1.Fixed.length 1 (gl csB v1.Fixed))), (5, (.lst v1.Lengths.length 1 (gl (csF .f32) v1.Lengths))), (6, (.box [(.arr 2), (.arr 3), (.lst 4 v1.Fixed.length 1 (gl csB v1.Fixed)), (.lst 5 v1.Lengths.length 1 (gl (csF .f32) v1.Lengths)), (.c (.flt .f32 v1.Fall.X.bits)), (.c (.flt .f32 v1.Fall.Y.bits)), (.c (.flt .f32 v1.Fall.Z.bits)), (.c (.flt .f32 v1.Damp.bits)), (.c (.int .i64 v1.Passes))])), (11, (.box [(.c (.flt .f32 ((x7.getD x6.toNat default).X).bits)), (.c (.flt .f32 ((x7.getD x6.toNat default).Y).bits)), (.c (.flt .f32 ((x7.getD x6.toNat default).Z).bits))]))]⟩ (Tt ∧ T2 ((0 ≤ x6 ∧ x6 < (v1.Fixed.length : Int)) ∧ T2 Tt)) [] [2, 3, 4, 5, 28] [1, 2, 3, 4, 5, 6, 11] ⟨tr, tr, tr, c11, tr, tr, tr⟩ ?_
    refine thenQ_normal ?_
    rcases ite2_cases h with ⟨b12, h⟩ | ⟨b12, h⟩
    · refine AW.cond_t rfl b12 ?_
      refine AW.seq ?_
      obtain ⟨c13, h⟩ := chk_some h
      obtain ⟨v14, e15, h⟩ := bind_some h
      obtain ⟨v16, e17, h⟩ := bind_some h
      obtain ⟨v18, e19, h⟩ := bind_some h
      refine AW.dA ⟨[(2, (vp 1 0)), (3, (vp 6 0)), (4, (vc (.int .i64 x6))), (5, (vp 11 0)), (6, (vp 12 0))], [(1, (.box [.nils, .nils, .nils, .nils, (.c (.flt .f32 (default : F32).bits)), (.c (.flt .f32 (default : F32).bits)), (.c (.flt .f32 (default : F32).bits)), (.c (.flt .f32 (default : F32).bits)), (.c (.int .i64 (0 : Int)))])), (2, (.arr true x7.length 3 (gl cs_Vector x7))), (3, (.arr true x8.length 3 (gl cs_Vector x8))), (4, (.lst v1.Fixed.length 1 (gl csB v1.Fixed))), (5, (.lst v1.Lengths.length 1 (gl (csF .f32) v1.Lengths))), (6, (.box [(.arr 2), (.arr 3), (.lst 4 v1.Fixed.length 1 (gl csB v1.Fixed)), (.lst 5 v1.Lengths.length 1 (gl (csF .f32) v1.Lengths)), (.c (.flt .f32 v1.Fall.X.bits)), (.c (.flt .f32 v1.Fall.Y.bits)), (.c (.flt .f32 v1.Fall.Z.bits)), (.c (.flt .f32 v1.Damp.bits)), (.c (.int .i64 v1.Passes))])), (11, (.box [(.c (.flt .f32 ((x7.getD x6.toNat default).X).bits)), (.c (.flt .f32 ((x7.getD x6.toNat default).Y).bits)), (.c (.flt .f32 ((x7.getD x6.toNat default).Z).bits))])), (12, (.box [(.c (.flt .f32 v18.X.bits)), (.c (.flt .f32 v18.Y.bits)), (.c (.flt .f32 v18.Z.bits))]))]⟩ ((Tt ∧ T4 ((0 ≤ x6 ∧ x6 < (x8.length : Int)) ∧ Tt ∧ ((((Eqc (.flt .f32 ((x7.getD x6.toNat default).X).bits)) ∧ (Eqc (.flt .f32 ((x7.getD x6.toNat default).Y).bits)) ∧ (Eqc (.flt .f32 ((x7.getD x6.toNat default).Z).bits)) ∧ Tt) ∧ ((Eqc (.flt .f32 ((x8.getD x6.toNat default).X).bits)) ∧ (Eqc (.flt .f32 ((x8.getD x6.toNat default).Y).bits)) ∧ (Eqc (.flt .f32 ((x8.getD x6.toNat default).Z).bits)) ∧ Tt) ∧ Tt) ∧ CallOK Try.prog 37 [.agg (cs_Vector (x7.getD x6.toNat default)), .agg (cs_Vector (x8.getD x6.toNat default))] [.agg (cs_Vector v14)]) ∧ T2 (((((Eqc (.flt .f32 v14.X.bits)) ∧ (Eqc (.flt .f32 v14.Y.bits)) ∧ (Eqc (.flt .f32 v14.Z.bits)) ∧ Tt) ∧ (Eqc (.flt .f32 v1.Damp.bits)) ∧ Tt) ∧ CallOK Try.prog 36 [.agg (cs_Vector v14), .one (.flt .f32 v1.Damp.bits)] [.agg (cs_Vector v16)]) ∧ ((((Eqc (.flt .f32 ((x7.getD x6.toNat default).X).bits)) ∧ (Eqc (.flt .f32 ((x7.getD x6.toNat default).Y).bits)) ∧ (Eqc (.flt .f32 ((x7.getD x6.toNat default).Z).bits)) ∧ Tt) ∧ ((Eqc (.flt .f32 v16.X.bits)) ∧ (Eqc (.flt .f32 v16.Y.bits)) ∧ (Eqc (.flt .f32 v16.Z.bits)) ∧ Tt) ∧ Tt) ∧ CallOK Try.prog 35 [.agg (cs_Vector (x7.getD x6.toNat default)), .agg (cs_Vector v16)] [.agg (cs_Vector v18)]) ∧ Tt ∧ Tt))) ∧ (Tt ∧ Tt)) 13 [.no, .no, .no, .no, .no, .no, .no, .call [.agg (cs_Vector (x7.getD x6.toNat default)), .agg (cs_Vector (x8.getD x6.toNat default))] [.agg (cs_Vector v14)] [[.view, .view, .view]], .no, .no, .call [.agg (cs_Vector v14), .one (.flt .f32 v1.Damp.bits)] [.agg (cs_Vector v16)] [[.view, .view, .view]], .call [.agg (cs_Vector (x7.getD x6.toNat default)), .agg (cs_Vector v16)] [.agg (cs_Vector v18)] [[.view, .view, .view]], .box 12] [2, 3, 4, 5, 6] [1, 2, 3, 4, 5, 6, 11, 12] ⟨⟨tr, tr, tr, tr, tr, c13, tr, ⟨⟨⟨rfl, rfl, rfl, tr⟩, ⟨rfl, rfl, rfl, tr⟩, tr⟩, ok_spec_l01Less K (x7.getD x6.toNat default) (x8.getD x6.toNat default) v14 e15⟩, tr, tr, ⟨⟨⟨rfl, rfl, rfl, tr⟩, rfl, tr⟩, ok_spec_l01Scale K v14 v1.Damp v16 e17⟩, ⟨⟨⟨rfl, rfl, rfl, tr⟩, ⟨rfl, rfl, rfl, tr⟩, tr⟩, ok_spec_l01Add K (x7.getD x6.toNat default) v16 v18 e19⟩, tr, tr⟩, ⟨tr, tr⟩⟩ ?_
      refine thenQ_normal ?_
      obtain ⟨v20, e21, h⟩ := bind_some h
      refine AW.dA ⟨[(2, (vp 1 0)), (3, (vp 6 0)), (4, (vc (.int .i64 x6))), (5, (vp 11 0))], [(1, (.box [.nils, .nils, .nils, .nils, (.c (.flt .f32 (default : F32).bits)), (.c (.flt .f32 (default : F32).bits)), (.c (.flt .f32 (default : F32).bits)), (.c (.flt .f32 (default : F32).bits)), (.c (.int .i64 (0 : Int)))])), (2, (.arr true (x7.set x6.toNat v20).length 3 (gl cs_Vector (x7.set x6.toNat v20)))), (3, (.arr true x8.length 3 (gl cs_Vector x8))), (4, (.lst v1.Fixed.length 1 (gl csB v1.Fixed))), (5, (.lst v1.Lengths.length 1 (gl (csF .f32) v1.Lengths))), (6, (.box [(.arr 2), (.arr 3), (.lst 4 v1.Fixed.length 1 (gl csB v1.Fixed)), (.lst 5 v1.Lengths.length 1 (gl (csF .f32) v1.Lengths)), (.c (.flt .f32 v1.Fall.X.bits)), (.c (.flt .f32 v1.Fall.Y.bits)), (.c (.flt .f32 v1.Fall.Z.bits)), (.c (.flt .f32 v1.Damp.bits)), (.c (.int .i64 v1.Passes))])), (11, (.box [(.c (.flt .f32 ((x7.getD x6.toNat default).X).bits)), (.c (.flt .f32 ((x7.getD x6.toNat default).Y).bits)), (.c (.flt .f32 ((x7.getD x6.toNat default).Z).bits))]))]⟩ ((T2 (T4 (((((Eqc (.flt .f32 v18.X.bits)) ∧ (Eqc (.flt .f32 v18.Y.bits)) ∧ (Eqc (.flt .f32 v18.Z.bits)) ∧ Tt) ∧ ((Eqc (.flt .f32 v1.Fall.X.bits)) ∧ (Eqc (.flt .f32 v1.Fall.Y.bits)) ∧ (Eqc (.flt .f32 v1.Fall.Z.bits)) ∧ Tt) ∧ Tt) ∧ CallOK Try.prog 35 [.agg (cs_Vector v18), .agg (cs_Vector v1.Fall)] [.agg (cs_Vector v20)]) ∧ (0 ≤ x6 ∧ x6 < (x7.length : Int)) ∧ Tt))) ∧ (((x7.set x6.toNat v20).length = x7.length ∧ SetOb x7.length 3 x6.toNat 0 3 (gl cs_Vector x7) (gl cs_Vector (x7.set x6.toNat v20)) ∧ ((List.range 3).map fun j => (cs_Vector v20).getD (0 + j) .nilptr) = ((List.range 3).map fun j => gl cs_Vector (x7.set x6.toNat v20) x6.toNat (0 + j)) ∧ ((((.flt .f32 v20.X.bits) : C) = (.flt .f32 v20.X.bits) ∧ Tt) ∧ (((.flt .f32 v20.Y.bits) : C) = (.flt .f32 v20.Y.bits) ∧ Tt) ∧ (((.flt .f32 v20.Z.bits) : C) = (.flt .f32 v20.Z.bits) ∧ Tt) ∧ Tt) ∧ (true = true → ∀ j, j < 3 → isSeq (gl cs_Vector x7 x6.toNat (0 + j)) = false ∧ isSeq (gl cs_Vector (x7.set x6.toNat v20) x6.toNat (0 + j)) = false)) ∧ Tt)) 8 [.no, .no, .no, .no, .no, .no, .call [.agg (cs_Vector v18), .agg (cs_Vector v1.Fall)] [.agg (cs_Vector v20)] [[.view, .view, .view]], .no, .set (x7.set x6.toNat v20).length (gl cs_Vector (x7.set x6.toNat v20)) ((List.range 3).map fun j => (cs_Vector v20).getD (0 + j) .nilptr)] [2, 3, 4, 5] [1, 2, 3, 4, 5, 6, 11] ⟨⟨tr, tr, tr, tr, tr, tr, ⟨⟨⟨rfl, rfl, rfl, tr⟩, ⟨rfl, rfl, rfl, tr⟩, tr⟩, ok_spec_l01Add K v18 v1.Fall v20 e21⟩, c10, tr⟩, ⟨⟨List.length_set, gl_set, (gl_atp (lt_of_bound c10)).symm, ⟨⟨rfl, tr⟩, ⟨rfl, tr⟩, ⟨rfl, tr⟩, tr⟩, (fun _ j hj => match j, hj with | 0, _ => ⟨rfl, rfl⟩ | 1, _ => ⟨rfl, rfl⟩ | 2, _ => ⟨rfl, rfl⟩)⟩, tr⟩⟩ ?_
      refine thenQ_normal ?_
      refine AW.rA ⟨[(2, (vp 1 0)), (3, (vp 6 0)), (4, (vc (.int .i64 x6)))], [(1, (.box [.nils, .nils, .nils, .nils, (.c (.flt .f32 (default : F32).bits)), (.c (.flt .f32 (default : F32).bits)), (.c (.flt .f32 (default : F32).bits)), (.c (.flt .f32 (default : F32).bits)), (.c (.int .i64 (0 : Int)))])), (2, (.arr true (x7.set x6.toNat v20).length 3 (gl cs_Vector (x7.set x6.toNat v20)))), (3, (.arr true (x8.set x6.toNat (x7.getD x6.toNat default)).length 3 (gl cs_Vector (x8.set x6.toNat (x7.getD x6.toNat default))))), (4, (.lst v1.Fixed.length 1 (gl csB v1.Fixed))), (5, (.lst v1.Lengths.length 1 (gl (csF .f32) v1.Lengths))), (6, (.box [(.arr 2), (.arr 3), (.lst 4 v1.Fixed.length 1 (gl csB v1.Fixed)), (.lst 5 v1.Lengths.length 1 (gl (csF .f32) v1.Lengths)), (.c (.flt .f32 v1.Fall.X.bits)), (.c (.flt .f32 v1.Fall.Y.bits)), (.c (.flt .f32 v1.Fall.Z.bits)), (.c (.flt .f32 v1.Damp.bits)), (.c (.int .i64 v1.Passes))]))]⟩ (T4 ((0 ≤ x6 ∧ x6 < (x8.length : Int)) ∧ ((x8.set x6.toNat (x7.getD x6.toNat default)).length = x8.length ∧ SetOb x8.length 3 x6.toNat 0 3 (gl cs_Vector x8) (gl cs_Vector (x8.set x6.toNat (x7.getD x6.toNat default))) ∧ ((List.range 3).map fun j => (cs_Vector (x7.getD x6.toNat default)).getD (0 + j) .nilptr) = ((List.range 3).map fun j => gl cs_Vector (x8.set x6.toNat (x7.getD x6.toNat default)) x6.toNat (0 + j)) ∧ ((((.flt .f32 ((x7.getD x6.toNat default).X).bits) : C) = (.flt .f32 ((x7.getD x6.toNat default).X).bits) ∧ Tt) ∧ (((.flt .f32 ((x7.getD x6.toNat default).Y).bits) : C) = (.flt .f32 ((x7.getD x6.toNat default).Y).bits) ∧ Tt) ∧ (((.flt .f32 ((x7.getD x6.toNat default).Z).bits) : C) = (.flt .f32 ((x7.getD x6.toNat default).Z).bits) ∧ Tt) ∧ Tt) ∧ (true = true → ∀ j, j < 3 → isSeq (gl cs_Vector x8 x6.toNat (0 + j)) = false ∧ isSeq (gl cs_Vector (x8.set x6.toNat (x7.getD x6.toNat default)) x6.toNat (0 + j)) = false)) ∧ Tt)) [.no, .no, .no, .no, .no, .set (x8.set x6.toNat (x7.getD x6.toNat default)).length (gl cs_Vector (x8.set x6.toNat (x7.getD x6.toNat default))) ((List.range 3).map fun j => (cs_Vector (x7.getD x6.toNat default)).getD (0 + j) .nilptr)] [2, 3, 4] [1, 2, 3, 4, 5, 6] ⟨tr, tr, tr, tr, c13, ⟨List.length_set, gl_set, (gl_atp (lt_of_bound c13)).symm, ⟨⟨rfl, tr⟩, ⟨rfl, tr⟩, ⟨rfl, tr⟩, tr⟩, (fun _ j hj => match j, hj with | 0, _ => ⟨rfl, rfl⟩ | 1, _ => ⟨rfl, rfl⟩ | 2, _ => ⟨rfl, rfl⟩)⟩, tr⟩ ?_
      refine blockQ_normal ?_
      refine thenQ_normal ?_
      refine AW.rA ⟨[(2, (vp 1 0)), (3, (vp 6 0)), (4, (vc (.int .i64 (IntKind.i64.wrap (x6 + (1 : Int))))))], [(1, (.box [.nils, .nils, .nils, .nils, (.c (.flt .f32 (default : F32).bits)), (.c (.flt .f32 (default : F32).bits)), (.c (.flt .f32 (default : F32).bits)), (.c (.flt .f32 (default : F32).bits)), (.c (.int .i64 (0 : Int)))])), (2, (.arr true (x7.set x6.toNat v20).length 3 (gl cs_Vector (x7.set x6.toNat v20)))), (3, (.arr true (x8.set x6.toNat (x7.getD x6.toNat default)).length 3 (gl cs_Vector (x8.set x6.toNat (x7.getD x6.toNat default))))), (4, (.lst v1.Fixed.length 1 (gl csB v1.Fixed))), (5, (.lst v1.Lengths.length 1 (gl (csF .f32) v1.Lengths))), (6, (.box [(.arr 2), (.arr 3), (.lst 4 v1.Fixed.length 1 (gl csB v1.Fixed)), (.lst 5 v1.Lengths.length 1 (gl (csF .f32) v1.Lengths)), (.c (.flt .f32 v1.Fall.X.bits)), (.c (.flt .f32 v1.Fall.Y.bits)), (.c (.flt .f32 v1.Fall.Z.bits)), (.c (.flt .f32 v1.Damp.bits)), (.c (.int .i64 v1.Passes))]))]⟩ (Tt ∧ T2 Tt) [] [2, 3, 4] [1, 2, 3, 4, 5, 6] ⟨tr, tr, tr, tr⟩ ?_
      exact loopQ_normal (k, (IntKind.i64.wrap (x6 + (1 : Int))), (x7.set x6.toNat v20), (x8.set x6.toNat (x7.getD x6.toNat default))) h (Nat.lt_succ_self k) (Sub.keep [2, 3, 4] [1, 2, 3, 4, 5, 6] (by kernel_rfl) (by kernel_rfl))
    · refine AW.cond_f rfl b12 ?_
      refine AW.skip ?_
      refine thenQ_normal ?_
      obtain ⟨c22, h⟩ := chk_some h
      refine AW.rA ⟨[(2, (vp 1 0)), (3, (vp 6 0)), (4, (vc (.int .i64 x6)))], [(1, (.box [.nils, .nils, .nils, .nils, (.c (.flt .f32 (default : F32).bits)), (.c (.flt .f32 (default : F32).bits)), (.c (.flt .f32 (default : F32).bits)), (.c (.flt .f32 (default : F32).bits)), (.c (.int .i64 (0 : Int)))])), (2, (.arr true x7.length 3 (gl cs_Vector x7))), (3, (.arr true (x8.set x6.toNat (x7.getD x6.toNat default)).length 3 (gl cs_Vector (x8.set x6.toNat (x7.getD x6.toNat default))))), (4, (.lst v1.Fixed.length 1 (gl csB v1.Fixed))), (5, (.lst v1.Lengths.length 1 (gl (csF .f32) v1.Lengths))), (6, (.box [(.arr 2), (.arr 3), (.lst 4 v1.Fixed.length 1 (gl csB v1.Fixed)), (.lst 5 v1.Lengths.length 1 (gl (csF .f32) v1.Lengths)), (.c (.flt .f32 v1.Fall.X.bits)), (.c (.flt .f32 v1.Fall.Y.bits)), (.c (.flt .f32 v1.Fall.Z.bits)), (.c (.flt .f32 v1.Damp.bits)), (.c (.int .i64 v1.Passes))]))]⟩ (T4 ((0 ≤ x6 ∧ x6 < (x8.length : Int)) ∧ ((x8.set x6.toNat (x7.getD x6.toNat default)).length = x8.length ∧ SetOb x8.length 3 x6.toNat 0 3 (gl cs_Vector x8) (gl cs_Vector (x8.set x6.toNat (x7.getD x6.toNat default))) ∧ ((List.range 3).map fun j => (cs_Vector (x7.getD x6.toNat default)).getD (0 + j) .nilptr) = ((List.range 3).map fun j => gl cs_Vector (x8.set x6.toNat (x7.getD x6.toNat default)) x6.toNat (0 + j)) ∧ ((((.flt .f32 ((x7.getD x6.toNat default).X).bits) : C) = (.flt .f32 ((x7.getD x6.toNat default).X).bits) ∧ Tt) ∧ (((.flt .f32 ((x7.getD x6.toNat default).Y).bits) : C) = (.flt .f32 ((x7.getD x6.toNat default).Y).bits) ∧ Tt) ∧ (((.flt .f32 ((x7.getD x6.toNat default).Z).bits) : C) = (.flt .f32 ((x7.getD x6.toNat default).Z).bits) ∧ Tt) ∧ Tt) ∧ (true = true → ∀ j, j < 3 → isSeq (gl cs_Vector x8 x6.toNat (0 + j)) = false ∧ isSeq (gl cs_Vector (x8.set x6.toNat (x7.getD x6.toNat default)) x6.toNat (0 + j)) = false)) ∧ Tt)) [.no, .no, .no, .no, .no, .set (x8.set x6.toNat (x7.getD x6.toNat default)).length (gl cs_Vector (x8.set x6.toNat (x7.getD x6.toNat default))) ((List.range 3).map fun j => (cs_Vector (x7.getD x6.toNat default)).getD (0 + j) .nilptr)] [2, 3, 4] [1, 2, 3, 4, 5, 6] ⟨tr, tr, tr, tr, c22, ⟨List.length_set, gl_set, (gl_atp (lt_of_bound c22)).symm, ⟨⟨rfl, tr⟩, ⟨rfl, tr⟩, ⟨rfl, tr⟩, tr⟩, (fun _ j hj => match j, hj with | 0, _ => ⟨rfl, rfl⟩ | 1, _ => ⟨rfl, rfl⟩ | 2, _ => ⟨rfl, rfl⟩)⟩, tr⟩ ?_
      refine blockQ_normal ?_
      refine thenQ_normal ?_
      refine AW.rA ⟨[(2, (vp 1 0)), (3, (vp 6 0)), (4, (vc (.int .i64 (IntKind.i64.wrap (x6 + (1 : Int))))))], [(1, (.box [.nils, .nils, .nils, .nils, (.c (.flt .f32 (default : F32).bits)), (.c (.flt .f32 (default : F32).bits)), (.c (.flt .f32 (default : F32).bits)), (.c (.flt .f32 (default : F32).bits)), (.c (.int .i64 (0 : Int)))])), (2, (.arr true x7.length 3 (gl cs_Vector x7))), (3, (.arr true (x8.set x6.toNat (x7.getD x6.toNat default)).length 3 (gl cs_Vector (x8.set x6.toNat (x7.getD x6.toNat default))))), (4, (.lst v1.Fixed.length 1 (gl csB v1.Fixed))), (5, (.lst v1.Lengths.length 1 (gl (csF .f32) v1.Lengths))), (6, (.box [(.arr 2), (.arr 3), (.lst 4 v1.Fixed.length 1 (gl csB v1.Fixed)), (.lst 5 v1.Lengths.length 1 (gl (csF .f32) v1.Lengths)), (.c (.flt .f32 v1.Fall.X.bits)), (.c (.flt .f32 v1.Fall.Y.bits)), (.c (.flt .f32 v1.Fall.Z.bits)), (.c (.flt .f32 v1.Damp.bits)), (.c (.int .i64 v1.Passes))]))]⟩ (Tt ∧ T2 Tt) [] [2, 3, 4] [1, 2, 3, 4, 5, 6] ⟨tr, tr, tr, tr⟩ ?_
      exact loopQ_normal (k, (IntKind.i64.wrap (x6 + (1 : Int))), x7, (x8.set x6.toNat (x7.getD x6.toNat default))) h (Nat.lt_succ_self k) (Sub.keep [2, 3, 4] [1, 2, 3, 4, 5, 6] (by kernel_rfl) (by kernel_rfl))
  · refine AW.cond_f rfl b9 ?_
    refine AW.exit ?_
    refine thenQ_exit ?_
    refine loopQ_exit ?_
    refine blockQ_exit ?_
    refine thenQ_normal ?_
    refine AW.seq ?_
    refine AW.seq (AW.rA ⟨[(2, (vp 1 0)), (3, (vp 6 0)), (7, (vc (.int .i64 (0 : Int))))], [(1, (.box [.nils, .nils, .nils, .nils, (.c (.flt .f32 (default : F32).bits)), (.c (.flt .f32 (default : F32).bits)), (.c (.flt .f32 (default : F32).bits)), (.c (.flt .f32 (default : F32).bits)), (.c (.int .i64 (0 : Int)))])), (2, (.arr true x7.length 3 (gl cs_Vector x7))), (3, (.arr true x8.length 3 (gl cs_Vector x8))), (4, (.lst v1.Fixed.length 1 (gl csB v1.Fixed))), (5, (.lst v1.Lengths.length 1 (gl (csF .f32) v1.Lengths))), (6, (.box [(.arr 2), (.arr 3), (.lst 4 v1.Fixed.length 1 (gl csB v1.Fixed)), (.lst 5 v1.Lengths.length 1 (gl (csF .f32) v1.Lengths)), (.c (.flt .f32 v1.Fall.X.bits)), (.c (.flt .f32 v1.Fall.Y.bits)), (.c (.flt .f32 v1.Fall.Z.bits)), (.c (.flt .f32 v1.Damp.bits)), (.c (.int .i64 v1.Passes))]))]⟩ (Tt ∧ Tt) [] [2, 3, 7] [1, 2, 3, 4, 5, 6] ⟨tr, tr⟩ (thenQ_normal ?_))
    refine AW.block ?_
    refine AW.loopQ (σ := Nat × Int × (List Vector)) (fun p => ⟨[(2, (vp 1 0)), (3, (vp 6 0)), (7, (vc (.int .i64 p.2.1)))], [(1, (.box [.nils, .nils, .nils, .nils, (.c (.flt .f32 (default : F32).bits)), (.c (.flt .f32 (default : F32).bits)), (.c (.flt .f32 (default : F32).bits)), (.c (.flt .f32 (default : F32).bits)), (.c (.int .i64 (0 : Int)))])), (2, (.arr true p.2.2.length 3 (gl cs_Vector p.2.2))), (3, (.arr true x8.length 3 (gl cs_Vector x8))), (4, (.lst v1.Fixed.length 1 (gl csB v1.Fixed))), (5, (.lst v1.Lengths.length 1 (gl (csF .f32) v1.Lengths))), (6, (.box [(.arr 2), (.arr 3), (.lst 4 v1.Fixed.length 1 (gl csB v1.Fixed)), (.lst 5 v1.Lengths.length 1 (gl (csF .f32) v1.Lengths)), (.c (.flt .f32 v1.Fall.X.bits)), (.c (.flt .f32 v1.Fall.Y.bits)), (.c (.flt .f32 v1.Fall.Z.bits)), (.c (.flt .f32 v1.Damp.bits)), (.c (.int .i64 v1.Passes))]))]⟩) (fun p => spec_l08Move_l4 K v1 x8 p.1 p.2.1 p.2.2 = some o) (fun p => p.1) (K, (0 : Int), x7) h ?_
    clear h
    rintro ⟨k, x25, x26⟩ h
    replace h : spec_l08Move_l4 K v1 x8 k x25 x26 = some o := h
    show AW _ _ (⟨[(2, (vp 1 0)), (3, (vp 6 0)), (7, (vc (.int .i64 x25)))], [(1, (.box [.nils, .nils, .nils, .nils, (.c (.flt .f32 (default : F32).bits)), (.c (.flt .f32 (default : F32).bits)), (.c (.flt .f32 (default : F32).bits)), (.c (.flt .f32 (default : F32).bits)), (.c (.int .i64 (0 : Int)))])), (2, (.arr true x26.length 3 (gl cs_Vector x26))), (3, (.arr true x8.length 3 (gl cs_Vector x8))), (4, (.lst v1.Fixed.length 1 (gl csB v1.Fixed))), (5, (.lst v1.Lengths.length 1 (gl (csF .f32) v1.Lengths))), (6, (.box [(.arr 2), (.arr 3), (.lst 4 v1.Fixed.length 1 (gl csB v1.Fixed)), (.lst 5 v1.Lengths.length 1 (gl (csF .f32) v1.Lengths)), (.c (.flt .f32 v1.Fall.X.bits)), (.c (.flt .f32 v1.Fall.Y.bits)), (.c (.flt .f32 v1.Fall.Z.bits)), (.c (.flt .f32 v1.Damp.bits)), (.c (.int .i64 v1.Passes))]))]⟩ : St) _
    obtain _ | k := k
    · rw [spec_l08Move_l4] at h; cases h
    rw [spec_l08Move_l4] at h
    refine AW.seq ?_
    refine AW.seq (AW.rA ⟨[(2, (vp 1 0)), (3, (vp 6 0)), (7, (vc (.int .i64 x25))), (57, (vc (.bool (decide (x25 < v1.Passes)))))], [(1, (.box [.nils, .nils, .nils, .nils, (.c (.flt .f32 (default : F32).bits)), (.c (.flt .f32 (default : F32).bits)), (.c (.flt .f32 (default : F32).bits)), (.c (.flt .f32 (default : F32).bits)), (.c (.int .i64 (0 : Int)))])), (2, (.arr true x26.length 3 (gl cs_Vector x26))), (3, (.arr true x8.length 3 (gl cs_Vector x8))), (4, (.lst v1.Fixed.length 1 (gl csB v1.Fixed))), (5, (.lst v1.Lengths.length 1 (gl (csF .f32) v1.Lengths))), (6, (.box [(.arr 2), (.arr 3), (.lst 4 v1.Fixed.length 1 (gl csB v1.Fixed)), (.lst 5 v1.Lengths.length 1 (gl (csF .f32) v1.Lengths)), (.c (.flt .f32 v1.Fall.X.bits)), (.c (.flt .f32 v1.Fall.Y.bits)), (.c (.flt .f32 v1.Fall.Z.bits)), (.c (.flt .f32 v1.Damp.bits)), (.c (.int .i64 v1.Passes))]))]⟩ (T4 Tt) [] [2, 3, 7, 57] [1, 2, 3, 4, 5, 6] ⟨tr, tr, tr, tr, tr⟩ (thenQ_normal ?_))
    rcases ite2_cases h with ⟨b27, h⟩ | ⟨b27, h⟩
    · refine AW.cond_t rfl b27 ?_
      refine AW.skip ?_
      refine thenQ_normal ?_
      refine AW.seq ?_
      refine AW.block ?_
      refine AW.seq (AW.rA ⟨[(2, (vp 1 0)), (3, (vp 6 0)), (7, (vc (.int .i64 x25))), (8, (vc (.int .i64 (0 : Int))))], [(1, (.box [.nils, .nils, .nils, .nils, (.c (.flt .f32 (default : F32).bits)), (.c (.flt .f32 (default : F32).bits)), (.c (.flt .f32 (default : F32).bits)), (.c (.flt .f32 (default : F32).bits)), (.c (.int .i64 (0 : Int)))])), (2, (.arr true x26.length 3 (gl cs_Vector x26))), (3, (.arr true x8.length 3 (gl cs_Vector x8))), (4, (.lst v1.Fixed.length 1 (gl csB v1.Fixed))), (5, (.lst v1.Lengths.length 1 (gl (csF .f32) v1.Lengths))), (6, (.box [(.arr 2), (.arr 3), (.lst 4 v1.Fixed.length 1 (gl csB v1.Fixed)), (.lst 5 v1.Lengths.length 1 (gl (csF .f32) v1.Lengths)), (.c (.flt .f32 v1.Fall.X.bits)), (.c (.flt .f32 v1.Fall.Y.bits)), (.c (.flt .f32 v1.Fall.Z.bits)), (.c (.flt .f32 v1.Damp.bits)), (.c (.int .i64 v1.Passes))]))]⟩ (Tt ∧ Tt) [] [2, 3, 7, 8] [1, 2, 3, 4, 5, 6] ⟨tr, tr⟩ (thenQ_normal ?_))
      obtain ⟨j36, e37, h⟩ := bind_some h
      refine AW.joinS (s2 := ⟨[(2, (vp 1 0)), (3, (vp 6 0)), (7, (vc (.int .i64 x25)))], [(1, (.box [.nils, .nils, .nils, .nils, (.c (.flt .f32 (default : F32).bits)), (.c (.flt .f32 (default : F32).bits)), (.c (.flt .f32 (default : F32).bits)), (.c (.flt .f32 (default : F32).bits)), (.c (.int .i64 (0 : Int)))])), (2, (.arr true j36.length 3 (gl cs_Vector j36))), (3, (.arr true x8.length 3 (gl cs_Vector x8))), (4, (.lst v1.Fixed.length 1 (gl csB v1.Fixed))), (5, (.lst v1.Lengths.length 1 (gl (csF .f32) v1.Lengths))), (6, (.box [(.arr 2), (.arr 3), (.lst 4 v1.Fixed.length 1 (gl csB v1.Fixed)), (.lst 5 v1.Lengths.length 1 (gl (csF .f32) v1.Lengths)), (.c (.flt .f32 v1.Fall.X.bits)), (.c (.flt .f32 v1.Fall.Y.bits)), (.c (.flt .f32 v1.Fall.Z.bits)), (.c (.flt .f32 v1.Damp.bits)), (.c (.int .i64 v1.Passes))]))]⟩) ?_ ?_
      · replace h := e37
        refine AW.block ?_
        refine AW.loopQ (σ := Nat × Int × (List Vector)) (fun p => ⟨[(2, (vp 1 0)), (3, (vp 6 0)), (7, (vc (.int .i64 x25))), (8, (vc (.int .i64 p.2.1)))], [(1, (.box [.nils, .nils, .nils, .nils, (.c (.flt .f32 (default : F32).bits)), (.c (.flt .f32 (default : F32).bits)), (.c (.flt .f32 (default : F32).bits)), (.c (.flt .f32 (default : F32).bits)), (.c (.int .i64 (0 : Int)))])), (2, (.arr true p.2.2.length 3 (gl cs_Vector p.2.2))), (3, (.arr true x8.length 3 (gl cs_Vector x8))), (4, (.lst v1.Fixed.length 1 (gl csB v1.Fixed))), (5, (.lst v1.Lengths.length 1 (gl (csF .f32) v1.Lengths))), (6, (.box [(.arr 2), (.arr 3), (.lst 4 v1.Fixed.length 1 (gl csB v1.Fixed)), (.lst 5 v1.Lengths.length 1 (gl (csF .f32) v1.Lengths)), (.c (.flt .f32 v1.Fall.X.bits)), (.c (.flt .f32 v1.Fall.Y.bits)), (.c (.flt .f32 v1.Fall.Z.bits)), (.c (.flt .f32 v1.Damp.bits)), (.c (.int .i64 v1.Passes))]))]⟩) (fun p => spec_l08Move_l5 K v1 x8 p.1 p.2.1 p.2.2 = some j36) (fun p => p.1) (K, (0 : Int), x26) h ?_
        clear h
        rintro ⟨k, x40, x41⟩ h
        replace h : spec_l08Move_l5 K v1 x8 k x40 x41 = some j36 := h
        show AW _ _ (⟨[(2, (vp 1 0)), (3, (vp 6 0)), (7, (vc (.int .i64 x25))), (8, (vc (.int .i64 x40)))], [(1, (.box [.nils, .nils, .nils, .nils, (.c (.flt .f32 (default : F32).bits)), (.c (.flt .f32 (default : F32).bits)), (.c (.flt .f32 (default : F32).bits)), (.c (.flt .f32 (default : F32).bits)), (.c (.int .i64 (0 : Int)))])), (2, (.arr true x41.length 3 (gl cs_Vector x41))), (3, (.arr true x8.length 3 (gl cs_Vector x8))), (4, (.lst v1.Fixed.length 1 (gl csB v1.Fixed))), (5, (.lst v1.Lengths.length 1 (gl (csF .f32) v1.Lengths))), (6, (.box [(.arr 2), (.arr 3), (.lst 4 v1.Fixed.length 1 (gl csB v1.Fixed)), (.lst 5 v1.Lengths.length 1 (gl (csF .f32) v1.Lengths)), (.c (.flt .f32 v1.Fall.X.bits)), (.c (.flt .f32 v1.Fall.Y.bits)), (.c (.flt .f32 v1.Fall.Z.bits)), (.c (.flt .f32 v1.Damp.bits)), (.c (.int .i64 v1.Passes))]))]⟩ : St) _
        obtain _ | k := k
        · rw [spec_l08Move_l5] at h; cases h
        rw [spec_l08Move_l5] at h
        refine AW.seq ?_
        refine AW.seq (AW.rA ⟨[(2, (vp 1 0)), (3, (vp 6 0)), (7, (vc (.int .i64 x25))), (8, (vc (.int .i64 x40))), (65, (vc (.bool (decide ((IntKind.i64.wrap (x40 + (1 : Int))) < (x41.length : Int))))))], [(1, (.box [.nils, .nils, .nils, .nils, (.c (.flt .f32 (default : F32).bits)), (.c (.flt .f32 (default : F32).bits)), (.c (.flt .f32 (default : F32).bits)), (.c (.flt .f32 (default : F32).bits)), (.c (.int .i64 (0 : Int)))])), (2, (.arr true x41.length 3 (gl cs_Vector x41))), (3, (.arr true x8.length 3 (gl cs_Vector x8))), (4, (.lst v1.Fixed.length 1 (gl csB v1.Fixed))), (5, (.lst v1.Lengths.length 1 (gl (csF .f32) v1.Lengths))), (6, (.box [(.arr 2), (.arr 3), (.lst 4 v1.Fixed.length 1 (gl csB v1.Fixed)), (.lst 5 v1.Lengths.length 1 (gl (csF .f32) v1.Lengths)), (.c (.flt .f32 v1.Fall.X.bits)), (.c (.flt .f32 v1.Fall.Y.bits)), (.c (.flt .f32 v1.Fall.Z.bits)), (.c (.flt .f32 v1.Damp.bits)), (.c (.int .i64 v1.Passes))]))]⟩ (T2 (T4 Tt)) [] [2, 3, 7, 8, 65] [1, 2, 3, 4, 5, 6] ⟨tr, tr, tr, tr, tr, tr, tr⟩ (thenQ_normal ?_))
        rcases ite2_cases h with ⟨b42, h⟩ | ⟨b42, h⟩
        · refine AW.cond_t rfl b42 ?_
          refine AW.skip ?_
          refine thenQ_normal ?_
          refine AW.seq ?_
          refine AW.block ?_
          obtain ⟨v43, e44, h⟩ := bind_some h
          obtain ⟨c45, h⟩ := chk_some h
          refine AW.rA ⟨[(2, (vp 1 0)), (3, (vp 6 0)), (7, (vc (.int .i64 x25))), (8, (vc (.int .i64 x40)))], [(1, (.box [.nils, .nils, .nils, .nils, (.c (.flt .f32 (default : F32).bits)), (.c (.flt .f32 (default : F32).bits)), (.c (.flt .f32 (default : F32).bits)), (.c (.flt .f32 (default : F32).bits)), (.c (.int .i64 (0 : Int)))])), (2, (.arr true v43.length 3 (gl cs_Vector v43))), (3, (.arr true x8.length 3 (gl cs_Vector x8))), (4, (.lst v1.Fixed.length 1 (gl csB v1.Fixed))), (5, (.lst v1.Lengths.length 1 (gl (csF .f32) v1.Lengths))), (6, (.box [(.arr 2), (.arr 3), (.lst 4 v1.Fixed.length 1 (gl csB v1.Fixed)), (.lst 5 v1.Lengths.length 1 (gl (csF .f32) v1.Lengths)), (.c (.flt .f32 v1.Fall.X.bits)), (.c (.flt .f32 v1.Fall.Y.bits)), (.c (.flt .f32 v1.Fall.Z.bits)), (.c (.flt .f32 v1.Damp.bits)), (.c (.int .i64 v1.Passes))]))]⟩ (Tt ∧ ((((((sl 3 cs_Vector x41) : C) = (sl 3 cs_Vector x41) ∧ v43.length = x41.length ∧ 3 = 3 ∧ ∀ i j, i < x41.length → j < 3 → isSeq (gl cs_Vector v43 i j) = isSeq (gl cs_Vector x41 i j)) ∧ (Eqc (sl 3 cs_Vector x8)) ∧ (Eqc (sl 1 csB v1.Fixed)) ∧ (Eqc (sl 1 (csF .f32) v1.Lengths)) ∧ (Eqc (.flt .f32 v1.Fall.X.bits)) ∧ (Eqc (.flt .f32 v1.Fall.Y.bits)) ∧ (Eqc (.flt .f32 v1.Fall.Z.bits)) ∧ (Eqc (.flt .f32 v1.Damp.bits)) ∧ (Eqc (.int .i64 v1.Passes)) ∧ Tt) ∧ (Eqc (.int .i64 x40)) ∧ Tt) ∧ MutOK Try.prog 38 [(.boxm [(.mu (sl 3 cs_Vector x41) (sl 3 cs_Vector v43)), (.ro (sl 3 cs_Vector x8)), (.ro (sl 1 csB v1.Fixed)), (.ro (sl 1 (csF .f32) v1.Lengths)), (.ro (.flt .f32 v1.Fall.X.bits)), (.ro (.flt .f32 v1.Fall.Y.bits)), (.ro (.flt .f32 v1.Fall.Z.bits)), (.ro (.flt .f32 v1.Damp.bits)), (.ro (.int .i64 v1.Passes))]), .one (.ro (.int .i64 x40))] []) ∧ Tt) [.no, .callM [(.boxm [(.mu (sl 3 cs_Vector x41) (sl 3 cs_Vector v43)), (.ro (sl 3 cs_Vector x8)), (.ro (sl 1 csB v1.Fixed)), (.ro (sl 1 (csF .f32) v1.Lengths)), (.ro (.flt .f32 v1.Fall.X.bits)), (.ro (.flt .f32 v1.Fall.Y.bits)), (.ro (.flt .f32 v1.Fall.Z.bits)), (.ro (.flt .f32 v1.Damp.bits)), (.ro (.int .i64 v1.Passes))]), .one (.ro (.int .i64 x40))] [] [] none] [2, 3, 7, 8] [1, 2, 3, 4, 5, 6] ⟨tr, ⟨⟨⟨⟨rfl, c45, rfl, gl_seq sq_Vector⟩, rfl, rfl, rfl, rfl, rfl, rfl, rfl, rfl, tr⟩, rfl, tr⟩, ok_spec_l08Pass K (String.mk x41 x8 v1.Fixed v1.Lengths v1.Fall v1.Damp v1.Passes) x40 v43 e44⟩, tr⟩ ?_
          refine blockQ_normal ?_
          refine thenQ_normal ?_
          refine AW.rA ⟨[(2, (vp 1 0)), (3, (vp 6 0)), (7, (vc (.int .i64 x25))), (8, (vc (.int .i64 (IntKind.i64.wrap (x40 + (1 : Int))))))], [(1, (.box [.nils, .nils, .nils, .nils, (.c (.flt .f32 (default : F32).bits)), (.c (.flt .f32 (default : F32).bits)), (.c (.flt .f32 (default : F32).bits)), (.c (.flt .f32 (default : F32).bits)), (.c (.int .i64 (0 : Int)))])), (2, (.arr true v43.length 3 (gl cs_Vector v43))), (3, (.arr true x8.length 3 (gl cs_Vector x8))), (4, (.lst v1.Fixed.length 1 (gl csB v1.Fixed))), (5, (.lst v1.Lengths.length 1 (gl (csF .f32) v1.Lengths))), (6, (.box [(.arr 2), (.arr 3), (.lst 4 v1.Fixed.length 1 (gl csB v1.Fixed)), (.lst 5 v1.Lengths.length 1 (gl (csF .f32) v1.Lengths)), (.c (.flt .f32 v1.Fall.X.bits)), (.c (.flt .f32 v1.Fall.Y.bits)), (.c (.flt .f32 v1.Fall.Z.bits)), (.c (.flt .f32 v1.Damp.bits)), (.c (.int .i64 v1.Passes))]))]⟩ (Tt ∧ T2 Tt) [] [2, 3, 7, 8] [1, 2, 3, 4, 5, 6] ⟨tr, tr, tr, tr⟩ ?_
          exact loopQ_normal (k, (IntKind.i64.wrap (x40 + (1 : Int))), v43) h (Nat.lt_succ_self k) (Sub.keep [2, 3, 7, 8] [1, 2, 3, 4, 5, 6] (by kernel_rfl) (by kernel_rfl))
        · refine AW.cond_f rfl b42 ?_
          refine AW.exit ?_
          refine thenQ_exit ?_
          refine loopQ_exit ?_
          refine blockQ_exit ?_
          replace h := some_eq h
          subst h
          exact ⟨rfl, Sub.keep [2, 3, 7] [1, 2, 3, 4, 5, 6] (by kernel_rfl) (by kernel_rfl)⟩
      refine blockQ_normal ?_
      refine thenQ_normal ?_
      refine AW.rA ⟨[(2, (vp 1 0)), (3, (vp 6 0)), (7, (vc (.int .i64 (IntKind.i64.wrap (x25 + (1 : Int))))))], [(1, (.box [.nils, .nils, .nils, .nils, (.c (.flt .f32 (default : F32).bits)), (.c (.flt .f32 (default : F32).bits)), (.c (.flt .f32 (default : F32).bits)), (.c (.flt .f32 (default : F32).bits)), (.c (.int .i64 (0 : Int)))])), (2, (.arr true j36.length 3 (gl cs_Vector j36))), (3, (.arr true x8.length 3 (gl cs_Vector x8))), (4, (.lst v1.Fixed.length 1 (gl csB v1.Fixed))), (5, (.lst v1.Lengths.length 1 (gl (csF .f32) v1.Lengths))), (6, (.box [(.arr 2), (.arr 3), (.lst 4 v1.Fixed.length 1 (gl csB v1.Fixed)), (.lst 5 v1.Lengths.length 1 (gl (csF .f32) v1.Lengths)), (.c (.flt .f32 v1.Fall.X.bits)), (.c (.flt .f32 v1.Fall.Y.bits)), (.c (.flt .f32 v1.Fall.Z.bits)), (.c (.flt .f32 v1.Damp.bits)), (.c (.int .i64 v1.Passes))]))]⟩ (Tt ∧ T2 Tt) [] [2, 3, 7] [1, 2, 3, 4, 5, 6] ⟨tr, tr, tr, tr⟩ ?_
      exact loopQ_normal (k, (IntKind.i64.wrap (x25 + (1 : Int))), j36) h (Nat.lt_succ_self k) (Sub.keep [2, 3, 7] [1, 2, 3, 4, 5, 6] (by kernel_rfl) (by kernel_rfl))
    · refine AW.cond_f rfl b27 ?_
      refine AW.exit ?_
      refine thenQ_exit ?_
      refine loopQ_exit ?_
      refine blockQ_exit ?_
      refine thenQ_normal ?_
      refine AW.seq (AW.rA ⟨[(2, (vp 1 0))], [(1, (.box [(.arr 2), (.arr 3), (.lst 4 v1.Fixed.length 1 (gl csB v1.Fixed)), (.lst 5 v1.Lengths.length 1 (gl (csF .f32) v1.Lengths)), (.c (.flt .f32 v1.Fall.X.bits)), (.c (.flt .f32 v1.Fall.Y.bits)), (.c (.flt .f32 v1.Fall.Z.bits)), (.c (.flt .f32 v1.Damp.bits)), (.c (.int .i64 v1.Passes))])), (2, (.arr true x26.length 3 (gl cs_Vector x26))), (3, (.arr true x8.length 3 (gl cs_Vector x8))), (4, (.lst v1.Fixed.length 1 (gl csB v1.Fixed))), (5, (.lst v1.Lengths.length 1 (gl (csF .f32) v1.Lengths)))]⟩ (T2 Tt) [] [2] [1, 2, 3, 4, 5] ⟨tr, tr, tr⟩ (thenQ_normal ?_))
      refine AW.ret ?_
      replace h := some_eq h
      subst h
      exact ⟨.inr rfl, retOK_of [(.agg [(.arr 2), (.arr 3), (.lst 4 v1.Fixed.length 1 (gl csB v1.Fixed)), (.lst 5 v1.Lengths.length 1 (gl (csF .f32) v1.Lengths)), (.c (.flt .f32 v1.Fall.X.bits)), (.c (.flt .f32 v1.Fall.Y.bits)), (.c (.flt .f32 v1.Fall.Z.bits)), (.c (.flt .f32 v1.Damp.bits)), (.c (.int .i64 v1.Passes))])] (by kernel_rfl) ⟨⟨rfl, rfl, rfl, rfl, ⟨rfl, tr⟩, ⟨rfl, tr⟩, ⟨rfl, tr⟩, ⟨rfl, tr⟩, ⟨rfl, tr⟩, tr⟩, tr⟩ (of_decide_eq_true (by kernel_rfl))⟩

/-! spec.StepString -/
def spec_StepString (K : Nat) (a0 : String) : Option (String × Bool) :=
  (spec_l08Is K a0).bind fun v1 => ite2 ((!v1)) (some ((String.mk ([] : (List Vector)) ([] : (List Vector)) ([] : (List Bool)) ([] : (List F32)) (Vector.mk (default : F32) (default : F32) (default : F32)) (default : F32) (0 : Int)), false)) ((spec_l08Move K a0).bind fun v4 => some (v4, true))

theorem ok_spec_StepString (K : Nat) (a0 : String) (o : (String × Bool)) (h : spec_StepString K a0 = some o) : CallOK Try.prog 5 [.agg (cs_String a0)] [.agg (cs_String o.1), .one (.bool o.2)] := by
  refine callOK_of_AW Try.func5 rfl (by kernel_rfl) (Nat.le_of_ble_eq_true (by kernel_rfl)) ?_
  intro w0
  unfold spec_StepString at h
  refine AW.seq (AW.rA ⟨[(1, (vp 1 0)), (2, (vp 2 0))], [(1, (.box [(.c (sl 3 cs_Vector a0.Points)), (.c (sl 3 cs_Vector a0.Before)), (.c (sl 1 csB a0.Fixed)), (.c (sl 1 (csF .f32) a0.Lengths)), (.c (.flt .f32 a0.Fall.X.bits)), (.c (.flt .f32 a0.Fall.Y.bits)), (.c (.flt .f32 a0.Fall.Z.bits)), (.c (.flt .f32 a0.Damp.bits)), (.c (.int .i64 a0.Passes))])), (2, (.box [.nils, .nils, .nils, .nils, (.c (.flt .f32 (default : F32).bits)), (.c (.flt .f32 (default : F32).bits)), (.c (.flt .f32 (default : F32).bits)), (.c (.flt .f32 (default : F32).bits)), (.c (.int .i64 (0 : Int)))]))]⟩ (Tt ∧ T2 Tt) [.box 1, .box 2] [1, 2] [1, 2] ⟨tr, tr, tr, tr⟩ (thenQ_normal ?_))
  refine AW.seq ?_
  refine AW.seq ?_
  obtain ⟨v1, e2, h⟩ := bind_some h
  refine AW.rA ⟨[(1, (vp 1 0)), (2, (vp 2 0)), (5, (vc (.bool (!v1))))], [(1, (.box [(.c (sl 3 cs_Vector a0.Points)), (.c (sl 3 cs_Vector a0.Before)), (.c (sl 1 csB a0.Fixed)), (.c (sl 1 (csF .f32) a0.Lengths)), (.c (.flt .f32 a0.Fall.X.bits)), (.c (.flt .f32 a0.Fall.Y.bits)), (.c (.flt .f32 a0.Fall.Z.bits)), (.c (.flt .f32 a0.Damp.bits)), (.c (.int .i64 a0.Passes))])), (2, (.box [.nils, .nils, .nils, .nils, (.c (.flt .f32 (default : F32).bits)), (.c (.flt .f32 (default : F32).bits)), (.c (.flt .f32 (default : F32).bits)), (.c (.flt .f32 (default : F32).bits)), (.c (.int .i64 (0 : Int)))]))]⟩ ((((0 = 0 ∧ (Eqc (sl 3 cs_Vector a0.Points)) ∧ (Eqc (sl 3 cs_Vector a0.Before)) ∧ (Eqc (sl 1 csB a0.Fixed)) ∧ (Eqc (sl 1 (csF .f32) a0.Lengths)) ∧ (Eqc (.flt .f32 a0.Fall.X.bits)) ∧ (Eqc (.flt .f32 a0.Fall.Y.bits)) ∧ (Eqc (.flt .f32 a0.Fall.Z.bits)) ∧ (Eqc (.flt .f32 a0.Damp.bits)) ∧ (Eqc (.int .i64 a0.Passes)) ∧ Tt) ∧ Tt) ∧ CallOK Try.prog 14 [.one (pl 9 cs_String a0)] [.one (.bool v1)]) ∧ Tt ∧ Tt) [.call [.one (pl 9 cs_String a0)] [.one (.bool v1)] [[.view]]] [1, 2, 5] [1, 2] ⟨⟨⟨⟨rfl, rfl, rfl, rfl, rfl, rfl, rfl, rfl, rfl, rfl, tr⟩, tr⟩, ok_spec_l08Is K a0 v1 e2⟩, tr, tr⟩ ?_
  refine thenQ_normal ?_
  rcases ite2_cases h with ⟨b3, h⟩ | ⟨b3, h⟩
  · refine AW.cond_t rfl b3 ?_
    refine AW.seq (AW.rA ⟨[(2, (vp 2 0)), (3, (vc (.bool false)))], [(2, (.box [.nils, .nils, .nils, .nils, (.c (.flt .f32 (default : F32).bits)), (.c (.flt .f32 (default : F32).bits)), (.c (.flt .f32 (default : F32).bits)), (.c (.flt .f32 (default : F32).bits)), (.c (.int .i64 (0 : Int)))]))]⟩ (Tt ∧ T2 Tt) [] [2, 3] [2] ⟨tr, tr, tr, tr⟩ (thenQ_normal ?_))
    refine AW.ret ?_
    refine thenQ_ret ?_
    replace h := some_eq h
    subst h
    exact ⟨.inr rfl, retOK_of [(.agg [.nils, .nils, .nils, .nils, (.c (.flt .f32 (default : F32).bits)), (.c (.flt .f32 (default : F32).bits)), (.c (.flt .f32 (default : F32).bits)), (.c (.flt .f32 (default : F32).bits)), (.c (.int .i64 (0 : Int)))]), (.one (.c (.bool false)))] (by kernel_rfl) ⟨⟨rfl, rfl, rfl, rfl, ⟨rfl, tr⟩, ⟨rfl, tr⟩, ⟨rfl, tr⟩, ⟨rfl, tr⟩, ⟨rfl, tr⟩, tr⟩, ⟨rfl, tr⟩, tr⟩ (of_decide_eq_true (by kernel_rfl))⟩
  · refine AW.cond_f rfl b3 ?_
    refine AW.skip ?_
    refine thenQ_normal ?_
    refine AW.seq ?_
    obtain ⟨v4, e5, h⟩ := bind_some h
    refine AW.rA ⟨[(2, (vp 2 0)), (3, (vc (.bool true)))], [(2, (.box [(.lst 3 v4.Points.length 3 (gl cs_Vector v4.Points)), (.lst 4 v4.Before.length 3 (gl cs_Vector v4.Before)), (.lst 5 v4.Fixed.length 1 (gl csB v4.Fixed)), (.lst 6 v4.Lengths.length 1 (gl (csF .f32) v4.Lengths)), (.c (.flt .f32 v4.Fall.X.bits)), (.c (.flt .f32 v4.Fall.Y.bits)), (.c (.flt .f32 v4.Fall.Z.bits)), (.c (.flt .f32 v4.Damp.bits)), (.c (.int .i64 v4.Passes))])), (3, (.lst v4.Points.length 3 (gl cs_Vector v4.Points))), (4, (.lst v4.Before.length 3 (gl cs_Vector v4.Before))), (5, (.lst v4.Fixed.length 1 (gl csB v4.Fixed))), (6, (.lst v4.Lengths.length 1 (gl (csF .f32) v4.Lengths)))]⟩ ((((0 = 0 ∧ (Eqc (sl 3 cs_Vector a0.Points)) ∧ (Eqc (sl 3 cs_Vector a0.Before)) ∧ (Eqc (sl 1 csB a0.Fixed)) ∧ (Eqc (sl 1 (csF .f32) a0.Lengths)) ∧ (Eqc (.flt .f32 a0.Fall.X.bits)) ∧ (Eqc (.flt .f32 a0.Fall.Y.bits)) ∧ (Eqc (.flt .f32 a0.Fall.Z.bits)) ∧ (Eqc (.flt .f32 a0.Damp.bits)) ∧ (Eqc (.int .i64 a0.Passes)) ∧ Tt) ∧ Tt) ∧ CallOK Try.prog 15 [.one (pl 9 cs_String a0)] [.agg (cs_String v4)]) ∧ T2 Tt) [.call [.one (pl 9 cs_String a0)] [.agg (cs_String v4)] [[.lst 3, .lst 4, .lst 5, .lst 6, .view, .view, .view, .view, .view]]] [2, 3] [2, 3, 4, 5, 6] ⟨⟨⟨⟨rfl, rfl, rfl, rfl, rfl, rfl, rfl, rfl, rfl, rfl, tr⟩, tr⟩, ok_spec_l08Move K a0 v4 e5⟩, tr, tr, tr⟩ ?_
    refine thenQ_normal ?_
    refine AW.ret ?_
    replace h := some_eq h
    subst h
    exact ⟨.inr rfl, retOK_of [(.agg [(.lst 3 v4.Points.length 3 (gl cs_Vector v4.Points)), (.lst 4 v4.Before.length 3 (gl cs_Vector v4.Before)), (.lst 5 v4.Fixed.length 1 (gl csB v4.Fixed)), (.lst 6 v4.Lengths.length 1 (gl (csF .f32) v4.Lengths)), (.c (.flt .f32 v4.Fall.X.bits)), (.c (.flt .f32 v4.Fall.Y.bits)), (.c (.flt .f32 v4.Fall.Z.bits)), (.c (.flt .f32 v4.Damp.bits)), (.c (.int .i64 v4.Passes))]), (.one (.c (.bool true)))] (by kernel_rfl) ⟨⟨rfl, rfl, rfl, rfl, ⟨rfl, tr⟩, ⟨rfl, tr⟩, ⟨rfl, tr⟩, ⟨rfl, tr⟩, ⟨rfl, tr⟩, tr⟩, ⟨rfl, tr⟩, tr⟩ (of_decide_eq_true (by kernel_rfl))⟩

/-! impl.arePoints -/
def impl_arePoints (_K : Nat) (a0 : (List Vector)) : Option (Bool) :=
  (ite2 ((decide ((a0.length : Int) ≥ (2 : Int)))) (some (decide ((a0.length : Int) ≤ (16 : Int)))) (some false)).bind fun j2 => some j2

theorem ok_impl_arePoints (K : Nat) (a0 : (List Vector)) (o : (Bool)) (h : impl_arePoints K a0 = some o) : CallOK Try.prog 45 [.one (sl 3 cs_Vector a0)] [.one (.bool o)] := by
  refine callOK_of_AW Try.func45 rfl (by kernel_rfl) (Nat.le_of_ble_eq_true (by kernel_rfl)) ?_
  intro w0
  unfold impl_arePoints at h
  refine AW.seq (AW.rA ⟨[(0, (vc (sl 3 cs_Vector a0)))], []⟩ (Tt ∧ Tt) [] [0] [] ⟨tr, tr⟩ (thenQ_normal ?_))
  refine AW.seq ?_
  obtain ⟨j2, e3, h⟩ := bind_some h
  refine AW.join1 (s2 := ⟨[(2, (vc (.bool j2)))], []⟩) ?_ ?_
  · rcases ite2_cases e3 with ⟨b1, e3⟩ | ⟨b1, e3⟩
    · replace e3 := some_eq e3
      subst e3
      exact AW.rA ⟨[(2, (vc (.bool (decide ((a0.length : Int) ≤ (16 : Int))))))], []⟩ (Tt ∧ T2 ((Tt ∧ (decide ((a0.length : Int) ≥ (2 : Int))) = true) ∧ Tt ∧ T4 Tt)) [.no, .no, .no, .dec true] [2] [] ⟨tr, tr, tr, ⟨tr, b1⟩, tr, tr, tr, tr, tr, tr⟩ ⟨rfl, rfl⟩
    · replace e3 := some_eq e3
      subst e3
      exact AW.rA ⟨[(2, (vc (.bool false)))], []⟩ (Tt ∧ T2 ((Tt ∧ (decide ((a0.length : Int) ≥ (2 : Int))) = false) ∧ Tt ∧ T4 Tt)) [.no, .no, .no, .dec false] [2] [] ⟨tr, tr, tr, ⟨tr, b1⟩, tr, tr, tr, tr, tr, tr⟩ ⟨rfl, rfl⟩
  refine thenQ_normal ?_
  refine AW.ret ?_
  replace h := some_eq h
  subst h
  exact ⟨.inr rfl, retOK_of [(.one (.c (.bool j2)))] (by kernel_rfl) ⟨⟨rfl, tr⟩, tr⟩ (of_decide_eq_true (by kernel_rfl))⟩

/-! impl.ValidString -/
def impl_ValidString (K : Nat) (a0 : String) : Option (Bool) :=
  (impl_arePoints K a0.Points).bind fun v1 => (ite2 (v1) (ite2 (((a0.Before.length : Int) == (a0.Points.length : Int))) (ite2 (((a0.Fixed.length : Int) == (a0.Points.length : Int))) (ite2 (((a0.Lengths.length : Int) == (IntKind.i64.wrap ((a0.Points.length : Int) - (1 : Int))))) (ite2 ((decide (a0.Passes ≥ (0 : Int)))) (some (decide (a0.Passes ≤ (16 : Int)))) (some false)) (some false)) (some false)) (some false)) (some false)).bind fun j8 => some j8

theorem ok_impl_ValidString (K : Nat) (a0 : String) (o : (Bool)) (h : impl_ValidString K a0 = some o) : CallOK Try.prog 39 [.agg (cs_String a0)] [.one (.bool o)] := by
  refine callOK_of_AW Try.func39 rfl (by kernel_rfl) (Nat.le_of_ble_eq_true (by kernel_rfl)) ?_
  intro w0
  unfold impl_ValidString at h
  refine AW.seq (AW.rA ⟨[(1, (vp 1 0))], [(1, (.box [(.c (sl 3 cs_Vector a0.Points)), (.c (sl 3 cs_Vector a0.Before)), (.c (sl 1 csB a0.Fixed)), (.c (sl 1 (csF .f32) a0.Lengths)), (.c (.flt .f32 a0.Fall.X.bits)), (.c (.flt .f32 a0.Fall.Y.bits)), (.c (.flt .f32 a0.Fall.Z.bits)), (.c (.flt .f32 a0.Damp.bits)), (.c (.int .i64 a0.Passes))]))]⟩ (T2 Tt) [.box 1] [1] [1] ⟨tr, tr, tr⟩ (thenQ_normal ?_))
  refine AW.seq (AW.rA ⟨[(1, (vp 1 0)), (3, (vc (.int .i64 (a0.Points.length : Int))))], [(1, (.box [(.c (sl 3 cs_Vector a0.Points)), (.c (sl 3 cs_Vector a0.Before)), (.c (sl 1 csB a0.Fixed)), (.c (sl 1 (csF .f32) a0.Lengths)), (.c (.flt .f32 a0.Fall.X.bits)), (.c (.flt .f32 a0.Fall.Y.bits)), (.c (.flt .f32 a0.Fall.Z.bits)), (.c (.flt .f32 a0.Damp.bits)), (.c (.int .i64 a0.Passes))]))]⟩ (T4 Tt) [] [1, 3] [1] ⟨tr, tr, tr, tr, tr⟩ (thenQ_normal ?_))
  refine AW.seq ?_
  obtain ⟨v1, e2, h⟩ := bind_some h
  obtain ⟨j8, e9, h⟩ := bind_some h
  refine AW.join1 (s2 := ⟨[(2, (vc (.bool j8)))], []⟩) ?_ ?_
  · rcases ite2_cases e9 with ⟨b3, e9⟩ | ⟨b3, e9⟩
    · rcases ite2_cases e9 with ⟨b4, e9⟩ | ⟨b4, e9⟩
      · rcases ite2_cases e9 with ⟨b5, e9⟩ | ⟨b5, e9⟩
        · rcases ite2_cases e9 with ⟨b6, e9⟩ | ⟨b6, e9⟩
          · rcases ite2_cases e9 with ⟨b7, e9⟩ | ⟨b7, e9⟩
            · replace e9 := some_eq e9
              subst e9
              exact AW.rA ⟨[(2, (vc (.bool (decide (a0.Passes ≤ (16 : Int))))))], []⟩ (T2 ((((Eqc (sl 3 cs_Vector a0.Points)) ∧ Tt) ∧ CallOK Try.prog 45 [.one (sl 3 cs_Vector a0.Points)] [.one (.bool v1)]) ∧ (Tt ∧ v1 = true) ∧ T2 (T4 ((Tt ∧ ((a0.Before.length : Int) == (a0.Points.length : Int)) = true) ∧ T2 (T4 ((Tt ∧ ((a0.Fixed.length : Int) == (a0.Points.length : Int)) = true) ∧ Tt ∧ T2 (T4 ((Tt ∧ ((a0.Lengths.length : Int) == (IntKind.i64.wrap ((a0.Points.length : Int) - (1 : Int)))) = true) ∧ T4 ((Tt ∧ (decide (a0.Passes ≥ (0 : Int))) = true) ∧ Tt ∧ T4 Tt))))))))) [.no, .no, .call [.one (sl 3 cs_Vector a0.Points)] [.one (.bool v1)] [[.view]], .dec true, .no, .no, .no, .no, .no, .no, .dec true, .no, .no, .no, .no, .no, .no, .dec true, .no, .no, .no, .no, .no, .no, .no, .dec true, .no, .no, .no, .no, .dec true] [2] [] ⟨tr, tr, ⟨⟨rfl, tr⟩, ok_impl_arePoints K a0.Points v1 e2⟩, ⟨tr, b3⟩, tr, tr, tr, tr, tr, tr, ⟨tr, b4⟩, tr, tr, tr, tr, tr, tr, ⟨tr, b5⟩, tr, tr, tr, tr, tr, tr, tr, ⟨tr, b6⟩, tr, tr, tr, tr, ⟨tr, b7⟩, tr, tr, tr, tr, tr, tr⟩ ⟨rfl, rfl⟩
            · replace e9 := some_eq e9
              subst e9
              exact AW.rA ⟨[(2, (vc (.bool false)))], []⟩ (T2 ((((Eqc (sl 3 cs_Vector a0.Points)) ∧ Tt) ∧ CallOK Try.prog 45 [.one (sl 3 cs_Vector a0.Points)] [.one (.bool v1)]) ∧ (Tt ∧ v1 = true) ∧ T2 (T4 ((Tt ∧ ((a0.Before.length : Int) == (a0.Points.length : Int)) = true) ∧ T2 (T4 ((Tt ∧ ((a0.Fixed.length : Int) == (a0.Points.length : Int)) = true) ∧ Tt ∧ T2 (T4 ((Tt ∧ ((a0.Lengths.length : Int) == (IntKind.i64.wrap ((a0.Points.length : Int) - (1 : Int)))) = true) ∧ T4 ((Tt ∧ (decide (a0.Passes ≥ (0 : Int))) = false) ∧ Tt ∧ T4 Tt))))))))) [.no, .no, .call [.one (sl 3 cs_Vector a0.Points)] [.one (.bool v1)] [[.view]], .dec true, .no, .no, .no, .no, .no, .no, .dec true, .no, .no, .no, .no, .no, .no, .dec true, .no, .no, .no, .no, .no, .no, .no, .dec true, .no, .no, .no, .no, .dec false] [2] [] ⟨tr, tr, ⟨⟨rfl, tr⟩, ok_impl_arePoints K a0.Points v1 e2⟩, ⟨tr, b3⟩, tr, tr, tr, tr, tr, tr, ⟨tr, b4⟩, tr, tr, tr, tr, tr, tr, ⟨tr, b5⟩, tr, tr, tr, tr, tr, tr, tr, ⟨tr, b6⟩, tr, tr, tr, tr, ⟨tr, b7⟩, tr, tr, tr, tr, tr, tr⟩ ⟨rfl, rfl⟩
          · replace e9 := some_eq e9
            subst e9
            exact AW.rA ⟨[(2, (vc (.bool false)))], []⟩ (T2 ((((Eqc (sl 3 cs_Vector a0.Points)) ∧ Tt) ∧ CallOK Try.prog 45 [.one (sl 3 cs_Vector a0.Points)] [.one (.bool v1)]) ∧ (Tt ∧ v1 = true) ∧ T2 (T4 ((Tt ∧ ((a0.Before.length : Int) == (a0.Points.length : Int)) = true) ∧ T2 (T4 ((Tt ∧ ((a0.Fixed.length : Int) == (a0.Points.length : Int)) = true) ∧ Tt ∧ T2 (T4 ((Tt ∧ ((a0.Lengths.length : Int) == (IntKind.i64.wrap ((a0.Points.length : Int) - (1 : Int)))) = false) ∧ T2 (T4 (T4 Tt)))))))))) [.no, .no, .call [.one (sl 3 cs_Vector a0.Points)] [.one (.bool v1)] [[.view]], .dec true, .no, .no, .no, .no, .no, .no, .dec true, .no, .no, .no, .no, .no, .no, .dec true, .no, .no, .no, .no, .no, .no, .no, .dec false] [2] [] ⟨tr, tr, ⟨⟨rfl, tr⟩, ok_impl_arePoints K a0.Points v1 e2⟩, ⟨tr, b3⟩, tr, tr, tr, tr, tr, tr, ⟨tr, b4⟩, tr, tr, tr, tr, tr, tr, ⟨tr, b5⟩, tr, tr, tr, tr, tr, tr, tr, ⟨tr, b6⟩, tr, tr, tr, tr, tr, tr, tr, tr, tr, tr, tr⟩ ⟨rfl, rfl⟩
        · replace e9 := some_eq e9
          subst e9
          exact AW.rA ⟨[(2, (vc (.bool false)))], []⟩ (T2 ((((Eqc (sl 3 cs_Vector a0.Points)) ∧ Tt) ∧ CallOK Try.prog 45 [.one (sl 3 cs_Vector a0.Points)] [.one (.bool v1)]) ∧ (Tt ∧ v1 = true) ∧ T2 (T4 ((Tt ∧ ((a0.Before.length : Int) == (a0.Points.length : Int)) = true) ∧ T2 (T4 ((Tt ∧ ((a0.Fixed.length : Int) == (a0.Points.length : Int)) = false) ∧ T2 (T4 (T4 (T4 (T4 Tt)))))))))) [.no, .no, .call [.one (sl 3 cs_Vector a0.Points)] [.one (.bool v1)] [[.view]], .dec true, .no, .no, .no, .no, .no, .no, .dec true, .no, .no, .no, .no, .no, .no, .dec false] [2] [] ⟨tr, tr, ⟨⟨rfl, tr⟩, ok_impl_arePoints K a0.Points v1 e2⟩, ⟨tr, b3⟩, tr, tr, tr, tr, tr, tr, ⟨tr, b4⟩, tr, tr, tr, tr, tr, tr, ⟨tr, b5⟩, tr, tr, tr, tr, tr, tr, tr, tr, tr, tr, tr, tr, tr, tr, tr, tr, tr, tr, tr⟩ ⟨rfl, rfl⟩
      · replace e9 := some_eq e9
        subst e9
        exact AW.rA ⟨[(2, (vc (.bool false)))], []⟩ (T2 ((((Eqc (sl 3 cs_Vector a0.Points)) ∧ Tt) ∧ CallOK Try.prog 45 [.one (sl 3 cs_Vector a0.Points)] [.one (.bool v1)]) ∧ (Tt ∧ v1 = true) ∧ T2 (T4 ((Tt ∧ ((a0.Before.length : Int) == (a0.Points.length : Int)) = false) ∧ Tt ∧ T4 (T4 (T4 (T4 (T4 (T4 Tt))))))))) [.no, .no, .call [.one (sl 3 cs_Vector a0.Points)] [.one (.bool v1)] [[.view]], .dec true, .no, .no, .no, .no, .no, .no, .dec false] [2] [] ⟨tr, tr, ⟨⟨rfl, tr⟩, ok_impl_arePoints K a0.Points v1 e2⟩, ⟨tr, b3⟩, tr, tr, tr, tr, tr, tr, ⟨tr, b4⟩, tr, tr, tr, tr, tr, tr, tr, tr, tr, tr, tr, tr, tr, tr, tr, tr, tr, tr, tr, tr, tr, tr, tr, tr, tr, tr⟩ ⟨rfl, rfl⟩
    · replace e9 := some_eq e9
      subst e9
      exact AW.rA ⟨[(2, (vc (.bool false)))], []⟩ (T2 ((((Eqc (sl 3 cs_Vector a0.Points)) ∧ Tt) ∧ CallOK Try.prog 45 [.one (sl 3 cs_Vector a0.Points)] [.one (.bool v1)]) ∧ (Tt ∧ v1 = false) ∧ T4 (T4 (T4 (T4 (T4 (T4 (T4 (T4 Tt))))))))) [.no, .no, .call [.one (sl 3 cs_Vector a0.Points)] [.one (.bool v1)] [[.view]], .dec false] [2] [] ⟨tr, tr, ⟨⟨rfl, tr⟩, ok_impl_arePoints K a0.Points v1 e2⟩, ⟨tr, b3⟩, tr, tr, tr, tr, tr, tr, tr, tr, tr, tr, tr, tr, tr, tr, tr, tr, tr, tr, tr, tr, tr, tr, tr, tr, tr, tr, tr, tr, tr, tr, tr, tr, tr⟩ ⟨rfl, rfl⟩
  refine thenQ_normal ?_
  refine AW.ret ?_
  replace h := some_eq h
  subst h
  exact ⟨.inr rfl, retOK_of [(.one (.c (.bool j8)))] (by kernel_rfl) ⟨⟨rfl, tr⟩, tr⟩ (of_decide_eq_true (by kernel_rfl))⟩

/-! impl.isMoves -/
def impl_isMoves (_K : Nat) (a0 : Int) : Option (Bool) :=
  (ite2 ((decide (a0 ≥ (0 : Int)))) (some (decide (a0 ≤ (1000 : Int)))) (some false)).bind fun j2 => some j2

theorem ok_impl_isMoves (K : Nat) (a0 : Int) (o : (Bool)) (h : impl_isMoves K a0 = some o) : CallOK Try.prog 40 [.one (.int .i64 a0)] [.one (.bool o)] := by
  refine callOK_of_AW Try.func40 rfl (by kernel_rfl) (Nat.le_of_ble_eq_true (by kernel_rfl)) ?_
  intro w0
  unfold impl_isMoves at h
  refine AW.seq (AW.rA ⟨[(0, (vc (.int .i64 a0)))], []⟩ (Tt ∧ Tt) [] [0] [] ⟨tr, tr⟩ (thenQ_normal ?_))
  refine AW.seq ?_
  obtain ⟨j2, e3, h⟩ := bind_some h
  refine AW.join1 (s2 := ⟨[(2, (vc (.bool j2)))], []⟩) ?_ ?_
  · rcases ite2_cases e3 with ⟨b1, e3⟩ | ⟨b1, e3⟩
    · replace e3 := some_eq e3
      subst e3
      exact AW.rA ⟨[(2, (vc (.bool (decide (a0 ≤ (1000 : Int))))))], []⟩ (T2 ((Tt ∧ (decide (a0 ≥ (0 : Int))) = true) ∧ T4 Tt)) [.no, .no, .dec true] [2] [] ⟨tr, tr, ⟨tr, b1⟩, tr, tr, tr, tr, tr⟩ ⟨rfl, rfl⟩
    · replace e3 := some_eq e3
      subst e3
      exact AW.rA ⟨[(2, (vc (.bool false)))], []⟩ (T2 ((Tt ∧ (decide (a0 ≥ (0 : Int))) = false) ∧ T4 Tt)) [.no, .no, .dec false] [2] [] ⟨tr, tr, ⟨tr, b1⟩, tr, tr, tr, tr, tr⟩ ⟨rfl, rfl⟩
  refine thenQ_normal ?_
  refine AW.ret ?_
  replace h := some_eq h
  subst h
  exact ⟨.inr rfl, retOK_of [(.one (.c (.bool j2)))] (by kernel_rfl) ⟨⟨rfl, tr⟩, tr⟩ (of_decide_eq_true (by kernel_rfl))⟩

/-! slices.Clone[[]impl.Vector,impl.Vector] -/
def slices_Clone_impl_Vector_impl_Vector (_K : Nat) (a0 : (List Vector)) : Option ((List Vector)) :=
  chk ((([] : List Vector).length + a0.length) * 12 ≤ 140737488355328) (some (([] : List Vector) ++ a0))

theorem ok_slices_Clone_impl_Vector_impl_Vector (K : Nat) (a0 : (List Vector)) (o : ((List Vector))) (h : slices_Clone_impl_Vector_impl_Vector K a0 = some o) : CallOK Try.prog 46 [.one (sl 3 cs_Vector a0)] [.one (sl 3 cs_Vector o)] := by
  refine callOK_of_AW Try.func46 rfl (by kernel_rfl) (Nat.le_of_ble_eq_true (by kernel_rfl)) ?_
  intro w0
  unfold slices_Clone_impl_Vector_impl_Vector at h
  refine AW.seq (AW.rA ⟨[(0, (vc (sl 3 cs_Vector a0)))], []⟩ (Tt ∧ Tt) [] [0] [] ⟨tr, tr⟩ (thenQ_normal ?_))
  refine AW.seq ?_
  refine AW.seq ?_
  refine AW.nilA (d := 4) (n := a0.length) 1 [.no] [0] [] (s' := ⟨[(0, (vc (sl 3 cs_Vector a0)))], []⟩) (ob := Tt ∧ Tt) (by kernel_rfl) ⟨tr, tr⟩ ?_
  intro b2 b1
  cases b2
  · refine thenQ_normal ?_
    refine AW.cond_f (b := false) rfl rfl ?_
    refine AW.skip ?_
    refine thenQ_normal ?_
    refine AW.seq ?_
    obtain ⟨c3, h⟩ := chk_some h
    refine AW.rA ⟨[(2, (.v (.one (.lst 2 (([] : List Vector) ++ a0).length 3 (gl cs_Vector (([] : List Vector) ++ a0))))))], [(2, (.lst (([] : List Vector) ++ a0).length 3 (gl cs_Vector (([] : List Vector) ++ a0))))]⟩ ((([] : List Vector).length = 0 ∧ Tt) ∧ Tt ∧ ((([] : List Vector) ++ a0).length = ([] : List Vector).length + a0.length ∧ AppOb (([] : List Vector).length) (a0.length) 3 (gl cs_Vector ([] : List Vector)) (gl cs_Vector a0) (gl cs_Vector (([] : List Vector) ++ a0)) ∧ (∀ i j, i < a0.length → j < 3 → scalarC (gl cs_Vector a0 i j)) ∧ (([] : List Vector).length + a0.length) * 12 ≤ 140737488355328) ∧ Tt ∧ Tt) [.obj 1 ([] : List Vector).length (gl cs_Vector ([] : List Vector)), .no, .obj 2 (([] : List Vector) ++ a0).length (gl cs_Vector (([] : List Vector) ++ a0))] [2] [2] ⟨⟨rfl, tr⟩, tr, ⟨List.length_append, gl_append, gl_scalar sc_Vector _, c3⟩, tr, tr⟩ ?_
    refine thenQ_normal ?_
    refine AW.ret ?_
    replace h := some_eq h
    subst h
    exact ⟨.inr rfl, retOK_of [(.one (.lst 2 (([] : List Vector) ++ a0).length 3 (gl cs_Vector (([] : List Vector) ++ a0))))] (by kernel_rfl) ⟨rfl, tr⟩ (of_decide_eq_true (by kernel_rfl))⟩
  · obtain rfl := List.eq_nil_of_length_eq_zero (b1 rfl)
    replace h : some ([] : (List Vector)) = some o := by simpa [chk] using h
    refine thenQ_normal ?_
    refine AW.cond_t (b := true) rfl rfl ?_
    refine AW.seq (AW.rA ⟨[(2, (.v (.one .nils)))], []⟩ (Tt ∧ Tt) [] [2] [] ⟨tr, tr⟩ (thenQ_normal ?_))
    refine AW.ret ?_
    refine thenQ_ret ?_
    replace h := some_eq h
    subst h
    exact ⟨.inr rfl, retOK_of [(.one .nils)] (by kernel_rfl) ⟨rfl, tr⟩ (of_decide_eq_true (by kernel_rfl))⟩

/-! slices.Clone[[]bool,bool] -/
def slices_Clone_bool_bool (_K : Nat) (a0 : (List Bool)) : Option ((List Bool)) :=
  chk ((([] : List Bool).length + a0.length) * 1 ≤ 140737488355328) (some (([] : List Bool) ++ a0))

theorem ok_slices_Clone_bool_bool (K : Nat) (a0 : (List Bool)) (o : ((List Bool))) (h : slices_Clone_bool_bool K a0 = some o) : CallOK Try.prog 47 [.one (sl 1 csB a0)] [.one (sl 1 csB o)] := by
  refine callOK_of_AW Try.func47 rfl (by kernel_rfl) (Nat.le_of_ble_eq_true (by kernel_rfl)) ?_
  intro w0
  unfold slices_Clone_bool_bool at h
  refine AW.seq (AW.rA ⟨[(0, (vc (sl 1 csB a0)))], []⟩ (Tt ∧ Tt) [] [0] [] ⟨tr, tr⟩ (thenQ_normal ?_))
  refine AW.seq ?_
  refine AW.seq ?_
  refine AW.nilA (d := 4) (n := a0.length) 1 [.no] [0] [] (s' := ⟨[(0, (vc (sl 1 csB a0)))], []⟩) (ob := Tt ∧ Tt) (by kernel_rfl) ⟨tr, tr⟩ ?_
  intro b2 b1
  cases b2
  · refine thenQ_normal ?_
    refine AW.cond_f (b := false) rfl rfl ?_
    refine AW.skip ?_
    refine thenQ_normal ?_
    refine AW.seq ?_
    obtain ⟨c3, h⟩ := chk_some h
    refine AW.rA ⟨[(2, (.v (.one (.lst 2 (([] : List Bool) ++ a0).length 1 (gl csB (([] : List Bool) ++ a0))))))], [(2, (.lst (([] : List Bool) ++ a0).length 1 (gl csB (([] : List Bool) ++ a0))))]⟩ ((([] : List Bool).length = 0 ∧ Tt) ∧ Tt ∧ ((([] : List Bool) ++ a0).length = ([] : List Bool).length + a0.length ∧ AppOb (([] : List Bool).length) (a0.length) 1 (gl csB ([] : List Bool)) (gl csB a0) (gl csB (([] : List Bool) ++ a0)) ∧ (∀ i j, i < a0.length → j < 1 → scalarC (gl csB a0 i j)) ∧ (([] : List Bool).length + a0.length) * 1 ≤ 140737488355328) ∧ Tt ∧ Tt) [.obj 1 ([] : List Bool).length (gl csB ([] : List Bool)), .no, .obj 2 (([] : List Bool) ++ a0).length (gl csB (([] : List Bool) ++ a0))] [2] [2] ⟨⟨rfl, tr⟩, tr, ⟨List.length_append, gl_append, gl_scalar scB _, c3⟩, tr, tr⟩ ?_
    refine thenQ_normal ?_
    refine AW.ret ?_
    replace h := some_eq h
    subst h
    exact ⟨.inr rfl, retOK_of [(.one (.lst 2 (([] : List Bool) ++ a0).length 1 (gl csB (([] : List Bool) ++ a0))))] (by kernel_rfl) ⟨rfl, tr⟩ (of_decide_eq_true (by kernel_rfl))⟩
  · obtain rfl := List.eq_nil_of_length_eq_zero (b1 rfl)
    replace h : some ([] : (List Bool)) = some o := by simpa [chk] using h
    refine thenQ_normal ?_
    refine AW.cond_t (b := true) rfl rfl ?_
    refine AW.seq (AW.rA ⟨[(2, (.v (.one .nils)))], []⟩ (Tt ∧ Tt) [] [2] [] ⟨tr, tr⟩ (thenQ_normal ?_))
    refine AW.ret ?_
    refine thenQ_ret ?_
    replace h := some_eq h
    subst h
    exact ⟨.inr rfl, retOK_of [(.one .nils)] (by kernel_rfl) ⟨rfl, tr⟩ (of_decide_eq_true (by kernel_rfl))⟩

/-! slices.Clone[[]float32,float32] -/
def slices_Clone_float32_float32 (_K : Nat) (a0 : (List F32)) : Option ((List F32)) :=
  chk ((([] : List F32).length + a0.length) * 4 ≤ 140737488355328) (some (([] : List F32) ++ a0))

theorem ok_slices_Clone_float32_float32 (K : Nat) (a0 : (List F32)) (o : ((List F32))) (h : slices_Clone_float32_float32 K a0 = some o) : CallOK Try.prog 48 [.one (sl 1 (csF .f32) a0)] [.one (sl 1 (csF .f32) o)] := by
  refine callOK_of_AW Try.func48 rfl (by kernel_rfl) (Nat.le_of_ble_eq_true (by kernel_rfl)) ?_
  intro w0
  unfold slices_Clone_float32_float32 at h
  refine AW.seq (AW.rA ⟨[(0, (vc (sl 1 (csF .f32) a0)))], []⟩ (Tt ∧ Tt) [] [0] [] ⟨tr, tr⟩ (thenQ_normal ?_))
  refine AW.seq ?_
  refine AW.seq ?_
  refine AW.nilA (d := 4) (n := a0.length) 1 [.no] [0] [] (s' := ⟨[(0, (vc (sl 1 (csF .f32) a0)))], []⟩) (ob := Tt ∧ Tt) (by kernel_rfl) ⟨tr, tr⟩ ?_
  intro b2 b1
  cases b2
  · refine thenQ_normal ?_
    refine AW.cond_f (b := false) rfl rfl ?_
    refine AW.skip ?_
    refine thenQ_normal ?_
    refine AW.seq ?_
    obtain ⟨c3, h⟩ := chk_some h
    refine AW.rA ⟨[(2, (.v (.one (.lst 2 (([] : List F32) ++ a0).length 1 (gl (csF .f32) (([] : List F32) ++ a0))))))], [(2, (.lst (([] : List F32) ++ a0).length 1 (gl (csF .f32) (([] : List F32) ++ a0))))]⟩ ((([] : List F32).length = 0 ∧ Tt) ∧ Tt ∧ ((([] : List F32) ++ a0).length = ([] : List F32).length + a0.length ∧ AppOb (([] : List F32).length) (a0.length) 1 (gl (csF .f32) ([] : List F32)) (gl (csF .f32) a0) (gl (csF .f32) (([] : List F32) ++ a0)) ∧ (∀ i j, i < a0.length → j < 1 → scalarC (gl (csF .f32) a0 i j)) ∧ (([] : List F32).length + a0.length) * 4 ≤ 140737488355328) ∧ Tt ∧ Tt) [.obj 1 ([] : List F32).length (gl (csF .f32) ([] : List F32)), .no, .obj 2 (([] : List F32) ++ a0).length (gl (csF .f32) (([] : List F32) ++ a0))] [2] [2] ⟨⟨rfl, tr⟩, tr, ⟨List.length_append, gl_append, gl_scalar scF _, c3⟩, tr, tr⟩ ?_
    refine thenQ_normal ?_
    refine AW.ret ?_
    replace h := some_eq h
    subst h
    exact ⟨.inr rfl, retOK_of [(.one (.lst 2 (([] : List F32) ++ a0).length 1 (gl (csF .f32) (([] : List F32) ++ a0))))] (by kernel_rfl) ⟨rfl, tr⟩ (of_decide_eq_true (by kernel_rfl))⟩
  · obtain rfl := List.eq_nil_of_length_eq_zero (b1 rfl)
    replace h : some ([] : (List F32)) = some o := by simpa [chk] using h
    refine thenQ_normal ?_
    refine AW.cond_t (b := true) rfl rfl ?_
    refine AW.seq (AW.rA ⟨[(2, (.v (.one .nils)))], []⟩ (Tt ∧ Tt) [] [2] [] ⟨tr, tr⟩ (thenQ_normal ?_))
    refine AW.ret ?_
    refine thenQ_ret ?_
    replace h := some_eq h
    subst h
    exact ⟨.inr rfl, retOK_of [(.one .nils)] (by kernel_rfl) ⟨rfl, tr⟩ (of_decide_eq_true (by kernel_rfl))⟩

/-! (impl.String).copied -/
def impl_String_copied (K : Nat) (a0 : String) : Option (String) :=
  (slices_Clone_impl_Vector_impl_Vector K a0.Points).bind fun v1 => (slices_Clone_impl_Vector_impl_Vector K a0.Before).bind fun v3 => (slices_Clone_bool_bool K a0.Fixed).bind fun v5 => (slices_Clone_float32_float32 K a0.Lengths).bind fun v7 => some (String.mk v1 v3 v5 v7 a0.Fall a0.Damp a0.Passes)

theorem ok_impl_String_copied (K : Nat) (a0 : String) (o : (String)) (h : impl_String_copied K a0 = some o) : CallOK Try.prog 41 [.agg (cs_String a0)] [.agg (cs_String o)] := by
  refine callOK_of_AW Try.func41 rfl (by kernel_rfl) (Nat.le_of_ble_eq_true (by kernel_rfl)) ?_
  intro w0
  unfold impl_String_copied at h
  refine AW.seq (AW.rA ⟨[(1, (vp 1 0)), (2, (vp 2 0))], [(1, (.box [(.c (sl 3 cs_Vector a0.Points)), (.c (sl 3 cs_Vector a0.Before)), (.c (sl 1 csB a0.Fixed)), (.c (sl 1 (csF .f32) a0.Lengths)), (.c (.flt .f32 a0.Fall.X.bits)), (.c (.flt .f32 a0.Fall.Y.bits)), (.c (.flt .f32 a0.Fall.Z.bits)), (.c (.flt .f32 a0.Damp.bits)), (.c (.int .i64 a0.Passes))])), (2, (.box [.nils, .nils, .nils, .nils, (.c (.flt .f32 (default : F32).bits)), (.c (.flt .f32 (default : F32).bits)), (.c (.flt .f32 (default : F32).bits)), (.c (.flt .f32 (default : F32).bits)), (.c (.int .i64 (0 : Int)))]))]⟩ (T2 Tt) [.box 1, .box 2] [1, 2] [1, 2] ⟨tr, tr, tr⟩ (thenQ_normal ?_))
  refine AW.seq ?_
  obtain ⟨v1, e2, h⟩ := bind_some h
  obtain ⟨v3, e4, h⟩ := bind_some h
  refine AW.dA ⟨[(1, (vp 1 0)), (2, (vp 2 0))], [(1, (.box [(.lst 3 v1.length 3 (gl cs_Vector v1)), (.lst 4 v3.length 3 (gl cs_Vector v3)), (.c (sl 1 csB a0.Fixed)), (.c (sl 1 (csF .f32) a0.Lengths)), (.c (.flt .f32 a0.Fall.X.bits)), (.c (.flt .f32 a0.Fall.Y.bits)), (.c (.flt .f32 a0.Fall.Z.bits)), (.c (.flt .f32 a0.Damp.bits)), (.c (.int .i64 a0.Passes))])), (2, (.box [.nils, .nils, .nils, .nils, (.c (.flt .f32 (default : F32).bits)), (.c (.flt .f32 (default : F32).bits)), (.c (.flt .f32 (default : F32).bits)), (.c (.flt .f32 (default : F32).bits)), (.c (.int .i64 (0 : Int)))])), (3, (.lst v1.length 3 (gl cs_Vector v1))), (4, (.lst v3.length 3 (gl cs_Vector v3)))]⟩ ((T2 ((((Eqc (sl 3 cs_Vector a0.Points)) ∧ Tt) ∧ CallOK Try.prog 46 [.one (sl 3 cs_Vector a0.Points)] [.one (sl 3 cs_Vector v1)]) ∧ T2 ((((Eqc (sl 3 cs_Vector a0.Before)) ∧ Tt) ∧ CallOK Try.prog 46 [.one (sl 3 cs_Vector a0.Before)] [.one (sl 3 cs_Vector v3)]) ∧ Tt ∧ Tt))) ∧ (Tt ∧ T2 Tt)) 7 [.no, .no, .call [.one (sl 3 cs_Vector a0.Points)] [.one (sl 3 cs_Vector v1)] [[.lst 3]], .no, .no, .call [.one (sl 3 cs_Vector a0.Before)] [.one (sl 3 cs_Vector v3)] [[.lst 4]]] [1, 2] [1, 2, 3, 4] ⟨⟨tr, tr, ⟨⟨rfl, tr⟩, ok_slices_Clone_impl_Vector_impl_Vector K a0.Points v1 e2⟩, tr, tr, ⟨⟨rfl, tr⟩, ok_slices_Clone_impl_Vector_impl_Vector K a0.Before v3 e4⟩, tr, tr⟩, ⟨tr, tr, tr, tr⟩⟩ ?_
  refine thenQ_normal ?_
  refine AW.seq ?_
  obtain ⟨v5, e6, h⟩ := bind_some h
  obtain ⟨v7, e8, h⟩ := bind_some h
  refine AW.dA ⟨[(1, (vp 1 0)), (2, (vp 2 0))], [(1, (.box [(.lst 3 v1.length 3 (gl cs_Vector v1)), (.lst 4 v3.length 3 (gl cs_Vector v3)), (.lst 5 v5.length 1 (gl csB v5)), (.lst 6 v7.length 1 (gl (csF .f32) v7)), (.c (.flt .f32 a0.Fall.X.bits)), (.c (.flt .f32 a0.Fall.Y.bits)), (.c (.flt .f32 a0.Fall.Z.bits)), (.c (.flt .f32 a0.Damp.bits)), (.c (.int .i64 a0.Passes))])), (2, (.box [.nils, .nils, .nils, .nils, (.c (.flt .f32 (default : F32).bits)), (.c (.flt .f32 (default : F32).bits)), (.c (.flt .f32 (default : F32).bits)), (.c (.flt .f32 (default : F32).bits)), (.c (.int .i64 (0 : Int)))])), (3, (.lst v1.length 3 (gl cs_Vector v1))), (4, (.lst v3.length 3 (gl cs_Vector v3))), (5, (.lst v5.length 1 (gl csB v5))), (6, (.lst v7.length 1 (gl (csF .f32) v7)))]⟩ ((T2 ((((Eqc (sl 1 csB a0.Fixed)) ∧ Tt) ∧ CallOK Try.prog 47 [.one (sl 1 csB a0.Fixed)] [.one (sl 1 csB v5)]) ∧ T2 ((((Eqc (sl 1 (csF .f32) a0.Lengths)) ∧ Tt) ∧ CallOK Try.prog 48 [.one (sl 1 (csF .f32) a0.Lengths)] [.one (sl 1 (csF .f32) v7)]) ∧ Tt ∧ Tt))) ∧ (Tt ∧ T2 Tt)) 7 [.no, .no, .call [.one (sl 1 csB a0.Fixed)] [.one (sl 1 csB v5)] [[.lst 5]], .no, .no, .call [.one (sl 1 (csF .f32) a0.Lengths)] [.one (sl 1 (csF .f32) v7)] [[.lst 6]]] [1, 2] [1, 2, 3, 4, 5, 6] ⟨⟨tr, tr, ⟨⟨rfl, tr⟩, ok_slices_Clone_bool_bool K a0.Fixed v5 e6⟩, tr, tr, ⟨⟨rfl, tr⟩, ok_slices_Clone_float32_float32 K a0.Lengths v7 e8⟩, tr, tr⟩, ⟨tr, tr, tr, tr⟩⟩ ?_
  refine thenQ_normal ?_
  refine AW.seq (AW.rA ⟨[(2, (vp 2 0))], [(2, (.box [(.lst 3 v1.length 3 (gl cs_Vector v1)), (.lst 4 v3.length 3 (gl cs_Vector v3)), (.lst 5 v5.length 1 (gl csB v5)), (.lst 6 v7.length 1 (gl (csF .f32) v7)), (.c (.flt .f32 a0.Fall.X.bits)), (.c (.flt .f32 a0.Fall.Y.bits)), (.c (.flt .f32 a0.Fall.Z.bits)), (.c (.flt .f32 a0.Damp.bits)), (.c (.int .i64 a0.Passes))])), (3, (.lst v1.length 3 (gl cs_Vector v1))), (4, (.lst v3.length 3 (gl cs_Vector v3))), (5, (.lst v5.length 1 (gl csB v5))), (6, (.lst v7.length 1 (gl (csF .f32) v7)))]⟩ (T2 Tt) [] [2] [2, 3, 4, 5, 6] ⟨tr, tr, tr⟩ (thenQ_normal ?_))
  refine AW.ret ?_
  replace h := some_eq h
  subst h
  exact ⟨.inr rfl, retOK_of [(.agg [(.lst 3 v1.length 3 (gl cs_Vector v1)), (.lst 4 v3.length 3 (gl cs_Vector v3)), (.lst 5 v5.length 1 (gl csB v5)), (.lst 6 v7.length 1 (gl (csF .f32) v7)), (.c (.flt .f32 a0.Fall.X.bits)), (.c (.flt .f32 a0.Fall.Y.bits)), (.c (.flt .f32 a0.Fall.Z.bits)), (.c (.flt .f32 a0.Damp.bits)), (.c (.int .i64 a0.Passes))])] (by kernel_rfl) ⟨⟨rfl, rfl, rfl, rfl, ⟨rfl, tr⟩, ⟨rfl, tr⟩, ⟨rfl, tr⟩, ⟨rfl, tr⟩, ⟨rfl, tr⟩, tr⟩, tr⟩ (of_decide_eq_true (by kernel_rfl))⟩

/-! impl.LessVectors -/
def impl_LessVectors (_K : Nat) (a0 : Vector) (a1 : Vector) : Option (Vector) :=
  some (Vector.mk (a0.X.sub a1.X) (a0.Y.sub a1.Y) (a0.Z.sub a1.Z))

theorem ok_impl_LessVectors (K : Nat) (a0 : Vector) (a1 : Vector) (o : (Vector)) (h : impl_LessVectors K a0 a1 = some o) : CallOK Try.prog 51 [.agg (cs_Vector a0), .agg (cs_Vector a1)] [.agg (cs_Vector o)] := by
  refine callOK_of_AW Try.func51 rfl (by kernel_rfl) (Nat.le_of_ble_eq_true (by kernel_rfl)) ?_
  intro w0
  unfold impl_LessVectors at h
  refine AW.seq (AW.rA ⟨[(2, (vp 1 0)), (3, (vp 2 0)), (4, (vp 3 0))], [(1, (.box [(.c (.flt .f32 a0.X.bits)), (.c (.flt .f32 a0.Y.bits)), (.c (.flt .f32 a0.Z.bits))])), (2, (.box [(.c (.flt .f32 a1.X.bits)), (.c (.flt .f32 a1.Y.bits)), (.c (.flt .f32 a1.Z.bits))])), (3, (.box [(.c (.flt .f32 (default : F32).bits)), (.c (.flt .f32 (default : F32).bits)), (.c (.flt .f32 (default : F32).bits))]))]⟩ (Tt ∧ T2 Tt) [.box 1, .box 2, .box 3] [2, 3, 4] [1, 2, 3] ⟨tr, tr, tr, tr⟩ (thenQ_normal ?_))
  refine AW.seq (AW.rA ⟨[(4, (vp 3 0))], [(3, (.box [(.c (.flt .f32 (a0.X.sub a1.X).bits)), (.c (.flt .f32 (a0.Y.sub a1.Y).bits)), (.c (.flt .f32 (a0.Z.sub a1.Z).bits))]))]⟩ (Tt ∧ T4 (T4 (T4 (T4 Tt)))) [] [4] [3] ⟨tr, tr, tr, tr, tr, tr, tr, tr, tr, tr, tr, tr, tr, tr, tr, tr, tr, tr⟩ (thenQ_normal ?_))
  refine AW.ret ?_
  replace h := some_eq h
  subst h
  exact ⟨.inr rfl, retOK_of [(.agg [(.c (.flt .f32 (a0.X.sub a1.X).bits)), (.c (.flt .f32 (a0.Y.sub a1.Y).bits)), (.c (.flt .f32 (a0.Z.sub a1.Z).bits))])] (by kernel_rfl) ⟨⟨⟨rfl, tr⟩, ⟨rfl, tr⟩, ⟨rfl, tr⟩, tr⟩, tr⟩ (of_decide_eq_true (by kernel_rfl))⟩

/-! impl.ScaleVector -/
def impl_ScaleVector (_K : Nat) (a0 : Vector) (a1 : F32) : Option (Vector) :=
  some (Vector.mk (a0.X.mul a1) (a0.Y.mul a1) (a0.Z.mul a1))

theorem ok_impl_ScaleVector (K : Nat) (a0 : Vector) (a1 : F32) (o : (Vector)) (h : impl_ScaleVector K a0 a1 = some o) : CallOK Try.prog 50 [.agg (cs_Vector a0), .one (.flt .f32 a1.bits)] [.agg (cs_Vector o)] := by
  refine callOK_of_AW Try.func50 rfl (by kernel_rfl) (Nat.le_of_ble_eq_true (by kernel_rfl)) ?_
  intro w0
  unfold impl_ScaleVector at h
  refine AW.seq (AW.rA ⟨[(1, (vc (.flt .f32 a1.bits))), (2, (vp 1 0)), (4, (vp 2 0))], [(1, (.box [(.c (.flt .f32 a0.X.bits)), (.c (.flt .f32 a0.Y.bits)), (.c (.flt .f32 a0.Z.bits))])), (2, (.box [(.c (.flt .f32 (default : F32).bits)), (.c (.flt .f32 (default : F32).bits)), (.c (.flt .f32 (default : F32).bits))]))]⟩ (T2 Tt) [.box 1, .box 2] [1, 2, 4] [1, 2] ⟨tr, tr, tr⟩ (thenQ_normal ?_))
  refine AW.seq (AW.rA ⟨[(4, (vp 2 0))], [(2, (.box [(.c (.flt .f32 (a0.X.mul a1).bits)), (.c (.flt .f32 (a0.Y.mul a1).bits)), (.c (.flt .f32 (a0.Z.mul a1).bits))]))]⟩ (T2 (T4 (T4 (T4 Tt)))) [] [4] [2] ⟨tr, tr, tr, tr, tr, tr, tr, tr, tr, tr, tr, tr, tr, tr, tr⟩ (thenQ_normal ?_))
  refine AW.ret ?_
  replace h := some_eq h
  subst h
  exact ⟨.inr rfl, retOK_of [(.agg [(.c (.flt .f32 (a0.X.mul a1).bits)), (.c (.flt .f32 (a0.Y.mul a1).bits)), (.c (.flt .f32 (a0.Z.mul a1).bits))])] (by kernel_rfl) ⟨⟨⟨rfl, tr⟩, ⟨rfl, tr⟩, ⟨rfl, tr⟩, tr⟩, tr⟩ (of_decide_eq_true (by kernel_rfl))⟩

/-! impl.AddVectors -/
def impl_AddVectors (_K : Nat) (a0 : Vector) (a1 : Vector) : Option (Vector) :=
  some (Vector.mk (a0.X.add a1.X) (a0.Y.add a1.Y) (a0.Z.add a1.Z))

theorem ok_impl_AddVectors (K : Nat) (a0 : Vector) (a1 : Vector) (o : (Vector)) (h : impl_AddVectors K a0 a1 = some o) : CallOK Try.prog 49 [.agg (cs_Vector a0), .agg (cs_Vector a1)] [.agg (cs_Vector o)] := by
  refine callOK_of_AW Try.func49 rfl (by kernel_rfl) (Nat.le_of_ble_eq_true (by kernel_rfl)) ?_
  intro w0
  unfold impl_AddVectors at h
  refine AW.seq (AW.rA ⟨[(2, (vp 1 0)), (3, (vp 2 0)), (4, (vp 3 0))], [(1, (.box [(.c (.flt .f32 a0.X.bits)), (.c (.flt .f32 a0.Y.bits)), (.c (.flt .f32 a0.Z.bits))])), (2, (.box [(.c (.flt .f32 a1.X.bits)), (.c (.flt .f32 a1.Y.bits)), (.c (.flt .f32 a1.Z.bits))])), (3, (.box [(.c (.flt .f32 (default : F32).bits)), (.c (.flt .f32 (default : F32).bits)), (.c (.flt .f32 (default : F32).bits))]))]⟩ (Tt ∧ T2 Tt) [.box 1, .box 2, .box 3] [2, 3, 4] [1, 2, 3] ⟨tr, tr, tr, tr⟩ (thenQ_normal ?_))
  refine AW.seq (AW.rA ⟨[(4, (vp 3 0))], [(3, (.box [(.c (.flt .f32 (a0.X.add a1.X).bits)), (.c (.flt .f32 (a0.Y.add a1.Y).bits)), (.c (.flt .f32 (a0.Z.add a1.Z).bits))]))]⟩ (Tt ∧ T4 (T4 (T4 (T4 Tt)))) [] [4] [3] ⟨tr, tr, tr, tr, tr, tr, tr, tr, tr, tr, tr, tr, tr, tr, tr, tr, tr, tr⟩ (thenQ_normal ?_))
  refine AW.ret ?_
  replace h := some_eq h
  subst h
  exact ⟨.inr rfl, retOK_of [(.agg [(.c (.flt .f32 (a0.X.add a1.X).bits)), (.c (.flt .f32 (a0.Y.add a1.Y).bits)), (.c (.flt .f32 (a0.Z.add a1.Z).bits))])] (by kernel_rfl) ⟨⟨⟨rfl, tr⟩, ⟨rfl, tr⟩, ⟨rfl, tr⟩, tr⟩, tr⟩ (of_decide_eq_true (by kernel_rfl))⟩

/-! impl.InnerOf -/
def impl_InnerOf (_K : Nat) (a0 : Vector) (a1 : Vector) : Option (F32) :=
  some (((a0.X.mul a1.X).add (a0.Y.mul a1.Y)).add (a0.Z.mul a1.Z))

theorem ok_impl_InnerOf (K : Nat) (a0 : Vector) (a1 : Vector) (o : (F32)) (h : impl_InnerOf K a0 a1 = some o) : CallOK Try.prog 60 [.agg (cs_Vector a0), .agg (cs_Vector a1)] [.one (.flt .f32 o.bits)] := by
  refine callOK_of_AW Try.func60 rfl (by kernel_rfl) (Nat.le_of_ble_eq_true (by kernel_rfl)) ?_
  intro w0
  unfold impl_InnerOf at h
  refine AW.seq (AW.rA ⟨[(2, (vp 1 0)), (3, (vp 2 0))], [(1, (.box [(.c (.flt .f32 a0.X.bits)), (.c (.flt .f32 a0.Y.bits)), (.c (.flt .f32 a0.Z.bits))])), (2, (.box [(.c (.flt .f32 a1.X.bits)), (.c (.flt .f32 a1.Y.bits)), (.c (.flt .f32 a1.Z.bits))]))]⟩ (Tt ∧ T2 Tt) [.box 1, .box 2] [2, 3] [1, 2] ⟨tr, tr, tr, tr⟩ (thenQ_normal ?_))
  refine AW.seq (AW.rA ⟨[(4, (vc (.flt .f32 (((a0.X.mul a1.X).add (a0.Y.mul a1.Y)).add (a0.Z.mul a1.Z)).bits)))], []⟩ (T2 (T4 (T4 (T4 (T4 Tt))))) [] [4] [] ⟨tr, tr, tr, tr, tr, tr, tr, tr, tr, tr, tr, tr, tr, tr, tr, tr, tr, tr, tr⟩ (thenQ_normal ?_))
  refine AW.ret ?_
  replace h := some_eq h
  subst h
  exact ⟨.inr rfl, retOK_of [(.one (.c (.flt .f32 (((a0.X.mul a1.X).add (a0.Y.mul a1.Y)).add (a0.Z.mul a1.Z)).bits)))] (by kernel_rfl) ⟨⟨rfl, tr⟩, tr⟩ (of_decide_eq_true (by kernel_rfl))⟩

/-! impl.RootNumber -/
def impl_RootNumber (K : Nat) (a0 : F32) : Option (F32) :=
  (math_Sqrt K (Fl.cv .f32 .f64 a0)).bind fun v1 => chk ((convBits .f64 v1.bits .f32).isSome = true) (some (Fl.cv .f64 .f32 v1))

theorem ok_impl_RootNumber (K : Nat) (a0 : F32) (o : (F32)) (h : impl_RootNumber K a0 = some o) : CallOK Try.prog 59 [.one (.flt .f32 a0.bits)] [.one (.flt .f32 o.bits)] := by
  refine callOK_of_AW Try.func59 rfl (by kernel_rfl) (Nat.le_of_ble_eq_true (by kernel_rfl)) ?_
  intro w0
  unfold impl_RootNumber at h
  refine AW.seq (AW.rA ⟨[(0, (vc (.flt .f32 a0.bits)))], []⟩ (Tt ∧ Tt) [] [0] [] ⟨tr, tr⟩ (thenQ_normal ?_))
  refine AW.seq ?_
  obtain ⟨v1, e2, h⟩ := bind_some h
  obtain ⟨c3, h⟩ := chk_some h
  refine AW.rA ⟨[(2, (vc (.flt .f32 (Fl.cv .f64 .f32 v1).bits)))], []⟩ (Tt ∧ ((convBits .f32 a0.bits .f64).isSome = true) ∧ (((Eqc (.flt .f64 (Fl.cv .f32 .f64 a0).bits)) ∧ Tt) ∧ CallOK Try.prog 58 [.one (.flt .f64 (Fl.cv .f32 .f64 a0).bits)] [.one (.flt .f64 v1.bits)]) ∧ ((convBits .f64 v1.bits .f32).isSome = true) ∧ Tt ∧ Tt) [.no, .no, .call [.one (.flt .f64 (Fl.cv .f32 .f64 a0).bits)] [.one (.flt .f64 v1.bits)] [[.view]]] [2] [] ⟨tr, cv_wide a0, ⟨⟨rfl, tr⟩, ok_math_Sqrt K (Fl.cv .f32 .f64 a0) v1 e2⟩, c3, tr, tr⟩ ?_
  refine thenQ_normal ?_
  refine AW.ret ?_
  replace h := some_eq h
  subst h
  exact ⟨.inr rfl, retOK_of [(.one (.c (.flt .f32 (Fl.cv .f64 .f32 v1).bits)))] (by kernel_rfl) ⟨⟨rfl, tr⟩, tr⟩ (of_decide_eq_true (by kernel_rfl))⟩

/-! impl.LongOf -/
def impl_LongOf (K : Nat) (a0 : Vector) : Option (F32) :=
  (impl_InnerOf K a0 a0).bind fun v1 => (impl_RootNumber K v1).bind fun v3 => some v3

theorem ok_impl_LongOf (K : Nat) (a0 : Vector) (o : (F32)) (h : impl_LongOf K a0 = some o) : CallOK Try.prog 55 [.agg (cs_Vector a0)] [.one (.flt .f32 o.bits)] := by
  refine callOK_of_AW Try.func55 rfl (by kernel_rfl) (Nat.le_of_ble_eq_true (by kernel_rfl)) ?_
  intro w0
  unfold impl_LongOf at h
  refine AW.seq (AW.rA ⟨[(1, (vp 1 0))], [(1, (.box [(.c (.flt .f32 a0.X.bits)), (.c (.flt .f32 a0.Y.bits)), (.c (.flt .f32 a0.Z.bits))]))]⟩ (T2 Tt) [.box 1] [1] [1] ⟨tr, tr, tr⟩ (thenQ_normal ?_))
  refine AW.seq ?_
  obtain ⟨v1, e2, h⟩ := bind_some h
  obtain ⟨v3, e4, h⟩ := bind_some h
  refine AW.rA ⟨[(2, (vc (.flt .f32 v3.bits)))], []⟩ (T2 (((((Eqc (.flt .f32 a0.X.bits)) ∧ (Eqc (.flt .f32 a0.Y.bits)) ∧ (Eqc (.flt .f32 a0.Z.bits)) ∧ Tt) ∧ ((Eqc (.flt .f32 a0.X.bits)) ∧ (Eqc (.flt .f32 a0.Y.bits)) ∧ (Eqc (.flt .f32 a0.Z.bits)) ∧ Tt) ∧ Tt) ∧ CallOK Try.prog 60 [.agg (cs_Vector a0), .agg (cs_Vector a0)] [.one (.flt .f32 v1.bits)]) ∧ (((Eqc (.flt .f32 v1.bits)) ∧ Tt) ∧ CallOK Try.prog 59 [.one (.flt .f32 v1.bits)] [.one (.flt .f32 v3.bits)]) ∧ Tt ∧ Tt)) [.no, .no, .call [.agg (cs_Vector a0), .agg (cs_Vector a0)] [.one (.flt .f32 v1.bits)] [[.view]], .call [.one (.flt .f32 v1.bits)] [.one (.flt .f32 v3.bits)] [[.view]]] [2] [] ⟨tr, tr, ⟨⟨⟨rfl, rfl, rfl, tr⟩, ⟨rfl, rfl, rfl, tr⟩, tr⟩, ok_impl_InnerOf K a0 a0 v1 e2⟩, ⟨⟨rfl, tr⟩, ok_impl_RootNumber K v1 v3 e4⟩, tr, tr⟩ ?_
  refine thenQ_normal ?_
  refine AW.ret ?_
  replace h := some_eq h
  subst h
  exact ⟨.inr rfl, retOK_of [(.one (.c (.flt .f32 v3.bits)))] (by kernel_rfl) ⟨⟨rfl, tr⟩, tr⟩ (of_decide_eq_true (by kernel_rfl))⟩

/-! impl.IsFinite -/
def impl_IsFinite (_K : Nat) (a0 : F32) : Option (Bool) :=
  some ((a0.sub a0).eq (Fl.mk (k := .f32) 0 (by decide)))

theorem ok_impl_IsFinite (K : Nat) (a0 : F32) (o : (Bool)) (h : impl_IsFinite K a0 = some o) : CallOK Try.prog 61 [.one (.flt .f32 a0.bits)] [.one (.bool o)] := by
  refine callOK_of_AW Try.func61 rfl (by kernel_rfl) (Nat.le_of_ble_eq_true (by kernel_rfl)) ?_
  intro w0
  unfold impl_IsFinite at h
  refine AW.seq (AW.rA ⟨[(0, (vc (.flt .f32 a0.bits)))], []⟩ (Tt ∧ Tt) [] [0] [] ⟨tr, tr⟩ (thenQ_normal ?_))
  refine AW.seq (AW.rA ⟨[(2, (vc (.bool ((a0.sub a0).eq (Fl.mk (k := .f32) 0 (by decide))))))], []⟩ (Tt ∧ T4 Tt) [] [2] [] ⟨tr, tr, tr, tr, tr, tr⟩ (thenQ_normal ?_))
  refine AW.ret ?_
  replace h := some_eq h
  subst h
  exact ⟨.inr rfl, retOK_of [(.one (.c (.bool ((a0.sub a0).eq (Fl.mk (k := .f32) 0 (by decide))))))] (by kernel_rfl) ⟨⟨rfl, tr⟩, tr⟩ (of_decide_eq_true (by kernel_rfl))⟩

/-! impl.isLength -/
def impl_isLength (K : Nat) (a0 : F32) : Option (Bool) :=
  (impl_IsFinite K a0).bind fun v1 => (ite2 (v1) (some (a0.ne (Fl.mk (k := .f32) 0 (by decide)))) (some false)).bind fun j4 => some j4

theorem ok_impl_isLength (K : Nat) (a0 : F32) (o : (Bool)) (h : impl_isLength K a0 = some o) : CallOK Try.prog 56 [.one (.flt .f32 a0.bits)] [.one (.bool o)] := by
  refine callOK_of_AW Try.func56 rfl (by kernel_rfl) (Nat.le_of_ble_eq_true (by kernel_rfl)) ?_
  intro w0
  unfold impl_isLength at h
  refine AW.seq (AW.rA ⟨[(0, (vc (.flt .f32 a0.bits)))], []⟩ (Tt ∧ Tt) [] [0] [] ⟨tr, tr⟩ (thenQ_normal ?_))
  refine AW.seq ?_
  obtain ⟨v1, e2, h⟩ := bind_some h
  obtain ⟨j4, e5, h⟩ := bind_some h
  refine AW.join1 (s2 := ⟨[(2, (vc (.bool j4)))], []⟩) ?_ ?_
  · rcases ite2_cases e5 with ⟨b3, e5⟩ | ⟨b3, e5⟩
    · replace e5 := some_eq e5
      subst e5
      exact AW.rA ⟨[(2, (vc (.bool (a0.ne (Fl.mk (k := .f32) 0 (by decide))))))], []⟩ (Tt ∧ (((Eqc (.flt .f32 a0.bits)) ∧ Tt) ∧ CallOK Try.prog 61 [.one (.flt .f32 a0.bits)] [.one (.bool v1)]) ∧ (Tt ∧ v1 = true) ∧ T4 Tt) [.no, .call [.one (.flt .f32 a0.bits)] [.one (.bool v1)] [[.view]], .dec true] [2] [] ⟨tr, ⟨⟨rfl, tr⟩, ok_impl_IsFinite K a0 v1 e2⟩, ⟨tr, b3⟩, tr, tr, tr, tr, tr⟩ ⟨rfl, rfl⟩
    · replace e5 := some_eq e5
      subst e5
      exact AW.rA ⟨[(2, (vc (.bool false)))], []⟩ (Tt ∧ (((Eqc (.flt .f32 a0.bits)) ∧ Tt) ∧ CallOK Try.prog 61 [.one (.flt .f32 a0.bits)] [.one (.bool v1)]) ∧ (Tt ∧ v1 = false) ∧ T4 Tt) [.no, .call [.one (.flt .f32 a0.bits)] [.one (.bool v1)] [[.view]], .dec false] [2] [] ⟨tr, ⟨⟨rfl, tr⟩, ok_impl_IsFinite K a0 v1 e2⟩, ⟨tr, b3⟩, tr, tr, tr, tr, tr⟩ ⟨rfl, rfl⟩
  refine thenQ_normal ?_
  refine AW.ret ?_
  replace h := some_eq h
  subst h
  exact ⟨.inr rfl, retOK_of [(.one (.c (.bool j4)))] (by kernel_rfl) ⟨⟨rfl, tr⟩, tr⟩ (of_decide_eq_true (by kernel_rfl))⟩

end
end Go.Fw
