/- Functions of the program: what each computes, and that it computes just that. -/
import Derived.Test.YtibekmjdkfakgaaFwTy
import Derived.Test.YtibekmjdkfakgaaFwH
import Derived.Test.YtibekmjdkfakgaaFwV
import Derived.Test.YtibekmjdkfakgaaProg
import Derived.KernelRfl
namespace Go.Fw
open Go Go.Proofs
noncomputable section
set_option maxRecDepth 10000

/-! laws.szVectorS -/
def laws_szVectorS (_K : Nat) (a0 : (List Vector)) (a1 : Int) : Option (Int) :=
  ite2 ((decide ((IntKind.i64.wrap (a1 - (a0.length : Int))) < (0 : Int)))) (some ((-1) : Int)) (some (IntKind.i64.wrap (a1 - (a0.length : Int))))

theorem ok_laws_szVectorS (K : Nat) (a0 : (List Vector)) (a1 : Int) (o : (Int)) (h : laws_szVectorS K a0 a1 = some o) : CallOK Try.prog 92 [.one (sl 3 cs_Vector a0), .one (.int .i64 a1)] [.one (.int .i64 o)] := by
  refine callOK_of_AW Try.func92 rfl (by kernel_rfl) (Nat.le_of_ble_eq_true (by kernel_rfl)) ?_
  intro w0
  unfold laws_szVectorS at h
  refine AW.seq ?_
  refine AW.regionA [] [0, 1] [] (s' := ⟨[(0, (.v (.one (.c (sl 3 cs_Vector a0))))), (1, (.v (.one (.c (.int .i64 a1)))))], []⟩) (ob := True ∧ True) (by kernel_rfl) ⟨trivial, trivial⟩ ?_
  refine thenQ_normal ?_
  refine AW.seq ?_
  refine AW.regionA [] [1] [] (s' := ⟨[(1, (.v (.one (.c (.int .i64 (IntKind.i64.wrap (a1 - (a0.length : Int))))))))], []⟩) (ob := True ∧ True ∧ True ∧ True ∧ True ∧ True) (by kernel_rfl) ⟨trivial, trivial, trivial, trivial, trivial, trivial⟩ ?_
  refine thenQ_normal ?_
  refine AW.seq ?_
  refine AW.seq ?_
  refine AW.regionA [] [1, 10] [] (s' := ⟨[(1, (.v (.one (.c (.int .i64 (IntKind.i64.wrap (a1 - (a0.length : Int)))))))), (10, (.v (.one (.c (.bool (decide ((IntKind.i64.wrap (a1 - (a0.length : Int))) < (0 : Int))))))))], []⟩) (ob := True ∧ True ∧ True) (by kernel_rfl) ⟨trivial, trivial, trivial⟩ ?_
  refine thenQ_normal ?_
  rcases ite2_cases h with ⟨b1, h⟩ | ⟨b1, h⟩
  · refine AW.cond_t rfl b1 ?_
    refine AW.seq ?_
    refine AW.regionA [] [4] [] (s' := ⟨[(4, (.v (.one (.c (.int .i64 ((-1) : Int))))))], []⟩) (ob := True ∧ True) (by kernel_rfl) ⟨trivial, trivial⟩ ?_
    refine thenQ_normal ?_
    refine AW.ret ?_
    refine thenQ_ret ?_
    replace h := some_eq h
    subst h
    exact ⟨.inr rfl, retOK_of [(.one (.c (.int .i64 ((-1) : Int))))] (by kernel_rfl) ⟨⟨rfl, trivial⟩, trivial⟩ (of_decide_eq_true (by kernel_rfl))⟩
  · refine AW.cond_f rfl b1 ?_
    refine AW.skip ?_
    refine thenQ_normal ?_
    refine AW.seq ?_
    refine AW.regionA [] [4] [] (s' := ⟨[(4, (.v (.one (.c (.int .i64 (IntKind.i64.wrap (a1 - (a0.length : Int))))))))], []⟩) (ob := True ∧ True ∧ True) (by kernel_rfl) ⟨trivial, trivial, trivial⟩ ?_
    refine thenQ_normal ?_
    refine AW.ret ?_
    replace h := some_eq h
    subst h
    exact ⟨.inr rfl, retOK_of [(.one (.c (.int .i64 (IntKind.i64.wrap (a1 - (a0.length : Int))))))] (by kernel_rfl) ⟨⟨rfl, trivial⟩, trivial⟩ (of_decide_eq_true (by kernel_rfl))⟩

/-! laws.szBoolS -/
def laws_szBoolS (_K : Nat) (a0 : (List Bool)) (a1 : Int) : Option (Int) :=
  ite2 ((decide ((IntKind.i64.wrap (a1 - (a0.length : Int))) < (0 : Int)))) (some ((-1) : Int)) (some (IntKind.i64.wrap (a1 - (a0.length : Int))))

theorem ok_laws_szBoolS (K : Nat) (a0 : (List Bool)) (a1 : Int) (o : (Int)) (h : laws_szBoolS K a0 a1 = some o) : CallOK Try.prog 93 [.one (sl 1 csB a0), .one (.int .i64 a1)] [.one (.int .i64 o)] := by
  refine callOK_of_AW Try.func93 rfl (by kernel_rfl) (Nat.le_of_ble_eq_true (by kernel_rfl)) ?_
  intro w0
  unfold laws_szBoolS at h
  refine AW.seq ?_
  refine AW.regionA [] [0, 1] [] (s' := ⟨[(0, (.v (.one (.c (sl 1 csB a0))))), (1, (.v (.one (.c (.int .i64 a1)))))], []⟩) (ob := True ∧ True) (by kernel_rfl) ⟨trivial, trivial⟩ ?_
  refine thenQ_normal ?_
  refine AW.seq ?_
  refine AW.regionA [] [1] [] (s' := ⟨[(1, (.v (.one (.c (.int .i64 (IntKind.i64.wrap (a1 - (a0.length : Int))))))))], []⟩) (ob := True ∧ True ∧ True ∧ True ∧ True ∧ True) (by kernel_rfl) ⟨trivial, trivial, trivial, trivial, trivial, trivial⟩ ?_
  refine thenQ_normal ?_
  refine AW.seq ?_
  refine AW.seq ?_
  refine AW.regionA [] [1, 10] [] (s' := ⟨[(1, (.v (.one (.c (.int .i64 (IntKind.i64.wrap (a1 - (a0.length : Int)))))))), (10, (.v (.one (.c (.bool (decide ((IntKind.i64.wrap (a1 - (a0.length : Int))) < (0 : Int))))))))], []⟩) (ob := True ∧ True ∧ True) (by kernel_rfl) ⟨trivial, trivial, trivial⟩ ?_
  refine thenQ_normal ?_
  rcases ite2_cases h with ⟨b1, h⟩ | ⟨b1, h⟩
  · refine AW.cond_t rfl b1 ?_
    refine AW.seq ?_
    refine AW.regionA [] [4] [] (s' := ⟨[(4, (.v (.one (.c (.int .i64 ((-1) : Int))))))], []⟩) (ob := True ∧ True) (by kernel_rfl) ⟨trivial, trivial⟩ ?_
    refine thenQ_normal ?_
    refine AW.ret ?_
    refine thenQ_ret ?_
    replace h := some_eq h
    subst h
    exact ⟨.inr rfl, retOK_of [(.one (.c (.int .i64 ((-1) : Int))))] (by kernel_rfl) ⟨⟨rfl, trivial⟩, trivial⟩ (of_decide_eq_true (by kernel_rfl))⟩
  · refine AW.cond_f rfl b1 ?_
    refine AW.skip ?_
    refine thenQ_normal ?_
    refine AW.seq ?_
    refine AW.regionA [] [4] [] (s' := ⟨[(4, (.v (.one (.c (.int .i64 (IntKind.i64.wrap (a1 - (a0.length : Int))))))))], []⟩) (ob := True ∧ True ∧ True) (by kernel_rfl) ⟨trivial, trivial, trivial⟩ ?_
    refine thenQ_normal ?_
    refine AW.ret ?_
    replace h := some_eq h
    subst h
    exact ⟨.inr rfl, retOK_of [(.one (.c (.int .i64 (IntKind.i64.wrap (a1 - (a0.length : Int))))))] (by kernel_rfl) ⟨⟨rfl, trivial⟩, trivial⟩ (of_decide_eq_true (by kernel_rfl))⟩

/-! laws.szFloat32S -/
def laws_szFloat32S (_K : Nat) (a0 : (List F32)) (a1 : Int) : Option (Int) :=
  ite2 ((decide ((IntKind.i64.wrap (a1 - (a0.length : Int))) < (0 : Int)))) (some ((-1) : Int)) (some (IntKind.i64.wrap (a1 - (a0.length : Int))))

theorem ok_laws_szFloat32S (K : Nat) (a0 : (List F32)) (a1 : Int) (o : (Int)) (h : laws_szFloat32S K a0 a1 = some o) : CallOK Try.prog 94 [.one (sl 1 (csF .f32) a0), .one (.int .i64 a1)] [.one (.int .i64 o)] := by
  refine callOK_of_AW Try.func94 rfl (by kernel_rfl) (Nat.le_of_ble_eq_true (by kernel_rfl)) ?_
  intro w0
  unfold laws_szFloat32S at h
  refine AW.seq ?_
  refine AW.regionA [] [0, 1] [] (s' := ⟨[(0, (.v (.one (.c (sl 1 (csF .f32) a0))))), (1, (.v (.one (.c (.int .i64 a1)))))], []⟩) (ob := True ∧ True) (by kernel_rfl) ⟨trivial, trivial⟩ ?_
  refine thenQ_normal ?_
  refine AW.seq ?_
  refine AW.regionA [] [1] [] (s' := ⟨[(1, (.v (.one (.c (.int .i64 (IntKind.i64.wrap (a1 - (a0.length : Int))))))))], []⟩) (ob := True ∧ True ∧ True ∧ True ∧ True ∧ True) (by kernel_rfl) ⟨trivial, trivial, trivial, trivial, trivial, trivial⟩ ?_
  refine thenQ_normal ?_
  refine AW.seq ?_
  refine AW.seq ?_
  refine AW.regionA [] [1, 10] [] (s' := ⟨[(1, (.v (.one (.c (.int .i64 (IntKind.i64.wrap (a1 - (a0.length : Int)))))))), (10, (.v (.one (.c (.bool (decide ((IntKind.i64.wrap (a1 - (a0.length : Int))) < (0 : Int))))))))], []⟩) (ob := True ∧ True ∧ True) (by kernel_rfl) ⟨trivial, trivial, trivial⟩ ?_
  refine thenQ_normal ?_
  rcases ite2_cases h with ⟨b1, h⟩ | ⟨b1, h⟩
  · refine AW.cond_t rfl b1 ?_
    refine AW.seq ?_
    refine AW.regionA [] [4] [] (s' := ⟨[(4, (.v (.one (.c (.int .i64 ((-1) : Int))))))], []⟩) (ob := True ∧ True) (by kernel_rfl) ⟨trivial, trivial⟩ ?_
    refine thenQ_normal ?_
    refine AW.ret ?_
    refine thenQ_ret ?_
    replace h := some_eq h
    subst h
    exact ⟨.inr rfl, retOK_of [(.one (.c (.int .i64 ((-1) : Int))))] (by kernel_rfl) ⟨⟨rfl, trivial⟩, trivial⟩ (of_decide_eq_true (by kernel_rfl))⟩
  · refine AW.cond_f rfl b1 ?_
    refine AW.skip ?_
    refine thenQ_normal ?_
    refine AW.seq ?_
    refine AW.regionA [] [4] [] (s' := ⟨[(4, (.v (.one (.c (.int .i64 (IntKind.i64.wrap (a1 - (a0.length : Int))))))))], []⟩) (ob := True ∧ True ∧ True) (by kernel_rfl) ⟨trivial, trivial, trivial⟩ ?_
    refine thenQ_normal ?_
    refine AW.ret ?_
    replace h := some_eq h
    subst h
    exact ⟨.inr rfl, retOK_of [(.one (.c (.int .i64 (IntKind.i64.wrap (a1 - (a0.length : Int))))))] (by kernel_rfl) ⟨⟨rfl, trivial⟩, trivial⟩ (of_decide_eq_true (by kernel_rfl))⟩

/-! laws.szString -/
def laws_szString (K : Nat) (a0 : String) (a1 : Int) : Option (Int) :=
  (laws_szVectorS K a0.Points a1).bind fun v1 => ite2 ((decide (v1 < (0 : Int)))) (some ((-1) : Int)) ((laws_szVectorS K a0.Before v1).bind fun v4 => ite2 ((decide (v4 < (0 : Int)))) (some ((-1) : Int)) ((laws_szBoolS K a0.Fixed v4).bind fun v7 => ite2 ((decide (v7 < (0 : Int)))) (some ((-1) : Int)) ((laws_szFloat32S K a0.Lengths v7).bind fun v10 => ite2 ((decide (v10 < (0 : Int)))) (some ((-1) : Int)) (some v10))))

theorem ok_laws_szString (K : Nat) (a0 : String) (a1 : Int) (o : (Int)) (h : laws_szString K a0 a1 = some o) : CallOK Try.prog 15 [.agg (cs_String a0), .one (.int .i64 a1)] [.one (.int .i64 o)] := by
  refine callOK_of_AW Try.func15 rfl (by kernel_rfl) (Nat.le_of_ble_eq_true (by kernel_rfl)) ?_
  intro w0
  unfold laws_szString at h
  refine AW.seq ?_
  refine AW.regionA [.box 1] [1, 2] [1] (s' := ⟨[(1, (.v (.one (.c (.int .i64 a1))))), (2, (.v (.one (.ptr 1 0))))], [(1, (.box [(.c (sl 3 cs_Vector a0.Points)), (.c (sl 3 cs_Vector a0.Before)), (.c (sl 1 csB a0.Fixed)), (.c (sl 1 (csF .f32) a0.Lengths)), (.c (.flt .f32 a0.Fall.X.bits)), (.c (.flt .f32 a0.Fall.Y.bits)), (.c (.flt .f32 a0.Fall.Z.bits)), (.c (.flt .f32 a0.Damp.bits)), (.c (.int .i64 a0.Passes))]))]⟩) (ob := True ∧ True ∧ True) (by kernel_rfl) ⟨trivial, trivial, trivial⟩ ?_
  refine thenQ_normal ?_
  refine AW.seq ?_
  obtain ⟨v1, e2, h⟩ := bind_some h
  refine AW.regionA [.no, .no, .no, .call [.one (sl 3 cs_Vector a0.Points), .one (.int .i64 a1)] [.one (.int .i64 v1)] [[.view]]] [1, 2] [1] (s' := ⟨[(1, (.v (.one (.c (.int .i64 v1))))), (2, (.v (.one (.ptr 1 0))))], [(1, (.box [(.c (sl 3 cs_Vector a0.Points)), (.c (sl 3 cs_Vector a0.Before)), (.c (sl 1 csB a0.Fixed)), (.c (sl 1 (csF .f32) a0.Lengths)), (.c (.flt .f32 a0.Fall.X.bits)), (.c (.flt .f32 a0.Fall.Y.bits)), (.c (.flt .f32 a0.Fall.Z.bits)), (.c (.flt .f32 a0.Damp.bits)), (.c (.int .i64 a0.Passes))]))]⟩) (ob := True ∧ True ∧ True ∧ (((((sl 3 cs_Vector a0.Points) : C) = (sl 3 cs_Vector a0.Points)) ∧ (((.int .i64 a1) : C) = (.int .i64 a1)) ∧ True) ∧ CallOK Try.prog 92 [.one (sl 3 cs_Vector a0.Points), .one (.int .i64 a1)] [.one (.int .i64 v1)]) ∧ True ∧ True) (by kernel_rfl) ⟨trivial, trivial, trivial, ⟨⟨rfl, rfl, trivial⟩, ok_laws_szVectorS K a0.Points a1 v1 e2⟩, trivial, trivial⟩ ?_
  refine thenQ_normal ?_
  refine AW.seq ?_
  refine AW.seq ?_
  refine AW.regionA [] [1, 2, 10] [1] (s' := ⟨[(1, (.v (.one (.c (.int .i64 v1))))), (2, (.v (.one (.ptr 1 0)))), (10, (.v (.one (.c (.bool (decide (v1 < (0 : Int))))))))], [(1, (.box [(.c (sl 3 cs_Vector a0.Points)), (.c (sl 3 cs_Vector a0.Before)), (.c (sl 1 csB a0.Fixed)), (.c (sl 1 (csF .f32) a0.Lengths)), (.c (.flt .f32 a0.Fall.X.bits)), (.c (.flt .f32 a0.Fall.Y.bits)), (.c (.flt .f32 a0.Fall.Z.bits)), (.c (.flt .f32 a0.Damp.bits)), (.c (.int .i64 a0.Passes))]))]⟩) (ob := True ∧ True ∧ True) (by kernel_rfl) ⟨trivial, trivial, trivial⟩ ?_
  refine thenQ_normal ?_
  rcases ite2_cases h with ⟨b3, h⟩ | ⟨b3, h⟩
  · refine AW.cond_t rfl b3 ?_
    refine AW.seq ?_
    refine AW.regionA [] [4] [] (s' := ⟨[(4, (.v (.one (.c (.int .i64 ((-1) : Int))))))], []⟩) (ob := True ∧ True) (by kernel_rfl) ⟨trivial, trivial⟩ ?_
    refine thenQ_normal ?_
    refine AW.ret ?_
    refine thenQ_ret ?_
    replace h := some_eq h
    subst h
    exact ⟨.inr rfl, retOK_of [(.one (.c (.int .i64 ((-1) : Int))))] (by kernel_rfl) ⟨⟨rfl, trivial⟩, trivial⟩ (of_decide_eq_true (by kernel_rfl))⟩
  · refine AW.cond_f rfl b3 ?_
    refine AW.skip ?_
    refine thenQ_normal ?_
    refine AW.seq ?_
    obtain ⟨v4, e5, h⟩ := bind_some h
    refine AW.regionA [.no, .no, .no, .call [.one (sl 3 cs_Vector a0.Before), .one (.int .i64 v1)] [.one (.int .i64 v4)] [[.view]]] [1, 2] [1] (s' := ⟨[(1, (.v (.one (.c (.int .i64 v4))))), (2, (.v (.one (.ptr 1 0))))], [(1, (.box [(.c (sl 3 cs_Vector a0.Points)), (.c (sl 3 cs_Vector a0.Before)), (.c (sl 1 csB a0.Fixed)), (.c (sl 1 (csF .f32) a0.Lengths)), (.c (.flt .f32 a0.Fall.X.bits)), (.c (.flt .f32 a0.Fall.Y.bits)), (.c (.flt .f32 a0.Fall.Z.bits)), (.c (.flt .f32 a0.Damp.bits)), (.c (.int .i64 a0.Passes))]))]⟩) (ob := True ∧ True ∧ True ∧ (((((sl 3 cs_Vector a0.Before) : C) = (sl 3 cs_Vector a0.Before)) ∧ (((.int .i64 v1) : C) = (.int .i64 v1)) ∧ True) ∧ CallOK Try.prog 92 [.one (sl 3 cs_Vector a0.Before), .one (.int .i64 v1)] [.one (.int .i64 v4)]) ∧ True ∧ True) (by kernel_rfl) ⟨trivial, trivial, trivial, ⟨⟨rfl, rfl, trivial⟩, ok_laws_szVectorS K a0.Before v1 v4 e5⟩, trivial, trivial⟩ ?_
    refine thenQ_normal ?_
    refine AW.seq ?_
    refine AW.seq ?_
    refine AW.regionA [] [1, 2, 16] [1] (s' := ⟨[(1, (.v (.one (.c (.int .i64 v4))))), (2, (.v (.one (.ptr 1 0)))), (16, (.v (.one (.c (.bool (decide (v4 < (0 : Int))))))))], [(1, (.box [(.c (sl 3 cs_Vector a0.Points)), (.c (sl 3 cs_Vector a0.Before)), (.c (sl 1 csB a0.Fixed)), (.c (sl 1 (csF .f32) a0.Lengths)), (.c (.flt .f32 a0.Fall.X.bits)), (.c (.flt .f32 a0.Fall.Y.bits)), (.c (.flt .f32 a0.Fall.Z.bits)), (.c (.flt .f32 a0.Damp.bits)), (.c (.int .i64 a0.Passes))]))]⟩) (ob := True ∧ True ∧ True) (by kernel_rfl) ⟨trivial, trivial, trivial⟩ ?_
    refine thenQ_normal ?_
    rcases ite2_cases h with ⟨b6, h⟩ | ⟨b6, h⟩
    · refine AW.cond_t rfl b6 ?_
      refine AW.seq ?_
      refine AW.regionA [] [4] [] (s' := ⟨[(4, (.v (.one (.c (.int .i64 ((-1) : Int))))))], []⟩) (ob := True ∧ True) (by kernel_rfl) ⟨trivial, trivial⟩ ?_
      refine thenQ_normal ?_
      refine AW.ret ?_
      refine thenQ_ret ?_
      replace h := some_eq h
      subst h
      exact ⟨.inr rfl, retOK_of [(.one (.c (.int .i64 ((-1) : Int))))] (by kernel_rfl) ⟨⟨rfl, trivial⟩, trivial⟩ (of_decide_eq_true (by kernel_rfl))⟩
    · refine AW.cond_f rfl b6 ?_
      refine AW.skip ?_
      refine thenQ_normal ?_
      refine AW.seq ?_
      obtain ⟨v7, e8, h⟩ := bind_some h
      refine AW.regionA [.no, .no, .no, .call [.one (sl 1 csB a0.Fixed), .one (.int .i64 v4)] [.one (.int .i64 v7)] [[.view]]] [1, 2] [1] (s' := ⟨[(1, (.v (.one (.c (.int .i64 v7))))), (2, (.v (.one (.ptr 1 0))))], [(1, (.box [(.c (sl 3 cs_Vector a0.Points)), (.c (sl 3 cs_Vector a0.Before)), (.c (sl 1 csB a0.Fixed)), (.c (sl 1 (csF .f32) a0.Lengths)), (.c (.flt .f32 a0.Fall.X.bits)), (.c (.flt .f32 a0.Fall.Y.bits)), (.c (.flt .f32 a0.Fall.Z.bits)), (.c (.flt .f32 a0.Damp.bits)), (.c (.int .i64 a0.Passes))]))]⟩) (ob := True ∧ True ∧ True ∧ (((((sl 1 csB a0.Fixed) : C) = (sl 1 csB a0.Fixed)) ∧ (((.int .i64 v4) : C) = (.int .i64 v4)) ∧ True) ∧ CallOK Try.prog 93 [.one (sl 1 csB a0.Fixed), .one (.int .i64 v4)] [.one (.int .i64 v7)]) ∧ True ∧ True) (by kernel_rfl) ⟨trivial, trivial, trivial, ⟨⟨rfl, rfl, trivial⟩, ok_laws_szBoolS K a0.Fixed v4 v7 e8⟩, trivial, trivial⟩ ?_
      refine thenQ_normal ?_
      refine AW.seq ?_
      refine AW.seq ?_
      refine AW.regionA [] [1, 2, 22] [1] (s' := ⟨[(1, (.v (.one (.c (.int .i64 v7))))), (2, (.v (.one (.ptr 1 0)))), (22, (.v (.one (.c (.bool (decide (v7 < (0 : Int))))))))], [(1, (.box [(.c (sl 3 cs_Vector a0.Points)), (.c (sl 3 cs_Vector a0.Before)), (.c (sl 1 csB a0.Fixed)), (.c (sl 1 (csF .f32) a0.Lengths)), (.c (.flt .f32 a0.Fall.X.bits)), (.c (.flt .f32 a0.Fall.Y.bits)), (.c (.flt .f32 a0.Fall.Z.bits)), (.c (.flt .f32 a0.Damp.bits)), (.c (.int .i64 a0.Passes))]))]⟩) (ob := True ∧ True ∧ True) (by kernel_rfl) ⟨trivial, trivial, trivial⟩ ?_
      refine thenQ_normal ?_
      rcases ite2_cases h with ⟨b9, h⟩ | ⟨b9, h⟩
      · refine AW.cond_t rfl b9 ?_
        refine AW.seq ?_
        refine AW.regionA [] [4] [] (s' := ⟨[(4, (.v (.one (.c (.int .i64 ((-1) : Int))))))], []⟩) (ob := True ∧ True) (by kernel_rfl) ⟨trivial, trivial⟩ ?_
        refine thenQ_normal ?_
        refine AW.ret ?_
        refine thenQ_ret ?_
        replace h := some_eq h
        subst h
        exact ⟨.inr rfl, retOK_of [(.one (.c (.int .i64 ((-1) : Int))))] (by kernel_rfl) ⟨⟨rfl, trivial⟩, trivial⟩ (of_decide_eq_true (by kernel_rfl))⟩
      · refine AW.cond_f rfl b9 ?_
        refine AW.skip ?_
        refine thenQ_normal ?_
        refine AW.seq ?_
        obtain ⟨v10, e11, h⟩ := bind_some h
        refine AW.regionA [.no, .no, .no, .call [.one (sl 1 (csF .f32) a0.Lengths), .one (.int .i64 v7)] [.one (.int .i64 v10)] [[.view]]] [1] [] (s' := ⟨[(1, (.v (.one (.c (.int .i64 v10)))))], []⟩) (ob := True ∧ True ∧ True ∧ (((((sl 1 (csF .f32) a0.Lengths) : C) = (sl 1 (csF .f32) a0.Lengths)) ∧ (((.int .i64 v7) : C) = (.int .i64 v7)) ∧ True) ∧ CallOK Try.prog 94 [.one (sl 1 (csF .f32) a0.Lengths), .one (.int .i64 v7)] [.one (.int .i64 v10)]) ∧ True ∧ True) (by kernel_rfl) ⟨trivial, trivial, trivial, ⟨⟨rfl, rfl, trivial⟩, ok_laws_szFloat32S K a0.Lengths v7 v10 e11⟩, trivial, trivial⟩ ?_
        refine thenQ_normal ?_
        refine AW.seq ?_
        refine AW.seq ?_
        refine AW.regionA [] [1, 28] [] (s' := ⟨[(1, (.v (.one (.c (.int .i64 v10))))), (28, (.v (.one (.c (.bool (decide (v10 < (0 : Int))))))))], []⟩) (ob := True ∧ True ∧ True) (by kernel_rfl) ⟨trivial, trivial, trivial⟩ ?_
        refine thenQ_normal ?_
        rcases ite2_cases h with ⟨b12, h⟩ | ⟨b12, h⟩
        · refine AW.cond_t rfl b12 ?_
          refine AW.seq ?_
          refine AW.regionA [] [4] [] (s' := ⟨[(4, (.v (.one (.c (.int .i64 ((-1) : Int))))))], []⟩) (ob := True ∧ True) (by kernel_rfl) ⟨trivial, trivial⟩ ?_
          refine thenQ_normal ?_
          refine AW.ret ?_
          refine thenQ_ret ?_
          replace h := some_eq h
          subst h
          exact ⟨.inr rfl, retOK_of [(.one (.c (.int .i64 ((-1) : Int))))] (by kernel_rfl) ⟨⟨rfl, trivial⟩, trivial⟩ (of_decide_eq_true (by kernel_rfl))⟩
        · refine AW.cond_f rfl b12 ?_
          refine AW.skip ?_
          refine thenQ_normal ?_
          refine AW.seq ?_
          refine AW.regionA [] [4] [] (s' := ⟨[(4, (.v (.one (.c (.int .i64 v10)))))], []⟩) (ob := True ∧ True ∧ True) (by kernel_rfl) ⟨trivial, trivial, trivial⟩ ?_
          refine thenQ_normal ?_
          refine AW.ret ?_
          replace h := some_eq h
          subst h
          exact ⟨.inr rfl, retOK_of [(.one (.c (.int .i64 v10)))] (by kernel_rfl) ⟨⟨rfl, trivial⟩, trivial⟩ (of_decide_eq_true (by kernel_rfl))⟩

/-! laws.toVector -/
def laws_toVector (_K : Nat) (a0 : Vector) : Option (Vector) :=
  some a0

theorem ok_laws_toVector (K : Nat) (a0 : Vector) (o : (Vector)) (h : laws_toVector K a0 = some o) : CallOK Try.prog 101 [.agg (cs_Vector a0)] [.agg (cs_Vector o)] := by
  refine callOK_of_AW Try.func101 rfl (by kernel_rfl) (Nat.le_of_ble_eq_true (by kernel_rfl)) ?_
  intro w0
  unfold laws_toVector at h
  refine AW.seq ?_
  refine AW.regionA [.box 1, .box 2] [1, 2] [1, 2] (s' := ⟨[(1, (.v (.one (.ptr 1 0)))), (2, (.v (.one (.ptr 2 0))))], [(1, (.box [(.c (.flt .f32 a0.X.bits)), (.c (.flt .f32 a0.Y.bits)), (.c (.flt .f32 a0.Z.bits))])), (2, (.box [(.c (.flt .f32 (default : F32).bits)), (.c (.flt .f32 (default : F32).bits)), (.c (.flt .f32 (default : F32).bits))]))]⟩) (ob := True ∧ True ∧ True) (by kernel_rfl) ⟨trivial, trivial, trivial⟩ ?_
  refine thenQ_normal ?_
  refine AW.seq ?_
  refine AW.regionA [.box 3] [1, 2, 3] [1, 2, 3] (s' := ⟨[(1, (.v (.one (.ptr 1 0)))), (2, (.v (.one (.ptr 2 0)))), (3, (.v (.one (.ptr 3 0))))], [(1, (.box [(.c (.flt .f32 a0.X.bits)), (.c (.flt .f32 a0.Y.bits)), (.c (.flt .f32 a0.Z.bits))])), (2, (.box [(.c (.flt .f32 (default : F32).bits)), (.c (.flt .f32 (default : F32).bits)), (.c (.flt .f32 (default : F32).bits))])), (3, (.box [(.c (.flt .f32 (default : F32).bits)), (.c (.flt .f32 (default : F32).bits)), (.c (.flt .f32 (default : F32).bits))]))]⟩) (ob := True ∧ True) (by kernel_rfl) ⟨trivial, trivial⟩ ?_
  refine thenQ_normal ?_
  refine AW.seq ?_
  refine AW.regionA [] [1, 2, 3] [1, 2, 3] (s' := ⟨[(1, (.v (.one (.ptr 1 0)))), (2, (.v (.one (.ptr 2 0)))), (3, (.v (.one (.ptr 3 0))))], [(1, (.box [(.c (.flt .f32 a0.X.bits)), (.c (.flt .f32 a0.Y.bits)), (.c (.flt .f32 a0.Z.bits))])), (2, (.box [(.c (.flt .f32 (default : F32).bits)), (.c (.flt .f32 (default : F32).bits)), (.c (.flt .f32 (default : F32).bits))])), (3, (.box [(.c (.flt .f32 a0.X.bits)), (.c (.flt .f32 (default : F32).bits)), (.c (.flt .f32 (default : F32).bits))]))]⟩) (ob := True ∧ True ∧ True ∧ True ∧ True) (by kernel_rfl) ⟨trivial, trivial, trivial, trivial, trivial⟩ ?_
  refine thenQ_normal ?_
  refine AW.seq ?_
  refine AW.regionA [] [1, 2, 3] [1, 2, 3] (s' := ⟨[(1, (.v (.one (.ptr 1 0)))), (2, (.v (.one (.ptr 2 0)))), (3, (.v (.one (.ptr 3 0))))], [(1, (.box [(.c (.flt .f32 a0.X.bits)), (.c (.flt .f32 a0.Y.bits)), (.c (.flt .f32 a0.Z.bits))])), (2, (.box [(.c (.flt .f32 (default : F32).bits)), (.c (.flt .f32 (default : F32).bits)), (.c (.flt .f32 (default : F32).bits))])), (3, (.box [(.c (.flt .f32 a0.X.bits)), (.c (.flt .f32 a0.Y.bits)), (.c (.flt .f32 (default : F32).bits))]))]⟩) (ob := True ∧ True ∧ True ∧ True ∧ True) (by kernel_rfl) ⟨trivial, trivial, trivial, trivial, trivial⟩ ?_
  refine thenQ_normal ?_
  refine AW.seq ?_
  refine AW.regionA [] [2, 3] [2, 3] (s' := ⟨[(2, (.v (.one (.ptr 2 0)))), (3, (.v (.one (.ptr 3 0))))], [(2, (.box [(.c (.flt .f32 (default : F32).bits)), (.c (.flt .f32 (default : F32).bits)), (.c (.flt .f32 (default : F32).bits))])), (3, (.box [(.c (.flt .f32 a0.X.bits)), (.c (.flt .f32 a0.Y.bits)), (.c (.flt .f32 a0.Z.bits))]))]⟩) (ob := True ∧ True ∧ True ∧ True ∧ True) (by kernel_rfl) ⟨trivial, trivial, trivial, trivial, trivial⟩ ?_
  refine thenQ_normal ?_
  refine AW.seq ?_
  refine AW.regionA [] [2] [2] (s' := ⟨[(2, (.v (.one (.ptr 2 0))))], [(2, (.box [(.c (.flt .f32 a0.X.bits)), (.c (.flt .f32 a0.Y.bits)), (.c (.flt .f32 a0.Z.bits))]))]⟩) (ob := True ∧ True ∧ True) (by kernel_rfl) ⟨trivial, trivial, trivial⟩ ?_
  refine thenQ_normal ?_
  refine AW.ret ?_
  replace h := some_eq h
  subst h
  exact ⟨.inr rfl, retOK_of [(.agg [(.c (.flt .f32 a0.X.bits)), (.c (.flt .f32 a0.Y.bits)), (.c (.flt .f32 a0.Z.bits))])] (by kernel_rfl) ⟨⟨⟨rfl, trivial⟩, ⟨rfl, trivial⟩, ⟨rfl, trivial⟩, trivial⟩, trivial⟩ (of_decide_eq_true (by kernel_rfl))⟩

/-! laws.toVectorS -/
def laws_toVectorS_l1 (K : Nat) (a0 : (List Vector)) : Nat → Int → (List Vector) → Option ((List Vector))
  | 0, _, _ => none
  | k + 1, x4, x5 => ite2 ((decide (x4 < (a0.length : Int)))) (chk (0 ≤ x4 ∧ x4 < (a0.length : Int)) ((laws_toVector K (a0.getD x4.toNat default)).bind fun v8 => chk (0 ≤ x4 ∧ x4 < (x5.length : Int)) (laws_toVectorS_l1 K a0 k (IntKind.i64.wrap (x4 + (1 : Int))) (x5.set x4.toNat v8)))) (some x5)

def laws_toVectorS (K : Nat) (a0 : (List Vector)) : Option ((List Vector)) :=
  chk (0 ≤ (a0.length : Int) ∧ (a0.length : Int).toNat * 12 ≤ 140737488355328) (laws_toVectorS_l1 K a0 K (0 : Int) (List.replicate (a0.length : Int).toNat (default : Vector)))

theorem ok_laws_toVectorS (K : Nat) (a0 : (List Vector)) (o : ((List Vector))) (h : laws_toVectorS K a0 = some o) : CallOK Try.prog 98 [.one (sl 3 cs_Vector a0)] [.one (sl 3 cs_Vector o)] := by
  refine callOK_of_AW Try.func98 rfl (by kernel_rfl) (Nat.le_of_ble_eq_true (by kernel_rfl)) ?_
  intro w0
  unfold laws_toVectorS at h
  refine AW.seq ?_
  refine AW.regionA [] [0] [] (s' := ⟨[(0, (.v (.one (.c (sl 3 cs_Vector a0)))))], []⟩) (ob := True ∧ True) (by kernel_rfl) ⟨trivial, trivial⟩ ?_
  refine thenQ_normal ?_
  refine AW.seq ?_
  obtain ⟨c1, h⟩ := chk_some h
  refine AW.regionA [.no, .no, .objA 1 (List.replicate (a0.length : Int).toNat (default : Vector)).length (gl cs_Vector (List.replicate (a0.length : Int).toNat (default : Vector)))] [0, 3] [1] (s' := ⟨[(0, (.v (.one (.c (sl 3 cs_Vector a0))))), (3, (.v (.one (.arr 1))))], [(1, (.arr false (List.replicate (a0.length : Int).toNat (default : Vector)).length 3 (gl cs_Vector (List.replicate (a0.length : Int).toNat (default : Vector)))))]⟩) (ob := True ∧ True ∧ (0 ≤ (a0.length : Int) ∧ (a0.length : Int) = (a0.length : Int) ∧ (((List.replicate (a0.length : Int).toNat (default : Vector)).length : Nat) : Int) = (a0.length : Int) ∧ (List.replicate (a0.length : Int).toNat (default : Vector)).length * 12 ≤ 140737488355328 ∧ ∀ i, i < (List.replicate (a0.length : Int).toNat (default : Vector)).length → zeroRow (fun _ => none) [(.c (.flt .f32 (default : F32).bits)), (.c (.flt .f32 (default : F32).bits)), (.c (.flt .f32 (default : F32).bits))] (gl cs_Vector (List.replicate (a0.length : Int).toNat (default : Vector)) i)) ∧ True ∧ True) (by kernel_rfl) ⟨trivial, trivial, ⟨c1.1, rfl, len_rep c1.1, rep_bytes c1.2, fun i hi => gl_zero (cs := cs_Vector) (zs := [(.c (.flt .f32 (default : F32).bits)), (.c (.flt .f32 (default : F32).bits)), (.c (.flt .f32 (default : F32).bits))]) (n := (a0.length : Int).toNat) ⟨⟨rfl, trivial⟩, ⟨rfl, trivial⟩, ⟨rfl, trivial⟩, trivial⟩ i (rep_lt hi)⟩, trivial, trivial⟩ ?_
  refine thenQ_normal ?_
  refine AW.seq ?_
  refine AW.seq ?_
  refine AW.regionA [] [0, 3, 4] [1] (s' := ⟨[(0, (.v (.one (.c (sl 3 cs_Vector a0))))), (3, (.v (.one (.arr 1)))), (4, (.v (.one (.c (.int .i64 (0 : Int))))))], [(1, (.arr false (List.replicate (a0.length : Int).toNat (default : Vector)).length 3 (gl cs_Vector (List.replicate (a0.length : Int).toNat (default : Vector)))))]⟩) (ob := True ∧ True) (by kernel_rfl) ⟨trivial, trivial⟩ ?_
  refine thenQ_normal ?_
  refine AW.block ?_
  refine AW.loopQ (σ := Nat × Int × (List Vector)) (fun p => ⟨[(0, (.v (.one (.c (sl 3 cs_Vector a0))))), (3, (.v (.one (.arr 1)))), (4, (.v (.one (.c (.int .i64 p.2.1)))))], [(1, (.arr false p.2.2.length 3 (gl cs_Vector p.2.2)))]⟩) (fun p => laws_toVectorS_l1 K a0 p.1 p.2.1 p.2.2 = some o) (fun p => p.1) (K, (0 : Int), (List.replicate (a0.length : Int).toNat (default : Vector))) h ?_
  clear h
  rintro ⟨k, x4, x5⟩ h
  replace h : laws_toVectorS_l1 K a0 k x4 x5 = some o := h
  show AW _ _ (⟨[(0, (.v (.one (.c (sl 3 cs_Vector a0))))), (3, (.v (.one (.arr 1)))), (4, (.v (.one (.c (.int .i64 x4)))))], [(1, (.arr false x5.length 3 (gl cs_Vector x5)))]⟩ : St) _
  obtain _ | k := k
  · rw [laws_toVectorS_l1] at h; cases h
  rw [laws_toVectorS_l1] at h
  refine AW.seq ?_
  refine AW.seq ?_
  refine AW.regionA [] [0, 3, 4, 11] [1] (s' := ⟨[(0, (.v (.one (.c (sl 3 cs_Vector a0))))), (3, (.v (.one (.arr 1)))), (4, (.v (.one (.c (.int .i64 x4))))), (11, (.v (.one (.c (.bool (decide (x4 < (a0.length : Int))))))))], [(1, (.arr false x5.length 3 (gl cs_Vector x5)))]⟩) (ob := True ∧ True ∧ True ∧ True ∧ True) (by kernel_rfl) ⟨trivial, trivial, trivial, trivial, trivial⟩ ?_
  refine thenQ_normal ?_
  rcases ite2_cases h with ⟨b6, h⟩ | ⟨b6, h⟩
  · refine AW.cond_t rfl b6 ?_
    refine AW.skip ?_
    refine thenQ_normal ?_
    refine AW.seq ?_
    refine AW.block ?_
    obtain ⟨c7, h⟩ := chk_some h
    obtain ⟨v8, e9, h⟩ := bind_some h
    obtain ⟨c10, h⟩ := chk_some h
    refine AW.regionA [.no, .no, .no, .no, .no, .no, .call [.agg (cs_Vector (a0.getD x4.toNat default))] [.agg (cs_Vector v8)] [[.view, .view, .view]], .no, .set (x5.set x4.toNat v8).length (gl cs_Vector (x5.set x4.toNat v8)) ((List.range 3).map fun j => (cs_Vector v8).getD (0 + j) .nilptr)] [0, 3, 4] [1] (s' := ⟨[(0, (.v (.one (.c (sl 3 cs_Vector a0))))), (3, (.v (.one (.arr 1)))), (4, (.v (.one (.c (.int .i64 x4)))))], [(1, (.arr false (x5.set x4.toNat v8).length 3 (gl cs_Vector (x5.set x4.toNat v8))))]⟩) (ob := True ∧ True ∧ True ∧ True ∧ (0 ≤ x4 ∧ x4 < (a0.length : Int)) ∧ True ∧ ((((((.flt .f32 ((a0.getD x4.toNat default).X).bits) : C) = (.flt .f32 ((a0.getD x4.toNat default).X).bits)) ∧ (((.flt .f32 ((a0.getD x4.toNat default).Y).bits) : C) = (.flt .f32 ((a0.getD x4.toNat default).Y).bits)) ∧ (((.flt .f32 ((a0.getD x4.toNat default).Z).bits) : C) = (.flt .f32 ((a0.getD x4.toNat default).Z).bits)) ∧ True) ∧ True) ∧ CallOK Try.prog 101 [.agg (cs_Vector (a0.getD x4.toNat default))] [.agg (cs_Vector v8)]) ∧ (0 ≤ x4 ∧ x4 < (x5.length : Int)) ∧ ((x5.set x4.toNat v8).length = x5.length ∧ SetOb x5.length 3 x4.toNat 0 3 (gl cs_Vector x5) (gl cs_Vector (x5.set x4.toNat v8)) ∧ ((List.range 3).map fun j => (cs_Vector v8).getD (0 + j) .nilptr) = ((List.range 3).map fun j => gl cs_Vector (x5.set x4.toNat v8) x4.toNat (0 + j)) ∧ ((((.flt .f32 v8.X.bits) : C) = (.flt .f32 v8.X.bits) ∧ True) ∧ (((.flt .f32 v8.Y.bits) : C) = (.flt .f32 v8.Y.bits) ∧ True) ∧ (((.flt .f32 v8.Z.bits) : C) = (.flt .f32 v8.Z.bits) ∧ True) ∧ True) ∧ (false = true → ∀ j, j < 3 → isSeq (gl cs_Vector x5 x4.toNat (0 + j)) = false ∧ isSeq (gl cs_Vector (x5.set x4.toNat v8) x4.toNat (0 + j)) = false)) ∧ True) (by kernel_rfl) ⟨trivial, trivial, trivial, trivial, c7, trivial, ⟨⟨⟨rfl, rfl, rfl, trivial⟩, trivial⟩, ok_laws_toVector K (a0.getD x4.toNat default) v8 e9⟩, c10, ⟨List.length_set, gl_set, (gl_atp (lt_of_bound c10)).symm, ⟨⟨rfl, trivial⟩, ⟨rfl, trivial⟩, ⟨rfl, trivial⟩, trivial⟩, (fun h => nomatch h)⟩, trivial⟩ ?_
    refine blockQ_normal ?_
    refine thenQ_normal ?_
    refine AW.regionA [] [0, 3, 4] [1] (s' := ⟨[(0, (.v (.one (.c (sl 3 cs_Vector a0))))), (3, (.v (.one (.arr 1)))), (4, (.v (.one (.c (.int .i64 (IntKind.i64.wrap (x4 + (1 : Int))))))))], [(1, (.arr false (x5.set x4.toNat v8).length 3 (gl cs_Vector (x5.set x4.toNat v8))))]⟩) (ob := True ∧ True ∧ True ∧ True) (by kernel_rfl) ⟨trivial, trivial, trivial, trivial⟩ ?_
    exact loopQ_normal (k, (IntKind.i64.wrap (x4 + (1 : Int))), (x5.set x4.toNat v8)) h (Nat.lt_succ_self k) (Sub.keep [0, 3, 4] [1] (by kernel_rfl) (by kernel_rfl))
  · refine AW.cond_f rfl b6 ?_
    refine AW.exit ?_
    refine thenQ_exit ?_
    refine loopQ_exit ?_
    refine blockQ_exit ?_
    refine thenQ_normal ?_
    refine AW.seq ?_
    refine AW.regionA [] [2] [1] (s' := ⟨[(2, (.v (.one (.arr 1))))], [(1, (.arr false x5.length 3 (gl cs_Vector x5)))]⟩) (ob := True ∧ True ∧ True) (by kernel_rfl) ⟨trivial, trivial, trivial⟩ ?_
    refine thenQ_normal ?_
    refine AW.ret ?_
    replace h := some_eq h
    subst h
    exact ⟨.inr rfl, retOK_of [(.one (.arr 1))] (by kernel_rfl) ⟨rfl, trivial⟩ (of_decide_eq_true (by kernel_rfl))⟩

/-! laws.toBoolS -/
def laws_toBoolS_l1 (K : Nat) (a0 : (List Bool)) : Nat → Int → (List Bool) → Option ((List Bool))
  | 0, _, _ => none
  | k + 1, x4, x5 => ite2 ((decide (x4 < (a0.length : Int)))) (chk (0 ≤ x4 ∧ x4 < (a0.length : Int)) (chk (0 ≤ x4 ∧ x4 < (x5.length : Int)) (laws_toBoolS_l1 K a0 k (IntKind.i64.wrap (x4 + (1 : Int))) (x5.set x4.toNat (a0.getD x4.toNat default))))) (some x5)

def laws_toBoolS (K : Nat) (a0 : (List Bool)) : Option ((List Bool)) :=
  chk (0 ≤ (a0.length : Int) ∧ (a0.length : Int).toNat * 1 ≤ 140737488355328) (laws_toBoolS_l1 K a0 K (0 : Int) (List.replicate (a0.length : Int).toNat (default : Bool)))

theorem ok_laws_toBoolS (K : Nat) (a0 : (List Bool)) (o : ((List Bool))) (h : laws_toBoolS K a0 = some o) : CallOK Try.prog 99 [.one (sl 1 csB a0)] [.one (sl 1 csB o)] := by
  refine callOK_of_AW Try.func99 rfl (by kernel_rfl) (Nat.le_of_ble_eq_true (by kernel_rfl)) ?_
  intro w0
  unfold laws_toBoolS at h
  refine AW.seq ?_
  refine AW.regionA [] [0] [] (s' := ⟨[(0, (.v (.one (.c (sl 1 csB a0)))))], []⟩) (ob := True ∧ True) (by kernel_rfl) ⟨trivial, trivial⟩ ?_
  refine thenQ_normal ?_
  refine AW.seq ?_
  obtain ⟨c1, h⟩ := chk_some h
  refine AW.regionA [.no, .no, .objA 1 (List.replicate (a0.length : Int).toNat (default : Bool)).length (gl csB (List.replicate (a0.length : Int).toNat (default : Bool)))] [0, 3] [1] (s' := ⟨[(0, (.v (.one (.c (sl 1 csB a0))))), (3, (.v (.one (.arr 1))))], [(1, (.arr false (List.replicate (a0.length : Int).toNat (default : Bool)).length 1 (gl csB (List.replicate (a0.length : Int).toNat (default : Bool)))))]⟩) (ob := True ∧ True ∧ (0 ≤ (a0.length : Int) ∧ (a0.length : Int) = (a0.length : Int) ∧ (((List.replicate (a0.length : Int).toNat (default : Bool)).length : Nat) : Int) = (a0.length : Int) ∧ (List.replicate (a0.length : Int).toNat (default : Bool)).length * 1 ≤ 140737488355328 ∧ ∀ i, i < (List.replicate (a0.length : Int).toNat (default : Bool)).length → zeroRow (fun _ => none) [(.c (.bool false))] (gl csB (List.replicate (a0.length : Int).toNat (default : Bool)) i)) ∧ True ∧ True) (by kernel_rfl) ⟨trivial, trivial, ⟨c1.1, rfl, len_rep c1.1, rep_bytes c1.2, fun i hi => gl_zero (cs := csB) (zs := [(.c (.bool false))]) (n := (a0.length : Int).toNat) ⟨⟨rfl, trivial⟩, trivial⟩ i (rep_lt hi)⟩, trivial, trivial⟩ ?_
  refine thenQ_normal ?_
  refine AW.seq ?_
  refine AW.seq ?_
  refine AW.regionA [] [0, 3, 4] [1] (s' := ⟨[(0, (.v (.one (.c (sl 1 csB a0))))), (3, (.v (.one (.arr 1)))), (4, (.v (.one (.c (.int .i64 (0 : Int))))))], [(1, (.arr false (List.replicate (a0.length : Int).toNat (default : Bool)).length 1 (gl csB (List.replicate (a0.length : Int).toNat (default : Bool)))))]⟩) (ob := True ∧ True) (by kernel_rfl) ⟨trivial, trivial⟩ ?_
  refine thenQ_normal ?_
  refine AW.block ?_
  refine AW.loopQ (σ := Nat × Int × (List Bool)) (fun p => ⟨[(0, (.v (.one (.c (sl 1 csB a0))))), (3, (.v (.one (.arr 1)))), (4, (.v (.one (.c (.int .i64 p.2.1)))))], [(1, (.arr false p.2.2.length 1 (gl csB p.2.2)))]⟩) (fun p => laws_toBoolS_l1 K a0 p.1 p.2.1 p.2.2 = some o) (fun p => p.1) (K, (0 : Int), (List.replicate (a0.length : Int).toNat (default : Bool))) h ?_
  clear h
  rintro ⟨k, x4, x5⟩ h
  replace h : laws_toBoolS_l1 K a0 k x4 x5 = some o := h
  show AW _ _ (⟨[(0, (.v (.one (.c (sl 1 csB a0))))), (3, (.v (.one (.arr 1)))), (4, (.v (.one (.c (.int .i64 x4)))))], [(1, (.arr false x5.length 1 (gl csB x5)))]⟩ : St) _
  obtain _ | k := k
  · rw [laws_toBoolS_l1] at h; cases h
  rw [laws_toBoolS_l1] at h
  refine AW.seq ?_
  refine AW.seq ?_
  refine AW.regionA [] [0, 3, 4, 11] [1] (s' := ⟨[(0, (.v (.one (.c (sl 1 csB a0))))), (3, (.v (.one (.arr 1)))), (4, (.v (.one (.c (.int .i64 x4))))), (11, (.v (.one (.c (.bool (decide (x4 < (a0.length : Int))))))))], [(1, (.arr false x5.length 1 (gl csB x5)))]⟩) (ob := True ∧ True ∧ True ∧ True ∧ True) (by kernel_rfl) ⟨trivial, trivial, trivial, trivial, trivial⟩ ?_
  refine thenQ_normal ?_
  rcases ite2_cases h with ⟨b6, h⟩ | ⟨b6, h⟩
  · refine AW.cond_t rfl b6 ?_
    refine AW.skip ?_
    refine thenQ_normal ?_
    refine AW.seq ?_
    refine AW.block ?_
    obtain ⟨c7, h⟩ := chk_some h
    obtain ⟨c8, h⟩ := chk_some h
    refine AW.regionA [.no, .no, .no, .no, .no, .no, .no, .set (x5.set x4.toNat (a0.getD x4.toNat default)).length (gl csB (x5.set x4.toNat (a0.getD x4.toNat default))) ((List.range 1).map fun j => (csB (a0.getD x4.toNat default)).getD (0 + j) .nilptr)] [0, 3, 4] [1] (s' := ⟨[(0, (.v (.one (.c (sl 1 csB a0))))), (3, (.v (.one (.arr 1)))), (4, (.v (.one (.c (.int .i64 x4)))))], [(1, (.arr false (x5.set x4.toNat (a0.getD x4.toNat default)).length 1 (gl csB (x5.set x4.toNat (a0.getD x4.toNat default)))))]⟩) (ob := True ∧ True ∧ True ∧ True ∧ (0 ≤ x4 ∧ x4 < (a0.length : Int)) ∧ True ∧ (0 ≤ x4 ∧ x4 < (x5.length : Int)) ∧ ((x5.set x4.toNat (a0.getD x4.toNat default)).length = x5.length ∧ SetOb x5.length 1 x4.toNat 0 1 (gl csB x5) (gl csB (x5.set x4.toNat (a0.getD x4.toNat default))) ∧ ((List.range 1).map fun j => (csB (a0.getD x4.toNat default)).getD (0 + j) .nilptr) = ((List.range 1).map fun j => gl csB (x5.set x4.toNat (a0.getD x4.toNat default)) x4.toNat (0 + j)) ∧ ((((.bool (a0.getD x4.toNat default)) : C) = (.bool (a0.getD x4.toNat default)) ∧ True) ∧ True) ∧ (false = true → ∀ j, j < 1 → isSeq (gl csB x5 x4.toNat (0 + j)) = false ∧ isSeq (gl csB (x5.set x4.toNat (a0.getD x4.toNat default)) x4.toNat (0 + j)) = false)) ∧ True) (by kernel_rfl) ⟨trivial, trivial, trivial, trivial, c7, trivial, c8, ⟨List.length_set, gl_set, (gl_atp (lt_of_bound c8)).symm, ⟨⟨rfl, trivial⟩, trivial⟩, (fun h => nomatch h)⟩, trivial⟩ ?_
    refine blockQ_normal ?_
    refine thenQ_normal ?_
    refine AW.regionA [] [0, 3, 4] [1] (s' := ⟨[(0, (.v (.one (.c (sl 1 csB a0))))), (3, (.v (.one (.arr 1)))), (4, (.v (.one (.c (.int .i64 (IntKind.i64.wrap (x4 + (1 : Int))))))))], [(1, (.arr false (x5.set x4.toNat (a0.getD x4.toNat default)).length 1 (gl csB (x5.set x4.toNat (a0.getD x4.toNat default)))))]⟩) (ob := True ∧ True ∧ True ∧ True) (by kernel_rfl) ⟨trivial, trivial, trivial, trivial⟩ ?_
    exact loopQ_normal (k, (IntKind.i64.wrap (x4 + (1 : Int))), (x5.set x4.toNat (a0.getD x4.toNat default))) h (Nat.lt_succ_self k) (Sub.keep [0, 3, 4] [1] (by kernel_rfl) (by kernel_rfl))
  · refine AW.cond_f rfl b6 ?_
    refine AW.exit ?_
    refine thenQ_exit ?_
    refine loopQ_exit ?_
    refine blockQ_exit ?_
    refine thenQ_normal ?_
    refine AW.seq ?_
    refine AW.regionA [] [2] [1] (s' := ⟨[(2, (.v (.one (.arr 1))))], [(1, (.arr false x5.length 1 (gl csB x5)))]⟩) (ob := True ∧ True ∧ True) (by kernel_rfl) ⟨trivial, trivial, trivial⟩ ?_
    refine thenQ_normal ?_
    refine AW.ret ?_
    replace h := some_eq h
    subst h
    exact ⟨.inr rfl, retOK_of [(.one (.arr 1))] (by kernel_rfl) ⟨rfl, trivial⟩ (of_decide_eq_true (by kernel_rfl))⟩

/-! laws.toFloat32S -/
def laws_toFloat32S_l1 (K : Nat) (a0 : (List F32)) : Nat → Int → (List F32) → Option ((List F32))
  | 0, _, _ => none
  | k + 1, x4, x5 => ite2 ((decide (x4 < (a0.length : Int)))) (chk (0 ≤ x4 ∧ x4 < (a0.length : Int)) (chk (0 ≤ x4 ∧ x4 < (x5.length : Int)) (laws_toFloat32S_l1 K a0 k (IntKind.i64.wrap (x4 + (1 : Int))) (x5.set x4.toNat (a0.getD x4.toNat default))))) (some x5)

def laws_toFloat32S (K : Nat) (a0 : (List F32)) : Option ((List F32)) :=
  chk (0 ≤ (a0.length : Int) ∧ (a0.length : Int).toNat * 4 ≤ 140737488355328) (laws_toFloat32S_l1 K a0 K (0 : Int) (List.replicate (a0.length : Int).toNat (default : F32)))

theorem ok_laws_toFloat32S (K : Nat) (a0 : (List F32)) (o : ((List F32))) (h : laws_toFloat32S K a0 = some o) : CallOK Try.prog 100 [.one (sl 1 (csF .f32) a0)] [.one (sl 1 (csF .f32) o)] := by
  refine callOK_of_AW Try.func100 rfl (by kernel_rfl) (Nat.le_of_ble_eq_true (by kernel_rfl)) ?_
  intro w0
  unfold laws_toFloat32S at h
  refine AW.seq ?_
  refine AW.regionA [] [0] [] (s' := ⟨[(0, (.v (.one (.c (sl 1 (csF .f32) a0)))))], []⟩) (ob := True ∧ True) (by kernel_rfl) ⟨trivial, trivial⟩ ?_
  refine thenQ_normal ?_
  refine AW.seq ?_
  obtain ⟨c1, h⟩ := chk_some h
  refine AW.regionA [.no, .no, .objA 1 (List.replicate (a0.length : Int).toNat (default : F32)).length (gl (csF .f32) (List.replicate (a0.length : Int).toNat (default : F32)))] [0, 3] [1] (s' := ⟨[(0, (.v (.one (.c (sl 1 (csF .f32) a0))))), (3, (.v (.one (.arr 1))))], [(1, (.arr false (List.replicate (a0.length : Int).toNat (default : F32)).length 1 (gl (csF .f32) (List.replicate (a0.length : Int).toNat (default : F32)))))]⟩) (ob := True ∧ True ∧ (0 ≤ (a0.length : Int) ∧ (a0.length : Int) = (a0.length : Int) ∧ (((List.replicate (a0.length : Int).toNat (default : F32)).length : Nat) : Int) = (a0.length : Int) ∧ (List.replicate (a0.length : Int).toNat (default : F32)).length * 4 ≤ 140737488355328 ∧ ∀ i, i < (List.replicate (a0.length : Int).toNat (default : F32)).length → zeroRow (fun _ => none) [(.c (.flt .f32 (default : F32).bits))] (gl (csF .f32) (List.replicate (a0.length : Int).toNat (default : F32)) i)) ∧ True ∧ True) (by kernel_rfl) ⟨trivial, trivial, ⟨c1.1, rfl, len_rep c1.1, rep_bytes c1.2, fun i hi => gl_zero (cs := (csF .f32)) (zs := [(.c (.flt .f32 (default : F32).bits))]) (n := (a0.length : Int).toNat) ⟨⟨rfl, trivial⟩, trivial⟩ i (rep_lt hi)⟩, trivial, trivial⟩ ?_
  refine thenQ_normal ?_
  refine AW.seq ?_
  refine AW.seq ?_
  refine AW.regionA [] [0, 3, 4] [1] (s' := ⟨[(0, (.v (.one (.c (sl 1 (csF .f32) a0))))), (3, (.v (.one (.arr 1)))), (4, (.v (.one (.c (.int .i64 (0 : Int))))))], [(1, (.arr false (List.replicate (a0.length : Int).toNat (default : F32)).length 1 (gl (csF .f32) (List.replicate (a0.length : Int).toNat (default : F32)))))]⟩) (ob := True ∧ True) (by kernel_rfl) ⟨trivial, trivial⟩ ?_
  refine thenQ_normal ?_
  refine AW.block ?_
  refine AW.loopQ (σ := Nat × Int × (List F32)) (fun p => ⟨[(0, (.v (.one (.c (sl 1 (csF .f32) a0))))), (3, (.v (.one (.arr 1)))), (4, (.v (.one (.c (.int .i64 p.2.1)))))], [(1, (.arr false p.2.2.length 1 (gl (csF .f32) p.2.2)))]⟩) (fun p => laws_toFloat32S_l1 K a0 p.1 p.2.1 p.2.2 = some o) (fun p => p.1) (K, (0 : Int), (List.replicate (a0.length : Int).toNat (default : F32))) h ?_
  clear h
  rintro ⟨k, x4, x5⟩ h
  replace h : laws_toFloat32S_l1 K a0 k x4 x5 = some o := h
  show AW _ _ (⟨[(0, (.v (.one (.c (sl 1 (csF .f32) a0))))), (3, (.v (.one (.arr 1)))), (4, (.v (.one (.c (.int .i64 x4)))))], [(1, (.arr false x5.length 1 (gl (csF .f32) x5)))]⟩ : St) _
  obtain _ | k := k
  · rw [laws_toFloat32S_l1] at h; cases h
  rw [laws_toFloat32S_l1] at h
  refine AW.seq ?_
  refine AW.seq ?_
  refine AW.regionA [] [0, 3, 4, 11] [1] (s' := ⟨[(0, (.v (.one (.c (sl 1 (csF .f32) a0))))), (3, (.v (.one (.arr 1)))), (4, (.v (.one (.c (.int .i64 x4))))), (11, (.v (.one (.c (.bool (decide (x4 < (a0.length : Int))))))))], [(1, (.arr false x5.length 1 (gl (csF .f32) x5)))]⟩) (ob := True ∧ True ∧ True ∧ True ∧ True) (by kernel_rfl) ⟨trivial, trivial, trivial, trivial, trivial⟩ ?_
  refine thenQ_normal ?_
  rcases ite2_cases h with ⟨b6, h⟩ | ⟨b6, h⟩
  · refine AW.cond_t rfl b6 ?_
    refine AW.skip ?_
    refine thenQ_normal ?_
    refine AW.seq ?_
    refine AW.block ?_
    obtain ⟨c7, h⟩ := chk_some h
    obtain ⟨c8, h⟩ := chk_some h
    refine AW.regionA [.no, .no, .no, .no, .no, .no, .no, .set (x5.set x4.toNat (a0.getD x4.toNat default)).length (gl (csF .f32) (x5.set x4.toNat (a0.getD x4.toNat default))) ((List.range 1).map fun j => ((csF .f32) (a0.getD x4.toNat default)).getD (0 + j) .nilptr)] [0, 3, 4] [1] (s' := ⟨[(0, (.v (.one (.c (sl 1 (csF .f32) a0))))), (3, (.v (.one (.arr 1)))), (4, (.v (.one (.c (.int .i64 x4)))))], [(1, (.arr false (x5.set x4.toNat (a0.getD x4.toNat default)).length 1 (gl (csF .f32) (x5.set x4.toNat (a0.getD x4.toNat default)))))]⟩) (ob := True ∧ True ∧ True ∧ True ∧ (0 ≤ x4 ∧ x4 < (a0.length : Int)) ∧ True ∧ (0 ≤ x4 ∧ x4 < (x5.length : Int)) ∧ ((x5.set x4.toNat (a0.getD x4.toNat default)).length = x5.length ∧ SetOb x5.length 1 x4.toNat 0 1 (gl (csF .f32) x5) (gl (csF .f32) (x5.set x4.toNat (a0.getD x4.toNat default))) ∧ ((List.range 1).map fun j => ((csF .f32) (a0.getD x4.toNat default)).getD (0 + j) .nilptr) = ((List.range 1).map fun j => gl (csF .f32) (x5.set x4.toNat (a0.getD x4.toNat default)) x4.toNat (0 + j)) ∧ ((((.flt .f32 (a0.getD x4.toNat default).bits) : C) = (.flt .f32 (a0.getD x4.toNat default).bits) ∧ True) ∧ True) ∧ (false = true → ∀ j, j < 1 → isSeq (gl (csF .f32) x5 x4.toNat (0 + j)) = false ∧ isSeq (gl (csF .f32) (x5.set x4.toNat (a0.getD x4.toNat default)) x4.toNat (0 + j)) = false)) ∧ True) (by kernel_rfl) ⟨trivial, trivial, trivial, trivial, c7, trivial, c8, ⟨List.length_set, gl_set, (gl_atp (lt_of_bound c8)).symm, ⟨⟨rfl, trivial⟩, trivial⟩, (fun h => nomatch h)⟩, trivial⟩ ?_
    refine blockQ_normal ?_
    refine thenQ_normal ?_
    refine AW.regionA [] [0, 3, 4] [1] (s' := ⟨[(0, (.v (.one (.c (sl 1 (csF .f32) a0))))), (3, (.v (.one (.arr 1)))), (4, (.v (.one (.c (.int .i64 (IntKind.i64.wrap (x4 + (1 : Int))))))))], [(1, (.arr false (x5.set x4.toNat (a0.getD x4.toNat default)).length 1 (gl (csF .f32) (x5.set x4.toNat (a0.getD x4.toNat default)))))]⟩) (ob := True ∧ True ∧ True ∧ True) (by kernel_rfl) ⟨trivial, trivial, trivial, trivial⟩ ?_
    exact loopQ_normal (k, (IntKind.i64.wrap (x4 + (1 : Int))), (x5.set x4.toNat (a0.getD x4.toNat default))) h (Nat.lt_succ_self k) (Sub.keep [0, 3, 4] [1] (by kernel_rfl) (by kernel_rfl))
  · refine AW.cond_f rfl b6 ?_
    refine AW.exit ?_
    refine thenQ_exit ?_
    refine loopQ_exit ?_
    refine blockQ_exit ?_
    refine thenQ_normal ?_
    refine AW.seq ?_
    refine AW.regionA [] [2] [1] (s' := ⟨[(2, (.v (.one (.arr 1))))], [(1, (.arr false x5.length 1 (gl (csF .f32) x5)))]⟩) (ob := True ∧ True ∧ True) (by kernel_rfl) ⟨trivial, trivial, trivial⟩ ?_
    refine thenQ_normal ?_
    refine AW.ret ?_
    replace h := some_eq h
    subst h
    exact ⟨.inr rfl, retOK_of [(.one (.arr 1))] (by kernel_rfl) ⟨rfl, trivial⟩ (of_decide_eq_true (by kernel_rfl))⟩

/-! laws.toString -/
def laws_toString (K : Nat) (a0 : String) : Option (String) :=
  (laws_toVectorS K a0.Points).bind fun v1 => (laws_toVectorS K a0.Before).bind fun v3 => (laws_toBoolS K a0.Fixed).bind fun v5 => (laws_toFloat32S K a0.Lengths).bind fun v7 => (laws_toVector K a0.Fall).bind fun v9 => some (String.mk v1 v3 v5 v7 v9 a0.Damp a0.Passes)

theorem ok_laws_toString (K : Nat) (a0 : String) (o : (String)) (h : laws_toString K a0 = some o) : CallOK Try.prog 17 [.agg (cs_String a0)] [.agg (cs_String o)] := by
  refine callOK_of_AW Try.func17 rfl (by kernel_rfl) (Nat.le_of_ble_eq_true (by kernel_rfl)) ?_
  intro w0
  unfold laws_toString at h
  refine AW.seq ?_
  refine AW.regionA [.box 1, .box 2] [1, 2] [1, 2] (s' := ⟨[(1, (.v (.one (.ptr 1 0)))), (2, (.v (.one (.ptr 2 0))))], [(1, (.box [(.c (sl 3 cs_Vector a0.Points)), (.c (sl 3 cs_Vector a0.Before)), (.c (sl 1 csB a0.Fixed)), (.c (sl 1 (csF .f32) a0.Lengths)), (.c (.flt .f32 a0.Fall.X.bits)), (.c (.flt .f32 a0.Fall.Y.bits)), (.c (.flt .f32 a0.Fall.Z.bits)), (.c (.flt .f32 a0.Damp.bits)), (.c (.int .i64 a0.Passes))])), (2, (.box [.nils, .nils, .nils, .nils, (.c (.flt .f32 (default : F32).bits)), (.c (.flt .f32 (default : F32).bits)), (.c (.flt .f32 (default : F32).bits)), (.c (.flt .f32 (default : F32).bits)), (.c (.int .i64 (0 : Int)))]))]⟩) (ob := True ∧ True ∧ True) (by kernel_rfl) ⟨trivial, trivial, trivial⟩ ?_
  refine thenQ_normal ?_
  refine AW.seq ?_
  refine AW.regionA [.box 3] [1, 2, 3] [1, 2, 3] (s' := ⟨[(1, (.v (.one (.ptr 1 0)))), (2, (.v (.one (.ptr 2 0)))), (3, (.v (.one (.ptr 3 0))))], [(1, (.box [(.c (sl 3 cs_Vector a0.Points)), (.c (sl 3 cs_Vector a0.Before)), (.c (sl 1 csB a0.Fixed)), (.c (sl 1 (csF .f32) a0.Lengths)), (.c (.flt .f32 a0.Fall.X.bits)), (.c (.flt .f32 a0.Fall.Y.bits)), (.c (.flt .f32 a0.Fall.Z.bits)), (.c (.flt .f32 a0.Damp.bits)), (.c (.int .i64 a0.Passes))])), (2, (.box [.nils, .nils, .nils, .nils, (.c (.flt .f32 (default : F32).bits)), (.c (.flt .f32 (default : F32).bits)), (.c (.flt .f32 (default : F32).bits)), (.c (.flt .f32 (default : F32).bits)), (.c (.int .i64 (0 : Int)))])), (3, (.box [.nils, .nils, .nils, .nils, (.c (.flt .f32 (default : F32).bits)), (.c (.flt .f32 (default : F32).bits)), (.c (.flt .f32 (default : F32).bits)), (.c (.flt .f32 (default : F32).bits)), (.c (.int .i64 (0 : Int)))]))]⟩) (ob := True ∧ True) (by kernel_rfl) ⟨trivial, trivial⟩ ?_
  refine thenQ_normal ?_
  refine AW.seq ?_
  obtain ⟨v1, e2, h⟩ := bind_some h
  refine AW.regionA [.no, .no, .call [.one (sl 3 cs_Vector a0.Points)] [.one (sl 3 cs_Vector v1)] [[.lst 4]]] [1, 2, 3] [1, 2, 3, 4] (s' := ⟨[(1, (.v (.one (.ptr 1 0)))), (2, (.v (.one (.ptr 2 0)))), (3, (.v (.one (.ptr 3 0))))], [(1, (.box [(.c (sl 3 cs_Vector a0.Points)), (.c (sl 3 cs_Vector a0.Before)), (.c (sl 1 csB a0.Fixed)), (.c (sl 1 (csF .f32) a0.Lengths)), (.c (.flt .f32 a0.Fall.X.bits)), (.c (.flt .f32 a0.Fall.Y.bits)), (.c (.flt .f32 a0.Fall.Z.bits)), (.c (.flt .f32 a0.Damp.bits)), (.c (.int .i64 a0.Passes))])), (2, (.box [.nils, .nils, .nils, .nils, (.c (.flt .f32 (default : F32).bits)), (.c (.flt .f32 (default : F32).bits)), (.c (.flt .f32 (default : F32).bits)), (.c (.flt .f32 (default : F32).bits)), (.c (.int .i64 (0 : Int)))])), (3, (.box [(.lst 4 v1.length 3 (gl cs_Vector v1)), .nils, .nils, .nils, (.c (.flt .f32 (default : F32).bits)), (.c (.flt .f32 (default : F32).bits)), (.c (.flt .f32 (default : F32).bits)), (.c (.flt .f32 (default : F32).bits)), (.c (.int .i64 (0 : Int)))])), (4, (.lst v1.length 3 (gl cs_Vector v1)))]⟩) (ob := True ∧ True ∧ (((((sl 3 cs_Vector a0.Points) : C) = (sl 3 cs_Vector a0.Points)) ∧ True) ∧ CallOK Try.prog 98 [.one (sl 3 cs_Vector a0.Points)] [.one (sl 3 cs_Vector v1)]) ∧ True ∧ True ∧ True) (by kernel_rfl) ⟨trivial, trivial, ⟨⟨rfl, trivial⟩, ok_laws_toVectorS K a0.Points v1 e2⟩, trivial, trivial, trivial⟩ ?_
  refine thenQ_normal ?_
  refine AW.seq ?_
  obtain ⟨v3, e4, h⟩ := bind_some h
  refine AW.regionA [.no, .no, .call [.one (sl 3 cs_Vector a0.Before)] [.one (sl 3 cs_Vector v3)] [[.lst 5]]] [1, 2, 3] [1, 2, 3, 4, 5] (s' := ⟨[(1, (.v (.one (.ptr 1 0)))), (2, (.v (.one (.ptr 2 0)))), (3, (.v (.one (.ptr 3 0))))], [(1, (.box [(.c (sl 3 cs_Vector a0.Points)), (.c (sl 3 cs_Vector a0.Before)), (.c (sl 1 csB a0.Fixed)), (.c (sl 1 (csF .f32) a0.Lengths)), (.c (.flt .f32 a0.Fall.X.bits)), (.c (.flt .f32 a0.Fall.Y.bits)), (.c (.flt .f32 a0.Fall.Z.bits)), (.c (.flt .f32 a0.Damp.bits)), (.c (.int .i64 a0.Passes))])), (2, (.box [.nils, .nils, .nils, .nils, (.c (.flt .f32 (default : F32).bits)), (.c (.flt .f32 (default : F32).bits)), (.c (.flt .f32 (default : F32).bits)), (.c (.flt .f32 (default : F32).bits)), (.c (.int .i64 (0 : Int)))])), (3, (.box [(.lst 4 v1.length 3 (gl cs_Vector v1)), (.lst 5 v3.length 3 (gl cs_Vector v3)), .nils, .nils, (.c (.flt .f32 (default : F32).bits)), (.c (.flt .f32 (default : F32).bits)), (.c (.flt .f32 (default : F32).bits)), (.c (.flt .f32 (default : F32).bits)), (.c (.int .i64 (0 : Int)))])), (4, (.lst v1.length 3 (gl cs_Vector v1))), (5, (.lst v3.length 3 (gl cs_Vector v3)))]⟩) (ob := True ∧ True ∧ (((((sl 3 cs_Vector a0.Before) : C) = (sl 3 cs_Vector a0.Before)) ∧ True) ∧ CallOK Try.prog 98 [.one (sl 3 cs_Vector a0.Before)] [.one (sl 3 cs_Vector v3)]) ∧ True ∧ True ∧ True) (by kernel_rfl) ⟨trivial, trivial, ⟨⟨rfl, trivial⟩, ok_laws_toVectorS K a0.Before v3 e4⟩, trivial, trivial, trivial⟩ ?_
  refine thenQ_normal ?_
  refine AW.seq ?_
  obtain ⟨v5, e6, h⟩ := bind_some h
  refine AW.regionA [.no, .no, .call [.one (sl 1 csB a0.Fixed)] [.one (sl 1 csB v5)] [[.lst 6]]] [1, 2, 3] [1, 2, 3, 4, 5, 6] (s' := ⟨[(1, (.v (.one (.ptr 1 0)))), (2, (.v (.one (.ptr 2 0)))), (3, (.v (.one (.ptr 3 0))))], [(1, (.box [(.c (sl 3 cs_Vector a0.Points)), (.c (sl 3 cs_Vector a0.Before)), (.c (sl 1 csB a0.Fixed)), (.c (sl 1 (csF .f32) a0.Lengths)), (.c (.flt .f32 a0.Fall.X.bits)), (.c (.flt .f32 a0.Fall.Y.bits)), (.c (.flt .f32 a0.Fall.Z.bits)), (.c (.flt .f32 a0.Damp.bits)), (.c (.int .i64 a0.Passes))])), (2, (.box [.nils, .nils, .nils, .nils, (.c (.flt .f32 (default : F32).bits)), (.c (.flt .f32 (default : F32).bits)), (.c (.flt .f32 (default : F32).bits)), (.c (.flt .f32 (default : F32).bits)), (.c (.int .i64 (0 : Int)))])), (3, (.box [(.lst 4 v1.length 3 (gl cs_Vector v1)), (.lst 5 v3.length 3 (gl cs_Vector v3)), (.lst 6 v5.length 1 (gl csB v5)), .nils, (.c (.flt .f32 (default : F32).bits)), (.c (.flt .f32 (default : F32).bits)), (.c (.flt .f32 (default : F32).bits)), (.c (.flt .f32 (default : F32).bits)), (.c (.int .i64 (0 : Int)))])), (4, (.lst v1.length 3 (gl cs_Vector v1))), (5, (.lst v3.length 3 (gl cs_Vector v3))), (6, (.lst v5.length 1 (gl csB v5)))]⟩) (ob := True ∧ True ∧ (((((sl 1 csB a0.Fixed) : C) = (sl 1 csB a0.Fixed)) ∧ True) ∧ CallOK Try.prog 99 [.one (sl 1 csB a0.Fixed)] [.one (sl 1 csB v5)]) ∧ True ∧ True ∧ True) (by kernel_rfl) ⟨trivial, trivial, ⟨⟨rfl, trivial⟩, ok_laws_toBoolS K a0.Fixed v5 e6⟩, trivial, trivial, trivial⟩ ?_
  refine thenQ_normal ?_
  refine AW.seq ?_
  obtain ⟨v7, e8, h⟩ := bind_some h
  refine AW.regionA [.no, .no, .call [.one (sl 1 (csF .f32) a0.Lengths)] [.one (sl 1 (csF .f32) v7)] [[.lst 7]]] [1, 2, 3] [1, 2, 3, 4, 5, 6, 7] (s' := ⟨[(1, (.v (.one (.ptr 1 0)))), (2, (.v (.one (.ptr 2 0)))), (3, (.v (.one (.ptr 3 0))))], [(1, (.box [(.c (sl 3 cs_Vector a0.Points)), (.c (sl 3 cs_Vector a0.Before)), (.c (sl 1 csB a0.Fixed)), (.c (sl 1 (csF .f32) a0.Lengths)), (.c (.flt .f32 a0.Fall.X.bits)), (.c (.flt .f32 a0.Fall.Y.bits)), (.c (.flt .f32 a0.Fall.Z.bits)), (.c (.flt .f32 a0.Damp.bits)), (.c (.int .i64 a0.Passes))])), (2, (.box [.nils, .nils, .nils, .nils, (.c (.flt .f32 (default : F32).bits)), (.c (.flt .f32 (default : F32).bits)), (.c (.flt .f32 (default : F32).bits)), (.c (.flt .f32 (default : F32).bits)), (.c (.int .i64 (0 : Int)))])), (3, (.box [(.lst 4 v1.length 3 (gl cs_Vector v1)), (.lst 5 v3.length 3 (gl cs_Vector v3)), (.lst 6 v5.length 1 (gl csB v5)), (.lst 7 v7.length 1 (gl (csF .f32) v7)), (.c (.flt .f32 (default : F32).bits)), (.c (.flt .f32 (default : F32).bits)), (.c (.flt .f32 (default : F32).bits)), (.c (.flt .f32 (default : F32).bits)), (.c (.int .i64 (0 : Int)))])), (4, (.lst v1.length 3 (gl cs_Vector v1))), (5, (.lst v3.length 3 (gl cs_Vector v3))), (6, (.lst v5.length 1 (gl csB v5))), (7, (.lst v7.length 1 (gl (csF .f32) v7)))]⟩) (ob := True ∧ True ∧ (((((sl 1 (csF .f32) a0.Lengths) : C) = (sl 1 (csF .f32) a0.Lengths)) ∧ True) ∧ CallOK Try.prog 100 [.one (sl 1 (csF .f32) a0.Lengths)] [.one (sl 1 (csF .f32) v7)]) ∧ True ∧ True ∧ True) (by kernel_rfl) ⟨trivial, trivial, ⟨⟨rfl, trivial⟩, ok_laws_toFloat32S K a0.Lengths v7 e8⟩, trivial, trivial, trivial⟩ ?_
  refine thenQ_normal ?_
  refine AW.seq ?_
  obtain ⟨v9, e10, h⟩ := bind_some h
  refine AW.regionA [.no, .no, .call [.agg (cs_Vector a0.Fall)] [.agg (cs_Vector v9)] [[.view, .view, .view]]] [1, 2, 3] [1, 2, 3, 4, 5, 6, 7] (s' := ⟨[(1, (.v (.one (.ptr 1 0)))), (2, (.v (.one (.ptr 2 0)))), (3, (.v (.one (.ptr 3 0))))], [(1, (.box [(.c (sl 3 cs_Vector a0.Points)), (.c (sl 3 cs_Vector a0.Before)), (.c (sl 1 csB a0.Fixed)), (.c (sl 1 (csF .f32) a0.Lengths)), (.c (.flt .f32 a0.Fall.X.bits)), (.c (.flt .f32 a0.Fall.Y.bits)), (.c (.flt .f32 a0.Fall.Z.bits)), (.c (.flt .f32 a0.Damp.bits)), (.c (.int .i64 a0.Passes))])), (2, (.box [.nils, .nils, .nils, .nils, (.c (.flt .f32 (default : F32).bits)), (.c (.flt .f32 (default : F32).bits)), (.c (.flt .f32 (default : F32).bits)), (.c (.flt .f32 (default : F32).bits)), (.c (.int .i64 (0 : Int)))])), (3, (.box [(.lst 4 v1.length 3 (gl cs_Vector v1)), (.lst 5 v3.length 3 (gl cs_Vector v3)), (.lst 6 v5.length 1 (gl csB v5)), (.lst 7 v7.length 1 (gl (csF .f32) v7)), (.c (.flt .f32 v9.X.bits)), (.c (.flt .f32 v9.Y.bits)), (.c (.flt .f32 v9.Z.bits)), (.c (.flt .f32 (default : F32).bits)), (.c (.int .i64 (0 : Int)))])), (4, (.lst v1.length 3 (gl cs_Vector v1))), (5, (.lst v3.length 3 (gl cs_Vector v3))), (6, (.lst v5.length 1 (gl csB v5))), (7, (.lst v7.length 1 (gl (csF .f32) v7)))]⟩) (ob := True ∧ True ∧ ((((((.flt .f32 a0.Fall.X.bits) : C) = (.flt .f32 a0.Fall.X.bits)) ∧ (((.flt .f32 a0.Fall.Y.bits) : C) = (.flt .f32 a0.Fall.Y.bits)) ∧ (((.flt .f32 a0.Fall.Z.bits) : C) = (.flt .f32 a0.Fall.Z.bits)) ∧ True) ∧ True) ∧ CallOK Try.prog 101 [.agg (cs_Vector a0.Fall)] [.agg (cs_Vector v9)]) ∧ True ∧ True ∧ True) (by kernel_rfl) ⟨trivial, trivial, ⟨⟨⟨rfl, rfl, rfl, trivial⟩, trivial⟩, ok_laws_toVector K a0.Fall v9 e10⟩, trivial, trivial, trivial⟩ ?_
  refine thenQ_normal ?_
  refine AW.seq ?_
  refine AW.regionA [] [1, 2, 3] [1, 2, 3, 4, 5, 6, 7] (s' := ⟨[(1, (.v (.one (.ptr 1 0)))), (2, (.v (.one (.ptr 2 0)))), (3, (.v (.one (.ptr 3 0))))], [(1, (.box [(.c (sl 3 cs_Vector a0.Points)), (.c (sl 3 cs_Vector a0.Before)), (.c (sl 1 csB a0.Fixed)), (.c (sl 1 (csF .f32) a0.Lengths)), (.c (.flt .f32 a0.Fall.X.bits)), (.c (.flt .f32 a0.Fall.Y.bits)), (.c (.flt .f32 a0.Fall.Z.bits)), (.c (.flt .f32 a0.Damp.bits)), (.c (.int .i64 a0.Passes))])), (2, (.box [.nils, .nils, .nils, .nils, (.c (.flt .f32 (default : F32).bits)), (.c (.flt .f32 (default : F32).bits)), (.c (.flt .f32 (default : F32).bits)), (.c (.flt .f32 (default : F32).bits)), (.c (.int .i64 (0 : Int)))])), (3, (.box [(.lst 4 v1.length 3 (gl cs_Vector v1)), (.lst 5 v3.length 3 (gl cs_Vector v3)), (.lst 6 v5.length 1 (gl csB v5)), (.lst 7 v7.length 1 (gl (csF .f32) v7)), (.c (.flt .f32 v9.X.bits)), (.c (.flt .f32 v9.Y.bits)), (.c (.flt .f32 v9.Z.bits)), (.c (.flt .f32 a0.Damp.bits)), (.c (.int .i64 (0 : Int)))])), (4, (.lst v1.length 3 (gl cs_Vector v1))), (5, (.lst v3.length 3 (gl cs_Vector v3))), (6, (.lst v5.length 1 (gl csB v5))), (7, (.lst v7.length 1 (gl (csF .f32) v7)))]⟩) (ob := True ∧ True ∧ True ∧ True ∧ True) (by kernel_rfl) ⟨trivial, trivial, trivial, trivial, trivial⟩ ?_
  refine thenQ_normal ?_
  refine AW.seq ?_
  refine AW.regionA [] [2, 3] [2, 3, 4, 5, 6, 7] (s' := ⟨[(2, (.v (.one (.ptr 2 0)))), (3, (.v (.one (.ptr 3 0))))], [(2, (.box [.nils, .nils, .nils, .nils, (.c (.flt .f32 (default : F32).bits)), (.c (.flt .f32 (default : F32).bits)), (.c (.flt .f32 (default : F32).bits)), (.c (.flt .f32 (default : F32).bits)), (.c (.int .i64 (0 : Int)))])), (3, (.box [(.lst 4 v1.length 3 (gl cs_Vector v1)), (.lst 5 v3.length 3 (gl cs_Vector v3)), (.lst 6 v5.length 1 (gl csB v5)), (.lst 7 v7.length 1 (gl (csF .f32) v7)), (.c (.flt .f32 v9.X.bits)), (.c (.flt .f32 v9.Y.bits)), (.c (.flt .f32 v9.Z.bits)), (.c (.flt .f32 a0.Damp.bits)), (.c (.int .i64 a0.Passes))])), (4, (.lst v1.length 3 (gl cs_Vector v1))), (5, (.lst v3.length 3 (gl cs_Vector v3))), (6, (.lst v5.length 1 (gl csB v5))), (7, (.lst v7.length 1 (gl (csF .f32) v7)))]⟩) (ob := True ∧ True ∧ True ∧ True ∧ True) (by kernel_rfl) ⟨trivial, trivial, trivial, trivial, trivial⟩ ?_
  refine thenQ_normal ?_
  refine AW.seq ?_
  refine AW.regionA [] [2] [2, 4, 5, 6, 7] (s' := ⟨[(2, (.v (.one (.ptr 2 0))))], [(2, (.box [(.lst 4 v1.length 3 (gl cs_Vector v1)), (.lst 5 v3.length 3 (gl cs_Vector v3)), (.lst 6 v5.length 1 (gl csB v5)), (.lst 7 v7.length 1 (gl (csF .f32) v7)), (.c (.flt .f32 v9.X.bits)), (.c (.flt .f32 v9.Y.bits)), (.c (.flt .f32 v9.Z.bits)), (.c (.flt .f32 a0.Damp.bits)), (.c (.int .i64 a0.Passes))])), (4, (.lst v1.length 3 (gl cs_Vector v1))), (5, (.lst v3.length 3 (gl cs_Vector v3))), (6, (.lst v5.length 1 (gl csB v5))), (7, (.lst v7.length 1 (gl (csF .f32) v7)))]⟩) (ob := True ∧ True ∧ True) (by kernel_rfl) ⟨trivial, trivial, trivial⟩ ?_
  refine thenQ_normal ?_
  refine AW.ret ?_
  replace h := some_eq h
  subst h
  exact ⟨.inr rfl, retOK_of [(.agg [(.lst 4 v1.length 3 (gl cs_Vector v1)), (.lst 5 v3.length 3 (gl cs_Vector v3)), (.lst 6 v5.length 1 (gl csB v5)), (.lst 7 v7.length 1 (gl (csF .f32) v7)), (.c (.flt .f32 v9.X.bits)), (.c (.flt .f32 v9.Y.bits)), (.c (.flt .f32 v9.Z.bits)), (.c (.flt .f32 a0.Damp.bits)), (.c (.int .i64 a0.Passes))])] (by kernel_rfl) ⟨⟨rfl, rfl, rfl, rfl, ⟨rfl, trivial⟩, ⟨rfl, trivial⟩, ⟨rfl, trivial⟩, ⟨rfl, trivial⟩, ⟨rfl, trivial⟩, trivial⟩, trivial⟩ (of_decide_eq_true (by kernel_rfl))⟩

/-! spec.l00In -/
def spec_l00In (_K : Nat) (a0 : Int) (a1 : Int) (a2 : Int) : Option (Bool) :=
  (ite2 ((decide (a0 ≥ a1))) (some (decide (a0 ≤ a2))) (some false)).bind fun j2 => some j2

theorem ok_spec_l00In (K : Nat) (a0 : Int) (a1 : Int) (a2 : Int) (o : (Bool)) (h : spec_l00In K a0 a1 a2 = some o) : CallOK Try.prog 116 [.one (.int .i64 a0), .one (.int .i64 a1), .one (.int .i64 a2)] [.one (.bool o)] := by
  refine callOK_of_AW Try.func116 rfl (by kernel_rfl) (Nat.le_of_ble_eq_true (by kernel_rfl)) ?_
  intro w0
  unfold spec_l00In at h
  refine AW.seq ?_
  refine AW.regionA [] [0, 1, 2] [] (s' := ⟨[(0, (.v (.one (.c (.int .i64 a0))))), (1, (.v (.one (.c (.int .i64 a1))))), (2, (.v (.one (.c (.int .i64 a2)))))], []⟩) (ob := True ∧ True) (by kernel_rfl) ⟨trivial, trivial⟩ ?_
  refine thenQ_normal ?_
  refine AW.seq ?_
  obtain ⟨j2, e3, h⟩ := bind_some h
  refine AW.join1 (s2 := ⟨[(6, (.v (.one (.c (.bool j2)))))], []⟩) ?_ ?_
  · rcases ite2_cases e3 with ⟨b1, e3⟩ | ⟨b1, e3⟩
    · replace e3 := some_eq e3
      subst e3
      exact AW.regionA [.no, .no, .no, .dec true] [6] [] (s' := ⟨[(6, (.v (.one (.c (.bool (decide (a0 ≤ a2)))))))], []⟩) (ob := True ∧ True ∧ True ∧ (True ∧ (decide (a0 ≥ a1)) = true) ∧ True ∧ True ∧ True ∧ True ∧ True ∧ True) (by kernel_rfl) ⟨trivial, trivial, trivial, ⟨trivial, b1⟩, trivial, trivial, trivial, trivial, trivial, trivial⟩ ⟨rfl, rfl⟩
    · replace e3 := some_eq e3
      subst e3
      exact AW.regionA [.no, .no, .no, .dec false] [6] [] (s' := ⟨[(6, (.v (.one (.c (.bool false)))))], []⟩) (ob := True ∧ True ∧ True ∧ (True ∧ (decide (a0 ≥ a1)) = false) ∧ True ∧ True ∧ True ∧ True ∧ True ∧ True) (by kernel_rfl) ⟨trivial, trivial, trivial, ⟨trivial, b1⟩, trivial, trivial, trivial, trivial, trivial, trivial⟩ ⟨rfl, rfl⟩
  refine thenQ_normal ?_
  refine AW.ret ?_
  replace h := some_eq h
  subst h
  exact ⟨.inr rfl, retOK_of [(.one (.c (.bool j2)))] (by kernel_rfl) ⟨⟨rfl, trivial⟩, trivial⟩ (of_decide_eq_true (by kernel_rfl))⟩

/-! spec.l04Points -/
def spec_l04Points (K : Nat) (a0 : (List Vector)) : Option (Bool) :=
  (spec_l00In K (a0.length : Int) (2 : Int) (16 : Int)).bind fun v1 => some v1

theorem ok_spec_l04Points (K : Nat) (a0 : (List Vector)) (o : (Bool)) (h : spec_l04Points K a0 = some o) : CallOK Try.prog 195 [.one (sl 3 cs_Vector a0)] [.one (.bool o)] := by
  refine callOK_of_AW Try.func195 rfl (by kernel_rfl) (Nat.le_of_ble_eq_true (by kernel_rfl)) ?_
  intro w0
  unfold spec_l04Points at h
  refine AW.seq ?_
  refine AW.regionA [] [0] [] (s' := ⟨[(0, (.v (.one (.c (sl 3 cs_Vector a0)))))], []⟩) (ob := True ∧ True) (by kernel_rfl) ⟨trivial, trivial⟩ ?_
  refine thenQ_normal ?_
  refine AW.seq ?_
  obtain ⟨v1, e2, h⟩ := bind_some h
  refine AW.regionA [.no, .no, .call [.one (.int .i64 (a0.length : Int)), .one (.int .i64 (2 : Int)), .one (.int .i64 (16 : Int))] [.one (.bool v1)] [[.view]]] [2] [] (s' := ⟨[(2, (.v (.one (.c (.bool v1)))))], []⟩) (ob := True ∧ True ∧ (((((.int .i64 (a0.length : Int)) : C) = (.int .i64 (a0.length : Int))) ∧ (((.int .i64 (2 : Int)) : C) = (.int .i64 (2 : Int))) ∧ (((.int .i64 (16 : Int)) : C) = (.int .i64 (16 : Int))) ∧ True) ∧ CallOK Try.prog 116 [.one (.int .i64 (a0.length : Int)), .one (.int .i64 (2 : Int)), .one (.int .i64 (16 : Int))] [.one (.bool v1)]) ∧ True ∧ True) (by kernel_rfl) ⟨trivial, trivial, ⟨⟨rfl, rfl, rfl, trivial⟩, ok_spec_l00In K (a0.length : Int) (2 : Int) (16 : Int) v1 e2⟩, trivial, trivial⟩ ?_
  refine thenQ_normal ?_
  refine AW.ret ?_
  replace h := some_eq h
  subst h
  exact ⟨.inr rfl, retOK_of [(.one (.c (.bool v1)))] (by kernel_rfl) ⟨⟨rfl, trivial⟩, trivial⟩ (of_decide_eq_true (by kernel_rfl))⟩

/-! spec.l08Is -/
def spec_l08Is (K : Nat) (a0 : String) : Option (Bool) :=
  (spec_l04Points K a0.Points).bind fun v1 => (ite2 (v1) (ite2 (((a0.Before.length : Int) == (a0.Points.length : Int))) (ite2 (((a0.Fixed.length : Int) == (a0.Points.length : Int))) (ite2 (((a0.Lengths.length : Int) == (IntKind.i64.wrap ((a0.Points.length : Int) - (1 : Int))))) ((spec_l00In K a0.Passes (0 : Int) (16 : Int)).bind fun v7 => some v7) (some false)) (some false)) (some false)) (some false)).bind fun j9 => some j9

theorem ok_spec_l08Is (K : Nat) (a0 : String) (o : (Bool)) (h : spec_l08Is K a0 = some o) : CallOK Try.prog 95 [.one (pl 9 cs_String a0)] [.one (.bool o)] := by
  refine callOK_of_AW Try.func95 rfl (by kernel_rfl) (Nat.le_of_ble_eq_true (by kernel_rfl)) ?_
  intro w0
  unfold spec_l08Is at h
  refine AW.seq ?_
  refine AW.regionA [] [0] [] (s' := ⟨[(0, (.v (.one (.c (pl 9 cs_String a0)))))], []⟩) (ob := True ∧ True) (by kernel_rfl) ⟨trivial, trivial⟩ ?_
  refine thenQ_normal ?_
  refine AW.seq ?_
  refine AW.regionA [] [0, 3] [] (s' := ⟨[(0, (.v (.one (.c (pl 9 cs_String a0))))), (3, (.v (.one (.c (.int .i64 (a0.Points.length : Int))))))], []⟩) (ob := True ∧ True ∧ True ∧ True ∧ True ∧ True ∧ True) (by kernel_rfl) ⟨trivial, trivial, trivial, trivial, trivial, trivial, trivial⟩ ?_
  refine thenQ_normal ?_
  refine AW.seq ?_
  obtain ⟨v1, e2, h⟩ := bind_some h
  obtain ⟨j9, e10, h⟩ := bind_some h
  refine AW.join1 (s2 := ⟨[(2, (.v (.one (.c (.bool j9)))))], []⟩) ?_ ?_
  · rcases ite2_cases e10 with ⟨b3, e10⟩ | ⟨b3, e10⟩
    · rcases ite2_cases e10 with ⟨b4, e10⟩ | ⟨b4, e10⟩
      · rcases ite2_cases e10 with ⟨b5, e10⟩ | ⟨b5, e10⟩
        · rcases ite2_cases e10 with ⟨b6, e10⟩ | ⟨b6, e10⟩
          · obtain ⟨v7, e8, e10⟩ := bind_some e10
            replace e10 := some_eq e10
            subst e10
            exact AW.regionA [.no, .no, .no, .no, .call [.one (sl 3 cs_Vector a0.Points)] [.one (.bool v1)] [[.view]], .dec true, .no, .no, .no, .no, .no, .no, .no, .no, .dec true, .no, .no, .no, .no, .no, .no, .no, .no, .dec true, .no, .no, .no, .no, .no, .no, .no, .no, .no, .dec true, .no, .no, .no, .no, .call [.one (.int .i64 a0.Passes), .one (.int .i64 (0 : Int)), .one (.int .i64 (16 : Int))] [.one (.bool v7)] [[.view]]] [2] [] (s' := ⟨[(2, (.v (.one (.c (.bool v7)))))], []⟩) (ob := True ∧ True ∧ True ∧ True ∧ (((((sl 3 cs_Vector a0.Points) : C) = (sl 3 cs_Vector a0.Points)) ∧ True) ∧ CallOK Try.prog 195 [.one (sl 3 cs_Vector a0.Points)] [.one (.bool v1)]) ∧ (True ∧ v1 = true) ∧ True ∧ True ∧ True ∧ True ∧ True ∧ True ∧ True ∧ True ∧ (True ∧ ((a0.Before.length : Int) == (a0.Points.length : Int)) = true) ∧ True ∧ True ∧ True ∧ True ∧ True ∧ True ∧ True ∧ True ∧ (True ∧ ((a0.Fixed.length : Int) == (a0.Points.length : Int)) = true) ∧ True ∧ True ∧ True ∧ True ∧ True ∧ True ∧ True ∧ True ∧ True ∧ (True ∧ ((a0.Lengths.length : Int) == (IntKind.i64.wrap ((a0.Points.length : Int) - (1 : Int)))) = true) ∧ True ∧ True ∧ True ∧ True ∧ (((((.int .i64 a0.Passes) : C) = (.int .i64 a0.Passes)) ∧ (((.int .i64 (0 : Int)) : C) = (.int .i64 (0 : Int))) ∧ (((.int .i64 (16 : Int)) : C) = (.int .i64 (16 : Int))) ∧ True) ∧ CallOK Try.prog 116 [.one (.int .i64 a0.Passes), .one (.int .i64 (0 : Int)), .one (.int .i64 (16 : Int))] [.one (.bool v7)]) ∧ True ∧ True ∧ True) (by kernel_rfl) ⟨trivial, trivial, trivial, trivial, ⟨⟨rfl, trivial⟩, ok_spec_l04Points K a0.Points v1 e2⟩, ⟨trivial, b3⟩, trivial, trivial, trivial, trivial, trivial, trivial, trivial, trivial, ⟨trivial, b4⟩, trivial, trivial, trivial, trivial, trivial, trivial, trivial, trivial, ⟨trivial, b5⟩, trivial, trivial, trivial, trivial, trivial, trivial, trivial, trivial, trivial, ⟨trivial, b6⟩, trivial, trivial, trivial, trivial, ⟨⟨rfl, rfl, rfl, trivial⟩, ok_spec_l00In K a0.Passes (0 : Int) (16 : Int) v7 e8⟩, trivial, trivial, trivial⟩ ⟨rfl, rfl⟩
          · replace e10 := some_eq e10
            subst e10
            exact AW.regionA [.no, .no, .no, .no, .call [.one (sl 3 cs_Vector a0.Points)] [.one (.bool v1)] [[.view]], .dec true, .no, .no, .no, .no, .no, .no, .no, .no, .dec true, .no, .no, .no, .no, .no, .no, .no, .no, .dec true, .no, .no, .no, .no, .no, .no, .no, .no, .no, .dec false] [2] [] (s' := ⟨[(2, (.v (.one (.c (.bool false)))))], []⟩) (ob := True ∧ True ∧ True ∧ True ∧ (((((sl 3 cs_Vector a0.Points) : C) = (sl 3 cs_Vector a0.Points)) ∧ True) ∧ CallOK Try.prog 195 [.one (sl 3 cs_Vector a0.Points)] [.one (.bool v1)]) ∧ (True ∧ v1 = true) ∧ True ∧ True ∧ True ∧ True ∧ True ∧ True ∧ True ∧ True ∧ (True ∧ ((a0.Before.length : Int) == (a0.Points.length : Int)) = true) ∧ True ∧ True ∧ True ∧ True ∧ True ∧ True ∧ True ∧ True ∧ (True ∧ ((a0.Fixed.length : Int) == (a0.Points.length : Int)) = true) ∧ True ∧ True ∧ True ∧ True ∧ True ∧ True ∧ True ∧ True ∧ True ∧ (True ∧ ((a0.Lengths.length : Int) == (IntKind.i64.wrap ((a0.Points.length : Int) - (1 : Int)))) = false) ∧ True ∧ True ∧ True ∧ True ∧ True ∧ True ∧ True ∧ True) (by kernel_rfl) ⟨trivial, trivial, trivial, trivial, ⟨⟨rfl, trivial⟩, ok_spec_l04Points K a0.Points v1 e2⟩, ⟨trivial, b3⟩, trivial, trivial, trivial, trivial, trivial, trivial, trivial, trivial, ⟨trivial, b4⟩, trivial, trivial, trivial, trivial, trivial, trivial, trivial, trivial, ⟨trivial, b5⟩, trivial, trivial, trivial, trivial, trivial, trivial, trivial, trivial, trivial, ⟨trivial, b6⟩, trivial, trivial, trivial, trivial, trivial, trivial, trivial, trivial⟩ ⟨rfl, rfl⟩
        · replace e10 := some_eq e10
          subst e10
          exact AW.regionA [.no, .no, .no, .no, .call [.one (sl 3 cs_Vector a0.Points)] [.one (.bool v1)] [[.view]], .dec true, .no, .no, .no, .no, .no, .no, .no, .no, .dec true, .no, .no, .no, .no, .no, .no, .no, .no, .dec false] [2] [] (s' := ⟨[(2, (.v (.one (.c (.bool false)))))], []⟩) (ob := True ∧ True ∧ True ∧ True ∧ (((((sl 3 cs_Vector a0.Points) : C) = (sl 3 cs_Vector a0.Points)) ∧ True) ∧ CallOK Try.prog 195 [.one (sl 3 cs_Vector a0.Points)] [.one (.bool v1)]) ∧ (True ∧ v1 = true) ∧ True ∧ True ∧ True ∧ True ∧ True ∧ True ∧ True ∧ True ∧ (True ∧ ((a0.Before.length : Int) == (a0.Points.length : Int)) = true) ∧ True ∧ True ∧ True ∧ True ∧ True ∧ True ∧ True ∧ True ∧ (True ∧ ((a0.Fixed.length : Int) == (a0.Points.length : Int)) = false) ∧ True ∧ True ∧ True ∧ True ∧ True ∧ True ∧ True ∧ True ∧ True ∧ True ∧ True ∧ True ∧ True ∧ True ∧ True ∧ True ∧ True ∧ True) (by kernel_rfl) ⟨trivial, trivial, trivial, trivial, ⟨⟨rfl, trivial⟩, ok_spec_l04Points K a0.Points v1 e2⟩, ⟨trivial, b3⟩, trivial, trivial, trivial, trivial, trivial, trivial, trivial, trivial, ⟨trivial, b4⟩, trivial, trivial, trivial, trivial, trivial, trivial, trivial, trivial, ⟨trivial, b5⟩, trivial, trivial, trivial, trivial, trivial, trivial, trivial, trivial, trivial, trivial, trivial, trivial, trivial, trivial, trivial, trivial, trivial, trivial⟩ ⟨rfl, rfl⟩
      · replace e10 := some_eq e10
        subst e10
        exact AW.regionA [.no, .no, .no, .no, .call [.one (sl 3 cs_Vector a0.Points)] [.one (.bool v1)] [[.view]], .dec true, .no, .no, .no, .no, .no, .no, .no, .no, .dec false] [2] [] (s' := ⟨[(2, (.v (.one (.c (.bool false)))))], []⟩) (ob := True ∧ True ∧ True ∧ True ∧ (((((sl 3 cs_Vector a0.Points) : C) = (sl 3 cs_Vector a0.Points)) ∧ True) ∧ CallOK Try.prog 195 [.one (sl 3 cs_Vector a0.Points)] [.one (.bool v1)]) ∧ (True ∧ v1 = true) ∧ True ∧ True ∧ True ∧ True ∧ True ∧ True ∧ True ∧ True ∧ (True ∧ ((a0.Before.length : Int) == (a0.Points.length : Int)) = false) ∧ True ∧ True ∧ True ∧ True ∧ True ∧ True ∧ True ∧ True ∧ True ∧ True ∧ True ∧ True ∧ True ∧ True ∧ True ∧ True ∧ True ∧ True ∧ True ∧ True ∧ True ∧ True ∧ True ∧ True ∧ True ∧ True ∧ True) (by kernel_rfl) ⟨trivial, trivial, trivial, trivial, ⟨⟨rfl, trivial⟩, ok_spec_l04Points K a0.Points v1 e2⟩, ⟨trivial, b3⟩, trivial, trivial, trivial, trivial, trivial, trivial, trivial, trivial, ⟨trivial, b4⟩, trivial, trivial, trivial, trivial, trivial, trivial, trivial, trivial, trivial, trivial, trivial, trivial, trivial, trivial, trivial, trivial, trivial, trivial, trivial, trivial, trivial, trivial, trivial, trivial, trivial, trivial, trivial⟩ ⟨rfl, rfl⟩
    · replace e10 := some_eq e10
      subst e10
      exact AW.regionA [.no, .no, .no, .no, .call [.one (sl 3 cs_Vector a0.Points)] [.one (.bool v1)] [[.view]], .dec false] [2] [] (s' := ⟨[(2, (.v (.one (.c (.bool false)))))], []⟩) (ob := True ∧ True ∧ True ∧ True ∧ (((((sl 3 cs_Vector a0.Points) : C) = (sl 3 cs_Vector a0.Points)) ∧ True) ∧ CallOK Try.prog 195 [.one (sl 3 cs_Vector a0.Points)] [.one (.bool v1)]) ∧ (True ∧ v1 = false) ∧ True ∧ True ∧ True ∧ True ∧ True ∧ True ∧ True ∧ True ∧ True ∧ True ∧ True ∧ True ∧ True ∧ True ∧ True ∧ True ∧ True ∧ True ∧ True ∧ True ∧ True ∧ True ∧ True ∧ True ∧ True ∧ True ∧ True ∧ True ∧ True ∧ True ∧ True ∧ True ∧ True ∧ True ∧ True ∧ True) (by kernel_rfl) ⟨trivial, trivial, trivial, trivial, ⟨⟨rfl, trivial⟩, ok_spec_l04Points K a0.Points v1 e2⟩, ⟨trivial, b3⟩, trivial, trivial, trivial, trivial, trivial, trivial, trivial, trivial, trivial, trivial, trivial, trivial, trivial, trivial, trivial, trivial, trivial, trivial, trivial, trivial, trivial, trivial, trivial, trivial, trivial, trivial, trivial, trivial, trivial, trivial, trivial, trivial, trivial, trivial, trivial, trivial⟩ ⟨rfl, rfl⟩
  refine thenQ_normal ?_
  refine AW.ret ?_
  replace h := some_eq h
  subst h
  exact ⟨.inr rfl, retOK_of [(.one (.c (.bool j9)))] (by kernel_rfl) ⟨⟨rfl, trivial⟩, trivial⟩ (of_decide_eq_true (by kernel_rfl))⟩

/-! spec.l08Own -/
def spec_l08Own (_K : Nat) (a0 : String) : Option (String) :=
  chk ((([] : List Vector).length + a0.Points.length) * 12 ≤ 140737488355328) (chk ((([] : List Vector).length + a0.Before.length) * 12 ≤ 140737488355328) (chk ((([] : List Bool).length + a0.Fixed.length) * 1 ≤ 140737488355328) (chk ((([] : List F32).length + a0.Lengths.length) * 4 ≤ 140737488355328) (some (String.mk (([] : List Vector) ++ a0.Points) (([] : List Vector) ++ a0.Before) (([] : List Bool) ++ a0.Fixed) (([] : List F32) ++ a0.Lengths) a0.Fall a0.Damp a0.Passes)))))

theorem ok_spec_l08Own (K : Nat) (a0 : String) (o : (String)) (h : spec_l08Own K a0 = some o) : CallOK Try.prog 96 [.one (pl 9 cs_String a0)] [.agg (cs_String o)] := by
  refine callOK_of_AW Try.func96 rfl (by kernel_rfl) (Nat.le_of_ble_eq_true (by kernel_rfl)) ?_
  intro w0
  unfold spec_l08Own at h
  refine AW.seq ?_
  refine AW.regionA [.box 1] [0, 2] [1] (s' := ⟨[(0, (.v (.one (.c (pl 9 cs_String a0))))), (2, (.v (.one (.ptr 1 0))))], [(1, (.box [.nils, .nils, .nils, .nils, (.c (.flt .f32 (default : F32).bits)), (.c (.flt .f32 (default : F32).bits)), (.c (.flt .f32 (default : F32).bits)), (.c (.flt .f32 (default : F32).bits)), (.c (.int .i64 (0 : Int)))]))]⟩) (ob := True ∧ True) (by kernel_rfl) ⟨trivial, trivial⟩ ?_
  refine thenQ_normal ?_
  refine AW.seq ?_
  refine AW.regionA [.no, .no, .no, .box 2] [0, 2, 3] [1, 2] (s' := ⟨[(0, (.v (.one (.c (pl 9 cs_String a0))))), (2, (.v (.one (.ptr 1 0)))), (3, (.v (.one (.ptr 2 0))))], [(1, (.box [.nils, .nils, .nils, .nils, (.c (.flt .f32 (default : F32).bits)), (.c (.flt .f32 (default : F32).bits)), (.c (.flt .f32 (default : F32).bits)), (.c (.flt .f32 (default : F32).bits)), (.c (.int .i64 (0 : Int)))])), (2, (.box [(.c (sl 3 cs_Vector a0.Points)), (.c (sl 3 cs_Vector a0.Before)), (.c (sl 1 csB a0.Fixed)), (.c (sl 1 (csF .f32) a0.Lengths)), (.c (.flt .f32 a0.Fall.X.bits)), (.c (.flt .f32 a0.Fall.Y.bits)), (.c (.flt .f32 a0.Fall.Z.bits)), (.c (.flt .f32 a0.Damp.bits)), (.c (.int .i64 a0.Passes))]))]⟩) (ob := True ∧ True ∧ True ∧ True ∧ True ∧ True) (by kernel_rfl) ⟨trivial, trivial, trivial, trivial, trivial, trivial⟩ ?_
  refine thenQ_normal ?_
  refine AW.seq ?_
  obtain ⟨c1, h⟩ := chk_some h
  refine AW.regionA [.obj 3 ([] : List Vector).length (gl cs_Vector ([] : List Vector)), .no, .no, .no, .no, .obj 4 (([] : List Vector) ++ a0.Points).length (gl cs_Vector (([] : List Vector) ++ a0.Points))] [0, 2, 3] [1, 2, 4] (s' := ⟨[(0, (.v (.one (.c (pl 9 cs_String a0))))), (2, (.v (.one (.ptr 1 0)))), (3, (.v (.one (.ptr 2 0))))], [(1, (.box [.nils, .nils, .nils, .nils, (.c (.flt .f32 (default : F32).bits)), (.c (.flt .f32 (default : F32).bits)), (.c (.flt .f32 (default : F32).bits)), (.c (.flt .f32 (default : F32).bits)), (.c (.int .i64 (0 : Int)))])), (2, (.box [(.lst 4 (([] : List Vector) ++ a0.Points).length 3 (gl cs_Vector (([] : List Vector) ++ a0.Points))), (.c (sl 3 cs_Vector a0.Before)), (.c (sl 1 csB a0.Fixed)), (.c (sl 1 (csF .f32) a0.Lengths)), (.c (.flt .f32 a0.Fall.X.bits)), (.c (.flt .f32 a0.Fall.Y.bits)), (.c (.flt .f32 a0.Fall.Z.bits)), (.c (.flt .f32 a0.Damp.bits)), (.c (.int .i64 a0.Passes))])), (4, (.lst (([] : List Vector) ++ a0.Points).length 3 (gl cs_Vector (([] : List Vector) ++ a0.Points))))]⟩) (ob := (([] : List Vector).length = 0 ∧ True) ∧ True ∧ True ∧ True ∧ True ∧ ((([] : List Vector) ++ a0.Points).length = ([] : List Vector).length + a0.Points.length ∧ AppOb (([] : List Vector).length) (a0.Points.length) 3 (gl cs_Vector ([] : List Vector)) (gl cs_Vector a0.Points) (gl cs_Vector (([] : List Vector) ++ a0.Points)) ∧ (∀ i j, i < a0.Points.length → j < 3 → scalarC (gl cs_Vector a0.Points i j)) ∧ (([] : List Vector).length + a0.Points.length) * 12 ≤ 140737488355328) ∧ True ∧ True ∧ True) (by kernel_rfl) ⟨⟨rfl, trivial⟩, trivial, trivial, trivial, trivial, ⟨List.length_append, gl_append, gl_scalar sc_Vector _, c1⟩, trivial, trivial, trivial⟩ ?_
  refine thenQ_normal ?_
  refine AW.seq ?_
  obtain ⟨c2, h⟩ := chk_some h
  refine AW.regionA [.obj 5 ([] : List Vector).length (gl cs_Vector ([] : List Vector)), .no, .no, .no, .no, .obj 6 (([] : List Vector) ++ a0.Before).length (gl cs_Vector (([] : List Vector) ++ a0.Before))] [0, 2, 3] [1, 2, 4, 6] (s' := ⟨[(0, (.v (.one (.c (pl 9 cs_String a0))))), (2, (.v (.one (.ptr 1 0)))), (3, (.v (.one (.ptr 2 0))))], [(1, (.box [.nils, .nils, .nils, .nils, (.c (.flt .f32 (default : F32).bits)), (.c (.flt .f32 (default : F32).bits)), (.c (.flt .f32 (default : F32).bits)), (.c (.flt .f32 (default : F32).bits)), (.c (.int .i64 (0 : Int)))])), (2, (.box [(.lst 4 (([] : List Vector) ++ a0.Points).length 3 (gl cs_Vector (([] : List Vector) ++ a0.Points))), (.lst 6 (([] : List Vector) ++ a0.Before).length 3 (gl cs_Vector (([] : List Vector) ++ a0.Before))), (.c (sl 1 csB a0.Fixed)), (.c (sl 1 (csF .f32) a0.Lengths)), (.c (.flt .f32 a0.Fall.X.bits)), (.c (.flt .f32 a0.Fall.Y.bits)), (.c (.flt .f32 a0.Fall.Z.bits)), (.c (.flt .f32 a0.Damp.bits)), (.c (.int .i64 a0.Passes))])), (4, (.lst (([] : List Vector) ++ a0.Points).length 3 (gl cs_Vector (([] : List Vector) ++ a0.Points)))), (6, (.lst (([] : List Vector) ++ a0.Before).length 3 (gl cs_Vector (([] : List Vector) ++ a0.Before))))]⟩) (ob := (([] : List Vector).length = 0 ∧ True) ∧ True ∧ True ∧ True ∧ True ∧ ((([] : List Vector) ++ a0.Before).length = ([] : List Vector).length + a0.Before.length ∧ AppOb (([] : List Vector).length) (a0.Before.length) 3 (gl cs_Vector ([] : List Vector)) (gl cs_Vector a0.Before) (gl cs_Vector (([] : List Vector) ++ a0.Before)) ∧ (∀ i j, i < a0.Before.length → j < 3 → scalarC (gl cs_Vector a0.Before i j)) ∧ (([] : List Vector).length + a0.Before.length) * 12 ≤ 140737488355328) ∧ True ∧ True ∧ True) (by kernel_rfl) ⟨⟨rfl, trivial⟩, trivial, trivial, trivial, trivial, ⟨List.length_append, gl_append, gl_scalar sc_Vector _, c2⟩, trivial, trivial, trivial⟩ ?_
  refine thenQ_normal ?_
  refine AW.seq ?_
  obtain ⟨c3, h⟩ := chk_some h
  refine AW.regionA [.obj 7 ([] : List Bool).length (gl csB ([] : List Bool)), .no, .no, .no, .no, .obj 8 (([] : List Bool) ++ a0.Fixed).length (gl csB (([] : List Bool) ++ a0.Fixed))] [0, 2, 3] [1, 2, 4, 6, 8] (s' := ⟨[(0, (.v (.one (.c (pl 9 cs_String a0))))), (2, (.v (.one (.ptr 1 0)))), (3, (.v (.one (.ptr 2 0))))], [(1, (.box [.nils, .nils, .nils, .nils, (.c (.flt .f32 (default : F32).bits)), (.c (.flt .f32 (default : F32).bits)), (.c (.flt .f32 (default : F32).bits)), (.c (.flt .f32 (default : F32).bits)), (.c (.int .i64 (0 : Int)))])), (2, (.box [(.lst 4 (([] : List Vector) ++ a0.Points).length 3 (gl cs_Vector (([] : List Vector) ++ a0.Points))), (.lst 6 (([] : List Vector) ++ a0.Before).length 3 (gl cs_Vector (([] : List Vector) ++ a0.Before))), (.lst 8 (([] : List Bool) ++ a0.Fixed).length 1 (gl csB (([] : List Bool) ++ a0.Fixed))), (.c (sl 1 (csF .f32) a0.Lengths)), (.c (.flt .f32 a0.Fall.X.bits)), (.c (.flt .f32 a0.Fall.Y.bits)), (.c (.flt .f32 a0.Fall.Z.bits)), (.c (.flt .f32 a0.Damp.bits)), (.c (.int .i64 a0.Passes))])), (4, (.lst (([] : List Vector) ++ a0.Points).length 3 (gl cs_Vector (([] : List Vector) ++ a0.Points)))), (6, (.lst (([] : List Vector) ++ a0.Before).length 3 (gl cs_Vector (([] : List Vector) ++ a0.Before)))), (8, (.lst (([] : List Bool) ++ a0.Fixed).length 1 (gl csB (([] : List Bool) ++ a0.Fixed))))]⟩) (ob := (([] : List Bool).length = 0 ∧ True) ∧ True ∧ True ∧ True ∧ True ∧ ((([] : List Bool) ++ a0.Fixed).length = ([] : List Bool).length + a0.Fixed.length ∧ AppOb (([] : List Bool).length) (a0.Fixed.length) 1 (gl csB ([] : List Bool)) (gl csB a0.Fixed) (gl csB (([] : List Bool) ++ a0.Fixed)) ∧ (∀ i j, i < a0.Fixed.length → j < 1 → scalarC (gl csB a0.Fixed i j)) ∧ (([] : List Bool).length + a0.Fixed.length) * 1 ≤ 140737488355328) ∧ True ∧ True ∧ True) (by kernel_rfl) ⟨⟨rfl, trivial⟩, trivial, trivial, trivial, trivial, ⟨List.length_append, gl_append, gl_scalar scB _, c3⟩, trivial, trivial, trivial⟩ ?_
  refine thenQ_normal ?_
  refine AW.seq ?_
  obtain ⟨c4, h⟩ := chk_some h
  refine AW.regionA [.obj 9 ([] : List F32).length (gl (csF .f32) ([] : List F32)), .no, .no, .no, .no, .obj 10 (([] : List F32) ++ a0.Lengths).length (gl (csF .f32) (([] : List F32) ++ a0.Lengths))] [2, 3] [1, 2, 4, 6, 8, 10] (s' := ⟨[(2, (.v (.one (.ptr 1 0)))), (3, (.v (.one (.ptr 2 0))))], [(1, (.box [.nils, .nils, .nils, .nils, (.c (.flt .f32 (default : F32).bits)), (.c (.flt .f32 (default : F32).bits)), (.c (.flt .f32 (default : F32).bits)), (.c (.flt .f32 (default : F32).bits)), (.c (.int .i64 (0 : Int)))])), (2, (.box [(.lst 4 (([] : List Vector) ++ a0.Points).length 3 (gl cs_Vector (([] : List Vector) ++ a0.Points))), (.lst 6 (([] : List Vector) ++ a0.Before).length 3 (gl cs_Vector (([] : List Vector) ++ a0.Before))), (.lst 8 (([] : List Bool) ++ a0.Fixed).length 1 (gl csB (([] : List Bool) ++ a0.Fixed))), (.lst 10 (([] : List F32) ++ a0.Lengths).length 1 (gl (csF .f32) (([] : List F32) ++ a0.Lengths))), (.c (.flt .f32 a0.Fall.X.bits)), (.c (.flt .f32 a0.Fall.Y.bits)), (.c (.flt .f32 a0.Fall.Z.bits)), (.c (.flt .f32 a0.Damp.bits)), (.c (.int .i64 a0.Passes))])), (4, (.lst (([] : List Vector) ++ a0.Points).length 3 (gl cs_Vector (([] : List Vector) ++ a0.Points)))), (6, (.lst (([] : List Vector) ++ a0.Before).length 3 (gl cs_Vector (([] : List Vector) ++ a0.Before)))), (8, (.lst (([] : List Bool) ++ a0.Fixed).length 1 (gl csB (([] : List Bool) ++ a0.Fixed)))), (10, (.lst (([] : List F32) ++ a0.Lengths).length 1 (gl (csF .f32) (([] : List F32) ++ a0.Lengths))))]⟩) (ob := (([] : List F32).length = 0 ∧ True) ∧ True ∧ True ∧ True ∧ True ∧ ((([] : List F32) ++ a0.Lengths).length = ([] : List F32).length + a0.Lengths.length ∧ AppOb (([] : List F32).length) (a0.Lengths.length) 1 (gl (csF .f32) ([] : List F32)) (gl (csF .f32) a0.Lengths) (gl (csF .f32) (([] : List F32) ++ a0.Lengths)) ∧ (∀ i j, i < a0.Lengths.length → j < 1 → scalarC (gl (csF .f32) a0.Lengths i j)) ∧ (([] : List F32).length + a0.Lengths.length) * 4 ≤ 140737488355328) ∧ True ∧ True ∧ True) (by kernel_rfl) ⟨⟨rfl, trivial⟩, trivial, trivial, trivial, trivial, ⟨List.length_append, gl_append, gl_scalar scF _, c4⟩, trivial, trivial, trivial⟩ ?_
  refine thenQ_normal ?_
  refine AW.seq ?_
  refine AW.regionA [] [2] [1, 4, 6, 8, 10] (s' := ⟨[(2, (.v (.one (.ptr 1 0))))], [(1, (.box [(.lst 4 (([] : List Vector) ++ a0.Points).length 3 (gl cs_Vector (([] : List Vector) ++ a0.Points))), (.lst 6 (([] : List Vector) ++ a0.Before).length 3 (gl cs_Vector (([] : List Vector) ++ a0.Before))), (.lst 8 (([] : List Bool) ++ a0.Fixed).length 1 (gl csB (([] : List Bool) ++ a0.Fixed))), (.lst 10 (([] : List F32) ++ a0.Lengths).length 1 (gl (csF .f32) (([] : List F32) ++ a0.Lengths))), (.c (.flt .f32 a0.Fall.X.bits)), (.c (.flt .f32 a0.Fall.Y.bits)), (.c (.flt .f32 a0.Fall.Z.bits)), (.c (.flt .f32 a0.Damp.bits)), (.c (.int .i64 a0.Passes))])), (4, (.lst (([] : List Vector) ++ a0.Points).length 3 (gl cs_Vector (([] : List Vector) ++ a0.Points)))), (6, (.lst (([] : List Vector) ++ a0.Before).length 3 (gl cs_Vector (([] : List Vector) ++ a0.Before)))), (8, (.lst (([] : List Bool) ++ a0.Fixed).length 1 (gl csB (([] : List Bool) ++ a0.Fixed)))), (10, (.lst (([] : List F32) ++ a0.Lengths).length 1 (gl (csF .f32) (([] : List F32) ++ a0.Lengths))))]⟩) (ob := True ∧ True ∧ True) (by kernel_rfl) ⟨trivial, trivial, trivial⟩ ?_
  refine thenQ_normal ?_
  refine AW.ret ?_
  replace h := some_eq h
  subst h
  exact ⟨.inr rfl, retOK_of [(.agg [(.lst 4 (([] : List Vector) ++ a0.Points).length 3 (gl cs_Vector (([] : List Vector) ++ a0.Points))), (.lst 6 (([] : List Vector) ++ a0.Before).length 3 (gl cs_Vector (([] : List Vector) ++ a0.Before))), (.lst 8 (([] : List Bool) ++ a0.Fixed).length 1 (gl csB (([] : List Bool) ++ a0.Fixed))), (.lst 10 (([] : List F32) ++ a0.Lengths).length 1 (gl (csF .f32) (([] : List F32) ++ a0.Lengths))), (.c (.flt .f32 a0.Fall.X.bits)), (.c (.flt .f32 a0.Fall.Y.bits)), (.c (.flt .f32 a0.Fall.Z.bits)), (.c (.flt .f32 a0.Damp.bits)), (.c (.int .i64 a0.Passes))])] (by kernel_rfl) ⟨⟨rfl, rfl, rfl, rfl, ⟨rfl, trivial⟩, ⟨rfl, trivial⟩, ⟨rfl, trivial⟩, ⟨rfl, trivial⟩, ⟨rfl, trivial⟩, trivial⟩, trivial⟩ (of_decide_eq_true (by kernel_rfl))⟩

/-! spec.LiftPoints -/
def spec_LiftPoints_l1 (K : Nat) (a0 : (List Vector)) (a1 : F32) : Nat → Int → (List Vector) → Option ((List Vector) × Bool)
  | 0, _, _ => none
  | k + 1, x4, x5 => ite2 ((decide (x4 < (a0.length : Int)))) (chk (0 ≤ x4 ∧ x4 < (a0.length : Int)) (ite2 ((((a0.getD x4.toNat default).Y).lt' a1)) (chk ((x5.length + ([(Vector.mk ((a0.getD x4.toNat default).X) a1 ((a0.getD x4.toNat default).Z))]).length) * 12 ≤ 140737488355328) (spec_LiftPoints_l1 K a0 a1 k (IntKind.i64.wrap (x4 + (1 : Int))) (x5 ++ ([(Vector.mk ((a0.getD x4.toNat default).X) a1 ((a0.getD x4.toNat default).Z))])))) (chk ((x5.length + ([(a0.getD x4.toNat default)]).length) * 12 ≤ 140737488355328) (spec_LiftPoints_l1 K a0 a1 k (IntKind.i64.wrap (x4 + (1 : Int))) (x5 ++ ([(a0.getD x4.toNat default)])))))) (some (x5, true))

def spec_LiftPoints (K : Nat) (a0 : (List Vector)) (a1 : F32) : Option ((List Vector) × Bool) :=
  ite2 ((decide ((a0.length : Int) > (16 : Int)))) (some (([] : (List Vector)), false)) (spec_LiftPoints_l1 K a0 a1 K (0 : Int) ([] : List Vector))

theorem ok_spec_LiftPoints (K : Nat) (a0 : (List Vector)) (a1 : F32) (o : ((List Vector) × Bool)) (h : spec_LiftPoints K a0 a1 = some o) : CallOK Try.prog 97 [.one (sl 3 cs_Vector a0), .one (.flt .f32 a1.bits)] [.one (sl 3 cs_Vector o.1), .one (.bool o.2)] := by
  refine callOK_of_AW Try.func97 rfl (by kernel_rfl) (Nat.le_of_ble_eq_true (by kernel_rfl)) ?_
  intro w0
  unfold spec_LiftPoints at h
  refine AW.seq ?_
  refine AW.regionA [] [0, 1] [] (s' := ⟨[(0, (.v (.one (.c (sl 3 cs_Vector a0))))), (1, (.v (.one (.c (.flt .f32 a1.bits)))))], []⟩) (ob := True ∧ True ∧ True) (by kernel_rfl) ⟨trivial, trivial, trivial⟩ ?_
  refine thenQ_normal ?_
  refine AW.seq ?_
  refine AW.seq ?_
  refine AW.regionA [] [0, 1, 11] [] (s' := ⟨[(0, (.v (.one (.c (sl 3 cs_Vector a0))))), (1, (.v (.one (.c (.flt .f32 a1.bits))))), (11, (.v (.one (.c (.bool (decide ((a0.length : Int) > (16 : Int))))))))], []⟩) (ob := True ∧ True ∧ True ∧ True) (by kernel_rfl) ⟨trivial, trivial, trivial, trivial⟩ ?_
  refine thenQ_normal ?_
  rcases ite2_cases h with ⟨b1, h⟩ | ⟨b1, h⟩
  · refine AW.cond_t rfl b1 ?_
    refine AW.seq ?_
    refine AW.regionA [] [4, 5] [] (s' := ⟨[(4, (.v (.one .nils))), (5, (.v (.one (.c (.bool false)))))], []⟩) (ob := True ∧ True ∧ True) (by kernel_rfl) ⟨trivial, trivial, trivial⟩ ?_
    refine thenQ_normal ?_
    refine AW.ret ?_
    refine thenQ_ret ?_
    replace h := some_eq h
    subst h
    exact ⟨.inr rfl, retOK_of [(.one .nils), (.one (.c (.bool false)))] (by kernel_rfl) ⟨rfl, ⟨rfl, trivial⟩, trivial⟩ (of_decide_eq_true (by kernel_rfl))⟩
  · refine AW.cond_f rfl b1 ?_
    refine AW.skip ?_
    refine thenQ_normal ?_
    refine AW.seq ?_
    refine AW.regionA [.obj 1 ([] : List Vector).length (gl cs_Vector ([] : List Vector))] [0, 1, 6] [1] (s' := ⟨[(0, (.v (.one (.c (sl 3 cs_Vector a0))))), (1, (.v (.one (.c (.flt .f32 a1.bits))))), (6, (.v (.one (.lst 1 ([] : List Vector).length 3 (gl cs_Vector ([] : List Vector))))))], [(1, (.lst ([] : List Vector).length 3 (gl cs_Vector ([] : List Vector))))]⟩) (ob := (([] : List Vector).length = 0 ∧ True) ∧ True ∧ True) (by kernel_rfl) ⟨⟨rfl, trivial⟩, trivial, trivial⟩ ?_
    refine thenQ_normal ?_
    refine AW.seq ?_
    refine AW.seq ?_
    refine AW.regionA [] [0, 1, 6, 7] [1] (s' := ⟨[(0, (.v (.one (.c (sl 3 cs_Vector a0))))), (1, (.v (.one (.c (.flt .f32 a1.bits))))), (6, (.v (.one (.lst 1 ([] : List Vector).length 3 (gl cs_Vector ([] : List Vector)))))), (7, (.v (.one (.c (.int .i64 (0 : Int))))))], [(1, (.lst ([] : List Vector).length 3 (gl cs_Vector ([] : List Vector))))]⟩) (ob := True ∧ True) (by kernel_rfl) ⟨trivial, trivial⟩ ?_
    refine thenQ_normal ?_
    refine AW.block ?_
    refine AW.loopQ (σ := Nat × Int × (List Vector)) (fun p => ⟨[(0, (.v (.one (.c (sl 3 cs_Vector a0))))), (1, (.v (.one (.c (.flt .f32 a1.bits))))), (6, (.v (.one (.lst 1 p.2.2.length 3 (gl cs_Vector p.2.2))))), (7, (.v (.one (.c (.int .i64 p.2.1)))))], [(1, (.lst p.2.2.length 3 (gl cs_Vector p.2.2)))]⟩) (fun p => spec_LiftPoints_l1 K a0 a1 p.1 p.2.1 p.2.2 = some o) (fun p => p.1) (K, (0 : Int), ([] : List Vector)) h ?_
    clear h
    rintro ⟨k, x4, x5⟩ h
    replace h : spec_LiftPoints_l1 K a0 a1 k x4 x5 = some o := h
    show AW _ _ (⟨[(0, (.v (.one (.c (sl 3 cs_Vector a0))))), (1, (.v (.one (.c (.flt .f32 a1.bits))))), (6, (.v (.one (.lst 1 x5.length 3 (gl cs_Vector x5))))), (7, (.v (.one (.c (.int .i64 x4)))))], [(1, (.lst x5.length 3 (gl cs_Vector x5)))]⟩ : St) _
    obtain _ | k := k
    · rw [spec_LiftPoints_l1] at h; cases h
    rw [spec_LiftPoints_l1] at h
    refine AW.seq ?_
    refine AW.seq ?_
    refine AW.regionA [] [0, 1, 6, 7, 16] [1] (s' := ⟨[(0, (.v (.one (.c (sl 3 cs_Vector a0))))), (1, (.v (.one (.c (.flt .f32 a1.bits))))), (6, (.v (.one (.lst 1 x5.length 3 (gl cs_Vector x5))))), (7, (.v (.one (.c (.int .i64 x4))))), (16, (.v (.one (.c (.bool (decide (x4 < (a0.length : Int))))))))], [(1, (.lst x5.length 3 (gl cs_Vector x5)))]⟩) (ob := True ∧ True ∧ True ∧ True ∧ True) (by kernel_rfl) ⟨trivial, trivial, trivial, trivial, trivial⟩ ?_
    refine thenQ_normal ?_
    rcases ite2_cases h with ⟨b6, h⟩ | ⟨b6, h⟩
    · refine AW.cond_t rfl b6 ?_
      refine AW.skip ?_
      refine thenQ_normal ?_
      refine AW.seq ?_
      refine AW.block ?_
      refine AW.seq ?_
      obtain ⟨c7, h⟩ := chk_some h
      refine AW.regionA [.no, .no, .no, .no, .box 12] [0, 1, 6, 7, 8] [1, 12] (s' := ⟨[(0, (.v (.one (.c (sl 3 cs_Vector a0))))), (1, (.v (.one (.c (.flt .f32 a1.bits))))), (6, (.v (.one (.lst 1 x5.length 3 (gl cs_Vector x5))))), (7, (.v (.one (.c (.int .i64 x4))))), (8, (.v (.one (.ptr 12 0))))], [(1, (.lst x5.length 3 (gl cs_Vector x5))), (12, (.box [(.c (.flt .f32 ((a0.getD x4.toNat default).X).bits)), (.c (.flt .f32 ((a0.getD x4.toNat default).Y).bits)), (.c (.flt .f32 ((a0.getD x4.toNat default).Z).bits))]))]⟩) (ob := True ∧ True ∧ (0 ≤ x4 ∧ x4 < (a0.length : Int)) ∧ True ∧ True ∧ True ∧ True) (by kernel_rfl) ⟨trivial, trivial, c7, trivial, trivial, trivial, trivial⟩ ?_
      refine thenQ_normal ?_
      refine AW.seq ?_
      refine AW.seq ?_
      refine AW.regionA [] [0, 1, 6, 7, 8, 26] [1, 12] (s' := ⟨[(0, (.v (.one (.c (sl 3 cs_Vector a0))))), (1, (.v (.one (.c (.flt .f32 a1.bits))))), (6, (.v (.one (.lst 1 x5.length 3 (gl cs_Vector x5))))), (7, (.v (.one (.c (.int .i64 x4))))), (8, (.v (.one (.ptr 12 0)))), (26, (.v (.one (.c (.bool (((a0.getD x4.toNat default).Y).lt' a1))))))], [(1, (.lst x5.length 3 (gl cs_Vector x5))), (12, (.box [(.c (.flt .f32 ((a0.getD x4.toNat default).X).bits)), (.c (.flt .f32 ((a0.getD x4.toNat default).Y).bits)), (.c (.flt .f32 ((a0.getD x4.toNat default).Z).bits))]))]⟩) (ob := True ∧ True ∧ True ∧ True ∧ True) (by kernel_rfl) ⟨trivial, trivial, trivial, trivial, trivial⟩ ?_
      refine thenQ_normal ?_
      rcases ite2_cases h with ⟨b8, h⟩ | ⟨b8, h⟩
      · refine AW.cond_t rfl b8 ?_
        refine AW.regionA [] [0, 1, 6, 7, 8] [1, 12] (s' := ⟨[(0, (.v (.one (.c (sl 3 cs_Vector a0))))), (1, (.v (.one (.c (.flt .f32 a1.bits))))), (6, (.v (.one (.lst 1 x5.length 3 (gl cs_Vector x5))))), (7, (.v (.one (.c (.int .i64 x4))))), (8, (.v (.one (.ptr 12 0))))], [(1, (.lst x5.length 3 (gl cs_Vector x5))), (12, (.box [(.c (.flt .f32 ((a0.getD x4.toNat default).X).bits)), (.c (.flt .f32 a1.bits)), (.c (.flt .f32 ((a0.getD x4.toNat default).Z).bits))]))]⟩) (ob := True ∧ True ∧ True ∧ True) (by kernel_rfl) ⟨trivial, trivial, trivial, trivial⟩ ?_
        refine thenQ_normal ?_
        obtain ⟨c9, h⟩ := chk_some h
        refine AW.regionA [.no, .no, .obj 13 ([(Vector.mk ((a0.getD x4.toNat default).X) a1 ((a0.getD x4.toNat default).Z))]).length (gl cs_Vector ([(Vector.mk ((a0.getD x4.toNat default).X) a1 ((a0.getD x4.toNat default).Z))])), .objK 14 (x5 ++ ([(Vector.mk ((a0.getD x4.toNat default).X) a1 ((a0.getD x4.toNat default).Z))])).length (gl cs_Vector (x5 ++ ([(Vector.mk ((a0.getD x4.toNat default).X) a1 ((a0.getD x4.toNat default).Z))])))] [0, 1, 6, 7] [14] (s' := ⟨[(0, (.v (.one (.c (sl 3 cs_Vector a0))))), (1, (.v (.one (.c (.flt .f32 a1.bits))))), (6, (.v (.one (.lst 14 (x5 ++ ([(Vector.mk ((a0.getD x4.toNat default).X) a1 ((a0.getD x4.toNat default).Z))])).length 3 (gl cs_Vector (x5 ++ ([(Vector.mk ((a0.getD x4.toNat default).X) a1 ((a0.getD x4.toNat default).Z))]))))))), (7, (.v (.one (.c (.int .i64 x4)))))], [(14, (.lst (x5 ++ ([(Vector.mk ((a0.getD x4.toNat default).X) a1 ((a0.getD x4.toNat default).Z))])).length 3 (gl cs_Vector (x5 ++ ([(Vector.mk ((a0.getD x4.toNat default).X) a1 ((a0.getD x4.toNat default).Z))])))))]⟩) (ob := True ∧ True ∧ (([(Vector.mk ((a0.getD x4.toNat default).X) a1 ((a0.getD x4.toNat default).Z))]).length = 1 ∧ (((.flt .f32 ((a0.getD x4.toNat default).X).bits) : C) = (.flt .f32 ((a0.getD x4.toNat default).X).bits) ∧ True) ∧ (((.flt .f32 a1.bits) : C) = (.flt .f32 a1.bits) ∧ True) ∧ (((.flt .f32 ((a0.getD x4.toNat default).Z).bits) : C) = (.flt .f32 ((a0.getD x4.toNat default).Z).bits) ∧ True) ∧ True) ∧ ((x5 ++ ([(Vector.mk ((a0.getD x4.toNat default).X) a1 ((a0.getD x4.toNat default).Z))])).length = x5.length + ([(Vector.mk ((a0.getD x4.toNat default).X) a1 ((a0.getD x4.toNat default).Z))]).length ∧ AppOb (x5.length) (([(Vector.mk ((a0.getD x4.toNat default).X) a1 ((a0.getD x4.toNat default).Z))]).length) 3 (gl cs_Vector x5) (gl cs_Vector ([(Vector.mk ((a0.getD x4.toNat default).X) a1 ((a0.getD x4.toNat default).Z))])) (gl cs_Vector (x5 ++ ([(Vector.mk ((a0.getD x4.toNat default).X) a1 ((a0.getD x4.toNat default).Z))]))) ∧ (∀ i j, i < ([(Vector.mk ((a0.getD x4.toNat default).X) a1 ((a0.getD x4.toNat default).Z))]).length → j < 3 → scalarC (gl cs_Vector ([(Vector.mk ((a0.getD x4.toNat default).X) a1 ((a0.getD x4.toNat default).Z))]) i j)) ∧ (x5.length + ([(Vector.mk ((a0.getD x4.toNat default).X) a1 ((a0.getD x4.toNat default).Z))]).length) * 12 ≤ 140737488355328) ∧ True ∧ True) (by kernel_rfl) ⟨trivial, trivial, ⟨rfl, ⟨⟨rfl, trivial⟩, ⟨rfl, trivial⟩, ⟨rfl, trivial⟩, trivial⟩⟩, ⟨List.length_append, gl_append, gl_scalar sc_Vector _, c9⟩, trivial, trivial⟩ ?_
        refine blockQ_normal ?_
        refine thenQ_normal ?_
        refine AW.regionA [] [0, 1, 6, 7] [14] (s' := ⟨[(0, (.v (.one (.c (sl 3 cs_Vector a0))))), (1, (.v (.one (.c (.flt .f32 a1.bits))))), (6, (.v (.one (.lst 14 (x5 ++ ([(Vector.mk ((a0.getD x4.toNat default).X) a1 ((a0.getD x4.toNat default).Z))])).length 3 (gl cs_Vector (x5 ++ ([(Vector.mk ((a0.getD x4.toNat default).X) a1 ((a0.getD x4.toNat default).Z))]))))))), (7, (.v (.one (.c (.int .i64 (IntKind.i64.wrap (x4 + (1 : Int))))))))], [(14, (.lst (x5 ++ ([(Vector.mk ((a0.getD x4.toNat default).X) a1 ((a0.getD x4.toNat default).Z))])).length 3 (gl cs_Vector (x5 ++ ([(Vector.mk ((a0.getD x4.toNat default).X) a1 ((a0.getD x4.toNat default).Z))])))))]⟩) (ob := True ∧ True ∧ True ∧ True) (by kernel_rfl) ⟨trivial, trivial, trivial, trivial⟩ ?_
        exact loopQ_normal (k, (IntKind.i64.wrap (x4 + (1 : Int))), (x5 ++ ([(Vector.mk ((a0.getD x4.toNat default).X) a1 ((a0.getD x4.toNat default).Z))]))) h (Nat.lt_succ_self k) (Sub.trans (Sub.swap 1 14 _ (by kernel_rfl) (by kernel_rfl)) (Sub.keep [0, 1, 6, 7] [1] (by kernel_rfl) (by kernel_rfl)))
      · refine AW.cond_f rfl b8 ?_
        refine AW.skip ?_
        refine thenQ_normal ?_
        obtain ⟨c10, h⟩ := chk_some h
        refine AW.regionA [.no, .no, .obj 15 ([(a0.getD x4.toNat default)]).length (gl cs_Vector ([(a0.getD x4.toNat default)])), .objK 16 (x5 ++ ([(a0.getD x4.toNat default)])).length (gl cs_Vector (x5 ++ ([(a0.getD x4.toNat default)])))] [0, 1, 6, 7] [16] (s' := ⟨[(0, (.v (.one (.c (sl 3 cs_Vector a0))))), (1, (.v (.one (.c (.flt .f32 a1.bits))))), (6, (.v (.one (.lst 16 (x5 ++ ([(a0.getD x4.toNat default)])).length 3 (gl cs_Vector (x5 ++ ([(a0.getD x4.toNat default)]))))))), (7, (.v (.one (.c (.int .i64 x4)))))], [(16, (.lst (x5 ++ ([(a0.getD x4.toNat default)])).length 3 (gl cs_Vector (x5 ++ ([(a0.getD x4.toNat default)])))))]⟩) (ob := True ∧ True ∧ (([(a0.getD x4.toNat default)]).length = 1 ∧ (((.flt .f32 ((a0.getD x4.toNat default).X).bits) : C) = (.flt .f32 ((a0.getD x4.toNat default).X).bits) ∧ True) ∧ (((.flt .f32 ((a0.getD x4.toNat default).Y).bits) : C) = (.flt .f32 ((a0.getD x4.toNat default).Y).bits) ∧ True) ∧ (((.flt .f32 ((a0.getD x4.toNat default).Z).bits) : C) = (.flt .f32 ((a0.getD x4.toNat default).Z).bits) ∧ True) ∧ True) ∧ ((x5 ++ ([(a0.getD x4.toNat default)])).length = x5.length + ([(a0.getD x4.toNat default)]).length ∧ AppOb (x5.length) (([(a0.getD x4.toNat default)]).length) 3 (gl cs_Vector x5) (gl cs_Vector ([(a0.getD x4.toNat default)])) (gl cs_Vector (x5 ++ ([(a0.getD x4.toNat default)]))) ∧ (∀ i j, i < ([(a0.getD x4.toNat default)]).length → j < 3 → scalarC (gl cs_Vector ([(a0.getD x4.toNat default)]) i j)) ∧ (x5.length + ([(a0.getD x4.toNat default)]).length) * 12 ≤ 140737488355328) ∧ True ∧ True) (by kernel_rfl) ⟨trivial, trivial, ⟨rfl, ⟨⟨rfl, trivial⟩, ⟨rfl, trivial⟩, ⟨rfl, trivial⟩, trivial⟩⟩, ⟨List.length_append, gl_append, gl_scalar sc_Vector _, c10⟩, trivial, trivial⟩ ?_
        refine blockQ_normal ?_
        refine thenQ_normal ?_
        refine AW.regionA [] [0, 1, 6, 7] [16] (s' := ⟨[(0, (.v (.one (.c (sl 3 cs_Vector a0))))), (1, (.v (.one (.c (.flt .f32 a1.bits))))), (6, (.v (.one (.lst 16 (x5 ++ ([(a0.getD x4.toNat default)])).length 3 (gl cs_Vector (x5 ++ ([(a0.getD x4.toNat default)]))))))), (7, (.v (.one (.c (.int .i64 (IntKind.i64.wrap (x4 + (1 : Int))))))))], [(16, (.lst (x5 ++ ([(a0.getD x4.toNat default)])).length 3 (gl cs_Vector (x5 ++ ([(a0.getD x4.toNat default)])))))]⟩) (ob := True ∧ True ∧ True ∧ True) (by kernel_rfl) ⟨trivial, trivial, trivial, trivial⟩ ?_
        exact loopQ_normal (k, (IntKind.i64.wrap (x4 + (1 : Int))), (x5 ++ ([(a0.getD x4.toNat default)]))) h (Nat.lt_succ_self k) (Sub.trans (Sub.swap 1 16 _ (by kernel_rfl) (by kernel_rfl)) (Sub.keep [0, 1, 6, 7] [1] (by kernel_rfl) (by kernel_rfl)))
    · refine AW.cond_f rfl b6 ?_
      refine AW.exit ?_
      refine thenQ_exit ?_
      refine loopQ_exit ?_
      refine blockQ_exit ?_
      refine thenQ_normal ?_
      refine AW.seq ?_
      refine AW.regionA [] [4, 5] [1] (s' := ⟨[(4, (.v (.one (.lst 1 x5.length 3 (gl cs_Vector x5))))), (5, (.v (.one (.c (.bool true)))))], [(1, (.lst x5.length 3 (gl cs_Vector x5)))]⟩) (ob := True ∧ True ∧ True ∧ True) (by kernel_rfl) ⟨trivial, trivial, trivial, trivial⟩ ?_
      refine thenQ_normal ?_
      refine AW.ret ?_
      replace h := some_eq h
      subst h
      exact ⟨.inr rfl, retOK_of [(.one (.lst 1 x5.length 3 (gl cs_Vector x5))), (.one (.c (.bool true)))] (by kernel_rfl) ⟨rfl, ⟨rfl, trivial⟩, trivial⟩ (of_decide_eq_true (by kernel_rfl))⟩

/-! spec.LayString -/
def spec_LayString (K : Nat) (a0 : String) (a1 : F32) : Option (String × Bool) :=
  (spec_l08Is K a0).bind fun v1 => ite2 ((!v1)) (some ((String.mk ([] : (List Vector)) ([] : (List Vector)) ([] : (List Bool)) ([] : (List F32)) (Vector.mk (default : F32) (default : F32) (default : F32)) (default : F32) (0 : Int)), false)) ((spec_l08Own K a0).bind fun v4 => (spec_LiftPoints K a0.Points a1).bind fun v6 => some ((String.mk v6.1 v4.Before v4.Fixed v4.Lengths v4.Fall v4.Damp v4.Passes), true))

theorem ok_spec_LayString (K : Nat) (a0 : String) (a1 : F32) (o : (String × Bool)) (h : spec_LayString K a0 a1 = some o) : CallOK Try.prog 16 [.agg (cs_String a0), .one (.flt .f32 a1.bits)] [.agg (cs_String o.1), .one (.bool o.2)] := by
  refine callOK_of_AW Try.func16 rfl (by kernel_rfl) (Nat.le_of_ble_eq_true (by kernel_rfl)) ?_
  intro w0
  unfold spec_LayString at h
  refine AW.seq ?_
  refine AW.regionA [.box 1, .box 2] [1, 2, 4] [1, 2] (s' := ⟨[(1, (.v (.one (.c (.flt .f32 a1.bits))))), (2, (.v (.one (.ptr 1 0)))), (4, (.v (.one (.ptr 2 0))))], [(1, (.box [(.c (sl 3 cs_Vector a0.Points)), (.c (sl 3 cs_Vector a0.Before)), (.c (sl 1 csB a0.Fixed)), (.c (sl 1 (csF .f32) a0.Lengths)), (.c (.flt .f32 a0.Fall.X.bits)), (.c (.flt .f32 a0.Fall.Y.bits)), (.c (.flt .f32 a0.Fall.Z.bits)), (.c (.flt .f32 a0.Damp.bits)), (.c (.int .i64 a0.Passes))])), (2, (.box [.nils, .nils, .nils, .nils, (.c (.flt .f32 (default : F32).bits)), (.c (.flt .f32 (default : F32).bits)), (.c (.flt .f32 (default : F32).bits)), (.c (.flt .f32 (default : F32).bits)), (.c (.int .i64 (0 : Int)))]))]⟩) (ob := True ∧ True ∧ True ∧ True) (by kernel_rfl) ⟨trivial, trivial, trivial, trivial⟩ ?_
  refine thenQ_normal ?_
  refine AW.seq ?_
  refine AW.seq ?_
  obtain ⟨v1, e2, h⟩ := bind_some h
  refine AW.regionA [.call [.one (pl 9 cs_String a0)] [.one (.bool v1)] [[.view]]] [1, 2, 4, 10] [1, 2] (s' := ⟨[(1, (.v (.one (.c (.flt .f32 a1.bits))))), (2, (.v (.one (.ptr 1 0)))), (4, (.v (.one (.ptr 2 0)))), (10, (.v (.one (.c (.bool (!v1))))))], [(1, (.box [(.c (sl 3 cs_Vector a0.Points)), (.c (sl 3 cs_Vector a0.Before)), (.c (sl 1 csB a0.Fixed)), (.c (sl 1 (csF .f32) a0.Lengths)), (.c (.flt .f32 a0.Fall.X.bits)), (.c (.flt .f32 a0.Fall.Y.bits)), (.c (.flt .f32 a0.Fall.Z.bits)), (.c (.flt .f32 a0.Damp.bits)), (.c (.int .i64 a0.Passes))])), (2, (.box [.nils, .nils, .nils, .nils, (.c (.flt .f32 (default : F32).bits)), (.c (.flt .f32 (default : F32).bits)), (.c (.flt .f32 (default : F32).bits)), (.c (.flt .f32 (default : F32).bits)), (.c (.int .i64 (0 : Int)))]))]⟩) (ob := (((0 = 0 ∧ (((sl 3 cs_Vector a0.Points) : C) = (sl 3 cs_Vector a0.Points)) ∧ (((sl 3 cs_Vector a0.Before) : C) = (sl 3 cs_Vector a0.Before)) ∧ (((sl 1 csB a0.Fixed) : C) = (sl 1 csB a0.Fixed)) ∧ (((sl 1 (csF .f32) a0.Lengths) : C) = (sl 1 (csF .f32) a0.Lengths)) ∧ (((.flt .f32 a0.Fall.X.bits) : C) = (.flt .f32 a0.Fall.X.bits)) ∧ (((.flt .f32 a0.Fall.Y.bits) : C) = (.flt .f32 a0.Fall.Y.bits)) ∧ (((.flt .f32 a0.Fall.Z.bits) : C) = (.flt .f32 a0.Fall.Z.bits)) ∧ (((.flt .f32 a0.Damp.bits) : C) = (.flt .f32 a0.Damp.bits)) ∧ (((.int .i64 a0.Passes) : C) = (.int .i64 a0.Passes)) ∧ True) ∧ True) ∧ CallOK Try.prog 95 [.one (pl 9 cs_String a0)] [.one (.bool v1)]) ∧ True ∧ True) (by kernel_rfl) ⟨⟨⟨⟨rfl, rfl, rfl, rfl, rfl, rfl, rfl, rfl, rfl, rfl, trivial⟩, trivial⟩, ok_spec_l08Is K a0 v1 e2⟩, trivial, trivial⟩ ?_
  refine thenQ_normal ?_
  rcases ite2_cases h with ⟨b3, h⟩ | ⟨b3, h⟩
  · refine AW.cond_t rfl b3 ?_
    refine AW.seq ?_
    refine AW.regionA [] [4, 5] [2] (s' := ⟨[(4, (.v (.one (.ptr 2 0)))), (5, (.v (.one (.c (.bool false)))))], [(2, (.box [.nils, .nils, .nils, .nils, (.c (.flt .f32 (default : F32).bits)), (.c (.flt .f32 (default : F32).bits)), (.c (.flt .f32 (default : F32).bits)), (.c (.flt .f32 (default : F32).bits)), (.c (.int .i64 (0 : Int)))]))]⟩) (ob := True ∧ True ∧ True ∧ True) (by kernel_rfl) ⟨trivial, trivial, trivial, trivial⟩ ?_
    refine thenQ_normal ?_
    refine AW.ret ?_
    refine thenQ_ret ?_
    replace h := some_eq h
    subst h
    exact ⟨.inr rfl, retOK_of [(.agg [.nils, .nils, .nils, .nils, (.c (.flt .f32 (default : F32).bits)), (.c (.flt .f32 (default : F32).bits)), (.c (.flt .f32 (default : F32).bits)), (.c (.flt .f32 (default : F32).bits)), (.c (.int .i64 (0 : Int)))]), (.one (.c (.bool false)))] (by kernel_rfl) ⟨⟨rfl, rfl, rfl, rfl, ⟨rfl, trivial⟩, ⟨rfl, trivial⟩, ⟨rfl, trivial⟩, ⟨rfl, trivial⟩, ⟨rfl, trivial⟩, trivial⟩, ⟨rfl, trivial⟩, trivial⟩ (of_decide_eq_true (by kernel_rfl))⟩
  · refine AW.cond_f rfl b3 ?_
    refine AW.skip ?_
    refine thenQ_normal ?_
    refine AW.seq ?_
    obtain ⟨v4, e5, h⟩ := bind_some h
    refine AW.regionA [.call [.one (pl 9 cs_String a0)] [.agg (cs_String v4)] [[.lst 3, .lst 4, .lst 5, .lst 6, .view, .view, .view, .view, .view]], .box 7] [1, 2, 4, 6] [1, 2, 3, 4, 5, 6, 7] (s' := ⟨[(1, (.v (.one (.c (.flt .f32 a1.bits))))), (2, (.v (.one (.ptr 1 0)))), (4, (.v (.one (.ptr 2 0)))), (6, (.v (.one (.ptr 7 0))))], [(1, (.box [(.c (sl 3 cs_Vector a0.Points)), (.c (sl 3 cs_Vector a0.Before)), (.c (sl 1 csB a0.Fixed)), (.c (sl 1 (csF .f32) a0.Lengths)), (.c (.flt .f32 a0.Fall.X.bits)), (.c (.flt .f32 a0.Fall.Y.bits)), (.c (.flt .f32 a0.Fall.Z.bits)), (.c (.flt .f32 a0.Damp.bits)), (.c (.int .i64 a0.Passes))])), (2, (.box [.nils, .nils, .nils, .nils, (.c (.flt .f32 (default : F32).bits)), (.c (.flt .f32 (default : F32).bits)), (.c (.flt .f32 (default : F32).bits)), (.c (.flt .f32 (default : F32).bits)), (.c (.int .i64 (0 : Int)))])), (3, (.lst v4.Points.length 3 (gl cs_Vector v4.Points))), (4, (.lst v4.Before.length 3 (gl cs_Vector v4.Before))), (5, (.lst v4.Fixed.length 1 (gl csB v4.Fixed))), (6, (.lst v4.Lengths.length 1 (gl (csF .f32) v4.Lengths))), (7, (.box [(.lst 3 v4.Points.length 3 (gl cs_Vector v4.Points)), (.lst 4 v4.Before.length 3 (gl cs_Vector v4.Before)), (.lst 5 v4.Fixed.length 1 (gl csB v4.Fixed)), (.lst 6 v4.Lengths.length 1 (gl (csF .f32) v4.Lengths)), (.c (.flt .f32 v4.Fall.X.bits)), (.c (.flt .f32 v4.Fall.Y.bits)), (.c (.flt .f32 v4.Fall.Z.bits)), (.c (.flt .f32 v4.Damp.bits)), (.c (.int .i64 v4.Passes))]))]⟩) (ob := (((0 = 0 ∧ (((sl 3 cs_Vector a0.Points) : C) = (sl 3 cs_Vector a0.Points)) ∧ (((sl 3 cs_Vector a0.Before) : C) = (sl 3 cs_Vector a0.Before)) ∧ (((sl 1 csB a0.Fixed) : C) = (sl 1 csB a0.Fixed)) ∧ (((sl 1 (csF .f32) a0.Lengths) : C) = (sl 1 (csF .f32) a0.Lengths)) ∧ (((.flt .f32 a0.Fall.X.bits) : C) = (.flt .f32 a0.Fall.X.bits)) ∧ (((.flt .f32 a0.Fall.Y.bits) : C) = (.flt .f32 a0.Fall.Y.bits)) ∧ (((.flt .f32 a0.Fall.Z.bits) : C) = (.flt .f32 a0.Fall.Z.bits)) ∧ (((.flt .f32 a0.Damp.bits) : C) = (.flt .f32 a0.Damp.bits)) ∧ (((.int .i64 a0.Passes) : C) = (.int .i64 a0.Passes)) ∧ True) ∧ True) ∧ CallOK Try.prog 96 [.one (pl 9 cs_String a0)] [.agg (cs_String v4)]) ∧ True ∧ True ∧ True) (by kernel_rfl) ⟨⟨⟨⟨rfl, rfl, rfl, rfl, rfl, rfl, rfl, rfl, rfl, rfl, trivial⟩, trivial⟩, ok_spec_l08Own K a0 v4 e5⟩, trivial, trivial, trivial⟩ ?_
    refine thenQ_normal ?_
    refine AW.seq ?_
    obtain ⟨v6, e7, h⟩ := bind_some h
    refine AW.regionA [.no, .no, .no, .call [.one (sl 3 cs_Vector a0.Points), .one (.flt .f32 a1.bits)] [.one (sl 3 cs_Vector v6.1), .one (.bool v6.2)] [[.lst 8], [.view]]] [4, 6, 7] [2, 3, 4, 5, 6, 7, 8] (s' := ⟨[(4, (.v (.one (.ptr 2 0)))), (6, (.v (.one (.ptr 7 0)))), (7, (.v (.one (.lst 8 v6.1.length 3 (gl cs_Vector v6.1)))))], [(2, (.box [.nils, .nils, .nils, .nils, (.c (.flt .f32 (default : F32).bits)), (.c (.flt .f32 (default : F32).bits)), (.c (.flt .f32 (default : F32).bits)), (.c (.flt .f32 (default : F32).bits)), (.c (.int .i64 (0 : Int)))])), (3, (.lst v4.Points.length 3 (gl cs_Vector v4.Points))), (4, (.lst v4.Before.length 3 (gl cs_Vector v4.Before))), (5, (.lst v4.Fixed.length 1 (gl csB v4.Fixed))), (6, (.lst v4.Lengths.length 1 (gl (csF .f32) v4.Lengths))), (7, (.box [(.lst 3 v4.Points.length 3 (gl cs_Vector v4.Points)), (.lst 4 v4.Before.length 3 (gl cs_Vector v4.Before)), (.lst 5 v4.Fixed.length 1 (gl csB v4.Fixed)), (.lst 6 v4.Lengths.length 1 (gl (csF .f32) v4.Lengths)), (.c (.flt .f32 v4.Fall.X.bits)), (.c (.flt .f32 v4.Fall.Y.bits)), (.c (.flt .f32 v4.Fall.Z.bits)), (.c (.flt .f32 v4.Damp.bits)), (.c (.int .i64 v4.Passes))])), (8, (.lst v6.1.length 3 (gl cs_Vector v6.1)))]⟩) (ob := True ∧ True ∧ True ∧ (((((sl 3 cs_Vector a0.Points) : C) = (sl 3 cs_Vector a0.Points)) ∧ (((.flt .f32 a1.bits) : C) = (.flt .f32 a1.bits)) ∧ True) ∧ CallOK Try.prog 97 [.one (sl 3 cs_Vector a0.Points), .one (.flt .f32 a1.bits)] [.one (sl 3 cs_Vector v6.1), .one (.bool v6.2)]) ∧ True ∧ True ∧ True ∧ True ∧ True ∧ True) (by kernel_rfl) ⟨trivial, trivial, trivial, ⟨⟨rfl, rfl, trivial⟩, ok_spec_LiftPoints K a0.Points a1 v6 e7⟩, trivial, trivial, trivial, trivial, trivial, trivial⟩ ?_
    refine thenQ_normal ?_
    refine AW.seq ?_
    refine AW.regionA [] [4, 6] [2, 4, 5, 6, 7, 8] (s' := ⟨[(4, (.v (.one (.ptr 2 0)))), (6, (.v (.one (.ptr 7 0))))], [(2, (.box [.nils, .nils, .nils, .nils, (.c (.flt .f32 (default : F32).bits)), (.c (.flt .f32 (default : F32).bits)), (.c (.flt .f32 (default : F32).bits)), (.c (.flt .f32 (default : F32).bits)), (.c (.int .i64 (0 : Int)))])), (4, (.lst v4.Before.length 3 (gl cs_Vector v4.Before))), (5, (.lst v4.Fixed.length 1 (gl csB v4.Fixed))), (6, (.lst v4.Lengths.length 1 (gl (csF .f32) v4.Lengths))), (7, (.box [(.lst 8 v6.1.length 3 (gl cs_Vector v6.1)), (.lst 4 v4.Before.length 3 (gl cs_Vector v4.Before)), (.lst 5 v4.Fixed.length 1 (gl csB v4.Fixed)), (.lst 6 v4.Lengths.length 1 (gl (csF .f32) v4.Lengths)), (.c (.flt .f32 v4.Fall.X.bits)), (.c (.flt .f32 v4.Fall.Y.bits)), (.c (.flt .f32 v4.Fall.Z.bits)), (.c (.flt .f32 v4.Damp.bits)), (.c (.int .i64 v4.Passes))])), (8, (.lst v6.1.length 3 (gl cs_Vector v6.1)))]⟩) (ob := True ∧ True ∧ True ∧ True) (by kernel_rfl) ⟨trivial, trivial, trivial, trivial⟩ ?_
    refine thenQ_normal ?_
    refine AW.seq ?_
    refine AW.regionA [] [4, 5] [2, 4, 5, 6, 8] (s' := ⟨[(4, (.v (.one (.ptr 2 0)))), (5, (.v (.one (.c (.bool true)))))], [(2, (.box [(.lst 8 v6.1.length 3 (gl cs_Vector v6.1)), (.lst 4 v4.Before.length 3 (gl cs_Vector v4.Before)), (.lst 5 v4.Fixed.length 1 (gl csB v4.Fixed)), (.lst 6 v4.Lengths.length 1 (gl (csF .f32) v4.Lengths)), (.c (.flt .f32 v4.Fall.X.bits)), (.c (.flt .f32 v4.Fall.Y.bits)), (.c (.flt .f32 v4.Fall.Z.bits)), (.c (.flt .f32 v4.Damp.bits)), (.c (.int .i64 v4.Passes))])), (4, (.lst v4.Before.length 3 (gl cs_Vector v4.Before))), (5, (.lst v4.Fixed.length 1 (gl csB v4.Fixed))), (6, (.lst v4.Lengths.length 1 (gl (csF .f32) v4.Lengths))), (8, (.lst v6.1.length 3 (gl cs_Vector v6.1)))]⟩) (ob := True ∧ True ∧ True ∧ True) (by kernel_rfl) ⟨trivial, trivial, trivial, trivial⟩ ?_
    refine thenQ_normal ?_
    refine AW.ret ?_
    replace h := some_eq h
    subst h
    exact ⟨.inr rfl, retOK_of [(.agg [(.lst 8 v6.1.length 3 (gl cs_Vector v6.1)), (.lst 4 v4.Before.length 3 (gl cs_Vector v4.Before)), (.lst 5 v4.Fixed.length 1 (gl csB v4.Fixed)), (.lst 6 v4.Lengths.length 1 (gl (csF .f32) v4.Lengths)), (.c (.flt .f32 v4.Fall.X.bits)), (.c (.flt .f32 v4.Fall.Y.bits)), (.c (.flt .f32 v4.Fall.Z.bits)), (.c (.flt .f32 v4.Damp.bits)), (.c (.int .i64 v4.Passes))]), (.one (.c (.bool true)))] (by kernel_rfl) ⟨⟨rfl, rfl, rfl, rfl, ⟨rfl, trivial⟩, ⟨rfl, trivial⟩, ⟨rfl, trivial⟩, ⟨rfl, trivial⟩, ⟨rfl, trivial⟩, trivial⟩, ⟨rfl, trivial⟩, trivial⟩ (of_decide_eq_true (by kernel_rfl))⟩

/-! impl.arePoints -/
def impl_arePoints (_K : Nat) (a0 : (List Vector)) : Option (Bool) :=
  (ite2 ((decide ((a0.length : Int) ≥ (2 : Int)))) (some (decide ((a0.length : Int) ≤ (16 : Int)))) (some false)).bind fun j2 => some j2

theorem ok_impl_arePoints (K : Nat) (a0 : (List Vector)) (o : (Bool)) (h : impl_arePoints K a0 = some o) : CallOK Try.prog 121 [.one (sl 3 cs_Vector a0)] [.one (.bool o)] := by
  refine callOK_of_AW Try.func121 rfl (by kernel_rfl) (Nat.le_of_ble_eq_true (by kernel_rfl)) ?_
  intro w0
  unfold impl_arePoints at h
  refine AW.seq ?_
  refine AW.regionA [] [0] [] (s' := ⟨[(0, (.v (.one (.c (sl 3 cs_Vector a0)))))], []⟩) (ob := True ∧ True) (by kernel_rfl) ⟨trivial, trivial⟩ ?_
  refine thenQ_normal ?_
  refine AW.seq ?_
  obtain ⟨j2, e3, h⟩ := bind_some h
  refine AW.join1 (s2 := ⟨[(2, (.v (.one (.c (.bool j2)))))], []⟩) ?_ ?_
  · rcases ite2_cases e3 with ⟨b1, e3⟩ | ⟨b1, e3⟩
    · replace e3 := some_eq e3
      subst e3
      exact AW.regionA [.no, .no, .no, .dec true] [2] [] (s' := ⟨[(2, (.v (.one (.c (.bool (decide ((a0.length : Int) ≤ (16 : Int))))))))], []⟩) (ob := True ∧ True ∧ True ∧ (True ∧ (decide ((a0.length : Int) ≥ (2 : Int))) = true) ∧ True ∧ True ∧ True ∧ True ∧ True ∧ True) (by kernel_rfl) ⟨trivial, trivial, trivial, ⟨trivial, b1⟩, trivial, trivial, trivial, trivial, trivial, trivial⟩ ⟨rfl, rfl⟩
    · replace e3 := some_eq e3
      subst e3
      exact AW.regionA [.no, .no, .no, .dec false] [2] [] (s' := ⟨[(2, (.v (.one (.c (.bool false)))))], []⟩) (ob := True ∧ True ∧ True ∧ (True ∧ (decide ((a0.length : Int) ≥ (2 : Int))) = false) ∧ True ∧ True ∧ True ∧ True ∧ True ∧ True) (by kernel_rfl) ⟨trivial, trivial, trivial, ⟨trivial, b1⟩, trivial, trivial, trivial, trivial, trivial, trivial⟩ ⟨rfl, rfl⟩
  refine thenQ_normal ?_
  refine AW.ret ?_
  replace h := some_eq h
  subst h
  exact ⟨.inr rfl, retOK_of [(.one (.c (.bool j2)))] (by kernel_rfl) ⟨⟨rfl, trivial⟩, trivial⟩ (of_decide_eq_true (by kernel_rfl))⟩

/-! impl.ValidString -/
def impl_ValidString (K : Nat) (a0 : String) : Option (Bool) :=
  (impl_arePoints K a0.Points).bind fun v1 => (ite2 (v1) (ite2 (((a0.Before.length : Int) == (a0.Points.length : Int))) (ite2 (((a0.Fixed.length : Int) == (a0.Points.length : Int))) (ite2 (((a0.Lengths.length : Int) == (IntKind.i64.wrap ((a0.Points.length : Int) - (1 : Int))))) (ite2 ((decide (a0.Passes ≥ (0 : Int)))) (some (decide (a0.Passes ≤ (16 : Int)))) (some false)) (some false)) (some false)) (some false)) (some false)).bind fun j8 => some j8

theorem ok_impl_ValidString (K : Nat) (a0 : String) (o : (Bool)) (h : impl_ValidString K a0 = some o) : CallOK Try.prog 32 [.agg (cs_String a0)] [.one (.bool o)] := by
  refine callOK_of_AW Try.func32 rfl (by kernel_rfl) (Nat.le_of_ble_eq_true (by kernel_rfl)) ?_
  intro w0
  unfold impl_ValidString at h
  refine AW.seq ?_
  refine AW.regionA [.box 1] [1] [1] (s' := ⟨[(1, (.v (.one (.ptr 1 0))))], [(1, (.box [(.c (sl 3 cs_Vector a0.Points)), (.c (sl 3 cs_Vector a0.Before)), (.c (sl 1 csB a0.Fixed)), (.c (sl 1 (csF .f32) a0.Lengths)), (.c (.flt .f32 a0.Fall.X.bits)), (.c (.flt .f32 a0.Fall.Y.bits)), (.c (.flt .f32 a0.Fall.Z.bits)), (.c (.flt .f32 a0.Damp.bits)), (.c (.int .i64 a0.Passes))]))]⟩) (ob := True ∧ True ∧ True) (by kernel_rfl) ⟨trivial, trivial, trivial⟩ ?_
  refine thenQ_normal ?_
  refine AW.seq ?_
  refine AW.regionA [] [1, 3] [1] (s' := ⟨[(1, (.v (.one (.ptr 1 0)))), (3, (.v (.one (.c (.int .i64 (a0.Points.length : Int))))))], [(1, (.box [(.c (sl 3 cs_Vector a0.Points)), (.c (sl 3 cs_Vector a0.Before)), (.c (sl 1 csB a0.Fixed)), (.c (sl 1 (csF .f32) a0.Lengths)), (.c (.flt .f32 a0.Fall.X.bits)), (.c (.flt .f32 a0.Fall.Y.bits)), (.c (.flt .f32 a0.Fall.Z.bits)), (.c (.flt .f32 a0.Damp.bits)), (.c (.int .i64 a0.Passes))]))]⟩) (ob := True ∧ True ∧ True ∧ True ∧ True) (by kernel_rfl) ⟨trivial, trivial, trivial, trivial, trivial⟩ ?_
  refine thenQ_normal ?_
  refine AW.seq ?_
  obtain ⟨v1, e2, h⟩ := bind_some h
  obtain ⟨j8, e9, h⟩ := bind_some h
  refine AW.join1 (s2 := ⟨[(2, (.v (.one (.c (.bool j8)))))], []⟩) ?_ ?_
  · rcases ite2_cases e9 with ⟨b3, e9⟩ | ⟨b3, e9⟩
    · rcases ite2_cases e9 with ⟨b4, e9⟩ | ⟨b4, e9⟩
      · rcases ite2_cases e9 with ⟨b5, e9⟩ | ⟨b5, e9⟩
        · rcases ite2_cases e9 with ⟨b6, e9⟩ | ⟨b6, e9⟩
          · rcases ite2_cases e9 with ⟨b7, e9⟩ | ⟨b7, e9⟩
            · replace e9 := some_eq e9
              subst e9
              exact AW.regionA [.no, .no, .call [.one (sl 3 cs_Vector a0.Points)] [.one (.bool v1)] [[.view]], .dec true, .no, .no, .no, .no, .no, .no, .dec true, .no, .no, .no, .no, .no, .no, .dec true, .no, .no, .no, .no, .no, .no, .no, .dec true, .no, .no, .no, .no, .dec true] [2] [] (s' := ⟨[(2, (.v (.one (.c (.bool (decide (a0.Passes ≤ (16 : Int))))))))], []⟩) (ob := True ∧ True ∧ (((((sl 3 cs_Vector a0.Points) : C) = (sl 3 cs_Vector a0.Points)) ∧ True) ∧ CallOK Try.prog 121 [.one (sl 3 cs_Vector a0.Points)] [.one (.bool v1)]) ∧ (True ∧ v1 = true) ∧ True ∧ True ∧ True ∧ True ∧ True ∧ True ∧ (True ∧ ((a0.Before.length : Int) == (a0.Points.length : Int)) = true) ∧ True ∧ True ∧ True ∧ True ∧ True ∧ True ∧ (True ∧ ((a0.Fixed.length : Int) == (a0.Points.length : Int)) = true) ∧ True ∧ True ∧ True ∧ True ∧ True ∧ True ∧ True ∧ (True ∧ ((a0.Lengths.length : Int) == (IntKind.i64.wrap ((a0.Points.length : Int) - (1 : Int)))) = true) ∧ True ∧ True ∧ True ∧ True ∧ (True ∧ (decide (a0.Passes ≥ (0 : Int))) = true) ∧ True ∧ True ∧ True ∧ True ∧ True ∧ True) (by kernel_rfl) ⟨trivial, trivial, ⟨⟨rfl, trivial⟩, ok_impl_arePoints K a0.Points v1 e2⟩, ⟨trivial, b3⟩, trivial, trivial, trivial, trivial, trivial, trivial, ⟨trivial, b4⟩, trivial, trivial, trivial, trivial, trivial, trivial, ⟨trivial, b5⟩, trivial, trivial, trivial, trivial, trivial, trivial, trivial, ⟨trivial, b6⟩, trivial, trivial, trivial, trivial, ⟨trivial, b7⟩, trivial, trivial, trivial, trivial, trivial, trivial⟩ ⟨rfl, rfl⟩
            · replace e9 := some_eq e9
              subst e9
              exact AW.regionA [.no, .no, .call [.one (sl 3 cs_Vector a0.Points)] [.one (.bool v1)] [[.view]], .dec true, .no, .no, .no, .no, .no, .no, .dec true, .no, .no, .no, .no, .no, .no, .dec true, .no, .no, .no, .no, .no, .no, .no, .dec true, .no, .no, .no, .no, .dec false] [2] [] (s' := ⟨[(2, (.v (.one (.c (.bool false)))))], []⟩) (ob := True ∧ True ∧ (((((sl 3 cs_Vector a0.Points) : C) = (sl 3 cs_Vector a0.Points)) ∧ True) ∧ CallOK Try.prog 121 [.one (sl 3 cs_Vector a0.Points)] [.one (.bool v1)]) ∧ (True ∧ v1 = true) ∧ True ∧ True ∧ True ∧ True ∧ True ∧ True ∧ (True ∧ ((a0.Before.length : Int) == (a0.Points.length : Int)) = true) ∧ True ∧ True ∧ True ∧ True ∧ True ∧ True ∧ (True ∧ ((a0.Fixed.length : Int) == (a0.Points.length : Int)) = true) ∧ True ∧ True ∧ True ∧ True ∧ True ∧ True ∧ True ∧ (True ∧ ((a0.Lengths.length : Int) == (IntKind.i64.wrap ((a0.Points.length : Int) - (1 : Int)))) = true) ∧ True ∧ True ∧ True ∧ True ∧ (True ∧ (decide (a0.Passes ≥ (0 : Int))) = false) ∧ True ∧ True ∧ True ∧ True ∧ True ∧ True) (by kernel_rfl) ⟨trivial, trivial, ⟨⟨rfl, trivial⟩, ok_impl_arePoints K a0.Points v1 e2⟩, ⟨trivial, b3⟩, trivial, trivial, trivial, trivial, trivial, trivial, ⟨trivial, b4⟩, trivial, trivial, trivial, trivial, trivial, trivial, ⟨trivial, b5⟩, trivial, trivial, trivial, trivial, trivial, trivial, trivial, ⟨trivial, b6⟩, trivial, trivial, trivial, trivial, ⟨trivial, b7⟩, trivial, trivial, trivial, trivial, trivial, trivial⟩ ⟨rfl, rfl⟩
          · replace e9 := some_eq e9
            subst e9
            exact AW.regionA [.no, .no, .call [.one (sl 3 cs_Vector a0.Points)] [.one (.bool v1)] [[.view]], .dec true, .no, .no, .no, .no, .no, .no, .dec true, .no, .no, .no, .no, .no, .no, .dec true, .no, .no, .no, .no, .no, .no, .no, .dec false] [2] [] (s' := ⟨[(2, (.v (.one (.c (.bool false)))))], []⟩) (ob := True ∧ True ∧ (((((sl 3 cs_Vector a0.Points) : C) = (sl 3 cs_Vector a0.Points)) ∧ True) ∧ CallOK Try.prog 121 [.one (sl 3 cs_Vector a0.Points)] [.one (.bool v1)]) ∧ (True ∧ v1 = true) ∧ True ∧ True ∧ True ∧ True ∧ True ∧ True ∧ (True ∧ ((a0.Before.length : Int) == (a0.Points.length : Int)) = true) ∧ True ∧ True ∧ True ∧ True ∧ True ∧ True ∧ (True ∧ ((a0.Fixed.length : Int) == (a0.Points.length : Int)) = true) ∧ True ∧ True ∧ True ∧ True ∧ True ∧ True ∧ True ∧ (True ∧ ((a0.Lengths.length : Int) == (IntKind.i64.wrap ((a0.Points.length : Int) - (1 : Int)))) = false) ∧ True ∧ True ∧ True ∧ True ∧ True ∧ True ∧ True ∧ True ∧ True ∧ True ∧ True) (by kernel_rfl) ⟨trivial, trivial, ⟨⟨rfl, trivial⟩, ok_impl_arePoints K a0.Points v1 e2⟩, ⟨trivial, b3⟩, trivial, trivial, trivial, trivial, trivial, trivial, ⟨trivial, b4⟩, trivial, trivial, trivial, trivial, trivial, trivial, ⟨trivial, b5⟩, trivial, trivial, trivial, trivial, trivial, trivial, trivial, ⟨trivial, b6⟩, trivial, trivial, trivial, trivial, trivial, trivial, trivial, trivial, trivial, trivial, trivial⟩ ⟨rfl, rfl⟩
        · replace e9 := some_eq e9
          subst e9
          exact AW.regionA [.no, .no, .call [.one (sl 3 cs_Vector a0.Points)] [.one (.bool v1)] [[.view]], .dec true, .no, .no, .no, .no, .no, .no, .dec true, .no, .no, .no, .no, .no, .no, .dec false] [2] [] (s' := ⟨[(2, (.v (.one (.c (.bool false)))))], []⟩) (ob := True ∧ True ∧ (((((sl 3 cs_Vector a0.Points) : C) = (sl 3 cs_Vector a0.Points)) ∧ True) ∧ CallOK Try.prog 121 [.one (sl 3 cs_Vector a0.Points)] [.one (.bool v1)]) ∧ (True ∧ v1 = true) ∧ True ∧ True ∧ True ∧ True ∧ True ∧ True ∧ (True ∧ ((a0.Before.length : Int) == (a0.Points.length : Int)) = true) ∧ True ∧ True ∧ True ∧ True ∧ True ∧ True ∧ (True ∧ ((a0.Fixed.length : Int) == (a0.Points.length : Int)) = false) ∧ True ∧ True ∧ True ∧ True ∧ True ∧ True ∧ True ∧ True ∧ True ∧ True ∧ True ∧ True ∧ True ∧ True ∧ True ∧ True ∧ True ∧ True ∧ True) (by kernel_rfl) ⟨trivial, trivial, ⟨⟨rfl, trivial⟩, ok_impl_arePoints K a0.Points v1 e2⟩, ⟨trivial, b3⟩, trivial, trivial, trivial, trivial, trivial, trivial, ⟨trivial, b4⟩, trivial, trivial, trivial, trivial, trivial, trivial, ⟨trivial, b5⟩, trivial, trivial, trivial, trivial, trivial, trivial, trivial, trivial, trivial, trivial, trivial, trivial, trivial, trivial, trivial, trivial, trivial, trivial, trivial⟩ ⟨rfl, rfl⟩
      · replace e9 := some_eq e9
        subst e9
        exact AW.regionA [.no, .no, .call [.one (sl 3 cs_Vector a0.Points)] [.one (.bool v1)] [[.view]], .dec true, .no, .no, .no, .no, .no, .no, .dec false] [2] [] (s' := ⟨[(2, (.v (.one (.c (.bool false)))))], []⟩) (ob := True ∧ True ∧ (((((sl 3 cs_Vector a0.Points) : C) = (sl 3 cs_Vector a0.Points)) ∧ True) ∧ CallOK Try.prog 121 [.one (sl 3 cs_Vector a0.Points)] [.one (.bool v1)]) ∧ (True ∧ v1 = true) ∧ True ∧ True ∧ True ∧ True ∧ True ∧ True ∧ (True ∧ ((a0.Before.length : Int) == (a0.Points.length : Int)) = false) ∧ True ∧ True ∧ True ∧ True ∧ True ∧ True ∧ True ∧ True ∧ True ∧ True ∧ True ∧ True ∧ True ∧ True ∧ True ∧ True ∧ True ∧ True ∧ True ∧ True ∧ True ∧ True ∧ True ∧ True ∧ True ∧ True) (by kernel_rfl) ⟨trivial, trivial, ⟨⟨rfl, trivial⟩, ok_impl_arePoints K a0.Points v1 e2⟩, ⟨trivial, b3⟩, trivial, trivial, trivial, trivial, trivial, trivial, ⟨trivial, b4⟩, trivial, trivial, trivial, trivial, trivial, trivial, trivial, trivial, trivial, trivial, trivial, trivial, trivial, trivial, trivial, trivial, trivial, trivial, trivial, trivial, trivial, trivial, trivial, trivial, trivial, trivial⟩ ⟨rfl, rfl⟩
    · replace e9 := some_eq e9
      subst e9
      exact AW.regionA [.no, .no, .call [.one (sl 3 cs_Vector a0.Points)] [.one (.bool v1)] [[.view]], .dec false] [2] [] (s' := ⟨[(2, (.v (.one (.c (.bool false)))))], []⟩) (ob := True ∧ True ∧ (((((sl 3 cs_Vector a0.Points) : C) = (sl 3 cs_Vector a0.Points)) ∧ True) ∧ CallOK Try.prog 121 [.one (sl 3 cs_Vector a0.Points)] [.one (.bool v1)]) ∧ (True ∧ v1 = false) ∧ True ∧ True ∧ True ∧ True ∧ True ∧ True ∧ True ∧ True ∧ True ∧ True ∧ True ∧ True ∧ True ∧ True ∧ True ∧ True ∧ True ∧ True ∧ True ∧ True ∧ True ∧ True ∧ True ∧ True ∧ True ∧ True ∧ True ∧ True ∧ True ∧ True ∧ True ∧ True ∧ True) (by kernel_rfl) ⟨trivial, trivial, ⟨⟨rfl, trivial⟩, ok_impl_arePoints K a0.Points v1 e2⟩, ⟨trivial, b3⟩, trivial, trivial, trivial, trivial, trivial, trivial, trivial, trivial, trivial, trivial, trivial, trivial, trivial, trivial, trivial, trivial, trivial, trivial, trivial, trivial, trivial, trivial, trivial, trivial, trivial, trivial, trivial, trivial, trivial, trivial, trivial, trivial, trivial⟩ ⟨rfl, rfl⟩
  refine thenQ_normal ?_
  refine AW.ret ?_
  replace h := some_eq h
  subst h
  exact ⟨.inr rfl, retOK_of [(.one (.c (.bool j8)))] (by kernel_rfl) ⟨⟨rfl, trivial⟩, trivial⟩ (of_decide_eq_true (by kernel_rfl))⟩

/-! slices.Clone[[]impl.Vector,impl.Vector] -/
def slices_Clone_impl_Vector_impl_Vector (_K : Nat) (a0 : (List Vector)) : Option ((List Vector)) :=
  chk ((([] : List Vector).length + a0.length) * 12 ≤ 140737488355328) (some (([] : List Vector) ++ a0))

theorem ok_slices_Clone_impl_Vector_impl_Vector (K : Nat) (a0 : (List Vector)) (o : ((List Vector))) (h : slices_Clone_impl_Vector_impl_Vector K a0 = some o) : CallOK Try.prog 131 [.one (sl 3 cs_Vector a0)] [.one (sl 3 cs_Vector o)] := by
  refine callOK_of_AW Try.func131 rfl (by kernel_rfl) (Nat.le_of_ble_eq_true (by kernel_rfl)) ?_
  intro w0
  unfold slices_Clone_impl_Vector_impl_Vector at h
  refine AW.seq ?_
  refine AW.regionA [] [0] [] (s' := ⟨[(0, (.v (.one (.c (sl 3 cs_Vector a0)))))], []⟩) (ob := True ∧ True) (by kernel_rfl) ⟨trivial, trivial⟩ ?_
  refine thenQ_normal ?_
  refine AW.seq ?_
  refine AW.seq ?_
  refine AW.nilA (d := 4) (n := a0.length) 1 [.no] [0] [] (s' := ⟨[(0, (.v (.one (.c (sl 3 cs_Vector a0)))))], []⟩) (ob := True ∧ True) (by kernel_rfl) ⟨trivial, trivial⟩ ?_
  intro b2 b1
  cases b2
  · refine thenQ_normal ?_
    refine AW.cond_f (b := false) rfl rfl ?_
    refine AW.skip ?_
    refine thenQ_normal ?_
    refine AW.seq ?_
    obtain ⟨c3, h⟩ := chk_some h
    refine AW.regionA [.obj 1 ([] : List Vector).length (gl cs_Vector ([] : List Vector)), .no, .obj 2 (([] : List Vector) ++ a0).length (gl cs_Vector (([] : List Vector) ++ a0))] [2] [2] (s' := ⟨[(2, (.v (.one (.lst 2 (([] : List Vector) ++ a0).length 3 (gl cs_Vector (([] : List Vector) ++ a0))))))], [(2, (.lst (([] : List Vector) ++ a0).length 3 (gl cs_Vector (([] : List Vector) ++ a0))))]⟩) (ob := (([] : List Vector).length = 0 ∧ True) ∧ True ∧ ((([] : List Vector) ++ a0).length = ([] : List Vector).length + a0.length ∧ AppOb (([] : List Vector).length) (a0.length) 3 (gl cs_Vector ([] : List Vector)) (gl cs_Vector a0) (gl cs_Vector (([] : List Vector) ++ a0)) ∧ (∀ i j, i < a0.length → j < 3 → scalarC (gl cs_Vector a0 i j)) ∧ (([] : List Vector).length + a0.length) * 12 ≤ 140737488355328) ∧ True ∧ True) (by kernel_rfl) ⟨⟨rfl, trivial⟩, trivial, ⟨List.length_append, gl_append, gl_scalar sc_Vector _, c3⟩, trivial, trivial⟩ ?_
    refine thenQ_normal ?_
    refine AW.ret ?_
    replace h := some_eq h
    subst h
    exact ⟨.inr rfl, retOK_of [(.one (.lst 2 (([] : List Vector) ++ a0).length 3 (gl cs_Vector (([] : List Vector) ++ a0))))] (by kernel_rfl) ⟨rfl, trivial⟩ (of_decide_eq_true (by kernel_rfl))⟩
  · obtain rfl := List.eq_nil_of_length_eq_zero (b1 rfl)
    replace h : some ([] : (List Vector)) = some o := by simpa [chk] using h
    refine thenQ_normal ?_
    refine AW.cond_t (b := true) rfl rfl ?_
    refine AW.seq ?_
    refine AW.regionA [] [2] [] (s' := ⟨[(2, (.v (.one .nils)))], []⟩) (ob := True ∧ True) (by kernel_rfl) ⟨trivial, trivial⟩ ?_
    refine thenQ_normal ?_
    refine AW.ret ?_
    refine thenQ_ret ?_
    replace h := some_eq h
    subst h
    exact ⟨.inr rfl, retOK_of [(.one .nils)] (by kernel_rfl) ⟨rfl, trivial⟩ (of_decide_eq_true (by kernel_rfl))⟩

/-! slices.Clone[[]bool,bool] -/
def slices_Clone_bool_bool (_K : Nat) (a0 : (List Bool)) : Option ((List Bool)) :=
  chk ((([] : List Bool).length + a0.length) * 1 ≤ 140737488355328) (some (([] : List Bool) ++ a0))

theorem ok_slices_Clone_bool_bool (K : Nat) (a0 : (List Bool)) (o : ((List Bool))) (h : slices_Clone_bool_bool K a0 = some o) : CallOK Try.prog 196 [.one (sl 1 csB a0)] [.one (sl 1 csB o)] := by
  refine callOK_of_AW Try.func196 rfl (by kernel_rfl) (Nat.le_of_ble_eq_true (by kernel_rfl)) ?_
  intro w0
  unfold slices_Clone_bool_bool at h
  refine AW.seq ?_
  refine AW.regionA [] [0] [] (s' := ⟨[(0, (.v (.one (.c (sl 1 csB a0)))))], []⟩) (ob := True ∧ True) (by kernel_rfl) ⟨trivial, trivial⟩ ?_
  refine thenQ_normal ?_
  refine AW.seq ?_
  refine AW.seq ?_
  refine AW.nilA (d := 4) (n := a0.length) 1 [.no] [0] [] (s' := ⟨[(0, (.v (.one (.c (sl 1 csB a0)))))], []⟩) (ob := True ∧ True) (by kernel_rfl) ⟨trivial, trivial⟩ ?_
  intro b2 b1
  cases b2
  · refine thenQ_normal ?_
    refine AW.cond_f (b := false) rfl rfl ?_
    refine AW.skip ?_
    refine thenQ_normal ?_
    refine AW.seq ?_
    obtain ⟨c3, h⟩ := chk_some h
    refine AW.regionA [.obj 1 ([] : List Bool).length (gl csB ([] : List Bool)), .no, .obj 2 (([] : List Bool) ++ a0).length (gl csB (([] : List Bool) ++ a0))] [2] [2] (s' := ⟨[(2, (.v (.one (.lst 2 (([] : List Bool) ++ a0).length 1 (gl csB (([] : List Bool) ++ a0))))))], [(2, (.lst (([] : List Bool) ++ a0).length 1 (gl csB (([] : List Bool) ++ a0))))]⟩) (ob := (([] : List Bool).length = 0 ∧ True) ∧ True ∧ ((([] : List Bool) ++ a0).length = ([] : List Bool).length + a0.length ∧ AppOb (([] : List Bool).length) (a0.length) 1 (gl csB ([] : List Bool)) (gl csB a0) (gl csB (([] : List Bool) ++ a0)) ∧ (∀ i j, i < a0.length → j < 1 → scalarC (gl csB a0 i j)) ∧ (([] : List Bool).length + a0.length) * 1 ≤ 140737488355328) ∧ True ∧ True) (by kernel_rfl) ⟨⟨rfl, trivial⟩, trivial, ⟨List.length_append, gl_append, gl_scalar scB _, c3⟩, trivial, trivial⟩ ?_
    refine thenQ_normal ?_
    refine AW.ret ?_
    replace h := some_eq h
    subst h
    exact ⟨.inr rfl, retOK_of [(.one (.lst 2 (([] : List Bool) ++ a0).length 1 (gl csB (([] : List Bool) ++ a0))))] (by kernel_rfl) ⟨rfl, trivial⟩ (of_decide_eq_true (by kernel_rfl))⟩
  · obtain rfl := List.eq_nil_of_length_eq_zero (b1 rfl)
    replace h : some ([] : (List Bool)) = some o := by simpa [chk] using h
    refine thenQ_normal ?_
    refine AW.cond_t (b := true) rfl rfl ?_
    refine AW.seq ?_
    refine AW.regionA [] [2] [] (s' := ⟨[(2, (.v (.one .nils)))], []⟩) (ob := True ∧ True) (by kernel_rfl) ⟨trivial, trivial⟩ ?_
    refine thenQ_normal ?_
    refine AW.ret ?_
    refine thenQ_ret ?_
    replace h := some_eq h
    subst h
    exact ⟨.inr rfl, retOK_of [(.one .nils)] (by kernel_rfl) ⟨rfl, trivial⟩ (of_decide_eq_true (by kernel_rfl))⟩

/-! slices.Clone[[]float32,float32] -/
def slices_Clone_float32_float32 (_K : Nat) (a0 : (List F32)) : Option ((List F32)) :=
  chk ((([] : List F32).length + a0.length) * 4 ≤ 140737488355328) (some (([] : List F32) ++ a0))

theorem ok_slices_Clone_float32_float32 (K : Nat) (a0 : (List F32)) (o : ((List F32))) (h : slices_Clone_float32_float32 K a0 = some o) : CallOK Try.prog 197 [.one (sl 1 (csF .f32) a0)] [.one (sl 1 (csF .f32) o)] := by
  refine callOK_of_AW Try.func197 rfl (by kernel_rfl) (Nat.le_of_ble_eq_true (by kernel_rfl)) ?_
  intro w0
  unfold slices_Clone_float32_float32 at h
  refine AW.seq ?_
  refine AW.regionA [] [0] [] (s' := ⟨[(0, (.v (.one (.c (sl 1 (csF .f32) a0)))))], []⟩) (ob := True ∧ True) (by kernel_rfl) ⟨trivial, trivial⟩ ?_
  refine thenQ_normal ?_
  refine AW.seq ?_
  refine AW.seq ?_
  refine AW.nilA (d := 4) (n := a0.length) 1 [.no] [0] [] (s' := ⟨[(0, (.v (.one (.c (sl 1 (csF .f32) a0)))))], []⟩) (ob := True ∧ True) (by kernel_rfl) ⟨trivial, trivial⟩ ?_
  intro b2 b1
  cases b2
  · refine thenQ_normal ?_
    refine AW.cond_f (b := false) rfl rfl ?_
    refine AW.skip ?_
    refine thenQ_normal ?_
    refine AW.seq ?_
    obtain ⟨c3, h⟩ := chk_some h
    refine AW.regionA [.obj 1 ([] : List F32).length (gl (csF .f32) ([] : List F32)), .no, .obj 2 (([] : List F32) ++ a0).length (gl (csF .f32) (([] : List F32) ++ a0))] [2] [2] (s' := ⟨[(2, (.v (.one (.lst 2 (([] : List F32) ++ a0).length 1 (gl (csF .f32) (([] : List F32) ++ a0))))))], [(2, (.lst (([] : List F32) ++ a0).length 1 (gl (csF .f32) (([] : List F32) ++ a0))))]⟩) (ob := (([] : List F32).length = 0 ∧ True) ∧ True ∧ ((([] : List F32) ++ a0).length = ([] : List F32).length + a0.length ∧ AppOb (([] : List F32).length) (a0.length) 1 (gl (csF .f32) ([] : List F32)) (gl (csF .f32) a0) (gl (csF .f32) (([] : List F32) ++ a0)) ∧ (∀ i j, i < a0.length → j < 1 → scalarC (gl (csF .f32) a0 i j)) ∧ (([] : List F32).length + a0.length) * 4 ≤ 140737488355328) ∧ True ∧ True) (by kernel_rfl) ⟨⟨rfl, trivial⟩, trivial, ⟨List.length_append, gl_append, gl_scalar scF _, c3⟩, trivial, trivial⟩ ?_
    refine thenQ_normal ?_
    refine AW.ret ?_
    replace h := some_eq h
    subst h
    exact ⟨.inr rfl, retOK_of [(.one (.lst 2 (([] : List F32) ++ a0).length 1 (gl (csF .f32) (([] : List F32) ++ a0))))] (by kernel_rfl) ⟨rfl, trivial⟩ (of_decide_eq_true (by kernel_rfl))⟩
  · obtain rfl := List.eq_nil_of_length_eq_zero (b1 rfl)
    replace h : some ([] : (List F32)) = some o := by simpa [chk] using h
    refine thenQ_normal ?_
    refine AW.cond_t (b := true) rfl rfl ?_
    refine AW.seq ?_
    refine AW.regionA [] [2] [] (s' := ⟨[(2, (.v (.one .nils)))], []⟩) (ob := True ∧ True) (by kernel_rfl) ⟨trivial, trivial⟩ ?_
    refine thenQ_normal ?_
    refine AW.ret ?_
    refine thenQ_ret ?_
    replace h := some_eq h
    subst h
    exact ⟨.inr rfl, retOK_of [(.one .nils)] (by kernel_rfl) ⟨rfl, trivial⟩ (of_decide_eq_true (by kernel_rfl))⟩

/-! (impl.String).copied -/
def impl_String_copied (K : Nat) (a0 : String) : Option (String) :=
  (slices_Clone_impl_Vector_impl_Vector K a0.Points).bind fun v1 => (slices_Clone_impl_Vector_impl_Vector K a0.Before).bind fun v3 => (slices_Clone_bool_bool K a0.Fixed).bind fun v5 => (slices_Clone_float32_float32 K a0.Lengths).bind fun v7 => some (String.mk v1 v3 v5 v7 a0.Fall a0.Damp a0.Passes)

theorem ok_impl_String_copied (K : Nat) (a0 : String) (o : (String)) (h : impl_String_copied K a0 = some o) : CallOK Try.prog 102 [.agg (cs_String a0)] [.agg (cs_String o)] := by
  refine callOK_of_AW Try.func102 rfl (by kernel_rfl) (Nat.le_of_ble_eq_true (by kernel_rfl)) ?_
  intro w0
  unfold impl_String_copied at h
  refine AW.seq ?_
  refine AW.regionA [.box 1, .box 2] [1, 2] [1, 2] (s' := ⟨[(1, (.v (.one (.ptr 1 0)))), (2, (.v (.one (.ptr 2 0))))], [(1, (.box [(.c (sl 3 cs_Vector a0.Points)), (.c (sl 3 cs_Vector a0.Before)), (.c (sl 1 csB a0.Fixed)), (.c (sl 1 (csF .f32) a0.Lengths)), (.c (.flt .f32 a0.Fall.X.bits)), (.c (.flt .f32 a0.Fall.Y.bits)), (.c (.flt .f32 a0.Fall.Z.bits)), (.c (.flt .f32 a0.Damp.bits)), (.c (.int .i64 a0.Passes))])), (2, (.box [.nils, .nils, .nils, .nils, (.c (.flt .f32 (default : F32).bits)), (.c (.flt .f32 (default : F32).bits)), (.c (.flt .f32 (default : F32).bits)), (.c (.flt .f32 (default : F32).bits)), (.c (.int .i64 (0 : Int)))]))]⟩) (ob := True ∧ True ∧ True) (by kernel_rfl) ⟨trivial, trivial, trivial⟩ ?_
  refine thenQ_normal ?_
  refine AW.seq ?_
  obtain ⟨v1, e2, h⟩ := bind_some h
  obtain ⟨v3, e4, h⟩ := bind_some h
  refine AW.drawnA (by kernel_rfl) 7 [.no, .no, .call [.one (sl 3 cs_Vector a0.Points)] [.one (sl 3 cs_Vector v1)] [[.lst 3]], .no, .no, .call [.one (sl 3 cs_Vector a0.Before)] [.one (sl 3 cs_Vector v3)] [[.lst 4]]] [1, 2] [1, 2, 3, 4] (s' := ⟨[(1, (.v (.one (.ptr 1 0)))), (2, (.v (.one (.ptr 2 0))))], [(1, (.box [(.lst 3 v1.length 3 (gl cs_Vector v1)), (.lst 4 v3.length 3 (gl cs_Vector v3)), (.c (sl 1 csB a0.Fixed)), (.c (sl 1 (csF .f32) a0.Lengths)), (.c (.flt .f32 a0.Fall.X.bits)), (.c (.flt .f32 a0.Fall.Y.bits)), (.c (.flt .f32 a0.Fall.Z.bits)), (.c (.flt .f32 a0.Damp.bits)), (.c (.int .i64 a0.Passes))])), (2, (.box [.nils, .nils, .nils, .nils, (.c (.flt .f32 (default : F32).bits)), (.c (.flt .f32 (default : F32).bits)), (.c (.flt .f32 (default : F32).bits)), (.c (.flt .f32 (default : F32).bits)), (.c (.int .i64 (0 : Int)))])), (3, (.lst v1.length 3 (gl cs_Vector v1))), (4, (.lst v3.length 3 (gl cs_Vector v3)))]⟩) (ob := (True ∧ True ∧ (((((sl 3 cs_Vector a0.Points) : C) = (sl 3 cs_Vector a0.Points)) ∧ True) ∧ CallOK Try.prog 131 [.one (sl 3 cs_Vector a0.Points)] [.one (sl 3 cs_Vector v1)]) ∧ True ∧ True ∧ (((((sl 3 cs_Vector a0.Before) : C) = (sl 3 cs_Vector a0.Before)) ∧ True) ∧ CallOK Try.prog 131 [.one (sl 3 cs_Vector a0.Before)] [.one (sl 3 cs_Vector v3)]) ∧ True ∧ True) ∧ (True ∧ True ∧ True ∧ True)) (by kernel_rfl) ⟨⟨trivial, trivial, ⟨⟨rfl, trivial⟩, ok_slices_Clone_impl_Vector_impl_Vector K a0.Points v1 e2⟩, trivial, trivial, ⟨⟨rfl, trivial⟩, ok_slices_Clone_impl_Vector_impl_Vector K a0.Before v3 e4⟩, trivial, trivial⟩, ⟨trivial, trivial, trivial, trivial⟩⟩ ?_
  refine thenQ_normal ?_
  refine AW.seq ?_
  obtain ⟨v5, e6, h⟩ := bind_some h
  obtain ⟨v7, e8, h⟩ := bind_some h
  refine AW.drawnA (by kernel_rfl) 7 [.no, .no, .call [.one (sl 1 csB a0.Fixed)] [.one (sl 1 csB v5)] [[.lst 5]], .no, .no, .call [.one (sl 1 (csF .f32) a0.Lengths)] [.one (sl 1 (csF .f32) v7)] [[.lst 6]]] [1, 2] [1, 2, 3, 4, 5, 6] (s' := ⟨[(1, (.v (.one (.ptr 1 0)))), (2, (.v (.one (.ptr 2 0))))], [(1, (.box [(.lst 3 v1.length 3 (gl cs_Vector v1)), (.lst 4 v3.length 3 (gl cs_Vector v3)), (.lst 5 v5.length 1 (gl csB v5)), (.lst 6 v7.length 1 (gl (csF .f32) v7)), (.c (.flt .f32 a0.Fall.X.bits)), (.c (.flt .f32 a0.Fall.Y.bits)), (.c (.flt .f32 a0.Fall.Z.bits)), (.c (.flt .f32 a0.Damp.bits)), (.c (.int .i64 a0.Passes))])), (2, (.box [.nils, .nils, .nils, .nils, (.c (.flt .f32 (default : F32).bits)), (.c (.flt .f32 (default : F32).bits)), (.c (.flt .f32 (default : F32).bits)), (.c (.flt .f32 (default : F32).bits)), (.c (.int .i64 (0 : Int)))])), (3, (.lst v1.length 3 (gl cs_Vector v1))), (4, (.lst v3.length 3 (gl cs_Vector v3))), (5, (.lst v5.length 1 (gl csB v5))), (6, (.lst v7.length 1 (gl (csF .f32) v7)))]⟩) (ob := (True ∧ True ∧ (((((sl 1 csB a0.Fixed) : C) = (sl 1 csB a0.Fixed)) ∧ True) ∧ CallOK Try.prog 196 [.one (sl 1 csB a0.Fixed)] [.one (sl 1 csB v5)]) ∧ True ∧ True ∧ (((((sl 1 (csF .f32) a0.Lengths) : C) = (sl 1 (csF .f32) a0.Lengths)) ∧ True) ∧ CallOK Try.prog 197 [.one (sl 1 (csF .f32) a0.Lengths)] [.one (sl 1 (csF .f32) v7)]) ∧ True ∧ True) ∧ (True ∧ True ∧ True ∧ True)) (by kernel_rfl) ⟨⟨trivial, trivial, ⟨⟨rfl, trivial⟩, ok_slices_Clone_bool_bool K a0.Fixed v5 e6⟩, trivial, trivial, ⟨⟨rfl, trivial⟩, ok_slices_Clone_float32_float32 K a0.Lengths v7 e8⟩, trivial, trivial⟩, ⟨trivial, trivial, trivial, trivial⟩⟩ ?_
  refine thenQ_normal ?_
  refine AW.seq ?_
  refine AW.regionA [] [2] [2, 3, 4, 5, 6] (s' := ⟨[(2, (.v (.one (.ptr 2 0))))], [(2, (.box [(.lst 3 v1.length 3 (gl cs_Vector v1)), (.lst 4 v3.length 3 (gl cs_Vector v3)), (.lst 5 v5.length 1 (gl csB v5)), (.lst 6 v7.length 1 (gl (csF .f32) v7)), (.c (.flt .f32 a0.Fall.X.bits)), (.c (.flt .f32 a0.Fall.Y.bits)), (.c (.flt .f32 a0.Fall.Z.bits)), (.c (.flt .f32 a0.Damp.bits)), (.c (.int .i64 a0.Passes))])), (3, (.lst v1.length 3 (gl cs_Vector v1))), (4, (.lst v3.length 3 (gl cs_Vector v3))), (5, (.lst v5.length 1 (gl csB v5))), (6, (.lst v7.length 1 (gl (csF .f32) v7)))]⟩) (ob := True ∧ True ∧ True) (by kernel_rfl) ⟨trivial, trivial, trivial⟩ ?_
  refine thenQ_normal ?_
  refine AW.ret ?_
  replace h := some_eq h
  subst h
  exact ⟨.inr rfl, retOK_of [(.agg [(.lst 3 v1.length 3 (gl cs_Vector v1)), (.lst 4 v3.length 3 (gl cs_Vector v3)), (.lst 5 v5.length 1 (gl csB v5)), (.lst 6 v7.length 1 (gl (csF .f32) v7)), (.c (.flt .f32 a0.Fall.X.bits)), (.c (.flt .f32 a0.Fall.Y.bits)), (.c (.flt .f32 a0.Fall.Z.bits)), (.c (.flt .f32 a0.Damp.bits)), (.c (.int .i64 a0.Passes))])] (by kernel_rfl) ⟨⟨rfl, rfl, rfl, rfl, ⟨rfl, trivial⟩, ⟨rfl, trivial⟩, ⟨rfl, trivial⟩, ⟨rfl, trivial⟩, ⟨rfl, trivial⟩, trivial⟩, trivial⟩ (of_decide_eq_true (by kernel_rfl))⟩

/-! impl.LiftPoints -/
def impl_LiftPoints_l1 (K : Nat) (a1 : F32) (v2 : ((List Vector))) : Nat → Int → (List Vector) → Option ((List Vector) × Bool)
  | 0, _, _ => none
  | k + 1, x6, x7 => ite2 ((decide (x6 < (v2.length : Int)))) (chk (0 ≤ x6 ∧ x6 < (x7.length : Int)) (ite2 ((((x7.getD x6.toNat default).Y).lt' a1)) ((some (x7.set x6.toNat (Vector.mk ((x7.getD x6.toNat default).X) a1 ((x7.getD x6.toNat default).Z)))).bind fun y11 => impl_LiftPoints_l1 K a1 v2 k (IntKind.i64.wrap (x6 + (1 : Int))) y11) (impl_LiftPoints_l1 K a1 v2 k (IntKind.i64.wrap (x6 + (1 : Int))) x7))) (some (x7, true))

def impl_LiftPoints (K : Nat) (a0 : (List Vector)) (a1 : F32) : Option ((List Vector) × Bool) :=
  ite2 ((decide ((a0.length : Int) > (16 : Int)))) (some (([] : (List Vector)), false)) ((slices_Clone_impl_Vector_impl_Vector K a0).bind fun v2 => impl_LiftPoints_l1 K a1 v2 K (0 : Int) v2)

theorem ok_impl_LiftPoints (K : Nat) (a0 : (List Vector)) (a1 : F32) (o : ((List Vector) × Bool)) (h : impl_LiftPoints K a0 a1 = some o) : CallOK Try.prog 103 [.one (sl 3 cs_Vector a0), .one (.flt .f32 a1.bits)] [.one (sl 3 cs_Vector o.1), .one (.bool o.2)] := by
  refine callOK_of_AW Try.func103 rfl (by kernel_rfl) (Nat.le_of_ble_eq_true (by kernel_rfl)) ?_
  intro w0
  unfold impl_LiftPoints at h
  refine AW.seq ?_
  refine AW.regionA [] [0, 1] [] (s' := ⟨[(0, (.v (.one (.c (sl 3 cs_Vector a0))))), (1, (.v (.one (.c (.flt .f32 a1.bits)))))], []⟩) (ob := True ∧ True ∧ True) (by kernel_rfl) ⟨trivial, trivial, trivial⟩ ?_
  refine thenQ_normal ?_
  refine AW.seq ?_
  refine AW.seq ?_
  refine AW.regionA [] [0, 1, 10] [] (s' := ⟨[(0, (.v (.one (.c (sl 3 cs_Vector a0))))), (1, (.v (.one (.c (.flt .f32 a1.bits))))), (10, (.v (.one (.c (.bool (decide ((a0.length : Int) > (16 : Int))))))))], []⟩) (ob := True ∧ True ∧ True ∧ True) (by kernel_rfl) ⟨trivial, trivial, trivial, trivial⟩ ?_
  refine thenQ_normal ?_
  rcases ite2_cases h with ⟨b1, h⟩ | ⟨b1, h⟩
  · refine AW.cond_t rfl b1 ?_
    refine AW.seq ?_
    refine AW.regionA [] [4, 5] [] (s' := ⟨[(4, (.v (.one .nils))), (5, (.v (.one (.c (.bool false)))))], []⟩) (ob := True ∧ True ∧ True) (by kernel_rfl) ⟨trivial, trivial, trivial⟩ ?_
    refine thenQ_normal ?_
    refine AW.ret ?_
    refine thenQ_ret ?_
    replace h := some_eq h
    subst h
    exact ⟨.inr rfl, retOK_of [(.one .nils), (.one (.c (.bool false)))] (by kernel_rfl) ⟨rfl, ⟨rfl, trivial⟩, trivial⟩ (of_decide_eq_true (by kernel_rfl))⟩
  · refine AW.cond_f rfl b1 ?_
    refine AW.skip ?_
    refine thenQ_normal ?_
    refine AW.seq ?_
    obtain ⟨v2, e3, h⟩ := bind_some h
    refine AW.regionA [.no, .call [.one (sl 3 cs_Vector a0)] [.one (sl 3 cs_Vector v2)] [[.own 1]]] [1, 6] [1] (s' := ⟨[(1, (.v (.one (.c (.flt .f32 a1.bits))))), (6, (.v (.one (.arr 1))))], [(1, (.arr true v2.length 3 (gl cs_Vector v2)))]⟩) (ob := True ∧ (((((sl 3 cs_Vector a0) : C) = (sl 3 cs_Vector a0)) ∧ True) ∧ CallOK Try.prog 131 [.one (sl 3 cs_Vector a0)] [.one (sl 3 cs_Vector v2)]) ∧ True ∧ True) (by kernel_rfl) ⟨trivial, ⟨⟨rfl, trivial⟩, ok_slices_Clone_impl_Vector_impl_Vector K a0 v2 e3⟩, trivial, trivial⟩ ?_
    refine thenQ_normal ?_
    refine AW.seq ?_
    refine AW.seq ?_
    refine AW.regionA [] [1, 6, 14, 15] [1] (s' := ⟨[(1, (.v (.one (.c (.flt .f32 a1.bits))))), (6, (.v (.one (.arr 1)))), (14, (.v (.one (.c (.int .i64 (v2.length : Int)))))), (15, (.v (.one (.c (.int .i64 (0 : Int))))))], [(1, (.arr true v2.length 3 (gl cs_Vector v2)))]⟩) (ob := True ∧ True ∧ True ∧ True) (by kernel_rfl) ⟨trivial, trivial, trivial, trivial⟩ ?_
    refine thenQ_normal ?_
    refine AW.block ?_
    refine AW.loopQ (σ := Nat × Int × (List Vector)) (fun p => ⟨[(1, (.v (.one (.c (.flt .f32 a1.bits))))), (6, (.v (.one (.arr 1)))), (14, (.v (.one (.c (.int .i64 (v2.length : Int)))))), (15, (.v (.one (.c (.int .i64 p.2.1)))))], [(1, (.arr true p.2.2.length 3 (gl cs_Vector p.2.2)))]⟩) (fun p => impl_LiftPoints_l1 K a1 v2 p.1 p.2.1 p.2.2 = some o) (fun p => p.1) (K, (0 : Int), v2) h ?_
    clear h
    rintro ⟨k, x6, x7⟩ h
    replace h : impl_LiftPoints_l1 K a1 v2 k x6 x7 = some o := h
    show AW _ _ (⟨[(1, (.v (.one (.c (.flt .f32 a1.bits))))), (6, (.v (.one (.arr 1)))), (14, (.v (.one (.c (.int .i64 (v2.length : Int)))))), (15, (.v (.one (.c (.int .i64 x6)))))], [(1, (.arr true x7.length 3 (gl cs_Vector x7)))]⟩ : St) _
    obtain _ | k := k
    · rw [impl_LiftPoints_l1] at h; cases h
    rw [impl_LiftPoints_l1] at h
    refine AW.seq ?_
    refine AW.regionA [] [1, 6, 14, 15, 16] [1] (s' := ⟨[(1, (.v (.one (.c (.flt .f32 a1.bits))))), (6, (.v (.one (.arr 1)))), (14, (.v (.one (.c (.int .i64 (v2.length : Int)))))), (15, (.v (.one (.c (.int .i64 x6))))), (16, (.v (.one (.c (.bool (decide (x6 < (v2.length : Int))))))))], [(1, (.arr true x7.length 3 (gl cs_Vector x7)))]⟩) (ob := True ∧ True) (by kernel_rfl) ⟨trivial, trivial⟩ ?_
    refine thenQ_normal ?_
    refine AW.seq ?_
    rcases ite2_cases h with ⟨b8, h⟩ | ⟨b8, h⟩
    · refine AW.cond_t rfl b8 ?_
      refine AW.skip ?_
      refine thenQ_normal ?_
      refine AW.seq ?_
      refine AW.block ?_
      refine AW.seq ?_
      refine AW.regionA [] [1, 6, 7, 14, 15] [1] (s' := ⟨[(1, (.v (.one (.c (.flt .f32 a1.bits))))), (6, (.v (.one (.arr 1)))), (7, (.v (.one (.c (.int .i64 x6))))), (14, (.v (.one (.c (.int .i64 (v2.length : Int)))))), (15, (.v (.one (.c (.int .i64 x6)))))], [(1, (.arr true x7.length 3 (gl cs_Vector x7)))]⟩) (ob := True ∧ True ∧ True) (by kernel_rfl) ⟨trivial, trivial, trivial⟩ ?_
      refine thenQ_normal ?_
      refine AW.seq ?_
      obtain ⟨c9, h⟩ := chk_some h
      refine AW.regionA [] [1, 6, 7, 14, 15, 24] [1] (s' := ⟨[(1, (.v (.one (.c (.flt .f32 a1.bits))))), (6, (.v (.one (.arr 1)))), (7, (.v (.one (.c (.int .i64 x6))))), (14, (.v (.one (.c (.int .i64 (v2.length : Int)))))), (15, (.v (.one (.c (.int .i64 x6))))), (24, (.v (.one (.c (.bool (((x7.getD x6.toNat default).Y).lt' a1))))))], [(1, (.arr true x7.length 3 (gl cs_Vector x7)))]⟩) (ob := True ∧ True ∧ (0 ≤ x6 ∧ x6 < (x7.length : Int)) ∧ True ∧ True ∧ True ∧ True ∧ True) (by kernel_rfl) ⟨trivial, trivial, c9, trivial, trivial, trivial, trivial, trivial⟩ ?_
      refine thenQ_normal ?_
      rcases ite2_cases h with ⟨b10, h⟩ | ⟨b10, h⟩
      · refine AW.cond_t rfl b10 ?_
        obtain ⟨y11, e12, h⟩ := bind_some h
        refine AW.regionA [.no, .no, .no, .no, .no, .set y11.length (gl cs_Vector y11) ((List.range 1).map fun j => (cs_Vector (Vector.mk ((x7.getD x6.toNat default).X) a1 ((x7.getD x6.toNat default).Z))).getD (1 + j) .nilptr)] [1, 6, 14, 15] [1] (s' := ⟨[(1, (.v (.one (.c (.flt .f32 a1.bits))))), (6, (.v (.one (.arr 1)))), (14, (.v (.one (.c (.int .i64 (v2.length : Int)))))), (15, (.v (.one (.c (.int .i64 x6)))))], [(1, (.arr true y11.length 3 (gl cs_Vector y11)))]⟩) (ob := True ∧ True ∧ True ∧ (0 ≤ x6 ∧ x6 < (x7.length : Int)) ∧ True ∧ (y11.length = x7.length ∧ SetOb x7.length 3 x6.toNat 1 1 (gl cs_Vector x7) (gl cs_Vector y11) ∧ ((List.range 1).map fun j => (cs_Vector (Vector.mk ((x7.getD x6.toNat default).X) a1 ((x7.getD x6.toNat default).Z))).getD (1 + j) .nilptr) = ((List.range 1).map fun j => gl cs_Vector y11 x6.toNat (1 + j)) ∧ ((((.flt .f32 a1.bits) : C) = (.flt .f32 a1.bits) ∧ True) ∧ True) ∧ (true = true → ∀ j, j < 1 → isSeq (gl cs_Vector x7 x6.toNat (1 + j)) = false ∧ isSeq (gl cs_Vector y11 x6.toNat (1 + j)) = false)) ∧ True) (by kernel_rfl) ⟨trivial, trivial, trivial, c9, trivial, (letP (some_eq e12) (fun z => (z.length = x7.length ∧ SetOb x7.length 3 x6.toNat 1 1 (gl cs_Vector x7) (gl cs_Vector z) ∧ ((List.range 1).map fun j => (cs_Vector (Vector.mk ((x7.getD x6.toNat default).X) a1 ((x7.getD x6.toNat default).Z))).getD (1 + j) .nilptr) = ((List.range 1).map fun j => gl cs_Vector z x6.toNat (1 + j)) ∧ ((((.flt .f32 a1.bits) : C) = (.flt .f32 a1.bits) ∧ True) ∧ True) ∧ (true = true → ∀ j, j < 1 → isSeq (gl cs_Vector x7 x6.toNat (1 + j)) = false ∧ isSeq (gl cs_Vector z x6.toNat (1 + j)) = false))) ⟨List.length_set, gl_setp (fun j hj hn => match j, hj, hn with | 0, _, _ => rfl | 1, _, hn => absurd ⟨by decide, by decide⟩ hn | 2, _, _ => rfl) (lt_of_bound c9), (gl_atp (lt_of_bound c9)).symm, ⟨⟨rfl, trivial⟩, trivial⟩, (fun _ j hj => match j, hj with | 0, _ => ⟨rfl, rfl⟩)⟩), trivial⟩ ?_
        refine blockQ_normal ?_
        refine thenQ_normal ?_
        refine AW.regionA [] [1, 6, 14, 15] [1] (s' := ⟨[(1, (.v (.one (.c (.flt .f32 a1.bits))))), (6, (.v (.one (.arr 1)))), (14, (.v (.one (.c (.int .i64 (v2.length : Int)))))), (15, (.v (.one (.c (.int .i64 (IntKind.i64.wrap (x6 + (1 : Int))))))))], [(1, (.arr true y11.length 3 (gl cs_Vector y11)))]⟩) (ob := True ∧ True ∧ True) (by kernel_rfl) ⟨trivial, trivial, trivial⟩ ?_
        exact loopQ_normal (k, (IntKind.i64.wrap (x6 + (1 : Int))), y11) h (Nat.lt_succ_self k) (Sub.keep [1, 6, 14, 15] [1] (by kernel_rfl) (by kernel_rfl))
      · refine AW.cond_f rfl b10 ?_
        refine AW.skip ?_
        refine blockQ_normal ?_
        refine thenQ_normal ?_
        refine AW.regionA [] [1, 6, 14, 15] [1] (s' := ⟨[(1, (.v (.one (.c (.flt .f32 a1.bits))))), (6, (.v (.one (.arr 1)))), (14, (.v (.one (.c (.int .i64 (v2.length : Int)))))), (15, (.v (.one (.c (.int .i64 (IntKind.i64.wrap (x6 + (1 : Int))))))))], [(1, (.arr true x7.length 3 (gl cs_Vector x7)))]⟩) (ob := True ∧ True ∧ True) (by kernel_rfl) ⟨trivial, trivial, trivial⟩ ?_
        exact loopQ_normal (k, (IntKind.i64.wrap (x6 + (1 : Int))), x7) h (Nat.lt_succ_self k) (Sub.keep [1, 6, 14, 15] [1] (by kernel_rfl) (by kernel_rfl))
    · refine AW.cond_f rfl b8 ?_
      refine AW.exit ?_
      refine thenQ_exit ?_
      refine loopQ_exit ?_
      refine blockQ_exit ?_
      refine thenQ_normal ?_
      refine AW.seq ?_
      refine AW.regionA [] [4, 5] [1] (s' := ⟨[(4, (.v (.one (.arr 1)))), (5, (.v (.one (.c (.bool true)))))], [(1, (.arr true x7.length 3 (gl cs_Vector x7)))]⟩) (ob := True ∧ True ∧ True ∧ True) (by kernel_rfl) ⟨trivial, trivial, trivial, trivial⟩ ?_
      refine thenQ_normal ?_
      refine AW.ret ?_
      replace h := some_eq h
      subst h
      exact ⟨.inr rfl, retOK_of [(.one (.arr 1)), (.one (.c (.bool true)))] (by kernel_rfl) ⟨rfl, ⟨rfl, trivial⟩, trivial⟩ (of_decide_eq_true (by kernel_rfl))⟩

/-! impl.LayString -/
def impl_LayString (K : Nat) (a0 : String) (a1 : F32) : Option (String × Bool) :=
  (impl_ValidString K a0).bind fun v1 => ite2 ((!v1)) (some ((String.mk ([] : (List Vector)) ([] : (List Vector)) ([] : (List Bool)) ([] : (List F32)) (Vector.mk (default : F32) (default : F32) (default : F32)) (default : F32) (0 : Int)), false)) ((impl_String_copied K a0).bind fun v4 => (impl_LiftPoints K v4.Points a1).bind fun v6 => some ((String.mk v6.1 v4.Before v4.Fixed v4.Lengths v4.Fall v4.Damp v4.Passes), true))

theorem ok_impl_LayString (K : Nat) (a0 : String) (a1 : F32) (o : (String × Bool)) (h : impl_LayString K a0 a1 = some o) : CallOK Try.prog 18 [.agg (cs_String a0), .one (.flt .f32 a1.bits)] [.agg (cs_String o.1), .one (.bool o.2)] := by
  refine callOK_of_AW Try.func18 rfl (by kernel_rfl) (Nat.le_of_ble_eq_true (by kernel_rfl)) ?_
  intro w0
  unfold impl_LayString at h
  refine AW.seq ?_
  refine AW.regionA [.box 1, .box 2] [1, 2, 4] [1, 2] (s' := ⟨[(1, (.v (.one (.c (.flt .f32 a1.bits))))), (2, (.v (.one (.ptr 1 0)))), (4, (.v (.one (.ptr 2 0))))], [(1, (.box [(.c (sl 3 cs_Vector a0.Points)), (.c (sl 3 cs_Vector a0.Before)), (.c (sl 1 csB a0.Fixed)), (.c (sl 1 (csF .f32) a0.Lengths)), (.c (.flt .f32 a0.Fall.X.bits)), (.c (.flt .f32 a0.Fall.Y.bits)), (.c (.flt .f32 a0.Fall.Z.bits)), (.c (.flt .f32 a0.Damp.bits)), (.c (.int .i64 a0.Passes))])), (2, (.box [.nils, .nils, .nils, .nils, (.c (.flt .f32 (default : F32).bits)), (.c (.flt .f32 (default : F32).bits)), (.c (.flt .f32 (default : F32).bits)), (.c (.flt .f32 (default : F32).bits)), (.c (.int .i64 (0 : Int)))]))]⟩) (ob := True ∧ True ∧ True ∧ True) (by kernel_rfl) ⟨trivial, trivial, trivial, trivial⟩ ?_
  refine thenQ_normal ?_
  refine AW.seq ?_
  refine AW.seq ?_
  obtain ⟨v1, e2, h⟩ := bind_some h
  refine AW.regionA [.no, .call [.agg (cs_String a0)] [.one (.bool v1)] [[.view]]] [1, 2, 4, 8] [1, 2] (s' := ⟨[(1, (.v (.one (.c (.flt .f32 a1.bits))))), (2, (.v (.one (.ptr 1 0)))), (4, (.v (.one (.ptr 2 0)))), (8, (.v (.one (.c (.bool (!v1))))))], [(1, (.box [(.c (sl 3 cs_Vector a0.Points)), (.c (sl 3 cs_Vector a0.Before)), (.c (sl 1 csB a0.Fixed)), (.c (sl 1 (csF .f32) a0.Lengths)), (.c (.flt .f32 a0.Fall.X.bits)), (.c (.flt .f32 a0.Fall.Y.bits)), (.c (.flt .f32 a0.Fall.Z.bits)), (.c (.flt .f32 a0.Damp.bits)), (.c (.int .i64 a0.Passes))])), (2, (.box [.nils, .nils, .nils, .nils, (.c (.flt .f32 (default : F32).bits)), (.c (.flt .f32 (default : F32).bits)), (.c (.flt .f32 (default : F32).bits)), (.c (.flt .f32 (default : F32).bits)), (.c (.int .i64 (0 : Int)))]))]⟩) (ob := True ∧ ((((((sl 3 cs_Vector a0.Points) : C) = (sl 3 cs_Vector a0.Points)) ∧ (((sl 3 cs_Vector a0.Before) : C) = (sl 3 cs_Vector a0.Before)) ∧ (((sl 1 csB a0.Fixed) : C) = (sl 1 csB a0.Fixed)) ∧ (((sl 1 (csF .f32) a0.Lengths) : C) = (sl 1 (csF .f32) a0.Lengths)) ∧ (((.flt .f32 a0.Fall.X.bits) : C) = (.flt .f32 a0.Fall.X.bits)) ∧ (((.flt .f32 a0.Fall.Y.bits) : C) = (.flt .f32 a0.Fall.Y.bits)) ∧ (((.flt .f32 a0.Fall.Z.bits) : C) = (.flt .f32 a0.Fall.Z.bits)) ∧ (((.flt .f32 a0.Damp.bits) : C) = (.flt .f32 a0.Damp.bits)) ∧ (((.int .i64 a0.Passes) : C) = (.int .i64 a0.Passes)) ∧ True) ∧ True) ∧ CallOK Try.prog 32 [.agg (cs_String a0)] [.one (.bool v1)]) ∧ True ∧ True) (by kernel_rfl) ⟨trivial, ⟨⟨⟨rfl, rfl, rfl, rfl, rfl, rfl, rfl, rfl, rfl, trivial⟩, trivial⟩, ok_impl_ValidString K a0 v1 e2⟩, trivial, trivial⟩ ?_
  refine thenQ_normal ?_
  rcases ite2_cases h with ⟨b3, h⟩ | ⟨b3, h⟩
  · refine AW.cond_t rfl b3 ?_
    refine AW.seq ?_
    refine AW.regionA [] [4, 5] [2] (s' := ⟨[(4, (.v (.one (.ptr 2 0)))), (5, (.v (.one (.c (.bool false)))))], [(2, (.box [.nils, .nils, .nils, .nils, (.c (.flt .f32 (default : F32).bits)), (.c (.flt .f32 (default : F32).bits)), (.c (.flt .f32 (default : F32).bits)), (.c (.flt .f32 (default : F32).bits)), (.c (.int .i64 (0 : Int)))]))]⟩) (ob := True ∧ True ∧ True ∧ True) (by kernel_rfl) ⟨trivial, trivial, trivial, trivial⟩ ?_
    refine thenQ_normal ?_
    refine AW.ret ?_
    refine thenQ_ret ?_
    replace h := some_eq h
    subst h
    exact ⟨.inr rfl, retOK_of [(.agg [.nils, .nils, .nils, .nils, (.c (.flt .f32 (default : F32).bits)), (.c (.flt .f32 (default : F32).bits)), (.c (.flt .f32 (default : F32).bits)), (.c (.flt .f32 (default : F32).bits)), (.c (.int .i64 (0 : Int)))]), (.one (.c (.bool false)))] (by kernel_rfl) ⟨⟨rfl, rfl, rfl, rfl, ⟨rfl, trivial⟩, ⟨rfl, trivial⟩, ⟨rfl, trivial⟩, ⟨rfl, trivial⟩, ⟨rfl, trivial⟩, trivial⟩, ⟨rfl, trivial⟩, trivial⟩ (of_decide_eq_true (by kernel_rfl))⟩
  · refine AW.cond_f rfl b3 ?_
    refine AW.skip ?_
    refine thenQ_normal ?_
    refine AW.seq ?_
    obtain ⟨v4, e5, h⟩ := bind_some h
    refine AW.regionA [.no, .call [.agg (cs_String a0)] [.agg (cs_String v4)] [[.lst 3, .lst 4, .lst 5, .lst 6, .view, .view, .view, .view, .view]]] [1, 2, 4] [1, 2, 3, 4, 5, 6] (s' := ⟨[(1, (.v (.one (.c (.flt .f32 a1.bits))))), (2, (.v (.one (.ptr 1 0)))), (4, (.v (.one (.ptr 2 0))))], [(1, (.box [(.lst 3 v4.Points.length 3 (gl cs_Vector v4.Points)), (.lst 4 v4.Before.length 3 (gl cs_Vector v4.Before)), (.lst 5 v4.Fixed.length 1 (gl csB v4.Fixed)), (.lst 6 v4.Lengths.length 1 (gl (csF .f32) v4.Lengths)), (.c (.flt .f32 v4.Fall.X.bits)), (.c (.flt .f32 v4.Fall.Y.bits)), (.c (.flt .f32 v4.Fall.Z.bits)), (.c (.flt .f32 v4.Damp.bits)), (.c (.int .i64 v4.Passes))])), (2, (.box [.nils, .nils, .nils, .nils, (.c (.flt .f32 (default : F32).bits)), (.c (.flt .f32 (default : F32).bits)), (.c (.flt .f32 (default : F32).bits)), (.c (.flt .f32 (default : F32).bits)), (.c (.int .i64 (0 : Int)))])), (3, (.lst v4.Points.length 3 (gl cs_Vector v4.Points))), (4, (.lst v4.Before.length 3 (gl cs_Vector v4.Before))), (5, (.lst v4.Fixed.length 1 (gl csB v4.Fixed))), (6, (.lst v4.Lengths.length 1 (gl (csF .f32) v4.Lengths)))]⟩) (ob := True ∧ ((((((sl 3 cs_Vector a0.Points) : C) = (sl 3 cs_Vector a0.Points)) ∧ (((sl 3 cs_Vector a0.Before) : C) = (sl 3 cs_Vector a0.Before)) ∧ (((sl 1 csB a0.Fixed) : C) = (sl 1 csB a0.Fixed)) ∧ (((sl 1 (csF .f32) a0.Lengths) : C) = (sl 1 (csF .f32) a0.Lengths)) ∧ (((.flt .f32 a0.Fall.X.bits) : C) = (.flt .f32 a0.Fall.X.bits)) ∧ (((.flt .f32 a0.Fall.Y.bits) : C) = (.flt .f32 a0.Fall.Y.bits)) ∧ (((.flt .f32 a0.Fall.Z.bits) : C) = (.flt .f32 a0.Fall.Z.bits)) ∧ (((.flt .f32 a0.Damp.bits) : C) = (.flt .f32 a0.Damp.bits)) ∧ (((.int .i64 a0.Passes) : C) = (.int .i64 a0.Passes)) ∧ True) ∧ True) ∧ CallOK Try.prog 102 [.agg (cs_String a0)] [.agg (cs_String v4)]) ∧ True ∧ True) (by kernel_rfl) ⟨trivial, ⟨⟨⟨rfl, rfl, rfl, rfl, rfl, rfl, rfl, rfl, rfl, trivial⟩, trivial⟩, ok_impl_String_copied K a0 v4 e5⟩, trivial, trivial⟩ ?_
    refine thenQ_normal ?_
    refine AW.seq ?_
    obtain ⟨v6, e7, h⟩ := bind_some h
    refine AW.regionA [.no, .no, .no, .call [.one (sl 3 cs_Vector v4.Points), .one (.flt .f32 a1.bits)] [.one (sl 3 cs_Vector v6.1), .one (.bool v6.2)] [[.lst 7], [.view]]] [2, 4] [1, 2, 4, 5, 6, 7] (s' := ⟨[(2, (.v (.one (.ptr 1 0)))), (4, (.v (.one (.ptr 2 0))))], [(1, (.box [(.lst 7 v6.1.length 3 (gl cs_Vector v6.1)), (.lst 4 v4.Before.length 3 (gl cs_Vector v4.Before)), (.lst 5 v4.Fixed.length 1 (gl csB v4.Fixed)), (.lst 6 v4.Lengths.length 1 (gl (csF .f32) v4.Lengths)), (.c (.flt .f32 v4.Fall.X.bits)), (.c (.flt .f32 v4.Fall.Y.bits)), (.c (.flt .f32 v4.Fall.Z.bits)), (.c (.flt .f32 v4.Damp.bits)), (.c (.int .i64 v4.Passes))])), (2, (.box [.nils, .nils, .nils, .nils, (.c (.flt .f32 (default : F32).bits)), (.c (.flt .f32 (default : F32).bits)), (.c (.flt .f32 (default : F32).bits)), (.c (.flt .f32 (default : F32).bits)), (.c (.int .i64 (0 : Int)))])), (4, (.lst v4.Before.length 3 (gl cs_Vector v4.Before))), (5, (.lst v4.Fixed.length 1 (gl csB v4.Fixed))), (6, (.lst v4.Lengths.length 1 (gl (csF .f32) v4.Lengths))), (7, (.lst v6.1.length 3 (gl cs_Vector v6.1)))]⟩) (ob := True ∧ True ∧ True ∧ (((((sl 3 cs_Vector v4.Points) : C) = (sl 3 cs_Vector v4.Points)) ∧ (((.flt .f32 a1.bits) : C) = (.flt .f32 a1.bits)) ∧ True) ∧ CallOK Try.prog 103 [.one (sl 3 cs_Vector v4.Points), .one (.flt .f32 a1.bits)] [.one (sl 3 cs_Vector v6.1), .one (.bool v6.2)]) ∧ True ∧ True ∧ True ∧ True ∧ True ∧ True) (by kernel_rfl) ⟨trivial, trivial, trivial, ⟨⟨rfl, rfl, trivial⟩, ok_impl_LiftPoints K v4.Points a1 v6 e7⟩, trivial, trivial, trivial, trivial, trivial, trivial⟩ ?_
    refine thenQ_normal ?_
    refine AW.seq ?_
    refine AW.regionA [] [4, 5] [2, 4, 5, 6, 7] (s' := ⟨[(4, (.v (.one (.ptr 2 0)))), (5, (.v (.one (.c (.bool true)))))], [(2, (.box [(.lst 7 v6.1.length 3 (gl cs_Vector v6.1)), (.lst 4 v4.Before.length 3 (gl cs_Vector v4.Before)), (.lst 5 v4.Fixed.length 1 (gl csB v4.Fixed)), (.lst 6 v4.Lengths.length 1 (gl (csF .f32) v4.Lengths)), (.c (.flt .f32 v4.Fall.X.bits)), (.c (.flt .f32 v4.Fall.Y.bits)), (.c (.flt .f32 v4.Fall.Z.bits)), (.c (.flt .f32 v4.Damp.bits)), (.c (.int .i64 v4.Passes))])), (4, (.lst v4.Before.length 3 (gl cs_Vector v4.Before))), (5, (.lst v4.Fixed.length 1 (gl csB v4.Fixed))), (6, (.lst v4.Lengths.length 1 (gl (csF .f32) v4.Lengths))), (7, (.lst v6.1.length 3 (gl cs_Vector v6.1)))]⟩) (ob := True ∧ True ∧ True ∧ True) (by kernel_rfl) ⟨trivial, trivial, trivial, trivial⟩ ?_
    refine thenQ_normal ?_
    refine AW.ret ?_
    replace h := some_eq h
    subst h
    exact ⟨.inr rfl, retOK_of [(.agg [(.lst 7 v6.1.length 3 (gl cs_Vector v6.1)), (.lst 4 v4.Before.length 3 (gl cs_Vector v4.Before)), (.lst 5 v4.Fixed.length 1 (gl csB v4.Fixed)), (.lst 6 v4.Lengths.length 1 (gl (csF .f32) v4.Lengths)), (.c (.flt .f32 v4.Fall.X.bits)), (.c (.flt .f32 v4.Fall.Y.bits)), (.c (.flt .f32 v4.Fall.Z.bits)), (.c (.flt .f32 v4.Damp.bits)), (.c (.int .i64 v4.Passes))]), (.one (.c (.bool true)))] (by kernel_rfl) ⟨⟨rfl, rfl, rfl, rfl, ⟨rfl, trivial⟩, ⟨rfl, trivial⟩, ⟨rfl, trivial⟩, ⟨rfl, trivial⟩, ⟨rfl, trivial⟩, trivial⟩, ⟨rfl, trivial⟩, trivial⟩ (of_decide_eq_true (by kernel_rfl))⟩

/-! laws.sameFloat -/
def laws_sameFloat (_K : Nat) (a0 : F64) (a1 : F64) : Option (Bool) :=
  (ite2 ((a0.ne a0)) (some true) (some (a1.ne a1))).bind fun j2 => ite2 (j2) ((ite2 ((a0.ne a0)) (some (a1.ne a1)) (some false)).bind fun j6 => some j6) ((ite2 ((a0.eq (Fl.mk (k := .f64) 0 (by decide)))) (some (a1.eq (Fl.mk (k := .f64) 0 (by decide)))) (some false)).bind fun j9 => ite2 (j9) (some ((((Fl.mk (k := .f64) 4607182418800017408 (by decide)).div a0).gt (Fl.mk (k := .f64) 0 (by decide))) == (((Fl.mk (k := .f64) 4607182418800017408 (by decide)).div a1).gt (Fl.mk (k := .f64) 0 (by decide))))) (some (a0.eq a1)))

theorem ok_laws_sameFloat (K : Nat) (a0 : F64) (a1 : F64) (o : (Bool)) (h : laws_sameFloat K a0 a1 = some o) : CallOK Try.prog 108 [.one (.flt .f64 a0.bits), .one (.flt .f64 a1.bits)] [.one (.bool o)] := by
  refine callOK_of_AW Try.func108 rfl (by kernel_rfl) (Nat.le_of_ble_eq_true (by kernel_rfl)) ?_
  intro w0
  unfold laws_sameFloat at h
  refine AW.seq ?_
  refine AW.regionA [] [0, 1] [] (s' := ⟨[(0, (.v (.one (.c (.flt .f64 a0.bits))))), (1, (.v (.one (.c (.flt .f64 a1.bits)))))], []⟩) (ob := True ∧ True) (by kernel_rfl) ⟨trivial, trivial⟩ ?_
  refine thenQ_normal ?_
  refine AW.seq ?_
  refine AW.seq ?_
  obtain ⟨j2, e3, h⟩ := bind_some h
  refine AW.join1 (s2 := ⟨[(0, (.v (.one (.c (.flt .f64 a0.bits))))), (1, (.v (.one (.c (.flt .f64 a1.bits))))), (12, (.v (.one (.c (.bool j2)))))], []⟩) ?_ ?_
  · rcases ite2_cases e3 with ⟨b1, e3⟩ | ⟨b1, e3⟩
    · replace e3 := some_eq e3
      subst e3
      exact AW.regionA [.no, .no, .no, .dec true] [0, 1, 12] [] (s' := ⟨[(0, (.v (.one (.c (.flt .f64 a0.bits))))), (1, (.v (.one (.c (.flt .f64 a1.bits))))), (12, (.v (.one (.c (.bool true)))))], []⟩) (ob := True ∧ True ∧ True ∧ (True ∧ (a0.ne a0) = true) ∧ True ∧ True ∧ True ∧ True ∧ True) (by kernel_rfl) ⟨trivial, trivial, trivial, ⟨trivial, b1⟩, trivial, trivial, trivial, trivial, trivial⟩ ⟨rfl, rfl⟩
    · replace e3 := some_eq e3
      subst e3
      exact AW.regionA [.no, .no, .no, .dec false] [0, 1, 12] [] (s' := ⟨[(0, (.v (.one (.c (.flt .f64 a0.bits))))), (1, (.v (.one (.c (.flt .f64 a1.bits))))), (12, (.v (.one (.c (.bool (a1.ne a1))))))], []⟩) (ob := True ∧ True ∧ True ∧ (True ∧ (a0.ne a0) = false) ∧ True ∧ True ∧ True ∧ True ∧ True) (by kernel_rfl) ⟨trivial, trivial, trivial, ⟨trivial, b1⟩, trivial, trivial, trivial, trivial, trivial⟩ ⟨rfl, rfl⟩
  refine thenQ_normal ?_
  rcases ite2_cases h with ⟨b4, h⟩ | ⟨b4, h⟩
  · refine AW.cond_t rfl b4 ?_
    refine AW.seq ?_
    obtain ⟨j6, e7, h⟩ := bind_some h
    refine AW.join1 (s2 := ⟨[(4, (.v (.one (.c (.bool j6)))))], []⟩) ?_ ?_
    · rcases ite2_cases e7 with ⟨b5, e7⟩ | ⟨b5, e7⟩
      · replace e7 := some_eq e7
        subst e7
        exact AW.regionA [.no, .no, .no, .dec true] [4] [] (s' := ⟨[(4, (.v (.one (.c (.bool (a1.ne a1))))))], []⟩) (ob := True ∧ True ∧ True ∧ (True ∧ (a0.ne a0) = true) ∧ True ∧ True ∧ True ∧ True ∧ True ∧ True) (by kernel_rfl) ⟨trivial, trivial, trivial, ⟨trivial, b5⟩, trivial, trivial, trivial, trivial, trivial, trivial⟩ ⟨rfl, rfl⟩
      · replace e7 := some_eq e7
        subst e7
        exact AW.regionA [.no, .no, .no, .dec false] [4] [] (s' := ⟨[(4, (.v (.one (.c (.bool false)))))], []⟩) (ob := True ∧ True ∧ True ∧ (True ∧ (a0.ne a0) = false) ∧ True ∧ True ∧ True ∧ True ∧ True ∧ True) (by kernel_rfl) ⟨trivial, trivial, trivial, ⟨trivial, b5⟩, trivial, trivial, trivial, trivial, trivial, trivial⟩ ⟨rfl, rfl⟩
    refine thenQ_normal ?_
    refine AW.ret ?_
    refine thenQ_ret ?_
    replace h := some_eq h
    subst h
    exact ⟨.inr rfl, retOK_of [(.one (.c (.bool j6)))] (by kernel_rfl) ⟨⟨rfl, trivial⟩, trivial⟩ (of_decide_eq_true (by kernel_rfl))⟩
  · refine AW.cond_f rfl b4 ?_
    refine AW.skip ?_
    refine thenQ_normal ?_
    refine AW.seq ?_
    refine AW.seq ?_
    obtain ⟨j9, e10, h⟩ := bind_some h
    refine AW.join1 (s2 := ⟨[(0, (.v (.one (.c (.flt .f64 a0.bits))))), (1, (.v (.one (.c (.flt .f64 a1.bits))))), (26, (.v (.one (.c (.bool j9)))))], []⟩) ?_ ?_
    · rcases ite2_cases e10 with ⟨b8, e10⟩ | ⟨b8, e10⟩
      · replace e10 := some_eq e10
        subst e10
        exact AW.regionA [.no, .no, .dec true] [0, 1, 26] [] (s' := ⟨[(0, (.v (.one (.c (.flt .f64 a0.bits))))), (1, (.v (.one (.c (.flt .f64 a1.bits))))), (26, (.v (.one (.c (.bool (a1.eq (Fl.mk (k := .f64) 0 (by decide))))))))], []⟩) (ob := True ∧ True ∧ (True ∧ (a0.eq (Fl.mk (k := .f64) 0 (by decide))) = true) ∧ True ∧ True ∧ True ∧ True) (by kernel_rfl) ⟨trivial, trivial, ⟨trivial, b8⟩, trivial, trivial, trivial, trivial⟩ ⟨rfl, rfl⟩
      · replace e10 := some_eq e10
        subst e10
        exact AW.regionA [.no, .no, .dec false] [0, 1, 26] [] (s' := ⟨[(0, (.v (.one (.c (.flt .f64 a0.bits))))), (1, (.v (.one (.c (.flt .f64 a1.bits))))), (26, (.v (.one (.c (.bool false)))))], []⟩) (ob := True ∧ True ∧ (True ∧ (a0.eq (Fl.mk (k := .f64) 0 (by decide))) = false) ∧ True ∧ True ∧ True ∧ True) (by kernel_rfl) ⟨trivial, trivial, ⟨trivial, b8⟩, trivial, trivial, trivial, trivial⟩ ⟨rfl, rfl⟩
    refine thenQ_normal ?_
    rcases ite2_cases h with ⟨b11, h⟩ | ⟨b11, h⟩
    · refine AW.cond_t rfl b11 ?_
      refine AW.seq ?_
      refine AW.regionA [] [4] [] (s' := ⟨[(4, (.v (.one (.c (.bool ((((Fl.mk (k := .f64) 4607182418800017408 (by decide)).div a0).gt (Fl.mk (k := .f64) 0 (by decide))) == (((Fl.mk (k := .f64) 4607182418800017408 (by decide)).div a1).gt (Fl.mk (k := .f64) 0 (by decide)))))))))], []⟩) (ob := True ∧ True ∧ True ∧ True ∧ True ∧ True ∧ True ∧ True ∧ True) (by kernel_rfl) ⟨trivial, trivial, trivial, trivial, trivial, trivial, trivial, trivial, trivial⟩ ?_
      refine thenQ_normal ?_
      refine AW.ret ?_
      refine thenQ_ret ?_
      replace h := some_eq h
      subst h
      exact ⟨.inr rfl, retOK_of [(.one (.c (.bool ((((Fl.mk (k := .f64) 4607182418800017408 (by decide)).div a0).gt (Fl.mk (k := .f64) 0 (by decide))) == (((Fl.mk (k := .f64) 4607182418800017408 (by decide)).div a1).gt (Fl.mk (k := .f64) 0 (by decide)))))))] (by kernel_rfl) ⟨⟨rfl, trivial⟩, trivial⟩ (of_decide_eq_true (by kernel_rfl))⟩
    · refine AW.cond_f rfl b11 ?_
      refine AW.skip ?_
      refine thenQ_normal ?_
      refine AW.seq ?_
      refine AW.regionA [] [4] [] (s' := ⟨[(4, (.v (.one (.c (.bool (a0.eq a1))))))], []⟩) (ob := True ∧ True ∧ True ∧ True ∧ True) (by kernel_rfl) ⟨trivial, trivial, trivial, trivial, trivial⟩ ?_
      refine thenQ_normal ?_
      refine AW.ret ?_
      replace h := some_eq h
      subst h
      exact ⟨.inr rfl, retOK_of [(.one (.c (.bool (a0.eq a1))))] (by kernel_rfl) ⟨⟨rfl, trivial⟩, trivial⟩ (of_decide_eq_true (by kernel_rfl))⟩

/-! laws.eqVector -/
def laws_eqVector (K : Nat) (a0 : Vector) (a1 : Vector) : Option (Bool) :=
  (laws_sameFloat K (Fl.cv .f32 .f64 a0.X) (Fl.cv .f32 .f64 a1.X)).bind fun v1 => ite2 ((!v1)) (some false) ((laws_sameFloat K (Fl.cv .f32 .f64 a0.Y) (Fl.cv .f32 .f64 a1.Y)).bind fun v4 => ite2 ((!v4)) (some false) ((laws_sameFloat K (Fl.cv .f32 .f64 a0.Z) (Fl.cv .f32 .f64 a1.Z)).bind fun v7 => ite2 ((!v7)) (some false) (some true)))

theorem ok_laws_eqVector (K : Nat) (a0 : Vector) (a1 : Vector) (o : (Bool)) (h : laws_eqVector K a0 a1 = some o) : CallOK Try.prog 107 [.agg (cs_Vector a0), .agg (cs_Vector a1)] [.one (.bool o)] := by
  refine callOK_of_AW Try.func107 rfl (by kernel_rfl) (Nat.le_of_ble_eq_true (by kernel_rfl)) ?_
  intro w0
  unfold laws_eqVector at h
  refine AW.seq ?_
  refine AW.regionA [.box 1, .box 2] [2, 3] [1, 2] (s' := ⟨[(2, (.v (.one (.ptr 1 0)))), (3, (.v (.one (.ptr 2 0))))], [(1, (.box [(.c (.flt .f32 a0.X.bits)), (.c (.flt .f32 a0.Y.bits)), (.c (.flt .f32 a0.Z.bits))])), (2, (.box [(.c (.flt .f32 a1.X.bits)), (.c (.flt .f32 a1.Y.bits)), (.c (.flt .f32 a1.Z.bits))]))]⟩) (ob := True ∧ True ∧ True ∧ True) (by kernel_rfl) ⟨trivial, trivial, trivial, trivial⟩ ?_
  refine thenQ_normal ?_
  refine AW.seq ?_
  refine AW.seq ?_
  obtain ⟨v1, e2, h⟩ := bind_some h
  refine AW.regionA [.no, .no, .no, .no, .no, .no, .call [.one (.flt .f64 (Fl.cv .f32 .f64 a0.X).bits), .one (.flt .f64 (Fl.cv .f32 .f64 a1.X).bits)] [.one (.bool v1)] [[.view]]] [2, 3, 12] [1, 2] (s' := ⟨[(2, (.v (.one (.ptr 1 0)))), (3, (.v (.one (.ptr 2 0)))), (12, (.v (.one (.c (.bool (!v1))))))], [(1, (.box [(.c (.flt .f32 a0.X.bits)), (.c (.flt .f32 a0.Y.bits)), (.c (.flt .f32 a0.Z.bits))])), (2, (.box [(.c (.flt .f32 a1.X.bits)), (.c (.flt .f32 a1.Y.bits)), (.c (.flt .f32 a1.Z.bits))]))]⟩) (ob := True ∧ True ∧ ((convBits .f32 a0.X.bits .f64).isSome = true) ∧ True ∧ True ∧ ((convBits .f32 a1.X.bits .f64).isSome = true) ∧ (((((.flt .f64 (Fl.cv .f32 .f64 a0.X).bits) : C) = (.flt .f64 (Fl.cv .f32 .f64 a0.X).bits)) ∧ (((.flt .f64 (Fl.cv .f32 .f64 a1.X).bits) : C) = (.flt .f64 (Fl.cv .f32 .f64 a1.X).bits)) ∧ True) ∧ CallOK Try.prog 108 [.one (.flt .f64 (Fl.cv .f32 .f64 a0.X).bits), .one (.flt .f64 (Fl.cv .f32 .f64 a1.X).bits)] [.one (.bool v1)]) ∧ True ∧ True) (by kernel_rfl) ⟨trivial, trivial, cv_wide a0.X, trivial, trivial, cv_wide a1.X, ⟨⟨rfl, rfl, trivial⟩, ok_laws_sameFloat K (Fl.cv .f32 .f64 a0.X) (Fl.cv .f32 .f64 a1.X) v1 e2⟩, trivial, trivial⟩ ?_
  refine thenQ_normal ?_
  rcases ite2_cases h with ⟨b3, h⟩ | ⟨b3, h⟩
  · refine AW.cond_t rfl b3 ?_
    refine AW.seq ?_
    refine AW.regionA [] [4] [] (s' := ⟨[(4, (.v (.one (.c (.bool false)))))], []⟩) (ob := True ∧ True) (by kernel_rfl) ⟨trivial, trivial⟩ ?_
    refine thenQ_normal ?_
    refine AW.ret ?_
    refine thenQ_ret ?_
    replace h := some_eq h
    subst h
    exact ⟨.inr rfl, retOK_of [(.one (.c (.bool false)))] (by kernel_rfl) ⟨⟨rfl, trivial⟩, trivial⟩ (of_decide_eq_true (by kernel_rfl))⟩
  · refine AW.cond_f rfl b3 ?_
    refine AW.skip ?_
    refine thenQ_normal ?_
    refine AW.seq ?_
    refine AW.seq ?_
    obtain ⟨v4, e5, h⟩ := bind_some h
    refine AW.regionA [.no, .no, .no, .no, .no, .no, .call [.one (.flt .f64 (Fl.cv .f32 .f64 a0.Y).bits), .one (.flt .f64 (Fl.cv .f32 .f64 a1.Y).bits)] [.one (.bool v4)] [[.view]]] [2, 3, 20] [1, 2] (s' := ⟨[(2, (.v (.one (.ptr 1 0)))), (3, (.v (.one (.ptr 2 0)))), (20, (.v (.one (.c (.bool (!v4))))))], [(1, (.box [(.c (.flt .f32 a0.X.bits)), (.c (.flt .f32 a0.Y.bits)), (.c (.flt .f32 a0.Z.bits))])), (2, (.box [(.c (.flt .f32 a1.X.bits)), (.c (.flt .f32 a1.Y.bits)), (.c (.flt .f32 a1.Z.bits))]))]⟩) (ob := True ∧ True ∧ ((convBits .f32 a0.Y.bits .f64).isSome = true) ∧ True ∧ True ∧ ((convBits .f32 a1.Y.bits .f64).isSome = true) ∧ (((((.flt .f64 (Fl.cv .f32 .f64 a0.Y).bits) : C) = (.flt .f64 (Fl.cv .f32 .f64 a0.Y).bits)) ∧ (((.flt .f64 (Fl.cv .f32 .f64 a1.Y).bits) : C) = (.flt .f64 (Fl.cv .f32 .f64 a1.Y).bits)) ∧ True) ∧ CallOK Try.prog 108 [.one (.flt .f64 (Fl.cv .f32 .f64 a0.Y).bits), .one (.flt .f64 (Fl.cv .f32 .f64 a1.Y).bits)] [.one (.bool v4)]) ∧ True ∧ True) (by kernel_rfl) ⟨trivial, trivial, cv_wide a0.Y, trivial, trivial, cv_wide a1.Y, ⟨⟨rfl, rfl, trivial⟩, ok_laws_sameFloat K (Fl.cv .f32 .f64 a0.Y) (Fl.cv .f32 .f64 a1.Y) v4 e5⟩, trivial, trivial⟩ ?_
    refine thenQ_normal ?_
    rcases ite2_cases h with ⟨b6, h⟩ | ⟨b6, h⟩
    · refine AW.cond_t rfl b6 ?_
      refine AW.seq ?_
      refine AW.regionA [] [4] [] (s' := ⟨[(4, (.v (.one (.c (.bool false)))))], []⟩) (ob := True ∧ True) (by kernel_rfl) ⟨trivial, trivial⟩ ?_
      refine thenQ_normal ?_
      refine AW.ret ?_
      refine thenQ_ret ?_
      replace h := some_eq h
      subst h
      exact ⟨.inr rfl, retOK_of [(.one (.c (.bool false)))] (by kernel_rfl) ⟨⟨rfl, trivial⟩, trivial⟩ (of_decide_eq_true (by kernel_rfl))⟩
    · refine AW.cond_f rfl b6 ?_
      refine AW.skip ?_
      refine thenQ_normal ?_
      refine AW.seq ?_
      refine AW.seq ?_
      obtain ⟨v7, e8, h⟩ := bind_some h
      refine AW.regionA [.no, .no, .no, .no, .no, .no, .call [.one (.flt .f64 (Fl.cv .f32 .f64 a0.Z).bits), .one (.flt .f64 (Fl.cv .f32 .f64 a1.Z).bits)] [.one (.bool v7)] [[.view]]] [28] [] (s' := ⟨[(28, (.v (.one (.c (.bool (!v7))))))], []⟩) (ob := True ∧ True ∧ ((convBits .f32 a0.Z.bits .f64).isSome = true) ∧ True ∧ True ∧ ((convBits .f32 a1.Z.bits .f64).isSome = true) ∧ (((((.flt .f64 (Fl.cv .f32 .f64 a0.Z).bits) : C) = (.flt .f64 (Fl.cv .f32 .f64 a0.Z).bits)) ∧ (((.flt .f64 (Fl.cv .f32 .f64 a1.Z).bits) : C) = (.flt .f64 (Fl.cv .f32 .f64 a1.Z).bits)) ∧ True) ∧ CallOK Try.prog 108 [.one (.flt .f64 (Fl.cv .f32 .f64 a0.Z).bits), .one (.flt .f64 (Fl.cv .f32 .f64 a1.Z).bits)] [.one (.bool v7)]) ∧ True ∧ True) (by kernel_rfl) ⟨trivial, trivial, cv_wide a0.Z, trivial, trivial, cv_wide a1.Z, ⟨⟨rfl, rfl, trivial⟩, ok_laws_sameFloat K (Fl.cv .f32 .f64 a0.Z) (Fl.cv .f32 .f64 a1.Z) v7 e8⟩, trivial, trivial⟩ ?_
      refine thenQ_normal ?_
      rcases ite2_cases h with ⟨b9, h⟩ | ⟨b9, h⟩
      · refine AW.cond_t rfl b9 ?_
        refine AW.seq ?_
        refine AW.regionA [] [4] [] (s' := ⟨[(4, (.v (.one (.c (.bool false)))))], []⟩) (ob := True ∧ True) (by kernel_rfl) ⟨trivial, trivial⟩ ?_
        refine thenQ_normal ?_
        refine AW.ret ?_
        refine thenQ_ret ?_
        replace h := some_eq h
        subst h
        exact ⟨.inr rfl, retOK_of [(.one (.c (.bool false)))] (by kernel_rfl) ⟨⟨rfl, trivial⟩, trivial⟩ (of_decide_eq_true (by kernel_rfl))⟩
      · refine AW.cond_f rfl b9 ?_
        refine AW.skip ?_
        refine thenQ_normal ?_
        refine AW.seq ?_
        refine AW.regionA [] [4] [] (s' := ⟨[(4, (.v (.one (.c (.bool true)))))], []⟩) (ob := True ∧ True) (by kernel_rfl) ⟨trivial, trivial⟩ ?_
        refine thenQ_normal ?_
        refine AW.ret ?_
        replace h := some_eq h
        subst h
        exact ⟨.inr rfl, retOK_of [(.one (.c (.bool true)))] (by kernel_rfl) ⟨⟨rfl, trivial⟩, trivial⟩ (of_decide_eq_true (by kernel_rfl))⟩

/-! laws.eqVectorS -/
def laws_eqVectorS_l1 (K : Nat) (a0 : (List Vector)) (a1 : (List Vector)) : Nat → Int → Option (Bool)
  | 0, _ => none
  | k + 1, x3 => ite2 ((decide (x3 < (a0.length : Int)))) (chk (0 ≤ x3 ∧ x3 < (a0.length : Int)) (chk (0 ≤ x3 ∧ x3 < (a1.length : Int)) ((laws_eqVector K (a0.getD x3.toNat default) (a1.getD x3.toNat default)).bind fun v7 => ite2 ((!v7)) (some false) (laws_eqVectorS_l1 K a0 a1 k (IntKind.i64.wrap (x3 + (1 : Int))))))) (some true)

def laws_eqVectorS (K : Nat) (a0 : (List Vector)) (a1 : (List Vector)) : Option (Bool) :=
  ite2 (((a0.length : Int) != (a1.length : Int))) (some false) (laws_eqVectorS_l1 K a0 a1 K (0 : Int))

theorem ok_laws_eqVectorS (K : Nat) (a0 : (List Vector)) (a1 : (List Vector)) (o : (Bool)) (h : laws_eqVectorS K a0 a1 = some o) : CallOK Try.prog 104 [.one (sl 3 cs_Vector a0), .one (sl 3 cs_Vector a1)] [.one (.bool o)] := by
  refine callOK_of_AW Try.func104 rfl (by kernel_rfl) (Nat.le_of_ble_eq_true (by kernel_rfl)) ?_
  intro w0
  unfold laws_eqVectorS at h
  refine AW.seq ?_
  refine AW.regionA [] [0, 1] [] (s' := ⟨[(0, (.v (.one (.c (sl 3 cs_Vector a0))))), (1, (.v (.one (.c (sl 3 cs_Vector a1)))))], []⟩) (ob := True ∧ True) (by kernel_rfl) ⟨trivial, trivial⟩ ?_
  refine thenQ_normal ?_
  refine AW.seq ?_
  refine AW.seq ?_
  refine AW.regionA [] [0, 1, 10] [] (s' := ⟨[(0, (.v (.one (.c (sl 3 cs_Vector a0))))), (1, (.v (.one (.c (sl 3 cs_Vector a1))))), (10, (.v (.one (.c (.bool ((a0.length : Int) != (a1.length : Int)))))))], []⟩) (ob := True ∧ True ∧ True ∧ True ∧ True ∧ True) (by kernel_rfl) ⟨trivial, trivial, trivial, trivial, trivial, trivial⟩ ?_
  refine thenQ_normal ?_
  rcases ite2_cases h with ⟨b1, h⟩ | ⟨b1, h⟩
  · refine AW.cond_t rfl b1 ?_
    refine AW.seq ?_
    refine AW.regionA [] [4] [] (s' := ⟨[(4, (.v (.one (.c (.bool false)))))], []⟩) (ob := True ∧ True) (by kernel_rfl) ⟨trivial, trivial⟩ ?_
    refine thenQ_normal ?_
    refine AW.ret ?_
    refine thenQ_ret ?_
    replace h := some_eq h
    subst h
    exact ⟨.inr rfl, retOK_of [(.one (.c (.bool false)))] (by kernel_rfl) ⟨⟨rfl, trivial⟩, trivial⟩ (of_decide_eq_true (by kernel_rfl))⟩
  · refine AW.cond_f rfl b1 ?_
    refine AW.skip ?_
    refine thenQ_normal ?_
    refine AW.seq ?_
    refine AW.seq ?_
    refine AW.regionA [] [0, 1, 5] [] (s' := ⟨[(0, (.v (.one (.c (sl 3 cs_Vector a0))))), (1, (.v (.one (.c (sl 3 cs_Vector a1))))), (5, (.v (.one (.c (.int .i64 (0 : Int))))))], []⟩) (ob := True ∧ True) (by kernel_rfl) ⟨trivial, trivial⟩ ?_
    refine thenQ_normal ?_
    refine AW.block ?_
    refine AW.loopQ (σ := Nat × Int) (fun p => ⟨[(0, (.v (.one (.c (sl 3 cs_Vector a0))))), (1, (.v (.one (.c (sl 3 cs_Vector a1))))), (5, (.v (.one (.c (.int .i64 p.2)))))], []⟩) (fun p => laws_eqVectorS_l1 K a0 a1 p.1 p.2 = some o) (fun p => p.1) (K, (0 : Int)) h ?_
    clear h
    rintro ⟨k, x3⟩ h
    replace h : laws_eqVectorS_l1 K a0 a1 k x3 = some o := h
    show AW _ _ (⟨[(0, (.v (.one (.c (sl 3 cs_Vector a0))))), (1, (.v (.one (.c (sl 3 cs_Vector a1))))), (5, (.v (.one (.c (.int .i64 x3)))))], []⟩ : St) _
    obtain _ | k := k
    · rw [laws_eqVectorS_l1] at h; cases h
    rw [laws_eqVectorS_l1] at h
    refine AW.seq ?_
    refine AW.seq ?_
    refine AW.regionA [] [0, 1, 5, 14] [] (s' := ⟨[(0, (.v (.one (.c (sl 3 cs_Vector a0))))), (1, (.v (.one (.c (sl 3 cs_Vector a1))))), (5, (.v (.one (.c (.int .i64 x3))))), (14, (.v (.one (.c (.bool (decide (x3 < (a0.length : Int))))))))], []⟩) (ob := True ∧ True ∧ True ∧ True ∧ True) (by kernel_rfl) ⟨trivial, trivial, trivial, trivial, trivial⟩ ?_
    refine thenQ_normal ?_
    rcases ite2_cases h with ⟨b4, h⟩ | ⟨b4, h⟩
    · refine AW.cond_t rfl b4 ?_
      refine AW.skip ?_
      refine thenQ_normal ?_
      refine AW.seq ?_
      refine AW.block ?_
      refine AW.seq ?_
      obtain ⟨c5, h⟩ := chk_some h
      obtain ⟨c6, h⟩ := chk_some h
      obtain ⟨v7, e8, h⟩ := bind_some h
      refine AW.drawnA (by kernel_rfl) 10 [.no, .no, .no, .no, .no, .no, .no, .no, .call [.agg (cs_Vector (a0.getD x3.toNat default)), .agg (cs_Vector (a1.getD x3.toNat default))] [.one (.bool v7)] [[.view]]] [0, 1, 5, 26] [] (s' := ⟨[(0, (.v (.one (.c (sl 3 cs_Vector a0))))), (1, (.v (.one (.c (sl 3 cs_Vector a1))))), (5, (.v (.one (.c (.int .i64 x3))))), (26, (.v (.one (.c (.bool (!v7))))))], []⟩) (ob := (True ∧ True ∧ (0 ≤ x3 ∧ x3 < (a0.length : Int)) ∧ True ∧ True ∧ True ∧ (0 ≤ x3 ∧ x3 < (a1.length : Int)) ∧ True ∧ ((((((.flt .f32 ((a0.getD x3.toNat default).X).bits) : C) = (.flt .f32 ((a0.getD x3.toNat default).X).bits)) ∧ (((.flt .f32 ((a0.getD x3.toNat default).Y).bits) : C) = (.flt .f32 ((a0.getD x3.toNat default).Y).bits)) ∧ (((.flt .f32 ((a0.getD x3.toNat default).Z).bits) : C) = (.flt .f32 ((a0.getD x3.toNat default).Z).bits)) ∧ True) ∧ ((((.flt .f32 ((a1.getD x3.toNat default).X).bits) : C) = (.flt .f32 ((a1.getD x3.toNat default).X).bits)) ∧ (((.flt .f32 ((a1.getD x3.toNat default).Y).bits) : C) = (.flt .f32 ((a1.getD x3.toNat default).Y).bits)) ∧ (((.flt .f32 ((a1.getD x3.toNat default).Z).bits) : C) = (.flt .f32 ((a1.getD x3.toNat default).Z).bits)) ∧ True) ∧ True) ∧ CallOK Try.prog 107 [.agg (cs_Vector (a0.getD x3.toNat default)), .agg (cs_Vector (a1.getD x3.toNat default))] [.one (.bool v7)]) ∧ True ∧ True) ∧ (True)) (by kernel_rfl) ⟨⟨trivial, trivial, c5, trivial, trivial, trivial, c6, trivial, ⟨⟨⟨rfl, rfl, rfl, trivial⟩, ⟨rfl, rfl, rfl, trivial⟩, trivial⟩, ok_laws_eqVector K (a0.getD x3.toNat default) (a1.getD x3.toNat default) v7 e8⟩, trivial, trivial⟩, trivial⟩ ?_
      refine thenQ_normal ?_
      rcases ite2_cases h with ⟨b9, h⟩ | ⟨b9, h⟩
      · refine AW.cond_t rfl b9 ?_
        refine AW.seq ?_
        refine AW.regionA [] [4] [] (s' := ⟨[(4, (.v (.one (.c (.bool false)))))], []⟩) (ob := True ∧ True) (by kernel_rfl) ⟨trivial, trivial⟩ ?_
        refine thenQ_normal ?_
        refine AW.ret ?_
        refine blockQ_ret ?_
        refine thenQ_ret ?_
        refine loopQ_ret ?_
        refine blockQ_ret ?_
        refine thenQ_ret ?_
        replace h := some_eq h
        subst h
        exact ⟨.inr rfl, retOK_of [(.one (.c (.bool false)))] (by kernel_rfl) ⟨⟨rfl, trivial⟩, trivial⟩ (of_decide_eq_true (by kernel_rfl))⟩
      · refine AW.cond_f rfl b9 ?_
        refine AW.skip ?_
        refine blockQ_normal ?_
        refine thenQ_normal ?_
        refine AW.regionA [] [0, 1, 5] [] (s' := ⟨[(0, (.v (.one (.c (sl 3 cs_Vector a0))))), (1, (.v (.one (.c (sl 3 cs_Vector a1))))), (5, (.v (.one (.c (.int .i64 (IntKind.i64.wrap (x3 + (1 : Int))))))))], []⟩) (ob := True ∧ True ∧ True ∧ True) (by kernel_rfl) ⟨trivial, trivial, trivial, trivial⟩ ?_
        exact loopQ_normal (k, (IntKind.i64.wrap (x3 + (1 : Int)))) h (Nat.lt_succ_self k) (Sub.keep [0, 1, 5] [] (by kernel_rfl) (by kernel_rfl))
    · refine AW.cond_f rfl b4 ?_
      refine AW.exit ?_
      refine thenQ_exit ?_
      refine loopQ_exit ?_
      refine blockQ_exit ?_
      refine thenQ_normal ?_
      refine AW.seq ?_
      refine AW.regionA [] [4] [] (s' := ⟨[(4, (.v (.one (.c (.bool true)))))], []⟩) (ob := True ∧ True) (by kernel_rfl) ⟨trivial, trivial⟩ ?_
      refine thenQ_normal ?_
      refine AW.ret ?_
      replace h := some_eq h
      subst h
      exact ⟨.inr rfl, retOK_of [(.one (.c (.bool true)))] (by kernel_rfl) ⟨⟨rfl, trivial⟩, trivial⟩ (of_decide_eq_true (by kernel_rfl))⟩

/-! laws.eqBoolS -/
def laws_eqBoolS_l1 (K : Nat) (a0 : (List Bool)) (a1 : (List Bool)) : Nat → Int → Option (Bool)
  | 0, _ => none
  | k + 1, x3 => ite2 ((decide (x3 < (a0.length : Int)))) (chk (0 ≤ x3 ∧ x3 < (a0.length : Int)) (chk (0 ≤ x3 ∧ x3 < (a1.length : Int)) (ite2 ((!((a0.getD x3.toNat default) == (a1.getD x3.toNat default)))) (some false) (laws_eqBoolS_l1 K a0 a1 k (IntKind.i64.wrap (x3 + (1 : Int))))))) (some true)

def laws_eqBoolS (K : Nat) (a0 : (List Bool)) (a1 : (List Bool)) : Option (Bool) :=
  ite2 (((a0.length : Int) != (a1.length : Int))) (some false) (laws_eqBoolS_l1 K a0 a1 K (0 : Int))

theorem ok_laws_eqBoolS (K : Nat) (a0 : (List Bool)) (a1 : (List Bool)) (o : (Bool)) (h : laws_eqBoolS K a0 a1 = some o) : CallOK Try.prog 105 [.one (sl 1 csB a0), .one (sl 1 csB a1)] [.one (.bool o)] := by
  refine callOK_of_AW Try.func105 rfl (by kernel_rfl) (Nat.le_of_ble_eq_true (by kernel_rfl)) ?_
  intro w0
  unfold laws_eqBoolS at h
  refine AW.seq ?_
  refine AW.regionA [] [0, 1] [] (s' := ⟨[(0, (.v (.one (.c (sl 1 csB a0))))), (1, (.v (.one (.c (sl 1 csB a1)))))], []⟩) (ob := True ∧ True) (by kernel_rfl) ⟨trivial, trivial⟩ ?_
  refine thenQ_normal ?_
  refine AW.seq ?_
  refine AW.seq ?_
  refine AW.regionA [] [0, 1, 10] [] (s' := ⟨[(0, (.v (.one (.c (sl 1 csB a0))))), (1, (.v (.one (.c (sl 1 csB a1))))), (10, (.v (.one (.c (.bool ((a0.length : Int) != (a1.length : Int)))))))], []⟩) (ob := True ∧ True ∧ True ∧ True ∧ True ∧ True) (by kernel_rfl) ⟨trivial, trivial, trivial, trivial, trivial, trivial⟩ ?_
  refine thenQ_normal ?_
  rcases ite2_cases h with ⟨b1, h⟩ | ⟨b1, h⟩
  · refine AW.cond_t rfl b1 ?_
    refine AW.seq ?_
    refine AW.regionA [] [4] [] (s' := ⟨[(4, (.v (.one (.c (.bool false)))))], []⟩) (ob := True ∧ True) (by kernel_rfl) ⟨trivial, trivial⟩ ?_
    refine thenQ_normal ?_
    refine AW.ret ?_
    refine thenQ_ret ?_
    replace h := some_eq h
    subst h
    exact ⟨.inr rfl, retOK_of [(.one (.c (.bool false)))] (by kernel_rfl) ⟨⟨rfl, trivial⟩, trivial⟩ (of_decide_eq_true (by kernel_rfl))⟩
  · refine AW.cond_f rfl b1 ?_
    refine AW.skip ?_
    refine thenQ_normal ?_
    refine AW.seq ?_
    refine AW.seq ?_
    refine AW.regionA [] [0, 1, 5] [] (s' := ⟨[(0, (.v (.one (.c (sl 1 csB a0))))), (1, (.v (.one (.c (sl 1 csB a1))))), (5, (.v (.one (.c (.int .i64 (0 : Int))))))], []⟩) (ob := True ∧ True) (by kernel_rfl) ⟨trivial, trivial⟩ ?_
    refine thenQ_normal ?_
    refine AW.block ?_
    refine AW.loopQ (σ := Nat × Int) (fun p => ⟨[(0, (.v (.one (.c (sl 1 csB a0))))), (1, (.v (.one (.c (sl 1 csB a1))))), (5, (.v (.one (.c (.int .i64 p.2)))))], []⟩) (fun p => laws_eqBoolS_l1 K a0 a1 p.1 p.2 = some o) (fun p => p.1) (K, (0 : Int)) h ?_
    clear h
    rintro ⟨k, x3⟩ h
    replace h : laws_eqBoolS_l1 K a0 a1 k x3 = some o := h
    show AW _ _ (⟨[(0, (.v (.one (.c (sl 1 csB a0))))), (1, (.v (.one (.c (sl 1 csB a1))))), (5, (.v (.one (.c (.int .i64 x3)))))], []⟩ : St) _
    obtain _ | k := k
    · rw [laws_eqBoolS_l1] at h; cases h
    rw [laws_eqBoolS_l1] at h
    refine AW.seq ?_
    refine AW.seq ?_
    refine AW.regionA [] [0, 1, 5, 14] [] (s' := ⟨[(0, (.v (.one (.c (sl 1 csB a0))))), (1, (.v (.one (.c (sl 1 csB a1))))), (5, (.v (.one (.c (.int .i64 x3))))), (14, (.v (.one (.c (.bool (decide (x3 < (a0.length : Int))))))))], []⟩) (ob := True ∧ True ∧ True ∧ True ∧ True) (by kernel_rfl) ⟨trivial, trivial, trivial, trivial, trivial⟩ ?_
    refine thenQ_normal ?_
    rcases ite2_cases h with ⟨b4, h⟩ | ⟨b4, h⟩
    · refine AW.cond_t rfl b4 ?_
      refine AW.skip ?_
      refine thenQ_normal ?_
      refine AW.seq ?_
      refine AW.block ?_
      refine AW.seq ?_
      obtain ⟨c5, h⟩ := chk_some h
      obtain ⟨c6, h⟩ := chk_some h
      refine AW.drawnA (by kernel_rfl) 9 [] [0, 1, 5, 25] [] (s' := ⟨[(0, (.v (.one (.c (sl 1 csB a0))))), (1, (.v (.one (.c (sl 1 csB a1))))), (5, (.v (.one (.c (.int .i64 x3))))), (25, (.v (.one (.c (.bool (!((a0.getD x3.toNat default) == (a1.getD x3.toNat default))))))))], []⟩) (ob := (True ∧ True ∧ (0 ≤ x3 ∧ x3 < (a0.length : Int)) ∧ True ∧ True ∧ True ∧ (0 ≤ x3 ∧ x3 < (a1.length : Int)) ∧ True ∧ True ∧ True) ∧ (True)) (by kernel_rfl) ⟨⟨trivial, trivial, c5, trivial, trivial, trivial, c6, trivial, trivial, trivial⟩, trivial⟩ ?_
      refine thenQ_normal ?_
      rcases ite2_cases h with ⟨b7, h⟩ | ⟨b7, h⟩
      · refine AW.cond_t rfl b7 ?_
        refine AW.seq ?_
        refine AW.regionA [] [4] [] (s' := ⟨[(4, (.v (.one (.c (.bool false)))))], []⟩) (ob := True ∧ True) (by kernel_rfl) ⟨trivial, trivial⟩ ?_
        refine thenQ_normal ?_
        refine AW.ret ?_
        refine blockQ_ret ?_
        refine thenQ_ret ?_
        refine loopQ_ret ?_
        refine blockQ_ret ?_
        refine thenQ_ret ?_
        replace h := some_eq h
        subst h
        exact ⟨.inr rfl, retOK_of [(.one (.c (.bool false)))] (by kernel_rfl) ⟨⟨rfl, trivial⟩, trivial⟩ (of_decide_eq_true (by kernel_rfl))⟩
      · refine AW.cond_f rfl b7 ?_
        refine AW.skip ?_
        refine blockQ_normal ?_
        refine thenQ_normal ?_
        refine AW.regionA [] [0, 1, 5] [] (s' := ⟨[(0, (.v (.one (.c (sl 1 csB a0))))), (1, (.v (.one (.c (sl 1 csB a1))))), (5, (.v (.one (.c (.int .i64 (IntKind.i64.wrap (x3 + (1 : Int))))))))], []⟩) (ob := True ∧ True ∧ True ∧ True) (by kernel_rfl) ⟨trivial, trivial, trivial, trivial⟩ ?_
        exact loopQ_normal (k, (IntKind.i64.wrap (x3 + (1 : Int)))) h (Nat.lt_succ_self k) (Sub.keep [0, 1, 5] [] (by kernel_rfl) (by kernel_rfl))
    · refine AW.cond_f rfl b4 ?_
      refine AW.exit ?_
      refine thenQ_exit ?_
      refine loopQ_exit ?_
      refine blockQ_exit ?_
      refine thenQ_normal ?_
      refine AW.seq ?_
      refine AW.regionA [] [4] [] (s' := ⟨[(4, (.v (.one (.c (.bool true)))))], []⟩) (ob := True ∧ True) (by kernel_rfl) ⟨trivial, trivial⟩ ?_
      refine thenQ_normal ?_
      refine AW.ret ?_
      replace h := some_eq h
      subst h
      exact ⟨.inr rfl, retOK_of [(.one (.c (.bool true)))] (by kernel_rfl) ⟨⟨rfl, trivial⟩, trivial⟩ (of_decide_eq_true (by kernel_rfl))⟩

/-! laws.eqFloat32S -/
def laws_eqFloat32S_l1 (K : Nat) (a0 : (List F32)) (a1 : (List F32)) : Nat → Int → Option (Bool)
  | 0, _ => none
  | k + 1, x3 => ite2 ((decide (x3 < (a0.length : Int)))) (chk (0 ≤ x3 ∧ x3 < (a0.length : Int)) (chk (0 ≤ x3 ∧ x3 < (a1.length : Int)) ((laws_sameFloat K (Fl.cv .f32 .f64 (a0.getD x3.toNat default)) (Fl.cv .f32 .f64 (a1.getD x3.toNat default))).bind fun v7 => ite2 ((!v7)) (some false) (laws_eqFloat32S_l1 K a0 a1 k (IntKind.i64.wrap (x3 + (1 : Int))))))) (some true)

def laws_eqFloat32S (K : Nat) (a0 : (List F32)) (a1 : (List F32)) : Option (Bool) :=
  ite2 (((a0.length : Int) != (a1.length : Int))) (some false) (laws_eqFloat32S_l1 K a0 a1 K (0 : Int))

theorem ok_laws_eqFloat32S (K : Nat) (a0 : (List F32)) (a1 : (List F32)) (o : (Bool)) (h : laws_eqFloat32S K a0 a1 = some o) : CallOK Try.prog 106 [.one (sl 1 (csF .f32) a0), .one (sl 1 (csF .f32) a1)] [.one (.bool o)] := by
  refine callOK_of_AW Try.func106 rfl (by kernel_rfl) (Nat.le_of_ble_eq_true (by kernel_rfl)) ?_
  intro w0
  unfold laws_eqFloat32S at h
  refine AW.seq ?_
  refine AW.regionA [] [0, 1] [] (s' := ⟨[(0, (.v (.one (.c (sl 1 (csF .f32) a0))))), (1, (.v (.one (.c (sl 1 (csF .f32) a1)))))], []⟩) (ob := True ∧ True) (by kernel_rfl) ⟨trivial, trivial⟩ ?_
  refine thenQ_normal ?_
  refine AW.seq ?_
  refine AW.seq ?_
  refine AW.regionA [] [0, 1, 10] [] (s' := ⟨[(0, (.v (.one (.c (sl 1 (csF .f32) a0))))), (1, (.v (.one (.c (sl 1 (csF .f32) a1))))), (10, (.v (.one (.c (.bool ((a0.length : Int) != (a1.length : Int)))))))], []⟩) (ob := True ∧ True ∧ True ∧ True ∧ True ∧ True) (by kernel_rfl) ⟨trivial, trivial, trivial, trivial, trivial, trivial⟩ ?_
  refine thenQ_normal ?_
  rcases ite2_cases h with ⟨b1, h⟩ | ⟨b1, h⟩
  · refine AW.cond_t rfl b1 ?_
    refine AW.seq ?_
    refine AW.regionA [] [4] [] (s' := ⟨[(4, (.v (.one (.c (.bool false)))))], []⟩) (ob := True ∧ True) (by kernel_rfl) ⟨trivial, trivial⟩ ?_
    refine thenQ_normal ?_
    refine AW.ret ?_
    refine thenQ_ret ?_
    replace h := some_eq h
    subst h
    exact ⟨.inr rfl, retOK_of [(.one (.c (.bool false)))] (by kernel_rfl) ⟨⟨rfl, trivial⟩, trivial⟩ (of_decide_eq_true (by kernel_rfl))⟩
  · refine AW.cond_f rfl b1 ?_
    refine AW.skip ?_
    refine thenQ_normal ?_
    refine AW.seq ?_
    refine AW.seq ?_
    refine AW.regionA [] [0, 1, 5] [] (s' := ⟨[(0, (.v (.one (.c (sl 1 (csF .f32) a0))))), (1, (.v (.one (.c (sl 1 (csF .f32) a1))))), (5, (.v (.one (.c (.int .i64 (0 : Int))))))], []⟩) (ob := True ∧ True) (by kernel_rfl) ⟨trivial, trivial⟩ ?_
    refine thenQ_normal ?_
    refine AW.block ?_
    refine AW.loopQ (σ := Nat × Int) (fun p => ⟨[(0, (.v (.one (.c (sl 1 (csF .f32) a0))))), (1, (.v (.one (.c (sl 1 (csF .f32) a1))))), (5, (.v (.one (.c (.int .i64 p.2)))))], []⟩) (fun p => laws_eqFloat32S_l1 K a0 a1 p.1 p.2 = some o) (fun p => p.1) (K, (0 : Int)) h ?_
    clear h
    rintro ⟨k, x3⟩ h
    replace h : laws_eqFloat32S_l1 K a0 a1 k x3 = some o := h
    show AW _ _ (⟨[(0, (.v (.one (.c (sl 1 (csF .f32) a0))))), (1, (.v (.one (.c (sl 1 (csF .f32) a1))))), (5, (.v (.one (.c (.int .i64 x3)))))], []⟩ : St) _
    obtain _ | k := k
    · rw [laws_eqFloat32S_l1] at h; cases h
    rw [laws_eqFloat32S_l1] at h
    refine AW.seq ?_
    refine AW.seq ?_
    refine AW.regionA [] [0, 1, 5, 14] [] (s' := ⟨[(0, (.v (.one (.c (sl 1 (csF .f32) a0))))), (1, (.v (.one (.c (sl 1 (csF .f32) a1))))), (5, (.v (.one (.c (.int .i64 x3))))), (14, (.v (.one (.c (.bool (decide (x3 < (a0.length : Int))))))))], []⟩) (ob := True ∧ True ∧ True ∧ True ∧ True) (by kernel_rfl) ⟨trivial, trivial, trivial, trivial, trivial⟩ ?_
    refine thenQ_normal ?_
    rcases ite2_cases h with ⟨b4, h⟩ | ⟨b4, h⟩
    · refine AW.cond_t rfl b4 ?_
      refine AW.skip ?_
      refine thenQ_normal ?_
      refine AW.seq ?_
      refine AW.block ?_
      refine AW.seq ?_
      obtain ⟨c5, h⟩ := chk_some h
      obtain ⟨c6, h⟩ := chk_some h
      obtain ⟨v7, e8, h⟩ := bind_some h
      refine AW.drawnA (by kernel_rfl) 12 [.no, .no, .no, .no, .no, .no, .no, .no, .no, .no, .call [.one (.flt .f64 (Fl.cv .f32 .f64 (a0.getD x3.toNat default)).bits), .one (.flt .f64 (Fl.cv .f32 .f64 (a1.getD x3.toNat default)).bits)] [.one (.bool v7)] [[.view]]] [0, 1, 5, 28] [] (s' := ⟨[(0, (.v (.one (.c (sl 1 (csF .f32) a0))))), (1, (.v (.one (.c (sl 1 (csF .f32) a1))))), (5, (.v (.one (.c (.int .i64 x3))))), (28, (.v (.one (.c (.bool (!v7))))))], []⟩) (ob := (True ∧ True ∧ (0 ≤ x3 ∧ x3 < (a0.length : Int)) ∧ True ∧ ((convBits .f32 (a0.getD x3.toNat default).bits .f64).isSome = true) ∧ True ∧ True ∧ (0 ≤ x3 ∧ x3 < (a1.length : Int)) ∧ True ∧ ((convBits .f32 (a1.getD x3.toNat default).bits .f64).isSome = true) ∧ (((((.flt .f64 (Fl.cv .f32 .f64 (a0.getD x3.toNat default)).bits) : C) = (.flt .f64 (Fl.cv .f32 .f64 (a0.getD x3.toNat default)).bits)) ∧ (((.flt .f64 (Fl.cv .f32 .f64 (a1.getD x3.toNat default)).bits) : C) = (.flt .f64 (Fl.cv .f32 .f64 (a1.getD x3.toNat default)).bits)) ∧ True) ∧ CallOK Try.prog 108 [.one (.flt .f64 (Fl.cv .f32 .f64 (a0.getD x3.toNat default)).bits), .one (.flt .f64 (Fl.cv .f32 .f64 (a1.getD x3.toNat default)).bits)] [.one (.bool v7)]) ∧ True ∧ True) ∧ (True)) (by kernel_rfl) ⟨⟨trivial, trivial, c5, trivial, cv_wide (a0.getD x3.toNat default), trivial, trivial, c6, trivial, cv_wide (a1.getD x3.toNat default), ⟨⟨rfl, rfl, trivial⟩, ok_laws_sameFloat K (Fl.cv .f32 .f64 (a0.getD x3.toNat default)) (Fl.cv .f32 .f64 (a1.getD x3.toNat default)) v7 e8⟩, trivial, trivial⟩, trivial⟩ ?_
      refine thenQ_normal ?_
      rcases ite2_cases h with ⟨b9, h⟩ | ⟨b9, h⟩
      · refine AW.cond_t rfl b9 ?_
        refine AW.seq ?_
        refine AW.regionA [] [4] [] (s' := ⟨[(4, (.v (.one (.c (.bool false)))))], []⟩) (ob := True ∧ True) (by kernel_rfl) ⟨trivial, trivial⟩ ?_
        refine thenQ_normal ?_
        refine AW.ret ?_
        refine blockQ_ret ?_
        refine thenQ_ret ?_
        refine loopQ_ret ?_
        refine blockQ_ret ?_
        refine thenQ_ret ?_
        replace h := some_eq h
        subst h
        exact ⟨.inr rfl, retOK_of [(.one (.c (.bool false)))] (by kernel_rfl) ⟨⟨rfl, trivial⟩, trivial⟩ (of_decide_eq_true (by kernel_rfl))⟩
      · refine AW.cond_f rfl b9 ?_
        refine AW.skip ?_
        refine blockQ_normal ?_
        refine thenQ_normal ?_
        refine AW.regionA [] [0, 1, 5] [] (s' := ⟨[(0, (.v (.one (.c (sl 1 (csF .f32) a0))))), (1, (.v (.one (.c (sl 1 (csF .f32) a1))))), (5, (.v (.one (.c (.int .i64 (IntKind.i64.wrap (x3 + (1 : Int))))))))], []⟩) (ob := True ∧ True ∧ True ∧ True) (by kernel_rfl) ⟨trivial, trivial, trivial, trivial⟩ ?_
        exact loopQ_normal (k, (IntKind.i64.wrap (x3 + (1 : Int)))) h (Nat.lt_succ_self k) (Sub.keep [0, 1, 5] [] (by kernel_rfl) (by kernel_rfl))
    · refine AW.cond_f rfl b4 ?_
      refine AW.exit ?_
      refine thenQ_exit ?_
      refine loopQ_exit ?_
      refine blockQ_exit ?_
      refine thenQ_normal ?_
      refine AW.seq ?_
      refine AW.regionA [] [4] [] (s' := ⟨[(4, (.v (.one (.c (.bool true)))))], []⟩) (ob := True ∧ True) (by kernel_rfl) ⟨trivial, trivial⟩ ?_
      refine thenQ_normal ?_
      refine AW.ret ?_
      replace h := some_eq h
      subst h
      exact ⟨.inr rfl, retOK_of [(.one (.c (.bool true)))] (by kernel_rfl) ⟨⟨rfl, trivial⟩, trivial⟩ (of_decide_eq_true (by kernel_rfl))⟩

/-! laws.eqString -/
def laws_eqString (K : Nat) (a0 : String) (a1 : String) : Option (Bool) :=
  (laws_eqVectorS K a0.Points a1.Points).bind fun v1 => ite2 ((!v1)) (some false) ((laws_eqVectorS K a0.Before a1.Before).bind fun v4 => ite2 ((!v4)) (some false) ((laws_eqBoolS K a0.Fixed a1.Fixed).bind fun v7 => ite2 ((!v7)) (some false) ((laws_eqFloat32S K a0.Lengths a1.Lengths).bind fun v10 => ite2 ((!v10)) (some false) ((laws_eqVector K a0.Fall a1.Fall).bind fun v13 => ite2 ((!v13)) (some false) ((laws_sameFloat K (Fl.cv .f32 .f64 a0.Damp) (Fl.cv .f32 .f64 a1.Damp)).bind fun v16 => ite2 ((!v16)) (some false) (ite2 ((a0.Passes != a1.Passes)) (some false) (some true)))))))

theorem ok_laws_eqString (K : Nat) (a0 : String) (a1 : String) (o : (Bool)) (h : laws_eqString K a0 a1 = some o) : CallOK Try.prog 19 [.agg (cs_String a0), .agg (cs_String a1)] [.one (.bool o)] := by
  refine callOK_of_AW Try.func19 rfl (by kernel_rfl) (Nat.le_of_ble_eq_true (by kernel_rfl)) ?_
  intro w0
  unfold laws_eqString at h
  refine AW.seq ?_
  refine AW.regionA [.box 1, .box 2] [2, 3] [1, 2] (s' := ⟨[(2, (.v (.one (.ptr 1 0)))), (3, (.v (.one (.ptr 2 0))))], [(1, (.box [(.c (sl 3 cs_Vector a0.Points)), (.c (sl 3 cs_Vector a0.Before)), (.c (sl 1 csB a0.Fixed)), (.c (sl 1 (csF .f32) a0.Lengths)), (.c (.flt .f32 a0.Fall.X.bits)), (.c (.flt .f32 a0.Fall.Y.bits)), (.c (.flt .f32 a0.Fall.Z.bits)), (.c (.flt .f32 a0.Damp.bits)), (.c (.int .i64 a0.Passes))])), (2, (.box [(.c (sl 3 cs_Vector a1.Points)), (.c (sl 3 cs_Vector a1.Before)), (.c (sl 1 csB a1.Fixed)), (.c (sl 1 (csF .f32) a1.Lengths)), (.c (.flt .f32 a1.Fall.X.bits)), (.c (.flt .f32 a1.Fall.Y.bits)), (.c (.flt .f32 a1.Fall.Z.bits)), (.c (.flt .f32 a1.Damp.bits)), (.c (.int .i64 a1.Passes))]))]⟩) (ob := True ∧ True ∧ True ∧ True) (by kernel_rfl) ⟨trivial, trivial, trivial, trivial⟩ ?_
  refine thenQ_normal ?_
  refine AW.seq ?_
  refine AW.seq ?_
  obtain ⟨v1, e2, h⟩ := bind_some h
  refine AW.regionA [.no, .no, .no, .no, .call [.one (sl 3 cs_Vector a0.Points), .one (sl 3 cs_Vector a1.Points)] [.one (.bool v1)] [[.view]]] [2, 3, 10] [1, 2] (s' := ⟨[(2, (.v (.one (.ptr 1 0)))), (3, (.v (.one (.ptr 2 0)))), (10, (.v (.one (.c (.bool (!v1))))))], [(1, (.box [(.c (sl 3 cs_Vector a0.Points)), (.c (sl 3 cs_Vector a0.Before)), (.c (sl 1 csB a0.Fixed)), (.c (sl 1 (csF .f32) a0.Lengths)), (.c (.flt .f32 a0.Fall.X.bits)), (.c (.flt .f32 a0.Fall.Y.bits)), (.c (.flt .f32 a0.Fall.Z.bits)), (.c (.flt .f32 a0.Damp.bits)), (.c (.int .i64 a0.Passes))])), (2, (.box [(.c (sl 3 cs_Vector a1.Points)), (.c (sl 3 cs_Vector a1.Before)), (.c (sl 1 csB a1.Fixed)), (.c (sl 1 (csF .f32) a1.Lengths)), (.c (.flt .f32 a1.Fall.X.bits)), (.c (.flt .f32 a1.Fall.Y.bits)), (.c (.flt .f32 a1.Fall.Z.bits)), (.c (.flt .f32 a1.Damp.bits)), (.c (.int .i64 a1.Passes))]))]⟩) (ob := True ∧ True ∧ True ∧ True ∧ (((((sl 3 cs_Vector a0.Points) : C) = (sl 3 cs_Vector a0.Points)) ∧ (((sl 3 cs_Vector a1.Points) : C) = (sl 3 cs_Vector a1.Points)) ∧ True) ∧ CallOK Try.prog 104 [.one (sl 3 cs_Vector a0.Points), .one (sl 3 cs_Vector a1.Points)] [.one (.bool v1)]) ∧ True ∧ True) (by kernel_rfl) ⟨trivial, trivial, trivial, trivial, ⟨⟨rfl, rfl, trivial⟩, ok_laws_eqVectorS K a0.Points a1.Points v1 e2⟩, trivial, trivial⟩ ?_
  refine thenQ_normal ?_
  rcases ite2_cases h with ⟨b3, h⟩ | ⟨b3, h⟩
  · refine AW.cond_t rfl b3 ?_
    refine AW.seq ?_
    refine AW.regionA [] [4] [] (s' := ⟨[(4, (.v (.one (.c (.bool false)))))], []⟩) (ob := True ∧ True) (by kernel_rfl) ⟨trivial, trivial⟩ ?_
    refine thenQ_normal ?_
    refine AW.ret ?_
    refine thenQ_ret ?_
    replace h := some_eq h
    subst h
    exact ⟨.inr rfl, retOK_of [(.one (.c (.bool false)))] (by kernel_rfl) ⟨⟨rfl, trivial⟩, trivial⟩ (of_decide_eq_true (by kernel_rfl))⟩
  · refine AW.cond_f rfl b3 ?_
    refine AW.skip ?_
    refine thenQ_normal ?_
    refine AW.seq ?_
    refine AW.seq ?_
    obtain ⟨v4, e5, h⟩ := bind_some h
    refine AW.regionA [.no, .no, .no, .no, .call [.one (sl 3 cs_Vector a0.Before), .one (sl 3 cs_Vector a1.Before)] [.one (.bool v4)] [[.view]]] [2, 3, 16] [1, 2] (s' := ⟨[(2, (.v (.one (.ptr 1 0)))), (3, (.v (.one (.ptr 2 0)))), (16, (.v (.one (.c (.bool (!v4))))))], [(1, (.box [(.c (sl 3 cs_Vector a0.Points)), (.c (sl 3 cs_Vector a0.Before)), (.c (sl 1 csB a0.Fixed)), (.c (sl 1 (csF .f32) a0.Lengths)), (.c (.flt .f32 a0.Fall.X.bits)), (.c (.flt .f32 a0.Fall.Y.bits)), (.c (.flt .f32 a0.Fall.Z.bits)), (.c (.flt .f32 a0.Damp.bits)), (.c (.int .i64 a0.Passes))])), (2, (.box [(.c (sl 3 cs_Vector a1.Points)), (.c (sl 3 cs_Vector a1.Before)), (.c (sl 1 csB a1.Fixed)), (.c (sl 1 (csF .f32) a1.Lengths)), (.c (.flt .f32 a1.Fall.X.bits)), (.c (.flt .f32 a1.Fall.Y.bits)), (.c (.flt .f32 a1.Fall.Z.bits)), (.c (.flt .f32 a1.Damp.bits)), (.c (.int .i64 a1.Passes))]))]⟩) (ob := True ∧ True ∧ True ∧ True ∧ (((((sl 3 cs_Vector a0.Before) : C) = (sl 3 cs_Vector a0.Before)) ∧ (((sl 3 cs_Vector a1.Before) : C) = (sl 3 cs_Vector a1.Before)) ∧ True) ∧ CallOK Try.prog 104 [.one (sl 3 cs_Vector a0.Before), .one (sl 3 cs_Vector a1.Before)] [.one (.bool v4)]) ∧ True ∧ True) (by kernel_rfl) ⟨trivial, trivial, trivial, trivial, ⟨⟨rfl, rfl, trivial⟩, ok_laws_eqVectorS K a0.Before a1.Before v4 e5⟩, trivial, trivial⟩ ?_
    refine thenQ_normal ?_
    rcases ite2_cases h with ⟨b6, h⟩ | ⟨b6, h⟩
    · refine AW.cond_t rfl b6 ?_
      refine AW.seq ?_
      refine AW.regionA [] [4] [] (s' := ⟨[(4, (.v (.one (.c (.bool false)))))], []⟩) (ob := True ∧ True) (by kernel_rfl) ⟨trivial, trivial⟩ ?_
      refine thenQ_normal ?_
      refine AW.ret ?_
      refine thenQ_ret ?_
      replace h := some_eq h
      subst h
      exact ⟨.inr rfl, retOK_of [(.one (.c (.bool false)))] (by kernel_rfl) ⟨⟨rfl, trivial⟩, trivial⟩ (of_decide_eq_true (by kernel_rfl))⟩
    · refine AW.cond_f rfl b6 ?_
      refine AW.skip ?_
      refine thenQ_normal ?_
      refine AW.seq ?_
      refine AW.seq ?_
      obtain ⟨v7, e8, h⟩ := bind_some h
      refine AW.regionA [.no, .no, .no, .no, .call [.one (sl 1 csB a0.Fixed), .one (sl 1 csB a1.Fixed)] [.one (.bool v7)] [[.view]]] [2, 3, 22] [1, 2] (s' := ⟨[(2, (.v (.one (.ptr 1 0)))), (3, (.v (.one (.ptr 2 0)))), (22, (.v (.one (.c (.bool (!v7))))))], [(1, (.box [(.c (sl 3 cs_Vector a0.Points)), (.c (sl 3 cs_Vector a0.Before)), (.c (sl 1 csB a0.Fixed)), (.c (sl 1 (csF .f32) a0.Lengths)), (.c (.flt .f32 a0.Fall.X.bits)), (.c (.flt .f32 a0.Fall.Y.bits)), (.c (.flt .f32 a0.Fall.Z.bits)), (.c (.flt .f32 a0.Damp.bits)), (.c (.int .i64 a0.Passes))])), (2, (.box [(.c (sl 3 cs_Vector a1.Points)), (.c (sl 3 cs_Vector a1.Before)), (.c (sl 1 csB a1.Fixed)), (.c (sl 1 (csF .f32) a1.Lengths)), (.c (.flt .f32 a1.Fall.X.bits)), (.c (.flt .f32 a1.Fall.Y.bits)), (.c (.flt .f32 a1.Fall.Z.bits)), (.c (.flt .f32 a1.Damp.bits)), (.c (.int .i64 a1.Passes))]))]⟩) (ob := True ∧ True ∧ True ∧ True ∧ (((((sl 1 csB a0.Fixed) : C) = (sl 1 csB a0.Fixed)) ∧ (((sl 1 csB a1.Fixed) : C) = (sl 1 csB a1.Fixed)) ∧ True) ∧ CallOK Try.prog 105 [.one (sl 1 csB a0.Fixed), .one (sl 1 csB a1.Fixed)] [.one (.bool v7)]) ∧ True ∧ True) (by kernel_rfl) ⟨trivial, trivial, trivial, trivial, ⟨⟨rfl, rfl, trivial⟩, ok_laws_eqBoolS K a0.Fixed a1.Fixed v7 e8⟩, trivial, trivial⟩ ?_
      refine thenQ_normal ?_
      rcases ite2_cases h with ⟨b9, h⟩ | ⟨b9, h⟩
      · refine AW.cond_t rfl b9 ?_
        refine AW.seq ?_
        refine AW.regionA [] [4] [] (s' := ⟨[(4, (.v (.one (.c (.bool false)))))], []⟩) (ob := True ∧ True) (by kernel_rfl) ⟨trivial, trivial⟩ ?_
        refine thenQ_normal ?_
        refine AW.ret ?_
        refine thenQ_ret ?_
        replace h := some_eq h
        subst h
        exact ⟨.inr rfl, retOK_of [(.one (.c (.bool false)))] (by kernel_rfl) ⟨⟨rfl, trivial⟩, trivial⟩ (of_decide_eq_true (by kernel_rfl))⟩
      · refine AW.cond_f rfl b9 ?_
        refine AW.skip ?_
        refine thenQ_normal ?_
        refine AW.seq ?_
        refine AW.seq ?_
        obtain ⟨v10, e11, h⟩ := bind_some h
        refine AW.regionA [.no, .no, .no, .no, .call [.one (sl 1 (csF .f32) a0.Lengths), .one (sl 1 (csF .f32) a1.Lengths)] [.one (.bool v10)] [[.view]]] [2, 3, 28] [1, 2] (s' := ⟨[(2, (.v (.one (.ptr 1 0)))), (3, (.v (.one (.ptr 2 0)))), (28, (.v (.one (.c (.bool (!v10))))))], [(1, (.box [(.c (sl 3 cs_Vector a0.Points)), (.c (sl 3 cs_Vector a0.Before)), (.c (sl 1 csB a0.Fixed)), (.c (sl 1 (csF .f32) a0.Lengths)), (.c (.flt .f32 a0.Fall.X.bits)), (.c (.flt .f32 a0.Fall.Y.bits)), (.c (.flt .f32 a0.Fall.Z.bits)), (.c (.flt .f32 a0.Damp.bits)), (.c (.int .i64 a0.Passes))])), (2, (.box [(.c (sl 3 cs_Vector a1.Points)), (.c (sl 3 cs_Vector a1.Before)), (.c (sl 1 csB a1.Fixed)), (.c (sl 1 (csF .f32) a1.Lengths)), (.c (.flt .f32 a1.Fall.X.bits)), (.c (.flt .f32 a1.Fall.Y.bits)), (.c (.flt .f32 a1.Fall.Z.bits)), (.c (.flt .f32 a1.Damp.bits)), (.c (.int .i64 a1.Passes))]))]⟩) (ob := True ∧ True ∧ True ∧ True ∧ (((((sl 1 (csF .f32) a0.Lengths) : C) = (sl 1 (csF .f32) a0.Lengths)) ∧ (((sl 1 (csF .f32) a1.Lengths) : C) = (sl 1 (csF .f32) a1.Lengths)) ∧ True) ∧ CallOK Try.prog 106 [.one (sl 1 (csF .f32) a0.Lengths), .one (sl 1 (csF .f32) a1.Lengths)] [.one (.bool v10)]) ∧ True ∧ True) (by kernel_rfl) ⟨trivial, trivial, trivial, trivial, ⟨⟨rfl, rfl, trivial⟩, ok_laws_eqFloat32S K a0.Lengths a1.Lengths v10 e11⟩, trivial, trivial⟩ ?_
        refine thenQ_normal ?_
        rcases ite2_cases h with ⟨b12, h⟩ | ⟨b12, h⟩
        · refine AW.cond_t rfl b12 ?_
          refine AW.seq ?_
          refine AW.regionA [] [4] [] (s' := ⟨[(4, (.v (.one (.c (.bool false)))))], []⟩) (ob := True ∧ True) (by kernel_rfl) ⟨trivial, trivial⟩ ?_
          refine thenQ_normal ?_
          refine AW.ret ?_
          refine thenQ_ret ?_
          replace h := some_eq h
          subst h
          exact ⟨.inr rfl, retOK_of [(.one (.c (.bool false)))] (by kernel_rfl) ⟨⟨rfl, trivial⟩, trivial⟩ (of_decide_eq_true (by kernel_rfl))⟩
        · refine AW.cond_f rfl b12 ?_
          refine AW.skip ?_
          refine thenQ_normal ?_
          refine AW.seq ?_
          refine AW.seq ?_
          obtain ⟨v13, e14, h⟩ := bind_some h
          refine AW.regionA [.no, .no, .no, .no, .call [.agg (cs_Vector a0.Fall), .agg (cs_Vector a1.Fall)] [.one (.bool v13)] [[.view]]] [2, 3, 34] [1, 2] (s' := ⟨[(2, (.v (.one (.ptr 1 0)))), (3, (.v (.one (.ptr 2 0)))), (34, (.v (.one (.c (.bool (!v13))))))], [(1, (.box [(.c (sl 3 cs_Vector a0.Points)), (.c (sl 3 cs_Vector a0.Before)), (.c (sl 1 csB a0.Fixed)), (.c (sl 1 (csF .f32) a0.Lengths)), (.c (.flt .f32 a0.Fall.X.bits)), (.c (.flt .f32 a0.Fall.Y.bits)), (.c (.flt .f32 a0.Fall.Z.bits)), (.c (.flt .f32 a0.Damp.bits)), (.c (.int .i64 a0.Passes))])), (2, (.box [(.c (sl 3 cs_Vector a1.Points)), (.c (sl 3 cs_Vector a1.Before)), (.c (sl 1 csB a1.Fixed)), (.c (sl 1 (csF .f32) a1.Lengths)), (.c (.flt .f32 a1.Fall.X.bits)), (.c (.flt .f32 a1.Fall.Y.bits)), (.c (.flt .f32 a1.Fall.Z.bits)), (.c (.flt .f32 a1.Damp.bits)), (.c (.int .i64 a1.Passes))]))]⟩) (ob := True ∧ True ∧ True ∧ True ∧ ((((((.flt .f32 a0.Fall.X.bits) : C) = (.flt .f32 a0.Fall.X.bits)) ∧ (((.flt .f32 a0.Fall.Y.bits) : C) = (.flt .f32 a0.Fall.Y.bits)) ∧ (((.flt .f32 a0.Fall.Z.bits) : C) = (.flt .f32 a0.Fall.Z.bits)) ∧ True) ∧ ((((.flt .f32 a1.Fall.X.bits) : C) = (.flt .f32 a1.Fall.X.bits)) ∧ (((.flt .f32 a1.Fall.Y.bits) : C) = (.flt .f32 a1.Fall.Y.bits)) ∧ (((.flt .f32 a1.Fall.Z.bits) : C) = (.flt .f32 a1.Fall.Z.bits)) ∧ True) ∧ True) ∧ CallOK Try.prog 107 [.agg (cs_Vector a0.Fall), .agg (cs_Vector a1.Fall)] [.one (.bool v13)]) ∧ True ∧ True) (by kernel_rfl) ⟨trivial, trivial, trivial, trivial, ⟨⟨⟨rfl, rfl, rfl, trivial⟩, ⟨rfl, rfl, rfl, trivial⟩, trivial⟩, ok_laws_eqVector K a0.Fall a1.Fall v13 e14⟩, trivial, trivial⟩ ?_
          refine thenQ_normal ?_
          rcases ite2_cases h with ⟨b15, h⟩ | ⟨b15, h⟩
          · refine AW.cond_t rfl b15 ?_
            refine AW.seq ?_
            refine AW.regionA [] [4] [] (s' := ⟨[(4, (.v (.one (.c (.bool false)))))], []⟩) (ob := True ∧ True) (by kernel_rfl) ⟨trivial, trivial⟩ ?_
            refine thenQ_normal ?_
            refine AW.ret ?_
            refine thenQ_ret ?_
            replace h := some_eq h
            subst h
            exact ⟨.inr rfl, retOK_of [(.one (.c (.bool false)))] (by kernel_rfl) ⟨⟨rfl, trivial⟩, trivial⟩ (of_decide_eq_true (by kernel_rfl))⟩
          · refine AW.cond_f rfl b15 ?_
            refine AW.skip ?_
            refine thenQ_normal ?_
            refine AW.seq ?_
            refine AW.seq ?_
            obtain ⟨v16, e17, h⟩ := bind_some h
            refine AW.regionA [.no, .no, .no, .no, .no, .no, .call [.one (.flt .f64 (Fl.cv .f32 .f64 a0.Damp).bits), .one (.flt .f64 (Fl.cv .f32 .f64 a1.Damp).bits)] [.one (.bool v16)] [[.view]]] [2, 3, 42] [1, 2] (s' := ⟨[(2, (.v (.one (.ptr 1 0)))), (3, (.v (.one (.ptr 2 0)))), (42, (.v (.one (.c (.bool (!v16))))))], [(1, (.box [(.c (sl 3 cs_Vector a0.Points)), (.c (sl 3 cs_Vector a0.Before)), (.c (sl 1 csB a0.Fixed)), (.c (sl 1 (csF .f32) a0.Lengths)), (.c (.flt .f32 a0.Fall.X.bits)), (.c (.flt .f32 a0.Fall.Y.bits)), (.c (.flt .f32 a0.Fall.Z.bits)), (.c (.flt .f32 a0.Damp.bits)), (.c (.int .i64 a0.Passes))])), (2, (.box [(.c (sl 3 cs_Vector a1.Points)), (.c (sl 3 cs_Vector a1.Before)), (.c (sl 1 csB a1.Fixed)), (.c (sl 1 (csF .f32) a1.Lengths)), (.c (.flt .f32 a1.Fall.X.bits)), (.c (.flt .f32 a1.Fall.Y.bits)), (.c (.flt .f32 a1.Fall.Z.bits)), (.c (.flt .f32 a1.Damp.bits)), (.c (.int .i64 a1.Passes))]))]⟩) (ob := True ∧ True ∧ ((convBits .f32 a0.Damp.bits .f64).isSome = true) ∧ True ∧ True ∧ ((convBits .f32 a1.Damp.bits .f64).isSome = true) ∧ (((((.flt .f64 (Fl.cv .f32 .f64 a0.Damp).bits) : C) = (.flt .f64 (Fl.cv .f32 .f64 a0.Damp).bits)) ∧ (((.flt .f64 (Fl.cv .f32 .f64 a1.Damp).bits) : C) = (.flt .f64 (Fl.cv .f32 .f64 a1.Damp).bits)) ∧ True) ∧ CallOK Try.prog 108 [.one (.flt .f64 (Fl.cv .f32 .f64 a0.Damp).bits), .one (.flt .f64 (Fl.cv .f32 .f64 a1.Damp).bits)] [.one (.bool v16)]) ∧ True ∧ True) (by kernel_rfl) ⟨trivial, trivial, cv_wide a0.Damp, trivial, trivial, cv_wide a1.Damp, ⟨⟨rfl, rfl, trivial⟩, ok_laws_sameFloat K (Fl.cv .f32 .f64 a0.Damp) (Fl.cv .f32 .f64 a1.Damp) v16 e17⟩, trivial, trivial⟩ ?_
            refine thenQ_normal ?_
            rcases ite2_cases h with ⟨b18, h⟩ | ⟨b18, h⟩
            · refine AW.cond_t rfl b18 ?_
              refine AW.seq ?_
              refine AW.regionA [] [4] [] (s' := ⟨[(4, (.v (.one (.c (.bool false)))))], []⟩) (ob := True ∧ True) (by kernel_rfl) ⟨trivial, trivial⟩ ?_
              refine thenQ_normal ?_
              refine AW.ret ?_
              refine thenQ_ret ?_
              replace h := some_eq h
              subst h
              exact ⟨.inr rfl, retOK_of [(.one (.c (.bool false)))] (by kernel_rfl) ⟨⟨rfl, trivial⟩, trivial⟩ (of_decide_eq_true (by kernel_rfl))⟩
            · refine AW.cond_f rfl b18 ?_
              refine AW.skip ?_
              refine thenQ_normal ?_
              refine AW.seq ?_
              refine AW.seq ?_
              refine AW.regionA [] [47] [] (s' := ⟨[(47, (.v (.one (.c (.bool (a0.Passes != a1.Passes))))))], []⟩) (ob := True ∧ True ∧ True ∧ True ∧ True ∧ True) (by kernel_rfl) ⟨trivial, trivial, trivial, trivial, trivial, trivial⟩ ?_
              refine thenQ_normal ?_
              rcases ite2_cases h with ⟨b19, h⟩ | ⟨b19, h⟩
              · refine AW.cond_t rfl b19 ?_
                refine AW.seq ?_
                refine AW.regionA [] [4] [] (s' := ⟨[(4, (.v (.one (.c (.bool false)))))], []⟩) (ob := True ∧ True) (by kernel_rfl) ⟨trivial, trivial⟩ ?_
                refine thenQ_normal ?_
                refine AW.ret ?_
                refine thenQ_ret ?_
                replace h := some_eq h
                subst h
                exact ⟨.inr rfl, retOK_of [(.one (.c (.bool false)))] (by kernel_rfl) ⟨⟨rfl, trivial⟩, trivial⟩ (of_decide_eq_true (by kernel_rfl))⟩
              · refine AW.cond_f rfl b19 ?_
                refine AW.skip ?_
                refine thenQ_normal ?_
                refine AW.seq ?_
                refine AW.regionA [] [4] [] (s' := ⟨[(4, (.v (.one (.c (.bool true)))))], []⟩) (ob := True ∧ True) (by kernel_rfl) ⟨trivial, trivial⟩ ?_
                refine thenQ_normal ?_
                refine AW.ret ?_
                replace h := some_eq h
                subst h
                exact ⟨.inr rfl, retOK_of [(.one (.c (.bool true)))] (by kernel_rfl) ⟨⟨rfl, trivial⟩, trivial⟩ (of_decide_eq_true (by kernel_rfl))⟩

/-! laws.markVectorS -/
def laws_markVectorS_l1 (K : Nat) (a0 : (List Vector)) : Nat → Int → Int → (List Vector) → Option (Int × (List Vector))
  | 0, _, _, _ => none
  | k + 1, x4, x5, x6 => ite2 ((decide (x5 < (x6.length : Int)))) (chk (0 ≤ x5 ∧ x5 < (x6.length : Int)) ((some (x6.set x5.toNat (Vector.mk (Fl.ofInt .f32 x4) ((x6.getD x5.toNat default).Y) ((x6.getD x5.toNat default).Z)))).bind fun y9 => chk (0 ≤ x5 ∧ x5 < (y9.length : Int)) ((some (y9.set x5.toNat (Vector.mk ((y9.getD x5.toNat default).X) (Fl.ofInt .f32 (IntKind.i64.wrap (x4 + (1 : Int)))) ((y9.getD x5.toNat default).Z)))).bind fun y12 => chk (0 ≤ x5 ∧ x5 < (y12.length : Int)) ((some (y12.set x5.toNat (Vector.mk ((y12.getD x5.toNat default).X) ((y12.getD x5.toNat default).Y) (Fl.ofInt .f32 (IntKind.i64.wrap ((IntKind.i64.wrap (x4 + (1 : Int))) + (1 : Int))))))).bind fun y15 => laws_markVectorS_l1 K a0 k (IntKind.i64.wrap ((IntKind.i64.wrap ((IntKind.i64.wrap (x4 + (1 : Int))) + (1 : Int))) + (1 : Int))) (IntKind.i64.wrap (x5 + (1 : Int))) y15)))) (chk (x6.length = a0.length) (some (x4, x6)))

def laws_markVectorS (K : Nat) (a0 : (List Vector)) (a1 : Int) : Option (Int × (List Vector)) :=
  laws_markVectorS_l1 K a0 K a1 (0 : Int) a0

theorem ok_laws_markVectorS (K : Nat) (a0 : (List Vector)) (a1 : Int) (o : (Int × (List Vector))) (h : laws_markVectorS K a0 a1 = some o) : MutOK Try.prog 109 [(.one (.mu (sl 3 cs_Vector a0) (sl 3 cs_Vector o.2))), (.one (.ro (.int .i64 a1)))] [.one (.int .i64 o.1)] := by
  refine mutOK_of_AW 1 Try.func109 rfl (by kernel_rfl) (Nat.le_of_ble_eq_true (by kernel_rfl)) (by kernel_rfl) (by kernel_rfl) ?_
  intro w0 K0 v0 s0
  unfold laws_markVectorS at h
  refine AW.seq ?_
  refine AW.regionA [] [0, 1] [0] (s' := ⟨[(0, (.v (.one (.arr 0)))), (1, (.v (.one (.c (.int .i64 a1)))))], [(0, (.arr true a0.length 3 (gl cs_Vector a0)))]⟩) (ob := True ∧ True) (by kernel_rfl) ⟨trivial, trivial⟩ ?_
  refine thenQ_normal ?_
  refine AW.seq ?_
  refine AW.seq ?_
  refine AW.regionA [] [0, 1, 5] [0] (s' := ⟨[(0, (.v (.one (.arr 0)))), (1, (.v (.one (.c (.int .i64 a1))))), (5, (.v (.one (.c (.int .i64 (0 : Int))))))], [(0, (.arr true a0.length 3 (gl cs_Vector a0)))]⟩) (ob := True ∧ True) (by kernel_rfl) ⟨trivial, trivial⟩ ?_
  refine thenQ_normal ?_
  refine AW.block ?_
  refine AW.loopQ (σ := Nat × Int × Int × (List Vector)) (fun p => ⟨[(0, (.v (.one (.arr 0)))), (1, (.v (.one (.c (.int .i64 p.2.1))))), (5, (.v (.one (.c (.int .i64 p.2.2.1)))))], [(0, (.arr true p.2.2.2.length 3 (gl cs_Vector p.2.2.2)))]⟩) (fun p => laws_markVectorS_l1 K a0 p.1 p.2.1 p.2.2.1 p.2.2.2 = some o) (fun p => p.1) (K, a1, (0 : Int), a0) h ?_
  clear h
  rintro ⟨k, x4, x5, x6⟩ h
  replace h : laws_markVectorS_l1 K a0 k x4 x5 x6 = some o := h
  show AW _ _ (⟨[(0, (.v (.one (.arr 0)))), (1, (.v (.one (.c (.int .i64 x4))))), (5, (.v (.one (.c (.int .i64 x5)))))], [(0, (.arr true x6.length 3 (gl cs_Vector x6)))]⟩ : St) _
  obtain _ | k := k
  · rw [laws_markVectorS_l1] at h; cases h
  rw [laws_markVectorS_l1] at h
  refine AW.seq ?_
  refine AW.seq ?_
  refine AW.regionA [] [0, 1, 5, 9] [0] (s' := ⟨[(0, (.v (.one (.arr 0)))), (1, (.v (.one (.c (.int .i64 x4))))), (5, (.v (.one (.c (.int .i64 x5))))), (9, (.v (.one (.c (.bool (decide (x5 < (x6.length : Int))))))))], [(0, (.arr true x6.length 3 (gl cs_Vector x6)))]⟩) (ob := True ∧ True ∧ True ∧ True ∧ True) (by kernel_rfl) ⟨trivial, trivial, trivial, trivial, trivial⟩ ?_
  refine thenQ_normal ?_
  rcases ite2_cases h with ⟨b7, h⟩ | ⟨b7, h⟩
  · refine AW.cond_t rfl b7 ?_
    refine AW.skip ?_
    refine thenQ_normal ?_
    refine AW.seq ?_
    refine AW.block ?_
    refine AW.seq ?_
    obtain ⟨c8, h⟩ := chk_some h
    obtain ⟨y9, e10, h⟩ := bind_some h
    refine AW.regionA [.no, .no, .no, .no, .no, .no, .set y9.length (gl cs_Vector y9) ((List.range 1).map fun j => (cs_Vector (Vector.mk (Fl.ofInt .f32 x4) ((x6.getD x5.toNat default).Y) ((x6.getD x5.toNat default).Z))).getD (0 + j) .nilptr)] [0, 1, 5] [0] (s' := ⟨[(0, (.v (.one (.arr 0)))), (1, (.v (.one (.c (.int .i64 x4))))), (5, (.v (.one (.c (.int .i64 x5)))))], [(0, (.arr true y9.length 3 (gl cs_Vector y9)))]⟩) (ob := True ∧ True ∧ True ∧ True ∧ (0 ≤ x5 ∧ x5 < (x6.length : Int)) ∧ True ∧ (y9.length = x6.length ∧ SetOb x6.length 3 x5.toNat 0 1 (gl cs_Vector x6) (gl cs_Vector y9) ∧ ((List.range 1).map fun j => (cs_Vector (Vector.mk (Fl.ofInt .f32 x4) ((x6.getD x5.toNat default).Y) ((x6.getD x5.toNat default).Z))).getD (0 + j) .nilptr) = ((List.range 1).map fun j => gl cs_Vector y9 x5.toNat (0 + j)) ∧ ((((.flt .f32 (Fl.ofInt .f32 x4).bits) : C) = (.flt .f32 (Fl.ofInt .f32 x4).bits) ∧ True) ∧ True) ∧ (true = true → ∀ j, j < 1 → isSeq (gl cs_Vector x6 x5.toNat (0 + j)) = false ∧ isSeq (gl cs_Vector y9 x5.toNat (0 + j)) = false)) ∧ True) (by kernel_rfl) ⟨trivial, trivial, trivial, trivial, c8, trivial, (letP (some_eq e10) (fun z => (z.length = x6.length ∧ SetOb x6.length 3 x5.toNat 0 1 (gl cs_Vector x6) (gl cs_Vector z) ∧ ((List.range 1).map fun j => (cs_Vector (Vector.mk (Fl.ofInt .f32 x4) ((x6.getD x5.toNat default).Y) ((x6.getD x5.toNat default).Z))).getD (0 + j) .nilptr) = ((List.range 1).map fun j => gl cs_Vector z x5.toNat (0 + j)) ∧ ((((.flt .f32 (Fl.ofInt .f32 x4).bits) : C) = (.flt .f32 (Fl.ofInt .f32 x4).bits) ∧ True) ∧ True) ∧ (true = true → ∀ j, j < 1 → isSeq (gl cs_Vector x6 x5.toNat (0 + j)) = false ∧ isSeq (gl cs_Vector z x5.toNat (0 + j)) = false))) ⟨List.length_set, gl_setp (fun j hj hn => match j, hj, hn with | 0, _, hn => absurd ⟨by decide, by decide⟩ hn | 1, _, _ => rfl | 2, _, _ => rfl) (lt_of_bound c8), (gl_atp (lt_of_bound c8)).symm, ⟨⟨rfl, trivial⟩, trivial⟩, (fun _ j hj => match j, hj with | 0, _ => ⟨rfl, rfl⟩)⟩), trivial⟩ ?_
    refine thenQ_normal ?_
    refine AW.seq ?_
    refine AW.regionA [] [0, 1, 5] [0] (s' := ⟨[(0, (.v (.one (.arr 0)))), (1, (.v (.one (.c (.int .i64 (IntKind.i64.wrap (x4 + (1 : Int)))))))), (5, (.v (.one (.c (.int .i64 x5)))))], [(0, (.arr true y9.length 3 (gl cs_Vector y9)))]⟩) (ob := True ∧ True ∧ True ∧ True) (by kernel_rfl) ⟨trivial, trivial, trivial, trivial⟩ ?_
    refine thenQ_normal ?_
    refine AW.seq ?_
    obtain ⟨c11, h⟩ := chk_some h
    obtain ⟨y12, e13, h⟩ := bind_some h
    refine AW.regionA [.no, .no, .no, .no, .no, .no, .set y12.length (gl cs_Vector y12) ((List.range 1).map fun j => (cs_Vector (Vector.mk ((y9.getD x5.toNat default).X) (Fl.ofInt .f32 (IntKind.i64.wrap (x4 + (1 : Int)))) ((y9.getD x5.toNat default).Z))).getD (1 + j) .nilptr)] [0, 1, 5] [0] (s' := ⟨[(0, (.v (.one (.arr 0)))), (1, (.v (.one (.c (.int .i64 (IntKind.i64.wrap (x4 + (1 : Int)))))))), (5, (.v (.one (.c (.int .i64 x5)))))], [(0, (.arr true y12.length 3 (gl cs_Vector y12)))]⟩) (ob := True ∧ True ∧ True ∧ True ∧ (0 ≤ x5 ∧ x5 < (y9.length : Int)) ∧ True ∧ (y12.length = y9.length ∧ SetOb y9.length 3 x5.toNat 1 1 (gl cs_Vector y9) (gl cs_Vector y12) ∧ ((List.range 1).map fun j => (cs_Vector (Vector.mk ((y9.getD x5.toNat default).X) (Fl.ofInt .f32 (IntKind.i64.wrap (x4 + (1 : Int)))) ((y9.getD x5.toNat default).Z))).getD (1 + j) .nilptr) = ((List.range 1).map fun j => gl cs_Vector y12 x5.toNat (1 + j)) ∧ ((((.flt .f32 (Fl.ofInt .f32 (IntKind.i64.wrap (x4 + (1 : Int)))).bits) : C) = (.flt .f32 (Fl.ofInt .f32 (IntKind.i64.wrap (x4 + (1 : Int)))).bits) ∧ True) ∧ True) ∧ (true = true → ∀ j, j < 1 → isSeq (gl cs_Vector y9 x5.toNat (1 + j)) = false ∧ isSeq (gl cs_Vector y12 x5.toNat (1 + j)) = false)) ∧ True) (by kernel_rfl) ⟨trivial, trivial, trivial, trivial, c11, trivial, (letP (some_eq e13) (fun z => (z.length = y9.length ∧ SetOb y9.length 3 x5.toNat 1 1 (gl cs_Vector y9) (gl cs_Vector z) ∧ ((List.range 1).map fun j => (cs_Vector (Vector.mk ((y9.getD x5.toNat default).X) (Fl.ofInt .f32 (IntKind.i64.wrap (x4 + (1 : Int)))) ((y9.getD x5.toNat default).Z))).getD (1 + j) .nilptr) = ((List.range 1).map fun j => gl cs_Vector z x5.toNat (1 + j)) ∧ ((((.flt .f32 (Fl.ofInt .f32 (IntKind.i64.wrap (x4 + (1 : Int)))).bits) : C) = (.flt .f32 (Fl.ofInt .f32 (IntKind.i64.wrap (x4 + (1 : Int)))).bits) ∧ True) ∧ True) ∧ (true = true → ∀ j, j < 1 → isSeq (gl cs_Vector y9 x5.toNat (1 + j)) = false ∧ isSeq (gl cs_Vector z x5.toNat (1 + j)) = false))) ⟨List.length_set, gl_setp (fun j hj hn => match j, hj, hn with | 0, _, _ => rfl | 1, _, hn => absurd ⟨by decide, by decide⟩ hn | 2, _, _ => rfl) (lt_of_bound c11), (gl_atp (lt_of_bound c11)).symm, ⟨⟨rfl, trivial⟩, trivial⟩, (fun _ j hj => match j, hj with | 0, _ => ⟨rfl, rfl⟩)⟩), trivial⟩ ?_
    refine thenQ_normal ?_
    refine AW.seq ?_
    refine AW.regionA [] [0, 1, 5] [0] (s' := ⟨[(0, (.v (.one (.arr 0)))), (1, (.v (.one (.c (.int .i64 (IntKind.i64.wrap ((IntKind.i64.wrap (x4 + (1 : Int))) + (1 : Int)))))))), (5, (.v (.one (.c (.int .i64 x5)))))], [(0, (.arr true y12.length 3 (gl cs_Vector y12)))]⟩) (ob := True ∧ True ∧ True ∧ True) (by kernel_rfl) ⟨trivial, trivial, trivial, trivial⟩ ?_
    refine thenQ_normal ?_
    refine AW.seq ?_
    obtain ⟨c14, h⟩ := chk_some h
    obtain ⟨y15, e16, h⟩ := bind_some h
    refine AW.regionA [.no, .no, .no, .no, .no, .no, .set y15.length (gl cs_Vector y15) ((List.range 1).map fun j => (cs_Vector (Vector.mk ((y12.getD x5.toNat default).X) ((y12.getD x5.toNat default).Y) (Fl.ofInt .f32 (IntKind.i64.wrap ((IntKind.i64.wrap (x4 + (1 : Int))) + (1 : Int)))))).getD (2 + j) .nilptr)] [0, 1, 5] [0] (s' := ⟨[(0, (.v (.one (.arr 0)))), (1, (.v (.one (.c (.int .i64 (IntKind.i64.wrap ((IntKind.i64.wrap (x4 + (1 : Int))) + (1 : Int)))))))), (5, (.v (.one (.c (.int .i64 x5)))))], [(0, (.arr true y15.length 3 (gl cs_Vector y15)))]⟩) (ob := True ∧ True ∧ True ∧ True ∧ (0 ≤ x5 ∧ x5 < (y12.length : Int)) ∧ True ∧ (y15.length = y12.length ∧ SetOb y12.length 3 x5.toNat 2 1 (gl cs_Vector y12) (gl cs_Vector y15) ∧ ((List.range 1).map fun j => (cs_Vector (Vector.mk ((y12.getD x5.toNat default).X) ((y12.getD x5.toNat default).Y) (Fl.ofInt .f32 (IntKind.i64.wrap ((IntKind.i64.wrap (x4 + (1 : Int))) + (1 : Int)))))).getD (2 + j) .nilptr) = ((List.range 1).map fun j => gl cs_Vector y15 x5.toNat (2 + j)) ∧ ((((.flt .f32 (Fl.ofInt .f32 (IntKind.i64.wrap ((IntKind.i64.wrap (x4 + (1 : Int))) + (1 : Int)))).bits) : C) = (.flt .f32 (Fl.ofInt .f32 (IntKind.i64.wrap ((IntKind.i64.wrap (x4 + (1 : Int))) + (1 : Int)))).bits) ∧ True) ∧ True) ∧ (true = true → ∀ j, j < 1 → isSeq (gl cs_Vector y12 x5.toNat (2 + j)) = false ∧ isSeq (gl cs_Vector y15 x5.toNat (2 + j)) = false)) ∧ True) (by kernel_rfl) ⟨trivial, trivial, trivial, trivial, c14, trivial, (letP (some_eq e16) (fun z => (z.length = y12.length ∧ SetOb y12.length 3 x5.toNat 2 1 (gl cs_Vector y12) (gl cs_Vector z) ∧ ((List.range 1).map fun j => (cs_Vector (Vector.mk ((y12.getD x5.toNat default).X) ((y12.getD x5.toNat default).Y) (Fl.ofInt .f32 (IntKind.i64.wrap ((IntKind.i64.wrap (x4 + (1 : Int))) + (1 : Int)))))).getD (2 + j) .nilptr) = ((List.range 1).map fun j => gl cs_Vector z x5.toNat (2 + j)) ∧ ((((.flt .f32 (Fl.ofInt .f32 (IntKind.i64.wrap ((IntKind.i64.wrap (x4 + (1 : Int))) + (1 : Int)))).bits) : C) = (.flt .f32 (Fl.ofInt .f32 (IntKind.i64.wrap ((IntKind.i64.wrap (x4 + (1 : Int))) + (1 : Int)))).bits) ∧ True) ∧ True) ∧ (true = true → ∀ j, j < 1 → isSeq (gl cs_Vector y12 x5.toNat (2 + j)) = false ∧ isSeq (gl cs_Vector z x5.toNat (2 + j)) = false))) ⟨List.length_set, gl_setp (fun j hj hn => match j, hj, hn with | 0, _, _ => rfl | 1, _, _ => rfl | 2, _, hn => absurd ⟨by decide, by decide⟩ hn) (lt_of_bound c14), (gl_atp (lt_of_bound c14)).symm, ⟨⟨rfl, trivial⟩, trivial⟩, (fun _ j hj => match j, hj with | 0, _ => ⟨rfl, rfl⟩)⟩), trivial⟩ ?_
    refine thenQ_normal ?_
    refine AW.regionA [] [0, 1, 5] [0] (s' := ⟨[(0, (.v (.one (.arr 0)))), (1, (.v (.one (.c (.int .i64 (IntKind.i64.wrap ((IntKind.i64.wrap ((IntKind.i64.wrap (x4 + (1 : Int))) + (1 : Int))) + (1 : Int)))))))), (5, (.v (.one (.c (.int .i64 x5)))))], [(0, (.arr true y15.length 3 (gl cs_Vector y15)))]⟩) (ob := True ∧ True ∧ True ∧ True) (by kernel_rfl) ⟨trivial, trivial, trivial, trivial⟩ ?_
    refine blockQ_normal ?_
    refine thenQ_normal ?_
    refine AW.regionA [] [0, 1, 5] [0] (s' := ⟨[(0, (.v (.one (.arr 0)))), (1, (.v (.one (.c (.int .i64 (IntKind.i64.wrap ((IntKind.i64.wrap ((IntKind.i64.wrap (x4 + (1 : Int))) + (1 : Int))) + (1 : Int)))))))), (5, (.v (.one (.c (.int .i64 (IntKind.i64.wrap (x5 + (1 : Int))))))))], [(0, (.arr true y15.length 3 (gl cs_Vector y15)))]⟩) (ob := True ∧ True ∧ True ∧ True) (by kernel_rfl) ⟨trivial, trivial, trivial, trivial⟩ ?_
    exact loopQ_normal (k, (IntKind.i64.wrap ((IntKind.i64.wrap ((IntKind.i64.wrap (x4 + (1 : Int))) + (1 : Int))) + (1 : Int))), (IntKind.i64.wrap (x5 + (1 : Int))), y15) h (Nat.lt_succ_self k) (Sub.keep [0, 1, 5] [0] (by kernel_rfl) (by kernel_rfl))
  · refine AW.cond_f rfl b7 ?_
    refine AW.exit ?_
    refine thenQ_exit ?_
    refine loopQ_exit ?_
    refine blockQ_exit ?_
    refine thenQ_normal ?_
    refine AW.seq ?_
    refine AW.regionA [] [0, 1, 4] [0] (s' := ⟨[(0, (.v (.one (.arr 0)))), (1, (.v (.one (.c (.int .i64 x4))))), (4, (.v (.one (.c (.int .i64 x4)))))], [(0, (.arr true x6.length 3 (gl cs_Vector x6)))]⟩) (ob := True ∧ True ∧ True) (by kernel_rfl) ⟨trivial, trivial, trivial⟩ ?_
    refine thenQ_normal ?_
    refine AW.ret ?_
    obtain ⟨c17, h⟩ := chk_some h
    replace h := some_eq h
    subst h
    exact ⟨.inr rfl, retOK_of [(.one (.c (.int .i64 x4)))] (by kernel_rfl) ⟨⟨rfl, trivial⟩, trivial⟩ (of_decide_eq_true (by kernel_rfl)), by kernel_rfl, ⟨⟨c17, rfl, rfl⟩, trivial, trivial⟩⟩

/-! laws.markBoolS -/
def laws_markBoolS_l1 (K : Nat) (a0 : (List Bool)) : Nat → Int → Int → (List Bool) → Option (Int × (List Bool))
  | 0, _, _, _ => none
  | k + 1, x4, x5, x6 => ite2 ((decide (x5 < (x6.length : Int)))) (chk ((3 : Int) ≠ 0) (chk (0 ≤ x5 ∧ x5 < (x6.length : Int)) (laws_markBoolS_l1 K a0 k (IntKind.i64.wrap (x4 + (1 : Int))) (IntKind.i64.wrap (x5 + (1 : Int))) (x6.set x5.toNat ((x4.tmod (3 : Int)) == (0 : Int)))))) (chk (x6.length = a0.length) (some (x4, x6)))

def laws_markBoolS (K : Nat) (a0 : (List Bool)) (a1 : Int) : Option (Int × (List Bool)) :=
  laws_markBoolS_l1 K a0 K a1 (0 : Int) a0

theorem ok_laws_markBoolS (K : Nat) (a0 : (List Bool)) (a1 : Int) (o : (Int × (List Bool))) (h : laws_markBoolS K a0 a1 = some o) : MutOK Try.prog 110 [(.one (.mu (sl 1 csB a0) (sl 1 csB o.2))), (.one (.ro (.int .i64 a1)))] [.one (.int .i64 o.1)] := by
  refine mutOK_of_AW 1 Try.func110 rfl (by kernel_rfl) (Nat.le_of_ble_eq_true (by kernel_rfl)) (by kernel_rfl) (by kernel_rfl) ?_
  intro w0 K0 v0 s0
  unfold laws_markBoolS at h
  refine AW.seq ?_
  refine AW.regionA [] [0, 1] [0] (s' := ⟨[(0, (.v (.one (.arr 0)))), (1, (.v (.one (.c (.int .i64 a1)))))], [(0, (.arr true a0.length 1 (gl csB a0)))]⟩) (ob := True ∧ True) (by kernel_rfl) ⟨trivial, trivial⟩ ?_
  refine thenQ_normal ?_
  refine AW.seq ?_
  refine AW.seq ?_
  refine AW.regionA [] [0, 1, 5] [0] (s' := ⟨[(0, (.v (.one (.arr 0)))), (1, (.v (.one (.c (.int .i64 a1))))), (5, (.v (.one (.c (.int .i64 (0 : Int))))))], [(0, (.arr true a0.length 1 (gl csB a0)))]⟩) (ob := True ∧ True) (by kernel_rfl) ⟨trivial, trivial⟩ ?_
  refine thenQ_normal ?_
  refine AW.block ?_
  refine AW.loopQ (σ := Nat × Int × Int × (List Bool)) (fun p => ⟨[(0, (.v (.one (.arr 0)))), (1, (.v (.one (.c (.int .i64 p.2.1))))), (5, (.v (.one (.c (.int .i64 p.2.2.1)))))], [(0, (.arr true p.2.2.2.length 1 (gl csB p.2.2.2)))]⟩) (fun p => laws_markBoolS_l1 K a0 p.1 p.2.1 p.2.2.1 p.2.2.2 = some o) (fun p => p.1) (K, a1, (0 : Int), a0) h ?_
  clear h
  rintro ⟨k, x4, x5, x6⟩ h
  replace h : laws_markBoolS_l1 K a0 k x4 x5 x6 = some o := h
  show AW _ _ (⟨[(0, (.v (.one (.arr 0)))), (1, (.v (.one (.c (.int .i64 x4))))), (5, (.v (.one (.c (.int .i64 x5)))))], [(0, (.arr true x6.length 1 (gl csB x6)))]⟩ : St) _
  obtain _ | k := k
  · rw [laws_markBoolS_l1] at h; cases h
  rw [laws_markBoolS_l1] at h
  refine AW.seq ?_
  refine AW.seq ?_
  refine AW.regionA [] [0, 1, 5, 9] [0] (s' := ⟨[(0, (.v (.one (.arr 0)))), (1, (.v (.one (.c (.int .i64 x4))))), (5, (.v (.one (.c (.int .i64 x5))))), (9, (.v (.one (.c (.bool (decide (x5 < (x6.length : Int))))))))], [(0, (.arr true x6.length 1 (gl csB x6)))]⟩) (ob := True ∧ True ∧ True ∧ True ∧ True) (by kernel_rfl) ⟨trivial, trivial, trivial, trivial, trivial⟩ ?_
  refine thenQ_normal ?_
  rcases ite2_cases h with ⟨b7, h⟩ | ⟨b7, h⟩
  · refine AW.cond_t rfl b7 ?_
    refine AW.skip ?_
    refine thenQ_normal ?_
    refine AW.seq ?_
    refine AW.block ?_
    refine AW.seq ?_
    obtain ⟨c8, h⟩ := chk_some h
    obtain ⟨c9, h⟩ := chk_some h
    refine AW.regionA [.no, .no, .no, .no, .no, .no, .set (x6.set x5.toNat ((x4.tmod (3 : Int)) == (0 : Int))).length (gl csB (x6.set x5.toNat ((x4.tmod (3 : Int)) == (0 : Int)))) ((List.range 1).map fun j => (csB ((x4.tmod (3 : Int)) == (0 : Int))).getD (0 + j) .nilptr)] [0, 1, 5] [0] (s' := ⟨[(0, (.v (.one (.arr 0)))), (1, (.v (.one (.c (.int .i64 x4))))), (5, (.v (.one (.c (.int .i64 x5)))))], [(0, (.arr true (x6.set x5.toNat ((x4.tmod (3 : Int)) == (0 : Int))).length 1 (gl csB (x6.set x5.toNat ((x4.tmod (3 : Int)) == (0 : Int))))))]⟩) (ob := True ∧ True ∧ True ∧ ((3 : Int) ≠ 0) ∧ True ∧ (0 ≤ x5 ∧ x5 < (x6.length : Int)) ∧ ((x6.set x5.toNat ((x4.tmod (3 : Int)) == (0 : Int))).length = x6.length ∧ SetOb x6.length 1 x5.toNat 0 1 (gl csB x6) (gl csB (x6.set x5.toNat ((x4.tmod (3 : Int)) == (0 : Int)))) ∧ ((List.range 1).map fun j => (csB ((x4.tmod (3 : Int)) == (0 : Int))).getD (0 + j) .nilptr) = ((List.range 1).map fun j => gl csB (x6.set x5.toNat ((x4.tmod (3 : Int)) == (0 : Int))) x5.toNat (0 + j)) ∧ ((((.bool ((x4.tmod (3 : Int)) == (0 : Int))) : C) = (.bool ((x4.tmod (3 : Int)) == (0 : Int))) ∧ True) ∧ True) ∧ (true = true → ∀ j, j < 1 → isSeq (gl csB x6 x5.toNat (0 + j)) = false ∧ isSeq (gl csB (x6.set x5.toNat ((x4.tmod (3 : Int)) == (0 : Int))) x5.toNat (0 + j)) = false)) ∧ True) (by kernel_rfl) ⟨trivial, trivial, trivial, c8, trivial, c9, ⟨List.length_set, gl_set, (gl_atp (lt_of_bound c9)).symm, ⟨⟨rfl, trivial⟩, trivial⟩, (fun _ j hj => match j, hj with | 0, _ => ⟨rfl, rfl⟩)⟩, trivial⟩ ?_
    refine thenQ_normal ?_
    refine AW.regionA [] [0, 1, 5] [0] (s' := ⟨[(0, (.v (.one (.arr 0)))), (1, (.v (.one (.c (.int .i64 (IntKind.i64.wrap (x4 + (1 : Int)))))))), (5, (.v (.one (.c (.int .i64 x5)))))], [(0, (.arr true (x6.set x5.toNat ((x4.tmod (3 : Int)) == (0 : Int))).length 1 (gl csB (x6.set x5.toNat ((x4.tmod (3 : Int)) == (0 : Int))))))]⟩) (ob := True ∧ True ∧ True ∧ True) (by kernel_rfl) ⟨trivial, trivial, trivial, trivial⟩ ?_
    refine blockQ_normal ?_
    refine thenQ_normal ?_
    refine AW.regionA [] [0, 1, 5] [0] (s' := ⟨[(0, (.v (.one (.arr 0)))), (1, (.v (.one (.c (.int .i64 (IntKind.i64.wrap (x4 + (1 : Int)))))))), (5, (.v (.one (.c (.int .i64 (IntKind.i64.wrap (x5 + (1 : Int))))))))], [(0, (.arr true (x6.set x5.toNat ((x4.tmod (3 : Int)) == (0 : Int))).length 1 (gl csB (x6.set x5.toNat ((x4.tmod (3 : Int)) == (0 : Int))))))]⟩) (ob := True ∧ True ∧ True ∧ True) (by kernel_rfl) ⟨trivial, trivial, trivial, trivial⟩ ?_
    exact loopQ_normal (k, (IntKind.i64.wrap (x4 + (1 : Int))), (IntKind.i64.wrap (x5 + (1 : Int))), (x6.set x5.toNat ((x4.tmod (3 : Int)) == (0 : Int)))) h (Nat.lt_succ_self k) (Sub.keep [0, 1, 5] [0] (by kernel_rfl) (by kernel_rfl))
  · refine AW.cond_f rfl b7 ?_
    refine AW.exit ?_
    refine thenQ_exit ?_
    refine loopQ_exit ?_
    refine blockQ_exit ?_
    refine thenQ_normal ?_
    refine AW.seq ?_
    refine AW.regionA [] [0, 1, 4] [0] (s' := ⟨[(0, (.v (.one (.arr 0)))), (1, (.v (.one (.c (.int .i64 x4))))), (4, (.v (.one (.c (.int .i64 x4)))))], [(0, (.arr true x6.length 1 (gl csB x6)))]⟩) (ob := True ∧ True ∧ True) (by kernel_rfl) ⟨trivial, trivial, trivial⟩ ?_
    refine thenQ_normal ?_
    refine AW.ret ?_
    obtain ⟨c10, h⟩ := chk_some h
    replace h := some_eq h
    subst h
    exact ⟨.inr rfl, retOK_of [(.one (.c (.int .i64 x4)))] (by kernel_rfl) ⟨⟨rfl, trivial⟩, trivial⟩ (of_decide_eq_true (by kernel_rfl)), by kernel_rfl, ⟨⟨c10, rfl, rfl⟩, trivial, trivial⟩⟩

end
end Go.Fw
