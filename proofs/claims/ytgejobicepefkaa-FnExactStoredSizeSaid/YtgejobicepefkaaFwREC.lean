/- Functions of the program: what each computes, and that it computes just that. -/
import Derived.Test.YtgejobicepefkaaFwTy
import Derived.Test.YtgejobicepefkaaFwH
import Derived.Test.YtgejobicepefkaaFwREC1
import Derived.Test.YtgejobicepefkaaProg
import Derived.KernelRfl
namespace Go.Fw
open Go Go.Proofs
noncomputable section
set_option maxRecDepth 10000

/-! laws.eqTurn -/
def laws_eqTurn (K : Nat) (a0 : Turn) (a1 : Turn) : Option (Bool) :=
  (laws_sameFloat K (Fl.cv .f32 .f64 a0.W) (Fl.cv .f32 .f64 a1.W)).bind fun v1 => ite2 ((!v1)) (some false) ((laws_sameFloat K (Fl.cv .f32 .f64 a0.X) (Fl.cv .f32 .f64 a1.X)).bind fun v4 => ite2 ((!v4)) (some false) ((laws_sameFloat K (Fl.cv .f32 .f64 a0.Y) (Fl.cv .f32 .f64 a1.Y)).bind fun v7 => ite2 ((!v7)) (some false) ((laws_sameFloat K (Fl.cv .f32 .f64 a0.Z) (Fl.cv .f32 .f64 a1.Z)).bind fun v10 => ite2 ((!v10)) (some false) (some true))))

theorem ok_laws_eqTurn (K : Nat) (a0 : Turn) (a1 : Turn) (o : (Bool)) (h : laws_eqTurn K a0 a1 = some o) : CallOK Try.prog 131 [.agg (cs_Turn a0), .agg (cs_Turn a1)] [.one (.bool o)] := by
  refine callOK_of_AW Try.func131 rfl (by kernel_rfl) (Nat.le_of_ble_eq_true (by kernel_rfl)) ?_
  intro w0
  unfold laws_eqTurn at h
  refine AW.seq ?_
  refine AW.regionA [.box 1, .box 2] [2, 3] [1, 2] (s' := ⟨[(2, (.v (.one (.ptr 1 0)))), (3, (.v (.one (.ptr 2 0))))], [(1, (.box [(.c (.flt .f32 a0.W.bits)), (.c (.flt .f32 a0.X.bits)), (.c (.flt .f32 a0.Y.bits)), (.c (.flt .f32 a0.Z.bits))])), (2, (.box [(.c (.flt .f32 a1.W.bits)), (.c (.flt .f32 a1.X.bits)), (.c (.flt .f32 a1.Y.bits)), (.c (.flt .f32 a1.Z.bits))]))]⟩) (ob := True ∧ True ∧ True ∧ True) (by kernel_rfl) ⟨trivial, trivial, trivial, trivial⟩ ?_
  refine thenQ_normal ?_
  refine AW.seq ?_
  refine AW.seq ?_
  obtain ⟨v1, e2, h⟩ := bind_some h
  refine AW.regionA [.no, .no, .no, .no, .no, .no, .call [.one (.flt .f64 (Fl.cv .f32 .f64 a0.W).bits), .one (.flt .f64 (Fl.cv .f32 .f64 a1.W).bits)] [.one (.bool v1)] [[.view]]] [2, 3, 12] [1, 2] (s' := ⟨[(2, (.v (.one (.ptr 1 0)))), (3, (.v (.one (.ptr 2 0)))), (12, (.v (.one (.c (.bool (!v1))))))], [(1, (.box [(.c (.flt .f32 a0.W.bits)), (.c (.flt .f32 a0.X.bits)), (.c (.flt .f32 a0.Y.bits)), (.c (.flt .f32 a0.Z.bits))])), (2, (.box [(.c (.flt .f32 a1.W.bits)), (.c (.flt .f32 a1.X.bits)), (.c (.flt .f32 a1.Y.bits)), (.c (.flt .f32 a1.Z.bits))]))]⟩) (ob := True ∧ True ∧ ((convBits .f32 a0.W.bits .f64).isSome = true) ∧ True ∧ True ∧ ((convBits .f32 a1.W.bits .f64).isSome = true) ∧ (((((.flt .f64 (Fl.cv .f32 .f64 a0.W).bits) : C) = (.flt .f64 (Fl.cv .f32 .f64 a0.W).bits)) ∧ (((.flt .f64 (Fl.cv .f32 .f64 a1.W).bits) : C) = (.flt .f64 (Fl.cv .f32 .f64 a1.W).bits)) ∧ True) ∧ CallOK Try.prog 98 [.one (.flt .f64 (Fl.cv .f32 .f64 a0.W).bits), .one (.flt .f64 (Fl.cv .f32 .f64 a1.W).bits)] [.one (.bool v1)]) ∧ True ∧ True) (by kernel_rfl) ⟨trivial, trivial, cv_wide a0.W, trivial, trivial, cv_wide a1.W, ⟨⟨rfl, rfl, trivial⟩, ok_laws_sameFloat K (Fl.cv .f32 .f64 a0.W) (Fl.cv .f32 .f64 a1.W) v1 e2⟩, trivial, trivial⟩ ?_
  refine thenQ_normal ?_
  rcases ite2_cases h with ⟨b3, h⟩ | ⟨b3, h⟩
  · refine AW.cond_t rfl b3 ?_
    refine AW.seq ?_
    refine AW.regionA [] [4] [] (s' := ⟨[(4, (.v (.one (.c (.bool false)))))], []⟩) (ob := True ∧ True) (by kernel_rfl) ⟨trivial, trivial⟩ ?_
    refine thenQ_normal ?_
    refine AW.ret ?_
    refine thenQ_ret ?_
    replace h := some_eq h
    subst h
    exact ⟨.inr rfl, retOK_of [(.one (.c (.bool false)))] (by kernel_rfl) ⟨⟨rfl, trivial⟩, trivial⟩ (of_decide_eq_true (by kernel_rfl))⟩
  · refine AW.cond_f rfl b3 ?_
    refine AW.skip ?_
    refine thenQ_normal ?_
    refine AW.seq ?_
    refine AW.seq ?_
    obtain ⟨v4, e5, h⟩ := bind_some h
    refine AW.regionA [.no, .no, .no, .no, .no, .no, .call [.one (.flt .f64 (Fl.cv .f32 .f64 a0.X).bits), .one (.flt .f64 (Fl.cv .f32 .f64 a1.X).bits)] [.one (.bool v4)] [[.view]]] [2, 3, 20] [1, 2] (s' := ⟨[(2, (.v (.one (.ptr 1 0)))), (3, (.v (.one (.ptr 2 0)))), (20, (.v (.one (.c (.bool (!v4))))))], [(1, (.box [(.c (.flt .f32 a0.W.bits)), (.c (.flt .f32 a0.X.bits)), (.c (.flt .f32 a0.Y.bits)), (.c (.flt .f32 a0.Z.bits))])), (2, (.box [(.c (.flt .f32 a1.W.bits)), (.c (.flt .f32 a1.X.bits)), (.c (.flt .f32 a1.Y.bits)), (.c (.flt .f32 a1.Z.bits))]))]⟩) (ob := True ∧ True ∧ ((convBits .f32 a0.X.bits .f64).isSome = true) ∧ True ∧ True ∧ ((convBits .f32 a1.X.bits .f64).isSome = true) ∧ (((((.flt .f64 (Fl.cv .f32 .f64 a0.X).bits) : C) = (.flt .f64 (Fl.cv .f32 .f64 a0.X).bits)) ∧ (((.flt .f64 (Fl.cv .f32 .f64 a1.X).bits) : C) = (.flt .f64 (Fl.cv .f32 .f64 a1.X).bits)) ∧ True) ∧ CallOK Try.prog 98 [.one (.flt .f64 (Fl.cv .f32 .f64 a0.X).bits), .one (.flt .f64 (Fl.cv .f32 .f64 a1.X).bits)] [.one (.bool v4)]) ∧ True ∧ True) (by kernel_rfl) ⟨trivial, trivial, cv_wide a0.X, trivial, trivial, cv_wide a1.X, ⟨⟨rfl, rfl, trivial⟩, ok_laws_sameFloat K (Fl.cv .f32 .f64 a0.X) (Fl.cv .f32 .f64 a1.X) v4 e5⟩, trivial, trivial⟩ ?_
    refine thenQ_normal ?_
    rcases ite2_cases h with ⟨b6, h⟩ | ⟨b6, h⟩
    · refine AW.cond_t rfl b6 ?_
      refine AW.seq ?_
      refine AW.regionA [] [4] [] (s' := ⟨[(4, (.v (.one (.c (.bool false)))))], []⟩) (ob := True ∧ True) (by kernel_rfl) ⟨trivial, trivial⟩ ?_
      refine thenQ_normal ?_
      refine AW.ret ?_
      refine thenQ_ret ?_
      replace h := some_eq h
      subst h
      exact ⟨.inr rfl, retOK_of [(.one (.c (.bool false)))] (by kernel_rfl) ⟨⟨rfl, trivial⟩, trivial⟩ (of_decide_eq_true (by kernel_rfl))⟩
    · refine AW.cond_f rfl b6 ?_
      refine AW.skip ?_
      refine thenQ_normal ?_
      refine AW.seq ?_
      refine AW.seq ?_
      obtain ⟨v7, e8, h⟩ := bind_some h
      refine AW.regionA [.no, .no, .no, .no, .no, .no, .call [.one (.flt .f64 (Fl.cv .f32 .f64 a0.Y).bits), .one (.flt .f64 (Fl.cv .f32 .f64 a1.Y).bits)] [.one (.bool v7)] [[.view]]] [2, 3, 28] [1, 2] (s' := ⟨[(2, (.v (.one (.ptr 1 0)))), (3, (.v (.one (.ptr 2 0)))), (28, (.v (.one (.c (.bool (!v7))))))], [(1, (.box [(.c (.flt .f32 a0.W.bits)), (.c (.flt .f32 a0.X.bits)), (.c (.flt .f32 a0.Y.bits)), (.c (.flt .f32 a0.Z.bits))])), (2, (.box [(.c (.flt .f32 a1.W.bits)), (.c (.flt .f32 a1.X.bits)), (.c (.flt .f32 a1.Y.bits)), (.c (.flt .f32 a1.Z.bits))]))]⟩) (ob := True ∧ True ∧ ((convBits .f32 a0.Y.bits .f64).isSome = true) ∧ True ∧ True ∧ ((convBits .f32 a1.Y.bits .f64).isSome = true) ∧ (((((.flt .f64 (Fl.cv .f32 .f64 a0.Y).bits) : C) = (.flt .f64 (Fl.cv .f32 .f64 a0.Y).bits)) ∧ (((.flt .f64 (Fl.cv .f32 .f64 a1.Y).bits) : C) = (.flt .f64 (Fl.cv .f32 .f64 a1.Y).bits)) ∧ True) ∧ CallOK Try.prog 98 [.one (.flt .f64 (Fl.cv .f32 .f64 a0.Y).bits), .one (.flt .f64 (Fl.cv .f32 .f64 a1.Y).bits)] [.one (.bool v7)]) ∧ True ∧ True) (by kernel_rfl) ⟨trivial, trivial, cv_wide a0.Y, trivial, trivial, cv_wide a1.Y, ⟨⟨rfl, rfl, trivial⟩, ok_laws_sameFloat K (Fl.cv .f32 .f64 a0.Y) (Fl.cv .f32 .f64 a1.Y) v7 e8⟩, trivial, trivial⟩ ?_
      refine thenQ_normal ?_
      rcases ite2_cases h with ⟨b9, h⟩ | ⟨b9, h⟩
      · refine AW.cond_t rfl b9 ?_
        refine AW.seq ?_
        refine AW.regionA [] [4] [] (s' := ⟨[(4, (.v (.one (.c (.bool false)))))], []⟩) (ob := True ∧ True) (by kernel_rfl) ⟨trivial, trivial⟩ ?_
        refine thenQ_normal ?_
        refine AW.ret ?_
        refine thenQ_ret ?_
        replace h := some_eq h
        subst h
        exact ⟨.inr rfl, retOK_of [(.one (.c (.bool false)))] (by kernel_rfl) ⟨⟨rfl, trivial⟩, trivial⟩ (of_decide_eq_true (by kernel_rfl))⟩
      · refine AW.cond_f rfl b9 ?_
        refine AW.skip ?_
        refine thenQ_normal ?_
        refine AW.seq ?_
        refine AW.seq ?_
        obtain ⟨v10, e11, h⟩ := bind_some h
        refine AW.regionA [.no, .no, .no, .no, .no, .no, .call [.one (.flt .f64 (Fl.cv .f32 .f64 a0.Z).bits), .one (.flt .f64 (Fl.cv .f32 .f64 a1.Z).bits)] [.one (.bool v10)] [[.view]]] [36] [] (s' := ⟨[(36, (.v (.one (.c (.bool (!v10))))))], []⟩) (ob := True ∧ True ∧ ((convBits .f32 a0.Z.bits .f64).isSome = true) ∧ True ∧ True ∧ ((convBits .f32 a1.Z.bits .f64).isSome = true) ∧ (((((.flt .f64 (Fl.cv .f32 .f64 a0.Z).bits) : C) = (.flt .f64 (Fl.cv .f32 .f64 a0.Z).bits)) ∧ (((.flt .f64 (Fl.cv .f32 .f64 a1.Z).bits) : C) = (.flt .f64 (Fl.cv .f32 .f64 a1.Z).bits)) ∧ True) ∧ CallOK Try.prog 98 [.one (.flt .f64 (Fl.cv .f32 .f64 a0.Z).bits), .one (.flt .f64 (Fl.cv .f32 .f64 a1.Z).bits)] [.one (.bool v10)]) ∧ True ∧ True) (by kernel_rfl) ⟨trivial, trivial, cv_wide a0.Z, trivial, trivial, cv_wide a1.Z, ⟨⟨rfl, rfl, trivial⟩, ok_laws_sameFloat K (Fl.cv .f32 .f64 a0.Z) (Fl.cv .f32 .f64 a1.Z) v10 e11⟩, trivial, trivial⟩ ?_
        refine thenQ_normal ?_
        rcases ite2_cases h with ⟨b12, h⟩ | ⟨b12, h⟩
        · refine AW.cond_t rfl b12 ?_
          refine AW.seq ?_
          refine AW.regionA [] [4] [] (s' := ⟨[(4, (.v (.one (.c (.bool false)))))], []⟩) (ob := True ∧ True) (by kernel_rfl) ⟨trivial, trivial⟩ ?_
          refine thenQ_normal ?_
          refine AW.ret ?_
          refine thenQ_ret ?_
          replace h := some_eq h
          subst h
          exact ⟨.inr rfl, retOK_of [(.one (.c (.bool false)))] (by kernel_rfl) ⟨⟨rfl, trivial⟩, trivial⟩ (of_decide_eq_true (by kernel_rfl))⟩
        · refine AW.cond_f rfl b12 ?_
          refine AW.skip ?_
          refine thenQ_normal ?_
          refine AW.seq ?_
          refine AW.regionA [] [4] [] (s' := ⟨[(4, (.v (.one (.c (.bool true)))))], []⟩) (ob := True ∧ True) (by kernel_rfl) ⟨trivial, trivial⟩ ?_
          refine thenQ_normal ?_
          refine AW.ret ?_
          replace h := some_eq h
          subst h
          exact ⟨.inr rfl, retOK_of [(.one (.c (.bool true)))] (by kernel_rfl) ⟨⟨rfl, trivial⟩, trivial⟩ (of_decide_eq_true (by kernel_rfl))⟩

/-! laws.eqTurnS -/
def laws_eqTurnS_l1 (K : Nat) (a0 : (List Turn)) (a1 : (List Turn)) : Nat → Int → Option (Bool)
  | 0, _ => none
  | k + 1, x3 => ite2 ((decide (x3 < (a0.length : Int)))) (chk (0 ≤ x3 ∧ x3 < (a0.length : Int)) (chk (0 ≤ x3 ∧ x3 < (a1.length : Int)) ((laws_eqTurn K (a0.getD x3.toNat default) (a1.getD x3.toNat default)).bind fun v7 => ite2 ((!v7)) (some false) (laws_eqTurnS_l1 K a0 a1 k (IntKind.i64.wrap (x3 + (1 : Int))))))) (some true)

def laws_eqTurnS (K : Nat) (a0 : (List Turn)) (a1 : (List Turn)) : Option (Bool) :=
  ite2 (((a0.length : Int) != (a1.length : Int))) (some false) (laws_eqTurnS_l1 K a0 a1 K (0 : Int))

theorem ok_laws_eqTurnS (K : Nat) (a0 : (List Turn)) (a1 : (List Turn)) (o : (Bool)) (h : laws_eqTurnS K a0 a1 = some o) : CallOK Try.prog 91 [.one (sl 4 cs_Turn a0), .one (sl 4 cs_Turn a1)] [.one (.bool o)] := by
  refine callOK_of_AW Try.func91 rfl (by kernel_rfl) (Nat.le_of_ble_eq_true (by kernel_rfl)) ?_
  intro w0
  unfold laws_eqTurnS at h
  refine AW.seq ?_
  refine AW.regionA [] [0, 1] [] (s' := ⟨[(0, (.v (.one (.c (sl 4 cs_Turn a0))))), (1, (.v (.one (.c (sl 4 cs_Turn a1)))))], []⟩) (ob := True ∧ True) (by kernel_rfl) ⟨trivial, trivial⟩ ?_
  refine thenQ_normal ?_
  refine AW.seq ?_
  refine AW.seq ?_
  refine AW.regionA [] [0, 1, 10] [] (s' := ⟨[(0, (.v (.one (.c (sl 4 cs_Turn a0))))), (1, (.v (.one (.c (sl 4 cs_Turn a1))))), (10, (.v (.one (.c (.bool ((a0.length : Int) != (a1.length : Int)))))))], []⟩) (ob := True ∧ True ∧ True ∧ True ∧ True ∧ True) (by kernel_rfl) ⟨trivial, trivial, trivial, trivial, trivial, trivial⟩ ?_
  refine thenQ_normal ?_
  rcases ite2_cases h with ⟨b1, h⟩ | ⟨b1, h⟩
  · refine AW.cond_t rfl b1 ?_
    refine AW.seq ?_
    refine AW.regionA [] [4] [] (s' := ⟨[(4, (.v (.one (.c (.bool false)))))], []⟩) (ob := True ∧ True) (by kernel_rfl) ⟨trivial, trivial⟩ ?_
    refine thenQ_normal ?_
    refine AW.ret ?_
    refine thenQ_ret ?_
    replace h := some_eq h
    subst h
    exact ⟨.inr rfl, retOK_of [(.one (.c (.bool false)))] (by kernel_rfl) ⟨⟨rfl, trivial⟩, trivial⟩ (of_decide_eq_true (by kernel_rfl))⟩
  · refine AW.cond_f rfl b1 ?_
    refine AW.skip ?_
    refine thenQ_normal ?_
    refine AW.seq ?_
    refine AW.seq ?_
    refine AW.regionA [] [0, 1, 5] [] (s' := ⟨[(0, (.v (.one (.c (sl 4 cs_Turn a0))))), (1, (.v (.one (.c (sl 4 cs_Turn a1))))), (5, (.v (.one (.c (.int .i64 (0 : Int))))))], []⟩) (ob := True ∧ True) (by kernel_rfl) ⟨trivial, trivial⟩ ?_
    refine thenQ_normal ?_
    refine AW.block ?_
    refine AW.loopQ (σ := Nat × Int) (fun p => ⟨[(0, (.v (.one (.c (sl 4 cs_Turn a0))))), (1, (.v (.one (.c (sl 4 cs_Turn a1))))), (5, (.v (.one (.c (.int .i64 p.2)))))], []⟩) (fun p => laws_eqTurnS_l1 K a0 a1 p.1 p.2 = some o) (fun p => p.1) (K, (0 : Int)) h ?_
    clear h
    rintro ⟨k, x3⟩ h
    replace h : laws_eqTurnS_l1 K a0 a1 k x3 = some o := h
    show AW _ _ (⟨[(0, (.v (.one (.c (sl 4 cs_Turn a0))))), (1, (.v (.one (.c (sl 4 cs_Turn a1))))), (5, (.v (.one (.c (.int .i64 x3)))))], []⟩ : St) _
    obtain _ | k := k
    · rw [laws_eqTurnS_l1] at h; cases h
    rw [laws_eqTurnS_l1] at h
    refine AW.seq ?_
    refine AW.seq ?_
    refine AW.regionA [] [0, 1, 5, 14] [] (s' := ⟨[(0, (.v (.one (.c (sl 4 cs_Turn a0))))), (1, (.v (.one (.c (sl 4 cs_Turn a1))))), (5, (.v (.one (.c (.int .i64 x3))))), (14, (.v (.one (.c (.bool (decide (x3 < (a0.length : Int))))))))], []⟩) (ob := True ∧ True ∧ True ∧ True ∧ True) (by kernel_rfl) ⟨trivial, trivial, trivial, trivial, trivial⟩ ?_
    refine thenQ_normal ?_
    rcases ite2_cases h with ⟨b4, h⟩ | ⟨b4, h⟩
    · refine AW.cond_t rfl b4 ?_
      refine AW.skip ?_
      refine thenQ_normal ?_
      refine AW.seq ?_
      refine AW.block ?_
      refine AW.seq ?_
      obtain ⟨c5, h⟩ := chk_some h
      obtain ⟨c6, h⟩ := chk_some h
      obtain ⟨v7, e8, h⟩ := bind_some h
      refine AW.drawnA (by kernel_rfl) 10 [.no, .no, .no, .no, .no, .no, .no, .no, .call [.agg (cs_Turn (a0.getD x3.toNat default)), .agg (cs_Turn (a1.getD x3.toNat default))] [.one (.bool v7)] [[.view]]] [0, 1, 5, 26] [] (s' := ⟨[(0, (.v (.one (.c (sl 4 cs_Turn a0))))), (1, (.v (.one (.c (sl 4 cs_Turn a1))))), (5, (.v (.one (.c (.int .i64 x3))))), (26, (.v (.one (.c (.bool (!v7))))))], []⟩) (ob := (True ∧ True ∧ (0 ≤ x3 ∧ x3 < (a0.length : Int)) ∧ True ∧ True ∧ True ∧ (0 ≤ x3 ∧ x3 < (a1.length : Int)) ∧ True ∧ ((((((.flt .f32 ((a0.getD x3.toNat default).W).bits) : C) = (.flt .f32 ((a0.getD x3.toNat default).W).bits)) ∧ (((.flt .f32 ((a0.getD x3.toNat default).X).bits) : C) = (.flt .f32 ((a0.getD x3.toNat default).X).bits)) ∧ (((.flt .f32 ((a0.getD x3.toNat default).Y).bits) : C) = (.flt .f32 ((a0.getD x3.toNat default).Y).bits)) ∧ (((.flt .f32 ((a0.getD x3.toNat default).Z).bits) : C) = (.flt .f32 ((a0.getD x3.toNat default).Z).bits)) ∧ True) ∧ ((((.flt .f32 ((a1.getD x3.toNat default).W).bits) : C) = (.flt .f32 ((a1.getD x3.toNat default).W).bits)) ∧ (((.flt .f32 ((a1.getD x3.toNat default).X).bits) : C) = (.flt .f32 ((a1.getD x3.toNat default).X).bits)) ∧ (((.flt .f32 ((a1.getD x3.toNat default).Y).bits) : C) = (.flt .f32 ((a1.getD x3.toNat default).Y).bits)) ∧ (((.flt .f32 ((a1.getD x3.toNat default).Z).bits) : C) = (.flt .f32 ((a1.getD x3.toNat default).Z).bits)) ∧ True) ∧ True) ∧ CallOK Try.prog 131 [.agg (cs_Turn (a0.getD x3.toNat default)), .agg (cs_Turn (a1.getD x3.toNat default))] [.one (.bool v7)]) ∧ True ∧ True) ∧ (True)) (by kernel_rfl) ⟨⟨trivial, trivial, c5, trivial, trivial, trivial, c6, trivial, ⟨⟨⟨rfl, rfl, rfl, rfl, trivial⟩, ⟨rfl, rfl, rfl, rfl, trivial⟩, trivial⟩, ok_laws_eqTurn K (a0.getD x3.toNat default) (a1.getD x3.toNat default) v7 e8⟩, trivial, trivial⟩, trivial⟩ ?_
      refine thenQ_normal ?_
      rcases ite2_cases h with ⟨b9, h⟩ | ⟨b9, h⟩
      · refine AW.cond_t rfl b9 ?_
        refine AW.seq ?_
        refine AW.regionA [] [4] [] (s' := ⟨[(4, (.v (.one (.c (.bool false)))))], []⟩) (ob := True ∧ True) (by kernel_rfl) ⟨trivial, trivial⟩ ?_
        refine thenQ_normal ?_
        refine AW.ret ?_
        refine blockQ_ret ?_
        refine thenQ_ret ?_
        refine loopQ_ret ?_
        refine blockQ_ret ?_
        refine thenQ_ret ?_
        replace h := some_eq h
        subst h
        exact ⟨.inr rfl, retOK_of [(.one (.c (.bool false)))] (by kernel_rfl) ⟨⟨rfl, trivial⟩, trivial⟩ (of_decide_eq_true (by kernel_rfl))⟩
      · refine AW.cond_f rfl b9 ?_
        refine AW.skip ?_
        refine blockQ_normal ?_
        refine thenQ_normal ?_
        refine AW.regionA [] [0, 1, 5] [] (s' := ⟨[(0, (.v (.one (.c (sl 4 cs_Turn a0))))), (1, (.v (.one (.c (sl 4 cs_Turn a1))))), (5, (.v (.one (.c (.int .i64 (IntKind.i64.wrap (x3 + (1 : Int))))))))], []⟩) (ob := True ∧ True ∧ True ∧ True) (by kernel_rfl) ⟨trivial, trivial, trivial, trivial⟩ ?_
        exact loopQ_normal (k, (IntKind.i64.wrap (x3 + (1 : Int)))) h (Nat.lt_succ_self k) (Sub.keep [0, 1, 5] [] (by kernel_rfl) (by kernel_rfl))
    · refine AW.cond_f rfl b4 ?_
      refine AW.exit ?_
      refine thenQ_exit ?_
      refine loopQ_exit ?_
      refine blockQ_exit ?_
      refine thenQ_normal ?_
      refine AW.seq ?_
      refine AW.regionA [] [4] [] (s' := ⟨[(4, (.v (.one (.c (.bool true)))))], []⟩) (ob := True ∧ True) (by kernel_rfl) ⟨trivial, trivial⟩ ?_
      refine thenQ_normal ?_
      refine AW.ret ?_
      replace h := some_eq h
      subst h
      exact ⟨.inr rfl, retOK_of [(.one (.c (.bool true)))] (by kernel_rfl) ⟨⟨rfl, trivial⟩, trivial⟩ (of_decide_eq_true (by kernel_rfl))⟩

/-! laws.eqPose -/
def laws_eqPose (K : Nat) (a0 : Pose) (a1 : Pose) : Option (Bool) :=
  (laws_eqVector K a0.Root a1.Root).bind fun v1 => ite2 ((!v1)) (some false) ((laws_eqTurnS K a0.Turns a1.Turns).bind fun v4 => ite2 ((!v4)) (some false) (some true))

theorem ok_laws_eqPose (K : Nat) (a0 : Pose) (a1 : Pose) (o : (Bool)) (h : laws_eqPose K a0 a1 = some o) : CallOK Try.prog 36 [.agg (cs_Pose a0), .agg (cs_Pose a1)] [.one (.bool o)] := by
  refine callOK_of_AW Try.func36 rfl (by kernel_rfl) (Nat.le_of_ble_eq_true (by kernel_rfl)) ?_
  intro w0
  unfold laws_eqPose at h
  refine AW.seq ?_
  refine AW.regionA [.box 1, .box 2] [2, 3] [1, 2] (s' := ⟨[(2, (.v (.one (.ptr 1 0)))), (3, (.v (.one (.ptr 2 0))))], [(1, (.box [(.c (.flt .f32 a0.Root.X.bits)), (.c (.flt .f32 a0.Root.Y.bits)), (.c (.flt .f32 a0.Root.Z.bits)), (.c (sl 4 cs_Turn a0.Turns))])), (2, (.box [(.c (.flt .f32 a1.Root.X.bits)), (.c (.flt .f32 a1.Root.Y.bits)), (.c (.flt .f32 a1.Root.Z.bits)), (.c (sl 4 cs_Turn a1.Turns))]))]⟩) (ob := True ∧ True ∧ True ∧ True) (by kernel_rfl) ⟨trivial, trivial, trivial, trivial⟩ ?_
  refine thenQ_normal ?_
  refine AW.seq ?_
  refine AW.seq ?_
  obtain ⟨v1, e2, h⟩ := bind_some h
  refine AW.regionA [.no, .no, .no, .no, .call [.agg (cs_Vector a0.Root), .agg (cs_Vector a1.Root)] [.one (.bool v1)] [[.view]]] [2, 3, 10] [1, 2] (s' := ⟨[(2, (.v (.one (.ptr 1 0)))), (3, (.v (.one (.ptr 2 0)))), (10, (.v (.one (.c (.bool (!v1))))))], [(1, (.box [(.c (.flt .f32 a0.Root.X.bits)), (.c (.flt .f32 a0.Root.Y.bits)), (.c (.flt .f32 a0.Root.Z.bits)), (.c (sl 4 cs_Turn a0.Turns))])), (2, (.box [(.c (.flt .f32 a1.Root.X.bits)), (.c (.flt .f32 a1.Root.Y.bits)), (.c (.flt .f32 a1.Root.Z.bits)), (.c (sl 4 cs_Turn a1.Turns))]))]⟩) (ob := True ∧ True ∧ True ∧ True ∧ ((((((.flt .f32 a0.Root.X.bits) : C) = (.flt .f32 a0.Root.X.bits)) ∧ (((.flt .f32 a0.Root.Y.bits) : C) = (.flt .f32 a0.Root.Y.bits)) ∧ (((.flt .f32 a0.Root.Z.bits) : C) = (.flt .f32 a0.Root.Z.bits)) ∧ True) ∧ ((((.flt .f32 a1.Root.X.bits) : C) = (.flt .f32 a1.Root.X.bits)) ∧ (((.flt .f32 a1.Root.Y.bits) : C) = (.flt .f32 a1.Root.Y.bits)) ∧ (((.flt .f32 a1.Root.Z.bits) : C) = (.flt .f32 a1.Root.Z.bits)) ∧ True) ∧ True) ∧ CallOK Try.prog 90 [.agg (cs_Vector a0.Root), .agg (cs_Vector a1.Root)] [.one (.bool v1)]) ∧ True ∧ True) (by kernel_rfl) ⟨trivial, trivial, trivial, trivial, ⟨⟨⟨rfl, rfl, rfl, trivial⟩, ⟨rfl, rfl, rfl, trivial⟩, trivial⟩, ok_laws_eqVector K a0.Root a1.Root v1 e2⟩, trivial, trivial⟩ ?_
  refine thenQ_normal ?_
  rcases ite2_cases h with ⟨b3, h⟩ | ⟨b3, h⟩
  · refine AW.cond_t rfl b3 ?_
    refine AW.seq ?_
    refine AW.regionA [] [4] [] (s' := ⟨[(4, (.v (.one (.c (.bool false)))))], []⟩) (ob := True ∧ True) (by kernel_rfl) ⟨trivial, trivial⟩ ?_
    refine thenQ_normal ?_
    refine AW.ret ?_
    refine thenQ_ret ?_
    replace h := some_eq h
    subst h
    exact ⟨.inr rfl, retOK_of [(.one (.c (.bool false)))] (by kernel_rfl) ⟨⟨rfl, trivial⟩, trivial⟩ (of_decide_eq_true (by kernel_rfl))⟩
  · refine AW.cond_f rfl b3 ?_
    refine AW.skip ?_
    refine thenQ_normal ?_
    refine AW.seq ?_
    refine AW.seq ?_
    obtain ⟨v4, e5, h⟩ := bind_some h
    refine AW.regionA [.no, .no, .no, .no, .call [.one (sl 4 cs_Turn a0.Turns), .one (sl 4 cs_Turn a1.Turns)] [.one (.bool v4)] [[.view]]] [16] [] (s' := ⟨[(16, (.v (.one (.c (.bool (!v4))))))], []⟩) (ob := True ∧ True ∧ True ∧ True ∧ (((((sl 4 cs_Turn a0.Turns) : C) = (sl 4 cs_Turn a0.Turns)) ∧ (((sl 4 cs_Turn a1.Turns) : C) = (sl 4 cs_Turn a1.Turns)) ∧ True) ∧ CallOK Try.prog 91 [.one (sl 4 cs_Turn a0.Turns), .one (sl 4 cs_Turn a1.Turns)] [.one (.bool v4)]) ∧ True ∧ True) (by kernel_rfl) ⟨trivial, trivial, trivial, trivial, ⟨⟨rfl, rfl, trivial⟩, ok_laws_eqTurnS K a0.Turns a1.Turns v4 e5⟩, trivial, trivial⟩ ?_
    refine thenQ_normal ?_
    rcases ite2_cases h with ⟨b6, h⟩ | ⟨b6, h⟩
    · refine AW.cond_t rfl b6 ?_
      refine AW.seq ?_
      refine AW.regionA [] [4] [] (s' := ⟨[(4, (.v (.one (.c (.bool false)))))], []⟩) (ob := True ∧ True) (by kernel_rfl) ⟨trivial, trivial⟩ ?_
      refine thenQ_normal ?_
      refine AW.ret ?_
      refine thenQ_ret ?_
      replace h := some_eq h
      subst h
      exact ⟨.inr rfl, retOK_of [(.one (.c (.bool false)))] (by kernel_rfl) ⟨⟨rfl, trivial⟩, trivial⟩ (of_decide_eq_true (by kernel_rfl))⟩
    · refine AW.cond_f rfl b6 ?_
      refine AW.skip ?_
      refine thenQ_normal ?_
      refine AW.seq ?_
      refine AW.regionA [] [4] [] (s' := ⟨[(4, (.v (.one (.c (.bool true)))))], []⟩) (ob := True ∧ True) (by kernel_rfl) ⟨trivial, trivial⟩ ?_
      refine thenQ_normal ?_
      refine AW.ret ?_
      replace h := some_eq h
      subst h
      exact ⟨.inr rfl, retOK_of [(.one (.c (.bool true)))] (by kernel_rfl) ⟨⟨rfl, trivial⟩, trivial⟩ (of_decide_eq_true (by kernel_rfl))⟩

/-! laws.eqPoseS -/
def laws_eqPoseS_l1 (K : Nat) (a0 : (List Pose)) (a1 : (List Pose)) : Nat → Int → Option (Bool)
  | 0, _ => none
  | k + 1, x3 => ite2 ((decide (x3 < (a0.length : Int)))) (chk (0 ≤ x3 ∧ x3 < (a0.length : Int)) (chk (0 ≤ x3 ∧ x3 < (a1.length : Int)) ((laws_eqPose K (a0.getD x3.toNat default) (a1.getD x3.toNat default)).bind fun v7 => ite2 ((!v7)) (some false) (laws_eqPoseS_l1 K a0 a1 k (IntKind.i64.wrap (x3 + (1 : Int))))))) (some true)

def laws_eqPoseS (K : Nat) (a0 : (List Pose)) (a1 : (List Pose)) : Option (Bool) :=
  ite2 (((a0.length : Int) != (a1.length : Int))) (some false) (laws_eqPoseS_l1 K a0 a1 K (0 : Int))

theorem ok_laws_eqPoseS (K : Nat) (a0 : (List Pose)) (a1 : (List Pose)) (o : (Bool)) (h : laws_eqPoseS K a0 a1 = some o) : CallOK Try.prog 77 [.one (sl 4 cs_Pose a0), .one (sl 4 cs_Pose a1)] [.one (.bool o)] := by
  refine callOK_of_AW Try.func77 rfl (by kernel_rfl) (Nat.le_of_ble_eq_true (by kernel_rfl)) ?_
  intro w0
  unfold laws_eqPoseS at h
  refine AW.seq ?_
  refine AW.regionA [] [0, 1] [] (s' := ⟨[(0, (.v (.one (.c (sl 4 cs_Pose a0))))), (1, (.v (.one (.c (sl 4 cs_Pose a1)))))], []⟩) (ob := True ∧ True) (by kernel_rfl) ⟨trivial, trivial⟩ ?_
  refine thenQ_normal ?_
  refine AW.seq ?_
  refine AW.seq ?_
  refine AW.regionA [] [0, 1, 10] [] (s' := ⟨[(0, (.v (.one (.c (sl 4 cs_Pose a0))))), (1, (.v (.one (.c (sl 4 cs_Pose a1))))), (10, (.v (.one (.c (.bool ((a0.length : Int) != (a1.length : Int)))))))], []⟩) (ob := True ∧ True ∧ True ∧ True ∧ True ∧ True) (by kernel_rfl) ⟨trivial, trivial, trivial, trivial, trivial, trivial⟩ ?_
  refine thenQ_normal ?_
  rcases ite2_cases h with ⟨b1, h⟩ | ⟨b1, h⟩
  · refine AW.cond_t rfl b1 ?_
    refine AW.seq ?_
    refine AW.regionA [] [4] [] (s' := ⟨[(4, (.v (.one (.c (.bool false)))))], []⟩) (ob := True ∧ True) (by kernel_rfl) ⟨trivial, trivial⟩ ?_
    refine thenQ_normal ?_
    refine AW.ret ?_
    refine thenQ_ret ?_
    replace h := some_eq h
    subst h
    exact ⟨.inr rfl, retOK_of [(.one (.c (.bool false)))] (by kernel_rfl) ⟨⟨rfl, trivial⟩, trivial⟩ (of_decide_eq_true (by kernel_rfl))⟩
  · refine AW.cond_f rfl b1 ?_
    refine AW.skip ?_
    refine thenQ_normal ?_
    refine AW.seq ?_
    refine AW.seq ?_
    refine AW.regionA [] [0, 1, 5] [] (s' := ⟨[(0, (.v (.one (.c (sl 4 cs_Pose a0))))), (1, (.v (.one (.c (sl 4 cs_Pose a1))))), (5, (.v (.one (.c (.int .i64 (0 : Int))))))], []⟩) (ob := True ∧ True) (by kernel_rfl) ⟨trivial, trivial⟩ ?_
    refine thenQ_normal ?_
    refine AW.block ?_
    refine AW.loopQ (σ := Nat × Int) (fun p => ⟨[(0, (.v (.one (.c (sl 4 cs_Pose a0))))), (1, (.v (.one (.c (sl 4 cs_Pose a1))))), (5, (.v (.one (.c (.int .i64 p.2)))))], []⟩) (fun p => laws_eqPoseS_l1 K a0 a1 p.1 p.2 = some o) (fun p => p.1) (K, (0 : Int)) h ?_
    clear h
    rintro ⟨k, x3⟩ h
    replace h : laws_eqPoseS_l1 K a0 a1 k x3 = some o := h
    show AW _ _ (⟨[(0, (.v (.one (.c (sl 4 cs_Pose a0))))), (1, (.v (.one (.c (sl 4 cs_Pose a1))))), (5, (.v (.one (.c (.int .i64 x3)))))], []⟩ : St) _
    obtain _ | k := k
    · rw [laws_eqPoseS_l1] at h; cases h
    rw [laws_eqPoseS_l1] at h
    refine AW.seq ?_
    refine AW.seq ?_
    refine AW.regionA [] [0, 1, 5, 14] [] (s' := ⟨[(0, (.v (.one (.c (sl 4 cs_Pose a0))))), (1, (.v (.one (.c (sl 4 cs_Pose a1))))), (5, (.v (.one (.c (.int .i64 x3))))), (14, (.v (.one (.c (.bool (decide (x3 < (a0.length : Int))))))))], []⟩) (ob := True ∧ True ∧ True ∧ True ∧ True) (by kernel_rfl) ⟨trivial, trivial, trivial, trivial, trivial⟩ ?_
    refine thenQ_normal ?_
    rcases ite2_cases h with ⟨b4, h⟩ | ⟨b4, h⟩
    · refine AW.cond_t rfl b4 ?_
      refine AW.skip ?_
      refine thenQ_normal ?_
      refine AW.seq ?_
      refine AW.block ?_
      refine AW.seq ?_
      obtain ⟨c5, h⟩ := chk_some h
      obtain ⟨c6, h⟩ := chk_some h
      obtain ⟨v7, e8, h⟩ := bind_some h
      refine AW.drawnA (by kernel_rfl) 10 [.no, .no, .no, .no, .no, .no, .no, .no, .call [.agg (cs_Pose (a0.getD x3.toNat default)), .agg (cs_Pose (a1.getD x3.toNat default))] [.one (.bool v7)] [[.view]]] [0, 1, 5, 26] [] (s' := ⟨[(0, (.v (.one (.c (sl 4 cs_Pose a0))))), (1, (.v (.one (.c (sl 4 cs_Pose a1))))), (5, (.v (.one (.c (.int .i64 x3))))), (26, (.v (.one (.c (.bool (!v7))))))], []⟩) (ob := (True ∧ True ∧ (0 ≤ x3 ∧ x3 < (a0.length : Int)) ∧ True ∧ True ∧ True ∧ (0 ≤ x3 ∧ x3 < (a1.length : Int)) ∧ True ∧ ((((((.flt .f32 (((a0.getD x3.toNat default).Root).X).bits) : C) = (.flt .f32 (((a0.getD x3.toNat default).Root).X).bits)) ∧ (((.flt .f32 (((a0.getD x3.toNat default).Root).Y).bits) : C) = (.flt .f32 (((a0.getD x3.toNat default).Root).Y).bits)) ∧ (((.flt .f32 (((a0.getD x3.toNat default).Root).Z).bits) : C) = (.flt .f32 (((a0.getD x3.toNat default).Root).Z).bits)) ∧ (((sl 4 cs_Turn ((a0.getD x3.toNat default).Turns)) : C) = (sl 4 cs_Turn ((a0.getD x3.toNat default).Turns))) ∧ True) ∧ ((((.flt .f32 (((a1.getD x3.toNat default).Root).X).bits) : C) = (.flt .f32 (((a1.getD x3.toNat default).Root).X).bits)) ∧ (((.flt .f32 (((a1.getD x3.toNat default).Root).Y).bits) : C) = (.flt .f32 (((a1.getD x3.toNat default).Root).Y).bits)) ∧ (((.flt .f32 (((a1.getD x3.toNat default).Root).Z).bits) : C) = (.flt .f32 (((a1.getD x3.toNat default).Root).Z).bits)) ∧ (((sl 4 cs_Turn ((a1.getD x3.toNat default).Turns)) : C) = (sl 4 cs_Turn ((a1.getD x3.toNat default).Turns))) ∧ True) ∧ True) ∧ CallOK Try.prog 36 [.agg (cs_Pose (a0.getD x3.toNat default)), .agg (cs_Pose (a1.getD x3.toNat default))] [.one (.bool v7)]) ∧ True ∧ True) ∧ (True)) (by kernel_rfl) ⟨⟨trivial, trivial, c5, trivial, trivial, trivial, c6, trivial, ⟨⟨⟨rfl, rfl, rfl, rfl, trivial⟩, ⟨rfl, rfl, rfl, rfl, trivial⟩, trivial⟩, ok_laws_eqPose K (a0.getD x3.toNat default) (a1.getD x3.toNat default) v7 e8⟩, trivial, trivial⟩, trivial⟩ ?_
      refine thenQ_normal ?_
      rcases ite2_cases h with ⟨b9, h⟩ | ⟨b9, h⟩
      · refine AW.cond_t rfl b9 ?_
        refine AW.seq ?_
        refine AW.regionA [] [4] [] (s' := ⟨[(4, (.v (.one (.c (.bool false)))))], []⟩) (ob := True ∧ True) (by kernel_rfl) ⟨trivial, trivial⟩ ?_
        refine thenQ_normal ?_
        refine AW.ret ?_
        refine blockQ_ret ?_
        refine thenQ_ret ?_
        refine loopQ_ret ?_
        refine blockQ_ret ?_
        refine thenQ_ret ?_
        replace h := some_eq h
        subst h
        exact ⟨.inr rfl, retOK_of [(.one (.c (.bool false)))] (by kernel_rfl) ⟨⟨rfl, trivial⟩, trivial⟩ (of_decide_eq_true (by kernel_rfl))⟩
      · refine AW.cond_f rfl b9 ?_
        refine AW.skip ?_
        refine blockQ_normal ?_
        refine thenQ_normal ?_
        refine AW.regionA [] [0, 1, 5] [] (s' := ⟨[(0, (.v (.one (.c (sl 4 cs_Pose a0))))), (1, (.v (.one (.c (sl 4 cs_Pose a1))))), (5, (.v (.one (.c (.int .i64 (IntKind.i64.wrap (x3 + (1 : Int))))))))], []⟩) (ob := True ∧ True ∧ True ∧ True) (by kernel_rfl) ⟨trivial, trivial, trivial, trivial⟩ ?_
        exact loopQ_normal (k, (IntKind.i64.wrap (x3 + (1 : Int)))) h (Nat.lt_succ_self k) (Sub.keep [0, 1, 5] [] (by kernel_rfl) (by kernel_rfl))
    · refine AW.cond_f rfl b4 ?_
      refine AW.exit ?_
      refine thenQ_exit ?_
      refine loopQ_exit ?_
      refine blockQ_exit ?_
      refine thenQ_normal ?_
      refine AW.seq ?_
      refine AW.regionA [] [4] [] (s' := ⟨[(4, (.v (.one (.c (.bool true)))))], []⟩) (ob := True ∧ True) (by kernel_rfl) ⟨trivial, trivial⟩ ?_
      refine thenQ_normal ?_
      refine AW.ret ?_
      replace h := some_eq h
      subst h
      exact ⟨.inr rfl, retOK_of [(.one (.c (.bool true)))] (by kernel_rfl) ⟨⟨rfl, trivial⟩, trivial⟩ (of_decide_eq_true (by kernel_rfl))⟩

/-! laws.eqRecording -/
def laws_eqRecording (K : Nat) (a0 : Recording) (a1 : Recording) : Option (Bool) :=
  ite2 ((a0.Bones != a1.Bones)) (some false) ((laws_eqPoseS K a0.Frames a1.Frames).bind fun v2 => ite2 ((!v2)) (some false) (some true))

theorem ok_laws_eqRecording (K : Nat) (a0 : Recording) (a1 : Recording) (o : (Bool)) (h : laws_eqRecording K a0 a1 = some o) : CallOK Try.prog 25 [.agg (cs_Recording a0), .agg (cs_Recording a1)] [.one (.bool o)] := by
  refine callOK_of_AW Try.func25 rfl (by kernel_rfl) (Nat.le_of_ble_eq_true (by kernel_rfl)) ?_
  intro w0
  unfold laws_eqRecording at h
  refine AW.seq ?_
  refine AW.regionA [.box 1, .box 2] [2, 3] [1, 2] (s' := ⟨[(2, (.v (.one (.ptr 1 0)))), (3, (.v (.one (.ptr 2 0))))], [(1, (.box [(.c (.int .i64 a0.Bones)), (.c (sl 4 cs_Pose a0.Frames))])), (2, (.box [(.c (.int .i64 a1.Bones)), (.c (sl 4 cs_Pose a1.Frames))]))]⟩) (ob := True ∧ True ∧ True ∧ True) (by kernel_rfl) ⟨trivial, trivial, trivial, trivial⟩ ?_
  refine thenQ_normal ?_
  refine AW.seq ?_
  refine AW.seq ?_
  refine AW.regionA [] [2, 3, 9] [1, 2] (s' := ⟨[(2, (.v (.one (.ptr 1 0)))), (3, (.v (.one (.ptr 2 0)))), (9, (.v (.one (.c (.bool (a0.Bones != a1.Bones))))))], [(1, (.box [(.c (.int .i64 a0.Bones)), (.c (sl 4 cs_Pose a0.Frames))])), (2, (.box [(.c (.int .i64 a1.Bones)), (.c (sl 4 cs_Pose a1.Frames))]))]⟩) (ob := True ∧ True ∧ True ∧ True ∧ True ∧ True) (by kernel_rfl) ⟨trivial, trivial, trivial, trivial, trivial, trivial⟩ ?_
  refine thenQ_normal ?_
  rcases ite2_cases h with ⟨b1, h⟩ | ⟨b1, h⟩
  · refine AW.cond_t rfl b1 ?_
    refine AW.seq ?_
    refine AW.regionA [] [4] [] (s' := ⟨[(4, (.v (.one (.c (.bool false)))))], []⟩) (ob := True ∧ True) (by kernel_rfl) ⟨trivial, trivial⟩ ?_
    refine thenQ_normal ?_
    refine AW.ret ?_
    refine thenQ_ret ?_
    replace h := some_eq h
    subst h
    exact ⟨.inr rfl, retOK_of [(.one (.c (.bool false)))] (by kernel_rfl) ⟨⟨rfl, trivial⟩, trivial⟩ (of_decide_eq_true (by kernel_rfl))⟩
  · refine AW.cond_f rfl b1 ?_
    refine AW.skip ?_
    refine thenQ_normal ?_
    refine AW.seq ?_
    refine AW.seq ?_
    obtain ⟨v2, e3, h⟩ := bind_some h
    refine AW.regionA [.no, .no, .no, .no, .call [.one (sl 4 cs_Pose a0.Frames), .one (sl 4 cs_Pose a1.Frames)] [.one (.bool v2)] [[.view]]] [15] [] (s' := ⟨[(15, (.v (.one (.c (.bool (!v2))))))], []⟩) (ob := True ∧ True ∧ True ∧ True ∧ (((((sl 4 cs_Pose a0.Frames) : C) = (sl 4 cs_Pose a0.Frames)) ∧ (((sl 4 cs_Pose a1.Frames) : C) = (sl 4 cs_Pose a1.Frames)) ∧ True) ∧ CallOK Try.prog 77 [.one (sl 4 cs_Pose a0.Frames), .one (sl 4 cs_Pose a1.Frames)] [.one (.bool v2)]) ∧ True ∧ True) (by kernel_rfl) ⟨trivial, trivial, trivial, trivial, ⟨⟨rfl, rfl, trivial⟩, ok_laws_eqPoseS K a0.Frames a1.Frames v2 e3⟩, trivial, trivial⟩ ?_
    refine thenQ_normal ?_
    rcases ite2_cases h with ⟨b4, h⟩ | ⟨b4, h⟩
    · refine AW.cond_t rfl b4 ?_
      refine AW.seq ?_
      refine AW.regionA [] [4] [] (s' := ⟨[(4, (.v (.one (.c (.bool false)))))], []⟩) (ob := True ∧ True) (by kernel_rfl) ⟨trivial, trivial⟩ ?_
      refine thenQ_normal ?_
      refine AW.ret ?_
      refine thenQ_ret ?_
      replace h := some_eq h
      subst h
      exact ⟨.inr rfl, retOK_of [(.one (.c (.bool false)))] (by kernel_rfl) ⟨⟨rfl, trivial⟩, trivial⟩ (of_decide_eq_true (by kernel_rfl))⟩
    · refine AW.cond_f rfl b4 ?_
      refine AW.skip ?_
      refine thenQ_normal ?_
      refine AW.seq ?_
      refine AW.regionA [] [4] [] (s' := ⟨[(4, (.v (.one (.c (.bool true)))))], []⟩) (ob := True ∧ True) (by kernel_rfl) ⟨trivial, trivial⟩ ?_
      refine thenQ_normal ?_
      refine AW.ret ?_
      replace h := some_eq h
      subst h
      exact ⟨.inr rfl, retOK_of [(.one (.c (.bool true)))] (by kernel_rfl) ⟨⟨rfl, trivial⟩, trivial⟩ (of_decide_eq_true (by kernel_rfl))⟩

/-! laws.FnExactStoreRecording -/
def laws_FnExactStoreRecording (K : Nat) (a0 : Recording) : Option (Bool) :=
  (laws_szRecording K a0 (1048576 : Int)).bind fun v1 => ite2 ((decide (v1 < (0 : Int)))) (some true) ((laws_toRecording K a0).bind fun v4 => (spec_StoreRecording K v4).bind fun v6 => (laws_toRecording K a0).bind fun v8 => (impl_StoreRecording K v8).bind fun v10 => (ite2 ((!(v10.1.toList == v6.1.toList))) (some true) (some (!(v10.2 == v6.2)))).bind fun j13 => ite2 (j13) (some false) ((laws_toRecording K a0).bind fun v16 => (laws_eqRecording K v8 v16).bind fun v18 => ite2 ((!v18)) (some false) (some true)))

theorem ok_laws_FnExactStoreRecording (K : Nat) (a0 : Recording) (o : (Bool)) (h : laws_FnExactStoreRecording K a0 = some o) : CallOK Try.prog 6 [.agg (cs_Recording a0)] [.one (.bool o)] := by
  refine callOK_of_AW Try.func6 rfl (by kernel_rfl) (Nat.le_of_ble_eq_true (by kernel_rfl)) ?_
  intro w0
  unfold laws_FnExactStoreRecording at h
  refine AW.seq ?_
  refine AW.regionA [.box 1] [1] [1] (s' := ⟨[(1, (.v (.one (.ptr 1 0))))], [(1, (.box [(.c (.int .i64 a0.Bones)), (.c (sl 4 cs_Pose a0.Frames))]))]⟩) (ob := True ∧ True ∧ True) (by kernel_rfl) ⟨trivial, trivial, trivial⟩ ?_
  refine thenQ_normal ?_
  refine AW.seq ?_
  refine AW.regionA [] [1, 3] [1] (s' := ⟨[(1, (.v (.one (.ptr 1 0)))), (3, (.v (.one (.c (.int .i64 (1048576 : Int))))))], [(1, (.box [(.c (.int .i64 a0.Bones)), (.c (sl 4 cs_Pose a0.Frames))]))]⟩) (ob := True ∧ True) (by kernel_rfl) ⟨trivial, trivial⟩ ?_
  refine thenQ_normal ?_
  refine AW.seq ?_
  obtain ⟨v1, e2, h⟩ := bind_some h
  refine AW.regionA [.no, .no, .call [.agg (cs_Recording a0), .one (.int .i64 (1048576 : Int))] [.one (.int .i64 v1)] [[.view]]] [1, 3] [1] (s' := ⟨[(1, (.v (.one (.ptr 1 0)))), (3, (.v (.one (.c (.int .i64 v1)))))], [(1, (.box [(.c (.int .i64 a0.Bones)), (.c (sl 4 cs_Pose a0.Frames))]))]⟩) (ob := True ∧ True ∧ ((((((.int .i64 a0.Bones) : C) = (.int .i64 a0.Bones)) ∧ (((sl 4 cs_Pose a0.Frames) : C) = (sl 4 cs_Pose a0.Frames)) ∧ True) ∧ (((.int .i64 (1048576 : Int)) : C) = (.int .i64 (1048576 : Int))) ∧ True) ∧ CallOK Try.prog 21 [.agg (cs_Recording a0), .one (.int .i64 (1048576 : Int))] [.one (.int .i64 v1)]) ∧ True ∧ True) (by kernel_rfl) ⟨trivial, trivial, ⟨⟨⟨rfl, rfl, trivial⟩, rfl, trivial⟩, ok_laws_szRecording K a0 (1048576 : Int) v1 e2⟩, trivial, trivial⟩ ?_
  refine thenQ_normal ?_
  refine AW.seq ?_
  refine AW.seq ?_
  refine AW.regionA [] [1, 13] [1] (s' := ⟨[(1, (.v (.one (.ptr 1 0)))), (13, (.v (.one (.c (.bool (decide (v1 < (0 : Int))))))))], [(1, (.box [(.c (.int .i64 a0.Bones)), (.c (sl 4 cs_Pose a0.Frames))]))]⟩) (ob := True ∧ True ∧ True) (by kernel_rfl) ⟨trivial, trivial, trivial⟩ ?_
  refine thenQ_normal ?_
  rcases ite2_cases h with ⟨b3, h⟩ | ⟨b3, h⟩
  · refine AW.cond_t rfl b3 ?_
    refine AW.seq ?_
    refine AW.regionA [] [2] [] (s' := ⟨[(2, (.v (.one (.c (.bool true)))))], []⟩) (ob := True ∧ True) (by kernel_rfl) ⟨trivial, trivial⟩ ?_
    refine thenQ_normal ?_
    refine AW.ret ?_
    refine thenQ_ret ?_
    replace h := some_eq h
    subst h
    exact ⟨.inr rfl, retOK_of [(.one (.c (.bool true)))] (by kernel_rfl) ⟨⟨rfl, trivial⟩, trivial⟩ (of_decide_eq_true (by kernel_rfl))⟩
  · refine AW.cond_f rfl b3 ?_
    refine AW.skip ?_
    refine thenQ_normal ?_
    refine AW.seq ?_
    obtain ⟨v4, e5, h⟩ := bind_some h
    obtain ⟨v6, e7, h⟩ := bind_some h
    refine AW.regionA [.no, .call [.agg (cs_Recording a0)] [.agg (cs_Recording v4)] [[.view, .lst 2]], .call [.agg (cs_Recording v4)] [.one (.str v6.1), .one (.bool v6.2)] [[.view], [.view]]] [1, 4, 5] [1] (s' := ⟨[(1, (.v (.one (.ptr 1 0)))), (4, (.v (.one (.c (.str v6.1))))), (5, (.v (.one (.c (.bool v6.2)))))], [(1, (.box [(.c (.int .i64 a0.Bones)), (.c (sl 4 cs_Pose a0.Frames))]))]⟩) (ob := True ∧ ((((((.int .i64 a0.Bones) : C) = (.int .i64 a0.Bones)) ∧ (((sl 4 cs_Pose a0.Frames) : C) = (sl 4 cs_Pose a0.Frames)) ∧ True) ∧ True) ∧ CallOK Try.prog 23 [.agg (cs_Recording a0)] [.agg (cs_Recording v4)]) ∧ ((((((.int .i64 v4.Bones) : C) = (.int .i64 v4.Bones)) ∧ (((sl 4 cs_Pose v4.Frames) : C) = (sl 4 cs_Pose v4.Frames)) ∧ True) ∧ True) ∧ CallOK Try.prog 30 [.agg (cs_Recording v4)] [.one (.str v6.1), .one (.bool v6.2)]) ∧ True ∧ True ∧ True ∧ True ∧ True ∧ True) (by kernel_rfl) ⟨trivial, ⟨⟨⟨rfl, rfl, trivial⟩, trivial⟩, ok_laws_toRecording K a0 v4 e5⟩, ⟨⟨⟨rfl, rfl, trivial⟩, trivial⟩, ok_spec_StoreRecording K v4 v6 e7⟩, trivial, trivial, trivial, trivial, trivial, trivial⟩ ?_
    refine thenQ_normal ?_
    refine AW.seq ?_
    obtain ⟨v8, e9, h⟩ := bind_some h
    refine AW.regionA [.no, .call [.agg (cs_Recording a0)] [.agg (cs_Recording v8)] [[.view, .lst 3]], .box 4] [1, 4, 5, 6] [1, 3, 4] (s' := ⟨[(1, (.v (.one (.ptr 1 0)))), (4, (.v (.one (.c (.str v6.1))))), (5, (.v (.one (.c (.bool v6.2))))), (6, (.v (.one (.ptr 4 0))))], [(1, (.box [(.c (.int .i64 a0.Bones)), (.c (sl 4 cs_Pose a0.Frames))])), (3, (.lst v8.Frames.length 4 (gl cs_Pose v8.Frames))), (4, (.box [(.c (.int .i64 v8.Bones)), (.lst 3 v8.Frames.length 4 (gl cs_Pose v8.Frames))]))]⟩) (ob := True ∧ ((((((.int .i64 a0.Bones) : C) = (.int .i64 a0.Bones)) ∧ (((sl 4 cs_Pose a0.Frames) : C) = (sl 4 cs_Pose a0.Frames)) ∧ True) ∧ True) ∧ CallOK Try.prog 23 [.agg (cs_Recording a0)] [.agg (cs_Recording v8)]) ∧ True ∧ True ∧ True) (by kernel_rfl) ⟨trivial, ⟨⟨⟨rfl, rfl, trivial⟩, trivial⟩, ok_laws_toRecording K a0 v8 e9⟩, trivial, trivial, trivial⟩ ?_
    refine thenQ_normal ?_
    refine AW.seq ?_
    obtain ⟨v10, e11, h⟩ := bind_some h
    refine AW.regionA [.no, .call [.agg (cs_Recording v8)] [.one (.str v10.1), .one (.bool v10.2)] [[.view], [.view]]] [1, 4, 5, 6, 7, 8] [1, 3, 4] (s' := ⟨[(1, (.v (.one (.ptr 1 0)))), (4, (.v (.one (.c (.str v6.1))))), (5, (.v (.one (.c (.bool v6.2))))), (6, (.v (.one (.ptr 4 0)))), (7, (.v (.one (.c (.str v10.1))))), (8, (.v (.one (.c (.bool v10.2)))))], [(1, (.box [(.c (.int .i64 a0.Bones)), (.c (sl 4 cs_Pose a0.Frames))])), (3, (.lst v8.Frames.length 4 (gl cs_Pose v8.Frames))), (4, (.box [(.c (.int .i64 v8.Bones)), (.lst 3 v8.Frames.length 4 (gl cs_Pose v8.Frames))]))]⟩) (ob := True ∧ ((((((.int .i64 v8.Bones) : C) = (.int .i64 v8.Bones)) ∧ (((sl 4 cs_Pose v8.Frames) : C) = (sl 4 cs_Pose v8.Frames)) ∧ True) ∧ True) ∧ CallOK Try.prog 31 [.agg (cs_Recording v8)] [.one (.str v10.1), .one (.bool v10.2)]) ∧ True ∧ True ∧ True ∧ True ∧ True ∧ True) (by kernel_rfl) ⟨trivial, ⟨⟨⟨rfl, rfl, trivial⟩, trivial⟩, ok_impl_StoreRecording K v8 v10 e11⟩, trivial, trivial, trivial, trivial, trivial, trivial⟩ ?_
    refine thenQ_normal ?_
    refine AW.seq ?_
    refine AW.seq ?_
    obtain ⟨j13, e14, h⟩ := bind_some h
    refine AW.join1 (s2 := ⟨[(1, (.v (.one (.ptr 1 0)))), (6, (.v (.one (.ptr 4 0)))), (34, (.v (.one (.c (.bool j13)))))], [(1, (.box [(.c (.int .i64 a0.Bones)), (.c (sl 4 cs_Pose a0.Frames))])), (3, (.lst v8.Frames.length 4 (gl cs_Pose v8.Frames))), (4, (.box [(.c (.int .i64 v8.Bones)), (.lst 3 v8.Frames.length 4 (gl cs_Pose v8.Frames))]))]⟩) ?_ ?_
    · rcases ite2_cases e14 with ⟨b12, e14⟩ | ⟨b12, e14⟩
      · replace e14 := some_eq e14
        subst e14
        exact AW.regionA [.no, .no, .no, .dec true] [1, 6, 34] [1, 3, 4] (s' := ⟨[(1, (.v (.one (.ptr 1 0)))), (6, (.v (.one (.ptr 4 0)))), (34, (.v (.one (.c (.bool true)))))], [(1, (.box [(.c (.int .i64 a0.Bones)), (.c (sl 4 cs_Pose a0.Frames))])), (3, (.lst v8.Frames.length 4 (gl cs_Pose v8.Frames))), (4, (.box [(.c (.int .i64 v8.Bones)), (.lst 3 v8.Frames.length 4 (gl cs_Pose v8.Frames))]))]⟩) (ob := True ∧ True ∧ True ∧ (True ∧ (!(v10.1.toList == v6.1.toList)) = true) ∧ True ∧ True ∧ True ∧ True ∧ True) (by kernel_rfl) ⟨trivial, trivial, trivial, ⟨trivial, b12⟩, trivial, trivial, trivial, trivial, trivial⟩ ⟨rfl, rfl⟩
      · replace e14 := some_eq e14
        subst e14
        exact AW.regionA [.no, .no, .no, .dec false] [1, 6, 34] [1, 3, 4] (s' := ⟨[(1, (.v (.one (.ptr 1 0)))), (6, (.v (.one (.ptr 4 0)))), (34, (.v (.one (.c (.bool (!(v10.2 == v6.2)))))))], [(1, (.box [(.c (.int .i64 a0.Bones)), (.c (sl 4 cs_Pose a0.Frames))])), (3, (.lst v8.Frames.length 4 (gl cs_Pose v8.Frames))), (4, (.box [(.c (.int .i64 v8.Bones)), (.lst 3 v8.Frames.length 4 (gl cs_Pose v8.Frames))]))]⟩) (ob := True ∧ True ∧ True ∧ (True ∧ (!(v10.1.toList == v6.1.toList)) = false) ∧ True ∧ True ∧ True ∧ True ∧ True) (by kernel_rfl) ⟨trivial, trivial, trivial, ⟨trivial, b12⟩, trivial, trivial, trivial, trivial, trivial⟩ ⟨rfl, rfl⟩
    refine thenQ_normal ?_
    rcases ite2_cases h with ⟨b15, h⟩ | ⟨b15, h⟩
    · refine AW.cond_t rfl b15 ?_
      refine AW.seq ?_
      refine AW.regionA [] [2] [] (s' := ⟨[(2, (.v (.one (.c (.bool false)))))], []⟩) (ob := True ∧ True) (by kernel_rfl) ⟨trivial, trivial⟩ ?_
      refine thenQ_normal ?_
      refine AW.ret ?_
      refine thenQ_ret ?_
      replace h := some_eq h
      subst h
      exact ⟨.inr rfl, retOK_of [(.one (.c (.bool false)))] (by kernel_rfl) ⟨⟨rfl, trivial⟩, trivial⟩ (of_decide_eq_true (by kernel_rfl))⟩
    · refine AW.cond_f rfl b15 ?_
      refine AW.skip ?_
      refine thenQ_normal ?_
      refine AW.seq ?_
      refine AW.seq ?_
      obtain ⟨v16, e17, h⟩ := bind_some h
      obtain ⟨v18, e19, h⟩ := bind_some h
      refine AW.drawnA (by kernel_rfl) 5 [.no, .no, .call [.agg (cs_Recording a0)] [.agg (cs_Recording v16)] [[.view, .lst 5]], .call [.agg (cs_Recording v8), .agg (cs_Recording v16)] [.one (.bool v18)] [[.view]]] [39] [] (s' := ⟨[(39, (.v (.one (.c (.bool (!v18))))))], []⟩) (ob := (True ∧ True ∧ ((((((.int .i64 a0.Bones) : C) = (.int .i64 a0.Bones)) ∧ (((sl 4 cs_Pose a0.Frames) : C) = (sl 4 cs_Pose a0.Frames)) ∧ True) ∧ True) ∧ CallOK Try.prog 23 [.agg (cs_Recording a0)] [.agg (cs_Recording v16)]) ∧ ((((((.int .i64 v8.Bones) : C) = (.int .i64 v8.Bones)) ∧ (((sl 4 cs_Pose v8.Frames) : C) = (sl 4 cs_Pose v8.Frames)) ∧ True) ∧ ((((.int .i64 v16.Bones) : C) = (.int .i64 v16.Bones)) ∧ (((sl 4 cs_Pose v16.Frames) : C) = (sl 4 cs_Pose v16.Frames)) ∧ True) ∧ True) ∧ CallOK Try.prog 25 [.agg (cs_Recording v8), .agg (cs_Recording v16)] [.one (.bool v18)]) ∧ True ∧ True) ∧ (True)) (by kernel_rfl) ⟨⟨trivial, trivial, ⟨⟨⟨rfl, rfl, trivial⟩, trivial⟩, ok_laws_toRecording K a0 v16 e17⟩, ⟨⟨⟨rfl, rfl, trivial⟩, ⟨rfl, rfl, trivial⟩, trivial⟩, ok_laws_eqRecording K v8 v16 v18 e19⟩, trivial, trivial⟩, trivial⟩ ?_
      refine thenQ_normal ?_
      rcases ite2_cases h with ⟨b20, h⟩ | ⟨b20, h⟩
      · refine AW.cond_t rfl b20 ?_
        refine AW.seq ?_
        refine AW.regionA [] [2] [] (s' := ⟨[(2, (.v (.one (.c (.bool false)))))], []⟩) (ob := True ∧ True) (by kernel_rfl) ⟨trivial, trivial⟩ ?_
        refine thenQ_normal ?_
        refine AW.ret ?_
        refine thenQ_ret ?_
        replace h := some_eq h
        subst h
        exact ⟨.inr rfl, retOK_of [(.one (.c (.bool false)))] (by kernel_rfl) ⟨⟨rfl, trivial⟩, trivial⟩ (of_decide_eq_true (by kernel_rfl))⟩
      · refine AW.cond_f rfl b20 ?_
        refine AW.skip ?_
        refine thenQ_normal ?_
        refine AW.seq ?_
        refine AW.regionA [] [2] [] (s' := ⟨[(2, (.v (.one (.c (.bool true)))))], []⟩) (ob := True ∧ True) (by kernel_rfl) ⟨trivial, trivial⟩ ?_
        refine thenQ_normal ?_
        refine AW.ret ?_
        replace h := some_eq h
        subst h
        exact ⟨.inr rfl, retOK_of [(.one (.c (.bool true)))] (by kernel_rfl) ⟨⟨rfl, trivial⟩, trivial⟩ (of_decide_eq_true (by kernel_rfl))⟩

/-! spec.StoredSize -/
def spec_StoredSize (K : Nat) (a0 : Recording) : Option (Int × Bool) :=
  (spec_l10Is K a0).bind fun v1 => ite2 ((!v1)) (some ((0 : Int), false)) ((spec_l10Store K a0).bind fun v4 => some ((v4.size : Int), true))

theorem ok_spec_StoredSize (K : Nat) (a0 : Recording) (o : (Int × Bool)) (h : spec_StoredSize K a0 = some o) : CallOK Try.prog 38 [.agg (cs_Recording a0)] [.one (.int .i64 o.1), .one (.bool o.2)] := by
  refine callOK_of_AW Try.func38 rfl (by kernel_rfl) (Nat.le_of_ble_eq_true (by kernel_rfl)) ?_
  intro w0
  unfold spec_StoredSize at h
  refine AW.seq ?_
  refine AW.regionA [.box 1] [1] [1] (s' := ⟨[(1, (.v (.one (.ptr 1 0))))], [(1, (.box [(.c (.int .i64 a0.Bones)), (.c (sl 4 cs_Pose a0.Frames))]))]⟩) (ob := True ∧ True ∧ True ∧ True) (by kernel_rfl) ⟨trivial, trivial, trivial, trivial⟩ ?_
  refine thenQ_normal ?_
  refine AW.seq ?_
  refine AW.seq ?_
  obtain ⟨v1, e2, h⟩ := bind_some h
  refine AW.regionA [.call [.one (pl 2 cs_Recording a0)] [.one (.bool v1)] [[.view]]] [1, 5] [1] (s' := ⟨[(1, (.v (.one (.ptr 1 0)))), (5, (.v (.one (.c (.bool (!v1))))))], [(1, (.box [(.c (.int .i64 a0.Bones)), (.c (sl 4 cs_Pose a0.Frames))]))]⟩) (ob := (((0 = 0 ∧ (((.int .i64 a0.Bones) : C) = (.int .i64 a0.Bones)) ∧ (((sl 4 cs_Pose a0.Frames) : C) = (sl 4 cs_Pose a0.Frames)) ∧ True) ∧ True) ∧ CallOK Try.prog 73 [.one (pl 2 cs_Recording a0)] [.one (.bool v1)]) ∧ True ∧ True) (by kernel_rfl) ⟨⟨⟨⟨rfl, rfl, rfl, trivial⟩, trivial⟩, ok_spec_l10Is K a0 v1 e2⟩, trivial, trivial⟩ ?_
  refine thenQ_normal ?_
  rcases ite2_cases h with ⟨b3, h⟩ | ⟨b3, h⟩
  · refine AW.cond_t rfl b3 ?_
    refine AW.seq ?_
    refine AW.regionA [] [2, 3] [] (s' := ⟨[(2, (.v (.one (.c (.int .i64 (0 : Int)))))), (3, (.v (.one (.c (.bool false)))))], []⟩) (ob := True ∧ True ∧ True) (by kernel_rfl) ⟨trivial, trivial, trivial⟩ ?_
    refine thenQ_normal ?_
    refine AW.ret ?_
    refine thenQ_ret ?_
    replace h := some_eq h
    subst h
    exact ⟨.inr rfl, retOK_of [(.one (.c (.int .i64 (0 : Int)))), (.one (.c (.bool false)))] (by kernel_rfl) ⟨⟨rfl, trivial⟩, ⟨rfl, trivial⟩, trivial⟩ (of_decide_eq_true (by kernel_rfl))⟩
  · refine AW.cond_f rfl b3 ?_
    refine AW.skip ?_
    refine thenQ_normal ?_
    refine AW.seq ?_
    obtain ⟨v4, e5, h⟩ := bind_some h
    refine AW.regionA [.call [.one (pl 2 cs_Recording a0)] [.one (.str v4)] [[.view]]] [2, 3] [] (s' := ⟨[(2, (.v (.one (.c (.int .i64 (v4.size : Int)))))), (3, (.v (.one (.c (.bool true)))))], []⟩) (ob := (((0 = 0 ∧ (((.int .i64 a0.Bones) : C) = (.int .i64 a0.Bones)) ∧ (((sl 4 cs_Pose a0.Frames) : C) = (sl 4 cs_Pose a0.Frames)) ∧ True) ∧ True) ∧ CallOK Try.prog 81 [.one (pl 2 cs_Recording a0)] [.one (.str v4)]) ∧ True ∧ True ∧ True ∧ True) (by kernel_rfl) ⟨⟨⟨⟨rfl, rfl, rfl, trivial⟩, trivial⟩, ok_spec_l10Store K a0 v4 e5⟩, trivial, trivial, trivial, trivial⟩ ?_
    refine thenQ_normal ?_
    refine AW.ret ?_
    replace h := some_eq h
    subst h
    exact ⟨.inr rfl, retOK_of [(.one (.c (.int .i64 (v4.size : Int)))), (.one (.c (.bool true)))] (by kernel_rfl) ⟨⟨rfl, trivial⟩, ⟨rfl, trivial⟩, trivial⟩ (of_decide_eq_true (by kernel_rfl))⟩

/-! impl.StoredSize -/
def impl_StoredSize (K : Nat) (a0 : Recording) : Option (Int × Bool) :=
  (impl_StoreRecording K a0).bind fun v1 => some ((v1.1.size : Int), v1.2)

theorem ok_impl_StoredSize (K : Nat) (a0 : Recording) (o : (Int × Bool)) (h : impl_StoredSize K a0 = some o) : CallOK Try.prog 39 [.agg (cs_Recording a0)] [.one (.int .i64 o.1), .one (.bool o.2)] := by
  refine callOK_of_AW Try.func39 rfl (by kernel_rfl) (Nat.le_of_ble_eq_true (by kernel_rfl)) ?_
  intro w0
  unfold impl_StoredSize at h
  refine AW.seq ?_
  refine AW.regionA [.box 1] [1] [1] (s' := ⟨[(1, (.v (.one (.ptr 1 0))))], [(1, (.box [(.c (.int .i64 a0.Bones)), (.c (sl 4 cs_Pose a0.Frames))]))]⟩) (ob := True ∧ True ∧ True ∧ True) (by kernel_rfl) ⟨trivial, trivial, trivial, trivial⟩ ?_
  refine thenQ_normal ?_
  refine AW.seq ?_
  obtain ⟨v1, e2, h⟩ := bind_some h
  refine AW.regionA [.no, .call [.agg (cs_Recording a0)] [.one (.str v1.1), .one (.bool v1.2)] [[.view], [.view]]] [4, 5] [] (s' := ⟨[(4, (.v (.one (.c (.str v1.1))))), (5, (.v (.one (.c (.bool v1.2)))))], []⟩) (ob := True ∧ ((((((.int .i64 a0.Bones) : C) = (.int .i64 a0.Bones)) ∧ (((sl 4 cs_Pose a0.Frames) : C) = (sl 4 cs_Pose a0.Frames)) ∧ True) ∧ True) ∧ CallOK Try.prog 31 [.agg (cs_Recording a0)] [.one (.str v1.1), .one (.bool v1.2)]) ∧ True ∧ True ∧ True ∧ True ∧ True ∧ True) (by kernel_rfl) ⟨trivial, ⟨⟨⟨rfl, rfl, trivial⟩, trivial⟩, ok_impl_StoreRecording K a0 v1 e2⟩, trivial, trivial, trivial, trivial, trivial, trivial⟩ ?_
  refine thenQ_normal ?_
  refine AW.seq ?_
  refine AW.regionA [] [2, 3] [] (s' := ⟨[(2, (.v (.one (.c (.int .i64 (v1.1.size : Int)))))), (3, (.v (.one (.c (.bool v1.2)))))], []⟩) (ob := True ∧ True ∧ True ∧ True ∧ True ∧ True) (by kernel_rfl) ⟨trivial, trivial, trivial, trivial, trivial, trivial⟩ ?_
  refine thenQ_normal ?_
  refine AW.ret ?_
  replace h := some_eq h
  subst h
  exact ⟨.inr rfl, retOK_of [(.one (.c (.int .i64 (v1.1.size : Int)))), (.one (.c (.bool v1.2)))] (by kernel_rfl) ⟨⟨rfl, trivial⟩, ⟨rfl, trivial⟩, trivial⟩ (of_decide_eq_true (by kernel_rfl))⟩

/-! laws.FnExactStoredSize -/
def laws_FnExactStoredSize (K : Nat) (a0 : Recording) : Option (Bool) :=
  (laws_szRecording K a0 (1048576 : Int)).bind fun v1 => ite2 ((decide (v1 < (0 : Int)))) (some true) ((laws_toRecording K a0).bind fun v4 => (spec_StoredSize K v4).bind fun v6 => (laws_toRecording K a0).bind fun v8 => (impl_StoredSize K v8).bind fun v10 => (ite2 ((v10.1 != v6.1)) (some true) (some (!(v10.2 == v6.2)))).bind fun j13 => ite2 (j13) (some false) ((laws_toRecording K a0).bind fun v16 => (laws_eqRecording K v8 v16).bind fun v18 => ite2 ((!v18)) (some false) (some true)))

theorem ok_laws_FnExactStoredSize (K : Nat) (a0 : Recording) (o : (Bool)) (h : laws_FnExactStoredSize K a0 = some o) : CallOK Try.prog 8 [.agg (cs_Recording a0)] [.one (.bool o)] := by
  refine callOK_of_AW Try.func8 rfl (by kernel_rfl) (Nat.le_of_ble_eq_true (by kernel_rfl)) ?_
  intro w0
  unfold laws_FnExactStoredSize at h
  refine AW.seq ?_
  refine AW.regionA [.box 1] [1] [1] (s' := ⟨[(1, (.v (.one (.ptr 1 0))))], [(1, (.box [(.c (.int .i64 a0.Bones)), (.c (sl 4 cs_Pose a0.Frames))]))]⟩) (ob := True ∧ True ∧ True) (by kernel_rfl) ⟨trivial, trivial, trivial⟩ ?_
  refine thenQ_normal ?_
  refine AW.seq ?_
  refine AW.regionA [] [1, 3] [1] (s' := ⟨[(1, (.v (.one (.ptr 1 0)))), (3, (.v (.one (.c (.int .i64 (1048576 : Int))))))], [(1, (.box [(.c (.int .i64 a0.Bones)), (.c (sl 4 cs_Pose a0.Frames))]))]⟩) (ob := True ∧ True) (by kernel_rfl) ⟨trivial, trivial⟩ ?_
  refine thenQ_normal ?_
  refine AW.seq ?_
  obtain ⟨v1, e2, h⟩ := bind_some h
  refine AW.regionA [.no, .no, .call [.agg (cs_Recording a0), .one (.int .i64 (1048576 : Int))] [.one (.int .i64 v1)] [[.view]]] [1, 3] [1] (s' := ⟨[(1, (.v (.one (.ptr 1 0)))), (3, (.v (.one (.c (.int .i64 v1)))))], [(1, (.box [(.c (.int .i64 a0.Bones)), (.c (sl 4 cs_Pose a0.Frames))]))]⟩) (ob := True ∧ True ∧ ((((((.int .i64 a0.Bones) : C) = (.int .i64 a0.Bones)) ∧ (((sl 4 cs_Pose a0.Frames) : C) = (sl 4 cs_Pose a0.Frames)) ∧ True) ∧ (((.int .i64 (1048576 : Int)) : C) = (.int .i64 (1048576 : Int))) ∧ True) ∧ CallOK Try.prog 21 [.agg (cs_Recording a0), .one (.int .i64 (1048576 : Int))] [.one (.int .i64 v1)]) ∧ True ∧ True) (by kernel_rfl) ⟨trivial, trivial, ⟨⟨⟨rfl, rfl, trivial⟩, rfl, trivial⟩, ok_laws_szRecording K a0 (1048576 : Int) v1 e2⟩, trivial, trivial⟩ ?_
  refine thenQ_normal ?_
  refine AW.seq ?_
  refine AW.seq ?_
  refine AW.regionA [] [1, 13] [1] (s' := ⟨[(1, (.v (.one (.ptr 1 0)))), (13, (.v (.one (.c (.bool (decide (v1 < (0 : Int))))))))], [(1, (.box [(.c (.int .i64 a0.Bones)), (.c (sl 4 cs_Pose a0.Frames))]))]⟩) (ob := True ∧ True ∧ True) (by kernel_rfl) ⟨trivial, trivial, trivial⟩ ?_
  refine thenQ_normal ?_
  rcases ite2_cases h with ⟨b3, h⟩ | ⟨b3, h⟩
  · refine AW.cond_t rfl b3 ?_
    refine AW.seq ?_
    refine AW.regionA [] [2] [] (s' := ⟨[(2, (.v (.one (.c (.bool true)))))], []⟩) (ob := True ∧ True) (by kernel_rfl) ⟨trivial, trivial⟩ ?_
    refine thenQ_normal ?_
    refine AW.ret ?_
    refine thenQ_ret ?_
    replace h := some_eq h
    subst h
    exact ⟨.inr rfl, retOK_of [(.one (.c (.bool true)))] (by kernel_rfl) ⟨⟨rfl, trivial⟩, trivial⟩ (of_decide_eq_true (by kernel_rfl))⟩
  · refine AW.cond_f rfl b3 ?_
    refine AW.skip ?_
    refine thenQ_normal ?_
    refine AW.seq ?_
    obtain ⟨v4, e5, h⟩ := bind_some h
    obtain ⟨v6, e7, h⟩ := bind_some h
    refine AW.regionA [.no, .call [.agg (cs_Recording a0)] [.agg (cs_Recording v4)] [[.view, .lst 2]], .call [.agg (cs_Recording v4)] [.one (.int .i64 v6.1), .one (.bool v6.2)] [[.view], [.view]]] [1, 4, 5] [1] (s' := ⟨[(1, (.v (.one (.ptr 1 0)))), (4, (.v (.one (.c (.int .i64 v6.1))))), (5, (.v (.one (.c (.bool v6.2)))))], [(1, (.box [(.c (.int .i64 a0.Bones)), (.c (sl 4 cs_Pose a0.Frames))]))]⟩) (ob := True ∧ ((((((.int .i64 a0.Bones) : C) = (.int .i64 a0.Bones)) ∧ (((sl 4 cs_Pose a0.Frames) : C) = (sl 4 cs_Pose a0.Frames)) ∧ True) ∧ True) ∧ CallOK Try.prog 23 [.agg (cs_Recording a0)] [.agg (cs_Recording v4)]) ∧ ((((((.int .i64 v4.Bones) : C) = (.int .i64 v4.Bones)) ∧ (((sl 4 cs_Pose v4.Frames) : C) = (sl 4 cs_Pose v4.Frames)) ∧ True) ∧ True) ∧ CallOK Try.prog 38 [.agg (cs_Recording v4)] [.one (.int .i64 v6.1), .one (.bool v6.2)]) ∧ True ∧ True ∧ True ∧ True ∧ True ∧ True) (by kernel_rfl) ⟨trivial, ⟨⟨⟨rfl, rfl, trivial⟩, trivial⟩, ok_laws_toRecording K a0 v4 e5⟩, ⟨⟨⟨rfl, rfl, trivial⟩, trivial⟩, ok_spec_StoredSize K v4 v6 e7⟩, trivial, trivial, trivial, trivial, trivial, trivial⟩ ?_
    refine thenQ_normal ?_
    refine AW.seq ?_
    obtain ⟨v8, e9, h⟩ := bind_some h
    refine AW.regionA [.no, .call [.agg (cs_Recording a0)] [.agg (cs_Recording v8)] [[.view, .lst 3]], .box 4] [1, 4, 5, 6] [1, 3, 4] (s' := ⟨[(1, (.v (.one (.ptr 1 0)))), (4, (.v (.one (.c (.int .i64 v6.1))))), (5, (.v (.one (.c (.bool v6.2))))), (6, (.v (.one (.ptr 4 0))))], [(1, (.box [(.c (.int .i64 a0.Bones)), (.c (sl 4 cs_Pose a0.Frames))])), (3, (.lst v8.Frames.length 4 (gl cs_Pose v8.Frames))), (4, (.box [(.c (.int .i64 v8.Bones)), (.lst 3 v8.Frames.length 4 (gl cs_Pose v8.Frames))]))]⟩) (ob := True ∧ ((((((.int .i64 a0.Bones) : C) = (.int .i64 a0.Bones)) ∧ (((sl 4 cs_Pose a0.Frames) : C) = (sl 4 cs_Pose a0.Frames)) ∧ True) ∧ True) ∧ CallOK Try.prog 23 [.agg (cs_Recording a0)] [.agg (cs_Recording v8)]) ∧ True ∧ True ∧ True) (by kernel_rfl) ⟨trivial, ⟨⟨⟨rfl, rfl, trivial⟩, trivial⟩, ok_laws_toRecording K a0 v8 e9⟩, trivial, trivial, trivial⟩ ?_
    refine thenQ_normal ?_
    refine AW.seq ?_
    obtain ⟨v10, e11, h⟩ := bind_some h
    refine AW.regionA [.no, .call [.agg (cs_Recording v8)] [.one (.int .i64 v10.1), .one (.bool v10.2)] [[.view], [.view]]] [1, 4, 5, 6, 7, 8] [1, 3, 4] (s' := ⟨[(1, (.v (.one (.ptr 1 0)))), (4, (.v (.one (.c (.int .i64 v6.1))))), (5, (.v (.one (.c (.bool v6.2))))), (6, (.v (.one (.ptr 4 0)))), (7, (.v (.one (.c (.int .i64 v10.1))))), (8, (.v (.one (.c (.bool v10.2)))))], [(1, (.box [(.c (.int .i64 a0.Bones)), (.c (sl 4 cs_Pose a0.Frames))])), (3, (.lst v8.Frames.length 4 (gl cs_Pose v8.Frames))), (4, (.box [(.c (.int .i64 v8.Bones)), (.lst 3 v8.Frames.length 4 (gl cs_Pose v8.Frames))]))]⟩) (ob := True ∧ ((((((.int .i64 v8.Bones) : C) = (.int .i64 v8.Bones)) ∧ (((sl 4 cs_Pose v8.Frames) : C) = (sl 4 cs_Pose v8.Frames)) ∧ True) ∧ True) ∧ CallOK Try.prog 39 [.agg (cs_Recording v8)] [.one (.int .i64 v10.1), .one (.bool v10.2)]) ∧ True ∧ True ∧ True ∧ True ∧ True ∧ True) (by kernel_rfl) ⟨trivial, ⟨⟨⟨rfl, rfl, trivial⟩, trivial⟩, ok_impl_StoredSize K v8 v10 e11⟩, trivial, trivial, trivial, trivial, trivial, trivial⟩ ?_
    refine thenQ_normal ?_
    refine AW.seq ?_
    refine AW.seq ?_
    obtain ⟨j13, e14, h⟩ := bind_some h
    refine AW.join1 (s2 := ⟨[(1, (.v (.one (.ptr 1 0)))), (6, (.v (.one (.ptr 4 0)))), (34, (.v (.one (.c (.bool j13)))))], [(1, (.box [(.c (.int .i64 a0.Bones)), (.c (sl 4 cs_Pose a0.Frames))])), (3, (.lst v8.Frames.length 4 (gl cs_Pose v8.Frames))), (4, (.box [(.c (.int .i64 v8.Bones)), (.lst 3 v8.Frames.length 4 (gl cs_Pose v8.Frames))]))]⟩) ?_ ?_
    · rcases ite2_cases e14 with ⟨b12, e14⟩ | ⟨b12, e14⟩
      · replace e14 := some_eq e14
        subst e14
        exact AW.regionA [.no, .no, .no, .dec true] [1, 6, 34] [1, 3, 4] (s' := ⟨[(1, (.v (.one (.ptr 1 0)))), (6, (.v (.one (.ptr 4 0)))), (34, (.v (.one (.c (.bool true)))))], [(1, (.box [(.c (.int .i64 a0.Bones)), (.c (sl 4 cs_Pose a0.Frames))])), (3, (.lst v8.Frames.length 4 (gl cs_Pose v8.Frames))), (4, (.box [(.c (.int .i64 v8.Bones)), (.lst 3 v8.Frames.length 4 (gl cs_Pose v8.Frames))]))]⟩) (ob := True ∧ True ∧ True ∧ (True ∧ (v10.1 != v6.1) = true) ∧ True ∧ True ∧ True ∧ True ∧ True) (by kernel_rfl) ⟨trivial, trivial, trivial, ⟨trivial, b12⟩, trivial, trivial, trivial, trivial, trivial⟩ ⟨rfl, rfl⟩
      · replace e14 := some_eq e14
        subst e14
        exact AW.regionA [.no, .no, .no, .dec false] [1, 6, 34] [1, 3, 4] (s' := ⟨[(1, (.v (.one (.ptr 1 0)))), (6, (.v (.one (.ptr 4 0)))), (34, (.v (.one (.c (.bool (!(v10.2 == v6.2)))))))], [(1, (.box [(.c (.int .i64 a0.Bones)), (.c (sl 4 cs_Pose a0.Frames))])), (3, (.lst v8.Frames.length 4 (gl cs_Pose v8.Frames))), (4, (.box [(.c (.int .i64 v8.Bones)), (.lst 3 v8.Frames.length 4 (gl cs_Pose v8.Frames))]))]⟩) (ob := True ∧ True ∧ True ∧ (True ∧ (v10.1 != v6.1) = false) ∧ True ∧ True ∧ True ∧ True ∧ True) (by kernel_rfl) ⟨trivial, trivial, trivial, ⟨trivial, b12⟩, trivial, trivial, trivial, trivial, trivial⟩ ⟨rfl, rfl⟩
    refine thenQ_normal ?_
    rcases ite2_cases h with ⟨b15, h⟩ | ⟨b15, h⟩
    · refine AW.cond_t rfl b15 ?_
      refine AW.seq ?_
      refine AW.regionA [] [2] [] (s' := ⟨[(2, (.v (.one (.c (.bool false)))))], []⟩) (ob := True ∧ True) (by kernel_rfl) ⟨trivial, trivial⟩ ?_
      refine thenQ_normal ?_
      refine AW.ret ?_
      refine thenQ_ret ?_
      replace h := some_eq h
      subst h
      exact ⟨.inr rfl, retOK_of [(.one (.c (.bool false)))] (by kernel_rfl) ⟨⟨rfl, trivial⟩, trivial⟩ (of_decide_eq_true (by kernel_rfl))⟩
    · refine AW.cond_f rfl b15 ?_
      refine AW.skip ?_
      refine thenQ_normal ?_
      refine AW.seq ?_
      refine AW.seq ?_
      obtain ⟨v16, e17, h⟩ := bind_some h
      obtain ⟨v18, e19, h⟩ := bind_some h
      refine AW.drawnA (by kernel_rfl) 5 [.no, .no, .call [.agg (cs_Recording a0)] [.agg (cs_Recording v16)] [[.view, .lst 5]], .call [.agg (cs_Recording v8), .agg (cs_Recording v16)] [.one (.bool v18)] [[.view]]] [39] [] (s' := ⟨[(39, (.v (.one (.c (.bool (!v18))))))], []⟩) (ob := (True ∧ True ∧ ((((((.int .i64 a0.Bones) : C) = (.int .i64 a0.Bones)) ∧ (((sl 4 cs_Pose a0.Frames) : C) = (sl 4 cs_Pose a0.Frames)) ∧ True) ∧ True) ∧ CallOK Try.prog 23 [.agg (cs_Recording a0)] [.agg (cs_Recording v16)]) ∧ ((((((.int .i64 v8.Bones) : C) = (.int .i64 v8.Bones)) ∧ (((sl 4 cs_Pose v8.Frames) : C) = (sl 4 cs_Pose v8.Frames)) ∧ True) ∧ ((((.int .i64 v16.Bones) : C) = (.int .i64 v16.Bones)) ∧ (((sl 4 cs_Pose v16.Frames) : C) = (sl 4 cs_Pose v16.Frames)) ∧ True) ∧ True) ∧ CallOK Try.prog 25 [.agg (cs_Recording v8), .agg (cs_Recording v16)] [.one (.bool v18)]) ∧ True ∧ True) ∧ (True)) (by kernel_rfl) ⟨⟨trivial, trivial, ⟨⟨⟨rfl, rfl, trivial⟩, trivial⟩, ok_laws_toRecording K a0 v16 e17⟩, ⟨⟨⟨rfl, rfl, trivial⟩, ⟨rfl, rfl, trivial⟩, trivial⟩, ok_laws_eqRecording K v8 v16 v18 e19⟩, trivial, trivial⟩, trivial⟩ ?_
      refine thenQ_normal ?_
      rcases ite2_cases h with ⟨b20, h⟩ | ⟨b20, h⟩
      · refine AW.cond_t rfl b20 ?_
        refine AW.seq ?_
        refine AW.regionA [] [2] [] (s' := ⟨[(2, (.v (.one (.c (.bool false)))))], []⟩) (ob := True ∧ True) (by kernel_rfl) ⟨trivial, trivial⟩ ?_
        refine thenQ_normal ?_
        refine AW.ret ?_
        refine thenQ_ret ?_
        replace h := some_eq h
        subst h
        exact ⟨.inr rfl, retOK_of [(.one (.c (.bool false)))] (by kernel_rfl) ⟨⟨rfl, trivial⟩, trivial⟩ (of_decide_eq_true (by kernel_rfl))⟩
      · refine AW.cond_f rfl b20 ?_
        refine AW.skip ?_
        refine thenQ_normal ?_
        refine AW.seq ?_
        refine AW.regionA [] [2] [] (s' := ⟨[(2, (.v (.one (.c (.bool true)))))], []⟩) (ob := True ∧ True) (by kernel_rfl) ⟨trivial, trivial⟩ ?_
        refine thenQ_normal ?_
        refine AW.ret ?_
        replace h := some_eq h
        subst h
        exact ⟨.inr rfl, retOK_of [(.one (.c (.bool true)))] (by kernel_rfl) ⟨⟨rfl, trivial⟩, trivial⟩ (of_decide_eq_true (by kernel_rfl))⟩

end
end Go.Fw
