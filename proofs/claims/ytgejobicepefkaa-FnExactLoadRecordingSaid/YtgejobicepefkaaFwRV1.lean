/- Functions of the program: what each computes, and that it computes just that. -/
import Derived.Test.YtgejobicepefkaaFwTy
import Derived.Test.YtgejobicepefkaaFwH
import Derived.Test.YtgejobicepefkaaFwV
import Derived.Test.YtgejobicepefkaaProg
import Derived.KernelRfl
namespace Go.Fw
open Go Go.Proofs
noncomputable section
set_option maxRecDepth 10000

/-! spec.l00In -/
def spec_l00In (_K : Nat) (a0 : Int) (a1 : Int) (a2 : Int) : Option (Bool) :=
  (ite2 ((decide (a0 ≥ a1))) (some (decide (a0 ≤ a2))) (some false)).bind fun j2 => some j2

theorem ok_spec_l00In (K : Nat) (a0 : Int) (a1 : Int) (a2 : Int) (o : (Bool)) (h : spec_l00In K a0 a1 a2 = some o) : CallOK Try.prog 64 [.one (.int .i64 a0), .one (.int .i64 a1), .one (.int .i64 a2)] [.one (.bool o)] := by
  refine callOK_of_AW Try.func64 rfl (by kernel_rfl) (Nat.le_of_ble_eq_true (by kernel_rfl)) ?_
  intro w0
  unfold spec_l00In at h
  refine AW.seq ?_
  refine AW.regionA [] [0, 1, 2] [] (s' := ⟨[(0, (.v (.one (.c (.int .i64 a0))))), (1, (.v (.one (.c (.int .i64 a1))))), (2, (.v (.one (.c (.int .i64 a2)))))], []⟩) (ob := True ∧ True) (by kernel_rfl) ⟨trivial, trivial⟩ ?_
  refine thenQ_normal ?_
  refine AW.seq ?_
  obtain ⟨j2, e3, h⟩ := bind_some h
  refine AW.join1 (s2 := ⟨[(6, (.v (.one (.c (.bool j2)))))], []⟩) ?_ ?_
  · rcases ite2_cases e3 with ⟨b1, e3⟩ | ⟨b1, e3⟩
    · replace e3 := some_eq e3
      subst e3
      exact AW.regionA [.no, .no, .no, .dec true] [6] [] (s' := ⟨[(6, (.v (.one (.c (.bool (decide (a0 ≤ a2)))))))], []⟩) (ob := True ∧ True ∧ True ∧ (True ∧ (decide (a0 ≥ a1)) = true) ∧ True ∧ True ∧ True ∧ True ∧ True ∧ True) (by kernel_rfl) ⟨trivial, trivial, trivial, ⟨trivial, b1⟩, trivial, trivial, trivial, trivial, trivial, trivial⟩ ⟨rfl, rfl⟩
    · replace e3 := some_eq e3
      subst e3
      exact AW.regionA [.no, .no, .no, .dec false] [6] [] (s' := ⟨[(6, (.v (.one (.c (.bool false)))))], []⟩) (ob := True ∧ True ∧ True ∧ (True ∧ (decide (a0 ≥ a1)) = false) ∧ True ∧ True ∧ True ∧ True ∧ True ∧ True) (by kernel_rfl) ⟨trivial, trivial, trivial, ⟨trivial, b1⟩, trivial, trivial, trivial, trivial, trivial, trivial⟩ ⟨rfl, rfl⟩
  refine thenQ_normal ?_
  refine AW.ret ?_
  replace h := some_eq h
  subst h
  exact ⟨.inr rfl, retOK_of [(.one (.c (.bool j2)))] (by kernel_rfl) ⟨⟨rfl, trivial⟩, trivial⟩ (of_decide_eq_true (by kernel_rfl))⟩

/-! spec.l06Count -/
def spec_l06Count (K : Nat) (a0 : Int) : Option (Bool) :=
  (spec_l00In K a0 (1 : Int) (12 : Int)).bind fun v1 => some v1

theorem ok_spec_l06Count (K : Nat) (a0 : Int) (o : (Bool)) (h : spec_l06Count K a0 = some o) : CallOK Try.prog 122 [.one (.int .i64 a0)] [.one (.bool o)] := by
  refine callOK_of_AW Try.func122 rfl (by kernel_rfl) (Nat.le_of_ble_eq_true (by kernel_rfl)) ?_
  intro w0
  unfold spec_l06Count at h
  refine AW.seq ?_
  refine AW.regionA [] [0] [] (s' := ⟨[(0, (.v (.one (.c (.int .i64 a0)))))], []⟩) (ob := True ∧ True) (by kernel_rfl) ⟨trivial, trivial⟩ ?_
  refine thenQ_normal ?_
  refine AW.seq ?_
  obtain ⟨v1, e2, h⟩ := bind_some h
  refine AW.regionA [.no, .call [.one (.int .i64 a0), .one (.int .i64 (1 : Int)), .one (.int .i64 (12 : Int))] [.one (.bool v1)] [[.view]]] [2] [] (s' := ⟨[(2, (.v (.one (.c (.bool v1)))))], []⟩) (ob := True ∧ (((((.int .i64 a0) : C) = (.int .i64 a0)) ∧ (((.int .i64 (1 : Int)) : C) = (.int .i64 (1 : Int))) ∧ (((.int .i64 (12 : Int)) : C) = (.int .i64 (12 : Int))) ∧ True) ∧ CallOK Try.prog 64 [.one (.int .i64 a0), .one (.int .i64 (1 : Int)), .one (.int .i64 (12 : Int))] [.one (.bool v1)]) ∧ True ∧ True) (by kernel_rfl) ⟨trivial, ⟨⟨rfl, rfl, rfl, trivial⟩, ok_spec_l00In K a0 (1 : Int) (12 : Int) v1 e2⟩, trivial, trivial⟩ ?_
  refine thenQ_normal ?_
  refine AW.ret ?_
  replace h := some_eq h
  subst h
  exact ⟨.inr rfl, retOK_of [(.one (.c (.bool v1)))] (by kernel_rfl) ⟨⟨rfl, trivial⟩, trivial⟩ (of_decide_eq_true (by kernel_rfl))⟩

/-! math.Float32frombits -/
def math_Float32frombits (_K : Nat) (a0 : Int) : Option (F32) :=
  Fl.ofBits .f32 a0

theorem ok_math_Float32frombits (K : Nat) (a0 : Int) (o : F32) (h : math_Float32frombits K a0 = some o) : CallOK Try.prog 135 [.one (.int .u32 a0)] [.one (.flt .f32 o.bits)] :=
  hand_ofBits (e := Extern.MathFloatBits.float32frombits) Try.func135 (by kernel_rfl) (by kernel_rfl) (by kernel_rfl) (by kernel_rfl) (fun _ _ => rfl) a0 o h

/-! spec.l01From -/
def spec_l01From (K : Nat) (a0 : Int) : Option (F32) :=
  (math_Float32frombits K (IntKind.u32.wrap a0)).bind fun v1 => some v1

theorem ok_spec_l01From (K : Nat) (a0 : Int) (o : (F32)) (h : spec_l01From K a0 = some o) : CallOK Try.prog 132 [.one (.int .i64 a0)] [.one (.flt .f32 o.bits)] := by
  refine callOK_of_AW Try.func132 rfl (by kernel_rfl) (Nat.le_of_ble_eq_true (by kernel_rfl)) ?_
  intro w0
  unfold spec_l01From at h
  refine AW.seq ?_
  refine AW.regionA [] [0] [] (s' := ⟨[(0, (.v (.one (.c (.int .i64 a0)))))], []⟩) (ob := True ∧ True) (by kernel_rfl) ⟨trivial, trivial⟩ ?_
  refine thenQ_normal ?_
  refine AW.seq ?_
  obtain ⟨v1, e2, h⟩ := bind_some h
  refine AW.regionA [.no, .no, .call [.one (.int .u32 (IntKind.u32.wrap a0))] [.one (.flt .f32 v1.bits)] [[.view]]] [2] [] (s' := ⟨[(2, (.v (.one (.c (.flt .f32 v1.bits)))))], []⟩) (ob := True ∧ True ∧ (((((.int .u32 (IntKind.u32.wrap a0)) : C) = (.int .u32 (IntKind.u32.wrap a0))) ∧ True) ∧ CallOK Try.prog 135 [.one (.int .u32 (IntKind.u32.wrap a0))] [.one (.flt .f32 v1.bits)]) ∧ True ∧ True) (by kernel_rfl) ⟨trivial, trivial, ⟨⟨rfl, trivial⟩, ok_math_Float32frombits K (IntKind.u32.wrap a0) v1 e2⟩, trivial, trivial⟩ ?_
  refine thenQ_normal ?_
  refine AW.ret ?_
  replace h := some_eq h
  subst h
  exact ⟨.inr rfl, retOK_of [(.one (.c (.flt .f32 v1.bits)))] (by kernel_rfl) ⟨⟨rfl, trivial⟩, trivial⟩ (of_decide_eq_true (by kernel_rfl))⟩

/-! math.Float32bits -/
def math_Float32bits (_K : Nat) (a0 : F32) : Option (Int) :=
  a0.toBits

theorem ok_math_Float32bits (K : Nat) (a0 : F32) (o : Int) (h : math_Float32bits K a0 = some o) : CallOK Try.prog 158 [.one (.flt .f32 a0.bits)] [.one (.int .u32 o)] :=
  hand_toBits (e := Extern.MathFloatBits.float32bits) Try.func158 (by kernel_rfl) (by kernel_rfl) (by kernel_rfl) (by kernel_rfl) (fun _ _ => rfl) a0 o h

/-! spec.l01Bits -/
def spec_l01Bits (K : Nat) (a0 : F32) : Option (Int) :=
  ite2 ((a0.ne a0)) (some (2143289344 : Int)) ((math_Float32bits K a0).bind fun v2 => some (IntKind.i64.wrap v2))

theorem ok_spec_l01Bits (K : Nat) (a0 : F32) (o : (Int)) (h : spec_l01Bits K a0 = some o) : CallOK Try.prog 156 [.one (.flt .f32 a0.bits)] [.one (.int .i64 o)] := by
  refine callOK_of_AW Try.func156 rfl (by kernel_rfl) (Nat.le_of_ble_eq_true (by kernel_rfl)) ?_
  intro w0
  unfold spec_l01Bits at h
  refine AW.seq ?_
  refine AW.regionA [] [0] [] (s' := ⟨[(0, (.v (.one (.c (.flt .f32 a0.bits)))))], []⟩) (ob := True ∧ True) (by kernel_rfl) ⟨trivial, trivial⟩ ?_
  refine thenQ_normal ?_
  refine AW.seq ?_
  refine AW.seq ?_
  refine AW.regionA [] [0, 5] [] (s' := ⟨[(0, (.v (.one (.c (.flt .f32 a0.bits))))), (5, (.v (.one (.c (.bool (a0.ne a0))))))], []⟩) (ob := True ∧ True ∧ True ∧ True) (by kernel_rfl) ⟨trivial, trivial, trivial, trivial⟩ ?_
  refine thenQ_normal ?_
  rcases ite2_cases h with ⟨b1, h⟩ | ⟨b1, h⟩
  · refine AW.cond_t rfl b1 ?_
    refine AW.seq ?_
    refine AW.regionA [] [2] [] (s' := ⟨[(2, (.v (.one (.c (.int .i64 (2143289344 : Int))))))], []⟩) (ob := True ∧ True) (by kernel_rfl) ⟨trivial, trivial⟩ ?_
    refine thenQ_normal ?_
    refine AW.ret ?_
    refine thenQ_ret ?_
    replace h := some_eq h
    subst h
    exact ⟨.inr rfl, retOK_of [(.one (.c (.int .i64 (2143289344 : Int))))] (by kernel_rfl) ⟨⟨rfl, trivial⟩, trivial⟩ (of_decide_eq_true (by kernel_rfl))⟩
  · refine AW.cond_f rfl b1 ?_
    refine AW.skip ?_
    refine thenQ_normal ?_
    refine AW.seq ?_
    obtain ⟨v2, e3, h⟩ := bind_some h
    refine AW.regionA [.no, .call [.one (.flt .f32 a0.bits)] [.one (.int .u32 v2)] [[.view]]] [2] [] (s' := ⟨[(2, (.v (.one (.c (.int .i64 (IntKind.i64.wrap v2))))))], []⟩) (ob := True ∧ (((((.flt .f32 a0.bits) : C) = (.flt .f32 a0.bits)) ∧ True) ∧ CallOK Try.prog 158 [.one (.flt .f32 a0.bits)] [.one (.int .u32 v2)]) ∧ True ∧ True ∧ True) (by kernel_rfl) ⟨trivial, ⟨⟨rfl, trivial⟩, ok_math_Float32bits K a0 v2 e3⟩, trivial, trivial, trivial⟩ ?_
    refine thenQ_normal ?_
    refine AW.ret ?_
    replace h := some_eq h
    subst h
    exact ⟨.inr rfl, retOK_of [(.one (.c (.int .i64 (IntKind.i64.wrap v2))))] (by kernel_rfl) ⟨⟨rfl, trivial⟩, trivial⟩ (of_decide_eq_true (by kernel_rfl))⟩

/-! spec.l01Same -/
def spec_l01Same (K : Nat) (a0 : F32) (a1 : F32) : Option (Bool) :=
  (spec_l01Bits K a0).bind fun v1 => (spec_l01Bits K a1).bind fun v3 => some (v1 == v3)

theorem ok_spec_l01Same (K : Nat) (a0 : F32) (a1 : F32) (o : (Bool)) (h : spec_l01Same K a0 a1 = some o) : CallOK Try.prog 173 [.one (.flt .f32 a0.bits), .one (.flt .f32 a1.bits)] [.one (.bool o)] := by
  refine callOK_of_AW Try.func173 rfl (by kernel_rfl) (Nat.le_of_ble_eq_true (by kernel_rfl)) ?_
  intro w0
  unfold spec_l01Same at h
  refine AW.seq ?_
  refine AW.regionA [] [0, 1] [] (s' := ⟨[(0, (.v (.one (.c (.flt .f32 a0.bits))))), (1, (.v (.one (.c (.flt .f32 a1.bits)))))], []⟩) (ob := True ∧ True) (by kernel_rfl) ⟨trivial, trivial⟩ ?_
  refine thenQ_normal ?_
  refine AW.seq ?_
  obtain ⟨v1, e2, h⟩ := bind_some h
  obtain ⟨v3, e4, h⟩ := bind_some h
  refine AW.regionA [.no, .call [.one (.flt .f32 a0.bits)] [.one (.int .i64 v1)] [[.view]], .no, .call [.one (.flt .f32 a1.bits)] [.one (.int .i64 v3)] [[.view]]] [4] [] (s' := ⟨[(4, (.v (.one (.c (.bool (v1 == v3))))))], []⟩) (ob := True ∧ (((((.flt .f32 a0.bits) : C) = (.flt .f32 a0.bits)) ∧ True) ∧ CallOK Try.prog 156 [.one (.flt .f32 a0.bits)] [.one (.int .i64 v1)]) ∧ True ∧ (((((.flt .f32 a1.bits) : C) = (.flt .f32 a1.bits)) ∧ True) ∧ CallOK Try.prog 156 [.one (.flt .f32 a1.bits)] [.one (.int .i64 v3)]) ∧ True ∧ True ∧ True) (by kernel_rfl) ⟨trivial, ⟨⟨rfl, trivial⟩, ok_spec_l01Bits K a0 v1 e2⟩, trivial, ⟨⟨rfl, trivial⟩, ok_spec_l01Bits K a1 v3 e4⟩, trivial, trivial, trivial⟩ ?_
  refine thenQ_normal ?_
  refine AW.ret ?_
  replace h := some_eq h
  subst h
  exact ⟨.inr rfl, retOK_of [(.one (.c (.bool (v1 == v3))))] (by kernel_rfl) ⟨⟨rfl, trivial⟩, trivial⟩ (of_decide_eq_true (by kernel_rfl))⟩

/-! spec.l10Changed -/
def spec_l10Changed_l1 (K : Nat) (a0 : (List F32)) (a1 : (List F32)) : Nat → Int → (List Int) → Option ((List Int))
  | 0, _, _ => none
  | k + 1, x3, x4 => ite2 ((decide (x3 < (a0.length : Int)))) (chk (0 ≤ x3 ∧ x3 < (a0.length : Int)) (chk (0 ≤ x3 ∧ x3 < (a1.length : Int)) ((spec_l01Same K (a0.getD x3.toNat default) (a1.getD x3.toNat default)).bind fun v8 => ite2 ((!v8)) (chk ((x4.length + ([x3]).length) * 8 ≤ 140737488355328) (spec_l10Changed_l1 K a0 a1 k (IntKind.i64.wrap (x3 + (1 : Int))) (x4 ++ ([x3])))) (spec_l10Changed_l1 K a0 a1 k (IntKind.i64.wrap (x3 + (1 : Int))) x4)))) (some x4)

def spec_l10Changed (K : Nat) (a0 : (List F32)) (a1 : (List F32)) : Option ((List Int)) :=
  spec_l10Changed_l1 K a0 a1 K (0 : Int) ([] : List Int)

theorem ok_spec_l10Changed (K : Nat) (a0 : (List F32)) (a1 : (List F32)) (o : ((List Int))) (h : spec_l10Changed K a0 a1 = some o) : CallOK Try.prog 155 [.one (sl 1 (csF .f32) a0), .one (sl 1 (csF .f32) a1)] [.one (sl 1 (csI .i64) o)] := by
  refine callOK_of_AW Try.func155 rfl (by kernel_rfl) (Nat.le_of_ble_eq_true (by kernel_rfl)) ?_
  intro w0
  unfold spec_l10Changed at h
  refine AW.seq ?_
  refine AW.regionA [] [0, 1] [] (s' := ⟨[(0, (.v (.one (.c (sl 1 (csF .f32) a0))))), (1, (.v (.one (.c (sl 1 (csF .f32) a1)))))], []⟩) (ob := True ∧ True) (by kernel_rfl) ⟨trivial, trivial⟩ ?_
  refine thenQ_normal ?_
  refine AW.seq ?_
  refine AW.regionA [.obj 1 ([] : List Int).length (gl (csI .i64) ([] : List Int))] [0, 1, 5] [1] (s' := ⟨[(0, (.v (.one (.c (sl 1 (csF .f32) a0))))), (1, (.v (.one (.c (sl 1 (csF .f32) a1))))), (5, (.v (.one (.lst 1 ([] : List Int).length 1 (gl (csI .i64) ([] : List Int))))))], [(1, (.lst ([] : List Int).length 1 (gl (csI .i64) ([] : List Int))))]⟩) (ob := (([] : List Int).length = 0 ∧ True) ∧ True ∧ True) (by kernel_rfl) ⟨⟨rfl, trivial⟩, trivial, trivial⟩ ?_
  refine thenQ_normal ?_
  refine AW.seq ?_
  refine AW.seq ?_
  refine AW.regionA [] [0, 1, 5, 6] [1] (s' := ⟨[(0, (.v (.one (.c (sl 1 (csF .f32) a0))))), (1, (.v (.one (.c (sl 1 (csF .f32) a1))))), (5, (.v (.one (.lst 1 ([] : List Int).length 1 (gl (csI .i64) ([] : List Int)))))), (6, (.v (.one (.c (.int .i64 (0 : Int))))))], [(1, (.lst ([] : List Int).length 1 (gl (csI .i64) ([] : List Int))))]⟩) (ob := True ∧ True) (by kernel_rfl) ⟨trivial, trivial⟩ ?_
  refine thenQ_normal ?_
  refine AW.block ?_
  refine AW.loopQ (σ := Nat × Int × (List Int)) (fun p => ⟨[(0, (.v (.one (.c (sl 1 (csF .f32) a0))))), (1, (.v (.one (.c (sl 1 (csF .f32) a1))))), (5, (.v (.one (.lst 1 p.2.2.length 1 (gl (csI .i64) p.2.2))))), (6, (.v (.one (.c (.int .i64 p.2.1)))))], [(1, (.lst p.2.2.length 1 (gl (csI .i64) p.2.2)))]⟩) (fun p => spec_l10Changed_l1 K a0 a1 p.1 p.2.1 p.2.2 = some o) (fun p => p.1) (K, (0 : Int), ([] : List Int)) h ?_
  clear h
  rintro ⟨k, x3, x4⟩ h
  replace h : spec_l10Changed_l1 K a0 a1 k x3 x4 = some o := h
  show AW _ _ (⟨[(0, (.v (.one (.c (sl 1 (csF .f32) a0))))), (1, (.v (.one (.c (sl 1 (csF .f32) a1))))), (5, (.v (.one (.lst 1 x4.length 1 (gl (csI .i64) x4))))), (6, (.v (.one (.c (.int .i64 x3)))))], [(1, (.lst x4.length 1 (gl (csI .i64) x4)))]⟩ : St) _
  obtain _ | k := k
  · rw [spec_l10Changed_l1] at h; cases h
  rw [spec_l10Changed_l1] at h
  refine AW.seq ?_
  refine AW.seq ?_
  refine AW.regionA [] [0, 1, 5, 6, 11] [1] (s' := ⟨[(0, (.v (.one (.c (sl 1 (csF .f32) a0))))), (1, (.v (.one (.c (sl 1 (csF .f32) a1))))), (5, (.v (.one (.lst 1 x4.length 1 (gl (csI .i64) x4))))), (6, (.v (.one (.c (.int .i64 x3))))), (11, (.v (.one (.c (.bool (decide (x3 < (a0.length : Int))))))))], [(1, (.lst x4.length 1 (gl (csI .i64) x4)))]⟩) (ob := True ∧ True ∧ True ∧ True ∧ True) (by kernel_rfl) ⟨trivial, trivial, trivial, trivial, trivial⟩ ?_
  refine thenQ_normal ?_
  rcases ite2_cases h with ⟨b5, h⟩ | ⟨b5, h⟩
  · refine AW.cond_t rfl b5 ?_
    refine AW.skip ?_
    refine thenQ_normal ?_
    refine AW.seq ?_
    refine AW.block ?_
    refine AW.seq ?_
    obtain ⟨c6, h⟩ := chk_some h
    obtain ⟨c7, h⟩ := chk_some h
    obtain ⟨v8, e9, h⟩ := bind_some h
    refine AW.drawnA (by kernel_rfl) 10 [.no, .no, .no, .no, .no, .no, .no, .no, .call [.one (.flt .f32 (a0.getD x3.toNat default).bits), .one (.flt .f32 (a1.getD x3.toNat default).bits)] [.one (.bool v8)] [[.view]]] [0, 1, 5, 6, 23] [1] (s' := ⟨[(0, (.v (.one (.c (sl 1 (csF .f32) a0))))), (1, (.v (.one (.c (sl 1 (csF .f32) a1))))), (5, (.v (.one (.lst 1 x4.length 1 (gl (csI .i64) x4))))), (6, (.v (.one (.c (.int .i64 x3))))), (23, (.v (.one (.c (.bool (!v8))))))], [(1, (.lst x4.length 1 (gl (csI .i64) x4)))]⟩) (ob := (True ∧ True ∧ (0 ≤ x3 ∧ x3 < (a0.length : Int)) ∧ True ∧ True ∧ True ∧ (0 ≤ x3 ∧ x3 < (a1.length : Int)) ∧ True ∧ (((((.flt .f32 (a0.getD x3.toNat default).bits) : C) = (.flt .f32 (a0.getD x3.toNat default).bits)) ∧ (((.flt .f32 (a1.getD x3.toNat default).bits) : C) = (.flt .f32 (a1.getD x3.toNat default).bits)) ∧ True) ∧ CallOK Try.prog 173 [.one (.flt .f32 (a0.getD x3.toNat default).bits), .one (.flt .f32 (a1.getD x3.toNat default).bits)] [.one (.bool v8)]) ∧ True ∧ True) ∧ (True)) (by kernel_rfl) ⟨⟨trivial, trivial, c6, trivial, trivial, trivial, c7, trivial, ⟨⟨rfl, rfl, trivial⟩, ok_spec_l01Same K (a0.getD x3.toNat default) (a1.getD x3.toNat default) v8 e9⟩, trivial, trivial⟩, trivial⟩ ?_
    refine thenQ_normal ?_
    rcases ite2_cases h with ⟨b10, h⟩ | ⟨b10, h⟩
    · refine AW.cond_t rfl b10 ?_
      obtain ⟨c11, h⟩ := chk_some h
      refine AW.regionA [.no, .no, .obj 6 ([x3]).length (gl (csI .i64) ([x3])), .objK 7 (x4 ++ ([x3])).length (gl (csI .i64) (x4 ++ ([x3])))] [0, 1, 5, 6] [7] (s' := ⟨[(0, (.v (.one (.c (sl 1 (csF .f32) a0))))), (1, (.v (.one (.c (sl 1 (csF .f32) a1))))), (5, (.v (.one (.lst 7 (x4 ++ ([x3])).length 1 (gl (csI .i64) (x4 ++ ([x3]))))))), (6, (.v (.one (.c (.int .i64 x3)))))], [(7, (.lst (x4 ++ ([x3])).length 1 (gl (csI .i64) (x4 ++ ([x3])))))]⟩) (ob := True ∧ True ∧ (([x3]).length = 1 ∧ (((.int .i64 x3) : C) = (.int .i64 x3) ∧ True) ∧ True) ∧ ((x4 ++ ([x3])).length = x4.length + ([x3]).length ∧ AppOb (x4.length) (([x3]).length) 1 (gl (csI .i64) x4) (gl (csI .i64) ([x3])) (gl (csI .i64) (x4 ++ ([x3]))) ∧ (∀ i j, i < ([x3]).length → j < 1 → scalarC (gl (csI .i64) ([x3]) i j)) ∧ (x4.length + ([x3]).length) * 8 ≤ 140737488355328) ∧ True ∧ True) (by kernel_rfl) ⟨trivial, trivial, ⟨rfl, ⟨⟨rfl, trivial⟩, trivial⟩⟩, ⟨List.length_append, gl_append, gl_scalar scI _, c11⟩, trivial, trivial⟩ ?_
      refine blockQ_normal ?_
      refine thenQ_normal ?_
      refine AW.regionA [] [0, 1, 5, 6] [7] (s' := ⟨[(0, (.v (.one (.c (sl 1 (csF .f32) a0))))), (1, (.v (.one (.c (sl 1 (csF .f32) a1))))), (5, (.v (.one (.lst 7 (x4 ++ ([x3])).length 1 (gl (csI .i64) (x4 ++ ([x3]))))))), (6, (.v (.one (.c (.int .i64 (IntKind.i64.wrap (x3 + (1 : Int))))))))], [(7, (.lst (x4 ++ ([x3])).length 1 (gl (csI .i64) (x4 ++ ([x3])))))]⟩) (ob := True ∧ True ∧ True ∧ True) (by kernel_rfl) ⟨trivial, trivial, trivial, trivial⟩ ?_
      exact loopQ_normal (k, (IntKind.i64.wrap (x3 + (1 : Int))), (x4 ++ ([x3]))) h (Nat.lt_succ_self k) (Sub.trans (Sub.swap 1 7 _ (by kernel_rfl) (by kernel_rfl)) (Sub.keep [0, 1, 5, 6] [1] (by kernel_rfl) (by kernel_rfl)))
    · refine AW.cond_f rfl b10 ?_
      refine AW.skip ?_
      refine blockQ_normal ?_
      refine thenQ_normal ?_
      refine AW.regionA [] [0, 1, 5, 6] [1] (s' := ⟨[(0, (.v (.one (.c (sl 1 (csF .f32) a0))))), (1, (.v (.one (.c (sl 1 (csF .f32) a1))))), (5, (.v (.one (.lst 1 x4.length 1 (gl (csI .i64) x4))))), (6, (.v (.one (.c (.int .i64 (IntKind.i64.wrap (x3 + (1 : Int))))))))], [(1, (.lst x4.length 1 (gl (csI .i64) x4)))]⟩) (ob := True ∧ True ∧ True ∧ True) (by kernel_rfl) ⟨trivial, trivial, trivial, trivial⟩ ?_
      exact loopQ_normal (k, (IntKind.i64.wrap (x3 + (1 : Int))), x4) h (Nat.lt_succ_self k) (Sub.keep [0, 1, 5, 6] [1] (by kernel_rfl) (by kernel_rfl))
  · refine AW.cond_f rfl b5 ?_
    refine AW.exit ?_
    refine thenQ_exit ?_
    refine loopQ_exit ?_
    refine blockQ_exit ?_
    refine thenQ_normal ?_
    refine AW.seq ?_
    refine AW.regionA [] [4] [1] (s' := ⟨[(4, (.v (.one (.lst 1 x4.length 1 (gl (csI .i64) x4)))))], [(1, (.lst x4.length 1 (gl (csI .i64) x4)))]⟩) (ob := True ∧ True ∧ True) (by kernel_rfl) ⟨trivial, trivial, trivial⟩ ?_
    refine thenQ_normal ?_
    refine AW.ret ?_
    replace h := some_eq h
    subst h
    exact ⟨.inr rfl, retOK_of [(.one (.lst 1 x4.length 1 (gl (csI .i64) x4)))] (by kernel_rfl) ⟨rfl, trivial⟩ (of_decide_eq_true (by kernel_rfl))⟩

/-! spec.l10Word -/
def spec_l10Word_l1 (K : Nat) (a0 : Int) (a1 : Int) : Nat → Int → (List Int) → Option (ByteArray)
  | 0, _, _ => none
  | k + 1, x3, x4 => ite2 ((decide (x3 < a1))) (chk (0 ≤ (IntKind.u64.wrap (IntKind.i64.wrap ((8 : Int) * x3)))) (chk ((x4.length + ([(IntKind.u8.wrap (bits .and .i64 (a0.fdiv (2 ^ (min (IntKind.u64.wrap (IntKind.i64.wrap ((8 : Int) * x3))).toNat (IntKind.bits .i64)))) (255 : Int)))]).length) * 1 ≤ 140737488355328) (spec_l10Word_l1 K a0 a1 k (IntKind.i64.wrap (x3 + (1 : Int))) (x4 ++ ([(IntKind.u8.wrap (bits .and .i64 (a0.fdiv (2 ^ (min (IntKind.u64.wrap (IntKind.i64.wrap ((8 : Int) * x3))).toNat (IntKind.bits .i64)))) (255 : Int)))]))))) (chk (∀ x ∈ x4, 0 ≤ x ∧ x < 256) (some (strOf x4)))

def spec_l10Word (K : Nat) (a0 : Int) (a1 : Int) : Option (ByteArray) :=
  spec_l10Word_l1 K a0 a1 K (0 : Int) ([] : List Int)

theorem ok_spec_l10Word (K : Nat) (a0 : Int) (a1 : Int) (o : (ByteArray)) (h : spec_l10Word K a0 a1 = some o) : CallOK Try.prog 153 [.one (.int .i64 a0), .one (.int .i64 a1)] [.one (.str o)] := by
  refine callOK_of_AW Try.func153 rfl (by kernel_rfl) (Nat.le_of_ble_eq_true (by kernel_rfl)) ?_
  intro w0
  unfold spec_l10Word at h
  refine AW.seq ?_
  refine AW.regionA [] [0, 1] [] (s' := ⟨[(0, (.v (.one (.c (.int .i64 a0))))), (1, (.v (.one (.c (.int .i64 a1)))))], []⟩) (ob := True ∧ True) (by kernel_rfl) ⟨trivial, trivial⟩ ?_
  refine thenQ_normal ?_
  refine AW.seq ?_
  refine AW.regionA [.obj 1 ([] : List Int).length (gl (csI .u8) ([] : List Int))] [0, 1, 5] [1] (s' := ⟨[(0, (.v (.one (.c (.int .i64 a0))))), (1, (.v (.one (.c (.int .i64 a1))))), (5, (.v (.one (.lst 1 ([] : List Int).length 1 (gl (csI .u8) ([] : List Int))))))], [(1, (.lst ([] : List Int).length 1 (gl (csI .u8) ([] : List Int))))]⟩) (ob := (([] : List Int).length = 0 ∧ True) ∧ True ∧ True) (by kernel_rfl) ⟨⟨rfl, trivial⟩, trivial, trivial⟩ ?_
  refine thenQ_normal ?_
  refine AW.seq ?_
  refine AW.seq ?_
  refine AW.regionA [] [0, 1, 5, 6] [1] (s' := ⟨[(0, (.v (.one (.c (.int .i64 a0))))), (1, (.v (.one (.c (.int .i64 a1))))), (5, (.v (.one (.lst 1 ([] : List Int).length 1 (gl (csI .u8) ([] : List Int)))))), (6, (.v (.one (.c (.int .i64 (0 : Int))))))], [(1, (.lst ([] : List Int).length 1 (gl (csI .u8) ([] : List Int))))]⟩) (ob := True ∧ True) (by kernel_rfl) ⟨trivial, trivial⟩ ?_
  refine thenQ_normal ?_
  refine AW.block ?_
  refine AW.loopQ (σ := Nat × Int × (List Int)) (fun p => ⟨[(0, (.v (.one (.c (.int .i64 a0))))), (1, (.v (.one (.c (.int .i64 a1))))), (5, (.v (.one (.lst 1 p.2.2.length 1 (gl (csI .u8) p.2.2))))), (6, (.v (.one (.c (.int .i64 p.2.1)))))], [(1, (.lst p.2.2.length 1 (gl (csI .u8) p.2.2)))]⟩) (fun p => spec_l10Word_l1 K a0 a1 p.1 p.2.1 p.2.2 = some o) (fun p => p.1) (K, (0 : Int), ([] : List Int)) h ?_
  clear h
  rintro ⟨k, x3, x4⟩ h
  replace h : spec_l10Word_l1 K a0 a1 k x3 x4 = some o := h
  show AW _ _ (⟨[(0, (.v (.one (.c (.int .i64 a0))))), (1, (.v (.one (.c (.int .i64 a1))))), (5, (.v (.one (.lst 1 x4.length 1 (gl (csI .u8) x4))))), (6, (.v (.one (.c (.int .i64 x3)))))], [(1, (.lst x4.length 1 (gl (csI .u8) x4)))]⟩ : St) _
  obtain _ | k := k
  · rw [spec_l10Word_l1] at h; cases h
  rw [spec_l10Word_l1] at h
  refine AW.seq ?_
  refine AW.seq ?_
  refine AW.regionA [] [0, 1, 5, 6, 10] [1] (s' := ⟨[(0, (.v (.one (.c (.int .i64 a0))))), (1, (.v (.one (.c (.int .i64 a1))))), (5, (.v (.one (.lst 1 x4.length 1 (gl (csI .u8) x4))))), (6, (.v (.one (.c (.int .i64 x3))))), (10, (.v (.one (.c (.bool (decide (x3 < a1)))))))], [(1, (.lst x4.length 1 (gl (csI .u8) x4)))]⟩) (ob := True ∧ True ∧ True ∧ True) (by kernel_rfl) ⟨trivial, trivial, trivial, trivial⟩ ?_
  refine thenQ_normal ?_
  rcases ite2_cases h with ⟨b5, h⟩ | ⟨b5, h⟩
  · refine AW.cond_t rfl b5 ?_
    refine AW.skip ?_
    refine thenQ_normal ?_
    refine AW.seq ?_
    refine AW.block ?_
    obtain ⟨c6, h⟩ := chk_some h
    obtain ⟨c7, h⟩ := chk_some h
    refine AW.regionA [.no, .no, .no, .no, .no, .no, .no, .no, .obj 6 ([(IntKind.u8.wrap (bits .and .i64 (a0.fdiv (2 ^ (min (IntKind.u64.wrap (IntKind.i64.wrap ((8 : Int) * x3))).toNat (IntKind.bits .i64)))) (255 : Int)))]).length (gl (csI .u8) ([(IntKind.u8.wrap (bits .and .i64 (a0.fdiv (2 ^ (min (IntKind.u64.wrap (IntKind.i64.wrap ((8 : Int) * x3))).toNat (IntKind.bits .i64)))) (255 : Int)))])), .objK 7 (x4 ++ ([(IntKind.u8.wrap (bits .and .i64 (a0.fdiv (2 ^ (min (IntKind.u64.wrap (IntKind.i64.wrap ((8 : Int) * x3))).toNat (IntKind.bits .i64)))) (255 : Int)))])).length (gl (csI .u8) (x4 ++ ([(IntKind.u8.wrap (bits .and .i64 (a0.fdiv (2 ^ (min (IntKind.u64.wrap (IntKind.i64.wrap ((8 : Int) * x3))).toNat (IntKind.bits .i64)))) (255 : Int)))])))] [0, 1, 5, 6] [7] (s' := ⟨[(0, (.v (.one (.c (.int .i64 a0))))), (1, (.v (.one (.c (.int .i64 a1))))), (5, (.v (.one (.lst 7 (x4 ++ ([(IntKind.u8.wrap (bits .and .i64 (a0.fdiv (2 ^ (min (IntKind.u64.wrap (IntKind.i64.wrap ((8 : Int) * x3))).toNat (IntKind.bits .i64)))) (255 : Int)))])).length 1 (gl (csI .u8) (x4 ++ ([(IntKind.u8.wrap (bits .and .i64 (a0.fdiv (2 ^ (min (IntKind.u64.wrap (IntKind.i64.wrap ((8 : Int) * x3))).toNat (IntKind.bits .i64)))) (255 : Int)))]))))))), (6, (.v (.one (.c (.int .i64 x3)))))], [(7, (.lst (x4 ++ ([(IntKind.u8.wrap (bits .and .i64 (a0.fdiv (2 ^ (min (IntKind.u64.wrap (IntKind.i64.wrap ((8 : Int) * x3))).toNat (IntKind.bits .i64)))) (255 : Int)))])).length 1 (gl (csI .u8) (x4 ++ ([(IntKind.u8.wrap (bits .and .i64 (a0.fdiv (2 ^ (min (IntKind.u64.wrap (IntKind.i64.wrap ((8 : Int) * x3))).toNat (IntKind.bits .i64)))) (255 : Int)))])))))]⟩) (ob := True ∧ True ∧ True ∧ True ∧ True ∧ (0 ≤ (IntKind.u64.wrap (IntKind.i64.wrap ((8 : Int) * x3)))) ∧ True ∧ True ∧ (([(IntKind.u8.wrap (bits .and .i64 (a0.fdiv (2 ^ (min (IntKind.u64.wrap (IntKind.i64.wrap ((8 : Int) * x3))).toNat (IntKind.bits .i64)))) (255 : Int)))]).length = 1 ∧ (((.int .u8 (IntKind.u8.wrap (bits .and .i64 (a0.fdiv (2 ^ (min (IntKind.u64.wrap (IntKind.i64.wrap ((8 : Int) * x3))).toNat (IntKind.bits .i64)))) (255 : Int)))) : C) = (.int .u8 (IntKind.u8.wrap (bits .and .i64 (a0.fdiv (2 ^ (min (IntKind.u64.wrap (IntKind.i64.wrap ((8 : Int) * x3))).toNat (IntKind.bits .i64)))) (255 : Int)))) ∧ True) ∧ True) ∧ ((x4 ++ ([(IntKind.u8.wrap (bits .and .i64 (a0.fdiv (2 ^ (min (IntKind.u64.wrap (IntKind.i64.wrap ((8 : Int) * x3))).toNat (IntKind.bits .i64)))) (255 : Int)))])).length = x4.length + ([(IntKind.u8.wrap (bits .and .i64 (a0.fdiv (2 ^ (min (IntKind.u64.wrap (IntKind.i64.wrap ((8 : Int) * x3))).toNat (IntKind.bits .i64)))) (255 : Int)))]).length ∧ AppOb (x4.length) (([(IntKind.u8.wrap (bits .and .i64 (a0.fdiv (2 ^ (min (IntKind.u64.wrap (IntKind.i64.wrap ((8 : Int) * x3))).toNat (IntKind.bits .i64)))) (255 : Int)))]).length) 1 (gl (csI .u8) x4) (gl (csI .u8) ([(IntKind.u8.wrap (bits .and .i64 (a0.fdiv (2 ^ (min (IntKind.u64.wrap (IntKind.i64.wrap ((8 : Int) * x3))).toNat (IntKind.bits .i64)))) (255 : Int)))])) (gl (csI .u8) (x4 ++ ([(IntKind.u8.wrap (bits .and .i64 (a0.fdiv (2 ^ (min (IntKind.u64.wrap (IntKind.i64.wrap ((8 : Int) * x3))).toNat (IntKind.bits .i64)))) (255 : Int)))]))) ∧ (∀ i j, i < ([(IntKind.u8.wrap (bits .and .i64 (a0.fdiv (2 ^ (min (IntKind.u64.wrap (IntKind.i64.wrap ((8 : Int) * x3))).toNat (IntKind.bits .i64)))) (255 : Int)))]).length → j < 1 → scalarC (gl (csI .u8) ([(IntKind.u8.wrap (bits .and .i64 (a0.fdiv (2 ^ (min (IntKind.u64.wrap (IntKind.i64.wrap ((8 : Int) * x3))).toNat (IntKind.bits .i64)))) (255 : Int)))]) i j)) ∧ (x4.length + ([(IntKind.u8.wrap (bits .and .i64 (a0.fdiv (2 ^ (min (IntKind.u64.wrap (IntKind.i64.wrap ((8 : Int) * x3))).toNat (IntKind.bits .i64)))) (255 : Int)))]).length) * 1 ≤ 140737488355328) ∧ True ∧ True) (by kernel_rfl) ⟨trivial, trivial, trivial, trivial, trivial, c6, trivial, trivial, ⟨rfl, ⟨⟨rfl, trivial⟩, trivial⟩⟩, ⟨List.length_append, gl_append, gl_scalar scI _, c7⟩, trivial, trivial⟩ ?_
    refine blockQ_normal ?_
    refine thenQ_normal ?_
    refine AW.regionA [] [0, 1, 5, 6] [7] (s' := ⟨[(0, (.v (.one (.c (.int .i64 a0))))), (1, (.v (.one (.c (.int .i64 a1))))), (5, (.v (.one (.lst 7 (x4 ++ ([(IntKind.u8.wrap (bits .and .i64 (a0.fdiv (2 ^ (min (IntKind.u64.wrap (IntKind.i64.wrap ((8 : Int) * x3))).toNat (IntKind.bits .i64)))) (255 : Int)))])).length 1 (gl (csI .u8) (x4 ++ ([(IntKind.u8.wrap (bits .and .i64 (a0.fdiv (2 ^ (min (IntKind.u64.wrap (IntKind.i64.wrap ((8 : Int) * x3))).toNat (IntKind.bits .i64)))) (255 : Int)))]))))))), (6, (.v (.one (.c (.int .i64 (IntKind.i64.wrap (x3 + (1 : Int))))))))], [(7, (.lst (x4 ++ ([(IntKind.u8.wrap (bits .and .i64 (a0.fdiv (2 ^ (min (IntKind.u64.wrap (IntKind.i64.wrap ((8 : Int) * x3))).toNat (IntKind.bits .i64)))) (255 : Int)))])).length 1 (gl (csI .u8) (x4 ++ ([(IntKind.u8.wrap (bits .and .i64 (a0.fdiv (2 ^ (min (IntKind.u64.wrap (IntKind.i64.wrap ((8 : Int) * x3))).toNat (IntKind.bits .i64)))) (255 : Int)))])))))]⟩) (ob := True ∧ True ∧ True ∧ True) (by kernel_rfl) ⟨trivial, trivial, trivial, trivial⟩ ?_
    exact loopQ_normal (k, (IntKind.i64.wrap (x3 + (1 : Int))), (x4 ++ ([(IntKind.u8.wrap (bits .and .i64 (a0.fdiv (2 ^ (min (IntKind.u64.wrap (IntKind.i64.wrap ((8 : Int) * x3))).toNat (IntKind.bits .i64)))) (255 : Int)))]))) h (Nat.lt_succ_self k) (Sub.trans (Sub.swap 1 7 _ (by kernel_rfl) (by kernel_rfl)) (Sub.keep [0, 1, 5, 6] [1] (by kernel_rfl) (by kernel_rfl)))
  · refine AW.cond_f rfl b5 ?_
    refine AW.exit ?_
    refine thenQ_exit ?_
    refine loopQ_exit ?_
    refine blockQ_exit ?_
    refine thenQ_normal ?_
    refine AW.seq ?_
    obtain ⟨c8, h⟩ := chk_some h
    refine AW.regionA [.no, .str (strOf x4)] [4] [] (s' := ⟨[(4, (.v (.one (.c (.str (strOf x4))))))], []⟩) (ob := True ∧ (bytesOb (strOf x4) x4.length (gl (csI .u8) x4)) ∧ True ∧ True) (by kernel_rfl) ⟨trivial, strOf_ob c8, trivial, trivial⟩ ?_
    refine thenQ_normal ?_
    refine AW.ret ?_
    replace h := some_eq h
    subst h
    exact ⟨.inr rfl, retOK_of [(.one (.c (.str (strOf x4))))] (by kernel_rfl) ⟨⟨rfl, trivial⟩, trivial⟩ (of_decide_eq_true (by kernel_rfl))⟩

/-! spec.l01Check -/
def spec_l01Check_l1 (K : Nat) (a1 : ByteArray) : Nat → Int → Int → Option (Int)
  | 0, _, _ => none
  | k + 1, x3, x4 => ite2 ((decide (x4 < (a1.size : Int)))) (chk (0 ≤ x4 ∧ x4 < (a1.size : Int)) (chk ((65003 : Int) ≠ 0) (spec_l01Check_l1 K a1 k ((IntKind.i64.wrap ((IntKind.i64.wrap ((IntKind.i64.wrap ((613 : Int) * x3)) + (IntKind.i64.wrap (bt a1 x4.toNat)))) + (23 : Int))).tmod (65003 : Int)) (IntKind.i64.wrap (x4 + (1 : Int)))))) (some x3)

def spec_l01Check (K : Nat) (a0 : Int) (a1 : ByteArray) : Option (Int) :=
  spec_l01Check_l1 K a1 K a0 (0 : Int)

theorem ok_spec_l01Check (K : Nat) (a0 : Int) (a1 : ByteArray) (o : (Int)) (h : spec_l01Check K a0 a1 = some o) : CallOK Try.prog 157 [.one (.int .i64 a0), .one (.str a1)] [.one (.int .i64 o)] := by
  refine callOK_of_AW Try.func157 rfl (by kernel_rfl) (Nat.le_of_ble_eq_true (by kernel_rfl)) ?_
  intro w0
  unfold spec_l01Check at h
  refine AW.seq ?_
  refine AW.regionA [] [0, 1] [] (s' := ⟨[(0, (.v (.one (.c (.int .i64 a0))))), (1, (.v (.one (.c (.str a1)))))], []⟩) (ob := True ∧ True) (by kernel_rfl) ⟨trivial, trivial⟩ ?_
  refine thenQ_normal ?_
  refine AW.seq ?_
  refine AW.seq ?_
  refine AW.regionA [] [0, 1, 5] [] (s' := ⟨[(0, (.v (.one (.c (.int .i64 a0))))), (1, (.v (.one (.c (.str a1))))), (5, (.v (.one (.c (.int .i64 (0 : Int))))))], []⟩) (ob := True ∧ True) (by kernel_rfl) ⟨trivial, trivial⟩ ?_
  refine thenQ_normal ?_
  refine AW.block ?_
  refine AW.loopQ (σ := Nat × Int × Int) (fun p => ⟨[(0, (.v (.one (.c (.int .i64 p.2.1))))), (1, (.v (.one (.c (.str a1))))), (5, (.v (.one (.c (.int .i64 p.2.2)))))], []⟩) (fun p => spec_l01Check_l1 K a1 p.1 p.2.1 p.2.2 = some o) (fun p => p.1) (K, a0, (0 : Int)) h ?_
  clear h
  rintro ⟨k, x3, x4⟩ h
  replace h : spec_l01Check_l1 K a1 k x3 x4 = some o := h
  show AW _ _ (⟨[(0, (.v (.one (.c (.int .i64 x3))))), (1, (.v (.one (.c (.str a1))))), (5, (.v (.one (.c (.int .i64 x4)))))], []⟩ : St) _
  obtain _ | k := k
  · rw [spec_l01Check_l1] at h; cases h
  rw [spec_l01Check_l1] at h
  refine AW.seq ?_
  refine AW.seq ?_
  refine AW.regionA [] [0, 1, 5, 9] [] (s' := ⟨[(0, (.v (.one (.c (.int .i64 x3))))), (1, (.v (.one (.c (.str a1))))), (5, (.v (.one (.c (.int .i64 x4))))), (9, (.v (.one (.c (.bool (decide (x4 < (a1.size : Int))))))))], []⟩) (ob := True ∧ True ∧ True ∧ True ∧ True) (by kernel_rfl) ⟨trivial, trivial, trivial, trivial, trivial⟩ ?_
  refine thenQ_normal ?_
  rcases ite2_cases h with ⟨b5, h⟩ | ⟨b5, h⟩
  · refine AW.cond_t rfl b5 ?_
    refine AW.skip ?_
    refine thenQ_normal ?_
    refine AW.seq ?_
    refine AW.block ?_
    obtain ⟨c6, h⟩ := chk_some h
    obtain ⟨c7, h⟩ := chk_some h
    refine AW.regionA [] [0, 1, 5] [] (s' := ⟨[(0, (.v (.one (.c (.int .i64 ((IntKind.i64.wrap ((IntKind.i64.wrap ((IntKind.i64.wrap ((613 : Int) * x3)) + (IntKind.i64.wrap (bt a1 x4.toNat)))) + (23 : Int))).tmod (65003 : Int))))))), (1, (.v (.one (.c (.str a1))))), (5, (.v (.one (.c (.int .i64 x4)))))], []⟩) (ob := True ∧ True ∧ True ∧ True ∧ (0 ≤ x4 ∧ x4 < (a1.size : Int)) ∧ True ∧ True ∧ True ∧ ((65003 : Int) ≠ 0) ∧ True ∧ True) (by kernel_rfl) ⟨trivial, trivial, trivial, trivial, c6, trivial, trivial, trivial, c7, trivial, trivial⟩ ?_
    refine blockQ_normal ?_
    refine thenQ_normal ?_
    refine AW.regionA [] [0, 1, 5] [] (s' := ⟨[(0, (.v (.one (.c (.int .i64 ((IntKind.i64.wrap ((IntKind.i64.wrap ((IntKind.i64.wrap ((613 : Int) * x3)) + (IntKind.i64.wrap (bt a1 x4.toNat)))) + (23 : Int))).tmod (65003 : Int))))))), (1, (.v (.one (.c (.str a1))))), (5, (.v (.one (.c (.int .i64 (IntKind.i64.wrap (x4 + (1 : Int))))))))], []⟩) (ob := True ∧ True ∧ True ∧ True) (by kernel_rfl) ⟨trivial, trivial, trivial, trivial⟩ ?_
    exact loopQ_normal (k, ((IntKind.i64.wrap ((IntKind.i64.wrap ((IntKind.i64.wrap ((613 : Int) * x3)) + (IntKind.i64.wrap (bt a1 x4.toNat)))) + (23 : Int))).tmod (65003 : Int)), (IntKind.i64.wrap (x4 + (1 : Int)))) h (Nat.lt_succ_self k) (Sub.keep [0, 1, 5] [] (by kernel_rfl) (by kernel_rfl))
  · refine AW.cond_f rfl b5 ?_
    refine AW.exit ?_
    refine thenQ_exit ?_
    refine loopQ_exit ?_
    refine blockQ_exit ?_
    refine thenQ_normal ?_
    refine AW.seq ?_
    refine AW.regionA [] [4] [] (s' := ⟨[(4, (.v (.one (.c (.int .i64 x3)))))], []⟩) (ob := True ∧ True ∧ True) (by kernel_rfl) ⟨trivial, trivial, trivial⟩ ?_
    refine thenQ_normal ?_
    refine AW.ret ?_
    replace h := some_eq h
    subst h
    exact ⟨.inr rfl, retOK_of [(.one (.c (.int .i64 x3)))] (by kernel_rfl) ⟨⟨rfl, trivial⟩, trivial⟩ (of_decide_eq_true (by kernel_rfl))⟩

/-! spec.l10Record -/
def spec_l10Record_l1 (K : Nat) (a0 : ByteArray) (a2 : (List F32)) (v1 : ((List Int))) : Nat → ByteArray → Int → Option (ByteArray)
  | 0, _, _ => none
  | k + 1, x7, x8 => ite2 ((decide (x8 < (v1.length : Int)))) (chk (0 ≤ x8 ∧ x8 < (v1.length : Int)) ((spec_l10Word K (v1.getD x8.toNat default) (1 : Int)).bind fun v11 => chk (0 ≤ (v1.getD x8.toNat default) ∧ (v1.getD x8.toNat default) < (a2.length : Int)) ((spec_l01Bits K (a2.getD ((v1.getD x8.toNat default).toNat) default)).bind fun v14 => (spec_l10Word K v14 (4 : Int)).bind fun v16 => chk (((v11.size + v16.size : Nat) : Int) ≤ 9223372036854775807) (chk (((x7.size + (v11 ++ v16).size : Nat) : Int) ≤ 9223372036854775807) (spec_l10Record_l1 K a0 a2 v1 k (x7 ++ (v11 ++ v16)) (IntKind.i64.wrap (x8 + (1 : Int)))))))) (chk (((a0.size + x7.size : Nat) : Int) ≤ 9223372036854775807) ((spec_l01Check K (0 : Int) (a0 ++ x7)).bind fun v21 => (spec_l10Word K v21 (2 : Int)).bind fun v23 => chk (((x7.size + v23.size : Nat) : Int) ≤ 9223372036854775807) (some (x7 ++ v23))))

def spec_l10Record (K : Nat) (a0 : ByteArray) (a1 : (List F32)) (a2 : (List F32)) : Option (ByteArray) :=
  (spec_l10Changed K a1 a2).bind fun v1 => (spec_l10Word K (v1.length : Int) (1 : Int)).bind fun v3 => spec_l10Record_l1 K a0 a2 v1 K v3 (0 : Int)

theorem ok_spec_l10Record (K : Nat) (a0 : ByteArray) (a1 : (List F32)) (a2 : (List F32)) (o : (ByteArray)) (h : spec_l10Record K a0 a1 a2 = some o) : CallOK Try.prog 127 [.one (.str a0), .one (sl 1 (csF .f32) a1), .one (sl 1 (csF .f32) a2)] [.one (.str o)] := by
  refine callOK_of_AW Try.func127 rfl (by kernel_rfl) (Nat.le_of_ble_eq_true (by kernel_rfl)) ?_
  intro w0
  unfold spec_l10Record at h
  refine AW.seq ?_
  refine AW.regionA [] [0, 1, 2] [] (s' := ⟨[(0, (.v (.one (.c (.str a0))))), (1, (.v (.one (.c (sl 1 (csF .f32) a1))))), (2, (.v (.one (.c (sl 1 (csF .f32) a2)))))], []⟩) (ob := True ∧ True) (by kernel_rfl) ⟨trivial, trivial⟩ ?_
  refine thenQ_normal ?_
  refine AW.seq ?_
  obtain ⟨v1, e2, h⟩ := bind_some h
  refine AW.regionA [.no, .no, .call [.one (sl 1 (csF .f32) a1), .one (sl 1 (csF .f32) a2)] [.one (sl 1 (csI .i64) v1)] [[.lst 1]]] [0, 2, 7] [1] (s' := ⟨[(0, (.v (.one (.c (.str a0))))), (2, (.v (.one (.c (sl 1 (csF .f32) a2))))), (7, (.v (.one (.lst 1 v1.length 1 (gl (csI .i64) v1)))))], [(1, (.lst v1.length 1 (gl (csI .i64) v1)))]⟩) (ob := True ∧ True ∧ (((((sl 1 (csF .f32) a1) : C) = (sl 1 (csF .f32) a1)) ∧ (((sl 1 (csF .f32) a2) : C) = (sl 1 (csF .f32) a2)) ∧ True) ∧ CallOK Try.prog 155 [.one (sl 1 (csF .f32) a1), .one (sl 1 (csF .f32) a2)] [.one (sl 1 (csI .i64) v1)]) ∧ True ∧ True) (by kernel_rfl) ⟨trivial, trivial, ⟨⟨rfl, rfl, trivial⟩, ok_spec_l10Changed K a1 a2 v1 e2⟩, trivial, trivial⟩ ?_
  refine thenQ_normal ?_
  refine AW.seq ?_
  obtain ⟨v3, e4, h⟩ := bind_some h
  refine AW.regionA [.no, .no, .call [.one (.int .i64 (v1.length : Int)), .one (.int .i64 (1 : Int))] [.one (.str v3)] [[.view]]] [0, 2, 7, 8] [1] (s' := ⟨[(0, (.v (.one (.c (.str a0))))), (2, (.v (.one (.c (sl 1 (csF .f32) a2))))), (7, (.v (.one (.lst 1 v1.length 1 (gl (csI .i64) v1))))), (8, (.v (.one (.c (.str v3)))))], [(1, (.lst v1.length 1 (gl (csI .i64) v1)))]⟩) (ob := True ∧ True ∧ (((((.int .i64 (v1.length : Int)) : C) = (.int .i64 (v1.length : Int))) ∧ (((.int .i64 (1 : Int)) : C) = (.int .i64 (1 : Int))) ∧ True) ∧ CallOK Try.prog 153 [.one (.int .i64 (v1.length : Int)), .one (.int .i64 (1 : Int))] [.one (.str v3)]) ∧ True ∧ True) (by kernel_rfl) ⟨trivial, trivial, ⟨⟨rfl, rfl, trivial⟩, ok_spec_l10Word K (v1.length : Int) (1 : Int) v3 e4⟩, trivial, trivial⟩ ?_
  refine thenQ_normal ?_
  refine AW.seq ?_
  refine AW.seq ?_
  refine AW.regionA [] [0, 2, 7, 8, 9] [1] (s' := ⟨[(0, (.v (.one (.c (.str a0))))), (2, (.v (.one (.c (sl 1 (csF .f32) a2))))), (7, (.v (.one (.lst 1 v1.length 1 (gl (csI .i64) v1))))), (8, (.v (.one (.c (.str v3))))), (9, (.v (.one (.c (.int .i64 (0 : Int))))))], [(1, (.lst v1.length 1 (gl (csI .i64) v1)))]⟩) (ob := True ∧ True) (by kernel_rfl) ⟨trivial, trivial⟩ ?_
  refine thenQ_normal ?_
  refine AW.block ?_
  refine AW.loopQ (σ := Nat × ByteArray × Int) (fun p => ⟨[(0, (.v (.one (.c (.str a0))))), (2, (.v (.one (.c (sl 1 (csF .f32) a2))))), (7, (.v (.one (.lst 1 v1.length 1 (gl (csI .i64) v1))))), (8, (.v (.one (.c (.str p.2.1))))), (9, (.v (.one (.c (.int .i64 p.2.2)))))], [(1, (.lst v1.length 1 (gl (csI .i64) v1)))]⟩) (fun p => spec_l10Record_l1 K a0 a2 v1 p.1 p.2.1 p.2.2 = some o) (fun p => p.1) (K, v3, (0 : Int)) h ?_
  clear h
  rintro ⟨k, x7, x8⟩ h
  replace h : spec_l10Record_l1 K a0 a2 v1 k x7 x8 = some o := h
  show AW _ _ (⟨[(0, (.v (.one (.c (.str a0))))), (2, (.v (.one (.c (sl 1 (csF .f32) a2))))), (7, (.v (.one (.lst 1 v1.length 1 (gl (csI .i64) v1))))), (8, (.v (.one (.c (.str x7))))), (9, (.v (.one (.c (.int .i64 x8)))))], [(1, (.lst v1.length 1 (gl (csI .i64) v1)))]⟩ : St) _
  obtain _ | k := k
  · rw [spec_l10Record_l1] at h; cases h
  rw [spec_l10Record_l1] at h
  refine AW.seq ?_
  refine AW.seq ?_
  refine AW.regionA [] [0, 2, 7, 8, 9, 19] [1] (s' := ⟨[(0, (.v (.one (.c (.str a0))))), (2, (.v (.one (.c (sl 1 (csF .f32) a2))))), (7, (.v (.one (.lst 1 v1.length 1 (gl (csI .i64) v1))))), (8, (.v (.one (.c (.str x7))))), (9, (.v (.one (.c (.int .i64 x8))))), (19, (.v (.one (.c (.bool (decide (x8 < (v1.length : Int))))))))], [(1, (.lst v1.length 1 (gl (csI .i64) v1)))]⟩) (ob := True ∧ True ∧ True ∧ True ∧ True) (by kernel_rfl) ⟨trivial, trivial, trivial, trivial, trivial⟩ ?_
  refine thenQ_normal ?_
  rcases ite2_cases h with ⟨b9, h⟩ | ⟨b9, h⟩
  · refine AW.cond_t rfl b9 ?_
    refine AW.skip ?_
    refine thenQ_normal ?_
    refine AW.seq ?_
    refine AW.block ?_
    obtain ⟨c10, h⟩ := chk_some h
    obtain ⟨v11, e12, h⟩ := bind_some h
    obtain ⟨c13, h⟩ := chk_some h
    obtain ⟨v14, e15, h⟩ := bind_some h
    obtain ⟨v16, e17, h⟩ := bind_some h
    obtain ⟨c18, h⟩ := chk_some h
    obtain ⟨c19, h⟩ := chk_some h
    refine AW.drawnA (by kernel_rfl) 17 [.no, .no, .no, .no, .no, .call [.one (.int .i64 (v1.getD x8.toNat default)), .one (.int .i64 (1 : Int))] [.one (.str v11)] [[.view]], .no, .no, .no, .no, .no, .no, .no, .call [.one (.flt .f32 (a2.getD ((v1.getD x8.toNat default).toNat) default).bits)] [.one (.int .i64 v14)] [[.view]], .call [.one (.int .i64 v14), .one (.int .i64 (4 : Int))] [.one (.str v16)] [[.view]]] [0, 2, 7, 8, 9] [1] (s' := ⟨[(0, (.v (.one (.c (.str a0))))), (2, (.v (.one (.c (sl 1 (csF .f32) a2))))), (7, (.v (.one (.lst 1 v1.length 1 (gl (csI .i64) v1))))), (8, (.v (.one (.c (.str (x7 ++ (v11 ++ v16))))))), (9, (.v (.one (.c (.int .i64 x8)))))], [(1, (.lst v1.length 1 (gl (csI .i64) v1)))]⟩) (ob := (True ∧ True ∧ True ∧ (0 ≤ x8 ∧ x8 < (v1.length : Int)) ∧ True ∧ (((((.int .i64 (v1.getD x8.toNat default)) : C) = (.int .i64 (v1.getD x8.toNat default))) ∧ (((.int .i64 (1 : Int)) : C) = (.int .i64 (1 : Int))) ∧ True) ∧ CallOK Try.prog 153 [.one (.int .i64 (v1.getD x8.toNat default)), .one (.int .i64 (1 : Int))] [.one (.str v11)]) ∧ True ∧ True ∧ True ∧ (0 ≤ x8 ∧ x8 < (v1.length : Int)) ∧ True ∧ (0 ≤ (v1.getD x8.toNat default) ∧ (v1.getD x8.toNat default) < (a2.length : Int)) ∧ True ∧ (((((.flt .f32 (a2.getD ((v1.getD x8.toNat default).toNat) default).bits) : C) = (.flt .f32 (a2.getD ((v1.getD x8.toNat default).toNat) default).bits)) ∧ True) ∧ CallOK Try.prog 156 [.one (.flt .f32 (a2.getD ((v1.getD x8.toNat default).toNat) default).bits)] [.one (.int .i64 v14)]) ∧ (((((.int .i64 v14) : C) = (.int .i64 v14)) ∧ (((.int .i64 (4 : Int)) : C) = (.int .i64 (4 : Int))) ∧ True) ∧ CallOK Try.prog 153 [.one (.int .i64 v14), .one (.int .i64 (4 : Int))] [.one (.str v16)]) ∧ (((v11.size + v16.size : Nat) : Int) ≤ 9223372036854775807) ∧ (((x7.size + (v11 ++ v16).size : Nat) : Int) ≤ 9223372036854775807) ∧ True) ∧ (True ∧ True)) (by kernel_rfl) ⟨⟨trivial, trivial, trivial, c10, trivial, ⟨⟨rfl, rfl, trivial⟩, ok_spec_l10Word K (v1.getD x8.toNat default) (1 : Int) v11 e12⟩, trivial, trivial, trivial, c10, trivial, c13, trivial, ⟨⟨rfl, trivial⟩, ok_spec_l01Bits K (a2.getD ((v1.getD x8.toNat default).toNat) default) v14 e15⟩, ⟨⟨rfl, rfl, trivial⟩, ok_spec_l10Word K v14 (4 : Int) v16 e17⟩, c18, c19, trivial⟩, ⟨trivial, trivial⟩⟩ ?_
    refine blockQ_normal ?_
    refine thenQ_normal ?_
    refine AW.regionA [] [0, 2, 7, 8, 9] [1] (s' := ⟨[(0, (.v (.one (.c (.str a0))))), (2, (.v (.one (.c (sl 1 (csF .f32) a2))))), (7, (.v (.one (.lst 1 v1.length 1 (gl (csI .i64) v1))))), (8, (.v (.one (.c (.str (x7 ++ (v11 ++ v16))))))), (9, (.v (.one (.c (.int .i64 (IntKind.i64.wrap (x8 + (1 : Int))))))))], [(1, (.lst v1.length 1 (gl (csI .i64) v1)))]⟩) (ob := True ∧ True ∧ True ∧ True) (by kernel_rfl) ⟨trivial, trivial, trivial, trivial⟩ ?_
    exact loopQ_normal (k, (x7 ++ (v11 ++ v16)), (IntKind.i64.wrap (x8 + (1 : Int)))) h (Nat.lt_succ_self k) (Sub.keep [0, 2, 7, 8, 9] [1] (by kernel_rfl) (by kernel_rfl))
  · refine AW.cond_f rfl b9 ?_
    refine AW.exit ?_
    refine thenQ_exit ?_
    refine loopQ_exit ?_
    refine blockQ_exit ?_
    refine thenQ_normal ?_
    refine AW.seq ?_
    obtain ⟨c20, h⟩ := chk_some h
    obtain ⟨v21, e22, h⟩ := bind_some h
    obtain ⟨v23, e24, h⟩ := bind_some h
    obtain ⟨c25, h⟩ := chk_some h
    refine AW.regionA [.no, .no, .no, .no, .call [.one (.int .i64 (0 : Int)), .one (.str (a0 ++ x7))] [.one (.int .i64 v21)] [[.view]], .call [.one (.int .i64 v21), .one (.int .i64 (2 : Int))] [.one (.str v23)] [[.view]]] [6] [] (s' := ⟨[(6, (.v (.one (.c (.str (x7 ++ v23))))))], []⟩) (ob := True ∧ True ∧ True ∧ (((a0.size + x7.size : Nat) : Int) ≤ 9223372036854775807) ∧ (((((.int .i64 (0 : Int)) : C) = (.int .i64 (0 : Int))) ∧ (((.str (a0 ++ x7)) : C) = (.str (a0 ++ x7))) ∧ True) ∧ CallOK Try.prog 157 [.one (.int .i64 (0 : Int)), .one (.str (a0 ++ x7))] [.one (.int .i64 v21)]) ∧ (((((.int .i64 v21) : C) = (.int .i64 v21)) ∧ (((.int .i64 (2 : Int)) : C) = (.int .i64 (2 : Int))) ∧ True) ∧ CallOK Try.prog 153 [.one (.int .i64 v21), .one (.int .i64 (2 : Int))] [.one (.str v23)]) ∧ (((x7.size + v23.size : Nat) : Int) ≤ 9223372036854775807) ∧ True ∧ True) (by kernel_rfl) ⟨trivial, trivial, trivial, c20, ⟨⟨rfl, rfl, trivial⟩, ok_spec_l01Check K (0 : Int) (a0 ++ x7) v21 e22⟩, ⟨⟨rfl, rfl, trivial⟩, ok_spec_l10Word K v21 (2 : Int) v23 e24⟩, c25, trivial, trivial⟩ ?_
    refine thenQ_normal ?_
    refine AW.ret ?_
    replace h := some_eq h
    subst h
    exact ⟨.inr rfl, retOK_of [(.one (.c (.str (x7 ++ v23))))] (by kernel_rfl) ⟨⟨rfl, trivial⟩, trivial⟩ (of_decide_eq_true (by kernel_rfl))⟩

/-! spec.l10Pose -/
def spec_l10Pose_l1 (K : Nat) (a0 : (List F32)) : Nat → Int → (List Turn) → Option (Pose)
  | 0, _, _ => none
  | k + 1, x6, x7 => ite2 ((decide (x6 < (a0.length : Int)))) (chk (0 ≤ x6 ∧ x6 < (a0.length : Int)) (chk (0 ≤ (IntKind.i64.wrap (x6 + (1 : Int))) ∧ (IntKind.i64.wrap (x6 + (1 : Int))) < (a0.length : Int)) (chk (0 ≤ (IntKind.i64.wrap (x6 + (2 : Int))) ∧ (IntKind.i64.wrap (x6 + (2 : Int))) < (a0.length : Int)) (chk (0 ≤ (IntKind.i64.wrap (x6 + (3 : Int))) ∧ (IntKind.i64.wrap (x6 + (3 : Int))) < (a0.length : Int)) (chk ((x7.length + ([(Turn.mk (a0.getD x6.toNat default) (a0.getD ((IntKind.i64.wrap (x6 + (1 : Int))).toNat) default) (a0.getD ((IntKind.i64.wrap (x6 + (2 : Int))).toNat) default) (a0.getD ((IntKind.i64.wrap (x6 + (3 : Int))).toNat) default))]).length) * 16 ≤ 140737488355328) (spec_l10Pose_l1 K a0 k (IntKind.i64.wrap (x6 + (4 : Int))) (x7 ++ ([(Turn.mk (a0.getD x6.toNat default) (a0.getD ((IntKind.i64.wrap (x6 + (1 : Int))).toNat) default) (a0.getD ((IntKind.i64.wrap (x6 + (2 : Int))).toNat) default) (a0.getD ((IntKind.i64.wrap (x6 + (3 : Int))).toNat) default))])))))))) (some (Pose.mk (Vector.mk (a0.getD ((0 : Int).toNat) default) (a0.getD ((1 : Int).toNat) default) (a0.getD ((2 : Int).toNat) default)) x7))

def spec_l10Pose (K : Nat) (a0 : (List F32)) : Option (Pose) :=
  chk (0 ≤ (0 : Int) ∧ (0 : Int) < (a0.length : Int)) (chk (0 ≤ (1 : Int) ∧ (1 : Int) < (a0.length : Int)) (chk (0 ≤ (2 : Int) ∧ (2 : Int) < (a0.length : Int)) (spec_l10Pose_l1 K a0 K (3 : Int) ([] : List Turn))))

theorem ok_spec_l10Pose (K : Nat) (a0 : (List F32)) (o : (Pose)) (h : spec_l10Pose K a0 = some o) : CallOK Try.prog 133 [.one (sl 1 (csF .f32) a0)] [.agg (cs_Pose o)] := by
  refine callOK_of_AW Try.func133 rfl (by kernel_rfl) (Nat.le_of_ble_eq_true (by kernel_rfl)) ?_
  intro w0
  unfold spec_l10Pose at h
  refine AW.seq ?_
  refine AW.regionA [.box 1] [0, 2] [1] (s' := ⟨[(0, (.v (.one (.c (sl 1 (csF .f32) a0))))), (2, (.v (.one (.ptr 1 0))))], [(1, (.box [(.c (.flt .f32 (default : F32).bits)), (.c (.flt .f32 (default : F32).bits)), (.c (.flt .f32 (default : F32).bits)), .nils]))]⟩) (ob := True ∧ True) (by kernel_rfl) ⟨trivial, trivial⟩ ?_
  refine thenQ_normal ?_
  refine AW.seq ?_
  obtain ⟨c1, h⟩ := chk_some h
  obtain ⟨c2, h⟩ := chk_some h
  obtain ⟨c3, h⟩ := chk_some h
  refine AW.drawnA (by kernel_rfl) 13 [.no, .no, .no, .no, .no, .no, .no, .no, .no, .no, .obj 2 ([] : List Turn).length (gl cs_Turn ([] : List Turn)), .no, .box 3] [0, 2, 3] [1, 2, 3] (s' := ⟨[(0, (.v (.one (.c (sl 1 (csF .f32) a0))))), (2, (.v (.one (.ptr 1 0)))), (3, (.v (.one (.ptr 3 0))))], [(1, (.box [(.c (.flt .f32 (default : F32).bits)), (.c (.flt .f32 (default : F32).bits)), (.c (.flt .f32 (default : F32).bits)), .nils])), (2, (.lst ([] : List Turn).length 4 (gl cs_Turn ([] : List Turn)))), (3, (.box [(.c (.flt .f32 (a0.getD ((0 : Int).toNat) default).bits)), (.c (.flt .f32 (a0.getD ((1 : Int).toNat) default).bits)), (.c (.flt .f32 (a0.getD ((2 : Int).toNat) default).bits)), (.lst 2 ([] : List Turn).length 4 (gl cs_Turn ([] : List Turn)))]))]⟩) (ob := (True ∧ (0 ≤ (0 : Int) ∧ (0 : Int) < (a0.length : Int)) ∧ True ∧ True ∧ (0 ≤ (1 : Int) ∧ (1 : Int) < (a0.length : Int)) ∧ True ∧ True ∧ (0 ≤ (2 : Int) ∧ (2 : Int) < (a0.length : Int)) ∧ True ∧ True ∧ (([] : List Turn).length = 0 ∧ True) ∧ True ∧ True ∧ True) ∧ (True ∧ True)) (by kernel_rfl) ⟨⟨trivial, c1, trivial, trivial, c2, trivial, trivial, c3, trivial, trivial, ⟨rfl, trivial⟩, trivial, trivial, trivial⟩, ⟨trivial, trivial⟩⟩ ?_
  refine thenQ_normal ?_
  refine AW.seq ?_
  refine AW.seq ?_
  refine AW.regionA [] [0, 2, 3, 4] [1, 2, 3] (s' := ⟨[(0, (.v (.one (.c (sl 1 (csF .f32) a0))))), (2, (.v (.one (.ptr 1 0)))), (3, (.v (.one (.ptr 3 0)))), (4, (.v (.one (.c (.int .i64 (3 : Int))))))], [(1, (.box [(.c (.flt .f32 (default : F32).bits)), (.c (.flt .f32 (default : F32).bits)), (.c (.flt .f32 (default : F32).bits)), .nils])), (2, (.lst ([] : List Turn).length 4 (gl cs_Turn ([] : List Turn)))), (3, (.box [(.c (.flt .f32 (a0.getD ((0 : Int).toNat) default).bits)), (.c (.flt .f32 (a0.getD ((1 : Int).toNat) default).bits)), (.c (.flt .f32 (a0.getD ((2 : Int).toNat) default).bits)), (.lst 2 ([] : List Turn).length 4 (gl cs_Turn ([] : List Turn)))]))]⟩) (ob := True ∧ True) (by kernel_rfl) ⟨trivial, trivial⟩ ?_
  refine thenQ_normal ?_
  refine AW.block ?_
  refine AW.loopQ (σ := Nat × Int × (List Turn)) (fun p => ⟨[(0, (.v (.one (.c (sl 1 (csF .f32) a0))))), (2, (.v (.one (.ptr 1 0)))), (3, (.v (.one (.ptr 3 0)))), (4, (.v (.one (.c (.int .i64 p.2.1)))))], [(1, (.box [(.c (.flt .f32 (default : F32).bits)), (.c (.flt .f32 (default : F32).bits)), (.c (.flt .f32 (default : F32).bits)), .nils])), (2, (.lst p.2.2.length 4 (gl cs_Turn p.2.2))), (3, (.box [(.c (.flt .f32 (a0.getD ((0 : Int).toNat) default).bits)), (.c (.flt .f32 (a0.getD ((1 : Int).toNat) default).bits)), (.c (.flt .f32 (a0.getD ((2 : Int).toNat) default).bits)), (.lst 2 p.2.2.length 4 (gl cs_Turn p.2.2))]))]⟩) (fun p => spec_l10Pose_l1 K a0 p.1 p.2.1 p.2.2 = some o) (fun p => p.1) (K, (3 : Int), ([] : List Turn)) h ?_
  clear h
  rintro ⟨k, x6, x7⟩ h
  replace h : spec_l10Pose_l1 K a0 k x6 x7 = some o := h
  show AW _ _ (⟨[(0, (.v (.one (.c (sl 1 (csF .f32) a0))))), (2, (.v (.one (.ptr 1 0)))), (3, (.v (.one (.ptr 3 0)))), (4, (.v (.one (.c (.int .i64 x6)))))], [(1, (.box [(.c (.flt .f32 (default : F32).bits)), (.c (.flt .f32 (default : F32).bits)), (.c (.flt .f32 (default : F32).bits)), .nils])), (2, (.lst x7.length 4 (gl cs_Turn x7))), (3, (.box [(.c (.flt .f32 (a0.getD ((0 : Int).toNat) default).bits)), (.c (.flt .f32 (a0.getD ((1 : Int).toNat) default).bits)), (.c (.flt .f32 (a0.getD ((2 : Int).toNat) default).bits)), (.lst 2 x7.length 4 (gl cs_Turn x7))]))]⟩ : St) _
  obtain _ | k := k
  · rw [spec_l10Pose_l1] at h; cases h
  rw [spec_l10Pose_l1] at h
  refine AW.seq ?_
  refine AW.seq ?_
  refine AW.regionA [] [0, 2, 3, 4, 20] [1, 2, 3] (s' := ⟨[(0, (.v (.one (.c (sl 1 (csF .f32) a0))))), (2, (.v (.one (.ptr 1 0)))), (3, (.v (.one (.ptr 3 0)))), (4, (.v (.one (.c (.int .i64 x6))))), (20, (.v (.one (.c (.bool (decide (x6 < (a0.length : Int))))))))], [(1, (.box [(.c (.flt .f32 (default : F32).bits)), (.c (.flt .f32 (default : F32).bits)), (.c (.flt .f32 (default : F32).bits)), .nils])), (2, (.lst x7.length 4 (gl cs_Turn x7))), (3, (.box [(.c (.flt .f32 (a0.getD ((0 : Int).toNat) default).bits)), (.c (.flt .f32 (a0.getD ((1 : Int).toNat) default).bits)), (.c (.flt .f32 (a0.getD ((2 : Int).toNat) default).bits)), (.lst 2 x7.length 4 (gl cs_Turn x7))]))]⟩) (ob := True ∧ True ∧ True ∧ True ∧ True) (by kernel_rfl) ⟨trivial, trivial, trivial, trivial, trivial⟩ ?_
  refine thenQ_normal ?_
  rcases ite2_cases h with ⟨b8, h⟩ | ⟨b8, h⟩
  · refine AW.cond_t rfl b8 ?_
    refine AW.skip ?_
    refine thenQ_normal ?_
    refine AW.seq ?_
    refine AW.block ?_
    obtain ⟨c9, h⟩ := chk_some h
    obtain ⟨c10, h⟩ := chk_some h
    obtain ⟨c11, h⟩ := chk_some h
    obtain ⟨c12, h⟩ := chk_some h
    obtain ⟨c13, h⟩ := chk_some h
    refine AW.drawnA (by kernel_rfl) 25 [.no, .no, .no, .no, .no, .no, .no, .no, .no, .no, .no, .no, .no, .no, .no, .no, .no, .no, .no, .no, .no, .no, .obj 8 ([(Turn.mk (a0.getD x6.toNat default) (a0.getD ((IntKind.i64.wrap (x6 + (1 : Int))).toNat) default) (a0.getD ((IntKind.i64.wrap (x6 + (2 : Int))).toNat) default) (a0.getD ((IntKind.i64.wrap (x6 + (3 : Int))).toNat) default))]).length (gl cs_Turn ([(Turn.mk (a0.getD x6.toNat default) (a0.getD ((IntKind.i64.wrap (x6 + (1 : Int))).toNat) default) (a0.getD ((IntKind.i64.wrap (x6 + (2 : Int))).toNat) default) (a0.getD ((IntKind.i64.wrap (x6 + (3 : Int))).toNat) default))])), .objK 9 (x7 ++ ([(Turn.mk (a0.getD x6.toNat default) (a0.getD ((IntKind.i64.wrap (x6 + (1 : Int))).toNat) default) (a0.getD ((IntKind.i64.wrap (x6 + (2 : Int))).toNat) default) (a0.getD ((IntKind.i64.wrap (x6 + (3 : Int))).toNat) default))])).length (gl cs_Turn (x7 ++ ([(Turn.mk (a0.getD x6.toNat default) (a0.getD ((IntKind.i64.wrap (x6 + (1 : Int))).toNat) default) (a0.getD ((IntKind.i64.wrap (x6 + (2 : Int))).toNat) default) (a0.getD ((IntKind.i64.wrap (x6 + (3 : Int))).toNat) default))])))] [0, 2, 3, 4] [1, 3, 9] (s' := ⟨[(0, (.v (.one (.c (sl 1 (csF .f32) a0))))), (2, (.v (.one (.ptr 1 0)))), (3, (.v (.one (.ptr 3 0)))), (4, (.v (.one (.c (.int .i64 x6)))))], [(1, (.box [(.c (.flt .f32 (default : F32).bits)), (.c (.flt .f32 (default : F32).bits)), (.c (.flt .f32 (default : F32).bits)), .nils])), (3, (.box [(.c (.flt .f32 (a0.getD ((0 : Int).toNat) default).bits)), (.c (.flt .f32 (a0.getD ((1 : Int).toNat) default).bits)), (.c (.flt .f32 (a0.getD ((2 : Int).toNat) default).bits)), (.lst 9 (x7 ++ ([(Turn.mk (a0.getD x6.toNat default) (a0.getD ((IntKind.i64.wrap (x6 + (1 : Int))).toNat) default) (a0.getD ((IntKind.i64.wrap (x6 + (2 : Int))).toNat) default) (a0.getD ((IntKind.i64.wrap (x6 + (3 : Int))).toNat) default))])).length 4 (gl cs_Turn (x7 ++ ([(Turn.mk (a0.getD x6.toNat default) (a0.getD ((IntKind.i64.wrap (x6 + (1 : Int))).toNat) default) (a0.getD ((IntKind.i64.wrap (x6 + (2 : Int))).toNat) default) (a0.getD ((IntKind.i64.wrap (x6 + (3 : Int))).toNat) default))]))))])), (9, (.lst (x7 ++ ([(Turn.mk (a0.getD x6.toNat default) (a0.getD ((IntKind.i64.wrap (x6 + (1 : Int))).toNat) default) (a0.getD ((IntKind.i64.wrap (x6 + (2 : Int))).toNat) default) (a0.getD ((IntKind.i64.wrap (x6 + (3 : Int))).toNat) default))])).length 4 (gl cs_Turn (x7 ++ ([(Turn.mk (a0.getD x6.toNat default) (a0.getD ((IntKind.i64.wrap (x6 + (1 : Int))).toNat) default) (a0.getD ((IntKind.i64.wrap (x6 + (2 : Int))).toNat) default) (a0.getD ((IntKind.i64.wrap (x6 + (3 : Int))).toNat) default))])))))]⟩) (ob := (True ∧ True ∧ True ∧ True ∧ (0 ≤ x6 ∧ x6 < (a0.length : Int)) ∧ True ∧ True ∧ True ∧ True ∧ (0 ≤ (IntKind.i64.wrap (x6 + (1 : Int))) ∧ (IntKind.i64.wrap (x6 + (1 : Int))) < (a0.length : Int)) ∧ True ∧ True ∧ True ∧ True ∧ (0 ≤ (IntKind.i64.wrap (x6 + (2 : Int))) ∧ (IntKind.i64.wrap (x6 + (2 : Int))) < (a0.length : Int)) ∧ True ∧ True ∧ True ∧ True ∧ (0 ≤ (IntKind.i64.wrap (x6 + (3 : Int))) ∧ (IntKind.i64.wrap (x6 + (3 : Int))) < (a0.length : Int)) ∧ True ∧ True ∧ (([(Turn.mk (a0.getD x6.toNat default) (a0.getD ((IntKind.i64.wrap (x6 + (1 : Int))).toNat) default) (a0.getD ((IntKind.i64.wrap (x6 + (2 : Int))).toNat) default) (a0.getD ((IntKind.i64.wrap (x6 + (3 : Int))).toNat) default))]).length = 1 ∧ (((.flt .f32 (a0.getD x6.toNat default).bits) : C) = (.flt .f32 (a0.getD x6.toNat default).bits) ∧ True) ∧ (((.flt .f32 (a0.getD ((IntKind.i64.wrap (x6 + (1 : Int))).toNat) default).bits) : C) = (.flt .f32 (a0.getD ((IntKind.i64.wrap (x6 + (1 : Int))).toNat) default).bits) ∧ True) ∧ (((.flt .f32 (a0.getD ((IntKind.i64.wrap (x6 + (2 : Int))).toNat) default).bits) : C) = (.flt .f32 (a0.getD ((IntKind.i64.wrap (x6 + (2 : Int))).toNat) default).bits) ∧ True) ∧ (((.flt .f32 (a0.getD ((IntKind.i64.wrap (x6 + (3 : Int))).toNat) default).bits) : C) = (.flt .f32 (a0.getD ((IntKind.i64.wrap (x6 + (3 : Int))).toNat) default).bits) ∧ True) ∧ True) ∧ ((x7 ++ ([(Turn.mk (a0.getD x6.toNat default) (a0.getD ((IntKind.i64.wrap (x6 + (1 : Int))).toNat) default) (a0.getD ((IntKind.i64.wrap (x6 + (2 : Int))).toNat) default) (a0.getD ((IntKind.i64.wrap (x6 + (3 : Int))).toNat) default))])).length = x7.length + ([(Turn.mk (a0.getD x6.toNat default) (a0.getD ((IntKind.i64.wrap (x6 + (1 : Int))).toNat) default) (a0.getD ((IntKind.i64.wrap (x6 + (2 : Int))).toNat) default) (a0.getD ((IntKind.i64.wrap (x6 + (3 : Int))).toNat) default))]).length ∧ AppOb (x7.length) (([(Turn.mk (a0.getD x6.toNat default) (a0.getD ((IntKind.i64.wrap (x6 + (1 : Int))).toNat) default) (a0.getD ((IntKind.i64.wrap (x6 + (2 : Int))).toNat) default) (a0.getD ((IntKind.i64.wrap (x6 + (3 : Int))).toNat) default))]).length) 4 (gl cs_Turn x7) (gl cs_Turn ([(Turn.mk (a0.getD x6.toNat default) (a0.getD ((IntKind.i64.wrap (x6 + (1 : Int))).toNat) default) (a0.getD ((IntKind.i64.wrap (x6 + (2 : Int))).toNat) default) (a0.getD ((IntKind.i64.wrap (x6 + (3 : Int))).toNat) default))])) (gl cs_Turn (x7 ++ ([(Turn.mk (a0.getD x6.toNat default) (a0.getD ((IntKind.i64.wrap (x6 + (1 : Int))).toNat) default) (a0.getD ((IntKind.i64.wrap (x6 + (2 : Int))).toNat) default) (a0.getD ((IntKind.i64.wrap (x6 + (3 : Int))).toNat) default))]))) ∧ (∀ i j, i < ([(Turn.mk (a0.getD x6.toNat default) (a0.getD ((IntKind.i64.wrap (x6 + (1 : Int))).toNat) default) (a0.getD ((IntKind.i64.wrap (x6 + (2 : Int))).toNat) default) (a0.getD ((IntKind.i64.wrap (x6 + (3 : Int))).toNat) default))]).length → j < 4 → scalarC (gl cs_Turn ([(Turn.mk (a0.getD x6.toNat default) (a0.getD ((IntKind.i64.wrap (x6 + (1 : Int))).toNat) default) (a0.getD ((IntKind.i64.wrap (x6 + (2 : Int))).toNat) default) (a0.getD ((IntKind.i64.wrap (x6 + (3 : Int))).toNat) default))]) i j)) ∧ (x7.length + ([(Turn.mk (a0.getD x6.toNat default) (a0.getD ((IntKind.i64.wrap (x6 + (1 : Int))).toNat) default) (a0.getD ((IntKind.i64.wrap (x6 + (2 : Int))).toNat) default) (a0.getD ((IntKind.i64.wrap (x6 + (3 : Int))).toNat) default))]).length) * 16 ≤ 140737488355328) ∧ True ∧ True) ∧ (True ∧ True)) (by kernel_rfl) ⟨⟨trivial, trivial, trivial, trivial, c9, trivial, trivial, trivial, trivial, c10, trivial, trivial, trivial, trivial, c11, trivial, trivial, trivial, trivial, c12, trivial, trivial, ⟨rfl, ⟨⟨rfl, trivial⟩, ⟨rfl, trivial⟩, ⟨rfl, trivial⟩, ⟨rfl, trivial⟩, trivial⟩⟩, ⟨List.length_append, gl_append, gl_scalar sc_Turn _, c13⟩, trivial, trivial⟩, ⟨trivial, trivial⟩⟩ ?_
    refine blockQ_normal ?_
    refine thenQ_normal ?_
    refine AW.regionA [] [0, 2, 3, 4] [1, 3, 9] (s' := ⟨[(0, (.v (.one (.c (sl 1 (csF .f32) a0))))), (2, (.v (.one (.ptr 1 0)))), (3, (.v (.one (.ptr 3 0)))), (4, (.v (.one (.c (.int .i64 (IntKind.i64.wrap (x6 + (4 : Int))))))))], [(1, (.box [(.c (.flt .f32 (default : F32).bits)), (.c (.flt .f32 (default : F32).bits)), (.c (.flt .f32 (default : F32).bits)), .nils])), (3, (.box [(.c (.flt .f32 (a0.getD ((0 : Int).toNat) default).bits)), (.c (.flt .f32 (a0.getD ((1 : Int).toNat) default).bits)), (.c (.flt .f32 (a0.getD ((2 : Int).toNat) default).bits)), (.lst 9 (x7 ++ ([(Turn.mk (a0.getD x6.toNat default) (a0.getD ((IntKind.i64.wrap (x6 + (1 : Int))).toNat) default) (a0.getD ((IntKind.i64.wrap (x6 + (2 : Int))).toNat) default) (a0.getD ((IntKind.i64.wrap (x6 + (3 : Int))).toNat) default))])).length 4 (gl cs_Turn (x7 ++ ([(Turn.mk (a0.getD x6.toNat default) (a0.getD ((IntKind.i64.wrap (x6 + (1 : Int))).toNat) default) (a0.getD ((IntKind.i64.wrap (x6 + (2 : Int))).toNat) default) (a0.getD ((IntKind.i64.wrap (x6 + (3 : Int))).toNat) default))]))))])), (9, (.lst (x7 ++ ([(Turn.mk (a0.getD x6.toNat default) (a0.getD ((IntKind.i64.wrap (x6 + (1 : Int))).toNat) default) (a0.getD ((IntKind.i64.wrap (x6 + (2 : Int))).toNat) default) (a0.getD ((IntKind.i64.wrap (x6 + (3 : Int))).toNat) default))])).length 4 (gl cs_Turn (x7 ++ ([(Turn.mk (a0.getD x6.toNat default) (a0.getD ((IntKind.i64.wrap (x6 + (1 : Int))).toNat) default) (a0.getD ((IntKind.i64.wrap (x6 + (2 : Int))).toNat) default) (a0.getD ((IntKind.i64.wrap (x6 + (3 : Int))).toNat) default))])))))]⟩) (ob := True ∧ True ∧ True ∧ True) (by kernel_rfl) ⟨trivial, trivial, trivial, trivial⟩ ?_
    exact loopQ_normal (k, (IntKind.i64.wrap (x6 + (4 : Int))), (x7 ++ ([(Turn.mk (a0.getD x6.toNat default) (a0.getD ((IntKind.i64.wrap (x6 + (1 : Int))).toNat) default) (a0.getD ((IntKind.i64.wrap (x6 + (2 : Int))).toNat) default) (a0.getD ((IntKind.i64.wrap (x6 + (3 : Int))).toNat) default))]))) h (Nat.lt_succ_self k) (Sub.trans (Sub.swap 2 9 _ (by kernel_rfl) (by kernel_rfl)) (Sub.keep [0, 2, 3, 4] [1, 2, 3] (by kernel_rfl) (by kernel_rfl)))
  · refine AW.cond_f rfl b8 ?_
    refine AW.exit ?_
    refine thenQ_exit ?_
    refine loopQ_exit ?_
    refine blockQ_exit ?_
    refine thenQ_normal ?_
    refine AW.seq ?_
    refine AW.regionA [] [2] [1, 2] (s' := ⟨[(2, (.v (.one (.ptr 1 0))))], [(1, (.box [(.c (.flt .f32 (a0.getD ((0 : Int).toNat) default).bits)), (.c (.flt .f32 (a0.getD ((1 : Int).toNat) default).bits)), (.c (.flt .f32 (a0.getD ((2 : Int).toNat) default).bits)), (.lst 2 x7.length 4 (gl cs_Turn x7))])), (2, (.lst x7.length 4 (gl cs_Turn x7)))]⟩) (ob := True ∧ True ∧ True) (by kernel_rfl) ⟨trivial, trivial, trivial⟩ ?_
    refine thenQ_normal ?_
    refine AW.ret ?_
    replace h := some_eq h
    subst h
    exact ⟨.inr rfl, retOK_of [(.agg [(.c (.flt .f32 (a0.getD ((0 : Int).toNat) default).bits)), (.c (.flt .f32 (a0.getD ((1 : Int).toNat) default).bits)), (.c (.flt .f32 (a0.getD ((2 : Int).toNat) default).bits)), (.lst 2 x7.length 4 (gl cs_Turn x7))])] (by kernel_rfl) ⟨⟨⟨rfl, trivial⟩, ⟨rfl, trivial⟩, ⟨rfl, trivial⟩, rfl, trivial⟩, trivial⟩ (of_decide_eq_true (by kernel_rfl))⟩

/-! spec.l10Recover -/
def spec_l10Recover_l4 (K : Nat) (a0 : ByteArray) (x15 : Int) : Nat → Int → (List F32) → Option ((List F32))
  | 0, _, _ => none
  | k + 1, x46, x47 => ite2 ((decide (x46 < (IntKind.i64.wrap (bt a0 x15.toNat))))) (chk (0 ≤ (IntKind.i64.wrap ((IntKind.i64.wrap ((IntKind.i64.wrap (x15 + (1 : Int))) + (IntKind.i64.wrap ((5 : Int) * x46)))) + (1 : Int))) ∧ (IntKind.i64.wrap ((IntKind.i64.wrap ((IntKind.i64.wrap (x15 + (1 : Int))) + (IntKind.i64.wrap ((5 : Int) * x46)))) + (1 : Int))) < (a0.size : Int)) (chk (0 ≤ (IntKind.i64.wrap ((IntKind.i64.wrap ((IntKind.i64.wrap (x15 + (1 : Int))) + (IntKind.i64.wrap ((5 : Int) * x46)))) + (2 : Int))) ∧ (IntKind.i64.wrap ((IntKind.i64.wrap ((IntKind.i64.wrap (x15 + (1 : Int))) + (IntKind.i64.wrap ((5 : Int) * x46)))) + (2 : Int))) < (a0.size : Int)) (chk (0 ≤ (8 : Int)) (chk (0 ≤ (IntKind.i64.wrap ((IntKind.i64.wrap ((IntKind.i64.wrap (x15 + (1 : Int))) + (IntKind.i64.wrap ((5 : Int) * x46)))) + (3 : Int))) ∧ (IntKind.i64.wrap ((IntKind.i64.wrap ((IntKind.i64.wrap (x15 + (1 : Int))) + (IntKind.i64.wrap ((5 : Int) * x46)))) + (3 : Int))) < (a0.size : Int)) (chk (0 ≤ (16 : Int)) (chk (0 ≤ (IntKind.i64.wrap ((IntKind.i64.wrap ((IntKind.i64.wrap (x15 + (1 : Int))) + (IntKind.i64.wrap ((5 : Int) * x46)))) + (4 : Int))) ∧ (IntKind.i64.wrap ((IntKind.i64.wrap ((IntKind.i64.wrap (x15 + (1 : Int))) + (IntKind.i64.wrap ((5 : Int) * x46)))) + (4 : Int))) < (a0.size : Int)) (chk (0 ≤ (24 : Int)) (chk (0 ≤ (IntKind.i64.wrap ((IntKind.i64.wrap (x15 + (1 : Int))) + (IntKind.i64.wrap ((5 : Int) * x46)))) ∧ (IntKind.i64.wrap ((IntKind.i64.wrap (x15 + (1 : Int))) + (IntKind.i64.wrap ((5 : Int) * x46)))) < (a0.size : Int)) (ite2 ((decide ((IntKind.i64.wrap (bt a0 (IntKind.i64.wrap ((IntKind.i64.wrap (x15 + (1 : Int))) + (IntKind.i64.wrap ((5 : Int) * x46)))).toNat)) < (x47.length : Int)))) ((spec_l01From K (bits .or .i64 (bits .or .i64 (bits .or .i64 (IntKind.i64.wrap (bt a0 (IntKind.i64.wrap ((IntKind.i64.wrap ((IntKind.i64.wrap (x15 + (1 : Int))) + (IntKind.i64.wrap ((5 : Int) * x46)))) + (1 : Int))).toNat)) (IntKind.i64.wrap ((IntKind.i64.wrap (bt a0 (IntKind.i64.wrap ((IntKind.i64.wrap ((IntKind.i64.wrap (x15 + (1 : Int))) + (IntKind.i64.wrap ((5 : Int) * x46)))) + (2 : Int))).toNat)) * 2 ^ (min (8 : Int).toNat (IntKind.bits .i64))))) (IntKind.i64.wrap ((IntKind.i64.wrap (bt a0 (IntKind.i64.wrap ((IntKind.i64.wrap ((IntKind.i64.wrap (x15 + (1 : Int))) + (IntKind.i64.wrap ((5 : Int) * x46)))) + (3 : Int))).toNat)) * 2 ^ (min (16 : Int).toNat (IntKind.bits .i64))))) (IntKind.i64.wrap ((IntKind.i64.wrap (bt a0 (IntKind.i64.wrap ((IntKind.i64.wrap ((IntKind.i64.wrap (x15 + (1 : Int))) + (IntKind.i64.wrap ((5 : Int) * x46)))) + (4 : Int))).toNat)) * 2 ^ (min (24 : Int).toNat (IntKind.bits .i64)))))).bind fun v58 => chk (0 ≤ (bt a0 (IntKind.i64.wrap ((IntKind.i64.wrap (x15 + (1 : Int))) + (IntKind.i64.wrap ((5 : Int) * x46)))).toNat) ∧ (bt a0 (IntKind.i64.wrap ((IntKind.i64.wrap (x15 + (1 : Int))) + (IntKind.i64.wrap ((5 : Int) * x46)))).toNat) < (x47.length : Int)) (spec_l10Recover_l4 K a0 x15 k (IntKind.i64.wrap (x46 + (1 : Int))) (x47.set ((bt a0 (IntKind.i64.wrap ((IntKind.i64.wrap (x15 + (1 : Int))) + (IntKind.i64.wrap ((5 : Int) * x46)))).toNat).toNat) v58))) (spec_l10Recover_l4 K a0 x15 k (IntKind.i64.wrap (x46 + (1 : Int))) x47)))))))))) (some x47)

def spec_l10Recover_l3 (K : Nat) (a0 : ByteArray) : Nat → Int → (List Pose) → (List F32) → Option (Recording × Int × Bool)
  | 0, _, _, _ => none
  | k + 1, x15, x16, x17 => (ite2 ((decide (x15 < (a0.size : Int)))) (some (decide ((x16.length : Int) < (64 : Int)))) (some false)).bind fun j19 => ite2 (j19) (chk (0 ≤ x15 ∧ x15 < (a0.size : Int)) (ite2 ((decide ((IntKind.i64.wrap ((IntKind.i64.wrap ((IntKind.i64.wrap (x15 + (1 : Int))) + (IntKind.i64.wrap ((5 : Int) * (IntKind.i64.wrap (bt a0 x15.toNat)))))) + (2 : Int))) > (a0.size : Int)))) (some ((Recording.mk (IntKind.i64.wrap (bt a0 (4 : Int).toNat)) x16), x15, true)) (chk ((([] : List F32).length + x17.length) * 4 ≤ 140737488355328) ((spec_l10Recover_l4 K a0 x15 K (0 : Int) (([] : List F32) ++ x17)).bind fun j42 => chk (0 ≤ (0 : Int) ∧ (0 : Int) ≤ x15 ∧ x15 ≤ (a0.size : Int)) ((spec_l10Record K (a0.extract (0 : Int).toNat x15.toNat) x17 j42).bind fun v62 => chk (0 ≤ x15 ∧ x15 ≤ (IntKind.i64.wrap ((IntKind.i64.wrap ((IntKind.i64.wrap (x15 + (1 : Int))) + (IntKind.i64.wrap ((5 : Int) * (IntKind.i64.wrap (bt a0 x15.toNat)))))) + (2 : Int))) ∧ (IntKind.i64.wrap ((IntKind.i64.wrap ((IntKind.i64.wrap (x15 + (1 : Int))) + (IntKind.i64.wrap ((5 : Int) * (IntKind.i64.wrap (bt a0 x15.toNat)))))) + (2 : Int))) ≤ (a0.size : Int)) (ite2 ((!(v62.toList == (a0.extract x15.toNat (IntKind.i64.wrap ((IntKind.i64.wrap ((IntKind.i64.wrap (x15 + (1 : Int))) + (IntKind.i64.wrap ((5 : Int) * (IntKind.i64.wrap (bt a0 x15.toNat)))))) + (2 : Int))).toNat).toList))) (some ((Recording.mk (IntKind.i64.wrap (bt a0 (4 : Int).toNat)) x16), x15, true)) ((spec_l10Pose K j42).bind fun v66 => chk ((x16.length + ([v66]).length) * 40 ≤ 140737488355328) (spec_l10Recover_l3 K a0 k (IntKind.i64.wrap ((IntKind.i64.wrap ((IntKind.i64.wrap (x15 + (1 : Int))) + (IntKind.i64.wrap ((5 : Int) * (IntKind.i64.wrap (bt a0 x15.toNat)))))) + (2 : Int))) (x16 ++ ([v66])) j42)))))))) (some ((Recording.mk (IntKind.i64.wrap (bt a0 (4 : Int).toNat)) x16), x15, true))

def spec_l10Recover (K : Nat) (a0 : ByteArray) : Option (Recording × Int × Bool) :=
  (ite2 ((decide ((a0.size : Int) < (5 : Int)))) (some true) (chk (0 ≤ (0 : Int) ∧ (0 : Int) ≤ (4 : Int) ∧ (4 : Int) ≤ (a0.size : Int)) (ite2 ((!((a0.extract (0 : Int).toNat (4 : Int).toNat).toList == (ByteArray.mk #[83, 75, 82, 49]).toList))) (some true) (chk (0 ≤ (4 : Int) ∧ (4 : Int) < (a0.size : Int)) ((spec_l06Count K (IntKind.i64.wrap (bt a0 (4 : Int).toNat))).bind fun v5 => some (!v5)))))).bind fun j7 => ite2 (j7) (some ((Recording.mk (0 : Int) ([] : List Pose)), (0 : Int), false)) (chk (0 ≤ (4 : Int) ∧ (4 : Int) < (a0.size : Int)) (chk (0 ≤ (IntKind.i64.wrap ((3 : Int) + (IntKind.i64.wrap ((4 : Int) * (IntKind.i64.wrap (bt a0 (4 : Int).toNat)))))) ∧ (IntKind.i64.wrap ((3 : Int) + (IntKind.i64.wrap ((4 : Int) * (IntKind.i64.wrap (bt a0 (4 : Int).toNat)))))).toNat * 4 ≤ 140737488355328) (spec_l10Recover_l3 K a0 K (5 : Int) ([] : List Pose) (List.replicate (IntKind.i64.wrap ((3 : Int) + (IntKind.i64.wrap ((4 : Int) * (IntKind.i64.wrap (bt a0 (4 : Int).toNat)))))).toNat (default : F32)))))

theorem ok_spec_l10Recover (K : Nat) (a0 : ByteArray) (o : (Recording × Int × Bool)) (h : spec_l10Recover K a0 = some o) : CallOK Try.prog 93 [.one (.str a0)] [.agg (cs_Recording o.1), .one (.int .i64 o.2.1), .one (.bool o.2.2)] := by
  refine callOK_of_AW Try.func93 rfl (by kernel_rfl) (Nat.le_of_ble_eq_true (by kernel_rfl)) ?_
  intro w0
  unfold spec_l10Recover at h
  refine AW.seq ?_
  refine AW.regionA [.box 1] [0, 2] [1] (s' := ⟨[(0, (.v (.one (.c (.str a0))))), (2, (.v (.one (.ptr 1 0))))], [(1, (.box [(.c (.int .i64 (0 : Int))), .nils]))]⟩) (ob := True ∧ True ∧ True ∧ True) (by kernel_rfl) ⟨trivial, trivial, trivial, trivial⟩ ?_
  refine thenQ_normal ?_
  refine AW.seq ?_
  refine AW.regionA [.obj 2 ([] : List Pose).length (gl cs_Pose ([] : List Pose)), .no, .box 3] [0, 2, 5] [1, 2, 3] (s' := ⟨[(0, (.v (.one (.c (.str a0))))), (2, (.v (.one (.ptr 1 0)))), (5, (.v (.one (.ptr 3 0))))], [(1, (.box [(.c (.int .i64 (0 : Int))), .nils])), (2, (.lst ([] : List Pose).length 4 (gl cs_Pose ([] : List Pose)))), (3, (.box [(.c (.int .i64 (0 : Int))), (.lst 2 ([] : List Pose).length 4 (gl cs_Pose ([] : List Pose)))]))]⟩) (ob := (([] : List Pose).length = 0 ∧ True) ∧ True ∧ True ∧ True ∧ True) (by kernel_rfl) ⟨⟨rfl, trivial⟩, trivial, trivial, trivial, trivial⟩ ?_
  refine thenQ_normal ?_
  refine AW.seq ?_
  refine AW.seq ?_
  obtain ⟨j7, e8, h⟩ := bind_some h
  refine AW.join1 (s2 := ⟨[(0, (.v (.one (.c (.str a0))))), (2, (.v (.one (.ptr 1 0)))), (5, (.v (.one (.ptr 3 0)))), (30, (.v (.one (.c (.bool j7)))))], [(1, (.box [(.c (.int .i64 (0 : Int))), .nils])), (2, (.lst ([] : List Pose).length 4 (gl cs_Pose ([] : List Pose)))), (3, (.box [(.c (.int .i64 (0 : Int))), (.lst 2 ([] : List Pose).length 4 (gl cs_Pose ([] : List Pose)))]))]⟩) ?_ ?_
  · rcases ite2_cases e8 with ⟨b1, e8⟩ | ⟨b1, e8⟩
    · replace e8 := some_eq e8
      subst e8
      exact AW.regionA [.no, .no, .no, .dec true] [0, 2, 5, 30] [1, 2, 3] (s' := ⟨[(0, (.v (.one (.c (.str a0))))), (2, (.v (.one (.ptr 1 0)))), (5, (.v (.one (.ptr 3 0)))), (30, (.v (.one (.c (.bool true)))))], [(1, (.box [(.c (.int .i64 (0 : Int))), .nils])), (2, (.lst ([] : List Pose).length 4 (gl cs_Pose ([] : List Pose)))), (3, (.box [(.c (.int .i64 (0 : Int))), (.lst 2 ([] : List Pose).length 4 (gl cs_Pose ([] : List Pose)))]))]⟩) (ob := True ∧ True ∧ True ∧ (True ∧ (decide ((a0.size : Int) < (5 : Int))) = true) ∧ True ∧ True ∧ True ∧ True ∧ True ∧ True ∧ True ∧ True ∧ True ∧ True ∧ True ∧ True) (by kernel_rfl) ⟨trivial, trivial, trivial, ⟨trivial, b1⟩, trivial, trivial, trivial, trivial, trivial, trivial, trivial, trivial, trivial, trivial, trivial, trivial⟩ ⟨rfl, rfl⟩
    · obtain ⟨c2, e8⟩ := chk_some e8
      rcases ite2_cases e8 with ⟨b3, e8⟩ | ⟨b3, e8⟩
      · replace e8 := some_eq e8
        subst e8
        exact AW.regionA [.no, .no, .no, .dec false, .no, .no, .no, .no, .dec true] [0, 2, 5, 30] [1, 2, 3] (s' := ⟨[(0, (.v (.one (.c (.str a0))))), (2, (.v (.one (.ptr 1 0)))), (5, (.v (.one (.ptr 3 0)))), (30, (.v (.one (.c (.bool true)))))], [(1, (.box [(.c (.int .i64 (0 : Int))), .nils])), (2, (.lst ([] : List Pose).length 4 (gl cs_Pose ([] : List Pose)))), (3, (.box [(.c (.int .i64 (0 : Int))), (.lst 2 ([] : List Pose).length 4 (gl cs_Pose ([] : List Pose)))]))]⟩) (ob := True ∧ True ∧ True ∧ (True ∧ (decide ((a0.size : Int) < (5 : Int))) = false) ∧ True ∧ (0 ≤ (0 : Int) ∧ (0 : Int) ≤ (4 : Int) ∧ (4 : Int) ≤ (a0.size : Int)) ∧ True ∧ True ∧ (True ∧ (!((a0.extract (0 : Int).toNat (4 : Int).toNat).toList == (ByteArray.mk #[83, 75, 82, 49]).toList)) = true) ∧ True ∧ True ∧ True ∧ True ∧ True ∧ True ∧ True) (by kernel_rfl) ⟨trivial, trivial, trivial, ⟨trivial, b1⟩, trivial, c2, trivial, trivial, ⟨trivial, b3⟩, trivial, trivial, trivial, trivial, trivial, trivial, trivial⟩ ⟨rfl, rfl⟩
      · obtain ⟨c4, e8⟩ := chk_some e8
        obtain ⟨v5, e6, e8⟩ := bind_some e8
        replace e8 := some_eq e8
        subst e8
        exact AW.regionA [.no, .no, .no, .dec false, .no, .no, .no, .no, .dec false, .no, .no, .no, .call [.one (.int .i64 (IntKind.i64.wrap (bt a0 (4 : Int).toNat)))] [.one (.bool v5)] [[.view]]] [0, 2, 5, 30] [1, 2, 3] (s' := ⟨[(0, (.v (.one (.c (.str a0))))), (2, (.v (.one (.ptr 1 0)))), (5, (.v (.one (.ptr 3 0)))), (30, (.v (.one (.c (.bool (!v5))))))], [(1, (.box [(.c (.int .i64 (0 : Int))), .nils])), (2, (.lst ([] : List Pose).length 4 (gl cs_Pose ([] : List Pose)))), (3, (.box [(.c (.int .i64 (0 : Int))), (.lst 2 ([] : List Pose).length 4 (gl cs_Pose ([] : List Pose)))]))]⟩) (ob := True ∧ True ∧ True ∧ (True ∧ (decide ((a0.size : Int) < (5 : Int))) = false) ∧ True ∧ (0 ≤ (0 : Int) ∧ (0 : Int) ≤ (4 : Int) ∧ (4 : Int) ≤ (a0.size : Int)) ∧ True ∧ True ∧ (True ∧ (!((a0.extract (0 : Int).toNat (4 : Int).toNat).toList == (ByteArray.mk #[83, 75, 82, 49]).toList)) = false) ∧ True ∧ (0 ≤ (4 : Int) ∧ (4 : Int) < (a0.size : Int)) ∧ True ∧ (((((.int .i64 (IntKind.i64.wrap (bt a0 (4 : Int).toNat))) : C) = (.int .i64 (IntKind.i64.wrap (bt a0 (4 : Int).toNat)))) ∧ True) ∧ CallOK Try.prog 122 [.one (.int .i64 (IntKind.i64.wrap (bt a0 (4 : Int).toNat)))] [.one (.bool v5)]) ∧ True ∧ True ∧ True) (by kernel_rfl) ⟨trivial, trivial, trivial, ⟨trivial, b1⟩, trivial, c2, trivial, trivial, ⟨trivial, b3⟩, trivial, c4, trivial, ⟨⟨rfl, trivial⟩, ok_spec_l06Count K (IntKind.i64.wrap (bt a0 (4 : Int).toNat)) v5 e6⟩, trivial, trivial, trivial⟩ ⟨rfl, rfl⟩
  refine thenQ_normal ?_
  rcases ite2_cases h with ⟨b9, h⟩ | ⟨b9, h⟩
  · refine AW.cond_t rfl b9 ?_
    refine AW.seq ?_
    refine AW.regionA [] [2, 3, 4] [1, 2] (s' := ⟨[(2, (.v (.one (.ptr 1 0)))), (3, (.v (.one (.c (.int .i64 (0 : Int)))))), (4, (.v (.one (.c (.bool false)))))], [(1, (.box [(.c (.int .i64 (0 : Int))), (.lst 2 ([] : List Pose).length 4 (gl cs_Pose ([] : List Pose)))])), (2, (.lst ([] : List Pose).length 4 (gl cs_Pose ([] : List Pose))))]⟩) (ob := True ∧ True ∧ True ∧ True ∧ True) (by kernel_rfl) ⟨trivial, trivial, trivial, trivial, trivial⟩ ?_
    refine thenQ_normal ?_
    refine AW.ret ?_
    refine thenQ_ret ?_
    replace h := some_eq h
    subst h
    exact ⟨.inr rfl, retOK_of [(.agg [(.c (.int .i64 (0 : Int))), (.lst 2 ([] : List Pose).length 4 (gl cs_Pose ([] : List Pose)))]), (.one (.c (.int .i64 (0 : Int)))), (.one (.c (.bool false)))] (by kernel_rfl) ⟨⟨⟨rfl, trivial⟩, rfl, trivial⟩, ⟨rfl, trivial⟩, ⟨rfl, trivial⟩, trivial⟩ (of_decide_eq_true (by kernel_rfl))⟩
  · refine AW.cond_f rfl b9 ?_
    refine AW.skip ?_
    refine thenQ_normal ?_
    refine AW.seq ?_
    obtain ⟨c10, h⟩ := chk_some h
    refine AW.regionA [] [0, 2, 5] [1, 2, 3] (s' := ⟨[(0, (.v (.one (.c (.str a0))))), (2, (.v (.one (.ptr 1 0)))), (5, (.v (.one (.ptr 3 0))))], [(1, (.box [(.c (.int .i64 (0 : Int))), .nils])), (2, (.lst ([] : List Pose).length 4 (gl cs_Pose ([] : List Pose)))), (3, (.box [(.c (.int .i64 (IntKind.i64.wrap (bt a0 (4 : Int).toNat)))), (.lst 2 ([] : List Pose).length 4 (gl cs_Pose ([] : List Pose)))]))]⟩) (ob := True ∧ (0 ≤ (4 : Int) ∧ (4 : Int) < (a0.size : Int)) ∧ True ∧ True ∧ True ∧ True) (by kernel_rfl) ⟨trivial, c10, trivial, trivial, trivial, trivial⟩ ?_
    refine thenQ_normal ?_
    refine AW.seq ?_
    obtain ⟨c11, h⟩ := chk_some h
    refine AW.regionA [.no, .no, .no, .no, .objA 4 (List.replicate (IntKind.i64.wrap ((3 : Int) + (IntKind.i64.wrap ((4 : Int) * (IntKind.i64.wrap (bt a0 (4 : Int).toNat)))))).toNat (default : F32)).length (gl (csF .f32) (List.replicate (IntKind.i64.wrap ((3 : Int) + (IntKind.i64.wrap ((4 : Int) * (IntKind.i64.wrap (bt a0 (4 : Int).toNat)))))).toNat (default : F32)))] [0, 2, 5, 6] [1, 2, 3, 4] (s' := ⟨[(0, (.v (.one (.c (.str a0))))), (2, (.v (.one (.ptr 1 0)))), (5, (.v (.one (.ptr 3 0)))), (6, (.v (.one (.arr 4))))], [(1, (.box [(.c (.int .i64 (0 : Int))), .nils])), (2, (.lst ([] : List Pose).length 4 (gl cs_Pose ([] : List Pose)))), (3, (.box [(.c (.int .i64 (IntKind.i64.wrap (bt a0 (4 : Int).toNat)))), (.lst 2 ([] : List Pose).length 4 (gl cs_Pose ([] : List Pose)))])), (4, (.arr false (List.replicate (IntKind.i64.wrap ((3 : Int) + (IntKind.i64.wrap ((4 : Int) * (IntKind.i64.wrap (bt a0 (4 : Int).toNat)))))).toNat (default : F32)).length 1 (gl (csF .f32) (List.replicate (IntKind.i64.wrap ((3 : Int) + (IntKind.i64.wrap ((4 : Int) * (IntKind.i64.wrap (bt a0 (4 : Int).toNat)))))).toNat (default : F32)))))]⟩) (ob := True ∧ True ∧ True ∧ True ∧ (0 ≤ (IntKind.i64.wrap ((3 : Int) + (IntKind.i64.wrap ((4 : Int) * (IntKind.i64.wrap (bt a0 (4 : Int).toNat)))))) ∧ (IntKind.i64.wrap ((3 : Int) + (IntKind.i64.wrap ((4 : Int) * (IntKind.i64.wrap (bt a0 (4 : Int).toNat)))))) = (IntKind.i64.wrap ((3 : Int) + (IntKind.i64.wrap ((4 : Int) * (IntKind.i64.wrap (bt a0 (4 : Int).toNat)))))) ∧ (((List.replicate (IntKind.i64.wrap ((3 : Int) + (IntKind.i64.wrap ((4 : Int) * (IntKind.i64.wrap (bt a0 (4 : Int).toNat)))))).toNat (default : F32)).length : Nat) : Int) = (IntKind.i64.wrap ((3 : Int) + (IntKind.i64.wrap ((4 : Int) * (IntKind.i64.wrap (bt a0 (4 : Int).toNat)))))) ∧ (List.replicate (IntKind.i64.wrap ((3 : Int) + (IntKind.i64.wrap ((4 : Int) * (IntKind.i64.wrap (bt a0 (4 : Int).toNat)))))).toNat (default : F32)).length * 4 ≤ 140737488355328 ∧ ∀ i, i < (List.replicate (IntKind.i64.wrap ((3 : Int) + (IntKind.i64.wrap ((4 : Int) * (IntKind.i64.wrap (bt a0 (4 : Int).toNat)))))).toNat (default : F32)).length → zeroRow (fun _ => none) [(.c (.flt .f32 (default : F32).bits))] (gl (csF .f32) (List.replicate (IntKind.i64.wrap ((3 : Int) + (IntKind.i64.wrap ((4 : Int) * (IntKind.i64.wrap (bt a0 (4 : Int).toNat)))))).toNat (default : F32)) i)) ∧ True ∧ True) (by kernel_rfl) ⟨trivial, trivial, trivial, trivial, ⟨c11.1, rfl, len_rep c11.1, rep_bytes c11.2, fun i hi => gl_zero (cs := (csF .f32)) (zs := [(.c (.flt .f32 (default : F32).bits))]) (n := (IntKind.i64.wrap ((3 : Int) + (IntKind.i64.wrap ((4 : Int) * (IntKind.i64.wrap (bt a0 (4 : Int).toNat)))))).toNat) ⟨⟨rfl, trivial⟩, trivial⟩ i (rep_lt hi)⟩, trivial, trivial⟩ ?_
    refine thenQ_normal ?_
    refine AW.seq ?_
    refine AW.regionA [] [0, 2, 5, 6, 7] [1, 2, 3, 4] (s' := ⟨[(0, (.v (.one (.c (.str a0))))), (2, (.v (.one (.ptr 1 0)))), (5, (.v (.one (.ptr 3 0)))), (6, (.v (.one (.arr 4)))), (7, (.v (.one (.c (.int .i64 (5 : Int))))))], [(1, (.box [(.c (.int .i64 (0 : Int))), .nils])), (2, (.lst ([] : List Pose).length 4 (gl cs_Pose ([] : List Pose)))), (3, (.box [(.c (.int .i64 (IntKind.i64.wrap (bt a0 (4 : Int).toNat)))), (.lst 2 ([] : List Pose).length 4 (gl cs_Pose ([] : List Pose)))])), (4, (.arr false (List.replicate (IntKind.i64.wrap ((3 : Int) + (IntKind.i64.wrap ((4 : Int) * (IntKind.i64.wrap (bt a0 (4 : Int).toNat)))))).toNat (default : F32)).length 1 (gl (csF .f32) (List.replicate (IntKind.i64.wrap ((3 : Int) + (IntKind.i64.wrap ((4 : Int) * (IntKind.i64.wrap (bt a0 (4 : Int).toNat)))))).toNat (default : F32)))))]⟩) (ob := True ∧ True) (by kernel_rfl) ⟨trivial, trivial⟩ ?_
    refine thenQ_normal ?_
    refine AW.seq ?_
    refine AW.block ?_
    refine AW.loopQ (σ := Nat × Int × (List Pose) × (List F32)) (fun p => ⟨[(0, (.v (.one (.c (.str a0))))), (2, (.v (.one (.ptr 1 0)))), (5, (.v (.one (.ptr 3 0)))), (6, (.v (.one (.arr 4)))), (7, (.v (.one (.c (.int .i64 p.2.1)))))], [(1, (.box [(.c (.int .i64 (0 : Int))), .nils])), (2, (.lst p.2.2.1.length 4 (gl cs_Pose p.2.2.1))), (3, (.box [(.c (.int .i64 (IntKind.i64.wrap (bt a0 (4 : Int).toNat)))), (.lst 2 p.2.2.1.length 4 (gl cs_Pose p.2.2.1))])), (4, (.arr false p.2.2.2.length 1 (gl (csF .f32) p.2.2.2)))]⟩) (fun p => spec_l10Recover_l3 K a0 p.1 p.2.1 p.2.2.1 p.2.2.2 = some o) (fun p => p.1) (K, (5 : Int), ([] : List Pose), (List.replicate (IntKind.i64.wrap ((3 : Int) + (IntKind.i64.wrap ((4 : Int) * (IntKind.i64.wrap (bt a0 (4 : Int).toNat)))))).toNat (default : F32))) h ?_
    clear h
    rintro ⟨k, x15, x16, x17⟩ h
    replace h : spec_l10Recover_l3 K a0 k x15 x16 x17 = some o := h
    show AW _ _ (⟨[(0, (.v (.one (.c (.str a0))))), (2, (.v (.one (.ptr 1 0)))), (5, (.v (.one (.ptr 3 0)))), (6, (.v (.one (.arr 4)))), (7, (.v (.one (.c (.int .i64 x15)))))], [(1, (.box [(.c (.int .i64 (0 : Int))), .nils])), (2, (.lst x16.length 4 (gl cs_Pose x16))), (3, (.box [(.c (.int .i64 (IntKind.i64.wrap (bt a0 (4 : Int).toNat)))), (.lst 2 x16.length 4 (gl cs_Pose x16))])), (4, (.arr false x17.length 1 (gl (csF .f32) x17)))]⟩ : St) _
    obtain _ | k := k
    · rw [spec_l10Recover_l3] at h; cases h
    rw [spec_l10Recover_l3] at h
    refine AW.seq ?_
    refine AW.seq ?_
    obtain ⟨j19, e20, h⟩ := bind_some h
    refine AW.join1 (s2 := ⟨[(0, (.v (.one (.c (.str a0))))), (2, (.v (.one (.ptr 1 0)))), (5, (.v (.one (.ptr 3 0)))), (6, (.v (.one (.arr 4)))), (7, (.v (.one (.c (.int .i64 x15))))), (50, (.v (.one (.c (.bool j19)))))], [(1, (.box [(.c (.int .i64 (0 : Int))), .nils])), (2, (.lst x16.length 4 (gl cs_Pose x16))), (3, (.box [(.c (.int .i64 (IntKind.i64.wrap (bt a0 (4 : Int).toNat)))), (.lst 2 x16.length 4 (gl cs_Pose x16))])), (4, (.arr false x17.length 1 (gl (csF .f32) x17)))]⟩) ?_ ?_
    · rcases ite2_cases e20 with ⟨b18, e20⟩ | ⟨b18, e20⟩
      · replace e20 := some_eq e20
        subst e20
        exact AW.regionA [.no, .no, .no, .no, .dec true] [0, 2, 5, 6, 7, 50] [1, 2, 3, 4] (s' := ⟨[(0, (.v (.one (.c (.str a0))))), (2, (.v (.one (.ptr 1 0)))), (5, (.v (.one (.ptr 3 0)))), (6, (.v (.one (.arr 4)))), (7, (.v (.one (.c (.int .i64 x15))))), (50, (.v (.one (.c (.bool (decide ((x16.length : Int) < (64 : Int))))))))], [(1, (.box [(.c (.int .i64 (0 : Int))), .nils])), (2, (.lst x16.length 4 (gl cs_Pose x16))), (3, (.box [(.c (.int .i64 (IntKind.i64.wrap (bt a0 (4 : Int).toNat)))), (.lst 2 x16.length 4 (gl cs_Pose x16))])), (4, (.arr false x17.length 1 (gl (csF .f32) x17)))]⟩) (ob := True ∧ True ∧ True ∧ True ∧ (True ∧ (decide (x15 < (a0.size : Int))) = true) ∧ True ∧ True ∧ True ∧ True ∧ True ∧ True) (by kernel_rfl) ⟨trivial, trivial, trivial, trivial, ⟨trivial, b18⟩, trivial, trivial, trivial, trivial, trivial, trivial⟩ ⟨rfl, rfl⟩
      · replace e20 := some_eq e20
        subst e20
        exact AW.regionA [.no, .no, .no, .no, .dec false] [0, 2, 5, 6, 7, 50] [1, 2, 3, 4] (s' := ⟨[(0, (.v (.one (.c (.str a0))))), (2, (.v (.one (.ptr 1 0)))), (5, (.v (.one (.ptr 3 0)))), (6, (.v (.one (.arr 4)))), (7, (.v (.one (.c (.int .i64 x15))))), (50, (.v (.one (.c (.bool false)))))], [(1, (.box [(.c (.int .i64 (0 : Int))), .nils])), (2, (.lst x16.length 4 (gl cs_Pose x16))), (3, (.box [(.c (.int .i64 (IntKind.i64.wrap (bt a0 (4 : Int).toNat)))), (.lst 2 x16.length 4 (gl cs_Pose x16))])), (4, (.arr false x17.length 1 (gl (csF .f32) x17)))]⟩) (ob := True ∧ True ∧ True ∧ True ∧ (True ∧ (decide (x15 < (a0.size : Int))) = false) ∧ True ∧ True ∧ True ∧ True ∧ True ∧ True) (by kernel_rfl) ⟨trivial, trivial, trivial, trivial, ⟨trivial, b18⟩, trivial, trivial, trivial, trivial, trivial, trivial⟩ ⟨rfl, rfl⟩
    refine thenQ_normal ?_
    rcases ite2_cases h with ⟨b21, h⟩ | ⟨b21, h⟩
    · refine AW.cond_t rfl b21 ?_
      refine AW.skip ?_
      refine thenQ_normal ?_
      refine AW.block ?_
      refine AW.seq ?_
      obtain ⟨c22, h⟩ := chk_some h
      refine AW.regionA [] [0, 2, 5, 6, 7, 8] [1, 2, 3, 4] (s' := ⟨[(0, (.v (.one (.c (.str a0))))), (2, (.v (.one (.ptr 1 0)))), (5, (.v (.one (.ptr 3 0)))), (6, (.v (.one (.arr 4)))), (7, (.v (.one (.c (.int .i64 x15))))), (8, (.v (.one (.c (.int .i64 (IntKind.i64.wrap (bt a0 x15.toNat)))))))], [(1, (.box [(.c (.int .i64 (0 : Int))), .nils])), (2, (.lst x16.length 4 (gl cs_Pose x16))), (3, (.box [(.c (.int .i64 (IntKind.i64.wrap (bt a0 (4 : Int).toNat)))), (.lst 2 x16.length 4 (gl cs_Pose x16))])), (4, (.arr false x17.length 1 (gl (csF .f32) x17)))]⟩) (ob := True ∧ True ∧ (0 ≤ x15 ∧ x15 < (a0.size : Int)) ∧ True ∧ True ∧ True) (by kernel_rfl) ⟨trivial, trivial, c22, trivial, trivial, trivial⟩ ?_
      refine thenQ_normal ?_
      refine AW.seq ?_
      refine AW.regionA [] [0, 2, 5, 6, 7, 8, 9] [1, 2, 3, 4] (s' := ⟨[(0, (.v (.one (.c (.str a0))))), (2, (.v (.one (.ptr 1 0)))), (5, (.v (.one (.ptr 3 0)))), (6, (.v (.one (.arr 4)))), (7, (.v (.one (.c (.int .i64 x15))))), (8, (.v (.one (.c (.int .i64 (IntKind.i64.wrap (bt a0 x15.toNat))))))), (9, (.v (.one (.c (.int .i64 (IntKind.i64.wrap ((IntKind.i64.wrap ((IntKind.i64.wrap (x15 + (1 : Int))) + (IntKind.i64.wrap ((5 : Int) * (IntKind.i64.wrap (bt a0 x15.toNat)))))) + (2 : Int))))))))], [(1, (.box [(.c (.int .i64 (0 : Int))), .nils])), (2, (.lst x16.length 4 (gl cs_Pose x16))), (3, (.box [(.c (.int .i64 (IntKind.i64.wrap (bt a0 (4 : Int).toNat)))), (.lst 2 x16.length 4 (gl cs_Pose x16))])), (4, (.arr false x17.length 1 (gl (csF .f32) x17)))]⟩) (ob := True ∧ True ∧ True ∧ True ∧ True ∧ True ∧ True ∧ True) (by kernel_rfl) ⟨trivial, trivial, trivial, trivial, trivial, trivial, trivial, trivial⟩ ?_
      refine thenQ_normal ?_
      refine AW.seq ?_
      refine AW.seq ?_
      refine AW.regionA [] [0, 2, 5, 6, 7, 8, 9, 64] [1, 2, 3, 4] (s' := ⟨[(0, (.v (.one (.c (.str a0))))), (2, (.v (.one (.ptr 1 0)))), (5, (.v (.one (.ptr 3 0)))), (6, (.v (.one (.arr 4)))), (7, (.v (.one (.c (.int .i64 x15))))), (8, (.v (.one (.c (.int .i64 (IntKind.i64.wrap (bt a0 x15.toNat))))))), (9, (.v (.one (.c (.int .i64 (IntKind.i64.wrap ((IntKind.i64.wrap ((IntKind.i64.wrap (x15 + (1 : Int))) + (IntKind.i64.wrap ((5 : Int) * (IntKind.i64.wrap (bt a0 x15.toNat)))))) + (2 : Int)))))))), (64, (.v (.one (.c (.bool (decide ((IntKind.i64.wrap ((IntKind.i64.wrap ((IntKind.i64.wrap (x15 + (1 : Int))) + (IntKind.i64.wrap ((5 : Int) * (IntKind.i64.wrap (bt a0 x15.toNat)))))) + (2 : Int))) > (a0.size : Int))))))))], [(1, (.box [(.c (.int .i64 (0 : Int))), .nils])), (2, (.lst x16.length 4 (gl cs_Pose x16))), (3, (.box [(.c (.int .i64 (IntKind.i64.wrap (bt a0 (4 : Int).toNat)))), (.lst 2 x16.length 4 (gl cs_Pose x16))])), (4, (.arr false x17.length 1 (gl (csF .f32) x17)))]⟩) (ob := True ∧ True ∧ True ∧ True ∧ True) (by kernel_rfl) ⟨trivial, trivial, trivial, trivial, trivial⟩ ?_
      refine thenQ_normal ?_
      rcases ite2_cases h with ⟨b23, h⟩ | ⟨b23, h⟩
      · refine AW.cond_t rfl b23 ?_
        refine AW.exit ?_
        refine thenQ_exit ?_
        refine blockQ_other rfl ?_
        refine loopQ_exit ?_
        refine blockQ_exit ?_
        refine thenQ_normal ?_
        refine AW.seq ?_
        refine AW.regionA [] [2, 3, 4] [1, 2] (s' := ⟨[(2, (.v (.one (.ptr 1 0)))), (3, (.v (.one (.c (.int .i64 x15))))), (4, (.v (.one (.c (.bool true)))))], [(1, (.box [(.c (.int .i64 (IntKind.i64.wrap (bt a0 (4 : Int).toNat)))), (.lst 2 x16.length 4 (gl cs_Pose x16))])), (2, (.lst x16.length 4 (gl cs_Pose x16)))]⟩) (ob := True ∧ True ∧ True ∧ True ∧ True ∧ True) (by kernel_rfl) ⟨trivial, trivial, trivial, trivial, trivial, trivial⟩ ?_
        refine thenQ_normal ?_
        refine AW.ret ?_
        replace h := some_eq h
        subst h
        exact ⟨.inr rfl, retOK_of [(.agg [(.c (.int .i64 (IntKind.i64.wrap (bt a0 (4 : Int).toNat)))), (.lst 2 x16.length 4 (gl cs_Pose x16))]), (.one (.c (.int .i64 x15))), (.one (.c (.bool true)))] (by kernel_rfl) ⟨⟨⟨rfl, trivial⟩, rfl, trivial⟩, ⟨rfl, trivial⟩, ⟨rfl, trivial⟩, trivial⟩ (of_decide_eq_true (by kernel_rfl))⟩
      · refine AW.cond_f rfl b23 ?_
        refine AW.skip ?_
        refine thenQ_normal ?_
        refine AW.seq ?_
        obtain ⟨c24, h⟩ := chk_some h
        refine AW.regionA [.objA 15 ([] : List F32).length (gl (csF .f32) ([] : List F32)), .no, .objKA 16 (([] : List F32) ++ x17).length (gl (csF .f32) (([] : List F32) ++ x17))] [0, 2, 5, 6, 7, 8, 9, 10] [1, 2, 3, 4, 16] (s' := ⟨[(0, (.v (.one (.c (.str a0))))), (2, (.v (.one (.ptr 1 0)))), (5, (.v (.one (.ptr 3 0)))), (6, (.v (.one (.arr 4)))), (7, (.v (.one (.c (.int .i64 x15))))), (8, (.v (.one (.c (.int .i64 (IntKind.i64.wrap (bt a0 x15.toNat))))))), (9, (.v (.one (.c (.int .i64 (IntKind.i64.wrap ((IntKind.i64.wrap ((IntKind.i64.wrap (x15 + (1 : Int))) + (IntKind.i64.wrap ((5 : Int) * (IntKind.i64.wrap (bt a0 x15.toNat)))))) + (2 : Int)))))))), (10, (.v (.one (.arr 16))))], [(1, (.box [(.c (.int .i64 (0 : Int))), .nils])), (2, (.lst x16.length 4 (gl cs_Pose x16))), (3, (.box [(.c (.int .i64 (IntKind.i64.wrap (bt a0 (4 : Int).toNat)))), (.lst 2 x16.length 4 (gl cs_Pose x16))])), (4, (.arr false x17.length 1 (gl (csF .f32) x17))), (16, (.arr false (([] : List F32) ++ x17).length 1 (gl (csF .f32) (([] : List F32) ++ x17))))]⟩) (ob := (([] : List F32).length = 0 ∧ True) ∧ True ∧ ((([] : List F32) ++ x17).length = ([] : List F32).length + x17.length ∧ AppOb (([] : List F32).length) (x17.length) 1 (gl (csF .f32) ([] : List F32)) (gl (csF .f32) x17) (gl (csF .f32) (([] : List F32) ++ x17)) ∧ (∀ i j, i < x17.length → j < 1 → scalarC (gl (csF .f32) x17 i j)) ∧ (([] : List F32).length + x17.length) * 4 ≤ 140737488355328) ∧ True ∧ True) (by kernel_rfl) ⟨⟨rfl, trivial⟩, trivial, ⟨List.length_append, gl_append, gl_scalar scF _, c24⟩, trivial, trivial⟩ ?_
        refine thenQ_normal ?_
        refine AW.seq ?_
        refine AW.seq ?_
        refine AW.regionA [] [0, 2, 5, 6, 7, 8, 9, 10, 11] [1, 2, 3, 4, 16] (s' := ⟨[(0, (.v (.one (.c (.str a0))))), (2, (.v (.one (.ptr 1 0)))), (5, (.v (.one (.ptr 3 0)))), (6, (.v (.one (.arr 4)))), (7, (.v (.one (.c (.int .i64 x15))))), (8, (.v (.one (.c (.int .i64 (IntKind.i64.wrap (bt a0 x15.toNat))))))), (9, (.v (.one (.c (.int .i64 (IntKind.i64.wrap ((IntKind.i64.wrap ((IntKind.i64.wrap (x15 + (1 : Int))) + (IntKind.i64.wrap ((5 : Int) * (IntKind.i64.wrap (bt a0 x15.toNat)))))) + (2 : Int)))))))), (10, (.v (.one (.arr 16)))), (11, (.v (.one (.c (.int .i64 (0 : Int))))))], [(1, (.box [(.c (.int .i64 (0 : Int))), .nils])), (2, (.lst x16.length 4 (gl cs_Pose x16))), (3, (.box [(.c (.int .i64 (IntKind.i64.wrap (bt a0 (4 : Int).toNat)))), (.lst 2 x16.length 4 (gl cs_Pose x16))])), (4, (.arr false x17.length 1 (gl (csF .f32) x17))), (16, (.arr false (([] : List F32) ++ x17).length 1 (gl (csF .f32) (([] : List F32) ++ x17))))]⟩) (ob := True ∧ True) (by kernel_rfl) ⟨trivial, trivial⟩ ?_
        refine thenQ_normal ?_
        obtain ⟨j42, e43, h⟩ := bind_some h
        refine AW.joinS (s2 := ⟨[(0, (.v (.one (.c (.str a0))))), (2, (.v (.one (.ptr 1 0)))), (5, (.v (.one (.ptr 3 0)))), (6, (.v (.one (.arr 4)))), (7, (.v (.one (.c (.int .i64 x15))))), (9, (.v (.one (.c (.int .i64 (IntKind.i64.wrap ((IntKind.i64.wrap ((IntKind.i64.wrap (x15 + (1 : Int))) + (IntKind.i64.wrap ((5 : Int) * (IntKind.i64.wrap (bt a0 x15.toNat)))))) + (2 : Int)))))))), (10, (.v (.one (.arr 16))))], [(1, (.box [(.c (.int .i64 (0 : Int))), .nils])), (2, (.lst x16.length 4 (gl cs_Pose x16))), (3, (.box [(.c (.int .i64 (IntKind.i64.wrap (bt a0 (4 : Int).toNat)))), (.lst 2 x16.length 4 (gl cs_Pose x16))])), (4, (.arr false x17.length 1 (gl (csF .f32) x17))), (16, (.arr false j42.length 1 (gl (csF .f32) j42)))]⟩) ?_ ?_
        · replace h := e43
          refine AW.block ?_
          refine AW.loopQ (σ := Nat × Int × (List F32)) (fun p => ⟨[(0, (.v (.one (.c (.str a0))))), (2, (.v (.one (.ptr 1 0)))), (5, (.v (.one (.ptr 3 0)))), (6, (.v (.one (.arr 4)))), (7, (.v (.one (.c (.int .i64 x15))))), (8, (.v (.one (.c (.int .i64 (IntKind.i64.wrap (bt a0 x15.toNat))))))), (9, (.v (.one (.c (.int .i64 (IntKind.i64.wrap ((IntKind.i64.wrap ((IntKind.i64.wrap (x15 + (1 : Int))) + (IntKind.i64.wrap ((5 : Int) * (IntKind.i64.wrap (bt a0 x15.toNat)))))) + (2 : Int)))))))), (10, (.v (.one (.arr 16)))), (11, (.v (.one (.c (.int .i64 p.2.1)))))], [(1, (.box [(.c (.int .i64 (0 : Int))), .nils])), (2, (.lst x16.length 4 (gl cs_Pose x16))), (3, (.box [(.c (.int .i64 (IntKind.i64.wrap (bt a0 (4 : Int).toNat)))), (.lst 2 x16.length 4 (gl cs_Pose x16))])), (4, (.arr false x17.length 1 (gl (csF .f32) x17))), (16, (.arr false p.2.2.length 1 (gl (csF .f32) p.2.2)))]⟩) (fun p => spec_l10Recover_l4 K a0 x15 p.1 p.2.1 p.2.2 = some j42) (fun p => p.1) (K, (0 : Int), (([] : List F32) ++ x17)) h ?_
          clear h
          rintro ⟨k, x46, x47⟩ h
          replace h : spec_l10Recover_l4 K a0 x15 k x46 x47 = some j42 := h
          show AW _ _ (⟨[(0, (.v (.one (.c (.str a0))))), (2, (.v (.one (.ptr 1 0)))), (5, (.v (.one (.ptr 3 0)))), (6, (.v (.one (.arr 4)))), (7, (.v (.one (.c (.int .i64 x15))))), (8, (.v (.one (.c (.int .i64 (IntKind.i64.wrap (bt a0 x15.toNat))))))), (9, (.v (.one (.c (.int .i64 (IntKind.i64.wrap ((IntKind.i64.wrap ((IntKind.i64.wrap (x15 + (1 : Int))) + (IntKind.i64.wrap ((5 : Int) * (IntKind.i64.wrap (bt a0 x15.toNat)))))) + (2 : Int)))))))), (10, (.v (.one (.arr 16)))), (11, (.v (.one (.c (.int .i64 x46)))))], [(1, (.box [(.c (.int .i64 (0 : Int))), .nils])), (2, (.lst x16.length 4 (gl cs_Pose x16))), (3, (.box [(.c (.int .i64 (IntKind.i64.wrap (bt a0 (4 : Int).toNat)))), (.lst 2 x16.length 4 (gl cs_Pose x16))])), (4, (.arr false x17.length 1 (gl (csF .f32) x17))), (16, (.arr false x47.length 1 (gl (csF .f32) x47)))]⟩ : St) _
          obtain _ | k := k
          · rw [spec_l10Recover_l4] at h; cases h
          rw [spec_l10Recover_l4] at h
          refine AW.seq ?_
          refine AW.seq ?_
          refine AW.regionA [] [0, 2, 5, 6, 7, 8, 9, 10, 11, 70] [1, 2, 3, 4, 16] (s' := ⟨[(0, (.v (.one (.c (.str a0))))), (2, (.v (.one (.ptr 1 0)))), (5, (.v (.one (.ptr 3 0)))), (6, (.v (.one (.arr 4)))), (7, (.v (.one (.c (.int .i64 x15))))), (8, (.v (.one (.c (.int .i64 (IntKind.i64.wrap (bt a0 x15.toNat))))))), (9, (.v (.one (.c (.int .i64 (IntKind.i64.wrap ((IntKind.i64.wrap ((IntKind.i64.wrap (x15 + (1 : Int))) + (IntKind.i64.wrap ((5 : Int) * (IntKind.i64.wrap (bt a0 x15.toNat)))))) + (2 : Int)))))))), (10, (.v (.one (.arr 16)))), (11, (.v (.one (.c (.int .i64 x46))))), (70, (.v (.one (.c (.bool (decide (x46 < (IntKind.i64.wrap (bt a0 x15.toNat)))))))))], [(1, (.box [(.c (.int .i64 (0 : Int))), .nils])), (2, (.lst x16.length 4 (gl cs_Pose x16))), (3, (.box [(.c (.int .i64 (IntKind.i64.wrap (bt a0 (4 : Int).toNat)))), (.lst 2 x16.length 4 (gl cs_Pose x16))])), (4, (.arr false x17.length 1 (gl (csF .f32) x17))), (16, (.arr false x47.length 1 (gl (csF .f32) x47)))]⟩) (ob := True ∧ True ∧ True ∧ True) (by kernel_rfl) ⟨trivial, trivial, trivial, trivial⟩ ?_
          refine thenQ_normal ?_
          rcases ite2_cases h with ⟨b48, h⟩ | ⟨b48, h⟩
          · refine AW.cond_t rfl b48 ?_
            refine AW.skip ?_
            refine thenQ_normal ?_
            refine AW.seq ?_
            refine AW.block ?_
            refine AW.seq ?_
            refine AW.regionA [] [0, 2, 5, 6, 7, 8, 9, 10, 11, 12] [1, 2, 3, 4, 16] (s' := ⟨[(0, (.v (.one (.c (.str a0))))), (2, (.v (.one (.ptr 1 0)))), (5, (.v (.one (.ptr 3 0)))), (6, (.v (.one (.arr 4)))), (7, (.v (.one (.c (.int .i64 x15))))), (8, (.v (.one (.c (.int .i64 (IntKind.i64.wrap (bt a0 x15.toNat))))))), (9, (.v (.one (.c (.int .i64 (IntKind.i64.wrap ((IntKind.i64.wrap ((IntKind.i64.wrap (x15 + (1 : Int))) + (IntKind.i64.wrap ((5 : Int) * (IntKind.i64.wrap (bt a0 x15.toNat)))))) + (2 : Int)))))))), (10, (.v (.one (.arr 16)))), (11, (.v (.one (.c (.int .i64 x46))))), (12, (.v (.one (.c (.int .i64 (IntKind.i64.wrap ((IntKind.i64.wrap (x15 + (1 : Int))) + (IntKind.i64.wrap ((5 : Int) * x46)))))))))], [(1, (.box [(.c (.int .i64 (0 : Int))), .nils])), (2, (.lst x16.length 4 (gl cs_Pose x16))), (3, (.box [(.c (.int .i64 (IntKind.i64.wrap (bt a0 (4 : Int).toNat)))), (.lst 2 x16.length 4 (gl cs_Pose x16))])), (4, (.arr false x17.length 1 (gl (csF .f32) x17))), (16, (.arr false x47.length 1 (gl (csF .f32) x47)))]⟩) (ob := True ∧ True ∧ True ∧ True ∧ True ∧ True ∧ True) (by kernel_rfl) ⟨trivial, trivial, trivial, trivial, trivial, trivial, trivial⟩ ?_
            refine thenQ_normal ?_
            refine AW.seq ?_
            obtain ⟨c49, h⟩ := chk_some h
            obtain ⟨c50, h⟩ := chk_some h
            obtain ⟨c51, h⟩ := chk_some h
            obtain ⟨c52, h⟩ := chk_some h
            obtain ⟨c53, h⟩ := chk_some h
            obtain ⟨c54, h⟩ := chk_some h
            obtain ⟨c55, h⟩ := chk_some h
            refine AW.drawnA (by kernel_rfl) 27 [] [0, 2, 5, 6, 7, 8, 9, 10, 11, 12, 13] [1, 2, 3, 4, 16] (s' := ⟨[(0, (.v (.one (.c (.str a0))))), (2, (.v (.one (.ptr 1 0)))), (5, (.v (.one (.ptr 3 0)))), (6, (.v (.one (.arr 4)))), (7, (.v (.one (.c (.int .i64 x15))))), (8, (.v (.one (.c (.int .i64 (IntKind.i64.wrap (bt a0 x15.toNat))))))), (9, (.v (.one (.c (.int .i64 (IntKind.i64.wrap ((IntKind.i64.wrap ((IntKind.i64.wrap (x15 + (1 : Int))) + (IntKind.i64.wrap ((5 : Int) * (IntKind.i64.wrap (bt a0 x15.toNat)))))) + (2 : Int)))))))), (10, (.v (.one (.arr 16)))), (11, (.v (.one (.c (.int .i64 x46))))), (12, (.v (.one (.c (.int .i64 (IntKind.i64.wrap ((IntKind.i64.wrap (x15 + (1 : Int))) + (IntKind.i64.wrap ((5 : Int) * x46))))))))), (13, (.v (.one (.c (.int .i64 (bits .or .i64 (bits .or .i64 (bits .or .i64 (IntKind.i64.wrap (bt a0 (IntKind.i64.wrap ((IntKind.i64.wrap ((IntKind.i64.wrap (x15 + (1 : Int))) + (IntKind.i64.wrap ((5 : Int) * x46)))) + (1 : Int))).toNat)) (IntKind.i64.wrap ((IntKind.i64.wrap (bt a0 (IntKind.i64.wrap ((IntKind.i64.wrap ((IntKind.i64.wrap (x15 + (1 : Int))) + (IntKind.i64.wrap ((5 : Int) * x46)))) + (2 : Int))).toNat)) * 2 ^ (min (8 : Int).toNat (IntKind.bits .i64))))) (IntKind.i64.wrap ((IntKind.i64.wrap (bt a0 (IntKind.i64.wrap ((IntKind.i64.wrap ((IntKind.i64.wrap (x15 + (1 : Int))) + (IntKind.i64.wrap ((5 : Int) * x46)))) + (3 : Int))).toNat)) * 2 ^ (min (16 : Int).toNat (IntKind.bits .i64))))) (IntKind.i64.wrap ((IntKind.i64.wrap (bt a0 (IntKind.i64.wrap ((IntKind.i64.wrap ((IntKind.i64.wrap (x15 + (1 : Int))) + (IntKind.i64.wrap ((5 : Int) * x46)))) + (4 : Int))).toNat)) * 2 ^ (min (24 : Int).toNat (IntKind.bits .i64))))))))))], [(1, (.box [(.c (.int .i64 (0 : Int))), .nils])), (2, (.lst x16.length 4 (gl cs_Pose x16))), (3, (.box [(.c (.int .i64 (IntKind.i64.wrap (bt a0 (4 : Int).toNat)))), (.lst 2 x16.length 4 (gl cs_Pose x16))])), (4, (.arr false x17.length 1 (gl (csF .f32) x17))), (16, (.arr false x47.length 1 (gl (csF .f32) x47)))]⟩) (ob := (True ∧ True ∧ True ∧ (0 ≤ (IntKind.i64.wrap ((IntKind.i64.wrap ((IntKind.i64.wrap (x15 + (1 : Int))) + (IntKind.i64.wrap ((5 : Int) * x46)))) + (1 : Int))) ∧ (IntKind.i64.wrap ((IntKind.i64.wrap ((IntKind.i64.wrap (x15 + (1 : Int))) + (IntKind.i64.wrap ((5 : Int) * x46)))) + (1 : Int))) < (a0.size : Int)) ∧ True ∧ True ∧ True ∧ True ∧ (0 ≤ (IntKind.i64.wrap ((IntKind.i64.wrap ((IntKind.i64.wrap (x15 + (1 : Int))) + (IntKind.i64.wrap ((5 : Int) * x46)))) + (2 : Int))) ∧ (IntKind.i64.wrap ((IntKind.i64.wrap ((IntKind.i64.wrap (x15 + (1 : Int))) + (IntKind.i64.wrap ((5 : Int) * x46)))) + (2 : Int))) < (a0.size : Int)) ∧ True ∧ (0 ≤ (8 : Int)) ∧ True ∧ True ∧ True ∧ True ∧ (0 ≤ (IntKind.i64.wrap ((IntKind.i64.wrap ((IntKind.i64.wrap (x15 + (1 : Int))) + (IntKind.i64.wrap ((5 : Int) * x46)))) + (3 : Int))) ∧ (IntKind.i64.wrap ((IntKind.i64.wrap ((IntKind.i64.wrap (x15 + (1 : Int))) + (IntKind.i64.wrap ((5 : Int) * x46)))) + (3 : Int))) < (a0.size : Int)) ∧ True ∧ (0 ≤ (16 : Int)) ∧ True ∧ True ∧ True ∧ True ∧ (0 ≤ (IntKind.i64.wrap ((IntKind.i64.wrap ((IntKind.i64.wrap (x15 + (1 : Int))) + (IntKind.i64.wrap ((5 : Int) * x46)))) + (4 : Int))) ∧ (IntKind.i64.wrap ((IntKind.i64.wrap ((IntKind.i64.wrap (x15 + (1 : Int))) + (IntKind.i64.wrap ((5 : Int) * x46)))) + (4 : Int))) < (a0.size : Int)) ∧ True ∧ (0 ≤ (24 : Int)) ∧ True ∧ True ∧ True) ∧ (True)) (by kernel_rfl) ⟨⟨trivial, trivial, trivial, c49, trivial, trivial, trivial, trivial, c50, trivial, c51, trivial, trivial, trivial, trivial, c52, trivial, c53, trivial, trivial, trivial, trivial, c54, trivial, c55, trivial, trivial, trivial⟩, trivial⟩ ?_
            refine thenQ_normal ?_
            refine AW.seq ?_
            obtain ⟨c56, h⟩ := chk_some h
            refine AW.regionA [] [0, 2, 5, 6, 7, 8, 9, 10, 11, 12, 13, 110] [1, 2, 3, 4, 16] (s' := ⟨[(0, (.v (.one (.c (.str a0))))), (2, (.v (.one (.ptr 1 0)))), (5, (.v (.one (.ptr 3 0)))), (6, (.v (.one (.arr 4)))), (7, (.v (.one (.c (.int .i64 x15))))), (8, (.v (.one (.c (.int .i64 (IntKind.i64.wrap (bt a0 x15.toNat))))))), (9, (.v (.one (.c (.int .i64 (IntKind.i64.wrap ((IntKind.i64.wrap ((IntKind.i64.wrap (x15 + (1 : Int))) + (IntKind.i64.wrap ((5 : Int) * (IntKind.i64.wrap (bt a0 x15.toNat)))))) + (2 : Int)))))))), (10, (.v (.one (.arr 16)))), (11, (.v (.one (.c (.int .i64 x46))))), (12, (.v (.one (.c (.int .i64 (IntKind.i64.wrap ((IntKind.i64.wrap (x15 + (1 : Int))) + (IntKind.i64.wrap ((5 : Int) * x46))))))))), (13, (.v (.one (.c (.int .i64 (bits .or .i64 (bits .or .i64 (bits .or .i64 (IntKind.i64.wrap (bt a0 (IntKind.i64.wrap ((IntKind.i64.wrap ((IntKind.i64.wrap (x15 + (1 : Int))) + (IntKind.i64.wrap ((5 : Int) * x46)))) + (1 : Int))).toNat)) (IntKind.i64.wrap ((IntKind.i64.wrap (bt a0 (IntKind.i64.wrap ((IntKind.i64.wrap ((IntKind.i64.wrap (x15 + (1 : Int))) + (IntKind.i64.wrap ((5 : Int) * x46)))) + (2 : Int))).toNat)) * 2 ^ (min (8 : Int).toNat (IntKind.bits .i64))))) (IntKind.i64.wrap ((IntKind.i64.wrap (bt a0 (IntKind.i64.wrap ((IntKind.i64.wrap ((IntKind.i64.wrap (x15 + (1 : Int))) + (IntKind.i64.wrap ((5 : Int) * x46)))) + (3 : Int))).toNat)) * 2 ^ (min (16 : Int).toNat (IntKind.bits .i64))))) (IntKind.i64.wrap ((IntKind.i64.wrap (bt a0 (IntKind.i64.wrap ((IntKind.i64.wrap ((IntKind.i64.wrap (x15 + (1 : Int))) + (IntKind.i64.wrap ((5 : Int) * x46)))) + (4 : Int))).toNat)) * 2 ^ (min (24 : Int).toNat (IntKind.bits .i64)))))))))), (110, (.v (.one (.c (.bool (decide ((IntKind.i64.wrap (bt a0 (IntKind.i64.wrap ((IntKind.i64.wrap (x15 + (1 : Int))) + (IntKind.i64.wrap ((5 : Int) * x46)))).toNat)) < (x47.length : Int))))))))], [(1, (.box [(.c (.int .i64 (0 : Int))), .nils])), (2, (.lst x16.length 4 (gl cs_Pose x16))), (3, (.box [(.c (.int .i64 (IntKind.i64.wrap (bt a0 (4 : Int).toNat)))), (.lst 2 x16.length 4 (gl cs_Pose x16))])), (4, (.arr false x17.length 1 (gl (csF .f32) x17))), (16, (.arr false x47.length 1 (gl (csF .f32) x47)))]⟩) (ob := True ∧ True ∧ (0 ≤ (IntKind.i64.wrap ((IntKind.i64.wrap (x15 + (1 : Int))) + (IntKind.i64.wrap ((5 : Int) * x46)))) ∧ (IntKind.i64.wrap ((IntKind.i64.wrap (x15 + (1 : Int))) + (IntKind.i64.wrap ((5 : Int) * x46)))) < (a0.size : Int)) ∧ True ∧ True ∧ True ∧ True ∧ True) (by kernel_rfl) ⟨trivial, trivial, c56, trivial, trivial, trivial, trivial, trivial⟩ ?_
            refine thenQ_normal ?_
            rcases ite2_cases h with ⟨b57, h⟩ | ⟨b57, h⟩
            · refine AW.cond_t rfl b57 ?_
              obtain ⟨v58, e59, h⟩ := bind_some h
              obtain ⟨c60, h⟩ := chk_some h
              refine AW.drawnA (by kernel_rfl) 7 [.no, .no, .no, .no, .no, .call [.one (.int .i64 (bits .or .i64 (bits .or .i64 (bits .or .i64 (IntKind.i64.wrap (bt a0 (IntKind.i64.wrap ((IntKind.i64.wrap ((IntKind.i64.wrap (x15 + (1 : Int))) + (IntKind.i64.wrap ((5 : Int) * x46)))) + (1 : Int))).toNat)) (IntKind.i64.wrap ((IntKind.i64.wrap (bt a0 (IntKind.i64.wrap ((IntKind.i64.wrap ((IntKind.i64.wrap (x15 + (1 : Int))) + (IntKind.i64.wrap ((5 : Int) * x46)))) + (2 : Int))).toNat)) * 2 ^ (min (8 : Int).toNat (IntKind.bits .i64))))) (IntKind.i64.wrap ((IntKind.i64.wrap (bt a0 (IntKind.i64.wrap ((IntKind.i64.wrap ((IntKind.i64.wrap (x15 + (1 : Int))) + (IntKind.i64.wrap ((5 : Int) * x46)))) + (3 : Int))).toNat)) * 2 ^ (min (16 : Int).toNat (IntKind.bits .i64))))) (IntKind.i64.wrap ((IntKind.i64.wrap (bt a0 (IntKind.i64.wrap ((IntKind.i64.wrap ((IntKind.i64.wrap (x15 + (1 : Int))) + (IntKind.i64.wrap ((5 : Int) * x46)))) + (4 : Int))).toNat)) * 2 ^ (min (24 : Int).toNat (IntKind.bits .i64))))))] [.one (.flt .f32 v58.bits)] [[.view]], .no, .set (x47.set ((bt a0 (IntKind.i64.wrap ((IntKind.i64.wrap (x15 + (1 : Int))) + (IntKind.i64.wrap ((5 : Int) * x46)))).toNat).toNat) v58).length (gl (csF .f32) (x47.set ((bt a0 (IntKind.i64.wrap ((IntKind.i64.wrap (x15 + (1 : Int))) + (IntKind.i64.wrap ((5 : Int) * x46)))).toNat).toNat) v58)) ((List.range 1).map fun j => ((csF .f32) v58).getD (0 + j) .nilptr)] [0, 2, 5, 6, 7, 8, 9, 10, 11] [1, 2, 3, 4, 16] (s' := ⟨[(0, (.v (.one (.c (.str a0))))), (2, (.v (.one (.ptr 1 0)))), (5, (.v (.one (.ptr 3 0)))), (6, (.v (.one (.arr 4)))), (7, (.v (.one (.c (.int .i64 x15))))), (8, (.v (.one (.c (.int .i64 (IntKind.i64.wrap (bt a0 x15.toNat))))))), (9, (.v (.one (.c (.int .i64 (IntKind.i64.wrap ((IntKind.i64.wrap ((IntKind.i64.wrap (x15 + (1 : Int))) + (IntKind.i64.wrap ((5 : Int) * (IntKind.i64.wrap (bt a0 x15.toNat)))))) + (2 : Int)))))))), (10, (.v (.one (.arr 16)))), (11, (.v (.one (.c (.int .i64 x46)))))], [(1, (.box [(.c (.int .i64 (0 : Int))), .nils])), (2, (.lst x16.length 4 (gl cs_Pose x16))), (3, (.box [(.c (.int .i64 (IntKind.i64.wrap (bt a0 (4 : Int).toNat)))), (.lst 2 x16.length 4 (gl cs_Pose x16))])), (4, (.arr false x17.length 1 (gl (csF .f32) x17))), (16, (.arr false (x47.set ((bt a0 (IntKind.i64.wrap ((IntKind.i64.wrap (x15 + (1 : Int))) + (IntKind.i64.wrap ((5 : Int) * x46)))).toNat).toNat) v58).length 1 (gl (csF .f32) (x47.set ((bt a0 (IntKind.i64.wrap ((IntKind.i64.wrap (x15 + (1 : Int))) + (IntKind.i64.wrap ((5 : Int) * x46)))).toNat).toNat) v58))))]⟩) (ob := (True ∧ True ∧ True ∧ (0 ≤ (IntKind.i64.wrap ((IntKind.i64.wrap (x15 + (1 : Int))) + (IntKind.i64.wrap ((5 : Int) * x46)))) ∧ (IntKind.i64.wrap ((IntKind.i64.wrap (x15 + (1 : Int))) + (IntKind.i64.wrap ((5 : Int) * x46)))) < (a0.size : Int)) ∧ True ∧ (((((.int .i64 (bits .or .i64 (bits .or .i64 (bits .or .i64 (IntKind.i64.wrap (bt a0 (IntKind.i64.wrap ((IntKind.i64.wrap ((IntKind.i64.wrap (x15 + (1 : Int))) + (IntKind.i64.wrap ((5 : Int) * x46)))) + (1 : Int))).toNat)) (IntKind.i64.wrap ((IntKind.i64.wrap (bt a0 (IntKind.i64.wrap ((IntKind.i64.wrap ((IntKind.i64.wrap (x15 + (1 : Int))) + (IntKind.i64.wrap ((5 : Int) * x46)))) + (2 : Int))).toNat)) * 2 ^ (min (8 : Int).toNat (IntKind.bits .i64))))) (IntKind.i64.wrap ((IntKind.i64.wrap (bt a0 (IntKind.i64.wrap ((IntKind.i64.wrap ((IntKind.i64.wrap (x15 + (1 : Int))) + (IntKind.i64.wrap ((5 : Int) * x46)))) + (3 : Int))).toNat)) * 2 ^ (min (16 : Int).toNat (IntKind.bits .i64))))) (IntKind.i64.wrap ((IntKind.i64.wrap (bt a0 (IntKind.i64.wrap ((IntKind.i64.wrap ((IntKind.i64.wrap (x15 + (1 : Int))) + (IntKind.i64.wrap ((5 : Int) * x46)))) + (4 : Int))).toNat)) * 2 ^ (min (24 : Int).toNat (IntKind.bits .i64)))))) : C) = (.int .i64 (bits .or .i64 (bits .or .i64 (bits .or .i64 (IntKind.i64.wrap (bt a0 (IntKind.i64.wrap ((IntKind.i64.wrap ((IntKind.i64.wrap (x15 + (1 : Int))) + (IntKind.i64.wrap ((5 : Int) * x46)))) + (1 : Int))).toNat)) (IntKind.i64.wrap ((IntKind.i64.wrap (bt a0 (IntKind.i64.wrap ((IntKind.i64.wrap ((IntKind.i64.wrap (x15 + (1 : Int))) + (IntKind.i64.wrap ((5 : Int) * x46)))) + (2 : Int))).toNat)) * 2 ^ (min (8 : Int).toNat (IntKind.bits .i64))))) (IntKind.i64.wrap ((IntKind.i64.wrap (bt a0 (IntKind.i64.wrap ((IntKind.i64.wrap ((IntKind.i64.wrap (x15 + (1 : Int))) + (IntKind.i64.wrap ((5 : Int) * x46)))) + (3 : Int))).toNat)) * 2 ^ (min (16 : Int).toNat (IntKind.bits .i64))))) (IntKind.i64.wrap ((IntKind.i64.wrap (bt a0 (IntKind.i64.wrap ((IntKind.i64.wrap ((IntKind.i64.wrap (x15 + (1 : Int))) + (IntKind.i64.wrap ((5 : Int) * x46)))) + (4 : Int))).toNat)) * 2 ^ (min (24 : Int).toNat (IntKind.bits .i64))))))) ∧ True) ∧ CallOK Try.prog 132 [.one (.int .i64 (bits .or .i64 (bits .or .i64 (bits .or .i64 (IntKind.i64.wrap (bt a0 (IntKind.i64.wrap ((IntKind.i64.wrap ((IntKind.i64.wrap (x15 + (1 : Int))) + (IntKind.i64.wrap ((5 : Int) * x46)))) + (1 : Int))).toNat)) (IntKind.i64.wrap ((IntKind.i64.wrap (bt a0 (IntKind.i64.wrap ((IntKind.i64.wrap ((IntKind.i64.wrap (x15 + (1 : Int))) + (IntKind.i64.wrap ((5 : Int) * x46)))) + (2 : Int))).toNat)) * 2 ^ (min (8 : Int).toNat (IntKind.bits .i64))))) (IntKind.i64.wrap ((IntKind.i64.wrap (bt a0 (IntKind.i64.wrap ((IntKind.i64.wrap ((IntKind.i64.wrap (x15 + (1 : Int))) + (IntKind.i64.wrap ((5 : Int) * x46)))) + (3 : Int))).toNat)) * 2 ^ (min (16 : Int).toNat (IntKind.bits .i64))))) (IntKind.i64.wrap ((IntKind.i64.wrap (bt a0 (IntKind.i64.wrap ((IntKind.i64.wrap ((IntKind.i64.wrap (x15 + (1 : Int))) + (IntKind.i64.wrap ((5 : Int) * x46)))) + (4 : Int))).toNat)) * 2 ^ (min (24 : Int).toNat (IntKind.bits .i64))))))] [.one (.flt .f32 v58.bits)]) ∧ (0 ≤ (bt a0 (IntKind.i64.wrap ((IntKind.i64.wrap (x15 + (1 : Int))) + (IntKind.i64.wrap ((5 : Int) * x46)))).toNat) ∧ (bt a0 (IntKind.i64.wrap ((IntKind.i64.wrap (x15 + (1 : Int))) + (IntKind.i64.wrap ((5 : Int) * x46)))).toNat) < (x47.length : Int)) ∧ True) ∧ (((x47.set ((bt a0 (IntKind.i64.wrap ((IntKind.i64.wrap (x15 + (1 : Int))) + (IntKind.i64.wrap ((5 : Int) * x46)))).toNat).toNat) v58).length = x47.length ∧ SetOb x47.length 1 ((bt a0 (IntKind.i64.wrap ((IntKind.i64.wrap (x15 + (1 : Int))) + (IntKind.i64.wrap ((5 : Int) * x46)))).toNat).toNat) 0 1 (gl (csF .f32) x47) (gl (csF .f32) (x47.set ((bt a0 (IntKind.i64.wrap ((IntKind.i64.wrap (x15 + (1 : Int))) + (IntKind.i64.wrap ((5 : Int) * x46)))).toNat).toNat) v58)) ∧ ((List.range 1).map fun j => ((csF .f32) v58).getD (0 + j) .nilptr) = ((List.range 1).map fun j => gl (csF .f32) (x47.set ((bt a0 (IntKind.i64.wrap ((IntKind.i64.wrap (x15 + (1 : Int))) + (IntKind.i64.wrap ((5 : Int) * x46)))).toNat).toNat) v58) ((bt a0 (IntKind.i64.wrap ((IntKind.i64.wrap (x15 + (1 : Int))) + (IntKind.i64.wrap ((5 : Int) * x46)))).toNat).toNat) (0 + j)) ∧ ((((.flt .f32 v58.bits) : C) = (.flt .f32 v58.bits) ∧ True) ∧ True) ∧ (false = true → ∀ j, j < 1 → isSeq (gl (csF .f32) x47 ((bt a0 (IntKind.i64.wrap ((IntKind.i64.wrap (x15 + (1 : Int))) + (IntKind.i64.wrap ((5 : Int) * x46)))).toNat).toNat) (0 + j)) = false ∧ isSeq (gl (csF .f32) (x47.set ((bt a0 (IntKind.i64.wrap ((IntKind.i64.wrap (x15 + (1 : Int))) + (IntKind.i64.wrap ((5 : Int) * x46)))).toNat).toNat) v58) ((bt a0 (IntKind.i64.wrap ((IntKind.i64.wrap (x15 + (1 : Int))) + (IntKind.i64.wrap ((5 : Int) * x46)))).toNat).toNat) (0 + j)) = false)) ∧ True)) (by kernel_rfl) ⟨⟨trivial, trivial, trivial, c56, trivial, ⟨⟨rfl, trivial⟩, ok_spec_l01From K (bits .or .i64 (bits .or .i64 (bits .or .i64 (IntKind.i64.wrap (bt a0 (IntKind.i64.wrap ((IntKind.i64.wrap ((IntKind.i64.wrap (x15 + (1 : Int))) + (IntKind.i64.wrap ((5 : Int) * x46)))) + (1 : Int))).toNat)) (IntKind.i64.wrap ((IntKind.i64.wrap (bt a0 (IntKind.i64.wrap ((IntKind.i64.wrap ((IntKind.i64.wrap (x15 + (1 : Int))) + (IntKind.i64.wrap ((5 : Int) * x46)))) + (2 : Int))).toNat)) * 2 ^ (min (8 : Int).toNat (IntKind.bits .i64))))) (IntKind.i64.wrap ((IntKind.i64.wrap (bt a0 (IntKind.i64.wrap ((IntKind.i64.wrap ((IntKind.i64.wrap (x15 + (1 : Int))) + (IntKind.i64.wrap ((5 : Int) * x46)))) + (3 : Int))).toNat)) * 2 ^ (min (16 : Int).toNat (IntKind.bits .i64))))) (IntKind.i64.wrap ((IntKind.i64.wrap (bt a0 (IntKind.i64.wrap ((IntKind.i64.wrap ((IntKind.i64.wrap (x15 + (1 : Int))) + (IntKind.i64.wrap ((5 : Int) * x46)))) + (4 : Int))).toNat)) * 2 ^ (min (24 : Int).toNat (IntKind.bits .i64))))) v58 e59⟩, c60, trivial⟩, ⟨⟨List.length_set, gl_set, (gl_atp (lt_of_bound c60)).symm, ⟨⟨rfl, trivial⟩, trivial⟩, (fun h => nomatch h)⟩, trivial⟩⟩ ?_
              refine blockQ_normal ?_
              refine thenQ_normal ?_
              refine AW.regionA [] [0, 2, 5, 6, 7, 8, 9, 10, 11] [1, 2, 3, 4, 16] (s' := ⟨[(0, (.v (.one (.c (.str a0))))), (2, (.v (.one (.ptr 1 0)))), (5, (.v (.one (.ptr 3 0)))), (6, (.v (.one (.arr 4)))), (7, (.v (.one (.c (.int .i64 x15))))), (8, (.v (.one (.c (.int .i64 (IntKind.i64.wrap (bt a0 x15.toNat))))))), (9, (.v (.one (.c (.int .i64 (IntKind.i64.wrap ((IntKind.i64.wrap ((IntKind.i64.wrap (x15 + (1 : Int))) + (IntKind.i64.wrap ((5 : Int) * (IntKind.i64.wrap (bt a0 x15.toNat)))))) + (2 : Int)))))))), (10, (.v (.one (.arr 16)))), (11, (.v (.one (.c (.int .i64 (IntKind.i64.wrap (x46 + (1 : Int))))))))], [(1, (.box [(.c (.int .i64 (0 : Int))), .nils])), (2, (.lst x16.length 4 (gl cs_Pose x16))), (3, (.box [(.c (.int .i64 (IntKind.i64.wrap (bt a0 (4 : Int).toNat)))), (.lst 2 x16.length 4 (gl cs_Pose x16))])), (4, (.arr false x17.length 1 (gl (csF .f32) x17))), (16, (.arr false (x47.set ((bt a0 (IntKind.i64.wrap ((IntKind.i64.wrap (x15 + (1 : Int))) + (IntKind.i64.wrap ((5 : Int) * x46)))).toNat).toNat) v58).length 1 (gl (csF .f32) (x47.set ((bt a0 (IntKind.i64.wrap ((IntKind.i64.wrap (x15 + (1 : Int))) + (IntKind.i64.wrap ((5 : Int) * x46)))).toNat).toNat) v58))))]⟩) (ob := True ∧ True ∧ True ∧ True) (by kernel_rfl) ⟨trivial, trivial, trivial, trivial⟩ ?_
              exact loopQ_normal (k, (IntKind.i64.wrap (x46 + (1 : Int))), (x47.set ((bt a0 (IntKind.i64.wrap ((IntKind.i64.wrap (x15 + (1 : Int))) + (IntKind.i64.wrap ((5 : Int) * x46)))).toNat).toNat) v58)) h (Nat.lt_succ_self k) (Sub.keep [0, 2, 5, 6, 7, 8, 9, 10, 11] [1, 2, 3, 4, 16] (by kernel_rfl) (by kernel_rfl))
            · refine AW.cond_f rfl b57 ?_
              refine AW.skip ?_
              refine blockQ_normal ?_
              refine thenQ_normal ?_
              refine AW.regionA [] [0, 2, 5, 6, 7, 8, 9, 10, 11] [1, 2, 3, 4, 16] (s' := ⟨[(0, (.v (.one (.c (.str a0))))), (2, (.v (.one (.ptr 1 0)))), (5, (.v (.one (.ptr 3 0)))), (6, (.v (.one (.arr 4)))), (7, (.v (.one (.c (.int .i64 x15))))), (8, (.v (.one (.c (.int .i64 (IntKind.i64.wrap (bt a0 x15.toNat))))))), (9, (.v (.one (.c (.int .i64 (IntKind.i64.wrap ((IntKind.i64.wrap ((IntKind.i64.wrap (x15 + (1 : Int))) + (IntKind.i64.wrap ((5 : Int) * (IntKind.i64.wrap (bt a0 x15.toNat)))))) + (2 : Int)))))))), (10, (.v (.one (.arr 16)))), (11, (.v (.one (.c (.int .i64 (IntKind.i64.wrap (x46 + (1 : Int))))))))], [(1, (.box [(.c (.int .i64 (0 : Int))), .nils])), (2, (.lst x16.length 4 (gl cs_Pose x16))), (3, (.box [(.c (.int .i64 (IntKind.i64.wrap (bt a0 (4 : Int).toNat)))), (.lst 2 x16.length 4 (gl cs_Pose x16))])), (4, (.arr false x17.length 1 (gl (csF .f32) x17))), (16, (.arr false x47.length 1 (gl (csF .f32) x47)))]⟩) (ob := True ∧ True ∧ True ∧ True) (by kernel_rfl) ⟨trivial, trivial, trivial, trivial⟩ ?_
              exact loopQ_normal (k, (IntKind.i64.wrap (x46 + (1 : Int))), x47) h (Nat.lt_succ_self k) (Sub.keep [0, 2, 5, 6, 7, 8, 9, 10, 11] [1, 2, 3, 4, 16] (by kernel_rfl) (by kernel_rfl))
          · refine AW.cond_f rfl b48 ?_
            refine AW.exit ?_
            refine thenQ_exit ?_
            refine loopQ_exit ?_
            refine blockQ_exit ?_
            replace h := some_eq h
            subst h
            exact ⟨rfl, Sub.keep [0, 2, 5, 6, 7, 9, 10] [1, 2, 3, 4, 16] (by kernel_rfl) (by kernel_rfl)⟩
        refine thenQ_normal ?_
        refine AW.seq ?_
        refine AW.seq ?_
        obtain ⟨c61, h⟩ := chk_some h
        obtain ⟨v62, e63, h⟩ := bind_some h
        obtain ⟨c64, h⟩ := chk_some h
        refine AW.drawnA (by kernel_rfl) 11 [.no, .no, .no, .no, .no, .call [.one (.str (a0.extract (0 : Int).toNat x15.toNat)), .one (sl 1 (csF .f32) x17), .one (sl 1 (csF .f32) j42)] [.one (.str v62)] [[.view]]] [0, 2, 5, 7, 9, 10, 128] [1, 2, 3, 16] (s' := ⟨[(0, (.v (.one (.c (.str a0))))), (2, (.v (.one (.ptr 1 0)))), (5, (.v (.one (.ptr 3 0)))), (7, (.v (.one (.c (.int .i64 x15))))), (9, (.v (.one (.c (.int .i64 (IntKind.i64.wrap ((IntKind.i64.wrap ((IntKind.i64.wrap (x15 + (1 : Int))) + (IntKind.i64.wrap ((5 : Int) * (IntKind.i64.wrap (bt a0 x15.toNat)))))) + (2 : Int)))))))), (10, (.v (.one (.arr 16)))), (128, (.v (.one (.c (.bool (!(v62.toList == (a0.extract x15.toNat (IntKind.i64.wrap ((IntKind.i64.wrap ((IntKind.i64.wrap (x15 + (1 : Int))) + (IntKind.i64.wrap ((5 : Int) * (IntKind.i64.wrap (bt a0 x15.toNat)))))) + (2 : Int))).toNat).toList)))))))], [(1, (.box [(.c (.int .i64 (0 : Int))), .nils])), (2, (.lst x16.length 4 (gl cs_Pose x16))), (3, (.box [(.c (.int .i64 (IntKind.i64.wrap (bt a0 (4 : Int).toNat)))), (.lst 2 x16.length 4 (gl cs_Pose x16))])), (16, (.arr false j42.length 1 (gl (csF .f32) j42)))]⟩) (ob := (True ∧ True ∧ (0 ≤ (0 : Int) ∧ (0 : Int) ≤ x15 ∧ x15 ≤ (a0.size : Int)) ∧ True ∧ True ∧ (((((.str (a0.extract (0 : Int).toNat x15.toNat)) : C) = (.str (a0.extract (0 : Int).toNat x15.toNat))) ∧ (((sl 1 (csF .f32) x17) : C) = (sl 1 (csF .f32) x17)) ∧ (((sl 1 (csF .f32) j42) : C) = (sl 1 (csF .f32) j42)) ∧ True) ∧ CallOK Try.prog 127 [.one (.str (a0.extract (0 : Int).toNat x15.toNat)), .one (sl 1 (csF .f32) x17), .one (sl 1 (csF .f32) j42)] [.one (.str v62)]) ∧ True ∧ True ∧ True ∧ (0 ≤ x15 ∧ x15 ≤ (IntKind.i64.wrap ((IntKind.i64.wrap ((IntKind.i64.wrap (x15 + (1 : Int))) + (IntKind.i64.wrap ((5 : Int) * (IntKind.i64.wrap (bt a0 x15.toNat)))))) + (2 : Int))) ∧ (IntKind.i64.wrap ((IntKind.i64.wrap ((IntKind.i64.wrap (x15 + (1 : Int))) + (IntKind.i64.wrap ((5 : Int) * (IntKind.i64.wrap (bt a0 x15.toNat)))))) + (2 : Int))) ≤ (a0.size : Int)) ∧ True ∧ True) ∧ (True)) (by kernel_rfl) ⟨⟨trivial, trivial, c61, trivial, trivial, ⟨⟨rfl, rfl, rfl, trivial⟩, ok_spec_l10Record K (a0.extract (0 : Int).toNat x15.toNat) x17 j42 v62 e63⟩, trivial, trivial, trivial, c64, trivial, trivial⟩, trivial⟩ ?_
        refine thenQ_normal ?_
        rcases ite2_cases h with ⟨b65, h⟩ | ⟨b65, h⟩
        · refine AW.cond_t rfl b65 ?_
          refine AW.exit ?_
          refine thenQ_exit ?_
          refine blockQ_other rfl ?_
          refine loopQ_exit ?_
          refine blockQ_exit ?_
          refine thenQ_normal ?_
          refine AW.seq ?_
          refine AW.regionA [] [2, 3, 4] [1, 2] (s' := ⟨[(2, (.v (.one (.ptr 1 0)))), (3, (.v (.one (.c (.int .i64 x15))))), (4, (.v (.one (.c (.bool true)))))], [(1, (.box [(.c (.int .i64 (IntKind.i64.wrap (bt a0 (4 : Int).toNat)))), (.lst 2 x16.length 4 (gl cs_Pose x16))])), (2, (.lst x16.length 4 (gl cs_Pose x16)))]⟩) (ob := True ∧ True ∧ True ∧ True ∧ True ∧ True) (by kernel_rfl) ⟨trivial, trivial, trivial, trivial, trivial, trivial⟩ ?_
          refine thenQ_normal ?_
          refine AW.ret ?_
          replace h := some_eq h
          subst h
          exact ⟨.inr rfl, retOK_of [(.agg [(.c (.int .i64 (IntKind.i64.wrap (bt a0 (4 : Int).toNat)))), (.lst 2 x16.length 4 (gl cs_Pose x16))]), (.one (.c (.int .i64 x15))), (.one (.c (.bool true)))] (by kernel_rfl) ⟨⟨⟨rfl, trivial⟩, rfl, trivial⟩, ⟨rfl, trivial⟩, ⟨rfl, trivial⟩, trivial⟩ (of_decide_eq_true (by kernel_rfl))⟩
        · refine AW.cond_f rfl b65 ?_
          refine AW.skip ?_
          refine thenQ_normal ?_
          refine AW.seq ?_
          obtain ⟨v66, e67, h⟩ := bind_some h
          obtain ⟨c68, h⟩ := chk_some h
          refine AW.drawnA (by kernel_rfl) 7 [.no, .no, .no, .call [.one (sl 1 (csF .f32) j42)] [.agg (cs_Pose v66)] [[.view, .view, .view, .lst 17]], .obj 18 ([v66]).length (gl cs_Pose ([v66])), .obj 19 (x16 ++ ([v66])).length (gl cs_Pose (x16 ++ ([v66])))] [0, 2, 5, 9, 10] [1, 3, 16, 19] (s' := ⟨[(0, (.v (.one (.c (.str a0))))), (2, (.v (.one (.ptr 1 0)))), (5, (.v (.one (.ptr 3 0)))), (9, (.v (.one (.c (.int .i64 (IntKind.i64.wrap ((IntKind.i64.wrap ((IntKind.i64.wrap (x15 + (1 : Int))) + (IntKind.i64.wrap ((5 : Int) * (IntKind.i64.wrap (bt a0 x15.toNat)))))) + (2 : Int)))))))), (10, (.v (.one (.arr 16))))], [(1, (.box [(.c (.int .i64 (0 : Int))), .nils])), (3, (.box [(.c (.int .i64 (IntKind.i64.wrap (bt a0 (4 : Int).toNat)))), (.lst 19 (x16 ++ ([v66])).length 4 (gl cs_Pose (x16 ++ ([v66]))))])), (16, (.arr false j42.length 1 (gl (csF .f32) j42))), (19, (.lst (x16 ++ ([v66])).length 4 (gl cs_Pose (x16 ++ ([v66])))))]⟩) (ob := (True ∧ True ∧ True ∧ (((((sl 1 (csF .f32) j42) : C) = (sl 1 (csF .f32) j42)) ∧ True) ∧ CallOK Try.prog 133 [.one (sl 1 (csF .f32) j42)] [.agg (cs_Pose v66)]) ∧ (([v66]).length = 1 ∧ (((.flt .f32 v66.Root.X.bits) : C) = (.flt .f32 v66.Root.X.bits) ∧ True) ∧ (((.flt .f32 v66.Root.Y.bits) : C) = (.flt .f32 v66.Root.Y.bits) ∧ True) ∧ (((.flt .f32 v66.Root.Z.bits) : C) = (.flt .f32 v66.Root.Z.bits) ∧ True) ∧ (((sl 4 cs_Turn v66.Turns) : C) = (sl 4 cs_Turn v66.Turns)) ∧ True) ∧ ((x16 ++ ([v66])).length = x16.length + ([v66]).length ∧ AppOb (x16.length) (([v66]).length) 4 (gl cs_Pose x16) (gl cs_Pose ([v66])) (gl cs_Pose (x16 ++ ([v66]))) ∧ True ∧ (x16.length + ([v66]).length) * 40 ≤ 140737488355328) ∧ True ∧ True) ∧ (True ∧ True)) (by kernel_rfl) ⟨⟨trivial, trivial, trivial, ⟨⟨rfl, trivial⟩, ok_spec_l10Pose K j42 v66 e67⟩, ⟨rfl, ⟨⟨rfl, trivial⟩, ⟨rfl, trivial⟩, ⟨rfl, trivial⟩, rfl, trivial⟩⟩, ⟨List.length_append, gl_append, trivial, c68⟩, trivial, trivial⟩, ⟨trivial, trivial⟩⟩ ?_
          refine thenQ_normal ?_
          refine AW.seq ?_
          refine AW.regionA [] [0, 2, 5, 6, 9] [1, 3, 16, 19] (s' := ⟨[(0, (.v (.one (.c (.str a0))))), (2, (.v (.one (.ptr 1 0)))), (5, (.v (.one (.ptr 3 0)))), (6, (.v (.one (.arr 16)))), (9, (.v (.one (.c (.int .i64 (IntKind.i64.wrap ((IntKind.i64.wrap ((IntKind.i64.wrap (x15 + (1 : Int))) + (IntKind.i64.wrap ((5 : Int) * (IntKind.i64.wrap (bt a0 x15.toNat)))))) + (2 : Int))))))))], [(1, (.box [(.c (.int .i64 (0 : Int))), .nils])), (3, (.box [(.c (.int .i64 (IntKind.i64.wrap (bt a0 (4 : Int).toNat)))), (.lst 19 (x16 ++ ([v66])).length 4 (gl cs_Pose (x16 ++ ([v66]))))])), (16, (.arr false j42.length 1 (gl (csF .f32) j42))), (19, (.lst (x16 ++ ([v66])).length 4 (gl cs_Pose (x16 ++ ([v66])))))]⟩) (ob := True ∧ True ∧ True) (by kernel_rfl) ⟨trivial, trivial, trivial⟩ ?_
          refine thenQ_normal ?_
          refine AW.regionA [] [0, 2, 5, 6, 7] [1, 3, 16, 19] (s' := ⟨[(0, (.v (.one (.c (.str a0))))), (2, (.v (.one (.ptr 1 0)))), (5, (.v (.one (.ptr 3 0)))), (6, (.v (.one (.arr 16)))), (7, (.v (.one (.c (.int .i64 (IntKind.i64.wrap ((IntKind.i64.wrap ((IntKind.i64.wrap (x15 + (1 : Int))) + (IntKind.i64.wrap ((5 : Int) * (IntKind.i64.wrap (bt a0 x15.toNat)))))) + (2 : Int))))))))], [(1, (.box [(.c (.int .i64 (0 : Int))), .nils])), (3, (.box [(.c (.int .i64 (IntKind.i64.wrap (bt a0 (4 : Int).toNat)))), (.lst 19 (x16 ++ ([v66])).length 4 (gl cs_Pose (x16 ++ ([v66]))))])), (16, (.arr false j42.length 1 (gl (csF .f32) j42))), (19, (.lst (x16 ++ ([v66])).length 4 (gl cs_Pose (x16 ++ ([v66])))))]⟩) (ob := True ∧ True ∧ True) (by kernel_rfl) ⟨trivial, trivial, trivial⟩ ?_
          refine blockQ_normal ?_
          exact loopQ_normal (k, (IntKind.i64.wrap ((IntKind.i64.wrap ((IntKind.i64.wrap (x15 + (1 : Int))) + (IntKind.i64.wrap ((5 : Int) * (IntKind.i64.wrap (bt a0 x15.toNat)))))) + (2 : Int))), (x16 ++ ([v66])), j42) h (Nat.lt_succ_self k) (Sub.trans (Sub.swap 4 16 _ (by kernel_rfl) (by kernel_rfl)) (Sub.trans (Sub.swap 2 19 _ (by kernel_rfl) (by kernel_rfl)) (Sub.keep [0, 2, 5, 6, 7] [1, 2, 3, 4] (by kernel_rfl) (by kernel_rfl))))
    · refine AW.cond_f rfl b21 ?_
      refine AW.exit ?_
      refine thenQ_exit ?_
      refine loopQ_exit ?_
      refine blockQ_exit ?_
      refine thenQ_normal ?_
      refine AW.seq ?_
      refine AW.regionA [] [2, 3, 4] [1, 2] (s' := ⟨[(2, (.v (.one (.ptr 1 0)))), (3, (.v (.one (.c (.int .i64 x15))))), (4, (.v (.one (.c (.bool true)))))], [(1, (.box [(.c (.int .i64 (IntKind.i64.wrap (bt a0 (4 : Int).toNat)))), (.lst 2 x16.length 4 (gl cs_Pose x16))])), (2, (.lst x16.length 4 (gl cs_Pose x16)))]⟩) (ob := True ∧ True ∧ True ∧ True ∧ True ∧ True) (by kernel_rfl) ⟨trivial, trivial, trivial, trivial, trivial, trivial⟩ ?_
      refine thenQ_normal ?_
      refine AW.ret ?_
      replace h := some_eq h
      subst h
      exact ⟨.inr rfl, retOK_of [(.agg [(.c (.int .i64 (IntKind.i64.wrap (bt a0 (4 : Int).toNat)))), (.lst 2 x16.length 4 (gl cs_Pose x16))]), (.one (.c (.int .i64 x15))), (.one (.c (.bool true)))] (by kernel_rfl) ⟨⟨⟨rfl, trivial⟩, rfl, trivial⟩, ⟨rfl, trivial⟩, ⟨rfl, trivial⟩, trivial⟩ (of_decide_eq_true (by kernel_rfl))⟩

/-! spec.RecoverRecording -/
def spec_RecoverRecording (K : Nat) (a0 : ByteArray) : Option (Recording × Int × Bool) :=
  (spec_l10Recover K a0).bind fun v1 => ite2 ((!v1.2.2)) (some ((Recording.mk (0 : Int) ([] : (List Pose))), (0 : Int), false)) (some (v1.1, v1.2.1, true))

theorem ok_spec_RecoverRecording (K : Nat) (a0 : ByteArray) (o : (Recording × Int × Bool)) (h : spec_RecoverRecording K a0 = some o) : CallOK Try.prog 40 [.one (.str a0)] [.agg (cs_Recording o.1), .one (.int .i64 o.2.1), .one (.bool o.2.2)] := by
  refine callOK_of_AW Try.func40 rfl (by kernel_rfl) (Nat.le_of_ble_eq_true (by kernel_rfl)) ?_
  intro w0
  unfold spec_RecoverRecording at h
  refine AW.seq ?_
  refine AW.regionA [.box 1] [0, 2] [1] (s' := ⟨[(0, (.v (.one (.c (.str a0))))), (2, (.v (.one (.ptr 1 0))))], [(1, (.box [(.c (.int .i64 (0 : Int))), .nils]))]⟩) (ob := True ∧ True ∧ True ∧ True) (by kernel_rfl) ⟨trivial, trivial, trivial, trivial⟩ ?_
  refine thenQ_normal ?_
  refine AW.seq ?_
  obtain ⟨v1, e2, h⟩ := bind_some h
  refine AW.regionA [.no, .call [.one (.str a0)] [.agg (cs_Recording v1.1), .one (.int .i64 v1.2.1), .one (.bool v1.2.2)] [[.view, .lst 2], [.view], [.view]], .no, .no, .no, .no, .box 3] [2, 5, 6, 7] [1, 2, 3] (s' := ⟨[(2, (.v (.one (.ptr 1 0)))), (5, (.v (.one (.ptr 3 0)))), (6, (.v (.one (.c (.int .i64 v1.2.1))))), (7, (.v (.one (.c (.bool v1.2.2)))))], [(1, (.box [(.c (.int .i64 (0 : Int))), .nils])), (2, (.lst v1.1.Frames.length 4 (gl cs_Pose v1.1.Frames))), (3, (.box [(.c (.int .i64 v1.1.Bones)), (.lst 2 v1.1.Frames.length 4 (gl cs_Pose v1.1.Frames))]))]⟩) (ob := True ∧ (((((.str a0) : C) = (.str a0)) ∧ True) ∧ CallOK Try.prog 93 [.one (.str a0)] [.agg (cs_Recording v1.1), .one (.int .i64 v1.2.1), .one (.bool v1.2.2)]) ∧ True ∧ True ∧ True ∧ True ∧ True ∧ True ∧ True ∧ True ∧ True) (by kernel_rfl) ⟨trivial, ⟨⟨rfl, trivial⟩, ok_spec_l10Recover K a0 v1 e2⟩, trivial, trivial, trivial, trivial, trivial, trivial, trivial, trivial, trivial⟩ ?_
  refine thenQ_normal ?_
  refine AW.seq ?_
  refine AW.seq ?_
  refine AW.regionA [] [2, 5, 6, 15] [1, 2, 3] (s' := ⟨[(2, (.v (.one (.ptr 1 0)))), (5, (.v (.one (.ptr 3 0)))), (6, (.v (.one (.c (.int .i64 v1.2.1))))), (15, (.v (.one (.c (.bool (!v1.2.2))))))], [(1, (.box [(.c (.int .i64 (0 : Int))), .nils])), (2, (.lst v1.1.Frames.length 4 (gl cs_Pose v1.1.Frames))), (3, (.box [(.c (.int .i64 v1.1.Bones)), (.lst 2 v1.1.Frames.length 4 (gl cs_Pose v1.1.Frames))]))]⟩) (ob := True ∧ True ∧ True) (by kernel_rfl) ⟨trivial, trivial, trivial⟩ ?_
  refine thenQ_normal ?_
  rcases ite2_cases h with ⟨b3, h⟩ | ⟨b3, h⟩
  · refine AW.cond_t rfl b3 ?_
    refine AW.seq ?_
    refine AW.regionA [] [2, 3, 4] [1] (s' := ⟨[(2, (.v (.one (.ptr 1 0)))), (3, (.v (.one (.c (.int .i64 (0 : Int)))))), (4, (.v (.one (.c (.bool false)))))], [(1, (.box [(.c (.int .i64 (0 : Int))), .nils]))]⟩) (ob := True ∧ True ∧ True ∧ True ∧ True) (by kernel_rfl) ⟨trivial, trivial, trivial, trivial, trivial⟩ ?_
    refine thenQ_normal ?_
    refine AW.ret ?_
    refine thenQ_ret ?_
    replace h := some_eq h
    subst h
    exact ⟨.inr rfl, retOK_of [(.agg [(.c (.int .i64 (0 : Int))), .nils]), (.one (.c (.int .i64 (0 : Int)))), (.one (.c (.bool false)))] (by kernel_rfl) ⟨⟨⟨rfl, trivial⟩, rfl, trivial⟩, ⟨rfl, trivial⟩, ⟨rfl, trivial⟩, trivial⟩ (of_decide_eq_true (by kernel_rfl))⟩
  · refine AW.cond_f rfl b3 ?_
    refine AW.skip ?_
    refine thenQ_normal ?_
    refine AW.seq ?_
    refine AW.regionA [] [2, 3, 4] [1, 2] (s' := ⟨[(2, (.v (.one (.ptr 1 0)))), (3, (.v (.one (.c (.int .i64 v1.2.1))))), (4, (.v (.one (.c (.bool true)))))], [(1, (.box [(.c (.int .i64 v1.1.Bones)), (.lst 2 v1.1.Frames.length 4 (gl cs_Pose v1.1.Frames))])), (2, (.lst v1.1.Frames.length 4 (gl cs_Pose v1.1.Frames)))]⟩) (ob := True ∧ True ∧ True ∧ True ∧ True ∧ True) (by kernel_rfl) ⟨trivial, trivial, trivial, trivial, trivial, trivial⟩ ?_
    refine thenQ_normal ?_
    refine AW.ret ?_
    replace h := some_eq h
    subst h
    exact ⟨.inr rfl, retOK_of [(.agg [(.c (.int .i64 v1.1.Bones)), (.lst 2 v1.1.Frames.length 4 (gl cs_Pose v1.1.Frames))]), (.one (.c (.int .i64 v1.2.1))), (.one (.c (.bool true)))] (by kernel_rfl) ⟨⟨⟨rfl, trivial⟩, rfl, trivial⟩, ⟨rfl, trivial⟩, ⟨rfl, trivial⟩, trivial⟩ (of_decide_eq_true (by kernel_rfl))⟩

/-! impl.isCount -/
def impl_isCount (_K : Nat) (a0 : Int) : Option (Bool) :=
  (ite2 ((decide (a0 ≥ (1 : Int)))) (some (decide (a0 ≤ (12 : Int)))) (some false)).bind fun j2 => some j2

theorem ok_impl_isCount (K : Nat) (a0 : Int) (o : (Bool)) (h : impl_isCount K a0 = some o) : CallOK Try.prog 94 [.one (.int .i64 a0)] [.one (.bool o)] := by
  refine callOK_of_AW Try.func94 rfl (by kernel_rfl) (Nat.le_of_ble_eq_true (by kernel_rfl)) ?_
  intro w0
  unfold impl_isCount at h
  refine AW.seq ?_
  refine AW.regionA [] [0] [] (s' := ⟨[(0, (.v (.one (.c (.int .i64 a0)))))], []⟩) (ob := True ∧ True) (by kernel_rfl) ⟨trivial, trivial⟩ ?_
  refine thenQ_normal ?_
  refine AW.seq ?_
  obtain ⟨j2, e3, h⟩ := bind_some h
  refine AW.join1 (s2 := ⟨[(2, (.v (.one (.c (.bool j2)))))], []⟩) ?_ ?_
  · rcases ite2_cases e3 with ⟨b1, e3⟩ | ⟨b1, e3⟩
    · replace e3 := some_eq e3
      subst e3
      exact AW.regionA [.no, .no, .dec true] [2] [] (s' := ⟨[(2, (.v (.one (.c (.bool (decide (a0 ≤ (12 : Int))))))))], []⟩) (ob := True ∧ True ∧ (True ∧ (decide (a0 ≥ (1 : Int))) = true) ∧ True ∧ True ∧ True ∧ True ∧ True) (by kernel_rfl) ⟨trivial, trivial, ⟨trivial, b1⟩, trivial, trivial, trivial, trivial, trivial⟩ ⟨rfl, rfl⟩
    · replace e3 := some_eq e3
      subst e3
      exact AW.regionA [.no, .no, .dec false] [2] [] (s' := ⟨[(2, (.v (.one (.c (.bool false)))))], []⟩) (ob := True ∧ True ∧ (True ∧ (decide (a0 ≥ (1 : Int))) = false) ∧ True ∧ True ∧ True ∧ True ∧ True) (by kernel_rfl) ⟨trivial, trivial, ⟨trivial, b1⟩, trivial, trivial, trivial, trivial, trivial⟩ ⟨rfl, rfl⟩
  refine thenQ_normal ?_
  refine AW.ret ?_
  replace h := some_eq h
  subst h
  exact ⟨.inr rfl, retOK_of [(.one (.c (.bool j2)))] (by kernel_rfl) ⟨⟨rfl, trivial⟩, trivial⟩ (of_decide_eq_true (by kernel_rfl))⟩

/-! impl.none -/
def impl_none (_K : Nat) (a0 : Int) : Option ((List F32)) :=
  chk (0 ≤ (IntKind.i64.wrap ((3 : Int) + (IntKind.i64.wrap ((4 : Int) * a0)))) ∧ (IntKind.i64.wrap ((3 : Int) + (IntKind.i64.wrap ((4 : Int) * a0)))).toNat * 4 ≤ 140737488355328) (some (List.replicate (IntKind.i64.wrap ((3 : Int) + (IntKind.i64.wrap ((4 : Int) * a0)))).toNat (default : F32)))

theorem ok_impl_none (K : Nat) (a0 : Int) (o : ((List F32))) (h : impl_none K a0 = some o) : CallOK Try.prog 83 [.one (.int .i64 a0)] [.one (sl 1 (csF .f32) o)] := by
  refine callOK_of_AW Try.func83 rfl (by kernel_rfl) (Nat.le_of_ble_eq_true (by kernel_rfl)) ?_
  intro w0
  unfold impl_none at h
  refine AW.seq ?_
  refine AW.regionA [] [0] [] (s' := ⟨[(0, (.v (.one (.c (.int .i64 a0)))))], []⟩) (ob := True ∧ True) (by kernel_rfl) ⟨trivial, trivial⟩ ?_
  refine thenQ_normal ?_
  refine AW.seq ?_
  obtain ⟨c1, h⟩ := chk_some h
  refine AW.regionA [.no, .no, .no, .objA 1 (List.replicate (IntKind.i64.wrap ((3 : Int) + (IntKind.i64.wrap ((4 : Int) * a0)))).toNat (default : F32)).length (gl (csF .f32) (List.replicate (IntKind.i64.wrap ((3 : Int) + (IntKind.i64.wrap ((4 : Int) * a0)))).toNat (default : F32)))] [2] [1] (s' := ⟨[(2, (.v (.one (.arr 1))))], [(1, (.arr false (List.replicate (IntKind.i64.wrap ((3 : Int) + (IntKind.i64.wrap ((4 : Int) * a0)))).toNat (default : F32)).length 1 (gl (csF .f32) (List.replicate (IntKind.i64.wrap ((3 : Int) + (IntKind.i64.wrap ((4 : Int) * a0)))).toNat (default : F32)))))]⟩) (ob := True ∧ True ∧ True ∧ (0 ≤ (IntKind.i64.wrap ((3 : Int) + (IntKind.i64.wrap ((4 : Int) * a0)))) ∧ (IntKind.i64.wrap ((3 : Int) + (IntKind.i64.wrap ((4 : Int) * a0)))) = (IntKind.i64.wrap ((3 : Int) + (IntKind.i64.wrap ((4 : Int) * a0)))) ∧ (((List.replicate (IntKind.i64.wrap ((3 : Int) + (IntKind.i64.wrap ((4 : Int) * a0)))).toNat (default : F32)).length : Nat) : Int) = (IntKind.i64.wrap ((3 : Int) + (IntKind.i64.wrap ((4 : Int) * a0)))) ∧ (List.replicate (IntKind.i64.wrap ((3 : Int) + (IntKind.i64.wrap ((4 : Int) * a0)))).toNat (default : F32)).length * 4 ≤ 140737488355328 ∧ ∀ i, i < (List.replicate (IntKind.i64.wrap ((3 : Int) + (IntKind.i64.wrap ((4 : Int) * a0)))).toNat (default : F32)).length → zeroRow (fun _ => none) [(.c (.flt .f32 (default : F32).bits))] (gl (csF .f32) (List.replicate (IntKind.i64.wrap ((3 : Int) + (IntKind.i64.wrap ((4 : Int) * a0)))).toNat (default : F32)) i)) ∧ True ∧ True) (by kernel_rfl) ⟨trivial, trivial, trivial, ⟨c1.1, rfl, len_rep c1.1, rep_bytes c1.2, fun i hi => gl_zero (cs := (csF .f32)) (zs := [(.c (.flt .f32 (default : F32).bits))]) (n := (IntKind.i64.wrap ((3 : Int) + (IntKind.i64.wrap ((4 : Int) * a0)))).toNat) ⟨⟨rfl, trivial⟩, trivial⟩ i (rep_lt hi)⟩, trivial, trivial⟩ ?_
  refine thenQ_normal ?_
  refine AW.ret ?_
  replace h := some_eq h
  subst h
  exact ⟨.inr rfl, retOK_of [(.one (.arr 1))] (by kernel_rfl) ⟨rfl, trivial⟩ (of_decide_eq_true (by kernel_rfl))⟩

/-! slices.Clone[[]float32,float32] -/
def slices_Clone_float32_float32 (_K : Nat) (a0 : (List F32)) : Option ((List F32)) :=
  chk ((([] : List F32).length + a0.length) * 4 ≤ 140737488355328) (some (([] : List F32) ++ a0))

theorem ok_slices_Clone_float32_float32 (K : Nat) (a0 : (List F32)) (o : ((List F32))) (h : slices_Clone_float32_float32 K a0 = some o) : CallOK Try.prog 134 [.one (sl 1 (csF .f32) a0)] [.one (sl 1 (csF .f32) o)] := by
  refine callOK_of_AW Try.func134 rfl (by kernel_rfl) (Nat.le_of_ble_eq_true (by kernel_rfl)) ?_
  intro w0
  unfold slices_Clone_float32_float32 at h
  refine AW.seq ?_
  refine AW.regionA [] [0] [] (s' := ⟨[(0, (.v (.one (.c (sl 1 (csF .f32) a0)))))], []⟩) (ob := True ∧ True) (by kernel_rfl) ⟨trivial, trivial⟩ ?_
  refine thenQ_normal ?_
  refine AW.seq ?_
  refine AW.seq ?_
  refine AW.nilA (d := 4) (n := a0.length) 1 [.no] [0] [] (s' := ⟨[(0, (.v (.one (.c (sl 1 (csF .f32) a0)))))], []⟩) (ob := True ∧ True) (by kernel_rfl) ⟨trivial, trivial⟩ ?_
  intro b2 b1
  cases b2
  · refine thenQ_normal ?_
    refine AW.cond_f (b := false) rfl rfl ?_
    refine AW.skip ?_
    refine thenQ_normal ?_
    refine AW.seq ?_
    obtain ⟨c3, h⟩ := chk_some h
    refine AW.regionA [.obj 1 ([] : List F32).length (gl (csF .f32) ([] : List F32)), .no, .obj 2 (([] : List F32) ++ a0).length (gl (csF .f32) (([] : List F32) ++ a0))] [2] [2] (s' := ⟨[(2, (.v (.one (.lst 2 (([] : List F32) ++ a0).length 1 (gl (csF .f32) (([] : List F32) ++ a0))))))], [(2, (.lst (([] : List F32) ++ a0).length 1 (gl (csF .f32) (([] : List F32) ++ a0))))]⟩) (ob := (([] : List F32).length = 0 ∧ True) ∧ True ∧ ((([] : List F32) ++ a0).length = ([] : List F32).length + a0.length ∧ AppOb (([] : List F32).length) (a0.length) 1 (gl (csF .f32) ([] : List F32)) (gl (csF .f32) a0) (gl (csF .f32) (([] : List F32) ++ a0)) ∧ (∀ i j, i < a0.length → j < 1 → scalarC (gl (csF .f32) a0 i j)) ∧ (([] : List F32).length + a0.length) * 4 ≤ 140737488355328) ∧ True ∧ True) (by kernel_rfl) ⟨⟨rfl, trivial⟩, trivial, ⟨List.length_append, gl_append, gl_scalar scF _, c3⟩, trivial, trivial⟩ ?_
    refine thenQ_normal ?_
    refine AW.ret ?_
    replace h := some_eq h
    subst h
    exact ⟨.inr rfl, retOK_of [(.one (.lst 2 (([] : List F32) ++ a0).length 1 (gl (csF .f32) (([] : List F32) ++ a0))))] (by kernel_rfl) ⟨rfl, trivial⟩ (of_decide_eq_true (by kernel_rfl))⟩
  · obtain rfl := List.eq_nil_of_length_eq_zero (b1 rfl)
    replace h : some ([] : (List F32)) = some o := by simpa [chk] using h
    refine thenQ_normal ?_
    refine AW.cond_t (b := true) rfl rfl ?_
    refine AW.seq ?_
    refine AW.regionA [] [2] [] (s' := ⟨[(2, (.v (.one .nils)))], []⟩) (ob := True ∧ True) (by kernel_rfl) ⟨trivial, trivial⟩ ?_
    refine thenQ_normal ?_
    refine AW.ret ?_
    refine thenQ_ret ?_
    replace h := some_eq h
    subst h
    exact ⟨.inr rfl, retOK_of [(.one .nils)] (by kernel_rfl) ⟨rfl, trivial⟩ (of_decide_eq_true (by kernel_rfl))⟩

/-! math.Float64bits -/
def math_Float64bits (_K : Nat) (a0 : F64) : Option (Int) :=
  a0.toBits

theorem ok_math_Float64bits (K : Nat) (a0 : F64) (o : Int) (h : math_Float64bits K a0 = some o) : CallOK Try.prog 145 [.one (.flt .f64 a0.bits)] [.one (.int .u64 o)] :=
  hand_toBits (e := Extern.MathFloatBits.float64bits) Try.func145 (by kernel_rfl) (by kernel_rfl) (by kernel_rfl) (by kernel_rfl) (fun _ _ => rfl) a0 o h

/-! math.Signbit -/
def math_Signbit (K : Nat) (a0 : F64) : Option (Bool) :=
  (math_Float64bits K a0).bind fun v1 => some (decide ((IntKind.i64.wrap v1) < (0 : Int)))

theorem ok_math_Signbit (K : Nat) (a0 : F64) (o : (Bool)) (h : math_Signbit K a0 = some o) : CallOK Try.prog 110 [.one (.flt .f64 a0.bits)] [.one (.bool o)] := by
  refine callOK_of_AW Try.func110 rfl (by kernel_rfl) (Nat.le_of_ble_eq_true (by kernel_rfl)) ?_
  intro w0
  unfold math_Signbit at h
  refine AW.seq ?_
  refine AW.regionA [] [0] [] (s' := ⟨[(0, (.v (.one (.c (.flt .f64 a0.bits)))))], []⟩) (ob := True ∧ True) (by kernel_rfl) ⟨trivial, trivial⟩ ?_
  refine thenQ_normal ?_
  refine AW.seq ?_
  obtain ⟨v1, e2, h⟩ := bind_some h
  refine AW.regionA [.no, .call [.one (.flt .f64 a0.bits)] [.one (.int .u64 v1)] [[.view]]] [2] [] (s' := ⟨[(2, (.v (.one (.c (.bool (decide ((IntKind.i64.wrap v1) < (0 : Int))))))))], []⟩) (ob := True ∧ (((((.flt .f64 a0.bits) : C) = (.flt .f64 a0.bits)) ∧ True) ∧ CallOK Try.prog 145 [.one (.flt .f64 a0.bits)] [.one (.int .u64 v1)]) ∧ True ∧ True ∧ True ∧ True) (by kernel_rfl) ⟨trivial, ⟨⟨rfl, trivial⟩, ok_math_Float64bits K a0 v1 e2⟩, trivial, trivial, trivial, trivial⟩ ?_
  refine thenQ_normal ?_
  refine AW.ret ?_
  replace h := some_eq h
  subst h
  exact ⟨.inr rfl, retOK_of [(.one (.c (.bool (decide ((IntKind.i64.wrap v1) < (0 : Int))))))] (by kernel_rfl) ⟨⟨rfl, trivial⟩, trivial⟩ (of_decide_eq_true (by kernel_rfl))⟩

/-! impl.SameNumber -/
def impl_SameNumber (K : Nat) (a0 : F32) (a1 : F32) : Option (Bool) :=
  (ite2 ((a0.ne a0)) (some true) (some (a1.ne a1))).bind fun j2 => ite2 (j2) ((ite2 ((a0.ne a0)) (some (a1.ne a1)) (some false)).bind fun j6 => some j6) ((ite2 ((a0.eq a1)) ((math_Signbit K (Fl.cv .f32 .f64 a0)).bind fun v9 => (math_Signbit K (Fl.cv .f32 .f64 a1)).bind fun v11 => some (v9 == v11)) (some false)).bind fun j13 => some j13)

theorem ok_impl_SameNumber (K : Nat) (a0 : F32) (a1 : F32) (o : (Bool)) (h : impl_SameNumber K a0 a1 = some o) : CallOK Try.prog 58 [.one (.flt .f32 a0.bits), .one (.flt .f32 a1.bits)] [.one (.bool o)] := by
  refine callOK_of_AW Try.func58 rfl (by kernel_rfl) (Nat.le_of_ble_eq_true (by kernel_rfl)) ?_
  intro w0
  unfold impl_SameNumber at h
  refine AW.seq ?_
  refine AW.regionA [] [0, 1] [] (s' := ⟨[(0, (.v (.one (.c (.flt .f32 a0.bits))))), (1, (.v (.one (.c (.flt .f32 a1.bits)))))], []⟩) (ob := True ∧ True) (by kernel_rfl) ⟨trivial, trivial⟩ ?_
  refine thenQ_normal ?_
  refine AW.seq ?_
  refine AW.seq ?_
  obtain ⟨j2, e3, h⟩ := bind_some h
  refine AW.join1 (s2 := ⟨[(0, (.v (.one (.c (.flt .f32 a0.bits))))), (1, (.v (.one (.c (.flt .f32 a1.bits))))), (12, (.v (.one (.c (.bool j2)))))], []⟩) ?_ ?_
  · rcases ite2_cases e3 with ⟨b1, e3⟩ | ⟨b1, e3⟩
    · replace e3 := some_eq e3
      subst e3
      exact AW.regionA [.no, .no, .no, .dec true] [0, 1, 12] [] (s' := ⟨[(0, (.v (.one (.c (.flt .f32 a0.bits))))), (1, (.v (.one (.c (.flt .f32 a1.bits))))), (12, (.v (.one (.c (.bool true)))))], []⟩) (ob := True ∧ True ∧ True ∧ (True ∧ (a0.ne a0) = true) ∧ True ∧ True ∧ True ∧ True ∧ True) (by kernel_rfl) ⟨trivial, trivial, trivial, ⟨trivial, b1⟩, trivial, trivial, trivial, trivial, trivial⟩ ⟨rfl, rfl⟩
    · replace e3 := some_eq e3
      subst e3
      exact AW.regionA [.no, .no, .no, .dec false] [0, 1, 12] [] (s' := ⟨[(0, (.v (.one (.c (.flt .f32 a0.bits))))), (1, (.v (.one (.c (.flt .f32 a1.bits))))), (12, (.v (.one (.c (.bool (a1.ne a1))))))], []⟩) (ob := True ∧ True ∧ True ∧ (True ∧ (a0.ne a0) = false) ∧ True ∧ True ∧ True ∧ True ∧ True) (by kernel_rfl) ⟨trivial, trivial, trivial, ⟨trivial, b1⟩, trivial, trivial, trivial, trivial, trivial⟩ ⟨rfl, rfl⟩
  refine thenQ_normal ?_
  rcases ite2_cases h with ⟨b4, h⟩ | ⟨b4, h⟩
  · refine AW.cond_t rfl b4 ?_
    refine AW.seq ?_
    obtain ⟨j6, e7, h⟩ := bind_some h
    refine AW.join1 (s2 := ⟨[(4, (.v (.one (.c (.bool j6)))))], []⟩) ?_ ?_
    · rcases ite2_cases e7 with ⟨b5, e7⟩ | ⟨b5, e7⟩
      · replace e7 := some_eq e7
        subst e7
        exact AW.regionA [.no, .no, .no, .dec true] [4] [] (s' := ⟨[(4, (.v (.one (.c (.bool (a1.ne a1))))))], []⟩) (ob := True ∧ True ∧ True ∧ (True ∧ (a0.ne a0) = true) ∧ True ∧ True ∧ True ∧ True ∧ True ∧ True) (by kernel_rfl) ⟨trivial, trivial, trivial, ⟨trivial, b5⟩, trivial, trivial, trivial, trivial, trivial, trivial⟩ ⟨rfl, rfl⟩
      · replace e7 := some_eq e7
        subst e7
        exact AW.regionA [.no, .no, .no, .dec false] [4] [] (s' := ⟨[(4, (.v (.one (.c (.bool false)))))], []⟩) (ob := True ∧ True ∧ True ∧ (True ∧ (a0.ne a0) = false) ∧ True ∧ True ∧ True ∧ True ∧ True ∧ True) (by kernel_rfl) ⟨trivial, trivial, trivial, ⟨trivial, b5⟩, trivial, trivial, trivial, trivial, trivial, trivial⟩ ⟨rfl, rfl⟩
    refine thenQ_normal ?_
    refine AW.ret ?_
    refine thenQ_ret ?_
    replace h := some_eq h
    subst h
    exact ⟨.inr rfl, retOK_of [(.one (.c (.bool j6)))] (by kernel_rfl) ⟨⟨rfl, trivial⟩, trivial⟩ (of_decide_eq_true (by kernel_rfl))⟩
  · refine AW.cond_f rfl b4 ?_
    refine AW.skip ?_
    refine thenQ_normal ?_
    refine AW.seq ?_
    obtain ⟨j13, e14, h⟩ := bind_some h
    refine AW.join1 (s2 := ⟨[(4, (.v (.one (.c (.bool j13)))))], []⟩) ?_ ?_
    · rcases ite2_cases e14 with ⟨b8, e14⟩ | ⟨b8, e14⟩
      · obtain ⟨v9, e10, e14⟩ := bind_some e14
        obtain ⟨v11, e12, e14⟩ := bind_some e14
        replace e14 := some_eq e14
        subst e14
        exact AW.regionA [.no, .no, .no, .dec true, .no, .no, .call [.one (.flt .f64 (Fl.cv .f32 .f64 a0).bits)] [.one (.bool v9)] [[.view]], .no, .no, .call [.one (.flt .f64 (Fl.cv .f32 .f64 a1).bits)] [.one (.bool v11)] [[.view]]] [4] [] (s' := ⟨[(4, (.v (.one (.c (.bool (v9 == v11))))))], []⟩) (ob := True ∧ True ∧ True ∧ (True ∧ (a0.eq a1) = true) ∧ True ∧ ((convBits .f32 a0.bits .f64).isSome = true) ∧ (((((.flt .f64 (Fl.cv .f32 .f64 a0).bits) : C) = (.flt .f64 (Fl.cv .f32 .f64 a0).bits)) ∧ True) ∧ CallOK Try.prog 110 [.one (.flt .f64 (Fl.cv .f32 .f64 a0).bits)] [.one (.bool v9)]) ∧ True ∧ ((convBits .f32 a1.bits .f64).isSome = true) ∧ (((((.flt .f64 (Fl.cv .f32 .f64 a1).bits) : C) = (.flt .f64 (Fl.cv .f32 .f64 a1).bits)) ∧ True) ∧ CallOK Try.prog 110 [.one (.flt .f64 (Fl.cv .f32 .f64 a1).bits)] [.one (.bool v11)]) ∧ True ∧ True ∧ True ∧ True) (by kernel_rfl) ⟨trivial, trivial, trivial, ⟨trivial, b8⟩, trivial, cv_wide a0, ⟨⟨rfl, trivial⟩, ok_math_Signbit K (Fl.cv .f32 .f64 a0) v9 e10⟩, trivial, cv_wide a1, ⟨⟨rfl, trivial⟩, ok_math_Signbit K (Fl.cv .f32 .f64 a1) v11 e12⟩, trivial, trivial, trivial, trivial⟩ ⟨rfl, rfl⟩
      · replace e14 := some_eq e14
        subst e14
        exact AW.regionA [.no, .no, .no, .dec false] [4] [] (s' := ⟨[(4, (.v (.one (.c (.bool false)))))], []⟩) (ob := True ∧ True ∧ True ∧ (True ∧ (a0.eq a1) = false) ∧ True ∧ True ∧ True ∧ True ∧ True ∧ True ∧ True ∧ True ∧ True ∧ True) (by kernel_rfl) ⟨trivial, trivial, trivial, ⟨trivial, b8⟩, trivial, trivial, trivial, trivial, trivial, trivial, trivial, trivial, trivial, trivial⟩ ⟨rfl, rfl⟩
    refine thenQ_normal ?_
    refine AW.ret ?_
    replace h := some_eq h
    subst h
    exact ⟨.inr rfl, retOK_of [(.one (.c (.bool j13)))] (by kernel_rfl) ⟨⟨rfl, trivial⟩, trivial⟩ (of_decide_eq_true (by kernel_rfl))⟩

/-! impl.changed -/
def impl_changed_l1 (K : Nat) (a0 : (List F32)) (a1 : (List F32)) : Nat → Int → (List Int) → Option ((List Int))
  | 0, _, _ => none
  | k + 1, x3, x4 => ite2 ((decide (x3 < (a0.length : Int)))) (chk (0 ≤ x3 ∧ x3 < (a0.length : Int)) (chk (0 ≤ x3 ∧ x3 < (a1.length : Int)) ((impl_SameNumber K (a0.getD x3.toNat default) (a1.getD x3.toNat default)).bind fun v8 => ite2 ((!v8)) (chk ((x4.length + ([x3]).length) * 8 ≤ 140737488355328) (impl_changed_l1 K a0 a1 k (IntKind.i64.wrap (x3 + (1 : Int))) (x4 ++ ([x3])))) (impl_changed_l1 K a0 a1 k (IntKind.i64.wrap (x3 + (1 : Int))) x4)))) (some x4)

def impl_changed (K : Nat) (a0 : (List F32)) (a1 : (List F32)) : Option ((List Int)) :=
  impl_changed_l1 K a0 a1 K (0 : Int) ([] : (List Int))

theorem ok_impl_changed (K : Nat) (a0 : (List F32)) (a1 : (List F32)) (o : ((List Int))) (h : impl_changed K a0 a1 = some o) : CallOK Try.prog 106 [.one (sl 1 (csF .f32) a0), .one (sl 1 (csF .f32) a1)] [.one (sl 1 (csI .i64) o)] := by
  refine callOK_of_AW Try.func106 rfl (by kernel_rfl) (Nat.le_of_ble_eq_true (by kernel_rfl)) ?_
  intro w0
  unfold impl_changed at h
  refine AW.seq ?_
  refine AW.regionA [] [0, 1] [] (s' := ⟨[(0, (.v (.one (.c (sl 1 (csF .f32) a0))))), (1, (.v (.one (.c (sl 1 (csF .f32) a1)))))], []⟩) (ob := True ∧ True) (by kernel_rfl) ⟨trivial, trivial⟩ ?_
  refine thenQ_normal ?_
  refine AW.seq ?_
  refine AW.regionA [] [0, 1, 5] [] (s' := ⟨[(0, (.v (.one (.c (sl 1 (csF .f32) a0))))), (1, (.v (.one (.c (sl 1 (csF .f32) a1))))), (5, (.v (.one .nils)))], []⟩) (ob := True ∧ True) (by kernel_rfl) ⟨trivial, trivial⟩ ?_
  refine thenQ_normal ?_
  refine AW.seq ?_
  refine AW.seq ?_
  refine AW.regionA [] [0, 1, 5, 8, 9] [] (s' := ⟨[(0, (.v (.one (.c (sl 1 (csF .f32) a0))))), (1, (.v (.one (.c (sl 1 (csF .f32) a1))))), (5, (.v (.one .nils))), (8, (.v (.one (.c (.int .i64 (a0.length : Int)))))), (9, (.v (.one (.c (.int .i64 (0 : Int))))))], []⟩) (ob := True ∧ True ∧ True ∧ True) (by kernel_rfl) ⟨trivial, trivial, trivial, trivial⟩ ?_
  refine thenQ_normal ?_
  refine AW.block ?_
  refine AW.weak (s' := ⟨[(0, (.v (.one (.c (sl 1 (csF .f32) a0))))), (1, (.v (.one (.c (sl 1 (csF .f32) a1))))), (5, (.v (.one (.lst 3 ([] : (List Int)).length 1 (gl (csI .i64) ([] : (List Int))))))), (8, (.v (.one (.c (.int .i64 (a0.length : Int)))))), (9, (.v (.one (.c (.int .i64 (0 : Int))))))], [(3, (.lst ([] : (List Int)).length 1 (gl (csI .i64) ([] : (List Int)))))]⟩) (Sub.trans (Sub.unnil 3 1 (gl (csI .i64) ([] : (List Int))) [5] [] _ (by kernel_rfl) (by kernel_rfl)) (Sub.keep [0, 1, 5, 8, 9] [3] (by kernel_rfl) (by kernel_rfl))) ?_
  refine AW.loopQ (σ := Nat × Int × (List Int)) (fun p => ⟨[(0, (.v (.one (.c (sl 1 (csF .f32) a0))))), (1, (.v (.one (.c (sl 1 (csF .f32) a1))))), (5, (.v (.one (.lst 3 p.2.2.length 1 (gl (csI .i64) p.2.2))))), (8, (.v (.one (.c (.int .i64 (a0.length : Int)))))), (9, (.v (.one (.c (.int .i64 p.2.1)))))], [(3, (.lst p.2.2.length 1 (gl (csI .i64) p.2.2)))]⟩) (fun p => impl_changed_l1 K a0 a1 p.1 p.2.1 p.2.2 = some o) (fun p => p.1) (K, (0 : Int), ([] : (List Int))) h ?_
  clear h
  rintro ⟨k, x3, x4⟩ h
  replace h : impl_changed_l1 K a0 a1 k x3 x4 = some o := h
  show AW _ _ (⟨[(0, (.v (.one (.c (sl 1 (csF .f32) a0))))), (1, (.v (.one (.c (sl 1 (csF .f32) a1))))), (5, (.v (.one (.lst 3 x4.length 1 (gl (csI .i64) x4))))), (8, (.v (.one (.c (.int .i64 (a0.length : Int)))))), (9, (.v (.one (.c (.int .i64 x3)))))], [(3, (.lst x4.length 1 (gl (csI .i64) x4)))]⟩ : St) _
  obtain _ | k := k
  · rw [impl_changed_l1] at h; cases h
  rw [impl_changed_l1] at h
  refine AW.seq ?_
  refine AW.regionA [] [0, 1, 5, 8, 9, 10] [3] (s' := ⟨[(0, (.v (.one (.c (sl 1 (csF .f32) a0))))), (1, (.v (.one (.c (sl 1 (csF .f32) a1))))), (5, (.v (.one (.lst 3 x4.length 1 (gl (csI .i64) x4))))), (8, (.v (.one (.c (.int .i64 (a0.length : Int)))))), (9, (.v (.one (.c (.int .i64 x3))))), (10, (.v (.one (.c (.bool (decide (x3 < (a0.length : Int))))))))], [(3, (.lst x4.length 1 (gl (csI .i64) x4)))]⟩) (ob := True ∧ True) (by kernel_rfl) ⟨trivial, trivial⟩ ?_
  refine thenQ_normal ?_
  refine AW.seq ?_
  rcases ite2_cases h with ⟨b5, h⟩ | ⟨b5, h⟩
  · refine AW.cond_t rfl b5 ?_
    refine AW.skip ?_
    refine thenQ_normal ?_
    refine AW.seq ?_
    refine AW.block ?_
    refine AW.seq ?_
    refine AW.regionA [] [0, 1, 5, 6, 8, 9] [3] (s' := ⟨[(0, (.v (.one (.c (sl 1 (csF .f32) a0))))), (1, (.v (.one (.c (sl 1 (csF .f32) a1))))), (5, (.v (.one (.lst 3 x4.length 1 (gl (csI .i64) x4))))), (6, (.v (.one (.c (.int .i64 x3))))), (8, (.v (.one (.c (.int .i64 (a0.length : Int)))))), (9, (.v (.one (.c (.int .i64 x3)))))], [(3, (.lst x4.length 1 (gl (csI .i64) x4)))]⟩) (ob := True ∧ True ∧ True) (by kernel_rfl) ⟨trivial, trivial, trivial⟩ ?_
    refine thenQ_normal ?_
    refine AW.seq ?_
    obtain ⟨c6, h⟩ := chk_some h
    obtain ⟨c7, h⟩ := chk_some h
    obtain ⟨v8, e9, h⟩ := bind_some h
    refine AW.drawnA (by kernel_rfl) 10 [.no, .no, .no, .no, .no, .no, .no, .no, .call [.one (.flt .f32 (a0.getD x3.toNat default).bits), .one (.flt .f32 (a1.getD x3.toNat default).bits)] [.one (.bool v8)] [[.view]]] [0, 1, 5, 6, 8, 9, 21] [3] (s' := ⟨[(0, (.v (.one (.c (sl 1 (csF .f32) a0))))), (1, (.v (.one (.c (sl 1 (csF .f32) a1))))), (5, (.v (.one (.lst 3 x4.length 1 (gl (csI .i64) x4))))), (6, (.v (.one (.c (.int .i64 x3))))), (8, (.v (.one (.c (.int .i64 (a0.length : Int)))))), (9, (.v (.one (.c (.int .i64 x3))))), (21, (.v (.one (.c (.bool (!v8))))))], [(3, (.lst x4.length 1 (gl (csI .i64) x4)))]⟩) (ob := (True ∧ True ∧ (0 ≤ x3 ∧ x3 < (a0.length : Int)) ∧ True ∧ True ∧ True ∧ (0 ≤ x3 ∧ x3 < (a1.length : Int)) ∧ True ∧ (((((.flt .f32 (a0.getD x3.toNat default).bits) : C) = (.flt .f32 (a0.getD x3.toNat default).bits)) ∧ (((.flt .f32 (a1.getD x3.toNat default).bits) : C) = (.flt .f32 (a1.getD x3.toNat default).bits)) ∧ True) ∧ CallOK Try.prog 58 [.one (.flt .f32 (a0.getD x3.toNat default).bits), .one (.flt .f32 (a1.getD x3.toNat default).bits)] [.one (.bool v8)]) ∧ True ∧ True) ∧ (True)) (by kernel_rfl) ⟨⟨trivial, trivial, c6, trivial, trivial, trivial, c7, trivial, ⟨⟨rfl, rfl, trivial⟩, ok_impl_SameNumber K (a0.getD x3.toNat default) (a1.getD x3.toNat default) v8 e9⟩, trivial, trivial⟩, trivial⟩ ?_
    refine thenQ_normal ?_
    rcases ite2_cases h with ⟨b10, h⟩ | ⟨b10, h⟩
    · refine AW.cond_t rfl b10 ?_
      obtain ⟨c11, h⟩ := chk_some h
      refine AW.regionA [.no, .no, .obj 8 ([x3]).length (gl (csI .i64) ([x3])), .objK 9 (x4 ++ ([x3])).length (gl (csI .i64) (x4 ++ ([x3])))] [0, 1, 5, 8, 9] [9] (s' := ⟨[(0, (.v (.one (.c (sl 1 (csF .f32) a0))))), (1, (.v (.one (.c (sl 1 (csF .f32) a1))))), (5, (.v (.one (.lst 9 (x4 ++ ([x3])).length 1 (gl (csI .i64) (x4 ++ ([x3]))))))), (8, (.v (.one (.c (.int .i64 (a0.length : Int)))))), (9, (.v (.one (.c (.int .i64 x3)))))], [(9, (.lst (x4 ++ ([x3])).length 1 (gl (csI .i64) (x4 ++ ([x3])))))]⟩) (ob := True ∧ True ∧ (([x3]).length = 1 ∧ (((.int .i64 x3) : C) = (.int .i64 x3) ∧ True) ∧ True) ∧ ((x4 ++ ([x3])).length = x4.length + ([x3]).length ∧ AppOb (x4.length) (([x3]).length) 1 (gl (csI .i64) x4) (gl (csI .i64) ([x3])) (gl (csI .i64) (x4 ++ ([x3]))) ∧ (∀ i j, i < ([x3]).length → j < 1 → scalarC (gl (csI .i64) ([x3]) i j)) ∧ (x4.length + ([x3]).length) * 8 ≤ 140737488355328) ∧ True ∧ True) (by kernel_rfl) ⟨trivial, trivial, ⟨rfl, ⟨⟨rfl, trivial⟩, trivial⟩⟩, ⟨List.length_append, gl_append, gl_scalar scI _, c11⟩, trivial, trivial⟩ ?_
      refine blockQ_normal ?_
      refine thenQ_normal ?_
      refine AW.regionA [] [0, 1, 5, 8, 9] [9] (s' := ⟨[(0, (.v (.one (.c (sl 1 (csF .f32) a0))))), (1, (.v (.one (.c (sl 1 (csF .f32) a1))))), (5, (.v (.one (.lst 9 (x4 ++ ([x3])).length 1 (gl (csI .i64) (x4 ++ ([x3]))))))), (8, (.v (.one (.c (.int .i64 (a0.length : Int)))))), (9, (.v (.one (.c (.int .i64 (IntKind.i64.wrap (x3 + (1 : Int))))))))], [(9, (.lst (x4 ++ ([x3])).length 1 (gl (csI .i64) (x4 ++ ([x3])))))]⟩) (ob := True ∧ True ∧ True) (by kernel_rfl) ⟨trivial, trivial, trivial⟩ ?_
      exact loopQ_normal (k, (IntKind.i64.wrap (x3 + (1 : Int))), (x4 ++ ([x3]))) h (Nat.lt_succ_self k) (Sub.trans (Sub.swap 3 9 _ (by kernel_rfl) (by kernel_rfl)) (Sub.keep [0, 1, 5, 8, 9] [3] (by kernel_rfl) (by kernel_rfl)))
    · refine AW.cond_f rfl b10 ?_
      refine AW.skip ?_
      refine blockQ_normal ?_
      refine thenQ_normal ?_
      refine AW.regionA [] [0, 1, 5, 8, 9] [3] (s' := ⟨[(0, (.v (.one (.c (sl 1 (csF .f32) a0))))), (1, (.v (.one (.c (sl 1 (csF .f32) a1))))), (5, (.v (.one (.lst 3 x4.length 1 (gl (csI .i64) x4))))), (8, (.v (.one (.c (.int .i64 (a0.length : Int)))))), (9, (.v (.one (.c (.int .i64 (IntKind.i64.wrap (x3 + (1 : Int))))))))], [(3, (.lst x4.length 1 (gl (csI .i64) x4)))]⟩) (ob := True ∧ True ∧ True) (by kernel_rfl) ⟨trivial, trivial, trivial⟩ ?_
      exact loopQ_normal (k, (IntKind.i64.wrap (x3 + (1 : Int))), x4) h (Nat.lt_succ_self k) (Sub.keep [0, 1, 5, 8, 9] [3] (by kernel_rfl) (by kernel_rfl))
  · refine AW.cond_f rfl b5 ?_
    refine AW.exit ?_
    refine thenQ_exit ?_
    refine loopQ_exit ?_
    refine blockQ_exit ?_
    refine thenQ_normal ?_
    refine AW.seq ?_
    refine AW.regionA [] [4] [3] (s' := ⟨[(4, (.v (.one (.lst 3 x4.length 1 (gl (csI .i64) x4)))))], [(3, (.lst x4.length 1 (gl (csI .i64) x4)))]⟩) (ob := True ∧ True ∧ True) (by kernel_rfl) ⟨trivial, trivial, trivial⟩ ?_
    refine thenQ_normal ?_
    refine AW.ret ?_
    replace h := some_eq h
    subst h
    exact ⟨.inr rfl, retOK_of [(.one (.lst 3 x4.length 1 (gl (csI .i64) x4)))] (by kernel_rfl) ⟨rfl, trivial⟩ (of_decide_eq_true (by kernel_rfl))⟩

/-! impl.BitsOf -/
def impl_BitsOf (K : Nat) (a0 : F32) : Option (Int) :=
  ite2 ((a0.ne a0)) (some (2143289344 : Int)) ((math_Float32bits K a0).bind fun v2 => some (IntKind.i64.wrap v2))

theorem ok_impl_BitsOf (K : Nat) (a0 : F32) (o : (Int)) (h : impl_BitsOf K a0 = some o) : CallOK Try.prog 128 [.one (.flt .f32 a0.bits)] [.one (.int .i64 o)] := by
  refine callOK_of_AW Try.func128 rfl (by kernel_rfl) (Nat.le_of_ble_eq_true (by kernel_rfl)) ?_
  intro w0
  unfold impl_BitsOf at h
  refine AW.seq ?_
  refine AW.regionA [] [0] [] (s' := ⟨[(0, (.v (.one (.c (.flt .f32 a0.bits)))))], []⟩) (ob := True ∧ True) (by kernel_rfl) ⟨trivial, trivial⟩ ?_
  refine thenQ_normal ?_
  refine AW.seq ?_
  refine AW.seq ?_
  refine AW.regionA [] [0, 5] [] (s' := ⟨[(0, (.v (.one (.c (.flt .f32 a0.bits))))), (5, (.v (.one (.c (.bool (a0.ne a0))))))], []⟩) (ob := True ∧ True ∧ True ∧ True) (by kernel_rfl) ⟨trivial, trivial, trivial, trivial⟩ ?_
  refine thenQ_normal ?_
  rcases ite2_cases h with ⟨b1, h⟩ | ⟨b1, h⟩
  · refine AW.cond_t rfl b1 ?_
    refine AW.seq ?_
    refine AW.regionA [] [2] [] (s' := ⟨[(2, (.v (.one (.c (.int .i64 (2143289344 : Int))))))], []⟩) (ob := True ∧ True) (by kernel_rfl) ⟨trivial, trivial⟩ ?_
    refine thenQ_normal ?_
    refine AW.ret ?_
    refine thenQ_ret ?_
    replace h := some_eq h
    subst h
    exact ⟨.inr rfl, retOK_of [(.one (.c (.int .i64 (2143289344 : Int))))] (by kernel_rfl) ⟨⟨rfl, trivial⟩, trivial⟩ (of_decide_eq_true (by kernel_rfl))⟩
  · refine AW.cond_f rfl b1 ?_
    refine AW.skip ?_
    refine thenQ_normal ?_
    refine AW.seq ?_
    obtain ⟨v2, e3, h⟩ := bind_some h
    refine AW.regionA [.no, .call [.one (.flt .f32 a0.bits)] [.one (.int .u32 v2)] [[.view]]] [2] [] (s' := ⟨[(2, (.v (.one (.c (.int .i64 (IntKind.i64.wrap v2))))))], []⟩) (ob := True ∧ (((((.flt .f32 a0.bits) : C) = (.flt .f32 a0.bits)) ∧ True) ∧ CallOK Try.prog 158 [.one (.flt .f32 a0.bits)] [.one (.int .u32 v2)]) ∧ True ∧ True ∧ True) (by kernel_rfl) ⟨trivial, ⟨⟨rfl, trivial⟩, ok_math_Float32bits K a0 v2 e3⟩, trivial, trivial, trivial⟩ ?_
    refine thenQ_normal ?_
    refine AW.ret ?_
    replace h := some_eq h
    subst h
    exact ⟨.inr rfl, retOK_of [(.one (.c (.int .i64 (IntKind.i64.wrap v2))))] (by kernel_rfl) ⟨⟨rfl, trivial⟩, trivial⟩ (of_decide_eq_true (by kernel_rfl))⟩

/-! impl.check -/
def impl_check_l1 (K : Nat) (a1 : ByteArray) : Nat → Int → Int → Option (Int)
  | 0, _, _ => none
  | k + 1, x3, x4 => ite2 ((decide (x4 < (a1.size : Int)))) (chk (0 ≤ x4 ∧ x4 < (a1.size : Int)) (chk ((65003 : Int) ≠ 0) (impl_check_l1 K a1 k ((IntKind.i64.wrap ((IntKind.i64.wrap ((IntKind.i64.wrap ((613 : Int) * x3)) + (IntKind.i64.wrap (bt a1 x4.toNat)))) + (23 : Int))).tmod (65003 : Int)) (IntKind.i64.wrap (x4 + (1 : Int)))))) (some x3)

def impl_check (K : Nat) (a0 : Int) (a1 : ByteArray) : Option (Int) :=
  impl_check_l1 K a1 K a0 (0 : Int)

theorem ok_impl_check (K : Nat) (a0 : Int) (a1 : ByteArray) (o : (Int)) (h : impl_check K a0 a1 = some o) : CallOK Try.prog 129 [.one (.int .i64 a0), .one (.str a1)] [.one (.int .i64 o)] := by
  refine callOK_of_AW Try.func129 rfl (by kernel_rfl) (Nat.le_of_ble_eq_true (by kernel_rfl)) ?_
  intro w0
  unfold impl_check at h
  refine AW.seq ?_
  refine AW.regionA [] [0, 1] [] (s' := ⟨[(0, (.v (.one (.c (.int .i64 a0))))), (1, (.v (.one (.c (.str a1)))))], []⟩) (ob := True ∧ True) (by kernel_rfl) ⟨trivial, trivial⟩ ?_
  refine thenQ_normal ?_
  refine AW.seq ?_
  refine AW.seq ?_
  refine AW.regionA [] [0, 1, 7, 8] [] (s' := ⟨[(0, (.v (.one (.c (.int .i64 a0))))), (1, (.v (.one (.c (.str a1))))), (7, (.v (.one (.c (.int .i64 (a1.size : Int)))))), (8, (.v (.one (.c (.int .i64 (0 : Int))))))], []⟩) (ob := True ∧ True ∧ True ∧ True) (by kernel_rfl) ⟨trivial, trivial, trivial, trivial⟩ ?_
  refine thenQ_normal ?_
  refine AW.block ?_
  refine AW.loopQ (σ := Nat × Int × Int) (fun p => ⟨[(0, (.v (.one (.c (.int .i64 p.2.1))))), (1, (.v (.one (.c (.str a1))))), (7, (.v (.one (.c (.int .i64 (a1.size : Int)))))), (8, (.v (.one (.c (.int .i64 p.2.2)))))], []⟩) (fun p => impl_check_l1 K a1 p.1 p.2.1 p.2.2 = some o) (fun p => p.1) (K, a0, (0 : Int)) h ?_
  clear h
  rintro ⟨k, x3, x4⟩ h
  replace h : impl_check_l1 K a1 k x3 x4 = some o := h
  show AW _ _ (⟨[(0, (.v (.one (.c (.int .i64 x3))))), (1, (.v (.one (.c (.str a1))))), (7, (.v (.one (.c (.int .i64 (a1.size : Int)))))), (8, (.v (.one (.c (.int .i64 x4)))))], []⟩ : St) _
  obtain _ | k := k
  · rw [impl_check_l1] at h; cases h
  rw [impl_check_l1] at h
  refine AW.seq ?_
  refine AW.regionA [] [0, 1, 7, 8, 9] [] (s' := ⟨[(0, (.v (.one (.c (.int .i64 x3))))), (1, (.v (.one (.c (.str a1))))), (7, (.v (.one (.c (.int .i64 (a1.size : Int)))))), (8, (.v (.one (.c (.int .i64 x4))))), (9, (.v (.one (.c (.bool (decide (x4 < (a1.size : Int))))))))], []⟩) (ob := True ∧ True) (by kernel_rfl) ⟨trivial, trivial⟩ ?_
  refine thenQ_normal ?_
  refine AW.seq ?_
  rcases ite2_cases h with ⟨b5, h⟩ | ⟨b5, h⟩
  · refine AW.cond_t rfl b5 ?_
    refine AW.skip ?_
    refine thenQ_normal ?_
    refine AW.seq ?_
    refine AW.block ?_
    refine AW.seq ?_
    refine AW.regionA [] [0, 1, 5, 7, 8] [] (s' := ⟨[(0, (.v (.one (.c (.int .i64 x3))))), (1, (.v (.one (.c (.str a1))))), (5, (.v (.one (.c (.int .i64 x4))))), (7, (.v (.one (.c (.int .i64 (a1.size : Int)))))), (8, (.v (.one (.c (.int .i64 x4)))))], []⟩) (ob := True ∧ True ∧ True) (by kernel_rfl) ⟨trivial, trivial, trivial⟩ ?_
    refine thenQ_normal ?_
    obtain ⟨c6, h⟩ := chk_some h
    obtain ⟨c7, h⟩ := chk_some h
    refine AW.regionA [] [0, 1, 7, 8] [] (s' := ⟨[(0, (.v (.one (.c (.int .i64 ((IntKind.i64.wrap ((IntKind.i64.wrap ((IntKind.i64.wrap ((613 : Int) * x3)) + (IntKind.i64.wrap (bt a1 x4.toNat)))) + (23 : Int))).tmod (65003 : Int))))))), (1, (.v (.one (.c (.str a1))))), (7, (.v (.one (.c (.int .i64 (a1.size : Int)))))), (8, (.v (.one (.c (.int .i64 x4)))))], []⟩) (ob := True ∧ True ∧ True ∧ True ∧ (0 ≤ x4 ∧ x4 < (a1.size : Int)) ∧ True ∧ True ∧ True ∧ ((65003 : Int) ≠ 0) ∧ True ∧ True) (by kernel_rfl) ⟨trivial, trivial, trivial, trivial, c6, trivial, trivial, trivial, c7, trivial, trivial⟩ ?_
    refine blockQ_normal ?_
    refine thenQ_normal ?_
    refine AW.regionA [] [0, 1, 7, 8] [] (s' := ⟨[(0, (.v (.one (.c (.int .i64 ((IntKind.i64.wrap ((IntKind.i64.wrap ((IntKind.i64.wrap ((613 : Int) * x3)) + (IntKind.i64.wrap (bt a1 x4.toNat)))) + (23 : Int))).tmod (65003 : Int))))))), (1, (.v (.one (.c (.str a1))))), (7, (.v (.one (.c (.int .i64 (a1.size : Int)))))), (8, (.v (.one (.c (.int .i64 (IntKind.i64.wrap (x4 + (1 : Int))))))))], []⟩) (ob := True ∧ True ∧ True) (by kernel_rfl) ⟨trivial, trivial, trivial⟩ ?_
    exact loopQ_normal (k, ((IntKind.i64.wrap ((IntKind.i64.wrap ((IntKind.i64.wrap ((613 : Int) * x3)) + (IntKind.i64.wrap (bt a1 x4.toNat)))) + (23 : Int))).tmod (65003 : Int)), (IntKind.i64.wrap (x4 + (1 : Int)))) h (Nat.lt_succ_self k) (Sub.keep [0, 1, 7, 8] [] (by kernel_rfl) (by kernel_rfl))
  · refine AW.cond_f rfl b5 ?_
    refine AW.exit ?_
    refine thenQ_exit ?_
    refine loopQ_exit ?_
    refine blockQ_exit ?_
    refine thenQ_normal ?_
    refine AW.seq ?_
    refine AW.regionA [] [4] [] (s' := ⟨[(4, (.v (.one (.c (.int .i64 x3)))))], []⟩) (ob := True ∧ True ∧ True) (by kernel_rfl) ⟨trivial, trivial, trivial⟩ ?_
    refine thenQ_normal ?_
    refine AW.ret ?_
    replace h := some_eq h
    subst h
    exact ⟨.inr rfl, retOK_of [(.one (.c (.int .i64 x3)))] (by kernel_rfl) ⟨⟨rfl, trivial⟩, trivial⟩ (of_decide_eq_true (by kernel_rfl))⟩

/-! impl.record -/
def impl_record_l1 (K : Nat) (a2 : (List F32)) (v1 : ((List Int))) : Nat → Int → (List Int) → Option ((List Int))
  | 0, _, _ => none
  | k + 1, x6, x7 => ite2 ((decide (x6 < (v1.length : Int)))) (chk (0 ≤ x6 ∧ x6 < (v1.length : Int)) (chk (0 ≤ (v1.getD x6.toNat default) ∧ (v1.getD x6.toNat default) < (a2.length : Int)) ((impl_BitsOf K (a2.getD ((v1.getD x6.toNat default).toNat) default)).bind fun v11 => chk (0 ≤ (8 : Int)) (chk (0 ≤ (16 : Int)) (chk (0 ≤ (24 : Int)) (chk ((x7.length + ([(IntKind.u8.wrap (v1.getD x6.toNat default)), (IntKind.u8.wrap v11), (IntKind.u8.wrap (v11.fdiv (2 ^ (min (8 : Int).toNat (IntKind.bits .i64))))), (IntKind.u8.wrap (v11.fdiv (2 ^ (min (16 : Int).toNat (IntKind.bits .i64))))), (IntKind.u8.wrap (v11.fdiv (2 ^ (min (24 : Int).toNat (IntKind.bits .i64)))))]).length) * 1 ≤ 140737488355328) (impl_record_l1 K a2 v1 k (IntKind.i64.wrap (x6 + (1 : Int))) (x7 ++ ([(IntKind.u8.wrap (v1.getD x6.toNat default)), (IntKind.u8.wrap v11), (IntKind.u8.wrap (v11.fdiv (2 ^ (min (8 : Int).toNat (IntKind.bits .i64))))), (IntKind.u8.wrap (v11.fdiv (2 ^ (min (16 : Int).toNat (IntKind.bits .i64))))), (IntKind.u8.wrap (v11.fdiv (2 ^ (min (24 : Int).toNat (IntKind.bits .i64)))))]))))))))) (chk (∀ x ∈ x7, 0 ≤ x ∧ x < 256) ((impl_check K (0 : Int) (strOf x7)).bind fun v18 => chk (0 ≤ (8 : Int)) (chk ((x7.length + ([(IntKind.u8.wrap v18), (IntKind.u8.wrap (v18.fdiv (2 ^ (min (8 : Int).toNat (IntKind.bits .i64)))))]).length) * 1 ≤ 140737488355328) (some (x7 ++ ([(IntKind.u8.wrap v18), (IntKind.u8.wrap (v18.fdiv (2 ^ (min (8 : Int).toNat (IntKind.bits .i64)))))]))))))

def impl_record (K : Nat) (a0 : (List Int)) (a1 : (List F32)) (a2 : (List F32)) : Option ((List Int)) :=
  (impl_changed K a1 a2).bind fun v1 => chk ((a0.length + ([(IntKind.u8.wrap (v1.length : Int))]).length) * 1 ≤ 140737488355328) (impl_record_l1 K a2 v1 K (0 : Int) (a0 ++ ([(IntKind.u8.wrap (v1.length : Int))])))

theorem ok_impl_record (K : Nat) (a0 : (List Int)) (a1 : (List F32)) (a2 : (List F32)) (o : ((List Int))) (h : impl_record K a0 a1 a2 = some o) : MutOK Try.prog 85 [(.one (.mv (sl 1 (csI .u8) a0))), (.one (.ro (sl 1 (csF .f32) a1))), (.one (.ro (sl 1 (csF .f32) a2)))] [.one (sl 1 (csI .u8) o)] := by
  refine mutOK_of_AW 1 Try.func85 rfl (by kernel_rfl) (Nat.le_of_ble_eq_true (by kernel_rfl)) (by kernel_rfl) (by kernel_rfl) ?_
  intro w0 K0 v0 s0
  unfold impl_record at h
  refine AW.seq ?_
  refine AW.regionA [] [0, 1, 2] [0] (s' := ⟨[(0, (.v (.one (.arr 0)))), (1, (.v (.one (.c (sl 1 (csF .f32) a1))))), (2, (.v (.one (.c (sl 1 (csF .f32) a2)))))], [(0, (.arr true a0.length 1 (gl (csI .u8) a0)))]⟩) (ob := True ∧ True) (by kernel_rfl) ⟨trivial, trivial⟩ ?_
  refine thenQ_normal ?_
  refine AW.seq ?_
  obtain ⟨v1, e2, h⟩ := bind_some h
  refine AW.regionA [.no, .no, .call [.one (sl 1 (csF .f32) a1), .one (sl 1 (csF .f32) a2)] [.one (sl 1 (csI .i64) v1)] [[.lst 1]]] [0, 1, 2, 7] [0, 1] (s' := ⟨[(0, (.v (.one (.arr 0)))), (1, (.v (.one (.c (sl 1 (csF .f32) a1))))), (2, (.v (.one (.c (sl 1 (csF .f32) a2))))), (7, (.v (.one (.lst 1 v1.length 1 (gl (csI .i64) v1)))))], [(0, (.arr true a0.length 1 (gl (csI .u8) a0))), (1, (.lst v1.length 1 (gl (csI .i64) v1)))]⟩) (ob := True ∧ True ∧ (((((sl 1 (csF .f32) a1) : C) = (sl 1 (csF .f32) a1)) ∧ (((sl 1 (csF .f32) a2) : C) = (sl 1 (csF .f32) a2)) ∧ True) ∧ CallOK Try.prog 106 [.one (sl 1 (csF .f32) a1), .one (sl 1 (csF .f32) a2)] [.one (sl 1 (csI .i64) v1)]) ∧ True ∧ True) (by kernel_rfl) ⟨trivial, trivial, ⟨⟨rfl, rfl, trivial⟩, ok_impl_changed K a1 a2 v1 e2⟩, trivial, trivial⟩ ?_
  refine thenQ_normal ?_
  refine AW.seq ?_
  obtain ⟨c3, h⟩ := chk_some h
  refine AW.regionA [.no, .no, .no, .no, .obj 2 ([(IntKind.u8.wrap (v1.length : Int))]).length (gl (csI .u8) ([(IntKind.u8.wrap (v1.length : Int))])), .objK 3 (a0 ++ ([(IntKind.u8.wrap (v1.length : Int))])).length (gl (csI .u8) (a0 ++ ([(IntKind.u8.wrap (v1.length : Int))])))] [0, 1, 2, 7] [1, 3] (s' := ⟨[(0, (.v (.one (.lst 3 (a0 ++ ([(IntKind.u8.wrap (v1.length : Int))])).length 1 (gl (csI .u8) (a0 ++ ([(IntKind.u8.wrap (v1.length : Int))]))))))), (1, (.v (.one (.c (sl 1 (csF .f32) a1))))), (2, (.v (.one (.c (sl 1 (csF .f32) a2))))), (7, (.v (.one (.lst 1 v1.length 1 (gl (csI .i64) v1)))))], [(1, (.lst v1.length 1 (gl (csI .i64) v1))), (3, (.lst (a0 ++ ([(IntKind.u8.wrap (v1.length : Int))])).length 1 (gl (csI .u8) (a0 ++ ([(IntKind.u8.wrap (v1.length : Int))])))))]⟩) (ob := True ∧ True ∧ True ∧ True ∧ (([(IntKind.u8.wrap (v1.length : Int))]).length = 1 ∧ (((.int .u8 (IntKind.u8.wrap (v1.length : Int))) : C) = (.int .u8 (IntKind.u8.wrap (v1.length : Int))) ∧ True) ∧ True) ∧ ((a0 ++ ([(IntKind.u8.wrap (v1.length : Int))])).length = a0.length + ([(IntKind.u8.wrap (v1.length : Int))]).length ∧ AppOb (a0.length) (([(IntKind.u8.wrap (v1.length : Int))]).length) 1 (gl (csI .u8) a0) (gl (csI .u8) ([(IntKind.u8.wrap (v1.length : Int))])) (gl (csI .u8) (a0 ++ ([(IntKind.u8.wrap (v1.length : Int))]))) ∧ (∀ i j, i < ([(IntKind.u8.wrap (v1.length : Int))]).length → j < 1 → scalarC (gl (csI .u8) ([(IntKind.u8.wrap (v1.length : Int))]) i j)) ∧ (a0.length + ([(IntKind.u8.wrap (v1.length : Int))]).length) * 1 ≤ 140737488355328) ∧ True ∧ True) (by kernel_rfl) ⟨trivial, trivial, trivial, trivial, ⟨rfl, ⟨⟨rfl, trivial⟩, trivial⟩⟩, ⟨List.length_append, gl_append, gl_scalar scI _, c3⟩, trivial, trivial⟩ ?_
  refine thenQ_normal ?_
  refine AW.seq ?_
  refine AW.seq ?_
  refine AW.regionA [] [0, 1, 2, 21, 22, 23] [1, 3] (s' := ⟨[(0, (.v (.one (.lst 3 (a0 ++ ([(IntKind.u8.wrap (v1.length : Int))])).length 1 (gl (csI .u8) (a0 ++ ([(IntKind.u8.wrap (v1.length : Int))]))))))), (1, (.v (.one (.c (sl 1 (csF .f32) a1))))), (2, (.v (.one (.c (sl 1 (csF .f32) a2))))), (21, (.v (.one (.lst 1 v1.length 1 (gl (csI .i64) v1))))), (22, (.v (.one (.c (.int .i64 (v1.length : Int)))))), (23, (.v (.one (.c (.int .i64 (0 : Int))))))], [(1, (.lst v1.length 1 (gl (csI .i64) v1))), (3, (.lst (a0 ++ ([(IntKind.u8.wrap (v1.length : Int))])).length 1 (gl (csI .u8) (a0 ++ ([(IntKind.u8.wrap (v1.length : Int))])))))]⟩) (ob := True ∧ True ∧ True ∧ True) (by kernel_rfl) ⟨trivial, trivial, trivial, trivial⟩ ?_
  refine thenQ_normal ?_
  refine AW.block ?_
  refine AW.loopQ (σ := Nat × Int × (List Int)) (fun p => ⟨[(0, (.v (.one (.lst 3 p.2.2.length 1 (gl (csI .u8) p.2.2))))), (1, (.v (.one (.c (sl 1 (csF .f32) a1))))), (2, (.v (.one (.c (sl 1 (csF .f32) a2))))), (21, (.v (.one (.lst 1 v1.length 1 (gl (csI .i64) v1))))), (22, (.v (.one (.c (.int .i64 (v1.length : Int)))))), (23, (.v (.one (.c (.int .i64 p.2.1)))))], [(1, (.lst v1.length 1 (gl (csI .i64) v1))), (3, (.lst p.2.2.length 1 (gl (csI .u8) p.2.2)))]⟩) (fun p => impl_record_l1 K a2 v1 p.1 p.2.1 p.2.2 = some o) (fun p => p.1) (K, (0 : Int), (a0 ++ ([(IntKind.u8.wrap (v1.length : Int))]))) h ?_
  clear h
  rintro ⟨k, x6, x7⟩ h
  replace h : impl_record_l1 K a2 v1 k x6 x7 = some o := h
  show AW _ _ (⟨[(0, (.v (.one (.lst 3 x7.length 1 (gl (csI .u8) x7))))), (1, (.v (.one (.c (sl 1 (csF .f32) a1))))), (2, (.v (.one (.c (sl 1 (csF .f32) a2))))), (21, (.v (.one (.lst 1 v1.length 1 (gl (csI .i64) v1))))), (22, (.v (.one (.c (.int .i64 (v1.length : Int)))))), (23, (.v (.one (.c (.int .i64 x6)))))], [(1, (.lst v1.length 1 (gl (csI .i64) v1))), (3, (.lst x7.length 1 (gl (csI .u8) x7)))]⟩ : St) _
  obtain _ | k := k
  · rw [impl_record_l1] at h; cases h
  rw [impl_record_l1] at h
  refine AW.seq ?_
  refine AW.regionA [] [0, 1, 2, 21, 22, 23, 24] [1, 3] (s' := ⟨[(0, (.v (.one (.lst 3 x7.length 1 (gl (csI .u8) x7))))), (1, (.v (.one (.c (sl 1 (csF .f32) a1))))), (2, (.v (.one (.c (sl 1 (csF .f32) a2))))), (21, (.v (.one (.lst 1 v1.length 1 (gl (csI .i64) v1))))), (22, (.v (.one (.c (.int .i64 (v1.length : Int)))))), (23, (.v (.one (.c (.int .i64 x6))))), (24, (.v (.one (.c (.bool (decide (x6 < (v1.length : Int))))))))], [(1, (.lst v1.length 1 (gl (csI .i64) v1))), (3, (.lst x7.length 1 (gl (csI .u8) x7)))]⟩) (ob := True ∧ True) (by kernel_rfl) ⟨trivial, trivial⟩ ?_
  refine thenQ_normal ?_
  refine AW.seq ?_
  rcases ite2_cases h with ⟨b8, h⟩ | ⟨b8, h⟩
  · refine AW.cond_t rfl b8 ?_
    refine AW.skip ?_
    refine thenQ_normal ?_
    refine AW.seq ?_
    refine AW.block ?_
    refine AW.seq ?_
    obtain ⟨c9, h⟩ := chk_some h
    refine AW.regionA [] [0, 1, 2, 9, 21, 22, 23] [1, 3] (s' := ⟨[(0, (.v (.one (.lst 3 x7.length 1 (gl (csI .u8) x7))))), (1, (.v (.one (.c (sl 1 (csF .f32) a1))))), (2, (.v (.one (.c (sl 1 (csF .f32) a2))))), (9, (.v (.one (.c (.int .i64 (v1.getD x6.toNat default)))))), (21, (.v (.one (.lst 1 v1.length 1 (gl (csI .i64) v1))))), (22, (.v (.one (.c (.int .i64 (v1.length : Int)))))), (23, (.v (.one (.c (.int .i64 x6)))))], [(1, (.lst v1.length 1 (gl (csI .i64) v1))), (3, (.lst x7.length 1 (gl (csI .u8) x7)))]⟩) (ob := (0 ≤ x6 ∧ x6 < (v1.length : Int)) ∧ True ∧ True ∧ True) (by kernel_rfl) ⟨c9, trivial, trivial, trivial⟩ ?_
    refine thenQ_normal ?_
    refine AW.seq ?_
    obtain ⟨c10, h⟩ := chk_some h
    obtain ⟨v11, e12, h⟩ := bind_some h
    refine AW.regionA [.no, .no, .no, .no, .call [.one (.flt .f32 (a2.getD ((v1.getD x6.toNat default).toNat) default).bits)] [.one (.int .i64 v11)] [[.view]]] [0, 1, 2, 9, 10, 21, 22, 23] [1, 3] (s' := ⟨[(0, (.v (.one (.lst 3 x7.length 1 (gl (csI .u8) x7))))), (1, (.v (.one (.c (sl 1 (csF .f32) a1))))), (2, (.v (.one (.c (sl 1 (csF .f32) a2))))), (9, (.v (.one (.c (.int .i64 (v1.getD x6.toNat default)))))), (10, (.v (.one (.c (.int .i64 v11))))), (21, (.v (.one (.lst 1 v1.length 1 (gl (csI .i64) v1))))), (22, (.v (.one (.c (.int .i64 (v1.length : Int)))))), (23, (.v (.one (.c (.int .i64 x6)))))], [(1, (.lst v1.length 1 (gl (csI .i64) v1))), (3, (.lst x7.length 1 (gl (csI .u8) x7)))]⟩) (ob := True ∧ True ∧ (0 ≤ (v1.getD x6.toNat default) ∧ (v1.getD x6.toNat default) < (a2.length : Int)) ∧ True ∧ (((((.flt .f32 (a2.getD ((v1.getD x6.toNat default).toNat) default).bits) : C) = (.flt .f32 (a2.getD ((v1.getD x6.toNat default).toNat) default).bits)) ∧ True) ∧ CallOK Try.prog 128 [.one (.flt .f32 (a2.getD ((v1.getD x6.toNat default).toNat) default).bits)] [.one (.int .i64 v11)]) ∧ True ∧ True) (by kernel_rfl) ⟨trivial, trivial, c10, trivial, ⟨⟨rfl, trivial⟩, ok_impl_BitsOf K (a2.getD ((v1.getD x6.toNat default).toNat) default) v11 e12⟩, trivial, trivial⟩ ?_
    refine thenQ_normal ?_
    obtain ⟨c13, h⟩ := chk_some h
    obtain ⟨c14, h⟩ := chk_some h
    obtain ⟨c15, h⟩ := chk_some h
    obtain ⟨c16, h⟩ := chk_some h
    refine AW.regionA [.no, .no, .no, .no, .no, .no, .no, .no, .no, .no, .no, .no, .no, .no, .obj 8 ([(IntKind.u8.wrap (v1.getD x6.toNat default)), (IntKind.u8.wrap v11), (IntKind.u8.wrap (v11.fdiv (2 ^ (min (8 : Int).toNat (IntKind.bits .i64))))), (IntKind.u8.wrap (v11.fdiv (2 ^ (min (16 : Int).toNat (IntKind.bits .i64))))), (IntKind.u8.wrap (v11.fdiv (2 ^ (min (24 : Int).toNat (IntKind.bits .i64)))))]).length (gl (csI .u8) ([(IntKind.u8.wrap (v1.getD x6.toNat default)), (IntKind.u8.wrap v11), (IntKind.u8.wrap (v11.fdiv (2 ^ (min (8 : Int).toNat (IntKind.bits .i64))))), (IntKind.u8.wrap (v11.fdiv (2 ^ (min (16 : Int).toNat (IntKind.bits .i64))))), (IntKind.u8.wrap (v11.fdiv (2 ^ (min (24 : Int).toNat (IntKind.bits .i64)))))])), .objK 9 (x7 ++ ([(IntKind.u8.wrap (v1.getD x6.toNat default)), (IntKind.u8.wrap v11), (IntKind.u8.wrap (v11.fdiv (2 ^ (min (8 : Int).toNat (IntKind.bits .i64))))), (IntKind.u8.wrap (v11.fdiv (2 ^ (min (16 : Int).toNat (IntKind.bits .i64))))), (IntKind.u8.wrap (v11.fdiv (2 ^ (min (24 : Int).toNat (IntKind.bits .i64)))))])).length (gl (csI .u8) (x7 ++ ([(IntKind.u8.wrap (v1.getD x6.toNat default)), (IntKind.u8.wrap v11), (IntKind.u8.wrap (v11.fdiv (2 ^ (min (8 : Int).toNat (IntKind.bits .i64))))), (IntKind.u8.wrap (v11.fdiv (2 ^ (min (16 : Int).toNat (IntKind.bits .i64))))), (IntKind.u8.wrap (v11.fdiv (2 ^ (min (24 : Int).toNat (IntKind.bits .i64)))))])))] [0, 1, 2, 21, 22, 23] [1, 9] (s' := ⟨[(0, (.v (.one (.lst 9 (x7 ++ ([(IntKind.u8.wrap (v1.getD x6.toNat default)), (IntKind.u8.wrap v11), (IntKind.u8.wrap (v11.fdiv (2 ^ (min (8 : Int).toNat (IntKind.bits .i64))))), (IntKind.u8.wrap (v11.fdiv (2 ^ (min (16 : Int).toNat (IntKind.bits .i64))))), (IntKind.u8.wrap (v11.fdiv (2 ^ (min (24 : Int).toNat (IntKind.bits .i64)))))])).length 1 (gl (csI .u8) (x7 ++ ([(IntKind.u8.wrap (v1.getD x6.toNat default)), (IntKind.u8.wrap v11), (IntKind.u8.wrap (v11.fdiv (2 ^ (min (8 : Int).toNat (IntKind.bits .i64))))), (IntKind.u8.wrap (v11.fdiv (2 ^ (min (16 : Int).toNat (IntKind.bits .i64))))), (IntKind.u8.wrap (v11.fdiv (2 ^ (min (24 : Int).toNat (IntKind.bits .i64)))))]))))))), (1, (.v (.one (.c (sl 1 (csF .f32) a1))))), (2, (.v (.one (.c (sl 1 (csF .f32) a2))))), (21, (.v (.one (.lst 1 v1.length 1 (gl (csI .i64) v1))))), (22, (.v (.one (.c (.int .i64 (v1.length : Int)))))), (23, (.v (.one (.c (.int .i64 x6)))))], [(1, (.lst v1.length 1 (gl (csI .i64) v1))), (9, (.lst (x7 ++ ([(IntKind.u8.wrap (v1.getD x6.toNat default)), (IntKind.u8.wrap v11), (IntKind.u8.wrap (v11.fdiv (2 ^ (min (8 : Int).toNat (IntKind.bits .i64))))), (IntKind.u8.wrap (v11.fdiv (2 ^ (min (16 : Int).toNat (IntKind.bits .i64))))), (IntKind.u8.wrap (v11.fdiv (2 ^ (min (24 : Int).toNat (IntKind.bits .i64)))))])).length 1 (gl (csI .u8) (x7 ++ ([(IntKind.u8.wrap (v1.getD x6.toNat default)), (IntKind.u8.wrap v11), (IntKind.u8.wrap (v11.fdiv (2 ^ (min (8 : Int).toNat (IntKind.bits .i64))))), (IntKind.u8.wrap (v11.fdiv (2 ^ (min (16 : Int).toNat (IntKind.bits .i64))))), (IntKind.u8.wrap (v11.fdiv (2 ^ (min (24 : Int).toNat (IntKind.bits .i64)))))])))))]⟩) (ob := True ∧ True ∧ True ∧ True ∧ True ∧ True ∧ (0 ≤ (8 : Int)) ∧ True ∧ True ∧ (0 ≤ (16 : Int)) ∧ True ∧ True ∧ (0 ≤ (24 : Int)) ∧ True ∧ (([(IntKind.u8.wrap (v1.getD x6.toNat default)), (IntKind.u8.wrap v11), (IntKind.u8.wrap (v11.fdiv (2 ^ (min (8 : Int).toNat (IntKind.bits .i64))))), (IntKind.u8.wrap (v11.fdiv (2 ^ (min (16 : Int).toNat (IntKind.bits .i64))))), (IntKind.u8.wrap (v11.fdiv (2 ^ (min (24 : Int).toNat (IntKind.bits .i64)))))]).length = 5 ∧ (((.int .u8 (IntKind.u8.wrap (v1.getD x6.toNat default))) : C) = (.int .u8 (IntKind.u8.wrap (v1.getD x6.toNat default))) ∧ True) ∧ (((.int .u8 (IntKind.u8.wrap v11)) : C) = (.int .u8 (IntKind.u8.wrap v11)) ∧ True) ∧ (((.int .u8 (IntKind.u8.wrap (v11.fdiv (2 ^ (min (8 : Int).toNat (IntKind.bits .i64)))))) : C) = (.int .u8 (IntKind.u8.wrap (v11.fdiv (2 ^ (min (8 : Int).toNat (IntKind.bits .i64)))))) ∧ True) ∧ (((.int .u8 (IntKind.u8.wrap (v11.fdiv (2 ^ (min (16 : Int).toNat (IntKind.bits .i64)))))) : C) = (.int .u8 (IntKind.u8.wrap (v11.fdiv (2 ^ (min (16 : Int).toNat (IntKind.bits .i64)))))) ∧ True) ∧ (((.int .u8 (IntKind.u8.wrap (v11.fdiv (2 ^ (min (24 : Int).toNat (IntKind.bits .i64)))))) : C) = (.int .u8 (IntKind.u8.wrap (v11.fdiv (2 ^ (min (24 : Int).toNat (IntKind.bits .i64)))))) ∧ True) ∧ True) ∧ ((x7 ++ ([(IntKind.u8.wrap (v1.getD x6.toNat default)), (IntKind.u8.wrap v11), (IntKind.u8.wrap (v11.fdiv (2 ^ (min (8 : Int).toNat (IntKind.bits .i64))))), (IntKind.u8.wrap (v11.fdiv (2 ^ (min (16 : Int).toNat (IntKind.bits .i64))))), (IntKind.u8.wrap (v11.fdiv (2 ^ (min (24 : Int).toNat (IntKind.bits .i64)))))])).length = x7.length + ([(IntKind.u8.wrap (v1.getD x6.toNat default)), (IntKind.u8.wrap v11), (IntKind.u8.wrap (v11.fdiv (2 ^ (min (8 : Int).toNat (IntKind.bits .i64))))), (IntKind.u8.wrap (v11.fdiv (2 ^ (min (16 : Int).toNat (IntKind.bits .i64))))), (IntKind.u8.wrap (v11.fdiv (2 ^ (min (24 : Int).toNat (IntKind.bits .i64)))))]).length ∧ AppOb (x7.length) (([(IntKind.u8.wrap (v1.getD x6.toNat default)), (IntKind.u8.wrap v11), (IntKind.u8.wrap (v11.fdiv (2 ^ (min (8 : Int).toNat (IntKind.bits .i64))))), (IntKind.u8.wrap (v11.fdiv (2 ^ (min (16 : Int).toNat (IntKind.bits .i64))))), (IntKind.u8.wrap (v11.fdiv (2 ^ (min (24 : Int).toNat (IntKind.bits .i64)))))]).length) 1 (gl (csI .u8) x7) (gl (csI .u8) ([(IntKind.u8.wrap (v1.getD x6.toNat default)), (IntKind.u8.wrap v11), (IntKind.u8.wrap (v11.fdiv (2 ^ (min (8 : Int).toNat (IntKind.bits .i64))))), (IntKind.u8.wrap (v11.fdiv (2 ^ (min (16 : Int).toNat (IntKind.bits .i64))))), (IntKind.u8.wrap (v11.fdiv (2 ^ (min (24 : Int).toNat (IntKind.bits .i64)))))])) (gl (csI .u8) (x7 ++ ([(IntKind.u8.wrap (v1.getD x6.toNat default)), (IntKind.u8.wrap v11), (IntKind.u8.wrap (v11.fdiv (2 ^ (min (8 : Int).toNat (IntKind.bits .i64))))), (IntKind.u8.wrap (v11.fdiv (2 ^ (min (16 : Int).toNat (IntKind.bits .i64))))), (IntKind.u8.wrap (v11.fdiv (2 ^ (min (24 : Int).toNat (IntKind.bits .i64)))))]))) ∧ (∀ i j, i < ([(IntKind.u8.wrap (v1.getD x6.toNat default)), (IntKind.u8.wrap v11), (IntKind.u8.wrap (v11.fdiv (2 ^ (min (8 : Int).toNat (IntKind.bits .i64))))), (IntKind.u8.wrap (v11.fdiv (2 ^ (min (16 : Int).toNat (IntKind.bits .i64))))), (IntKind.u8.wrap (v11.fdiv (2 ^ (min (24 : Int).toNat (IntKind.bits .i64)))))]).length → j < 1 → scalarC (gl (csI .u8) ([(IntKind.u8.wrap (v1.getD x6.toNat default)), (IntKind.u8.wrap v11), (IntKind.u8.wrap (v11.fdiv (2 ^ (min (8 : Int).toNat (IntKind.bits .i64))))), (IntKind.u8.wrap (v11.fdiv (2 ^ (min (16 : Int).toNat (IntKind.bits .i64))))), (IntKind.u8.wrap (v11.fdiv (2 ^ (min (24 : Int).toNat (IntKind.bits .i64)))))]) i j)) ∧ (x7.length + ([(IntKind.u8.wrap (v1.getD x6.toNat default)), (IntKind.u8.wrap v11), (IntKind.u8.wrap (v11.fdiv (2 ^ (min (8 : Int).toNat (IntKind.bits .i64))))), (IntKind.u8.wrap (v11.fdiv (2 ^ (min (16 : Int).toNat (IntKind.bits .i64))))), (IntKind.u8.wrap (v11.fdiv (2 ^ (min (24 : Int).toNat (IntKind.bits .i64)))))]).length) * 1 ≤ 140737488355328) ∧ True ∧ True) (by kernel_rfl) ⟨trivial, trivial, trivial, trivial, trivial, trivial, c13, trivial, trivial, c14, trivial, trivial, c15, trivial, ⟨rfl, ⟨⟨rfl, trivial⟩, ⟨rfl, trivial⟩, ⟨rfl, trivial⟩, ⟨rfl, trivial⟩, ⟨rfl, trivial⟩, trivial⟩⟩, ⟨List.length_append, gl_append, gl_scalar scI _, c16⟩, trivial, trivial⟩ ?_
    refine blockQ_normal ?_
    refine thenQ_normal ?_
    refine AW.regionA [] [0, 1, 2, 21, 22, 23] [1, 9] (s' := ⟨[(0, (.v (.one (.lst 9 (x7 ++ ([(IntKind.u8.wrap (v1.getD x6.toNat default)), (IntKind.u8.wrap v11), (IntKind.u8.wrap (v11.fdiv (2 ^ (min (8 : Int).toNat (IntKind.bits .i64))))), (IntKind.u8.wrap (v11.fdiv (2 ^ (min (16 : Int).toNat (IntKind.bits .i64))))), (IntKind.u8.wrap (v11.fdiv (2 ^ (min (24 : Int).toNat (IntKind.bits .i64)))))])).length 1 (gl (csI .u8) (x7 ++ ([(IntKind.u8.wrap (v1.getD x6.toNat default)), (IntKind.u8.wrap v11), (IntKind.u8.wrap (v11.fdiv (2 ^ (min (8 : Int).toNat (IntKind.bits .i64))))), (IntKind.u8.wrap (v11.fdiv (2 ^ (min (16 : Int).toNat (IntKind.bits .i64))))), (IntKind.u8.wrap (v11.fdiv (2 ^ (min (24 : Int).toNat (IntKind.bits .i64)))))]))))))), (1, (.v (.one (.c (sl 1 (csF .f32) a1))))), (2, (.v (.one (.c (sl 1 (csF .f32) a2))))), (21, (.v (.one (.lst 1 v1.length 1 (gl (csI .i64) v1))))), (22, (.v (.one (.c (.int .i64 (v1.length : Int)))))), (23, (.v (.one (.c (.int .i64 (IntKind.i64.wrap (x6 + (1 : Int))))))))], [(1, (.lst v1.length 1 (gl (csI .i64) v1))), (9, (.lst (x7 ++ ([(IntKind.u8.wrap (v1.getD x6.toNat default)), (IntKind.u8.wrap v11), (IntKind.u8.wrap (v11.fdiv (2 ^ (min (8 : Int).toNat (IntKind.bits .i64))))), (IntKind.u8.wrap (v11.fdiv (2 ^ (min (16 : Int).toNat (IntKind.bits .i64))))), (IntKind.u8.wrap (v11.fdiv (2 ^ (min (24 : Int).toNat (IntKind.bits .i64)))))])).length 1 (gl (csI .u8) (x7 ++ ([(IntKind.u8.wrap (v1.getD x6.toNat default)), (IntKind.u8.wrap v11), (IntKind.u8.wrap (v11.fdiv (2 ^ (min (8 : Int).toNat (IntKind.bits .i64))))), (IntKind.u8.wrap (v11.fdiv (2 ^ (min (16 : Int).toNat (IntKind.bits .i64))))), (IntKind.u8.wrap (v11.fdiv (2 ^ (min (24 : Int).toNat (IntKind.bits .i64)))))])))))]⟩) (ob := True ∧ True ∧ True) (by kernel_rfl) ⟨trivial, trivial, trivial⟩ ?_
    exact loopQ_normal (k, (IntKind.i64.wrap (x6 + (1 : Int))), (x7 ++ ([(IntKind.u8.wrap (v1.getD x6.toNat default)), (IntKind.u8.wrap v11), (IntKind.u8.wrap (v11.fdiv (2 ^ (min (8 : Int).toNat (IntKind.bits .i64))))), (IntKind.u8.wrap (v11.fdiv (2 ^ (min (16 : Int).toNat (IntKind.bits .i64))))), (IntKind.u8.wrap (v11.fdiv (2 ^ (min (24 : Int).toNat (IntKind.bits .i64)))))]))) h (Nat.lt_succ_self k) (Sub.trans (Sub.swap 3 9 _ (by kernel_rfl) (by kernel_rfl)) (Sub.keep [0, 1, 2, 21, 22, 23] [1, 3] (by kernel_rfl) (by kernel_rfl)))
  · refine AW.cond_f rfl b8 ?_
    refine AW.exit ?_
    refine thenQ_exit ?_
    refine loopQ_exit ?_
    refine blockQ_exit ?_
    refine thenQ_normal ?_
    refine AW.seq ?_
    obtain ⟨c17, h⟩ := chk_some h
    obtain ⟨v18, e19, h⟩ := bind_some h
    refine AW.regionA [.no, .str (strOf x7), .call [.one (.int .i64 (0 : Int)), .one (.str (strOf x7))] [.one (.int .i64 v18)] [[.view]]] [0, 1, 2, 11] [3] (s' := ⟨[(0, (.v (.one (.lst 3 x7.length 1 (gl (csI .u8) x7))))), (1, (.v (.one (.c (sl 1 (csF .f32) a1))))), (2, (.v (.one (.c (sl 1 (csF .f32) a2))))), (11, (.v (.one (.c (.int .i64 v18)))))], [(3, (.lst x7.length 1 (gl (csI .u8) x7)))]⟩) (ob := True ∧ (bytesOb (strOf x7) x7.length (gl (csI .u8) x7)) ∧ (((((.int .i64 (0 : Int)) : C) = (.int .i64 (0 : Int))) ∧ (((.str (strOf x7)) : C) = (.str (strOf x7))) ∧ True) ∧ CallOK Try.prog 129 [.one (.int .i64 (0 : Int)), .one (.str (strOf x7))] [.one (.int .i64 v18)]) ∧ True ∧ True) (by kernel_rfl) ⟨trivial, strOf_ob c17, ⟨⟨rfl, rfl, trivial⟩, ok_impl_check K (0 : Int) (strOf x7) v18 e19⟩, trivial, trivial⟩ ?_
    refine thenQ_normal ?_
    refine AW.seq ?_
    obtain ⟨c20, h⟩ := chk_some h
    obtain ⟨c21, h⟩ := chk_some h
    refine AW.regionA [.no, .no, .no, .no, .no, .no, .obj 10 ([(IntKind.u8.wrap v18), (IntKind.u8.wrap (v18.fdiv (2 ^ (min (8 : Int).toNat (IntKind.bits .i64)))))]).length (gl (csI .u8) ([(IntKind.u8.wrap v18), (IntKind.u8.wrap (v18.fdiv (2 ^ (min (8 : Int).toNat (IntKind.bits .i64)))))])), .objK 11 (x7 ++ ([(IntKind.u8.wrap v18), (IntKind.u8.wrap (v18.fdiv (2 ^ (min (8 : Int).toNat (IntKind.bits .i64)))))])).length (gl (csI .u8) (x7 ++ ([(IntKind.u8.wrap v18), (IntKind.u8.wrap (v18.fdiv (2 ^ (min (8 : Int).toNat (IntKind.bits .i64)))))])))] [0, 1, 2, 6] [11] (s' := ⟨[(0, (.v (.one (.lst 3 x7.length 1 (gl (csI .u8) x7))))), (1, (.v (.one (.c (sl 1 (csF .f32) a1))))), (2, (.v (.one (.c (sl 1 (csF .f32) a2))))), (6, (.v (.one (.lst 11 (x7 ++ ([(IntKind.u8.wrap v18), (IntKind.u8.wrap (v18.fdiv (2 ^ (min (8 : Int).toNat (IntKind.bits .i64)))))])).length 1 (gl (csI .u8) (x7 ++ ([(IntKind.u8.wrap v18), (IntKind.u8.wrap (v18.fdiv (2 ^ (min (8 : Int).toNat (IntKind.bits .i64)))))])))))))], [(11, (.lst (x7 ++ ([(IntKind.u8.wrap v18), (IntKind.u8.wrap (v18.fdiv (2 ^ (min (8 : Int).toNat (IntKind.bits .i64)))))])).length 1 (gl (csI .u8) (x7 ++ ([(IntKind.u8.wrap v18), (IntKind.u8.wrap (v18.fdiv (2 ^ (min (8 : Int).toNat (IntKind.bits .i64)))))])))))]⟩) (ob := True ∧ True ∧ True ∧ True ∧ (0 ≤ (8 : Int)) ∧ True ∧ (([(IntKind.u8.wrap v18), (IntKind.u8.wrap (v18.fdiv (2 ^ (min (8 : Int).toNat (IntKind.bits .i64)))))]).length = 2 ∧ (((.int .u8 (IntKind.u8.wrap v18)) : C) = (.int .u8 (IntKind.u8.wrap v18)) ∧ True) ∧ (((.int .u8 (IntKind.u8.wrap (v18.fdiv (2 ^ (min (8 : Int).toNat (IntKind.bits .i64)))))) : C) = (.int .u8 (IntKind.u8.wrap (v18.fdiv (2 ^ (min (8 : Int).toNat (IntKind.bits .i64)))))) ∧ True) ∧ True) ∧ ((x7 ++ ([(IntKind.u8.wrap v18), (IntKind.u8.wrap (v18.fdiv (2 ^ (min (8 : Int).toNat (IntKind.bits .i64)))))])).length = x7.length + ([(IntKind.u8.wrap v18), (IntKind.u8.wrap (v18.fdiv (2 ^ (min (8 : Int).toNat (IntKind.bits .i64)))))]).length ∧ AppOb (x7.length) (([(IntKind.u8.wrap v18), (IntKind.u8.wrap (v18.fdiv (2 ^ (min (8 : Int).toNat (IntKind.bits .i64)))))]).length) 1 (gl (csI .u8) x7) (gl (csI .u8) ([(IntKind.u8.wrap v18), (IntKind.u8.wrap (v18.fdiv (2 ^ (min (8 : Int).toNat (IntKind.bits .i64)))))])) (gl (csI .u8) (x7 ++ ([(IntKind.u8.wrap v18), (IntKind.u8.wrap (v18.fdiv (2 ^ (min (8 : Int).toNat (IntKind.bits .i64)))))]))) ∧ (∀ i j, i < ([(IntKind.u8.wrap v18), (IntKind.u8.wrap (v18.fdiv (2 ^ (min (8 : Int).toNat (IntKind.bits .i64)))))]).length → j < 1 → scalarC (gl (csI .u8) ([(IntKind.u8.wrap v18), (IntKind.u8.wrap (v18.fdiv (2 ^ (min (8 : Int).toNat (IntKind.bits .i64)))))]) i j)) ∧ (x7.length + ([(IntKind.u8.wrap v18), (IntKind.u8.wrap (v18.fdiv (2 ^ (min (8 : Int).toNat (IntKind.bits .i64)))))]).length) * 1 ≤ 140737488355328) ∧ True ∧ True) (by kernel_rfl) ⟨trivial, trivial, trivial, trivial, c20, trivial, ⟨rfl, ⟨⟨rfl, trivial⟩, ⟨rfl, trivial⟩, trivial⟩⟩, ⟨List.length_append, gl_append, gl_scalar scI _, c21⟩, trivial, trivial⟩ ?_
    refine thenQ_normal ?_
    refine AW.ret ?_
    replace h := some_eq h
    subst h
    exact ⟨.inr rfl, retOK_of [(.one (.lst 11 (x7 ++ ([(IntKind.u8.wrap v18), (IntKind.u8.wrap (v18.fdiv (2 ^ (min (8 : Int).toNat (IntKind.bits .i64)))))])).length 1 (gl (csI .u8) (x7 ++ ([(IntKind.u8.wrap v18), (IntKind.u8.wrap (v18.fdiv (2 ^ (min (8 : Int).toNat (IntKind.bits .i64)))))])))))] (by kernel_rfl) ⟨rfl, trivial⟩ (of_decide_eq_true (by kernel_rfl)), by kernel_rfl, ⟨trivial, trivial, trivial, trivial⟩⟩

/-! impl.next -/
def impl_next_l1 (K : Nat) (a0 : ByteArray) (a1 : Int) (a2 : (List F32)) : Nat → Int → Int → (List F32) → Option ((List F32) × Int × Bool)
  | 0, _, _, _ => none
  | k + 1, x12, x13, x14 => ite2 ((decide (x13 < (IntKind.i64.wrap (bt a0 a1.toNat))))) (chk (0 ≤ x12 ∧ x12 < (a0.size : Int)) (ite2 ((decide ((IntKind.i64.wrap (bt a0 x12.toNat)) ≥ (x14.length : Int)))) (some (([] : (List F32)), (0 : Int), false)) (chk (0 ≤ (IntKind.i64.wrap (x12 + (1 : Int))) ∧ (IntKind.i64.wrap (x12 + (1 : Int))) < (a0.size : Int)) (chk (0 ≤ (IntKind.i64.wrap (x12 + (2 : Int))) ∧ (IntKind.i64.wrap (x12 + (2 : Int))) < (a0.size : Int)) (chk (0 ≤ (8 : Int)) (chk (0 ≤ (IntKind.i64.wrap (x12 + (3 : Int))) ∧ (IntKind.i64.wrap (x12 + (3 : Int))) < (a0.size : Int)) (chk (0 ≤ (16 : Int)) (chk (0 ≤ (IntKind.i64.wrap (x12 + (4 : Int))) ∧ (IntKind.i64.wrap (x12 + (4 : Int))) < (a0.size : Int)) (chk (0 ≤ (24 : Int)) ((math_Float32frombits K (bits .or .u32 (bits .or .u32 (bits .or .u32 (IntKind.u32.wrap (bt a0 (IntKind.i64.wrap (x12 + (1 : Int))).toNat)) (IntKind.u32.wrap ((IntKind.u32.wrap (bt a0 (IntKind.i64.wrap (x12 + (2 : Int))).toNat)) * 2 ^ (min (8 : Int).toNat (IntKind.bits .u32))))) (IntKind.u32.wrap ((IntKind.u32.wrap (bt a0 (IntKind.i64.wrap (x12 + (3 : Int))).toNat)) * 2 ^ (min (16 : Int).toNat (IntKind.bits .u32))))) (IntKind.u32.wrap ((IntKind.u32.wrap (bt a0 (IntKind.i64.wrap (x12 + (4 : Int))).toNat)) * 2 ^ (min (24 : Int).toNat (IntKind.bits .u32)))))).bind fun v25 => chk (0 ≤ (IntKind.i64.wrap (bt a0 x12.toNat)) ∧ (IntKind.i64.wrap (bt a0 x12.toNat)) < (x14.length : Int)) (impl_next_l1 K a0 a1 a2 k (IntKind.i64.wrap (x12 + (5 : Int))) (IntKind.i64.wrap (x13 + (1 : Int))) (x14.set ((IntKind.i64.wrap (bt a0 x12.toNat)).toNat) v25)))))))))))) (chk (0 ≤ (0 : Int) ∧ (0 : Int) ≤ a1 ∧ a1 ≤ (a0.size : Int)) ((impl_record K (bytesOf (a0.extract (0 : Int).toNat a1.toNat)) a2 x14).bind fun v29 => chk (∀ x ∈ v29, 0 ≤ x ∧ x < 256) (chk (0 ≤ (0 : Int) ∧ (0 : Int) ≤ (IntKind.i64.wrap (x12 + (2 : Int))) ∧ (IntKind.i64.wrap (x12 + (2 : Int))) ≤ (a0.size : Int)) (ite2 ((!((strOf v29).toList == (a0.extract (0 : Int).toNat (IntKind.i64.wrap (x12 + (2 : Int))).toNat).toList))) (some (([] : (List F32)), (0 : Int), false)) (some (x14, (IntKind.i64.wrap (x12 + (2 : Int))), true))))))

def impl_next (K : Nat) (a0 : ByteArray) (a1 : Int) (a2 : (List F32)) : Option ((List F32) × Int × Bool) :=
  (ite2 ((decide (a1 ≥ (a0.size : Int)))) (some true) (chk (0 ≤ a1 ∧ a1 < (a0.size : Int)) (some (decide ((IntKind.i64.wrap ((IntKind.i64.wrap ((IntKind.i64.wrap (a1 + (1 : Int))) + (IntKind.i64.wrap ((5 : Int) * (IntKind.i64.wrap (bt a0 a1.toNat)))))) + (2 : Int))) > (a0.size : Int)))))).bind fun j3 => ite2 (j3) (some (([] : (List F32)), (0 : Int), false)) ((slices_Clone_float32_float32 K a2).bind fun v6 => chk (0 ≤ a1 ∧ a1 < (a0.size : Int)) (impl_next_l1 K a0 a1 a2 K (IntKind.i64.wrap (a1 + (1 : Int))) (0 : Int) v6))

theorem ok_impl_next (K : Nat) (a0 : ByteArray) (a1 : Int) (a2 : (List F32)) (o : ((List F32) × Int × Bool)) (h : impl_next K a0 a1 a2 = some o) : CallOK Try.prog 95 [.one (.str a0), .one (.int .i64 a1), .one (sl 1 (csF .f32) a2)] [.one (sl 1 (csF .f32) o.1), .one (.int .i64 o.2.1), .one (.bool o.2.2)] := by
  refine callOK_of_AW Try.func95 rfl (by kernel_rfl) (Nat.le_of_ble_eq_true (by kernel_rfl)) ?_
  intro w0
  unfold impl_next at h
  refine AW.seq ?_
  refine AW.regionA [] [0, 1, 2] [] (s' := ⟨[(0, (.v (.one (.c (.str a0))))), (1, (.v (.one (.c (.int .i64 a1))))), (2, (.v (.one (.c (sl 1 (csF .f32) a2)))))], []⟩) (ob := True ∧ True ∧ True ∧ True) (by kernel_rfl) ⟨trivial, trivial, trivial, trivial⟩ ?_
  refine thenQ_normal ?_
  refine AW.seq ?_
  refine AW.seq ?_
  obtain ⟨j3, e4, h⟩ := bind_some h
  refine AW.join1 (s2 := ⟨[(0, (.v (.one (.c (.str a0))))), (1, (.v (.one (.c (.int .i64 a1))))), (2, (.v (.one (.c (sl 1 (csF .f32) a2))))), (29, (.v (.one (.c (.bool j3)))))], []⟩) ?_ ?_
  · rcases ite2_cases e4 with ⟨b1, e4⟩ | ⟨b1, e4⟩
    · replace e4 := some_eq e4
      subst e4
      exact AW.regionA [.no, .no, .no, .no, .dec true] [0, 1, 2, 29] [] (s' := ⟨[(0, (.v (.one (.c (.str a0))))), (1, (.v (.one (.c (.int .i64 a1))))), (2, (.v (.one (.c (sl 1 (csF .f32) a2))))), (29, (.v (.one (.c (.bool true)))))], []⟩) (ob := True ∧ True ∧ True ∧ True ∧ (True ∧ (decide (a1 ≥ (a0.size : Int))) = true) ∧ True ∧ True ∧ True ∧ True ∧ True ∧ True ∧ True ∧ True ∧ True ∧ True ∧ True ∧ True ∧ True ∧ True) (by kernel_rfl) ⟨trivial, trivial, trivial, trivial, ⟨trivial, b1⟩, trivial, trivial, trivial, trivial, trivial, trivial, trivial, trivial, trivial, trivial, trivial, trivial, trivial, trivial⟩ ⟨rfl, rfl⟩
    · obtain ⟨c2, e4⟩ := chk_some e4
      replace e4 := some_eq e4
      subst e4
      exact AW.regionA [.no, .no, .no, .no, .dec false] [0, 1, 2, 29] [] (s' := ⟨[(0, (.v (.one (.c (.str a0))))), (1, (.v (.one (.c (.int .i64 a1))))), (2, (.v (.one (.c (sl 1 (csF .f32) a2))))), (29, (.v (.one (.c (.bool (decide ((IntKind.i64.wrap ((IntKind.i64.wrap ((IntKind.i64.wrap (a1 + (1 : Int))) + (IntKind.i64.wrap ((5 : Int) * (IntKind.i64.wrap (bt a0 a1.toNat)))))) + (2 : Int))) > (a0.size : Int))))))))], []⟩) (ob := True ∧ True ∧ True ∧ True ∧ (True ∧ (decide (a1 ≥ (a0.size : Int))) = false) ∧ True ∧ True ∧ True ∧ True ∧ (0 ≤ a1 ∧ a1 < (a0.size : Int)) ∧ True ∧ True ∧ True ∧ True ∧ True ∧ True ∧ True ∧ True ∧ True) (by kernel_rfl) ⟨trivial, trivial, trivial, trivial, ⟨trivial, b1⟩, trivial, trivial, trivial, trivial, c2, trivial, trivial, trivial, trivial, trivial, trivial, trivial, trivial, trivial⟩ ⟨rfl, rfl⟩
  refine thenQ_normal ?_
  rcases ite2_cases h with ⟨b5, h⟩ | ⟨b5, h⟩
  · refine AW.cond_t rfl b5 ?_
    refine AW.seq ?_
    refine AW.regionA [] [6, 7, 8] [] (s' := ⟨[(6, (.v (.one .nils))), (7, (.v (.one (.c (.int .i64 (0 : Int)))))), (8, (.v (.one (.c (.bool false)))))], []⟩) (ob := True ∧ True ∧ True ∧ True) (by kernel_rfl) ⟨trivial, trivial, trivial, trivial⟩ ?_
    refine thenQ_normal ?_
    refine AW.ret ?_
    refine thenQ_ret ?_
    replace h := some_eq h
    subst h
    exact ⟨.inr rfl, retOK_of [(.one .nils), (.one (.c (.int .i64 (0 : Int)))), (.one (.c (.bool false)))] (by kernel_rfl) ⟨rfl, ⟨rfl, trivial⟩, ⟨rfl, trivial⟩, trivial⟩ (of_decide_eq_true (by kernel_rfl))⟩
  · refine AW.cond_f rfl b5 ?_
    refine AW.skip ?_
    refine thenQ_normal ?_
    refine AW.seq ?_
    obtain ⟨v6, e7, h⟩ := bind_some h
    refine AW.regionA [.no, .call [.one (sl 1 (csF .f32) a2)] [.one (sl 1 (csF .f32) v6)] [[.own 1]]] [0, 1, 2, 9] [1] (s' := ⟨[(0, (.v (.one (.c (.str a0))))), (1, (.v (.one (.c (.int .i64 a1))))), (2, (.v (.one (.c (sl 1 (csF .f32) a2))))), (9, (.v (.one (.arr 1))))], [(1, (.arr true v6.length 1 (gl (csF .f32) v6)))]⟩) (ob := True ∧ (((((sl 1 (csF .f32) a2) : C) = (sl 1 (csF .f32) a2)) ∧ True) ∧ CallOK Try.prog 134 [.one (sl 1 (csF .f32) a2)] [.one (sl 1 (csF .f32) v6)]) ∧ True ∧ True) (by kernel_rfl) ⟨trivial, ⟨⟨rfl, trivial⟩, ok_slices_Clone_float32_float32 K a2 v6 e7⟩, trivial, trivial⟩ ?_
    refine thenQ_normal ?_
    refine AW.seq ?_
    refine AW.regionA [] [0, 1, 2, 9, 10] [1] (s' := ⟨[(0, (.v (.one (.c (.str a0))))), (1, (.v (.one (.c (.int .i64 a1))))), (2, (.v (.one (.c (sl 1 (csF .f32) a2))))), (9, (.v (.one (.arr 1)))), (10, (.v (.one (.c (.int .i64 (IntKind.i64.wrap (a1 + (1 : Int))))))))], [(1, (.arr true v6.length 1 (gl (csF .f32) v6)))]⟩) (ob := True ∧ True ∧ True ∧ True) (by kernel_rfl) ⟨trivial, trivial, trivial, trivial⟩ ?_
    refine thenQ_normal ?_
    refine AW.seq ?_
    refine AW.seq ?_
    obtain ⟨c8, h⟩ := chk_some h
    refine AW.regionA [] [0, 1, 2, 9, 10, 37, 38] [1] (s' := ⟨[(0, (.v (.one (.c (.str a0))))), (1, (.v (.one (.c (.int .i64 a1))))), (2, (.v (.one (.c (sl 1 (csF .f32) a2))))), (9, (.v (.one (.arr 1)))), (10, (.v (.one (.c (.int .i64 (IntKind.i64.wrap (a1 + (1 : Int)))))))), (37, (.v (.one (.c (.int .i64 (IntKind.i64.wrap (bt a0 a1.toNat))))))), (38, (.v (.one (.c (.int .i64 (0 : Int))))))], [(1, (.arr true v6.length 1 (gl (csF .f32) v6)))]⟩) (ob := True ∧ True ∧ (0 ≤ a1 ∧ a1 < (a0.size : Int)) ∧ True ∧ True ∧ True) (by kernel_rfl) ⟨trivial, trivial, c8, trivial, trivial, trivial⟩ ?_
    refine thenQ_normal ?_
    refine AW.block ?_
    refine AW.loopQ (σ := Nat × Int × Int × (List F32)) (fun p => ⟨[(0, (.v (.one (.c (.str a0))))), (1, (.v (.one (.c (.int .i64 a1))))), (2, (.v (.one (.c (sl 1 (csF .f32) a2))))), (9, (.v (.one (.arr 1)))), (10, (.v (.one (.c (.int .i64 p.2.1))))), (37, (.v (.one (.c (.int .i64 (IntKind.i64.wrap (bt a0 a1.toNat))))))), (38, (.v (.one (.c (.int .i64 p.2.2.1)))))], [(1, (.arr true p.2.2.2.length 1 (gl (csF .f32) p.2.2.2)))]⟩) (fun p => impl_next_l1 K a0 a1 a2 p.1 p.2.1 p.2.2.1 p.2.2.2 = some o) (fun p => p.1) (K, (IntKind.i64.wrap (a1 + (1 : Int))), (0 : Int), v6) h ?_
    clear h
    rintro ⟨k, x12, x13, x14⟩ h
    replace h : impl_next_l1 K a0 a1 a2 k x12 x13 x14 = some o := h
    show AW _ _ (⟨[(0, (.v (.one (.c (.str a0))))), (1, (.v (.one (.c (.int .i64 a1))))), (2, (.v (.one (.c (sl 1 (csF .f32) a2))))), (9, (.v (.one (.arr 1)))), (10, (.v (.one (.c (.int .i64 x12))))), (37, (.v (.one (.c (.int .i64 (IntKind.i64.wrap (bt a0 a1.toNat))))))), (38, (.v (.one (.c (.int .i64 x13)))))], [(1, (.arr true x14.length 1 (gl (csF .f32) x14)))]⟩ : St) _
    obtain _ | k := k
    · rw [impl_next_l1] at h; cases h
    rw [impl_next_l1] at h
    refine AW.seq ?_
    refine AW.regionA [] [0, 1, 2, 9, 10, 37, 38, 39] [1] (s' := ⟨[(0, (.v (.one (.c (.str a0))))), (1, (.v (.one (.c (.int .i64 a1))))), (2, (.v (.one (.c (sl 1 (csF .f32) a2))))), (9, (.v (.one (.arr 1)))), (10, (.v (.one (.c (.int .i64 x12))))), (37, (.v (.one (.c (.int .i64 (IntKind.i64.wrap (bt a0 a1.toNat))))))), (38, (.v (.one (.c (.int .i64 x13))))), (39, (.v (.one (.c (.bool (decide (x13 < (IntKind.i64.wrap (bt a0 a1.toNat)))))))))], [(1, (.arr true x14.length 1 (gl (csF .f32) x14)))]⟩) (ob := True ∧ True) (by kernel_rfl) ⟨trivial, trivial⟩ ?_
    refine thenQ_normal ?_
    refine AW.seq ?_
    rcases ite2_cases h with ⟨b15, h⟩ | ⟨b15, h⟩
    · refine AW.cond_t rfl b15 ?_
      refine AW.skip ?_
      refine thenQ_normal ?_
      refine AW.seq ?_
      refine AW.block ?_
      refine AW.seq ?_
      obtain ⟨c16, h⟩ := chk_some h
      refine AW.regionA [] [0, 1, 2, 9, 10, 11, 37, 38] [1] (s' := ⟨[(0, (.v (.one (.c (.str a0))))), (1, (.v (.one (.c (.int .i64 a1))))), (2, (.v (.one (.c (sl 1 (csF .f32) a2))))), (9, (.v (.one (.arr 1)))), (10, (.v (.one (.c (.int .i64 x12))))), (11, (.v (.one (.c (.int .i64 (IntKind.i64.wrap (bt a0 x12.toNat))))))), (37, (.v (.one (.c (.int .i64 (IntKind.i64.wrap (bt a0 a1.toNat))))))), (38, (.v (.one (.c (.int .i64 x13)))))], [(1, (.arr true x14.length 1 (gl (csF .f32) x14)))]⟩) (ob := True ∧ True ∧ (0 ≤ x12 ∧ x12 < (a0.size : Int)) ∧ True ∧ True ∧ True) (by kernel_rfl) ⟨trivial, trivial, c16, trivial, trivial, trivial⟩ ?_
      refine thenQ_normal ?_
      refine AW.seq ?_
      refine AW.seq ?_
      refine AW.regionA [] [0, 1, 2, 9, 10, 11, 37, 38, 47] [1] (s' := ⟨[(0, (.v (.one (.c (.str a0))))), (1, (.v (.one (.c (.int .i64 a1))))), (2, (.v (.one (.c (sl 1 (csF .f32) a2))))), (9, (.v (.one (.arr 1)))), (10, (.v (.one (.c (.int .i64 x12))))), (11, (.v (.one (.c (.int .i64 (IntKind.i64.wrap (bt a0 x12.toNat))))))), (37, (.v (.one (.c (.int .i64 (IntKind.i64.wrap (bt a0 a1.toNat))))))), (38, (.v (.one (.c (.int .i64 x13))))), (47, (.v (.one (.c (.bool (decide ((IntKind.i64.wrap (bt a0 x12.toNat)) ≥ (x14.length : Int))))))))], [(1, (.arr true x14.length 1 (gl (csF .f32) x14)))]⟩) (ob := True ∧ True ∧ True ∧ True ∧ True) (by kernel_rfl) ⟨trivial, trivial, trivial, trivial, trivial⟩ ?_
      refine thenQ_normal ?_
      rcases ite2_cases h with ⟨b17, h⟩ | ⟨b17, h⟩
      · refine AW.cond_t rfl b17 ?_
        refine AW.seq ?_
        refine AW.regionA [] [6, 7, 8] [] (s' := ⟨[(6, (.v (.one .nils))), (7, (.v (.one (.c (.int .i64 (0 : Int)))))), (8, (.v (.one (.c (.bool false)))))], []⟩) (ob := True ∧ True ∧ True ∧ True) (by kernel_rfl) ⟨trivial, trivial, trivial, trivial⟩ ?_
        refine thenQ_normal ?_
        refine AW.ret ?_
        refine thenQ_ret ?_
        refine blockQ_ret ?_
        refine thenQ_ret ?_
        refine loopQ_ret ?_
        refine blockQ_ret ?_
        refine thenQ_ret ?_
        replace h := some_eq h
        subst h
        exact ⟨.inr rfl, retOK_of [(.one .nils), (.one (.c (.int .i64 (0 : Int)))), (.one (.c (.bool false)))] (by kernel_rfl) ⟨rfl, ⟨rfl, trivial⟩, ⟨rfl, trivial⟩, trivial⟩ (of_decide_eq_true (by kernel_rfl))⟩
      · refine AW.cond_f rfl b17 ?_
        refine AW.skip ?_
        refine thenQ_normal ?_
        refine AW.seq ?_
        obtain ⟨c18, h⟩ := chk_some h
        obtain ⟨c19, h⟩ := chk_some h
        obtain ⟨c20, h⟩ := chk_some h
        obtain ⟨c21, h⟩ := chk_some h
        obtain ⟨c22, h⟩ := chk_some h
        obtain ⟨c23, h⟩ := chk_some h
        obtain ⟨c24, h⟩ := chk_some h
        obtain ⟨v25, e26, h⟩ := bind_some h
        obtain ⟨c27, h⟩ := chk_some h
        refine AW.drawnA (by kernel_rfl) 30 [.no, .no, .no, .no, .no, .no, .no, .no, .no, .no, .no, .no, .no, .no, .no, .no, .no, .no, .no, .no, .no, .no, .no, .no, .no, .no, .no, .no, .call [.one (.int .u32 (bits .or .u32 (bits .or .u32 (bits .or .u32 (IntKind.u32.wrap (bt a0 (IntKind.i64.wrap (x12 + (1 : Int))).toNat)) (IntKind.u32.wrap ((IntKind.u32.wrap (bt a0 (IntKind.i64.wrap (x12 + (2 : Int))).toNat)) * 2 ^ (min (8 : Int).toNat (IntKind.bits .u32))))) (IntKind.u32.wrap ((IntKind.u32.wrap (bt a0 (IntKind.i64.wrap (x12 + (3 : Int))).toNat)) * 2 ^ (min (16 : Int).toNat (IntKind.bits .u32))))) (IntKind.u32.wrap ((IntKind.u32.wrap (bt a0 (IntKind.i64.wrap (x12 + (4 : Int))).toNat)) * 2 ^ (min (24 : Int).toNat (IntKind.bits .u32))))))] [.one (.flt .f32 v25.bits)] [[.view]], .no, .set (x14.set ((IntKind.i64.wrap (bt a0 x12.toNat)).toNat) v25).length (gl (csF .f32) (x14.set ((IntKind.i64.wrap (bt a0 x12.toNat)).toNat) v25)) ((List.range 1).map fun j => ((csF .f32) v25).getD (0 + j) .nilptr)] [0, 1, 2, 9, 10, 37, 38] [1] (s' := ⟨[(0, (.v (.one (.c (.str a0))))), (1, (.v (.one (.c (.int .i64 a1))))), (2, (.v (.one (.c (sl 1 (csF .f32) a2))))), (9, (.v (.one (.arr 1)))), (10, (.v (.one (.c (.int .i64 x12))))), (37, (.v (.one (.c (.int .i64 (IntKind.i64.wrap (bt a0 a1.toNat))))))), (38, (.v (.one (.c (.int .i64 x13)))))], [(1, (.arr true (x14.set ((IntKind.i64.wrap (bt a0 x12.toNat)).toNat) v25).length 1 (gl (csF .f32) (x14.set ((IntKind.i64.wrap (bt a0 x12.toNat)).toNat) v25))))]⟩) (ob := (True ∧ True ∧ True ∧ True ∧ True ∧ (0 ≤ (IntKind.i64.wrap (x12 + (1 : Int))) ∧ (IntKind.i64.wrap (x12 + (1 : Int))) < (a0.size : Int)) ∧ True ∧ True ∧ True ∧ True ∧ (0 ≤ (IntKind.i64.wrap (x12 + (2 : Int))) ∧ (IntKind.i64.wrap (x12 + (2 : Int))) < (a0.size : Int)) ∧ True ∧ (0 ≤ (8 : Int)) ∧ True ∧ True ∧ True ∧ True ∧ (0 ≤ (IntKind.i64.wrap (x12 + (3 : Int))) ∧ (IntKind.i64.wrap (x12 + (3 : Int))) < (a0.size : Int)) ∧ True ∧ (0 ≤ (16 : Int)) ∧ True ∧ True ∧ True ∧ True ∧ (0 ≤ (IntKind.i64.wrap (x12 + (4 : Int))) ∧ (IntKind.i64.wrap (x12 + (4 : Int))) < (a0.size : Int)) ∧ True ∧ (0 ≤ (24 : Int)) ∧ True ∧ (((((.int .u32 (bits .or .u32 (bits .or .u32 (bits .or .u32 (IntKind.u32.wrap (bt a0 (IntKind.i64.wrap (x12 + (1 : Int))).toNat)) (IntKind.u32.wrap ((IntKind.u32.wrap (bt a0 (IntKind.i64.wrap (x12 + (2 : Int))).toNat)) * 2 ^ (min (8 : Int).toNat (IntKind.bits .u32))))) (IntKind.u32.wrap ((IntKind.u32.wrap (bt a0 (IntKind.i64.wrap (x12 + (3 : Int))).toNat)) * 2 ^ (min (16 : Int).toNat (IntKind.bits .u32))))) (IntKind.u32.wrap ((IntKind.u32.wrap (bt a0 (IntKind.i64.wrap (x12 + (4 : Int))).toNat)) * 2 ^ (min (24 : Int).toNat (IntKind.bits .u32)))))) : C) = (.int .u32 (bits .or .u32 (bits .or .u32 (bits .or .u32 (IntKind.u32.wrap (bt a0 (IntKind.i64.wrap (x12 + (1 : Int))).toNat)) (IntKind.u32.wrap ((IntKind.u32.wrap (bt a0 (IntKind.i64.wrap (x12 + (2 : Int))).toNat)) * 2 ^ (min (8 : Int).toNat (IntKind.bits .u32))))) (IntKind.u32.wrap ((IntKind.u32.wrap (bt a0 (IntKind.i64.wrap (x12 + (3 : Int))).toNat)) * 2 ^ (min (16 : Int).toNat (IntKind.bits .u32))))) (IntKind.u32.wrap ((IntKind.u32.wrap (bt a0 (IntKind.i64.wrap (x12 + (4 : Int))).toNat)) * 2 ^ (min (24 : Int).toNat (IntKind.bits .u32))))))) ∧ True) ∧ CallOK Try.prog 135 [.one (.int .u32 (bits .or .u32 (bits .or .u32 (bits .or .u32 (IntKind.u32.wrap (bt a0 (IntKind.i64.wrap (x12 + (1 : Int))).toNat)) (IntKind.u32.wrap ((IntKind.u32.wrap (bt a0 (IntKind.i64.wrap (x12 + (2 : Int))).toNat)) * 2 ^ (min (8 : Int).toNat (IntKind.bits .u32))))) (IntKind.u32.wrap ((IntKind.u32.wrap (bt a0 (IntKind.i64.wrap (x12 + (3 : Int))).toNat)) * 2 ^ (min (16 : Int).toNat (IntKind.bits .u32))))) (IntKind.u32.wrap ((IntKind.u32.wrap (bt a0 (IntKind.i64.wrap (x12 + (4 : Int))).toNat)) * 2 ^ (min (24 : Int).toNat (IntKind.bits .u32))))))] [.one (.flt .f32 v25.bits)]) ∧ (0 ≤ (IntKind.i64.wrap (bt a0 x12.toNat)) ∧ (IntKind.i64.wrap (bt a0 x12.toNat)) < (x14.length : Int)) ∧ True) ∧ (((x14.set ((IntKind.i64.wrap (bt a0 x12.toNat)).toNat) v25).length = x14.length ∧ SetOb x14.length 1 ((IntKind.i64.wrap (bt a0 x12.toNat)).toNat) 0 1 (gl (csF .f32) x14) (gl (csF .f32) (x14.set ((IntKind.i64.wrap (bt a0 x12.toNat)).toNat) v25)) ∧ ((List.range 1).map fun j => ((csF .f32) v25).getD (0 + j) .nilptr) = ((List.range 1).map fun j => gl (csF .f32) (x14.set ((IntKind.i64.wrap (bt a0 x12.toNat)).toNat) v25) ((IntKind.i64.wrap (bt a0 x12.toNat)).toNat) (0 + j)) ∧ ((((.flt .f32 v25.bits) : C) = (.flt .f32 v25.bits) ∧ True) ∧ True) ∧ (true = true → ∀ j, j < 1 → isSeq (gl (csF .f32) x14 ((IntKind.i64.wrap (bt a0 x12.toNat)).toNat) (0 + j)) = false ∧ isSeq (gl (csF .f32) (x14.set ((IntKind.i64.wrap (bt a0 x12.toNat)).toNat) v25) ((IntKind.i64.wrap (bt a0 x12.toNat)).toNat) (0 + j)) = false)) ∧ True)) (by kernel_rfl) ⟨⟨trivial, trivial, trivial, trivial, trivial, c18, trivial, trivial, trivial, trivial, c19, trivial, c20, trivial, trivial, trivial, trivial, c21, trivial, c22, trivial, trivial, trivial, trivial, c23, trivial, c24, trivial, ⟨⟨rfl, trivial⟩, ok_math_Float32frombits K (bits .or .u32 (bits .or .u32 (bits .or .u32 (IntKind.u32.wrap (bt a0 (IntKind.i64.wrap (x12 + (1 : Int))).toNat)) (IntKind.u32.wrap ((IntKind.u32.wrap (bt a0 (IntKind.i64.wrap (x12 + (2 : Int))).toNat)) * 2 ^ (min (8 : Int).toNat (IntKind.bits .u32))))) (IntKind.u32.wrap ((IntKind.u32.wrap (bt a0 (IntKind.i64.wrap (x12 + (3 : Int))).toNat)) * 2 ^ (min (16 : Int).toNat (IntKind.bits .u32))))) (IntKind.u32.wrap ((IntKind.u32.wrap (bt a0 (IntKind.i64.wrap (x12 + (4 : Int))).toNat)) * 2 ^ (min (24 : Int).toNat (IntKind.bits .u32))))) v25 e26⟩, c27, trivial⟩, ⟨⟨List.length_set, gl_set, (gl_atp (lt_of_bound c27)).symm, ⟨⟨rfl, trivial⟩, trivial⟩, (fun _ j hj => match j, hj with | 0, _ => ⟨rfl, rfl⟩)⟩, trivial⟩⟩ ?_
        refine thenQ_normal ?_
        refine AW.regionA [] [0, 1, 2, 9, 10, 37, 38] [1] (s' := ⟨[(0, (.v (.one (.c (.str a0))))), (1, (.v (.one (.c (.int .i64 a1))))), (2, (.v (.one (.c (sl 1 (csF .f32) a2))))), (9, (.v (.one (.arr 1)))), (10, (.v (.one (.c (.int .i64 (IntKind.i64.wrap (x12 + (5 : Int)))))))), (37, (.v (.one (.c (.int .i64 (IntKind.i64.wrap (bt a0 a1.toNat))))))), (38, (.v (.one (.c (.int .i64 x13)))))], [(1, (.arr true (x14.set ((IntKind.i64.wrap (bt a0 x12.toNat)).toNat) v25).length 1 (gl (csF .f32) (x14.set ((IntKind.i64.wrap (bt a0 x12.toNat)).toNat) v25))))]⟩) (ob := True ∧ True ∧ True ∧ True) (by kernel_rfl) ⟨trivial, trivial, trivial, trivial⟩ ?_
        refine blockQ_normal ?_
        refine thenQ_normal ?_
        refine AW.regionA [] [0, 1, 2, 9, 10, 37, 38] [1] (s' := ⟨[(0, (.v (.one (.c (.str a0))))), (1, (.v (.one (.c (.int .i64 a1))))), (2, (.v (.one (.c (sl 1 (csF .f32) a2))))), (9, (.v (.one (.arr 1)))), (10, (.v (.one (.c (.int .i64 (IntKind.i64.wrap (x12 + (5 : Int)))))))), (37, (.v (.one (.c (.int .i64 (IntKind.i64.wrap (bt a0 a1.toNat))))))), (38, (.v (.one (.c (.int .i64 (IntKind.i64.wrap (x13 + (1 : Int))))))))], [(1, (.arr true (x14.set ((IntKind.i64.wrap (bt a0 x12.toNat)).toNat) v25).length 1 (gl (csF .f32) (x14.set ((IntKind.i64.wrap (bt a0 x12.toNat)).toNat) v25))))]⟩) (ob := True ∧ True ∧ True) (by kernel_rfl) ⟨trivial, trivial, trivial⟩ ?_
        exact loopQ_normal (k, (IntKind.i64.wrap (x12 + (5 : Int))), (IntKind.i64.wrap (x13 + (1 : Int))), (x14.set ((IntKind.i64.wrap (bt a0 x12.toNat)).toNat) v25)) h (Nat.lt_succ_self k) (Sub.keep [0, 1, 2, 9, 10, 37, 38] [1] (by kernel_rfl) (by kernel_rfl))
    · refine AW.cond_f rfl b15 ?_
      refine AW.exit ?_
      refine thenQ_exit ?_
      refine loopQ_exit ?_
      refine blockQ_exit ?_
      refine thenQ_normal ?_
      refine AW.seq ?_
      refine AW.regionA [] [0, 1, 2, 9, 10] [1] (s' := ⟨[(0, (.v (.one (.c (.str a0))))), (1, (.v (.one (.c (.int .i64 a1))))), (2, (.v (.one (.c (sl 1 (csF .f32) a2))))), (9, (.v (.one (.arr 1)))), (10, (.v (.one (.c (.int .i64 (IntKind.i64.wrap (x12 + (2 : Int))))))))], [(1, (.arr true x14.length 1 (gl (csF .f32) x14)))]⟩) (ob := True ∧ True ∧ True ∧ True) (by kernel_rfl) ⟨trivial, trivial, trivial, trivial⟩ ?_
      refine thenQ_normal ?_
      refine AW.seq ?_
      refine AW.seq ?_
      obtain ⟨c28, h⟩ := chk_some h
      obtain ⟨v29, e30, h⟩ := bind_some h
      obtain ⟨c31, h⟩ := chk_some h
      obtain ⟨c32, h⟩ := chk_some h
      refine AW.firstA (by kernel_rfl) [0, 1, 4, 5, 8, 9] [.no, .no, .no, .objD 2 (bytesOf (a0.extract (0 : Int).toNat a1.toNat)).length (gl (csI .u8) (bytesOf (a0.extract (0 : Int).toNat a1.toNat))), .no, .no, .callM [(.one (.mv (sl 1 (csI .u8) (bytesOf (a0.extract (0 : Int).toNat a1.toNat))))), .one (.ro (sl 1 (csF .f32) a2)), .one (.ro (sl 1 (csF .f32) x14))] [.one (sl 1 (csI .u8) v29)] [[.lst 3]] none, .str (strOf v29)] [9, 10, 94] [1] (s' := ⟨[(9, (.v (.one (.arr 1)))), (10, (.v (.one (.c (.int .i64 (IntKind.i64.wrap (x12 + (2 : Int)))))))), (94, (.v (.one (.c (.bool (!((strOf v29).toList == (a0.extract (0 : Int).toNat (IntKind.i64.wrap (x12 + (2 : Int))).toNat).toList)))))))], [(1, (.arr true x14.length 1 (gl (csF .f32) x14)))]⟩) (ob := (((0 ≤ (0 : Int) ∧ (0 : Int) ≤ a1 ∧ a1 ≤ (a0.size : Int)) ∧ (((bytesOb (a0.extract (0 : Int).toNat a1.toNat) (bytesOf (a0.extract (0 : Int).toNat a1.toNat)).length (gl (csI .u8) (bytesOf (a0.extract (0 : Int).toNat a1.toNat)))) ∧ (((((((sl 1 (csI .u8) (bytesOf (a0.extract (0 : Int).toNat a1.toNat))) : C) = (sl 1 (csI .u8) (bytesOf (a0.extract (0 : Int).toNat a1.toNat)))) ∧ (((sl 1 (csF .f32) a2) : C) = (sl 1 (csF .f32) a2)) ∧ (((sl 1 (csF .f32) x14) : C) = (sl 1 (csF .f32) x14)) ∧ True) ∧ MutOK Try.prog 85 [(.one (.mv (sl 1 (csI .u8) (bytesOf (a0.extract (0 : Int).toNat a1.toNat))))), .one (.ro (sl 1 (csF .f32) a2)), .one (.ro (sl 1 (csF .f32) x14))] [.one (sl 1 (csI .u8) v29)]) ∧ (((bytesOb (strOf v29) v29.length (gl (csI .u8) v29)) ∧ ((0 ≤ (0 : Int) ∧ (0 : Int) ≤ (IntKind.i64.wrap (x12 + (2 : Int))) ∧ (IntKind.i64.wrap (x12 + (2 : Int))) ≤ (a0.size : Int)) ∧ (True ∧ True))) ∧ ((0 ≤ (0 : Int) ∧ (0 : Int) ≤ (IntKind.i64.wrap (x12 + (2 : Int))) ∧ (IntKind.i64.wrap (x12 + (2 : Int))) ≤ (a0.size : Int)) ∧ ((bytesOb (strOf v29) v29.length (gl (csI .u8) v29)) ∧ (True ∧ True))) ∧ ((⟨[(9, (.v (.one (.arr 1)))), (10, (.v (.one (.c (.int .i64 (IntKind.i64.wrap (x12 + (2 : Int)))))))), (94, (.v (.one (.c (.bool (!((strOf v29).toList == (a0.extract (0 : Int).toNat (IntKind.i64.wrap (x12 + (2 : Int))).toNat).toList)))))))], [(1, (.arr true x14.length 1 (gl (csF .f32) x14)))]⟩ : St) = ⟨[(9, (.v (.one (.arr 1)))), (10, (.v (.one (.c (.int .i64 (IntKind.i64.wrap (x12 + (2 : Int)))))))), (94, (.v (.one (.c (.bool (!((strOf v29).toList == (a0.extract (0 : Int).toNat (IntKind.i64.wrap (x12 + (2 : Int))).toNat).toList)))))))], [(1, (.arr true x14.length 1 (gl (csF .f32) x14)))]⟩))) ∧ ((0 ≤ (0 : Int) ∧ (0 : Int) ≤ (IntKind.i64.wrap (x12 + (2 : Int))) ∧ (IntKind.i64.wrap (x12 + (2 : Int))) ≤ (a0.size : Int)) ∧ ((((((sl 1 (csI .u8) (bytesOf (a0.extract (0 : Int).toNat a1.toNat))) : C) = (sl 1 (csI .u8) (bytesOf (a0.extract (0 : Int).toNat a1.toNat)))) ∧ (((sl 1 (csF .f32) a2) : C) = (sl 1 (csF .f32) a2)) ∧ (((sl 1 (csF .f32) x14) : C) = (sl 1 (csF .f32) x14)) ∧ True) ∧ MutOK Try.prog 85 [(.one (.mv (sl 1 (csI .u8) (bytesOf (a0.extract (0 : Int).toNat a1.toNat))))), .one (.ro (sl 1 (csF .f32) a2)), .one (.ro (sl 1 (csF .f32) x14))] [.one (sl 1 (csI .u8) v29)]) ∧ ((bytesOb (strOf v29) v29.length (gl (csI .u8) v29)) ∧ (True ∧ True)))) ∧ ((⟨[(9, (.v (.one (.arr 1)))), (10, (.v (.one (.c (.int .i64 (IntKind.i64.wrap (x12 + (2 : Int)))))))), (94, (.v (.one (.c (.bool (!((strOf v29).toList == (a0.extract (0 : Int).toNat (IntKind.i64.wrap (x12 + (2 : Int))).toNat).toList)))))))], [(1, (.arr true x14.length 1 (gl (csF .f32) x14)))]⟩ : St) = ⟨[(9, (.v (.one (.arr 1)))), (10, (.v (.one (.c (.int .i64 (IntKind.i64.wrap (x12 + (2 : Int)))))))), (94, (.v (.one (.c (.bool (!((strOf v29).toList == (a0.extract (0 : Int).toNat (IntKind.i64.wrap (x12 + (2 : Int))).toNat).toList)))))))], [(1, (.arr true x14.length 1 (gl (csF .f32) x14)))]⟩))) ∧ ((0 ≤ (0 : Int) ∧ (0 : Int) ≤ (IntKind.i64.wrap (x12 + (2 : Int))) ∧ (IntKind.i64.wrap (x12 + (2 : Int))) ≤ (a0.size : Int)) ∧ ((bytesOb (a0.extract (0 : Int).toNat a1.toNat) (bytesOf (a0.extract (0 : Int).toNat a1.toNat)).length (gl (csI .u8) (bytesOf (a0.extract (0 : Int).toNat a1.toNat)))) ∧ ((((((sl 1 (csI .u8) (bytesOf (a0.extract (0 : Int).toNat a1.toNat))) : C) = (sl 1 (csI .u8) (bytesOf (a0.extract (0 : Int).toNat a1.toNat)))) ∧ (((sl 1 (csF .f32) a2) : C) = (sl 1 (csF .f32) a2)) ∧ (((sl 1 (csF .f32) x14) : C) = (sl 1 (csF .f32) x14)) ∧ True) ∧ MutOK Try.prog 85 [(.one (.mv (sl 1 (csI .u8) (bytesOf (a0.extract (0 : Int).toNat a1.toNat))))), .one (.ro (sl 1 (csF .f32) a2)), .one (.ro (sl 1 (csF .f32) x14))] [.one (sl 1 (csI .u8) v29)]) ∧ ((bytesOb (strOf v29) v29.length (gl (csI .u8) v29)) ∧ (True ∧ True))))) ∧ ((⟨[(9, (.v (.one (.arr 1)))), (10, (.v (.one (.c (.int .i64 (IntKind.i64.wrap (x12 + (2 : Int)))))))), (94, (.v (.one (.c (.bool (!((strOf v29).toList == (a0.extract (0 : Int).toNat (IntKind.i64.wrap (x12 + (2 : Int))).toNat).toList)))))))], [(1, (.arr true x14.length 1 (gl (csF .f32) x14)))]⟩ : St) = ⟨[(9, (.v (.one (.arr 1)))), (10, (.v (.one (.c (.int .i64 (IntKind.i64.wrap (x12 + (2 : Int)))))))), (94, (.v (.one (.c (.bool (!((strOf v29).toList == (a0.extract (0 : Int).toNat (IntKind.i64.wrap (x12 + (2 : Int))).toNat).toList)))))))], [(1, (.arr true x14.length 1 (gl (csF .f32) x14)))]⟩))) ∧ ((0 ≤ (0 : Int) ∧ (0 : Int) ≤ (IntKind.i64.wrap (x12 + (2 : Int))) ∧ (IntKind.i64.wrap (x12 + (2 : Int))) ≤ (a0.size : Int)) ∧ ((0 ≤ (0 : Int) ∧ (0 : Int) ≤ a1 ∧ a1 ≤ (a0.size : Int)) ∧ ((bytesOb (a0.extract (0 : Int).toNat a1.toNat) (bytesOf (a0.extract (0 : Int).toNat a1.toNat)).length (gl (csI .u8) (bytesOf (a0.extract (0 : Int).toNat a1.toNat)))) ∧ ((((((sl 1 (csI .u8) (bytesOf (a0.extract (0 : Int).toNat a1.toNat))) : C) = (sl 1 (csI .u8) (bytesOf (a0.extract (0 : Int).toNat a1.toNat)))) ∧ (((sl 1 (csF .f32) a2) : C) = (sl 1 (csF .f32) a2)) ∧ (((sl 1 (csF .f32) x14) : C) = (sl 1 (csF .f32) x14)) ∧ True) ∧ MutOK Try.prog 85 [(.one (.mv (sl 1 (csI .u8) (bytesOf (a0.extract (0 : Int).toNat a1.toNat))))), .one (.ro (sl 1 (csF .f32) a2)), .one (.ro (sl 1 (csF .f32) x14))] [.one (sl 1 (csI .u8) v29)]) ∧ ((bytesOb (strOf v29) v29.length (gl (csI .u8) v29)) ∧ (True ∧ True)))))) ∧ ((⟨[(9, (.v (.one (.arr 1)))), (10, (.v (.one (.c (.int .i64 (IntKind.i64.wrap (x12 + (2 : Int)))))))), (94, (.v (.one (.c (.bool (!((strOf v29).toList == (a0.extract (0 : Int).toNat (IntKind.i64.wrap (x12 + (2 : Int))).toNat).toList)))))))], [(1, (.arr true x14.length 1 (gl (csF .f32) x14)))]⟩ : St) = ⟨[(9, (.v (.one (.arr 1)))), (10, (.v (.one (.c (.int .i64 (IntKind.i64.wrap (x12 + (2 : Int)))))))), (94, (.v (.one (.c (.bool (!((strOf v29).toList == (a0.extract (0 : Int).toNat (IntKind.i64.wrap (x12 + (2 : Int))).toNat).toList)))))))], [(1, (.arr true x14.length 1 (gl (csF .f32) x14)))]⟩))) (by kernel_rfl) ⟨⟨c28, ⟨⟨bytesOf_ob _, ⟨⟨⟨⟨rfl, rfl, rfl, trivial⟩, ok_impl_record K (bytesOf (a0.extract (0 : Int).toNat a1.toNat)) a2 x14 v29 e30⟩, ⟨⟨strOf_ob c31, ⟨c32, ⟨trivial, trivial⟩⟩⟩, ⟨c32, ⟨strOf_ob c31, ⟨trivial, trivial⟩⟩⟩, rfl⟩⟩, ⟨c32, ⟨⟨⟨rfl, rfl, rfl, trivial⟩, ok_impl_record K (bytesOf (a0.extract (0 : Int).toNat a1.toNat)) a2 x14 v29 e30⟩, ⟨strOf_ob c31, ⟨trivial, trivial⟩⟩⟩⟩, rfl⟩⟩, ⟨c32, ⟨bytesOf_ob _, ⟨⟨⟨rfl, rfl, rfl, trivial⟩, ok_impl_record K (bytesOf (a0.extract (0 : Int).toNat a1.toNat)) a2 x14 v29 e30⟩, ⟨strOf_ob c31, ⟨trivial, trivial⟩⟩⟩⟩⟩, rfl⟩⟩, ⟨c32, ⟨c28, ⟨bytesOf_ob _, ⟨⟨⟨rfl, rfl, rfl, trivial⟩, ok_impl_record K (bytesOf (a0.extract (0 : Int).toNat a1.toNat)) a2 x14 v29 e30⟩, ⟨strOf_ob c31, ⟨trivial, trivial⟩⟩⟩⟩⟩⟩, rfl⟩ ?_
      refine thenQ_normal ?_
      rcases ite2_cases h with ⟨b33, h⟩ | ⟨b33, h⟩
      · refine AW.cond_t rfl b33 ?_
        refine AW.seq ?_
        refine AW.regionA [] [6, 7, 8] [] (s' := ⟨[(6, (.v (.one .nils))), (7, (.v (.one (.c (.int .i64 (0 : Int)))))), (8, (.v (.one (.c (.bool false)))))], []⟩) (ob := True ∧ True ∧ True ∧ True) (by kernel_rfl) ⟨trivial, trivial, trivial, trivial⟩ ?_
        refine thenQ_normal ?_
        refine AW.ret ?_
        refine thenQ_ret ?_
        replace h := some_eq h
        subst h
        exact ⟨.inr rfl, retOK_of [(.one .nils), (.one (.c (.int .i64 (0 : Int)))), (.one (.c (.bool false)))] (by kernel_rfl) ⟨rfl, ⟨rfl, trivial⟩, ⟨rfl, trivial⟩, trivial⟩ (of_decide_eq_true (by kernel_rfl))⟩
      · refine AW.cond_f rfl b33 ?_
        refine AW.skip ?_
        refine thenQ_normal ?_
        refine AW.seq ?_
        refine AW.regionA [] [6, 7, 8] [1] (s' := ⟨[(6, (.v (.one (.arr 1)))), (7, (.v (.one (.c (.int .i64 (IntKind.i64.wrap (x12 + (2 : Int)))))))), (8, (.v (.one (.c (.bool true)))))], [(1, (.arr true x14.length 1 (gl (csF .f32) x14)))]⟩) (ob := True ∧ True ∧ True ∧ True ∧ True ∧ True) (by kernel_rfl) ⟨trivial, trivial, trivial, trivial, trivial, trivial⟩ ?_
        refine thenQ_normal ?_
        refine AW.ret ?_
        replace h := some_eq h
        subst h
        exact ⟨.inr rfl, retOK_of [(.one (.arr 1)), (.one (.c (.int .i64 (IntKind.i64.wrap (x12 + (2 : Int)))))), (.one (.c (.bool true)))] (by kernel_rfl) ⟨rfl, ⟨rfl, trivial⟩, ⟨rfl, trivial⟩, trivial⟩ (of_decide_eq_true (by kernel_rfl))⟩

end
end Go.Fw
