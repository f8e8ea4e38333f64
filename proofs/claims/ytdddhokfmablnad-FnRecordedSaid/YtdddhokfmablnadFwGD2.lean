/- Functions of the program: what each computes, and that it computes just that. -/
import Derived.Test.YtdddhokfmablnadFwTy
import Derived.Test.YtdddhokfmablnadFwH
import Derived.Test.YtdddhokfmablnadFwV
import Derived.Test.YtdddhokfmablnadFwGD1
import Derived.Test.YtdddhokfmablnadFwMK
import Derived.Test.YtdddhokfmablnadProg
import Derived.KernelRfl
namespace Go.Fw
open Go Go.Proofs
noncomputable section
set_option maxRecDepth 10000

/-! impl.changed -/
def impl_changed_l1 (K : Nat) (a0 : (List F32)) (a1 : (List F32)) : Nat → Int → (List Int) → Option ((List Int))
  | 0, _, _ => none
  | k + 1, x3, x4 => ite2 ((decide (x3 < (a0.length : Int)))) (chk (0 ≤ x3 ∧ x3 < (a0.length : Int)) (chk (0 ≤ x3 ∧ x3 < (a1.length : Int)) ((impl_SameNumber K (a0.getD x3.toNat default) (a1.getD x3.toNat default)).bind fun v8 => ite2 ((!v8)) (chk ((x4.length + ([x3]).length) * 8 ≤ 140737488355328) (impl_changed_l1 K a0 a1 k (IntKind.i64.wrap (x3 + (1 : Int))) (x4 ++ ([x3])))) (impl_changed_l1 K a0 a1 k (IntKind.i64.wrap (x3 + (1 : Int))) x4)))) (some x4)

def impl_changed (K : Nat) (a0 : (List F32)) (a1 : (List F32)) : Option ((List Int)) :=
  impl_changed_l1 K a0 a1 K (0 : Int) ([] : (List Int))

theorem ok_impl_changed (K : Nat) (a0 : (List F32)) (a1 : (List F32)) (o : ((List Int))) (h : impl_changed K a0 a1 = some o) : CallOK Try.prog 35 [.one (sl 1 (csF .f32) a0), .one (sl 1 (csF .f32) a1)] [.one (sl 1 (csI .i64) o)] := by
  refine callOK_of_AW Try.func35 rfl (by kernel_rfl) (Nat.le_of_ble_eq_true (by kernel_rfl)) ?_
  intro w0
  unfold impl_changed at h
  refine AW.seq (AW.rA ⟨[(0, (vc (sl 1 (csF .f32) a0))), (1, (vc (sl 1 (csF .f32) a1)))], []⟩ (Tt ∧ Tt) [] [0, 1] [] ⟨tr, tr⟩ (thenQ_normal ?_))
  refine AW.seq (AW.rA ⟨[(0, (vc (sl 1 (csF .f32) a0))), (1, (vc (sl 1 (csF .f32) a1))), (5, (.v (.one .nils)))], []⟩ (Tt ∧ Tt) [] [0, 1, 5] [] ⟨tr, tr⟩ (thenQ_normal ?_))
  refine AW.seq ?_
  refine AW.seq (AW.rA ⟨[(0, (vc (sl 1 (csF .f32) a0))), (1, (vc (sl 1 (csF .f32) a1))), (5, (.v (.one .nils))), (8, (vc (.int .i64 (a0.length : Int)))), (9, (vc (.int .i64 (0 : Int))))], []⟩ (Tt ∧ T2 Tt) [] [0, 1, 5, 8, 9] [] ⟨tr, tr, tr, tr⟩ (thenQ_normal ?_))
  refine AW.block ?_
  refine AW.weak (s' := ⟨[(0, (vc (sl 1 (csF .f32) a0))), (1, (vc (sl 1 (csF .f32) a1))), (5, (.v (.one (.lst 3 ([] : (List Int)).length 1 (gl (csI .i64) ([] : (List Int))))))), (8, (vc (.int .i64 (a0.length : Int)))), (9, (vc (.int .i64 (0 : Int))))], [(3, (.lst ([] : (List Int)).length 1 (gl (csI .i64) ([] : (List Int)))))]⟩) (Sub.trans (Sub.unnil 3 1 (gl (csI .i64) ([] : (List Int))) [5] [] _ (by kernel_rfl) (by kernel_rfl)) (Sub.keep [0, 1, 5, 8, 9] [3] (by kernel_rfl) (by kernel_rfl))) ?_
  refine AW.loopQ (σ := Nat × Int × (List Int)) (fun p => ⟨[(0, (vc (sl 1 (csF .f32) a0))), (1, (vc (sl 1 (csF .f32) a1))), (5, (.v (.one (.lst 3 p.2.2.length 1 (gl (csI .i64) p.2.2))))), (8, (vc (.int .i64 (a0.length : Int)))), (9, (vc (.int .i64 p.2.1)))], [(3, (.lst p.2.2.length 1 (gl (csI .i64) p.2.2)))]⟩) (fun p => impl_changed_l1 K a0 a1 p.1 p.2.1 p.2.2 = some o) (fun p => p.1) (K, (0 : Int), ([] : (List Int))) h ?_
  clear h
  rintro ⟨k, x3, x4⟩ h
  replace h : impl_changed_l1 K a0 a1 k x3 x4 = some o := h
  show AW _ _ (⟨[(0, (vc (sl 1 (csF .f32) a0))), (1, (vc (sl 1 (csF .f32) a1))), (5, (.v (.one (.lst 3 x4.length 1 (gl (csI .i64) x4))))), (8, (vc (.int .i64 (a0.length : Int)))), (9, (vc (.int .i64 x3)))], [(3, (.lst x4.length 1 (gl (csI .i64) x4)))]⟩ : St) _
  obtain _ | k := k
  · rw [impl_changed_l1] at h; cases h
  rw [impl_changed_l1] at h
  refine AW.seq (AW.rA ⟨[(0, (vc (sl 1 (csF .f32) a0))), (1, (vc (sl 1 (csF .f32) a1))), (5, (.v (.one (.lst 3 x4.length 1 (gl (csI .i64) x4))))), (8, (vc (.int .i64 (a0.length : Int)))), (9, (vc (.int .i64 x3))), (10, (vc (.bool (decide (x3 < (a0.length : Int))))))], [(3, (.lst x4.length 1 (gl (csI .i64) x4)))]⟩ (Tt ∧ Tt) [] [0, 1, 5, 8, 9, 10] [3] ⟨tr, tr⟩ (thenQ_normal ?_))
  refine AW.seq ?_
  rcases ite2_cases h with ⟨b5, h⟩ | ⟨b5, h⟩
  · refine AW.cond_t rfl b5 ?_
    refine AW.skip ?_
    refine thenQ_normal ?_
    refine AW.seq ?_
    refine AW.block ?_
    refine AW.seq (AW.rA ⟨[(0, (vc (sl 1 (csF .f32) a0))), (1, (vc (sl 1 (csF .f32) a1))), (5, (.v (.one (.lst 3 x4.length 1 (gl (csI .i64) x4))))), (6, (vc (.int .i64 x3))), (8, (vc (.int .i64 (a0.length : Int)))), (9, (vc (.int .i64 x3)))], [(3, (.lst x4.length 1 (gl (csI .i64) x4)))]⟩ (T2 Tt) [] [0, 1, 5, 6, 8, 9] [3] ⟨tr, tr, tr⟩ (thenQ_normal ?_))
    refine AW.seq ?_
    obtain ⟨c6, h⟩ := chk_some h
    obtain ⟨c7, h⟩ := chk_some h
    obtain ⟨v8, e9, h⟩ := bind_some h
    refine AW.dA ⟨[(0, (vc (sl 1 (csF .f32) a0))), (1, (vc (sl 1 (csF .f32) a1))), (5, (.v (.one (.lst 3 x4.length 1 (gl (csI .i64) x4))))), (6, (vc (.int .i64 x3))), (8, (vc (.int .i64 (a0.length : Int)))), (9, (vc (.int .i64 x3))), (21, (vc (.bool (!v8))))], [(3, (.lst x4.length 1 (gl (csI .i64) x4)))]⟩ ((T2 ((0 ≤ x3 ∧ x3 < (a0.length : Int)) ∧ Tt ∧ T2 ((0 ≤ x3 ∧ x3 < (a1.length : Int)) ∧ Tt ∧ (((Eqc (.flt .f32 (a0.getD x3.toNat default).bits)) ∧ (Eqc (.flt .f32 (a1.getD x3.toNat default).bits)) ∧ Tt) ∧ CallOK Try.prog 52 [.one (.flt .f32 (a0.getD x3.toNat default).bits), .one (.flt .f32 (a1.getD x3.toNat default).bits)] [.one (.bool v8)]) ∧ Tt ∧ Tt))) ∧ (Tt)) 10 [.no, .no, .no, .no, .no, .no, .no, .no, .call [.one (.flt .f32 (a0.getD x3.toNat default).bits), .one (.flt .f32 (a1.getD x3.toNat default).bits)] [.one (.bool v8)] [[.view]]] [0, 1, 5, 6, 8, 9, 21] [3] ⟨⟨tr, tr, c6, tr, tr, tr, c7, tr, ⟨⟨rfl, rfl, tr⟩, ok_impl_SameNumber K (a0.getD x3.toNat default) (a1.getD x3.toNat default) v8 e9⟩, tr, tr⟩, tr⟩ ?_
    refine thenQ_normal ?_
    rcases ite2_cases h with ⟨b10, h⟩ | ⟨b10, h⟩
    · refine AW.cond_t rfl b10 ?_
      obtain ⟨c11, h⟩ := chk_some h
      refine AW.rA ⟨[(0, (vc (sl 1 (csF .f32) a0))), (1, (vc (sl 1 (csF .f32) a1))), (5, (.v (.one (.lst 9 (x4 ++ ([x3])).length 1 (gl (csI .i64) (x4 ++ ([x3]))))))), (8, (vc (.int .i64 (a0.length : Int)))), (9, (vc (.int .i64 x3)))], [(9, (.lst (x4 ++ ([x3])).length 1 (gl (csI .i64) (x4 ++ ([x3])))))]⟩ (T2 ((([x3]).length = 1 ∧ (((.int .i64 x3) : C) = (.int .i64 x3) ∧ Tt) ∧ Tt) ∧ ((x4 ++ ([x3])).length = x4.length + ([x3]).length ∧ AppOb (x4.length) (([x3]).length) 1 (gl (csI .i64) x4) (gl (csI .i64) ([x3])) (gl (csI .i64) (x4 ++ ([x3]))) ∧ (∀ i j, i < ([x3]).length → j < 1 → scalarC (gl (csI .i64) ([x3]) i j)) ∧ (x4.length + ([x3]).length) * 8 ≤ 140737488355328) ∧ Tt ∧ Tt)) [.no, .no, .obj 8 ([x3]).length (gl (csI .i64) ([x3])), .objK 9 (x4 ++ ([x3])).length (gl (csI .i64) (x4 ++ ([x3])))] [0, 1, 5, 8, 9] [9] ⟨tr, tr, ⟨rfl, ⟨⟨rfl, tr⟩, tr⟩⟩, ⟨List.length_append, gl_append, gl_scalar scI _, c11⟩, tr, tr⟩ ?_
      refine blockQ_normal ?_
      refine thenQ_normal ?_
      refine AW.rA ⟨[(0, (vc (sl 1 (csF .f32) a0))), (1, (vc (sl 1 (csF .f32) a1))), (5, (.v (.one (.lst 9 (x4 ++ ([x3])).length 1 (gl (csI .i64) (x4 ++ ([x3]))))))), (8, (vc (.int .i64 (a0.length : Int)))), (9, (vc (.int .i64 (IntKind.i64.wrap (x3 + (1 : Int))))))], [(9, (.lst (x4 ++ ([x3])).length 1 (gl (csI .i64) (x4 ++ ([x3])))))]⟩ (T2 Tt) [] [0, 1, 5, 8, 9] [9] ⟨tr, tr, tr⟩ ?_
      exact loopQ_normal (k, (IntKind.i64.wrap (x3 + (1 : Int))), (x4 ++ ([x3]))) h (Nat.lt_succ_self k) (Sub.trans (Sub.swap 3 9 _ (by kernel_rfl) (by kernel_rfl)) (Sub.keep [0, 1, 5, 8, 9] [3] (by kernel_rfl) (by kernel_rfl)))
    · refine AW.cond_f rfl b10 ?_
      refine AW.skip ?_
      refine blockQ_normal ?_
      refine thenQ_normal ?_
      refine AW.rA ⟨[(0, (vc (sl 1 (csF .f32) a0))), (1, (vc (sl 1 (csF .f32) a1))), (5, (.v (.one (.lst 3 x4.length 1 (gl (csI .i64) x4))))), (8, (vc (.int .i64 (a0.length : Int)))), (9, (vc (.int .i64 (IntKind.i64.wrap (x3 + (1 : Int))))))], [(3, (.lst x4.length 1 (gl (csI .i64) x4)))]⟩ (T2 Tt) [] [0, 1, 5, 8, 9] [3] ⟨tr, tr, tr⟩ ?_
      exact loopQ_normal (k, (IntKind.i64.wrap (x3 + (1 : Int))), x4) h (Nat.lt_succ_self k) (Sub.keep [0, 1, 5, 8, 9] [3] (by kernel_rfl) (by kernel_rfl))
  · refine AW.cond_f rfl b5 ?_
    refine AW.exit ?_
    refine thenQ_exit ?_
    refine loopQ_exit ?_
    refine blockQ_exit ?_
    refine thenQ_normal ?_
    refine AW.seq (AW.rA ⟨[(4, (.v (.one (.lst 3 x4.length 1 (gl (csI .i64) x4)))))], [(3, (.lst x4.length 1 (gl (csI .i64) x4)))]⟩ (T2 Tt) [] [4] [3] ⟨tr, tr, tr⟩ (thenQ_normal ?_))
    refine AW.ret ?_
    replace h := some_eq h
    subst h
    exact ⟨.inr rfl, retOK_of [(.one (.lst 3 x4.length 1 (gl (csI .i64) x4)))] (by kernel_rfl) ⟨rfl, tr⟩ (of_decide_eq_true (by kernel_rfl))⟩

/-! math.Float32bits -/
def math_Float32bits (_K : Nat) (a0 : F32) : Option (Int) :=
  a0.toBits

theorem ok_math_Float32bits (K : Nat) (a0 : F32) (o : Int) (h : math_Float32bits K a0 = some o) : CallOK Try.prog 53 [.one (.flt .f32 a0.bits)] [.one (.int .u32 o)] :=
  hand_toBits (e := Extern.MathFloatBits.float32bits) Try.func53 (by kernel_rfl) (by kernel_rfl) (by kernel_rfl) (by kernel_rfl) (fun _ _ => rfl) a0 o h

/-! impl.BitsOf -/
def impl_BitsOf (K : Nat) (a0 : F32) : Option (Int) :=
  ite2 ((a0.ne a0)) (some (2143289344 : Int)) ((math_Float32bits K a0).bind fun v2 => some (IntKind.i64.wrap v2))

theorem ok_impl_BitsOf (K : Nat) (a0 : F32) (o : (Int)) (h : impl_BitsOf K a0 = some o) : CallOK Try.prog 36 [.one (.flt .f32 a0.bits)] [.one (.int .i64 o)] := by
  refine callOK_of_AW Try.func36 rfl (by kernel_rfl) (Nat.le_of_ble_eq_true (by kernel_rfl)) ?_
  intro w0
  unfold impl_BitsOf at h
  refine AW.seq (AW.rA ⟨[(0, (vc (.flt .f32 a0.bits)))], []⟩ (Tt ∧ Tt) [] [0] [] ⟨tr, tr⟩ (thenQ_normal ?_))
  refine AW.seq ?_
  refine AW.seq (AW.rA ⟨[(0, (vc (.flt .f32 a0.bits))), (5, (vc (.bool (a0.ne a0))))], []⟩ (Tt ∧ T2 Tt) [] [0, 5] [] ⟨tr, tr, tr, tr⟩ (thenQ_normal ?_))
  rcases ite2_cases h with ⟨b1, h⟩ | ⟨b1, h⟩
  · refine AW.cond_t rfl b1 ?_
    refine AW.seq (AW.rA ⟨[(2, (vc (.int .i64 (2143289344 : Int))))], []⟩ (Tt ∧ Tt) [] [2] [] ⟨tr, tr⟩ (thenQ_normal ?_))
    refine AW.ret ?_
    refine thenQ_ret ?_
    replace h := some_eq h
    subst h
    exact ⟨.inr rfl, retOK_of [(.one (.c (.int .i64 (2143289344 : Int))))] (by kernel_rfl) ⟨⟨rfl, tr⟩, tr⟩ (of_decide_eq_true (by kernel_rfl))⟩
  · refine AW.cond_f rfl b1 ?_
    refine AW.skip ?_
    refine thenQ_normal ?_
    refine AW.seq ?_
    obtain ⟨v2, e3, h⟩ := bind_some h
    refine AW.rA ⟨[(2, (vc (.int .i64 (IntKind.i64.wrap v2))))], []⟩ (Tt ∧ (((Eqc (.flt .f32 a0.bits)) ∧ Tt) ∧ CallOK Try.prog 53 [.one (.flt .f32 a0.bits)] [.one (.int .u32 v2)]) ∧ T2 Tt) [.no, .call [.one (.flt .f32 a0.bits)] [.one (.int .u32 v2)] [[.view]]] [2] [] ⟨tr, ⟨⟨rfl, tr⟩, ok_math_Float32bits K a0 v2 e3⟩, tr, tr, tr⟩ ?_
    refine thenQ_normal ?_
    refine AW.ret ?_
    replace h := some_eq h
    subst h
    exact ⟨.inr rfl, retOK_of [(.one (.c (.int .i64 (IntKind.i64.wrap v2))))] (by kernel_rfl) ⟨⟨rfl, tr⟩, tr⟩ (of_decide_eq_true (by kernel_rfl))⟩

/-! impl.check -/
def impl_check_l1 (K : Nat) (a1 : ByteArray) : Nat → Int → Int → Option (Int)
  | 0, _, _ => none
  | k + 1, x3, x4 => ite2 ((decide (x4 < (a1.size : Int)))) (chk (0 ≤ x4 ∧ x4 < (a1.size : Int)) (chk ((65003 : Int) ≠ 0) (impl_check_l1 K a1 k ((IntKind.i64.wrap ((IntKind.i64.wrap ((IntKind.i64.wrap ((613 : Int) * x3)) + (IntKind.i64.wrap (bt a1 x4.toNat)))) + (23 : Int))).tmod (65003 : Int)) (IntKind.i64.wrap (x4 + (1 : Int)))))) (some x3)

def impl_check (K : Nat) (a0 : Int) (a1 : ByteArray) : Option (Int) :=
  impl_check_l1 K a1 K a0 (0 : Int)

theorem ok_impl_check (K : Nat) (a0 : Int) (a1 : ByteArray) (o : (Int)) (h : impl_check K a0 a1 = some o) : CallOK Try.prog 37 [.one (.int .i64 a0), .one (.str a1)] [.one (.int .i64 o)] := by
  refine callOK_of_AW Try.func37 rfl (by kernel_rfl) (Nat.le_of_ble_eq_true (by kernel_rfl)) ?_
  intro w0
  unfold impl_check at h
  refine AW.seq (AW.rA ⟨[(0, (vc (.int .i64 a0))), (1, (vc (.str a1)))], []⟩ (Tt ∧ Tt) [] [0, 1] [] ⟨tr, tr⟩ (thenQ_normal ?_))
  refine AW.seq ?_
  refine AW.seq (AW.rA ⟨[(0, (vc (.int .i64 a0))), (1, (vc (.str a1))), (7, (vc (.int .i64 (a1.size : Int)))), (8, (vc (.int .i64 (0 : Int))))], []⟩ (Tt ∧ T2 Tt) [] [0, 1, 7, 8] [] ⟨tr, tr, tr, tr⟩ (thenQ_normal ?_))
  refine AW.block ?_
  refine AW.loopQ (σ := Nat × Int × Int) (fun p => ⟨[(0, (vc (.int .i64 p.2.1))), (1, (vc (.str a1))), (7, (vc (.int .i64 (a1.size : Int)))), (8, (vc (.int .i64 p.2.2)))], []⟩) (fun p => impl_check_l1 K a1 p.1 p.2.1 p.2.2 = some o) (fun p => p.1) (K, a0, (0 : Int)) h ?_
  clear h
  rintro ⟨k, x3, x4⟩ h
  replace h : impl_check_l1 K a1 k x3 x4 = some o := h
  show AW _ _ (⟨[(0, (vc (.int .i64 x3))), (1, (vc (.str a1))), (7, (vc (.int .i64 (a1.size : Int)))), (8, (vc (.int .i64 x4)))], []⟩ : St) _
  obtain _ | k := k
  · rw [impl_check_l1] at h; cases h
  rw [impl_check_l1] at h
  refine AW.seq (AW.rA ⟨[(0, (vc (.int .i64 x3))), (1, (vc (.str a1))), (7, (vc (.int .i64 (a1.size : Int)))), (8, (vc (.int .i64 x4))), (9, (vc (.bool (decide (x4 < (a1.size : Int))))))], []⟩ (Tt ∧ Tt) [] [0, 1, 7, 8, 9] [] ⟨tr, tr⟩ (thenQ_normal ?_))
  refine AW.seq ?_
  rcases ite2_cases h with ⟨b5, h⟩ | ⟨b5, h⟩
  · refine AW.cond_t rfl b5 ?_
    refine AW.skip ?_
    refine thenQ_normal ?_
    refine AW.seq ?_
    refine AW.block ?_
    refine AW.seq (AW.rA ⟨[(0, (vc (.int .i64 x3))), (1, (vc (.str a1))), (5, (vc (.int .i64 x4))), (7, (vc (.int .i64 (a1.size : Int)))), (8, (vc (.int .i64 x4)))], []⟩ (T2 Tt) [] [0, 1, 5, 7, 8] [] ⟨tr, tr, tr⟩ (thenQ_normal ?_))
    obtain ⟨c6, h⟩ := chk_some h
    obtain ⟨c7, h⟩ := chk_some h
    refine AW.rA ⟨[(0, (vc (.int .i64 ((IntKind.i64.wrap ((IntKind.i64.wrap ((IntKind.i64.wrap ((613 : Int) * x3)) + (IntKind.i64.wrap (bt a1 x4.toNat)))) + (23 : Int))).tmod (65003 : Int))))), (1, (vc (.str a1))), (7, (vc (.int .i64 (a1.size : Int)))), (8, (vc (.int .i64 x4)))], []⟩ (T4 ((0 ≤ x4 ∧ x4 < (a1.size : Int)) ∧ Tt ∧ T2 (((65003 : Int) ≠ 0) ∧ Tt ∧ Tt))) [] [0, 1, 7, 8] [] ⟨tr, tr, tr, tr, c6, tr, tr, tr, c7, tr, tr⟩ ?_
    refine blockQ_normal ?_
    refine thenQ_normal ?_
    refine AW.rA ⟨[(0, (vc (.int .i64 ((IntKind.i64.wrap ((IntKind.i64.wrap ((IntKind.i64.wrap ((613 : Int) * x3)) + (IntKind.i64.wrap (bt a1 x4.toNat)))) + (23 : Int))).tmod (65003 : Int))))), (1, (vc (.str a1))), (7, (vc (.int .i64 (a1.size : Int)))), (8, (vc (.int .i64 (IntKind.i64.wrap (x4 + (1 : Int))))))], []⟩ (T2 Tt) [] [0, 1, 7, 8] [] ⟨tr, tr, tr⟩ ?_
    exact loopQ_normal (k, ((IntKind.i64.wrap ((IntKind.i64.wrap ((IntKind.i64.wrap ((613 : Int) * x3)) + (IntKind.i64.wrap (bt a1 x4.toNat)))) + (23 : Int))).tmod (65003 : Int)), (IntKind.i64.wrap (x4 + (1 : Int)))) h (Nat.lt_succ_self k) (Sub.keep [0, 1, 7, 8] [] (by kernel_rfl) (by kernel_rfl))
  · refine AW.cond_f rfl b5 ?_
    refine AW.exit ?_
    refine thenQ_exit ?_
    refine loopQ_exit ?_
    refine blockQ_exit ?_
    refine thenQ_normal ?_
    refine AW.seq (AW.rA ⟨[(4, (vc (.int .i64 x3)))], []⟩ (T2 Tt) [] [4] [] ⟨tr, tr, tr⟩ (thenQ_normal ?_))
    refine AW.ret ?_
    replace h := some_eq h
    subst h
    exact ⟨.inr rfl, retOK_of [(.one (.c (.int .i64 x3)))] (by kernel_rfl) ⟨⟨rfl, tr⟩, tr⟩ (of_decide_eq_true (by kernel_rfl))⟩

/-! impl.record -/
def impl_record_l1 (K : Nat) (a2 : (List F32)) (v1 : ((List Int))) : Nat → Int → (List Int) → Option ((List Int))
  | 0, _, _ => none
  | k + 1, x6, x7 => ite2 ((decide (x6 < (v1.length : Int)))) (chk (0 ≤ x6 ∧ x6 < (v1.length : Int)) (chk (0 ≤ (v1.getD x6.toNat default) ∧ (v1.getD x6.toNat default) < (a2.length : Int)) ((impl_BitsOf K (a2.getD ((v1.getD x6.toNat default).toNat) default)).bind fun v11 => chk (0 ≤ (8 : Int)) (chk (0 ≤ (16 : Int)) (chk (0 ≤ (24 : Int)) (chk ((x7.length + ([(IntKind.u8.wrap (v1.getD x6.toNat default)), (IntKind.u8.wrap v11), (IntKind.u8.wrap (v11.fdiv (2 ^ (min (8 : Int).toNat (IntKind.bits .i64))))), (IntKind.u8.wrap (v11.fdiv (2 ^ (min (16 : Int).toNat (IntKind.bits .i64))))), (IntKind.u8.wrap (v11.fdiv (2 ^ (min (24 : Int).toNat (IntKind.bits .i64)))))]).length) * 1 ≤ 140737488355328) (impl_record_l1 K a2 v1 k (IntKind.i64.wrap (x6 + (1 : Int))) (x7 ++ ([(IntKind.u8.wrap (v1.getD x6.toNat default)), (IntKind.u8.wrap v11), (IntKind.u8.wrap (v11.fdiv (2 ^ (min (8 : Int).toNat (IntKind.bits .i64))))), (IntKind.u8.wrap (v11.fdiv (2 ^ (min (16 : Int).toNat (IntKind.bits .i64))))), (IntKind.u8.wrap (v11.fdiv (2 ^ (min (24 : Int).toNat (IntKind.bits .i64)))))]))))))))) (chk (∀ x ∈ x7, 0 ≤ x ∧ x < 256) ((impl_check K (0 : Int) (strOf x7)).bind fun v18 => chk (0 ≤ (8 : Int)) (chk ((x7.length + ([(IntKind.u8.wrap v18), (IntKind.u8.wrap (v18.fdiv (2 ^ (min (8 : Int).toNat (IntKind.bits .i64)))))]).length) * 1 ≤ 140737488355328) (some (x7 ++ ([(IntKind.u8.wrap v18), (IntKind.u8.wrap (v18.fdiv (2 ^ (min (8 : Int).toNat (IntKind.bits .i64)))))]))))))

def impl_record (K : Nat) (a0 : (List Int)) (a1 : (List F32)) (a2 : (List F32)) : Option ((List Int)) :=
  (impl_changed K a1 a2).bind fun v1 => chk ((a0.length + ([(IntKind.u8.wrap (v1.length : Int))]).length) * 1 ≤ 140737488355328) (impl_record_l1 K a2 v1 K (0 : Int) (a0 ++ ([(IntKind.u8.wrap (v1.length : Int))])))

theorem ok_impl_record (K : Nat) (a0 : (List Int)) (a1 : (List F32)) (a2 : (List F32)) (o : ((List Int))) (h : impl_record K a0 a1 a2 = some o) : MutOK Try.prog 19 [(.one (.mv (sl 1 (csI .u8) a0))), (.one (.ro (sl 1 (csF .f32) a1))), (.one (.ro (sl 1 (csF .f32) a2)))] [.one (sl 1 (csI .u8) o)] := by
  refine mutOK_of_AW 1 Try.func19 rfl (by kernel_rfl) (Nat.le_of_ble_eq_true (by kernel_rfl)) (by kernel_rfl) (by kernel_rfl) ?_
  intro w0 K0 v0 s0
  unfold impl_record at h
  refine AW.seq (AW.rA ⟨[(0, (.v (.one (.arr 0)))), (1, (vc (sl 1 (csF .f32) a1))), (2, (vc (sl 1 (csF .f32) a2)))], [(0, (.arr true a0.length 1 (gl (csI .u8) a0)))]⟩ (Tt ∧ Tt) [] [0, 1, 2] [0] ⟨tr, tr⟩ (thenQ_normal ?_))
  refine AW.seq ?_
  obtain ⟨v1, e2, h⟩ := bind_some h
  refine AW.rA ⟨[(0, (.v (.one (.arr 0)))), (1, (vc (sl 1 (csF .f32) a1))), (2, (vc (sl 1 (csF .f32) a2))), (7, (.v (.one (.lst 1 v1.length 1 (gl (csI .i64) v1)))))], [(0, (.arr true a0.length 1 (gl (csI .u8) a0))), (1, (.lst v1.length 1 (gl (csI .i64) v1)))]⟩ (T2 ((((Eqc (sl 1 (csF .f32) a1)) ∧ (Eqc (sl 1 (csF .f32) a2)) ∧ Tt) ∧ CallOK Try.prog 35 [.one (sl 1 (csF .f32) a1), .one (sl 1 (csF .f32) a2)] [.one (sl 1 (csI .i64) v1)]) ∧ Tt ∧ Tt)) [.no, .no, .call [.one (sl 1 (csF .f32) a1), .one (sl 1 (csF .f32) a2)] [.one (sl 1 (csI .i64) v1)] [[.lst 1]]] [0, 1, 2, 7] [0, 1] ⟨tr, tr, ⟨⟨rfl, rfl, tr⟩, ok_impl_changed K a1 a2 v1 e2⟩, tr, tr⟩ ?_
  refine thenQ_normal ?_
  refine AW.seq ?_
  obtain ⟨c3, h⟩ := chk_some h
  refine AW.rA ⟨[(0, (.v (.one (.lst 3 (a0 ++ ([(IntKind.u8.wrap (v1.length : Int))])).length 1 (gl (csI .u8) (a0 ++ ([(IntKind.u8.wrap (v1.length : Int))]))))))), (1, (vc (sl 1 (csF .f32) a1))), (2, (vc (sl 1 (csF .f32) a2))), (7, (.v (.one (.lst 1 v1.length 1 (gl (csI .i64) v1)))))], [(1, (.lst v1.length 1 (gl (csI .i64) v1))), (3, (.lst (a0 ++ ([(IntKind.u8.wrap (v1.length : Int))])).length 1 (gl (csI .u8) (a0 ++ ([(IntKind.u8.wrap (v1.length : Int))])))))]⟩ (T4 ((([(IntKind.u8.wrap (v1.length : Int))]).length = 1 ∧ (((.int .u8 (IntKind.u8.wrap (v1.length : Int))) : C) = (.int .u8 (IntKind.u8.wrap (v1.length : Int))) ∧ Tt) ∧ Tt) ∧ ((a0 ++ ([(IntKind.u8.wrap (v1.length : Int))])).length = a0.length + ([(IntKind.u8.wrap (v1.length : Int))]).length ∧ AppOb (a0.length) (([(IntKind.u8.wrap (v1.length : Int))]).length) 1 (gl (csI .u8) a0) (gl (csI .u8) ([(IntKind.u8.wrap (v1.length : Int))])) (gl (csI .u8) (a0 ++ ([(IntKind.u8.wrap (v1.length : Int))]))) ∧ (∀ i j, i < ([(IntKind.u8.wrap (v1.length : Int))]).length → j < 1 → scalarC (gl (csI .u8) ([(IntKind.u8.wrap (v1.length : Int))]) i j)) ∧ (a0.length + ([(IntKind.u8.wrap (v1.length : Int))]).length) * 1 ≤ 140737488355328) ∧ Tt ∧ Tt)) [.no, .no, .no, .no, .obj 2 ([(IntKind.u8.wrap (v1.length : Int))]).length (gl (csI .u8) ([(IntKind.u8.wrap (v1.length : Int))])), .objK 3 (a0 ++ ([(IntKind.u8.wrap (v1.length : Int))])).length (gl (csI .u8) (a0 ++ ([(IntKind.u8.wrap (v1.length : Int))])))] [0, 1, 2, 7] [1, 3] ⟨tr, tr, tr, tr, ⟨rfl, ⟨⟨rfl, tr⟩, tr⟩⟩, ⟨List.length_append, gl_append, gl_scalar scI _, c3⟩, tr, tr⟩ ?_
  refine thenQ_normal ?_
  refine AW.seq ?_
  refine AW.seq (AW.rA ⟨[(0, (.v (.one (.lst 3 (a0 ++ ([(IntKind.u8.wrap (v1.length : Int))])).length 1 (gl (csI .u8) (a0 ++ ([(IntKind.u8.wrap (v1.length : Int))]))))))), (1, (vc (sl 1 (csF .f32) a1))), (2, (vc (sl 1 (csF .f32) a2))), (21, (.v (.one (.lst 1 v1.length 1 (gl (csI .i64) v1))))), (22, (vc (.int .i64 (v1.length : Int)))), (23, (vc (.int .i64 (0 : Int))))], [(1, (.lst v1.length 1 (gl (csI .i64) v1))), (3, (.lst (a0 ++ ([(IntKind.u8.wrap (v1.length : Int))])).length 1 (gl (csI .u8) (a0 ++ ([(IntKind.u8.wrap (v1.length : Int))])))))]⟩ (Tt ∧ T2 Tt) [] [0, 1, 2, 21, 22, 23] [1, 3] ⟨tr, tr, tr, tr⟩ (thenQ_normal ?_))
  refine AW.block ?_
  refine AW.loopQ (σ := Nat × Int × (List Int)) (fun p => ⟨[(0, (.v (.one (.lst 3 p.2.2.length 1 (gl (csI .u8) p.2.2))))), (1, (vc (sl 1 (csF .f32) a1))), (2, (vc (sl 1 (csF .f32) a2))), (21, (.v (.one (.lst 1 v1.length 1 (gl (csI .i64) v1))))), (22, (vc (.int .i64 (v1.length : Int)))), (23, (vc (.int .i64 p.2.1)))], [(1, (.lst v1.length 1 (gl (csI .i64) v1))), (3, (.lst p.2.2.length 1 (gl (csI .u8) p.2.2)))]⟩) (fun p => impl_record_l1 K a2 v1 p.1 p.2.1 p.2.2 = some o) (fun p => p.1) (K, (0 : Int), (a0 ++ ([(IntKind.u8.wrap (v1.length : Int))]))) h ?_
  clear h
  rintro ⟨k, x6, x7⟩ h
  replace h : impl_record_l1 K a2 v1 k x6 x7 = some o := h
  show AW _ _ (⟨[(0, (.v (.one (.lst 3 x7.length 1 (gl (csI .u8) x7))))), (1, (vc (sl 1 (csF .f32) a1))), (2, (vc (sl 1 (csF .f32) a2))), (21, (.v (.one (.lst 1 v1.length 1 (gl (csI .i64) v1))))), (22, (vc (.int .i64 (v1.length : Int)))), (23, (vc (.int .i64 x6)))], [(1, (.lst v1.length 1 (gl (csI .i64) v1))), (3, (.lst x7.length 1 (gl (csI .u8) x7)))]⟩ : St) _
  obtain _ | k := k
  · rw [impl_record_l1] at h; cases h
  rw [impl_record_l1] at h
  refine AW.seq (AW.rA ⟨[(0, (.v (.one (.lst 3 x7.length 1 (gl (csI .u8) x7))))), (1, (vc (sl 1 (csF .f32) a1))), (2, (vc (sl 1 (csF .f32) a2))), (21, (.v (.one (.lst 1 v1.length 1 (gl (csI .i64) v1))))), (22, (vc (.int .i64 (v1.length : Int)))), (23, (vc (.int .i64 x6))), (24, (vc (.bool (decide (x6 < (v1.length : Int))))))], [(1, (.lst v1.length 1 (gl (csI .i64) v1))), (3, (.lst x7.length 1 (gl (csI .u8) x7)))]⟩ (Tt ∧ Tt) [] [0, 1, 2, 21, 22, 23, 24] [1, 3] ⟨tr, tr⟩ (thenQ_normal ?_))
  refine AW.seq ?_
  rcases ite2_cases h with ⟨b8, h⟩ | ⟨b8, h⟩
  · refine AW.cond_t rfl b8 ?_
    refine AW.skip ?_
    refine thenQ_normal ?_
    refine AW.seq ?_
    refine AW.block ?_
    refine AW.seq ?_
    obtain ⟨c9, h⟩ := chk_some h
    refine AW.rA ⟨[(0, (.v (.one (.lst 3 x7.length 1 (gl (csI .u8) x7))))), (1, (vc (sl 1 (csF .f32) a1))), (2, (vc (sl 1 (csF .f32) a2))), (9, (vc (.int .i64 (v1.getD x6.toNat default)))), (21, (.v (.one (.lst 1 v1.length 1 (gl (csI .i64) v1))))), (22, (vc (.int .i64 (v1.length : Int)))), (23, (vc (.int .i64 x6)))], [(1, (.lst v1.length 1 (gl (csI .i64) v1))), (3, (.lst x7.length 1 (gl (csI .u8) x7)))]⟩ ((0 ≤ x6 ∧ x6 < (v1.length : Int)) ∧ T2 Tt) [] [0, 1, 2, 9, 21, 22, 23] [1, 3] ⟨c9, tr, tr, tr⟩ ?_
    refine thenQ_normal ?_
    refine AW.seq ?_
    obtain ⟨c10, h⟩ := chk_some h
    obtain ⟨v11, e12, h⟩ := bind_some h
    refine AW.rA ⟨[(0, (.v (.one (.lst 3 x7.length 1 (gl (csI .u8) x7))))), (1, (vc (sl 1 (csF .f32) a1))), (2, (vc (sl 1 (csF .f32) a2))), (9, (vc (.int .i64 (v1.getD x6.toNat default)))), (10, (vc (.int .i64 v11))), (21, (.v (.one (.lst 1 v1.length 1 (gl (csI .i64) v1))))), (22, (vc (.int .i64 (v1.length : Int)))), (23, (vc (.int .i64 x6)))], [(1, (.lst v1.length 1 (gl (csI .i64) v1))), (3, (.lst x7.length 1 (gl (csI .u8) x7)))]⟩ (T2 ((0 ≤ (v1.getD x6.toNat default) ∧ (v1.getD x6.toNat default) < (a2.length : Int)) ∧ Tt ∧ (((Eqc (.flt .f32 (a2.getD ((v1.getD x6.toNat default).toNat) default).bits)) ∧ Tt) ∧ CallOK Try.prog 36 [.one (.flt .f32 (a2.getD ((v1.getD x6.toNat default).toNat) default).bits)] [.one (.int .i64 v11)]) ∧ Tt ∧ Tt)) [.no, .no, .no, .no, .call [.one (.flt .f32 (a2.getD ((v1.getD x6.toNat default).toNat) default).bits)] [.one (.int .i64 v11)] [[.view]]] [0, 1, 2, 9, 10, 21, 22, 23] [1, 3] ⟨tr, tr, c10, tr, ⟨⟨rfl, tr⟩, ok_impl_BitsOf K (a2.getD ((v1.getD x6.toNat default).toNat) default) v11 e12⟩, tr, tr⟩ ?_
    refine thenQ_normal ?_
    obtain ⟨c13, h⟩ := chk_some h
    obtain ⟨c14, h⟩ := chk_some h
    obtain ⟨c15, h⟩ := chk_some h
    obtain ⟨c16, h⟩ := chk_some h
    refine AW.rA ⟨[(0, (.v (.one (.lst 9 (x7 ++ ([(IntKind.u8.wrap (v1.getD x6.toNat default)), (IntKind.u8.wrap v11), (IntKind.u8.wrap (v11.fdiv (2 ^ (min (8 : Int).toNat (IntKind.bits .i64))))), (IntKind.u8.wrap (v11.fdiv (2 ^ (min (16 : Int).toNat (IntKind.bits .i64))))), (IntKind.u8.wrap (v11.fdiv (2 ^ (min (24 : Int).toNat (IntKind.bits .i64)))))])).length 1 (gl (csI .u8) (x7 ++ ([(IntKind.u8.wrap (v1.getD x6.toNat default)), (IntKind.u8.wrap v11), (IntKind.u8.wrap (v11.fdiv (2 ^ (min (8 : Int).toNat (IntKind.bits .i64))))), (IntKind.u8.wrap (v11.fdiv (2 ^ (min (16 : Int).toNat (IntKind.bits .i64))))), (IntKind.u8.wrap (v11.fdiv (2 ^ (min (24 : Int).toNat (IntKind.bits .i64)))))]))))))), (1, (vc (sl 1 (csF .f32) a1))), (2, (vc (sl 1 (csF .f32) a2))), (21, (.v (.one (.lst 1 v1.length 1 (gl (csI .i64) v1))))), (22, (vc (.int .i64 (v1.length : Int)))), (23, (vc (.int .i64 x6)))], [(1, (.lst v1.length 1 (gl (csI .i64) v1))), (9, (.lst (x7 ++ ([(IntKind.u8.wrap (v1.getD x6.toNat default)), (IntKind.u8.wrap v11), (IntKind.u8.wrap (v11.fdiv (2 ^ (min (8 : Int).toNat (IntKind.bits .i64))))), (IntKind.u8.wrap (v11.fdiv (2 ^ (min (16 : Int).toNat (IntKind.bits .i64))))), (IntKind.u8.wrap (v11.fdiv (2 ^ (min (24 : Int).toNat (IntKind.bits .i64)))))])).length 1 (gl (csI .u8) (x7 ++ ([(IntKind.u8.wrap (v1.getD x6.toNat default)), (IntKind.u8.wrap v11), (IntKind.u8.wrap (v11.fdiv (2 ^ (min (8 : Int).toNat (IntKind.bits .i64))))), (IntKind.u8.wrap (v11.fdiv (2 ^ (min (16 : Int).toNat (IntKind.bits .i64))))), (IntKind.u8.wrap (v11.fdiv (2 ^ (min (24 : Int).toNat (IntKind.bits .i64)))))])))))]⟩ (T2 (T4 ((0 ≤ (8 : Int)) ∧ T2 ((0 ≤ (16 : Int)) ∧ T2 ((0 ≤ (24 : Int)) ∧ Tt ∧ (([(IntKind.u8.wrap (v1.getD x6.toNat default)), (IntKind.u8.wrap v11), (IntKind.u8.wrap (v11.fdiv (2 ^ (min (8 : Int).toNat (IntKind.bits .i64))))), (IntKind.u8.wrap (v11.fdiv (2 ^ (min (16 : Int).toNat (IntKind.bits .i64))))), (IntKind.u8.wrap (v11.fdiv (2 ^ (min (24 : Int).toNat (IntKind.bits .i64)))))]).length = 5 ∧ (((.int .u8 (IntKind.u8.wrap (v1.getD x6.toNat default))) : C) = (.int .u8 (IntKind.u8.wrap (v1.getD x6.toNat default))) ∧ Tt) ∧ (((.int .u8 (IntKind.u8.wrap v11)) : C) = (.int .u8 (IntKind.u8.wrap v11)) ∧ Tt) ∧ (((.int .u8 (IntKind.u8.wrap (v11.fdiv (2 ^ (min (8 : Int).toNat (IntKind.bits .i64)))))) : C) = (.int .u8 (IntKind.u8.wrap (v11.fdiv (2 ^ (min (8 : Int).toNat (IntKind.bits .i64)))))) ∧ Tt) ∧ (((.int .u8 (IntKind.u8.wrap (v11.fdiv (2 ^ (min (16 : Int).toNat (IntKind.bits .i64)))))) : C) = (.int .u8 (IntKind.u8.wrap (v11.fdiv (2 ^ (min (16 : Int).toNat (IntKind.bits .i64)))))) ∧ Tt) ∧ (((.int .u8 (IntKind.u8.wrap (v11.fdiv (2 ^ (min (24 : Int).toNat (IntKind.bits .i64)))))) : C) = (.int .u8 (IntKind.u8.wrap (v11.fdiv (2 ^ (min (24 : Int).toNat (IntKind.bits .i64)))))) ∧ Tt) ∧ Tt) ∧ ((x7 ++ ([(IntKind.u8.wrap (v1.getD x6.toNat default)), (IntKind.u8.wrap v11), (IntKind.u8.wrap (v11.fdiv (2 ^ (min (8 : Int).toNat (IntKind.bits .i64))))), (IntKind.u8.wrap (v11.fdiv (2 ^ (min (16 : Int).toNat (IntKind.bits .i64))))), (IntKind.u8.wrap (v11.fdiv (2 ^ (min (24 : Int).toNat (IntKind.bits .i64)))))])).length = x7.length + ([(IntKind.u8.wrap (v1.getD x6.toNat default)), (IntKind.u8.wrap v11), (IntKind.u8.wrap (v11.fdiv (2 ^ (min (8 : Int).toNat (IntKind.bits .i64))))), (IntKind.u8.wrap (v11.fdiv (2 ^ (min (16 : Int).toNat (IntKind.bits .i64))))), (IntKind.u8.wrap (v11.fdiv (2 ^ (min (24 : Int).toNat (IntKind.bits .i64)))))]).length ∧ AppOb (x7.length) (([(IntKind.u8.wrap (v1.getD x6.toNat default)), (IntKind.u8.wrap v11), (IntKind.u8.wrap (v11.fdiv (2 ^ (min (8 : Int).toNat (IntKind.bits .i64))))), (IntKind.u8.wrap (v11.fdiv (2 ^ (min (16 : Int).toNat (IntKind.bits .i64))))), (IntKind.u8.wrap (v11.fdiv (2 ^ (min (24 : Int).toNat (IntKind.bits .i64)))))]).length) 1 (gl (csI .u8) x7) (gl (csI .u8) ([(IntKind.u8.wrap (v1.getD x6.toNat default)), (IntKind.u8.wrap v11), (IntKind.u8.wrap (v11.fdiv (2 ^ (min (8 : Int).toNat (IntKind.bits .i64))))), (IntKind.u8.wrap (v11.fdiv (2 ^ (min (16 : Int).toNat (IntKind.bits .i64))))), (IntKind.u8.wrap (v11.fdiv (2 ^ (min (24 : Int).toNat (IntKind.bits .i64)))))])) (gl (csI .u8) (x7 ++ ([(IntKind.u8.wrap (v1.getD x6.toNat default)), (IntKind.u8.wrap v11), (IntKind.u8.wrap (v11.fdiv (2 ^ (min (8 : Int).toNat (IntKind.bits .i64))))), (IntKind.u8.wrap (v11.fdiv (2 ^ (min (16 : Int).toNat (IntKind.bits .i64))))), (IntKind.u8.wrap (v11.fdiv (2 ^ (min (24 : Int).toNat (IntKind.bits .i64)))))]))) ∧ (∀ i j, i < ([(IntKind.u8.wrap (v1.getD x6.toNat default)), (IntKind.u8.wrap v11), (IntKind.u8.wrap (v11.fdiv (2 ^ (min (8 : Int).toNat (IntKind.bits .i64))))), (IntKind.u8.wrap (v11.fdiv (2 ^ (min (16 : Int).toNat (IntKind.bits .i64))))), (IntKind.u8.wrap (v11.fdiv (2 ^ (min (24 : Int).toNat (IntKind.bits .i64)))))]).length → j < 1 → scalarC (gl (csI .u8) ([(IntKind.u8.wrap (v1.getD x6.toNat default)), (IntKind.u8.wrap v11), (IntKind.u8.wrap (v11.fdiv (2 ^ (min (8 : Int).toNat (IntKind.bits .i64))))), (IntKind.u8.wrap (v11.fdiv (2 ^ (min (16 : Int).toNat (IntKind.bits .i64))))), (IntKind.u8.wrap (v11.fdiv (2 ^ (min (24 : Int).toNat (IntKind.bits .i64)))))]) i j)) ∧ (x7.length + ([(IntKind.u8.wrap (v1.getD x6.toNat default)), (IntKind.u8.wrap v11), (IntKind.u8.wrap (v11.fdiv (2 ^ (min (8 : Int).toNat (IntKind.bits .i64))))), (IntKind.u8.wrap (v11.fdiv (2 ^ (min (16 : Int).toNat (IntKind.bits .i64))))), (IntKind.u8.wrap (v11.fdiv (2 ^ (min (24 : Int).toNat (IntKind.bits .i64)))))]).length) * 1 ≤ 140737488355328) ∧ Tt ∧ Tt))))) [.no, .no, .no, .no, .no, .no, .no, .no, .no, .no, .no, .no, .no, .no, .obj 8 ([(IntKind.u8.wrap (v1.getD x6.toNat default)), (IntKind.u8.wrap v11), (IntKind.u8.wrap (v11.fdiv (2 ^ (min (8 : Int).toNat (IntKind.bits .i64))))), (IntKind.u8.wrap (v11.fdiv (2 ^ (min (16 : Int).toNat (IntKind.bits .i64))))), (IntKind.u8.wrap (v11.fdiv (2 ^ (min (24 : Int).toNat (IntKind.bits .i64)))))]).length (gl (csI .u8) ([(IntKind.u8.wrap (v1.getD x6.toNat default)), (IntKind.u8.wrap v11), (IntKind.u8.wrap (v11.fdiv (2 ^ (min (8 : Int).toNat (IntKind.bits .i64))))), (IntKind.u8.wrap (v11.fdiv (2 ^ (min (16 : Int).toNat (IntKind.bits .i64))))), (IntKind.u8.wrap (v11.fdiv (2 ^ (min (24 : Int).toNat (IntKind.bits .i64)))))])), .objK 9 (x7 ++ ([(IntKind.u8.wrap (v1.getD x6.toNat default)), (IntKind.u8.wrap v11), (IntKind.u8.wrap (v11.fdiv (2 ^ (min (8 : Int).toNat (IntKind.bits .i64))))), (IntKind.u8.wrap (v11.fdiv (2 ^ (min (16 : Int).toNat (IntKind.bits .i64))))), (IntKind.u8.wrap (v11.fdiv (2 ^ (min (24 : Int).toNat (IntKind.bits .i64)))))])).length (gl (csI .u8) (x7 ++ ([(IntKind.u8.wrap (v1.getD x6.toNat default)), (IntKind.u8.wrap v11), (IntKind.u8.wrap (v11.fdiv (2 ^ (min (8 : Int).toNat (IntKind.bits .i64))))), (IntKind.u8.wrap (v11.fdiv (2 ^ (min (16 : Int).toNat (IntKind.bits .i64))))), (IntKind.u8.wrap (v11.fdiv (2 ^ (min (24 : Int).toNat (IntKind.bits .i64)))))])))] [0, 1, 2, 21, 22, 23] [1, 9] ⟨tr, tr, tr, tr, tr, tr, c13, tr, tr, c14, tr, tr, c15, tr, ⟨rfl, ⟨⟨rfl, tr⟩, ⟨rfl, tr⟩, ⟨rfl, tr⟩, ⟨rfl, tr⟩, ⟨rfl, tr⟩, tr⟩⟩, ⟨List.length_append, gl_append, gl_scalar scI _, c16⟩, tr, tr⟩ ?_
    refine blockQ_normal ?_
    refine thenQ_normal ?_
    refine AW.rA ⟨[(0, (.v (.one (.lst 9 (x7 ++ ([(IntKind.u8.wrap (v1.getD x6.toNat default)), (IntKind.u8.wrap v11), (IntKind.u8.wrap (v11.fdiv (2 ^ (min (8 : Int).toNat (IntKind.bits .i64))))), (IntKind.u8.wrap (v11.fdiv (2 ^ (min (16 : Int).toNat (IntKind.bits .i64))))), (IntKind.u8.wrap (v11.fdiv (2 ^ (min (24 : Int).toNat (IntKind.bits .i64)))))])).length 1 (gl (csI .u8) (x7 ++ ([(IntKind.u8.wrap (v1.getD x6.toNat default)), (IntKind.u8.wrap v11), (IntKind.u8.wrap (v11.fdiv (2 ^ (min (8 : Int).toNat (IntKind.bits .i64))))), (IntKind.u8.wrap (v11.fdiv (2 ^ (min (16 : Int).toNat (IntKind.bits .i64))))), (IntKind.u8.wrap (v11.fdiv (2 ^ (min (24 : Int).toNat (IntKind.bits .i64)))))]))))))), (1, (vc (sl 1 (csF .f32) a1))), (2, (vc (sl 1 (csF .f32) a2))), (21, (.v (.one (.lst 1 v1.length 1 (gl (csI .i64) v1))))), (22, (vc (.int .i64 (v1.length : Int)))), (23, (vc (.int .i64 (IntKind.i64.wrap (x6 + (1 : Int))))))], [(1, (.lst v1.length 1 (gl (csI .i64) v1))), (9, (.lst (x7 ++ ([(IntKind.u8.wrap (v1.getD x6.toNat default)), (IntKind.u8.wrap v11), (IntKind.u8.wrap (v11.fdiv (2 ^ (min (8 : Int).toNat (IntKind.bits .i64))))), (IntKind.u8.wrap (v11.fdiv (2 ^ (min (16 : Int).toNat (IntKind.bits .i64))))), (IntKind.u8.wrap (v11.fdiv (2 ^ (min (24 : Int).toNat (IntKind.bits .i64)))))])).length 1 (gl (csI .u8) (x7 ++ ([(IntKind.u8.wrap (v1.getD x6.toNat default)), (IntKind.u8.wrap v11), (IntKind.u8.wrap (v11.fdiv (2 ^ (min (8 : Int).toNat (IntKind.bits .i64))))), (IntKind.u8.wrap (v11.fdiv (2 ^ (min (16 : Int).toNat (IntKind.bits .i64))))), (IntKind.u8.wrap (v11.fdiv (2 ^ (min (24 : Int).toNat (IntKind.bits .i64)))))])))))]⟩ (T2 Tt) [] [0, 1, 2, 21, 22, 23] [1, 9] ⟨tr, tr, tr⟩ ?_
    exact loopQ_normal (k, (IntKind.i64.wrap (x6 + (1 : Int))), (x7 ++ ([(IntKind.u8.wrap (v1.getD x6.toNat default)), (IntKind.u8.wrap v11), (IntKind.u8.wrap (v11.fdiv (2 ^ (min (8 : Int).toNat (IntKind.bits .i64))))), (IntKind.u8.wrap (v11.fdiv (2 ^ (min (16 : Int).toNat (IntKind.bits .i64))))), (IntKind.u8.wrap (v11.fdiv (2 ^ (min (24 : Int).toNat (IntKind.bits .i64)))))]))) h (Nat.lt_succ_self k) (Sub.trans (Sub.swap 3 9 _ (by kernel_rfl) (by kernel_rfl)) (Sub.keep [0, 1, 2, 21, 22, 23] [1, 3] (by kernel_rfl) (by kernel_rfl)))
  · refine AW.cond_f rfl b8 ?_
    refine AW.exit ?_
    refine thenQ_exit ?_
    refine loopQ_exit ?_
    refine blockQ_exit ?_
    refine thenQ_normal ?_
    refine AW.seq ?_
    obtain ⟨c17, h⟩ := chk_some h
    obtain ⟨v18, e19, h⟩ := bind_some h
    refine AW.rA ⟨[(0, (.v (.one (.lst 3 x7.length 1 (gl (csI .u8) x7))))), (1, (vc (sl 1 (csF .f32) a1))), (2, (vc (sl 1 (csF .f32) a2))), (11, (vc (.int .i64 v18)))], [(3, (.lst x7.length 1 (gl (csI .u8) x7)))]⟩ (Tt ∧ (bytesOb (strOf x7) x7.length (gl (csI .u8) x7)) ∧ (((Eqc (.int .i64 (0 : Int))) ∧ (Eqc (.str (strOf x7))) ∧ Tt) ∧ CallOK Try.prog 37 [.one (.int .i64 (0 : Int)), .one (.str (strOf x7))] [.one (.int .i64 v18)]) ∧ Tt ∧ Tt) [.no, .str (strOf x7), .call [.one (.int .i64 (0 : Int)), .one (.str (strOf x7))] [.one (.int .i64 v18)] [[.view]]] [0, 1, 2, 11] [3] ⟨tr, strOf_ob c17, ⟨⟨rfl, rfl, tr⟩, ok_impl_check K (0 : Int) (strOf x7) v18 e19⟩, tr, tr⟩ ?_
    refine thenQ_normal ?_
    refine AW.seq ?_
    obtain ⟨c20, h⟩ := chk_some h
    obtain ⟨c21, h⟩ := chk_some h
    refine AW.rA ⟨[(0, (.v (.one (.lst 3 x7.length 1 (gl (csI .u8) x7))))), (1, (vc (sl 1 (csF .f32) a1))), (2, (vc (sl 1 (csF .f32) a2))), (6, (.v (.one (.lst 11 (x7 ++ ([(IntKind.u8.wrap v18), (IntKind.u8.wrap (v18.fdiv (2 ^ (min (8 : Int).toNat (IntKind.bits .i64)))))])).length 1 (gl (csI .u8) (x7 ++ ([(IntKind.u8.wrap v18), (IntKind.u8.wrap (v18.fdiv (2 ^ (min (8 : Int).toNat (IntKind.bits .i64)))))])))))))], [(11, (.lst (x7 ++ ([(IntKind.u8.wrap v18), (IntKind.u8.wrap (v18.fdiv (2 ^ (min (8 : Int).toNat (IntKind.bits .i64)))))])).length 1 (gl (csI .u8) (x7 ++ ([(IntKind.u8.wrap v18), (IntKind.u8.wrap (v18.fdiv (2 ^ (min (8 : Int).toNat (IntKind.bits .i64)))))])))))]⟩ (T4 ((0 ≤ (8 : Int)) ∧ Tt ∧ (([(IntKind.u8.wrap v18), (IntKind.u8.wrap (v18.fdiv (2 ^ (min (8 : Int).toNat (IntKind.bits .i64)))))]).length = 2 ∧ (((.int .u8 (IntKind.u8.wrap v18)) : C) = (.int .u8 (IntKind.u8.wrap v18)) ∧ Tt) ∧ (((.int .u8 (IntKind.u8.wrap (v18.fdiv (2 ^ (min (8 : Int).toNat (IntKind.bits .i64)))))) : C) = (.int .u8 (IntKind.u8.wrap (v18.fdiv (2 ^ (min (8 : Int).toNat (IntKind.bits .i64)))))) ∧ Tt) ∧ Tt) ∧ ((x7 ++ ([(IntKind.u8.wrap v18), (IntKind.u8.wrap (v18.fdiv (2 ^ (min (8 : Int).toNat (IntKind.bits .i64)))))])).length = x7.length + ([(IntKind.u8.wrap v18), (IntKind.u8.wrap (v18.fdiv (2 ^ (min (8 : Int).toNat (IntKind.bits .i64)))))]).length ∧ AppOb (x7.length) (([(IntKind.u8.wrap v18), (IntKind.u8.wrap (v18.fdiv (2 ^ (min (8 : Int).toNat (IntKind.bits .i64)))))]).length) 1 (gl (csI .u8) x7) (gl (csI .u8) ([(IntKind.u8.wrap v18), (IntKind.u8.wrap (v18.fdiv (2 ^ (min (8 : Int).toNat (IntKind.bits .i64)))))])) (gl (csI .u8) (x7 ++ ([(IntKind.u8.wrap v18), (IntKind.u8.wrap (v18.fdiv (2 ^ (min (8 : Int).toNat (IntKind.bits .i64)))))]))) ∧ (∀ i j, i < ([(IntKind.u8.wrap v18), (IntKind.u8.wrap (v18.fdiv (2 ^ (min (8 : Int).toNat (IntKind.bits .i64)))))]).length → j < 1 → scalarC (gl (csI .u8) ([(IntKind.u8.wrap v18), (IntKind.u8.wrap (v18.fdiv (2 ^ (min (8 : Int).toNat (IntKind.bits .i64)))))]) i j)) ∧ (x7.length + ([(IntKind.u8.wrap v18), (IntKind.u8.wrap (v18.fdiv (2 ^ (min (8 : Int).toNat (IntKind.bits .i64)))))]).length) * 1 ≤ 140737488355328) ∧ Tt ∧ Tt)) [.no, .no, .no, .no, .no, .no, .obj 10 ([(IntKind.u8.wrap v18), (IntKind.u8.wrap (v18.fdiv (2 ^ (min (8 : Int).toNat (IntKind.bits .i64)))))]).length (gl (csI .u8) ([(IntKind.u8.wrap v18), (IntKind.u8.wrap (v18.fdiv (2 ^ (min (8 : Int).toNat (IntKind.bits .i64)))))])), .objK 11 (x7 ++ ([(IntKind.u8.wrap v18), (IntKind.u8.wrap (v18.fdiv (2 ^ (min (8 : Int).toNat (IntKind.bits .i64)))))])).length (gl (csI .u8) (x7 ++ ([(IntKind.u8.wrap v18), (IntKind.u8.wrap (v18.fdiv (2 ^ (min (8 : Int).toNat (IntKind.bits .i64)))))])))] [0, 1, 2, 6] [11] ⟨tr, tr, tr, tr, c20, tr, ⟨rfl, ⟨⟨rfl, tr⟩, ⟨rfl, tr⟩, tr⟩⟩, ⟨List.length_append, gl_append, gl_scalar scI _, c21⟩, tr, tr⟩ ?_
    refine thenQ_normal ?_
    refine AW.ret ?_
    replace h := some_eq h
    subst h
    exact ⟨.inr rfl, retOK_of [(.one (.lst 11 (x7 ++ ([(IntKind.u8.wrap v18), (IntKind.u8.wrap (v18.fdiv (2 ^ (min (8 : Int).toNat (IntKind.bits .i64)))))])).length 1 (gl (csI .u8) (x7 ++ ([(IntKind.u8.wrap v18), (IntKind.u8.wrap (v18.fdiv (2 ^ (min (8 : Int).toNat (IntKind.bits .i64)))))])))))] (by kernel_rfl) ⟨rfl, tr⟩ (of_decide_eq_true (by kernel_rfl)), by kernel_rfl, ⟨tr, tr, tr, tr⟩⟩

/-! impl.StoreRecording -/
def impl_StoreRecording_l1 (K : Nat) (a0 : Recording) : Nat → Int → (List Int) → (List F32) → Option (ByteArray × Bool)
  | 0, _, _, _ => none
  | k + 1, x11, x12, x13 => ite2 ((decide (x11 < (a0.Frames.length : Int)))) (chk (0 ≤ x11 ∧ x11 < (a0.Frames.length : Int)) ((impl_listed K (a0.Frames.getD x11.toNat default)).bind fun v16 => (impl_record K x12 x13 v16).bind fun v18 => impl_StoreRecording_l1 K a0 k (IntKind.i64.wrap (x11 + (1 : Int))) v18 v16)) (chk (∀ x ∈ x12, 0 ≤ x ∧ x < 256) (some ((strOf x12), true)))

def impl_StoreRecording (K : Nat) (a0 : Recording) : Option (ByteArray × Bool) :=
  (impl_ValidRecording K a0).bind fun v1 => ite2 ((!v1)) (some (ByteArray.empty, false)) ((impl_header K a0.Bones).bind fun v4 => (impl_none K a0.Bones).bind fun v6 => impl_StoreRecording_l1 K a0 K (0 : Int) v4 v6)

theorem ok_impl_StoreRecording (K : Nat) (a0 : Recording) (o : (ByteArray × Bool)) (h : impl_StoreRecording K a0 = some o) : CallOK Try.prog 6 [.agg (cs_Recording a0)] [.one (.str o.1), .one (.bool o.2)] := by
  refine callOK_of_AW Try.func6 rfl (by kernel_rfl) (Nat.le_of_ble_eq_true (by kernel_rfl)) ?_
  intro w0
  unfold impl_StoreRecording at h
  refine AW.seq (AW.rA ⟨[(1, (vp 1 0))], [(1, (.box [(.c (.int .i64 a0.Bones)), (.c (sl 4 cs_Pose a0.Frames))]))]⟩ (Tt ∧ T2 Tt) [.box 1] [1] [1] ⟨tr, tr, tr, tr⟩ (thenQ_normal ?_))
  refine AW.seq ?_
  refine AW.seq ?_
  obtain ⟨v1, e2, h⟩ := bind_some h
  refine AW.rA ⟨[(1, (vp 1 0)), (11, (vc (.bool (!v1))))], [(1, (.box [(.c (.int .i64 a0.Bones)), (.c (sl 4 cs_Pose a0.Frames))]))]⟩ (Tt ∧ ((((Eqc (.int .i64 a0.Bones)) ∧ (Eqc (sl 4 cs_Pose a0.Frames)) ∧ Tt) ∧ Tt) ∧ CallOK Try.prog 9 [.agg (cs_Recording a0)] [.one (.bool v1)]) ∧ Tt ∧ Tt) [.no, .call [.agg (cs_Recording a0)] [.one (.bool v1)] [[.view]]] [1, 11] [1] ⟨tr, ⟨⟨⟨rfl, rfl, tr⟩, tr⟩, ok_impl_ValidRecording K a0 v1 e2⟩, tr, tr⟩ ?_
  refine thenQ_normal ?_
  rcases ite2_cases h with ⟨b3, h⟩ | ⟨b3, h⟩
  · refine AW.cond_t rfl b3 ?_
    refine AW.seq (AW.rA ⟨[(2, (vc (.str ByteArray.empty))), (3, (vc (.bool false)))], []⟩ (T2 Tt) [] [2, 3] [] ⟨tr, tr, tr⟩ (thenQ_normal ?_))
    refine AW.ret ?_
    refine thenQ_ret ?_
    replace h := some_eq h
    subst h
    exact ⟨.inr rfl, retOK_of [(.one (.c (.str ByteArray.empty))), (.one (.c (.bool false)))] (by kernel_rfl) ⟨⟨rfl, tr⟩, ⟨rfl, tr⟩, tr⟩ (of_decide_eq_true (by kernel_rfl))⟩
  · refine AW.cond_f rfl b3 ?_
    refine AW.skip ?_
    refine thenQ_normal ?_
    refine AW.seq ?_
    obtain ⟨v4, e5, h⟩ := bind_some h
    refine AW.rA ⟨[(1, (vp 1 0)), (4, (.v (.one (.arr 2))))], [(1, (.box [(.c (.int .i64 a0.Bones)), (.c (sl 4 cs_Pose a0.Frames))])), (2, (.arr true v4.length 1 (gl (csI .u8) v4)))]⟩ (T2 ((((Eqc (.int .i64 a0.Bones)) ∧ Tt) ∧ CallOK Try.prog 16 [.one (.int .i64 a0.Bones)] [.one (sl 1 (csI .u8) v4)]) ∧ Tt ∧ Tt)) [.no, .no, .call [.one (.int .i64 a0.Bones)] [.one (sl 1 (csI .u8) v4)] [[.own 2]]] [1, 4] [1, 2] ⟨tr, tr, ⟨⟨rfl, tr⟩, ok_impl_header K a0.Bones v4 e5⟩, tr, tr⟩ ?_
    refine thenQ_normal ?_
    refine AW.seq ?_
    obtain ⟨v6, e7, h⟩ := bind_some h
    refine AW.rA ⟨[(1, (vp 1 0)), (4, (.v (.one (.arr 2)))), (5, (.v (.one (.lst 3 v6.length 1 (gl (csF .f32) v6)))))], [(1, (.box [(.c (.int .i64 a0.Bones)), (.c (sl 4 cs_Pose a0.Frames))])), (2, (.arr true v4.length 1 (gl (csI .u8) v4))), (3, (.lst v6.length 1 (gl (csF .f32) v6)))]⟩ (T2 ((((Eqc (.int .i64 a0.Bones)) ∧ Tt) ∧ CallOK Try.prog 17 [.one (.int .i64 a0.Bones)] [.one (sl 1 (csF .f32) v6)]) ∧ Tt ∧ Tt)) [.no, .no, .call [.one (.int .i64 a0.Bones)] [.one (sl 1 (csF .f32) v6)] [[.lst 3]]] [1, 4, 5] [1, 2, 3] ⟨tr, tr, ⟨⟨rfl, tr⟩, ok_impl_none K a0.Bones v6 e7⟩, tr, tr⟩ ?_
    refine thenQ_normal ?_
    refine AW.seq ?_
    refine AW.seq (AW.rA ⟨[(4, (.v (.one (.arr 2)))), (5, (.v (.one (.lst 3 v6.length 1 (gl (csF .f32) v6))))), (19, (vc (sl 4 cs_Pose a0.Frames))), (20, (vc (.int .i64 (a0.Frames.length : Int)))), (21, (vc (.int .i64 (0 : Int))))], [(2, (.arr true v4.length 1 (gl (csI .u8) v4))), (3, (.lst v6.length 1 (gl (csF .f32) v6)))]⟩ (T4 Tt) [] [4, 5, 19, 20, 21] [2, 3] ⟨tr, tr, tr, tr, tr⟩ (thenQ_normal ?_))
    refine AW.block ?_
    refine AW.loopQ (σ := Nat × Int × (List Int) × (List F32)) (fun p => ⟨[(4, (.v (.one (.arr 2)))), (5, (.v (.one (.lst 3 p.2.2.2.length 1 (gl (csF .f32) p.2.2.2))))), (19, (vc (sl 4 cs_Pose a0.Frames))), (20, (vc (.int .i64 (a0.Frames.length : Int)))), (21, (vc (.int .i64 p.2.1)))], [(2, (.arr true p.2.2.1.length 1 (gl (csI .u8) p.2.2.1))), (3, (.lst p.2.2.2.length 1 (gl (csF .f32) p.2.2.2)))]⟩) (fun p => impl_StoreRecording_l1 K a0 p.1 p.2.1 p.2.2.1 p.2.2.2 = some o) (fun p => p.1) (K, (0 : Int), v4, v6) h ?_
    clear h
    rintro ⟨k, x11, x12, x13⟩ h
    replace h : impl_StoreRecording_l1 K a0 k x11 x12 x13 = some o := h
    show AW _ _ (⟨[(4, (.v (.one (.arr 2)))), (5, (.v (.one (.lst 3 x13.length 1 (gl (csF .f32) x13))))), (19, (vc (sl 4 cs_Pose a0.Frames))), (20, (vc (.int .i64 (a0.Frames.length : Int)))), (21, (vc (.int .i64 x11)))], [(2, (.arr true x12.length 1 (gl (csI .u8) x12))), (3, (.lst x13.length 1 (gl (csF .f32) x13)))]⟩ : St) _
    obtain _ | k := k
    · rw [impl_StoreRecording_l1] at h; cases h
    rw [impl_StoreRecording_l1] at h
    refine AW.seq (AW.rA ⟨[(4, (.v (.one (.arr 2)))), (5, (.v (.one (.lst 3 x13.length 1 (gl (csF .f32) x13))))), (19, (vc (sl 4 cs_Pose a0.Frames))), (20, (vc (.int .i64 (a0.Frames.length : Int)))), (21, (vc (.int .i64 x11))), (22, (vc (.bool (decide (x11 < (a0.Frames.length : Int))))))], [(2, (.arr true x12.length 1 (gl (csI .u8) x12))), (3, (.lst x13.length 1 (gl (csF .f32) x13)))]⟩ (Tt ∧ Tt) [] [4, 5, 19, 20, 21, 22] [2, 3] ⟨tr, tr⟩ (thenQ_normal ?_))
    refine AW.seq ?_
    rcases ite2_cases h with ⟨b14, h⟩ | ⟨b14, h⟩
    · refine AW.cond_t rfl b14 ?_
      refine AW.skip ?_
      refine thenQ_normal ?_
      refine AW.seq ?_
      refine AW.block ?_
      refine AW.seq ?_
      obtain ⟨c15, h⟩ := chk_some h
      refine AW.rA ⟨[(4, (.v (.one (.arr 2)))), (5, (.v (.one (.lst 3 x13.length 1 (gl (csF .f32) x13))))), (7, (vp 10 0)), (19, (vc (sl 4 cs_Pose a0.Frames))), (20, (vc (.int .i64 (a0.Frames.length : Int)))), (21, (vc (.int .i64 x11)))], [(2, (.arr true x12.length 1 (gl (csI .u8) x12))), (3, (.lst x13.length 1 (gl (csF .f32) x13))), (10, (.box [(.c (.flt .f32 (((a0.Frames.getD x11.toNat default).Root).X).bits)), (.c (.flt .f32 (((a0.Frames.getD x11.toNat default).Root).Y).bits)), (.c (.flt .f32 (((a0.Frames.getD x11.toNat default).Root).Z).bits)), (.c (sl 4 cs_Turn ((a0.Frames.getD x11.toNat default).Turns)))]))]⟩ ((0 ≤ x11 ∧ x11 < (a0.Frames.length : Int)) ∧ Tt ∧ T2 Tt) [.no, .no, .box 10] [4, 5, 7, 19, 20, 21] [2, 3, 10] ⟨c15, tr, tr, tr, tr⟩ ?_
      refine thenQ_normal ?_
      refine AW.seq ?_
      obtain ⟨v16, e17, h⟩ := bind_some h
      refine AW.rA ⟨[(4, (.v (.one (.arr 2)))), (5, (.v (.one (.lst 3 x13.length 1 (gl (csF .f32) x13))))), (8, (.v (.one (.lst 11 v16.length 1 (gl (csF .f32) v16))))), (19, (vc (sl 4 cs_Pose a0.Frames))), (20, (vc (.int .i64 (a0.Frames.length : Int)))), (21, (vc (.int .i64 x11)))], [(2, (.arr true x12.length 1 (gl (csI .u8) x12))), (3, (.lst x13.length 1 (gl (csF .f32) x13))), (11, (.lst v16.length 1 (gl (csF .f32) v16)))]⟩ (Tt ∧ ((((Eqc (.flt .f32 (((a0.Frames.getD x11.toNat default).Root).X).bits)) ∧ (Eqc (.flt .f32 (((a0.Frames.getD x11.toNat default).Root).Y).bits)) ∧ (Eqc (.flt .f32 (((a0.Frames.getD x11.toNat default).Root).Z).bits)) ∧ (Eqc (sl 4 cs_Turn ((a0.Frames.getD x11.toNat default).Turns))) ∧ Tt) ∧ Tt) ∧ CallOK Try.prog 18 [.agg (cs_Pose (a0.Frames.getD x11.toNat default))] [.one (sl 1 (csF .f32) v16)]) ∧ Tt ∧ Tt) [.no, .call [.agg (cs_Pose (a0.Frames.getD x11.toNat default))] [.one (sl 1 (csF .f32) v16)] [[.lst 11]]] [4, 5, 8, 19, 20, 21] [2, 3, 11] ⟨tr, ⟨⟨⟨rfl, rfl, rfl, rfl, tr⟩, tr⟩, ok_impl_listed K (a0.Frames.getD x11.toNat default) v16 e17⟩, tr, tr⟩ ?_
      refine thenQ_normal ?_
      refine AW.seq ?_
      obtain ⟨v18, e19, h⟩ := bind_some h
      refine AW.rA ⟨[(4, (.v (.one (.arr 12)))), (8, (.v (.one (.lst 11 v16.length 1 (gl (csF .f32) v16))))), (19, (vc (sl 4 cs_Pose a0.Frames))), (20, (vc (.int .i64 (a0.Frames.length : Int)))), (21, (vc (.int .i64 x11)))], [(11, (.lst v16.length 1 (gl (csF .f32) v16))), (12, (.arr true v18.length 1 (gl (csI .u8) v18)))]⟩ (Tt ∧ T2 ((((Eqc (sl 1 (csI .u8) x12)) ∧ (Eqc (sl 1 (csF .f32) x13)) ∧ (Eqc (sl 1 (csF .f32) v16)) ∧ Tt) ∧ MutOK Try.prog 19 [(.one (.mv (sl 1 (csI .u8) x12))), .one (.ro (sl 1 (csF .f32) x13)), .one (.ro (sl 1 (csF .f32) v16))] [.one (sl 1 (csI .u8) v18)]) ∧ Tt ∧ Tt)) [.no, .no, .no, .callM [(.one (.mv (sl 1 (csI .u8) x12))), .one (.ro (sl 1 (csF .f32) x13)), .one (.ro (sl 1 (csF .f32) v16))] [.one (sl 1 (csI .u8) v18)] [[.own 12]] none] [4, 8, 19, 20, 21] [11, 12] ⟨tr, tr, tr, ⟨⟨rfl, rfl, rfl, tr⟩, ok_impl_record K x12 x13 v16 v18 e19⟩, tr, tr⟩ ?_
      refine thenQ_normal ?_
      refine AW.rA ⟨[(4, (.v (.one (.arr 12)))), (5, (.v (.one (.lst 11 v16.length 1 (gl (csF .f32) v16))))), (19, (vc (sl 4 cs_Pose a0.Frames))), (20, (vc (.int .i64 (a0.Frames.length : Int)))), (21, (vc (.int .i64 x11)))], [(11, (.lst v16.length 1 (gl (csF .f32) v16))), (12, (.arr true v18.length 1 (gl (csI .u8) v18)))]⟩ (T2 Tt) [] [4, 5, 19, 20, 21] [11, 12] ⟨tr, tr, tr⟩ ?_
      refine blockQ_normal ?_
      refine thenQ_normal ?_
      refine AW.rA ⟨[(4, (.v (.one (.arr 12)))), (5, (.v (.one (.lst 11 v16.length 1 (gl (csF .f32) v16))))), (19, (vc (sl 4 cs_Pose a0.Frames))), (20, (vc (.int .i64 (a0.Frames.length : Int)))), (21, (vc (.int .i64 (IntKind.i64.wrap (x11 + (1 : Int))))))], [(11, (.lst v16.length 1 (gl (csF .f32) v16))), (12, (.arr true v18.length 1 (gl (csI .u8) v18)))]⟩ (T2 Tt) [] [4, 5, 19, 20, 21] [11, 12] ⟨tr, tr, tr⟩ ?_
      exact loopQ_normal (k, (IntKind.i64.wrap (x11 + (1 : Int))), v18, v16) h (Nat.lt_succ_self k) (Sub.trans (Sub.swap 2 12 _ (by kernel_rfl) (by kernel_rfl)) (Sub.trans (Sub.swap 3 11 _ (by kernel_rfl) (by kernel_rfl)) (Sub.keep [4, 5, 19, 20, 21] [2, 3] (by kernel_rfl) (by kernel_rfl))))
    · refine AW.cond_f rfl b14 ?_
      refine AW.exit ?_
      refine thenQ_exit ?_
      refine loopQ_exit ?_
      refine blockQ_exit ?_
      refine thenQ_normal ?_
      refine AW.seq ?_
      obtain ⟨c20, h⟩ := chk_some h
      refine AW.rA ⟨[(2, (vc (.str (strOf x12)))), (3, (vc (.bool true)))], []⟩ (Tt ∧ (bytesOb (strOf x12) x12.length (gl (csI .u8) x12)) ∧ T2 Tt) [.no, .str (strOf x12)] [2, 3] [] ⟨tr, strOf_ob c20, tr, tr, tr⟩ ?_
      refine thenQ_normal ?_
      refine AW.ret ?_
      replace h := some_eq h
      subst h
      exact ⟨.inr rfl, retOK_of [(.one (.c (.str (strOf x12)))), (.one (.c (.bool true)))] (by kernel_rfl) ⟨⟨rfl, tr⟩, ⟨rfl, tr⟩, tr⟩ (of_decide_eq_true (by kernel_rfl))⟩

/-! slices.Clone[[]float32,float32] -/
def slices_Clone_float32_float32 (_K : Nat) (a0 : (List F32)) : Option ((List F32)) :=
  chk ((([] : List F32).length + a0.length) * 4 ≤ 140737488355328) (some (([] : List F32) ++ a0))

theorem ok_slices_Clone_float32_float32 (K : Nat) (a0 : (List F32)) (o : ((List F32))) (h : slices_Clone_float32_float32 K a0 = some o) : CallOK Try.prog 42 [.one (sl 1 (csF .f32) a0)] [.one (sl 1 (csF .f32) o)] := by
  refine callOK_of_AW Try.func42 rfl (by kernel_rfl) (Nat.le_of_ble_eq_true (by kernel_rfl)) ?_
  intro w0
  unfold slices_Clone_float32_float32 at h
  refine AW.seq (AW.rA ⟨[(0, (vc (sl 1 (csF .f32) a0)))], []⟩ (Tt ∧ Tt) [] [0] [] ⟨tr, tr⟩ (thenQ_normal ?_))
  refine AW.seq ?_
  refine AW.seq ?_
  refine AW.nilA (d := 4) (n := a0.length) 1 [.no] [0] [] (s' := ⟨[(0, (vc (sl 1 (csF .f32) a0)))], []⟩) (ob := Tt ∧ Tt) (by kernel_rfl) ⟨tr, tr⟩ ?_
  intro b2 b1
  cases b2
  · refine thenQ_normal ?_
    refine AW.cond_f (b := false) rfl rfl ?_
    refine AW.skip ?_
    refine thenQ_normal ?_
    refine AW.seq ?_
    obtain ⟨c3, h⟩ := chk_some h
    refine AW.rA ⟨[(2, (.v (.one (.lst 2 (([] : List F32) ++ a0).length 1 (gl (csF .f32) (([] : List F32) ++ a0))))))], [(2, (.lst (([] : List F32) ++ a0).length 1 (gl (csF .f32) (([] : List F32) ++ a0))))]⟩ ((([] : List F32).length = 0 ∧ Tt) ∧ Tt ∧ ((([] : List F32) ++ a0).length = ([] : List F32).length + a0.length ∧ AppOb (([] : List F32).length) (a0.length) 1 (gl (csF .f32) ([] : List F32)) (gl (csF .f32) a0) (gl (csF .f32) (([] : List F32) ++ a0)) ∧ (∀ i j, i < a0.length → j < 1 → scalarC (gl (csF .f32) a0 i j)) ∧ (([] : List F32).length + a0.length) * 4 ≤ 140737488355328) ∧ Tt ∧ Tt) [.obj 1 ([] : List F32).length (gl (csF .f32) ([] : List F32)), .no, .obj 2 (([] : List F32) ++ a0).length (gl (csF .f32) (([] : List F32) ++ a0))] [2] [2] ⟨⟨rfl, tr⟩, tr, ⟨List.length_append, gl_append, gl_scalar scF _, c3⟩, tr, tr⟩ ?_
    refine thenQ_normal ?_
    refine AW.ret ?_
    replace h := some_eq h
    subst h
    exact ⟨.inr rfl, retOK_of [(.one (.lst 2 (([] : List F32) ++ a0).length 1 (gl (csF .f32) (([] : List F32) ++ a0))))] (by kernel_rfl) ⟨rfl, tr⟩ (of_decide_eq_true (by kernel_rfl))⟩
  · obtain rfl := List.eq_nil_of_length_eq_zero (b1 rfl)
    replace h : some ([] : (List F32)) = some o := by simpa [chk] using h
    refine thenQ_normal ?_
    refine AW.cond_t (b := true) rfl rfl ?_
    refine AW.seq (AW.rA ⟨[(2, (.v (.one .nils)))], []⟩ (Tt ∧ Tt) [] [2] [] ⟨tr, tr⟩ (thenQ_normal ?_))
    refine AW.ret ?_
    refine thenQ_ret ?_
    replace h := some_eq h
    subst h
    exact ⟨.inr rfl, retOK_of [(.one .nils)] (by kernel_rfl) ⟨rfl, tr⟩ (of_decide_eq_true (by kernel_rfl))⟩

/-! impl.next -/
def Zt4 (QE Q3 Q4 : Prop) : Prop := ((Q3 ∧ (Q4 ∧ (Tt ∧ Tt))) ∧ (Q4 ∧ (Q3 ∧ (Tt ∧ Tt))) ∧ QE)
theorem zt4 {QE Q3 Q4 : Prop} (qe : QE) (q3 : Q3) (q4 : Q4) : Zt4 QE Q3 Q4 := ⟨⟨q3, ⟨q4, ⟨tr, tr⟩⟩⟩, ⟨q4, ⟨q3, ⟨tr, tr⟩⟩⟩, qe⟩
def Zt5 (QE Q2 Q3 Q4 : Prop) : Prop := ((Q2 ∧ (Zt4 QE Q3 Q4)) ∧ (Q4 ∧ (Q2 ∧ (Q3 ∧ (Tt ∧ Tt)))) ∧ QE)
theorem zt5 {QE Q2 Q3 Q4 : Prop} (qe : QE) (q2 : Q2) (q3 : Q3) (q4 : Q4) : Zt5 QE Q2 Q3 Q4 := ⟨⟨q2, (zt4 qe q3 q4)⟩, ⟨q4, ⟨q2, ⟨q3, ⟨tr, tr⟩⟩⟩⟩, qe⟩
def Zt6 (QE Q1 Q2 Q3 Q4 : Prop) : Prop := ((Q1 ∧ (Zt5 QE Q2 Q3 Q4)) ∧ (Q4 ∧ (Q1 ∧ (Q2 ∧ (Q3 ∧ (Tt ∧ Tt))))) ∧ QE)
theorem zt6 {QE Q1 Q2 Q3 Q4 : Prop} (qe : QE) (q1 : Q1) (q2 : Q2) (q3 : Q3) (q4 : Q4) : Zt6 QE Q1 Q2 Q3 Q4 := ⟨⟨q1, (zt5 qe q2 q3 q4)⟩, ⟨q4, ⟨q1, ⟨q2, ⟨q3, ⟨tr, tr⟩⟩⟩⟩⟩, qe⟩
def Zt7 (Q0 Q1 Q2 Q3 : Prop) : Prop := (Q0 ∧ (Q1 ∧ (Q2 ∧ (Q3 ∧ (Tt ∧ Tt)))))
theorem zt7 {Q0 Q1 Q2 Q3 : Prop} (q0 : Q0) (q1 : Q1) (q2 : Q2) (q3 : Q3) : Zt7 Q0 Q1 Q2 Q3 := ⟨q0, ⟨q1, ⟨q2, ⟨q3, ⟨tr, tr⟩⟩⟩⟩⟩
def Zt8 (QE Q0 Q1 Q2 Q3 Q4 : Prop) : Prop := ((Q0 ∧ (Zt6 QE Q1 Q2 Q3 Q4)) ∧ (Q4 ∧ (Zt7 Q0 Q1 Q2 Q3)) ∧ QE)
theorem zt8 {QE Q0 Q1 Q2 Q3 Q4 : Prop} (qe : QE) (q0 : Q0) (q1 : Q1) (q2 : Q2) (q3 : Q3) (q4 : Q4) : Zt8 QE Q0 Q1 Q2 Q3 Q4 := ⟨⟨q0, (zt6 qe q1 q2 q3 q4)⟩, ⟨q4, (zt7 q0 q1 q2 q3)⟩, qe⟩
def impl_next_l1 (K : Nat) (a0 : ByteArray) (a1 : Int) (a2 : (List F32)) : Nat → Int → Int → (List F32) → Option ((List F32) × Int × Bool)
  | 0, _, _, _ => none
  | k + 1, x12, x13, x14 => ite2 ((decide (x13 < (IntKind.i64.wrap (bt a0 a1.toNat))))) (chk (0 ≤ x12 ∧ x12 < (a0.size : Int)) (ite2 ((decide ((IntKind.i64.wrap (bt a0 x12.toNat)) ≥ (x14.length : Int)))) (some (([] : (List F32)), (0 : Int), false)) (chk (0 ≤ (IntKind.i64.wrap (x12 + (1 : Int))) ∧ (IntKind.i64.wrap (x12 + (1 : Int))) < (a0.size : Int)) (chk (0 ≤ (IntKind.i64.wrap (x12 + (2 : Int))) ∧ (IntKind.i64.wrap (x12 + (2 : Int))) < (a0.size : Int)) (chk (0 ≤ (8 : Int)) (chk (0 ≤ (IntKind.i64.wrap (x12 + (3 : Int))) ∧ (IntKind.i64.wrap (x12 + (3 : Int))) < (a0.size : Int)) (chk (0 ≤ (16 : Int)) (chk (0 ≤ (IntKind.i64.wrap (x12 + (4 : Int))) ∧ (IntKind.i64.wrap (x12 + (4 : Int))) < (a0.size : Int)) (chk (0 ≤ (24 : Int)) ((math_Float32frombits K (bits .or .u32 (bits .or .u32 (bits .or .u32 (IntKind.u32.wrap (bt a0 (IntKind.i64.wrap (x12 + (1 : Int))).toNat)) (IntKind.u32.wrap ((IntKind.u32.wrap (bt a0 (IntKind.i64.wrap (x12 + (2 : Int))).toNat)) * 2 ^ (min (8 : Int).toNat (IntKind.bits .u32))))) (IntKind.u32.wrap ((IntKind.u32.wrap (bt a0 (IntKind.i64.wrap (x12 + (3 : Int))).toNat)) * 2 ^ (min (16 : Int).toNat (IntKind.bits .u32))))) (IntKind.u32.wrap ((IntKind.u32.wrap (bt a0 (IntKind.i64.wrap (x12 + (4 : Int))).toNat)) * 2 ^ (min (24 : Int).toNat (IntKind.bits .u32)))))).bind fun v25 => chk (0 ≤ (IntKind.i64.wrap (bt a0 x12.toNat)) ∧ (IntKind.i64.wrap (bt a0 x12.toNat)) < (x14.length : Int)) (impl_next_l1 K a0 a1 a2 k (IntKind.i64.wrap (x12 + (5 : Int))) (IntKind.i64.wrap (x13 + (1 : Int))) (x14.set ((IntKind.i64.wrap (bt a0 x12.toNat)).toNat) v25)))))))))))) (chk (0 ≤ (0 : Int) ∧ (0 : Int) ≤ a1 ∧ a1 ≤ (a0.size : Int)) ((impl_record K (bytesOf (a0.extract (0 : Int).toNat a1.toNat)) a2 x14).bind fun v29 => chk (∀ x ∈ v29, 0 ≤ x ∧ x < 256) (chk (0 ≤ (0 : Int) ∧ (0 : Int) ≤ (IntKind.i64.wrap (x12 + (2 : Int))) ∧ (IntKind.i64.wrap (x12 + (2 : Int))) ≤ (a0.size : Int)) (ite2 ((!((strOf v29).toList == (a0.extract (0 : Int).toNat (IntKind.i64.wrap (x12 + (2 : Int))).toNat).toList))) (some (([] : (List F32)), (0 : Int), false)) (some (x14, (IntKind.i64.wrap (x12 + (2 : Int))), true))))))

def impl_next (K : Nat) (a0 : ByteArray) (a1 : Int) (a2 : (List F32)) : Option ((List F32) × Int × Bool) :=
  (ite2 ((decide (a1 ≥ (a0.size : Int)))) (some true) (chk (0 ≤ a1 ∧ a1 < (a0.size : Int)) (some (decide ((IntKind.i64.wrap ((IntKind.i64.wrap ((IntKind.i64.wrap (a1 + (1 : Int))) + (IntKind.i64.wrap ((5 : Int) * (IntKind.i64.wrap (bt a0 a1.toNat)))))) + (2 : Int))) > (a0.size : Int)))))).bind fun j3 => ite2 (j3) (some (([] : (List F32)), (0 : Int), false)) ((slices_Clone_float32_float32 K a2).bind fun v6 => chk (0 ≤ a1 ∧ a1 < (a0.size : Int)) (impl_next_l1 K a0 a1 a2 K (IntKind.i64.wrap (a1 + (1 : Int))) (0 : Int) v6))

theorem ok_impl_next (K : Nat) (a0 : ByteArray) (a1 : Int) (a2 : (List F32)) (o : ((List F32) × Int × Bool)) (h : impl_next K a0 a1 a2 = some o) : CallOK Try.prog 25 [.one (.str a0), .one (.int .i64 a1), .one (sl 1 (csF .f32) a2)] [.one (sl 1 (csF .f32) o.1), .one (.int .i64 o.2.1), .one (.bool o.2.2)] := by
  refine callOK_of_AW Try.func25 rfl (by kernel_rfl) (Nat.le_of_ble_eq_true (by kernel_rfl)) ?_
  intro w0
  unfold impl_next at h
  refine AW.seq (AW.rA ⟨[(0, (vc (.str a0))), (1, (vc (.int .i64 a1))), (2, (vc (sl 1 (csF .f32) a2)))], []⟩ (Tt ∧ T2 Tt) [] [0, 1, 2] [] ⟨tr, tr, tr, tr⟩ (thenQ_normal ?_))
  refine AW.seq ?_
  refine AW.seq ?_
  obtain ⟨j3, e4, h⟩ := bind_some h
  refine AW.join1 (s2 := ⟨[(0, (vc (.str a0))), (1, (vc (.int .i64 a1))), (2, (vc (sl 1 (csF .f32) a2))), (29, (vc (.bool j3)))], []⟩) ?_ ?_
  · rcases ite2_cases e4 with ⟨b1, e4⟩ | ⟨b1, e4⟩
    · replace e4 := some_eq e4
      subst e4
      exact AW.rA ⟨[(0, (vc (.str a0))), (1, (vc (.int .i64 a1))), (2, (vc (sl 1 (csF .f32) a2))), (29, (vc (.bool true)))], []⟩ (T4 ((Tt ∧ (decide (a1 ≥ (a0.size : Int))) = true) ∧ Tt ∧ T4 (T4 (T4 Tt)))) [.no, .no, .no, .no, .dec true] [0, 1, 2, 29] [] ⟨tr, tr, tr, tr, ⟨tr, b1⟩, tr, tr, tr, tr, tr, tr, tr, tr, tr, tr, tr, tr, tr, tr⟩ ⟨rfl, rfl⟩
    · obtain ⟨c2, e4⟩ := chk_some e4
      replace e4 := some_eq e4
      subst e4
      exact AW.rA ⟨[(0, (vc (.str a0))), (1, (vc (.int .i64 a1))), (2, (vc (sl 1 (csF .f32) a2))), (29, (vc (.bool (decide ((IntKind.i64.wrap ((IntKind.i64.wrap ((IntKind.i64.wrap (a1 + (1 : Int))) + (IntKind.i64.wrap ((5 : Int) * (IntKind.i64.wrap (bt a0 a1.toNat)))))) + (2 : Int))) > (a0.size : Int))))))], []⟩ (T4 ((Tt ∧ (decide (a1 ≥ (a0.size : Int))) = false) ∧ T4 ((0 ≤ a1 ∧ a1 < (a0.size : Int)) ∧ T4 (T4 Tt)))) [.no, .no, .no, .no, .dec false] [0, 1, 2, 29] [] ⟨tr, tr, tr, tr, ⟨tr, b1⟩, tr, tr, tr, tr, c2, tr, tr, tr, tr, tr, tr, tr, tr, tr⟩ ⟨rfl, rfl⟩
  refine thenQ_normal ?_
  rcases ite2_cases h with ⟨b5, h⟩ | ⟨b5, h⟩
  · refine AW.cond_t rfl b5 ?_
    refine AW.seq (AW.rA ⟨[(6, (.v (.one .nils))), (7, (vc (.int .i64 (0 : Int)))), (8, (vc (.bool false)))], []⟩ (Tt ∧ T2 Tt) [] [6, 7, 8] [] ⟨tr, tr, tr, tr⟩ (thenQ_normal ?_))
    refine AW.ret ?_
    refine thenQ_ret ?_
    replace h := some_eq h
    subst h
    exact ⟨.inr rfl, retOK_of [(.one .nils), (.one (.c (.int .i64 (0 : Int)))), (.one (.c (.bool false)))] (by kernel_rfl) ⟨rfl, ⟨rfl, tr⟩, ⟨rfl, tr⟩, tr⟩ (of_decide_eq_true (by kernel_rfl))⟩
  · refine AW.cond_f rfl b5 ?_
    refine AW.skip ?_
    refine thenQ_normal ?_
    refine AW.seq ?_
    obtain ⟨v6, e7, h⟩ := bind_some h
    refine AW.rA ⟨[(0, (vc (.str a0))), (1, (vc (.int .i64 a1))), (2, (vc (sl 1 (csF .f32) a2))), (9, (.v (.one (.arr 1))))], [(1, (.arr true v6.length 1 (gl (csF .f32) v6)))]⟩ (Tt ∧ (((Eqc (sl 1 (csF .f32) a2)) ∧ Tt) ∧ CallOK Try.prog 42 [.one (sl 1 (csF .f32) a2)] [.one (sl 1 (csF .f32) v6)]) ∧ Tt ∧ Tt) [.no, .call [.one (sl 1 (csF .f32) a2)] [.one (sl 1 (csF .f32) v6)] [[.own 1]]] [0, 1, 2, 9] [1] ⟨tr, ⟨⟨rfl, tr⟩, ok_slices_Clone_float32_float32 K a2 v6 e7⟩, tr, tr⟩ ?_
    refine thenQ_normal ?_
    refine AW.seq (AW.rA ⟨[(0, (vc (.str a0))), (1, (vc (.int .i64 a1))), (2, (vc (sl 1 (csF .f32) a2))), (9, (.v (.one (.arr 1)))), (10, (vc (.int .i64 (IntKind.i64.wrap (a1 + (1 : Int))))))], [(1, (.arr true v6.length 1 (gl (csF .f32) v6)))]⟩ (Tt ∧ T2 Tt) [] [0, 1, 2, 9, 10] [1] ⟨tr, tr, tr, tr⟩ (thenQ_normal ?_))
    refine AW.seq ?_
    refine AW.seq ?_
    obtain ⟨c8, h⟩ := chk_some h
    refine AW.rA ⟨[(0, (vc (.str a0))), (1, (vc (.int .i64 a1))), (2, (vc (sl 1 (csF .f32) a2))), (9, (.v (.one (.arr 1)))), (10, (vc (.int .i64 (IntKind.i64.wrap (a1 + (1 : Int)))))), (37, (vc (.int .i64 (IntKind.i64.wrap (bt a0 a1.toNat))))), (38, (vc (.int .i64 (0 : Int))))], [(1, (.arr true v6.length 1 (gl (csF .f32) v6)))]⟩ (T2 ((0 ≤ a1 ∧ a1 < (a0.size : Int)) ∧ T2 Tt)) [] [0, 1, 2, 9, 10, 37, 38] [1] ⟨tr, tr, c8, tr, tr, tr⟩ ?_
    refine thenQ_normal ?_
    refine AW.block ?_
    refine AW.loopQ (σ := Nat × Int × Int × (List F32)) (fun p => ⟨[(0, (vc (.str a0))), (1, (vc (.int .i64 a1))), (2, (vc (sl 1 (csF .f32) a2))), (9, (.v (.one (.arr 1)))), (10, (vc (.int .i64 p.2.1))), (37, (vc (.int .i64 (IntKind.i64.wrap (bt a0 a1.toNat))))), (38, (vc (.int .i64 p.2.2.1)))], [(1, (.arr true p.2.2.2.length 1 (gl (csF .f32) p.2.2.2)))]⟩) (fun p => impl_next_l1 K a0 a1 a2 p.1 p.2.1 p.2.2.1 p.2.2.2 = some o) (fun p => p.1) (K, (IntKind.i64.wrap (a1 + (1 : Int))), (0 : Int), v6) h ?_
    clear h
    rintro ⟨k, x12, x13, x14⟩ h
    replace h : impl_next_l1 K a0 a1 a2 k x12 x13 x14 = some o := h
    show AW _ _ (⟨[(0, (vc (.str a0))), (1, (vc (.int .i64 a1))), (2, (vc (sl 1 (csF .f32) a2))), (9, (.v (.one (.arr 1)))), (10, (vc (.int .i64 x12))), (37, (vc (.int .i64 (IntKind.i64.wrap (bt a0 a1.toNat))))), (38, (vc (.int .i64 x13)))], [(1, (.arr true x14.length 1 (gl (csF .f32) x14)))]⟩ : St) _
    obtain _ | k := k
    · rw [impl_next_l1] at h; cases h
    rw [impl_next_l1] at h
    refine AW.seq (AW.rA ⟨[(0, (vc (.str a0))), (1, (vc (.int .i64 a1))), (2, (vc (sl 1 (csF .f32) a2))), (9, (.v (.one (.arr 1)))), (10, (vc (.int .i64 x12))), (37, (vc (.int .i64 (IntKind.i64.wrap (bt a0 a1.toNat))))), (38, (vc (.int .i64 x13))), (39, (vc (.bool (decide (x13 < (IntKind.i64.wrap (bt a0 a1.toNat)))))))], [(1, (.arr true x14.length 1 (gl (csF .f32) x14)))]⟩ (Tt ∧ Tt) [] [0, 1, 2, 9, 10, 37, 38, 39] [1] ⟨tr, tr⟩ (thenQ_normal ?_))
    refine AW.seq ?_
    rcases ite2_cases h with ⟨b15, h⟩ | ⟨b15, h⟩
    · refine AW.cond_t rfl b15 ?_
      refine AW.skip ?_
      refine thenQ_normal ?_
      refine AW.seq ?_
      refine AW.block ?_
      refine AW.seq ?_
      obtain ⟨c16, h⟩ := chk_some h
      refine AW.rA ⟨[(0, (vc (.str a0))), (1, (vc (.int .i64 a1))), (2, (vc (sl 1 (csF .f32) a2))), (9, (.v (.one (.arr 1)))), (10, (vc (.int .i64 x12))), (11, (vc (.int .i64 (IntKind.i64.wrap (bt a0 x12.toNat))))), (37, (vc (.int .i64 (IntKind.i64.wrap (bt a0 a1.toNat))))), (38, (vc (.int .i64 x13)))], [(1, (.arr true x14.length 1 (gl (csF .f32) x14)))]⟩ (T2 ((0 ≤ x12 ∧ x12 < (a0.size : Int)) ∧ T2 Tt)) [] [0, 1, 2, 9, 10, 11, 37, 38] [1] ⟨tr, tr, c16, tr, tr, tr⟩ ?_
      refine thenQ_normal ?_
      refine AW.seq ?_
      refine AW.seq (AW.rA ⟨[(0, (vc (.str a0))), (1, (vc (.int .i64 a1))), (2, (vc (sl 1 (csF .f32) a2))), (9, (.v (.one (.arr 1)))), (10, (vc (.int .i64 x12))), (11, (vc (.int .i64 (IntKind.i64.wrap (bt a0 x12.toNat))))), (37, (vc (.int .i64 (IntKind.i64.wrap (bt a0 a1.toNat))))), (38, (vc (.int .i64 x13))), (47, (vc (.bool (decide ((IntKind.i64.wrap (bt a0 x12.toNat)) ≥ (x14.length : Int))))))], [(1, (.arr true x14.length 1 (gl (csF .f32) x14)))]⟩ (T4 Tt) [] [0, 1, 2, 9, 10, 11, 37, 38, 47] [1] ⟨tr, tr, tr, tr, tr⟩ (thenQ_normal ?_))
      rcases ite2_cases h with ⟨b17, h⟩ | ⟨b17, h⟩
      · refine AW.cond_t rfl b17 ?_
        refine AW.seq (AW.rA ⟨[(6, (.v (.one .nils))), (7, (vc (.int .i64 (0 : Int)))), (8, (vc (.bool false)))], []⟩ (Tt ∧ T2 Tt) [] [6, 7, 8] [] ⟨tr, tr, tr, tr⟩ (thenQ_normal ?_))
        refine AW.ret ?_
        refine thenQ_ret ?_
        refine blockQ_ret ?_
        refine thenQ_ret ?_
        refine loopQ_ret ?_
        refine blockQ_ret ?_
        refine thenQ_ret ?_
        replace h := some_eq h
        subst h
        exact ⟨.inr rfl, retOK_of [(.one .nils), (.one (.c (.int .i64 (0 : Int)))), (.one (.c (.bool false)))] (by kernel_rfl) ⟨rfl, ⟨rfl, tr⟩, ⟨rfl, tr⟩, tr⟩ (of_decide_eq_true (by kernel_rfl))⟩
      · refine AW.cond_f rfl b17 ?_
        refine AW.skip ?_
        refine thenQ_normal ?_
        refine AW.seq ?_
        obtain ⟨c18, h⟩ := chk_some h
        obtain ⟨c19, h⟩ := chk_some h
        obtain ⟨c20, h⟩ := chk_some h
        obtain ⟨c21, h⟩ := chk_some h
        obtain ⟨c22, h⟩ := chk_some h
        obtain ⟨c23, h⟩ := chk_some h
        obtain ⟨c24, h⟩ := chk_some h
        obtain ⟨v25, e26, h⟩ := bind_some h
        obtain ⟨c27, h⟩ := chk_some h
        refine AW.dA ⟨[(0, (vc (.str a0))), (1, (vc (.int .i64 a1))), (2, (vc (sl 1 (csF .f32) a2))), (9, (.v (.one (.arr 1)))), (10, (vc (.int .i64 x12))), (37, (vc (.int .i64 (IntKind.i64.wrap (bt a0 a1.toNat))))), (38, (vc (.int .i64 x13)))], [(1, (.arr true (x14.set ((IntKind.i64.wrap (bt a0 x12.toNat)).toNat) v25).length 1 (gl (csF .f32) (x14.set ((IntKind.i64.wrap (bt a0 x12.toNat)).toNat) v25))))]⟩ ((Tt ∧ T4 ((0 ≤ (IntKind.i64.wrap (x12 + (1 : Int))) ∧ (IntKind.i64.wrap (x12 + (1 : Int))) < (a0.size : Int)) ∧ T4 ((0 ≤ (IntKind.i64.wrap (x12 + (2 : Int))) ∧ (IntKind.i64.wrap (x12 + (2 : Int))) < (a0.size : Int)) ∧ Tt ∧ (0 ≤ (8 : Int)) ∧ T4 ((0 ≤ (IntKind.i64.wrap (x12 + (3 : Int))) ∧ (IntKind.i64.wrap (x12 + (3 : Int))) < (a0.size : Int)) ∧ Tt ∧ (0 ≤ (16 : Int)) ∧ T4 ((0 ≤ (IntKind.i64.wrap (x12 + (4 : Int))) ∧ (IntKind.i64.wrap (x12 + (4 : Int))) < (a0.size : Int)) ∧ Tt ∧ (0 ≤ (24 : Int)) ∧ Tt ∧ (((((.int .u32 (bits .or .u32 (bits .or .u32 (bits .or .u32 (IntKind.u32.wrap (bt a0 (IntKind.i64.wrap (x12 + (1 : Int))).toNat)) (IntKind.u32.wrap ((IntKind.u32.wrap (bt a0 (IntKind.i64.wrap (x12 + (2 : Int))).toNat)) * 2 ^ (min (8 : Int).toNat (IntKind.bits .u32))))) (IntKind.u32.wrap ((IntKind.u32.wrap (bt a0 (IntKind.i64.wrap (x12 + (3 : Int))).toNat)) * 2 ^ (min (16 : Int).toNat (IntKind.bits .u32))))) (IntKind.u32.wrap ((IntKind.u32.wrap (bt a0 (IntKind.i64.wrap (x12 + (4 : Int))).toNat)) * 2 ^ (min (24 : Int).toNat (IntKind.bits .u32)))))) : C) = (.int .u32 (bits .or .u32 (bits .or .u32 (bits .or .u32 (IntKind.u32.wrap (bt a0 (IntKind.i64.wrap (x12 + (1 : Int))).toNat)) (IntKind.u32.wrap ((IntKind.u32.wrap (bt a0 (IntKind.i64.wrap (x12 + (2 : Int))).toNat)) * 2 ^ (min (8 : Int).toNat (IntKind.bits .u32))))) (IntKind.u32.wrap ((IntKind.u32.wrap (bt a0 (IntKind.i64.wrap (x12 + (3 : Int))).toNat)) * 2 ^ (min (16 : Int).toNat (IntKind.bits .u32))))) (IntKind.u32.wrap ((IntKind.u32.wrap (bt a0 (IntKind.i64.wrap (x12 + (4 : Int))).toNat)) * 2 ^ (min (24 : Int).toNat (IntKind.bits .u32))))))) ∧ Tt) ∧ CallOK Try.prog 43 [.one (.int .u32 (bits .or .u32 (bits .or .u32 (bits .or .u32 (IntKind.u32.wrap (bt a0 (IntKind.i64.wrap (x12 + (1 : Int))).toNat)) (IntKind.u32.wrap ((IntKind.u32.wrap (bt a0 (IntKind.i64.wrap (x12 + (2 : Int))).toNat)) * 2 ^ (min (8 : Int).toNat (IntKind.bits .u32))))) (IntKind.u32.wrap ((IntKind.u32.wrap (bt a0 (IntKind.i64.wrap (x12 + (3 : Int))).toNat)) * 2 ^ (min (16 : Int).toNat (IntKind.bits .u32))))) (IntKind.u32.wrap ((IntKind.u32.wrap (bt a0 (IntKind.i64.wrap (x12 + (4 : Int))).toNat)) * 2 ^ (min (24 : Int).toNat (IntKind.bits .u32))))))] [.one (.flt .f32 v25.bits)]) ∧ (0 ≤ (IntKind.i64.wrap (bt a0 x12.toNat)) ∧ (IntKind.i64.wrap (bt a0 x12.toNat)) < (x14.length : Int)) ∧ Tt))))) ∧ (((x14.set ((IntKind.i64.wrap (bt a0 x12.toNat)).toNat) v25).length = x14.length ∧ SetOb x14.length 1 ((IntKind.i64.wrap (bt a0 x12.toNat)).toNat) 0 1 (gl (csF .f32) x14) (gl (csF .f32) (x14.set ((IntKind.i64.wrap (bt a0 x12.toNat)).toNat) v25)) ∧ ((List.range 1).map fun j => ((csF .f32) v25).getD (0 + j) .nilptr) = ((List.range 1).map fun j => gl (csF .f32) (x14.set ((IntKind.i64.wrap (bt a0 x12.toNat)).toNat) v25) ((IntKind.i64.wrap (bt a0 x12.toNat)).toNat) (0 + j)) ∧ ((((.flt .f32 v25.bits) : C) = (.flt .f32 v25.bits) ∧ Tt) ∧ Tt) ∧ (true = true → ∀ j, j < 1 → isSeq (gl (csF .f32) x14 ((IntKind.i64.wrap (bt a0 x12.toNat)).toNat) (0 + j)) = false ∧ isSeq (gl (csF .f32) (x14.set ((IntKind.i64.wrap (bt a0 x12.toNat)).toNat) v25) ((IntKind.i64.wrap (bt a0 x12.toNat)).toNat) (0 + j)) = false)) ∧ Tt)) 30 [.no, .no, .no, .no, .no, .no, .no, .no, .no, .no, .no, .no, .no, .no, .no, .no, .no, .no, .no, .no, .no, .no, .no, .no, .no, .no, .no, .no, .call [.one (.int .u32 (bits .or .u32 (bits .or .u32 (bits .or .u32 (IntKind.u32.wrap (bt a0 (IntKind.i64.wrap (x12 + (1 : Int))).toNat)) (IntKind.u32.wrap ((IntKind.u32.wrap (bt a0 (IntKind.i64.wrap (x12 + (2 : Int))).toNat)) * 2 ^ (min (8 : Int).toNat (IntKind.bits .u32))))) (IntKind.u32.wrap ((IntKind.u32.wrap (bt a0 (IntKind.i64.wrap (x12 + (3 : Int))).toNat)) * 2 ^ (min (16 : Int).toNat (IntKind.bits .u32))))) (IntKind.u32.wrap ((IntKind.u32.wrap (bt a0 (IntKind.i64.wrap (x12 + (4 : Int))).toNat)) * 2 ^ (min (24 : Int).toNat (IntKind.bits .u32))))))] [.one (.flt .f32 v25.bits)] [[.view]], .no, .set (x14.set ((IntKind.i64.wrap (bt a0 x12.toNat)).toNat) v25).length (gl (csF .f32) (x14.set ((IntKind.i64.wrap (bt a0 x12.toNat)).toNat) v25)) ((List.range 1).map fun j => ((csF .f32) v25).getD (0 + j) .nilptr)] [0, 1, 2, 9, 10, 37, 38] [1] ⟨⟨tr, tr, tr, tr, tr, c18, tr, tr, tr, tr, c19, tr, c20, tr, tr, tr, tr, c21, tr, c22, tr, tr, tr, tr, c23, tr, c24, tr, ⟨⟨rfl, tr⟩, ok_math_Float32frombits K (bits .or .u32 (bits .or .u32 (bits .or .u32 (IntKind.u32.wrap (bt a0 (IntKind.i64.wrap (x12 + (1 : Int))).toNat)) (IntKind.u32.wrap ((IntKind.u32.wrap (bt a0 (IntKind.i64.wrap (x12 + (2 : Int))).toNat)) * 2 ^ (min (8 : Int).toNat (IntKind.bits .u32))))) (IntKind.u32.wrap ((IntKind.u32.wrap (bt a0 (IntKind.i64.wrap (x12 + (3 : Int))).toNat)) * 2 ^ (min (16 : Int).toNat (IntKind.bits .u32))))) (IntKind.u32.wrap ((IntKind.u32.wrap (bt a0 (IntKind.i64.wrap (x12 + (4 : Int))).toNat)) * 2 ^ (min (24 : Int).toNat (IntKind.bits .u32))))) v25 e26⟩, c27, tr⟩, ⟨⟨List.length_set, gl_set, (gl_atp (lt_of_bound c27)).symm, ⟨⟨rfl, tr⟩, tr⟩, (fun _ j hj => match j, hj with | 0, _ => ⟨rfl, rfl⟩)⟩, tr⟩⟩ ?_
        refine thenQ_normal ?_
        refine AW.rA ⟨[(0, (vc (.str a0))), (1, (vc (.int .i64 a1))), (2, (vc (sl 1 (csF .f32) a2))), (9, (.v (.one (.arr 1)))), (10, (vc (.int .i64 (IntKind.i64.wrap (x12 + (5 : Int)))))), (37, (vc (.int .i64 (IntKind.i64.wrap (bt a0 a1.toNat))))), (38, (vc (.int .i64 x13)))], [(1, (.arr true (x14.set ((IntKind.i64.wrap (bt a0 x12.toNat)).toNat) v25).length 1 (gl (csF .f32) (x14.set ((IntKind.i64.wrap (bt a0 x12.toNat)).toNat) v25))))]⟩ (Tt ∧ T2 Tt) [] [0, 1, 2, 9, 10, 37, 38] [1] ⟨tr, tr, tr, tr⟩ ?_
        refine blockQ_normal ?_
        refine thenQ_normal ?_
        refine AW.rA ⟨[(0, (vc (.str a0))), (1, (vc (.int .i64 a1))), (2, (vc (sl 1 (csF .f32) a2))), (9, (.v (.one (.arr 1)))), (10, (vc (.int .i64 (IntKind.i64.wrap (x12 + (5 : Int)))))), (37, (vc (.int .i64 (IntKind.i64.wrap (bt a0 a1.toNat))))), (38, (vc (.int .i64 (IntKind.i64.wrap (x13 + (1 : Int))))))], [(1, (.arr true (x14.set ((IntKind.i64.wrap (bt a0 x12.toNat)).toNat) v25).length 1 (gl (csF .f32) (x14.set ((IntKind.i64.wrap (bt a0 x12.toNat)).toNat) v25))))]⟩ (T2 Tt) [] [0, 1, 2, 9, 10, 37, 38] [1] ⟨tr, tr, tr⟩ ?_
        exact loopQ_normal (k, (IntKind.i64.wrap (x12 + (5 : Int))), (IntKind.i64.wrap (x13 + (1 : Int))), (x14.set ((IntKind.i64.wrap (bt a0 x12.toNat)).toNat) v25)) h (Nat.lt_succ_self k) (Sub.keep [0, 1, 2, 9, 10, 37, 38] [1] (by kernel_rfl) (by kernel_rfl))
    · refine AW.cond_f rfl b15 ?_
      refine AW.exit ?_
      refine thenQ_exit ?_
      refine loopQ_exit ?_
      refine blockQ_exit ?_
      refine thenQ_normal ?_
      refine AW.seq (AW.rA ⟨[(0, (vc (.str a0))), (1, (vc (.int .i64 a1))), (2, (vc (sl 1 (csF .f32) a2))), (9, (.v (.one (.arr 1)))), (10, (vc (.int .i64 (IntKind.i64.wrap (x12 + (2 : Int))))))], [(1, (.arr true x14.length 1 (gl (csF .f32) x14)))]⟩ (Tt ∧ T2 Tt) [] [0, 1, 2, 9, 10] [1] ⟨tr, tr, tr, tr⟩ (thenQ_normal ?_))
      refine AW.seq ?_
      refine AW.seq ?_
      obtain ⟨c28, h⟩ := chk_some h
      obtain ⟨v29, e30, h⟩ := bind_some h
      obtain ⟨c31, h⟩ := chk_some h
      obtain ⟨c32, h⟩ := chk_some h
      refine AW.firstA (by kernel_rfl) [0, 1, 4, 5, 8, 9] [.no, .no, .no, .objD 2 (bytesOf (a0.extract (0 : Int).toNat a1.toNat)).length (gl (csI .u8) (bytesOf (a0.extract (0 : Int).toNat a1.toNat))), .no, .no, .callM [(.one (.mv (sl 1 (csI .u8) (bytesOf (a0.extract (0 : Int).toNat a1.toNat))))), .one (.ro (sl 1 (csF .f32) a2)), .one (.ro (sl 1 (csF .f32) x14))] [.one (sl 1 (csI .u8) v29)] [[.lst 3]] none, .str (strOf v29)] [9, 10, 94] [1] (s' := ⟨[(9, (.v (.one (.arr 1)))), (10, (vc (.int .i64 (IntKind.i64.wrap (x12 + (2 : Int)))))), (94, (vc (.bool (!((strOf v29).toList == (a0.extract (0 : Int).toNat (IntKind.i64.wrap (x12 + (2 : Int))).toNat).toList)))))], [(1, (.arr true x14.length 1 (gl (csF .f32) x14)))]⟩) (ob := (Zt8 ((⟨[(9, (.v (.one (.arr 1)))), (10, (vc (.int .i64 (IntKind.i64.wrap (x12 + (2 : Int)))))), (94, (vc (.bool (!((strOf v29).toList == (a0.extract (0 : Int).toNat (IntKind.i64.wrap (x12 + (2 : Int))).toNat).toList)))))], [(1, (.arr true x14.length 1 (gl (csF .f32) x14)))]⟩ : St) = ⟨[(9, (.v (.one (.arr 1)))), (10, (vc (.int .i64 (IntKind.i64.wrap (x12 + (2 : Int)))))), (94, (vc (.bool (!((strOf v29).toList == (a0.extract (0 : Int).toNat (IntKind.i64.wrap (x12 + (2 : Int))).toNat).toList)))))], [(1, (.arr true x14.length 1 (gl (csF .f32) x14)))]⟩) ((0 ≤ (0 : Int) ∧ (0 : Int) ≤ a1 ∧ a1 ≤ (a0.size : Int))) ((bytesOb (a0.extract (0 : Int).toNat a1.toNat) (bytesOf (a0.extract (0 : Int).toNat a1.toNat)).length (gl (csI .u8) (bytesOf (a0.extract (0 : Int).toNat a1.toNat))))) ((((Eqc (sl 1 (csI .u8) (bytesOf (a0.extract (0 : Int).toNat a1.toNat)))) ∧ (Eqc (sl 1 (csF .f32) a2)) ∧ (Eqc (sl 1 (csF .f32) x14)) ∧ Tt) ∧ MutOK Try.prog 19 [(.one (.mv (sl 1 (csI .u8) (bytesOf (a0.extract (0 : Int).toNat a1.toNat))))), .one (.ro (sl 1 (csF .f32) a2)), .one (.ro (sl 1 (csF .f32) x14))] [.one (sl 1 (csI .u8) v29)])) ((bytesOb (strOf v29) v29.length (gl (csI .u8) v29))) ((0 ≤ (0 : Int) ∧ (0 : Int) ≤ (IntKind.i64.wrap (x12 + (2 : Int))) ∧ (IntKind.i64.wrap (x12 + (2 : Int))) ≤ (a0.size : Int))))) (by kernel_rfl) (zt8 rfl (c28) (bytesOf_ob _) ⟨⟨rfl, rfl, rfl, tr⟩, ok_impl_record K (bytesOf (a0.extract (0 : Int).toNat a1.toNat)) a2 x14 v29 e30⟩ (strOf_ob c31) (c32)) ?_
      refine thenQ_normal ?_
      rcases ite2_cases h with ⟨b33, h⟩ | ⟨b33, h⟩
      · refine AW.cond_t rfl b33 ?_
        refine AW.seq (AW.rA ⟨[(6, (.v (.one .nils))), (7, (vc (.int .i64 (0 : Int)))), (8, (vc (.bool false)))], []⟩ (Tt ∧ T2 Tt) [] [6, 7, 8] [] ⟨tr, tr, tr, tr⟩ (thenQ_normal ?_))
        refine AW.ret ?_
        refine thenQ_ret ?_
        replace h := some_eq h
        subst h
        exact ⟨.inr rfl, retOK_of [(.one .nils), (.one (.c (.int .i64 (0 : Int)))), (.one (.c (.bool false)))] (by kernel_rfl) ⟨rfl, ⟨rfl, tr⟩, ⟨rfl, tr⟩, tr⟩ (of_decide_eq_true (by kernel_rfl))⟩
      · refine AW.cond_f rfl b33 ?_
        refine AW.skip ?_
        refine thenQ_normal ?_
        refine AW.seq (AW.rA ⟨[(6, (.v (.one (.arr 1)))), (7, (vc (.int .i64 (IntKind.i64.wrap (x12 + (2 : Int)))))), (8, (vc (.bool true)))], [(1, (.arr true x14.length 1 (gl (csF .f32) x14)))]⟩ (Tt ∧ T4 Tt) [] [6, 7, 8] [1] ⟨tr, tr, tr, tr, tr, tr⟩ (thenQ_normal ?_))
        refine AW.ret ?_
        replace h := some_eq h
        subst h
        exact ⟨.inr rfl, retOK_of [(.one (.arr 1)), (.one (.c (.int .i64 (IntKind.i64.wrap (x12 + (2 : Int)))))), (.one (.c (.bool true)))] (by kernel_rfl) ⟨rfl, ⟨rfl, tr⟩, ⟨rfl, tr⟩, tr⟩ (of_decide_eq_true (by kernel_rfl))⟩

/-! impl.PoseOfNumbers -/
def impl_PoseOfNumbers_l1 (K : Nat) (a0 : (List F32)) : Nat → Int → (List Turn) → Option (Pose × Bool)
  | 0, _, _ => none
  | k + 1, x12, x13 => ite2 ((decide (x12 < (a0.length : Int)))) (chk (0 ≤ x12 ∧ x12 < (a0.length : Int)) (chk (0 ≤ (IntKind.i64.wrap (x12 + (1 : Int))) ∧ (IntKind.i64.wrap (x12 + (1 : Int))) < (a0.length : Int)) (chk (0 ≤ (IntKind.i64.wrap (x12 + (2 : Int))) ∧ (IntKind.i64.wrap (x12 + (2 : Int))) < (a0.length : Int)) (chk (0 ≤ (IntKind.i64.wrap (x12 + (3 : Int))) ∧ (IntKind.i64.wrap (x12 + (3 : Int))) < (a0.length : Int)) (chk ((x13.length + ([(Turn.mk (a0.getD x12.toNat default) (a0.getD ((IntKind.i64.wrap (x12 + (1 : Int))).toNat) default) (a0.getD ((IntKind.i64.wrap (x12 + (2 : Int))).toNat) default) (a0.getD ((IntKind.i64.wrap (x12 + (3 : Int))).toNat) default))]).length) * 16 ≤ 140737488355328) (impl_PoseOfNumbers_l1 K a0 k (IntKind.i64.wrap (x12 + (4 : Int))) (x13 ++ ([(Turn.mk (a0.getD x12.toNat default) (a0.getD ((IntKind.i64.wrap (x12 + (1 : Int))).toNat) default) (a0.getD ((IntKind.i64.wrap (x12 + (2 : Int))).toNat) default) (a0.getD ((IntKind.i64.wrap (x12 + (3 : Int))).toNat) default))])))))))) (some ((Pose.mk (Vector.mk (a0.getD ((0 : Int).toNat) default) (a0.getD ((1 : Int).toNat) default) (a0.getD ((2 : Int).toNat) default)) x13), true))

def impl_PoseOfNumbers (K : Nat) (a0 : (List F32)) : Option (Pose × Bool) :=
  (ite2 ((decide ((a0.length : Int) < (7 : Int)))) (some true) (chk ((4 : Int) ≠ 0) (ite2 ((((IntKind.i64.wrap ((a0.length : Int) - (3 : Int))).tmod (4 : Int)) != (0 : Int))) (some true) (some (decide ((IntKind.i64.wrap ((IntKind.i64.wrap ((a0.length : Int) - (3 : Int))).tdiv (4 : Int))) > (12 : Int))))))).bind fun j4 => ite2 (j4) (some ((Pose.mk (Vector.mk (default : F32) (default : F32) (default : F32)) ([] : (List Turn))), false)) (chk (0 ≤ (0 : Int) ∧ (0 : Int) < (a0.length : Int)) (chk (0 ≤ (1 : Int) ∧ (1 : Int) < (a0.length : Int)) (chk (0 ≤ (2 : Int) ∧ (2 : Int) < (a0.length : Int)) (impl_PoseOfNumbers_l1 K a0 K (3 : Int) ([] : (List Turn))))))

theorem ok_impl_PoseOfNumbers (K : Nat) (a0 : (List F32)) (o : (Pose × Bool)) (h : impl_PoseOfNumbers K a0 = some o) : CallOK Try.prog 26 [.one (sl 1 (csF .f32) a0)] [.agg (cs_Pose o.1), .one (.bool o.2)] := by
  refine callOK_of_AW Try.func26 rfl (by kernel_rfl) (Nat.le_of_ble_eq_true (by kernel_rfl)) ?_
  intro w0
  unfold impl_PoseOfNumbers at h
  refine AW.seq (AW.rA ⟨[(0, (vc (sl 1 (csF .f32) a0))), (2, (vp 1 0))], [(1, (.box [(.c (.flt .f32 (default : F32).bits)), (.c (.flt .f32 (default : F32).bits)), (.c (.flt .f32 (default : F32).bits)), .nils]))]⟩ (T2 Tt) [.box 1] [0, 2] [1] ⟨tr, tr, tr⟩ (thenQ_normal ?_))
  refine AW.seq (AW.rA ⟨[(0, (vc (sl 1 (csF .f32) a0))), (2, (vp 1 0)), (4, (vc (.int .i64 (a0.length : Int))))], [(1, (.box [(.c (.flt .f32 (default : F32).bits)), (.c (.flt .f32 (default : F32).bits)), (.c (.flt .f32 (default : F32).bits)), .nils]))]⟩ (Tt ∧ T2 Tt) [] [0, 2, 4] [1] ⟨tr, tr, tr, tr⟩ (thenQ_normal ?_))
  refine AW.seq ?_
  refine AW.seq ?_
  obtain ⟨j4, e5, h⟩ := bind_some h
  refine AW.join1 (s2 := ⟨[(0, (vc (sl 1 (csF .f32) a0))), (2, (vp 1 0)), (4, (vc (.int .i64 (a0.length : Int)))), (22, (vc (.bool j4)))], [(1, (.box [(.c (.flt .f32 (default : F32).bits)), (.c (.flt .f32 (default : F32).bits)), (.c (.flt .f32 (default : F32).bits)), .nils]))]⟩) ?_ ?_
  · rcases ite2_cases e5 with ⟨b1, e5⟩ | ⟨b1, e5⟩
    · replace e5 := some_eq e5
      subst e5
      exact AW.rA ⟨[(0, (vc (sl 1 (csF .f32) a0))), (2, (vp 1 0)), (4, (vc (.int .i64 (a0.length : Int)))), (22, (vc (.bool true)))], [(1, (.box [(.c (.flt .f32 (default : F32).bits)), (.c (.flt .f32 (default : F32).bits)), (.c (.flt .f32 (default : F32).bits)), .nils]))]⟩ (T2 ((Tt ∧ (decide ((a0.length : Int) < (7 : Int))) = true) ∧ Tt ∧ T2 (T4 (T4 Tt)))) [.no, .no, .dec true] [0, 2, 4, 22] [1] ⟨tr, tr, ⟨tr, b1⟩, tr, tr, tr, tr, tr, tr, tr, tr, tr, tr, tr, tr⟩ ⟨rfl, rfl⟩
    · obtain ⟨c2, e5⟩ := chk_some e5
      rcases ite2_cases e5 with ⟨b3, e5⟩ | ⟨b3, e5⟩
      · replace e5 := some_eq e5
        subst e5
        exact AW.rA ⟨[(0, (vc (sl 1 (csF .f32) a0))), (2, (vp 1 0)), (4, (vc (.int .i64 (a0.length : Int)))), (22, (vc (.bool true)))], [(1, (.box [(.c (.flt .f32 (default : F32).bits)), (.c (.flt .f32 (default : F32).bits)), (.c (.flt .f32 (default : F32).bits)), .nils]))]⟩ (T2 ((Tt ∧ (decide ((a0.length : Int) < (7 : Int))) = false) ∧ T2 (((4 : Int) ≠ 0) ∧ T2 ((Tt ∧ (((IntKind.i64.wrap ((a0.length : Int) - (3 : Int))).tmod (4 : Int)) != (0 : Int)) = true) ∧ Tt ∧ T4 Tt)))) [.no, .no, .dec false, .no, .no, .no, .no, .no, .dec true] [0, 2, 4, 22] [1] ⟨tr, tr, ⟨tr, b1⟩, tr, tr, c2, tr, tr, ⟨tr, b3⟩, tr, tr, tr, tr, tr, tr⟩ ⟨rfl, rfl⟩
      · replace e5 := some_eq e5
        subst e5
        exact AW.rA ⟨[(0, (vc (sl 1 (csF .f32) a0))), (2, (vp 1 0)), (4, (vc (.int .i64 (a0.length : Int)))), (22, (vc (.bool (decide ((IntKind.i64.wrap ((IntKind.i64.wrap ((a0.length : Int) - (3 : Int))).tdiv (4 : Int))) > (12 : Int))))))], [(1, (.box [(.c (.flt .f32 (default : F32).bits)), (.c (.flt .f32 (default : F32).bits)), (.c (.flt .f32 (default : F32).bits)), .nils]))]⟩ (T2 ((Tt ∧ (decide ((a0.length : Int) < (7 : Int))) = false) ∧ T2 (((4 : Int) ≠ 0) ∧ T2 ((Tt ∧ (((IntKind.i64.wrap ((a0.length : Int) - (3 : Int))).tmod (4 : Int)) != (0 : Int)) = false) ∧ T2 (((4 : Int) ≠ 0) ∧ T2 Tt))))) [.no, .no, .dec false, .no, .no, .no, .no, .no, .dec false] [0, 2, 4, 22] [1] ⟨tr, tr, ⟨tr, b1⟩, tr, tr, c2, tr, tr, ⟨tr, b3⟩, tr, tr, c2, tr, tr, tr⟩ ⟨rfl, rfl⟩
  refine thenQ_normal ?_
  rcases ite2_cases h with ⟨b6, h⟩ | ⟨b6, h⟩
  · refine AW.cond_t rfl b6 ?_
    refine AW.seq (AW.rA ⟨[(2, (vp 1 0)), (3, (vc (.bool false)))], [(1, (.box [(.c (.flt .f32 (default : F32).bits)), (.c (.flt .f32 (default : F32).bits)), (.c (.flt .f32 (default : F32).bits)), .nils]))]⟩ (Tt ∧ T2 Tt) [] [2, 3] [1] ⟨tr, tr, tr, tr⟩ (thenQ_normal ?_))
    refine AW.ret ?_
    refine thenQ_ret ?_
    replace h := some_eq h
    subst h
    exact ⟨.inr rfl, retOK_of [(.agg [(.c (.flt .f32 (default : F32).bits)), (.c (.flt .f32 (default : F32).bits)), (.c (.flt .f32 (default : F32).bits)), .nils]), (.one (.c (.bool false)))] (by kernel_rfl) ⟨⟨⟨rfl, tr⟩, ⟨rfl, tr⟩, ⟨rfl, tr⟩, rfl, tr⟩, ⟨rfl, tr⟩, tr⟩ (of_decide_eq_true (by kernel_rfl))⟩
  · refine AW.cond_f rfl b6 ?_
    refine AW.skip ?_
    refine thenQ_normal ?_
    refine AW.seq ?_
    obtain ⟨c7, h⟩ := chk_some h
    obtain ⟨c8, h⟩ := chk_some h
    obtain ⟨c9, h⟩ := chk_some h
    refine AW.dA ⟨[(0, (vc (sl 1 (csF .f32) a0))), (2, (vp 1 0)), (4, (vc (.int .i64 (a0.length : Int)))), (5, (vp 2 0))], [(1, (.box [(.c (.flt .f32 (default : F32).bits)), (.c (.flt .f32 (default : F32).bits)), (.c (.flt .f32 (default : F32).bits)), .nils])), (2, (.box [(.c (.flt .f32 (a0.getD ((0 : Int).toNat) default).bits)), (.c (.flt .f32 (a0.getD ((1 : Int).toNat) default).bits)), (.c (.flt .f32 (a0.getD ((2 : Int).toNat) default).bits)), .nils]))]⟩ ((Tt ∧ (0 ≤ (0 : Int) ∧ (0 : Int) < (a0.length : Int)) ∧ T2 ((0 ≤ (1 : Int) ∧ (1 : Int) < (a0.length : Int)) ∧ T2 ((0 ≤ (2 : Int) ∧ (2 : Int) < (a0.length : Int)) ∧ T4 Tt))) ∧ (Tt ∧ Tt)) 12 [.no, .no, .no, .no, .no, .no, .no, .no, .no, .no, .no, .box 2] [0, 2, 4, 5] [1, 2] ⟨⟨tr, c7, tr, tr, c8, tr, tr, c9, tr, tr, tr, tr, tr⟩, ⟨tr, tr⟩⟩ ?_
    refine thenQ_normal ?_
    refine AW.seq ?_
    refine AW.seq (AW.rA ⟨[(0, (vc (sl 1 (csF .f32) a0))), (2, (vp 1 0)), (4, (vc (.int .i64 (a0.length : Int)))), (5, (vp 2 0)), (6, (vc (.int .i64 (3 : Int))))], [(1, (.box [(.c (.flt .f32 (default : F32).bits)), (.c (.flt .f32 (default : F32).bits)), (.c (.flt .f32 (default : F32).bits)), .nils])), (2, (.box [(.c (.flt .f32 (a0.getD ((0 : Int).toNat) default).bits)), (.c (.flt .f32 (a0.getD ((1 : Int).toNat) default).bits)), (.c (.flt .f32 (a0.getD ((2 : Int).toNat) default).bits)), .nils]))]⟩ (Tt ∧ Tt) [] [0, 2, 4, 5, 6] [1, 2] ⟨tr, tr⟩ (thenQ_normal ?_))
    refine AW.block ?_
    refine AW.weak (s' := ⟨[(0, (vc (sl 1 (csF .f32) a0))), (2, (vp 1 0)), (4, (vc (.int .i64 (a0.length : Int)))), (5, (vp 2 0)), (6, (vc (.int .i64 (3 : Int))))], [(1, (.box [(.c (.flt .f32 (default : F32).bits)), (.c (.flt .f32 (default : F32).bits)), (.c (.flt .f32 (default : F32).bits)), .nils])), (2, (.box [(.c (.flt .f32 (a0.getD ((0 : Int).toNat) default).bits)), (.c (.flt .f32 (a0.getD ((1 : Int).toNat) default).bits)), (.c (.flt .f32 (a0.getD ((2 : Int).toNat) default).bits)), (.lst 5 ([] : (List Turn)).length 4 (gl cs_Turn ([] : (List Turn))))])), (5, (.lst ([] : (List Turn)).length 4 (gl cs_Turn ([] : (List Turn)))))]⟩) (Sub.trans (Sub.unnil 5 4 (gl cs_Turn ([] : (List Turn))) [] [(2, 3)] _ (by kernel_rfl) (by kernel_rfl)) (Sub.keep [0, 2, 4, 5, 6] [1, 2, 5] (by kernel_rfl) (by kernel_rfl))) ?_
    refine AW.loopQ (σ := Nat × Int × (List Turn)) (fun p => ⟨[(0, (vc (sl 1 (csF .f32) a0))), (2, (vp 1 0)), (4, (vc (.int .i64 (a0.length : Int)))), (5, (vp 2 0)), (6, (vc (.int .i64 p.2.1)))], [(1, (.box [(.c (.flt .f32 (default : F32).bits)), (.c (.flt .f32 (default : F32).bits)), (.c (.flt .f32 (default : F32).bits)), .nils])), (2, (.box [(.c (.flt .f32 (a0.getD ((0 : Int).toNat) default).bits)), (.c (.flt .f32 (a0.getD ((1 : Int).toNat) default).bits)), (.c (.flt .f32 (a0.getD ((2 : Int).toNat) default).bits)), (.lst 5 p.2.2.length 4 (gl cs_Turn p.2.2))])), (5, (.lst p.2.2.length 4 (gl cs_Turn p.2.2)))]⟩) (fun p => impl_PoseOfNumbers_l1 K a0 p.1 p.2.1 p.2.2 = some o) (fun p => p.1) (K, (3 : Int), ([] : (List Turn))) h ?_
    clear h
    rintro ⟨k, x12, x13⟩ h
    replace h : impl_PoseOfNumbers_l1 K a0 k x12 x13 = some o := h
    show AW _ _ (⟨[(0, (vc (sl 1 (csF .f32) a0))), (2, (vp 1 0)), (4, (vc (.int .i64 (a0.length : Int)))), (5, (vp 2 0)), (6, (vc (.int .i64 x12)))], [(1, (.box [(.c (.flt .f32 (default : F32).bits)), (.c (.flt .f32 (default : F32).bits)), (.c (.flt .f32 (default : F32).bits)), .nils])), (2, (.box [(.c (.flt .f32 (a0.getD ((0 : Int).toNat) default).bits)), (.c (.flt .f32 (a0.getD ((1 : Int).toNat) default).bits)), (.c (.flt .f32 (a0.getD ((2 : Int).toNat) default).bits)), (.lst 5 x13.length 4 (gl cs_Turn x13))])), (5, (.lst x13.length 4 (gl cs_Turn x13)))]⟩ : St) _
    obtain _ | k := k
    · rw [impl_PoseOfNumbers_l1] at h; cases h
    rw [impl_PoseOfNumbers_l1] at h
    refine AW.seq ?_
    refine AW.seq (AW.rA ⟨[(0, (vc (sl 1 (csF .f32) a0))), (2, (vp 1 0)), (4, (vc (.int .i64 (a0.length : Int)))), (5, (vp 2 0)), (6, (vc (.int .i64 x12))), (37, (vc (.bool (decide (x12 < (a0.length : Int))))))], [(1, (.box [(.c (.flt .f32 (default : F32).bits)), (.c (.flt .f32 (default : F32).bits)), (.c (.flt .f32 (default : F32).bits)), .nils])), (2, (.box [(.c (.flt .f32 (a0.getD ((0 : Int).toNat) default).bits)), (.c (.flt .f32 (a0.getD ((1 : Int).toNat) default).bits)), (.c (.flt .f32 (a0.getD ((2 : Int).toNat) default).bits)), (.lst 5 x13.length 4 (gl cs_Turn x13))])), (5, (.lst x13.length 4 (gl cs_Turn x13)))]⟩ (Tt ∧ T2 Tt) [] [0, 2, 4, 5, 6, 37] [1, 2, 5] ⟨tr, tr, tr, tr⟩ (thenQ_normal ?_))
    rcases ite2_cases h with ⟨b14, h⟩ | ⟨b14, h⟩
    · refine AW.cond_t rfl b14 ?_
      refine AW.skip ?_
      refine thenQ_normal ?_
      refine AW.seq ?_
      refine AW.block ?_
      obtain ⟨c15, h⟩ := chk_some h
      obtain ⟨c16, h⟩ := chk_some h
      obtain ⟨c17, h⟩ := chk_some h
      obtain ⟨c18, h⟩ := chk_some h
      obtain ⟨c19, h⟩ := chk_some h
      refine AW.dA ⟨[(0, (vc (sl 1 (csF .f32) a0))), (2, (vp 1 0)), (4, (vc (.int .i64 (a0.length : Int)))), (5, (vp 2 0)), (6, (vc (.int .i64 x12)))], [(1, (.box [(.c (.flt .f32 (default : F32).bits)), (.c (.flt .f32 (default : F32).bits)), (.c (.flt .f32 (default : F32).bits)), .nils])), (2, (.box [(.c (.flt .f32 (a0.getD ((0 : Int).toNat) default).bits)), (.c (.flt .f32 (a0.getD ((1 : Int).toNat) default).bits)), (.c (.flt .f32 (a0.getD ((2 : Int).toNat) default).bits)), (.lst 11 (x13 ++ ([(Turn.mk (a0.getD x12.toNat default) (a0.getD ((IntKind.i64.wrap (x12 + (1 : Int))).toNat) default) (a0.getD ((IntKind.i64.wrap (x12 + (2 : Int))).toNat) default) (a0.getD ((IntKind.i64.wrap (x12 + (3 : Int))).toNat) default))])).length 4 (gl cs_Turn (x13 ++ ([(Turn.mk (a0.getD x12.toNat default) (a0.getD ((IntKind.i64.wrap (x12 + (1 : Int))).toNat) default) (a0.getD ((IntKind.i64.wrap (x12 + (2 : Int))).toNat) default) (a0.getD ((IntKind.i64.wrap (x12 + (3 : Int))).toNat) default))]))))])), (11, (.lst (x13 ++ ([(Turn.mk (a0.getD x12.toNat default) (a0.getD ((IntKind.i64.wrap (x12 + (1 : Int))).toNat) default) (a0.getD ((IntKind.i64.wrap (x12 + (2 : Int))).toNat) default) (a0.getD ((IntKind.i64.wrap (x12 + (3 : Int))).toNat) default))])).length 4 (gl cs_Turn (x13 ++ ([(Turn.mk (a0.getD x12.toNat default) (a0.getD ((IntKind.i64.wrap (x12 + (1 : Int))).toNat) default) (a0.getD ((IntKind.i64.wrap (x12 + (2 : Int))).toNat) default) (a0.getD ((IntKind.i64.wrap (x12 + (3 : Int))).toNat) default))])))))]⟩ ((T4 ((0 ≤ x12 ∧ x12 < (a0.length : Int)) ∧ T4 ((0 ≤ (IntKind.i64.wrap (x12 + (1 : Int))) ∧ (IntKind.i64.wrap (x12 + (1 : Int))) < (a0.length : Int)) ∧ T4 ((0 ≤ (IntKind.i64.wrap (x12 + (2 : Int))) ∧ (IntKind.i64.wrap (x12 + (2 : Int))) < (a0.length : Int)) ∧ T4 ((0 ≤ (IntKind.i64.wrap (x12 + (3 : Int))) ∧ (IntKind.i64.wrap (x12 + (3 : Int))) < (a0.length : Int)) ∧ T2 ((([(Turn.mk (a0.getD x12.toNat default) (a0.getD ((IntKind.i64.wrap (x12 + (1 : Int))).toNat) default) (a0.getD ((IntKind.i64.wrap (x12 + (2 : Int))).toNat) default) (a0.getD ((IntKind.i64.wrap (x12 + (3 : Int))).toNat) default))]).length = 1 ∧ (((.flt .f32 (a0.getD x12.toNat default).bits) : C) = (.flt .f32 (a0.getD x12.toNat default).bits) ∧ Tt) ∧ (((.flt .f32 (a0.getD ((IntKind.i64.wrap (x12 + (1 : Int))).toNat) default).bits) : C) = (.flt .f32 (a0.getD ((IntKind.i64.wrap (x12 + (1 : Int))).toNat) default).bits) ∧ Tt) ∧ (((.flt .f32 (a0.getD ((IntKind.i64.wrap (x12 + (2 : Int))).toNat) default).bits) : C) = (.flt .f32 (a0.getD ((IntKind.i64.wrap (x12 + (2 : Int))).toNat) default).bits) ∧ Tt) ∧ (((.flt .f32 (a0.getD ((IntKind.i64.wrap (x12 + (3 : Int))).toNat) default).bits) : C) = (.flt .f32 (a0.getD ((IntKind.i64.wrap (x12 + (3 : Int))).toNat) default).bits) ∧ Tt) ∧ Tt) ∧ ((x13 ++ ([(Turn.mk (a0.getD x12.toNat default) (a0.getD ((IntKind.i64.wrap (x12 + (1 : Int))).toNat) default) (a0.getD ((IntKind.i64.wrap (x12 + (2 : Int))).toNat) default) (a0.getD ((IntKind.i64.wrap (x12 + (3 : Int))).toNat) default))])).length = x13.length + ([(Turn.mk (a0.getD x12.toNat default) (a0.getD ((IntKind.i64.wrap (x12 + (1 : Int))).toNat) default) (a0.getD ((IntKind.i64.wrap (x12 + (2 : Int))).toNat) default) (a0.getD ((IntKind.i64.wrap (x12 + (3 : Int))).toNat) default))]).length ∧ AppOb (x13.length) (([(Turn.mk (a0.getD x12.toNat default) (a0.getD ((IntKind.i64.wrap (x12 + (1 : Int))).toNat) default) (a0.getD ((IntKind.i64.wrap (x12 + (2 : Int))).toNat) default) (a0.getD ((IntKind.i64.wrap (x12 + (3 : Int))).toNat) default))]).length) 4 (gl cs_Turn x13) (gl cs_Turn ([(Turn.mk (a0.getD x12.toNat default) (a0.getD ((IntKind.i64.wrap (x12 + (1 : Int))).toNat) default) (a0.getD ((IntKind.i64.wrap (x12 + (2 : Int))).toNat) default) (a0.getD ((IntKind.i64.wrap (x12 + (3 : Int))).toNat) default))])) (gl cs_Turn (x13 ++ ([(Turn.mk (a0.getD x12.toNat default) (a0.getD ((IntKind.i64.wrap (x12 + (1 : Int))).toNat) default) (a0.getD ((IntKind.i64.wrap (x12 + (2 : Int))).toNat) default) (a0.getD ((IntKind.i64.wrap (x12 + (3 : Int))).toNat) default))]))) ∧ (∀ i j, i < ([(Turn.mk (a0.getD x12.toNat default) (a0.getD ((IntKind.i64.wrap (x12 + (1 : Int))).toNat) default) (a0.getD ((IntKind.i64.wrap (x12 + (2 : Int))).toNat) default) (a0.getD ((IntKind.i64.wrap (x12 + (3 : Int))).toNat) default))]).length → j < 4 → scalarC (gl cs_Turn ([(Turn.mk (a0.getD x12.toNat default) (a0.getD ((IntKind.i64.wrap (x12 + (1 : Int))).toNat) default) (a0.getD ((IntKind.i64.wrap (x12 + (2 : Int))).toNat) default) (a0.getD ((IntKind.i64.wrap (x12 + (3 : Int))).toNat) default))]) i j)) ∧ (x13.length + ([(Turn.mk (a0.getD x12.toNat default) (a0.getD ((IntKind.i64.wrap (x12 + (1 : Int))).toNat) default) (a0.getD ((IntKind.i64.wrap (x12 + (2 : Int))).toNat) default) (a0.getD ((IntKind.i64.wrap (x12 + (3 : Int))).toNat) default))]).length) * 16 ≤ 140737488355328) ∧ Tt ∧ Tt)))))) ∧ (Tt ∧ Tt)) 25 [.no, .no, .no, .no, .no, .no, .no, .no, .no, .no, .no, .no, .no, .no, .no, .no, .no, .no, .no, .no, .no, .no, .obj 10 ([(Turn.mk (a0.getD x12.toNat default) (a0.getD ((IntKind.i64.wrap (x12 + (1 : Int))).toNat) default) (a0.getD ((IntKind.i64.wrap (x12 + (2 : Int))).toNat) default) (a0.getD ((IntKind.i64.wrap (x12 + (3 : Int))).toNat) default))]).length (gl cs_Turn ([(Turn.mk (a0.getD x12.toNat default) (a0.getD ((IntKind.i64.wrap (x12 + (1 : Int))).toNat) default) (a0.getD ((IntKind.i64.wrap (x12 + (2 : Int))).toNat) default) (a0.getD ((IntKind.i64.wrap (x12 + (3 : Int))).toNat) default))])), .objK 11 (x13 ++ ([(Turn.mk (a0.getD x12.toNat default) (a0.getD ((IntKind.i64.wrap (x12 + (1 : Int))).toNat) default) (a0.getD ((IntKind.i64.wrap (x12 + (2 : Int))).toNat) default) (a0.getD ((IntKind.i64.wrap (x12 + (3 : Int))).toNat) default))])).length (gl cs_Turn (x13 ++ ([(Turn.mk (a0.getD x12.toNat default) (a0.getD ((IntKind.i64.wrap (x12 + (1 : Int))).toNat) default) (a0.getD ((IntKind.i64.wrap (x12 + (2 : Int))).toNat) default) (a0.getD ((IntKind.i64.wrap (x12 + (3 : Int))).toNat) default))])))] [0, 2, 4, 5, 6] [1, 2, 11] ⟨⟨tr, tr, tr, tr, c15, tr, tr, tr, tr, c16, tr, tr, tr, tr, c17, tr, tr, tr, tr, c18, tr, tr, ⟨rfl, ⟨⟨rfl, tr⟩, ⟨rfl, tr⟩, ⟨rfl, tr⟩, ⟨rfl, tr⟩, tr⟩⟩, ⟨List.length_append, gl_append, gl_scalar sc_Turn _, c19⟩, tr, tr⟩, ⟨tr, tr⟩⟩ ?_
      refine blockQ_normal ?_
      refine thenQ_normal ?_
      refine AW.rA ⟨[(0, (vc (sl 1 (csF .f32) a0))), (2, (vp 1 0)), (4, (vc (.int .i64 (a0.length : Int)))), (5, (vp 2 0)), (6, (vc (.int .i64 (IntKind.i64.wrap (x12 + (4 : Int))))))], [(1, (.box [(.c (.flt .f32 (default : F32).bits)), (.c (.flt .f32 (default : F32).bits)), (.c (.flt .f32 (default : F32).bits)), .nils])), (2, (.box [(.c (.flt .f32 (a0.getD ((0 : Int).toNat) default).bits)), (.c (.flt .f32 (a0.getD ((1 : Int).toNat) default).bits)), (.c (.flt .f32 (a0.getD ((2 : Int).toNat) default).bits)), (.lst 11 (x13 ++ ([(Turn.mk (a0.getD x12.toNat default) (a0.getD ((IntKind.i64.wrap (x12 + (1 : Int))).toNat) default) (a0.getD ((IntKind.i64.wrap (x12 + (2 : Int))).toNat) default) (a0.getD ((IntKind.i64.wrap (x12 + (3 : Int))).toNat) default))])).length 4 (gl cs_Turn (x13 ++ ([(Turn.mk (a0.getD x12.toNat default) (a0.getD ((IntKind.i64.wrap (x12 + (1 : Int))).toNat) default) (a0.getD ((IntKind.i64.wrap (x12 + (2 : Int))).toNat) default) (a0.getD ((IntKind.i64.wrap (x12 + (3 : Int))).toNat) default))]))))])), (11, (.lst (x13 ++ ([(Turn.mk (a0.getD x12.toNat default) (a0.getD ((IntKind.i64.wrap (x12 + (1 : Int))).toNat) default) (a0.getD ((IntKind.i64.wrap (x12 + (2 : Int))).toNat) default) (a0.getD ((IntKind.i64.wrap (x12 + (3 : Int))).toNat) default))])).length 4 (gl cs_Turn (x13 ++ ([(Turn.mk (a0.getD x12.toNat default) (a0.getD ((IntKind.i64.wrap (x12 + (1 : Int))).toNat) default) (a0.getD ((IntKind.i64.wrap (x12 + (2 : Int))).toNat) default) (a0.getD ((IntKind.i64.wrap (x12 + (3 : Int))).toNat) default))])))))]⟩ (Tt ∧ T2 Tt) [] [0, 2, 4, 5, 6] [1, 2, 11] ⟨tr, tr, tr, tr⟩ ?_
      exact loopQ_normal (k, (IntKind.i64.wrap (x12 + (4 : Int))), (x13 ++ ([(Turn.mk (a0.getD x12.toNat default) (a0.getD ((IntKind.i64.wrap (x12 + (1 : Int))).toNat) default) (a0.getD ((IntKind.i64.wrap (x12 + (2 : Int))).toNat) default) (a0.getD ((IntKind.i64.wrap (x12 + (3 : Int))).toNat) default))]))) h (Nat.lt_succ_self k) (Sub.trans (Sub.swap 5 11 _ (by kernel_rfl) (by kernel_rfl)) (Sub.keep [0, 2, 4, 5, 6] [1, 2, 5] (by kernel_rfl) (by kernel_rfl)))
    · refine AW.cond_f rfl b14 ?_
      refine AW.exit ?_
      refine thenQ_exit ?_
      refine loopQ_exit ?_
      refine blockQ_exit ?_
      refine thenQ_normal ?_
      refine AW.seq (AW.rA ⟨[(2, (vp 1 0)), (3, (vc (.bool true)))], [(1, (.box [(.c (.flt .f32 (a0.getD ((0 : Int).toNat) default).bits)), (.c (.flt .f32 (a0.getD ((1 : Int).toNat) default).bits)), (.c (.flt .f32 (a0.getD ((2 : Int).toNat) default).bits)), (.lst 5 x13.length 4 (gl cs_Turn x13))])), (5, (.lst x13.length 4 (gl cs_Turn x13)))]⟩ (Tt ∧ T2 Tt) [] [2, 3] [1, 5] ⟨tr, tr, tr, tr⟩ (thenQ_normal ?_))
      refine AW.ret ?_
      replace h := some_eq h
      subst h
      exact ⟨.inr rfl, retOK_of [(.agg [(.c (.flt .f32 (a0.getD ((0 : Int).toNat) default).bits)), (.c (.flt .f32 (a0.getD ((1 : Int).toNat) default).bits)), (.c (.flt .f32 (a0.getD ((2 : Int).toNat) default).bits)), (.lst 5 x13.length 4 (gl cs_Turn x13))]), (.one (.c (.bool true)))] (by kernel_rfl) ⟨⟨⟨rfl, tr⟩, ⟨rfl, tr⟩, ⟨rfl, tr⟩, rfl, tr⟩, ⟨rfl, tr⟩, tr⟩ (of_decide_eq_true (by kernel_rfl))⟩

/-! impl.RecoverRecording -/
def impl_RecoverRecording_l1 (K : Nat) (a0 : ByteArray) : Nat → Int → (List F32) → (List Pose) → Option (Recording × Int × Bool)
  | 0, _, _, _ => none
  | k + 1, x16, x17, x18 => ite2 ((decide ((x18.length : Int) < (64 : Int)))) ((impl_next K a0 x16 x17).bind fun v20 => ite2 ((!v20.2.2)) (some ((Recording.mk (IntKind.i64.wrap (bt a0 (IntKind.i64.wrap ((5 : Int) - (1 : Int))).toNat)) x18), x16, true)) ((impl_PoseOfNumbers K v20.1).bind fun v23 => chk ((x18.length + ([v23.1]).length) * 40 ≤ 140737488355328) (impl_RecoverRecording_l1 K a0 k v20.2.1 v20.1 (x18 ++ ([v23.1]))))) (some ((Recording.mk (IntKind.i64.wrap (bt a0 (IntKind.i64.wrap ((5 : Int) - (1 : Int))).toNat)) x18), x16, true))

def impl_RecoverRecording (K : Nat) (a0 : ByteArray) : Option (Recording × Int × Bool) :=
  (ite2 ((decide ((a0.size : Int) < (5 : Int)))) (some true) (chk (0 ≤ (0 : Int) ∧ (0 : Int) ≤ (4 : Int) ∧ (4 : Int) ≤ (a0.size : Int)) (ite2 ((!((a0.extract (0 : Int).toNat (4 : Int).toNat).toList == (ByteArray.mk #[83, 75, 82, 49]).toList))) (some true) (chk (0 ≤ (IntKind.i64.wrap ((5 : Int) - (1 : Int))) ∧ (IntKind.i64.wrap ((5 : Int) - (1 : Int))) < (a0.size : Int)) ((impl_isCount K (IntKind.i64.wrap (bt a0 (IntKind.i64.wrap ((5 : Int) - (1 : Int))).toNat))).bind fun v5 => some (!v5)))))).bind fun j7 => ite2 (j7) (some ((Recording.mk (0 : Int) ([] : (List Pose))), (0 : Int), false)) (chk (0 ≤ (IntKind.i64.wrap ((5 : Int) - (1 : Int))) ∧ (IntKind.i64.wrap ((5 : Int) - (1 : Int))) < (a0.size : Int)) ((impl_none K (IntKind.i64.wrap (bt a0 (IntKind.i64.wrap ((5 : Int) - (1 : Int))).toNat))).bind fun v11 => impl_RecoverRecording_l1 K a0 K (5 : Int) v11 ([] : (List Pose))))

theorem ok_impl_RecoverRecording (K : Nat) (a0 : ByteArray) (o : (Recording × Int × Bool)) (h : impl_RecoverRecording K a0 = some o) : CallOK Try.prog 12 [.one (.str a0)] [.agg (cs_Recording o.1), .one (.int .i64 o.2.1), .one (.bool o.2.2)] := by
  refine callOK_of_AW Try.func12 rfl (by kernel_rfl) (Nat.le_of_ble_eq_true (by kernel_rfl)) ?_
  intro w0
  unfold impl_RecoverRecording at h
  refine AW.seq (AW.rA ⟨[(0, (vc (.str a0))), (2, (vp 1 0))], [(1, (.box [(.c (.int .i64 (0 : Int))), .nils]))]⟩ (Tt ∧ T2 Tt) [.box 1] [0, 2] [1] ⟨tr, tr, tr, tr⟩ (thenQ_normal ?_))
  refine AW.seq (AW.rA ⟨[(0, (vc (.str a0))), (2, (vp 1 0)), (5, (vc (.int .i64 (5 : Int))))], [(1, (.box [(.c (.int .i64 (0 : Int))), .nils]))]⟩ (Tt ∧ Tt) [] [0, 2, 5] [1] ⟨tr, tr⟩ (thenQ_normal ?_))
  refine AW.seq ?_
  refine AW.seq ?_
  obtain ⟨j7, e8, h⟩ := bind_some h
  refine AW.join1 (s2 := ⟨[(0, (vc (.str a0))), (2, (vp 1 0)), (5, (vc (.int .i64 (5 : Int)))), (30, (vc (.bool j7)))], [(1, (.box [(.c (.int .i64 (0 : Int))), .nils]))]⟩) ?_ ?_
  · rcases ite2_cases e8 with ⟨b1, e8⟩ | ⟨b1, e8⟩
    · replace e8 := some_eq e8
      subst e8
      exact AW.rA ⟨[(0, (vc (.str a0))), (2, (vp 1 0)), (5, (vc (.int .i64 (5 : Int)))), (30, (vc (.bool true)))], [(1, (.box [(.c (.int .i64 (0 : Int))), .nils]))]⟩ (T4 ((Tt ∧ (decide ((a0.size : Int) < (5 : Int))) = true) ∧ Tt ∧ T4 (T4 (T4 Tt)))) [.no, .no, .no, .no, .dec true] [0, 2, 5, 30] [1] ⟨tr, tr, tr, tr, ⟨tr, b1⟩, tr, tr, tr, tr, tr, tr, tr, tr, tr, tr, tr, tr, tr, tr⟩ ⟨rfl, rfl⟩
    · obtain ⟨c2, e8⟩ := chk_some e8
      rcases ite2_cases e8 with ⟨b3, e8⟩ | ⟨b3, e8⟩
      · replace e8 := some_eq e8
        subst e8
        exact AW.rA ⟨[(0, (vc (.str a0))), (2, (vp 1 0)), (5, (vc (.int .i64 (5 : Int)))), (30, (vc (.bool true)))], [(1, (.box [(.c (.int .i64 (0 : Int))), .nils]))]⟩ (T4 ((Tt ∧ (decide ((a0.size : Int) < (5 : Int))) = false) ∧ Tt ∧ (0 ≤ (0 : Int) ∧ (0 : Int) ≤ (4 : Int) ∧ (4 : Int) ≤ (a0.size : Int)) ∧ T2 ((Tt ∧ (!((a0.extract (0 : Int).toNat (4 : Int).toNat).toList == (ByteArray.mk #[83, 75, 82, 49]).toList)) = true) ∧ T4 (T4 Tt)))) [.no, .no, .no, .no, .dec false, .no, .no, .no, .no, .dec true] [0, 2, 5, 30] [1] ⟨tr, tr, tr, tr, ⟨tr, b1⟩, tr, c2, tr, tr, ⟨tr, b3⟩, tr, tr, tr, tr, tr, tr, tr, tr, tr⟩ ⟨rfl, rfl⟩
      · obtain ⟨c4, e8⟩ := chk_some e8
        obtain ⟨v5, e6, e8⟩ := bind_some e8
        replace e8 := some_eq e8
        subst e8
        exact AW.rA ⟨[(0, (vc (.str a0))), (2, (vp 1 0)), (5, (vc (.int .i64 (5 : Int)))), (30, (vc (.bool (!v5))))], [(1, (.box [(.c (.int .i64 (0 : Int))), .nils]))]⟩ (T4 ((Tt ∧ (decide ((a0.size : Int) < (5 : Int))) = false) ∧ Tt ∧ (0 ≤ (0 : Int) ∧ (0 : Int) ≤ (4 : Int) ∧ (4 : Int) ≤ (a0.size : Int)) ∧ T2 ((Tt ∧ (!((a0.extract (0 : Int).toNat (4 : Int).toNat).toList == (ByteArray.mk #[83, 75, 82, 49]).toList)) = false) ∧ Tt ∧ T2 ((0 ≤ (IntKind.i64.wrap ((5 : Int) - (1 : Int))) ∧ (IntKind.i64.wrap ((5 : Int) - (1 : Int))) < (a0.size : Int)) ∧ Tt ∧ (((((.int .i64 (IntKind.i64.wrap (bt a0 (IntKind.i64.wrap ((5 : Int) - (1 : Int))).toNat))) : C) = (.int .i64 (IntKind.i64.wrap (bt a0 (IntKind.i64.wrap ((5 : Int) - (1 : Int))).toNat)))) ∧ Tt) ∧ CallOK Try.prog 20 [.one (.int .i64 (IntKind.i64.wrap (bt a0 (IntKind.i64.wrap ((5 : Int) - (1 : Int))).toNat)))] [.one (.bool v5)]) ∧ T2 Tt)))) [.no, .no, .no, .no, .dec false, .no, .no, .no, .no, .dec false, .no, .no, .no, .no, .no, .call [.one (.int .i64 (IntKind.i64.wrap (bt a0 (IntKind.i64.wrap ((5 : Int) - (1 : Int))).toNat)))] [.one (.bool v5)] [[.view]]] [0, 2, 5, 30] [1] ⟨tr, tr, tr, tr, ⟨tr, b1⟩, tr, c2, tr, tr, ⟨tr, b3⟩, tr, tr, tr, c4, tr, ⟨⟨rfl, tr⟩, ok_impl_isCount K (IntKind.i64.wrap (bt a0 (IntKind.i64.wrap ((5 : Int) - (1 : Int))).toNat)) v5 e6⟩, tr, tr, tr⟩ ⟨rfl, rfl⟩
  refine thenQ_normal ?_
  rcases ite2_cases h with ⟨b9, h⟩ | ⟨b9, h⟩
  · refine AW.cond_t rfl b9 ?_
    refine AW.seq (AW.rA ⟨[(2, (vp 1 0)), (3, (vc (.int .i64 (0 : Int)))), (4, (vc (.bool false)))], [(1, (.box [(.c (.int .i64 (0 : Int))), .nils]))]⟩ (T4 Tt) [] [2, 3, 4] [1] ⟨tr, tr, tr, tr, tr⟩ (thenQ_normal ?_))
    refine AW.ret ?_
    refine thenQ_ret ?_
    replace h := some_eq h
    subst h
    exact ⟨.inr rfl, retOK_of [(.agg [(.c (.int .i64 (0 : Int))), .nils]), (.one (.c (.int .i64 (0 : Int)))), (.one (.c (.bool false)))] (by kernel_rfl) ⟨⟨⟨rfl, tr⟩, rfl, tr⟩, ⟨rfl, tr⟩, ⟨rfl, tr⟩, tr⟩ (of_decide_eq_true (by kernel_rfl))⟩
  · refine AW.cond_f rfl b9 ?_
    refine AW.skip ?_
    refine thenQ_normal ?_
    refine AW.seq ?_
    obtain ⟨c10, h⟩ := chk_some h
    refine AW.rA ⟨[(0, (vc (.str a0))), (2, (vp 1 0)), (5, (vc (.int .i64 (5 : Int)))), (6, (vp 2 0))], [(1, (.box [(.c (.int .i64 (0 : Int))), .nils])), (2, (.box [(.c (.int .i64 (IntKind.i64.wrap (bt a0 (IntKind.i64.wrap ((5 : Int) - (1 : Int))).toNat)))), .nils]))]⟩ (Tt ∧ T2 ((0 ≤ (IntKind.i64.wrap ((5 : Int) - (1 : Int))) ∧ (IntKind.i64.wrap ((5 : Int) - (1 : Int))) < (a0.size : Int)) ∧ T4 Tt)) [.no, .no, .no, .no, .no, .no, .box 2] [0, 2, 5, 6] [1, 2] ⟨tr, tr, tr, c10, tr, tr, tr, tr, tr⟩ ?_
    refine thenQ_normal ?_
    refine AW.seq ?_
    obtain ⟨v11, e12, h⟩ := bind_some h
    refine AW.rA ⟨[(0, (vc (.str a0))), (2, (vp 1 0)), (5, (vc (.int .i64 (5 : Int)))), (6, (vp 2 0)), (7, (.v (.one (.lst 3 v11.length 1 (gl (csF .f32) v11)))))], [(1, (.box [(.c (.int .i64 (0 : Int))), .nils])), (2, (.box [(.c (.int .i64 (IntKind.i64.wrap (bt a0 (IntKind.i64.wrap ((5 : Int) - (1 : Int))).toNat)))), .nils])), (3, (.lst v11.length 1 (gl (csF .f32) v11)))]⟩ (T2 ((((((.int .i64 (IntKind.i64.wrap (bt a0 (IntKind.i64.wrap ((5 : Int) - (1 : Int))).toNat))) : C) = (.int .i64 (IntKind.i64.wrap (bt a0 (IntKind.i64.wrap ((5 : Int) - (1 : Int))).toNat)))) ∧ Tt) ∧ CallOK Try.prog 17 [.one (.int .i64 (IntKind.i64.wrap (bt a0 (IntKind.i64.wrap ((5 : Int) - (1 : Int))).toNat)))] [.one (sl 1 (csF .f32) v11)]) ∧ Tt ∧ Tt)) [.no, .no, .call [.one (.int .i64 (IntKind.i64.wrap (bt a0 (IntKind.i64.wrap ((5 : Int) - (1 : Int))).toNat)))] [.one (sl 1 (csF .f32) v11)] [[.lst 3]]] [0, 2, 5, 6, 7] [1, 2, 3] ⟨tr, tr, ⟨⟨rfl, tr⟩, ok_impl_none K (IntKind.i64.wrap (bt a0 (IntKind.i64.wrap ((5 : Int) - (1 : Int))).toNat)) v11 e12⟩, tr, tr⟩ ?_
    refine thenQ_normal ?_
    refine AW.seq ?_
    refine AW.block ?_
    refine AW.weak (s' := ⟨[(0, (vc (.str a0))), (2, (vp 1 0)), (5, (vc (.int .i64 (5 : Int)))), (6, (vp 2 0)), (7, (.v (.one (.lst 3 v11.length 1 (gl (csF .f32) v11)))))], [(1, (.box [(.c (.int .i64 (0 : Int))), .nils])), (2, (.box [(.c (.int .i64 (IntKind.i64.wrap (bt a0 (IntKind.i64.wrap ((5 : Int) - (1 : Int))).toNat)))), (.lst 9 ([] : (List Pose)).length 4 (gl cs_Pose ([] : (List Pose))))])), (3, (.lst v11.length 1 (gl (csF .f32) v11))), (9, (.lst ([] : (List Pose)).length 4 (gl cs_Pose ([] : (List Pose)))))]⟩) (Sub.trans (Sub.unnil 9 4 (gl cs_Pose ([] : (List Pose))) [] [(2, 1)] _ (by kernel_rfl) (by kernel_rfl)) (Sub.keep [0, 2, 5, 6, 7] [1, 2, 3, 9] (by kernel_rfl) (by kernel_rfl))) ?_
    refine AW.loopQ (σ := Nat × Int × (List F32) × (List Pose)) (fun p => ⟨[(0, (vc (.str a0))), (2, (vp 1 0)), (5, (vc (.int .i64 p.2.1))), (6, (vp 2 0)), (7, (.v (.one (.lst 3 p.2.2.1.length 1 (gl (csF .f32) p.2.2.1)))))], [(1, (.box [(.c (.int .i64 (0 : Int))), .nils])), (2, (.box [(.c (.int .i64 (IntKind.i64.wrap (bt a0 (IntKind.i64.wrap ((5 : Int) - (1 : Int))).toNat)))), (.lst 9 p.2.2.2.length 4 (gl cs_Pose p.2.2.2))])), (3, (.lst p.2.2.1.length 1 (gl (csF .f32) p.2.2.1))), (9, (.lst p.2.2.2.length 4 (gl cs_Pose p.2.2.2)))]⟩) (fun p => impl_RecoverRecording_l1 K a0 p.1 p.2.1 p.2.2.1 p.2.2.2 = some o) (fun p => p.1) (K, (5 : Int), v11, ([] : (List Pose))) h ?_
    clear h
    rintro ⟨k, x16, x17, x18⟩ h
    replace h : impl_RecoverRecording_l1 K a0 k x16 x17 x18 = some o := h
    show AW _ _ (⟨[(0, (vc (.str a0))), (2, (vp 1 0)), (5, (vc (.int .i64 x16))), (6, (vp 2 0)), (7, (.v (.one (.lst 3 x17.length 1 (gl (csF .f32) x17)))))], [(1, (.box [(.c (.int .i64 (0 : Int))), .nils])), (2, (.box [(.c (.int .i64 (IntKind.i64.wrap (bt a0 (IntKind.i64.wrap ((5 : Int) - (1 : Int))).toNat)))), (.lst 9 x18.length 4 (gl cs_Pose x18))])), (3, (.lst x17.length 1 (gl (csF .f32) x17))), (9, (.lst x18.length 4 (gl cs_Pose x18)))]⟩ : St) _
    obtain _ | k := k
    · rw [impl_RecoverRecording_l1] at h; cases h
    rw [impl_RecoverRecording_l1] at h
    refine AW.seq ?_
    refine AW.seq (AW.rA ⟨[(0, (vc (.str a0))), (2, (vp 1 0)), (5, (vc (.int .i64 x16))), (6, (vp 2 0)), (7, (.v (.one (.lst 3 x17.length 1 (gl (csF .f32) x17))))), (44, (vc (.bool (decide ((x18.length : Int) < (64 : Int))))))], [(1, (.box [(.c (.int .i64 (0 : Int))), .nils])), (2, (.box [(.c (.int .i64 (IntKind.i64.wrap (bt a0 (IntKind.i64.wrap ((5 : Int) - (1 : Int))).toNat)))), (.lst 9 x18.length 4 (gl cs_Pose x18))])), (3, (.lst x17.length 1 (gl (csF .f32) x17))), (9, (.lst x18.length 4 (gl cs_Pose x18)))]⟩ (T4 Tt) [] [0, 2, 5, 6, 7, 44] [1, 2, 3, 9] ⟨tr, tr, tr, tr, tr⟩ (thenQ_normal ?_))
    rcases ite2_cases h with ⟨b19, h⟩ | ⟨b19, h⟩
    · refine AW.cond_t rfl b19 ?_
      refine AW.skip ?_
      refine thenQ_normal ?_
      refine AW.block ?_
      refine AW.seq ?_
      obtain ⟨v20, e21, h⟩ := bind_some h
      refine AW.rA ⟨[(0, (vc (.str a0))), (2, (vp 1 0)), (5, (vc (.int .i64 x16))), (6, (vp 2 0)), (8, (.v (.one (.lst 20 v20.1.length 1 (gl (csF .f32) v20.1))))), (9, (vc (.int .i64 v20.2.1))), (10, (vc (.bool v20.2.2)))], [(1, (.box [(.c (.int .i64 (0 : Int))), .nils])), (2, (.box [(.c (.int .i64 (IntKind.i64.wrap (bt a0 (IntKind.i64.wrap ((5 : Int) - (1 : Int))).toNat)))), (.lst 9 x18.length 4 (gl cs_Pose x18))])), (9, (.lst x18.length 4 (gl cs_Pose x18))), (20, (.lst v20.1.length 1 (gl (csF .f32) v20.1)))]⟩ (Tt ∧ T2 ((((Eqc (.str a0)) ∧ (Eqc (.int .i64 x16)) ∧ (Eqc (sl 1 (csF .f32) x17)) ∧ Tt) ∧ CallOK Try.prog 25 [.one (.str a0), .one (.int .i64 x16), .one (sl 1 (csF .f32) x17)] [.one (sl 1 (csF .f32) v20.1), .one (.int .i64 v20.2.1), .one (.bool v20.2.2)]) ∧ Tt ∧ T2 (T4 Tt))) [.no, .no, .no, .call [.one (.str a0), .one (.int .i64 x16), .one (sl 1 (csF .f32) x17)] [.one (sl 1 (csF .f32) v20.1), .one (.int .i64 v20.2.1), .one (.bool v20.2.2)] [[.lst 20], [.view], [.view]]] [0, 2, 5, 6, 8, 9, 10] [1, 2, 9, 20] ⟨tr, tr, tr, ⟨⟨rfl, rfl, rfl, tr⟩, ok_impl_next K a0 x16 x17 v20 e21⟩, tr, tr, tr, tr, tr, tr, tr, tr⟩ ?_
      refine thenQ_normal ?_
      refine AW.seq ?_
      refine AW.seq (AW.rA ⟨[(0, (vc (.str a0))), (2, (vp 1 0)), (5, (vc (.int .i64 x16))), (6, (vp 2 0)), (8, (.v (.one (.lst 20 v20.1.length 1 (gl (csF .f32) v20.1))))), (9, (vc (.int .i64 v20.2.1))), (54, (vc (.bool (!v20.2.2))))], [(1, (.box [(.c (.int .i64 (0 : Int))), .nils])), (2, (.box [(.c (.int .i64 (IntKind.i64.wrap (bt a0 (IntKind.i64.wrap ((5 : Int) - (1 : Int))).toNat)))), (.lst 9 x18.length 4 (gl cs_Pose x18))])), (9, (.lst x18.length 4 (gl cs_Pose x18))), (20, (.lst v20.1.length 1 (gl (csF .f32) v20.1)))]⟩ (T2 Tt) [] [0, 2, 5, 6, 8, 9, 54] [1, 2, 9, 20] ⟨tr, tr, tr⟩ (thenQ_normal ?_))
      rcases ite2_cases h with ⟨b22, h⟩ | ⟨b22, h⟩
      · refine AW.cond_t rfl b22 ?_
        refine AW.exit ?_
        refine thenQ_exit ?_
        refine blockQ_other rfl ?_
        refine loopQ_exit ?_
        refine blockQ_exit ?_
        refine thenQ_normal ?_
        refine AW.seq (AW.rA ⟨[(2, (vp 1 0)), (3, (vc (.int .i64 x16))), (4, (vc (.bool true)))], [(1, (.box [(.c (.int .i64 (IntKind.i64.wrap (bt a0 (IntKind.i64.wrap ((5 : Int) - (1 : Int))).toNat)))), (.lst 9 x18.length 4 (gl cs_Pose x18))])), (9, (.lst x18.length 4 (gl cs_Pose x18)))]⟩ (Tt ∧ T4 Tt) [] [2, 3, 4] [1, 9] ⟨tr, tr, tr, tr, tr, tr⟩ (thenQ_normal ?_))
        refine AW.ret ?_
        replace h := some_eq h
        subst h
        exact ⟨.inr rfl, retOK_of [(.agg [(.c (.int .i64 (IntKind.i64.wrap (bt a0 (IntKind.i64.wrap ((5 : Int) - (1 : Int))).toNat)))), (.lst 9 x18.length 4 (gl cs_Pose x18))]), (.one (.c (.int .i64 x16))), (.one (.c (.bool true)))] (by kernel_rfl) ⟨⟨⟨rfl, tr⟩, rfl, tr⟩, ⟨rfl, tr⟩, ⟨rfl, tr⟩, tr⟩ (of_decide_eq_true (by kernel_rfl))⟩
      · refine AW.cond_f rfl b22 ?_
        refine AW.skip ?_
        refine thenQ_normal ?_
        refine AW.seq ?_
        obtain ⟨v23, e24, h⟩ := bind_some h
        refine AW.rA ⟨[(0, (vc (.str a0))), (2, (vp 1 0)), (6, (vp 2 0)), (8, (.v (.one (.lst 20 v20.1.length 1 (gl (csF .f32) v20.1))))), (9, (vc (.int .i64 v20.2.1))), (11, (vp 22 0))], [(1, (.box [(.c (.int .i64 (0 : Int))), .nils])), (2, (.box [(.c (.int .i64 (IntKind.i64.wrap (bt a0 (IntKind.i64.wrap ((5 : Int) - (1 : Int))).toNat)))), (.lst 9 x18.length 4 (gl cs_Pose x18))])), (9, (.lst x18.length 4 (gl cs_Pose x18))), (20, (.lst v20.1.length 1 (gl (csF .f32) v20.1))), (21, (.lst v23.1.Turns.length 4 (gl cs_Turn v23.1.Turns))), (22, (.box [(.c (.flt .f32 v23.1.Root.X.bits)), (.c (.flt .f32 v23.1.Root.Y.bits)), (.c (.flt .f32 v23.1.Root.Z.bits)), (.lst 21 v23.1.Turns.length 4 (gl cs_Turn v23.1.Turns))]))]⟩ (Tt ∧ (((Eqc (sl 1 (csF .f32) v20.1)) ∧ Tt) ∧ CallOK Try.prog 26 [.one (sl 1 (csF .f32) v20.1)] [.agg (cs_Pose v23.1), .one (.bool v23.2)]) ∧ T2 (T4 Tt)) [.no, .call [.one (sl 1 (csF .f32) v20.1)] [.agg (cs_Pose v23.1), .one (.bool v23.2)] [[.view, .view, .view, .lst 21], [.view]], .no, .no, .no, .box 22] [0, 2, 6, 8, 9, 11] [1, 2, 9, 20, 21, 22] ⟨tr, ⟨⟨rfl, tr⟩, ok_impl_PoseOfNumbers K v20.1 v23 e24⟩, tr, tr, tr, tr, tr, tr, tr⟩ ?_
        refine thenQ_normal ?_
        refine AW.seq ?_
        obtain ⟨c25, h⟩ := chk_some h
        refine AW.rA ⟨[(0, (vc (.str a0))), (2, (vp 1 0)), (6, (vp 2 0)), (8, (.v (.one (.lst 20 v20.1.length 1 (gl (csF .f32) v20.1))))), (9, (vc (.int .i64 v20.2.1)))], [(1, (.box [(.c (.int .i64 (0 : Int))), .nils])), (2, (.box [(.c (.int .i64 (IntKind.i64.wrap (bt a0 (IntKind.i64.wrap ((5 : Int) - (1 : Int))).toNat)))), (.lst 24 (x18 ++ ([v23.1])).length 4 (gl cs_Pose (x18 ++ ([v23.1]))))])), (20, (.lst v20.1.length 1 (gl (csF .f32) v20.1))), (24, (.lst (x18 ++ ([v23.1])).length 4 (gl cs_Pose (x18 ++ ([v23.1])))))]⟩ (Tt ∧ T2 ((([v23.1]).length = 1 ∧ (((.flt .f32 v23.1.Root.X.bits) : C) = (.flt .f32 v23.1.Root.X.bits) ∧ Tt) ∧ (((.flt .f32 v23.1.Root.Y.bits) : C) = (.flt .f32 v23.1.Root.Y.bits) ∧ Tt) ∧ (((.flt .f32 v23.1.Root.Z.bits) : C) = (.flt .f32 v23.1.Root.Z.bits) ∧ Tt) ∧ (Eqc (sl 4 cs_Turn v23.1.Turns)) ∧ Tt) ∧ ((x18 ++ ([v23.1])).length = x18.length + ([v23.1]).length ∧ AppOb (x18.length) (([v23.1]).length) 4 (gl cs_Pose x18) (gl cs_Pose ([v23.1])) (gl cs_Pose (x18 ++ ([v23.1]))) ∧ Tt ∧ (x18.length + ([v23.1]).length) * 40 ≤ 140737488355328) ∧ T2 Tt)) [.no, .no, .no, .obj 23 ([v23.1]).length (gl cs_Pose ([v23.1])), .obj 24 (x18 ++ ([v23.1])).length (gl cs_Pose (x18 ++ ([v23.1])))] [0, 2, 6, 8, 9] [1, 2, 20, 24] ⟨tr, tr, tr, ⟨rfl, ⟨⟨rfl, tr⟩, ⟨rfl, tr⟩, ⟨rfl, tr⟩, rfl, tr⟩⟩, ⟨List.length_append, gl_append, tr, c25⟩, tr, tr, tr⟩ ?_
        refine thenQ_normal ?_
        refine AW.rA ⟨[(0, (vc (.str a0))), (2, (vp 1 0)), (5, (vc (.int .i64 v20.2.1))), (6, (vp 2 0)), (7, (.v (.one (.lst 20 v20.1.length 1 (gl (csF .f32) v20.1)))))], [(1, (.box [(.c (.int .i64 (0 : Int))), .nils])), (2, (.box [(.c (.int .i64 (IntKind.i64.wrap (bt a0 (IntKind.i64.wrap ((5 : Int) - (1 : Int))).toNat)))), (.lst 24 (x18 ++ ([v23.1])).length 4 (gl cs_Pose (x18 ++ ([v23.1]))))])), (20, (.lst v20.1.length 1 (gl (csF .f32) v20.1))), (24, (.lst (x18 ++ ([v23.1])).length 4 (gl cs_Pose (x18 ++ ([v23.1])))))]⟩ (T4 Tt) [] [0, 2, 5, 6, 7] [1, 2, 20, 24] ⟨tr, tr, tr, tr, tr⟩ ?_
        refine blockQ_normal ?_
        exact loopQ_normal (k, v20.2.1, v20.1, (x18 ++ ([v23.1]))) h (Nat.lt_succ_self k) (Sub.trans (Sub.swap 3 20 _ (by kernel_rfl) (by kernel_rfl)) (Sub.trans (Sub.swap 9 24 _ (by kernel_rfl) (by kernel_rfl)) (Sub.keep [0, 2, 5, 6, 7] [1, 2, 3, 9] (by kernel_rfl) (by kernel_rfl))))
    · refine AW.cond_f rfl b19 ?_
      refine AW.exit ?_
      refine thenQ_exit ?_
      refine loopQ_exit ?_
      refine blockQ_exit ?_
      refine thenQ_normal ?_
      refine AW.seq (AW.rA ⟨[(2, (vp 1 0)), (3, (vc (.int .i64 x16))), (4, (vc (.bool true)))], [(1, (.box [(.c (.int .i64 (IntKind.i64.wrap (bt a0 (IntKind.i64.wrap ((5 : Int) - (1 : Int))).toNat)))), (.lst 9 x18.length 4 (gl cs_Pose x18))])), (9, (.lst x18.length 4 (gl cs_Pose x18)))]⟩ (Tt ∧ T4 Tt) [] [2, 3, 4] [1, 9] ⟨tr, tr, tr, tr, tr, tr⟩ (thenQ_normal ?_))
      refine AW.ret ?_
      replace h := some_eq h
      subst h
      exact ⟨.inr rfl, retOK_of [(.agg [(.c (.int .i64 (IntKind.i64.wrap (bt a0 (IntKind.i64.wrap ((5 : Int) - (1 : Int))).toNat)))), (.lst 9 x18.length 4 (gl cs_Pose x18))]), (.one (.c (.int .i64 x16))), (.one (.c (.bool true)))] (by kernel_rfl) ⟨⟨⟨rfl, tr⟩, rfl, tr⟩, ⟨rfl, tr⟩, ⟨rfl, tr⟩, tr⟩ (of_decide_eq_true (by kernel_rfl))⟩

/-! impl.LoadRecording -/
def impl_LoadRecording (K : Nat) (a0 : ByteArray) : Option (Recording × Bool) :=
  (impl_RecoverRecording K a0).bind fun v1 => (ite2 ((!v1.2.2)) (some true) (some (v1.2.1 != (a0.size : Int)))).bind fun j4 => ite2 (j4) (some ((Recording.mk (0 : Int) ([] : (List Pose))), false)) (some (v1.1, true))

theorem ok_impl_LoadRecording (K : Nat) (a0 : ByteArray) (o : (Recording × Bool)) (h : impl_LoadRecording K a0 = some o) : CallOK Try.prog 7 [.one (.str a0)] [.agg (cs_Recording o.1), .one (.bool o.2)] := by
  refine callOK_of_AW Try.func7 rfl (by kernel_rfl) (Nat.le_of_ble_eq_true (by kernel_rfl)) ?_
  intro w0
  unfold impl_LoadRecording at h
  refine AW.seq (AW.rA ⟨[(0, (vc (.str a0))), (2, (vp 1 0))], [(1, (.box [(.c (.int .i64 (0 : Int))), .nils]))]⟩ (T2 Tt) [.box 1] [0, 2] [1] ⟨tr, tr, tr⟩ (thenQ_normal ?_))
  refine AW.seq ?_
  obtain ⟨v1, e2, h⟩ := bind_some h
  refine AW.rA ⟨[(0, (vc (.str a0))), (2, (vp 1 0)), (4, (vp 3 0)), (5, (vc (.int .i64 v1.2.1))), (6, (vc (.bool v1.2.2)))], [(1, (.box [(.c (.int .i64 (0 : Int))), .nils])), (2, (.lst v1.1.Frames.length 4 (gl cs_Pose v1.1.Frames))), (3, (.box [(.c (.int .i64 v1.1.Bones)), (.lst 2 v1.1.Frames.length 4 (gl cs_Pose v1.1.Frames))]))]⟩ (Tt ∧ (((Eqc (.str a0)) ∧ Tt) ∧ CallOK Try.prog 12 [.one (.str a0)] [.agg (cs_Recording v1.1), .one (.int .i64 v1.2.1), .one (.bool v1.2.2)]) ∧ T4 (T4 Tt)) [.no, .call [.one (.str a0)] [.agg (cs_Recording v1.1), .one (.int .i64 v1.2.1), .one (.bool v1.2.2)] [[.view, .lst 2], [.view], [.view]], .no, .no, .no, .no, .box 3] [0, 2, 4, 5, 6] [1, 2, 3] ⟨tr, ⟨⟨rfl, tr⟩, ok_impl_RecoverRecording K a0 v1 e2⟩, tr, tr, tr, tr, tr, tr, tr, tr, tr⟩ ?_
  refine thenQ_normal ?_
  refine AW.seq ?_
  refine AW.seq ?_
  obtain ⟨j4, e5, h⟩ := bind_some h
  refine AW.join1 (s2 := ⟨[(2, (vp 1 0)), (4, (vp 3 0)), (20, (vc (.bool j4)))], [(1, (.box [(.c (.int .i64 (0 : Int))), .nils])), (2, (.lst v1.1.Frames.length 4 (gl cs_Pose v1.1.Frames))), (3, (.box [(.c (.int .i64 v1.1.Bones)), (.lst 2 v1.1.Frames.length 4 (gl cs_Pose v1.1.Frames))]))]⟩) ?_ ?_
  · rcases ite2_cases e5 with ⟨b3, e5⟩ | ⟨b3, e5⟩
    · replace e5 := some_eq e5
      subst e5
      exact AW.rA ⟨[(2, (vp 1 0)), (4, (vp 3 0)), (20, (vc (.bool true)))], [(1, (.box [(.c (.int .i64 (0 : Int))), .nils])), (2, (.lst v1.1.Frames.length 4 (gl cs_Pose v1.1.Frames))), (3, (.box [(.c (.int .i64 v1.1.Bones)), (.lst 2 v1.1.Frames.length 4 (gl cs_Pose v1.1.Frames))]))]⟩ (T2 ((Tt ∧ (!v1.2.2) = true) ∧ Tt ∧ T4 Tt)) [.no, .no, .dec true] [2, 4, 20] [1, 2, 3] ⟨tr, tr, ⟨tr, b3⟩, tr, tr, tr, tr, tr, tr⟩ ⟨rfl, rfl⟩
    · replace e5 := some_eq e5
      subst e5
      exact AW.rA ⟨[(2, (vp 1 0)), (4, (vp 3 0)), (20, (vc (.bool (v1.2.1 != (a0.size : Int)))))], [(1, (.box [(.c (.int .i64 (0 : Int))), .nils])), (2, (.lst v1.1.Frames.length 4 (gl cs_Pose v1.1.Frames))), (3, (.box [(.c (.int .i64 v1.1.Bones)), (.lst 2 v1.1.Frames.length 4 (gl cs_Pose v1.1.Frames))]))]⟩ (T2 ((Tt ∧ (!v1.2.2) = false) ∧ Tt ∧ T4 Tt)) [.no, .no, .dec false] [2, 4, 20] [1, 2, 3] ⟨tr, tr, ⟨tr, b3⟩, tr, tr, tr, tr, tr, tr⟩ ⟨rfl, rfl⟩
  refine thenQ_normal ?_
  rcases ite2_cases h with ⟨b6, h⟩ | ⟨b6, h⟩
  · refine AW.cond_t rfl b6 ?_
    refine AW.seq (AW.rA ⟨[(2, (vp 1 0)), (3, (vc (.bool false)))], [(1, (.box [(.c (.int .i64 (0 : Int))), .nils]))]⟩ (Tt ∧ T2 Tt) [] [2, 3] [1] ⟨tr, tr, tr, tr⟩ (thenQ_normal ?_))
    refine AW.ret ?_
    refine thenQ_ret ?_
    replace h := some_eq h
    subst h
    exact ⟨.inr rfl, retOK_of [(.agg [(.c (.int .i64 (0 : Int))), .nils]), (.one (.c (.bool false)))] (by kernel_rfl) ⟨⟨⟨rfl, tr⟩, rfl, tr⟩, ⟨rfl, tr⟩, tr⟩ (of_decide_eq_true (by kernel_rfl))⟩
  · refine AW.cond_f rfl b6 ?_
    refine AW.skip ?_
    refine thenQ_normal ?_
    refine AW.seq (AW.rA ⟨[(2, (vp 1 0)), (3, (vc (.bool true)))], [(1, (.box [(.c (.int .i64 v1.1.Bones)), (.lst 2 v1.1.Frames.length 4 (gl cs_Pose v1.1.Frames))])), (2, (.lst v1.1.Frames.length 4 (gl cs_Pose v1.1.Frames)))]⟩ (Tt ∧ T2 Tt) [] [2, 3] [1, 2] ⟨tr, tr, tr, tr⟩ (thenQ_normal ?_))
    refine AW.ret ?_
    replace h := some_eq h
    subst h
    exact ⟨.inr rfl, retOK_of [(.agg [(.c (.int .i64 v1.1.Bones)), (.lst 2 v1.1.Frames.length 4 (gl cs_Pose v1.1.Frames))]), (.one (.c (.bool true)))] (by kernel_rfl) ⟨⟨⟨rfl, tr⟩, rfl, tr⟩, ⟨rfl, tr⟩, tr⟩ (of_decide_eq_true (by kernel_rfl))⟩

/-! impl.StoredSize -/
def impl_StoredSize (K : Nat) (a0 : Recording) : Option (Int × Bool) :=
  (impl_StoreRecording K a0).bind fun v1 => some ((v1.1.size : Int), v1.2)

theorem ok_impl_StoredSize (K : Nat) (a0 : Recording) (o : (Int × Bool)) (h : impl_StoredSize K a0 = some o) : CallOK Try.prog 8 [.agg (cs_Recording a0)] [.one (.int .i64 o.1), .one (.bool o.2)] := by
  refine callOK_of_AW Try.func8 rfl (by kernel_rfl) (Nat.le_of_ble_eq_true (by kernel_rfl)) ?_
  intro w0
  unfold impl_StoredSize at h
  refine AW.seq (AW.rA ⟨[(1, (vp 1 0))], [(1, (.box [(.c (.int .i64 a0.Bones)), (.c (sl 4 cs_Pose a0.Frames))]))]⟩ (Tt ∧ T2 Tt) [.box 1] [1] [1] ⟨tr, tr, tr, tr⟩ (thenQ_normal ?_))
  refine AW.seq ?_
  obtain ⟨v1, e2, h⟩ := bind_some h
  refine AW.rA ⟨[(4, (vc (.str v1.1))), (5, (vc (.bool v1.2)))], []⟩ (Tt ∧ ((((Eqc (.int .i64 a0.Bones)) ∧ (Eqc (sl 4 cs_Pose a0.Frames)) ∧ Tt) ∧ Tt) ∧ CallOK Try.prog 6 [.agg (cs_Recording a0)] [.one (.str v1.1), .one (.bool v1.2)]) ∧ Tt ∧ T4 Tt) [.no, .call [.agg (cs_Recording a0)] [.one (.str v1.1), .one (.bool v1.2)] [[.view], [.view]]] [4, 5] [] ⟨tr, ⟨⟨⟨rfl, rfl, tr⟩, tr⟩, ok_impl_StoreRecording K a0 v1 e2⟩, tr, tr, tr, tr, tr, tr⟩ ?_
  refine thenQ_normal ?_
  refine AW.seq (AW.rA ⟨[(2, (vc (.int .i64 (v1.1.size : Int)))), (3, (vc (.bool v1.2)))], []⟩ (Tt ∧ T4 Tt) [] [2, 3] [] ⟨tr, tr, tr, tr, tr, tr⟩ (thenQ_normal ?_))
  refine AW.ret ?_
  replace h := some_eq h
  subst h
  exact ⟨.inr rfl, retOK_of [(.one (.c (.int .i64 (v1.1.size : Int)))), (.one (.c (.bool v1.2)))] (by kernel_rfl) ⟨⟨rfl, tr⟩, ⟨rfl, tr⟩, tr⟩ (of_decide_eq_true (by kernel_rfl))⟩

/-! impl.SameVector -/
def impl_SameVector (K : Nat) (a0 : Vector) (a1 : Vector) : Option (Bool) :=
  (impl_SameNumber K a0.X a1.X).bind fun v1 => (ite2 (v1) ((impl_SameNumber K a0.Y a1.Y).bind fun v4 => ite2 (v4) ((impl_SameNumber K a0.Z a1.Z).bind fun v7 => some v7) (some false)) (some false)).bind fun j9 => some j9

theorem ok_impl_SameVector (K : Nat) (a0 : Vector) (a1 : Vector) (o : (Bool)) (h : impl_SameVector K a0 a1 = some o) : CallOK Try.prog 39 [.agg (cs_Vector a0), .agg (cs_Vector a1)] [.one (.bool o)] := by
  refine callOK_of_AW Try.func39 rfl (by kernel_rfl) (Nat.le_of_ble_eq_true (by kernel_rfl)) ?_
  intro w0
  unfold impl_SameVector at h
  refine AW.seq (AW.rA ⟨[(2, (vp 1 0)), (3, (vp 2 0))], [(1, (.box [(.c (.flt .f32 a0.X.bits)), (.c (.flt .f32 a0.Y.bits)), (.c (.flt .f32 a0.Z.bits))])), (2, (.box [(.c (.flt .f32 a1.X.bits)), (.c (.flt .f32 a1.Y.bits)), (.c (.flt .f32 a1.Z.bits))]))]⟩ (Tt ∧ T2 Tt) [.box 1, .box 2] [2, 3] [1, 2] ⟨tr, tr, tr, tr⟩ (thenQ_normal ?_))
  refine AW.seq ?_
  obtain ⟨v1, e2, h⟩ := bind_some h
  obtain ⟨j9, e10, h⟩ := bind_some h
  refine AW.join1 (s2 := ⟨[(4, (vc (.bool j9)))], []⟩) ?_ ?_
  · rcases ite2_cases e10 with ⟨b3, e10⟩ | ⟨b3, e10⟩
    · obtain ⟨v4, e5, e10⟩ := bind_some e10
      rcases ite2_cases e10 with ⟨b6, e10⟩ | ⟨b6, e10⟩
      · obtain ⟨v7, e8, e10⟩ := bind_some e10
        replace e10 := some_eq e10
        subst e10
        exact AW.rA ⟨[(4, (vc (.bool v7)))], []⟩ (T4 ((((Eqc (.flt .f32 a0.X.bits)) ∧ (Eqc (.flt .f32 a1.X.bits)) ∧ Tt) ∧ CallOK Try.prog 52 [.one (.flt .f32 a0.X.bits), .one (.flt .f32 a1.X.bits)] [.one (.bool v1)]) ∧ (Tt ∧ v1 = true) ∧ T4 ((((Eqc (.flt .f32 a0.Y.bits)) ∧ (Eqc (.flt .f32 a1.Y.bits)) ∧ Tt) ∧ CallOK Try.prog 52 [.one (.flt .f32 a0.Y.bits), .one (.flt .f32 a1.Y.bits)] [.one (.bool v4)]) ∧ Tt ∧ (Tt ∧ v4 = true) ∧ T4 ((((Eqc (.flt .f32 a0.Z.bits)) ∧ (Eqc (.flt .f32 a1.Z.bits)) ∧ Tt) ∧ CallOK Try.prog 52 [.one (.flt .f32 a0.Z.bits), .one (.flt .f32 a1.Z.bits)] [.one (.bool v7)]) ∧ T2 Tt)))) [.no, .no, .no, .no, .call [.one (.flt .f32 a0.X.bits), .one (.flt .f32 a1.X.bits)] [.one (.bool v1)] [[.view]], .dec true, .no, .no, .no, .no, .call [.one (.flt .f32 a0.Y.bits), .one (.flt .f32 a1.Y.bits)] [.one (.bool v4)] [[.view]], .no, .dec true, .no, .no, .no, .no, .call [.one (.flt .f32 a0.Z.bits), .one (.flt .f32 a1.Z.bits)] [.one (.bool v7)] [[.view]]] [4] [] ⟨tr, tr, tr, tr, ⟨⟨rfl, rfl, tr⟩, ok_impl_SameNumber K a0.X a1.X v1 e2⟩, ⟨tr, b3⟩, tr, tr, tr, tr, ⟨⟨rfl, rfl, tr⟩, ok_impl_SameNumber K a0.Y a1.Y v4 e5⟩, tr, ⟨tr, b6⟩, tr, tr, tr, tr, ⟨⟨rfl, rfl, tr⟩, ok_impl_SameNumber K a0.Z a1.Z v7 e8⟩, tr, tr, tr⟩ ⟨rfl, rfl⟩
      · replace e10 := some_eq e10
        subst e10
        exact AW.rA ⟨[(4, (vc (.bool false)))], []⟩ (T4 ((((Eqc (.flt .f32 a0.X.bits)) ∧ (Eqc (.flt .f32 a1.X.bits)) ∧ Tt) ∧ CallOK Try.prog 52 [.one (.flt .f32 a0.X.bits), .one (.flt .f32 a1.X.bits)] [.one (.bool v1)]) ∧ (Tt ∧ v1 = true) ∧ T4 ((((Eqc (.flt .f32 a0.Y.bits)) ∧ (Eqc (.flt .f32 a1.Y.bits)) ∧ Tt) ∧ CallOK Try.prog 52 [.one (.flt .f32 a0.Y.bits), .one (.flt .f32 a1.Y.bits)] [.one (.bool v4)]) ∧ Tt ∧ (Tt ∧ v4 = false) ∧ Tt ∧ T2 (T4 Tt)))) [.no, .no, .no, .no, .call [.one (.flt .f32 a0.X.bits), .one (.flt .f32 a1.X.bits)] [.one (.bool v1)] [[.view]], .dec true, .no, .no, .no, .no, .call [.one (.flt .f32 a0.Y.bits), .one (.flt .f32 a1.Y.bits)] [.one (.bool v4)] [[.view]], .no, .dec false] [4] [] ⟨tr, tr, tr, tr, ⟨⟨rfl, rfl, tr⟩, ok_impl_SameNumber K a0.X a1.X v1 e2⟩, ⟨tr, b3⟩, tr, tr, tr, tr, ⟨⟨rfl, rfl, tr⟩, ok_impl_SameNumber K a0.Y a1.Y v4 e5⟩, tr, ⟨tr, b6⟩, tr, tr, tr, tr, tr, tr, tr, tr⟩ ⟨rfl, rfl⟩
    · replace e10 := some_eq e10
      subst e10
      exact AW.rA ⟨[(4, (vc (.bool false)))], []⟩ (T4 ((((Eqc (.flt .f32 a0.X.bits)) ∧ (Eqc (.flt .f32 a1.X.bits)) ∧ Tt) ∧ CallOK Try.prog 52 [.one (.flt .f32 a0.X.bits), .one (.flt .f32 a1.X.bits)] [.one (.bool v1)]) ∧ (Tt ∧ v1 = false) ∧ T2 (T4 (T4 (T4 Tt))))) [.no, .no, .no, .no, .call [.one (.flt .f32 a0.X.bits), .one (.flt .f32 a1.X.bits)] [.one (.bool v1)] [[.view]], .dec false] [4] [] ⟨tr, tr, tr, tr, ⟨⟨rfl, rfl, tr⟩, ok_impl_SameNumber K a0.X a1.X v1 e2⟩, ⟨tr, b3⟩, tr, tr, tr, tr, tr, tr, tr, tr, tr, tr, tr, tr, tr, tr, tr⟩ ⟨rfl, rfl⟩
  refine thenQ_normal ?_
  refine AW.ret ?_
  replace h := some_eq h
  subst h
  exact ⟨.inr rfl, retOK_of [(.one (.c (.bool j9)))] (by kernel_rfl) ⟨⟨rfl, tr⟩, tr⟩ (of_decide_eq_true (by kernel_rfl))⟩

/-! impl.SameTurn -/
def impl_SameTurn (K : Nat) (a0 : Turn) (a1 : Turn) : Option (Bool) :=
  (impl_SameNumber K a0.W a1.W).bind fun v1 => (ite2 (v1) ((impl_SameNumber K a0.X a1.X).bind fun v4 => ite2 (v4) ((impl_SameNumber K a0.Y a1.Y).bind fun v7 => ite2 (v7) ((impl_SameNumber K a0.Z a1.Z).bind fun v10 => some v10) (some false)) (some false)) (some false)).bind fun j12 => some j12

theorem ok_impl_SameTurn (K : Nat) (a0 : Turn) (a1 : Turn) (o : (Bool)) (h : impl_SameTurn K a0 a1 = some o) : CallOK Try.prog 41 [.agg (cs_Turn a0), .agg (cs_Turn a1)] [.one (.bool o)] := by
  refine callOK_of_AW Try.func41 rfl (by kernel_rfl) (Nat.le_of_ble_eq_true (by kernel_rfl)) ?_
  intro w0
  unfold impl_SameTurn at h
  refine AW.seq (AW.rA ⟨[(2, (vp 1 0)), (3, (vp 2 0))], [(1, (.box [(.c (.flt .f32 a0.W.bits)), (.c (.flt .f32 a0.X.bits)), (.c (.flt .f32 a0.Y.bits)), (.c (.flt .f32 a0.Z.bits))])), (2, (.box [(.c (.flt .f32 a1.W.bits)), (.c (.flt .f32 a1.X.bits)), (.c (.flt .f32 a1.Y.bits)), (.c (.flt .f32 a1.Z.bits))]))]⟩ (Tt ∧ T2 Tt) [.box 1, .box 2] [2, 3] [1, 2] ⟨tr, tr, tr, tr⟩ (thenQ_normal ?_))
  refine AW.seq ?_
  obtain ⟨v1, e2, h⟩ := bind_some h
  obtain ⟨j12, e13, h⟩ := bind_some h
  refine AW.join1 (s2 := ⟨[(4, (vc (.bool j12)))], []⟩) ?_ ?_
  · rcases ite2_cases e13 with ⟨b3, e13⟩ | ⟨b3, e13⟩
    · obtain ⟨v4, e5, e13⟩ := bind_some e13
      rcases ite2_cases e13 with ⟨b6, e13⟩ | ⟨b6, e13⟩
      · obtain ⟨v7, e8, e13⟩ := bind_some e13
        rcases ite2_cases e13 with ⟨b9, e13⟩ | ⟨b9, e13⟩
        · obtain ⟨v10, e11, e13⟩ := bind_some e13
          replace e13 := some_eq e13
          subst e13
          exact AW.rA ⟨[(4, (vc (.bool v10)))], []⟩ (T4 ((((Eqc (.flt .f32 a0.W.bits)) ∧ (Eqc (.flt .f32 a1.W.bits)) ∧ Tt) ∧ CallOK Try.prog 52 [.one (.flt .f32 a0.W.bits), .one (.flt .f32 a1.W.bits)] [.one (.bool v1)]) ∧ (Tt ∧ v1 = true) ∧ T4 ((((Eqc (.flt .f32 a0.X.bits)) ∧ (Eqc (.flt .f32 a1.X.bits)) ∧ Tt) ∧ CallOK Try.prog 52 [.one (.flt .f32 a0.X.bits), .one (.flt .f32 a1.X.bits)] [.one (.bool v4)]) ∧ Tt ∧ (Tt ∧ v4 = true) ∧ T4 ((((Eqc (.flt .f32 a0.Y.bits)) ∧ (Eqc (.flt .f32 a1.Y.bits)) ∧ Tt) ∧ CallOK Try.prog 52 [.one (.flt .f32 a0.Y.bits), .one (.flt .f32 a1.Y.bits)] [.one (.bool v7)]) ∧ Tt ∧ (Tt ∧ v7 = true) ∧ T4 ((((Eqc (.flt .f32 a0.Z.bits)) ∧ (Eqc (.flt .f32 a1.Z.bits)) ∧ Tt) ∧ CallOK Try.prog 52 [.one (.flt .f32 a0.Z.bits), .one (.flt .f32 a1.Z.bits)] [.one (.bool v10)]) ∧ T2 Tt))))) [.no, .no, .no, .no, .call [.one (.flt .f32 a0.W.bits), .one (.flt .f32 a1.W.bits)] [.one (.bool v1)] [[.view]], .dec true, .no, .no, .no, .no, .call [.one (.flt .f32 a0.X.bits), .one (.flt .f32 a1.X.bits)] [.one (.bool v4)] [[.view]], .no, .dec true, .no, .no, .no, .no, .call [.one (.flt .f32 a0.Y.bits), .one (.flt .f32 a1.Y.bits)] [.one (.bool v7)] [[.view]], .no, .dec true, .no, .no, .no, .no, .call [.one (.flt .f32 a0.Z.bits), .one (.flt .f32 a1.Z.bits)] [.one (.bool v10)] [[.view]]] [4] [] ⟨tr, tr, tr, tr, ⟨⟨rfl, rfl, tr⟩, ok_impl_SameNumber K a0.W a1.W v1 e2⟩, ⟨tr, b3⟩, tr, tr, tr, tr, ⟨⟨rfl, rfl, tr⟩, ok_impl_SameNumber K a0.X a1.X v4 e5⟩, tr, ⟨tr, b6⟩, tr, tr, tr, tr, ⟨⟨rfl, rfl, tr⟩, ok_impl_SameNumber K a0.Y a1.Y v7 e8⟩, tr, ⟨tr, b9⟩, tr, tr, tr, tr, ⟨⟨rfl, rfl, tr⟩, ok_impl_SameNumber K a0.Z a1.Z v10 e11⟩, tr, tr, tr⟩ ⟨rfl, rfl⟩
        · replace e13 := some_eq e13
          subst e13
          exact AW.rA ⟨[(4, (vc (.bool false)))], []⟩ (T4 ((((Eqc (.flt .f32 a0.W.bits)) ∧ (Eqc (.flt .f32 a1.W.bits)) ∧ Tt) ∧ CallOK Try.prog 52 [.one (.flt .f32 a0.W.bits), .one (.flt .f32 a1.W.bits)] [.one (.bool v1)]) ∧ (Tt ∧ v1 = true) ∧ T4 ((((Eqc (.flt .f32 a0.X.bits)) ∧ (Eqc (.flt .f32 a1.X.bits)) ∧ Tt) ∧ CallOK Try.prog 52 [.one (.flt .f32 a0.X.bits), .one (.flt .f32 a1.X.bits)] [.one (.bool v4)]) ∧ Tt ∧ (Tt ∧ v4 = true) ∧ T4 ((((Eqc (.flt .f32 a0.Y.bits)) ∧ (Eqc (.flt .f32 a1.Y.bits)) ∧ Tt) ∧ CallOK Try.prog 52 [.one (.flt .f32 a0.Y.bits), .one (.flt .f32 a1.Y.bits)] [.one (.bool v7)]) ∧ Tt ∧ (Tt ∧ v7 = false) ∧ Tt ∧ T2 (T4 Tt))))) [.no, .no, .no, .no, .call [.one (.flt .f32 a0.W.bits), .one (.flt .f32 a1.W.bits)] [.one (.bool v1)] [[.view]], .dec true, .no, .no, .no, .no, .call [.one (.flt .f32 a0.X.bits), .one (.flt .f32 a1.X.bits)] [.one (.bool v4)] [[.view]], .no, .dec true, .no, .no, .no, .no, .call [.one (.flt .f32 a0.Y.bits), .one (.flt .f32 a1.Y.bits)] [.one (.bool v7)] [[.view]], .no, .dec false] [4] [] ⟨tr, tr, tr, tr, ⟨⟨rfl, rfl, tr⟩, ok_impl_SameNumber K a0.W a1.W v1 e2⟩, ⟨tr, b3⟩, tr, tr, tr, tr, ⟨⟨rfl, rfl, tr⟩, ok_impl_SameNumber K a0.X a1.X v4 e5⟩, tr, ⟨tr, b6⟩, tr, tr, tr, tr, ⟨⟨rfl, rfl, tr⟩, ok_impl_SameNumber K a0.Y a1.Y v7 e8⟩, tr, ⟨tr, b9⟩, tr, tr, tr, tr, tr, tr, tr, tr⟩ ⟨rfl, rfl⟩
      · replace e13 := some_eq e13
        subst e13
        exact AW.rA ⟨[(4, (vc (.bool false)))], []⟩ (T4 ((((Eqc (.flt .f32 a0.W.bits)) ∧ (Eqc (.flt .f32 a1.W.bits)) ∧ Tt) ∧ CallOK Try.prog 52 [.one (.flt .f32 a0.W.bits), .one (.flt .f32 a1.W.bits)] [.one (.bool v1)]) ∧ (Tt ∧ v1 = true) ∧ T4 ((((Eqc (.flt .f32 a0.X.bits)) ∧ (Eqc (.flt .f32 a1.X.bits)) ∧ Tt) ∧ CallOK Try.prog 52 [.one (.flt .f32 a0.X.bits), .one (.flt .f32 a1.X.bits)] [.one (.bool v4)]) ∧ Tt ∧ (Tt ∧ v4 = false) ∧ T2 (T4 (T4 (T4 Tt)))))) [.no, .no, .no, .no, .call [.one (.flt .f32 a0.W.bits), .one (.flt .f32 a1.W.bits)] [.one (.bool v1)] [[.view]], .dec true, .no, .no, .no, .no, .call [.one (.flt .f32 a0.X.bits), .one (.flt .f32 a1.X.bits)] [.one (.bool v4)] [[.view]], .no, .dec false] [4] [] ⟨tr, tr, tr, tr, ⟨⟨rfl, rfl, tr⟩, ok_impl_SameNumber K a0.W a1.W v1 e2⟩, ⟨tr, b3⟩, tr, tr, tr, tr, ⟨⟨rfl, rfl, tr⟩, ok_impl_SameNumber K a0.X a1.X v4 e5⟩, tr, ⟨tr, b6⟩, tr, tr, tr, tr, tr, tr, tr, tr, tr, tr, tr, tr, tr, tr, tr⟩ ⟨rfl, rfl⟩
    · replace e13 := some_eq e13
      subst e13
      exact AW.rA ⟨[(4, (vc (.bool false)))], []⟩ (T4 ((((Eqc (.flt .f32 a0.W.bits)) ∧ (Eqc (.flt .f32 a1.W.bits)) ∧ Tt) ∧ CallOK Try.prog 52 [.one (.flt .f32 a0.W.bits), .one (.flt .f32 a1.W.bits)] [.one (.bool v1)]) ∧ (Tt ∧ v1 = false) ∧ Tt ∧ T4 (T4 (T4 (T4 (T4 Tt)))))) [.no, .no, .no, .no, .call [.one (.flt .f32 a0.W.bits), .one (.flt .f32 a1.W.bits)] [.one (.bool v1)] [[.view]], .dec false] [4] [] ⟨tr, tr, tr, tr, ⟨⟨rfl, rfl, tr⟩, ok_impl_SameNumber K a0.W a1.W v1 e2⟩, ⟨tr, b3⟩, tr, tr, tr, tr, tr, tr, tr, tr, tr, tr, tr, tr, tr, tr, tr, tr, tr, tr, tr, tr, tr, tr⟩ ⟨rfl, rfl⟩
  refine thenQ_normal ?_
  refine AW.ret ?_
  replace h := some_eq h
  subst h
  exact ⟨.inr rfl, retOK_of [(.one (.c (.bool j12)))] (by kernel_rfl) ⟨⟨rfl, tr⟩, tr⟩ (of_decide_eq_true (by kernel_rfl))⟩

/-! slices.EqualFunc[[]impl.Turn,[]impl.Turn,impl.Turn,impl.Turn] -/
def slices_EqualFunc_impl_Turn_impl_Turn_impl_Turn_impl_Turn_l1 (K : Nat) (a0 : (List Turn)) (a1 : (List Turn)) : Nat → Int → Option (Bool)
  | 0, _ => none
  | k + 1, x3 => ite2 ((decide (x3 < (a0.length : Int)))) (chk (0 ≤ x3 ∧ x3 < (a0.length : Int)) (chk (0 ≤ x3 ∧ x3 < (a1.length : Int)) ((impl_SameTurn K (a0.getD x3.toNat default) (a1.getD x3.toNat default)).bind fun v7 => ite2 ((!v7)) (some false) (slices_EqualFunc_impl_Turn_impl_Turn_impl_Turn_impl_Turn_l1 K a0 a1 k (IntKind.i64.wrap (x3 + (1 : Int))))))) (some true)

def slices_EqualFunc_impl_Turn_impl_Turn_impl_Turn_impl_Turn (K : Nat) (a0 : (List Turn)) (a1 : (List Turn)) : Option (Bool) :=
  ite2 (((a0.length : Int) != (a1.length : Int))) (some false) (slices_EqualFunc_impl_Turn_impl_Turn_impl_Turn_impl_Turn_l1 K a0 a1 K (0 : Int))

theorem ok_slices_EqualFunc_impl_Turn_impl_Turn_impl_Turn_impl_Turn (K : Nat) (a0 : (List Turn)) (a1 : (List Turn)) (o : (Bool)) (h : slices_EqualFunc_impl_Turn_impl_Turn_impl_Turn_impl_Turn K a0 a1 = some o) : CallOK Try.prog 40 [.one (sl 4 cs_Turn a0), .one (sl 4 cs_Turn a1), .one (.fn 41 0 fun _ => .nilptr)] [.one (.bool o)] := by
  refine callOK_of_AW Try.func40 rfl (by kernel_rfl) (Nat.le_of_ble_eq_true (by kernel_rfl)) ?_
  intro w0
  unfold slices_EqualFunc_impl_Turn_impl_Turn_impl_Turn_impl_Turn at h
  refine AW.seq (AW.rA ⟨[(0, (vc (sl 4 cs_Turn a0))), (1, (vc (sl 4 cs_Turn a1))), (2, (vc (.fn 41 0 fun _ => .nilptr)))], []⟩ (Tt ∧ Tt) [] [0, 1, 2] [] ⟨tr, tr⟩ (thenQ_normal ?_))
  refine AW.seq ?_
  refine AW.seq (AW.rA ⟨[(0, (vc (sl 4 cs_Turn a0))), (1, (vc (sl 4 cs_Turn a1))), (2, (vc (.fn 41 0 fun _ => .nilptr))), (14, (vc (.bool ((a0.length : Int) != (a1.length : Int)))))], []⟩ (Tt ∧ T4 Tt) [] [0, 1, 2, 14] [] ⟨tr, tr, tr, tr, tr, tr⟩ (thenQ_normal ?_))
  rcases ite2_cases h with ⟨b1, h⟩ | ⟨b1, h⟩
  · refine AW.cond_t rfl b1 ?_
    refine AW.seq (AW.rA ⟨[(6, (vc (.bool false)))], []⟩ (Tt ∧ Tt) [] [6] [] ⟨tr, tr⟩ (thenQ_normal ?_))
    refine AW.ret ?_
    refine thenQ_ret ?_
    replace h := some_eq h
    subst h
    exact ⟨.inr rfl, retOK_of [(.one (.c (.bool false)))] (by kernel_rfl) ⟨⟨rfl, tr⟩, tr⟩ (of_decide_eq_true (by kernel_rfl))⟩
  · refine AW.cond_f rfl b1 ?_
    refine AW.skip ?_
    refine thenQ_normal ?_
    refine AW.seq ?_
    refine AW.seq (AW.rA ⟨[(1, (vc (sl 4 cs_Turn a1))), (2, (vc (.fn 41 0 fun _ => .nilptr))), (15, (vc (sl 4 cs_Turn a0))), (16, (vc (.int .i64 (a0.length : Int)))), (17, (vc (.int .i64 (0 : Int))))], []⟩ (Tt ∧ T2 Tt) [] [1, 2, 15, 16, 17] [] ⟨tr, tr, tr, tr⟩ (thenQ_normal ?_))
    refine AW.block ?_
    refine AW.loopQ (σ := Nat × Int) (fun p => ⟨[(1, (vc (sl 4 cs_Turn a1))), (2, (vc (.fn 41 0 fun _ => .nilptr))), (15, (vc (sl 4 cs_Turn a0))), (16, (vc (.int .i64 (a0.length : Int)))), (17, (vc (.int .i64 p.2)))], []⟩) (fun p => slices_EqualFunc_impl_Turn_impl_Turn_impl_Turn_impl_Turn_l1 K a0 a1 p.1 p.2 = some o) (fun p => p.1) (K, (0 : Int)) h ?_
    clear h
    rintro ⟨k, x3⟩ h
    replace h : slices_EqualFunc_impl_Turn_impl_Turn_impl_Turn_impl_Turn_l1 K a0 a1 k x3 = some o := h
    show AW _ _ (⟨[(1, (vc (sl 4 cs_Turn a1))), (2, (vc (.fn 41 0 fun _ => .nilptr))), (15, (vc (sl 4 cs_Turn a0))), (16, (vc (.int .i64 (a0.length : Int)))), (17, (vc (.int .i64 x3)))], []⟩ : St) _
    obtain _ | k := k
    · rw [slices_EqualFunc_impl_Turn_impl_Turn_impl_Turn_impl_Turn_l1] at h; cases h
    rw [slices_EqualFunc_impl_Turn_impl_Turn_impl_Turn_impl_Turn_l1] at h
    refine AW.seq (AW.rA ⟨[(1, (vc (sl 4 cs_Turn a1))), (2, (vc (.fn 41 0 fun _ => .nilptr))), (15, (vc (sl 4 cs_Turn a0))), (16, (vc (.int .i64 (a0.length : Int)))), (17, (vc (.int .i64 x3))), (18, (vc (.bool (decide (x3 < (a0.length : Int))))))], []⟩ (Tt ∧ Tt) [] [1, 2, 15, 16, 17, 18] [] ⟨tr, tr⟩ (thenQ_normal ?_))
    refine AW.seq ?_
    rcases ite2_cases h with ⟨b4, h⟩ | ⟨b4, h⟩
    · refine AW.cond_t rfl b4 ?_
      refine AW.skip ?_
      refine thenQ_normal ?_
      refine AW.seq ?_
      refine AW.block ?_
      refine AW.seq ?_
      obtain ⟨c5, h⟩ := chk_some h
      refine AW.rA ⟨[(1, (vc (sl 4 cs_Turn a1))), (2, (vc (.fn 41 0 fun _ => .nilptr))), (7, (vc (.int .i64 x3))), (8, (vp 5 0)), (15, (vc (sl 4 cs_Turn a0))), (16, (vc (.int .i64 (a0.length : Int)))), (17, (vc (.int .i64 x3)))], [(5, (.box [(.c (.flt .f32 ((a0.getD x3.toNat default).W).bits)), (.c (.flt .f32 ((a0.getD x3.toNat default).X).bits)), (.c (.flt .f32 ((a0.getD x3.toNat default).Y).bits)), (.c (.flt .f32 ((a0.getD x3.toNat default).Z).bits))]))]⟩ (Tt ∧ (0 ≤ x3 ∧ x3 < (a0.length : Int)) ∧ T4 Tt) [.no, .no, .no, .box 5] [1, 2, 7, 8, 15, 16, 17] [5] ⟨tr, c5, tr, tr, tr, tr, tr⟩ ?_
      refine thenQ_normal ?_
      refine AW.seq ?_
      obtain ⟨c6, h⟩ := chk_some h
      refine AW.rA ⟨[(1, (vc (sl 4 cs_Turn a1))), (2, (vc (.fn 41 0 fun _ => .nilptr))), (8, (vp 5 0)), (9, (vp 6 0)), (15, (vc (sl 4 cs_Turn a0))), (16, (vc (.int .i64 (a0.length : Int)))), (17, (vc (.int .i64 x3)))], [(5, (.box [(.c (.flt .f32 ((a0.getD x3.toNat default).W).bits)), (.c (.flt .f32 ((a0.getD x3.toNat default).X).bits)), (.c (.flt .f32 ((a0.getD x3.toNat default).Y).bits)), (.c (.flt .f32 ((a0.getD x3.toNat default).Z).bits))])), (6, (.box [(.c (.flt .f32 ((a1.getD x3.toNat default).W).bits)), (.c (.flt .f32 ((a1.getD x3.toNat default).X).bits)), (.c (.flt .f32 ((a1.getD x3.toNat default).Y).bits)), (.c (.flt .f32 ((a1.getD x3.toNat default).Z).bits))]))]⟩ (T2 ((0 ≤ x3 ∧ x3 < (a1.length : Int)) ∧ Tt ∧ T2 Tt)) [.no, .no, .no, .no, .box 6] [1, 2, 8, 9, 15, 16, 17] [5, 6] ⟨tr, tr, c6, tr, tr, tr, tr⟩ ?_
      refine thenQ_normal ?_
      refine AW.seq ?_
      obtain ⟨v7, e8, h⟩ := bind_some h
      refine AW.rA ⟨[(1, (vc (sl 4 cs_Turn a1))), (2, (vc (.fn 41 0 fun _ => .nilptr))), (15, (vc (sl 4 cs_Turn a0))), (16, (vc (.int .i64 (a0.length : Int)))), (17, (vc (.int .i64 x3))), (30, (vc (.bool (!v7))))], []⟩ (Tt ∧ T2 (((((Eqc (.flt .f32 ((a0.getD x3.toNat default).W).bits)) ∧ (Eqc (.flt .f32 ((a0.getD x3.toNat default).X).bits)) ∧ (Eqc (.flt .f32 ((a0.getD x3.toNat default).Y).bits)) ∧ (Eqc (.flt .f32 ((a0.getD x3.toNat default).Z).bits)) ∧ Tt) ∧ ((Eqc (.flt .f32 ((a1.getD x3.toNat default).W).bits)) ∧ (Eqc (.flt .f32 ((a1.getD x3.toNat default).X).bits)) ∧ (Eqc (.flt .f32 ((a1.getD x3.toNat default).Y).bits)) ∧ (Eqc (.flt .f32 ((a1.getD x3.toNat default).Z).bits)) ∧ Tt) ∧ Tt) ∧ CallOK Try.prog 41 [.agg (cs_Turn (a0.getD x3.toNat default)), .agg (cs_Turn (a1.getD x3.toNat default))] [.one (.bool v7)]) ∧ Tt ∧ Tt)) [.no, .no, .no, .call [.agg (cs_Turn (a0.getD x3.toNat default)), .agg (cs_Turn (a1.getD x3.toNat default))] [.one (.bool v7)] [[.view]]] [1, 2, 15, 16, 17, 30] [] ⟨tr, tr, tr, ⟨⟨⟨rfl, rfl, rfl, rfl, tr⟩, ⟨rfl, rfl, rfl, rfl, tr⟩, tr⟩, ok_impl_SameTurn K (a0.getD x3.toNat default) (a1.getD x3.toNat default) v7 e8⟩, tr, tr⟩ ?_
      refine thenQ_normal ?_
      rcases ite2_cases h with ⟨b9, h⟩ | ⟨b9, h⟩
      · refine AW.cond_t rfl b9 ?_
        refine AW.seq (AW.rA ⟨[(6, (vc (.bool false)))], []⟩ (Tt ∧ Tt) [] [6] [] ⟨tr, tr⟩ (thenQ_normal ?_))
        refine AW.ret ?_
        refine blockQ_ret ?_
        refine thenQ_ret ?_
        refine loopQ_ret ?_
        refine blockQ_ret ?_
        refine thenQ_ret ?_
        replace h := some_eq h
        subst h
        exact ⟨.inr rfl, retOK_of [(.one (.c (.bool false)))] (by kernel_rfl) ⟨⟨rfl, tr⟩, tr⟩ (of_decide_eq_true (by kernel_rfl))⟩
      · refine AW.cond_f rfl b9 ?_
        refine AW.skip ?_
        refine blockQ_normal ?_
        refine thenQ_normal ?_
        refine AW.rA ⟨[(1, (vc (sl 4 cs_Turn a1))), (2, (vc (.fn 41 0 fun _ => .nilptr))), (15, (vc (sl 4 cs_Turn a0))), (16, (vc (.int .i64 (a0.length : Int)))), (17, (vc (.int .i64 (IntKind.i64.wrap (x3 + (1 : Int))))))], []⟩ (T2 Tt) [] [1, 2, 15, 16, 17] [] ⟨tr, tr, tr⟩ ?_
        exact loopQ_normal (k, (IntKind.i64.wrap (x3 + (1 : Int)))) h (Nat.lt_succ_self k) (Sub.keep [1, 2, 15, 16, 17] [] (by kernel_rfl) (by kernel_rfl))
    · refine AW.cond_f rfl b4 ?_
      refine AW.exit ?_
      refine thenQ_exit ?_
      refine loopQ_exit ?_
      refine blockQ_exit ?_
      refine thenQ_normal ?_
      refine AW.seq (AW.rA ⟨[(6, (vc (.bool true)))], []⟩ (Tt ∧ Tt) [] [6] [] ⟨tr, tr⟩ (thenQ_normal ?_))
      refine AW.ret ?_
      replace h := some_eq h
      subst h
      exact ⟨.inr rfl, retOK_of [(.one (.c (.bool true)))] (by kernel_rfl) ⟨⟨rfl, tr⟩, tr⟩ (of_decide_eq_true (by kernel_rfl))⟩

/-! impl.SamePose -/
def impl_SamePose (K : Nat) (a0 : Pose) (a1 : Pose) : Option (Bool) :=
  (impl_SameVector K a0.Root a1.Root).bind fun v1 => (ite2 (v1) ((slices_EqualFunc_impl_Turn_impl_Turn_impl_Turn_impl_Turn K a0.Turns a1.Turns).bind fun v4 => some v4) (some false)).bind fun j6 => some j6

theorem ok_impl_SamePose (K : Nat) (a0 : Pose) (a1 : Pose) (o : (Bool)) (h : impl_SamePose K a0 a1 = some o) : CallOK Try.prog 24 [.agg (cs_Pose a0), .agg (cs_Pose a1)] [.one (.bool o)] := by
  refine callOK_of_AW Try.func24 rfl (by kernel_rfl) (Nat.le_of_ble_eq_true (by kernel_rfl)) ?_
  intro w0
  unfold impl_SamePose at h
  refine AW.seq (AW.rA ⟨[(2, (vp 1 0)), (3, (vp 2 0))], [(1, (.box [(.c (.flt .f32 a0.Root.X.bits)), (.c (.flt .f32 a0.Root.Y.bits)), (.c (.flt .f32 a0.Root.Z.bits)), (.c (sl 4 cs_Turn a0.Turns))])), (2, (.box [(.c (.flt .f32 a1.Root.X.bits)), (.c (.flt .f32 a1.Root.Y.bits)), (.c (.flt .f32 a1.Root.Z.bits)), (.c (sl 4 cs_Turn a1.Turns))]))]⟩ (Tt ∧ T2 Tt) [.box 1, .box 2] [2, 3] [1, 2] ⟨tr, tr, tr, tr⟩ (thenQ_normal ?_))
  refine AW.seq ?_
  obtain ⟨v1, e2, h⟩ := bind_some h
  obtain ⟨j6, e7, h⟩ := bind_some h
  refine AW.join1 (s2 := ⟨[(4, (vc (.bool j6)))], []⟩) ?_ ?_
  · rcases ite2_cases e7 with ⟨b3, e7⟩ | ⟨b3, e7⟩
    · obtain ⟨v4, e5, e7⟩ := bind_some e7
      replace e7 := some_eq e7
      subst e7
      exact AW.rA ⟨[(4, (vc (.bool v4)))], []⟩ (T4 (((((Eqc (.flt .f32 a0.Root.X.bits)) ∧ (Eqc (.flt .f32 a0.Root.Y.bits)) ∧ (Eqc (.flt .f32 a0.Root.Z.bits)) ∧ Tt) ∧ ((Eqc (.flt .f32 a1.Root.X.bits)) ∧ (Eqc (.flt .f32 a1.Root.Y.bits)) ∧ (Eqc (.flt .f32 a1.Root.Z.bits)) ∧ Tt) ∧ Tt) ∧ CallOK Try.prog 39 [.agg (cs_Vector a0.Root), .agg (cs_Vector a1.Root)] [.one (.bool v1)]) ∧ (Tt ∧ v1 = true) ∧ T4 ((((Eqc (sl 4 cs_Turn a0.Turns)) ∧ (Eqc (sl 4 cs_Turn a1.Turns)) ∧ (Eqc (.fn 41 0 fun _ => .nilptr)) ∧ Tt) ∧ CallOK Try.prog 40 [.one (sl 4 cs_Turn a0.Turns), .one (sl 4 cs_Turn a1.Turns), .one (.fn 41 0 fun _ => .nilptr)] [.one (.bool v4)]) ∧ T2 Tt))) [.no, .no, .no, .no, .call [.agg (cs_Vector a0.Root), .agg (cs_Vector a1.Root)] [.one (.bool v1)] [[.view]], .dec true, .no, .no, .no, .no, .call [.one (sl 4 cs_Turn a0.Turns), .one (sl 4 cs_Turn a1.Turns), .one (.fn 41 0 fun _ => .nilptr)] [.one (.bool v4)] [[.view]]] [4] [] ⟨tr, tr, tr, tr, ⟨⟨⟨rfl, rfl, rfl, tr⟩, ⟨rfl, rfl, rfl, tr⟩, tr⟩, ok_impl_SameVector K a0.Root a1.Root v1 e2⟩, ⟨tr, b3⟩, tr, tr, tr, tr, ⟨⟨rfl, rfl, rfl, tr⟩, ok_slices_EqualFunc_impl_Turn_impl_Turn_impl_Turn_impl_Turn K a0.Turns a1.Turns v4 e5⟩, tr, tr, tr⟩ ⟨rfl, rfl⟩
    · replace e7 := some_eq e7
      subst e7
      exact AW.rA ⟨[(4, (vc (.bool false)))], []⟩ (T4 (((((Eqc (.flt .f32 a0.Root.X.bits)) ∧ (Eqc (.flt .f32 a0.Root.Y.bits)) ∧ (Eqc (.flt .f32 a0.Root.Z.bits)) ∧ Tt) ∧ ((Eqc (.flt .f32 a1.Root.X.bits)) ∧ (Eqc (.flt .f32 a1.Root.Y.bits)) ∧ (Eqc (.flt .f32 a1.Root.Z.bits)) ∧ Tt) ∧ Tt) ∧ CallOK Try.prog 39 [.agg (cs_Vector a0.Root), .agg (cs_Vector a1.Root)] [.one (.bool v1)]) ∧ (Tt ∧ v1 = false) ∧ Tt ∧ T2 (T4 Tt))) [.no, .no, .no, .no, .call [.agg (cs_Vector a0.Root), .agg (cs_Vector a1.Root)] [.one (.bool v1)] [[.view]], .dec false] [4] [] ⟨tr, tr, tr, tr, ⟨⟨⟨rfl, rfl, rfl, tr⟩, ⟨rfl, rfl, rfl, tr⟩, tr⟩, ok_impl_SameVector K a0.Root a1.Root v1 e2⟩, ⟨tr, b3⟩, tr, tr, tr, tr, tr, tr, tr, tr⟩ ⟨rfl, rfl⟩
  refine thenQ_normal ?_
  refine AW.ret ?_
  replace h := some_eq h
  subst h
  exact ⟨.inr rfl, retOK_of [(.one (.c (.bool j6)))] (by kernel_rfl) ⟨⟨rfl, tr⟩, tr⟩ (of_decide_eq_true (by kernel_rfl))⟩

/-! slices.EqualFunc[[]impl.Pose,[]impl.Pose,impl.Pose,impl.Pose] -/
def slices_EqualFunc_impl_Pose_impl_Pose_impl_Pose_impl_Pose_l1 (K : Nat) (a0 : (List Pose)) (a1 : (List Pose)) : Nat → Int → Option (Bool)
  | 0, _ => none
  | k + 1, x3 => ite2 ((decide (x3 < (a0.length : Int)))) (chk (0 ≤ x3 ∧ x3 < (a0.length : Int)) (chk (0 ≤ x3 ∧ x3 < (a1.length : Int)) ((impl_SamePose K (a0.getD x3.toNat default) (a1.getD x3.toNat default)).bind fun v7 => ite2 ((!v7)) (some false) (slices_EqualFunc_impl_Pose_impl_Pose_impl_Pose_impl_Pose_l1 K a0 a1 k (IntKind.i64.wrap (x3 + (1 : Int))))))) (some true)

def slices_EqualFunc_impl_Pose_impl_Pose_impl_Pose_impl_Pose (K : Nat) (a0 : (List Pose)) (a1 : (List Pose)) : Option (Bool) :=
  ite2 (((a0.length : Int) != (a1.length : Int))) (some false) (slices_EqualFunc_impl_Pose_impl_Pose_impl_Pose_impl_Pose_l1 K a0 a1 K (0 : Int))

theorem ok_slices_EqualFunc_impl_Pose_impl_Pose_impl_Pose_impl_Pose (K : Nat) (a0 : (List Pose)) (a1 : (List Pose)) (o : (Bool)) (h : slices_EqualFunc_impl_Pose_impl_Pose_impl_Pose_impl_Pose K a0 a1 = some o) : CallOK Try.prog 23 [.one (sl 4 cs_Pose a0), .one (sl 4 cs_Pose a1), .one (.fn 24 0 fun _ => .nilptr)] [.one (.bool o)] := by
  refine callOK_of_AW Try.func23 rfl (by kernel_rfl) (Nat.le_of_ble_eq_true (by kernel_rfl)) ?_
  intro w0
  unfold slices_EqualFunc_impl_Pose_impl_Pose_impl_Pose_impl_Pose at h
  refine AW.seq (AW.rA ⟨[(0, (vc (sl 4 cs_Pose a0))), (1, (vc (sl 4 cs_Pose a1))), (2, (vc (.fn 24 0 fun _ => .nilptr)))], []⟩ (Tt ∧ Tt) [] [0, 1, 2] [] ⟨tr, tr⟩ (thenQ_normal ?_))
  refine AW.seq ?_
  refine AW.seq (AW.rA ⟨[(0, (vc (sl 4 cs_Pose a0))), (1, (vc (sl 4 cs_Pose a1))), (2, (vc (.fn 24 0 fun _ => .nilptr))), (14, (vc (.bool ((a0.length : Int) != (a1.length : Int)))))], []⟩ (Tt ∧ T4 Tt) [] [0, 1, 2, 14] [] ⟨tr, tr, tr, tr, tr, tr⟩ (thenQ_normal ?_))
  rcases ite2_cases h with ⟨b1, h⟩ | ⟨b1, h⟩
  · refine AW.cond_t rfl b1 ?_
    refine AW.seq (AW.rA ⟨[(6, (vc (.bool false)))], []⟩ (Tt ∧ Tt) [] [6] [] ⟨tr, tr⟩ (thenQ_normal ?_))
    refine AW.ret ?_
    refine thenQ_ret ?_
    replace h := some_eq h
    subst h
    exact ⟨.inr rfl, retOK_of [(.one (.c (.bool false)))] (by kernel_rfl) ⟨⟨rfl, tr⟩, tr⟩ (of_decide_eq_true (by kernel_rfl))⟩
  · refine AW.cond_f rfl b1 ?_
    refine AW.skip ?_
    refine thenQ_normal ?_
    refine AW.seq ?_
    refine AW.seq (AW.rA ⟨[(1, (vc (sl 4 cs_Pose a1))), (2, (vc (.fn 24 0 fun _ => .nilptr))), (15, (vc (sl 4 cs_Pose a0))), (16, (vc (.int .i64 (a0.length : Int)))), (17, (vc (.int .i64 (0 : Int))))], []⟩ (Tt ∧ T2 Tt) [] [1, 2, 15, 16, 17] [] ⟨tr, tr, tr, tr⟩ (thenQ_normal ?_))
    refine AW.block ?_
    refine AW.loopQ (σ := Nat × Int) (fun p => ⟨[(1, (vc (sl 4 cs_Pose a1))), (2, (vc (.fn 24 0 fun _ => .nilptr))), (15, (vc (sl 4 cs_Pose a0))), (16, (vc (.int .i64 (a0.length : Int)))), (17, (vc (.int .i64 p.2)))], []⟩) (fun p => slices_EqualFunc_impl_Pose_impl_Pose_impl_Pose_impl_Pose_l1 K a0 a1 p.1 p.2 = some o) (fun p => p.1) (K, (0 : Int)) h ?_
    clear h
    rintro ⟨k, x3⟩ h
    replace h : slices_EqualFunc_impl_Pose_impl_Pose_impl_Pose_impl_Pose_l1 K a0 a1 k x3 = some o := h
    show AW _ _ (⟨[(1, (vc (sl 4 cs_Pose a1))), (2, (vc (.fn 24 0 fun _ => .nilptr))), (15, (vc (sl 4 cs_Pose a0))), (16, (vc (.int .i64 (a0.length : Int)))), (17, (vc (.int .i64 x3)))], []⟩ : St) _
    obtain _ | k := k
    · rw [slices_EqualFunc_impl_Pose_impl_Pose_impl_Pose_impl_Pose_l1] at h; cases h
    rw [slices_EqualFunc_impl_Pose_impl_Pose_impl_Pose_impl_Pose_l1] at h
    refine AW.seq (AW.rA ⟨[(1, (vc (sl 4 cs_Pose a1))), (2, (vc (.fn 24 0 fun _ => .nilptr))), (15, (vc (sl 4 cs_Pose a0))), (16, (vc (.int .i64 (a0.length : Int)))), (17, (vc (.int .i64 x3))), (18, (vc (.bool (decide (x3 < (a0.length : Int))))))], []⟩ (Tt ∧ Tt) [] [1, 2, 15, 16, 17, 18] [] ⟨tr, tr⟩ (thenQ_normal ?_))
    refine AW.seq ?_
    rcases ite2_cases h with ⟨b4, h⟩ | ⟨b4, h⟩
    · refine AW.cond_t rfl b4 ?_
      refine AW.skip ?_
      refine thenQ_normal ?_
      refine AW.seq ?_
      refine AW.block ?_
      refine AW.seq ?_
      obtain ⟨c5, h⟩ := chk_some h
      refine AW.rA ⟨[(1, (vc (sl 4 cs_Pose a1))), (2, (vc (.fn 24 0 fun _ => .nilptr))), (7, (vc (.int .i64 x3))), (8, (vp 5 0)), (15, (vc (sl 4 cs_Pose a0))), (16, (vc (.int .i64 (a0.length : Int)))), (17, (vc (.int .i64 x3)))], [(5, (.box [(.c (.flt .f32 (((a0.getD x3.toNat default).Root).X).bits)), (.c (.flt .f32 (((a0.getD x3.toNat default).Root).Y).bits)), (.c (.flt .f32 (((a0.getD x3.toNat default).Root).Z).bits)), (.c (sl 4 cs_Turn ((a0.getD x3.toNat default).Turns)))]))]⟩ (Tt ∧ (0 ≤ x3 ∧ x3 < (a0.length : Int)) ∧ T4 Tt) [.no, .no, .no, .box 5] [1, 2, 7, 8, 15, 16, 17] [5] ⟨tr, c5, tr, tr, tr, tr, tr⟩ ?_
      refine thenQ_normal ?_
      refine AW.seq ?_
      obtain ⟨c6, h⟩ := chk_some h
      refine AW.rA ⟨[(1, (vc (sl 4 cs_Pose a1))), (2, (vc (.fn 24 0 fun _ => .nilptr))), (8, (vp 5 0)), (9, (vp 6 0)), (15, (vc (sl 4 cs_Pose a0))), (16, (vc (.int .i64 (a0.length : Int)))), (17, (vc (.int .i64 x3)))], [(5, (.box [(.c (.flt .f32 (((a0.getD x3.toNat default).Root).X).bits)), (.c (.flt .f32 (((a0.getD x3.toNat default).Root).Y).bits)), (.c (.flt .f32 (((a0.getD x3.toNat default).Root).Z).bits)), (.c (sl 4 cs_Turn ((a0.getD x3.toNat default).Turns)))])), (6, (.box [(.c (.flt .f32 (((a1.getD x3.toNat default).Root).X).bits)), (.c (.flt .f32 (((a1.getD x3.toNat default).Root).Y).bits)), (.c (.flt .f32 (((a1.getD x3.toNat default).Root).Z).bits)), (.c (sl 4 cs_Turn ((a1.getD x3.toNat default).Turns)))]))]⟩ (T2 ((0 ≤ x3 ∧ x3 < (a1.length : Int)) ∧ Tt ∧ T2 Tt)) [.no, .no, .no, .no, .box 6] [1, 2, 8, 9, 15, 16, 17] [5, 6] ⟨tr, tr, c6, tr, tr, tr, tr⟩ ?_
      refine thenQ_normal ?_
      refine AW.seq ?_
      obtain ⟨v7, e8, h⟩ := bind_some h
      refine AW.rA ⟨[(1, (vc (sl 4 cs_Pose a1))), (2, (vc (.fn 24 0 fun _ => .nilptr))), (15, (vc (sl 4 cs_Pose a0))), (16, (vc (.int .i64 (a0.length : Int)))), (17, (vc (.int .i64 x3))), (30, (vc (.bool (!v7))))], []⟩ (Tt ∧ T2 (((((Eqc (.flt .f32 (((a0.getD x3.toNat default).Root).X).bits)) ∧ (Eqc (.flt .f32 (((a0.getD x3.toNat default).Root).Y).bits)) ∧ (Eqc (.flt .f32 (((a0.getD x3.toNat default).Root).Z).bits)) ∧ (Eqc (sl 4 cs_Turn ((a0.getD x3.toNat default).Turns))) ∧ Tt) ∧ ((Eqc (.flt .f32 (((a1.getD x3.toNat default).Root).X).bits)) ∧ (Eqc (.flt .f32 (((a1.getD x3.toNat default).Root).Y).bits)) ∧ (Eqc (.flt .f32 (((a1.getD x3.toNat default).Root).Z).bits)) ∧ (Eqc (sl 4 cs_Turn ((a1.getD x3.toNat default).Turns))) ∧ Tt) ∧ Tt) ∧ CallOK Try.prog 24 [.agg (cs_Pose (a0.getD x3.toNat default)), .agg (cs_Pose (a1.getD x3.toNat default))] [.one (.bool v7)]) ∧ Tt ∧ Tt)) [.no, .no, .no, .call [.agg (cs_Pose (a0.getD x3.toNat default)), .agg (cs_Pose (a1.getD x3.toNat default))] [.one (.bool v7)] [[.view]]] [1, 2, 15, 16, 17, 30] [] ⟨tr, tr, tr, ⟨⟨⟨rfl, rfl, rfl, rfl, tr⟩, ⟨rfl, rfl, rfl, rfl, tr⟩, tr⟩, ok_impl_SamePose K (a0.getD x3.toNat default) (a1.getD x3.toNat default) v7 e8⟩, tr, tr⟩ ?_
      refine thenQ_normal ?_
      rcases ite2_cases h with ⟨b9, h⟩ | ⟨b9, h⟩
      · refine AW.cond_t rfl b9 ?_
        refine AW.seq (AW.rA ⟨[(6, (vc (.bool false)))], []⟩ (Tt ∧ Tt) [] [6] [] ⟨tr, tr⟩ (thenQ_normal ?_))
        refine AW.ret ?_
        refine blockQ_ret ?_
        refine thenQ_ret ?_
        refine loopQ_ret ?_
        refine blockQ_ret ?_
        refine thenQ_ret ?_
        replace h := some_eq h
        subst h
        exact ⟨.inr rfl, retOK_of [(.one (.c (.bool false)))] (by kernel_rfl) ⟨⟨rfl, tr⟩, tr⟩ (of_decide_eq_true (by kernel_rfl))⟩
      · refine AW.cond_f rfl b9 ?_
        refine AW.skip ?_
        refine blockQ_normal ?_
        refine thenQ_normal ?_
        refine AW.rA ⟨[(1, (vc (sl 4 cs_Pose a1))), (2, (vc (.fn 24 0 fun _ => .nilptr))), (15, (vc (sl 4 cs_Pose a0))), (16, (vc (.int .i64 (a0.length : Int)))), (17, (vc (.int .i64 (IntKind.i64.wrap (x3 + (1 : Int))))))], []⟩ (T2 Tt) [] [1, 2, 15, 16, 17] [] ⟨tr, tr, tr⟩ ?_
        exact loopQ_normal (k, (IntKind.i64.wrap (x3 + (1 : Int)))) h (Nat.lt_succ_self k) (Sub.keep [1, 2, 15, 16, 17] [] (by kernel_rfl) (by kernel_rfl))
    · refine AW.cond_f rfl b4 ?_
      refine AW.exit ?_
      refine thenQ_exit ?_
      refine loopQ_exit ?_
      refine blockQ_exit ?_
      refine thenQ_normal ?_
      refine AW.seq (AW.rA ⟨[(6, (vc (.bool true)))], []⟩ (Tt ∧ Tt) [] [6] [] ⟨tr, tr⟩ (thenQ_normal ?_))
      refine AW.ret ?_
      replace h := some_eq h
      subst h
      exact ⟨.inr rfl, retOK_of [(.one (.c (.bool true)))] (by kernel_rfl) ⟨⟨rfl, tr⟩, tr⟩ (of_decide_eq_true (by kernel_rfl))⟩

/-! impl.SameRecording -/
def impl_SameRecording (K : Nat) (a0 : Recording) (a1 : Recording) : Option (Bool) :=
  (impl_ValidRecording K a0).bind fun v1 => (ite2 (v1) ((impl_ValidRecording K a1).bind fun v4 => ite2 (v4) (ite2 ((a0.Bones == a1.Bones)) ((slices_EqualFunc_impl_Pose_impl_Pose_impl_Pose_impl_Pose K a0.Frames a1.Frames).bind fun v8 => some v8) (some false)) (some false)) (some false)).bind fun j10 => some j10

theorem ok_impl_SameRecording (K : Nat) (a0 : Recording) (a1 : Recording) (o : (Bool)) (h : impl_SameRecording K a0 a1 = some o) : CallOK Try.prog 10 [.agg (cs_Recording a0), .agg (cs_Recording a1)] [.one (.bool o)] := by
  refine callOK_of_AW Try.func10 rfl (by kernel_rfl) (Nat.le_of_ble_eq_true (by kernel_rfl)) ?_
  intro w0
  unfold impl_SameRecording at h
  refine AW.seq (AW.rA ⟨[(2, (vp 1 0)), (3, (vp 2 0))], [(1, (.box [(.c (.int .i64 a0.Bones)), (.c (sl 4 cs_Pose a0.Frames))])), (2, (.box [(.c (.int .i64 a1.Bones)), (.c (sl 4 cs_Pose a1.Frames))]))]⟩ (Tt ∧ T2 Tt) [.box 1, .box 2] [2, 3] [1, 2] ⟨tr, tr, tr, tr⟩ (thenQ_normal ?_))
  refine AW.seq ?_
  obtain ⟨v1, e2, h⟩ := bind_some h
  obtain ⟨j10, e11, h⟩ := bind_some h
  refine AW.join1 (s2 := ⟨[(4, (vc (.bool j10)))], []⟩) ?_ ?_
  · rcases ite2_cases e11 with ⟨b3, e11⟩ | ⟨b3, e11⟩
    · obtain ⟨v4, e5, e11⟩ := bind_some e11
      rcases ite2_cases e11 with ⟨b6, e11⟩ | ⟨b6, e11⟩
      · rcases ite2_cases e11 with ⟨b7, e11⟩ | ⟨b7, e11⟩
        · obtain ⟨v8, e9, e11⟩ := bind_some e11
          replace e11 := some_eq e11
          subst e11
          exact AW.rA ⟨[(4, (vc (.bool v8)))], []⟩ (Tt ∧ ((((Eqc (.int .i64 a0.Bones)) ∧ (Eqc (sl 4 cs_Pose a0.Frames)) ∧ Tt) ∧ Tt) ∧ CallOK Try.prog 9 [.agg (cs_Recording a0)] [.one (.bool v1)]) ∧ (Tt ∧ v1 = true) ∧ Tt ∧ ((((Eqc (.int .i64 a1.Bones)) ∧ (Eqc (sl 4 cs_Pose a1.Frames)) ∧ Tt) ∧ Tt) ∧ CallOK Try.prog 9 [.agg (cs_Recording a1)] [.one (.bool v4)]) ∧ Tt ∧ (Tt ∧ v4 = true) ∧ T2 (T4 ((Tt ∧ (a0.Bones == a1.Bones) = true) ∧ T4 ((((Eqc (sl 4 cs_Pose a0.Frames)) ∧ (Eqc (sl 4 cs_Pose a1.Frames)) ∧ (Eqc (.fn 24 0 fun _ => .nilptr)) ∧ Tt) ∧ CallOK Try.prog 23 [.one (sl 4 cs_Pose a0.Frames), .one (sl 4 cs_Pose a1.Frames), .one (.fn 24 0 fun _ => .nilptr)] [.one (.bool v8)]) ∧ T2 Tt)))) [.no, .call [.agg (cs_Recording a0)] [.one (.bool v1)] [[.view]], .dec true, .no, .call [.agg (cs_Recording a1)] [.one (.bool v4)] [[.view]], .no, .dec true, .no, .no, .no, .no, .no, .no, .dec true, .no, .no, .no, .no, .call [.one (sl 4 cs_Pose a0.Frames), .one (sl 4 cs_Pose a1.Frames), .one (.fn 24 0 fun _ => .nilptr)] [.one (.bool v8)] [[.view]]] [4] [] ⟨tr, ⟨⟨⟨rfl, rfl, tr⟩, tr⟩, ok_impl_ValidRecording K a0 v1 e2⟩, ⟨tr, b3⟩, tr, ⟨⟨⟨rfl, rfl, tr⟩, tr⟩, ok_impl_ValidRecording K a1 v4 e5⟩, tr, ⟨tr, b6⟩, tr, tr, tr, tr, tr, tr, ⟨tr, b7⟩, tr, tr, tr, tr, ⟨⟨rfl, rfl, rfl, tr⟩, ok_slices_EqualFunc_impl_Pose_impl_Pose_impl_Pose_impl_Pose K a0.Frames a1.Frames v8 e9⟩, tr, tr, tr⟩ ⟨rfl, rfl⟩
        · replace e11 := some_eq e11
          subst e11
          exact AW.rA ⟨[(4, (vc (.bool false)))], []⟩ (Tt ∧ ((((Eqc (.int .i64 a0.Bones)) ∧ (Eqc (sl 4 cs_Pose a0.Frames)) ∧ Tt) ∧ Tt) ∧ CallOK Try.prog 9 [.agg (cs_Recording a0)] [.one (.bool v1)]) ∧ (Tt ∧ v1 = true) ∧ Tt ∧ ((((Eqc (.int .i64 a1.Bones)) ∧ (Eqc (sl 4 cs_Pose a1.Frames)) ∧ Tt) ∧ Tt) ∧ CallOK Try.prog 9 [.agg (cs_Recording a1)] [.one (.bool v4)]) ∧ Tt ∧ (Tt ∧ v4 = true) ∧ T2 (T4 ((Tt ∧ (a0.Bones == a1.Bones) = false) ∧ Tt ∧ T2 (T4 Tt)))) [.no, .call [.agg (cs_Recording a0)] [.one (.bool v1)] [[.view]], .dec true, .no, .call [.agg (cs_Recording a1)] [.one (.bool v4)] [[.view]], .no, .dec true, .no, .no, .no, .no, .no, .no, .dec false] [4] [] ⟨tr, ⟨⟨⟨rfl, rfl, tr⟩, tr⟩, ok_impl_ValidRecording K a0 v1 e2⟩, ⟨tr, b3⟩, tr, ⟨⟨⟨rfl, rfl, tr⟩, tr⟩, ok_impl_ValidRecording K a1 v4 e5⟩, tr, ⟨tr, b6⟩, tr, tr, tr, tr, tr, tr, ⟨tr, b7⟩, tr, tr, tr, tr, tr, tr, tr, tr⟩ ⟨rfl, rfl⟩
      · replace e11 := some_eq e11
        subst e11
        exact AW.rA ⟨[(4, (vc (.bool false)))], []⟩ (Tt ∧ ((((Eqc (.int .i64 a0.Bones)) ∧ (Eqc (sl 4 cs_Pose a0.Frames)) ∧ Tt) ∧ Tt) ∧ CallOK Try.prog 9 [.agg (cs_Recording a0)] [.one (.bool v1)]) ∧ (Tt ∧ v1 = true) ∧ Tt ∧ ((((Eqc (.int .i64 a1.Bones)) ∧ (Eqc (sl 4 cs_Pose a1.Frames)) ∧ Tt) ∧ Tt) ∧ CallOK Try.prog 9 [.agg (cs_Recording a1)] [.one (.bool v4)]) ∧ Tt ∧ (Tt ∧ v4 = false) ∧ T2 (T4 (T4 (T4 Tt)))) [.no, .call [.agg (cs_Recording a0)] [.one (.bool v1)] [[.view]], .dec true, .no, .call [.agg (cs_Recording a1)] [.one (.bool v4)] [[.view]], .no, .dec false] [4] [] ⟨tr, ⟨⟨⟨rfl, rfl, tr⟩, tr⟩, ok_impl_ValidRecording K a0 v1 e2⟩, ⟨tr, b3⟩, tr, ⟨⟨⟨rfl, rfl, tr⟩, tr⟩, ok_impl_ValidRecording K a1 v4 e5⟩, tr, ⟨tr, b6⟩, tr, tr, tr, tr, tr, tr, tr, tr, tr, tr, tr, tr, tr, tr, tr⟩ ⟨rfl, rfl⟩
    · replace e11 := some_eq e11
      subst e11
      exact AW.rA ⟨[(4, (vc (.bool false)))], []⟩ (Tt ∧ ((((Eqc (.int .i64 a0.Bones)) ∧ (Eqc (sl 4 cs_Pose a0.Frames)) ∧ Tt) ∧ Tt) ∧ CallOK Try.prog 9 [.agg (cs_Recording a0)] [.one (.bool v1)]) ∧ (Tt ∧ v1 = false) ∧ T2 (T4 (T4 (T4 (T4 Tt))))) [.no, .call [.agg (cs_Recording a0)] [.one (.bool v1)] [[.view]], .dec false] [4] [] ⟨tr, ⟨⟨⟨rfl, rfl, tr⟩, tr⟩, ok_impl_ValidRecording K a0 v1 e2⟩, ⟨tr, b3⟩, tr, tr, tr, tr, tr, tr, tr, tr, tr, tr, tr, tr, tr, tr, tr, tr, tr, tr, tr⟩ ⟨rfl, rfl⟩
  refine thenQ_normal ?_
  refine AW.ret ?_
  replace h := some_eq h
  subst h
  exact ⟨.inr rfl, retOK_of [(.one (.c (.bool j10)))] (by kernel_rfl) ⟨⟨rfl, tr⟩, tr⟩ (of_decide_eq_true (by kernel_rfl))⟩

/-! laws.r8At -/
def laws_r8At (_K : Nat) (a0 : (List Int)) (a1 : Int) (a2 : Int) : Option (Int) :=
  (ite2 ((decide (a2 ≤ (1 : Int)))) (some true) (some (decide (a1 ≥ (a0.length : Int))))).bind fun j2 => ite2 (j2) (some (0 : Int)) (chk (0 ≤ a1 ∧ a1 < (a0.length : Int)) (chk (a2 ≠ 0) (some ((IntKind.i64.wrap (a0.getD a1.toNat default)).tmod a2))))

theorem ok_laws_r8At (K : Nat) (a0 : (List Int)) (a1 : Int) (a2 : Int) (o : (Int)) (h : laws_r8At K a0 a1 a2 = some o) : CallOK Try.prog 11 [.one (sl 1 (csI .u8) a0), .one (.int .i64 a1), .one (.int .i64 a2)] [.one (.int .i64 o)] := by
  refine callOK_of_AW Try.func11 rfl (by kernel_rfl) (Nat.le_of_ble_eq_true (by kernel_rfl)) ?_
  intro w0
  unfold laws_r8At at h
  refine AW.seq (AW.rA ⟨[(0, (vc (sl 1 (csI .u8) a0))), (1, (vc (.int .i64 a1))), (2, (vc (.int .i64 a2)))], []⟩ (Tt ∧ Tt) [] [0, 1, 2] [] ⟨tr, tr⟩ (thenQ_normal ?_))
  refine AW.seq ?_
  refine AW.seq ?_
  obtain ⟨j2, e3, h⟩ := bind_some h
  refine AW.join1 (s2 := ⟨[(0, (vc (sl 1 (csI .u8) a0))), (1, (vc (.int .i64 a1))), (2, (vc (.int .i64 a2))), (14, (vc (.bool j2)))], []⟩) ?_ ?_
  · rcases ite2_cases e3 with ⟨b1, e3⟩ | ⟨b1, e3⟩
    · replace e3 := some_eq e3
      subst e3
      exact AW.rA ⟨[(0, (vc (sl 1 (csI .u8) a0))), (1, (vc (.int .i64 a1))), (2, (vc (.int .i64 a2))), (14, (vc (.bool true)))], []⟩ (T2 ((Tt ∧ (decide (a2 ≤ (1 : Int))) = true) ∧ Tt ∧ T4 Tt)) [.no, .no, .dec true] [0, 1, 2, 14] [] ⟨tr, tr, ⟨tr, b1⟩, tr, tr, tr, tr, tr, tr⟩ ⟨rfl, rfl⟩
    · replace e3 := some_eq e3
      subst e3
      exact AW.rA ⟨[(0, (vc (sl 1 (csI .u8) a0))), (1, (vc (.int .i64 a1))), (2, (vc (.int .i64 a2))), (14, (vc (.bool (decide (a1 ≥ (a0.length : Int))))))], []⟩ (T2 ((Tt ∧ (decide (a2 ≤ (1 : Int))) = false) ∧ Tt ∧ T4 Tt)) [.no, .no, .dec false] [0, 1, 2, 14] [] ⟨tr, tr, ⟨tr, b1⟩, tr, tr, tr, tr, tr, tr⟩ ⟨rfl, rfl⟩
  refine thenQ_normal ?_
  rcases ite2_cases h with ⟨b4, h⟩ | ⟨b4, h⟩
  · refine AW.cond_t rfl b4 ?_
    refine AW.seq (AW.rA ⟨[(6, (vc (.int .i64 (0 : Int))))], []⟩ (Tt ∧ Tt) [] [6] [] ⟨tr, tr⟩ (thenQ_normal ?_))
    refine AW.ret ?_
    refine thenQ_ret ?_
    replace h := some_eq h
    subst h
    exact ⟨.inr rfl, retOK_of [(.one (.c (.int .i64 (0 : Int))))] (by kernel_rfl) ⟨⟨rfl, tr⟩, tr⟩ (of_decide_eq_true (by kernel_rfl))⟩
  · refine AW.cond_f rfl b4 ?_
    refine AW.skip ?_
    refine thenQ_normal ?_
    refine AW.seq ?_
    obtain ⟨c5, h⟩ := chk_some h
    obtain ⟨c6, h⟩ := chk_some h
    refine AW.rA ⟨[(6, (vc (.int .i64 ((IntKind.i64.wrap (a0.getD a1.toNat default)).tmod a2))))], []⟩ (T2 ((0 ≤ a1 ∧ a1 < (a0.length : Int)) ∧ Tt ∧ T2 ((a2 ≠ 0) ∧ Tt ∧ Tt))) [] [6] [] ⟨tr, tr, c5, tr, tr, tr, c6, tr, tr⟩ ?_
    refine thenQ_normal ?_
    refine AW.ret ?_
    replace h := some_eq h
    subst h
    exact ⟨.inr rfl, retOK_of [(.one (.c (.int .i64 ((IntKind.i64.wrap (a0.getD a1.toNat default)).tmod a2))))] (by kernel_rfl) ⟨⟨rfl, tr⟩, tr⟩ (of_decide_eq_true (by kernel_rfl))⟩

/-! slices.Clone[[]impl.Turn,impl.Turn] -/
def slices_Clone_impl_Turn_impl_Turn (_K : Nat) (a0 : (List Turn)) : Option ((List Turn)) :=
  chk ((([] : List Turn).length + a0.length) * 16 ≤ 140737488355328) (some (([] : List Turn) ++ a0))

theorem ok_slices_Clone_impl_Turn_impl_Turn (K : Nat) (a0 : (List Turn)) (o : ((List Turn))) (h : slices_Clone_impl_Turn_impl_Turn K a0 = some o) : CallOK Try.prog 44 [.one (sl 4 cs_Turn a0)] [.one (sl 4 cs_Turn o)] := by
  refine callOK_of_AW Try.func44 rfl (by kernel_rfl) (Nat.le_of_ble_eq_true (by kernel_rfl)) ?_
  intro w0
  unfold slices_Clone_impl_Turn_impl_Turn at h
  refine AW.seq (AW.rA ⟨[(0, (vc (sl 4 cs_Turn a0)))], []⟩ (Tt ∧ Tt) [] [0] [] ⟨tr, tr⟩ (thenQ_normal ?_))
  refine AW.seq ?_
  refine AW.seq ?_
  refine AW.nilA (d := 4) (n := a0.length) 1 [.no] [0] [] (s' := ⟨[(0, (vc (sl 4 cs_Turn a0)))], []⟩) (ob := Tt ∧ Tt) (by kernel_rfl) ⟨tr, tr⟩ ?_
  intro b2 b1
  cases b2
  · refine thenQ_normal ?_
    refine AW.cond_f (b := false) rfl rfl ?_
    refine AW.skip ?_
    refine thenQ_normal ?_
    refine AW.seq ?_
    obtain ⟨c3, h⟩ := chk_some h
    refine AW.rA ⟨[(2, (.v (.one (.lst 2 (([] : List Turn) ++ a0).length 4 (gl cs_Turn (([] : List Turn) ++ a0))))))], [(2, (.lst (([] : List Turn) ++ a0).length 4 (gl cs_Turn (([] : List Turn) ++ a0))))]⟩ ((([] : List Turn).length = 0 ∧ Tt) ∧ Tt ∧ ((([] : List Turn) ++ a0).length = ([] : List Turn).length + a0.length ∧ AppOb (([] : List Turn).length) (a0.length) 4 (gl cs_Turn ([] : List Turn)) (gl cs_Turn a0) (gl cs_Turn (([] : List Turn) ++ a0)) ∧ (∀ i j, i < a0.length → j < 4 → scalarC (gl cs_Turn a0 i j)) ∧ (([] : List Turn).length + a0.length) * 16 ≤ 140737488355328) ∧ Tt ∧ Tt) [.obj 1 ([] : List Turn).length (gl cs_Turn ([] : List Turn)), .no, .obj 2 (([] : List Turn) ++ a0).length (gl cs_Turn (([] : List Turn) ++ a0))] [2] [2] ⟨⟨rfl, tr⟩, tr, ⟨List.length_append, gl_append, gl_scalar sc_Turn _, c3⟩, tr, tr⟩ ?_
    refine thenQ_normal ?_
    refine AW.ret ?_
    replace h := some_eq h
    subst h
    exact ⟨.inr rfl, retOK_of [(.one (.lst 2 (([] : List Turn) ++ a0).length 4 (gl cs_Turn (([] : List Turn) ++ a0))))] (by kernel_rfl) ⟨rfl, tr⟩ (of_decide_eq_true (by kernel_rfl))⟩
  · obtain rfl := List.eq_nil_of_length_eq_zero (b1 rfl)
    replace h : some ([] : (List Turn)) = some o := by simpa [chk] using h
    refine thenQ_normal ?_
    refine AW.cond_t (b := true) rfl rfl ?_
    refine AW.seq (AW.rA ⟨[(2, (.v (.one .nils)))], []⟩ (Tt ∧ Tt) [] [2] [] ⟨tr, tr⟩ (thenQ_normal ?_))
    refine AW.ret ?_
    refine thenQ_ret ?_
    replace h := some_eq h
    subst h
    exact ⟨.inr rfl, retOK_of [(.one .nils)] (by kernel_rfl) ⟨rfl, tr⟩ (of_decide_eq_true (by kernel_rfl))⟩

/-! impl.frames -/
def impl_frames_l1 (K : Nat) (a0 : (List Pose)) : Nat → Int → (List Pose) → Option ((List Pose))
  | 0, _, _ => none
  | k + 1, x4, x5 => ite2 ((decide (x4 < (a0.length : Int)))) (chk (0 ≤ x4 ∧ x4 < (a0.length : Int)) ((slices_Clone_impl_Turn_impl_Turn K ((a0.getD x4.toNat default).Turns)).bind fun v8 => chk (0 ≤ x4 ∧ x4 < (x5.length : Int)) (impl_frames_l1 K a0 k (IntKind.i64.wrap (x4 + (1 : Int))) (x5.set x4.toNat (Pose.mk ((a0.getD x4.toNat default).Root) v8))))) (some x5)

def impl_frames (K : Nat) (a0 : (List Pose)) : Option ((List Pose)) :=
  chk (0 ≤ (a0.length : Int) ∧ (a0.length : Int).toNat * 40 ≤ 140737488355328) (impl_frames_l1 K a0 K (0 : Int) (List.replicate (a0.length : Int).toNat (default : Pose)))

theorem ok_impl_frames (K : Nat) (a0 : (List Pose)) (o : ((List Pose))) (h : impl_frames K a0 = some o) : CallOK Try.prog 27 [.one (sl 4 cs_Pose a0)] [.one (sl 4 cs_Pose o)] := by
  refine callOK_of_AW Try.func27 rfl (by kernel_rfl) (Nat.le_of_ble_eq_true (by kernel_rfl)) ?_
  intro w0
  unfold impl_frames at h
  refine AW.seq (AW.rA ⟨[(0, (vc (sl 4 cs_Pose a0)))], []⟩ (Tt ∧ Tt) [] [0] [] ⟨tr, tr⟩ (thenQ_normal ?_))
  refine AW.seq ?_
  obtain ⟨c1, h⟩ := chk_some h
  refine AW.rA ⟨[(0, (vc (sl 4 cs_Pose a0))), (3, (.v (.one (.arr 1))))], [(1, (.arr false (List.replicate (a0.length : Int).toNat (default : Pose)).length 4 (gl cs_Pose (List.replicate (a0.length : Int).toNat (default : Pose)))))]⟩ (T2 ((0 ≤ (a0.length : Int) ∧ (a0.length : Int) = (a0.length : Int) ∧ (((List.replicate (a0.length : Int).toNat (default : Pose)).length : Nat) : Int) = (a0.length : Int) ∧ (List.replicate (a0.length : Int).toNat (default : Pose)).length * 40 ≤ 140737488355328 ∧ ∀ i, i < (List.replicate (a0.length : Int).toNat (default : Pose)).length → zeroRow (fun _ => none) [(.c (.flt .f32 (default : F32).bits)), (.c (.flt .f32 (default : F32).bits)), (.c (.flt .f32 (default : F32).bits)), .nils] (gl cs_Pose (List.replicate (a0.length : Int).toNat (default : Pose)) i)) ∧ Tt ∧ Tt)) [.no, .no, .objA 1 (List.replicate (a0.length : Int).toNat (default : Pose)).length (gl cs_Pose (List.replicate (a0.length : Int).toNat (default : Pose)))] [0, 3] [1] ⟨tr, tr, ⟨c1.1, rfl, len_rep c1.1, rep_bytes c1.2, fun i hi => gl_zero (cs := cs_Pose) (zs := [(.c (.flt .f32 (default : F32).bits)), (.c (.flt .f32 (default : F32).bits)), (.c (.flt .f32 (default : F32).bits)), .nils]) (n := (a0.length : Int).toNat) ⟨⟨rfl, tr⟩, ⟨rfl, tr⟩, ⟨rfl, tr⟩, rfl, tr⟩ i (rep_lt hi)⟩, tr, tr⟩ ?_
  refine thenQ_normal ?_
  refine AW.seq ?_
  refine AW.seq (AW.rA ⟨[(3, (.v (.one (.arr 1)))), (9, (vc (sl 4 cs_Pose a0))), (10, (vc (.int .i64 (a0.length : Int)))), (11, (vc (.int .i64 (0 : Int))))], [(1, (.arr false (List.replicate (a0.length : Int).toNat (default : Pose)).length 4 (gl cs_Pose (List.replicate (a0.length : Int).toNat (default : Pose)))))]⟩ (Tt ∧ T2 Tt) [] [3, 9, 10, 11] [1] ⟨tr, tr, tr, tr⟩ (thenQ_normal ?_))
  refine AW.block ?_
  refine AW.loopQ (σ := Nat × Int × (List Pose)) (fun p => ⟨[(3, (.v (.one (.arr 1)))), (9, (vc (sl 4 cs_Pose a0))), (10, (vc (.int .i64 (a0.length : Int)))), (11, (vc (.int .i64 p.2.1)))], [(1, (.arr false p.2.2.length 4 (gl cs_Pose p.2.2)))]⟩) (fun p => impl_frames_l1 K a0 p.1 p.2.1 p.2.2 = some o) (fun p => p.1) (K, (0 : Int), (List.replicate (a0.length : Int).toNat (default : Pose))) h ?_
  clear h
  rintro ⟨k, x4, x5⟩ h
  replace h : impl_frames_l1 K a0 k x4 x5 = some o := h
  show AW _ _ (⟨[(3, (.v (.one (.arr 1)))), (9, (vc (sl 4 cs_Pose a0))), (10, (vc (.int .i64 (a0.length : Int)))), (11, (vc (.int .i64 x4)))], [(1, (.arr false x5.length 4 (gl cs_Pose x5)))]⟩ : St) _
  obtain _ | k := k
  · rw [impl_frames_l1] at h; cases h
  rw [impl_frames_l1] at h
  refine AW.seq (AW.rA ⟨[(3, (.v (.one (.arr 1)))), (9, (vc (sl 4 cs_Pose a0))), (10, (vc (.int .i64 (a0.length : Int)))), (11, (vc (.int .i64 x4))), (12, (vc (.bool (decide (x4 < (a0.length : Int))))))], [(1, (.arr false x5.length 4 (gl cs_Pose x5)))]⟩ (Tt ∧ Tt) [] [3, 9, 10, 11, 12] [1] ⟨tr, tr⟩ (thenQ_normal ?_))
  refine AW.seq ?_
  rcases ite2_cases h with ⟨b6, h⟩ | ⟨b6, h⟩
  · refine AW.cond_t rfl b6 ?_
    refine AW.skip ?_
    refine thenQ_normal ?_
    refine AW.seq ?_
    refine AW.block ?_
    refine AW.seq ?_
    obtain ⟨c7, h⟩ := chk_some h
    refine AW.rA ⟨[(3, (.v (.one (.arr 1)))), (4, (vc (.int .i64 x4))), (5, (vp 6 0)), (9, (vc (sl 4 cs_Pose a0))), (10, (vc (.int .i64 (a0.length : Int)))), (11, (vc (.int .i64 x4)))], [(1, (.arr false x5.length 4 (gl cs_Pose x5))), (6, (.box [(.c (.flt .f32 (((a0.getD x4.toNat default).Root).X).bits)), (.c (.flt .f32 (((a0.getD x4.toNat default).Root).Y).bits)), (.c (.flt .f32 (((a0.getD x4.toNat default).Root).Z).bits)), (.c (sl 4 cs_Turn ((a0.getD x4.toNat default).Turns)))]))]⟩ (Tt ∧ (0 ≤ x4 ∧ x4 < (a0.length : Int)) ∧ T4 Tt) [.no, .no, .no, .box 6] [3, 4, 5, 9, 10, 11] [1, 6] ⟨tr, c7, tr, tr, tr, tr, tr⟩ ?_
    refine thenQ_normal ?_
    obtain ⟨v8, e9, h⟩ := bind_some h
    obtain ⟨c10, h⟩ := chk_some h
    refine AW.dA ⟨[(3, (.v (.one (.arr 1)))), (9, (vc (sl 4 cs_Pose a0))), (10, (vc (.int .i64 (a0.length : Int)))), (11, (vc (.int .i64 x4)))], [(1, (.arr false (x5.set x4.toNat (Pose.mk ((a0.getD x4.toNat default).Root) v8)).length 4 (gl cs_Pose (x5.set x4.toNat (Pose.mk ((a0.getD x4.toNat default).Root) v8)))))]⟩ ((T2 (T4 ((((Eqc (sl 4 cs_Turn ((a0.getD x4.toNat default).Turns))) ∧ Tt) ∧ CallOK Try.prog 44 [.one (sl 4 cs_Turn ((a0.getD x4.toNat default).Turns))] [.one (sl 4 cs_Turn v8)]) ∧ Tt ∧ (0 ≤ x4 ∧ x4 < (x5.length : Int)) ∧ Tt))) ∧ (((x5.set x4.toNat (Pose.mk ((a0.getD x4.toNat default).Root) v8)).length = x5.length ∧ SetOb x5.length 4 x4.toNat 0 4 (gl cs_Pose x5) (gl cs_Pose (x5.set x4.toNat (Pose.mk ((a0.getD x4.toNat default).Root) v8))) ∧ ((List.range 4).map fun j => (cs_Pose (Pose.mk ((a0.getD x4.toNat default).Root) v8)).getD (0 + j) .nilptr) = ((List.range 4).map fun j => gl cs_Pose (x5.set x4.toNat (Pose.mk ((a0.getD x4.toNat default).Root) v8)) x4.toNat (0 + j)) ∧ ((((.flt .f32 (((a0.getD x4.toNat default).Root).X).bits) : C) = (.flt .f32 (((a0.getD x4.toNat default).Root).X).bits) ∧ Tt) ∧ (((.flt .f32 (((a0.getD x4.toNat default).Root).Y).bits) : C) = (.flt .f32 (((a0.getD x4.toNat default).Root).Y).bits) ∧ Tt) ∧ (((.flt .f32 (((a0.getD x4.toNat default).Root).Z).bits) : C) = (.flt .f32 (((a0.getD x4.toNat default).Root).Z).bits) ∧ Tt) ∧ (Eqc (sl 4 cs_Turn v8)) ∧ Tt) ∧ (false = true → ∀ j, j < 4 → isSeq (gl cs_Pose x5 x4.toNat (0 + j)) = false ∧ isSeq (gl cs_Pose (x5.set x4.toNat (Pose.mk ((a0.getD x4.toNat default).Root) v8)) x4.toNat (0 + j)) = false)) ∧ Tt)) 9 [.no, .no, .no, .no, .no, .no, .call [.one (sl 4 cs_Turn ((a0.getD x4.toNat default).Turns))] [.one (sl 4 cs_Turn v8)] [[.lst 7]], .no, .no, .set (x5.set x4.toNat (Pose.mk ((a0.getD x4.toNat default).Root) v8)).length (gl cs_Pose (x5.set x4.toNat (Pose.mk ((a0.getD x4.toNat default).Root) v8))) ((List.range 4).map fun j => (cs_Pose (Pose.mk ((a0.getD x4.toNat default).Root) v8)).getD (0 + j) .nilptr)] [3, 9, 10, 11] [1] ⟨⟨tr, tr, tr, tr, tr, tr, ⟨⟨rfl, tr⟩, ok_slices_Clone_impl_Turn_impl_Turn K ((a0.getD x4.toNat default).Turns) v8 e9⟩, tr, c10, tr⟩, ⟨⟨List.length_set, gl_set, (gl_atp (lt_of_bound c10)).symm, ⟨⟨rfl, tr⟩, ⟨rfl, tr⟩, ⟨rfl, tr⟩, rfl, tr⟩, (fun h => nomatch h)⟩, tr⟩⟩ ?_
    refine blockQ_normal ?_
    refine thenQ_normal ?_
    refine AW.rA ⟨[(3, (.v (.one (.arr 1)))), (9, (vc (sl 4 cs_Pose a0))), (10, (vc (.int .i64 (a0.length : Int)))), (11, (vc (.int .i64 (IntKind.i64.wrap (x4 + (1 : Int))))))], [(1, (.arr false (x5.set x4.toNat (Pose.mk ((a0.getD x4.toNat default).Root) v8)).length 4 (gl cs_Pose (x5.set x4.toNat (Pose.mk ((a0.getD x4.toNat default).Root) v8)))))]⟩ (T2 Tt) [] [3, 9, 10, 11] [1] ⟨tr, tr, tr⟩ ?_
    exact loopQ_normal (k, (IntKind.i64.wrap (x4 + (1 : Int))), (x5.set x4.toNat (Pose.mk ((a0.getD x4.toNat default).Root) v8))) h (Nat.lt_succ_self k) (Sub.keep [3, 9, 10, 11] [1] (by kernel_rfl) (by kernel_rfl))
  · refine AW.cond_f rfl b6 ?_
    refine AW.exit ?_
    refine thenQ_exit ?_
    refine loopQ_exit ?_
    refine blockQ_exit ?_
    refine thenQ_normal ?_
    refine AW.seq (AW.rA ⟨[(2, (.v (.one (.arr 1))))], [(1, (.arr false x5.length 4 (gl cs_Pose x5)))]⟩ (T2 Tt) [] [2] [1] ⟨tr, tr, tr⟩ (thenQ_normal ?_))
    refine AW.ret ?_
    replace h := some_eq h
    subst h
    exact ⟨.inr rfl, retOK_of [(.one (.arr 1))] (by kernel_rfl) ⟨rfl, tr⟩ (of_decide_eq_true (by kernel_rfl))⟩

/-! impl.SliceFrames -/
def impl_SliceFrames (K : Nat) (a0 : Recording) (a1 : Int) (a2 : Int) : Option (Recording × Bool) :=
  (impl_ValidRecording K a0).bind fun v1 => (ite2 ((!v1)) (some true) (ite2 ((decide (a1 < (0 : Int)))) (some true) (ite2 ((decide (a1 > (a0.Frames.length : Int)))) (some true) (ite2 ((decide (a2 < (0 : Int)))) (some true) (some (decide (a2 > (IntKind.i64.wrap ((a0.Frames.length : Int) - a1))))))))).bind fun j7 => ite2 (j7) (some ((Recording.mk (0 : Int) ([] : (List Pose))), false)) (chk (0 ≤ a1 ∧ a1 ≤ (IntKind.i64.wrap (a1 + a2)) ∧ (IntKind.i64.wrap (a1 + a2)) ≤ (a0.Frames.length : Int)) ((impl_frames K ((a0.Frames.drop a1.toNat).take ((IntKind.i64.wrap (a1 + a2)).toNat - a1.toNat))).bind fun v11 => some ((Recording.mk a0.Bones v11), true)))

theorem ok_impl_SliceFrames (K : Nat) (a0 : Recording) (a1 : Int) (a2 : Int) (o : (Recording × Bool)) (h : impl_SliceFrames K a0 a1 a2 = some o) : CallOK Try.prog 13 [.agg (cs_Recording a0), .one (.int .i64 a1), .one (.int .i64 a2)] [.agg (cs_Recording o.1), .one (.bool o.2)] := by
  refine callOK_of_AW Try.func13 rfl (by kernel_rfl) (Nat.le_of_ble_eq_true (by kernel_rfl)) ?_
  intro w0
  unfold impl_SliceFrames at h
  refine AW.seq (AW.rA ⟨[(1, (vc (.int .i64 a1))), (2, (vc (.int .i64 a2))), (3, (vp 1 0)), (6, (vp 2 0))], [(1, (.box [(.c (.int .i64 a0.Bones)), (.c (sl 4 cs_Pose a0.Frames))])), (2, (.box [(.c (.int .i64 (0 : Int))), .nils]))]⟩ (Tt ∧ T2 Tt) [.box 1, .box 2] [1, 2, 3, 6] [1, 2] ⟨tr, tr, tr, tr⟩ (thenQ_normal ?_))
  refine AW.seq (AW.rA ⟨[(1, (vc (.int .i64 a1))), (2, (vc (.int .i64 a2))), (3, (vp 1 0)), (6, (vp 2 0)), (8, (vc (.int .i64 (a0.Frames.length : Int))))], [(1, (.box [(.c (.int .i64 a0.Bones)), (.c (sl 4 cs_Pose a0.Frames))])), (2, (.box [(.c (.int .i64 (0 : Int))), .nils]))]⟩ (T4 Tt) [] [1, 2, 3, 6, 8] [1, 2] ⟨tr, tr, tr, tr, tr⟩ (thenQ_normal ?_))
  refine AW.seq ?_
  refine AW.seq ?_
  obtain ⟨v1, e2, h⟩ := bind_some h
  obtain ⟨j7, e8, h⟩ := bind_some h
  refine AW.join1 (s2 := ⟨[(1, (vc (.int .i64 a1))), (2, (vc (.int .i64 a2))), (3, (vp 1 0)), (6, (vp 2 0)), (34, (vc (.bool j7)))], [(1, (.box [(.c (.int .i64 a0.Bones)), (.c (sl 4 cs_Pose a0.Frames))])), (2, (.box [(.c (.int .i64 (0 : Int))), .nils]))]⟩) ?_ ?_
  · rcases ite2_cases e8 with ⟨b3, e8⟩ | ⟨b3, e8⟩
    · replace e8 := some_eq e8
      subst e8
      exact AW.rA ⟨[(1, (vc (.int .i64 a1))), (2, (vc (.int .i64 a2))), (3, (vp 1 0)), (6, (vp 2 0)), (34, (vc (.bool true)))], [(1, (.box [(.c (.int .i64 a0.Bones)), (.c (sl 4 cs_Pose a0.Frames))])), (2, (.box [(.c (.int .i64 (0 : Int))), .nils]))]⟩ (Tt ∧ ((((Eqc (.int .i64 a0.Bones)) ∧ (Eqc (sl 4 cs_Pose a0.Frames)) ∧ Tt) ∧ Tt) ∧ CallOK Try.prog 9 [.agg (cs_Recording a0)] [.one (.bool v1)]) ∧ Tt ∧ (Tt ∧ (!v1) = true) ∧ Tt ∧ T2 (T4 (T4 (T4 (T4 Tt))))) [.no, .call [.agg (cs_Recording a0)] [.one (.bool v1)] [[.view]], .no, .dec true] [1, 2, 3, 6, 34] [1, 2] ⟨tr, ⟨⟨⟨rfl, rfl, tr⟩, tr⟩, ok_impl_ValidRecording K a0 v1 e2⟩, tr, ⟨tr, b3⟩, tr, tr, tr, tr, tr, tr, tr, tr, tr, tr, tr, tr, tr, tr, tr, tr, tr, tr, tr, tr⟩ ⟨rfl, rfl⟩
    · rcases ite2_cases e8 with ⟨b4, e8⟩ | ⟨b4, e8⟩
      · replace e8 := some_eq e8
        subst e8
        exact AW.rA ⟨[(1, (vc (.int .i64 a1))), (2, (vc (.int .i64 a2))), (3, (vp 1 0)), (6, (vp 2 0)), (34, (vc (.bool true)))], [(1, (.box [(.c (.int .i64 a0.Bones)), (.c (sl 4 cs_Pose a0.Frames))])), (2, (.box [(.c (.int .i64 (0 : Int))), .nils]))]⟩ (Tt ∧ ((((Eqc (.int .i64 a0.Bones)) ∧ (Eqc (sl 4 cs_Pose a0.Frames)) ∧ Tt) ∧ Tt) ∧ CallOK Try.prog 9 [.agg (cs_Recording a0)] [.one (.bool v1)]) ∧ Tt ∧ (Tt ∧ (!v1) = false) ∧ Tt ∧ T2 ((Tt ∧ (decide (a1 < (0 : Int))) = true) ∧ Tt ∧ T2 (T4 (T4 (T4 Tt))))) [.no, .call [.agg (cs_Recording a0)] [.one (.bool v1)] [[.view]], .no, .dec false, .no, .no, .no, .dec true] [1, 2, 3, 6, 34] [1, 2] ⟨tr, ⟨⟨⟨rfl, rfl, tr⟩, tr⟩, ok_impl_ValidRecording K a0 v1 e2⟩, tr, ⟨tr, b3⟩, tr, tr, tr, ⟨tr, b4⟩, tr, tr, tr, tr, tr, tr, tr, tr, tr, tr, tr, tr, tr, tr, tr, tr⟩ ⟨rfl, rfl⟩
      · rcases ite2_cases e8 with ⟨b5, e8⟩ | ⟨b5, e8⟩
        · replace e8 := some_eq e8
          subst e8
          exact AW.rA ⟨[(1, (vc (.int .i64 a1))), (2, (vc (.int .i64 a2))), (3, (vp 1 0)), (6, (vp 2 0)), (34, (vc (.bool true)))], [(1, (.box [(.c (.int .i64 a0.Bones)), (.c (sl 4 cs_Pose a0.Frames))])), (2, (.box [(.c (.int .i64 (0 : Int))), .nils]))]⟩ (Tt ∧ ((((Eqc (.int .i64 a0.Bones)) ∧ (Eqc (sl 4 cs_Pose a0.Frames)) ∧ Tt) ∧ Tt) ∧ CallOK Try.prog 9 [.agg (cs_Recording a0)] [.one (.bool v1)]) ∧ Tt ∧ (Tt ∧ (!v1) = false) ∧ Tt ∧ T2 ((Tt ∧ (decide (a1 < (0 : Int))) = false) ∧ T4 ((Tt ∧ (decide (a1 > (a0.Frames.length : Int))) = true) ∧ T2 (T4 (T4 Tt))))) [.no, .call [.agg (cs_Recording a0)] [.one (.bool v1)] [[.view]], .no, .dec false, .no, .no, .no, .dec false, .no, .no, .no, .no, .dec true] [1, 2, 3, 6, 34] [1, 2] ⟨tr, ⟨⟨⟨rfl, rfl, tr⟩, tr⟩, ok_impl_ValidRecording K a0 v1 e2⟩, tr, ⟨tr, b3⟩, tr, tr, tr, ⟨tr, b4⟩, tr, tr, tr, tr, ⟨tr, b5⟩, tr, tr, tr, tr, tr, tr, tr, tr, tr, tr, tr⟩ ⟨rfl, rfl⟩
        · rcases ite2_cases e8 with ⟨b6, e8⟩ | ⟨b6, e8⟩
          · replace e8 := some_eq e8
            subst e8
            exact AW.rA ⟨[(1, (vc (.int .i64 a1))), (2, (vc (.int .i64 a2))), (3, (vp 1 0)), (6, (vp 2 0)), (34, (vc (.bool true)))], [(1, (.box [(.c (.int .i64 a0.Bones)), (.c (sl 4 cs_Pose a0.Frames))])), (2, (.box [(.c (.int .i64 (0 : Int))), .nils]))]⟩ (Tt ∧ ((((Eqc (.int .i64 a0.Bones)) ∧ (Eqc (sl 4 cs_Pose a0.Frames)) ∧ Tt) ∧ Tt) ∧ CallOK Try.prog 9 [.agg (cs_Recording a0)] [.one (.bool v1)]) ∧ Tt ∧ (Tt ∧ (!v1) = false) ∧ Tt ∧ T2 ((Tt ∧ (decide (a1 < (0 : Int))) = false) ∧ T4 ((Tt ∧ (decide (a1 > (a0.Frames.length : Int))) = false) ∧ Tt ∧ T2 ((Tt ∧ (decide (a2 < (0 : Int))) = true) ∧ T2 (T4 Tt))))) [.no, .call [.agg (cs_Recording a0)] [.one (.bool v1)] [[.view]], .no, .dec false, .no, .no, .no, .dec false, .no, .no, .no, .no, .dec false, .no, .no, .no, .dec true] [1, 2, 3, 6, 34] [1, 2] ⟨tr, ⟨⟨⟨rfl, rfl, tr⟩, tr⟩, ok_impl_ValidRecording K a0 v1 e2⟩, tr, ⟨tr, b3⟩, tr, tr, tr, ⟨tr, b4⟩, tr, tr, tr, tr, ⟨tr, b5⟩, tr, tr, tr, ⟨tr, b6⟩, tr, tr, tr, tr, tr, tr, tr⟩ ⟨rfl, rfl⟩
          · replace e8 := some_eq e8
            subst e8
            exact AW.rA ⟨[(1, (vc (.int .i64 a1))), (2, (vc (.int .i64 a2))), (3, (vp 1 0)), (6, (vp 2 0)), (34, (vc (.bool (decide (a2 > (IntKind.i64.wrap ((a0.Frames.length : Int) - a1)))))))], [(1, (.box [(.c (.int .i64 a0.Bones)), (.c (sl 4 cs_Pose a0.Frames))])), (2, (.box [(.c (.int .i64 (0 : Int))), .nils]))]⟩ (Tt ∧ ((((Eqc (.int .i64 a0.Bones)) ∧ (Eqc (sl 4 cs_Pose a0.Frames)) ∧ Tt) ∧ Tt) ∧ CallOK Try.prog 9 [.agg (cs_Recording a0)] [.one (.bool v1)]) ∧ Tt ∧ (Tt ∧ (!v1) = false) ∧ Tt ∧ T2 ((Tt ∧ (decide (a1 < (0 : Int))) = false) ∧ T4 ((Tt ∧ (decide (a1 > (a0.Frames.length : Int))) = false) ∧ Tt ∧ T2 ((Tt ∧ (decide (a2 < (0 : Int))) = false) ∧ T2 (T4 Tt))))) [.no, .call [.agg (cs_Recording a0)] [.one (.bool v1)] [[.view]], .no, .dec false, .no, .no, .no, .dec false, .no, .no, .no, .no, .dec false, .no, .no, .no, .dec false] [1, 2, 3, 6, 34] [1, 2] ⟨tr, ⟨⟨⟨rfl, rfl, tr⟩, tr⟩, ok_impl_ValidRecording K a0 v1 e2⟩, tr, ⟨tr, b3⟩, tr, tr, tr, ⟨tr, b4⟩, tr, tr, tr, tr, ⟨tr, b5⟩, tr, tr, tr, ⟨tr, b6⟩, tr, tr, tr, tr, tr, tr, tr⟩ ⟨rfl, rfl⟩
  refine thenQ_normal ?_
  rcases ite2_cases h with ⟨b9, h⟩ | ⟨b9, h⟩
  · refine AW.cond_t rfl b9 ?_
    refine AW.seq (AW.rA ⟨[(6, (vp 2 0)), (7, (vc (.bool false)))], [(2, (.box [(.c (.int .i64 (0 : Int))), .nils]))]⟩ (Tt ∧ T2 Tt) [] [6, 7] [2] ⟨tr, tr, tr, tr⟩ (thenQ_normal ?_))
    refine AW.ret ?_
    refine thenQ_ret ?_
    replace h := some_eq h
    subst h
    exact ⟨.inr rfl, retOK_of [(.agg [(.c (.int .i64 (0 : Int))), .nils]), (.one (.c (.bool false)))] (by kernel_rfl) ⟨⟨⟨rfl, tr⟩, rfl, tr⟩, ⟨rfl, tr⟩, tr⟩ (of_decide_eq_true (by kernel_rfl))⟩
  · refine AW.cond_f rfl b9 ?_
    refine AW.skip ?_
    refine thenQ_normal ?_
    refine AW.seq ?_
    obtain ⟨c10, h⟩ := chk_some h
    obtain ⟨v11, e12, h⟩ := bind_some h
    refine AW.dA ⟨[(6, (vp 2 0)), (7, (vc (.bool true)))], [(2, (.box [(.c (.int .i64 a0.Bones)), (.lst 3 v11.length 4 (gl cs_Pose v11))])), (3, (.lst v11.length 4 (gl cs_Pose v11)))]⟩ ((T4 (T4 ((0 ≤ a1 ∧ a1 ≤ (IntKind.i64.wrap (a1 + a2)) ∧ (IntKind.i64.wrap (a1 + a2)) ≤ (a0.Frames.length : Int) ∧ ((((a0.Frames.drop a1.toNat).take ((IntKind.i64.wrap (a1 + a2)).toNat - a1.toNat)).length : Nat) : Int) = (IntKind.i64.wrap (a1 + a2)) - a1 ∧ ∀ i j, i < ((a0.Frames.drop a1.toNat).take ((IntKind.i64.wrap (a1 + a2)).toNat - a1.toNat)).length → j < 4 → gl cs_Pose ((a0.Frames.drop a1.toNat).take ((IntKind.i64.wrap (a1 + a2)).toNat - a1.toNat)) i j = gl cs_Pose a0.Frames (a1.toNat + i) j) ∧ (((Eqc (sl 4 cs_Pose ((a0.Frames.drop a1.toNat).take ((IntKind.i64.wrap (a1 + a2)).toNat - a1.toNat)))) ∧ Tt) ∧ CallOK Try.prog 27 [.one (sl 4 cs_Pose ((a0.Frames.drop a1.toNat).take ((IntKind.i64.wrap (a1 + a2)).toNat - a1.toNat)))] [.one (sl 4 cs_Pose v11)]) ∧ Tt ∧ Tt))) ∧ (T2 Tt)) 11 [.no, .no, .no, .no, .no, .no, .no, .no, .seq ((a0.Frames.drop a1.toNat).take ((IntKind.i64.wrap (a1 + a2)).toNat - a1.toNat)).length (gl cs_Pose ((a0.Frames.drop a1.toNat).take ((IntKind.i64.wrap (a1 + a2)).toNat - a1.toNat))), .call [.one (sl 4 cs_Pose ((a0.Frames.drop a1.toNat).take ((IntKind.i64.wrap (a1 + a2)).toNat - a1.toNat)))] [.one (sl 4 cs_Pose v11)] [[.lst 3]]] [6, 7] [2, 3] ⟨⟨tr, tr, tr, tr, tr, tr, tr, tr, ⟨c10.1, c10.2.1, c10.2.2, (gl_drop (sz := 4) (cs := cs_Pose) c10.1 c10.2.1 c10.2.2).1, (gl_drop c10.1 c10.2.1 c10.2.2).2⟩, ⟨⟨rfl, tr⟩, ok_impl_frames K ((a0.Frames.drop a1.toNat).take ((IntKind.i64.wrap (a1 + a2)).toNat - a1.toNat)) v11 e12⟩, tr, tr⟩, ⟨tr, tr, tr⟩⟩ ?_
    refine thenQ_normal ?_
    refine AW.ret ?_
    replace h := some_eq h
    subst h
    exact ⟨.inr rfl, retOK_of [(.agg [(.c (.int .i64 a0.Bones)), (.lst 3 v11.length 4 (gl cs_Pose v11))]), (.one (.c (.bool true)))] (by kernel_rfl) ⟨⟨⟨rfl, tr⟩, rfl, tr⟩, ⟨rfl, tr⟩, tr⟩ (of_decide_eq_true (by kernel_rfl))⟩

end
end Go.Fw
