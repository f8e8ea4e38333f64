/- Functions of the program: what each computes, and that it computes just that. -/
import Derived.Test.YtcgakaboochpaaeDoorFwTy
import Derived.Test.YtcgakaboochpaaeDoorFwH
import Derived.Test.YtcgakaboochpaaeDoorFwV
import Derived.Test.YtcgakaboochpaaeDoorFwLB
import Derived.Test.YtcgakaboochpaaeDoorFwSh
import Derived.Test.YtcgakaboochpaaeDoorFwLX
import Derived.Test.YtcgakaboochpaaeDoorFwHx
import Derived.Test.YtcgakaboochpaaeDoorFwLS
import Derived.Test.YtcgakaboochpaaeDoorFwPx
import Derived.Test.YtcgakaboochpaaeDoorProg
import Derived.KernelRfl
namespace Go.Fw
open Go Go.Proofs
noncomputable section
set_option maxRecDepth 10000

/-! spec.l01Cut -/
def spec_l01Cut_l1 (K : Nat) (a0 : ByteArray) (a1 : Int) : Nat → Int → Int → (List ByteArray) → Option ((List ByteArray))
  | 0, _, _, _ => none
  | k + 1, x4, x5, x6 => ite2 ((decide (x5 ≤ (a0.size : Int)))) ((ite2 ((x5 == (a0.size : Int))) (some true) (chk (0 ≤ x5 ∧ x5 < (a0.size : Int)) (some ((bt a0 x5.toNat) == a1)))).bind fun j10 => ite2 (j10) (chk (0 ≤ x4 ∧ x4 ≤ x5 ∧ x5 ≤ (a0.size : Int)) (chk ((x6.length + ([(a0.extract x4.toNat x5.toNat)]).length) * 16 ≤ 140737488355328) (spec_l01Cut_l1 K a0 a1 k (IntKind.i64.wrap (x5 + (1 : Int))) (IntKind.i64.wrap (x5 + (1 : Int))) (x6 ++ ([(a0.extract x4.toNat x5.toNat)]))))) (spec_l01Cut_l1 K a0 a1 k x4 (IntKind.i64.wrap (x5 + (1 : Int))) x6)) (some x6)

def spec_l01Cut (K : Nat) (a0 : ByteArray) (a1 : Int) : Option ((List ByteArray)) :=
  spec_l01Cut_l1 K a0 a1 K (0 : Int) (0 : Int) ([] : List ByteArray)

theorem ok_spec_l01Cut (K : Nat) (a0 : ByteArray) (a1 : Int) (o : ((List ByteArray))) (h : spec_l01Cut K a0 a1 = some o) : CallOK Tryd.prog 17 [.one (.str a0), .one (.int .u8 a1)] [.one (sl 1 csS o)] := by
  refine callOK_of_AW Tryd.func17 rfl (by kernel_rfl) (Nat.le_of_ble_eq_true (by kernel_rfl)) ?_
  intro w0
  unfold spec_l01Cut at h
  refine AW.sC (Tt ∧ Tt) [] [0, 1] [] ⟨tr, tr⟩ ?_
  refine AW.sC ((([] : List ByteArray).length = 0 ∧ Tt) ∧ Tt ∧ Tt) [.obj 1 ([] : List ByteArray).length (gl csS ([] : List ByteArray))] [0, 1, 5] [1] ⟨⟨rfl, tr⟩, tr, tr⟩ ?_
  refine AW.sC (Tt ∧ Tt) [] [0, 1, 5, 6] [1] ⟨tr, tr⟩ ?_
  refine AW.seq ?_
  refine AW.sA ⟨[(0, (vc (.str a0))), (1, (vc (.int .u8 a1))), (5, (vL 1 1 csS ([] : List ByteArray))), (6, (vI (0 : Int))), (7, (vI (0 : Int)))], [(1, (oL 1 csS ([] : List ByteArray)))]⟩ (Tt ∧ Tt) [] [0, 1, 5, 6, 7] [1] ⟨tr, tr⟩ ?_
  refine AW.block ?_
  refine AW.loopQ (σ := Nat × Int × Int × (List ByteArray)) (fun p => ⟨[(0, (vc (.str a0))), (1, (vc (.int .u8 a1))), (5, (vL 1 1 csS p.2.2.2)), (6, (vI p.2.1)), (7, (vI p.2.2.1))], [(1, (oL 1 csS p.2.2.2))]⟩) (fun p => spec_l01Cut_l1 K a0 a1 p.1 p.2.1 p.2.2.1 p.2.2.2 = some o) (fun p => p.1) (K, (0 : Int), (0 : Int), ([] : List ByteArray)) h ?_
  clear h
  rintro ⟨k, x4, x5, x6⟩ h
  replace h : spec_l01Cut_l1 K a0 a1 k x4 x5 x6 = some o := h
  show AW _ _ (⟨[(0, (vc (.str a0))), (1, (vc (.int .u8 a1))), (5, (vL 1 1 csS x6)), (6, (vI x4)), (7, (vI x5))], [(1, (oL 1 csS x6))]⟩ : St) _
  obtain _ | k := k
  · rw [spec_l01Cut_l1] at h; cases h
  rw [spec_l01Cut_l1] at h
  refine AW.seq ?_
  refine AW.sA ⟨[(0, (vc (.str a0))), (1, (vc (.int .u8 a1))), (5, (vL 1 1 csS x6)), (6, (vI x4)), (7, (vI x5)), (12, (vB (decide (x5 ≤ (a0.size : Int)))))], [(1, (oL 1 csS x6))]⟩ (T4 Tt) [] [0, 1, 5, 6, 7, 12] [1] ⟨tr, tr, tr, tr, tr⟩ ?_
  rcases ite2_cases h with ⟨b7, h⟩ | ⟨b7, h⟩
  · refine AW.cond_t rfl b7 ?_
    refine AW.skip ?_
    refine thenQ_normal ?_
    refine AW.seq ?_
    refine AW.block ?_
    refine AW.seq ?_
    obtain ⟨j10, e11, h⟩ := bind_some h
    refine AW.join1 (s2 := ⟨[(0, (vc (.str a0))), (1, (vc (.int .u8 a1))), (5, (vL 1 1 csS x6)), (6, (vI x4)), (7, (vI x5)), (25, (vB j10))], [(1, (oL 1 csS x6))]⟩) ?_ ?_
    · rcases ite2_cases e11 with ⟨b8, e11⟩ | ⟨b8, e11⟩
      · replace e11 := some_eq e11
        subst e11
        exact AW.rA ⟨[(0, (vc (.str a0))), (1, (vc (.int .u8 a1))), (5, (vL 1 1 csS x6)), (6, (vI x4)), (7, (vI x5)), (25, (vB true))], [(1, (oL 1 csS x6))]⟩ (T4 ((Tt ∧ (x5 == (a0.size : Int)) = true) ∧ T2 (T4 Tt))) [.no, .no, .no, .no, .dec true] [0, 1, 5, 6, 7, 25] [1] ⟨tr, tr, tr, tr, ⟨tr, b8⟩, tr, tr, tr, tr, tr, tr, tr⟩ ⟨rfl, rfl⟩
      · obtain ⟨c9, e11⟩ := chk_some e11
        replace e11 := some_eq e11
        subst e11
        exact AW.rA ⟨[(0, (vc (.str a0))), (1, (vc (.int .u8 a1))), (5, (vL 1 1 csS x6)), (6, (vI x4)), (7, (vI x5)), (25, (vB ((bt a0 x5.toNat) == a1)))], [(1, (oL 1 csS x6))]⟩ (T4 ((Tt ∧ (x5 == (a0.size : Int)) = false) ∧ T2 ((0 ≤ x5 ∧ x5 < (a0.size : Int)) ∧ Tt ∧ T2 Tt))) [.no, .no, .no, .no, .dec false] [0, 1, 5, 6, 7, 25] [1] ⟨tr, tr, tr, tr, ⟨tr, b8⟩, tr, tr, c9, tr, tr, tr, tr⟩ ⟨rfl, rfl⟩
    refine thenQ_normal ?_
    rcases ite2_cases h with ⟨b12, h⟩ | ⟨b12, h⟩
    · refine AW.cond_t rfl b12 ?_
      refine AW.seq ?_
      obtain ⟨c13, h⟩ := chk_some h
      obtain ⟨c14, h⟩ := chk_some h
      refine AW.tC (T4 ((0 ≤ x4 ∧ x4 ≤ x5 ∧ x5 ≤ (a0.size : Int)) ∧ (([(a0.extract x4.toNat x5.toNat)]).length = 1 ∧ (((.str (a0.extract x4.toNat x5.toNat)) : C) = (.str (a0.extract x4.toNat x5.toNat)) ∧ Tt) ∧ Tt) ∧ ((x6 ++ ([(a0.extract x4.toNat x5.toNat)])).length = x6.length + ([(a0.extract x4.toNat x5.toNat)]).length ∧ AppOb (x6.length) (([(a0.extract x4.toNat x5.toNat)]).length) 1 (gl csS x6) (gl csS ([(a0.extract x4.toNat x5.toNat)])) (gl csS (x6 ++ ([(a0.extract x4.toNat x5.toNat)]))) ∧ (∀ i j, i < ([(a0.extract x4.toNat x5.toNat)]).length → j < 1 → scalarC (gl csS ([(a0.extract x4.toNat x5.toNat)]) i j)) ∧ (x6.length + ([(a0.extract x4.toNat x5.toNat)]).length) * 16 ≤ 140737488355328) ∧ Tt ∧ Tt)) [.no, .no, .no, .no, .no, .obj 6 ([(a0.extract x4.toNat x5.toNat)]).length (gl csS ([(a0.extract x4.toNat x5.toNat)])), .objK 7 (x6 ++ ([(a0.extract x4.toNat x5.toNat)])).length (gl csS (x6 ++ ([(a0.extract x4.toNat x5.toNat)])))] [0, 1, 5, 7] [7] ⟨tr, tr, tr, tr, c13, ⟨rfl, ⟨⟨rfl, tr⟩, tr⟩⟩, ⟨List.length_append, gl_append, gl_scalar scS _, c14⟩, tr, tr⟩ ?_
      refine AW.rA ⟨[(0, (vc (.str a0))), (1, (vc (.int .u8 a1))), (5, (vL 7 1 csS (x6 ++ ([(a0.extract x4.toNat x5.toNat)])))), (6, (vI (IntKind.i64.wrap (x5 + (1 : Int))))), (7, (vI x5))], [(7, (oL 1 csS (x6 ++ ([(a0.extract x4.toNat x5.toNat)]))))]⟩ (Tt ∧ T2 Tt) [] [0, 1, 5, 6, 7] [7] ⟨tr, tr, tr, tr⟩ ?_
      refine blockQ_normal ?_
      refine thenQ_normal ?_
      refine AW.rA ⟨[(0, (vc (.str a0))), (1, (vc (.int .u8 a1))), (5, (vL 7 1 csS (x6 ++ ([(a0.extract x4.toNat x5.toNat)])))), (6, (vI (IntKind.i64.wrap (x5 + (1 : Int))))), (7, (vI (IntKind.i64.wrap (x5 + (1 : Int)))))], [(7, (oL 1 csS (x6 ++ ([(a0.extract x4.toNat x5.toNat)]))))]⟩ (Tt ∧ T2 Tt) [] [0, 1, 5, 6, 7] [7] ⟨tr, tr, tr, tr⟩ ?_
      exact loopQ_normal (k, (IntKind.i64.wrap (x5 + (1 : Int))), (IntKind.i64.wrap (x5 + (1 : Int))), (x6 ++ ([(a0.extract x4.toNat x5.toNat)]))) h (Nat.lt_succ_self k) (Sub.trans (Sub.swap 1 7 _ (by kernel_rfl) (by kernel_rfl)) (Sub.keep [0, 1, 5, 6, 7] [1] (by kernel_rfl) (by kernel_rfl)))
    · refine AW.cond_f rfl b12 ?_
      refine AW.skip ?_
      refine blockQ_normal ?_
      refine thenQ_normal ?_
      refine AW.rA ⟨[(0, (vc (.str a0))), (1, (vc (.int .u8 a1))), (5, (vL 1 1 csS x6)), (6, (vI x4)), (7, (vI (IntKind.i64.wrap (x5 + (1 : Int)))))], [(1, (oL 1 csS x6))]⟩ (Tt ∧ T2 Tt) [] [0, 1, 5, 6, 7] [1] ⟨tr, tr, tr, tr⟩ ?_
      exact loopQ_normal (k, x4, (IntKind.i64.wrap (x5 + (1 : Int))), x6) h (Nat.lt_succ_self k) (Sub.keep [0, 1, 5, 6, 7] [1] (by kernel_rfl) (by kernel_rfl))
  · refine AW.cond_f rfl b7 ?_
    refine AW.exit ?_
    refine thenQ_exit ?_
    refine loopQ_exit ?_
    refine blockQ_exit ?_
    refine thenQ_normal ?_
    refine AW.sA ⟨[(4, (vL 1 1 csS x6))], [(1, (oL 1 csS x6))]⟩ (T2 Tt) [] [4] [1] ⟨tr, tr, tr⟩ ?_
    refine AW.ret ?_
    replace h := some_eq h
    subst h
    exact ⟨.inr rfl, retOK_of [(.one (xL 1 1 csS x6))] (by kernel_rfl) ⟨rfl, tr⟩ (of_decide_eq_true (by kernel_rfl))⟩

/-! math.Float32frombits -/
def math_Float32frombits (_K : Nat) (a0 : Int) : Option (F32) :=
  Fl.ofBits .f32 a0

theorem ok_math_Float32frombits (K : Nat) (a0 : Int) (o : F32) (h : math_Float32frombits K a0 = some o) : CallOK Tryd.prog 37 [.one (.int .u32 a0)] [.one (.flt .f32 o.bits)] :=
  hand_ofBits (e := Extern.MathFloatBits.float32frombits) Tryd.func37 (by kernel_rfl) (by kernel_rfl) (by kernel_rfl) (by kernel_rfl) (fun _ _ => rfl) a0 o h

/-! spec.l01From -/
def spec_l01From (K : Nat) (a0 : Int) : Option (F32) :=
  (math_Float32frombits K (IntKind.u32.wrap a0)).bind fun v1 => some v1

theorem ok_spec_l01From (K : Nat) (a0 : Int) (o : (F32)) (h : spec_l01From K a0 = some o) : CallOK Tryd.prog 30 [.one (.int .i64 a0)] [.one (.flt .f32 o.bits)] := by
  refine callOK_of_AW Tryd.func30 rfl (by kernel_rfl) (Nat.le_of_ble_eq_true (by kernel_rfl)) ?_
  intro w0
  unfold spec_l01From at h
  refine AW.sC (Tt ∧ Tt) [] [0] [] ⟨tr, tr⟩ ?_
  refine AW.seq ?_
  obtain ⟨v1, e2, h⟩ := bind_some h
  refine AW.tA ⟨[(2, (vc (.flt .f32 v1.bits)))], []⟩ (T2 ((((Eqc (.int .u32 (IntKind.u32.wrap a0))) ∧ Tt) ∧ CallOK Tryd.prog 37 [.one (.int .u32 (IntKind.u32.wrap a0))] [.one (.flt .f32 v1.bits)]) ∧ Tt ∧ Tt)) [.no, .no, .call [.one (.int .u32 (IntKind.u32.wrap a0))] [.one (.flt .f32 v1.bits)] [[.view]]] [2] [] ⟨tr, tr, ⟨⟨rfl, tr⟩, ok_math_Float32frombits K (IntKind.u32.wrap a0) v1 e2⟩, tr, tr⟩ ?_
  refine AW.ret ?_
  replace h := some_eq h
  subst h
  exact ⟨.inr rfl, retOK_of [(.one (cF v1))] (by kernel_rfl) ⟨⟨rfl, tr⟩, tr⟩ (of_decide_eq_true (by kernel_rfl))⟩

/-! math.Float32bits -/
def math_Float32bits (_K : Nat) (a0 : F32) : Option (Int) :=
  a0.toBits

theorem ok_math_Float32bits (K : Nat) (a0 : F32) (o : Int) (h : math_Float32bits K a0 = some o) : CallOK Tryd.prog 39 [.one (.flt .f32 a0.bits)] [.one (.int .u32 o)] :=
  hand_toBits (e := Extern.MathFloatBits.float32bits) Tryd.func39 (by kernel_rfl) (by kernel_rfl) (by kernel_rfl) (by kernel_rfl) (fun _ _ => rfl) a0 o h

/-! spec.l01Bits -/
def spec_l01Bits (K : Nat) (a0 : F32) : Option (Int) :=
  ite2 ((a0.ne a0)) (some (2143289344 : Int)) ((math_Float32bits K a0).bind fun v2 => some (IntKind.i64.wrap v2))

theorem ok_spec_l01Bits (K : Nat) (a0 : F32) (o : (Int)) (h : spec_l01Bits K a0 = some o) : CallOK Tryd.prog 31 [.one (.flt .f32 a0.bits)] [.one (.int .i64 o)] := by
  refine callOK_of_AW Tryd.func31 rfl (by kernel_rfl) (Nat.le_of_ble_eq_true (by kernel_rfl)) ?_
  intro w0
  unfold spec_l01Bits at h
  refine AW.sC (Tt ∧ Tt) [] [0] [] ⟨tr, tr⟩ ?_
  refine AW.seq ?_
  refine AW.sA ⟨[(0, (vc (.flt .f32 a0.bits))), (5, (vB (a0.ne a0)))], []⟩ (Tt ∧ T2 Tt) [] [0, 5] [] ⟨tr, tr, tr, tr⟩ ?_
  rcases ite2_cases h with ⟨b1, h⟩ | ⟨b1, h⟩
  · refine AW.cond_t rfl b1 ?_
    refine AW.sA ⟨[(2, (vI (2143289344 : Int)))], []⟩ (Tt ∧ Tt) [] [2] [] ⟨tr, tr⟩ ?_
    refine AW.ret ?_
    refine thenQ_ret ?_
    replace h := some_eq h
    subst h
    exact ⟨.inr rfl, retOK_of [(.one (cI (2143289344 : Int)))] (by kernel_rfl) ⟨⟨rfl, tr⟩, tr⟩ (of_decide_eq_true (by kernel_rfl))⟩
  · refine AW.cond_f rfl b1 ?_
    refine AW.skip ?_
    refine thenQ_normal ?_
    refine AW.seq ?_
    obtain ⟨v2, e3, h⟩ := bind_some h
    refine AW.tA ⟨[(2, (vI (IntKind.i64.wrap v2)))], []⟩ (Tt ∧ (((eF a0) ∧ Tt) ∧ CallOK Tryd.prog 39 [.one (.flt .f32 a0.bits)] [.one (.int .u32 v2)]) ∧ T2 Tt) [.no, .call [.one (.flt .f32 a0.bits)] [.one (.int .u32 v2)] [[.view]]] [2] [] ⟨tr, ⟨⟨rfl, tr⟩, ok_math_Float32bits K a0 v2 e3⟩, tr, tr, tr⟩ ?_
    refine AW.ret ?_
    replace h := some_eq h
    subst h
    exact ⟨.inr rfl, retOK_of [(.one (cI (IntKind.i64.wrap v2)))] (by kernel_rfl) ⟨⟨rfl, tr⟩, tr⟩ (of_decide_eq_true (by kernel_rfl))⟩

/-! spec.l01NRead -/
def spec_l01NRead_l4 (K : Nat) (v2 : ((List ByteArray))) (x7 : Int) : Nat → Int → Int → Option ((Int) ⊕ (Unit))
  | 0, _, _ => none
  | k + 1, x41, x42 => ite2 ((decide (x42 < (8 : Int)))) (chk (0 ≤ x7 ∧ x7 < (v2.length : Int)) (chk (0 ≤ x42 ∧ x42 < ((v2.getD x7.toNat default).size : Int)) ((ite2 ((decide ((bt (v2.getD x7.toNat default) x42.toNat) ≥ (48 : Int)))) (some (decide ((bt (v2.getD x7.toNat default) x42.toNat) ≤ (57 : Int)))) (some false)).bind fun j47 => ite2 (j47) ((ite2 ((decide ((bt (v2.getD x7.toNat default) x42.toNat) ≥ (97 : Int)))) (some (decide ((bt (v2.getD x7.toNat default) x42.toNat) ≤ (102 : Int)))) (some false)).bind fun j51 => ite2 (j51) (ite2 ((decide ((IntKind.i64.wrap ((IntKind.i64.wrap (IntKind.u8.wrap ((bt (v2.getD x7.toNat default) x42.toNat) - (97 : Int)))) + (10 : Int))) < (0 : Int)))) (some (.inr ())) (spec_l01NRead_l4 K v2 x7 k (IntKind.i64.wrap ((IntKind.i64.wrap ((16 : Int) * x41)) + (IntKind.i64.wrap ((IntKind.i64.wrap (IntKind.u8.wrap ((bt (v2.getD x7.toNat default) x42.toNat) - (97 : Int)))) + (10 : Int))))) (IntKind.i64.wrap (x42 + (1 : Int))))) (ite2 ((decide ((IntKind.i64.wrap (IntKind.u8.wrap ((bt (v2.getD x7.toNat default) x42.toNat) - (48 : Int)))) < (0 : Int)))) (some (.inr ())) (spec_l01NRead_l4 K v2 x7 k (IntKind.i64.wrap ((IntKind.i64.wrap ((16 : Int) * x41)) + (IntKind.i64.wrap (IntKind.u8.wrap ((bt (v2.getD x7.toNat default) x42.toNat) - (48 : Int)))))) (IntKind.i64.wrap (x42 + (1 : Int)))))) ((ite2 ((decide ((bt (v2.getD x7.toNat default) x42.toNat) ≥ (97 : Int)))) (some (decide ((bt (v2.getD x7.toNat default) x42.toNat) ≤ (102 : Int)))) (some false)).bind fun j57 => ite2 (j57) (ite2 ((decide ((IntKind.i64.wrap ((IntKind.i64.wrap (IntKind.u8.wrap ((bt (v2.getD x7.toNat default) x42.toNat) - (97 : Int)))) + (10 : Int))) < (0 : Int)))) (some (.inr ())) (spec_l01NRead_l4 K v2 x7 k (IntKind.i64.wrap ((IntKind.i64.wrap ((16 : Int) * x41)) + (IntKind.i64.wrap ((IntKind.i64.wrap (IntKind.u8.wrap ((bt (v2.getD x7.toNat default) x42.toNat) - (97 : Int)))) + (10 : Int))))) (IntKind.i64.wrap (x42 + (1 : Int))))) (ite2 ((decide (((-1) : Int) < (0 : Int)))) (some (.inr ())) (spec_l01NRead_l4 K v2 x7 k (IntKind.i64.wrap ((IntKind.i64.wrap ((16 : Int) * x41)) + ((-1) : Int))) (IntKind.i64.wrap (x42 + (1 : Int))))))))) (some (.inl x41))

def spec_l01NRead_l3 (K : Nat) (v2 : ((List ByteArray))) : Nat → Int → (List F32) → Option ((List F32) × Bool)
  | 0, _, _ => none
  | k + 1, x7, x8 => ite2 ((decide (x7 < (v2.length : Int)))) (chk (0 ≤ x7 ∧ x7 < (v2.length : Int)) (ite2 ((((v2.getD x7.toNat default).size : Int) != (8 : Int))) (some (([] : (List F32)), false)) ((spec_l01NRead_l4 K v2 x7 K (0 : Int) (0 : Int)).bind (fun z0 => sumC z0 (fun j37 => (spec_l01From K j37).bind fun v62 => (spec_l01Bits K v62).bind fun v64 => ite2 ((v64 != j37)) (some (([] : (List F32)), false)) (chk ((x8.length + ([v62]).length) * 4 ≤ 140737488355328) (spec_l01NRead_l3 K v2 k (IntKind.i64.wrap (x7 + (1 : Int))) (x8 ++ ([v62]))))) (fun j38 => some (([] : (List F32)), false)))))) (some (x8, true))

def spec_l01NRead (K : Nat) (a0 : ByteArray) : Option ((List F32) × Bool) :=
  ite2 ((a0.toList == (ByteArray.mk #[110, 111, 110, 101]).toList)) (some (([] : List F32), true)) ((spec_l01Cut K a0 (44 : Int)).bind fun v2 => ite2 ((decide ((v2.length : Int) > (256 : Int)))) (some (([] : (List F32)), false)) (spec_l01NRead_l3 K v2 K (0 : Int) ([] : List F32)))

theorem ok_spec_l01NRead (K : Nat) (a0 : ByteArray) (o : ((List F32) × Bool)) (h : spec_l01NRead K a0 = some o) : CallOK Tryd.prog 24 [.one (.str a0)] [.one (sl 1 (csF .f32) o.1), .one (.bool o.2)] := by
  refine callOK_of_AW Tryd.func24 rfl (by kernel_rfl) (Nat.le_of_ble_eq_true (by kernel_rfl)) ?_
  intro w0
  unfold spec_l01NRead at h
  refine AW.sC (T2 Tt) [] [0] [] ⟨tr, tr, tr⟩ ?_
  refine AW.sC ((([] : List F32).length = 0 ∧ Tt) ∧ Tt ∧ Tt) [.obj 1 ([] : List F32).length (gl (csF .f32) ([] : List F32))] [0, 4] [1] ⟨⟨rfl, tr⟩, tr, tr⟩ ?_
  refine AW.seq ?_
  refine AW.sA ⟨[(0, (vc (.str a0))), (4, (vL 1 1 (csF .f32) ([] : List F32))), (14, (vB (a0.toList == (ByteArray.mk #[110, 111, 110, 101]).toList)))], [(1, (oL 1 (csF .f32) ([] : List F32)))]⟩ (T2 Tt) [] [0, 4, 14] [1] ⟨tr, tr, tr⟩ ?_
  rcases ite2_cases h with ⟨b1, h⟩ | ⟨b1, h⟩
  · refine AW.cond_t rfl b1 ?_
    refine AW.sA ⟨[(2, (vL 1 1 (csF .f32) ([] : List F32))), (3, (vB true))], [(1, (oL 1 (csF .f32) ([] : List F32)))]⟩ (Tt ∧ T2 Tt) [] [2, 3] [1] ⟨tr, tr, tr, tr⟩ ?_
    refine AW.ret ?_
    refine thenQ_ret ?_
    replace h := some_eq h
    subst h
    exact ⟨.inr rfl, retOK_of [(.one (xL 1 1 (csF .f32) ([] : List F32))), (.one (.c (.bool true)))] (by kernel_rfl) ⟨rfl, ⟨rfl, tr⟩, tr⟩ (of_decide_eq_true (by kernel_rfl))⟩
  · refine AW.cond_f rfl b1 ?_
    refine AW.skip ?_
    refine thenQ_normal ?_
    refine AW.seq ?_
    obtain ⟨v2, e3, h⟩ := bind_some h
    refine AW.tC (Tt ∧ (((Eqc (.str a0)) ∧ (Eqc (.int .u8 (44 : Int))) ∧ Tt) ∧ CallOK Tryd.prog 17 [.one (.str a0), .one (.int .u8 (44 : Int))] [.one (sl 1 csS v2)]) ∧ Tt ∧ Tt) [.no, .call [.one (.str a0), .one (.int .u8 (44 : Int))] [.one (sl 1 csS v2)] [[.lst 2]]] [4, 5] [1, 2] ⟨tr, ⟨⟨rfl, rfl, tr⟩, ok_spec_l01Cut K a0 (44 : Int) v2 e3⟩, tr, tr⟩ ?_
    refine AW.seq ?_
    refine AW.sA ⟨[(4, (vL 1 1 (csF .f32) ([] : List F32))), (5, (vL 2 1 csS v2)), (20, (vB (decide ((v2.length : Int) > (256 : Int)))))], [(1, (oL 1 (csF .f32) ([] : List F32))), (2, (oL 1 csS v2))]⟩ (Tt ∧ T2 Tt) [] [4, 5, 20] [1, 2] ⟨tr, tr, tr, tr⟩ ?_
    rcases ite2_cases h with ⟨b4, h⟩ | ⟨b4, h⟩
    · refine AW.cond_t rfl b4 ?_
      refine AW.sA ⟨[(2, (.v (.one .nils))), (3, (vB false))], []⟩ (T2 Tt) [] [2, 3] [] ⟨tr, tr, tr⟩ ?_
      refine AW.ret ?_
      refine thenQ_ret ?_
      replace h := some_eq h
      subst h
      exact ⟨.inr rfl, retOK_of [(.one .nils), (.one (.c (.bool false)))] (by kernel_rfl) ⟨rfl, ⟨rfl, tr⟩, tr⟩ (of_decide_eq_true (by kernel_rfl))⟩
    · refine AW.cond_f rfl b4 ?_
      refine AW.skip ?_
      refine thenQ_normal ?_
      refine AW.seq ?_
      refine AW.sA ⟨[(4, (vL 1 1 (csF .f32) ([] : List F32))), (5, (vL 2 1 csS v2)), (6, (vI (0 : Int)))], [(1, (oL 1 (csF .f32) ([] : List F32))), (2, (oL 1 csS v2))]⟩ (Tt ∧ Tt) [] [4, 5, 6] [1, 2] ⟨tr, tr⟩ ?_
      refine AW.block ?_
      refine AW.loopQ (σ := Nat × Int × (List F32)) (fun p => ⟨[(4, (vL 1 1 (csF .f32) p.2.2)), (5, (vL 2 1 csS v2)), (6, (vI p.2.1))], [(1, (oL 1 (csF .f32) p.2.2)), (2, (oL 1 csS v2))]⟩) (fun p => spec_l01NRead_l3 K v2 p.1 p.2.1 p.2.2 = some o) (fun p => p.1) (K, (0 : Int), ([] : List F32)) h ?_
      clear h
      rintro ⟨k, x7, x8⟩ h
      replace h : spec_l01NRead_l3 K v2 k x7 x8 = some o := h
      show AW _ _ (⟨[(4, (vL 1 1 (csF .f32) x8)), (5, (vL 2 1 csS v2)), (6, (vI x7))], [(1, (oL 1 (csF .f32) x8)), (2, (oL 1 csS v2))]⟩ : St) _
      obtain _ | k := k
      · rw [spec_l01NRead_l3] at h; cases h
      rw [spec_l01NRead_l3] at h
      refine AW.seq ?_
      refine AW.sA ⟨[(4, (vL 1 1 (csF .f32) x8)), (5, (vL 2 1 csS v2)), (6, (vI x7)), (24, (vB (decide (x7 < (v2.length : Int)))))], [(1, (oL 1 (csF .f32) x8)), (2, (oL 1 csS v2))]⟩ (T4 Tt) [] [4, 5, 6, 24] [1, 2] ⟨tr, tr, tr, tr, tr⟩ ?_
      rcases ite2_cases h with ⟨b9, h⟩ | ⟨b9, h⟩
      · refine AW.cond_t rfl b9 ?_
        refine AW.skip ?_
        refine thenQ_normal ?_
        refine AW.seq ?_
        refine AW.block ?_
        refine AW.seq ?_
        refine AW.seq ?_
        obtain ⟨c10, h⟩ := chk_some h
        refine AW.tA ⟨[(4, (vL 1 1 (csF .f32) x8)), (5, (vL 2 1 csS v2)), (6, (vI x7)), (32, (vB (((v2.getD x7.toNat default).size : Int) != (8 : Int))))], [(1, (oL 1 (csF .f32) x8)), (2, (oL 1 csS v2))]⟩ (T2 ((0 ≤ x7 ∧ x7 < (v2.length : Int)) ∧ Tt ∧ T2 Tt)) [] [4, 5, 6, 32] [1, 2] ⟨tr, tr, c10, tr, tr, tr, tr⟩ ?_
        rcases ite2_cases h with ⟨b11, h⟩ | ⟨b11, h⟩
        · refine AW.cond_t rfl b11 ?_
          refine AW.sA ⟨[(2, (.v (.one .nils))), (3, (vB false))], []⟩ (T2 Tt) [] [2, 3] [] ⟨tr, tr, tr⟩ ?_
          refine AW.ret ?_
          refine thenQ_ret ?_
          refine blockQ_ret ?_
          refine thenQ_ret ?_
          refine loopQ_ret ?_
          refine blockQ_ret ?_
          refine thenQ_ret ?_
          replace h := some_eq h
          subst h
          exact ⟨.inr rfl, retOK_of [(.one .nils), (.one (.c (.bool false)))] (by kernel_rfl) ⟨rfl, ⟨rfl, tr⟩, tr⟩ (of_decide_eq_true (by kernel_rfl))⟩
        · refine AW.cond_f rfl b11 ?_
          refine AW.skip ?_
          refine thenQ_normal ?_
          refine AW.sC (Tt ∧ Tt) [] [4, 5, 6, 7] [1, 2] ⟨tr, tr⟩ ?_
          refine AW.seq ?_
          refine AW.sA ⟨[(4, (vL 1 1 (csF .f32) x8)), (5, (vL 2 1 csS v2)), (6, (vI x7)), (7, (vI (0 : Int))), (8, (vI (0 : Int)))], [(1, (oL 1 (csF .f32) x8)), (2, (oL 1 csS v2))]⟩ (Tt ∧ Tt) [] [4, 5, 6, 7, 8] [1, 2] ⟨tr, tr⟩ ?_
          obtain ⟨j36, e35, h⟩ := bind_some h
          refine AW.joinM (cx := ?cx) ((fun z0 => sumQ z0 (fun j37 => OnlyE ?cx .normal ⟨[(4, (vL 1 1 (csF .f32) x8)), (5, (vL 2 1 csS v2)), (6, (vI x7)), (7, (vI j37))], [(1, (oL 1 (csF .f32) x8)), (2, (oL 1 csS v2))]⟩) (fun j38 => OnlyE ?cx .ret ⟨[(2, (.v (.one .nils))), (3, (vB false))], []⟩)) j36) ?_ ?_
          · replace h := e35
            refine AW.block ?_
            refine AW.loopQ (σ := Nat × Int × Int) (fun p => ⟨[(4, (vL 1 1 (csF .f32) x8)), (5, (vL 2 1 csS v2)), (6, (vI x7)), (7, (vI p.2.1)), (8, (vI p.2.2))], [(1, (oL 1 (csF .f32) x8)), (2, (oL 1 csS v2))]⟩) (fun p => spec_l01NRead_l4 K v2 x7 p.1 p.2.1 p.2.2 = some j36) (fun p => p.1) (K, (0 : Int), (0 : Int)) h ?_
            clear h
            rintro ⟨k, x41, x42⟩ h
            replace h : spec_l01NRead_l4 K v2 x7 k x41 x42 = some j36 := h
            show AW _ _ (⟨[(4, (vL 1 1 (csF .f32) x8)), (5, (vL 2 1 csS v2)), (6, (vI x7)), (7, (vI x41)), (8, (vI x42))], [(1, (oL 1 (csF .f32) x8)), (2, (oL 1 csS v2))]⟩ : St) _
            obtain _ | k := k
            · rw [spec_l01NRead_l4] at h; cases h
            rw [spec_l01NRead_l4] at h
            refine AW.seq ?_
            refine AW.sA ⟨[(4, (vL 1 1 (csF .f32) x8)), (5, (vL 2 1 csS v2)), (6, (vI x7)), (7, (vI x41)), (8, (vI x42)), (34, (vB (decide (x42 < (8 : Int)))))], [(1, (oL 1 (csF .f32) x8)), (2, (oL 1 csS v2))]⟩ (T2 Tt) [] [4, 5, 6, 7, 8, 34] [1, 2] ⟨tr, tr, tr⟩ ?_
            rcases ite2_cases h with ⟨b43, h⟩ | ⟨b43, h⟩
            · refine AW.cond_t rfl b43 ?_
              refine AW.skip ?_
              refine thenQ_normal ?_
              refine AW.seq ?_
              refine AW.block ?_
              refine AW.seq ?_
              obtain ⟨c44, h⟩ := chk_some h
              obtain ⟨c45, h⟩ := chk_some h
              refine AW.tC (T2 ((0 ≤ x7 ∧ x7 < (v2.length : Int)) ∧ T2 ((0 ≤ x42 ∧ x42 < ((v2.getD x7.toNat default).size : Int)) ∧ Tt ∧ Tt))) [] [4, 5, 6, 7, 8, 9] [1, 2] ⟨tr, tr, c44, tr, tr, c45, tr, tr⟩ ?_
              refine AW.sA ⟨[(4, (vL 1 1 (csF .f32) x8)), (5, (vL 2 1 csS v2)), (6, (vI x7)), (7, (vI x41)), (8, (vI x42)), (9, (vc (.int .u8 (bt (v2.getD x7.toNat default) x42.toNat)))), (10, (vI ((-1) : Int)))], [(1, (oL 1 (csF .f32) x8)), (2, (oL 1 csS v2))]⟩ (Tt ∧ Tt) [] [4, 5, 6, 7, 8, 9, 10] [1, 2] ⟨tr, tr⟩ ?_
              refine AW.seq ?_
              refine AW.seq ?_
              obtain ⟨j47, e48, h⟩ := bind_some h
              refine AW.join1 (s2 := ⟨[(4, (vL 1 1 (csF .f32) x8)), (5, (vL 2 1 csS v2)), (6, (vI x7)), (7, (vI x41)), (8, (vI x42)), (9, (vc (.int .u8 (bt (v2.getD x7.toNat default) x42.toNat)))), (10, (vI ((-1) : Int))), (48, (vB j47))], [(1, (oL 1 (csF .f32) x8)), (2, (oL 1 csS v2))]⟩) ?_ ?_
              · rcases ite2_cases e48 with ⟨b46, e48⟩ | ⟨b46, e48⟩
                · replace e48 := some_eq e48
                  subst e48
                  exact AW.rA ⟨[(4, (vL 1 1 (csF .f32) x8)), (5, (vL 2 1 csS v2)), (6, (vI x7)), (7, (vI x41)), (8, (vI x42)), (9, (vc (.int .u8 (bt (v2.getD x7.toNat default) x42.toNat)))), (10, (vI ((-1) : Int))), (48, (vB (decide ((bt (v2.getD x7.toNat default) x42.toNat) ≤ (57 : Int)))))], [(1, (oL 1 (csF .f32) x8)), (2, (oL 1 csS v2))]⟩ (T2 ((Tt ∧ (decide ((bt (v2.getD x7.toNat default) x42.toNat) ≥ (48 : Int))) = true) ∧ Tt ∧ T2 Tt)) [.no, .no, .dec true] [4, 5, 6, 7, 8, 9, 10, 48] [1, 2] ⟨tr, tr, ⟨tr, b46⟩, tr, tr, tr, tr⟩ ⟨rfl, rfl⟩
                · replace e48 := some_eq e48
                  subst e48
                  exact AW.rA ⟨[(4, (vL 1 1 (csF .f32) x8)), (5, (vL 2 1 csS v2)), (6, (vI x7)), (7, (vI x41)), (8, (vI x42)), (9, (vc (.int .u8 (bt (v2.getD x7.toNat default) x42.toNat)))), (10, (vI ((-1) : Int))), (48, (vB false))], [(1, (oL 1 (csF .f32) x8)), (2, (oL 1 csS v2))]⟩ (T2 ((Tt ∧ (decide ((bt (v2.getD x7.toNat default) x42.toNat) ≥ (48 : Int))) = false) ∧ Tt ∧ T2 Tt)) [.no, .no, .dec false] [4, 5, 6, 7, 8, 9, 10, 48] [1, 2] ⟨tr, tr, ⟨tr, b46⟩, tr, tr, tr, tr⟩ ⟨rfl, rfl⟩
              refine thenQ_normal ?_
              rcases ite2_cases h with ⟨b49, h⟩ | ⟨b49, h⟩
              · refine AW.cond_t rfl b49 ?_
                refine AW.tA ⟨[(4, (vL 1 1 (csF .f32) x8)), (5, (vL 2 1 csS v2)), (6, (vI x7)), (7, (vI x41)), (8, (vI x42)), (9, (vc (.int .u8 (bt (v2.getD x7.toNat default) x42.toNat)))), (10, (vI (IntKind.i64.wrap (IntKind.u8.wrap ((bt (v2.getD x7.toNat default) x42.toNat) - (48 : Int))))))], [(1, (oL 1 (csF .f32) x8)), (2, (oL 1 csS v2))]⟩ (T4 Tt) [] [4, 5, 6, 7, 8, 9, 10] [1, 2] ⟨tr, tr, tr, tr, tr⟩ ?_
                refine AW.seq ?_
                refine AW.seq ?_
                obtain ⟨j51, e52, h⟩ := bind_some h
                refine AW.join1 (s2 := ⟨[(4, (vL 1 1 (csF .f32) x8)), (5, (vL 2 1 csS v2)), (6, (vI x7)), (7, (vI x41)), (8, (vI x42)), (9, (vc (.int .u8 (bt (v2.getD x7.toNat default) x42.toNat)))), (10, (vI (IntKind.i64.wrap (IntKind.u8.wrap ((bt (v2.getD x7.toNat default) x42.toNat) - (48 : Int)))))), (57, (vB j51))], [(1, (oL 1 (csF .f32) x8)), (2, (oL 1 csS v2))]⟩) ?_ ?_
                · rcases ite2_cases e52 with ⟨b50, e52⟩ | ⟨b50, e52⟩
                  · replace e52 := some_eq e52
                    subst e52
                    exact AW.rA ⟨[(4, (vL 1 1 (csF .f32) x8)), (5, (vL 2 1 csS v2)), (6, (vI x7)), (7, (vI x41)), (8, (vI x42)), (9, (vc (.int .u8 (bt (v2.getD x7.toNat default) x42.toNat)))), (10, (vI (IntKind.i64.wrap (IntKind.u8.wrap ((bt (v2.getD x7.toNat default) x42.toNat) - (48 : Int)))))), (57, (vB (decide ((bt (v2.getD x7.toNat default) x42.toNat) ≤ (102 : Int)))))], [(1, (oL 1 (csF .f32) x8)), (2, (oL 1 csS v2))]⟩ (T2 ((Tt ∧ (decide ((bt (v2.getD x7.toNat default) x42.toNat) ≥ (97 : Int))) = true) ∧ Tt ∧ T2 Tt)) [.no, .no, .dec true] [4, 5, 6, 7, 8, 9, 10, 57] [1, 2] ⟨tr, tr, ⟨tr, b50⟩, tr, tr, tr, tr⟩ ⟨rfl, rfl⟩
                  · replace e52 := some_eq e52
                    subst e52
                    exact AW.rA ⟨[(4, (vL 1 1 (csF .f32) x8)), (5, (vL 2 1 csS v2)), (6, (vI x7)), (7, (vI x41)), (8, (vI x42)), (9, (vc (.int .u8 (bt (v2.getD x7.toNat default) x42.toNat)))), (10, (vI (IntKind.i64.wrap (IntKind.u8.wrap ((bt (v2.getD x7.toNat default) x42.toNat) - (48 : Int)))))), (57, (vB false))], [(1, (oL 1 (csF .f32) x8)), (2, (oL 1 csS v2))]⟩ (T2 ((Tt ∧ (decide ((bt (v2.getD x7.toNat default) x42.toNat) ≥ (97 : Int))) = false) ∧ Tt ∧ T2 Tt)) [.no, .no, .dec false] [4, 5, 6, 7, 8, 9, 10, 57] [1, 2] ⟨tr, tr, ⟨tr, b50⟩, tr, tr, tr, tr⟩ ⟨rfl, rfl⟩
                refine thenQ_normal ?_
                rcases ite2_cases h with ⟨b53, h⟩ | ⟨b53, h⟩
                · refine AW.cond_t rfl b53 ?_
                  refine AW.tC (Tt ∧ T4 Tt) [] [4, 5, 6, 7, 8, 10] [1, 2] ⟨tr, tr, tr, tr, tr, tr⟩ ?_
                  refine AW.seq ?_
                  refine AW.sA ⟨[(4, (vL 1 1 (csF .f32) x8)), (5, (vL 2 1 csS v2)), (6, (vI x7)), (7, (vI x41)), (8, (vI x42)), (10, (vI (IntKind.i64.wrap ((IntKind.i64.wrap (IntKind.u8.wrap ((bt (v2.getD x7.toNat default) x42.toNat) - (97 : Int)))) + (10 : Int))))), (63, (vB (decide ((IntKind.i64.wrap ((IntKind.i64.wrap (IntKind.u8.wrap ((bt (v2.getD x7.toNat default) x42.toNat) - (97 : Int)))) + (10 : Int))) < (0 : Int)))))], [(1, (oL 1 (csF .f32) x8)), (2, (oL 1 csS v2))]⟩ (T2 Tt) [] [4, 5, 6, 7, 8, 10, 63] [1, 2] ⟨tr, tr, tr⟩ ?_
                  rcases ite2_cases h with ⟨b54, h⟩ | ⟨b54, h⟩
                  · refine AW.cond_t rfl b54 ?_
                    refine AW.sA ⟨[(2, (.v (.one .nils))), (3, (vB false))], []⟩ (T2 Tt) [] [2, 3] [] ⟨tr, tr, tr⟩ ?_
                    refine AW.ret ?_
                    refine thenQ_ret ?_
                    refine blockQ_ret ?_
                    refine thenQ_ret ?_
                    refine loopQ_ret ?_
                    refine blockQ_ret ?_
                    replace h := some_eq h
                    subst h
                    exact ⟨rfl, Sub.keep [2, 3] [] (by kernel_rfl) (by kernel_rfl)⟩
                  · refine AW.cond_f rfl b54 ?_
                    refine AW.skip ?_
                    refine thenQ_normal ?_
                    refine AW.rA ⟨[(4, (vL 1 1 (csF .f32) x8)), (5, (vL 2 1 csS v2)), (6, (vI x7)), (7, (vI (IntKind.i64.wrap ((IntKind.i64.wrap ((16 : Int) * x41)) + (IntKind.i64.wrap ((IntKind.i64.wrap (IntKind.u8.wrap ((bt (v2.getD x7.toNat default) x42.toNat) - (97 : Int)))) + (10 : Int))))))), (8, (vI x42))], [(1, (oL 1 (csF .f32) x8)), (2, (oL 1 csS v2))]⟩ (Tt ∧ T4 Tt) [] [4, 5, 6, 7, 8] [1, 2] ⟨tr, tr, tr, tr, tr, tr⟩ ?_
                    refine blockQ_normal ?_
                    refine thenQ_normal ?_
                    refine AW.rA ⟨[(4, (vL 1 1 (csF .f32) x8)), (5, (vL 2 1 csS v2)), (6, (vI x7)), (7, (vI (IntKind.i64.wrap ((IntKind.i64.wrap ((16 : Int) * x41)) + (IntKind.i64.wrap ((IntKind.i64.wrap (IntKind.u8.wrap ((bt (v2.getD x7.toNat default) x42.toNat) - (97 : Int)))) + (10 : Int))))))), (8, (vI (IntKind.i64.wrap (x42 + (1 : Int)))))], [(1, (oL 1 (csF .f32) x8)), (2, (oL 1 csS v2))]⟩ (Tt ∧ T2 Tt) [] [4, 5, 6, 7, 8] [1, 2] ⟨tr, tr, tr, tr⟩ ?_
                    exact loopQ_normal (k, (IntKind.i64.wrap ((IntKind.i64.wrap ((16 : Int) * x41)) + (IntKind.i64.wrap ((IntKind.i64.wrap (IntKind.u8.wrap ((bt (v2.getD x7.toNat default) x42.toNat) - (97 : Int)))) + (10 : Int))))), (IntKind.i64.wrap (x42 + (1 : Int)))) h (Nat.lt_succ_self k) (Sub.keep [4, 5, 6, 7, 8] [1, 2] (by kernel_rfl) (by kernel_rfl))
                · refine AW.cond_f rfl b53 ?_
                  refine AW.skip ?_
                  refine thenQ_normal ?_
                  refine AW.seq ?_
                  refine AW.sA ⟨[(4, (vL 1 1 (csF .f32) x8)), (5, (vL 2 1 csS v2)), (6, (vI x7)), (7, (vI x41)), (8, (vI x42)), (10, (vI (IntKind.i64.wrap (IntKind.u8.wrap ((bt (v2.getD x7.toNat default) x42.toNat) - (48 : Int)))))), (63, (vB (decide ((IntKind.i64.wrap (IntKind.u8.wrap ((bt (v2.getD x7.toNat default) x42.toNat) - (48 : Int)))) < (0 : Int)))))], [(1, (oL 1 (csF .f32) x8)), (2, (oL 1 csS v2))]⟩ (T2 Tt) [] [4, 5, 6, 7, 8, 10, 63] [1, 2] ⟨tr, tr, tr⟩ ?_
                  rcases ite2_cases h with ⟨b55, h⟩ | ⟨b55, h⟩
                  · refine AW.cond_t rfl b55 ?_
                    refine AW.sA ⟨[(2, (.v (.one .nils))), (3, (vB false))], []⟩ (T2 Tt) [] [2, 3] [] ⟨tr, tr, tr⟩ ?_
                    refine AW.ret ?_
                    refine thenQ_ret ?_
                    refine blockQ_ret ?_
                    refine thenQ_ret ?_
                    refine loopQ_ret ?_
                    refine blockQ_ret ?_
                    replace h := some_eq h
                    subst h
                    exact ⟨rfl, Sub.keep [2, 3] [] (by kernel_rfl) (by kernel_rfl)⟩
                  · refine AW.cond_f rfl b55 ?_
                    refine AW.skip ?_
                    refine thenQ_normal ?_
                    refine AW.rA ⟨[(4, (vL 1 1 (csF .f32) x8)), (5, (vL 2 1 csS v2)), (6, (vI x7)), (7, (vI (IntKind.i64.wrap ((IntKind.i64.wrap ((16 : Int) * x41)) + (IntKind.i64.wrap (IntKind.u8.wrap ((bt (v2.getD x7.toNat default) x42.toNat) - (48 : Int)))))))), (8, (vI x42))], [(1, (oL 1 (csF .f32) x8)), (2, (oL 1 csS v2))]⟩ (Tt ∧ T4 Tt) [] [4, 5, 6, 7, 8] [1, 2] ⟨tr, tr, tr, tr, tr, tr⟩ ?_
                    refine blockQ_normal ?_
                    refine thenQ_normal ?_
                    refine AW.rA ⟨[(4, (vL 1 1 (csF .f32) x8)), (5, (vL 2 1 csS v2)), (6, (vI x7)), (7, (vI (IntKind.i64.wrap ((IntKind.i64.wrap ((16 : Int) * x41)) + (IntKind.i64.wrap (IntKind.u8.wrap ((bt (v2.getD x7.toNat default) x42.toNat) - (48 : Int)))))))), (8, (vI (IntKind.i64.wrap (x42 + (1 : Int)))))], [(1, (oL 1 (csF .f32) x8)), (2, (oL 1 csS v2))]⟩ (Tt ∧ T2 Tt) [] [4, 5, 6, 7, 8] [1, 2] ⟨tr, tr, tr, tr⟩ ?_
                    exact loopQ_normal (k, (IntKind.i64.wrap ((IntKind.i64.wrap ((16 : Int) * x41)) + (IntKind.i64.wrap (IntKind.u8.wrap ((bt (v2.getD x7.toNat default) x42.toNat) - (48 : Int)))))), (IntKind.i64.wrap (x42 + (1 : Int)))) h (Nat.lt_succ_self k) (Sub.keep [4, 5, 6, 7, 8] [1, 2] (by kernel_rfl) (by kernel_rfl))
              · refine AW.cond_f rfl b49 ?_
                refine AW.skip ?_
                refine thenQ_normal ?_
                refine AW.seq ?_
                refine AW.seq ?_
                obtain ⟨j57, e58, h⟩ := bind_some h
                refine AW.join1 (s2 := ⟨[(4, (vL 1 1 (csF .f32) x8)), (5, (vL 2 1 csS v2)), (6, (vI x7)), (7, (vI x41)), (8, (vI x42)), (9, (vc (.int .u8 (bt (v2.getD x7.toNat default) x42.toNat)))), (10, (vI ((-1) : Int))), (57, (vB j57))], [(1, (oL 1 (csF .f32) x8)), (2, (oL 1 csS v2))]⟩) ?_ ?_
                · rcases ite2_cases e58 with ⟨b56, e58⟩ | ⟨b56, e58⟩
                  · replace e58 := some_eq e58
                    subst e58
                    exact AW.rA ⟨[(4, (vL 1 1 (csF .f32) x8)), (5, (vL 2 1 csS v2)), (6, (vI x7)), (7, (vI x41)), (8, (vI x42)), (9, (vc (.int .u8 (bt (v2.getD x7.toNat default) x42.toNat)))), (10, (vI ((-1) : Int))), (57, (vB (decide ((bt (v2.getD x7.toNat default) x42.toNat) ≤ (102 : Int)))))], [(1, (oL 1 (csF .f32) x8)), (2, (oL 1 csS v2))]⟩ (T2 ((Tt ∧ (decide ((bt (v2.getD x7.toNat default) x42.toNat) ≥ (97 : Int))) = true) ∧ Tt ∧ T2 Tt)) [.no, .no, .dec true] [4, 5, 6, 7, 8, 9, 10, 57] [1, 2] ⟨tr, tr, ⟨tr, b56⟩, tr, tr, tr, tr⟩ ⟨rfl, rfl⟩
                  · replace e58 := some_eq e58
                    subst e58
                    exact AW.rA ⟨[(4, (vL 1 1 (csF .f32) x8)), (5, (vL 2 1 csS v2)), (6, (vI x7)), (7, (vI x41)), (8, (vI x42)), (9, (vc (.int .u8 (bt (v2.getD x7.toNat default) x42.toNat)))), (10, (vI ((-1) : Int))), (57, (vB false))], [(1, (oL 1 (csF .f32) x8)), (2, (oL 1 csS v2))]⟩ (T2 ((Tt ∧ (decide ((bt (v2.getD x7.toNat default) x42.toNat) ≥ (97 : Int))) = false) ∧ Tt ∧ T2 Tt)) [.no, .no, .dec false] [4, 5, 6, 7, 8, 9, 10, 57] [1, 2] ⟨tr, tr, ⟨tr, b56⟩, tr, tr, tr, tr⟩ ⟨rfl, rfl⟩
                refine thenQ_normal ?_
                rcases ite2_cases h with ⟨b59, h⟩ | ⟨b59, h⟩
                · refine AW.cond_t rfl b59 ?_
                  refine AW.tC (Tt ∧ T4 Tt) [] [4, 5, 6, 7, 8, 10] [1, 2] ⟨tr, tr, tr, tr, tr, tr⟩ ?_
                  refine AW.seq ?_
                  refine AW.sA ⟨[(4, (vL 1 1 (csF .f32) x8)), (5, (vL 2 1 csS v2)), (6, (vI x7)), (7, (vI x41)), (8, (vI x42)), (10, (vI (IntKind.i64.wrap ((IntKind.i64.wrap (IntKind.u8.wrap ((bt (v2.getD x7.toNat default) x42.toNat) - (97 : Int)))) + (10 : Int))))), (63, (vB (decide ((IntKind.i64.wrap ((IntKind.i64.wrap (IntKind.u8.wrap ((bt (v2.getD x7.toNat default) x42.toNat) - (97 : Int)))) + (10 : Int))) < (0 : Int)))))], [(1, (oL 1 (csF .f32) x8)), (2, (oL 1 csS v2))]⟩ (T2 Tt) [] [4, 5, 6, 7, 8, 10, 63] [1, 2] ⟨tr, tr, tr⟩ ?_
                  rcases ite2_cases h with ⟨b60, h⟩ | ⟨b60, h⟩
                  · refine AW.cond_t rfl b60 ?_
                    refine AW.sA ⟨[(2, (.v (.one .nils))), (3, (vB false))], []⟩ (T2 Tt) [] [2, 3] [] ⟨tr, tr, tr⟩ ?_
                    refine AW.ret ?_
                    refine thenQ_ret ?_
                    refine blockQ_ret ?_
                    refine thenQ_ret ?_
                    refine loopQ_ret ?_
                    refine blockQ_ret ?_
                    replace h := some_eq h
                    subst h
                    exact ⟨rfl, Sub.keep [2, 3] [] (by kernel_rfl) (by kernel_rfl)⟩
                  · refine AW.cond_f rfl b60 ?_
                    refine AW.skip ?_
                    refine thenQ_normal ?_
                    refine AW.rA ⟨[(4, (vL 1 1 (csF .f32) x8)), (5, (vL 2 1 csS v2)), (6, (vI x7)), (7, (vI (IntKind.i64.wrap ((IntKind.i64.wrap ((16 : Int) * x41)) + (IntKind.i64.wrap ((IntKind.i64.wrap (IntKind.u8.wrap ((bt (v2.getD x7.toNat default) x42.toNat) - (97 : Int)))) + (10 : Int))))))), (8, (vI x42))], [(1, (oL 1 (csF .f32) x8)), (2, (oL 1 csS v2))]⟩ (Tt ∧ T4 Tt) [] [4, 5, 6, 7, 8] [1, 2] ⟨tr, tr, tr, tr, tr, tr⟩ ?_
                    refine blockQ_normal ?_
                    refine thenQ_normal ?_
                    refine AW.rA ⟨[(4, (vL 1 1 (csF .f32) x8)), (5, (vL 2 1 csS v2)), (6, (vI x7)), (7, (vI (IntKind.i64.wrap ((IntKind.i64.wrap ((16 : Int) * x41)) + (IntKind.i64.wrap ((IntKind.i64.wrap (IntKind.u8.wrap ((bt (v2.getD x7.toNat default) x42.toNat) - (97 : Int)))) + (10 : Int))))))), (8, (vI (IntKind.i64.wrap (x42 + (1 : Int)))))], [(1, (oL 1 (csF .f32) x8)), (2, (oL 1 csS v2))]⟩ (Tt ∧ T2 Tt) [] [4, 5, 6, 7, 8] [1, 2] ⟨tr, tr, tr, tr⟩ ?_
                    exact loopQ_normal (k, (IntKind.i64.wrap ((IntKind.i64.wrap ((16 : Int) * x41)) + (IntKind.i64.wrap ((IntKind.i64.wrap (IntKind.u8.wrap ((bt (v2.getD x7.toNat default) x42.toNat) - (97 : Int)))) + (10 : Int))))), (IntKind.i64.wrap (x42 + (1 : Int)))) h (Nat.lt_succ_self k) (Sub.keep [4, 5, 6, 7, 8] [1, 2] (by kernel_rfl) (by kernel_rfl))
                · refine AW.cond_f rfl b59 ?_
                  refine AW.skip ?_
                  refine thenQ_normal ?_
                  refine AW.seq ?_
                  refine AW.sA ⟨[(4, (vL 1 1 (csF .f32) x8)), (5, (vL 2 1 csS v2)), (6, (vI x7)), (7, (vI x41)), (8, (vI x42)), (10, (vI ((-1) : Int))), (63, (vB (decide (((-1) : Int) < (0 : Int)))))], [(1, (oL 1 (csF .f32) x8)), (2, (oL 1 csS v2))]⟩ (T2 Tt) [] [4, 5, 6, 7, 8, 10, 63] [1, 2] ⟨tr, tr, tr⟩ ?_
                  rcases ite2_cases h with ⟨b61, h⟩ | ⟨b61, h⟩
                  · refine AW.cond_t rfl b61 ?_
                    refine AW.sA ⟨[(2, (.v (.one .nils))), (3, (vB false))], []⟩ (T2 Tt) [] [2, 3] [] ⟨tr, tr, tr⟩ ?_
                    refine AW.ret ?_
                    refine thenQ_ret ?_
                    refine blockQ_ret ?_
                    refine thenQ_ret ?_
                    refine loopQ_ret ?_
                    refine blockQ_ret ?_
                    replace h := some_eq h
                    subst h
                    exact ⟨rfl, Sub.keep [2, 3] [] (by kernel_rfl) (by kernel_rfl)⟩
                  · refine AW.cond_f rfl b61 ?_
                    refine AW.skip ?_
                    refine thenQ_normal ?_
                    refine AW.rA ⟨[(4, (vL 1 1 (csF .f32) x8)), (5, (vL 2 1 csS v2)), (6, (vI x7)), (7, (vI (IntKind.i64.wrap ((IntKind.i64.wrap ((16 : Int) * x41)) + ((-1) : Int))))), (8, (vI x42))], [(1, (oL 1 (csF .f32) x8)), (2, (oL 1 csS v2))]⟩ (Tt ∧ T4 Tt) [] [4, 5, 6, 7, 8] [1, 2] ⟨tr, tr, tr, tr, tr, tr⟩ ?_
                    refine blockQ_normal ?_
                    refine thenQ_normal ?_
                    refine AW.rA ⟨[(4, (vL 1 1 (csF .f32) x8)), (5, (vL 2 1 csS v2)), (6, (vI x7)), (7, (vI (IntKind.i64.wrap ((IntKind.i64.wrap ((16 : Int) * x41)) + ((-1) : Int))))), (8, (vI (IntKind.i64.wrap (x42 + (1 : Int)))))], [(1, (oL 1 (csF .f32) x8)), (2, (oL 1 csS v2))]⟩ (Tt ∧ T2 Tt) [] [4, 5, 6, 7, 8] [1, 2] ⟨tr, tr, tr, tr⟩ ?_
                    exact loopQ_normal (k, (IntKind.i64.wrap ((IntKind.i64.wrap ((16 : Int) * x41)) + ((-1) : Int))), (IntKind.i64.wrap (x42 + (1 : Int)))) h (Nat.lt_succ_self k) (Sub.keep [4, 5, 6, 7, 8] [1, 2] (by kernel_rfl) (by kernel_rfl))
            · refine AW.cond_f rfl b43 ?_
              refine AW.exit ?_
              refine thenQ_exit ?_
              refine loopQ_exit ?_
              refine blockQ_exit ?_
              replace h := some_eq h
              subst h
              exact ⟨rfl, Sub.keep [4, 5, 6, 7] [1, 2] (by kernel_rfl) (by kernel_rfl)⟩
          clear e35
          intro ex1 st1 hq
          obtain j37 | j38 := j36
          · replace h := sumC_inl h
            obtain ⟨he, hs⟩ := hq
            subst he
            refine ⟨⟨[(4, (vL 1 1 (csF .f32) x8)), (5, (vL 2 1 csS v2)), (6, (vI x7)), (7, (vI j37))], [(1, (oL 1 (csF .f32) x8)), (2, (oL 1 csS v2))]⟩, hs, ?_⟩
            clear hs st1
            refine thenQ_normal ?_
            refine AW.seq ?_
            obtain ⟨v62, e63, h⟩ := bind_some h
            refine AW.tC (Tt ∧ (((eI j37) ∧ Tt) ∧ CallOK Tryd.prog 30 [.one (.int .i64 j37)] [.one (.flt .f32 v62.bits)]) ∧ Tt ∧ Tt) [.no, .call [.one (.int .i64 j37)] [.one (.flt .f32 v62.bits)] [[.view]]] [4, 5, 6, 7, 11] [1, 2] ⟨tr, ⟨⟨rfl, tr⟩, ok_spec_l01From K j37 v62 e63⟩, tr, tr⟩ ?_
            refine AW.seq ?_
            refine AW.seq ?_
            obtain ⟨v64, e65, h⟩ := bind_some h
            refine AW.tA ⟨[(4, (vL 1 1 (csF .f32) x8)), (5, (vL 2 1 csS v2)), (6, (vI x7)), (11, (vc (.flt .f32 v62.bits))), (73, (vB (v64 != j37)))], [(1, (oL 1 (csF .f32) x8)), (2, (oL 1 csS v2))]⟩ (Tt ∧ (((eF v62) ∧ Tt) ∧ CallOK Tryd.prog 31 [.one (.flt .f32 v62.bits)] [.one (.int .i64 v64)]) ∧ T2 Tt) [.no, .call [.one (.flt .f32 v62.bits)] [.one (.int .i64 v64)] [[.view]]] [4, 5, 6, 11, 73] [1, 2] ⟨tr, ⟨⟨rfl, tr⟩, ok_spec_l01Bits K v62 v64 e65⟩, tr, tr, tr⟩ ?_
            rcases ite2_cases h with ⟨b66, h⟩ | ⟨b66, h⟩
            · refine AW.cond_t rfl b66 ?_
              refine AW.sA ⟨[(2, (.v (.one .nils))), (3, (vB false))], []⟩ (T2 Tt) [] [2, 3] [] ⟨tr, tr, tr⟩ ?_
              refine AW.ret ?_
              refine thenQ_ret ?_
              refine blockQ_ret ?_
              refine thenQ_ret ?_
              refine loopQ_ret ?_
              refine blockQ_ret ?_
              refine thenQ_ret ?_
              replace h := some_eq h
              subst h
              exact ⟨.inr rfl, retOK_of [(.one .nils), (.one (.c (.bool false)))] (by kernel_rfl) ⟨rfl, ⟨rfl, tr⟩, tr⟩ (of_decide_eq_true (by kernel_rfl))⟩
            · refine AW.cond_f rfl b66 ?_
              refine AW.skip ?_
              refine thenQ_normal ?_
              obtain ⟨c67, h⟩ := chk_some h
              refine AW.rA ⟨[(4, (vL 8 1 (csF .f32) (x8 ++ ([v62])))), (5, (vL 2 1 csS v2)), (6, (vI x7))], [(2, (oL 1 csS v2)), (8, (oL 1 (csF .f32) (x8 ++ ([v62]))))]⟩ (T2 ((([v62]).length = 1 ∧ (((.flt .f32 v62.bits) : C) = (.flt .f32 v62.bits) ∧ Tt) ∧ Tt) ∧ ((x8 ++ ([v62])).length = x8.length + ([v62]).length ∧ AppOb (x8.length) (([v62]).length) 1 (gl (csF .f32) x8) (gl (csF .f32) ([v62])) (gl (csF .f32) (x8 ++ ([v62]))) ∧ (∀ i j, i < ([v62]).length → j < 1 → scalarC (gl (csF .f32) ([v62]) i j)) ∧ (x8.length + ([v62]).length) * 4 ≤ 140737488355328) ∧ Tt ∧ Tt)) [.no, .no, .obj 7 ([v62]).length (gl (csF .f32) ([v62])), .objK 8 (x8 ++ ([v62])).length (gl (csF .f32) (x8 ++ ([v62])))] [4, 5, 6] [2, 8] ⟨tr, tr, ⟨rfl, ⟨⟨rfl, tr⟩, tr⟩⟩, ⟨List.length_append, gl_append, gl_scalar scF _, c67⟩, tr, tr⟩ ?_
              refine blockQ_normal ?_
              refine thenQ_normal ?_
              refine AW.rA ⟨[(4, (vL 8 1 (csF .f32) (x8 ++ ([v62])))), (5, (vL 2 1 csS v2)), (6, (vI (IntKind.i64.wrap (x7 + (1 : Int)))))], [(2, (oL 1 csS v2)), (8, (oL 1 (csF .f32) (x8 ++ ([v62]))))]⟩ (Tt ∧ T2 Tt) [] [4, 5, 6] [2, 8] ⟨tr, tr, tr, tr⟩ ?_
              exact loopQ_normal (k, (IntKind.i64.wrap (x7 + (1 : Int))), (x8 ++ ([v62]))) h (Nat.lt_succ_self k) (Sub.trans (Sub.swap 1 8 _ (by kernel_rfl) (by kernel_rfl)) (Sub.keep [4, 5, 6] [1, 2] (by kernel_rfl) (by kernel_rfl)))
          · replace h := sumC_inr h
            obtain ⟨he, hs⟩ := hq
            subst he
            refine ⟨⟨[(2, (.v (.one .nils))), (3, (vB false))], []⟩, hs, ?_⟩
            clear hs st1
            refine thenQ_ret ?_
            refine blockQ_ret ?_
            refine thenQ_ret ?_
            refine loopQ_ret ?_
            refine blockQ_ret ?_
            refine thenQ_ret ?_
            replace h := some_eq h
            subst h
            exact ⟨.inr rfl, retOK_of [(.one .nils), (.one (.c (.bool false)))] (by kernel_rfl) ⟨rfl, ⟨rfl, tr⟩, tr⟩ (of_decide_eq_true (by kernel_rfl))⟩
      · refine AW.cond_f rfl b9 ?_
        refine AW.exit ?_
        refine thenQ_exit ?_
        refine loopQ_exit ?_
        refine blockQ_exit ?_
        refine thenQ_normal ?_
        refine AW.sA ⟨[(2, (vL 1 1 (csF .f32) x8)), (3, (vB true))], [(1, (oL 1 (csF .f32) x8))]⟩ (Tt ∧ T2 Tt) [] [2, 3] [1] ⟨tr, tr, tr, tr⟩ ?_
        refine AW.ret ?_
        replace h := some_eq h
        subst h
        exact ⟨.inr rfl, retOK_of [(.one (xL 1 1 (csF .f32) x8)), (.one (.c (.bool true)))] (by kernel_rfl) ⟨rfl, ⟨rfl, tr⟩, tr⟩ (of_decide_eq_true (by kernel_rfl))⟩

/-! spec.l01VRead -/
def spec_l01VRead (K : Nat) (a0 : ByteArray) : Option (Vector × Bool) :=
  (spec_l01NRead K a0).bind fun v1 => (ite2 ((!v1.2)) (some true) (some ((v1.1.length : Int) != (3 : Int)))).bind fun j4 => ite2 (j4) (some ((Vector.mk (default : F32) (default : F32) (default : F32)), false)) (chk (0 ≤ (0 : Int) ∧ (0 : Int) < (v1.1.length : Int)) (chk (0 ≤ (1 : Int) ∧ (1 : Int) < (v1.1.length : Int)) (chk (0 ≤ (2 : Int) ∧ (2 : Int) < (v1.1.length : Int)) (some ((Vector.mk (v1.1.getD ((0 : Int).toNat) default) (v1.1.getD ((1 : Int).toNat) default) (v1.1.getD ((2 : Int).toNat) default)), true)))))

theorem ok_spec_l01VRead (K : Nat) (a0 : ByteArray) (o : (Vector × Bool)) (h : spec_l01VRead K a0 = some o) : CallOK Tryd.prog 18 [.one (.str a0)] [.agg (cs_Vector o.1), .one (.bool o.2)] := by
  refine callOK_of_AW Tryd.func18 rfl (by kernel_rfl) (Nat.le_of_ble_eq_true (by kernel_rfl)) ?_
  intro w0
  unfold spec_l01VRead at h
  refine AW.sC (T2 Tt) [.box 1] [0, 2] [1] ⟨tr, tr, tr⟩ ?_
  refine AW.seq ?_
  obtain ⟨v1, e2, h⟩ := bind_some h
  refine AW.tA ⟨[(2, (vp 1 0)), (4, (vL 2 1 (csF .f32) v1.1)), (5, (vB v1.2))], [(1, (.box [(cF (default : F32)), (cF (default : F32)), (cF (default : F32))])), (2, (oL 1 (csF .f32) v1.1))]⟩ (Tt ∧ (((Eqc (.str a0)) ∧ Tt) ∧ CallOK Tryd.prog 24 [.one (.str a0)] [.one (sl 1 (csF .f32) v1.1), .one (.bool v1.2)]) ∧ Tt ∧ T4 Tt) [.no, .call [.one (.str a0)] [.one (sl 1 (csF .f32) v1.1), .one (.bool v1.2)] [[.lst 2], [.view]]] [2, 4, 5] [1, 2] ⟨tr, ⟨⟨rfl, tr⟩, ok_spec_l01NRead K a0 v1 e2⟩, tr, tr, tr, tr, tr, tr⟩ ?_
  refine AW.seq ?_
  refine AW.seq ?_
  obtain ⟨j4, e5, h⟩ := bind_some h
  refine AW.join1 (s2 := ⟨[(2, (vp 1 0)), (4, (vL 2 1 (csF .f32) v1.1)), (17, (vB j4))], [(1, (.box [(cF (default : F32)), (cF (default : F32)), (cF (default : F32))])), (2, (oL 1 (csF .f32) v1.1))]⟩) ?_ ?_
  · rcases ite2_cases e5 with ⟨b3, e5⟩ | ⟨b3, e5⟩
    · replace e5 := some_eq e5
      subst e5
      exact AW.rA ⟨[(2, (vp 1 0)), (4, (vL 2 1 (csF .f32) v1.1)), (17, (vB true))], [(1, (.box [(cF (default : F32)), (cF (default : F32)), (cF (default : F32))])), (2, (oL 1 (csF .f32) v1.1))]⟩ (T2 ((Tt ∧ (!v1.2) = true) ∧ T4 Tt)) [.no, .no, .dec true] [2, 4, 17] [1, 2] ⟨tr, tr, ⟨tr, b3⟩, tr, tr, tr, tr, tr⟩ ⟨rfl, rfl⟩
    · replace e5 := some_eq e5
      subst e5
      exact AW.rA ⟨[(2, (vp 1 0)), (4, (vL 2 1 (csF .f32) v1.1)), (17, (vB ((v1.1.length : Int) != (3 : Int))))], [(1, (.box [(cF (default : F32)), (cF (default : F32)), (cF (default : F32))])), (2, (oL 1 (csF .f32) v1.1))]⟩ (T2 ((Tt ∧ (!v1.2) = false) ∧ T4 Tt)) [.no, .no, .dec false] [2, 4, 17] [1, 2] ⟨tr, tr, ⟨tr, b3⟩, tr, tr, tr, tr, tr⟩ ⟨rfl, rfl⟩
  refine thenQ_normal ?_
  rcases ite2_cases h with ⟨b6, h⟩ | ⟨b6, h⟩
  · refine AW.cond_t rfl b6 ?_
    refine AW.sA ⟨[(2, (vp 1 0)), (3, (vB false))], [(1, (.box [(cF (default : F32)), (cF (default : F32)), (cF (default : F32))]))]⟩ (Tt ∧ T2 Tt) [] [2, 3] [1] ⟨tr, tr, tr, tr⟩ ?_
    refine AW.ret ?_
    refine thenQ_ret ?_
    replace h := some_eq h
    subst h
    exact ⟨.inr rfl, retOK_of [(.agg [(cF (default : F32)), (cF (default : F32)), (cF (default : F32))]), (.one (.c (.bool false)))] (by kernel_rfl) ⟨⟨⟨rfl, tr⟩, ⟨rfl, tr⟩, ⟨rfl, tr⟩, tr⟩, ⟨rfl, tr⟩, tr⟩ (of_decide_eq_true (by kernel_rfl))⟩
  · refine AW.cond_f rfl b6 ?_
    refine AW.skip ?_
    refine thenQ_normal ?_
    refine AW.seq ?_
    obtain ⟨c7, h⟩ := chk_some h
    obtain ⟨c8, h⟩ := chk_some h
    obtain ⟨c9, h⟩ := chk_some h
    refine AW.dA ⟨[(2, (vp 1 0)), (3, (vB true))], [(1, (.box [(cF (v1.1.getD ((0 : Int).toNat) default)), (cF (v1.1.getD ((1 : Int).toNat) default)), (cF (v1.1.getD ((2 : Int).toNat) default))]))]⟩ ((Tt ∧ (0 ≤ (0 : Int) ∧ (0 : Int) < (v1.1.length : Int)) ∧ T2 ((0 ≤ (1 : Int) ∧ (1 : Int) < (v1.1.length : Int)) ∧ T2 ((0 ≤ (2 : Int) ∧ (2 : Int) < (v1.1.length : Int)) ∧ T2 Tt))) ∧ (T2 Tt)) 10 [] [2, 3] [1] ⟨⟨tr, c7, tr, tr, c8, tr, tr, c9, tr, tr, tr⟩, ⟨tr, tr, tr⟩⟩ ?_
    refine thenQ_normal ?_
    refine AW.ret ?_
    replace h := some_eq h
    subst h
    exact ⟨.inr rfl, retOK_of [(.agg [(cF (v1.1.getD ((0 : Int).toNat) default)), (cF (v1.1.getD ((1 : Int).toNat) default)), (cF (v1.1.getD ((2 : Int).toNat) default))]), (.one (.c (.bool true)))] (by kernel_rfl) ⟨⟨⟨rfl, tr⟩, ⟨rfl, tr⟩, ⟨rfl, tr⟩, tr⟩, ⟨rfl, tr⟩, tr⟩ (of_decide_eq_true (by kernel_rfl))⟩

/-! spec.l11Turn -/
def spec_l11Turn (K : Nat) (a0 : ByteArray) : Option (Turn × Bool) :=
  (spec_l01NRead K a0).bind fun v1 => (ite2 ((!v1.2)) (some true) (some ((v1.1.length : Int) != (4 : Int)))).bind fun j4 => ite2 (j4) (some ((Turn.mk (default : F32) (default : F32) (default : F32) (default : F32)), false)) (chk (0 ≤ (0 : Int) ∧ (0 : Int) < (v1.1.length : Int)) (chk (0 ≤ (1 : Int) ∧ (1 : Int) < (v1.1.length : Int)) (chk (0 ≤ (2 : Int) ∧ (2 : Int) < (v1.1.length : Int)) (chk (0 ≤ (3 : Int) ∧ (3 : Int) < (v1.1.length : Int)) (some ((Turn.mk (v1.1.getD ((0 : Int).toNat) default) (v1.1.getD ((1 : Int).toNat) default) (v1.1.getD ((2 : Int).toNat) default) (v1.1.getD ((3 : Int).toNat) default)), true))))))

theorem ok_spec_l11Turn (K : Nat) (a0 : ByteArray) (o : (Turn × Bool)) (h : spec_l11Turn K a0 = some o) : CallOK Tryd.prog 19 [.one (.str a0)] [.agg (cs_Turn o.1), .one (.bool o.2)] := by
  refine callOK_of_AW Tryd.func19 rfl (by kernel_rfl) (Nat.le_of_ble_eq_true (by kernel_rfl)) ?_
  intro w0
  unfold spec_l11Turn at h
  refine AW.sC (T2 Tt) [.box 1] [0, 2] [1] ⟨tr, tr, tr⟩ ?_
  refine AW.seq ?_
  obtain ⟨v1, e2, h⟩ := bind_some h
  refine AW.tA ⟨[(2, (vp 1 0)), (4, (vL 2 1 (csF .f32) v1.1)), (5, (vB v1.2))], [(1, (.box [(cF (default : F32)), (cF (default : F32)), (cF (default : F32)), (cF (default : F32))])), (2, (oL 1 (csF .f32) v1.1))]⟩ (Tt ∧ (((Eqc (.str a0)) ∧ Tt) ∧ CallOK Tryd.prog 24 [.one (.str a0)] [.one (sl 1 (csF .f32) v1.1), .one (.bool v1.2)]) ∧ Tt ∧ T4 Tt) [.no, .call [.one (.str a0)] [.one (sl 1 (csF .f32) v1.1), .one (.bool v1.2)] [[.lst 2], [.view]]] [2, 4, 5] [1, 2] ⟨tr, ⟨⟨rfl, tr⟩, ok_spec_l01NRead K a0 v1 e2⟩, tr, tr, tr, tr, tr, tr⟩ ?_
  refine AW.seq ?_
  refine AW.seq ?_
  obtain ⟨j4, e5, h⟩ := bind_some h
  refine AW.join1 (s2 := ⟨[(2, (vp 1 0)), (4, (vL 2 1 (csF .f32) v1.1)), (17, (vB j4))], [(1, (.box [(cF (default : F32)), (cF (default : F32)), (cF (default : F32)), (cF (default : F32))])), (2, (oL 1 (csF .f32) v1.1))]⟩) ?_ ?_
  · rcases ite2_cases e5 with ⟨b3, e5⟩ | ⟨b3, e5⟩
    · replace e5 := some_eq e5
      subst e5
      exact AW.rA ⟨[(2, (vp 1 0)), (4, (vL 2 1 (csF .f32) v1.1)), (17, (vB true))], [(1, (.box [(cF (default : F32)), (cF (default : F32)), (cF (default : F32)), (cF (default : F32))])), (2, (oL 1 (csF .f32) v1.1))]⟩ (T2 ((Tt ∧ (!v1.2) = true) ∧ T4 Tt)) [.no, .no, .dec true] [2, 4, 17] [1, 2] ⟨tr, tr, ⟨tr, b3⟩, tr, tr, tr, tr, tr⟩ ⟨rfl, rfl⟩
    · replace e5 := some_eq e5
      subst e5
      exact AW.rA ⟨[(2, (vp 1 0)), (4, (vL 2 1 (csF .f32) v1.1)), (17, (vB ((v1.1.length : Int) != (4 : Int))))], [(1, (.box [(cF (default : F32)), (cF (default : F32)), (cF (default : F32)), (cF (default : F32))])), (2, (oL 1 (csF .f32) v1.1))]⟩ (T2 ((Tt ∧ (!v1.2) = false) ∧ T4 Tt)) [.no, .no, .dec false] [2, 4, 17] [1, 2] ⟨tr, tr, ⟨tr, b3⟩, tr, tr, tr, tr, tr⟩ ⟨rfl, rfl⟩
  refine thenQ_normal ?_
  rcases ite2_cases h with ⟨b6, h⟩ | ⟨b6, h⟩
  · refine AW.cond_t rfl b6 ?_
    refine AW.sA ⟨[(2, (vp 1 0)), (3, (vB false))], [(1, (.box [(cF (default : F32)), (cF (default : F32)), (cF (default : F32)), (cF (default : F32))]))]⟩ (Tt ∧ T2 Tt) [] [2, 3] [1] ⟨tr, tr, tr, tr⟩ ?_
    refine AW.ret ?_
    refine thenQ_ret ?_
    replace h := some_eq h
    subst h
    exact ⟨.inr rfl, retOK_of [(.agg [(cF (default : F32)), (cF (default : F32)), (cF (default : F32)), (cF (default : F32))]), (.one (.c (.bool false)))] (by kernel_rfl) ⟨⟨⟨rfl, tr⟩, ⟨rfl, tr⟩, ⟨rfl, tr⟩, ⟨rfl, tr⟩, tr⟩, ⟨rfl, tr⟩, tr⟩ (of_decide_eq_true (by kernel_rfl))⟩
  · refine AW.cond_f rfl b6 ?_
    refine AW.skip ?_
    refine thenQ_normal ?_
    refine AW.seq ?_
    obtain ⟨c7, h⟩ := chk_some h
    obtain ⟨c8, h⟩ := chk_some h
    obtain ⟨c9, h⟩ := chk_some h
    obtain ⟨c10, h⟩ := chk_some h
    refine AW.dA ⟨[(2, (vp 1 0)), (3, (vB true))], [(1, (.box [(cF (v1.1.getD ((0 : Int).toNat) default)), (cF (v1.1.getD ((1 : Int).toNat) default)), (cF (v1.1.getD ((2 : Int).toNat) default)), (cF (v1.1.getD ((3 : Int).toNat) default))]))]⟩ ((Tt ∧ (0 ≤ (0 : Int) ∧ (0 : Int) < (v1.1.length : Int)) ∧ T2 ((0 ≤ (1 : Int) ∧ (1 : Int) < (v1.1.length : Int)) ∧ T2 ((0 ≤ (2 : Int) ∧ (2 : Int) < (v1.1.length : Int)) ∧ T2 ((0 ≤ (3 : Int) ∧ (3 : Int) < (v1.1.length : Int)) ∧ T2 Tt)))) ∧ (T2 Tt)) 13 [] [2, 3] [1] ⟨⟨tr, c7, tr, tr, c8, tr, tr, c9, tr, tr, c10, tr, tr, tr⟩, ⟨tr, tr, tr⟩⟩ ?_
    refine thenQ_normal ?_
    refine AW.ret ?_
    replace h := some_eq h
    subst h
    exact ⟨.inr rfl, retOK_of [(.agg [(cF (v1.1.getD ((0 : Int).toNat) default)), (cF (v1.1.getD ((1 : Int).toNat) default)), (cF (v1.1.getD ((2 : Int).toNat) default)), (cF (v1.1.getD ((3 : Int).toNat) default))]), (.one (.c (.bool true)))] (by kernel_rfl) ⟨⟨⟨rfl, tr⟩, ⟨rfl, tr⟩, ⟨rfl, tr⟩, ⟨rfl, tr⟩, tr⟩, ⟨rfl, tr⟩, tr⟩ (of_decide_eq_true (by kernel_rfl))⟩

/-! spec.l11Read -/
def spec_l11Read_l1 (K : Nat) (v1 : ((List ByteArray))) (v4 : (Vector × Bool)) : Nat → Int → (List Turn) → Option (Pose × Bool)
  | 0, _, _ => none
  | k + 1, x13, x14 => ite2 ((decide (x13 < (v1.length : Int)))) (chk (0 ≤ x13 ∧ x13 < (v1.length : Int)) ((spec_l11Turn K (v1.getD x13.toNat default)).bind fun v17 => ite2 ((!v17.2)) (some ((Pose.mk (Vector.mk (default : F32) (default : F32) (default : F32)) ([] : (List Turn))), false)) (chk ((x14.length + ([v17.1]).length) * 16 ≤ 140737488355328) (spec_l11Read_l1 K v1 v4 k (IntKind.i64.wrap (x13 + (1 : Int))) (x14 ++ ([v17.1])))))) (some ((Pose.mk v4.1 x14), true))

def spec_l11Read (K : Nat) (a0 : ByteArray) : Option (Pose × Bool) :=
  (spec_l01Cut K a0 (59 : Int)).bind fun v1 => chk (0 ≤ (0 : Int) ∧ (0 : Int) < (v1.length : Int)) ((spec_l01VRead K (v1.getD ((0 : Int).toNat) default)).bind fun v4 => (ite2 ((!v4.2)) (some true) (ite2 ((decide ((v1.length : Int) < (2 : Int)))) (some true) (some (decide ((v1.length : Int) > (13 : Int)))))).bind fun j8 => ite2 (j8) (some ((Pose.mk (Vector.mk (default : F32) (default : F32) (default : F32)) ([] : (List Turn))), false)) (spec_l11Read_l1 K v1 v4 K (1 : Int) ([] : List Turn)))

theorem ok_spec_l11Read (K : Nat) (a0 : ByteArray) (o : (Pose × Bool)) (h : spec_l11Read K a0 = some o) : CallOK Tryd.prog 9 [.one (.str a0)] [.agg (cs_Pose o.1), .one (.bool o.2)] := by
  refine callOK_of_AW Tryd.func9 rfl (by kernel_rfl) (Nat.le_of_ble_eq_true (by kernel_rfl)) ?_
  intro w0
  unfold spec_l11Read at h
  refine AW.sC (T2 Tt) [.box 1] [0, 2] [1] ⟨tr, tr, tr⟩ ?_
  refine AW.seq ?_
  obtain ⟨v1, e2, h⟩ := bind_some h
  refine AW.tC (Tt ∧ (((Eqc (.str a0)) ∧ (Eqc (.int .u8 (59 : Int))) ∧ Tt) ∧ CallOK Tryd.prog 17 [.one (.str a0), .one (.int .u8 (59 : Int))] [.one (sl 1 csS v1)]) ∧ Tt ∧ Tt) [.no, .call [.one (.str a0), .one (.int .u8 (59 : Int))] [.one (sl 1 csS v1)] [[.lst 2]]] [2, 4] [1, 2] ⟨tr, ⟨⟨rfl, rfl, tr⟩, ok_spec_l01Cut K a0 (59 : Int) v1 e2⟩, tr, tr⟩ ?_
  refine AW.seq ?_
  obtain ⟨c3, h⟩ := chk_some h
  obtain ⟨v4, e5, h⟩ := bind_some h
  refine AW.tC (Tt ∧ (0 ≤ (0 : Int) ∧ (0 : Int) < (v1.length : Int)) ∧ Tt ∧ (((Eqc (.str (v1.getD ((0 : Int).toNat) default))) ∧ Tt) ∧ CallOK Tryd.prog 18 [.one (.str (v1.getD ((0 : Int).toNat) default))] [.agg (cs_Vector v4.1), .one (.bool v4.2)]) ∧ T2 (T4 Tt)) [.no, .no, .no, .call [.one (.str (v1.getD ((0 : Int).toNat) default))] [.agg (cs_Vector v4.1), .one (.bool v4.2)] [[.view, .view, .view], [.view]], .no, .no, .no, .box 3] [2, 4, 5, 6] [1, 2, 3] ⟨tr, c3, tr, ⟨⟨rfl, tr⟩, ok_spec_l01VRead K (v1.getD ((0 : Int).toNat) default) v4 e5⟩, tr, tr, tr, tr, tr, tr, tr⟩ ?_
  refine AW.sA ⟨[(2, (vp 1 0)), (4, (vL 2 1 csS v1)), (6, (vB v4.2)), (7, (vp 5 0))], [(1, (.box [(cF (default : F32)), (cF (default : F32)), (cF (default : F32)), .nils])), (2, (oL 1 csS v1)), (4, (oL 4 cs_Turn ([] : List Turn))), (5, (.box [(cF v4.1.X), (cF v4.1.Y), (cF v4.1.Z), (xL 4 4 cs_Turn ([] : List Turn))]))]⟩ (Tt ∧ (([] : List Turn).length = 0 ∧ Tt) ∧ Tt ∧ T2 Tt) [.no, .obj 4 ([] : List Turn).length (gl cs_Turn ([] : List Turn)), .no, .box 5] [2, 4, 6, 7] [1, 2, 4, 5] ⟨tr, ⟨rfl, tr⟩, tr, tr, tr, tr⟩ ?_
  refine AW.seq ?_
  refine AW.seq ?_
  obtain ⟨j8, e9, h⟩ := bind_some h
  refine AW.join1 (s2 := ⟨[(2, (vp 1 0)), (4, (vL 2 1 csS v1)), (7, (vp 5 0)), (34, (vB j8))], [(1, (.box [(cF (default : F32)), (cF (default : F32)), (cF (default : F32)), .nils])), (2, (oL 1 csS v1)), (4, (oL 4 cs_Turn ([] : List Turn))), (5, (.box [(cF v4.1.X), (cF v4.1.Y), (cF v4.1.Z), (xL 4 4 cs_Turn ([] : List Turn))]))]⟩) ?_ ?_
  · rcases ite2_cases e9 with ⟨b6, e9⟩ | ⟨b6, e9⟩
    · replace e9 := some_eq e9
      subst e9
      exact AW.rA ⟨[(2, (vp 1 0)), (4, (vL 2 1 csS v1)), (7, (vp 5 0)), (34, (vB true))], [(1, (.box [(cF (default : F32)), (cF (default : F32)), (cF (default : F32)), .nils])), (2, (oL 1 csS v1)), (4, (oL 4 cs_Turn ([] : List Turn))), (5, (.box [(cF v4.1.X), (cF v4.1.Y), (cF v4.1.Z), (xL 4 4 cs_Turn ([] : List Turn))]))]⟩ (T2 ((Tt ∧ (!v4.2) = true) ∧ Tt ∧ T4 (T4 Tt))) [.no, .no, .dec true] [2, 4, 7, 34] [1, 2, 4, 5] ⟨tr, tr, ⟨tr, b6⟩, tr, tr, tr, tr, tr, tr, tr, tr, tr, tr⟩ ⟨rfl, rfl⟩
    · rcases ite2_cases e9 with ⟨b7, e9⟩ | ⟨b7, e9⟩
      · replace e9 := some_eq e9
        subst e9
        exact AW.rA ⟨[(2, (vp 1 0)), (4, (vL 2 1 csS v1)), (7, (vp 5 0)), (34, (vB true))], [(1, (.box [(cF (default : F32)), (cF (default : F32)), (cF (default : F32)), .nils])), (2, (oL 1 csS v1)), (4, (oL 4 cs_Turn ([] : List Turn))), (5, (.box [(cF v4.1.X), (cF v4.1.Y), (cF v4.1.Z), (xL 4 4 cs_Turn ([] : List Turn))]))]⟩ (T2 ((Tt ∧ (!v4.2) = false) ∧ T4 ((Tt ∧ (decide ((v1.length : Int) < (2 : Int))) = true) ∧ T4 Tt))) [.no, .no, .dec false, .no, .no, .no, .no, .dec true] [2, 4, 7, 34] [1, 2, 4, 5] ⟨tr, tr, ⟨tr, b6⟩, tr, tr, tr, tr, ⟨tr, b7⟩, tr, tr, tr, tr, tr⟩ ⟨rfl, rfl⟩
      · replace e9 := some_eq e9
        subst e9
        exact AW.rA ⟨[(2, (vp 1 0)), (4, (vL 2 1 csS v1)), (7, (vp 5 0)), (34, (vB (decide ((v1.length : Int) > (13 : Int)))))], [(1, (.box [(cF (default : F32)), (cF (default : F32)), (cF (default : F32)), .nils])), (2, (oL 1 csS v1)), (4, (oL 4 cs_Turn ([] : List Turn))), (5, (.box [(cF v4.1.X), (cF v4.1.Y), (cF v4.1.Z), (xL 4 4 cs_Turn ([] : List Turn))]))]⟩ (T2 ((Tt ∧ (!v4.2) = false) ∧ T4 ((Tt ∧ (decide ((v1.length : Int) < (2 : Int))) = false) ∧ T4 Tt))) [.no, .no, .dec false, .no, .no, .no, .no, .dec false] [2, 4, 7, 34] [1, 2, 4, 5] ⟨tr, tr, ⟨tr, b6⟩, tr, tr, tr, tr, ⟨tr, b7⟩, tr, tr, tr, tr, tr⟩ ⟨rfl, rfl⟩
  refine thenQ_normal ?_
  rcases ite2_cases h with ⟨b10, h⟩ | ⟨b10, h⟩
  · refine AW.cond_t rfl b10 ?_
    refine AW.sA ⟨[(2, (vp 1 0)), (3, (vB false))], [(1, (.box [(cF (default : F32)), (cF (default : F32)), (cF (default : F32)), .nils]))]⟩ (Tt ∧ T2 Tt) [] [2, 3] [1] ⟨tr, tr, tr, tr⟩ ?_
    refine AW.ret ?_
    refine thenQ_ret ?_
    replace h := some_eq h
    subst h
    exact ⟨.inr rfl, retOK_of [(.agg [(cF (default : F32)), (cF (default : F32)), (cF (default : F32)), .nils]), (.one (.c (.bool false)))] (by kernel_rfl) ⟨⟨⟨rfl, tr⟩, ⟨rfl, tr⟩, ⟨rfl, tr⟩, rfl, tr⟩, ⟨rfl, tr⟩, tr⟩ (of_decide_eq_true (by kernel_rfl))⟩
  · refine AW.cond_f rfl b10 ?_
    refine AW.skip ?_
    refine thenQ_normal ?_
    refine AW.seq ?_
    refine AW.sA ⟨[(2, (vp 1 0)), (4, (vL 2 1 csS v1)), (7, (vp 5 0)), (8, (vI (1 : Int)))], [(1, (.box [(cF (default : F32)), (cF (default : F32)), (cF (default : F32)), .nils])), (2, (oL 1 csS v1)), (4, (oL 4 cs_Turn ([] : List Turn))), (5, (.box [(cF v4.1.X), (cF v4.1.Y), (cF v4.1.Z), (xL 4 4 cs_Turn ([] : List Turn))]))]⟩ (Tt ∧ Tt) [] [2, 4, 7, 8] [1, 2, 4, 5] ⟨tr, tr⟩ ?_
    refine AW.block ?_
    refine AW.loopQ (σ := Nat × Int × (List Turn)) (fun p => ⟨[(2, (vp 1 0)), (4, (vL 2 1 csS v1)), (7, (vp 5 0)), (8, (vI p.2.1))], [(1, (.box [(cF (default : F32)), (cF (default : F32)), (cF (default : F32)), .nils])), (2, (oL 1 csS v1)), (4, (oL 4 cs_Turn p.2.2)), (5, (.box [(cF v4.1.X), (cF v4.1.Y), (cF v4.1.Z), (xL 4 4 cs_Turn p.2.2)]))]⟩) (fun p => spec_l11Read_l1 K v1 v4 p.1 p.2.1 p.2.2 = some o) (fun p => p.1) (K, (1 : Int), ([] : List Turn)) h ?_
    clear h
    rintro ⟨k, x13, x14⟩ h
    replace h : spec_l11Read_l1 K v1 v4 k x13 x14 = some o := h
    show AW _ _ (⟨[(2, (vp 1 0)), (4, (vL 2 1 csS v1)), (7, (vp 5 0)), (8, (vI x13))], [(1, (.box [(cF (default : F32)), (cF (default : F32)), (cF (default : F32)), .nils])), (2, (oL 1 csS v1)), (4, (oL 4 cs_Turn x14)), (5, (.box [(cF v4.1.X), (cF v4.1.Y), (cF v4.1.Z), (xL 4 4 cs_Turn x14)]))]⟩ : St) _
    obtain _ | k := k
    · rw [spec_l11Read_l1] at h; cases h
    rw [spec_l11Read_l1] at h
    refine AW.seq ?_
    refine AW.sA ⟨[(2, (vp 1 0)), (4, (vL 2 1 csS v1)), (7, (vp 5 0)), (8, (vI x13)), (39, (vB (decide (x13 < (v1.length : Int)))))], [(1, (.box [(cF (default : F32)), (cF (default : F32)), (cF (default : F32)), .nils])), (2, (oL 1 csS v1)), (4, (oL 4 cs_Turn x14)), (5, (.box [(cF v4.1.X), (cF v4.1.Y), (cF v4.1.Z), (xL 4 4 cs_Turn x14)]))]⟩ (T4 Tt) [] [2, 4, 7, 8, 39] [1, 2, 4, 5] ⟨tr, tr, tr, tr, tr⟩ ?_
    rcases ite2_cases h with ⟨b15, h⟩ | ⟨b15, h⟩
    · refine AW.cond_t rfl b15 ?_
      refine AW.skip ?_
      refine thenQ_normal ?_
      refine AW.seq ?_
      refine AW.block ?_
      refine AW.seq ?_
      obtain ⟨c16, h⟩ := chk_some h
      obtain ⟨v17, e18, h⟩ := bind_some h
      refine AW.tC (T2 ((0 ≤ x13 ∧ x13 < (v1.length : Int)) ∧ Tt ∧ (((Eqc (.str (v1.getD x13.toNat default))) ∧ Tt) ∧ CallOK Tryd.prog 19 [.one (.str (v1.getD x13.toNat default))] [.agg (cs_Turn v17.1), .one (.bool v17.2)]) ∧ T2 (T4 Tt))) [.no, .no, .no, .no, .call [.one (.str (v1.getD x13.toNat default))] [.agg (cs_Turn v17.1), .one (.bool v17.2)] [[.view, .view, .view, .view], [.view]], .no, .no, .no, .box 12] [2, 4, 7, 8, 9, 10] [1, 2, 4, 5, 12] ⟨tr, tr, c16, tr, ⟨⟨rfl, tr⟩, ok_spec_l11Turn K (v1.getD x13.toNat default) v17 e18⟩, tr, tr, tr, tr, tr, tr, tr⟩ ?_
      refine AW.seq ?_
      refine AW.sA ⟨[(2, (vp 1 0)), (4, (vL 2 1 csS v1)), (7, (vp 5 0)), (8, (vI x13)), (9, (vp 12 0)), (51, (vB (!v17.2)))], [(1, (.box [(cF (default : F32)), (cF (default : F32)), (cF (default : F32)), .nils])), (2, (oL 1 csS v1)), (4, (oL 4 cs_Turn x14)), (5, (.box [(cF v4.1.X), (cF v4.1.Y), (cF v4.1.Z), (xL 4 4 cs_Turn x14)])), (12, (.box [(cF v17.1.W), (cF v17.1.X), (cF v17.1.Y), (cF v17.1.Z)]))]⟩ (T2 Tt) [] [2, 4, 7, 8, 9, 51] [1, 2, 4, 5, 12] ⟨tr, tr, tr⟩ ?_
      rcases ite2_cases h with ⟨b19, h⟩ | ⟨b19, h⟩
      · refine AW.cond_t rfl b19 ?_
        refine AW.sA ⟨[(2, (vp 1 0)), (3, (vB false))], [(1, (.box [(cF (default : F32)), (cF (default : F32)), (cF (default : F32)), .nils]))]⟩ (Tt ∧ T2 Tt) [] [2, 3] [1] ⟨tr, tr, tr, tr⟩ ?_
        refine AW.ret ?_
        refine thenQ_ret ?_
        refine blockQ_ret ?_
        refine thenQ_ret ?_
        refine loopQ_ret ?_
        refine blockQ_ret ?_
        refine thenQ_ret ?_
        replace h := some_eq h
        subst h
        exact ⟨.inr rfl, retOK_of [(.agg [(cF (default : F32)), (cF (default : F32)), (cF (default : F32)), .nils]), (.one (.c (.bool false)))] (by kernel_rfl) ⟨⟨⟨rfl, tr⟩, ⟨rfl, tr⟩, ⟨rfl, tr⟩, rfl, tr⟩, ⟨rfl, tr⟩, tr⟩ (of_decide_eq_true (by kernel_rfl))⟩
      · refine AW.cond_f rfl b19 ?_
        refine AW.skip ?_
        refine thenQ_normal ?_
        obtain ⟨c20, h⟩ := chk_some h
        refine AW.rA ⟨[(2, (vp 1 0)), (4, (vL 2 1 csS v1)), (7, (vp 5 0)), (8, (vI x13))], [(1, (.box [(cF (default : F32)), (cF (default : F32)), (cF (default : F32)), .nils])), (2, (oL 1 csS v1)), (5, (.box [(cF v4.1.X), (cF v4.1.Y), (cF v4.1.Z), (xL 14 4 cs_Turn (x14 ++ ([v17.1])))])), (14, (oL 4 cs_Turn (x14 ++ ([v17.1]))))]⟩ (Tt ∧ T2 ((([v17.1]).length = 1 ∧ (((.flt .f32 v17.1.W.bits) : C) = (.flt .f32 v17.1.W.bits) ∧ Tt) ∧ (((.flt .f32 v17.1.X.bits) : C) = (.flt .f32 v17.1.X.bits) ∧ Tt) ∧ (((.flt .f32 v17.1.Y.bits) : C) = (.flt .f32 v17.1.Y.bits) ∧ Tt) ∧ (((.flt .f32 v17.1.Z.bits) : C) = (.flt .f32 v17.1.Z.bits) ∧ Tt) ∧ Tt) ∧ ((x14 ++ ([v17.1])).length = x14.length + ([v17.1]).length ∧ AppOb (x14.length) (([v17.1]).length) 4 (gl cs_Turn x14) (gl cs_Turn ([v17.1])) (gl cs_Turn (x14 ++ ([v17.1]))) ∧ (∀ i j, i < ([v17.1]).length → j < 4 → scalarC (gl cs_Turn ([v17.1]) i j)) ∧ (x14.length + ([v17.1]).length) * 16 ≤ 140737488355328) ∧ T2 Tt)) [.no, .no, .no, .obj 13 ([v17.1]).length (gl cs_Turn ([v17.1])), .objK 14 (x14 ++ ([v17.1])).length (gl cs_Turn (x14 ++ ([v17.1])))] [2, 4, 7, 8] [1, 2, 5, 14] ⟨tr, tr, tr, ⟨rfl, ⟨⟨rfl, tr⟩, ⟨rfl, tr⟩, ⟨rfl, tr⟩, ⟨rfl, tr⟩, tr⟩⟩, ⟨List.length_append, gl_append, gl_scalar sc_Turn _, c20⟩, tr, tr, tr⟩ ?_
        refine blockQ_normal ?_
        refine thenQ_normal ?_
        refine AW.rA ⟨[(2, (vp 1 0)), (4, (vL 2 1 csS v1)), (7, (vp 5 0)), (8, (vI (IntKind.i64.wrap (x13 + (1 : Int)))))], [(1, (.box [(cF (default : F32)), (cF (default : F32)), (cF (default : F32)), .nils])), (2, (oL 1 csS v1)), (5, (.box [(cF v4.1.X), (cF v4.1.Y), (cF v4.1.Z), (xL 14 4 cs_Turn (x14 ++ ([v17.1])))])), (14, (oL 4 cs_Turn (x14 ++ ([v17.1]))))]⟩ (Tt ∧ T2 Tt) [] [2, 4, 7, 8] [1, 2, 5, 14] ⟨tr, tr, tr, tr⟩ ?_
        exact loopQ_normal (k, (IntKind.i64.wrap (x13 + (1 : Int))), (x14 ++ ([v17.1]))) h (Nat.lt_succ_self k) (Sub.trans (Sub.swap 4 14 _ (by kernel_rfl) (by kernel_rfl)) (Sub.keep [2, 4, 7, 8] [1, 2, 4, 5] (by kernel_rfl) (by kernel_rfl)))
    · refine AW.cond_f rfl b15 ?_
      refine AW.exit ?_
      refine thenQ_exit ?_
      refine loopQ_exit ?_
      refine blockQ_exit ?_
      refine thenQ_normal ?_
      refine AW.sA ⟨[(2, (vp 1 0)), (3, (vB true))], [(1, (.box [(cF v4.1.X), (cF v4.1.Y), (cF v4.1.Z), (xL 4 4 cs_Turn x14)])), (4, (oL 4 cs_Turn x14))]⟩ (Tt ∧ T2 Tt) [] [2, 3] [1, 4] ⟨tr, tr, tr, tr⟩ ?_
      refine AW.ret ?_
      replace h := some_eq h
      subst h
      exact ⟨.inr rfl, retOK_of [(.agg [(cF v4.1.X), (cF v4.1.Y), (cF v4.1.Z), (xL 4 4 cs_Turn x14)]), (.one (.c (.bool true)))] (by kernel_rfl) ⟨⟨⟨rfl, tr⟩, ⟨rfl, tr⟩, ⟨rfl, tr⟩, rfl, tr⟩, ⟨rfl, tr⟩, tr⟩ (of_decide_eq_true (by kernel_rfl))⟩

/-! spec.ReadPose -/
def spec_ReadPose (K : Nat) (a0 : ByteArray) : Option (Pose × Bool) :=
  (spec_l11Read K a0).bind fun v1 => some (v1.1, v1.2)

theorem ok_spec_ReadPose (K : Nat) (a0 : ByteArray) (o : (Pose × Bool)) (h : spec_ReadPose K a0 = some o) : CallOK Tryd.prog 4 [.one (.str a0)] [.agg (cs_Pose o.1), .one (.bool o.2)] := by
  refine callOK_of_AW Tryd.func4 rfl (by kernel_rfl) (Nat.le_of_ble_eq_true (by kernel_rfl)) ?_
  intro w0
  unfold spec_ReadPose at h
  refine AW.sC (T2 Tt) [.box 1] [0, 2] [1] ⟨tr, tr, tr⟩ ?_
  refine AW.seq ?_
  obtain ⟨v1, e2, h⟩ := bind_some h
  refine AW.tA ⟨[(2, (vp 1 0)), (3, (vB v1.2))], [(1, (.box [(cF v1.1.Root.X), (cF v1.1.Root.Y), (cF v1.1.Root.Z), (xL 2 4 cs_Turn v1.1.Turns)])), (2, (oL 4 cs_Turn v1.1.Turns))]⟩ (Tt ∧ (((Eqc (.str a0)) ∧ Tt) ∧ CallOK Tryd.prog 9 [.one (.str a0)] [.agg (cs_Pose v1.1), .one (.bool v1.2)]) ∧ T4 Tt) [.no, .call [.one (.str a0)] [.agg (cs_Pose v1.1), .one (.bool v1.2)] [[.view, .view, .view, .lst 2], [.view]]] [2, 3] [1, 2] ⟨tr, ⟨⟨rfl, tr⟩, ok_spec_l11Read K a0 v1 e2⟩, tr, tr, tr, tr, tr⟩ ?_
  refine AW.ret ?_
  replace h := some_eq h
  subst h
  exact ⟨.inr rfl, retOK_of [(.agg [(cF v1.1.Root.X), (cF v1.1.Root.Y), (cF v1.1.Root.Z), (xL 2 4 cs_Turn v1.1.Turns)]), (.one (.c (.bool v1.2)))] (by kernel_rfl) ⟨⟨⟨rfl, tr⟩, ⟨rfl, tr⟩, ⟨rfl, tr⟩, rfl, tr⟩, ⟨rfl, tr⟩, tr⟩ (of_decide_eq_true (by kernel_rfl))⟩

/-! strings.Split -/
def strings_Split (_K : Nat) (a0 : ByteArray) (a1 : ByteArray) : Option ((List ByteArray)) :=
  split1 a0 a1

theorem ok_strings_Split (K : Nat) (a0 : ByteArray) (a1 : ByteArray) (o : (List ByteArray)) (h : strings_Split K a0 a1 = some o) : CallOK Tryd.prog 10 [(.one (.str a0)), (.one (.str a1))] [.one (sl 1 csS o)] :=
  hand_split Tryd.func10 (by kernel_rfl) (by kernel_rfl) (fun s c w h => Tryd.split1 s c w h) a0 a1 o h

/-! impl.words -/
def impl_words (K : Nat) (a0 : ByteArray) : Option ((List ByteArray)) :=
  ite2 ((a0.toList == (ByteArray.mk #[110, 111, 110, 101]).toList)) (some ([] : (List ByteArray))) ((strings_Split K a0 (ByteArray.mk #[44])).bind fun v2 => some v2)

theorem ok_impl_words (K : Nat) (a0 : ByteArray) (o : ((List ByteArray))) (h : impl_words K a0 = some o) : CallOK Tryd.prog 28 [.one (.str a0)] [.one (sl 1 csS o)] := by
  refine callOK_of_AW Tryd.func28 rfl (by kernel_rfl) (Nat.le_of_ble_eq_true (by kernel_rfl)) ?_
  intro w0
  unfold impl_words at h
  refine AW.sC (Tt ∧ Tt) [] [0] [] ⟨tr, tr⟩ ?_
  refine AW.seq ?_
  refine AW.sA ⟨[(0, (vc (.str a0))), (4, (vB (a0.toList == (ByteArray.mk #[110, 111, 110, 101]).toList)))], []⟩ (T2 Tt) [] [0, 4] [] ⟨tr, tr, tr⟩ ?_
  rcases ite2_cases h with ⟨b1, h⟩ | ⟨b1, h⟩
  · refine AW.cond_t rfl b1 ?_
    refine AW.sA ⟨[(2, (.v (.one .nils)))], []⟩ (Tt ∧ Tt) [] [2] [] ⟨tr, tr⟩ ?_
    refine AW.ret ?_
    refine thenQ_ret ?_
    replace h := some_eq h
    subst h
    exact ⟨.inr rfl, retOK_of [(.one .nils)] (by kernel_rfl) ⟨rfl, tr⟩ (of_decide_eq_true (by kernel_rfl))⟩
  · refine AW.cond_f rfl b1 ?_
    refine AW.skip ?_
    refine thenQ_normal ?_
    refine AW.seq ?_
    obtain ⟨v2, e3, h⟩ := bind_some h
    refine AW.tA ⟨[(2, (vL 1 1 csS v2))], [(1, (oL 1 csS v2))]⟩ (Tt ∧ (((Eqc (.str a0)) ∧ (Eqc (.str (ByteArray.mk #[44]))) ∧ Tt) ∧ CallOK Tryd.prog 10 [.one (.str a0), .one (.str (ByteArray.mk #[44]))] [.one (sl 1 csS v2)]) ∧ Tt ∧ Tt) [.no, .call [.one (.str a0), .one (.str (ByteArray.mk #[44]))] [.one (sl 1 csS v2)] [[.lst 1]]] [2] [1] ⟨tr, ⟨⟨rfl, rfl, tr⟩, ok_strings_Split K a0 (ByteArray.mk #[44]) v2 e3⟩, tr, tr⟩ ?_
    refine AW.ret ?_
    replace h := some_eq h
    subst h
    exact ⟨.inr rfl, retOK_of [(.one (xL 1 1 csS v2))] (by kernel_rfl) ⟨rfl, tr⟩ (of_decide_eq_true (by kernel_rfl))⟩

/-! strconv.ParseUint -/
def strconv_ParseUint (_K : Nat) (a0 : ByteArray) (a1 : Int) (a2 : Int) : Option ((Int × Bool)) :=
  p16g a0 a1 a2

theorem ok_strconv_ParseUint (K : Nat) (a0 : ByteArray) (a1 : Int) (a2 : Int) (o : (Int × Bool)) (h : strconv_ParseUint K a0 a1 a2 = some o) : CallOK Tryd.prog 36 [(.one (.str a0)), (.one (.int .i64 a1)), (.one (.int .i64 a2))] [.one (.int .u64 o.1), .one (.err o.2)] :=
  hand_p16G (gs := 4) (gr := 5) Tryd.func36 (by kernel_rfl) (by kernel_rfl) (fun _ hg => err_of_gd (by unfold gtabs; exact (List.mem_cons_of_mem _ (List.mem_cons_of_mem _ List.mem_cons_self))) hg) (fun _ hg => err_of_gd (by unfold gtabs; exact (List.mem_cons_of_mem _ (List.mem_cons_of_mem _ (List.mem_cons_of_mem _ List.mem_cons_self)))) hg) (fun t h w h1 h2 => Tryd.parse16G t h w h1 h2) a0 a1 a2 o h

/-! impl.BitsOf -/
def impl_BitsOf (K : Nat) (a0 : F32) : Option (Int) :=
  ite2 ((a0.ne a0)) (some (2143289344 : Int)) ((math_Float32bits K a0).bind fun v2 => some (IntKind.i64.wrap v2))

theorem ok_impl_BitsOf (K : Nat) (a0 : F32) (o : (Int)) (h : impl_BitsOf K a0 = some o) : CallOK Tryd.prog 48 [.one (.flt .f32 a0.bits)] [.one (.int .i64 o)] := by
  refine callOK_of_AW Tryd.func48 rfl (by kernel_rfl) (Nat.le_of_ble_eq_true (by kernel_rfl)) ?_
  intro w0
  unfold impl_BitsOf at h
  refine AW.sC (Tt ∧ Tt) [] [0] [] ⟨tr, tr⟩ ?_
  refine AW.seq ?_
  refine AW.sA ⟨[(0, (vc (.flt .f32 a0.bits))), (5, (vB (a0.ne a0)))], []⟩ (Tt ∧ T2 Tt) [] [0, 5] [] ⟨tr, tr, tr, tr⟩ ?_
  rcases ite2_cases h with ⟨b1, h⟩ | ⟨b1, h⟩
  · refine AW.cond_t rfl b1 ?_
    refine AW.sA ⟨[(2, (vI (2143289344 : Int)))], []⟩ (Tt ∧ Tt) [] [2] [] ⟨tr, tr⟩ ?_
    refine AW.ret ?_
    refine thenQ_ret ?_
    replace h := some_eq h
    subst h
    exact ⟨.inr rfl, retOK_of [(.one (cI (2143289344 : Int)))] (by kernel_rfl) ⟨⟨rfl, tr⟩, tr⟩ (of_decide_eq_true (by kernel_rfl))⟩
  · refine AW.cond_f rfl b1 ?_
    refine AW.skip ?_
    refine thenQ_normal ?_
    refine AW.seq ?_
    obtain ⟨v2, e3, h⟩ := bind_some h
    refine AW.tA ⟨[(2, (vI (IntKind.i64.wrap v2)))], []⟩ (Tt ∧ (((eF a0) ∧ Tt) ∧ CallOK Tryd.prog 39 [.one (.flt .f32 a0.bits)] [.one (.int .u32 v2)]) ∧ T2 Tt) [.no, .call [.one (.flt .f32 a0.bits)] [.one (.int .u32 v2)] [[.view]]] [2] [] ⟨tr, ⟨⟨rfl, tr⟩, ok_math_Float32bits K a0 v2 e3⟩, tr, tr, tr⟩ ?_
    refine AW.ret ?_
    replace h := some_eq h
    subst h
    exact ⟨.inr rfl, retOK_of [(.one (cI (IntKind.i64.wrap v2)))] (by kernel_rfl) ⟨⟨rfl, tr⟩, tr⟩ (of_decide_eq_true (by kernel_rfl))⟩

/-! strconv.FormatInt -/
def strconv_FormatInt (_K : Nat) (a0 : Int) (a1 : Int) : Option (ByteArray) :=
  fmtI a0 a1

theorem ok_strconv_FormatInt (K : Nat) (a0 : Int) (a1 : Int) (o : ByteArray) (h : strconv_FormatInt K a0 a1 = some o) : CallOK Tryd.prog 47 [(.one (.int .i64 a0)), (.one (.int .i64 a1))] [.one (.str o)] :=
  hand_fmtI Tryd.func47 (by kernel_rfl) (by kernel_rfl) (fun _ hg => tabIs_of_gd (g := 6) (by unfold gtabs; exact List.mem_cons_self) (by kernel_rfl) hg) (g := 8) (fun _ hg => cell_of_gd (by unfold gtabs; exact List.mem_cons_of_mem _ List.mem_cons_self) rfl hg) Tryd.strconv_FormatInt_10 Tryd.formatInt16 a0 a1 o h

/-! strings.Repeat -/
def strings_Repeat (_K : Nat) (a0 : ByteArray) (a1 : Int) : Option (ByteArray) :=
  rep1 a0 a1

theorem ok_strings_Repeat (K : Nat) (a0 : ByteArray) (a1 : Int) (o : ByteArray) (h : strings_Repeat K a0 a1 = some o) : CallOK Tryd.prog 49 [(.one (.str a0)), (.one (.int .i64 a1))] [.one (.str o)] :=
  hand_repeat Tryd.func49 (by kernel_rfl) (by kernel_rfl) (fun s c w => Tryd.strings_Repeat s c w) a0 a1 o h

/-! impl.hexOf -/
def impl_hexOf (K : Nat) (a0 : F32) : Option (ByteArray) :=
  (impl_BitsOf K a0).bind fun v1 => (strconv_FormatInt K v1 (16 : Int)).bind fun v3 => (strings_Repeat K (ByteArray.mk #[48]) (IntKind.i64.wrap ((8 : Int) - (v3.size : Int)))).bind fun v5 => chk (((v5.size + v3.size : Nat) : Int) ≤ 9223372036854775807) (some (v5 ++ v3))

theorem ok_impl_hexOf (K : Nat) (a0 : F32) (o : (ByteArray)) (h : impl_hexOf K a0 = some o) : CallOK Tryd.prog 38 [.one (.flt .f32 a0.bits)] [.one (.str o)] := by
  refine callOK_of_AW Tryd.func38 rfl (by kernel_rfl) (Nat.le_of_ble_eq_true (by kernel_rfl)) ?_
  intro w0
  unfold impl_hexOf at h
  refine AW.sC (Tt ∧ Tt) [] [0] [] ⟨tr, tr⟩ ?_
  refine AW.seq ?_
  obtain ⟨v1, e2, h⟩ := bind_some h
  obtain ⟨v3, e4, h⟩ := bind_some h
  refine AW.tC (Tt ∧ (((eF a0) ∧ Tt) ∧ CallOK Tryd.prog 48 [.one (.flt .f32 a0.bits)] [.one (.int .i64 v1)]) ∧ (((eI v1) ∧ (eI (16 : Int)) ∧ Tt) ∧ CallOK Tryd.prog 47 [.one (.int .i64 v1), .one (.int .i64 (16 : Int))] [.one (.str v3)]) ∧ Tt ∧ Tt) [.no, .call [.one (.flt .f32 a0.bits)] [.one (.int .i64 v1)] [[.view]], .call [.one (.int .i64 v1), .one (.int .i64 (16 : Int))] [.one (.str v3)] [[.view]]] [3] [] ⟨tr, ⟨⟨rfl, tr⟩, ok_impl_BitsOf K a0 v1 e2⟩, ⟨⟨rfl, rfl, tr⟩, ok_strconv_FormatInt K v1 (16 : Int) v3 e4⟩, tr, tr⟩ ?_
  refine AW.seq ?_
  obtain ⟨v5, e6, h⟩ := bind_some h
  obtain ⟨c7, h⟩ := chk_some h
  refine AW.tA ⟨[(2, (vc (.str (v5 ++ v3))))], []⟩ (Tt ∧ T2 ((((Eqc (.str (ByteArray.mk #[48]))) ∧ (eI (IntKind.i64.wrap ((8 : Int) - (v3.size : Int)))) ∧ Tt) ∧ CallOK Tryd.prog 49 [.one (.str (ByteArray.mk #[48])), .one (.int .i64 (IntKind.i64.wrap ((8 : Int) - (v3.size : Int))))] [.one (.str v5)]) ∧ Tt ∧ (((v5.size + v3.size : Nat) : Int) ≤ 9223372036854775807) ∧ Tt ∧ Tt)) [.no, .no, .no, .call [.one (.str (ByteArray.mk #[48])), .one (.int .i64 (IntKind.i64.wrap ((8 : Int) - (v3.size : Int))))] [.one (.str v5)] [[.view]]] [2] [] ⟨tr, tr, tr, ⟨⟨rfl, rfl, tr⟩, ok_strings_Repeat K (ByteArray.mk #[48]) (IntKind.i64.wrap ((8 : Int) - (v3.size : Int))) v5 e6⟩, tr, c7, tr, tr⟩ ?_
  refine AW.ret ?_
  replace h := some_eq h
  subst h
  exact ⟨.inr rfl, retOK_of [(.one (.c (.str (v5 ++ v3))))] (by kernel_rfl) ⟨⟨rfl, tr⟩, tr⟩ (of_decide_eq_true (by kernel_rfl))⟩

/-! impl.fromHex -/
def impl_fromHex (K : Nat) (a0 : ByteArray) : Option (F32 × Bool) :=
  (strconv_ParseUint K a0 (16 : Int) (32 : Int)).bind fun v1 => (ite2 (v1.2) (some true) (some ((a0.size : Int) != (8 : Int)))).bind fun j4 => ite2 (j4) (some ((Fl.mk (k := .f32) 0 (by decide)), false)) ((math_Float32frombits K (IntKind.u32.wrap v1.1)).bind fun v7 => (impl_hexOf K v7).bind fun v9 => some (v7, (v9.toList == a0.toList)))

theorem ok_impl_fromHex (K : Nat) (a0 : ByteArray) (o : (F32 × Bool)) (h : impl_fromHex K a0 = some o) : CallOK Tryd.prog 29 [.one (.str a0)] [.one (.flt .f32 o.1.bits), .one (.bool o.2)] := by
  refine callOK_of_AW Tryd.func29 rfl (by kernel_rfl) (Nat.le_of_ble_eq_true (by kernel_rfl)) ?_
  intro w0
  unfold impl_fromHex at h
  refine AW.sC (T2 Tt) [] [0] [] ⟨tr, tr, tr⟩ ?_
  refine AW.seq ?_
  obtain ⟨v1, e2, h⟩ := bind_some h
  refine AW.tA ⟨[(0, (vc (.str a0))), (4, (vc (.int .u64 v1.1))), (5, (vc (.err v1.2)))], []⟩ (Tt ∧ (((Eqc (.str a0)) ∧ (eI (16 : Int)) ∧ (eI (32 : Int)) ∧ Tt) ∧ CallOK Tryd.prog 36 [.one (.str a0), .one (.int .i64 (16 : Int)), .one (.int .i64 (32 : Int))] [.one (.int .u64 v1.1), .one (.err v1.2)]) ∧ Tt ∧ T4 Tt) [.no, .call [.one (.str a0), .one (.int .i64 (16 : Int)), .one (.int .i64 (32 : Int))] [.one (.int .u64 v1.1), .one (.err v1.2)] [[.view], [.view]]] [0, 4, 5] [] ⟨tr, ⟨⟨rfl, rfl, rfl, tr⟩, ok_strconv_ParseUint K a0 (16 : Int) (32 : Int) v1 e2⟩, tr, tr, tr, tr, tr, tr⟩ ?_
  refine AW.seq ?_
  refine AW.seq ?_
  obtain ⟨j4, e5, h⟩ := bind_some h
  refine AW.join1 (s2 := ⟨[(0, (vc (.str a0))), (4, (vc (.int .u64 v1.1))), (18, (vB j4))], []⟩) ?_ ?_
  · rcases ite2_cases e5 with ⟨b3, e5⟩ | ⟨b3, e5⟩
    · replace e5 := some_eq e5
      subst e5
      exact AW.rA ⟨[(0, (vc (.str a0))), (4, (vc (.int .u64 v1.1))), (18, (vB true))], []⟩ (T2 ((Tt ∧ v1.2 = true) ∧ T4 Tt)) [.no, .no, .dec true] [0, 4, 18] [] ⟨tr, tr, ⟨tr, b3⟩, tr, tr, tr, tr, tr⟩ ⟨rfl, rfl⟩
    · replace e5 := some_eq e5
      subst e5
      exact AW.rA ⟨[(0, (vc (.str a0))), (4, (vc (.int .u64 v1.1))), (18, (vB ((a0.size : Int) != (8 : Int))))], []⟩ (T2 ((Tt ∧ v1.2 = false) ∧ T4 Tt)) [.no, .no, .dec false] [0, 4, 18] [] ⟨tr, tr, ⟨tr, b3⟩, tr, tr, tr, tr, tr⟩ ⟨rfl, rfl⟩
  refine thenQ_normal ?_
  rcases ite2_cases h with ⟨b6, h⟩ | ⟨b6, h⟩
  · refine AW.cond_t rfl b6 ?_
    refine AW.sA ⟨[(2, (vc (.flt .f32 (Fl.mk (k := .f32) 0 (by decide)).bits))), (3, (vB false))], []⟩ (T2 Tt) [] [2, 3] [] ⟨tr, tr, tr⟩ ?_
    refine AW.ret ?_
    refine thenQ_ret ?_
    replace h := some_eq h
    subst h
    exact ⟨.inr rfl, retOK_of [(.one (cF (Fl.mk (k := .f32) 0 (by decide)))), (.one (.c (.bool false)))] (by kernel_rfl) ⟨⟨rfl, tr⟩, ⟨rfl, tr⟩, tr⟩ (of_decide_eq_true (by kernel_rfl))⟩
  · refine AW.cond_f rfl b6 ?_
    refine AW.skip ?_
    refine thenQ_normal ?_
    refine AW.seq ?_
    obtain ⟨v7, e8, h⟩ := bind_some h
    refine AW.tC (T2 ((((Eqc (.int .u32 (IntKind.u32.wrap v1.1))) ∧ Tt) ∧ CallOK Tryd.prog 37 [.one (.int .u32 (IntKind.u32.wrap v1.1))] [.one (.flt .f32 v7.bits)]) ∧ Tt ∧ Tt)) [.no, .no, .call [.one (.int .u32 (IntKind.u32.wrap v1.1))] [.one (.flt .f32 v7.bits)] [[.view]]] [0, 6] [] ⟨tr, tr, ⟨⟨rfl, tr⟩, ok_math_Float32frombits K (IntKind.u32.wrap v1.1) v7 e8⟩, tr, tr⟩ ?_
    refine AW.seq ?_
    obtain ⟨v9, e10, h⟩ := bind_some h
    refine AW.tA ⟨[(2, (vc (.flt .f32 v7.bits))), (3, (vB (v9.toList == a0.toList)))], []⟩ (T2 ((((eF v7) ∧ Tt) ∧ CallOK Tryd.prog 38 [.one (.flt .f32 v7.bits)] [.one (.str v9)]) ∧ T4 Tt)) [.no, .no, .call [.one (.flt .f32 v7.bits)] [.one (.str v9)] [[.view]]] [2, 3] [] ⟨tr, tr, ⟨⟨rfl, tr⟩, ok_impl_hexOf K v7 v9 e10⟩, tr, tr, tr, tr, tr⟩ ?_
    refine AW.ret ?_
    replace h := some_eq h
    subst h
    exact ⟨.inr rfl, retOK_of [(.one (cF v7)), (.one (.c (.bool (v9.toList == a0.toList))))] (by kernel_rfl) ⟨⟨rfl, tr⟩, ⟨rfl, tr⟩, tr⟩ (of_decide_eq_true (by kernel_rfl))⟩

/-! impl.ReadNumbers -/
def impl_ReadNumbers_l1 (K : Nat) (v1 : ((List ByteArray))) : Nat → Int → (List F32) → Option ((List F32) × Bool)
  | 0, _, _ => none
  | k + 1, x7, x8 => ite2 ((decide (x7 < (v1.length : Int)))) (chk (0 ≤ x7 ∧ x7 < (v1.length : Int)) ((impl_fromHex K (v1.getD x7.toNat default)).bind fun v11 => ite2 ((!v11.2)) (some (([] : (List F32)), false)) (chk (0 ≤ x7 ∧ x7 < (x8.length : Int)) (impl_ReadNumbers_l1 K v1 k (IntKind.i64.wrap (x7 + (1 : Int))) (x8.set x7.toNat v11.1))))) (some (x8, true))

def impl_ReadNumbers (K : Nat) (a0 : ByteArray) : Option ((List F32) × Bool) :=
  (impl_words K a0).bind fun v1 => ite2 ((decide ((v1.length : Int) > (256 : Int)))) (some (([] : (List F32)), false)) (chk (0 ≤ (v1.length : Int) ∧ (v1.length : Int).toNat * 4 ≤ 140737488355328) (impl_ReadNumbers_l1 K v1 K (0 : Int) (List.replicate (v1.length : Int).toNat (default : F32))))

theorem ok_impl_ReadNumbers (K : Nat) (a0 : ByteArray) (o : ((List F32) × Bool)) (h : impl_ReadNumbers K a0 = some o) : CallOK Tryd.prog 21 [.one (.str a0)] [.one (sl 1 (csF .f32) o.1), .one (.bool o.2)] := by
  refine callOK_of_AW Tryd.func21 rfl (by kernel_rfl) (Nat.le_of_ble_eq_true (by kernel_rfl)) ?_
  intro w0
  unfold impl_ReadNumbers at h
  refine AW.sC (T2 Tt) [] [0] [] ⟨tr, tr, tr⟩ ?_
  refine AW.seq ?_
  obtain ⟨v1, e2, h⟩ := bind_some h
  refine AW.tC (Tt ∧ (((Eqc (.str a0)) ∧ Tt) ∧ CallOK Tryd.prog 28 [.one (.str a0)] [.one (sl 1 csS v1)]) ∧ Tt ∧ Tt) [.no, .call [.one (.str a0)] [.one (sl 1 csS v1)] [[.lst 1]]] [4] [1] ⟨tr, ⟨⟨rfl, tr⟩, ok_impl_words K a0 v1 e2⟩, tr, tr⟩ ?_
  refine AW.seq ?_
  refine AW.sA ⟨[(4, (vL 1 1 csS v1)), (14, (vB (decide ((v1.length : Int) > (256 : Int)))))], [(1, (oL 1 csS v1))]⟩ (Tt ∧ T2 Tt) [] [4, 14] [1] ⟨tr, tr, tr, tr⟩ ?_
  rcases ite2_cases h with ⟨b3, h⟩ | ⟨b3, h⟩
  · refine AW.cond_t rfl b3 ?_
    refine AW.sA ⟨[(2, (.v (.one .nils))), (3, (vB false))], []⟩ (T2 Tt) [] [2, 3] [] ⟨tr, tr, tr⟩ ?_
    refine AW.ret ?_
    refine thenQ_ret ?_
    replace h := some_eq h
    subst h
    exact ⟨.inr rfl, retOK_of [(.one .nils), (.one (.c (.bool false)))] (by kernel_rfl) ⟨rfl, ⟨rfl, tr⟩, tr⟩ (of_decide_eq_true (by kernel_rfl))⟩
  · refine AW.cond_f rfl b3 ?_
    refine AW.skip ?_
    refine thenQ_normal ?_
    refine AW.seq ?_
    obtain ⟨c4, h⟩ := chk_some h
    refine AW.tC (T2 ((0 ≤ (v1.length : Int) ∧ (v1.length : Int) = (v1.length : Int) ∧ (((List.replicate (v1.length : Int).toNat (default : F32)).length : Nat) : Int) = (v1.length : Int) ∧ (List.replicate (v1.length : Int).toNat (default : F32)).length * 4 ≤ 140737488355328 ∧ ∀ i, i < (List.replicate (v1.length : Int).toNat (default : F32)).length → zeroRow (fun _ => none) [(cF (default : F32))] (gl (csF .f32) (List.replicate (v1.length : Int).toNat (default : F32)) i)) ∧ Tt ∧ Tt)) [.no, .no, .objA 2 (List.replicate (v1.length : Int).toNat (default : F32)).length (gl (csF .f32) (List.replicate (v1.length : Int).toNat (default : F32)))] [4, 5] [1, 2] ⟨tr, tr, ⟨c4.1, rfl, len_rep c4.1, rep_bytes c4.2, fun i hi => gl_zero (cs := (csF .f32)) (zs := [(cF (default : F32))]) (n := (v1.length : Int).toNat) ⟨⟨rfl, tr⟩, tr⟩ i (rep_lt hi)⟩, tr, tr⟩ ?_
    refine AW.seq ?_
    refine AW.sA ⟨[(5, (.v (.one (.arr 2)))), (18, (vL 1 1 csS v1)), (19, (vI (v1.length : Int))), (20, (vI (0 : Int)))], [(1, (oL 1 csS v1)), (2, (.arr false (List.replicate (v1.length : Int).toNat (default : F32)).length 1 (gl (csF .f32) (List.replicate (v1.length : Int).toNat (default : F32)))))]⟩ (Tt ∧ T2 Tt) [] [5, 18, 19, 20] [1, 2] ⟨tr, tr, tr, tr⟩ ?_
    refine AW.block ?_
    refine AW.loopQ (σ := Nat × Int × (List F32)) (fun p => ⟨[(5, (.v (.one (.arr 2)))), (18, (vL 1 1 csS v1)), (19, (vI (v1.length : Int))), (20, (vI p.2.1))], [(1, (oL 1 csS v1)), (2, (.arr false p.2.2.length 1 (gl (csF .f32) p.2.2)))]⟩) (fun p => impl_ReadNumbers_l1 K v1 p.1 p.2.1 p.2.2 = some o) (fun p => p.1) (K, (0 : Int), (List.replicate (v1.length : Int).toNat (default : F32))) h ?_
    clear h
    rintro ⟨k, x7, x8⟩ h
    replace h : impl_ReadNumbers_l1 K v1 k x7 x8 = some o := h
    show AW _ _ (⟨[(5, (.v (.one (.arr 2)))), (18, (vL 1 1 csS v1)), (19, (vI (v1.length : Int))), (20, (vI x7))], [(1, (oL 1 csS v1)), (2, (.arr false x8.length 1 (gl (csF .f32) x8)))]⟩ : St) _
    obtain _ | k := k
    · rw [impl_ReadNumbers_l1] at h; cases h
    rw [impl_ReadNumbers_l1] at h
    refine AW.sA ⟨[(5, (.v (.one (.arr 2)))), (18, (vL 1 1 csS v1)), (19, (vI (v1.length : Int))), (20, (vI x7)), (21, (vB (decide (x7 < (v1.length : Int)))))], [(1, (oL 1 csS v1)), (2, (.arr false x8.length 1 (gl (csF .f32) x8)))]⟩ (Tt ∧ Tt) [] [5, 18, 19, 20, 21] [1, 2] ⟨tr, tr⟩ ?_
    refine AW.seq ?_
    rcases ite2_cases h with ⟨b9, h⟩ | ⟨b9, h⟩
    · refine AW.cond_t rfl b9 ?_
      refine AW.skip ?_
      refine thenQ_normal ?_
      refine AW.seq ?_
      refine AW.block ?_
      refine AW.seq ?_
      obtain ⟨c10, h⟩ := chk_some h
      refine AW.tC (Tt ∧ (0 ≤ x7 ∧ x7 < (v1.length : Int)) ∧ Tt ∧ T2 Tt) [] [5, 6, 7, 18, 19, 20] [1, 2] ⟨tr, c10, tr, tr, tr, tr⟩ ?_
      refine AW.seq ?_
      obtain ⟨v11, e12, h⟩ := bind_some h
      refine AW.tC (Tt ∧ (((Eqc (.str (v1.getD x7.toNat default))) ∧ Tt) ∧ CallOK Tryd.prog 29 [.one (.str (v1.getD x7.toNat default))] [.one (.flt .f32 v11.1.bits), .one (.bool v11.2)]) ∧ Tt ∧ T4 Tt) [.no, .call [.one (.str (v1.getD x7.toNat default))] [.one (.flt .f32 v11.1.bits), .one (.bool v11.2)] [[.view], [.view]]] [5, 6, 8, 9, 18, 19, 20] [1, 2] ⟨tr, ⟨⟨rfl, tr⟩, ok_impl_fromHex K (v1.getD x7.toNat default) v11 e12⟩, tr, tr, tr, tr, tr, tr⟩ ?_
      refine AW.seq ?_
      refine AW.sA ⟨[(5, (.v (.one (.arr 2)))), (6, (vI x7)), (8, (vc (.flt .f32 v11.1.bits))), (18, (vL 1 1 csS v1)), (19, (vI (v1.length : Int))), (20, (vI x7)), (31, (vB (!v11.2)))], [(1, (oL 1 csS v1)), (2, (.arr false x8.length 1 (gl (csF .f32) x8)))]⟩ (T2 Tt) [] [5, 6, 8, 18, 19, 20, 31] [1, 2] ⟨tr, tr, tr⟩ ?_
      rcases ite2_cases h with ⟨b13, h⟩ | ⟨b13, h⟩
      · refine AW.cond_t rfl b13 ?_
        refine AW.sA ⟨[(2, (.v (.one .nils))), (3, (vB false))], []⟩ (T2 Tt) [] [2, 3] [] ⟨tr, tr, tr⟩ ?_
        refine AW.ret ?_
        refine thenQ_ret ?_
        refine blockQ_ret ?_
        refine thenQ_ret ?_
        refine loopQ_ret ?_
        refine blockQ_ret ?_
        refine thenQ_ret ?_
        replace h := some_eq h
        subst h
        exact ⟨.inr rfl, retOK_of [(.one .nils), (.one (.c (.bool false)))] (by kernel_rfl) ⟨rfl, ⟨rfl, tr⟩, tr⟩ (of_decide_eq_true (by kernel_rfl))⟩
      · refine AW.cond_f rfl b13 ?_
        refine AW.skip ?_
        refine thenQ_normal ?_
        obtain ⟨c14, h⟩ := chk_some h
        refine AW.rA ⟨[(5, (.v (.one (.arr 2)))), (18, (vL 1 1 csS v1)), (19, (vI (v1.length : Int))), (20, (vI x7))], [(1, (oL 1 csS v1)), (2, (.arr false (x8.set x7.toNat v11.1).length 1 (gl (csF .f32) (x8.set x7.toNat v11.1))))]⟩ (Tt ∧ T2 ((0 ≤ x7 ∧ x7 < (x8.length : Int)) ∧ ((x8.set x7.toNat v11.1).length = x8.length ∧ SetOb x8.length 1 x7.toNat 0 1 (gl (csF .f32) x8) (gl (csF .f32) (x8.set x7.toNat v11.1)) ∧ ((List.range 1).map fun j => ((csF .f32) v11.1).getD (0 + j) .nilptr) = ((List.range 1).map fun j => gl (csF .f32) (x8.set x7.toNat v11.1) x7.toNat (0 + j)) ∧ ((((.flt .f32 v11.1.bits) : C) = (.flt .f32 v11.1.bits) ∧ Tt) ∧ Tt) ∧ (false = true → ∀ j, j < 1 → isSeq (gl (csF .f32) x8 x7.toNat (0 + j)) = false ∧ isSeq (gl (csF .f32) (x8.set x7.toNat v11.1) x7.toNat (0 + j)) = false)) ∧ Tt)) [.no, .no, .no, .no, .set (x8.set x7.toNat v11.1).length (gl (csF .f32) (x8.set x7.toNat v11.1)) ((List.range 1).map fun j => ((csF .f32) v11.1).getD (0 + j) .nilptr)] [5, 18, 19, 20] [1, 2] ⟨tr, tr, tr, c14, ⟨List.length_set, gl_set, (gl_atp (lt_of_bound c14)).symm, ⟨⟨rfl, tr⟩, tr⟩, (fun h => nomatch h)⟩, tr⟩ ?_
        refine blockQ_normal ?_
        refine thenQ_normal ?_
        refine AW.rA ⟨[(5, (.v (.one (.arr 2)))), (18, (vL 1 1 csS v1)), (19, (vI (v1.length : Int))), (20, (vI (IntKind.i64.wrap (x7 + (1 : Int)))))], [(1, (oL 1 csS v1)), (2, (.arr false (x8.set x7.toNat v11.1).length 1 (gl (csF .f32) (x8.set x7.toNat v11.1))))]⟩ (T2 Tt) [] [5, 18, 19, 20] [1, 2] ⟨tr, tr, tr⟩ ?_
        exact loopQ_normal (k, (IntKind.i64.wrap (x7 + (1 : Int))), (x8.set x7.toNat v11.1)) h (Nat.lt_succ_self k) (Sub.keep [5, 18, 19, 20] [1, 2] (by kernel_rfl) (by kernel_rfl))
    · refine AW.cond_f rfl b9 ?_
      refine AW.exit ?_
      refine thenQ_exit ?_
      refine loopQ_exit ?_
      refine blockQ_exit ?_
      refine thenQ_normal ?_
      refine AW.sA ⟨[(2, (.v (.one (.arr 2)))), (3, (vB true))], [(2, (.arr false x8.length 1 (gl (csF .f32) x8)))]⟩ (Tt ∧ T2 Tt) [] [2, 3] [2] ⟨tr, tr, tr, tr⟩ ?_
      refine AW.ret ?_
      replace h := some_eq h
      subst h
      exact ⟨.inr rfl, retOK_of [(.one (.arr 2)), (.one (.c (.bool true)))] (by kernel_rfl) ⟨rfl, ⟨rfl, tr⟩, tr⟩ (of_decide_eq_true (by kernel_rfl))⟩

/-! impl.ReadVector -/
def impl_ReadVector (K : Nat) (a0 : ByteArray) : Option (Vector × Bool) :=
  (impl_ReadNumbers K a0).bind fun v1 => (ite2 ((!v1.2)) (some true) (some ((v1.1.length : Int) != (3 : Int)))).bind fun j4 => ite2 (j4) (some ((Vector.mk (default : F32) (default : F32) (default : F32)), false)) (chk (0 ≤ (0 : Int) ∧ (0 : Int) < (v1.1.length : Int)) (chk (0 ≤ (1 : Int) ∧ (1 : Int) < (v1.1.length : Int)) (chk (0 ≤ (2 : Int) ∧ (2 : Int) < (v1.1.length : Int)) (some ((Vector.mk (v1.1.getD ((0 : Int).toNat) default) (v1.1.getD ((1 : Int).toNat) default) (v1.1.getD ((2 : Int).toNat) default)), true)))))

theorem ok_impl_ReadVector (K : Nat) (a0 : ByteArray) (o : (Vector × Bool)) (h : impl_ReadVector K a0 = some o) : CallOK Tryd.prog 11 [.one (.str a0)] [.agg (cs_Vector o.1), .one (.bool o.2)] := by
  refine callOK_of_AW Tryd.func11 rfl (by kernel_rfl) (Nat.le_of_ble_eq_true (by kernel_rfl)) ?_
  intro w0
  unfold impl_ReadVector at h
  refine AW.sC (T2 Tt) [.box 1] [0, 2] [1] ⟨tr, tr, tr⟩ ?_
  refine AW.seq ?_
  obtain ⟨v1, e2, h⟩ := bind_some h
  refine AW.tA ⟨[(2, (vp 1 0)), (4, (vL 2 1 (csF .f32) v1.1)), (5, (vB v1.2))], [(1, (.box [(cF (default : F32)), (cF (default : F32)), (cF (default : F32))])), (2, (oL 1 (csF .f32) v1.1))]⟩ (Tt ∧ (((Eqc (.str a0)) ∧ Tt) ∧ CallOK Tryd.prog 21 [.one (.str a0)] [.one (sl 1 (csF .f32) v1.1), .one (.bool v1.2)]) ∧ Tt ∧ T4 Tt) [.no, .call [.one (.str a0)] [.one (sl 1 (csF .f32) v1.1), .one (.bool v1.2)] [[.lst 2], [.view]]] [2, 4, 5] [1, 2] ⟨tr, ⟨⟨rfl, tr⟩, ok_impl_ReadNumbers K a0 v1 e2⟩, tr, tr, tr, tr, tr, tr⟩ ?_
  refine AW.seq ?_
  refine AW.seq ?_
  obtain ⟨j4, e5, h⟩ := bind_some h
  refine AW.join1 (s2 := ⟨[(2, (vp 1 0)), (4, (vL 2 1 (csF .f32) v1.1)), (17, (vB j4))], [(1, (.box [(cF (default : F32)), (cF (default : F32)), (cF (default : F32))])), (2, (oL 1 (csF .f32) v1.1))]⟩) ?_ ?_
  · rcases ite2_cases e5 with ⟨b3, e5⟩ | ⟨b3, e5⟩
    · replace e5 := some_eq e5
      subst e5
      exact AW.rA ⟨[(2, (vp 1 0)), (4, (vL 2 1 (csF .f32) v1.1)), (17, (vB true))], [(1, (.box [(cF (default : F32)), (cF (default : F32)), (cF (default : F32))])), (2, (oL 1 (csF .f32) v1.1))]⟩ (T2 ((Tt ∧ (!v1.2) = true) ∧ T4 Tt)) [.no, .no, .dec true] [2, 4, 17] [1, 2] ⟨tr, tr, ⟨tr, b3⟩, tr, tr, tr, tr, tr⟩ ⟨rfl, rfl⟩
    · replace e5 := some_eq e5
      subst e5
      exact AW.rA ⟨[(2, (vp 1 0)), (4, (vL 2 1 (csF .f32) v1.1)), (17, (vB ((v1.1.length : Int) != (3 : Int))))], [(1, (.box [(cF (default : F32)), (cF (default : F32)), (cF (default : F32))])), (2, (oL 1 (csF .f32) v1.1))]⟩ (T2 ((Tt ∧ (!v1.2) = false) ∧ T4 Tt)) [.no, .no, .dec false] [2, 4, 17] [1, 2] ⟨tr, tr, ⟨tr, b3⟩, tr, tr, tr, tr, tr⟩ ⟨rfl, rfl⟩
  refine thenQ_normal ?_
  rcases ite2_cases h with ⟨b6, h⟩ | ⟨b6, h⟩
  · refine AW.cond_t rfl b6 ?_
    refine AW.sA ⟨[(2, (vp 1 0)), (3, (vB false))], [(1, (.box [(cF (default : F32)), (cF (default : F32)), (cF (default : F32))]))]⟩ (Tt ∧ T2 Tt) [] [2, 3] [1] ⟨tr, tr, tr, tr⟩ ?_
    refine AW.ret ?_
    refine thenQ_ret ?_
    replace h := some_eq h
    subst h
    exact ⟨.inr rfl, retOK_of [(.agg [(cF (default : F32)), (cF (default : F32)), (cF (default : F32))]), (.one (.c (.bool false)))] (by kernel_rfl) ⟨⟨⟨rfl, tr⟩, ⟨rfl, tr⟩, ⟨rfl, tr⟩, tr⟩, ⟨rfl, tr⟩, tr⟩ (of_decide_eq_true (by kernel_rfl))⟩
  · refine AW.cond_f rfl b6 ?_
    refine AW.skip ?_
    refine thenQ_normal ?_
    refine AW.seq ?_
    obtain ⟨c7, h⟩ := chk_some h
    obtain ⟨c8, h⟩ := chk_some h
    obtain ⟨c9, h⟩ := chk_some h
    refine AW.dA ⟨[(2, (vp 1 0)), (3, (vB true))], [(1, (.box [(cF (v1.1.getD ((0 : Int).toNat) default)), (cF (v1.1.getD ((1 : Int).toNat) default)), (cF (v1.1.getD ((2 : Int).toNat) default))]))]⟩ ((Tt ∧ (0 ≤ (0 : Int) ∧ (0 : Int) < (v1.1.length : Int)) ∧ T2 ((0 ≤ (1 : Int) ∧ (1 : Int) < (v1.1.length : Int)) ∧ T2 ((0 ≤ (2 : Int) ∧ (2 : Int) < (v1.1.length : Int)) ∧ T2 Tt))) ∧ (T2 Tt)) 10 [] [2, 3] [1] ⟨⟨tr, c7, tr, tr, c8, tr, tr, c9, tr, tr, tr⟩, ⟨tr, tr, tr⟩⟩ ?_
    refine thenQ_normal ?_
    refine AW.ret ?_
    replace h := some_eq h
    subst h
    exact ⟨.inr rfl, retOK_of [(.agg [(cF (v1.1.getD ((0 : Int).toNat) default)), (cF (v1.1.getD ((1 : Int).toNat) default)), (cF (v1.1.getD ((2 : Int).toNat) default))]), (.one (.c (.bool true)))] (by kernel_rfl) ⟨⟨⟨rfl, tr⟩, ⟨rfl, tr⟩, ⟨rfl, tr⟩, tr⟩, ⟨rfl, tr⟩, tr⟩ (of_decide_eq_true (by kernel_rfl))⟩

/-! impl.readTurn -/
def impl_readTurn (K : Nat) (a0 : ByteArray) : Option (Turn × Bool) :=
  (impl_ReadNumbers K a0).bind fun v1 => (ite2 ((!v1.2)) (some true) (some ((v1.1.length : Int) != (4 : Int)))).bind fun j4 => ite2 (j4) (some ((Turn.mk (default : F32) (default : F32) (default : F32) (default : F32)), false)) (chk (0 ≤ (0 : Int) ∧ (0 : Int) < (v1.1.length : Int)) (chk (0 ≤ (1 : Int) ∧ (1 : Int) < (v1.1.length : Int)) (chk (0 ≤ (2 : Int) ∧ (2 : Int) < (v1.1.length : Int)) (chk (0 ≤ (3 : Int) ∧ (3 : Int) < (v1.1.length : Int)) (some ((Turn.mk (v1.1.getD ((0 : Int).toNat) default) (v1.1.getD ((1 : Int).toNat) default) (v1.1.getD ((2 : Int).toNat) default) (v1.1.getD ((3 : Int).toNat) default)), true))))))

theorem ok_impl_readTurn (K : Nat) (a0 : ByteArray) (o : (Turn × Bool)) (h : impl_readTurn K a0 = some o) : CallOK Tryd.prog 12 [.one (.str a0)] [.agg (cs_Turn o.1), .one (.bool o.2)] := by
  refine callOK_of_AW Tryd.func12 rfl (by kernel_rfl) (Nat.le_of_ble_eq_true (by kernel_rfl)) ?_
  intro w0
  unfold impl_readTurn at h
  refine AW.sC (T2 Tt) [.box 1] [0, 2] [1] ⟨tr, tr, tr⟩ ?_
  refine AW.seq ?_
  obtain ⟨v1, e2, h⟩ := bind_some h
  refine AW.tA ⟨[(2, (vp 1 0)), (4, (vL 2 1 (csF .f32) v1.1)), (5, (vB v1.2))], [(1, (.box [(cF (default : F32)), (cF (default : F32)), (cF (default : F32)), (cF (default : F32))])), (2, (oL 1 (csF .f32) v1.1))]⟩ (Tt ∧ (((Eqc (.str a0)) ∧ Tt) ∧ CallOK Tryd.prog 21 [.one (.str a0)] [.one (sl 1 (csF .f32) v1.1), .one (.bool v1.2)]) ∧ Tt ∧ T4 Tt) [.no, .call [.one (.str a0)] [.one (sl 1 (csF .f32) v1.1), .one (.bool v1.2)] [[.lst 2], [.view]]] [2, 4, 5] [1, 2] ⟨tr, ⟨⟨rfl, tr⟩, ok_impl_ReadNumbers K a0 v1 e2⟩, tr, tr, tr, tr, tr, tr⟩ ?_
  refine AW.seq ?_
  refine AW.seq ?_
  obtain ⟨j4, e5, h⟩ := bind_some h
  refine AW.join1 (s2 := ⟨[(2, (vp 1 0)), (4, (vL 2 1 (csF .f32) v1.1)), (17, (vB j4))], [(1, (.box [(cF (default : F32)), (cF (default : F32)), (cF (default : F32)), (cF (default : F32))])), (2, (oL 1 (csF .f32) v1.1))]⟩) ?_ ?_
  · rcases ite2_cases e5 with ⟨b3, e5⟩ | ⟨b3, e5⟩
    · replace e5 := some_eq e5
      subst e5
      exact AW.rA ⟨[(2, (vp 1 0)), (4, (vL 2 1 (csF .f32) v1.1)), (17, (vB true))], [(1, (.box [(cF (default : F32)), (cF (default : F32)), (cF (default : F32)), (cF (default : F32))])), (2, (oL 1 (csF .f32) v1.1))]⟩ (T2 ((Tt ∧ (!v1.2) = true) ∧ T4 Tt)) [.no, .no, .dec true] [2, 4, 17] [1, 2] ⟨tr, tr, ⟨tr, b3⟩, tr, tr, tr, tr, tr⟩ ⟨rfl, rfl⟩
    · replace e5 := some_eq e5
      subst e5
      exact AW.rA ⟨[(2, (vp 1 0)), (4, (vL 2 1 (csF .f32) v1.1)), (17, (vB ((v1.1.length : Int) != (4 : Int))))], [(1, (.box [(cF (default : F32)), (cF (default : F32)), (cF (default : F32)), (cF (default : F32))])), (2, (oL 1 (csF .f32) v1.1))]⟩ (T2 ((Tt ∧ (!v1.2) = false) ∧ T4 Tt)) [.no, .no, .dec false] [2, 4, 17] [1, 2] ⟨tr, tr, ⟨tr, b3⟩, tr, tr, tr, tr, tr⟩ ⟨rfl, rfl⟩
  refine thenQ_normal ?_
  rcases ite2_cases h with ⟨b6, h⟩ | ⟨b6, h⟩
  · refine AW.cond_t rfl b6 ?_
    refine AW.sA ⟨[(2, (vp 1 0)), (3, (vB false))], [(1, (.box [(cF (default : F32)), (cF (default : F32)), (cF (default : F32)), (cF (default : F32))]))]⟩ (Tt ∧ T2 Tt) [] [2, 3] [1] ⟨tr, tr, tr, tr⟩ ?_
    refine AW.ret ?_
    refine thenQ_ret ?_
    replace h := some_eq h
    subst h
    exact ⟨.inr rfl, retOK_of [(.agg [(cF (default : F32)), (cF (default : F32)), (cF (default : F32)), (cF (default : F32))]), (.one (.c (.bool false)))] (by kernel_rfl) ⟨⟨⟨rfl, tr⟩, ⟨rfl, tr⟩, ⟨rfl, tr⟩, ⟨rfl, tr⟩, tr⟩, ⟨rfl, tr⟩, tr⟩ (of_decide_eq_true (by kernel_rfl))⟩
  · refine AW.cond_f rfl b6 ?_
    refine AW.skip ?_
    refine thenQ_normal ?_
    refine AW.seq ?_
    obtain ⟨c7, h⟩ := chk_some h
    obtain ⟨c8, h⟩ := chk_some h
    obtain ⟨c9, h⟩ := chk_some h
    obtain ⟨c10, h⟩ := chk_some h
    refine AW.dA ⟨[(2, (vp 1 0)), (3, (vB true))], [(1, (.box [(cF (v1.1.getD ((0 : Int).toNat) default)), (cF (v1.1.getD ((1 : Int).toNat) default)), (cF (v1.1.getD ((2 : Int).toNat) default)), (cF (v1.1.getD ((3 : Int).toNat) default))]))]⟩ ((Tt ∧ (0 ≤ (0 : Int) ∧ (0 : Int) < (v1.1.length : Int)) ∧ T2 ((0 ≤ (1 : Int) ∧ (1 : Int) < (v1.1.length : Int)) ∧ T2 ((0 ≤ (2 : Int) ∧ (2 : Int) < (v1.1.length : Int)) ∧ T2 ((0 ≤ (3 : Int) ∧ (3 : Int) < (v1.1.length : Int)) ∧ T2 Tt)))) ∧ (T2 Tt)) 13 [] [2, 3] [1] ⟨⟨tr, c7, tr, tr, c8, tr, tr, c9, tr, tr, c10, tr, tr, tr⟩, ⟨tr, tr, tr⟩⟩ ?_
    refine thenQ_normal ?_
    refine AW.ret ?_
    replace h := some_eq h
    subst h
    exact ⟨.inr rfl, retOK_of [(.agg [(cF (v1.1.getD ((0 : Int).toNat) default)), (cF (v1.1.getD ((1 : Int).toNat) default)), (cF (v1.1.getD ((2 : Int).toNat) default)), (cF (v1.1.getD ((3 : Int).toNat) default))]), (.one (.c (.bool true)))] (by kernel_rfl) ⟨⟨⟨rfl, tr⟩, ⟨rfl, tr⟩, ⟨rfl, tr⟩, ⟨rfl, tr⟩, tr⟩, ⟨rfl, tr⟩, tr⟩ (of_decide_eq_true (by kernel_rfl))⟩

/-! impl.ReadPose -/
def impl_ReadPose_l1 (K : Nat) (v1 : (List ByteArray)) (v8 : (Vector × Bool)) : Nat → Int → (List Turn) → Option (Pose × Bool)
  | 0, _, _ => none
  | k + 1, x14, x15 => ite2 ((decide (x14 < (((v1.drop (1 : Int).toNat).take ((v1.length : Int).toNat - (1 : Int).toNat)).length : Int)))) (chk (0 ≤ x14 ∧ x14 < (((v1.drop (1 : Int).toNat).take ((v1.length : Int).toNat - (1 : Int).toNat)).length : Int)) ((impl_readTurn K (((v1.drop (1 : Int).toNat).take ((v1.length : Int).toNat - (1 : Int).toNat)).getD x14.toNat default)).bind fun v18 => ite2 ((!v18.2)) (some ((Pose.mk (Vector.mk (default : F32) (default : F32) (default : F32)) ([] : (List Turn))), false)) (chk ((x15.length + ([v18.1]).length) * 16 ≤ 140737488355328) (impl_ReadPose_l1 K v1 v8 k (IntKind.i64.wrap (x14 + (1 : Int))) (x15 ++ ([v18.1])))))) (some ((Pose.mk v8.1 x15), true))

def impl_ReadPose (K : Nat) (a0 : ByteArray) : Option (Pose × Bool) :=
  (strings_Split K a0 (ByteArray.mk #[59])).bind fun v1 => (ite2 ((decide ((v1.length : Int) < (2 : Int)))) (some true) (some (decide ((v1.length : Int) > (13 : Int))))).bind fun j4 => ite2 (j4) (some ((Pose.mk (Vector.mk (default : F32) (default : F32) (default : F32)) ([] : (List Turn))), false)) (chk (0 ≤ (0 : Int) ∧ (0 : Int) < (v1.length : Int)) ((impl_ReadVector K (v1.getD ((0 : Int).toNat) default)).bind fun v8 => ite2 ((!v8.2)) (some ((Pose.mk (Vector.mk (default : F32) (default : F32) (default : F32)) ([] : (List Turn))), false)) (chk (0 ≤ (1 : Int) ∧ (1 : Int) ≤ (v1.length : Int) ∧ (v1.length : Int) ≤ (v1.length : Int)) (impl_ReadPose_l1 K v1 v8 K (0 : Int) ([] : (List Turn))))))

theorem ok_impl_ReadPose (K : Nat) (a0 : ByteArray) (o : (Pose × Bool)) (h : impl_ReadPose K a0 = some o) : CallOK Tryd.prog 5 [.one (.str a0)] [.agg (cs_Pose o.1), .one (.bool o.2)] := by
  refine callOK_of_AW Tryd.func5 rfl (by kernel_rfl) (Nat.le_of_ble_eq_true (by kernel_rfl)) ?_
  intro w0
  unfold impl_ReadPose at h
  refine AW.sC (T2 Tt) [.box 1] [0, 2] [1] ⟨tr, tr, tr⟩ ?_
  refine AW.seq ?_
  obtain ⟨v1, e2, h⟩ := bind_some h
  refine AW.tA ⟨[(2, (vp 1 0)), (4, (vL 2 1 csS v1))], [(1, (.box [(cF (default : F32)), (cF (default : F32)), (cF (default : F32)), .nils])), (2, (oL 1 csS v1))]⟩ (Tt ∧ (((Eqc (.str a0)) ∧ (Eqc (.str (ByteArray.mk #[59]))) ∧ Tt) ∧ CallOK Tryd.prog 10 [.one (.str a0), .one (.str (ByteArray.mk #[59]))] [.one (sl 1 csS v1)]) ∧ Tt ∧ Tt) [.no, .call [.one (.str a0), .one (.str (ByteArray.mk #[59]))] [.one (sl 1 csS v1)] [[.lst 2]]] [2, 4] [1, 2] ⟨tr, ⟨⟨rfl, rfl, tr⟩, ok_strings_Split K a0 (ByteArray.mk #[59]) v1 e2⟩, tr, tr⟩ ?_
  refine AW.seq ?_
  refine AW.seq ?_
  obtain ⟨j4, e5, h⟩ := bind_some h
  refine AW.join1 (s2 := ⟨[(2, (vp 1 0)), (4, (vL 2 1 csS v1)), (20, (vB j4))], [(1, (.box [(cF (default : F32)), (cF (default : F32)), (cF (default : F32)), .nils])), (2, (oL 1 csS v1))]⟩) ?_ ?_
  · rcases ite2_cases e5 with ⟨b3, e5⟩ | ⟨b3, e5⟩
    · replace e5 := some_eq e5
      subst e5
      exact AW.rA ⟨[(2, (vp 1 0)), (4, (vL 2 1 csS v1)), (20, (vB true))], [(1, (.box [(cF (default : F32)), (cF (default : F32)), (cF (default : F32)), .nils])), (2, (oL 1 csS v1))]⟩ (Tt ∧ T2 ((Tt ∧ (decide ((v1.length : Int) < (2 : Int))) = true) ∧ T4 Tt)) [.no, .no, .no, .dec true] [2, 4, 20] [1, 2] ⟨tr, tr, tr, ⟨tr, b3⟩, tr, tr, tr, tr, tr⟩ ⟨rfl, rfl⟩
    · replace e5 := some_eq e5
      subst e5
      exact AW.rA ⟨[(2, (vp 1 0)), (4, (vL 2 1 csS v1)), (20, (vB (decide ((v1.length : Int) > (13 : Int)))))], [(1, (.box [(cF (default : F32)), (cF (default : F32)), (cF (default : F32)), .nils])), (2, (oL 1 csS v1))]⟩ (Tt ∧ T2 ((Tt ∧ (decide ((v1.length : Int) < (2 : Int))) = false) ∧ T4 Tt)) [.no, .no, .no, .dec false] [2, 4, 20] [1, 2] ⟨tr, tr, tr, ⟨tr, b3⟩, tr, tr, tr, tr, tr⟩ ⟨rfl, rfl⟩
  refine thenQ_normal ?_
  rcases ite2_cases h with ⟨b6, h⟩ | ⟨b6, h⟩
  · refine AW.cond_t rfl b6 ?_
    refine AW.sA ⟨[(2, (vp 1 0)), (3, (vB false))], [(1, (.box [(cF (default : F32)), (cF (default : F32)), (cF (default : F32)), .nils]))]⟩ (Tt ∧ T2 Tt) [] [2, 3] [1] ⟨tr, tr, tr, tr⟩ ?_
    refine AW.ret ?_
    refine thenQ_ret ?_
    replace h := some_eq h
    subst h
    exact ⟨.inr rfl, retOK_of [(.agg [(cF (default : F32)), (cF (default : F32)), (cF (default : F32)), .nils]), (.one (.c (.bool false)))] (by kernel_rfl) ⟨⟨⟨rfl, tr⟩, ⟨rfl, tr⟩, ⟨rfl, tr⟩, rfl, tr⟩, ⟨rfl, tr⟩, tr⟩ (of_decide_eq_true (by kernel_rfl))⟩
  · refine AW.cond_f rfl b6 ?_
    refine AW.skip ?_
    refine thenQ_normal ?_
    refine AW.sC (Tt ∧ Tt) [.box 3] [2, 4, 5] [1, 2, 3] ⟨tr, tr⟩ ?_
    refine AW.sC (Tt ∧ Tt) [] [2, 4, 5] [1, 2, 3] ⟨tr, tr⟩ ?_
    refine AW.seq ?_
    obtain ⟨c7, h⟩ := chk_some h
    obtain ⟨v8, e9, h⟩ := bind_some h
    refine AW.tC (Tt ∧ (0 ≤ (0 : Int) ∧ (0 : Int) < (v1.length : Int)) ∧ Tt ∧ (((Eqc (.str (v1.getD ((0 : Int).toNat) default))) ∧ Tt) ∧ CallOK Tryd.prog 11 [.one (.str (v1.getD ((0 : Int).toNat) default))] [.agg (cs_Vector v8.1), .one (.bool v8.2)]) ∧ T2 (T4 Tt)) [.no, .no, .no, .call [.one (.str (v1.getD ((0 : Int).toNat) default))] [.agg (cs_Vector v8.1), .one (.bool v8.2)] [[.view, .view, .view], [.view]]] [2, 4, 5, 6] [1, 2, 3] ⟨tr, c7, tr, ⟨⟨rfl, tr⟩, ok_impl_ReadVector K (v1.getD ((0 : Int).toNat) default) v8 e9⟩, tr, tr, tr, tr, tr, tr, tr⟩ ?_
    refine AW.seq ?_
    refine AW.sA ⟨[(2, (vp 1 0)), (4, (vL 2 1 csS v1)), (5, (vp 3 0)), (31, (vB (!v8.2)))], [(1, (.box [(cF (default : F32)), (cF (default : F32)), (cF (default : F32)), .nils])), (2, (oL 1 csS v1)), (3, (.box [(cF v8.1.X), (cF v8.1.Y), (cF v8.1.Z), .nils]))]⟩ (T2 Tt) [] [2, 4, 5, 31] [1, 2, 3] ⟨tr, tr, tr⟩ ?_
    rcases ite2_cases h with ⟨b10, h⟩ | ⟨b10, h⟩
    · refine AW.cond_t rfl b10 ?_
      refine AW.sA ⟨[(2, (vp 1 0)), (3, (vB false))], [(1, (.box [(cF (default : F32)), (cF (default : F32)), (cF (default : F32)), .nils]))]⟩ (Tt ∧ T2 Tt) [] [2, 3] [1] ⟨tr, tr, tr, tr⟩ ?_
      refine AW.ret ?_
      refine thenQ_ret ?_
      replace h := some_eq h
      subst h
      exact ⟨.inr rfl, retOK_of [(.agg [(cF (default : F32)), (cF (default : F32)), (cF (default : F32)), .nils]), (.one (.c (.bool false)))] (by kernel_rfl) ⟨⟨⟨rfl, tr⟩, ⟨rfl, tr⟩, ⟨rfl, tr⟩, rfl, tr⟩, ⟨rfl, tr⟩, tr⟩ (of_decide_eq_true (by kernel_rfl))⟩
    · refine AW.cond_f rfl b10 ?_
      refine AW.skip ?_
      refine thenQ_normal ?_
      refine AW.seq ?_
      refine AW.seq ?_
      obtain ⟨c11, h⟩ := chk_some h
      refine AW.tA ⟨[(2, (vp 1 0)), (5, (vp 3 0)), (34, (vc (sl 1 csS ((v1.drop (1 : Int).toNat).take ((v1.length : Int).toNat - (1 : Int).toNat))))), (35, (vI (((v1.drop (1 : Int).toNat).take ((v1.length : Int).toNat - (1 : Int).toNat)).length : Int))), (36, (vI (0 : Int)))], [(1, (.box [(cF (default : F32)), (cF (default : F32)), (cF (default : F32)), .nils])), (3, (.box [(cF v8.1.X), (cF v8.1.Y), (cF v8.1.Z), .nils]))]⟩ (Tt ∧ (0 ≤ (1 : Int) ∧ (1 : Int) ≤ (v1.length : Int) ∧ (v1.length : Int) ≤ (v1.length : Int) ∧ ((((v1.drop (1 : Int).toNat).take ((v1.length : Int).toNat - (1 : Int).toNat)).length : Nat) : Int) = (v1.length : Int) - (1 : Int) ∧ ∀ i j, i < ((v1.drop (1 : Int).toNat).take ((v1.length : Int).toNat - (1 : Int).toNat)).length → j < 1 → gl csS ((v1.drop (1 : Int).toNat).take ((v1.length : Int).toNat - (1 : Int).toNat)) i j = gl csS v1 ((1 : Int).toNat + i) j) ∧ T2 Tt) [.no, .seq ((v1.drop (1 : Int).toNat).take ((v1.length : Int).toNat - (1 : Int).toNat)).length (gl csS ((v1.drop (1 : Int).toNat).take ((v1.length : Int).toNat - (1 : Int).toNat)))] [2, 5, 34, 35, 36] [1, 3] ⟨tr, ⟨c11.1, c11.2.1, c11.2.2, (gl_drop (sz := 1) (cs := csS) c11.1 c11.2.1 c11.2.2).1, (gl_drop c11.1 c11.2.1 c11.2.2).2⟩, tr, tr, tr⟩ ?_
      refine AW.block ?_
      refine AW.weak (s' := ⟨[(2, (vp 1 0)), (5, (vp 3 0)), (34, (vc (sl 1 csS ((v1.drop (1 : Int).toNat).take ((v1.length : Int).toNat - (1 : Int).toNat))))), (35, (vI (((v1.drop (1 : Int).toNat).take ((v1.length : Int).toNat - (1 : Int).toNat)).length : Int))), (36, (vI (0 : Int)))], [(1, (.box [(cF (default : F32)), (cF (default : F32)), (cF (default : F32)), .nils])), (3, (.box [(cF v8.1.X), (cF v8.1.Y), (cF v8.1.Z), (xL 7 4 cs_Turn ([] : (List Turn)))])), (7, (oL 4 cs_Turn ([] : (List Turn))))]⟩) (Sub.trans (Sub.unnil 7 4 (gl cs_Turn ([] : (List Turn))) [] [(3, 3)] _ (by kernel_rfl) (by kernel_rfl)) (Sub.keep [2, 5, 34, 35, 36] [1, 3, 7] (by kernel_rfl) (by kernel_rfl))) ?_
      refine AW.loopQ (σ := Nat × Int × (List Turn)) (fun p => ⟨[(2, (vp 1 0)), (5, (vp 3 0)), (34, (vc (sl 1 csS ((v1.drop (1 : Int).toNat).take ((v1.length : Int).toNat - (1 : Int).toNat))))), (35, (vI (((v1.drop (1 : Int).toNat).take ((v1.length : Int).toNat - (1 : Int).toNat)).length : Int))), (36, (vI p.2.1))], [(1, (.box [(cF (default : F32)), (cF (default : F32)), (cF (default : F32)), .nils])), (3, (.box [(cF v8.1.X), (cF v8.1.Y), (cF v8.1.Z), (xL 7 4 cs_Turn p.2.2)])), (7, (oL 4 cs_Turn p.2.2))]⟩) (fun p => impl_ReadPose_l1 K v1 v8 p.1 p.2.1 p.2.2 = some o) (fun p => p.1) (K, (0 : Int), ([] : (List Turn))) h ?_
      clear h
      rintro ⟨k, x14, x15⟩ h
      replace h : impl_ReadPose_l1 K v1 v8 k x14 x15 = some o := h
      show AW _ _ (⟨[(2, (vp 1 0)), (5, (vp 3 0)), (34, (vc (sl 1 csS ((v1.drop (1 : Int).toNat).take ((v1.length : Int).toNat - (1 : Int).toNat))))), (35, (vI (((v1.drop (1 : Int).toNat).take ((v1.length : Int).toNat - (1 : Int).toNat)).length : Int))), (36, (vI x14))], [(1, (.box [(cF (default : F32)), (cF (default : F32)), (cF (default : F32)), .nils])), (3, (.box [(cF v8.1.X), (cF v8.1.Y), (cF v8.1.Z), (xL 7 4 cs_Turn x15)])), (7, (oL 4 cs_Turn x15))]⟩ : St) _
      obtain _ | k := k
      · rw [impl_ReadPose_l1] at h; cases h
      rw [impl_ReadPose_l1] at h
      refine AW.sA ⟨[(2, (vp 1 0)), (5, (vp 3 0)), (34, (vc (sl 1 csS ((v1.drop (1 : Int).toNat).take ((v1.length : Int).toNat - (1 : Int).toNat))))), (35, (vI (((v1.drop (1 : Int).toNat).take ((v1.length : Int).toNat - (1 : Int).toNat)).length : Int))), (36, (vI x14)), (37, (vB (decide (x14 < (((v1.drop (1 : Int).toNat).take ((v1.length : Int).toNat - (1 : Int).toNat)).length : Int)))))], [(1, (.box [(cF (default : F32)), (cF (default : F32)), (cF (default : F32)), .nils])), (3, (.box [(cF v8.1.X), (cF v8.1.Y), (cF v8.1.Z), (xL 7 4 cs_Turn x15)])), (7, (oL 4 cs_Turn x15))]⟩ (Tt ∧ Tt) [] [2, 5, 34, 35, 36, 37] [1, 3, 7] ⟨tr, tr⟩ ?_
      refine AW.seq ?_
      rcases ite2_cases h with ⟨b16, h⟩ | ⟨b16, h⟩
      · refine AW.cond_t rfl b16 ?_
        refine AW.skip ?_
        refine thenQ_normal ?_
        refine AW.seq ?_
        refine AW.block ?_
        refine AW.seq ?_
        obtain ⟨c17, h⟩ := chk_some h
        refine AW.tC ((0 ≤ x14 ∧ x14 < (((v1.drop (1 : Int).toNat).take ((v1.length : Int).toNat - (1 : Int).toNat)).length : Int)) ∧ T2 Tt) [] [2, 5, 8, 34, 35, 36] [1, 3, 7] ⟨c17, tr, tr, tr⟩ ?_
        refine AW.seq ?_
        obtain ⟨v18, e19, h⟩ := bind_some h
        refine AW.tC (Tt ∧ (((Eqc (.str (((v1.drop (1 : Int).toNat).take ((v1.length : Int).toNat - (1 : Int).toNat)).getD x14.toNat default))) ∧ Tt) ∧ CallOK Tryd.prog 12 [.one (.str (((v1.drop (1 : Int).toNat).take ((v1.length : Int).toNat - (1 : Int).toNat)).getD x14.toNat default))] [.agg (cs_Turn v18.1), .one (.bool v18.2)]) ∧ T2 (T4 Tt)) [.no, .call [.one (.str (((v1.drop (1 : Int).toNat).take ((v1.length : Int).toNat - (1 : Int).toNat)).getD x14.toNat default))] [.agg (cs_Turn v18.1), .one (.bool v18.2)] [[.view, .view, .view, .view], [.view]], .no, .no, .no, .box 14] [2, 5, 9, 10, 34, 35, 36] [1, 3, 7, 14] ⟨tr, ⟨⟨rfl, tr⟩, ok_impl_readTurn K (((v1.drop (1 : Int).toNat).take ((v1.length : Int).toNat - (1 : Int).toNat)).getD x14.toNat default) v18 e19⟩, tr, tr, tr, tr, tr, tr, tr⟩ ?_
        refine AW.seq ?_
        refine AW.sA ⟨[(2, (vp 1 0)), (5, (vp 3 0)), (9, (vp 14 0)), (34, (vc (sl 1 csS ((v1.drop (1 : Int).toNat).take ((v1.length : Int).toNat - (1 : Int).toNat))))), (35, (vI (((v1.drop (1 : Int).toNat).take ((v1.length : Int).toNat - (1 : Int).toNat)).length : Int))), (36, (vI x14)), (46, (vB (!v18.2)))], [(1, (.box [(cF (default : F32)), (cF (default : F32)), (cF (default : F32)), .nils])), (3, (.box [(cF v8.1.X), (cF v8.1.Y), (cF v8.1.Z), (xL 7 4 cs_Turn x15)])), (7, (oL 4 cs_Turn x15)), (14, (.box [(cF v18.1.W), (cF v18.1.X), (cF v18.1.Y), (cF v18.1.Z)]))]⟩ (T2 Tt) [] [2, 5, 9, 34, 35, 36, 46] [1, 3, 7, 14] ⟨tr, tr, tr⟩ ?_
        rcases ite2_cases h with ⟨b20, h⟩ | ⟨b20, h⟩
        · refine AW.cond_t rfl b20 ?_
          refine AW.sA ⟨[(2, (vp 1 0)), (3, (vB false))], [(1, (.box [(cF (default : F32)), (cF (default : F32)), (cF (default : F32)), .nils]))]⟩ (Tt ∧ T2 Tt) [] [2, 3] [1] ⟨tr, tr, tr, tr⟩ ?_
          refine AW.ret ?_
          refine thenQ_ret ?_
          refine blockQ_ret ?_
          refine thenQ_ret ?_
          refine loopQ_ret ?_
          refine blockQ_ret ?_
          refine thenQ_ret ?_
          replace h := some_eq h
          subst h
          exact ⟨.inr rfl, retOK_of [(.agg [(cF (default : F32)), (cF (default : F32)), (cF (default : F32)), .nils]), (.one (.c (.bool false)))] (by kernel_rfl) ⟨⟨⟨rfl, tr⟩, ⟨rfl, tr⟩, ⟨rfl, tr⟩, rfl, tr⟩, ⟨rfl, tr⟩, tr⟩ (of_decide_eq_true (by kernel_rfl))⟩
        · refine AW.cond_f rfl b20 ?_
          refine AW.skip ?_
          refine thenQ_normal ?_
          obtain ⟨c21, h⟩ := chk_some h
          refine AW.rA ⟨[(2, (vp 1 0)), (5, (vp 3 0)), (34, (vc (sl 1 csS ((v1.drop (1 : Int).toNat).take ((v1.length : Int).toNat - (1 : Int).toNat))))), (35, (vI (((v1.drop (1 : Int).toNat).take ((v1.length : Int).toNat - (1 : Int).toNat)).length : Int))), (36, (vI x14))], [(1, (.box [(cF (default : F32)), (cF (default : F32)), (cF (default : F32)), .nils])), (3, (.box [(cF v8.1.X), (cF v8.1.Y), (cF v8.1.Z), (xL 16 4 cs_Turn (x15 ++ ([v18.1])))])), (16, (oL 4 cs_Turn (x15 ++ ([v18.1]))))]⟩ (Tt ∧ T2 ((([v18.1]).length = 1 ∧ (((.flt .f32 v18.1.W.bits) : C) = (.flt .f32 v18.1.W.bits) ∧ Tt) ∧ (((.flt .f32 v18.1.X.bits) : C) = (.flt .f32 v18.1.X.bits) ∧ Tt) ∧ (((.flt .f32 v18.1.Y.bits) : C) = (.flt .f32 v18.1.Y.bits) ∧ Tt) ∧ (((.flt .f32 v18.1.Z.bits) : C) = (.flt .f32 v18.1.Z.bits) ∧ Tt) ∧ Tt) ∧ ((x15 ++ ([v18.1])).length = x15.length + ([v18.1]).length ∧ AppOb (x15.length) (([v18.1]).length) 4 (gl cs_Turn x15) (gl cs_Turn ([v18.1])) (gl cs_Turn (x15 ++ ([v18.1]))) ∧ (∀ i j, i < ([v18.1]).length → j < 4 → scalarC (gl cs_Turn ([v18.1]) i j)) ∧ (x15.length + ([v18.1]).length) * 16 ≤ 140737488355328) ∧ T2 Tt)) [.no, .no, .no, .obj 15 ([v18.1]).length (gl cs_Turn ([v18.1])), .objK 16 (x15 ++ ([v18.1])).length (gl cs_Turn (x15 ++ ([v18.1])))] [2, 5, 34, 35, 36] [1, 3, 16] ⟨tr, tr, tr, ⟨rfl, ⟨⟨rfl, tr⟩, ⟨rfl, tr⟩, ⟨rfl, tr⟩, ⟨rfl, tr⟩, tr⟩⟩, ⟨List.length_append, gl_append, gl_scalar sc_Turn _, c21⟩, tr, tr, tr⟩ ?_
          refine blockQ_normal ?_
          refine thenQ_normal ?_
          refine AW.rA ⟨[(2, (vp 1 0)), (5, (vp 3 0)), (34, (vc (sl 1 csS ((v1.drop (1 : Int).toNat).take ((v1.length : Int).toNat - (1 : Int).toNat))))), (35, (vI (((v1.drop (1 : Int).toNat).take ((v1.length : Int).toNat - (1 : Int).toNat)).length : Int))), (36, (vI (IntKind.i64.wrap (x14 + (1 : Int)))))], [(1, (.box [(cF (default : F32)), (cF (default : F32)), (cF (default : F32)), .nils])), (3, (.box [(cF v8.1.X), (cF v8.1.Y), (cF v8.1.Z), (xL 16 4 cs_Turn (x15 ++ ([v18.1])))])), (16, (oL 4 cs_Turn (x15 ++ ([v18.1]))))]⟩ (T2 Tt) [] [2, 5, 34, 35, 36] [1, 3, 16] ⟨tr, tr, tr⟩ ?_
          exact loopQ_normal (k, (IntKind.i64.wrap (x14 + (1 : Int))), (x15 ++ ([v18.1]))) h (Nat.lt_succ_self k) (Sub.trans (Sub.swap 7 16 _ (by kernel_rfl) (by kernel_rfl)) (Sub.keep [2, 5, 34, 35, 36] [1, 3, 7] (by kernel_rfl) (by kernel_rfl)))
      · refine AW.cond_f rfl b16 ?_
        refine AW.exit ?_
        refine thenQ_exit ?_
        refine loopQ_exit ?_
        refine blockQ_exit ?_
        refine thenQ_normal ?_
        refine AW.sA ⟨[(2, (vp 1 0)), (3, (vB true))], [(1, (.box [(cF v8.1.X), (cF v8.1.Y), (cF v8.1.Z), (xL 7 4 cs_Turn x15)])), (7, (oL 4 cs_Turn x15))]⟩ (Tt ∧ T2 Tt) [] [2, 3] [1, 7] ⟨tr, tr, tr, tr⟩ ?_
        refine AW.ret ?_
        replace h := some_eq h
        subst h
        exact ⟨.inr rfl, retOK_of [(.agg [(cF v8.1.X), (cF v8.1.Y), (cF v8.1.Z), (xL 7 4 cs_Turn x15)]), (.one (.c (.bool true)))] (by kernel_rfl) ⟨⟨⟨rfl, tr⟩, ⟨rfl, tr⟩, ⟨rfl, tr⟩, rfl, tr⟩, ⟨rfl, tr⟩, tr⟩ (of_decide_eq_true (by kernel_rfl))⟩

/-! laws.sameFloat -/
def laws_sameFloat (_K : Nat) (a0 : F64) (a1 : F64) : Option (Bool) :=
  (ite2 ((a0.ne a0)) (some true) (some (a1.ne a1))).bind fun j2 => ite2 (j2) ((ite2 ((a0.ne a0)) (some (a1.ne a1)) (some false)).bind fun j6 => some j6) ((ite2 ((a0.eq (Fl.mk (k := .f64) 0 (by decide)))) (some (a1.eq (Fl.mk (k := .f64) 0 (by decide)))) (some false)).bind fun j9 => ite2 (j9) (some ((((Fl.mk (k := .f64) 4607182418800017408 (by decide)).div a0).gt (Fl.mk (k := .f64) 0 (by decide))) == (((Fl.mk (k := .f64) 4607182418800017408 (by decide)).div a1).gt (Fl.mk (k := .f64) 0 (by decide))))) (some (a0.eq a1)))

theorem ok_laws_sameFloat (K : Nat) (a0 : F64) (a1 : F64) (o : (Bool)) (h : laws_sameFloat K a0 a1 = some o) : CallOK Tryd.prog 22 [.one (.flt .f64 a0.bits), .one (.flt .f64 a1.bits)] [.one (.bool o)] := by
  refine callOK_of_AW Tryd.func22 rfl (by kernel_rfl) (Nat.le_of_ble_eq_true (by kernel_rfl)) ?_
  intro w0
  unfold laws_sameFloat at h
  refine AW.sA ⟨[(0, (vc (.flt .f64 a0.bits))), (1, (vc (.flt .f64 a1.bits)))], []⟩ (Tt ∧ Tt) [] [0, 1] [] ⟨tr, tr⟩ ?_
  refine AW.seq ?_
  refine AW.seq ?_
  obtain ⟨j2, e3, h⟩ := bind_some h
  refine AW.join1 (s2 := ⟨[(0, (vc (.flt .f64 a0.bits))), (1, (vc (.flt .f64 a1.bits))), (12, (vB j2))], []⟩) ?_ ?_
  · rcases ite2_cases e3 with ⟨b1, e3⟩ | ⟨b1, e3⟩
    · replace e3 := some_eq e3
      subst e3
      exact AW.rA ⟨[(0, (vc (.flt .f64 a0.bits))), (1, (vc (.flt .f64 a1.bits))), (12, (vB true))], []⟩ (Tt ∧ T2 ((Tt ∧ (a0.ne a0) = true) ∧ T4 Tt)) [.no, .no, .no, .dec true] [0, 1, 12] [] ⟨tr, tr, tr, ⟨tr, b1⟩, tr, tr, tr, tr, tr⟩ ⟨rfl, rfl⟩
    · replace e3 := some_eq e3
      subst e3
      exact AW.rA ⟨[(0, (vc (.flt .f64 a0.bits))), (1, (vc (.flt .f64 a1.bits))), (12, (vB (a1.ne a1)))], []⟩ (Tt ∧ T2 ((Tt ∧ (a0.ne a0) = false) ∧ T4 Tt)) [.no, .no, .no, .dec false] [0, 1, 12] [] ⟨tr, tr, tr, ⟨tr, b1⟩, tr, tr, tr, tr, tr⟩ ⟨rfl, rfl⟩
  refine thenQ_normal ?_
  rcases ite2_cases h with ⟨b4, h⟩ | ⟨b4, h⟩
  · refine AW.cond_t rfl b4 ?_
    refine AW.seq ?_
    obtain ⟨j6, e7, h⟩ := bind_some h
    refine AW.join1 (s2 := ⟨[(4, (vB j6))], []⟩) ?_ ?_
    · rcases ite2_cases e7 with ⟨b5, e7⟩ | ⟨b5, e7⟩
      · replace e7 := some_eq e7
        subst e7
        exact AW.rA ⟨[(4, (vB (a1.ne a1)))], []⟩ (Tt ∧ T2 ((Tt ∧ (a0.ne a0) = true) ∧ Tt ∧ T4 Tt)) [.no, .no, .no, .dec true] [4] [] ⟨tr, tr, tr, ⟨tr, b5⟩, tr, tr, tr, tr, tr, tr⟩ ⟨rfl, rfl⟩
      · replace e7 := some_eq e7
        subst e7
        exact AW.rA ⟨[(4, (vB false))], []⟩ (Tt ∧ T2 ((Tt ∧ (a0.ne a0) = false) ∧ Tt ∧ T4 Tt)) [.no, .no, .no, .dec false] [4] [] ⟨tr, tr, tr, ⟨tr, b5⟩, tr, tr, tr, tr, tr, tr⟩ ⟨rfl, rfl⟩
    refine thenQ_normal ?_
    refine AW.ret ?_
    refine thenQ_ret ?_
    replace h := some_eq h
    subst h
    exact ⟨.inr rfl, retOK_of [(.one (.c (.bool j6)))] (by kernel_rfl) ⟨⟨rfl, tr⟩, tr⟩ (of_decide_eq_true (by kernel_rfl))⟩
  · refine AW.cond_f rfl b4 ?_
    refine AW.skip ?_
    refine thenQ_normal ?_
    refine AW.seq ?_
    refine AW.seq ?_
    obtain ⟨j9, e10, h⟩ := bind_some h
    refine AW.join1 (s2 := ⟨[(0, (vc (.flt .f64 a0.bits))), (1, (vc (.flt .f64 a1.bits))), (26, (vB j9))], []⟩) ?_ ?_
    · rcases ite2_cases e10 with ⟨b8, e10⟩ | ⟨b8, e10⟩
      · replace e10 := some_eq e10
        subst e10
        exact AW.rA ⟨[(0, (vc (.flt .f64 a0.bits))), (1, (vc (.flt .f64 a1.bits))), (26, (vB (a1.eq (Fl.mk (k := .f64) 0 (by decide)))))], []⟩ (T2 ((Tt ∧ (a0.eq (Fl.mk (k := .f64) 0 (by decide))) = true) ∧ Tt ∧ T2 Tt)) [.no, .no, .dec true] [0, 1, 26] [] ⟨tr, tr, ⟨tr, b8⟩, tr, tr, tr, tr⟩ ⟨rfl, rfl⟩
      · replace e10 := some_eq e10
        subst e10
        exact AW.rA ⟨[(0, (vc (.flt .f64 a0.bits))), (1, (vc (.flt .f64 a1.bits))), (26, (vB false))], []⟩ (T2 ((Tt ∧ (a0.eq (Fl.mk (k := .f64) 0 (by decide))) = false) ∧ Tt ∧ T2 Tt)) [.no, .no, .dec false] [0, 1, 26] [] ⟨tr, tr, ⟨tr, b8⟩, tr, tr, tr, tr⟩ ⟨rfl, rfl⟩
    refine thenQ_normal ?_
    rcases ite2_cases h with ⟨b11, h⟩ | ⟨b11, h⟩
    · refine AW.cond_t rfl b11 ?_
      refine AW.sA ⟨[(4, (vB ((((Fl.mk (k := .f64) 4607182418800017408 (by decide)).div a0).gt (Fl.mk (k := .f64) 0 (by decide))) == (((Fl.mk (k := .f64) 4607182418800017408 (by decide)).div a1).gt (Fl.mk (k := .f64) 0 (by decide))))))], []⟩ (T4 (T4 Tt)) [] [4] [] ⟨tr, tr, tr, tr, tr, tr, tr, tr, tr⟩ ?_
      refine AW.ret ?_
      refine thenQ_ret ?_
      replace h := some_eq h
      subst h
      exact ⟨.inr rfl, retOK_of [(.one (.c (.bool ((((Fl.mk (k := .f64) 4607182418800017408 (by decide)).div a0).gt (Fl.mk (k := .f64) 0 (by decide))) == (((Fl.mk (k := .f64) 4607182418800017408 (by decide)).div a1).gt (Fl.mk (k := .f64) 0 (by decide)))))))] (by kernel_rfl) ⟨⟨rfl, tr⟩, tr⟩ (of_decide_eq_true (by kernel_rfl))⟩
    · refine AW.cond_f rfl b11 ?_
      refine AW.skip ?_
      refine thenQ_normal ?_
      refine AW.sA ⟨[(4, (vB (a0.eq a1)))], []⟩ (T4 Tt) [] [4] [] ⟨tr, tr, tr, tr, tr⟩ ?_
      refine AW.ret ?_
      replace h := some_eq h
      subst h
      exact ⟨.inr rfl, retOK_of [(.one (.c (.bool (a0.eq a1))))] (by kernel_rfl) ⟨⟨rfl, tr⟩, tr⟩ (of_decide_eq_true (by kernel_rfl))⟩

/-! laws.eqVector -/
def laws_eqVector (K : Nat) (a0 : Vector) (a1 : Vector) : Option (Bool) :=
  (laws_sameFloat K (Fl.cv .f32 .f64 a0.X) (Fl.cv .f32 .f64 a1.X)).bind fun v1 => ite2 ((!v1)) (some false) ((laws_sameFloat K (Fl.cv .f32 .f64 a0.Y) (Fl.cv .f32 .f64 a1.Y)).bind fun v4 => ite2 ((!v4)) (some false) ((laws_sameFloat K (Fl.cv .f32 .f64 a0.Z) (Fl.cv .f32 .f64 a1.Z)).bind fun v7 => ite2 ((!v7)) (some false) (some true)))

theorem ok_laws_eqVector (K : Nat) (a0 : Vector) (a1 : Vector) (o : (Bool)) (h : laws_eqVector K a0 a1 = some o) : CallOK Tryd.prog 13 [.agg (cs_Vector a0), .agg (cs_Vector a1)] [.one (.bool o)] := by
  refine callOK_of_AW Tryd.func13 rfl (by kernel_rfl) (Nat.le_of_ble_eq_true (by kernel_rfl)) ?_
  intro w0
  unfold laws_eqVector at h
  refine AW.sC (Tt ∧ T2 Tt) [.box 1, .box 2] [2, 3] [1, 2] ⟨tr, tr, tr, tr⟩ ?_
  refine AW.seq ?_
  refine AW.seq ?_
  obtain ⟨v1, e2, h⟩ := bind_some h
  refine AW.tA ⟨[(2, (vp 1 0)), (3, (vp 2 0)), (12, (vB (!v1)))], [(1, (.box [(cF a0.X), (cF a0.Y), (cF a0.Z)])), (2, (.box [(cF a1.X), (cF a1.Y), (cF a1.Z)]))]⟩ (T2 (((convBits .f32 a0.X.bits .f64).isSome = true) ∧ T2 (((convBits .f32 a1.X.bits .f64).isSome = true) ∧ (((Eqc (.flt .f64 (Fl.cv .f32 .f64 a0.X).bits)) ∧ (Eqc (.flt .f64 (Fl.cv .f32 .f64 a1.X).bits)) ∧ Tt) ∧ CallOK Tryd.prog 22 [.one (.flt .f64 (Fl.cv .f32 .f64 a0.X).bits), .one (.flt .f64 (Fl.cv .f32 .f64 a1.X).bits)] [.one (.bool v1)]) ∧ Tt ∧ Tt))) [.no, .no, .no, .no, .no, .no, .call [.one (.flt .f64 (Fl.cv .f32 .f64 a0.X).bits), .one (.flt .f64 (Fl.cv .f32 .f64 a1.X).bits)] [.one (.bool v1)] [[.view]]] [2, 3, 12] [1, 2] ⟨tr, tr, cv_wide a0.X, tr, tr, cv_wide a1.X, ⟨⟨rfl, rfl, tr⟩, ok_laws_sameFloat K (Fl.cv .f32 .f64 a0.X) (Fl.cv .f32 .f64 a1.X) v1 e2⟩, tr, tr⟩ ?_
  rcases ite2_cases h with ⟨b3, h⟩ | ⟨b3, h⟩
  · refine AW.cond_t rfl b3 ?_
    refine AW.sA ⟨[(4, (vB false))], []⟩ (Tt ∧ Tt) [] [4] [] ⟨tr, tr⟩ ?_
    refine AW.ret ?_
    refine thenQ_ret ?_
    replace h := some_eq h
    subst h
    exact ⟨.inr rfl, retOK_of [(.one (.c (.bool false)))] (by kernel_rfl) ⟨⟨rfl, tr⟩, tr⟩ (of_decide_eq_true (by kernel_rfl))⟩
  · refine AW.cond_f rfl b3 ?_
    refine AW.skip ?_
    refine thenQ_normal ?_
    refine AW.seq ?_
    refine AW.seq ?_
    obtain ⟨v4, e5, h⟩ := bind_some h
    refine AW.tA ⟨[(2, (vp 1 0)), (3, (vp 2 0)), (20, (vB (!v4)))], [(1, (.box [(cF a0.X), (cF a0.Y), (cF a0.Z)])), (2, (.box [(cF a1.X), (cF a1.Y), (cF a1.Z)]))]⟩ (T2 (((convBits .f32 a0.Y.bits .f64).isSome = true) ∧ T2 (((convBits .f32 a1.Y.bits .f64).isSome = true) ∧ (((Eqc (.flt .f64 (Fl.cv .f32 .f64 a0.Y).bits)) ∧ (Eqc (.flt .f64 (Fl.cv .f32 .f64 a1.Y).bits)) ∧ Tt) ∧ CallOK Tryd.prog 22 [.one (.flt .f64 (Fl.cv .f32 .f64 a0.Y).bits), .one (.flt .f64 (Fl.cv .f32 .f64 a1.Y).bits)] [.one (.bool v4)]) ∧ Tt ∧ Tt))) [.no, .no, .no, .no, .no, .no, .call [.one (.flt .f64 (Fl.cv .f32 .f64 a0.Y).bits), .one (.flt .f64 (Fl.cv .f32 .f64 a1.Y).bits)] [.one (.bool v4)] [[.view]]] [2, 3, 20] [1, 2] ⟨tr, tr, cv_wide a0.Y, tr, tr, cv_wide a1.Y, ⟨⟨rfl, rfl, tr⟩, ok_laws_sameFloat K (Fl.cv .f32 .f64 a0.Y) (Fl.cv .f32 .f64 a1.Y) v4 e5⟩, tr, tr⟩ ?_
    rcases ite2_cases h with ⟨b6, h⟩ | ⟨b6, h⟩
    · refine AW.cond_t rfl b6 ?_
      refine AW.sA ⟨[(4, (vB false))], []⟩ (Tt ∧ Tt) [] [4] [] ⟨tr, tr⟩ ?_
      refine AW.ret ?_
      refine thenQ_ret ?_
      replace h := some_eq h
      subst h
      exact ⟨.inr rfl, retOK_of [(.one (.c (.bool false)))] (by kernel_rfl) ⟨⟨rfl, tr⟩, tr⟩ (of_decide_eq_true (by kernel_rfl))⟩
    · refine AW.cond_f rfl b6 ?_
      refine AW.skip ?_
      refine thenQ_normal ?_
      refine AW.seq ?_
      refine AW.seq ?_
      obtain ⟨v7, e8, h⟩ := bind_some h
      refine AW.tA ⟨[(28, (vB (!v7)))], []⟩ (T2 (((convBits .f32 a0.Z.bits .f64).isSome = true) ∧ T2 (((convBits .f32 a1.Z.bits .f64).isSome = true) ∧ (((Eqc (.flt .f64 (Fl.cv .f32 .f64 a0.Z).bits)) ∧ (Eqc (.flt .f64 (Fl.cv .f32 .f64 a1.Z).bits)) ∧ Tt) ∧ CallOK Tryd.prog 22 [.one (.flt .f64 (Fl.cv .f32 .f64 a0.Z).bits), .one (.flt .f64 (Fl.cv .f32 .f64 a1.Z).bits)] [.one (.bool v7)]) ∧ Tt ∧ Tt))) [.no, .no, .no, .no, .no, .no, .call [.one (.flt .f64 (Fl.cv .f32 .f64 a0.Z).bits), .one (.flt .f64 (Fl.cv .f32 .f64 a1.Z).bits)] [.one (.bool v7)] [[.view]]] [28] [] ⟨tr, tr, cv_wide a0.Z, tr, tr, cv_wide a1.Z, ⟨⟨rfl, rfl, tr⟩, ok_laws_sameFloat K (Fl.cv .f32 .f64 a0.Z) (Fl.cv .f32 .f64 a1.Z) v7 e8⟩, tr, tr⟩ ?_
      rcases ite2_cases h with ⟨b9, h⟩ | ⟨b9, h⟩
      · refine AW.cond_t rfl b9 ?_
        refine AW.sA ⟨[(4, (vB false))], []⟩ (Tt ∧ Tt) [] [4] [] ⟨tr, tr⟩ ?_
        refine AW.ret ?_
        refine thenQ_ret ?_
        replace h := some_eq h
        subst h
        exact ⟨.inr rfl, retOK_of [(.one (.c (.bool false)))] (by kernel_rfl) ⟨⟨rfl, tr⟩, tr⟩ (of_decide_eq_true (by kernel_rfl))⟩
      · refine AW.cond_f rfl b9 ?_
        refine AW.skip ?_
        refine thenQ_normal ?_
        refine AW.sA ⟨[(4, (vB true))], []⟩ (Tt ∧ Tt) [] [4] [] ⟨tr, tr⟩ ?_
        refine AW.ret ?_
        replace h := some_eq h
        subst h
        exact ⟨.inr rfl, retOK_of [(.one (.c (.bool true)))] (by kernel_rfl) ⟨⟨rfl, tr⟩, tr⟩ (of_decide_eq_true (by kernel_rfl))⟩

/-! laws.eqTurn -/
def laws_eqTurn (K : Nat) (a0 : Turn) (a1 : Turn) : Option (Bool) :=
  (laws_sameFloat K (Fl.cv .f32 .f64 a0.W) (Fl.cv .f32 .f64 a1.W)).bind fun v1 => ite2 ((!v1)) (some false) ((laws_sameFloat K (Fl.cv .f32 .f64 a0.X) (Fl.cv .f32 .f64 a1.X)).bind fun v4 => ite2 ((!v4)) (some false) ((laws_sameFloat K (Fl.cv .f32 .f64 a0.Y) (Fl.cv .f32 .f64 a1.Y)).bind fun v7 => ite2 ((!v7)) (some false) ((laws_sameFloat K (Fl.cv .f32 .f64 a0.Z) (Fl.cv .f32 .f64 a1.Z)).bind fun v10 => ite2 ((!v10)) (some false) (some true))))

theorem ok_laws_eqTurn (K : Nat) (a0 : Turn) (a1 : Turn) (o : (Bool)) (h : laws_eqTurn K a0 a1 = some o) : CallOK Tryd.prog 23 [.agg (cs_Turn a0), .agg (cs_Turn a1)] [.one (.bool o)] := by
  refine callOK_of_AW Tryd.func23 rfl (by kernel_rfl) (Nat.le_of_ble_eq_true (by kernel_rfl)) ?_
  intro w0
  unfold laws_eqTurn at h
  refine AW.sC (Tt ∧ T2 Tt) [.box 1, .box 2] [2, 3] [1, 2] ⟨tr, tr, tr, tr⟩ ?_
  refine AW.seq ?_
  refine AW.seq ?_
  obtain ⟨v1, e2, h⟩ := bind_some h
  refine AW.tA ⟨[(2, (vp 1 0)), (3, (vp 2 0)), (12, (vB (!v1)))], [(1, (.box [(cF a0.W), (cF a0.X), (cF a0.Y), (cF a0.Z)])), (2, (.box [(cF a1.W), (cF a1.X), (cF a1.Y), (cF a1.Z)]))]⟩ (T2 (((convBits .f32 a0.W.bits .f64).isSome = true) ∧ T2 (((convBits .f32 a1.W.bits .f64).isSome = true) ∧ (((Eqc (.flt .f64 (Fl.cv .f32 .f64 a0.W).bits)) ∧ (Eqc (.flt .f64 (Fl.cv .f32 .f64 a1.W).bits)) ∧ Tt) ∧ CallOK Tryd.prog 22 [.one (.flt .f64 (Fl.cv .f32 .f64 a0.W).bits), .one (.flt .f64 (Fl.cv .f32 .f64 a1.W).bits)] [.one (.bool v1)]) ∧ Tt ∧ Tt))) [.no, .no, .no, .no, .no, .no, .call [.one (.flt .f64 (Fl.cv .f32 .f64 a0.W).bits), .one (.flt .f64 (Fl.cv .f32 .f64 a1.W).bits)] [.one (.bool v1)] [[.view]]] [2, 3, 12] [1, 2] ⟨tr, tr, cv_wide a0.W, tr, tr, cv_wide a1.W, ⟨⟨rfl, rfl, tr⟩, ok_laws_sameFloat K (Fl.cv .f32 .f64 a0.W) (Fl.cv .f32 .f64 a1.W) v1 e2⟩, tr, tr⟩ ?_
  rcases ite2_cases h with ⟨b3, h⟩ | ⟨b3, h⟩
  · refine AW.cond_t rfl b3 ?_
    refine AW.sA ⟨[(4, (vB false))], []⟩ (Tt ∧ Tt) [] [4] [] ⟨tr, tr⟩ ?_
    refine AW.ret ?_
    refine thenQ_ret ?_
    replace h := some_eq h
    subst h
    exact ⟨.inr rfl, retOK_of [(.one (.c (.bool false)))] (by kernel_rfl) ⟨⟨rfl, tr⟩, tr⟩ (of_decide_eq_true (by kernel_rfl))⟩
  · refine AW.cond_f rfl b3 ?_
    refine AW.skip ?_
    refine thenQ_normal ?_
    refine AW.seq ?_
    refine AW.seq ?_
    obtain ⟨v4, e5, h⟩ := bind_some h
    refine AW.tA ⟨[(2, (vp 1 0)), (3, (vp 2 0)), (20, (vB (!v4)))], [(1, (.box [(cF a0.W), (cF a0.X), (cF a0.Y), (cF a0.Z)])), (2, (.box [(cF a1.W), (cF a1.X), (cF a1.Y), (cF a1.Z)]))]⟩ (T2 (((convBits .f32 a0.X.bits .f64).isSome = true) ∧ T2 (((convBits .f32 a1.X.bits .f64).isSome = true) ∧ (((Eqc (.flt .f64 (Fl.cv .f32 .f64 a0.X).bits)) ∧ (Eqc (.flt .f64 (Fl.cv .f32 .f64 a1.X).bits)) ∧ Tt) ∧ CallOK Tryd.prog 22 [.one (.flt .f64 (Fl.cv .f32 .f64 a0.X).bits), .one (.flt .f64 (Fl.cv .f32 .f64 a1.X).bits)] [.one (.bool v4)]) ∧ Tt ∧ Tt))) [.no, .no, .no, .no, .no, .no, .call [.one (.flt .f64 (Fl.cv .f32 .f64 a0.X).bits), .one (.flt .f64 (Fl.cv .f32 .f64 a1.X).bits)] [.one (.bool v4)] [[.view]]] [2, 3, 20] [1, 2] ⟨tr, tr, cv_wide a0.X, tr, tr, cv_wide a1.X, ⟨⟨rfl, rfl, tr⟩, ok_laws_sameFloat K (Fl.cv .f32 .f64 a0.X) (Fl.cv .f32 .f64 a1.X) v4 e5⟩, tr, tr⟩ ?_
    rcases ite2_cases h with ⟨b6, h⟩ | ⟨b6, h⟩
    · refine AW.cond_t rfl b6 ?_
      refine AW.sA ⟨[(4, (vB false))], []⟩ (Tt ∧ Tt) [] [4] [] ⟨tr, tr⟩ ?_
      refine AW.ret ?_
      refine thenQ_ret ?_
      replace h := some_eq h
      subst h
      exact ⟨.inr rfl, retOK_of [(.one (.c (.bool false)))] (by kernel_rfl) ⟨⟨rfl, tr⟩, tr⟩ (of_decide_eq_true (by kernel_rfl))⟩
    · refine AW.cond_f rfl b6 ?_
      refine AW.skip ?_
      refine thenQ_normal ?_
      refine AW.seq ?_
      refine AW.seq ?_
      obtain ⟨v7, e8, h⟩ := bind_some h
      refine AW.tA ⟨[(2, (vp 1 0)), (3, (vp 2 0)), (28, (vB (!v7)))], [(1, (.box [(cF a0.W), (cF a0.X), (cF a0.Y), (cF a0.Z)])), (2, (.box [(cF a1.W), (cF a1.X), (cF a1.Y), (cF a1.Z)]))]⟩ (T2 (((convBits .f32 a0.Y.bits .f64).isSome = true) ∧ T2 (((convBits .f32 a1.Y.bits .f64).isSome = true) ∧ (((Eqc (.flt .f64 (Fl.cv .f32 .f64 a0.Y).bits)) ∧ (Eqc (.flt .f64 (Fl.cv .f32 .f64 a1.Y).bits)) ∧ Tt) ∧ CallOK Tryd.prog 22 [.one (.flt .f64 (Fl.cv .f32 .f64 a0.Y).bits), .one (.flt .f64 (Fl.cv .f32 .f64 a1.Y).bits)] [.one (.bool v7)]) ∧ Tt ∧ Tt))) [.no, .no, .no, .no, .no, .no, .call [.one (.flt .f64 (Fl.cv .f32 .f64 a0.Y).bits), .one (.flt .f64 (Fl.cv .f32 .f64 a1.Y).bits)] [.one (.bool v7)] [[.view]]] [2, 3, 28] [1, 2] ⟨tr, tr, cv_wide a0.Y, tr, tr, cv_wide a1.Y, ⟨⟨rfl, rfl, tr⟩, ok_laws_sameFloat K (Fl.cv .f32 .f64 a0.Y) (Fl.cv .f32 .f64 a1.Y) v7 e8⟩, tr, tr⟩ ?_
      rcases ite2_cases h with ⟨b9, h⟩ | ⟨b9, h⟩
      · refine AW.cond_t rfl b9 ?_
        refine AW.sA ⟨[(4, (vB false))], []⟩ (Tt ∧ Tt) [] [4] [] ⟨tr, tr⟩ ?_
        refine AW.ret ?_
        refine thenQ_ret ?_
        replace h := some_eq h
        subst h
        exact ⟨.inr rfl, retOK_of [(.one (.c (.bool false)))] (by kernel_rfl) ⟨⟨rfl, tr⟩, tr⟩ (of_decide_eq_true (by kernel_rfl))⟩
      · refine AW.cond_f rfl b9 ?_
        refine AW.skip ?_
        refine thenQ_normal ?_
        refine AW.seq ?_
        refine AW.seq ?_
        obtain ⟨v10, e11, h⟩ := bind_some h
        refine AW.tA ⟨[(36, (vB (!v10)))], []⟩ (T2 (((convBits .f32 a0.Z.bits .f64).isSome = true) ∧ T2 (((convBits .f32 a1.Z.bits .f64).isSome = true) ∧ (((Eqc (.flt .f64 (Fl.cv .f32 .f64 a0.Z).bits)) ∧ (Eqc (.flt .f64 (Fl.cv .f32 .f64 a1.Z).bits)) ∧ Tt) ∧ CallOK Tryd.prog 22 [.one (.flt .f64 (Fl.cv .f32 .f64 a0.Z).bits), .one (.flt .f64 (Fl.cv .f32 .f64 a1.Z).bits)] [.one (.bool v10)]) ∧ Tt ∧ Tt))) [.no, .no, .no, .no, .no, .no, .call [.one (.flt .f64 (Fl.cv .f32 .f64 a0.Z).bits), .one (.flt .f64 (Fl.cv .f32 .f64 a1.Z).bits)] [.one (.bool v10)] [[.view]]] [36] [] ⟨tr, tr, cv_wide a0.Z, tr, tr, cv_wide a1.Z, ⟨⟨rfl, rfl, tr⟩, ok_laws_sameFloat K (Fl.cv .f32 .f64 a0.Z) (Fl.cv .f32 .f64 a1.Z) v10 e11⟩, tr, tr⟩ ?_
        rcases ite2_cases h with ⟨b12, h⟩ | ⟨b12, h⟩
        · refine AW.cond_t rfl b12 ?_
          refine AW.sA ⟨[(4, (vB false))], []⟩ (Tt ∧ Tt) [] [4] [] ⟨tr, tr⟩ ?_
          refine AW.ret ?_
          refine thenQ_ret ?_
          replace h := some_eq h
          subst h
          exact ⟨.inr rfl, retOK_of [(.one (.c (.bool false)))] (by kernel_rfl) ⟨⟨rfl, tr⟩, tr⟩ (of_decide_eq_true (by kernel_rfl))⟩
        · refine AW.cond_f rfl b12 ?_
          refine AW.skip ?_
          refine thenQ_normal ?_
          refine AW.sA ⟨[(4, (vB true))], []⟩ (Tt ∧ Tt) [] [4] [] ⟨tr, tr⟩ ?_
          refine AW.ret ?_
          replace h := some_eq h
          subst h
          exact ⟨.inr rfl, retOK_of [(.one (.c (.bool true)))] (by kernel_rfl) ⟨⟨rfl, tr⟩, tr⟩ (of_decide_eq_true (by kernel_rfl))⟩

/-! laws.eqTurnS -/
def laws_eqTurnS_l1 (K : Nat) (a0 : (List Turn)) (a1 : (List Turn)) : Nat → Int → Option (Bool)
  | 0, _ => none
  | k + 1, x3 => ite2 ((decide (x3 < (a0.length : Int)))) (chk (0 ≤ x3 ∧ x3 < (a0.length : Int)) (chk (0 ≤ x3 ∧ x3 < (a1.length : Int)) ((laws_eqTurn K (a0.getD x3.toNat default) (a1.getD x3.toNat default)).bind fun v7 => ite2 ((!v7)) (some false) (laws_eqTurnS_l1 K a0 a1 k (IntKind.i64.wrap (x3 + (1 : Int))))))) (some true)

def laws_eqTurnS (K : Nat) (a0 : (List Turn)) (a1 : (List Turn)) : Option (Bool) :=
  ite2 (((a0.length : Int) != (a1.length : Int))) (some false) (laws_eqTurnS_l1 K a0 a1 K (0 : Int))

theorem ok_laws_eqTurnS (K : Nat) (a0 : (List Turn)) (a1 : (List Turn)) (o : (Bool)) (h : laws_eqTurnS K a0 a1 = some o) : CallOK Tryd.prog 14 [.one (sl 4 cs_Turn a0), .one (sl 4 cs_Turn a1)] [.one (.bool o)] := by
  refine callOK_of_AW Tryd.func14 rfl (by kernel_rfl) (Nat.le_of_ble_eq_true (by kernel_rfl)) ?_
  intro w0
  unfold laws_eqTurnS at h
  refine AW.sC (Tt ∧ Tt) [] [0, 1] [] ⟨tr, tr⟩ ?_
  refine AW.seq ?_
  refine AW.sA ⟨[(0, (vc (sl 4 cs_Turn a0))), (1, (vc (sl 4 cs_Turn a1))), (10, (vB ((a0.length : Int) != (a1.length : Int))))], []⟩ (Tt ∧ T4 Tt) [] [0, 1, 10] [] ⟨tr, tr, tr, tr, tr, tr⟩ ?_
  rcases ite2_cases h with ⟨b1, h⟩ | ⟨b1, h⟩
  · refine AW.cond_t rfl b1 ?_
    refine AW.sA ⟨[(4, (vB false))], []⟩ (Tt ∧ Tt) [] [4] [] ⟨tr, tr⟩ ?_
    refine AW.ret ?_
    refine thenQ_ret ?_
    replace h := some_eq h
    subst h
    exact ⟨.inr rfl, retOK_of [(.one (.c (.bool false)))] (by kernel_rfl) ⟨⟨rfl, tr⟩, tr⟩ (of_decide_eq_true (by kernel_rfl))⟩
  · refine AW.cond_f rfl b1 ?_
    refine AW.skip ?_
    refine thenQ_normal ?_
    refine AW.seq ?_
    refine AW.sA ⟨[(0, (vc (sl 4 cs_Turn a0))), (1, (vc (sl 4 cs_Turn a1))), (5, (vI (0 : Int)))], []⟩ (Tt ∧ Tt) [] [0, 1, 5] [] ⟨tr, tr⟩ ?_
    refine AW.block ?_
    refine AW.loopQ (σ := Nat × Int) (fun p => ⟨[(0, (vc (sl 4 cs_Turn a0))), (1, (vc (sl 4 cs_Turn a1))), (5, (vI p.2))], []⟩) (fun p => laws_eqTurnS_l1 K a0 a1 p.1 p.2 = some o) (fun p => p.1) (K, (0 : Int)) h ?_
    clear h
    rintro ⟨k, x3⟩ h
    replace h : laws_eqTurnS_l1 K a0 a1 k x3 = some o := h
    show AW _ _ (⟨[(0, (vc (sl 4 cs_Turn a0))), (1, (vc (sl 4 cs_Turn a1))), (5, (vI x3))], []⟩ : St) _
    obtain _ | k := k
    · rw [laws_eqTurnS_l1] at h; cases h
    rw [laws_eqTurnS_l1] at h
    refine AW.seq ?_
    refine AW.sA ⟨[(0, (vc (sl 4 cs_Turn a0))), (1, (vc (sl 4 cs_Turn a1))), (5, (vI x3)), (14, (vB (decide (x3 < (a0.length : Int)))))], []⟩ (T4 Tt) [] [0, 1, 5, 14] [] ⟨tr, tr, tr, tr, tr⟩ ?_
    rcases ite2_cases h with ⟨b4, h⟩ | ⟨b4, h⟩
    · refine AW.cond_t rfl b4 ?_
      refine AW.skip ?_
      refine thenQ_normal ?_
      refine AW.seq ?_
      refine AW.block ?_
      refine AW.seq ?_
      obtain ⟨c5, h⟩ := chk_some h
      obtain ⟨c6, h⟩ := chk_some h
      obtain ⟨v7, e8, h⟩ := bind_some h
      refine AW.dA ⟨[(0, (vc (sl 4 cs_Turn a0))), (1, (vc (sl 4 cs_Turn a1))), (5, (vI x3)), (26, (vB (!v7)))], []⟩ ((T2 ((0 ≤ x3 ∧ x3 < (a0.length : Int)) ∧ Tt ∧ T2 ((0 ≤ x3 ∧ x3 < (a1.length : Int)) ∧ Tt ∧ ((((eF ((a0.getD x3.toNat default).W)) ∧ (eF ((a0.getD x3.toNat default).X)) ∧ (eF ((a0.getD x3.toNat default).Y)) ∧ (eF ((a0.getD x3.toNat default).Z)) ∧ Tt) ∧ ((eF ((a1.getD x3.toNat default).W)) ∧ (eF ((a1.getD x3.toNat default).X)) ∧ (eF ((a1.getD x3.toNat default).Y)) ∧ (eF ((a1.getD x3.toNat default).Z)) ∧ Tt) ∧ Tt) ∧ CallOK Tryd.prog 23 [.agg (cs_Turn (a0.getD x3.toNat default)), .agg (cs_Turn (a1.getD x3.toNat default))] [.one (.bool v7)]) ∧ Tt ∧ Tt))) ∧ (Tt)) 10 [.no, .no, .no, .no, .no, .no, .no, .no, .call [.agg (cs_Turn (a0.getD x3.toNat default)), .agg (cs_Turn (a1.getD x3.toNat default))] [.one (.bool v7)] [[.view]]] [0, 1, 5, 26] [] ⟨⟨tr, tr, c5, tr, tr, tr, c6, tr, ⟨⟨⟨rfl, rfl, rfl, rfl, tr⟩, ⟨rfl, rfl, rfl, rfl, tr⟩, tr⟩, ok_laws_eqTurn K (a0.getD x3.toNat default) (a1.getD x3.toNat default) v7 e8⟩, tr, tr⟩, tr⟩ ?_
      refine thenQ_normal ?_
      rcases ite2_cases h with ⟨b9, h⟩ | ⟨b9, h⟩
      · refine AW.cond_t rfl b9 ?_
        refine AW.sA ⟨[(4, (vB false))], []⟩ (Tt ∧ Tt) [] [4] [] ⟨tr, tr⟩ ?_
        refine AW.ret ?_
        refine blockQ_ret ?_
        refine thenQ_ret ?_
        refine loopQ_ret ?_
        refine blockQ_ret ?_
        refine thenQ_ret ?_
        replace h := some_eq h
        subst h
        exact ⟨.inr rfl, retOK_of [(.one (.c (.bool false)))] (by kernel_rfl) ⟨⟨rfl, tr⟩, tr⟩ (of_decide_eq_true (by kernel_rfl))⟩
      · refine AW.cond_f rfl b9 ?_
        refine AW.skip ?_
        refine blockQ_normal ?_
        refine thenQ_normal ?_
        refine AW.rA ⟨[(0, (vc (sl 4 cs_Turn a0))), (1, (vc (sl 4 cs_Turn a1))), (5, (vI (IntKind.i64.wrap (x3 + (1 : Int)))))], []⟩ (Tt ∧ T2 Tt) [] [0, 1, 5] [] ⟨tr, tr, tr, tr⟩ ?_
        exact loopQ_normal (k, (IntKind.i64.wrap (x3 + (1 : Int)))) h (Nat.lt_succ_self k) (Sub.keep [0, 1, 5] [] (by kernel_rfl) (by kernel_rfl))
    · refine AW.cond_f rfl b4 ?_
      refine AW.exit ?_
      refine thenQ_exit ?_
      refine loopQ_exit ?_
      refine blockQ_exit ?_
      refine thenQ_normal ?_
      refine AW.sA ⟨[(4, (vB true))], []⟩ (Tt ∧ Tt) [] [4] [] ⟨tr, tr⟩ ?_
      refine AW.ret ?_
      replace h := some_eq h
      subst h
      exact ⟨.inr rfl, retOK_of [(.one (.c (.bool true)))] (by kernel_rfl) ⟨⟨rfl, tr⟩, tr⟩ (of_decide_eq_true (by kernel_rfl))⟩

/-! laws.eqPose -/
def laws_eqPose (K : Nat) (a0 : Pose) (a1 : Pose) : Option (Bool) :=
  (laws_eqVector K a0.Root a1.Root).bind fun v1 => ite2 ((!v1)) (some false) ((laws_eqTurnS K a0.Turns a1.Turns).bind fun v4 => ite2 ((!v4)) (some false) (some true))

theorem ok_laws_eqPose (K : Nat) (a0 : Pose) (a1 : Pose) (o : (Bool)) (h : laws_eqPose K a0 a1 = some o) : CallOK Tryd.prog 6 [.agg (cs_Pose a0), .agg (cs_Pose a1)] [.one (.bool o)] := by
  refine callOK_of_AW Tryd.func6 rfl (by kernel_rfl) (Nat.le_of_ble_eq_true (by kernel_rfl)) ?_
  intro w0
  unfold laws_eqPose at h
  refine AW.sC (Tt ∧ T2 Tt) [.box 1, .box 2] [2, 3] [1, 2] ⟨tr, tr, tr, tr⟩ ?_
  refine AW.seq ?_
  refine AW.seq ?_
  obtain ⟨v1, e2, h⟩ := bind_some h
  refine AW.tA ⟨[(2, (vp 1 0)), (3, (vp 2 0)), (10, (vB (!v1)))], [(1, (.box [(cF a0.Root.X), (cF a0.Root.Y), (cF a0.Root.Z), (.c (sl 4 cs_Turn a0.Turns))])), (2, (.box [(cF a1.Root.X), (cF a1.Root.Y), (cF a1.Root.Z), (.c (sl 4 cs_Turn a1.Turns))]))]⟩ (T4 (((((eF a0.Root.X) ∧ (eF a0.Root.Y) ∧ (eF a0.Root.Z) ∧ Tt) ∧ ((eF a1.Root.X) ∧ (eF a1.Root.Y) ∧ (eF a1.Root.Z) ∧ Tt) ∧ Tt) ∧ CallOK Tryd.prog 13 [.agg (cs_Vector a0.Root), .agg (cs_Vector a1.Root)] [.one (.bool v1)]) ∧ Tt ∧ Tt)) [.no, .no, .no, .no, .call [.agg (cs_Vector a0.Root), .agg (cs_Vector a1.Root)] [.one (.bool v1)] [[.view]]] [2, 3, 10] [1, 2] ⟨tr, tr, tr, tr, ⟨⟨⟨rfl, rfl, rfl, tr⟩, ⟨rfl, rfl, rfl, tr⟩, tr⟩, ok_laws_eqVector K a0.Root a1.Root v1 e2⟩, tr, tr⟩ ?_
  rcases ite2_cases h with ⟨b3, h⟩ | ⟨b3, h⟩
  · refine AW.cond_t rfl b3 ?_
    refine AW.sA ⟨[(4, (vB false))], []⟩ (Tt ∧ Tt) [] [4] [] ⟨tr, tr⟩ ?_
    refine AW.ret ?_
    refine thenQ_ret ?_
    replace h := some_eq h
    subst h
    exact ⟨.inr rfl, retOK_of [(.one (.c (.bool false)))] (by kernel_rfl) ⟨⟨rfl, tr⟩, tr⟩ (of_decide_eq_true (by kernel_rfl))⟩
  · refine AW.cond_f rfl b3 ?_
    refine AW.skip ?_
    refine thenQ_normal ?_
    refine AW.seq ?_
    refine AW.seq ?_
    obtain ⟨v4, e5, h⟩ := bind_some h
    refine AW.tA ⟨[(16, (vB (!v4)))], []⟩ (T4 ((((Eqc (sl 4 cs_Turn a0.Turns)) ∧ (Eqc (sl 4 cs_Turn a1.Turns)) ∧ Tt) ∧ CallOK Tryd.prog 14 [.one (sl 4 cs_Turn a0.Turns), .one (sl 4 cs_Turn a1.Turns)] [.one (.bool v4)]) ∧ Tt ∧ Tt)) [.no, .no, .no, .no, .call [.one (sl 4 cs_Turn a0.Turns), .one (sl 4 cs_Turn a1.Turns)] [.one (.bool v4)] [[.view]]] [16] [] ⟨tr, tr, tr, tr, ⟨⟨rfl, rfl, tr⟩, ok_laws_eqTurnS K a0.Turns a1.Turns v4 e5⟩, tr, tr⟩ ?_
    rcases ite2_cases h with ⟨b6, h⟩ | ⟨b6, h⟩
    · refine AW.cond_t rfl b6 ?_
      refine AW.sA ⟨[(4, (vB false))], []⟩ (Tt ∧ Tt) [] [4] [] ⟨tr, tr⟩ ?_
      refine AW.ret ?_
      refine thenQ_ret ?_
      replace h := some_eq h
      subst h
      exact ⟨.inr rfl, retOK_of [(.one (.c (.bool false)))] (by kernel_rfl) ⟨⟨rfl, tr⟩, tr⟩ (of_decide_eq_true (by kernel_rfl))⟩
    · refine AW.cond_f rfl b6 ?_
      refine AW.skip ?_
      refine thenQ_normal ?_
      refine AW.sA ⟨[(4, (vB true))], []⟩ (Tt ∧ Tt) [] [4] [] ⟨tr, tr⟩ ?_
      refine AW.ret ?_
      replace h := some_eq h
      subst h
      exact ⟨.inr rfl, retOK_of [(.one (.c (.bool true)))] (by kernel_rfl) ⟨⟨rfl, tr⟩, tr⟩ (of_decide_eq_true (by kernel_rfl))⟩

/-! laws.markTurnS -/
def laws_markTurnS_l1 (K : Nat) (a0 : (List Turn)) : Nat → Int → Int → (List Turn) → Option (Int × (List Turn))
  | 0, _, _, _ => none
  | k + 1, x4, x5, x6 => ite2 ((decide (x5 < (x6.length : Int)))) (chk (0 ≤ x5 ∧ x5 < (x6.length : Int)) ((some (x6.set x5.toNat (Turn.mk (Fl.ofInt .f32 x4) ((x6.getD x5.toNat default).X) ((x6.getD x5.toNat default).Y) ((x6.getD x5.toNat default).Z)))).bind fun y9 => chk (0 ≤ x5 ∧ x5 < (y9.length : Int)) ((some (y9.set x5.toNat (Turn.mk ((y9.getD x5.toNat default).W) (Fl.ofInt .f32 (IntKind.i64.wrap (x4 + (1 : Int)))) ((y9.getD x5.toNat default).Y) ((y9.getD x5.toNat default).Z)))).bind fun y12 => chk (0 ≤ x5 ∧ x5 < (y12.length : Int)) ((some (y12.set x5.toNat (Turn.mk ((y12.getD x5.toNat default).W) ((y12.getD x5.toNat default).X) (Fl.ofInt .f32 (IntKind.i64.wrap ((IntKind.i64.wrap (x4 + (1 : Int))) + (1 : Int)))) ((y12.getD x5.toNat default).Z)))).bind fun y15 => chk (0 ≤ x5 ∧ x5 < (y15.length : Int)) ((some (y15.set x5.toNat (Turn.mk ((y15.getD x5.toNat default).W) ((y15.getD x5.toNat default).X) ((y15.getD x5.toNat default).Y) (Fl.ofInt .f32 (IntKind.i64.wrap ((IntKind.i64.wrap ((IntKind.i64.wrap (x4 + (1 : Int))) + (1 : Int))) + (1 : Int))))))).bind fun y18 => laws_markTurnS_l1 K a0 k (IntKind.i64.wrap ((IntKind.i64.wrap ((IntKind.i64.wrap ((IntKind.i64.wrap (x4 + (1 : Int))) + (1 : Int))) + (1 : Int))) + (1 : Int))) (IntKind.i64.wrap (x5 + (1 : Int))) y18))))) (chk (x6.length = a0.length) (some (x4, x6)))

def laws_markTurnS (K : Nat) (a0 : (List Turn)) (a1 : Int) : Option (Int × (List Turn)) :=
  laws_markTurnS_l1 K a0 K a1 (0 : Int) a0

theorem ok_laws_markTurnS (K : Nat) (a0 : (List Turn)) (a1 : Int) (o : (Int × (List Turn))) (h : laws_markTurnS K a0 a1 = some o) : MutOK Tryd.prog 15 [(.one (.mu (sl 4 cs_Turn a0) (sl 4 cs_Turn o.2))), (.one (.ro (.int .i64 a1)))] [.one (.int .i64 o.1)] := by
  refine mutOK_of_AW 1 Tryd.func15 rfl (by kernel_rfl) (Nat.le_of_ble_eq_true (by kernel_rfl)) (by kernel_rfl) (by kernel_rfl) ?_
  intro w0 K0 v0 s0
  unfold laws_markTurnS at h
  refine AW.sC (Tt ∧ Tt) [] [0, 1] [0] ⟨tr, tr⟩ ?_
  refine AW.seq ?_
  refine AW.sA ⟨[(0, (.v (.one (.arr 0)))), (1, (vI a1)), (5, (vI (0 : Int)))], [(0, (oA 4 cs_Turn a0))]⟩ (Tt ∧ Tt) [] [0, 1, 5] [0] ⟨tr, tr⟩ ?_
  refine AW.block ?_
  refine AW.loopQ (σ := Nat × Int × Int × (List Turn)) (fun p => ⟨[(0, (.v (.one (.arr 0)))), (1, (vI p.2.1)), (5, (vI p.2.2.1))], [(0, (oA 4 cs_Turn p.2.2.2))]⟩) (fun p => laws_markTurnS_l1 K a0 p.1 p.2.1 p.2.2.1 p.2.2.2 = some o) (fun p => p.1) (K, a1, (0 : Int), a0) h ?_
  clear h
  rintro ⟨k, x4, x5, x6⟩ h
  replace h : laws_markTurnS_l1 K a0 k x4 x5 x6 = some o := h
  show AW _ _ (⟨[(0, (.v (.one (.arr 0)))), (1, (vI x4)), (5, (vI x5))], [(0, (oA 4 cs_Turn x6))]⟩ : St) _
  obtain _ | k := k
  · rw [laws_markTurnS_l1] at h; cases h
  rw [laws_markTurnS_l1] at h
  refine AW.seq ?_
  refine AW.sA ⟨[(0, (.v (.one (.arr 0)))), (1, (vI x4)), (5, (vI x5)), (9, (vB (decide (x5 < (x6.length : Int)))))], [(0, (oA 4 cs_Turn x6))]⟩ (T4 Tt) [] [0, 1, 5, 9] [0] ⟨tr, tr, tr, tr, tr⟩ ?_
  rcases ite2_cases h with ⟨b7, h⟩ | ⟨b7, h⟩
  · refine AW.cond_t rfl b7 ?_
    refine AW.skip ?_
    refine thenQ_normal ?_
    refine AW.seq ?_
    refine AW.block ?_
    refine AW.seq ?_
    obtain ⟨c8, h⟩ := chk_some h
    obtain ⟨y9, e10, h⟩ := bind_some h
    refine AW.tC (T4 ((0 ≤ x5 ∧ x5 < (x6.length : Int)) ∧ Tt ∧ (y9.length = x6.length ∧ SetOb x6.length 4 x5.toNat 0 1 (gl cs_Turn x6) (gl cs_Turn y9) ∧ ((List.range 1).map fun j => (cs_Turn (Turn.mk (Fl.ofInt .f32 x4) ((x6.getD x5.toNat default).X) ((x6.getD x5.toNat default).Y) ((x6.getD x5.toNat default).Z))).getD (0 + j) .nilptr) = ((List.range 1).map fun j => gl cs_Turn y9 x5.toNat (0 + j)) ∧ ((((.flt .f32 (Fl.ofInt .f32 x4).bits) : C) = (.flt .f32 (Fl.ofInt .f32 x4).bits) ∧ Tt) ∧ Tt) ∧ (true = true → ∀ j, j < 1 → isSeq (gl cs_Turn x6 x5.toNat (0 + j)) = false ∧ isSeq (gl cs_Turn y9 x5.toNat (0 + j)) = false)) ∧ Tt)) [.no, .no, .no, .no, .no, .no, .set y9.length (gl cs_Turn y9) ((List.range 1).map fun j => (cs_Turn (Turn.mk (Fl.ofInt .f32 x4) ((x6.getD x5.toNat default).X) ((x6.getD x5.toNat default).Y) ((x6.getD x5.toNat default).Z))).getD (0 + j) .nilptr)] [0, 1, 5] [0] ⟨tr, tr, tr, tr, c8, tr, (letP (some_eq e10) (fun z => (z.length = x6.length ∧ SetOb x6.length 4 x5.toNat 0 1 (gl cs_Turn x6) (gl cs_Turn z) ∧ ((List.range 1).map fun j => (cs_Turn (Turn.mk (Fl.ofInt .f32 x4) ((x6.getD x5.toNat default).X) ((x6.getD x5.toNat default).Y) ((x6.getD x5.toNat default).Z))).getD (0 + j) .nilptr) = ((List.range 1).map fun j => gl cs_Turn z x5.toNat (0 + j)) ∧ ((((.flt .f32 (Fl.ofInt .f32 x4).bits) : C) = (.flt .f32 (Fl.ofInt .f32 x4).bits) ∧ Tt) ∧ Tt) ∧ (true = true → ∀ j, j < 1 → isSeq (gl cs_Turn x6 x5.toNat (0 + j)) = false ∧ isSeq (gl cs_Turn z x5.toNat (0 + j)) = false))) ⟨List.length_set, gl_setp (fun j hj hn => match j, hj, hn with | 0, _, hn => absurd ⟨by decide, by decide⟩ hn | 1, _, _ => rfl | 2, _, _ => rfl | 3, _, _ => rfl) (lt_of_bound c8), (gl_atp (lt_of_bound c8)).symm, ⟨⟨rfl, tr⟩, tr⟩, (fun _ j hj => match j, hj with | 0, _ => ⟨rfl, rfl⟩)⟩), tr⟩ ?_
    refine AW.sC (Tt ∧ T2 Tt) [] [0, 1, 5] [0] ⟨tr, tr, tr, tr⟩ ?_
    refine AW.seq ?_
    obtain ⟨c11, h⟩ := chk_some h
    obtain ⟨y12, e13, h⟩ := bind_some h
    refine AW.tC (T4 ((0 ≤ x5 ∧ x5 < (y9.length : Int)) ∧ Tt ∧ (y12.length = y9.length ∧ SetOb y9.length 4 x5.toNat 1 1 (gl cs_Turn y9) (gl cs_Turn y12) ∧ ((List.range 1).map fun j => (cs_Turn (Turn.mk ((y9.getD x5.toNat default).W) (Fl.ofInt .f32 (IntKind.i64.wrap (x4 + (1 : Int)))) ((y9.getD x5.toNat default).Y) ((y9.getD x5.toNat default).Z))).getD (1 + j) .nilptr) = ((List.range 1).map fun j => gl cs_Turn y12 x5.toNat (1 + j)) ∧ ((((.flt .f32 (Fl.ofInt .f32 (IntKind.i64.wrap (x4 + (1 : Int)))).bits) : C) = (.flt .f32 (Fl.ofInt .f32 (IntKind.i64.wrap (x4 + (1 : Int)))).bits) ∧ Tt) ∧ Tt) ∧ (true = true → ∀ j, j < 1 → isSeq (gl cs_Turn y9 x5.toNat (1 + j)) = false ∧ isSeq (gl cs_Turn y12 x5.toNat (1 + j)) = false)) ∧ Tt)) [.no, .no, .no, .no, .no, .no, .set y12.length (gl cs_Turn y12) ((List.range 1).map fun j => (cs_Turn (Turn.mk ((y9.getD x5.toNat default).W) (Fl.ofInt .f32 (IntKind.i64.wrap (x4 + (1 : Int)))) ((y9.getD x5.toNat default).Y) ((y9.getD x5.toNat default).Z))).getD (1 + j) .nilptr)] [0, 1, 5] [0] ⟨tr, tr, tr, tr, c11, tr, (letP (some_eq e13) (fun z => (z.length = y9.length ∧ SetOb y9.length 4 x5.toNat 1 1 (gl cs_Turn y9) (gl cs_Turn z) ∧ ((List.range 1).map fun j => (cs_Turn (Turn.mk ((y9.getD x5.toNat default).W) (Fl.ofInt .f32 (IntKind.i64.wrap (x4 + (1 : Int)))) ((y9.getD x5.toNat default).Y) ((y9.getD x5.toNat default).Z))).getD (1 + j) .nilptr) = ((List.range 1).map fun j => gl cs_Turn z x5.toNat (1 + j)) ∧ ((((.flt .f32 (Fl.ofInt .f32 (IntKind.i64.wrap (x4 + (1 : Int)))).bits) : C) = (.flt .f32 (Fl.ofInt .f32 (IntKind.i64.wrap (x4 + (1 : Int)))).bits) ∧ Tt) ∧ Tt) ∧ (true = true → ∀ j, j < 1 → isSeq (gl cs_Turn y9 x5.toNat (1 + j)) = false ∧ isSeq (gl cs_Turn z x5.toNat (1 + j)) = false))) ⟨List.length_set, gl_setp (fun j hj hn => match j, hj, hn with | 0, _, _ => rfl | 1, _, hn => absurd ⟨by decide, by decide⟩ hn | 2, _, _ => rfl | 3, _, _ => rfl) (lt_of_bound c11), (gl_atp (lt_of_bound c11)).symm, ⟨⟨rfl, tr⟩, tr⟩, (fun _ j hj => match j, hj with | 0, _ => ⟨rfl, rfl⟩)⟩), tr⟩ ?_
    refine AW.sC (Tt ∧ T2 Tt) [] [0, 1, 5] [0] ⟨tr, tr, tr, tr⟩ ?_
    refine AW.seq ?_
    obtain ⟨c14, h⟩ := chk_some h
    obtain ⟨y15, e16, h⟩ := bind_some h
    refine AW.tC (T4 ((0 ≤ x5 ∧ x5 < (y12.length : Int)) ∧ Tt ∧ (y15.length = y12.length ∧ SetOb y12.length 4 x5.toNat 2 1 (gl cs_Turn y12) (gl cs_Turn y15) ∧ ((List.range 1).map fun j => (cs_Turn (Turn.mk ((y12.getD x5.toNat default).W) ((y12.getD x5.toNat default).X) (Fl.ofInt .f32 (IntKind.i64.wrap ((IntKind.i64.wrap (x4 + (1 : Int))) + (1 : Int)))) ((y12.getD x5.toNat default).Z))).getD (2 + j) .nilptr) = ((List.range 1).map fun j => gl cs_Turn y15 x5.toNat (2 + j)) ∧ ((((.flt .f32 (Fl.ofInt .f32 (IntKind.i64.wrap ((IntKind.i64.wrap (x4 + (1 : Int))) + (1 : Int)))).bits) : C) = (.flt .f32 (Fl.ofInt .f32 (IntKind.i64.wrap ((IntKind.i64.wrap (x4 + (1 : Int))) + (1 : Int)))).bits) ∧ Tt) ∧ Tt) ∧ (true = true → ∀ j, j < 1 → isSeq (gl cs_Turn y12 x5.toNat (2 + j)) = false ∧ isSeq (gl cs_Turn y15 x5.toNat (2 + j)) = false)) ∧ Tt)) [.no, .no, .no, .no, .no, .no, .set y15.length (gl cs_Turn y15) ((List.range 1).map fun j => (cs_Turn (Turn.mk ((y12.getD x5.toNat default).W) ((y12.getD x5.toNat default).X) (Fl.ofInt .f32 (IntKind.i64.wrap ((IntKind.i64.wrap (x4 + (1 : Int))) + (1 : Int)))) ((y12.getD x5.toNat default).Z))).getD (2 + j) .nilptr)] [0, 1, 5] [0] ⟨tr, tr, tr, tr, c14, tr, (letP (some_eq e16) (fun z => (z.length = y12.length ∧ SetOb y12.length 4 x5.toNat 2 1 (gl cs_Turn y12) (gl cs_Turn z) ∧ ((List.range 1).map fun j => (cs_Turn (Turn.mk ((y12.getD x5.toNat default).W) ((y12.getD x5.toNat default).X) (Fl.ofInt .f32 (IntKind.i64.wrap ((IntKind.i64.wrap (x4 + (1 : Int))) + (1 : Int)))) ((y12.getD x5.toNat default).Z))).getD (2 + j) .nilptr) = ((List.range 1).map fun j => gl cs_Turn z x5.toNat (2 + j)) ∧ ((((.flt .f32 (Fl.ofInt .f32 (IntKind.i64.wrap ((IntKind.i64.wrap (x4 + (1 : Int))) + (1 : Int)))).bits) : C) = (.flt .f32 (Fl.ofInt .f32 (IntKind.i64.wrap ((IntKind.i64.wrap (x4 + (1 : Int))) + (1 : Int)))).bits) ∧ Tt) ∧ Tt) ∧ (true = true → ∀ j, j < 1 → isSeq (gl cs_Turn y12 x5.toNat (2 + j)) = false ∧ isSeq (gl cs_Turn z x5.toNat (2 + j)) = false))) ⟨List.length_set, gl_setp (fun j hj hn => match j, hj, hn with | 0, _, _ => rfl | 1, _, _ => rfl | 2, _, hn => absurd ⟨by decide, by decide⟩ hn | 3, _, _ => rfl) (lt_of_bound c14), (gl_atp (lt_of_bound c14)).symm, ⟨⟨rfl, tr⟩, tr⟩, (fun _ j hj => match j, hj with | 0, _ => ⟨rfl, rfl⟩)⟩), tr⟩ ?_
    refine AW.sC (Tt ∧ T2 Tt) [] [0, 1, 5] [0] ⟨tr, tr, tr, tr⟩ ?_
    refine AW.seq ?_
    obtain ⟨c17, h⟩ := chk_some h
    obtain ⟨y18, e19, h⟩ := bind_some h
    refine AW.tC (T4 ((0 ≤ x5 ∧ x5 < (y15.length : Int)) ∧ Tt ∧ (y18.length = y15.length ∧ SetOb y15.length 4 x5.toNat 3 1 (gl cs_Turn y15) (gl cs_Turn y18) ∧ ((List.range 1).map fun j => (cs_Turn (Turn.mk ((y15.getD x5.toNat default).W) ((y15.getD x5.toNat default).X) ((y15.getD x5.toNat default).Y) (Fl.ofInt .f32 (IntKind.i64.wrap ((IntKind.i64.wrap ((IntKind.i64.wrap (x4 + (1 : Int))) + (1 : Int))) + (1 : Int)))))).getD (3 + j) .nilptr) = ((List.range 1).map fun j => gl cs_Turn y18 x5.toNat (3 + j)) ∧ ((((.flt .f32 (Fl.ofInt .f32 (IntKind.i64.wrap ((IntKind.i64.wrap ((IntKind.i64.wrap (x4 + (1 : Int))) + (1 : Int))) + (1 : Int)))).bits) : C) = (.flt .f32 (Fl.ofInt .f32 (IntKind.i64.wrap ((IntKind.i64.wrap ((IntKind.i64.wrap (x4 + (1 : Int))) + (1 : Int))) + (1 : Int)))).bits) ∧ Tt) ∧ Tt) ∧ (true = true → ∀ j, j < 1 → isSeq (gl cs_Turn y15 x5.toNat (3 + j)) = false ∧ isSeq (gl cs_Turn y18 x5.toNat (3 + j)) = false)) ∧ Tt)) [.no, .no, .no, .no, .no, .no, .set y18.length (gl cs_Turn y18) ((List.range 1).map fun j => (cs_Turn (Turn.mk ((y15.getD x5.toNat default).W) ((y15.getD x5.toNat default).X) ((y15.getD x5.toNat default).Y) (Fl.ofInt .f32 (IntKind.i64.wrap ((IntKind.i64.wrap ((IntKind.i64.wrap (x4 + (1 : Int))) + (1 : Int))) + (1 : Int)))))).getD (3 + j) .nilptr)] [0, 1, 5] [0] ⟨tr, tr, tr, tr, c17, tr, (letP (some_eq e19) (fun z => (z.length = y15.length ∧ SetOb y15.length 4 x5.toNat 3 1 (gl cs_Turn y15) (gl cs_Turn z) ∧ ((List.range 1).map fun j => (cs_Turn (Turn.mk ((y15.getD x5.toNat default).W) ((y15.getD x5.toNat default).X) ((y15.getD x5.toNat default).Y) (Fl.ofInt .f32 (IntKind.i64.wrap ((IntKind.i64.wrap ((IntKind.i64.wrap (x4 + (1 : Int))) + (1 : Int))) + (1 : Int)))))).getD (3 + j) .nilptr) = ((List.range 1).map fun j => gl cs_Turn z x5.toNat (3 + j)) ∧ ((((.flt .f32 (Fl.ofInt .f32 (IntKind.i64.wrap ((IntKind.i64.wrap ((IntKind.i64.wrap (x4 + (1 : Int))) + (1 : Int))) + (1 : Int)))).bits) : C) = (.flt .f32 (Fl.ofInt .f32 (IntKind.i64.wrap ((IntKind.i64.wrap ((IntKind.i64.wrap (x4 + (1 : Int))) + (1 : Int))) + (1 : Int)))).bits) ∧ Tt) ∧ Tt) ∧ (true = true → ∀ j, j < 1 → isSeq (gl cs_Turn y15 x5.toNat (3 + j)) = false ∧ isSeq (gl cs_Turn z x5.toNat (3 + j)) = false))) ⟨List.length_set, gl_setp (fun j hj hn => match j, hj, hn with | 0, _, _ => rfl | 1, _, _ => rfl | 2, _, _ => rfl | 3, _, hn => absurd ⟨by decide, by decide⟩ hn) (lt_of_bound c17), (gl_atp (lt_of_bound c17)).symm, ⟨⟨rfl, tr⟩, tr⟩, (fun _ j hj => match j, hj with | 0, _ => ⟨rfl, rfl⟩)⟩), tr⟩ ?_
    refine AW.rA ⟨[(0, (.v (.one (.arr 0)))), (1, (vI (IntKind.i64.wrap ((IntKind.i64.wrap ((IntKind.i64.wrap ((IntKind.i64.wrap (x4 + (1 : Int))) + (1 : Int))) + (1 : Int))) + (1 : Int))))), (5, (vI x5))], [(0, (oA 4 cs_Turn y18))]⟩ (Tt ∧ T2 Tt) [] [0, 1, 5] [0] ⟨tr, tr, tr, tr⟩ ?_
    refine blockQ_normal ?_
    refine thenQ_normal ?_
    refine AW.rA ⟨[(0, (.v (.one (.arr 0)))), (1, (vI (IntKind.i64.wrap ((IntKind.i64.wrap ((IntKind.i64.wrap ((IntKind.i64.wrap (x4 + (1 : Int))) + (1 : Int))) + (1 : Int))) + (1 : Int))))), (5, (vI (IntKind.i64.wrap (x5 + (1 : Int)))))], [(0, (oA 4 cs_Turn y18))]⟩ (Tt ∧ T2 Tt) [] [0, 1, 5] [0] ⟨tr, tr, tr, tr⟩ ?_
    exact loopQ_normal (k, (IntKind.i64.wrap ((IntKind.i64.wrap ((IntKind.i64.wrap ((IntKind.i64.wrap (x4 + (1 : Int))) + (1 : Int))) + (1 : Int))) + (1 : Int))), (IntKind.i64.wrap (x5 + (1 : Int))), y18) h (Nat.lt_succ_self k) (Sub.keep [0, 1, 5] [0] (by kernel_rfl) (by kernel_rfl))
  · refine AW.cond_f rfl b7 ?_
    refine AW.exit ?_
    refine thenQ_exit ?_
    refine loopQ_exit ?_
    refine blockQ_exit ?_
    refine thenQ_normal ?_
    refine AW.sA ⟨[(0, (.v (.one (.arr 0)))), (1, (vI x4)), (4, (vI x4))], [(0, (oA 4 cs_Turn x6))]⟩ (T2 Tt) [] [0, 1, 4] [0] ⟨tr, tr, tr⟩ ?_
    refine AW.ret ?_
    obtain ⟨c20, h⟩ := chk_some h
    replace h := some_eq h
    subst h
    exact ⟨.inr rfl, retOK_of [(.one (cI x4))] (by kernel_rfl) ⟨⟨rfl, tr⟩, tr⟩ (of_decide_eq_true (by kernel_rfl)), by kernel_rfl, ⟨⟨c20, rfl, rfl⟩, tr, tr⟩⟩

/-! laws.markPose -/
def laws_markPose (K : Nat) (a0 : Pose) (a1 : Int) : Option (Int × (List Turn)) :=
  (laws_markTurnS K a0.Turns a1).bind fun v1 => chk (v1.2.length = a0.Turns.length) (chk (v1.2.length = a0.Turns.length) (some (v1.1, v1.2)))

theorem ok_laws_markPose (K : Nat) (a0 : Pose) (a1 : Int) (o : (Int × (List Turn))) (h : laws_markPose K a0 a1 = some o) : MutOK Tryd.prog 7 [(.agg [(.ro (.flt .f32 a0.Root.X.bits)), (.ro (.flt .f32 a0.Root.Y.bits)), (.ro (.flt .f32 a0.Root.Z.bits)), (.mu (sl 4 cs_Turn a0.Turns) (sl 4 cs_Turn o.2))]), (.one (.ro (.int .i64 a1)))] [.one (.int .i64 o.1)] := by
  refine mutOK_of_AW 1 Tryd.func7 rfl (by kernel_rfl) (Nat.le_of_ble_eq_true (by kernel_rfl)) (by kernel_rfl) (by kernel_rfl) ?_
  intro w0 K0 v0 s0
  unfold laws_markPose at h
  refine AW.sC (T2 Tt) [.box 1] [0, 1, 2] [0, 1] ⟨tr, tr, tr⟩ ?_
  refine AW.seq ?_
  obtain ⟨v1, e2, h⟩ := bind_some h
  obtain ⟨c3, h⟩ := chk_some h
  refine AW.tC (Tt ∧ T2 ((((((sl 4 cs_Turn a0.Turns) : C) = (sl 4 cs_Turn a0.Turns) ∧ v1.2.length = a0.Turns.length ∧ 4 = 4 ∧ ∀ i j, i < a0.Turns.length → j < 4 → isSeq (gl cs_Turn v1.2 i j) = isSeq (gl cs_Turn a0.Turns i j)) ∧ (eI a1) ∧ Tt) ∧ MutOK Tryd.prog 15 [(.one (.mu (sl 4 cs_Turn a0.Turns) (sl 4 cs_Turn v1.2))), .one (.ro (.int .i64 a1))] [.one (.int .i64 v1.1)]) ∧ Tt ∧ Tt)) [.no, .no, .no, .callM [(.one (.mu (sl 4 cs_Turn a0.Turns) (sl 4 cs_Turn v1.2))), .one (.ro (.int .i64 a1))] [.one (.int .i64 v1.1)] [[.view]] none] [0, 1] [0] ⟨tr, tr, tr, ⟨⟨⟨rfl, c3, rfl, gl_seq sq_Turn⟩, rfl, tr⟩, ok_laws_markTurnS K a0.Turns a1 v1 e2⟩, tr, tr⟩ ?_
  refine AW.sA ⟨[(0, (.v (.agg [(cF a0.Root.X), (cF a0.Root.Y), (cF a0.Root.Z), (.arr 0)]))), (1, (vI v1.1)), (4, (vI v1.1))], [(0, (oA 4 cs_Turn v1.2))]⟩ (T2 Tt) [] [0, 1, 4] [0] ⟨tr, tr, tr⟩ ?_
  refine AW.ret ?_
  obtain ⟨c4, h⟩ := chk_some h
  replace h := some_eq h
  subst h
  exact ⟨.inr rfl, retOK_of [(.one (cI v1.1))] (by kernel_rfl) ⟨⟨rfl, tr⟩, tr⟩ (of_decide_eq_true (by kernel_rfl)), by kernel_rfl, ⟨⟨tr, tr, tr, ⟨c4, rfl, rfl⟩, tr⟩, tr, tr⟩⟩

/-! laws.heldTurnS -/
def laws_heldTurnS_l1 (K : Nat) (a0 : (List Turn)) : Nat → Int → Int → Option (Int)
  | 0, _, _ => none
  | k + 1, x3, x4 => ite2 ((decide (x4 < (a0.length : Int)))) (chk (0 ≤ x4 ∧ x4 < (a0.length : Int)) (ite2 ((((a0.getD x4.toNat default).W).ne (Fl.ofInt .f32 x3))) (some ((-1) : Int)) (ite2 ((((a0.getD x4.toNat default).X).ne (Fl.ofInt .f32 (IntKind.i64.wrap (x3 + (1 : Int)))))) (some ((-1) : Int)) (ite2 ((((a0.getD x4.toNat default).Y).ne (Fl.ofInt .f32 (IntKind.i64.wrap ((IntKind.i64.wrap (x3 + (1 : Int))) + (1 : Int)))))) (some ((-1) : Int)) (ite2 ((((a0.getD x4.toNat default).Z).ne (Fl.ofInt .f32 (IntKind.i64.wrap ((IntKind.i64.wrap ((IntKind.i64.wrap (x3 + (1 : Int))) + (1 : Int))) + (1 : Int)))))) (some ((-1) : Int)) (laws_heldTurnS_l1 K a0 k (IntKind.i64.wrap ((IntKind.i64.wrap ((IntKind.i64.wrap ((IntKind.i64.wrap (x3 + (1 : Int))) + (1 : Int))) + (1 : Int))) + (1 : Int))) (IntKind.i64.wrap (x4 + (1 : Int))))))))) (some x3)

def laws_heldTurnS (K : Nat) (a0 : (List Turn)) (a1 : Int) : Option (Int) :=
  laws_heldTurnS_l1 K a0 K a1 (0 : Int)

theorem ok_laws_heldTurnS (K : Nat) (a0 : (List Turn)) (a1 : Int) (o : (Int)) (h : laws_heldTurnS K a0 a1 = some o) : CallOK Tryd.prog 16 [.one (sl 4 cs_Turn a0), .one (.int .i64 a1)] [.one (.int .i64 o)] := by
  refine callOK_of_AW Tryd.func16 rfl (by kernel_rfl) (Nat.le_of_ble_eq_true (by kernel_rfl)) ?_
  intro w0
  unfold laws_heldTurnS at h
  refine AW.sC (Tt ∧ Tt) [] [0, 1] [] ⟨tr, tr⟩ ?_
  refine AW.seq ?_
  refine AW.sA ⟨[(0, (vc (sl 4 cs_Turn a0))), (1, (vI a1)), (5, (vI (0 : Int)))], []⟩ (Tt ∧ Tt) [] [0, 1, 5] [] ⟨tr, tr⟩ ?_
  refine AW.block ?_
  refine AW.loopQ (σ := Nat × Int × Int) (fun p => ⟨[(0, (vc (sl 4 cs_Turn a0))), (1, (vI p.2.1)), (5, (vI p.2.2))], []⟩) (fun p => laws_heldTurnS_l1 K a0 p.1 p.2.1 p.2.2 = some o) (fun p => p.1) (K, a1, (0 : Int)) h ?_
  clear h
  rintro ⟨k, x3, x4⟩ h
  replace h : laws_heldTurnS_l1 K a0 k x3 x4 = some o := h
  show AW _ _ (⟨[(0, (vc (sl 4 cs_Turn a0))), (1, (vI x3)), (5, (vI x4))], []⟩ : St) _
  obtain _ | k := k
  · rw [laws_heldTurnS_l1] at h; cases h
  rw [laws_heldTurnS_l1] at h
  refine AW.seq ?_
  refine AW.sA ⟨[(0, (vc (sl 4 cs_Turn a0))), (1, (vI x3)), (5, (vI x4)), (9, (vB (decide (x4 < (a0.length : Int)))))], []⟩ (T4 Tt) [] [0, 1, 5, 9] [] ⟨tr, tr, tr, tr, tr⟩ ?_
  rcases ite2_cases h with ⟨b5, h⟩ | ⟨b5, h⟩
  · refine AW.cond_t rfl b5 ?_
    refine AW.skip ?_
    refine thenQ_normal ?_
    refine AW.seq ?_
    refine AW.block ?_
    refine AW.seq ?_
    refine AW.seq ?_
    obtain ⟨c6, h⟩ := chk_some h
    refine AW.tA ⟨[(0, (vc (sl 4 cs_Turn a0))), (1, (vI x3)), (5, (vI x4)), (19, (vB (((a0.getD x4.toNat default).W).ne (Fl.ofInt .f32 x3))))], []⟩ (T2 ((0 ≤ x4 ∧ x4 < (a0.length : Int)) ∧ Tt ∧ T4 Tt)) [] [0, 1, 5, 19] [] ⟨tr, tr, c6, tr, tr, tr, tr, tr, tr⟩ ?_
    rcases ite2_cases h with ⟨b7, h⟩ | ⟨b7, h⟩
    · refine AW.cond_t rfl b7 ?_
      refine AW.sA ⟨[(4, (vI ((-1) : Int)))], []⟩ (Tt ∧ Tt) [] [4] [] ⟨tr, tr⟩ ?_
      refine AW.ret ?_
      refine thenQ_ret ?_
      refine blockQ_ret ?_
      refine thenQ_ret ?_
      refine loopQ_ret ?_
      refine blockQ_ret ?_
      refine thenQ_ret ?_
      replace h := some_eq h
      subst h
      exact ⟨.inr rfl, retOK_of [(.one (cI ((-1) : Int)))] (by kernel_rfl) ⟨⟨rfl, tr⟩, tr⟩ (of_decide_eq_true (by kernel_rfl))⟩
    · refine AW.cond_f rfl b7 ?_
      refine AW.skip ?_
      refine thenQ_normal ?_
      refine AW.sC (Tt ∧ T2 Tt) [] [0, 1, 5] [] ⟨tr, tr, tr, tr⟩ ?_
      refine AW.seq ?_
      refine AW.sA ⟨[(0, (vc (sl 4 cs_Turn a0))), (1, (vI (IntKind.i64.wrap (x3 + (1 : Int))))), (5, (vI x4)), (29, (vB (((a0.getD x4.toNat default).X).ne (Fl.ofInt .f32 (IntKind.i64.wrap (x3 + (1 : Int)))))))], []⟩ (T2 ((0 ≤ x4 ∧ x4 < (a0.length : Int)) ∧ Tt ∧ T4 Tt)) [] [0, 1, 5, 29] [] ⟨tr, tr, c6, tr, tr, tr, tr, tr, tr⟩ ?_
      rcases ite2_cases h with ⟨b8, h⟩ | ⟨b8, h⟩
      · refine AW.cond_t rfl b8 ?_
        refine AW.sA ⟨[(4, (vI ((-1) : Int)))], []⟩ (Tt ∧ Tt) [] [4] [] ⟨tr, tr⟩ ?_
        refine AW.ret ?_
        refine thenQ_ret ?_
        refine blockQ_ret ?_
        refine thenQ_ret ?_
        refine loopQ_ret ?_
        refine blockQ_ret ?_
        refine thenQ_ret ?_
        replace h := some_eq h
        subst h
        exact ⟨.inr rfl, retOK_of [(.one (cI ((-1) : Int)))] (by kernel_rfl) ⟨⟨rfl, tr⟩, tr⟩ (of_decide_eq_true (by kernel_rfl))⟩
      · refine AW.cond_f rfl b8 ?_
        refine AW.skip ?_
        refine thenQ_normal ?_
        refine AW.sC (Tt ∧ T2 Tt) [] [0, 1, 5] [] ⟨tr, tr, tr, tr⟩ ?_
        refine AW.seq ?_
        refine AW.sA ⟨[(0, (vc (sl 4 cs_Turn a0))), (1, (vI (IntKind.i64.wrap ((IntKind.i64.wrap (x3 + (1 : Int))) + (1 : Int))))), (5, (vI x4)), (39, (vB (((a0.getD x4.toNat default).Y).ne (Fl.ofInt .f32 (IntKind.i64.wrap ((IntKind.i64.wrap (x3 + (1 : Int))) + (1 : Int)))))))], []⟩ (T2 ((0 ≤ x4 ∧ x4 < (a0.length : Int)) ∧ Tt ∧ T4 Tt)) [] [0, 1, 5, 39] [] ⟨tr, tr, c6, tr, tr, tr, tr, tr, tr⟩ ?_
        rcases ite2_cases h with ⟨b9, h⟩ | ⟨b9, h⟩
        · refine AW.cond_t rfl b9 ?_
          refine AW.sA ⟨[(4, (vI ((-1) : Int)))], []⟩ (Tt ∧ Tt) [] [4] [] ⟨tr, tr⟩ ?_
          refine AW.ret ?_
          refine thenQ_ret ?_
          refine blockQ_ret ?_
          refine thenQ_ret ?_
          refine loopQ_ret ?_
          refine blockQ_ret ?_
          refine thenQ_ret ?_
          replace h := some_eq h
          subst h
          exact ⟨.inr rfl, retOK_of [(.one (cI ((-1) : Int)))] (by kernel_rfl) ⟨⟨rfl, tr⟩, tr⟩ (of_decide_eq_true (by kernel_rfl))⟩
        · refine AW.cond_f rfl b9 ?_
          refine AW.skip ?_
          refine thenQ_normal ?_
          refine AW.sC (Tt ∧ T2 Tt) [] [0, 1, 5] [] ⟨tr, tr, tr, tr⟩ ?_
          refine AW.seq ?_
          refine AW.sA ⟨[(0, (vc (sl 4 cs_Turn a0))), (1, (vI (IntKind.i64.wrap ((IntKind.i64.wrap ((IntKind.i64.wrap (x3 + (1 : Int))) + (1 : Int))) + (1 : Int))))), (5, (vI x4)), (49, (vB (((a0.getD x4.toNat default).Z).ne (Fl.ofInt .f32 (IntKind.i64.wrap ((IntKind.i64.wrap ((IntKind.i64.wrap (x3 + (1 : Int))) + (1 : Int))) + (1 : Int)))))))], []⟩ (T2 ((0 ≤ x4 ∧ x4 < (a0.length : Int)) ∧ Tt ∧ T4 Tt)) [] [0, 1, 5, 49] [] ⟨tr, tr, c6, tr, tr, tr, tr, tr, tr⟩ ?_
          rcases ite2_cases h with ⟨b10, h⟩ | ⟨b10, h⟩
          · refine AW.cond_t rfl b10 ?_
            refine AW.sA ⟨[(4, (vI ((-1) : Int)))], []⟩ (Tt ∧ Tt) [] [4] [] ⟨tr, tr⟩ ?_
            refine AW.ret ?_
            refine thenQ_ret ?_
            refine blockQ_ret ?_
            refine thenQ_ret ?_
            refine loopQ_ret ?_
            refine blockQ_ret ?_
            refine thenQ_ret ?_
            replace h := some_eq h
            subst h
            exact ⟨.inr rfl, retOK_of [(.one (cI ((-1) : Int)))] (by kernel_rfl) ⟨⟨rfl, tr⟩, tr⟩ (of_decide_eq_true (by kernel_rfl))⟩
          · refine AW.cond_f rfl b10 ?_
            refine AW.skip ?_
            refine thenQ_normal ?_
            refine AW.rA ⟨[(0, (vc (sl 4 cs_Turn a0))), (1, (vI (IntKind.i64.wrap ((IntKind.i64.wrap ((IntKind.i64.wrap ((IntKind.i64.wrap (x3 + (1 : Int))) + (1 : Int))) + (1 : Int))) + (1 : Int))))), (5, (vI x4))], []⟩ (Tt ∧ T2 Tt) [] [0, 1, 5] [] ⟨tr, tr, tr, tr⟩ ?_
            refine blockQ_normal ?_
            refine thenQ_normal ?_
            refine AW.rA ⟨[(0, (vc (sl 4 cs_Turn a0))), (1, (vI (IntKind.i64.wrap ((IntKind.i64.wrap ((IntKind.i64.wrap ((IntKind.i64.wrap (x3 + (1 : Int))) + (1 : Int))) + (1 : Int))) + (1 : Int))))), (5, (vI (IntKind.i64.wrap (x4 + (1 : Int)))))], []⟩ (Tt ∧ T2 Tt) [] [0, 1, 5] [] ⟨tr, tr, tr, tr⟩ ?_
            exact loopQ_normal (k, (IntKind.i64.wrap ((IntKind.i64.wrap ((IntKind.i64.wrap ((IntKind.i64.wrap (x3 + (1 : Int))) + (1 : Int))) + (1 : Int))) + (1 : Int))), (IntKind.i64.wrap (x4 + (1 : Int)))) h (Nat.lt_succ_self k) (Sub.keep [0, 1, 5] [] (by kernel_rfl) (by kernel_rfl))
  · refine AW.cond_f rfl b5 ?_
    refine AW.exit ?_
    refine thenQ_exit ?_
    refine loopQ_exit ?_
    refine blockQ_exit ?_
    refine thenQ_normal ?_
    refine AW.sA ⟨[(4, (vI x3))], []⟩ (T2 Tt) [] [4] [] ⟨tr, tr, tr⟩ ?_
    refine AW.ret ?_
    replace h := some_eq h
    subst h
    exact ⟨.inr rfl, retOK_of [(.one (cI x3))] (by kernel_rfl) ⟨⟨rfl, tr⟩, tr⟩ (of_decide_eq_true (by kernel_rfl))⟩

/-! laws.heldPose -/
def laws_heldPose (K : Nat) (a0 : Pose) (a1 : Int) : Option (Int) :=
  (laws_heldTurnS K a0.Turns a1).bind fun v1 => ite2 ((decide (v1 < (0 : Int)))) (some ((-1) : Int)) (some v1)

theorem ok_laws_heldPose (K : Nat) (a0 : Pose) (a1 : Int) (o : (Int)) (h : laws_heldPose K a0 a1 = some o) : CallOK Tryd.prog 8 [.agg (cs_Pose a0), .one (.int .i64 a1)] [.one (.int .i64 o)] := by
  refine callOK_of_AW Tryd.func8 rfl (by kernel_rfl) (Nat.le_of_ble_eq_true (by kernel_rfl)) ?_
  intro w0
  unfold laws_heldPose at h
  refine AW.sC (T2 Tt) [.box 1] [1, 2] [1] ⟨tr, tr, tr⟩ ?_
  refine AW.seq ?_
  obtain ⟨v1, e2, h⟩ := bind_some h
  refine AW.tC (Tt ∧ T2 ((((Eqc (sl 4 cs_Turn a0.Turns)) ∧ (eI a1) ∧ Tt) ∧ CallOK Tryd.prog 16 [.one (sl 4 cs_Turn a0.Turns), .one (.int .i64 a1)] [.one (.int .i64 v1)]) ∧ Tt ∧ Tt)) [.no, .no, .no, .call [.one (sl 4 cs_Turn a0.Turns), .one (.int .i64 a1)] [.one (.int .i64 v1)] [[.view]]] [1] [] ⟨tr, tr, tr, ⟨⟨rfl, rfl, tr⟩, ok_laws_heldTurnS K a0.Turns a1 v1 e2⟩, tr, tr⟩ ?_
  refine AW.seq ?_
  refine AW.sA ⟨[(1, (vI v1)), (10, (vB (decide (v1 < (0 : Int)))))], []⟩ (T2 Tt) [] [1, 10] [] ⟨tr, tr, tr⟩ ?_
  rcases ite2_cases h with ⟨b3, h⟩ | ⟨b3, h⟩
  · refine AW.cond_t rfl b3 ?_
    refine AW.sA ⟨[(4, (vI ((-1) : Int)))], []⟩ (Tt ∧ Tt) [] [4] [] ⟨tr, tr⟩ ?_
    refine AW.ret ?_
    refine thenQ_ret ?_
    replace h := some_eq h
    subst h
    exact ⟨.inr rfl, retOK_of [(.one (cI ((-1) : Int)))] (by kernel_rfl) ⟨⟨rfl, tr⟩, tr⟩ (of_decide_eq_true (by kernel_rfl))⟩
  · refine AW.cond_f rfl b3 ?_
    refine AW.skip ?_
    refine thenQ_normal ?_
    refine AW.sA ⟨[(4, (vI v1))], []⟩ (T2 Tt) [] [4] [] ⟨tr, tr, tr⟩ ?_
    refine AW.ret ?_
    replace h := some_eq h
    subst h
    exact ⟨.inr rfl, retOK_of [(.one (cI v1))] (by kernel_rfl) ⟨⟨rfl, tr⟩, tr⟩ (of_decide_eq_true (by kernel_rfl))⟩

/-! laws.FnExactReadPose -/
def laws_FnExactReadPose (K : Nat) (a0 : ByteArray) : Option (Bool) :=
  ite2 ((decide ((a0.size : Int) > (1048576 : Int)))) (some true) ((spec_ReadPose K a0).bind fun v2 => (impl_ReadPose K a0).bind fun v4 => (laws_eqPose K v4.1 v2.1).bind fun v6 => (ite2 ((!v6)) (some true) (some (!(v4.2 == v2.2)))).bind fun j9 => ite2 (j9) (some false) ((laws_markPose K v4.1 (1 : Int)).bind fun v12 => chk (v12.2.length = v4.1.Turns.length) ((laws_heldPose K (Pose.mk v4.1.Root v12.2) (1 : Int)).bind fun v15 => ite2 ((decide (v15 < (0 : Int)))) (some false) (ite2 ((v15 != v12.1)) (some false) ((impl_ReadPose K a0).bind fun v19 => (laws_eqPose K v19.1 v2.1).bind fun v21 => (ite2 ((!v21)) (some true) (some (!(v19.2 == v2.2)))).bind fun j24 => ite2 (j24) (some false) ((laws_heldPose K (Pose.mk v4.1.Root v12.2) (1 : Int)).bind fun v27 => ite2 ((decide (v27 < (0 : Int)))) (some false) (ite2 ((v27 != v12.1)) (some false) (some true))))))))

theorem ok_laws_FnExactReadPose (K : Nat) (a0 : ByteArray) (o : (Bool)) (h : laws_FnExactReadPose K a0 = some o) : CallOK Tryd.prog 3 [.one (.str a0)] [.one (.bool o)] := by
  refine callOK_of_AW Tryd.func3 rfl (by kernel_rfl) (Nat.le_of_ble_eq_true (by kernel_rfl)) ?_
  intro w0
  unfold laws_FnExactReadPose at h
  refine AW.sC (Tt ∧ Tt) [] [0] [] ⟨tr, tr⟩ ?_
  refine AW.seq ?_
  refine AW.sA ⟨[(0, (vc (.str a0))), (13, (vB (decide ((a0.size : Int) > (1048576 : Int)))))], []⟩ (Tt ∧ T2 Tt) [] [0, 13] [] ⟨tr, tr, tr, tr⟩ ?_
  rcases ite2_cases h with ⟨b1, h⟩ | ⟨b1, h⟩
  · refine AW.cond_t rfl b1 ?_
    refine AW.sA ⟨[(2, (vB true))], []⟩ (Tt ∧ Tt) [] [2] [] ⟨tr, tr⟩ ?_
    refine AW.ret ?_
    refine thenQ_ret ?_
    replace h := some_eq h
    subst h
    exact ⟨.inr rfl, retOK_of [(.one (.c (.bool true)))] (by kernel_rfl) ⟨⟨rfl, tr⟩, tr⟩ (of_decide_eq_true (by kernel_rfl))⟩
  · refine AW.cond_f rfl b1 ?_
    refine AW.skip ?_
    refine thenQ_normal ?_
    refine AW.seq ?_
    obtain ⟨v2, e3, h⟩ := bind_some h
    refine AW.tC (Tt ∧ (((Eqc (.str a0)) ∧ Tt) ∧ CallOK Tryd.prog 4 [.one (.str a0)] [.agg (cs_Pose v2.1), .one (.bool v2.2)]) ∧ T2 (T4 Tt)) [.no, .call [.one (.str a0)] [.agg (cs_Pose v2.1), .one (.bool v2.2)] [[.view, .view, .view, .lst 1], [.view]], .no, .no, .no, .box 2] [0, 3, 4] [1, 2] ⟨tr, ⟨⟨rfl, tr⟩, ok_spec_ReadPose K a0 v2 e3⟩, tr, tr, tr, tr, tr, tr, tr⟩ ?_
    refine AW.seq ?_
    obtain ⟨v4, e5, h⟩ := bind_some h
    refine AW.tA ⟨[(0, (vc (.str a0))), (3, (vp 2 0)), (4, (vB v2.2)), (5, (vp 4 0)), (6, (vB v4.2))], [(1, (oL 4 cs_Turn v2.1.Turns)), (2, (.box [(cF v2.1.Root.X), (cF v2.1.Root.Y), (cF v2.1.Root.Z), (xL 1 4 cs_Turn v2.1.Turns)])), (3, (oA 4 cs_Turn v4.1.Turns)), (4, (.box [(cF v4.1.Root.X), (cF v4.1.Root.Y), (cF v4.1.Root.Z), (.arr 3)]))]⟩ (Tt ∧ (((Eqc (.str a0)) ∧ Tt) ∧ CallOK Tryd.prog 5 [.one (.str a0)] [.agg (cs_Pose v4.1), .one (.bool v4.2)]) ∧ T2 (T4 Tt)) [.no, .call [.one (.str a0)] [.agg (cs_Pose v4.1), .one (.bool v4.2)] [[.view, .view, .view, .own 3], [.view]], .no, .no, .no, .box 4] [0, 3, 4, 5, 6] [1, 2, 3, 4] ⟨tr, ⟨⟨rfl, tr⟩, ok_impl_ReadPose K a0 v4 e5⟩, tr, tr, tr, tr, tr, tr, tr⟩ ?_
    refine AW.seq ?_
    refine AW.seq ?_
    obtain ⟨v6, e7, h⟩ := bind_some h
    obtain ⟨j9, e10, h⟩ := bind_some h
    refine AW.join1 (s2 := ⟨[(0, (vc (.str a0))), (3, (vp 2 0)), (4, (vB v2.2)), (5, (vp 4 0)), (32, (vB j9))], [(1, (oL 4 cs_Turn v2.1.Turns)), (2, (.box [(cF v2.1.Root.X), (cF v2.1.Root.Y), (cF v2.1.Root.Z), (xL 1 4 cs_Turn v2.1.Turns)])), (3, (oA 4 cs_Turn v4.1.Turns)), (4, (.box [(cF v4.1.Root.X), (cF v4.1.Root.Y), (cF v4.1.Root.Z), (.arr 3)]))]⟩) ?_ ?_
    · rcases ite2_cases e10 with ⟨b8, e10⟩ | ⟨b8, e10⟩
      · replace e10 := some_eq e10
        subst e10
        exact AW.rA ⟨[(0, (vc (.str a0))), (3, (vp 2 0)), (4, (vB v2.2)), (5, (vp 4 0)), (32, (vB true))], [(1, (oL 4 cs_Turn v2.1.Turns)), (2, (.box [(cF v2.1.Root.X), (cF v2.1.Root.Y), (cF v2.1.Root.Z), (xL 1 4 cs_Turn v2.1.Turns)])), (3, (oA 4 cs_Turn v4.1.Turns)), (4, (.box [(cF v4.1.Root.X), (cF v4.1.Root.Y), (cF v4.1.Root.Z), (.arr 3)]))]⟩ (T2 (((((eF v4.1.Root.X) ∧ (eF v4.1.Root.Y) ∧ (eF v4.1.Root.Z) ∧ (Eqc (sl 4 cs_Turn v4.1.Turns)) ∧ Tt) ∧ ((eF v2.1.Root.X) ∧ (eF v2.1.Root.Y) ∧ (eF v2.1.Root.Z) ∧ (Eqc (sl 4 cs_Turn v2.1.Turns)) ∧ Tt) ∧ Tt) ∧ CallOK Tryd.prog 6 [.agg (cs_Pose v4.1), .agg (cs_Pose v2.1)] [.one (.bool v6)]) ∧ Tt ∧ (Tt ∧ (!v6) = true) ∧ T4 Tt)) [.no, .no, .call [.agg (cs_Pose v4.1), .agg (cs_Pose v2.1)] [.one (.bool v6)] [[.view]], .no, .dec true] [0, 3, 4, 5, 32] [1, 2, 3, 4] ⟨tr, tr, ⟨⟨⟨rfl, rfl, rfl, rfl, tr⟩, ⟨rfl, rfl, rfl, rfl, tr⟩, tr⟩, ok_laws_eqPose K v4.1 v2.1 v6 e7⟩, tr, ⟨tr, b8⟩, tr, tr, tr, tr, tr⟩ ⟨rfl, rfl⟩
      · replace e10 := some_eq e10
        subst e10
        exact AW.rA ⟨[(0, (vc (.str a0))), (3, (vp 2 0)), (4, (vB v2.2)), (5, (vp 4 0)), (32, (vB (!(v4.2 == v2.2))))], [(1, (oL 4 cs_Turn v2.1.Turns)), (2, (.box [(cF v2.1.Root.X), (cF v2.1.Root.Y), (cF v2.1.Root.Z), (xL 1 4 cs_Turn v2.1.Turns)])), (3, (oA 4 cs_Turn v4.1.Turns)), (4, (.box [(cF v4.1.Root.X), (cF v4.1.Root.Y), (cF v4.1.Root.Z), (.arr 3)]))]⟩ (T2 (((((eF v4.1.Root.X) ∧ (eF v4.1.Root.Y) ∧ (eF v4.1.Root.Z) ∧ (Eqc (sl 4 cs_Turn v4.1.Turns)) ∧ Tt) ∧ ((eF v2.1.Root.X) ∧ (eF v2.1.Root.Y) ∧ (eF v2.1.Root.Z) ∧ (Eqc (sl 4 cs_Turn v2.1.Turns)) ∧ Tt) ∧ Tt) ∧ CallOK Tryd.prog 6 [.agg (cs_Pose v4.1), .agg (cs_Pose v2.1)] [.one (.bool v6)]) ∧ Tt ∧ (Tt ∧ (!v6) = false) ∧ T4 Tt)) [.no, .no, .call [.agg (cs_Pose v4.1), .agg (cs_Pose v2.1)] [.one (.bool v6)] [[.view]], .no, .dec false] [0, 3, 4, 5, 32] [1, 2, 3, 4] ⟨tr, tr, ⟨⟨⟨rfl, rfl, rfl, rfl, tr⟩, ⟨rfl, rfl, rfl, rfl, tr⟩, tr⟩, ok_laws_eqPose K v4.1 v2.1 v6 e7⟩, tr, ⟨tr, b8⟩, tr, tr, tr, tr, tr⟩ ⟨rfl, rfl⟩
    refine thenQ_normal ?_
    rcases ite2_cases h with ⟨b11, h⟩ | ⟨b11, h⟩
    · refine AW.cond_t rfl b11 ?_
      refine AW.sA ⟨[(2, (vB false))], []⟩ (Tt ∧ Tt) [] [2] [] ⟨tr, tr⟩ ?_
      refine AW.ret ?_
      refine thenQ_ret ?_
      replace h := some_eq h
      subst h
      exact ⟨.inr rfl, retOK_of [(.one (.c (.bool false)))] (by kernel_rfl) ⟨⟨rfl, tr⟩, tr⟩ (of_decide_eq_true (by kernel_rfl))⟩
    · refine AW.cond_f rfl b11 ?_
      refine AW.skip ?_
      refine thenQ_normal ?_
      refine AW.sC (Tt ∧ Tt) [] [0, 3, 4, 5, 7] [1, 2, 3, 4] ⟨tr, tr⟩ ?_
      refine AW.seq ?_
      obtain ⟨v12, e13, h⟩ := bind_some h
      obtain ⟨c14, h⟩ := chk_some h
      refine AW.tC (T2 (((((eF v4.1.Root.X) ∧ (eF v4.1.Root.Y) ∧ (eF v4.1.Root.Z) ∧ (((sl 4 cs_Turn v4.1.Turns) : C) = (sl 4 cs_Turn v4.1.Turns) ∧ v12.2.length = v4.1.Turns.length ∧ 4 = 4 ∧ ∀ i j, i < v4.1.Turns.length → j < 4 → isSeq (gl cs_Turn v12.2 i j) = isSeq (gl cs_Turn v4.1.Turns i j)) ∧ Tt) ∧ (eI (1 : Int)) ∧ Tt) ∧ MutOK Tryd.prog 7 [(.agg [(.ro (.flt .f32 v4.1.Root.X.bits)), (.ro (.flt .f32 v4.1.Root.Y.bits)), (.ro (.flt .f32 v4.1.Root.Z.bits)), (.mu (sl 4 cs_Turn v4.1.Turns) (sl 4 cs_Turn v12.2))]), .one (.ro (.int .i64 (1 : Int)))] [.one (.int .i64 v12.1)]) ∧ Tt ∧ Tt)) [.no, .no, .callM [(.agg [(.ro (.flt .f32 v4.1.Root.X.bits)), (.ro (.flt .f32 v4.1.Root.Y.bits)), (.ro (.flt .f32 v4.1.Root.Z.bits)), (.mu (sl 4 cs_Turn v4.1.Turns) (sl 4 cs_Turn v12.2))]), .one (.ro (.int .i64 (1 : Int)))] [.one (.int .i64 v12.1)] [[.view]] none] [0, 3, 4, 5, 7] [1, 2, 3, 4] ⟨tr, tr, ⟨⟨⟨rfl, rfl, rfl, ⟨rfl, c14, rfl, gl_seq sq_Turn⟩, tr⟩, rfl, tr⟩, ok_laws_markPose K v4.1 (1 : Int) v12 e13⟩, tr, tr⟩ ?_
      refine AW.sC (Tt ∧ Tt) [] [0, 3, 4, 5, 7, 8] [1, 2, 3, 4] ⟨tr, tr⟩ ?_
      refine AW.seq ?_
      obtain ⟨v15, e16, h⟩ := bind_some h
      refine AW.tC (T2 (((((eF v4.1.Root.X) ∧ (eF v4.1.Root.Y) ∧ (eF v4.1.Root.Z) ∧ (Eqc (sl 4 cs_Turn v12.2)) ∧ Tt) ∧ (eI (1 : Int)) ∧ Tt) ∧ CallOK Tryd.prog 8 [.agg (cs_Pose (Pose.mk v4.1.Root v12.2)), .one (.int .i64 (1 : Int))] [.one (.int .i64 v15)]) ∧ Tt ∧ Tt)) [.no, .no, .call [.agg (cs_Pose (Pose.mk v4.1.Root v12.2)), .one (.int .i64 (1 : Int))] [.one (.int .i64 v15)] [[.view]]] [0, 3, 4, 5, 7, 8] [1, 2, 3, 4] ⟨tr, tr, ⟨⟨⟨rfl, rfl, rfl, rfl, tr⟩, rfl, tr⟩, ok_laws_heldPose K (Pose.mk v4.1.Root v12.2) (1 : Int) v15 e16⟩, tr, tr⟩ ?_
      refine AW.seq ?_
      refine AW.sA ⟨[(0, (vc (.str a0))), (3, (vp 2 0)), (4, (vB v2.2)), (5, (vp 4 0)), (7, (vI v12.1)), (8, (vI v15)), (40, (vB (decide (v15 < (0 : Int)))))], [(1, (oL 4 cs_Turn v2.1.Turns)), (2, (.box [(cF v2.1.Root.X), (cF v2.1.Root.Y), (cF v2.1.Root.Z), (xL 1 4 cs_Turn v2.1.Turns)])), (3, (oA 4 cs_Turn v12.2)), (4, (.box [(cF v4.1.Root.X), (cF v4.1.Root.Y), (cF v4.1.Root.Z), (.arr 3)]))]⟩ (T2 Tt) [] [0, 3, 4, 5, 7, 8, 40] [1, 2, 3, 4] ⟨tr, tr, tr⟩ ?_
      rcases ite2_cases h with ⟨b17, h⟩ | ⟨b17, h⟩
      · refine AW.cond_t rfl b17 ?_
        refine AW.sA ⟨[(2, (vB false))], []⟩ (Tt ∧ Tt) [] [2] [] ⟨tr, tr⟩ ?_
        refine AW.ret ?_
        refine thenQ_ret ?_
        replace h := some_eq h
        subst h
        exact ⟨.inr rfl, retOK_of [(.one (.c (.bool false)))] (by kernel_rfl) ⟨⟨rfl, tr⟩, tr⟩ (of_decide_eq_true (by kernel_rfl))⟩
      · refine AW.cond_f rfl b17 ?_
        refine AW.skip ?_
        refine thenQ_normal ?_
        refine AW.seq ?_
        refine AW.sA ⟨[(0, (vc (.str a0))), (3, (vp 2 0)), (4, (vB v2.2)), (5, (vp 4 0)), (7, (vI v12.1)), (43, (vB (v15 != v12.1)))], [(1, (oL 4 cs_Turn v2.1.Turns)), (2, (.box [(cF v2.1.Root.X), (cF v2.1.Root.Y), (cF v2.1.Root.Z), (xL 1 4 cs_Turn v2.1.Turns)])), (3, (oA 4 cs_Turn v12.2)), (4, (.box [(cF v4.1.Root.X), (cF v4.1.Root.Y), (cF v4.1.Root.Z), (.arr 3)]))]⟩ (Tt ∧ T2 Tt) [] [0, 3, 4, 5, 7, 43] [1, 2, 3, 4] ⟨tr, tr, tr, tr⟩ ?_
        rcases ite2_cases h with ⟨b18, h⟩ | ⟨b18, h⟩
        · refine AW.cond_t rfl b18 ?_
          refine AW.sA ⟨[(2, (vB false))], []⟩ (Tt ∧ Tt) [] [2] [] ⟨tr, tr⟩ ?_
          refine AW.ret ?_
          refine thenQ_ret ?_
          replace h := some_eq h
          subst h
          exact ⟨.inr rfl, retOK_of [(.one (.c (.bool false)))] (by kernel_rfl) ⟨⟨rfl, tr⟩, tr⟩ (of_decide_eq_true (by kernel_rfl))⟩
        · refine AW.cond_f rfl b18 ?_
          refine AW.skip ?_
          refine thenQ_normal ?_
          refine AW.seq ?_
          obtain ⟨v19, e20, h⟩ := bind_some h
          refine AW.tA ⟨[(3, (vp 2 0)), (4, (vB v2.2)), (5, (vp 4 0)), (7, (vI v12.1)), (9, (vp 6 0)), (10, (vB v19.2))], [(1, (oL 4 cs_Turn v2.1.Turns)), (2, (.box [(cF v2.1.Root.X), (cF v2.1.Root.Y), (cF v2.1.Root.Z), (xL 1 4 cs_Turn v2.1.Turns)])), (3, (oA 4 cs_Turn v12.2)), (4, (.box [(cF v4.1.Root.X), (cF v4.1.Root.Y), (cF v4.1.Root.Z), (.arr 3)])), (5, (oL 4 cs_Turn v19.1.Turns)), (6, (.box [(cF v19.1.Root.X), (cF v19.1.Root.Y), (cF v19.1.Root.Z), (xL 5 4 cs_Turn v19.1.Turns)]))]⟩ (Tt ∧ (((Eqc (.str a0)) ∧ Tt) ∧ CallOK Tryd.prog 5 [.one (.str a0)] [.agg (cs_Pose v19.1), .one (.bool v19.2)]) ∧ T2 (T4 Tt)) [.no, .call [.one (.str a0)] [.agg (cs_Pose v19.1), .one (.bool v19.2)] [[.view, .view, .view, .lst 5], [.view]], .no, .no, .no, .box 6] [3, 4, 5, 7, 9, 10] [1, 2, 3, 4, 5, 6] ⟨tr, ⟨⟨rfl, tr⟩, ok_impl_ReadPose K a0 v19 e20⟩, tr, tr, tr, tr, tr, tr, tr⟩ ?_
          refine AW.seq ?_
          refine AW.seq ?_
          obtain ⟨v21, e22, h⟩ := bind_some h
          obtain ⟨j24, e25, h⟩ := bind_some h
          refine AW.join1 (s2 := ⟨[(5, (vp 4 0)), (7, (vI v12.1)), (57, (vB j24))], [(3, (oA 4 cs_Turn v12.2)), (4, (.box [(cF v4.1.Root.X), (cF v4.1.Root.Y), (cF v4.1.Root.Z), (.arr 3)]))]⟩) ?_ ?_
          · rcases ite2_cases e25 with ⟨b23, e25⟩ | ⟨b23, e25⟩
            · replace e25 := some_eq e25
              subst e25
              exact AW.rA ⟨[(5, (vp 4 0)), (7, (vI v12.1)), (57, (vB true))], [(3, (oA 4 cs_Turn v12.2)), (4, (.box [(cF v4.1.Root.X), (cF v4.1.Root.Y), (cF v4.1.Root.Z), (.arr 3)]))]⟩ (T2 (((((eF v19.1.Root.X) ∧ (eF v19.1.Root.Y) ∧ (eF v19.1.Root.Z) ∧ (Eqc (sl 4 cs_Turn v19.1.Turns)) ∧ Tt) ∧ ((eF v2.1.Root.X) ∧ (eF v2.1.Root.Y) ∧ (eF v2.1.Root.Z) ∧ (Eqc (sl 4 cs_Turn v2.1.Turns)) ∧ Tt) ∧ Tt) ∧ CallOK Tryd.prog 6 [.agg (cs_Pose v19.1), .agg (cs_Pose v2.1)] [.one (.bool v21)]) ∧ Tt ∧ (Tt ∧ (!v21) = true) ∧ T4 Tt)) [.no, .no, .call [.agg (cs_Pose v19.1), .agg (cs_Pose v2.1)] [.one (.bool v21)] [[.view]], .no, .dec true] [5, 7, 57] [3, 4] ⟨tr, tr, ⟨⟨⟨rfl, rfl, rfl, rfl, tr⟩, ⟨rfl, rfl, rfl, rfl, tr⟩, tr⟩, ok_laws_eqPose K v19.1 v2.1 v21 e22⟩, tr, ⟨tr, b23⟩, tr, tr, tr, tr, tr⟩ ⟨rfl, rfl⟩
            · replace e25 := some_eq e25
              subst e25
              exact AW.rA ⟨[(5, (vp 4 0)), (7, (vI v12.1)), (57, (vB (!(v19.2 == v2.2))))], [(3, (oA 4 cs_Turn v12.2)), (4, (.box [(cF v4.1.Root.X), (cF v4.1.Root.Y), (cF v4.1.Root.Z), (.arr 3)]))]⟩ (T2 (((((eF v19.1.Root.X) ∧ (eF v19.1.Root.Y) ∧ (eF v19.1.Root.Z) ∧ (Eqc (sl 4 cs_Turn v19.1.Turns)) ∧ Tt) ∧ ((eF v2.1.Root.X) ∧ (eF v2.1.Root.Y) ∧ (eF v2.1.Root.Z) ∧ (Eqc (sl 4 cs_Turn v2.1.Turns)) ∧ Tt) ∧ Tt) ∧ CallOK Tryd.prog 6 [.agg (cs_Pose v19.1), .agg (cs_Pose v2.1)] [.one (.bool v21)]) ∧ Tt ∧ (Tt ∧ (!v21) = false) ∧ T4 Tt)) [.no, .no, .call [.agg (cs_Pose v19.1), .agg (cs_Pose v2.1)] [.one (.bool v21)] [[.view]], .no, .dec false] [5, 7, 57] [3, 4] ⟨tr, tr, ⟨⟨⟨rfl, rfl, rfl, rfl, tr⟩, ⟨rfl, rfl, rfl, rfl, tr⟩, tr⟩, ok_laws_eqPose K v19.1 v2.1 v21 e22⟩, tr, ⟨tr, b23⟩, tr, tr, tr, tr, tr⟩ ⟨rfl, rfl⟩
          refine thenQ_normal ?_
          rcases ite2_cases h with ⟨b26, h⟩ | ⟨b26, h⟩
          · refine AW.cond_t rfl b26 ?_
            refine AW.sA ⟨[(2, (vB false))], []⟩ (Tt ∧ Tt) [] [2] [] ⟨tr, tr⟩ ?_
            refine AW.ret ?_
            refine thenQ_ret ?_
            replace h := some_eq h
            subst h
            exact ⟨.inr rfl, retOK_of [(.one (.c (.bool false)))] (by kernel_rfl) ⟨⟨rfl, tr⟩, tr⟩ (of_decide_eq_true (by kernel_rfl))⟩
          · refine AW.cond_f rfl b26 ?_
            refine AW.skip ?_
            refine thenQ_normal ?_
            refine AW.sC (Tt ∧ Tt) [] [5, 7, 8] [3, 4] ⟨tr, tr⟩ ?_
            refine AW.seq ?_
            obtain ⟨v27, e28, h⟩ := bind_some h
            refine AW.tC (T2 (((((eF v4.1.Root.X) ∧ (eF v4.1.Root.Y) ∧ (eF v4.1.Root.Z) ∧ (Eqc (sl 4 cs_Turn v12.2)) ∧ Tt) ∧ (eI (1 : Int)) ∧ Tt) ∧ CallOK Tryd.prog 8 [.agg (cs_Pose (Pose.mk v4.1.Root v12.2)), .one (.int .i64 (1 : Int))] [.one (.int .i64 v27)]) ∧ Tt ∧ Tt)) [.no, .no, .call [.agg (cs_Pose (Pose.mk v4.1.Root v12.2)), .one (.int .i64 (1 : Int))] [.one (.int .i64 v27)] [[.view]]] [7, 8] [] ⟨tr, tr, ⟨⟨⟨rfl, rfl, rfl, rfl, tr⟩, rfl, tr⟩, ok_laws_heldPose K (Pose.mk v4.1.Root v12.2) (1 : Int) v27 e28⟩, tr, tr⟩ ?_
            refine AW.seq ?_
            refine AW.sA ⟨[(7, (vI v12.1)), (8, (vI v27)), (62, (vB (decide (v27 < (0 : Int)))))], []⟩ (T2 Tt) [] [7, 8, 62] [] ⟨tr, tr, tr⟩ ?_
            rcases ite2_cases h with ⟨b29, h⟩ | ⟨b29, h⟩
            · refine AW.cond_t rfl b29 ?_
              refine AW.sA ⟨[(2, (vB false))], []⟩ (Tt ∧ Tt) [] [2] [] ⟨tr, tr⟩ ?_
              refine AW.ret ?_
              refine thenQ_ret ?_
              replace h := some_eq h
              subst h
              exact ⟨.inr rfl, retOK_of [(.one (.c (.bool false)))] (by kernel_rfl) ⟨⟨rfl, tr⟩, tr⟩ (of_decide_eq_true (by kernel_rfl))⟩
            · refine AW.cond_f rfl b29 ?_
              refine AW.skip ?_
              refine thenQ_normal ?_
              refine AW.seq ?_
              refine AW.sA ⟨[(65, (vB (v27 != v12.1)))], []⟩ (Tt ∧ T2 Tt) [] [65] [] ⟨tr, tr, tr, tr⟩ ?_
              rcases ite2_cases h with ⟨b30, h⟩ | ⟨b30, h⟩
              · refine AW.cond_t rfl b30 ?_
                refine AW.sA ⟨[(2, (vB false))], []⟩ (Tt ∧ Tt) [] [2] [] ⟨tr, tr⟩ ?_
                refine AW.ret ?_
                refine thenQ_ret ?_
                replace h := some_eq h
                subst h
                exact ⟨.inr rfl, retOK_of [(.one (.c (.bool false)))] (by kernel_rfl) ⟨⟨rfl, tr⟩, tr⟩ (of_decide_eq_true (by kernel_rfl))⟩
              · refine AW.cond_f rfl b30 ?_
                refine AW.skip ?_
                refine thenQ_normal ?_
                refine AW.sA ⟨[(2, (vB true))], []⟩ (Tt ∧ Tt) [] [2] [] ⟨tr, tr⟩ ?_
                refine AW.ret ?_
                replace h := some_eq h
                subst h
                exact ⟨.inr rfl, retOK_of [(.one (.c (.bool true)))] (by kernel_rfl) ⟨⟨rfl, tr⟩, tr⟩ (of_decide_eq_true (by kernel_rfl))⟩

end
end Go.Fw
