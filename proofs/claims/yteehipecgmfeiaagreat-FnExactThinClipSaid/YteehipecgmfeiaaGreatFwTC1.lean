/- Functions of the program: what each computes, and that it computes just that. -/
import Derived.Test.YteehipecgmfeiaaGreatFwTy
import Derived.Test.YteehipecgmfeiaaGreatFwH
import Derived.Test.YteehipecgmfeiaaGreatFwV
import Derived.Test.YteehipecgmfeiaaGreatFwAB
import Derived.Test.YteehipecgmfeiaaGreatFwUB
import Derived.Test.YteehipecgmfeiaaGreatProg
import Derived.KernelRfl
namespace Go.Fw
open Go Go.Proofs
noncomputable section
set_option maxRecDepth 10000

/-! laws.szKeyS -/
def laws_szKeyS (_K : Nat) (a0 : (List Key)) (a1 : Int) : Option (Int) :=
  ite2 ((decide ((IntKind.i64.wrap (a1 - (a0.length : Int))) < (0 : Int)))) (some ((-1) : Int)) (some (IntKind.i64.wrap (a1 - (a0.length : Int))))

theorem ok_laws_szKeyS (K : Nat) (a0 : (List Key)) (a1 : Int) (o : (Int)) (h : laws_szKeyS K a0 a1 = some o) : CallOK Tryz.prog 31 [.one (sl 5 cs_Key a0), .one (.int .i64 a1)] [.one (.int .i64 o)] := by
  refine callOK_of_AW Tryz.func31 rfl (by kernel_rfl) (Nat.le_of_ble_eq_true (by kernel_rfl)) ?_
  intro w0
  unfold laws_szKeyS at h
  refine AW.seq (AW.rA ⟨[(0, (vc (sl 5 cs_Key a0))), (1, (vc (.int .i64 a1)))], []⟩ (Tt ∧ Tt) [] [0, 1] [] ⟨tr, tr⟩ (thenQ_normal ?_))
  refine AW.seq (AW.rA ⟨[(1, (vc (.int .i64 (IntKind.i64.wrap (a1 - (a0.length : Int))))))], []⟩ (Tt ∧ T4 Tt) [] [1] [] ⟨tr, tr, tr, tr, tr, tr⟩ (thenQ_normal ?_))
  refine AW.seq ?_
  refine AW.seq (AW.rA ⟨[(1, (vc (.int .i64 (IntKind.i64.wrap (a1 - (a0.length : Int)))))), (10, (vc (.bool (decide ((IntKind.i64.wrap (a1 - (a0.length : Int))) < (0 : Int))))))], []⟩ (T2 Tt) [] [1, 10] [] ⟨tr, tr, tr⟩ (thenQ_normal ?_))
  rcases ite2_cases h with ⟨b1, h⟩ | ⟨b1, h⟩
  · refine AW.cond_t rfl b1 ?_
    refine AW.seq (AW.rA ⟨[(4, (vc (.int .i64 ((-1) : Int))))], []⟩ (Tt ∧ Tt) [] [4] [] ⟨tr, tr⟩ (thenQ_normal ?_))
    refine AW.ret ?_
    refine thenQ_ret ?_
    replace h := some_eq h
    subst h
    exact ⟨.inr rfl, retOK_of [(.one (.c (.int .i64 ((-1) : Int))))] (by kernel_rfl) ⟨⟨rfl, tr⟩, tr⟩ (of_decide_eq_true (by kernel_rfl))⟩
  · refine AW.cond_f rfl b1 ?_
    refine AW.skip ?_
    refine thenQ_normal ?_
    refine AW.seq (AW.rA ⟨[(4, (vc (.int .i64 (IntKind.i64.wrap (a1 - (a0.length : Int))))))], []⟩ (T2 Tt) [] [4] [] ⟨tr, tr, tr⟩ (thenQ_normal ?_))
    refine AW.ret ?_
    replace h := some_eq h
    subst h
    exact ⟨.inr rfl, retOK_of [(.one (.c (.int .i64 (IntKind.i64.wrap (a1 - (a0.length : Int))))))] (by kernel_rfl) ⟨⟨rfl, tr⟩, tr⟩ (of_decide_eq_true (by kernel_rfl))⟩

/-! laws.szKeySS -/
def laws_szKeySS_l1 (K : Nat) (a0 : (List (List Key))) : Nat → Int → Int → Option (Int)
  | 0, _, _ => none
  | k + 1, x4, x5 => ite2 ((decide (x5 < (a0.length : Int)))) (chk (0 ≤ x5 ∧ x5 < (a0.length : Int)) ((laws_szKeyS K (a0.getD x5.toNat default) x4).bind fun v8 => ite2 ((decide (v8 < (0 : Int)))) (some ((-1) : Int)) (laws_szKeySS_l1 K a0 k v8 (IntKind.i64.wrap (x5 + (1 : Int)))))) (some x4)

def laws_szKeySS (K : Nat) (a0 : (List (List Key))) (a1 : Int) : Option (Int) :=
  ite2 ((decide ((IntKind.i64.wrap (a1 - (a0.length : Int))) < (0 : Int)))) (some ((-1) : Int)) (laws_szKeySS_l1 K a0 K (IntKind.i64.wrap (a1 - (a0.length : Int))) (0 : Int))

theorem ok_laws_szKeySS (K : Nat) (a0 : (List (List Key))) (a1 : Int) (o : (Int)) (h : laws_szKeySS K a0 a1 = some o) : CallOK Tryz.prog 11 [.one (sl 1 (csL 5 cs_Key) a0), .one (.int .i64 a1)] [.one (.int .i64 o)] := by
  refine callOK_of_AW Tryz.func11 rfl (by kernel_rfl) (Nat.le_of_ble_eq_true (by kernel_rfl)) ?_
  intro w0
  unfold laws_szKeySS at h
  refine AW.seq (AW.rA ⟨[(0, (vc (sl 1 (csL 5 cs_Key) a0))), (1, (vc (.int .i64 a1)))], []⟩ (Tt ∧ Tt) [] [0, 1] [] ⟨tr, tr⟩ (thenQ_normal ?_))
  refine AW.seq (AW.rA ⟨[(0, (vc (sl 1 (csL 5 cs_Key) a0))), (1, (vc (.int .i64 (IntKind.i64.wrap (a1 - (a0.length : Int))))))], []⟩ (Tt ∧ T4 Tt) [] [0, 1] [] ⟨tr, tr, tr, tr, tr, tr⟩ (thenQ_normal ?_))
  refine AW.seq ?_
  refine AW.seq (AW.rA ⟨[(0, (vc (sl 1 (csL 5 cs_Key) a0))), (1, (vc (.int .i64 (IntKind.i64.wrap (a1 - (a0.length : Int)))))), (11, (vc (.bool (decide ((IntKind.i64.wrap (a1 - (a0.length : Int))) < (0 : Int))))))], []⟩ (T2 Tt) [] [0, 1, 11] [] ⟨tr, tr, tr⟩ (thenQ_normal ?_))
  rcases ite2_cases h with ⟨b1, h⟩ | ⟨b1, h⟩
  · refine AW.cond_t rfl b1 ?_
    refine AW.seq (AW.rA ⟨[(4, (vc (.int .i64 ((-1) : Int))))], []⟩ (Tt ∧ Tt) [] [4] [] ⟨tr, tr⟩ (thenQ_normal ?_))
    refine AW.ret ?_
    refine thenQ_ret ?_
    replace h := some_eq h
    subst h
    exact ⟨.inr rfl, retOK_of [(.one (.c (.int .i64 ((-1) : Int))))] (by kernel_rfl) ⟨⟨rfl, tr⟩, tr⟩ (of_decide_eq_true (by kernel_rfl))⟩
  · refine AW.cond_f rfl b1 ?_
    refine AW.skip ?_
    refine thenQ_normal ?_
    refine AW.seq ?_
    refine AW.seq (AW.rA ⟨[(0, (vc (sl 1 (csL 5 cs_Key) a0))), (1, (vc (.int .i64 (IntKind.i64.wrap (a1 - (a0.length : Int)))))), (5, (vc (.int .i64 (0 : Int))))], []⟩ (Tt ∧ Tt) [] [0, 1, 5] [] ⟨tr, tr⟩ (thenQ_normal ?_))
    refine AW.block ?_
    refine AW.loopQ (σ := Nat × Int × Int) (fun p => ⟨[(0, (vc (sl 1 (csL 5 cs_Key) a0))), (1, (vc (.int .i64 p.2.1))), (5, (vc (.int .i64 p.2.2)))], []⟩) (fun p => laws_szKeySS_l1 K a0 p.1 p.2.1 p.2.2 = some o) (fun p => p.1) (K, (IntKind.i64.wrap (a1 - (a0.length : Int))), (0 : Int)) h ?_
    clear h
    rintro ⟨k, x4, x5⟩ h
    replace h : laws_szKeySS_l1 K a0 k x4 x5 = some o := h
    show AW _ _ (⟨[(0, (vc (sl 1 (csL 5 cs_Key) a0))), (1, (vc (.int .i64 x4))), (5, (vc (.int .i64 x5)))], []⟩ : St) _
    obtain _ | k := k
    · rw [laws_szKeySS_l1] at h; cases h
    rw [laws_szKeySS_l1] at h
    refine AW.seq ?_
    refine AW.seq (AW.rA ⟨[(0, (vc (sl 1 (csL 5 cs_Key) a0))), (1, (vc (.int .i64 x4))), (5, (vc (.int .i64 x5))), (15, (vc (.bool (decide (x5 < (a0.length : Int))))))], []⟩ (T4 Tt) [] [0, 1, 5, 15] [] ⟨tr, tr, tr, tr, tr⟩ (thenQ_normal ?_))
    rcases ite2_cases h with ⟨b6, h⟩ | ⟨b6, h⟩
    · refine AW.cond_t rfl b6 ?_
      refine AW.skip ?_
      refine thenQ_normal ?_
      refine AW.seq ?_
      refine AW.block ?_
      refine AW.seq ?_
      obtain ⟨c7, h⟩ := chk_some h
      obtain ⟨v8, e9, h⟩ := bind_some h
      refine AW.rA ⟨[(0, (vc (sl 1 (csL 5 cs_Key) a0))), (1, (vc (.int .i64 v8))), (5, (vc (.int .i64 x5)))], []⟩ (T2 ((0 ≤ x5 ∧ x5 < (a0.length : Int)) ∧ T2 ((((Eqc (sl 5 cs_Key (a0.getD x5.toNat default))) ∧ (Eqc (.int .i64 x4)) ∧ Tt) ∧ CallOK Tryz.prog 31 [.one (sl 5 cs_Key (a0.getD x5.toNat default)), .one (.int .i64 x4)] [.one (.int .i64 v8)]) ∧ Tt ∧ Tt))) [.no, .no, .no, .no, .no, .call [.one (sl 5 cs_Key (a0.getD x5.toNat default)), .one (.int .i64 x4)] [.one (.int .i64 v8)] [[.view]]] [0, 1, 5] [] ⟨tr, tr, c7, tr, tr, ⟨⟨rfl, rfl, tr⟩, ok_laws_szKeyS K (a0.getD x5.toNat default) x4 v8 e9⟩, tr, tr⟩ ?_
      refine thenQ_normal ?_
      refine AW.seq (AW.rA ⟨[(0, (vc (sl 1 (csL 5 cs_Key) a0))), (1, (vc (.int .i64 v8))), (5, (vc (.int .i64 x5))), (25, (vc (.bool (decide (v8 < (0 : Int))))))], []⟩ (T2 Tt) [] [0, 1, 5, 25] [] ⟨tr, tr, tr⟩ (thenQ_normal ?_))
      rcases ite2_cases h with ⟨b10, h⟩ | ⟨b10, h⟩
      · refine AW.cond_t rfl b10 ?_
        refine AW.seq (AW.rA ⟨[(4, (vc (.int .i64 ((-1) : Int))))], []⟩ (Tt ∧ Tt) [] [4] [] ⟨tr, tr⟩ (thenQ_normal ?_))
        refine AW.ret ?_
        refine blockQ_ret ?_
        refine thenQ_ret ?_
        refine loopQ_ret ?_
        refine blockQ_ret ?_
        refine thenQ_ret ?_
        replace h := some_eq h
        subst h
        exact ⟨.inr rfl, retOK_of [(.one (.c (.int .i64 ((-1) : Int))))] (by kernel_rfl) ⟨⟨rfl, tr⟩, tr⟩ (of_decide_eq_true (by kernel_rfl))⟩
      · refine AW.cond_f rfl b10 ?_
        refine AW.skip ?_
        refine blockQ_normal ?_
        refine thenQ_normal ?_
        refine AW.rA ⟨[(0, (vc (sl 1 (csL 5 cs_Key) a0))), (1, (vc (.int .i64 v8))), (5, (vc (.int .i64 (IntKind.i64.wrap (x5 + (1 : Int))))))], []⟩ (Tt ∧ T2 Tt) [] [0, 1, 5] [] ⟨tr, tr, tr, tr⟩ ?_
        exact loopQ_normal (k, v8, (IntKind.i64.wrap (x5 + (1 : Int)))) h (Nat.lt_succ_self k) (Sub.keep [0, 1, 5] [] (by kernel_rfl) (by kernel_rfl))
    · refine AW.cond_f rfl b6 ?_
      refine AW.exit ?_
      refine thenQ_exit ?_
      refine loopQ_exit ?_
      refine blockQ_exit ?_
      refine thenQ_normal ?_
      refine AW.seq (AW.rA ⟨[(4, (vc (.int .i64 x4)))], []⟩ (T2 Tt) [] [4] [] ⟨tr, tr, tr⟩ (thenQ_normal ?_))
      refine AW.ret ?_
      replace h := some_eq h
      subst h
      exact ⟨.inr rfl, retOK_of [(.one (.c (.int .i64 x4)))] (by kernel_rfl) ⟨⟨rfl, tr⟩, tr⟩ (of_decide_eq_true (by kernel_rfl))⟩

/-! laws.szRootKeyS -/
def laws_szRootKeyS (_K : Nat) (a0 : (List RootKey)) (a1 : Int) : Option (Int) :=
  ite2 ((decide ((IntKind.i64.wrap (a1 - (a0.length : Int))) < (0 : Int)))) (some ((-1) : Int)) (some (IntKind.i64.wrap (a1 - (a0.length : Int))))

theorem ok_laws_szRootKeyS (K : Nat) (a0 : (List RootKey)) (a1 : Int) (o : (Int)) (h : laws_szRootKeyS K a0 a1 = some o) : CallOK Tryz.prog 12 [.one (sl 4 cs_RootKey a0), .one (.int .i64 a1)] [.one (.int .i64 o)] := by
  refine callOK_of_AW Tryz.func12 rfl (by kernel_rfl) (Nat.le_of_ble_eq_true (by kernel_rfl)) ?_
  intro w0
  unfold laws_szRootKeyS at h
  refine AW.seq (AW.rA ⟨[(0, (vc (sl 4 cs_RootKey a0))), (1, (vc (.int .i64 a1)))], []⟩ (Tt ∧ Tt) [] [0, 1] [] ⟨tr, tr⟩ (thenQ_normal ?_))
  refine AW.seq (AW.rA ⟨[(1, (vc (.int .i64 (IntKind.i64.wrap (a1 - (a0.length : Int))))))], []⟩ (Tt ∧ T4 Tt) [] [1] [] ⟨tr, tr, tr, tr, tr, tr⟩ (thenQ_normal ?_))
  refine AW.seq ?_
  refine AW.seq (AW.rA ⟨[(1, (vc (.int .i64 (IntKind.i64.wrap (a1 - (a0.length : Int)))))), (10, (vc (.bool (decide ((IntKind.i64.wrap (a1 - (a0.length : Int))) < (0 : Int))))))], []⟩ (T2 Tt) [] [1, 10] [] ⟨tr, tr, tr⟩ (thenQ_normal ?_))
  rcases ite2_cases h with ⟨b1, h⟩ | ⟨b1, h⟩
  · refine AW.cond_t rfl b1 ?_
    refine AW.seq (AW.rA ⟨[(4, (vc (.int .i64 ((-1) : Int))))], []⟩ (Tt ∧ Tt) [] [4] [] ⟨tr, tr⟩ (thenQ_normal ?_))
    refine AW.ret ?_
    refine thenQ_ret ?_
    replace h := some_eq h
    subst h
    exact ⟨.inr rfl, retOK_of [(.one (.c (.int .i64 ((-1) : Int))))] (by kernel_rfl) ⟨⟨rfl, tr⟩, tr⟩ (of_decide_eq_true (by kernel_rfl))⟩
  · refine AW.cond_f rfl b1 ?_
    refine AW.skip ?_
    refine thenQ_normal ?_
    refine AW.seq (AW.rA ⟨[(4, (vc (.int .i64 (IntKind.i64.wrap (a1 - (a0.length : Int))))))], []⟩ (T2 Tt) [] [4] [] ⟨tr, tr, tr⟩ (thenQ_normal ?_))
    refine AW.ret ?_
    replace h := some_eq h
    subst h
    exact ⟨.inr rfl, retOK_of [(.one (.c (.int .i64 (IntKind.i64.wrap (a1 - (a0.length : Int))))))] (by kernel_rfl) ⟨⟨rfl, tr⟩, tr⟩ (of_decide_eq_true (by kernel_rfl))⟩

/-! laws.szClip -/
def laws_szClip (K : Nat) (a0 : Clip) (a1 : Int) : Option (Int) :=
  (laws_szKeySS K a0.Tracks a1).bind fun v1 => ite2 ((decide (v1 < (0 : Int)))) (some ((-1) : Int)) ((laws_szRootKeyS K a0.Roots v1).bind fun v4 => ite2 ((decide (v4 < (0 : Int)))) (some ((-1) : Int)) (some v4))

theorem ok_laws_szClip (K : Nat) (a0 : Clip) (a1 : Int) (o : (Int)) (h : laws_szClip K a0 a1 = some o) : CallOK Tryz.prog 4 [.agg (cs_Clip a0), .one (.int .i64 a1)] [.one (.int .i64 o)] := by
  refine callOK_of_AW Tryz.func4 rfl (by kernel_rfl) (Nat.le_of_ble_eq_true (by kernel_rfl)) ?_
  intro w0
  unfold laws_szClip at h
  refine AW.seq (AW.rA ⟨[(1, (vc (.int .i64 a1))), (2, (vp 1 0))], [(1, (.box [(.c (.int .i64 a0.Length)), (.c (.int .i64 a0.Kind)), (.c (sl 1 (csL 5 cs_Key) a0.Tracks)), (.c (sl 4 cs_RootKey a0.Roots))]))]⟩ (T2 Tt) [.box 1] [1, 2] [1] ⟨tr, tr, tr⟩ (thenQ_normal ?_))
  refine AW.seq ?_
  obtain ⟨v1, e2, h⟩ := bind_some h
  refine AW.rA ⟨[(1, (vc (.int .i64 v1))), (2, (vp 1 0))], [(1, (.box [(.c (.int .i64 a0.Length)), (.c (.int .i64 a0.Kind)), (.c (sl 1 (csL 5 cs_Key) a0.Tracks)), (.c (sl 4 cs_RootKey a0.Roots))]))]⟩ (Tt ∧ T2 ((((Eqc (sl 1 (csL 5 cs_Key) a0.Tracks)) ∧ (Eqc (.int .i64 a1)) ∧ Tt) ∧ CallOK Tryz.prog 11 [.one (sl 1 (csL 5 cs_Key) a0.Tracks), .one (.int .i64 a1)] [.one (.int .i64 v1)]) ∧ Tt ∧ Tt)) [.no, .no, .no, .call [.one (sl 1 (csL 5 cs_Key) a0.Tracks), .one (.int .i64 a1)] [.one (.int .i64 v1)] [[.view]]] [1, 2] [1] ⟨tr, tr, tr, ⟨⟨rfl, rfl, tr⟩, ok_laws_szKeySS K a0.Tracks a1 v1 e2⟩, tr, tr⟩ ?_
  refine thenQ_normal ?_
  refine AW.seq ?_
  refine AW.seq (AW.rA ⟨[(1, (vc (.int .i64 v1))), (2, (vp 1 0)), (10, (vc (.bool (decide (v1 < (0 : Int))))))], [(1, (.box [(.c (.int .i64 a0.Length)), (.c (.int .i64 a0.Kind)), (.c (sl 1 (csL 5 cs_Key) a0.Tracks)), (.c (sl 4 cs_RootKey a0.Roots))]))]⟩ (T2 Tt) [] [1, 2, 10] [1] ⟨tr, tr, tr⟩ (thenQ_normal ?_))
  rcases ite2_cases h with ⟨b3, h⟩ | ⟨b3, h⟩
  · refine AW.cond_t rfl b3 ?_
    refine AW.seq (AW.rA ⟨[(4, (vc (.int .i64 ((-1) : Int))))], []⟩ (Tt ∧ Tt) [] [4] [] ⟨tr, tr⟩ (thenQ_normal ?_))
    refine AW.ret ?_
    refine thenQ_ret ?_
    replace h := some_eq h
    subst h
    exact ⟨.inr rfl, retOK_of [(.one (.c (.int .i64 ((-1) : Int))))] (by kernel_rfl) ⟨⟨rfl, tr⟩, tr⟩ (of_decide_eq_true (by kernel_rfl))⟩
  · refine AW.cond_f rfl b3 ?_
    refine AW.skip ?_
    refine thenQ_normal ?_
    refine AW.seq ?_
    obtain ⟨v4, e5, h⟩ := bind_some h
    refine AW.rA ⟨[(1, (vc (.int .i64 v4)))], []⟩ (Tt ∧ T2 ((((Eqc (sl 4 cs_RootKey a0.Roots)) ∧ (Eqc (.int .i64 v1)) ∧ Tt) ∧ CallOK Tryz.prog 12 [.one (sl 4 cs_RootKey a0.Roots), .one (.int .i64 v1)] [.one (.int .i64 v4)]) ∧ Tt ∧ Tt)) [.no, .no, .no, .call [.one (sl 4 cs_RootKey a0.Roots), .one (.int .i64 v1)] [.one (.int .i64 v4)] [[.view]]] [1] [] ⟨tr, tr, tr, ⟨⟨rfl, rfl, tr⟩, ok_laws_szRootKeyS K a0.Roots v1 v4 e5⟩, tr, tr⟩ ?_
    refine thenQ_normal ?_
    refine AW.seq ?_
    refine AW.seq (AW.rA ⟨[(1, (vc (.int .i64 v4))), (16, (vc (.bool (decide (v4 < (0 : Int))))))], []⟩ (T2 Tt) [] [1, 16] [] ⟨tr, tr, tr⟩ (thenQ_normal ?_))
    rcases ite2_cases h with ⟨b6, h⟩ | ⟨b6, h⟩
    · refine AW.cond_t rfl b6 ?_
      refine AW.seq (AW.rA ⟨[(4, (vc (.int .i64 ((-1) : Int))))], []⟩ (Tt ∧ Tt) [] [4] [] ⟨tr, tr⟩ (thenQ_normal ?_))
      refine AW.ret ?_
      refine thenQ_ret ?_
      replace h := some_eq h
      subst h
      exact ⟨.inr rfl, retOK_of [(.one (.c (.int .i64 ((-1) : Int))))] (by kernel_rfl) ⟨⟨rfl, tr⟩, tr⟩ (of_decide_eq_true (by kernel_rfl))⟩
    · refine AW.cond_f rfl b6 ?_
      refine AW.skip ?_
      refine thenQ_normal ?_
      refine AW.seq (AW.rA ⟨[(4, (vc (.int .i64 v4)))], []⟩ (T2 Tt) [] [4] [] ⟨tr, tr, tr⟩ (thenQ_normal ?_))
      refine AW.ret ?_
      replace h := some_eq h
      subst h
      exact ⟨.inr rfl, retOK_of [(.one (.c (.int .i64 v4)))] (by kernel_rfl) ⟨⟨rfl, tr⟩, tr⟩ (of_decide_eq_true (by kernel_rfl))⟩

/-! laws.toTurn -/
def laws_toTurn (_K : Nat) (a0 : Turn) : Option (Turn) :=
  some a0

theorem ok_laws_toTurn (K : Nat) (a0 : Turn) (o : (Turn)) (h : laws_toTurn K a0 = some o) : CallOK Tryz.prog 88 [.agg (cs_Turn a0)] [.agg (cs_Turn o)] := by
  refine callOK_of_AW Tryz.func88 rfl (by kernel_rfl) (Nat.le_of_ble_eq_true (by kernel_rfl)) ?_
  intro w0
  unfold laws_toTurn at h
  refine AW.seq (AW.rA ⟨[(1, (vp 1 0)), (2, (vp 2 0))], [(1, (.box [(.c (.flt .f32 a0.W.bits)), (.c (.flt .f32 a0.X.bits)), (.c (.flt .f32 a0.Y.bits)), (.c (.flt .f32 a0.Z.bits))])), (2, (.box [(.c (.flt .f32 (default : F32).bits)), (.c (.flt .f32 (default : F32).bits)), (.c (.flt .f32 (default : F32).bits)), (.c (.flt .f32 (default : F32).bits))]))]⟩ (T2 Tt) [.box 1, .box 2] [1, 2] [1, 2] ⟨tr, tr, tr⟩ (thenQ_normal ?_))
  refine AW.seq (AW.rA ⟨[(1, (vp 1 0)), (2, (vp 2 0)), (3, (vp 3 0))], [(1, (.box [(.c (.flt .f32 a0.W.bits)), (.c (.flt .f32 a0.X.bits)), (.c (.flt .f32 a0.Y.bits)), (.c (.flt .f32 a0.Z.bits))])), (2, (.box [(.c (.flt .f32 (default : F32).bits)), (.c (.flt .f32 (default : F32).bits)), (.c (.flt .f32 (default : F32).bits)), (.c (.flt .f32 (default : F32).bits))])), (3, (.box [(.c (.flt .f32 (default : F32).bits)), (.c (.flt .f32 (default : F32).bits)), (.c (.flt .f32 (default : F32).bits)), (.c (.flt .f32 (default : F32).bits))]))]⟩ (Tt ∧ Tt) [.box 3] [1, 2, 3] [1, 2, 3] ⟨tr, tr⟩ (thenQ_normal ?_))
  refine AW.seq (AW.rA ⟨[(1, (vp 1 0)), (2, (vp 2 0)), (3, (vp 3 0))], [(1, (.box [(.c (.flt .f32 a0.W.bits)), (.c (.flt .f32 a0.X.bits)), (.c (.flt .f32 a0.Y.bits)), (.c (.flt .f32 a0.Z.bits))])), (2, (.box [(.c (.flt .f32 (default : F32).bits)), (.c (.flt .f32 (default : F32).bits)), (.c (.flt .f32 (default : F32).bits)), (.c (.flt .f32 (default : F32).bits))])), (3, (.box [(.c (.flt .f32 a0.W.bits)), (.c (.flt .f32 (default : F32).bits)), (.c (.flt .f32 (default : F32).bits)), (.c (.flt .f32 (default : F32).bits))]))]⟩ (T4 Tt) [] [1, 2, 3] [1, 2, 3] ⟨tr, tr, tr, tr, tr⟩ (thenQ_normal ?_))
  refine AW.seq (AW.rA ⟨[(1, (vp 1 0)), (2, (vp 2 0)), (3, (vp 3 0))], [(1, (.box [(.c (.flt .f32 a0.W.bits)), (.c (.flt .f32 a0.X.bits)), (.c (.flt .f32 a0.Y.bits)), (.c (.flt .f32 a0.Z.bits))])), (2, (.box [(.c (.flt .f32 (default : F32).bits)), (.c (.flt .f32 (default : F32).bits)), (.c (.flt .f32 (default : F32).bits)), (.c (.flt .f32 (default : F32).bits))])), (3, (.box [(.c (.flt .f32 a0.W.bits)), (.c (.flt .f32 a0.X.bits)), (.c (.flt .f32 (default : F32).bits)), (.c (.flt .f32 (default : F32).bits))]))]⟩ (T4 Tt) [] [1, 2, 3] [1, 2, 3] ⟨tr, tr, tr, tr, tr⟩ (thenQ_normal ?_))
  refine AW.seq (AW.rA ⟨[(1, (vp 1 0)), (2, (vp 2 0)), (3, (vp 3 0))], [(1, (.box [(.c (.flt .f32 a0.W.bits)), (.c (.flt .f32 a0.X.bits)), (.c (.flt .f32 a0.Y.bits)), (.c (.flt .f32 a0.Z.bits))])), (2, (.box [(.c (.flt .f32 (default : F32).bits)), (.c (.flt .f32 (default : F32).bits)), (.c (.flt .f32 (default : F32).bits)), (.c (.flt .f32 (default : F32).bits))])), (3, (.box [(.c (.flt .f32 a0.W.bits)), (.c (.flt .f32 a0.X.bits)), (.c (.flt .f32 a0.Y.bits)), (.c (.flt .f32 (default : F32).bits))]))]⟩ (T4 Tt) [] [1, 2, 3] [1, 2, 3] ⟨tr, tr, tr, tr, tr⟩ (thenQ_normal ?_))
  refine AW.seq (AW.rA ⟨[(2, (vp 2 0)), (3, (vp 3 0))], [(2, (.box [(.c (.flt .f32 (default : F32).bits)), (.c (.flt .f32 (default : F32).bits)), (.c (.flt .f32 (default : F32).bits)), (.c (.flt .f32 (default : F32).bits))])), (3, (.box [(.c (.flt .f32 a0.W.bits)), (.c (.flt .f32 a0.X.bits)), (.c (.flt .f32 a0.Y.bits)), (.c (.flt .f32 a0.Z.bits))]))]⟩ (T4 Tt) [] [2, 3] [2, 3] ⟨tr, tr, tr, tr, tr⟩ (thenQ_normal ?_))
  refine AW.seq (AW.rA ⟨[(2, (vp 2 0))], [(2, (.box [(.c (.flt .f32 a0.W.bits)), (.c (.flt .f32 a0.X.bits)), (.c (.flt .f32 a0.Y.bits)), (.c (.flt .f32 a0.Z.bits))]))]⟩ (T2 Tt) [] [2] [2] ⟨tr, tr, tr⟩ (thenQ_normal ?_))
  refine AW.ret ?_
  replace h := some_eq h
  subst h
  exact ⟨.inr rfl, retOK_of [(.agg [(.c (.flt .f32 a0.W.bits)), (.c (.flt .f32 a0.X.bits)), (.c (.flt .f32 a0.Y.bits)), (.c (.flt .f32 a0.Z.bits))])] (by kernel_rfl) ⟨⟨⟨rfl, tr⟩, ⟨rfl, tr⟩, ⟨rfl, tr⟩, ⟨rfl, tr⟩, tr⟩, tr⟩ (of_decide_eq_true (by kernel_rfl))⟩

/-! laws.toKey -/
def laws_toKey (K : Nat) (a0 : Key) : Option (Key) :=
  (laws_toTurn K a0.Turn).bind fun v1 => some (Key.mk a0.At v1)

theorem ok_laws_toKey (K : Nat) (a0 : Key) (o : (Key)) (h : laws_toKey K a0 = some o) : CallOK Tryz.prog 64 [.agg (cs_Key a0)] [.agg (cs_Key o)] := by
  refine callOK_of_AW Tryz.func64 rfl (by kernel_rfl) (Nat.le_of_ble_eq_true (by kernel_rfl)) ?_
  intro w0
  unfold laws_toKey at h
  refine AW.seq (AW.rA ⟨[(1, (vp 1 0)), (2, (vp 2 0))], [(1, (.box [(.c (.int .i64 a0.At)), (.c (.flt .f32 a0.Turn.W.bits)), (.c (.flt .f32 a0.Turn.X.bits)), (.c (.flt .f32 a0.Turn.Y.bits)), (.c (.flt .f32 a0.Turn.Z.bits))])), (2, (.box [(.c (.int .i64 (0 : Int))), (.c (.flt .f32 (default : F32).bits)), (.c (.flt .f32 (default : F32).bits)), (.c (.flt .f32 (default : F32).bits)), (.c (.flt .f32 (default : F32).bits))]))]⟩ (T2 Tt) [.box 1, .box 2] [1, 2] [1, 2] ⟨tr, tr, tr⟩ (thenQ_normal ?_))
  refine AW.seq (AW.rA ⟨[(1, (vp 1 0)), (2, (vp 2 0)), (3, (vp 3 0))], [(1, (.box [(.c (.int .i64 a0.At)), (.c (.flt .f32 a0.Turn.W.bits)), (.c (.flt .f32 a0.Turn.X.bits)), (.c (.flt .f32 a0.Turn.Y.bits)), (.c (.flt .f32 a0.Turn.Z.bits))])), (2, (.box [(.c (.int .i64 (0 : Int))), (.c (.flt .f32 (default : F32).bits)), (.c (.flt .f32 (default : F32).bits)), (.c (.flt .f32 (default : F32).bits)), (.c (.flt .f32 (default : F32).bits))])), (3, (.box [(.c (.int .i64 (0 : Int))), (.c (.flt .f32 (default : F32).bits)), (.c (.flt .f32 (default : F32).bits)), (.c (.flt .f32 (default : F32).bits)), (.c (.flt .f32 (default : F32).bits))]))]⟩ (Tt ∧ Tt) [.box 3] [1, 2, 3] [1, 2, 3] ⟨tr, tr⟩ (thenQ_normal ?_))
  refine AW.seq (AW.rA ⟨[(1, (vp 1 0)), (2, (vp 2 0)), (3, (vp 3 0))], [(1, (.box [(.c (.int .i64 a0.At)), (.c (.flt .f32 a0.Turn.W.bits)), (.c (.flt .f32 a0.Turn.X.bits)), (.c (.flt .f32 a0.Turn.Y.bits)), (.c (.flt .f32 a0.Turn.Z.bits))])), (2, (.box [(.c (.int .i64 (0 : Int))), (.c (.flt .f32 (default : F32).bits)), (.c (.flt .f32 (default : F32).bits)), (.c (.flt .f32 (default : F32).bits)), (.c (.flt .f32 (default : F32).bits))])), (3, (.box [(.c (.int .i64 a0.At)), (.c (.flt .f32 (default : F32).bits)), (.c (.flt .f32 (default : F32).bits)), (.c (.flt .f32 (default : F32).bits)), (.c (.flt .f32 (default : F32).bits))]))]⟩ (T4 Tt) [] [1, 2, 3] [1, 2, 3] ⟨tr, tr, tr, tr, tr⟩ (thenQ_normal ?_))
  refine AW.seq ?_
  obtain ⟨v1, e2, h⟩ := bind_some h
  refine AW.rA ⟨[(2, (vp 2 0)), (3, (vp 3 0))], [(2, (.box [(.c (.int .i64 (0 : Int))), (.c (.flt .f32 (default : F32).bits)), (.c (.flt .f32 (default : F32).bits)), (.c (.flt .f32 (default : F32).bits)), (.c (.flt .f32 (default : F32).bits))])), (3, (.box [(.c (.int .i64 a0.At)), (.c (.flt .f32 v1.W.bits)), (.c (.flt .f32 v1.X.bits)), (.c (.flt .f32 v1.Y.bits)), (.c (.flt .f32 v1.Z.bits))]))]⟩ (T2 (((((Eqc (.flt .f32 a0.Turn.W.bits)) ∧ (Eqc (.flt .f32 a0.Turn.X.bits)) ∧ (Eqc (.flt .f32 a0.Turn.Y.bits)) ∧ (Eqc (.flt .f32 a0.Turn.Z.bits)) ∧ Tt) ∧ Tt) ∧ CallOK Tryz.prog 88 [.agg (cs_Turn a0.Turn)] [.agg (cs_Turn v1)]) ∧ T2 Tt)) [.no, .no, .call [.agg (cs_Turn a0.Turn)] [.agg (cs_Turn v1)] [[.view, .view, .view, .view]]] [2, 3] [2, 3] ⟨tr, tr, ⟨⟨⟨rfl, rfl, rfl, rfl, tr⟩, tr⟩, ok_laws_toTurn K a0.Turn v1 e2⟩, tr, tr, tr⟩ ?_
  refine thenQ_normal ?_
  refine AW.seq (AW.rA ⟨[(2, (vp 2 0))], [(2, (.box [(.c (.int .i64 a0.At)), (.c (.flt .f32 v1.W.bits)), (.c (.flt .f32 v1.X.bits)), (.c (.flt .f32 v1.Y.bits)), (.c (.flt .f32 v1.Z.bits))]))]⟩ (T2 Tt) [] [2] [2] ⟨tr, tr, tr⟩ (thenQ_normal ?_))
  refine AW.ret ?_
  replace h := some_eq h
  subst h
  exact ⟨.inr rfl, retOK_of [(.agg [(.c (.int .i64 a0.At)), (.c (.flt .f32 v1.W.bits)), (.c (.flt .f32 v1.X.bits)), (.c (.flt .f32 v1.Y.bits)), (.c (.flt .f32 v1.Z.bits))])] (by kernel_rfl) ⟨⟨⟨rfl, tr⟩, ⟨rfl, tr⟩, ⟨rfl, tr⟩, ⟨rfl, tr⟩, ⟨rfl, tr⟩, tr⟩, tr⟩ (of_decide_eq_true (by kernel_rfl))⟩

/-! laws.toKeyS -/
def laws_toKeyS_l1 (K : Nat) (a0 : (List Key)) : Nat → Int → (List Key) → Option ((List Key))
  | 0, _, _ => none
  | k + 1, x4, x5 => ite2 ((decide (x4 < (a0.length : Int)))) (chk (0 ≤ x4 ∧ x4 < (a0.length : Int)) ((laws_toKey K (a0.getD x4.toNat default)).bind fun v8 => chk (0 ≤ x4 ∧ x4 < (x5.length : Int)) (laws_toKeyS_l1 K a0 k (IntKind.i64.wrap (x4 + (1 : Int))) (x5.set x4.toNat v8)))) (some x5)

def laws_toKeyS (K : Nat) (a0 : (List Key)) : Option ((List Key)) :=
  chk (0 ≤ (a0.length : Int) ∧ (a0.length : Int).toNat * 24 ≤ 140737488355328) (laws_toKeyS_l1 K a0 K (0 : Int) (List.replicate (a0.length : Int).toNat (default : Key)))

theorem ok_laws_toKeyS (K : Nat) (a0 : (List Key)) (o : ((List Key))) (h : laws_toKeyS K a0 = some o) : CallOK Tryz.prog 43 [.one (sl 5 cs_Key a0)] [.one (sl 5 cs_Key o)] := by
  refine callOK_of_AW Tryz.func43 rfl (by kernel_rfl) (Nat.le_of_ble_eq_true (by kernel_rfl)) ?_
  intro w0
  unfold laws_toKeyS at h
  refine AW.seq (AW.rA ⟨[(0, (vc (sl 5 cs_Key a0)))], []⟩ (Tt ∧ Tt) [] [0] [] ⟨tr, tr⟩ (thenQ_normal ?_))
  refine AW.seq ?_
  obtain ⟨c1, h⟩ := chk_some h
  refine AW.rA ⟨[(0, (vc (sl 5 cs_Key a0))), (3, (.v (.one (.arr 1))))], [(1, (.arr false (List.replicate (a0.length : Int).toNat (default : Key)).length 5 (gl cs_Key (List.replicate (a0.length : Int).toNat (default : Key)))))]⟩ (T2 ((0 ≤ (a0.length : Int) ∧ (a0.length : Int) = (a0.length : Int) ∧ (((List.replicate (a0.length : Int).toNat (default : Key)).length : Nat) : Int) = (a0.length : Int) ∧ (List.replicate (a0.length : Int).toNat (default : Key)).length * 24 ≤ 140737488355328 ∧ ∀ i, i < (List.replicate (a0.length : Int).toNat (default : Key)).length → zeroRow (fun _ => none) [(.c (.int .i64 (0 : Int))), (.c (.flt .f32 (default : F32).bits)), (.c (.flt .f32 (default : F32).bits)), (.c (.flt .f32 (default : F32).bits)), (.c (.flt .f32 (default : F32).bits))] (gl cs_Key (List.replicate (a0.length : Int).toNat (default : Key)) i)) ∧ Tt ∧ Tt)) [.no, .no, .objA 1 (List.replicate (a0.length : Int).toNat (default : Key)).length (gl cs_Key (List.replicate (a0.length : Int).toNat (default : Key)))] [0, 3] [1] ⟨tr, tr, ⟨c1.1, rfl, len_rep c1.1, rep_bytes c1.2, fun i hi => gl_zero (cs := cs_Key) (zs := [(.c (.int .i64 (0 : Int))), (.c (.flt .f32 (default : F32).bits)), (.c (.flt .f32 (default : F32).bits)), (.c (.flt .f32 (default : F32).bits)), (.c (.flt .f32 (default : F32).bits))]) (n := (a0.length : Int).toNat) ⟨⟨rfl, tr⟩, ⟨rfl, tr⟩, ⟨rfl, tr⟩, ⟨rfl, tr⟩, ⟨rfl, tr⟩, tr⟩ i (rep_lt hi)⟩, tr, tr⟩ ?_
  refine thenQ_normal ?_
  refine AW.seq ?_
  refine AW.seq (AW.rA ⟨[(0, (vc (sl 5 cs_Key a0))), (3, (.v (.one (.arr 1)))), (4, (vc (.int .i64 (0 : Int))))], [(1, (.arr false (List.replicate (a0.length : Int).toNat (default : Key)).length 5 (gl cs_Key (List.replicate (a0.length : Int).toNat (default : Key)))))]⟩ (Tt ∧ Tt) [] [0, 3, 4] [1] ⟨tr, tr⟩ (thenQ_normal ?_))
  refine AW.block ?_
  refine AW.loopQ (σ := Nat × Int × (List Key)) (fun p => ⟨[(0, (vc (sl 5 cs_Key a0))), (3, (.v (.one (.arr 1)))), (4, (vc (.int .i64 p.2.1)))], [(1, (.arr false p.2.2.length 5 (gl cs_Key p.2.2)))]⟩) (fun p => laws_toKeyS_l1 K a0 p.1 p.2.1 p.2.2 = some o) (fun p => p.1) (K, (0 : Int), (List.replicate (a0.length : Int).toNat (default : Key))) h ?_
  clear h
  rintro ⟨k, x4, x5⟩ h
  replace h : laws_toKeyS_l1 K a0 k x4 x5 = some o := h
  show AW _ _ (⟨[(0, (vc (sl 5 cs_Key a0))), (3, (.v (.one (.arr 1)))), (4, (vc (.int .i64 x4)))], [(1, (.arr false x5.length 5 (gl cs_Key x5)))]⟩ : St) _
  obtain _ | k := k
  · rw [laws_toKeyS_l1] at h; cases h
  rw [laws_toKeyS_l1] at h
  refine AW.seq ?_
  refine AW.seq (AW.rA ⟨[(0, (vc (sl 5 cs_Key a0))), (3, (.v (.one (.arr 1)))), (4, (vc (.int .i64 x4))), (11, (vc (.bool (decide (x4 < (a0.length : Int))))))], [(1, (.arr false x5.length 5 (gl cs_Key x5)))]⟩ (T4 Tt) [] [0, 3, 4, 11] [1] ⟨tr, tr, tr, tr, tr⟩ (thenQ_normal ?_))
  rcases ite2_cases h with ⟨b6, h⟩ | ⟨b6, h⟩
  · refine AW.cond_t rfl b6 ?_
    refine AW.skip ?_
    refine thenQ_normal ?_
    refine AW.seq ?_
    refine AW.block ?_
    obtain ⟨c7, h⟩ := chk_some h
    obtain ⟨v8, e9, h⟩ := bind_some h
    obtain ⟨c10, h⟩ := chk_some h
    refine AW.rA ⟨[(0, (vc (sl 5 cs_Key a0))), (3, (.v (.one (.arr 1)))), (4, (vc (.int .i64 x4)))], [(1, (.arr false (x5.set x4.toNat v8).length 5 (gl cs_Key (x5.set x4.toNat v8))))]⟩ (T4 ((0 ≤ x4 ∧ x4 < (a0.length : Int)) ∧ Tt ∧ ((((Eqc (.int .i64 ((a0.getD x4.toNat default).At))) ∧ (Eqc (.flt .f32 (((a0.getD x4.toNat default).Turn).W).bits)) ∧ (Eqc (.flt .f32 (((a0.getD x4.toNat default).Turn).X).bits)) ∧ (Eqc (.flt .f32 (((a0.getD x4.toNat default).Turn).Y).bits)) ∧ (Eqc (.flt .f32 (((a0.getD x4.toNat default).Turn).Z).bits)) ∧ Tt) ∧ Tt) ∧ CallOK Tryz.prog 64 [.agg (cs_Key (a0.getD x4.toNat default))] [.agg (cs_Key v8)]) ∧ (0 ≤ x4 ∧ x4 < (x5.length : Int)) ∧ ((x5.set x4.toNat v8).length = x5.length ∧ SetOb x5.length 5 x4.toNat 0 5 (gl cs_Key x5) (gl cs_Key (x5.set x4.toNat v8)) ∧ ((List.range 5).map fun j => (cs_Key v8).getD (0 + j) .nilptr) = ((List.range 5).map fun j => gl cs_Key (x5.set x4.toNat v8) x4.toNat (0 + j)) ∧ ((((.int .i64 v8.At) : C) = (.int .i64 v8.At) ∧ Tt) ∧ (((.flt .f32 v8.Turn.W.bits) : C) = (.flt .f32 v8.Turn.W.bits) ∧ Tt) ∧ (((.flt .f32 v8.Turn.X.bits) : C) = (.flt .f32 v8.Turn.X.bits) ∧ Tt) ∧ (((.flt .f32 v8.Turn.Y.bits) : C) = (.flt .f32 v8.Turn.Y.bits) ∧ Tt) ∧ (((.flt .f32 v8.Turn.Z.bits) : C) = (.flt .f32 v8.Turn.Z.bits) ∧ Tt) ∧ Tt) ∧ (false = true → ∀ j, j < 5 → isSeq (gl cs_Key x5 x4.toNat (0 + j)) = false ∧ isSeq (gl cs_Key (x5.set x4.toNat v8) x4.toNat (0 + j)) = false)) ∧ Tt)) [.no, .no, .no, .no, .no, .no, .call [.agg (cs_Key (a0.getD x4.toNat default))] [.agg (cs_Key v8)] [[.view, .view, .view, .view, .view]], .no, .set (x5.set x4.toNat v8).length (gl cs_Key (x5.set x4.toNat v8)) ((List.range 5).map fun j => (cs_Key v8).getD (0 + j) .nilptr)] [0, 3, 4] [1] ⟨tr, tr, tr, tr, c7, tr, ⟨⟨⟨rfl, rfl, rfl, rfl, rfl, tr⟩, tr⟩, ok_laws_toKey K (a0.getD x4.toNat default) v8 e9⟩, c10, ⟨List.length_set, gl_set, (gl_atp (lt_of_bound c10)).symm, ⟨⟨rfl, tr⟩, ⟨rfl, tr⟩, ⟨rfl, tr⟩, ⟨rfl, tr⟩, ⟨rfl, tr⟩, tr⟩, (fun h => nomatch h)⟩, tr⟩ ?_
    refine blockQ_normal ?_
    refine thenQ_normal ?_
    refine AW.rA ⟨[(0, (vc (sl 5 cs_Key a0))), (3, (.v (.one (.arr 1)))), (4, (vc (.int .i64 (IntKind.i64.wrap (x4 + (1 : Int))))))], [(1, (.arr false (x5.set x4.toNat v8).length 5 (gl cs_Key (x5.set x4.toNat v8))))]⟩ (Tt ∧ T2 Tt) [] [0, 3, 4] [1] ⟨tr, tr, tr, tr⟩ ?_
    exact loopQ_normal (k, (IntKind.i64.wrap (x4 + (1 : Int))), (x5.set x4.toNat v8)) h (Nat.lt_succ_self k) (Sub.keep [0, 3, 4] [1] (by kernel_rfl) (by kernel_rfl))
  · refine AW.cond_f rfl b6 ?_
    refine AW.exit ?_
    refine thenQ_exit ?_
    refine loopQ_exit ?_
    refine blockQ_exit ?_
    refine thenQ_normal ?_
    refine AW.seq (AW.rA ⟨[(2, (.v (.one (.arr 1))))], [(1, (.arr false x5.length 5 (gl cs_Key x5)))]⟩ (T2 Tt) [] [2] [1] ⟨tr, tr, tr⟩ (thenQ_normal ?_))
    refine AW.ret ?_
    replace h := some_eq h
    subst h
    exact ⟨.inr rfl, retOK_of [(.one (.arr 1))] (by kernel_rfl) ⟨rfl, tr⟩ (of_decide_eq_true (by kernel_rfl))⟩

/-! laws.toKeySS -/
def laws_toKeySS_l1 (K : Nat) (a0 : (List (List Key))) : Nat → Int → (List (List Key)) → Option ((List (List Key)))
  | 0, _, _ => none
  | k + 1, x4, x5 => ite2 ((decide (x4 < (a0.length : Int)))) (chk (0 ≤ x4 ∧ x4 < (a0.length : Int)) ((laws_toKeyS K (a0.getD x4.toNat default)).bind fun v8 => chk (0 ≤ x4 ∧ x4 < (x5.length : Int)) (laws_toKeySS_l1 K a0 k (IntKind.i64.wrap (x4 + (1 : Int))) (x5.set x4.toNat v8)))) (some x5)

def laws_toKeySS (K : Nat) (a0 : (List (List Key))) : Option ((List (List Key))) :=
  chk (0 ≤ (a0.length : Int) ∧ (a0.length : Int).toNat * 24 ≤ 140737488355328) (laws_toKeySS_l1 K a0 K (0 : Int) (List.replicate (a0.length : Int).toNat (default : (List Key))))

theorem ok_laws_toKeySS (K : Nat) (a0 : (List (List Key))) (o : ((List (List Key)))) (h : laws_toKeySS K a0 = some o) : CallOK Tryz.prog 17 [.one (sl 1 (csL 5 cs_Key) a0)] [.one (sl 1 (csL 5 cs_Key) o)] := by
  refine callOK_of_AW Tryz.func17 rfl (by kernel_rfl) (Nat.le_of_ble_eq_true (by kernel_rfl)) ?_
  intro w0
  unfold laws_toKeySS at h
  refine AW.seq (AW.rA ⟨[(0, (vc (sl 1 (csL 5 cs_Key) a0)))], []⟩ (Tt ∧ Tt) [] [0] [] ⟨tr, tr⟩ (thenQ_normal ?_))
  refine AW.seq ?_
  obtain ⟨c1, h⟩ := chk_some h
  refine AW.rA ⟨[(0, (vc (sl 1 (csL 5 cs_Key) a0))), (3, (.v (.one (.arr 1))))], [(1, (.arr false (List.replicate (a0.length : Int).toNat (default : (List Key))).length 1 (gl (csL 5 cs_Key) (List.replicate (a0.length : Int).toNat (default : (List Key))))))]⟩ (T2 ((0 ≤ (a0.length : Int) ∧ (a0.length : Int) = (a0.length : Int) ∧ (((List.replicate (a0.length : Int).toNat (default : (List Key))).length : Nat) : Int) = (a0.length : Int) ∧ (List.replicate (a0.length : Int).toNat (default : (List Key))).length * 24 ≤ 140737488355328 ∧ ∀ i, i < (List.replicate (a0.length : Int).toNat (default : (List Key))).length → zeroRow (fun _ => none) [.nils] (gl (csL 5 cs_Key) (List.replicate (a0.length : Int).toNat (default : (List Key))) i)) ∧ Tt ∧ Tt)) [.no, .no, .objA 1 (List.replicate (a0.length : Int).toNat (default : (List Key))).length (gl (csL 5 cs_Key) (List.replicate (a0.length : Int).toNat (default : (List Key))))] [0, 3] [1] ⟨tr, tr, ⟨c1.1, rfl, len_rep c1.1, rep_bytes c1.2, fun i hi => gl_zero (cs := (csL 5 cs_Key)) (zs := [.nils]) (n := (a0.length : Int).toNat) ⟨rfl, tr⟩ i (rep_lt hi)⟩, tr, tr⟩ ?_
  refine thenQ_normal ?_
  refine AW.seq ?_
  refine AW.seq (AW.rA ⟨[(0, (vc (sl 1 (csL 5 cs_Key) a0))), (3, (.v (.one (.arr 1)))), (4, (vc (.int .i64 (0 : Int))))], [(1, (.arr false (List.replicate (a0.length : Int).toNat (default : (List Key))).length 1 (gl (csL 5 cs_Key) (List.replicate (a0.length : Int).toNat (default : (List Key))))))]⟩ (Tt ∧ Tt) [] [0, 3, 4] [1] ⟨tr, tr⟩ (thenQ_normal ?_))
  refine AW.block ?_
  refine AW.loopQ (σ := Nat × Int × (List (List Key))) (fun p => ⟨[(0, (vc (sl 1 (csL 5 cs_Key) a0))), (3, (.v (.one (.arr 1)))), (4, (vc (.int .i64 p.2.1)))], [(1, (.arr false p.2.2.length 1 (gl (csL 5 cs_Key) p.2.2)))]⟩) (fun p => laws_toKeySS_l1 K a0 p.1 p.2.1 p.2.2 = some o) (fun p => p.1) (K, (0 : Int), (List.replicate (a0.length : Int).toNat (default : (List Key)))) h ?_
  clear h
  rintro ⟨k, x4, x5⟩ h
  replace h : laws_toKeySS_l1 K a0 k x4 x5 = some o := h
  show AW _ _ (⟨[(0, (vc (sl 1 (csL 5 cs_Key) a0))), (3, (.v (.one (.arr 1)))), (4, (vc (.int .i64 x4)))], [(1, (.arr false x5.length 1 (gl (csL 5 cs_Key) x5)))]⟩ : St) _
  obtain _ | k := k
  · rw [laws_toKeySS_l1] at h; cases h
  rw [laws_toKeySS_l1] at h
  refine AW.seq ?_
  refine AW.seq (AW.rA ⟨[(0, (vc (sl 1 (csL 5 cs_Key) a0))), (3, (.v (.one (.arr 1)))), (4, (vc (.int .i64 x4))), (11, (vc (.bool (decide (x4 < (a0.length : Int))))))], [(1, (.arr false x5.length 1 (gl (csL 5 cs_Key) x5)))]⟩ (T4 Tt) [] [0, 3, 4, 11] [1] ⟨tr, tr, tr, tr, tr⟩ (thenQ_normal ?_))
  rcases ite2_cases h with ⟨b6, h⟩ | ⟨b6, h⟩
  · refine AW.cond_t rfl b6 ?_
    refine AW.skip ?_
    refine thenQ_normal ?_
    refine AW.seq ?_
    refine AW.block ?_
    obtain ⟨c7, h⟩ := chk_some h
    obtain ⟨v8, e9, h⟩ := bind_some h
    obtain ⟨c10, h⟩ := chk_some h
    refine AW.rA ⟨[(0, (vc (sl 1 (csL 5 cs_Key) a0))), (3, (.v (.one (.arr 1)))), (4, (vc (.int .i64 x4)))], [(1, (.arr false (x5.set x4.toNat v8).length 1 (gl (csL 5 cs_Key) (x5.set x4.toNat v8))))]⟩ (T4 ((0 ≤ x4 ∧ x4 < (a0.length : Int)) ∧ Tt ∧ (((Eqc (sl 5 cs_Key (a0.getD x4.toNat default))) ∧ Tt) ∧ CallOK Tryz.prog 43 [.one (sl 5 cs_Key (a0.getD x4.toNat default))] [.one (sl 5 cs_Key v8)]) ∧ (0 ≤ x4 ∧ x4 < (x5.length : Int)) ∧ ((x5.set x4.toNat v8).length = x5.length ∧ SetOb x5.length 1 x4.toNat 0 1 (gl (csL 5 cs_Key) x5) (gl (csL 5 cs_Key) (x5.set x4.toNat v8)) ∧ ((List.range 1).map fun j => ((csL 5 cs_Key) v8).getD (0 + j) .nilptr) = ((List.range 1).map fun j => gl (csL 5 cs_Key) (x5.set x4.toNat v8) x4.toNat (0 + j)) ∧ ((Eqc (sl 5 cs_Key v8)) ∧ Tt) ∧ (false = true → ∀ j, j < 1 → isSeq (gl (csL 5 cs_Key) x5 x4.toNat (0 + j)) = false ∧ isSeq (gl (csL 5 cs_Key) (x5.set x4.toNat v8) x4.toNat (0 + j)) = false)) ∧ Tt)) [.no, .no, .no, .no, .no, .no, .call [.one (sl 5 cs_Key (a0.getD x4.toNat default))] [.one (sl 5 cs_Key v8)] [[.lst 4]], .no, .set (x5.set x4.toNat v8).length (gl (csL 5 cs_Key) (x5.set x4.toNat v8)) ((List.range 1).map fun j => ((csL 5 cs_Key) v8).getD (0 + j) .nilptr)] [0, 3, 4] [1] ⟨tr, tr, tr, tr, c7, tr, ⟨⟨rfl, tr⟩, ok_laws_toKeyS K (a0.getD x4.toNat default) v8 e9⟩, c10, ⟨List.length_set, gl_set, (gl_atp (lt_of_bound c10)).symm, ⟨rfl, tr⟩, (fun h => nomatch h)⟩, tr⟩ ?_
    refine blockQ_normal ?_
    refine thenQ_normal ?_
    refine AW.rA ⟨[(0, (vc (sl 1 (csL 5 cs_Key) a0))), (3, (.v (.one (.arr 1)))), (4, (vc (.int .i64 (IntKind.i64.wrap (x4 + (1 : Int))))))], [(1, (.arr false (x5.set x4.toNat v8).length 1 (gl (csL 5 cs_Key) (x5.set x4.toNat v8))))]⟩ (Tt ∧ T2 Tt) [] [0, 3, 4] [1] ⟨tr, tr, tr, tr⟩ ?_
    exact loopQ_normal (k, (IntKind.i64.wrap (x4 + (1 : Int))), (x5.set x4.toNat v8)) h (Nat.lt_succ_self k) (Sub.keep [0, 3, 4] [1] (by kernel_rfl) (by kernel_rfl))
  · refine AW.cond_f rfl b6 ?_
    refine AW.exit ?_
    refine thenQ_exit ?_
    refine loopQ_exit ?_
    refine blockQ_exit ?_
    refine thenQ_normal ?_
    refine AW.seq (AW.rA ⟨[(2, (.v (.one (.arr 1))))], [(1, (.arr false x5.length 1 (gl (csL 5 cs_Key) x5)))]⟩ (T2 Tt) [] [2] [1] ⟨tr, tr, tr⟩ (thenQ_normal ?_))
    refine AW.ret ?_
    replace h := some_eq h
    subst h
    exact ⟨.inr rfl, retOK_of [(.one (.arr 1))] (by kernel_rfl) ⟨rfl, tr⟩ (of_decide_eq_true (by kernel_rfl))⟩

/-! laws.toVector -/
def laws_toVector (_K : Nat) (a0 : Vector) : Option (Vector) :=
  some a0

theorem ok_laws_toVector (K : Nat) (a0 : Vector) (o : (Vector)) (h : laws_toVector K a0 = some o) : CallOK Tryz.prog 65 [.agg (cs_Vector a0)] [.agg (cs_Vector o)] := by
  refine callOK_of_AW Tryz.func65 rfl (by kernel_rfl) (Nat.le_of_ble_eq_true (by kernel_rfl)) ?_
  intro w0
  unfold laws_toVector at h
  refine AW.seq (AW.rA ⟨[(1, (vp 1 0)), (2, (vp 2 0))], [(1, (.box [(.c (.flt .f32 a0.X.bits)), (.c (.flt .f32 a0.Y.bits)), (.c (.flt .f32 a0.Z.bits))])), (2, (.box [(.c (.flt .f32 (default : F32).bits)), (.c (.flt .f32 (default : F32).bits)), (.c (.flt .f32 (default : F32).bits))]))]⟩ (T2 Tt) [.box 1, .box 2] [1, 2] [1, 2] ⟨tr, tr, tr⟩ (thenQ_normal ?_))
  refine AW.seq (AW.rA ⟨[(1, (vp 1 0)), (2, (vp 2 0)), (3, (vp 3 0))], [(1, (.box [(.c (.flt .f32 a0.X.bits)), (.c (.flt .f32 a0.Y.bits)), (.c (.flt .f32 a0.Z.bits))])), (2, (.box [(.c (.flt .f32 (default : F32).bits)), (.c (.flt .f32 (default : F32).bits)), (.c (.flt .f32 (default : F32).bits))])), (3, (.box [(.c (.flt .f32 (default : F32).bits)), (.c (.flt .f32 (default : F32).bits)), (.c (.flt .f32 (default : F32).bits))]))]⟩ (Tt ∧ Tt) [.box 3] [1, 2, 3] [1, 2, 3] ⟨tr, tr⟩ (thenQ_normal ?_))
  refine AW.seq (AW.rA ⟨[(1, (vp 1 0)), (2, (vp 2 0)), (3, (vp 3 0))], [(1, (.box [(.c (.flt .f32 a0.X.bits)), (.c (.flt .f32 a0.Y.bits)), (.c (.flt .f32 a0.Z.bits))])), (2, (.box [(.c (.flt .f32 (default : F32).bits)), (.c (.flt .f32 (default : F32).bits)), (.c (.flt .f32 (default : F32).bits))])), (3, (.box [(.c (.flt .f32 a0.X.bits)), (.c (.flt .f32 (default : F32).bits)), (.c (.flt .f32 (default : F32).bits))]))]⟩ (T4 Tt) [] [1, 2, 3] [1, 2, 3] ⟨tr, tr, tr, tr, tr⟩ (thenQ_normal ?_))
  refine AW.seq (AW.rA ⟨[(1, (vp 1 0)), (2, (vp 2 0)), (3, (vp 3 0))], [(1, (.box [(.c (.flt .f32 a0.X.bits)), (.c (.flt .f32 a0.Y.bits)), (.c (.flt .f32 a0.Z.bits))])), (2, (.box [(.c (.flt .f32 (default : F32).bits)), (.c (.flt .f32 (default : F32).bits)), (.c (.flt .f32 (default : F32).bits))])), (3, (.box [(.c (.flt .f32 a0.X.bits)), (.c (.flt .f32 a0.Y.bits)), (.c (.flt .f32 (default : F32).bits))]))]⟩ (T4 Tt) [] [1, 2, 3] [1, 2, 3] ⟨tr, tr, tr, tr, tr⟩ (thenQ_normal ?_))
  refine AW.seq (AW.rA ⟨[(2, (vp 2 0)), (3, (vp 3 0))], [(2, (.box [(.c (.flt .f32 (default : F32).bits)), (.c (.flt .f32 (default : F32).bits)), (.c (.flt .f32 (default : F32).bits))])), (3, (.box [(.c (.flt .f32 a0.X.bits)), (.c (.flt .f32 a0.Y.bits)), (.c (.flt .f32 a0.Z.bits))]))]⟩ (T4 Tt) [] [2, 3] [2, 3] ⟨tr, tr, tr, tr, tr⟩ (thenQ_normal ?_))
  refine AW.seq (AW.rA ⟨[(2, (vp 2 0))], [(2, (.box [(.c (.flt .f32 a0.X.bits)), (.c (.flt .f32 a0.Y.bits)), (.c (.flt .f32 a0.Z.bits))]))]⟩ (T2 Tt) [] [2] [2] ⟨tr, tr, tr⟩ (thenQ_normal ?_))
  refine AW.ret ?_
  replace h := some_eq h
  subst h
  exact ⟨.inr rfl, retOK_of [(.agg [(.c (.flt .f32 a0.X.bits)), (.c (.flt .f32 a0.Y.bits)), (.c (.flt .f32 a0.Z.bits))])] (by kernel_rfl) ⟨⟨⟨rfl, tr⟩, ⟨rfl, tr⟩, ⟨rfl, tr⟩, tr⟩, tr⟩ (of_decide_eq_true (by kernel_rfl))⟩

/-! laws.toRootKey -/
def laws_toRootKey (K : Nat) (a0 : RootKey) : Option (RootKey) :=
  (laws_toVector K a0.Place).bind fun v1 => some (RootKey.mk a0.At v1)

theorem ok_laws_toRootKey (K : Nat) (a0 : RootKey) (o : (RootKey)) (h : laws_toRootKey K a0 = some o) : CallOK Tryz.prog 44 [.agg (cs_RootKey a0)] [.agg (cs_RootKey o)] := by
  refine callOK_of_AW Tryz.func44 rfl (by kernel_rfl) (Nat.le_of_ble_eq_true (by kernel_rfl)) ?_
  intro w0
  unfold laws_toRootKey at h
  refine AW.seq (AW.rA ⟨[(1, (vp 1 0)), (2, (vp 2 0))], [(1, (.box [(.c (.int .i64 a0.At)), (.c (.flt .f32 a0.Place.X.bits)), (.c (.flt .f32 a0.Place.Y.bits)), (.c (.flt .f32 a0.Place.Z.bits))])), (2, (.box [(.c (.int .i64 (0 : Int))), (.c (.flt .f32 (default : F32).bits)), (.c (.flt .f32 (default : F32).bits)), (.c (.flt .f32 (default : F32).bits))]))]⟩ (T2 Tt) [.box 1, .box 2] [1, 2] [1, 2] ⟨tr, tr, tr⟩ (thenQ_normal ?_))
  refine AW.seq (AW.rA ⟨[(1, (vp 1 0)), (2, (vp 2 0)), (3, (vp 3 0))], [(1, (.box [(.c (.int .i64 a0.At)), (.c (.flt .f32 a0.Place.X.bits)), (.c (.flt .f32 a0.Place.Y.bits)), (.c (.flt .f32 a0.Place.Z.bits))])), (2, (.box [(.c (.int .i64 (0 : Int))), (.c (.flt .f32 (default : F32).bits)), (.c (.flt .f32 (default : F32).bits)), (.c (.flt .f32 (default : F32).bits))])), (3, (.box [(.c (.int .i64 (0 : Int))), (.c (.flt .f32 (default : F32).bits)), (.c (.flt .f32 (default : F32).bits)), (.c (.flt .f32 (default : F32).bits))]))]⟩ (Tt ∧ Tt) [.box 3] [1, 2, 3] [1, 2, 3] ⟨tr, tr⟩ (thenQ_normal ?_))
  refine AW.seq (AW.rA ⟨[(1, (vp 1 0)), (2, (vp 2 0)), (3, (vp 3 0))], [(1, (.box [(.c (.int .i64 a0.At)), (.c (.flt .f32 a0.Place.X.bits)), (.c (.flt .f32 a0.Place.Y.bits)), (.c (.flt .f32 a0.Place.Z.bits))])), (2, (.box [(.c (.int .i64 (0 : Int))), (.c (.flt .f32 (default : F32).bits)), (.c (.flt .f32 (default : F32).bits)), (.c (.flt .f32 (default : F32).bits))])), (3, (.box [(.c (.int .i64 a0.At)), (.c (.flt .f32 (default : F32).bits)), (.c (.flt .f32 (default : F32).bits)), (.c (.flt .f32 (default : F32).bits))]))]⟩ (T4 Tt) [] [1, 2, 3] [1, 2, 3] ⟨tr, tr, tr, tr, tr⟩ (thenQ_normal ?_))
  refine AW.seq ?_
  obtain ⟨v1, e2, h⟩ := bind_some h
  refine AW.rA ⟨[(2, (vp 2 0)), (3, (vp 3 0))], [(2, (.box [(.c (.int .i64 (0 : Int))), (.c (.flt .f32 (default : F32).bits)), (.c (.flt .f32 (default : F32).bits)), (.c (.flt .f32 (default : F32).bits))])), (3, (.box [(.c (.int .i64 a0.At)), (.c (.flt .f32 v1.X.bits)), (.c (.flt .f32 v1.Y.bits)), (.c (.flt .f32 v1.Z.bits))]))]⟩ (T2 (((((Eqc (.flt .f32 a0.Place.X.bits)) ∧ (Eqc (.flt .f32 a0.Place.Y.bits)) ∧ (Eqc (.flt .f32 a0.Place.Z.bits)) ∧ Tt) ∧ Tt) ∧ CallOK Tryz.prog 65 [.agg (cs_Vector a0.Place)] [.agg (cs_Vector v1)]) ∧ T2 Tt)) [.no, .no, .call [.agg (cs_Vector a0.Place)] [.agg (cs_Vector v1)] [[.view, .view, .view]]] [2, 3] [2, 3] ⟨tr, tr, ⟨⟨⟨rfl, rfl, rfl, tr⟩, tr⟩, ok_laws_toVector K a0.Place v1 e2⟩, tr, tr, tr⟩ ?_
  refine thenQ_normal ?_
  refine AW.seq (AW.rA ⟨[(2, (vp 2 0))], [(2, (.box [(.c (.int .i64 a0.At)), (.c (.flt .f32 v1.X.bits)), (.c (.flt .f32 v1.Y.bits)), (.c (.flt .f32 v1.Z.bits))]))]⟩ (T2 Tt) [] [2] [2] ⟨tr, tr, tr⟩ (thenQ_normal ?_))
  refine AW.ret ?_
  replace h := some_eq h
  subst h
  exact ⟨.inr rfl, retOK_of [(.agg [(.c (.int .i64 a0.At)), (.c (.flt .f32 v1.X.bits)), (.c (.flt .f32 v1.Y.bits)), (.c (.flt .f32 v1.Z.bits))])] (by kernel_rfl) ⟨⟨⟨rfl, tr⟩, ⟨rfl, tr⟩, ⟨rfl, tr⟩, ⟨rfl, tr⟩, tr⟩, tr⟩ (of_decide_eq_true (by kernel_rfl))⟩

/-! laws.toRootKeyS -/
def laws_toRootKeyS_l1 (K : Nat) (a0 : (List RootKey)) : Nat → Int → (List RootKey) → Option ((List RootKey))
  | 0, _, _ => none
  | k + 1, x4, x5 => ite2 ((decide (x4 < (a0.length : Int)))) (chk (0 ≤ x4 ∧ x4 < (a0.length : Int)) ((laws_toRootKey K (a0.getD x4.toNat default)).bind fun v8 => chk (0 ≤ x4 ∧ x4 < (x5.length : Int)) (laws_toRootKeyS_l1 K a0 k (IntKind.i64.wrap (x4 + (1 : Int))) (x5.set x4.toNat v8)))) (some x5)

def laws_toRootKeyS (K : Nat) (a0 : (List RootKey)) : Option ((List RootKey)) :=
  chk (0 ≤ (a0.length : Int) ∧ (a0.length : Int).toNat * 24 ≤ 140737488355328) (laws_toRootKeyS_l1 K a0 K (0 : Int) (List.replicate (a0.length : Int).toNat (default : RootKey)))

theorem ok_laws_toRootKeyS (K : Nat) (a0 : (List RootKey)) (o : ((List RootKey))) (h : laws_toRootKeyS K a0 = some o) : CallOK Tryz.prog 18 [.one (sl 4 cs_RootKey a0)] [.one (sl 4 cs_RootKey o)] := by
  refine callOK_of_AW Tryz.func18 rfl (by kernel_rfl) (Nat.le_of_ble_eq_true (by kernel_rfl)) ?_
  intro w0
  unfold laws_toRootKeyS at h
  refine AW.seq (AW.rA ⟨[(0, (vc (sl 4 cs_RootKey a0)))], []⟩ (Tt ∧ Tt) [] [0] [] ⟨tr, tr⟩ (thenQ_normal ?_))
  refine AW.seq ?_
  obtain ⟨c1, h⟩ := chk_some h
  refine AW.rA ⟨[(0, (vc (sl 4 cs_RootKey a0))), (3, (.v (.one (.arr 1))))], [(1, (.arr false (List.replicate (a0.length : Int).toNat (default : RootKey)).length 4 (gl cs_RootKey (List.replicate (a0.length : Int).toNat (default : RootKey)))))]⟩ (T2 ((0 ≤ (a0.length : Int) ∧ (a0.length : Int) = (a0.length : Int) ∧ (((List.replicate (a0.length : Int).toNat (default : RootKey)).length : Nat) : Int) = (a0.length : Int) ∧ (List.replicate (a0.length : Int).toNat (default : RootKey)).length * 24 ≤ 140737488355328 ∧ ∀ i, i < (List.replicate (a0.length : Int).toNat (default : RootKey)).length → zeroRow (fun _ => none) [(.c (.int .i64 (0 : Int))), (.c (.flt .f32 (default : F32).bits)), (.c (.flt .f32 (default : F32).bits)), (.c (.flt .f32 (default : F32).bits))] (gl cs_RootKey (List.replicate (a0.length : Int).toNat (default : RootKey)) i)) ∧ Tt ∧ Tt)) [.no, .no, .objA 1 (List.replicate (a0.length : Int).toNat (default : RootKey)).length (gl cs_RootKey (List.replicate (a0.length : Int).toNat (default : RootKey)))] [0, 3] [1] ⟨tr, tr, ⟨c1.1, rfl, len_rep c1.1, rep_bytes c1.2, fun i hi => gl_zero (cs := cs_RootKey) (zs := [(.c (.int .i64 (0 : Int))), (.c (.flt .f32 (default : F32).bits)), (.c (.flt .f32 (default : F32).bits)), (.c (.flt .f32 (default : F32).bits))]) (n := (a0.length : Int).toNat) ⟨⟨rfl, tr⟩, ⟨rfl, tr⟩, ⟨rfl, tr⟩, ⟨rfl, tr⟩, tr⟩ i (rep_lt hi)⟩, tr, tr⟩ ?_
  refine thenQ_normal ?_
  refine AW.seq ?_
  refine AW.seq (AW.rA ⟨[(0, (vc (sl 4 cs_RootKey a0))), (3, (.v (.one (.arr 1)))), (4, (vc (.int .i64 (0 : Int))))], [(1, (.arr false (List.replicate (a0.length : Int).toNat (default : RootKey)).length 4 (gl cs_RootKey (List.replicate (a0.length : Int).toNat (default : RootKey)))))]⟩ (Tt ∧ Tt) [] [0, 3, 4] [1] ⟨tr, tr⟩ (thenQ_normal ?_))
  refine AW.block ?_
  refine AW.loopQ (σ := Nat × Int × (List RootKey)) (fun p => ⟨[(0, (vc (sl 4 cs_RootKey a0))), (3, (.v (.one (.arr 1)))), (4, (vc (.int .i64 p.2.1)))], [(1, (.arr false p.2.2.length 4 (gl cs_RootKey p.2.2)))]⟩) (fun p => laws_toRootKeyS_l1 K a0 p.1 p.2.1 p.2.2 = some o) (fun p => p.1) (K, (0 : Int), (List.replicate (a0.length : Int).toNat (default : RootKey))) h ?_
  clear h
  rintro ⟨k, x4, x5⟩ h
  replace h : laws_toRootKeyS_l1 K a0 k x4 x5 = some o := h
  show AW _ _ (⟨[(0, (vc (sl 4 cs_RootKey a0))), (3, (.v (.one (.arr 1)))), (4, (vc (.int .i64 x4)))], [(1, (.arr false x5.length 4 (gl cs_RootKey x5)))]⟩ : St) _
  obtain _ | k := k
  · rw [laws_toRootKeyS_l1] at h; cases h
  rw [laws_toRootKeyS_l1] at h
  refine AW.seq ?_
  refine AW.seq (AW.rA ⟨[(0, (vc (sl 4 cs_RootKey a0))), (3, (.v (.one (.arr 1)))), (4, (vc (.int .i64 x4))), (11, (vc (.bool (decide (x4 < (a0.length : Int))))))], [(1, (.arr false x5.length 4 (gl cs_RootKey x5)))]⟩ (T4 Tt) [] [0, 3, 4, 11] [1] ⟨tr, tr, tr, tr, tr⟩ (thenQ_normal ?_))
  rcases ite2_cases h with ⟨b6, h⟩ | ⟨b6, h⟩
  · refine AW.cond_t rfl b6 ?_
    refine AW.skip ?_
    refine thenQ_normal ?_
    refine AW.seq ?_
    refine AW.block ?_
    obtain ⟨c7, h⟩ := chk_some h
    obtain ⟨v8, e9, h⟩ := bind_some h
    obtain ⟨c10, h⟩ := chk_some h
    refine AW.rA ⟨[(0, (vc (sl 4 cs_RootKey a0))), (3, (.v (.one (.arr 1)))), (4, (vc (.int .i64 x4)))], [(1, (.arr false (x5.set x4.toNat v8).length 4 (gl cs_RootKey (x5.set x4.toNat v8))))]⟩ (T4 ((0 ≤ x4 ∧ x4 < (a0.length : Int)) ∧ Tt ∧ ((((Eqc (.int .i64 ((a0.getD x4.toNat default).At))) ∧ (Eqc (.flt .f32 (((a0.getD x4.toNat default).Place).X).bits)) ∧ (Eqc (.flt .f32 (((a0.getD x4.toNat default).Place).Y).bits)) ∧ (Eqc (.flt .f32 (((a0.getD x4.toNat default).Place).Z).bits)) ∧ Tt) ∧ Tt) ∧ CallOK Tryz.prog 44 [.agg (cs_RootKey (a0.getD x4.toNat default))] [.agg (cs_RootKey v8)]) ∧ (0 ≤ x4 ∧ x4 < (x5.length : Int)) ∧ ((x5.set x4.toNat v8).length = x5.length ∧ SetOb x5.length 4 x4.toNat 0 4 (gl cs_RootKey x5) (gl cs_RootKey (x5.set x4.toNat v8)) ∧ ((List.range 4).map fun j => (cs_RootKey v8).getD (0 + j) .nilptr) = ((List.range 4).map fun j => gl cs_RootKey (x5.set x4.toNat v8) x4.toNat (0 + j)) ∧ ((((.int .i64 v8.At) : C) = (.int .i64 v8.At) ∧ Tt) ∧ (((.flt .f32 v8.Place.X.bits) : C) = (.flt .f32 v8.Place.X.bits) ∧ Tt) ∧ (((.flt .f32 v8.Place.Y.bits) : C) = (.flt .f32 v8.Place.Y.bits) ∧ Tt) ∧ (((.flt .f32 v8.Place.Z.bits) : C) = (.flt .f32 v8.Place.Z.bits) ∧ Tt) ∧ Tt) ∧ (false = true → ∀ j, j < 4 → isSeq (gl cs_RootKey x5 x4.toNat (0 + j)) = false ∧ isSeq (gl cs_RootKey (x5.set x4.toNat v8) x4.toNat (0 + j)) = false)) ∧ Tt)) [.no, .no, .no, .no, .no, .no, .call [.agg (cs_RootKey (a0.getD x4.toNat default))] [.agg (cs_RootKey v8)] [[.view, .view, .view, .view]], .no, .set (x5.set x4.toNat v8).length (gl cs_RootKey (x5.set x4.toNat v8)) ((List.range 4).map fun j => (cs_RootKey v8).getD (0 + j) .nilptr)] [0, 3, 4] [1] ⟨tr, tr, tr, tr, c7, tr, ⟨⟨⟨rfl, rfl, rfl, rfl, tr⟩, tr⟩, ok_laws_toRootKey K (a0.getD x4.toNat default) v8 e9⟩, c10, ⟨List.length_set, gl_set, (gl_atp (lt_of_bound c10)).symm, ⟨⟨rfl, tr⟩, ⟨rfl, tr⟩, ⟨rfl, tr⟩, ⟨rfl, tr⟩, tr⟩, (fun h => nomatch h)⟩, tr⟩ ?_
    refine blockQ_normal ?_
    refine thenQ_normal ?_
    refine AW.rA ⟨[(0, (vc (sl 4 cs_RootKey a0))), (3, (.v (.one (.arr 1)))), (4, (vc (.int .i64 (IntKind.i64.wrap (x4 + (1 : Int))))))], [(1, (.arr false (x5.set x4.toNat v8).length 4 (gl cs_RootKey (x5.set x4.toNat v8))))]⟩ (Tt ∧ T2 Tt) [] [0, 3, 4] [1] ⟨tr, tr, tr, tr⟩ ?_
    exact loopQ_normal (k, (IntKind.i64.wrap (x4 + (1 : Int))), (x5.set x4.toNat v8)) h (Nat.lt_succ_self k) (Sub.keep [0, 3, 4] [1] (by kernel_rfl) (by kernel_rfl))
  · refine AW.cond_f rfl b6 ?_
    refine AW.exit ?_
    refine thenQ_exit ?_
    refine loopQ_exit ?_
    refine blockQ_exit ?_
    refine thenQ_normal ?_
    refine AW.seq (AW.rA ⟨[(2, (.v (.one (.arr 1))))], [(1, (.arr false x5.length 4 (gl cs_RootKey x5)))]⟩ (T2 Tt) [] [2] [1] ⟨tr, tr, tr⟩ (thenQ_normal ?_))
    refine AW.ret ?_
    replace h := some_eq h
    subst h
    exact ⟨.inr rfl, retOK_of [(.one (.arr 1))] (by kernel_rfl) ⟨rfl, tr⟩ (of_decide_eq_true (by kernel_rfl))⟩

/-! laws.toClip -/
def laws_toClip (K : Nat) (a0 : Clip) : Option (Clip) :=
  (laws_toKeySS K a0.Tracks).bind fun v1 => (laws_toRootKeyS K a0.Roots).bind fun v3 => some (Clip.mk a0.Length a0.Kind v1 v3)

theorem ok_laws_toClip (K : Nat) (a0 : Clip) (o : (Clip)) (h : laws_toClip K a0 = some o) : CallOK Tryz.prog 6 [.agg (cs_Clip a0)] [.agg (cs_Clip o)] := by
  refine callOK_of_AW Tryz.func6 rfl (by kernel_rfl) (Nat.le_of_ble_eq_true (by kernel_rfl)) ?_
  intro w0
  unfold laws_toClip at h
  refine AW.seq (AW.rA ⟨[(1, (vp 1 0)), (2, (vp 2 0))], [(1, (.box [(.c (.int .i64 a0.Length)), (.c (.int .i64 a0.Kind)), (.c (sl 1 (csL 5 cs_Key) a0.Tracks)), (.c (sl 4 cs_RootKey a0.Roots))])), (2, (.box [(.c (.int .i64 (0 : Int))), (.c (.int .i64 (0 : Int))), .nils, .nils]))]⟩ (T2 Tt) [.box 1, .box 2] [1, 2] [1, 2] ⟨tr, tr, tr⟩ (thenQ_normal ?_))
  refine AW.seq (AW.rA ⟨[(1, (vp 1 0)), (2, (vp 2 0)), (3, (vp 3 0))], [(1, (.box [(.c (.int .i64 a0.Length)), (.c (.int .i64 a0.Kind)), (.c (sl 1 (csL 5 cs_Key) a0.Tracks)), (.c (sl 4 cs_RootKey a0.Roots))])), (2, (.box [(.c (.int .i64 (0 : Int))), (.c (.int .i64 (0 : Int))), .nils, .nils])), (3, (.box [(.c (.int .i64 (0 : Int))), (.c (.int .i64 (0 : Int))), .nils, .nils]))]⟩ (Tt ∧ Tt) [.box 3] [1, 2, 3] [1, 2, 3] ⟨tr, tr⟩ (thenQ_normal ?_))
  refine AW.seq (AW.rA ⟨[(1, (vp 1 0)), (2, (vp 2 0)), (3, (vp 3 0))], [(1, (.box [(.c (.int .i64 a0.Length)), (.c (.int .i64 a0.Kind)), (.c (sl 1 (csL 5 cs_Key) a0.Tracks)), (.c (sl 4 cs_RootKey a0.Roots))])), (2, (.box [(.c (.int .i64 (0 : Int))), (.c (.int .i64 (0 : Int))), .nils, .nils])), (3, (.box [(.c (.int .i64 a0.Length)), (.c (.int .i64 (0 : Int))), .nils, .nils]))]⟩ (T4 Tt) [] [1, 2, 3] [1, 2, 3] ⟨tr, tr, tr, tr, tr⟩ (thenQ_normal ?_))
  refine AW.seq (AW.rA ⟨[(1, (vp 1 0)), (2, (vp 2 0)), (3, (vp 3 0))], [(1, (.box [(.c (.int .i64 a0.Length)), (.c (.int .i64 a0.Kind)), (.c (sl 1 (csL 5 cs_Key) a0.Tracks)), (.c (sl 4 cs_RootKey a0.Roots))])), (2, (.box [(.c (.int .i64 (0 : Int))), (.c (.int .i64 (0 : Int))), .nils, .nils])), (3, (.box [(.c (.int .i64 a0.Length)), (.c (.int .i64 a0.Kind)), .nils, .nils]))]⟩ (T4 Tt) [] [1, 2, 3] [1, 2, 3] ⟨tr, tr, tr, tr, tr⟩ (thenQ_normal ?_))
  refine AW.seq ?_
  obtain ⟨v1, e2, h⟩ := bind_some h
  refine AW.rA ⟨[(1, (vp 1 0)), (2, (vp 2 0)), (3, (vp 3 0))], [(1, (.box [(.c (.int .i64 a0.Length)), (.c (.int .i64 a0.Kind)), (.c (sl 1 (csL 5 cs_Key) a0.Tracks)), (.c (sl 4 cs_RootKey a0.Roots))])), (2, (.box [(.c (.int .i64 (0 : Int))), (.c (.int .i64 (0 : Int))), .nils, .nils])), (3, (.box [(.c (.int .i64 a0.Length)), (.c (.int .i64 a0.Kind)), (.lst 4 v1.length 1 (gl (csL 5 cs_Key) v1)), .nils])), (4, (.lst v1.length 1 (gl (csL 5 cs_Key) v1)))]⟩ (T2 ((((Eqc (sl 1 (csL 5 cs_Key) a0.Tracks)) ∧ Tt) ∧ CallOK Tryz.prog 17 [.one (sl 1 (csL 5 cs_Key) a0.Tracks)] [.one (sl 1 (csL 5 cs_Key) v1)]) ∧ T2 Tt)) [.no, .no, .call [.one (sl 1 (csL 5 cs_Key) a0.Tracks)] [.one (sl 1 (csL 5 cs_Key) v1)] [[.lst 4]]] [1, 2, 3] [1, 2, 3, 4] ⟨tr, tr, ⟨⟨rfl, tr⟩, ok_laws_toKeySS K a0.Tracks v1 e2⟩, tr, tr, tr⟩ ?_
  refine thenQ_normal ?_
  refine AW.seq ?_
  obtain ⟨v3, e4, h⟩ := bind_some h
  refine AW.rA ⟨[(2, (vp 2 0)), (3, (vp 3 0))], [(2, (.box [(.c (.int .i64 (0 : Int))), (.c (.int .i64 (0 : Int))), .nils, .nils])), (3, (.box [(.c (.int .i64 a0.Length)), (.c (.int .i64 a0.Kind)), (.lst 4 v1.length 1 (gl (csL 5 cs_Key) v1)), (.lst 5 v3.length 4 (gl cs_RootKey v3))])), (4, (.lst v1.length 1 (gl (csL 5 cs_Key) v1))), (5, (.lst v3.length 4 (gl cs_RootKey v3)))]⟩ (T2 ((((Eqc (sl 4 cs_RootKey a0.Roots)) ∧ Tt) ∧ CallOK Tryz.prog 18 [.one (sl 4 cs_RootKey a0.Roots)] [.one (sl 4 cs_RootKey v3)]) ∧ T2 Tt)) [.no, .no, .call [.one (sl 4 cs_RootKey a0.Roots)] [.one (sl 4 cs_RootKey v3)] [[.lst 5]]] [2, 3] [2, 3, 4, 5] ⟨tr, tr, ⟨⟨rfl, tr⟩, ok_laws_toRootKeyS K a0.Roots v3 e4⟩, tr, tr, tr⟩ ?_
  refine thenQ_normal ?_
  refine AW.seq (AW.rA ⟨[(2, (vp 2 0))], [(2, (.box [(.c (.int .i64 a0.Length)), (.c (.int .i64 a0.Kind)), (.lst 4 v1.length 1 (gl (csL 5 cs_Key) v1)), (.lst 5 v3.length 4 (gl cs_RootKey v3))])), (4, (.lst v1.length 1 (gl (csL 5 cs_Key) v1))), (5, (.lst v3.length 4 (gl cs_RootKey v3)))]⟩ (T2 Tt) [] [2] [2, 4, 5] ⟨tr, tr, tr⟩ (thenQ_normal ?_))
  refine AW.ret ?_
  replace h := some_eq h
  subst h
  exact ⟨.inr rfl, retOK_of [(.agg [(.c (.int .i64 a0.Length)), (.c (.int .i64 a0.Kind)), (.lst 4 v1.length 1 (gl (csL 5 cs_Key) v1)), (.lst 5 v3.length 4 (gl cs_RootKey v3))])] (by kernel_rfl) ⟨⟨⟨rfl, tr⟩, ⟨rfl, tr⟩, rfl, rfl, tr⟩, tr⟩ (of_decide_eq_true (by kernel_rfl))⟩

/-! spec.l00In -/
def spec_l00In (_K : Nat) (a0 : Int) (a1 : Int) (a2 : Int) : Option (Bool) :=
  (ite2 ((decide (a0 ≥ a1))) (some (decide (a0 ≤ a2))) (some false)).bind fun j2 => some j2

theorem ok_spec_l00In (K : Nat) (a0 : Int) (a1 : Int) (a2 : Int) (o : (Bool)) (h : spec_l00In K a0 a1 a2 = some o) : CallOK Tryz.prog 32 [.one (.int .i64 a0), .one (.int .i64 a1), .one (.int .i64 a2)] [.one (.bool o)] := by
  refine callOK_of_AW Tryz.func32 rfl (by kernel_rfl) (Nat.le_of_ble_eq_true (by kernel_rfl)) ?_
  intro w0
  unfold spec_l00In at h
  refine AW.seq (AW.rA ⟨[(0, (vc (.int .i64 a0))), (1, (vc (.int .i64 a1))), (2, (vc (.int .i64 a2)))], []⟩ (Tt ∧ Tt) [] [0, 1, 2] [] ⟨tr, tr⟩ (thenQ_normal ?_))
  refine AW.seq ?_
  obtain ⟨j2, e3, h⟩ := bind_some h
  refine AW.join1 (s2 := ⟨[(6, (vc (.bool j2)))], []⟩) ?_ ?_
  · rcases ite2_cases e3 with ⟨b1, e3⟩ | ⟨b1, e3⟩
    · replace e3 := some_eq e3
      subst e3
      exact AW.rA ⟨[(6, (vc (.bool (decide (a0 ≤ a2)))))], []⟩ (Tt ∧ T2 ((Tt ∧ (decide (a0 ≥ a1)) = true) ∧ Tt ∧ T4 Tt)) [.no, .no, .no, .dec true] [6] [] ⟨tr, tr, tr, ⟨tr, b1⟩, tr, tr, tr, tr, tr, tr⟩ ⟨rfl, rfl⟩
    · replace e3 := some_eq e3
      subst e3
      exact AW.rA ⟨[(6, (vc (.bool false)))], []⟩ (Tt ∧ T2 ((Tt ∧ (decide (a0 ≥ a1)) = false) ∧ Tt ∧ T4 Tt)) [.no, .no, .no, .dec false] [6] [] ⟨tr, tr, tr, ⟨tr, b1⟩, tr, tr, tr, tr, tr, tr⟩ ⟨rfl, rfl⟩
  refine thenQ_normal ?_
  refine AW.ret ?_
  replace h := some_eq h
  subst h
  exact ⟨.inr rfl, retOK_of [(.one (.c (.bool j2)))] (by kernel_rfl) ⟨⟨rfl, tr⟩, tr⟩ (of_decide_eq_true (by kernel_rfl))⟩

/-! spec.l05At -/
def spec_l05At_l1 (K : Nat) (a0 : (List Key)) : Nat → Int → (List Int) → Option ((List Int))
  | 0, _, _ => none
  | k + 1, x3, x4 => ite2 ((decide (x3 < (a0.length : Int)))) (chk (0 ≤ x3 ∧ x3 < (a0.length : Int)) (chk ((x4.length + ([(a0.getD x3.toNat default).At]).length) * 8 ≤ 140737488355328) (spec_l05At_l1 K a0 k (IntKind.i64.wrap (x3 + (1 : Int))) (x4 ++ ([(a0.getD x3.toNat default).At]))))) (some x4)

def spec_l05At (K : Nat) (a0 : (List Key)) : Option ((List Int)) :=
  spec_l05At_l1 K a0 K (0 : Int) ([] : List Int)

theorem ok_spec_l05At (K : Nat) (a0 : (List Key)) (o : ((List Int))) (h : spec_l05At K a0 = some o) : CallOK Tryz.prog 34 [.one (sl 5 cs_Key a0)] [.one (sl 1 (csI .i64) o)] := by
  refine callOK_of_AW Tryz.func34 rfl (by kernel_rfl) (Nat.le_of_ble_eq_true (by kernel_rfl)) ?_
  intro w0
  unfold spec_l05At at h
  refine AW.seq (AW.rA ⟨[(0, (vc (sl 5 cs_Key a0)))], []⟩ (Tt ∧ Tt) [] [0] [] ⟨tr, tr⟩ (thenQ_normal ?_))
  refine AW.seq (AW.rA ⟨[(0, (vc (sl 5 cs_Key a0))), (3, (.v (.one (.lst 1 ([] : List Int).length 1 (gl (csI .i64) ([] : List Int))))))], [(1, (.lst ([] : List Int).length 1 (gl (csI .i64) ([] : List Int))))]⟩ ((([] : List Int).length = 0 ∧ Tt) ∧ Tt ∧ Tt) [.obj 1 ([] : List Int).length (gl (csI .i64) ([] : List Int))] [0, 3] [1] ⟨⟨rfl, tr⟩, tr, tr⟩ (thenQ_normal ?_))
  refine AW.seq ?_
  refine AW.seq (AW.rA ⟨[(0, (vc (sl 5 cs_Key a0))), (3, (.v (.one (.lst 1 ([] : List Int).length 1 (gl (csI .i64) ([] : List Int)))))), (7, (vc (.int .i64 (a0.length : Int)))), (8, (vc (.int .i64 (0 : Int))))], [(1, (.lst ([] : List Int).length 1 (gl (csI .i64) ([] : List Int))))]⟩ (Tt ∧ T2 Tt) [] [0, 3, 7, 8] [1] ⟨tr, tr, tr, tr⟩ (thenQ_normal ?_))
  refine AW.block ?_
  refine AW.loopQ (σ := Nat × Int × (List Int)) (fun p => ⟨[(0, (vc (sl 5 cs_Key a0))), (3, (.v (.one (.lst 1 p.2.2.length 1 (gl (csI .i64) p.2.2))))), (7, (vc (.int .i64 (a0.length : Int)))), (8, (vc (.int .i64 p.2.1)))], [(1, (.lst p.2.2.length 1 (gl (csI .i64) p.2.2)))]⟩) (fun p => spec_l05At_l1 K a0 p.1 p.2.1 p.2.2 = some o) (fun p => p.1) (K, (0 : Int), ([] : List Int)) h ?_
  clear h
  rintro ⟨k, x3, x4⟩ h
  replace h : spec_l05At_l1 K a0 k x3 x4 = some o := h
  show AW _ _ (⟨[(0, (vc (sl 5 cs_Key a0))), (3, (.v (.one (.lst 1 x4.length 1 (gl (csI .i64) x4))))), (7, (vc (.int .i64 (a0.length : Int)))), (8, (vc (.int .i64 x3)))], [(1, (.lst x4.length 1 (gl (csI .i64) x4)))]⟩ : St) _
  obtain _ | k := k
  · rw [spec_l05At_l1] at h; cases h
  rw [spec_l05At_l1] at h
  refine AW.seq (AW.rA ⟨[(0, (vc (sl 5 cs_Key a0))), (3, (.v (.one (.lst 1 x4.length 1 (gl (csI .i64) x4))))), (7, (vc (.int .i64 (a0.length : Int)))), (8, (vc (.int .i64 x3))), (9, (vc (.bool (decide (x3 < (a0.length : Int))))))], [(1, (.lst x4.length 1 (gl (csI .i64) x4)))]⟩ (Tt ∧ Tt) [] [0, 3, 7, 8, 9] [1] ⟨tr, tr⟩ (thenQ_normal ?_))
  refine AW.seq ?_
  rcases ite2_cases h with ⟨b5, h⟩ | ⟨b5, h⟩
  · refine AW.cond_t rfl b5 ?_
    refine AW.skip ?_
    refine thenQ_normal ?_
    refine AW.seq ?_
    refine AW.block ?_
    refine AW.seq (AW.rA ⟨[(0, (vc (sl 5 cs_Key a0))), (3, (.v (.one (.lst 1 x4.length 1 (gl (csI .i64) x4))))), (4, (vc (.int .i64 x3))), (7, (vc (.int .i64 (a0.length : Int)))), (8, (vc (.int .i64 x3)))], [(1, (.lst x4.length 1 (gl (csI .i64) x4)))]⟩ (T2 Tt) [] [0, 3, 4, 7, 8] [1] ⟨tr, tr, tr⟩ (thenQ_normal ?_))
    obtain ⟨c6, h⟩ := chk_some h
    obtain ⟨c7, h⟩ := chk_some h
    refine AW.rA ⟨[(0, (vc (sl 5 cs_Key a0))), (3, (.v (.one (.lst 7 (x4 ++ ([(a0.getD x3.toNat default).At])).length 1 (gl (csI .i64) (x4 ++ ([(a0.getD x3.toNat default).At]))))))), (7, (vc (.int .i64 (a0.length : Int)))), (8, (vc (.int .i64 x3)))], [(7, (.lst (x4 ++ ([(a0.getD x3.toNat default).At])).length 1 (gl (csI .i64) (x4 ++ ([(a0.getD x3.toNat default).At])))))]⟩ (Tt ∧ T2 ((0 ≤ x3 ∧ x3 < (a0.length : Int)) ∧ T2 ((([(a0.getD x3.toNat default).At]).length = 1 ∧ (((.int .i64 ((a0.getD x3.toNat default).At)) : C) = (.int .i64 ((a0.getD x3.toNat default).At)) ∧ Tt) ∧ Tt) ∧ ((x4 ++ ([(a0.getD x3.toNat default).At])).length = x4.length + ([(a0.getD x3.toNat default).At]).length ∧ AppOb (x4.length) (([(a0.getD x3.toNat default).At]).length) 1 (gl (csI .i64) x4) (gl (csI .i64) ([(a0.getD x3.toNat default).At])) (gl (csI .i64) (x4 ++ ([(a0.getD x3.toNat default).At]))) ∧ (∀ i j, i < ([(a0.getD x3.toNat default).At]).length → j < 1 → scalarC (gl (csI .i64) ([(a0.getD x3.toNat default).At]) i j)) ∧ (x4.length + ([(a0.getD x3.toNat default).At]).length) * 8 ≤ 140737488355328) ∧ Tt ∧ Tt))) [.no, .no, .no, .no, .no, .no, .obj 6 ([(a0.getD x3.toNat default).At]).length (gl (csI .i64) ([(a0.getD x3.toNat default).At])), .objK 7 (x4 ++ ([(a0.getD x3.toNat default).At])).length (gl (csI .i64) (x4 ++ ([(a0.getD x3.toNat default).At])))] [0, 3, 7, 8] [7] ⟨tr, tr, tr, c6, tr, tr, ⟨rfl, ⟨⟨rfl, tr⟩, tr⟩⟩, ⟨List.length_append, gl_append, gl_scalar scI _, c7⟩, tr, tr⟩ ?_
    refine blockQ_normal ?_
    refine thenQ_normal ?_
    refine AW.rA ⟨[(0, (vc (sl 5 cs_Key a0))), (3, (.v (.one (.lst 7 (x4 ++ ([(a0.getD x3.toNat default).At])).length 1 (gl (csI .i64) (x4 ++ ([(a0.getD x3.toNat default).At]))))))), (7, (vc (.int .i64 (a0.length : Int)))), (8, (vc (.int .i64 (IntKind.i64.wrap (x3 + (1 : Int))))))], [(7, (.lst (x4 ++ ([(a0.getD x3.toNat default).At])).length 1 (gl (csI .i64) (x4 ++ ([(a0.getD x3.toNat default).At])))))]⟩ (T2 Tt) [] [0, 3, 7, 8] [7] ⟨tr, tr, tr⟩ ?_
    exact loopQ_normal (k, (IntKind.i64.wrap (x3 + (1 : Int))), (x4 ++ ([(a0.getD x3.toNat default).At]))) h (Nat.lt_succ_self k) (Sub.trans (Sub.swap 1 7 _ (by kernel_rfl) (by kernel_rfl)) (Sub.keep [0, 3, 7, 8] [1] (by kernel_rfl) (by kernel_rfl)))
  · refine AW.cond_f rfl b5 ?_
    refine AW.exit ?_
    refine thenQ_exit ?_
    refine loopQ_exit ?_
    refine blockQ_exit ?_
    refine thenQ_normal ?_
    refine AW.seq (AW.rA ⟨[(2, (.v (.one (.lst 1 x4.length 1 (gl (csI .i64) x4)))))], [(1, (.lst x4.length 1 (gl (csI .i64) x4)))]⟩ (T2 Tt) [] [2] [1] ⟨tr, tr, tr⟩ (thenQ_normal ?_))
    refine AW.ret ?_
    replace h := some_eq h
    subst h
    exact ⟨.inr rfl, retOK_of [(.one (.lst 1 x4.length 1 (gl (csI .i64) x4)))] (by kernel_rfl) ⟨rfl, tr⟩ (of_decide_eq_true (by kernel_rfl))⟩

/-! spec.l05Times -/
def spec_l05Times_l1 (K : Nat) (a0 : (List Int)) (a1 : Int) : Nat → Int → Option (Bool)
  | 0, _ => none
  | k + 1, x2 => ite2 ((decide (x2 < (a0.length : Int)))) (chk (0 ≤ x2 ∧ x2 < (a0.length : Int)) ((spec_l00In K (a0.getD x2.toNat default) (0 : Int) a1).bind fun v5 => (ite2 ((!v5)) (some true) (ite2 ((decide (x2 > (0 : Int)))) (chk (0 ≤ (IntKind.i64.wrap (x2 - (1 : Int))) ∧ (IntKind.i64.wrap (x2 - (1 : Int))) < (a0.length : Int)) (some (decide ((a0.getD ((IntKind.i64.wrap (x2 - (1 : Int))).toNat) default) ≥ (a0.getD x2.toNat default))))) (some false))).bind fun j10 => ite2 (j10) (some false) (spec_l05Times_l1 K a0 a1 k (IntKind.i64.wrap (x2 + (1 : Int)))))) ((ite2 ((decide ((a0.length : Int) ≥ (1 : Int)))) (some (decide ((a0.length : Int) ≤ (12 : Int)))) (some false)).bind fun j14 => some j14)

def spec_l05Times (K : Nat) (a0 : (List Int)) (a1 : Int) : Option (Bool) :=
  spec_l05Times_l1 K a0 a1 K (0 : Int)

theorem ok_spec_l05Times (K : Nat) (a0 : (List Int)) (a1 : Int) (o : (Bool)) (h : spec_l05Times K a0 a1 = some o) : CallOK Tryz.prog 33 [.one (sl 1 (csI .i64) a0), .one (.int .i64 a1)] [.one (.bool o)] := by
  refine callOK_of_AW Tryz.func33 rfl (by kernel_rfl) (Nat.le_of_ble_eq_true (by kernel_rfl)) ?_
  intro w0
  unfold spec_l05Times at h
  refine AW.seq (AW.rA ⟨[(0, (vc (sl 1 (csI .i64) a0))), (1, (vc (.int .i64 a1)))], []⟩ (Tt ∧ Tt) [] [0, 1] [] ⟨tr, tr⟩ (thenQ_normal ?_))
  refine AW.seq ?_
  refine AW.seq (AW.rA ⟨[(0, (vc (sl 1 (csI .i64) a0))), (1, (vc (.int .i64 a1))), (7, (vc (.int .i64 (a0.length : Int)))), (8, (vc (.int .i64 (0 : Int))))], []⟩ (Tt ∧ T2 Tt) [] [0, 1, 7, 8] [] ⟨tr, tr, tr, tr⟩ (thenQ_normal ?_))
  refine AW.block ?_
  refine AW.loopQ (σ := Nat × Int) (fun p => ⟨[(0, (vc (sl 1 (csI .i64) a0))), (1, (vc (.int .i64 a1))), (7, (vc (.int .i64 (a0.length : Int)))), (8, (vc (.int .i64 p.2)))], []⟩) (fun p => spec_l05Times_l1 K a0 a1 p.1 p.2 = some o) (fun p => p.1) (K, (0 : Int)) h ?_
  clear h
  rintro ⟨k, x2⟩ h
  replace h : spec_l05Times_l1 K a0 a1 k x2 = some o := h
  show AW _ _ (⟨[(0, (vc (sl 1 (csI .i64) a0))), (1, (vc (.int .i64 a1))), (7, (vc (.int .i64 (a0.length : Int)))), (8, (vc (.int .i64 x2)))], []⟩ : St) _
  obtain _ | k := k
  · rw [spec_l05Times_l1] at h; cases h
  rw [spec_l05Times_l1] at h
  refine AW.seq (AW.rA ⟨[(0, (vc (sl 1 (csI .i64) a0))), (1, (vc (.int .i64 a1))), (7, (vc (.int .i64 (a0.length : Int)))), (8, (vc (.int .i64 x2))), (9, (vc (.bool (decide (x2 < (a0.length : Int))))))], []⟩ (Tt ∧ Tt) [] [0, 1, 7, 8, 9] [] ⟨tr, tr⟩ (thenQ_normal ?_))
  refine AW.seq ?_
  rcases ite2_cases h with ⟨b3, h⟩ | ⟨b3, h⟩
  · refine AW.cond_t rfl b3 ?_
    refine AW.skip ?_
    refine thenQ_normal ?_
    refine AW.seq ?_
    refine AW.block ?_
    refine AW.seq (AW.rA ⟨[(0, (vc (sl 1 (csI .i64) a0))), (1, (vc (.int .i64 a1))), (5, (vc (.int .i64 x2))), (7, (vc (.int .i64 (a0.length : Int)))), (8, (vc (.int .i64 x2)))], []⟩ (T2 Tt) [] [0, 1, 5, 7, 8] [] ⟨tr, tr, tr⟩ (thenQ_normal ?_))
    refine AW.seq ?_
    obtain ⟨c4, h⟩ := chk_some h
    obtain ⟨v5, e6, h⟩ := bind_some h
    obtain ⟨j10, e11, h⟩ := bind_some h
    refine AW.join1 (s2 := ⟨[(0, (vc (sl 1 (csI .i64) a0))), (1, (vc (.int .i64 a1))), (7, (vc (.int .i64 (a0.length : Int)))), (8, (vc (.int .i64 x2))), (33, (vc (.bool j10)))], []⟩) ?_ ?_
    · rcases ite2_cases e11 with ⟨b7, e11⟩ | ⟨b7, e11⟩
      · replace e11 := some_eq e11
        subst e11
        exact AW.dA ⟨[(0, (vc (sl 1 (csI .i64) a0))), (1, (vc (.int .i64 a1))), (7, (vc (.int .i64 (a0.length : Int)))), (8, (vc (.int .i64 x2))), (33, (vc (.bool true)))], []⟩ ((T2 ((0 ≤ x2 ∧ x2 < (a0.length : Int)) ∧ T2 ((((Eqc (.int .i64 (a0.getD x2.toNat default))) ∧ (Eqc (.int .i64 (0 : Int))) ∧ (Eqc (.int .i64 a1)) ∧ Tt) ∧ CallOK Tryz.prog 32 [.one (.int .i64 (a0.getD x2.toNat default)), .one (.int .i64 (0 : Int)), .one (.int .i64 a1)] [.one (.bool v5)]) ∧ Tt ∧ (Tt ∧ (!v5) = true) ∧ Tt ∧ T2 (T4 (T4 (T4 Tt)))))) ∧ (Tt)) 23 [.no, .no, .no, .no, .no, .call [.one (.int .i64 (a0.getD x2.toNat default)), .one (.int .i64 (0 : Int)), .one (.int .i64 a1)] [.one (.bool v5)] [[.view]], .no, .dec true] [0, 1, 7, 8, 33] [] ⟨⟨tr, tr, c4, tr, tr, ⟨⟨rfl, rfl, rfl, tr⟩, ok_spec_l00In K (a0.getD x2.toNat default) (0 : Int) a1 v5 e6⟩, tr, ⟨tr, b7⟩, tr, tr, tr, tr, tr, tr, tr, tr, tr, tr, tr, tr, tr, tr, tr, tr⟩, tr⟩ ⟨rfl, rfl⟩
      · rcases ite2_cases e11 with ⟨b8, e11⟩ | ⟨b8, e11⟩
        · obtain ⟨c9, e11⟩ := chk_some e11
          replace e11 := some_eq e11
          subst e11
          exact AW.dA ⟨[(0, (vc (sl 1 (csI .i64) a0))), (1, (vc (.int .i64 a1))), (7, (vc (.int .i64 (a0.length : Int)))), (8, (vc (.int .i64 x2))), (33, (vc (.bool (decide ((a0.getD ((IntKind.i64.wrap (x2 - (1 : Int))).toNat) default) ≥ (a0.getD x2.toNat default))))))], []⟩ ((T2 ((0 ≤ x2 ∧ x2 < (a0.length : Int)) ∧ T2 ((((Eqc (.int .i64 (a0.getD x2.toNat default))) ∧ (Eqc (.int .i64 (0 : Int))) ∧ (Eqc (.int .i64 a1)) ∧ Tt) ∧ CallOK Tryz.prog 32 [.one (.int .i64 (a0.getD x2.toNat default)), .one (.int .i64 (0 : Int)), .one (.int .i64 a1)] [.one (.bool v5)]) ∧ Tt ∧ (Tt ∧ (!v5) = false) ∧ T2 ((Tt ∧ (decide (x2 > (0 : Int))) = true) ∧ Tt ∧ T2 ((0 ≤ (IntKind.i64.wrap (x2 - (1 : Int))) ∧ (IntKind.i64.wrap (x2 - (1 : Int))) < (a0.length : Int)) ∧ Tt ∧ T2 ((0 ≤ x2 ∧ x2 < (a0.length : Int)) ∧ T4 Tt)))))) ∧ (Tt)) 23 [.no, .no, .no, .no, .no, .call [.one (.int .i64 (a0.getD x2.toNat default)), .one (.int .i64 (0 : Int)), .one (.int .i64 a1)] [.one (.bool v5)] [[.view]], .no, .dec false, .no, .no, .dec true] [0, 1, 7, 8, 33] [] ⟨⟨tr, tr, c4, tr, tr, ⟨⟨rfl, rfl, rfl, tr⟩, ok_spec_l00In K (a0.getD x2.toNat default) (0 : Int) a1 v5 e6⟩, tr, ⟨tr, b7⟩, tr, tr, ⟨tr, b8⟩, tr, tr, tr, c9, tr, tr, tr, c4, tr, tr, tr, tr, tr⟩, tr⟩ ⟨rfl, rfl⟩
        · replace e11 := some_eq e11
          subst e11
          exact AW.dA ⟨[(0, (vc (sl 1 (csI .i64) a0))), (1, (vc (.int .i64 a1))), (7, (vc (.int .i64 (a0.length : Int)))), (8, (vc (.int .i64 x2))), (33, (vc (.bool false)))], []⟩ ((T2 ((0 ≤ x2 ∧ x2 < (a0.length : Int)) ∧ T2 ((((Eqc (.int .i64 (a0.getD x2.toNat default))) ∧ (Eqc (.int .i64 (0 : Int))) ∧ (Eqc (.int .i64 a1)) ∧ Tt) ∧ CallOK Tryz.prog 32 [.one (.int .i64 (a0.getD x2.toNat default)), .one (.int .i64 (0 : Int)), .one (.int .i64 a1)] [.one (.bool v5)]) ∧ Tt ∧ (Tt ∧ (!v5) = false) ∧ T2 ((Tt ∧ (decide (x2 > (0 : Int))) = false) ∧ T4 (T4 (T4 Tt)))))) ∧ (Tt)) 23 [.no, .no, .no, .no, .no, .call [.one (.int .i64 (a0.getD x2.toNat default)), .one (.int .i64 (0 : Int)), .one (.int .i64 a1)] [.one (.bool v5)] [[.view]], .no, .dec false, .no, .no, .dec false] [0, 1, 7, 8, 33] [] ⟨⟨tr, tr, c4, tr, tr, ⟨⟨rfl, rfl, rfl, tr⟩, ok_spec_l00In K (a0.getD x2.toNat default) (0 : Int) a1 v5 e6⟩, tr, ⟨tr, b7⟩, tr, tr, ⟨tr, b8⟩, tr, tr, tr, tr, tr, tr, tr, tr, tr, tr, tr, tr, tr⟩, tr⟩ ⟨rfl, rfl⟩
    refine thenQ_normal ?_
    rcases ite2_cases h with ⟨b12, h⟩ | ⟨b12, h⟩
    · refine AW.cond_t rfl b12 ?_
      refine AW.seq (AW.rA ⟨[(4, (vc (.bool false)))], []⟩ (Tt ∧ Tt) [] [4] [] ⟨tr, tr⟩ (thenQ_normal ?_))
      refine AW.ret ?_
      refine blockQ_ret ?_
      refine thenQ_ret ?_
      refine loopQ_ret ?_
      refine blockQ_ret ?_
      refine thenQ_ret ?_
      replace h := some_eq h
      subst h
      exact ⟨.inr rfl, retOK_of [(.one (.c (.bool false)))] (by kernel_rfl) ⟨⟨rfl, tr⟩, tr⟩ (of_decide_eq_true (by kernel_rfl))⟩
    · refine AW.cond_f rfl b12 ?_
      refine AW.skip ?_
      refine blockQ_normal ?_
      refine thenQ_normal ?_
      refine AW.rA ⟨[(0, (vc (sl 1 (csI .i64) a0))), (1, (vc (.int .i64 a1))), (7, (vc (.int .i64 (a0.length : Int)))), (8, (vc (.int .i64 (IntKind.i64.wrap (x2 + (1 : Int))))))], []⟩ (T2 Tt) [] [0, 1, 7, 8] [] ⟨tr, tr, tr⟩ ?_
      exact loopQ_normal (k, (IntKind.i64.wrap (x2 + (1 : Int)))) h (Nat.lt_succ_self k) (Sub.keep [0, 1, 7, 8] [] (by kernel_rfl) (by kernel_rfl))
  · refine AW.cond_f rfl b3 ?_
    refine AW.exit ?_
    refine thenQ_exit ?_
    refine loopQ_exit ?_
    refine blockQ_exit ?_
    refine thenQ_normal ?_
    refine AW.seq ?_
    obtain ⟨j14, e15, h⟩ := bind_some h
    refine AW.join1 (s2 := ⟨[(4, (vc (.bool j14)))], []⟩) ?_ ?_
    · rcases ite2_cases e15 with ⟨b13, e15⟩ | ⟨b13, e15⟩
      · replace e15 := some_eq e15
        subst e15
        exact AW.rA ⟨[(4, (vc (.bool (decide ((a0.length : Int) ≤ (12 : Int))))))], []⟩ (Tt ∧ T2 ((Tt ∧ (decide ((a0.length : Int) ≥ (1 : Int))) = true) ∧ Tt ∧ T4 Tt)) [.no, .no, .no, .dec true] [4] [] ⟨tr, tr, tr, ⟨tr, b13⟩, tr, tr, tr, tr, tr, tr⟩ ⟨rfl, rfl⟩
      · replace e15 := some_eq e15
        subst e15
        exact AW.rA ⟨[(4, (vc (.bool false)))], []⟩ (Tt ∧ T2 ((Tt ∧ (decide ((a0.length : Int) ≥ (1 : Int))) = false) ∧ Tt ∧ T4 Tt)) [.no, .no, .no, .dec false] [4] [] ⟨tr, tr, tr, ⟨tr, b13⟩, tr, tr, tr, tr, tr, tr⟩ ⟨rfl, rfl⟩
    refine thenQ_normal ?_
    refine AW.ret ?_
    replace h := some_eq h
    subst h
    exact ⟨.inr rfl, retOK_of [(.one (.c (.bool j14)))] (by kernel_rfl) ⟨⟨rfl, tr⟩, tr⟩ (of_decide_eq_true (by kernel_rfl))⟩

/-! spec.l05RootAt -/
def spec_l05RootAt_l1 (K : Nat) (a0 : (List RootKey)) : Nat → Int → (List Int) → Option ((List Int))
  | 0, _, _ => none
  | k + 1, x3, x4 => ite2 ((decide (x3 < (a0.length : Int)))) (chk (0 ≤ x3 ∧ x3 < (a0.length : Int)) (chk ((x4.length + ([(a0.getD x3.toNat default).At]).length) * 8 ≤ 140737488355328) (spec_l05RootAt_l1 K a0 k (IntKind.i64.wrap (x3 + (1 : Int))) (x4 ++ ([(a0.getD x3.toNat default).At]))))) (some x4)

def spec_l05RootAt (K : Nat) (a0 : (List RootKey)) : Option ((List Int)) :=
  spec_l05RootAt_l1 K a0 K (0 : Int) ([] : List Int)

theorem ok_spec_l05RootAt (K : Nat) (a0 : (List RootKey)) (o : ((List Int))) (h : spec_l05RootAt K a0 = some o) : CallOK Tryz.prog 35 [.one (sl 4 cs_RootKey a0)] [.one (sl 1 (csI .i64) o)] := by
  refine callOK_of_AW Tryz.func35 rfl (by kernel_rfl) (Nat.le_of_ble_eq_true (by kernel_rfl)) ?_
  intro w0
  unfold spec_l05RootAt at h
  refine AW.seq (AW.rA ⟨[(0, (vc (sl 4 cs_RootKey a0)))], []⟩ (Tt ∧ Tt) [] [0] [] ⟨tr, tr⟩ (thenQ_normal ?_))
  refine AW.seq (AW.rA ⟨[(0, (vc (sl 4 cs_RootKey a0))), (3, (.v (.one (.lst 1 ([] : List Int).length 1 (gl (csI .i64) ([] : List Int))))))], [(1, (.lst ([] : List Int).length 1 (gl (csI .i64) ([] : List Int))))]⟩ ((([] : List Int).length = 0 ∧ Tt) ∧ Tt ∧ Tt) [.obj 1 ([] : List Int).length (gl (csI .i64) ([] : List Int))] [0, 3] [1] ⟨⟨rfl, tr⟩, tr, tr⟩ (thenQ_normal ?_))
  refine AW.seq ?_
  refine AW.seq (AW.rA ⟨[(0, (vc (sl 4 cs_RootKey a0))), (3, (.v (.one (.lst 1 ([] : List Int).length 1 (gl (csI .i64) ([] : List Int)))))), (7, (vc (.int .i64 (a0.length : Int)))), (8, (vc (.int .i64 (0 : Int))))], [(1, (.lst ([] : List Int).length 1 (gl (csI .i64) ([] : List Int))))]⟩ (Tt ∧ T2 Tt) [] [0, 3, 7, 8] [1] ⟨tr, tr, tr, tr⟩ (thenQ_normal ?_))
  refine AW.block ?_
  refine AW.loopQ (σ := Nat × Int × (List Int)) (fun p => ⟨[(0, (vc (sl 4 cs_RootKey a0))), (3, (.v (.one (.lst 1 p.2.2.length 1 (gl (csI .i64) p.2.2))))), (7, (vc (.int .i64 (a0.length : Int)))), (8, (vc (.int .i64 p.2.1)))], [(1, (.lst p.2.2.length 1 (gl (csI .i64) p.2.2)))]⟩) (fun p => spec_l05RootAt_l1 K a0 p.1 p.2.1 p.2.2 = some o) (fun p => p.1) (K, (0 : Int), ([] : List Int)) h ?_
  clear h
  rintro ⟨k, x3, x4⟩ h
  replace h : spec_l05RootAt_l1 K a0 k x3 x4 = some o := h
  show AW _ _ (⟨[(0, (vc (sl 4 cs_RootKey a0))), (3, (.v (.one (.lst 1 x4.length 1 (gl (csI .i64) x4))))), (7, (vc (.int .i64 (a0.length : Int)))), (8, (vc (.int .i64 x3)))], [(1, (.lst x4.length 1 (gl (csI .i64) x4)))]⟩ : St) _
  obtain _ | k := k
  · rw [spec_l05RootAt_l1] at h; cases h
  rw [spec_l05RootAt_l1] at h
  refine AW.seq (AW.rA ⟨[(0, (vc (sl 4 cs_RootKey a0))), (3, (.v (.one (.lst 1 x4.length 1 (gl (csI .i64) x4))))), (7, (vc (.int .i64 (a0.length : Int)))), (8, (vc (.int .i64 x3))), (9, (vc (.bool (decide (x3 < (a0.length : Int))))))], [(1, (.lst x4.length 1 (gl (csI .i64) x4)))]⟩ (Tt ∧ Tt) [] [0, 3, 7, 8, 9] [1] ⟨tr, tr⟩ (thenQ_normal ?_))
  refine AW.seq ?_
  rcases ite2_cases h with ⟨b5, h⟩ | ⟨b5, h⟩
  · refine AW.cond_t rfl b5 ?_
    refine AW.skip ?_
    refine thenQ_normal ?_
    refine AW.seq ?_
    refine AW.block ?_
    refine AW.seq (AW.rA ⟨[(0, (vc (sl 4 cs_RootKey a0))), (3, (.v (.one (.lst 1 x4.length 1 (gl (csI .i64) x4))))), (4, (vc (.int .i64 x3))), (7, (vc (.int .i64 (a0.length : Int)))), (8, (vc (.int .i64 x3)))], [(1, (.lst x4.length 1 (gl (csI .i64) x4)))]⟩ (T2 Tt) [] [0, 3, 4, 7, 8] [1] ⟨tr, tr, tr⟩ (thenQ_normal ?_))
    obtain ⟨c6, h⟩ := chk_some h
    obtain ⟨c7, h⟩ := chk_some h
    refine AW.rA ⟨[(0, (vc (sl 4 cs_RootKey a0))), (3, (.v (.one (.lst 7 (x4 ++ ([(a0.getD x3.toNat default).At])).length 1 (gl (csI .i64) (x4 ++ ([(a0.getD x3.toNat default).At]))))))), (7, (vc (.int .i64 (a0.length : Int)))), (8, (vc (.int .i64 x3)))], [(7, (.lst (x4 ++ ([(a0.getD x3.toNat default).At])).length 1 (gl (csI .i64) (x4 ++ ([(a0.getD x3.toNat default).At])))))]⟩ (Tt ∧ T2 ((0 ≤ x3 ∧ x3 < (a0.length : Int)) ∧ T2 ((([(a0.getD x3.toNat default).At]).length = 1 ∧ (((.int .i64 ((a0.getD x3.toNat default).At)) : C) = (.int .i64 ((a0.getD x3.toNat default).At)) ∧ Tt) ∧ Tt) ∧ ((x4 ++ ([(a0.getD x3.toNat default).At])).length = x4.length + ([(a0.getD x3.toNat default).At]).length ∧ AppOb (x4.length) (([(a0.getD x3.toNat default).At]).length) 1 (gl (csI .i64) x4) (gl (csI .i64) ([(a0.getD x3.toNat default).At])) (gl (csI .i64) (x4 ++ ([(a0.getD x3.toNat default).At]))) ∧ (∀ i j, i < ([(a0.getD x3.toNat default).At]).length → j < 1 → scalarC (gl (csI .i64) ([(a0.getD x3.toNat default).At]) i j)) ∧ (x4.length + ([(a0.getD x3.toNat default).At]).length) * 8 ≤ 140737488355328) ∧ Tt ∧ Tt))) [.no, .no, .no, .no, .no, .no, .obj 6 ([(a0.getD x3.toNat default).At]).length (gl (csI .i64) ([(a0.getD x3.toNat default).At])), .objK 7 (x4 ++ ([(a0.getD x3.toNat default).At])).length (gl (csI .i64) (x4 ++ ([(a0.getD x3.toNat default).At])))] [0, 3, 7, 8] [7] ⟨tr, tr, tr, c6, tr, tr, ⟨rfl, ⟨⟨rfl, tr⟩, tr⟩⟩, ⟨List.length_append, gl_append, gl_scalar scI _, c7⟩, tr, tr⟩ ?_
    refine blockQ_normal ?_
    refine thenQ_normal ?_
    refine AW.rA ⟨[(0, (vc (sl 4 cs_RootKey a0))), (3, (.v (.one (.lst 7 (x4 ++ ([(a0.getD x3.toNat default).At])).length 1 (gl (csI .i64) (x4 ++ ([(a0.getD x3.toNat default).At]))))))), (7, (vc (.int .i64 (a0.length : Int)))), (8, (vc (.int .i64 (IntKind.i64.wrap (x3 + (1 : Int))))))], [(7, (.lst (x4 ++ ([(a0.getD x3.toNat default).At])).length 1 (gl (csI .i64) (x4 ++ ([(a0.getD x3.toNat default).At])))))]⟩ (T2 Tt) [] [0, 3, 7, 8] [7] ⟨tr, tr, tr⟩ ?_
    exact loopQ_normal (k, (IntKind.i64.wrap (x3 + (1 : Int))), (x4 ++ ([(a0.getD x3.toNat default).At]))) h (Nat.lt_succ_self k) (Sub.trans (Sub.swap 1 7 _ (by kernel_rfl) (by kernel_rfl)) (Sub.keep [0, 3, 7, 8] [1] (by kernel_rfl) (by kernel_rfl)))
  · refine AW.cond_f rfl b5 ?_
    refine AW.exit ?_
    refine thenQ_exit ?_
    refine loopQ_exit ?_
    refine blockQ_exit ?_
    refine thenQ_normal ?_
    refine AW.seq (AW.rA ⟨[(2, (.v (.one (.lst 1 x4.length 1 (gl (csI .i64) x4)))))], [(1, (.lst x4.length 1 (gl (csI .i64) x4)))]⟩ (T2 Tt) [] [2] [1] ⟨tr, tr, tr⟩ (thenQ_normal ?_))
    refine AW.ret ?_
    replace h := some_eq h
    subst h
    exact ⟨.inr rfl, retOK_of [(.one (.lst 1 x4.length 1 (gl (csI .i64) x4)))] (by kernel_rfl) ⟨rfl, tr⟩ (of_decide_eq_true (by kernel_rfl))⟩

/-! spec.l05Is -/
def spec_l05Is_l1 (K : Nat) (a0 : Clip) : Nat → Int → Option (Bool)
  | 0, _ => none
  | k + 1, x12 => ite2 ((decide (x12 < (a0.Tracks.length : Int)))) (chk (0 ≤ x12 ∧ x12 < (a0.Tracks.length : Int)) ((spec_l05At K (a0.Tracks.getD x12.toNat default)).bind fun v15 => (spec_l05Times K v15 a0.Length).bind fun v17 => ite2 ((!v17)) (some false) (spec_l05Is_l1 K a0 k (IntKind.i64.wrap (x12 + (1 : Int)))))) ((spec_l05RootAt K a0.Roots).bind fun v20 => (spec_l05Times K v20 a0.Length).bind fun v22 => some v22)

def spec_l05Is (K : Nat) (a0 : Clip) : Option (Bool) :=
  (spec_l00In K a0.Length (1 : Int) (1000 : Int)).bind fun v1 => (ite2 ((!v1)) (some true) ((spec_l00In K a0.Kind (0 : Int) (2 : Int)).bind fun v4 => ite2 ((!v4)) (some true) (ite2 ((decide ((a0.Tracks.length : Int) < (1 : Int)))) (some true) (some (decide ((a0.Tracks.length : Int) > (12 : Int))))))).bind fun j8 => ite2 (j8) (some false) (spec_l05Is_l1 K a0 K (0 : Int))

theorem ok_spec_l05Is (K : Nat) (a0 : Clip) (o : (Bool)) (h : spec_l05Is K a0 = some o) : CallOK Tryz.prog 13 [.one (pl 4 cs_Clip a0)] [.one (.bool o)] := by
  refine callOK_of_AW Tryz.func13 rfl (by kernel_rfl) (Nat.le_of_ble_eq_true (by kernel_rfl)) ?_
  intro w0
  unfold spec_l05Is at h
  refine AW.seq (AW.rA ⟨[(0, (vc (pl 4 cs_Clip a0)))], []⟩ (Tt ∧ Tt) [] [0] [] ⟨tr, tr⟩ (thenQ_normal ?_))
  refine AW.seq ?_
  refine AW.seq ?_
  obtain ⟨v1, e2, h⟩ := bind_some h
  obtain ⟨j8, e9, h⟩ := bind_some h
  refine AW.join1 (s2 := ⟨[(0, (vc (pl 4 cs_Clip a0))), (33, (vc (.bool j8)))], []⟩) ?_ ?_
  · rcases ite2_cases e9 with ⟨b3, e9⟩ | ⟨b3, e9⟩
    · replace e9 := some_eq e9
      subst e9
      exact AW.rA ⟨[(0, (vc (pl 4 cs_Clip a0))), (33, (vc (.bool true)))], []⟩ (T4 ((((Eqc (.int .i64 a0.Length)) ∧ (Eqc (.int .i64 (1 : Int))) ∧ (Eqc (.int .i64 (1000 : Int))) ∧ Tt) ∧ CallOK Tryz.prog 32 [.one (.int .i64 a0.Length), .one (.int .i64 (1 : Int)), .one (.int .i64 (1000 : Int))] [.one (.bool v1)]) ∧ Tt ∧ (Tt ∧ (!v1) = true) ∧ Tt ∧ T2 (T4 (T4 (T4 (T4 (T4 Tt))))))) [.no, .no, .no, .no, .call [.one (.int .i64 a0.Length), .one (.int .i64 (1 : Int)), .one (.int .i64 (1000 : Int))] [.one (.bool v1)] [[.view]], .no, .dec true] [0, 33] [] ⟨tr, tr, tr, tr, ⟨⟨rfl, rfl, rfl, tr⟩, ok_spec_l00In K a0.Length (1 : Int) (1000 : Int) v1 e2⟩, tr, ⟨tr, b3⟩, tr, tr, tr, tr, tr, tr, tr, tr, tr, tr, tr, tr, tr, tr, tr, tr, tr, tr, tr, tr, tr, tr, tr, tr⟩ ⟨rfl, rfl⟩
    · obtain ⟨v4, e5, e9⟩ := bind_some e9
      rcases ite2_cases e9 with ⟨b6, e9⟩ | ⟨b6, e9⟩
      · replace e9 := some_eq e9
        subst e9
        exact AW.rA ⟨[(0, (vc (pl 4 cs_Clip a0))), (33, (vc (.bool true)))], []⟩ (T4 ((((Eqc (.int .i64 a0.Length)) ∧ (Eqc (.int .i64 (1 : Int))) ∧ (Eqc (.int .i64 (1000 : Int))) ∧ Tt) ∧ CallOK Tryz.prog 32 [.one (.int .i64 a0.Length), .one (.int .i64 (1 : Int)), .one (.int .i64 (1000 : Int))] [.one (.bool v1)]) ∧ Tt ∧ (Tt ∧ (!v1) = false) ∧ T4 ((((Eqc (.int .i64 a0.Kind)) ∧ (Eqc (.int .i64 (0 : Int))) ∧ (Eqc (.int .i64 (2 : Int))) ∧ Tt) ∧ CallOK Tryz.prog 32 [.one (.int .i64 a0.Kind), .one (.int .i64 (0 : Int)), .one (.int .i64 (2 : Int))] [.one (.bool v4)]) ∧ T2 ((Tt ∧ (!v4) = true) ∧ Tt ∧ T2 (T4 (T4 (T4 Tt))))))) [.no, .no, .no, .no, .call [.one (.int .i64 a0.Length), .one (.int .i64 (1 : Int)), .one (.int .i64 (1000 : Int))] [.one (.bool v1)] [[.view]], .no, .dec false, .no, .no, .no, .no, .call [.one (.int .i64 a0.Kind), .one (.int .i64 (0 : Int)), .one (.int .i64 (2 : Int))] [.one (.bool v4)] [[.view]], .no, .no, .dec true] [0, 33] [] ⟨tr, tr, tr, tr, ⟨⟨rfl, rfl, rfl, tr⟩, ok_spec_l00In K a0.Length (1 : Int) (1000 : Int) v1 e2⟩, tr, ⟨tr, b3⟩, tr, tr, tr, tr, ⟨⟨rfl, rfl, rfl, tr⟩, ok_spec_l00In K a0.Kind (0 : Int) (2 : Int) v4 e5⟩, tr, tr, ⟨tr, b6⟩, tr, tr, tr, tr, tr, tr, tr, tr, tr, tr, tr, tr, tr, tr, tr, tr⟩ ⟨rfl, rfl⟩
      · rcases ite2_cases e9 with ⟨b7, e9⟩ | ⟨b7, e9⟩
        · replace e9 := some_eq e9
          subst e9
          exact AW.rA ⟨[(0, (vc (pl 4 cs_Clip a0))), (33, (vc (.bool true)))], []⟩ (T4 ((((Eqc (.int .i64 a0.Length)) ∧ (Eqc (.int .i64 (1 : Int))) ∧ (Eqc (.int .i64 (1000 : Int))) ∧ Tt) ∧ CallOK Tryz.prog 32 [.one (.int .i64 a0.Length), .one (.int .i64 (1 : Int)), .one (.int .i64 (1000 : Int))] [.one (.bool v1)]) ∧ Tt ∧ (Tt ∧ (!v1) = false) ∧ T4 ((((Eqc (.int .i64 a0.Kind)) ∧ (Eqc (.int .i64 (0 : Int))) ∧ (Eqc (.int .i64 (2 : Int))) ∧ Tt) ∧ CallOK Tryz.prog 32 [.one (.int .i64 a0.Kind), .one (.int .i64 (0 : Int)), .one (.int .i64 (2 : Int))] [.one (.bool v4)]) ∧ T2 ((Tt ∧ (!v4) = false) ∧ Tt ∧ T2 (T4 ((Tt ∧ (decide ((a0.Tracks.length : Int) < (1 : Int))) = true) ∧ Tt ∧ T2 (T4 Tt))))))) [.no, .no, .no, .no, .call [.one (.int .i64 a0.Length), .one (.int .i64 (1 : Int)), .one (.int .i64 (1000 : Int))] [.one (.bool v1)] [[.view]], .no, .dec false, .no, .no, .no, .no, .call [.one (.int .i64 a0.Kind), .one (.int .i64 (0 : Int)), .one (.int .i64 (2 : Int))] [.one (.bool v4)] [[.view]], .no, .no, .dec false, .no, .no, .no, .no, .no, .no, .no, .dec true] [0, 33] [] ⟨tr, tr, tr, tr, ⟨⟨rfl, rfl, rfl, tr⟩, ok_spec_l00In K a0.Length (1 : Int) (1000 : Int) v1 e2⟩, tr, ⟨tr, b3⟩, tr, tr, tr, tr, ⟨⟨rfl, rfl, rfl, tr⟩, ok_spec_l00In K a0.Kind (0 : Int) (2 : Int) v4 e5⟩, tr, tr, ⟨tr, b6⟩, tr, tr, tr, tr, tr, tr, tr, ⟨tr, b7⟩, tr, tr, tr, tr, tr, tr, tr, tr⟩ ⟨rfl, rfl⟩
        · replace e9 := some_eq e9
          subst e9
          exact AW.rA ⟨[(0, (vc (pl 4 cs_Clip a0))), (33, (vc (.bool (decide ((a0.Tracks.length : Int) > (12 : Int))))))], []⟩ (T4 ((((Eqc (.int .i64 a0.Length)) ∧ (Eqc (.int .i64 (1 : Int))) ∧ (Eqc (.int .i64 (1000 : Int))) ∧ Tt) ∧ CallOK Tryz.prog 32 [.one (.int .i64 a0.Length), .one (.int .i64 (1 : Int)), .one (.int .i64 (1000 : Int))] [.one (.bool v1)]) ∧ Tt ∧ (Tt ∧ (!v1) = false) ∧ T4 ((((Eqc (.int .i64 a0.Kind)) ∧ (Eqc (.int .i64 (0 : Int))) ∧ (Eqc (.int .i64 (2 : Int))) ∧ Tt) ∧ CallOK Tryz.prog 32 [.one (.int .i64 a0.Kind), .one (.int .i64 (0 : Int)), .one (.int .i64 (2 : Int))] [.one (.bool v4)]) ∧ T2 ((Tt ∧ (!v4) = false) ∧ Tt ∧ T2 (T4 ((Tt ∧ (decide ((a0.Tracks.length : Int) < (1 : Int))) = false) ∧ Tt ∧ T2 (T4 Tt))))))) [.no, .no, .no, .no, .call [.one (.int .i64 a0.Length), .one (.int .i64 (1 : Int)), .one (.int .i64 (1000 : Int))] [.one (.bool v1)] [[.view]], .no, .dec false, .no, .no, .no, .no, .call [.one (.int .i64 a0.Kind), .one (.int .i64 (0 : Int)), .one (.int .i64 (2 : Int))] [.one (.bool v4)] [[.view]], .no, .no, .dec false, .no, .no, .no, .no, .no, .no, .no, .dec false] [0, 33] [] ⟨tr, tr, tr, tr, ⟨⟨rfl, rfl, rfl, tr⟩, ok_spec_l00In K a0.Length (1 : Int) (1000 : Int) v1 e2⟩, tr, ⟨tr, b3⟩, tr, tr, tr, tr, ⟨⟨rfl, rfl, rfl, tr⟩, ok_spec_l00In K a0.Kind (0 : Int) (2 : Int) v4 e5⟩, tr, tr, ⟨tr, b6⟩, tr, tr, tr, tr, tr, tr, tr, ⟨tr, b7⟩, tr, tr, tr, tr, tr, tr, tr, tr⟩ ⟨rfl, rfl⟩
  refine thenQ_normal ?_
  rcases ite2_cases h with ⟨b10, h⟩ | ⟨b10, h⟩
  · refine AW.cond_t rfl b10 ?_
    refine AW.seq (AW.rA ⟨[(2, (vc (.bool false)))], []⟩ (Tt ∧ Tt) [] [2] [] ⟨tr, tr⟩ (thenQ_normal ?_))
    refine AW.ret ?_
    refine thenQ_ret ?_
    replace h := some_eq h
    subst h
    exact ⟨.inr rfl, retOK_of [(.one (.c (.bool false)))] (by kernel_rfl) ⟨⟨rfl, tr⟩, tr⟩ (of_decide_eq_true (by kernel_rfl))⟩
  · refine AW.cond_f rfl b10 ?_
    refine AW.skip ?_
    refine thenQ_normal ?_
    refine AW.seq ?_
    refine AW.seq (AW.rA ⟨[(0, (vc (pl 4 cs_Clip a0))), (38, (vc (.int .i64 (a0.Tracks.length : Int)))), (39, (vc (.int .i64 (0 : Int))))], []⟩ (T2 (T4 Tt)) [] [0, 38, 39] [] ⟨tr, tr, tr, tr, tr, tr, tr⟩ (thenQ_normal ?_))
    refine AW.block ?_
    refine AW.loopQ (σ := Nat × Int) (fun p => ⟨[(0, (vc (pl 4 cs_Clip a0))), (38, (vc (.int .i64 (a0.Tracks.length : Int)))), (39, (vc (.int .i64 p.2)))], []⟩) (fun p => spec_l05Is_l1 K a0 p.1 p.2 = some o) (fun p => p.1) (K, (0 : Int)) h ?_
    clear h
    rintro ⟨k, x12⟩ h
    replace h : spec_l05Is_l1 K a0 k x12 = some o := h
    show AW _ _ (⟨[(0, (vc (pl 4 cs_Clip a0))), (38, (vc (.int .i64 (a0.Tracks.length : Int)))), (39, (vc (.int .i64 x12)))], []⟩ : St) _
    obtain _ | k := k
    · rw [spec_l05Is_l1] at h; cases h
    rw [spec_l05Is_l1] at h
    refine AW.seq (AW.rA ⟨[(0, (vc (pl 4 cs_Clip a0))), (38, (vc (.int .i64 (a0.Tracks.length : Int)))), (39, (vc (.int .i64 x12))), (40, (vc (.bool (decide (x12 < (a0.Tracks.length : Int))))))], []⟩ (Tt ∧ Tt) [] [0, 38, 39, 40] [] ⟨tr, tr⟩ (thenQ_normal ?_))
    refine AW.seq ?_
    rcases ite2_cases h with ⟨b13, h⟩ | ⟨b13, h⟩
    · refine AW.cond_t rfl b13 ?_
      refine AW.skip ?_
      refine thenQ_normal ?_
      refine AW.seq ?_
      refine AW.block ?_
      refine AW.seq (AW.rA ⟨[(0, (vc (pl 4 cs_Clip a0))), (3, (vc (.int .i64 x12))), (38, (vc (.int .i64 (a0.Tracks.length : Int)))), (39, (vc (.int .i64 x12)))], []⟩ (T2 Tt) [] [0, 3, 38, 39] [] ⟨tr, tr, tr⟩ (thenQ_normal ?_))
      refine AW.seq ?_
      obtain ⟨c14, h⟩ := chk_some h
      obtain ⟨v15, e16, h⟩ := bind_some h
      obtain ⟨v17, e18, h⟩ := bind_some h
      refine AW.dA ⟨[(0, (vc (pl 4 cs_Clip a0))), (38, (vc (.int .i64 (a0.Tracks.length : Int)))), (39, (vc (.int .i64 x12))), (55, (vc (.bool (!v17))))], []⟩ ((Tt ∧ T4 ((0 ≤ x12 ∧ x12 < (a0.Tracks.length : Int)) ∧ Tt ∧ (((Eqc (sl 5 cs_Key (a0.Tracks.getD x12.toNat default))) ∧ Tt) ∧ CallOK Tryz.prog 34 [.one (sl 5 cs_Key (a0.Tracks.getD x12.toNat default))] [.one (sl 1 (csI .i64) v15)]) ∧ T4 ((((Eqc (sl 1 (csI .i64) v15)) ∧ (Eqc (.int .i64 a0.Length)) ∧ Tt) ∧ CallOK Tryz.prog 33 [.one (sl 1 (csI .i64) v15), .one (.int .i64 a0.Length)] [.one (.bool v17)]) ∧ Tt ∧ Tt))) ∧ (Tt)) 14 [.no, .no, .no, .no, .no, .no, .no, .call [.one (sl 5 cs_Key (a0.Tracks.getD x12.toNat default))] [.one (sl 1 (csI .i64) v15)] [[.lst 3]], .no, .no, .no, .no, .call [.one (sl 1 (csI .i64) v15), .one (.int .i64 a0.Length)] [.one (.bool v17)] [[.view]]] [0, 38, 39, 55] [] ⟨⟨tr, tr, tr, tr, tr, c14, tr, ⟨⟨rfl, tr⟩, ok_spec_l05At K (a0.Tracks.getD x12.toNat default) v15 e16⟩, tr, tr, tr, tr, ⟨⟨rfl, rfl, tr⟩, ok_spec_l05Times K v15 a0.Length v17 e18⟩, tr, tr⟩, tr⟩ ?_
      refine thenQ_normal ?_
      rcases ite2_cases h with ⟨b19, h⟩ | ⟨b19, h⟩
      · refine AW.cond_t rfl b19 ?_
        refine AW.seq (AW.rA ⟨[(2, (vc (.bool false)))], []⟩ (Tt ∧ Tt) [] [2] [] ⟨tr, tr⟩ (thenQ_normal ?_))
        refine AW.ret ?_
        refine blockQ_ret ?_
        refine thenQ_ret ?_
        refine loopQ_ret ?_
        refine blockQ_ret ?_
        refine thenQ_ret ?_
        replace h := some_eq h
        subst h
        exact ⟨.inr rfl, retOK_of [(.one (.c (.bool false)))] (by kernel_rfl) ⟨⟨rfl, tr⟩, tr⟩ (of_decide_eq_true (by kernel_rfl))⟩
      · refine AW.cond_f rfl b19 ?_
        refine AW.skip ?_
        refine blockQ_normal ?_
        refine thenQ_normal ?_
        refine AW.rA ⟨[(0, (vc (pl 4 cs_Clip a0))), (38, (vc (.int .i64 (a0.Tracks.length : Int)))), (39, (vc (.int .i64 (IntKind.i64.wrap (x12 + (1 : Int))))))], []⟩ (T2 Tt) [] [0, 38, 39] [] ⟨tr, tr, tr⟩ ?_
        exact loopQ_normal (k, (IntKind.i64.wrap (x12 + (1 : Int)))) h (Nat.lt_succ_self k) (Sub.keep [0, 38, 39] [] (by kernel_rfl) (by kernel_rfl))
    · refine AW.cond_f rfl b13 ?_
      refine AW.exit ?_
      refine thenQ_exit ?_
      refine loopQ_exit ?_
      refine blockQ_exit ?_
      refine thenQ_normal ?_
      refine AW.seq ?_
      obtain ⟨v20, e21, h⟩ := bind_some h
      obtain ⟨v22, e23, h⟩ := bind_some h
      refine AW.dA ⟨[(2, (vc (.bool v22)))], []⟩ ((T4 ((((Eqc (sl 4 cs_RootKey a0.Roots)) ∧ Tt) ∧ CallOK Tryz.prog 35 [.one (sl 4 cs_RootKey a0.Roots)] [.one (sl 1 (csI .i64) v20)]) ∧ T4 ((((Eqc (sl 1 (csI .i64) v20)) ∧ (Eqc (.int .i64 a0.Length)) ∧ Tt) ∧ CallOK Tryz.prog 33 [.one (sl 1 (csI .i64) v20), .one (.int .i64 a0.Length)] [.one (.bool v22)]) ∧ Tt ∧ Tt))) ∧ (Tt)) 11 [.no, .no, .no, .no, .call [.one (sl 4 cs_RootKey a0.Roots)] [.one (sl 1 (csI .i64) v20)] [[.lst 4]], .no, .no, .no, .no, .call [.one (sl 1 (csI .i64) v20), .one (.int .i64 a0.Length)] [.one (.bool v22)] [[.view]]] [2] [] ⟨⟨tr, tr, tr, tr, ⟨⟨rfl, tr⟩, ok_spec_l05RootAt K a0.Roots v20 e21⟩, tr, tr, tr, tr, ⟨⟨rfl, rfl, tr⟩, ok_spec_l05Times K v20 a0.Length v22 e23⟩, tr, tr⟩, tr⟩ ?_
      refine thenQ_normal ?_
      refine AW.ret ?_
      replace h := some_eq h
      subst h
      exact ⟨.inr rfl, retOK_of [(.one (.c (.bool v22)))] (by kernel_rfl) ⟨⟨rfl, tr⟩, tr⟩ (of_decide_eq_true (by kernel_rfl))⟩

/-! spec.l05Own -/
def spec_l05Own (_K : Nat) (a0 : (List RootKey)) : Option ((List RootKey)) :=
  chk ((([] : List RootKey).length + a0.length) * 24 ≤ 140737488355328) (some (([] : List RootKey) ++ a0))

theorem ok_spec_l05Own (K : Nat) (a0 : (List RootKey)) (o : ((List RootKey))) (h : spec_l05Own K a0 = some o) : CallOK Tryz.prog 14 [.one (sl 4 cs_RootKey a0)] [.one (sl 4 cs_RootKey o)] := by
  refine callOK_of_AW Tryz.func14 rfl (by kernel_rfl) (Nat.le_of_ble_eq_true (by kernel_rfl)) ?_
  intro w0
  unfold spec_l05Own at h
  refine AW.seq (AW.rA ⟨[(0, (vc (sl 4 cs_RootKey a0)))], []⟩ (Tt ∧ Tt) [] [0] [] ⟨tr, tr⟩ (thenQ_normal ?_))
  refine AW.seq ?_
  obtain ⟨c1, h⟩ := chk_some h
  refine AW.rA ⟨[(2, (.v (.one (.lst 2 (([] : List RootKey) ++ a0).length 4 (gl cs_RootKey (([] : List RootKey) ++ a0))))))], [(2, (.lst (([] : List RootKey) ++ a0).length 4 (gl cs_RootKey (([] : List RootKey) ++ a0))))]⟩ ((([] : List RootKey).length = 0 ∧ Tt) ∧ Tt ∧ ((([] : List RootKey) ++ a0).length = ([] : List RootKey).length + a0.length ∧ AppOb (([] : List RootKey).length) (a0.length) 4 (gl cs_RootKey ([] : List RootKey)) (gl cs_RootKey a0) (gl cs_RootKey (([] : List RootKey) ++ a0)) ∧ (∀ i j, i < a0.length → j < 4 → scalarC (gl cs_RootKey a0 i j)) ∧ (([] : List RootKey).length + a0.length) * 24 ≤ 140737488355328) ∧ Tt ∧ Tt) [.obj 1 ([] : List RootKey).length (gl cs_RootKey ([] : List RootKey)), .no, .obj 2 (([] : List RootKey) ++ a0).length (gl cs_RootKey (([] : List RootKey) ++ a0))] [2] [2] ⟨⟨rfl, tr⟩, tr, ⟨List.length_append, gl_append, gl_scalar sc_RootKey _, c1⟩, tr, tr⟩ ?_
  refine thenQ_normal ?_
  refine AW.ret ?_
  replace h := some_eq h
  subst h
  exact ⟨.inr rfl, retOK_of [(.one (.lst 2 (([] : List RootKey) ++ a0).length 4 (gl cs_RootKey (([] : List RootKey) ++ a0))))] (by kernel_rfl) ⟨rfl, tr⟩ (of_decide_eq_true (by kernel_rfl))⟩

/-! spec.l02Inner -/
def spec_l02Inner (_K : Nat) (a0 : Turn) (a1 : Turn) : Option (F32) :=
  some ((((a0.W.mul a1.W).add (a0.X.mul a1.X)).add (a0.Y.mul a1.Y)).add (a0.Z.mul a1.Z))

theorem ok_spec_l02Inner (K : Nat) (a0 : Turn) (a1 : Turn) (o : (F32)) (h : spec_l02Inner K a0 a1 = some o) : CallOK Tryz.prog 40 [.agg (cs_Turn a0), .agg (cs_Turn a1)] [.one (.flt .f32 o.bits)] := by
  refine callOK_of_AW Tryz.func40 rfl (by kernel_rfl) (Nat.le_of_ble_eq_true (by kernel_rfl)) ?_
  intro w0
  unfold spec_l02Inner at h
  refine AW.seq (AW.rA ⟨[(2, (vp 1 0)), (3, (vp 2 0))], [(1, (.box [(.c (.flt .f32 a0.W.bits)), (.c (.flt .f32 a0.X.bits)), (.c (.flt .f32 a0.Y.bits)), (.c (.flt .f32 a0.Z.bits))])), (2, (.box [(.c (.flt .f32 a1.W.bits)), (.c (.flt .f32 a1.X.bits)), (.c (.flt .f32 a1.Y.bits)), (.c (.flt .f32 a1.Z.bits))]))]⟩ (Tt ∧ T2 Tt) [.box 1, .box 2] [2, 3] [1, 2] ⟨tr, tr, tr, tr⟩ (thenQ_normal ?_))
  refine AW.seq (AW.rA ⟨[(2, (vp 1 0)), (3, (vp 2 0)), (5, (vc (.flt .f32 ((a0.W.mul a1.W).add (a0.X.mul a1.X)).bits)))], [(1, (.box [(.c (.flt .f32 a0.W.bits)), (.c (.flt .f32 a0.X.bits)), (.c (.flt .f32 a0.Y.bits)), (.c (.flt .f32 a0.Z.bits))])), (2, (.box [(.c (.flt .f32 a1.W.bits)), (.c (.flt .f32 a1.X.bits)), (.c (.flt .f32 a1.Y.bits)), (.c (.flt .f32 a1.Z.bits))]))]⟩ (T4 (T4 (T4 Tt))) [] [2, 3, 5] [1, 2] ⟨tr, tr, tr, tr, tr, tr, tr, tr, tr, tr, tr, tr, tr⟩ (thenQ_normal ?_))
  refine AW.seq (AW.rA ⟨[(2, (vp 1 0)), (3, (vp 2 0)), (5, (vc (.flt .f32 (((a0.W.mul a1.W).add (a0.X.mul a1.X)).add (a0.Y.mul a1.Y)).bits)))], [(1, (.box [(.c (.flt .f32 a0.W.bits)), (.c (.flt .f32 a0.X.bits)), (.c (.flt .f32 a0.Y.bits)), (.c (.flt .f32 a0.Z.bits))])), (2, (.box [(.c (.flt .f32 a1.W.bits)), (.c (.flt .f32 a1.X.bits)), (.c (.flt .f32 a1.Y.bits)), (.c (.flt .f32 a1.Z.bits))]))]⟩ (T4 (T4 Tt)) [] [2, 3, 5] [1, 2] ⟨tr, tr, tr, tr, tr, tr, tr, tr, tr⟩ (thenQ_normal ?_))
  refine AW.seq (AW.rA ⟨[(4, (vc (.flt .f32 ((((a0.W.mul a1.W).add (a0.X.mul a1.X)).add (a0.Y.mul a1.Y)).add (a0.Z.mul a1.Z)).bits)))], []⟩ (T4 (T4 Tt)) [] [4] [] ⟨tr, tr, tr, tr, tr, tr, tr, tr, tr⟩ (thenQ_normal ?_))
  refine AW.ret ?_
  replace h := some_eq h
  subst h
  exact ⟨.inr rfl, retOK_of [(.one (.c (.flt .f32 ((((a0.W.mul a1.W).add (a0.X.mul a1.X)).add (a0.Y.mul a1.Y)).add (a0.Z.mul a1.Z)).bits)))] (by kernel_rfl) ⟨⟨rfl, tr⟩, tr⟩ (of_decide_eq_true (by kernel_rfl))⟩

/-! spec.l02Opposite -/
def spec_l02Opposite (_K : Nat) (a0 : Turn) (a1 : F32) : Option (Turn) :=
  ite2 ((a1.lt' (Fl.mk (k := .f32) 0 (by decide)))) (some (Turn.mk (a0.W.neg) (a0.X.neg) (a0.Y.neg) (a0.Z.neg))) (some a0)

theorem ok_spec_l02Opposite (K : Nat) (a0 : Turn) (a1 : F32) (o : (Turn)) (h : spec_l02Opposite K a0 a1 = some o) : CallOK Tryz.prog 39 [.agg (cs_Turn a0), .one (.flt .f32 a1.bits)] [.agg (cs_Turn o)] := by
  refine callOK_of_AW Tryz.func39 rfl (by kernel_rfl) (Nat.le_of_ble_eq_true (by kernel_rfl)) ?_
  intro w0
  unfold spec_l02Opposite at h
  refine AW.seq (AW.rA ⟨[(1, (vc (.flt .f32 a1.bits))), (2, (vp 1 0)), (4, (vp 2 0))], [(1, (.box [(.c (.flt .f32 a0.W.bits)), (.c (.flt .f32 a0.X.bits)), (.c (.flt .f32 a0.Y.bits)), (.c (.flt .f32 a0.Z.bits))])), (2, (.box [(.c (.flt .f32 (default : F32).bits)), (.c (.flt .f32 (default : F32).bits)), (.c (.flt .f32 (default : F32).bits)), (.c (.flt .f32 (default : F32).bits))]))]⟩ (T2 Tt) [.box 1, .box 2] [1, 2, 4] [1, 2] ⟨tr, tr, tr⟩ (thenQ_normal ?_))
  refine AW.seq ?_
  refine AW.seq (AW.rA ⟨[(2, (vp 1 0)), (4, (vp 2 0)), (6, (vc (.bool (a1.lt' (Fl.mk (k := .f32) 0 (by decide))))))], [(1, (.box [(.c (.flt .f32 a0.W.bits)), (.c (.flt .f32 a0.X.bits)), (.c (.flt .f32 a0.Y.bits)), (.c (.flt .f32 a0.Z.bits))])), (2, (.box [(.c (.flt .f32 (default : F32).bits)), (.c (.flt .f32 (default : F32).bits)), (.c (.flt .f32 (default : F32).bits)), (.c (.flt .f32 (default : F32).bits))]))]⟩ (T2 Tt) [] [2, 4, 6] [1, 2] ⟨tr, tr, tr⟩ (thenQ_normal ?_))
  rcases ite2_cases h with ⟨b1, h⟩ | ⟨b1, h⟩
  · refine AW.cond_t rfl b1 ?_
    refine AW.seq (AW.rA ⟨[(4, (vp 2 0))], [(2, (.box [(.c (.flt .f32 (a0.W.neg).bits)), (.c (.flt .f32 (a0.X.neg).bits)), (.c (.flt .f32 (a0.Y.neg).bits)), (.c (.flt .f32 (a0.Z.neg).bits))]))]⟩ (T2 (T4 (T4 (T4 Tt)))) [] [4] [2] ⟨tr, tr, tr, tr, tr, tr, tr, tr, tr, tr, tr, tr, tr, tr, tr⟩ (thenQ_normal ?_))
    refine AW.ret ?_
    refine thenQ_ret ?_
    replace h := some_eq h
    subst h
    exact ⟨.inr rfl, retOK_of [(.agg [(.c (.flt .f32 (a0.W.neg).bits)), (.c (.flt .f32 (a0.X.neg).bits)), (.c (.flt .f32 (a0.Y.neg).bits)), (.c (.flt .f32 (a0.Z.neg).bits))])] (by kernel_rfl) ⟨⟨⟨rfl, tr⟩, ⟨rfl, tr⟩, ⟨rfl, tr⟩, ⟨rfl, tr⟩, tr⟩, tr⟩ (of_decide_eq_true (by kernel_rfl))⟩
  · refine AW.cond_f rfl b1 ?_
    refine AW.skip ?_
    refine thenQ_normal ?_
    refine AW.seq (AW.rA ⟨[(4, (vp 2 0))], [(2, (.box [(.c (.flt .f32 a0.W.bits)), (.c (.flt .f32 a0.X.bits)), (.c (.flt .f32 a0.Y.bits)), (.c (.flt .f32 a0.Z.bits))]))]⟩ (T2 Tt) [] [4] [2] ⟨tr, tr, tr⟩ (thenQ_normal ?_))
    refine AW.ret ?_
    replace h := some_eq h
    subst h
    exact ⟨.inr rfl, retOK_of [(.agg [(.c (.flt .f32 a0.W.bits)), (.c (.flt .f32 a0.X.bits)), (.c (.flt .f32 a0.Y.bits)), (.c (.flt .f32 a0.Z.bits))])] (by kernel_rfl) ⟨⟨⟨rfl, tr⟩, ⟨rfl, tr⟩, ⟨rfl, tr⟩, ⟨rfl, tr⟩, tr⟩, tr⟩ (of_decide_eq_true (by kernel_rfl))⟩

/-! spec.l02Step -/
def spec_l02Step (_K : Nat) (a0 : F32) (a1 : F32) (a2 : F32) : Option (F32) :=
  some (a0.add (a2.mul (a1.sub a0)))

theorem ok_spec_l02Step (K : Nat) (a0 : F32) (a1 : F32) (a2 : F32) (o : (F32)) (h : spec_l02Step K a0 a1 a2 = some o) : CallOK Tryz.prog 42 [.one (.flt .f32 a0.bits), .one (.flt .f32 a1.bits), .one (.flt .f32 a2.bits)] [.one (.flt .f32 o.bits)] := by
  refine callOK_of_AW Tryz.func42 rfl (by kernel_rfl) (Nat.le_of_ble_eq_true (by kernel_rfl)) ?_
  intro w0
  unfold spec_l02Step at h
  refine AW.seq (AW.rA ⟨[(0, (vc (.flt .f32 a0.bits))), (1, (vc (.flt .f32 a1.bits))), (2, (vc (.flt .f32 a2.bits)))], []⟩ (Tt ∧ Tt) [] [0, 1, 2] [] ⟨tr, tr⟩ (thenQ_normal ?_))
  refine AW.seq (AW.rA ⟨[(6, (vc (.flt .f32 (a0.add (a2.mul (a1.sub a0))).bits)))], []⟩ (T4 (T4 Tt)) [] [6] [] ⟨tr, tr, tr, tr, tr, tr, tr, tr, tr⟩ (thenQ_normal ?_))
  refine AW.ret ?_
  replace h := some_eq h
  subst h
  exact ⟨.inr rfl, retOK_of [(.one (.c (.flt .f32 (a0.add (a2.mul (a1.sub a0))).bits)))] (by kernel_rfl) ⟨⟨rfl, tr⟩, tr⟩ (of_decide_eq_true (by kernel_rfl))⟩

/-! math.sqrt -/
def math_sqrt (_K : Nat) (a0 : F64) : Option (F64) :=
  some a0.sqrt

theorem ok_math_sqrt (K : Nat) (a0 : F64) (o : F64) (h : math_sqrt K a0 = some o) : CallOK Tryz.prog 105 [.one (.flt .f64 a0.bits)] [.one (.flt .f64 o.bits)] :=
  hand_sqrt (e := Extern.MathSqrt.sqrt) Tryz.func105 (by kernel_rfl) (by kernel_rfl) (by kernel_rfl) (by kernel_rfl) (fun _ => rfl) a0 o h

/-! math.Sqrt -/
def math_Sqrt (K : Nat) (a0 : F64) : Option (F64) :=
  (math_sqrt K a0).bind fun v1 => some v1

theorem ok_math_Sqrt (K : Nat) (a0 : F64) (o : (F64)) (h : math_Sqrt K a0 = some o) : CallOK Tryz.prog 87 [.one (.flt .f64 a0.bits)] [.one (.flt .f64 o.bits)] := by
  refine callOK_of_AW Tryz.func87 rfl (by kernel_rfl) (Nat.le_of_ble_eq_true (by kernel_rfl)) ?_
  intro w0
  unfold math_Sqrt at h
  refine AW.seq (AW.rA ⟨[(0, (vc (.flt .f64 a0.bits)))], []⟩ (Tt ∧ Tt) [] [0] [] ⟨tr, tr⟩ (thenQ_normal ?_))
  refine AW.seq ?_
  obtain ⟨v1, e2, h⟩ := bind_some h
  refine AW.rA ⟨[(2, (vc (.flt .f64 v1.bits)))], []⟩ (Tt ∧ (((Eqc (.flt .f64 a0.bits)) ∧ Tt) ∧ CallOK Tryz.prog 105 [.one (.flt .f64 a0.bits)] [.one (.flt .f64 v1.bits)]) ∧ Tt ∧ Tt) [.no, .call [.one (.flt .f64 a0.bits)] [.one (.flt .f64 v1.bits)] [[.view]]] [2] [] ⟨tr, ⟨⟨rfl, tr⟩, ok_math_sqrt K a0 v1 e2⟩, tr, tr⟩ ?_
  refine thenQ_normal ?_
  refine AW.ret ?_
  replace h := some_eq h
  subst h
  exact ⟨.inr rfl, retOK_of [(.one (.c (.flt .f64 v1.bits)))] (by kernel_rfl) ⟨⟨rfl, tr⟩, tr⟩ (of_decide_eq_true (by kernel_rfl))⟩

/-! spec.l01Narrow -/
def spec_l01Narrow (_K : Nat) (a0 : F64) : Option (F32) :=
  chk ((convBits .f64 a0.bits .f32).isSome = true) (some (Fl.cv .f64 .f32 a0))

theorem ok_spec_l01Narrow (K : Nat) (a0 : F64) (o : (F32)) (h : spec_l01Narrow K a0 = some o) : CallOK Tryz.prog 82 [.one (.flt .f64 a0.bits)] [.one (.flt .f32 o.bits)] := by
  refine callOK_of_AW Tryz.func82 rfl (by kernel_rfl) (Nat.le_of_ble_eq_true (by kernel_rfl)) ?_
  intro w0
  unfold spec_l01Narrow at h
  refine AW.seq (AW.rA ⟨[(0, (vc (.flt .f64 a0.bits)))], []⟩ (Tt ∧ Tt) [] [0] [] ⟨tr, tr⟩ (thenQ_normal ?_))
  refine AW.seq ?_
  obtain ⟨c1, h⟩ := chk_some h
  refine AW.rA ⟨[(2, (vc (.flt .f32 (Fl.cv .f64 .f32 a0).bits)))], []⟩ (Tt ∧ ((convBits .f64 a0.bits .f32).isSome = true) ∧ Tt ∧ Tt) [] [2] [] ⟨tr, c1, tr, tr⟩ ?_
  refine thenQ_normal ?_
  refine AW.ret ?_
  replace h := some_eq h
  subst h
  exact ⟨.inr rfl, retOK_of [(.one (.c (.flt .f32 (Fl.cv .f64 .f32 a0).bits)))] (by kernel_rfl) ⟨⟨rfl, tr⟩, tr⟩ (of_decide_eq_true (by kernel_rfl))⟩

/-! spec.l01Sqrt -/
def spec_l01Sqrt (K : Nat) (a0 : F32) : Option (F32) :=
  (math_Sqrt K (Fl.cv .f32 .f64 a0)).bind fun v1 => (spec_l01Narrow K v1).bind fun v3 => some v3

theorem ok_spec_l01Sqrt (K : Nat) (a0 : F32) (o : (F32)) (h : spec_l01Sqrt K a0 = some o) : CallOK Tryz.prog 61 [.one (.flt .f32 a0.bits)] [.one (.flt .f32 o.bits)] := by
  refine callOK_of_AW Tryz.func61 rfl (by kernel_rfl) (Nat.le_of_ble_eq_true (by kernel_rfl)) ?_
  intro w0
  unfold spec_l01Sqrt at h
  refine AW.seq (AW.rA ⟨[(0, (vc (.flt .f32 a0.bits)))], []⟩ (Tt ∧ Tt) [] [0] [] ⟨tr, tr⟩ (thenQ_normal ?_))
  refine AW.seq ?_
  obtain ⟨v1, e2, h⟩ := bind_some h
  obtain ⟨v3, e4, h⟩ := bind_some h
  refine AW.rA ⟨[(2, (vc (.flt .f32 v3.bits)))], []⟩ (Tt ∧ ((convBits .f32 a0.bits .f64).isSome = true) ∧ (((Eqc (.flt .f64 (Fl.cv .f32 .f64 a0).bits)) ∧ Tt) ∧ CallOK Tryz.prog 87 [.one (.flt .f64 (Fl.cv .f32 .f64 a0).bits)] [.one (.flt .f64 v1.bits)]) ∧ (((Eqc (.flt .f64 v1.bits)) ∧ Tt) ∧ CallOK Tryz.prog 82 [.one (.flt .f64 v1.bits)] [.one (.flt .f32 v3.bits)]) ∧ Tt ∧ Tt) [.no, .no, .call [.one (.flt .f64 (Fl.cv .f32 .f64 a0).bits)] [.one (.flt .f64 v1.bits)] [[.view]], .call [.one (.flt .f64 v1.bits)] [.one (.flt .f32 v3.bits)] [[.view]]] [2] [] ⟨tr, cv_wide a0, ⟨⟨rfl, tr⟩, ok_math_Sqrt K (Fl.cv .f32 .f64 a0) v1 e2⟩, ⟨⟨rfl, tr⟩, ok_spec_l01Narrow K v1 v3 e4⟩, tr, tr⟩ ?_
  refine thenQ_normal ?_
  refine AW.ret ?_
  replace h := some_eq h
  subst h
  exact ⟨.inr rfl, retOK_of [(.one (.c (.flt .f32 v3.bits)))] (by kernel_rfl) ⟨⟨rfl, tr⟩, tr⟩ (of_decide_eq_true (by kernel_rfl))⟩

/-! spec.l01Finite -/
def spec_l01Finite (_K : Nat) (a0 : F32) : Option (Bool) :=
  some ((a0.sub a0).eq (Fl.mk (k := .f32) 0 (by decide)))

theorem ok_spec_l01Finite (K : Nat) (a0 : F32) (o : (Bool)) (h : spec_l01Finite K a0 = some o) : CallOK Tryz.prog 62 [.one (.flt .f32 a0.bits)] [.one (.bool o)] := by
  refine callOK_of_AW Tryz.func62 rfl (by kernel_rfl) (Nat.le_of_ble_eq_true (by kernel_rfl)) ?_
  intro w0
  unfold spec_l01Finite at h
  refine AW.seq (AW.rA ⟨[(0, (vc (.flt .f32 a0.bits)))], []⟩ (Tt ∧ Tt) [] [0] [] ⟨tr, tr⟩ (thenQ_normal ?_))
  refine AW.seq (AW.rA ⟨[(2, (vc (.bool ((a0.sub a0).eq (Fl.mk (k := .f32) 0 (by decide))))))], []⟩ (Tt ∧ T4 Tt) [] [2] [] ⟨tr, tr, tr, tr, tr, tr⟩ (thenQ_normal ?_))
  refine AW.ret ?_
  replace h := some_eq h
  subst h
  exact ⟨.inr rfl, retOK_of [(.one (.c (.bool ((a0.sub a0).eq (Fl.mk (k := .f32) 0 (by decide))))))] (by kernel_rfl) ⟨⟨rfl, tr⟩, tr⟩ (of_decide_eq_true (by kernel_rfl))⟩

/-! spec.l02No -/
def spec_l02No (_K : Nat) : Option (Turn) :=
  some (Turn.mk (Fl.mk (k := .f32) 1065353216 (by decide)) (default : F32) (default : F32) (default : F32))

theorem ok_spec_l02No (K : Nat) (o : (Turn)) (h : spec_l02No K  = some o) : CallOK Tryz.prog 63 [] [.agg (cs_Turn o)] := by
  refine callOK_of_AW Tryz.func63 rfl (by kernel_rfl) (Nat.le_of_ble_eq_true (by kernel_rfl)) ?_
  intro w0
  unfold spec_l02No at h
  refine AW.seq (AW.rA ⟨[(0, (vp 1 0))], [(1, (.box [(.c (.flt .f32 (default : F32).bits)), (.c (.flt .f32 (default : F32).bits)), (.c (.flt .f32 (default : F32).bits)), (.c (.flt .f32 (default : F32).bits))]))]⟩ (Tt ∧ Tt) [.box 1] [0] [1] ⟨tr, tr⟩ (thenQ_normal ?_))
  refine AW.seq (AW.rA ⟨[(0, (vp 1 0))], [(1, (.box [(.c (.flt .f32 (Fl.mk (k := .f32) 1065353216 (by decide)).bits)), (.c (.flt .f32 (default : F32).bits)), (.c (.flt .f32 (default : F32).bits)), (.c (.flt .f32 (default : F32).bits))]))]⟩ (T2 Tt) [] [0] [1] ⟨tr, tr, tr⟩ (thenQ_normal ?_))
  refine AW.ret ?_
  replace h := some_eq h
  subst h
  exact ⟨.inr rfl, retOK_of [(.agg [(.c (.flt .f32 (Fl.mk (k := .f32) 1065353216 (by decide)).bits)), (.c (.flt .f32 (default : F32).bits)), (.c (.flt .f32 (default : F32).bits)), (.c (.flt .f32 (default : F32).bits))])] (by kernel_rfl) ⟨⟨⟨rfl, tr⟩, ⟨rfl, tr⟩, ⟨rfl, tr⟩, ⟨rfl, tr⟩, tr⟩, tr⟩ (of_decide_eq_true (by kernel_rfl))⟩

/-! spec.l02Mend -/
def spec_l02Mend (K : Nat) (a0 : Turn) : Option (Turn) :=
  (spec_l02Inner K a0 a0).bind fun v1 => (spec_l01Sqrt K v1).bind fun v3 => (ite2 ((v3.eq (Fl.mk (k := .f32) 0 (by decide)))) (some true) ((spec_l01Finite K v3).bind fun v6 => some (!v6))).bind fun j8 => ite2 (j8) ((spec_l02No K ).bind fun v11 => some v11) (some (Turn.mk (a0.W.div v3) (a0.X.div v3) (a0.Y.div v3) (a0.Z.div v3)))

theorem ok_spec_l02Mend (K : Nat) (a0 : Turn) (o : (Turn)) (h : spec_l02Mend K a0 = some o) : CallOK Tryz.prog 41 [.agg (cs_Turn a0)] [.agg (cs_Turn o)] := by
  refine callOK_of_AW Tryz.func41 rfl (by kernel_rfl) (Nat.le_of_ble_eq_true (by kernel_rfl)) ?_
  intro w0
  unfold spec_l02Mend at h
  refine AW.seq (AW.rA ⟨[(1, (vp 1 0)), (2, (vp 2 0))], [(1, (.box [(.c (.flt .f32 a0.W.bits)), (.c (.flt .f32 a0.X.bits)), (.c (.flt .f32 a0.Y.bits)), (.c (.flt .f32 a0.Z.bits))])), (2, (.box [(.c (.flt .f32 (default : F32).bits)), (.c (.flt .f32 (default : F32).bits)), (.c (.flt .f32 (default : F32).bits)), (.c (.flt .f32 (default : F32).bits))]))]⟩ (T2 Tt) [.box 1, .box 2] [1, 2] [1, 2] ⟨tr, tr, tr⟩ (thenQ_normal ?_))
  refine AW.seq ?_
  obtain ⟨v1, e2, h⟩ := bind_some h
  obtain ⟨v3, e4, h⟩ := bind_some h
  refine AW.rA ⟨[(1, (vp 1 0)), (2, (vp 2 0)), (3, (vc (.flt .f32 v3.bits)))], [(1, (.box [(.c (.flt .f32 a0.W.bits)), (.c (.flt .f32 a0.X.bits)), (.c (.flt .f32 a0.Y.bits)), (.c (.flt .f32 a0.Z.bits))])), (2, (.box [(.c (.flt .f32 (default : F32).bits)), (.c (.flt .f32 (default : F32).bits)), (.c (.flt .f32 (default : F32).bits)), (.c (.flt .f32 (default : F32).bits))]))]⟩ (T2 (((((Eqc (.flt .f32 a0.W.bits)) ∧ (Eqc (.flt .f32 a0.X.bits)) ∧ (Eqc (.flt .f32 a0.Y.bits)) ∧ (Eqc (.flt .f32 a0.Z.bits)) ∧ Tt) ∧ ((Eqc (.flt .f32 a0.W.bits)) ∧ (Eqc (.flt .f32 a0.X.bits)) ∧ (Eqc (.flt .f32 a0.Y.bits)) ∧ (Eqc (.flt .f32 a0.Z.bits)) ∧ Tt) ∧ Tt) ∧ CallOK Tryz.prog 40 [.agg (cs_Turn a0), .agg (cs_Turn a0)] [.one (.flt .f32 v1.bits)]) ∧ (((Eqc (.flt .f32 v1.bits)) ∧ Tt) ∧ CallOK Tryz.prog 61 [.one (.flt .f32 v1.bits)] [.one (.flt .f32 v3.bits)]) ∧ Tt ∧ Tt)) [.no, .no, .call [.agg (cs_Turn a0), .agg (cs_Turn a0)] [.one (.flt .f32 v1.bits)] [[.view]], .call [.one (.flt .f32 v1.bits)] [.one (.flt .f32 v3.bits)] [[.view]]] [1, 2, 3] [1, 2] ⟨tr, tr, ⟨⟨⟨rfl, rfl, rfl, rfl, tr⟩, ⟨rfl, rfl, rfl, rfl, tr⟩, tr⟩, ok_spec_l02Inner K a0 a0 v1 e2⟩, ⟨⟨rfl, tr⟩, ok_spec_l01Sqrt K v1 v3 e4⟩, tr, tr⟩ ?_
  refine thenQ_normal ?_
  refine AW.seq ?_
  refine AW.seq ?_
  obtain ⟨j8, e9, h⟩ := bind_some h
  refine AW.join1 (s2 := ⟨[(1, (vp 1 0)), (2, (vp 2 0)), (3, (vc (.flt .f32 v3.bits))), (14, (vc (.bool j8)))], [(1, (.box [(.c (.flt .f32 a0.W.bits)), (.c (.flt .f32 a0.X.bits)), (.c (.flt .f32 a0.Y.bits)), (.c (.flt .f32 a0.Z.bits))])), (2, (.box [(.c (.flt .f32 (default : F32).bits)), (.c (.flt .f32 (default : F32).bits)), (.c (.flt .f32 (default : F32).bits)), (.c (.flt .f32 (default : F32).bits))]))]⟩) ?_ ?_
  · rcases ite2_cases e9 with ⟨b5, e9⟩ | ⟨b5, e9⟩
    · replace e9 := some_eq e9
      subst e9
      exact AW.rA ⟨[(1, (vp 1 0)), (2, (vp 2 0)), (3, (vc (.flt .f32 v3.bits))), (14, (vc (.bool true)))], [(1, (.box [(.c (.flt .f32 a0.W.bits)), (.c (.flt .f32 a0.X.bits)), (.c (.flt .f32 a0.Y.bits)), (.c (.flt .f32 a0.Z.bits))])), (2, (.box [(.c (.flt .f32 (default : F32).bits)), (.c (.flt .f32 (default : F32).bits)), (.c (.flt .f32 (default : F32).bits)), (.c (.flt .f32 (default : F32).bits))]))]⟩ (T2 ((Tt ∧ (v3.eq (Fl.mk (k := .f32) 0 (by decide))) = true) ∧ T4 Tt)) [.no, .no, .dec true] [1, 2, 3, 14] [1, 2] ⟨tr, tr, ⟨tr, b5⟩, tr, tr, tr, tr, tr⟩ ⟨rfl, rfl⟩
    · obtain ⟨v6, e7, e9⟩ := bind_some e9
      replace e9 := some_eq e9
      subst e9
      exact AW.rA ⟨[(1, (vp 1 0)), (2, (vp 2 0)), (3, (vc (.flt .f32 v3.bits))), (14, (vc (.bool (!v6))))], [(1, (.box [(.c (.flt .f32 a0.W.bits)), (.c (.flt .f32 a0.X.bits)), (.c (.flt .f32 a0.Y.bits)), (.c (.flt .f32 a0.Z.bits))])), (2, (.box [(.c (.flt .f32 (default : F32).bits)), (.c (.flt .f32 (default : F32).bits)), (.c (.flt .f32 (default : F32).bits)), (.c (.flt .f32 (default : F32).bits))]))]⟩ (T2 ((Tt ∧ (v3.eq (Fl.mk (k := .f32) 0 (by decide))) = false) ∧ Tt ∧ (((Eqc (.flt .f32 v3.bits)) ∧ Tt) ∧ CallOK Tryz.prog 62 [.one (.flt .f32 v3.bits)] [.one (.bool v6)]) ∧ T2 Tt)) [.no, .no, .dec false, .no, .call [.one (.flt .f32 v3.bits)] [.one (.bool v6)] [[.view]]] [1, 2, 3, 14] [1, 2] ⟨tr, tr, ⟨tr, b5⟩, tr, ⟨⟨rfl, tr⟩, ok_spec_l01Finite K v3 v6 e7⟩, tr, tr, tr⟩ ⟨rfl, rfl⟩
  refine thenQ_normal ?_
  rcases ite2_cases h with ⟨b10, h⟩ | ⟨b10, h⟩
  · refine AW.cond_t rfl b10 ?_
    refine AW.seq ?_
    obtain ⟨v11, e12, h⟩ := bind_some h
    refine AW.rA ⟨[(2, (vp 2 0))], [(2, (.box [(.c (.flt .f32 v11.W.bits)), (.c (.flt .f32 v11.X.bits)), (.c (.flt .f32 v11.Y.bits)), (.c (.flt .f32 v11.Z.bits))]))]⟩ (((Tt) ∧ CallOK Tryz.prog 63 [] [.agg (cs_Turn v11)]) ∧ Tt ∧ Tt) [.call [] [.agg (cs_Turn v11)] [[.view, .view, .view, .view]]] [2] [2] ⟨⟨tr, ok_spec_l02No K v11 e12⟩, tr, tr⟩ ?_
    refine thenQ_normal ?_
    refine AW.ret ?_
    refine thenQ_ret ?_
    replace h := some_eq h
    subst h
    exact ⟨.inr rfl, retOK_of [(.agg [(.c (.flt .f32 v11.W.bits)), (.c (.flt .f32 v11.X.bits)), (.c (.flt .f32 v11.Y.bits)), (.c (.flt .f32 v11.Z.bits))])] (by kernel_rfl) ⟨⟨⟨rfl, tr⟩, ⟨rfl, tr⟩, ⟨rfl, tr⟩, ⟨rfl, tr⟩, tr⟩, tr⟩ (of_decide_eq_true (by kernel_rfl))⟩
  · refine AW.cond_f rfl b10 ?_
    refine AW.skip ?_
    refine thenQ_normal ?_
    refine AW.seq (AW.rA ⟨[(2, (vp 2 0))], [(2, (.box [(.c (.flt .f32 (a0.W.div v3).bits)), (.c (.flt .f32 (a0.X.div v3).bits)), (.c (.flt .f32 (a0.Y.div v3).bits)), (.c (.flt .f32 (a0.Z.div v3).bits))]))]⟩ (T2 (T4 (T4 (T4 (T4 Tt))))) [] [2] [2] ⟨tr, tr, tr, tr, tr, tr, tr, tr, tr, tr, tr, tr, tr, tr, tr, tr, tr, tr, tr⟩ (thenQ_normal ?_))
    refine AW.ret ?_
    replace h := some_eq h
    subst h
    exact ⟨.inr rfl, retOK_of [(.agg [(.c (.flt .f32 (a0.W.div v3).bits)), (.c (.flt .f32 (a0.X.div v3).bits)), (.c (.flt .f32 (a0.Y.div v3).bits)), (.c (.flt .f32 (a0.Z.div v3).bits))])] (by kernel_rfl) ⟨⟨⟨rfl, tr⟩, ⟨rfl, tr⟩, ⟨rfl, tr⟩, ⟨rfl, tr⟩, tr⟩, tr⟩ (of_decide_eq_true (by kernel_rfl))⟩

/-! spec.l02Near -/
def spec_l02Near (K : Nat) (a0 : Turn) (a1 : Turn) (a2 : F32) : Option (Turn) :=
  (spec_l02Inner K a0 a1).bind fun v1 => (spec_l02Opposite K a1 v1).bind fun v3 => (spec_l02Step K a0.W v3.W a2).bind fun v5 => (spec_l02Step K a0.X v3.X a2).bind fun v7 => (spec_l02Step K a0.Y v3.Y a2).bind fun v9 => (spec_l02Step K a0.Z v3.Z a2).bind fun v11 => (spec_l02Mend K (Turn.mk v5 v7 v9 v11)).bind fun v13 => some v13

theorem ok_spec_l02Near (K : Nat) (a0 : Turn) (a1 : Turn) (a2 : F32) (o : (Turn)) (h : spec_l02Near K a0 a1 a2 = some o) : CallOK Tryz.prog 16 [.agg (cs_Turn a0), .agg (cs_Turn a1), .one (.flt .f32 a2.bits)] [.agg (cs_Turn o)] := by
  refine callOK_of_AW Tryz.func16 rfl (by kernel_rfl) (Nat.le_of_ble_eq_true (by kernel_rfl)) ?_
  intro w0
  unfold spec_l02Near at h
  refine AW.seq (AW.rA ⟨[(2, (vc (.flt .f32 a2.bits))), (3, (vp 1 0)), (4, (vp 2 0)), (6, (vp 3 0))], [(1, (.box [(.c (.flt .f32 a0.W.bits)), (.c (.flt .f32 a0.X.bits)), (.c (.flt .f32 a0.Y.bits)), (.c (.flt .f32 a0.Z.bits))])), (2, (.box [(.c (.flt .f32 a1.W.bits)), (.c (.flt .f32 a1.X.bits)), (.c (.flt .f32 a1.Y.bits)), (.c (.flt .f32 a1.Z.bits))])), (3, (.box [(.c (.flt .f32 (default : F32).bits)), (.c (.flt .f32 (default : F32).bits)), (.c (.flt .f32 (default : F32).bits)), (.c (.flt .f32 (default : F32).bits))]))]⟩ (Tt ∧ T2 Tt) [.box 1, .box 2, .box 3] [2, 3, 4, 6] [1, 2, 3] ⟨tr, tr, tr, tr⟩ (thenQ_normal ?_))
  refine AW.seq ?_
  obtain ⟨v1, e2, h⟩ := bind_some h
  obtain ⟨v3, e4, h⟩ := bind_some h
  refine AW.dA ⟨[(2, (vc (.flt .f32 a2.bits))), (3, (vp 1 0)), (4, (vp 2 0)), (6, (vp 3 0))], [(1, (.box [(.c (.flt .f32 a0.W.bits)), (.c (.flt .f32 a0.X.bits)), (.c (.flt .f32 a0.Y.bits)), (.c (.flt .f32 a0.Z.bits))])), (2, (.box [(.c (.flt .f32 v3.W.bits)), (.c (.flt .f32 v3.X.bits)), (.c (.flt .f32 v3.Y.bits)), (.c (.flt .f32 v3.Z.bits))])), (3, (.box [(.c (.flt .f32 (default : F32).bits)), (.c (.flt .f32 (default : F32).bits)), (.c (.flt .f32 (default : F32).bits)), (.c (.flt .f32 (default : F32).bits))]))]⟩ ((Tt ∧ T2 (((((Eqc (.flt .f32 a0.W.bits)) ∧ (Eqc (.flt .f32 a0.X.bits)) ∧ (Eqc (.flt .f32 a0.Y.bits)) ∧ (Eqc (.flt .f32 a0.Z.bits)) ∧ Tt) ∧ ((Eqc (.flt .f32 a1.W.bits)) ∧ (Eqc (.flt .f32 a1.X.bits)) ∧ (Eqc (.flt .f32 a1.Y.bits)) ∧ (Eqc (.flt .f32 a1.Z.bits)) ∧ Tt) ∧ Tt) ∧ CallOK Tryz.prog 40 [.agg (cs_Turn a0), .agg (cs_Turn a1)] [.one (.flt .f32 v1.bits)]) ∧ ((((Eqc (.flt .f32 a1.W.bits)) ∧ (Eqc (.flt .f32 a1.X.bits)) ∧ (Eqc (.flt .f32 a1.Y.bits)) ∧ (Eqc (.flt .f32 a1.Z.bits)) ∧ Tt) ∧ (Eqc (.flt .f32 v1.bits)) ∧ Tt) ∧ CallOK Tryz.prog 39 [.agg (cs_Turn a1), .one (.flt .f32 v1.bits)] [.agg (cs_Turn v3)]) ∧ Tt)) ∧ (Tt ∧ Tt)) 5 [.no, .no, .no, .call [.agg (cs_Turn a0), .agg (cs_Turn a1)] [.one (.flt .f32 v1.bits)] [[.view]], .call [.agg (cs_Turn a1), .one (.flt .f32 v1.bits)] [.agg (cs_Turn v3)] [[.view, .view, .view, .view]]] [2, 3, 4, 6] [1, 2, 3] ⟨⟨tr, tr, tr, ⟨⟨⟨rfl, rfl, rfl, rfl, tr⟩, ⟨rfl, rfl, rfl, rfl, tr⟩, tr⟩, ok_spec_l02Inner K a0 a1 v1 e2⟩, ⟨⟨⟨rfl, rfl, rfl, rfl, tr⟩, rfl, tr⟩, ok_spec_l02Opposite K a1 v1 v3 e4⟩, tr⟩, ⟨tr, tr⟩⟩ ?_
  refine thenQ_normal ?_
  refine AW.seq ?_
  obtain ⟨v5, e6, h⟩ := bind_some h
  obtain ⟨v7, e8, h⟩ := bind_some h
  obtain ⟨v9, e10, h⟩ := bind_some h
  obtain ⟨v11, e12, h⟩ := bind_some h
  obtain ⟨v13, e14, h⟩ := bind_some h
  refine AW.dA ⟨[(6, (vp 3 0))], [(3, (.box [(.c (.flt .f32 v13.W.bits)), (.c (.flt .f32 v13.X.bits)), (.c (.flt .f32 v13.Y.bits)), (.c (.flt .f32 v13.Z.bits))]))]⟩ ((Tt ∧ T4 ((((Eqc (.flt .f32 a0.W.bits)) ∧ (Eqc (.flt .f32 v3.W.bits)) ∧ (Eqc (.flt .f32 a2.bits)) ∧ Tt) ∧ CallOK Tryz.prog 42 [.one (.flt .f32 a0.W.bits), .one (.flt .f32 v3.W.bits), .one (.flt .f32 a2.bits)] [.one (.flt .f32 v5.bits)]) ∧ Tt ∧ T4 ((((Eqc (.flt .f32 a0.X.bits)) ∧ (Eqc (.flt .f32 v3.X.bits)) ∧ (Eqc (.flt .f32 a2.bits)) ∧ Tt) ∧ CallOK Tryz.prog 42 [.one (.flt .f32 a0.X.bits), .one (.flt .f32 v3.X.bits), .one (.flt .f32 a2.bits)] [.one (.flt .f32 v7.bits)]) ∧ Tt ∧ T4 ((((Eqc (.flt .f32 a0.Y.bits)) ∧ (Eqc (.flt .f32 v3.Y.bits)) ∧ (Eqc (.flt .f32 a2.bits)) ∧ Tt) ∧ CallOK Tryz.prog 42 [.one (.flt .f32 a0.Y.bits), .one (.flt .f32 v3.Y.bits), .one (.flt .f32 a2.bits)] [.one (.flt .f32 v9.bits)]) ∧ Tt ∧ T4 ((((Eqc (.flt .f32 a0.Z.bits)) ∧ (Eqc (.flt .f32 v3.Z.bits)) ∧ (Eqc (.flt .f32 a2.bits)) ∧ Tt) ∧ CallOK Tryz.prog 42 [.one (.flt .f32 a0.Z.bits), .one (.flt .f32 v3.Z.bits), .one (.flt .f32 a2.bits)] [.one (.flt .f32 v11.bits)]) ∧ Tt ∧ ((((Eqc (.flt .f32 v5.bits)) ∧ (Eqc (.flt .f32 v7.bits)) ∧ (Eqc (.flt .f32 v9.bits)) ∧ (Eqc (.flt .f32 v11.bits)) ∧ Tt) ∧ Tt) ∧ CallOK Tryz.prog 41 [.agg (cs_Turn (Turn.mk v5 v7 v9 v11))] [.agg (cs_Turn v13)]) ∧ Tt))))) ∧ (Tt ∧ Tt)) 26 [.no, .no, .no, .no, .no, .call [.one (.flt .f32 a0.W.bits), .one (.flt .f32 v3.W.bits), .one (.flt .f32 a2.bits)] [.one (.flt .f32 v5.bits)] [[.view]], .no, .no, .no, .no, .no, .call [.one (.flt .f32 a0.X.bits), .one (.flt .f32 v3.X.bits), .one (.flt .f32 a2.bits)] [.one (.flt .f32 v7.bits)] [[.view]], .no, .no, .no, .no, .no, .call [.one (.flt .f32 a0.Y.bits), .one (.flt .f32 v3.Y.bits), .one (.flt .f32 a2.bits)] [.one (.flt .f32 v9.bits)] [[.view]], .no, .no, .no, .no, .no, .call [.one (.flt .f32 a0.Z.bits), .one (.flt .f32 v3.Z.bits), .one (.flt .f32 a2.bits)] [.one (.flt .f32 v11.bits)] [[.view]], .no, .call [.agg (cs_Turn (Turn.mk v5 v7 v9 v11))] [.agg (cs_Turn v13)] [[.view, .view, .view, .view]]] [6] [3] ⟨⟨tr, tr, tr, tr, tr, ⟨⟨rfl, rfl, rfl, tr⟩, ok_spec_l02Step K a0.W v3.W a2 v5 e6⟩, tr, tr, tr, tr, tr, ⟨⟨rfl, rfl, rfl, tr⟩, ok_spec_l02Step K a0.X v3.X a2 v7 e8⟩, tr, tr, tr, tr, tr, ⟨⟨rfl, rfl, rfl, tr⟩, ok_spec_l02Step K a0.Y v3.Y a2 v9 e10⟩, tr, tr, tr, tr, tr, ⟨⟨rfl, rfl, rfl, tr⟩, ok_spec_l02Step K a0.Z v3.Z a2 v11 e12⟩, tr, ⟨⟨⟨rfl, rfl, rfl, rfl, tr⟩, tr⟩, ok_spec_l02Mend K (Turn.mk v5 v7 v9 v11) v13 e14⟩, tr⟩, ⟨tr, tr⟩⟩ ?_
  refine thenQ_normal ?_
  refine AW.ret ?_
  replace h := some_eq h
  subst h
  exact ⟨.inr rfl, retOK_of [(.agg [(.c (.flt .f32 v13.W.bits)), (.c (.flt .f32 v13.X.bits)), (.c (.flt .f32 v13.Y.bits)), (.c (.flt .f32 v13.Z.bits))])] (by kernel_rfl) ⟨⟨⟨rfl, tr⟩, ⟨rfl, tr⟩, ⟨rfl, tr⟩, ⟨rfl, tr⟩, tr⟩, tr⟩ (of_decide_eq_true (by kernel_rfl))⟩

/-! spec.l02Inverse -/
def spec_l02Inverse (_K : Nat) (a0 : Turn) : Option (Turn) :=
  some (Turn.mk a0.W (a0.X.neg) (a0.Y.neg) (a0.Z.neg))

theorem ok_spec_l02Inverse (K : Nat) (a0 : Turn) (o : (Turn)) (h : spec_l02Inverse K a0 = some o) : CallOK Tryz.prog 38 [.agg (cs_Turn a0)] [.agg (cs_Turn o)] := by
  refine callOK_of_AW Tryz.func38 rfl (by kernel_rfl) (Nat.le_of_ble_eq_true (by kernel_rfl)) ?_
  intro w0
  unfold spec_l02Inverse at h
  refine AW.seq (AW.rA ⟨[(1, (vp 1 0)), (2, (vp 2 0))], [(1, (.box [(.c (.flt .f32 a0.W.bits)), (.c (.flt .f32 a0.X.bits)), (.c (.flt .f32 a0.Y.bits)), (.c (.flt .f32 a0.Z.bits))])), (2, (.box [(.c (.flt .f32 (default : F32).bits)), (.c (.flt .f32 (default : F32).bits)), (.c (.flt .f32 (default : F32).bits)), (.c (.flt .f32 (default : F32).bits))]))]⟩ (T2 Tt) [.box 1, .box 2] [1, 2] [1, 2] ⟨tr, tr, tr⟩ (thenQ_normal ?_))
  refine AW.seq (AW.rA ⟨[(2, (vp 2 0))], [(2, (.box [(.c (.flt .f32 a0.W.bits)), (.c (.flt .f32 (a0.X.neg).bits)), (.c (.flt .f32 (a0.Y.neg).bits)), (.c (.flt .f32 (a0.Z.neg).bits))]))]⟩ (Tt ∧ T4 (T4 (T4 Tt))) [] [2] [2] ⟨tr, tr, tr, tr, tr, tr, tr, tr, tr, tr, tr, tr, tr, tr⟩ (thenQ_normal ?_))
  refine AW.ret ?_
  replace h := some_eq h
  subst h
  exact ⟨.inr rfl, retOK_of [(.agg [(.c (.flt .f32 a0.W.bits)), (.c (.flt .f32 (a0.X.neg).bits)), (.c (.flt .f32 (a0.Y.neg).bits)), (.c (.flt .f32 (a0.Z.neg).bits))])] (by kernel_rfl) ⟨⟨⟨rfl, tr⟩, ⟨rfl, tr⟩, ⟨rfl, tr⟩, ⟨rfl, tr⟩, tr⟩, tr⟩ (of_decide_eq_true (by kernel_rfl))⟩

/-! spec.l02Mul -/
def spec_l02Mul (_K : Nat) (a0 : Turn) (a1 : Turn) : Option (Turn) :=
  some (Turn.mk ((((a0.W.mul a1.W).sub (a0.X.mul a1.X)).sub (a0.Y.mul a1.Y)).sub (a0.Z.mul a1.Z)) ((((a0.W.mul a1.X).add (a0.X.mul a1.W)).add (a0.Y.mul a1.Z)).sub (a0.Z.mul a1.Y)) ((((a0.W.mul a1.Y).sub (a0.X.mul a1.Z)).add (a0.Y.mul a1.W)).add (a0.Z.mul a1.X)) ((((a0.W.mul a1.Z).add (a0.X.mul a1.Y)).sub (a0.Y.mul a1.X)).add (a0.Z.mul a1.W)))

theorem ok_spec_l02Mul (K : Nat) (a0 : Turn) (a1 : Turn) (o : (Turn)) (h : spec_l02Mul K a0 a1 = some o) : CallOK Tryz.prog 37 [.agg (cs_Turn a0), .agg (cs_Turn a1)] [.agg (cs_Turn o)] := by
  refine callOK_of_AW Tryz.func37 rfl (by kernel_rfl) (Nat.le_of_ble_eq_true (by kernel_rfl)) ?_
  intro w0
  unfold spec_l02Mul at h
  refine AW.seq (AW.rA ⟨[(2, (vp 1 0)), (3, (vp 2 0)), (4, (vp 3 0))], [(1, (.box [(.c (.flt .f32 a0.W.bits)), (.c (.flt .f32 a0.X.bits)), (.c (.flt .f32 a0.Y.bits)), (.c (.flt .f32 a0.Z.bits))])), (2, (.box [(.c (.flt .f32 a1.W.bits)), (.c (.flt .f32 a1.X.bits)), (.c (.flt .f32 a1.Y.bits)), (.c (.flt .f32 a1.Z.bits))])), (3, (.box [(.c (.flt .f32 (default : F32).bits)), (.c (.flt .f32 (default : F32).bits)), (.c (.flt .f32 (default : F32).bits)), (.c (.flt .f32 (default : F32).bits))]))]⟩ (Tt ∧ T2 Tt) [.box 1, .box 2, .box 3] [2, 3, 4] [1, 2, 3] ⟨tr, tr, tr, tr⟩ (thenQ_normal ?_))
  refine AW.seq (AW.rA ⟨[(2, (vp 1 0)), (3, (vp 2 0)), (4, (vp 3 0)), (5, (vc (.flt .f32 ((a0.W.mul a1.W).sub (a0.X.mul a1.X)).bits)))], [(1, (.box [(.c (.flt .f32 a0.W.bits)), (.c (.flt .f32 a0.X.bits)), (.c (.flt .f32 a0.Y.bits)), (.c (.flt .f32 a0.Z.bits))])), (2, (.box [(.c (.flt .f32 a1.W.bits)), (.c (.flt .f32 a1.X.bits)), (.c (.flt .f32 a1.Y.bits)), (.c (.flt .f32 a1.Z.bits))])), (3, (.box [(.c (.flt .f32 (default : F32).bits)), (.c (.flt .f32 (default : F32).bits)), (.c (.flt .f32 (default : F32).bits)), (.c (.flt .f32 (default : F32).bits))]))]⟩ (T4 (T4 (T4 Tt))) [] [2, 3, 4, 5] [1, 2, 3] ⟨tr, tr, tr, tr, tr, tr, tr, tr, tr, tr, tr, tr, tr⟩ (thenQ_normal ?_))
  refine AW.seq (AW.rA ⟨[(2, (vp 1 0)), (3, (vp 2 0)), (4, (vp 3 0)), (5, (vc (.flt .f32 (((a0.W.mul a1.W).sub (a0.X.mul a1.X)).sub (a0.Y.mul a1.Y)).bits)))], [(1, (.box [(.c (.flt .f32 a0.W.bits)), (.c (.flt .f32 a0.X.bits)), (.c (.flt .f32 a0.Y.bits)), (.c (.flt .f32 a0.Z.bits))])), (2, (.box [(.c (.flt .f32 a1.W.bits)), (.c (.flt .f32 a1.X.bits)), (.c (.flt .f32 a1.Y.bits)), (.c (.flt .f32 a1.Z.bits))])), (3, (.box [(.c (.flt .f32 (default : F32).bits)), (.c (.flt .f32 (default : F32).bits)), (.c (.flt .f32 (default : F32).bits)), (.c (.flt .f32 (default : F32).bits))]))]⟩ (T4 (T4 Tt)) [] [2, 3, 4, 5] [1, 2, 3] ⟨tr, tr, tr, tr, tr, tr, tr, tr, tr⟩ (thenQ_normal ?_))
  refine AW.seq (AW.rA ⟨[(2, (vp 1 0)), (3, (vp 2 0)), (4, (vp 3 0)), (5, (vc (.flt .f32 ((((a0.W.mul a1.W).sub (a0.X.mul a1.X)).sub (a0.Y.mul a1.Y)).sub (a0.Z.mul a1.Z)).bits)))], [(1, (.box [(.c (.flt .f32 a0.W.bits)), (.c (.flt .f32 a0.X.bits)), (.c (.flt .f32 a0.Y.bits)), (.c (.flt .f32 a0.Z.bits))])), (2, (.box [(.c (.flt .f32 a1.W.bits)), (.c (.flt .f32 a1.X.bits)), (.c (.flt .f32 a1.Y.bits)), (.c (.flt .f32 a1.Z.bits))])), (3, (.box [(.c (.flt .f32 (default : F32).bits)), (.c (.flt .f32 (default : F32).bits)), (.c (.flt .f32 (default : F32).bits)), (.c (.flt .f32 (default : F32).bits))]))]⟩ (T4 (T4 Tt)) [] [2, 3, 4, 5] [1, 2, 3] ⟨tr, tr, tr, tr, tr, tr, tr, tr, tr⟩ (thenQ_normal ?_))
  refine AW.seq (AW.rA ⟨[(2, (vp 1 0)), (3, (vp 2 0)), (4, (vp 3 0)), (5, (vc (.flt .f32 ((((a0.W.mul a1.W).sub (a0.X.mul a1.X)).sub (a0.Y.mul a1.Y)).sub (a0.Z.mul a1.Z)).bits))), (6, (vc (.flt .f32 ((a0.W.mul a1.X).add (a0.X.mul a1.W)).bits)))], [(1, (.box [(.c (.flt .f32 a0.W.bits)), (.c (.flt .f32 a0.X.bits)), (.c (.flt .f32 a0.Y.bits)), (.c (.flt .f32 a0.Z.bits))])), (2, (.box [(.c (.flt .f32 a1.W.bits)), (.c (.flt .f32 a1.X.bits)), (.c (.flt .f32 a1.Y.bits)), (.c (.flt .f32 a1.Z.bits))])), (3, (.box [(.c (.flt .f32 (default : F32).bits)), (.c (.flt .f32 (default : F32).bits)), (.c (.flt .f32 (default : F32).bits)), (.c (.flt .f32 (default : F32).bits))]))]⟩ (T4 (T4 (T4 Tt))) [] [2, 3, 4, 5, 6] [1, 2, 3] ⟨tr, tr, tr, tr, tr, tr, tr, tr, tr, tr, tr, tr, tr⟩ (thenQ_normal ?_))
  refine AW.seq (AW.rA ⟨[(2, (vp 1 0)), (3, (vp 2 0)), (4, (vp 3 0)), (5, (vc (.flt .f32 ((((a0.W.mul a1.W).sub (a0.X.mul a1.X)).sub (a0.Y.mul a1.Y)).sub (a0.Z.mul a1.Z)).bits))), (6, (vc (.flt .f32 (((a0.W.mul a1.X).add (a0.X.mul a1.W)).add (a0.Y.mul a1.Z)).bits)))], [(1, (.box [(.c (.flt .f32 a0.W.bits)), (.c (.flt .f32 a0.X.bits)), (.c (.flt .f32 a0.Y.bits)), (.c (.flt .f32 a0.Z.bits))])), (2, (.box [(.c (.flt .f32 a1.W.bits)), (.c (.flt .f32 a1.X.bits)), (.c (.flt .f32 a1.Y.bits)), (.c (.flt .f32 a1.Z.bits))])), (3, (.box [(.c (.flt .f32 (default : F32).bits)), (.c (.flt .f32 (default : F32).bits)), (.c (.flt .f32 (default : F32).bits)), (.c (.flt .f32 (default : F32).bits))]))]⟩ (T4 (T4 Tt)) [] [2, 3, 4, 5, 6] [1, 2, 3] ⟨tr, tr, tr, tr, tr, tr, tr, tr, tr⟩ (thenQ_normal ?_))
  refine AW.seq (AW.rA ⟨[(2, (vp 1 0)), (3, (vp 2 0)), (4, (vp 3 0)), (5, (vc (.flt .f32 ((((a0.W.mul a1.W).sub (a0.X.mul a1.X)).sub (a0.Y.mul a1.Y)).sub (a0.Z.mul a1.Z)).bits))), (6, (vc (.flt .f32 ((((a0.W.mul a1.X).add (a0.X.mul a1.W)).add (a0.Y.mul a1.Z)).sub (a0.Z.mul a1.Y)).bits)))], [(1, (.box [(.c (.flt .f32 a0.W.bits)), (.c (.flt .f32 a0.X.bits)), (.c (.flt .f32 a0.Y.bits)), (.c (.flt .f32 a0.Z.bits))])), (2, (.box [(.c (.flt .f32 a1.W.bits)), (.c (.flt .f32 a1.X.bits)), (.c (.flt .f32 a1.Y.bits)), (.c (.flt .f32 a1.Z.bits))])), (3, (.box [(.c (.flt .f32 (default : F32).bits)), (.c (.flt .f32 (default : F32).bits)), (.c (.flt .f32 (default : F32).bits)), (.c (.flt .f32 (default : F32).bits))]))]⟩ (T4 (T4 Tt)) [] [2, 3, 4, 5, 6] [1, 2, 3] ⟨tr, tr, tr, tr, tr, tr, tr, tr, tr⟩ (thenQ_normal ?_))
  refine AW.seq (AW.rA ⟨[(2, (vp 1 0)), (3, (vp 2 0)), (4, (vp 3 0)), (5, (vc (.flt .f32 ((((a0.W.mul a1.W).sub (a0.X.mul a1.X)).sub (a0.Y.mul a1.Y)).sub (a0.Z.mul a1.Z)).bits))), (6, (vc (.flt .f32 ((((a0.W.mul a1.X).add (a0.X.mul a1.W)).add (a0.Y.mul a1.Z)).sub (a0.Z.mul a1.Y)).bits))), (7, (vc (.flt .f32 ((a0.W.mul a1.Y).sub (a0.X.mul a1.Z)).bits)))], [(1, (.box [(.c (.flt .f32 a0.W.bits)), (.c (.flt .f32 a0.X.bits)), (.c (.flt .f32 a0.Y.bits)), (.c (.flt .f32 a0.Z.bits))])), (2, (.box [(.c (.flt .f32 a1.W.bits)), (.c (.flt .f32 a1.X.bits)), (.c (.flt .f32 a1.Y.bits)), (.c (.flt .f32 a1.Z.bits))])), (3, (.box [(.c (.flt .f32 (default : F32).bits)), (.c (.flt .f32 (default : F32).bits)), (.c (.flt .f32 (default : F32).bits)), (.c (.flt .f32 (default : F32).bits))]))]⟩ (T4 (T4 (T4 Tt))) [] [2, 3, 4, 5, 6, 7] [1, 2, 3] ⟨tr, tr, tr, tr, tr, tr, tr, tr, tr, tr, tr, tr, tr⟩ (thenQ_normal ?_))
  refine AW.seq (AW.rA ⟨[(2, (vp 1 0)), (3, (vp 2 0)), (4, (vp 3 0)), (5, (vc (.flt .f32 ((((a0.W.mul a1.W).sub (a0.X.mul a1.X)).sub (a0.Y.mul a1.Y)).sub (a0.Z.mul a1.Z)).bits))), (6, (vc (.flt .f32 ((((a0.W.mul a1.X).add (a0.X.mul a1.W)).add (a0.Y.mul a1.Z)).sub (a0.Z.mul a1.Y)).bits))), (7, (vc (.flt .f32 (((a0.W.mul a1.Y).sub (a0.X.mul a1.Z)).add (a0.Y.mul a1.W)).bits)))], [(1, (.box [(.c (.flt .f32 a0.W.bits)), (.c (.flt .f32 a0.X.bits)), (.c (.flt .f32 a0.Y.bits)), (.c (.flt .f32 a0.Z.bits))])), (2, (.box [(.c (.flt .f32 a1.W.bits)), (.c (.flt .f32 a1.X.bits)), (.c (.flt .f32 a1.Y.bits)), (.c (.flt .f32 a1.Z.bits))])), (3, (.box [(.c (.flt .f32 (default : F32).bits)), (.c (.flt .f32 (default : F32).bits)), (.c (.flt .f32 (default : F32).bits)), (.c (.flt .f32 (default : F32).bits))]))]⟩ (T4 (T4 Tt)) [] [2, 3, 4, 5, 6, 7] [1, 2, 3] ⟨tr, tr, tr, tr, tr, tr, tr, tr, tr⟩ (thenQ_normal ?_))
  refine AW.seq (AW.rA ⟨[(2, (vp 1 0)), (3, (vp 2 0)), (4, (vp 3 0)), (5, (vc (.flt .f32 ((((a0.W.mul a1.W).sub (a0.X.mul a1.X)).sub (a0.Y.mul a1.Y)).sub (a0.Z.mul a1.Z)).bits))), (6, (vc (.flt .f32 ((((a0.W.mul a1.X).add (a0.X.mul a1.W)).add (a0.Y.mul a1.Z)).sub (a0.Z.mul a1.Y)).bits))), (7, (vc (.flt .f32 ((((a0.W.mul a1.Y).sub (a0.X.mul a1.Z)).add (a0.Y.mul a1.W)).add (a0.Z.mul a1.X)).bits)))], [(1, (.box [(.c (.flt .f32 a0.W.bits)), (.c (.flt .f32 a0.X.bits)), (.c (.flt .f32 a0.Y.bits)), (.c (.flt .f32 a0.Z.bits))])), (2, (.box [(.c (.flt .f32 a1.W.bits)), (.c (.flt .f32 a1.X.bits)), (.c (.flt .f32 a1.Y.bits)), (.c (.flt .f32 a1.Z.bits))])), (3, (.box [(.c (.flt .f32 (default : F32).bits)), (.c (.flt .f32 (default : F32).bits)), (.c (.flt .f32 (default : F32).bits)), (.c (.flt .f32 (default : F32).bits))]))]⟩ (T4 (T4 Tt)) [] [2, 3, 4, 5, 6, 7] [1, 2, 3] ⟨tr, tr, tr, tr, tr, tr, tr, tr, tr⟩ (thenQ_normal ?_))
  refine AW.seq (AW.rA ⟨[(2, (vp 1 0)), (3, (vp 2 0)), (4, (vp 3 0)), (5, (vc (.flt .f32 ((((a0.W.mul a1.W).sub (a0.X.mul a1.X)).sub (a0.Y.mul a1.Y)).sub (a0.Z.mul a1.Z)).bits))), (6, (vc (.flt .f32 ((((a0.W.mul a1.X).add (a0.X.mul a1.W)).add (a0.Y.mul a1.Z)).sub (a0.Z.mul a1.Y)).bits))), (7, (vc (.flt .f32 ((((a0.W.mul a1.Y).sub (a0.X.mul a1.Z)).add (a0.Y.mul a1.W)).add (a0.Z.mul a1.X)).bits))), (8, (vc (.flt .f32 ((a0.W.mul a1.Z).add (a0.X.mul a1.Y)).bits)))], [(1, (.box [(.c (.flt .f32 a0.W.bits)), (.c (.flt .f32 a0.X.bits)), (.c (.flt .f32 a0.Y.bits)), (.c (.flt .f32 a0.Z.bits))])), (2, (.box [(.c (.flt .f32 a1.W.bits)), (.c (.flt .f32 a1.X.bits)), (.c (.flt .f32 a1.Y.bits)), (.c (.flt .f32 a1.Z.bits))])), (3, (.box [(.c (.flt .f32 (default : F32).bits)), (.c (.flt .f32 (default : F32).bits)), (.c (.flt .f32 (default : F32).bits)), (.c (.flt .f32 (default : F32).bits))]))]⟩ (T4 (T4 (T4 Tt))) [] [2, 3, 4, 5, 6, 7, 8] [1, 2, 3] ⟨tr, tr, tr, tr, tr, tr, tr, tr, tr, tr, tr, tr, tr⟩ (thenQ_normal ?_))
  refine AW.seq (AW.rA ⟨[(2, (vp 1 0)), (3, (vp 2 0)), (4, (vp 3 0)), (5, (vc (.flt .f32 ((((a0.W.mul a1.W).sub (a0.X.mul a1.X)).sub (a0.Y.mul a1.Y)).sub (a0.Z.mul a1.Z)).bits))), (6, (vc (.flt .f32 ((((a0.W.mul a1.X).add (a0.X.mul a1.W)).add (a0.Y.mul a1.Z)).sub (a0.Z.mul a1.Y)).bits))), (7, (vc (.flt .f32 ((((a0.W.mul a1.Y).sub (a0.X.mul a1.Z)).add (a0.Y.mul a1.W)).add (a0.Z.mul a1.X)).bits))), (8, (vc (.flt .f32 (((a0.W.mul a1.Z).add (a0.X.mul a1.Y)).sub (a0.Y.mul a1.X)).bits)))], [(1, (.box [(.c (.flt .f32 a0.W.bits)), (.c (.flt .f32 a0.X.bits)), (.c (.flt .f32 a0.Y.bits)), (.c (.flt .f32 a0.Z.bits))])), (2, (.box [(.c (.flt .f32 a1.W.bits)), (.c (.flt .f32 a1.X.bits)), (.c (.flt .f32 a1.Y.bits)), (.c (.flt .f32 a1.Z.bits))])), (3, (.box [(.c (.flt .f32 (default : F32).bits)), (.c (.flt .f32 (default : F32).bits)), (.c (.flt .f32 (default : F32).bits)), (.c (.flt .f32 (default : F32).bits))]))]⟩ (T4 (T4 Tt)) [] [2, 3, 4, 5, 6, 7, 8] [1, 2, 3] ⟨tr, tr, tr, tr, tr, tr, tr, tr, tr⟩ (thenQ_normal ?_))
  refine AW.seq (AW.rA ⟨[(4, (vp 3 0)), (5, (vc (.flt .f32 ((((a0.W.mul a1.W).sub (a0.X.mul a1.X)).sub (a0.Y.mul a1.Y)).sub (a0.Z.mul a1.Z)).bits))), (6, (vc (.flt .f32 ((((a0.W.mul a1.X).add (a0.X.mul a1.W)).add (a0.Y.mul a1.Z)).sub (a0.Z.mul a1.Y)).bits))), (7, (vc (.flt .f32 ((((a0.W.mul a1.Y).sub (a0.X.mul a1.Z)).add (a0.Y.mul a1.W)).add (a0.Z.mul a1.X)).bits))), (8, (vc (.flt .f32 ((((a0.W.mul a1.Z).add (a0.X.mul a1.Y)).sub (a0.Y.mul a1.X)).add (a0.Z.mul a1.W)).bits)))], [(3, (.box [(.c (.flt .f32 (default : F32).bits)), (.c (.flt .f32 (default : F32).bits)), (.c (.flt .f32 (default : F32).bits)), (.c (.flt .f32 (default : F32).bits))]))]⟩ (T4 (T4 Tt)) [] [4, 5, 6, 7, 8] [3] ⟨tr, tr, tr, tr, tr, tr, tr, tr, tr⟩ (thenQ_normal ?_))
  refine AW.seq (AW.rA ⟨[(4, (vp 3 0))], [(3, (.box [(.c (.flt .f32 ((((a0.W.mul a1.W).sub (a0.X.mul a1.X)).sub (a0.Y.mul a1.Y)).sub (a0.Z.mul a1.Z)).bits)), (.c (.flt .f32 ((((a0.W.mul a1.X).add (a0.X.mul a1.W)).add (a0.Y.mul a1.Z)).sub (a0.Z.mul a1.Y)).bits)), (.c (.flt .f32 ((((a0.W.mul a1.Y).sub (a0.X.mul a1.Z)).add (a0.Y.mul a1.W)).add (a0.Z.mul a1.X)).bits)), (.c (.flt .f32 ((((a0.W.mul a1.Z).add (a0.X.mul a1.Y)).sub (a0.Y.mul a1.X)).add (a0.Z.mul a1.W)).bits))]))]⟩ (T2 (T4 Tt)) [] [4] [3] ⟨tr, tr, tr, tr, tr, tr, tr⟩ (thenQ_normal ?_))
  refine AW.ret ?_
  replace h := some_eq h
  subst h
  exact ⟨.inr rfl, retOK_of [(.agg [(.c (.flt .f32 ((((a0.W.mul a1.W).sub (a0.X.mul a1.X)).sub (a0.Y.mul a1.Y)).sub (a0.Z.mul a1.Z)).bits)), (.c (.flt .f32 ((((a0.W.mul a1.X).add (a0.X.mul a1.W)).add (a0.Y.mul a1.Z)).sub (a0.Z.mul a1.Y)).bits)), (.c (.flt .f32 ((((a0.W.mul a1.Y).sub (a0.X.mul a1.Z)).add (a0.Y.mul a1.W)).add (a0.Z.mul a1.X)).bits)), (.c (.flt .f32 ((((a0.W.mul a1.Z).add (a0.X.mul a1.Y)).sub (a0.Y.mul a1.X)).add (a0.Z.mul a1.W)).bits))])] (by kernel_rfl) ⟨⟨⟨rfl, tr⟩, ⟨rfl, tr⟩, ⟨rfl, tr⟩, ⟨rfl, tr⟩, tr⟩, tr⟩ (of_decide_eq_true (by kernel_rfl))⟩

/-! spec.l02Axis -/
def spec_l02Axis (_K : Nat) (a0 : Turn) : Option (Vector) :=
  some (Vector.mk a0.X a0.Y a0.Z)

theorem ok_spec_l02Axis (K : Nat) (a0 : Turn) (o : (Vector)) (h : spec_l02Axis K a0 = some o) : CallOK Tryz.prog 59 [.agg (cs_Turn a0)] [.agg (cs_Vector o)] := by
  refine callOK_of_AW Tryz.func59 rfl (by kernel_rfl) (Nat.le_of_ble_eq_true (by kernel_rfl)) ?_
  intro w0
  unfold spec_l02Axis at h
  refine AW.seq (AW.rA ⟨[(1, (vp 1 0)), (2, (vp 2 0))], [(1, (.box [(.c (.flt .f32 a0.W.bits)), (.c (.flt .f32 a0.X.bits)), (.c (.flt .f32 a0.Y.bits)), (.c (.flt .f32 a0.Z.bits))])), (2, (.box [(.c (.flt .f32 (default : F32).bits)), (.c (.flt .f32 (default : F32).bits)), (.c (.flt .f32 (default : F32).bits))]))]⟩ (T2 Tt) [.box 1, .box 2] [1, 2] [1, 2] ⟨tr, tr, tr⟩ (thenQ_normal ?_))
  refine AW.seq (AW.rA ⟨[(2, (vp 2 0))], [(2, (.box [(.c (.flt .f32 a0.X.bits)), (.c (.flt .f32 a0.Y.bits)), (.c (.flt .f32 a0.Z.bits))]))]⟩ (T4 (T4 Tt)) [] [2] [2] ⟨tr, tr, tr, tr, tr, tr, tr, tr, tr⟩ (thenQ_normal ?_))
  refine AW.ret ?_
  replace h := some_eq h
  subst h
  exact ⟨.inr rfl, retOK_of [(.agg [(.c (.flt .f32 a0.X.bits)), (.c (.flt .f32 a0.Y.bits)), (.c (.flt .f32 a0.Z.bits))])] (by kernel_rfl) ⟨⟨⟨rfl, tr⟩, ⟨rfl, tr⟩, ⟨rfl, tr⟩, tr⟩, tr⟩ (of_decide_eq_true (by kernel_rfl))⟩

/-! spec.l01Inner -/
def spec_l01Inner (_K : Nat) (a0 : Vector) (a1 : Vector) : Option (F32) :=
  some (((a0.X.mul a1.X).add (a0.Y.mul a1.Y)).add (a0.Z.mul a1.Z))

theorem ok_spec_l01Inner (K : Nat) (a0 : Vector) (a1 : Vector) (o : (F32)) (h : spec_l01Inner K a0 a1 = some o) : CallOK Tryz.prog 84 [.agg (cs_Vector a0), .agg (cs_Vector a1)] [.one (.flt .f32 o.bits)] := by
  refine callOK_of_AW Tryz.func84 rfl (by kernel_rfl) (Nat.le_of_ble_eq_true (by kernel_rfl)) ?_
  intro w0
  unfold spec_l01Inner at h
  refine AW.seq (AW.rA ⟨[(2, (vp 1 0)), (3, (vp 2 0))], [(1, (.box [(.c (.flt .f32 a0.X.bits)), (.c (.flt .f32 a0.Y.bits)), (.c (.flt .f32 a0.Z.bits))])), (2, (.box [(.c (.flt .f32 a1.X.bits)), (.c (.flt .f32 a1.Y.bits)), (.c (.flt .f32 a1.Z.bits))]))]⟩ (Tt ∧ T2 Tt) [.box 1, .box 2] [2, 3] [1, 2] ⟨tr, tr, tr, tr⟩ (thenQ_normal ?_))
  refine AW.seq (AW.rA ⟨[(4, (vc (.flt .f32 (((a0.X.mul a1.X).add (a0.Y.mul a1.Y)).add (a0.Z.mul a1.Z)).bits)))], []⟩ (T2 (T4 (T4 (T4 (T4 Tt))))) [] [4] [] ⟨tr, tr, tr, tr, tr, tr, tr, tr, tr, tr, tr, tr, tr, tr, tr, tr, tr, tr, tr⟩ (thenQ_normal ?_))
  refine AW.ret ?_
  replace h := some_eq h
  subst h
  exact ⟨.inr rfl, retOK_of [(.one (.c (.flt .f32 (((a0.X.mul a1.X).add (a0.Y.mul a1.Y)).add (a0.Z.mul a1.Z)).bits)))] (by kernel_rfl) ⟨⟨rfl, tr⟩, tr⟩ (of_decide_eq_true (by kernel_rfl))⟩

/-! spec.l01Long -/
def spec_l01Long (K : Nat) (a0 : Vector) : Option (F32) :=
  (spec_l01Inner K a0 a0).bind fun v1 => (spec_l01Sqrt K v1).bind fun v3 => some v3

theorem ok_spec_l01Long (K : Nat) (a0 : Vector) (o : (F32)) (h : spec_l01Long K a0 = some o) : CallOK Tryz.prog 58 [.agg (cs_Vector a0)] [.one (.flt .f32 o.bits)] := by
  refine callOK_of_AW Tryz.func58 rfl (by kernel_rfl) (Nat.le_of_ble_eq_true (by kernel_rfl)) ?_
  intro w0
  unfold spec_l01Long at h
  refine AW.seq (AW.rA ⟨[(1, (vp 1 0))], [(1, (.box [(.c (.flt .f32 a0.X.bits)), (.c (.flt .f32 a0.Y.bits)), (.c (.flt .f32 a0.Z.bits))]))]⟩ (T2 Tt) [.box 1] [1] [1] ⟨tr, tr, tr⟩ (thenQ_normal ?_))
  refine AW.seq ?_
  obtain ⟨v1, e2, h⟩ := bind_some h
  obtain ⟨v3, e4, h⟩ := bind_some h
  refine AW.rA ⟨[(2, (vc (.flt .f32 v3.bits)))], []⟩ (T2 (((((Eqc (.flt .f32 a0.X.bits)) ∧ (Eqc (.flt .f32 a0.Y.bits)) ∧ (Eqc (.flt .f32 a0.Z.bits)) ∧ Tt) ∧ ((Eqc (.flt .f32 a0.X.bits)) ∧ (Eqc (.flt .f32 a0.Y.bits)) ∧ (Eqc (.flt .f32 a0.Z.bits)) ∧ Tt) ∧ Tt) ∧ CallOK Tryz.prog 84 [.agg (cs_Vector a0), .agg (cs_Vector a0)] [.one (.flt .f32 v1.bits)]) ∧ (((Eqc (.flt .f32 v1.bits)) ∧ Tt) ∧ CallOK Tryz.prog 61 [.one (.flt .f32 v1.bits)] [.one (.flt .f32 v3.bits)]) ∧ Tt ∧ Tt)) [.no, .no, .call [.agg (cs_Vector a0), .agg (cs_Vector a0)] [.one (.flt .f32 v1.bits)] [[.view]], .call [.one (.flt .f32 v1.bits)] [.one (.flt .f32 v3.bits)] [[.view]]] [2] [] ⟨tr, tr, ⟨⟨⟨rfl, rfl, rfl, tr⟩, ⟨rfl, rfl, rfl, tr⟩, tr⟩, ok_spec_l01Inner K a0 a0 v1 e2⟩, ⟨⟨rfl, tr⟩, ok_spec_l01Sqrt K v1 v3 e4⟩, tr, tr⟩ ?_
  refine thenQ_normal ?_
  refine AW.ret ?_
  replace h := some_eq h
  subst h
  exact ⟨.inr rfl, retOK_of [(.one (.c (.flt .f32 v3.bits)))] (by kernel_rfl) ⟨⟨rfl, tr⟩, tr⟩ (of_decide_eq_true (by kernel_rfl))⟩

/-! math.Float32bits -/
def math_Float32bits (_K : Nat) (a0 : F32) : Option (Int) :=
  a0.toBits

theorem ok_math_Float32bits (K : Nat) (a0 : F32) (o : Int) (h : math_Float32bits K a0 = some o) : CallOK Tryz.prog 104 [.one (.flt .f32 a0.bits)] [.one (.int .u32 o)] :=
  hand_toBits (e := Extern.MathFloatBits.float32bits) Tryz.func104 (by kernel_rfl) (by kernel_rfl) (by kernel_rfl) (by kernel_rfl) (fun _ _ => rfl) a0 o h

/-! spec.l01Bits -/
def spec_l01Bits (K : Nat) (a0 : F32) : Option (Int) :=
  ite2 ((a0.ne a0)) (some (2143289344 : Int)) ((math_Float32bits K a0).bind fun v2 => some (IntKind.i64.wrap v2))

theorem ok_spec_l01Bits (K : Nat) (a0 : F32) (o : (Int)) (h : spec_l01Bits K a0 = some o) : CallOK Tryz.prog 86 [.one (.flt .f32 a0.bits)] [.one (.int .i64 o)] := by
  refine callOK_of_AW Tryz.func86 rfl (by kernel_rfl) (Nat.le_of_ble_eq_true (by kernel_rfl)) ?_
  intro w0
  unfold spec_l01Bits at h
  refine AW.seq (AW.rA ⟨[(0, (vc (.flt .f32 a0.bits)))], []⟩ (Tt ∧ Tt) [] [0] [] ⟨tr, tr⟩ (thenQ_normal ?_))
  refine AW.seq ?_
  refine AW.seq (AW.rA ⟨[(0, (vc (.flt .f32 a0.bits))), (5, (vc (.bool (a0.ne a0))))], []⟩ (Tt ∧ T2 Tt) [] [0, 5] [] ⟨tr, tr, tr, tr⟩ (thenQ_normal ?_))
  rcases ite2_cases h with ⟨b1, h⟩ | ⟨b1, h⟩
  · refine AW.cond_t rfl b1 ?_
    refine AW.seq (AW.rA ⟨[(2, (vc (.int .i64 (2143289344 : Int))))], []⟩ (Tt ∧ Tt) [] [2] [] ⟨tr, tr⟩ (thenQ_normal ?_))
    refine AW.ret ?_
    refine thenQ_ret ?_
    replace h := some_eq h
    subst h
    exact ⟨.inr rfl, retOK_of [(.one (.c (.int .i64 (2143289344 : Int))))] (by kernel_rfl) ⟨⟨rfl, tr⟩, tr⟩ (of_decide_eq_true (by kernel_rfl))⟩
  · refine AW.cond_f rfl b1 ?_
    refine AW.skip ?_
    refine thenQ_normal ?_
    refine AW.seq ?_
    obtain ⟨v2, e3, h⟩ := bind_some h
    refine AW.rA ⟨[(2, (vc (.int .i64 (IntKind.i64.wrap v2))))], []⟩ (Tt ∧ (((Eqc (.flt .f32 a0.bits)) ∧ Tt) ∧ CallOK Tryz.prog 104 [.one (.flt .f32 a0.bits)] [.one (.int .u32 v2)]) ∧ T2 Tt) [.no, .call [.one (.flt .f32 a0.bits)] [.one (.int .u32 v2)] [[.view]]] [2] [] ⟨tr, ⟨⟨rfl, tr⟩, ok_math_Float32bits K a0 v2 e3⟩, tr, tr, tr⟩ ?_
    refine thenQ_normal ?_
    refine AW.ret ?_
    replace h := some_eq h
    subst h
    exact ⟨.inr rfl, retOK_of [(.one (.c (.int .i64 (IntKind.i64.wrap v2))))] (by kernel_rfl) ⟨⟨rfl, tr⟩, tr⟩ (of_decide_eq_true (by kernel_rfl))⟩

/-! math.Float32frombits -/
def math_Float32frombits (_K : Nat) (a0 : Int) : Option (F32) :=
  Fl.ofBits .f32 a0

theorem ok_math_Float32frombits (K : Nat) (a0 : Int) (o : F32) (h : math_Float32frombits K a0 = some o) : CallOK Tryz.prog 103 [.one (.int .u32 a0)] [.one (.flt .f32 o.bits)] :=
  hand_ofBits (e := Extern.MathFloatBits.float32frombits) Tryz.func103 (by kernel_rfl) (by kernel_rfl) (by kernel_rfl) (by kernel_rfl) (fun _ _ => rfl) a0 o h

/-! spec.l01From -/
def spec_l01From (K : Nat) (a0 : Int) : Option (F32) :=
  (math_Float32frombits K (IntKind.u32.wrap a0)).bind fun v1 => some v1

theorem ok_spec_l01From (K : Nat) (a0 : Int) (o : (F32)) (h : spec_l01From K a0 = some o) : CallOK Tryz.prog 85 [.one (.int .i64 a0)] [.one (.flt .f32 o.bits)] := by
  refine callOK_of_AW Tryz.func85 rfl (by kernel_rfl) (Nat.le_of_ble_eq_true (by kernel_rfl)) ?_
  intro w0
  unfold spec_l01From at h
  refine AW.seq (AW.rA ⟨[(0, (vc (.int .i64 a0)))], []⟩ (Tt ∧ Tt) [] [0] [] ⟨tr, tr⟩ (thenQ_normal ?_))
  refine AW.seq ?_
  obtain ⟨v1, e2, h⟩ := bind_some h
  refine AW.rA ⟨[(2, (vc (.flt .f32 v1.bits)))], []⟩ (T2 ((((Eqc (.int .u32 (IntKind.u32.wrap a0))) ∧ Tt) ∧ CallOK Tryz.prog 103 [.one (.int .u32 (IntKind.u32.wrap a0))] [.one (.flt .f32 v1.bits)]) ∧ Tt ∧ Tt)) [.no, .no, .call [.one (.int .u32 (IntKind.u32.wrap a0))] [.one (.flt .f32 v1.bits)] [[.view]]] [2] [] ⟨tr, tr, ⟨⟨rfl, tr⟩, ok_math_Float32frombits K (IntKind.u32.wrap a0) v1 e2⟩, tr, tr⟩ ?_
  refine thenQ_normal ?_
  refine AW.ret ?_
  replace h := some_eq h
  subst h
  exact ⟨.inr rfl, retOK_of [(.one (.c (.flt .f32 v1.bits)))] (by kernel_rfl) ⟨⟨rfl, tr⟩, tr⟩ (of_decide_eq_true (by kernel_rfl))⟩

/-! spec.l02Size -/
def spec_l02Size (K : Nat) (a0 : F32) : Option (F32) :=
  (spec_l01Bits K a0).bind fun v1 => (spec_l01From K (bits .andNot .i64 v1 (2147483648 : Int))).bind fun v3 => some v3

theorem ok_spec_l02Size (K : Nat) (a0 : F32) (o : (F32)) (h : spec_l02Size K a0 = some o) : CallOK Tryz.prog 60 [.one (.flt .f32 a0.bits)] [.one (.flt .f32 o.bits)] := by
  refine callOK_of_AW Tryz.func60 rfl (by kernel_rfl) (Nat.le_of_ble_eq_true (by kernel_rfl)) ?_
  intro w0
  unfold spec_l02Size at h
  refine AW.seq (AW.rA ⟨[(0, (vc (.flt .f32 a0.bits)))], []⟩ (Tt ∧ Tt) [] [0] [] ⟨tr, tr⟩ (thenQ_normal ?_))
  refine AW.seq ?_
  obtain ⟨v1, e2, h⟩ := bind_some h
  obtain ⟨v3, e4, h⟩ := bind_some h
  refine AW.rA ⟨[(2, (vc (.flt .f32 v3.bits)))], []⟩ (Tt ∧ (((Eqc (.flt .f32 a0.bits)) ∧ Tt) ∧ CallOK Tryz.prog 86 [.one (.flt .f32 a0.bits)] [.one (.int .i64 v1)]) ∧ Tt ∧ (((Eqc (.int .i64 (bits .andNot .i64 v1 (2147483648 : Int)))) ∧ Tt) ∧ CallOK Tryz.prog 85 [.one (.int .i64 (bits .andNot .i64 v1 (2147483648 : Int)))] [.one (.flt .f32 v3.bits)]) ∧ Tt ∧ Tt) [.no, .call [.one (.flt .f32 a0.bits)] [.one (.int .i64 v1)] [[.view]], .no, .call [.one (.int .i64 (bits .andNot .i64 v1 (2147483648 : Int)))] [.one (.flt .f32 v3.bits)] [[.view]]] [2] [] ⟨tr, ⟨⟨rfl, tr⟩, ok_spec_l01Bits K a0 v1 e2⟩, tr, ⟨⟨rfl, tr⟩, ok_spec_l01From K (bits .andNot .i64 v1 (2147483648 : Int)) v3 e4⟩, tr, tr⟩ ?_
  refine thenQ_normal ?_
  refine AW.ret ?_
  replace h := some_eq h
  subst h
  exact ⟨.inr rfl, retOK_of [(.one (.c (.flt .f32 v3.bits)))] (by kernel_rfl) ⟨⟨rfl, tr⟩, tr⟩ (of_decide_eq_true (by kernel_rfl))⟩

/-! math.Float64frombits -/
def math_Float64frombits (_K : Nat) (a0 : Int) : Option (F64) :=
  Fl.ofBits .f64 a0

theorem ok_math_Float64frombits (K : Nat) (a0 : Int) (o : F64) (h : math_Float64frombits K a0 = some o) : CallOK Tryz.prog 111 [.one (.int .u64 a0)] [.one (.flt .f64 o.bits)] :=
  hand_ofBits (e := Extern.MathFloatBits.float64frombits) Tryz.func111 (by kernel_rfl) (by kernel_rfl) (by kernel_rfl) (by kernel_rfl) (fun _ _ => rfl) a0 o h

/-! math.NaN -/
def math_NaN (K : Nat) : Option (F64) :=
  (math_Float64frombits K (9221120237041090561 : Int)).bind fun v1 => some v1

theorem ok_math_NaN (K : Nat) (o : (F64)) (h : math_NaN K  = some o) : CallOK Tryz.prog 101 [] [.one (.flt .f64 o.bits)] := by
  refine callOK_of_AW Tryz.func101 rfl (by kernel_rfl) (Nat.le_of_ble_eq_true (by kernel_rfl)) ?_
  intro w0
  unfold math_NaN at h
  refine AW.seq (AW.rA ⟨[], []⟩ (Tt ∧ Tt) [] [] [] ⟨tr, tr⟩ (thenQ_normal ?_))
  refine AW.seq ?_
  obtain ⟨v1, e2, h⟩ := bind_some h
  refine AW.rA ⟨[(0, (vc (.flt .f64 v1.bits)))], []⟩ ((((Eqc (.int .u64 (9221120237041090561 : Int))) ∧ Tt) ∧ CallOK Tryz.prog 111 [.one (.int .u64 (9221120237041090561 : Int))] [.one (.flt .f64 v1.bits)]) ∧ Tt ∧ Tt) [.call [.one (.int .u64 (9221120237041090561 : Int))] [.one (.flt .f64 v1.bits)] [[.view]]] [0] [] ⟨⟨⟨rfl, tr⟩, ok_math_Float64frombits K (9221120237041090561 : Int) v1 e2⟩, tr, tr⟩ ?_
  refine thenQ_normal ?_
  refine AW.ret ?_
  replace h := some_eq h
  subst h
  exact ⟨.inr rfl, retOK_of [(.one (.c (.flt .f64 v1.bits)))] (by kernel_rfl) ⟨⟨rfl, tr⟩, tr⟩ (of_decide_eq_true (by kernel_rfl))⟩

/-! math.Abs -/
def math_Abs (_K : Nat) (a0 : F64) : Option (F64) :=
  some a0.abs

theorem ok_math_Abs (K : Nat) (a0 : F64) (o : F64) (h : math_Abs K a0 = some o) : CallOK Tryz.prog 102 [.one (.flt .f64 a0.bits)] [.one (.flt .f64 o.bits)] := by
  refine callOK_of_AW Tryz.func102 rfl (by kernel_rfl) (Nat.le_of_ble_eq_true (by kernel_rfl)) ?_
  intro w0
  replace h := some_eq h
  subst h
  refine AW.seq (AW.rA ⟨[(0, (vc (.flt .f64 a0.bits)))], []⟩ (Tt ∧ Tt) [] [0] [] ⟨tr, tr⟩ (thenQ_normal ?_))
  refine AW.seq ?_
  refine AW.rawA (i := .u64) (f := 112) (d := 4) (k := .f64) (c := a0.bits) (s1 := ⟨[(3, (vc (.flt .f64 a0.bits))), (0, (vc (.flt .f64 a0.bits)))], []⟩) (ob := Tt ∧ Tt) 1 [.no] (by kernel_rfl) ⟨tr, tr⟩ (e := Extern.MathFloatBits.float64bits) Tryz.func112 (by kernel_rfl) (by kernel_rfl) (by kernel_rfl) (by kernel_rfl) (fun _ _ => rfl) ?_
  intro b hb hc
  refine ⟨[.no, .call [.one (.int .u64 (bits .andNot .u64 (b : Int) (9223372036854775808 : Int)))] [.one (.flt .f64 a0.abs.bits)] [[.view]]], ⟨[(2, (vc (.flt .f64 a0.abs.bits))), (6, (vc (.flt .f64 a0.abs.bits))), (5, (vc (.int .u64 (bits .andNot .u64 (b : Int) (9223372036854775808 : Int))))), (4, (vc (.int .u64 (b : Int)))), (3, (vc (.flt .f64 a0.bits))), (0, (vc (.flt .f64 a0.bits)))], []⟩, Tt ∧ (((Eqc (.int .u64 (bits .andNot .u64 (b : Int) (9223372036854775808 : Int)))) ∧ Tt) ∧ CallOK Tryz.prog 111 [.one (.int .u64 (bits .andNot .u64 (b : Int) (9223372036854775808 : Int)))] [.one (.flt .f64 a0.abs.bits)]) ∧ Tt ∧ Tt, by kernel_rfl, ⟨tr, ⟨⟨rfl, tr⟩, ?_⟩, tr, tr⟩, ?_⟩
  · exact ok_math_Float64frombits K _ a0.abs (by rw [andNot_sign hb]; exact ofBits_abs hb a0 hc)
  · refine thenQ_normal ?_
    refine AW.ret ?_
    exact ⟨.inr rfl, retOK_of [(.one (.c (.flt .f64 a0.abs.bits)))] (by kernel_rfl) ⟨⟨rfl, tr⟩, tr⟩ (of_decide_eq_true (by kernel_rfl))⟩

/-! spec.l01AngleWide -/
def spec_l01AngleWide_l2 (K : Nat) (a0 : F64) (a1 : F64) (v11 : (F64)) (v13 : (F64)) (x18 : F64) : Nat → F64 → Int → Option (F64)
  | 0, _, _ => none
  | k + 1, x25, x26 => ite2 ((decide (x26 ≥ (1 : Int)))) (spec_l01AngleWide_l2 K a0 a1 v11 v13 x18 k (((Fl.mk (k := .f64) 4607182418800017408 (by decide)).div (Fl.ofInt .f64 x26)).sub ((x18.mul x18).mul x25)) (IntKind.i64.wrap (x26 - (2 : Int)))) (ite2 ((v11.gt v13)) (ite2 ((a1.lt' (Fl.mk (k := .f64) 0 (by decide)))) (ite2 ((a0.lt' (Fl.mk (k := .f64) 0 (by decide)))) (some (((Fl.mk (k := .f64) 4602678819172646912 (by decide)).sub ((Fl.mk (k := .f64) 4598175219545276416 (by decide)).sub (((Fl.mk (k := .f64) 4620693217682128896 (by decide)).mul (x18.mul x25)).div (Fl.mk (k := .f64) 4618760256179416344 (by decide))))).neg)) (some ((Fl.mk (k := .f64) 4602678819172646912 (by decide)).sub ((Fl.mk (k := .f64) 4598175219545276416 (by decide)).sub (((Fl.mk (k := .f64) 4620693217682128896 (by decide)).mul (x18.mul x25)).div (Fl.mk (k := .f64) 4618760256179416344 (by decide))))))) (ite2 ((a0.lt' (Fl.mk (k := .f64) 0 (by decide)))) (some (((Fl.mk (k := .f64) 4598175219545276416 (by decide)).sub (((Fl.mk (k := .f64) 4620693217682128896 (by decide)).mul (x18.mul x25)).div (Fl.mk (k := .f64) 4618760256179416344 (by decide)))).neg)) (some ((Fl.mk (k := .f64) 4598175219545276416 (by decide)).sub (((Fl.mk (k := .f64) 4620693217682128896 (by decide)).mul (x18.mul x25)).div (Fl.mk (k := .f64) 4618760256179416344 (by decide))))))) (ite2 ((a1.lt' (Fl.mk (k := .f64) 0 (by decide)))) (ite2 ((a0.lt' (Fl.mk (k := .f64) 0 (by decide)))) (some (((Fl.mk (k := .f64) 4602678819172646912 (by decide)).sub (((Fl.mk (k := .f64) 4620693217682128896 (by decide)).mul (x18.mul x25)).div (Fl.mk (k := .f64) 4618760256179416344 (by decide)))).neg)) (some ((Fl.mk (k := .f64) 4602678819172646912 (by decide)).sub (((Fl.mk (k := .f64) 4620693217682128896 (by decide)).mul (x18.mul x25)).div (Fl.mk (k := .f64) 4618760256179416344 (by decide)))))) (ite2 ((a0.lt' (Fl.mk (k := .f64) 0 (by decide)))) (some ((((Fl.mk (k := .f64) 4620693217682128896 (by decide)).mul (x18.mul x25)).div (Fl.mk (k := .f64) 4618760256179416344 (by decide))).neg)) (some (((Fl.mk (k := .f64) 4620693217682128896 (by decide)).mul (x18.mul x25)).div (Fl.mk (k := .f64) 4618760256179416344 (by decide)))))))

def spec_l01AngleWide_l1 (K : Nat) (a0 : F64) (a1 : F64) (v11 : (F64)) (v13 : (F64)) : Nat → F64 → Int → Option (F64)
  | 0, _, _ => none
  | k + 1, x18, x19 => ite2 ((decide (x19 < (3 : Int)))) ((math_Sqrt K ((Fl.mk (k := .f64) 4607182418800017408 (by decide)).add (x18.mul x18))).bind fun v21 => spec_l01AngleWide_l1 K a0 a1 v11 v13 k (x18.div ((Fl.mk (k := .f64) 4607182418800017408 (by decide)).add v21)) (IntKind.i64.wrap (x19 + (1 : Int)))) (spec_l01AngleWide_l2 K a0 a1 v11 v13 x18 K (Fl.mk (k := .f64) 0 (by decide)) (15 : Int))

def spec_l01AngleWide_l4 (K : Nat) (a0 : F64) (a1 : F64) (v11 : (F64)) (v13 : (F64)) (x37 : F64) : Nat → F64 → Int → Option (F64)
  | 0, _, _ => none
  | k + 1, x44, x45 => ite2 ((decide (x45 ≥ (1 : Int)))) (spec_l01AngleWide_l4 K a0 a1 v11 v13 x37 k (((Fl.mk (k := .f64) 4607182418800017408 (by decide)).div (Fl.ofInt .f64 x45)).sub ((x37.mul x37).mul x44)) (IntKind.i64.wrap (x45 - (2 : Int)))) (ite2 ((v11.gt v13)) (ite2 ((a1.lt' (Fl.mk (k := .f64) 0 (by decide)))) (ite2 ((a0.lt' (Fl.mk (k := .f64) 0 (by decide)))) (some (((Fl.mk (k := .f64) 4602678819172646912 (by decide)).sub ((Fl.mk (k := .f64) 4598175219545276416 (by decide)).sub (((Fl.mk (k := .f64) 4620693217682128896 (by decide)).mul (x37.mul x44)).div (Fl.mk (k := .f64) 4618760256179416344 (by decide))))).neg)) (some ((Fl.mk (k := .f64) 4602678819172646912 (by decide)).sub ((Fl.mk (k := .f64) 4598175219545276416 (by decide)).sub (((Fl.mk (k := .f64) 4620693217682128896 (by decide)).mul (x37.mul x44)).div (Fl.mk (k := .f64) 4618760256179416344 (by decide))))))) (ite2 ((a0.lt' (Fl.mk (k := .f64) 0 (by decide)))) (some (((Fl.mk (k := .f64) 4598175219545276416 (by decide)).sub (((Fl.mk (k := .f64) 4620693217682128896 (by decide)).mul (x37.mul x44)).div (Fl.mk (k := .f64) 4618760256179416344 (by decide)))).neg)) (some ((Fl.mk (k := .f64) 4598175219545276416 (by decide)).sub (((Fl.mk (k := .f64) 4620693217682128896 (by decide)).mul (x37.mul x44)).div (Fl.mk (k := .f64) 4618760256179416344 (by decide))))))) (ite2 ((a1.lt' (Fl.mk (k := .f64) 0 (by decide)))) (ite2 ((a0.lt' (Fl.mk (k := .f64) 0 (by decide)))) (some (((Fl.mk (k := .f64) 4602678819172646912 (by decide)).sub (((Fl.mk (k := .f64) 4620693217682128896 (by decide)).mul (x37.mul x44)).div (Fl.mk (k := .f64) 4618760256179416344 (by decide)))).neg)) (some ((Fl.mk (k := .f64) 4602678819172646912 (by decide)).sub (((Fl.mk (k := .f64) 4620693217682128896 (by decide)).mul (x37.mul x44)).div (Fl.mk (k := .f64) 4618760256179416344 (by decide)))))) (ite2 ((a0.lt' (Fl.mk (k := .f64) 0 (by decide)))) (some ((((Fl.mk (k := .f64) 4620693217682128896 (by decide)).mul (x37.mul x44)).div (Fl.mk (k := .f64) 4618760256179416344 (by decide))).neg)) (some (((Fl.mk (k := .f64) 4620693217682128896 (by decide)).mul (x37.mul x44)).div (Fl.mk (k := .f64) 4618760256179416344 (by decide)))))))

def spec_l01AngleWide_l3 (K : Nat) (a0 : F64) (a1 : F64) (v11 : (F64)) (v13 : (F64)) : Nat → F64 → Int → Option (F64)
  | 0, _, _ => none
  | k + 1, x37, x38 => ite2 ((decide (x38 < (3 : Int)))) ((math_Sqrt K ((Fl.mk (k := .f64) 4607182418800017408 (by decide)).add (x37.mul x37))).bind fun v40 => spec_l01AngleWide_l3 K a0 a1 v11 v13 k (x37.div ((Fl.mk (k := .f64) 4607182418800017408 (by decide)).add v40)) (IntKind.i64.wrap (x38 + (1 : Int)))) (spec_l01AngleWide_l4 K a0 a1 v11 v13 x37 K (Fl.mk (k := .f64) 0 (by decide)) (15 : Int))

def spec_l01AngleWide (K : Nat) (a0 : F64) (a1 : F64) : Option (F64) :=
  (ite2 (((a0.sub a0).ne (Fl.mk (k := .f64) 0 (by decide)))) (some true) (some ((a1.sub a1).ne (Fl.mk (k := .f64) 0 (by decide))))).bind fun j2 => ite2 (j2) ((math_NaN K ).bind fun v5 => some v5) ((ite2 ((a1.eq (Fl.mk (k := .f64) 0 (by decide)))) (some (a0.eq (Fl.mk (k := .f64) 0 (by decide)))) (some false)).bind fun j8 => ite2 (j8) (some (Fl.mk (k := .f64) 0 (by decide))) ((math_Abs K a0).bind fun v11 => (math_Abs K a1).bind fun v13 => ite2 ((v11.gt v13)) (spec_l01AngleWide_l1 K a0 a1 v11 v13 K (v13.div v11) (0 : Int)) (spec_l01AngleWide_l3 K a0 a1 v11 v13 K (v11.div v13) (0 : Int))))

theorem ok_spec_l01AngleWide (K : Nat) (a0 : F64) (a1 : F64) (o : (F64)) (h : spec_l01AngleWide K a0 a1 = some o) : CallOK Tryz.prog 83 [.one (.flt .f64 a0.bits), .one (.flt .f64 a1.bits)] [.one (.flt .f64 o.bits)] := by
  refine callOK_of_AW Tryz.func83 rfl (by kernel_rfl) (Nat.le_of_ble_eq_true (by kernel_rfl)) ?_
  intro w0
  unfold spec_l01AngleWide at h
  refine AW.seq (AW.rA ⟨[(0, (vc (.flt .f64 a0.bits))), (1, (vc (.flt .f64 a1.bits)))], []⟩ (Tt ∧ Tt) [] [0, 1] [] ⟨tr, tr⟩ (thenQ_normal ?_))
  refine AW.seq ?_
  refine AW.seq ?_
  obtain ⟨j2, e3, h⟩ := bind_some h
  refine AW.join1 (s2 := ⟨[(0, (vc (.flt .f64 a0.bits))), (1, (vc (.flt .f64 a1.bits))), (23, (vc (.bool j2)))], []⟩) ?_ ?_
  · rcases ite2_cases e3 with ⟨b1, e3⟩ | ⟨b1, e3⟩
    · replace e3 := some_eq e3
      subst e3
      exact AW.rA ⟨[(0, (vc (.flt .f64 a0.bits))), (1, (vc (.flt .f64 a1.bits))), (23, (vc (.bool true)))], []⟩ (T4 ((Tt ∧ ((a0.sub a0).ne (Fl.mk (k := .f64) 0 (by decide))) = true) ∧ Tt ∧ T4 Tt)) [.no, .no, .no, .no, .dec true] [0, 1, 23] [] ⟨tr, tr, tr, tr, ⟨tr, b1⟩, tr, tr, tr, tr, tr, tr⟩ ⟨rfl, rfl⟩
    · replace e3 := some_eq e3
      subst e3
      exact AW.rA ⟨[(0, (vc (.flt .f64 a0.bits))), (1, (vc (.flt .f64 a1.bits))), (23, (vc (.bool ((a1.sub a1).ne (Fl.mk (k := .f64) 0 (by decide))))))], []⟩ (T4 ((Tt ∧ ((a0.sub a0).ne (Fl.mk (k := .f64) 0 (by decide))) = false) ∧ Tt ∧ T4 Tt)) [.no, .no, .no, .no, .dec false] [0, 1, 23] [] ⟨tr, tr, tr, tr, ⟨tr, b1⟩, tr, tr, tr, tr, tr, tr⟩ ⟨rfl, rfl⟩
  refine thenQ_normal ?_
  rcases ite2_cases h with ⟨b4, h⟩ | ⟨b4, h⟩
  · refine AW.cond_t rfl b4 ?_
    refine AW.seq ?_
    obtain ⟨v5, e6, h⟩ := bind_some h
    refine AW.rA ⟨[(4, (vc (.flt .f64 v5.bits)))], []⟩ (((Tt) ∧ CallOK Tryz.prog 101 [] [.one (.flt .f64 v5.bits)]) ∧ Tt ∧ Tt) [.call [] [.one (.flt .f64 v5.bits)] [[.view]]] [4] [] ⟨⟨tr, ok_math_NaN K v5 e6⟩, tr, tr⟩ ?_
    refine thenQ_normal ?_
    refine AW.ret ?_
    refine thenQ_ret ?_
    replace h := some_eq h
    subst h
    exact ⟨.inr rfl, retOK_of [(.one (.c (.flt .f64 v5.bits)))] (by kernel_rfl) ⟨⟨rfl, tr⟩, tr⟩ (of_decide_eq_true (by kernel_rfl))⟩
  · refine AW.cond_f rfl b4 ?_
    refine AW.skip ?_
    refine thenQ_normal ?_
    refine AW.seq ?_
    refine AW.seq ?_
    obtain ⟨j8, e9, h⟩ := bind_some h
    refine AW.join1 (s2 := ⟨[(0, (vc (.flt .f64 a0.bits))), (1, (vc (.flt .f64 a1.bits))), (30, (vc (.bool j8)))], []⟩) ?_ ?_
    · rcases ite2_cases e9 with ⟨b7, e9⟩ | ⟨b7, e9⟩
      · replace e9 := some_eq e9
        subst e9
        exact AW.rA ⟨[(0, (vc (.flt .f64 a0.bits))), (1, (vc (.flt .f64 a1.bits))), (30, (vc (.bool (a0.eq (Fl.mk (k := .f64) 0 (by decide))))))], []⟩ (T2 ((Tt ∧ (a1.eq (Fl.mk (k := .f64) 0 (by decide))) = true) ∧ Tt ∧ T2 Tt)) [.no, .no, .dec true] [0, 1, 30] [] ⟨tr, tr, ⟨tr, b7⟩, tr, tr, tr, tr⟩ ⟨rfl, rfl⟩
      · replace e9 := some_eq e9
        subst e9
        exact AW.rA ⟨[(0, (vc (.flt .f64 a0.bits))), (1, (vc (.flt .f64 a1.bits))), (30, (vc (.bool false)))], []⟩ (T2 ((Tt ∧ (a1.eq (Fl.mk (k := .f64) 0 (by decide))) = false) ∧ Tt ∧ T2 Tt)) [.no, .no, .dec false] [0, 1, 30] [] ⟨tr, tr, ⟨tr, b7⟩, tr, tr, tr, tr⟩ ⟨rfl, rfl⟩
    refine thenQ_normal ?_
    rcases ite2_cases h with ⟨b10, h⟩ | ⟨b10, h⟩
    · refine AW.cond_t rfl b10 ?_
      refine AW.seq (AW.rA ⟨[(4, (vc (.flt .f64 (Fl.mk (k := .f64) 0 (by decide)).bits)))], []⟩ (Tt ∧ Tt) [] [4] [] ⟨tr, tr⟩ (thenQ_normal ?_))
      refine AW.ret ?_
      refine thenQ_ret ?_
      replace h := some_eq h
      subst h
      exact ⟨.inr rfl, retOK_of [(.one (.c (.flt .f64 (Fl.mk (k := .f64) 0 (by decide)).bits)))] (by kernel_rfl) ⟨⟨rfl, tr⟩, tr⟩ (of_decide_eq_true (by kernel_rfl))⟩
    · refine AW.cond_f rfl b10 ?_
      refine AW.skip ?_
      refine thenQ_normal ?_
      refine AW.seq ?_
      obtain ⟨v11, e12, h⟩ := bind_some h
      refine AW.rA ⟨[(0, (vc (.flt .f64 a0.bits))), (1, (vc (.flt .f64 a1.bits))), (5, (vc (.flt .f64 v11.bits)))], []⟩ (Tt ∧ (((Eqc (.flt .f64 a0.bits)) ∧ Tt) ∧ CallOK Tryz.prog 102 [.one (.flt .f64 a0.bits)] [.one (.flt .f64 v11.bits)]) ∧ Tt ∧ Tt) [.no, .call [.one (.flt .f64 a0.bits)] [.one (.flt .f64 v11.bits)] [[.view]]] [0, 1, 5] [] ⟨tr, ⟨⟨rfl, tr⟩, ok_math_Abs K a0 v11 e12⟩, tr, tr⟩ ?_
      refine thenQ_normal ?_
      refine AW.seq ?_
      obtain ⟨v13, e14, h⟩ := bind_some h
      refine AW.rA ⟨[(0, (vc (.flt .f64 a0.bits))), (1, (vc (.flt .f64 a1.bits))), (5, (vc (.flt .f64 v11.bits))), (6, (vc (.flt .f64 v13.bits)))], []⟩ (Tt ∧ (((Eqc (.flt .f64 a1.bits)) ∧ Tt) ∧ CallOK Tryz.prog 102 [.one (.flt .f64 a1.bits)] [.one (.flt .f64 v13.bits)]) ∧ Tt ∧ Tt) [.no, .call [.one (.flt .f64 a1.bits)] [.one (.flt .f64 v13.bits)] [[.view]]] [0, 1, 5, 6] [] ⟨tr, ⟨⟨rfl, tr⟩, ok_math_Abs K a1 v13 e14⟩, tr, tr⟩ ?_
      refine thenQ_normal ?_
      refine AW.seq (AW.rA ⟨[(0, (vc (.flt .f64 a0.bits))), (1, (vc (.flt .f64 a1.bits))), (5, (vc (.flt .f64 v11.bits))), (6, (vc (.flt .f64 v13.bits))), (7, (vc (.bool (v11.gt v13))))], []⟩ (T4 Tt) [] [0, 1, 5, 6, 7] [] ⟨tr, tr, tr, tr, tr⟩ (thenQ_normal ?_))
      refine AW.seq (AW.rA ⟨[(0, (vc (.flt .f64 a0.bits))), (1, (vc (.flt .f64 a1.bits))), (5, (vc (.flt .f64 v11.bits))), (6, (vc (.flt .f64 v13.bits))), (7, (vc (.bool (v11.gt v13))))], []⟩ (Tt ∧ Tt) [] [0, 1, 5, 6, 7] [] ⟨tr, tr⟩ (thenQ_normal ?_))
      refine AW.seq ?_
      refine AW.seq (AW.rA ⟨[(0, (vc (.flt .f64 a0.bits))), (1, (vc (.flt .f64 a1.bits))), (5, (vc (.flt .f64 v11.bits))), (6, (vc (.flt .f64 v13.bits))), (7, (vc (.bool (v11.gt v13)))), (38, (vc (.bool (v11.gt v13))))], []⟩ (Tt ∧ Tt) [] [0, 1, 5, 6, 7, 38] [] ⟨tr, tr⟩ (thenQ_normal ?_))
      rcases ite2_cases h with ⟨b15, h⟩ | ⟨b15, h⟩
      · refine AW.cond_t rfl b15 ?_
        refine AW.rA ⟨[(0, (vc (.flt .f64 a0.bits))), (1, (vc (.flt .f64 a1.bits))), (7, (vc (.bool (v11.gt v13)))), (8, (vc (.flt .f64 (v13.div v11).bits)))], []⟩ (T4 Tt) [] [0, 1, 7, 8] [] ⟨tr, tr, tr, tr, tr⟩ ?_
        refine thenQ_normal ?_
        refine AW.seq ?_
        refine AW.seq (AW.rA ⟨[(0, (vc (.flt .f64 a0.bits))), (1, (vc (.flt .f64 a1.bits))), (7, (vc (.bool (v11.gt v13)))), (8, (vc (.flt .f64 (v13.div v11).bits))), (9, (vc (.int .i64 (0 : Int))))], []⟩ (Tt ∧ Tt) [] [0, 1, 7, 8, 9] [] ⟨tr, tr⟩ (thenQ_normal ?_))
        refine AW.block ?_
        refine AW.loopQ (σ := Nat × F64 × Int) (fun p => ⟨[(0, (vc (.flt .f64 a0.bits))), (1, (vc (.flt .f64 a1.bits))), (7, (vc (.bool (v11.gt v13)))), (8, (vc (.flt .f64 p.2.1.bits))), (9, (vc (.int .i64 p.2.2)))], []⟩) (fun p => spec_l01AngleWide_l1 K a0 a1 v11 v13 p.1 p.2.1 p.2.2 = some o) (fun p => p.1) (K, (v13.div v11), (0 : Int)) h ?_
        clear h
        rintro ⟨k, x18, x19⟩ h
        replace h : spec_l01AngleWide_l1 K a0 a1 v11 v13 k x18 x19 = some o := h
        show AW _ _ (⟨[(0, (vc (.flt .f64 a0.bits))), (1, (vc (.flt .f64 a1.bits))), (7, (vc (.bool (v11.gt v13)))), (8, (vc (.flt .f64 x18.bits))), (9, (vc (.int .i64 x19)))], []⟩ : St) _
        obtain _ | k := k
        · rw [spec_l01AngleWide_l1] at h; cases h
        rw [spec_l01AngleWide_l1] at h
        refine AW.seq ?_
        refine AW.seq (AW.rA ⟨[(0, (vc (.flt .f64 a0.bits))), (1, (vc (.flt .f64 a1.bits))), (7, (vc (.bool (v11.gt v13)))), (8, (vc (.flt .f64 x18.bits))), (9, (vc (.int .i64 x19))), (46, (vc (.bool (decide (x19 < (3 : Int))))))], []⟩ (T2 Tt) [] [0, 1, 7, 8, 9, 46] [] ⟨tr, tr, tr⟩ (thenQ_normal ?_))
        rcases ite2_cases h with ⟨b20, h⟩ | ⟨b20, h⟩
        · refine AW.cond_t rfl b20 ?_
          refine AW.skip ?_
          refine thenQ_normal ?_
          refine AW.seq ?_
          refine AW.block ?_
          obtain ⟨v21, e22, h⟩ := bind_some h
          refine AW.rA ⟨[(0, (vc (.flt .f64 a0.bits))), (1, (vc (.flt .f64 a1.bits))), (7, (vc (.bool (v11.gt v13)))), (8, (vc (.flt .f64 (x18.div ((Fl.mk (k := .f64) 4607182418800017408 (by decide)).add v21)).bits))), (9, (vc (.int .i64 x19)))], []⟩ (Tt ∧ T4 ((((Eqc (.flt .f64 ((Fl.mk (k := .f64) 4607182418800017408 (by decide)).add (x18.mul x18)).bits)) ∧ Tt) ∧ CallOK Tryz.prog 87 [.one (.flt .f64 ((Fl.mk (k := .f64) 4607182418800017408 (by decide)).add (x18.mul x18)).bits)] [.one (.flt .f64 v21.bits)]) ∧ Tt ∧ T2 Tt)) [.no, .no, .no, .no, .no, .call [.one (.flt .f64 ((Fl.mk (k := .f64) 4607182418800017408 (by decide)).add (x18.mul x18)).bits)] [.one (.flt .f64 v21.bits)] [[.view]]] [0, 1, 7, 8, 9] [] ⟨tr, tr, tr, tr, tr, ⟨⟨rfl, tr⟩, ok_math_Sqrt K ((Fl.mk (k := .f64) 4607182418800017408 (by decide)).add (x18.mul x18)) v21 e22⟩, tr, tr, tr, tr⟩ ?_
          refine blockQ_normal ?_
          refine thenQ_normal ?_
          refine AW.rA ⟨[(0, (vc (.flt .f64 a0.bits))), (1, (vc (.flt .f64 a1.bits))), (7, (vc (.bool (v11.gt v13)))), (8, (vc (.flt .f64 (x18.div ((Fl.mk (k := .f64) 4607182418800017408 (by decide)).add v21)).bits))), (9, (vc (.int .i64 (IntKind.i64.wrap (x19 + (1 : Int))))))], []⟩ (Tt ∧ T2 Tt) [] [0, 1, 7, 8, 9] [] ⟨tr, tr, tr, tr⟩ ?_
          exact loopQ_normal (k, (x18.div ((Fl.mk (k := .f64) 4607182418800017408 (by decide)).add v21)), (IntKind.i64.wrap (x19 + (1 : Int)))) h (Nat.lt_succ_self k) (Sub.keep [0, 1, 7, 8, 9] [] (by kernel_rfl) (by kernel_rfl))
        · refine AW.cond_f rfl b20 ?_
          refine AW.exit ?_
          refine thenQ_exit ?_
          refine loopQ_exit ?_
          refine blockQ_exit ?_
          refine thenQ_normal ?_
          refine AW.seq (AW.rA ⟨[(0, (vc (.flt .f64 a0.bits))), (1, (vc (.flt .f64 a1.bits))), (7, (vc (.bool (v11.gt v13)))), (8, (vc (.flt .f64 x18.bits))), (10, (vc (.flt .f64 (x18.mul x18).bits)))], []⟩ (T4 Tt) [] [0, 1, 7, 8, 10] [] ⟨tr, tr, tr, tr, tr⟩ (thenQ_normal ?_))
          refine AW.seq (AW.rA ⟨[(0, (vc (.flt .f64 a0.bits))), (1, (vc (.flt .f64 a1.bits))), (7, (vc (.bool (v11.gt v13)))), (8, (vc (.flt .f64 x18.bits))), (10, (vc (.flt .f64 (x18.mul x18).bits))), (11, (vc (.flt .f64 (Fl.mk (k := .f64) 0 (by decide)).bits)))], []⟩ (Tt ∧ Tt) [] [0, 1, 7, 8, 10, 11] [] ⟨tr, tr⟩ (thenQ_normal ?_))
          refine AW.seq ?_
          refine AW.seq (AW.rA ⟨[(0, (vc (.flt .f64 a0.bits))), (1, (vc (.flt .f64 a1.bits))), (7, (vc (.bool (v11.gt v13)))), (8, (vc (.flt .f64 x18.bits))), (10, (vc (.flt .f64 (x18.mul x18).bits))), (11, (vc (.flt .f64 (Fl.mk (k := .f64) 0 (by decide)).bits))), (12, (vc (.int .i64 (15 : Int))))], []⟩ (Tt ∧ Tt) [] [0, 1, 7, 8, 10, 11, 12] [] ⟨tr, tr⟩ (thenQ_normal ?_))
          refine AW.block ?_
          refine AW.loopQ (σ := Nat × F64 × Int) (fun p => ⟨[(0, (vc (.flt .f64 a0.bits))), (1, (vc (.flt .f64 a1.bits))), (7, (vc (.bool (v11.gt v13)))), (8, (vc (.flt .f64 x18.bits))), (10, (vc (.flt .f64 (x18.mul x18).bits))), (11, (vc (.flt .f64 p.2.1.bits))), (12, (vc (.int .i64 p.2.2)))], []⟩) (fun p => spec_l01AngleWide_l2 K a0 a1 v11 v13 x18 p.1 p.2.1 p.2.2 = some o) (fun p => p.1) (K, (Fl.mk (k := .f64) 0 (by decide)), (15 : Int)) h ?_
          clear h
          rintro ⟨k, x25, x26⟩ h
          replace h : spec_l01AngleWide_l2 K a0 a1 v11 v13 x18 k x25 x26 = some o := h
          show AW _ _ (⟨[(0, (vc (.flt .f64 a0.bits))), (1, (vc (.flt .f64 a1.bits))), (7, (vc (.bool (v11.gt v13)))), (8, (vc (.flt .f64 x18.bits))), (10, (vc (.flt .f64 (x18.mul x18).bits))), (11, (vc (.flt .f64 x25.bits))), (12, (vc (.int .i64 x26)))], []⟩ : St) _
          obtain _ | k := k
          · rw [spec_l01AngleWide_l2] at h; cases h
          rw [spec_l01AngleWide_l2] at h
          refine AW.seq ?_
          refine AW.seq (AW.rA ⟨[(0, (vc (.flt .f64 a0.bits))), (1, (vc (.flt .f64 a1.bits))), (7, (vc (.bool (v11.gt v13)))), (8, (vc (.flt .f64 x18.bits))), (10, (vc (.flt .f64 (x18.mul x18).bits))), (11, (vc (.flt .f64 x25.bits))), (12, (vc (.int .i64 x26))), (61, (vc (.bool (decide (x26 ≥ (1 : Int))))))], []⟩ (T2 Tt) [] [0, 1, 7, 8, 10, 11, 12, 61] [] ⟨tr, tr, tr⟩ (thenQ_normal ?_))
          rcases ite2_cases h with ⟨b27, h⟩ | ⟨b27, h⟩
          · refine AW.cond_t rfl b27 ?_
            refine AW.skip ?_
            refine thenQ_normal ?_
            refine AW.seq ?_
            refine AW.block ?_
            refine AW.rA ⟨[(0, (vc (.flt .f64 a0.bits))), (1, (vc (.flt .f64 a1.bits))), (7, (vc (.bool (v11.gt v13)))), (8, (vc (.flt .f64 x18.bits))), (10, (vc (.flt .f64 (x18.mul x18).bits))), (11, (vc (.flt .f64 (((Fl.mk (k := .f64) 4607182418800017408 (by decide)).div (Fl.ofInt .f64 x26)).sub ((x18.mul x18).mul x25)).bits))), (12, (vc (.int .i64 x26)))], []⟩ (T4 (T4 Tt)) [] [0, 1, 7, 8, 10, 11, 12] [] ⟨tr, tr, tr, tr, tr, tr, tr, tr, tr⟩ ?_
            refine blockQ_normal ?_
            refine thenQ_normal ?_
            refine AW.rA ⟨[(0, (vc (.flt .f64 a0.bits))), (1, (vc (.flt .f64 a1.bits))), (7, (vc (.bool (v11.gt v13)))), (8, (vc (.flt .f64 x18.bits))), (10, (vc (.flt .f64 (x18.mul x18).bits))), (11, (vc (.flt .f64 (((Fl.mk (k := .f64) 4607182418800017408 (by decide)).div (Fl.ofInt .f64 x26)).sub ((x18.mul x18).mul x25)).bits))), (12, (vc (.int .i64 (IntKind.i64.wrap (x26 - (2 : Int))))))], []⟩ (Tt ∧ T2 Tt) [] [0, 1, 7, 8, 10, 11, 12] [] ⟨tr, tr, tr, tr⟩ ?_
            exact loopQ_normal (k, (((Fl.mk (k := .f64) 4607182418800017408 (by decide)).div (Fl.ofInt .f64 x26)).sub ((x18.mul x18).mul x25)), (IntKind.i64.wrap (x26 - (2 : Int)))) h (Nat.lt_succ_self k) (Sub.keep [0, 1, 7, 8, 10, 11, 12] [] (by kernel_rfl) (by kernel_rfl))
          · refine AW.cond_f rfl b27 ?_
            refine AW.exit ?_
            refine thenQ_exit ?_
            refine loopQ_exit ?_
            refine blockQ_exit ?_
            refine thenQ_normal ?_
            refine AW.seq (AW.rA ⟨[(0, (vc (.flt .f64 a0.bits))), (1, (vc (.flt .f64 a1.bits))), (7, (vc (.bool (v11.gt v13)))), (13, (vc (.flt .f64 (((Fl.mk (k := .f64) 4620693217682128896 (by decide)).mul (x18.mul x25)).div (Fl.mk (k := .f64) 4618760256179416344 (by decide))).bits)))], []⟩ (T2 (T4 Tt)) [] [0, 1, 7, 13] [] ⟨tr, tr, tr, tr, tr, tr, tr⟩ (thenQ_normal ?_))
            refine AW.seq ?_
            refine AW.seq (AW.rA ⟨[(0, (vc (.flt .f64 a0.bits))), (1, (vc (.flt .f64 a1.bits))), (13, (vc (.flt .f64 (((Fl.mk (k := .f64) 4620693217682128896 (by decide)).mul (x18.mul x25)).div (Fl.mk (k := .f64) 4618760256179416344 (by decide))).bits))), (76, (vc (.bool (v11.gt v13))))], []⟩ (Tt ∧ Tt) [] [0, 1, 13, 76] [] ⟨tr, tr⟩ (thenQ_normal ?_))
            rcases ite2_cases h with ⟨b28, h⟩ | ⟨b28, h⟩
            · refine AW.cond_t rfl b28 ?_
              refine AW.rA ⟨[(0, (vc (.flt .f64 a0.bits))), (1, (vc (.flt .f64 a1.bits))), (13, (vc (.flt .f64 ((Fl.mk (k := .f64) 4598175219545276416 (by decide)).sub (((Fl.mk (k := .f64) 4620693217682128896 (by decide)).mul (x18.mul x25)).div (Fl.mk (k := .f64) 4618760256179416344 (by decide)))).bits)))], []⟩ (Tt ∧ T2 Tt) [] [0, 1, 13] [] ⟨tr, tr, tr, tr⟩ ?_
              refine thenQ_normal ?_
              refine AW.seq ?_
              refine AW.seq (AW.rA ⟨[(0, (vc (.flt .f64 a0.bits))), (13, (vc (.flt .f64 ((Fl.mk (k := .f64) 4598175219545276416 (by decide)).sub (((Fl.mk (k := .f64) 4620693217682128896 (by decide)).mul (x18.mul x25)).div (Fl.mk (k := .f64) 4618760256179416344 (by decide)))).bits))), (80, (vc (.bool (a1.lt' (Fl.mk (k := .f64) 0 (by decide))))))], []⟩ (T2 Tt) [] [0, 13, 80] [] ⟨tr, tr, tr⟩ (thenQ_normal ?_))
              rcases ite2_cases h with ⟨b29, h⟩ | ⟨b29, h⟩
              · refine AW.cond_t rfl b29 ?_
                refine AW.rA ⟨[(0, (vc (.flt .f64 a0.bits))), (13, (vc (.flt .f64 ((Fl.mk (k := .f64) 4602678819172646912 (by decide)).sub ((Fl.mk (k := .f64) 4598175219545276416 (by decide)).sub (((Fl.mk (k := .f64) 4620693217682128896 (by decide)).mul (x18.mul x25)).div (Fl.mk (k := .f64) 4618760256179416344 (by decide))))).bits)))], []⟩ (Tt ∧ T2 Tt) [] [0, 13] [] ⟨tr, tr, tr, tr⟩ ?_
                refine thenQ_normal ?_
                refine AW.seq ?_
                refine AW.seq (AW.rA ⟨[(13, (vc (.flt .f64 ((Fl.mk (k := .f64) 4602678819172646912 (by decide)).sub ((Fl.mk (k := .f64) 4598175219545276416 (by decide)).sub (((Fl.mk (k := .f64) 4620693217682128896 (by decide)).mul (x18.mul x25)).div (Fl.mk (k := .f64) 4618760256179416344 (by decide))))).bits))), (84, (vc (.bool (a0.lt' (Fl.mk (k := .f64) 0 (by decide))))))], []⟩ (T2 Tt) [] [13, 84] [] ⟨tr, tr, tr⟩ (thenQ_normal ?_))
                rcases ite2_cases h with ⟨b30, h⟩ | ⟨b30, h⟩
                · refine AW.cond_t rfl b30 ?_
                  refine AW.seq (AW.rA ⟨[(4, (vc (.flt .f64 (((Fl.mk (k := .f64) 4602678819172646912 (by decide)).sub ((Fl.mk (k := .f64) 4598175219545276416 (by decide)).sub (((Fl.mk (k := .f64) 4620693217682128896 (by decide)).mul (x18.mul x25)).div (Fl.mk (k := .f64) 4618760256179416344 (by decide))))).neg).bits)))], []⟩ (Tt ∧ T2 Tt) [] [4] [] ⟨tr, tr, tr, tr⟩ (thenQ_normal ?_))
                  refine AW.ret ?_
                  refine thenQ_ret ?_
                  replace h := some_eq h
                  subst h
                  exact ⟨.inr rfl, retOK_of [(.one (.c (.flt .f64 (((Fl.mk (k := .f64) 4602678819172646912 (by decide)).sub ((Fl.mk (k := .f64) 4598175219545276416 (by decide)).sub (((Fl.mk (k := .f64) 4620693217682128896 (by decide)).mul (x18.mul x25)).div (Fl.mk (k := .f64) 4618760256179416344 (by decide))))).neg).bits)))] (by kernel_rfl) ⟨⟨rfl, tr⟩, tr⟩ (of_decide_eq_true (by kernel_rfl))⟩
                · refine AW.cond_f rfl b30 ?_
                  refine AW.skip ?_
                  refine thenQ_normal ?_
                  refine AW.seq (AW.rA ⟨[(4, (vc (.flt .f64 ((Fl.mk (k := .f64) 4602678819172646912 (by decide)).sub ((Fl.mk (k := .f64) 4598175219545276416 (by decide)).sub (((Fl.mk (k := .f64) 4620693217682128896 (by decide)).mul (x18.mul x25)).div (Fl.mk (k := .f64) 4618760256179416344 (by decide))))).bits)))], []⟩ (T2 Tt) [] [4] [] ⟨tr, tr, tr⟩ (thenQ_normal ?_))
                  refine AW.ret ?_
                  replace h := some_eq h
                  subst h
                  exact ⟨.inr rfl, retOK_of [(.one (.c (.flt .f64 ((Fl.mk (k := .f64) 4602678819172646912 (by decide)).sub ((Fl.mk (k := .f64) 4598175219545276416 (by decide)).sub (((Fl.mk (k := .f64) 4620693217682128896 (by decide)).mul (x18.mul x25)).div (Fl.mk (k := .f64) 4618760256179416344 (by decide))))).bits)))] (by kernel_rfl) ⟨⟨rfl, tr⟩, tr⟩ (of_decide_eq_true (by kernel_rfl))⟩
              · refine AW.cond_f rfl b29 ?_
                refine AW.skip ?_
                refine thenQ_normal ?_
                refine AW.seq ?_
                refine AW.seq (AW.rA ⟨[(13, (vc (.flt .f64 ((Fl.mk (k := .f64) 4598175219545276416 (by decide)).sub (((Fl.mk (k := .f64) 4620693217682128896 (by decide)).mul (x18.mul x25)).div (Fl.mk (k := .f64) 4618760256179416344 (by decide)))).bits))), (84, (vc (.bool (a0.lt' (Fl.mk (k := .f64) 0 (by decide))))))], []⟩ (T2 Tt) [] [13, 84] [] ⟨tr, tr, tr⟩ (thenQ_normal ?_))
                rcases ite2_cases h with ⟨b31, h⟩ | ⟨b31, h⟩
                · refine AW.cond_t rfl b31 ?_
                  refine AW.seq (AW.rA ⟨[(4, (vc (.flt .f64 (((Fl.mk (k := .f64) 4598175219545276416 (by decide)).sub (((Fl.mk (k := .f64) 4620693217682128896 (by decide)).mul (x18.mul x25)).div (Fl.mk (k := .f64) 4618760256179416344 (by decide)))).neg).bits)))], []⟩ (Tt ∧ T2 Tt) [] [4] [] ⟨tr, tr, tr, tr⟩ (thenQ_normal ?_))
                  refine AW.ret ?_
                  refine thenQ_ret ?_
                  replace h := some_eq h
                  subst h
                  exact ⟨.inr rfl, retOK_of [(.one (.c (.flt .f64 (((Fl.mk (k := .f64) 4598175219545276416 (by decide)).sub (((Fl.mk (k := .f64) 4620693217682128896 (by decide)).mul (x18.mul x25)).div (Fl.mk (k := .f64) 4618760256179416344 (by decide)))).neg).bits)))] (by kernel_rfl) ⟨⟨rfl, tr⟩, tr⟩ (of_decide_eq_true (by kernel_rfl))⟩
                · refine AW.cond_f rfl b31 ?_
                  refine AW.skip ?_
                  refine thenQ_normal ?_
                  refine AW.seq (AW.rA ⟨[(4, (vc (.flt .f64 ((Fl.mk (k := .f64) 4598175219545276416 (by decide)).sub (((Fl.mk (k := .f64) 4620693217682128896 (by decide)).mul (x18.mul x25)).div (Fl.mk (k := .f64) 4618760256179416344 (by decide)))).bits)))], []⟩ (T2 Tt) [] [4] [] ⟨tr, tr, tr⟩ (thenQ_normal ?_))
                  refine AW.ret ?_
                  replace h := some_eq h
                  subst h
                  exact ⟨.inr rfl, retOK_of [(.one (.c (.flt .f64 ((Fl.mk (k := .f64) 4598175219545276416 (by decide)).sub (((Fl.mk (k := .f64) 4620693217682128896 (by decide)).mul (x18.mul x25)).div (Fl.mk (k := .f64) 4618760256179416344 (by decide)))).bits)))] (by kernel_rfl) ⟨⟨rfl, tr⟩, tr⟩ (of_decide_eq_true (by kernel_rfl))⟩
            · refine AW.cond_f rfl b28 ?_
              refine AW.skip ?_
              refine thenQ_normal ?_
              refine AW.seq ?_
              refine AW.seq (AW.rA ⟨[(0, (vc (.flt .f64 a0.bits))), (13, (vc (.flt .f64 (((Fl.mk (k := .f64) 4620693217682128896 (by decide)).mul (x18.mul x25)).div (Fl.mk (k := .f64) 4618760256179416344 (by decide))).bits))), (80, (vc (.bool (a1.lt' (Fl.mk (k := .f64) 0 (by decide))))))], []⟩ (T2 Tt) [] [0, 13, 80] [] ⟨tr, tr, tr⟩ (thenQ_normal ?_))
              rcases ite2_cases h with ⟨b32, h⟩ | ⟨b32, h⟩
              · refine AW.cond_t rfl b32 ?_
                refine AW.rA ⟨[(0, (vc (.flt .f64 a0.bits))), (13, (vc (.flt .f64 ((Fl.mk (k := .f64) 4602678819172646912 (by decide)).sub (((Fl.mk (k := .f64) 4620693217682128896 (by decide)).mul (x18.mul x25)).div (Fl.mk (k := .f64) 4618760256179416344 (by decide)))).bits)))], []⟩ (Tt ∧ T2 Tt) [] [0, 13] [] ⟨tr, tr, tr, tr⟩ ?_
                refine thenQ_normal ?_
                refine AW.seq ?_
                refine AW.seq (AW.rA ⟨[(13, (vc (.flt .f64 ((Fl.mk (k := .f64) 4602678819172646912 (by decide)).sub (((Fl.mk (k := .f64) 4620693217682128896 (by decide)).mul (x18.mul x25)).div (Fl.mk (k := .f64) 4618760256179416344 (by decide)))).bits))), (84, (vc (.bool (a0.lt' (Fl.mk (k := .f64) 0 (by decide))))))], []⟩ (T2 Tt) [] [13, 84] [] ⟨tr, tr, tr⟩ (thenQ_normal ?_))
                rcases ite2_cases h with ⟨b33, h⟩ | ⟨b33, h⟩
                · refine AW.cond_t rfl b33 ?_
                  refine AW.seq (AW.rA ⟨[(4, (vc (.flt .f64 (((Fl.mk (k := .f64) 4602678819172646912 (by decide)).sub (((Fl.mk (k := .f64) 4620693217682128896 (by decide)).mul (x18.mul x25)).div (Fl.mk (k := .f64) 4618760256179416344 (by decide)))).neg).bits)))], []⟩ (Tt ∧ T2 Tt) [] [4] [] ⟨tr, tr, tr, tr⟩ (thenQ_normal ?_))
                  refine AW.ret ?_
                  refine thenQ_ret ?_
                  replace h := some_eq h
                  subst h
                  exact ⟨.inr rfl, retOK_of [(.one (.c (.flt .f64 (((Fl.mk (k := .f64) 4602678819172646912 (by decide)).sub (((Fl.mk (k := .f64) 4620693217682128896 (by decide)).mul (x18.mul x25)).div (Fl.mk (k := .f64) 4618760256179416344 (by decide)))).neg).bits)))] (by kernel_rfl) ⟨⟨rfl, tr⟩, tr⟩ (of_decide_eq_true (by kernel_rfl))⟩
                · refine AW.cond_f rfl b33 ?_
                  refine AW.skip ?_
                  refine thenQ_normal ?_
                  refine AW.seq (AW.rA ⟨[(4, (vc (.flt .f64 ((Fl.mk (k := .f64) 4602678819172646912 (by decide)).sub (((Fl.mk (k := .f64) 4620693217682128896 (by decide)).mul (x18.mul x25)).div (Fl.mk (k := .f64) 4618760256179416344 (by decide)))).bits)))], []⟩ (T2 Tt) [] [4] [] ⟨tr, tr, tr⟩ (thenQ_normal ?_))
                  refine AW.ret ?_
                  replace h := some_eq h
                  subst h
                  exact ⟨.inr rfl, retOK_of [(.one (.c (.flt .f64 ((Fl.mk (k := .f64) 4602678819172646912 (by decide)).sub (((Fl.mk (k := .f64) 4620693217682128896 (by decide)).mul (x18.mul x25)).div (Fl.mk (k := .f64) 4618760256179416344 (by decide)))).bits)))] (by kernel_rfl) ⟨⟨rfl, tr⟩, tr⟩ (of_decide_eq_true (by kernel_rfl))⟩
              · refine AW.cond_f rfl b32 ?_
                refine AW.skip ?_
                refine thenQ_normal ?_
                refine AW.seq ?_
                refine AW.seq (AW.rA ⟨[(13, (vc (.flt .f64 (((Fl.mk (k := .f64) 4620693217682128896 (by decide)).mul (x18.mul x25)).div (Fl.mk (k := .f64) 4618760256179416344 (by decide))).bits))), (84, (vc (.bool (a0.lt' (Fl.mk (k := .f64) 0 (by decide))))))], []⟩ (T2 Tt) [] [13, 84] [] ⟨tr, tr, tr⟩ (thenQ_normal ?_))
                rcases ite2_cases h with ⟨b34, h⟩ | ⟨b34, h⟩
                · refine AW.cond_t rfl b34 ?_
                  refine AW.seq (AW.rA ⟨[(4, (vc (.flt .f64 ((((Fl.mk (k := .f64) 4620693217682128896 (by decide)).mul (x18.mul x25)).div (Fl.mk (k := .f64) 4618760256179416344 (by decide))).neg).bits)))], []⟩ (Tt ∧ T2 Tt) [] [4] [] ⟨tr, tr, tr, tr⟩ (thenQ_normal ?_))
                  refine AW.ret ?_
                  refine thenQ_ret ?_
                  replace h := some_eq h
                  subst h
                  exact ⟨.inr rfl, retOK_of [(.one (.c (.flt .f64 ((((Fl.mk (k := .f64) 4620693217682128896 (by decide)).mul (x18.mul x25)).div (Fl.mk (k := .f64) 4618760256179416344 (by decide))).neg).bits)))] (by kernel_rfl) ⟨⟨rfl, tr⟩, tr⟩ (of_decide_eq_true (by kernel_rfl))⟩
                · refine AW.cond_f rfl b34 ?_
                  refine AW.skip ?_
                  refine thenQ_normal ?_
                  refine AW.seq (AW.rA ⟨[(4, (vc (.flt .f64 (((Fl.mk (k := .f64) 4620693217682128896 (by decide)).mul (x18.mul x25)).div (Fl.mk (k := .f64) 4618760256179416344 (by decide))).bits)))], []⟩ (T2 Tt) [] [4] [] ⟨tr, tr, tr⟩ (thenQ_normal ?_))
                  refine AW.ret ?_
                  replace h := some_eq h
                  subst h
                  exact ⟨.inr rfl, retOK_of [(.one (.c (.flt .f64 (((Fl.mk (k := .f64) 4620693217682128896 (by decide)).mul (x18.mul x25)).div (Fl.mk (k := .f64) 4618760256179416344 (by decide))).bits)))] (by kernel_rfl) ⟨⟨rfl, tr⟩, tr⟩ (of_decide_eq_true (by kernel_rfl))⟩
      · refine AW.cond_f rfl b15 ?_
        refine AW.rA ⟨[(0, (vc (.flt .f64 a0.bits))), (1, (vc (.flt .f64 a1.bits))), (7, (vc (.bool (v11.gt v13)))), (8, (vc (.flt .f64 (v11.div v13).bits)))], []⟩ (T4 Tt) [] [0, 1, 7, 8] [] ⟨tr, tr, tr, tr, tr⟩ ?_
        refine thenQ_normal ?_
        refine AW.seq ?_
        refine AW.seq (AW.rA ⟨[(0, (vc (.flt .f64 a0.bits))), (1, (vc (.flt .f64 a1.bits))), (7, (vc (.bool (v11.gt v13)))), (8, (vc (.flt .f64 (v11.div v13).bits))), (9, (vc (.int .i64 (0 : Int))))], []⟩ (Tt ∧ Tt) [] [0, 1, 7, 8, 9] [] ⟨tr, tr⟩ (thenQ_normal ?_))
        refine AW.block ?_
        refine AW.loopQ (σ := Nat × F64 × Int) (fun p => ⟨[(0, (vc (.flt .f64 a0.bits))), (1, (vc (.flt .f64 a1.bits))), (7, (vc (.bool (v11.gt v13)))), (8, (vc (.flt .f64 p.2.1.bits))), (9, (vc (.int .i64 p.2.2)))], []⟩) (fun p => spec_l01AngleWide_l3 K a0 a1 v11 v13 p.1 p.2.1 p.2.2 = some o) (fun p => p.1) (K, (v11.div v13), (0 : Int)) h ?_
        clear h
        rintro ⟨k, x37, x38⟩ h
        replace h : spec_l01AngleWide_l3 K a0 a1 v11 v13 k x37 x38 = some o := h
        show AW _ _ (⟨[(0, (vc (.flt .f64 a0.bits))), (1, (vc (.flt .f64 a1.bits))), (7, (vc (.bool (v11.gt v13)))), (8, (vc (.flt .f64 x37.bits))), (9, (vc (.int .i64 x38)))], []⟩ : St) _
        obtain _ | k := k
        · rw [spec_l01AngleWide_l3] at h; cases h
        rw [spec_l01AngleWide_l3] at h
        refine AW.seq ?_
        refine AW.seq (AW.rA ⟨[(0, (vc (.flt .f64 a0.bits))), (1, (vc (.flt .f64 a1.bits))), (7, (vc (.bool (v11.gt v13)))), (8, (vc (.flt .f64 x37.bits))), (9, (vc (.int .i64 x38))), (46, (vc (.bool (decide (x38 < (3 : Int))))))], []⟩ (T2 Tt) [] [0, 1, 7, 8, 9, 46] [] ⟨tr, tr, tr⟩ (thenQ_normal ?_))
        rcases ite2_cases h with ⟨b39, h⟩ | ⟨b39, h⟩
        · refine AW.cond_t rfl b39 ?_
          refine AW.skip ?_
          refine thenQ_normal ?_
          refine AW.seq ?_
          refine AW.block ?_
          obtain ⟨v40, e41, h⟩ := bind_some h
          refine AW.rA ⟨[(0, (vc (.flt .f64 a0.bits))), (1, (vc (.flt .f64 a1.bits))), (7, (vc (.bool (v11.gt v13)))), (8, (vc (.flt .f64 (x37.div ((Fl.mk (k := .f64) 4607182418800017408 (by decide)).add v40)).bits))), (9, (vc (.int .i64 x38)))], []⟩ (Tt ∧ T4 ((((Eqc (.flt .f64 ((Fl.mk (k := .f64) 4607182418800017408 (by decide)).add (x37.mul x37)).bits)) ∧ Tt) ∧ CallOK Tryz.prog 87 [.one (.flt .f64 ((Fl.mk (k := .f64) 4607182418800017408 (by decide)).add (x37.mul x37)).bits)] [.one (.flt .f64 v40.bits)]) ∧ Tt ∧ T2 Tt)) [.no, .no, .no, .no, .no, .call [.one (.flt .f64 ((Fl.mk (k := .f64) 4607182418800017408 (by decide)).add (x37.mul x37)).bits)] [.one (.flt .f64 v40.bits)] [[.view]]] [0, 1, 7, 8, 9] [] ⟨tr, tr, tr, tr, tr, ⟨⟨rfl, tr⟩, ok_math_Sqrt K ((Fl.mk (k := .f64) 4607182418800017408 (by decide)).add (x37.mul x37)) v40 e41⟩, tr, tr, tr, tr⟩ ?_
          refine blockQ_normal ?_
          refine thenQ_normal ?_
          refine AW.rA ⟨[(0, (vc (.flt .f64 a0.bits))), (1, (vc (.flt .f64 a1.bits))), (7, (vc (.bool (v11.gt v13)))), (8, (vc (.flt .f64 (x37.div ((Fl.mk (k := .f64) 4607182418800017408 (by decide)).add v40)).bits))), (9, (vc (.int .i64 (IntKind.i64.wrap (x38 + (1 : Int))))))], []⟩ (Tt ∧ T2 Tt) [] [0, 1, 7, 8, 9] [] ⟨tr, tr, tr, tr⟩ ?_
          exact loopQ_normal (k, (x37.div ((Fl.mk (k := .f64) 4607182418800017408 (by decide)).add v40)), (IntKind.i64.wrap (x38 + (1 : Int)))) h (Nat.lt_succ_self k) (Sub.keep [0, 1, 7, 8, 9] [] (by kernel_rfl) (by kernel_rfl))
        · refine AW.cond_f rfl b39 ?_
          refine AW.exit ?_
          refine thenQ_exit ?_
          refine loopQ_exit ?_
          refine blockQ_exit ?_
          refine thenQ_normal ?_
          refine AW.seq (AW.rA ⟨[(0, (vc (.flt .f64 a0.bits))), (1, (vc (.flt .f64 a1.bits))), (7, (vc (.bool (v11.gt v13)))), (8, (vc (.flt .f64 x37.bits))), (10, (vc (.flt .f64 (x37.mul x37).bits)))], []⟩ (T4 Tt) [] [0, 1, 7, 8, 10] [] ⟨tr, tr, tr, tr, tr⟩ (thenQ_normal ?_))
          refine AW.seq (AW.rA ⟨[(0, (vc (.flt .f64 a0.bits))), (1, (vc (.flt .f64 a1.bits))), (7, (vc (.bool (v11.gt v13)))), (8, (vc (.flt .f64 x37.bits))), (10, (vc (.flt .f64 (x37.mul x37).bits))), (11, (vc (.flt .f64 (Fl.mk (k := .f64) 0 (by decide)).bits)))], []⟩ (Tt ∧ Tt) [] [0, 1, 7, 8, 10, 11] [] ⟨tr, tr⟩ (thenQ_normal ?_))
          refine AW.seq ?_
          refine AW.seq (AW.rA ⟨[(0, (vc (.flt .f64 a0.bits))), (1, (vc (.flt .f64 a1.bits))), (7, (vc (.bool (v11.gt v13)))), (8, (vc (.flt .f64 x37.bits))), (10, (vc (.flt .f64 (x37.mul x37).bits))), (11, (vc (.flt .f64 (Fl.mk (k := .f64) 0 (by decide)).bits))), (12, (vc (.int .i64 (15 : Int))))], []⟩ (Tt ∧ Tt) [] [0, 1, 7, 8, 10, 11, 12] [] ⟨tr, tr⟩ (thenQ_normal ?_))
          refine AW.block ?_
          refine AW.loopQ (σ := Nat × F64 × Int) (fun p => ⟨[(0, (vc (.flt .f64 a0.bits))), (1, (vc (.flt .f64 a1.bits))), (7, (vc (.bool (v11.gt v13)))), (8, (vc (.flt .f64 x37.bits))), (10, (vc (.flt .f64 (x37.mul x37).bits))), (11, (vc (.flt .f64 p.2.1.bits))), (12, (vc (.int .i64 p.2.2)))], []⟩) (fun p => spec_l01AngleWide_l4 K a0 a1 v11 v13 x37 p.1 p.2.1 p.2.2 = some o) (fun p => p.1) (K, (Fl.mk (k := .f64) 0 (by decide)), (15 : Int)) h ?_
          clear h
          rintro ⟨k, x44, x45⟩ h
          replace h : spec_l01AngleWide_l4 K a0 a1 v11 v13 x37 k x44 x45 = some o := h
          show AW _ _ (⟨[(0, (vc (.flt .f64 a0.bits))), (1, (vc (.flt .f64 a1.bits))), (7, (vc (.bool (v11.gt v13)))), (8, (vc (.flt .f64 x37.bits))), (10, (vc (.flt .f64 (x37.mul x37).bits))), (11, (vc (.flt .f64 x44.bits))), (12, (vc (.int .i64 x45)))], []⟩ : St) _
          obtain _ | k := k
          · rw [spec_l01AngleWide_l4] at h; cases h
          rw [spec_l01AngleWide_l4] at h
          refine AW.seq ?_
          refine AW.seq (AW.rA ⟨[(0, (vc (.flt .f64 a0.bits))), (1, (vc (.flt .f64 a1.bits))), (7, (vc (.bool (v11.gt v13)))), (8, (vc (.flt .f64 x37.bits))), (10, (vc (.flt .f64 (x37.mul x37).bits))), (11, (vc (.flt .f64 x44.bits))), (12, (vc (.int .i64 x45))), (61, (vc (.bool (decide (x45 ≥ (1 : Int))))))], []⟩ (T2 Tt) [] [0, 1, 7, 8, 10, 11, 12, 61] [] ⟨tr, tr, tr⟩ (thenQ_normal ?_))
          rcases ite2_cases h with ⟨b46, h⟩ | ⟨b46, h⟩
          · refine AW.cond_t rfl b46 ?_
            refine AW.skip ?_
            refine thenQ_normal ?_
            refine AW.seq ?_
            refine AW.block ?_
            refine AW.rA ⟨[(0, (vc (.flt .f64 a0.bits))), (1, (vc (.flt .f64 a1.bits))), (7, (vc (.bool (v11.gt v13)))), (8, (vc (.flt .f64 x37.bits))), (10, (vc (.flt .f64 (x37.mul x37).bits))), (11, (vc (.flt .f64 (((Fl.mk (k := .f64) 4607182418800017408 (by decide)).div (Fl.ofInt .f64 x45)).sub ((x37.mul x37).mul x44)).bits))), (12, (vc (.int .i64 x45)))], []⟩ (T4 (T4 Tt)) [] [0, 1, 7, 8, 10, 11, 12] [] ⟨tr, tr, tr, tr, tr, tr, tr, tr, tr⟩ ?_
            refine blockQ_normal ?_
            refine thenQ_normal ?_
            refine AW.rA ⟨[(0, (vc (.flt .f64 a0.bits))), (1, (vc (.flt .f64 a1.bits))), (7, (vc (.bool (v11.gt v13)))), (8, (vc (.flt .f64 x37.bits))), (10, (vc (.flt .f64 (x37.mul x37).bits))), (11, (vc (.flt .f64 (((Fl.mk (k := .f64) 4607182418800017408 (by decide)).div (Fl.ofInt .f64 x45)).sub ((x37.mul x37).mul x44)).bits))), (12, (vc (.int .i64 (IntKind.i64.wrap (x45 - (2 : Int))))))], []⟩ (Tt ∧ T2 Tt) [] [0, 1, 7, 8, 10, 11, 12] [] ⟨tr, tr, tr, tr⟩ ?_
            exact loopQ_normal (k, (((Fl.mk (k := .f64) 4607182418800017408 (by decide)).div (Fl.ofInt .f64 x45)).sub ((x37.mul x37).mul x44)), (IntKind.i64.wrap (x45 - (2 : Int)))) h (Nat.lt_succ_self k) (Sub.keep [0, 1, 7, 8, 10, 11, 12] [] (by kernel_rfl) (by kernel_rfl))
          · refine AW.cond_f rfl b46 ?_
            refine AW.exit ?_
            refine thenQ_exit ?_
            refine loopQ_exit ?_
            refine blockQ_exit ?_
            refine thenQ_normal ?_
            refine AW.seq (AW.rA ⟨[(0, (vc (.flt .f64 a0.bits))), (1, (vc (.flt .f64 a1.bits))), (7, (vc (.bool (v11.gt v13)))), (13, (vc (.flt .f64 (((Fl.mk (k := .f64) 4620693217682128896 (by decide)).mul (x37.mul x44)).div (Fl.mk (k := .f64) 4618760256179416344 (by decide))).bits)))], []⟩ (T2 (T4 Tt)) [] [0, 1, 7, 13] [] ⟨tr, tr, tr, tr, tr, tr, tr⟩ (thenQ_normal ?_))
            refine AW.seq ?_
            refine AW.seq (AW.rA ⟨[(0, (vc (.flt .f64 a0.bits))), (1, (vc (.flt .f64 a1.bits))), (13, (vc (.flt .f64 (((Fl.mk (k := .f64) 4620693217682128896 (by decide)).mul (x37.mul x44)).div (Fl.mk (k := .f64) 4618760256179416344 (by decide))).bits))), (76, (vc (.bool (v11.gt v13))))], []⟩ (Tt ∧ Tt) [] [0, 1, 13, 76] [] ⟨tr, tr⟩ (thenQ_normal ?_))
            rcases ite2_cases h with ⟨b47, h⟩ | ⟨b47, h⟩
            · refine AW.cond_t rfl b47 ?_
              refine AW.rA ⟨[(0, (vc (.flt .f64 a0.bits))), (1, (vc (.flt .f64 a1.bits))), (13, (vc (.flt .f64 ((Fl.mk (k := .f64) 4598175219545276416 (by decide)).sub (((Fl.mk (k := .f64) 4620693217682128896 (by decide)).mul (x37.mul x44)).div (Fl.mk (k := .f64) 4618760256179416344 (by decide)))).bits)))], []⟩ (Tt ∧ T2 Tt) [] [0, 1, 13] [] ⟨tr, tr, tr, tr⟩ ?_
              refine thenQ_normal ?_
              refine AW.seq ?_
              refine AW.seq (AW.rA ⟨[(0, (vc (.flt .f64 a0.bits))), (13, (vc (.flt .f64 ((Fl.mk (k := .f64) 4598175219545276416 (by decide)).sub (((Fl.mk (k := .f64) 4620693217682128896 (by decide)).mul (x37.mul x44)).div (Fl.mk (k := .f64) 4618760256179416344 (by decide)))).bits))), (80, (vc (.bool (a1.lt' (Fl.mk (k := .f64) 0 (by decide))))))], []⟩ (T2 Tt) [] [0, 13, 80] [] ⟨tr, tr, tr⟩ (thenQ_normal ?_))
              rcases ite2_cases h with ⟨b48, h⟩ | ⟨b48, h⟩
              · refine AW.cond_t rfl b48 ?_
                refine AW.rA ⟨[(0, (vc (.flt .f64 a0.bits))), (13, (vc (.flt .f64 ((Fl.mk (k := .f64) 4602678819172646912 (by decide)).sub ((Fl.mk (k := .f64) 4598175219545276416 (by decide)).sub (((Fl.mk (k := .f64) 4620693217682128896 (by decide)).mul (x37.mul x44)).div (Fl.mk (k := .f64) 4618760256179416344 (by decide))))).bits)))], []⟩ (Tt ∧ T2 Tt) [] [0, 13] [] ⟨tr, tr, tr, tr⟩ ?_
                refine thenQ_normal ?_
                refine AW.seq ?_
                refine AW.seq (AW.rA ⟨[(13, (vc (.flt .f64 ((Fl.mk (k := .f64) 4602678819172646912 (by decide)).sub ((Fl.mk (k := .f64) 4598175219545276416 (by decide)).sub (((Fl.mk (k := .f64) 4620693217682128896 (by decide)).mul (x37.mul x44)).div (Fl.mk (k := .f64) 4618760256179416344 (by decide))))).bits))), (84, (vc (.bool (a0.lt' (Fl.mk (k := .f64) 0 (by decide))))))], []⟩ (T2 Tt) [] [13, 84] [] ⟨tr, tr, tr⟩ (thenQ_normal ?_))
                rcases ite2_cases h with ⟨b49, h⟩ | ⟨b49, h⟩
                · refine AW.cond_t rfl b49 ?_
                  refine AW.seq (AW.rA ⟨[(4, (vc (.flt .f64 (((Fl.mk (k := .f64) 4602678819172646912 (by decide)).sub ((Fl.mk (k := .f64) 4598175219545276416 (by decide)).sub (((Fl.mk (k := .f64) 4620693217682128896 (by decide)).mul (x37.mul x44)).div (Fl.mk (k := .f64) 4618760256179416344 (by decide))))).neg).bits)))], []⟩ (Tt ∧ T2 Tt) [] [4] [] ⟨tr, tr, tr, tr⟩ (thenQ_normal ?_))
                  refine AW.ret ?_
                  refine thenQ_ret ?_
                  replace h := some_eq h
                  subst h
                  exact ⟨.inr rfl, retOK_of [(.one (.c (.flt .f64 (((Fl.mk (k := .f64) 4602678819172646912 (by decide)).sub ((Fl.mk (k := .f64) 4598175219545276416 (by decide)).sub (((Fl.mk (k := .f64) 4620693217682128896 (by decide)).mul (x37.mul x44)).div (Fl.mk (k := .f64) 4618760256179416344 (by decide))))).neg).bits)))] (by kernel_rfl) ⟨⟨rfl, tr⟩, tr⟩ (of_decide_eq_true (by kernel_rfl))⟩
                · refine AW.cond_f rfl b49 ?_
                  refine AW.skip ?_
                  refine thenQ_normal ?_
                  refine AW.seq (AW.rA ⟨[(4, (vc (.flt .f64 ((Fl.mk (k := .f64) 4602678819172646912 (by decide)).sub ((Fl.mk (k := .f64) 4598175219545276416 (by decide)).sub (((Fl.mk (k := .f64) 4620693217682128896 (by decide)).mul (x37.mul x44)).div (Fl.mk (k := .f64) 4618760256179416344 (by decide))))).bits)))], []⟩ (T2 Tt) [] [4] [] ⟨tr, tr, tr⟩ (thenQ_normal ?_))
                  refine AW.ret ?_
                  replace h := some_eq h
                  subst h
                  exact ⟨.inr rfl, retOK_of [(.one (.c (.flt .f64 ((Fl.mk (k := .f64) 4602678819172646912 (by decide)).sub ((Fl.mk (k := .f64) 4598175219545276416 (by decide)).sub (((Fl.mk (k := .f64) 4620693217682128896 (by decide)).mul (x37.mul x44)).div (Fl.mk (k := .f64) 4618760256179416344 (by decide))))).bits)))] (by kernel_rfl) ⟨⟨rfl, tr⟩, tr⟩ (of_decide_eq_true (by kernel_rfl))⟩
              · refine AW.cond_f rfl b48 ?_
                refine AW.skip ?_
                refine thenQ_normal ?_
                refine AW.seq ?_
                refine AW.seq (AW.rA ⟨[(13, (vc (.flt .f64 ((Fl.mk (k := .f64) 4598175219545276416 (by decide)).sub (((Fl.mk (k := .f64) 4620693217682128896 (by decide)).mul (x37.mul x44)).div (Fl.mk (k := .f64) 4618760256179416344 (by decide)))).bits))), (84, (vc (.bool (a0.lt' (Fl.mk (k := .f64) 0 (by decide))))))], []⟩ (T2 Tt) [] [13, 84] [] ⟨tr, tr, tr⟩ (thenQ_normal ?_))
                rcases ite2_cases h with ⟨b50, h⟩ | ⟨b50, h⟩
                · refine AW.cond_t rfl b50 ?_
                  refine AW.seq (AW.rA ⟨[(4, (vc (.flt .f64 (((Fl.mk (k := .f64) 4598175219545276416 (by decide)).sub (((Fl.mk (k := .f64) 4620693217682128896 (by decide)).mul (x37.mul x44)).div (Fl.mk (k := .f64) 4618760256179416344 (by decide)))).neg).bits)))], []⟩ (Tt ∧ T2 Tt) [] [4] [] ⟨tr, tr, tr, tr⟩ (thenQ_normal ?_))
                  refine AW.ret ?_
                  refine thenQ_ret ?_
                  replace h := some_eq h
                  subst h
                  exact ⟨.inr rfl, retOK_of [(.one (.c (.flt .f64 (((Fl.mk (k := .f64) 4598175219545276416 (by decide)).sub (((Fl.mk (k := .f64) 4620693217682128896 (by decide)).mul (x37.mul x44)).div (Fl.mk (k := .f64) 4618760256179416344 (by decide)))).neg).bits)))] (by kernel_rfl) ⟨⟨rfl, tr⟩, tr⟩ (of_decide_eq_true (by kernel_rfl))⟩
                · refine AW.cond_f rfl b50 ?_
                  refine AW.skip ?_
                  refine thenQ_normal ?_
                  refine AW.seq (AW.rA ⟨[(4, (vc (.flt .f64 ((Fl.mk (k := .f64) 4598175219545276416 (by decide)).sub (((Fl.mk (k := .f64) 4620693217682128896 (by decide)).mul (x37.mul x44)).div (Fl.mk (k := .f64) 4618760256179416344 (by decide)))).bits)))], []⟩ (T2 Tt) [] [4] [] ⟨tr, tr, tr⟩ (thenQ_normal ?_))
                  refine AW.ret ?_
                  replace h := some_eq h
                  subst h
                  exact ⟨.inr rfl, retOK_of [(.one (.c (.flt .f64 ((Fl.mk (k := .f64) 4598175219545276416 (by decide)).sub (((Fl.mk (k := .f64) 4620693217682128896 (by decide)).mul (x37.mul x44)).div (Fl.mk (k := .f64) 4618760256179416344 (by decide)))).bits)))] (by kernel_rfl) ⟨⟨rfl, tr⟩, tr⟩ (of_decide_eq_true (by kernel_rfl))⟩
            · refine AW.cond_f rfl b47 ?_
              refine AW.skip ?_
              refine thenQ_normal ?_
              refine AW.seq ?_
              refine AW.seq (AW.rA ⟨[(0, (vc (.flt .f64 a0.bits))), (13, (vc (.flt .f64 (((Fl.mk (k := .f64) 4620693217682128896 (by decide)).mul (x37.mul x44)).div (Fl.mk (k := .f64) 4618760256179416344 (by decide))).bits))), (80, (vc (.bool (a1.lt' (Fl.mk (k := .f64) 0 (by decide))))))], []⟩ (T2 Tt) [] [0, 13, 80] [] ⟨tr, tr, tr⟩ (thenQ_normal ?_))
              rcases ite2_cases h with ⟨b51, h⟩ | ⟨b51, h⟩
              · refine AW.cond_t rfl b51 ?_
                refine AW.rA ⟨[(0, (vc (.flt .f64 a0.bits))), (13, (vc (.flt .f64 ((Fl.mk (k := .f64) 4602678819172646912 (by decide)).sub (((Fl.mk (k := .f64) 4620693217682128896 (by decide)).mul (x37.mul x44)).div (Fl.mk (k := .f64) 4618760256179416344 (by decide)))).bits)))], []⟩ (Tt ∧ T2 Tt) [] [0, 13] [] ⟨tr, tr, tr, tr⟩ ?_
                refine thenQ_normal ?_
                refine AW.seq ?_
                refine AW.seq (AW.rA ⟨[(13, (vc (.flt .f64 ((Fl.mk (k := .f64) 4602678819172646912 (by decide)).sub (((Fl.mk (k := .f64) 4620693217682128896 (by decide)).mul (x37.mul x44)).div (Fl.mk (k := .f64) 4618760256179416344 (by decide)))).bits))), (84, (vc (.bool (a0.lt' (Fl.mk (k := .f64) 0 (by decide))))))], []⟩ (T2 Tt) [] [13, 84] [] ⟨tr, tr, tr⟩ (thenQ_normal ?_))
                rcases ite2_cases h with ⟨b52, h⟩ | ⟨b52, h⟩
                · refine AW.cond_t rfl b52 ?_
                  refine AW.seq (AW.rA ⟨[(4, (vc (.flt .f64 (((Fl.mk (k := .f64) 4602678819172646912 (by decide)).sub (((Fl.mk (k := .f64) 4620693217682128896 (by decide)).mul (x37.mul x44)).div (Fl.mk (k := .f64) 4618760256179416344 (by decide)))).neg).bits)))], []⟩ (Tt ∧ T2 Tt) [] [4] [] ⟨tr, tr, tr, tr⟩ (thenQ_normal ?_))
                  refine AW.ret ?_
                  refine thenQ_ret ?_
                  replace h := some_eq h
                  subst h
                  exact ⟨.inr rfl, retOK_of [(.one (.c (.flt .f64 (((Fl.mk (k := .f64) 4602678819172646912 (by decide)).sub (((Fl.mk (k := .f64) 4620693217682128896 (by decide)).mul (x37.mul x44)).div (Fl.mk (k := .f64) 4618760256179416344 (by decide)))).neg).bits)))] (by kernel_rfl) ⟨⟨rfl, tr⟩, tr⟩ (of_decide_eq_true (by kernel_rfl))⟩
                · refine AW.cond_f rfl b52 ?_
                  refine AW.skip ?_
                  refine thenQ_normal ?_
                  refine AW.seq (AW.rA ⟨[(4, (vc (.flt .f64 ((Fl.mk (k := .f64) 4602678819172646912 (by decide)).sub (((Fl.mk (k := .f64) 4620693217682128896 (by decide)).mul (x37.mul x44)).div (Fl.mk (k := .f64) 4618760256179416344 (by decide)))).bits)))], []⟩ (T2 Tt) [] [4] [] ⟨tr, tr, tr⟩ (thenQ_normal ?_))
                  refine AW.ret ?_
                  replace h := some_eq h
                  subst h
                  exact ⟨.inr rfl, retOK_of [(.one (.c (.flt .f64 ((Fl.mk (k := .f64) 4602678819172646912 (by decide)).sub (((Fl.mk (k := .f64) 4620693217682128896 (by decide)).mul (x37.mul x44)).div (Fl.mk (k := .f64) 4618760256179416344 (by decide)))).bits)))] (by kernel_rfl) ⟨⟨rfl, tr⟩, tr⟩ (of_decide_eq_true (by kernel_rfl))⟩
              · refine AW.cond_f rfl b51 ?_
                refine AW.skip ?_
                refine thenQ_normal ?_
                refine AW.seq ?_
                refine AW.seq (AW.rA ⟨[(13, (vc (.flt .f64 (((Fl.mk (k := .f64) 4620693217682128896 (by decide)).mul (x37.mul x44)).div (Fl.mk (k := .f64) 4618760256179416344 (by decide))).bits))), (84, (vc (.bool (a0.lt' (Fl.mk (k := .f64) 0 (by decide))))))], []⟩ (T2 Tt) [] [13, 84] [] ⟨tr, tr, tr⟩ (thenQ_normal ?_))
                rcases ite2_cases h with ⟨b53, h⟩ | ⟨b53, h⟩
                · refine AW.cond_t rfl b53 ?_
                  refine AW.seq (AW.rA ⟨[(4, (vc (.flt .f64 ((((Fl.mk (k := .f64) 4620693217682128896 (by decide)).mul (x37.mul x44)).div (Fl.mk (k := .f64) 4618760256179416344 (by decide))).neg).bits)))], []⟩ (Tt ∧ T2 Tt) [] [4] [] ⟨tr, tr, tr, tr⟩ (thenQ_normal ?_))
                  refine AW.ret ?_
                  refine thenQ_ret ?_
                  replace h := some_eq h
                  subst h
                  exact ⟨.inr rfl, retOK_of [(.one (.c (.flt .f64 ((((Fl.mk (k := .f64) 4620693217682128896 (by decide)).mul (x37.mul x44)).div (Fl.mk (k := .f64) 4618760256179416344 (by decide))).neg).bits)))] (by kernel_rfl) ⟨⟨rfl, tr⟩, tr⟩ (of_decide_eq_true (by kernel_rfl))⟩
                · refine AW.cond_f rfl b53 ?_
                  refine AW.skip ?_
                  refine thenQ_normal ?_
                  refine AW.seq (AW.rA ⟨[(4, (vc (.flt .f64 (((Fl.mk (k := .f64) 4620693217682128896 (by decide)).mul (x37.mul x44)).div (Fl.mk (k := .f64) 4618760256179416344 (by decide))).bits)))], []⟩ (T2 Tt) [] [4] [] ⟨tr, tr, tr⟩ (thenQ_normal ?_))
                  refine AW.ret ?_
                  replace h := some_eq h
                  subst h
                  exact ⟨.inr rfl, retOK_of [(.one (.c (.flt .f64 (((Fl.mk (k := .f64) 4620693217682128896 (by decide)).mul (x37.mul x44)).div (Fl.mk (k := .f64) 4618760256179416344 (by decide))).bits)))] (by kernel_rfl) ⟨⟨rfl, tr⟩, tr⟩ (of_decide_eq_true (by kernel_rfl))⟩

/-! spec.l01Angle -/
def spec_l01Angle (K : Nat) (a0 : F32) (a1 : F32) : Option (F32) :=
  (spec_l01AngleWide K (Fl.cv .f32 .f64 a0) (Fl.cv .f32 .f64 a1)).bind fun v1 => (spec_l01Narrow K v1).bind fun v3 => some v3

theorem ok_spec_l01Angle (K : Nat) (a0 : F32) (a1 : F32) (o : (F32)) (h : spec_l01Angle K a0 a1 = some o) : CallOK Tryz.prog 57 [.one (.flt .f32 a0.bits), .one (.flt .f32 a1.bits)] [.one (.flt .f32 o.bits)] := by
  refine callOK_of_AW Tryz.func57 rfl (by kernel_rfl) (Nat.le_of_ble_eq_true (by kernel_rfl)) ?_
  intro w0
  unfold spec_l01Angle at h
  refine AW.seq (AW.rA ⟨[(0, (vc (.flt .f32 a0.bits))), (1, (vc (.flt .f32 a1.bits)))], []⟩ (Tt ∧ Tt) [] [0, 1] [] ⟨tr, tr⟩ (thenQ_normal ?_))
  refine AW.seq ?_
  obtain ⟨v1, e2, h⟩ := bind_some h
  obtain ⟨v3, e4, h⟩ := bind_some h
  refine AW.rA ⟨[(4, (vc (.flt .f32 v3.bits)))], []⟩ (Tt ∧ ((convBits .f32 a0.bits .f64).isSome = true) ∧ Tt ∧ ((convBits .f32 a1.bits .f64).isSome = true) ∧ (((Eqc (.flt .f64 (Fl.cv .f32 .f64 a0).bits)) ∧ (Eqc (.flt .f64 (Fl.cv .f32 .f64 a1).bits)) ∧ Tt) ∧ CallOK Tryz.prog 83 [.one (.flt .f64 (Fl.cv .f32 .f64 a0).bits), .one (.flt .f64 (Fl.cv .f32 .f64 a1).bits)] [.one (.flt .f64 v1.bits)]) ∧ (((Eqc (.flt .f64 v1.bits)) ∧ Tt) ∧ CallOK Tryz.prog 82 [.one (.flt .f64 v1.bits)] [.one (.flt .f32 v3.bits)]) ∧ Tt ∧ Tt) [.no, .no, .no, .no, .call [.one (.flt .f64 (Fl.cv .f32 .f64 a0).bits), .one (.flt .f64 (Fl.cv .f32 .f64 a1).bits)] [.one (.flt .f64 v1.bits)] [[.view]], .call [.one (.flt .f64 v1.bits)] [.one (.flt .f32 v3.bits)] [[.view]]] [4] [] ⟨tr, cv_wide a0, tr, cv_wide a1, ⟨⟨rfl, rfl, tr⟩, ok_spec_l01AngleWide K (Fl.cv .f32 .f64 a0) (Fl.cv .f32 .f64 a1) v1 e2⟩, ⟨⟨rfl, tr⟩, ok_spec_l01Narrow K v1 v3 e4⟩, tr, tr⟩ ?_
  refine thenQ_normal ?_
  refine AW.ret ?_
  replace h := some_eq h
  subst h
  exact ⟨.inr rfl, retOK_of [(.one (.c (.flt .f32 v3.bits)))] (by kernel_rfl) ⟨⟨rfl, tr⟩, tr⟩ (of_decide_eq_true (by kernel_rfl))⟩

/-! spec.l02Angle -/
def spec_l02Angle (K : Nat) (a0 : Turn) : Option (F32) :=
  (spec_l02Axis K a0).bind fun v1 => (spec_l01Long K v1).bind fun v3 => (spec_l02Size K a0.W).bind fun v5 => (spec_l01Angle K v3 v5).bind fun v7 => some ((Fl.mk (k := .f32) 1073741824 (by decide)).mul v7)

theorem ok_spec_l02Angle (K : Nat) (a0 : Turn) (o : (F32)) (h : spec_l02Angle K a0 = some o) : CallOK Tryz.prog 36 [.agg (cs_Turn a0)] [.one (.flt .f32 o.bits)] := by
  refine callOK_of_AW Tryz.func36 rfl (by kernel_rfl) (Nat.le_of_ble_eq_true (by kernel_rfl)) ?_
  intro w0
  unfold spec_l02Angle at h
  refine AW.seq (AW.rA ⟨[(1, (vp 1 0))], [(1, (.box [(.c (.flt .f32 a0.W.bits)), (.c (.flt .f32 a0.X.bits)), (.c (.flt .f32 a0.Y.bits)), (.c (.flt .f32 a0.Z.bits))]))]⟩ (T2 Tt) [.box 1] [1] [1] ⟨tr, tr, tr⟩ (thenQ_normal ?_))
  refine AW.seq ?_
  obtain ⟨v1, e2, h⟩ := bind_some h
  obtain ⟨v3, e4, h⟩ := bind_some h
  obtain ⟨v5, e6, h⟩ := bind_some h
  obtain ⟨v7, e8, h⟩ := bind_some h
  refine AW.dA ⟨[(2, (vc (.flt .f32 ((Fl.mk (k := .f32) 1073741824 (by decide)).mul v7).bits)))], []⟩ ((Tt ∧ ((((Eqc (.flt .f32 a0.W.bits)) ∧ (Eqc (.flt .f32 a0.X.bits)) ∧ (Eqc (.flt .f32 a0.Y.bits)) ∧ (Eqc (.flt .f32 a0.Z.bits)) ∧ Tt) ∧ Tt) ∧ CallOK Tryz.prog 59 [.agg (cs_Turn a0)] [.agg (cs_Vector v1)]) ∧ ((((Eqc (.flt .f32 v1.X.bits)) ∧ (Eqc (.flt .f32 v1.Y.bits)) ∧ (Eqc (.flt .f32 v1.Z.bits)) ∧ Tt) ∧ Tt) ∧ CallOK Tryz.prog 58 [.agg (cs_Vector v1)] [.one (.flt .f32 v3.bits)]) ∧ T2 ((((Eqc (.flt .f32 a0.W.bits)) ∧ Tt) ∧ CallOK Tryz.prog 60 [.one (.flt .f32 a0.W.bits)] [.one (.flt .f32 v5.bits)]) ∧ (((Eqc (.flt .f32 v3.bits)) ∧ (Eqc (.flt .f32 v5.bits)) ∧ Tt) ∧ CallOK Tryz.prog 57 [.one (.flt .f32 v3.bits), .one (.flt .f32 v5.bits)] [.one (.flt .f32 v7.bits)]) ∧ T2 Tt)) ∧ (Tt)) 9 [.no, .call [.agg (cs_Turn a0)] [.agg (cs_Vector v1)] [[.view, .view, .view]], .call [.agg (cs_Vector v1)] [.one (.flt .f32 v3.bits)] [[.view]], .no, .no, .call [.one (.flt .f32 a0.W.bits)] [.one (.flt .f32 v5.bits)] [[.view]], .call [.one (.flt .f32 v3.bits), .one (.flt .f32 v5.bits)] [.one (.flt .f32 v7.bits)] [[.view]]] [2] [] ⟨⟨tr, ⟨⟨⟨rfl, rfl, rfl, rfl, tr⟩, tr⟩, ok_spec_l02Axis K a0 v1 e2⟩, ⟨⟨⟨rfl, rfl, rfl, tr⟩, tr⟩, ok_spec_l01Long K v1 v3 e4⟩, tr, tr, ⟨⟨rfl, tr⟩, ok_spec_l02Size K a0.W v5 e6⟩, ⟨⟨rfl, rfl, tr⟩, ok_spec_l01Angle K v3 v5 v7 e8⟩, tr, tr, tr⟩, tr⟩ ?_
  refine thenQ_normal ?_
  refine AW.ret ?_
  replace h := some_eq h
  subst h
  exact ⟨.inr rfl, retOK_of [(.one (.c (.flt .f32 ((Fl.mk (k := .f32) 1073741824 (by decide)).mul v7).bits)))] (by kernel_rfl) ⟨⟨rfl, tr⟩, tr⟩ (of_decide_eq_true (by kernel_rfl))⟩

/-! spec.l02Apart -/
def spec_l02Apart (K : Nat) (a0 : Turn) (a1 : Turn) : Option (F32) :=
  (spec_l02Inverse K a0).bind fun v1 => (spec_l02Mul K v1 a1).bind fun v3 => (spec_l02Angle K v3).bind fun v5 => some v5

theorem ok_spec_l02Apart (K : Nat) (a0 : Turn) (a1 : Turn) (o : (F32)) (h : spec_l02Apart K a0 a1 = some o) : CallOK Tryz.prog 15 [.agg (cs_Turn a0), .agg (cs_Turn a1)] [.one (.flt .f32 o.bits)] := by
  refine callOK_of_AW Tryz.func15 rfl (by kernel_rfl) (Nat.le_of_ble_eq_true (by kernel_rfl)) ?_
  intro w0
  unfold spec_l02Apart at h
  refine AW.seq (AW.rA ⟨[(2, (vp 1 0)), (3, (vp 2 0))], [(1, (.box [(.c (.flt .f32 a0.W.bits)), (.c (.flt .f32 a0.X.bits)), (.c (.flt .f32 a0.Y.bits)), (.c (.flt .f32 a0.Z.bits))])), (2, (.box [(.c (.flt .f32 a1.W.bits)), (.c (.flt .f32 a1.X.bits)), (.c (.flt .f32 a1.Y.bits)), (.c (.flt .f32 a1.Z.bits))]))]⟩ (Tt ∧ T2 Tt) [.box 1, .box 2] [2, 3] [1, 2] ⟨tr, tr, tr, tr⟩ (thenQ_normal ?_))
  refine AW.seq ?_
  obtain ⟨v1, e2, h⟩ := bind_some h
  obtain ⟨v3, e4, h⟩ := bind_some h
  obtain ⟨v5, e6, h⟩ := bind_some h
  refine AW.dA ⟨[(4, (vc (.flt .f32 v5.bits)))], []⟩ ((Tt ∧ ((((Eqc (.flt .f32 a0.W.bits)) ∧ (Eqc (.flt .f32 a0.X.bits)) ∧ (Eqc (.flt .f32 a0.Y.bits)) ∧ (Eqc (.flt .f32 a0.Z.bits)) ∧ Tt) ∧ Tt) ∧ CallOK Tryz.prog 38 [.agg (cs_Turn a0)] [.agg (cs_Turn v1)]) ∧ Tt ∧ ((((Eqc (.flt .f32 v1.W.bits)) ∧ (Eqc (.flt .f32 v1.X.bits)) ∧ (Eqc (.flt .f32 v1.Y.bits)) ∧ (Eqc (.flt .f32 v1.Z.bits)) ∧ Tt) ∧ ((Eqc (.flt .f32 a1.W.bits)) ∧ (Eqc (.flt .f32 a1.X.bits)) ∧ (Eqc (.flt .f32 a1.Y.bits)) ∧ (Eqc (.flt .f32 a1.Z.bits)) ∧ Tt) ∧ Tt) ∧ CallOK Tryz.prog 37 [.agg (cs_Turn v1), .agg (cs_Turn a1)] [.agg (cs_Turn v3)]) ∧ ((((Eqc (.flt .f32 v3.W.bits)) ∧ (Eqc (.flt .f32 v3.X.bits)) ∧ (Eqc (.flt .f32 v3.Y.bits)) ∧ (Eqc (.flt .f32 v3.Z.bits)) ∧ Tt) ∧ Tt) ∧ CallOK Tryz.prog 36 [.agg (cs_Turn v3)] [.one (.flt .f32 v5.bits)]) ∧ Tt ∧ Tt) ∧ (Tt)) 6 [.no, .call [.agg (cs_Turn a0)] [.agg (cs_Turn v1)] [[.view, .view, .view, .view]], .no, .call [.agg (cs_Turn v1), .agg (cs_Turn a1)] [.agg (cs_Turn v3)] [[.view, .view, .view, .view]], .call [.agg (cs_Turn v3)] [.one (.flt .f32 v5.bits)] [[.view]]] [4] [] ⟨⟨tr, ⟨⟨⟨rfl, rfl, rfl, rfl, tr⟩, tr⟩, ok_spec_l02Inverse K a0 v1 e2⟩, tr, ⟨⟨⟨rfl, rfl, rfl, rfl, tr⟩, ⟨rfl, rfl, rfl, rfl, tr⟩, tr⟩, ok_spec_l02Mul K v1 a1 v3 e4⟩, ⟨⟨⟨rfl, rfl, rfl, rfl, tr⟩, tr⟩, ok_spec_l02Angle K v3 v5 e6⟩, tr, tr⟩, tr⟩ ?_
  refine thenQ_normal ?_
  refine AW.ret ?_
  replace h := some_eq h
  subst h
  exact ⟨.inr rfl, retOK_of [(.one (.c (.flt .f32 v5.bits)))] (by kernel_rfl) ⟨⟨rfl, tr⟩, tr⟩ (of_decide_eq_true (by kernel_rfl))⟩

end
end Go.Fw
