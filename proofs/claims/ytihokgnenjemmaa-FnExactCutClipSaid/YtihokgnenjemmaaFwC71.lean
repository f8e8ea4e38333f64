/- Functions of the program: what each computes, and that it computes just that. -/
import Derived.Test.YtihokgnenjemmaaFwTy
import Derived.Test.YtihokgnenjemmaaFwH
import Derived.Test.YtihokgnenjemmaaFwV
import Derived.Test.YtihokgnenjemmaaFwUB
import Derived.Test.YtihokgnenjemmaaProg
import Derived.KernelRfl
namespace Go.Fw
open Go Go.Proofs
noncomputable section
set_option maxRecDepth 10000

/-! laws.szKeyS -/
def laws_szKeyS (_K : Nat) (a0 : (List Key)) (a1 : Int) : Option (Int) :=
  ite2 ((decide ((IntKind.i64.wrap (a1 - (a0.length : Int))) < (0 : Int)))) (some ((-1) : Int)) (some (IntKind.i64.wrap (a1 - (a0.length : Int))))

theorem ok_laws_szKeyS (K : Nat) (a0 : (List Key)) (a1 : Int) (o : (Int)) (h : laws_szKeyS K a0 a1 = some o) : CallOK Try.prog 133 [.one (sl 5 cs_Key a0), .one (.int .i64 a1)] [.one (.int .i64 o)] := by
  refine callOK_of_AW Try.func133 rfl (by kernel_rfl) (Nat.le_of_ble_eq_true (by kernel_rfl)) ?_
  intro w0
  unfold laws_szKeyS at h
  refine AW.seq (AW.rA ⟨[(0, (vc (sl 5 cs_Key a0))), (1, (vc (.int .i64 a1)))], []⟩ (Tt ∧ Tt) [] [0, 1] [] ⟨tr, tr⟩ (thenQ_normal ?_))
  refine AW.seq (AW.rA ⟨[(1, (vc (.int .i64 (IntKind.i64.wrap (a1 - (a0.length : Int))))))], []⟩ (Tt ∧ T4 Tt) [] [1] [] ⟨tr, tr, tr, tr, tr, tr⟩ (thenQ_normal ?_))
  refine AW.seq ?_
  refine AW.seq (AW.rA ⟨[(1, (vc (.int .i64 (IntKind.i64.wrap (a1 - (a0.length : Int)))))), (10, (vc (.bool (decide ((IntKind.i64.wrap (a1 - (a0.length : Int))) < (0 : Int))))))], []⟩ (T2 Tt) [] [1, 10] [] ⟨tr, tr, tr⟩ (thenQ_normal ?_))
  rcases ite2_cases h with ⟨b1, h⟩ | ⟨b1, h⟩
  · refine AW.cond_t rfl b1 ?_
    refine AW.seq (AW.rA ⟨[(4, (vc (.int .i64 ((-1) : Int))))], []⟩ (Tt ∧ Tt) [] [4] [] ⟨tr, tr⟩ (thenQ_normal ?_))
    refine AW.ret ?_
    refine thenQ_ret ?_
    replace h := some_eq h
    subst h
    exact ⟨.inr rfl, retOK_of [(.one (.c (.int .i64 ((-1) : Int))))] (by kernel_rfl) ⟨⟨rfl, tr⟩, tr⟩ (of_decide_eq_true (by kernel_rfl))⟩
  · refine AW.cond_f rfl b1 ?_
    refine AW.skip ?_
    refine thenQ_normal ?_
    refine AW.seq (AW.rA ⟨[(4, (vc (.int .i64 (IntKind.i64.wrap (a1 - (a0.length : Int))))))], []⟩ (T2 Tt) [] [4] [] ⟨tr, tr, tr⟩ (thenQ_normal ?_))
    refine AW.ret ?_
    replace h := some_eq h
    subst h
    exact ⟨.inr rfl, retOK_of [(.one (.c (.int .i64 (IntKind.i64.wrap (a1 - (a0.length : Int))))))] (by kernel_rfl) ⟨⟨rfl, tr⟩, tr⟩ (of_decide_eq_true (by kernel_rfl))⟩

/-! laws.szKeySS -/
def laws_szKeySS_l1 (K : Nat) (a0 : (List (List Key))) : Nat → Int → Int → Option (Int)
  | 0, _, _ => none
  | k + 1, x4, x5 => ite2 ((decide (x5 < (a0.length : Int)))) (chk (0 ≤ x5 ∧ x5 < (a0.length : Int)) ((laws_szKeyS K (a0.getD x5.toNat default) x4).bind fun v8 => ite2 ((decide (v8 < (0 : Int)))) (some ((-1) : Int)) (laws_szKeySS_l1 K a0 k v8 (IntKind.i64.wrap (x5 + (1 : Int)))))) (some x4)

def laws_szKeySS (K : Nat) (a0 : (List (List Key))) (a1 : Int) : Option (Int) :=
  ite2 ((decide ((IntKind.i64.wrap (a1 - (a0.length : Int))) < (0 : Int)))) (some ((-1) : Int)) (laws_szKeySS_l1 K a0 K (IntKind.i64.wrap (a1 - (a0.length : Int))) (0 : Int))

theorem ok_laws_szKeySS (K : Nat) (a0 : (List (List Key))) (a1 : Int) (o : (Int)) (h : laws_szKeySS K a0 a1 = some o) : CallOK Try.prog 58 [.one (sl 1 (csL 5 cs_Key) a0), .one (.int .i64 a1)] [.one (.int .i64 o)] := by
  refine callOK_of_AW Try.func58 rfl (by kernel_rfl) (Nat.le_of_ble_eq_true (by kernel_rfl)) ?_
  intro w0
  unfold laws_szKeySS at h
  refine AW.seq (AW.rA ⟨[(0, (vc (sl 1 (csL 5 cs_Key) a0))), (1, (vc (.int .i64 a1)))], []⟩ (Tt ∧ Tt) [] [0, 1] [] ⟨tr, tr⟩ (thenQ_normal ?_))
  refine AW.seq (AW.rA ⟨[(0, (vc (sl 1 (csL 5 cs_Key) a0))), (1, (vc (.int .i64 (IntKind.i64.wrap (a1 - (a0.length : Int))))))], []⟩ (Tt ∧ T4 Tt) [] [0, 1] [] ⟨tr, tr, tr, tr, tr, tr⟩ (thenQ_normal ?_))
  refine AW.seq ?_
  refine AW.seq (AW.rA ⟨[(0, (vc (sl 1 (csL 5 cs_Key) a0))), (1, (vc (.int .i64 (IntKind.i64.wrap (a1 - (a0.length : Int)))))), (11, (vc (.bool (decide ((IntKind.i64.wrap (a1 - (a0.length : Int))) < (0 : Int))))))], []⟩ (T2 Tt) [] [0, 1, 11] [] ⟨tr, tr, tr⟩ (thenQ_normal ?_))
  rcases ite2_cases h with ⟨b1, h⟩ | ⟨b1, h⟩
  · refine AW.cond_t rfl b1 ?_
    refine AW.seq (AW.rA ⟨[(4, (vc (.int .i64 ((-1) : Int))))], []⟩ (Tt ∧ Tt) [] [4] [] ⟨tr, tr⟩ (thenQ_normal ?_))
    refine AW.ret ?_
    refine thenQ_ret ?_
    replace h := some_eq h
    subst h
    exact ⟨.inr rfl, retOK_of [(.one (.c (.int .i64 ((-1) : Int))))] (by kernel_rfl) ⟨⟨rfl, tr⟩, tr⟩ (of_decide_eq_true (by kernel_rfl))⟩
  · refine AW.cond_f rfl b1 ?_
    refine AW.skip ?_
    refine thenQ_normal ?_
    refine AW.seq ?_
    refine AW.seq (AW.rA ⟨[(0, (vc (sl 1 (csL 5 cs_Key) a0))), (1, (vc (.int .i64 (IntKind.i64.wrap (a1 - (a0.length : Int)))))), (5, (vc (.int .i64 (0 : Int))))], []⟩ (Tt ∧ Tt) [] [0, 1, 5] [] ⟨tr, tr⟩ (thenQ_normal ?_))
    refine AW.block ?_
    refine AW.loopQ (σ := Nat × Int × Int) (fun p => ⟨[(0, (vc (sl 1 (csL 5 cs_Key) a0))), (1, (vc (.int .i64 p.2.1))), (5, (vc (.int .i64 p.2.2)))], []⟩) (fun p => laws_szKeySS_l1 K a0 p.1 p.2.1 p.2.2 = some o) (fun p => p.1) (K, (IntKind.i64.wrap (a1 - (a0.length : Int))), (0 : Int)) h ?_
    clear h
    rintro ⟨k, x4, x5⟩ h
    replace h : laws_szKeySS_l1 K a0 k x4 x5 = some o := h
    show AW _ _ (⟨[(0, (vc (sl 1 (csL 5 cs_Key) a0))), (1, (vc (.int .i64 x4))), (5, (vc (.int .i64 x5)))], []⟩ : St) _
    obtain _ | k := k
    · rw [laws_szKeySS_l1] at h; cases h
    rw [laws_szKeySS_l1] at h
    refine AW.seq ?_
    refine AW.seq (AW.rA ⟨[(0, (vc (sl 1 (csL 5 cs_Key) a0))), (1, (vc (.int .i64 x4))), (5, (vc (.int .i64 x5))), (15, (vc (.bool (decide (x5 < (a0.length : Int))))))], []⟩ (T4 Tt) [] [0, 1, 5, 15] [] ⟨tr, tr, tr, tr, tr⟩ (thenQ_normal ?_))
    rcases ite2_cases h with ⟨b6, h⟩ | ⟨b6, h⟩
    · refine AW.cond_t rfl b6 ?_
      refine AW.skip ?_
      refine thenQ_normal ?_
      refine AW.seq ?_
      refine AW.block ?_
      refine AW.seq ?_
      obtain ⟨c7, h⟩ := chk_some h
      obtain ⟨v8, e9, h⟩ := bind_some h
      refine AW.rA ⟨[(0, (vc (sl 1 (csL 5 cs_Key) a0))), (1, (vc (.int .i64 v8))), (5, (vc (.int .i64 x5)))], []⟩ (T2 ((0 ≤ x5 ∧ x5 < (a0.length : Int)) ∧ T2 ((((Eqc (sl 5 cs_Key (a0.getD x5.toNat default))) ∧ (Eqc (.int .i64 x4)) ∧ Tt) ∧ CallOK Try.prog 133 [.one (sl 5 cs_Key (a0.getD x5.toNat default)), .one (.int .i64 x4)] [.one (.int .i64 v8)]) ∧ Tt ∧ Tt))) [.no, .no, .no, .no, .no, .call [.one (sl 5 cs_Key (a0.getD x5.toNat default)), .one (.int .i64 x4)] [.one (.int .i64 v8)] [[.view]]] [0, 1, 5] [] ⟨tr, tr, c7, tr, tr, ⟨⟨rfl, rfl, tr⟩, ok_laws_szKeyS K (a0.getD x5.toNat default) x4 v8 e9⟩, tr, tr⟩ ?_
      refine thenQ_normal ?_
      refine AW.seq (AW.rA ⟨[(0, (vc (sl 1 (csL 5 cs_Key) a0))), (1, (vc (.int .i64 v8))), (5, (vc (.int .i64 x5))), (25, (vc (.bool (decide (v8 < (0 : Int))))))], []⟩ (T2 Tt) [] [0, 1, 5, 25] [] ⟨tr, tr, tr⟩ (thenQ_normal ?_))
      rcases ite2_cases h with ⟨b10, h⟩ | ⟨b10, h⟩
      · refine AW.cond_t rfl b10 ?_
        refine AW.seq (AW.rA ⟨[(4, (vc (.int .i64 ((-1) : Int))))], []⟩ (Tt ∧ Tt) [] [4] [] ⟨tr, tr⟩ (thenQ_normal ?_))
        refine AW.ret ?_
        refine blockQ_ret ?_
        refine thenQ_ret ?_
        refine loopQ_ret ?_
        refine blockQ_ret ?_
        refine thenQ_ret ?_
        replace h := some_eq h
        subst h
        exact ⟨.inr rfl, retOK_of [(.one (.c (.int .i64 ((-1) : Int))))] (by kernel_rfl) ⟨⟨rfl, tr⟩, tr⟩ (of_decide_eq_true (by kernel_rfl))⟩
      · refine AW.cond_f rfl b10 ?_
        refine AW.skip ?_
        refine blockQ_normal ?_
        refine thenQ_normal ?_
        refine AW.rA ⟨[(0, (vc (sl 1 (csL 5 cs_Key) a0))), (1, (vc (.int .i64 v8))), (5, (vc (.int .i64 (IntKind.i64.wrap (x5 + (1 : Int))))))], []⟩ (Tt ∧ T2 Tt) [] [0, 1, 5] [] ⟨tr, tr, tr, tr⟩ ?_
        exact loopQ_normal (k, v8, (IntKind.i64.wrap (x5 + (1 : Int)))) h (Nat.lt_succ_self k) (Sub.keep [0, 1, 5] [] (by kernel_rfl) (by kernel_rfl))
    · refine AW.cond_f rfl b6 ?_
      refine AW.exit ?_
      refine thenQ_exit ?_
      refine loopQ_exit ?_
      refine blockQ_exit ?_
      refine thenQ_normal ?_
      refine AW.seq (AW.rA ⟨[(4, (vc (.int .i64 x4)))], []⟩ (T2 Tt) [] [4] [] ⟨tr, tr, tr⟩ (thenQ_normal ?_))
      refine AW.ret ?_
      replace h := some_eq h
      subst h
      exact ⟨.inr rfl, retOK_of [(.one (.c (.int .i64 x4)))] (by kernel_rfl) ⟨⟨rfl, tr⟩, tr⟩ (of_decide_eq_true (by kernel_rfl))⟩

/-! laws.szRootKeyS -/
def laws_szRootKeyS (_K : Nat) (a0 : (List RootKey)) (a1 : Int) : Option (Int) :=
  ite2 ((decide ((IntKind.i64.wrap (a1 - (a0.length : Int))) < (0 : Int)))) (some ((-1) : Int)) (some (IntKind.i64.wrap (a1 - (a0.length : Int))))

theorem ok_laws_szRootKeyS (K : Nat) (a0 : (List RootKey)) (a1 : Int) (o : (Int)) (h : laws_szRootKeyS K a0 a1 = some o) : CallOK Try.prog 59 [.one (sl 4 cs_RootKey a0), .one (.int .i64 a1)] [.one (.int .i64 o)] := by
  refine callOK_of_AW Try.func59 rfl (by kernel_rfl) (Nat.le_of_ble_eq_true (by kernel_rfl)) ?_
  intro w0
  unfold laws_szRootKeyS at h
  refine AW.seq (AW.rA ⟨[(0, (vc (sl 4 cs_RootKey a0))), (1, (vc (.int .i64 a1)))], []⟩ (Tt ∧ Tt) [] [0, 1] [] ⟨tr, tr⟩ (thenQ_normal ?_))
  refine AW.seq (AW.rA ⟨[(1, (vc (.int .i64 (IntKind.i64.wrap (a1 - (a0.length : Int))))))], []⟩ (Tt ∧ T4 Tt) [] [1] [] ⟨tr, tr, tr, tr, tr, tr⟩ (thenQ_normal ?_))
  refine AW.seq ?_
  refine AW.seq (AW.rA ⟨[(1, (vc (.int .i64 (IntKind.i64.wrap (a1 - (a0.length : Int)))))), (10, (vc (.bool (decide ((IntKind.i64.wrap (a1 - (a0.length : Int))) < (0 : Int))))))], []⟩ (T2 Tt) [] [1, 10] [] ⟨tr, tr, tr⟩ (thenQ_normal ?_))
  rcases ite2_cases h with ⟨b1, h⟩ | ⟨b1, h⟩
  · refine AW.cond_t rfl b1 ?_
    refine AW.seq (AW.rA ⟨[(4, (vc (.int .i64 ((-1) : Int))))], []⟩ (Tt ∧ Tt) [] [4] [] ⟨tr, tr⟩ (thenQ_normal ?_))
    refine AW.ret ?_
    refine thenQ_ret ?_
    replace h := some_eq h
    subst h
    exact ⟨.inr rfl, retOK_of [(.one (.c (.int .i64 ((-1) : Int))))] (by kernel_rfl) ⟨⟨rfl, tr⟩, tr⟩ (of_decide_eq_true (by kernel_rfl))⟩
  · refine AW.cond_f rfl b1 ?_
    refine AW.skip ?_
    refine thenQ_normal ?_
    refine AW.seq (AW.rA ⟨[(4, (vc (.int .i64 (IntKind.i64.wrap (a1 - (a0.length : Int))))))], []⟩ (T2 Tt) [] [4] [] ⟨tr, tr, tr⟩ (thenQ_normal ?_))
    refine AW.ret ?_
    replace h := some_eq h
    subst h
    exact ⟨.inr rfl, retOK_of [(.one (.c (.int .i64 (IntKind.i64.wrap (a1 - (a0.length : Int))))))] (by kernel_rfl) ⟨⟨rfl, tr⟩, tr⟩ (of_decide_eq_true (by kernel_rfl))⟩

/-! laws.szClip -/
def laws_szClip (K : Nat) (a0 : Clip) (a1 : Int) : Option (Int) :=
  (laws_szKeySS K a0.Tracks a1).bind fun v1 => ite2 ((decide (v1 < (0 : Int)))) (some ((-1) : Int)) ((laws_szRootKeyS K a0.Roots v1).bind fun v4 => ite2 ((decide (v4 < (0 : Int)))) (some ((-1) : Int)) (some v4))

theorem ok_laws_szClip (K : Nat) (a0 : Clip) (a1 : Int) (o : (Int)) (h : laws_szClip K a0 a1 = some o) : CallOK Try.prog 11 [.agg (cs_Clip a0), .one (.int .i64 a1)] [.one (.int .i64 o)] := by
  refine callOK_of_AW Try.func11 rfl (by kernel_rfl) (Nat.le_of_ble_eq_true (by kernel_rfl)) ?_
  intro w0
  unfold laws_szClip at h
  refine AW.seq (AW.rA ⟨[(1, (vc (.int .i64 a1))), (2, (vp 1 0))], [(1, (.box [(.c (.int .i64 a0.Length)), (.c (.int .i64 a0.Kind)), (.c (sl 1 (csL 5 cs_Key) a0.Tracks)), (.c (sl 4 cs_RootKey a0.Roots))]))]⟩ (T2 Tt) [.box 1] [1, 2] [1] ⟨tr, tr, tr⟩ (thenQ_normal ?_))
  refine AW.seq ?_
  obtain ⟨v1, e2, h⟩ := bind_some h
  refine AW.rA ⟨[(1, (vc (.int .i64 v1))), (2, (vp 1 0))], [(1, (.box [(.c (.int .i64 a0.Length)), (.c (.int .i64 a0.Kind)), (.c (sl 1 (csL 5 cs_Key) a0.Tracks)), (.c (sl 4 cs_RootKey a0.Roots))]))]⟩ (Tt ∧ T2 ((((Eqc (sl 1 (csL 5 cs_Key) a0.Tracks)) ∧ (Eqc (.int .i64 a1)) ∧ Tt) ∧ CallOK Try.prog 58 [.one (sl 1 (csL 5 cs_Key) a0.Tracks), .one (.int .i64 a1)] [.one (.int .i64 v1)]) ∧ Tt ∧ Tt)) [.no, .no, .no, .call [.one (sl 1 (csL 5 cs_Key) a0.Tracks), .one (.int .i64 a1)] [.one (.int .i64 v1)] [[.view]]] [1, 2] [1] ⟨tr, tr, tr, ⟨⟨rfl, rfl, tr⟩, ok_laws_szKeySS K a0.Tracks a1 v1 e2⟩, tr, tr⟩ ?_
  refine thenQ_normal ?_
  refine AW.seq ?_
  refine AW.seq (AW.rA ⟨[(1, (vc (.int .i64 v1))), (2, (vp 1 0)), (10, (vc (.bool (decide (v1 < (0 : Int))))))], [(1, (.box [(.c (.int .i64 a0.Length)), (.c (.int .i64 a0.Kind)), (.c (sl 1 (csL 5 cs_Key) a0.Tracks)), (.c (sl 4 cs_RootKey a0.Roots))]))]⟩ (T2 Tt) [] [1, 2, 10] [1] ⟨tr, tr, tr⟩ (thenQ_normal ?_))
  rcases ite2_cases h with ⟨b3, h⟩ | ⟨b3, h⟩
  · refine AW.cond_t rfl b3 ?_
    refine AW.seq (AW.rA ⟨[(4, (vc (.int .i64 ((-1) : Int))))], []⟩ (Tt ∧ Tt) [] [4] [] ⟨tr, tr⟩ (thenQ_normal ?_))
    refine AW.ret ?_
    refine thenQ_ret ?_
    replace h := some_eq h
    subst h
    exact ⟨.inr rfl, retOK_of [(.one (.c (.int .i64 ((-1) : Int))))] (by kernel_rfl) ⟨⟨rfl, tr⟩, tr⟩ (of_decide_eq_true (by kernel_rfl))⟩
  · refine AW.cond_f rfl b3 ?_
    refine AW.skip ?_
    refine thenQ_normal ?_
    refine AW.seq ?_
    obtain ⟨v4, e5, h⟩ := bind_some h
    refine AW.rA ⟨[(1, (vc (.int .i64 v4)))], []⟩ (Tt ∧ T2 ((((Eqc (sl 4 cs_RootKey a0.Roots)) ∧ (Eqc (.int .i64 v1)) ∧ Tt) ∧ CallOK Try.prog 59 [.one (sl 4 cs_RootKey a0.Roots), .one (.int .i64 v1)] [.one (.int .i64 v4)]) ∧ Tt ∧ Tt)) [.no, .no, .no, .call [.one (sl 4 cs_RootKey a0.Roots), .one (.int .i64 v1)] [.one (.int .i64 v4)] [[.view]]] [1] [] ⟨tr, tr, tr, ⟨⟨rfl, rfl, tr⟩, ok_laws_szRootKeyS K a0.Roots v1 v4 e5⟩, tr, tr⟩ ?_
    refine thenQ_normal ?_
    refine AW.seq ?_
    refine AW.seq (AW.rA ⟨[(1, (vc (.int .i64 v4))), (16, (vc (.bool (decide (v4 < (0 : Int))))))], []⟩ (T2 Tt) [] [1, 16] [] ⟨tr, tr, tr⟩ (thenQ_normal ?_))
    rcases ite2_cases h with ⟨b6, h⟩ | ⟨b6, h⟩
    · refine AW.cond_t rfl b6 ?_
      refine AW.seq (AW.rA ⟨[(4, (vc (.int .i64 ((-1) : Int))))], []⟩ (Tt ∧ Tt) [] [4] [] ⟨tr, tr⟩ (thenQ_normal ?_))
      refine AW.ret ?_
      refine thenQ_ret ?_
      replace h := some_eq h
      subst h
      exact ⟨.inr rfl, retOK_of [(.one (.c (.int .i64 ((-1) : Int))))] (by kernel_rfl) ⟨⟨rfl, tr⟩, tr⟩ (of_decide_eq_true (by kernel_rfl))⟩
    · refine AW.cond_f rfl b6 ?_
      refine AW.skip ?_
      refine thenQ_normal ?_
      refine AW.seq (AW.rA ⟨[(4, (vc (.int .i64 v4)))], []⟩ (T2 Tt) [] [4] [] ⟨tr, tr, tr⟩ (thenQ_normal ?_))
      refine AW.ret ?_
      replace h := some_eq h
      subst h
      exact ⟨.inr rfl, retOK_of [(.one (.c (.int .i64 v4)))] (by kernel_rfl) ⟨⟨rfl, tr⟩, tr⟩ (of_decide_eq_true (by kernel_rfl))⟩

/-! laws.toTurn -/
def laws_toTurn (_K : Nat) (a0 : Turn) : Option (Turn) :=
  some a0

theorem ok_laws_toTurn (K : Nat) (a0 : Turn) (o : (Turn)) (h : laws_toTurn K a0 = some o) : CallOK Try.prog 209 [.agg (cs_Turn a0)] [.agg (cs_Turn o)] := by
  refine callOK_of_AW Try.func209 rfl (by kernel_rfl) (Nat.le_of_ble_eq_true (by kernel_rfl)) ?_
  intro w0
  unfold laws_toTurn at h
  refine AW.seq (AW.rA ⟨[(1, (vp 1 0)), (2, (vp 2 0))], [(1, (.box [(.c (.flt .f32 a0.W.bits)), (.c (.flt .f32 a0.X.bits)), (.c (.flt .f32 a0.Y.bits)), (.c (.flt .f32 a0.Z.bits))])), (2, (.box [(.c (.flt .f32 (default : F32).bits)), (.c (.flt .f32 (default : F32).bits)), (.c (.flt .f32 (default : F32).bits)), (.c (.flt .f32 (default : F32).bits))]))]⟩ (T2 Tt) [.box 1, .box 2] [1, 2] [1, 2] ⟨tr, tr, tr⟩ (thenQ_normal ?_))
  refine AW.seq (AW.rA ⟨[(1, (vp 1 0)), (2, (vp 2 0)), (3, (vp 3 0))], [(1, (.box [(.c (.flt .f32 a0.W.bits)), (.c (.flt .f32 a0.X.bits)), (.c (.flt .f32 a0.Y.bits)), (.c (.flt .f32 a0.Z.bits))])), (2, (.box [(.c (.flt .f32 (default : F32).bits)), (.c (.flt .f32 (default : F32).bits)), (.c (.flt .f32 (default : F32).bits)), (.c (.flt .f32 (default : F32).bits))])), (3, (.box [(.c (.flt .f32 (default : F32).bits)), (.c (.flt .f32 (default : F32).bits)), (.c (.flt .f32 (default : F32).bits)), (.c (.flt .f32 (default : F32).bits))]))]⟩ (Tt ∧ Tt) [.box 3] [1, 2, 3] [1, 2, 3] ⟨tr, tr⟩ (thenQ_normal ?_))
  refine AW.seq (AW.rA ⟨[(1, (vp 1 0)), (2, (vp 2 0)), (3, (vp 3 0))], [(1, (.box [(.c (.flt .f32 a0.W.bits)), (.c (.flt .f32 a0.X.bits)), (.c (.flt .f32 a0.Y.bits)), (.c (.flt .f32 a0.Z.bits))])), (2, (.box [(.c (.flt .f32 (default : F32).bits)), (.c (.flt .f32 (default : F32).bits)), (.c (.flt .f32 (default : F32).bits)), (.c (.flt .f32 (default : F32).bits))])), (3, (.box [(.c (.flt .f32 a0.W.bits)), (.c (.flt .f32 (default : F32).bits)), (.c (.flt .f32 (default : F32).bits)), (.c (.flt .f32 (default : F32).bits))]))]⟩ (T4 Tt) [] [1, 2, 3] [1, 2, 3] ⟨tr, tr, tr, tr, tr⟩ (thenQ_normal ?_))
  refine AW.seq (AW.rA ⟨[(1, (vp 1 0)), (2, (vp 2 0)), (3, (vp 3 0))], [(1, (.box [(.c (.flt .f32 a0.W.bits)), (.c (.flt .f32 a0.X.bits)), (.c (.flt .f32 a0.Y.bits)), (.c (.flt .f32 a0.Z.bits))])), (2, (.box [(.c (.flt .f32 (default : F32).bits)), (.c (.flt .f32 (default : F32).bits)), (.c (.flt .f32 (default : F32).bits)), (.c (.flt .f32 (default : F32).bits))])), (3, (.box [(.c (.flt .f32 a0.W.bits)), (.c (.flt .f32 a0.X.bits)), (.c (.flt .f32 (default : F32).bits)), (.c (.flt .f32 (default : F32).bits))]))]⟩ (T4 Tt) [] [1, 2, 3] [1, 2, 3] ⟨tr, tr, tr, tr, tr⟩ (thenQ_normal ?_))
  refine AW.seq (AW.rA ⟨[(1, (vp 1 0)), (2, (vp 2 0)), (3, (vp 3 0))], [(1, (.box [(.c (.flt .f32 a0.W.bits)), (.c (.flt .f32 a0.X.bits)), (.c (.flt .f32 a0.Y.bits)), (.c (.flt .f32 a0.Z.bits))])), (2, (.box [(.c (.flt .f32 (default : F32).bits)), (.c (.flt .f32 (default : F32).bits)), (.c (.flt .f32 (default : F32).bits)), (.c (.flt .f32 (default : F32).bits))])), (3, (.box [(.c (.flt .f32 a0.W.bits)), (.c (.flt .f32 a0.X.bits)), (.c (.flt .f32 a0.Y.bits)), (.c (.flt .f32 (default : F32).bits))]))]⟩ (T4 Tt) [] [1, 2, 3] [1, 2, 3] ⟨tr, tr, tr, tr, tr⟩ (thenQ_normal ?_))
  refine AW.seq (AW.rA ⟨[(2, (vp 2 0)), (3, (vp 3 0))], [(2, (.box [(.c (.flt .f32 (default : F32).bits)), (.c (.flt .f32 (default : F32).bits)), (.c (.flt .f32 (default : F32).bits)), (.c (.flt .f32 (default : F32).bits))])), (3, (.box [(.c (.flt .f32 a0.W.bits)), (.c (.flt .f32 a0.X.bits)), (.c (.flt .f32 a0.Y.bits)), (.c (.flt .f32 a0.Z.bits))]))]⟩ (T4 Tt) [] [2, 3] [2, 3] ⟨tr, tr, tr, tr, tr⟩ (thenQ_normal ?_))
  refine AW.seq (AW.rA ⟨[(2, (vp 2 0))], [(2, (.box [(.c (.flt .f32 a0.W.bits)), (.c (.flt .f32 a0.X.bits)), (.c (.flt .f32 a0.Y.bits)), (.c (.flt .f32 a0.Z.bits))]))]⟩ (T2 Tt) [] [2] [2] ⟨tr, tr, tr⟩ (thenQ_normal ?_))
  refine AW.ret ?_
  replace h := some_eq h
  subst h
  exact ⟨.inr rfl, retOK_of [(.agg [(.c (.flt .f32 a0.W.bits)), (.c (.flt .f32 a0.X.bits)), (.c (.flt .f32 a0.Y.bits)), (.c (.flt .f32 a0.Z.bits))])] (by kernel_rfl) ⟨⟨⟨rfl, tr⟩, ⟨rfl, tr⟩, ⟨rfl, tr⟩, ⟨rfl, tr⟩, tr⟩, tr⟩ (of_decide_eq_true (by kernel_rfl))⟩

/-! laws.toKey -/
def laws_toKey (K : Nat) (a0 : Key) : Option (Key) :=
  (laws_toTurn K a0.Turn).bind fun v1 => some (Key.mk a0.At v1)

theorem ok_laws_toKey (K : Nat) (a0 : Key) (o : (Key)) (h : laws_toKey K a0 = some o) : CallOK Try.prog 183 [.agg (cs_Key a0)] [.agg (cs_Key o)] := by
  refine callOK_of_AW Try.func183 rfl (by kernel_rfl) (Nat.le_of_ble_eq_true (by kernel_rfl)) ?_
  intro w0
  unfold laws_toKey at h
  refine AW.seq (AW.rA ⟨[(1, (vp 1 0)), (2, (vp 2 0))], [(1, (.box [(.c (.int .i64 a0.At)), (.c (.flt .f32 a0.Turn.W.bits)), (.c (.flt .f32 a0.Turn.X.bits)), (.c (.flt .f32 a0.Turn.Y.bits)), (.c (.flt .f32 a0.Turn.Z.bits))])), (2, (.box [(.c (.int .i64 (0 : Int))), (.c (.flt .f32 (default : F32).bits)), (.c (.flt .f32 (default : F32).bits)), (.c (.flt .f32 (default : F32).bits)), (.c (.flt .f32 (default : F32).bits))]))]⟩ (T2 Tt) [.box 1, .box 2] [1, 2] [1, 2] ⟨tr, tr, tr⟩ (thenQ_normal ?_))
  refine AW.seq (AW.rA ⟨[(1, (vp 1 0)), (2, (vp 2 0)), (3, (vp 3 0))], [(1, (.box [(.c (.int .i64 a0.At)), (.c (.flt .f32 a0.Turn.W.bits)), (.c (.flt .f32 a0.Turn.X.bits)), (.c (.flt .f32 a0.Turn.Y.bits)), (.c (.flt .f32 a0.Turn.Z.bits))])), (2, (.box [(.c (.int .i64 (0 : Int))), (.c (.flt .f32 (default : F32).bits)), (.c (.flt .f32 (default : F32).bits)), (.c (.flt .f32 (default : F32).bits)), (.c (.flt .f32 (default : F32).bits))])), (3, (.box [(.c (.int .i64 (0 : Int))), (.c (.flt .f32 (default : F32).bits)), (.c (.flt .f32 (default : F32).bits)), (.c (.flt .f32 (default : F32).bits)), (.c (.flt .f32 (default : F32).bits))]))]⟩ (Tt ∧ Tt) [.box 3] [1, 2, 3] [1, 2, 3] ⟨tr, tr⟩ (thenQ_normal ?_))
  refine AW.seq (AW.rA ⟨[(1, (vp 1 0)), (2, (vp 2 0)), (3, (vp 3 0))], [(1, (.box [(.c (.int .i64 a0.At)), (.c (.flt .f32 a0.Turn.W.bits)), (.c (.flt .f32 a0.Turn.X.bits)), (.c (.flt .f32 a0.Turn.Y.bits)), (.c (.flt .f32 a0.Turn.Z.bits))])), (2, (.box [(.c (.int .i64 (0 : Int))), (.c (.flt .f32 (default : F32).bits)), (.c (.flt .f32 (default : F32).bits)), (.c (.flt .f32 (default : F32).bits)), (.c (.flt .f32 (default : F32).bits))])), (3, (.box [(.c (.int .i64 a0.At)), (.c (.flt .f32 (default : F32).bits)), (.c (.flt .f32 (default : F32).bits)), (.c (.flt .f32 (default : F32).bits)), (.c (.flt .f32 (default : F32).bits))]))]⟩ (T4 Tt) [] [1, 2, 3] [1, 2, 3] ⟨tr, tr, tr, tr, tr⟩ (thenQ_normal ?_))
  refine AW.seq ?_
  obtain ⟨v1, e2, h⟩ := bind_some h
  refine AW.rA ⟨[(2, (vp 2 0)), (3, (vp 3 0))], [(2, (.box [(.c (.int .i64 (0 : Int))), (.c (.flt .f32 (default : F32).bits)), (.c (.flt .f32 (default : F32).bits)), (.c (.flt .f32 (default : F32).bits)), (.c (.flt .f32 (default : F32).bits))])), (3, (.box [(.c (.int .i64 a0.At)), (.c (.flt .f32 v1.W.bits)), (.c (.flt .f32 v1.X.bits)), (.c (.flt .f32 v1.Y.bits)), (.c (.flt .f32 v1.Z.bits))]))]⟩ (T2 (((((Eqc (.flt .f32 a0.Turn.W.bits)) ∧ (Eqc (.flt .f32 a0.Turn.X.bits)) ∧ (Eqc (.flt .f32 a0.Turn.Y.bits)) ∧ (Eqc (.flt .f32 a0.Turn.Z.bits)) ∧ Tt) ∧ Tt) ∧ CallOK Try.prog 209 [.agg (cs_Turn a0.Turn)] [.agg (cs_Turn v1)]) ∧ T2 Tt)) [.no, .no, .call [.agg (cs_Turn a0.Turn)] [.agg (cs_Turn v1)] [[.view, .view, .view, .view]]] [2, 3] [2, 3] ⟨tr, tr, ⟨⟨⟨rfl, rfl, rfl, rfl, tr⟩, tr⟩, ok_laws_toTurn K a0.Turn v1 e2⟩, tr, tr, tr⟩ ?_
  refine thenQ_normal ?_
  refine AW.seq (AW.rA ⟨[(2, (vp 2 0))], [(2, (.box [(.c (.int .i64 a0.At)), (.c (.flt .f32 v1.W.bits)), (.c (.flt .f32 v1.X.bits)), (.c (.flt .f32 v1.Y.bits)), (.c (.flt .f32 v1.Z.bits))]))]⟩ (T2 Tt) [] [2] [2] ⟨tr, tr, tr⟩ (thenQ_normal ?_))
  refine AW.ret ?_
  replace h := some_eq h
  subst h
  exact ⟨.inr rfl, retOK_of [(.agg [(.c (.int .i64 a0.At)), (.c (.flt .f32 v1.W.bits)), (.c (.flt .f32 v1.X.bits)), (.c (.flt .f32 v1.Y.bits)), (.c (.flt .f32 v1.Z.bits))])] (by kernel_rfl) ⟨⟨⟨rfl, tr⟩, ⟨rfl, tr⟩, ⟨rfl, tr⟩, ⟨rfl, tr⟩, ⟨rfl, tr⟩, tr⟩, tr⟩ (of_decide_eq_true (by kernel_rfl))⟩

/-! laws.toKeyS -/
def laws_toKeyS_l1 (K : Nat) (a0 : (List Key)) : Nat → Int → (List Key) → Option ((List Key))
  | 0, _, _ => none
  | k + 1, x4, x5 => ite2 ((decide (x4 < (a0.length : Int)))) (chk (0 ≤ x4 ∧ x4 < (a0.length : Int)) ((laws_toKey K (a0.getD x4.toNat default)).bind fun v8 => chk (0 ≤ x4 ∧ x4 < (x5.length : Int)) (laws_toKeyS_l1 K a0 k (IntKind.i64.wrap (x4 + (1 : Int))) (x5.set x4.toNat v8)))) (some x5)

def laws_toKeyS (K : Nat) (a0 : (List Key)) : Option ((List Key)) :=
  chk (0 ≤ (a0.length : Int) ∧ (a0.length : Int).toNat * 24 ≤ 140737488355328) (laws_toKeyS_l1 K a0 K (0 : Int) (List.replicate (a0.length : Int).toNat (default : Key)))

theorem ok_laws_toKeyS (K : Nat) (a0 : (List Key)) (o : ((List Key))) (h : laws_toKeyS K a0 = some o) : CallOK Try.prog 137 [.one (sl 5 cs_Key a0)] [.one (sl 5 cs_Key o)] := by
  refine callOK_of_AW Try.func137 rfl (by kernel_rfl) (Nat.le_of_ble_eq_true (by kernel_rfl)) ?_
  intro w0
  unfold laws_toKeyS at h
  refine AW.seq (AW.rA ⟨[(0, (vc (sl 5 cs_Key a0)))], []⟩ (Tt ∧ Tt) [] [0] [] ⟨tr, tr⟩ (thenQ_normal ?_))
  refine AW.seq ?_
  obtain ⟨c1, h⟩ := chk_some h
  refine AW.rA ⟨[(0, (vc (sl 5 cs_Key a0))), (3, (.v (.one (.arr 1))))], [(1, (.arr false (List.replicate (a0.length : Int).toNat (default : Key)).length 5 (gl cs_Key (List.replicate (a0.length : Int).toNat (default : Key)))))]⟩ (T2 ((0 ≤ (a0.length : Int) ∧ (a0.length : Int) = (a0.length : Int) ∧ (((List.replicate (a0.length : Int).toNat (default : Key)).length : Nat) : Int) = (a0.length : Int) ∧ (List.replicate (a0.length : Int).toNat (default : Key)).length * 24 ≤ 140737488355328 ∧ ∀ i, i < (List.replicate (a0.length : Int).toNat (default : Key)).length → zeroRow (fun _ => none) [(.c (.int .i64 (0 : Int))), (.c (.flt .f32 (default : F32).bits)), (.c (.flt .f32 (default : F32).bits)), (.c (.flt .f32 (default : F32).bits)), (.c (.flt .f32 (default : F32).bits))] (gl cs_Key (List.replicate (a0.length : Int).toNat (default : Key)) i)) ∧ Tt ∧ Tt)) [.no, .no, .objA 1 (List.replicate (a0.length : Int).toNat (default : Key)).length (gl cs_Key (List.replicate (a0.length : Int).toNat (default : Key)))] [0, 3] [1] ⟨tr, tr, ⟨c1.1, rfl, len_rep c1.1, rep_bytes c1.2, fun i hi => gl_zero (cs := cs_Key) (zs := [(.c (.int .i64 (0 : Int))), (.c (.flt .f32 (default : F32).bits)), (.c (.flt .f32 (default : F32).bits)), (.c (.flt .f32 (default : F32).bits)), (.c (.flt .f32 (default : F32).bits))]) (n := (a0.length : Int).toNat) ⟨⟨rfl, tr⟩, ⟨rfl, tr⟩, ⟨rfl, tr⟩, ⟨rfl, tr⟩, ⟨rfl, tr⟩, tr⟩ i (rep_lt hi)⟩, tr, tr⟩ ?_
  refine thenQ_normal ?_
  refine AW.seq ?_
  refine AW.seq (AW.rA ⟨[(0, (vc (sl 5 cs_Key a0))), (3, (.v (.one (.arr 1)))), (4, (vc (.int .i64 (0 : Int))))], [(1, (.arr false (List.replicate (a0.length : Int).toNat (default : Key)).length 5 (gl cs_Key (List.replicate (a0.length : Int).toNat (default : Key)))))]⟩ (Tt ∧ Tt) [] [0, 3, 4] [1] ⟨tr, tr⟩ (thenQ_normal ?_))
  refine AW.block ?_
  refine AW.loopQ (σ := Nat × Int × (List Key)) (fun p => ⟨[(0, (vc (sl 5 cs_Key a0))), (3, (.v (.one (.arr 1)))), (4, (vc (.int .i64 p.2.1)))], [(1, (.arr false p.2.2.length 5 (gl cs_Key p.2.2)))]⟩) (fun p => laws_toKeyS_l1 K a0 p.1 p.2.1 p.2.2 = some o) (fun p => p.1) (K, (0 : Int), (List.replicate (a0.length : Int).toNat (default : Key))) h ?_
  clear h
  rintro ⟨k, x4, x5⟩ h
  replace h : laws_toKeyS_l1 K a0 k x4 x5 = some o := h
  show AW _ _ (⟨[(0, (vc (sl 5 cs_Key a0))), (3, (.v (.one (.arr 1)))), (4, (vc (.int .i64 x4)))], [(1, (.arr false x5.length 5 (gl cs_Key x5)))]⟩ : St) _
  obtain _ | k := k
  · rw [laws_toKeyS_l1] at h; cases h
  rw [laws_toKeyS_l1] at h
  refine AW.seq ?_
  refine AW.seq (AW.rA ⟨[(0, (vc (sl 5 cs_Key a0))), (3, (.v (.one (.arr 1)))), (4, (vc (.int .i64 x4))), (11, (vc (.bool (decide (x4 < (a0.length : Int))))))], [(1, (.arr false x5.length 5 (gl cs_Key x5)))]⟩ (T4 Tt) [] [0, 3, 4, 11] [1] ⟨tr, tr, tr, tr, tr⟩ (thenQ_normal ?_))
  rcases ite2_cases h with ⟨b6, h⟩ | ⟨b6, h⟩
  · refine AW.cond_t rfl b6 ?_
    refine AW.skip ?_
    refine thenQ_normal ?_
    refine AW.seq ?_
    refine AW.block ?_
    obtain ⟨c7, h⟩ := chk_some h
    obtain ⟨v8, e9, h⟩ := bind_some h
    obtain ⟨c10, h⟩ := chk_some h
    refine AW.rA ⟨[(0, (vc (sl 5 cs_Key a0))), (3, (.v (.one (.arr 1)))), (4, (vc (.int .i64 x4)))], [(1, (.arr false (x5.set x4.toNat v8).length 5 (gl cs_Key (x5.set x4.toNat v8))))]⟩ (T4 ((0 ≤ x4 ∧ x4 < (a0.length : Int)) ∧ Tt ∧ ((((Eqc (.int .i64 ((a0.getD x4.toNat default).At))) ∧ (Eqc (.flt .f32 (((a0.getD x4.toNat default).Turn).W).bits)) ∧ (Eqc (.flt .f32 (((a0.getD x4.toNat default).Turn).X).bits)) ∧ (Eqc (.flt .f32 (((a0.getD x4.toNat default).Turn).Y).bits)) ∧ (Eqc (.flt .f32 (((a0.getD x4.toNat default).Turn).Z).bits)) ∧ Tt) ∧ Tt) ∧ CallOK Try.prog 183 [.agg (cs_Key (a0.getD x4.toNat default))] [.agg (cs_Key v8)]) ∧ (0 ≤ x4 ∧ x4 < (x5.length : Int)) ∧ ((x5.set x4.toNat v8).length = x5.length ∧ SetOb x5.length 5 x4.toNat 0 5 (gl cs_Key x5) (gl cs_Key (x5.set x4.toNat v8)) ∧ ((List.range 5).map fun j => (cs_Key v8).getD (0 + j) .nilptr) = ((List.range 5).map fun j => gl cs_Key (x5.set x4.toNat v8) x4.toNat (0 + j)) ∧ ((((.int .i64 v8.At) : C) = (.int .i64 v8.At) ∧ Tt) ∧ (((.flt .f32 v8.Turn.W.bits) : C) = (.flt .f32 v8.Turn.W.bits) ∧ Tt) ∧ (((.flt .f32 v8.Turn.X.bits) : C) = (.flt .f32 v8.Turn.X.bits) ∧ Tt) ∧ (((.flt .f32 v8.Turn.Y.bits) : C) = (.flt .f32 v8.Turn.Y.bits) ∧ Tt) ∧ (((.flt .f32 v8.Turn.Z.bits) : C) = (.flt .f32 v8.Turn.Z.bits) ∧ Tt) ∧ Tt) ∧ (false = true → ∀ j, j < 5 → isSeq (gl cs_Key x5 x4.toNat (0 + j)) = false ∧ isSeq (gl cs_Key (x5.set x4.toNat v8) x4.toNat (0 + j)) = false)) ∧ Tt)) [.no, .no, .no, .no, .no, .no, .call [.agg (cs_Key (a0.getD x4.toNat default))] [.agg (cs_Key v8)] [[.view, .view, .view, .view, .view]], .no, .set (x5.set x4.toNat v8).length (gl cs_Key (x5.set x4.toNat v8)) ((List.range 5).map fun j => (cs_Key v8).getD (0 + j) .nilptr)] [0, 3, 4] [1] ⟨tr, tr, tr, tr, c7, tr, ⟨⟨⟨rfl, rfl, rfl, rfl, rfl, tr⟩, tr⟩, ok_laws_toKey K (a0.getD x4.toNat default) v8 e9⟩, c10, ⟨List.length_set, gl_set, (gl_atp (lt_of_bound c10)).symm, ⟨⟨rfl, tr⟩, ⟨rfl, tr⟩, ⟨rfl, tr⟩, ⟨rfl, tr⟩, ⟨rfl, tr⟩, tr⟩, (fun h => nomatch h)⟩, tr⟩ ?_
    refine blockQ_normal ?_
    refine thenQ_normal ?_
    refine AW.rA ⟨[(0, (vc (sl 5 cs_Key a0))), (3, (.v (.one (.arr 1)))), (4, (vc (.int .i64 (IntKind.i64.wrap (x4 + (1 : Int))))))], [(1, (.arr false (x5.set x4.toNat v8).length 5 (gl cs_Key (x5.set x4.toNat v8))))]⟩ (Tt ∧ T2 Tt) [] [0, 3, 4] [1] ⟨tr, tr, tr, tr⟩ ?_
    exact loopQ_normal (k, (IntKind.i64.wrap (x4 + (1 : Int))), (x5.set x4.toNat v8)) h (Nat.lt_succ_self k) (Sub.keep [0, 3, 4] [1] (by kernel_rfl) (by kernel_rfl))
  · refine AW.cond_f rfl b6 ?_
    refine AW.exit ?_
    refine thenQ_exit ?_
    refine loopQ_exit ?_
    refine blockQ_exit ?_
    refine thenQ_normal ?_
    refine AW.seq (AW.rA ⟨[(2, (.v (.one (.arr 1))))], [(1, (.arr false x5.length 5 (gl cs_Key x5)))]⟩ (T2 Tt) [] [2] [1] ⟨tr, tr, tr⟩ (thenQ_normal ?_))
    refine AW.ret ?_
    replace h := some_eq h
    subst h
    exact ⟨.inr rfl, retOK_of [(.one (.arr 1))] (by kernel_rfl) ⟨rfl, tr⟩ (of_decide_eq_true (by kernel_rfl))⟩

/-! laws.toKeySS -/
def laws_toKeySS_l1 (K : Nat) (a0 : (List (List Key))) : Nat → Int → (List (List Key)) → Option ((List (List Key)))
  | 0, _, _ => none
  | k + 1, x4, x5 => ite2 ((decide (x4 < (a0.length : Int)))) (chk (0 ≤ x4 ∧ x4 < (a0.length : Int)) ((laws_toKeyS K (a0.getD x4.toNat default)).bind fun v8 => chk (0 ≤ x4 ∧ x4 < (x5.length : Int)) (laws_toKeySS_l1 K a0 k (IntKind.i64.wrap (x4 + (1 : Int))) (x5.set x4.toNat v8)))) (some x5)

def laws_toKeySS (K : Nat) (a0 : (List (List Key))) : Option ((List (List Key))) :=
  chk (0 ≤ (a0.length : Int) ∧ (a0.length : Int).toNat * 24 ≤ 140737488355328) (laws_toKeySS_l1 K a0 K (0 : Int) (List.replicate (a0.length : Int).toNat (default : (List Key))))

theorem ok_laws_toKeySS (K : Nat) (a0 : (List (List Key))) (o : ((List (List Key)))) (h : laws_toKeySS K a0 = some o) : CallOK Try.prog 61 [.one (sl 1 (csL 5 cs_Key) a0)] [.one (sl 1 (csL 5 cs_Key) o)] := by
  refine callOK_of_AW Try.func61 rfl (by kernel_rfl) (Nat.le_of_ble_eq_true (by kernel_rfl)) ?_
  intro w0
  unfold laws_toKeySS at h
  refine AW.seq (AW.rA ⟨[(0, (vc (sl 1 (csL 5 cs_Key) a0)))], []⟩ (Tt ∧ Tt) [] [0] [] ⟨tr, tr⟩ (thenQ_normal ?_))
  refine AW.seq ?_
  obtain ⟨c1, h⟩ := chk_some h
  refine AW.rA ⟨[(0, (vc (sl 1 (csL 5 cs_Key) a0))), (3, (.v (.one (.arr 1))))], [(1, (.arr false (List.replicate (a0.length : Int).toNat (default : (List Key))).length 1 (gl (csL 5 cs_Key) (List.replicate (a0.length : Int).toNat (default : (List Key))))))]⟩ (T2 ((0 ≤ (a0.length : Int) ∧ (a0.length : Int) = (a0.length : Int) ∧ (((List.replicate (a0.length : Int).toNat (default : (List Key))).length : Nat) : Int) = (a0.length : Int) ∧ (List.replicate (a0.length : Int).toNat (default : (List Key))).length * 24 ≤ 140737488355328 ∧ ∀ i, i < (List.replicate (a0.length : Int).toNat (default : (List Key))).length → zeroRow (fun _ => none) [.nils] (gl (csL 5 cs_Key) (List.replicate (a0.length : Int).toNat (default : (List Key))) i)) ∧ Tt ∧ Tt)) [.no, .no, .objA 1 (List.replicate (a0.length : Int).toNat (default : (List Key))).length (gl (csL 5 cs_Key) (List.replicate (a0.length : Int).toNat (default : (List Key))))] [0, 3] [1] ⟨tr, tr, ⟨c1.1, rfl, len_rep c1.1, rep_bytes c1.2, fun i hi => gl_zero (cs := (csL 5 cs_Key)) (zs := [.nils]) (n := (a0.length : Int).toNat) ⟨rfl, tr⟩ i (rep_lt hi)⟩, tr, tr⟩ ?_
  refine thenQ_normal ?_
  refine AW.seq ?_
  refine AW.seq (AW.rA ⟨[(0, (vc (sl 1 (csL 5 cs_Key) a0))), (3, (.v (.one (.arr 1)))), (4, (vc (.int .i64 (0 : Int))))], [(1, (.arr false (List.replicate (a0.length : Int).toNat (default : (List Key))).length 1 (gl (csL 5 cs_Key) (List.replicate (a0.length : Int).toNat (default : (List Key))))))]⟩ (Tt ∧ Tt) [] [0, 3, 4] [1] ⟨tr, tr⟩ (thenQ_normal ?_))
  refine AW.block ?_
  refine AW.loopQ (σ := Nat × Int × (List (List Key))) (fun p => ⟨[(0, (vc (sl 1 (csL 5 cs_Key) a0))), (3, (.v (.one (.arr 1)))), (4, (vc (.int .i64 p.2.1)))], [(1, (.arr false p.2.2.length 1 (gl (csL 5 cs_Key) p.2.2)))]⟩) (fun p => laws_toKeySS_l1 K a0 p.1 p.2.1 p.2.2 = some o) (fun p => p.1) (K, (0 : Int), (List.replicate (a0.length : Int).toNat (default : (List Key)))) h ?_
  clear h
  rintro ⟨k, x4, x5⟩ h
  replace h : laws_toKeySS_l1 K a0 k x4 x5 = some o := h
  show AW _ _ (⟨[(0, (vc (sl 1 (csL 5 cs_Key) a0))), (3, (.v (.one (.arr 1)))), (4, (vc (.int .i64 x4)))], [(1, (.arr false x5.length 1 (gl (csL 5 cs_Key) x5)))]⟩ : St) _
  obtain _ | k := k
  · rw [laws_toKeySS_l1] at h; cases h
  rw [laws_toKeySS_l1] at h
  refine AW.seq ?_
  refine AW.seq (AW.rA ⟨[(0, (vc (sl 1 (csL 5 cs_Key) a0))), (3, (.v (.one (.arr 1)))), (4, (vc (.int .i64 x4))), (11, (vc (.bool (decide (x4 < (a0.length : Int))))))], [(1, (.arr false x5.length 1 (gl (csL 5 cs_Key) x5)))]⟩ (T4 Tt) [] [0, 3, 4, 11] [1] ⟨tr, tr, tr, tr, tr⟩ (thenQ_normal ?_))
  rcases ite2_cases h with ⟨b6, h⟩ | ⟨b6, h⟩
  · refine AW.cond_t rfl b6 ?_
    refine AW.skip ?_
    refine thenQ_normal ?_
    refine AW.seq ?_
    refine AW.block ?_
    obtain ⟨c7, h⟩ := chk_some h
    obtain ⟨v8, e9, h⟩ := bind_some h
    obtain ⟨c10, h⟩ := chk_some h
    refine AW.rA ⟨[(0, (vc (sl 1 (csL 5 cs_Key) a0))), (3, (.v (.one (.arr 1)))), (4, (vc (.int .i64 x4)))], [(1, (.arr false (x5.set x4.toNat v8).length 1 (gl (csL 5 cs_Key) (x5.set x4.toNat v8))))]⟩ (T4 ((0 ≤ x4 ∧ x4 < (a0.length : Int)) ∧ Tt ∧ (((Eqc (sl 5 cs_Key (a0.getD x4.toNat default))) ∧ Tt) ∧ CallOK Try.prog 137 [.one (sl 5 cs_Key (a0.getD x4.toNat default))] [.one (sl 5 cs_Key v8)]) ∧ (0 ≤ x4 ∧ x4 < (x5.length : Int)) ∧ ((x5.set x4.toNat v8).length = x5.length ∧ SetOb x5.length 1 x4.toNat 0 1 (gl (csL 5 cs_Key) x5) (gl (csL 5 cs_Key) (x5.set x4.toNat v8)) ∧ ((List.range 1).map fun j => ((csL 5 cs_Key) v8).getD (0 + j) .nilptr) = ((List.range 1).map fun j => gl (csL 5 cs_Key) (x5.set x4.toNat v8) x4.toNat (0 + j)) ∧ ((Eqc (sl 5 cs_Key v8)) ∧ Tt) ∧ (false = true → ∀ j, j < 1 → isSeq (gl (csL 5 cs_Key) x5 x4.toNat (0 + j)) = false ∧ isSeq (gl (csL 5 cs_Key) (x5.set x4.toNat v8) x4.toNat (0 + j)) = false)) ∧ Tt)) [.no, .no, .no, .no, .no, .no, .call [.one (sl 5 cs_Key (a0.getD x4.toNat default))] [.one (sl 5 cs_Key v8)] [[.lst 4]], .no, .set (x5.set x4.toNat v8).length (gl (csL 5 cs_Key) (x5.set x4.toNat v8)) ((List.range 1).map fun j => ((csL 5 cs_Key) v8).getD (0 + j) .nilptr)] [0, 3, 4] [1] ⟨tr, tr, tr, tr, c7, tr, ⟨⟨rfl, tr⟩, ok_laws_toKeyS K (a0.getD x4.toNat default) v8 e9⟩, c10, ⟨List.length_set, gl_set, (gl_atp (lt_of_bound c10)).symm, ⟨rfl, tr⟩, (fun h => nomatch h)⟩, tr⟩ ?_
    refine blockQ_normal ?_
    refine thenQ_normal ?_
    refine AW.rA ⟨[(0, (vc (sl 1 (csL 5 cs_Key) a0))), (3, (.v (.one (.arr 1)))), (4, (vc (.int .i64 (IntKind.i64.wrap (x4 + (1 : Int))))))], [(1, (.arr false (x5.set x4.toNat v8).length 1 (gl (csL 5 cs_Key) (x5.set x4.toNat v8))))]⟩ (Tt ∧ T2 Tt) [] [0, 3, 4] [1] ⟨tr, tr, tr, tr⟩ ?_
    exact loopQ_normal (k, (IntKind.i64.wrap (x4 + (1 : Int))), (x5.set x4.toNat v8)) h (Nat.lt_succ_self k) (Sub.keep [0, 3, 4] [1] (by kernel_rfl) (by kernel_rfl))
  · refine AW.cond_f rfl b6 ?_
    refine AW.exit ?_
    refine thenQ_exit ?_
    refine loopQ_exit ?_
    refine blockQ_exit ?_
    refine thenQ_normal ?_
    refine AW.seq (AW.rA ⟨[(2, (.v (.one (.arr 1))))], [(1, (.arr false x5.length 1 (gl (csL 5 cs_Key) x5)))]⟩ (T2 Tt) [] [2] [1] ⟨tr, tr, tr⟩ (thenQ_normal ?_))
    refine AW.ret ?_
    replace h := some_eq h
    subst h
    exact ⟨.inr rfl, retOK_of [(.one (.arr 1))] (by kernel_rfl) ⟨rfl, tr⟩ (of_decide_eq_true (by kernel_rfl))⟩

/-! laws.toVector -/
def laws_toVector (_K : Nat) (a0 : Vector) : Option (Vector) :=
  some a0

theorem ok_laws_toVector (K : Nat) (a0 : Vector) (o : (Vector)) (h : laws_toVector K a0 = some o) : CallOK Try.prog 184 [.agg (cs_Vector a0)] [.agg (cs_Vector o)] := by
  refine callOK_of_AW Try.func184 rfl (by kernel_rfl) (Nat.le_of_ble_eq_true (by kernel_rfl)) ?_
  intro w0
  unfold laws_toVector at h
  refine AW.seq (AW.rA ⟨[(1, (vp 1 0)), (2, (vp 2 0))], [(1, (.box [(.c (.flt .f32 a0.X.bits)), (.c (.flt .f32 a0.Y.bits)), (.c (.flt .f32 a0.Z.bits))])), (2, (.box [(.c (.flt .f32 (default : F32).bits)), (.c (.flt .f32 (default : F32).bits)), (.c (.flt .f32 (default : F32).bits))]))]⟩ (T2 Tt) [.box 1, .box 2] [1, 2] [1, 2] ⟨tr, tr, tr⟩ (thenQ_normal ?_))
  refine AW.seq (AW.rA ⟨[(1, (vp 1 0)), (2, (vp 2 0)), (3, (vp 3 0))], [(1, (.box [(.c (.flt .f32 a0.X.bits)), (.c (.flt .f32 a0.Y.bits)), (.c (.flt .f32 a0.Z.bits))])), (2, (.box [(.c (.flt .f32 (default : F32).bits)), (.c (.flt .f32 (default : F32).bits)), (.c (.flt .f32 (default : F32).bits))])), (3, (.box [(.c (.flt .f32 (default : F32).bits)), (.c (.flt .f32 (default : F32).bits)), (.c (.flt .f32 (default : F32).bits))]))]⟩ (Tt ∧ Tt) [.box 3] [1, 2, 3] [1, 2, 3] ⟨tr, tr⟩ (thenQ_normal ?_))
  refine AW.seq (AW.rA ⟨[(1, (vp 1 0)), (2, (vp 2 0)), (3, (vp 3 0))], [(1, (.box [(.c (.flt .f32 a0.X.bits)), (.c (.flt .f32 a0.Y.bits)), (.c (.flt .f32 a0.Z.bits))])), (2, (.box [(.c (.flt .f32 (default : F32).bits)), (.c (.flt .f32 (default : F32).bits)), (.c (.flt .f32 (default : F32).bits))])), (3, (.box [(.c (.flt .f32 a0.X.bits)), (.c (.flt .f32 (default : F32).bits)), (.c (.flt .f32 (default : F32).bits))]))]⟩ (T4 Tt) [] [1, 2, 3] [1, 2, 3] ⟨tr, tr, tr, tr, tr⟩ (thenQ_normal ?_))
  refine AW.seq (AW.rA ⟨[(1, (vp 1 0)), (2, (vp 2 0)), (3, (vp 3 0))], [(1, (.box [(.c (.flt .f32 a0.X.bits)), (.c (.flt .f32 a0.Y.bits)), (.c (.flt .f32 a0.Z.bits))])), (2, (.box [(.c (.flt .f32 (default : F32).bits)), (.c (.flt .f32 (default : F32).bits)), (.c (.flt .f32 (default : F32).bits))])), (3, (.box [(.c (.flt .f32 a0.X.bits)), (.c (.flt .f32 a0.Y.bits)), (.c (.flt .f32 (default : F32).bits))]))]⟩ (T4 Tt) [] [1, 2, 3] [1, 2, 3] ⟨tr, tr, tr, tr, tr⟩ (thenQ_normal ?_))
  refine AW.seq (AW.rA ⟨[(2, (vp 2 0)), (3, (vp 3 0))], [(2, (.box [(.c (.flt .f32 (default : F32).bits)), (.c (.flt .f32 (default : F32).bits)), (.c (.flt .f32 (default : F32).bits))])), (3, (.box [(.c (.flt .f32 a0.X.bits)), (.c (.flt .f32 a0.Y.bits)), (.c (.flt .f32 a0.Z.bits))]))]⟩ (T4 Tt) [] [2, 3] [2, 3] ⟨tr, tr, tr, tr, tr⟩ (thenQ_normal ?_))
  refine AW.seq (AW.rA ⟨[(2, (vp 2 0))], [(2, (.box [(.c (.flt .f32 a0.X.bits)), (.c (.flt .f32 a0.Y.bits)), (.c (.flt .f32 a0.Z.bits))]))]⟩ (T2 Tt) [] [2] [2] ⟨tr, tr, tr⟩ (thenQ_normal ?_))
  refine AW.ret ?_
  replace h := some_eq h
  subst h
  exact ⟨.inr rfl, retOK_of [(.agg [(.c (.flt .f32 a0.X.bits)), (.c (.flt .f32 a0.Y.bits)), (.c (.flt .f32 a0.Z.bits))])] (by kernel_rfl) ⟨⟨⟨rfl, tr⟩, ⟨rfl, tr⟩, ⟨rfl, tr⟩, tr⟩, tr⟩ (of_decide_eq_true (by kernel_rfl))⟩

/-! laws.toRootKey -/
def laws_toRootKey (K : Nat) (a0 : RootKey) : Option (RootKey) :=
  (laws_toVector K a0.Place).bind fun v1 => some (RootKey.mk a0.At v1)

theorem ok_laws_toRootKey (K : Nat) (a0 : RootKey) (o : (RootKey)) (h : laws_toRootKey K a0 = some o) : CallOK Try.prog 138 [.agg (cs_RootKey a0)] [.agg (cs_RootKey o)] := by
  refine callOK_of_AW Try.func138 rfl (by kernel_rfl) (Nat.le_of_ble_eq_true (by kernel_rfl)) ?_
  intro w0
  unfold laws_toRootKey at h
  refine AW.seq (AW.rA ⟨[(1, (vp 1 0)), (2, (vp 2 0))], [(1, (.box [(.c (.int .i64 a0.At)), (.c (.flt .f32 a0.Place.X.bits)), (.c (.flt .f32 a0.Place.Y.bits)), (.c (.flt .f32 a0.Place.Z.bits))])), (2, (.box [(.c (.int .i64 (0 : Int))), (.c (.flt .f32 (default : F32).bits)), (.c (.flt .f32 (default : F32).bits)), (.c (.flt .f32 (default : F32).bits))]))]⟩ (T2 Tt) [.box 1, .box 2] [1, 2] [1, 2] ⟨tr, tr, tr⟩ (thenQ_normal ?_))
  refine AW.seq (AW.rA ⟨[(1, (vp 1 0)), (2, (vp 2 0)), (3, (vp 3 0))], [(1, (.box [(.c (.int .i64 a0.At)), (.c (.flt .f32 a0.Place.X.bits)), (.c (.flt .f32 a0.Place.Y.bits)), (.c (.flt .f32 a0.Place.Z.bits))])), (2, (.box [(.c (.int .i64 (0 : Int))), (.c (.flt .f32 (default : F32).bits)), (.c (.flt .f32 (default : F32).bits)), (.c (.flt .f32 (default : F32).bits))])), (3, (.box [(.c (.int .i64 (0 : Int))), (.c (.flt .f32 (default : F32).bits)), (.c (.flt .f32 (default : F32).bits)), (.c (.flt .f32 (default : F32).bits))]))]⟩ (Tt ∧ Tt) [.box 3] [1, 2, 3] [1, 2, 3] ⟨tr, tr⟩ (thenQ_normal ?_))
  refine AW.seq (AW.rA ⟨[(1, (vp 1 0)), (2, (vp 2 0)), (3, (vp 3 0))], [(1, (.box [(.c (.int .i64 a0.At)), (.c (.flt .f32 a0.Place.X.bits)), (.c (.flt .f32 a0.Place.Y.bits)), (.c (.flt .f32 a0.Place.Z.bits))])), (2, (.box [(.c (.int .i64 (0 : Int))), (.c (.flt .f32 (default : F32).bits)), (.c (.flt .f32 (default : F32).bits)), (.c (.flt .f32 (default : F32).bits))])), (3, (.box [(.c (.int .i64 a0.At)), (.c (.flt .f32 (default : F32).bits)), (.c (.flt .f32 (default : F32).bits)), (.c (.flt .f32 (default : F32).bits))]))]⟩ (T4 Tt) [] [1, 2, 3] [1, 2, 3] ⟨tr, tr, tr, tr, tr⟩ (thenQ_normal ?_))
  refine AW.seq ?_
  obtain ⟨v1, e2, h⟩ := bind_some h
  refine AW.rA ⟨[(2, (vp 2 0)), (3, (vp 3 0))], [(2, (.box [(.c (.int .i64 (0 : Int))), (.c (.flt .f32 (default : F32).bits)), (.c (.flt .f32 (default : F32).bits)), (.c (.flt .f32 (default : F32).bits))])), (3, (.box [(.c (.int .i64 a0.At)), (.c (.flt .f32 v1.X.bits)), (.c (.flt .f32 v1.Y.bits)), (.c (.flt .f32 v1.Z.bits))]))]⟩ (T2 (((((Eqc (.flt .f32 a0.Place.X.bits)) ∧ (Eqc (.flt .f32 a0.Place.Y.bits)) ∧ (Eqc (.flt .f32 a0.Place.Z.bits)) ∧ Tt) ∧ Tt) ∧ CallOK Try.prog 184 [.agg (cs_Vector a0.Place)] [.agg (cs_Vector v1)]) ∧ T2 Tt)) [.no, .no, .call [.agg (cs_Vector a0.Place)] [.agg (cs_Vector v1)] [[.view, .view, .view]]] [2, 3] [2, 3] ⟨tr, tr, ⟨⟨⟨rfl, rfl, rfl, tr⟩, tr⟩, ok_laws_toVector K a0.Place v1 e2⟩, tr, tr, tr⟩ ?_
  refine thenQ_normal ?_
  refine AW.seq (AW.rA ⟨[(2, (vp 2 0))], [(2, (.box [(.c (.int .i64 a0.At)), (.c (.flt .f32 v1.X.bits)), (.c (.flt .f32 v1.Y.bits)), (.c (.flt .f32 v1.Z.bits))]))]⟩ (T2 Tt) [] [2] [2] ⟨tr, tr, tr⟩ (thenQ_normal ?_))
  refine AW.ret ?_
  replace h := some_eq h
  subst h
  exact ⟨.inr rfl, retOK_of [(.agg [(.c (.int .i64 a0.At)), (.c (.flt .f32 v1.X.bits)), (.c (.flt .f32 v1.Y.bits)), (.c (.flt .f32 v1.Z.bits))])] (by kernel_rfl) ⟨⟨⟨rfl, tr⟩, ⟨rfl, tr⟩, ⟨rfl, tr⟩, ⟨rfl, tr⟩, tr⟩, tr⟩ (of_decide_eq_true (by kernel_rfl))⟩

/-! laws.toRootKeyS -/
def laws_toRootKeyS_l1 (K : Nat) (a0 : (List RootKey)) : Nat → Int → (List RootKey) → Option ((List RootKey))
  | 0, _, _ => none
  | k + 1, x4, x5 => ite2 ((decide (x4 < (a0.length : Int)))) (chk (0 ≤ x4 ∧ x4 < (a0.length : Int)) ((laws_toRootKey K (a0.getD x4.toNat default)).bind fun v8 => chk (0 ≤ x4 ∧ x4 < (x5.length : Int)) (laws_toRootKeyS_l1 K a0 k (IntKind.i64.wrap (x4 + (1 : Int))) (x5.set x4.toNat v8)))) (some x5)

def laws_toRootKeyS (K : Nat) (a0 : (List RootKey)) : Option ((List RootKey)) :=
  chk (0 ≤ (a0.length : Int) ∧ (a0.length : Int).toNat * 24 ≤ 140737488355328) (laws_toRootKeyS_l1 K a0 K (0 : Int) (List.replicate (a0.length : Int).toNat (default : RootKey)))

theorem ok_laws_toRootKeyS (K : Nat) (a0 : (List RootKey)) (o : ((List RootKey))) (h : laws_toRootKeyS K a0 = some o) : CallOK Try.prog 62 [.one (sl 4 cs_RootKey a0)] [.one (sl 4 cs_RootKey o)] := by
  refine callOK_of_AW Try.func62 rfl (by kernel_rfl) (Nat.le_of_ble_eq_true (by kernel_rfl)) ?_
  intro w0
  unfold laws_toRootKeyS at h
  refine AW.seq (AW.rA ⟨[(0, (vc (sl 4 cs_RootKey a0)))], []⟩ (Tt ∧ Tt) [] [0] [] ⟨tr, tr⟩ (thenQ_normal ?_))
  refine AW.seq ?_
  obtain ⟨c1, h⟩ := chk_some h
  refine AW.rA ⟨[(0, (vc (sl 4 cs_RootKey a0))), (3, (.v (.one (.arr 1))))], [(1, (.arr false (List.replicate (a0.length : Int).toNat (default : RootKey)).length 4 (gl cs_RootKey (List.replicate (a0.length : Int).toNat (default : RootKey)))))]⟩ (T2 ((0 ≤ (a0.length : Int) ∧ (a0.length : Int) = (a0.length : Int) ∧ (((List.replicate (a0.length : Int).toNat (default : RootKey)).length : Nat) : Int) = (a0.length : Int) ∧ (List.replicate (a0.length : Int).toNat (default : RootKey)).length * 24 ≤ 140737488355328 ∧ ∀ i, i < (List.replicate (a0.length : Int).toNat (default : RootKey)).length → zeroRow (fun _ => none) [(.c (.int .i64 (0 : Int))), (.c (.flt .f32 (default : F32).bits)), (.c (.flt .f32 (default : F32).bits)), (.c (.flt .f32 (default : F32).bits))] (gl cs_RootKey (List.replicate (a0.length : Int).toNat (default : RootKey)) i)) ∧ Tt ∧ Tt)) [.no, .no, .objA 1 (List.replicate (a0.length : Int).toNat (default : RootKey)).length (gl cs_RootKey (List.replicate (a0.length : Int).toNat (default : RootKey)))] [0, 3] [1] ⟨tr, tr, ⟨c1.1, rfl, len_rep c1.1, rep_bytes c1.2, fun i hi => gl_zero (cs := cs_RootKey) (zs := [(.c (.int .i64 (0 : Int))), (.c (.flt .f32 (default : F32).bits)), (.c (.flt .f32 (default : F32).bits)), (.c (.flt .f32 (default : F32).bits))]) (n := (a0.length : Int).toNat) ⟨⟨rfl, tr⟩, ⟨rfl, tr⟩, ⟨rfl, tr⟩, ⟨rfl, tr⟩, tr⟩ i (rep_lt hi)⟩, tr, tr⟩ ?_
  refine thenQ_normal ?_
  refine AW.seq ?_
  refine AW.seq (AW.rA ⟨[(0, (vc (sl 4 cs_RootKey a0))), (3, (.v (.one (.arr 1)))), (4, (vc (.int .i64 (0 : Int))))], [(1, (.arr false (List.replicate (a0.length : Int).toNat (default : RootKey)).length 4 (gl cs_RootKey (List.replicate (a0.length : Int).toNat (default : RootKey)))))]⟩ (Tt ∧ Tt) [] [0, 3, 4] [1] ⟨tr, tr⟩ (thenQ_normal ?_))
  refine AW.block ?_
  refine AW.loopQ (σ := Nat × Int × (List RootKey)) (fun p => ⟨[(0, (vc (sl 4 cs_RootKey a0))), (3, (.v (.one (.arr 1)))), (4, (vc (.int .i64 p.2.1)))], [(1, (.arr false p.2.2.length 4 (gl cs_RootKey p.2.2)))]⟩) (fun p => laws_toRootKeyS_l1 K a0 p.1 p.2.1 p.2.2 = some o) (fun p => p.1) (K, (0 : Int), (List.replicate (a0.length : Int).toNat (default : RootKey))) h ?_
  clear h
  rintro ⟨k, x4, x5⟩ h
  replace h : laws_toRootKeyS_l1 K a0 k x4 x5 = some o := h
  show AW _ _ (⟨[(0, (vc (sl 4 cs_RootKey a0))), (3, (.v (.one (.arr 1)))), (4, (vc (.int .i64 x4)))], [(1, (.arr false x5.length 4 (gl cs_RootKey x5)))]⟩ : St) _
  obtain _ | k := k
  · rw [laws_toRootKeyS_l1] at h; cases h
  rw [laws_toRootKeyS_l1] at h
  refine AW.seq ?_
  refine AW.seq (AW.rA ⟨[(0, (vc (sl 4 cs_RootKey a0))), (3, (.v (.one (.arr 1)))), (4, (vc (.int .i64 x4))), (11, (vc (.bool (decide (x4 < (a0.length : Int))))))], [(1, (.arr false x5.length 4 (gl cs_RootKey x5)))]⟩ (T4 Tt) [] [0, 3, 4, 11] [1] ⟨tr, tr, tr, tr, tr⟩ (thenQ_normal ?_))
  rcases ite2_cases h with ⟨b6, h⟩ | ⟨b6, h⟩
  · refine AW.cond_t rfl b6 ?_
    refine AW.skip ?_
    refine thenQ_normal ?_
    refine AW.seq ?_
    refine AW.block ?_
    obtain ⟨c7, h⟩ := chk_some h
    obtain ⟨v8, e9, h⟩ := bind_some h
    obtain ⟨c10, h⟩ := chk_some h
    refine AW.rA ⟨[(0, (vc (sl 4 cs_RootKey a0))), (3, (.v (.one (.arr 1)))), (4, (vc (.int .i64 x4)))], [(1, (.arr false (x5.set x4.toNat v8).length 4 (gl cs_RootKey (x5.set x4.toNat v8))))]⟩ (T4 ((0 ≤ x4 ∧ x4 < (a0.length : Int)) ∧ Tt ∧ ((((Eqc (.int .i64 ((a0.getD x4.toNat default).At))) ∧ (Eqc (.flt .f32 (((a0.getD x4.toNat default).Place).X).bits)) ∧ (Eqc (.flt .f32 (((a0.getD x4.toNat default).Place).Y).bits)) ∧ (Eqc (.flt .f32 (((a0.getD x4.toNat default).Place).Z).bits)) ∧ Tt) ∧ Tt) ∧ CallOK Try.prog 138 [.agg (cs_RootKey (a0.getD x4.toNat default))] [.agg (cs_RootKey v8)]) ∧ (0 ≤ x4 ∧ x4 < (x5.length : Int)) ∧ ((x5.set x4.toNat v8).length = x5.length ∧ SetOb x5.length 4 x4.toNat 0 4 (gl cs_RootKey x5) (gl cs_RootKey (x5.set x4.toNat v8)) ∧ ((List.range 4).map fun j => (cs_RootKey v8).getD (0 + j) .nilptr) = ((List.range 4).map fun j => gl cs_RootKey (x5.set x4.toNat v8) x4.toNat (0 + j)) ∧ ((((.int .i64 v8.At) : C) = (.int .i64 v8.At) ∧ Tt) ∧ (((.flt .f32 v8.Place.X.bits) : C) = (.flt .f32 v8.Place.X.bits) ∧ Tt) ∧ (((.flt .f32 v8.Place.Y.bits) : C) = (.flt .f32 v8.Place.Y.bits) ∧ Tt) ∧ (((.flt .f32 v8.Place.Z.bits) : C) = (.flt .f32 v8.Place.Z.bits) ∧ Tt) ∧ Tt) ∧ (false = true → ∀ j, j < 4 → isSeq (gl cs_RootKey x5 x4.toNat (0 + j)) = false ∧ isSeq (gl cs_RootKey (x5.set x4.toNat v8) x4.toNat (0 + j)) = false)) ∧ Tt)) [.no, .no, .no, .no, .no, .no, .call [.agg (cs_RootKey (a0.getD x4.toNat default))] [.agg (cs_RootKey v8)] [[.view, .view, .view, .view]], .no, .set (x5.set x4.toNat v8).length (gl cs_RootKey (x5.set x4.toNat v8)) ((List.range 4).map fun j => (cs_RootKey v8).getD (0 + j) .nilptr)] [0, 3, 4] [1] ⟨tr, tr, tr, tr, c7, tr, ⟨⟨⟨rfl, rfl, rfl, rfl, tr⟩, tr⟩, ok_laws_toRootKey K (a0.getD x4.toNat default) v8 e9⟩, c10, ⟨List.length_set, gl_set, (gl_atp (lt_of_bound c10)).symm, ⟨⟨rfl, tr⟩, ⟨rfl, tr⟩, ⟨rfl, tr⟩, ⟨rfl, tr⟩, tr⟩, (fun h => nomatch h)⟩, tr⟩ ?_
    refine blockQ_normal ?_
    refine thenQ_normal ?_
    refine AW.rA ⟨[(0, (vc (sl 4 cs_RootKey a0))), (3, (.v (.one (.arr 1)))), (4, (vc (.int .i64 (IntKind.i64.wrap (x4 + (1 : Int))))))], [(1, (.arr false (x5.set x4.toNat v8).length 4 (gl cs_RootKey (x5.set x4.toNat v8))))]⟩ (Tt ∧ T2 Tt) [] [0, 3, 4] [1] ⟨tr, tr, tr, tr⟩ ?_
    exact loopQ_normal (k, (IntKind.i64.wrap (x4 + (1 : Int))), (x5.set x4.toNat v8)) h (Nat.lt_succ_self k) (Sub.keep [0, 3, 4] [1] (by kernel_rfl) (by kernel_rfl))
  · refine AW.cond_f rfl b6 ?_
    refine AW.exit ?_
    refine thenQ_exit ?_
    refine loopQ_exit ?_
    refine blockQ_exit ?_
    refine thenQ_normal ?_
    refine AW.seq (AW.rA ⟨[(2, (.v (.one (.arr 1))))], [(1, (.arr false x5.length 4 (gl cs_RootKey x5)))]⟩ (T2 Tt) [] [2] [1] ⟨tr, tr, tr⟩ (thenQ_normal ?_))
    refine AW.ret ?_
    replace h := some_eq h
    subst h
    exact ⟨.inr rfl, retOK_of [(.one (.arr 1))] (by kernel_rfl) ⟨rfl, tr⟩ (of_decide_eq_true (by kernel_rfl))⟩

/-! laws.toClip -/
def laws_toClip (K : Nat) (a0 : Clip) : Option (Clip) :=
  (laws_toKeySS K a0.Tracks).bind fun v1 => (laws_toRootKeyS K a0.Roots).bind fun v3 => some (Clip.mk a0.Length a0.Kind v1 v3)

theorem ok_laws_toClip (K : Nat) (a0 : Clip) (o : (Clip)) (h : laws_toClip K a0 = some o) : CallOK Try.prog 13 [.agg (cs_Clip a0)] [.agg (cs_Clip o)] := by
  refine callOK_of_AW Try.func13 rfl (by kernel_rfl) (Nat.le_of_ble_eq_true (by kernel_rfl)) ?_
  intro w0
  unfold laws_toClip at h
  refine AW.seq (AW.rA ⟨[(1, (vp 1 0)), (2, (vp 2 0))], [(1, (.box [(.c (.int .i64 a0.Length)), (.c (.int .i64 a0.Kind)), (.c (sl 1 (csL 5 cs_Key) a0.Tracks)), (.c (sl 4 cs_RootKey a0.Roots))])), (2, (.box [(.c (.int .i64 (0 : Int))), (.c (.int .i64 (0 : Int))), .nils, .nils]))]⟩ (T2 Tt) [.box 1, .box 2] [1, 2] [1, 2] ⟨tr, tr, tr⟩ (thenQ_normal ?_))
  refine AW.seq (AW.rA ⟨[(1, (vp 1 0)), (2, (vp 2 0)), (3, (vp 3 0))], [(1, (.box [(.c (.int .i64 a0.Length)), (.c (.int .i64 a0.Kind)), (.c (sl 1 (csL 5 cs_Key) a0.Tracks)), (.c (sl 4 cs_RootKey a0.Roots))])), (2, (.box [(.c (.int .i64 (0 : Int))), (.c (.int .i64 (0 : Int))), .nils, .nils])), (3, (.box [(.c (.int .i64 (0 : Int))), (.c (.int .i64 (0 : Int))), .nils, .nils]))]⟩ (Tt ∧ Tt) [.box 3] [1, 2, 3] [1, 2, 3] ⟨tr, tr⟩ (thenQ_normal ?_))
  refine AW.seq (AW.rA ⟨[(1, (vp 1 0)), (2, (vp 2 0)), (3, (vp 3 0))], [(1, (.box [(.c (.int .i64 a0.Length)), (.c (.int .i64 a0.Kind)), (.c (sl 1 (csL 5 cs_Key) a0.Tracks)), (.c (sl 4 cs_RootKey a0.Roots))])), (2, (.box [(.c (.int .i64 (0 : Int))), (.c (.int .i64 (0 : Int))), .nils, .nils])), (3, (.box [(.c (.int .i64 a0.Length)), (.c (.int .i64 (0 : Int))), .nils, .nils]))]⟩ (T4 Tt) [] [1, 2, 3] [1, 2, 3] ⟨tr, tr, tr, tr, tr⟩ (thenQ_normal ?_))
  refine AW.seq (AW.rA ⟨[(1, (vp 1 0)), (2, (vp 2 0)), (3, (vp 3 0))], [(1, (.box [(.c (.int .i64 a0.Length)), (.c (.int .i64 a0.Kind)), (.c (sl 1 (csL 5 cs_Key) a0.Tracks)), (.c (sl 4 cs_RootKey a0.Roots))])), (2, (.box [(.c (.int .i64 (0 : Int))), (.c (.int .i64 (0 : Int))), .nils, .nils])), (3, (.box [(.c (.int .i64 a0.Length)), (.c (.int .i64 a0.Kind)), .nils, .nils]))]⟩ (T4 Tt) [] [1, 2, 3] [1, 2, 3] ⟨tr, tr, tr, tr, tr⟩ (thenQ_normal ?_))
  refine AW.seq ?_
  obtain ⟨v1, e2, h⟩ := bind_some h
  refine AW.rA ⟨[(1, (vp 1 0)), (2, (vp 2 0)), (3, (vp 3 0))], [(1, (.box [(.c (.int .i64 a0.Length)), (.c (.int .i64 a0.Kind)), (.c (sl 1 (csL 5 cs_Key) a0.Tracks)), (.c (sl 4 cs_RootKey a0.Roots))])), (2, (.box [(.c (.int .i64 (0 : Int))), (.c (.int .i64 (0 : Int))), .nils, .nils])), (3, (.box [(.c (.int .i64 a0.Length)), (.c (.int .i64 a0.Kind)), (.lst 4 v1.length 1 (gl (csL 5 cs_Key) v1)), .nils])), (4, (.lst v1.length 1 (gl (csL 5 cs_Key) v1)))]⟩ (T2 ((((Eqc (sl 1 (csL 5 cs_Key) a0.Tracks)) ∧ Tt) ∧ CallOK Try.prog 61 [.one (sl 1 (csL 5 cs_Key) a0.Tracks)] [.one (sl 1 (csL 5 cs_Key) v1)]) ∧ T2 Tt)) [.no, .no, .call [.one (sl 1 (csL 5 cs_Key) a0.Tracks)] [.one (sl 1 (csL 5 cs_Key) v1)] [[.lst 4]]] [1, 2, 3] [1, 2, 3, 4] ⟨tr, tr, ⟨⟨rfl, tr⟩, ok_laws_toKeySS K a0.Tracks v1 e2⟩, tr, tr, tr⟩ ?_
  refine thenQ_normal ?_
  refine AW.seq ?_
  obtain ⟨v3, e4, h⟩ := bind_some h
  refine AW.rA ⟨[(2, (vp 2 0)), (3, (vp 3 0))], [(2, (.box [(.c (.int .i64 (0 : Int))), (.c (.int .i64 (0 : Int))), .nils, .nils])), (3, (.box [(.c (.int .i64 a0.Length)), (.c (.int .i64 a0.Kind)), (.lst 4 v1.length 1 (gl (csL 5 cs_Key) v1)), (.lst 5 v3.length 4 (gl cs_RootKey v3))])), (4, (.lst v1.length 1 (gl (csL 5 cs_Key) v1))), (5, (.lst v3.length 4 (gl cs_RootKey v3)))]⟩ (T2 ((((Eqc (sl 4 cs_RootKey a0.Roots)) ∧ Tt) ∧ CallOK Try.prog 62 [.one (sl 4 cs_RootKey a0.Roots)] [.one (sl 4 cs_RootKey v3)]) ∧ T2 Tt)) [.no, .no, .call [.one (sl 4 cs_RootKey a0.Roots)] [.one (sl 4 cs_RootKey v3)] [[.lst 5]]] [2, 3] [2, 3, 4, 5] ⟨tr, tr, ⟨⟨rfl, tr⟩, ok_laws_toRootKeyS K a0.Roots v3 e4⟩, tr, tr, tr⟩ ?_
  refine thenQ_normal ?_
  refine AW.seq (AW.rA ⟨[(2, (vp 2 0))], [(2, (.box [(.c (.int .i64 a0.Length)), (.c (.int .i64 a0.Kind)), (.lst 4 v1.length 1 (gl (csL 5 cs_Key) v1)), (.lst 5 v3.length 4 (gl cs_RootKey v3))])), (4, (.lst v1.length 1 (gl (csL 5 cs_Key) v1))), (5, (.lst v3.length 4 (gl cs_RootKey v3)))]⟩ (T2 Tt) [] [2] [2, 4, 5] ⟨tr, tr, tr⟩ (thenQ_normal ?_))
  refine AW.ret ?_
  replace h := some_eq h
  subst h
  exact ⟨.inr rfl, retOK_of [(.agg [(.c (.int .i64 a0.Length)), (.c (.int .i64 a0.Kind)), (.lst 4 v1.length 1 (gl (csL 5 cs_Key) v1)), (.lst 5 v3.length 4 (gl cs_RootKey v3))])] (by kernel_rfl) ⟨⟨⟨rfl, tr⟩, ⟨rfl, tr⟩, rfl, rfl, tr⟩, tr⟩ (of_decide_eq_true (by kernel_rfl))⟩

/-! spec.l00In -/
def spec_l00In (_K : Nat) (a0 : Int) (a1 : Int) (a2 : Int) : Option (Bool) :=
  (ite2 ((decide (a0 ≥ a1))) (some (decide (a0 ≤ a2))) (some false)).bind fun j2 => some j2

theorem ok_spec_l00In (K : Nat) (a0 : Int) (a1 : Int) (a2 : Int) (o : (Bool)) (h : spec_l00In K a0 a1 a2 = some o) : CallOK Try.prog 74 [.one (.int .i64 a0), .one (.int .i64 a1), .one (.int .i64 a2)] [.one (.bool o)] := by
  refine callOK_of_AW Try.func74 rfl (by kernel_rfl) (Nat.le_of_ble_eq_true (by kernel_rfl)) ?_
  intro w0
  unfold spec_l00In at h
  refine AW.seq (AW.rA ⟨[(0, (vc (.int .i64 a0))), (1, (vc (.int .i64 a1))), (2, (vc (.int .i64 a2)))], []⟩ (Tt ∧ Tt) [] [0, 1, 2] [] ⟨tr, tr⟩ (thenQ_normal ?_))
  refine AW.seq ?_
  obtain ⟨j2, e3, h⟩ := bind_some h
  refine AW.join1 (s2 := ⟨[(6, (vc (.bool j2)))], []⟩) ?_ ?_
  · rcases ite2_cases e3 with ⟨b1, e3⟩ | ⟨b1, e3⟩
    · replace e3 := some_eq e3
      subst e3
      exact AW.rA ⟨[(6, (vc (.bool (decide (a0 ≤ a2)))))], []⟩ (Tt ∧ T2 ((Tt ∧ (decide (a0 ≥ a1)) = true) ∧ Tt ∧ T4 Tt)) [.no, .no, .no, .dec true] [6] [] ⟨tr, tr, tr, ⟨tr, b1⟩, tr, tr, tr, tr, tr, tr⟩ ⟨rfl, rfl⟩
    · replace e3 := some_eq e3
      subst e3
      exact AW.rA ⟨[(6, (vc (.bool false)))], []⟩ (Tt ∧ T2 ((Tt ∧ (decide (a0 ≥ a1)) = false) ∧ Tt ∧ T4 Tt)) [.no, .no, .no, .dec false] [6] [] ⟨tr, tr, tr, ⟨tr, b1⟩, tr, tr, tr, tr, tr, tr⟩ ⟨rfl, rfl⟩
  refine thenQ_normal ?_
  refine AW.ret ?_
  replace h := some_eq h
  subst h
  exact ⟨.inr rfl, retOK_of [(.one (.c (.bool j2)))] (by kernel_rfl) ⟨⟨rfl, tr⟩, tr⟩ (of_decide_eq_true (by kernel_rfl))⟩

/-! spec.l05At -/
def spec_l05At_l1 (K : Nat) (a0 : (List Key)) : Nat → Int → (List Int) → Option ((List Int))
  | 0, _, _ => none
  | k + 1, x3, x4 => ite2 ((decide (x3 < (a0.length : Int)))) (chk (0 ≤ x3 ∧ x3 < (a0.length : Int)) (chk ((x4.length + ([(a0.getD x3.toNat default).At]).length) * 8 ≤ 140737488355328) (spec_l05At_l1 K a0 k (IntKind.i64.wrap (x3 + (1 : Int))) (x4 ++ ([(a0.getD x3.toNat default).At]))))) (some x4)

def spec_l05At (K : Nat) (a0 : (List Key)) : Option ((List Int)) :=
  spec_l05At_l1 K a0 K (0 : Int) ([] : List Int)

theorem ok_spec_l05At (K : Nat) (a0 : (List Key)) (o : ((List Int))) (h : spec_l05At K a0 = some o) : CallOK Try.prog 135 [.one (sl 5 cs_Key a0)] [.one (sl 1 (csI .i64) o)] := by
  refine callOK_of_AW Try.func135 rfl (by kernel_rfl) (Nat.le_of_ble_eq_true (by kernel_rfl)) ?_
  intro w0
  unfold spec_l05At at h
  refine AW.seq (AW.rA ⟨[(0, (vc (sl 5 cs_Key a0)))], []⟩ (Tt ∧ Tt) [] [0] [] ⟨tr, tr⟩ (thenQ_normal ?_))
  refine AW.seq (AW.rA ⟨[(0, (vc (sl 5 cs_Key a0))), (3, (.v (.one (.lst 1 ([] : List Int).length 1 (gl (csI .i64) ([] : List Int))))))], [(1, (.lst ([] : List Int).length 1 (gl (csI .i64) ([] : List Int))))]⟩ ((([] : List Int).length = 0 ∧ Tt) ∧ Tt ∧ Tt) [.obj 1 ([] : List Int).length (gl (csI .i64) ([] : List Int))] [0, 3] [1] ⟨⟨rfl, tr⟩, tr, tr⟩ (thenQ_normal ?_))
  refine AW.seq ?_
  refine AW.seq (AW.rA ⟨[(0, (vc (sl 5 cs_Key a0))), (3, (.v (.one (.lst 1 ([] : List Int).length 1 (gl (csI .i64) ([] : List Int)))))), (7, (vc (.int .i64 (a0.length : Int)))), (8, (vc (.int .i64 (0 : Int))))], [(1, (.lst ([] : List Int).length 1 (gl (csI .i64) ([] : List Int))))]⟩ (Tt ∧ T2 Tt) [] [0, 3, 7, 8] [1] ⟨tr, tr, tr, tr⟩ (thenQ_normal ?_))
  refine AW.block ?_
  refine AW.loopQ (σ := Nat × Int × (List Int)) (fun p => ⟨[(0, (vc (sl 5 cs_Key a0))), (3, (.v (.one (.lst 1 p.2.2.length 1 (gl (csI .i64) p.2.2))))), (7, (vc (.int .i64 (a0.length : Int)))), (8, (vc (.int .i64 p.2.1)))], [(1, (.lst p.2.2.length 1 (gl (csI .i64) p.2.2)))]⟩) (fun p => spec_l05At_l1 K a0 p.1 p.2.1 p.2.2 = some o) (fun p => p.1) (K, (0 : Int), ([] : List Int)) h ?_
  clear h
  rintro ⟨k, x3, x4⟩ h
  replace h : spec_l05At_l1 K a0 k x3 x4 = some o := h
  show AW _ _ (⟨[(0, (vc (sl 5 cs_Key a0))), (3, (.v (.one (.lst 1 x4.length 1 (gl (csI .i64) x4))))), (7, (vc (.int .i64 (a0.length : Int)))), (8, (vc (.int .i64 x3)))], [(1, (.lst x4.length 1 (gl (csI .i64) x4)))]⟩ : St) _
  obtain _ | k := k
  · rw [spec_l05At_l1] at h; cases h
  rw [spec_l05At_l1] at h
  refine AW.seq (AW.rA ⟨[(0, (vc (sl 5 cs_Key a0))), (3, (.v (.one (.lst 1 x4.length 1 (gl (csI .i64) x4))))), (7, (vc (.int .i64 (a0.length : Int)))), (8, (vc (.int .i64 x3))), (9, (vc (.bool (decide (x3 < (a0.length : Int))))))], [(1, (.lst x4.length 1 (gl (csI .i64) x4)))]⟩ (Tt ∧ Tt) [] [0, 3, 7, 8, 9] [1] ⟨tr, tr⟩ (thenQ_normal ?_))
  refine AW.seq ?_
  rcases ite2_cases h with ⟨b5, h⟩ | ⟨b5, h⟩
  · refine AW.cond_t rfl b5 ?_
    refine AW.skip ?_
    refine thenQ_normal ?_
    refine AW.seq ?_
    refine AW.block ?_
    refine AW.seq (AW.rA ⟨[(0, (vc (sl 5 cs_Key a0))), (3, (.v (.one (.lst 1 x4.length 1 (gl (csI .i64) x4))))), (4, (vc (.int .i64 x3))), (7, (vc (.int .i64 (a0.length : Int)))), (8, (vc (.int .i64 x3)))], [(1, (.lst x4.length 1 (gl (csI .i64) x4)))]⟩ (T2 Tt) [] [0, 3, 4, 7, 8] [1] ⟨tr, tr, tr⟩ (thenQ_normal ?_))
    obtain ⟨c6, h⟩ := chk_some h
    obtain ⟨c7, h⟩ := chk_some h
    refine AW.rA ⟨[(0, (vc (sl 5 cs_Key a0))), (3, (.v (.one (.lst 7 (x4 ++ ([(a0.getD x3.toNat default).At])).length 1 (gl (csI .i64) (x4 ++ ([(a0.getD x3.toNat default).At]))))))), (7, (vc (.int .i64 (a0.length : Int)))), (8, (vc (.int .i64 x3)))], [(7, (.lst (x4 ++ ([(a0.getD x3.toNat default).At])).length 1 (gl (csI .i64) (x4 ++ ([(a0.getD x3.toNat default).At])))))]⟩ (Tt ∧ T2 ((0 ≤ x3 ∧ x3 < (a0.length : Int)) ∧ T2 ((([(a0.getD x3.toNat default).At]).length = 1 ∧ (((.int .i64 ((a0.getD x3.toNat default).At)) : C) = (.int .i64 ((a0.getD x3.toNat default).At)) ∧ Tt) ∧ Tt) ∧ ((x4 ++ ([(a0.getD x3.toNat default).At])).length = x4.length + ([(a0.getD x3.toNat default).At]).length ∧ AppOb (x4.length) (([(a0.getD x3.toNat default).At]).length) 1 (gl (csI .i64) x4) (gl (csI .i64) ([(a0.getD x3.toNat default).At])) (gl (csI .i64) (x4 ++ ([(a0.getD x3.toNat default).At]))) ∧ (∀ i j, i < ([(a0.getD x3.toNat default).At]).length → j < 1 → scalarC (gl (csI .i64) ([(a0.getD x3.toNat default).At]) i j)) ∧ (x4.length + ([(a0.getD x3.toNat default).At]).length) * 8 ≤ 140737488355328) ∧ Tt ∧ Tt))) [.no, .no, .no, .no, .no, .no, .obj 6 ([(a0.getD x3.toNat default).At]).length (gl (csI .i64) ([(a0.getD x3.toNat default).At])), .objK 7 (x4 ++ ([(a0.getD x3.toNat default).At])).length (gl (csI .i64) (x4 ++ ([(a0.getD x3.toNat default).At])))] [0, 3, 7, 8] [7] ⟨tr, tr, tr, c6, tr, tr, ⟨rfl, ⟨⟨rfl, tr⟩, tr⟩⟩, ⟨List.length_append, gl_append, gl_scalar scI _, c7⟩, tr, tr⟩ ?_
    refine blockQ_normal ?_
    refine thenQ_normal ?_
    refine AW.rA ⟨[(0, (vc (sl 5 cs_Key a0))), (3, (.v (.one (.lst 7 (x4 ++ ([(a0.getD x3.toNat default).At])).length 1 (gl (csI .i64) (x4 ++ ([(a0.getD x3.toNat default).At]))))))), (7, (vc (.int .i64 (a0.length : Int)))), (8, (vc (.int .i64 (IntKind.i64.wrap (x3 + (1 : Int))))))], [(7, (.lst (x4 ++ ([(a0.getD x3.toNat default).At])).length 1 (gl (csI .i64) (x4 ++ ([(a0.getD x3.toNat default).At])))))]⟩ (T2 Tt) [] [0, 3, 7, 8] [7] ⟨tr, tr, tr⟩ ?_
    exact loopQ_normal (k, (IntKind.i64.wrap (x3 + (1 : Int))), (x4 ++ ([(a0.getD x3.toNat default).At]))) h (Nat.lt_succ_self k) (Sub.trans (Sub.swap 1 7 _ (by kernel_rfl) (by kernel_rfl)) (Sub.keep [0, 3, 7, 8] [1] (by kernel_rfl) (by kernel_rfl)))
  · refine AW.cond_f rfl b5 ?_
    refine AW.exit ?_
    refine thenQ_exit ?_
    refine loopQ_exit ?_
    refine blockQ_exit ?_
    refine thenQ_normal ?_
    refine AW.seq (AW.rA ⟨[(2, (.v (.one (.lst 1 x4.length 1 (gl (csI .i64) x4)))))], [(1, (.lst x4.length 1 (gl (csI .i64) x4)))]⟩ (T2 Tt) [] [2] [1] ⟨tr, tr, tr⟩ (thenQ_normal ?_))
    refine AW.ret ?_
    replace h := some_eq h
    subst h
    exact ⟨.inr rfl, retOK_of [(.one (.lst 1 x4.length 1 (gl (csI .i64) x4)))] (by kernel_rfl) ⟨rfl, tr⟩ (of_decide_eq_true (by kernel_rfl))⟩

/-! spec.l05Times -/
def spec_l05Times_l1 (K : Nat) (a0 : (List Int)) (a1 : Int) : Nat → Int → Option (Bool)
  | 0, _ => none
  | k + 1, x2 => ite2 ((decide (x2 < (a0.length : Int)))) (chk (0 ≤ x2 ∧ x2 < (a0.length : Int)) ((spec_l00In K (a0.getD x2.toNat default) (0 : Int) a1).bind fun v5 => (ite2 ((!v5)) (some true) (ite2 ((decide (x2 > (0 : Int)))) (chk (0 ≤ (IntKind.i64.wrap (x2 - (1 : Int))) ∧ (IntKind.i64.wrap (x2 - (1 : Int))) < (a0.length : Int)) (some (decide ((a0.getD ((IntKind.i64.wrap (x2 - (1 : Int))).toNat) default) ≥ (a0.getD x2.toNat default))))) (some false))).bind fun j10 => ite2 (j10) (some false) (spec_l05Times_l1 K a0 a1 k (IntKind.i64.wrap (x2 + (1 : Int)))))) ((ite2 ((decide ((a0.length : Int) ≥ (1 : Int)))) (some (decide ((a0.length : Int) ≤ (12 : Int)))) (some false)).bind fun j14 => some j14)

def spec_l05Times (K : Nat) (a0 : (List Int)) (a1 : Int) : Option (Bool) :=
  spec_l05Times_l1 K a0 a1 K (0 : Int)

theorem ok_spec_l05Times (K : Nat) (a0 : (List Int)) (a1 : Int) (o : (Bool)) (h : spec_l05Times K a0 a1 = some o) : CallOK Try.prog 134 [.one (sl 1 (csI .i64) a0), .one (.int .i64 a1)] [.one (.bool o)] := by
  refine callOK_of_AW Try.func134 rfl (by kernel_rfl) (Nat.le_of_ble_eq_true (by kernel_rfl)) ?_
  intro w0
  unfold spec_l05Times at h
  refine AW.seq (AW.rA ⟨[(0, (vc (sl 1 (csI .i64) a0))), (1, (vc (.int .i64 a1)))], []⟩ (Tt ∧ Tt) [] [0, 1] [] ⟨tr, tr⟩ (thenQ_normal ?_))
  refine AW.seq ?_
  refine AW.seq (AW.rA ⟨[(0, (vc (sl 1 (csI .i64) a0))), (1, (vc (.int .i64 a1))), (7, (vc (.int .i64 (a0.length : Int)))), (8, (vc (.int .i64 (0 : Int))))], []⟩ (Tt ∧ T2 Tt) [] [0, 1, 7, 8] [] ⟨tr, tr, tr, tr⟩ (thenQ_normal ?_))
  refine AW.block ?_
  refine AW.loopQ (σ := Nat × Int) (fun p => ⟨[(0, (vc (sl 1 (csI .i64) a0))), (1, (vc (.int .i64 a1))), (7, (vc (.int .i64 (a0.length : Int)))), (8, (vc (.int .i64 p.2)))], []⟩) (fun p => spec_l05Times_l1 K a0 a1 p.1 p.2 = some o) (fun p => p.1) (K, (0 : Int)) h ?_
  clear h
  rintro ⟨k, x2⟩ h
  replace h : spec_l05Times_l1 K a0 a1 k x2 = some o := h
  show AW _ _ (⟨[(0, (vc (sl 1 (csI .i64) a0))), (1, (vc (.int .i64 a1))), (7, (vc (.int .i64 (a0.length : Int)))), (8, (vc (.int .i64 x2)))], []⟩ : St) _
  obtain _ | k := k
  · rw [spec_l05Times_l1] at h; cases h
  rw [spec_l05Times_l1] at h
  refine AW.seq (AW.rA ⟨[(0, (vc (sl 1 (csI .i64) a0))), (1, (vc (.int .i64 a1))), (7, (vc (.int .i64 (a0.length : Int)))), (8, (vc (.int .i64 x2))), (9, (vc (.bool (decide (x2 < (a0.length : Int))))))], []⟩ (Tt ∧ Tt) [] [0, 1, 7, 8, 9] [] ⟨tr, tr⟩ (thenQ_normal ?_))
  refine AW.seq ?_
  rcases ite2_cases h with ⟨b3, h⟩ | ⟨b3, h⟩
  · refine AW.cond_t rfl b3 ?_
    refine AW.skip ?_
    refine thenQ_normal ?_
    refine AW.seq ?_
    refine AW.block ?_
    refine AW.seq (AW.rA ⟨[(0, (vc (sl 1 (csI .i64) a0))), (1, (vc (.int .i64 a1))), (5, (vc (.int .i64 x2))), (7, (vc (.int .i64 (a0.length : Int)))), (8, (vc (.int .i64 x2)))], []⟩ (T2 Tt) [] [0, 1, 5, 7, 8] [] ⟨tr, tr, tr⟩ (thenQ_normal ?_))
    refine AW.seq ?_
    obtain ⟨c4, h⟩ := chk_some h
    obtain ⟨v5, e6, h⟩ := bind_some h
    obtain ⟨j10, e11, h⟩ := bind_some h
    refine AW.join1 (s2 := ⟨[(0, (vc (sl 1 (csI .i64) a0))), (1, (vc (.int .i64 a1))), (7, (vc (.int .i64 (a0.length : Int)))), (8, (vc (.int .i64 x2))), (33, (vc (.bool j10)))], []⟩) ?_ ?_
    · rcases ite2_cases e11 with ⟨b7, e11⟩ | ⟨b7, e11⟩
      · replace e11 := some_eq e11
        subst e11
        exact AW.dA ⟨[(0, (vc (sl 1 (csI .i64) a0))), (1, (vc (.int .i64 a1))), (7, (vc (.int .i64 (a0.length : Int)))), (8, (vc (.int .i64 x2))), (33, (vc (.bool true)))], []⟩ ((T2 ((0 ≤ x2 ∧ x2 < (a0.length : Int)) ∧ T2 ((((Eqc (.int .i64 (a0.getD x2.toNat default))) ∧ (Eqc (.int .i64 (0 : Int))) ∧ (Eqc (.int .i64 a1)) ∧ Tt) ∧ CallOK Try.prog 74 [.one (.int .i64 (a0.getD x2.toNat default)), .one (.int .i64 (0 : Int)), .one (.int .i64 a1)] [.one (.bool v5)]) ∧ Tt ∧ (Tt ∧ (!v5) = true) ∧ Tt ∧ T2 (T4 (T4 (T4 Tt)))))) ∧ (Tt)) 23 [.no, .no, .no, .no, .no, .call [.one (.int .i64 (a0.getD x2.toNat default)), .one (.int .i64 (0 : Int)), .one (.int .i64 a1)] [.one (.bool v5)] [[.view]], .no, .dec true] [0, 1, 7, 8, 33] [] ⟨⟨tr, tr, c4, tr, tr, ⟨⟨rfl, rfl, rfl, tr⟩, ok_spec_l00In K (a0.getD x2.toNat default) (0 : Int) a1 v5 e6⟩, tr, ⟨tr, b7⟩, tr, tr, tr, tr, tr, tr, tr, tr, tr, tr, tr, tr, tr, tr, tr, tr⟩, tr⟩ ⟨rfl, rfl⟩
      · rcases ite2_cases e11 with ⟨b8, e11⟩ | ⟨b8, e11⟩
        · obtain ⟨c9, e11⟩ := chk_some e11
          replace e11 := some_eq e11
          subst e11
          exact AW.dA ⟨[(0, (vc (sl 1 (csI .i64) a0))), (1, (vc (.int .i64 a1))), (7, (vc (.int .i64 (a0.length : Int)))), (8, (vc (.int .i64 x2))), (33, (vc (.bool (decide ((a0.getD ((IntKind.i64.wrap (x2 - (1 : Int))).toNat) default) ≥ (a0.getD x2.toNat default))))))], []⟩ ((T2 ((0 ≤ x2 ∧ x2 < (a0.length : Int)) ∧ T2 ((((Eqc (.int .i64 (a0.getD x2.toNat default))) ∧ (Eqc (.int .i64 (0 : Int))) ∧ (Eqc (.int .i64 a1)) ∧ Tt) ∧ CallOK Try.prog 74 [.one (.int .i64 (a0.getD x2.toNat default)), .one (.int .i64 (0 : Int)), .one (.int .i64 a1)] [.one (.bool v5)]) ∧ Tt ∧ (Tt ∧ (!v5) = false) ∧ T2 ((Tt ∧ (decide (x2 > (0 : Int))) = true) ∧ Tt ∧ T2 ((0 ≤ (IntKind.i64.wrap (x2 - (1 : Int))) ∧ (IntKind.i64.wrap (x2 - (1 : Int))) < (a0.length : Int)) ∧ Tt ∧ T2 ((0 ≤ x2 ∧ x2 < (a0.length : Int)) ∧ T4 Tt)))))) ∧ (Tt)) 23 [.no, .no, .no, .no, .no, .call [.one (.int .i64 (a0.getD x2.toNat default)), .one (.int .i64 (0 : Int)), .one (.int .i64 a1)] [.one (.bool v5)] [[.view]], .no, .dec false, .no, .no, .dec true] [0, 1, 7, 8, 33] [] ⟨⟨tr, tr, c4, tr, tr, ⟨⟨rfl, rfl, rfl, tr⟩, ok_spec_l00In K (a0.getD x2.toNat default) (0 : Int) a1 v5 e6⟩, tr, ⟨tr, b7⟩, tr, tr, ⟨tr, b8⟩, tr, tr, tr, c9, tr, tr, tr, c4, tr, tr, tr, tr, tr⟩, tr⟩ ⟨rfl, rfl⟩
        · replace e11 := some_eq e11
          subst e11
          exact AW.dA ⟨[(0, (vc (sl 1 (csI .i64) a0))), (1, (vc (.int .i64 a1))), (7, (vc (.int .i64 (a0.length : Int)))), (8, (vc (.int .i64 x2))), (33, (vc (.bool false)))], []⟩ ((T2 ((0 ≤ x2 ∧ x2 < (a0.length : Int)) ∧ T2 ((((Eqc (.int .i64 (a0.getD x2.toNat default))) ∧ (Eqc (.int .i64 (0 : Int))) ∧ (Eqc (.int .i64 a1)) ∧ Tt) ∧ CallOK Try.prog 74 [.one (.int .i64 (a0.getD x2.toNat default)), .one (.int .i64 (0 : Int)), .one (.int .i64 a1)] [.one (.bool v5)]) ∧ Tt ∧ (Tt ∧ (!v5) = false) ∧ T2 ((Tt ∧ (decide (x2 > (0 : Int))) = false) ∧ T4 (T4 (T4 Tt)))))) ∧ (Tt)) 23 [.no, .no, .no, .no, .no, .call [.one (.int .i64 (a0.getD x2.toNat default)), .one (.int .i64 (0 : Int)), .one (.int .i64 a1)] [.one (.bool v5)] [[.view]], .no, .dec false, .no, .no, .dec false] [0, 1, 7, 8, 33] [] ⟨⟨tr, tr, c4, tr, tr, ⟨⟨rfl, rfl, rfl, tr⟩, ok_spec_l00In K (a0.getD x2.toNat default) (0 : Int) a1 v5 e6⟩, tr, ⟨tr, b7⟩, tr, tr, ⟨tr, b8⟩, tr, tr, tr, tr, tr, tr, tr, tr, tr, tr, tr, tr, tr⟩, tr⟩ ⟨rfl, rfl⟩
    refine thenQ_normal ?_
    rcases ite2_cases h with ⟨b12, h⟩ | ⟨b12, h⟩
    · refine AW.cond_t rfl b12 ?_
      refine AW.seq (AW.rA ⟨[(4, (vc (.bool false)))], []⟩ (Tt ∧ Tt) [] [4] [] ⟨tr, tr⟩ (thenQ_normal ?_))
      refine AW.ret ?_
      refine blockQ_ret ?_
      refine thenQ_ret ?_
      refine loopQ_ret ?_
      refine blockQ_ret ?_
      refine thenQ_ret ?_
      replace h := some_eq h
      subst h
      exact ⟨.inr rfl, retOK_of [(.one (.c (.bool false)))] (by kernel_rfl) ⟨⟨rfl, tr⟩, tr⟩ (of_decide_eq_true (by kernel_rfl))⟩
    · refine AW.cond_f rfl b12 ?_
      refine AW.skip ?_
      refine blockQ_normal ?_
      refine thenQ_normal ?_
      refine AW.rA ⟨[(0, (vc (sl 1 (csI .i64) a0))), (1, (vc (.int .i64 a1))), (7, (vc (.int .i64 (a0.length : Int)))), (8, (vc (.int .i64 (IntKind.i64.wrap (x2 + (1 : Int))))))], []⟩ (T2 Tt) [] [0, 1, 7, 8] [] ⟨tr, tr, tr⟩ ?_
      exact loopQ_normal (k, (IntKind.i64.wrap (x2 + (1 : Int)))) h (Nat.lt_succ_self k) (Sub.keep [0, 1, 7, 8] [] (by kernel_rfl) (by kernel_rfl))
  · refine AW.cond_f rfl b3 ?_
    refine AW.exit ?_
    refine thenQ_exit ?_
    refine loopQ_exit ?_
    refine blockQ_exit ?_
    refine thenQ_normal ?_
    refine AW.seq ?_
    obtain ⟨j14, e15, h⟩ := bind_some h
    refine AW.join1 (s2 := ⟨[(4, (vc (.bool j14)))], []⟩) ?_ ?_
    · rcases ite2_cases e15 with ⟨b13, e15⟩ | ⟨b13, e15⟩
      · replace e15 := some_eq e15
        subst e15
        exact AW.rA ⟨[(4, (vc (.bool (decide ((a0.length : Int) ≤ (12 : Int))))))], []⟩ (Tt ∧ T2 ((Tt ∧ (decide ((a0.length : Int) ≥ (1 : Int))) = true) ∧ Tt ∧ T4 Tt)) [.no, .no, .no, .dec true] [4] [] ⟨tr, tr, tr, ⟨tr, b13⟩, tr, tr, tr, tr, tr, tr⟩ ⟨rfl, rfl⟩
      · replace e15 := some_eq e15
        subst e15
        exact AW.rA ⟨[(4, (vc (.bool false)))], []⟩ (Tt ∧ T2 ((Tt ∧ (decide ((a0.length : Int) ≥ (1 : Int))) = false) ∧ Tt ∧ T4 Tt)) [.no, .no, .no, .dec false] [4] [] ⟨tr, tr, tr, ⟨tr, b13⟩, tr, tr, tr, tr, tr, tr⟩ ⟨rfl, rfl⟩
    refine thenQ_normal ?_
    refine AW.ret ?_
    replace h := some_eq h
    subst h
    exact ⟨.inr rfl, retOK_of [(.one (.c (.bool j14)))] (by kernel_rfl) ⟨⟨rfl, tr⟩, tr⟩ (of_decide_eq_true (by kernel_rfl))⟩

/-! spec.l05RootAt -/
def spec_l05RootAt_l1 (K : Nat) (a0 : (List RootKey)) : Nat → Int → (List Int) → Option ((List Int))
  | 0, _, _ => none
  | k + 1, x3, x4 => ite2 ((decide (x3 < (a0.length : Int)))) (chk (0 ≤ x3 ∧ x3 < (a0.length : Int)) (chk ((x4.length + ([(a0.getD x3.toNat default).At]).length) * 8 ≤ 140737488355328) (spec_l05RootAt_l1 K a0 k (IntKind.i64.wrap (x3 + (1 : Int))) (x4 ++ ([(a0.getD x3.toNat default).At]))))) (some x4)

def spec_l05RootAt (K : Nat) (a0 : (List RootKey)) : Option ((List Int)) :=
  spec_l05RootAt_l1 K a0 K (0 : Int) ([] : List Int)

theorem ok_spec_l05RootAt (K : Nat) (a0 : (List RootKey)) (o : ((List Int))) (h : spec_l05RootAt K a0 = some o) : CallOK Try.prog 136 [.one (sl 4 cs_RootKey a0)] [.one (sl 1 (csI .i64) o)] := by
  refine callOK_of_AW Try.func136 rfl (by kernel_rfl) (Nat.le_of_ble_eq_true (by kernel_rfl)) ?_
  intro w0
  unfold spec_l05RootAt at h
  refine AW.seq (AW.rA ⟨[(0, (vc (sl 4 cs_RootKey a0)))], []⟩ (Tt ∧ Tt) [] [0] [] ⟨tr, tr⟩ (thenQ_normal ?_))
  refine AW.seq (AW.rA ⟨[(0, (vc (sl 4 cs_RootKey a0))), (3, (.v (.one (.lst 1 ([] : List Int).length 1 (gl (csI .i64) ([] : List Int))))))], [(1, (.lst ([] : List Int).length 1 (gl (csI .i64) ([] : List Int))))]⟩ ((([] : List Int).length = 0 ∧ Tt) ∧ Tt ∧ Tt) [.obj 1 ([] : List Int).length (gl (csI .i64) ([] : List Int))] [0, 3] [1] ⟨⟨rfl, tr⟩, tr, tr⟩ (thenQ_normal ?_))
  refine AW.seq ?_
  refine AW.seq (AW.rA ⟨[(0, (vc (sl 4 cs_RootKey a0))), (3, (.v (.one (.lst 1 ([] : List Int).length 1 (gl (csI .i64) ([] : List Int)))))), (7, (vc (.int .i64 (a0.length : Int)))), (8, (vc (.int .i64 (0 : Int))))], [(1, (.lst ([] : List Int).length 1 (gl (csI .i64) ([] : List Int))))]⟩ (Tt ∧ T2 Tt) [] [0, 3, 7, 8] [1] ⟨tr, tr, tr, tr⟩ (thenQ_normal ?_))
  refine AW.block ?_
  refine AW.loopQ (σ := Nat × Int × (List Int)) (fun p => ⟨[(0, (vc (sl 4 cs_RootKey a0))), (3, (.v (.one (.lst 1 p.2.2.length 1 (gl (csI .i64) p.2.2))))), (7, (vc (.int .i64 (a0.length : Int)))), (8, (vc (.int .i64 p.2.1)))], [(1, (.lst p.2.2.length 1 (gl (csI .i64) p.2.2)))]⟩) (fun p => spec_l05RootAt_l1 K a0 p.1 p.2.1 p.2.2 = some o) (fun p => p.1) (K, (0 : Int), ([] : List Int)) h ?_
  clear h
  rintro ⟨k, x3, x4⟩ h
  replace h : spec_l05RootAt_l1 K a0 k x3 x4 = some o := h
  show AW _ _ (⟨[(0, (vc (sl 4 cs_RootKey a0))), (3, (.v (.one (.lst 1 x4.length 1 (gl (csI .i64) x4))))), (7, (vc (.int .i64 (a0.length : Int)))), (8, (vc (.int .i64 x3)))], [(1, (.lst x4.length 1 (gl (csI .i64) x4)))]⟩ : St) _
  obtain _ | k := k
  · rw [spec_l05RootAt_l1] at h; cases h
  rw [spec_l05RootAt_l1] at h
  refine AW.seq (AW.rA ⟨[(0, (vc (sl 4 cs_RootKey a0))), (3, (.v (.one (.lst 1 x4.length 1 (gl (csI .i64) x4))))), (7, (vc (.int .i64 (a0.length : Int)))), (8, (vc (.int .i64 x3))), (9, (vc (.bool (decide (x3 < (a0.length : Int))))))], [(1, (.lst x4.length 1 (gl (csI .i64) x4)))]⟩ (Tt ∧ Tt) [] [0, 3, 7, 8, 9] [1] ⟨tr, tr⟩ (thenQ_normal ?_))
  refine AW.seq ?_
  rcases ite2_cases h with ⟨b5, h⟩ | ⟨b5, h⟩
  · refine AW.cond_t rfl b5 ?_
    refine AW.skip ?_
    refine thenQ_normal ?_
    refine AW.seq ?_
    refine AW.block ?_
    refine AW.seq (AW.rA ⟨[(0, (vc (sl 4 cs_RootKey a0))), (3, (.v (.one (.lst 1 x4.length 1 (gl (csI .i64) x4))))), (4, (vc (.int .i64 x3))), (7, (vc (.int .i64 (a0.length : Int)))), (8, (vc (.int .i64 x3)))], [(1, (.lst x4.length 1 (gl (csI .i64) x4)))]⟩ (T2 Tt) [] [0, 3, 4, 7, 8] [1] ⟨tr, tr, tr⟩ (thenQ_normal ?_))
    obtain ⟨c6, h⟩ := chk_some h
    obtain ⟨c7, h⟩ := chk_some h
    refine AW.rA ⟨[(0, (vc (sl 4 cs_RootKey a0))), (3, (.v (.one (.lst 7 (x4 ++ ([(a0.getD x3.toNat default).At])).length 1 (gl (csI .i64) (x4 ++ ([(a0.getD x3.toNat default).At]))))))), (7, (vc (.int .i64 (a0.length : Int)))), (8, (vc (.int .i64 x3)))], [(7, (.lst (x4 ++ ([(a0.getD x3.toNat default).At])).length 1 (gl (csI .i64) (x4 ++ ([(a0.getD x3.toNat default).At])))))]⟩ (Tt ∧ T2 ((0 ≤ x3 ∧ x3 < (a0.length : Int)) ∧ T2 ((([(a0.getD x3.toNat default).At]).length = 1 ∧ (((.int .i64 ((a0.getD x3.toNat default).At)) : C) = (.int .i64 ((a0.getD x3.toNat default).At)) ∧ Tt) ∧ Tt) ∧ ((x4 ++ ([(a0.getD x3.toNat default).At])).length = x4.length + ([(a0.getD x3.toNat default).At]).length ∧ AppOb (x4.length) (([(a0.getD x3.toNat default).At]).length) 1 (gl (csI .i64) x4) (gl (csI .i64) ([(a0.getD x3.toNat default).At])) (gl (csI .i64) (x4 ++ ([(a0.getD x3.toNat default).At]))) ∧ (∀ i j, i < ([(a0.getD x3.toNat default).At]).length → j < 1 → scalarC (gl (csI .i64) ([(a0.getD x3.toNat default).At]) i j)) ∧ (x4.length + ([(a0.getD x3.toNat default).At]).length) * 8 ≤ 140737488355328) ∧ Tt ∧ Tt))) [.no, .no, .no, .no, .no, .no, .obj 6 ([(a0.getD x3.toNat default).At]).length (gl (csI .i64) ([(a0.getD x3.toNat default).At])), .objK 7 (x4 ++ ([(a0.getD x3.toNat default).At])).length (gl (csI .i64) (x4 ++ ([(a0.getD x3.toNat default).At])))] [0, 3, 7, 8] [7] ⟨tr, tr, tr, c6, tr, tr, ⟨rfl, ⟨⟨rfl, tr⟩, tr⟩⟩, ⟨List.length_append, gl_append, gl_scalar scI _, c7⟩, tr, tr⟩ ?_
    refine blockQ_normal ?_
    refine thenQ_normal ?_
    refine AW.rA ⟨[(0, (vc (sl 4 cs_RootKey a0))), (3, (.v (.one (.lst 7 (x4 ++ ([(a0.getD x3.toNat default).At])).length 1 (gl (csI .i64) (x4 ++ ([(a0.getD x3.toNat default).At]))))))), (7, (vc (.int .i64 (a0.length : Int)))), (8, (vc (.int .i64 (IntKind.i64.wrap (x3 + (1 : Int))))))], [(7, (.lst (x4 ++ ([(a0.getD x3.toNat default).At])).length 1 (gl (csI .i64) (x4 ++ ([(a0.getD x3.toNat default).At])))))]⟩ (T2 Tt) [] [0, 3, 7, 8] [7] ⟨tr, tr, tr⟩ ?_
    exact loopQ_normal (k, (IntKind.i64.wrap (x3 + (1 : Int))), (x4 ++ ([(a0.getD x3.toNat default).At]))) h (Nat.lt_succ_self k) (Sub.trans (Sub.swap 1 7 _ (by kernel_rfl) (by kernel_rfl)) (Sub.keep [0, 3, 7, 8] [1] (by kernel_rfl) (by kernel_rfl)))
  · refine AW.cond_f rfl b5 ?_
    refine AW.exit ?_
    refine thenQ_exit ?_
    refine loopQ_exit ?_
    refine blockQ_exit ?_
    refine thenQ_normal ?_
    refine AW.seq (AW.rA ⟨[(2, (.v (.one (.lst 1 x4.length 1 (gl (csI .i64) x4)))))], [(1, (.lst x4.length 1 (gl (csI .i64) x4)))]⟩ (T2 Tt) [] [2] [1] ⟨tr, tr, tr⟩ (thenQ_normal ?_))
    refine AW.ret ?_
    replace h := some_eq h
    subst h
    exact ⟨.inr rfl, retOK_of [(.one (.lst 1 x4.length 1 (gl (csI .i64) x4)))] (by kernel_rfl) ⟨rfl, tr⟩ (of_decide_eq_true (by kernel_rfl))⟩

/-! spec.l05Is -/
def spec_l05Is_l1 (K : Nat) (a0 : Clip) : Nat → Int → Option (Bool)
  | 0, _ => none
  | k + 1, x12 => ite2 ((decide (x12 < (a0.Tracks.length : Int)))) (chk (0 ≤ x12 ∧ x12 < (a0.Tracks.length : Int)) ((spec_l05At K (a0.Tracks.getD x12.toNat default)).bind fun v15 => (spec_l05Times K v15 a0.Length).bind fun v17 => ite2 ((!v17)) (some false) (spec_l05Is_l1 K a0 k (IntKind.i64.wrap (x12 + (1 : Int)))))) ((spec_l05RootAt K a0.Roots).bind fun v20 => (spec_l05Times K v20 a0.Length).bind fun v22 => some v22)

def spec_l05Is (K : Nat) (a0 : Clip) : Option (Bool) :=
  (spec_l00In K a0.Length (1 : Int) (1000 : Int)).bind fun v1 => (ite2 ((!v1)) (some true) ((spec_l00In K a0.Kind (0 : Int) (2 : Int)).bind fun v4 => ite2 ((!v4)) (some true) (ite2 ((decide ((a0.Tracks.length : Int) < (1 : Int)))) (some true) (some (decide ((a0.Tracks.length : Int) > (12 : Int))))))).bind fun j8 => ite2 (j8) (some false) (spec_l05Is_l1 K a0 K (0 : Int))

theorem ok_spec_l05Is (K : Nat) (a0 : Clip) (o : (Bool)) (h : spec_l05Is K a0 = some o) : CallOK Try.prog 60 [.one (pl 4 cs_Clip a0)] [.one (.bool o)] := by
  refine callOK_of_AW Try.func60 rfl (by kernel_rfl) (Nat.le_of_ble_eq_true (by kernel_rfl)) ?_
  intro w0
  unfold spec_l05Is at h
  refine AW.seq (AW.rA ⟨[(0, (vc (pl 4 cs_Clip a0)))], []⟩ (Tt ∧ Tt) [] [0] [] ⟨tr, tr⟩ (thenQ_normal ?_))
  refine AW.seq ?_
  refine AW.seq ?_
  obtain ⟨v1, e2, h⟩ := bind_some h
  obtain ⟨j8, e9, h⟩ := bind_some h
  refine AW.join1 (s2 := ⟨[(0, (vc (pl 4 cs_Clip a0))), (33, (vc (.bool j8)))], []⟩) ?_ ?_
  · rcases ite2_cases e9 with ⟨b3, e9⟩ | ⟨b3, e9⟩
    · replace e9 := some_eq e9
      subst e9
      exact AW.rA ⟨[(0, (vc (pl 4 cs_Clip a0))), (33, (vc (.bool true)))], []⟩ (T4 ((((Eqc (.int .i64 a0.Length)) ∧ (Eqc (.int .i64 (1 : Int))) ∧ (Eqc (.int .i64 (1000 : Int))) ∧ Tt) ∧ CallOK Try.prog 74 [.one (.int .i64 a0.Length), .one (.int .i64 (1 : Int)), .one (.int .i64 (1000 : Int))] [.one (.bool v1)]) ∧ Tt ∧ (Tt ∧ (!v1) = true) ∧ Tt ∧ T2 (T4 (T4 (T4 (T4 (T4 Tt))))))) [.no, .no, .no, .no, .call [.one (.int .i64 a0.Length), .one (.int .i64 (1 : Int)), .one (.int .i64 (1000 : Int))] [.one (.bool v1)] [[.view]], .no, .dec true] [0, 33] [] ⟨tr, tr, tr, tr, ⟨⟨rfl, rfl, rfl, tr⟩, ok_spec_l00In K a0.Length (1 : Int) (1000 : Int) v1 e2⟩, tr, ⟨tr, b3⟩, tr, tr, tr, tr, tr, tr, tr, tr, tr, tr, tr, tr, tr, tr, tr, tr, tr, tr, tr, tr, tr, tr, tr, tr⟩ ⟨rfl, rfl⟩
    · obtain ⟨v4, e5, e9⟩ := bind_some e9
      rcases ite2_cases e9 with ⟨b6, e9⟩ | ⟨b6, e9⟩
      · replace e9 := some_eq e9
        subst e9
        exact AW.rA ⟨[(0, (vc (pl 4 cs_Clip a0))), (33, (vc (.bool true)))], []⟩ (T4 ((((Eqc (.int .i64 a0.Length)) ∧ (Eqc (.int .i64 (1 : Int))) ∧ (Eqc (.int .i64 (1000 : Int))) ∧ Tt) ∧ CallOK Try.prog 74 [.one (.int .i64 a0.Length), .one (.int .i64 (1 : Int)), .one (.int .i64 (1000 : Int))] [.one (.bool v1)]) ∧ Tt ∧ (Tt ∧ (!v1) = false) ∧ T4 ((((Eqc (.int .i64 a0.Kind)) ∧ (Eqc (.int .i64 (0 : Int))) ∧ (Eqc (.int .i64 (2 : Int))) ∧ Tt) ∧ CallOK Try.prog 74 [.one (.int .i64 a0.Kind), .one (.int .i64 (0 : Int)), .one (.int .i64 (2 : Int))] [.one (.bool v4)]) ∧ T2 ((Tt ∧ (!v4) = true) ∧ Tt ∧ T2 (T4 (T4 (T4 Tt))))))) [.no, .no, .no, .no, .call [.one (.int .i64 a0.Length), .one (.int .i64 (1 : Int)), .one (.int .i64 (1000 : Int))] [.one (.bool v1)] [[.view]], .no, .dec false, .no, .no, .no, .no, .call [.one (.int .i64 a0.Kind), .one (.int .i64 (0 : Int)), .one (.int .i64 (2 : Int))] [.one (.bool v4)] [[.view]], .no, .no, .dec true] [0, 33] [] ⟨tr, tr, tr, tr, ⟨⟨rfl, rfl, rfl, tr⟩, ok_spec_l00In K a0.Length (1 : Int) (1000 : Int) v1 e2⟩, tr, ⟨tr, b3⟩, tr, tr, tr, tr, ⟨⟨rfl, rfl, rfl, tr⟩, ok_spec_l00In K a0.Kind (0 : Int) (2 : Int) v4 e5⟩, tr, tr, ⟨tr, b6⟩, tr, tr, tr, tr, tr, tr, tr, tr, tr, tr, tr, tr, tr, tr, tr, tr⟩ ⟨rfl, rfl⟩
      · rcases ite2_cases e9 with ⟨b7, e9⟩ | ⟨b7, e9⟩
        · replace e9 := some_eq e9
          subst e9
          exact AW.rA ⟨[(0, (vc (pl 4 cs_Clip a0))), (33, (vc (.bool true)))], []⟩ (T4 ((((Eqc (.int .i64 a0.Length)) ∧ (Eqc (.int .i64 (1 : Int))) ∧ (Eqc (.int .i64 (1000 : Int))) ∧ Tt) ∧ CallOK Try.prog 74 [.one (.int .i64 a0.Length), .one (.int .i64 (1 : Int)), .one (.int .i64 (1000 : Int))] [.one (.bool v1)]) ∧ Tt ∧ (Tt ∧ (!v1) = false) ∧ T4 ((((Eqc (.int .i64 a0.Kind)) ∧ (Eqc (.int .i64 (0 : Int))) ∧ (Eqc (.int .i64 (2 : Int))) ∧ Tt) ∧ CallOK Try.prog 74 [.one (.int .i64 a0.Kind), .one (.int .i64 (0 : Int)), .one (.int .i64 (2 : Int))] [.one (.bool v4)]) ∧ T2 ((Tt ∧ (!v4) = false) ∧ Tt ∧ T2 (T4 ((Tt ∧ (decide ((a0.Tracks.length : Int) < (1 : Int))) = true) ∧ Tt ∧ T2 (T4 Tt))))))) [.no, .no, .no, .no, .call [.one (.int .i64 a0.Length), .one (.int .i64 (1 : Int)), .one (.int .i64 (1000 : Int))] [.one (.bool v1)] [[.view]], .no, .dec false, .no, .no, .no, .no, .call [.one (.int .i64 a0.Kind), .one (.int .i64 (0 : Int)), .one (.int .i64 (2 : Int))] [.one (.bool v4)] [[.view]], .no, .no, .dec false, .no, .no, .no, .no, .no, .no, .no, .dec true] [0, 33] [] ⟨tr, tr, tr, tr, ⟨⟨rfl, rfl, rfl, tr⟩, ok_spec_l00In K a0.Length (1 : Int) (1000 : Int) v1 e2⟩, tr, ⟨tr, b3⟩, tr, tr, tr, tr, ⟨⟨rfl, rfl, rfl, tr⟩, ok_spec_l00In K a0.Kind (0 : Int) (2 : Int) v4 e5⟩, tr, tr, ⟨tr, b6⟩, tr, tr, tr, tr, tr, tr, tr, ⟨tr, b7⟩, tr, tr, tr, tr, tr, tr, tr, tr⟩ ⟨rfl, rfl⟩
        · replace e9 := some_eq e9
          subst e9
          exact AW.rA ⟨[(0, (vc (pl 4 cs_Clip a0))), (33, (vc (.bool (decide ((a0.Tracks.length : Int) > (12 : Int))))))], []⟩ (T4 ((((Eqc (.int .i64 a0.Length)) ∧ (Eqc (.int .i64 (1 : Int))) ∧ (Eqc (.int .i64 (1000 : Int))) ∧ Tt) ∧ CallOK Try.prog 74 [.one (.int .i64 a0.Length), .one (.int .i64 (1 : Int)), .one (.int .i64 (1000 : Int))] [.one (.bool v1)]) ∧ Tt ∧ (Tt ∧ (!v1) = false) ∧ T4 ((((Eqc (.int .i64 a0.Kind)) ∧ (Eqc (.int .i64 (0 : Int))) ∧ (Eqc (.int .i64 (2 : Int))) ∧ Tt) ∧ CallOK Try.prog 74 [.one (.int .i64 a0.Kind), .one (.int .i64 (0 : Int)), .one (.int .i64 (2 : Int))] [.one (.bool v4)]) ∧ T2 ((Tt ∧ (!v4) = false) ∧ Tt ∧ T2 (T4 ((Tt ∧ (decide ((a0.Tracks.length : Int) < (1 : Int))) = false) ∧ Tt ∧ T2 (T4 Tt))))))) [.no, .no, .no, .no, .call [.one (.int .i64 a0.Length), .one (.int .i64 (1 : Int)), .one (.int .i64 (1000 : Int))] [.one (.bool v1)] [[.view]], .no, .dec false, .no, .no, .no, .no, .call [.one (.int .i64 a0.Kind), .one (.int .i64 (0 : Int)), .one (.int .i64 (2 : Int))] [.one (.bool v4)] [[.view]], .no, .no, .dec false, .no, .no, .no, .no, .no, .no, .no, .dec false] [0, 33] [] ⟨tr, tr, tr, tr, ⟨⟨rfl, rfl, rfl, tr⟩, ok_spec_l00In K a0.Length (1 : Int) (1000 : Int) v1 e2⟩, tr, ⟨tr, b3⟩, tr, tr, tr, tr, ⟨⟨rfl, rfl, rfl, tr⟩, ok_spec_l00In K a0.Kind (0 : Int) (2 : Int) v4 e5⟩, tr, tr, ⟨tr, b6⟩, tr, tr, tr, tr, tr, tr, tr, ⟨tr, b7⟩, tr, tr, tr, tr, tr, tr, tr, tr⟩ ⟨rfl, rfl⟩
  refine thenQ_normal ?_
  rcases ite2_cases h with ⟨b10, h⟩ | ⟨b10, h⟩
  · refine AW.cond_t rfl b10 ?_
    refine AW.seq (AW.rA ⟨[(2, (vc (.bool false)))], []⟩ (Tt ∧ Tt) [] [2] [] ⟨tr, tr⟩ (thenQ_normal ?_))
    refine AW.ret ?_
    refine thenQ_ret ?_
    replace h := some_eq h
    subst h
    exact ⟨.inr rfl, retOK_of [(.one (.c (.bool false)))] (by kernel_rfl) ⟨⟨rfl, tr⟩, tr⟩ (of_decide_eq_true (by kernel_rfl))⟩
  · refine AW.cond_f rfl b10 ?_
    refine AW.skip ?_
    refine thenQ_normal ?_
    refine AW.seq ?_
    refine AW.seq (AW.rA ⟨[(0, (vc (pl 4 cs_Clip a0))), (38, (vc (.int .i64 (a0.Tracks.length : Int)))), (39, (vc (.int .i64 (0 : Int))))], []⟩ (T2 (T4 Tt)) [] [0, 38, 39] [] ⟨tr, tr, tr, tr, tr, tr, tr⟩ (thenQ_normal ?_))
    refine AW.block ?_
    refine AW.loopQ (σ := Nat × Int) (fun p => ⟨[(0, (vc (pl 4 cs_Clip a0))), (38, (vc (.int .i64 (a0.Tracks.length : Int)))), (39, (vc (.int .i64 p.2)))], []⟩) (fun p => spec_l05Is_l1 K a0 p.1 p.2 = some o) (fun p => p.1) (K, (0 : Int)) h ?_
    clear h
    rintro ⟨k, x12⟩ h
    replace h : spec_l05Is_l1 K a0 k x12 = some o := h
    show AW _ _ (⟨[(0, (vc (pl 4 cs_Clip a0))), (38, (vc (.int .i64 (a0.Tracks.length : Int)))), (39, (vc (.int .i64 x12)))], []⟩ : St) _
    obtain _ | k := k
    · rw [spec_l05Is_l1] at h; cases h
    rw [spec_l05Is_l1] at h
    refine AW.seq (AW.rA ⟨[(0, (vc (pl 4 cs_Clip a0))), (38, (vc (.int .i64 (a0.Tracks.length : Int)))), (39, (vc (.int .i64 x12))), (40, (vc (.bool (decide (x12 < (a0.Tracks.length : Int))))))], []⟩ (Tt ∧ Tt) [] [0, 38, 39, 40] [] ⟨tr, tr⟩ (thenQ_normal ?_))
    refine AW.seq ?_
    rcases ite2_cases h with ⟨b13, h⟩ | ⟨b13, h⟩
    · refine AW.cond_t rfl b13 ?_
      refine AW.skip ?_
      refine thenQ_normal ?_
      refine AW.seq ?_
      refine AW.block ?_
      refine AW.seq (AW.rA ⟨[(0, (vc (pl 4 cs_Clip a0))), (3, (vc (.int .i64 x12))), (38, (vc (.int .i64 (a0.Tracks.length : Int)))), (39, (vc (.int .i64 x12)))], []⟩ (T2 Tt) [] [0, 3, 38, 39] [] ⟨tr, tr, tr⟩ (thenQ_normal ?_))
      refine AW.seq ?_
      obtain ⟨c14, h⟩ := chk_some h
      obtain ⟨v15, e16, h⟩ := bind_some h
      obtain ⟨v17, e18, h⟩ := bind_some h
      refine AW.dA ⟨[(0, (vc (pl 4 cs_Clip a0))), (38, (vc (.int .i64 (a0.Tracks.length : Int)))), (39, (vc (.int .i64 x12))), (55, (vc (.bool (!v17))))], []⟩ ((Tt ∧ T4 ((0 ≤ x12 ∧ x12 < (a0.Tracks.length : Int)) ∧ Tt ∧ (((Eqc (sl 5 cs_Key (a0.Tracks.getD x12.toNat default))) ∧ Tt) ∧ CallOK Try.prog 135 [.one (sl 5 cs_Key (a0.Tracks.getD x12.toNat default))] [.one (sl 1 (csI .i64) v15)]) ∧ T4 ((((Eqc (sl 1 (csI .i64) v15)) ∧ (Eqc (.int .i64 a0.Length)) ∧ Tt) ∧ CallOK Try.prog 134 [.one (sl 1 (csI .i64) v15), .one (.int .i64 a0.Length)] [.one (.bool v17)]) ∧ Tt ∧ Tt))) ∧ (Tt)) 14 [.no, .no, .no, .no, .no, .no, .no, .call [.one (sl 5 cs_Key (a0.Tracks.getD x12.toNat default))] [.one (sl 1 (csI .i64) v15)] [[.lst 3]], .no, .no, .no, .no, .call [.one (sl 1 (csI .i64) v15), .one (.int .i64 a0.Length)] [.one (.bool v17)] [[.view]]] [0, 38, 39, 55] [] ⟨⟨tr, tr, tr, tr, tr, c14, tr, ⟨⟨rfl, tr⟩, ok_spec_l05At K (a0.Tracks.getD x12.toNat default) v15 e16⟩, tr, tr, tr, tr, ⟨⟨rfl, rfl, tr⟩, ok_spec_l05Times K v15 a0.Length v17 e18⟩, tr, tr⟩, tr⟩ ?_
      refine thenQ_normal ?_
      rcases ite2_cases h with ⟨b19, h⟩ | ⟨b19, h⟩
      · refine AW.cond_t rfl b19 ?_
        refine AW.seq (AW.rA ⟨[(2, (vc (.bool false)))], []⟩ (Tt ∧ Tt) [] [2] [] ⟨tr, tr⟩ (thenQ_normal ?_))
        refine AW.ret ?_
        refine blockQ_ret ?_
        refine thenQ_ret ?_
        refine loopQ_ret ?_
        refine blockQ_ret ?_
        refine thenQ_ret ?_
        replace h := some_eq h
        subst h
        exact ⟨.inr rfl, retOK_of [(.one (.c (.bool false)))] (by kernel_rfl) ⟨⟨rfl, tr⟩, tr⟩ (of_decide_eq_true (by kernel_rfl))⟩
      · refine AW.cond_f rfl b19 ?_
        refine AW.skip ?_
        refine blockQ_normal ?_
        refine thenQ_normal ?_
        refine AW.rA ⟨[(0, (vc (pl 4 cs_Clip a0))), (38, (vc (.int .i64 (a0.Tracks.length : Int)))), (39, (vc (.int .i64 (IntKind.i64.wrap (x12 + (1 : Int))))))], []⟩ (T2 Tt) [] [0, 38, 39] [] ⟨tr, tr, tr⟩ ?_
        exact loopQ_normal (k, (IntKind.i64.wrap (x12 + (1 : Int)))) h (Nat.lt_succ_self k) (Sub.keep [0, 38, 39] [] (by kernel_rfl) (by kernel_rfl))
    · refine AW.cond_f rfl b13 ?_
      refine AW.exit ?_
      refine thenQ_exit ?_
      refine loopQ_exit ?_
      refine blockQ_exit ?_
      refine thenQ_normal ?_
      refine AW.seq ?_
      obtain ⟨v20, e21, h⟩ := bind_some h
      obtain ⟨v22, e23, h⟩ := bind_some h
      refine AW.dA ⟨[(2, (vc (.bool v22)))], []⟩ ((T4 ((((Eqc (sl 4 cs_RootKey a0.Roots)) ∧ Tt) ∧ CallOK Try.prog 136 [.one (sl 4 cs_RootKey a0.Roots)] [.one (sl 1 (csI .i64) v20)]) ∧ T4 ((((Eqc (sl 1 (csI .i64) v20)) ∧ (Eqc (.int .i64 a0.Length)) ∧ Tt) ∧ CallOK Try.prog 134 [.one (sl 1 (csI .i64) v20), .one (.int .i64 a0.Length)] [.one (.bool v22)]) ∧ Tt ∧ Tt))) ∧ (Tt)) 11 [.no, .no, .no, .no, .call [.one (sl 4 cs_RootKey a0.Roots)] [.one (sl 1 (csI .i64) v20)] [[.lst 4]], .no, .no, .no, .no, .call [.one (sl 1 (csI .i64) v20), .one (.int .i64 a0.Length)] [.one (.bool v22)] [[.view]]] [2] [] ⟨⟨tr, tr, tr, tr, ⟨⟨rfl, tr⟩, ok_spec_l05RootAt K a0.Roots v20 e21⟩, tr, tr, tr, tr, ⟨⟨rfl, rfl, tr⟩, ok_spec_l05Times K v20 a0.Length v22 e23⟩, tr, tr⟩, tr⟩ ?_
      refine thenQ_normal ?_
      refine AW.ret ?_
      replace h := some_eq h
      subst h
      exact ⟨.inr rfl, retOK_of [(.one (.c (.bool v22)))] (by kernel_rfl) ⟨⟨rfl, tr⟩, tr⟩ (of_decide_eq_true (by kernel_rfl))⟩

/-! spec.l05Find -/
def spec_l05Find_l1 (K : Nat) (a0 : (List Int)) (a1 : Int) (a2 : Int) : Nat → Int → Option (Int × F32)
  | 0, _ => none
  | k + 1, x2 => (ite2 ((decide ((IntKind.i64.wrap (x2 + (1 : Int))) < (a0.length : Int)))) (chk (0 ≤ (IntKind.i64.wrap (x2 + (1 : Int))) ∧ (IntKind.i64.wrap (x2 + (1 : Int))) < (a0.length : Int)) (some (decide ((a0.getD ((IntKind.i64.wrap (x2 + (1 : Int))).toNat) default) ≤ a1)))) (some false)).bind fun j5 => ite2 (j5) (spec_l05Find_l1 K a0 a1 a2 k (IntKind.i64.wrap (x2 + (1 : Int)))) ((ite2 (((IntKind.i64.wrap (x2 + (1 : Int))) == (a0.length : Int))) (some true) (chk (0 ≤ x2 ∧ x2 < (a0.length : Int)) (ite2 ((decide (a1 ≤ (a0.getD x2.toNat default)))) (some true) (some (a2 == (0 : Int)))))).bind fun j11 => ite2 (j11) (some (x2, (Fl.mk (k := .f32) 0 (by decide)))) (chk (0 ≤ x2 ∧ x2 < (a0.length : Int)) (chk (0 ≤ (IntKind.i64.wrap (x2 + (1 : Int))) ∧ (IntKind.i64.wrap (x2 + (1 : Int))) < (a0.length : Int)) (ite2 ((a2 == (2 : Int))) (some (x2, ((((Fl.ofInt .f32 (IntKind.i64.wrap (a1 - (a0.getD x2.toNat default)))).div (Fl.ofInt .f32 (IntKind.i64.wrap ((a0.getD ((IntKind.i64.wrap (x2 + (1 : Int))).toNat) default) - (a0.getD x2.toNat default))))).mul ((Fl.ofInt .f32 (IntKind.i64.wrap (a1 - (a0.getD x2.toNat default)))).div (Fl.ofInt .f32 (IntKind.i64.wrap ((a0.getD ((IntKind.i64.wrap (x2 + (1 : Int))).toNat) default) - (a0.getD x2.toNat default)))))).mul ((Fl.mk (k := .f32) 1077936128 (by decide)).sub ((Fl.mk (k := .f32) 1073741824 (by decide)).mul ((Fl.ofInt .f32 (IntKind.i64.wrap (a1 - (a0.getD x2.toNat default)))).div (Fl.ofInt .f32 (IntKind.i64.wrap ((a0.getD ((IntKind.i64.wrap (x2 + (1 : Int))).toNat) default) - (a0.getD x2.toNat default)))))))))) (some (x2, ((Fl.ofInt .f32 (IntKind.i64.wrap (a1 - (a0.getD x2.toNat default)))).div (Fl.ofInt .f32 (IntKind.i64.wrap ((a0.getD ((IntKind.i64.wrap (x2 + (1 : Int))).toNat) default) - (a0.getD x2.toNat default)))))))))))

def spec_l05Find (K : Nat) (a0 : (List Int)) (a1 : Int) (a2 : Int) : Option (Int × F32) :=
  spec_l05Find_l1 K a0 a1 a2 K (0 : Int)

theorem ok_spec_l05Find (K : Nat) (a0 : (List Int)) (a1 : Int) (a2 : Int) (o : (Int × F32)) (h : spec_l05Find K a0 a1 a2 = some o) : CallOK Try.prog 156 [.one (sl 1 (csI .i64) a0), .one (.int .i64 a1), .one (.int .i64 a2)] [.one (.int .i64 o.1), .one (.flt .f32 o.2.bits)] := by
  refine callOK_of_AW Try.func156 rfl (by kernel_rfl) (Nat.le_of_ble_eq_true (by kernel_rfl)) ?_
  intro w0
  unfold spec_l05Find at h
  refine AW.seq (AW.rA ⟨[(0, (vc (sl 1 (csI .i64) a0))), (1, (vc (.int .i64 a1))), (2, (vc (.int .i64 a2)))], []⟩ (T2 Tt) [] [0, 1, 2] [] ⟨tr, tr, tr⟩ (thenQ_normal ?_))
  refine AW.seq (AW.rA ⟨[(0, (vc (sl 1 (csI .i64) a0))), (1, (vc (.int .i64 a1))), (2, (vc (.int .i64 a2))), (8, (vc (.int .i64 (0 : Int))))], []⟩ (Tt ∧ Tt) [] [0, 1, 2, 8] [] ⟨tr, tr⟩ (thenQ_normal ?_))
  refine AW.seq ?_
  refine AW.block ?_
  refine AW.loopQ (σ := Nat × Int) (fun p => ⟨[(0, (vc (sl 1 (csI .i64) a0))), (1, (vc (.int .i64 a1))), (2, (vc (.int .i64 a2))), (8, (vc (.int .i64 p.2)))], []⟩) (fun p => spec_l05Find_l1 K a0 a1 a2 p.1 p.2 = some o) (fun p => p.1) (K, (0 : Int)) h ?_
  clear h
  rintro ⟨k, x2⟩ h
  replace h : spec_l05Find_l1 K a0 a1 a2 k x2 = some o := h
  show AW _ _ (⟨[(0, (vc (sl 1 (csI .i64) a0))), (1, (vc (.int .i64 a1))), (2, (vc (.int .i64 a2))), (8, (vc (.int .i64 x2)))], []⟩ : St) _
  obtain _ | k := k
  · rw [spec_l05Find_l1] at h; cases h
  rw [spec_l05Find_l1] at h
  refine AW.seq ?_
  refine AW.seq ?_
  obtain ⟨j5, e6, h⟩ := bind_some h
  refine AW.join1 (s2 := ⟨[(0, (vc (sl 1 (csI .i64) a0))), (1, (vc (.int .i64 a1))), (2, (vc (.int .i64 a2))), (8, (vc (.int .i64 x2))), (23, (vc (.bool j5)))], []⟩) ?_ ?_
  · rcases ite2_cases e6 with ⟨b3, e6⟩ | ⟨b3, e6⟩
    · obtain ⟨c4, e6⟩ := chk_some e6
      replace e6 := some_eq e6
      subst e6
      exact AW.rA ⟨[(0, (vc (sl 1 (csI .i64) a0))), (1, (vc (.int .i64 a1))), (2, (vc (.int .i64 a2))), (8, (vc (.int .i64 x2))), (23, (vc (.bool (decide ((a0.getD ((IntKind.i64.wrap (x2 + (1 : Int))).toNat) default) ≤ a1)))))], []⟩ (Tt ∧ T4 ((Tt ∧ (decide ((IntKind.i64.wrap (x2 + (1 : Int))) < (a0.length : Int))) = true) ∧ Tt ∧ T2 ((0 ≤ (IntKind.i64.wrap (x2 + (1 : Int))) ∧ (IntKind.i64.wrap (x2 + (1 : Int))) < (a0.length : Int)) ∧ T4 Tt))) [.no, .no, .no, .no, .no, .dec true] [0, 1, 2, 8, 23] [] ⟨tr, tr, tr, tr, tr, ⟨tr, b3⟩, tr, tr, tr, c4, tr, tr, tr, tr, tr⟩ ⟨rfl, rfl⟩
    · replace e6 := some_eq e6
      subst e6
      exact AW.rA ⟨[(0, (vc (sl 1 (csI .i64) a0))), (1, (vc (.int .i64 a1))), (2, (vc (.int .i64 a2))), (8, (vc (.int .i64 x2))), (23, (vc (.bool false)))], []⟩ (Tt ∧ T4 ((Tt ∧ (decide ((IntKind.i64.wrap (x2 + (1 : Int))) < (a0.length : Int))) = false) ∧ T4 (T4 Tt))) [.no, .no, .no, .no, .no, .dec false] [0, 1, 2, 8, 23] [] ⟨tr, tr, tr, tr, tr, ⟨tr, b3⟩, tr, tr, tr, tr, tr, tr, tr, tr, tr⟩ ⟨rfl, rfl⟩
  refine thenQ_normal ?_
  rcases ite2_cases h with ⟨b7, h⟩ | ⟨b7, h⟩
  · refine AW.cond_t rfl b7 ?_
    refine AW.skip ?_
    refine thenQ_normal ?_
    refine AW.block ?_
    refine AW.rA ⟨[(0, (vc (sl 1 (csI .i64) a0))), (1, (vc (.int .i64 a1))), (2, (vc (.int .i64 a2))), (8, (vc (.int .i64 (IntKind.i64.wrap (x2 + (1 : Int))))))], []⟩ (Tt ∧ T2 Tt) [] [0, 1, 2, 8] [] ⟨tr, tr, tr, tr⟩ ?_
    refine blockQ_normal ?_
    exact loopQ_normal (k, (IntKind.i64.wrap (x2 + (1 : Int)))) h (Nat.lt_succ_self k) (Sub.keep [0, 1, 2, 8] [] (by kernel_rfl) (by kernel_rfl))
  · refine AW.cond_f rfl b7 ?_
    refine AW.exit ?_
    refine thenQ_exit ?_
    refine loopQ_exit ?_
    refine blockQ_exit ?_
    refine thenQ_normal ?_
    refine AW.seq ?_
    refine AW.seq ?_
    obtain ⟨j11, e12, h⟩ := bind_some h
    refine AW.join1 (s2 := ⟨[(0, (vc (sl 1 (csI .i64) a0))), (1, (vc (.int .i64 a1))), (2, (vc (.int .i64 a2))), (8, (vc (.int .i64 x2))), (42, (vc (.bool j11)))], []⟩) ?_ ?_
    · rcases ite2_cases e12 with ⟨b8, e12⟩ | ⟨b8, e12⟩
      · replace e12 := some_eq e12
        subst e12
        exact AW.rA ⟨[(0, (vc (sl 1 (csI .i64) a0))), (1, (vc (.int .i64 a1))), (2, (vc (.int .i64 a2))), (8, (vc (.int .i64 x2))), (42, (vc (.bool true)))], []⟩ (Tt ∧ T4 ((Tt ∧ ((IntKind.i64.wrap (x2 + (1 : Int))) == (a0.length : Int)) = true) ∧ Tt ∧ T2 (T4 (T4 Tt)))) [.no, .no, .no, .no, .no, .dec true] [0, 1, 2, 8, 42] [] ⟨tr, tr, tr, tr, tr, ⟨tr, b8⟩, tr, tr, tr, tr, tr, tr, tr, tr, tr, tr, tr, tr⟩ ⟨rfl, rfl⟩
      · obtain ⟨c9, e12⟩ := chk_some e12
        rcases ite2_cases e12 with ⟨b10, e12⟩ | ⟨b10, e12⟩
        · replace e12 := some_eq e12
          subst e12
          exact AW.rA ⟨[(0, (vc (sl 1 (csI .i64) a0))), (1, (vc (.int .i64 a1))), (2, (vc (.int .i64 a2))), (8, (vc (.int .i64 x2))), (42, (vc (.bool true)))], []⟩ (Tt ∧ T4 ((Tt ∧ ((IntKind.i64.wrap (x2 + (1 : Int))) == (a0.length : Int)) = false) ∧ Tt ∧ T2 ((0 ≤ x2 ∧ x2 < (a0.length : Int)) ∧ Tt ∧ T2 ((Tt ∧ (decide (a1 ≤ (a0.getD x2.toNat default))) = true) ∧ Tt ∧ T2 Tt)))) [.no, .no, .no, .no, .no, .dec false, .no, .no, .no, .no, .no, .no, .no, .dec true] [0, 1, 2, 8, 42] [] ⟨tr, tr, tr, tr, tr, ⟨tr, b8⟩, tr, tr, tr, c9, tr, tr, tr, ⟨tr, b10⟩, tr, tr, tr, tr⟩ ⟨rfl, rfl⟩
        · replace e12 := some_eq e12
          subst e12
          exact AW.rA ⟨[(0, (vc (sl 1 (csI .i64) a0))), (1, (vc (.int .i64 a1))), (2, (vc (.int .i64 a2))), (8, (vc (.int .i64 x2))), (42, (vc (.bool (a2 == (0 : Int)))))], []⟩ (Tt ∧ T4 ((Tt ∧ ((IntKind.i64.wrap (x2 + (1 : Int))) == (a0.length : Int)) = false) ∧ Tt ∧ T2 ((0 ≤ x2 ∧ x2 < (a0.length : Int)) ∧ Tt ∧ T2 ((Tt ∧ (decide (a1 ≤ (a0.getD x2.toNat default))) = false) ∧ Tt ∧ T2 Tt)))) [.no, .no, .no, .no, .no, .dec false, .no, .no, .no, .no, .no, .no, .no, .dec false] [0, 1, 2, 8, 42] [] ⟨tr, tr, tr, tr, tr, ⟨tr, b8⟩, tr, tr, tr, c9, tr, tr, tr, ⟨tr, b10⟩, tr, tr, tr, tr⟩ ⟨rfl, rfl⟩
    refine thenQ_normal ?_
    rcases ite2_cases h with ⟨b13, h⟩ | ⟨b13, h⟩
    · refine AW.cond_t rfl b13 ?_
      refine AW.seq (AW.rA ⟨[(6, (vc (.int .i64 x2))), (7, (vc (.flt .f32 (Fl.mk (k := .f32) 0 (by decide)).bits)))], []⟩ (Tt ∧ T2 Tt) [] [6, 7] [] ⟨tr, tr, tr, tr⟩ (thenQ_normal ?_))
      refine AW.ret ?_
      refine thenQ_ret ?_
      replace h := some_eq h
      subst h
      exact ⟨.inr rfl, retOK_of [(.one (.c (.int .i64 x2))), (.one (.c (.flt .f32 (Fl.mk (k := .f32) 0 (by decide)).bits)))] (by kernel_rfl) ⟨⟨rfl, tr⟩, ⟨rfl, tr⟩, tr⟩ (of_decide_eq_true (by kernel_rfl))⟩
    · refine AW.cond_f rfl b13 ?_
      refine AW.skip ?_
      refine thenQ_normal ?_
      refine AW.seq ?_
      obtain ⟨c14, h⟩ := chk_some h
      obtain ⟨c15, h⟩ := chk_some h
      refine AW.dA ⟨[(2, (vc (.int .i64 a2))), (8, (vc (.int .i64 x2))), (9, (vc (.flt .f32 ((Fl.ofInt .f32 (IntKind.i64.wrap (a1 - (a0.getD x2.toNat default)))).div (Fl.ofInt .f32 (IntKind.i64.wrap ((a0.getD ((IntKind.i64.wrap (x2 + (1 : Int))).toNat) default) - (a0.getD x2.toNat default))))).bits)))], []⟩ ((Tt ∧ T2 ((0 ≤ x2 ∧ x2 < (a0.length : Int)) ∧ T2 (T4 ((0 ≤ (IntKind.i64.wrap (x2 + (1 : Int))) ∧ (IntKind.i64.wrap (x2 + (1 : Int))) < (a0.length : Int)) ∧ Tt ∧ T2 ((0 ≤ x2 ∧ x2 < (a0.length : Int)) ∧ Tt ∧ T4 Tt))))) ∧ (Tt)) 20 [] [2, 8, 9] [] ⟨⟨tr, tr, tr, c14, tr, tr, tr, tr, tr, tr, c15, tr, tr, tr, c14, tr, tr, tr, tr, tr, tr⟩, tr⟩ ?_
      refine thenQ_normal ?_
      refine AW.seq ?_
      refine AW.seq (AW.rA ⟨[(8, (vc (.int .i64 x2))), (9, (vc (.flt .f32 ((Fl.ofInt .f32 (IntKind.i64.wrap (a1 - (a0.getD x2.toNat default)))).div (Fl.ofInt .f32 (IntKind.i64.wrap ((a0.getD ((IntKind.i64.wrap (x2 + (1 : Int))).toNat) default) - (a0.getD x2.toNat default))))).bits))), (64, (vc (.bool (a2 == (2 : Int)))))], []⟩ (T2 Tt) [] [8, 9, 64] [] ⟨tr, tr, tr⟩ (thenQ_normal ?_))
      rcases ite2_cases h with ⟨b16, h⟩ | ⟨b16, h⟩
      · refine AW.cond_t rfl b16 ?_
        refine AW.rA ⟨[(8, (vc (.int .i64 x2))), (9, (vc (.flt .f32 ((((Fl.ofInt .f32 (IntKind.i64.wrap (a1 - (a0.getD x2.toNat default)))).div (Fl.ofInt .f32 (IntKind.i64.wrap ((a0.getD ((IntKind.i64.wrap (x2 + (1 : Int))).toNat) default) - (a0.getD x2.toNat default))))).mul ((Fl.ofInt .f32 (IntKind.i64.wrap (a1 - (a0.getD x2.toNat default)))).div (Fl.ofInt .f32 (IntKind.i64.wrap ((a0.getD ((IntKind.i64.wrap (x2 + (1 : Int))).toNat) default) - (a0.getD x2.toNat default)))))).mul ((Fl.mk (k := .f32) 1077936128 (by decide)).sub ((Fl.mk (k := .f32) 1073741824 (by decide)).mul ((Fl.ofInt .f32 (IntKind.i64.wrap (a1 - (a0.getD x2.toNat default)))).div (Fl.ofInt .f32 (IntKind.i64.wrap ((a0.getD ((IntKind.i64.wrap (x2 + (1 : Int))).toNat) default) - (a0.getD x2.toNat default)))))))).bits)))], []⟩ (T4 (T4 Tt)) [] [8, 9] [] ⟨tr, tr, tr, tr, tr, tr, tr, tr, tr⟩ ?_
        refine thenQ_normal ?_
        refine AW.seq (AW.rA ⟨[(6, (vc (.int .i64 x2))), (7, (vc (.flt .f32 ((((Fl.ofInt .f32 (IntKind.i64.wrap (a1 - (a0.getD x2.toNat default)))).div (Fl.ofInt .f32 (IntKind.i64.wrap ((a0.getD ((IntKind.i64.wrap (x2 + (1 : Int))).toNat) default) - (a0.getD x2.toNat default))))).mul ((Fl.ofInt .f32 (IntKind.i64.wrap (a1 - (a0.getD x2.toNat default)))).div (Fl.ofInt .f32 (IntKind.i64.wrap ((a0.getD ((IntKind.i64.wrap (x2 + (1 : Int))).toNat) default) - (a0.getD x2.toNat default)))))).mul ((Fl.mk (k := .f32) 1077936128 (by decide)).sub ((Fl.mk (k := .f32) 1073741824 (by decide)).mul ((Fl.ofInt .f32 (IntKind.i64.wrap (a1 - (a0.getD x2.toNat default)))).div (Fl.ofInt .f32 (IntKind.i64.wrap ((a0.getD ((IntKind.i64.wrap (x2 + (1 : Int))).toNat) default) - (a0.getD x2.toNat default)))))))).bits)))], []⟩ (T4 Tt) [] [6, 7] [] ⟨tr, tr, tr, tr, tr⟩ (thenQ_normal ?_))
        refine AW.ret ?_
        replace h := some_eq h
        subst h
        exact ⟨.inr rfl, retOK_of [(.one (.c (.int .i64 x2))), (.one (.c (.flt .f32 ((((Fl.ofInt .f32 (IntKind.i64.wrap (a1 - (a0.getD x2.toNat default)))).div (Fl.ofInt .f32 (IntKind.i64.wrap ((a0.getD ((IntKind.i64.wrap (x2 + (1 : Int))).toNat) default) - (a0.getD x2.toNat default))))).mul ((Fl.ofInt .f32 (IntKind.i64.wrap (a1 - (a0.getD x2.toNat default)))).div (Fl.ofInt .f32 (IntKind.i64.wrap ((a0.getD ((IntKind.i64.wrap (x2 + (1 : Int))).toNat) default) - (a0.getD x2.toNat default)))))).mul ((Fl.mk (k := .f32) 1077936128 (by decide)).sub ((Fl.mk (k := .f32) 1073741824 (by decide)).mul ((Fl.ofInt .f32 (IntKind.i64.wrap (a1 - (a0.getD x2.toNat default)))).div (Fl.ofInt .f32 (IntKind.i64.wrap ((a0.getD ((IntKind.i64.wrap (x2 + (1 : Int))).toNat) default) - (a0.getD x2.toNat default)))))))).bits)))] (by kernel_rfl) ⟨⟨rfl, tr⟩, ⟨rfl, tr⟩, tr⟩ (of_decide_eq_true (by kernel_rfl))⟩
      · refine AW.cond_f rfl b16 ?_
        refine AW.skip ?_
        refine thenQ_normal ?_
        refine AW.seq (AW.rA ⟨[(6, (vc (.int .i64 x2))), (7, (vc (.flt .f32 ((Fl.ofInt .f32 (IntKind.i64.wrap (a1 - (a0.getD x2.toNat default)))).div (Fl.ofInt .f32 (IntKind.i64.wrap ((a0.getD ((IntKind.i64.wrap (x2 + (1 : Int))).toNat) default) - (a0.getD x2.toNat default))))).bits)))], []⟩ (T4 Tt) [] [6, 7] [] ⟨tr, tr, tr, tr, tr⟩ (thenQ_normal ?_))
        refine AW.ret ?_
        replace h := some_eq h
        subst h
        exact ⟨.inr rfl, retOK_of [(.one (.c (.int .i64 x2))), (.one (.c (.flt .f32 ((Fl.ofInt .f32 (IntKind.i64.wrap (a1 - (a0.getD x2.toNat default)))).div (Fl.ofInt .f32 (IntKind.i64.wrap ((a0.getD ((IntKind.i64.wrap (x2 + (1 : Int))).toNat) default) - (a0.getD x2.toNat default))))).bits)))] (by kernel_rfl) ⟨⟨rfl, tr⟩, ⟨rfl, tr⟩, tr⟩ (of_decide_eq_true (by kernel_rfl))⟩

/-! spec.l05Inside -/
def spec_l05Inside (_K : Nat) (a0 : (List Int)) (a1 : Int) (a2 : Int) (a3 : Int) : Option (Bool) :=
  (ite2 ((a3 != (0 : Int))) (ite2 ((decide ((IntKind.i64.wrap (a1 + (1 : Int))) < (a0.length : Int)))) (chk (0 ≤ a1 ∧ a1 < (a0.length : Int)) (some (decide (a2 > (a0.getD a1.toNat default))))) (some false)) (some false)).bind fun j4 => some j4

theorem ok_spec_l05Inside (K : Nat) (a0 : (List Int)) (a1 : Int) (a2 : Int) (a3 : Int) (o : (Bool)) (h : spec_l05Inside K a0 a1 a2 a3 = some o) : CallOK Try.prog 157 [.one (sl 1 (csI .i64) a0), .one (.int .i64 a1), .one (.int .i64 a2), .one (.int .i64 a3)] [.one (.bool o)] := by
  refine callOK_of_AW Try.func157 rfl (by kernel_rfl) (Nat.le_of_ble_eq_true (by kernel_rfl)) ?_
  intro w0
  unfold spec_l05Inside at h
  refine AW.seq (AW.rA ⟨[(0, (vc (sl 1 (csI .i64) a0))), (1, (vc (.int .i64 a1))), (2, (vc (.int .i64 a2))), (3, (vc (.int .i64 a3)))], []⟩ (Tt ∧ Tt) [] [0, 1, 2, 3] [] ⟨tr, tr⟩ (thenQ_normal ?_))
  refine AW.seq ?_
  obtain ⟨j4, e5, h⟩ := bind_some h
  refine AW.join1 (s2 := ⟨[(8, (vc (.bool j4)))], []⟩) ?_ ?_
  · rcases ite2_cases e5 with ⟨b1, e5⟩ | ⟨b1, e5⟩
    · rcases ite2_cases e5 with ⟨b2, e5⟩ | ⟨b2, e5⟩
      · obtain ⟨c3, e5⟩ := chk_some e5
        replace e5 := some_eq e5
        subst e5
        exact AW.rA ⟨[(8, (vc (.bool (decide (a2 > (a0.getD a1.toNat default))))))], []⟩ (T2 ((Tt ∧ (a3 != (0 : Int)) = true) ∧ T2 (T4 ((Tt ∧ (decide ((IntKind.i64.wrap (a1 + (1 : Int))) < (a0.length : Int))) = true) ∧ Tt ∧ T2 ((0 ≤ a1 ∧ a1 < (a0.length : Int)) ∧ T4 Tt))))) [.no, .no, .dec true, .no, .no, .no, .no, .no, .no, .dec true] [8] [] ⟨tr, tr, ⟨tr, b1⟩, tr, tr, tr, tr, tr, tr, ⟨tr, b2⟩, tr, tr, tr, c3, tr, tr, tr, tr, tr⟩ ⟨rfl, rfl⟩
      · replace e5 := some_eq e5
        subst e5
        exact AW.rA ⟨[(8, (vc (.bool false)))], []⟩ (T2 ((Tt ∧ (a3 != (0 : Int)) = true) ∧ T2 (T4 ((Tt ∧ (decide ((IntKind.i64.wrap (a1 + (1 : Int))) < (a0.length : Int))) = false) ∧ T4 (T4 Tt))))) [.no, .no, .dec true, .no, .no, .no, .no, .no, .no, .dec false] [8] [] ⟨tr, tr, ⟨tr, b1⟩, tr, tr, tr, tr, tr, tr, ⟨tr, b2⟩, tr, tr, tr, tr, tr, tr, tr, tr, tr⟩ ⟨rfl, rfl⟩
    · replace e5 := some_eq e5
      subst e5
      exact AW.rA ⟨[(8, (vc (.bool false)))], []⟩ (T2 ((Tt ∧ (a3 != (0 : Int)) = false) ∧ Tt ∧ T2 (T4 (T4 (T4 Tt))))) [.no, .no, .dec false] [8] [] ⟨tr, tr, ⟨tr, b1⟩, tr, tr, tr, tr, tr, tr, tr, tr, tr, tr, tr, tr, tr, tr, tr, tr⟩ ⟨rfl, rfl⟩
  refine thenQ_normal ?_
  refine AW.ret ?_
  replace h := some_eq h
  subst h
  exact ⟨.inr rfl, retOK_of [(.one (.c (.bool j4)))] (by kernel_rfl) ⟨⟨rfl, tr⟩, tr⟩ (of_decide_eq_true (by kernel_rfl))⟩

/-! spec.l01Less -/
def spec_l01Less (_K : Nat) (a0 : Vector) (a1 : Vector) : Option (Vector) :=
  some (Vector.mk (a0.X.sub a1.X) (a0.Y.sub a1.Y) (a0.Z.sub a1.Z))

theorem ok_spec_l01Less (K : Nat) (a0 : Vector) (a1 : Vector) (o : (Vector)) (h : spec_l01Less K a0 a1 = some o) : CallOK Try.prog 193 [.agg (cs_Vector a0), .agg (cs_Vector a1)] [.agg (cs_Vector o)] := by
  refine callOK_of_AW Try.func193 rfl (by kernel_rfl) (Nat.le_of_ble_eq_true (by kernel_rfl)) ?_
  intro w0
  unfold spec_l01Less at h
  refine AW.seq (AW.rA ⟨[(2, (vp 1 0)), (3, (vp 2 0)), (4, (vp 3 0))], [(1, (.box [(.c (.flt .f32 a0.X.bits)), (.c (.flt .f32 a0.Y.bits)), (.c (.flt .f32 a0.Z.bits))])), (2, (.box [(.c (.flt .f32 a1.X.bits)), (.c (.flt .f32 a1.Y.bits)), (.c (.flt .f32 a1.Z.bits))])), (3, (.box [(.c (.flt .f32 (default : F32).bits)), (.c (.flt .f32 (default : F32).bits)), (.c (.flt .f32 (default : F32).bits))]))]⟩ (Tt ∧ T2 Tt) [.box 1, .box 2, .box 3] [2, 3, 4] [1, 2, 3] ⟨tr, tr, tr, tr⟩ (thenQ_normal ?_))
  refine AW.seq (AW.rA ⟨[(4, (vp 3 0))], [(3, (.box [(.c (.flt .f32 (a0.X.sub a1.X).bits)), (.c (.flt .f32 (a0.Y.sub a1.Y).bits)), (.c (.flt .f32 (a0.Z.sub a1.Z).bits))]))]⟩ (Tt ∧ T4 (T4 (T4 (T4 Tt)))) [] [4] [3] ⟨tr, tr, tr, tr, tr, tr, tr, tr, tr, tr, tr, tr, tr, tr, tr, tr, tr, tr⟩ (thenQ_normal ?_))
  refine AW.ret ?_
  replace h := some_eq h
  subst h
  exact ⟨.inr rfl, retOK_of [(.agg [(.c (.flt .f32 (a0.X.sub a1.X).bits)), (.c (.flt .f32 (a0.Y.sub a1.Y).bits)), (.c (.flt .f32 (a0.Z.sub a1.Z).bits))])] (by kernel_rfl) ⟨⟨⟨rfl, tr⟩, ⟨rfl, tr⟩, ⟨rfl, tr⟩, tr⟩, tr⟩ (of_decide_eq_true (by kernel_rfl))⟩

/-! spec.l01Scale -/
def spec_l01Scale (_K : Nat) (a0 : Vector) (a1 : F32) : Option (Vector) :=
  some (Vector.mk (a0.X.mul a1) (a0.Y.mul a1) (a0.Z.mul a1))

theorem ok_spec_l01Scale (K : Nat) (a0 : Vector) (a1 : F32) (o : (Vector)) (h : spec_l01Scale K a0 a1 = some o) : CallOK Try.prog 192 [.agg (cs_Vector a0), .one (.flt .f32 a1.bits)] [.agg (cs_Vector o)] := by
  refine callOK_of_AW Try.func192 rfl (by kernel_rfl) (Nat.le_of_ble_eq_true (by kernel_rfl)) ?_
  intro w0
  unfold spec_l01Scale at h
  refine AW.seq (AW.rA ⟨[(1, (vc (.flt .f32 a1.bits))), (2, (vp 1 0)), (4, (vp 2 0))], [(1, (.box [(.c (.flt .f32 a0.X.bits)), (.c (.flt .f32 a0.Y.bits)), (.c (.flt .f32 a0.Z.bits))])), (2, (.box [(.c (.flt .f32 (default : F32).bits)), (.c (.flt .f32 (default : F32).bits)), (.c (.flt .f32 (default : F32).bits))]))]⟩ (T2 Tt) [.box 1, .box 2] [1, 2, 4] [1, 2] ⟨tr, tr, tr⟩ (thenQ_normal ?_))
  refine AW.seq (AW.rA ⟨[(4, (vp 2 0))], [(2, (.box [(.c (.flt .f32 (a0.X.mul a1).bits)), (.c (.flt .f32 (a0.Y.mul a1).bits)), (.c (.flt .f32 (a0.Z.mul a1).bits))]))]⟩ (T2 (T4 (T4 (T4 Tt)))) [] [4] [2] ⟨tr, tr, tr, tr, tr, tr, tr, tr, tr, tr, tr, tr, tr, tr, tr⟩ (thenQ_normal ?_))
  refine AW.ret ?_
  replace h := some_eq h
  subst h
  exact ⟨.inr rfl, retOK_of [(.agg [(.c (.flt .f32 (a0.X.mul a1).bits)), (.c (.flt .f32 (a0.Y.mul a1).bits)), (.c (.flt .f32 (a0.Z.mul a1).bits))])] (by kernel_rfl) ⟨⟨⟨rfl, tr⟩, ⟨rfl, tr⟩, ⟨rfl, tr⟩, tr⟩, tr⟩ (of_decide_eq_true (by kernel_rfl))⟩

/-! spec.l01Add -/
def spec_l01Add (_K : Nat) (a0 : Vector) (a1 : Vector) : Option (Vector) :=
  some (Vector.mk (a0.X.add a1.X) (a0.Y.add a1.Y) (a0.Z.add a1.Z))

theorem ok_spec_l01Add (K : Nat) (a0 : Vector) (a1 : Vector) (o : (Vector)) (h : spec_l01Add K a0 a1 = some o) : CallOK Try.prog 191 [.agg (cs_Vector a0), .agg (cs_Vector a1)] [.agg (cs_Vector o)] := by
  refine callOK_of_AW Try.func191 rfl (by kernel_rfl) (Nat.le_of_ble_eq_true (by kernel_rfl)) ?_
  intro w0
  unfold spec_l01Add at h
  refine AW.seq (AW.rA ⟨[(2, (vp 1 0)), (3, (vp 2 0)), (4, (vp 3 0))], [(1, (.box [(.c (.flt .f32 a0.X.bits)), (.c (.flt .f32 a0.Y.bits)), (.c (.flt .f32 a0.Z.bits))])), (2, (.box [(.c (.flt .f32 a1.X.bits)), (.c (.flt .f32 a1.Y.bits)), (.c (.flt .f32 a1.Z.bits))])), (3, (.box [(.c (.flt .f32 (default : F32).bits)), (.c (.flt .f32 (default : F32).bits)), (.c (.flt .f32 (default : F32).bits))]))]⟩ (Tt ∧ T2 Tt) [.box 1, .box 2, .box 3] [2, 3, 4] [1, 2, 3] ⟨tr, tr, tr, tr⟩ (thenQ_normal ?_))
  refine AW.seq (AW.rA ⟨[(4, (vp 3 0))], [(3, (.box [(.c (.flt .f32 (a0.X.add a1.X).bits)), (.c (.flt .f32 (a0.Y.add a1.Y).bits)), (.c (.flt .f32 (a0.Z.add a1.Z).bits))]))]⟩ (Tt ∧ T4 (T4 (T4 (T4 Tt)))) [] [4] [3] ⟨tr, tr, tr, tr, tr, tr, tr, tr, tr, tr, tr, tr, tr, tr, tr, tr, tr, tr⟩ (thenQ_normal ?_))
  refine AW.ret ?_
  replace h := some_eq h
  subst h
  exact ⟨.inr rfl, retOK_of [(.agg [(.c (.flt .f32 (a0.X.add a1.X).bits)), (.c (.flt .f32 (a0.Y.add a1.Y).bits)), (.c (.flt .f32 (a0.Z.add a1.Z).bits))])] (by kernel_rfl) ⟨⟨⟨rfl, tr⟩, ⟨rfl, tr⟩, ⟨rfl, tr⟩, tr⟩, tr⟩ (of_decide_eq_true (by kernel_rfl))⟩

/-! spec.l01Between -/
def spec_l01Between (K : Nat) (a0 : Vector) (a1 : Vector) (a2 : F32) : Option (Vector) :=
  (spec_l01Less K a1 a0).bind fun v1 => (spec_l01Scale K v1 a2).bind fun v3 => (spec_l01Add K a0 v3).bind fun v5 => some v5

theorem ok_spec_l01Between (K : Nat) (a0 : Vector) (a1 : Vector) (a2 : F32) (o : (Vector)) (h : spec_l01Between K a0 a1 a2 = some o) : CallOK Try.prog 158 [.agg (cs_Vector a0), .agg (cs_Vector a1), .one (.flt .f32 a2.bits)] [.agg (cs_Vector o)] := by
  refine callOK_of_AW Try.func158 rfl (by kernel_rfl) (Nat.le_of_ble_eq_true (by kernel_rfl)) ?_
  intro w0
  unfold spec_l01Between at h
  refine AW.seq (AW.rA ⟨[(2, (vc (.flt .f32 a2.bits))), (3, (vp 1 0)), (4, (vp 2 0)), (6, (vp 3 0))], [(1, (.box [(.c (.flt .f32 a0.X.bits)), (.c (.flt .f32 a0.Y.bits)), (.c (.flt .f32 a0.Z.bits))])), (2, (.box [(.c (.flt .f32 a1.X.bits)), (.c (.flt .f32 a1.Y.bits)), (.c (.flt .f32 a1.Z.bits))])), (3, (.box [(.c (.flt .f32 (default : F32).bits)), (.c (.flt .f32 (default : F32).bits)), (.c (.flt .f32 (default : F32).bits))]))]⟩ (Tt ∧ T2 Tt) [.box 1, .box 2, .box 3] [2, 3, 4, 6] [1, 2, 3] ⟨tr, tr, tr, tr⟩ (thenQ_normal ?_))
  refine AW.seq ?_
  obtain ⟨v1, e2, h⟩ := bind_some h
  obtain ⟨v3, e4, h⟩ := bind_some h
  obtain ⟨v5, e6, h⟩ := bind_some h
  refine AW.dA ⟨[(6, (vp 3 0))], [(3, (.box [(.c (.flt .f32 v5.X.bits)), (.c (.flt .f32 v5.Y.bits)), (.c (.flt .f32 v5.Z.bits))]))]⟩ ((Tt ∧ T2 (((((Eqc (.flt .f32 a1.X.bits)) ∧ (Eqc (.flt .f32 a1.Y.bits)) ∧ (Eqc (.flt .f32 a1.Z.bits)) ∧ Tt) ∧ ((Eqc (.flt .f32 a0.X.bits)) ∧ (Eqc (.flt .f32 a0.Y.bits)) ∧ (Eqc (.flt .f32 a0.Z.bits)) ∧ Tt) ∧ Tt) ∧ CallOK Try.prog 193 [.agg (cs_Vector a1), .agg (cs_Vector a0)] [.agg (cs_Vector v1)]) ∧ Tt ∧ ((((Eqc (.flt .f32 v1.X.bits)) ∧ (Eqc (.flt .f32 v1.Y.bits)) ∧ (Eqc (.flt .f32 v1.Z.bits)) ∧ Tt) ∧ (Eqc (.flt .f32 a2.bits)) ∧ Tt) ∧ CallOK Try.prog 192 [.agg (cs_Vector v1), .one (.flt .f32 a2.bits)] [.agg (cs_Vector v3)]) ∧ ((((Eqc (.flt .f32 a0.X.bits)) ∧ (Eqc (.flt .f32 a0.Y.bits)) ∧ (Eqc (.flt .f32 a0.Z.bits)) ∧ Tt) ∧ ((Eqc (.flt .f32 v3.X.bits)) ∧ (Eqc (.flt .f32 v3.Y.bits)) ∧ (Eqc (.flt .f32 v3.Z.bits)) ∧ Tt) ∧ Tt) ∧ CallOK Try.prog 191 [.agg (cs_Vector a0), .agg (cs_Vector v3)] [.agg (cs_Vector v5)]) ∧ Tt)) ∧ (Tt ∧ Tt)) 7 [.no, .no, .no, .call [.agg (cs_Vector a1), .agg (cs_Vector a0)] [.agg (cs_Vector v1)] [[.view, .view, .view]], .no, .call [.agg (cs_Vector v1), .one (.flt .f32 a2.bits)] [.agg (cs_Vector v3)] [[.view, .view, .view]], .call [.agg (cs_Vector a0), .agg (cs_Vector v3)] [.agg (cs_Vector v5)] [[.view, .view, .view]]] [6] [3] ⟨⟨tr, tr, tr, ⟨⟨⟨rfl, rfl, rfl, tr⟩, ⟨rfl, rfl, rfl, tr⟩, tr⟩, ok_spec_l01Less K a1 a0 v1 e2⟩, tr, ⟨⟨⟨rfl, rfl, rfl, tr⟩, rfl, tr⟩, ok_spec_l01Scale K v1 a2 v3 e4⟩, ⟨⟨⟨rfl, rfl, rfl, tr⟩, ⟨rfl, rfl, rfl, tr⟩, tr⟩, ok_spec_l01Add K a0 v3 v5 e6⟩, tr⟩, ⟨tr, tr⟩⟩ ?_
  refine thenQ_normal ?_
  refine AW.ret ?_
  replace h := some_eq h
  subst h
  exact ⟨.inr rfl, retOK_of [(.agg [(.c (.flt .f32 v5.X.bits)), (.c (.flt .f32 v5.Y.bits)), (.c (.flt .f32 v5.Z.bits))])] (by kernel_rfl) ⟨⟨⟨rfl, tr⟩, ⟨rfl, tr⟩, ⟨rfl, tr⟩, tr⟩, tr⟩ (of_decide_eq_true (by kernel_rfl))⟩

/-! spec.l05Root -/
def spec_l05Root (K : Nat) (a0 : (List RootKey)) (a1 : Int) (a2 : Int) : Option (Vector) :=
  (spec_l05RootAt K a0).bind fun v1 => (spec_l05Find K v1 a1 a2).bind fun v3 => (spec_l05Inside K v1 v3.1 a1 a2).bind fun v5 => ite2 (v5) (chk (0 ≤ v3.1 ∧ v3.1 < (a0.length : Int)) (chk (0 ≤ (IntKind.i64.wrap (v3.1 + (1 : Int))) ∧ (IntKind.i64.wrap (v3.1 + (1 : Int))) < (a0.length : Int)) ((spec_l01Between K ((a0.getD v3.1.toNat default).Place) ((a0.getD ((IntKind.i64.wrap (v3.1 + (1 : Int))).toNat) default).Place) v3.2).bind fun v10 => some v10))) (chk (0 ≤ v3.1 ∧ v3.1 < (a0.length : Int)) (some ((a0.getD v3.1.toNat default).Place)))

theorem ok_spec_l05Root (K : Nat) (a0 : (List RootKey)) (a1 : Int) (a2 : Int) (o : (Vector)) (h : spec_l05Root K a0 a1 a2 = some o) : CallOK Try.prog 89 [.one (sl 4 cs_RootKey a0), .one (.int .i64 a1), .one (.int .i64 a2)] [.agg (cs_Vector o)] := by
  refine callOK_of_AW Try.func89 rfl (by kernel_rfl) (Nat.le_of_ble_eq_true (by kernel_rfl)) ?_
  intro w0
  unfold spec_l05Root at h
  refine AW.seq (AW.rA ⟨[(0, (vc (sl 4 cs_RootKey a0))), (1, (vc (.int .i64 a1))), (2, (vc (.int .i64 a2))), (6, (vp 1 0))], [(1, (.box [(.c (.flt .f32 (default : F32).bits)), (.c (.flt .f32 (default : F32).bits)), (.c (.flt .f32 (default : F32).bits))]))]⟩ (Tt ∧ Tt) [.box 1] [0, 1, 2, 6] [1] ⟨tr, tr⟩ (thenQ_normal ?_))
  refine AW.seq ?_
  obtain ⟨v1, e2, h⟩ := bind_some h
  refine AW.rA ⟨[(0, (vc (sl 4 cs_RootKey a0))), (1, (vc (.int .i64 a1))), (2, (vc (.int .i64 a2))), (6, (vp 1 0)), (7, (.v (.one (.lst 2 v1.length 1 (gl (csI .i64) v1)))))], [(1, (.box [(.c (.flt .f32 (default : F32).bits)), (.c (.flt .f32 (default : F32).bits)), (.c (.flt .f32 (default : F32).bits))])), (2, (.lst v1.length 1 (gl (csI .i64) v1)))]⟩ (Tt ∧ (((Eqc (sl 4 cs_RootKey a0)) ∧ Tt) ∧ CallOK Try.prog 136 [.one (sl 4 cs_RootKey a0)] [.one (sl 1 (csI .i64) v1)]) ∧ Tt ∧ Tt) [.no, .call [.one (sl 4 cs_RootKey a0)] [.one (sl 1 (csI .i64) v1)] [[.lst 2]]] [0, 1, 2, 6, 7] [1, 2] ⟨tr, ⟨⟨rfl, tr⟩, ok_spec_l05RootAt K a0 v1 e2⟩, tr, tr⟩ ?_
  refine thenQ_normal ?_
  refine AW.seq ?_
  obtain ⟨v3, e4, h⟩ := bind_some h
  refine AW.rA ⟨[(0, (vc (sl 4 cs_RootKey a0))), (1, (vc (.int .i64 a1))), (2, (vc (.int .i64 a2))), (6, (vp 1 0)), (7, (.v (.one (.lst 2 v1.length 1 (gl (csI .i64) v1))))), (8, (vc (.int .i64 v3.1))), (9, (vc (.flt .f32 v3.2.bits)))], [(1, (.box [(.c (.flt .f32 (default : F32).bits)), (.c (.flt .f32 (default : F32).bits)), (.c (.flt .f32 (default : F32).bits))])), (2, (.lst v1.length 1 (gl (csI .i64) v1)))]⟩ (Tt ∧ T2 ((((Eqc (sl 1 (csI .i64) v1)) ∧ (Eqc (.int .i64 a1)) ∧ (Eqc (.int .i64 a2)) ∧ Tt) ∧ CallOK Try.prog 156 [.one (sl 1 (csI .i64) v1), .one (.int .i64 a1), .one (.int .i64 a2)] [.one (.int .i64 v3.1), .one (.flt .f32 v3.2.bits)]) ∧ Tt ∧ T4 Tt)) [.no, .no, .no, .call [.one (sl 1 (csI .i64) v1), .one (.int .i64 a1), .one (.int .i64 a2)] [.one (.int .i64 v3.1), .one (.flt .f32 v3.2.bits)] [[.view], [.view]]] [0, 1, 2, 6, 7, 8, 9] [1, 2] ⟨tr, tr, tr, ⟨⟨rfl, rfl, rfl, tr⟩, ok_spec_l05Find K v1 a1 a2 v3 e4⟩, tr, tr, tr, tr, tr, tr⟩ ?_
  refine thenQ_normal ?_
  refine AW.seq ?_
  refine AW.seq ?_
  obtain ⟨v5, e6, h⟩ := bind_some h
  refine AW.rA ⟨[(0, (vc (sl 4 cs_RootKey a0))), (6, (vp 1 0)), (8, (vc (.int .i64 v3.1))), (9, (vc (.flt .f32 v3.2.bits))), (23, (vc (.bool v5)))], [(1, (.box [(.c (.flt .f32 (default : F32).bits)), (.c (.flt .f32 (default : F32).bits)), (.c (.flt .f32 (default : F32).bits))]))]⟩ (T4 ((((Eqc (sl 1 (csI .i64) v1)) ∧ (Eqc (.int .i64 v3.1)) ∧ (Eqc (.int .i64 a1)) ∧ (Eqc (.int .i64 a2)) ∧ Tt) ∧ CallOK Try.prog 157 [.one (sl 1 (csI .i64) v1), .one (.int .i64 v3.1), .one (.int .i64 a1), .one (.int .i64 a2)] [.one (.bool v5)]) ∧ Tt)) [.no, .no, .no, .no, .call [.one (sl 1 (csI .i64) v1), .one (.int .i64 v3.1), .one (.int .i64 a1), .one (.int .i64 a2)] [.one (.bool v5)] [[.view]]] [0, 6, 8, 9, 23] [1] ⟨tr, tr, tr, tr, ⟨⟨rfl, rfl, rfl, rfl, tr⟩, ok_spec_l05Inside K v1 v3.1 a1 a2 v5 e6⟩, tr⟩ ?_
  refine thenQ_normal ?_
  rcases ite2_cases h with ⟨b7, h⟩ | ⟨b7, h⟩
  · refine AW.cond_t rfl b7 ?_
    refine AW.seq ?_
    obtain ⟨c8, h⟩ := chk_some h
    obtain ⟨c9, h⟩ := chk_some h
    obtain ⟨v10, e11, h⟩ := bind_some h
    refine AW.dA ⟨[(6, (vp 1 0))], [(1, (.box [(.c (.flt .f32 v10.X.bits)), (.c (.flt .f32 v10.Y.bits)), (.c (.flt .f32 v10.Z.bits))]))]⟩ ((T2 ((0 ≤ v3.1 ∧ v3.1 < (a0.length : Int)) ∧ Tt ∧ T4 ((0 ≤ (IntKind.i64.wrap (v3.1 + (1 : Int))) ∧ (IntKind.i64.wrap (v3.1 + (1 : Int))) < (a0.length : Int)) ∧ Tt ∧ T2 (((((Eqc (.flt .f32 (((a0.getD v3.1.toNat default).Place).X).bits)) ∧ (Eqc (.flt .f32 (((a0.getD v3.1.toNat default).Place).Y).bits)) ∧ (Eqc (.flt .f32 (((a0.getD v3.1.toNat default).Place).Z).bits)) ∧ Tt) ∧ ((((.flt .f32 (((a0.getD ((IntKind.i64.wrap (v3.1 + (1 : Int))).toNat) default).Place).X).bits) : C) = (.flt .f32 (((a0.getD ((IntKind.i64.wrap (v3.1 + (1 : Int))).toNat) default).Place).X).bits)) ∧ (((.flt .f32 (((a0.getD ((IntKind.i64.wrap (v3.1 + (1 : Int))).toNat) default).Place).Y).bits) : C) = (.flt .f32 (((a0.getD ((IntKind.i64.wrap (v3.1 + (1 : Int))).toNat) default).Place).Y).bits)) ∧ (((.flt .f32 (((a0.getD ((IntKind.i64.wrap (v3.1 + (1 : Int))).toNat) default).Place).Z).bits) : C) = (.flt .f32 (((a0.getD ((IntKind.i64.wrap (v3.1 + (1 : Int))).toNat) default).Place).Z).bits)) ∧ Tt) ∧ (Eqc (.flt .f32 v3.2.bits)) ∧ Tt) ∧ CallOK Try.prog 158 [.agg (cs_Vector ((a0.getD v3.1.toNat default).Place)), .agg (cs_Vector ((a0.getD ((IntKind.i64.wrap (v3.1 + (1 : Int))).toNat) default).Place)), .one (.flt .f32 v3.2.bits)] [.agg (cs_Vector v10)]) ∧ Tt)))) ∧ (Tt ∧ Tt)) 13 [.no, .no, .no, .no, .no, .no, .no, .no, .no, .no, .no, .no, .call [.agg (cs_Vector ((a0.getD v3.1.toNat default).Place)), .agg (cs_Vector ((a0.getD ((IntKind.i64.wrap (v3.1 + (1 : Int))).toNat) default).Place)), .one (.flt .f32 v3.2.bits)] [.agg (cs_Vector v10)] [[.view, .view, .view]]] [6] [1] ⟨⟨tr, tr, c8, tr, tr, tr, tr, tr, c9, tr, tr, tr, ⟨⟨⟨rfl, rfl, rfl, tr⟩, ⟨rfl, rfl, rfl, tr⟩, rfl, tr⟩, ok_spec_l01Between K ((a0.getD v3.1.toNat default).Place) ((a0.getD ((IntKind.i64.wrap (v3.1 + (1 : Int))).toNat) default).Place) v3.2 v10 e11⟩, tr⟩, ⟨tr, tr⟩⟩ ?_
    refine thenQ_normal ?_
    refine AW.ret ?_
    refine thenQ_ret ?_
    replace h := some_eq h
    subst h
    exact ⟨.inr rfl, retOK_of [(.agg [(.c (.flt .f32 v10.X.bits)), (.c (.flt .f32 v10.Y.bits)), (.c (.flt .f32 v10.Z.bits))])] (by kernel_rfl) ⟨⟨⟨rfl, tr⟩, ⟨rfl, tr⟩, ⟨rfl, tr⟩, tr⟩, tr⟩ (of_decide_eq_true (by kernel_rfl))⟩
  · refine AW.cond_f rfl b7 ?_
    refine AW.skip ?_
    refine thenQ_normal ?_
    refine AW.seq ?_
    obtain ⟨c12, h⟩ := chk_some h
    refine AW.rA ⟨[(6, (vp 1 0))], [(1, (.box [(.c (.flt .f32 (((a0.getD v3.1.toNat default).Place).X).bits)), (.c (.flt .f32 (((a0.getD v3.1.toNat default).Place).Y).bits)), (.c (.flt .f32 (((a0.getD v3.1.toNat default).Place).Z).bits))]))]⟩ (T2 ((0 ≤ v3.1 ∧ v3.1 < (a0.length : Int)) ∧ Tt ∧ T2 Tt)) [] [6] [1] ⟨tr, tr, c12, tr, tr, tr, tr⟩ ?_
    refine thenQ_normal ?_
    refine AW.ret ?_
    replace h := some_eq h
    subst h
    exact ⟨.inr rfl, retOK_of [(.agg [(.c (.flt .f32 (((a0.getD v3.1.toNat default).Place).X).bits)), (.c (.flt .f32 (((a0.getD v3.1.toNat default).Place).Y).bits)), (.c (.flt .f32 (((a0.getD v3.1.toNat default).Place).Z).bits))])] (by kernel_rfl) ⟨⟨⟨rfl, tr⟩, ⟨rfl, tr⟩, ⟨rfl, tr⟩, tr⟩, tr⟩ (of_decide_eq_true (by kernel_rfl))⟩

/-! spec.l02Inner -/
def spec_l02Inner (_K : Nat) (a0 : Turn) (a1 : Turn) : Option (F32) :=
  some ((((a0.W.mul a1.W).add (a0.X.mul a1.X)).add (a0.Y.mul a1.Y)).add (a0.Z.mul a1.Z))

theorem ok_spec_l02Inner (K : Nat) (a0 : Turn) (a1 : Turn) (o : (F32)) (h : spec_l02Inner K a0 a1 = some o) : CallOK Try.prog 181 [.agg (cs_Turn a0), .agg (cs_Turn a1)] [.one (.flt .f32 o.bits)] := by
  refine callOK_of_AW Try.func181 rfl (by kernel_rfl) (Nat.le_of_ble_eq_true (by kernel_rfl)) ?_
  intro w0
  unfold spec_l02Inner at h
  refine AW.seq (AW.rA ⟨[(2, (vp 1 0)), (3, (vp 2 0))], [(1, (.box [(.c (.flt .f32 a0.W.bits)), (.c (.flt .f32 a0.X.bits)), (.c (.flt .f32 a0.Y.bits)), (.c (.flt .f32 a0.Z.bits))])), (2, (.box [(.c (.flt .f32 a1.W.bits)), (.c (.flt .f32 a1.X.bits)), (.c (.flt .f32 a1.Y.bits)), (.c (.flt .f32 a1.Z.bits))]))]⟩ (Tt ∧ T2 Tt) [.box 1, .box 2] [2, 3] [1, 2] ⟨tr, tr, tr, tr⟩ (thenQ_normal ?_))
  refine AW.seq (AW.rA ⟨[(2, (vp 1 0)), (3, (vp 2 0)), (5, (vc (.flt .f32 ((a0.W.mul a1.W).add (a0.X.mul a1.X)).bits)))], [(1, (.box [(.c (.flt .f32 a0.W.bits)), (.c (.flt .f32 a0.X.bits)), (.c (.flt .f32 a0.Y.bits)), (.c (.flt .f32 a0.Z.bits))])), (2, (.box [(.c (.flt .f32 a1.W.bits)), (.c (.flt .f32 a1.X.bits)), (.c (.flt .f32 a1.Y.bits)), (.c (.flt .f32 a1.Z.bits))]))]⟩ (T4 (T4 (T4 Tt))) [] [2, 3, 5] [1, 2] ⟨tr, tr, tr, tr, tr, tr, tr, tr, tr, tr, tr, tr, tr⟩ (thenQ_normal ?_))
  refine AW.seq (AW.rA ⟨[(2, (vp 1 0)), (3, (vp 2 0)), (5, (vc (.flt .f32 (((a0.W.mul a1.W).add (a0.X.mul a1.X)).add (a0.Y.mul a1.Y)).bits)))], [(1, (.box [(.c (.flt .f32 a0.W.bits)), (.c (.flt .f32 a0.X.bits)), (.c (.flt .f32 a0.Y.bits)), (.c (.flt .f32 a0.Z.bits))])), (2, (.box [(.c (.flt .f32 a1.W.bits)), (.c (.flt .f32 a1.X.bits)), (.c (.flt .f32 a1.Y.bits)), (.c (.flt .f32 a1.Z.bits))]))]⟩ (T4 (T4 Tt)) [] [2, 3, 5] [1, 2] ⟨tr, tr, tr, tr, tr, tr, tr, tr, tr⟩ (thenQ_normal ?_))
  refine AW.seq (AW.rA ⟨[(4, (vc (.flt .f32 ((((a0.W.mul a1.W).add (a0.X.mul a1.X)).add (a0.Y.mul a1.Y)).add (a0.Z.mul a1.Z)).bits)))], []⟩ (T4 (T4 Tt)) [] [4] [] ⟨tr, tr, tr, tr, tr, tr, tr, tr, tr⟩ (thenQ_normal ?_))
  refine AW.ret ?_
  replace h := some_eq h
  subst h
  exact ⟨.inr rfl, retOK_of [(.one (.c (.flt .f32 ((((a0.W.mul a1.W).add (a0.X.mul a1.X)).add (a0.Y.mul a1.Y)).add (a0.Z.mul a1.Z)).bits)))] (by kernel_rfl) ⟨⟨rfl, tr⟩, tr⟩ (of_decide_eq_true (by kernel_rfl))⟩

/-! spec.l02Opposite -/
def spec_l02Opposite (_K : Nat) (a0 : Turn) (a1 : F32) : Option (Turn) :=
  ite2 ((a1.lt' (Fl.mk (k := .f32) 0 (by decide)))) (some (Turn.mk (a0.W.neg) (a0.X.neg) (a0.Y.neg) (a0.Z.neg))) (some a0)

theorem ok_spec_l02Opposite (K : Nat) (a0 : Turn) (a1 : F32) (o : (Turn)) (h : spec_l02Opposite K a0 a1 = some o) : CallOK Try.prog 194 [.agg (cs_Turn a0), .one (.flt .f32 a1.bits)] [.agg (cs_Turn o)] := by
  refine callOK_of_AW Try.func194 rfl (by kernel_rfl) (Nat.le_of_ble_eq_true (by kernel_rfl)) ?_
  intro w0
  unfold spec_l02Opposite at h
  refine AW.seq (AW.rA ⟨[(1, (vc (.flt .f32 a1.bits))), (2, (vp 1 0)), (4, (vp 2 0))], [(1, (.box [(.c (.flt .f32 a0.W.bits)), (.c (.flt .f32 a0.X.bits)), (.c (.flt .f32 a0.Y.bits)), (.c (.flt .f32 a0.Z.bits))])), (2, (.box [(.c (.flt .f32 (default : F32).bits)), (.c (.flt .f32 (default : F32).bits)), (.c (.flt .f32 (default : F32).bits)), (.c (.flt .f32 (default : F32).bits))]))]⟩ (T2 Tt) [.box 1, .box 2] [1, 2, 4] [1, 2] ⟨tr, tr, tr⟩ (thenQ_normal ?_))
  refine AW.seq ?_
  refine AW.seq (AW.rA ⟨[(2, (vp 1 0)), (4, (vp 2 0)), (6, (vc (.bool (a1.lt' (Fl.mk (k := .f32) 0 (by decide))))))], [(1, (.box [(.c (.flt .f32 a0.W.bits)), (.c (.flt .f32 a0.X.bits)), (.c (.flt .f32 a0.Y.bits)), (.c (.flt .f32 a0.Z.bits))])), (2, (.box [(.c (.flt .f32 (default : F32).bits)), (.c (.flt .f32 (default : F32).bits)), (.c (.flt .f32 (default : F32).bits)), (.c (.flt .f32 (default : F32).bits))]))]⟩ (T2 Tt) [] [2, 4, 6] [1, 2] ⟨tr, tr, tr⟩ (thenQ_normal ?_))
  rcases ite2_cases h with ⟨b1, h⟩ | ⟨b1, h⟩
  · refine AW.cond_t rfl b1 ?_
    refine AW.seq (AW.rA ⟨[(4, (vp 2 0))], [(2, (.box [(.c (.flt .f32 (a0.W.neg).bits)), (.c (.flt .f32 (a0.X.neg).bits)), (.c (.flt .f32 (a0.Y.neg).bits)), (.c (.flt .f32 (a0.Z.neg).bits))]))]⟩ (T2 (T4 (T4 (T4 Tt)))) [] [4] [2] ⟨tr, tr, tr, tr, tr, tr, tr, tr, tr, tr, tr, tr, tr, tr, tr⟩ (thenQ_normal ?_))
    refine AW.ret ?_
    refine thenQ_ret ?_
    replace h := some_eq h
    subst h
    exact ⟨.inr rfl, retOK_of [(.agg [(.c (.flt .f32 (a0.W.neg).bits)), (.c (.flt .f32 (a0.X.neg).bits)), (.c (.flt .f32 (a0.Y.neg).bits)), (.c (.flt .f32 (a0.Z.neg).bits))])] (by kernel_rfl) ⟨⟨⟨rfl, tr⟩, ⟨rfl, tr⟩, ⟨rfl, tr⟩, ⟨rfl, tr⟩, tr⟩, tr⟩ (of_decide_eq_true (by kernel_rfl))⟩
  · refine AW.cond_f rfl b1 ?_
    refine AW.skip ?_
    refine thenQ_normal ?_
    refine AW.seq (AW.rA ⟨[(4, (vp 2 0))], [(2, (.box [(.c (.flt .f32 a0.W.bits)), (.c (.flt .f32 a0.X.bits)), (.c (.flt .f32 a0.Y.bits)), (.c (.flt .f32 a0.Z.bits))]))]⟩ (T2 Tt) [] [4] [2] ⟨tr, tr, tr⟩ (thenQ_normal ?_))
    refine AW.ret ?_
    replace h := some_eq h
    subst h
    exact ⟨.inr rfl, retOK_of [(.agg [(.c (.flt .f32 a0.W.bits)), (.c (.flt .f32 a0.X.bits)), (.c (.flt .f32 a0.Y.bits)), (.c (.flt .f32 a0.Z.bits))])] (by kernel_rfl) ⟨⟨⟨rfl, tr⟩, ⟨rfl, tr⟩, ⟨rfl, tr⟩, ⟨rfl, tr⟩, tr⟩, tr⟩ (of_decide_eq_true (by kernel_rfl))⟩

/-! spec.l02Step -/
def spec_l02Step (_K : Nat) (a0 : F32) (a1 : F32) (a2 : F32) : Option (F32) :=
  some (a0.add (a2.mul (a1.sub a0)))

theorem ok_spec_l02Step (K : Nat) (a0 : F32) (a1 : F32) (a2 : F32) (o : (F32)) (h : spec_l02Step K a0 a1 a2 = some o) : CallOK Try.prog 195 [.one (.flt .f32 a0.bits), .one (.flt .f32 a1.bits), .one (.flt .f32 a2.bits)] [.one (.flt .f32 o.bits)] := by
  refine callOK_of_AW Try.func195 rfl (by kernel_rfl) (Nat.le_of_ble_eq_true (by kernel_rfl)) ?_
  intro w0
  unfold spec_l02Step at h
  refine AW.seq (AW.rA ⟨[(0, (vc (.flt .f32 a0.bits))), (1, (vc (.flt .f32 a1.bits))), (2, (vc (.flt .f32 a2.bits)))], []⟩ (Tt ∧ Tt) [] [0, 1, 2] [] ⟨tr, tr⟩ (thenQ_normal ?_))
  refine AW.seq (AW.rA ⟨[(6, (vc (.flt .f32 (a0.add (a2.mul (a1.sub a0))).bits)))], []⟩ (T4 (T4 Tt)) [] [6] [] ⟨tr, tr, tr, tr, tr, tr, tr, tr, tr⟩ (thenQ_normal ?_))
  refine AW.ret ?_
  replace h := some_eq h
  subst h
  exact ⟨.inr rfl, retOK_of [(.one (.c (.flt .f32 (a0.add (a2.mul (a1.sub a0))).bits)))] (by kernel_rfl) ⟨⟨rfl, tr⟩, tr⟩ (of_decide_eq_true (by kernel_rfl))⟩

/-! math.sqrt -/
def math_sqrt (_K : Nat) (a0 : F64) : Option (F64) :=
  some a0.sqrt

theorem ok_math_sqrt (K : Nat) (a0 : F64) (o : F64) (h : math_sqrt K a0 = some o) : CallOK Try.prog 218 [.one (.flt .f64 a0.bits)] [.one (.flt .f64 o.bits)] :=
  hand_sqrt (e := Extern.MathSqrt.sqrt) Try.func218 (by kernel_rfl) (by kernel_rfl) (by kernel_rfl) (by kernel_rfl) (fun _ => rfl) a0 o h

/-! math.Sqrt -/
def math_Sqrt (K : Nat) (a0 : F64) : Option (F64) :=
  (math_sqrt K a0).bind fun v1 => some v1

theorem ok_math_Sqrt (K : Nat) (a0 : F64) (o : (F64)) (h : math_Sqrt K a0 = some o) : CallOK Try.prog 208 [.one (.flt .f64 a0.bits)] [.one (.flt .f64 o.bits)] := by
  refine callOK_of_AW Try.func208 rfl (by kernel_rfl) (Nat.le_of_ble_eq_true (by kernel_rfl)) ?_
  intro w0
  unfold math_Sqrt at h
  refine AW.seq (AW.rA ⟨[(0, (vc (.flt .f64 a0.bits)))], []⟩ (Tt ∧ Tt) [] [0] [] ⟨tr, tr⟩ (thenQ_normal ?_))
  refine AW.seq ?_
  obtain ⟨v1, e2, h⟩ := bind_some h
  refine AW.rA ⟨[(2, (vc (.flt .f64 v1.bits)))], []⟩ (Tt ∧ (((Eqc (.flt .f64 a0.bits)) ∧ Tt) ∧ CallOK Try.prog 218 [.one (.flt .f64 a0.bits)] [.one (.flt .f64 v1.bits)]) ∧ Tt ∧ Tt) [.no, .call [.one (.flt .f64 a0.bits)] [.one (.flt .f64 v1.bits)] [[.view]]] [2] [] ⟨tr, ⟨⟨rfl, tr⟩, ok_math_sqrt K a0 v1 e2⟩, tr, tr⟩ ?_
  refine thenQ_normal ?_
  refine AW.ret ?_
  replace h := some_eq h
  subst h
  exact ⟨.inr rfl, retOK_of [(.one (.c (.flt .f64 v1.bits)))] (by kernel_rfl) ⟨⟨rfl, tr⟩, tr⟩ (of_decide_eq_true (by kernel_rfl))⟩

/-! spec.l01Narrow -/
def spec_l01Narrow (_K : Nat) (a0 : F64) : Option (F32) :=
  chk ((convBits .f64 a0.bits .f32).isSome = true) (some (Fl.cv .f64 .f32 a0))

theorem ok_spec_l01Narrow (K : Nat) (a0 : F64) (o : (F32)) (h : spec_l01Narrow K a0 = some o) : CallOK Try.prog 207 [.one (.flt .f64 a0.bits)] [.one (.flt .f32 o.bits)] := by
  refine callOK_of_AW Try.func207 rfl (by kernel_rfl) (Nat.le_of_ble_eq_true (by kernel_rfl)) ?_
  intro w0
  unfold spec_l01Narrow at h
  refine AW.seq (AW.rA ⟨[(0, (vc (.flt .f64 a0.bits)))], []⟩ (Tt ∧ Tt) [] [0] [] ⟨tr, tr⟩ (thenQ_normal ?_))
  refine AW.seq ?_
  obtain ⟨c1, h⟩ := chk_some h
  refine AW.rA ⟨[(2, (vc (.flt .f32 (Fl.cv .f64 .f32 a0).bits)))], []⟩ (Tt ∧ ((convBits .f64 a0.bits .f32).isSome = true) ∧ Tt ∧ Tt) [] [2] [] ⟨tr, c1, tr, tr⟩ ?_
  refine thenQ_normal ?_
  refine AW.ret ?_
  replace h := some_eq h
  subst h
  exact ⟨.inr rfl, retOK_of [(.one (.c (.flt .f32 (Fl.cv .f64 .f32 a0).bits)))] (by kernel_rfl) ⟨⟨rfl, tr⟩, tr⟩ (of_decide_eq_true (by kernel_rfl))⟩

/-! spec.l01Sqrt -/
def spec_l01Sqrt (K : Nat) (a0 : F32) : Option (F32) :=
  (math_Sqrt K (Fl.cv .f32 .f64 a0)).bind fun v1 => (spec_l01Narrow K v1).bind fun v3 => some v3

theorem ok_spec_l01Sqrt (K : Nat) (a0 : F32) (o : (F32)) (h : spec_l01Sqrt K a0 = some o) : CallOK Try.prog 180 [.one (.flt .f32 a0.bits)] [.one (.flt .f32 o.bits)] := by
  refine callOK_of_AW Try.func180 rfl (by kernel_rfl) (Nat.le_of_ble_eq_true (by kernel_rfl)) ?_
  intro w0
  unfold spec_l01Sqrt at h
  refine AW.seq (AW.rA ⟨[(0, (vc (.flt .f32 a0.bits)))], []⟩ (Tt ∧ Tt) [] [0] [] ⟨tr, tr⟩ (thenQ_normal ?_))
  refine AW.seq ?_
  obtain ⟨v1, e2, h⟩ := bind_some h
  obtain ⟨v3, e4, h⟩ := bind_some h
  refine AW.rA ⟨[(2, (vc (.flt .f32 v3.bits)))], []⟩ (Tt ∧ ((convBits .f32 a0.bits .f64).isSome = true) ∧ (((Eqc (.flt .f64 (Fl.cv .f32 .f64 a0).bits)) ∧ Tt) ∧ CallOK Try.prog 208 [.one (.flt .f64 (Fl.cv .f32 .f64 a0).bits)] [.one (.flt .f64 v1.bits)]) ∧ (((Eqc (.flt .f64 v1.bits)) ∧ Tt) ∧ CallOK Try.prog 207 [.one (.flt .f64 v1.bits)] [.one (.flt .f32 v3.bits)]) ∧ Tt ∧ Tt) [.no, .no, .call [.one (.flt .f64 (Fl.cv .f32 .f64 a0).bits)] [.one (.flt .f64 v1.bits)] [[.view]], .call [.one (.flt .f64 v1.bits)] [.one (.flt .f32 v3.bits)] [[.view]]] [2] [] ⟨tr, cv_wide a0, ⟨⟨rfl, tr⟩, ok_math_Sqrt K (Fl.cv .f32 .f64 a0) v1 e2⟩, ⟨⟨rfl, tr⟩, ok_spec_l01Narrow K v1 v3 e4⟩, tr, tr⟩ ?_
  refine thenQ_normal ?_
  refine AW.ret ?_
  replace h := some_eq h
  subst h
  exact ⟨.inr rfl, retOK_of [(.one (.c (.flt .f32 v3.bits)))] (by kernel_rfl) ⟨⟨rfl, tr⟩, tr⟩ (of_decide_eq_true (by kernel_rfl))⟩

/-! spec.l01Finite -/
def spec_l01Finite (_K : Nat) (a0 : F32) : Option (Bool) :=
  some ((a0.sub a0).eq (Fl.mk (k := .f32) 0 (by decide)))

theorem ok_spec_l01Finite (K : Nat) (a0 : F32) (o : (Bool)) (h : spec_l01Finite K a0 = some o) : CallOK Try.prog 132 [.one (.flt .f32 a0.bits)] [.one (.bool o)] := by
  refine callOK_of_AW Try.func132 rfl (by kernel_rfl) (Nat.le_of_ble_eq_true (by kernel_rfl)) ?_
  intro w0
  unfold spec_l01Finite at h
  refine AW.seq (AW.rA ⟨[(0, (vc (.flt .f32 a0.bits)))], []⟩ (Tt ∧ Tt) [] [0] [] ⟨tr, tr⟩ (thenQ_normal ?_))
  refine AW.seq (AW.rA ⟨[(2, (vc (.bool ((a0.sub a0).eq (Fl.mk (k := .f32) 0 (by decide))))))], []⟩ (Tt ∧ T4 Tt) [] [2] [] ⟨tr, tr, tr, tr, tr, tr⟩ (thenQ_normal ?_))
  refine AW.ret ?_
  replace h := some_eq h
  subst h
  exact ⟨.inr rfl, retOK_of [(.one (.c (.bool ((a0.sub a0).eq (Fl.mk (k := .f32) 0 (by decide))))))] (by kernel_rfl) ⟨⟨rfl, tr⟩, tr⟩ (of_decide_eq_true (by kernel_rfl))⟩

/-! spec.l02No -/
def spec_l02No (_K : Nat) : Option (Turn) :=
  some (Turn.mk (Fl.mk (k := .f32) 1065353216 (by decide)) (default : F32) (default : F32) (default : F32))

theorem ok_spec_l02No (K : Nat) (o : (Turn)) (h : spec_l02No K  = some o) : CallOK Try.prog 182 [] [.agg (cs_Turn o)] := by
  refine callOK_of_AW Try.func182 rfl (by kernel_rfl) (Nat.le_of_ble_eq_true (by kernel_rfl)) ?_
  intro w0
  unfold spec_l02No at h
  refine AW.seq (AW.rA ⟨[(0, (vp 1 0))], [(1, (.box [(.c (.flt .f32 (default : F32).bits)), (.c (.flt .f32 (default : F32).bits)), (.c (.flt .f32 (default : F32).bits)), (.c (.flt .f32 (default : F32).bits))]))]⟩ (Tt ∧ Tt) [.box 1] [0] [1] ⟨tr, tr⟩ (thenQ_normal ?_))
  refine AW.seq (AW.rA ⟨[(0, (vp 1 0))], [(1, (.box [(.c (.flt .f32 (Fl.mk (k := .f32) 1065353216 (by decide)).bits)), (.c (.flt .f32 (default : F32).bits)), (.c (.flt .f32 (default : F32).bits)), (.c (.flt .f32 (default : F32).bits))]))]⟩ (T2 Tt) [] [0] [1] ⟨tr, tr, tr⟩ (thenQ_normal ?_))
  refine AW.ret ?_
  replace h := some_eq h
  subst h
  exact ⟨.inr rfl, retOK_of [(.agg [(.c (.flt .f32 (Fl.mk (k := .f32) 1065353216 (by decide)).bits)), (.c (.flt .f32 (default : F32).bits)), (.c (.flt .f32 (default : F32).bits)), (.c (.flt .f32 (default : F32).bits))])] (by kernel_rfl) ⟨⟨⟨rfl, tr⟩, ⟨rfl, tr⟩, ⟨rfl, tr⟩, ⟨rfl, tr⟩, tr⟩, tr⟩ (of_decide_eq_true (by kernel_rfl))⟩

/-! spec.l02Mend -/
def spec_l02Mend (K : Nat) (a0 : Turn) : Option (Turn) :=
  (spec_l02Inner K a0 a0).bind fun v1 => (spec_l01Sqrt K v1).bind fun v3 => (ite2 ((v3.eq (Fl.mk (k := .f32) 0 (by decide)))) (some true) ((spec_l01Finite K v3).bind fun v6 => some (!v6))).bind fun j8 => ite2 (j8) ((spec_l02No K ).bind fun v11 => some v11) (some (Turn.mk (a0.W.div v3) (a0.X.div v3) (a0.Y.div v3) (a0.Z.div v3)))

theorem ok_spec_l02Mend (K : Nat) (a0 : Turn) (o : (Turn)) (h : spec_l02Mend K a0 = some o) : CallOK Try.prog 131 [.agg (cs_Turn a0)] [.agg (cs_Turn o)] := by
  refine callOK_of_AW Try.func131 rfl (by kernel_rfl) (Nat.le_of_ble_eq_true (by kernel_rfl)) ?_
  intro w0
  unfold spec_l02Mend at h
  refine AW.seq (AW.rA ⟨[(1, (vp 1 0)), (2, (vp 2 0))], [(1, (.box [(.c (.flt .f32 a0.W.bits)), (.c (.flt .f32 a0.X.bits)), (.c (.flt .f32 a0.Y.bits)), (.c (.flt .f32 a0.Z.bits))])), (2, (.box [(.c (.flt .f32 (default : F32).bits)), (.c (.flt .f32 (default : F32).bits)), (.c (.flt .f32 (default : F32).bits)), (.c (.flt .f32 (default : F32).bits))]))]⟩ (T2 Tt) [.box 1, .box 2] [1, 2] [1, 2] ⟨tr, tr, tr⟩ (thenQ_normal ?_))
  refine AW.seq ?_
  obtain ⟨v1, e2, h⟩ := bind_some h
  obtain ⟨v3, e4, h⟩ := bind_some h
  refine AW.rA ⟨[(1, (vp 1 0)), (2, (vp 2 0)), (3, (vc (.flt .f32 v3.bits)))], [(1, (.box [(.c (.flt .f32 a0.W.bits)), (.c (.flt .f32 a0.X.bits)), (.c (.flt .f32 a0.Y.bits)), (.c (.flt .f32 a0.Z.bits))])), (2, (.box [(.c (.flt .f32 (default : F32).bits)), (.c (.flt .f32 (default : F32).bits)), (.c (.flt .f32 (default : F32).bits)), (.c (.flt .f32 (default : F32).bits))]))]⟩ (T2 (((((Eqc (.flt .f32 a0.W.bits)) ∧ (Eqc (.flt .f32 a0.X.bits)) ∧ (Eqc (.flt .f32 a0.Y.bits)) ∧ (Eqc (.flt .f32 a0.Z.bits)) ∧ Tt) ∧ ((Eqc (.flt .f32 a0.W.bits)) ∧ (Eqc (.flt .f32 a0.X.bits)) ∧ (Eqc (.flt .f32 a0.Y.bits)) ∧ (Eqc (.flt .f32 a0.Z.bits)) ∧ Tt) ∧ Tt) ∧ CallOK Try.prog 181 [.agg (cs_Turn a0), .agg (cs_Turn a0)] [.one (.flt .f32 v1.bits)]) ∧ (((Eqc (.flt .f32 v1.bits)) ∧ Tt) ∧ CallOK Try.prog 180 [.one (.flt .f32 v1.bits)] [.one (.flt .f32 v3.bits)]) ∧ Tt ∧ Tt)) [.no, .no, .call [.agg (cs_Turn a0), .agg (cs_Turn a0)] [.one (.flt .f32 v1.bits)] [[.view]], .call [.one (.flt .f32 v1.bits)] [.one (.flt .f32 v3.bits)] [[.view]]] [1, 2, 3] [1, 2] ⟨tr, tr, ⟨⟨⟨rfl, rfl, rfl, rfl, tr⟩, ⟨rfl, rfl, rfl, rfl, tr⟩, tr⟩, ok_spec_l02Inner K a0 a0 v1 e2⟩, ⟨⟨rfl, tr⟩, ok_spec_l01Sqrt K v1 v3 e4⟩, tr, tr⟩ ?_
  refine thenQ_normal ?_
  refine AW.seq ?_
  refine AW.seq ?_
  obtain ⟨j8, e9, h⟩ := bind_some h
  refine AW.join1 (s2 := ⟨[(1, (vp 1 0)), (2, (vp 2 0)), (3, (vc (.flt .f32 v3.bits))), (14, (vc (.bool j8)))], [(1, (.box [(.c (.flt .f32 a0.W.bits)), (.c (.flt .f32 a0.X.bits)), (.c (.flt .f32 a0.Y.bits)), (.c (.flt .f32 a0.Z.bits))])), (2, (.box [(.c (.flt .f32 (default : F32).bits)), (.c (.flt .f32 (default : F32).bits)), (.c (.flt .f32 (default : F32).bits)), (.c (.flt .f32 (default : F32).bits))]))]⟩) ?_ ?_
  · rcases ite2_cases e9 with ⟨b5, e9⟩ | ⟨b5, e9⟩
    · replace e9 := some_eq e9
      subst e9
      exact AW.rA ⟨[(1, (vp 1 0)), (2, (vp 2 0)), (3, (vc (.flt .f32 v3.bits))), (14, (vc (.bool true)))], [(1, (.box [(.c (.flt .f32 a0.W.bits)), (.c (.flt .f32 a0.X.bits)), (.c (.flt .f32 a0.Y.bits)), (.c (.flt .f32 a0.Z.bits))])), (2, (.box [(.c (.flt .f32 (default : F32).bits)), (.c (.flt .f32 (default : F32).bits)), (.c (.flt .f32 (default : F32).bits)), (.c (.flt .f32 (default : F32).bits))]))]⟩ (T2 ((Tt ∧ (v3.eq (Fl.mk (k := .f32) 0 (by decide))) = true) ∧ T4 Tt)) [.no, .no, .dec true] [1, 2, 3, 14] [1, 2] ⟨tr, tr, ⟨tr, b5⟩, tr, tr, tr, tr, tr⟩ ⟨rfl, rfl⟩
    · obtain ⟨v6, e7, e9⟩ := bind_some e9
      replace e9 := some_eq e9
      subst e9
      exact AW.rA ⟨[(1, (vp 1 0)), (2, (vp 2 0)), (3, (vc (.flt .f32 v3.bits))), (14, (vc (.bool (!v6))))], [(1, (.box [(.c (.flt .f32 a0.W.bits)), (.c (.flt .f32 a0.X.bits)), (.c (.flt .f32 a0.Y.bits)), (.c (.flt .f32 a0.Z.bits))])), (2, (.box [(.c (.flt .f32 (default : F32).bits)), (.c (.flt .f32 (default : F32).bits)), (.c (.flt .f32 (default : F32).bits)), (.c (.flt .f32 (default : F32).bits))]))]⟩ (T2 ((Tt ∧ (v3.eq (Fl.mk (k := .f32) 0 (by decide))) = false) ∧ Tt ∧ (((Eqc (.flt .f32 v3.bits)) ∧ Tt) ∧ CallOK Try.prog 132 [.one (.flt .f32 v3.bits)] [.one (.bool v6)]) ∧ T2 Tt)) [.no, .no, .dec false, .no, .call [.one (.flt .f32 v3.bits)] [.one (.bool v6)] [[.view]]] [1, 2, 3, 14] [1, 2] ⟨tr, tr, ⟨tr, b5⟩, tr, ⟨⟨rfl, tr⟩, ok_spec_l01Finite K v3 v6 e7⟩, tr, tr, tr⟩ ⟨rfl, rfl⟩
  refine thenQ_normal ?_
  rcases ite2_cases h with ⟨b10, h⟩ | ⟨b10, h⟩
  · refine AW.cond_t rfl b10 ?_
    refine AW.seq ?_
    obtain ⟨v11, e12, h⟩ := bind_some h
    refine AW.rA ⟨[(2, (vp 2 0))], [(2, (.box [(.c (.flt .f32 v11.W.bits)), (.c (.flt .f32 v11.X.bits)), (.c (.flt .f32 v11.Y.bits)), (.c (.flt .f32 v11.Z.bits))]))]⟩ (((Tt) ∧ CallOK Try.prog 182 [] [.agg (cs_Turn v11)]) ∧ Tt ∧ Tt) [.call [] [.agg (cs_Turn v11)] [[.view, .view, .view, .view]]] [2] [2] ⟨⟨tr, ok_spec_l02No K v11 e12⟩, tr, tr⟩ ?_
    refine thenQ_normal ?_
    refine AW.ret ?_
    refine thenQ_ret ?_
    replace h := some_eq h
    subst h
    exact ⟨.inr rfl, retOK_of [(.agg [(.c (.flt .f32 v11.W.bits)), (.c (.flt .f32 v11.X.bits)), (.c (.flt .f32 v11.Y.bits)), (.c (.flt .f32 v11.Z.bits))])] (by kernel_rfl) ⟨⟨⟨rfl, tr⟩, ⟨rfl, tr⟩, ⟨rfl, tr⟩, ⟨rfl, tr⟩, tr⟩, tr⟩ (of_decide_eq_true (by kernel_rfl))⟩
  · refine AW.cond_f rfl b10 ?_
    refine AW.skip ?_
    refine thenQ_normal ?_
    refine AW.seq (AW.rA ⟨[(2, (vp 2 0))], [(2, (.box [(.c (.flt .f32 (a0.W.div v3).bits)), (.c (.flt .f32 (a0.X.div v3).bits)), (.c (.flt .f32 (a0.Y.div v3).bits)), (.c (.flt .f32 (a0.Z.div v3).bits))]))]⟩ (T2 (T4 (T4 (T4 (T4 Tt))))) [] [2] [2] ⟨tr, tr, tr, tr, tr, tr, tr, tr, tr, tr, tr, tr, tr, tr, tr, tr, tr, tr, tr⟩ (thenQ_normal ?_))
    refine AW.ret ?_
    replace h := some_eq h
    subst h
    exact ⟨.inr rfl, retOK_of [(.agg [(.c (.flt .f32 (a0.W.div v3).bits)), (.c (.flt .f32 (a0.X.div v3).bits)), (.c (.flt .f32 (a0.Y.div v3).bits)), (.c (.flt .f32 (a0.Z.div v3).bits))])] (by kernel_rfl) ⟨⟨⟨rfl, tr⟩, ⟨rfl, tr⟩, ⟨rfl, tr⟩, ⟨rfl, tr⟩, tr⟩, tr⟩ (of_decide_eq_true (by kernel_rfl))⟩

/-! spec.l02Near -/
def spec_l02Near (K : Nat) (a0 : Turn) (a1 : Turn) (a2 : F32) : Option (Turn) :=
  (spec_l02Inner K a0 a1).bind fun v1 => (spec_l02Opposite K a1 v1).bind fun v3 => (spec_l02Step K a0.W v3.W a2).bind fun v5 => (spec_l02Step K a0.X v3.X a2).bind fun v7 => (spec_l02Step K a0.Y v3.Y a2).bind fun v9 => (spec_l02Step K a0.Z v3.Z a2).bind fun v11 => (spec_l02Mend K (Turn.mk v5 v7 v9 v11)).bind fun v13 => some v13

theorem ok_spec_l02Near (K : Nat) (a0 : Turn) (a1 : Turn) (a2 : F32) (o : (Turn)) (h : spec_l02Near K a0 a1 a2 = some o) : CallOK Try.prog 159 [.agg (cs_Turn a0), .agg (cs_Turn a1), .one (.flt .f32 a2.bits)] [.agg (cs_Turn o)] := by
  refine callOK_of_AW Try.func159 rfl (by kernel_rfl) (Nat.le_of_ble_eq_true (by kernel_rfl)) ?_
  intro w0
  unfold spec_l02Near at h
  refine AW.seq (AW.rA ⟨[(2, (vc (.flt .f32 a2.bits))), (3, (vp 1 0)), (4, (vp 2 0)), (6, (vp 3 0))], [(1, (.box [(.c (.flt .f32 a0.W.bits)), (.c (.flt .f32 a0.X.bits)), (.c (.flt .f32 a0.Y.bits)), (.c (.flt .f32 a0.Z.bits))])), (2, (.box [(.c (.flt .f32 a1.W.bits)), (.c (.flt .f32 a1.X.bits)), (.c (.flt .f32 a1.Y.bits)), (.c (.flt .f32 a1.Z.bits))])), (3, (.box [(.c (.flt .f32 (default : F32).bits)), (.c (.flt .f32 (default : F32).bits)), (.c (.flt .f32 (default : F32).bits)), (.c (.flt .f32 (default : F32).bits))]))]⟩ (Tt ∧ T2 Tt) [.box 1, .box 2, .box 3] [2, 3, 4, 6] [1, 2, 3] ⟨tr, tr, tr, tr⟩ (thenQ_normal ?_))
  refine AW.seq ?_
  obtain ⟨v1, e2, h⟩ := bind_some h
  obtain ⟨v3, e4, h⟩ := bind_some h
  refine AW.dA ⟨[(2, (vc (.flt .f32 a2.bits))), (3, (vp 1 0)), (4, (vp 2 0)), (6, (vp 3 0))], [(1, (.box [(.c (.flt .f32 a0.W.bits)), (.c (.flt .f32 a0.X.bits)), (.c (.flt .f32 a0.Y.bits)), (.c (.flt .f32 a0.Z.bits))])), (2, (.box [(.c (.flt .f32 v3.W.bits)), (.c (.flt .f32 v3.X.bits)), (.c (.flt .f32 v3.Y.bits)), (.c (.flt .f32 v3.Z.bits))])), (3, (.box [(.c (.flt .f32 (default : F32).bits)), (.c (.flt .f32 (default : F32).bits)), (.c (.flt .f32 (default : F32).bits)), (.c (.flt .f32 (default : F32).bits))]))]⟩ ((Tt ∧ T2 (((((Eqc (.flt .f32 a0.W.bits)) ∧ (Eqc (.flt .f32 a0.X.bits)) ∧ (Eqc (.flt .f32 a0.Y.bits)) ∧ (Eqc (.flt .f32 a0.Z.bits)) ∧ Tt) ∧ ((Eqc (.flt .f32 a1.W.bits)) ∧ (Eqc (.flt .f32 a1.X.bits)) ∧ (Eqc (.flt .f32 a1.Y.bits)) ∧ (Eqc (.flt .f32 a1.Z.bits)) ∧ Tt) ∧ Tt) ∧ CallOK Try.prog 181 [.agg (cs_Turn a0), .agg (cs_Turn a1)] [.one (.flt .f32 v1.bits)]) ∧ ((((Eqc (.flt .f32 a1.W.bits)) ∧ (Eqc (.flt .f32 a1.X.bits)) ∧ (Eqc (.flt .f32 a1.Y.bits)) ∧ (Eqc (.flt .f32 a1.Z.bits)) ∧ Tt) ∧ (Eqc (.flt .f32 v1.bits)) ∧ Tt) ∧ CallOK Try.prog 194 [.agg (cs_Turn a1), .one (.flt .f32 v1.bits)] [.agg (cs_Turn v3)]) ∧ Tt)) ∧ (Tt ∧ Tt)) 5 [.no, .no, .no, .call [.agg (cs_Turn a0), .agg (cs_Turn a1)] [.one (.flt .f32 v1.bits)] [[.view]], .call [.agg (cs_Turn a1), .one (.flt .f32 v1.bits)] [.agg (cs_Turn v3)] [[.view, .view, .view, .view]]] [2, 3, 4, 6] [1, 2, 3] ⟨⟨tr, tr, tr, ⟨⟨⟨rfl, rfl, rfl, rfl, tr⟩, ⟨rfl, rfl, rfl, rfl, tr⟩, tr⟩, ok_spec_l02Inner K a0 a1 v1 e2⟩, ⟨⟨⟨rfl, rfl, rfl, rfl, tr⟩, rfl, tr⟩, ok_spec_l02Opposite K a1 v1 v3 e4⟩, tr⟩, ⟨tr, tr⟩⟩ ?_
  refine thenQ_normal ?_
  refine AW.seq ?_
  obtain ⟨v5, e6, h⟩ := bind_some h
  obtain ⟨v7, e8, h⟩ := bind_some h
  obtain ⟨v9, e10, h⟩ := bind_some h
  obtain ⟨v11, e12, h⟩ := bind_some h
  obtain ⟨v13, e14, h⟩ := bind_some h
  refine AW.dA ⟨[(6, (vp 3 0))], [(3, (.box [(.c (.flt .f32 v13.W.bits)), (.c (.flt .f32 v13.X.bits)), (.c (.flt .f32 v13.Y.bits)), (.c (.flt .f32 v13.Z.bits))]))]⟩ ((Tt ∧ T4 ((((Eqc (.flt .f32 a0.W.bits)) ∧ (Eqc (.flt .f32 v3.W.bits)) ∧ (Eqc (.flt .f32 a2.bits)) ∧ Tt) ∧ CallOK Try.prog 195 [.one (.flt .f32 a0.W.bits), .one (.flt .f32 v3.W.bits), .one (.flt .f32 a2.bits)] [.one (.flt .f32 v5.bits)]) ∧ Tt ∧ T4 ((((Eqc (.flt .f32 a0.X.bits)) ∧ (Eqc (.flt .f32 v3.X.bits)) ∧ (Eqc (.flt .f32 a2.bits)) ∧ Tt) ∧ CallOK Try.prog 195 [.one (.flt .f32 a0.X.bits), .one (.flt .f32 v3.X.bits), .one (.flt .f32 a2.bits)] [.one (.flt .f32 v7.bits)]) ∧ Tt ∧ T4 ((((Eqc (.flt .f32 a0.Y.bits)) ∧ (Eqc (.flt .f32 v3.Y.bits)) ∧ (Eqc (.flt .f32 a2.bits)) ∧ Tt) ∧ CallOK Try.prog 195 [.one (.flt .f32 a0.Y.bits), .one (.flt .f32 v3.Y.bits), .one (.flt .f32 a2.bits)] [.one (.flt .f32 v9.bits)]) ∧ Tt ∧ T4 ((((Eqc (.flt .f32 a0.Z.bits)) ∧ (Eqc (.flt .f32 v3.Z.bits)) ∧ (Eqc (.flt .f32 a2.bits)) ∧ Tt) ∧ CallOK Try.prog 195 [.one (.flt .f32 a0.Z.bits), .one (.flt .f32 v3.Z.bits), .one (.flt .f32 a2.bits)] [.one (.flt .f32 v11.bits)]) ∧ Tt ∧ ((((Eqc (.flt .f32 v5.bits)) ∧ (Eqc (.flt .f32 v7.bits)) ∧ (Eqc (.flt .f32 v9.bits)) ∧ (Eqc (.flt .f32 v11.bits)) ∧ Tt) ∧ Tt) ∧ CallOK Try.prog 131 [.agg (cs_Turn (Turn.mk v5 v7 v9 v11))] [.agg (cs_Turn v13)]) ∧ Tt))))) ∧ (Tt ∧ Tt)) 26 [.no, .no, .no, .no, .no, .call [.one (.flt .f32 a0.W.bits), .one (.flt .f32 v3.W.bits), .one (.flt .f32 a2.bits)] [.one (.flt .f32 v5.bits)] [[.view]], .no, .no, .no, .no, .no, .call [.one (.flt .f32 a0.X.bits), .one (.flt .f32 v3.X.bits), .one (.flt .f32 a2.bits)] [.one (.flt .f32 v7.bits)] [[.view]], .no, .no, .no, .no, .no, .call [.one (.flt .f32 a0.Y.bits), .one (.flt .f32 v3.Y.bits), .one (.flt .f32 a2.bits)] [.one (.flt .f32 v9.bits)] [[.view]], .no, .no, .no, .no, .no, .call [.one (.flt .f32 a0.Z.bits), .one (.flt .f32 v3.Z.bits), .one (.flt .f32 a2.bits)] [.one (.flt .f32 v11.bits)] [[.view]], .no, .call [.agg (cs_Turn (Turn.mk v5 v7 v9 v11))] [.agg (cs_Turn v13)] [[.view, .view, .view, .view]]] [6] [3] ⟨⟨tr, tr, tr, tr, tr, ⟨⟨rfl, rfl, rfl, tr⟩, ok_spec_l02Step K a0.W v3.W a2 v5 e6⟩, tr, tr, tr, tr, tr, ⟨⟨rfl, rfl, rfl, tr⟩, ok_spec_l02Step K a0.X v3.X a2 v7 e8⟩, tr, tr, tr, tr, tr, ⟨⟨rfl, rfl, rfl, tr⟩, ok_spec_l02Step K a0.Y v3.Y a2 v9 e10⟩, tr, tr, tr, tr, tr, ⟨⟨rfl, rfl, rfl, tr⟩, ok_spec_l02Step K a0.Z v3.Z a2 v11 e12⟩, tr, ⟨⟨⟨rfl, rfl, rfl, rfl, tr⟩, tr⟩, ok_spec_l02Mend K (Turn.mk v5 v7 v9 v11) v13 e14⟩, tr⟩, ⟨tr, tr⟩⟩ ?_
  refine thenQ_normal ?_
  refine AW.ret ?_
  replace h := some_eq h
  subst h
  exact ⟨.inr rfl, retOK_of [(.agg [(.c (.flt .f32 v13.W.bits)), (.c (.flt .f32 v13.X.bits)), (.c (.flt .f32 v13.Y.bits)), (.c (.flt .f32 v13.Z.bits))])] (by kernel_rfl) ⟨⟨⟨rfl, tr⟩, ⟨rfl, tr⟩, ⟨rfl, tr⟩, ⟨rfl, tr⟩, tr⟩, tr⟩ (of_decide_eq_true (by kernel_rfl))⟩

/-! spec.l05Turn -/
def spec_l05Turn (K : Nat) (a0 : (List Key)) (a1 : Int) (a2 : Int) : Option (Turn) :=
  (spec_l05At K a0).bind fun v1 => (spec_l05Find K v1 a1 a2).bind fun v3 => (spec_l05Inside K v1 v3.1 a1 a2).bind fun v5 => ite2 (v5) (chk (0 ≤ v3.1 ∧ v3.1 < (a0.length : Int)) (chk (0 ≤ (IntKind.i64.wrap (v3.1 + (1 : Int))) ∧ (IntKind.i64.wrap (v3.1 + (1 : Int))) < (a0.length : Int)) ((spec_l02Near K ((a0.getD v3.1.toNat default).Turn) ((a0.getD ((IntKind.i64.wrap (v3.1 + (1 : Int))).toNat) default).Turn) v3.2).bind fun v10 => some v10))) (chk (0 ≤ v3.1 ∧ v3.1 < (a0.length : Int)) (some ((a0.getD v3.1.toNat default).Turn)))

theorem ok_spec_l05Turn (K : Nat) (a0 : (List Key)) (a1 : Int) (a2 : Int) (o : (Turn)) (h : spec_l05Turn K a0 a1 a2 = some o) : CallOK Try.prog 90 [.one (sl 5 cs_Key a0), .one (.int .i64 a1), .one (.int .i64 a2)] [.agg (cs_Turn o)] := by
  refine callOK_of_AW Try.func90 rfl (by kernel_rfl) (Nat.le_of_ble_eq_true (by kernel_rfl)) ?_
  intro w0
  unfold spec_l05Turn at h
  refine AW.seq (AW.rA ⟨[(0, (vc (sl 5 cs_Key a0))), (1, (vc (.int .i64 a1))), (2, (vc (.int .i64 a2))), (6, (vp 1 0))], [(1, (.box [(.c (.flt .f32 (default : F32).bits)), (.c (.flt .f32 (default : F32).bits)), (.c (.flt .f32 (default : F32).bits)), (.c (.flt .f32 (default : F32).bits))]))]⟩ (Tt ∧ Tt) [.box 1] [0, 1, 2, 6] [1] ⟨tr, tr⟩ (thenQ_normal ?_))
  refine AW.seq ?_
  obtain ⟨v1, e2, h⟩ := bind_some h
  refine AW.rA ⟨[(0, (vc (sl 5 cs_Key a0))), (1, (vc (.int .i64 a1))), (2, (vc (.int .i64 a2))), (6, (vp 1 0)), (7, (.v (.one (.lst 2 v1.length 1 (gl (csI .i64) v1)))))], [(1, (.box [(.c (.flt .f32 (default : F32).bits)), (.c (.flt .f32 (default : F32).bits)), (.c (.flt .f32 (default : F32).bits)), (.c (.flt .f32 (default : F32).bits))])), (2, (.lst v1.length 1 (gl (csI .i64) v1)))]⟩ (Tt ∧ (((Eqc (sl 5 cs_Key a0)) ∧ Tt) ∧ CallOK Try.prog 135 [.one (sl 5 cs_Key a0)] [.one (sl 1 (csI .i64) v1)]) ∧ Tt ∧ Tt) [.no, .call [.one (sl 5 cs_Key a0)] [.one (sl 1 (csI .i64) v1)] [[.lst 2]]] [0, 1, 2, 6, 7] [1, 2] ⟨tr, ⟨⟨rfl, tr⟩, ok_spec_l05At K a0 v1 e2⟩, tr, tr⟩ ?_
  refine thenQ_normal ?_
  refine AW.seq ?_
  obtain ⟨v3, e4, h⟩ := bind_some h
  refine AW.rA ⟨[(0, (vc (sl 5 cs_Key a0))), (1, (vc (.int .i64 a1))), (2, (vc (.int .i64 a2))), (6, (vp 1 0)), (7, (.v (.one (.lst 2 v1.length 1 (gl (csI .i64) v1))))), (8, (vc (.int .i64 v3.1))), (9, (vc (.flt .f32 v3.2.bits)))], [(1, (.box [(.c (.flt .f32 (default : F32).bits)), (.c (.flt .f32 (default : F32).bits)), (.c (.flt .f32 (default : F32).bits)), (.c (.flt .f32 (default : F32).bits))])), (2, (.lst v1.length 1 (gl (csI .i64) v1)))]⟩ (Tt ∧ T2 ((((Eqc (sl 1 (csI .i64) v1)) ∧ (Eqc (.int .i64 a1)) ∧ (Eqc (.int .i64 a2)) ∧ Tt) ∧ CallOK Try.prog 156 [.one (sl 1 (csI .i64) v1), .one (.int .i64 a1), .one (.int .i64 a2)] [.one (.int .i64 v3.1), .one (.flt .f32 v3.2.bits)]) ∧ Tt ∧ T4 Tt)) [.no, .no, .no, .call [.one (sl 1 (csI .i64) v1), .one (.int .i64 a1), .one (.int .i64 a2)] [.one (.int .i64 v3.1), .one (.flt .f32 v3.2.bits)] [[.view], [.view]]] [0, 1, 2, 6, 7, 8, 9] [1, 2] ⟨tr, tr, tr, ⟨⟨rfl, rfl, rfl, tr⟩, ok_spec_l05Find K v1 a1 a2 v3 e4⟩, tr, tr, tr, tr, tr, tr⟩ ?_
  refine thenQ_normal ?_
  refine AW.seq ?_
  refine AW.seq ?_
  obtain ⟨v5, e6, h⟩ := bind_some h
  refine AW.rA ⟨[(0, (vc (sl 5 cs_Key a0))), (6, (vp 1 0)), (8, (vc (.int .i64 v3.1))), (9, (vc (.flt .f32 v3.2.bits))), (23, (vc (.bool v5)))], [(1, (.box [(.c (.flt .f32 (default : F32).bits)), (.c (.flt .f32 (default : F32).bits)), (.c (.flt .f32 (default : F32).bits)), (.c (.flt .f32 (default : F32).bits))]))]⟩ (T4 ((((Eqc (sl 1 (csI .i64) v1)) ∧ (Eqc (.int .i64 v3.1)) ∧ (Eqc (.int .i64 a1)) ∧ (Eqc (.int .i64 a2)) ∧ Tt) ∧ CallOK Try.prog 157 [.one (sl 1 (csI .i64) v1), .one (.int .i64 v3.1), .one (.int .i64 a1), .one (.int .i64 a2)] [.one (.bool v5)]) ∧ Tt)) [.no, .no, .no, .no, .call [.one (sl 1 (csI .i64) v1), .one (.int .i64 v3.1), .one (.int .i64 a1), .one (.int .i64 a2)] [.one (.bool v5)] [[.view]]] [0, 6, 8, 9, 23] [1] ⟨tr, tr, tr, tr, ⟨⟨rfl, rfl, rfl, rfl, tr⟩, ok_spec_l05Inside K v1 v3.1 a1 a2 v5 e6⟩, tr⟩ ?_
  refine thenQ_normal ?_
  rcases ite2_cases h with ⟨b7, h⟩ | ⟨b7, h⟩
  · refine AW.cond_t rfl b7 ?_
    refine AW.seq ?_
    obtain ⟨c8, h⟩ := chk_some h
    obtain ⟨c9, h⟩ := chk_some h
    obtain ⟨v10, e11, h⟩ := bind_some h
    refine AW.dA ⟨[(6, (vp 1 0))], [(1, (.box [(.c (.flt .f32 v10.W.bits)), (.c (.flt .f32 v10.X.bits)), (.c (.flt .f32 v10.Y.bits)), (.c (.flt .f32 v10.Z.bits))]))]⟩ ((T2 ((0 ≤ v3.1 ∧ v3.1 < (a0.length : Int)) ∧ Tt ∧ T4 ((0 ≤ (IntKind.i64.wrap (v3.1 + (1 : Int))) ∧ (IntKind.i64.wrap (v3.1 + (1 : Int))) < (a0.length : Int)) ∧ Tt ∧ T2 (((((Eqc (.flt .f32 (((a0.getD v3.1.toNat default).Turn).W).bits)) ∧ (Eqc (.flt .f32 (((a0.getD v3.1.toNat default).Turn).X).bits)) ∧ (Eqc (.flt .f32 (((a0.getD v3.1.toNat default).Turn).Y).bits)) ∧ (Eqc (.flt .f32 (((a0.getD v3.1.toNat default).Turn).Z).bits)) ∧ Tt) ∧ ((((.flt .f32 (((a0.getD ((IntKind.i64.wrap (v3.1 + (1 : Int))).toNat) default).Turn).W).bits) : C) = (.flt .f32 (((a0.getD ((IntKind.i64.wrap (v3.1 + (1 : Int))).toNat) default).Turn).W).bits)) ∧ (((.flt .f32 (((a0.getD ((IntKind.i64.wrap (v3.1 + (1 : Int))).toNat) default).Turn).X).bits) : C) = (.flt .f32 (((a0.getD ((IntKind.i64.wrap (v3.1 + (1 : Int))).toNat) default).Turn).X).bits)) ∧ (((.flt .f32 (((a0.getD ((IntKind.i64.wrap (v3.1 + (1 : Int))).toNat) default).Turn).Y).bits) : C) = (.flt .f32 (((a0.getD ((IntKind.i64.wrap (v3.1 + (1 : Int))).toNat) default).Turn).Y).bits)) ∧ (((.flt .f32 (((a0.getD ((IntKind.i64.wrap (v3.1 + (1 : Int))).toNat) default).Turn).Z).bits) : C) = (.flt .f32 (((a0.getD ((IntKind.i64.wrap (v3.1 + (1 : Int))).toNat) default).Turn).Z).bits)) ∧ Tt) ∧ (Eqc (.flt .f32 v3.2.bits)) ∧ Tt) ∧ CallOK Try.prog 159 [.agg (cs_Turn ((a0.getD v3.1.toNat default).Turn)), .agg (cs_Turn ((a0.getD ((IntKind.i64.wrap (v3.1 + (1 : Int))).toNat) default).Turn)), .one (.flt .f32 v3.2.bits)] [.agg (cs_Turn v10)]) ∧ Tt)))) ∧ (Tt ∧ Tt)) 13 [.no, .no, .no, .no, .no, .no, .no, .no, .no, .no, .no, .no, .call [.agg (cs_Turn ((a0.getD v3.1.toNat default).Turn)), .agg (cs_Turn ((a0.getD ((IntKind.i64.wrap (v3.1 + (1 : Int))).toNat) default).Turn)), .one (.flt .f32 v3.2.bits)] [.agg (cs_Turn v10)] [[.view, .view, .view, .view]]] [6] [1] ⟨⟨tr, tr, c8, tr, tr, tr, tr, tr, c9, tr, tr, tr, ⟨⟨⟨rfl, rfl, rfl, rfl, tr⟩, ⟨rfl, rfl, rfl, rfl, tr⟩, rfl, tr⟩, ok_spec_l02Near K ((a0.getD v3.1.toNat default).Turn) ((a0.getD ((IntKind.i64.wrap (v3.1 + (1 : Int))).toNat) default).Turn) v3.2 v10 e11⟩, tr⟩, ⟨tr, tr⟩⟩ ?_
    refine thenQ_normal ?_
    refine AW.ret ?_
    refine thenQ_ret ?_
    replace h := some_eq h
    subst h
    exact ⟨.inr rfl, retOK_of [(.agg [(.c (.flt .f32 v10.W.bits)), (.c (.flt .f32 v10.X.bits)), (.c (.flt .f32 v10.Y.bits)), (.c (.flt .f32 v10.Z.bits))])] (by kernel_rfl) ⟨⟨⟨rfl, tr⟩, ⟨rfl, tr⟩, ⟨rfl, tr⟩, ⟨rfl, tr⟩, tr⟩, tr⟩ (of_decide_eq_true (by kernel_rfl))⟩
  · refine AW.cond_f rfl b7 ?_
    refine AW.skip ?_
    refine thenQ_normal ?_
    refine AW.seq ?_
    obtain ⟨c12, h⟩ := chk_some h
    refine AW.rA ⟨[(6, (vp 1 0))], [(1, (.box [(.c (.flt .f32 (((a0.getD v3.1.toNat default).Turn).W).bits)), (.c (.flt .f32 (((a0.getD v3.1.toNat default).Turn).X).bits)), (.c (.flt .f32 (((a0.getD v3.1.toNat default).Turn).Y).bits)), (.c (.flt .f32 (((a0.getD v3.1.toNat default).Turn).Z).bits))]))]⟩ (T2 ((0 ≤ v3.1 ∧ v3.1 < (a0.length : Int)) ∧ Tt ∧ T2 Tt)) [] [6] [1] ⟨tr, tr, c12, tr, tr, tr, tr⟩ ?_
    refine thenQ_normal ?_
    refine AW.ret ?_
    replace h := some_eq h
    subst h
    exact ⟨.inr rfl, retOK_of [(.agg [(.c (.flt .f32 (((a0.getD v3.1.toNat default).Turn).W).bits)), (.c (.flt .f32 (((a0.getD v3.1.toNat default).Turn).X).bits)), (.c (.flt .f32 (((a0.getD v3.1.toNat default).Turn).Y).bits)), (.c (.flt .f32 (((a0.getD v3.1.toNat default).Turn).Z).bits))])] (by kernel_rfl) ⟨⟨⟨rfl, tr⟩, ⟨rfl, tr⟩, ⟨rfl, tr⟩, ⟨rfl, tr⟩, tr⟩, tr⟩ (of_decide_eq_true (by kernel_rfl))⟩

/-! spec.CutClip -/
def spec_CutClip_l5 (K : Nat) (a0 : Clip) (a1 : Int) (a2 : Int) (x16 : Int) : Nat → Int → (List Key) → Option ((List Key))
  | 0, _, _ => none
  | k + 1, x38, x39 => ite2 ((decide (x38 < ((a0.Tracks.getD x16.toNat default).length : Int)))) (chk (0 ≤ x16 ∧ x16 < (a0.Tracks.length : Int)) (chk (0 ≤ x38 ∧ x38 < ((a0.Tracks.getD x16.toNat default).length : Int)) ((ite2 ((decide ((((a0.Tracks.getD x16.toNat default).getD x38.toNat default).At) > a1))) (some (decide ((((a0.Tracks.getD x16.toNat default).getD x38.toNat default).At) < a2))) (some false)).bind fun j44 => ite2 (j44) (chk ((x39.length + ([(Key.mk (IntKind.i64.wrap ((((a0.Tracks.getD x16.toNat default).getD x38.toNat default).At) - a1)) (((a0.Tracks.getD x16.toNat default).getD x38.toNat default).Turn))]).length) * 24 ≤ 140737488355328) (spec_CutClip_l5 K a0 a1 a2 x16 k (IntKind.i64.wrap (x38 + (1 : Int))) (x39 ++ ([(Key.mk (IntKind.i64.wrap ((((a0.Tracks.getD x16.toNat default).getD x38.toNat default).At) - a1)) (((a0.Tracks.getD x16.toNat default).getD x38.toNat default).Turn))])))) (spec_CutClip_l5 K a0 a1 a2 x16 k (IntKind.i64.wrap (x38 + (1 : Int))) x39)))) (some x39)

def spec_CutClip_l6 (K : Nat) (a0 : Clip) (a1 : Int) (a2 : Int) (x17 : (List (List Key))) : Nat → Int → (List RootKey) → Option (Clip × Bool)
  | 0, _, _ => none
  | k + 1, x54, x55 => ite2 ((decide (x54 < (a0.Roots.length : Int)))) (chk (0 ≤ x54 ∧ x54 < (a0.Roots.length : Int)) ((ite2 ((decide (((a0.Roots.getD x54.toNat default).At) > a1))) (some (decide (((a0.Roots.getD x54.toNat default).At) < a2))) (some false)).bind fun j59 => ite2 (j59) (chk ((x55.length + ([(RootKey.mk (IntKind.i64.wrap (((a0.Roots.getD x54.toNat default).At) - a1)) ((a0.Roots.getD x54.toNat default).Place))]).length) * 24 ≤ 140737488355328) (spec_CutClip_l6 K a0 a1 a2 x17 k (IntKind.i64.wrap (x54 + (1 : Int))) (x55 ++ ([(RootKey.mk (IntKind.i64.wrap (((a0.Roots.getD x54.toNat default).At) - a1)) ((a0.Roots.getD x54.toNat default).Place))])))) (spec_CutClip_l6 K a0 a1 a2 x17 k (IntKind.i64.wrap (x54 + (1 : Int))) x55))) ((spec_l05Root K a0.Roots a2 a0.Kind).bind fun v63 => chk ((x55.length + ([(RootKey.mk (IntKind.i64.wrap (a2 - a1)) v63)]).length) * 24 ≤ 140737488355328) ((spec_l05Is K (Clip.mk (IntKind.i64.wrap (a2 - a1)) a0.Kind x17 (x55 ++ ([(RootKey.mk (IntKind.i64.wrap (a2 - a1)) v63)])))).bind fun v66 => ite2 ((!v66)) (some ((Clip.mk (0 : Int) (0 : Int) ([] : (List (List Key))) ([] : (List RootKey))), false)) (some ((Clip.mk (IntKind.i64.wrap (a2 - a1)) a0.Kind x17 (x55 ++ ([(RootKey.mk (IntKind.i64.wrap (a2 - a1)) v63)]))), true))))

def spec_CutClip_l4 (K : Nat) (a0 : Clip) (a1 : Int) (a2 : Int) (v12 : (Vector)) : Nat → Int → (List (List Key)) → Option (Clip × Bool)
  | 0, _, _ => none
  | k + 1, x16, x17 => ite2 ((decide (x16 < (a0.Tracks.length : Int)))) (chk (0 ≤ x16 ∧ x16 < (a0.Tracks.length : Int)) ((spec_l05Turn K (a0.Tracks.getD x16.toNat default) a1 a0.Kind).bind fun v20 => (spec_CutClip_l5 K a0 a1 a2 x16 K (0 : Int) ([(Key.mk (0 : Int) v20)])).bind fun j34 => (spec_l05Turn K (a0.Tracks.getD x16.toNat default) a2 a0.Kind).bind fun v48 => chk ((j34.length + ([(Key.mk (IntKind.i64.wrap (a2 - a1)) v48)]).length) * 24 ≤ 140737488355328) (chk ((x17.length + ([(j34 ++ ([(Key.mk (IntKind.i64.wrap (a2 - a1)) v48)]))]).length) * 24 ≤ 140737488355328) (spec_CutClip_l4 K a0 a1 a2 v12 k (IntKind.i64.wrap (x16 + (1 : Int))) (x17 ++ ([(j34 ++ ([(Key.mk (IntKind.i64.wrap (a2 - a1)) v48)]))])))))) (spec_CutClip_l6 K a0 a1 a2 x17 K (0 : Int) ([(RootKey.mk (0 : Int) v12)]))

def spec_CutClip (K : Nat) (a0 : Clip) (a1 : Int) (a2 : Int) : Option (Clip × Bool) :=
  (spec_l05Is K a0).bind fun v1 => (ite2 ((!v1)) (some true) ((spec_l00In K a2 (1 : Int) a0.Length).bind fun v4 => ite2 ((!v4)) (some true) ((spec_l00In K a1 (0 : Int) (IntKind.i64.wrap (a2 - (1 : Int)))).bind fun v7 => some (!v7)))).bind fun j9 => ite2 (j9) (some ((Clip.mk (0 : Int) (0 : Int) ([] : (List (List Key))) ([] : (List RootKey))), false)) ((spec_l05Root K a0.Roots a1 a0.Kind).bind fun v12 => spec_CutClip_l4 K a0 a1 a2 v12 K (0 : Int) ([] : (List (List Key))))

theorem ok_spec_CutClip (K : Nat) (a0 : Clip) (a1 : Int) (a2 : Int) (o : (Clip × Bool)) (h : spec_CutClip K a0 a1 a2 = some o) : CallOK Try.prog 24 [.agg (cs_Clip a0), .one (.int .i64 a1), .one (.int .i64 a2)] [.agg (cs_Clip o.1), .one (.bool o.2)] := by
  refine callOK_of_AW Try.func24 rfl (by kernel_rfl) (Nat.le_of_ble_eq_true (by kernel_rfl)) ?_
  intro w0
  unfold spec_CutClip at h
  refine AW.seq (AW.rA ⟨[(1, (vc (.int .i64 a1))), (2, (vc (.int .i64 a2))), (3, (vp 1 0)), (6, (vp 2 0))], [(1, (.box [(.c (.int .i64 a0.Length)), (.c (.int .i64 a0.Kind)), (.c (sl 1 (csL 5 cs_Key) a0.Tracks)), (.c (sl 4 cs_RootKey a0.Roots))])), (2, (.box [(.c (.int .i64 (0 : Int))), (.c (.int .i64 (0 : Int))), .nils, .nils]))]⟩ (Tt ∧ T2 Tt) [.box 1, .box 2] [1, 2, 3, 6] [1, 2] ⟨tr, tr, tr, tr⟩ (thenQ_normal ?_))
  refine AW.seq ?_
  refine AW.seq ?_
  obtain ⟨v1, e2, h⟩ := bind_some h
  obtain ⟨j9, e10, h⟩ := bind_some h
  refine AW.join1 (s2 := ⟨[(1, (vc (.int .i64 a1))), (2, (vc (.int .i64 a2))), (3, (vp 1 0)), (6, (vp 2 0)), (30, (vc (.bool j9)))], [(1, (.box [(.c (.int .i64 a0.Length)), (.c (.int .i64 a0.Kind)), (.c (sl 1 (csL 5 cs_Key) a0.Tracks)), (.c (sl 4 cs_RootKey a0.Roots))])), (2, (.box [(.c (.int .i64 (0 : Int))), (.c (.int .i64 (0 : Int))), .nils, .nils]))]⟩) ?_ ?_
  · rcases ite2_cases e10 with ⟨b3, e10⟩ | ⟨b3, e10⟩
    · replace e10 := some_eq e10
      subst e10
      exact AW.rA ⟨[(1, (vc (.int .i64 a1))), (2, (vc (.int .i64 a2))), (3, (vp 1 0)), (6, (vp 2 0)), (30, (vc (.bool true)))], [(1, (.box [(.c (.int .i64 a0.Length)), (.c (.int .i64 a0.Kind)), (.c (sl 1 (csL 5 cs_Key) a0.Tracks)), (.c (sl 4 cs_RootKey a0.Roots))])), (2, (.box [(.c (.int .i64 (0 : Int))), (.c (.int .i64 (0 : Int))), .nils, .nils]))]⟩ ((((0 = 0 ∧ (Eqc (.int .i64 a0.Length)) ∧ (Eqc (.int .i64 a0.Kind)) ∧ (Eqc (sl 1 (csL 5 cs_Key) a0.Tracks)) ∧ (Eqc (sl 4 cs_RootKey a0.Roots)) ∧ Tt) ∧ Tt) ∧ CallOK Try.prog 60 [.one (pl 4 cs_Clip a0)] [.one (.bool v1)]) ∧ Tt ∧ (Tt ∧ (!v1) = true) ∧ Tt ∧ T4 (T4 (T4 Tt))) [.call [.one (pl 4 cs_Clip a0)] [.one (.bool v1)] [[.view]], .no, .dec true] [1, 2, 3, 6, 30] [1, 2] ⟨⟨⟨⟨rfl, rfl, rfl, rfl, rfl, tr⟩, tr⟩, ok_spec_l05Is K a0 v1 e2⟩, tr, ⟨tr, b3⟩, tr, tr, tr, tr, tr, tr, tr, tr, tr, tr, tr, tr, tr, tr⟩ ⟨rfl, rfl⟩
    · obtain ⟨v4, e5, e10⟩ := bind_some e10
      rcases ite2_cases e10 with ⟨b6, e10⟩ | ⟨b6, e10⟩
      · replace e10 := some_eq e10
        subst e10
        exact AW.rA ⟨[(1, (vc (.int .i64 a1))), (2, (vc (.int .i64 a2))), (3, (vp 1 0)), (6, (vp 2 0)), (30, (vc (.bool true)))], [(1, (.box [(.c (.int .i64 a0.Length)), (.c (.int .i64 a0.Kind)), (.c (sl 1 (csL 5 cs_Key) a0.Tracks)), (.c (sl 4 cs_RootKey a0.Roots))])), (2, (.box [(.c (.int .i64 (0 : Int))), (.c (.int .i64 (0 : Int))), .nils, .nils]))]⟩ ((((0 = 0 ∧ (Eqc (.int .i64 a0.Length)) ∧ (Eqc (.int .i64 a0.Kind)) ∧ (Eqc (sl 1 (csL 5 cs_Key) a0.Tracks)) ∧ (Eqc (sl 4 cs_RootKey a0.Roots)) ∧ Tt) ∧ Tt) ∧ CallOK Try.prog 60 [.one (pl 4 cs_Clip a0)] [.one (.bool v1)]) ∧ Tt ∧ (Tt ∧ (!v1) = false) ∧ Tt ∧ T2 ((((Eqc (.int .i64 a2)) ∧ (Eqc (.int .i64 (1 : Int))) ∧ (Eqc (.int .i64 a0.Length)) ∧ Tt) ∧ CallOK Try.prog 74 [.one (.int .i64 a2), .one (.int .i64 (1 : Int)), .one (.int .i64 a0.Length)] [.one (.bool v4)]) ∧ T2 ((Tt ∧ (!v4) = true) ∧ T2 (T4 Tt)))) [.call [.one (pl 4 cs_Clip a0)] [.one (.bool v1)] [[.view]], .no, .dec false, .no, .no, .no, .call [.one (.int .i64 a2), .one (.int .i64 (1 : Int)), .one (.int .i64 a0.Length)] [.one (.bool v4)] [[.view]], .no, .no, .dec true] [1, 2, 3, 6, 30] [1, 2] ⟨⟨⟨⟨rfl, rfl, rfl, rfl, rfl, tr⟩, tr⟩, ok_spec_l05Is K a0 v1 e2⟩, tr, ⟨tr, b3⟩, tr, tr, tr, ⟨⟨rfl, rfl, rfl, tr⟩, ok_spec_l00In K a2 (1 : Int) a0.Length v4 e5⟩, tr, tr, ⟨tr, b6⟩, tr, tr, tr, tr, tr, tr, tr⟩ ⟨rfl, rfl⟩
      · obtain ⟨v7, e8, e10⟩ := bind_some e10
        replace e10 := some_eq e10
        subst e10
        exact AW.rA ⟨[(1, (vc (.int .i64 a1))), (2, (vc (.int .i64 a2))), (3, (vp 1 0)), (6, (vp 2 0)), (30, (vc (.bool (!v7))))], [(1, (.box [(.c (.int .i64 a0.Length)), (.c (.int .i64 a0.Kind)), (.c (sl 1 (csL 5 cs_Key) a0.Tracks)), (.c (sl 4 cs_RootKey a0.Roots))])), (2, (.box [(.c (.int .i64 (0 : Int))), (.c (.int .i64 (0 : Int))), .nils, .nils]))]⟩ ((((0 = 0 ∧ (Eqc (.int .i64 a0.Length)) ∧ (Eqc (.int .i64 a0.Kind)) ∧ (Eqc (sl 1 (csL 5 cs_Key) a0.Tracks)) ∧ (Eqc (sl 4 cs_RootKey a0.Roots)) ∧ Tt) ∧ Tt) ∧ CallOK Try.prog 60 [.one (pl 4 cs_Clip a0)] [.one (.bool v1)]) ∧ Tt ∧ (Tt ∧ (!v1) = false) ∧ Tt ∧ T2 ((((Eqc (.int .i64 a2)) ∧ (Eqc (.int .i64 (1 : Int))) ∧ (Eqc (.int .i64 a0.Length)) ∧ Tt) ∧ CallOK Try.prog 74 [.one (.int .i64 a2), .one (.int .i64 (1 : Int)), .one (.int .i64 a0.Length)] [.one (.bool v4)]) ∧ T2 ((Tt ∧ (!v4) = false) ∧ Tt ∧ T2 ((((Eqc (.int .i64 a1)) ∧ (Eqc (.int .i64 (0 : Int))) ∧ (Eqc (.int .i64 (IntKind.i64.wrap (a2 - (1 : Int))))) ∧ Tt) ∧ CallOK Try.prog 74 [.one (.int .i64 a1), .one (.int .i64 (0 : Int)), .one (.int .i64 (IntKind.i64.wrap (a2 - (1 : Int))))] [.one (.bool v7)]) ∧ T2 Tt)))) [.call [.one (pl 4 cs_Clip a0)] [.one (.bool v1)] [[.view]], .no, .dec false, .no, .no, .no, .call [.one (.int .i64 a2), .one (.int .i64 (1 : Int)), .one (.int .i64 a0.Length)] [.one (.bool v4)] [[.view]], .no, .no, .dec false, .no, .no, .no, .call [.one (.int .i64 a1), .one (.int .i64 (0 : Int)), .one (.int .i64 (IntKind.i64.wrap (a2 - (1 : Int))))] [.one (.bool v7)] [[.view]]] [1, 2, 3, 6, 30] [1, 2] ⟨⟨⟨⟨rfl, rfl, rfl, rfl, rfl, tr⟩, tr⟩, ok_spec_l05Is K a0 v1 e2⟩, tr, ⟨tr, b3⟩, tr, tr, tr, ⟨⟨rfl, rfl, rfl, tr⟩, ok_spec_l00In K a2 (1 : Int) a0.Length v4 e5⟩, tr, tr, ⟨tr, b6⟩, tr, tr, tr, ⟨⟨rfl, rfl, rfl, tr⟩, ok_spec_l00In K a1 (0 : Int) (IntKind.i64.wrap (a2 - (1 : Int))) v7 e8⟩, tr, tr, tr⟩ ⟨rfl, rfl⟩
  refine thenQ_normal ?_
  rcases ite2_cases h with ⟨b11, h⟩ | ⟨b11, h⟩
  · refine AW.cond_t rfl b11 ?_
    refine AW.seq (AW.rA ⟨[(6, (vp 2 0)), (7, (vc (.bool false)))], [(2, (.box [(.c (.int .i64 (0 : Int))), (.c (.int .i64 (0 : Int))), .nils, .nils]))]⟩ (Tt ∧ T2 Tt) [] [6, 7] [2] ⟨tr, tr, tr, tr⟩ (thenQ_normal ?_))
    refine AW.ret ?_
    refine thenQ_ret ?_
    replace h := some_eq h
    subst h
    exact ⟨.inr rfl, retOK_of [(.agg [(.c (.int .i64 (0 : Int))), (.c (.int .i64 (0 : Int))), .nils, .nils]), (.one (.c (.bool false)))] (by kernel_rfl) ⟨⟨⟨rfl, tr⟩, ⟨rfl, tr⟩, rfl, rfl, tr⟩, ⟨rfl, tr⟩, tr⟩ (of_decide_eq_true (by kernel_rfl))⟩
  · refine AW.cond_f rfl b11 ?_
    refine AW.skip ?_
    refine thenQ_normal ?_
    refine AW.seq ?_
    obtain ⟨v12, e13, h⟩ := bind_some h
    refine AW.dA ⟨[(1, (vc (.int .i64 a1))), (2, (vc (.int .i64 a2))), (3, (vp 1 0)), (6, (vp 2 0)), (8, (vp 4 0))], [(1, (.box [(.c (.int .i64 a0.Length)), (.c (.int .i64 a0.Kind)), (.c (sl 1 (csL 5 cs_Key) a0.Tracks)), (.c (sl 4 cs_RootKey a0.Roots))])), (2, (.box [(.c (.int .i64 (0 : Int))), (.c (.int .i64 (0 : Int))), .nils, .nils])), (3, (.lst ([(RootKey.mk (0 : Int) v12)]).length 4 (gl cs_RootKey ([(RootKey.mk (0 : Int) v12)])))), (4, (.box [(.c (.int .i64 (IntKind.i64.wrap (a2 - a1)))), (.c (.int .i64 a0.Kind)), .nils, (.lst 3 ([(RootKey.mk (0 : Int) v12)]).length 4 (gl cs_RootKey ([(RootKey.mk (0 : Int) v12)])))]))]⟩ ((T2 (T4 (T4 ((((Eqc (sl 4 cs_RootKey a0.Roots)) ∧ (Eqc (.int .i64 a1)) ∧ (Eqc (.int .i64 a0.Kind)) ∧ Tt) ∧ CallOK Try.prog 89 [.one (sl 4 cs_RootKey a0.Roots), .one (.int .i64 a1), .one (.int .i64 a0.Kind)] [.agg (cs_Vector v12)]) ∧ Tt ∧ (([(RootKey.mk (0 : Int) v12)]).length = 1 ∧ (((.int .i64 (0 : Int)) : C) = (.int .i64 (0 : Int)) ∧ Tt) ∧ (((.flt .f32 v12.X.bits) : C) = (.flt .f32 v12.X.bits) ∧ Tt) ∧ (((.flt .f32 v12.Y.bits) : C) = (.flt .f32 v12.Y.bits) ∧ Tt) ∧ (((.flt .f32 v12.Z.bits) : C) = (.flt .f32 v12.Z.bits) ∧ Tt) ∧ Tt) ∧ T2 Tt)))) ∧ (Tt ∧ Tt)) 15 [.no, .no, .no, .no, .no, .no, .no, .no, .no, .no, .call [.one (sl 4 cs_RootKey a0.Roots), .one (.int .i64 a1), .one (.int .i64 a0.Kind)] [.agg (cs_Vector v12)] [[.view, .view, .view]], .no, .obj 3 ([(RootKey.mk (0 : Int) v12)]).length (gl cs_RootKey ([(RootKey.mk (0 : Int) v12)])), .no, .box 4] [1, 2, 3, 6, 8] [1, 2, 3, 4] ⟨⟨tr, tr, tr, tr, tr, tr, tr, tr, tr, tr, ⟨⟨rfl, rfl, rfl, tr⟩, ok_spec_l05Root K a0.Roots a1 a0.Kind v12 e13⟩, tr, ⟨rfl, ⟨⟨rfl, tr⟩, ⟨rfl, tr⟩, ⟨rfl, tr⟩, ⟨rfl, tr⟩, tr⟩⟩, tr, tr, tr⟩, ⟨tr, tr⟩⟩ ?_
    refine thenQ_normal ?_
    refine AW.seq ?_
    refine AW.seq (AW.rA ⟨[(1, (vc (.int .i64 a1))), (2, (vc (.int .i64 a2))), (3, (vp 1 0)), (6, (vp 2 0)), (8, (vp 4 0)), (48, (vc (.int .i64 (a0.Tracks.length : Int)))), (49, (vc (.int .i64 (0 : Int))))], [(1, (.box [(.c (.int .i64 a0.Length)), (.c (.int .i64 a0.Kind)), (.c (sl 1 (csL 5 cs_Key) a0.Tracks)), (.c (sl 4 cs_RootKey a0.Roots))])), (2, (.box [(.c (.int .i64 (0 : Int))), (.c (.int .i64 (0 : Int))), .nils, .nils])), (3, (.lst ([(RootKey.mk (0 : Int) v12)]).length 4 (gl cs_RootKey ([(RootKey.mk (0 : Int) v12)])))), (4, (.box [(.c (.int .i64 (IntKind.i64.wrap (a2 - a1)))), (.c (.int .i64 a0.Kind)), .nils, (.lst 3 ([(RootKey.mk (0 : Int) v12)]).length 4 (gl cs_RootKey ([(RootKey.mk (0 : Int) v12)])))]))]⟩ (T4 Tt) [] [1, 2, 3, 6, 8, 48, 49] [1, 2, 3, 4] ⟨tr, tr, tr, tr, tr⟩ (thenQ_normal ?_))
    refine AW.block ?_
    refine AW.weak (s' := ⟨[(1, (vc (.int .i64 a1))), (2, (vc (.int .i64 a2))), (3, (vp 1 0)), (6, (vp 2 0)), (8, (vp 4 0)), (48, (vc (.int .i64 (a0.Tracks.length : Int)))), (49, (vc (.int .i64 (0 : Int))))], [(1, (.box [(.c (.int .i64 a0.Length)), (.c (.int .i64 a0.Kind)), (.c (sl 1 (csL 5 cs_Key) a0.Tracks)), (.c (sl 4 cs_RootKey a0.Roots))])), (2, (.box [(.c (.int .i64 (0 : Int))), (.c (.int .i64 (0 : Int))), .nils, .nils])), (3, (.lst ([(RootKey.mk (0 : Int) v12)]).length 4 (gl cs_RootKey ([(RootKey.mk (0 : Int) v12)])))), (4, (.box [(.c (.int .i64 (IntKind.i64.wrap (a2 - a1)))), (.c (.int .i64 a0.Kind)), (.lst 28 ([] : (List (List Key))).length 1 (gl (csL 5 cs_Key) ([] : (List (List Key))))), (.lst 3 ([(RootKey.mk (0 : Int) v12)]).length 4 (gl cs_RootKey ([(RootKey.mk (0 : Int) v12)])))])), (28, (.lst ([] : (List (List Key))).length 1 (gl (csL 5 cs_Key) ([] : (List (List Key))))))]⟩) (Sub.trans (Sub.unnil 28 1 (gl (csL 5 cs_Key) ([] : (List (List Key)))) [] [(4, 2)] _ (by kernel_rfl) (by kernel_rfl)) (Sub.keep [1, 2, 3, 6, 8, 48, 49] [1, 2, 3, 4, 28] (by kernel_rfl) (by kernel_rfl))) ?_
    refine AW.loopQ (σ := Nat × Int × (List (List Key))) (fun p => ⟨[(1, (vc (.int .i64 a1))), (2, (vc (.int .i64 a2))), (3, (vp 1 0)), (6, (vp 2 0)), (8, (vp 4 0)), (48, (vc (.int .i64 (a0.Tracks.length : Int)))), (49, (vc (.int .i64 p.2.1)))], [(1, (.box [(.c (.int .i64 a0.Length)), (.c (.int .i64 a0.Kind)), (.c (sl 1 (csL 5 cs_Key) a0.Tracks)), (.c (sl 4 cs_RootKey a0.Roots))])), (2, (.box [(.c (.int .i64 (0 : Int))), (.c (.int .i64 (0 : Int))), .nils, .nils])), (3, (.lst ([(RootKey.mk (0 : Int) v12)]).length 4 (gl cs_RootKey ([(RootKey.mk (0 : Int) v12)])))), (4, (.box [(.c (.int .i64 (IntKind.i64.wrap (a2 - a1)))), (.c (.int .i64 a0.Kind)), (.lst 28 p.2.2.length 1 (gl (csL 5 cs_Key) p.2.2)), (.lst 3 ([(RootKey.mk (0 : Int) v12)]).length 4 (gl cs_RootKey ([(RootKey.mk (0 : Int) v12)])))])), (28, (.lst p.2.2.length 1 (gl (csL 5 cs_Key) p.2.2)))]⟩) (fun p => spec_CutClip_l4 K a0 a1 a2 v12 p.1 p.2.1 p.2.2 = some o) (fun p => p.1) (K, (0 : Int), ([] : (List (List Key)))) h ?_
    clear h
    rintro ⟨k, x16, x17⟩ h
    replace h : spec_CutClip_l4 K a0 a1 a2 v12 k x16 x17 = some o := h
    show AW _ _ (⟨[(1, (vc (.int .i64 a1))), (2, (vc (.int .i64 a2))), (3, (vp 1 0)), (6, (vp 2 0)), (8, (vp 4 0)), (48, (vc (.int .i64 (a0.Tracks.length : Int)))), (49, (vc (.int .i64 x16)))], [(1, (.box [(.c (.int .i64 a0.Length)), (.c (.int .i64 a0.Kind)), (.c (sl 1 (csL 5 cs_Key) a0.Tracks)), (.c (sl 4 cs_RootKey a0.Roots))])), (2, (.box [(.c (.int .i64 (0 : Int))), (.c (.int .i64 (0 : Int))), .nils, .nils])), (3, (.lst ([(RootKey.mk (0 : Int) v12)]).length 4 (gl cs_RootKey ([(RootKey.mk (0 : Int) v12)])))), (4, (.box [(.c (.int .i64 (IntKind.i64.wrap (a2 - a1)))), (.c (.int .i64 a0.Kind)), (.lst 28 x17.length 1 (gl (csL 5 cs_Key) x17)), (.lst 3 ([(RootKey.mk (0 : Int) v12)]).length 4 (gl cs_RootKey ([(RootKey.mk (0 : Int) v12)])))])), (28, (.lst x17.length 1 (gl (csL 5 cs_Key) x17)))]⟩ : St) _
    obtain _ | k := k
    · rw [spec_CutClip_l4] at h; cases h
    rw [spec_CutClip_l4] at h
    refine AW.seq (AW.rA ⟨[(1, (vc (.int .i64 a1))), (2, (vc (.int .i64 a2))), (3, (vp 1 0)), (6, (vp 2 0)), (8, (vp 4 0)), (48, (vc (.int .i64 (a0.Tracks.length : Int)))), (49, (vc (.int .i64 x16))), (50, (vc (.bool (decide (x16 < (a0.Tracks.length : Int))))))], [(1, (.box [(.c (.int .i64 a0.Length)), (.c (.int .i64 a0.Kind)), (.c (sl 1 (csL 5 cs_Key) a0.Tracks)), (.c (sl 4 cs_RootKey a0.Roots))])), (2, (.box [(.c (.int .i64 (0 : Int))), (.c (.int .i64 (0 : Int))), .nils, .nils])), (3, (.lst ([(RootKey.mk (0 : Int) v12)]).length 4 (gl cs_RootKey ([(RootKey.mk (0 : Int) v12)])))), (4, (.box [(.c (.int .i64 (IntKind.i64.wrap (a2 - a1)))), (.c (.int .i64 a0.Kind)), (.lst 28 x17.length 1 (gl (csL 5 cs_Key) x17)), (.lst 3 ([(RootKey.mk (0 : Int) v12)]).length 4 (gl cs_RootKey ([(RootKey.mk (0 : Int) v12)])))])), (28, (.lst x17.length 1 (gl (csL 5 cs_Key) x17)))]⟩ (Tt ∧ Tt) [] [1, 2, 3, 6, 8, 48, 49, 50] [1, 2, 3, 4, 28] ⟨tr, tr⟩ (thenQ_normal ?_))
    refine AW.seq ?_
    rcases ite2_cases h with ⟨b18, h⟩ | ⟨b18, h⟩
    · refine AW.cond_t rfl b18 ?_
      refine AW.skip ?_
      refine thenQ_normal ?_
      refine AW.seq ?_
      refine AW.block ?_
      refine AW.seq (AW.rA ⟨[(1, (vc (.int .i64 a1))), (2, (vc (.int .i64 a2))), (3, (vp 1 0)), (6, (vp 2 0)), (8, (vp 4 0)), (9, (vc (.int .i64 x16))), (48, (vc (.int .i64 (a0.Tracks.length : Int)))), (49, (vc (.int .i64 x16)))], [(1, (.box [(.c (.int .i64 a0.Length)), (.c (.int .i64 a0.Kind)), (.c (sl 1 (csL 5 cs_Key) a0.Tracks)), (.c (sl 4 cs_RootKey a0.Roots))])), (2, (.box [(.c (.int .i64 (0 : Int))), (.c (.int .i64 (0 : Int))), .nils, .nils])), (3, (.lst ([(RootKey.mk (0 : Int) v12)]).length 4 (gl cs_RootKey ([(RootKey.mk (0 : Int) v12)])))), (4, (.box [(.c (.int .i64 (IntKind.i64.wrap (a2 - a1)))), (.c (.int .i64 a0.Kind)), (.lst 28 x17.length 1 (gl (csL 5 cs_Key) x17)), (.lst 3 ([(RootKey.mk (0 : Int) v12)]).length 4 (gl cs_RootKey ([(RootKey.mk (0 : Int) v12)])))])), (28, (.lst x17.length 1 (gl (csL 5 cs_Key) x17)))]⟩ (T2 Tt) [] [1, 2, 3, 6, 8, 9, 48, 49] [1, 2, 3, 4, 28] ⟨tr, tr, tr⟩ (thenQ_normal ?_))
      refine AW.seq ?_
      obtain ⟨c19, h⟩ := chk_some h
      obtain ⟨v20, e21, h⟩ := bind_some h
      refine AW.dA ⟨[(1, (vc (.int .i64 a1))), (2, (vc (.int .i64 a2))), (3, (vp 1 0)), (6, (vp 2 0)), (8, (vp 4 0)), (9, (vc (.int .i64 x16))), (10, (.v (.one (.lst 75 ([(Key.mk (0 : Int) v20)]).length 5 (gl cs_Key ([(Key.mk (0 : Int) v20)])))))), (48, (vc (.int .i64 (a0.Tracks.length : Int)))), (49, (vc (.int .i64 x16)))], [(1, (.box [(.c (.int .i64 a0.Length)), (.c (.int .i64 a0.Kind)), (.c (sl 1 (csL 5 cs_Key) a0.Tracks)), (.c (sl 4 cs_RootKey a0.Roots))])), (2, (.box [(.c (.int .i64 (0 : Int))), (.c (.int .i64 (0 : Int))), .nils, .nils])), (3, (.lst ([(RootKey.mk (0 : Int) v12)]).length 4 (gl cs_RootKey ([(RootKey.mk (0 : Int) v12)])))), (4, (.box [(.c (.int .i64 (IntKind.i64.wrap (a2 - a1)))), (.c (.int .i64 a0.Kind)), (.lst 28 x17.length 1 (gl (csL 5 cs_Key) x17)), (.lst 3 ([(RootKey.mk (0 : Int) v12)]).length 4 (gl cs_RootKey ([(RootKey.mk (0 : Int) v12)])))])), (28, (.lst x17.length 1 (gl (csL 5 cs_Key) x17))), (75, (.lst ([(Key.mk (0 : Int) v20)]).length 5 (gl cs_Key ([(Key.mk (0 : Int) v20)]))))]⟩ ((Tt ∧ T2 ((0 ≤ x16 ∧ x16 < (a0.Tracks.length : Int)) ∧ T4 ((((Eqc (sl 5 cs_Key (a0.Tracks.getD x16.toNat default))) ∧ (Eqc (.int .i64 a1)) ∧ (Eqc (.int .i64 a0.Kind)) ∧ Tt) ∧ CallOK Try.prog 90 [.one (sl 5 cs_Key (a0.Tracks.getD x16.toNat default)), .one (.int .i64 a1), .one (.int .i64 a0.Kind)] [.agg (cs_Turn v20)]) ∧ Tt ∧ (([(Key.mk (0 : Int) v20)]).length = 1 ∧ (((.int .i64 (0 : Int)) : C) = (.int .i64 (0 : Int)) ∧ Tt) ∧ (((.flt .f32 v20.W.bits) : C) = (.flt .f32 v20.W.bits) ∧ Tt) ∧ (((.flt .f32 v20.X.bits) : C) = (.flt .f32 v20.X.bits) ∧ Tt) ∧ (((.flt .f32 v20.Y.bits) : C) = (.flt .f32 v20.Y.bits) ∧ Tt) ∧ (((.flt .f32 v20.Z.bits) : C) = (.flt .f32 v20.Z.bits) ∧ Tt) ∧ Tt) ∧ Tt ∧ Tt))) ∧ (Tt)) 12 [.no, .no, .no, .no, .no, .no, .no, .no, .call [.one (sl 5 cs_Key (a0.Tracks.getD x16.toNat default)), .one (.int .i64 a1), .one (.int .i64 a0.Kind)] [.agg (cs_Turn v20)] [[.view, .view, .view, .view]], .no, .obj 75 ([(Key.mk (0 : Int) v20)]).length (gl cs_Key ([(Key.mk (0 : Int) v20)]))] [1, 2, 3, 6, 8, 9, 10, 48, 49] [1, 2, 3, 4, 28, 75] ⟨⟨tr, tr, tr, c19, tr, tr, tr, tr, ⟨⟨rfl, rfl, rfl, tr⟩, ok_spec_l05Turn K (a0.Tracks.getD x16.toNat default) a1 a0.Kind v20 e21⟩, tr, ⟨rfl, ⟨⟨rfl, tr⟩, ⟨rfl, tr⟩, ⟨rfl, tr⟩, ⟨rfl, tr⟩, ⟨rfl, tr⟩, tr⟩⟩, tr, tr⟩, tr⟩ ?_
      refine thenQ_normal ?_
      refine AW.seq ?_
      refine AW.seq (AW.rA ⟨[(1, (vc (.int .i64 a1))), (2, (vc (.int .i64 a2))), (3, (vp 1 0)), (6, (vp 2 0)), (8, (vp 4 0)), (9, (vc (.int .i64 x16))), (10, (.v (.one (.lst 75 ([(Key.mk (0 : Int) v20)]).length 5 (gl cs_Key ([(Key.mk (0 : Int) v20)])))))), (48, (vc (.int .i64 (a0.Tracks.length : Int)))), (49, (vc (.int .i64 x16))), (68, (vc (.int .i64 ((a0.Tracks.getD x16.toNat default).length : Int)))), (69, (vc (.int .i64 (0 : Int))))], [(1, (.box [(.c (.int .i64 a0.Length)), (.c (.int .i64 a0.Kind)), (.c (sl 1 (csL 5 cs_Key) a0.Tracks)), (.c (sl 4 cs_RootKey a0.Roots))])), (2, (.box [(.c (.int .i64 (0 : Int))), (.c (.int .i64 (0 : Int))), .nils, .nils])), (3, (.lst ([(RootKey.mk (0 : Int) v12)]).length 4 (gl cs_RootKey ([(RootKey.mk (0 : Int) v12)])))), (4, (.box [(.c (.int .i64 (IntKind.i64.wrap (a2 - a1)))), (.c (.int .i64 a0.Kind)), (.lst 28 x17.length 1 (gl (csL 5 cs_Key) x17)), (.lst 3 ([(RootKey.mk (0 : Int) v12)]).length 4 (gl cs_RootKey ([(RootKey.mk (0 : Int) v12)])))])), (28, (.lst x17.length 1 (gl (csL 5 cs_Key) x17))), (75, (.lst ([(Key.mk (0 : Int) v20)]).length 5 (gl cs_Key ([(Key.mk (0 : Int) v20)]))))]⟩ (Tt ∧ T2 ((0 ≤ x16 ∧ x16 < (a0.Tracks.length : Int)) ∧ Tt ∧ T2 Tt)) [] [1, 2, 3, 6, 8, 9, 10, 48, 49, 68, 69] [1, 2, 3, 4, 28, 75] ⟨tr, tr, tr, c19, tr, tr, tr, tr⟩ (thenQ_normal ?_))
      obtain ⟨j34, e35, h⟩ := bind_some h
      refine AW.joinS (s2 := ⟨[(1, (vc (.int .i64 a1))), (2, (vc (.int .i64 a2))), (3, (vp 1 0)), (6, (vp 2 0)), (8, (vp 4 0)), (9, (vc (.int .i64 x16))), (10, (.v (.one (.lst 75 j34.length 5 (gl cs_Key j34))))), (48, (vc (.int .i64 (a0.Tracks.length : Int)))), (49, (vc (.int .i64 x16)))], [(1, (.box [(.c (.int .i64 a0.Length)), (.c (.int .i64 a0.Kind)), (.c (sl 1 (csL 5 cs_Key) a0.Tracks)), (.c (sl 4 cs_RootKey a0.Roots))])), (2, (.box [(.c (.int .i64 (0 : Int))), (.c (.int .i64 (0 : Int))), .nils, .nils])), (3, (.lst ([(RootKey.mk (0 : Int) v12)]).length 4 (gl cs_RootKey ([(RootKey.mk (0 : Int) v12)])))), (4, (.box [(.c (.int .i64 (IntKind.i64.wrap (a2 - a1)))), (.c (.int .i64 a0.Kind)), (.lst 28 x17.length 1 (gl (csL 5 cs_Key) x17)), (.lst 3 ([(RootKey.mk (0 : Int) v12)]).length 4 (gl cs_RootKey ([(RootKey.mk (0 : Int) v12)])))])), (28, (.lst x17.length 1 (gl (csL 5 cs_Key) x17))), (75, (.lst j34.length 5 (gl cs_Key j34)))]⟩) ?_ ?_
      · replace h := e35
        refine AW.block ?_
        refine AW.loopQ (σ := Nat × Int × (List Key)) (fun p => ⟨[(1, (vc (.int .i64 a1))), (2, (vc (.int .i64 a2))), (3, (vp 1 0)), (6, (vp 2 0)), (8, (vp 4 0)), (9, (vc (.int .i64 x16))), (10, (.v (.one (.lst 75 p.2.2.length 5 (gl cs_Key p.2.2))))), (48, (vc (.int .i64 (a0.Tracks.length : Int)))), (49, (vc (.int .i64 x16))), (68, (vc (.int .i64 ((a0.Tracks.getD x16.toNat default).length : Int)))), (69, (vc (.int .i64 p.2.1)))], [(1, (.box [(.c (.int .i64 a0.Length)), (.c (.int .i64 a0.Kind)), (.c (sl 1 (csL 5 cs_Key) a0.Tracks)), (.c (sl 4 cs_RootKey a0.Roots))])), (2, (.box [(.c (.int .i64 (0 : Int))), (.c (.int .i64 (0 : Int))), .nils, .nils])), (3, (.lst ([(RootKey.mk (0 : Int) v12)]).length 4 (gl cs_RootKey ([(RootKey.mk (0 : Int) v12)])))), (4, (.box [(.c (.int .i64 (IntKind.i64.wrap (a2 - a1)))), (.c (.int .i64 a0.Kind)), (.lst 28 x17.length 1 (gl (csL 5 cs_Key) x17)), (.lst 3 ([(RootKey.mk (0 : Int) v12)]).length 4 (gl cs_RootKey ([(RootKey.mk (0 : Int) v12)])))])), (28, (.lst x17.length 1 (gl (csL 5 cs_Key) x17))), (75, (.lst p.2.2.length 5 (gl cs_Key p.2.2)))]⟩) (fun p => spec_CutClip_l5 K a0 a1 a2 x16 p.1 p.2.1 p.2.2 = some j34) (fun p => p.1) (K, (0 : Int), [(Key.mk (0 : Int) v20)]) h ?_
        clear h
        rintro ⟨k, x38, x39⟩ h
        replace h : spec_CutClip_l5 K a0 a1 a2 x16 k x38 x39 = some j34 := h
        show AW _ _ (⟨[(1, (vc (.int .i64 a1))), (2, (vc (.int .i64 a2))), (3, (vp 1 0)), (6, (vp 2 0)), (8, (vp 4 0)), (9, (vc (.int .i64 x16))), (10, (.v (.one (.lst 75 x39.length 5 (gl cs_Key x39))))), (48, (vc (.int .i64 (a0.Tracks.length : Int)))), (49, (vc (.int .i64 x16))), (68, (vc (.int .i64 ((a0.Tracks.getD x16.toNat default).length : Int)))), (69, (vc (.int .i64 x38)))], [(1, (.box [(.c (.int .i64 a0.Length)), (.c (.int .i64 a0.Kind)), (.c (sl 1 (csL 5 cs_Key) a0.Tracks)), (.c (sl 4 cs_RootKey a0.Roots))])), (2, (.box [(.c (.int .i64 (0 : Int))), (.c (.int .i64 (0 : Int))), .nils, .nils])), (3, (.lst ([(RootKey.mk (0 : Int) v12)]).length 4 (gl cs_RootKey ([(RootKey.mk (0 : Int) v12)])))), (4, (.box [(.c (.int .i64 (IntKind.i64.wrap (a2 - a1)))), (.c (.int .i64 a0.Kind)), (.lst 28 x17.length 1 (gl (csL 5 cs_Key) x17)), (.lst 3 ([(RootKey.mk (0 : Int) v12)]).length 4 (gl cs_RootKey ([(RootKey.mk (0 : Int) v12)])))])), (28, (.lst x17.length 1 (gl (csL 5 cs_Key) x17))), (75, (.lst x39.length 5 (gl cs_Key x39)))]⟩ : St) _
        obtain _ | k := k
        · rw [spec_CutClip_l5] at h; cases h
        rw [spec_CutClip_l5] at h
        refine AW.seq (AW.rA ⟨[(1, (vc (.int .i64 a1))), (2, (vc (.int .i64 a2))), (3, (vp 1 0)), (6, (vp 2 0)), (8, (vp 4 0)), (9, (vc (.int .i64 x16))), (10, (.v (.one (.lst 75 x39.length 5 (gl cs_Key x39))))), (48, (vc (.int .i64 (a0.Tracks.length : Int)))), (49, (vc (.int .i64 x16))), (68, (vc (.int .i64 ((a0.Tracks.getD x16.toNat default).length : Int)))), (69, (vc (.int .i64 x38))), (70, (vc (.bool (decide (x38 < ((a0.Tracks.getD x16.toNat default).length : Int))))))], [(1, (.box [(.c (.int .i64 a0.Length)), (.c (.int .i64 a0.Kind)), (.c (sl 1 (csL 5 cs_Key) a0.Tracks)), (.c (sl 4 cs_RootKey a0.Roots))])), (2, (.box [(.c (.int .i64 (0 : Int))), (.c (.int .i64 (0 : Int))), .nils, .nils])), (3, (.lst ([(RootKey.mk (0 : Int) v12)]).length 4 (gl cs_RootKey ([(RootKey.mk (0 : Int) v12)])))), (4, (.box [(.c (.int .i64 (IntKind.i64.wrap (a2 - a1)))), (.c (.int .i64 a0.Kind)), (.lst 28 x17.length 1 (gl (csL 5 cs_Key) x17)), (.lst 3 ([(RootKey.mk (0 : Int) v12)]).length 4 (gl cs_RootKey ([(RootKey.mk (0 : Int) v12)])))])), (28, (.lst x17.length 1 (gl (csL 5 cs_Key) x17))), (75, (.lst x39.length 5 (gl cs_Key x39)))]⟩ (Tt ∧ Tt) [] [1, 2, 3, 6, 8, 9, 10, 48, 49, 68, 69, 70] [1, 2, 3, 4, 28, 75] ⟨tr, tr⟩ (thenQ_normal ?_))
        refine AW.seq ?_
        rcases ite2_cases h with ⟨b40, h⟩ | ⟨b40, h⟩
        · refine AW.cond_t rfl b40 ?_
          refine AW.skip ?_
          refine thenQ_normal ?_
          refine AW.seq ?_
          refine AW.block ?_
          refine AW.seq (AW.rA ⟨[(1, (vc (.int .i64 a1))), (2, (vc (.int .i64 a2))), (3, (vp 1 0)), (6, (vp 2 0)), (8, (vp 4 0)), (9, (vc (.int .i64 x16))), (10, (.v (.one (.lst 75 x39.length 5 (gl cs_Key x39))))), (11, (vc (.int .i64 x38))), (48, (vc (.int .i64 (a0.Tracks.length : Int)))), (49, (vc (.int .i64 x16))), (68, (vc (.int .i64 ((a0.Tracks.getD x16.toNat default).length : Int)))), (69, (vc (.int .i64 x38)))], [(1, (.box [(.c (.int .i64 a0.Length)), (.c (.int .i64 a0.Kind)), (.c (sl 1 (csL 5 cs_Key) a0.Tracks)), (.c (sl 4 cs_RootKey a0.Roots))])), (2, (.box [(.c (.int .i64 (0 : Int))), (.c (.int .i64 (0 : Int))), .nils, .nils])), (3, (.lst ([(RootKey.mk (0 : Int) v12)]).length 4 (gl cs_RootKey ([(RootKey.mk (0 : Int) v12)])))), (4, (.box [(.c (.int .i64 (IntKind.i64.wrap (a2 - a1)))), (.c (.int .i64 a0.Kind)), (.lst 28 x17.length 1 (gl (csL 5 cs_Key) x17)), (.lst 3 ([(RootKey.mk (0 : Int) v12)]).length 4 (gl cs_RootKey ([(RootKey.mk (0 : Int) v12)])))])), (28, (.lst x17.length 1 (gl (csL 5 cs_Key) x17))), (75, (.lst x39.length 5 (gl cs_Key x39)))]⟩ (T2 Tt) [] [1, 2, 3, 6, 8, 9, 10, 11, 48, 49, 68, 69] [1, 2, 3, 4, 28, 75] ⟨tr, tr, tr⟩ (thenQ_normal ?_))
          refine AW.seq ?_
          obtain ⟨c41, h⟩ := chk_some h
          obtain ⟨c42, h⟩ := chk_some h
          refine AW.rA ⟨[(1, (vc (.int .i64 a1))), (2, (vc (.int .i64 a2))), (3, (vp 1 0)), (6, (vp 2 0)), (8, (vp 4 0)), (9, (vc (.int .i64 x16))), (10, (.v (.one (.lst 75 x39.length 5 (gl cs_Key x39))))), (12, (vp 91 0)), (48, (vc (.int .i64 (a0.Tracks.length : Int)))), (49, (vc (.int .i64 x16))), (68, (vc (.int .i64 ((a0.Tracks.getD x16.toNat default).length : Int)))), (69, (vc (.int .i64 x38)))], [(1, (.box [(.c (.int .i64 a0.Length)), (.c (.int .i64 a0.Kind)), (.c (sl 1 (csL 5 cs_Key) a0.Tracks)), (.c (sl 4 cs_RootKey a0.Roots))])), (2, (.box [(.c (.int .i64 (0 : Int))), (.c (.int .i64 (0 : Int))), .nils, .nils])), (3, (.lst ([(RootKey.mk (0 : Int) v12)]).length 4 (gl cs_RootKey ([(RootKey.mk (0 : Int) v12)])))), (4, (.box [(.c (.int .i64 (IntKind.i64.wrap (a2 - a1)))), (.c (.int .i64 a0.Kind)), (.lst 28 x17.length 1 (gl (csL 5 cs_Key) x17)), (.lst 3 ([(RootKey.mk (0 : Int) v12)]).length 4 (gl cs_RootKey ([(RootKey.mk (0 : Int) v12)])))])), (28, (.lst x17.length 1 (gl (csL 5 cs_Key) x17))), (75, (.lst x39.length 5 (gl cs_Key x39))), (91, (.box [(.c (.int .i64 (((a0.Tracks.getD x16.toNat default).getD x38.toNat default).At))), (.c (.flt .f32 ((((a0.Tracks.getD x16.toNat default).getD x38.toNat default).Turn).W).bits)), (.c (.flt .f32 ((((a0.Tracks.getD x16.toNat default).getD x38.toNat default).Turn).X).bits)), (.c (.flt .f32 ((((a0.Tracks.getD x16.toNat default).getD x38.toNat default).Turn).Y).bits)), (.c (.flt .f32 ((((a0.Tracks.getD x16.toNat default).getD x38.toNat default).Turn).Z).bits))]))]⟩ (Tt ∧ T2 ((0 ≤ x16 ∧ x16 < (a0.Tracks.length : Int)) ∧ T2 ((0 ≤ x38 ∧ x38 < ((a0.Tracks.getD x16.toNat default).length : Int)) ∧ Tt ∧ T2 Tt))) [.no, .no, .no, .no, .no, .no, .no, .no, .box 91] [1, 2, 3, 6, 8, 9, 10, 12, 48, 49, 68, 69] [1, 2, 3, 4, 28, 75, 91] ⟨tr, tr, tr, c41, tr, tr, c42, tr, tr, tr, tr⟩ ?_
          refine thenQ_normal ?_
          refine AW.seq ?_
          obtain ⟨j44, e45, h⟩ := bind_some h
          refine AW.join1 (s2 := ⟨[(1, (vc (.int .i64 a1))), (2, (vc (.int .i64 a2))), (3, (vp 1 0)), (6, (vp 2 0)), (8, (vp 4 0)), (9, (vc (.int .i64 x16))), (10, (.v (.one (.lst 75 x39.length 5 (gl cs_Key x39))))), (12, (vp 91 0)), (48, (vc (.int .i64 (a0.Tracks.length : Int)))), (49, (vc (.int .i64 x16))), (68, (vc (.int .i64 ((a0.Tracks.getD x16.toNat default).length : Int)))), (69, (vc (.int .i64 x38))), (89, (vc (.bool j44)))], [(1, (.box [(.c (.int .i64 a0.Length)), (.c (.int .i64 a0.Kind)), (.c (sl 1 (csL 5 cs_Key) a0.Tracks)), (.c (sl 4 cs_RootKey a0.Roots))])), (2, (.box [(.c (.int .i64 (0 : Int))), (.c (.int .i64 (0 : Int))), .nils, .nils])), (3, (.lst ([(RootKey.mk (0 : Int) v12)]).length 4 (gl cs_RootKey ([(RootKey.mk (0 : Int) v12)])))), (4, (.box [(.c (.int .i64 (IntKind.i64.wrap (a2 - a1)))), (.c (.int .i64 a0.Kind)), (.lst 28 x17.length 1 (gl (csL 5 cs_Key) x17)), (.lst 3 ([(RootKey.mk (0 : Int) v12)]).length 4 (gl cs_RootKey ([(RootKey.mk (0 : Int) v12)])))])), (28, (.lst x17.length 1 (gl (csL 5 cs_Key) x17))), (75, (.lst x39.length 5 (gl cs_Key x39))), (91, (.box [(.c (.int .i64 (((a0.Tracks.getD x16.toNat default).getD x38.toNat default).At))), (.c (.flt .f32 ((((a0.Tracks.getD x16.toNat default).getD x38.toNat default).Turn).W).bits)), (.c (.flt .f32 ((((a0.Tracks.getD x16.toNat default).getD x38.toNat default).Turn).X).bits)), (.c (.flt .f32 ((((a0.Tracks.getD x16.toNat default).getD x38.toNat default).Turn).Y).bits)), (.c (.flt .f32 ((((a0.Tracks.getD x16.toNat default).getD x38.toNat default).Turn).Z).bits))]))]⟩) ?_ ?_
          · rcases ite2_cases e45 with ⟨b43, e45⟩ | ⟨b43, e45⟩
            · replace e45 := some_eq e45
              subst e45
              exact AW.rA ⟨[(1, (vc (.int .i64 a1))), (2, (vc (.int .i64 a2))), (3, (vp 1 0)), (6, (vp 2 0)), (8, (vp 4 0)), (9, (vc (.int .i64 x16))), (10, (.v (.one (.lst 75 x39.length 5 (gl cs_Key x39))))), (12, (vp 91 0)), (48, (vc (.int .i64 (a0.Tracks.length : Int)))), (49, (vc (.int .i64 x16))), (68, (vc (.int .i64 ((a0.Tracks.getD x16.toNat default).length : Int)))), (69, (vc (.int .i64 x38))), (89, (vc (.bool (decide ((((a0.Tracks.getD x16.toNat default).getD x38.toNat default).At) < a2)))))], [(1, (.box [(.c (.int .i64 a0.Length)), (.c (.int .i64 a0.Kind)), (.c (sl 1 (csL 5 cs_Key) a0.Tracks)), (.c (sl 4 cs_RootKey a0.Roots))])), (2, (.box [(.c (.int .i64 (0 : Int))), (.c (.int .i64 (0 : Int))), .nils, .nils])), (3, (.lst ([(RootKey.mk (0 : Int) v12)]).length 4 (gl cs_RootKey ([(RootKey.mk (0 : Int) v12)])))), (4, (.box [(.c (.int .i64 (IntKind.i64.wrap (a2 - a1)))), (.c (.int .i64 a0.Kind)), (.lst 28 x17.length 1 (gl (csL 5 cs_Key) x17)), (.lst 3 ([(RootKey.mk (0 : Int) v12)]).length 4 (gl cs_RootKey ([(RootKey.mk (0 : Int) v12)])))])), (28, (.lst x17.length 1 (gl (csL 5 cs_Key) x17))), (75, (.lst x39.length 5 (gl cs_Key x39))), (91, (.box [(.c (.int .i64 (((a0.Tracks.getD x16.toNat default).getD x38.toNat default).At))), (.c (.flt .f32 ((((a0.Tracks.getD x16.toNat default).getD x38.toNat default).Turn).W).bits)), (.c (.flt .f32 ((((a0.Tracks.getD x16.toNat default).getD x38.toNat default).Turn).X).bits)), (.c (.flt .f32 ((((a0.Tracks.getD x16.toNat default).getD x38.toNat default).Turn).Y).bits)), (.c (.flt .f32 ((((a0.Tracks.getD x16.toNat default).getD x38.toNat default).Turn).Z).bits))]))]⟩ (T4 ((Tt ∧ (decide ((((a0.Tracks.getD x16.toNat default).getD x38.toNat default).At) > a1)) = true) ∧ Tt ∧ T4 Tt)) [.no, .no, .no, .no, .dec true] [1, 2, 3, 6, 8, 9, 10, 12, 48, 49, 68, 69, 89] [1, 2, 3, 4, 28, 75, 91] ⟨tr, tr, tr, tr, ⟨tr, b43⟩, tr, tr, tr, tr, tr, tr⟩ ⟨rfl, rfl⟩
            · replace e45 := some_eq e45
              subst e45
              exact AW.rA ⟨[(1, (vc (.int .i64 a1))), (2, (vc (.int .i64 a2))), (3, (vp 1 0)), (6, (vp 2 0)), (8, (vp 4 0)), (9, (vc (.int .i64 x16))), (10, (.v (.one (.lst 75 x39.length 5 (gl cs_Key x39))))), (12, (vp 91 0)), (48, (vc (.int .i64 (a0.Tracks.length : Int)))), (49, (vc (.int .i64 x16))), (68, (vc (.int .i64 ((a0.Tracks.getD x16.toNat default).length : Int)))), (69, (vc (.int .i64 x38))), (89, (vc (.bool false)))], [(1, (.box [(.c (.int .i64 a0.Length)), (.c (.int .i64 a0.Kind)), (.c (sl 1 (csL 5 cs_Key) a0.Tracks)), (.c (sl 4 cs_RootKey a0.Roots))])), (2, (.box [(.c (.int .i64 (0 : Int))), (.c (.int .i64 (0 : Int))), .nils, .nils])), (3, (.lst ([(RootKey.mk (0 : Int) v12)]).length 4 (gl cs_RootKey ([(RootKey.mk (0 : Int) v12)])))), (4, (.box [(.c (.int .i64 (IntKind.i64.wrap (a2 - a1)))), (.c (.int .i64 a0.Kind)), (.lst 28 x17.length 1 (gl (csL 5 cs_Key) x17)), (.lst 3 ([(RootKey.mk (0 : Int) v12)]).length 4 (gl cs_RootKey ([(RootKey.mk (0 : Int) v12)])))])), (28, (.lst x17.length 1 (gl (csL 5 cs_Key) x17))), (75, (.lst x39.length 5 (gl cs_Key x39))), (91, (.box [(.c (.int .i64 (((a0.Tracks.getD x16.toNat default).getD x38.toNat default).At))), (.c (.flt .f32 ((((a0.Tracks.getD x16.toNat default).getD x38.toNat default).Turn).W).bits)), (.c (.flt .f32 ((((a0.Tracks.getD x16.toNat default).getD x38.toNat default).Turn).X).bits)), (.c (.flt .f32 ((((a0.Tracks.getD x16.toNat default).getD x38.toNat default).Turn).Y).bits)), (.c (.flt .f32 ((((a0.Tracks.getD x16.toNat default).getD x38.toNat default).Turn).Z).bits))]))]⟩ (T4 ((Tt ∧ (decide ((((a0.Tracks.getD x16.toNat default).getD x38.toNat default).At) > a1)) = false) ∧ Tt ∧ T4 Tt)) [.no, .no, .no, .no, .dec false] [1, 2, 3, 6, 8, 9, 10, 12, 48, 49, 68, 69, 89] [1, 2, 3, 4, 28, 75, 91] ⟨tr, tr, tr, tr, ⟨tr, b43⟩, tr, tr, tr, tr, tr, tr⟩ ⟨rfl, rfl⟩
          refine thenQ_normal ?_
          rcases ite2_cases h with ⟨b46, h⟩ | ⟨b46, h⟩
          · refine AW.cond_t rfl b46 ?_
            obtain ⟨c47, h⟩ := chk_some h
            refine AW.rA ⟨[(1, (vc (.int .i64 a1))), (2, (vc (.int .i64 a2))), (3, (vp 1 0)), (6, (vp 2 0)), (8, (vp 4 0)), (9, (vc (.int .i64 x16))), (10, (.v (.one (.lst 93 (x39 ++ ([(Key.mk (IntKind.i64.wrap ((((a0.Tracks.getD x16.toNat default).getD x38.toNat default).At) - a1)) (((a0.Tracks.getD x16.toNat default).getD x38.toNat default).Turn))])).length 5 (gl cs_Key (x39 ++ ([(Key.mk (IntKind.i64.wrap ((((a0.Tracks.getD x16.toNat default).getD x38.toNat default).At) - a1)) (((a0.Tracks.getD x16.toNat default).getD x38.toNat default).Turn))]))))))), (48, (vc (.int .i64 (a0.Tracks.length : Int)))), (49, (vc (.int .i64 x16))), (68, (vc (.int .i64 ((a0.Tracks.getD x16.toNat default).length : Int)))), (69, (vc (.int .i64 x38)))], [(1, (.box [(.c (.int .i64 a0.Length)), (.c (.int .i64 a0.Kind)), (.c (sl 1 (csL 5 cs_Key) a0.Tracks)), (.c (sl 4 cs_RootKey a0.Roots))])), (2, (.box [(.c (.int .i64 (0 : Int))), (.c (.int .i64 (0 : Int))), .nils, .nils])), (3, (.lst ([(RootKey.mk (0 : Int) v12)]).length 4 (gl cs_RootKey ([(RootKey.mk (0 : Int) v12)])))), (4, (.box [(.c (.int .i64 (IntKind.i64.wrap (a2 - a1)))), (.c (.int .i64 a0.Kind)), (.lst 28 x17.length 1 (gl (csL 5 cs_Key) x17)), (.lst 3 ([(RootKey.mk (0 : Int) v12)]).length 4 (gl cs_RootKey ([(RootKey.mk (0 : Int) v12)])))])), (28, (.lst x17.length 1 (gl (csL 5 cs_Key) x17))), (93, (.lst (x39 ++ ([(Key.mk (IntKind.i64.wrap ((((a0.Tracks.getD x16.toNat default).getD x38.toNat default).At) - a1)) (((a0.Tracks.getD x16.toNat default).getD x38.toNat default).Turn))])).length 5 (gl cs_Key (x39 ++ ([(Key.mk (IntKind.i64.wrap ((((a0.Tracks.getD x16.toNat default).getD x38.toNat default).At) - a1)) (((a0.Tracks.getD x16.toNat default).getD x38.toNat default).Turn))])))))]⟩ (T4 (T4 ((([(Key.mk (IntKind.i64.wrap ((((a0.Tracks.getD x16.toNat default).getD x38.toNat default).At) - a1)) (((a0.Tracks.getD x16.toNat default).getD x38.toNat default).Turn))]).length = 1 ∧ (((.int .i64 (IntKind.i64.wrap ((((a0.Tracks.getD x16.toNat default).getD x38.toNat default).At) - a1))) : C) = (.int .i64 (IntKind.i64.wrap ((((a0.Tracks.getD x16.toNat default).getD x38.toNat default).At) - a1))) ∧ Tt) ∧ (((.flt .f32 ((((a0.Tracks.getD x16.toNat default).getD x38.toNat default).Turn).W).bits) : C) = (.flt .f32 ((((a0.Tracks.getD x16.toNat default).getD x38.toNat default).Turn).W).bits) ∧ Tt) ∧ (((.flt .f32 ((((a0.Tracks.getD x16.toNat default).getD x38.toNat default).Turn).X).bits) : C) = (.flt .f32 ((((a0.Tracks.getD x16.toNat default).getD x38.toNat default).Turn).X).bits) ∧ Tt) ∧ (((.flt .f32 ((((a0.Tracks.getD x16.toNat default).getD x38.toNat default).Turn).Y).bits) : C) = (.flt .f32 ((((a0.Tracks.getD x16.toNat default).getD x38.toNat default).Turn).Y).bits) ∧ Tt) ∧ (((.flt .f32 ((((a0.Tracks.getD x16.toNat default).getD x38.toNat default).Turn).Z).bits) : C) = (.flt .f32 ((((a0.Tracks.getD x16.toNat default).getD x38.toNat default).Turn).Z).bits) ∧ Tt) ∧ Tt) ∧ ((x39 ++ ([(Key.mk (IntKind.i64.wrap ((((a0.Tracks.getD x16.toNat default).getD x38.toNat default).At) - a1)) (((a0.Tracks.getD x16.toNat default).getD x38.toNat default).Turn))])).length = x39.length + ([(Key.mk (IntKind.i64.wrap ((((a0.Tracks.getD x16.toNat default).getD x38.toNat default).At) - a1)) (((a0.Tracks.getD x16.toNat default).getD x38.toNat default).Turn))]).length ∧ AppOb (x39.length) (([(Key.mk (IntKind.i64.wrap ((((a0.Tracks.getD x16.toNat default).getD x38.toNat default).At) - a1)) (((a0.Tracks.getD x16.toNat default).getD x38.toNat default).Turn))]).length) 5 (gl cs_Key x39) (gl cs_Key ([(Key.mk (IntKind.i64.wrap ((((a0.Tracks.getD x16.toNat default).getD x38.toNat default).At) - a1)) (((a0.Tracks.getD x16.toNat default).getD x38.toNat default).Turn))])) (gl cs_Key (x39 ++ ([(Key.mk (IntKind.i64.wrap ((((a0.Tracks.getD x16.toNat default).getD x38.toNat default).At) - a1)) (((a0.Tracks.getD x16.toNat default).getD x38.toNat default).Turn))]))) ∧ (∀ i j, i < ([(Key.mk (IntKind.i64.wrap ((((a0.Tracks.getD x16.toNat default).getD x38.toNat default).At) - a1)) (((a0.Tracks.getD x16.toNat default).getD x38.toNat default).Turn))]).length → j < 5 → scalarC (gl cs_Key ([(Key.mk (IntKind.i64.wrap ((((a0.Tracks.getD x16.toNat default).getD x38.toNat default).At) - a1)) (((a0.Tracks.getD x16.toNat default).getD x38.toNat default).Turn))]) i j)) ∧ (x39.length + ([(Key.mk (IntKind.i64.wrap ((((a0.Tracks.getD x16.toNat default).getD x38.toNat default).At) - a1)) (((a0.Tracks.getD x16.toNat default).getD x38.toNat default).Turn))]).length) * 24 ≤ 140737488355328) ∧ Tt ∧ Tt))) [.no, .no, .no, .no, .no, .no, .no, .no, .obj 92 ([(Key.mk (IntKind.i64.wrap ((((a0.Tracks.getD x16.toNat default).getD x38.toNat default).At) - a1)) (((a0.Tracks.getD x16.toNat default).getD x38.toNat default).Turn))]).length (gl cs_Key ([(Key.mk (IntKind.i64.wrap ((((a0.Tracks.getD x16.toNat default).getD x38.toNat default).At) - a1)) (((a0.Tracks.getD x16.toNat default).getD x38.toNat default).Turn))])), .objK 93 (x39 ++ ([(Key.mk (IntKind.i64.wrap ((((a0.Tracks.getD x16.toNat default).getD x38.toNat default).At) - a1)) (((a0.Tracks.getD x16.toNat default).getD x38.toNat default).Turn))])).length (gl cs_Key (x39 ++ ([(Key.mk (IntKind.i64.wrap ((((a0.Tracks.getD x16.toNat default).getD x38.toNat default).At) - a1)) (((a0.Tracks.getD x16.toNat default).getD x38.toNat default).Turn))])))] [1, 2, 3, 6, 8, 9, 10, 48, 49, 68, 69] [1, 2, 3, 4, 28, 93] ⟨tr, tr, tr, tr, tr, tr, tr, tr, ⟨rfl, ⟨⟨rfl, tr⟩, ⟨rfl, tr⟩, ⟨rfl, tr⟩, ⟨rfl, tr⟩, ⟨rfl, tr⟩, tr⟩⟩, ⟨List.length_append, gl_append, gl_scalar sc_Key _, c47⟩, tr, tr⟩ ?_
            refine blockQ_normal ?_
            refine thenQ_normal ?_
            refine AW.rA ⟨[(1, (vc (.int .i64 a1))), (2, (vc (.int .i64 a2))), (3, (vp 1 0)), (6, (vp 2 0)), (8, (vp 4 0)), (9, (vc (.int .i64 x16))), (10, (.v (.one (.lst 93 (x39 ++ ([(Key.mk (IntKind.i64.wrap ((((a0.Tracks.getD x16.toNat default).getD x38.toNat default).At) - a1)) (((a0.Tracks.getD x16.toNat default).getD x38.toNat default).Turn))])).length 5 (gl cs_Key (x39 ++ ([(Key.mk (IntKind.i64.wrap ((((a0.Tracks.getD x16.toNat default).getD x38.toNat default).At) - a1)) (((a0.Tracks.getD x16.toNat default).getD x38.toNat default).Turn))]))))))), (48, (vc (.int .i64 (a0.Tracks.length : Int)))), (49, (vc (.int .i64 x16))), (68, (vc (.int .i64 ((a0.Tracks.getD x16.toNat default).length : Int)))), (69, (vc (.int .i64 (IntKind.i64.wrap (x38 + (1 : Int))))))], [(1, (.box [(.c (.int .i64 a0.Length)), (.c (.int .i64 a0.Kind)), (.c (sl 1 (csL 5 cs_Key) a0.Tracks)), (.c (sl 4 cs_RootKey a0.Roots))])), (2, (.box [(.c (.int .i64 (0 : Int))), (.c (.int .i64 (0 : Int))), .nils, .nils])), (3, (.lst ([(RootKey.mk (0 : Int) v12)]).length 4 (gl cs_RootKey ([(RootKey.mk (0 : Int) v12)])))), (4, (.box [(.c (.int .i64 (IntKind.i64.wrap (a2 - a1)))), (.c (.int .i64 a0.Kind)), (.lst 28 x17.length 1 (gl (csL 5 cs_Key) x17)), (.lst 3 ([(RootKey.mk (0 : Int) v12)]).length 4 (gl cs_RootKey ([(RootKey.mk (0 : Int) v12)])))])), (28, (.lst x17.length 1 (gl (csL 5 cs_Key) x17))), (93, (.lst (x39 ++ ([(Key.mk (IntKind.i64.wrap ((((a0.Tracks.getD x16.toNat default).getD x38.toNat default).At) - a1)) (((a0.Tracks.getD x16.toNat default).getD x38.toNat default).Turn))])).length 5 (gl cs_Key (x39 ++ ([(Key.mk (IntKind.i64.wrap ((((a0.Tracks.getD x16.toNat default).getD x38.toNat default).At) - a1)) (((a0.Tracks.getD x16.toNat default).getD x38.toNat default).Turn))])))))]⟩ (T2 Tt) [] [1, 2, 3, 6, 8, 9, 10, 48, 49, 68, 69] [1, 2, 3, 4, 28, 93] ⟨tr, tr, tr⟩ ?_
            exact loopQ_normal (k, (IntKind.i64.wrap (x38 + (1 : Int))), (x39 ++ ([(Key.mk (IntKind.i64.wrap ((((a0.Tracks.getD x16.toNat default).getD x38.toNat default).At) - a1)) (((a0.Tracks.getD x16.toNat default).getD x38.toNat default).Turn))]))) h (Nat.lt_succ_self k) (Sub.trans (Sub.swap 75 93 _ (by kernel_rfl) (by kernel_rfl)) (Sub.keep [1, 2, 3, 6, 8, 9, 10, 48, 49, 68, 69] [1, 2, 3, 4, 28, 75] (by kernel_rfl) (by kernel_rfl)))
          · refine AW.cond_f rfl b46 ?_
            refine AW.skip ?_
            refine blockQ_normal ?_
            refine thenQ_normal ?_
            refine AW.rA ⟨[(1, (vc (.int .i64 a1))), (2, (vc (.int .i64 a2))), (3, (vp 1 0)), (6, (vp 2 0)), (8, (vp 4 0)), (9, (vc (.int .i64 x16))), (10, (.v (.one (.lst 75 x39.length 5 (gl cs_Key x39))))), (48, (vc (.int .i64 (a0.Tracks.length : Int)))), (49, (vc (.int .i64 x16))), (68, (vc (.int .i64 ((a0.Tracks.getD x16.toNat default).length : Int)))), (69, (vc (.int .i64 (IntKind.i64.wrap (x38 + (1 : Int))))))], [(1, (.box [(.c (.int .i64 a0.Length)), (.c (.int .i64 a0.Kind)), (.c (sl 1 (csL 5 cs_Key) a0.Tracks)), (.c (sl 4 cs_RootKey a0.Roots))])), (2, (.box [(.c (.int .i64 (0 : Int))), (.c (.int .i64 (0 : Int))), .nils, .nils])), (3, (.lst ([(RootKey.mk (0 : Int) v12)]).length 4 (gl cs_RootKey ([(RootKey.mk (0 : Int) v12)])))), (4, (.box [(.c (.int .i64 (IntKind.i64.wrap (a2 - a1)))), (.c (.int .i64 a0.Kind)), (.lst 28 x17.length 1 (gl (csL 5 cs_Key) x17)), (.lst 3 ([(RootKey.mk (0 : Int) v12)]).length 4 (gl cs_RootKey ([(RootKey.mk (0 : Int) v12)])))])), (28, (.lst x17.length 1 (gl (csL 5 cs_Key) x17))), (75, (.lst x39.length 5 (gl cs_Key x39)))]⟩ (T2 Tt) [] [1, 2, 3, 6, 8, 9, 10, 48, 49, 68, 69] [1, 2, 3, 4, 28, 75] ⟨tr, tr, tr⟩ ?_
            exact loopQ_normal (k, (IntKind.i64.wrap (x38 + (1 : Int))), x39) h (Nat.lt_succ_self k) (Sub.keep [1, 2, 3, 6, 8, 9, 10, 48, 49, 68, 69] [1, 2, 3, 4, 28, 75] (by kernel_rfl) (by kernel_rfl))
        · refine AW.cond_f rfl b40 ?_
          refine AW.exit ?_
          refine thenQ_exit ?_
          refine loopQ_exit ?_
          refine blockQ_exit ?_
          replace h := some_eq h
          subst h
          exact ⟨rfl, Sub.keep [1, 2, 3, 6, 8, 9, 10, 48, 49] [1, 2, 3, 4, 28, 75] (by kernel_rfl) (by kernel_rfl)⟩
      refine thenQ_normal ?_
      obtain ⟨v48, e49, h⟩ := bind_some h
      obtain ⟨c50, h⟩ := chk_some h
      obtain ⟨c51, h⟩ := chk_some h
      refine AW.dA ⟨[(1, (vc (.int .i64 a1))), (2, (vc (.int .i64 a2))), (3, (vp 1 0)), (6, (vp 2 0)), (8, (vp 4 0)), (48, (vc (.int .i64 (a0.Tracks.length : Int)))), (49, (vc (.int .i64 x16)))], [(1, (.box [(.c (.int .i64 a0.Length)), (.c (.int .i64 a0.Kind)), (.c (sl 1 (csL 5 cs_Key) a0.Tracks)), (.c (sl 4 cs_RootKey a0.Roots))])), (2, (.box [(.c (.int .i64 (0 : Int))), (.c (.int .i64 (0 : Int))), .nils, .nils])), (3, (.lst ([(RootKey.mk (0 : Int) v12)]).length 4 (gl cs_RootKey ([(RootKey.mk (0 : Int) v12)])))), (4, (.box [(.c (.int .i64 (IntKind.i64.wrap (a2 - a1)))), (.c (.int .i64 a0.Kind)), (.lst 97 (x17 ++ ([(j34 ++ ([(Key.mk (IntKind.i64.wrap (a2 - a1)) v48)]))])).length 1 (gl (csL 5 cs_Key) (x17 ++ ([(j34 ++ ([(Key.mk (IntKind.i64.wrap (a2 - a1)) v48)]))])))), (.lst 3 ([(RootKey.mk (0 : Int) v12)]).length 4 (gl cs_RootKey ([(RootKey.mk (0 : Int) v12)])))])), (97, (.lst (x17 ++ ([(j34 ++ ([(Key.mk (IntKind.i64.wrap (a2 - a1)) v48)]))])).length 1 (gl (csL 5 cs_Key) (x17 ++ ([(j34 ++ ([(Key.mk (IntKind.i64.wrap (a2 - a1)) v48)]))])))))]⟩ ((Tt ∧ T4 (T4 ((0 ≤ x16 ∧ x16 < (a0.Tracks.length : Int)) ∧ T4 ((((Eqc (sl 5 cs_Key (a0.Tracks.getD x16.toNat default))) ∧ (Eqc (.int .i64 a2)) ∧ (Eqc (.int .i64 a0.Kind)) ∧ Tt) ∧ CallOK Try.prog 90 [.one (sl 5 cs_Key (a0.Tracks.getD x16.toNat default)), .one (.int .i64 a2), .one (.int .i64 a0.Kind)] [.agg (cs_Turn v48)]) ∧ Tt ∧ (([(Key.mk (IntKind.i64.wrap (a2 - a1)) v48)]).length = 1 ∧ (((.int .i64 (IntKind.i64.wrap (a2 - a1))) : C) = (.int .i64 (IntKind.i64.wrap (a2 - a1))) ∧ Tt) ∧ (((.flt .f32 v48.W.bits) : C) = (.flt .f32 v48.W.bits) ∧ Tt) ∧ (((.flt .f32 v48.X.bits) : C) = (.flt .f32 v48.X.bits) ∧ Tt) ∧ (((.flt .f32 v48.Y.bits) : C) = (.flt .f32 v48.Y.bits) ∧ Tt) ∧ (((.flt .f32 v48.Z.bits) : C) = (.flt .f32 v48.Z.bits) ∧ Tt) ∧ Tt) ∧ ((j34 ++ ([(Key.mk (IntKind.i64.wrap (a2 - a1)) v48)])).length = j34.length + ([(Key.mk (IntKind.i64.wrap (a2 - a1)) v48)]).length ∧ AppOb (j34.length) (([(Key.mk (IntKind.i64.wrap (a2 - a1)) v48)]).length) 5 (gl cs_Key j34) (gl cs_Key ([(Key.mk (IntKind.i64.wrap (a2 - a1)) v48)])) (gl cs_Key (j34 ++ ([(Key.mk (IntKind.i64.wrap (a2 - a1)) v48)]))) ∧ (∀ i j, i < ([(Key.mk (IntKind.i64.wrap (a2 - a1)) v48)]).length → j < 5 → scalarC (gl cs_Key ([(Key.mk (IntKind.i64.wrap (a2 - a1)) v48)]) i j)) ∧ (j34.length + ([(Key.mk (IntKind.i64.wrap (a2 - a1)) v48)]).length) * 24 ≤ 140737488355328) ∧ (([(j34 ++ ([(Key.mk (IntKind.i64.wrap (a2 - a1)) v48)]))]).length = 1 ∧ (((sl 5 cs_Key (j34 ++ ([(Key.mk (IntKind.i64.wrap (a2 - a1)) v48)]))) : C) = (sl 5 cs_Key (j34 ++ ([(Key.mk (IntKind.i64.wrap (a2 - a1)) v48)])))) ∧ Tt) ∧ ((x17 ++ ([(j34 ++ ([(Key.mk (IntKind.i64.wrap (a2 - a1)) v48)]))])).length = x17.length + ([(j34 ++ ([(Key.mk (IntKind.i64.wrap (a2 - a1)) v48)]))]).length ∧ AppOb (x17.length) (([(j34 ++ ([(Key.mk (IntKind.i64.wrap (a2 - a1)) v48)]))]).length) 1 (gl (csL 5 cs_Key) x17) (gl (csL 5 cs_Key) ([(j34 ++ ([(Key.mk (IntKind.i64.wrap (a2 - a1)) v48)]))])) (gl (csL 5 cs_Key) (x17 ++ ([(j34 ++ ([(Key.mk (IntKind.i64.wrap (a2 - a1)) v48)]))]))) ∧ Tt ∧ (x17.length + ([(j34 ++ ([(Key.mk (IntKind.i64.wrap (a2 - a1)) v48)]))]).length) * 24 ≤ 140737488355328) ∧ Tt ∧ Tt)))) ∧ (Tt ∧ Tt)) 21 [.no, .no, .no, .no, .no, .no, .no, .no, .no, .no, .no, .no, .no, .no, .call [.one (sl 5 cs_Key (a0.Tracks.getD x16.toNat default)), .one (.int .i64 a2), .one (.int .i64 a0.Kind)] [.agg (cs_Turn v48)] [[.view, .view, .view, .view]], .no, .obj 94 ([(Key.mk (IntKind.i64.wrap (a2 - a1)) v48)]).length (gl cs_Key ([(Key.mk (IntKind.i64.wrap (a2 - a1)) v48)])), .objK 95 (j34 ++ ([(Key.mk (IntKind.i64.wrap (a2 - a1)) v48)])).length (gl cs_Key (j34 ++ ([(Key.mk (IntKind.i64.wrap (a2 - a1)) v48)]))), .obj 96 ([(j34 ++ ([(Key.mk (IntKind.i64.wrap (a2 - a1)) v48)]))]).length (gl (csL 5 cs_Key) ([(j34 ++ ([(Key.mk (IntKind.i64.wrap (a2 - a1)) v48)]))])), .obj 97 (x17 ++ ([(j34 ++ ([(Key.mk (IntKind.i64.wrap (a2 - a1)) v48)]))])).length (gl (csL 5 cs_Key) (x17 ++ ([(j34 ++ ([(Key.mk (IntKind.i64.wrap (a2 - a1)) v48)]))])))] [1, 2, 3, 6, 8, 48, 49] [1, 2, 3, 4, 97] ⟨⟨tr, tr, tr, tr, tr, tr, tr, tr, tr, c19, tr, tr, tr, tr, ⟨⟨rfl, rfl, rfl, tr⟩, ok_spec_l05Turn K (a0.Tracks.getD x16.toNat default) a2 a0.Kind v48 e49⟩, tr, ⟨rfl, ⟨⟨rfl, tr⟩, ⟨rfl, tr⟩, ⟨rfl, tr⟩, ⟨rfl, tr⟩, ⟨rfl, tr⟩, tr⟩⟩, ⟨List.length_append, gl_append, gl_scalar sc_Key _, c50⟩, ⟨rfl, ⟨rfl, tr⟩⟩, ⟨List.length_append, gl_append, tr, c51⟩, tr, tr⟩, ⟨tr, tr⟩⟩ ?_
      refine blockQ_normal ?_
      refine thenQ_normal ?_
      refine AW.rA ⟨[(1, (vc (.int .i64 a1))), (2, (vc (.int .i64 a2))), (3, (vp 1 0)), (6, (vp 2 0)), (8, (vp 4 0)), (48, (vc (.int .i64 (a0.Tracks.length : Int)))), (49, (vc (.int .i64 (IntKind.i64.wrap (x16 + (1 : Int))))))], [(1, (.box [(.c (.int .i64 a0.Length)), (.c (.int .i64 a0.Kind)), (.c (sl 1 (csL 5 cs_Key) a0.Tracks)), (.c (sl 4 cs_RootKey a0.Roots))])), (2, (.box [(.c (.int .i64 (0 : Int))), (.c (.int .i64 (0 : Int))), .nils, .nils])), (3, (.lst ([(RootKey.mk (0 : Int) v12)]).length 4 (gl cs_RootKey ([(RootKey.mk (0 : Int) v12)])))), (4, (.box [(.c (.int .i64 (IntKind.i64.wrap (a2 - a1)))), (.c (.int .i64 a0.Kind)), (.lst 97 (x17 ++ ([(j34 ++ ([(Key.mk (IntKind.i64.wrap (a2 - a1)) v48)]))])).length 1 (gl (csL 5 cs_Key) (x17 ++ ([(j34 ++ ([(Key.mk (IntKind.i64.wrap (a2 - a1)) v48)]))])))), (.lst 3 ([(RootKey.mk (0 : Int) v12)]).length 4 (gl cs_RootKey ([(RootKey.mk (0 : Int) v12)])))])), (97, (.lst (x17 ++ ([(j34 ++ ([(Key.mk (IntKind.i64.wrap (a2 - a1)) v48)]))])).length 1 (gl (csL 5 cs_Key) (x17 ++ ([(j34 ++ ([(Key.mk (IntKind.i64.wrap (a2 - a1)) v48)]))])))))]⟩ (T2 Tt) [] [1, 2, 3, 6, 8, 48, 49] [1, 2, 3, 4, 97] ⟨tr, tr, tr⟩ ?_
      exact loopQ_normal (k, (IntKind.i64.wrap (x16 + (1 : Int))), (x17 ++ ([(j34 ++ ([(Key.mk (IntKind.i64.wrap (a2 - a1)) v48)]))]))) h (Nat.lt_succ_self k) (Sub.trans (Sub.swap 28 97 _ (by kernel_rfl) (by kernel_rfl)) (Sub.keep [1, 2, 3, 6, 8, 48, 49] [1, 2, 3, 4, 28] (by kernel_rfl) (by kernel_rfl)))
    · refine AW.cond_f rfl b18 ?_
      refine AW.exit ?_
      refine thenQ_exit ?_
      refine loopQ_exit ?_
      refine blockQ_exit ?_
      refine thenQ_normal ?_
      refine AW.seq ?_
      refine AW.seq (AW.rA ⟨[(1, (vc (.int .i64 a1))), (2, (vc (.int .i64 a2))), (3, (vp 1 0)), (6, (vp 2 0)), (8, (vp 4 0)), (125, (vc (.int .i64 (a0.Roots.length : Int)))), (126, (vc (.int .i64 (0 : Int))))], [(1, (.box [(.c (.int .i64 a0.Length)), (.c (.int .i64 a0.Kind)), (.c (sl 1 (csL 5 cs_Key) a0.Tracks)), (.c (sl 4 cs_RootKey a0.Roots))])), (2, (.box [(.c (.int .i64 (0 : Int))), (.c (.int .i64 (0 : Int))), .nils, .nils])), (3, (.lst ([(RootKey.mk (0 : Int) v12)]).length 4 (gl cs_RootKey ([(RootKey.mk (0 : Int) v12)])))), (4, (.box [(.c (.int .i64 (IntKind.i64.wrap (a2 - a1)))), (.c (.int .i64 a0.Kind)), (.lst 28 x17.length 1 (gl (csL 5 cs_Key) x17)), (.lst 3 ([(RootKey.mk (0 : Int) v12)]).length 4 (gl cs_RootKey ([(RootKey.mk (0 : Int) v12)])))])), (28, (.lst x17.length 1 (gl (csL 5 cs_Key) x17)))]⟩ (T4 Tt) [] [1, 2, 3, 6, 8, 125, 126] [1, 2, 3, 4, 28] ⟨tr, tr, tr, tr, tr⟩ (thenQ_normal ?_))
      refine AW.block ?_
      refine AW.loopQ (σ := Nat × Int × (List RootKey)) (fun p => ⟨[(1, (vc (.int .i64 a1))), (2, (vc (.int .i64 a2))), (3, (vp 1 0)), (6, (vp 2 0)), (8, (vp 4 0)), (125, (vc (.int .i64 (a0.Roots.length : Int)))), (126, (vc (.int .i64 p.2.1)))], [(1, (.box [(.c (.int .i64 a0.Length)), (.c (.int .i64 a0.Kind)), (.c (sl 1 (csL 5 cs_Key) a0.Tracks)), (.c (sl 4 cs_RootKey a0.Roots))])), (2, (.box [(.c (.int .i64 (0 : Int))), (.c (.int .i64 (0 : Int))), .nils, .nils])), (3, (.lst p.2.2.length 4 (gl cs_RootKey p.2.2))), (4, (.box [(.c (.int .i64 (IntKind.i64.wrap (a2 - a1)))), (.c (.int .i64 a0.Kind)), (.lst 28 x17.length 1 (gl (csL 5 cs_Key) x17)), (.lst 3 p.2.2.length 4 (gl cs_RootKey p.2.2))])), (28, (.lst x17.length 1 (gl (csL 5 cs_Key) x17)))]⟩) (fun p => spec_CutClip_l6 K a0 a1 a2 x17 p.1 p.2.1 p.2.2 = some o) (fun p => p.1) (K, (0 : Int), [(RootKey.mk (0 : Int) v12)]) h ?_
      clear h
      rintro ⟨k, x54, x55⟩ h
      replace h : spec_CutClip_l6 K a0 a1 a2 x17 k x54 x55 = some o := h
      show AW _ _ (⟨[(1, (vc (.int .i64 a1))), (2, (vc (.int .i64 a2))), (3, (vp 1 0)), (6, (vp 2 0)), (8, (vp 4 0)), (125, (vc (.int .i64 (a0.Roots.length : Int)))), (126, (vc (.int .i64 x54)))], [(1, (.box [(.c (.int .i64 a0.Length)), (.c (.int .i64 a0.Kind)), (.c (sl 1 (csL 5 cs_Key) a0.Tracks)), (.c (sl 4 cs_RootKey a0.Roots))])), (2, (.box [(.c (.int .i64 (0 : Int))), (.c (.int .i64 (0 : Int))), .nils, .nils])), (3, (.lst x55.length 4 (gl cs_RootKey x55))), (4, (.box [(.c (.int .i64 (IntKind.i64.wrap (a2 - a1)))), (.c (.int .i64 a0.Kind)), (.lst 28 x17.length 1 (gl (csL 5 cs_Key) x17)), (.lst 3 x55.length 4 (gl cs_RootKey x55))])), (28, (.lst x17.length 1 (gl (csL 5 cs_Key) x17)))]⟩ : St) _
      obtain _ | k := k
      · rw [spec_CutClip_l6] at h; cases h
      rw [spec_CutClip_l6] at h
      refine AW.seq (AW.rA ⟨[(1, (vc (.int .i64 a1))), (2, (vc (.int .i64 a2))), (3, (vp 1 0)), (6, (vp 2 0)), (8, (vp 4 0)), (125, (vc (.int .i64 (a0.Roots.length : Int)))), (126, (vc (.int .i64 x54))), (127, (vc (.bool (decide (x54 < (a0.Roots.length : Int))))))], [(1, (.box [(.c (.int .i64 a0.Length)), (.c (.int .i64 a0.Kind)), (.c (sl 1 (csL 5 cs_Key) a0.Tracks)), (.c (sl 4 cs_RootKey a0.Roots))])), (2, (.box [(.c (.int .i64 (0 : Int))), (.c (.int .i64 (0 : Int))), .nils, .nils])), (3, (.lst x55.length 4 (gl cs_RootKey x55))), (4, (.box [(.c (.int .i64 (IntKind.i64.wrap (a2 - a1)))), (.c (.int .i64 a0.Kind)), (.lst 28 x17.length 1 (gl (csL 5 cs_Key) x17)), (.lst 3 x55.length 4 (gl cs_RootKey x55))])), (28, (.lst x17.length 1 (gl (csL 5 cs_Key) x17)))]⟩ (Tt ∧ Tt) [] [1, 2, 3, 6, 8, 125, 126, 127] [1, 2, 3, 4, 28] ⟨tr, tr⟩ (thenQ_normal ?_))
      refine AW.seq ?_
      rcases ite2_cases h with ⟨b56, h⟩ | ⟨b56, h⟩
      · refine AW.cond_t rfl b56 ?_
        refine AW.skip ?_
        refine thenQ_normal ?_
        refine AW.seq ?_
        refine AW.block ?_
        refine AW.seq (AW.rA ⟨[(1, (vc (.int .i64 a1))), (2, (vc (.int .i64 a2))), (3, (vp 1 0)), (6, (vp 2 0)), (8, (vp 4 0)), (13, (vc (.int .i64 x54))), (125, (vc (.int .i64 (a0.Roots.length : Int)))), (126, (vc (.int .i64 x54)))], [(1, (.box [(.c (.int .i64 a0.Length)), (.c (.int .i64 a0.Kind)), (.c (sl 1 (csL 5 cs_Key) a0.Tracks)), (.c (sl 4 cs_RootKey a0.Roots))])), (2, (.box [(.c (.int .i64 (0 : Int))), (.c (.int .i64 (0 : Int))), .nils, .nils])), (3, (.lst x55.length 4 (gl cs_RootKey x55))), (4, (.box [(.c (.int .i64 (IntKind.i64.wrap (a2 - a1)))), (.c (.int .i64 a0.Kind)), (.lst 28 x17.length 1 (gl (csL 5 cs_Key) x17)), (.lst 3 x55.length 4 (gl cs_RootKey x55))])), (28, (.lst x17.length 1 (gl (csL 5 cs_Key) x17)))]⟩ (T2 Tt) [] [1, 2, 3, 6, 8, 13, 125, 126] [1, 2, 3, 4, 28] ⟨tr, tr, tr⟩ (thenQ_normal ?_))
        refine AW.seq ?_
        obtain ⟨c57, h⟩ := chk_some h
        refine AW.rA ⟨[(1, (vc (.int .i64 a1))), (2, (vc (.int .i64 a2))), (3, (vp 1 0)), (6, (vp 2 0)), (8, (vp 4 0)), (14, (vp 104 0)), (125, (vc (.int .i64 (a0.Roots.length : Int)))), (126, (vc (.int .i64 x54)))], [(1, (.box [(.c (.int .i64 a0.Length)), (.c (.int .i64 a0.Kind)), (.c (sl 1 (csL 5 cs_Key) a0.Tracks)), (.c (sl 4 cs_RootKey a0.Roots))])), (2, (.box [(.c (.int .i64 (0 : Int))), (.c (.int .i64 (0 : Int))), .nils, .nils])), (3, (.lst x55.length 4 (gl cs_RootKey x55))), (4, (.box [(.c (.int .i64 (IntKind.i64.wrap (a2 - a1)))), (.c (.int .i64 a0.Kind)), (.lst 28 x17.length 1 (gl (csL 5 cs_Key) x17)), (.lst 3 x55.length 4 (gl cs_RootKey x55))])), (28, (.lst x17.length 1 (gl (csL 5 cs_Key) x17))), (104, (.box [(.c (.int .i64 ((a0.Roots.getD x54.toNat default).At))), (.c (.flt .f32 (((a0.Roots.getD x54.toNat default).Place).X).bits)), (.c (.flt .f32 (((a0.Roots.getD x54.toNat default).Place).Y).bits)), (.c (.flt .f32 (((a0.Roots.getD x54.toNat default).Place).Z).bits))]))]⟩ (Tt ∧ T2 ((0 ≤ x54 ∧ x54 < (a0.Roots.length : Int)) ∧ Tt ∧ T2 Tt)) [.no, .no, .no, .no, .no, .box 104] [1, 2, 3, 6, 8, 14, 125, 126] [1, 2, 3, 4, 28, 104] ⟨tr, tr, tr, c57, tr, tr, tr, tr⟩ ?_
        refine thenQ_normal ?_
        refine AW.seq ?_
        obtain ⟨j59, e60, h⟩ := bind_some h
        refine AW.join1 (s2 := ⟨[(1, (vc (.int .i64 a1))), (2, (vc (.int .i64 a2))), (3, (vp 1 0)), (6, (vp 2 0)), (8, (vp 4 0)), (14, (vp 104 0)), (125, (vc (.int .i64 (a0.Roots.length : Int)))), (126, (vc (.int .i64 x54))), (143, (vc (.bool j59)))], [(1, (.box [(.c (.int .i64 a0.Length)), (.c (.int .i64 a0.Kind)), (.c (sl 1 (csL 5 cs_Key) a0.Tracks)), (.c (sl 4 cs_RootKey a0.Roots))])), (2, (.box [(.c (.int .i64 (0 : Int))), (.c (.int .i64 (0 : Int))), .nils, .nils])), (3, (.lst x55.length 4 (gl cs_RootKey x55))), (4, (.box [(.c (.int .i64 (IntKind.i64.wrap (a2 - a1)))), (.c (.int .i64 a0.Kind)), (.lst 28 x17.length 1 (gl (csL 5 cs_Key) x17)), (.lst 3 x55.length 4 (gl cs_RootKey x55))])), (28, (.lst x17.length 1 (gl (csL 5 cs_Key) x17))), (104, (.box [(.c (.int .i64 ((a0.Roots.getD x54.toNat default).At))), (.c (.flt .f32 (((a0.Roots.getD x54.toNat default).Place).X).bits)), (.c (.flt .f32 (((a0.Roots.getD x54.toNat default).Place).Y).bits)), (.c (.flt .f32 (((a0.Roots.getD x54.toNat default).Place).Z).bits))]))]⟩) ?_ ?_
        · rcases ite2_cases e60 with ⟨b58, e60⟩ | ⟨b58, e60⟩
          · replace e60 := some_eq e60
            subst e60
            exact AW.rA ⟨[(1, (vc (.int .i64 a1))), (2, (vc (.int .i64 a2))), (3, (vp 1 0)), (6, (vp 2 0)), (8, (vp 4 0)), (14, (vp 104 0)), (125, (vc (.int .i64 (a0.Roots.length : Int)))), (126, (vc (.int .i64 x54))), (143, (vc (.bool (decide (((a0.Roots.getD x54.toNat default).At) < a2)))))], [(1, (.box [(.c (.int .i64 a0.Length)), (.c (.int .i64 a0.Kind)), (.c (sl 1 (csL 5 cs_Key) a0.Tracks)), (.c (sl 4 cs_RootKey a0.Roots))])), (2, (.box [(.c (.int .i64 (0 : Int))), (.c (.int .i64 (0 : Int))), .nils, .nils])), (3, (.lst x55.length 4 (gl cs_RootKey x55))), (4, (.box [(.c (.int .i64 (IntKind.i64.wrap (a2 - a1)))), (.c (.int .i64 a0.Kind)), (.lst 28 x17.length 1 (gl (csL 5 cs_Key) x17)), (.lst 3 x55.length 4 (gl cs_RootKey x55))])), (28, (.lst x17.length 1 (gl (csL 5 cs_Key) x17))), (104, (.box [(.c (.int .i64 ((a0.Roots.getD x54.toNat default).At))), (.c (.flt .f32 (((a0.Roots.getD x54.toNat default).Place).X).bits)), (.c (.flt .f32 (((a0.Roots.getD x54.toNat default).Place).Y).bits)), (.c (.flt .f32 (((a0.Roots.getD x54.toNat default).Place).Z).bits))]))]⟩ (T4 ((Tt ∧ (decide (((a0.Roots.getD x54.toNat default).At) > a1)) = true) ∧ Tt ∧ T4 Tt)) [.no, .no, .no, .no, .dec true] [1, 2, 3, 6, 8, 14, 125, 126, 143] [1, 2, 3, 4, 28, 104] ⟨tr, tr, tr, tr, ⟨tr, b58⟩, tr, tr, tr, tr, tr, tr⟩ ⟨rfl, rfl⟩
          · replace e60 := some_eq e60
            subst e60
            exact AW.rA ⟨[(1, (vc (.int .i64 a1))), (2, (vc (.int .i64 a2))), (3, (vp 1 0)), (6, (vp 2 0)), (8, (vp 4 0)), (14, (vp 104 0)), (125, (vc (.int .i64 (a0.Roots.length : Int)))), (126, (vc (.int .i64 x54))), (143, (vc (.bool false)))], [(1, (.box [(.c (.int .i64 a0.Length)), (.c (.int .i64 a0.Kind)), (.c (sl 1 (csL 5 cs_Key) a0.Tracks)), (.c (sl 4 cs_RootKey a0.Roots))])), (2, (.box [(.c (.int .i64 (0 : Int))), (.c (.int .i64 (0 : Int))), .nils, .nils])), (3, (.lst x55.length 4 (gl cs_RootKey x55))), (4, (.box [(.c (.int .i64 (IntKind.i64.wrap (a2 - a1)))), (.c (.int .i64 a0.Kind)), (.lst 28 x17.length 1 (gl (csL 5 cs_Key) x17)), (.lst 3 x55.length 4 (gl cs_RootKey x55))])), (28, (.lst x17.length 1 (gl (csL 5 cs_Key) x17))), (104, (.box [(.c (.int .i64 ((a0.Roots.getD x54.toNat default).At))), (.c (.flt .f32 (((a0.Roots.getD x54.toNat default).Place).X).bits)), (.c (.flt .f32 (((a0.Roots.getD x54.toNat default).Place).Y).bits)), (.c (.flt .f32 (((a0.Roots.getD x54.toNat default).Place).Z).bits))]))]⟩ (T4 ((Tt ∧ (decide (((a0.Roots.getD x54.toNat default).At) > a1)) = false) ∧ Tt ∧ T4 Tt)) [.no, .no, .no, .no, .dec false] [1, 2, 3, 6, 8, 14, 125, 126, 143] [1, 2, 3, 4, 28, 104] ⟨tr, tr, tr, tr, ⟨tr, b58⟩, tr, tr, tr, tr, tr, tr⟩ ⟨rfl, rfl⟩
        refine thenQ_normal ?_
        rcases ite2_cases h with ⟨b61, h⟩ | ⟨b61, h⟩
        · refine AW.cond_t rfl b61 ?_
          obtain ⟨c62, h⟩ := chk_some h
          refine AW.rA ⟨[(1, (vc (.int .i64 a1))), (2, (vc (.int .i64 a2))), (3, (vp 1 0)), (6, (vp 2 0)), (8, (vp 4 0)), (125, (vc (.int .i64 (a0.Roots.length : Int)))), (126, (vc (.int .i64 x54)))], [(1, (.box [(.c (.int .i64 a0.Length)), (.c (.int .i64 a0.Kind)), (.c (sl 1 (csL 5 cs_Key) a0.Tracks)), (.c (sl 4 cs_RootKey a0.Roots))])), (2, (.box [(.c (.int .i64 (0 : Int))), (.c (.int .i64 (0 : Int))), .nils, .nils])), (4, (.box [(.c (.int .i64 (IntKind.i64.wrap (a2 - a1)))), (.c (.int .i64 a0.Kind)), (.lst 28 x17.length 1 (gl (csL 5 cs_Key) x17)), (.lst 106 (x55 ++ ([(RootKey.mk (IntKind.i64.wrap (((a0.Roots.getD x54.toNat default).At) - a1)) ((a0.Roots.getD x54.toNat default).Place))])).length 4 (gl cs_RootKey (x55 ++ ([(RootKey.mk (IntKind.i64.wrap (((a0.Roots.getD x54.toNat default).At) - a1)) ((a0.Roots.getD x54.toNat default).Place))]))))])), (28, (.lst x17.length 1 (gl (csL 5 cs_Key) x17))), (106, (.lst (x55 ++ ([(RootKey.mk (IntKind.i64.wrap (((a0.Roots.getD x54.toNat default).At) - a1)) ((a0.Roots.getD x54.toNat default).Place))])).length 4 (gl cs_RootKey (x55 ++ ([(RootKey.mk (IntKind.i64.wrap (((a0.Roots.getD x54.toNat default).At) - a1)) ((a0.Roots.getD x54.toNat default).Place))])))))]⟩ (Tt ∧ T4 (T4 ((([(RootKey.mk (IntKind.i64.wrap (((a0.Roots.getD x54.toNat default).At) - a1)) ((a0.Roots.getD x54.toNat default).Place))]).length = 1 ∧ (((.int .i64 (IntKind.i64.wrap (((a0.Roots.getD x54.toNat default).At) - a1))) : C) = (.int .i64 (IntKind.i64.wrap (((a0.Roots.getD x54.toNat default).At) - a1))) ∧ Tt) ∧ (((.flt .f32 (((a0.Roots.getD x54.toNat default).Place).X).bits) : C) = (.flt .f32 (((a0.Roots.getD x54.toNat default).Place).X).bits) ∧ Tt) ∧ (((.flt .f32 (((a0.Roots.getD x54.toNat default).Place).Y).bits) : C) = (.flt .f32 (((a0.Roots.getD x54.toNat default).Place).Y).bits) ∧ Tt) ∧ (((.flt .f32 (((a0.Roots.getD x54.toNat default).Place).Z).bits) : C) = (.flt .f32 (((a0.Roots.getD x54.toNat default).Place).Z).bits) ∧ Tt) ∧ Tt) ∧ ((x55 ++ ([(RootKey.mk (IntKind.i64.wrap (((a0.Roots.getD x54.toNat default).At) - a1)) ((a0.Roots.getD x54.toNat default).Place))])).length = x55.length + ([(RootKey.mk (IntKind.i64.wrap (((a0.Roots.getD x54.toNat default).At) - a1)) ((a0.Roots.getD x54.toNat default).Place))]).length ∧ AppOb (x55.length) (([(RootKey.mk (IntKind.i64.wrap (((a0.Roots.getD x54.toNat default).At) - a1)) ((a0.Roots.getD x54.toNat default).Place))]).length) 4 (gl cs_RootKey x55) (gl cs_RootKey ([(RootKey.mk (IntKind.i64.wrap (((a0.Roots.getD x54.toNat default).At) - a1)) ((a0.Roots.getD x54.toNat default).Place))])) (gl cs_RootKey (x55 ++ ([(RootKey.mk (IntKind.i64.wrap (((a0.Roots.getD x54.toNat default).At) - a1)) ((a0.Roots.getD x54.toNat default).Place))]))) ∧ (∀ i j, i < ([(RootKey.mk (IntKind.i64.wrap (((a0.Roots.getD x54.toNat default).At) - a1)) ((a0.Roots.getD x54.toNat default).Place))]).length → j < 4 → scalarC (gl cs_RootKey ([(RootKey.mk (IntKind.i64.wrap (((a0.Roots.getD x54.toNat default).At) - a1)) ((a0.Roots.getD x54.toNat default).Place))]) i j)) ∧ (x55.length + ([(RootKey.mk (IntKind.i64.wrap (((a0.Roots.getD x54.toNat default).At) - a1)) ((a0.Roots.getD x54.toNat default).Place))]).length) * 24 ≤ 140737488355328) ∧ T2 Tt))) [.no, .no, .no, .no, .no, .no, .no, .no, .no, .obj 105 ([(RootKey.mk (IntKind.i64.wrap (((a0.Roots.getD x54.toNat default).At) - a1)) ((a0.Roots.getD x54.toNat default).Place))]).length (gl cs_RootKey ([(RootKey.mk (IntKind.i64.wrap (((a0.Roots.getD x54.toNat default).At) - a1)) ((a0.Roots.getD x54.toNat default).Place))])), .objK 106 (x55 ++ ([(RootKey.mk (IntKind.i64.wrap (((a0.Roots.getD x54.toNat default).At) - a1)) ((a0.Roots.getD x54.toNat default).Place))])).length (gl cs_RootKey (x55 ++ ([(RootKey.mk (IntKind.i64.wrap (((a0.Roots.getD x54.toNat default).At) - a1)) ((a0.Roots.getD x54.toNat default).Place))])))] [1, 2, 3, 6, 8, 125, 126] [1, 2, 4, 28, 106] ⟨tr, tr, tr, tr, tr, tr, tr, tr, tr, ⟨rfl, ⟨⟨rfl, tr⟩, ⟨rfl, tr⟩, ⟨rfl, tr⟩, ⟨rfl, tr⟩, tr⟩⟩, ⟨List.length_append, gl_append, gl_scalar sc_RootKey _, c62⟩, tr, tr, tr⟩ ?_
          refine blockQ_normal ?_
          refine thenQ_normal ?_
          refine AW.rA ⟨[(1, (vc (.int .i64 a1))), (2, (vc (.int .i64 a2))), (3, (vp 1 0)), (6, (vp 2 0)), (8, (vp 4 0)), (125, (vc (.int .i64 (a0.Roots.length : Int)))), (126, (vc (.int .i64 (IntKind.i64.wrap (x54 + (1 : Int))))))], [(1, (.box [(.c (.int .i64 a0.Length)), (.c (.int .i64 a0.Kind)), (.c (sl 1 (csL 5 cs_Key) a0.Tracks)), (.c (sl 4 cs_RootKey a0.Roots))])), (2, (.box [(.c (.int .i64 (0 : Int))), (.c (.int .i64 (0 : Int))), .nils, .nils])), (4, (.box [(.c (.int .i64 (IntKind.i64.wrap (a2 - a1)))), (.c (.int .i64 a0.Kind)), (.lst 28 x17.length 1 (gl (csL 5 cs_Key) x17)), (.lst 106 (x55 ++ ([(RootKey.mk (IntKind.i64.wrap (((a0.Roots.getD x54.toNat default).At) - a1)) ((a0.Roots.getD x54.toNat default).Place))])).length 4 (gl cs_RootKey (x55 ++ ([(RootKey.mk (IntKind.i64.wrap (((a0.Roots.getD x54.toNat default).At) - a1)) ((a0.Roots.getD x54.toNat default).Place))]))))])), (28, (.lst x17.length 1 (gl (csL 5 cs_Key) x17))), (106, (.lst (x55 ++ ([(RootKey.mk (IntKind.i64.wrap (((a0.Roots.getD x54.toNat default).At) - a1)) ((a0.Roots.getD x54.toNat default).Place))])).length 4 (gl cs_RootKey (x55 ++ ([(RootKey.mk (IntKind.i64.wrap (((a0.Roots.getD x54.toNat default).At) - a1)) ((a0.Roots.getD x54.toNat default).Place))])))))]⟩ (T2 Tt) [] [1, 2, 3, 6, 8, 125, 126] [1, 2, 4, 28, 106] ⟨tr, tr, tr⟩ ?_
          exact loopQ_normal (k, (IntKind.i64.wrap (x54 + (1 : Int))), (x55 ++ ([(RootKey.mk (IntKind.i64.wrap (((a0.Roots.getD x54.toNat default).At) - a1)) ((a0.Roots.getD x54.toNat default).Place))]))) h (Nat.lt_succ_self k) (Sub.trans (Sub.swap 3 106 _ (by kernel_rfl) (by kernel_rfl)) (Sub.keep [1, 2, 3, 6, 8, 125, 126] [1, 2, 3, 4, 28] (by kernel_rfl) (by kernel_rfl)))
        · refine AW.cond_f rfl b61 ?_
          refine AW.skip ?_
          refine blockQ_normal ?_
          refine thenQ_normal ?_
          refine AW.rA ⟨[(1, (vc (.int .i64 a1))), (2, (vc (.int .i64 a2))), (3, (vp 1 0)), (6, (vp 2 0)), (8, (vp 4 0)), (125, (vc (.int .i64 (a0.Roots.length : Int)))), (126, (vc (.int .i64 (IntKind.i64.wrap (x54 + (1 : Int))))))], [(1, (.box [(.c (.int .i64 a0.Length)), (.c (.int .i64 a0.Kind)), (.c (sl 1 (csL 5 cs_Key) a0.Tracks)), (.c (sl 4 cs_RootKey a0.Roots))])), (2, (.box [(.c (.int .i64 (0 : Int))), (.c (.int .i64 (0 : Int))), .nils, .nils])), (3, (.lst x55.length 4 (gl cs_RootKey x55))), (4, (.box [(.c (.int .i64 (IntKind.i64.wrap (a2 - a1)))), (.c (.int .i64 a0.Kind)), (.lst 28 x17.length 1 (gl (csL 5 cs_Key) x17)), (.lst 3 x55.length 4 (gl cs_RootKey x55))])), (28, (.lst x17.length 1 (gl (csL 5 cs_Key) x17)))]⟩ (T2 Tt) [] [1, 2, 3, 6, 8, 125, 126] [1, 2, 3, 4, 28] ⟨tr, tr, tr⟩ ?_
          exact loopQ_normal (k, (IntKind.i64.wrap (x54 + (1 : Int))), x55) h (Nat.lt_succ_self k) (Sub.keep [1, 2, 3, 6, 8, 125, 126] [1, 2, 3, 4, 28] (by kernel_rfl) (by kernel_rfl))
      · refine AW.cond_f rfl b56 ?_
        refine AW.exit ?_
        refine thenQ_exit ?_
        refine loopQ_exit ?_
        refine blockQ_exit ?_
        refine thenQ_normal ?_
        refine AW.seq ?_
        obtain ⟨v63, e64, h⟩ := bind_some h
        obtain ⟨c65, h⟩ := chk_some h
        refine AW.dA ⟨[(6, (vp 2 0)), (8, (vp 4 0))], [(2, (.box [(.c (.int .i64 (0 : Int))), (.c (.int .i64 (0 : Int))), .nils, .nils])), (4, (.box [(.c (.int .i64 (IntKind.i64.wrap (a2 - a1)))), (.c (.int .i64 a0.Kind)), (.lst 28 x17.length 1 (gl (csL 5 cs_Key) x17)), (.lst 108 (x55 ++ ([(RootKey.mk (IntKind.i64.wrap (a2 - a1)) v63)])).length 4 (gl cs_RootKey (x55 ++ ([(RootKey.mk (IntKind.i64.wrap (a2 - a1)) v63)]))))])), (28, (.lst x17.length 1 (gl (csL 5 cs_Key) x17))), (108, (.lst (x55 ++ ([(RootKey.mk (IntKind.i64.wrap (a2 - a1)) v63)])).length 4 (gl cs_RootKey (x55 ++ ([(RootKey.mk (IntKind.i64.wrap (a2 - a1)) v63)])))))]⟩ ((T2 (T4 (T4 ((((Eqc (sl 4 cs_RootKey a0.Roots)) ∧ (Eqc (.int .i64 a2)) ∧ (Eqc (.int .i64 a0.Kind)) ∧ Tt) ∧ CallOK Try.prog 89 [.one (sl 4 cs_RootKey a0.Roots), .one (.int .i64 a2), .one (.int .i64 a0.Kind)] [.agg (cs_Vector v63)]) ∧ Tt ∧ (([(RootKey.mk (IntKind.i64.wrap (a2 - a1)) v63)]).length = 1 ∧ (((.int .i64 (IntKind.i64.wrap (a2 - a1))) : C) = (.int .i64 (IntKind.i64.wrap (a2 - a1))) ∧ Tt) ∧ (((.flt .f32 v63.X.bits) : C) = (.flt .f32 v63.X.bits) ∧ Tt) ∧ (((.flt .f32 v63.Y.bits) : C) = (.flt .f32 v63.Y.bits) ∧ Tt) ∧ (((.flt .f32 v63.Z.bits) : C) = (.flt .f32 v63.Z.bits) ∧ Tt) ∧ Tt) ∧ ((x55 ++ ([(RootKey.mk (IntKind.i64.wrap (a2 - a1)) v63)])).length = x55.length + ([(RootKey.mk (IntKind.i64.wrap (a2 - a1)) v63)]).length ∧ AppOb (x55.length) (([(RootKey.mk (IntKind.i64.wrap (a2 - a1)) v63)]).length) 4 (gl cs_RootKey x55) (gl cs_RootKey ([(RootKey.mk (IntKind.i64.wrap (a2 - a1)) v63)])) (gl cs_RootKey (x55 ++ ([(RootKey.mk (IntKind.i64.wrap (a2 - a1)) v63)]))) ∧ (∀ i j, i < ([(RootKey.mk (IntKind.i64.wrap (a2 - a1)) v63)]).length → j < 4 → scalarC (gl cs_RootKey ([(RootKey.mk (IntKind.i64.wrap (a2 - a1)) v63)]) i j)) ∧ (x55.length + ([(RootKey.mk (IntKind.i64.wrap (a2 - a1)) v63)]).length) * 24 ≤ 140737488355328) ∧ Tt ∧ Tt)))) ∧ (Tt ∧ Tt)) 15 [.no, .no, .no, .no, .no, .no, .no, .no, .no, .no, .call [.one (sl 4 cs_RootKey a0.Roots), .one (.int .i64 a2), .one (.int .i64 a0.Kind)] [.agg (cs_Vector v63)] [[.view, .view, .view]], .no, .obj 107 ([(RootKey.mk (IntKind.i64.wrap (a2 - a1)) v63)]).length (gl cs_RootKey ([(RootKey.mk (IntKind.i64.wrap (a2 - a1)) v63)])), .objK 108 (x55 ++ ([(RootKey.mk (IntKind.i64.wrap (a2 - a1)) v63)])).length (gl cs_RootKey (x55 ++ ([(RootKey.mk (IntKind.i64.wrap (a2 - a1)) v63)])))] [6, 8] [2, 4, 28, 108] ⟨⟨tr, tr, tr, tr, tr, tr, tr, tr, tr, tr, ⟨⟨rfl, rfl, rfl, tr⟩, ok_spec_l05Root K a0.Roots a2 a0.Kind v63 e64⟩, tr, ⟨rfl, ⟨⟨rfl, tr⟩, ⟨rfl, tr⟩, ⟨rfl, tr⟩, ⟨rfl, tr⟩, tr⟩⟩, ⟨List.length_append, gl_append, gl_scalar sc_RootKey _, c65⟩, tr, tr⟩, ⟨tr, tr⟩⟩ ?_
        refine thenQ_normal ?_
        refine AW.seq ?_
        refine AW.seq ?_
        obtain ⟨v66, e67, h⟩ := bind_some h
        refine AW.rA ⟨[(6, (vp 2 0)), (8, (vp 4 0)), (173, (vc (.bool (!v66))))], [(2, (.box [(.c (.int .i64 (0 : Int))), (.c (.int .i64 (0 : Int))), .nils, .nils])), (4, (.box [(.c (.int .i64 (IntKind.i64.wrap (a2 - a1)))), (.c (.int .i64 a0.Kind)), (.lst 28 x17.length 1 (gl (csL 5 cs_Key) x17)), (.lst 108 (x55 ++ ([(RootKey.mk (IntKind.i64.wrap (a2 - a1)) v63)])).length 4 (gl cs_RootKey (x55 ++ ([(RootKey.mk (IntKind.i64.wrap (a2 - a1)) v63)]))))])), (28, (.lst x17.length 1 (gl (csL 5 cs_Key) x17))), (108, (.lst (x55 ++ ([(RootKey.mk (IntKind.i64.wrap (a2 - a1)) v63)])).length 4 (gl cs_RootKey (x55 ++ ([(RootKey.mk (IntKind.i64.wrap (a2 - a1)) v63)])))))]⟩ ((((0 = 0 ∧ (Eqc (.int .i64 (IntKind.i64.wrap (a2 - a1)))) ∧ (Eqc (.int .i64 a0.Kind)) ∧ (Eqc (sl 1 (csL 5 cs_Key) x17)) ∧ (((sl 4 cs_RootKey (x55 ++ ([(RootKey.mk (IntKind.i64.wrap (a2 - a1)) v63)]))) : C) = (sl 4 cs_RootKey (x55 ++ ([(RootKey.mk (IntKind.i64.wrap (a2 - a1)) v63)])))) ∧ Tt) ∧ Tt) ∧ CallOK Try.prog 60 [.one (pl 4 cs_Clip (Clip.mk (IntKind.i64.wrap (a2 - a1)) a0.Kind x17 (x55 ++ ([(RootKey.mk (IntKind.i64.wrap (a2 - a1)) v63)]))))] [.one (.bool v66)]) ∧ Tt ∧ Tt) [.call [.one (pl 4 cs_Clip (Clip.mk (IntKind.i64.wrap (a2 - a1)) a0.Kind x17 (x55 ++ ([(RootKey.mk (IntKind.i64.wrap (a2 - a1)) v63)]))))] [.one (.bool v66)] [[.view]]] [6, 8, 173] [2, 4, 28, 108] ⟨⟨⟨⟨rfl, rfl, rfl, rfl, rfl, tr⟩, tr⟩, ok_spec_l05Is K (Clip.mk (IntKind.i64.wrap (a2 - a1)) a0.Kind x17 (x55 ++ ([(RootKey.mk (IntKind.i64.wrap (a2 - a1)) v63)]))) v66 e67⟩, tr, tr⟩ ?_
        refine thenQ_normal ?_
        rcases ite2_cases h with ⟨b68, h⟩ | ⟨b68, h⟩
        · refine AW.cond_t rfl b68 ?_
          refine AW.seq (AW.rA ⟨[(6, (vp 2 0)), (7, (vc (.bool false)))], [(2, (.box [(.c (.int .i64 (0 : Int))), (.c (.int .i64 (0 : Int))), .nils, .nils]))]⟩ (Tt ∧ T2 Tt) [] [6, 7] [2] ⟨tr, tr, tr, tr⟩ (thenQ_normal ?_))
          refine AW.ret ?_
          refine thenQ_ret ?_
          replace h := some_eq h
          subst h
          exact ⟨.inr rfl, retOK_of [(.agg [(.c (.int .i64 (0 : Int))), (.c (.int .i64 (0 : Int))), .nils, .nils]), (.one (.c (.bool false)))] (by kernel_rfl) ⟨⟨⟨rfl, tr⟩, ⟨rfl, tr⟩, rfl, rfl, tr⟩, ⟨rfl, tr⟩, tr⟩ (of_decide_eq_true (by kernel_rfl))⟩
        · refine AW.cond_f rfl b68 ?_
          refine AW.skip ?_
          refine thenQ_normal ?_
          refine AW.seq (AW.rA ⟨[(6, (vp 2 0)), (7, (vc (.bool true)))], [(2, (.box [(.c (.int .i64 (IntKind.i64.wrap (a2 - a1)))), (.c (.int .i64 a0.Kind)), (.lst 28 x17.length 1 (gl (csL 5 cs_Key) x17)), (.lst 108 (x55 ++ ([(RootKey.mk (IntKind.i64.wrap (a2 - a1)) v63)])).length 4 (gl cs_RootKey (x55 ++ ([(RootKey.mk (IntKind.i64.wrap (a2 - a1)) v63)]))))])), (28, (.lst x17.length 1 (gl (csL 5 cs_Key) x17))), (108, (.lst (x55 ++ ([(RootKey.mk (IntKind.i64.wrap (a2 - a1)) v63)])).length 4 (gl cs_RootKey (x55 ++ ([(RootKey.mk (IntKind.i64.wrap (a2 - a1)) v63)])))))]⟩ (Tt ∧ T2 Tt) [] [6, 7] [2, 28, 108] ⟨tr, tr, tr, tr⟩ (thenQ_normal ?_))
          refine AW.ret ?_
          replace h := some_eq h
          subst h
          exact ⟨.inr rfl, retOK_of [(.agg [(.c (.int .i64 (IntKind.i64.wrap (a2 - a1)))), (.c (.int .i64 a0.Kind)), (.lst 28 x17.length 1 (gl (csL 5 cs_Key) x17)), (.lst 108 (x55 ++ ([(RootKey.mk (IntKind.i64.wrap (a2 - a1)) v63)])).length 4 (gl cs_RootKey (x55 ++ ([(RootKey.mk (IntKind.i64.wrap (a2 - a1)) v63)]))))]), (.one (.c (.bool true)))] (by kernel_rfl) ⟨⟨⟨rfl, tr⟩, ⟨rfl, tr⟩, rfl, rfl, tr⟩, ⟨rfl, tr⟩, tr⟩ (of_decide_eq_true (by kernel_rfl))⟩

/-! impl.turnTrack -/
def impl_turnTrack (_K : Nat) : Option (Unit) :=
  some ()

theorem ok_impl_turnTrack (K : Nat) (o : (Unit)) (h : impl_turnTrack K  = some o) : CallOK Try.prog 76 [] [.agg [(.fn 146 0 fun _ => .nilptr), (.fn 147 0 fun _ => .nilptr), (.fn 148 0 fun _ => .nilptr)]] := by
  refine callOK_of_AW Try.func76 rfl (by kernel_rfl) (Nat.le_of_ble_eq_true (by kernel_rfl)) ?_
  intro w0
  unfold impl_turnTrack at h
  refine AW.seq (AW.rA ⟨[(0, (vp 1 0))], [(1, (.box [(.c .nilfn), (.c .nilfn), (.c .nilfn)]))]⟩ (Tt ∧ Tt) [.box 1] [0] [1] ⟨tr, tr⟩ (thenQ_normal ?_))
  refine AW.seq (AW.rA ⟨[(0, (vp 1 0))], [(1, (.box [(.c (.fn 146 0 fun _ => .nilptr)), (.c (.fn 147 0 fun _ => .nilptr)), (.c (.fn 148 0 fun _ => .nilptr))]))]⟩ (T2 Tt) [] [0] [1] ⟨tr, tr, tr⟩ (thenQ_normal ?_))
  refine AW.ret ?_
  replace h := some_eq h
  subst h
  exact ⟨.inr rfl, retOK_of [(.agg [(.c (.fn 146 0 fun _ => .nilptr)), (.c (.fn 147 0 fun _ => .nilptr)), (.c (.fn 148 0 fun _ => .nilptr))])] (by kernel_rfl) ⟨⟨⟨rfl, rfl⟩, ⟨rfl, rfl⟩, ⟨rfl, rfl⟩, tr⟩, tr⟩ (of_decide_eq_true (by kernel_rfl))⟩

/-! impl.turnTrack$1 -/
def impl_turnTrack_1 (_K : Nat) (a0 : Key) : Option (Int) :=
  some a0.At

theorem ok_impl_turnTrack_1 (K : Nat) (a0 : Key) (o : (Int)) (h : impl_turnTrack_1 K a0 = some o) : CallOK Try.prog 146 [.agg (cs_Key a0)] [.one (.int .i64 o)] := by
  refine callOK_of_AW Try.func146 rfl (by kernel_rfl) (Nat.le_of_ble_eq_true (by kernel_rfl)) ?_
  intro w0
  unfold impl_turnTrack_1 at h
  refine AW.seq (AW.rA ⟨[(1, (vp 1 0))], [(1, (.box [(.c (.int .i64 a0.At)), (.c (.flt .f32 a0.Turn.W.bits)), (.c (.flt .f32 a0.Turn.X.bits)), (.c (.flt .f32 a0.Turn.Y.bits)), (.c (.flt .f32 a0.Turn.Z.bits))]))]⟩ (T2 Tt) [.box 1] [1] [1] ⟨tr, tr, tr⟩ (thenQ_normal ?_))
  refine AW.seq (AW.rA ⟨[(2, (vc (.int .i64 a0.At)))], []⟩ (Tt ∧ T2 Tt) [] [2] [] ⟨tr, tr, tr, tr⟩ (thenQ_normal ?_))
  refine AW.ret ?_
  replace h := some_eq h
  subst h
  exact ⟨.inr rfl, retOK_of [(.one (.c (.int .i64 a0.At)))] (by kernel_rfl) ⟨⟨rfl, tr⟩, tr⟩ (of_decide_eq_true (by kernel_rfl))⟩

end
end Go.Fw
