/- Functions of the program: what each computes, and that it computes just that. -/
import Derived.Test.YtihokgnenjemmaaFwTy
import Derived.Test.YtihokgnenjemmaaFwH
import Derived.Test.YtihokgnenjemmaaFwV
import Derived.Test.YtihokgnenjemmaaFwUB
import Derived.Test.YtihokgnenjemmaaProg
import Derived.KernelRfl
namespace Go.Fw
open Go Go.Proofs
noncomputable section
set_option maxRecDepth 10000

/-! laws.szKeyS -/
def laws_szKeyS (_K : Nat) (a0 : (List Key)) (a1 : Int) : Option (Int) :=
  ite2 ((decide ((IntKind.i64.wrap (a1 - (a0.length : Int))) < (0 : Int)))) (some ((-1) : Int)) (some (IntKind.i64.wrap (a1 - (a0.length : Int))))

theorem ok_laws_szKeyS (K : Nat) (a0 : (List Key)) (a1 : Int) (o : (Int)) (h : laws_szKeyS K a0 a1 = some o) : CallOK Try.prog 133 [.one (sl 5 cs_Key a0), .one (.int .i64 a1)] [.one (.int .i64 o)] := by
  refine callOK_of_AW Try.func133 rfl (by kernel_rfl) (Nat.le_of_ble_eq_true (by kernel_rfl)) ?_
  intro w0
  unfold laws_szKeyS at h
  refine AW.seq (AW.rA ⟨[(0, (vc (sl 5 cs_Key a0))), (1, (vc (.int .i64 a1)))], []⟩ (Tt ∧ Tt) [] [0, 1] [] ⟨tr, tr⟩ (thenQ_normal ?_))
  refine AW.seq (AW.rA ⟨[(1, (vc (.int .i64 (IntKind.i64.wrap (a1 - (a0.length : Int))))))], []⟩ (Tt ∧ T4 Tt) [] [1] [] ⟨tr, tr, tr, tr, tr, tr⟩ (thenQ_normal ?_))
  refine AW.seq ?_
  refine AW.seq (AW.rA ⟨[(1, (vc (.int .i64 (IntKind.i64.wrap (a1 - (a0.length : Int)))))), (10, (vc (.bool (decide ((IntKind.i64.wrap (a1 - (a0.length : Int))) < (0 : Int))))))], []⟩ (T2 Tt) [] [1, 10] [] ⟨tr, tr, tr⟩ (thenQ_normal ?_))
  rcases ite2_cases h with ⟨b1, h⟩ | ⟨b1, h⟩
  · refine AW.cond_t rfl b1 ?_
    refine AW.seq (AW.rA ⟨[(4, (vc (.int .i64 ((-1) : Int))))], []⟩ (Tt ∧ Tt) [] [4] [] ⟨tr, tr⟩ (thenQ_normal ?_))
    refine AW.ret ?_
    refine thenQ_ret ?_
    replace h := some_eq h
    subst h
    exact ⟨.inr rfl, retOK_of [(.one (.c (.int .i64 ((-1) : Int))))] (by kernel_rfl) ⟨⟨rfl, tr⟩, tr⟩ (of_decide_eq_true (by kernel_rfl))⟩
  · refine AW.cond_f rfl b1 ?_
    refine AW.skip ?_
    refine thenQ_normal ?_
    refine AW.seq (AW.rA ⟨[(4, (vc (.int .i64 (IntKind.i64.wrap (a1 - (a0.length : Int))))))], []⟩ (T2 Tt) [] [4] [] ⟨tr, tr, tr⟩ (thenQ_normal ?_))
    refine AW.ret ?_
    replace h := some_eq h
    subst h
    exact ⟨.inr rfl, retOK_of [(.one (.c (.int .i64 (IntKind.i64.wrap (a1 - (a0.length : Int))))))] (by kernel_rfl) ⟨⟨rfl, tr⟩, tr⟩ (of_decide_eq_true (by kernel_rfl))⟩

/-! laws.szKeySS -/
def laws_szKeySS_l1 (K : Nat) (a0 : (List (List Key))) : Nat → Int → Int → Option (Int)
  | 0, _, _ => none
  | k + 1, x4, x5 => ite2 ((decide (x5 < (a0.length : Int)))) (chk (0 ≤ x5 ∧ x5 < (a0.length : Int)) ((laws_szKeyS K (a0.getD x5.toNat default) x4).bind fun v8 => ite2 ((decide (v8 < (0 : Int)))) (some ((-1) : Int)) (laws_szKeySS_l1 K a0 k v8 (IntKind.i64.wrap (x5 + (1 : Int)))))) (some x4)

def laws_szKeySS (K : Nat) (a0 : (List (List Key))) (a1 : Int) : Option (Int) :=
  ite2 ((decide ((IntKind.i64.wrap (a1 - (a0.length : Int))) < (0 : Int)))) (some ((-1) : Int)) (laws_szKeySS_l1 K a0 K (IntKind.i64.wrap (a1 - (a0.length : Int))) (0 : Int))

theorem ok_laws_szKeySS (K : Nat) (a0 : (List (List Key))) (a1 : Int) (o : (Int)) (h : laws_szKeySS K a0 a1 = some o) : CallOK Try.prog 58 [.one (sl 1 (csL 5 cs_Key) a0), .one (.int .i64 a1)] [.one (.int .i64 o)] := by
  refine callOK_of_AW Try.func58 rfl (by kernel_rfl) (Nat.le_of_ble_eq_true (by kernel_rfl)) ?_
  intro w0
  unfold laws_szKeySS at h
  refine AW.seq (AW.rA ⟨[(0, (vc (sl 1 (csL 5 cs_Key) a0))), (1, (vc (.int .i64 a1)))], []⟩ (Tt ∧ Tt) [] [0, 1] [] ⟨tr, tr⟩ (thenQ_normal ?_))
  refine AW.seq (AW.rA ⟨[(0, (vc (sl 1 (csL 5 cs_Key) a0))), (1, (vc (.int .i64 (IntKind.i64.wrap (a1 - (a0.length : Int))))))], []⟩ (Tt ∧ T4 Tt) [] [0, 1] [] ⟨tr, tr, tr, tr, tr, tr⟩ (thenQ_normal ?_))
  refine AW.seq ?_
  refine AW.seq (AW.rA ⟨[(0, (vc (sl 1 (csL 5 cs_Key) a0))), (1, (vc (.int .i64 (IntKind.i64.wrap (a1 - (a0.length : Int)))))), (11, (vc (.bool (decide ((IntKind.i64.wrap (a1 - (a0.length : Int))) < (0 : Int))))))], []⟩ (T2 Tt) [] [0, 1, 11] [] ⟨tr, tr, tr⟩ (thenQ_normal ?_))
  rcases ite2_cases h with ⟨b1, h⟩ | ⟨b1, h⟩
  · refine AW.cond_t rfl b1 ?_
    refine AW.seq (AW.rA ⟨[(4, (vc (.int .i64 ((-1) : Int))))], []⟩ (Tt ∧ Tt) [] [4] [] ⟨tr, tr⟩ (thenQ_normal ?_))
    refine AW.ret ?_
    refine thenQ_ret ?_
    replace h := some_eq h
    subst h
    exact ⟨.inr rfl, retOK_of [(.one (.c (.int .i64 ((-1) : Int))))] (by kernel_rfl) ⟨⟨rfl, tr⟩, tr⟩ (of_decide_eq_true (by kernel_rfl))⟩
  · refine AW.cond_f rfl b1 ?_
    refine AW.skip ?_
    refine thenQ_normal ?_
    refine AW.seq ?_
    refine AW.seq (AW.rA ⟨[(0, (vc (sl 1 (csL 5 cs_Key) a0))), (1, (vc (.int .i64 (IntKind.i64.wrap (a1 - (a0.length : Int)))))), (5, (vc (.int .i64 (0 : Int))))], []⟩ (Tt ∧ Tt) [] [0, 1, 5] [] ⟨tr, tr⟩ (thenQ_normal ?_))
    refine AW.block ?_
    refine AW.loopQ (σ := Nat × Int × Int) (fun p => ⟨[(0, (vc (sl 1 (csL 5 cs_Key) a0))), (1, (vc (.int .i64 p.2.1))), (5, (vc (.int .i64 p.2.2)))], []⟩) (fun p => laws_szKeySS_l1 K a0 p.1 p.2.1 p.2.2 = some o) (fun p => p.1) (K, (IntKind.i64.wrap (a1 - (a0.length : Int))), (0 : Int)) h ?_
    clear h
    rintro ⟨k, x4, x5⟩ h
    replace h : laws_szKeySS_l1 K a0 k x4 x5 = some o := h
    show AW _ _ (⟨[(0, (vc (sl 1 (csL 5 cs_Key) a0))), (1, (vc (.int .i64 x4))), (5, (vc (.int .i64 x5)))], []⟩ : St) _
    obtain _ | k := k
    · rw [laws_szKeySS_l1] at h; cases h
    rw [laws_szKeySS_l1] at h
    refine AW.seq ?_
    refine AW.seq (AW.rA ⟨[(0, (vc (sl 1 (csL 5 cs_Key) a0))), (1, (vc (.int .i64 x4))), (5, (vc (.int .i64 x5))), (15, (vc (.bool (decide (x5 < (a0.length : Int))))))], []⟩ (T4 Tt) [] [0, 1, 5, 15] [] ⟨tr, tr, tr, tr, tr⟩ (thenQ_normal ?_))
    rcases ite2_cases h with ⟨b6, h⟩ | ⟨b6, h⟩
    · refine AW.cond_t rfl b6 ?_
      refine AW.skip ?_
      refine thenQ_normal ?_
      refine AW.seq ?_
      refine AW.block ?_
      refine AW.seq ?_
      obtain ⟨c7, h⟩ := chk_some h
      obtain ⟨v8, e9, h⟩ := bind_some h
      refine AW.rA ⟨[(0, (vc (sl 1 (csL 5 cs_Key) a0))), (1, (vc (.int .i64 v8))), (5, (vc (.int .i64 x5)))], []⟩ (T2 ((0 ≤ x5 ∧ x5 < (a0.length : Int)) ∧ T2 ((((Eqc (sl 5 cs_Key (a0.getD x5.toNat default))) ∧ (Eqc (.int .i64 x4)) ∧ Tt) ∧ CallOK Try.prog 133 [.one (sl 5 cs_Key (a0.getD x5.toNat default)), .one (.int .i64 x4)] [.one (.int .i64 v8)]) ∧ Tt ∧ Tt))) [.no, .no, .no, .no, .no, .call [.one (sl 5 cs_Key (a0.getD x5.toNat default)), .one (.int .i64 x4)] [.one (.int .i64 v8)] [[.view]]] [0, 1, 5] [] ⟨tr, tr, c7, tr, tr, ⟨⟨rfl, rfl, tr⟩, ok_laws_szKeyS K (a0.getD x5.toNat default) x4 v8 e9⟩, tr, tr⟩ ?_
      refine thenQ_normal ?_
      refine AW.seq (AW.rA ⟨[(0, (vc (sl 1 (csL 5 cs_Key) a0))), (1, (vc (.int .i64 v8))), (5, (vc (.int .i64 x5))), (25, (vc (.bool (decide (v8 < (0 : Int))))))], []⟩ (T2 Tt) [] [0, 1, 5, 25] [] ⟨tr, tr, tr⟩ (thenQ_normal ?_))
      rcases ite2_cases h with ⟨b10, h⟩ | ⟨b10, h⟩
      · refine AW.cond_t rfl b10 ?_
        refine AW.seq (AW.rA ⟨[(4, (vc (.int .i64 ((-1) : Int))))], []⟩ (Tt ∧ Tt) [] [4] [] ⟨tr, tr⟩ (thenQ_normal ?_))
        refine AW.ret ?_
        refine blockQ_ret ?_
        refine thenQ_ret ?_
        refine loopQ_ret ?_
        refine blockQ_ret ?_
        refine thenQ_ret ?_
        replace h := some_eq h
        subst h
        exact ⟨.inr rfl, retOK_of [(.one (.c (.int .i64 ((-1) : Int))))] (by kernel_rfl) ⟨⟨rfl, tr⟩, tr⟩ (of_decide_eq_true (by kernel_rfl))⟩
      · refine AW.cond_f rfl b10 ?_
        refine AW.skip ?_
        refine blockQ_normal ?_
        refine thenQ_normal ?_
        refine AW.rA ⟨[(0, (vc (sl 1 (csL 5 cs_Key) a0))), (1, (vc (.int .i64 v8))), (5, (vc (.int .i64 (IntKind.i64.wrap (x5 + (1 : Int))))))], []⟩ (Tt ∧ T2 Tt) [] [0, 1, 5] [] ⟨tr, tr, tr, tr⟩ ?_
        exact loopQ_normal (k, v8, (IntKind.i64.wrap (x5 + (1 : Int)))) h (Nat.lt_succ_self k) (Sub.keep [0, 1, 5] [] (by kernel_rfl) (by kernel_rfl))
    · refine AW.cond_f rfl b6 ?_
      refine AW.exit ?_
      refine thenQ_exit ?_
      refine loopQ_exit ?_
      refine blockQ_exit ?_
      refine thenQ_normal ?_
      refine AW.seq (AW.rA ⟨[(4, (vc (.int .i64 x4)))], []⟩ (T2 Tt) [] [4] [] ⟨tr, tr, tr⟩ (thenQ_normal ?_))
      refine AW.ret ?_
      replace h := some_eq h
      subst h
      exact ⟨.inr rfl, retOK_of [(.one (.c (.int .i64 x4)))] (by kernel_rfl) ⟨⟨rfl, tr⟩, tr⟩ (of_decide_eq_true (by kernel_rfl))⟩

/-! laws.szRootKeyS -/
def laws_szRootKeyS (_K : Nat) (a0 : (List RootKey)) (a1 : Int) : Option (Int) :=
  ite2 ((decide ((IntKind.i64.wrap (a1 - (a0.length : Int))) < (0 : Int)))) (some ((-1) : Int)) (some (IntKind.i64.wrap (a1 - (a0.length : Int))))

theorem ok_laws_szRootKeyS (K : Nat) (a0 : (List RootKey)) (a1 : Int) (o : (Int)) (h : laws_szRootKeyS K a0 a1 = some o) : CallOK Try.prog 59 [.one (sl 4 cs_RootKey a0), .one (.int .i64 a1)] [.one (.int .i64 o)] := by
  refine callOK_of_AW Try.func59 rfl (by kernel_rfl) (Nat.le_of_ble_eq_true (by kernel_rfl)) ?_
  intro w0
  unfold laws_szRootKeyS at h
  refine AW.seq (AW.rA ⟨[(0, (vc (sl 4 cs_RootKey a0))), (1, (vc (.int .i64 a1)))], []⟩ (Tt ∧ Tt) [] [0, 1] [] ⟨tr, tr⟩ (thenQ_normal ?_))
  refine AW.seq (AW.rA ⟨[(1, (vc (.int .i64 (IntKind.i64.wrap (a1 - (a0.length : Int))))))], []⟩ (Tt ∧ T4 Tt) [] [1] [] ⟨tr, tr, tr, tr, tr, tr⟩ (thenQ_normal ?_))
  refine AW.seq ?_
  refine AW.seq (AW.rA ⟨[(1, (vc (.int .i64 (IntKind.i64.wrap (a1 - (a0.length : Int)))))), (10, (vc (.bool (decide ((IntKind.i64.wrap (a1 - (a0.length : Int))) < (0 : Int))))))], []⟩ (T2 Tt) [] [1, 10] [] ⟨tr, tr, tr⟩ (thenQ_normal ?_))
  rcases ite2_cases h with ⟨b1, h⟩ | ⟨b1, h⟩
  · refine AW.cond_t rfl b1 ?_
    refine AW.seq (AW.rA ⟨[(4, (vc (.int .i64 ((-1) : Int))))], []⟩ (Tt ∧ Tt) [] [4] [] ⟨tr, tr⟩ (thenQ_normal ?_))
    refine AW.ret ?_
    refine thenQ_ret ?_
    replace h := some_eq h
    subst h
    exact ⟨.inr rfl, retOK_of [(.one (.c (.int .i64 ((-1) : Int))))] (by kernel_rfl) ⟨⟨rfl, tr⟩, tr⟩ (of_decide_eq_true (by kernel_rfl))⟩
  · refine AW.cond_f rfl b1 ?_
    refine AW.skip ?_
    refine thenQ_normal ?_
    refine AW.seq (AW.rA ⟨[(4, (vc (.int .i64 (IntKind.i64.wrap (a1 - (a0.length : Int))))))], []⟩ (T2 Tt) [] [4] [] ⟨tr, tr, tr⟩ (thenQ_normal ?_))
    refine AW.ret ?_
    replace h := some_eq h
    subst h
    exact ⟨.inr rfl, retOK_of [(.one (.c (.int .i64 (IntKind.i64.wrap (a1 - (a0.length : Int))))))] (by kernel_rfl) ⟨⟨rfl, tr⟩, tr⟩ (of_decide_eq_true (by kernel_rfl))⟩

/-! laws.szClip -/
def laws_szClip (K : Nat) (a0 : Clip) (a1 : Int) : Option (Int) :=
  (laws_szKeySS K a0.Tracks a1).bind fun v1 => ite2 ((decide (v1 < (0 : Int)))) (some ((-1) : Int)) ((laws_szRootKeyS K a0.Roots v1).bind fun v4 => ite2 ((decide (v4 < (0 : Int)))) (some ((-1) : Int)) (some v4))

theorem ok_laws_szClip (K : Nat) (a0 : Clip) (a1 : Int) (o : (Int)) (h : laws_szClip K a0 a1 = some o) : CallOK Try.prog 11 [.agg (cs_Clip a0), .one (.int .i64 a1)] [.one (.int .i64 o)] := by
  refine callOK_of_AW Try.func11 rfl (by kernel_rfl) (Nat.le_of_ble_eq_true (by kernel_rfl)) ?_
  intro w0
  unfold laws_szClip at h
  refine AW.seq (AW.rA ⟨[(1, (vc (.int .i64 a1))), (2, (vp 1 0))], [(1, (.box [(.c (.int .i64 a0.Length)), (.c (.int .i64 a0.Kind)), (.c (sl 1 (csL 5 cs_Key) a0.Tracks)), (.c (sl 4 cs_RootKey a0.Roots))]))]⟩ (T2 Tt) [.box 1] [1, 2] [1] ⟨tr, tr, tr⟩ (thenQ_normal ?_))
  refine AW.seq ?_
  obtain ⟨v1, e2, h⟩ := bind_some h
  refine AW.rA ⟨[(1, (vc (.int .i64 v1))), (2, (vp 1 0))], [(1, (.box [(.c (.int .i64 a0.Length)), (.c (.int .i64 a0.Kind)), (.c (sl 1 (csL 5 cs_Key) a0.Tracks)), (.c (sl 4 cs_RootKey a0.Roots))]))]⟩ (Tt ∧ T2 ((((Eqc (sl 1 (csL 5 cs_Key) a0.Tracks)) ∧ (Eqc (.int .i64 a1)) ∧ Tt) ∧ CallOK Try.prog 58 [.one (sl 1 (csL 5 cs_Key) a0.Tracks), .one (.int .i64 a1)] [.one (.int .i64 v1)]) ∧ Tt ∧ Tt)) [.no, .no, .no, .call [.one (sl 1 (csL 5 cs_Key) a0.Tracks), .one (.int .i64 a1)] [.one (.int .i64 v1)] [[.view]]] [1, 2] [1] ⟨tr, tr, tr, ⟨⟨rfl, rfl, tr⟩, ok_laws_szKeySS K a0.Tracks a1 v1 e2⟩, tr, tr⟩ ?_
  refine thenQ_normal ?_
  refine AW.seq ?_
  refine AW.seq (AW.rA ⟨[(1, (vc (.int .i64 v1))), (2, (vp 1 0)), (10, (vc (.bool (decide (v1 < (0 : Int))))))], [(1, (.box [(.c (.int .i64 a0.Length)), (.c (.int .i64 a0.Kind)), (.c (sl 1 (csL 5 cs_Key) a0.Tracks)), (.c (sl 4 cs_RootKey a0.Roots))]))]⟩ (T2 Tt) [] [1, 2, 10] [1] ⟨tr, tr, tr⟩ (thenQ_normal ?_))
  rcases ite2_cases h with ⟨b3, h⟩ | ⟨b3, h⟩
  · refine AW.cond_t rfl b3 ?_
    refine AW.seq (AW.rA ⟨[(4, (vc (.int .i64 ((-1) : Int))))], []⟩ (Tt ∧ Tt) [] [4] [] ⟨tr, tr⟩ (thenQ_normal ?_))
    refine AW.ret ?_
    refine thenQ_ret ?_
    replace h := some_eq h
    subst h
    exact ⟨.inr rfl, retOK_of [(.one (.c (.int .i64 ((-1) : Int))))] (by kernel_rfl) ⟨⟨rfl, tr⟩, tr⟩ (of_decide_eq_true (by kernel_rfl))⟩
  · refine AW.cond_f rfl b3 ?_
    refine AW.skip ?_
    refine thenQ_normal ?_
    refine AW.seq ?_
    obtain ⟨v4, e5, h⟩ := bind_some h
    refine AW.rA ⟨[(1, (vc (.int .i64 v4)))], []⟩ (Tt ∧ T2 ((((Eqc (sl 4 cs_RootKey a0.Roots)) ∧ (Eqc (.int .i64 v1)) ∧ Tt) ∧ CallOK Try.prog 59 [.one (sl 4 cs_RootKey a0.Roots), .one (.int .i64 v1)] [.one (.int .i64 v4)]) ∧ Tt ∧ Tt)) [.no, .no, .no, .call [.one (sl 4 cs_RootKey a0.Roots), .one (.int .i64 v1)] [.one (.int .i64 v4)] [[.view]]] [1] [] ⟨tr, tr, tr, ⟨⟨rfl, rfl, tr⟩, ok_laws_szRootKeyS K a0.Roots v1 v4 e5⟩, tr, tr⟩ ?_
    refine thenQ_normal ?_
    refine AW.seq ?_
    refine AW.seq (AW.rA ⟨[(1, (vc (.int .i64 v4))), (16, (vc (.bool (decide (v4 < (0 : Int))))))], []⟩ (T2 Tt) [] [1, 16] [] ⟨tr, tr, tr⟩ (thenQ_normal ?_))
    rcases ite2_cases h with ⟨b6, h⟩ | ⟨b6, h⟩
    · refine AW.cond_t rfl b6 ?_
      refine AW.seq (AW.rA ⟨[(4, (vc (.int .i64 ((-1) : Int))))], []⟩ (Tt ∧ Tt) [] [4] [] ⟨tr, tr⟩ (thenQ_normal ?_))
      refine AW.ret ?_
      refine thenQ_ret ?_
      replace h := some_eq h
      subst h
      exact ⟨.inr rfl, retOK_of [(.one (.c (.int .i64 ((-1) : Int))))] (by kernel_rfl) ⟨⟨rfl, tr⟩, tr⟩ (of_decide_eq_true (by kernel_rfl))⟩
    · refine AW.cond_f rfl b6 ?_
      refine AW.skip ?_
      refine thenQ_normal ?_
      refine AW.seq (AW.rA ⟨[(4, (vc (.int .i64 v4)))], []⟩ (T2 Tt) [] [4] [] ⟨tr, tr, tr⟩ (thenQ_normal ?_))
      refine AW.ret ?_
      replace h := some_eq h
      subst h
      exact ⟨.inr rfl, retOK_of [(.one (.c (.int .i64 v4)))] (by kernel_rfl) ⟨⟨rfl, tr⟩, tr⟩ (of_decide_eq_true (by kernel_rfl))⟩

/-! laws.toTurn -/
def laws_toTurn (_K : Nat) (a0 : Turn) : Option (Turn) :=
  some a0

theorem ok_laws_toTurn (K : Nat) (a0 : Turn) (o : (Turn)) (h : laws_toTurn K a0 = some o) : CallOK Try.prog 209 [.agg (cs_Turn a0)] [.agg (cs_Turn o)] := by
  refine callOK_of_AW Try.func209 rfl (by kernel_rfl) (Nat.le_of_ble_eq_true (by kernel_rfl)) ?_
  intro w0
  unfold laws_toTurn at h
  refine AW.seq (AW.rA ⟨[(1, (vp 1 0)), (2, (vp 2 0))], [(1, (.box [(.c (.flt .f32 a0.W.bits)), (.c (.flt .f32 a0.X.bits)), (.c (.flt .f32 a0.Y.bits)), (.c (.flt .f32 a0.Z.bits))])), (2, (.box [(.c (.flt .f32 (default : F32).bits)), (.c (.flt .f32 (default : F32).bits)), (.c (.flt .f32 (default : F32).bits)), (.c (.flt .f32 (default : F32).bits))]))]⟩ (T2 Tt) [.box 1, .box 2] [1, 2] [1, 2] ⟨tr, tr, tr⟩ (thenQ_normal ?_))
  refine AW.seq (AW.rA ⟨[(1, (vp 1 0)), (2, (vp 2 0)), (3, (vp 3 0))], [(1, (.box [(.c (.flt .f32 a0.W.bits)), (.c (.flt .f32 a0.X.bits)), (.c (.flt .f32 a0.Y.bits)), (.c (.flt .f32 a0.Z.bits))])), (2, (.box [(.c (.flt .f32 (default : F32).bits)), (.c (.flt .f32 (default : F32).bits)), (.c (.flt .f32 (default : F32).bits)), (.c (.flt .f32 (default : F32).bits))])), (3, (.box [(.c (.flt .f32 (default : F32).bits)), (.c (.flt .f32 (default : F32).bits)), (.c (.flt .f32 (default : F32).bits)), (.c (.flt .f32 (default : F32).bits))]))]⟩ (Tt ∧ Tt) [.box 3] [1, 2, 3] [1, 2, 3] ⟨tr, tr⟩ (thenQ_normal ?_))
  refine AW.seq (AW.rA ⟨[(1, (vp 1 0)), (2, (vp 2 0)), (3, (vp 3 0))], [(1, (.box [(.c (.flt .f32 a0.W.bits)), (.c (.flt .f32 a0.X.bits)), (.c (.flt .f32 a0.Y.bits)), (.c (.flt .f32 a0.Z.bits))])), (2, (.box [(.c (.flt .f32 (default : F32).bits)), (.c (.flt .f32 (default : F32).bits)), (.c (.flt .f32 (default : F32).bits)), (.c (.flt .f32 (default : F32).bits))])), (3, (.box [(.c (.flt .f32 a0.W.bits)), (.c (.flt .f32 (default : F32).bits)), (.c (.flt .f32 (default : F32).bits)), (.c (.flt .f32 (default : F32).bits))]))]⟩ (T4 Tt) [] [1, 2, 3] [1, 2, 3] ⟨tr, tr, tr, tr, tr⟩ (thenQ_normal ?_))
  refine AW.seq (AW.rA ⟨[(1, (vp 1 0)), (2, (vp 2 0)), (3, (vp 3 0))], [(1, (.box [(.c (.flt .f32 a0.W.bits)), (.c (.flt .f32 a0.X.bits)), (.c (.flt .f32 a0.Y.bits)), (.c (.flt .f32 a0.Z.bits))])), (2, (.box [(.c (.flt .f32 (default : F32).bits)), (.c (.flt .f32 (default : F32).bits)), (.c (.flt .f32 (default : F32).bits)), (.c (.flt .f32 (default : F32).bits))])), (3, (.box [(.c (.flt .f32 a0.W.bits)), (.c (.flt .f32 a0.X.bits)), (.c (.flt .f32 (default : F32).bits)), (.c (.flt .f32 (default : F32).bits))]))]⟩ (T4 Tt) [] [1, 2, 3] [1, 2, 3] ⟨tr, tr, tr, tr, tr⟩ (thenQ_normal ?_))
  refine AW.seq (AW.rA ⟨[(1, (vp 1 0)), (2, (vp 2 0)), (3, (vp 3 0))], [(1, (.box [(.c (.flt .f32 a0.W.bits)), (.c (.flt .f32 a0.X.bits)), (.c (.flt .f32 a0.Y.bits)), (.c (.flt .f32 a0.Z.bits))])), (2, (.box [(.c (.flt .f32 (default : F32).bits)), (.c (.flt .f32 (default : F32).bits)), (.c (.flt .f32 (default : F32).bits)), (.c (.flt .f32 (default : F32).bits))])), (3, (.box [(.c (.flt .f32 a0.W.bits)), (.c (.flt .f32 a0.X.bits)), (.c (.flt .f32 a0.Y.bits)), (.c (.flt .f32 (default : F32).bits))]))]⟩ (T4 Tt) [] [1, 2, 3] [1, 2, 3] ⟨tr, tr, tr, tr, tr⟩ (thenQ_normal ?_))
  refine AW.seq (AW.rA ⟨[(2, (vp 2 0)), (3, (vp 3 0))], [(2, (.box [(.c (.flt .f32 (default : F32).bits)), (.c (.flt .f32 (default : F32).bits)), (.c (.flt .f32 (default : F32).bits)), (.c (.flt .f32 (default : F32).bits))])), (3, (.box [(.c (.flt .f32 a0.W.bits)), (.c (.flt .f32 a0.X.bits)), (.c (.flt .f32 a0.Y.bits)), (.c (.flt .f32 a0.Z.bits))]))]⟩ (T4 Tt) [] [2, 3] [2, 3] ⟨tr, tr, tr, tr, tr⟩ (thenQ_normal ?_))
  refine AW.seq (AW.rA ⟨[(2, (vp 2 0))], [(2, (.box [(.c (.flt .f32 a0.W.bits)), (.c (.flt .f32 a0.X.bits)), (.c (.flt .f32 a0.Y.bits)), (.c (.flt .f32 a0.Z.bits))]))]⟩ (T2 Tt) [] [2] [2] ⟨tr, tr, tr⟩ (thenQ_normal ?_))
  refine AW.ret ?_
  replace h := some_eq h
  subst h
  exact ⟨.inr rfl, retOK_of [(.agg [(.c (.flt .f32 a0.W.bits)), (.c (.flt .f32 a0.X.bits)), (.c (.flt .f32 a0.Y.bits)), (.c (.flt .f32 a0.Z.bits))])] (by kernel_rfl) ⟨⟨⟨rfl, tr⟩, ⟨rfl, tr⟩, ⟨rfl, tr⟩, ⟨rfl, tr⟩, tr⟩, tr⟩ (of_decide_eq_true (by kernel_rfl))⟩

/-! laws.toKey -/
def laws_toKey (K : Nat) (a0 : Key) : Option (Key) :=
  (laws_toTurn K a0.Turn).bind fun v1 => some (Key.mk a0.At v1)

theorem ok_laws_toKey (K : Nat) (a0 : Key) (o : (Key)) (h : laws_toKey K a0 = some o) : CallOK Try.prog 183 [.agg (cs_Key a0)] [.agg (cs_Key o)] := by
  refine callOK_of_AW Try.func183 rfl (by kernel_rfl) (Nat.le_of_ble_eq_true (by kernel_rfl)) ?_
  intro w0
  unfold laws_toKey at h
  refine AW.seq (AW.rA ⟨[(1, (vp 1 0)), (2, (vp 2 0))], [(1, (.box [(.c (.int .i64 a0.At)), (.c (.flt .f32 a0.Turn.W.bits)), (.c (.flt .f32 a0.Turn.X.bits)), (.c (.flt .f32 a0.Turn.Y.bits)), (.c (.flt .f32 a0.Turn.Z.bits))])), (2, (.box [(.c (.int .i64 (0 : Int))), (.c (.flt .f32 (default : F32).bits)), (.c (.flt .f32 (default : F32).bits)), (.c (.flt .f32 (default : F32).bits)), (.c (.flt .f32 (default : F32).bits))]))]⟩ (T2 Tt) [.box 1, .box 2] [1, 2] [1, 2] ⟨tr, tr, tr⟩ (thenQ_normal ?_))
  refine AW.seq (AW.rA ⟨[(1, (vp 1 0)), (2, (vp 2 0)), (3, (vp 3 0))], [(1, (.box [(.c (.int .i64 a0.At)), (.c (.flt .f32 a0.Turn.W.bits)), (.c (.flt .f32 a0.Turn.X.bits)), (.c (.flt .f32 a0.Turn.Y.bits)), (.c (.flt .f32 a0.Turn.Z.bits))])), (2, (.box [(.c (.int .i64 (0 : Int))), (.c (.flt .f32 (default : F32).bits)), (.c (.flt .f32 (default : F32).bits)), (.c (.flt .f32 (default : F32).bits)), (.c (.flt .f32 (default : F32).bits))])), (3, (.box [(.c (.int .i64 (0 : Int))), (.c (.flt .f32 (default : F32).bits)), (.c (.flt .f32 (default : F32).bits)), (.c (.flt .f32 (default : F32).bits)), (.c (.flt .f32 (default : F32).bits))]))]⟩ (Tt ∧ Tt) [.box 3] [1, 2, 3] [1, 2, 3] ⟨tr, tr⟩ (thenQ_normal ?_))
  refine AW.seq (AW.rA ⟨[(1, (vp 1 0)), (2, (vp 2 0)), (3, (vp 3 0))], [(1, (.box [(.c (.int .i64 a0.At)), (.c (.flt .f32 a0.Turn.W.bits)), (.c (.flt .f32 a0.Turn.X.bits)), (.c (.flt .f32 a0.Turn.Y.bits)), (.c (.flt .f32 a0.Turn.Z.bits))])), (2, (.box [(.c (.int .i64 (0 : Int))), (.c (.flt .f32 (default : F32).bits)), (.c (.flt .f32 (default : F32).bits)), (.c (.flt .f32 (default : F32).bits)), (.c (.flt .f32 (default : F32).bits))])), (3, (.box [(.c (.int .i64 a0.At)), (.c (.flt .f32 (default : F32).bits)), (.c (.flt .f32 (default : F32).bits)), (.c (.flt .f32 (default : F32).bits)), (.c (.flt .f32 (default : F32).bits))]))]⟩ (T4 Tt) [] [1, 2, 3] [1, 2, 3] ⟨tr, tr, tr, tr, tr⟩ (thenQ_normal ?_))
  refine AW.seq ?_
  obtain ⟨v1, e2, h⟩ := bind_some h
  refine AW.rA ⟨[(2, (vp 2 0)), (3, (vp 3 0))], [(2, (.box [(.c (.int .i64 (0 : Int))), (.c (.flt .f32 (default : F32).bits)), (.c (.flt .f32 (default : F32).bits)), (.c (.flt .f32 (default : F32).bits)), (.c (.flt .f32 (default : F32).bits))])), (3, (.box [(.c (.int .i64 a0.At)), (.c (.flt .f32 v1.W.bits)), (.c (.flt .f32 v1.X.bits)), (.c (.flt .f32 v1.Y.bits)), (.c (.flt .f32 v1.Z.bits))]))]⟩ (T2 (((((Eqc (.flt .f32 a0.Turn.W.bits)) ∧ (Eqc (.flt .f32 a0.Turn.X.bits)) ∧ (Eqc (.flt .f32 a0.Turn.Y.bits)) ∧ (Eqc (.flt .f32 a0.Turn.Z.bits)) ∧ Tt) ∧ Tt) ∧ CallOK Try.prog 209 [.agg (cs_Turn a0.Turn)] [.agg (cs_Turn v1)]) ∧ T2 Tt)) [.no, .no, .call [.agg (cs_Turn a0.Turn)] [.agg (cs_Turn v1)] [[.view, .view, .view, .view]]] [2, 3] [2, 3] ⟨tr, tr, ⟨⟨⟨rfl, rfl, rfl, rfl, tr⟩, tr⟩, ok_laws_toTurn K a0.Turn v1 e2⟩, tr, tr, tr⟩ ?_
  refine thenQ_normal ?_
  refine AW.seq (AW.rA ⟨[(2, (vp 2 0))], [(2, (.box [(.c (.int .i64 a0.At)), (.c (.flt .f32 v1.W.bits)), (.c (.flt .f32 v1.X.bits)), (.c (.flt .f32 v1.Y.bits)), (.c (.flt .f32 v1.Z.bits))]))]⟩ (T2 Tt) [] [2] [2] ⟨tr, tr, tr⟩ (thenQ_normal ?_))
  refine AW.ret ?_
  replace h := some_eq h
  subst h
  exact ⟨.inr rfl, retOK_of [(.agg [(.c (.int .i64 a0.At)), (.c (.flt .f32 v1.W.bits)), (.c (.flt .f32 v1.X.bits)), (.c (.flt .f32 v1.Y.bits)), (.c (.flt .f32 v1.Z.bits))])] (by kernel_rfl) ⟨⟨⟨rfl, tr⟩, ⟨rfl, tr⟩, ⟨rfl, tr⟩, ⟨rfl, tr⟩, ⟨rfl, tr⟩, tr⟩, tr⟩ (of_decide_eq_true (by kernel_rfl))⟩

/-! laws.toKeyS -/
def laws_toKeyS_l1 (K : Nat) (a0 : (List Key)) : Nat → Int → (List Key) → Option ((List Key))
  | 0, _, _ => none
  | k + 1, x4, x5 => ite2 ((decide (x4 < (a0.length : Int)))) (chk (0 ≤ x4 ∧ x4 < (a0.length : Int)) ((laws_toKey K (a0.getD x4.toNat default)).bind fun v8 => chk (0 ≤ x4 ∧ x4 < (x5.length : Int)) (laws_toKeyS_l1 K a0 k (IntKind.i64.wrap (x4 + (1 : Int))) (x5.set x4.toNat v8)))) (some x5)

def laws_toKeyS (K : Nat) (a0 : (List Key)) : Option ((List Key)) :=
  chk (0 ≤ (a0.length : Int) ∧ (a0.length : Int).toNat * 24 ≤ 140737488355328) (laws_toKeyS_l1 K a0 K (0 : Int) (List.replicate (a0.length : Int).toNat (default : Key)))

theorem ok_laws_toKeyS (K : Nat) (a0 : (List Key)) (o : ((List Key))) (h : laws_toKeyS K a0 = some o) : CallOK Try.prog 137 [.one (sl 5 cs_Key a0)] [.one (sl 5 cs_Key o)] := by
  refine callOK_of_AW Try.func137 rfl (by kernel_rfl) (Nat.le_of_ble_eq_true (by kernel_rfl)) ?_
  intro w0
  unfold laws_toKeyS at h
  refine AW.seq (AW.rA ⟨[(0, (vc (sl 5 cs_Key a0)))], []⟩ (Tt ∧ Tt) [] [0] [] ⟨tr, tr⟩ (thenQ_normal ?_))
  refine AW.seq ?_
  obtain ⟨c1, h⟩ := chk_some h
  refine AW.rA ⟨[(0, (vc (sl 5 cs_Key a0))), (3, (.v (.one (.arr 1))))], [(1, (.arr false (List.replicate (a0.length : Int).toNat (default : Key)).length 5 (gl cs_Key (List.replicate (a0.length : Int).toNat (default : Key)))))]⟩ (T2 ((0 ≤ (a0.length : Int) ∧ (a0.length : Int) = (a0.length : Int) ∧ (((List.replicate (a0.length : Int).toNat (default : Key)).length : Nat) : Int) = (a0.length : Int) ∧ (List.replicate (a0.length : Int).toNat (default : Key)).length * 24 ≤ 140737488355328 ∧ ∀ i, i < (List.replicate (a0.length : Int).toNat (default : Key)).length → zeroRow (fun _ => none) [(.c (.int .i64 (0 : Int))), (.c (.flt .f32 (default : F32).bits)), (.c (.flt .f32 (default : F32).bits)), (.c (.flt .f32 (default : F32).bits)), (.c (.flt .f32 (default : F32).bits))] (gl cs_Key (List.replicate (a0.length : Int).toNat (default : Key)) i)) ∧ Tt ∧ Tt)) [.no, .no, .objA 1 (List.replicate (a0.length : Int).toNat (default : Key)).length (gl cs_Key (List.replicate (a0.length : Int).toNat (default : Key)))] [0, 3] [1] ⟨tr, tr, ⟨c1.1, rfl, len_rep c1.1, rep_bytes c1.2, fun i hi => gl_zero (cs := cs_Key) (zs := [(.c (.int .i64 (0 : Int))), (.c (.flt .f32 (default : F32).bits)), (.c (.flt .f32 (default : F32).bits)), (.c (.flt .f32 (default : F32).bits)), (.c (.flt .f32 (default : F32).bits))]) (n := (a0.length : Int).toNat) ⟨⟨rfl, tr⟩, ⟨rfl, tr⟩, ⟨rfl, tr⟩, ⟨rfl, tr⟩, ⟨rfl, tr⟩, tr⟩ i (rep_lt hi)⟩, tr, tr⟩ ?_
  refine thenQ_normal ?_
  refine AW.seq ?_
  refine AW.seq (AW.rA ⟨[(0, (vc (sl 5 cs_Key a0))), (3, (.v (.one (.arr 1)))), (4, (vc (.int .i64 (0 : Int))))], [(1, (.arr false (List.replicate (a0.length : Int).toNat (default : Key)).length 5 (gl cs_Key (List.replicate (a0.length : Int).toNat (default : Key)))))]⟩ (Tt ∧ Tt) [] [0, 3, 4] [1] ⟨tr, tr⟩ (thenQ_normal ?_))
  refine AW.block ?_
  refine AW.loopQ (σ := Nat × Int × (List Key)) (fun p => ⟨[(0, (vc (sl 5 cs_Key a0))), (3, (.v (.one (.arr 1)))), (4, (vc (.int .i64 p.2.1)))], [(1, (.arr false p.2.2.length 5 (gl cs_Key p.2.2)))]⟩) (fun p => laws_toKeyS_l1 K a0 p.1 p.2.1 p.2.2 = some o) (fun p => p.1) (K, (0 : Int), (List.replicate (a0.length : Int).toNat (default : Key))) h ?_
  clear h
  rintro ⟨k, x4, x5⟩ h
  replace h : laws_toKeyS_l1 K a0 k x4 x5 = some o := h
  show AW _ _ (⟨[(0, (vc (sl 5 cs_Key a0))), (3, (.v (.one (.arr 1)))), (4, (vc (.int .i64 x4)))], [(1, (.arr false x5.length 5 (gl cs_Key x5)))]⟩ : St) _
  obtain _ | k := k
  · rw [laws_toKeyS_l1] at h; cases h
  rw [laws_toKeyS_l1] at h
  refine AW.seq ?_
  refine AW.seq (AW.rA ⟨[(0, (vc (sl 5 cs_Key a0))), (3, (.v (.one (.arr 1)))), (4, (vc (.int .i64 x4))), (11, (vc (.bool (decide (x4 < (a0.length : Int))))))], [(1, (.arr false x5.length 5 (gl cs_Key x5)))]⟩ (T4 Tt) [] [0, 3, 4, 11] [1] ⟨tr, tr, tr, tr, tr⟩ (thenQ_normal ?_))
  rcases ite2_cases h with ⟨b6, h⟩ | ⟨b6, h⟩
  · refine AW.cond_t rfl b6 ?_
    refine AW.skip ?_
    refine thenQ_normal ?_
    refine AW.seq ?_
    refine AW.block ?_
    obtain ⟨c7, h⟩ := chk_some h
    obtain ⟨v8, e9, h⟩ := bind_some h
    obtain ⟨c10, h⟩ := chk_some h
    refine AW.rA ⟨[(0, (vc (sl 5 cs_Key a0))), (3, (.v (.one (.arr 1)))), (4, (vc (.int .i64 x4)))], [(1, (.arr false (x5.set x4.toNat v8).length 5 (gl cs_Key (x5.set x4.toNat v8))))]⟩ (T4 ((0 ≤ x4 ∧ x4 < (a0.length : Int)) ∧ Tt ∧ ((((Eqc (.int .i64 ((a0.getD x4.toNat default).At))) ∧ (Eqc (.flt .f32 (((a0.getD x4.toNat default).Turn).W).bits)) ∧ (Eqc (.flt .f32 (((a0.getD x4.toNat default).Turn).X).bits)) ∧ (Eqc (.flt .f32 (((a0.getD x4.toNat default).Turn).Y).bits)) ∧ (Eqc (.flt .f32 (((a0.getD x4.toNat default).Turn).Z).bits)) ∧ Tt) ∧ Tt) ∧ CallOK Try.prog 183 [.agg (cs_Key (a0.getD x4.toNat default))] [.agg (cs_Key v8)]) ∧ (0 ≤ x4 ∧ x4 < (x5.length : Int)) ∧ ((x5.set x4.toNat v8).length = x5.length ∧ SetOb x5.length 5 x4.toNat 0 5 (gl cs_Key x5) (gl cs_Key (x5.set x4.toNat v8)) ∧ ((List.range 5).map fun j => (cs_Key v8).getD (0 + j) .nilptr) = ((List.range 5).map fun j => gl cs_Key (x5.set x4.toNat v8) x4.toNat (0 + j)) ∧ ((((.int .i64 v8.At) : C) = (.int .i64 v8.At) ∧ Tt) ∧ (((.flt .f32 v8.Turn.W.bits) : C) = (.flt .f32 v8.Turn.W.bits) ∧ Tt) ∧ (((.flt .f32 v8.Turn.X.bits) : C) = (.flt .f32 v8.Turn.X.bits) ∧ Tt) ∧ (((.flt .f32 v8.Turn.Y.bits) : C) = (.flt .f32 v8.Turn.Y.bits) ∧ Tt) ∧ (((.flt .f32 v8.Turn.Z.bits) : C) = (.flt .f32 v8.Turn.Z.bits) ∧ Tt) ∧ Tt) ∧ (false = true → ∀ j, j < 5 → isSeq (gl cs_Key x5 x4.toNat (0 + j)) = false ∧ isSeq (gl cs_Key (x5.set x4.toNat v8) x4.toNat (0 + j)) = false)) ∧ Tt)) [.no, .no, .no, .no, .no, .no, .call [.agg (cs_Key (a0.getD x4.toNat default))] [.agg (cs_Key v8)] [[.view, .view, .view, .view, .view]], .no, .set (x5.set x4.toNat v8).length (gl cs_Key (x5.set x4.toNat v8)) ((List.range 5).map fun j => (cs_Key v8).getD (0 + j) .nilptr)] [0, 3, 4] [1] ⟨tr, tr, tr, tr, c7, tr, ⟨⟨⟨rfl, rfl, rfl, rfl, rfl, tr⟩, tr⟩, ok_laws_toKey K (a0.getD x4.toNat default) v8 e9⟩, c10, ⟨List.length_set, gl_set, (gl_atp (lt_of_bound c10)).symm, ⟨⟨rfl, tr⟩, ⟨rfl, tr⟩, ⟨rfl, tr⟩, ⟨rfl, tr⟩, ⟨rfl, tr⟩, tr⟩, (fun h => nomatch h)⟩, tr⟩ ?_
    refine blockQ_normal ?_
    refine thenQ_normal ?_
    refine AW.rA ⟨[(0, (vc (sl 5 cs_Key a0))), (3, (.v (.one (.arr 1)))), (4, (vc (.int .i64 (IntKind.i64.wrap (x4 + (1 : Int))))))], [(1, (.arr false (x5.set x4.toNat v8).length 5 (gl cs_Key (x5.set x4.toNat v8))))]⟩ (Tt ∧ T2 Tt) [] [0, 3, 4] [1] ⟨tr, tr, tr, tr⟩ ?_
    exact loopQ_normal (k, (IntKind.i64.wrap (x4 + (1 : Int))), (x5.set x4.toNat v8)) h (Nat.lt_succ_self k) (Sub.keep [0, 3, 4] [1] (by kernel_rfl) (by kernel_rfl))
  · refine AW.cond_f rfl b6 ?_
    refine AW.exit ?_
    refine thenQ_exit ?_
    refine loopQ_exit ?_
    refine blockQ_exit ?_
    refine thenQ_normal ?_
    refine AW.seq (AW.rA ⟨[(2, (.v (.one (.arr 1))))], [(1, (.arr false x5.length 5 (gl cs_Key x5)))]⟩ (T2 Tt) [] [2] [1] ⟨tr, tr, tr⟩ (thenQ_normal ?_))
    refine AW.ret ?_
    replace h := some_eq h
    subst h
    exact ⟨.inr rfl, retOK_of [(.one (.arr 1))] (by kernel_rfl) ⟨rfl, tr⟩ (of_decide_eq_true (by kernel_rfl))⟩

/-! laws.toKeySS -/
def laws_toKeySS_l1 (K : Nat) (a0 : (List (List Key))) : Nat → Int → (List (List Key)) → Option ((List (List Key)))
  | 0, _, _ => none
  | k + 1, x4, x5 => ite2 ((decide (x4 < (a0.length : Int)))) (chk (0 ≤ x4 ∧ x4 < (a0.length : Int)) ((laws_toKeyS K (a0.getD x4.toNat default)).bind fun v8 => chk (0 ≤ x4 ∧ x4 < (x5.length : Int)) (laws_toKeySS_l1 K a0 k (IntKind.i64.wrap (x4 + (1 : Int))) (x5.set x4.toNat v8)))) (some x5)

def laws_toKeySS (K : Nat) (a0 : (List (List Key))) : Option ((List (List Key))) :=
  chk (0 ≤ (a0.length : Int) ∧ (a0.length : Int).toNat * 24 ≤ 140737488355328) (laws_toKeySS_l1 K a0 K (0 : Int) (List.replicate (a0.length : Int).toNat (default : (List Key))))

theorem ok_laws_toKeySS (K : Nat) (a0 : (List (List Key))) (o : ((List (List Key)))) (h : laws_toKeySS K a0 = some o) : CallOK Try.prog 61 [.one (sl 1 (csL 5 cs_Key) a0)] [.one (sl 1 (csL 5 cs_Key) o)] := by
  refine callOK_of_AW Try.func61 rfl (by kernel_rfl) (Nat.le_of_ble_eq_true (by kernel_rfl)) ?_
  intro w0
  unfold laws_toKeySS at h
  refine AW.seq (AW.rA ⟨[(0, (vc (sl 1 (csL 5 cs_Key) a0)))], []⟩ (Tt ∧ Tt) [] [0] [] ⟨tr, tr⟩ (thenQ_normal ?_))
  refine AW.seq ?_
  obtain ⟨c1, h⟩ := chk_some h
  refine AW.rA ⟨[(0, (vc (sl 1 (csL 5 cs_Key) a0))), (3, (.v (.one (.arr 1))))], [(1, (.arr false (List.replicate (a0.length : Int).toNat (default : (List Key))).length 1 (gl (csL 5 cs_Key) (List.replicate (a0.length : Int).toNat (default : (List Key))))))]⟩ (T2 ((0 ≤ (a0.length : Int) ∧ (a0.length : Int) = (a0.length : Int) ∧ (((List.replicate (a0.length : Int).toNat (default : (List Key))).length : Nat) : Int) = (a0.length : Int) ∧ (List.replicate (a0.length : Int).toNat (default : (List Key))).length * 24 ≤ 140737488355328 ∧ ∀ i, i < (List.replicate (a0.length : Int).toNat (default : (List Key))).length → zeroRow (fun _ => none) [.nils] (gl (csL 5 cs_Key) (List.replicate (a0.length : Int).toNat (default : (List Key))) i)) ∧ Tt ∧ Tt)) [.no, .no, .objA 1 (List.replicate (a0.length : Int).toNat (default : (List Key))).length (gl (csL 5 cs_Key) (List.replicate (a0.length : Int).toNat (default : (List Key))))] [0, 3] [1] ⟨tr, tr, ⟨c1.1, rfl, len_rep c1.1, rep_bytes c1.2, fun i hi => gl_zero (cs := (csL 5 cs_Key)) (zs := [.nils]) (n := (a0.length : Int).toNat) ⟨rfl, tr⟩ i (rep_lt hi)⟩, tr, tr⟩ ?_
  refine thenQ_normal ?_
  refine AW.seq ?_
  refine AW.seq (AW.rA ⟨[(0, (vc (sl 1 (csL 5 cs_Key) a0))), (3, (.v (.one (.arr 1)))), (4, (vc (.int .i64 (0 : Int))))], [(1, (.arr false (List.replicate (a0.length : Int).toNat (default : (List Key))).length 1 (gl (csL 5 cs_Key) (List.replicate (a0.length : Int).toNat (default : (List Key))))))]⟩ (Tt ∧ Tt) [] [0, 3, 4] [1] ⟨tr, tr⟩ (thenQ_normal ?_))
  refine AW.block ?_
  refine AW.loopQ (σ := Nat × Int × (List (List Key))) (fun p => ⟨[(0, (vc (sl 1 (csL 5 cs_Key) a0))), (3, (.v (.one (.arr 1)))), (4, (vc (.int .i64 p.2.1)))], [(1, (.arr false p.2.2.length 1 (gl (csL 5 cs_Key) p.2.2)))]⟩) (fun p => laws_toKeySS_l1 K a0 p.1 p.2.1 p.2.2 = some o) (fun p => p.1) (K, (0 : Int), (List.replicate (a0.length : Int).toNat (default : (List Key)))) h ?_
  clear h
  rintro ⟨k, x4, x5⟩ h
  replace h : laws_toKeySS_l1 K a0 k x4 x5 = some o := h
  show AW _ _ (⟨[(0, (vc (sl 1 (csL 5 cs_Key) a0))), (3, (.v (.one (.arr 1)))), (4, (vc (.int .i64 x4)))], [(1, (.arr false x5.length 1 (gl (csL 5 cs_Key) x5)))]⟩ : St) _
  obtain _ | k := k
  · rw [laws_toKeySS_l1] at h; cases h
  rw [laws_toKeySS_l1] at h
  refine AW.seq ?_
  refine AW.seq (AW.rA ⟨[(0, (vc (sl 1 (csL 5 cs_Key) a0))), (3, (.v (.one (.arr 1)))), (4, (vc (.int .i64 x4))), (11, (vc (.bool (decide (x4 < (a0.length : Int))))))], [(1, (.arr false x5.length 1 (gl (csL 5 cs_Key) x5)))]⟩ (T4 Tt) [] [0, 3, 4, 11] [1] ⟨tr, tr, tr, tr, tr⟩ (thenQ_normal ?_))
  rcases ite2_cases h with ⟨b6, h⟩ | ⟨b6, h⟩
  · refine AW.cond_t rfl b6 ?_
    refine AW.skip ?_
    refine thenQ_normal ?_
    refine AW.seq ?_
    refine AW.block ?_
    obtain ⟨c7, h⟩ := chk_some h
    obtain ⟨v8, e9, h⟩ := bind_some h
    obtain ⟨c10, h⟩ := chk_some h
    refine AW.rA ⟨[(0, (vc (sl 1 (csL 5 cs_Key) a0))), (3, (.v (.one (.arr 1)))), (4, (vc (.int .i64 x4)))], [(1, (.arr false (x5.set x4.toNat v8).length 1 (gl (csL 5 cs_Key) (x5.set x4.toNat v8))))]⟩ (T4 ((0 ≤ x4 ∧ x4 < (a0.length : Int)) ∧ Tt ∧ (((Eqc (sl 5 cs_Key (a0.getD x4.toNat default))) ∧ Tt) ∧ CallOK Try.prog 137 [.one (sl 5 cs_Key (a0.getD x4.toNat default))] [.one (sl 5 cs_Key v8)]) ∧ (0 ≤ x4 ∧ x4 < (x5.length : Int)) ∧ ((x5.set x4.toNat v8).length = x5.length ∧ SetOb x5.length 1 x4.toNat 0 1 (gl (csL 5 cs_Key) x5) (gl (csL 5 cs_Key) (x5.set x4.toNat v8)) ∧ ((List.range 1).map fun j => ((csL 5 cs_Key) v8).getD (0 + j) .nilptr) = ((List.range 1).map fun j => gl (csL 5 cs_Key) (x5.set x4.toNat v8) x4.toNat (0 + j)) ∧ ((Eqc (sl 5 cs_Key v8)) ∧ Tt) ∧ (false = true → ∀ j, j < 1 → isSeq (gl (csL 5 cs_Key) x5 x4.toNat (0 + j)) = false ∧ isSeq (gl (csL 5 cs_Key) (x5.set x4.toNat v8) x4.toNat (0 + j)) = false)) ∧ Tt)) [.no, .no, .no, .no, .no, .no, .call [.one (sl 5 cs_Key (a0.getD x4.toNat default))] [.one (sl 5 cs_Key v8)] [[.lst 4]], .no, .set (x5.set x4.toNat v8).length (gl (csL 5 cs_Key) (x5.set x4.toNat v8)) ((List.range 1).map fun j => ((csL 5 cs_Key) v8).getD (0 + j) .nilptr)] [0, 3, 4] [1] ⟨tr, tr, tr, tr, c7, tr, ⟨⟨rfl, tr⟩, ok_laws_toKeyS K (a0.getD x4.toNat default) v8 e9⟩, c10, ⟨List.length_set, gl_set, (gl_atp (lt_of_bound c10)).symm, ⟨rfl, tr⟩, (fun h => nomatch h)⟩, tr⟩ ?_
    refine blockQ_normal ?_
    refine thenQ_normal ?_
    refine AW.rA ⟨[(0, (vc (sl 1 (csL 5 cs_Key) a0))), (3, (.v (.one (.arr 1)))), (4, (vc (.int .i64 (IntKind.i64.wrap (x4 + (1 : Int))))))], [(1, (.arr false (x5.set x4.toNat v8).length 1 (gl (csL 5 cs_Key) (x5.set x4.toNat v8))))]⟩ (Tt ∧ T2 Tt) [] [0, 3, 4] [1] ⟨tr, tr, tr, tr⟩ ?_
    exact loopQ_normal (k, (IntKind.i64.wrap (x4 + (1 : Int))), (x5.set x4.toNat v8)) h (Nat.lt_succ_self k) (Sub.keep [0, 3, 4] [1] (by kernel_rfl) (by kernel_rfl))
  · refine AW.cond_f rfl b6 ?_
    refine AW.exit ?_
    refine thenQ_exit ?_
    refine loopQ_exit ?_
    refine blockQ_exit ?_
    refine thenQ_normal ?_
    refine AW.seq (AW.rA ⟨[(2, (.v (.one (.arr 1))))], [(1, (.arr false x5.length 1 (gl (csL 5 cs_Key) x5)))]⟩ (T2 Tt) [] [2] [1] ⟨tr, tr, tr⟩ (thenQ_normal ?_))
    refine AW.ret ?_
    replace h := some_eq h
    subst h
    exact ⟨.inr rfl, retOK_of [(.one (.arr 1))] (by kernel_rfl) ⟨rfl, tr⟩ (of_decide_eq_true (by kernel_rfl))⟩

/-! laws.toVector -/
def laws_toVector (_K : Nat) (a0 : Vector) : Option (Vector) :=
  some a0

theorem ok_laws_toVector (K : Nat) (a0 : Vector) (o : (Vector)) (h : laws_toVector K a0 = some o) : CallOK Try.prog 184 [.agg (cs_Vector a0)] [.agg (cs_Vector o)] := by
  refine callOK_of_AW Try.func184 rfl (by kernel_rfl) (Nat.le_of_ble_eq_true (by kernel_rfl)) ?_
  intro w0
  unfold laws_toVector at h
  refine AW.seq (AW.rA ⟨[(1, (vp 1 0)), (2, (vp 2 0))], [(1, (.box [(.c (.flt .f32 a0.X.bits)), (.c (.flt .f32 a0.Y.bits)), (.c (.flt .f32 a0.Z.bits))])), (2, (.box [(.c (.flt .f32 (default : F32).bits)), (.c (.flt .f32 (default : F32).bits)), (.c (.flt .f32 (default : F32).bits))]))]⟩ (T2 Tt) [.box 1, .box 2] [1, 2] [1, 2] ⟨tr, tr, tr⟩ (thenQ_normal ?_))
  refine AW.seq (AW.rA ⟨[(1, (vp 1 0)), (2, (vp 2 0)), (3, (vp 3 0))], [(1, (.box [(.c (.flt .f32 a0.X.bits)), (.c (.flt .f32 a0.Y.bits)), (.c (.flt .f32 a0.Z.bits))])), (2, (.box [(.c (.flt .f32 (default : F32).bits)), (.c (.flt .f32 (default : F32).bits)), (.c (.flt .f32 (default : F32).bits))])), (3, (.box [(.c (.flt .f32 (default : F32).bits)), (.c (.flt .f32 (default : F32).bits)), (.c (.flt .f32 (default : F32).bits))]))]⟩ (Tt ∧ Tt) [.box 3] [1, 2, 3] [1, 2, 3] ⟨tr, tr⟩ (thenQ_normal ?_))
  refine AW.seq (AW.rA ⟨[(1, (vp 1 0)), (2, (vp 2 0)), (3, (vp 3 0))], [(1, (.box [(.c (.flt .f32 a0.X.bits)), (.c (.flt .f32 a0.Y.bits)), (.c (.flt .f32 a0.Z.bits))])), (2, (.box [(.c (.flt .f32 (default : F32).bits)), (.c (.flt .f32 (default : F32).bits)), (.c (.flt .f32 (default : F32).bits))])), (3, (.box [(.c (.flt .f32 a0.X.bits)), (.c (.flt .f32 (default : F32).bits)), (.c (.flt .f32 (default : F32).bits))]))]⟩ (T4 Tt) [] [1, 2, 3] [1, 2, 3] ⟨tr, tr, tr, tr, tr⟩ (thenQ_normal ?_))
  refine AW.seq (AW.rA ⟨[(1, (vp 1 0)), (2, (vp 2 0)), (3, (vp 3 0))], [(1, (.box [(.c (.flt .f32 a0.X.bits)), (.c (.flt .f32 a0.Y.bits)), (.c (.flt .f32 a0.Z.bits))])), (2, (.box [(.c (.flt .f32 (default : F32).bits)), (.c (.flt .f32 (default : F32).bits)), (.c (.flt .f32 (default : F32).bits))])), (3, (.box [(.c (.flt .f32 a0.X.bits)), (.c (.flt .f32 a0.Y.bits)), (.c (.flt .f32 (default : F32).bits))]))]⟩ (T4 Tt) [] [1, 2, 3] [1, 2, 3] ⟨tr, tr, tr, tr, tr⟩ (thenQ_normal ?_))
  refine AW.seq (AW.rA ⟨[(2, (vp 2 0)), (3, (vp 3 0))], [(2, (.box [(.c (.flt .f32 (default : F32).bits)), (.c (.flt .f32 (default : F32).bits)), (.c (.flt .f32 (default : F32).bits))])), (3, (.box [(.c (.flt .f32 a0.X.bits)), (.c (.flt .f32 a0.Y.bits)), (.c (.flt .f32 a0.Z.bits))]))]⟩ (T4 Tt) [] [2, 3] [2, 3] ⟨tr, tr, tr, tr, tr⟩ (thenQ_normal ?_))
  refine AW.seq (AW.rA ⟨[(2, (vp 2 0))], [(2, (.box [(.c (.flt .f32 a0.X.bits)), (.c (.flt .f32 a0.Y.bits)), (.c (.flt .f32 a0.Z.bits))]))]⟩ (T2 Tt) [] [2] [2] ⟨tr, tr, tr⟩ (thenQ_normal ?_))
  refine AW.ret ?_
  replace h := some_eq h
  subst h
  exact ⟨.inr rfl, retOK_of [(.agg [(.c (.flt .f32 a0.X.bits)), (.c (.flt .f32 a0.Y.bits)), (.c (.flt .f32 a0.Z.bits))])] (by kernel_rfl) ⟨⟨⟨rfl, tr⟩, ⟨rfl, tr⟩, ⟨rfl, tr⟩, tr⟩, tr⟩ (of_decide_eq_true (by kernel_rfl))⟩

/-! laws.toRootKey -/
def laws_toRootKey (K : Nat) (a0 : RootKey) : Option (RootKey) :=
  (laws_toVector K a0.Place).bind fun v1 => some (RootKey.mk a0.At v1)

theorem ok_laws_toRootKey (K : Nat) (a0 : RootKey) (o : (RootKey)) (h : laws_toRootKey K a0 = some o) : CallOK Try.prog 138 [.agg (cs_RootKey a0)] [.agg (cs_RootKey o)] := by
  refine callOK_of_AW Try.func138 rfl (by kernel_rfl) (Nat.le_of_ble_eq_true (by kernel_rfl)) ?_
  intro w0
  unfold laws_toRootKey at h
  refine AW.seq (AW.rA ⟨[(1, (vp 1 0)), (2, (vp 2 0))], [(1, (.box [(.c (.int .i64 a0.At)), (.c (.flt .f32 a0.Place.X.bits)), (.c (.flt .f32 a0.Place.Y.bits)), (.c (.flt .f32 a0.Place.Z.bits))])), (2, (.box [(.c (.int .i64 (0 : Int))), (.c (.flt .f32 (default : F32).bits)), (.c (.flt .f32 (default : F32).bits)), (.c (.flt .f32 (default : F32).bits))]))]⟩ (T2 Tt) [.box 1, .box 2] [1, 2] [1, 2] ⟨tr, tr, tr⟩ (thenQ_normal ?_))
  refine AW.seq (AW.rA ⟨[(1, (vp 1 0)), (2, (vp 2 0)), (3, (vp 3 0))], [(1, (.box [(.c (.int .i64 a0.At)), (.c (.flt .f32 a0.Place.X.bits)), (.c (.flt .f32 a0.Place.Y.bits)), (.c (.flt .f32 a0.Place.Z.bits))])), (2, (.box [(.c (.int .i64 (0 : Int))), (.c (.flt .f32 (default : F32).bits)), (.c (.flt .f32 (default : F32).bits)), (.c (.flt .f32 (default : F32).bits))])), (3, (.box [(.c (.int .i64 (0 : Int))), (.c (.flt .f32 (default : F32).bits)), (.c (.flt .f32 (default : F32).bits)), (.c (.flt .f32 (default : F32).bits))]))]⟩ (Tt ∧ Tt) [.box 3] [1, 2, 3] [1, 2, 3] ⟨tr, tr⟩ (thenQ_normal ?_))
  refine AW.seq (AW.rA ⟨[(1, (vp 1 0)), (2, (vp 2 0)), (3, (vp 3 0))], [(1, (.box [(.c (.int .i64 a0.At)), (.c (.flt .f32 a0.Place.X.bits)), (.c (.flt .f32 a0.Place.Y.bits)), (.c (.flt .f32 a0.Place.Z.bits))])), (2, (.box [(.c (.int .i64 (0 : Int))), (.c (.flt .f32 (default : F32).bits)), (.c (.flt .f32 (default : F32).bits)), (.c (.flt .f32 (default : F32).bits))])), (3, (.box [(.c (.int .i64 a0.At)), (.c (.flt .f32 (default : F32).bits)), (.c (.flt .f32 (default : F32).bits)), (.c (.flt .f32 (default : F32).bits))]))]⟩ (T4 Tt) [] [1, 2, 3] [1, 2, 3] ⟨tr, tr, tr, tr, tr⟩ (thenQ_normal ?_))
  refine AW.seq ?_
  obtain ⟨v1, e2, h⟩ := bind_some h
  refine AW.rA ⟨[(2, (vp 2 0)), (3, (vp 3 0))], [(2, (.box [(.c (.int .i64 (0 : Int))), (.c (.flt .f32 (default : F32).bits)), (.c (.flt .f32 (default : F32).bits)), (.c (.flt .f32 (default : F32).bits))])), (3, (.box [(.c (.int .i64 a0.At)), (.c (.flt .f32 v1.X.bits)), (.c (.flt .f32 v1.Y.bits)), (.c (.flt .f32 v1.Z.bits))]))]⟩ (T2 (((((Eqc (.flt .f32 a0.Place.X.bits)) ∧ (Eqc (.flt .f32 a0.Place.Y.bits)) ∧ (Eqc (.flt .f32 a0.Place.Z.bits)) ∧ Tt) ∧ Tt) ∧ CallOK Try.prog 184 [.agg (cs_Vector a0.Place)] [.agg (cs_Vector v1)]) ∧ T2 Tt)) [.no, .no, .call [.agg (cs_Vector a0.Place)] [.agg (cs_Vector v1)] [[.view, .view, .view]]] [2, 3] [2, 3] ⟨tr, tr, ⟨⟨⟨rfl, rfl, rfl, tr⟩, tr⟩, ok_laws_toVector K a0.Place v1 e2⟩, tr, tr, tr⟩ ?_
  refine thenQ_normal ?_
  refine AW.seq (AW.rA ⟨[(2, (vp 2 0))], [(2, (.box [(.c (.int .i64 a0.At)), (.c (.flt .f32 v1.X.bits)), (.c (.flt .f32 v1.Y.bits)), (.c (.flt .f32 v1.Z.bits))]))]⟩ (T2 Tt) [] [2] [2] ⟨tr, tr, tr⟩ (thenQ_normal ?_))
  refine AW.ret ?_
  replace h := some_eq h
  subst h
  exact ⟨.inr rfl, retOK_of [(.agg [(.c (.int .i64 a0.At)), (.c (.flt .f32 v1.X.bits)), (.c (.flt .f32 v1.Y.bits)), (.c (.flt .f32 v1.Z.bits))])] (by kernel_rfl) ⟨⟨⟨rfl, tr⟩, ⟨rfl, tr⟩, ⟨rfl, tr⟩, ⟨rfl, tr⟩, tr⟩, tr⟩ (of_decide_eq_true (by kernel_rfl))⟩

/-! laws.toRootKeyS -/
def laws_toRootKeyS_l1 (K : Nat) (a0 : (List RootKey)) : Nat → Int → (List RootKey) → Option ((List RootKey))
  | 0, _, _ => none
  | k + 1, x4, x5 => ite2 ((decide (x4 < (a0.length : Int)))) (chk (0 ≤ x4 ∧ x4 < (a0.length : Int)) ((laws_toRootKey K (a0.getD x4.toNat default)).bind fun v8 => chk (0 ≤ x4 ∧ x4 < (x5.length : Int)) (laws_toRootKeyS_l1 K a0 k (IntKind.i64.wrap (x4 + (1 : Int))) (x5.set x4.toNat v8)))) (some x5)

def laws_toRootKeyS (K : Nat) (a0 : (List RootKey)) : Option ((List RootKey)) :=
  chk (0 ≤ (a0.length : Int) ∧ (a0.length : Int).toNat * 24 ≤ 140737488355328) (laws_toRootKeyS_l1 K a0 K (0 : Int) (List.replicate (a0.length : Int).toNat (default : RootKey)))

theorem ok_laws_toRootKeyS (K : Nat) (a0 : (List RootKey)) (o : ((List RootKey))) (h : laws_toRootKeyS K a0 = some o) : CallOK Try.prog 62 [.one (sl 4 cs_RootKey a0)] [.one (sl 4 cs_RootKey o)] := by
  refine callOK_of_AW Try.func62 rfl (by kernel_rfl) (Nat.le_of_ble_eq_true (by kernel_rfl)) ?_
  intro w0
  unfold laws_toRootKeyS at h
  refine AW.seq (AW.rA ⟨[(0, (vc (sl 4 cs_RootKey a0)))], []⟩ (Tt ∧ Tt) [] [0] [] ⟨tr, tr⟩ (thenQ_normal ?_))
  refine AW.seq ?_
  obtain ⟨c1, h⟩ := chk_some h
  refine AW.rA ⟨[(0, (vc (sl 4 cs_RootKey a0))), (3, (.v (.one (.arr 1))))], [(1, (.arr false (List.replicate (a0.length : Int).toNat (default : RootKey)).length 4 (gl cs_RootKey (List.replicate (a0.length : Int).toNat (default : RootKey)))))]⟩ (T2 ((0 ≤ (a0.length : Int) ∧ (a0.length : Int) = (a0.length : Int) ∧ (((List.replicate (a0.length : Int).toNat (default : RootKey)).length : Nat) : Int) = (a0.length : Int) ∧ (List.replicate (a0.length : Int).toNat (default : RootKey)).length * 24 ≤ 140737488355328 ∧ ∀ i, i < (List.replicate (a0.length : Int).toNat (default : RootKey)).length → zeroRow (fun _ => none) [(.c (.int .i64 (0 : Int))), (.c (.flt .f32 (default : F32).bits)), (.c (.flt .f32 (default : F32).bits)), (.c (.flt .f32 (default : F32).bits))] (gl cs_RootKey (List.replicate (a0.length : Int).toNat (default : RootKey)) i)) ∧ Tt ∧ Tt)) [.no, .no, .objA 1 (List.replicate (a0.length : Int).toNat (default : RootKey)).length (gl cs_RootKey (List.replicate (a0.length : Int).toNat (default : RootKey)))] [0, 3] [1] ⟨tr, tr, ⟨c1.1, rfl, len_rep c1.1, rep_bytes c1.2, fun i hi => gl_zero (cs := cs_RootKey) (zs := [(.c (.int .i64 (0 : Int))), (.c (.flt .f32 (default : F32).bits)), (.c (.flt .f32 (default : F32).bits)), (.c (.flt .f32 (default : F32).bits))]) (n := (a0.length : Int).toNat) ⟨⟨rfl, tr⟩, ⟨rfl, tr⟩, ⟨rfl, tr⟩, ⟨rfl, tr⟩, tr⟩ i (rep_lt hi)⟩, tr, tr⟩ ?_
  refine thenQ_normal ?_
  refine AW.seq ?_
  refine AW.seq (AW.rA ⟨[(0, (vc (sl 4 cs_RootKey a0))), (3, (.v (.one (.arr 1)))), (4, (vc (.int .i64 (0 : Int))))], [(1, (.arr false (List.replicate (a0.length : Int).toNat (default : RootKey)).length 4 (gl cs_RootKey (List.replicate (a0.length : Int).toNat (default : RootKey)))))]⟩ (Tt ∧ Tt) [] [0, 3, 4] [1] ⟨tr, tr⟩ (thenQ_normal ?_))
  refine AW.block ?_
  refine AW.loopQ (σ := Nat × Int × (List RootKey)) (fun p => ⟨[(0, (vc (sl 4 cs_RootKey a0))), (3, (.v (.one (.arr 1)))), (4, (vc (.int .i64 p.2.1)))], [(1, (.arr false p.2.2.length 4 (gl cs_RootKey p.2.2)))]⟩) (fun p => laws_toRootKeyS_l1 K a0 p.1 p.2.1 p.2.2 = some o) (fun p => p.1) (K, (0 : Int), (List.replicate (a0.length : Int).toNat (default : RootKey))) h ?_
  clear h
  rintro ⟨k, x4, x5⟩ h
  replace h : laws_toRootKeyS_l1 K a0 k x4 x5 = some o := h
  show AW _ _ (⟨[(0, (vc (sl 4 cs_RootKey a0))), (3, (.v (.one (.arr 1)))), (4, (vc (.int .i64 x4)))], [(1, (.arr false x5.length 4 (gl cs_RootKey x5)))]⟩ : St) _
  obtain _ | k := k
  · rw [laws_toRootKeyS_l1] at h; cases h
  rw [laws_toRootKeyS_l1] at h
  refine AW.seq ?_
  refine AW.seq (AW.rA ⟨[(0, (vc (sl 4 cs_RootKey a0))), (3, (.v (.one (.arr 1)))), (4, (vc (.int .i64 x4))), (11, (vc (.bool (decide (x4 < (a0.length : Int))))))], [(1, (.arr false x5.length 4 (gl cs_RootKey x5)))]⟩ (T4 Tt) [] [0, 3, 4, 11] [1] ⟨tr, tr, tr, tr, tr⟩ (thenQ_normal ?_))
  rcases ite2_cases h with ⟨b6, h⟩ | ⟨b6, h⟩
  · refine AW.cond_t rfl b6 ?_
    refine AW.skip ?_
    refine thenQ_normal ?_
    refine AW.seq ?_
    refine AW.block ?_
    obtain ⟨c7, h⟩ := chk_some h
    obtain ⟨v8, e9, h⟩ := bind_some h
    obtain ⟨c10, h⟩ := chk_some h
    refine AW.rA ⟨[(0, (vc (sl 4 cs_RootKey a0))), (3, (.v (.one (.arr 1)))), (4, (vc (.int .i64 x4)))], [(1, (.arr false (x5.set x4.toNat v8).length 4 (gl cs_RootKey (x5.set x4.toNat v8))))]⟩ (T4 ((0 ≤ x4 ∧ x4 < (a0.length : Int)) ∧ Tt ∧ ((((Eqc (.int .i64 ((a0.getD x4.toNat default).At))) ∧ (Eqc (.flt .f32 (((a0.getD x4.toNat default).Place).X).bits)) ∧ (Eqc (.flt .f32 (((a0.getD x4.toNat default).Place).Y).bits)) ∧ (Eqc (.flt .f32 (((a0.getD x4.toNat default).Place).Z).bits)) ∧ Tt) ∧ Tt) ∧ CallOK Try.prog 138 [.agg (cs_RootKey (a0.getD x4.toNat default))] [.agg (cs_RootKey v8)]) ∧ (0 ≤ x4 ∧ x4 < (x5.length : Int)) ∧ ((x5.set x4.toNat v8).length = x5.length ∧ SetOb x5.length 4 x4.toNat 0 4 (gl cs_RootKey x5) (gl cs_RootKey (x5.set x4.toNat v8)) ∧ ((List.range 4).map fun j => (cs_RootKey v8).getD (0 + j) .nilptr) = ((List.range 4).map fun j => gl cs_RootKey (x5.set x4.toNat v8) x4.toNat (0 + j)) ∧ ((((.int .i64 v8.At) : C) = (.int .i64 v8.At) ∧ Tt) ∧ (((.flt .f32 v8.Place.X.bits) : C) = (.flt .f32 v8.Place.X.bits) ∧ Tt) ∧ (((.flt .f32 v8.Place.Y.bits) : C) = (.flt .f32 v8.Place.Y.bits) ∧ Tt) ∧ (((.flt .f32 v8.Place.Z.bits) : C) = (.flt .f32 v8.Place.Z.bits) ∧ Tt) ∧ Tt) ∧ (false = true → ∀ j, j < 4 → isSeq (gl cs_RootKey x5 x4.toNat (0 + j)) = false ∧ isSeq (gl cs_RootKey (x5.set x4.toNat v8) x4.toNat (0 + j)) = false)) ∧ Tt)) [.no, .no, .no, .no, .no, .no, .call [.agg (cs_RootKey (a0.getD x4.toNat default))] [.agg (cs_RootKey v8)] [[.view, .view, .view, .view]], .no, .set (x5.set x4.toNat v8).length (gl cs_RootKey (x5.set x4.toNat v8)) ((List.range 4).map fun j => (cs_RootKey v8).getD (0 + j) .nilptr)] [0, 3, 4] [1] ⟨tr, tr, tr, tr, c7, tr, ⟨⟨⟨rfl, rfl, rfl, rfl, tr⟩, tr⟩, ok_laws_toRootKey K (a0.getD x4.toNat default) v8 e9⟩, c10, ⟨List.length_set, gl_set, (gl_atp (lt_of_bound c10)).symm, ⟨⟨rfl, tr⟩, ⟨rfl, tr⟩, ⟨rfl, tr⟩, ⟨rfl, tr⟩, tr⟩, (fun h => nomatch h)⟩, tr⟩ ?_
    refine blockQ_normal ?_
    refine thenQ_normal ?_
    refine AW.rA ⟨[(0, (vc (sl 4 cs_RootKey a0))), (3, (.v (.one (.arr 1)))), (4, (vc (.int .i64 (IntKind.i64.wrap (x4 + (1 : Int))))))], [(1, (.arr false (x5.set x4.toNat v8).length 4 (gl cs_RootKey (x5.set x4.toNat v8))))]⟩ (Tt ∧ T2 Tt) [] [0, 3, 4] [1] ⟨tr, tr, tr, tr⟩ ?_
    exact loopQ_normal (k, (IntKind.i64.wrap (x4 + (1 : Int))), (x5.set x4.toNat v8)) h (Nat.lt_succ_self k) (Sub.keep [0, 3, 4] [1] (by kernel_rfl) (by kernel_rfl))
  · refine AW.cond_f rfl b6 ?_
    refine AW.exit ?_
    refine thenQ_exit ?_
    refine loopQ_exit ?_
    refine blockQ_exit ?_
    refine thenQ_normal ?_
    refine AW.seq (AW.rA ⟨[(2, (.v (.one (.arr 1))))], [(1, (.arr false x5.length 4 (gl cs_RootKey x5)))]⟩ (T2 Tt) [] [2] [1] ⟨tr, tr, tr⟩ (thenQ_normal ?_))
    refine AW.ret ?_
    replace h := some_eq h
    subst h
    exact ⟨.inr rfl, retOK_of [(.one (.arr 1))] (by kernel_rfl) ⟨rfl, tr⟩ (of_decide_eq_true (by kernel_rfl))⟩

/-! laws.toClip -/
def laws_toClip (K : Nat) (a0 : Clip) : Option (Clip) :=
  (laws_toKeySS K a0.Tracks).bind fun v1 => (laws_toRootKeyS K a0.Roots).bind fun v3 => some (Clip.mk a0.Length a0.Kind v1 v3)

theorem ok_laws_toClip (K : Nat) (a0 : Clip) (o : (Clip)) (h : laws_toClip K a0 = some o) : CallOK Try.prog 13 [.agg (cs_Clip a0)] [.agg (cs_Clip o)] := by
  refine callOK_of_AW Try.func13 rfl (by kernel_rfl) (Nat.le_of_ble_eq_true (by kernel_rfl)) ?_
  intro w0
  unfold laws_toClip at h
  refine AW.seq (AW.rA ⟨[(1, (vp 1 0)), (2, (vp 2 0))], [(1, (.box [(.c (.int .i64 a0.Length)), (.c (.int .i64 a0.Kind)), (.c (sl 1 (csL 5 cs_Key) a0.Tracks)), (.c (sl 4 cs_RootKey a0.Roots))])), (2, (.box [(.c (.int .i64 (0 : Int))), (.c (.int .i64 (0 : Int))), .nils, .nils]))]⟩ (T2 Tt) [.box 1, .box 2] [1, 2] [1, 2] ⟨tr, tr, tr⟩ (thenQ_normal ?_))
  refine AW.seq (AW.rA ⟨[(1, (vp 1 0)), (2, (vp 2 0)), (3, (vp 3 0))], [(1, (.box [(.c (.int .i64 a0.Length)), (.c (.int .i64 a0.Kind)), (.c (sl 1 (csL 5 cs_Key) a0.Tracks)), (.c (sl 4 cs_RootKey a0.Roots))])), (2, (.box [(.c (.int .i64 (0 : Int))), (.c (.int .i64 (0 : Int))), .nils, .nils])), (3, (.box [(.c (.int .i64 (0 : Int))), (.c (.int .i64 (0 : Int))), .nils, .nils]))]⟩ (Tt ∧ Tt) [.box 3] [1, 2, 3] [1, 2, 3] ⟨tr, tr⟩ (thenQ_normal ?_))
  refine AW.seq (AW.rA ⟨[(1, (vp 1 0)), (2, (vp 2 0)), (3, (vp 3 0))], [(1, (.box [(.c (.int .i64 a0.Length)), (.c (.int .i64 a0.Kind)), (.c (sl 1 (csL 5 cs_Key) a0.Tracks)), (.c (sl 4 cs_RootKey a0.Roots))])), (2, (.box [(.c (.int .i64 (0 : Int))), (.c (.int .i64 (0 : Int))), .nils, .nils])), (3, (.box [(.c (.int .i64 a0.Length)), (.c (.int .i64 (0 : Int))), .nils, .nils]))]⟩ (T4 Tt) [] [1, 2, 3] [1, 2, 3] ⟨tr, tr, tr, tr, tr⟩ (thenQ_normal ?_))
  refine AW.seq (AW.rA ⟨[(1, (vp 1 0)), (2, (vp 2 0)), (3, (vp 3 0))], [(1, (.box [(.c (.int .i64 a0.Length)), (.c (.int .i64 a0.Kind)), (.c (sl 1 (csL 5 cs_Key) a0.Tracks)), (.c (sl 4 cs_RootKey a0.Roots))])), (2, (.box [(.c (.int .i64 (0 : Int))), (.c (.int .i64 (0 : Int))), .nils, .nils])), (3, (.box [(.c (.int .i64 a0.Length)), (.c (.int .i64 a0.Kind)), .nils, .nils]))]⟩ (T4 Tt) [] [1, 2, 3] [1, 2, 3] ⟨tr, tr, tr, tr, tr⟩ (thenQ_normal ?_))
  refine AW.seq ?_
  obtain ⟨v1, e2, h⟩ := bind_some h
  refine AW.rA ⟨[(1, (vp 1 0)), (2, (vp 2 0)), (3, (vp 3 0))], [(1, (.box [(.c (.int .i64 a0.Length)), (.c (.int .i64 a0.Kind)), (.c (sl 1 (csL 5 cs_Key) a0.Tracks)), (.c (sl 4 cs_RootKey a0.Roots))])), (2, (.box [(.c (.int .i64 (0 : Int))), (.c (.int .i64 (0 : Int))), .nils, .nils])), (3, (.box [(.c (.int .i64 a0.Length)), (.c (.int .i64 a0.Kind)), (.lst 4 v1.length 1 (gl (csL 5 cs_Key) v1)), .nils])), (4, (.lst v1.length 1 (gl (csL 5 cs_Key) v1)))]⟩ (T2 ((((Eqc (sl 1 (csL 5 cs_Key) a0.Tracks)) ∧ Tt) ∧ CallOK Try.prog 61 [.one (sl 1 (csL 5 cs_Key) a0.Tracks)] [.one (sl 1 (csL 5 cs_Key) v1)]) ∧ T2 Tt)) [.no, .no, .call [.one (sl 1 (csL 5 cs_Key) a0.Tracks)] [.one (sl 1 (csL 5 cs_Key) v1)] [[.lst 4]]] [1, 2, 3] [1, 2, 3, 4] ⟨tr, tr, ⟨⟨rfl, tr⟩, ok_laws_toKeySS K a0.Tracks v1 e2⟩, tr, tr, tr⟩ ?_
  refine thenQ_normal ?_
  refine AW.seq ?_
  obtain ⟨v3, e4, h⟩ := bind_some h
  refine AW.rA ⟨[(2, (vp 2 0)), (3, (vp 3 0))], [(2, (.box [(.c (.int .i64 (0 : Int))), (.c (.int .i64 (0 : Int))), .nils, .nils])), (3, (.box [(.c (.int .i64 a0.Length)), (.c (.int .i64 a0.Kind)), (.lst 4 v1.length 1 (gl (csL 5 cs_Key) v1)), (.lst 5 v3.length 4 (gl cs_RootKey v3))])), (4, (.lst v1.length 1 (gl (csL 5 cs_Key) v1))), (5, (.lst v3.length 4 (gl cs_RootKey v3)))]⟩ (T2 ((((Eqc (sl 4 cs_RootKey a0.Roots)) ∧ Tt) ∧ CallOK Try.prog 62 [.one (sl 4 cs_RootKey a0.Roots)] [.one (sl 4 cs_RootKey v3)]) ∧ T2 Tt)) [.no, .no, .call [.one (sl 4 cs_RootKey a0.Roots)] [.one (sl 4 cs_RootKey v3)] [[.lst 5]]] [2, 3] [2, 3, 4, 5] ⟨tr, tr, ⟨⟨rfl, tr⟩, ok_laws_toRootKeyS K a0.Roots v3 e4⟩, tr, tr, tr⟩ ?_
  refine thenQ_normal ?_
  refine AW.seq (AW.rA ⟨[(2, (vp 2 0))], [(2, (.box [(.c (.int .i64 a0.Length)), (.c (.int .i64 a0.Kind)), (.lst 4 v1.length 1 (gl (csL 5 cs_Key) v1)), (.lst 5 v3.length 4 (gl cs_RootKey v3))])), (4, (.lst v1.length 1 (gl (csL 5 cs_Key) v1))), (5, (.lst v3.length 4 (gl cs_RootKey v3)))]⟩ (T2 Tt) [] [2] [2, 4, 5] ⟨tr, tr, tr⟩ (thenQ_normal ?_))
  refine AW.ret ?_
  replace h := some_eq h
  subst h
  exact ⟨.inr rfl, retOK_of [(.agg [(.c (.int .i64 a0.Length)), (.c (.int .i64 a0.Kind)), (.lst 4 v1.length 1 (gl (csL 5 cs_Key) v1)), (.lst 5 v3.length 4 (gl cs_RootKey v3))])] (by kernel_rfl) ⟨⟨⟨rfl, tr⟩, ⟨rfl, tr⟩, rfl, rfl, tr⟩, tr⟩ (of_decide_eq_true (by kernel_rfl))⟩

/-! spec.l00In -/
def spec_l00In (_K : Nat) (a0 : Int) (a1 : Int) (a2 : Int) : Option (Bool) :=
  (ite2 ((decide (a0 ≥ a1))) (some (decide (a0 ≤ a2))) (some false)).bind fun j2 => some j2

theorem ok_spec_l00In (K : Nat) (a0 : Int) (a1 : Int) (a2 : Int) (o : (Bool)) (h : spec_l00In K a0 a1 a2 = some o) : CallOK Try.prog 74 [.one (.int .i64 a0), .one (.int .i64 a1), .one (.int .i64 a2)] [.one (.bool o)] := by
  refine callOK_of_AW Try.func74 rfl (by kernel_rfl) (Nat.le_of_ble_eq_true (by kernel_rfl)) ?_
  intro w0
  unfold spec_l00In at h
  refine AW.seq (AW.rA ⟨[(0, (vc (.int .i64 a0))), (1, (vc (.int .i64 a1))), (2, (vc (.int .i64 a2)))], []⟩ (Tt ∧ Tt) [] [0, 1, 2] [] ⟨tr, tr⟩ (thenQ_normal ?_))
  refine AW.seq ?_
  obtain ⟨j2, e3, h⟩ := bind_some h
  refine AW.join1 (s2 := ⟨[(6, (vc (.bool j2)))], []⟩) ?_ ?_
  · rcases ite2_cases e3 with ⟨b1, e3⟩ | ⟨b1, e3⟩
    · replace e3 := some_eq e3
      subst e3
      exact AW.rA ⟨[(6, (vc (.bool (decide (a0 ≤ a2)))))], []⟩ (Tt ∧ T2 ((Tt ∧ (decide (a0 ≥ a1)) = true) ∧ Tt ∧ T4 Tt)) [.no, .no, .no, .dec true] [6] [] ⟨tr, tr, tr, ⟨tr, b1⟩, tr, tr, tr, tr, tr, tr⟩ ⟨rfl, rfl⟩
    · replace e3 := some_eq e3
      subst e3
      exact AW.rA ⟨[(6, (vc (.bool false)))], []⟩ (Tt ∧ T2 ((Tt ∧ (decide (a0 ≥ a1)) = false) ∧ Tt ∧ T4 Tt)) [.no, .no, .no, .dec false] [6] [] ⟨tr, tr, tr, ⟨tr, b1⟩, tr, tr, tr, tr, tr, tr⟩ ⟨rfl, rfl⟩
  refine thenQ_normal ?_
  refine AW.ret ?_
  replace h := some_eq h
  subst h
  exact ⟨.inr rfl, retOK_of [(.one (.c (.bool j2)))] (by kernel_rfl) ⟨⟨rfl, tr⟩, tr⟩ (of_decide_eq_true (by kernel_rfl))⟩

/-! spec.l05At -/
def spec_l05At_l1 (K : Nat) (a0 : (List Key)) : Nat → Int → (List Int) → Option ((List Int))
  | 0, _, _ => none
  | k + 1, x3, x4 => ite2 ((decide (x3 < (a0.length : Int)))) (chk (0 ≤ x3 ∧ x3 < (a0.length : Int)) (chk ((x4.length + ([(a0.getD x3.toNat default).At]).length) * 8 ≤ 140737488355328) (spec_l05At_l1 K a0 k (IntKind.i64.wrap (x3 + (1 : Int))) (x4 ++ ([(a0.getD x3.toNat default).At]))))) (some x4)

def spec_l05At (K : Nat) (a0 : (List Key)) : Option ((List Int)) :=
  spec_l05At_l1 K a0 K (0 : Int) ([] : List Int)

theorem ok_spec_l05At (K : Nat) (a0 : (List Key)) (o : ((List Int))) (h : spec_l05At K a0 = some o) : CallOK Try.prog 135 [.one (sl 5 cs_Key a0)] [.one (sl 1 (csI .i64) o)] := by
  refine callOK_of_AW Try.func135 rfl (by kernel_rfl) (Nat.le_of_ble_eq_true (by kernel_rfl)) ?_
  intro w0
  unfold spec_l05At at h
  refine AW.seq (AW.rA ⟨[(0, (vc (sl 5 cs_Key a0)))], []⟩ (Tt ∧ Tt) [] [0] [] ⟨tr, tr⟩ (thenQ_normal ?_))
  refine AW.seq (AW.rA ⟨[(0, (vc (sl 5 cs_Key a0))), (3, (.v (.one (.lst 1 ([] : List Int).length 1 (gl (csI .i64) ([] : List Int))))))], [(1, (.lst ([] : List Int).length 1 (gl (csI .i64) ([] : List Int))))]⟩ ((([] : List Int).length = 0 ∧ Tt) ∧ Tt ∧ Tt) [.obj 1 ([] : List Int).length (gl (csI .i64) ([] : List Int))] [0, 3] [1] ⟨⟨rfl, tr⟩, tr, tr⟩ (thenQ_normal ?_))
  refine AW.seq ?_
  refine AW.seq (AW.rA ⟨[(0, (vc (sl 5 cs_Key a0))), (3, (.v (.one (.lst 1 ([] : List Int).length 1 (gl (csI .i64) ([] : List Int)))))), (7, (vc (.int .i64 (a0.length : Int)))), (8, (vc (.int .i64 (0 : Int))))], [(1, (.lst ([] : List Int).length 1 (gl (csI .i64) ([] : List Int))))]⟩ (Tt ∧ T2 Tt) [] [0, 3, 7, 8] [1] ⟨tr, tr, tr, tr⟩ (thenQ_normal ?_))
  refine AW.block ?_
  refine AW.loopQ (σ := Nat × Int × (List Int)) (fun p => ⟨[(0, (vc (sl 5 cs_Key a0))), (3, (.v (.one (.lst 1 p.2.2.length 1 (gl (csI .i64) p.2.2))))), (7, (vc (.int .i64 (a0.length : Int)))), (8, (vc (.int .i64 p.2.1)))], [(1, (.lst p.2.2.length 1 (gl (csI .i64) p.2.2)))]⟩) (fun p => spec_l05At_l1 K a0 p.1 p.2.1 p.2.2 = some o) (fun p => p.1) (K, (0 : Int), ([] : List Int)) h ?_
  clear h
  rintro ⟨k, x3, x4⟩ h
  replace h : spec_l05At_l1 K a0 k x3 x4 = some o := h
  show AW _ _ (⟨[(0, (vc (sl 5 cs_Key a0))), (3, (.v (.one (.lst 1 x4.length 1 (gl (csI .i64) x4))))), (7, (vc (.int .i64 (a0.length : Int)))), (8, (vc (.int .i64 x3)))], [(1, (.lst x4.length 1 (gl (csI .i64) x4)))]⟩ : St) _
  obtain _ | k := k
  · rw [spec_l05At_l1] at h; cases h
  rw [spec_l05At_l1] at h
  refine AW.seq (AW.rA ⟨[(0, (vc (sl 5 cs_Key a0))), (3, (.v (.one (.lst 1 x4.length 1 (gl (csI .i64) x4))))), (7, (vc (.int .i64 (a0.length : Int)))), (8, (vc (.int .i64 x3))), (9, (vc (.bool (decide (x3 < (a0.length : Int))))))], [(1, (.lst x4.length 1 (gl (csI .i64) x4)))]⟩ (Tt ∧ Tt) [] [0, 3, 7, 8, 9] [1] ⟨tr, tr⟩ (thenQ_normal ?_))
  refine AW.seq ?_
  rcases ite2_cases h with ⟨b5, h⟩ | ⟨b5, h⟩
  · refine AW.cond_t rfl b5 ?_
    refine AW.skip ?_
    refine thenQ_normal ?_
    refine AW.seq ?_
    refine AW.block ?_
    refine AW.seq (AW.rA ⟨[(0, (vc (sl 5 cs_Key a0))), (3, (.v (.one (.lst 1 x4.length 1 (gl (csI .i64) x4))))), (4, (vc (.int .i64 x3))), (7, (vc (.int .i64 (a0.length : Int)))), (8, (vc (.int .i64 x3)))], [(1, (.lst x4.length 1 (gl (csI .i64) x4)))]⟩ (T2 Tt) [] [0, 3, 4, 7, 8] [1] ⟨tr, tr, tr⟩ (thenQ_normal ?_))
    obtain ⟨c6, h⟩ := chk_some h
    obtain ⟨c7, h⟩ := chk_some h
    refine AW.rA ⟨[(0, (vc (sl 5 cs_Key a0))), (3, (.v (.one (.lst 7 (x4 ++ ([(a0.getD x3.toNat default).At])).length 1 (gl (csI .i64) (x4 ++ ([(a0.getD x3.toNat default).At]))))))), (7, (vc (.int .i64 (a0.length : Int)))), (8, (vc (.int .i64 x3)))], [(7, (.lst (x4 ++ ([(a0.getD x3.toNat default).At])).length 1 (gl (csI .i64) (x4 ++ ([(a0.getD x3.toNat default).At])))))]⟩ (Tt ∧ T2 ((0 ≤ x3 ∧ x3 < (a0.length : Int)) ∧ T2 ((([(a0.getD x3.toNat default).At]).length = 1 ∧ (((.int .i64 ((a0.getD x3.toNat default).At)) : C) = (.int .i64 ((a0.getD x3.toNat default).At)) ∧ Tt) ∧ Tt) ∧ ((x4 ++ ([(a0.getD x3.toNat default).At])).length = x4.length + ([(a0.getD x3.toNat default).At]).length ∧ AppOb (x4.length) (([(a0.getD x3.toNat default).At]).length) 1 (gl (csI .i64) x4) (gl (csI .i64) ([(a0.getD x3.toNat default).At])) (gl (csI .i64) (x4 ++ ([(a0.getD x3.toNat default).At]))) ∧ (∀ i j, i < ([(a0.getD x3.toNat default).At]).length → j < 1 → scalarC (gl (csI .i64) ([(a0.getD x3.toNat default).At]) i j)) ∧ (x4.length + ([(a0.getD x3.toNat default).At]).length) * 8 ≤ 140737488355328) ∧ Tt ∧ Tt))) [.no, .no, .no, .no, .no, .no, .obj 6 ([(a0.getD x3.toNat default).At]).length (gl (csI .i64) ([(a0.getD x3.toNat default).At])), .objK 7 (x4 ++ ([(a0.getD x3.toNat default).At])).length (gl (csI .i64) (x4 ++ ([(a0.getD x3.toNat default).At])))] [0, 3, 7, 8] [7] ⟨tr, tr, tr, c6, tr, tr, ⟨rfl, ⟨⟨rfl, tr⟩, tr⟩⟩, ⟨List.length_append, gl_append, gl_scalar scI _, c7⟩, tr, tr⟩ ?_
    refine blockQ_normal ?_
    refine thenQ_normal ?_
    refine AW.rA ⟨[(0, (vc (sl 5 cs_Key a0))), (3, (.v (.one (.lst 7 (x4 ++ ([(a0.getD x3.toNat default).At])).length 1 (gl (csI .i64) (x4 ++ ([(a0.getD x3.toNat default).At]))))))), (7, (vc (.int .i64 (a0.length : Int)))), (8, (vc (.int .i64 (IntKind.i64.wrap (x3 + (1 : Int))))))], [(7, (.lst (x4 ++ ([(a0.getD x3.toNat default).At])).length 1 (gl (csI .i64) (x4 ++ ([(a0.getD x3.toNat default).At])))))]⟩ (T2 Tt) [] [0, 3, 7, 8] [7] ⟨tr, tr, tr⟩ ?_
    exact loopQ_normal (k, (IntKind.i64.wrap (x3 + (1 : Int))), (x4 ++ ([(a0.getD x3.toNat default).At]))) h (Nat.lt_succ_self k) (Sub.trans (Sub.swap 1 7 _ (by kernel_rfl) (by kernel_rfl)) (Sub.keep [0, 3, 7, 8] [1] (by kernel_rfl) (by kernel_rfl)))
  · refine AW.cond_f rfl b5 ?_
    refine AW.exit ?_
    refine thenQ_exit ?_
    refine loopQ_exit ?_
    refine blockQ_exit ?_
    refine thenQ_normal ?_
    refine AW.seq (AW.rA ⟨[(2, (.v (.one (.lst 1 x4.length 1 (gl (csI .i64) x4)))))], [(1, (.lst x4.length 1 (gl (csI .i64) x4)))]⟩ (T2 Tt) [] [2] [1] ⟨tr, tr, tr⟩ (thenQ_normal ?_))
    refine AW.ret ?_
    replace h := some_eq h
    subst h
    exact ⟨.inr rfl, retOK_of [(.one (.lst 1 x4.length 1 (gl (csI .i64) x4)))] (by kernel_rfl) ⟨rfl, tr⟩ (of_decide_eq_true (by kernel_rfl))⟩

/-! spec.l05Times -/
def spec_l05Times_l1 (K : Nat) (a0 : (List Int)) (a1 : Int) : Nat → Int → Option (Bool)
  | 0, _ => none
  | k + 1, x2 => ite2 ((decide (x2 < (a0.length : Int)))) (chk (0 ≤ x2 ∧ x2 < (a0.length : Int)) ((spec_l00In K (a0.getD x2.toNat default) (0 : Int) a1).bind fun v5 => (ite2 ((!v5)) (some true) (ite2 ((decide (x2 > (0 : Int)))) (chk (0 ≤ (IntKind.i64.wrap (x2 - (1 : Int))) ∧ (IntKind.i64.wrap (x2 - (1 : Int))) < (a0.length : Int)) (some (decide ((a0.getD ((IntKind.i64.wrap (x2 - (1 : Int))).toNat) default) ≥ (a0.getD x2.toNat default))))) (some false))).bind fun j10 => ite2 (j10) (some false) (spec_l05Times_l1 K a0 a1 k (IntKind.i64.wrap (x2 + (1 : Int)))))) ((ite2 ((decide ((a0.length : Int) ≥ (1 : Int)))) (some (decide ((a0.length : Int) ≤ (12 : Int)))) (some false)).bind fun j14 => some j14)

def spec_l05Times (K : Nat) (a0 : (List Int)) (a1 : Int) : Option (Bool) :=
  spec_l05Times_l1 K a0 a1 K (0 : Int)

theorem ok_spec_l05Times (K : Nat) (a0 : (List Int)) (a1 : Int) (o : (Bool)) (h : spec_l05Times K a0 a1 = some o) : CallOK Try.prog 134 [.one (sl 1 (csI .i64) a0), .one (.int .i64 a1)] [.one (.bool o)] := by
  refine callOK_of_AW Try.func134 rfl (by kernel_rfl) (Nat.le_of_ble_eq_true (by kernel_rfl)) ?_
  intro w0
  unfold spec_l05Times at h
  refine AW.seq (AW.rA ⟨[(0, (vc (sl 1 (csI .i64) a0))), (1, (vc (.int .i64 a1)))], []⟩ (Tt ∧ Tt) [] [0, 1] [] ⟨tr, tr⟩ (thenQ_normal ?_))
  refine AW.seq ?_
  refine AW.seq (AW.rA ⟨[(0, (vc (sl 1 (csI .i64) a0))), (1, (vc (.int .i64 a1))), (7, (vc (.int .i64 (a0.length : Int)))), (8, (vc (.int .i64 (0 : Int))))], []⟩ (Tt ∧ T2 Tt) [] [0, 1, 7, 8] [] ⟨tr, tr, tr, tr⟩ (thenQ_normal ?_))
  refine AW.block ?_
  refine AW.loopQ (σ := Nat × Int) (fun p => ⟨[(0, (vc (sl 1 (csI .i64) a0))), (1, (vc (.int .i64 a1))), (7, (vc (.int .i64 (a0.length : Int)))), (8, (vc (.int .i64 p.2)))], []⟩) (fun p => spec_l05Times_l1 K a0 a1 p.1 p.2 = some o) (fun p => p.1) (K, (0 : Int)) h ?_
  clear h
  rintro ⟨k, x2⟩ h
  replace h : spec_l05Times_l1 K a0 a1 k x2 = some o := h
  show AW _ _ (⟨[(0, (vc (sl 1 (csI .i64) a0))), (1, (vc (.int .i64 a1))), (7, (vc (.int .i64 (a0.length : Int)))), (8, (vc (.int .i64 x2)))], []⟩ : St) _
  obtain _ | k := k
  · rw [spec_l05Times_l1] at h; cases h
  rw [spec_l05Times_l1] at h
  refine AW.seq (AW.rA ⟨[(0, (vc (sl 1 (csI .i64) a0))), (1, (vc (.int .i64 a1))), (7, (vc (.int .i64 (a0.length : Int)))), (8, (vc (.int .i64 x2))), (9, (vc (.bool (decide (x2 < (a0.length : Int))))))], []⟩ (Tt ∧ Tt) [] [0, 1, 7, 8, 9] [] ⟨tr, tr⟩ (thenQ_normal ?_))
  refine AW.seq ?_
  rcases ite2_cases h with ⟨b3, h⟩ | ⟨b3, h⟩
  · refine AW.cond_t rfl b3 ?_
    refine AW.skip ?_
    refine thenQ_normal ?_
    refine AW.seq ?_
    refine AW.block ?_
    refine AW.seq (AW.rA ⟨[(0, (vc (sl 1 (csI .i64) a0))), (1, (vc (.int .i64 a1))), (5, (vc (.int .i64 x2))), (7, (vc (.int .i64 (a0.length : Int)))), (8, (vc (.int .i64 x2)))], []⟩ (T2 Tt) [] [0, 1, 5, 7, 8] [] ⟨tr, tr, tr⟩ (thenQ_normal ?_))
    refine AW.seq ?_
    obtain ⟨c4, h⟩ := chk_some h
    obtain ⟨v5, e6, h⟩ := bind_some h
    obtain ⟨j10, e11, h⟩ := bind_some h
    refine AW.join1 (s2 := ⟨[(0, (vc (sl 1 (csI .i64) a0))), (1, (vc (.int .i64 a1))), (7, (vc (.int .i64 (a0.length : Int)))), (8, (vc (.int .i64 x2))), (33, (vc (.bool j10)))], []⟩) ?_ ?_
    · rcases ite2_cases e11 with ⟨b7, e11⟩ | ⟨b7, e11⟩
      · replace e11 := some_eq e11
        subst e11
        exact AW.dA ⟨[(0, (vc (sl 1 (csI .i64) a0))), (1, (vc (.int .i64 a1))), (7, (vc (.int .i64 (a0.length : Int)))), (8, (vc (.int .i64 x2))), (33, (vc (.bool true)))], []⟩ ((T2 ((0 ≤ x2 ∧ x2 < (a0.length : Int)) ∧ T2 ((((Eqc (.int .i64 (a0.getD x2.toNat default))) ∧ (Eqc (.int .i64 (0 : Int))) ∧ (Eqc (.int .i64 a1)) ∧ Tt) ∧ CallOK Try.prog 74 [.one (.int .i64 (a0.getD x2.toNat default)), .one (.int .i64 (0 : Int)), .one (.int .i64 a1)] [.one (.bool v5)]) ∧ Tt ∧ (Tt ∧ (!v5) = true) ∧ Tt ∧ T2 (T4 (T4 (T4 Tt)))))) ∧ (Tt)) 23 [.no, .no, .no, .no, .no, .call [.one (.int .i64 (a0.getD x2.toNat default)), .one (.int .i64 (0 : Int)), .one (.int .i64 a1)] [.one (.bool v5)] [[.view]], .no, .dec true] [0, 1, 7, 8, 33] [] ⟨⟨tr, tr, c4, tr, tr, ⟨⟨rfl, rfl, rfl, tr⟩, ok_spec_l00In K (a0.getD x2.toNat default) (0 : Int) a1 v5 e6⟩, tr, ⟨tr, b7⟩, tr, tr, tr, tr, tr, tr, tr, tr, tr, tr, tr, tr, tr, tr, tr, tr⟩, tr⟩ ⟨rfl, rfl⟩
      · rcases ite2_cases e11 with ⟨b8, e11⟩ | ⟨b8, e11⟩
        · obtain ⟨c9, e11⟩ := chk_some e11
          replace e11 := some_eq e11
          subst e11
          exact AW.dA ⟨[(0, (vc (sl 1 (csI .i64) a0))), (1, (vc (.int .i64 a1))), (7, (vc (.int .i64 (a0.length : Int)))), (8, (vc (.int .i64 x2))), (33, (vc (.bool (decide ((a0.getD ((IntKind.i64.wrap (x2 - (1 : Int))).toNat) default) ≥ (a0.getD x2.toNat default))))))], []⟩ ((T2 ((0 ≤ x2 ∧ x2 < (a0.length : Int)) ∧ T2 ((((Eqc (.int .i64 (a0.getD x2.toNat default))) ∧ (Eqc (.int .i64 (0 : Int))) ∧ (Eqc (.int .i64 a1)) ∧ Tt) ∧ CallOK Try.prog 74 [.one (.int .i64 (a0.getD x2.toNat default)), .one (.int .i64 (0 : Int)), .one (.int .i64 a1)] [.one (.bool v5)]) ∧ Tt ∧ (Tt ∧ (!v5) = false) ∧ T2 ((Tt ∧ (decide (x2 > (0 : Int))) = true) ∧ Tt ∧ T2 ((0 ≤ (IntKind.i64.wrap (x2 - (1 : Int))) ∧ (IntKind.i64.wrap (x2 - (1 : Int))) < (a0.length : Int)) ∧ Tt ∧ T2 ((0 ≤ x2 ∧ x2 < (a0.length : Int)) ∧ T4 Tt)))))) ∧ (Tt)) 23 [.no, .no, .no, .no, .no, .call [.one (.int .i64 (a0.getD x2.toNat default)), .one (.int .i64 (0 : Int)), .one (.int .i64 a1)] [.one (.bool v5)] [[.view]], .no, .dec false, .no, .no, .dec true] [0, 1, 7, 8, 33] [] ⟨⟨tr, tr, c4, tr, tr, ⟨⟨rfl, rfl, rfl, tr⟩, ok_spec_l00In K (a0.getD x2.toNat default) (0 : Int) a1 v5 e6⟩, tr, ⟨tr, b7⟩, tr, tr, ⟨tr, b8⟩, tr, tr, tr, c9, tr, tr, tr, c4, tr, tr, tr, tr, tr⟩, tr⟩ ⟨rfl, rfl⟩
        · replace e11 := some_eq e11
          subst e11
          exact AW.dA ⟨[(0, (vc (sl 1 (csI .i64) a0))), (1, (vc (.int .i64 a1))), (7, (vc (.int .i64 (a0.length : Int)))), (8, (vc (.int .i64 x2))), (33, (vc (.bool false)))], []⟩ ((T2 ((0 ≤ x2 ∧ x2 < (a0.length : Int)) ∧ T2 ((((Eqc (.int .i64 (a0.getD x2.toNat default))) ∧ (Eqc (.int .i64 (0 : Int))) ∧ (Eqc (.int .i64 a1)) ∧ Tt) ∧ CallOK Try.prog 74 [.one (.int .i64 (a0.getD x2.toNat default)), .one (.int .i64 (0 : Int)), .one (.int .i64 a1)] [.one (.bool v5)]) ∧ Tt ∧ (Tt ∧ (!v5) = false) ∧ T2 ((Tt ∧ (decide (x2 > (0 : Int))) = false) ∧ T4 (T4 (T4 Tt)))))) ∧ (Tt)) 23 [.no, .no, .no, .no, .no, .call [.one (.int .i64 (a0.getD x2.toNat default)), .one (.int .i64 (0 : Int)), .one (.int .i64 a1)] [.one (.bool v5)] [[.view]], .no, .dec false, .no, .no, .dec false] [0, 1, 7, 8, 33] [] ⟨⟨tr, tr, c4, tr, tr, ⟨⟨rfl, rfl, rfl, tr⟩, ok_spec_l00In K (a0.getD x2.toNat default) (0 : Int) a1 v5 e6⟩, tr, ⟨tr, b7⟩, tr, tr, ⟨tr, b8⟩, tr, tr, tr, tr, tr, tr, tr, tr, tr, tr, tr, tr, tr⟩, tr⟩ ⟨rfl, rfl⟩
    refine thenQ_normal ?_
    rcases ite2_cases h with ⟨b12, h⟩ | ⟨b12, h⟩
    · refine AW.cond_t rfl b12 ?_
      refine AW.seq (AW.rA ⟨[(4, (vc (.bool false)))], []⟩ (Tt ∧ Tt) [] [4] [] ⟨tr, tr⟩ (thenQ_normal ?_))
      refine AW.ret ?_
      refine blockQ_ret ?_
      refine thenQ_ret ?_
      refine loopQ_ret ?_
      refine blockQ_ret ?_
      refine thenQ_ret ?_
      replace h := some_eq h
      subst h
      exact ⟨.inr rfl, retOK_of [(.one (.c (.bool false)))] (by kernel_rfl) ⟨⟨rfl, tr⟩, tr⟩ (of_decide_eq_true (by kernel_rfl))⟩
    · refine AW.cond_f rfl b12 ?_
      refine AW.skip ?_
      refine blockQ_normal ?_
      refine thenQ_normal ?_
      refine AW.rA ⟨[(0, (vc (sl 1 (csI .i64) a0))), (1, (vc (.int .i64 a1))), (7, (vc (.int .i64 (a0.length : Int)))), (8, (vc (.int .i64 (IntKind.i64.wrap (x2 + (1 : Int))))))], []⟩ (T2 Tt) [] [0, 1, 7, 8] [] ⟨tr, tr, tr⟩ ?_
      exact loopQ_normal (k, (IntKind.i64.wrap (x2 + (1 : Int)))) h (Nat.lt_succ_self k) (Sub.keep [0, 1, 7, 8] [] (by kernel_rfl) (by kernel_rfl))
  · refine AW.cond_f rfl b3 ?_
    refine AW.exit ?_
    refine thenQ_exit ?_
    refine loopQ_exit ?_
    refine blockQ_exit ?_
    refine thenQ_normal ?_
    refine AW.seq ?_
    obtain ⟨j14, e15, h⟩ := bind_some h
    refine AW.join1 (s2 := ⟨[(4, (vc (.bool j14)))], []⟩) ?_ ?_
    · rcases ite2_cases e15 with ⟨b13, e15⟩ | ⟨b13, e15⟩
      · replace e15 := some_eq e15
        subst e15
        exact AW.rA ⟨[(4, (vc (.bool (decide ((a0.length : Int) ≤ (12 : Int))))))], []⟩ (Tt ∧ T2 ((Tt ∧ (decide ((a0.length : Int) ≥ (1 : Int))) = true) ∧ Tt ∧ T4 Tt)) [.no, .no, .no, .dec true] [4] [] ⟨tr, tr, tr, ⟨tr, b13⟩, tr, tr, tr, tr, tr, tr⟩ ⟨rfl, rfl⟩
      · replace e15 := some_eq e15
        subst e15
        exact AW.rA ⟨[(4, (vc (.bool false)))], []⟩ (Tt ∧ T2 ((Tt ∧ (decide ((a0.length : Int) ≥ (1 : Int))) = false) ∧ Tt ∧ T4 Tt)) [.no, .no, .no, .dec false] [4] [] ⟨tr, tr, tr, ⟨tr, b13⟩, tr, tr, tr, tr, tr, tr⟩ ⟨rfl, rfl⟩
    refine thenQ_normal ?_
    refine AW.ret ?_
    replace h := some_eq h
    subst h
    exact ⟨.inr rfl, retOK_of [(.one (.c (.bool j14)))] (by kernel_rfl) ⟨⟨rfl, tr⟩, tr⟩ (of_decide_eq_true (by kernel_rfl))⟩

/-! spec.l05RootAt -/
def spec_l05RootAt_l1 (K : Nat) (a0 : (List RootKey)) : Nat → Int → (List Int) → Option ((List Int))
  | 0, _, _ => none
  | k + 1, x3, x4 => ite2 ((decide (x3 < (a0.length : Int)))) (chk (0 ≤ x3 ∧ x3 < (a0.length : Int)) (chk ((x4.length + ([(a0.getD x3.toNat default).At]).length) * 8 ≤ 140737488355328) (spec_l05RootAt_l1 K a0 k (IntKind.i64.wrap (x3 + (1 : Int))) (x4 ++ ([(a0.getD x3.toNat default).At]))))) (some x4)

def spec_l05RootAt (K : Nat) (a0 : (List RootKey)) : Option ((List Int)) :=
  spec_l05RootAt_l1 K a0 K (0 : Int) ([] : List Int)

theorem ok_spec_l05RootAt (K : Nat) (a0 : (List RootKey)) (o : ((List Int))) (h : spec_l05RootAt K a0 = some o) : CallOK Try.prog 136 [.one (sl 4 cs_RootKey a0)] [.one (sl 1 (csI .i64) o)] := by
  refine callOK_of_AW Try.func136 rfl (by kernel_rfl) (Nat.le_of_ble_eq_true (by kernel_rfl)) ?_
  intro w0
  unfold spec_l05RootAt at h
  refine AW.seq (AW.rA ⟨[(0, (vc (sl 4 cs_RootKey a0)))], []⟩ (Tt ∧ Tt) [] [0] [] ⟨tr, tr⟩ (thenQ_normal ?_))
  refine AW.seq (AW.rA ⟨[(0, (vc (sl 4 cs_RootKey a0))), (3, (.v (.one (.lst 1 ([] : List Int).length 1 (gl (csI .i64) ([] : List Int))))))], [(1, (.lst ([] : List Int).length 1 (gl (csI .i64) ([] : List Int))))]⟩ ((([] : List Int).length = 0 ∧ Tt) ∧ Tt ∧ Tt) [.obj 1 ([] : List Int).length (gl (csI .i64) ([] : List Int))] [0, 3] [1] ⟨⟨rfl, tr⟩, tr, tr⟩ (thenQ_normal ?_))
  refine AW.seq ?_
  refine AW.seq (AW.rA ⟨[(0, (vc (sl 4 cs_RootKey a0))), (3, (.v (.one (.lst 1 ([] : List Int).length 1 (gl (csI .i64) ([] : List Int)))))), (7, (vc (.int .i64 (a0.length : Int)))), (8, (vc (.int .i64 (0 : Int))))], [(1, (.lst ([] : List Int).length 1 (gl (csI .i64) ([] : List Int))))]⟩ (Tt ∧ T2 Tt) [] [0, 3, 7, 8] [1] ⟨tr, tr, tr, tr⟩ (thenQ_normal ?_))
  refine AW.block ?_
  refine AW.loopQ (σ := Nat × Int × (List Int)) (fun p => ⟨[(0, (vc (sl 4 cs_RootKey a0))), (3, (.v (.one (.lst 1 p.2.2.length 1 (gl (csI .i64) p.2.2))))), (7, (vc (.int .i64 (a0.length : Int)))), (8, (vc (.int .i64 p.2.1)))], [(1, (.lst p.2.2.length 1 (gl (csI .i64) p.2.2)))]⟩) (fun p => spec_l05RootAt_l1 K a0 p.1 p.2.1 p.2.2 = some o) (fun p => p.1) (K, (0 : Int), ([] : List Int)) h ?_
  clear h
  rintro ⟨k, x3, x4⟩ h
  replace h : spec_l05RootAt_l1 K a0 k x3 x4 = some o := h
  show AW _ _ (⟨[(0, (vc (sl 4 cs_RootKey a0))), (3, (.v (.one (.lst 1 x4.length 1 (gl (csI .i64) x4))))), (7, (vc (.int .i64 (a0.length : Int)))), (8, (vc (.int .i64 x3)))], [(1, (.lst x4.length 1 (gl (csI .i64) x4)))]⟩ : St) _
  obtain _ | k := k
  · rw [spec_l05RootAt_l1] at h; cases h
  rw [spec_l05RootAt_l1] at h
  refine AW.seq (AW.rA ⟨[(0, (vc (sl 4 cs_RootKey a0))), (3, (.v (.one (.lst 1 x4.length 1 (gl (csI .i64) x4))))), (7, (vc (.int .i64 (a0.length : Int)))), (8, (vc (.int .i64 x3))), (9, (vc (.bool (decide (x3 < (a0.length : Int))))))], [(1, (.lst x4.length 1 (gl (csI .i64) x4)))]⟩ (Tt ∧ Tt) [] [0, 3, 7, 8, 9] [1] ⟨tr, tr⟩ (thenQ_normal ?_))
  refine AW.seq ?_
  rcases ite2_cases h with ⟨b5, h⟩ | ⟨b5, h⟩
  · refine AW.cond_t rfl b5 ?_
    refine AW.skip ?_
    refine thenQ_normal ?_
    refine AW.seq ?_
    refine AW.block ?_
    refine AW.seq (AW.rA ⟨[(0, (vc (sl 4 cs_RootKey a0))), (3, (.v (.one (.lst 1 x4.length 1 (gl (csI .i64) x4))))), (4, (vc (.int .i64 x3))), (7, (vc (.int .i64 (a0.length : Int)))), (8, (vc (.int .i64 x3)))], [(1, (.lst x4.length 1 (gl (csI .i64) x4)))]⟩ (T2 Tt) [] [0, 3, 4, 7, 8] [1] ⟨tr, tr, tr⟩ (thenQ_normal ?_))
    obtain ⟨c6, h⟩ := chk_some h
    obtain ⟨c7, h⟩ := chk_some h
    refine AW.rA ⟨[(0, (vc (sl 4 cs_RootKey a0))), (3, (.v (.one (.lst 7 (x4 ++ ([(a0.getD x3.toNat default).At])).length 1 (gl (csI .i64) (x4 ++ ([(a0.getD x3.toNat default).At]))))))), (7, (vc (.int .i64 (a0.length : Int)))), (8, (vc (.int .i64 x3)))], [(7, (.lst (x4 ++ ([(a0.getD x3.toNat default).At])).length 1 (gl (csI .i64) (x4 ++ ([(a0.getD x3.toNat default).At])))))]⟩ (Tt ∧ T2 ((0 ≤ x3 ∧ x3 < (a0.length : Int)) ∧ T2 ((([(a0.getD x3.toNat default).At]).length = 1 ∧ (((.int .i64 ((a0.getD x3.toNat default).At)) : C) = (.int .i64 ((a0.getD x3.toNat default).At)) ∧ Tt) ∧ Tt) ∧ ((x4 ++ ([(a0.getD x3.toNat default).At])).length = x4.length + ([(a0.getD x3.toNat default).At]).length ∧ AppOb (x4.length) (([(a0.getD x3.toNat default).At]).length) 1 (gl (csI .i64) x4) (gl (csI .i64) ([(a0.getD x3.toNat default).At])) (gl (csI .i64) (x4 ++ ([(a0.getD x3.toNat default).At]))) ∧ (∀ i j, i < ([(a0.getD x3.toNat default).At]).length → j < 1 → scalarC (gl (csI .i64) ([(a0.getD x3.toNat default).At]) i j)) ∧ (x4.length + ([(a0.getD x3.toNat default).At]).length) * 8 ≤ 140737488355328) ∧ Tt ∧ Tt))) [.no, .no, .no, .no, .no, .no, .obj 6 ([(a0.getD x3.toNat default).At]).length (gl (csI .i64) ([(a0.getD x3.toNat default).At])), .objK 7 (x4 ++ ([(a0.getD x3.toNat default).At])).length (gl (csI .i64) (x4 ++ ([(a0.getD x3.toNat default).At])))] [0, 3, 7, 8] [7] ⟨tr, tr, tr, c6, tr, tr, ⟨rfl, ⟨⟨rfl, tr⟩, tr⟩⟩, ⟨List.length_append, gl_append, gl_scalar scI _, c7⟩, tr, tr⟩ ?_
    refine blockQ_normal ?_
    refine thenQ_normal ?_
    refine AW.rA ⟨[(0, (vc (sl 4 cs_RootKey a0))), (3, (.v (.one (.lst 7 (x4 ++ ([(a0.getD x3.toNat default).At])).length 1 (gl (csI .i64) (x4 ++ ([(a0.getD x3.toNat default).At]))))))), (7, (vc (.int .i64 (a0.length : Int)))), (8, (vc (.int .i64 (IntKind.i64.wrap (x3 + (1 : Int))))))], [(7, (.lst (x4 ++ ([(a0.getD x3.toNat default).At])).length 1 (gl (csI .i64) (x4 ++ ([(a0.getD x3.toNat default).At])))))]⟩ (T2 Tt) [] [0, 3, 7, 8] [7] ⟨tr, tr, tr⟩ ?_
    exact loopQ_normal (k, (IntKind.i64.wrap (x3 + (1 : Int))), (x4 ++ ([(a0.getD x3.toNat default).At]))) h (Nat.lt_succ_self k) (Sub.trans (Sub.swap 1 7 _ (by kernel_rfl) (by kernel_rfl)) (Sub.keep [0, 3, 7, 8] [1] (by kernel_rfl) (by kernel_rfl)))
  · refine AW.cond_f rfl b5 ?_
    refine AW.exit ?_
    refine thenQ_exit ?_
    refine loopQ_exit ?_
    refine blockQ_exit ?_
    refine thenQ_normal ?_
    refine AW.seq (AW.rA ⟨[(2, (.v (.one (.lst 1 x4.length 1 (gl (csI .i64) x4)))))], [(1, (.lst x4.length 1 (gl (csI .i64) x4)))]⟩ (T2 Tt) [] [2] [1] ⟨tr, tr, tr⟩ (thenQ_normal ?_))
    refine AW.ret ?_
    replace h := some_eq h
    subst h
    exact ⟨.inr rfl, retOK_of [(.one (.lst 1 x4.length 1 (gl (csI .i64) x4)))] (by kernel_rfl) ⟨rfl, tr⟩ (of_decide_eq_true (by kernel_rfl))⟩

/-! spec.l05Is -/
def spec_l05Is_l1 (K : Nat) (a0 : Clip) : Nat → Int → Option (Bool)
  | 0, _ => none
  | k + 1, x12 => ite2 ((decide (x12 < (a0.Tracks.length : Int)))) (chk (0 ≤ x12 ∧ x12 < (a0.Tracks.length : Int)) ((spec_l05At K (a0.Tracks.getD x12.toNat default)).bind fun v15 => (spec_l05Times K v15 a0.Length).bind fun v17 => ite2 ((!v17)) (some false) (spec_l05Is_l1 K a0 k (IntKind.i64.wrap (x12 + (1 : Int)))))) ((spec_l05RootAt K a0.Roots).bind fun v20 => (spec_l05Times K v20 a0.Length).bind fun v22 => some v22)

def spec_l05Is (K : Nat) (a0 : Clip) : Option (Bool) :=
  (spec_l00In K a0.Length (1 : Int) (1000 : Int)).bind fun v1 => (ite2 ((!v1)) (some true) ((spec_l00In K a0.Kind (0 : Int) (2 : Int)).bind fun v4 => ite2 ((!v4)) (some true) (ite2 ((decide ((a0.Tracks.length : Int) < (1 : Int)))) (some true) (some (decide ((a0.Tracks.length : Int) > (12 : Int))))))).bind fun j8 => ite2 (j8) (some false) (spec_l05Is_l1 K a0 K (0 : Int))

theorem ok_spec_l05Is (K : Nat) (a0 : Clip) (o : (Bool)) (h : spec_l05Is K a0 = some o) : CallOK Try.prog 60 [.one (pl 4 cs_Clip a0)] [.one (.bool o)] := by
  refine callOK_of_AW Try.func60 rfl (by kernel_rfl) (Nat.le_of_ble_eq_true (by kernel_rfl)) ?_
  intro w0
  unfold spec_l05Is at h
  refine AW.seq (AW.rA ⟨[(0, (vc (pl 4 cs_Clip a0)))], []⟩ (Tt ∧ Tt) [] [0] [] ⟨tr, tr⟩ (thenQ_normal ?_))
  refine AW.seq ?_
  refine AW.seq ?_
  obtain ⟨v1, e2, h⟩ := bind_some h
  obtain ⟨j8, e9, h⟩ := bind_some h
  refine AW.join1 (s2 := ⟨[(0, (vc (pl 4 cs_Clip a0))), (33, (vc (.bool j8)))], []⟩) ?_ ?_
  · rcases ite2_cases e9 with ⟨b3, e9⟩ | ⟨b3, e9⟩
    · replace e9 := some_eq e9
      subst e9
      exact AW.rA ⟨[(0, (vc (pl 4 cs_Clip a0))), (33, (vc (.bool true)))], []⟩ (T4 ((((Eqc (.int .i64 a0.Length)) ∧ (Eqc (.int .i64 (1 : Int))) ∧ (Eqc (.int .i64 (1000 : Int))) ∧ Tt) ∧ CallOK Try.prog 74 [.one (.int .i64 a0.Length), .one (.int .i64 (1 : Int)), .one (.int .i64 (1000 : Int))] [.one (.bool v1)]) ∧ Tt ∧ (Tt ∧ (!v1) = true) ∧ Tt ∧ T2 (T4 (T4 (T4 (T4 (T4 Tt))))))) [.no, .no, .no, .no, .call [.one (.int .i64 a0.Length), .one (.int .i64 (1 : Int)), .one (.int .i64 (1000 : Int))] [.one (.bool v1)] [[.view]], .no, .dec true] [0, 33] [] ⟨tr, tr, tr, tr, ⟨⟨rfl, rfl, rfl, tr⟩, ok_spec_l00In K a0.Length (1 : Int) (1000 : Int) v1 e2⟩, tr, ⟨tr, b3⟩, tr, tr, tr, tr, tr, tr, tr, tr, tr, tr, tr, tr, tr, tr, tr, tr, tr, tr, tr, tr, tr, tr, tr, tr⟩ ⟨rfl, rfl⟩
    · obtain ⟨v4, e5, e9⟩ := bind_some e9
      rcases ite2_cases e9 with ⟨b6, e9⟩ | ⟨b6, e9⟩
      · replace e9 := some_eq e9
        subst e9
        exact AW.rA ⟨[(0, (vc (pl 4 cs_Clip a0))), (33, (vc (.bool true)))], []⟩ (T4 ((((Eqc (.int .i64 a0.Length)) ∧ (Eqc (.int .i64 (1 : Int))) ∧ (Eqc (.int .i64 (1000 : Int))) ∧ Tt) ∧ CallOK Try.prog 74 [.one (.int .i64 a0.Length), .one (.int .i64 (1 : Int)), .one (.int .i64 (1000 : Int))] [.one (.bool v1)]) ∧ Tt ∧ (Tt ∧ (!v1) = false) ∧ T4 ((((Eqc (.int .i64 a0.Kind)) ∧ (Eqc (.int .i64 (0 : Int))) ∧ (Eqc (.int .i64 (2 : Int))) ∧ Tt) ∧ CallOK Try.prog 74 [.one (.int .i64 a0.Kind), .one (.int .i64 (0 : Int)), .one (.int .i64 (2 : Int))] [.one (.bool v4)]) ∧ T2 ((Tt ∧ (!v4) = true) ∧ Tt ∧ T2 (T4 (T4 (T4 Tt))))))) [.no, .no, .no, .no, .call [.one (.int .i64 a0.Length), .one (.int .i64 (1 : Int)), .one (.int .i64 (1000 : Int))] [.one (.bool v1)] [[.view]], .no, .dec false, .no, .no, .no, .no, .call [.one (.int .i64 a0.Kind), .one (.int .i64 (0 : Int)), .one (.int .i64 (2 : Int))] [.one (.bool v4)] [[.view]], .no, .no, .dec true] [0, 33] [] ⟨tr, tr, tr, tr, ⟨⟨rfl, rfl, rfl, tr⟩, ok_spec_l00In K a0.Length (1 : Int) (1000 : Int) v1 e2⟩, tr, ⟨tr, b3⟩, tr, tr, tr, tr, ⟨⟨rfl, rfl, rfl, tr⟩, ok_spec_l00In K a0.Kind (0 : Int) (2 : Int) v4 e5⟩, tr, tr, ⟨tr, b6⟩, tr, tr, tr, tr, tr, tr, tr, tr, tr, tr, tr, tr, tr, tr, tr, tr⟩ ⟨rfl, rfl⟩
      · rcases ite2_cases e9 with ⟨b7, e9⟩ | ⟨b7, e9⟩
        · replace e9 := some_eq e9
          subst e9
          exact AW.rA ⟨[(0, (vc (pl 4 cs_Clip a0))), (33, (vc (.bool true)))], []⟩ (T4 ((((Eqc (.int .i64 a0.Length)) ∧ (Eqc (.int .i64 (1 : Int))) ∧ (Eqc (.int .i64 (1000 : Int))) ∧ Tt) ∧ CallOK Try.prog 74 [.one (.int .i64 a0.Length), .one (.int .i64 (1 : Int)), .one (.int .i64 (1000 : Int))] [.one (.bool v1)]) ∧ Tt ∧ (Tt ∧ (!v1) = false) ∧ T4 ((((Eqc (.int .i64 a0.Kind)) ∧ (Eqc (.int .i64 (0 : Int))) ∧ (Eqc (.int .i64 (2 : Int))) ∧ Tt) ∧ CallOK Try.prog 74 [.one (.int .i64 a0.Kind), .one (.int .i64 (0 : Int)), .one (.int .i64 (2 : Int))] [.one (.bool v4)]) ∧ T2 ((Tt ∧ (!v4) = false) ∧ Tt ∧ T2 (T4 ((Tt ∧ (decide ((a0.Tracks.length : Int) < (1 : Int))) = true) ∧ Tt ∧ T2 (T4 Tt))))))) [.no, .no, .no, .no, .call [.one (.int .i64 a0.Length), .one (.int .i64 (1 : Int)), .one (.int .i64 (1000 : Int))] [.one (.bool v1)] [[.view]], .no, .dec false, .no, .no, .no, .no, .call [.one (.int .i64 a0.Kind), .one (.int .i64 (0 : Int)), .one (.int .i64 (2 : Int))] [.one (.bool v4)] [[.view]], .no, .no, .dec false, .no, .no, .no, .no, .no, .no, .no, .dec true] [0, 33] [] ⟨tr, tr, tr, tr, ⟨⟨rfl, rfl, rfl, tr⟩, ok_spec_l00In K a0.Length (1 : Int) (1000 : Int) v1 e2⟩, tr, ⟨tr, b3⟩, tr, tr, tr, tr, ⟨⟨rfl, rfl, rfl, tr⟩, ok_spec_l00In K a0.Kind (0 : Int) (2 : Int) v4 e5⟩, tr, tr, ⟨tr, b6⟩, tr, tr, tr, tr, tr, tr, tr, ⟨tr, b7⟩, tr, tr, tr, tr, tr, tr, tr, tr⟩ ⟨rfl, rfl⟩
        · replace e9 := some_eq e9
          subst e9
          exact AW.rA ⟨[(0, (vc (pl 4 cs_Clip a0))), (33, (vc (.bool (decide ((a0.Tracks.length : Int) > (12 : Int))))))], []⟩ (T4 ((((Eqc (.int .i64 a0.Length)) ∧ (Eqc (.int .i64 (1 : Int))) ∧ (Eqc (.int .i64 (1000 : Int))) ∧ Tt) ∧ CallOK Try.prog 74 [.one (.int .i64 a0.Length), .one (.int .i64 (1 : Int)), .one (.int .i64 (1000 : Int))] [.one (.bool v1)]) ∧ Tt ∧ (Tt ∧ (!v1) = false) ∧ T4 ((((Eqc (.int .i64 a0.Kind)) ∧ (Eqc (.int .i64 (0 : Int))) ∧ (Eqc (.int .i64 (2 : Int))) ∧ Tt) ∧ CallOK Try.prog 74 [.one (.int .i64 a0.Kind), .one (.int .i64 (0 : Int)), .one (.int .i64 (2 : Int))] [.one (.bool v4)]) ∧ T2 ((Tt ∧ (!v4) = false) ∧ Tt ∧ T2 (T4 ((Tt ∧ (decide ((a0.Tracks.length : Int) < (1 : Int))) = false) ∧ Tt ∧ T2 (T4 Tt))))))) [.no, .no, .no, .no, .call [.one (.int .i64 a0.Length), .one (.int .i64 (1 : Int)), .one (.int .i64 (1000 : Int))] [.one (.bool v1)] [[.view]], .no, .dec false, .no, .no, .no, .no, .call [.one (.int .i64 a0.Kind), .one (.int .i64 (0 : Int)), .one (.int .i64 (2 : Int))] [.one (.bool v4)] [[.view]], .no, .no, .dec false, .no, .no, .no, .no, .no, .no, .no, .dec false] [0, 33] [] ⟨tr, tr, tr, tr, ⟨⟨rfl, rfl, rfl, tr⟩, ok_spec_l00In K a0.Length (1 : Int) (1000 : Int) v1 e2⟩, tr, ⟨tr, b3⟩, tr, tr, tr, tr, ⟨⟨rfl, rfl, rfl, tr⟩, ok_spec_l00In K a0.Kind (0 : Int) (2 : Int) v4 e5⟩, tr, tr, ⟨tr, b6⟩, tr, tr, tr, tr, tr, tr, tr, ⟨tr, b7⟩, tr, tr, tr, tr, tr, tr, tr, tr⟩ ⟨rfl, rfl⟩
  refine thenQ_normal ?_
  rcases ite2_cases h with ⟨b10, h⟩ | ⟨b10, h⟩
  · refine AW.cond_t rfl b10 ?_
    refine AW.seq (AW.rA ⟨[(2, (vc (.bool false)))], []⟩ (Tt ∧ Tt) [] [2] [] ⟨tr, tr⟩ (thenQ_normal ?_))
    refine AW.ret ?_
    refine thenQ_ret ?_
    replace h := some_eq h
    subst h
    exact ⟨.inr rfl, retOK_of [(.one (.c (.bool false)))] (by kernel_rfl) ⟨⟨rfl, tr⟩, tr⟩ (of_decide_eq_true (by kernel_rfl))⟩
  · refine AW.cond_f rfl b10 ?_
    refine AW.skip ?_
    refine thenQ_normal ?_
    refine AW.seq ?_
    refine AW.seq (AW.rA ⟨[(0, (vc (pl 4 cs_Clip a0))), (38, (vc (.int .i64 (a0.Tracks.length : Int)))), (39, (vc (.int .i64 (0 : Int))))], []⟩ (T2 (T4 Tt)) [] [0, 38, 39] [] ⟨tr, tr, tr, tr, tr, tr, tr⟩ (thenQ_normal ?_))
    refine AW.block ?_
    refine AW.loopQ (σ := Nat × Int) (fun p => ⟨[(0, (vc (pl 4 cs_Clip a0))), (38, (vc (.int .i64 (a0.Tracks.length : Int)))), (39, (vc (.int .i64 p.2)))], []⟩) (fun p => spec_l05Is_l1 K a0 p.1 p.2 = some o) (fun p => p.1) (K, (0 : Int)) h ?_
    clear h
    rintro ⟨k, x12⟩ h
    replace h : spec_l05Is_l1 K a0 k x12 = some o := h
    show AW _ _ (⟨[(0, (vc (pl 4 cs_Clip a0))), (38, (vc (.int .i64 (a0.Tracks.length : Int)))), (39, (vc (.int .i64 x12)))], []⟩ : St) _
    obtain _ | k := k
    · rw [spec_l05Is_l1] at h; cases h
    rw [spec_l05Is_l1] at h
    refine AW.seq (AW.rA ⟨[(0, (vc (pl 4 cs_Clip a0))), (38, (vc (.int .i64 (a0.Tracks.length : Int)))), (39, (vc (.int .i64 x12))), (40, (vc (.bool (decide (x12 < (a0.Tracks.length : Int))))))], []⟩ (Tt ∧ Tt) [] [0, 38, 39, 40] [] ⟨tr, tr⟩ (thenQ_normal ?_))
    refine AW.seq ?_
    rcases ite2_cases h with ⟨b13, h⟩ | ⟨b13, h⟩
    · refine AW.cond_t rfl b13 ?_
      refine AW.skip ?_
      refine thenQ_normal ?_
      refine AW.seq ?_
      refine AW.block ?_
      refine AW.seq (AW.rA ⟨[(0, (vc (pl 4 cs_Clip a0))), (3, (vc (.int .i64 x12))), (38, (vc (.int .i64 (a0.Tracks.length : Int)))), (39, (vc (.int .i64 x12)))], []⟩ (T2 Tt) [] [0, 3, 38, 39] [] ⟨tr, tr, tr⟩ (thenQ_normal ?_))
      refine AW.seq ?_
      obtain ⟨c14, h⟩ := chk_some h
      obtain ⟨v15, e16, h⟩ := bind_some h
      obtain ⟨v17, e18, h⟩ := bind_some h
      refine AW.dA ⟨[(0, (vc (pl 4 cs_Clip a0))), (38, (vc (.int .i64 (a0.Tracks.length : Int)))), (39, (vc (.int .i64 x12))), (55, (vc (.bool (!v17))))], []⟩ ((Tt ∧ T4 ((0 ≤ x12 ∧ x12 < (a0.Tracks.length : Int)) ∧ Tt ∧ (((Eqc (sl 5 cs_Key (a0.Tracks.getD x12.toNat default))) ∧ Tt) ∧ CallOK Try.prog 135 [.one (sl 5 cs_Key (a0.Tracks.getD x12.toNat default))] [.one (sl 1 (csI .i64) v15)]) ∧ T4 ((((Eqc (sl 1 (csI .i64) v15)) ∧ (Eqc (.int .i64 a0.Length)) ∧ Tt) ∧ CallOK Try.prog 134 [.one (sl 1 (csI .i64) v15), .one (.int .i64 a0.Length)] [.one (.bool v17)]) ∧ Tt ∧ Tt))) ∧ (Tt)) 14 [.no, .no, .no, .no, .no, .no, .no, .call [.one (sl 5 cs_Key (a0.Tracks.getD x12.toNat default))] [.one (sl 1 (csI .i64) v15)] [[.lst 3]], .no, .no, .no, .no, .call [.one (sl 1 (csI .i64) v15), .one (.int .i64 a0.Length)] [.one (.bool v17)] [[.view]]] [0, 38, 39, 55] [] ⟨⟨tr, tr, tr, tr, tr, c14, tr, ⟨⟨rfl, tr⟩, ok_spec_l05At K (a0.Tracks.getD x12.toNat default) v15 e16⟩, tr, tr, tr, tr, ⟨⟨rfl, rfl, tr⟩, ok_spec_l05Times K v15 a0.Length v17 e18⟩, tr, tr⟩, tr⟩ ?_
      refine thenQ_normal ?_
      rcases ite2_cases h with ⟨b19, h⟩ | ⟨b19, h⟩
      · refine AW.cond_t rfl b19 ?_
        refine AW.seq (AW.rA ⟨[(2, (vc (.bool false)))], []⟩ (Tt ∧ Tt) [] [2] [] ⟨tr, tr⟩ (thenQ_normal ?_))
        refine AW.ret ?_
        refine blockQ_ret ?_
        refine thenQ_ret ?_
        refine loopQ_ret ?_
        refine blockQ_ret ?_
        refine thenQ_ret ?_
        replace h := some_eq h
        subst h
        exact ⟨.inr rfl, retOK_of [(.one (.c (.bool false)))] (by kernel_rfl) ⟨⟨rfl, tr⟩, tr⟩ (of_decide_eq_true (by kernel_rfl))⟩
      · refine AW.cond_f rfl b19 ?_
        refine AW.skip ?_
        refine blockQ_normal ?_
        refine thenQ_normal ?_
        refine AW.rA ⟨[(0, (vc (pl 4 cs_Clip a0))), (38, (vc (.int .i64 (a0.Tracks.length : Int)))), (39, (vc (.int .i64 (IntKind.i64.wrap (x12 + (1 : Int))))))], []⟩ (T2 Tt) [] [0, 38, 39] [] ⟨tr, tr, tr⟩ ?_
        exact loopQ_normal (k, (IntKind.i64.wrap (x12 + (1 : Int)))) h (Nat.lt_succ_self k) (Sub.keep [0, 38, 39] [] (by kernel_rfl) (by kernel_rfl))
    · refine AW.cond_f rfl b13 ?_
      refine AW.exit ?_
      refine thenQ_exit ?_
      refine loopQ_exit ?_
      refine blockQ_exit ?_
      refine thenQ_normal ?_
      refine AW.seq ?_
      obtain ⟨v20, e21, h⟩ := bind_some h
      obtain ⟨v22, e23, h⟩ := bind_some h
      refine AW.dA ⟨[(2, (vc (.bool v22)))], []⟩ ((T4 ((((Eqc (sl 4 cs_RootKey a0.Roots)) ∧ Tt) ∧ CallOK Try.prog 136 [.one (sl 4 cs_RootKey a0.Roots)] [.one (sl 1 (csI .i64) v20)]) ∧ T4 ((((Eqc (sl 1 (csI .i64) v20)) ∧ (Eqc (.int .i64 a0.Length)) ∧ Tt) ∧ CallOK Try.prog 134 [.one (sl 1 (csI .i64) v20), .one (.int .i64 a0.Length)] [.one (.bool v22)]) ∧ Tt ∧ Tt))) ∧ (Tt)) 11 [.no, .no, .no, .no, .call [.one (sl 4 cs_RootKey a0.Roots)] [.one (sl 1 (csI .i64) v20)] [[.lst 4]], .no, .no, .no, .no, .call [.one (sl 1 (csI .i64) v20), .one (.int .i64 a0.Length)] [.one (.bool v22)] [[.view]]] [2] [] ⟨⟨tr, tr, tr, tr, ⟨⟨rfl, tr⟩, ok_spec_l05RootAt K a0.Roots v20 e21⟩, tr, tr, tr, tr, ⟨⟨rfl, rfl, tr⟩, ok_spec_l05Times K v20 a0.Length v22 e23⟩, tr, tr⟩, tr⟩ ?_
      refine thenQ_normal ?_
      refine AW.ret ?_
      replace h := some_eq h
      subst h
      exact ⟨.inr rfl, retOK_of [(.one (.c (.bool v22)))] (by kernel_rfl) ⟨⟨rfl, tr⟩, tr⟩ (of_decide_eq_true (by kernel_rfl))⟩

/-! spec.JoinClips -/
def spec_JoinClips_l8 (K : Nat) (a0 : Clip) (a1 : Clip) (x13 : Int) : Nat → Int → (List Key) → Option ((List Key))
  | 0, _, _ => none
  | k + 1, x39, x40 => ite2 ((decide (x39 < ((a1.Tracks.getD x13.toNat default).length : Int)))) (chk (0 ≤ x13 ∧ x13 < (a1.Tracks.length : Int)) (chk (0 ≤ x39 ∧ x39 < ((a1.Tracks.getD x13.toNat default).length : Int)) (chk ((x40.length + ([(Key.mk (IntKind.i64.wrap ((((a1.Tracks.getD x13.toNat default).getD x39.toNat default).At) + a0.Length)) (((a1.Tracks.getD x13.toNat default).getD x39.toNat default).Turn))]).length) * 24 ≤ 140737488355328) (spec_JoinClips_l8 K a0 a1 x13 k (IntKind.i64.wrap (x39 + (1 : Int))) (x40 ++ ([(Key.mk (IntKind.i64.wrap ((((a1.Tracks.getD x13.toNat default).getD x39.toNat default).At) + a0.Length)) (((a1.Tracks.getD x13.toNat default).getD x39.toNat default).Turn))])))))) (some x40)

def spec_JoinClips_l9 (K : Nat) (a0 : Clip) (a1 : Clip) (x13 : Int) : Nat → Int → (List Key) → Option ((List Key))
  | 0, _, _ => none
  | k + 1, x59, x60 => ite2 ((decide (x59 < ((a1.Tracks.getD x13.toNat default).length : Int)))) (chk (0 ≤ x13 ∧ x13 < (a1.Tracks.length : Int)) (chk (0 ≤ x59 ∧ x59 < ((a1.Tracks.getD x13.toNat default).length : Int)) (chk ((x60.length + ([(Key.mk (IntKind.i64.wrap ((((a1.Tracks.getD x13.toNat default).getD x59.toNat default).At) + a0.Length)) (((a1.Tracks.getD x13.toNat default).getD x59.toNat default).Turn))]).length) * 24 ≤ 140737488355328) (spec_JoinClips_l9 K a0 a1 x13 k (IntKind.i64.wrap (x59 + (1 : Int))) (x60 ++ ([(Key.mk (IntKind.i64.wrap ((((a1.Tracks.getD x13.toNat default).getD x59.toNat default).At) + a0.Length)) (((a1.Tracks.getD x13.toNat default).getD x59.toNat default).Turn))])))))) (some x60)

def spec_JoinClips_l10 (K : Nat) (a0 : Clip) (a1 : Clip) (x14 : (List (List Key))) : Nat → Int → (List RootKey) → Option (Clip × Bool)
  | 0, _, _ => none
  | k + 1, x76, x77 => ite2 ((decide (x76 < (a1.Roots.length : Int)))) (chk (0 ≤ x76 ∧ x76 < (a1.Roots.length : Int)) (chk ((x77.length + ([(RootKey.mk (IntKind.i64.wrap (((a1.Roots.getD x76.toNat default).At) + a0.Length)) ((a1.Roots.getD x76.toNat default).Place))]).length) * 24 ≤ 140737488355328) (spec_JoinClips_l10 K a0 a1 x14 k (IntKind.i64.wrap (x76 + (1 : Int))) (x77 ++ ([(RootKey.mk (IntKind.i64.wrap (((a1.Roots.getD x76.toNat default).At) + a0.Length)) ((a1.Roots.getD x76.toNat default).Place))]))))) ((spec_l05Is K (Clip.mk (IntKind.i64.wrap (a0.Length + a1.Length)) a0.Kind x14 x77)).bind fun v81 => ite2 ((!v81)) (some ((Clip.mk (0 : Int) (0 : Int) ([] : (List (List Key))) ([] : (List RootKey))), false)) (some ((Clip.mk (IntKind.i64.wrap (a0.Length + a1.Length)) a0.Kind x14 x77), true)))

def spec_JoinClips_l11 (K : Nat) (a0 : Clip) (a1 : Clip) (x14 : (List (List Key))) : Nat → Int → (List RootKey) → Option (Clip × Bool)
  | 0, _, _ => none
  | k + 1, x86, x87 => ite2 ((decide (x86 < (a1.Roots.length : Int)))) (chk (0 ≤ x86 ∧ x86 < (a1.Roots.length : Int)) (chk ((x87.length + ([(RootKey.mk (IntKind.i64.wrap (((a1.Roots.getD x86.toNat default).At) + a0.Length)) ((a1.Roots.getD x86.toNat default).Place))]).length) * 24 ≤ 140737488355328) (spec_JoinClips_l11 K a0 a1 x14 k (IntKind.i64.wrap (x86 + (1 : Int))) (x87 ++ ([(RootKey.mk (IntKind.i64.wrap (((a1.Roots.getD x86.toNat default).At) + a0.Length)) ((a1.Roots.getD x86.toNat default).Place))]))))) ((spec_l05Is K (Clip.mk (IntKind.i64.wrap (a0.Length + a1.Length)) a0.Kind x14 x87)).bind fun v91 => ite2 ((!v91)) (some ((Clip.mk (0 : Int) (0 : Int) ([] : (List (List Key))) ([] : (List RootKey))), false)) (some ((Clip.mk (IntKind.i64.wrap (a0.Length + a1.Length)) a0.Kind x14 x87), true)))

def spec_JoinClips_l7 (K : Nat) (a0 : Clip) (a1 : Clip) : Nat → Int → (List (List Key)) → Option (Clip × Bool)
  | 0, _, _ => none
  | k + 1, x13, x14 => ite2 ((decide (x13 < (a0.Tracks.length : Int)))) (chk (0 ≤ x13 ∧ x13 < (a0.Tracks.length : Int)) (chk ((([] : List Key).length + (a0.Tracks.getD x13.toNat default).length) * 24 ≤ 140737488355328) (chk (0 ≤ (IntKind.i64.wrap (((([] : List Key) ++ (a0.Tracks.getD x13.toNat default)).length : Int) - (1 : Int))) ∧ (IntKind.i64.wrap (((([] : List Key) ++ (a0.Tracks.getD x13.toNat default)).length : Int) - (1 : Int))) < ((([] : List Key) ++ (a0.Tracks.getD x13.toNat default)).length : Int)) ((ite2 (((((([] : List Key) ++ (a0.Tracks.getD x13.toNat default)).getD ((IntKind.i64.wrap (((([] : List Key) ++ (a0.Tracks.getD x13.toNat default)).length : Int) - (1 : Int))).toNat) default).At) == a0.Length)) (chk (0 ≤ x13 ∧ x13 < (a1.Tracks.length : Int)) (chk (0 ≤ (0 : Int) ∧ (0 : Int) < ((a1.Tracks.getD x13.toNat default).length : Int)) (some ((((a1.Tracks.getD x13.toNat default).getD ((0 : Int).toNat) default).At) == (0 : Int))))) (some false)).bind fun j22 => ite2 (j22) (chk (0 ≤ (IntKind.i64.wrap (((([] : List Key) ++ (a0.Tracks.getD x13.toNat default)).length : Int) - (1 : Int))) ∧ (IntKind.i64.wrap (((([] : List Key) ++ (a0.Tracks.getD x13.toNat default)).length : Int) - (1 : Int))) ≤ ((([] : List Key) ++ (a0.Tracks.getD x13.toNat default)).length : Int)) (chk (0 ≤ x13 ∧ x13 < (a1.Tracks.length : Int)) ((spec_JoinClips_l8 K a0 a1 x13 K (0 : Int) ((([] : List Key) ++ (a0.Tracks.getD x13.toNat default)).take (IntKind.i64.wrap (((([] : List Key) ++ (a0.Tracks.getD x13.toNat default)).length : Int) - (1 : Int))).toNat)).bind fun j35 => chk ((x14.length + ([j35]).length) * 24 ≤ 140737488355328) (spec_JoinClips_l7 K a0 a1 k (IntKind.i64.wrap (x13 + (1 : Int))) (x14 ++ ([j35])))))) (chk (0 ≤ x13 ∧ x13 < (a1.Tracks.length : Int)) ((spec_JoinClips_l9 K a0 a1 x13 K (0 : Int) (([] : List Key) ++ (a0.Tracks.getD x13.toNat default))).bind fun j55 => chk ((x14.length + ([j55]).length) * 24 ≤ 140737488355328) (spec_JoinClips_l7 K a0 a1 k (IntKind.i64.wrap (x13 + (1 : Int))) (x14 ++ ([j55]))))))))) (chk ((([] : List RootKey).length + a0.Roots.length) * 24 ≤ 140737488355328) (chk (0 ≤ (IntKind.i64.wrap (((([] : List RootKey) ++ a0.Roots).length : Int) - (1 : Int))) ∧ (IntKind.i64.wrap (((([] : List RootKey) ++ a0.Roots).length : Int) - (1 : Int))) < ((([] : List RootKey) ++ a0.Roots).length : Int)) ((ite2 (((((([] : List RootKey) ++ a0.Roots).getD ((IntKind.i64.wrap (((([] : List RootKey) ++ a0.Roots).length : Int) - (1 : Int))).toNat) default).At) == a0.Length)) (chk (0 ≤ (0 : Int) ∧ (0 : Int) < (a1.Roots.length : Int)) (some (((a1.Roots.getD ((0 : Int).toNat) default).At) == (0 : Int)))) (some false)).bind fun j70 => ite2 (j70) (chk (0 ≤ (IntKind.i64.wrap (((([] : List RootKey) ++ a0.Roots).length : Int) - (1 : Int))) ∧ (IntKind.i64.wrap (((([] : List RootKey) ++ a0.Roots).length : Int) - (1 : Int))) ≤ ((([] : List RootKey) ++ a0.Roots).length : Int)) (spec_JoinClips_l10 K a0 a1 x14 K (0 : Int) ((([] : List RootKey) ++ a0.Roots).take (IntKind.i64.wrap (((([] : List RootKey) ++ a0.Roots).length : Int) - (1 : Int))).toNat))) (spec_JoinClips_l11 K a0 a1 x14 K (0 : Int) (([] : List RootKey) ++ a0.Roots)))))

def spec_JoinClips (K : Nat) (a0 : Clip) (a1 : Clip) : Option (Clip × Bool) :=
  (spec_l05Is K a0).bind fun v1 => (ite2 ((!v1)) (some true) ((spec_l05Is K a1).bind fun v4 => ite2 ((!v4)) (some true) (ite2 (((a0.Tracks.length : Int) != (a1.Tracks.length : Int))) (some true) (some (a0.Kind != a1.Kind))))).bind fun j8 => ite2 (j8) (some ((Clip.mk (0 : Int) (0 : Int) ([] : (List (List Key))) ([] : (List RootKey))), false)) (spec_JoinClips_l7 K a0 a1 K (0 : Int) ([] : (List (List Key))))

theorem ok_spec_JoinClips (K : Nat) (a0 : Clip) (a1 : Clip) (o : (Clip × Bool)) (h : spec_JoinClips K a0 a1 = some o) : CallOK Try.prog 22 [.agg (cs_Clip a0), .agg (cs_Clip a1)] [.agg (cs_Clip o.1), .one (.bool o.2)] := by
  refine callOK_of_AW Try.func22 rfl (by kernel_rfl) (Nat.le_of_ble_eq_true (by kernel_rfl)) ?_
  intro w0
  unfold spec_JoinClips at h
  refine AW.seq (AW.rA ⟨[(2, (vp 1 0)), (3, (vp 2 0)), (4, (vp 3 0))], [(1, (.box [(.c (.int .i64 a0.Length)), (.c (.int .i64 a0.Kind)), (.c (sl 1 (csL 5 cs_Key) a0.Tracks)), (.c (sl 4 cs_RootKey a0.Roots))])), (2, (.box [(.c (.int .i64 a1.Length)), (.c (.int .i64 a1.Kind)), (.c (sl 1 (csL 5 cs_Key) a1.Tracks)), (.c (sl 4 cs_RootKey a1.Roots))])), (3, (.box [(.c (.int .i64 (0 : Int))), (.c (.int .i64 (0 : Int))), .nils, .nils]))]⟩ (T4 Tt) [.box 1, .box 2, .box 3] [2, 3, 4] [1, 2, 3] ⟨tr, tr, tr, tr, tr⟩ (thenQ_normal ?_))
  refine AW.seq ?_
  refine AW.seq ?_
  obtain ⟨v1, e2, h⟩ := bind_some h
  obtain ⟨j8, e9, h⟩ := bind_some h
  refine AW.join1 (s2 := ⟨[(2, (vp 1 0)), (3, (vp 2 0)), (4, (vp 3 0)), (33, (vc (.bool j8)))], [(1, (.box [(.c (.int .i64 a0.Length)), (.c (.int .i64 a0.Kind)), (.c (sl 1 (csL 5 cs_Key) a0.Tracks)), (.c (sl 4 cs_RootKey a0.Roots))])), (2, (.box [(.c (.int .i64 a1.Length)), (.c (.int .i64 a1.Kind)), (.c (sl 1 (csL 5 cs_Key) a1.Tracks)), (.c (sl 4 cs_RootKey a1.Roots))])), (3, (.box [(.c (.int .i64 (0 : Int))), (.c (.int .i64 (0 : Int))), .nils, .nils]))]⟩) ?_ ?_
  · rcases ite2_cases e9 with ⟨b3, e9⟩ | ⟨b3, e9⟩
    · replace e9 := some_eq e9
      subst e9
      exact AW.rA ⟨[(2, (vp 1 0)), (3, (vp 2 0)), (4, (vp 3 0)), (33, (vc (.bool true)))], [(1, (.box [(.c (.int .i64 a0.Length)), (.c (.int .i64 a0.Kind)), (.c (sl 1 (csL 5 cs_Key) a0.Tracks)), (.c (sl 4 cs_RootKey a0.Roots))])), (2, (.box [(.c (.int .i64 a1.Length)), (.c (.int .i64 a1.Kind)), (.c (sl 1 (csL 5 cs_Key) a1.Tracks)), (.c (sl 4 cs_RootKey a1.Roots))])), (3, (.box [(.c (.int .i64 (0 : Int))), (.c (.int .i64 (0 : Int))), .nils, .nils]))]⟩ ((((0 = 0 ∧ (Eqc (.int .i64 a0.Length)) ∧ (Eqc (.int .i64 a0.Kind)) ∧ (Eqc (sl 1 (csL 5 cs_Key) a0.Tracks)) ∧ (Eqc (sl 4 cs_RootKey a0.Roots)) ∧ Tt) ∧ Tt) ∧ CallOK Try.prog 60 [.one (pl 4 cs_Clip a0)] [.one (.bool v1)]) ∧ Tt ∧ (Tt ∧ (!v1) = true) ∧ Tt ∧ T2 (T4 (T4 (T4 (T4 Tt))))) [.call [.one (pl 4 cs_Clip a0)] [.one (.bool v1)] [[.view]], .no, .dec true] [2, 3, 4, 33] [1, 2, 3] ⟨⟨⟨⟨rfl, rfl, rfl, rfl, rfl, tr⟩, tr⟩, ok_spec_l05Is K a0 v1 e2⟩, tr, ⟨tr, b3⟩, tr, tr, tr, tr, tr, tr, tr, tr, tr, tr, tr, tr, tr, tr, tr, tr, tr, tr, tr, tr⟩ ⟨rfl, rfl⟩
    · obtain ⟨v4, e5, e9⟩ := bind_some e9
      rcases ite2_cases e9 with ⟨b6, e9⟩ | ⟨b6, e9⟩
      · replace e9 := some_eq e9
        subst e9
        exact AW.rA ⟨[(2, (vp 1 0)), (3, (vp 2 0)), (4, (vp 3 0)), (33, (vc (.bool true)))], [(1, (.box [(.c (.int .i64 a0.Length)), (.c (.int .i64 a0.Kind)), (.c (sl 1 (csL 5 cs_Key) a0.Tracks)), (.c (sl 4 cs_RootKey a0.Roots))])), (2, (.box [(.c (.int .i64 a1.Length)), (.c (.int .i64 a1.Kind)), (.c (sl 1 (csL 5 cs_Key) a1.Tracks)), (.c (sl 4 cs_RootKey a1.Roots))])), (3, (.box [(.c (.int .i64 (0 : Int))), (.c (.int .i64 (0 : Int))), .nils, .nils]))]⟩ ((((0 = 0 ∧ (Eqc (.int .i64 a0.Length)) ∧ (Eqc (.int .i64 a0.Kind)) ∧ (Eqc (sl 1 (csL 5 cs_Key) a0.Tracks)) ∧ (Eqc (sl 4 cs_RootKey a0.Roots)) ∧ Tt) ∧ Tt) ∧ CallOK Try.prog 60 [.one (pl 4 cs_Clip a0)] [.one (.bool v1)]) ∧ Tt ∧ (Tt ∧ (!v1) = false) ∧ (((0 = 0 ∧ (Eqc (.int .i64 a1.Length)) ∧ (Eqc (.int .i64 a1.Kind)) ∧ (Eqc (sl 1 (csL 5 cs_Key) a1.Tracks)) ∧ (Eqc (sl 4 cs_RootKey a1.Roots)) ∧ Tt) ∧ Tt) ∧ CallOK Try.prog 60 [.one (pl 4 cs_Clip a1)] [.one (.bool v4)]) ∧ T2 ((Tt ∧ (!v4) = true) ∧ Tt ∧ T2 (T4 (T4 (T4 Tt))))) [.call [.one (pl 4 cs_Clip a0)] [.one (.bool v1)] [[.view]], .no, .dec false, .call [.one (pl 4 cs_Clip a1)] [.one (.bool v4)] [[.view]], .no, .no, .dec true] [2, 3, 4, 33] [1, 2, 3] ⟨⟨⟨⟨rfl, rfl, rfl, rfl, rfl, tr⟩, tr⟩, ok_spec_l05Is K a0 v1 e2⟩, tr, ⟨tr, b3⟩, ⟨⟨⟨rfl, rfl, rfl, rfl, rfl, tr⟩, tr⟩, ok_spec_l05Is K a1 v4 e5⟩, tr, tr, ⟨tr, b6⟩, tr, tr, tr, tr, tr, tr, tr, tr, tr, tr, tr, tr, tr, tr, tr, tr⟩ ⟨rfl, rfl⟩
      · rcases ite2_cases e9 with ⟨b7, e9⟩ | ⟨b7, e9⟩
        · replace e9 := some_eq e9
          subst e9
          exact AW.rA ⟨[(2, (vp 1 0)), (3, (vp 2 0)), (4, (vp 3 0)), (33, (vc (.bool true)))], [(1, (.box [(.c (.int .i64 a0.Length)), (.c (.int .i64 a0.Kind)), (.c (sl 1 (csL 5 cs_Key) a0.Tracks)), (.c (sl 4 cs_RootKey a0.Roots))])), (2, (.box [(.c (.int .i64 a1.Length)), (.c (.int .i64 a1.Kind)), (.c (sl 1 (csL 5 cs_Key) a1.Tracks)), (.c (sl 4 cs_RootKey a1.Roots))])), (3, (.box [(.c (.int .i64 (0 : Int))), (.c (.int .i64 (0 : Int))), .nils, .nils]))]⟩ ((((0 = 0 ∧ (Eqc (.int .i64 a0.Length)) ∧ (Eqc (.int .i64 a0.Kind)) ∧ (Eqc (sl 1 (csL 5 cs_Key) a0.Tracks)) ∧ (Eqc (sl 4 cs_RootKey a0.Roots)) ∧ Tt) ∧ Tt) ∧ CallOK Try.prog 60 [.one (pl 4 cs_Clip a0)] [.one (.bool v1)]) ∧ Tt ∧ (Tt ∧ (!v1) = false) ∧ (((0 = 0 ∧ (Eqc (.int .i64 a1.Length)) ∧ (Eqc (.int .i64 a1.Kind)) ∧ (Eqc (sl 1 (csL 5 cs_Key) a1.Tracks)) ∧ (Eqc (sl 4 cs_RootKey a1.Roots)) ∧ Tt) ∧ Tt) ∧ CallOK Try.prog 60 [.one (pl 4 cs_Clip a1)] [.one (.bool v4)]) ∧ T2 ((Tt ∧ (!v4) = false) ∧ T4 (T4 ((Tt ∧ ((a0.Tracks.length : Int) != (a1.Tracks.length : Int)) = true) ∧ T2 (T4 Tt))))) [.call [.one (pl 4 cs_Clip a0)] [.one (.bool v1)] [[.view]], .no, .dec false, .call [.one (pl 4 cs_Clip a1)] [.one (.bool v4)] [[.view]], .no, .no, .dec false, .no, .no, .no, .no, .no, .no, .no, .no, .dec true] [2, 3, 4, 33] [1, 2, 3] ⟨⟨⟨⟨rfl, rfl, rfl, rfl, rfl, tr⟩, tr⟩, ok_spec_l05Is K a0 v1 e2⟩, tr, ⟨tr, b3⟩, ⟨⟨⟨rfl, rfl, rfl, rfl, rfl, tr⟩, tr⟩, ok_spec_l05Is K a1 v4 e5⟩, tr, tr, ⟨tr, b6⟩, tr, tr, tr, tr, tr, tr, tr, tr, ⟨tr, b7⟩, tr, tr, tr, tr, tr, tr, tr⟩ ⟨rfl, rfl⟩
        · replace e9 := some_eq e9
          subst e9
          exact AW.rA ⟨[(2, (vp 1 0)), (3, (vp 2 0)), (4, (vp 3 0)), (33, (vc (.bool (a0.Kind != a1.Kind))))], [(1, (.box [(.c (.int .i64 a0.Length)), (.c (.int .i64 a0.Kind)), (.c (sl 1 (csL 5 cs_Key) a0.Tracks)), (.c (sl 4 cs_RootKey a0.Roots))])), (2, (.box [(.c (.int .i64 a1.Length)), (.c (.int .i64 a1.Kind)), (.c (sl 1 (csL 5 cs_Key) a1.Tracks)), (.c (sl 4 cs_RootKey a1.Roots))])), (3, (.box [(.c (.int .i64 (0 : Int))), (.c (.int .i64 (0 : Int))), .nils, .nils]))]⟩ ((((0 = 0 ∧ (Eqc (.int .i64 a0.Length)) ∧ (Eqc (.int .i64 a0.Kind)) ∧ (Eqc (sl 1 (csL 5 cs_Key) a0.Tracks)) ∧ (Eqc (sl 4 cs_RootKey a0.Roots)) ∧ Tt) ∧ Tt) ∧ CallOK Try.prog 60 [.one (pl 4 cs_Clip a0)] [.one (.bool v1)]) ∧ Tt ∧ (Tt ∧ (!v1) = false) ∧ (((0 = 0 ∧ (Eqc (.int .i64 a1.Length)) ∧ (Eqc (.int .i64 a1.Kind)) ∧ (Eqc (sl 1 (csL 5 cs_Key) a1.Tracks)) ∧ (Eqc (sl 4 cs_RootKey a1.Roots)) ∧ Tt) ∧ Tt) ∧ CallOK Try.prog 60 [.one (pl 4 cs_Clip a1)] [.one (.bool v4)]) ∧ T2 ((Tt ∧ (!v4) = false) ∧ T4 (T4 ((Tt ∧ ((a0.Tracks.length : Int) != (a1.Tracks.length : Int)) = false) ∧ T2 (T4 Tt))))) [.call [.one (pl 4 cs_Clip a0)] [.one (.bool v1)] [[.view]], .no, .dec false, .call [.one (pl 4 cs_Clip a1)] [.one (.bool v4)] [[.view]], .no, .no, .dec false, .no, .no, .no, .no, .no, .no, .no, .no, .dec false] [2, 3, 4, 33] [1, 2, 3] ⟨⟨⟨⟨rfl, rfl, rfl, rfl, rfl, tr⟩, tr⟩, ok_spec_l05Is K a0 v1 e2⟩, tr, ⟨tr, b3⟩, ⟨⟨⟨rfl, rfl, rfl, rfl, rfl, tr⟩, tr⟩, ok_spec_l05Is K a1 v4 e5⟩, tr, tr, ⟨tr, b6⟩, tr, tr, tr, tr, tr, tr, tr, tr, ⟨tr, b7⟩, tr, tr, tr, tr, tr, tr, tr⟩ ⟨rfl, rfl⟩
  refine thenQ_normal ?_
  rcases ite2_cases h with ⟨b10, h⟩ | ⟨b10, h⟩
  · refine AW.cond_t rfl b10 ?_
    refine AW.seq (AW.rA ⟨[(4, (vp 3 0)), (5, (vc (.bool false)))], [(3, (.box [(.c (.int .i64 (0 : Int))), (.c (.int .i64 (0 : Int))), .nils, .nils]))]⟩ (Tt ∧ T2 Tt) [] [4, 5] [3] ⟨tr, tr, tr, tr⟩ (thenQ_normal ?_))
    refine AW.ret ?_
    refine thenQ_ret ?_
    replace h := some_eq h
    subst h
    exact ⟨.inr rfl, retOK_of [(.agg [(.c (.int .i64 (0 : Int))), (.c (.int .i64 (0 : Int))), .nils, .nils]), (.one (.c (.bool false)))] (by kernel_rfl) ⟨⟨⟨rfl, tr⟩, ⟨rfl, tr⟩, rfl, rfl, tr⟩, ⟨rfl, tr⟩, tr⟩ (of_decide_eq_true (by kernel_rfl))⟩
  · refine AW.cond_f rfl b10 ?_
    refine AW.skip ?_
    refine thenQ_normal ?_
    refine AW.seq (AW.rA ⟨[(2, (vp 1 0)), (3, (vp 2 0)), (4, (vp 3 0)), (6, (vp 4 0))], [(1, (.box [(.c (.int .i64 a0.Length)), (.c (.int .i64 a0.Kind)), (.c (sl 1 (csL 5 cs_Key) a0.Tracks)), (.c (sl 4 cs_RootKey a0.Roots))])), (2, (.box [(.c (.int .i64 a1.Length)), (.c (.int .i64 a1.Kind)), (.c (sl 1 (csL 5 cs_Key) a1.Tracks)), (.c (sl 4 cs_RootKey a1.Roots))])), (3, (.box [(.c (.int .i64 (0 : Int))), (.c (.int .i64 (0 : Int))), .nils, .nils])), (4, (.box [(.c (.int .i64 (IntKind.i64.wrap (a0.Length + a1.Length)))), (.c (.int .i64 a0.Kind)), .nils, .nils]))]⟩ (T2 (T4 (T4 Tt))) [.no, .no, .no, .no, .no, .no, .no, .no, .box 4] [2, 3, 4, 6] [1, 2, 3, 4] ⟨tr, tr, tr, tr, tr, tr, tr, tr, tr, tr, tr⟩ (thenQ_normal ?_))
    refine AW.seq ?_
    refine AW.seq (AW.rA ⟨[(2, (vp 1 0)), (3, (vp 2 0)), (4, (vp 3 0)), (6, (vp 4 0)), (45, (vc (.int .i64 (a0.Tracks.length : Int)))), (46, (vc (.int .i64 (0 : Int))))], [(1, (.box [(.c (.int .i64 a0.Length)), (.c (.int .i64 a0.Kind)), (.c (sl 1 (csL 5 cs_Key) a0.Tracks)), (.c (sl 4 cs_RootKey a0.Roots))])), (2, (.box [(.c (.int .i64 a1.Length)), (.c (.int .i64 a1.Kind)), (.c (sl 1 (csL 5 cs_Key) a1.Tracks)), (.c (sl 4 cs_RootKey a1.Roots))])), (3, (.box [(.c (.int .i64 (0 : Int))), (.c (.int .i64 (0 : Int))), .nils, .nils])), (4, (.box [(.c (.int .i64 (IntKind.i64.wrap (a0.Length + a1.Length)))), (.c (.int .i64 a0.Kind)), .nils, .nils]))]⟩ (T4 Tt) [] [2, 3, 4, 6, 45, 46] [1, 2, 3, 4] ⟨tr, tr, tr, tr, tr⟩ (thenQ_normal ?_))
    refine AW.block ?_
    refine AW.weak (s' := ⟨[(2, (vp 1 0)), (3, (vp 2 0)), (4, (vp 3 0)), (6, (vp 4 0)), (45, (vc (.int .i64 (a0.Tracks.length : Int)))), (46, (vc (.int .i64 (0 : Int))))], [(1, (.box [(.c (.int .i64 a0.Length)), (.c (.int .i64 a0.Kind)), (.c (sl 1 (csL 5 cs_Key) a0.Tracks)), (.c (sl 4 cs_RootKey a0.Roots))])), (2, (.box [(.c (.int .i64 a1.Length)), (.c (.int .i64 a1.Kind)), (.c (sl 1 (csL 5 cs_Key) a1.Tracks)), (.c (sl 4 cs_RootKey a1.Roots))])), (3, (.box [(.c (.int .i64 (0 : Int))), (.c (.int .i64 (0 : Int))), .nils, .nils])), (4, (.box [(.c (.int .i64 (IntKind.i64.wrap (a0.Length + a1.Length)))), (.c (.int .i64 a0.Kind)), (.lst 36 ([] : (List (List Key))).length 1 (gl (csL 5 cs_Key) ([] : (List (List Key))))), .nils])), (36, (.lst ([] : (List (List Key))).length 1 (gl (csL 5 cs_Key) ([] : (List (List Key))))))]⟩) (Sub.trans (Sub.unnil 36 1 (gl (csL 5 cs_Key) ([] : (List (List Key)))) [] [(4, 2)] _ (by kernel_rfl) (by kernel_rfl)) (Sub.keep [2, 3, 4, 6, 45, 46] [1, 2, 3, 4, 36] (by kernel_rfl) (by kernel_rfl))) ?_
    refine AW.loopQ (σ := Nat × Int × (List (List Key))) (fun p => ⟨[(2, (vp 1 0)), (3, (vp 2 0)), (4, (vp 3 0)), (6, (vp 4 0)), (45, (vc (.int .i64 (a0.Tracks.length : Int)))), (46, (vc (.int .i64 p.2.1)))], [(1, (.box [(.c (.int .i64 a0.Length)), (.c (.int .i64 a0.Kind)), (.c (sl 1 (csL 5 cs_Key) a0.Tracks)), (.c (sl 4 cs_RootKey a0.Roots))])), (2, (.box [(.c (.int .i64 a1.Length)), (.c (.int .i64 a1.Kind)), (.c (sl 1 (csL 5 cs_Key) a1.Tracks)), (.c (sl 4 cs_RootKey a1.Roots))])), (3, (.box [(.c (.int .i64 (0 : Int))), (.c (.int .i64 (0 : Int))), .nils, .nils])), (4, (.box [(.c (.int .i64 (IntKind.i64.wrap (a0.Length + a1.Length)))), (.c (.int .i64 a0.Kind)), (.lst 36 p.2.2.length 1 (gl (csL 5 cs_Key) p.2.2)), .nils])), (36, (.lst p.2.2.length 1 (gl (csL 5 cs_Key) p.2.2)))]⟩) (fun p => spec_JoinClips_l7 K a0 a1 p.1 p.2.1 p.2.2 = some o) (fun p => p.1) (K, (0 : Int), ([] : (List (List Key)))) h ?_
    clear h
    rintro ⟨k, x13, x14⟩ h
    replace h : spec_JoinClips_l7 K a0 a1 k x13 x14 = some o := h
    show AW _ _ (⟨[(2, (vp 1 0)), (3, (vp 2 0)), (4, (vp 3 0)), (6, (vp 4 0)), (45, (vc (.int .i64 (a0.Tracks.length : Int)))), (46, (vc (.int .i64 x13)))], [(1, (.box [(.c (.int .i64 a0.Length)), (.c (.int .i64 a0.Kind)), (.c (sl 1 (csL 5 cs_Key) a0.Tracks)), (.c (sl 4 cs_RootKey a0.Roots))])), (2, (.box [(.c (.int .i64 a1.Length)), (.c (.int .i64 a1.Kind)), (.c (sl 1 (csL 5 cs_Key) a1.Tracks)), (.c (sl 4 cs_RootKey a1.Roots))])), (3, (.box [(.c (.int .i64 (0 : Int))), (.c (.int .i64 (0 : Int))), .nils, .nils])), (4, (.box [(.c (.int .i64 (IntKind.i64.wrap (a0.Length + a1.Length)))), (.c (.int .i64 a0.Kind)), (.lst 36 x14.length 1 (gl (csL 5 cs_Key) x14)), .nils])), (36, (.lst x14.length 1 (gl (csL 5 cs_Key) x14)))]⟩ : St) _
    obtain _ | k := k
    · rw [spec_JoinClips_l7] at h; cases h
    rw [spec_JoinClips_l7] at h
    refine AW.seq (AW.rA ⟨[(2, (vp 1 0)), (3, (vp 2 0)), (4, (vp 3 0)), (6, (vp 4 0)), (45, (vc (.int .i64 (a0.Tracks.length : Int)))), (46, (vc (.int .i64 x13))), (47, (vc (.bool (decide (x13 < (a0.Tracks.length : Int))))))], [(1, (.box [(.c (.int .i64 a0.Length)), (.c (.int .i64 a0.Kind)), (.c (sl 1 (csL 5 cs_Key) a0.Tracks)), (.c (sl 4 cs_RootKey a0.Roots))])), (2, (.box [(.c (.int .i64 a1.Length)), (.c (.int .i64 a1.Kind)), (.c (sl 1 (csL 5 cs_Key) a1.Tracks)), (.c (sl 4 cs_RootKey a1.Roots))])), (3, (.box [(.c (.int .i64 (0 : Int))), (.c (.int .i64 (0 : Int))), .nils, .nils])), (4, (.box [(.c (.int .i64 (IntKind.i64.wrap (a0.Length + a1.Length)))), (.c (.int .i64 a0.Kind)), (.lst 36 x14.length 1 (gl (csL 5 cs_Key) x14)), .nils])), (36, (.lst x14.length 1 (gl (csL 5 cs_Key) x14)))]⟩ (Tt ∧ Tt) [] [2, 3, 4, 6, 45, 46, 47] [1, 2, 3, 4, 36] ⟨tr, tr⟩ (thenQ_normal ?_))
    refine AW.seq ?_
    rcases ite2_cases h with ⟨b15, h⟩ | ⟨b15, h⟩
    · refine AW.cond_t rfl b15 ?_
      refine AW.skip ?_
      refine thenQ_normal ?_
      refine AW.seq ?_
      refine AW.block ?_
      refine AW.seq (AW.rA ⟨[(2, (vp 1 0)), (3, (vp 2 0)), (4, (vp 3 0)), (6, (vp 4 0)), (7, (vc (.int .i64 x13))), (45, (vc (.int .i64 (a0.Tracks.length : Int)))), (46, (vc (.int .i64 x13)))], [(1, (.box [(.c (.int .i64 a0.Length)), (.c (.int .i64 a0.Kind)), (.c (sl 1 (csL 5 cs_Key) a0.Tracks)), (.c (sl 4 cs_RootKey a0.Roots))])), (2, (.box [(.c (.int .i64 a1.Length)), (.c (.int .i64 a1.Kind)), (.c (sl 1 (csL 5 cs_Key) a1.Tracks)), (.c (sl 4 cs_RootKey a1.Roots))])), (3, (.box [(.c (.int .i64 (0 : Int))), (.c (.int .i64 (0 : Int))), .nils, .nils])), (4, (.box [(.c (.int .i64 (IntKind.i64.wrap (a0.Length + a1.Length)))), (.c (.int .i64 a0.Kind)), (.lst 36 x14.length 1 (gl (csL 5 cs_Key) x14)), .nils])), (36, (.lst x14.length 1 (gl (csL 5 cs_Key) x14)))]⟩ (T2 Tt) [] [2, 3, 4, 6, 7, 45, 46] [1, 2, 3, 4, 36] ⟨tr, tr, tr⟩ (thenQ_normal ?_))
      refine AW.seq ?_
      obtain ⟨c16, h⟩ := chk_some h
      obtain ⟨c17, h⟩ := chk_some h
      refine AW.rA ⟨[(2, (vp 1 0)), (3, (vp 2 0)), (4, (vp 3 0)), (6, (vp 4 0)), (7, (vc (.int .i64 x13))), (8, (.v (.one (.arr 100)))), (45, (vc (.int .i64 (a0.Tracks.length : Int)))), (46, (vc (.int .i64 x13)))], [(1, (.box [(.c (.int .i64 a0.Length)), (.c (.int .i64 a0.Kind)), (.c (sl 1 (csL 5 cs_Key) a0.Tracks)), (.c (sl 4 cs_RootKey a0.Roots))])), (2, (.box [(.c (.int .i64 a1.Length)), (.c (.int .i64 a1.Kind)), (.c (sl 1 (csL 5 cs_Key) a1.Tracks)), (.c (sl 4 cs_RootKey a1.Roots))])), (3, (.box [(.c (.int .i64 (0 : Int))), (.c (.int .i64 (0 : Int))), .nils, .nils])), (4, (.box [(.c (.int .i64 (IntKind.i64.wrap (a0.Length + a1.Length)))), (.c (.int .i64 a0.Kind)), (.lst 36 x14.length 1 (gl (csL 5 cs_Key) x14)), .nils])), (36, (.lst x14.length 1 (gl (csL 5 cs_Key) x14))), (100, (.arr false (([] : List Key) ++ (a0.Tracks.getD x13.toNat default)).length 5 (gl cs_Key (([] : List Key) ++ (a0.Tracks.getD x13.toNat default)))))]⟩ ((([] : List Key).length = 0 ∧ Tt) ∧ Tt ∧ T2 ((0 ≤ x13 ∧ x13 < (a0.Tracks.length : Int)) ∧ Tt ∧ ((([] : List Key) ++ (a0.Tracks.getD x13.toNat default)).length = ([] : List Key).length + (a0.Tracks.getD x13.toNat default).length ∧ AppOb (([] : List Key).length) ((a0.Tracks.getD x13.toNat default).length) 5 (gl cs_Key ([] : List Key)) (gl cs_Key (a0.Tracks.getD x13.toNat default)) (gl cs_Key (([] : List Key) ++ (a0.Tracks.getD x13.toNat default))) ∧ (∀ i j, i < (a0.Tracks.getD x13.toNat default).length → j < 5 → scalarC (gl cs_Key (a0.Tracks.getD x13.toNat default) i j)) ∧ (([] : List Key).length + (a0.Tracks.getD x13.toNat default).length) * 24 ≤ 140737488355328) ∧ Tt ∧ Tt)) [.objA 99 ([] : List Key).length (gl cs_Key ([] : List Key)), .no, .no, .no, .no, .no, .objA 100 (([] : List Key) ++ (a0.Tracks.getD x13.toNat default)).length (gl cs_Key (([] : List Key) ++ (a0.Tracks.getD x13.toNat default)))] [2, 3, 4, 6, 7, 8, 45, 46] [1, 2, 3, 4, 36, 100] ⟨⟨rfl, tr⟩, tr, tr, tr, c16, tr, ⟨List.length_append, gl_append, gl_scalar sc_Key _, c17⟩, tr, tr⟩ ?_
      refine thenQ_normal ?_
      refine AW.seq ?_
      refine AW.seq ?_
      obtain ⟨c18, h⟩ := chk_some h
      obtain ⟨j22, e23, h⟩ := bind_some h
      refine AW.join1 (s2 := ⟨[(2, (vp 1 0)), (3, (vp 2 0)), (4, (vp 3 0)), (6, (vp 4 0)), (7, (vc (.int .i64 x13))), (8, (.v (.one (.arr 100)))), (45, (vc (.int .i64 (a0.Tracks.length : Int)))), (46, (vc (.int .i64 x13))), (76, (vc (.bool j22)))], [(1, (.box [(.c (.int .i64 a0.Length)), (.c (.int .i64 a0.Kind)), (.c (sl 1 (csL 5 cs_Key) a0.Tracks)), (.c (sl 4 cs_RootKey a0.Roots))])), (2, (.box [(.c (.int .i64 a1.Length)), (.c (.int .i64 a1.Kind)), (.c (sl 1 (csL 5 cs_Key) a1.Tracks)), (.c (sl 4 cs_RootKey a1.Roots))])), (3, (.box [(.c (.int .i64 (0 : Int))), (.c (.int .i64 (0 : Int))), .nils, .nils])), (4, (.box [(.c (.int .i64 (IntKind.i64.wrap (a0.Length + a1.Length)))), (.c (.int .i64 a0.Kind)), (.lst 36 x14.length 1 (gl (csL 5 cs_Key) x14)), .nils])), (36, (.lst x14.length 1 (gl (csL 5 cs_Key) x14))), (100, (.arr false (([] : List Key) ++ (a0.Tracks.getD x13.toNat default)).length 5 (gl cs_Key (([] : List Key) ++ (a0.Tracks.getD x13.toNat default)))))]⟩) ?_ ?_
      · rcases ite2_cases e23 with ⟨b19, e23⟩ | ⟨b19, e23⟩
        · obtain ⟨c20, e23⟩ := chk_some e23
          obtain ⟨c21, e23⟩ := chk_some e23
          replace e23 := some_eq e23
          subst e23
          exact AW.dA ⟨[(2, (vp 1 0)), (3, (vp 2 0)), (4, (vp 3 0)), (6, (vp 4 0)), (7, (vc (.int .i64 x13))), (8, (.v (.one (.arr 100)))), (45, (vc (.int .i64 (a0.Tracks.length : Int)))), (46, (vc (.int .i64 x13))), (76, (vc (.bool ((((a1.Tracks.getD x13.toNat default).getD ((0 : Int).toNat) default).At) == (0 : Int)))))], [(1, (.box [(.c (.int .i64 a0.Length)), (.c (.int .i64 a0.Kind)), (.c (sl 1 (csL 5 cs_Key) a0.Tracks)), (.c (sl 4 cs_RootKey a0.Roots))])), (2, (.box [(.c (.int .i64 a1.Length)), (.c (.int .i64 a1.Kind)), (.c (sl 1 (csL 5 cs_Key) a1.Tracks)), (.c (sl 4 cs_RootKey a1.Roots))])), (3, (.box [(.c (.int .i64 (0 : Int))), (.c (.int .i64 (0 : Int))), .nils, .nils])), (4, (.box [(.c (.int .i64 (IntKind.i64.wrap (a0.Length + a1.Length)))), (.c (.int .i64 a0.Kind)), (.lst 36 x14.length 1 (gl (csL 5 cs_Key) x14)), .nils])), (36, (.lst x14.length 1 (gl (csL 5 cs_Key) x14))), (100, (.arr false (([] : List Key) ++ (a0.Tracks.getD x13.toNat default)).length 5 (gl cs_Key (([] : List Key) ++ (a0.Tracks.getD x13.toNat default)))))]⟩ ((T4 ((0 ≤ (IntKind.i64.wrap (((([] : List Key) ++ (a0.Tracks.getD x13.toNat default)).length : Int) - (1 : Int))) ∧ (IntKind.i64.wrap (((([] : List Key) ++ (a0.Tracks.getD x13.toNat default)).length : Int) - (1 : Int))) < ((([] : List Key) ++ (a0.Tracks.getD x13.toNat default)).length : Int)) ∧ Tt ∧ T4 ((Tt ∧ ((((([] : List Key) ++ (a0.Tracks.getD x13.toNat default)).getD ((IntKind.i64.wrap (((([] : List Key) ++ (a0.Tracks.getD x13.toNat default)).length : Int) - (1 : Int))).toNat) default).At) == a0.Length) = true) ∧ Tt ∧ T2 ((0 ≤ x13 ∧ x13 < (a1.Tracks.length : Int)) ∧ Tt ∧ (0 ≤ (0 : Int) ∧ (0 : Int) < ((a1.Tracks.getD x13.toNat default).length : Int)) ∧ T4 Tt)))) ∧ (Tt)) 21 [.no, .no, .no, .no, .no, .no, .no, .no, .no, .no, .dec true] [2, 3, 4, 6, 7, 8, 45, 46, 76] [1, 2, 3, 4, 36, 100] ⟨⟨tr, tr, tr, tr, c18, tr, tr, tr, tr, tr, ⟨tr, b19⟩, tr, tr, tr, c20, tr, c21, tr, tr, tr, tr, tr⟩, tr⟩ ⟨rfl, rfl⟩
        · replace e23 := some_eq e23
          subst e23
          exact AW.dA ⟨[(2, (vp 1 0)), (3, (vp 2 0)), (4, (vp 3 0)), (6, (vp 4 0)), (7, (vc (.int .i64 x13))), (8, (.v (.one (.arr 100)))), (45, (vc (.int .i64 (a0.Tracks.length : Int)))), (46, (vc (.int .i64 x13))), (76, (vc (.bool false)))], [(1, (.box [(.c (.int .i64 a0.Length)), (.c (.int .i64 a0.Kind)), (.c (sl 1 (csL 5 cs_Key) a0.Tracks)), (.c (sl 4 cs_RootKey a0.Roots))])), (2, (.box [(.c (.int .i64 a1.Length)), (.c (.int .i64 a1.Kind)), (.c (sl 1 (csL 5 cs_Key) a1.Tracks)), (.c (sl 4 cs_RootKey a1.Roots))])), (3, (.box [(.c (.int .i64 (0 : Int))), (.c (.int .i64 (0 : Int))), .nils, .nils])), (4, (.box [(.c (.int .i64 (IntKind.i64.wrap (a0.Length + a1.Length)))), (.c (.int .i64 a0.Kind)), (.lst 36 x14.length 1 (gl (csL 5 cs_Key) x14)), .nils])), (36, (.lst x14.length 1 (gl (csL 5 cs_Key) x14))), (100, (.arr false (([] : List Key) ++ (a0.Tracks.getD x13.toNat default)).length 5 (gl cs_Key (([] : List Key) ++ (a0.Tracks.getD x13.toNat default)))))]⟩ ((T4 ((0 ≤ (IntKind.i64.wrap (((([] : List Key) ++ (a0.Tracks.getD x13.toNat default)).length : Int) - (1 : Int))) ∧ (IntKind.i64.wrap (((([] : List Key) ++ (a0.Tracks.getD x13.toNat default)).length : Int) - (1 : Int))) < ((([] : List Key) ++ (a0.Tracks.getD x13.toNat default)).length : Int)) ∧ Tt ∧ T4 ((Tt ∧ ((((([] : List Key) ++ (a0.Tracks.getD x13.toNat default)).getD ((IntKind.i64.wrap (((([] : List Key) ++ (a0.Tracks.getD x13.toNat default)).length : Int) - (1 : Int))).toNat) default).At) == a0.Length) = false) ∧ T2 (T4 (T4 Tt))))) ∧ (Tt)) 21 [.no, .no, .no, .no, .no, .no, .no, .no, .no, .no, .dec false] [2, 3, 4, 6, 7, 8, 45, 46, 76] [1, 2, 3, 4, 36, 100] ⟨⟨tr, tr, tr, tr, c18, tr, tr, tr, tr, tr, ⟨tr, b19⟩, tr, tr, tr, tr, tr, tr, tr, tr, tr, tr, tr⟩, tr⟩ ⟨rfl, rfl⟩
      refine thenQ_normal ?_
      rcases ite2_cases h with ⟨b24, h⟩ | ⟨b24, h⟩
      · refine AW.cond_t rfl b24 ?_
        obtain ⟨c25, h⟩ := chk_some h
        refine AW.rA ⟨[(2, (vp 1 0)), (3, (vp 2 0)), (4, (vp 3 0)), (6, (vp 4 0)), (7, (vc (.int .i64 x13))), (8, (.v (.one (.arr 101)))), (45, (vc (.int .i64 (a0.Tracks.length : Int)))), (46, (vc (.int .i64 x13)))], [(1, (.box [(.c (.int .i64 a0.Length)), (.c (.int .i64 a0.Kind)), (.c (sl 1 (csL 5 cs_Key) a0.Tracks)), (.c (sl 4 cs_RootKey a0.Roots))])), (2, (.box [(.c (.int .i64 a1.Length)), (.c (.int .i64 a1.Kind)), (.c (sl 1 (csL 5 cs_Key) a1.Tracks)), (.c (sl 4 cs_RootKey a1.Roots))])), (3, (.box [(.c (.int .i64 (0 : Int))), (.c (.int .i64 (0 : Int))), .nils, .nils])), (4, (.box [(.c (.int .i64 (IntKind.i64.wrap (a0.Length + a1.Length)))), (.c (.int .i64 a0.Kind)), (.lst 36 x14.length 1 (gl (csL 5 cs_Key) x14)), .nils])), (36, (.lst x14.length 1 (gl (csL 5 cs_Key) x14))), (101, (.arr false ((([] : List Key) ++ (a0.Tracks.getD x13.toNat default)).take (IntKind.i64.wrap (((([] : List Key) ++ (a0.Tracks.getD x13.toNat default)).length : Int) - (1 : Int))).toNat).length 5 (gl cs_Key ((([] : List Key) ++ (a0.Tracks.getD x13.toNat default)).take (IntKind.i64.wrap (((([] : List Key) ++ (a0.Tracks.getD x13.toNat default)).length : Int) - (1 : Int))).toNat))))]⟩ (T4 (((0 : Int) = 0 ∧ 0 ≤ (IntKind.i64.wrap (((([] : List Key) ++ (a0.Tracks.getD x13.toNat default)).length : Int) - (1 : Int))) ∧ (IntKind.i64.wrap (((([] : List Key) ++ (a0.Tracks.getD x13.toNat default)).length : Int) - (1 : Int))) ≤ ((([] : List Key) ++ (a0.Tracks.getD x13.toNat default)).length : Int) ∧ ((((([] : List Key) ++ (a0.Tracks.getD x13.toNat default)).take (IntKind.i64.wrap (((([] : List Key) ++ (a0.Tracks.getD x13.toNat default)).length : Int) - (1 : Int))).toNat).length : Nat) : Int) = (IntKind.i64.wrap (((([] : List Key) ++ (a0.Tracks.getD x13.toNat default)).length : Int) - (1 : Int))) ∧ ∀ i j, i < ((([] : List Key) ++ (a0.Tracks.getD x13.toNat default)).take (IntKind.i64.wrap (((([] : List Key) ++ (a0.Tracks.getD x13.toNat default)).length : Int) - (1 : Int))).toNat).length → j < 5 → gl cs_Key ((([] : List Key) ++ (a0.Tracks.getD x13.toNat default)).take (IntKind.i64.wrap (((([] : List Key) ++ (a0.Tracks.getD x13.toNat default)).length : Int) - (1 : Int))).toNat) i j = gl cs_Key (([] : List Key) ++ (a0.Tracks.getD x13.toNat default)) i j) ∧ Tt ∧ Tt)) [.no, .no, .no, .no, .objA 101 ((([] : List Key) ++ (a0.Tracks.getD x13.toNat default)).take (IntKind.i64.wrap (((([] : List Key) ++ (a0.Tracks.getD x13.toNat default)).length : Int) - (1 : Int))).toNat).length (gl cs_Key ((([] : List Key) ++ (a0.Tracks.getD x13.toNat default)).take (IntKind.i64.wrap (((([] : List Key) ++ (a0.Tracks.getD x13.toNat default)).length : Int) - (1 : Int))).toNat))] [2, 3, 4, 6, 7, 8, 45, 46] [1, 2, 3, 4, 36, 101] ⟨tr, tr, tr, tr, ⟨rfl, c25.1, c25.2, (gl_cut (sz := 5) (cs := cs_Key) c25.1 c25.2).1, (gl_cut c25.1 c25.2).2⟩, tr, tr⟩ ?_
        refine thenQ_normal ?_
        refine AW.seq ?_
        refine AW.seq ?_
        obtain ⟨c26, h⟩ := chk_some h
        refine AW.rA ⟨[(2, (vp 1 0)), (3, (vp 2 0)), (4, (vp 3 0)), (6, (vp 4 0)), (7, (vc (.int .i64 x13))), (8, (.v (.one (.arr 101)))), (45, (vc (.int .i64 (a0.Tracks.length : Int)))), (46, (vc (.int .i64 x13))), (87, (vc (.int .i64 ((a1.Tracks.getD x13.toNat default).length : Int)))), (88, (vc (.int .i64 (0 : Int))))], [(1, (.box [(.c (.int .i64 a0.Length)), (.c (.int .i64 a0.Kind)), (.c (sl 1 (csL 5 cs_Key) a0.Tracks)), (.c (sl 4 cs_RootKey a0.Roots))])), (2, (.box [(.c (.int .i64 a1.Length)), (.c (.int .i64 a1.Kind)), (.c (sl 1 (csL 5 cs_Key) a1.Tracks)), (.c (sl 4 cs_RootKey a1.Roots))])), (3, (.box [(.c (.int .i64 (0 : Int))), (.c (.int .i64 (0 : Int))), .nils, .nils])), (4, (.box [(.c (.int .i64 (IntKind.i64.wrap (a0.Length + a1.Length)))), (.c (.int .i64 a0.Kind)), (.lst 36 x14.length 1 (gl (csL 5 cs_Key) x14)), .nils])), (36, (.lst x14.length 1 (gl (csL 5 cs_Key) x14))), (101, (.arr false ((([] : List Key) ++ (a0.Tracks.getD x13.toNat default)).take (IntKind.i64.wrap (((([] : List Key) ++ (a0.Tracks.getD x13.toNat default)).length : Int) - (1 : Int))).toNat).length 5 (gl cs_Key ((([] : List Key) ++ (a0.Tracks.getD x13.toNat default)).take (IntKind.i64.wrap (((([] : List Key) ++ (a0.Tracks.getD x13.toNat default)).length : Int) - (1 : Int))).toNat))))]⟩ (Tt ∧ T2 ((0 ≤ x13 ∧ x13 < (a1.Tracks.length : Int)) ∧ Tt ∧ T2 Tt)) [] [2, 3, 4, 6, 7, 8, 45, 46, 87, 88] [1, 2, 3, 4, 36, 101] ⟨tr, tr, tr, c26, tr, tr, tr, tr⟩ ?_
        refine thenQ_normal ?_
        obtain ⟨j35, e36, h⟩ := bind_some h
        refine AW.joinS (s2 := ⟨[(2, (vp 1 0)), (3, (vp 2 0)), (4, (vp 3 0)), (6, (vp 4 0)), (8, (.v (.one (.arr 101)))), (45, (vc (.int .i64 (a0.Tracks.length : Int)))), (46, (vc (.int .i64 x13)))], [(1, (.box [(.c (.int .i64 a0.Length)), (.c (.int .i64 a0.Kind)), (.c (sl 1 (csL 5 cs_Key) a0.Tracks)), (.c (sl 4 cs_RootKey a0.Roots))])), (2, (.box [(.c (.int .i64 a1.Length)), (.c (.int .i64 a1.Kind)), (.c (sl 1 (csL 5 cs_Key) a1.Tracks)), (.c (sl 4 cs_RootKey a1.Roots))])), (3, (.box [(.c (.int .i64 (0 : Int))), (.c (.int .i64 (0 : Int))), .nils, .nils])), (4, (.box [(.c (.int .i64 (IntKind.i64.wrap (a0.Length + a1.Length)))), (.c (.int .i64 a0.Kind)), (.lst 36 x14.length 1 (gl (csL 5 cs_Key) x14)), .nils])), (36, (.lst x14.length 1 (gl (csL 5 cs_Key) x14))), (101, (.arr false j35.length 5 (gl cs_Key j35)))]⟩) ?_ ?_
        · replace h := e36
          refine AW.block ?_
          refine AW.loopQ (σ := Nat × Int × (List Key)) (fun p => ⟨[(2, (vp 1 0)), (3, (vp 2 0)), (4, (vp 3 0)), (6, (vp 4 0)), (7, (vc (.int .i64 x13))), (8, (.v (.one (.arr 101)))), (45, (vc (.int .i64 (a0.Tracks.length : Int)))), (46, (vc (.int .i64 x13))), (87, (vc (.int .i64 ((a1.Tracks.getD x13.toNat default).length : Int)))), (88, (vc (.int .i64 p.2.1)))], [(1, (.box [(.c (.int .i64 a0.Length)), (.c (.int .i64 a0.Kind)), (.c (sl 1 (csL 5 cs_Key) a0.Tracks)), (.c (sl 4 cs_RootKey a0.Roots))])), (2, (.box [(.c (.int .i64 a1.Length)), (.c (.int .i64 a1.Kind)), (.c (sl 1 (csL 5 cs_Key) a1.Tracks)), (.c (sl 4 cs_RootKey a1.Roots))])), (3, (.box [(.c (.int .i64 (0 : Int))), (.c (.int .i64 (0 : Int))), .nils, .nils])), (4, (.box [(.c (.int .i64 (IntKind.i64.wrap (a0.Length + a1.Length)))), (.c (.int .i64 a0.Kind)), (.lst 36 x14.length 1 (gl (csL 5 cs_Key) x14)), .nils])), (36, (.lst x14.length 1 (gl (csL 5 cs_Key) x14))), (101, (.arr false p.2.2.length 5 (gl cs_Key p.2.2)))]⟩) (fun p => spec_JoinClips_l8 K a0 a1 x13 p.1 p.2.1 p.2.2 = some j35) (fun p => p.1) (K, (0 : Int), ((([] : List Key) ++ (a0.Tracks.getD x13.toNat default)).take (IntKind.i64.wrap (((([] : List Key) ++ (a0.Tracks.getD x13.toNat default)).length : Int) - (1 : Int))).toNat)) h ?_
          clear h
          rintro ⟨k, x39, x40⟩ h
          replace h : spec_JoinClips_l8 K a0 a1 x13 k x39 x40 = some j35 := h
          show AW _ _ (⟨[(2, (vp 1 0)), (3, (vp 2 0)), (4, (vp 3 0)), (6, (vp 4 0)), (7, (vc (.int .i64 x13))), (8, (.v (.one (.arr 101)))), (45, (vc (.int .i64 (a0.Tracks.length : Int)))), (46, (vc (.int .i64 x13))), (87, (vc (.int .i64 ((a1.Tracks.getD x13.toNat default).length : Int)))), (88, (vc (.int .i64 x39)))], [(1, (.box [(.c (.int .i64 a0.Length)), (.c (.int .i64 a0.Kind)), (.c (sl 1 (csL 5 cs_Key) a0.Tracks)), (.c (sl 4 cs_RootKey a0.Roots))])), (2, (.box [(.c (.int .i64 a1.Length)), (.c (.int .i64 a1.Kind)), (.c (sl 1 (csL 5 cs_Key) a1.Tracks)), (.c (sl 4 cs_RootKey a1.Roots))])), (3, (.box [(.c (.int .i64 (0 : Int))), (.c (.int .i64 (0 : Int))), .nils, .nils])), (4, (.box [(.c (.int .i64 (IntKind.i64.wrap (a0.Length + a1.Length)))), (.c (.int .i64 a0.Kind)), (.lst 36 x14.length 1 (gl (csL 5 cs_Key) x14)), .nils])), (36, (.lst x14.length 1 (gl (csL 5 cs_Key) x14))), (101, (.arr false x40.length 5 (gl cs_Key x40)))]⟩ : St) _
          obtain _ | k := k
          · rw [spec_JoinClips_l8] at h; cases h
          rw [spec_JoinClips_l8] at h
          refine AW.seq (AW.rA ⟨[(2, (vp 1 0)), (3, (vp 2 0)), (4, (vp 3 0)), (6, (vp 4 0)), (7, (vc (.int .i64 x13))), (8, (.v (.one (.arr 101)))), (45, (vc (.int .i64 (a0.Tracks.length : Int)))), (46, (vc (.int .i64 x13))), (87, (vc (.int .i64 ((a1.Tracks.getD x13.toNat default).length : Int)))), (88, (vc (.int .i64 x39))), (89, (vc (.bool (decide (x39 < ((a1.Tracks.getD x13.toNat default).length : Int))))))], [(1, (.box [(.c (.int .i64 a0.Length)), (.c (.int .i64 a0.Kind)), (.c (sl 1 (csL 5 cs_Key) a0.Tracks)), (.c (sl 4 cs_RootKey a0.Roots))])), (2, (.box [(.c (.int .i64 a1.Length)), (.c (.int .i64 a1.Kind)), (.c (sl 1 (csL 5 cs_Key) a1.Tracks)), (.c (sl 4 cs_RootKey a1.Roots))])), (3, (.box [(.c (.int .i64 (0 : Int))), (.c (.int .i64 (0 : Int))), .nils, .nils])), (4, (.box [(.c (.int .i64 (IntKind.i64.wrap (a0.Length + a1.Length)))), (.c (.int .i64 a0.Kind)), (.lst 36 x14.length 1 (gl (csL 5 cs_Key) x14)), .nils])), (36, (.lst x14.length 1 (gl (csL 5 cs_Key) x14))), (101, (.arr false x40.length 5 (gl cs_Key x40)))]⟩ (Tt ∧ Tt) [] [2, 3, 4, 6, 7, 8, 45, 46, 87, 88, 89] [1, 2, 3, 4, 36, 101] ⟨tr, tr⟩ (thenQ_normal ?_))
          refine AW.seq ?_
          rcases ite2_cases h with ⟨b41, h⟩ | ⟨b41, h⟩
          · refine AW.cond_t rfl b41 ?_
            refine AW.skip ?_
            refine thenQ_normal ?_
            refine AW.seq ?_
            refine AW.block ?_
            refine AW.seq (AW.rA ⟨[(2, (vp 1 0)), (3, (vp 2 0)), (4, (vp 3 0)), (6, (vp 4 0)), (7, (vc (.int .i64 x13))), (8, (.v (.one (.arr 101)))), (9, (vc (.int .i64 x39))), (45, (vc (.int .i64 (a0.Tracks.length : Int)))), (46, (vc (.int .i64 x13))), (87, (vc (.int .i64 ((a1.Tracks.getD x13.toNat default).length : Int)))), (88, (vc (.int .i64 x39)))], [(1, (.box [(.c (.int .i64 a0.Length)), (.c (.int .i64 a0.Kind)), (.c (sl 1 (csL 5 cs_Key) a0.Tracks)), (.c (sl 4 cs_RootKey a0.Roots))])), (2, (.box [(.c (.int .i64 a1.Length)), (.c (.int .i64 a1.Kind)), (.c (sl 1 (csL 5 cs_Key) a1.Tracks)), (.c (sl 4 cs_RootKey a1.Roots))])), (3, (.box [(.c (.int .i64 (0 : Int))), (.c (.int .i64 (0 : Int))), .nils, .nils])), (4, (.box [(.c (.int .i64 (IntKind.i64.wrap (a0.Length + a1.Length)))), (.c (.int .i64 a0.Kind)), (.lst 36 x14.length 1 (gl (csL 5 cs_Key) x14)), .nils])), (36, (.lst x14.length 1 (gl (csL 5 cs_Key) x14))), (101, (.arr false x40.length 5 (gl cs_Key x40)))]⟩ (T2 Tt) [] [2, 3, 4, 6, 7, 8, 9, 45, 46, 87, 88] [1, 2, 3, 4, 36, 101] ⟨tr, tr, tr⟩ (thenQ_normal ?_))
            obtain ⟨c42, h⟩ := chk_some h
            obtain ⟨c43, h⟩ := chk_some h
            obtain ⟨c44, h⟩ := chk_some h
            refine AW.dA ⟨[(2, (vp 1 0)), (3, (vp 2 0)), (4, (vp 3 0)), (6, (vp 4 0)), (7, (vc (.int .i64 x13))), (8, (.v (.one (.arr 113)))), (45, (vc (.int .i64 (a0.Tracks.length : Int)))), (46, (vc (.int .i64 x13))), (87, (vc (.int .i64 ((a1.Tracks.getD x13.toNat default).length : Int)))), (88, (vc (.int .i64 x39)))], [(1, (.box [(.c (.int .i64 a0.Length)), (.c (.int .i64 a0.Kind)), (.c (sl 1 (csL 5 cs_Key) a0.Tracks)), (.c (sl 4 cs_RootKey a0.Roots))])), (2, (.box [(.c (.int .i64 a1.Length)), (.c (.int .i64 a1.Kind)), (.c (sl 1 (csL 5 cs_Key) a1.Tracks)), (.c (sl 4 cs_RootKey a1.Roots))])), (3, (.box [(.c (.int .i64 (0 : Int))), (.c (.int .i64 (0 : Int))), .nils, .nils])), (4, (.box [(.c (.int .i64 (IntKind.i64.wrap (a0.Length + a1.Length)))), (.c (.int .i64 a0.Kind)), (.lst 36 x14.length 1 (gl (csL 5 cs_Key) x14)), .nils])), (36, (.lst x14.length 1 (gl (csL 5 cs_Key) x14))), (113, (.arr false (x40 ++ ([(Key.mk (IntKind.i64.wrap ((((a1.Tracks.getD x13.toNat default).getD x39.toNat default).At) + a0.Length)) (((a1.Tracks.getD x13.toNat default).getD x39.toNat default).Turn))])).length 5 (gl cs_Key (x40 ++ ([(Key.mk (IntKind.i64.wrap ((((a1.Tracks.getD x13.toNat default).getD x39.toNat default).At) + a0.Length)) (((a1.Tracks.getD x13.toNat default).getD x39.toNat default).Turn))])))))]⟩ ((T4 ((0 ≤ x13 ∧ x13 < (a1.Tracks.length : Int)) ∧ T2 ((0 ≤ x39 ∧ x39 < ((a1.Tracks.getD x13.toNat default).length : Int)) ∧ T4 (T4 ((0 ≤ x13 ∧ x13 < (a1.Tracks.length : Int)) ∧ T2 ((0 ≤ x39 ∧ x39 < ((a1.Tracks.getD x13.toNat default).length : Int)) ∧ Tt ∧ T2 ((([(Key.mk (IntKind.i64.wrap ((((a1.Tracks.getD x13.toNat default).getD x39.toNat default).At) + a0.Length)) (((a1.Tracks.getD x13.toNat default).getD x39.toNat default).Turn))]).length = 1 ∧ (((.int .i64 (IntKind.i64.wrap ((((a1.Tracks.getD x13.toNat default).getD x39.toNat default).At) + a0.Length))) : C) = (.int .i64 (IntKind.i64.wrap ((((a1.Tracks.getD x13.toNat default).getD x39.toNat default).At) + a0.Length))) ∧ Tt) ∧ (((.flt .f32 ((((a1.Tracks.getD x13.toNat default).getD x39.toNat default).Turn).W).bits) : C) = (.flt .f32 ((((a1.Tracks.getD x13.toNat default).getD x39.toNat default).Turn).W).bits) ∧ Tt) ∧ (((.flt .f32 ((((a1.Tracks.getD x13.toNat default).getD x39.toNat default).Turn).X).bits) : C) = (.flt .f32 ((((a1.Tracks.getD x13.toNat default).getD x39.toNat default).Turn).X).bits) ∧ Tt) ∧ (((.flt .f32 ((((a1.Tracks.getD x13.toNat default).getD x39.toNat default).Turn).Y).bits) : C) = (.flt .f32 ((((a1.Tracks.getD x13.toNat default).getD x39.toNat default).Turn).Y).bits) ∧ Tt) ∧ (((.flt .f32 ((((a1.Tracks.getD x13.toNat default).getD x39.toNat default).Turn).Z).bits) : C) = (.flt .f32 ((((a1.Tracks.getD x13.toNat default).getD x39.toNat default).Turn).Z).bits) ∧ Tt) ∧ Tt) ∧ ((x40 ++ ([(Key.mk (IntKind.i64.wrap ((((a1.Tracks.getD x13.toNat default).getD x39.toNat default).At) + a0.Length)) (((a1.Tracks.getD x13.toNat default).getD x39.toNat default).Turn))])).length = x40.length + ([(Key.mk (IntKind.i64.wrap ((((a1.Tracks.getD x13.toNat default).getD x39.toNat default).At) + a0.Length)) (((a1.Tracks.getD x13.toNat default).getD x39.toNat default).Turn))]).length ∧ AppOb (x40.length) (([(Key.mk (IntKind.i64.wrap ((((a1.Tracks.getD x13.toNat default).getD x39.toNat default).At) + a0.Length)) (((a1.Tracks.getD x13.toNat default).getD x39.toNat default).Turn))]).length) 5 (gl cs_Key x40) (gl cs_Key ([(Key.mk (IntKind.i64.wrap ((((a1.Tracks.getD x13.toNat default).getD x39.toNat default).At) + a0.Length)) (((a1.Tracks.getD x13.toNat default).getD x39.toNat default).Turn))])) (gl cs_Key (x40 ++ ([(Key.mk (IntKind.i64.wrap ((((a1.Tracks.getD x13.toNat default).getD x39.toNat default).At) + a0.Length)) (((a1.Tracks.getD x13.toNat default).getD x39.toNat default).Turn))]))) ∧ (∀ i j, i < ([(Key.mk (IntKind.i64.wrap ((((a1.Tracks.getD x13.toNat default).getD x39.toNat default).At) + a0.Length)) (((a1.Tracks.getD x13.toNat default).getD x39.toNat default).Turn))]).length → j < 5 → scalarC (gl cs_Key ([(Key.mk (IntKind.i64.wrap ((((a1.Tracks.getD x13.toNat default).getD x39.toNat default).At) + a0.Length)) (((a1.Tracks.getD x13.toNat default).getD x39.toNat default).Turn))]) i j)) ∧ (x40.length + ([(Key.mk (IntKind.i64.wrap ((((a1.Tracks.getD x13.toNat default).getD x39.toNat default).At) + a0.Length)) (((a1.Tracks.getD x13.toNat default).getD x39.toNat default).Turn))]).length) * 24 ≤ 140737488355328) ∧ Tt))))))) ∧ (Tt ∧ Tt)) 25 [.no, .no, .no, .no, .no, .no, .no, .no, .no, .no, .no, .no, .no, .no, .no, .no, .no, .no, .no, .no, .no, .no, .no, .obj 112 ([(Key.mk (IntKind.i64.wrap ((((a1.Tracks.getD x13.toNat default).getD x39.toNat default).At) + a0.Length)) (((a1.Tracks.getD x13.toNat default).getD x39.toNat default).Turn))]).length (gl cs_Key ([(Key.mk (IntKind.i64.wrap ((((a1.Tracks.getD x13.toNat default).getD x39.toNat default).At) + a0.Length)) (((a1.Tracks.getD x13.toNat default).getD x39.toNat default).Turn))])), .objKA 113 (x40 ++ ([(Key.mk (IntKind.i64.wrap ((((a1.Tracks.getD x13.toNat default).getD x39.toNat default).At) + a0.Length)) (((a1.Tracks.getD x13.toNat default).getD x39.toNat default).Turn))])).length (gl cs_Key (x40 ++ ([(Key.mk (IntKind.i64.wrap ((((a1.Tracks.getD x13.toNat default).getD x39.toNat default).At) + a0.Length)) (((a1.Tracks.getD x13.toNat default).getD x39.toNat default).Turn))])))] [2, 3, 4, 6, 7, 8, 45, 46, 87, 88] [1, 2, 3, 4, 36, 113] ⟨⟨tr, tr, tr, tr, c42, tr, tr, c43, tr, tr, tr, tr, tr, tr, tr, tr, c42, tr, tr, c43, tr, tr, tr, ⟨rfl, ⟨⟨rfl, tr⟩, ⟨rfl, tr⟩, ⟨rfl, tr⟩, ⟨rfl, tr⟩, ⟨rfl, tr⟩, tr⟩⟩, ⟨List.length_append, gl_append, gl_scalar sc_Key _, c44⟩, tr⟩, ⟨tr, tr⟩⟩ ?_
            refine blockQ_normal ?_
            refine thenQ_normal ?_
            refine AW.rA ⟨[(2, (vp 1 0)), (3, (vp 2 0)), (4, (vp 3 0)), (6, (vp 4 0)), (7, (vc (.int .i64 x13))), (8, (.v (.one (.arr 113)))), (45, (vc (.int .i64 (a0.Tracks.length : Int)))), (46, (vc (.int .i64 x13))), (87, (vc (.int .i64 ((a1.Tracks.getD x13.toNat default).length : Int)))), (88, (vc (.int .i64 (IntKind.i64.wrap (x39 + (1 : Int))))))], [(1, (.box [(.c (.int .i64 a0.Length)), (.c (.int .i64 a0.Kind)), (.c (sl 1 (csL 5 cs_Key) a0.Tracks)), (.c (sl 4 cs_RootKey a0.Roots))])), (2, (.box [(.c (.int .i64 a1.Length)), (.c (.int .i64 a1.Kind)), (.c (sl 1 (csL 5 cs_Key) a1.Tracks)), (.c (sl 4 cs_RootKey a1.Roots))])), (3, (.box [(.c (.int .i64 (0 : Int))), (.c (.int .i64 (0 : Int))), .nils, .nils])), (4, (.box [(.c (.int .i64 (IntKind.i64.wrap (a0.Length + a1.Length)))), (.c (.int .i64 a0.Kind)), (.lst 36 x14.length 1 (gl (csL 5 cs_Key) x14)), .nils])), (36, (.lst x14.length 1 (gl (csL 5 cs_Key) x14))), (113, (.arr false (x40 ++ ([(Key.mk (IntKind.i64.wrap ((((a1.Tracks.getD x13.toNat default).getD x39.toNat default).At) + a0.Length)) (((a1.Tracks.getD x13.toNat default).getD x39.toNat default).Turn))])).length 5 (gl cs_Key (x40 ++ ([(Key.mk (IntKind.i64.wrap ((((a1.Tracks.getD x13.toNat default).getD x39.toNat default).At) + a0.Length)) (((a1.Tracks.getD x13.toNat default).getD x39.toNat default).Turn))])))))]⟩ (T2 Tt) [] [2, 3, 4, 6, 7, 8, 45, 46, 87, 88] [1, 2, 3, 4, 36, 113] ⟨tr, tr, tr⟩ ?_
            exact loopQ_normal (k, (IntKind.i64.wrap (x39 + (1 : Int))), (x40 ++ ([(Key.mk (IntKind.i64.wrap ((((a1.Tracks.getD x13.toNat default).getD x39.toNat default).At) + a0.Length)) (((a1.Tracks.getD x13.toNat default).getD x39.toNat default).Turn))]))) h (Nat.lt_succ_self k) (Sub.trans (Sub.swap 101 113 _ (by kernel_rfl) (by kernel_rfl)) (Sub.keep [2, 3, 4, 6, 7, 8, 45, 46, 87, 88] [1, 2, 3, 4, 36, 101] (by kernel_rfl) (by kernel_rfl)))
          · refine AW.cond_f rfl b41 ?_
            refine AW.exit ?_
            refine thenQ_exit ?_
            refine loopQ_exit ?_
            refine blockQ_exit ?_
            replace h := some_eq h
            subst h
            exact ⟨rfl, Sub.keep [2, 3, 4, 6, 8, 45, 46] [1, 2, 3, 4, 36, 101] (by kernel_rfl) (by kernel_rfl)⟩
        refine thenQ_normal ?_
        obtain ⟨c45, h⟩ := chk_some h
        refine AW.rA ⟨[(2, (vp 1 0)), (3, (vp 2 0)), (4, (vp 3 0)), (6, (vp 4 0)), (45, (vc (.int .i64 (a0.Tracks.length : Int)))), (46, (vc (.int .i64 x13)))], [(1, (.box [(.c (.int .i64 a0.Length)), (.c (.int .i64 a0.Kind)), (.c (sl 1 (csL 5 cs_Key) a0.Tracks)), (.c (sl 4 cs_RootKey a0.Roots))])), (2, (.box [(.c (.int .i64 a1.Length)), (.c (.int .i64 a1.Kind)), (.c (sl 1 (csL 5 cs_Key) a1.Tracks)), (.c (sl 4 cs_RootKey a1.Roots))])), (3, (.box [(.c (.int .i64 (0 : Int))), (.c (.int .i64 (0 : Int))), .nils, .nils])), (4, (.box [(.c (.int .i64 (IntKind.i64.wrap (a0.Length + a1.Length)))), (.c (.int .i64 a0.Kind)), (.lst 115 (x14 ++ ([j35])).length 1 (gl (csL 5 cs_Key) (x14 ++ ([j35])))), .nils])), (115, (.lst (x14 ++ ([j35])).length 1 (gl (csL 5 cs_Key) (x14 ++ ([j35])))))]⟩ (Tt ∧ T2 ((([j35]).length = 1 ∧ (Eqc (sl 5 cs_Key j35)) ∧ Tt) ∧ ((x14 ++ ([j35])).length = x14.length + ([j35]).length ∧ AppOb (x14.length) (([j35]).length) 1 (gl (csL 5 cs_Key) x14) (gl (csL 5 cs_Key) ([j35])) (gl (csL 5 cs_Key) (x14 ++ ([j35]))) ∧ Tt ∧ (x14.length + ([j35]).length) * 24 ≤ 140737488355328) ∧ T2 Tt)) [.no, .no, .no, .obj 114 ([j35]).length (gl (csL 5 cs_Key) ([j35])), .obj 115 (x14 ++ ([j35])).length (gl (csL 5 cs_Key) (x14 ++ ([j35])))] [2, 3, 4, 6, 45, 46] [1, 2, 3, 4, 115] ⟨tr, tr, tr, ⟨rfl, ⟨rfl, tr⟩⟩, ⟨List.length_append, gl_append, tr, c45⟩, tr, tr, tr⟩ ?_
        refine blockQ_normal ?_
        refine thenQ_normal ?_
        refine AW.rA ⟨[(2, (vp 1 0)), (3, (vp 2 0)), (4, (vp 3 0)), (6, (vp 4 0)), (45, (vc (.int .i64 (a0.Tracks.length : Int)))), (46, (vc (.int .i64 (IntKind.i64.wrap (x13 + (1 : Int))))))], [(1, (.box [(.c (.int .i64 a0.Length)), (.c (.int .i64 a0.Kind)), (.c (sl 1 (csL 5 cs_Key) a0.Tracks)), (.c (sl 4 cs_RootKey a0.Roots))])), (2, (.box [(.c (.int .i64 a1.Length)), (.c (.int .i64 a1.Kind)), (.c (sl 1 (csL 5 cs_Key) a1.Tracks)), (.c (sl 4 cs_RootKey a1.Roots))])), (3, (.box [(.c (.int .i64 (0 : Int))), (.c (.int .i64 (0 : Int))), .nils, .nils])), (4, (.box [(.c (.int .i64 (IntKind.i64.wrap (a0.Length + a1.Length)))), (.c (.int .i64 a0.Kind)), (.lst 115 (x14 ++ ([j35])).length 1 (gl (csL 5 cs_Key) (x14 ++ ([j35])))), .nils])), (115, (.lst (x14 ++ ([j35])).length 1 (gl (csL 5 cs_Key) (x14 ++ ([j35])))))]⟩ (T2 Tt) [] [2, 3, 4, 6, 45, 46] [1, 2, 3, 4, 115] ⟨tr, tr, tr⟩ ?_
        exact loopQ_normal (k, (IntKind.i64.wrap (x13 + (1 : Int))), (x14 ++ ([j35]))) h (Nat.lt_succ_self k) (Sub.trans (Sub.swap 36 115 _ (by kernel_rfl) (by kernel_rfl)) (Sub.keep [2, 3, 4, 6, 45, 46] [1, 2, 3, 4, 36] (by kernel_rfl) (by kernel_rfl)))
      · refine AW.cond_f rfl b24 ?_
        refine AW.skip ?_
        refine thenQ_normal ?_
        refine AW.seq ?_
        refine AW.seq ?_
        obtain ⟨c46, h⟩ := chk_some h
        refine AW.rA ⟨[(2, (vp 1 0)), (3, (vp 2 0)), (4, (vp 3 0)), (6, (vp 4 0)), (7, (vc (.int .i64 x13))), (8, (.v (.one (.arr 100)))), (45, (vc (.int .i64 (a0.Tracks.length : Int)))), (46, (vc (.int .i64 x13))), (87, (vc (.int .i64 ((a1.Tracks.getD x13.toNat default).length : Int)))), (88, (vc (.int .i64 (0 : Int))))], [(1, (.box [(.c (.int .i64 a0.Length)), (.c (.int .i64 a0.Kind)), (.c (sl 1 (csL 5 cs_Key) a0.Tracks)), (.c (sl 4 cs_RootKey a0.Roots))])), (2, (.box [(.c (.int .i64 a1.Length)), (.c (.int .i64 a1.Kind)), (.c (sl 1 (csL 5 cs_Key) a1.Tracks)), (.c (sl 4 cs_RootKey a1.Roots))])), (3, (.box [(.c (.int .i64 (0 : Int))), (.c (.int .i64 (0 : Int))), .nils, .nils])), (4, (.box [(.c (.int .i64 (IntKind.i64.wrap (a0.Length + a1.Length)))), (.c (.int .i64 a0.Kind)), (.lst 36 x14.length 1 (gl (csL 5 cs_Key) x14)), .nils])), (36, (.lst x14.length 1 (gl (csL 5 cs_Key) x14))), (100, (.arr false (([] : List Key) ++ (a0.Tracks.getD x13.toNat default)).length 5 (gl cs_Key (([] : List Key) ++ (a0.Tracks.getD x13.toNat default)))))]⟩ (Tt ∧ T2 ((0 ≤ x13 ∧ x13 < (a1.Tracks.length : Int)) ∧ Tt ∧ T2 Tt)) [] [2, 3, 4, 6, 7, 8, 45, 46, 87, 88] [1, 2, 3, 4, 36, 100] ⟨tr, tr, tr, c46, tr, tr, tr, tr⟩ ?_
        refine thenQ_normal ?_
        obtain ⟨j55, e56, h⟩ := bind_some h
        refine AW.joinS (s2 := ⟨[(2, (vp 1 0)), (3, (vp 2 0)), (4, (vp 3 0)), (6, (vp 4 0)), (8, (.v (.one (.arr 100)))), (45, (vc (.int .i64 (a0.Tracks.length : Int)))), (46, (vc (.int .i64 x13)))], [(1, (.box [(.c (.int .i64 a0.Length)), (.c (.int .i64 a0.Kind)), (.c (sl 1 (csL 5 cs_Key) a0.Tracks)), (.c (sl 4 cs_RootKey a0.Roots))])), (2, (.box [(.c (.int .i64 a1.Length)), (.c (.int .i64 a1.Kind)), (.c (sl 1 (csL 5 cs_Key) a1.Tracks)), (.c (sl 4 cs_RootKey a1.Roots))])), (3, (.box [(.c (.int .i64 (0 : Int))), (.c (.int .i64 (0 : Int))), .nils, .nils])), (4, (.box [(.c (.int .i64 (IntKind.i64.wrap (a0.Length + a1.Length)))), (.c (.int .i64 a0.Kind)), (.lst 36 x14.length 1 (gl (csL 5 cs_Key) x14)), .nils])), (36, (.lst x14.length 1 (gl (csL 5 cs_Key) x14))), (100, (.arr false j55.length 5 (gl cs_Key j55)))]⟩) ?_ ?_
        · replace h := e56
          refine AW.block ?_
          refine AW.loopQ (σ := Nat × Int × (List Key)) (fun p => ⟨[(2, (vp 1 0)), (3, (vp 2 0)), (4, (vp 3 0)), (6, (vp 4 0)), (7, (vc (.int .i64 x13))), (8, (.v (.one (.arr 100)))), (45, (vc (.int .i64 (a0.Tracks.length : Int)))), (46, (vc (.int .i64 x13))), (87, (vc (.int .i64 ((a1.Tracks.getD x13.toNat default).length : Int)))), (88, (vc (.int .i64 p.2.1)))], [(1, (.box [(.c (.int .i64 a0.Length)), (.c (.int .i64 a0.Kind)), (.c (sl 1 (csL 5 cs_Key) a0.Tracks)), (.c (sl 4 cs_RootKey a0.Roots))])), (2, (.box [(.c (.int .i64 a1.Length)), (.c (.int .i64 a1.Kind)), (.c (sl 1 (csL 5 cs_Key) a1.Tracks)), (.c (sl 4 cs_RootKey a1.Roots))])), (3, (.box [(.c (.int .i64 (0 : Int))), (.c (.int .i64 (0 : Int))), .nils, .nils])), (4, (.box [(.c (.int .i64 (IntKind.i64.wrap (a0.Length + a1.Length)))), (.c (.int .i64 a0.Kind)), (.lst 36 x14.length 1 (gl (csL 5 cs_Key) x14)), .nils])), (36, (.lst x14.length 1 (gl (csL 5 cs_Key) x14))), (100, (.arr false p.2.2.length 5 (gl cs_Key p.2.2)))]⟩) (fun p => spec_JoinClips_l9 K a0 a1 x13 p.1 p.2.1 p.2.2 = some j55) (fun p => p.1) (K, (0 : Int), (([] : List Key) ++ (a0.Tracks.getD x13.toNat default))) h ?_
          clear h
          rintro ⟨k, x59, x60⟩ h
          replace h : spec_JoinClips_l9 K a0 a1 x13 k x59 x60 = some j55 := h
          show AW _ _ (⟨[(2, (vp 1 0)), (3, (vp 2 0)), (4, (vp 3 0)), (6, (vp 4 0)), (7, (vc (.int .i64 x13))), (8, (.v (.one (.arr 100)))), (45, (vc (.int .i64 (a0.Tracks.length : Int)))), (46, (vc (.int .i64 x13))), (87, (vc (.int .i64 ((a1.Tracks.getD x13.toNat default).length : Int)))), (88, (vc (.int .i64 x59)))], [(1, (.box [(.c (.int .i64 a0.Length)), (.c (.int .i64 a0.Kind)), (.c (sl 1 (csL 5 cs_Key) a0.Tracks)), (.c (sl 4 cs_RootKey a0.Roots))])), (2, (.box [(.c (.int .i64 a1.Length)), (.c (.int .i64 a1.Kind)), (.c (sl 1 (csL 5 cs_Key) a1.Tracks)), (.c (sl 4 cs_RootKey a1.Roots))])), (3, (.box [(.c (.int .i64 (0 : Int))), (.c (.int .i64 (0 : Int))), .nils, .nils])), (4, (.box [(.c (.int .i64 (IntKind.i64.wrap (a0.Length + a1.Length)))), (.c (.int .i64 a0.Kind)), (.lst 36 x14.length 1 (gl (csL 5 cs_Key) x14)), .nils])), (36, (.lst x14.length 1 (gl (csL 5 cs_Key) x14))), (100, (.arr false x60.length 5 (gl cs_Key x60)))]⟩ : St) _
          obtain _ | k := k
          · rw [spec_JoinClips_l9] at h; cases h
          rw [spec_JoinClips_l9] at h
          refine AW.seq (AW.rA ⟨[(2, (vp 1 0)), (3, (vp 2 0)), (4, (vp 3 0)), (6, (vp 4 0)), (7, (vc (.int .i64 x13))), (8, (.v (.one (.arr 100)))), (45, (vc (.int .i64 (a0.Tracks.length : Int)))), (46, (vc (.int .i64 x13))), (87, (vc (.int .i64 ((a1.Tracks.getD x13.toNat default).length : Int)))), (88, (vc (.int .i64 x59))), (89, (vc (.bool (decide (x59 < ((a1.Tracks.getD x13.toNat default).length : Int))))))], [(1, (.box [(.c (.int .i64 a0.Length)), (.c (.int .i64 a0.Kind)), (.c (sl 1 (csL 5 cs_Key) a0.Tracks)), (.c (sl 4 cs_RootKey a0.Roots))])), (2, (.box [(.c (.int .i64 a1.Length)), (.c (.int .i64 a1.Kind)), (.c (sl 1 (csL 5 cs_Key) a1.Tracks)), (.c (sl 4 cs_RootKey a1.Roots))])), (3, (.box [(.c (.int .i64 (0 : Int))), (.c (.int .i64 (0 : Int))), .nils, .nils])), (4, (.box [(.c (.int .i64 (IntKind.i64.wrap (a0.Length + a1.Length)))), (.c (.int .i64 a0.Kind)), (.lst 36 x14.length 1 (gl (csL 5 cs_Key) x14)), .nils])), (36, (.lst x14.length 1 (gl (csL 5 cs_Key) x14))), (100, (.arr false x60.length 5 (gl cs_Key x60)))]⟩ (Tt ∧ Tt) [] [2, 3, 4, 6, 7, 8, 45, 46, 87, 88, 89] [1, 2, 3, 4, 36, 100] ⟨tr, tr⟩ (thenQ_normal ?_))
          refine AW.seq ?_
          rcases ite2_cases h with ⟨b61, h⟩ | ⟨b61, h⟩
          · refine AW.cond_t rfl b61 ?_
            refine AW.skip ?_
            refine thenQ_normal ?_
            refine AW.seq ?_
            refine AW.block ?_
            refine AW.seq (AW.rA ⟨[(2, (vp 1 0)), (3, (vp 2 0)), (4, (vp 3 0)), (6, (vp 4 0)), (7, (vc (.int .i64 x13))), (8, (.v (.one (.arr 100)))), (9, (vc (.int .i64 x59))), (45, (vc (.int .i64 (a0.Tracks.length : Int)))), (46, (vc (.int .i64 x13))), (87, (vc (.int .i64 ((a1.Tracks.getD x13.toNat default).length : Int)))), (88, (vc (.int .i64 x59)))], [(1, (.box [(.c (.int .i64 a0.Length)), (.c (.int .i64 a0.Kind)), (.c (sl 1 (csL 5 cs_Key) a0.Tracks)), (.c (sl 4 cs_RootKey a0.Roots))])), (2, (.box [(.c (.int .i64 a1.Length)), (.c (.int .i64 a1.Kind)), (.c (sl 1 (csL 5 cs_Key) a1.Tracks)), (.c (sl 4 cs_RootKey a1.Roots))])), (3, (.box [(.c (.int .i64 (0 : Int))), (.c (.int .i64 (0 : Int))), .nils, .nils])), (4, (.box [(.c (.int .i64 (IntKind.i64.wrap (a0.Length + a1.Length)))), (.c (.int .i64 a0.Kind)), (.lst 36 x14.length 1 (gl (csL 5 cs_Key) x14)), .nils])), (36, (.lst x14.length 1 (gl (csL 5 cs_Key) x14))), (100, (.arr false x60.length 5 (gl cs_Key x60)))]⟩ (T2 Tt) [] [2, 3, 4, 6, 7, 8, 9, 45, 46, 87, 88] [1, 2, 3, 4, 36, 100] ⟨tr, tr, tr⟩ (thenQ_normal ?_))
            obtain ⟨c62, h⟩ := chk_some h
            obtain ⟨c63, h⟩ := chk_some h
            obtain ⟨c64, h⟩ := chk_some h
            refine AW.dA ⟨[(2, (vp 1 0)), (3, (vp 2 0)), (4, (vp 3 0)), (6, (vp 4 0)), (7, (vc (.int .i64 x13))), (8, (.v (.one (.arr 127)))), (45, (vc (.int .i64 (a0.Tracks.length : Int)))), (46, (vc (.int .i64 x13))), (87, (vc (.int .i64 ((a1.Tracks.getD x13.toNat default).length : Int)))), (88, (vc (.int .i64 x59)))], [(1, (.box [(.c (.int .i64 a0.Length)), (.c (.int .i64 a0.Kind)), (.c (sl 1 (csL 5 cs_Key) a0.Tracks)), (.c (sl 4 cs_RootKey a0.Roots))])), (2, (.box [(.c (.int .i64 a1.Length)), (.c (.int .i64 a1.Kind)), (.c (sl 1 (csL 5 cs_Key) a1.Tracks)), (.c (sl 4 cs_RootKey a1.Roots))])), (3, (.box [(.c (.int .i64 (0 : Int))), (.c (.int .i64 (0 : Int))), .nils, .nils])), (4, (.box [(.c (.int .i64 (IntKind.i64.wrap (a0.Length + a1.Length)))), (.c (.int .i64 a0.Kind)), (.lst 36 x14.length 1 (gl (csL 5 cs_Key) x14)), .nils])), (36, (.lst x14.length 1 (gl (csL 5 cs_Key) x14))), (127, (.arr false (x60 ++ ([(Key.mk (IntKind.i64.wrap ((((a1.Tracks.getD x13.toNat default).getD x59.toNat default).At) + a0.Length)) (((a1.Tracks.getD x13.toNat default).getD x59.toNat default).Turn))])).length 5 (gl cs_Key (x60 ++ ([(Key.mk (IntKind.i64.wrap ((((a1.Tracks.getD x13.toNat default).getD x59.toNat default).At) + a0.Length)) (((a1.Tracks.getD x13.toNat default).getD x59.toNat default).Turn))])))))]⟩ ((T4 ((0 ≤ x13 ∧ x13 < (a1.Tracks.length : Int)) ∧ T2 ((0 ≤ x59 ∧ x59 < ((a1.Tracks.getD x13.toNat default).length : Int)) ∧ T4 (T4 ((0 ≤ x13 ∧ x13 < (a1.Tracks.length : Int)) ∧ T2 ((0 ≤ x59 ∧ x59 < ((a1.Tracks.getD x13.toNat default).length : Int)) ∧ Tt ∧ T2 ((([(Key.mk (IntKind.i64.wrap ((((a1.Tracks.getD x13.toNat default).getD x59.toNat default).At) + a0.Length)) (((a1.Tracks.getD x13.toNat default).getD x59.toNat default).Turn))]).length = 1 ∧ (((.int .i64 (IntKind.i64.wrap ((((a1.Tracks.getD x13.toNat default).getD x59.toNat default).At) + a0.Length))) : C) = (.int .i64 (IntKind.i64.wrap ((((a1.Tracks.getD x13.toNat default).getD x59.toNat default).At) + a0.Length))) ∧ Tt) ∧ (((.flt .f32 ((((a1.Tracks.getD x13.toNat default).getD x59.toNat default).Turn).W).bits) : C) = (.flt .f32 ((((a1.Tracks.getD x13.toNat default).getD x59.toNat default).Turn).W).bits) ∧ Tt) ∧ (((.flt .f32 ((((a1.Tracks.getD x13.toNat default).getD x59.toNat default).Turn).X).bits) : C) = (.flt .f32 ((((a1.Tracks.getD x13.toNat default).getD x59.toNat default).Turn).X).bits) ∧ Tt) ∧ (((.flt .f32 ((((a1.Tracks.getD x13.toNat default).getD x59.toNat default).Turn).Y).bits) : C) = (.flt .f32 ((((a1.Tracks.getD x13.toNat default).getD x59.toNat default).Turn).Y).bits) ∧ Tt) ∧ (((.flt .f32 ((((a1.Tracks.getD x13.toNat default).getD x59.toNat default).Turn).Z).bits) : C) = (.flt .f32 ((((a1.Tracks.getD x13.toNat default).getD x59.toNat default).Turn).Z).bits) ∧ Tt) ∧ Tt) ∧ ((x60 ++ ([(Key.mk (IntKind.i64.wrap ((((a1.Tracks.getD x13.toNat default).getD x59.toNat default).At) + a0.Length)) (((a1.Tracks.getD x13.toNat default).getD x59.toNat default).Turn))])).length = x60.length + ([(Key.mk (IntKind.i64.wrap ((((a1.Tracks.getD x13.toNat default).getD x59.toNat default).At) + a0.Length)) (((a1.Tracks.getD x13.toNat default).getD x59.toNat default).Turn))]).length ∧ AppOb (x60.length) (([(Key.mk (IntKind.i64.wrap ((((a1.Tracks.getD x13.toNat default).getD x59.toNat default).At) + a0.Length)) (((a1.Tracks.getD x13.toNat default).getD x59.toNat default).Turn))]).length) 5 (gl cs_Key x60) (gl cs_Key ([(Key.mk (IntKind.i64.wrap ((((a1.Tracks.getD x13.toNat default).getD x59.toNat default).At) + a0.Length)) (((a1.Tracks.getD x13.toNat default).getD x59.toNat default).Turn))])) (gl cs_Key (x60 ++ ([(Key.mk (IntKind.i64.wrap ((((a1.Tracks.getD x13.toNat default).getD x59.toNat default).At) + a0.Length)) (((a1.Tracks.getD x13.toNat default).getD x59.toNat default).Turn))]))) ∧ (∀ i j, i < ([(Key.mk (IntKind.i64.wrap ((((a1.Tracks.getD x13.toNat default).getD x59.toNat default).At) + a0.Length)) (((a1.Tracks.getD x13.toNat default).getD x59.toNat default).Turn))]).length → j < 5 → scalarC (gl cs_Key ([(Key.mk (IntKind.i64.wrap ((((a1.Tracks.getD x13.toNat default).getD x59.toNat default).At) + a0.Length)) (((a1.Tracks.getD x13.toNat default).getD x59.toNat default).Turn))]) i j)) ∧ (x60.length + ([(Key.mk (IntKind.i64.wrap ((((a1.Tracks.getD x13.toNat default).getD x59.toNat default).At) + a0.Length)) (((a1.Tracks.getD x13.toNat default).getD x59.toNat default).Turn))]).length) * 24 ≤ 140737488355328) ∧ Tt))))))) ∧ (Tt ∧ Tt)) 25 [.no, .no, .no, .no, .no, .no, .no, .no, .no, .no, .no, .no, .no, .no, .no, .no, .no, .no, .no, .no, .no, .no, .no, .obj 126 ([(Key.mk (IntKind.i64.wrap ((((a1.Tracks.getD x13.toNat default).getD x59.toNat default).At) + a0.Length)) (((a1.Tracks.getD x13.toNat default).getD x59.toNat default).Turn))]).length (gl cs_Key ([(Key.mk (IntKind.i64.wrap ((((a1.Tracks.getD x13.toNat default).getD x59.toNat default).At) + a0.Length)) (((a1.Tracks.getD x13.toNat default).getD x59.toNat default).Turn))])), .objKA 127 (x60 ++ ([(Key.mk (IntKind.i64.wrap ((((a1.Tracks.getD x13.toNat default).getD x59.toNat default).At) + a0.Length)) (((a1.Tracks.getD x13.toNat default).getD x59.toNat default).Turn))])).length (gl cs_Key (x60 ++ ([(Key.mk (IntKind.i64.wrap ((((a1.Tracks.getD x13.toNat default).getD x59.toNat default).At) + a0.Length)) (((a1.Tracks.getD x13.toNat default).getD x59.toNat default).Turn))])))] [2, 3, 4, 6, 7, 8, 45, 46, 87, 88] [1, 2, 3, 4, 36, 127] ⟨⟨tr, tr, tr, tr, c62, tr, tr, c63, tr, tr, tr, tr, tr, tr, tr, tr, c62, tr, tr, c63, tr, tr, tr, ⟨rfl, ⟨⟨rfl, tr⟩, ⟨rfl, tr⟩, ⟨rfl, tr⟩, ⟨rfl, tr⟩, ⟨rfl, tr⟩, tr⟩⟩, ⟨List.length_append, gl_append, gl_scalar sc_Key _, c64⟩, tr⟩, ⟨tr, tr⟩⟩ ?_
            refine blockQ_normal ?_
            refine thenQ_normal ?_
            refine AW.rA ⟨[(2, (vp 1 0)), (3, (vp 2 0)), (4, (vp 3 0)), (6, (vp 4 0)), (7, (vc (.int .i64 x13))), (8, (.v (.one (.arr 127)))), (45, (vc (.int .i64 (a0.Tracks.length : Int)))), (46, (vc (.int .i64 x13))), (87, (vc (.int .i64 ((a1.Tracks.getD x13.toNat default).length : Int)))), (88, (vc (.int .i64 (IntKind.i64.wrap (x59 + (1 : Int))))))], [(1, (.box [(.c (.int .i64 a0.Length)), (.c (.int .i64 a0.Kind)), (.c (sl 1 (csL 5 cs_Key) a0.Tracks)), (.c (sl 4 cs_RootKey a0.Roots))])), (2, (.box [(.c (.int .i64 a1.Length)), (.c (.int .i64 a1.Kind)), (.c (sl 1 (csL 5 cs_Key) a1.Tracks)), (.c (sl 4 cs_RootKey a1.Roots))])), (3, (.box [(.c (.int .i64 (0 : Int))), (.c (.int .i64 (0 : Int))), .nils, .nils])), (4, (.box [(.c (.int .i64 (IntKind.i64.wrap (a0.Length + a1.Length)))), (.c (.int .i64 a0.Kind)), (.lst 36 x14.length 1 (gl (csL 5 cs_Key) x14)), .nils])), (36, (.lst x14.length 1 (gl (csL 5 cs_Key) x14))), (127, (.arr false (x60 ++ ([(Key.mk (IntKind.i64.wrap ((((a1.Tracks.getD x13.toNat default).getD x59.toNat default).At) + a0.Length)) (((a1.Tracks.getD x13.toNat default).getD x59.toNat default).Turn))])).length 5 (gl cs_Key (x60 ++ ([(Key.mk (IntKind.i64.wrap ((((a1.Tracks.getD x13.toNat default).getD x59.toNat default).At) + a0.Length)) (((a1.Tracks.getD x13.toNat default).getD x59.toNat default).Turn))])))))]⟩ (T2 Tt) [] [2, 3, 4, 6, 7, 8, 45, 46, 87, 88] [1, 2, 3, 4, 36, 127] ⟨tr, tr, tr⟩ ?_
            exact loopQ_normal (k, (IntKind.i64.wrap (x59 + (1 : Int))), (x60 ++ ([(Key.mk (IntKind.i64.wrap ((((a1.Tracks.getD x13.toNat default).getD x59.toNat default).At) + a0.Length)) (((a1.Tracks.getD x13.toNat default).getD x59.toNat default).Turn))]))) h (Nat.lt_succ_self k) (Sub.trans (Sub.swap 100 127 _ (by kernel_rfl) (by kernel_rfl)) (Sub.keep [2, 3, 4, 6, 7, 8, 45, 46, 87, 88] [1, 2, 3, 4, 36, 100] (by kernel_rfl) (by kernel_rfl)))
          · refine AW.cond_f rfl b61 ?_
            refine AW.exit ?_
            refine thenQ_exit ?_
            refine loopQ_exit ?_
            refine blockQ_exit ?_
            replace h := some_eq h
            subst h
            exact ⟨rfl, Sub.keep [2, 3, 4, 6, 8, 45, 46] [1, 2, 3, 4, 36, 100] (by kernel_rfl) (by kernel_rfl)⟩
        refine thenQ_normal ?_
        obtain ⟨c65, h⟩ := chk_some h
        refine AW.rA ⟨[(2, (vp 1 0)), (3, (vp 2 0)), (4, (vp 3 0)), (6, (vp 4 0)), (45, (vc (.int .i64 (a0.Tracks.length : Int)))), (46, (vc (.int .i64 x13)))], [(1, (.box [(.c (.int .i64 a0.Length)), (.c (.int .i64 a0.Kind)), (.c (sl 1 (csL 5 cs_Key) a0.Tracks)), (.c (sl 4 cs_RootKey a0.Roots))])), (2, (.box [(.c (.int .i64 a1.Length)), (.c (.int .i64 a1.Kind)), (.c (sl 1 (csL 5 cs_Key) a1.Tracks)), (.c (sl 4 cs_RootKey a1.Roots))])), (3, (.box [(.c (.int .i64 (0 : Int))), (.c (.int .i64 (0 : Int))), .nils, .nils])), (4, (.box [(.c (.int .i64 (IntKind.i64.wrap (a0.Length + a1.Length)))), (.c (.int .i64 a0.Kind)), (.lst 129 (x14 ++ ([j55])).length 1 (gl (csL 5 cs_Key) (x14 ++ ([j55])))), .nils])), (129, (.lst (x14 ++ ([j55])).length 1 (gl (csL 5 cs_Key) (x14 ++ ([j55])))))]⟩ (Tt ∧ T2 ((([j55]).length = 1 ∧ (Eqc (sl 5 cs_Key j55)) ∧ Tt) ∧ ((x14 ++ ([j55])).length = x14.length + ([j55]).length ∧ AppOb (x14.length) (([j55]).length) 1 (gl (csL 5 cs_Key) x14) (gl (csL 5 cs_Key) ([j55])) (gl (csL 5 cs_Key) (x14 ++ ([j55]))) ∧ Tt ∧ (x14.length + ([j55]).length) * 24 ≤ 140737488355328) ∧ T2 Tt)) [.no, .no, .no, .obj 128 ([j55]).length (gl (csL 5 cs_Key) ([j55])), .obj 129 (x14 ++ ([j55])).length (gl (csL 5 cs_Key) (x14 ++ ([j55])))] [2, 3, 4, 6, 45, 46] [1, 2, 3, 4, 129] ⟨tr, tr, tr, ⟨rfl, ⟨rfl, tr⟩⟩, ⟨List.length_append, gl_append, tr, c65⟩, tr, tr, tr⟩ ?_
        refine blockQ_normal ?_
        refine thenQ_normal ?_
        refine AW.rA ⟨[(2, (vp 1 0)), (3, (vp 2 0)), (4, (vp 3 0)), (6, (vp 4 0)), (45, (vc (.int .i64 (a0.Tracks.length : Int)))), (46, (vc (.int .i64 (IntKind.i64.wrap (x13 + (1 : Int))))))], [(1, (.box [(.c (.int .i64 a0.Length)), (.c (.int .i64 a0.Kind)), (.c (sl 1 (csL 5 cs_Key) a0.Tracks)), (.c (sl 4 cs_RootKey a0.Roots))])), (2, (.box [(.c (.int .i64 a1.Length)), (.c (.int .i64 a1.Kind)), (.c (sl 1 (csL 5 cs_Key) a1.Tracks)), (.c (sl 4 cs_RootKey a1.Roots))])), (3, (.box [(.c (.int .i64 (0 : Int))), (.c (.int .i64 (0 : Int))), .nils, .nils])), (4, (.box [(.c (.int .i64 (IntKind.i64.wrap (a0.Length + a1.Length)))), (.c (.int .i64 a0.Kind)), (.lst 129 (x14 ++ ([j55])).length 1 (gl (csL 5 cs_Key) (x14 ++ ([j55])))), .nils])), (129, (.lst (x14 ++ ([j55])).length 1 (gl (csL 5 cs_Key) (x14 ++ ([j55])))))]⟩ (T2 Tt) [] [2, 3, 4, 6, 45, 46] [1, 2, 3, 4, 129] ⟨tr, tr, tr⟩ ?_
        exact loopQ_normal (k, (IntKind.i64.wrap (x13 + (1 : Int))), (x14 ++ ([j55]))) h (Nat.lt_succ_self k) (Sub.trans (Sub.swap 36 129 _ (by kernel_rfl) (by kernel_rfl)) (Sub.keep [2, 3, 4, 6, 45, 46] [1, 2, 3, 4, 36] (by kernel_rfl) (by kernel_rfl)))
    · refine AW.cond_f rfl b15 ?_
      refine AW.exit ?_
      refine thenQ_exit ?_
      refine loopQ_exit ?_
      refine blockQ_exit ?_
      refine thenQ_normal ?_
      refine AW.seq ?_
      obtain ⟨c66, h⟩ := chk_some h
      refine AW.rA ⟨[(2, (vp 1 0)), (3, (vp 2 0)), (4, (vp 3 0)), (6, (vp 4 0)), (10, (.v (.one (.arr 131))))], [(1, (.box [(.c (.int .i64 a0.Length)), (.c (.int .i64 a0.Kind)), (.c (sl 1 (csL 5 cs_Key) a0.Tracks)), (.c (sl 4 cs_RootKey a0.Roots))])), (2, (.box [(.c (.int .i64 a1.Length)), (.c (.int .i64 a1.Kind)), (.c (sl 1 (csL 5 cs_Key) a1.Tracks)), (.c (sl 4 cs_RootKey a1.Roots))])), (3, (.box [(.c (.int .i64 (0 : Int))), (.c (.int .i64 (0 : Int))), .nils, .nils])), (4, (.box [(.c (.int .i64 (IntKind.i64.wrap (a0.Length + a1.Length)))), (.c (.int .i64 a0.Kind)), (.lst 36 x14.length 1 (gl (csL 5 cs_Key) x14)), .nils])), (36, (.lst x14.length 1 (gl (csL 5 cs_Key) x14))), (131, (.arr false (([] : List RootKey) ++ a0.Roots).length 4 (gl cs_RootKey (([] : List RootKey) ++ a0.Roots))))]⟩ ((([] : List RootKey).length = 0 ∧ Tt) ∧ T2 (((([] : List RootKey) ++ a0.Roots).length = ([] : List RootKey).length + a0.Roots.length ∧ AppOb (([] : List RootKey).length) (a0.Roots.length) 4 (gl cs_RootKey ([] : List RootKey)) (gl cs_RootKey a0.Roots) (gl cs_RootKey (([] : List RootKey) ++ a0.Roots)) ∧ (∀ i j, i < a0.Roots.length → j < 4 → scalarC (gl cs_RootKey a0.Roots i j)) ∧ (([] : List RootKey).length + a0.Roots.length) * 24 ≤ 140737488355328) ∧ Tt ∧ Tt)) [.objA 130 ([] : List RootKey).length (gl cs_RootKey ([] : List RootKey)), .no, .no, .objA 131 (([] : List RootKey) ++ a0.Roots).length (gl cs_RootKey (([] : List RootKey) ++ a0.Roots))] [2, 3, 4, 6, 10] [1, 2, 3, 4, 36, 131] ⟨⟨rfl, tr⟩, tr, tr, ⟨List.length_append, gl_append, gl_scalar sc_RootKey _, c66⟩, tr, tr⟩ ?_
      refine thenQ_normal ?_
      refine AW.seq ?_
      refine AW.seq ?_
      obtain ⟨c67, h⟩ := chk_some h
      obtain ⟨j70, e71, h⟩ := bind_some h
      refine AW.join1 (s2 := ⟨[(2, (vp 1 0)), (3, (vp 2 0)), (4, (vp 3 0)), (6, (vp 4 0)), (10, (.v (.one (.arr 131)))), (145, (vc (.bool j70)))], [(1, (.box [(.c (.int .i64 a0.Length)), (.c (.int .i64 a0.Kind)), (.c (sl 1 (csL 5 cs_Key) a0.Tracks)), (.c (sl 4 cs_RootKey a0.Roots))])), (2, (.box [(.c (.int .i64 a1.Length)), (.c (.int .i64 a1.Kind)), (.c (sl 1 (csL 5 cs_Key) a1.Tracks)), (.c (sl 4 cs_RootKey a1.Roots))])), (3, (.box [(.c (.int .i64 (0 : Int))), (.c (.int .i64 (0 : Int))), .nils, .nils])), (4, (.box [(.c (.int .i64 (IntKind.i64.wrap (a0.Length + a1.Length)))), (.c (.int .i64 a0.Kind)), (.lst 36 x14.length 1 (gl (csL 5 cs_Key) x14)), .nils])), (36, (.lst x14.length 1 (gl (csL 5 cs_Key) x14))), (131, (.arr false (([] : List RootKey) ++ a0.Roots).length 4 (gl cs_RootKey (([] : List RootKey) ++ a0.Roots))))]⟩) ?_ ?_
      · rcases ite2_cases e71 with ⟨b68, e71⟩ | ⟨b68, e71⟩
        · obtain ⟨c69, e71⟩ := chk_some e71
          replace e71 := some_eq e71
          subst e71
          exact AW.dA ⟨[(2, (vp 1 0)), (3, (vp 2 0)), (4, (vp 3 0)), (6, (vp 4 0)), (10, (.v (.one (.arr 131)))), (145, (vc (.bool (((a1.Roots.getD ((0 : Int).toNat) default).At) == (0 : Int)))))], [(1, (.box [(.c (.int .i64 a0.Length)), (.c (.int .i64 a0.Kind)), (.c (sl 1 (csL 5 cs_Key) a0.Tracks)), (.c (sl 4 cs_RootKey a0.Roots))])), (2, (.box [(.c (.int .i64 a1.Length)), (.c (.int .i64 a1.Kind)), (.c (sl 1 (csL 5 cs_Key) a1.Tracks)), (.c (sl 4 cs_RootKey a1.Roots))])), (3, (.box [(.c (.int .i64 (0 : Int))), (.c (.int .i64 (0 : Int))), .nils, .nils])), (4, (.box [(.c (.int .i64 (IntKind.i64.wrap (a0.Length + a1.Length)))), (.c (.int .i64 a0.Kind)), (.lst 36 x14.length 1 (gl (csL 5 cs_Key) x14)), .nils])), (36, (.lst x14.length 1 (gl (csL 5 cs_Key) x14))), (131, (.arr false (([] : List RootKey) ++ a0.Roots).length 4 (gl cs_RootKey (([] : List RootKey) ++ a0.Roots))))]⟩ ((T4 ((0 ≤ (IntKind.i64.wrap (((([] : List RootKey) ++ a0.Roots).length : Int) - (1 : Int))) ∧ (IntKind.i64.wrap (((([] : List RootKey) ++ a0.Roots).length : Int) - (1 : Int))) < ((([] : List RootKey) ++ a0.Roots).length : Int)) ∧ Tt ∧ T4 ((Tt ∧ ((((([] : List RootKey) ++ a0.Roots).getD ((IntKind.i64.wrap (((([] : List RootKey) ++ a0.Roots).length : Int) - (1 : Int))).toNat) default).At) == a0.Length) = true) ∧ T2 ((0 ≤ (0 : Int) ∧ (0 : Int) < (a1.Roots.length : Int)) ∧ T4 Tt)))) ∧ (Tt)) 18 [.no, .no, .no, .no, .no, .no, .no, .no, .no, .no, .dec true] [2, 3, 4, 6, 10, 145] [1, 2, 3, 4, 36, 131] ⟨⟨tr, tr, tr, tr, c67, tr, tr, tr, tr, tr, ⟨tr, b68⟩, tr, tr, c69, tr, tr, tr, tr, tr⟩, tr⟩ ⟨rfl, rfl⟩
        · replace e71 := some_eq e71
          subst e71
          exact AW.dA ⟨[(2, (vp 1 0)), (3, (vp 2 0)), (4, (vp 3 0)), (6, (vp 4 0)), (10, (.v (.one (.arr 131)))), (145, (vc (.bool false)))], [(1, (.box [(.c (.int .i64 a0.Length)), (.c (.int .i64 a0.Kind)), (.c (sl 1 (csL 5 cs_Key) a0.Tracks)), (.c (sl 4 cs_RootKey a0.Roots))])), (2, (.box [(.c (.int .i64 a1.Length)), (.c (.int .i64 a1.Kind)), (.c (sl 1 (csL 5 cs_Key) a1.Tracks)), (.c (sl 4 cs_RootKey a1.Roots))])), (3, (.box [(.c (.int .i64 (0 : Int))), (.c (.int .i64 (0 : Int))), .nils, .nils])), (4, (.box [(.c (.int .i64 (IntKind.i64.wrap (a0.Length + a1.Length)))), (.c (.int .i64 a0.Kind)), (.lst 36 x14.length 1 (gl (csL 5 cs_Key) x14)), .nils])), (36, (.lst x14.length 1 (gl (csL 5 cs_Key) x14))), (131, (.arr false (([] : List RootKey) ++ a0.Roots).length 4 (gl cs_RootKey (([] : List RootKey) ++ a0.Roots))))]⟩ ((T4 ((0 ≤ (IntKind.i64.wrap (((([] : List RootKey) ++ a0.Roots).length : Int) - (1 : Int))) ∧ (IntKind.i64.wrap (((([] : List RootKey) ++ a0.Roots).length : Int) - (1 : Int))) < ((([] : List RootKey) ++ a0.Roots).length : Int)) ∧ Tt ∧ T4 ((Tt ∧ ((((([] : List RootKey) ++ a0.Roots).getD ((IntKind.i64.wrap (((([] : List RootKey) ++ a0.Roots).length : Int) - (1 : Int))).toNat) default).At) == a0.Length) = false) ∧ Tt ∧ T2 (T4 Tt)))) ∧ (Tt)) 18 [.no, .no, .no, .no, .no, .no, .no, .no, .no, .no, .dec false] [2, 3, 4, 6, 10, 145] [1, 2, 3, 4, 36, 131] ⟨⟨tr, tr, tr, tr, c67, tr, tr, tr, tr, tr, ⟨tr, b68⟩, tr, tr, tr, tr, tr, tr, tr, tr⟩, tr⟩ ⟨rfl, rfl⟩
      refine thenQ_normal ?_
      rcases ite2_cases h with ⟨b72, h⟩ | ⟨b72, h⟩
      · refine AW.cond_t rfl b72 ?_
        obtain ⟨c73, h⟩ := chk_some h
        refine AW.rA ⟨[(2, (vp 1 0)), (3, (vp 2 0)), (4, (vp 3 0)), (6, (vp 4 0)), (10, (.v (.one (.arr 132))))], [(1, (.box [(.c (.int .i64 a0.Length)), (.c (.int .i64 a0.Kind)), (.c (sl 1 (csL 5 cs_Key) a0.Tracks)), (.c (sl 4 cs_RootKey a0.Roots))])), (2, (.box [(.c (.int .i64 a1.Length)), (.c (.int .i64 a1.Kind)), (.c (sl 1 (csL 5 cs_Key) a1.Tracks)), (.c (sl 4 cs_RootKey a1.Roots))])), (3, (.box [(.c (.int .i64 (0 : Int))), (.c (.int .i64 (0 : Int))), .nils, .nils])), (4, (.box [(.c (.int .i64 (IntKind.i64.wrap (a0.Length + a1.Length)))), (.c (.int .i64 a0.Kind)), (.lst 36 x14.length 1 (gl (csL 5 cs_Key) x14)), .nils])), (36, (.lst x14.length 1 (gl (csL 5 cs_Key) x14))), (132, (.arr false ((([] : List RootKey) ++ a0.Roots).take (IntKind.i64.wrap (((([] : List RootKey) ++ a0.Roots).length : Int) - (1 : Int))).toNat).length 4 (gl cs_RootKey ((([] : List RootKey) ++ a0.Roots).take (IntKind.i64.wrap (((([] : List RootKey) ++ a0.Roots).length : Int) - (1 : Int))).toNat))))]⟩ (T4 (((0 : Int) = 0 ∧ 0 ≤ (IntKind.i64.wrap (((([] : List RootKey) ++ a0.Roots).length : Int) - (1 : Int))) ∧ (IntKind.i64.wrap (((([] : List RootKey) ++ a0.Roots).length : Int) - (1 : Int))) ≤ ((([] : List RootKey) ++ a0.Roots).length : Int) ∧ ((((([] : List RootKey) ++ a0.Roots).take (IntKind.i64.wrap (((([] : List RootKey) ++ a0.Roots).length : Int) - (1 : Int))).toNat).length : Nat) : Int) = (IntKind.i64.wrap (((([] : List RootKey) ++ a0.Roots).length : Int) - (1 : Int))) ∧ ∀ i j, i < ((([] : List RootKey) ++ a0.Roots).take (IntKind.i64.wrap (((([] : List RootKey) ++ a0.Roots).length : Int) - (1 : Int))).toNat).length → j < 4 → gl cs_RootKey ((([] : List RootKey) ++ a0.Roots).take (IntKind.i64.wrap (((([] : List RootKey) ++ a0.Roots).length : Int) - (1 : Int))).toNat) i j = gl cs_RootKey (([] : List RootKey) ++ a0.Roots) i j) ∧ Tt ∧ Tt)) [.no, .no, .no, .no, .objA 132 ((([] : List RootKey) ++ a0.Roots).take (IntKind.i64.wrap (((([] : List RootKey) ++ a0.Roots).length : Int) - (1 : Int))).toNat).length (gl cs_RootKey ((([] : List RootKey) ++ a0.Roots).take (IntKind.i64.wrap (((([] : List RootKey) ++ a0.Roots).length : Int) - (1 : Int))).toNat))] [2, 3, 4, 6, 10] [1, 2, 3, 4, 36, 132] ⟨tr, tr, tr, tr, ⟨rfl, c73.1, c73.2, (gl_cut (sz := 4) (cs := cs_RootKey) c73.1 c73.2).1, (gl_cut c73.1 c73.2).2⟩, tr, tr⟩ ?_
        refine thenQ_normal ?_
        refine AW.seq ?_
        refine AW.seq (AW.rA ⟨[(2, (vp 1 0)), (3, (vp 2 0)), (4, (vp 3 0)), (6, (vp 4 0)), (10, (.v (.one (.arr 132)))), (153, (vc (.int .i64 (a1.Roots.length : Int)))), (154, (vc (.int .i64 (0 : Int))))], [(1, (.box [(.c (.int .i64 a0.Length)), (.c (.int .i64 a0.Kind)), (.c (sl 1 (csL 5 cs_Key) a0.Tracks)), (.c (sl 4 cs_RootKey a0.Roots))])), (2, (.box [(.c (.int .i64 a1.Length)), (.c (.int .i64 a1.Kind)), (.c (sl 1 (csL 5 cs_Key) a1.Tracks)), (.c (sl 4 cs_RootKey a1.Roots))])), (3, (.box [(.c (.int .i64 (0 : Int))), (.c (.int .i64 (0 : Int))), .nils, .nils])), (4, (.box [(.c (.int .i64 (IntKind.i64.wrap (a0.Length + a1.Length)))), (.c (.int .i64 a0.Kind)), (.lst 36 x14.length 1 (gl (csL 5 cs_Key) x14)), .nils])), (36, (.lst x14.length 1 (gl (csL 5 cs_Key) x14))), (132, (.arr false ((([] : List RootKey) ++ a0.Roots).take (IntKind.i64.wrap (((([] : List RootKey) ++ a0.Roots).length : Int) - (1 : Int))).toNat).length 4 (gl cs_RootKey ((([] : List RootKey) ++ a0.Roots).take (IntKind.i64.wrap (((([] : List RootKey) ++ a0.Roots).length : Int) - (1 : Int))).toNat))))]⟩ (T4 Tt) [] [2, 3, 4, 6, 10, 153, 154] [1, 2, 3, 4, 36, 132] ⟨tr, tr, tr, tr, tr⟩ (thenQ_normal ?_))
        refine AW.block ?_
        refine AW.loopQ (σ := Nat × Int × (List RootKey)) (fun p => ⟨[(2, (vp 1 0)), (3, (vp 2 0)), (4, (vp 3 0)), (6, (vp 4 0)), (10, (.v (.one (.arr 132)))), (153, (vc (.int .i64 (a1.Roots.length : Int)))), (154, (vc (.int .i64 p.2.1)))], [(1, (.box [(.c (.int .i64 a0.Length)), (.c (.int .i64 a0.Kind)), (.c (sl 1 (csL 5 cs_Key) a0.Tracks)), (.c (sl 4 cs_RootKey a0.Roots))])), (2, (.box [(.c (.int .i64 a1.Length)), (.c (.int .i64 a1.Kind)), (.c (sl 1 (csL 5 cs_Key) a1.Tracks)), (.c (sl 4 cs_RootKey a1.Roots))])), (3, (.box [(.c (.int .i64 (0 : Int))), (.c (.int .i64 (0 : Int))), .nils, .nils])), (4, (.box [(.c (.int .i64 (IntKind.i64.wrap (a0.Length + a1.Length)))), (.c (.int .i64 a0.Kind)), (.lst 36 x14.length 1 (gl (csL 5 cs_Key) x14)), .nils])), (36, (.lst x14.length 1 (gl (csL 5 cs_Key) x14))), (132, (.arr false p.2.2.length 4 (gl cs_RootKey p.2.2)))]⟩) (fun p => spec_JoinClips_l10 K a0 a1 x14 p.1 p.2.1 p.2.2 = some o) (fun p => p.1) (K, (0 : Int), ((([] : List RootKey) ++ a0.Roots).take (IntKind.i64.wrap (((([] : List RootKey) ++ a0.Roots).length : Int) - (1 : Int))).toNat)) h ?_
        clear h
        rintro ⟨k, x76, x77⟩ h
        replace h : spec_JoinClips_l10 K a0 a1 x14 k x76 x77 = some o := h
        show AW _ _ (⟨[(2, (vp 1 0)), (3, (vp 2 0)), (4, (vp 3 0)), (6, (vp 4 0)), (10, (.v (.one (.arr 132)))), (153, (vc (.int .i64 (a1.Roots.length : Int)))), (154, (vc (.int .i64 x76)))], [(1, (.box [(.c (.int .i64 a0.Length)), (.c (.int .i64 a0.Kind)), (.c (sl 1 (csL 5 cs_Key) a0.Tracks)), (.c (sl 4 cs_RootKey a0.Roots))])), (2, (.box [(.c (.int .i64 a1.Length)), (.c (.int .i64 a1.Kind)), (.c (sl 1 (csL 5 cs_Key) a1.Tracks)), (.c (sl 4 cs_RootKey a1.Roots))])), (3, (.box [(.c (.int .i64 (0 : Int))), (.c (.int .i64 (0 : Int))), .nils, .nils])), (4, (.box [(.c (.int .i64 (IntKind.i64.wrap (a0.Length + a1.Length)))), (.c (.int .i64 a0.Kind)), (.lst 36 x14.length 1 (gl (csL 5 cs_Key) x14)), .nils])), (36, (.lst x14.length 1 (gl (csL 5 cs_Key) x14))), (132, (.arr false x77.length 4 (gl cs_RootKey x77)))]⟩ : St) _
        obtain _ | k := k
        · rw [spec_JoinClips_l10] at h; cases h
        rw [spec_JoinClips_l10] at h
        refine AW.seq (AW.rA ⟨[(2, (vp 1 0)), (3, (vp 2 0)), (4, (vp 3 0)), (6, (vp 4 0)), (10, (.v (.one (.arr 132)))), (153, (vc (.int .i64 (a1.Roots.length : Int)))), (154, (vc (.int .i64 x76))), (155, (vc (.bool (decide (x76 < (a1.Roots.length : Int))))))], [(1, (.box [(.c (.int .i64 a0.Length)), (.c (.int .i64 a0.Kind)), (.c (sl 1 (csL 5 cs_Key) a0.Tracks)), (.c (sl 4 cs_RootKey a0.Roots))])), (2, (.box [(.c (.int .i64 a1.Length)), (.c (.int .i64 a1.Kind)), (.c (sl 1 (csL 5 cs_Key) a1.Tracks)), (.c (sl 4 cs_RootKey a1.Roots))])), (3, (.box [(.c (.int .i64 (0 : Int))), (.c (.int .i64 (0 : Int))), .nils, .nils])), (4, (.box [(.c (.int .i64 (IntKind.i64.wrap (a0.Length + a1.Length)))), (.c (.int .i64 a0.Kind)), (.lst 36 x14.length 1 (gl (csL 5 cs_Key) x14)), .nils])), (36, (.lst x14.length 1 (gl (csL 5 cs_Key) x14))), (132, (.arr false x77.length 4 (gl cs_RootKey x77)))]⟩ (Tt ∧ Tt) [] [2, 3, 4, 6, 10, 153, 154, 155] [1, 2, 3, 4, 36, 132] ⟨tr, tr⟩ (thenQ_normal ?_))
        refine AW.seq ?_
        rcases ite2_cases h with ⟨b78, h⟩ | ⟨b78, h⟩
        · refine AW.cond_t rfl b78 ?_
          refine AW.skip ?_
          refine thenQ_normal ?_
          refine AW.seq ?_
          refine AW.block ?_
          refine AW.seq (AW.rA ⟨[(2, (vp 1 0)), (3, (vp 2 0)), (4, (vp 3 0)), (6, (vp 4 0)), (10, (.v (.one (.arr 132)))), (11, (vc (.int .i64 x76))), (153, (vc (.int .i64 (a1.Roots.length : Int)))), (154, (vc (.int .i64 x76)))], [(1, (.box [(.c (.int .i64 a0.Length)), (.c (.int .i64 a0.Kind)), (.c (sl 1 (csL 5 cs_Key) a0.Tracks)), (.c (sl 4 cs_RootKey a0.Roots))])), (2, (.box [(.c (.int .i64 a1.Length)), (.c (.int .i64 a1.Kind)), (.c (sl 1 (csL 5 cs_Key) a1.Tracks)), (.c (sl 4 cs_RootKey a1.Roots))])), (3, (.box [(.c (.int .i64 (0 : Int))), (.c (.int .i64 (0 : Int))), .nils, .nils])), (4, (.box [(.c (.int .i64 (IntKind.i64.wrap (a0.Length + a1.Length)))), (.c (.int .i64 a0.Kind)), (.lst 36 x14.length 1 (gl (csL 5 cs_Key) x14)), .nils])), (36, (.lst x14.length 1 (gl (csL 5 cs_Key) x14))), (132, (.arr false x77.length 4 (gl cs_RootKey x77)))]⟩ (T2 Tt) [] [2, 3, 4, 6, 10, 11, 153, 154] [1, 2, 3, 4, 36, 132] ⟨tr, tr, tr⟩ (thenQ_normal ?_))
          obtain ⟨c79, h⟩ := chk_some h
          obtain ⟨c80, h⟩ := chk_some h
          refine AW.dA ⟨[(2, (vp 1 0)), (3, (vp 2 0)), (4, (vp 3 0)), (6, (vp 4 0)), (10, (.v (.one (.arr 138)))), (153, (vc (.int .i64 (a1.Roots.length : Int)))), (154, (vc (.int .i64 x76)))], [(1, (.box [(.c (.int .i64 a0.Length)), (.c (.int .i64 a0.Kind)), (.c (sl 1 (csL 5 cs_Key) a0.Tracks)), (.c (sl 4 cs_RootKey a0.Roots))])), (2, (.box [(.c (.int .i64 a1.Length)), (.c (.int .i64 a1.Kind)), (.c (sl 1 (csL 5 cs_Key) a1.Tracks)), (.c (sl 4 cs_RootKey a1.Roots))])), (3, (.box [(.c (.int .i64 (0 : Int))), (.c (.int .i64 (0 : Int))), .nils, .nils])), (4, (.box [(.c (.int .i64 (IntKind.i64.wrap (a0.Length + a1.Length)))), (.c (.int .i64 a0.Kind)), (.lst 36 x14.length 1 (gl (csL 5 cs_Key) x14)), .nils])), (36, (.lst x14.length 1 (gl (csL 5 cs_Key) x14))), (138, (.arr false (x77 ++ ([(RootKey.mk (IntKind.i64.wrap (((a1.Roots.getD x76.toNat default).At) + a0.Length)) ((a1.Roots.getD x76.toNat default).Place))])).length 4 (gl cs_RootKey (x77 ++ ([(RootKey.mk (IntKind.i64.wrap (((a1.Roots.getD x76.toNat default).At) + a0.Length)) ((a1.Roots.getD x76.toNat default).Place))])))))]⟩ ((T4 ((0 ≤ x76 ∧ x76 < (a1.Roots.length : Int)) ∧ T4 (T4 ((0 ≤ x76 ∧ x76 < (a1.Roots.length : Int)) ∧ Tt ∧ T2 ((([(RootKey.mk (IntKind.i64.wrap (((a1.Roots.getD x76.toNat default).At) + a0.Length)) ((a1.Roots.getD x76.toNat default).Place))]).length = 1 ∧ (((.int .i64 (IntKind.i64.wrap (((a1.Roots.getD x76.toNat default).At) + a0.Length))) : C) = (.int .i64 (IntKind.i64.wrap (((a1.Roots.getD x76.toNat default).At) + a0.Length))) ∧ Tt) ∧ (((.flt .f32 (((a1.Roots.getD x76.toNat default).Place).X).bits) : C) = (.flt .f32 (((a1.Roots.getD x76.toNat default).Place).X).bits) ∧ Tt) ∧ (((.flt .f32 (((a1.Roots.getD x76.toNat default).Place).Y).bits) : C) = (.flt .f32 (((a1.Roots.getD x76.toNat default).Place).Y).bits) ∧ Tt) ∧ (((.flt .f32 (((a1.Roots.getD x76.toNat default).Place).Z).bits) : C) = (.flt .f32 (((a1.Roots.getD x76.toNat default).Place).Z).bits) ∧ Tt) ∧ Tt) ∧ ((x77 ++ ([(RootKey.mk (IntKind.i64.wrap (((a1.Roots.getD x76.toNat default).At) + a0.Length)) ((a1.Roots.getD x76.toNat default).Place))])).length = x77.length + ([(RootKey.mk (IntKind.i64.wrap (((a1.Roots.getD x76.toNat default).At) + a0.Length)) ((a1.Roots.getD x76.toNat default).Place))]).length ∧ AppOb (x77.length) (([(RootKey.mk (IntKind.i64.wrap (((a1.Roots.getD x76.toNat default).At) + a0.Length)) ((a1.Roots.getD x76.toNat default).Place))]).length) 4 (gl cs_RootKey x77) (gl cs_RootKey ([(RootKey.mk (IntKind.i64.wrap (((a1.Roots.getD x76.toNat default).At) + a0.Length)) ((a1.Roots.getD x76.toNat default).Place))])) (gl cs_RootKey (x77 ++ ([(RootKey.mk (IntKind.i64.wrap (((a1.Roots.getD x76.toNat default).At) + a0.Length)) ((a1.Roots.getD x76.toNat default).Place))]))) ∧ (∀ i j, i < ([(RootKey.mk (IntKind.i64.wrap (((a1.Roots.getD x76.toNat default).At) + a0.Length)) ((a1.Roots.getD x76.toNat default).Place))]).length → j < 4 → scalarC (gl cs_RootKey ([(RootKey.mk (IntKind.i64.wrap (((a1.Roots.getD x76.toNat default).At) + a0.Length)) ((a1.Roots.getD x76.toNat default).Place))]) i j)) ∧ (x77.length + ([(RootKey.mk (IntKind.i64.wrap (((a1.Roots.getD x76.toNat default).At) + a0.Length)) ((a1.Roots.getD x76.toNat default).Place))]).length) * 24 ≤ 140737488355328) ∧ Tt))))) ∧ (Tt ∧ Tt)) 19 [.no, .no, .no, .no, .no, .no, .no, .no, .no, .no, .no, .no, .no, .no, .no, .no, .no, .obj 137 ([(RootKey.mk (IntKind.i64.wrap (((a1.Roots.getD x76.toNat default).At) + a0.Length)) ((a1.Roots.getD x76.toNat default).Place))]).length (gl cs_RootKey ([(RootKey.mk (IntKind.i64.wrap (((a1.Roots.getD x76.toNat default).At) + a0.Length)) ((a1.Roots.getD x76.toNat default).Place))])), .objKA 138 (x77 ++ ([(RootKey.mk (IntKind.i64.wrap (((a1.Roots.getD x76.toNat default).At) + a0.Length)) ((a1.Roots.getD x76.toNat default).Place))])).length (gl cs_RootKey (x77 ++ ([(RootKey.mk (IntKind.i64.wrap (((a1.Roots.getD x76.toNat default).At) + a0.Length)) ((a1.Roots.getD x76.toNat default).Place))])))] [2, 3, 4, 6, 10, 153, 154] [1, 2, 3, 4, 36, 138] ⟨⟨tr, tr, tr, tr, c79, tr, tr, tr, tr, tr, tr, tr, tr, c79, tr, tr, tr, ⟨rfl, ⟨⟨rfl, tr⟩, ⟨rfl, tr⟩, ⟨rfl, tr⟩, ⟨rfl, tr⟩, tr⟩⟩, ⟨List.length_append, gl_append, gl_scalar sc_RootKey _, c80⟩, tr⟩, ⟨tr, tr⟩⟩ ?_
          refine blockQ_normal ?_
          refine thenQ_normal ?_
          refine AW.rA ⟨[(2, (vp 1 0)), (3, (vp 2 0)), (4, (vp 3 0)), (6, (vp 4 0)), (10, (.v (.one (.arr 138)))), (153, (vc (.int .i64 (a1.Roots.length : Int)))), (154, (vc (.int .i64 (IntKind.i64.wrap (x76 + (1 : Int))))))], [(1, (.box [(.c (.int .i64 a0.Length)), (.c (.int .i64 a0.Kind)), (.c (sl 1 (csL 5 cs_Key) a0.Tracks)), (.c (sl 4 cs_RootKey a0.Roots))])), (2, (.box [(.c (.int .i64 a1.Length)), (.c (.int .i64 a1.Kind)), (.c (sl 1 (csL 5 cs_Key) a1.Tracks)), (.c (sl 4 cs_RootKey a1.Roots))])), (3, (.box [(.c (.int .i64 (0 : Int))), (.c (.int .i64 (0 : Int))), .nils, .nils])), (4, (.box [(.c (.int .i64 (IntKind.i64.wrap (a0.Length + a1.Length)))), (.c (.int .i64 a0.Kind)), (.lst 36 x14.length 1 (gl (csL 5 cs_Key) x14)), .nils])), (36, (.lst x14.length 1 (gl (csL 5 cs_Key) x14))), (138, (.arr false (x77 ++ ([(RootKey.mk (IntKind.i64.wrap (((a1.Roots.getD x76.toNat default).At) + a0.Length)) ((a1.Roots.getD x76.toNat default).Place))])).length 4 (gl cs_RootKey (x77 ++ ([(RootKey.mk (IntKind.i64.wrap (((a1.Roots.getD x76.toNat default).At) + a0.Length)) ((a1.Roots.getD x76.toNat default).Place))])))))]⟩ (T2 Tt) [] [2, 3, 4, 6, 10, 153, 154] [1, 2, 3, 4, 36, 138] ⟨tr, tr, tr⟩ ?_
          exact loopQ_normal (k, (IntKind.i64.wrap (x76 + (1 : Int))), (x77 ++ ([(RootKey.mk (IntKind.i64.wrap (((a1.Roots.getD x76.toNat default).At) + a0.Length)) ((a1.Roots.getD x76.toNat default).Place))]))) h (Nat.lt_succ_self k) (Sub.trans (Sub.swap 132 138 _ (by kernel_rfl) (by kernel_rfl)) (Sub.keep [2, 3, 4, 6, 10, 153, 154] [1, 2, 3, 4, 36, 132] (by kernel_rfl) (by kernel_rfl)))
        · refine AW.cond_f rfl b78 ?_
          refine AW.exit ?_
          refine thenQ_exit ?_
          refine loopQ_exit ?_
          refine blockQ_exit ?_
          refine thenQ_normal ?_
          refine AW.seq (AW.rA ⟨[(4, (vp 3 0)), (6, (vp 4 0))], [(3, (.box [(.c (.int .i64 (0 : Int))), (.c (.int .i64 (0 : Int))), .nils, .nils])), (4, (.box [(.c (.int .i64 (IntKind.i64.wrap (a0.Length + a1.Length)))), (.c (.int .i64 a0.Kind)), (.lst 36 x14.length 1 (gl (csL 5 cs_Key) x14)), (.arr 132)])), (36, (.lst x14.length 1 (gl (csL 5 cs_Key) x14))), (132, (.arr false x77.length 4 (gl cs_RootKey x77)))]⟩ (Tt ∧ T2 Tt) [] [4, 6] [3, 4, 36, 132] ⟨tr, tr, tr, tr⟩ (thenQ_normal ?_))
          refine AW.seq ?_
          refine AW.seq ?_
          obtain ⟨v81, e82, h⟩ := bind_some h
          refine AW.rA ⟨[(4, (vp 3 0)), (6, (vp 4 0)), (180, (vc (.bool (!v81))))], [(3, (.box [(.c (.int .i64 (0 : Int))), (.c (.int .i64 (0 : Int))), .nils, .nils])), (4, (.box [(.c (.int .i64 (IntKind.i64.wrap (a0.Length + a1.Length)))), (.c (.int .i64 a0.Kind)), (.lst 36 x14.length 1 (gl (csL 5 cs_Key) x14)), (.arr 132)])), (36, (.lst x14.length 1 (gl (csL 5 cs_Key) x14))), (132, (.arr false x77.length 4 (gl cs_RootKey x77)))]⟩ ((((0 = 0 ∧ (Eqc (.int .i64 (IntKind.i64.wrap (a0.Length + a1.Length)))) ∧ (Eqc (.int .i64 a0.Kind)) ∧ (Eqc (sl 1 (csL 5 cs_Key) x14)) ∧ (Eqc (sl 4 cs_RootKey x77)) ∧ Tt) ∧ Tt) ∧ CallOK Try.prog 60 [.one (pl 4 cs_Clip (Clip.mk (IntKind.i64.wrap (a0.Length + a1.Length)) a0.Kind x14 x77))] [.one (.bool v81)]) ∧ Tt ∧ Tt) [.call [.one (pl 4 cs_Clip (Clip.mk (IntKind.i64.wrap (a0.Length + a1.Length)) a0.Kind x14 x77))] [.one (.bool v81)] [[.view]]] [4, 6, 180] [3, 4, 36, 132] ⟨⟨⟨⟨rfl, rfl, rfl, rfl, rfl, tr⟩, tr⟩, ok_spec_l05Is K (Clip.mk (IntKind.i64.wrap (a0.Length + a1.Length)) a0.Kind x14 x77) v81 e82⟩, tr, tr⟩ ?_
          refine thenQ_normal ?_
          rcases ite2_cases h with ⟨b83, h⟩ | ⟨b83, h⟩
          · refine AW.cond_t rfl b83 ?_
            refine AW.seq (AW.rA ⟨[(4, (vp 3 0)), (5, (vc (.bool false)))], [(3, (.box [(.c (.int .i64 (0 : Int))), (.c (.int .i64 (0 : Int))), .nils, .nils]))]⟩ (Tt ∧ T2 Tt) [] [4, 5] [3] ⟨tr, tr, tr, tr⟩ (thenQ_normal ?_))
            refine AW.ret ?_
            refine thenQ_ret ?_
            replace h := some_eq h
            subst h
            exact ⟨.inr rfl, retOK_of [(.agg [(.c (.int .i64 (0 : Int))), (.c (.int .i64 (0 : Int))), .nils, .nils]), (.one (.c (.bool false)))] (by kernel_rfl) ⟨⟨⟨rfl, tr⟩, ⟨rfl, tr⟩, rfl, rfl, tr⟩, ⟨rfl, tr⟩, tr⟩ (of_decide_eq_true (by kernel_rfl))⟩
          · refine AW.cond_f rfl b83 ?_
            refine AW.skip ?_
            refine thenQ_normal ?_
            refine AW.seq (AW.rA ⟨[(4, (vp 3 0)), (5, (vc (.bool true)))], [(3, (.box [(.c (.int .i64 (IntKind.i64.wrap (a0.Length + a1.Length)))), (.c (.int .i64 a0.Kind)), (.lst 36 x14.length 1 (gl (csL 5 cs_Key) x14)), (.arr 132)])), (36, (.lst x14.length 1 (gl (csL 5 cs_Key) x14))), (132, (.arr false x77.length 4 (gl cs_RootKey x77)))]⟩ (Tt ∧ T2 Tt) [] [4, 5] [3, 36, 132] ⟨tr, tr, tr, tr⟩ (thenQ_normal ?_))
            refine AW.ret ?_
            replace h := some_eq h
            subst h
            exact ⟨.inr rfl, retOK_of [(.agg [(.c (.int .i64 (IntKind.i64.wrap (a0.Length + a1.Length)))), (.c (.int .i64 a0.Kind)), (.lst 36 x14.length 1 (gl (csL 5 cs_Key) x14)), (.arr 132)]), (.one (.c (.bool true)))] (by kernel_rfl) ⟨⟨⟨rfl, tr⟩, ⟨rfl, tr⟩, rfl, rfl, tr⟩, ⟨rfl, tr⟩, tr⟩ (of_decide_eq_true (by kernel_rfl))⟩
      · refine AW.cond_f rfl b72 ?_
        refine AW.skip ?_
        refine thenQ_normal ?_
        refine AW.seq ?_
        refine AW.seq (AW.rA ⟨[(2, (vp 1 0)), (3, (vp 2 0)), (4, (vp 3 0)), (6, (vp 4 0)), (10, (.v (.one (.arr 131)))), (153, (vc (.int .i64 (a1.Roots.length : Int)))), (154, (vc (.int .i64 (0 : Int))))], [(1, (.box [(.c (.int .i64 a0.Length)), (.c (.int .i64 a0.Kind)), (.c (sl 1 (csL 5 cs_Key) a0.Tracks)), (.c (sl 4 cs_RootKey a0.Roots))])), (2, (.box [(.c (.int .i64 a1.Length)), (.c (.int .i64 a1.Kind)), (.c (sl 1 (csL 5 cs_Key) a1.Tracks)), (.c (sl 4 cs_RootKey a1.Roots))])), (3, (.box [(.c (.int .i64 (0 : Int))), (.c (.int .i64 (0 : Int))), .nils, .nils])), (4, (.box [(.c (.int .i64 (IntKind.i64.wrap (a0.Length + a1.Length)))), (.c (.int .i64 a0.Kind)), (.lst 36 x14.length 1 (gl (csL 5 cs_Key) x14)), .nils])), (36, (.lst x14.length 1 (gl (csL 5 cs_Key) x14))), (131, (.arr false (([] : List RootKey) ++ a0.Roots).length 4 (gl cs_RootKey (([] : List RootKey) ++ a0.Roots))))]⟩ (T4 Tt) [] [2, 3, 4, 6, 10, 153, 154] [1, 2, 3, 4, 36, 131] ⟨tr, tr, tr, tr, tr⟩ (thenQ_normal ?_))
        refine AW.block ?_
        refine AW.loopQ (σ := Nat × Int × (List RootKey)) (fun p => ⟨[(2, (vp 1 0)), (3, (vp 2 0)), (4, (vp 3 0)), (6, (vp 4 0)), (10, (.v (.one (.arr 131)))), (153, (vc (.int .i64 (a1.Roots.length : Int)))), (154, (vc (.int .i64 p.2.1)))], [(1, (.box [(.c (.int .i64 a0.Length)), (.c (.int .i64 a0.Kind)), (.c (sl 1 (csL 5 cs_Key) a0.Tracks)), (.c (sl 4 cs_RootKey a0.Roots))])), (2, (.box [(.c (.int .i64 a1.Length)), (.c (.int .i64 a1.Kind)), (.c (sl 1 (csL 5 cs_Key) a1.Tracks)), (.c (sl 4 cs_RootKey a1.Roots))])), (3, (.box [(.c (.int .i64 (0 : Int))), (.c (.int .i64 (0 : Int))), .nils, .nils])), (4, (.box [(.c (.int .i64 (IntKind.i64.wrap (a0.Length + a1.Length)))), (.c (.int .i64 a0.Kind)), (.lst 36 x14.length 1 (gl (csL 5 cs_Key) x14)), .nils])), (36, (.lst x14.length 1 (gl (csL 5 cs_Key) x14))), (131, (.arr false p.2.2.length 4 (gl cs_RootKey p.2.2)))]⟩) (fun p => spec_JoinClips_l11 K a0 a1 x14 p.1 p.2.1 p.2.2 = some o) (fun p => p.1) (K, (0 : Int), (([] : List RootKey) ++ a0.Roots)) h ?_
        clear h
        rintro ⟨k, x86, x87⟩ h
        replace h : spec_JoinClips_l11 K a0 a1 x14 k x86 x87 = some o := h
        show AW _ _ (⟨[(2, (vp 1 0)), (3, (vp 2 0)), (4, (vp 3 0)), (6, (vp 4 0)), (10, (.v (.one (.arr 131)))), (153, (vc (.int .i64 (a1.Roots.length : Int)))), (154, (vc (.int .i64 x86)))], [(1, (.box [(.c (.int .i64 a0.Length)), (.c (.int .i64 a0.Kind)), (.c (sl 1 (csL 5 cs_Key) a0.Tracks)), (.c (sl 4 cs_RootKey a0.Roots))])), (2, (.box [(.c (.int .i64 a1.Length)), (.c (.int .i64 a1.Kind)), (.c (sl 1 (csL 5 cs_Key) a1.Tracks)), (.c (sl 4 cs_RootKey a1.Roots))])), (3, (.box [(.c (.int .i64 (0 : Int))), (.c (.int .i64 (0 : Int))), .nils, .nils])), (4, (.box [(.c (.int .i64 (IntKind.i64.wrap (a0.Length + a1.Length)))), (.c (.int .i64 a0.Kind)), (.lst 36 x14.length 1 (gl (csL 5 cs_Key) x14)), .nils])), (36, (.lst x14.length 1 (gl (csL 5 cs_Key) x14))), (131, (.arr false x87.length 4 (gl cs_RootKey x87)))]⟩ : St) _
        obtain _ | k := k
        · rw [spec_JoinClips_l11] at h; cases h
        rw [spec_JoinClips_l11] at h
        refine AW.seq (AW.rA ⟨[(2, (vp 1 0)), (3, (vp 2 0)), (4, (vp 3 0)), (6, (vp 4 0)), (10, (.v (.one (.arr 131)))), (153, (vc (.int .i64 (a1.Roots.length : Int)))), (154, (vc (.int .i64 x86))), (155, (vc (.bool (decide (x86 < (a1.Roots.length : Int))))))], [(1, (.box [(.c (.int .i64 a0.Length)), (.c (.int .i64 a0.Kind)), (.c (sl 1 (csL 5 cs_Key) a0.Tracks)), (.c (sl 4 cs_RootKey a0.Roots))])), (2, (.box [(.c (.int .i64 a1.Length)), (.c (.int .i64 a1.Kind)), (.c (sl 1 (csL 5 cs_Key) a1.Tracks)), (.c (sl 4 cs_RootKey a1.Roots))])), (3, (.box [(.c (.int .i64 (0 : Int))), (.c (.int .i64 (0 : Int))), .nils, .nils])), (4, (.box [(.c (.int .i64 (IntKind.i64.wrap (a0.Length + a1.Length)))), (.c (.int .i64 a0.Kind)), (.lst 36 x14.length 1 (gl (csL 5 cs_Key) x14)), .nils])), (36, (.lst x14.length 1 (gl (csL 5 cs_Key) x14))), (131, (.arr false x87.length 4 (gl cs_RootKey x87)))]⟩ (Tt ∧ Tt) [] [2, 3, 4, 6, 10, 153, 154, 155] [1, 2, 3, 4, 36, 131] ⟨tr, tr⟩ (thenQ_normal ?_))
        refine AW.seq ?_
        rcases ite2_cases h with ⟨b88, h⟩ | ⟨b88, h⟩
        · refine AW.cond_t rfl b88 ?_
          refine AW.skip ?_
          refine thenQ_normal ?_
          refine AW.seq ?_
          refine AW.block ?_
          refine AW.seq (AW.rA ⟨[(2, (vp 1 0)), (3, (vp 2 0)), (4, (vp 3 0)), (6, (vp 4 0)), (10, (.v (.one (.arr 131)))), (11, (vc (.int .i64 x86))), (153, (vc (.int .i64 (a1.Roots.length : Int)))), (154, (vc (.int .i64 x86)))], [(1, (.box [(.c (.int .i64 a0.Length)), (.c (.int .i64 a0.Kind)), (.c (sl 1 (csL 5 cs_Key) a0.Tracks)), (.c (sl 4 cs_RootKey a0.Roots))])), (2, (.box [(.c (.int .i64 a1.Length)), (.c (.int .i64 a1.Kind)), (.c (sl 1 (csL 5 cs_Key) a1.Tracks)), (.c (sl 4 cs_RootKey a1.Roots))])), (3, (.box [(.c (.int .i64 (0 : Int))), (.c (.int .i64 (0 : Int))), .nils, .nils])), (4, (.box [(.c (.int .i64 (IntKind.i64.wrap (a0.Length + a1.Length)))), (.c (.int .i64 a0.Kind)), (.lst 36 x14.length 1 (gl (csL 5 cs_Key) x14)), .nils])), (36, (.lst x14.length 1 (gl (csL 5 cs_Key) x14))), (131, (.arr false x87.length 4 (gl cs_RootKey x87)))]⟩ (T2 Tt) [] [2, 3, 4, 6, 10, 11, 153, 154] [1, 2, 3, 4, 36, 131] ⟨tr, tr, tr⟩ (thenQ_normal ?_))
          obtain ⟨c89, h⟩ := chk_some h
          obtain ⟨c90, h⟩ := chk_some h
          refine AW.dA ⟨[(2, (vp 1 0)), (3, (vp 2 0)), (4, (vp 3 0)), (6, (vp 4 0)), (10, (.v (.one (.arr 144)))), (153, (vc (.int .i64 (a1.Roots.length : Int)))), (154, (vc (.int .i64 x86)))], [(1, (.box [(.c (.int .i64 a0.Length)), (.c (.int .i64 a0.Kind)), (.c (sl 1 (csL 5 cs_Key) a0.Tracks)), (.c (sl 4 cs_RootKey a0.Roots))])), (2, (.box [(.c (.int .i64 a1.Length)), (.c (.int .i64 a1.Kind)), (.c (sl 1 (csL 5 cs_Key) a1.Tracks)), (.c (sl 4 cs_RootKey a1.Roots))])), (3, (.box [(.c (.int .i64 (0 : Int))), (.c (.int .i64 (0 : Int))), .nils, .nils])), (4, (.box [(.c (.int .i64 (IntKind.i64.wrap (a0.Length + a1.Length)))), (.c (.int .i64 a0.Kind)), (.lst 36 x14.length 1 (gl (csL 5 cs_Key) x14)), .nils])), (36, (.lst x14.length 1 (gl (csL 5 cs_Key) x14))), (144, (.arr false (x87 ++ ([(RootKey.mk (IntKind.i64.wrap (((a1.Roots.getD x86.toNat default).At) + a0.Length)) ((a1.Roots.getD x86.toNat default).Place))])).length 4 (gl cs_RootKey (x87 ++ ([(RootKey.mk (IntKind.i64.wrap (((a1.Roots.getD x86.toNat default).At) + a0.Length)) ((a1.Roots.getD x86.toNat default).Place))])))))]⟩ ((T4 ((0 ≤ x86 ∧ x86 < (a1.Roots.length : Int)) ∧ T4 (T4 ((0 ≤ x86 ∧ x86 < (a1.Roots.length : Int)) ∧ Tt ∧ T2 ((([(RootKey.mk (IntKind.i64.wrap (((a1.Roots.getD x86.toNat default).At) + a0.Length)) ((a1.Roots.getD x86.toNat default).Place))]).length = 1 ∧ (((.int .i64 (IntKind.i64.wrap (((a1.Roots.getD x86.toNat default).At) + a0.Length))) : C) = (.int .i64 (IntKind.i64.wrap (((a1.Roots.getD x86.toNat default).At) + a0.Length))) ∧ Tt) ∧ (((.flt .f32 (((a1.Roots.getD x86.toNat default).Place).X).bits) : C) = (.flt .f32 (((a1.Roots.getD x86.toNat default).Place).X).bits) ∧ Tt) ∧ (((.flt .f32 (((a1.Roots.getD x86.toNat default).Place).Y).bits) : C) = (.flt .f32 (((a1.Roots.getD x86.toNat default).Place).Y).bits) ∧ Tt) ∧ (((.flt .f32 (((a1.Roots.getD x86.toNat default).Place).Z).bits) : C) = (.flt .f32 (((a1.Roots.getD x86.toNat default).Place).Z).bits) ∧ Tt) ∧ Tt) ∧ ((x87 ++ ([(RootKey.mk (IntKind.i64.wrap (((a1.Roots.getD x86.toNat default).At) + a0.Length)) ((a1.Roots.getD x86.toNat default).Place))])).length = x87.length + ([(RootKey.mk (IntKind.i64.wrap (((a1.Roots.getD x86.toNat default).At) + a0.Length)) ((a1.Roots.getD x86.toNat default).Place))]).length ∧ AppOb (x87.length) (([(RootKey.mk (IntKind.i64.wrap (((a1.Roots.getD x86.toNat default).At) + a0.Length)) ((a1.Roots.getD x86.toNat default).Place))]).length) 4 (gl cs_RootKey x87) (gl cs_RootKey ([(RootKey.mk (IntKind.i64.wrap (((a1.Roots.getD x86.toNat default).At) + a0.Length)) ((a1.Roots.getD x86.toNat default).Place))])) (gl cs_RootKey (x87 ++ ([(RootKey.mk (IntKind.i64.wrap (((a1.Roots.getD x86.toNat default).At) + a0.Length)) ((a1.Roots.getD x86.toNat default).Place))]))) ∧ (∀ i j, i < ([(RootKey.mk (IntKind.i64.wrap (((a1.Roots.getD x86.toNat default).At) + a0.Length)) ((a1.Roots.getD x86.toNat default).Place))]).length → j < 4 → scalarC (gl cs_RootKey ([(RootKey.mk (IntKind.i64.wrap (((a1.Roots.getD x86.toNat default).At) + a0.Length)) ((a1.Roots.getD x86.toNat default).Place))]) i j)) ∧ (x87.length + ([(RootKey.mk (IntKind.i64.wrap (((a1.Roots.getD x86.toNat default).At) + a0.Length)) ((a1.Roots.getD x86.toNat default).Place))]).length) * 24 ≤ 140737488355328) ∧ Tt))))) ∧ (Tt ∧ Tt)) 19 [.no, .no, .no, .no, .no, .no, .no, .no, .no, .no, .no, .no, .no, .no, .no, .no, .no, .obj 143 ([(RootKey.mk (IntKind.i64.wrap (((a1.Roots.getD x86.toNat default).At) + a0.Length)) ((a1.Roots.getD x86.toNat default).Place))]).length (gl cs_RootKey ([(RootKey.mk (IntKind.i64.wrap (((a1.Roots.getD x86.toNat default).At) + a0.Length)) ((a1.Roots.getD x86.toNat default).Place))])), .objKA 144 (x87 ++ ([(RootKey.mk (IntKind.i64.wrap (((a1.Roots.getD x86.toNat default).At) + a0.Length)) ((a1.Roots.getD x86.toNat default).Place))])).length (gl cs_RootKey (x87 ++ ([(RootKey.mk (IntKind.i64.wrap (((a1.Roots.getD x86.toNat default).At) + a0.Length)) ((a1.Roots.getD x86.toNat default).Place))])))] [2, 3, 4, 6, 10, 153, 154] [1, 2, 3, 4, 36, 144] ⟨⟨tr, tr, tr, tr, c89, tr, tr, tr, tr, tr, tr, tr, tr, c89, tr, tr, tr, ⟨rfl, ⟨⟨rfl, tr⟩, ⟨rfl, tr⟩, ⟨rfl, tr⟩, ⟨rfl, tr⟩, tr⟩⟩, ⟨List.length_append, gl_append, gl_scalar sc_RootKey _, c90⟩, tr⟩, ⟨tr, tr⟩⟩ ?_
          refine blockQ_normal ?_
          refine thenQ_normal ?_
          refine AW.rA ⟨[(2, (vp 1 0)), (3, (vp 2 0)), (4, (vp 3 0)), (6, (vp 4 0)), (10, (.v (.one (.arr 144)))), (153, (vc (.int .i64 (a1.Roots.length : Int)))), (154, (vc (.int .i64 (IntKind.i64.wrap (x86 + (1 : Int))))))], [(1, (.box [(.c (.int .i64 a0.Length)), (.c (.int .i64 a0.Kind)), (.c (sl 1 (csL 5 cs_Key) a0.Tracks)), (.c (sl 4 cs_RootKey a0.Roots))])), (2, (.box [(.c (.int .i64 a1.Length)), (.c (.int .i64 a1.Kind)), (.c (sl 1 (csL 5 cs_Key) a1.Tracks)), (.c (sl 4 cs_RootKey a1.Roots))])), (3, (.box [(.c (.int .i64 (0 : Int))), (.c (.int .i64 (0 : Int))), .nils, .nils])), (4, (.box [(.c (.int .i64 (IntKind.i64.wrap (a0.Length + a1.Length)))), (.c (.int .i64 a0.Kind)), (.lst 36 x14.length 1 (gl (csL 5 cs_Key) x14)), .nils])), (36, (.lst x14.length 1 (gl (csL 5 cs_Key) x14))), (144, (.arr false (x87 ++ ([(RootKey.mk (IntKind.i64.wrap (((a1.Roots.getD x86.toNat default).At) + a0.Length)) ((a1.Roots.getD x86.toNat default).Place))])).length 4 (gl cs_RootKey (x87 ++ ([(RootKey.mk (IntKind.i64.wrap (((a1.Roots.getD x86.toNat default).At) + a0.Length)) ((a1.Roots.getD x86.toNat default).Place))])))))]⟩ (T2 Tt) [] [2, 3, 4, 6, 10, 153, 154] [1, 2, 3, 4, 36, 144] ⟨tr, tr, tr⟩ ?_
          exact loopQ_normal (k, (IntKind.i64.wrap (x86 + (1 : Int))), (x87 ++ ([(RootKey.mk (IntKind.i64.wrap (((a1.Roots.getD x86.toNat default).At) + a0.Length)) ((a1.Roots.getD x86.toNat default).Place))]))) h (Nat.lt_succ_self k) (Sub.trans (Sub.swap 131 144 _ (by kernel_rfl) (by kernel_rfl)) (Sub.keep [2, 3, 4, 6, 10, 153, 154] [1, 2, 3, 4, 36, 131] (by kernel_rfl) (by kernel_rfl)))
        · refine AW.cond_f rfl b88 ?_
          refine AW.exit ?_
          refine thenQ_exit ?_
          refine loopQ_exit ?_
          refine blockQ_exit ?_
          refine thenQ_normal ?_
          refine AW.seq (AW.rA ⟨[(4, (vp 3 0)), (6, (vp 4 0))], [(3, (.box [(.c (.int .i64 (0 : Int))), (.c (.int .i64 (0 : Int))), .nils, .nils])), (4, (.box [(.c (.int .i64 (IntKind.i64.wrap (a0.Length + a1.Length)))), (.c (.int .i64 a0.Kind)), (.lst 36 x14.length 1 (gl (csL 5 cs_Key) x14)), (.arr 131)])), (36, (.lst x14.length 1 (gl (csL 5 cs_Key) x14))), (131, (.arr false x87.length 4 (gl cs_RootKey x87)))]⟩ (Tt ∧ T2 Tt) [] [4, 6] [3, 4, 36, 131] ⟨tr, tr, tr, tr⟩ (thenQ_normal ?_))
          refine AW.seq ?_
          refine AW.seq ?_
          obtain ⟨v91, e92, h⟩ := bind_some h
          refine AW.rA ⟨[(4, (vp 3 0)), (6, (vp 4 0)), (180, (vc (.bool (!v91))))], [(3, (.box [(.c (.int .i64 (0 : Int))), (.c (.int .i64 (0 : Int))), .nils, .nils])), (4, (.box [(.c (.int .i64 (IntKind.i64.wrap (a0.Length + a1.Length)))), (.c (.int .i64 a0.Kind)), (.lst 36 x14.length 1 (gl (csL 5 cs_Key) x14)), (.arr 131)])), (36, (.lst x14.length 1 (gl (csL 5 cs_Key) x14))), (131, (.arr false x87.length 4 (gl cs_RootKey x87)))]⟩ ((((0 = 0 ∧ (Eqc (.int .i64 (IntKind.i64.wrap (a0.Length + a1.Length)))) ∧ (Eqc (.int .i64 a0.Kind)) ∧ (Eqc (sl 1 (csL 5 cs_Key) x14)) ∧ (Eqc (sl 4 cs_RootKey x87)) ∧ Tt) ∧ Tt) ∧ CallOK Try.prog 60 [.one (pl 4 cs_Clip (Clip.mk (IntKind.i64.wrap (a0.Length + a1.Length)) a0.Kind x14 x87))] [.one (.bool v91)]) ∧ Tt ∧ Tt) [.call [.one (pl 4 cs_Clip (Clip.mk (IntKind.i64.wrap (a0.Length + a1.Length)) a0.Kind x14 x87))] [.one (.bool v91)] [[.view]]] [4, 6, 180] [3, 4, 36, 131] ⟨⟨⟨⟨rfl, rfl, rfl, rfl, rfl, tr⟩, tr⟩, ok_spec_l05Is K (Clip.mk (IntKind.i64.wrap (a0.Length + a1.Length)) a0.Kind x14 x87) v91 e92⟩, tr, tr⟩ ?_
          refine thenQ_normal ?_
          rcases ite2_cases h with ⟨b93, h⟩ | ⟨b93, h⟩
          · refine AW.cond_t rfl b93 ?_
            refine AW.seq (AW.rA ⟨[(4, (vp 3 0)), (5, (vc (.bool false)))], [(3, (.box [(.c (.int .i64 (0 : Int))), (.c (.int .i64 (0 : Int))), .nils, .nils]))]⟩ (Tt ∧ T2 Tt) [] [4, 5] [3] ⟨tr, tr, tr, tr⟩ (thenQ_normal ?_))
            refine AW.ret ?_
            refine thenQ_ret ?_
            replace h := some_eq h
            subst h
            exact ⟨.inr rfl, retOK_of [(.agg [(.c (.int .i64 (0 : Int))), (.c (.int .i64 (0 : Int))), .nils, .nils]), (.one (.c (.bool false)))] (by kernel_rfl) ⟨⟨⟨rfl, tr⟩, ⟨rfl, tr⟩, rfl, rfl, tr⟩, ⟨rfl, tr⟩, tr⟩ (of_decide_eq_true (by kernel_rfl))⟩
          · refine AW.cond_f rfl b93 ?_
            refine AW.skip ?_
            refine thenQ_normal ?_
            refine AW.seq (AW.rA ⟨[(4, (vp 3 0)), (5, (vc (.bool true)))], [(3, (.box [(.c (.int .i64 (IntKind.i64.wrap (a0.Length + a1.Length)))), (.c (.int .i64 a0.Kind)), (.lst 36 x14.length 1 (gl (csL 5 cs_Key) x14)), (.arr 131)])), (36, (.lst x14.length 1 (gl (csL 5 cs_Key) x14))), (131, (.arr false x87.length 4 (gl cs_RootKey x87)))]⟩ (Tt ∧ T2 Tt) [] [4, 5] [3, 36, 131] ⟨tr, tr, tr, tr⟩ (thenQ_normal ?_))
            refine AW.ret ?_
            replace h := some_eq h
            subst h
            exact ⟨.inr rfl, retOK_of [(.agg [(.c (.int .i64 (IntKind.i64.wrap (a0.Length + a1.Length)))), (.c (.int .i64 a0.Kind)), (.lst 36 x14.length 1 (gl (csL 5 cs_Key) x14)), (.arr 131)]), (.one (.c (.bool true)))] (by kernel_rfl) ⟨⟨⟨rfl, tr⟩, ⟨rfl, tr⟩, rfl, rfl, tr⟩, ⟨rfl, tr⟩, tr⟩ (of_decide_eq_true (by kernel_rfl))⟩

/-! impl.turnTrack -/
def impl_turnTrack (_K : Nat) : Option (Unit) :=
  some ()

theorem ok_impl_turnTrack (K : Nat) (o : (Unit)) (h : impl_turnTrack K  = some o) : CallOK Try.prog 76 [] [.agg [(.fn 146 0 fun _ => .nilptr), (.fn 147 0 fun _ => .nilptr), (.fn 148 0 fun _ => .nilptr)]] := by
  refine callOK_of_AW Try.func76 rfl (by kernel_rfl) (Nat.le_of_ble_eq_true (by kernel_rfl)) ?_
  intro w0
  unfold impl_turnTrack at h
  refine AW.seq (AW.rA ⟨[(0, (vp 1 0))], [(1, (.box [(.c .nilfn), (.c .nilfn), (.c .nilfn)]))]⟩ (Tt ∧ Tt) [.box 1] [0] [1] ⟨tr, tr⟩ (thenQ_normal ?_))
  refine AW.seq (AW.rA ⟨[(0, (vp 1 0))], [(1, (.box [(.c (.fn 146 0 fun _ => .nilptr)), (.c (.fn 147 0 fun _ => .nilptr)), (.c (.fn 148 0 fun _ => .nilptr))]))]⟩ (T2 Tt) [] [0] [1] ⟨tr, tr, tr⟩ (thenQ_normal ?_))
  refine AW.ret ?_
  replace h := some_eq h
  subst h
  exact ⟨.inr rfl, retOK_of [(.agg [(.c (.fn 146 0 fun _ => .nilptr)), (.c (.fn 147 0 fun _ => .nilptr)), (.c (.fn 148 0 fun _ => .nilptr))])] (by kernel_rfl) ⟨⟨⟨rfl, rfl⟩, ⟨rfl, rfl⟩, ⟨rfl, rfl⟩, tr⟩, tr⟩ (of_decide_eq_true (by kernel_rfl))⟩

/-! impl.turnTrack$1 -/
def impl_turnTrack_1 (_K : Nat) (a0 : Key) : Option (Int) :=
  some a0.At

theorem ok_impl_turnTrack_1 (K : Nat) (a0 : Key) (o : (Int)) (h : impl_turnTrack_1 K a0 = some o) : CallOK Try.prog 146 [.agg (cs_Key a0)] [.one (.int .i64 o)] := by
  refine callOK_of_AW Try.func146 rfl (by kernel_rfl) (Nat.le_of_ble_eq_true (by kernel_rfl)) ?_
  intro w0
  unfold impl_turnTrack_1 at h
  refine AW.seq (AW.rA ⟨[(1, (vp 1 0))], [(1, (.box [(.c (.int .i64 a0.At)), (.c (.flt .f32 a0.Turn.W.bits)), (.c (.flt .f32 a0.Turn.X.bits)), (.c (.flt .f32 a0.Turn.Y.bits)), (.c (.flt .f32 a0.Turn.Z.bits))]))]⟩ (T2 Tt) [.box 1] [1] [1] ⟨tr, tr, tr⟩ (thenQ_normal ?_))
  refine AW.seq (AW.rA ⟨[(2, (vc (.int .i64 a0.At)))], []⟩ (Tt ∧ T2 Tt) [] [2] [] ⟨tr, tr, tr, tr⟩ (thenQ_normal ?_))
  refine AW.ret ?_
  replace h := some_eq h
  subst h
  exact ⟨.inr rfl, retOK_of [(.one (.c (.int .i64 a0.At)))] (by kernel_rfl) ⟨⟨rfl, tr⟩, tr⟩ (of_decide_eq_true (by kernel_rfl))⟩

/-! (impl.track[impl.Key]).valid -/
def impl_track_impl_Key_valid_l1 (K : Nat) (a1 : (List Key)) (a2 : Int) : Nat → Int → Int → Option (Bool)
  | 0, _, _ => none
  | k + 1, x3, x4 => ite2 ((decide (x4 < (a1.length : Int)))) (chk (0 ≤ x4 ∧ x4 < (a1.length : Int)) ((impl_turnTrack_1 K (a1.getD x4.toNat default)).bind fun v7 => (ite2 ((decide (v7 ≤ x3))) (some true) (some (decide (v7 > a2)))).bind fun j10 => ite2 (j10) (some false) ((impl_turnTrack_1 K (a1.getD x4.toNat default)).bind fun v13 => impl_track_impl_Key_valid_l1 K a1 a2 k v13 (IntKind.i64.wrap (x4 + (1 : Int)))))) ((ite2 ((decide ((a1.length : Int) ≥ (1 : Int)))) (some (decide ((a1.length : Int) ≤ (12 : Int)))) (some false)).bind fun j16 => some j16)

def impl_track_impl_Key_valid (K : Nat) (a1 : (List Key)) (a2 : Int) : Option (Bool) :=
  impl_track_impl_Key_valid_l1 K a1 a2 K ((-1) : Int) (0 : Int)

theorem ok_impl_track_impl_Key_valid (K : Nat) (a1 : (List Key)) (a2 : Int) (o : (Bool)) (h : impl_track_impl_Key_valid K a1 a2 = some o) : CallOK Try.prog 139 [.agg [(.fn 146 0 fun _ => .nilptr), (.fn 147 0 fun _ => .nilptr), (.fn 148 0 fun _ => .nilptr)], .one (sl 5 cs_Key a1), .one (.int .i64 a2)] [.one (.bool o)] := by
  refine callOK_of_AW Try.func139 rfl (by kernel_rfl) (Nat.le_of_ble_eq_true (by kernel_rfl)) ?_
  intro w0
  unfold impl_track_impl_Key_valid at h
  refine AW.seq (AW.rA ⟨[(1, (vc (sl 5 cs_Key a1))), (2, (vc (.int .i64 a2))), (3, (vp 1 0))], [(1, (.box [(.c (.fn 146 0 fun _ => .nilptr)), (.c (.fn 147 0 fun _ => .nilptr)), (.c (.fn 148 0 fun _ => .nilptr))]))]⟩ (T2 Tt) [.box 1] [1, 2, 3] [1] ⟨tr, tr, tr⟩ (thenQ_normal ?_))
  refine AW.seq (AW.rA ⟨[(1, (vc (sl 5 cs_Key a1))), (2, (vc (.int .i64 a2))), (3, (vp 1 0)), (7, (vc (.int .i64 ((-1) : Int))))], [(1, (.box [(.c (.fn 146 0 fun _ => .nilptr)), (.c (.fn 147 0 fun _ => .nilptr)), (.c (.fn 148 0 fun _ => .nilptr))]))]⟩ (Tt ∧ Tt) [] [1, 2, 3, 7] [1] ⟨tr, tr⟩ (thenQ_normal ?_))
  refine AW.seq ?_
  refine AW.seq (AW.rA ⟨[(1, (vc (sl 5 cs_Key a1))), (2, (vc (.int .i64 a2))), (3, (vp 1 0)), (7, (vc (.int .i64 ((-1) : Int)))), (11, (vc (sl 5 cs_Key a1))), (12, (vc (.int .i64 (a1.length : Int)))), (13, (vc (.int .i64 (0 : Int))))], [(1, (.box [(.c (.fn 146 0 fun _ => .nilptr)), (.c (.fn 147 0 fun _ => .nilptr)), (.c (.fn 148 0 fun _ => .nilptr))]))]⟩ (Tt ∧ T2 Tt) [] [1, 2, 3, 7, 11, 12, 13] [1] ⟨tr, tr, tr, tr⟩ (thenQ_normal ?_))
  refine AW.block ?_
  refine AW.loopQ (σ := Nat × Int × Int) (fun p => ⟨[(1, (vc (sl 5 cs_Key a1))), (2, (vc (.int .i64 a2))), (3, (vp 1 0)), (7, (vc (.int .i64 p.2.1))), (11, (vc (sl 5 cs_Key a1))), (12, (vc (.int .i64 (a1.length : Int)))), (13, (vc (.int .i64 p.2.2)))], [(1, (.box [(.c (.fn 146 0 fun _ => .nilptr)), (.c (.fn 147 0 fun _ => .nilptr)), (.c (.fn 148 0 fun _ => .nilptr))]))]⟩) (fun p => impl_track_impl_Key_valid_l1 K a1 a2 p.1 p.2.1 p.2.2 = some o) (fun p => p.1) (K, ((-1) : Int), (0 : Int)) h ?_
  clear h
  rintro ⟨k, x3, x4⟩ h
  replace h : impl_track_impl_Key_valid_l1 K a1 a2 k x3 x4 = some o := h
  show AW _ _ (⟨[(1, (vc (sl 5 cs_Key a1))), (2, (vc (.int .i64 a2))), (3, (vp 1 0)), (7, (vc (.int .i64 x3))), (11, (vc (sl 5 cs_Key a1))), (12, (vc (.int .i64 (a1.length : Int)))), (13, (vc (.int .i64 x4)))], [(1, (.box [(.c (.fn 146 0 fun _ => .nilptr)), (.c (.fn 147 0 fun _ => .nilptr)), (.c (.fn 148 0 fun _ => .nilptr))]))]⟩ : St) _
  obtain _ | k := k
  · rw [impl_track_impl_Key_valid_l1] at h; cases h
  rw [impl_track_impl_Key_valid_l1] at h
  refine AW.seq (AW.rA ⟨[(1, (vc (sl 5 cs_Key a1))), (2, (vc (.int .i64 a2))), (3, (vp 1 0)), (7, (vc (.int .i64 x3))), (11, (vc (sl 5 cs_Key a1))), (12, (vc (.int .i64 (a1.length : Int)))), (13, (vc (.int .i64 x4))), (14, (vc (.bool (decide (x4 < (a1.length : Int))))))], [(1, (.box [(.c (.fn 146 0 fun _ => .nilptr)), (.c (.fn 147 0 fun _ => .nilptr)), (.c (.fn 148 0 fun _ => .nilptr))]))]⟩ (Tt ∧ Tt) [] [1, 2, 3, 7, 11, 12, 13, 14] [1] ⟨tr, tr⟩ (thenQ_normal ?_))
  refine AW.seq ?_
  rcases ite2_cases h with ⟨b5, h⟩ | ⟨b5, h⟩
  · refine AW.cond_t rfl b5 ?_
    refine AW.skip ?_
    refine thenQ_normal ?_
    refine AW.seq ?_
    refine AW.block ?_
    refine AW.seq ?_
    obtain ⟨c6, h⟩ := chk_some h
    refine AW.rA ⟨[(1, (vc (sl 5 cs_Key a1))), (2, (vc (.int .i64 a2))), (3, (vp 1 0)), (7, (vc (.int .i64 x3))), (9, (vp 4 0)), (11, (vc (sl 5 cs_Key a1))), (12, (vc (.int .i64 (a1.length : Int)))), (13, (vc (.int .i64 x4)))], [(1, (.box [(.c (.fn 146 0 fun _ => .nilptr)), (.c (.fn 147 0 fun _ => .nilptr)), (.c (.fn 148 0 fun _ => .nilptr))])), (4, (.box [(.c (.int .i64 ((a1.getD x4.toNat default).At))), (.c (.flt .f32 (((a1.getD x4.toNat default).Turn).W).bits)), (.c (.flt .f32 (((a1.getD x4.toNat default).Turn).X).bits)), (.c (.flt .f32 (((a1.getD x4.toNat default).Turn).Y).bits)), (.c (.flt .f32 (((a1.getD x4.toNat default).Turn).Z).bits))]))]⟩ ((0 ≤ x4 ∧ x4 < (a1.length : Int)) ∧ Tt ∧ T2 Tt) [.no, .no, .box 4] [1, 2, 3, 7, 9, 11, 12, 13] [1, 4] ⟨c6, tr, tr, tr, tr⟩ ?_
    refine thenQ_normal ?_
    refine AW.seq ?_
    refine AW.seq ?_
    obtain ⟨v7, e8, h⟩ := bind_some h
    refine AW.rA ⟨[(1, (vc (sl 5 cs_Key a1))), (2, (vc (.int .i64 a2))), (3, (vp 1 0)), (7, (vc (.int .i64 x3))), (9, (vp 4 0)), (10, (vc (.int .i64 v7))), (11, (vc (sl 5 cs_Key a1))), (12, (vc (.int .i64 (a1.length : Int)))), (13, (vc (.int .i64 x4)))], [(1, (.box [(.c (.fn 146 0 fun _ => .nilptr)), (.c (.fn 147 0 fun _ => .nilptr)), (.c (.fn 148 0 fun _ => .nilptr))])), (4, (.box [(.c (.int .i64 ((a1.getD x4.toNat default).At))), (.c (.flt .f32 (((a1.getD x4.toNat default).Turn).W).bits)), (.c (.flt .f32 (((a1.getD x4.toNat default).Turn).X).bits)), (.c (.flt .f32 (((a1.getD x4.toNat default).Turn).Y).bits)), (.c (.flt .f32 (((a1.getD x4.toNat default).Turn).Z).bits))]))]⟩ (Tt ∧ T2 (((((Eqc (.int .i64 ((a1.getD x4.toNat default).At))) ∧ (Eqc (.flt .f32 (((a1.getD x4.toNat default).Turn).W).bits)) ∧ (Eqc (.flt .f32 (((a1.getD x4.toNat default).Turn).X).bits)) ∧ (Eqc (.flt .f32 (((a1.getD x4.toNat default).Turn).Y).bits)) ∧ (Eqc (.flt .f32 (((a1.getD x4.toNat default).Turn).Z).bits)) ∧ Tt) ∧ Tt) ∧ CallOK Try.prog 146 [.agg (cs_Key (a1.getD x4.toNat default))] [.one (.int .i64 v7)]) ∧ Tt ∧ Tt)) [.no, .no, .no, .call [.agg (cs_Key (a1.getD x4.toNat default))] [.one (.int .i64 v7)] [[.view]]] [1, 2, 3, 7, 9, 10, 11, 12, 13] [1, 4] ⟨tr, tr, tr, ⟨⟨⟨rfl, rfl, rfl, rfl, rfl, tr⟩, tr⟩, ok_impl_turnTrack_1 K (a1.getD x4.toNat default) v7 e8⟩, tr, tr⟩ ?_
    refine thenQ_normal ?_
    refine AW.seq ?_
    obtain ⟨j10, e11, h⟩ := bind_some h
    refine AW.join1 (s2 := ⟨[(1, (vc (sl 5 cs_Key a1))), (2, (vc (.int .i64 a2))), (3, (vp 1 0)), (9, (vp 4 0)), (11, (vc (sl 5 cs_Key a1))), (12, (vc (.int .i64 (a1.length : Int)))), (13, (vc (.int .i64 x4))), (28, (vc (.bool j10)))], [(1, (.box [(.c (.fn 146 0 fun _ => .nilptr)), (.c (.fn 147 0 fun _ => .nilptr)), (.c (.fn 148 0 fun _ => .nilptr))])), (4, (.box [(.c (.int .i64 ((a1.getD x4.toNat default).At))), (.c (.flt .f32 (((a1.getD x4.toNat default).Turn).W).bits)), (.c (.flt .f32 (((a1.getD x4.toNat default).Turn).X).bits)), (.c (.flt .f32 (((a1.getD x4.toNat default).Turn).Y).bits)), (.c (.flt .f32 (((a1.getD x4.toNat default).Turn).Z).bits))]))]⟩) ?_ ?_
    · rcases ite2_cases e11 with ⟨b9, e11⟩ | ⟨b9, e11⟩
      · replace e11 := some_eq e11
        subst e11
        exact AW.rA ⟨[(1, (vc (sl 5 cs_Key a1))), (2, (vc (.int .i64 a2))), (3, (vp 1 0)), (9, (vp 4 0)), (11, (vc (sl 5 cs_Key a1))), (12, (vc (.int .i64 (a1.length : Int)))), (13, (vc (.int .i64 x4))), (28, (vc (.bool true)))], [(1, (.box [(.c (.fn 146 0 fun _ => .nilptr)), (.c (.fn 147 0 fun _ => .nilptr)), (.c (.fn 148 0 fun _ => .nilptr))])), (4, (.box [(.c (.int .i64 ((a1.getD x4.toNat default).At))), (.c (.flt .f32 (((a1.getD x4.toNat default).Turn).W).bits)), (.c (.flt .f32 (((a1.getD x4.toNat default).Turn).X).bits)), (.c (.flt .f32 (((a1.getD x4.toNat default).Turn).Y).bits)), (.c (.flt .f32 (((a1.getD x4.toNat default).Turn).Z).bits))]))]⟩ (Tt ∧ T2 ((Tt ∧ (decide (v7 ≤ x3)) = true) ∧ T4 Tt)) [.no, .no, .no, .dec true] [1, 2, 3, 9, 11, 12, 13, 28] [1, 4] ⟨tr, tr, tr, ⟨tr, b9⟩, tr, tr, tr, tr, tr⟩ ⟨rfl, rfl⟩
      · replace e11 := some_eq e11
        subst e11
        exact AW.rA ⟨[(1, (vc (sl 5 cs_Key a1))), (2, (vc (.int .i64 a2))), (3, (vp 1 0)), (9, (vp 4 0)), (11, (vc (sl 5 cs_Key a1))), (12, (vc (.int .i64 (a1.length : Int)))), (13, (vc (.int .i64 x4))), (28, (vc (.bool (decide (v7 > a2)))))], [(1, (.box [(.c (.fn 146 0 fun _ => .nilptr)), (.c (.fn 147 0 fun _ => .nilptr)), (.c (.fn 148 0 fun _ => .nilptr))])), (4, (.box [(.c (.int .i64 ((a1.getD x4.toNat default).At))), (.c (.flt .f32 (((a1.getD x4.toNat default).Turn).W).bits)), (.c (.flt .f32 (((a1.getD x4.toNat default).Turn).X).bits)), (.c (.flt .f32 (((a1.getD x4.toNat default).Turn).Y).bits)), (.c (.flt .f32 (((a1.getD x4.toNat default).Turn).Z).bits))]))]⟩ (Tt ∧ T2 ((Tt ∧ (decide (v7 ≤ x3)) = false) ∧ T4 Tt)) [.no, .no, .no, .dec false] [1, 2, 3, 9, 11, 12, 13, 28] [1, 4] ⟨tr, tr, tr, ⟨tr, b9⟩, tr, tr, tr, tr, tr⟩ ⟨rfl, rfl⟩
    refine thenQ_normal ?_
    rcases ite2_cases h with ⟨b12, h⟩ | ⟨b12, h⟩
    · refine AW.cond_t rfl b12 ?_
      refine AW.seq (AW.rA ⟨[(6, (vc (.bool false)))], []⟩ (Tt ∧ Tt) [] [6] [] ⟨tr, tr⟩ (thenQ_normal ?_))
      refine AW.ret ?_
      refine thenQ_ret ?_
      refine blockQ_ret ?_
      refine thenQ_ret ?_
      refine loopQ_ret ?_
      refine blockQ_ret ?_
      refine thenQ_ret ?_
      replace h := some_eq h
      subst h
      exact ⟨.inr rfl, retOK_of [(.one (.c (.bool false)))] (by kernel_rfl) ⟨⟨rfl, tr⟩, tr⟩ (of_decide_eq_true (by kernel_rfl))⟩
    · refine AW.cond_f rfl b12 ?_
      refine AW.skip ?_
      refine thenQ_normal ?_
      obtain ⟨v13, e14, h⟩ := bind_some h
      refine AW.rA ⟨[(1, (vc (sl 5 cs_Key a1))), (2, (vc (.int .i64 a2))), (3, (vp 1 0)), (7, (vc (.int .i64 v13))), (11, (vc (sl 5 cs_Key a1))), (12, (vc (.int .i64 (a1.length : Int)))), (13, (vc (.int .i64 x4)))], [(1, (.box [(.c (.fn 146 0 fun _ => .nilptr)), (.c (.fn 147 0 fun _ => .nilptr)), (.c (.fn 148 0 fun _ => .nilptr))]))]⟩ (Tt ∧ T2 (((((Eqc (.int .i64 ((a1.getD x4.toNat default).At))) ∧ (Eqc (.flt .f32 (((a1.getD x4.toNat default).Turn).W).bits)) ∧ (Eqc (.flt .f32 (((a1.getD x4.toNat default).Turn).X).bits)) ∧ (Eqc (.flt .f32 (((a1.getD x4.toNat default).Turn).Y).bits)) ∧ (Eqc (.flt .f32 (((a1.getD x4.toNat default).Turn).Z).bits)) ∧ Tt) ∧ Tt) ∧ CallOK Try.prog 146 [.agg (cs_Key (a1.getD x4.toNat default))] [.one (.int .i64 v13)]) ∧ Tt ∧ Tt)) [.no, .no, .no, .call [.agg (cs_Key (a1.getD x4.toNat default))] [.one (.int .i64 v13)] [[.view]]] [1, 2, 3, 7, 11, 12, 13] [1] ⟨tr, tr, tr, ⟨⟨⟨rfl, rfl, rfl, rfl, rfl, tr⟩, tr⟩, ok_impl_turnTrack_1 K (a1.getD x4.toNat default) v13 e14⟩, tr, tr⟩ ?_
      refine blockQ_normal ?_
      refine thenQ_normal ?_
      refine AW.rA ⟨[(1, (vc (sl 5 cs_Key a1))), (2, (vc (.int .i64 a2))), (3, (vp 1 0)), (7, (vc (.int .i64 v13))), (11, (vc (sl 5 cs_Key a1))), (12, (vc (.int .i64 (a1.length : Int)))), (13, (vc (.int .i64 (IntKind.i64.wrap (x4 + (1 : Int))))))], [(1, (.box [(.c (.fn 146 0 fun _ => .nilptr)), (.c (.fn 147 0 fun _ => .nilptr)), (.c (.fn 148 0 fun _ => .nilptr))]))]⟩ (T2 Tt) [] [1, 2, 3, 7, 11, 12, 13] [1] ⟨tr, tr, tr⟩ ?_
      exact loopQ_normal (k, v13, (IntKind.i64.wrap (x4 + (1 : Int)))) h (Nat.lt_succ_self k) (Sub.keep [1, 2, 3, 7, 11, 12, 13] [1] (by kernel_rfl) (by kernel_rfl))
  · refine AW.cond_f rfl b5 ?_
    refine AW.exit ?_
    refine thenQ_exit ?_
    refine loopQ_exit ?_
    refine blockQ_exit ?_
    refine thenQ_normal ?_
    refine AW.seq ?_
    obtain ⟨j16, e17, h⟩ := bind_some h
    refine AW.join1 (s2 := ⟨[(6, (vc (.bool j16)))], []⟩) ?_ ?_
    · rcases ite2_cases e17 with ⟨b15, e17⟩ | ⟨b15, e17⟩
      · replace e17 := some_eq e17
        subst e17
        exact AW.rA ⟨[(6, (vc (.bool (decide ((a1.length : Int) ≤ (12 : Int))))))], []⟩ (Tt ∧ T2 ((Tt ∧ (decide ((a1.length : Int) ≥ (1 : Int))) = true) ∧ Tt ∧ T4 Tt)) [.no, .no, .no, .dec true] [6] [] ⟨tr, tr, tr, ⟨tr, b15⟩, tr, tr, tr, tr, tr, tr⟩ ⟨rfl, rfl⟩
      · replace e17 := some_eq e17
        subst e17
        exact AW.rA ⟨[(6, (vc (.bool false)))], []⟩ (Tt ∧ T2 ((Tt ∧ (decide ((a1.length : Int) ≥ (1 : Int))) = false) ∧ Tt ∧ T4 Tt)) [.no, .no, .no, .dec false] [6] [] ⟨tr, tr, tr, ⟨tr, b15⟩, tr, tr, tr, tr, tr, tr⟩ ⟨rfl, rfl⟩
    refine thenQ_normal ?_
    refine AW.ret ?_
    replace h := some_eq h
    subst h
    exact ⟨.inr rfl, retOK_of [(.one (.c (.bool j16)))] (by kernel_rfl) ⟨⟨rfl, tr⟩, tr⟩ (of_decide_eq_true (by kernel_rfl))⟩

/-! impl.rootTrack -/
def impl_rootTrack (_K : Nat) : Option (Unit) :=
  some ()

theorem ok_impl_rootTrack (K : Nat) (o : (Unit)) (h : impl_rootTrack K  = some o) : CallOK Try.prog 79 [] [.agg [(.fn 150 0 fun _ => .nilptr), (.fn 151 0 fun _ => .nilptr), (.fn 152 0 fun _ => .nilptr)]] := by
  refine callOK_of_AW Try.func79 rfl (by kernel_rfl) (Nat.le_of_ble_eq_true (by kernel_rfl)) ?_
  intro w0
  unfold impl_rootTrack at h
  refine AW.seq (AW.rA ⟨[(0, (vp 1 0))], [(1, (.box [(.c .nilfn), (.c .nilfn), (.c .nilfn)]))]⟩ (Tt ∧ Tt) [.box 1] [0] [1] ⟨tr, tr⟩ (thenQ_normal ?_))
  refine AW.seq (AW.rA ⟨[(0, (vp 1 0))], [(1, (.box [(.c (.fn 150 0 fun _ => .nilptr)), (.c (.fn 151 0 fun _ => .nilptr)), (.c (.fn 152 0 fun _ => .nilptr))]))]⟩ (T2 Tt) [] [0] [1] ⟨tr, tr, tr⟩ (thenQ_normal ?_))
  refine AW.ret ?_
  replace h := some_eq h
  subst h
  exact ⟨.inr rfl, retOK_of [(.agg [(.c (.fn 150 0 fun _ => .nilptr)), (.c (.fn 151 0 fun _ => .nilptr)), (.c (.fn 152 0 fun _ => .nilptr))])] (by kernel_rfl) ⟨⟨⟨rfl, rfl⟩, ⟨rfl, rfl⟩, ⟨rfl, rfl⟩, tr⟩, tr⟩ (of_decide_eq_true (by kernel_rfl))⟩

/-! impl.rootTrack$1 -/
def impl_rootTrack_1 (_K : Nat) (a0 : RootKey) : Option (Int) :=
  some a0.At

theorem ok_impl_rootTrack_1 (K : Nat) (a0 : RootKey) (o : (Int)) (h : impl_rootTrack_1 K a0 = some o) : CallOK Try.prog 150 [.agg (cs_RootKey a0)] [.one (.int .i64 o)] := by
  refine callOK_of_AW Try.func150 rfl (by kernel_rfl) (Nat.le_of_ble_eq_true (by kernel_rfl)) ?_
  intro w0
  unfold impl_rootTrack_1 at h
  refine AW.seq (AW.rA ⟨[(1, (vp 1 0))], [(1, (.box [(.c (.int .i64 a0.At)), (.c (.flt .f32 a0.Place.X.bits)), (.c (.flt .f32 a0.Place.Y.bits)), (.c (.flt .f32 a0.Place.Z.bits))]))]⟩ (T2 Tt) [.box 1] [1] [1] ⟨tr, tr, tr⟩ (thenQ_normal ?_))
  refine AW.seq (AW.rA ⟨[(2, (vc (.int .i64 a0.At)))], []⟩ (Tt ∧ T2 Tt) [] [2] [] ⟨tr, tr, tr, tr⟩ (thenQ_normal ?_))
  refine AW.ret ?_
  replace h := some_eq h
  subst h
  exact ⟨.inr rfl, retOK_of [(.one (.c (.int .i64 a0.At)))] (by kernel_rfl) ⟨⟨rfl, tr⟩, tr⟩ (of_decide_eq_true (by kernel_rfl))⟩

/-! (impl.track[impl.RootKey]).valid -/
def impl_track_impl_RootKey_valid_l1 (K : Nat) (a1 : (List RootKey)) (a2 : Int) : Nat → Int → Int → Option (Bool)
  | 0, _, _ => none
  | k + 1, x3, x4 => ite2 ((decide (x4 < (a1.length : Int)))) (chk (0 ≤ x4 ∧ x4 < (a1.length : Int)) ((impl_rootTrack_1 K (a1.getD x4.toNat default)).bind fun v7 => (ite2 ((decide (v7 ≤ x3))) (some true) (some (decide (v7 > a2)))).bind fun j10 => ite2 (j10) (some false) ((impl_rootTrack_1 K (a1.getD x4.toNat default)).bind fun v13 => impl_track_impl_RootKey_valid_l1 K a1 a2 k v13 (IntKind.i64.wrap (x4 + (1 : Int)))))) ((ite2 ((decide ((a1.length : Int) ≥ (1 : Int)))) (some (decide ((a1.length : Int) ≤ (12 : Int)))) (some false)).bind fun j16 => some j16)

def impl_track_impl_RootKey_valid (K : Nat) (a1 : (List RootKey)) (a2 : Int) : Option (Bool) :=
  impl_track_impl_RootKey_valid_l1 K a1 a2 K ((-1) : Int) (0 : Int)

theorem ok_impl_track_impl_RootKey_valid (K : Nat) (a1 : (List RootKey)) (a2 : Int) (o : (Bool)) (h : impl_track_impl_RootKey_valid K a1 a2 = some o) : CallOK Try.prog 140 [.agg [(.fn 150 0 fun _ => .nilptr), (.fn 151 0 fun _ => .nilptr), (.fn 152 0 fun _ => .nilptr)], .one (sl 4 cs_RootKey a1), .one (.int .i64 a2)] [.one (.bool o)] := by
  refine callOK_of_AW Try.func140 rfl (by kernel_rfl) (Nat.le_of_ble_eq_true (by kernel_rfl)) ?_
  intro w0
  unfold impl_track_impl_RootKey_valid at h
  refine AW.seq (AW.rA ⟨[(1, (vc (sl 4 cs_RootKey a1))), (2, (vc (.int .i64 a2))), (3, (vp 1 0))], [(1, (.box [(.c (.fn 150 0 fun _ => .nilptr)), (.c (.fn 151 0 fun _ => .nilptr)), (.c (.fn 152 0 fun _ => .nilptr))]))]⟩ (T2 Tt) [.box 1] [1, 2, 3] [1] ⟨tr, tr, tr⟩ (thenQ_normal ?_))
  refine AW.seq (AW.rA ⟨[(1, (vc (sl 4 cs_RootKey a1))), (2, (vc (.int .i64 a2))), (3, (vp 1 0)), (7, (vc (.int .i64 ((-1) : Int))))], [(1, (.box [(.c (.fn 150 0 fun _ => .nilptr)), (.c (.fn 151 0 fun _ => .nilptr)), (.c (.fn 152 0 fun _ => .nilptr))]))]⟩ (Tt ∧ Tt) [] [1, 2, 3, 7] [1] ⟨tr, tr⟩ (thenQ_normal ?_))
  refine AW.seq ?_
  refine AW.seq (AW.rA ⟨[(1, (vc (sl 4 cs_RootKey a1))), (2, (vc (.int .i64 a2))), (3, (vp 1 0)), (7, (vc (.int .i64 ((-1) : Int)))), (11, (vc (sl 4 cs_RootKey a1))), (12, (vc (.int .i64 (a1.length : Int)))), (13, (vc (.int .i64 (0 : Int))))], [(1, (.box [(.c (.fn 150 0 fun _ => .nilptr)), (.c (.fn 151 0 fun _ => .nilptr)), (.c (.fn 152 0 fun _ => .nilptr))]))]⟩ (Tt ∧ T2 Tt) [] [1, 2, 3, 7, 11, 12, 13] [1] ⟨tr, tr, tr, tr⟩ (thenQ_normal ?_))
  refine AW.block ?_
  refine AW.loopQ (σ := Nat × Int × Int) (fun p => ⟨[(1, (vc (sl 4 cs_RootKey a1))), (2, (vc (.int .i64 a2))), (3, (vp 1 0)), (7, (vc (.int .i64 p.2.1))), (11, (vc (sl 4 cs_RootKey a1))), (12, (vc (.int .i64 (a1.length : Int)))), (13, (vc (.int .i64 p.2.2)))], [(1, (.box [(.c (.fn 150 0 fun _ => .nilptr)), (.c (.fn 151 0 fun _ => .nilptr)), (.c (.fn 152 0 fun _ => .nilptr))]))]⟩) (fun p => impl_track_impl_RootKey_valid_l1 K a1 a2 p.1 p.2.1 p.2.2 = some o) (fun p => p.1) (K, ((-1) : Int), (0 : Int)) h ?_
  clear h
  rintro ⟨k, x3, x4⟩ h
  replace h : impl_track_impl_RootKey_valid_l1 K a1 a2 k x3 x4 = some o := h
  show AW _ _ (⟨[(1, (vc (sl 4 cs_RootKey a1))), (2, (vc (.int .i64 a2))), (3, (vp 1 0)), (7, (vc (.int .i64 x3))), (11, (vc (sl 4 cs_RootKey a1))), (12, (vc (.int .i64 (a1.length : Int)))), (13, (vc (.int .i64 x4)))], [(1, (.box [(.c (.fn 150 0 fun _ => .nilptr)), (.c (.fn 151 0 fun _ => .nilptr)), (.c (.fn 152 0 fun _ => .nilptr))]))]⟩ : St) _
  obtain _ | k := k
  · rw [impl_track_impl_RootKey_valid_l1] at h; cases h
  rw [impl_track_impl_RootKey_valid_l1] at h
  refine AW.seq (AW.rA ⟨[(1, (vc (sl 4 cs_RootKey a1))), (2, (vc (.int .i64 a2))), (3, (vp 1 0)), (7, (vc (.int .i64 x3))), (11, (vc (sl 4 cs_RootKey a1))), (12, (vc (.int .i64 (a1.length : Int)))), (13, (vc (.int .i64 x4))), (14, (vc (.bool (decide (x4 < (a1.length : Int))))))], [(1, (.box [(.c (.fn 150 0 fun _ => .nilptr)), (.c (.fn 151 0 fun _ => .nilptr)), (.c (.fn 152 0 fun _ => .nilptr))]))]⟩ (Tt ∧ Tt) [] [1, 2, 3, 7, 11, 12, 13, 14] [1] ⟨tr, tr⟩ (thenQ_normal ?_))
  refine AW.seq ?_
  rcases ite2_cases h with ⟨b5, h⟩ | ⟨b5, h⟩
  · refine AW.cond_t rfl b5 ?_
    refine AW.skip ?_
    refine thenQ_normal ?_
    refine AW.seq ?_
    refine AW.block ?_
    refine AW.seq ?_
    obtain ⟨c6, h⟩ := chk_some h
    refine AW.rA ⟨[(1, (vc (sl 4 cs_RootKey a1))), (2, (vc (.int .i64 a2))), (3, (vp 1 0)), (7, (vc (.int .i64 x3))), (9, (vp 4 0)), (11, (vc (sl 4 cs_RootKey a1))), (12, (vc (.int .i64 (a1.length : Int)))), (13, (vc (.int .i64 x4)))], [(1, (.box [(.c (.fn 150 0 fun _ => .nilptr)), (.c (.fn 151 0 fun _ => .nilptr)), (.c (.fn 152 0 fun _ => .nilptr))])), (4, (.box [(.c (.int .i64 ((a1.getD x4.toNat default).At))), (.c (.flt .f32 (((a1.getD x4.toNat default).Place).X).bits)), (.c (.flt .f32 (((a1.getD x4.toNat default).Place).Y).bits)), (.c (.flt .f32 (((a1.getD x4.toNat default).Place).Z).bits))]))]⟩ ((0 ≤ x4 ∧ x4 < (a1.length : Int)) ∧ Tt ∧ T2 Tt) [.no, .no, .box 4] [1, 2, 3, 7, 9, 11, 12, 13] [1, 4] ⟨c6, tr, tr, tr, tr⟩ ?_
    refine thenQ_normal ?_
    refine AW.seq ?_
    refine AW.seq ?_
    obtain ⟨v7, e8, h⟩ := bind_some h
    refine AW.rA ⟨[(1, (vc (sl 4 cs_RootKey a1))), (2, (vc (.int .i64 a2))), (3, (vp 1 0)), (7, (vc (.int .i64 x3))), (9, (vp 4 0)), (10, (vc (.int .i64 v7))), (11, (vc (sl 4 cs_RootKey a1))), (12, (vc (.int .i64 (a1.length : Int)))), (13, (vc (.int .i64 x4)))], [(1, (.box [(.c (.fn 150 0 fun _ => .nilptr)), (.c (.fn 151 0 fun _ => .nilptr)), (.c (.fn 152 0 fun _ => .nilptr))])), (4, (.box [(.c (.int .i64 ((a1.getD x4.toNat default).At))), (.c (.flt .f32 (((a1.getD x4.toNat default).Place).X).bits)), (.c (.flt .f32 (((a1.getD x4.toNat default).Place).Y).bits)), (.c (.flt .f32 (((a1.getD x4.toNat default).Place).Z).bits))]))]⟩ (Tt ∧ T2 (((((Eqc (.int .i64 ((a1.getD x4.toNat default).At))) ∧ (Eqc (.flt .f32 (((a1.getD x4.toNat default).Place).X).bits)) ∧ (Eqc (.flt .f32 (((a1.getD x4.toNat default).Place).Y).bits)) ∧ (Eqc (.flt .f32 (((a1.getD x4.toNat default).Place).Z).bits)) ∧ Tt) ∧ Tt) ∧ CallOK Try.prog 150 [.agg (cs_RootKey (a1.getD x4.toNat default))] [.one (.int .i64 v7)]) ∧ Tt ∧ Tt)) [.no, .no, .no, .call [.agg (cs_RootKey (a1.getD x4.toNat default))] [.one (.int .i64 v7)] [[.view]]] [1, 2, 3, 7, 9, 10, 11, 12, 13] [1, 4] ⟨tr, tr, tr, ⟨⟨⟨rfl, rfl, rfl, rfl, tr⟩, tr⟩, ok_impl_rootTrack_1 K (a1.getD x4.toNat default) v7 e8⟩, tr, tr⟩ ?_
    refine thenQ_normal ?_
    refine AW.seq ?_
    obtain ⟨j10, e11, h⟩ := bind_some h
    refine AW.join1 (s2 := ⟨[(1, (vc (sl 4 cs_RootKey a1))), (2, (vc (.int .i64 a2))), (3, (vp 1 0)), (9, (vp 4 0)), (11, (vc (sl 4 cs_RootKey a1))), (12, (vc (.int .i64 (a1.length : Int)))), (13, (vc (.int .i64 x4))), (28, (vc (.bool j10)))], [(1, (.box [(.c (.fn 150 0 fun _ => .nilptr)), (.c (.fn 151 0 fun _ => .nilptr)), (.c (.fn 152 0 fun _ => .nilptr))])), (4, (.box [(.c (.int .i64 ((a1.getD x4.toNat default).At))), (.c (.flt .f32 (((a1.getD x4.toNat default).Place).X).bits)), (.c (.flt .f32 (((a1.getD x4.toNat default).Place).Y).bits)), (.c (.flt .f32 (((a1.getD x4.toNat default).Place).Z).bits))]))]⟩) ?_ ?_
    · rcases ite2_cases e11 with ⟨b9, e11⟩ | ⟨b9, e11⟩
      · replace e11 := some_eq e11
        subst e11
        exact AW.rA ⟨[(1, (vc (sl 4 cs_RootKey a1))), (2, (vc (.int .i64 a2))), (3, (vp 1 0)), (9, (vp 4 0)), (11, (vc (sl 4 cs_RootKey a1))), (12, (vc (.int .i64 (a1.length : Int)))), (13, (vc (.int .i64 x4))), (28, (vc (.bool true)))], [(1, (.box [(.c (.fn 150 0 fun _ => .nilptr)), (.c (.fn 151 0 fun _ => .nilptr)), (.c (.fn 152 0 fun _ => .nilptr))])), (4, (.box [(.c (.int .i64 ((a1.getD x4.toNat default).At))), (.c (.flt .f32 (((a1.getD x4.toNat default).Place).X).bits)), (.c (.flt .f32 (((a1.getD x4.toNat default).Place).Y).bits)), (.c (.flt .f32 (((a1.getD x4.toNat default).Place).Z).bits))]))]⟩ (Tt ∧ T2 ((Tt ∧ (decide (v7 ≤ x3)) = true) ∧ T4 Tt)) [.no, .no, .no, .dec true] [1, 2, 3, 9, 11, 12, 13, 28] [1, 4] ⟨tr, tr, tr, ⟨tr, b9⟩, tr, tr, tr, tr, tr⟩ ⟨rfl, rfl⟩
      · replace e11 := some_eq e11
        subst e11
        exact AW.rA ⟨[(1, (vc (sl 4 cs_RootKey a1))), (2, (vc (.int .i64 a2))), (3, (vp 1 0)), (9, (vp 4 0)), (11, (vc (sl 4 cs_RootKey a1))), (12, (vc (.int .i64 (a1.length : Int)))), (13, (vc (.int .i64 x4))), (28, (vc (.bool (decide (v7 > a2)))))], [(1, (.box [(.c (.fn 150 0 fun _ => .nilptr)), (.c (.fn 151 0 fun _ => .nilptr)), (.c (.fn 152 0 fun _ => .nilptr))])), (4, (.box [(.c (.int .i64 ((a1.getD x4.toNat default).At))), (.c (.flt .f32 (((a1.getD x4.toNat default).Place).X).bits)), (.c (.flt .f32 (((a1.getD x4.toNat default).Place).Y).bits)), (.c (.flt .f32 (((a1.getD x4.toNat default).Place).Z).bits))]))]⟩ (Tt ∧ T2 ((Tt ∧ (decide (v7 ≤ x3)) = false) ∧ T4 Tt)) [.no, .no, .no, .dec false] [1, 2, 3, 9, 11, 12, 13, 28] [1, 4] ⟨tr, tr, tr, ⟨tr, b9⟩, tr, tr, tr, tr, tr⟩ ⟨rfl, rfl⟩
    refine thenQ_normal ?_
    rcases ite2_cases h with ⟨b12, h⟩ | ⟨b12, h⟩
    · refine AW.cond_t rfl b12 ?_
      refine AW.seq (AW.rA ⟨[(6, (vc (.bool false)))], []⟩ (Tt ∧ Tt) [] [6] [] ⟨tr, tr⟩ (thenQ_normal ?_))
      refine AW.ret ?_
      refine thenQ_ret ?_
      refine blockQ_ret ?_
      refine thenQ_ret ?_
      refine loopQ_ret ?_
      refine blockQ_ret ?_
      refine thenQ_ret ?_
      replace h := some_eq h
      subst h
      exact ⟨.inr rfl, retOK_of [(.one (.c (.bool false)))] (by kernel_rfl) ⟨⟨rfl, tr⟩, tr⟩ (of_decide_eq_true (by kernel_rfl))⟩
    · refine AW.cond_f rfl b12 ?_
      refine AW.skip ?_
      refine thenQ_normal ?_
      obtain ⟨v13, e14, h⟩ := bind_some h
      refine AW.rA ⟨[(1, (vc (sl 4 cs_RootKey a1))), (2, (vc (.int .i64 a2))), (3, (vp 1 0)), (7, (vc (.int .i64 v13))), (11, (vc (sl 4 cs_RootKey a1))), (12, (vc (.int .i64 (a1.length : Int)))), (13, (vc (.int .i64 x4)))], [(1, (.box [(.c (.fn 150 0 fun _ => .nilptr)), (.c (.fn 151 0 fun _ => .nilptr)), (.c (.fn 152 0 fun _ => .nilptr))]))]⟩ (Tt ∧ T2 (((((Eqc (.int .i64 ((a1.getD x4.toNat default).At))) ∧ (Eqc (.flt .f32 (((a1.getD x4.toNat default).Place).X).bits)) ∧ (Eqc (.flt .f32 (((a1.getD x4.toNat default).Place).Y).bits)) ∧ (Eqc (.flt .f32 (((a1.getD x4.toNat default).Place).Z).bits)) ∧ Tt) ∧ Tt) ∧ CallOK Try.prog 150 [.agg (cs_RootKey (a1.getD x4.toNat default))] [.one (.int .i64 v13)]) ∧ Tt ∧ Tt)) [.no, .no, .no, .call [.agg (cs_RootKey (a1.getD x4.toNat default))] [.one (.int .i64 v13)] [[.view]]] [1, 2, 3, 7, 11, 12, 13] [1] ⟨tr, tr, tr, ⟨⟨⟨rfl, rfl, rfl, rfl, tr⟩, tr⟩, ok_impl_rootTrack_1 K (a1.getD x4.toNat default) v13 e14⟩, tr, tr⟩ ?_
      refine blockQ_normal ?_
      refine thenQ_normal ?_
      refine AW.rA ⟨[(1, (vc (sl 4 cs_RootKey a1))), (2, (vc (.int .i64 a2))), (3, (vp 1 0)), (7, (vc (.int .i64 v13))), (11, (vc (sl 4 cs_RootKey a1))), (12, (vc (.int .i64 (a1.length : Int)))), (13, (vc (.int .i64 (IntKind.i64.wrap (x4 + (1 : Int))))))], [(1, (.box [(.c (.fn 150 0 fun _ => .nilptr)), (.c (.fn 151 0 fun _ => .nilptr)), (.c (.fn 152 0 fun _ => .nilptr))]))]⟩ (T2 Tt) [] [1, 2, 3, 7, 11, 12, 13] [1] ⟨tr, tr, tr⟩ ?_
      exact loopQ_normal (k, v13, (IntKind.i64.wrap (x4 + (1 : Int)))) h (Nat.lt_succ_self k) (Sub.keep [1, 2, 3, 7, 11, 12, 13] [1] (by kernel_rfl) (by kernel_rfl))
  · refine AW.cond_f rfl b5 ?_
    refine AW.exit ?_
    refine thenQ_exit ?_
    refine loopQ_exit ?_
    refine blockQ_exit ?_
    refine thenQ_normal ?_
    refine AW.seq ?_
    obtain ⟨j16, e17, h⟩ := bind_some h
    refine AW.join1 (s2 := ⟨[(6, (vc (.bool j16)))], []⟩) ?_ ?_
    · rcases ite2_cases e17 with ⟨b15, e17⟩ | ⟨b15, e17⟩
      · replace e17 := some_eq e17
        subst e17
        exact AW.rA ⟨[(6, (vc (.bool (decide ((a1.length : Int) ≤ (12 : Int))))))], []⟩ (Tt ∧ T2 ((Tt ∧ (decide ((a1.length : Int) ≥ (1 : Int))) = true) ∧ Tt ∧ T4 Tt)) [.no, .no, .no, .dec true] [6] [] ⟨tr, tr, tr, ⟨tr, b15⟩, tr, tr, tr, tr, tr, tr⟩ ⟨rfl, rfl⟩
      · replace e17 := some_eq e17
        subst e17
        exact AW.rA ⟨[(6, (vc (.bool false)))], []⟩ (Tt ∧ T2 ((Tt ∧ (decide ((a1.length : Int) ≥ (1 : Int))) = false) ∧ Tt ∧ T4 Tt)) [.no, .no, .no, .dec false] [6] [] ⟨tr, tr, tr, ⟨tr, b15⟩, tr, tr, tr, tr, tr, tr⟩ ⟨rfl, rfl⟩
    refine thenQ_normal ?_
    refine AW.ret ?_
    replace h := some_eq h
    subst h
    exact ⟨.inr rfl, retOK_of [(.one (.c (.bool j16)))] (by kernel_rfl) ⟨⟨rfl, tr⟩, tr⟩ (of_decide_eq_true (by kernel_rfl))⟩

end
end Go.Fw
