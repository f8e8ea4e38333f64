/- Functions of the program: what each computes, and that it computes just that. -/
import Derived.Test.YtihokgnenjemmaaFwTy
import Derived.Test.YtihokgnenjemmaaFwH
import Derived.Test.YtihokgnenjemmaaFwV
import Derived.Test.YtihokgnenjemmaaFwUB
import Derived.Test.YtihokgnenjemmaaProg
import Derived.KernelRfl
namespace Go.Fw
open Go Go.Proofs
noncomputable section
set_option maxRecDepth 10000

/-! laws.szKeyS -/
def laws_szKeyS (_K : Nat) (a0 : (List Key)) (a1 : Int) : Option (Int) :=
  ite2 ((decide ((IntKind.i64.wrap (a1 - (a0.length : Int))) < (0 : Int)))) (some ((-1) : Int)) (some (IntKind.i64.wrap (a1 - (a0.length : Int))))

theorem ok_laws_szKeyS (K : Nat) (a0 : (List Key)) (a1 : Int) (o : (Int)) (h : laws_szKeyS K a0 a1 = some o) : CallOK Try.prog 133 [.one (sl 5 cs_Key a0), .one (.int .i64 a1)] [.one (.int .i64 o)] := by
  refine callOK_of_AW Try.func133 rfl (by kernel_rfl) (Nat.le_of_ble_eq_true (by kernel_rfl)) ?_
  intro w0
  unfold laws_szKeyS at h
  refine AW.seq ?_
  refine AW.regionA [] [0, 1] [] (s' := ⟨[(0, (.v (.one (.c (sl 5 cs_Key a0))))), (1, (.v (.one (.c (.int .i64 a1)))))], []⟩) (ob := True ∧ True) (by kernel_rfl) ⟨trivial, trivial⟩ ?_
  refine thenQ_normal ?_
  refine AW.seq ?_
  refine AW.regionA [] [1] [] (s' := ⟨[(1, (.v (.one (.c (.int .i64 (IntKind.i64.wrap (a1 - (a0.length : Int))))))))], []⟩) (ob := True ∧ True ∧ True ∧ True ∧ True ∧ True) (by kernel_rfl) ⟨trivial, trivial, trivial, trivial, trivial, trivial⟩ ?_
  refine thenQ_normal ?_
  refine AW.seq ?_
  refine AW.seq ?_
  refine AW.regionA [] [1, 10] [] (s' := ⟨[(1, (.v (.one (.c (.int .i64 (IntKind.i64.wrap (a1 - (a0.length : Int)))))))), (10, (.v (.one (.c (.bool (decide ((IntKind.i64.wrap (a1 - (a0.length : Int))) < (0 : Int))))))))], []⟩) (ob := True ∧ True ∧ True) (by kernel_rfl) ⟨trivial, trivial, trivial⟩ ?_
  refine thenQ_normal ?_
  rcases ite2_cases h with ⟨b1, h⟩ | ⟨b1, h⟩
  · refine AW.cond_t rfl b1 ?_
    refine AW.seq ?_
    refine AW.regionA [] [4] [] (s' := ⟨[(4, (.v (.one (.c (.int .i64 ((-1) : Int))))))], []⟩) (ob := True ∧ True) (by kernel_rfl) ⟨trivial, trivial⟩ ?_
    refine thenQ_normal ?_
    refine AW.ret ?_
    refine thenQ_ret ?_
    replace h := some_eq h
    subst h
    exact ⟨.inr rfl, retOK_of [(.one (.c (.int .i64 ((-1) : Int))))] (by kernel_rfl) ⟨⟨rfl, trivial⟩, trivial⟩ (of_decide_eq_true (by kernel_rfl))⟩
  · refine AW.cond_f rfl b1 ?_
    refine AW.skip ?_
    refine thenQ_normal ?_
    refine AW.seq ?_
    refine AW.regionA [] [4] [] (s' := ⟨[(4, (.v (.one (.c (.int .i64 (IntKind.i64.wrap (a1 - (a0.length : Int))))))))], []⟩) (ob := True ∧ True ∧ True) (by kernel_rfl) ⟨trivial, trivial, trivial⟩ ?_
    refine thenQ_normal ?_
    refine AW.ret ?_
    replace h := some_eq h
    subst h
    exact ⟨.inr rfl, retOK_of [(.one (.c (.int .i64 (IntKind.i64.wrap (a1 - (a0.length : Int))))))] (by kernel_rfl) ⟨⟨rfl, trivial⟩, trivial⟩ (of_decide_eq_true (by kernel_rfl))⟩

/-! laws.szKeySS -/
def laws_szKeySS_l1 (K : Nat) (a0 : (List (List Key))) : Nat → Int → Int → Option (Int)
  | 0, _, _ => none
  | k + 1, x4, x5 => ite2 ((decide (x5 < (a0.length : Int)))) (chk (0 ≤ x5 ∧ x5 < (a0.length : Int)) ((laws_szKeyS K (a0.getD x5.toNat default) x4).bind fun v8 => ite2 ((decide (v8 < (0 : Int)))) (some ((-1) : Int)) (laws_szKeySS_l1 K a0 k v8 (IntKind.i64.wrap (x5 + (1 : Int)))))) (some x4)

def laws_szKeySS (K : Nat) (a0 : (List (List Key))) (a1 : Int) : Option (Int) :=
  ite2 ((decide ((IntKind.i64.wrap (a1 - (a0.length : Int))) < (0 : Int)))) (some ((-1) : Int)) (laws_szKeySS_l1 K a0 K (IntKind.i64.wrap (a1 - (a0.length : Int))) (0 : Int))

theorem ok_laws_szKeySS (K : Nat) (a0 : (List (List Key))) (a1 : Int) (o : (Int)) (h : laws_szKeySS K a0 a1 = some o) : CallOK Try.prog 58 [.one (sl 1 (csL 5 cs_Key) a0), .one (.int .i64 a1)] [.one (.int .i64 o)] := by
  refine callOK_of_AW Try.func58 rfl (by kernel_rfl) (Nat.le_of_ble_eq_true (by kernel_rfl)) ?_
  intro w0
  unfold laws_szKeySS at h
  refine AW.seq ?_
  refine AW.regionA [] [0, 1] [] (s' := ⟨[(0, (.v (.one (.c (sl 1 (csL 5 cs_Key) a0))))), (1, (.v (.one (.c (.int .i64 a1)))))], []⟩) (ob := True ∧ True) (by kernel_rfl) ⟨trivial, trivial⟩ ?_
  refine thenQ_normal ?_
  refine AW.seq ?_
  refine AW.regionA [] [0, 1] [] (s' := ⟨[(0, (.v (.one (.c (sl 1 (csL 5 cs_Key) a0))))), (1, (.v (.one (.c (.int .i64 (IntKind.i64.wrap (a1 - (a0.length : Int))))))))], []⟩) (ob := True ∧ True ∧ True ∧ True ∧ True ∧ True) (by kernel_rfl) ⟨trivial, trivial, trivial, trivial, trivial, trivial⟩ ?_
  refine thenQ_normal ?_
  refine AW.seq ?_
  refine AW.seq ?_
  refine AW.regionA [] [0, 1, 11] [] (s' := ⟨[(0, (.v (.one (.c (sl 1 (csL 5 cs_Key) a0))))), (1, (.v (.one (.c (.int .i64 (IntKind.i64.wrap (a1 - (a0.length : Int)))))))), (11, (.v (.one (.c (.bool (decide ((IntKind.i64.wrap (a1 - (a0.length : Int))) < (0 : Int))))))))], []⟩) (ob := True ∧ True ∧ True) (by kernel_rfl) ⟨trivial, trivial, trivial⟩ ?_
  refine thenQ_normal ?_
  rcases ite2_cases h with ⟨b1, h⟩ | ⟨b1, h⟩
  · refine AW.cond_t rfl b1 ?_
    refine AW.seq ?_
    refine AW.regionA [] [4] [] (s' := ⟨[(4, (.v (.one (.c (.int .i64 ((-1) : Int))))))], []⟩) (ob := True ∧ True) (by kernel_rfl) ⟨trivial, trivial⟩ ?_
    refine thenQ_normal ?_
    refine AW.ret ?_
    refine thenQ_ret ?_
    replace h := some_eq h
    subst h
    exact ⟨.inr rfl, retOK_of [(.one (.c (.int .i64 ((-1) : Int))))] (by kernel_rfl) ⟨⟨rfl, trivial⟩, trivial⟩ (of_decide_eq_true (by kernel_rfl))⟩
  · refine AW.cond_f rfl b1 ?_
    refine AW.skip ?_
    refine thenQ_normal ?_
    refine AW.seq ?_
    refine AW.seq ?_
    refine AW.regionA [] [0, 1, 5] [] (s' := ⟨[(0, (.v (.one (.c (sl 1 (csL 5 cs_Key) a0))))), (1, (.v (.one (.c (.int .i64 (IntKind.i64.wrap (a1 - (a0.length : Int)))))))), (5, (.v (.one (.c (.int .i64 (0 : Int))))))], []⟩) (ob := True ∧ True) (by kernel_rfl) ⟨trivial, trivial⟩ ?_
    refine thenQ_normal ?_
    refine AW.block ?_
    refine AW.loopQ (σ := Nat × Int × Int) (fun p => ⟨[(0, (.v (.one (.c (sl 1 (csL 5 cs_Key) a0))))), (1, (.v (.one (.c (.int .i64 p.2.1))))), (5, (.v (.one (.c (.int .i64 p.2.2)))))], []⟩) (fun p => laws_szKeySS_l1 K a0 p.1 p.2.1 p.2.2 = some o) (fun p => p.1) (K, (IntKind.i64.wrap (a1 - (a0.length : Int))), (0 : Int)) h ?_
    clear h
    rintro ⟨k, x4, x5⟩ h
    replace h : laws_szKeySS_l1 K a0 k x4 x5 = some o := h
    show AW _ _ (⟨[(0, (.v (.one (.c (sl 1 (csL 5 cs_Key) a0))))), (1, (.v (.one (.c (.int .i64 x4))))), (5, (.v (.one (.c (.int .i64 x5)))))], []⟩ : St) _
    obtain _ | k := k
    · rw [laws_szKeySS_l1] at h; cases h
    rw [laws_szKeySS_l1] at h
    refine AW.seq ?_
    refine AW.seq ?_
    refine AW.regionA [] [0, 1, 5, 15] [] (s' := ⟨[(0, (.v (.one (.c (sl 1 (csL 5 cs_Key) a0))))), (1, (.v (.one (.c (.int .i64 x4))))), (5, (.v (.one (.c (.int .i64 x5))))), (15, (.v (.one (.c (.bool (decide (x5 < (a0.length : Int))))))))], []⟩) (ob := True ∧ True ∧ True ∧ True ∧ True) (by kernel_rfl) ⟨trivial, trivial, trivial, trivial, trivial⟩ ?_
    refine thenQ_normal ?_
    rcases ite2_cases h with ⟨b6, h⟩ | ⟨b6, h⟩
    · refine AW.cond_t rfl b6 ?_
      refine AW.skip ?_
      refine thenQ_normal ?_
      refine AW.seq ?_
      refine AW.block ?_
      refine AW.seq ?_
      obtain ⟨c7, h⟩ := chk_some h
      obtain ⟨v8, e9, h⟩ := bind_some h
      refine AW.regionA [.no, .no, .no, .no, .no, .call [.one (sl 5 cs_Key (a0.getD x5.toNat default)), .one (.int .i64 x4)] [.one (.int .i64 v8)] [[.view]]] [0, 1, 5] [] (s' := ⟨[(0, (.v (.one (.c (sl 1 (csL 5 cs_Key) a0))))), (1, (.v (.one (.c (.int .i64 v8))))), (5, (.v (.one (.c (.int .i64 x5)))))], []⟩) (ob := True ∧ True ∧ (0 ≤ x5 ∧ x5 < (a0.length : Int)) ∧ True ∧ True ∧ (((((sl 5 cs_Key (a0.getD x5.toNat default)) : C) = (sl 5 cs_Key (a0.getD x5.toNat default))) ∧ (((.int .i64 x4) : C) = (.int .i64 x4)) ∧ True) ∧ CallOK Try.prog 133 [.one (sl 5 cs_Key (a0.getD x5.toNat default)), .one (.int .i64 x4)] [.one (.int .i64 v8)]) ∧ True ∧ True) (by kernel_rfl) ⟨trivial, trivial, c7, trivial, trivial, ⟨⟨rfl, rfl, trivial⟩, ok_laws_szKeyS K (a0.getD x5.toNat default) x4 v8 e9⟩, trivial, trivial⟩ ?_
      refine thenQ_normal ?_
      refine AW.seq ?_
      refine AW.regionA [] [0, 1, 5, 25] [] (s' := ⟨[(0, (.v (.one (.c (sl 1 (csL 5 cs_Key) a0))))), (1, (.v (.one (.c (.int .i64 v8))))), (5, (.v (.one (.c (.int .i64 x5))))), (25, (.v (.one (.c (.bool (decide (v8 < (0 : Int))))))))], []⟩) (ob := True ∧ True ∧ True) (by kernel_rfl) ⟨trivial, trivial, trivial⟩ ?_
      refine thenQ_normal ?_
      rcases ite2_cases h with ⟨b10, h⟩ | ⟨b10, h⟩
      · refine AW.cond_t rfl b10 ?_
        refine AW.seq ?_
        refine AW.regionA [] [4] [] (s' := ⟨[(4, (.v (.one (.c (.int .i64 ((-1) : Int))))))], []⟩) (ob := True ∧ True) (by kernel_rfl) ⟨trivial, trivial⟩ ?_
        refine thenQ_normal ?_
        refine AW.ret ?_
        refine blockQ_ret ?_
        refine thenQ_ret ?_
        refine loopQ_ret ?_
        refine blockQ_ret ?_
        refine thenQ_ret ?_
        replace h := some_eq h
        subst h
        exact ⟨.inr rfl, retOK_of [(.one (.c (.int .i64 ((-1) : Int))))] (by kernel_rfl) ⟨⟨rfl, trivial⟩, trivial⟩ (of_decide_eq_true (by kernel_rfl))⟩
      · refine AW.cond_f rfl b10 ?_
        refine AW.skip ?_
        refine blockQ_normal ?_
        refine thenQ_normal ?_
        refine AW.regionA [] [0, 1, 5] [] (s' := ⟨[(0, (.v (.one (.c (sl 1 (csL 5 cs_Key) a0))))), (1, (.v (.one (.c (.int .i64 v8))))), (5, (.v (.one (.c (.int .i64 (IntKind.i64.wrap (x5 + (1 : Int))))))))], []⟩) (ob := True ∧ True ∧ True ∧ True) (by kernel_rfl) ⟨trivial, trivial, trivial, trivial⟩ ?_
        exact loopQ_normal (k, v8, (IntKind.i64.wrap (x5 + (1 : Int)))) h (Nat.lt_succ_self k) (Sub.keep [0, 1, 5] [] (by kernel_rfl) (by kernel_rfl))
    · refine AW.cond_f rfl b6 ?_
      refine AW.exit ?_
      refine thenQ_exit ?_
      refine loopQ_exit ?_
      refine blockQ_exit ?_
      refine thenQ_normal ?_
      refine AW.seq ?_
      refine AW.regionA [] [4] [] (s' := ⟨[(4, (.v (.one (.c (.int .i64 x4)))))], []⟩) (ob := True ∧ True ∧ True) (by kernel_rfl) ⟨trivial, trivial, trivial⟩ ?_
      refine thenQ_normal ?_
      refine AW.ret ?_
      replace h := some_eq h
      subst h
      exact ⟨.inr rfl, retOK_of [(.one (.c (.int .i64 x4)))] (by kernel_rfl) ⟨⟨rfl, trivial⟩, trivial⟩ (of_decide_eq_true (by kernel_rfl))⟩

/-! laws.szRootKeyS -/
def laws_szRootKeyS (_K : Nat) (a0 : (List RootKey)) (a1 : Int) : Option (Int) :=
  ite2 ((decide ((IntKind.i64.wrap (a1 - (a0.length : Int))) < (0 : Int)))) (some ((-1) : Int)) (some (IntKind.i64.wrap (a1 - (a0.length : Int))))

theorem ok_laws_szRootKeyS (K : Nat) (a0 : (List RootKey)) (a1 : Int) (o : (Int)) (h : laws_szRootKeyS K a0 a1 = some o) : CallOK Try.prog 59 [.one (sl 4 cs_RootKey a0), .one (.int .i64 a1)] [.one (.int .i64 o)] := by
  refine callOK_of_AW Try.func59 rfl (by kernel_rfl) (Nat.le_of_ble_eq_true (by kernel_rfl)) ?_
  intro w0
  unfold laws_szRootKeyS at h
  refine AW.seq ?_
  refine AW.regionA [] [0, 1] [] (s' := ⟨[(0, (.v (.one (.c (sl 4 cs_RootKey a0))))), (1, (.v (.one (.c (.int .i64 a1)))))], []⟩) (ob := True ∧ True) (by kernel_rfl) ⟨trivial, trivial⟩ ?_
  refine thenQ_normal ?_
  refine AW.seq ?_
  refine AW.regionA [] [1] [] (s' := ⟨[(1, (.v (.one (.c (.int .i64 (IntKind.i64.wrap (a1 - (a0.length : Int))))))))], []⟩) (ob := True ∧ True ∧ True ∧ True ∧ True ∧ True) (by kernel_rfl) ⟨trivial, trivial, trivial, trivial, trivial, trivial⟩ ?_
  refine thenQ_normal ?_
  refine AW.seq ?_
  refine AW.seq ?_
  refine AW.regionA [] [1, 10] [] (s' := ⟨[(1, (.v (.one (.c (.int .i64 (IntKind.i64.wrap (a1 - (a0.length : Int)))))))), (10, (.v (.one (.c (.bool (decide ((IntKind.i64.wrap (a1 - (a0.length : Int))) < (0 : Int))))))))], []⟩) (ob := True ∧ True ∧ True) (by kernel_rfl) ⟨trivial, trivial, trivial⟩ ?_
  refine thenQ_normal ?_
  rcases ite2_cases h with ⟨b1, h⟩ | ⟨b1, h⟩
  · refine AW.cond_t rfl b1 ?_
    refine AW.seq ?_
    refine AW.regionA [] [4] [] (s' := ⟨[(4, (.v (.one (.c (.int .i64 ((-1) : Int))))))], []⟩) (ob := True ∧ True) (by kernel_rfl) ⟨trivial, trivial⟩ ?_
    refine thenQ_normal ?_
    refine AW.ret ?_
    refine thenQ_ret ?_
    replace h := some_eq h
    subst h
    exact ⟨.inr rfl, retOK_of [(.one (.c (.int .i64 ((-1) : Int))))] (by kernel_rfl) ⟨⟨rfl, trivial⟩, trivial⟩ (of_decide_eq_true (by kernel_rfl))⟩
  · refine AW.cond_f rfl b1 ?_
    refine AW.skip ?_
    refine thenQ_normal ?_
    refine AW.seq ?_
    refine AW.regionA [] [4] [] (s' := ⟨[(4, (.v (.one (.c (.int .i64 (IntKind.i64.wrap (a1 - (a0.length : Int))))))))], []⟩) (ob := True ∧ True ∧ True) (by kernel_rfl) ⟨trivial, trivial, trivial⟩ ?_
    refine thenQ_normal ?_
    refine AW.ret ?_
    replace h := some_eq h
    subst h
    exact ⟨.inr rfl, retOK_of [(.one (.c (.int .i64 (IntKind.i64.wrap (a1 - (a0.length : Int))))))] (by kernel_rfl) ⟨⟨rfl, trivial⟩, trivial⟩ (of_decide_eq_true (by kernel_rfl))⟩

/-! laws.szClip -/
def laws_szClip (K : Nat) (a0 : Clip) (a1 : Int) : Option (Int) :=
  (laws_szKeySS K a0.Tracks a1).bind fun v1 => ite2 ((decide (v1 < (0 : Int)))) (some ((-1) : Int)) ((laws_szRootKeyS K a0.Roots v1).bind fun v4 => ite2 ((decide (v4 < (0 : Int)))) (some ((-1) : Int)) (some v4))

theorem ok_laws_szClip (K : Nat) (a0 : Clip) (a1 : Int) (o : (Int)) (h : laws_szClip K a0 a1 = some o) : CallOK Try.prog 11 [.agg (cs_Clip a0), .one (.int .i64 a1)] [.one (.int .i64 o)] := by
  refine callOK_of_AW Try.func11 rfl (by kernel_rfl) (Nat.le_of_ble_eq_true (by kernel_rfl)) ?_
  intro w0
  unfold laws_szClip at h
  refine AW.seq ?_
  refine AW.regionA [.box 1] [1, 2] [1] (s' := ⟨[(1, (.v (.one (.c (.int .i64 a1))))), (2, (.v (.one (.ptr 1 0))))], [(1, (.box [(.c (.int .i64 a0.Length)), (.c (.int .i64 a0.Kind)), (.c (sl 1 (csL 5 cs_Key) a0.Tracks)), (.c (sl 4 cs_RootKey a0.Roots))]))]⟩) (ob := True ∧ True ∧ True) (by kernel_rfl) ⟨trivial, trivial, trivial⟩ ?_
  refine thenQ_normal ?_
  refine AW.seq ?_
  obtain ⟨v1, e2, h⟩ := bind_some h
  refine AW.regionA [.no, .no, .no, .call [.one (sl 1 (csL 5 cs_Key) a0.Tracks), .one (.int .i64 a1)] [.one (.int .i64 v1)] [[.view]]] [1, 2] [1] (s' := ⟨[(1, (.v (.one (.c (.int .i64 v1))))), (2, (.v (.one (.ptr 1 0))))], [(1, (.box [(.c (.int .i64 a0.Length)), (.c (.int .i64 a0.Kind)), (.c (sl 1 (csL 5 cs_Key) a0.Tracks)), (.c (sl 4 cs_RootKey a0.Roots))]))]⟩) (ob := True ∧ True ∧ True ∧ (((((sl 1 (csL 5 cs_Key) a0.Tracks) : C) = (sl 1 (csL 5 cs_Key) a0.Tracks)) ∧ (((.int .i64 a1) : C) = (.int .i64 a1)) ∧ True) ∧ CallOK Try.prog 58 [.one (sl 1 (csL 5 cs_Key) a0.Tracks), .one (.int .i64 a1)] [.one (.int .i64 v1)]) ∧ True ∧ True) (by kernel_rfl) ⟨trivial, trivial, trivial, ⟨⟨rfl, rfl, trivial⟩, ok_laws_szKeySS K a0.Tracks a1 v1 e2⟩, trivial, trivial⟩ ?_
  refine thenQ_normal ?_
  refine AW.seq ?_
  refine AW.seq ?_
  refine AW.regionA [] [1, 2, 10] [1] (s' := ⟨[(1, (.v (.one (.c (.int .i64 v1))))), (2, (.v (.one (.ptr 1 0)))), (10, (.v (.one (.c (.bool (decide (v1 < (0 : Int))))))))], [(1, (.box [(.c (.int .i64 a0.Length)), (.c (.int .i64 a0.Kind)), (.c (sl 1 (csL 5 cs_Key) a0.Tracks)), (.c (sl 4 cs_RootKey a0.Roots))]))]⟩) (ob := True ∧ True ∧ True) (by kernel_rfl) ⟨trivial, trivial, trivial⟩ ?_
  refine thenQ_normal ?_
  rcases ite2_cases h with ⟨b3, h⟩ | ⟨b3, h⟩
  · refine AW.cond_t rfl b3 ?_
    refine AW.seq ?_
    refine AW.regionA [] [4] [] (s' := ⟨[(4, (.v (.one (.c (.int .i64 ((-1) : Int))))))], []⟩) (ob := True ∧ True) (by kernel_rfl) ⟨trivial, trivial⟩ ?_
    refine thenQ_normal ?_
    refine AW.ret ?_
    refine thenQ_ret ?_
    replace h := some_eq h
    subst h
    exact ⟨.inr rfl, retOK_of [(.one (.c (.int .i64 ((-1) : Int))))] (by kernel_rfl) ⟨⟨rfl, trivial⟩, trivial⟩ (of_decide_eq_true (by kernel_rfl))⟩
  · refine AW.cond_f rfl b3 ?_
    refine AW.skip ?_
    refine thenQ_normal ?_
    refine AW.seq ?_
    obtain ⟨v4, e5, h⟩ := bind_some h
    refine AW.regionA [.no, .no, .no, .call [.one (sl 4 cs_RootKey a0.Roots), .one (.int .i64 v1)] [.one (.int .i64 v4)] [[.view]]] [1] [] (s' := ⟨[(1, (.v (.one (.c (.int .i64 v4)))))], []⟩) (ob := True ∧ True ∧ True ∧ (((((sl 4 cs_RootKey a0.Roots) : C) = (sl 4 cs_RootKey a0.Roots)) ∧ (((.int .i64 v1) : C) = (.int .i64 v1)) ∧ True) ∧ CallOK Try.prog 59 [.one (sl 4 cs_RootKey a0.Roots), .one (.int .i64 v1)] [.one (.int .i64 v4)]) ∧ True ∧ True) (by kernel_rfl) ⟨trivial, trivial, trivial, ⟨⟨rfl, rfl, trivial⟩, ok_laws_szRootKeyS K a0.Roots v1 v4 e5⟩, trivial, trivial⟩ ?_
    refine thenQ_normal ?_
    refine AW.seq ?_
    refine AW.seq ?_
    refine AW.regionA [] [1, 16] [] (s' := ⟨[(1, (.v (.one (.c (.int .i64 v4))))), (16, (.v (.one (.c (.bool (decide (v4 < (0 : Int))))))))], []⟩) (ob := True ∧ True ∧ True) (by kernel_rfl) ⟨trivial, trivial, trivial⟩ ?_
    refine thenQ_normal ?_
    rcases ite2_cases h with ⟨b6, h⟩ | ⟨b6, h⟩
    · refine AW.cond_t rfl b6 ?_
      refine AW.seq ?_
      refine AW.regionA [] [4] [] (s' := ⟨[(4, (.v (.one (.c (.int .i64 ((-1) : Int))))))], []⟩) (ob := True ∧ True) (by kernel_rfl) ⟨trivial, trivial⟩ ?_
      refine thenQ_normal ?_
      refine AW.ret ?_
      refine thenQ_ret ?_
      replace h := some_eq h
      subst h
      exact ⟨.inr rfl, retOK_of [(.one (.c (.int .i64 ((-1) : Int))))] (by kernel_rfl) ⟨⟨rfl, trivial⟩, trivial⟩ (of_decide_eq_true (by kernel_rfl))⟩
    · refine AW.cond_f rfl b6 ?_
      refine AW.skip ?_
      refine thenQ_normal ?_
      refine AW.seq ?_
      refine AW.regionA [] [4] [] (s' := ⟨[(4, (.v (.one (.c (.int .i64 v4)))))], []⟩) (ob := True ∧ True ∧ True) (by kernel_rfl) ⟨trivial, trivial, trivial⟩ ?_
      refine thenQ_normal ?_
      refine AW.ret ?_
      replace h := some_eq h
      subst h
      exact ⟨.inr rfl, retOK_of [(.one (.c (.int .i64 v4)))] (by kernel_rfl) ⟨⟨rfl, trivial⟩, trivial⟩ (of_decide_eq_true (by kernel_rfl))⟩

/-! laws.toTurn -/
def laws_toTurn (_K : Nat) (a0 : Turn) : Option (Turn) :=
  some a0

theorem ok_laws_toTurn (K : Nat) (a0 : Turn) (o : (Turn)) (h : laws_toTurn K a0 = some o) : CallOK Try.prog 209 [.agg (cs_Turn a0)] [.agg (cs_Turn o)] := by
  refine callOK_of_AW Try.func209 rfl (by kernel_rfl) (Nat.le_of_ble_eq_true (by kernel_rfl)) ?_
  intro w0
  unfold laws_toTurn at h
  refine AW.seq ?_
  refine AW.regionA [.box 1, .box 2] [1, 2] [1, 2] (s' := ⟨[(1, (.v (.one (.ptr 1 0)))), (2, (.v (.one (.ptr 2 0))))], [(1, (.box [(.c (.flt .f32 a0.W.bits)), (.c (.flt .f32 a0.X.bits)), (.c (.flt .f32 a0.Y.bits)), (.c (.flt .f32 a0.Z.bits))])), (2, (.box [(.c (.flt .f32 (default : F32).bits)), (.c (.flt .f32 (default : F32).bits)), (.c (.flt .f32 (default : F32).bits)), (.c (.flt .f32 (default : F32).bits))]))]⟩) (ob := True ∧ True ∧ True) (by kernel_rfl) ⟨trivial, trivial, trivial⟩ ?_
  refine thenQ_normal ?_
  refine AW.seq ?_
  refine AW.regionA [.box 3] [1, 2, 3] [1, 2, 3] (s' := ⟨[(1, (.v (.one (.ptr 1 0)))), (2, (.v (.one (.ptr 2 0)))), (3, (.v (.one (.ptr 3 0))))], [(1, (.box [(.c (.flt .f32 a0.W.bits)), (.c (.flt .f32 a0.X.bits)), (.c (.flt .f32 a0.Y.bits)), (.c (.flt .f32 a0.Z.bits))])), (2, (.box [(.c (.flt .f32 (default : F32).bits)), (.c (.flt .f32 (default : F32).bits)), (.c (.flt .f32 (default : F32).bits)), (.c (.flt .f32 (default : F32).bits))])), (3, (.box [(.c (.flt .f32 (default : F32).bits)), (.c (.flt .f32 (default : F32).bits)), (.c (.flt .f32 (default : F32).bits)), (.c (.flt .f32 (default : F32).bits))]))]⟩) (ob := True ∧ True) (by kernel_rfl) ⟨trivial, trivial⟩ ?_
  refine thenQ_normal ?_
  refine AW.seq ?_
  refine AW.regionA [] [1, 2, 3] [1, 2, 3] (s' := ⟨[(1, (.v (.one (.ptr 1 0)))), (2, (.v (.one (.ptr 2 0)))), (3, (.v (.one (.ptr 3 0))))], [(1, (.box [(.c (.flt .f32 a0.W.bits)), (.c (.flt .f32 a0.X.bits)), (.c (.flt .f32 a0.Y.bits)), (.c (.flt .f32 a0.Z.bits))])), (2, (.box [(.c (.flt .f32 (default : F32).bits)), (.c (.flt .f32 (default : F32).bits)), (.c (.flt .f32 (default : F32).bits)), (.c (.flt .f32 (default : F32).bits))])), (3, (.box [(.c (.flt .f32 a0.W.bits)), (.c (.flt .f32 (default : F32).bits)), (.c (.flt .f32 (default : F32).bits)), (.c (.flt .f32 (default : F32).bits))]))]⟩) (ob := True ∧ True ∧ True ∧ True ∧ True) (by kernel_rfl) ⟨trivial, trivial, trivial, trivial, trivial⟩ ?_
  refine thenQ_normal ?_
  refine AW.seq ?_
  refine AW.regionA [] [1, 2, 3] [1, 2, 3] (s' := ⟨[(1, (.v (.one (.ptr 1 0)))), (2, (.v (.one (.ptr 2 0)))), (3, (.v (.one (.ptr 3 0))))], [(1, (.box [(.c (.flt .f32 a0.W.bits)), (.c (.flt .f32 a0.X.bits)), (.c (.flt .f32 a0.Y.bits)), (.c (.flt .f32 a0.Z.bits))])), (2, (.box [(.c (.flt .f32 (default : F32).bits)), (.c (.flt .f32 (default : F32).bits)), (.c (.flt .f32 (default : F32).bits)), (.c (.flt .f32 (default : F32).bits))])), (3, (.box [(.c (.flt .f32 a0.W.bits)), (.c (.flt .f32 a0.X.bits)), (.c (.flt .f32 (default : F32).bits)), (.c (.flt .f32 (default : F32).bits))]))]⟩) (ob := True ∧ True ∧ True ∧ True ∧ True) (by kernel_rfl) ⟨trivial, trivial, trivial, trivial, trivial⟩ ?_
  refine thenQ_normal ?_
  refine AW.seq ?_
  refine AW.regionA [] [1, 2, 3] [1, 2, 3] (s' := ⟨[(1, (.v (.one (.ptr 1 0)))), (2, (.v (.one (.ptr 2 0)))), (3, (.v (.one (.ptr 3 0))))], [(1, (.box [(.c (.flt .f32 a0.W.bits)), (.c (.flt .f32 a0.X.bits)), (.c (.flt .f32 a0.Y.bits)), (.c (.flt .f32 a0.Z.bits))])), (2, (.box [(.c (.flt .f32 (default : F32).bits)), (.c (.flt .f32 (default : F32).bits)), (.c (.flt .f32 (default : F32).bits)), (.c (.flt .f32 (default : F32).bits))])), (3, (.box [(.c (.flt .f32 a0.W.bits)), (.c (.flt .f32 a0.X.bits)), (.c (.flt .f32 a0.Y.bits)), (.c (.flt .f32 (default : F32).bits))]))]⟩) (ob := True ∧ True ∧ True ∧ True ∧ True) (by kernel_rfl) ⟨trivial, trivial, trivial, trivial, trivial⟩ ?_
  refine thenQ_normal ?_
  refine AW.seq ?_
  refine AW.regionA [] [2, 3] [2, 3] (s' := ⟨[(2, (.v (.one (.ptr 2 0)))), (3, (.v (.one (.ptr 3 0))))], [(2, (.box [(.c (.flt .f32 (default : F32).bits)), (.c (.flt .f32 (default : F32).bits)), (.c (.flt .f32 (default : F32).bits)), (.c (.flt .f32 (default : F32).bits))])), (3, (.box [(.c (.flt .f32 a0.W.bits)), (.c (.flt .f32 a0.X.bits)), (.c (.flt .f32 a0.Y.bits)), (.c (.flt .f32 a0.Z.bits))]))]⟩) (ob := True ∧ True ∧ True ∧ True ∧ True) (by kernel_rfl) ⟨trivial, trivial, trivial, trivial, trivial⟩ ?_
  refine thenQ_normal ?_
  refine AW.seq ?_
  refine AW.regionA [] [2] [2] (s' := ⟨[(2, (.v (.one (.ptr 2 0))))], [(2, (.box [(.c (.flt .f32 a0.W.bits)), (.c (.flt .f32 a0.X.bits)), (.c (.flt .f32 a0.Y.bits)), (.c (.flt .f32 a0.Z.bits))]))]⟩) (ob := True ∧ True ∧ True) (by kernel_rfl) ⟨trivial, trivial, trivial⟩ ?_
  refine thenQ_normal ?_
  refine AW.ret ?_
  replace h := some_eq h
  subst h
  exact ⟨.inr rfl, retOK_of [(.agg [(.c (.flt .f32 a0.W.bits)), (.c (.flt .f32 a0.X.bits)), (.c (.flt .f32 a0.Y.bits)), (.c (.flt .f32 a0.Z.bits))])] (by kernel_rfl) ⟨⟨⟨rfl, trivial⟩, ⟨rfl, trivial⟩, ⟨rfl, trivial⟩, ⟨rfl, trivial⟩, trivial⟩, trivial⟩ (of_decide_eq_true (by kernel_rfl))⟩

/-! laws.toKey -/
def laws_toKey (K : Nat) (a0 : Key) : Option (Key) :=
  (laws_toTurn K a0.Turn).bind fun v1 => some (Key.mk a0.At v1)

theorem ok_laws_toKey (K : Nat) (a0 : Key) (o : (Key)) (h : laws_toKey K a0 = some o) : CallOK Try.prog 183 [.agg (cs_Key a0)] [.agg (cs_Key o)] := by
  refine callOK_of_AW Try.func183 rfl (by kernel_rfl) (Nat.le_of_ble_eq_true (by kernel_rfl)) ?_
  intro w0
  unfold laws_toKey at h
  refine AW.seq ?_
  refine AW.regionA [.box 1, .box 2] [1, 2] [1, 2] (s' := ⟨[(1, (.v (.one (.ptr 1 0)))), (2, (.v (.one (.ptr 2 0))))], [(1, (.box [(.c (.int .i64 a0.At)), (.c (.flt .f32 a0.Turn.W.bits)), (.c (.flt .f32 a0.Turn.X.bits)), (.c (.flt .f32 a0.Turn.Y.bits)), (.c (.flt .f32 a0.Turn.Z.bits))])), (2, (.box [(.c (.int .i64 (0 : Int))), (.c (.flt .f32 (default : F32).bits)), (.c (.flt .f32 (default : F32).bits)), (.c (.flt .f32 (default : F32).bits)), (.c (.flt .f32 (default : F32).bits))]))]⟩) (ob := True ∧ True ∧ True) (by kernel_rfl) ⟨trivial, trivial, trivial⟩ ?_
  refine thenQ_normal ?_
  refine AW.seq ?_
  refine AW.regionA [.box 3] [1, 2, 3] [1, 2, 3] (s' := ⟨[(1, (.v (.one (.ptr 1 0)))), (2, (.v (.one (.ptr 2 0)))), (3, (.v (.one (.ptr 3 0))))], [(1, (.box [(.c (.int .i64 a0.At)), (.c (.flt .f32 a0.Turn.W.bits)), (.c (.flt .f32 a0.Turn.X.bits)), (.c (.flt .f32 a0.Turn.Y.bits)), (.c (.flt .f32 a0.Turn.Z.bits))])), (2, (.box [(.c (.int .i64 (0 : Int))), (.c (.flt .f32 (default : F32).bits)), (.c (.flt .f32 (default : F32).bits)), (.c (.flt .f32 (default : F32).bits)), (.c (.flt .f32 (default : F32).bits))])), (3, (.box [(.c (.int .i64 (0 : Int))), (.c (.flt .f32 (default : F32).bits)), (.c (.flt .f32 (default : F32).bits)), (.c (.flt .f32 (default : F32).bits)), (.c (.flt .f32 (default : F32).bits))]))]⟩) (ob := True ∧ True) (by kernel_rfl) ⟨trivial, trivial⟩ ?_
  refine thenQ_normal ?_
  refine AW.seq ?_
  refine AW.regionA [] [1, 2, 3] [1, 2, 3] (s' := ⟨[(1, (.v (.one (.ptr 1 0)))), (2, (.v (.one (.ptr 2 0)))), (3, (.v (.one (.ptr 3 0))))], [(1, (.box [(.c (.int .i64 a0.At)), (.c (.flt .f32 a0.Turn.W.bits)), (.c (.flt .f32 a0.Turn.X.bits)), (.c (.flt .f32 a0.Turn.Y.bits)), (.c (.flt .f32 a0.Turn.Z.bits))])), (2, (.box [(.c (.int .i64 (0 : Int))), (.c (.flt .f32 (default : F32).bits)), (.c (.flt .f32 (default : F32).bits)), (.c (.flt .f32 (default : F32).bits)), (.c (.flt .f32 (default : F32).bits))])), (3, (.box [(.c (.int .i64 a0.At)), (.c (.flt .f32 (default : F32).bits)), (.c (.flt .f32 (default : F32).bits)), (.c (.flt .f32 (default : F32).bits)), (.c (.flt .f32 (default : F32).bits))]))]⟩) (ob := True ∧ True ∧ True ∧ True ∧ True) (by kernel_rfl) ⟨trivial, trivial, trivial, trivial, trivial⟩ ?_
  refine thenQ_normal ?_
  refine AW.seq ?_
  obtain ⟨v1, e2, h⟩ := bind_some h
  refine AW.regionA [.no, .no, .call [.agg (cs_Turn a0.Turn)] [.agg (cs_Turn v1)] [[.view, .view, .view, .view]]] [2, 3] [2, 3] (s' := ⟨[(2, (.v (.one (.ptr 2 0)))), (3, (.v (.one (.ptr 3 0))))], [(2, (.box [(.c (.int .i64 (0 : Int))), (.c (.flt .f32 (default : F32).bits)), (.c (.flt .f32 (default : F32).bits)), (.c (.flt .f32 (default : F32).bits)), (.c (.flt .f32 (default : F32).bits))])), (3, (.box [(.c (.int .i64 a0.At)), (.c (.flt .f32 v1.W.bits)), (.c (.flt .f32 v1.X.bits)), (.c (.flt .f32 v1.Y.bits)), (.c (.flt .f32 v1.Z.bits))]))]⟩) (ob := True ∧ True ∧ ((((((.flt .f32 a0.Turn.W.bits) : C) = (.flt .f32 a0.Turn.W.bits)) ∧ (((.flt .f32 a0.Turn.X.bits) : C) = (.flt .f32 a0.Turn.X.bits)) ∧ (((.flt .f32 a0.Turn.Y.bits) : C) = (.flt .f32 a0.Turn.Y.bits)) ∧ (((.flt .f32 a0.Turn.Z.bits) : C) = (.flt .f32 a0.Turn.Z.bits)) ∧ True) ∧ True) ∧ CallOK Try.prog 209 [.agg (cs_Turn a0.Turn)] [.agg (cs_Turn v1)]) ∧ True ∧ True ∧ True) (by kernel_rfl) ⟨trivial, trivial, ⟨⟨⟨rfl, rfl, rfl, rfl, trivial⟩, trivial⟩, ok_laws_toTurn K a0.Turn v1 e2⟩, trivial, trivial, trivial⟩ ?_
  refine thenQ_normal ?_
  refine AW.seq ?_
  refine AW.regionA [] [2] [2] (s' := ⟨[(2, (.v (.one (.ptr 2 0))))], [(2, (.box [(.c (.int .i64 a0.At)), (.c (.flt .f32 v1.W.bits)), (.c (.flt .f32 v1.X.bits)), (.c (.flt .f32 v1.Y.bits)), (.c (.flt .f32 v1.Z.bits))]))]⟩) (ob := True ∧ True ∧ True) (by kernel_rfl) ⟨trivial, trivial, trivial⟩ ?_
  refine thenQ_normal ?_
  refine AW.ret ?_
  replace h := some_eq h
  subst h
  exact ⟨.inr rfl, retOK_of [(.agg [(.c (.int .i64 a0.At)), (.c (.flt .f32 v1.W.bits)), (.c (.flt .f32 v1.X.bits)), (.c (.flt .f32 v1.Y.bits)), (.c (.flt .f32 v1.Z.bits))])] (by kernel_rfl) ⟨⟨⟨rfl, trivial⟩, ⟨rfl, trivial⟩, ⟨rfl, trivial⟩, ⟨rfl, trivial⟩, ⟨rfl, trivial⟩, trivial⟩, trivial⟩ (of_decide_eq_true (by kernel_rfl))⟩

/-! laws.toKeyS -/
def laws_toKeyS_l1 (K : Nat) (a0 : (List Key)) : Nat → Int → (List Key) → Option ((List Key))
  | 0, _, _ => none
  | k + 1, x4, x5 => ite2 ((decide (x4 < (a0.length : Int)))) (chk (0 ≤ x4 ∧ x4 < (a0.length : Int)) ((laws_toKey K (a0.getD x4.toNat default)).bind fun v8 => chk (0 ≤ x4 ∧ x4 < (x5.length : Int)) (laws_toKeyS_l1 K a0 k (IntKind.i64.wrap (x4 + (1 : Int))) (x5.set x4.toNat v8)))) (some x5)

def laws_toKeyS (K : Nat) (a0 : (List Key)) : Option ((List Key)) :=
  chk (0 ≤ (a0.length : Int) ∧ (a0.length : Int).toNat * 24 ≤ 140737488355328) (laws_toKeyS_l1 K a0 K (0 : Int) (List.replicate (a0.length : Int).toNat (default : Key)))

theorem ok_laws_toKeyS (K : Nat) (a0 : (List Key)) (o : ((List Key))) (h : laws_toKeyS K a0 = some o) : CallOK Try.prog 137 [.one (sl 5 cs_Key a0)] [.one (sl 5 cs_Key o)] := by
  refine callOK_of_AW Try.func137 rfl (by kernel_rfl) (Nat.le_of_ble_eq_true (by kernel_rfl)) ?_
  intro w0
  unfold laws_toKeyS at h
  refine AW.seq ?_
  refine AW.regionA [] [0] [] (s' := ⟨[(0, (.v (.one (.c (sl 5 cs_Key a0)))))], []⟩) (ob := True ∧ True) (by kernel_rfl) ⟨trivial, trivial⟩ ?_
  refine thenQ_normal ?_
  refine AW.seq ?_
  obtain ⟨c1, h⟩ := chk_some h
  refine AW.regionA [.no, .no, .objA 1 (List.replicate (a0.length : Int).toNat (default : Key)).length (gl cs_Key (List.replicate (a0.length : Int).toNat (default : Key)))] [0, 3] [1] (s' := ⟨[(0, (.v (.one (.c (sl 5 cs_Key a0))))), (3, (.v (.one (.arr 1))))], [(1, (.arr false (List.replicate (a0.length : Int).toNat (default : Key)).length 5 (gl cs_Key (List.replicate (a0.length : Int).toNat (default : Key)))))]⟩) (ob := True ∧ True ∧ (0 ≤ (a0.length : Int) ∧ (a0.length : Int) = (a0.length : Int) ∧ (((List.replicate (a0.length : Int).toNat (default : Key)).length : Nat) : Int) = (a0.length : Int) ∧ (List.replicate (a0.length : Int).toNat (default : Key)).length * 24 ≤ 140737488355328 ∧ ∀ i, i < (List.replicate (a0.length : Int).toNat (default : Key)).length → zeroRow (fun _ => none) [(.c (.int .i64 (0 : Int))), (.c (.flt .f32 (default : F32).bits)), (.c (.flt .f32 (default : F32).bits)), (.c (.flt .f32 (default : F32).bits)), (.c (.flt .f32 (default : F32).bits))] (gl cs_Key (List.replicate (a0.length : Int).toNat (default : Key)) i)) ∧ True ∧ True) (by kernel_rfl) ⟨trivial, trivial, ⟨c1.1, rfl, len_rep c1.1, rep_bytes c1.2, fun i hi => gl_zero (cs := cs_Key) (zs := [(.c (.int .i64 (0 : Int))), (.c (.flt .f32 (default : F32).bits)), (.c (.flt .f32 (default : F32).bits)), (.c (.flt .f32 (default : F32).bits)), (.c (.flt .f32 (default : F32).bits))]) (n := (a0.length : Int).toNat) ⟨⟨rfl, trivial⟩, ⟨rfl, trivial⟩, ⟨rfl, trivial⟩, ⟨rfl, trivial⟩, ⟨rfl, trivial⟩, trivial⟩ i (rep_lt hi)⟩, trivial, trivial⟩ ?_
  refine thenQ_normal ?_
  refine AW.seq ?_
  refine AW.seq ?_
  refine AW.regionA [] [0, 3, 4] [1] (s' := ⟨[(0, (.v (.one (.c (sl 5 cs_Key a0))))), (3, (.v (.one (.arr 1)))), (4, (.v (.one (.c (.int .i64 (0 : Int))))))], [(1, (.arr false (List.replicate (a0.length : Int).toNat (default : Key)).length 5 (gl cs_Key (List.replicate (a0.length : Int).toNat (default : Key)))))]⟩) (ob := True ∧ True) (by kernel_rfl) ⟨trivial, trivial⟩ ?_
  refine thenQ_normal ?_
  refine AW.block ?_
  refine AW.loopQ (σ := Nat × Int × (List Key)) (fun p => ⟨[(0, (.v (.one (.c (sl 5 cs_Key a0))))), (3, (.v (.one (.arr 1)))), (4, (.v (.one (.c (.int .i64 p.2.1)))))], [(1, (.arr false p.2.2.length 5 (gl cs_Key p.2.2)))]⟩) (fun p => laws_toKeyS_l1 K a0 p.1 p.2.1 p.2.2 = some o) (fun p => p.1) (K, (0 : Int), (List.replicate (a0.length : Int).toNat (default : Key))) h ?_
  clear h
  rintro ⟨k, x4, x5⟩ h
  replace h : laws_toKeyS_l1 K a0 k x4 x5 = some o := h
  show AW _ _ (⟨[(0, (.v (.one (.c (sl 5 cs_Key a0))))), (3, (.v (.one (.arr 1)))), (4, (.v (.one (.c (.int .i64 x4)))))], [(1, (.arr false x5.length 5 (gl cs_Key x5)))]⟩ : St) _
  obtain _ | k := k
  · rw [laws_toKeyS_l1] at h; cases h
  rw [laws_toKeyS_l1] at h
  refine AW.seq ?_
  refine AW.seq ?_
  refine AW.regionA [] [0, 3, 4, 11] [1] (s' := ⟨[(0, (.v (.one (.c (sl 5 cs_Key a0))))), (3, (.v (.one (.arr 1)))), (4, (.v (.one (.c (.int .i64 x4))))), (11, (.v (.one (.c (.bool (decide (x4 < (a0.length : Int))))))))], [(1, (.arr false x5.length 5 (gl cs_Key x5)))]⟩) (ob := True ∧ True ∧ True ∧ True ∧ True) (by kernel_rfl) ⟨trivial, trivial, trivial, trivial, trivial⟩ ?_
  refine thenQ_normal ?_
  rcases ite2_cases h with ⟨b6, h⟩ | ⟨b6, h⟩
  · refine AW.cond_t rfl b6 ?_
    refine AW.skip ?_
    refine thenQ_normal ?_
    refine AW.seq ?_
    refine AW.block ?_
    obtain ⟨c7, h⟩ := chk_some h
    obtain ⟨v8, e9, h⟩ := bind_some h
    obtain ⟨c10, h⟩ := chk_some h
    refine AW.regionA [.no, .no, .no, .no, .no, .no, .call [.agg (cs_Key (a0.getD x4.toNat default))] [.agg (cs_Key v8)] [[.view, .view, .view, .view, .view]], .no, .set (x5.set x4.toNat v8).length (gl cs_Key (x5.set x4.toNat v8)) ((List.range 5).map fun j => (cs_Key v8).getD (0 + j) .nilptr)] [0, 3, 4] [1] (s' := ⟨[(0, (.v (.one (.c (sl 5 cs_Key a0))))), (3, (.v (.one (.arr 1)))), (4, (.v (.one (.c (.int .i64 x4)))))], [(1, (.arr false (x5.set x4.toNat v8).length 5 (gl cs_Key (x5.set x4.toNat v8))))]⟩) (ob := True ∧ True ∧ True ∧ True ∧ (0 ≤ x4 ∧ x4 < (a0.length : Int)) ∧ True ∧ ((((((.int .i64 ((a0.getD x4.toNat default).At)) : C) = (.int .i64 ((a0.getD x4.toNat default).At))) ∧ (((.flt .f32 (((a0.getD x4.toNat default).Turn).W).bits) : C) = (.flt .f32 (((a0.getD x4.toNat default).Turn).W).bits)) ∧ (((.flt .f32 (((a0.getD x4.toNat default).Turn).X).bits) : C) = (.flt .f32 (((a0.getD x4.toNat default).Turn).X).bits)) ∧ (((.flt .f32 (((a0.getD x4.toNat default).Turn).Y).bits) : C) = (.flt .f32 (((a0.getD x4.toNat default).Turn).Y).bits)) ∧ (((.flt .f32 (((a0.getD x4.toNat default).Turn).Z).bits) : C) = (.flt .f32 (((a0.getD x4.toNat default).Turn).Z).bits)) ∧ True) ∧ True) ∧ CallOK Try.prog 183 [.agg (cs_Key (a0.getD x4.toNat default))] [.agg (cs_Key v8)]) ∧ (0 ≤ x4 ∧ x4 < (x5.length : Int)) ∧ ((x5.set x4.toNat v8).length = x5.length ∧ SetOb x5.length 5 x4.toNat 0 5 (gl cs_Key x5) (gl cs_Key (x5.set x4.toNat v8)) ∧ ((List.range 5).map fun j => (cs_Key v8).getD (0 + j) .nilptr) = ((List.range 5).map fun j => gl cs_Key (x5.set x4.toNat v8) x4.toNat (0 + j)) ∧ ((((.int .i64 v8.At) : C) = (.int .i64 v8.At) ∧ True) ∧ (((.flt .f32 v8.Turn.W.bits) : C) = (.flt .f32 v8.Turn.W.bits) ∧ True) ∧ (((.flt .f32 v8.Turn.X.bits) : C) = (.flt .f32 v8.Turn.X.bits) ∧ True) ∧ (((.flt .f32 v8.Turn.Y.bits) : C) = (.flt .f32 v8.Turn.Y.bits) ∧ True) ∧ (((.flt .f32 v8.Turn.Z.bits) : C) = (.flt .f32 v8.Turn.Z.bits) ∧ True) ∧ True) ∧ (false = true → ∀ j, j < 5 → isSeq (gl cs_Key x5 x4.toNat (0 + j)) = false ∧ isSeq (gl cs_Key (x5.set x4.toNat v8) x4.toNat (0 + j)) = false)) ∧ True) (by kernel_rfl) ⟨trivial, trivial, trivial, trivial, c7, trivial, ⟨⟨⟨rfl, rfl, rfl, rfl, rfl, trivial⟩, trivial⟩, ok_laws_toKey K (a0.getD x4.toNat default) v8 e9⟩, c10, ⟨List.length_set, gl_set, (gl_atp (lt_of_bound c10)).symm, ⟨⟨rfl, trivial⟩, ⟨rfl, trivial⟩, ⟨rfl, trivial⟩, ⟨rfl, trivial⟩, ⟨rfl, trivial⟩, trivial⟩, (fun h => nomatch h)⟩, trivial⟩ ?_
    refine blockQ_normal ?_
    refine thenQ_normal ?_
    refine AW.regionA [] [0, 3, 4] [1] (s' := ⟨[(0, (.v (.one (.c (sl 5 cs_Key a0))))), (3, (.v (.one (.arr 1)))), (4, (.v (.one (.c (.int .i64 (IntKind.i64.wrap (x4 + (1 : Int))))))))], [(1, (.arr false (x5.set x4.toNat v8).length 5 (gl cs_Key (x5.set x4.toNat v8))))]⟩) (ob := True ∧ True ∧ True ∧ True) (by kernel_rfl) ⟨trivial, trivial, trivial, trivial⟩ ?_
    exact loopQ_normal (k, (IntKind.i64.wrap (x4 + (1 : Int))), (x5.set x4.toNat v8)) h (Nat.lt_succ_self k) (Sub.keep [0, 3, 4] [1] (by kernel_rfl) (by kernel_rfl))
  · refine AW.cond_f rfl b6 ?_
    refine AW.exit ?_
    refine thenQ_exit ?_
    refine loopQ_exit ?_
    refine blockQ_exit ?_
    refine thenQ_normal ?_
    refine AW.seq ?_
    refine AW.regionA [] [2] [1] (s' := ⟨[(2, (.v (.one (.arr 1))))], [(1, (.arr false x5.length 5 (gl cs_Key x5)))]⟩) (ob := True ∧ True ∧ True) (by kernel_rfl) ⟨trivial, trivial, trivial⟩ ?_
    refine thenQ_normal ?_
    refine AW.ret ?_
    replace h := some_eq h
    subst h
    exact ⟨.inr rfl, retOK_of [(.one (.arr 1))] (by kernel_rfl) ⟨rfl, trivial⟩ (of_decide_eq_true (by kernel_rfl))⟩

/-! laws.toKeySS -/
def laws_toKeySS_l1 (K : Nat) (a0 : (List (List Key))) : Nat → Int → (List (List Key)) → Option ((List (List Key)))
  | 0, _, _ => none
  | k + 1, x4, x5 => ite2 ((decide (x4 < (a0.length : Int)))) (chk (0 ≤ x4 ∧ x4 < (a0.length : Int)) ((laws_toKeyS K (a0.getD x4.toNat default)).bind fun v8 => chk (0 ≤ x4 ∧ x4 < (x5.length : Int)) (laws_toKeySS_l1 K a0 k (IntKind.i64.wrap (x4 + (1 : Int))) (x5.set x4.toNat v8)))) (some x5)

def laws_toKeySS (K : Nat) (a0 : (List (List Key))) : Option ((List (List Key))) :=
  chk (0 ≤ (a0.length : Int) ∧ (a0.length : Int).toNat * 24 ≤ 140737488355328) (laws_toKeySS_l1 K a0 K (0 : Int) (List.replicate (a0.length : Int).toNat (default : (List Key))))

theorem ok_laws_toKeySS (K : Nat) (a0 : (List (List Key))) (o : ((List (List Key)))) (h : laws_toKeySS K a0 = some o) : CallOK Try.prog 61 [.one (sl 1 (csL 5 cs_Key) a0)] [.one (sl 1 (csL 5 cs_Key) o)] := by
  refine callOK_of_AW Try.func61 rfl (by kernel_rfl) (Nat.le_of_ble_eq_true (by kernel_rfl)) ?_
  intro w0
  unfold laws_toKeySS at h
  refine AW.seq ?_
  refine AW.regionA [] [0] [] (s' := ⟨[(0, (.v (.one (.c (sl 1 (csL 5 cs_Key) a0)))))], []⟩) (ob := True ∧ True) (by kernel_rfl) ⟨trivial, trivial⟩ ?_
  refine thenQ_normal ?_
  refine AW.seq ?_
  obtain ⟨c1, h⟩ := chk_some h
  refine AW.regionA [.no, .no, .objA 1 (List.replicate (a0.length : Int).toNat (default : (List Key))).length (gl (csL 5 cs_Key) (List.replicate (a0.length : Int).toNat (default : (List Key))))] [0, 3] [1] (s' := ⟨[(0, (.v (.one (.c (sl 1 (csL 5 cs_Key) a0))))), (3, (.v (.one (.arr 1))))], [(1, (.arr false (List.replicate (a0.length : Int).toNat (default : (List Key))).length 1 (gl (csL 5 cs_Key) (List.replicate (a0.length : Int).toNat (default : (List Key))))))]⟩) (ob := True ∧ True ∧ (0 ≤ (a0.length : Int) ∧ (a0.length : Int) = (a0.length : Int) ∧ (((List.replicate (a0.length : Int).toNat (default : (List Key))).length : Nat) : Int) = (a0.length : Int) ∧ (List.replicate (a0.length : Int).toNat (default : (List Key))).length * 24 ≤ 140737488355328 ∧ ∀ i, i < (List.replicate (a0.length : Int).toNat (default : (List Key))).length → zeroRow (fun _ => none) [.nils] (gl (csL 5 cs_Key) (List.replicate (a0.length : Int).toNat (default : (List Key))) i)) ∧ True ∧ True) (by kernel_rfl) ⟨trivial, trivial, ⟨c1.1, rfl, len_rep c1.1, rep_bytes c1.2, fun i hi => gl_zero (cs := (csL 5 cs_Key)) (zs := [.nils]) (n := (a0.length : Int).toNat) ⟨rfl, trivial⟩ i (rep_lt hi)⟩, trivial, trivial⟩ ?_
  refine thenQ_normal ?_
  refine AW.seq ?_
  refine AW.seq ?_
  refine AW.regionA [] [0, 3, 4] [1] (s' := ⟨[(0, (.v (.one (.c (sl 1 (csL 5 cs_Key) a0))))), (3, (.v (.one (.arr 1)))), (4, (.v (.one (.c (.int .i64 (0 : Int))))))], [(1, (.arr false (List.replicate (a0.length : Int).toNat (default : (List Key))).length 1 (gl (csL 5 cs_Key) (List.replicate (a0.length : Int).toNat (default : (List Key))))))]⟩) (ob := True ∧ True) (by kernel_rfl) ⟨trivial, trivial⟩ ?_
  refine thenQ_normal ?_
  refine AW.block ?_
  refine AW.loopQ (σ := Nat × Int × (List (List Key))) (fun p => ⟨[(0, (.v (.one (.c (sl 1 (csL 5 cs_Key) a0))))), (3, (.v (.one (.arr 1)))), (4, (.v (.one (.c (.int .i64 p.2.1)))))], [(1, (.arr false p.2.2.length 1 (gl (csL 5 cs_Key) p.2.2)))]⟩) (fun p => laws_toKeySS_l1 K a0 p.1 p.2.1 p.2.2 = some o) (fun p => p.1) (K, (0 : Int), (List.replicate (a0.length : Int).toNat (default : (List Key)))) h ?_
  clear h
  rintro ⟨k, x4, x5⟩ h
  replace h : laws_toKeySS_l1 K a0 k x4 x5 = some o := h
  show AW _ _ (⟨[(0, (.v (.one (.c (sl 1 (csL 5 cs_Key) a0))))), (3, (.v (.one (.arr 1)))), (4, (.v (.one (.c (.int .i64 x4)))))], [(1, (.arr false x5.length 1 (gl (csL 5 cs_Key) x5)))]⟩ : St) _
  obtain _ | k := k
  · rw [laws_toKeySS_l1] at h; cases h
  rw [laws_toKeySS_l1] at h
  refine AW.seq ?_
  refine AW.seq ?_
  refine AW.regionA [] [0, 3, 4, 11] [1] (s' := ⟨[(0, (.v (.one (.c (sl 1 (csL 5 cs_Key) a0))))), (3, (.v (.one (.arr 1)))), (4, (.v (.one (.c (.int .i64 x4))))), (11, (.v (.one (.c (.bool (decide (x4 < (a0.length : Int))))))))], [(1, (.arr false x5.length 1 (gl (csL 5 cs_Key) x5)))]⟩) (ob := True ∧ True ∧ True ∧ True ∧ True) (by kernel_rfl) ⟨trivial, trivial, trivial, trivial, trivial⟩ ?_
  refine thenQ_normal ?_
  rcases ite2_cases h with ⟨b6, h⟩ | ⟨b6, h⟩
  · refine AW.cond_t rfl b6 ?_
    refine AW.skip ?_
    refine thenQ_normal ?_
    refine AW.seq ?_
    refine AW.block ?_
    obtain ⟨c7, h⟩ := chk_some h
    obtain ⟨v8, e9, h⟩ := bind_some h
    obtain ⟨c10, h⟩ := chk_some h
    refine AW.regionA [.no, .no, .no, .no, .no, .no, .call [.one (sl 5 cs_Key (a0.getD x4.toNat default))] [.one (sl 5 cs_Key v8)] [[.lst 4]], .no, .set (x5.set x4.toNat v8).length (gl (csL 5 cs_Key) (x5.set x4.toNat v8)) ((List.range 1).map fun j => ((csL 5 cs_Key) v8).getD (0 + j) .nilptr)] [0, 3, 4] [1] (s' := ⟨[(0, (.v (.one (.c (sl 1 (csL 5 cs_Key) a0))))), (3, (.v (.one (.arr 1)))), (4, (.v (.one (.c (.int .i64 x4)))))], [(1, (.arr false (x5.set x4.toNat v8).length 1 (gl (csL 5 cs_Key) (x5.set x4.toNat v8))))]⟩) (ob := True ∧ True ∧ True ∧ True ∧ (0 ≤ x4 ∧ x4 < (a0.length : Int)) ∧ True ∧ (((((sl 5 cs_Key (a0.getD x4.toNat default)) : C) = (sl 5 cs_Key (a0.getD x4.toNat default))) ∧ True) ∧ CallOK Try.prog 137 [.one (sl 5 cs_Key (a0.getD x4.toNat default))] [.one (sl 5 cs_Key v8)]) ∧ (0 ≤ x4 ∧ x4 < (x5.length : Int)) ∧ ((x5.set x4.toNat v8).length = x5.length ∧ SetOb x5.length 1 x4.toNat 0 1 (gl (csL 5 cs_Key) x5) (gl (csL 5 cs_Key) (x5.set x4.toNat v8)) ∧ ((List.range 1).map fun j => ((csL 5 cs_Key) v8).getD (0 + j) .nilptr) = ((List.range 1).map fun j => gl (csL 5 cs_Key) (x5.set x4.toNat v8) x4.toNat (0 + j)) ∧ ((((sl 5 cs_Key v8) : C) = (sl 5 cs_Key v8)) ∧ True) ∧ (false = true → ∀ j, j < 1 → isSeq (gl (csL 5 cs_Key) x5 x4.toNat (0 + j)) = false ∧ isSeq (gl (csL 5 cs_Key) (x5.set x4.toNat v8) x4.toNat (0 + j)) = false)) ∧ True) (by kernel_rfl) ⟨trivial, trivial, trivial, trivial, c7, trivial, ⟨⟨rfl, trivial⟩, ok_laws_toKeyS K (a0.getD x4.toNat default) v8 e9⟩, c10, ⟨List.length_set, gl_set, (gl_atp (lt_of_bound c10)).symm, ⟨rfl, trivial⟩, (fun h => nomatch h)⟩, trivial⟩ ?_
    refine blockQ_normal ?_
    refine thenQ_normal ?_
    refine AW.regionA [] [0, 3, 4] [1] (s' := ⟨[(0, (.v (.one (.c (sl 1 (csL 5 cs_Key) a0))))), (3, (.v (.one (.arr 1)))), (4, (.v (.one (.c (.int .i64 (IntKind.i64.wrap (x4 + (1 : Int))))))))], [(1, (.arr false (x5.set x4.toNat v8).length 1 (gl (csL 5 cs_Key) (x5.set x4.toNat v8))))]⟩) (ob := True ∧ True ∧ True ∧ True) (by kernel_rfl) ⟨trivial, trivial, trivial, trivial⟩ ?_
    exact loopQ_normal (k, (IntKind.i64.wrap (x4 + (1 : Int))), (x5.set x4.toNat v8)) h (Nat.lt_succ_self k) (Sub.keep [0, 3, 4] [1] (by kernel_rfl) (by kernel_rfl))
  · refine AW.cond_f rfl b6 ?_
    refine AW.exit ?_
    refine thenQ_exit ?_
    refine loopQ_exit ?_
    refine blockQ_exit ?_
    refine thenQ_normal ?_
    refine AW.seq ?_
    refine AW.regionA [] [2] [1] (s' := ⟨[(2, (.v (.one (.arr 1))))], [(1, (.arr false x5.length 1 (gl (csL 5 cs_Key) x5)))]⟩) (ob := True ∧ True ∧ True) (by kernel_rfl) ⟨trivial, trivial, trivial⟩ ?_
    refine thenQ_normal ?_
    refine AW.ret ?_
    replace h := some_eq h
    subst h
    exact ⟨.inr rfl, retOK_of [(.one (.arr 1))] (by kernel_rfl) ⟨rfl, trivial⟩ (of_decide_eq_true (by kernel_rfl))⟩

/-! laws.toVector -/
def laws_toVector (_K : Nat) (a0 : Vector) : Option (Vector) :=
  some a0

theorem ok_laws_toVector (K : Nat) (a0 : Vector) (o : (Vector)) (h : laws_toVector K a0 = some o) : CallOK Try.prog 184 [.agg (cs_Vector a0)] [.agg (cs_Vector o)] := by
  refine callOK_of_AW Try.func184 rfl (by kernel_rfl) (Nat.le_of_ble_eq_true (by kernel_rfl)) ?_
  intro w0
  unfold laws_toVector at h
  refine AW.seq ?_
  refine AW.regionA [.box 1, .box 2] [1, 2] [1, 2] (s' := ⟨[(1, (.v (.one (.ptr 1 0)))), (2, (.v (.one (.ptr 2 0))))], [(1, (.box [(.c (.flt .f32 a0.X.bits)), (.c (.flt .f32 a0.Y.bits)), (.c (.flt .f32 a0.Z.bits))])), (2, (.box [(.c (.flt .f32 (default : F32).bits)), (.c (.flt .f32 (default : F32).bits)), (.c (.flt .f32 (default : F32).bits))]))]⟩) (ob := True ∧ True ∧ True) (by kernel_rfl) ⟨trivial, trivial, trivial⟩ ?_
  refine thenQ_normal ?_
  refine AW.seq ?_
  refine AW.regionA [.box 3] [1, 2, 3] [1, 2, 3] (s' := ⟨[(1, (.v (.one (.ptr 1 0)))), (2, (.v (.one (.ptr 2 0)))), (3, (.v (.one (.ptr 3 0))))], [(1, (.box [(.c (.flt .f32 a0.X.bits)), (.c (.flt .f32 a0.Y.bits)), (.c (.flt .f32 a0.Z.bits))])), (2, (.box [(.c (.flt .f32 (default : F32).bits)), (.c (.flt .f32 (default : F32).bits)), (.c (.flt .f32 (default : F32).bits))])), (3, (.box [(.c (.flt .f32 (default : F32).bits)), (.c (.flt .f32 (default : F32).bits)), (.c (.flt .f32 (default : F32).bits))]))]⟩) (ob := True ∧ True) (by kernel_rfl) ⟨trivial, trivial⟩ ?_
  refine thenQ_normal ?_
  refine AW.seq ?_
  refine AW.regionA [] [1, 2, 3] [1, 2, 3] (s' := ⟨[(1, (.v (.one (.ptr 1 0)))), (2, (.v (.one (.ptr 2 0)))), (3, (.v (.one (.ptr 3 0))))], [(1, (.box [(.c (.flt .f32 a0.X.bits)), (.c (.flt .f32 a0.Y.bits)), (.c (.flt .f32 a0.Z.bits))])), (2, (.box [(.c (.flt .f32 (default : F32).bits)), (.c (.flt .f32 (default : F32).bits)), (.c (.flt .f32 (default : F32).bits))])), (3, (.box [(.c (.flt .f32 a0.X.bits)), (.c (.flt .f32 (default : F32).bits)), (.c (.flt .f32 (default : F32).bits))]))]⟩) (ob := True ∧ True ∧ True ∧ True ∧ True) (by kernel_rfl) ⟨trivial, trivial, trivial, trivial, trivial⟩ ?_
  refine thenQ_normal ?_
  refine AW.seq ?_
  refine AW.regionA [] [1, 2, 3] [1, 2, 3] (s' := ⟨[(1, (.v (.one (.ptr 1 0)))), (2, (.v (.one (.ptr 2 0)))), (3, (.v (.one (.ptr 3 0))))], [(1, (.box [(.c (.flt .f32 a0.X.bits)), (.c (.flt .f32 a0.Y.bits)), (.c (.flt .f32 a0.Z.bits))])), (2, (.box [(.c (.flt .f32 (default : F32).bits)), (.c (.flt .f32 (default : F32).bits)), (.c (.flt .f32 (default : F32).bits))])), (3, (.box [(.c (.flt .f32 a0.X.bits)), (.c (.flt .f32 a0.Y.bits)), (.c (.flt .f32 (default : F32).bits))]))]⟩) (ob := True ∧ True ∧ True ∧ True ∧ True) (by kernel_rfl) ⟨trivial, trivial, trivial, trivial, trivial⟩ ?_
  refine thenQ_normal ?_
  refine AW.seq ?_
  refine AW.regionA [] [2, 3] [2, 3] (s' := ⟨[(2, (.v (.one (.ptr 2 0)))), (3, (.v (.one (.ptr 3 0))))], [(2, (.box [(.c (.flt .f32 (default : F32).bits)), (.c (.flt .f32 (default : F32).bits)), (.c (.flt .f32 (default : F32).bits))])), (3, (.box [(.c (.flt .f32 a0.X.bits)), (.c (.flt .f32 a0.Y.bits)), (.c (.flt .f32 a0.Z.bits))]))]⟩) (ob := True ∧ True ∧ True ∧ True ∧ True) (by kernel_rfl) ⟨trivial, trivial, trivial, trivial, trivial⟩ ?_
  refine thenQ_normal ?_
  refine AW.seq ?_
  refine AW.regionA [] [2] [2] (s' := ⟨[(2, (.v (.one (.ptr 2 0))))], [(2, (.box [(.c (.flt .f32 a0.X.bits)), (.c (.flt .f32 a0.Y.bits)), (.c (.flt .f32 a0.Z.bits))]))]⟩) (ob := True ∧ True ∧ True) (by kernel_rfl) ⟨trivial, trivial, trivial⟩ ?_
  refine thenQ_normal ?_
  refine AW.ret ?_
  replace h := some_eq h
  subst h
  exact ⟨.inr rfl, retOK_of [(.agg [(.c (.flt .f32 a0.X.bits)), (.c (.flt .f32 a0.Y.bits)), (.c (.flt .f32 a0.Z.bits))])] (by kernel_rfl) ⟨⟨⟨rfl, trivial⟩, ⟨rfl, trivial⟩, ⟨rfl, trivial⟩, trivial⟩, trivial⟩ (of_decide_eq_true (by kernel_rfl))⟩

/-! laws.toRootKey -/
def laws_toRootKey (K : Nat) (a0 : RootKey) : Option (RootKey) :=
  (laws_toVector K a0.Place).bind fun v1 => some (RootKey.mk a0.At v1)

theorem ok_laws_toRootKey (K : Nat) (a0 : RootKey) (o : (RootKey)) (h : laws_toRootKey K a0 = some o) : CallOK Try.prog 138 [.agg (cs_RootKey a0)] [.agg (cs_RootKey o)] := by
  refine callOK_of_AW Try.func138 rfl (by kernel_rfl) (Nat.le_of_ble_eq_true (by kernel_rfl)) ?_
  intro w0
  unfold laws_toRootKey at h
  refine AW.seq ?_
  refine AW.regionA [.box 1, .box 2] [1, 2] [1, 2] (s' := ⟨[(1, (.v (.one (.ptr 1 0)))), (2, (.v (.one (.ptr 2 0))))], [(1, (.box [(.c (.int .i64 a0.At)), (.c (.flt .f32 a0.Place.X.bits)), (.c (.flt .f32 a0.Place.Y.bits)), (.c (.flt .f32 a0.Place.Z.bits))])), (2, (.box [(.c (.int .i64 (0 : Int))), (.c (.flt .f32 (default : F32).bits)), (.c (.flt .f32 (default : F32).bits)), (.c (.flt .f32 (default : F32).bits))]))]⟩) (ob := True ∧ True ∧ True) (by kernel_rfl) ⟨trivial, trivial, trivial⟩ ?_
  refine thenQ_normal ?_
  refine AW.seq ?_
  refine AW.regionA [.box 3] [1, 2, 3] [1, 2, 3] (s' := ⟨[(1, (.v (.one (.ptr 1 0)))), (2, (.v (.one (.ptr 2 0)))), (3, (.v (.one (.ptr 3 0))))], [(1, (.box [(.c (.int .i64 a0.At)), (.c (.flt .f32 a0.Place.X.bits)), (.c (.flt .f32 a0.Place.Y.bits)), (.c (.flt .f32 a0.Place.Z.bits))])), (2, (.box [(.c (.int .i64 (0 : Int))), (.c (.flt .f32 (default : F32).bits)), (.c (.flt .f32 (default : F32).bits)), (.c (.flt .f32 (default : F32).bits))])), (3, (.box [(.c (.int .i64 (0 : Int))), (.c (.flt .f32 (default : F32).bits)), (.c (.flt .f32 (default : F32).bits)), (.c (.flt .f32 (default : F32).bits))]))]⟩) (ob := True ∧ True) (by kernel_rfl) ⟨trivial, trivial⟩ ?_
  refine thenQ_normal ?_
  refine AW.seq ?_
  refine AW.regionA [] [1, 2, 3] [1, 2, 3] (s' := ⟨[(1, (.v (.one (.ptr 1 0)))), (2, (.v (.one (.ptr 2 0)))), (3, (.v (.one (.ptr 3 0))))], [(1, (.box [(.c (.int .i64 a0.At)), (.c (.flt .f32 a0.Place.X.bits)), (.c (.flt .f32 a0.Place.Y.bits)), (.c (.flt .f32 a0.Place.Z.bits))])), (2, (.box [(.c (.int .i64 (0 : Int))), (.c (.flt .f32 (default : F32).bits)), (.c (.flt .f32 (default : F32).bits)), (.c (.flt .f32 (default : F32).bits))])), (3, (.box [(.c (.int .i64 a0.At)), (.c (.flt .f32 (default : F32).bits)), (.c (.flt .f32 (default : F32).bits)), (.c (.flt .f32 (default : F32).bits))]))]⟩) (ob := True ∧ True ∧ True ∧ True ∧ True) (by kernel_rfl) ⟨trivial, trivial, trivial, trivial, trivial⟩ ?_
  refine thenQ_normal ?_
  refine AW.seq ?_
  obtain ⟨v1, e2, h⟩ := bind_some h
  refine AW.regionA [.no, .no, .call [.agg (cs_Vector a0.Place)] [.agg (cs_Vector v1)] [[.view, .view, .view]]] [2, 3] [2, 3] (s' := ⟨[(2, (.v (.one (.ptr 2 0)))), (3, (.v (.one (.ptr 3 0))))], [(2, (.box [(.c (.int .i64 (0 : Int))), (.c (.flt .f32 (default : F32).bits)), (.c (.flt .f32 (default : F32).bits)), (.c (.flt .f32 (default : F32).bits))])), (3, (.box [(.c (.int .i64 a0.At)), (.c (.flt .f32 v1.X.bits)), (.c (.flt .f32 v1.Y.bits)), (.c (.flt .f32 v1.Z.bits))]))]⟩) (ob := True ∧ True ∧ ((((((.flt .f32 a0.Place.X.bits) : C) = (.flt .f32 a0.Place.X.bits)) ∧ (((.flt .f32 a0.Place.Y.bits) : C) = (.flt .f32 a0.Place.Y.bits)) ∧ (((.flt .f32 a0.Place.Z.bits) : C) = (.flt .f32 a0.Place.Z.bits)) ∧ True) ∧ True) ∧ CallOK Try.prog 184 [.agg (cs_Vector a0.Place)] [.agg (cs_Vector v1)]) ∧ True ∧ True ∧ True) (by kernel_rfl) ⟨trivial, trivial, ⟨⟨⟨rfl, rfl, rfl, trivial⟩, trivial⟩, ok_laws_toVector K a0.Place v1 e2⟩, trivial, trivial, trivial⟩ ?_
  refine thenQ_normal ?_
  refine AW.seq ?_
  refine AW.regionA [] [2] [2] (s' := ⟨[(2, (.v (.one (.ptr 2 0))))], [(2, (.box [(.c (.int .i64 a0.At)), (.c (.flt .f32 v1.X.bits)), (.c (.flt .f32 v1.Y.bits)), (.c (.flt .f32 v1.Z.bits))]))]⟩) (ob := True ∧ True ∧ True) (by kernel_rfl) ⟨trivial, trivial, trivial⟩ ?_
  refine thenQ_normal ?_
  refine AW.ret ?_
  replace h := some_eq h
  subst h
  exact ⟨.inr rfl, retOK_of [(.agg [(.c (.int .i64 a0.At)), (.c (.flt .f32 v1.X.bits)), (.c (.flt .f32 v1.Y.bits)), (.c (.flt .f32 v1.Z.bits))])] (by kernel_rfl) ⟨⟨⟨rfl, trivial⟩, ⟨rfl, trivial⟩, ⟨rfl, trivial⟩, ⟨rfl, trivial⟩, trivial⟩, trivial⟩ (of_decide_eq_true (by kernel_rfl))⟩

/-! laws.toRootKeyS -/
def laws_toRootKeyS_l1 (K : Nat) (a0 : (List RootKey)) : Nat → Int → (List RootKey) → Option ((List RootKey))
  | 0, _, _ => none
  | k + 1, x4, x5 => ite2 ((decide (x4 < (a0.length : Int)))) (chk (0 ≤ x4 ∧ x4 < (a0.length : Int)) ((laws_toRootKey K (a0.getD x4.toNat default)).bind fun v8 => chk (0 ≤ x4 ∧ x4 < (x5.length : Int)) (laws_toRootKeyS_l1 K a0 k (IntKind.i64.wrap (x4 + (1 : Int))) (x5.set x4.toNat v8)))) (some x5)

def laws_toRootKeyS (K : Nat) (a0 : (List RootKey)) : Option ((List RootKey)) :=
  chk (0 ≤ (a0.length : Int) ∧ (a0.length : Int).toNat * 24 ≤ 140737488355328) (laws_toRootKeyS_l1 K a0 K (0 : Int) (List.replicate (a0.length : Int).toNat (default : RootKey)))

theorem ok_laws_toRootKeyS (K : Nat) (a0 : (List RootKey)) (o : ((List RootKey))) (h : laws_toRootKeyS K a0 = some o) : CallOK Try.prog 62 [.one (sl 4 cs_RootKey a0)] [.one (sl 4 cs_RootKey o)] := by
  refine callOK_of_AW Try.func62 rfl (by kernel_rfl) (Nat.le_of_ble_eq_true (by kernel_rfl)) ?_
  intro w0
  unfold laws_toRootKeyS at h
  refine AW.seq ?_
  refine AW.regionA [] [0] [] (s' := ⟨[(0, (.v (.one (.c (sl 4 cs_RootKey a0)))))], []⟩) (ob := True ∧ True) (by kernel_rfl) ⟨trivial, trivial⟩ ?_
  refine thenQ_normal ?_
  refine AW.seq ?_
  obtain ⟨c1, h⟩ := chk_some h
  refine AW.regionA [.no, .no, .objA 1 (List.replicate (a0.length : Int).toNat (default : RootKey)).length (gl cs_RootKey (List.replicate (a0.length : Int).toNat (default : RootKey)))] [0, 3] [1] (s' := ⟨[(0, (.v (.one (.c (sl 4 cs_RootKey a0))))), (3, (.v (.one (.arr 1))))], [(1, (.arr false (List.replicate (a0.length : Int).toNat (default : RootKey)).length 4 (gl cs_RootKey (List.replicate (a0.length : Int).toNat (default : RootKey)))))]⟩) (ob := True ∧ True ∧ (0 ≤ (a0.length : Int) ∧ (a0.length : Int) = (a0.length : Int) ∧ (((List.replicate (a0.length : Int).toNat (default : RootKey)).length : Nat) : Int) = (a0.length : Int) ∧ (List.replicate (a0.length : Int).toNat (default : RootKey)).length * 24 ≤ 140737488355328 ∧ ∀ i, i < (List.replicate (a0.length : Int).toNat (default : RootKey)).length → zeroRow (fun _ => none) [(.c (.int .i64 (0 : Int))), (.c (.flt .f32 (default : F32).bits)), (.c (.flt .f32 (default : F32).bits)), (.c (.flt .f32 (default : F32).bits))] (gl cs_RootKey (List.replicate (a0.length : Int).toNat (default : RootKey)) i)) ∧ True ∧ True) (by kernel_rfl) ⟨trivial, trivial, ⟨c1.1, rfl, len_rep c1.1, rep_bytes c1.2, fun i hi => gl_zero (cs := cs_RootKey) (zs := [(.c (.int .i64 (0 : Int))), (.c (.flt .f32 (default : F32).bits)), (.c (.flt .f32 (default : F32).bits)), (.c (.flt .f32 (default : F32).bits))]) (n := (a0.length : Int).toNat) ⟨⟨rfl, trivial⟩, ⟨rfl, trivial⟩, ⟨rfl, trivial⟩, ⟨rfl, trivial⟩, trivial⟩ i (rep_lt hi)⟩, trivial, trivial⟩ ?_
  refine thenQ_normal ?_
  refine AW.seq ?_
  refine AW.seq ?_
  refine AW.regionA [] [0, 3, 4] [1] (s' := ⟨[(0, (.v (.one (.c (sl 4 cs_RootKey a0))))), (3, (.v (.one (.arr 1)))), (4, (.v (.one (.c (.int .i64 (0 : Int))))))], [(1, (.arr false (List.replicate (a0.length : Int).toNat (default : RootKey)).length 4 (gl cs_RootKey (List.replicate (a0.length : Int).toNat (default : RootKey)))))]⟩) (ob := True ∧ True) (by kernel_rfl) ⟨trivial, trivial⟩ ?_
  refine thenQ_normal ?_
  refine AW.block ?_
  refine AW.loopQ (σ := Nat × Int × (List RootKey)) (fun p => ⟨[(0, (.v (.one (.c (sl 4 cs_RootKey a0))))), (3, (.v (.one (.arr 1)))), (4, (.v (.one (.c (.int .i64 p.2.1)))))], [(1, (.arr false p.2.2.length 4 (gl cs_RootKey p.2.2)))]⟩) (fun p => laws_toRootKeyS_l1 K a0 p.1 p.2.1 p.2.2 = some o) (fun p => p.1) (K, (0 : Int), (List.replicate (a0.length : Int).toNat (default : RootKey))) h ?_
  clear h
  rintro ⟨k, x4, x5⟩ h
  replace h : laws_toRootKeyS_l1 K a0 k x4 x5 = some o := h
  show AW _ _ (⟨[(0, (.v (.one (.c (sl 4 cs_RootKey a0))))), (3, (.v (.one (.arr 1)))), (4, (.v (.one (.c (.int .i64 x4)))))], [(1, (.arr false x5.length 4 (gl cs_RootKey x5)))]⟩ : St) _
  obtain _ | k := k
  · rw [laws_toRootKeyS_l1] at h; cases h
  rw [laws_toRootKeyS_l1] at h
  refine AW.seq ?_
  refine AW.seq ?_
  refine AW.regionA [] [0, 3, 4, 11] [1] (s' := ⟨[(0, (.v (.one (.c (sl 4 cs_RootKey a0))))), (3, (.v (.one (.arr 1)))), (4, (.v (.one (.c (.int .i64 x4))))), (11, (.v (.one (.c (.bool (decide (x4 < (a0.length : Int))))))))], [(1, (.arr false x5.length 4 (gl cs_RootKey x5)))]⟩) (ob := True ∧ True ∧ True ∧ True ∧ True) (by kernel_rfl) ⟨trivial, trivial, trivial, trivial, trivial⟩ ?_
  refine thenQ_normal ?_
  rcases ite2_cases h with ⟨b6, h⟩ | ⟨b6, h⟩
  · refine AW.cond_t rfl b6 ?_
    refine AW.skip ?_
    refine thenQ_normal ?_
    refine AW.seq ?_
    refine AW.block ?_
    obtain ⟨c7, h⟩ := chk_some h
    obtain ⟨v8, e9, h⟩ := bind_some h
    obtain ⟨c10, h⟩ := chk_some h
    refine AW.regionA [.no, .no, .no, .no, .no, .no, .call [.agg (cs_RootKey (a0.getD x4.toNat default))] [.agg (cs_RootKey v8)] [[.view, .view, .view, .view]], .no, .set (x5.set x4.toNat v8).length (gl cs_RootKey (x5.set x4.toNat v8)) ((List.range 4).map fun j => (cs_RootKey v8).getD (0 + j) .nilptr)] [0, 3, 4] [1] (s' := ⟨[(0, (.v (.one (.c (sl 4 cs_RootKey a0))))), (3, (.v (.one (.arr 1)))), (4, (.v (.one (.c (.int .i64 x4)))))], [(1, (.arr false (x5.set x4.toNat v8).length 4 (gl cs_RootKey (x5.set x4.toNat v8))))]⟩) (ob := True ∧ True ∧ True ∧ True ∧ (0 ≤ x4 ∧ x4 < (a0.length : Int)) ∧ True ∧ ((((((.int .i64 ((a0.getD x4.toNat default).At)) : C) = (.int .i64 ((a0.getD x4.toNat default).At))) ∧ (((.flt .f32 (((a0.getD x4.toNat default).Place).X).bits) : C) = (.flt .f32 (((a0.getD x4.toNat default).Place).X).bits)) ∧ (((.flt .f32 (((a0.getD x4.toNat default).Place).Y).bits) : C) = (.flt .f32 (((a0.getD x4.toNat default).Place).Y).bits)) ∧ (((.flt .f32 (((a0.getD x4.toNat default).Place).Z).bits) : C) = (.flt .f32 (((a0.getD x4.toNat default).Place).Z).bits)) ∧ True) ∧ True) ∧ CallOK Try.prog 138 [.agg (cs_RootKey (a0.getD x4.toNat default))] [.agg (cs_RootKey v8)]) ∧ (0 ≤ x4 ∧ x4 < (x5.length : Int)) ∧ ((x5.set x4.toNat v8).length = x5.length ∧ SetOb x5.length 4 x4.toNat 0 4 (gl cs_RootKey x5) (gl cs_RootKey (x5.set x4.toNat v8)) ∧ ((List.range 4).map fun j => (cs_RootKey v8).getD (0 + j) .nilptr) = ((List.range 4).map fun j => gl cs_RootKey (x5.set x4.toNat v8) x4.toNat (0 + j)) ∧ ((((.int .i64 v8.At) : C) = (.int .i64 v8.At) ∧ True) ∧ (((.flt .f32 v8.Place.X.bits) : C) = (.flt .f32 v8.Place.X.bits) ∧ True) ∧ (((.flt .f32 v8.Place.Y.bits) : C) = (.flt .f32 v8.Place.Y.bits) ∧ True) ∧ (((.flt .f32 v8.Place.Z.bits) : C) = (.flt .f32 v8.Place.Z.bits) ∧ True) ∧ True) ∧ (false = true → ∀ j, j < 4 → isSeq (gl cs_RootKey x5 x4.toNat (0 + j)) = false ∧ isSeq (gl cs_RootKey (x5.set x4.toNat v8) x4.toNat (0 + j)) = false)) ∧ True) (by kernel_rfl) ⟨trivial, trivial, trivial, trivial, c7, trivial, ⟨⟨⟨rfl, rfl, rfl, rfl, trivial⟩, trivial⟩, ok_laws_toRootKey K (a0.getD x4.toNat default) v8 e9⟩, c10, ⟨List.length_set, gl_set, (gl_atp (lt_of_bound c10)).symm, ⟨⟨rfl, trivial⟩, ⟨rfl, trivial⟩, ⟨rfl, trivial⟩, ⟨rfl, trivial⟩, trivial⟩, (fun h => nomatch h)⟩, trivial⟩ ?_
    refine blockQ_normal ?_
    refine thenQ_normal ?_
    refine AW.regionA [] [0, 3, 4] [1] (s' := ⟨[(0, (.v (.one (.c (sl 4 cs_RootKey a0))))), (3, (.v (.one (.arr 1)))), (4, (.v (.one (.c (.int .i64 (IntKind.i64.wrap (x4 + (1 : Int))))))))], [(1, (.arr false (x5.set x4.toNat v8).length 4 (gl cs_RootKey (x5.set x4.toNat v8))))]⟩) (ob := True ∧ True ∧ True ∧ True) (by kernel_rfl) ⟨trivial, trivial, trivial, trivial⟩ ?_
    exact loopQ_normal (k, (IntKind.i64.wrap (x4 + (1 : Int))), (x5.set x4.toNat v8)) h (Nat.lt_succ_self k) (Sub.keep [0, 3, 4] [1] (by kernel_rfl) (by kernel_rfl))
  · refine AW.cond_f rfl b6 ?_
    refine AW.exit ?_
    refine thenQ_exit ?_
    refine loopQ_exit ?_
    refine blockQ_exit ?_
    refine thenQ_normal ?_
    refine AW.seq ?_
    refine AW.regionA [] [2] [1] (s' := ⟨[(2, (.v (.one (.arr 1))))], [(1, (.arr false x5.length 4 (gl cs_RootKey x5)))]⟩) (ob := True ∧ True ∧ True) (by kernel_rfl) ⟨trivial, trivial, trivial⟩ ?_
    refine thenQ_normal ?_
    refine AW.ret ?_
    replace h := some_eq h
    subst h
    exact ⟨.inr rfl, retOK_of [(.one (.arr 1))] (by kernel_rfl) ⟨rfl, trivial⟩ (of_decide_eq_true (by kernel_rfl))⟩

/-! laws.toClip -/
def laws_toClip (K : Nat) (a0 : Clip) : Option (Clip) :=
  (laws_toKeySS K a0.Tracks).bind fun v1 => (laws_toRootKeyS K a0.Roots).bind fun v3 => some (Clip.mk a0.Length a0.Kind v1 v3)

theorem ok_laws_toClip (K : Nat) (a0 : Clip) (o : (Clip)) (h : laws_toClip K a0 = some o) : CallOK Try.prog 13 [.agg (cs_Clip a0)] [.agg (cs_Clip o)] := by
  refine callOK_of_AW Try.func13 rfl (by kernel_rfl) (Nat.le_of_ble_eq_true (by kernel_rfl)) ?_
  intro w0
  unfold laws_toClip at h
  refine AW.seq ?_
  refine AW.regionA [.box 1, .box 2] [1, 2] [1, 2] (s' := ⟨[(1, (.v (.one (.ptr 1 0)))), (2, (.v (.one (.ptr 2 0))))], [(1, (.box [(.c (.int .i64 a0.Length)), (.c (.int .i64 a0.Kind)), (.c (sl 1 (csL 5 cs_Key) a0.Tracks)), (.c (sl 4 cs_RootKey a0.Roots))])), (2, (.box [(.c (.int .i64 (0 : Int))), (.c (.int .i64 (0 : Int))), .nils, .nils]))]⟩) (ob := True ∧ True ∧ True) (by kernel_rfl) ⟨trivial, trivial, trivial⟩ ?_
  refine thenQ_normal ?_
  refine AW.seq ?_
  refine AW.regionA [.box 3] [1, 2, 3] [1, 2, 3] (s' := ⟨[(1, (.v (.one (.ptr 1 0)))), (2, (.v (.one (.ptr 2 0)))), (3, (.v (.one (.ptr 3 0))))], [(1, (.box [(.c (.int .i64 a0.Length)), (.c (.int .i64 a0.Kind)), (.c (sl 1 (csL 5 cs_Key) a0.Tracks)), (.c (sl 4 cs_RootKey a0.Roots))])), (2, (.box [(.c (.int .i64 (0 : Int))), (.c (.int .i64 (0 : Int))), .nils, .nils])), (3, (.box [(.c (.int .i64 (0 : Int))), (.c (.int .i64 (0 : Int))), .nils, .nils]))]⟩) (ob := True ∧ True) (by kernel_rfl) ⟨trivial, trivial⟩ ?_
  refine thenQ_normal ?_
  refine AW.seq ?_
  refine AW.regionA [] [1, 2, 3] [1, 2, 3] (s' := ⟨[(1, (.v (.one (.ptr 1 0)))), (2, (.v (.one (.ptr 2 0)))), (3, (.v (.one (.ptr 3 0))))], [(1, (.box [(.c (.int .i64 a0.Length)), (.c (.int .i64 a0.Kind)), (.c (sl 1 (csL 5 cs_Key) a0.Tracks)), (.c (sl 4 cs_RootKey a0.Roots))])), (2, (.box [(.c (.int .i64 (0 : Int))), (.c (.int .i64 (0 : Int))), .nils, .nils])), (3, (.box [(.c (.int .i64 a0.Length)), (.c (.int .i64 (0 : Int))), .nils, .nils]))]⟩) (ob := True ∧ True ∧ True ∧ True ∧ True) (by kernel_rfl) ⟨trivial, trivial, trivial, trivial, trivial⟩ ?_
  refine thenQ_normal ?_
  refine AW.seq ?_
  refine AW.regionA [] [1, 2, 3] [1, 2, 3] (s' := ⟨[(1, (.v (.one (.ptr 1 0)))), (2, (.v (.one (.ptr 2 0)))), (3, (.v (.one (.ptr 3 0))))], [(1, (.box [(.c (.int .i64 a0.Length)), (.c (.int .i64 a0.Kind)), (.c (sl 1 (csL 5 cs_Key) a0.Tracks)), (.c (sl 4 cs_RootKey a0.Roots))])), (2, (.box [(.c (.int .i64 (0 : Int))), (.c (.int .i64 (0 : Int))), .nils, .nils])), (3, (.box [(.c (.int .i64 a0.Length)), (.c (.int .i64 a0.Kind)), .nils, .nils]))]⟩) (ob := True ∧ True ∧ True ∧ True ∧ True) (by kernel_rfl) ⟨trivial, trivial, trivial, trivial, trivial⟩ ?_
  refine thenQ_normal ?_
  refine AW.seq ?_
  obtain ⟨v1, e2, h⟩ := bind_some h
  refine AW.regionA [.no, .no, .call [.one (sl 1 (csL 5 cs_Key) a0.Tracks)] [.one (sl 1 (csL 5 cs_Key) v1)] [[.lst 4]]] [1, 2, 3] [1, 2, 3, 4] (s' := ⟨[(1, (.v (.one (.ptr 1 0)))), (2, (.v (.one (.ptr 2 0)))), (3, (.v (.one (.ptr 3 0))))], [(1, (.box [(.c (.int .i64 a0.Length)), (.c (.int .i64 a0.Kind)), (.c (sl 1 (csL 5 cs_Key) a0.Tracks)), (.c (sl 4 cs_RootKey a0.Roots))])), (2, (.box [(.c (.int .i64 (0 : Int))), (.c (.int .i64 (0 : Int))), .nils, .nils])), (3, (.box [(.c (.int .i64 a0.Length)), (.c (.int .i64 a0.Kind)), (.lst 4 v1.length 1 (gl (csL 5 cs_Key) v1)), .nils])), (4, (.lst v1.length 1 (gl (csL 5 cs_Key) v1)))]⟩) (ob := True ∧ True ∧ (((((sl 1 (csL 5 cs_Key) a0.Tracks) : C) = (sl 1 (csL 5 cs_Key) a0.Tracks)) ∧ True) ∧ CallOK Try.prog 61 [.one (sl 1 (csL 5 cs_Key) a0.Tracks)] [.one (sl 1 (csL 5 cs_Key) v1)]) ∧ True ∧ True ∧ True) (by kernel_rfl) ⟨trivial, trivial, ⟨⟨rfl, trivial⟩, ok_laws_toKeySS K a0.Tracks v1 e2⟩, trivial, trivial, trivial⟩ ?_
  refine thenQ_normal ?_
  refine AW.seq ?_
  obtain ⟨v3, e4, h⟩ := bind_some h
  refine AW.regionA [.no, .no, .call [.one (sl 4 cs_RootKey a0.Roots)] [.one (sl 4 cs_RootKey v3)] [[.lst 5]]] [2, 3] [2, 3, 4, 5] (s' := ⟨[(2, (.v (.one (.ptr 2 0)))), (3, (.v (.one (.ptr 3 0))))], [(2, (.box [(.c (.int .i64 (0 : Int))), (.c (.int .i64 (0 : Int))), .nils, .nils])), (3, (.box [(.c (.int .i64 a0.Length)), (.c (.int .i64 a0.Kind)), (.lst 4 v1.length 1 (gl (csL 5 cs_Key) v1)), (.lst 5 v3.length 4 (gl cs_RootKey v3))])), (4, (.lst v1.length 1 (gl (csL 5 cs_Key) v1))), (5, (.lst v3.length 4 (gl cs_RootKey v3)))]⟩) (ob := True ∧ True ∧ (((((sl 4 cs_RootKey a0.Roots) : C) = (sl 4 cs_RootKey a0.Roots)) ∧ True) ∧ CallOK Try.prog 62 [.one (sl 4 cs_RootKey a0.Roots)] [.one (sl 4 cs_RootKey v3)]) ∧ True ∧ True ∧ True) (by kernel_rfl) ⟨trivial, trivial, ⟨⟨rfl, trivial⟩, ok_laws_toRootKeyS K a0.Roots v3 e4⟩, trivial, trivial, trivial⟩ ?_
  refine thenQ_normal ?_
  refine AW.seq ?_
  refine AW.regionA [] [2] [2, 4, 5] (s' := ⟨[(2, (.v (.one (.ptr 2 0))))], [(2, (.box [(.c (.int .i64 a0.Length)), (.c (.int .i64 a0.Kind)), (.lst 4 v1.length 1 (gl (csL 5 cs_Key) v1)), (.lst 5 v3.length 4 (gl cs_RootKey v3))])), (4, (.lst v1.length 1 (gl (csL 5 cs_Key) v1))), (5, (.lst v3.length 4 (gl cs_RootKey v3)))]⟩) (ob := True ∧ True ∧ True) (by kernel_rfl) ⟨trivial, trivial, trivial⟩ ?_
  refine thenQ_normal ?_
  refine AW.ret ?_
  replace h := some_eq h
  subst h
  exact ⟨.inr rfl, retOK_of [(.agg [(.c (.int .i64 a0.Length)), (.c (.int .i64 a0.Kind)), (.lst 4 v1.length 1 (gl (csL 5 cs_Key) v1)), (.lst 5 v3.length 4 (gl cs_RootKey v3))])] (by kernel_rfl) ⟨⟨⟨rfl, trivial⟩, ⟨rfl, trivial⟩, rfl, rfl, trivial⟩, trivial⟩ (of_decide_eq_true (by kernel_rfl))⟩

/-! spec.l00In -/
def spec_l00In (_K : Nat) (a0 : Int) (a1 : Int) (a2 : Int) : Option (Bool) :=
  (ite2 ((decide (a0 ≥ a1))) (some (decide (a0 ≤ a2))) (some false)).bind fun j2 => some j2

theorem ok_spec_l00In (K : Nat) (a0 : Int) (a1 : Int) (a2 : Int) (o : (Bool)) (h : spec_l00In K a0 a1 a2 = some o) : CallOK Try.prog 74 [.one (.int .i64 a0), .one (.int .i64 a1), .one (.int .i64 a2)] [.one (.bool o)] := by
  refine callOK_of_AW Try.func74 rfl (by kernel_rfl) (Nat.le_of_ble_eq_true (by kernel_rfl)) ?_
  intro w0
  unfold spec_l00In at h
  refine AW.seq ?_
  refine AW.regionA [] [0, 1, 2] [] (s' := ⟨[(0, (.v (.one (.c (.int .i64 a0))))), (1, (.v (.one (.c (.int .i64 a1))))), (2, (.v (.one (.c (.int .i64 a2)))))], []⟩) (ob := True ∧ True) (by kernel_rfl) ⟨trivial, trivial⟩ ?_
  refine thenQ_normal ?_
  refine AW.seq ?_
  obtain ⟨j2, e3, h⟩ := bind_some h
  refine AW.join1 (s2 := ⟨[(6, (.v (.one (.c (.bool j2)))))], []⟩) ?_ ?_
  · rcases ite2_cases e3 with ⟨b1, e3⟩ | ⟨b1, e3⟩
    · replace e3 := some_eq e3
      subst e3
      exact AW.regionA [.no, .no, .no, .dec true] [6] [] (s' := ⟨[(6, (.v (.one (.c (.bool (decide (a0 ≤ a2)))))))], []⟩) (ob := True ∧ True ∧ True ∧ (True ∧ (decide (a0 ≥ a1)) = true) ∧ True ∧ True ∧ True ∧ True ∧ True ∧ True) (by kernel_rfl) ⟨trivial, trivial, trivial, ⟨trivial, b1⟩, trivial, trivial, trivial, trivial, trivial, trivial⟩ ⟨rfl, rfl⟩
    · replace e3 := some_eq e3
      subst e3
      exact AW.regionA [.no, .no, .no, .dec false] [6] [] (s' := ⟨[(6, (.v (.one (.c (.bool false)))))], []⟩) (ob := True ∧ True ∧ True ∧ (True ∧ (decide (a0 ≥ a1)) = false) ∧ True ∧ True ∧ True ∧ True ∧ True ∧ True) (by kernel_rfl) ⟨trivial, trivial, trivial, ⟨trivial, b1⟩, trivial, trivial, trivial, trivial, trivial, trivial⟩ ⟨rfl, rfl⟩
  refine thenQ_normal ?_
  refine AW.ret ?_
  replace h := some_eq h
  subst h
  exact ⟨.inr rfl, retOK_of [(.one (.c (.bool j2)))] (by kernel_rfl) ⟨⟨rfl, trivial⟩, trivial⟩ (of_decide_eq_true (by kernel_rfl))⟩

/-! spec.l05At -/
def spec_l05At_l1 (K : Nat) (a0 : (List Key)) : Nat → Int → (List Int) → Option ((List Int))
  | 0, _, _ => none
  | k + 1, x3, x4 => ite2 ((decide (x3 < (a0.length : Int)))) (chk (0 ≤ x3 ∧ x3 < (a0.length : Int)) (chk ((x4.length + ([(a0.getD x3.toNat default).At]).length) * 8 ≤ 140737488355328) (spec_l05At_l1 K a0 k (IntKind.i64.wrap (x3 + (1 : Int))) (x4 ++ ([(a0.getD x3.toNat default).At]))))) (some x4)

def spec_l05At (K : Nat) (a0 : (List Key)) : Option ((List Int)) :=
  spec_l05At_l1 K a0 K (0 : Int) ([] : List Int)

theorem ok_spec_l05At (K : Nat) (a0 : (List Key)) (o : ((List Int))) (h : spec_l05At K a0 = some o) : CallOK Try.prog 135 [.one (sl 5 cs_Key a0)] [.one (sl 1 (csI .i64) o)] := by
  refine callOK_of_AW Try.func135 rfl (by kernel_rfl) (Nat.le_of_ble_eq_true (by kernel_rfl)) ?_
  intro w0
  unfold spec_l05At at h
  refine AW.seq ?_
  refine AW.regionA [] [0] [] (s' := ⟨[(0, (.v (.one (.c (sl 5 cs_Key a0)))))], []⟩) (ob := True ∧ True) (by kernel_rfl) ⟨trivial, trivial⟩ ?_
  refine thenQ_normal ?_
  refine AW.seq ?_
  refine AW.regionA [.obj 1 ([] : List Int).length (gl (csI .i64) ([] : List Int))] [0, 3] [1] (s' := ⟨[(0, (.v (.one (.c (sl 5 cs_Key a0))))), (3, (.v (.one (.lst 1 ([] : List Int).length 1 (gl (csI .i64) ([] : List Int))))))], [(1, (.lst ([] : List Int).length 1 (gl (csI .i64) ([] : List Int))))]⟩) (ob := (([] : List Int).length = 0 ∧ True) ∧ True ∧ True) (by kernel_rfl) ⟨⟨rfl, trivial⟩, trivial, trivial⟩ ?_
  refine thenQ_normal ?_
  refine AW.seq ?_
  refine AW.seq ?_
  refine AW.regionA [] [0, 3, 7, 8] [1] (s' := ⟨[(0, (.v (.one (.c (sl 5 cs_Key a0))))), (3, (.v (.one (.lst 1 ([] : List Int).length 1 (gl (csI .i64) ([] : List Int)))))), (7, (.v (.one (.c (.int .i64 (a0.length : Int)))))), (8, (.v (.one (.c (.int .i64 (0 : Int))))))], [(1, (.lst ([] : List Int).length 1 (gl (csI .i64) ([] : List Int))))]⟩) (ob := True ∧ True ∧ True ∧ True) (by kernel_rfl) ⟨trivial, trivial, trivial, trivial⟩ ?_
  refine thenQ_normal ?_
  refine AW.block ?_
  refine AW.loopQ (σ := Nat × Int × (List Int)) (fun p => ⟨[(0, (.v (.one (.c (sl 5 cs_Key a0))))), (3, (.v (.one (.lst 1 p.2.2.length 1 (gl (csI .i64) p.2.2))))), (7, (.v (.one (.c (.int .i64 (a0.length : Int)))))), (8, (.v (.one (.c (.int .i64 p.2.1)))))], [(1, (.lst p.2.2.length 1 (gl (csI .i64) p.2.2)))]⟩) (fun p => spec_l05At_l1 K a0 p.1 p.2.1 p.2.2 = some o) (fun p => p.1) (K, (0 : Int), ([] : List Int)) h ?_
  clear h
  rintro ⟨k, x3, x4⟩ h
  replace h : spec_l05At_l1 K a0 k x3 x4 = some o := h
  show AW _ _ (⟨[(0, (.v (.one (.c (sl 5 cs_Key a0))))), (3, (.v (.one (.lst 1 x4.length 1 (gl (csI .i64) x4))))), (7, (.v (.one (.c (.int .i64 (a0.length : Int)))))), (8, (.v (.one (.c (.int .i64 x3)))))], [(1, (.lst x4.length 1 (gl (csI .i64) x4)))]⟩ : St) _
  obtain _ | k := k
  · rw [spec_l05At_l1] at h; cases h
  rw [spec_l05At_l1] at h
  refine AW.seq ?_
  refine AW.regionA [] [0, 3, 7, 8, 9] [1] (s' := ⟨[(0, (.v (.one (.c (sl 5 cs_Key a0))))), (3, (.v (.one (.lst 1 x4.length 1 (gl (csI .i64) x4))))), (7, (.v (.one (.c (.int .i64 (a0.length : Int)))))), (8, (.v (.one (.c (.int .i64 x3))))), (9, (.v (.one (.c (.bool (decide (x3 < (a0.length : Int))))))))], [(1, (.lst x4.length 1 (gl (csI .i64) x4)))]⟩) (ob := True ∧ True) (by kernel_rfl) ⟨trivial, trivial⟩ ?_
  refine thenQ_normal ?_
  refine AW.seq ?_
  rcases ite2_cases h with ⟨b5, h⟩ | ⟨b5, h⟩
  · refine AW.cond_t rfl b5 ?_
    refine AW.skip ?_
    refine thenQ_normal ?_
    refine AW.seq ?_
    refine AW.block ?_
    refine AW.seq ?_
    refine AW.regionA [] [0, 3, 4, 7, 8] [1] (s' := ⟨[(0, (.v (.one (.c (sl 5 cs_Key a0))))), (3, (.v (.one (.lst 1 x4.length 1 (gl (csI .i64) x4))))), (4, (.v (.one (.c (.int .i64 x3))))), (7, (.v (.one (.c (.int .i64 (a0.length : Int)))))), (8, (.v (.one (.c (.int .i64 x3)))))], [(1, (.lst x4.length 1 (gl (csI .i64) x4)))]⟩) (ob := True ∧ True ∧ True) (by kernel_rfl) ⟨trivial, trivial, trivial⟩ ?_
    refine thenQ_normal ?_
    obtain ⟨c6, h⟩ := chk_some h
    obtain ⟨c7, h⟩ := chk_some h
    refine AW.regionA [.no, .no, .no, .no, .no, .no, .obj 6 ([(a0.getD x3.toNat default).At]).length (gl (csI .i64) ([(a0.getD x3.toNat default).At])), .objK 7 (x4 ++ ([(a0.getD x3.toNat default).At])).length (gl (csI .i64) (x4 ++ ([(a0.getD x3.toNat default).At])))] [0, 3, 7, 8] [7] (s' := ⟨[(0, (.v (.one (.c (sl 5 cs_Key a0))))), (3, (.v (.one (.lst 7 (x4 ++ ([(a0.getD x3.toNat default).At])).length 1 (gl (csI .i64) (x4 ++ ([(a0.getD x3.toNat default).At]))))))), (7, (.v (.one (.c (.int .i64 (a0.length : Int)))))), (8, (.v (.one (.c (.int .i64 x3)))))], [(7, (.lst (x4 ++ ([(a0.getD x3.toNat default).At])).length 1 (gl (csI .i64) (x4 ++ ([(a0.getD x3.toNat default).At])))))]⟩) (ob := True ∧ True ∧ True ∧ (0 ≤ x3 ∧ x3 < (a0.length : Int)) ∧ True ∧ True ∧ (([(a0.getD x3.toNat default).At]).length = 1 ∧ (((.int .i64 ((a0.getD x3.toNat default).At)) : C) = (.int .i64 ((a0.getD x3.toNat default).At)) ∧ True) ∧ True) ∧ ((x4 ++ ([(a0.getD x3.toNat default).At])).length = x4.length + ([(a0.getD x3.toNat default).At]).length ∧ AppOb (x4.length) (([(a0.getD x3.toNat default).At]).length) 1 (gl (csI .i64) x4) (gl (csI .i64) ([(a0.getD x3.toNat default).At])) (gl (csI .i64) (x4 ++ ([(a0.getD x3.toNat default).At]))) ∧ (∀ i j, i < ([(a0.getD x3.toNat default).At]).length → j < 1 → scalarC (gl (csI .i64) ([(a0.getD x3.toNat default).At]) i j)) ∧ (x4.length + ([(a0.getD x3.toNat default).At]).length) * 8 ≤ 140737488355328) ∧ True ∧ True) (by kernel_rfl) ⟨trivial, trivial, trivial, c6, trivial, trivial, ⟨rfl, ⟨⟨rfl, trivial⟩, trivial⟩⟩, ⟨List.length_append, gl_append, gl_scalar scI _, c7⟩, trivial, trivial⟩ ?_
    refine blockQ_normal ?_
    refine thenQ_normal ?_
    refine AW.regionA [] [0, 3, 7, 8] [7] (s' := ⟨[(0, (.v (.one (.c (sl 5 cs_Key a0))))), (3, (.v (.one (.lst 7 (x4 ++ ([(a0.getD x3.toNat default).At])).length 1 (gl (csI .i64) (x4 ++ ([(a0.getD x3.toNat default).At]))))))), (7, (.v (.one (.c (.int .i64 (a0.length : Int)))))), (8, (.v (.one (.c (.int .i64 (IntKind.i64.wrap (x3 + (1 : Int))))))))], [(7, (.lst (x4 ++ ([(a0.getD x3.toNat default).At])).length 1 (gl (csI .i64) (x4 ++ ([(a0.getD x3.toNat default).At])))))]⟩) (ob := True ∧ True ∧ True) (by kernel_rfl) ⟨trivial, trivial, trivial⟩ ?_
    exact loopQ_normal (k, (IntKind.i64.wrap (x3 + (1 : Int))), (x4 ++ ([(a0.getD x3.toNat default).At]))) h (Nat.lt_succ_self k) (Sub.trans (Sub.swap 1 7 _ (by kernel_rfl) (by kernel_rfl)) (Sub.keep [0, 3, 7, 8] [1] (by kernel_rfl) (by kernel_rfl)))
  · refine AW.cond_f rfl b5 ?_
    refine AW.exit ?_
    refine thenQ_exit ?_
    refine loopQ_exit ?_
    refine blockQ_exit ?_
    refine thenQ_normal ?_
    refine AW.seq ?_
    refine AW.regionA [] [2] [1] (s' := ⟨[(2, (.v (.one (.lst 1 x4.length 1 (gl (csI .i64) x4)))))], [(1, (.lst x4.length 1 (gl (csI .i64) x4)))]⟩) (ob := True ∧ True ∧ True) (by kernel_rfl) ⟨trivial, trivial, trivial⟩ ?_
    refine thenQ_normal ?_
    refine AW.ret ?_
    replace h := some_eq h
    subst h
    exact ⟨.inr rfl, retOK_of [(.one (.lst 1 x4.length 1 (gl (csI .i64) x4)))] (by kernel_rfl) ⟨rfl, trivial⟩ (of_decide_eq_true (by kernel_rfl))⟩

/-! spec.l05Times -/
def spec_l05Times_l1 (K : Nat) (a0 : (List Int)) (a1 : Int) : Nat → Int → Option (Bool)
  | 0, _ => none
  | k + 1, x2 => ite2 ((decide (x2 < (a0.length : Int)))) (chk (0 ≤ x2 ∧ x2 < (a0.length : Int)) ((spec_l00In K (a0.getD x2.toNat default) (0 : Int) a1).bind fun v5 => (ite2 ((!v5)) (some true) (ite2 ((decide (x2 > (0 : Int)))) (chk (0 ≤ (IntKind.i64.wrap (x2 - (1 : Int))) ∧ (IntKind.i64.wrap (x2 - (1 : Int))) < (a0.length : Int)) (some (decide ((a0.getD ((IntKind.i64.wrap (x2 - (1 : Int))).toNat) default) ≥ (a0.getD x2.toNat default))))) (some false))).bind fun j10 => ite2 (j10) (some false) (spec_l05Times_l1 K a0 a1 k (IntKind.i64.wrap (x2 + (1 : Int)))))) ((ite2 ((decide ((a0.length : Int) ≥ (1 : Int)))) (some (decide ((a0.length : Int) ≤ (12 : Int)))) (some false)).bind fun j14 => some j14)

def spec_l05Times (K : Nat) (a0 : (List Int)) (a1 : Int) : Option (Bool) :=
  spec_l05Times_l1 K a0 a1 K (0 : Int)

theorem ok_spec_l05Times (K : Nat) (a0 : (List Int)) (a1 : Int) (o : (Bool)) (h : spec_l05Times K a0 a1 = some o) : CallOK Try.prog 134 [.one (sl 1 (csI .i64) a0), .one (.int .i64 a1)] [.one (.bool o)] := by
  refine callOK_of_AW Try.func134 rfl (by kernel_rfl) (Nat.le_of_ble_eq_true (by kernel_rfl)) ?_
  intro w0
  unfold spec_l05Times at h
  refine AW.seq ?_
  refine AW.regionA [] [0, 1] [] (s' := ⟨[(0, (.v (.one (.c (sl 1 (csI .i64) a0))))), (1, (.v (.one (.c (.int .i64 a1)))))], []⟩) (ob := True ∧ True) (by kernel_rfl) ⟨trivial, trivial⟩ ?_
  refine thenQ_normal ?_
  refine AW.seq ?_
  refine AW.seq ?_
  refine AW.regionA [] [0, 1, 7, 8] [] (s' := ⟨[(0, (.v (.one (.c (sl 1 (csI .i64) a0))))), (1, (.v (.one (.c (.int .i64 a1))))), (7, (.v (.one (.c (.int .i64 (a0.length : Int)))))), (8, (.v (.one (.c (.int .i64 (0 : Int))))))], []⟩) (ob := True ∧ True ∧ True ∧ True) (by kernel_rfl) ⟨trivial, trivial, trivial, trivial⟩ ?_
  refine thenQ_normal ?_
  refine AW.block ?_
  refine AW.loopQ (σ := Nat × Int) (fun p => ⟨[(0, (.v (.one (.c (sl 1 (csI .i64) a0))))), (1, (.v (.one (.c (.int .i64 a1))))), (7, (.v (.one (.c (.int .i64 (a0.length : Int)))))), (8, (.v (.one (.c (.int .i64 p.2)))))], []⟩) (fun p => spec_l05Times_l1 K a0 a1 p.1 p.2 = some o) (fun p => p.1) (K, (0 : Int)) h ?_
  clear h
  rintro ⟨k, x2⟩ h
  replace h : spec_l05Times_l1 K a0 a1 k x2 = some o := h
  show AW _ _ (⟨[(0, (.v (.one (.c (sl 1 (csI .i64) a0))))), (1, (.v (.one (.c (.int .i64 a1))))), (7, (.v (.one (.c (.int .i64 (a0.length : Int)))))), (8, (.v (.one (.c (.int .i64 x2)))))], []⟩ : St) _
  obtain _ | k := k
  · rw [spec_l05Times_l1] at h; cases h
  rw [spec_l05Times_l1] at h
  refine AW.seq ?_
  refine AW.regionA [] [0, 1, 7, 8, 9] [] (s' := ⟨[(0, (.v (.one (.c (sl 1 (csI .i64) a0))))), (1, (.v (.one (.c (.int .i64 a1))))), (7, (.v (.one (.c (.int .i64 (a0.length : Int)))))), (8, (.v (.one (.c (.int .i64 x2))))), (9, (.v (.one (.c (.bool (decide (x2 < (a0.length : Int))))))))], []⟩) (ob := True ∧ True) (by kernel_rfl) ⟨trivial, trivial⟩ ?_
  refine thenQ_normal ?_
  refine AW.seq ?_
  rcases ite2_cases h with ⟨b3, h⟩ | ⟨b3, h⟩
  · refine AW.cond_t rfl b3 ?_
    refine AW.skip ?_
    refine thenQ_normal ?_
    refine AW.seq ?_
    refine AW.block ?_
    refine AW.seq ?_
    refine AW.regionA [] [0, 1, 5, 7, 8] [] (s' := ⟨[(0, (.v (.one (.c (sl 1 (csI .i64) a0))))), (1, (.v (.one (.c (.int .i64 a1))))), (5, (.v (.one (.c (.int .i64 x2))))), (7, (.v (.one (.c (.int .i64 (a0.length : Int)))))), (8, (.v (.one (.c (.int .i64 x2)))))], []⟩) (ob := True ∧ True ∧ True) (by kernel_rfl) ⟨trivial, trivial, trivial⟩ ?_
    refine thenQ_normal ?_
    refine AW.seq ?_
    obtain ⟨c4, h⟩ := chk_some h
    obtain ⟨v5, e6, h⟩ := bind_some h
    obtain ⟨j10, e11, h⟩ := bind_some h
    refine AW.join1 (s2 := ⟨[(0, (.v (.one (.c (sl 1 (csI .i64) a0))))), (1, (.v (.one (.c (.int .i64 a1))))), (7, (.v (.one (.c (.int .i64 (a0.length : Int)))))), (8, (.v (.one (.c (.int .i64 x2))))), (33, (.v (.one (.c (.bool j10)))))], []⟩) ?_ ?_
    · rcases ite2_cases e11 with ⟨b7, e11⟩ | ⟨b7, e11⟩
      · replace e11 := some_eq e11
        subst e11
        exact AW.drawnA (by kernel_rfl) 23 [.no, .no, .no, .no, .no, .call [.one (.int .i64 (a0.getD x2.toNat default)), .one (.int .i64 (0 : Int)), .one (.int .i64 a1)] [.one (.bool v5)] [[.view]], .no, .dec true] [0, 1, 7, 8, 33] [] (s' := ⟨[(0, (.v (.one (.c (sl 1 (csI .i64) a0))))), (1, (.v (.one (.c (.int .i64 a1))))), (7, (.v (.one (.c (.int .i64 (a0.length : Int)))))), (8, (.v (.one (.c (.int .i64 x2))))), (33, (.v (.one (.c (.bool true)))))], []⟩) (ob := (True ∧ True ∧ (0 ≤ x2 ∧ x2 < (a0.length : Int)) ∧ True ∧ True ∧ (((((.int .i64 (a0.getD x2.toNat default)) : C) = (.int .i64 (a0.getD x2.toNat default))) ∧ (((.int .i64 (0 : Int)) : C) = (.int .i64 (0 : Int))) ∧ (((.int .i64 a1) : C) = (.int .i64 a1)) ∧ True) ∧ CallOK Try.prog 74 [.one (.int .i64 (a0.getD x2.toNat default)), .one (.int .i64 (0 : Int)), .one (.int .i64 a1)] [.one (.bool v5)]) ∧ True ∧ (True ∧ (!v5) = true) ∧ True ∧ True ∧ True ∧ True ∧ True ∧ True ∧ True ∧ True ∧ True ∧ True ∧ True ∧ True ∧ True ∧ True ∧ True ∧ True) ∧ (True)) (by kernel_rfl) ⟨⟨trivial, trivial, c4, trivial, trivial, ⟨⟨rfl, rfl, rfl, trivial⟩, ok_spec_l00In K (a0.getD x2.toNat default) (0 : Int) a1 v5 e6⟩, trivial, ⟨trivial, b7⟩, trivial, trivial, trivial, trivial, trivial, trivial, trivial, trivial, trivial, trivial, trivial, trivial, trivial, trivial, trivial, trivial⟩, trivial⟩ ⟨rfl, rfl⟩
      · rcases ite2_cases e11 with ⟨b8, e11⟩ | ⟨b8, e11⟩
        · obtain ⟨c9, e11⟩ := chk_some e11
          replace e11 := some_eq e11
          subst e11
          exact AW.drawnA (by kernel_rfl) 23 [.no, .no, .no, .no, .no, .call [.one (.int .i64 (a0.getD x2.toNat default)), .one (.int .i64 (0 : Int)), .one (.int .i64 a1)] [.one (.bool v5)] [[.view]], .no, .dec false, .no, .no, .dec true] [0, 1, 7, 8, 33] [] (s' := ⟨[(0, (.v (.one (.c (sl 1 (csI .i64) a0))))), (1, (.v (.one (.c (.int .i64 a1))))), (7, (.v (.one (.c (.int .i64 (a0.length : Int)))))), (8, (.v (.one (.c (.int .i64 x2))))), (33, (.v (.one (.c (.bool (decide ((a0.getD ((IntKind.i64.wrap (x2 - (1 : Int))).toNat) default) ≥ (a0.getD x2.toNat default))))))))], []⟩) (ob := (True ∧ True ∧ (0 ≤ x2 ∧ x2 < (a0.length : Int)) ∧ True ∧ True ∧ (((((.int .i64 (a0.getD x2.toNat default)) : C) = (.int .i64 (a0.getD x2.toNat default))) ∧ (((.int .i64 (0 : Int)) : C) = (.int .i64 (0 : Int))) ∧ (((.int .i64 a1) : C) = (.int .i64 a1)) ∧ True) ∧ CallOK Try.prog 74 [.one (.int .i64 (a0.getD x2.toNat default)), .one (.int .i64 (0 : Int)), .one (.int .i64 a1)] [.one (.bool v5)]) ∧ True ∧ (True ∧ (!v5) = false) ∧ True ∧ True ∧ (True ∧ (decide (x2 > (0 : Int))) = true) ∧ True ∧ True ∧ True ∧ (0 ≤ (IntKind.i64.wrap (x2 - (1 : Int))) ∧ (IntKind.i64.wrap (x2 - (1 : Int))) < (a0.length : Int)) ∧ True ∧ True ∧ True ∧ (0 ≤ x2 ∧ x2 < (a0.length : Int)) ∧ True ∧ True ∧ True ∧ True ∧ True) ∧ (True)) (by kernel_rfl) ⟨⟨trivial, trivial, c4, trivial, trivial, ⟨⟨rfl, rfl, rfl, trivial⟩, ok_spec_l00In K (a0.getD x2.toNat default) (0 : Int) a1 v5 e6⟩, trivial, ⟨trivial, b7⟩, trivial, trivial, ⟨trivial, b8⟩, trivial, trivial, trivial, c9, trivial, trivial, trivial, c4, trivial, trivial, trivial, trivial, trivial⟩, trivial⟩ ⟨rfl, rfl⟩
        · replace e11 := some_eq e11
          subst e11
          exact AW.drawnA (by kernel_rfl) 23 [.no, .no, .no, .no, .no, .call [.one (.int .i64 (a0.getD x2.toNat default)), .one (.int .i64 (0 : Int)), .one (.int .i64 a1)] [.one (.bool v5)] [[.view]], .no, .dec false, .no, .no, .dec false] [0, 1, 7, 8, 33] [] (s' := ⟨[(0, (.v (.one (.c (sl 1 (csI .i64) a0))))), (1, (.v (.one (.c (.int .i64 a1))))), (7, (.v (.one (.c (.int .i64 (a0.length : Int)))))), (8, (.v (.one (.c (.int .i64 x2))))), (33, (.v (.one (.c (.bool false)))))], []⟩) (ob := (True ∧ True ∧ (0 ≤ x2 ∧ x2 < (a0.length : Int)) ∧ True ∧ True ∧ (((((.int .i64 (a0.getD x2.toNat default)) : C) = (.int .i64 (a0.getD x2.toNat default))) ∧ (((.int .i64 (0 : Int)) : C) = (.int .i64 (0 : Int))) ∧ (((.int .i64 a1) : C) = (.int .i64 a1)) ∧ True) ∧ CallOK Try.prog 74 [.one (.int .i64 (a0.getD x2.toNat default)), .one (.int .i64 (0 : Int)), .one (.int .i64 a1)] [.one (.bool v5)]) ∧ True ∧ (True ∧ (!v5) = false) ∧ True ∧ True ∧ (True ∧ (decide (x2 > (0 : Int))) = false) ∧ True ∧ True ∧ True ∧ True ∧ True ∧ True ∧ True ∧ True ∧ True ∧ True ∧ True ∧ True ∧ True) ∧ (True)) (by kernel_rfl) ⟨⟨trivial, trivial, c4, trivial, trivial, ⟨⟨rfl, rfl, rfl, trivial⟩, ok_spec_l00In K (a0.getD x2.toNat default) (0 : Int) a1 v5 e6⟩, trivial, ⟨trivial, b7⟩, trivial, trivial, ⟨trivial, b8⟩, trivial, trivial, trivial, trivial, trivial, trivial, trivial, trivial, trivial, trivial, trivial, trivial, trivial⟩, trivial⟩ ⟨rfl, rfl⟩
    refine thenQ_normal ?_
    rcases ite2_cases h with ⟨b12, h⟩ | ⟨b12, h⟩
    · refine AW.cond_t rfl b12 ?_
      refine AW.seq ?_
      refine AW.regionA [] [4] [] (s' := ⟨[(4, (.v (.one (.c (.bool false)))))], []⟩) (ob := True ∧ True) (by kernel_rfl) ⟨trivial, trivial⟩ ?_
      refine thenQ_normal ?_
      refine AW.ret ?_
      refine blockQ_ret ?_
      refine thenQ_ret ?_
      refine loopQ_ret ?_
      refine blockQ_ret ?_
      refine thenQ_ret ?_
      replace h := some_eq h
      subst h
      exact ⟨.inr rfl, retOK_of [(.one (.c (.bool false)))] (by kernel_rfl) ⟨⟨rfl, trivial⟩, trivial⟩ (of_decide_eq_true (by kernel_rfl))⟩
    · refine AW.cond_f rfl b12 ?_
      refine AW.skip ?_
      refine blockQ_normal ?_
      refine thenQ_normal ?_
      refine AW.regionA [] [0, 1, 7, 8] [] (s' := ⟨[(0, (.v (.one (.c (sl 1 (csI .i64) a0))))), (1, (.v (.one (.c (.int .i64 a1))))), (7, (.v (.one (.c (.int .i64 (a0.length : Int)))))), (8, (.v (.one (.c (.int .i64 (IntKind.i64.wrap (x2 + (1 : Int))))))))], []⟩) (ob := True ∧ True ∧ True) (by kernel_rfl) ⟨trivial, trivial, trivial⟩ ?_
      exact loopQ_normal (k, (IntKind.i64.wrap (x2 + (1 : Int)))) h (Nat.lt_succ_self k) (Sub.keep [0, 1, 7, 8] [] (by kernel_rfl) (by kernel_rfl))
  · refine AW.cond_f rfl b3 ?_
    refine AW.exit ?_
    refine thenQ_exit ?_
    refine loopQ_exit ?_
    refine blockQ_exit ?_
    refine thenQ_normal ?_
    refine AW.seq ?_
    obtain ⟨j14, e15, h⟩ := bind_some h
    refine AW.join1 (s2 := ⟨[(4, (.v (.one (.c (.bool j14)))))], []⟩) ?_ ?_
    · rcases ite2_cases e15 with ⟨b13, e15⟩ | ⟨b13, e15⟩
      · replace e15 := some_eq e15
        subst e15
        exact AW.regionA [.no, .no, .no, .dec true] [4] [] (s' := ⟨[(4, (.v (.one (.c (.bool (decide ((a0.length : Int) ≤ (12 : Int))))))))], []⟩) (ob := True ∧ True ∧ True ∧ (True ∧ (decide ((a0.length : Int) ≥ (1 : Int))) = true) ∧ True ∧ True ∧ True ∧ True ∧ True ∧ True) (by kernel_rfl) ⟨trivial, trivial, trivial, ⟨trivial, b13⟩, trivial, trivial, trivial, trivial, trivial, trivial⟩ ⟨rfl, rfl⟩
      · replace e15 := some_eq e15
        subst e15
        exact AW.regionA [.no, .no, .no, .dec false] [4] [] (s' := ⟨[(4, (.v (.one (.c (.bool false)))))], []⟩) (ob := True ∧ True ∧ True ∧ (True ∧ (decide ((a0.length : Int) ≥ (1 : Int))) = false) ∧ True ∧ True ∧ True ∧ True ∧ True ∧ True) (by kernel_rfl) ⟨trivial, trivial, trivial, ⟨trivial, b13⟩, trivial, trivial, trivial, trivial, trivial, trivial⟩ ⟨rfl, rfl⟩
    refine thenQ_normal ?_
    refine AW.ret ?_
    replace h := some_eq h
    subst h
    exact ⟨.inr rfl, retOK_of [(.one (.c (.bool j14)))] (by kernel_rfl) ⟨⟨rfl, trivial⟩, trivial⟩ (of_decide_eq_true (by kernel_rfl))⟩

/-! spec.l05RootAt -/
def spec_l05RootAt_l1 (K : Nat) (a0 : (List RootKey)) : Nat → Int → (List Int) → Option ((List Int))
  | 0, _, _ => none
  | k + 1, x3, x4 => ite2 ((decide (x3 < (a0.length : Int)))) (chk (0 ≤ x3 ∧ x3 < (a0.length : Int)) (chk ((x4.length + ([(a0.getD x3.toNat default).At]).length) * 8 ≤ 140737488355328) (spec_l05RootAt_l1 K a0 k (IntKind.i64.wrap (x3 + (1 : Int))) (x4 ++ ([(a0.getD x3.toNat default).At]))))) (some x4)

def spec_l05RootAt (K : Nat) (a0 : (List RootKey)) : Option ((List Int)) :=
  spec_l05RootAt_l1 K a0 K (0 : Int) ([] : List Int)

theorem ok_spec_l05RootAt (K : Nat) (a0 : (List RootKey)) (o : ((List Int))) (h : spec_l05RootAt K a0 = some o) : CallOK Try.prog 136 [.one (sl 4 cs_RootKey a0)] [.one (sl 1 (csI .i64) o)] := by
  refine callOK_of_AW Try.func136 rfl (by kernel_rfl) (Nat.le_of_ble_eq_true (by kernel_rfl)) ?_
  intro w0
  unfold spec_l05RootAt at h
  refine AW.seq ?_
  refine AW.regionA [] [0] [] (s' := ⟨[(0, (.v (.one (.c (sl 4 cs_RootKey a0)))))], []⟩) (ob := True ∧ True) (by kernel_rfl) ⟨trivial, trivial⟩ ?_
  refine thenQ_normal ?_
  refine AW.seq ?_
  refine AW.regionA [.obj 1 ([] : List Int).length (gl (csI .i64) ([] : List Int))] [0, 3] [1] (s' := ⟨[(0, (.v (.one (.c (sl 4 cs_RootKey a0))))), (3, (.v (.one (.lst 1 ([] : List Int).length 1 (gl (csI .i64) ([] : List Int))))))], [(1, (.lst ([] : List Int).length 1 (gl (csI .i64) ([] : List Int))))]⟩) (ob := (([] : List Int).length = 0 ∧ True) ∧ True ∧ True) (by kernel_rfl) ⟨⟨rfl, trivial⟩, trivial, trivial⟩ ?_
  refine thenQ_normal ?_
  refine AW.seq ?_
  refine AW.seq ?_
  refine AW.regionA [] [0, 3, 7, 8] [1] (s' := ⟨[(0, (.v (.one (.c (sl 4 cs_RootKey a0))))), (3, (.v (.one (.lst 1 ([] : List Int).length 1 (gl (csI .i64) ([] : List Int)))))), (7, (.v (.one (.c (.int .i64 (a0.length : Int)))))), (8, (.v (.one (.c (.int .i64 (0 : Int))))))], [(1, (.lst ([] : List Int).length 1 (gl (csI .i64) ([] : List Int))))]⟩) (ob := True ∧ True ∧ True ∧ True) (by kernel_rfl) ⟨trivial, trivial, trivial, trivial⟩ ?_
  refine thenQ_normal ?_
  refine AW.block ?_
  refine AW.loopQ (σ := Nat × Int × (List Int)) (fun p => ⟨[(0, (.v (.one (.c (sl 4 cs_RootKey a0))))), (3, (.v (.one (.lst 1 p.2.2.length 1 (gl (csI .i64) p.2.2))))), (7, (.v (.one (.c (.int .i64 (a0.length : Int)))))), (8, (.v (.one (.c (.int .i64 p.2.1)))))], [(1, (.lst p.2.2.length 1 (gl (csI .i64) p.2.2)))]⟩) (fun p => spec_l05RootAt_l1 K a0 p.1 p.2.1 p.2.2 = some o) (fun p => p.1) (K, (0 : Int), ([] : List Int)) h ?_
  clear h
  rintro ⟨k, x3, x4⟩ h
  replace h : spec_l05RootAt_l1 K a0 k x3 x4 = some o := h
  show AW _ _ (⟨[(0, (.v (.one (.c (sl 4 cs_RootKey a0))))), (3, (.v (.one (.lst 1 x4.length 1 (gl (csI .i64) x4))))), (7, (.v (.one (.c (.int .i64 (a0.length : Int)))))), (8, (.v (.one (.c (.int .i64 x3)))))], [(1, (.lst x4.length 1 (gl (csI .i64) x4)))]⟩ : St) _
  obtain _ | k := k
  · rw [spec_l05RootAt_l1] at h; cases h
  rw [spec_l05RootAt_l1] at h
  refine AW.seq ?_
  refine AW.regionA [] [0, 3, 7, 8, 9] [1] (s' := ⟨[(0, (.v (.one (.c (sl 4 cs_RootKey a0))))), (3, (.v (.one (.lst 1 x4.length 1 (gl (csI .i64) x4))))), (7, (.v (.one (.c (.int .i64 (a0.length : Int)))))), (8, (.v (.one (.c (.int .i64 x3))))), (9, (.v (.one (.c (.bool (decide (x3 < (a0.length : Int))))))))], [(1, (.lst x4.length 1 (gl (csI .i64) x4)))]⟩) (ob := True ∧ True) (by kernel_rfl) ⟨trivial, trivial⟩ ?_
  refine thenQ_normal ?_
  refine AW.seq ?_
  rcases ite2_cases h with ⟨b5, h⟩ | ⟨b5, h⟩
  · refine AW.cond_t rfl b5 ?_
    refine AW.skip ?_
    refine thenQ_normal ?_
    refine AW.seq ?_
    refine AW.block ?_
    refine AW.seq ?_
    refine AW.regionA [] [0, 3, 4, 7, 8] [1] (s' := ⟨[(0, (.v (.one (.c (sl 4 cs_RootKey a0))))), (3, (.v (.one (.lst 1 x4.length 1 (gl (csI .i64) x4))))), (4, (.v (.one (.c (.int .i64 x3))))), (7, (.v (.one (.c (.int .i64 (a0.length : Int)))))), (8, (.v (.one (.c (.int .i64 x3)))))], [(1, (.lst x4.length 1 (gl (csI .i64) x4)))]⟩) (ob := True ∧ True ∧ True) (by kernel_rfl) ⟨trivial, trivial, trivial⟩ ?_
    refine thenQ_normal ?_
    obtain ⟨c6, h⟩ := chk_some h
    obtain ⟨c7, h⟩ := chk_some h
    refine AW.regionA [.no, .no, .no, .no, .no, .no, .obj 6 ([(a0.getD x3.toNat default).At]).length (gl (csI .i64) ([(a0.getD x3.toNat default).At])), .objK 7 (x4 ++ ([(a0.getD x3.toNat default).At])).length (gl (csI .i64) (x4 ++ ([(a0.getD x3.toNat default).At])))] [0, 3, 7, 8] [7] (s' := ⟨[(0, (.v (.one (.c (sl 4 cs_RootKey a0))))), (3, (.v (.one (.lst 7 (x4 ++ ([(a0.getD x3.toNat default).At])).length 1 (gl (csI .i64) (x4 ++ ([(a0.getD x3.toNat default).At]))))))), (7, (.v (.one (.c (.int .i64 (a0.length : Int)))))), (8, (.v (.one (.c (.int .i64 x3)))))], [(7, (.lst (x4 ++ ([(a0.getD x3.toNat default).At])).length 1 (gl (csI .i64) (x4 ++ ([(a0.getD x3.toNat default).At])))))]⟩) (ob := True ∧ True ∧ True ∧ (0 ≤ x3 ∧ x3 < (a0.length : Int)) ∧ True ∧ True ∧ (([(a0.getD x3.toNat default).At]).length = 1 ∧ (((.int .i64 ((a0.getD x3.toNat default).At)) : C) = (.int .i64 ((a0.getD x3.toNat default).At)) ∧ True) ∧ True) ∧ ((x4 ++ ([(a0.getD x3.toNat default).At])).length = x4.length + ([(a0.getD x3.toNat default).At]).length ∧ AppOb (x4.length) (([(a0.getD x3.toNat default).At]).length) 1 (gl (csI .i64) x4) (gl (csI .i64) ([(a0.getD x3.toNat default).At])) (gl (csI .i64) (x4 ++ ([(a0.getD x3.toNat default).At]))) ∧ (∀ i j, i < ([(a0.getD x3.toNat default).At]).length → j < 1 → scalarC (gl (csI .i64) ([(a0.getD x3.toNat default).At]) i j)) ∧ (x4.length + ([(a0.getD x3.toNat default).At]).length) * 8 ≤ 140737488355328) ∧ True ∧ True) (by kernel_rfl) ⟨trivial, trivial, trivial, c6, trivial, trivial, ⟨rfl, ⟨⟨rfl, trivial⟩, trivial⟩⟩, ⟨List.length_append, gl_append, gl_scalar scI _, c7⟩, trivial, trivial⟩ ?_
    refine blockQ_normal ?_
    refine thenQ_normal ?_
    refine AW.regionA [] [0, 3, 7, 8] [7] (s' := ⟨[(0, (.v (.one (.c (sl 4 cs_RootKey a0))))), (3, (.v (.one (.lst 7 (x4 ++ ([(a0.getD x3.toNat default).At])).length 1 (gl (csI .i64) (x4 ++ ([(a0.getD x3.toNat default).At]))))))), (7, (.v (.one (.c (.int .i64 (a0.length : Int)))))), (8, (.v (.one (.c (.int .i64 (IntKind.i64.wrap (x3 + (1 : Int))))))))], [(7, (.lst (x4 ++ ([(a0.getD x3.toNat default).At])).length 1 (gl (csI .i64) (x4 ++ ([(a0.getD x3.toNat default).At])))))]⟩) (ob := True ∧ True ∧ True) (by kernel_rfl) ⟨trivial, trivial, trivial⟩ ?_
    exact loopQ_normal (k, (IntKind.i64.wrap (x3 + (1 : Int))), (x4 ++ ([(a0.getD x3.toNat default).At]))) h (Nat.lt_succ_self k) (Sub.trans (Sub.swap 1 7 _ (by kernel_rfl) (by kernel_rfl)) (Sub.keep [0, 3, 7, 8] [1] (by kernel_rfl) (by kernel_rfl)))
  · refine AW.cond_f rfl b5 ?_
    refine AW.exit ?_
    refine thenQ_exit ?_
    refine loopQ_exit ?_
    refine blockQ_exit ?_
    refine thenQ_normal ?_
    refine AW.seq ?_
    refine AW.regionA [] [2] [1] (s' := ⟨[(2, (.v (.one (.lst 1 x4.length 1 (gl (csI .i64) x4)))))], [(1, (.lst x4.length 1 (gl (csI .i64) x4)))]⟩) (ob := True ∧ True ∧ True) (by kernel_rfl) ⟨trivial, trivial, trivial⟩ ?_
    refine thenQ_normal ?_
    refine AW.ret ?_
    replace h := some_eq h
    subst h
    exact ⟨.inr rfl, retOK_of [(.one (.lst 1 x4.length 1 (gl (csI .i64) x4)))] (by kernel_rfl) ⟨rfl, trivial⟩ (of_decide_eq_true (by kernel_rfl))⟩

/-! spec.l05Is -/
def spec_l05Is_l1 (K : Nat) (a0 : Clip) : Nat → Int → Option (Bool)
  | 0, _ => none
  | k + 1, x12 => ite2 ((decide (x12 < (a0.Tracks.length : Int)))) (chk (0 ≤ x12 ∧ x12 < (a0.Tracks.length : Int)) ((spec_l05At K (a0.Tracks.getD x12.toNat default)).bind fun v15 => (spec_l05Times K v15 a0.Length).bind fun v17 => ite2 ((!v17)) (some false) (spec_l05Is_l1 K a0 k (IntKind.i64.wrap (x12 + (1 : Int)))))) ((spec_l05RootAt K a0.Roots).bind fun v20 => (spec_l05Times K v20 a0.Length).bind fun v22 => some v22)

def spec_l05Is (K : Nat) (a0 : Clip) : Option (Bool) :=
  (spec_l00In K a0.Length (1 : Int) (1000 : Int)).bind fun v1 => (ite2 ((!v1)) (some true) ((spec_l00In K a0.Kind (0 : Int) (2 : Int)).bind fun v4 => ite2 ((!v4)) (some true) (ite2 ((decide ((a0.Tracks.length : Int) < (1 : Int)))) (some true) (some (decide ((a0.Tracks.length : Int) > (12 : Int))))))).bind fun j8 => ite2 (j8) (some false) (spec_l05Is_l1 K a0 K (0 : Int))

theorem ok_spec_l05Is (K : Nat) (a0 : Clip) (o : (Bool)) (h : spec_l05Is K a0 = some o) : CallOK Try.prog 60 [.one (pl 4 cs_Clip a0)] [.one (.bool o)] := by
  refine callOK_of_AW Try.func60 rfl (by kernel_rfl) (Nat.le_of_ble_eq_true (by kernel_rfl)) ?_
  intro w0
  unfold spec_l05Is at h
  refine AW.seq ?_
  refine AW.regionA [] [0] [] (s' := ⟨[(0, (.v (.one (.c (pl 4 cs_Clip a0)))))], []⟩) (ob := True ∧ True) (by kernel_rfl) ⟨trivial, trivial⟩ ?_
  refine thenQ_normal ?_
  refine AW.seq ?_
  refine AW.seq ?_
  obtain ⟨v1, e2, h⟩ := bind_some h
  obtain ⟨j8, e9, h⟩ := bind_some h
  refine AW.join1 (s2 := ⟨[(0, (.v (.one (.c (pl 4 cs_Clip a0))))), (33, (.v (.one (.c (.bool j8)))))], []⟩) ?_ ?_
  · rcases ite2_cases e9 with ⟨b3, e9⟩ | ⟨b3, e9⟩
    · replace e9 := some_eq e9
      subst e9
      exact AW.regionA [.no, .no, .no, .no, .call [.one (.int .i64 a0.Length), .one (.int .i64 (1 : Int)), .one (.int .i64 (1000 : Int))] [.one (.bool v1)] [[.view]], .no, .dec true] [0, 33] [] (s' := ⟨[(0, (.v (.one (.c (pl 4 cs_Clip a0))))), (33, (.v (.one (.c (.bool true)))))], []⟩) (ob := True ∧ True ∧ True ∧ True ∧ (((((.int .i64 a0.Length) : C) = (.int .i64 a0.Length)) ∧ (((.int .i64 (1 : Int)) : C) = (.int .i64 (1 : Int))) ∧ (((.int .i64 (1000 : Int)) : C) = (.int .i64 (1000 : Int))) ∧ True) ∧ CallOK Try.prog 74 [.one (.int .i64 a0.Length), .one (.int .i64 (1 : Int)), .one (.int .i64 (1000 : Int))] [.one (.bool v1)]) ∧ True ∧ (True ∧ (!v1) = true) ∧ True ∧ True ∧ True ∧ True ∧ True ∧ True ∧ True ∧ True ∧ True ∧ True ∧ True ∧ True ∧ True ∧ True ∧ True ∧ True ∧ True ∧ True ∧ True ∧ True ∧ True ∧ True ∧ True ∧ True) (by kernel_rfl) ⟨trivial, trivial, trivial, trivial, ⟨⟨rfl, rfl, rfl, trivial⟩, ok_spec_l00In K a0.Length (1 : Int) (1000 : Int) v1 e2⟩, trivial, ⟨trivial, b3⟩, trivial, trivial, trivial, trivial, trivial, trivial, trivial, trivial, trivial, trivial, trivial, trivial, trivial, trivial, trivial, trivial, trivial, trivial, trivial, trivial, trivial, trivial, trivial, trivial⟩ ⟨rfl, rfl⟩
    · obtain ⟨v4, e5, e9⟩ := bind_some e9
      rcases ite2_cases e9 with ⟨b6, e9⟩ | ⟨b6, e9⟩
      · replace e9 := some_eq e9
        subst e9
        exact AW.regionA [.no, .no, .no, .no, .call [.one (.int .i64 a0.Length), .one (.int .i64 (1 : Int)), .one (.int .i64 (1000 : Int))] [.one (.bool v1)] [[.view]], .no, .dec false, .no, .no, .no, .no, .call [.one (.int .i64 a0.Kind), .one (.int .i64 (0 : Int)), .one (.int .i64 (2 : Int))] [.one (.bool v4)] [[.view]], .no, .no, .dec true] [0, 33] [] (s' := ⟨[(0, (.v (.one (.c (pl 4 cs_Clip a0))))), (33, (.v (.one (.c (.bool true)))))], []⟩) (ob := True ∧ True ∧ True ∧ True ∧ (((((.int .i64 a0.Length) : C) = (.int .i64 a0.Length)) ∧ (((.int .i64 (1 : Int)) : C) = (.int .i64 (1 : Int))) ∧ (((.int .i64 (1000 : Int)) : C) = (.int .i64 (1000 : Int))) ∧ True) ∧ CallOK Try.prog 74 [.one (.int .i64 a0.Length), .one (.int .i64 (1 : Int)), .one (.int .i64 (1000 : Int))] [.one (.bool v1)]) ∧ True ∧ (True ∧ (!v1) = false) ∧ True ∧ True ∧ True ∧ True ∧ (((((.int .i64 a0.Kind) : C) = (.int .i64 a0.Kind)) ∧ (((.int .i64 (0 : Int)) : C) = (.int .i64 (0 : Int))) ∧ (((.int .i64 (2 : Int)) : C) = (.int .i64 (2 : Int))) ∧ True) ∧ CallOK Try.prog 74 [.one (.int .i64 a0.Kind), .one (.int .i64 (0 : Int)), .one (.int .i64 (2 : Int))] [.one (.bool v4)]) ∧ True ∧ True ∧ (True ∧ (!v4) = true) ∧ True ∧ True ∧ True ∧ True ∧ True ∧ True ∧ True ∧ True ∧ True ∧ True ∧ True ∧ True ∧ True ∧ True ∧ True ∧ True) (by kernel_rfl) ⟨trivial, trivial, trivial, trivial, ⟨⟨rfl, rfl, rfl, trivial⟩, ok_spec_l00In K a0.Length (1 : Int) (1000 : Int) v1 e2⟩, trivial, ⟨trivial, b3⟩, trivial, trivial, trivial, trivial, ⟨⟨rfl, rfl, rfl, trivial⟩, ok_spec_l00In K a0.Kind (0 : Int) (2 : Int) v4 e5⟩, trivial, trivial, ⟨trivial, b6⟩, trivial, trivial, trivial, trivial, trivial, trivial, trivial, trivial, trivial, trivial, trivial, trivial, trivial, trivial, trivial, trivial⟩ ⟨rfl, rfl⟩
      · rcases ite2_cases e9 with ⟨b7, e9⟩ | ⟨b7, e9⟩
        · replace e9 := some_eq e9
          subst e9
          exact AW.regionA [.no, .no, .no, .no, .call [.one (.int .i64 a0.Length), .one (.int .i64 (1 : Int)), .one (.int .i64 (1000 : Int))] [.one (.bool v1)] [[.view]], .no, .dec false, .no, .no, .no, .no, .call [.one (.int .i64 a0.Kind), .one (.int .i64 (0 : Int)), .one (.int .i64 (2 : Int))] [.one (.bool v4)] [[.view]], .no, .no, .dec false, .no, .no, .no, .no, .no, .no, .no, .dec true] [0, 33] [] (s' := ⟨[(0, (.v (.one (.c (pl 4 cs_Clip a0))))), (33, (.v (.one (.c (.bool true)))))], []⟩) (ob := True ∧ True ∧ True ∧ True ∧ (((((.int .i64 a0.Length) : C) = (.int .i64 a0.Length)) ∧ (((.int .i64 (1 : Int)) : C) = (.int .i64 (1 : Int))) ∧ (((.int .i64 (1000 : Int)) : C) = (.int .i64 (1000 : Int))) ∧ True) ∧ CallOK Try.prog 74 [.one (.int .i64 a0.Length), .one (.int .i64 (1 : Int)), .one (.int .i64 (1000 : Int))] [.one (.bool v1)]) ∧ True ∧ (True ∧ (!v1) = false) ∧ True ∧ True ∧ True ∧ True ∧ (((((.int .i64 a0.Kind) : C) = (.int .i64 a0.Kind)) ∧ (((.int .i64 (0 : Int)) : C) = (.int .i64 (0 : Int))) ∧ (((.int .i64 (2 : Int)) : C) = (.int .i64 (2 : Int))) ∧ True) ∧ CallOK Try.prog 74 [.one (.int .i64 a0.Kind), .one (.int .i64 (0 : Int)), .one (.int .i64 (2 : Int))] [.one (.bool v4)]) ∧ True ∧ True ∧ (True ∧ (!v4) = false) ∧ True ∧ True ∧ True ∧ True ∧ True ∧ True ∧ True ∧ (True ∧ (decide ((a0.Tracks.length : Int) < (1 : Int))) = true) ∧ True ∧ True ∧ True ∧ True ∧ True ∧ True ∧ True ∧ True) (by kernel_rfl) ⟨trivial, trivial, trivial, trivial, ⟨⟨rfl, rfl, rfl, trivial⟩, ok_spec_l00In K a0.Length (1 : Int) (1000 : Int) v1 e2⟩, trivial, ⟨trivial, b3⟩, trivial, trivial, trivial, trivial, ⟨⟨rfl, rfl, rfl, trivial⟩, ok_spec_l00In K a0.Kind (0 : Int) (2 : Int) v4 e5⟩, trivial, trivial, ⟨trivial, b6⟩, trivial, trivial, trivial, trivial, trivial, trivial, trivial, ⟨trivial, b7⟩, trivial, trivial, trivial, trivial, trivial, trivial, trivial, trivial⟩ ⟨rfl, rfl⟩
        · replace e9 := some_eq e9
          subst e9
          exact AW.regionA [.no, .no, .no, .no, .call [.one (.int .i64 a0.Length), .one (.int .i64 (1 : Int)), .one (.int .i64 (1000 : Int))] [.one (.bool v1)] [[.view]], .no, .dec false, .no, .no, .no, .no, .call [.one (.int .i64 a0.Kind), .one (.int .i64 (0 : Int)), .one (.int .i64 (2 : Int))] [.one (.bool v4)] [[.view]], .no, .no, .dec false, .no, .no, .no, .no, .no, .no, .no, .dec false] [0, 33] [] (s' := ⟨[(0, (.v (.one (.c (pl 4 cs_Clip a0))))), (33, (.v (.one (.c (.bool (decide ((a0.Tracks.length : Int) > (12 : Int))))))))], []⟩) (ob := True ∧ True ∧ True ∧ True ∧ (((((.int .i64 a0.Length) : C) = (.int .i64 a0.Length)) ∧ (((.int .i64 (1 : Int)) : C) = (.int .i64 (1 : Int))) ∧ (((.int .i64 (1000 : Int)) : C) = (.int .i64 (1000 : Int))) ∧ True) ∧ CallOK Try.prog 74 [.one (.int .i64 a0.Length), .one (.int .i64 (1 : Int)), .one (.int .i64 (1000 : Int))] [.one (.bool v1)]) ∧ True ∧ (True ∧ (!v1) = false) ∧ True ∧ True ∧ True ∧ True ∧ (((((.int .i64 a0.Kind) : C) = (.int .i64 a0.Kind)) ∧ (((.int .i64 (0 : Int)) : C) = (.int .i64 (0 : Int))) ∧ (((.int .i64 (2 : Int)) : C) = (.int .i64 (2 : Int))) ∧ True) ∧ CallOK Try.prog 74 [.one (.int .i64 a0.Kind), .one (.int .i64 (0 : Int)), .one (.int .i64 (2 : Int))] [.one (.bool v4)]) ∧ True ∧ True ∧ (True ∧ (!v4) = false) ∧ True ∧ True ∧ True ∧ True ∧ True ∧ True ∧ True ∧ (True ∧ (decide ((a0.Tracks.length : Int) < (1 : Int))) = false) ∧ True ∧ True ∧ True ∧ True ∧ True ∧ True ∧ True ∧ True) (by kernel_rfl) ⟨trivial, trivial, trivial, trivial, ⟨⟨rfl, rfl, rfl, trivial⟩, ok_spec_l00In K a0.Length (1 : Int) (1000 : Int) v1 e2⟩, trivial, ⟨trivial, b3⟩, trivial, trivial, trivial, trivial, ⟨⟨rfl, rfl, rfl, trivial⟩, ok_spec_l00In K a0.Kind (0 : Int) (2 : Int) v4 e5⟩, trivial, trivial, ⟨trivial, b6⟩, trivial, trivial, trivial, trivial, trivial, trivial, trivial, ⟨trivial, b7⟩, trivial, trivial, trivial, trivial, trivial, trivial, trivial, trivial⟩ ⟨rfl, rfl⟩
  refine thenQ_normal ?_
  rcases ite2_cases h with ⟨b10, h⟩ | ⟨b10, h⟩
  · refine AW.cond_t rfl b10 ?_
    refine AW.seq ?_
    refine AW.regionA [] [2] [] (s' := ⟨[(2, (.v (.one (.c (.bool false)))))], []⟩) (ob := True ∧ True) (by kernel_rfl) ⟨trivial, trivial⟩ ?_
    refine thenQ_normal ?_
    refine AW.ret ?_
    refine thenQ_ret ?_
    replace h := some_eq h
    subst h
    exact ⟨.inr rfl, retOK_of [(.one (.c (.bool false)))] (by kernel_rfl) ⟨⟨rfl, trivial⟩, trivial⟩ (of_decide_eq_true (by kernel_rfl))⟩
  · refine AW.cond_f rfl b10 ?_
    refine AW.skip ?_
    refine thenQ_normal ?_
    refine AW.seq ?_
    refine AW.seq ?_
    refine AW.regionA [] [0, 38, 39] [] (s' := ⟨[(0, (.v (.one (.c (pl 4 cs_Clip a0))))), (38, (.v (.one (.c (.int .i64 (a0.Tracks.length : Int)))))), (39, (.v (.one (.c (.int .i64 (0 : Int))))))], []⟩) (ob := True ∧ True ∧ True ∧ True ∧ True ∧ True ∧ True) (by kernel_rfl) ⟨trivial, trivial, trivial, trivial, trivial, trivial, trivial⟩ ?_
    refine thenQ_normal ?_
    refine AW.block ?_
    refine AW.loopQ (σ := Nat × Int) (fun p => ⟨[(0, (.v (.one (.c (pl 4 cs_Clip a0))))), (38, (.v (.one (.c (.int .i64 (a0.Tracks.length : Int)))))), (39, (.v (.one (.c (.int .i64 p.2)))))], []⟩) (fun p => spec_l05Is_l1 K a0 p.1 p.2 = some o) (fun p => p.1) (K, (0 : Int)) h ?_
    clear h
    rintro ⟨k, x12⟩ h
    replace h : spec_l05Is_l1 K a0 k x12 = some o := h
    show AW _ _ (⟨[(0, (.v (.one (.c (pl 4 cs_Clip a0))))), (38, (.v (.one (.c (.int .i64 (a0.Tracks.length : Int)))))), (39, (.v (.one (.c (.int .i64 x12)))))], []⟩ : St) _
    obtain _ | k := k
    · rw [spec_l05Is_l1] at h; cases h
    rw [spec_l05Is_l1] at h
    refine AW.seq ?_
    refine AW.regionA [] [0, 38, 39, 40] [] (s' := ⟨[(0, (.v (.one (.c (pl 4 cs_Clip a0))))), (38, (.v (.one (.c (.int .i64 (a0.Tracks.length : Int)))))), (39, (.v (.one (.c (.int .i64 x12))))), (40, (.v (.one (.c (.bool (decide (x12 < (a0.Tracks.length : Int))))))))], []⟩) (ob := True ∧ True) (by kernel_rfl) ⟨trivial, trivial⟩ ?_
    refine thenQ_normal ?_
    refine AW.seq ?_
    rcases ite2_cases h with ⟨b13, h⟩ | ⟨b13, h⟩
    · refine AW.cond_t rfl b13 ?_
      refine AW.skip ?_
      refine thenQ_normal ?_
      refine AW.seq ?_
      refine AW.block ?_
      refine AW.seq ?_
      refine AW.regionA [] [0, 3, 38, 39] [] (s' := ⟨[(0, (.v (.one (.c (pl 4 cs_Clip a0))))), (3, (.v (.one (.c (.int .i64 x12))))), (38, (.v (.one (.c (.int .i64 (a0.Tracks.length : Int)))))), (39, (.v (.one (.c (.int .i64 x12)))))], []⟩) (ob := True ∧ True ∧ True) (by kernel_rfl) ⟨trivial, trivial, trivial⟩ ?_
      refine thenQ_normal ?_
      refine AW.seq ?_
      obtain ⟨c14, h⟩ := chk_some h
      obtain ⟨v15, e16, h⟩ := bind_some h
      obtain ⟨v17, e18, h⟩ := bind_some h
      refine AW.drawnA (by kernel_rfl) 14 [.no, .no, .no, .no, .no, .no, .no, .call [.one (sl 5 cs_Key (a0.Tracks.getD x12.toNat default))] [.one (sl 1 (csI .i64) v15)] [[.lst 3]], .no, .no, .no, .no, .call [.one (sl 1 (csI .i64) v15), .one (.int .i64 a0.Length)] [.one (.bool v17)] [[.view]]] [0, 38, 39, 55] [] (s' := ⟨[(0, (.v (.one (.c (pl 4 cs_Clip a0))))), (38, (.v (.one (.c (.int .i64 (a0.Tracks.length : Int)))))), (39, (.v (.one (.c (.int .i64 x12))))), (55, (.v (.one (.c (.bool (!v17))))))], []⟩) (ob := (True ∧ True ∧ True ∧ True ∧ True ∧ (0 ≤ x12 ∧ x12 < (a0.Tracks.length : Int)) ∧ True ∧ (((((sl 5 cs_Key (a0.Tracks.getD x12.toNat default)) : C) = (sl 5 cs_Key (a0.Tracks.getD x12.toNat default))) ∧ True) ∧ CallOK Try.prog 135 [.one (sl 5 cs_Key (a0.Tracks.getD x12.toNat default))] [.one (sl 1 (csI .i64) v15)]) ∧ True ∧ True ∧ True ∧ True ∧ (((((sl 1 (csI .i64) v15) : C) = (sl 1 (csI .i64) v15)) ∧ (((.int .i64 a0.Length) : C) = (.int .i64 a0.Length)) ∧ True) ∧ CallOK Try.prog 134 [.one (sl 1 (csI .i64) v15), .one (.int .i64 a0.Length)] [.one (.bool v17)]) ∧ True ∧ True) ∧ (True)) (by kernel_rfl) ⟨⟨trivial, trivial, trivial, trivial, trivial, c14, trivial, ⟨⟨rfl, trivial⟩, ok_spec_l05At K (a0.Tracks.getD x12.toNat default) v15 e16⟩, trivial, trivial, trivial, trivial, ⟨⟨rfl, rfl, trivial⟩, ok_spec_l05Times K v15 a0.Length v17 e18⟩, trivial, trivial⟩, trivial⟩ ?_
      refine thenQ_normal ?_
      rcases ite2_cases h with ⟨b19, h⟩ | ⟨b19, h⟩
      · refine AW.cond_t rfl b19 ?_
        refine AW.seq ?_
        refine AW.regionA [] [2] [] (s' := ⟨[(2, (.v (.one (.c (.bool false)))))], []⟩) (ob := True ∧ True) (by kernel_rfl) ⟨trivial, trivial⟩ ?_
        refine thenQ_normal ?_
        refine AW.ret ?_
        refine blockQ_ret ?_
        refine thenQ_ret ?_
        refine loopQ_ret ?_
        refine blockQ_ret ?_
        refine thenQ_ret ?_
        replace h := some_eq h
        subst h
        exact ⟨.inr rfl, retOK_of [(.one (.c (.bool false)))] (by kernel_rfl) ⟨⟨rfl, trivial⟩, trivial⟩ (of_decide_eq_true (by kernel_rfl))⟩
      · refine AW.cond_f rfl b19 ?_
        refine AW.skip ?_
        refine blockQ_normal ?_
        refine thenQ_normal ?_
        refine AW.regionA [] [0, 38, 39] [] (s' := ⟨[(0, (.v (.one (.c (pl 4 cs_Clip a0))))), (38, (.v (.one (.c (.int .i64 (a0.Tracks.length : Int)))))), (39, (.v (.one (.c (.int .i64 (IntKind.i64.wrap (x12 + (1 : Int))))))))], []⟩) (ob := True ∧ True ∧ True) (by kernel_rfl) ⟨trivial, trivial, trivial⟩ ?_
        exact loopQ_normal (k, (IntKind.i64.wrap (x12 + (1 : Int)))) h (Nat.lt_succ_self k) (Sub.keep [0, 38, 39] [] (by kernel_rfl) (by kernel_rfl))
    · refine AW.cond_f rfl b13 ?_
      refine AW.exit ?_
      refine thenQ_exit ?_
      refine loopQ_exit ?_
      refine blockQ_exit ?_
      refine thenQ_normal ?_
      refine AW.seq ?_
      obtain ⟨v20, e21, h⟩ := bind_some h
      obtain ⟨v22, e23, h⟩ := bind_some h
      refine AW.drawnA (by kernel_rfl) 11 [.no, .no, .no, .no, .call [.one (sl 4 cs_RootKey a0.Roots)] [.one (sl 1 (csI .i64) v20)] [[.lst 4]], .no, .no, .no, .no, .call [.one (sl 1 (csI .i64) v20), .one (.int .i64 a0.Length)] [.one (.bool v22)] [[.view]]] [2] [] (s' := ⟨[(2, (.v (.one (.c (.bool v22)))))], []⟩) (ob := (True ∧ True ∧ True ∧ True ∧ (((((sl 4 cs_RootKey a0.Roots) : C) = (sl 4 cs_RootKey a0.Roots)) ∧ True) ∧ CallOK Try.prog 136 [.one (sl 4 cs_RootKey a0.Roots)] [.one (sl 1 (csI .i64) v20)]) ∧ True ∧ True ∧ True ∧ True ∧ (((((sl 1 (csI .i64) v20) : C) = (sl 1 (csI .i64) v20)) ∧ (((.int .i64 a0.Length) : C) = (.int .i64 a0.Length)) ∧ True) ∧ CallOK Try.prog 134 [.one (sl 1 (csI .i64) v20), .one (.int .i64 a0.Length)] [.one (.bool v22)]) ∧ True ∧ True) ∧ (True)) (by kernel_rfl) ⟨⟨trivial, trivial, trivial, trivial, ⟨⟨rfl, trivial⟩, ok_spec_l05RootAt K a0.Roots v20 e21⟩, trivial, trivial, trivial, trivial, ⟨⟨rfl, rfl, trivial⟩, ok_spec_l05Times K v20 a0.Length v22 e23⟩, trivial, trivial⟩, trivial⟩ ?_
      refine thenQ_normal ?_
      refine AW.ret ?_
      replace h := some_eq h
      subst h
      exact ⟨.inr rfl, retOK_of [(.one (.c (.bool v22)))] (by kernel_rfl) ⟨⟨rfl, trivial⟩, trivial⟩ (of_decide_eq_true (by kernel_rfl))⟩

/-! spec.StretchClip -/
def spec_StretchClip_l5 (K : Nat) (a0 : Clip) (a1 : Int) (x12 : Int) : Nat → Int → (List Key) → Option ((List Key))
  | 0, _, _ => none
  | k + 1, x28, x29 => ite2 ((decide (x28 < ((a0.Tracks.getD x12.toNat default).length : Int)))) (chk (0 ≤ x12 ∧ x12 < (a0.Tracks.length : Int)) (chk (0 ≤ x28 ∧ x28 < ((a0.Tracks.getD x12.toNat default).length : Int)) (chk ((x29.length + ([(Key.mk (IntKind.i64.wrap ((((a0.Tracks.getD x12.toNat default).getD x28.toNat default).At) * a1)) (((a0.Tracks.getD x12.toNat default).getD x28.toNat default).Turn))]).length) * 24 ≤ 140737488355328) (spec_StretchClip_l5 K a0 a1 x12 k (IntKind.i64.wrap (x28 + (1 : Int))) (x29 ++ ([(Key.mk (IntKind.i64.wrap ((((a0.Tracks.getD x12.toNat default).getD x28.toNat default).At) * a1)) (((a0.Tracks.getD x12.toNat default).getD x28.toNat default).Turn))])))))) (some x29)

def spec_StretchClip_l6 (K : Nat) (a0 : Clip) (a1 : Int) (x13 : (List (List Key))) : Nat → Int → (List RootKey) → Option (Clip × Bool)
  | 0, _, _ => none
  | k + 1, x37, x38 => ite2 ((decide (x37 < (a0.Roots.length : Int)))) (chk (0 ≤ x37 ∧ x37 < (a0.Roots.length : Int)) (chk ((x38.length + ([(RootKey.mk (IntKind.i64.wrap (((a0.Roots.getD x37.toNat default).At) * a1)) ((a0.Roots.getD x37.toNat default).Place))]).length) * 24 ≤ 140737488355328) (spec_StretchClip_l6 K a0 a1 x13 k (IntKind.i64.wrap (x37 + (1 : Int))) (x38 ++ ([(RootKey.mk (IntKind.i64.wrap (((a0.Roots.getD x37.toNat default).At) * a1)) ((a0.Roots.getD x37.toNat default).Place))]))))) (some ((Clip.mk (IntKind.i64.wrap (a0.Length * a1)) a0.Kind x13 x38), true))

def spec_StretchClip_l4 (K : Nat) (a0 : Clip) (a1 : Int) : Nat → Int → (List (List Key)) → Option (Clip × Bool)
  | 0, _, _ => none
  | k + 1, x12, x13 => ite2 ((decide (x12 < (a0.Tracks.length : Int)))) (chk (0 ≤ x12 ∧ x12 < (a0.Tracks.length : Int)) ((spec_StretchClip_l5 K a0 a1 x12 K (0 : Int) ([] : List Key)).bind fun j24 => chk ((x13.length + ([j24]).length) * 24 ≤ 140737488355328) (spec_StretchClip_l4 K a0 a1 k (IntKind.i64.wrap (x12 + (1 : Int))) (x13 ++ ([j24]))))) (spec_StretchClip_l6 K a0 a1 x13 K (0 : Int) ([] : (List RootKey)))

def spec_StretchClip (K : Nat) (a0 : Clip) (a1 : Int) : Option (Clip × Bool) :=
  (spec_l05Is K a0).bind fun v1 => (ite2 ((!v1)) (some true) ((spec_l00In K a1 (1 : Int) (100 : Int)).bind fun v4 => ite2 ((!v4)) (some true) (some (decide ((IntKind.i64.wrap (a0.Length * a1)) > (1000 : Int)))))).bind fun j7 => ite2 (j7) (some ((Clip.mk (0 : Int) (0 : Int) ([] : (List (List Key))) ([] : (List RootKey))), false)) (spec_StretchClip_l4 K a0 a1 K (0 : Int) ([] : (List (List Key))))

theorem ok_spec_StretchClip (K : Nat) (a0 : Clip) (a1 : Int) (o : (Clip × Bool)) (h : spec_StretchClip K a0 a1 = some o) : CallOK Try.prog 18 [.agg (cs_Clip a0), .one (.int .i64 a1)] [.agg (cs_Clip o.1), .one (.bool o.2)] := by
  refine callOK_of_AW Try.func18 rfl (by kernel_rfl) (Nat.le_of_ble_eq_true (by kernel_rfl)) ?_
  intro w0
  unfold spec_StretchClip at h
  refine AW.seq ?_
  refine AW.regionA [.box 1, .box 2] [1, 2, 4] [1, 2] (s' := ⟨[(1, (.v (.one (.c (.int .i64 a1))))), (2, (.v (.one (.ptr 1 0)))), (4, (.v (.one (.ptr 2 0))))], [(1, (.box [(.c (.int .i64 a0.Length)), (.c (.int .i64 a0.Kind)), (.c (sl 1 (csL 5 cs_Key) a0.Tracks)), (.c (sl 4 cs_RootKey a0.Roots))])), (2, (.box [(.c (.int .i64 (0 : Int))), (.c (.int .i64 (0 : Int))), .nils, .nils]))]⟩) (ob := True ∧ True ∧ True ∧ True) (by kernel_rfl) ⟨trivial, trivial, trivial, trivial⟩ ?_
  refine thenQ_normal ?_
  refine AW.seq ?_
  refine AW.seq ?_
  obtain ⟨v1, e2, h⟩ := bind_some h
  obtain ⟨j7, e8, h⟩ := bind_some h
  refine AW.join1 (s2 := ⟨[(1, (.v (.one (.c (.int .i64 a1))))), (2, (.v (.one (.ptr 1 0)))), (4, (.v (.one (.ptr 2 0)))), (24, (.v (.one (.c (.bool j7)))))], [(1, (.box [(.c (.int .i64 a0.Length)), (.c (.int .i64 a0.Kind)), (.c (sl 1 (csL 5 cs_Key) a0.Tracks)), (.c (sl 4 cs_RootKey a0.Roots))])), (2, (.box [(.c (.int .i64 (0 : Int))), (.c (.int .i64 (0 : Int))), .nils, .nils]))]⟩) ?_ ?_
  · rcases ite2_cases e8 with ⟨b3, e8⟩ | ⟨b3, e8⟩
    · replace e8 := some_eq e8
      subst e8
      exact AW.regionA [.call [.one (pl 4 cs_Clip a0)] [.one (.bool v1)] [[.view]], .no, .dec true] [1, 2, 4, 24] [1, 2] (s' := ⟨[(1, (.v (.one (.c (.int .i64 a1))))), (2, (.v (.one (.ptr 1 0)))), (4, (.v (.one (.ptr 2 0)))), (24, (.v (.one (.c (.bool true)))))], [(1, (.box [(.c (.int .i64 a0.Length)), (.c (.int .i64 a0.Kind)), (.c (sl 1 (csL 5 cs_Key) a0.Tracks)), (.c (sl 4 cs_RootKey a0.Roots))])), (2, (.box [(.c (.int .i64 (0 : Int))), (.c (.int .i64 (0 : Int))), .nils, .nils]))]⟩) (ob := (((0 = 0 ∧ (((.int .i64 a0.Length) : C) = (.int .i64 a0.Length)) ∧ (((.int .i64 a0.Kind) : C) = (.int .i64 a0.Kind)) ∧ (((sl 1 (csL 5 cs_Key) a0.Tracks) : C) = (sl 1 (csL 5 cs_Key) a0.Tracks)) ∧ (((sl 4 cs_RootKey a0.Roots) : C) = (sl 4 cs_RootKey a0.Roots)) ∧ True) ∧ True) ∧ CallOK Try.prog 60 [.one (pl 4 cs_Clip a0)] [.one (.bool v1)]) ∧ True ∧ (True ∧ (!v1) = true) ∧ True ∧ True ∧ True ∧ True ∧ True ∧ True ∧ True ∧ True ∧ True ∧ True ∧ True ∧ True) (by kernel_rfl) ⟨⟨⟨⟨rfl, rfl, rfl, rfl, rfl, trivial⟩, trivial⟩, ok_spec_l05Is K a0 v1 e2⟩, trivial, ⟨trivial, b3⟩, trivial, trivial, trivial, trivial, trivial, trivial, trivial, trivial, trivial, trivial, trivial, trivial⟩ ⟨rfl, rfl⟩
    · obtain ⟨v4, e5, e8⟩ := bind_some e8
      rcases ite2_cases e8 with ⟨b6, e8⟩ | ⟨b6, e8⟩
      · replace e8 := some_eq e8
        subst e8
        exact AW.regionA [.call [.one (pl 4 cs_Clip a0)] [.one (.bool v1)] [[.view]], .no, .dec false, .no, .call [.one (.int .i64 a1), .one (.int .i64 (1 : Int)), .one (.int .i64 (100 : Int))] [.one (.bool v4)] [[.view]], .no, .no, .dec true] [1, 2, 4, 24] [1, 2] (s' := ⟨[(1, (.v (.one (.c (.int .i64 a1))))), (2, (.v (.one (.ptr 1 0)))), (4, (.v (.one (.ptr 2 0)))), (24, (.v (.one (.c (.bool true)))))], [(1, (.box [(.c (.int .i64 a0.Length)), (.c (.int .i64 a0.Kind)), (.c (sl 1 (csL 5 cs_Key) a0.Tracks)), (.c (sl 4 cs_RootKey a0.Roots))])), (2, (.box [(.c (.int .i64 (0 : Int))), (.c (.int .i64 (0 : Int))), .nils, .nils]))]⟩) (ob := (((0 = 0 ∧ (((.int .i64 a0.Length) : C) = (.int .i64 a0.Length)) ∧ (((.int .i64 a0.Kind) : C) = (.int .i64 a0.Kind)) ∧ (((sl 1 (csL 5 cs_Key) a0.Tracks) : C) = (sl 1 (csL 5 cs_Key) a0.Tracks)) ∧ (((sl 4 cs_RootKey a0.Roots) : C) = (sl 4 cs_RootKey a0.Roots)) ∧ True) ∧ True) ∧ CallOK Try.prog 60 [.one (pl 4 cs_Clip a0)] [.one (.bool v1)]) ∧ True ∧ (True ∧ (!v1) = false) ∧ True ∧ (((((.int .i64 a1) : C) = (.int .i64 a1)) ∧ (((.int .i64 (1 : Int)) : C) = (.int .i64 (1 : Int))) ∧ (((.int .i64 (100 : Int)) : C) = (.int .i64 (100 : Int))) ∧ True) ∧ CallOK Try.prog 74 [.one (.int .i64 a1), .one (.int .i64 (1 : Int)), .one (.int .i64 (100 : Int))] [.one (.bool v4)]) ∧ True ∧ True ∧ (True ∧ (!v4) = true) ∧ True ∧ True ∧ True ∧ True ∧ True ∧ True ∧ True) (by kernel_rfl) ⟨⟨⟨⟨rfl, rfl, rfl, rfl, rfl, trivial⟩, trivial⟩, ok_spec_l05Is K a0 v1 e2⟩, trivial, ⟨trivial, b3⟩, trivial, ⟨⟨rfl, rfl, rfl, trivial⟩, ok_spec_l00In K a1 (1 : Int) (100 : Int) v4 e5⟩, trivial, trivial, ⟨trivial, b6⟩, trivial, trivial, trivial, trivial, trivial, trivial, trivial⟩ ⟨rfl, rfl⟩
      · replace e8 := some_eq e8
        subst e8
        exact AW.regionA [.call [.one (pl 4 cs_Clip a0)] [.one (.bool v1)] [[.view]], .no, .dec false, .no, .call [.one (.int .i64 a1), .one (.int .i64 (1 : Int)), .one (.int .i64 (100 : Int))] [.one (.bool v4)] [[.view]], .no, .no, .dec false] [1, 2, 4, 24] [1, 2] (s' := ⟨[(1, (.v (.one (.c (.int .i64 a1))))), (2, (.v (.one (.ptr 1 0)))), (4, (.v (.one (.ptr 2 0)))), (24, (.v (.one (.c (.bool (decide ((IntKind.i64.wrap (a0.Length * a1)) > (1000 : Int))))))))], [(1, (.box [(.c (.int .i64 a0.Length)), (.c (.int .i64 a0.Kind)), (.c (sl 1 (csL 5 cs_Key) a0.Tracks)), (.c (sl 4 cs_RootKey a0.Roots))])), (2, (.box [(.c (.int .i64 (0 : Int))), (.c (.int .i64 (0 : Int))), .nils, .nils]))]⟩) (ob := (((0 = 0 ∧ (((.int .i64 a0.Length) : C) = (.int .i64 a0.Length)) ∧ (((.int .i64 a0.Kind) : C) = (.int .i64 a0.Kind)) ∧ (((sl 1 (csL 5 cs_Key) a0.Tracks) : C) = (sl 1 (csL 5 cs_Key) a0.Tracks)) ∧ (((sl 4 cs_RootKey a0.Roots) : C) = (sl 4 cs_RootKey a0.Roots)) ∧ True) ∧ True) ∧ CallOK Try.prog 60 [.one (pl 4 cs_Clip a0)] [.one (.bool v1)]) ∧ True ∧ (True ∧ (!v1) = false) ∧ True ∧ (((((.int .i64 a1) : C) = (.int .i64 a1)) ∧ (((.int .i64 (1 : Int)) : C) = (.int .i64 (1 : Int))) ∧ (((.int .i64 (100 : Int)) : C) = (.int .i64 (100 : Int))) ∧ True) ∧ CallOK Try.prog 74 [.one (.int .i64 a1), .one (.int .i64 (1 : Int)), .one (.int .i64 (100 : Int))] [.one (.bool v4)]) ∧ True ∧ True ∧ (True ∧ (!v4) = false) ∧ True ∧ True ∧ True ∧ True ∧ True ∧ True ∧ True) (by kernel_rfl) ⟨⟨⟨⟨rfl, rfl, rfl, rfl, rfl, trivial⟩, trivial⟩, ok_spec_l05Is K a0 v1 e2⟩, trivial, ⟨trivial, b3⟩, trivial, ⟨⟨rfl, rfl, rfl, trivial⟩, ok_spec_l00In K a1 (1 : Int) (100 : Int) v4 e5⟩, trivial, trivial, ⟨trivial, b6⟩, trivial, trivial, trivial, trivial, trivial, trivial, trivial⟩ ⟨rfl, rfl⟩
  refine thenQ_normal ?_
  rcases ite2_cases h with ⟨b9, h⟩ | ⟨b9, h⟩
  · refine AW.cond_t rfl b9 ?_
    refine AW.seq ?_
    refine AW.regionA [] [4, 5] [2] (s' := ⟨[(4, (.v (.one (.ptr 2 0)))), (5, (.v (.one (.c (.bool false)))))], [(2, (.box [(.c (.int .i64 (0 : Int))), (.c (.int .i64 (0 : Int))), .nils, .nils]))]⟩) (ob := True ∧ True ∧ True ∧ True) (by kernel_rfl) ⟨trivial, trivial, trivial, trivial⟩ ?_
    refine thenQ_normal ?_
    refine AW.ret ?_
    refine thenQ_ret ?_
    replace h := some_eq h
    subst h
    exact ⟨.inr rfl, retOK_of [(.agg [(.c (.int .i64 (0 : Int))), (.c (.int .i64 (0 : Int))), .nils, .nils]), (.one (.c (.bool false)))] (by kernel_rfl) ⟨⟨⟨rfl, trivial⟩, ⟨rfl, trivial⟩, rfl, rfl, trivial⟩, ⟨rfl, trivial⟩, trivial⟩ (of_decide_eq_true (by kernel_rfl))⟩
  · refine AW.cond_f rfl b9 ?_
    refine AW.skip ?_
    refine thenQ_normal ?_
    refine AW.seq ?_
    refine AW.regionA [.no, .no, .no, .no, .no, .no, .no, .box 3] [1, 2, 4, 6] [1, 2, 3] (s' := ⟨[(1, (.v (.one (.c (.int .i64 a1))))), (2, (.v (.one (.ptr 1 0)))), (4, (.v (.one (.ptr 2 0)))), (6, (.v (.one (.ptr 3 0))))], [(1, (.box [(.c (.int .i64 a0.Length)), (.c (.int .i64 a0.Kind)), (.c (sl 1 (csL 5 cs_Key) a0.Tracks)), (.c (sl 4 cs_RootKey a0.Roots))])), (2, (.box [(.c (.int .i64 (0 : Int))), (.c (.int .i64 (0 : Int))), .nils, .nils])), (3, (.box [(.c (.int .i64 (IntKind.i64.wrap (a0.Length * a1)))), (.c (.int .i64 a0.Kind)), .nils, .nils]))]⟩) (ob := True ∧ True ∧ True ∧ True ∧ True ∧ True ∧ True ∧ True ∧ True ∧ True) (by kernel_rfl) ⟨trivial, trivial, trivial, trivial, trivial, trivial, trivial, trivial, trivial, trivial⟩ ?_
    refine thenQ_normal ?_
    refine AW.seq ?_
    refine AW.seq ?_
    refine AW.regionA [] [1, 2, 4, 6, 35, 36] [1, 2, 3] (s' := ⟨[(1, (.v (.one (.c (.int .i64 a1))))), (2, (.v (.one (.ptr 1 0)))), (4, (.v (.one (.ptr 2 0)))), (6, (.v (.one (.ptr 3 0)))), (35, (.v (.one (.c (.int .i64 (a0.Tracks.length : Int)))))), (36, (.v (.one (.c (.int .i64 (0 : Int))))))], [(1, (.box [(.c (.int .i64 a0.Length)), (.c (.int .i64 a0.Kind)), (.c (sl 1 (csL 5 cs_Key) a0.Tracks)), (.c (sl 4 cs_RootKey a0.Roots))])), (2, (.box [(.c (.int .i64 (0 : Int))), (.c (.int .i64 (0 : Int))), .nils, .nils])), (3, (.box [(.c (.int .i64 (IntKind.i64.wrap (a0.Length * a1)))), (.c (.int .i64 a0.Kind)), .nils, .nils]))]⟩) (ob := True ∧ True ∧ True ∧ True ∧ True) (by kernel_rfl) ⟨trivial, trivial, trivial, trivial, trivial⟩ ?_
    refine thenQ_normal ?_
    refine AW.block ?_
    refine AW.weak (s' := ⟨[(1, (.v (.one (.c (.int .i64 a1))))), (2, (.v (.one (.ptr 1 0)))), (4, (.v (.one (.ptr 2 0)))), (6, (.v (.one (.ptr 3 0)))), (35, (.v (.one (.c (.int .i64 (a0.Tracks.length : Int)))))), (36, (.v (.one (.c (.int .i64 (0 : Int))))))], [(1, (.box [(.c (.int .i64 a0.Length)), (.c (.int .i64 a0.Kind)), (.c (sl 1 (csL 5 cs_Key) a0.Tracks)), (.c (sl 4 cs_RootKey a0.Roots))])), (2, (.box [(.c (.int .i64 (0 : Int))), (.c (.int .i64 (0 : Int))), .nils, .nils])), (3, (.box [(.c (.int .i64 (IntKind.i64.wrap (a0.Length * a1)))), (.c (.int .i64 a0.Kind)), (.lst 19 ([] : (List (List Key))).length 1 (gl (csL 5 cs_Key) ([] : (List (List Key))))), .nils])), (19, (.lst ([] : (List (List Key))).length 1 (gl (csL 5 cs_Key) ([] : (List (List Key))))))]⟩) (Sub.trans (Sub.unnil 19 1 (gl (csL 5 cs_Key) ([] : (List (List Key)))) [] [(3, 2)] _ (by kernel_rfl) (by kernel_rfl)) (Sub.keep [1, 2, 4, 6, 35, 36] [1, 2, 3, 19] (by kernel_rfl) (by kernel_rfl))) ?_
    refine AW.loopQ (σ := Nat × Int × (List (List Key))) (fun p => ⟨[(1, (.v (.one (.c (.int .i64 a1))))), (2, (.v (.one (.ptr 1 0)))), (4, (.v (.one (.ptr 2 0)))), (6, (.v (.one (.ptr 3 0)))), (35, (.v (.one (.c (.int .i64 (a0.Tracks.length : Int)))))), (36, (.v (.one (.c (.int .i64 p.2.1)))))], [(1, (.box [(.c (.int .i64 a0.Length)), (.c (.int .i64 a0.Kind)), (.c (sl 1 (csL 5 cs_Key) a0.Tracks)), (.c (sl 4 cs_RootKey a0.Roots))])), (2, (.box [(.c (.int .i64 (0 : Int))), (.c (.int .i64 (0 : Int))), .nils, .nils])), (3, (.box [(.c (.int .i64 (IntKind.i64.wrap (a0.Length * a1)))), (.c (.int .i64 a0.Kind)), (.lst 19 p.2.2.length 1 (gl (csL 5 cs_Key) p.2.2)), .nils])), (19, (.lst p.2.2.length 1 (gl (csL 5 cs_Key) p.2.2)))]⟩) (fun p => spec_StretchClip_l4 K a0 a1 p.1 p.2.1 p.2.2 = some o) (fun p => p.1) (K, (0 : Int), ([] : (List (List Key)))) h ?_
    clear h
    rintro ⟨k, x12, x13⟩ h
    replace h : spec_StretchClip_l4 K a0 a1 k x12 x13 = some o := h
    show AW _ _ (⟨[(1, (.v (.one (.c (.int .i64 a1))))), (2, (.v (.one (.ptr 1 0)))), (4, (.v (.one (.ptr 2 0)))), (6, (.v (.one (.ptr 3 0)))), (35, (.v (.one (.c (.int .i64 (a0.Tracks.length : Int)))))), (36, (.v (.one (.c (.int .i64 x12)))))], [(1, (.box [(.c (.int .i64 a0.Length)), (.c (.int .i64 a0.Kind)), (.c (sl 1 (csL 5 cs_Key) a0.Tracks)), (.c (sl 4 cs_RootKey a0.Roots))])), (2, (.box [(.c (.int .i64 (0 : Int))), (.c (.int .i64 (0 : Int))), .nils, .nils])), (3, (.box [(.c (.int .i64 (IntKind.i64.wrap (a0.Length * a1)))), (.c (.int .i64 a0.Kind)), (.lst 19 x13.length 1 (gl (csL 5 cs_Key) x13)), .nils])), (19, (.lst x13.length 1 (gl (csL 5 cs_Key) x13)))]⟩ : St) _
    obtain _ | k := k
    · rw [spec_StretchClip_l4] at h; cases h
    rw [spec_StretchClip_l4] at h
    refine AW.seq ?_
    refine AW.regionA [] [1, 2, 4, 6, 35, 36, 37] [1, 2, 3, 19] (s' := ⟨[(1, (.v (.one (.c (.int .i64 a1))))), (2, (.v (.one (.ptr 1 0)))), (4, (.v (.one (.ptr 2 0)))), (6, (.v (.one (.ptr 3 0)))), (35, (.v (.one (.c (.int .i64 (a0.Tracks.length : Int)))))), (36, (.v (.one (.c (.int .i64 x12))))), (37, (.v (.one (.c (.bool (decide (x12 < (a0.Tracks.length : Int))))))))], [(1, (.box [(.c (.int .i64 a0.Length)), (.c (.int .i64 a0.Kind)), (.c (sl 1 (csL 5 cs_Key) a0.Tracks)), (.c (sl 4 cs_RootKey a0.Roots))])), (2, (.box [(.c (.int .i64 (0 : Int))), (.c (.int .i64 (0 : Int))), .nils, .nils])), (3, (.box [(.c (.int .i64 (IntKind.i64.wrap (a0.Length * a1)))), (.c (.int .i64 a0.Kind)), (.lst 19 x13.length 1 (gl (csL 5 cs_Key) x13)), .nils])), (19, (.lst x13.length 1 (gl (csL 5 cs_Key) x13)))]⟩) (ob := True ∧ True) (by kernel_rfl) ⟨trivial, trivial⟩ ?_
    refine thenQ_normal ?_
    refine AW.seq ?_
    rcases ite2_cases h with ⟨b14, h⟩ | ⟨b14, h⟩
    · refine AW.cond_t rfl b14 ?_
      refine AW.skip ?_
      refine thenQ_normal ?_
      refine AW.seq ?_
      refine AW.block ?_
      refine AW.seq ?_
      refine AW.regionA [] [1, 2, 4, 6, 7, 35, 36] [1, 2, 3, 19] (s' := ⟨[(1, (.v (.one (.c (.int .i64 a1))))), (2, (.v (.one (.ptr 1 0)))), (4, (.v (.one (.ptr 2 0)))), (6, (.v (.one (.ptr 3 0)))), (7, (.v (.one (.c (.int .i64 x12))))), (35, (.v (.one (.c (.int .i64 (a0.Tracks.length : Int)))))), (36, (.v (.one (.c (.int .i64 x12)))))], [(1, (.box [(.c (.int .i64 a0.Length)), (.c (.int .i64 a0.Kind)), (.c (sl 1 (csL 5 cs_Key) a0.Tracks)), (.c (sl 4 cs_RootKey a0.Roots))])), (2, (.box [(.c (.int .i64 (0 : Int))), (.c (.int .i64 (0 : Int))), .nils, .nils])), (3, (.box [(.c (.int .i64 (IntKind.i64.wrap (a0.Length * a1)))), (.c (.int .i64 a0.Kind)), (.lst 19 x13.length 1 (gl (csL 5 cs_Key) x13)), .nils])), (19, (.lst x13.length 1 (gl (csL 5 cs_Key) x13)))]⟩) (ob := True ∧ True ∧ True) (by kernel_rfl) ⟨trivial, trivial, trivial⟩ ?_
      refine thenQ_normal ?_
      refine AW.seq ?_
      refine AW.regionA [.obj 50 ([] : List Key).length (gl cs_Key ([] : List Key))] [1, 2, 4, 6, 7, 8, 35, 36] [1, 2, 3, 19, 50] (s' := ⟨[(1, (.v (.one (.c (.int .i64 a1))))), (2, (.v (.one (.ptr 1 0)))), (4, (.v (.one (.ptr 2 0)))), (6, (.v (.one (.ptr 3 0)))), (7, (.v (.one (.c (.int .i64 x12))))), (8, (.v (.one (.lst 50 ([] : List Key).length 5 (gl cs_Key ([] : List Key)))))), (35, (.v (.one (.c (.int .i64 (a0.Tracks.length : Int)))))), (36, (.v (.one (.c (.int .i64 x12)))))], [(1, (.box [(.c (.int .i64 a0.Length)), (.c (.int .i64 a0.Kind)), (.c (sl 1 (csL 5 cs_Key) a0.Tracks)), (.c (sl 4 cs_RootKey a0.Roots))])), (2, (.box [(.c (.int .i64 (0 : Int))), (.c (.int .i64 (0 : Int))), .nils, .nils])), (3, (.box [(.c (.int .i64 (IntKind.i64.wrap (a0.Length * a1)))), (.c (.int .i64 a0.Kind)), (.lst 19 x13.length 1 (gl (csL 5 cs_Key) x13)), .nils])), (19, (.lst x13.length 1 (gl (csL 5 cs_Key) x13))), (50, (.lst ([] : List Key).length 5 (gl cs_Key ([] : List Key))))]⟩) (ob := (([] : List Key).length = 0 ∧ True) ∧ True ∧ True) (by kernel_rfl) ⟨⟨rfl, trivial⟩, trivial, trivial⟩ ?_
      refine thenQ_normal ?_
      refine AW.seq ?_
      refine AW.seq ?_
      obtain ⟨c15, h⟩ := chk_some h
      refine AW.regionA [] [1, 2, 4, 6, 7, 8, 35, 36, 45, 46] [1, 2, 3, 19, 50] (s' := ⟨[(1, (.v (.one (.c (.int .i64 a1))))), (2, (.v (.one (.ptr 1 0)))), (4, (.v (.one (.ptr 2 0)))), (6, (.v (.one (.ptr 3 0)))), (7, (.v (.one (.c (.int .i64 x12))))), (8, (.v (.one (.lst 50 ([] : List Key).length 5 (gl cs_Key ([] : List Key)))))), (35, (.v (.one (.c (.int .i64 (a0.Tracks.length : Int)))))), (36, (.v (.one (.c (.int .i64 x12))))), (45, (.v (.one (.c (.int .i64 ((a0.Tracks.getD x12.toNat default).length : Int)))))), (46, (.v (.one (.c (.int .i64 (0 : Int))))))], [(1, (.box [(.c (.int .i64 a0.Length)), (.c (.int .i64 a0.Kind)), (.c (sl 1 (csL 5 cs_Key) a0.Tracks)), (.c (sl 4 cs_RootKey a0.Roots))])), (2, (.box [(.c (.int .i64 (0 : Int))), (.c (.int .i64 (0 : Int))), .nils, .nils])), (3, (.box [(.c (.int .i64 (IntKind.i64.wrap (a0.Length * a1)))), (.c (.int .i64 a0.Kind)), (.lst 19 x13.length 1 (gl (csL 5 cs_Key) x13)), .nils])), (19, (.lst x13.length 1 (gl (csL 5 cs_Key) x13))), (50, (.lst ([] : List Key).length 5 (gl cs_Key ([] : List Key))))]⟩) (ob := True ∧ True ∧ True ∧ (0 ≤ x12 ∧ x12 < (a0.Tracks.length : Int)) ∧ True ∧ True ∧ True ∧ True) (by kernel_rfl) ⟨trivial, trivial, trivial, c15, trivial, trivial, trivial, trivial⟩ ?_
      refine thenQ_normal ?_
      obtain ⟨j24, e25, h⟩ := bind_some h
      refine AW.joinS (s2 := ⟨[(1, (.v (.one (.c (.int .i64 a1))))), (2, (.v (.one (.ptr 1 0)))), (4, (.v (.one (.ptr 2 0)))), (6, (.v (.one (.ptr 3 0)))), (8, (.v (.one (.lst 50 j24.length 5 (gl cs_Key j24))))), (35, (.v (.one (.c (.int .i64 (a0.Tracks.length : Int)))))), (36, (.v (.one (.c (.int .i64 x12)))))], [(1, (.box [(.c (.int .i64 a0.Length)), (.c (.int .i64 a0.Kind)), (.c (sl 1 (csL 5 cs_Key) a0.Tracks)), (.c (sl 4 cs_RootKey a0.Roots))])), (2, (.box [(.c (.int .i64 (0 : Int))), (.c (.int .i64 (0 : Int))), .nils, .nils])), (3, (.box [(.c (.int .i64 (IntKind.i64.wrap (a0.Length * a1)))), (.c (.int .i64 a0.Kind)), (.lst 19 x13.length 1 (gl (csL 5 cs_Key) x13)), .nils])), (19, (.lst x13.length 1 (gl (csL 5 cs_Key) x13))), (50, (.lst j24.length 5 (gl cs_Key j24)))]⟩) ?_ ?_
      · replace h := e25
        refine AW.block ?_
        refine AW.loopQ (σ := Nat × Int × (List Key)) (fun p => ⟨[(1, (.v (.one (.c (.int .i64 a1))))), (2, (.v (.one (.ptr 1 0)))), (4, (.v (.one (.ptr 2 0)))), (6, (.v (.one (.ptr 3 0)))), (7, (.v (.one (.c (.int .i64 x12))))), (8, (.v (.one (.lst 50 p.2.2.length 5 (gl cs_Key p.2.2))))), (35, (.v (.one (.c (.int .i64 (a0.Tracks.length : Int)))))), (36, (.v (.one (.c (.int .i64 x12))))), (45, (.v (.one (.c (.int .i64 ((a0.Tracks.getD x12.toNat default).length : Int)))))), (46, (.v (.one (.c (.int .i64 p.2.1)))))], [(1, (.box [(.c (.int .i64 a0.Length)), (.c (.int .i64 a0.Kind)), (.c (sl 1 (csL 5 cs_Key) a0.Tracks)), (.c (sl 4 cs_RootKey a0.Roots))])), (2, (.box [(.c (.int .i64 (0 : Int))), (.c (.int .i64 (0 : Int))), .nils, .nils])), (3, (.box [(.c (.int .i64 (IntKind.i64.wrap (a0.Length * a1)))), (.c (.int .i64 a0.Kind)), (.lst 19 x13.length 1 (gl (csL 5 cs_Key) x13)), .nils])), (19, (.lst x13.length 1 (gl (csL 5 cs_Key) x13))), (50, (.lst p.2.2.length 5 (gl cs_Key p.2.2)))]⟩) (fun p => spec_StretchClip_l5 K a0 a1 x12 p.1 p.2.1 p.2.2 = some j24) (fun p => p.1) (K, (0 : Int), ([] : List Key)) h ?_
        clear h
        rintro ⟨k, x28, x29⟩ h
        replace h : spec_StretchClip_l5 K a0 a1 x12 k x28 x29 = some j24 := h
        show AW _ _ (⟨[(1, (.v (.one (.c (.int .i64 a1))))), (2, (.v (.one (.ptr 1 0)))), (4, (.v (.one (.ptr 2 0)))), (6, (.v (.one (.ptr 3 0)))), (7, (.v (.one (.c (.int .i64 x12))))), (8, (.v (.one (.lst 50 x29.length 5 (gl cs_Key x29))))), (35, (.v (.one (.c (.int .i64 (a0.Tracks.length : Int)))))), (36, (.v (.one (.c (.int .i64 x12))))), (45, (.v (.one (.c (.int .i64 ((a0.Tracks.getD x12.toNat default).length : Int)))))), (46, (.v (.one (.c (.int .i64 x28)))))], [(1, (.box [(.c (.int .i64 a0.Length)), (.c (.int .i64 a0.Kind)), (.c (sl 1 (csL 5 cs_Key) a0.Tracks)), (.c (sl 4 cs_RootKey a0.Roots))])), (2, (.box [(.c (.int .i64 (0 : Int))), (.c (.int .i64 (0 : Int))), .nils, .nils])), (3, (.box [(.c (.int .i64 (IntKind.i64.wrap (a0.Length * a1)))), (.c (.int .i64 a0.Kind)), (.lst 19 x13.length 1 (gl (csL 5 cs_Key) x13)), .nils])), (19, (.lst x13.length 1 (gl (csL 5 cs_Key) x13))), (50, (.lst x29.length 5 (gl cs_Key x29)))]⟩ : St) _
        obtain _ | k := k
        · rw [spec_StretchClip_l5] at h; cases h
        rw [spec_StretchClip_l5] at h
        refine AW.seq ?_
        refine AW.regionA [] [1, 2, 4, 6, 7, 8, 35, 36, 45, 46, 47] [1, 2, 3, 19, 50] (s' := ⟨[(1, (.v (.one (.c (.int .i64 a1))))), (2, (.v (.one (.ptr 1 0)))), (4, (.v (.one (.ptr 2 0)))), (6, (.v (.one (.ptr 3 0)))), (7, (.v (.one (.c (.int .i64 x12))))), (8, (.v (.one (.lst 50 x29.length 5 (gl cs_Key x29))))), (35, (.v (.one (.c (.int .i64 (a0.Tracks.length : Int)))))), (36, (.v (.one (.c (.int .i64 x12))))), (45, (.v (.one (.c (.int .i64 ((a0.Tracks.getD x12.toNat default).length : Int)))))), (46, (.v (.one (.c (.int .i64 x28))))), (47, (.v (.one (.c (.bool (decide (x28 < ((a0.Tracks.getD x12.toNat default).length : Int))))))))], [(1, (.box [(.c (.int .i64 a0.Length)), (.c (.int .i64 a0.Kind)), (.c (sl 1 (csL 5 cs_Key) a0.Tracks)), (.c (sl 4 cs_RootKey a0.Roots))])), (2, (.box [(.c (.int .i64 (0 : Int))), (.c (.int .i64 (0 : Int))), .nils, .nils])), (3, (.box [(.c (.int .i64 (IntKind.i64.wrap (a0.Length * a1)))), (.c (.int .i64 a0.Kind)), (.lst 19 x13.length 1 (gl (csL 5 cs_Key) x13)), .nils])), (19, (.lst x13.length 1 (gl (csL 5 cs_Key) x13))), (50, (.lst x29.length 5 (gl cs_Key x29)))]⟩) (ob := True ∧ True) (by kernel_rfl) ⟨trivial, trivial⟩ ?_
        refine thenQ_normal ?_
        refine AW.seq ?_
        rcases ite2_cases h with ⟨b30, h⟩ | ⟨b30, h⟩
        · refine AW.cond_t rfl b30 ?_
          refine AW.skip ?_
          refine thenQ_normal ?_
          refine AW.seq ?_
          refine AW.block ?_
          refine AW.seq ?_
          refine AW.regionA [] [1, 2, 4, 6, 7, 8, 9, 35, 36, 45, 46] [1, 2, 3, 19, 50] (s' := ⟨[(1, (.v (.one (.c (.int .i64 a1))))), (2, (.v (.one (.ptr 1 0)))), (4, (.v (.one (.ptr 2 0)))), (6, (.v (.one (.ptr 3 0)))), (7, (.v (.one (.c (.int .i64 x12))))), (8, (.v (.one (.lst 50 x29.length 5 (gl cs_Key x29))))), (9, (.v (.one (.c (.int .i64 x28))))), (35, (.v (.one (.c (.int .i64 (a0.Tracks.length : Int)))))), (36, (.v (.one (.c (.int .i64 x12))))), (45, (.v (.one (.c (.int .i64 ((a0.Tracks.getD x12.toNat default).length : Int)))))), (46, (.v (.one (.c (.int .i64 x28)))))], [(1, (.box [(.c (.int .i64 a0.Length)), (.c (.int .i64 a0.Kind)), (.c (sl 1 (csL 5 cs_Key) a0.Tracks)), (.c (sl 4 cs_RootKey a0.Roots))])), (2, (.box [(.c (.int .i64 (0 : Int))), (.c (.int .i64 (0 : Int))), .nils, .nils])), (3, (.box [(.c (.int .i64 (IntKind.i64.wrap (a0.Length * a1)))), (.c (.int .i64 a0.Kind)), (.lst 19 x13.length 1 (gl (csL 5 cs_Key) x13)), .nils])), (19, (.lst x13.length 1 (gl (csL 5 cs_Key) x13))), (50, (.lst x29.length 5 (gl cs_Key x29)))]⟩) (ob := True ∧ True ∧ True) (by kernel_rfl) ⟨trivial, trivial, trivial⟩ ?_
          refine thenQ_normal ?_
          obtain ⟨c31, h⟩ := chk_some h
          obtain ⟨c32, h⟩ := chk_some h
          obtain ⟨c33, h⟩ := chk_some h
          refine AW.drawnA (by kernel_rfl) 24 [.no, .no, .no, .no, .no, .no, .no, .no, .no, .no, .no, .no, .no, .no, .no, .no, .no, .no, .no, .no, .no, .no, .obj 61 ([(Key.mk (IntKind.i64.wrap ((((a0.Tracks.getD x12.toNat default).getD x28.toNat default).At) * a1)) (((a0.Tracks.getD x12.toNat default).getD x28.toNat default).Turn))]).length (gl cs_Key ([(Key.mk (IntKind.i64.wrap ((((a0.Tracks.getD x12.toNat default).getD x28.toNat default).At) * a1)) (((a0.Tracks.getD x12.toNat default).getD x28.toNat default).Turn))])), .objK 62 (x29 ++ ([(Key.mk (IntKind.i64.wrap ((((a0.Tracks.getD x12.toNat default).getD x28.toNat default).At) * a1)) (((a0.Tracks.getD x12.toNat default).getD x28.toNat default).Turn))])).length (gl cs_Key (x29 ++ ([(Key.mk (IntKind.i64.wrap ((((a0.Tracks.getD x12.toNat default).getD x28.toNat default).At) * a1)) (((a0.Tracks.getD x12.toNat default).getD x28.toNat default).Turn))])))] [1, 2, 4, 6, 7, 8, 35, 36, 45, 46] [1, 2, 3, 19, 62] (s' := ⟨[(1, (.v (.one (.c (.int .i64 a1))))), (2, (.v (.one (.ptr 1 0)))), (4, (.v (.one (.ptr 2 0)))), (6, (.v (.one (.ptr 3 0)))), (7, (.v (.one (.c (.int .i64 x12))))), (8, (.v (.one (.lst 62 (x29 ++ ([(Key.mk (IntKind.i64.wrap ((((a0.Tracks.getD x12.toNat default).getD x28.toNat default).At) * a1)) (((a0.Tracks.getD x12.toNat default).getD x28.toNat default).Turn))])).length 5 (gl cs_Key (x29 ++ ([(Key.mk (IntKind.i64.wrap ((((a0.Tracks.getD x12.toNat default).getD x28.toNat default).At) * a1)) (((a0.Tracks.getD x12.toNat default).getD x28.toNat default).Turn))]))))))), (35, (.v (.one (.c (.int .i64 (a0.Tracks.length : Int)))))), (36, (.v (.one (.c (.int .i64 x12))))), (45, (.v (.one (.c (.int .i64 ((a0.Tracks.getD x12.toNat default).length : Int)))))), (46, (.v (.one (.c (.int .i64 x28)))))], [(1, (.box [(.c (.int .i64 a0.Length)), (.c (.int .i64 a0.Kind)), (.c (sl 1 (csL 5 cs_Key) a0.Tracks)), (.c (sl 4 cs_RootKey a0.Roots))])), (2, (.box [(.c (.int .i64 (0 : Int))), (.c (.int .i64 (0 : Int))), .nils, .nils])), (3, (.box [(.c (.int .i64 (IntKind.i64.wrap (a0.Length * a1)))), (.c (.int .i64 a0.Kind)), (.lst 19 x13.length 1 (gl (csL 5 cs_Key) x13)), .nils])), (19, (.lst x13.length 1 (gl (csL 5 cs_Key) x13))), (62, (.lst (x29 ++ ([(Key.mk (IntKind.i64.wrap ((((a0.Tracks.getD x12.toNat default).getD x28.toNat default).At) * a1)) (((a0.Tracks.getD x12.toNat default).getD x28.toNat default).Turn))])).length 5 (gl cs_Key (x29 ++ ([(Key.mk (IntKind.i64.wrap ((((a0.Tracks.getD x12.toNat default).getD x28.toNat default).At) * a1)) (((a0.Tracks.getD x12.toNat default).getD x28.toNat default).Turn))])))))]⟩) (ob := (True ∧ True ∧ True ∧ True ∧ (0 ≤ x12 ∧ x12 < (a0.Tracks.length : Int)) ∧ True ∧ True ∧ (0 ≤ x28 ∧ x28 < ((a0.Tracks.getD x12.toNat default).length : Int)) ∧ True ∧ True ∧ True ∧ True ∧ True ∧ True ∧ True ∧ (0 ≤ x12 ∧ x12 < (a0.Tracks.length : Int)) ∧ True ∧ True ∧ (0 ≤ x28 ∧ x28 < ((a0.Tracks.getD x12.toNat default).length : Int)) ∧ True ∧ True ∧ True ∧ (([(Key.mk (IntKind.i64.wrap ((((a0.Tracks.getD x12.toNat default).getD x28.toNat default).At) * a1)) (((a0.Tracks.getD x12.toNat default).getD x28.toNat default).Turn))]).length = 1 ∧ (((.int .i64 (IntKind.i64.wrap ((((a0.Tracks.getD x12.toNat default).getD x28.toNat default).At) * a1))) : C) = (.int .i64 (IntKind.i64.wrap ((((a0.Tracks.getD x12.toNat default).getD x28.toNat default).At) * a1))) ∧ True) ∧ (((.flt .f32 ((((a0.Tracks.getD x12.toNat default).getD x28.toNat default).Turn).W).bits) : C) = (.flt .f32 ((((a0.Tracks.getD x12.toNat default).getD x28.toNat default).Turn).W).bits) ∧ True) ∧ (((.flt .f32 ((((a0.Tracks.getD x12.toNat default).getD x28.toNat default).Turn).X).bits) : C) = (.flt .f32 ((((a0.Tracks.getD x12.toNat default).getD x28.toNat default).Turn).X).bits) ∧ True) ∧ (((.flt .f32 ((((a0.Tracks.getD x12.toNat default).getD x28.toNat default).Turn).Y).bits) : C) = (.flt .f32 ((((a0.Tracks.getD x12.toNat default).getD x28.toNat default).Turn).Y).bits) ∧ True) ∧ (((.flt .f32 ((((a0.Tracks.getD x12.toNat default).getD x28.toNat default).Turn).Z).bits) : C) = (.flt .f32 ((((a0.Tracks.getD x12.toNat default).getD x28.toNat default).Turn).Z).bits) ∧ True) ∧ True) ∧ ((x29 ++ ([(Key.mk (IntKind.i64.wrap ((((a0.Tracks.getD x12.toNat default).getD x28.toNat default).At) * a1)) (((a0.Tracks.getD x12.toNat default).getD x28.toNat default).Turn))])).length = x29.length + ([(Key.mk (IntKind.i64.wrap ((((a0.Tracks.getD x12.toNat default).getD x28.toNat default).At) * a1)) (((a0.Tracks.getD x12.toNat default).getD x28.toNat default).Turn))]).length ∧ AppOb (x29.length) (([(Key.mk (IntKind.i64.wrap ((((a0.Tracks.getD x12.toNat default).getD x28.toNat default).At) * a1)) (((a0.Tracks.getD x12.toNat default).getD x28.toNat default).Turn))]).length) 5 (gl cs_Key x29) (gl cs_Key ([(Key.mk (IntKind.i64.wrap ((((a0.Tracks.getD x12.toNat default).getD x28.toNat default).At) * a1)) (((a0.Tracks.getD x12.toNat default).getD x28.toNat default).Turn))])) (gl cs_Key (x29 ++ ([(Key.mk (IntKind.i64.wrap ((((a0.Tracks.getD x12.toNat default).getD x28.toNat default).At) * a1)) (((a0.Tracks.getD x12.toNat default).getD x28.toNat default).Turn))]))) ∧ (∀ i j, i < ([(Key.mk (IntKind.i64.wrap ((((a0.Tracks.getD x12.toNat default).getD x28.toNat default).At) * a1)) (((a0.Tracks.getD x12.toNat default).getD x28.toNat default).Turn))]).length → j < 5 → scalarC (gl cs_Key ([(Key.mk (IntKind.i64.wrap ((((a0.Tracks.getD x12.toNat default).getD x28.toNat default).At) * a1)) (((a0.Tracks.getD x12.toNat default).getD x28.toNat default).Turn))]) i j)) ∧ (x29.length + ([(Key.mk (IntKind.i64.wrap ((((a0.Tracks.getD x12.toNat default).getD x28.toNat default).At) * a1)) (((a0.Tracks.getD x12.toNat default).getD x28.toNat default).Turn))]).length) * 24 ≤ 140737488355328) ∧ True) ∧ (True ∧ True)) (by kernel_rfl) ⟨⟨trivial, trivial, trivial, trivial, c31, trivial, trivial, c32, trivial, trivial, trivial, trivial, trivial, trivial, trivial, c31, trivial, trivial, c32, trivial, trivial, trivial, ⟨rfl, ⟨⟨rfl, trivial⟩, ⟨rfl, trivial⟩, ⟨rfl, trivial⟩, ⟨rfl, trivial⟩, ⟨rfl, trivial⟩, trivial⟩⟩, ⟨List.length_append, gl_append, gl_scalar sc_Key _, c33⟩, trivial⟩, ⟨trivial, trivial⟩⟩ ?_
          refine blockQ_normal ?_
          refine thenQ_normal ?_
          refine AW.regionA [] [1, 2, 4, 6, 7, 8, 35, 36, 45, 46] [1, 2, 3, 19, 62] (s' := ⟨[(1, (.v (.one (.c (.int .i64 a1))))), (2, (.v (.one (.ptr 1 0)))), (4, (.v (.one (.ptr 2 0)))), (6, (.v (.one (.ptr 3 0)))), (7, (.v (.one (.c (.int .i64 x12))))), (8, (.v (.one (.lst 62 (x29 ++ ([(Key.mk (IntKind.i64.wrap ((((a0.Tracks.getD x12.toNat default).getD x28.toNat default).At) * a1)) (((a0.Tracks.getD x12.toNat default).getD x28.toNat default).Turn))])).length 5 (gl cs_Key (x29 ++ ([(Key.mk (IntKind.i64.wrap ((((a0.Tracks.getD x12.toNat default).getD x28.toNat default).At) * a1)) (((a0.Tracks.getD x12.toNat default).getD x28.toNat default).Turn))]))))))), (35, (.v (.one (.c (.int .i64 (a0.Tracks.length : Int)))))), (36, (.v (.one (.c (.int .i64 x12))))), (45, (.v (.one (.c (.int .i64 ((a0.Tracks.getD x12.toNat default).length : Int)))))), (46, (.v (.one (.c (.int .i64 (IntKind.i64.wrap (x28 + (1 : Int))))))))], [(1, (.box [(.c (.int .i64 a0.Length)), (.c (.int .i64 a0.Kind)), (.c (sl 1 (csL 5 cs_Key) a0.Tracks)), (.c (sl 4 cs_RootKey a0.Roots))])), (2, (.box [(.c (.int .i64 (0 : Int))), (.c (.int .i64 (0 : Int))), .nils, .nils])), (3, (.box [(.c (.int .i64 (IntKind.i64.wrap (a0.Length * a1)))), (.c (.int .i64 a0.Kind)), (.lst 19 x13.length 1 (gl (csL 5 cs_Key) x13)), .nils])), (19, (.lst x13.length 1 (gl (csL 5 cs_Key) x13))), (62, (.lst (x29 ++ ([(Key.mk (IntKind.i64.wrap ((((a0.Tracks.getD x12.toNat default).getD x28.toNat default).At) * a1)) (((a0.Tracks.getD x12.toNat default).getD x28.toNat default).Turn))])).length 5 (gl cs_Key (x29 ++ ([(Key.mk (IntKind.i64.wrap ((((a0.Tracks.getD x12.toNat default).getD x28.toNat default).At) * a1)) (((a0.Tracks.getD x12.toNat default).getD x28.toNat default).Turn))])))))]⟩) (ob := True ∧ True ∧ True) (by kernel_rfl) ⟨trivial, trivial, trivial⟩ ?_
          exact loopQ_normal (k, (IntKind.i64.wrap (x28 + (1 : Int))), (x29 ++ ([(Key.mk (IntKind.i64.wrap ((((a0.Tracks.getD x12.toNat default).getD x28.toNat default).At) * a1)) (((a0.Tracks.getD x12.toNat default).getD x28.toNat default).Turn))]))) h (Nat.lt_succ_self k) (Sub.trans (Sub.swap 50 62 _ (by kernel_rfl) (by kernel_rfl)) (Sub.keep [1, 2, 4, 6, 7, 8, 35, 36, 45, 46] [1, 2, 3, 19, 50] (by kernel_rfl) (by kernel_rfl)))
        · refine AW.cond_f rfl b30 ?_
          refine AW.exit ?_
          refine thenQ_exit ?_
          refine loopQ_exit ?_
          refine blockQ_exit ?_
          replace h := some_eq h
          subst h
          exact ⟨rfl, Sub.keep [1, 2, 4, 6, 8, 35, 36] [1, 2, 3, 19, 50] (by kernel_rfl) (by kernel_rfl)⟩
      refine thenQ_normal ?_
      obtain ⟨c34, h⟩ := chk_some h
      refine AW.regionA [.no, .no, .no, .obj 63 ([j24]).length (gl (csL 5 cs_Key) ([j24])), .obj 64 (x13 ++ ([j24])).length (gl (csL 5 cs_Key) (x13 ++ ([j24])))] [1, 2, 4, 6, 35, 36] [1, 2, 3, 64] (s' := ⟨[(1, (.v (.one (.c (.int .i64 a1))))), (2, (.v (.one (.ptr 1 0)))), (4, (.v (.one (.ptr 2 0)))), (6, (.v (.one (.ptr 3 0)))), (35, (.v (.one (.c (.int .i64 (a0.Tracks.length : Int)))))), (36, (.v (.one (.c (.int .i64 x12)))))], [(1, (.box [(.c (.int .i64 a0.Length)), (.c (.int .i64 a0.Kind)), (.c (sl 1 (csL 5 cs_Key) a0.Tracks)), (.c (sl 4 cs_RootKey a0.Roots))])), (2, (.box [(.c (.int .i64 (0 : Int))), (.c (.int .i64 (0 : Int))), .nils, .nils])), (3, (.box [(.c (.int .i64 (IntKind.i64.wrap (a0.Length * a1)))), (.c (.int .i64 a0.Kind)), (.lst 64 (x13 ++ ([j24])).length 1 (gl (csL 5 cs_Key) (x13 ++ ([j24])))), .nils])), (64, (.lst (x13 ++ ([j24])).length 1 (gl (csL 5 cs_Key) (x13 ++ ([j24])))))]⟩) (ob := True ∧ True ∧ True ∧ (([j24]).length = 1 ∧ (((sl 5 cs_Key j24) : C) = (sl 5 cs_Key j24)) ∧ True) ∧ ((x13 ++ ([j24])).length = x13.length + ([j24]).length ∧ AppOb (x13.length) (([j24]).length) 1 (gl (csL 5 cs_Key) x13) (gl (csL 5 cs_Key) ([j24])) (gl (csL 5 cs_Key) (x13 ++ ([j24]))) ∧ True ∧ (x13.length + ([j24]).length) * 24 ≤ 140737488355328) ∧ True ∧ True ∧ True) (by kernel_rfl) ⟨trivial, trivial, trivial, ⟨rfl, ⟨rfl, trivial⟩⟩, ⟨List.length_append, gl_append, trivial, c34⟩, trivial, trivial, trivial⟩ ?_
      refine blockQ_normal ?_
      refine thenQ_normal ?_
      refine AW.regionA [] [1, 2, 4, 6, 35, 36] [1, 2, 3, 64] (s' := ⟨[(1, (.v (.one (.c (.int .i64 a1))))), (2, (.v (.one (.ptr 1 0)))), (4, (.v (.one (.ptr 2 0)))), (6, (.v (.one (.ptr 3 0)))), (35, (.v (.one (.c (.int .i64 (a0.Tracks.length : Int)))))), (36, (.v (.one (.c (.int .i64 (IntKind.i64.wrap (x12 + (1 : Int))))))))], [(1, (.box [(.c (.int .i64 a0.Length)), (.c (.int .i64 a0.Kind)), (.c (sl 1 (csL 5 cs_Key) a0.Tracks)), (.c (sl 4 cs_RootKey a0.Roots))])), (2, (.box [(.c (.int .i64 (0 : Int))), (.c (.int .i64 (0 : Int))), .nils, .nils])), (3, (.box [(.c (.int .i64 (IntKind.i64.wrap (a0.Length * a1)))), (.c (.int .i64 a0.Kind)), (.lst 64 (x13 ++ ([j24])).length 1 (gl (csL 5 cs_Key) (x13 ++ ([j24])))), .nils])), (64, (.lst (x13 ++ ([j24])).length 1 (gl (csL 5 cs_Key) (x13 ++ ([j24])))))]⟩) (ob := True ∧ True ∧ True) (by kernel_rfl) ⟨trivial, trivial, trivial⟩ ?_
      exact loopQ_normal (k, (IntKind.i64.wrap (x12 + (1 : Int))), (x13 ++ ([j24]))) h (Nat.lt_succ_self k) (Sub.trans (Sub.swap 19 64 _ (by kernel_rfl) (by kernel_rfl)) (Sub.keep [1, 2, 4, 6, 35, 36] [1, 2, 3, 19] (by kernel_rfl) (by kernel_rfl)))
    · refine AW.cond_f rfl b14 ?_
      refine AW.exit ?_
      refine thenQ_exit ?_
      refine loopQ_exit ?_
      refine blockQ_exit ?_
      refine thenQ_normal ?_
      refine AW.seq ?_
      refine AW.seq ?_
      refine AW.regionA [] [1, 2, 4, 6, 83, 84] [1, 2, 3, 19] (s' := ⟨[(1, (.v (.one (.c (.int .i64 a1))))), (2, (.v (.one (.ptr 1 0)))), (4, (.v (.one (.ptr 2 0)))), (6, (.v (.one (.ptr 3 0)))), (83, (.v (.one (.c (.int .i64 (a0.Roots.length : Int)))))), (84, (.v (.one (.c (.int .i64 (0 : Int))))))], [(1, (.box [(.c (.int .i64 a0.Length)), (.c (.int .i64 a0.Kind)), (.c (sl 1 (csL 5 cs_Key) a0.Tracks)), (.c (sl 4 cs_RootKey a0.Roots))])), (2, (.box [(.c (.int .i64 (0 : Int))), (.c (.int .i64 (0 : Int))), .nils, .nils])), (3, (.box [(.c (.int .i64 (IntKind.i64.wrap (a0.Length * a1)))), (.c (.int .i64 a0.Kind)), (.lst 19 x13.length 1 (gl (csL 5 cs_Key) x13)), .nils])), (19, (.lst x13.length 1 (gl (csL 5 cs_Key) x13)))]⟩) (ob := True ∧ True ∧ True ∧ True ∧ True) (by kernel_rfl) ⟨trivial, trivial, trivial, trivial, trivial⟩ ?_
      refine thenQ_normal ?_
      refine AW.block ?_
      refine AW.weak (s' := ⟨[(1, (.v (.one (.c (.int .i64 a1))))), (2, (.v (.one (.ptr 1 0)))), (4, (.v (.one (.ptr 2 0)))), (6, (.v (.one (.ptr 3 0)))), (83, (.v (.one (.c (.int .i64 (a0.Roots.length : Int)))))), (84, (.v (.one (.c (.int .i64 (0 : Int))))))], [(1, (.box [(.c (.int .i64 a0.Length)), (.c (.int .i64 a0.Kind)), (.c (sl 1 (csL 5 cs_Key) a0.Tracks)), (.c (sl 4 cs_RootKey a0.Roots))])), (2, (.box [(.c (.int .i64 (0 : Int))), (.c (.int .i64 (0 : Int))), .nils, .nils])), (3, (.box [(.c (.int .i64 (IntKind.i64.wrap (a0.Length * a1)))), (.c (.int .i64 a0.Kind)), (.lst 19 x13.length 1 (gl (csL 5 cs_Key) x13)), (.lst 67 ([] : (List RootKey)).length 4 (gl cs_RootKey ([] : (List RootKey))))])), (19, (.lst x13.length 1 (gl (csL 5 cs_Key) x13))), (67, (.lst ([] : (List RootKey)).length 4 (gl cs_RootKey ([] : (List RootKey)))))]⟩) (Sub.trans (Sub.unnil 67 4 (gl cs_RootKey ([] : (List RootKey))) [] [(3, 3)] _ (by kernel_rfl) (by kernel_rfl)) (Sub.keep [1, 2, 4, 6, 83, 84] [1, 2, 3, 19, 67] (by kernel_rfl) (by kernel_rfl))) ?_
      refine AW.loopQ (σ := Nat × Int × (List RootKey)) (fun p => ⟨[(1, (.v (.one (.c (.int .i64 a1))))), (2, (.v (.one (.ptr 1 0)))), (4, (.v (.one (.ptr 2 0)))), (6, (.v (.one (.ptr 3 0)))), (83, (.v (.one (.c (.int .i64 (a0.Roots.length : Int)))))), (84, (.v (.one (.c (.int .i64 p.2.1)))))], [(1, (.box [(.c (.int .i64 a0.Length)), (.c (.int .i64 a0.Kind)), (.c (sl 1 (csL 5 cs_Key) a0.Tracks)), (.c (sl 4 cs_RootKey a0.Roots))])), (2, (.box [(.c (.int .i64 (0 : Int))), (.c (.int .i64 (0 : Int))), .nils, .nils])), (3, (.box [(.c (.int .i64 (IntKind.i64.wrap (a0.Length * a1)))), (.c (.int .i64 a0.Kind)), (.lst 19 x13.length 1 (gl (csL 5 cs_Key) x13)), (.lst 67 p.2.2.length 4 (gl cs_RootKey p.2.2))])), (19, (.lst x13.length 1 (gl (csL 5 cs_Key) x13))), (67, (.lst p.2.2.length 4 (gl cs_RootKey p.2.2)))]⟩) (fun p => spec_StretchClip_l6 K a0 a1 x13 p.1 p.2.1 p.2.2 = some o) (fun p => p.1) (K, (0 : Int), ([] : (List RootKey))) h ?_
      clear h
      rintro ⟨k, x37, x38⟩ h
      replace h : spec_StretchClip_l6 K a0 a1 x13 k x37 x38 = some o := h
      show AW _ _ (⟨[(1, (.v (.one (.c (.int .i64 a1))))), (2, (.v (.one (.ptr 1 0)))), (4, (.v (.one (.ptr 2 0)))), (6, (.v (.one (.ptr 3 0)))), (83, (.v (.one (.c (.int .i64 (a0.Roots.length : Int)))))), (84, (.v (.one (.c (.int .i64 x37)))))], [(1, (.box [(.c (.int .i64 a0.Length)), (.c (.int .i64 a0.Kind)), (.c (sl 1 (csL 5 cs_Key) a0.Tracks)), (.c (sl 4 cs_RootKey a0.Roots))])), (2, (.box [(.c (.int .i64 (0 : Int))), (.c (.int .i64 (0 : Int))), .nils, .nils])), (3, (.box [(.c (.int .i64 (IntKind.i64.wrap (a0.Length * a1)))), (.c (.int .i64 a0.Kind)), (.lst 19 x13.length 1 (gl (csL 5 cs_Key) x13)), (.lst 67 x38.length 4 (gl cs_RootKey x38))])), (19, (.lst x13.length 1 (gl (csL 5 cs_Key) x13))), (67, (.lst x38.length 4 (gl cs_RootKey x38)))]⟩ : St) _
      obtain _ | k := k
      · rw [spec_StretchClip_l6] at h; cases h
      rw [spec_StretchClip_l6] at h
      refine AW.seq ?_
      refine AW.regionA [] [1, 2, 4, 6, 83, 84, 85] [1, 2, 3, 19, 67] (s' := ⟨[(1, (.v (.one (.c (.int .i64 a1))))), (2, (.v (.one (.ptr 1 0)))), (4, (.v (.one (.ptr 2 0)))), (6, (.v (.one (.ptr 3 0)))), (83, (.v (.one (.c (.int .i64 (a0.Roots.length : Int)))))), (84, (.v (.one (.c (.int .i64 x37))))), (85, (.v (.one (.c (.bool (decide (x37 < (a0.Roots.length : Int))))))))], [(1, (.box [(.c (.int .i64 a0.Length)), (.c (.int .i64 a0.Kind)), (.c (sl 1 (csL 5 cs_Key) a0.Tracks)), (.c (sl 4 cs_RootKey a0.Roots))])), (2, (.box [(.c (.int .i64 (0 : Int))), (.c (.int .i64 (0 : Int))), .nils, .nils])), (3, (.box [(.c (.int .i64 (IntKind.i64.wrap (a0.Length * a1)))), (.c (.int .i64 a0.Kind)), (.lst 19 x13.length 1 (gl (csL 5 cs_Key) x13)), (.lst 67 x38.length 4 (gl cs_RootKey x38))])), (19, (.lst x13.length 1 (gl (csL 5 cs_Key) x13))), (67, (.lst x38.length 4 (gl cs_RootKey x38)))]⟩) (ob := True ∧ True) (by kernel_rfl) ⟨trivial, trivial⟩ ?_
      refine thenQ_normal ?_
      refine AW.seq ?_
      rcases ite2_cases h with ⟨b39, h⟩ | ⟨b39, h⟩
      · refine AW.cond_t rfl b39 ?_
        refine AW.skip ?_
        refine thenQ_normal ?_
        refine AW.seq ?_
        refine AW.block ?_
        refine AW.seq ?_
        refine AW.regionA [] [1, 2, 4, 6, 10, 83, 84] [1, 2, 3, 19, 67] (s' := ⟨[(1, (.v (.one (.c (.int .i64 a1))))), (2, (.v (.one (.ptr 1 0)))), (4, (.v (.one (.ptr 2 0)))), (6, (.v (.one (.ptr 3 0)))), (10, (.v (.one (.c (.int .i64 x37))))), (83, (.v (.one (.c (.int .i64 (a0.Roots.length : Int)))))), (84, (.v (.one (.c (.int .i64 x37)))))], [(1, (.box [(.c (.int .i64 a0.Length)), (.c (.int .i64 a0.Kind)), (.c (sl 1 (csL 5 cs_Key) a0.Tracks)), (.c (sl 4 cs_RootKey a0.Roots))])), (2, (.box [(.c (.int .i64 (0 : Int))), (.c (.int .i64 (0 : Int))), .nils, .nils])), (3, (.box [(.c (.int .i64 (IntKind.i64.wrap (a0.Length * a1)))), (.c (.int .i64 a0.Kind)), (.lst 19 x13.length 1 (gl (csL 5 cs_Key) x13)), (.lst 67 x38.length 4 (gl cs_RootKey x38))])), (19, (.lst x13.length 1 (gl (csL 5 cs_Key) x13))), (67, (.lst x38.length 4 (gl cs_RootKey x38)))]⟩) (ob := True ∧ True ∧ True) (by kernel_rfl) ⟨trivial, trivial, trivial⟩ ?_
        refine thenQ_normal ?_
        obtain ⟨c40, h⟩ := chk_some h
        obtain ⟨c41, h⟩ := chk_some h
        refine AW.drawnA (by kernel_rfl) 20 [.no, .no, .no, .no, .no, .no, .no, .no, .no, .no, .no, .no, .no, .no, .no, .no, .no, .obj 72 ([(RootKey.mk (IntKind.i64.wrap (((a0.Roots.getD x37.toNat default).At) * a1)) ((a0.Roots.getD x37.toNat default).Place))]).length (gl cs_RootKey ([(RootKey.mk (IntKind.i64.wrap (((a0.Roots.getD x37.toNat default).At) * a1)) ((a0.Roots.getD x37.toNat default).Place))])), .objK 73 (x38 ++ ([(RootKey.mk (IntKind.i64.wrap (((a0.Roots.getD x37.toNat default).At) * a1)) ((a0.Roots.getD x37.toNat default).Place))])).length (gl cs_RootKey (x38 ++ ([(RootKey.mk (IntKind.i64.wrap (((a0.Roots.getD x37.toNat default).At) * a1)) ((a0.Roots.getD x37.toNat default).Place))])))] [1, 2, 4, 6, 83, 84] [1, 2, 3, 19, 73] (s' := ⟨[(1, (.v (.one (.c (.int .i64 a1))))), (2, (.v (.one (.ptr 1 0)))), (4, (.v (.one (.ptr 2 0)))), (6, (.v (.one (.ptr 3 0)))), (83, (.v (.one (.c (.int .i64 (a0.Roots.length : Int)))))), (84, (.v (.one (.c (.int .i64 x37)))))], [(1, (.box [(.c (.int .i64 a0.Length)), (.c (.int .i64 a0.Kind)), (.c (sl 1 (csL 5 cs_Key) a0.Tracks)), (.c (sl 4 cs_RootKey a0.Roots))])), (2, (.box [(.c (.int .i64 (0 : Int))), (.c (.int .i64 (0 : Int))), .nils, .nils])), (3, (.box [(.c (.int .i64 (IntKind.i64.wrap (a0.Length * a1)))), (.c (.int .i64 a0.Kind)), (.lst 19 x13.length 1 (gl (csL 5 cs_Key) x13)), (.lst 73 (x38 ++ ([(RootKey.mk (IntKind.i64.wrap (((a0.Roots.getD x37.toNat default).At) * a1)) ((a0.Roots.getD x37.toNat default).Place))])).length 4 (gl cs_RootKey (x38 ++ ([(RootKey.mk (IntKind.i64.wrap (((a0.Roots.getD x37.toNat default).At) * a1)) ((a0.Roots.getD x37.toNat default).Place))]))))])), (19, (.lst x13.length 1 (gl (csL 5 cs_Key) x13))), (73, (.lst (x38 ++ ([(RootKey.mk (IntKind.i64.wrap (((a0.Roots.getD x37.toNat default).At) * a1)) ((a0.Roots.getD x37.toNat default).Place))])).length 4 (gl cs_RootKey (x38 ++ ([(RootKey.mk (IntKind.i64.wrap (((a0.Roots.getD x37.toNat default).At) * a1)) ((a0.Roots.getD x37.toNat default).Place))])))))]⟩) (ob := (True ∧ True ∧ True ∧ True ∧ True ∧ (0 ≤ x37 ∧ x37 < (a0.Roots.length : Int)) ∧ True ∧ True ∧ True ∧ True ∧ True ∧ True ∧ True ∧ (0 ≤ x37 ∧ x37 < (a0.Roots.length : Int)) ∧ True ∧ True ∧ True ∧ (([(RootKey.mk (IntKind.i64.wrap (((a0.Roots.getD x37.toNat default).At) * a1)) ((a0.Roots.getD x37.toNat default).Place))]).length = 1 ∧ (((.int .i64 (IntKind.i64.wrap (((a0.Roots.getD x37.toNat default).At) * a1))) : C) = (.int .i64 (IntKind.i64.wrap (((a0.Roots.getD x37.toNat default).At) * a1))) ∧ True) ∧ (((.flt .f32 (((a0.Roots.getD x37.toNat default).Place).X).bits) : C) = (.flt .f32 (((a0.Roots.getD x37.toNat default).Place).X).bits) ∧ True) ∧ (((.flt .f32 (((a0.Roots.getD x37.toNat default).Place).Y).bits) : C) = (.flt .f32 (((a0.Roots.getD x37.toNat default).Place).Y).bits) ∧ True) ∧ (((.flt .f32 (((a0.Roots.getD x37.toNat default).Place).Z).bits) : C) = (.flt .f32 (((a0.Roots.getD x37.toNat default).Place).Z).bits) ∧ True) ∧ True) ∧ ((x38 ++ ([(RootKey.mk (IntKind.i64.wrap (((a0.Roots.getD x37.toNat default).At) * a1)) ((a0.Roots.getD x37.toNat default).Place))])).length = x38.length + ([(RootKey.mk (IntKind.i64.wrap (((a0.Roots.getD x37.toNat default).At) * a1)) ((a0.Roots.getD x37.toNat default).Place))]).length ∧ AppOb (x38.length) (([(RootKey.mk (IntKind.i64.wrap (((a0.Roots.getD x37.toNat default).At) * a1)) ((a0.Roots.getD x37.toNat default).Place))]).length) 4 (gl cs_RootKey x38) (gl cs_RootKey ([(RootKey.mk (IntKind.i64.wrap (((a0.Roots.getD x37.toNat default).At) * a1)) ((a0.Roots.getD x37.toNat default).Place))])) (gl cs_RootKey (x38 ++ ([(RootKey.mk (IntKind.i64.wrap (((a0.Roots.getD x37.toNat default).At) * a1)) ((a0.Roots.getD x37.toNat default).Place))]))) ∧ (∀ i j, i < ([(RootKey.mk (IntKind.i64.wrap (((a0.Roots.getD x37.toNat default).At) * a1)) ((a0.Roots.getD x37.toNat default).Place))]).length → j < 4 → scalarC (gl cs_RootKey ([(RootKey.mk (IntKind.i64.wrap (((a0.Roots.getD x37.toNat default).At) * a1)) ((a0.Roots.getD x37.toNat default).Place))]) i j)) ∧ (x38.length + ([(RootKey.mk (IntKind.i64.wrap (((a0.Roots.getD x37.toNat default).At) * a1)) ((a0.Roots.getD x37.toNat default).Place))]).length) * 24 ≤ 140737488355328) ∧ True ∧ True) ∧ (True ∧ True)) (by kernel_rfl) ⟨⟨trivial, trivial, trivial, trivial, trivial, c40, trivial, trivial, trivial, trivial, trivial, trivial, trivial, c40, trivial, trivial, trivial, ⟨rfl, ⟨⟨rfl, trivial⟩, ⟨rfl, trivial⟩, ⟨rfl, trivial⟩, ⟨rfl, trivial⟩, trivial⟩⟩, ⟨List.length_append, gl_append, gl_scalar sc_RootKey _, c41⟩, trivial, trivial⟩, ⟨trivial, trivial⟩⟩ ?_
        refine blockQ_normal ?_
        refine thenQ_normal ?_
        refine AW.regionA [] [1, 2, 4, 6, 83, 84] [1, 2, 3, 19, 73] (s' := ⟨[(1, (.v (.one (.c (.int .i64 a1))))), (2, (.v (.one (.ptr 1 0)))), (4, (.v (.one (.ptr 2 0)))), (6, (.v (.one (.ptr 3 0)))), (83, (.v (.one (.c (.int .i64 (a0.Roots.length : Int)))))), (84, (.v (.one (.c (.int .i64 (IntKind.i64.wrap (x37 + (1 : Int))))))))], [(1, (.box [(.c (.int .i64 a0.Length)), (.c (.int .i64 a0.Kind)), (.c (sl 1 (csL 5 cs_Key) a0.Tracks)), (.c (sl 4 cs_RootKey a0.Roots))])), (2, (.box [(.c (.int .i64 (0 : Int))), (.c (.int .i64 (0 : Int))), .nils, .nils])), (3, (.box [(.c (.int .i64 (IntKind.i64.wrap (a0.Length * a1)))), (.c (.int .i64 a0.Kind)), (.lst 19 x13.length 1 (gl (csL 5 cs_Key) x13)), (.lst 73 (x38 ++ ([(RootKey.mk (IntKind.i64.wrap (((a0.Roots.getD x37.toNat default).At) * a1)) ((a0.Roots.getD x37.toNat default).Place))])).length 4 (gl cs_RootKey (x38 ++ ([(RootKey.mk (IntKind.i64.wrap (((a0.Roots.getD x37.toNat default).At) * a1)) ((a0.Roots.getD x37.toNat default).Place))]))))])), (19, (.lst x13.length 1 (gl (csL 5 cs_Key) x13))), (73, (.lst (x38 ++ ([(RootKey.mk (IntKind.i64.wrap (((a0.Roots.getD x37.toNat default).At) * a1)) ((a0.Roots.getD x37.toNat default).Place))])).length 4 (gl cs_RootKey (x38 ++ ([(RootKey.mk (IntKind.i64.wrap (((a0.Roots.getD x37.toNat default).At) * a1)) ((a0.Roots.getD x37.toNat default).Place))])))))]⟩) (ob := True ∧ True ∧ True) (by kernel_rfl) ⟨trivial, trivial, trivial⟩ ?_
        exact loopQ_normal (k, (IntKind.i64.wrap (x37 + (1 : Int))), (x38 ++ ([(RootKey.mk (IntKind.i64.wrap (((a0.Roots.getD x37.toNat default).At) * a1)) ((a0.Roots.getD x37.toNat default).Place))]))) h (Nat.lt_succ_self k) (Sub.trans (Sub.swap 67 73 _ (by kernel_rfl) (by kernel_rfl)) (Sub.keep [1, 2, 4, 6, 83, 84] [1, 2, 3, 19, 67] (by kernel_rfl) (by kernel_rfl)))
      · refine AW.cond_f rfl b39 ?_
        refine AW.exit ?_
        refine thenQ_exit ?_
        refine loopQ_exit ?_
        refine blockQ_exit ?_
        refine thenQ_normal ?_
        refine AW.seq ?_
        refine AW.regionA [] [4, 5] [2, 19, 67] (s' := ⟨[(4, (.v (.one (.ptr 2 0)))), (5, (.v (.one (.c (.bool true)))))], [(2, (.box [(.c (.int .i64 (IntKind.i64.wrap (a0.Length * a1)))), (.c (.int .i64 a0.Kind)), (.lst 19 x13.length 1 (gl (csL 5 cs_Key) x13)), (.lst 67 x38.length 4 (gl cs_RootKey x38))])), (19, (.lst x13.length 1 (gl (csL 5 cs_Key) x13))), (67, (.lst x38.length 4 (gl cs_RootKey x38)))]⟩) (ob := True ∧ True ∧ True ∧ True) (by kernel_rfl) ⟨trivial, trivial, trivial, trivial⟩ ?_
        refine thenQ_normal ?_
        refine AW.ret ?_
        replace h := some_eq h
        subst h
        exact ⟨.inr rfl, retOK_of [(.agg [(.c (.int .i64 (IntKind.i64.wrap (a0.Length * a1)))), (.c (.int .i64 a0.Kind)), (.lst 19 x13.length 1 (gl (csL 5 cs_Key) x13)), (.lst 67 x38.length 4 (gl cs_RootKey x38))]), (.one (.c (.bool true)))] (by kernel_rfl) ⟨⟨⟨rfl, trivial⟩, ⟨rfl, trivial⟩, rfl, rfl, trivial⟩, ⟨rfl, trivial⟩, trivial⟩ (of_decide_eq_true (by kernel_rfl))⟩

/-! impl.turnTrack -/
def impl_turnTrack (_K : Nat) : Option (Unit) :=
  some ()

theorem ok_impl_turnTrack (K : Nat) (o : (Unit)) (h : impl_turnTrack K  = some o) : CallOK Try.prog 76 [] [.agg [(.fn 146 0 fun _ => .nilptr), (.fn 147 0 fun _ => .nilptr), (.fn 148 0 fun _ => .nilptr)]] := by
  refine callOK_of_AW Try.func76 rfl (by kernel_rfl) (Nat.le_of_ble_eq_true (by kernel_rfl)) ?_
  intro w0
  unfold impl_turnTrack at h
  refine AW.seq ?_
  refine AW.regionA [.box 1] [0] [1] (s' := ⟨[(0, (.v (.one (.ptr 1 0))))], [(1, (.box [(.c .nilfn), (.c .nilfn), (.c .nilfn)]))]⟩) (ob := True ∧ True) (by kernel_rfl) ⟨trivial, trivial⟩ ?_
  refine thenQ_normal ?_
  refine AW.seq ?_
  refine AW.regionA [] [0] [1] (s' := ⟨[(0, (.v (.one (.ptr 1 0))))], [(1, (.box [(.c (.fn 146 0 fun _ => .nilptr)), (.c (.fn 147 0 fun _ => .nilptr)), (.c (.fn 148 0 fun _ => .nilptr))]))]⟩) (ob := True ∧ True ∧ True) (by kernel_rfl) ⟨trivial, trivial, trivial⟩ ?_
  refine thenQ_normal ?_
  refine AW.ret ?_
  replace h := some_eq h
  subst h
  exact ⟨.inr rfl, retOK_of [(.agg [(.c (.fn 146 0 fun _ => .nilptr)), (.c (.fn 147 0 fun _ => .nilptr)), (.c (.fn 148 0 fun _ => .nilptr))])] (by kernel_rfl) ⟨⟨⟨rfl, rfl⟩, ⟨rfl, rfl⟩, ⟨rfl, rfl⟩, trivial⟩, trivial⟩ (of_decide_eq_true (by kernel_rfl))⟩

/-! impl.turnTrack$1 -/
def impl_turnTrack_1 (_K : Nat) (a0 : Key) : Option (Int) :=
  some a0.At

theorem ok_impl_turnTrack_1 (K : Nat) (a0 : Key) (o : (Int)) (h : impl_turnTrack_1 K a0 = some o) : CallOK Try.prog 146 [.agg (cs_Key a0)] [.one (.int .i64 o)] := by
  refine callOK_of_AW Try.func146 rfl (by kernel_rfl) (Nat.le_of_ble_eq_true (by kernel_rfl)) ?_
  intro w0
  unfold impl_turnTrack_1 at h
  refine AW.seq ?_
  refine AW.regionA [.box 1] [1] [1] (s' := ⟨[(1, (.v (.one (.ptr 1 0))))], [(1, (.box [(.c (.int .i64 a0.At)), (.c (.flt .f32 a0.Turn.W.bits)), (.c (.flt .f32 a0.Turn.X.bits)), (.c (.flt .f32 a0.Turn.Y.bits)), (.c (.flt .f32 a0.Turn.Z.bits))]))]⟩) (ob := True ∧ True ∧ True) (by kernel_rfl) ⟨trivial, trivial, trivial⟩ ?_
  refine thenQ_normal ?_
  refine AW.seq ?_
  refine AW.regionA [] [2] [] (s' := ⟨[(2, (.v (.one (.c (.int .i64 a0.At)))))], []⟩) (ob := True ∧ True ∧ True ∧ True) (by kernel_rfl) ⟨trivial, trivial, trivial, trivial⟩ ?_
  refine thenQ_normal ?_
  refine AW.ret ?_
  replace h := some_eq h
  subst h
  exact ⟨.inr rfl, retOK_of [(.one (.c (.int .i64 a0.At)))] (by kernel_rfl) ⟨⟨rfl, trivial⟩, trivial⟩ (of_decide_eq_true (by kernel_rfl))⟩

/-! (impl.track[impl.Key]).valid -/
def impl_track_impl_Key_valid_l1 (K : Nat) (a1 : (List Key)) (a2 : Int) : Nat → Int → Int → Option (Bool)
  | 0, _, _ => none
  | k + 1, x3, x4 => ite2 ((decide (x4 < (a1.length : Int)))) (chk (0 ≤ x4 ∧ x4 < (a1.length : Int)) ((impl_turnTrack_1 K (a1.getD x4.toNat default)).bind fun v7 => (ite2 ((decide (v7 ≤ x3))) (some true) (some (decide (v7 > a2)))).bind fun j10 => ite2 (j10) (some false) ((impl_turnTrack_1 K (a1.getD x4.toNat default)).bind fun v13 => impl_track_impl_Key_valid_l1 K a1 a2 k v13 (IntKind.i64.wrap (x4 + (1 : Int)))))) ((ite2 ((decide ((a1.length : Int) ≥ (1 : Int)))) (some (decide ((a1.length : Int) ≤ (12 : Int)))) (some false)).bind fun j16 => some j16)

def impl_track_impl_Key_valid (K : Nat) (a1 : (List Key)) (a2 : Int) : Option (Bool) :=
  impl_track_impl_Key_valid_l1 K a1 a2 K ((-1) : Int) (0 : Int)

theorem ok_impl_track_impl_Key_valid (K : Nat) (a1 : (List Key)) (a2 : Int) (o : (Bool)) (h : impl_track_impl_Key_valid K a1 a2 = some o) : CallOK Try.prog 139 [.agg [(.fn 146 0 fun _ => .nilptr), (.fn 147 0 fun _ => .nilptr), (.fn 148 0 fun _ => .nilptr)], .one (sl 5 cs_Key a1), .one (.int .i64 a2)] [.one (.bool o)] := by
  refine callOK_of_AW Try.func139 rfl (by kernel_rfl) (Nat.le_of_ble_eq_true (by kernel_rfl)) ?_
  intro w0
  unfold impl_track_impl_Key_valid at h
  refine AW.seq ?_
  refine AW.regionA [.box 1] [1, 2, 3] [1] (s' := ⟨[(1, (.v (.one (.c (sl 5 cs_Key a1))))), (2, (.v (.one (.c (.int .i64 a2))))), (3, (.v (.one (.ptr 1 0))))], [(1, (.box [(.c (.fn 146 0 fun _ => .nilptr)), (.c (.fn 147 0 fun _ => .nilptr)), (.c (.fn 148 0 fun _ => .nilptr))]))]⟩) (ob := True ∧ True ∧ True) (by kernel_rfl) ⟨trivial, trivial, trivial⟩ ?_
  refine thenQ_normal ?_
  refine AW.seq ?_
  refine AW.regionA [] [1, 2, 3, 7] [1] (s' := ⟨[(1, (.v (.one (.c (sl 5 cs_Key a1))))), (2, (.v (.one (.c (.int .i64 a2))))), (3, (.v (.one (.ptr 1 0)))), (7, (.v (.one (.c (.int .i64 ((-1) : Int))))))], [(1, (.box [(.c (.fn 146 0 fun _ => .nilptr)), (.c (.fn 147 0 fun _ => .nilptr)), (.c (.fn 148 0 fun _ => .nilptr))]))]⟩) (ob := True ∧ True) (by kernel_rfl) ⟨trivial, trivial⟩ ?_
  refine thenQ_normal ?_
  refine AW.seq ?_
  refine AW.seq ?_
  refine AW.regionA [] [1, 2, 3, 7, 11, 12, 13] [1] (s' := ⟨[(1, (.v (.one (.c (sl 5 cs_Key a1))))), (2, (.v (.one (.c (.int .i64 a2))))), (3, (.v (.one (.ptr 1 0)))), (7, (.v (.one (.c (.int .i64 ((-1) : Int)))))), (11, (.v (.one (.c (sl 5 cs_Key a1))))), (12, (.v (.one (.c (.int .i64 (a1.length : Int)))))), (13, (.v (.one (.c (.int .i64 (0 : Int))))))], [(1, (.box [(.c (.fn 146 0 fun _ => .nilptr)), (.c (.fn 147 0 fun _ => .nilptr)), (.c (.fn 148 0 fun _ => .nilptr))]))]⟩) (ob := True ∧ True ∧ True ∧ True) (by kernel_rfl) ⟨trivial, trivial, trivial, trivial⟩ ?_
  refine thenQ_normal ?_
  refine AW.block ?_
  refine AW.loopQ (σ := Nat × Int × Int) (fun p => ⟨[(1, (.v (.one (.c (sl 5 cs_Key a1))))), (2, (.v (.one (.c (.int .i64 a2))))), (3, (.v (.one (.ptr 1 0)))), (7, (.v (.one (.c (.int .i64 p.2.1))))), (11, (.v (.one (.c (sl 5 cs_Key a1))))), (12, (.v (.one (.c (.int .i64 (a1.length : Int)))))), (13, (.v (.one (.c (.int .i64 p.2.2)))))], [(1, (.box [(.c (.fn 146 0 fun _ => .nilptr)), (.c (.fn 147 0 fun _ => .nilptr)), (.c (.fn 148 0 fun _ => .nilptr))]))]⟩) (fun p => impl_track_impl_Key_valid_l1 K a1 a2 p.1 p.2.1 p.2.2 = some o) (fun p => p.1) (K, ((-1) : Int), (0 : Int)) h ?_
  clear h
  rintro ⟨k, x3, x4⟩ h
  replace h : impl_track_impl_Key_valid_l1 K a1 a2 k x3 x4 = some o := h
  show AW _ _ (⟨[(1, (.v (.one (.c (sl 5 cs_Key a1))))), (2, (.v (.one (.c (.int .i64 a2))))), (3, (.v (.one (.ptr 1 0)))), (7, (.v (.one (.c (.int .i64 x3))))), (11, (.v (.one (.c (sl 5 cs_Key a1))))), (12, (.v (.one (.c (.int .i64 (a1.length : Int)))))), (13, (.v (.one (.c (.int .i64 x4)))))], [(1, (.box [(.c (.fn 146 0 fun _ => .nilptr)), (.c (.fn 147 0 fun _ => .nilptr)), (.c (.fn 148 0 fun _ => .nilptr))]))]⟩ : St) _
  obtain _ | k := k
  · rw [impl_track_impl_Key_valid_l1] at h; cases h
  rw [impl_track_impl_Key_valid_l1] at h
  refine AW.seq ?_
  refine AW.regionA [] [1, 2, 3, 7, 11, 12, 13, 14] [1] (s' := ⟨[(1, (.v (.one (.c (sl 5 cs_Key a1))))), (2, (.v (.one (.c (.int .i64 a2))))), (3, (.v (.one (.ptr 1 0)))), (7, (.v (.one (.c (.int .i64 x3))))), (11, (.v (.one (.c (sl 5 cs_Key a1))))), (12, (.v (.one (.c (.int .i64 (a1.length : Int)))))), (13, (.v (.one (.c (.int .i64 x4))))), (14, (.v (.one (.c (.bool (decide (x4 < (a1.length : Int))))))))], [(1, (.box [(.c (.fn 146 0 fun _ => .nilptr)), (.c (.fn 147 0 fun _ => .nilptr)), (.c (.fn 148 0 fun _ => .nilptr))]))]⟩) (ob := True ∧ True) (by kernel_rfl) ⟨trivial, trivial⟩ ?_
  refine thenQ_normal ?_
  refine AW.seq ?_
  rcases ite2_cases h with ⟨b5, h⟩ | ⟨b5, h⟩
  · refine AW.cond_t rfl b5 ?_
    refine AW.skip ?_
    refine thenQ_normal ?_
    refine AW.seq ?_
    refine AW.block ?_
    refine AW.seq ?_
    obtain ⟨c6, h⟩ := chk_some h
    refine AW.regionA [.no, .no, .box 4] [1, 2, 3, 7, 9, 11, 12, 13] [1, 4] (s' := ⟨[(1, (.v (.one (.c (sl 5 cs_Key a1))))), (2, (.v (.one (.c (.int .i64 a2))))), (3, (.v (.one (.ptr 1 0)))), (7, (.v (.one (.c (.int .i64 x3))))), (9, (.v (.one (.ptr 4 0)))), (11, (.v (.one (.c (sl 5 cs_Key a1))))), (12, (.v (.one (.c (.int .i64 (a1.length : Int)))))), (13, (.v (.one (.c (.int .i64 x4)))))], [(1, (.box [(.c (.fn 146 0 fun _ => .nilptr)), (.c (.fn 147 0 fun _ => .nilptr)), (.c (.fn 148 0 fun _ => .nilptr))])), (4, (.box [(.c (.int .i64 ((a1.getD x4.toNat default).At))), (.c (.flt .f32 (((a1.getD x4.toNat default).Turn).W).bits)), (.c (.flt .f32 (((a1.getD x4.toNat default).Turn).X).bits)), (.c (.flt .f32 (((a1.getD x4.toNat default).Turn).Y).bits)), (.c (.flt .f32 (((a1.getD x4.toNat default).Turn).Z).bits))]))]⟩) (ob := (0 ≤ x4 ∧ x4 < (a1.length : Int)) ∧ True ∧ True ∧ True ∧ True) (by kernel_rfl) ⟨c6, trivial, trivial, trivial, trivial⟩ ?_
    refine thenQ_normal ?_
    refine AW.seq ?_
    refine AW.seq ?_
    obtain ⟨v7, e8, h⟩ := bind_some h
    refine AW.regionA [.no, .no, .no, .call [.agg (cs_Key (a1.getD x4.toNat default))] [.one (.int .i64 v7)] [[.view]]] [1, 2, 3, 7, 9, 10, 11, 12, 13] [1, 4] (s' := ⟨[(1, (.v (.one (.c (sl 5 cs_Key a1))))), (2, (.v (.one (.c (.int .i64 a2))))), (3, (.v (.one (.ptr 1 0)))), (7, (.v (.one (.c (.int .i64 x3))))), (9, (.v (.one (.ptr 4 0)))), (10, (.v (.one (.c (.int .i64 v7))))), (11, (.v (.one (.c (sl 5 cs_Key a1))))), (12, (.v (.one (.c (.int .i64 (a1.length : Int)))))), (13, (.v (.one (.c (.int .i64 x4)))))], [(1, (.box [(.c (.fn 146 0 fun _ => .nilptr)), (.c (.fn 147 0 fun _ => .nilptr)), (.c (.fn 148 0 fun _ => .nilptr))])), (4, (.box [(.c (.int .i64 ((a1.getD x4.toNat default).At))), (.c (.flt .f32 (((a1.getD x4.toNat default).Turn).W).bits)), (.c (.flt .f32 (((a1.getD x4.toNat default).Turn).X).bits)), (.c (.flt .f32 (((a1.getD x4.toNat default).Turn).Y).bits)), (.c (.flt .f32 (((a1.getD x4.toNat default).Turn).Z).bits))]))]⟩) (ob := True ∧ True ∧ True ∧ ((((((.int .i64 ((a1.getD x4.toNat default).At)) : C) = (.int .i64 ((a1.getD x4.toNat default).At))) ∧ (((.flt .f32 (((a1.getD x4.toNat default).Turn).W).bits) : C) = (.flt .f32 (((a1.getD x4.toNat default).Turn).W).bits)) ∧ (((.flt .f32 (((a1.getD x4.toNat default).Turn).X).bits) : C) = (.flt .f32 (((a1.getD x4.toNat default).Turn).X).bits)) ∧ (((.flt .f32 (((a1.getD x4.toNat default).Turn).Y).bits) : C) = (.flt .f32 (((a1.getD x4.toNat default).Turn).Y).bits)) ∧ (((.flt .f32 (((a1.getD x4.toNat default).Turn).Z).bits) : C) = (.flt .f32 (((a1.getD x4.toNat default).Turn).Z).bits)) ∧ True) ∧ True) ∧ CallOK Try.prog 146 [.agg (cs_Key (a1.getD x4.toNat default))] [.one (.int .i64 v7)]) ∧ True ∧ True) (by kernel_rfl) ⟨trivial, trivial, trivial, ⟨⟨⟨rfl, rfl, rfl, rfl, rfl, trivial⟩, trivial⟩, ok_impl_turnTrack_1 K (a1.getD x4.toNat default) v7 e8⟩, trivial, trivial⟩ ?_
    refine thenQ_normal ?_
    refine AW.seq ?_
    obtain ⟨j10, e11, h⟩ := bind_some h
    refine AW.join1 (s2 := ⟨[(1, (.v (.one (.c (sl 5 cs_Key a1))))), (2, (.v (.one (.c (.int .i64 a2))))), (3, (.v (.one (.ptr 1 0)))), (9, (.v (.one (.ptr 4 0)))), (11, (.v (.one (.c (sl 5 cs_Key a1))))), (12, (.v (.one (.c (.int .i64 (a1.length : Int)))))), (13, (.v (.one (.c (.int .i64 x4))))), (28, (.v (.one (.c (.bool j10)))))], [(1, (.box [(.c (.fn 146 0 fun _ => .nilptr)), (.c (.fn 147 0 fun _ => .nilptr)), (.c (.fn 148 0 fun _ => .nilptr))])), (4, (.box [(.c (.int .i64 ((a1.getD x4.toNat default).At))), (.c (.flt .f32 (((a1.getD x4.toNat default).Turn).W).bits)), (.c (.flt .f32 (((a1.getD x4.toNat default).Turn).X).bits)), (.c (.flt .f32 (((a1.getD x4.toNat default).Turn).Y).bits)), (.c (.flt .f32 (((a1.getD x4.toNat default).Turn).Z).bits))]))]⟩) ?_ ?_
    · rcases ite2_cases e11 with ⟨b9, e11⟩ | ⟨b9, e11⟩
      · replace e11 := some_eq e11
        subst e11
        exact AW.regionA [.no, .no, .no, .dec true] [1, 2, 3, 9, 11, 12, 13, 28] [1, 4] (s' := ⟨[(1, (.v (.one (.c (sl 5 cs_Key a1))))), (2, (.v (.one (.c (.int .i64 a2))))), (3, (.v (.one (.ptr 1 0)))), (9, (.v (.one (.ptr 4 0)))), (11, (.v (.one (.c (sl 5 cs_Key a1))))), (12, (.v (.one (.c (.int .i64 (a1.length : Int)))))), (13, (.v (.one (.c (.int .i64 x4))))), (28, (.v (.one (.c (.bool true)))))], [(1, (.box [(.c (.fn 146 0 fun _ => .nilptr)), (.c (.fn 147 0 fun _ => .nilptr)), (.c (.fn 148 0 fun _ => .nilptr))])), (4, (.box [(.c (.int .i64 ((a1.getD x4.toNat default).At))), (.c (.flt .f32 (((a1.getD x4.toNat default).Turn).W).bits)), (.c (.flt .f32 (((a1.getD x4.toNat default).Turn).X).bits)), (.c (.flt .f32 (((a1.getD x4.toNat default).Turn).Y).bits)), (.c (.flt .f32 (((a1.getD x4.toNat default).Turn).Z).bits))]))]⟩) (ob := True ∧ True ∧ True ∧ (True ∧ (decide (v7 ≤ x3)) = true) ∧ True ∧ True ∧ True ∧ True ∧ True) (by kernel_rfl) ⟨trivial, trivial, trivial, ⟨trivial, b9⟩, trivial, trivial, trivial, trivial, trivial⟩ ⟨rfl, rfl⟩
      · replace e11 := some_eq e11
        subst e11
        exact AW.regionA [.no, .no, .no, .dec false] [1, 2, 3, 9, 11, 12, 13, 28] [1, 4] (s' := ⟨[(1, (.v (.one (.c (sl 5 cs_Key a1))))), (2, (.v (.one (.c (.int .i64 a2))))), (3, (.v (.one (.ptr 1 0)))), (9, (.v (.one (.ptr 4 0)))), (11, (.v (.one (.c (sl 5 cs_Key a1))))), (12, (.v (.one (.c (.int .i64 (a1.length : Int)))))), (13, (.v (.one (.c (.int .i64 x4))))), (28, (.v (.one (.c (.bool (decide (v7 > a2)))))))], [(1, (.box [(.c (.fn 146 0 fun _ => .nilptr)), (.c (.fn 147 0 fun _ => .nilptr)), (.c (.fn 148 0 fun _ => .nilptr))])), (4, (.box [(.c (.int .i64 ((a1.getD x4.toNat default).At))), (.c (.flt .f32 (((a1.getD x4.toNat default).Turn).W).bits)), (.c (.flt .f32 (((a1.getD x4.toNat default).Turn).X).bits)), (.c (.flt .f32 (((a1.getD x4.toNat default).Turn).Y).bits)), (.c (.flt .f32 (((a1.getD x4.toNat default).Turn).Z).bits))]))]⟩) (ob := True ∧ True ∧ True ∧ (True ∧ (decide (v7 ≤ x3)) = false) ∧ True ∧ True ∧ True ∧ True ∧ True) (by kernel_rfl) ⟨trivial, trivial, trivial, ⟨trivial, b9⟩, trivial, trivial, trivial, trivial, trivial⟩ ⟨rfl, rfl⟩
    refine thenQ_normal ?_
    rcases ite2_cases h with ⟨b12, h⟩ | ⟨b12, h⟩
    · refine AW.cond_t rfl b12 ?_
      refine AW.seq ?_
      refine AW.regionA [] [6] [] (s' := ⟨[(6, (.v (.one (.c (.bool false)))))], []⟩) (ob := True ∧ True) (by kernel_rfl) ⟨trivial, trivial⟩ ?_
      refine thenQ_normal ?_
      refine AW.ret ?_
      refine thenQ_ret ?_
      refine blockQ_ret ?_
      refine thenQ_ret ?_
      refine loopQ_ret ?_
      refine blockQ_ret ?_
      refine thenQ_ret ?_
      replace h := some_eq h
      subst h
      exact ⟨.inr rfl, retOK_of [(.one (.c (.bool false)))] (by kernel_rfl) ⟨⟨rfl, trivial⟩, trivial⟩ (of_decide_eq_true (by kernel_rfl))⟩
    · refine AW.cond_f rfl b12 ?_
      refine AW.skip ?_
      refine thenQ_normal ?_
      obtain ⟨v13, e14, h⟩ := bind_some h
      refine AW.regionA [.no, .no, .no, .call [.agg (cs_Key (a1.getD x4.toNat default))] [.one (.int .i64 v13)] [[.view]]] [1, 2, 3, 7, 11, 12, 13] [1] (s' := ⟨[(1, (.v (.one (.c (sl 5 cs_Key a1))))), (2, (.v (.one (.c (.int .i64 a2))))), (3, (.v (.one (.ptr 1 0)))), (7, (.v (.one (.c (.int .i64 v13))))), (11, (.v (.one (.c (sl 5 cs_Key a1))))), (12, (.v (.one (.c (.int .i64 (a1.length : Int)))))), (13, (.v (.one (.c (.int .i64 x4)))))], [(1, (.box [(.c (.fn 146 0 fun _ => .nilptr)), (.c (.fn 147 0 fun _ => .nilptr)), (.c (.fn 148 0 fun _ => .nilptr))]))]⟩) (ob := True ∧ True ∧ True ∧ ((((((.int .i64 ((a1.getD x4.toNat default).At)) : C) = (.int .i64 ((a1.getD x4.toNat default).At))) ∧ (((.flt .f32 (((a1.getD x4.toNat default).Turn).W).bits) : C) = (.flt .f32 (((a1.getD x4.toNat default).Turn).W).bits)) ∧ (((.flt .f32 (((a1.getD x4.toNat default).Turn).X).bits) : C) = (.flt .f32 (((a1.getD x4.toNat default).Turn).X).bits)) ∧ (((.flt .f32 (((a1.getD x4.toNat default).Turn).Y).bits) : C) = (.flt .f32 (((a1.getD x4.toNat default).Turn).Y).bits)) ∧ (((.flt .f32 (((a1.getD x4.toNat default).Turn).Z).bits) : C) = (.flt .f32 (((a1.getD x4.toNat default).Turn).Z).bits)) ∧ True) ∧ True) ∧ CallOK Try.prog 146 [.agg (cs_Key (a1.getD x4.toNat default))] [.one (.int .i64 v13)]) ∧ True ∧ True) (by kernel_rfl) ⟨trivial, trivial, trivial, ⟨⟨⟨rfl, rfl, rfl, rfl, rfl, trivial⟩, trivial⟩, ok_impl_turnTrack_1 K (a1.getD x4.toNat default) v13 e14⟩, trivial, trivial⟩ ?_
      refine blockQ_normal ?_
      refine thenQ_normal ?_
      refine AW.regionA [] [1, 2, 3, 7, 11, 12, 13] [1] (s' := ⟨[(1, (.v (.one (.c (sl 5 cs_Key a1))))), (2, (.v (.one (.c (.int .i64 a2))))), (3, (.v (.one (.ptr 1 0)))), (7, (.v (.one (.c (.int .i64 v13))))), (11, (.v (.one (.c (sl 5 cs_Key a1))))), (12, (.v (.one (.c (.int .i64 (a1.length : Int)))))), (13, (.v (.one (.c (.int .i64 (IntKind.i64.wrap (x4 + (1 : Int))))))))], [(1, (.box [(.c (.fn 146 0 fun _ => .nilptr)), (.c (.fn 147 0 fun _ => .nilptr)), (.c (.fn 148 0 fun _ => .nilptr))]))]⟩) (ob := True ∧ True ∧ True) (by kernel_rfl) ⟨trivial, trivial, trivial⟩ ?_
      exact loopQ_normal (k, v13, (IntKind.i64.wrap (x4 + (1 : Int)))) h (Nat.lt_succ_self k) (Sub.keep [1, 2, 3, 7, 11, 12, 13] [1] (by kernel_rfl) (by kernel_rfl))
  · refine AW.cond_f rfl b5 ?_
    refine AW.exit ?_
    refine thenQ_exit ?_
    refine loopQ_exit ?_
    refine blockQ_exit ?_
    refine thenQ_normal ?_
    refine AW.seq ?_
    obtain ⟨j16, e17, h⟩ := bind_some h
    refine AW.join1 (s2 := ⟨[(6, (.v (.one (.c (.bool j16)))))], []⟩) ?_ ?_
    · rcases ite2_cases e17 with ⟨b15, e17⟩ | ⟨b15, e17⟩
      · replace e17 := some_eq e17
        subst e17
        exact AW.regionA [.no, .no, .no, .dec true] [6] [] (s' := ⟨[(6, (.v (.one (.c (.bool (decide ((a1.length : Int) ≤ (12 : Int))))))))], []⟩) (ob := True ∧ True ∧ True ∧ (True ∧ (decide ((a1.length : Int) ≥ (1 : Int))) = true) ∧ True ∧ True ∧ True ∧ True ∧ True ∧ True) (by kernel_rfl) ⟨trivial, trivial, trivial, ⟨trivial, b15⟩, trivial, trivial, trivial, trivial, trivial, trivial⟩ ⟨rfl, rfl⟩
      · replace e17 := some_eq e17
        subst e17
        exact AW.regionA [.no, .no, .no, .dec false] [6] [] (s' := ⟨[(6, (.v (.one (.c (.bool false)))))], []⟩) (ob := True ∧ True ∧ True ∧ (True ∧ (decide ((a1.length : Int) ≥ (1 : Int))) = false) ∧ True ∧ True ∧ True ∧ True ∧ True ∧ True) (by kernel_rfl) ⟨trivial, trivial, trivial, ⟨trivial, b15⟩, trivial, trivial, trivial, trivial, trivial, trivial⟩ ⟨rfl, rfl⟩
    refine thenQ_normal ?_
    refine AW.ret ?_
    replace h := some_eq h
    subst h
    exact ⟨.inr rfl, retOK_of [(.one (.c (.bool j16)))] (by kernel_rfl) ⟨⟨rfl, trivial⟩, trivial⟩ (of_decide_eq_true (by kernel_rfl))⟩

/-! impl.rootTrack -/
def impl_rootTrack (_K : Nat) : Option (Unit) :=
  some ()

theorem ok_impl_rootTrack (K : Nat) (o : (Unit)) (h : impl_rootTrack K  = some o) : CallOK Try.prog 79 [] [.agg [(.fn 150 0 fun _ => .nilptr), (.fn 151 0 fun _ => .nilptr), (.fn 152 0 fun _ => .nilptr)]] := by
  refine callOK_of_AW Try.func79 rfl (by kernel_rfl) (Nat.le_of_ble_eq_true (by kernel_rfl)) ?_
  intro w0
  unfold impl_rootTrack at h
  refine AW.seq ?_
  refine AW.regionA [.box 1] [0] [1] (s' := ⟨[(0, (.v (.one (.ptr 1 0))))], [(1, (.box [(.c .nilfn), (.c .nilfn), (.c .nilfn)]))]⟩) (ob := True ∧ True) (by kernel_rfl) ⟨trivial, trivial⟩ ?_
  refine thenQ_normal ?_
  refine AW.seq ?_
  refine AW.regionA [] [0] [1] (s' := ⟨[(0, (.v (.one (.ptr 1 0))))], [(1, (.box [(.c (.fn 150 0 fun _ => .nilptr)), (.c (.fn 151 0 fun _ => .nilptr)), (.c (.fn 152 0 fun _ => .nilptr))]))]⟩) (ob := True ∧ True ∧ True) (by kernel_rfl) ⟨trivial, trivial, trivial⟩ ?_
  refine thenQ_normal ?_
  refine AW.ret ?_
  replace h := some_eq h
  subst h
  exact ⟨.inr rfl, retOK_of [(.agg [(.c (.fn 150 0 fun _ => .nilptr)), (.c (.fn 151 0 fun _ => .nilptr)), (.c (.fn 152 0 fun _ => .nilptr))])] (by kernel_rfl) ⟨⟨⟨rfl, rfl⟩, ⟨rfl, rfl⟩, ⟨rfl, rfl⟩, trivial⟩, trivial⟩ (of_decide_eq_true (by kernel_rfl))⟩

/-! impl.rootTrack$1 -/
def impl_rootTrack_1 (_K : Nat) (a0 : RootKey) : Option (Int) :=
  some a0.At

theorem ok_impl_rootTrack_1 (K : Nat) (a0 : RootKey) (o : (Int)) (h : impl_rootTrack_1 K a0 = some o) : CallOK Try.prog 150 [.agg (cs_RootKey a0)] [.one (.int .i64 o)] := by
  refine callOK_of_AW Try.func150 rfl (by kernel_rfl) (Nat.le_of_ble_eq_true (by kernel_rfl)) ?_
  intro w0
  unfold impl_rootTrack_1 at h
  refine AW.seq ?_
  refine AW.regionA [.box 1] [1] [1] (s' := ⟨[(1, (.v (.one (.ptr 1 0))))], [(1, (.box [(.c (.int .i64 a0.At)), (.c (.flt .f32 a0.Place.X.bits)), (.c (.flt .f32 a0.Place.Y.bits)), (.c (.flt .f32 a0.Place.Z.bits))]))]⟩) (ob := True ∧ True ∧ True) (by kernel_rfl) ⟨trivial, trivial, trivial⟩ ?_
  refine thenQ_normal ?_
  refine AW.seq ?_
  refine AW.regionA [] [2] [] (s' := ⟨[(2, (.v (.one (.c (.int .i64 a0.At)))))], []⟩) (ob := True ∧ True ∧ True ∧ True) (by kernel_rfl) ⟨trivial, trivial, trivial, trivial⟩ ?_
  refine thenQ_normal ?_
  refine AW.ret ?_
  replace h := some_eq h
  subst h
  exact ⟨.inr rfl, retOK_of [(.one (.c (.int .i64 a0.At)))] (by kernel_rfl) ⟨⟨rfl, trivial⟩, trivial⟩ (of_decide_eq_true (by kernel_rfl))⟩

/-! (impl.track[impl.RootKey]).valid -/
def impl_track_impl_RootKey_valid_l1 (K : Nat) (a1 : (List RootKey)) (a2 : Int) : Nat → Int → Int → Option (Bool)
  | 0, _, _ => none
  | k + 1, x3, x4 => ite2 ((decide (x4 < (a1.length : Int)))) (chk (0 ≤ x4 ∧ x4 < (a1.length : Int)) ((impl_rootTrack_1 K (a1.getD x4.toNat default)).bind fun v7 => (ite2 ((decide (v7 ≤ x3))) (some true) (some (decide (v7 > a2)))).bind fun j10 => ite2 (j10) (some false) ((impl_rootTrack_1 K (a1.getD x4.toNat default)).bind fun v13 => impl_track_impl_RootKey_valid_l1 K a1 a2 k v13 (IntKind.i64.wrap (x4 + (1 : Int)))))) ((ite2 ((decide ((a1.length : Int) ≥ (1 : Int)))) (some (decide ((a1.length : Int) ≤ (12 : Int)))) (some false)).bind fun j16 => some j16)

def impl_track_impl_RootKey_valid (K : Nat) (a1 : (List RootKey)) (a2 : Int) : Option (Bool) :=
  impl_track_impl_RootKey_valid_l1 K a1 a2 K ((-1) : Int) (0 : Int)

theorem ok_impl_track_impl_RootKey_valid (K : Nat) (a1 : (List RootKey)) (a2 : Int) (o : (Bool)) (h : impl_track_impl_RootKey_valid K a1 a2 = some o) : CallOK Try.prog 140 [.agg [(.fn 150 0 fun _ => .nilptr), (.fn 151 0 fun _ => .nilptr), (.fn 152 0 fun _ => .nilptr)], .one (sl 4 cs_RootKey a1), .one (.int .i64 a2)] [.one (.bool o)] := by
  refine callOK_of_AW Try.func140 rfl (by kernel_rfl) (Nat.le_of_ble_eq_true (by kernel_rfl)) ?_
  intro w0
  unfold impl_track_impl_RootKey_valid at h
  refine AW.seq ?_
  refine AW.regionA [.box 1] [1, 2, 3] [1] (s' := ⟨[(1, (.v (.one (.c (sl 4 cs_RootKey a1))))), (2, (.v (.one (.c (.int .i64 a2))))), (3, (.v (.one (.ptr 1 0))))], [(1, (.box [(.c (.fn 150 0 fun _ => .nilptr)), (.c (.fn 151 0 fun _ => .nilptr)), (.c (.fn 152 0 fun _ => .nilptr))]))]⟩) (ob := True ∧ True ∧ True) (by kernel_rfl) ⟨trivial, trivial, trivial⟩ ?_
  refine thenQ_normal ?_
  refine AW.seq ?_
  refine AW.regionA [] [1, 2, 3, 7] [1] (s' := ⟨[(1, (.v (.one (.c (sl 4 cs_RootKey a1))))), (2, (.v (.one (.c (.int .i64 a2))))), (3, (.v (.one (.ptr 1 0)))), (7, (.v (.one (.c (.int .i64 ((-1) : Int))))))], [(1, (.box [(.c (.fn 150 0 fun _ => .nilptr)), (.c (.fn 151 0 fun _ => .nilptr)), (.c (.fn 152 0 fun _ => .nilptr))]))]⟩) (ob := True ∧ True) (by kernel_rfl) ⟨trivial, trivial⟩ ?_
  refine thenQ_normal ?_
  refine AW.seq ?_
  refine AW.seq ?_
  refine AW.regionA [] [1, 2, 3, 7, 11, 12, 13] [1] (s' := ⟨[(1, (.v (.one (.c (sl 4 cs_RootKey a1))))), (2, (.v (.one (.c (.int .i64 a2))))), (3, (.v (.one (.ptr 1 0)))), (7, (.v (.one (.c (.int .i64 ((-1) : Int)))))), (11, (.v (.one (.c (sl 4 cs_RootKey a1))))), (12, (.v (.one (.c (.int .i64 (a1.length : Int)))))), (13, (.v (.one (.c (.int .i64 (0 : Int))))))], [(1, (.box [(.c (.fn 150 0 fun _ => .nilptr)), (.c (.fn 151 0 fun _ => .nilptr)), (.c (.fn 152 0 fun _ => .nilptr))]))]⟩) (ob := True ∧ True ∧ True ∧ True) (by kernel_rfl) ⟨trivial, trivial, trivial, trivial⟩ ?_
  refine thenQ_normal ?_
  refine AW.block ?_
  refine AW.loopQ (σ := Nat × Int × Int) (fun p => ⟨[(1, (.v (.one (.c (sl 4 cs_RootKey a1))))), (2, (.v (.one (.c (.int .i64 a2))))), (3, (.v (.one (.ptr 1 0)))), (7, (.v (.one (.c (.int .i64 p.2.1))))), (11, (.v (.one (.c (sl 4 cs_RootKey a1))))), (12, (.v (.one (.c (.int .i64 (a1.length : Int)))))), (13, (.v (.one (.c (.int .i64 p.2.2)))))], [(1, (.box [(.c (.fn 150 0 fun _ => .nilptr)), (.c (.fn 151 0 fun _ => .nilptr)), (.c (.fn 152 0 fun _ => .nilptr))]))]⟩) (fun p => impl_track_impl_RootKey_valid_l1 K a1 a2 p.1 p.2.1 p.2.2 = some o) (fun p => p.1) (K, ((-1) : Int), (0 : Int)) h ?_
  clear h
  rintro ⟨k, x3, x4⟩ h
  replace h : impl_track_impl_RootKey_valid_l1 K a1 a2 k x3 x4 = some o := h
  show AW _ _ (⟨[(1, (.v (.one (.c (sl 4 cs_RootKey a1))))), (2, (.v (.one (.c (.int .i64 a2))))), (3, (.v (.one (.ptr 1 0)))), (7, (.v (.one (.c (.int .i64 x3))))), (11, (.v (.one (.c (sl 4 cs_RootKey a1))))), (12, (.v (.one (.c (.int .i64 (a1.length : Int)))))), (13, (.v (.one (.c (.int .i64 x4)))))], [(1, (.box [(.c (.fn 150 0 fun _ => .nilptr)), (.c (.fn 151 0 fun _ => .nilptr)), (.c (.fn 152 0 fun _ => .nilptr))]))]⟩ : St) _
  obtain _ | k := k
  · rw [impl_track_impl_RootKey_valid_l1] at h; cases h
  rw [impl_track_impl_RootKey_valid_l1] at h
  refine AW.seq ?_
  refine AW.regionA [] [1, 2, 3, 7, 11, 12, 13, 14] [1] (s' := ⟨[(1, (.v (.one (.c (sl 4 cs_RootKey a1))))), (2, (.v (.one (.c (.int .i64 a2))))), (3, (.v (.one (.ptr 1 0)))), (7, (.v (.one (.c (.int .i64 x3))))), (11, (.v (.one (.c (sl 4 cs_RootKey a1))))), (12, (.v (.one (.c (.int .i64 (a1.length : Int)))))), (13, (.v (.one (.c (.int .i64 x4))))), (14, (.v (.one (.c (.bool (decide (x4 < (a1.length : Int))))))))], [(1, (.box [(.c (.fn 150 0 fun _ => .nilptr)), (.c (.fn 151 0 fun _ => .nilptr)), (.c (.fn 152 0 fun _ => .nilptr))]))]⟩) (ob := True ∧ True) (by kernel_rfl) ⟨trivial, trivial⟩ ?_
  refine thenQ_normal ?_
  refine AW.seq ?_
  rcases ite2_cases h with ⟨b5, h⟩ | ⟨b5, h⟩
  · refine AW.cond_t rfl b5 ?_
    refine AW.skip ?_
    refine thenQ_normal ?_
    refine AW.seq ?_
    refine AW.block ?_
    refine AW.seq ?_
    obtain ⟨c6, h⟩ := chk_some h
    refine AW.regionA [.no, .no, .box 4] [1, 2, 3, 7, 9, 11, 12, 13] [1, 4] (s' := ⟨[(1, (.v (.one (.c (sl 4 cs_RootKey a1))))), (2, (.v (.one (.c (.int .i64 a2))))), (3, (.v (.one (.ptr 1 0)))), (7, (.v (.one (.c (.int .i64 x3))))), (9, (.v (.one (.ptr 4 0)))), (11, (.v (.one (.c (sl 4 cs_RootKey a1))))), (12, (.v (.one (.c (.int .i64 (a1.length : Int)))))), (13, (.v (.one (.c (.int .i64 x4)))))], [(1, (.box [(.c (.fn 150 0 fun _ => .nilptr)), (.c (.fn 151 0 fun _ => .nilptr)), (.c (.fn 152 0 fun _ => .nilptr))])), (4, (.box [(.c (.int .i64 ((a1.getD x4.toNat default).At))), (.c (.flt .f32 (((a1.getD x4.toNat default).Place).X).bits)), (.c (.flt .f32 (((a1.getD x4.toNat default).Place).Y).bits)), (.c (.flt .f32 (((a1.getD x4.toNat default).Place).Z).bits))]))]⟩) (ob := (0 ≤ x4 ∧ x4 < (a1.length : Int)) ∧ True ∧ True ∧ True ∧ True) (by kernel_rfl) ⟨c6, trivial, trivial, trivial, trivial⟩ ?_
    refine thenQ_normal ?_
    refine AW.seq ?_
    refine AW.seq ?_
    obtain ⟨v7, e8, h⟩ := bind_some h
    refine AW.regionA [.no, .no, .no, .call [.agg (cs_RootKey (a1.getD x4.toNat default))] [.one (.int .i64 v7)] [[.view]]] [1, 2, 3, 7, 9, 10, 11, 12, 13] [1, 4] (s' := ⟨[(1, (.v (.one (.c (sl 4 cs_RootKey a1))))), (2, (.v (.one (.c (.int .i64 a2))))), (3, (.v (.one (.ptr 1 0)))), (7, (.v (.one (.c (.int .i64 x3))))), (9, (.v (.one (.ptr 4 0)))), (10, (.v (.one (.c (.int .i64 v7))))), (11, (.v (.one (.c (sl 4 cs_RootKey a1))))), (12, (.v (.one (.c (.int .i64 (a1.length : Int)))))), (13, (.v (.one (.c (.int .i64 x4)))))], [(1, (.box [(.c (.fn 150 0 fun _ => .nilptr)), (.c (.fn 151 0 fun _ => .nilptr)), (.c (.fn 152 0 fun _ => .nilptr))])), (4, (.box [(.c (.int .i64 ((a1.getD x4.toNat default).At))), (.c (.flt .f32 (((a1.getD x4.toNat default).Place).X).bits)), (.c (.flt .f32 (((a1.getD x4.toNat default).Place).Y).bits)), (.c (.flt .f32 (((a1.getD x4.toNat default).Place).Z).bits))]))]⟩) (ob := True ∧ True ∧ True ∧ ((((((.int .i64 ((a1.getD x4.toNat default).At)) : C) = (.int .i64 ((a1.getD x4.toNat default).At))) ∧ (((.flt .f32 (((a1.getD x4.toNat default).Place).X).bits) : C) = (.flt .f32 (((a1.getD x4.toNat default).Place).X).bits)) ∧ (((.flt .f32 (((a1.getD x4.toNat default).Place).Y).bits) : C) = (.flt .f32 (((a1.getD x4.toNat default).Place).Y).bits)) ∧ (((.flt .f32 (((a1.getD x4.toNat default).Place).Z).bits) : C) = (.flt .f32 (((a1.getD x4.toNat default).Place).Z).bits)) ∧ True) ∧ True) ∧ CallOK Try.prog 150 [.agg (cs_RootKey (a1.getD x4.toNat default))] [.one (.int .i64 v7)]) ∧ True ∧ True) (by kernel_rfl) ⟨trivial, trivial, trivial, ⟨⟨⟨rfl, rfl, rfl, rfl, trivial⟩, trivial⟩, ok_impl_rootTrack_1 K (a1.getD x4.toNat default) v7 e8⟩, trivial, trivial⟩ ?_
    refine thenQ_normal ?_
    refine AW.seq ?_
    obtain ⟨j10, e11, h⟩ := bind_some h
    refine AW.join1 (s2 := ⟨[(1, (.v (.one (.c (sl 4 cs_RootKey a1))))), (2, (.v (.one (.c (.int .i64 a2))))), (3, (.v (.one (.ptr 1 0)))), (9, (.v (.one (.ptr 4 0)))), (11, (.v (.one (.c (sl 4 cs_RootKey a1))))), (12, (.v (.one (.c (.int .i64 (a1.length : Int)))))), (13, (.v (.one (.c (.int .i64 x4))))), (28, (.v (.one (.c (.bool j10)))))], [(1, (.box [(.c (.fn 150 0 fun _ => .nilptr)), (.c (.fn 151 0 fun _ => .nilptr)), (.c (.fn 152 0 fun _ => .nilptr))])), (4, (.box [(.c (.int .i64 ((a1.getD x4.toNat default).At))), (.c (.flt .f32 (((a1.getD x4.toNat default).Place).X).bits)), (.c (.flt .f32 (((a1.getD x4.toNat default).Place).Y).bits)), (.c (.flt .f32 (((a1.getD x4.toNat default).Place).Z).bits))]))]⟩) ?_ ?_
    · rcases ite2_cases e11 with ⟨b9, e11⟩ | ⟨b9, e11⟩
      · replace e11 := some_eq e11
        subst e11
        exact AW.regionA [.no, .no, .no, .dec true] [1, 2, 3, 9, 11, 12, 13, 28] [1, 4] (s' := ⟨[(1, (.v (.one (.c (sl 4 cs_RootKey a1))))), (2, (.v (.one (.c (.int .i64 a2))))), (3, (.v (.one (.ptr 1 0)))), (9, (.v (.one (.ptr 4 0)))), (11, (.v (.one (.c (sl 4 cs_RootKey a1))))), (12, (.v (.one (.c (.int .i64 (a1.length : Int)))))), (13, (.v (.one (.c (.int .i64 x4))))), (28, (.v (.one (.c (.bool true)))))], [(1, (.box [(.c (.fn 150 0 fun _ => .nilptr)), (.c (.fn 151 0 fun _ => .nilptr)), (.c (.fn 152 0 fun _ => .nilptr))])), (4, (.box [(.c (.int .i64 ((a1.getD x4.toNat default).At))), (.c (.flt .f32 (((a1.getD x4.toNat default).Place).X).bits)), (.c (.flt .f32 (((a1.getD x4.toNat default).Place).Y).bits)), (.c (.flt .f32 (((a1.getD x4.toNat default).Place).Z).bits))]))]⟩) (ob := True ∧ True ∧ True ∧ (True ∧ (decide (v7 ≤ x3)) = true) ∧ True ∧ True ∧ True ∧ True ∧ True) (by kernel_rfl) ⟨trivial, trivial, trivial, ⟨trivial, b9⟩, trivial, trivial, trivial, trivial, trivial⟩ ⟨rfl, rfl⟩
      · replace e11 := some_eq e11
        subst e11
        exact AW.regionA [.no, .no, .no, .dec false] [1, 2, 3, 9, 11, 12, 13, 28] [1, 4] (s' := ⟨[(1, (.v (.one (.c (sl 4 cs_RootKey a1))))), (2, (.v (.one (.c (.int .i64 a2))))), (3, (.v (.one (.ptr 1 0)))), (9, (.v (.one (.ptr 4 0)))), (11, (.v (.one (.c (sl 4 cs_RootKey a1))))), (12, (.v (.one (.c (.int .i64 (a1.length : Int)))))), (13, (.v (.one (.c (.int .i64 x4))))), (28, (.v (.one (.c (.bool (decide (v7 > a2)))))))], [(1, (.box [(.c (.fn 150 0 fun _ => .nilptr)), (.c (.fn 151 0 fun _ => .nilptr)), (.c (.fn 152 0 fun _ => .nilptr))])), (4, (.box [(.c (.int .i64 ((a1.getD x4.toNat default).At))), (.c (.flt .f32 (((a1.getD x4.toNat default).Place).X).bits)), (.c (.flt .f32 (((a1.getD x4.toNat default).Place).Y).bits)), (.c (.flt .f32 (((a1.getD x4.toNat default).Place).Z).bits))]))]⟩) (ob := True ∧ True ∧ True ∧ (True ∧ (decide (v7 ≤ x3)) = false) ∧ True ∧ True ∧ True ∧ True ∧ True) (by kernel_rfl) ⟨trivial, trivial, trivial, ⟨trivial, b9⟩, trivial, trivial, trivial, trivial, trivial⟩ ⟨rfl, rfl⟩
    refine thenQ_normal ?_
    rcases ite2_cases h with ⟨b12, h⟩ | ⟨b12, h⟩
    · refine AW.cond_t rfl b12 ?_
      refine AW.seq ?_
      refine AW.regionA [] [6] [] (s' := ⟨[(6, (.v (.one (.c (.bool false)))))], []⟩) (ob := True ∧ True) (by kernel_rfl) ⟨trivial, trivial⟩ ?_
      refine thenQ_normal ?_
      refine AW.ret ?_
      refine thenQ_ret ?_
      refine blockQ_ret ?_
      refine thenQ_ret ?_
      refine loopQ_ret ?_
      refine blockQ_ret ?_
      refine thenQ_ret ?_
      replace h := some_eq h
      subst h
      exact ⟨.inr rfl, retOK_of [(.one (.c (.bool false)))] (by kernel_rfl) ⟨⟨rfl, trivial⟩, trivial⟩ (of_decide_eq_true (by kernel_rfl))⟩
    · refine AW.cond_f rfl b12 ?_
      refine AW.skip ?_
      refine thenQ_normal ?_
      obtain ⟨v13, e14, h⟩ := bind_some h
      refine AW.regionA [.no, .no, .no, .call [.agg (cs_RootKey (a1.getD x4.toNat default))] [.one (.int .i64 v13)] [[.view]]] [1, 2, 3, 7, 11, 12, 13] [1] (s' := ⟨[(1, (.v (.one (.c (sl 4 cs_RootKey a1))))), (2, (.v (.one (.c (.int .i64 a2))))), (3, (.v (.one (.ptr 1 0)))), (7, (.v (.one (.c (.int .i64 v13))))), (11, (.v (.one (.c (sl 4 cs_RootKey a1))))), (12, (.v (.one (.c (.int .i64 (a1.length : Int)))))), (13, (.v (.one (.c (.int .i64 x4)))))], [(1, (.box [(.c (.fn 150 0 fun _ => .nilptr)), (.c (.fn 151 0 fun _ => .nilptr)), (.c (.fn 152 0 fun _ => .nilptr))]))]⟩) (ob := True ∧ True ∧ True ∧ ((((((.int .i64 ((a1.getD x4.toNat default).At)) : C) = (.int .i64 ((a1.getD x4.toNat default).At))) ∧ (((.flt .f32 (((a1.getD x4.toNat default).Place).X).bits) : C) = (.flt .f32 (((a1.getD x4.toNat default).Place).X).bits)) ∧ (((.flt .f32 (((a1.getD x4.toNat default).Place).Y).bits) : C) = (.flt .f32 (((a1.getD x4.toNat default).Place).Y).bits)) ∧ (((.flt .f32 (((a1.getD x4.toNat default).Place).Z).bits) : C) = (.flt .f32 (((a1.getD x4.toNat default).Place).Z).bits)) ∧ True) ∧ True) ∧ CallOK Try.prog 150 [.agg (cs_RootKey (a1.getD x4.toNat default))] [.one (.int .i64 v13)]) ∧ True ∧ True) (by kernel_rfl) ⟨trivial, trivial, trivial, ⟨⟨⟨rfl, rfl, rfl, rfl, trivial⟩, trivial⟩, ok_impl_rootTrack_1 K (a1.getD x4.toNat default) v13 e14⟩, trivial, trivial⟩ ?_
      refine blockQ_normal ?_
      refine thenQ_normal ?_
      refine AW.regionA [] [1, 2, 3, 7, 11, 12, 13] [1] (s' := ⟨[(1, (.v (.one (.c (sl 4 cs_RootKey a1))))), (2, (.v (.one (.c (.int .i64 a2))))), (3, (.v (.one (.ptr 1 0)))), (7, (.v (.one (.c (.int .i64 v13))))), (11, (.v (.one (.c (sl 4 cs_RootKey a1))))), (12, (.v (.one (.c (.int .i64 (a1.length : Int)))))), (13, (.v (.one (.c (.int .i64 (IntKind.i64.wrap (x4 + (1 : Int))))))))], [(1, (.box [(.c (.fn 150 0 fun _ => .nilptr)), (.c (.fn 151 0 fun _ => .nilptr)), (.c (.fn 152 0 fun _ => .nilptr))]))]⟩) (ob := True ∧ True ∧ True) (by kernel_rfl) ⟨trivial, trivial, trivial⟩ ?_
      exact loopQ_normal (k, v13, (IntKind.i64.wrap (x4 + (1 : Int)))) h (Nat.lt_succ_self k) (Sub.keep [1, 2, 3, 7, 11, 12, 13] [1] (by kernel_rfl) (by kernel_rfl))
  · refine AW.cond_f rfl b5 ?_
    refine AW.exit ?_
    refine thenQ_exit ?_
    refine loopQ_exit ?_
    refine blockQ_exit ?_
    refine thenQ_normal ?_
    refine AW.seq ?_
    obtain ⟨j16, e17, h⟩ := bind_some h
    refine AW.join1 (s2 := ⟨[(6, (.v (.one (.c (.bool j16)))))], []⟩) ?_ ?_
    · rcases ite2_cases e17 with ⟨b15, e17⟩ | ⟨b15, e17⟩
      · replace e17 := some_eq e17
        subst e17
        exact AW.regionA [.no, .no, .no, .dec true] [6] [] (s' := ⟨[(6, (.v (.one (.c (.bool (decide ((a1.length : Int) ≤ (12 : Int))))))))], []⟩) (ob := True ∧ True ∧ True ∧ (True ∧ (decide ((a1.length : Int) ≥ (1 : Int))) = true) ∧ True ∧ True ∧ True ∧ True ∧ True ∧ True) (by kernel_rfl) ⟨trivial, trivial, trivial, ⟨trivial, b15⟩, trivial, trivial, trivial, trivial, trivial, trivial⟩ ⟨rfl, rfl⟩
      · replace e17 := some_eq e17
        subst e17
        exact AW.regionA [.no, .no, .no, .dec false] [6] [] (s' := ⟨[(6, (.v (.one (.c (.bool false)))))], []⟩) (ob := True ∧ True ∧ True ∧ (True ∧ (decide ((a1.length : Int) ≥ (1 : Int))) = false) ∧ True ∧ True ∧ True ∧ True ∧ True ∧ True) (by kernel_rfl) ⟨trivial, trivial, trivial, ⟨trivial, b15⟩, trivial, trivial, trivial, trivial, trivial, trivial⟩ ⟨rfl, rfl⟩
    refine thenQ_normal ?_
    refine AW.ret ?_
    replace h := some_eq h
    subst h
    exact ⟨.inr rfl, retOK_of [(.one (.c (.bool j16)))] (by kernel_rfl) ⟨⟨rfl, trivial⟩, trivial⟩ (of_decide_eq_true (by kernel_rfl))⟩

/-! impl.ValidClip -/
def impl_ValidClip_l1 (K : Nat) (a0 : Clip) : Nat → Int → Option (Bool)
  | 0, _ => none
  | k + 1, x10 => ite2 ((decide (x10 < (a0.Tracks.length : Int)))) (chk (0 ≤ x10 ∧ x10 < (a0.Tracks.length : Int)) ((impl_turnTrack K ).bind fun v13 => (impl_track_impl_Key_valid K (a0.Tracks.getD x10.toNat default) a0.Length).bind fun v15 => ite2 ((!v15)) (some false) (impl_ValidClip_l1 K a0 k (IntKind.i64.wrap (x10 + (1 : Int)))))) ((impl_rootTrack K ).bind fun v18 => (impl_track_impl_RootKey_valid K a0.Roots a0.Length).bind fun v20 => some v20)

def impl_ValidClip (K : Nat) (a0 : Clip) : Option (Bool) :=
  (ite2 ((decide (a0.Length < (1 : Int)))) (some true) (ite2 ((decide (a0.Length > (1000 : Int)))) (some true) (ite2 ((decide (a0.Kind < (0 : Int)))) (some true) (ite2 ((decide (a0.Kind > (2 : Int)))) (some true) (ite2 ((decide ((a0.Tracks.length : Int) < (1 : Int)))) (some true) (some (decide ((a0.Tracks.length : Int) > (12 : Int))))))))).bind fun j6 => ite2 (j6) (some false) (impl_ValidClip_l1 K a0 K (0 : Int))

theorem ok_impl_ValidClip (K : Nat) (a0 : Clip) (o : (Bool)) (h : impl_ValidClip K a0 = some o) : CallOK Try.prog 63 [.agg (cs_Clip a0)] [.one (.bool o)] := by
  refine callOK_of_AW Try.func63 rfl (by kernel_rfl) (Nat.le_of_ble_eq_true (by kernel_rfl)) ?_
  intro w0
  unfold impl_ValidClip at h
  refine AW.seq ?_
  refine AW.regionA [.box 1] [1] [1] (s' := ⟨[(1, (.v (.one (.ptr 1 0))))], [(1, (.box [(.c (.int .i64 a0.Length)), (.c (.int .i64 a0.Kind)), (.c (sl 1 (csL 5 cs_Key) a0.Tracks)), (.c (sl 4 cs_RootKey a0.Roots))]))]⟩) (ob := True ∧ True ∧ True) (by kernel_rfl) ⟨trivial, trivial, trivial⟩ ?_
  refine thenQ_normal ?_
  refine AW.seq ?_
  refine AW.seq ?_
  obtain ⟨j6, e7, h⟩ := bind_some h
  refine AW.join1 (s2 := ⟨[(1, (.v (.one (.ptr 1 0)))), (34, (.v (.one (.c (.bool j6)))))], [(1, (.box [(.c (.int .i64 a0.Length)), (.c (.int .i64 a0.Kind)), (.c (sl 1 (csL 5 cs_Key) a0.Tracks)), (.c (sl 4 cs_RootKey a0.Roots))]))]⟩) ?_ ?_
  · rcases ite2_cases e7 with ⟨b1, e7⟩ | ⟨b1, e7⟩
    · replace e7 := some_eq e7
      subst e7
      exact AW.regionA [.no, .no, .no, .dec true] [1, 34] [1] (s' := ⟨[(1, (.v (.one (.ptr 1 0)))), (34, (.v (.one (.c (.bool true)))))], [(1, (.box [(.c (.int .i64 a0.Length)), (.c (.int .i64 a0.Kind)), (.c (sl 1 (csL 5 cs_Key) a0.Tracks)), (.c (sl 4 cs_RootKey a0.Roots))]))]⟩) (ob := True ∧ True ∧ True ∧ (True ∧ (decide (a0.Length < (1 : Int))) = true) ∧ True ∧ True ∧ True ∧ True ∧ True ∧ True ∧ True ∧ True ∧ True ∧ True ∧ True ∧ True ∧ True ∧ True ∧ True ∧ True ∧ True ∧ True ∧ True ∧ True ∧ True ∧ True ∧ True ∧ True ∧ True ∧ True ∧ True) (by kernel_rfl) ⟨trivial, trivial, trivial, ⟨trivial, b1⟩, trivial, trivial, trivial, trivial, trivial, trivial, trivial, trivial, trivial, trivial, trivial, trivial, trivial, trivial, trivial, trivial, trivial, trivial, trivial, trivial, trivial, trivial, trivial, trivial, trivial, trivial, trivial⟩ ⟨rfl, rfl⟩
    · rcases ite2_cases e7 with ⟨b2, e7⟩ | ⟨b2, e7⟩
      · replace e7 := some_eq e7
        subst e7
        exact AW.regionA [.no, .no, .no, .dec false, .no, .no, .no, .no, .dec true] [1, 34] [1] (s' := ⟨[(1, (.v (.one (.ptr 1 0)))), (34, (.v (.one (.c (.bool true)))))], [(1, (.box [(.c (.int .i64 a0.Length)), (.c (.int .i64 a0.Kind)), (.c (sl 1 (csL 5 cs_Key) a0.Tracks)), (.c (sl 4 cs_RootKey a0.Roots))]))]⟩) (ob := True ∧ True ∧ True ∧ (True ∧ (decide (a0.Length < (1 : Int))) = false) ∧ True ∧ True ∧ True ∧ True ∧ (True ∧ (decide (a0.Length > (1000 : Int))) = true) ∧ True ∧ True ∧ True ∧ True ∧ True ∧ True ∧ True ∧ True ∧ True ∧ True ∧ True ∧ True ∧ True ∧ True ∧ True ∧ True ∧ True ∧ True ∧ True ∧ True ∧ True ∧ True) (by kernel_rfl) ⟨trivial, trivial, trivial, ⟨trivial, b1⟩, trivial, trivial, trivial, trivial, ⟨trivial, b2⟩, trivial, trivial, trivial, trivial, trivial, trivial, trivial, trivial, trivial, trivial, trivial, trivial, trivial, trivial, trivial, trivial, trivial, trivial, trivial, trivial, trivial, trivial⟩ ⟨rfl, rfl⟩
      · rcases ite2_cases e7 with ⟨b3, e7⟩ | ⟨b3, e7⟩
        · replace e7 := some_eq e7
          subst e7
          exact AW.regionA [.no, .no, .no, .dec false, .no, .no, .no, .no, .dec false, .no, .no, .no, .no, .dec true] [1, 34] [1] (s' := ⟨[(1, (.v (.one (.ptr 1 0)))), (34, (.v (.one (.c (.bool true)))))], [(1, (.box [(.c (.int .i64 a0.Length)), (.c (.int .i64 a0.Kind)), (.c (sl 1 (csL 5 cs_Key) a0.Tracks)), (.c (sl 4 cs_RootKey a0.Roots))]))]⟩) (ob := True ∧ True ∧ True ∧ (True ∧ (decide (a0.Length < (1 : Int))) = false) ∧ True ∧ True ∧ True ∧ True ∧ (True ∧ (decide (a0.Length > (1000 : Int))) = false) ∧ True ∧ True ∧ True ∧ True ∧ (True ∧ (decide (a0.Kind < (0 : Int))) = true) ∧ True ∧ True ∧ True ∧ True ∧ True ∧ True ∧ True ∧ True ∧ True ∧ True ∧ True ∧ True ∧ True ∧ True ∧ True ∧ True ∧ True) (by kernel_rfl) ⟨trivial, trivial, trivial, ⟨trivial, b1⟩, trivial, trivial, trivial, trivial, ⟨trivial, b2⟩, trivial, trivial, trivial, trivial, ⟨trivial, b3⟩, trivial, trivial, trivial, trivial, trivial, trivial, trivial, trivial, trivial, trivial, trivial, trivial, trivial, trivial, trivial, trivial, trivial⟩ ⟨rfl, rfl⟩
        · rcases ite2_cases e7 with ⟨b4, e7⟩ | ⟨b4, e7⟩
          · replace e7 := some_eq e7
            subst e7
            exact AW.regionA [.no, .no, .no, .dec false, .no, .no, .no, .no, .dec false, .no, .no, .no, .no, .dec false, .no, .no, .no, .no, .dec true] [1, 34] [1] (s' := ⟨[(1, (.v (.one (.ptr 1 0)))), (34, (.v (.one (.c (.bool true)))))], [(1, (.box [(.c (.int .i64 a0.Length)), (.c (.int .i64 a0.Kind)), (.c (sl 1 (csL 5 cs_Key) a0.Tracks)), (.c (sl 4 cs_RootKey a0.Roots))]))]⟩) (ob := True ∧ True ∧ True ∧ (True ∧ (decide (a0.Length < (1 : Int))) = false) ∧ True ∧ True ∧ True ∧ True ∧ (True ∧ (decide (a0.Length > (1000 : Int))) = false) ∧ True ∧ True ∧ True ∧ True ∧ (True ∧ (decide (a0.Kind < (0 : Int))) = false) ∧ True ∧ True ∧ True ∧ True ∧ (True ∧ (decide (a0.Kind > (2 : Int))) = true) ∧ True ∧ True ∧ True ∧ True ∧ True ∧ True ∧ True ∧ True ∧ True ∧ True ∧ True ∧ True) (by kernel_rfl) ⟨trivial, trivial, trivial, ⟨trivial, b1⟩, trivial, trivial, trivial, trivial, ⟨trivial, b2⟩, trivial, trivial, trivial, trivial, ⟨trivial, b3⟩, trivial, trivial, trivial, trivial, ⟨trivial, b4⟩, trivial, trivial, trivial, trivial, trivial, trivial, trivial, trivial, trivial, trivial, trivial, trivial⟩ ⟨rfl, rfl⟩
          · rcases ite2_cases e7 with ⟨b5, e7⟩ | ⟨b5, e7⟩
            · replace e7 := some_eq e7
              subst e7
              exact AW.regionA [.no, .no, .no, .dec false, .no, .no, .no, .no, .dec false, .no, .no, .no, .no, .dec false, .no, .no, .no, .no, .dec false, .no, .no, .no, .no, .no, .dec true] [1, 34] [1] (s' := ⟨[(1, (.v (.one (.ptr 1 0)))), (34, (.v (.one (.c (.bool true)))))], [(1, (.box [(.c (.int .i64 a0.Length)), (.c (.int .i64 a0.Kind)), (.c (sl 1 (csL 5 cs_Key) a0.Tracks)), (.c (sl 4 cs_RootKey a0.Roots))]))]⟩) (ob := True ∧ True ∧ True ∧ (True ∧ (decide (a0.Length < (1 : Int))) = false) ∧ True ∧ True ∧ True ∧ True ∧ (True ∧ (decide (a0.Length > (1000 : Int))) = false) ∧ True ∧ True ∧ True ∧ True ∧ (True ∧ (decide (a0.Kind < (0 : Int))) = false) ∧ True ∧ True ∧ True ∧ True ∧ (True ∧ (decide (a0.Kind > (2 : Int))) = false) ∧ True ∧ True ∧ True ∧ True ∧ True ∧ (True ∧ (decide ((a0.Tracks.length : Int) < (1 : Int))) = true) ∧ True ∧ True ∧ True ∧ True ∧ True ∧ True) (by kernel_rfl) ⟨trivial, trivial, trivial, ⟨trivial, b1⟩, trivial, trivial, trivial, trivial, ⟨trivial, b2⟩, trivial, trivial, trivial, trivial, ⟨trivial, b3⟩, trivial, trivial, trivial, trivial, ⟨trivial, b4⟩, trivial, trivial, trivial, trivial, trivial, ⟨trivial, b5⟩, trivial, trivial, trivial, trivial, trivial, trivial⟩ ⟨rfl, rfl⟩
            · replace e7 := some_eq e7
              subst e7
              exact AW.regionA [.no, .no, .no, .dec false, .no, .no, .no, .no, .dec false, .no, .no, .no, .no, .dec false, .no, .no, .no, .no, .dec false, .no, .no, .no, .no, .no, .dec false] [1, 34] [1] (s' := ⟨[(1, (.v (.one (.ptr 1 0)))), (34, (.v (.one (.c (.bool (decide ((a0.Tracks.length : Int) > (12 : Int))))))))], [(1, (.box [(.c (.int .i64 a0.Length)), (.c (.int .i64 a0.Kind)), (.c (sl 1 (csL 5 cs_Key) a0.Tracks)), (.c (sl 4 cs_RootKey a0.Roots))]))]⟩) (ob := True ∧ True ∧ True ∧ (True ∧ (decide (a0.Length < (1 : Int))) = false) ∧ True ∧ True ∧ True ∧ True ∧ (True ∧ (decide (a0.Length > (1000 : Int))) = false) ∧ True ∧ True ∧ True ∧ True ∧ (True ∧ (decide (a0.Kind < (0 : Int))) = false) ∧ True ∧ True ∧ True ∧ True ∧ (True ∧ (decide (a0.Kind > (2 : Int))) = false) ∧ True ∧ True ∧ True ∧ True ∧ True ∧ (True ∧ (decide ((a0.Tracks.length : Int) < (1 : Int))) = false) ∧ True ∧ True ∧ True ∧ True ∧ True ∧ True) (by kernel_rfl) ⟨trivial, trivial, trivial, ⟨trivial, b1⟩, trivial, trivial, trivial, trivial, ⟨trivial, b2⟩, trivial, trivial, trivial, trivial, ⟨trivial, b3⟩, trivial, trivial, trivial, trivial, ⟨trivial, b4⟩, trivial, trivial, trivial, trivial, trivial, ⟨trivial, b5⟩, trivial, trivial, trivial, trivial, trivial, trivial⟩ ⟨rfl, rfl⟩
  refine thenQ_normal ?_
  rcases ite2_cases h with ⟨b8, h⟩ | ⟨b8, h⟩
  · refine AW.cond_t rfl b8 ?_
    refine AW.seq ?_
    refine AW.regionA [] [2] [] (s' := ⟨[(2, (.v (.one (.c (.bool false)))))], []⟩) (ob := True ∧ True) (by kernel_rfl) ⟨trivial, trivial⟩ ?_
    refine thenQ_normal ?_
    refine AW.ret ?_
    refine thenQ_ret ?_
    replace h := some_eq h
    subst h
    exact ⟨.inr rfl, retOK_of [(.one (.c (.bool false)))] (by kernel_rfl) ⟨⟨rfl, trivial⟩, trivial⟩ (of_decide_eq_true (by kernel_rfl))⟩
  · refine AW.cond_f rfl b8 ?_
    refine AW.skip ?_
    refine thenQ_normal ?_
    refine AW.seq ?_
    refine AW.seq ?_
    refine AW.regionA [] [1, 36, 37, 38] [1] (s' := ⟨[(1, (.v (.one (.ptr 1 0)))), (36, (.v (.one (.c (sl 1 (csL 5 cs_Key) a0.Tracks))))), (37, (.v (.one (.c (.int .i64 (a0.Tracks.length : Int)))))), (38, (.v (.one (.c (.int .i64 (0 : Int))))))], [(1, (.box [(.c (.int .i64 a0.Length)), (.c (.int .i64 a0.Kind)), (.c (sl 1 (csL 5 cs_Key) a0.Tracks)), (.c (sl 4 cs_RootKey a0.Roots))]))]⟩) (ob := True ∧ True ∧ True ∧ True ∧ True) (by kernel_rfl) ⟨trivial, trivial, trivial, trivial, trivial⟩ ?_
    refine thenQ_normal ?_
    refine AW.block ?_
    refine AW.loopQ (σ := Nat × Int) (fun p => ⟨[(1, (.v (.one (.ptr 1 0)))), (36, (.v (.one (.c (sl 1 (csL 5 cs_Key) a0.Tracks))))), (37, (.v (.one (.c (.int .i64 (a0.Tracks.length : Int)))))), (38, (.v (.one (.c (.int .i64 p.2)))))], [(1, (.box [(.c (.int .i64 a0.Length)), (.c (.int .i64 a0.Kind)), (.c (sl 1 (csL 5 cs_Key) a0.Tracks)), (.c (sl 4 cs_RootKey a0.Roots))]))]⟩) (fun p => impl_ValidClip_l1 K a0 p.1 p.2 = some o) (fun p => p.1) (K, (0 : Int)) h ?_
    clear h
    rintro ⟨k, x10⟩ h
    replace h : impl_ValidClip_l1 K a0 k x10 = some o := h
    show AW _ _ (⟨[(1, (.v (.one (.ptr 1 0)))), (36, (.v (.one (.c (sl 1 (csL 5 cs_Key) a0.Tracks))))), (37, (.v (.one (.c (.int .i64 (a0.Tracks.length : Int)))))), (38, (.v (.one (.c (.int .i64 x10)))))], [(1, (.box [(.c (.int .i64 a0.Length)), (.c (.int .i64 a0.Kind)), (.c (sl 1 (csL 5 cs_Key) a0.Tracks)), (.c (sl 4 cs_RootKey a0.Roots))]))]⟩ : St) _
    obtain _ | k := k
    · rw [impl_ValidClip_l1] at h; cases h
    rw [impl_ValidClip_l1] at h
    refine AW.seq ?_
    refine AW.regionA [] [1, 36, 37, 38, 39] [1] (s' := ⟨[(1, (.v (.one (.ptr 1 0)))), (36, (.v (.one (.c (sl 1 (csL 5 cs_Key) a0.Tracks))))), (37, (.v (.one (.c (.int .i64 (a0.Tracks.length : Int)))))), (38, (.v (.one (.c (.int .i64 x10))))), (39, (.v (.one (.c (.bool (decide (x10 < (a0.Tracks.length : Int))))))))], [(1, (.box [(.c (.int .i64 a0.Length)), (.c (.int .i64 a0.Kind)), (.c (sl 1 (csL 5 cs_Key) a0.Tracks)), (.c (sl 4 cs_RootKey a0.Roots))]))]⟩) (ob := True ∧ True) (by kernel_rfl) ⟨trivial, trivial⟩ ?_
    refine thenQ_normal ?_
    refine AW.seq ?_
    rcases ite2_cases h with ⟨b11, h⟩ | ⟨b11, h⟩
    · refine AW.cond_t rfl b11 ?_
      refine AW.skip ?_
      refine thenQ_normal ?_
      refine AW.seq ?_
      refine AW.block ?_
      refine AW.seq ?_
      obtain ⟨c12, h⟩ := chk_some h
      refine AW.regionA [] [1, 4, 36, 37, 38] [1] (s' := ⟨[(1, (.v (.one (.ptr 1 0)))), (4, (.v (.one (.c (sl 5 cs_Key (a0.Tracks.getD x10.toNat default)))))), (36, (.v (.one (.c (sl 1 (csL 5 cs_Key) a0.Tracks))))), (37, (.v (.one (.c (.int .i64 (a0.Tracks.length : Int)))))), (38, (.v (.one (.c (.int .i64 x10)))))], [(1, (.box [(.c (.int .i64 a0.Length)), (.c (.int .i64 a0.Kind)), (.c (sl 1 (csL 5 cs_Key) a0.Tracks)), (.c (sl 4 cs_RootKey a0.Roots))]))]⟩) (ob := (0 ≤ x10 ∧ x10 < (a0.Tracks.length : Int)) ∧ True ∧ True ∧ True) (by kernel_rfl) ⟨c12, trivial, trivial, trivial⟩ ?_
      refine thenQ_normal ?_
      refine AW.seq ?_
      obtain ⟨v13, e14, h⟩ := bind_some h
      obtain ⟨v15, e16, h⟩ := bind_some h
      refine AW.drawnA (by kernel_rfl) 6 [.call [] [.agg [(.fn 146 0 fun _ => .nilptr), (.fn 147 0 fun _ => .nilptr), (.fn 148 0 fun _ => .nilptr)]] [[.view, .view, .view]], .no, .no, .no, .call [.agg [(.fn 146 0 fun _ => .nilptr), (.fn 147 0 fun _ => .nilptr), (.fn 148 0 fun _ => .nilptr)], .one (sl 5 cs_Key (a0.Tracks.getD x10.toNat default)), .one (.int .i64 a0.Length)] [.one (.bool v15)] [[.view]]] [1, 36, 37, 38, 47] [1] (s' := ⟨[(1, (.v (.one (.ptr 1 0)))), (36, (.v (.one (.c (sl 1 (csL 5 cs_Key) a0.Tracks))))), (37, (.v (.one (.c (.int .i64 (a0.Tracks.length : Int)))))), (38, (.v (.one (.c (.int .i64 x10))))), (47, (.v (.one (.c (.bool (!v15))))))], [(1, (.box [(.c (.int .i64 a0.Length)), (.c (.int .i64 a0.Kind)), (.c (sl 1 (csL 5 cs_Key) a0.Tracks)), (.c (sl 4 cs_RootKey a0.Roots))]))]⟩) (ob := (((True) ∧ CallOK Try.prog 76 [] [.agg [(.fn 146 0 fun _ => .nilptr), (.fn 147 0 fun _ => .nilptr), (.fn 148 0 fun _ => .nilptr)]]) ∧ True ∧ True ∧ True ∧ ((((((.fn 146 0 fun _ => .nilptr) : C) = (.fn 146 0 fun _ => .nilptr)) ∧ (((.fn 147 0 fun _ => .nilptr) : C) = (.fn 147 0 fun _ => .nilptr)) ∧ (((.fn 148 0 fun _ => .nilptr) : C) = (.fn 148 0 fun _ => .nilptr)) ∧ True) ∧ (((sl 5 cs_Key (a0.Tracks.getD x10.toNat default)) : C) = (sl 5 cs_Key (a0.Tracks.getD x10.toNat default))) ∧ (((.int .i64 a0.Length) : C) = (.int .i64 a0.Length)) ∧ True) ∧ CallOK Try.prog 139 [.agg [(.fn 146 0 fun _ => .nilptr), (.fn 147 0 fun _ => .nilptr), (.fn 148 0 fun _ => .nilptr)], .one (sl 5 cs_Key (a0.Tracks.getD x10.toNat default)), .one (.int .i64 a0.Length)] [.one (.bool v15)]) ∧ True ∧ True) ∧ (True)) (by kernel_rfl) ⟨⟨⟨trivial, ok_impl_turnTrack K v13 e14⟩, trivial, trivial, trivial, ⟨⟨⟨rfl, rfl, rfl, trivial⟩, rfl, rfl, trivial⟩, ok_impl_track_impl_Key_valid K (a0.Tracks.getD x10.toNat default) a0.Length v15 e16⟩, trivial, trivial⟩, trivial⟩ ?_
      refine thenQ_normal ?_
      rcases ite2_cases h with ⟨b17, h⟩ | ⟨b17, h⟩
      · refine AW.cond_t rfl b17 ?_
        refine AW.seq ?_
        refine AW.regionA [] [2] [] (s' := ⟨[(2, (.v (.one (.c (.bool false)))))], []⟩) (ob := True ∧ True) (by kernel_rfl) ⟨trivial, trivial⟩ ?_
        refine thenQ_normal ?_
        refine AW.ret ?_
        refine blockQ_ret ?_
        refine thenQ_ret ?_
        refine loopQ_ret ?_
        refine blockQ_ret ?_
        refine thenQ_ret ?_
        replace h := some_eq h
        subst h
        exact ⟨.inr rfl, retOK_of [(.one (.c (.bool false)))] (by kernel_rfl) ⟨⟨rfl, trivial⟩, trivial⟩ (of_decide_eq_true (by kernel_rfl))⟩
      · refine AW.cond_f rfl b17 ?_
        refine AW.skip ?_
        refine blockQ_normal ?_
        refine thenQ_normal ?_
        refine AW.regionA [] [1, 36, 37, 38] [1] (s' := ⟨[(1, (.v (.one (.ptr 1 0)))), (36, (.v (.one (.c (sl 1 (csL 5 cs_Key) a0.Tracks))))), (37, (.v (.one (.c (.int .i64 (a0.Tracks.length : Int)))))), (38, (.v (.one (.c (.int .i64 (IntKind.i64.wrap (x10 + (1 : Int))))))))], [(1, (.box [(.c (.int .i64 a0.Length)), (.c (.int .i64 a0.Kind)), (.c (sl 1 (csL 5 cs_Key) a0.Tracks)), (.c (sl 4 cs_RootKey a0.Roots))]))]⟩) (ob := True ∧ True ∧ True) (by kernel_rfl) ⟨trivial, trivial, trivial⟩ ?_
        exact loopQ_normal (k, (IntKind.i64.wrap (x10 + (1 : Int)))) h (Nat.lt_succ_self k) (Sub.keep [1, 36, 37, 38] [1] (by kernel_rfl) (by kernel_rfl))
    · refine AW.cond_f rfl b11 ?_
      refine AW.exit ?_
      refine thenQ_exit ?_
      refine loopQ_exit ?_
      refine blockQ_exit ?_
      refine thenQ_normal ?_
      refine AW.seq ?_
      obtain ⟨v18, e19, h⟩ := bind_some h
      obtain ⟨v20, e21, h⟩ := bind_some h
      refine AW.drawnA (by kernel_rfl) 7 [.call [] [.agg [(.fn 150 0 fun _ => .nilptr), (.fn 151 0 fun _ => .nilptr), (.fn 152 0 fun _ => .nilptr)]] [[.view, .view, .view]], .no, .no, .no, .no, .call [.agg [(.fn 150 0 fun _ => .nilptr), (.fn 151 0 fun _ => .nilptr), (.fn 152 0 fun _ => .nilptr)], .one (sl 4 cs_RootKey a0.Roots), .one (.int .i64 a0.Length)] [.one (.bool v20)] [[.view]]] [2] [] (s' := ⟨[(2, (.v (.one (.c (.bool v20)))))], []⟩) (ob := (((True) ∧ CallOK Try.prog 79 [] [.agg [(.fn 150 0 fun _ => .nilptr), (.fn 151 0 fun _ => .nilptr), (.fn 152 0 fun _ => .nilptr)]]) ∧ True ∧ True ∧ True ∧ True ∧ ((((((.fn 150 0 fun _ => .nilptr) : C) = (.fn 150 0 fun _ => .nilptr)) ∧ (((.fn 151 0 fun _ => .nilptr) : C) = (.fn 151 0 fun _ => .nilptr)) ∧ (((.fn 152 0 fun _ => .nilptr) : C) = (.fn 152 0 fun _ => .nilptr)) ∧ True) ∧ (((sl 4 cs_RootKey a0.Roots) : C) = (sl 4 cs_RootKey a0.Roots)) ∧ (((.int .i64 a0.Length) : C) = (.int .i64 a0.Length)) ∧ True) ∧ CallOK Try.prog 140 [.agg [(.fn 150 0 fun _ => .nilptr), (.fn 151 0 fun _ => .nilptr), (.fn 152 0 fun _ => .nilptr)], .one (sl 4 cs_RootKey a0.Roots), .one (.int .i64 a0.Length)] [.one (.bool v20)]) ∧ True ∧ True) ∧ (True)) (by kernel_rfl) ⟨⟨⟨trivial, ok_impl_rootTrack K v18 e19⟩, trivial, trivial, trivial, trivial, ⟨⟨⟨rfl, rfl, rfl, trivial⟩, rfl, rfl, trivial⟩, ok_impl_track_impl_RootKey_valid K a0.Roots a0.Length v20 e21⟩, trivial, trivial⟩, trivial⟩ ?_
      refine thenQ_normal ?_
      refine AW.ret ?_
      replace h := some_eq h
      subst h
      exact ⟨.inr rfl, retOK_of [(.one (.c (.bool v20)))] (by kernel_rfl) ⟨⟨rfl, trivial⟩, trivial⟩ (of_decide_eq_true (by kernel_rfl))⟩

/-! impl.rootTrack$2 -/
def impl_rootTrack_2 (_K : Nat) (a0 : RootKey) (a1 : Int) : Option (RootKey) :=
  some (RootKey.mk a1 a0.Place)

theorem ok_impl_rootTrack_2 (K : Nat) (a0 : RootKey) (a1 : Int) (o : (RootKey)) (h : impl_rootTrack_2 K a0 a1 = some o) : CallOK Try.prog 151 [.agg (cs_RootKey a0), .one (.int .i64 a1)] [.agg (cs_RootKey o)] := by
  refine callOK_of_AW Try.func151 rfl (by kernel_rfl) (Nat.le_of_ble_eq_true (by kernel_rfl)) ?_
  intro w0
  unfold impl_rootTrack_2 at h
  refine AW.seq ?_
  refine AW.regionA [.box 1, .box 2] [1, 2, 4] [1, 2] (s' := ⟨[(1, (.v (.one (.c (.int .i64 a1))))), (2, (.v (.one (.ptr 1 0)))), (4, (.v (.one (.ptr 2 0))))], [(1, (.box [(.c (.int .i64 a0.At)), (.c (.flt .f32 a0.Place.X.bits)), (.c (.flt .f32 a0.Place.Y.bits)), (.c (.flt .f32 a0.Place.Z.bits))])), (2, (.box [(.c (.int .i64 (0 : Int))), (.c (.flt .f32 (default : F32).bits)), (.c (.flt .f32 (default : F32).bits)), (.c (.flt .f32 (default : F32).bits))]))]⟩) (ob := True ∧ True ∧ True) (by kernel_rfl) ⟨trivial, trivial, trivial⟩ ?_
  refine thenQ_normal ?_
  refine AW.seq ?_
  refine AW.regionA [] [2, 4] [1, 2] (s' := ⟨[(2, (.v (.one (.ptr 1 0)))), (4, (.v (.one (.ptr 2 0))))], [(1, (.box [(.c (.int .i64 a1)), (.c (.flt .f32 a0.Place.X.bits)), (.c (.flt .f32 a0.Place.Y.bits)), (.c (.flt .f32 a0.Place.Z.bits))])), (2, (.box [(.c (.int .i64 (0 : Int))), (.c (.flt .f32 (default : F32).bits)), (.c (.flt .f32 (default : F32).bits)), (.c (.flt .f32 (default : F32).bits))]))]⟩) (ob := True ∧ True ∧ True ∧ True) (by kernel_rfl) ⟨trivial, trivial, trivial, trivial⟩ ?_
  refine thenQ_normal ?_
  refine AW.seq ?_
  refine AW.regionA [] [4] [2] (s' := ⟨[(4, (.v (.one (.ptr 2 0))))], [(2, (.box [(.c (.int .i64 a1)), (.c (.flt .f32 a0.Place.X.bits)), (.c (.flt .f32 a0.Place.Y.bits)), (.c (.flt .f32 a0.Place.Z.bits))]))]⟩) (ob := True ∧ True ∧ True) (by kernel_rfl) ⟨trivial, trivial, trivial⟩ ?_
  refine thenQ_normal ?_
  refine AW.ret ?_
  replace h := some_eq h
  subst h
  exact ⟨.inr rfl, retOK_of [(.agg [(.c (.int .i64 a1)), (.c (.flt .f32 a0.Place.X.bits)), (.c (.flt .f32 a0.Place.Y.bits)), (.c (.flt .f32 a0.Place.Z.bits))])] (by kernel_rfl) ⟨⟨⟨rfl, trivial⟩, ⟨rfl, trivial⟩, ⟨rfl, trivial⟩, ⟨rfl, trivial⟩, trivial⟩, trivial⟩ (of_decide_eq_true (by kernel_rfl))⟩

/-! (impl.track[impl.RootKey]).stretch -/
def impl_track_impl_RootKey_stretch_l1 (K : Nat) (a1 : (List RootKey)) (a2 : Int) : Nat → Int → (List RootKey) → Option ((List RootKey))
  | 0, _, _ => none
  | k + 1, x3, x4 => ite2 ((decide (x3 < (a1.length : Int)))) (chk (0 ≤ x3 ∧ x3 < (a1.length : Int)) ((impl_rootTrack_1 K (a1.getD x3.toNat default)).bind fun v7 => (impl_rootTrack_2 K (a1.getD x3.toNat default) (IntKind.i64.wrap (v7 * a2))).bind fun v9 => chk ((x4.length + ([v9]).length) * 24 ≤ 140737488355328) (impl_track_impl_RootKey_stretch_l1 K a1 a2 k (IntKind.i64.wrap (x3 + (1 : Int))) (x4 ++ ([v9]))))) (some x4)

def impl_track_impl_RootKey_stretch (K : Nat) (a1 : (List RootKey)) (a2 : Int) : Option ((List RootKey)) :=
  impl_track_impl_RootKey_stretch_l1 K a1 a2 K (0 : Int) ([] : (List RootKey))

theorem ok_impl_track_impl_RootKey_stretch (K : Nat) (a1 : (List RootKey)) (a2 : Int) (o : ((List RootKey))) (h : impl_track_impl_RootKey_stretch K a1 a2 = some o) : CallOK Try.prog 80 [.agg [(.fn 150 0 fun _ => .nilptr), (.fn 151 0 fun _ => .nilptr), (.fn 152 0 fun _ => .nilptr)], .one (sl 4 cs_RootKey a1), .one (.int .i64 a2)] [.one (sl 4 cs_RootKey o)] := by
  refine callOK_of_AW Try.func80 rfl (by kernel_rfl) (Nat.le_of_ble_eq_true (by kernel_rfl)) ?_
  intro w0
  unfold impl_track_impl_RootKey_stretch at h
  refine AW.seq ?_
  refine AW.regionA [.box 1] [1, 2, 3] [1] (s' := ⟨[(1, (.v (.one (.c (sl 4 cs_RootKey a1))))), (2, (.v (.one (.c (.int .i64 a2))))), (3, (.v (.one (.ptr 1 0))))], [(1, (.box [(.c (.fn 150 0 fun _ => .nilptr)), (.c (.fn 151 0 fun _ => .nilptr)), (.c (.fn 152 0 fun _ => .nilptr))]))]⟩) (ob := True ∧ True ∧ True) (by kernel_rfl) ⟨trivial, trivial, trivial⟩ ?_
  refine thenQ_normal ?_
  refine AW.seq ?_
  refine AW.regionA [] [1, 2, 3, 7] [1] (s' := ⟨[(1, (.v (.one (.c (sl 4 cs_RootKey a1))))), (2, (.v (.one (.c (.int .i64 a2))))), (3, (.v (.one (.ptr 1 0)))), (7, (.v (.one .nils)))], [(1, (.box [(.c (.fn 150 0 fun _ => .nilptr)), (.c (.fn 151 0 fun _ => .nilptr)), (.c (.fn 152 0 fun _ => .nilptr))]))]⟩) (ob := True ∧ True) (by kernel_rfl) ⟨trivial, trivial⟩ ?_
  refine thenQ_normal ?_
  refine AW.seq ?_
  refine AW.seq ?_
  refine AW.regionA [] [2, 3, 7, 10, 11, 12] [1] (s' := ⟨[(2, (.v (.one (.c (.int .i64 a2))))), (3, (.v (.one (.ptr 1 0)))), (7, (.v (.one .nils))), (10, (.v (.one (.c (sl 4 cs_RootKey a1))))), (11, (.v (.one (.c (.int .i64 (a1.length : Int)))))), (12, (.v (.one (.c (.int .i64 (0 : Int))))))], [(1, (.box [(.c (.fn 150 0 fun _ => .nilptr)), (.c (.fn 151 0 fun _ => .nilptr)), (.c (.fn 152 0 fun _ => .nilptr))]))]⟩) (ob := True ∧ True ∧ True ∧ True) (by kernel_rfl) ⟨trivial, trivial, trivial, trivial⟩ ?_
  refine thenQ_normal ?_
  refine AW.block ?_
  refine AW.weak (s' := ⟨[(2, (.v (.one (.c (.int .i64 a2))))), (3, (.v (.one (.ptr 1 0)))), (7, (.v (.one (.lst 5 ([] : (List RootKey)).length 4 (gl cs_RootKey ([] : (List RootKey))))))), (10, (.v (.one (.c (sl 4 cs_RootKey a1))))), (11, (.v (.one (.c (.int .i64 (a1.length : Int)))))), (12, (.v (.one (.c (.int .i64 (0 : Int))))))], [(1, (.box [(.c (.fn 150 0 fun _ => .nilptr)), (.c (.fn 151 0 fun _ => .nilptr)), (.c (.fn 152 0 fun _ => .nilptr))])), (5, (.lst ([] : (List RootKey)).length 4 (gl cs_RootKey ([] : (List RootKey)))))]⟩) (Sub.trans (Sub.unnil 5 4 (gl cs_RootKey ([] : (List RootKey))) [7] [] _ (by kernel_rfl) (by kernel_rfl)) (Sub.keep [2, 3, 7, 10, 11, 12] [1, 5] (by kernel_rfl) (by kernel_rfl))) ?_
  refine AW.loopQ (σ := Nat × Int × (List RootKey)) (fun p => ⟨[(2, (.v (.one (.c (.int .i64 a2))))), (3, (.v (.one (.ptr 1 0)))), (7, (.v (.one (.lst 5 p.2.2.length 4 (gl cs_RootKey p.2.2))))), (10, (.v (.one (.c (sl 4 cs_RootKey a1))))), (11, (.v (.one (.c (.int .i64 (a1.length : Int)))))), (12, (.v (.one (.c (.int .i64 p.2.1)))))], [(1, (.box [(.c (.fn 150 0 fun _ => .nilptr)), (.c (.fn 151 0 fun _ => .nilptr)), (.c (.fn 152 0 fun _ => .nilptr))])), (5, (.lst p.2.2.length 4 (gl cs_RootKey p.2.2)))]⟩) (fun p => impl_track_impl_RootKey_stretch_l1 K a1 a2 p.1 p.2.1 p.2.2 = some o) (fun p => p.1) (K, (0 : Int), ([] : (List RootKey))) h ?_
  clear h
  rintro ⟨k, x3, x4⟩ h
  replace h : impl_track_impl_RootKey_stretch_l1 K a1 a2 k x3 x4 = some o := h
  show AW _ _ (⟨[(2, (.v (.one (.c (.int .i64 a2))))), (3, (.v (.one (.ptr 1 0)))), (7, (.v (.one (.lst 5 x4.length 4 (gl cs_RootKey x4))))), (10, (.v (.one (.c (sl 4 cs_RootKey a1))))), (11, (.v (.one (.c (.int .i64 (a1.length : Int)))))), (12, (.v (.one (.c (.int .i64 x3)))))], [(1, (.box [(.c (.fn 150 0 fun _ => .nilptr)), (.c (.fn 151 0 fun _ => .nilptr)), (.c (.fn 152 0 fun _ => .nilptr))])), (5, (.lst x4.length 4 (gl cs_RootKey x4)))]⟩ : St) _
  obtain _ | k := k
  · rw [impl_track_impl_RootKey_stretch_l1] at h; cases h
  rw [impl_track_impl_RootKey_stretch_l1] at h
  refine AW.seq ?_
  refine AW.regionA [] [2, 3, 7, 10, 11, 12, 13] [1, 5] (s' := ⟨[(2, (.v (.one (.c (.int .i64 a2))))), (3, (.v (.one (.ptr 1 0)))), (7, (.v (.one (.lst 5 x4.length 4 (gl cs_RootKey x4))))), (10, (.v (.one (.c (sl 4 cs_RootKey a1))))), (11, (.v (.one (.c (.int .i64 (a1.length : Int)))))), (12, (.v (.one (.c (.int .i64 x3))))), (13, (.v (.one (.c (.bool (decide (x3 < (a1.length : Int))))))))], [(1, (.box [(.c (.fn 150 0 fun _ => .nilptr)), (.c (.fn 151 0 fun _ => .nilptr)), (.c (.fn 152 0 fun _ => .nilptr))])), (5, (.lst x4.length 4 (gl cs_RootKey x4)))]⟩) (ob := True ∧ True) (by kernel_rfl) ⟨trivial, trivial⟩ ?_
  refine thenQ_normal ?_
  refine AW.seq ?_
  rcases ite2_cases h with ⟨b5, h⟩ | ⟨b5, h⟩
  · refine AW.cond_t rfl b5 ?_
    refine AW.skip ?_
    refine thenQ_normal ?_
    refine AW.seq ?_
    refine AW.block ?_
    refine AW.seq ?_
    obtain ⟨c6, h⟩ := chk_some h
    refine AW.regionA [.no, .no, .box 12] [2, 3, 7, 9, 10, 11, 12] [1, 5, 12] (s' := ⟨[(2, (.v (.one (.c (.int .i64 a2))))), (3, (.v (.one (.ptr 1 0)))), (7, (.v (.one (.lst 5 x4.length 4 (gl cs_RootKey x4))))), (9, (.v (.one (.ptr 12 0)))), (10, (.v (.one (.c (sl 4 cs_RootKey a1))))), (11, (.v (.one (.c (.int .i64 (a1.length : Int)))))), (12, (.v (.one (.c (.int .i64 x3)))))], [(1, (.box [(.c (.fn 150 0 fun _ => .nilptr)), (.c (.fn 151 0 fun _ => .nilptr)), (.c (.fn 152 0 fun _ => .nilptr))])), (5, (.lst x4.length 4 (gl cs_RootKey x4))), (12, (.box [(.c (.int .i64 ((a1.getD x3.toNat default).At))), (.c (.flt .f32 (((a1.getD x3.toNat default).Place).X).bits)), (.c (.flt .f32 (((a1.getD x3.toNat default).Place).Y).bits)), (.c (.flt .f32 (((a1.getD x3.toNat default).Place).Z).bits))]))]⟩) (ob := (0 ≤ x3 ∧ x3 < (a1.length : Int)) ∧ True ∧ True ∧ True ∧ True) (by kernel_rfl) ⟨c6, trivial, trivial, trivial, trivial⟩ ?_
    refine thenQ_normal ?_
    obtain ⟨v7, e8, h⟩ := bind_some h
    obtain ⟨v9, e10, h⟩ := bind_some h
    obtain ⟨c11, h⟩ := chk_some h
    refine AW.drawnA (by kernel_rfl) 13 [.no, .no, .no, .no, .no, .no, .no, .call [.agg (cs_RootKey (a1.getD x3.toNat default))] [.one (.int .i64 v7)] [[.view]], .no, .no, .call [.agg (cs_RootKey (a1.getD x3.toNat default)), .one (.int .i64 (IntKind.i64.wrap (v7 * a2)))] [.agg (cs_RootKey v9)] [[.view, .view, .view, .view]], .obj 13 ([v9]).length (gl cs_RootKey ([v9])), .objK 14 (x4 ++ ([v9])).length (gl cs_RootKey (x4 ++ ([v9])))] [2, 3, 7, 10, 11, 12] [1, 14] (s' := ⟨[(2, (.v (.one (.c (.int .i64 a2))))), (3, (.v (.one (.ptr 1 0)))), (7, (.v (.one (.lst 14 (x4 ++ ([v9])).length 4 (gl cs_RootKey (x4 ++ ([v9]))))))), (10, (.v (.one (.c (sl 4 cs_RootKey a1))))), (11, (.v (.one (.c (.int .i64 (a1.length : Int)))))), (12, (.v (.one (.c (.int .i64 x3)))))], [(1, (.box [(.c (.fn 150 0 fun _ => .nilptr)), (.c (.fn 151 0 fun _ => .nilptr)), (.c (.fn 152 0 fun _ => .nilptr))])), (14, (.lst (x4 ++ ([v9])).length 4 (gl cs_RootKey (x4 ++ ([v9])))))]⟩) (ob := (True ∧ True ∧ True ∧ True ∧ True ∧ True ∧ True ∧ ((((((.int .i64 ((a1.getD x3.toNat default).At)) : C) = (.int .i64 ((a1.getD x3.toNat default).At))) ∧ (((.flt .f32 (((a1.getD x3.toNat default).Place).X).bits) : C) = (.flt .f32 (((a1.getD x3.toNat default).Place).X).bits)) ∧ (((.flt .f32 (((a1.getD x3.toNat default).Place).Y).bits) : C) = (.flt .f32 (((a1.getD x3.toNat default).Place).Y).bits)) ∧ (((.flt .f32 (((a1.getD x3.toNat default).Place).Z).bits) : C) = (.flt .f32 (((a1.getD x3.toNat default).Place).Z).bits)) ∧ True) ∧ True) ∧ CallOK Try.prog 150 [.agg (cs_RootKey (a1.getD x3.toNat default))] [.one (.int .i64 v7)]) ∧ True ∧ True ∧ ((((((.int .i64 ((a1.getD x3.toNat default).At)) : C) = (.int .i64 ((a1.getD x3.toNat default).At))) ∧ (((.flt .f32 (((a1.getD x3.toNat default).Place).X).bits) : C) = (.flt .f32 (((a1.getD x3.toNat default).Place).X).bits)) ∧ (((.flt .f32 (((a1.getD x3.toNat default).Place).Y).bits) : C) = (.flt .f32 (((a1.getD x3.toNat default).Place).Y).bits)) ∧ (((.flt .f32 (((a1.getD x3.toNat default).Place).Z).bits) : C) = (.flt .f32 (((a1.getD x3.toNat default).Place).Z).bits)) ∧ True) ∧ (((.int .i64 (IntKind.i64.wrap (v7 * a2))) : C) = (.int .i64 (IntKind.i64.wrap (v7 * a2)))) ∧ True) ∧ CallOK Try.prog 151 [.agg (cs_RootKey (a1.getD x3.toNat default)), .one (.int .i64 (IntKind.i64.wrap (v7 * a2)))] [.agg (cs_RootKey v9)]) ∧ (([v9]).length = 1 ∧ (((.int .i64 v9.At) : C) = (.int .i64 v9.At) ∧ True) ∧ (((.flt .f32 v9.Place.X.bits) : C) = (.flt .f32 v9.Place.X.bits) ∧ True) ∧ (((.flt .f32 v9.Place.Y.bits) : C) = (.flt .f32 v9.Place.Y.bits) ∧ True) ∧ (((.flt .f32 v9.Place.Z.bits) : C) = (.flt .f32 v9.Place.Z.bits) ∧ True) ∧ True) ∧ ((x4 ++ ([v9])).length = x4.length + ([v9]).length ∧ AppOb (x4.length) (([v9]).length) 4 (gl cs_RootKey x4) (gl cs_RootKey ([v9])) (gl cs_RootKey (x4 ++ ([v9]))) ∧ (∀ i j, i < ([v9]).length → j < 4 → scalarC (gl cs_RootKey ([v9]) i j)) ∧ (x4.length + ([v9]).length) * 24 ≤ 140737488355328) ∧ True) ∧ (True ∧ True)) (by kernel_rfl) ⟨⟨trivial, trivial, trivial, trivial, trivial, trivial, trivial, ⟨⟨⟨rfl, rfl, rfl, rfl, trivial⟩, trivial⟩, ok_impl_rootTrack_1 K (a1.getD x3.toNat default) v7 e8⟩, trivial, trivial, ⟨⟨⟨rfl, rfl, rfl, rfl, trivial⟩, rfl, trivial⟩, ok_impl_rootTrack_2 K (a1.getD x3.toNat default) (IntKind.i64.wrap (v7 * a2)) v9 e10⟩, ⟨rfl, ⟨⟨rfl, trivial⟩, ⟨rfl, trivial⟩, ⟨rfl, trivial⟩, ⟨rfl, trivial⟩, trivial⟩⟩, ⟨List.length_append, gl_append, gl_scalar sc_RootKey _, c11⟩, trivial⟩, ⟨trivial, trivial⟩⟩ ?_
    refine blockQ_normal ?_
    refine thenQ_normal ?_
    refine AW.regionA [] [2, 3, 7, 10, 11, 12] [1, 14] (s' := ⟨[(2, (.v (.one (.c (.int .i64 a2))))), (3, (.v (.one (.ptr 1 0)))), (7, (.v (.one (.lst 14 (x4 ++ ([v9])).length 4 (gl cs_RootKey (x4 ++ ([v9]))))))), (10, (.v (.one (.c (sl 4 cs_RootKey a1))))), (11, (.v (.one (.c (.int .i64 (a1.length : Int)))))), (12, (.v (.one (.c (.int .i64 (IntKind.i64.wrap (x3 + (1 : Int))))))))], [(1, (.box [(.c (.fn 150 0 fun _ => .nilptr)), (.c (.fn 151 0 fun _ => .nilptr)), (.c (.fn 152 0 fun _ => .nilptr))])), (14, (.lst (x4 ++ ([v9])).length 4 (gl cs_RootKey (x4 ++ ([v9])))))]⟩) (ob := True ∧ True ∧ True) (by kernel_rfl) ⟨trivial, trivial, trivial⟩ ?_
    exact loopQ_normal (k, (IntKind.i64.wrap (x3 + (1 : Int))), (x4 ++ ([v9]))) h (Nat.lt_succ_self k) (Sub.trans (Sub.swap 5 14 _ (by kernel_rfl) (by kernel_rfl)) (Sub.keep [2, 3, 7, 10, 11, 12] [1, 5] (by kernel_rfl) (by kernel_rfl)))
  · refine AW.cond_f rfl b5 ?_
    refine AW.exit ?_
    refine thenQ_exit ?_
    refine loopQ_exit ?_
    refine blockQ_exit ?_
    refine thenQ_normal ?_
    refine AW.seq ?_
    refine AW.regionA [] [6] [5] (s' := ⟨[(6, (.v (.one (.lst 5 x4.length 4 (gl cs_RootKey x4)))))], [(5, (.lst x4.length 4 (gl cs_RootKey x4)))]⟩) (ob := True ∧ True ∧ True) (by kernel_rfl) ⟨trivial, trivial, trivial⟩ ?_
    refine thenQ_normal ?_
    refine AW.ret ?_
    replace h := some_eq h
    subst h
    exact ⟨.inr rfl, retOK_of [(.one (.lst 5 x4.length 4 (gl cs_RootKey x4)))] (by kernel_rfl) ⟨rfl, trivial⟩ (of_decide_eq_true (by kernel_rfl))⟩

/-! impl.StretchClip$2 -/
def impl_StretchClip_2 (K : Nat) (a0 : (List RootKey)) (a1 : Int) : Option ((List RootKey)) :=
  (impl_rootTrack K ).bind fun v1 => (impl_track_impl_RootKey_stretch K a0 a1).bind fun v3 => some v3

theorem ok_impl_StretchClip_2 (K : Nat) (a0 : (List RootKey)) (a1 : Int) (o : ((List RootKey))) (h : impl_StretchClip_2 K a0 a1 = some o) : CallOK Try.prog 78 [.one (sl 4 cs_RootKey a0), .one (pl 1 (csI .i64) a1)] [.one (sl 4 cs_RootKey o)] := by
  refine callOK_of_AW Try.func78 rfl (by kernel_rfl) (Nat.le_of_ble_eq_true (by kernel_rfl)) ?_
  intro w0
  unfold impl_StretchClip_2 at h
  refine AW.seq ?_
  refine AW.regionA [] [0, 1] [] (s' := ⟨[(0, (.v (.one (.c (sl 4 cs_RootKey a0))))), (1, (.v (.one (.c (pl 1 (csI .i64) a1)))))], []⟩) (ob := True ∧ True) (by kernel_rfl) ⟨trivial, trivial⟩ ?_
  refine thenQ_normal ?_
  refine AW.seq ?_
  obtain ⟨v1, e2, h⟩ := bind_some h
  obtain ⟨v3, e4, h⟩ := bind_some h
  refine AW.drawnA (by kernel_rfl) 5 [.call [] [.agg [(.fn 150 0 fun _ => .nilptr), (.fn 151 0 fun _ => .nilptr), (.fn 152 0 fun _ => .nilptr)]] [[.view, .view, .view]], .no, .no, .call [.agg [(.fn 150 0 fun _ => .nilptr), (.fn 151 0 fun _ => .nilptr), (.fn 152 0 fun _ => .nilptr)], .one (sl 4 cs_RootKey a0), .one (.int .i64 a1)] [.one (sl 4 cs_RootKey v3)] [[.lst 1]]] [3] [1] (s' := ⟨[(3, (.v (.one (.lst 1 v3.length 4 (gl cs_RootKey v3)))))], [(1, (.lst v3.length 4 (gl cs_RootKey v3)))]⟩) (ob := (((True) ∧ CallOK Try.prog 79 [] [.agg [(.fn 150 0 fun _ => .nilptr), (.fn 151 0 fun _ => .nilptr), (.fn 152 0 fun _ => .nilptr)]]) ∧ True ∧ True ∧ ((((((.fn 150 0 fun _ => .nilptr) : C) = (.fn 150 0 fun _ => .nilptr)) ∧ (((.fn 151 0 fun _ => .nilptr) : C) = (.fn 151 0 fun _ => .nilptr)) ∧ (((.fn 152 0 fun _ => .nilptr) : C) = (.fn 152 0 fun _ => .nilptr)) ∧ True) ∧ (((sl 4 cs_RootKey a0) : C) = (sl 4 cs_RootKey a0)) ∧ (((.int .i64 a1) : C) = (.int .i64 a1)) ∧ True) ∧ CallOK Try.prog 80 [.agg [(.fn 150 0 fun _ => .nilptr), (.fn 151 0 fun _ => .nilptr), (.fn 152 0 fun _ => .nilptr)], .one (sl 4 cs_RootKey a0), .one (.int .i64 a1)] [.one (sl 4 cs_RootKey v3)]) ∧ True ∧ True) ∧ (True)) (by kernel_rfl) ⟨⟨⟨trivial, ok_impl_rootTrack K v1 e2⟩, trivial, trivial, ⟨⟨⟨rfl, rfl, rfl, trivial⟩, rfl, rfl, trivial⟩, ok_impl_track_impl_RootKey_stretch K a0 a1 v3 e4⟩, trivial, trivial⟩, trivial⟩ ?_
  refine thenQ_normal ?_
  refine AW.ret ?_
  replace h := some_eq h
  subst h
  exact ⟨.inr rfl, retOK_of [(.one (.lst 1 v3.length 4 (gl cs_RootKey v3)))] (by kernel_rfl) ⟨rfl, trivial⟩ (of_decide_eq_true (by kernel_rfl))⟩

/-! impl.turnTrack$2 -/
def impl_turnTrack_2 (_K : Nat) (a0 : Key) (a1 : Int) : Option (Key) :=
  some (Key.mk a1 a0.Turn)

theorem ok_impl_turnTrack_2 (K : Nat) (a0 : Key) (a1 : Int) (o : (Key)) (h : impl_turnTrack_2 K a0 a1 = some o) : CallOK Try.prog 147 [.agg (cs_Key a0), .one (.int .i64 a1)] [.agg (cs_Key o)] := by
  refine callOK_of_AW Try.func147 rfl (by kernel_rfl) (Nat.le_of_ble_eq_true (by kernel_rfl)) ?_
  intro w0
  unfold impl_turnTrack_2 at h
  refine AW.seq ?_
  refine AW.regionA [.box 1, .box 2] [1, 2, 4] [1, 2] (s' := ⟨[(1, (.v (.one (.c (.int .i64 a1))))), (2, (.v (.one (.ptr 1 0)))), (4, (.v (.one (.ptr 2 0))))], [(1, (.box [(.c (.int .i64 a0.At)), (.c (.flt .f32 a0.Turn.W.bits)), (.c (.flt .f32 a0.Turn.X.bits)), (.c (.flt .f32 a0.Turn.Y.bits)), (.c (.flt .f32 a0.Turn.Z.bits))])), (2, (.box [(.c (.int .i64 (0 : Int))), (.c (.flt .f32 (default : F32).bits)), (.c (.flt .f32 (default : F32).bits)), (.c (.flt .f32 (default : F32).bits)), (.c (.flt .f32 (default : F32).bits))]))]⟩) (ob := True ∧ True ∧ True) (by kernel_rfl) ⟨trivial, trivial, trivial⟩ ?_
  refine thenQ_normal ?_
  refine AW.seq ?_
  refine AW.regionA [] [2, 4] [1, 2] (s' := ⟨[(2, (.v (.one (.ptr 1 0)))), (4, (.v (.one (.ptr 2 0))))], [(1, (.box [(.c (.int .i64 a1)), (.c (.flt .f32 a0.Turn.W.bits)), (.c (.flt .f32 a0.Turn.X.bits)), (.c (.flt .f32 a0.Turn.Y.bits)), (.c (.flt .f32 a0.Turn.Z.bits))])), (2, (.box [(.c (.int .i64 (0 : Int))), (.c (.flt .f32 (default : F32).bits)), (.c (.flt .f32 (default : F32).bits)), (.c (.flt .f32 (default : F32).bits)), (.c (.flt .f32 (default : F32).bits))]))]⟩) (ob := True ∧ True ∧ True ∧ True) (by kernel_rfl) ⟨trivial, trivial, trivial, trivial⟩ ?_
  refine thenQ_normal ?_
  refine AW.seq ?_
  refine AW.regionA [] [4] [2] (s' := ⟨[(4, (.v (.one (.ptr 2 0))))], [(2, (.box [(.c (.int .i64 a1)), (.c (.flt .f32 a0.Turn.W.bits)), (.c (.flt .f32 a0.Turn.X.bits)), (.c (.flt .f32 a0.Turn.Y.bits)), (.c (.flt .f32 a0.Turn.Z.bits))]))]⟩) (ob := True ∧ True ∧ True) (by kernel_rfl) ⟨trivial, trivial, trivial⟩ ?_
  refine thenQ_normal ?_
  refine AW.ret ?_
  replace h := some_eq h
  subst h
  exact ⟨.inr rfl, retOK_of [(.agg [(.c (.int .i64 a1)), (.c (.flt .f32 a0.Turn.W.bits)), (.c (.flt .f32 a0.Turn.X.bits)), (.c (.flt .f32 a0.Turn.Y.bits)), (.c (.flt .f32 a0.Turn.Z.bits))])] (by kernel_rfl) ⟨⟨⟨rfl, trivial⟩, ⟨rfl, trivial⟩, ⟨rfl, trivial⟩, ⟨rfl, trivial⟩, ⟨rfl, trivial⟩, trivial⟩, trivial⟩ (of_decide_eq_true (by kernel_rfl))⟩

end
end Go.Fw
