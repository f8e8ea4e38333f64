/- Functions of the program: what each computes, and that it computes just that. -/
import Derived.Test.YtihokgnenjemmaaFwTy
import Derived.Test.YtihokgnenjemmaaFwH
import Derived.Test.YtihokgnenjemmaaFwV
import Derived.Test.YtihokgnenjemmaaFwUB
import Derived.Test.YtihokgnenjemmaaProg
import Derived.KernelRfl
namespace Go.Fw
open Go Go.Proofs
noncomputable section
set_option maxRecDepth 10000

/-! laws.szBoneS -/
def laws_szBoneS (_K : Nat) (a0 : (List Bone)) (a1 : Int) : Option (Int) :=
  ite2 ((decide ((IntKind.i64.wrap (a1 - (a0.length : Int))) < (0 : Int)))) (some ((-1) : Int)) (some (IntKind.i64.wrap (a1 - (a0.length : Int))))

theorem ok_laws_szBoneS (K : Nat) (a0 : (List Bone)) (a1 : Int) (o : (Int)) (h : laws_szBoneS K a0 a1 = some o) : CallOK Try.prog 95 [.one (sl 4 cs_Bone a0), .one (.int .i64 a1)] [.one (.int .i64 o)] := by
  refine callOK_of_AW Try.func95 rfl (by kernel_rfl) (Nat.le_of_ble_eq_true (by kernel_rfl)) ?_
  intro w0
  unfold laws_szBoneS at h
  refine AW.seq ?_
  refine AW.regionA [] [0, 1] [] (s' := ⟨[(0, (.v (.one (.c (sl 4 cs_Bone a0))))), (1, (.v (.one (.c (.int .i64 a1)))))], []⟩) (ob := True ∧ True) (by kernel_rfl) ⟨trivial, trivial⟩ ?_
  refine thenQ_normal ?_
  refine AW.seq ?_
  refine AW.regionA [] [1] [] (s' := ⟨[(1, (.v (.one (.c (.int .i64 (IntKind.i64.wrap (a1 - (a0.length : Int))))))))], []⟩) (ob := True ∧ True ∧ True ∧ True ∧ True ∧ True) (by kernel_rfl) ⟨trivial, trivial, trivial, trivial, trivial, trivial⟩ ?_
  refine thenQ_normal ?_
  refine AW.seq ?_
  refine AW.seq ?_
  refine AW.regionA [] [1, 10] [] (s' := ⟨[(1, (.v (.one (.c (.int .i64 (IntKind.i64.wrap (a1 - (a0.length : Int)))))))), (10, (.v (.one (.c (.bool (decide ((IntKind.i64.wrap (a1 - (a0.length : Int))) < (0 : Int))))))))], []⟩) (ob := True ∧ True ∧ True) (by kernel_rfl) ⟨trivial, trivial, trivial⟩ ?_
  refine thenQ_normal ?_
  rcases ite2_cases h with ⟨b1, h⟩ | ⟨b1, h⟩
  · refine AW.cond_t rfl b1 ?_
    refine AW.seq ?_
    refine AW.regionA [] [4] [] (s' := ⟨[(4, (.v (.one (.c (.int .i64 ((-1) : Int))))))], []⟩) (ob := True ∧ True) (by kernel_rfl) ⟨trivial, trivial⟩ ?_
    refine thenQ_normal ?_
    refine AW.ret ?_
    refine thenQ_ret ?_
    replace h := some_eq h
    subst h
    exact ⟨.inr rfl, retOK_of [(.one (.c (.int .i64 ((-1) : Int))))] (by kernel_rfl) ⟨⟨rfl, trivial⟩, trivial⟩ (of_decide_eq_true (by kernel_rfl))⟩
  · refine AW.cond_f rfl b1 ?_
    refine AW.skip ?_
    refine thenQ_normal ?_
    refine AW.seq ?_
    refine AW.regionA [] [4] [] (s' := ⟨[(4, (.v (.one (.c (.int .i64 (IntKind.i64.wrap (a1 - (a0.length : Int))))))))], []⟩) (ob := True ∧ True ∧ True) (by kernel_rfl) ⟨trivial, trivial, trivial⟩ ?_
    refine thenQ_normal ?_
    refine AW.ret ?_
    replace h := some_eq h
    subst h
    exact ⟨.inr rfl, retOK_of [(.one (.c (.int .i64 (IntKind.i64.wrap (a1 - (a0.length : Int))))))] (by kernel_rfl) ⟨⟨rfl, trivial⟩, trivial⟩ (of_decide_eq_true (by kernel_rfl))⟩

/-! laws.szSkeleton -/
def laws_szSkeleton (K : Nat) (a0 : Skeleton) (a1 : Int) : Option (Int) :=
  (laws_szBoneS K a0.Bones a1).bind fun v1 => ite2 ((decide (v1 < (0 : Int)))) (some ((-1) : Int)) (some v1)

theorem ok_laws_szSkeleton (K : Nat) (a0 : Skeleton) (a1 : Int) (o : (Int)) (h : laws_szSkeleton K a0 a1 = some o) : CallOK Try.prog 26 [.agg (cs_Skeleton a0), .one (.int .i64 a1)] [.one (.int .i64 o)] := by
  refine callOK_of_AW Try.func26 rfl (by kernel_rfl) (Nat.le_of_ble_eq_true (by kernel_rfl)) ?_
  intro w0
  unfold laws_szSkeleton at h
  refine AW.seq ?_
  refine AW.regionA [.box 1] [1, 2] [1] (s' := ⟨[(1, (.v (.one (.c (.int .i64 a1))))), (2, (.v (.one (.ptr 1 0))))], [(1, (.box [(.c (sl 4 cs_Bone a0.Bones))]))]⟩) (ob := True ∧ True ∧ True) (by kernel_rfl) ⟨trivial, trivial, trivial⟩ ?_
  refine thenQ_normal ?_
  refine AW.seq ?_
  obtain ⟨v1, e2, h⟩ := bind_some h
  refine AW.regionA [.no, .no, .no, .call [.one (sl 4 cs_Bone a0.Bones), .one (.int .i64 a1)] [.one (.int .i64 v1)] [[.view]]] [1] [] (s' := ⟨[(1, (.v (.one (.c (.int .i64 v1)))))], []⟩) (ob := True ∧ True ∧ True ∧ (((((sl 4 cs_Bone a0.Bones) : C) = (sl 4 cs_Bone a0.Bones)) ∧ (((.int .i64 a1) : C) = (.int .i64 a1)) ∧ True) ∧ CallOK Try.prog 95 [.one (sl 4 cs_Bone a0.Bones), .one (.int .i64 a1)] [.one (.int .i64 v1)]) ∧ True ∧ True) (by kernel_rfl) ⟨trivial, trivial, trivial, ⟨⟨rfl, rfl, trivial⟩, ok_laws_szBoneS K a0.Bones a1 v1 e2⟩, trivial, trivial⟩ ?_
  refine thenQ_normal ?_
  refine AW.seq ?_
  refine AW.seq ?_
  refine AW.regionA [] [1, 10] [] (s' := ⟨[(1, (.v (.one (.c (.int .i64 v1))))), (10, (.v (.one (.c (.bool (decide (v1 < (0 : Int))))))))], []⟩) (ob := True ∧ True ∧ True) (by kernel_rfl) ⟨trivial, trivial, trivial⟩ ?_
  refine thenQ_normal ?_
  rcases ite2_cases h with ⟨b3, h⟩ | ⟨b3, h⟩
  · refine AW.cond_t rfl b3 ?_
    refine AW.seq ?_
    refine AW.regionA [] [4] [] (s' := ⟨[(4, (.v (.one (.c (.int .i64 ((-1) : Int))))))], []⟩) (ob := True ∧ True) (by kernel_rfl) ⟨trivial, trivial⟩ ?_
    refine thenQ_normal ?_
    refine AW.ret ?_
    refine thenQ_ret ?_
    replace h := some_eq h
    subst h
    exact ⟨.inr rfl, retOK_of [(.one (.c (.int .i64 ((-1) : Int))))] (by kernel_rfl) ⟨⟨rfl, trivial⟩, trivial⟩ (of_decide_eq_true (by kernel_rfl))⟩
  · refine AW.cond_f rfl b3 ?_
    refine AW.skip ?_
    refine thenQ_normal ?_
    refine AW.seq ?_
    refine AW.regionA [] [4] [] (s' := ⟨[(4, (.v (.one (.c (.int .i64 v1)))))], []⟩) (ob := True ∧ True ∧ True) (by kernel_rfl) ⟨trivial, trivial, trivial⟩ ?_
    refine thenQ_normal ?_
    refine AW.ret ?_
    replace h := some_eq h
    subst h
    exact ⟨.inr rfl, retOK_of [(.one (.c (.int .i64 v1)))] (by kernel_rfl) ⟨⟨rfl, trivial⟩, trivial⟩ (of_decide_eq_true (by kernel_rfl))⟩

/-! laws.szKeyS -/
def laws_szKeyS (_K : Nat) (a0 : (List Key)) (a1 : Int) : Option (Int) :=
  ite2 ((decide ((IntKind.i64.wrap (a1 - (a0.length : Int))) < (0 : Int)))) (some ((-1) : Int)) (some (IntKind.i64.wrap (a1 - (a0.length : Int))))

theorem ok_laws_szKeyS (K : Nat) (a0 : (List Key)) (a1 : Int) (o : (Int)) (h : laws_szKeyS K a0 a1 = some o) : CallOK Try.prog 133 [.one (sl 5 cs_Key a0), .one (.int .i64 a1)] [.one (.int .i64 o)] := by
  refine callOK_of_AW Try.func133 rfl (by kernel_rfl) (Nat.le_of_ble_eq_true (by kernel_rfl)) ?_
  intro w0
  unfold laws_szKeyS at h
  refine AW.seq ?_
  refine AW.regionA [] [0, 1] [] (s' := ⟨[(0, (.v (.one (.c (sl 5 cs_Key a0))))), (1, (.v (.one (.c (.int .i64 a1)))))], []⟩) (ob := True ∧ True) (by kernel_rfl) ⟨trivial, trivial⟩ ?_
  refine thenQ_normal ?_
  refine AW.seq ?_
  refine AW.regionA [] [1] [] (s' := ⟨[(1, (.v (.one (.c (.int .i64 (IntKind.i64.wrap (a1 - (a0.length : Int))))))))], []⟩) (ob := True ∧ True ∧ True ∧ True ∧ True ∧ True) (by kernel_rfl) ⟨trivial, trivial, trivial, trivial, trivial, trivial⟩ ?_
  refine thenQ_normal ?_
  refine AW.seq ?_
  refine AW.seq ?_
  refine AW.regionA [] [1, 10] [] (s' := ⟨[(1, (.v (.one (.c (.int .i64 (IntKind.i64.wrap (a1 - (a0.length : Int)))))))), (10, (.v (.one (.c (.bool (decide ((IntKind.i64.wrap (a1 - (a0.length : Int))) < (0 : Int))))))))], []⟩) (ob := True ∧ True ∧ True) (by kernel_rfl) ⟨trivial, trivial, trivial⟩ ?_
  refine thenQ_normal ?_
  rcases ite2_cases h with ⟨b1, h⟩ | ⟨b1, h⟩
  · refine AW.cond_t rfl b1 ?_
    refine AW.seq ?_
    refine AW.regionA [] [4] [] (s' := ⟨[(4, (.v (.one (.c (.int .i64 ((-1) : Int))))))], []⟩) (ob := True ∧ True) (by kernel_rfl) ⟨trivial, trivial⟩ ?_
    refine thenQ_normal ?_
    refine AW.ret ?_
    refine thenQ_ret ?_
    replace h := some_eq h
    subst h
    exact ⟨.inr rfl, retOK_of [(.one (.c (.int .i64 ((-1) : Int))))] (by kernel_rfl) ⟨⟨rfl, trivial⟩, trivial⟩ (of_decide_eq_true (by kernel_rfl))⟩
  · refine AW.cond_f rfl b1 ?_
    refine AW.skip ?_
    refine thenQ_normal ?_
    refine AW.seq ?_
    refine AW.regionA [] [4] [] (s' := ⟨[(4, (.v (.one (.c (.int .i64 (IntKind.i64.wrap (a1 - (a0.length : Int))))))))], []⟩) (ob := True ∧ True ∧ True) (by kernel_rfl) ⟨trivial, trivial, trivial⟩ ?_
    refine thenQ_normal ?_
    refine AW.ret ?_
    replace h := some_eq h
    subst h
    exact ⟨.inr rfl, retOK_of [(.one (.c (.int .i64 (IntKind.i64.wrap (a1 - (a0.length : Int))))))] (by kernel_rfl) ⟨⟨rfl, trivial⟩, trivial⟩ (of_decide_eq_true (by kernel_rfl))⟩

/-! laws.szKeySS -/
def laws_szKeySS_l1 (K : Nat) (a0 : (List (List Key))) : Nat → Int → Int → Option (Int)
  | 0, _, _ => none
  | k + 1, x4, x5 => ite2 ((decide (x5 < (a0.length : Int)))) (chk (0 ≤ x5 ∧ x5 < (a0.length : Int)) ((laws_szKeyS K (a0.getD x5.toNat default) x4).bind fun v8 => ite2 ((decide (v8 < (0 : Int)))) (some ((-1) : Int)) (laws_szKeySS_l1 K a0 k v8 (IntKind.i64.wrap (x5 + (1 : Int)))))) (some x4)

def laws_szKeySS (K : Nat) (a0 : (List (List Key))) (a1 : Int) : Option (Int) :=
  ite2 ((decide ((IntKind.i64.wrap (a1 - (a0.length : Int))) < (0 : Int)))) (some ((-1) : Int)) (laws_szKeySS_l1 K a0 K (IntKind.i64.wrap (a1 - (a0.length : Int))) (0 : Int))

theorem ok_laws_szKeySS (K : Nat) (a0 : (List (List Key))) (a1 : Int) (o : (Int)) (h : laws_szKeySS K a0 a1 = some o) : CallOK Try.prog 58 [.one (sl 1 (csL 5 cs_Key) a0), .one (.int .i64 a1)] [.one (.int .i64 o)] := by
  refine callOK_of_AW Try.func58 rfl (by kernel_rfl) (Nat.le_of_ble_eq_true (by kernel_rfl)) ?_
  intro w0
  unfold laws_szKeySS at h
  refine AW.seq ?_
  refine AW.regionA [] [0, 1] [] (s' := ⟨[(0, (.v (.one (.c (sl 1 (csL 5 cs_Key) a0))))), (1, (.v (.one (.c (.int .i64 a1)))))], []⟩) (ob := True ∧ True) (by kernel_rfl) ⟨trivial, trivial⟩ ?_
  refine thenQ_normal ?_
  refine AW.seq ?_
  refine AW.regionA [] [0, 1] [] (s' := ⟨[(0, (.v (.one (.c (sl 1 (csL 5 cs_Key) a0))))), (1, (.v (.one (.c (.int .i64 (IntKind.i64.wrap (a1 - (a0.length : Int))))))))], []⟩) (ob := True ∧ True ∧ True ∧ True ∧ True ∧ True) (by kernel_rfl) ⟨trivial, trivial, trivial, trivial, trivial, trivial⟩ ?_
  refine thenQ_normal ?_
  refine AW.seq ?_
  refine AW.seq ?_
  refine AW.regionA [] [0, 1, 11] [] (s' := ⟨[(0, (.v (.one (.c (sl 1 (csL 5 cs_Key) a0))))), (1, (.v (.one (.c (.int .i64 (IntKind.i64.wrap (a1 - (a0.length : Int)))))))), (11, (.v (.one (.c (.bool (decide ((IntKind.i64.wrap (a1 - (a0.length : Int))) < (0 : Int))))))))], []⟩) (ob := True ∧ True ∧ True) (by kernel_rfl) ⟨trivial, trivial, trivial⟩ ?_
  refine thenQ_normal ?_
  rcases ite2_cases h with ⟨b1, h⟩ | ⟨b1, h⟩
  · refine AW.cond_t rfl b1 ?_
    refine AW.seq ?_
    refine AW.regionA [] [4] [] (s' := ⟨[(4, (.v (.one (.c (.int .i64 ((-1) : Int))))))], []⟩) (ob := True ∧ True) (by kernel_rfl) ⟨trivial, trivial⟩ ?_
    refine thenQ_normal ?_
    refine AW.ret ?_
    refine thenQ_ret ?_
    replace h := some_eq h
    subst h
    exact ⟨.inr rfl, retOK_of [(.one (.c (.int .i64 ((-1) : Int))))] (by kernel_rfl) ⟨⟨rfl, trivial⟩, trivial⟩ (of_decide_eq_true (by kernel_rfl))⟩
  · refine AW.cond_f rfl b1 ?_
    refine AW.skip ?_
    refine thenQ_normal ?_
    refine AW.seq ?_
    refine AW.seq ?_
    refine AW.regionA [] [0, 1, 5] [] (s' := ⟨[(0, (.v (.one (.c (sl 1 (csL 5 cs_Key) a0))))), (1, (.v (.one (.c (.int .i64 (IntKind.i64.wrap (a1 - (a0.length : Int)))))))), (5, (.v (.one (.c (.int .i64 (0 : Int))))))], []⟩) (ob := True ∧ True) (by kernel_rfl) ⟨trivial, trivial⟩ ?_
    refine thenQ_normal ?_
    refine AW.block ?_
    refine AW.loopQ (σ := Nat × Int × Int) (fun p => ⟨[(0, (.v (.one (.c (sl 1 (csL 5 cs_Key) a0))))), (1, (.v (.one (.c (.int .i64 p.2.1))))), (5, (.v (.one (.c (.int .i64 p.2.2)))))], []⟩) (fun p => laws_szKeySS_l1 K a0 p.1 p.2.1 p.2.2 = some o) (fun p => p.1) (K, (IntKind.i64.wrap (a1 - (a0.length : Int))), (0 : Int)) h ?_
    clear h
    rintro ⟨k, x4, x5⟩ h
    replace h : laws_szKeySS_l1 K a0 k x4 x5 = some o := h
    show AW _ _ (⟨[(0, (.v (.one (.c (sl 1 (csL 5 cs_Key) a0))))), (1, (.v (.one (.c (.int .i64 x4))))), (5, (.v (.one (.c (.int .i64 x5)))))], []⟩ : St) _
    obtain _ | k := k
    · rw [laws_szKeySS_l1] at h; cases h
    rw [laws_szKeySS_l1] at h
    refine AW.seq ?_
    refine AW.seq ?_
    refine AW.regionA [] [0, 1, 5, 15] [] (s' := ⟨[(0, (.v (.one (.c (sl 1 (csL 5 cs_Key) a0))))), (1, (.v (.one (.c (.int .i64 x4))))), (5, (.v (.one (.c (.int .i64 x5))))), (15, (.v (.one (.c (.bool (decide (x5 < (a0.length : Int))))))))], []⟩) (ob := True ∧ True ∧ True ∧ True ∧ True) (by kernel_rfl) ⟨trivial, trivial, trivial, trivial, trivial⟩ ?_
    refine thenQ_normal ?_
    rcases ite2_cases h with ⟨b6, h⟩ | ⟨b6, h⟩
    · refine AW.cond_t rfl b6 ?_
      refine AW.skip ?_
      refine thenQ_normal ?_
      refine AW.seq ?_
      refine AW.block ?_
      refine AW.seq ?_
      obtain ⟨c7, h⟩ := chk_some h
      obtain ⟨v8, e9, h⟩ := bind_some h
      refine AW.regionA [.no, .no, .no, .no, .no, .call [.one (sl 5 cs_Key (a0.getD x5.toNat default)), .one (.int .i64 x4)] [.one (.int .i64 v8)] [[.view]]] [0, 1, 5] [] (s' := ⟨[(0, (.v (.one (.c (sl 1 (csL 5 cs_Key) a0))))), (1, (.v (.one (.c (.int .i64 v8))))), (5, (.v (.one (.c (.int .i64 x5)))))], []⟩) (ob := True ∧ True ∧ (0 ≤ x5 ∧ x5 < (a0.length : Int)) ∧ True ∧ True ∧ (((((sl 5 cs_Key (a0.getD x5.toNat default)) : C) = (sl 5 cs_Key (a0.getD x5.toNat default))) ∧ (((.int .i64 x4) : C) = (.int .i64 x4)) ∧ True) ∧ CallOK Try.prog 133 [.one (sl 5 cs_Key (a0.getD x5.toNat default)), .one (.int .i64 x4)] [.one (.int .i64 v8)]) ∧ True ∧ True) (by kernel_rfl) ⟨trivial, trivial, c7, trivial, trivial, ⟨⟨rfl, rfl, trivial⟩, ok_laws_szKeyS K (a0.getD x5.toNat default) x4 v8 e9⟩, trivial, trivial⟩ ?_
      refine thenQ_normal ?_
      refine AW.seq ?_
      refine AW.regionA [] [0, 1, 5, 25] [] (s' := ⟨[(0, (.v (.one (.c (sl 1 (csL 5 cs_Key) a0))))), (1, (.v (.one (.c (.int .i64 v8))))), (5, (.v (.one (.c (.int .i64 x5))))), (25, (.v (.one (.c (.bool (decide (v8 < (0 : Int))))))))], []⟩) (ob := True ∧ True ∧ True) (by kernel_rfl) ⟨trivial, trivial, trivial⟩ ?_
      refine thenQ_normal ?_
      rcases ite2_cases h with ⟨b10, h⟩ | ⟨b10, h⟩
      · refine AW.cond_t rfl b10 ?_
        refine AW.seq ?_
        refine AW.regionA [] [4] [] (s' := ⟨[(4, (.v (.one (.c (.int .i64 ((-1) : Int))))))], []⟩) (ob := True ∧ True) (by kernel_rfl) ⟨trivial, trivial⟩ ?_
        refine thenQ_normal ?_
        refine AW.ret ?_
        refine blockQ_ret ?_
        refine thenQ_ret ?_
        refine loopQ_ret ?_
        refine blockQ_ret ?_
        refine thenQ_ret ?_
        replace h := some_eq h
        subst h
        exact ⟨.inr rfl, retOK_of [(.one (.c (.int .i64 ((-1) : Int))))] (by kernel_rfl) ⟨⟨rfl, trivial⟩, trivial⟩ (of_decide_eq_true (by kernel_rfl))⟩
      · refine AW.cond_f rfl b10 ?_
        refine AW.skip ?_
        refine blockQ_normal ?_
        refine thenQ_normal ?_
        refine AW.regionA [] [0, 1, 5] [] (s' := ⟨[(0, (.v (.one (.c (sl 1 (csL 5 cs_Key) a0))))), (1, (.v (.one (.c (.int .i64 v8))))), (5, (.v (.one (.c (.int .i64 (IntKind.i64.wrap (x5 + (1 : Int))))))))], []⟩) (ob := True ∧ True ∧ True ∧ True) (by kernel_rfl) ⟨trivial, trivial, trivial, trivial⟩ ?_
        exact loopQ_normal (k, v8, (IntKind.i64.wrap (x5 + (1 : Int)))) h (Nat.lt_succ_self k) (Sub.keep [0, 1, 5] [] (by kernel_rfl) (by kernel_rfl))
    · refine AW.cond_f rfl b6 ?_
      refine AW.exit ?_
      refine thenQ_exit ?_
      refine loopQ_exit ?_
      refine blockQ_exit ?_
      refine thenQ_normal ?_
      refine AW.seq ?_
      refine AW.regionA [] [4] [] (s' := ⟨[(4, (.v (.one (.c (.int .i64 x4)))))], []⟩) (ob := True ∧ True ∧ True) (by kernel_rfl) ⟨trivial, trivial, trivial⟩ ?_
      refine thenQ_normal ?_
      refine AW.ret ?_
      replace h := some_eq h
      subst h
      exact ⟨.inr rfl, retOK_of [(.one (.c (.int .i64 x4)))] (by kernel_rfl) ⟨⟨rfl, trivial⟩, trivial⟩ (of_decide_eq_true (by kernel_rfl))⟩

/-! laws.szRootKeyS -/
def laws_szRootKeyS (_K : Nat) (a0 : (List RootKey)) (a1 : Int) : Option (Int) :=
  ite2 ((decide ((IntKind.i64.wrap (a1 - (a0.length : Int))) < (0 : Int)))) (some ((-1) : Int)) (some (IntKind.i64.wrap (a1 - (a0.length : Int))))

theorem ok_laws_szRootKeyS (K : Nat) (a0 : (List RootKey)) (a1 : Int) (o : (Int)) (h : laws_szRootKeyS K a0 a1 = some o) : CallOK Try.prog 59 [.one (sl 4 cs_RootKey a0), .one (.int .i64 a1)] [.one (.int .i64 o)] := by
  refine callOK_of_AW Try.func59 rfl (by kernel_rfl) (Nat.le_of_ble_eq_true (by kernel_rfl)) ?_
  intro w0
  unfold laws_szRootKeyS at h
  refine AW.seq ?_
  refine AW.regionA [] [0, 1] [] (s' := ⟨[(0, (.v (.one (.c (sl 4 cs_RootKey a0))))), (1, (.v (.one (.c (.int .i64 a1)))))], []⟩) (ob := True ∧ True) (by kernel_rfl) ⟨trivial, trivial⟩ ?_
  refine thenQ_normal ?_
  refine AW.seq ?_
  refine AW.regionA [] [1] [] (s' := ⟨[(1, (.v (.one (.c (.int .i64 (IntKind.i64.wrap (a1 - (a0.length : Int))))))))], []⟩) (ob := True ∧ True ∧ True ∧ True ∧ True ∧ True) (by kernel_rfl) ⟨trivial, trivial, trivial, trivial, trivial, trivial⟩ ?_
  refine thenQ_normal ?_
  refine AW.seq ?_
  refine AW.seq ?_
  refine AW.regionA [] [1, 10] [] (s' := ⟨[(1, (.v (.one (.c (.int .i64 (IntKind.i64.wrap (a1 - (a0.length : Int)))))))), (10, (.v (.one (.c (.bool (decide ((IntKind.i64.wrap (a1 - (a0.length : Int))) < (0 : Int))))))))], []⟩) (ob := True ∧ True ∧ True) (by kernel_rfl) ⟨trivial, trivial, trivial⟩ ?_
  refine thenQ_normal ?_
  rcases ite2_cases h with ⟨b1, h⟩ | ⟨b1, h⟩
  · refine AW.cond_t rfl b1 ?_
    refine AW.seq ?_
    refine AW.regionA [] [4] [] (s' := ⟨[(4, (.v (.one (.c (.int .i64 ((-1) : Int))))))], []⟩) (ob := True ∧ True) (by kernel_rfl) ⟨trivial, trivial⟩ ?_
    refine thenQ_normal ?_
    refine AW.ret ?_
    refine thenQ_ret ?_
    replace h := some_eq h
    subst h
    exact ⟨.inr rfl, retOK_of [(.one (.c (.int .i64 ((-1) : Int))))] (by kernel_rfl) ⟨⟨rfl, trivial⟩, trivial⟩ (of_decide_eq_true (by kernel_rfl))⟩
  · refine AW.cond_f rfl b1 ?_
    refine AW.skip ?_
    refine thenQ_normal ?_
    refine AW.seq ?_
    refine AW.regionA [] [4] [] (s' := ⟨[(4, (.v (.one (.c (.int .i64 (IntKind.i64.wrap (a1 - (a0.length : Int))))))))], []⟩) (ob := True ∧ True ∧ True) (by kernel_rfl) ⟨trivial, trivial, trivial⟩ ?_
    refine thenQ_normal ?_
    refine AW.ret ?_
    replace h := some_eq h
    subst h
    exact ⟨.inr rfl, retOK_of [(.one (.c (.int .i64 (IntKind.i64.wrap (a1 - (a0.length : Int))))))] (by kernel_rfl) ⟨⟨rfl, trivial⟩, trivial⟩ (of_decide_eq_true (by kernel_rfl))⟩

/-! laws.szClip -/
def laws_szClip (K : Nat) (a0 : Clip) (a1 : Int) : Option (Int) :=
  (laws_szKeySS K a0.Tracks a1).bind fun v1 => ite2 ((decide (v1 < (0 : Int)))) (some ((-1) : Int)) ((laws_szRootKeyS K a0.Roots v1).bind fun v4 => ite2 ((decide (v4 < (0 : Int)))) (some ((-1) : Int)) (some v4))

theorem ok_laws_szClip (K : Nat) (a0 : Clip) (a1 : Int) (o : (Int)) (h : laws_szClip K a0 a1 = some o) : CallOK Try.prog 11 [.agg (cs_Clip a0), .one (.int .i64 a1)] [.one (.int .i64 o)] := by
  refine callOK_of_AW Try.func11 rfl (by kernel_rfl) (Nat.le_of_ble_eq_true (by kernel_rfl)) ?_
  intro w0
  unfold laws_szClip at h
  refine AW.seq ?_
  refine AW.regionA [.box 1] [1, 2] [1] (s' := ⟨[(1, (.v (.one (.c (.int .i64 a1))))), (2, (.v (.one (.ptr 1 0))))], [(1, (.box [(.c (.int .i64 a0.Length)), (.c (.int .i64 a0.Kind)), (.c (sl 1 (csL 5 cs_Key) a0.Tracks)), (.c (sl 4 cs_RootKey a0.Roots))]))]⟩) (ob := True ∧ True ∧ True) (by kernel_rfl) ⟨trivial, trivial, trivial⟩ ?_
  refine thenQ_normal ?_
  refine AW.seq ?_
  obtain ⟨v1, e2, h⟩ := bind_some h
  refine AW.regionA [.no, .no, .no, .call [.one (sl 1 (csL 5 cs_Key) a0.Tracks), .one (.int .i64 a1)] [.one (.int .i64 v1)] [[.view]]] [1, 2] [1] (s' := ⟨[(1, (.v (.one (.c (.int .i64 v1))))), (2, (.v (.one (.ptr 1 0))))], [(1, (.box [(.c (.int .i64 a0.Length)), (.c (.int .i64 a0.Kind)), (.c (sl 1 (csL 5 cs_Key) a0.Tracks)), (.c (sl 4 cs_RootKey a0.Roots))]))]⟩) (ob := True ∧ True ∧ True ∧ (((((sl 1 (csL 5 cs_Key) a0.Tracks) : C) = (sl 1 (csL 5 cs_Key) a0.Tracks)) ∧ (((.int .i64 a1) : C) = (.int .i64 a1)) ∧ True) ∧ CallOK Try.prog 58 [.one (sl 1 (csL 5 cs_Key) a0.Tracks), .one (.int .i64 a1)] [.one (.int .i64 v1)]) ∧ True ∧ True) (by kernel_rfl) ⟨trivial, trivial, trivial, ⟨⟨rfl, rfl, trivial⟩, ok_laws_szKeySS K a0.Tracks a1 v1 e2⟩, trivial, trivial⟩ ?_
  refine thenQ_normal ?_
  refine AW.seq ?_
  refine AW.seq ?_
  refine AW.regionA [] [1, 2, 10] [1] (s' := ⟨[(1, (.v (.one (.c (.int .i64 v1))))), (2, (.v (.one (.ptr 1 0)))), (10, (.v (.one (.c (.bool (decide (v1 < (0 : Int))))))))], [(1, (.box [(.c (.int .i64 a0.Length)), (.c (.int .i64 a0.Kind)), (.c (sl 1 (csL 5 cs_Key) a0.Tracks)), (.c (sl 4 cs_RootKey a0.Roots))]))]⟩) (ob := True ∧ True ∧ True) (by kernel_rfl) ⟨trivial, trivial, trivial⟩ ?_
  refine thenQ_normal ?_
  rcases ite2_cases h with ⟨b3, h⟩ | ⟨b3, h⟩
  · refine AW.cond_t rfl b3 ?_
    refine AW.seq ?_
    refine AW.regionA [] [4] [] (s' := ⟨[(4, (.v (.one (.c (.int .i64 ((-1) : Int))))))], []⟩) (ob := True ∧ True) (by kernel_rfl) ⟨trivial, trivial⟩ ?_
    refine thenQ_normal ?_
    refine AW.ret ?_
    refine thenQ_ret ?_
    replace h := some_eq h
    subst h
    exact ⟨.inr rfl, retOK_of [(.one (.c (.int .i64 ((-1) : Int))))] (by kernel_rfl) ⟨⟨rfl, trivial⟩, trivial⟩ (of_decide_eq_true (by kernel_rfl))⟩
  · refine AW.cond_f rfl b3 ?_
    refine AW.skip ?_
    refine thenQ_normal ?_
    refine AW.seq ?_
    obtain ⟨v4, e5, h⟩ := bind_some h
    refine AW.regionA [.no, .no, .no, .call [.one (sl 4 cs_RootKey a0.Roots), .one (.int .i64 v1)] [.one (.int .i64 v4)] [[.view]]] [1] [] (s' := ⟨[(1, (.v (.one (.c (.int .i64 v4)))))], []⟩) (ob := True ∧ True ∧ True ∧ (((((sl 4 cs_RootKey a0.Roots) : C) = (sl 4 cs_RootKey a0.Roots)) ∧ (((.int .i64 v1) : C) = (.int .i64 v1)) ∧ True) ∧ CallOK Try.prog 59 [.one (sl 4 cs_RootKey a0.Roots), .one (.int .i64 v1)] [.one (.int .i64 v4)]) ∧ True ∧ True) (by kernel_rfl) ⟨trivial, trivial, trivial, ⟨⟨rfl, rfl, trivial⟩, ok_laws_szRootKeyS K a0.Roots v1 v4 e5⟩, trivial, trivial⟩ ?_
    refine thenQ_normal ?_
    refine AW.seq ?_
    refine AW.seq ?_
    refine AW.regionA [] [1, 16] [] (s' := ⟨[(1, (.v (.one (.c (.int .i64 v4))))), (16, (.v (.one (.c (.bool (decide (v4 < (0 : Int))))))))], []⟩) (ob := True ∧ True ∧ True) (by kernel_rfl) ⟨trivial, trivial, trivial⟩ ?_
    refine thenQ_normal ?_
    rcases ite2_cases h with ⟨b6, h⟩ | ⟨b6, h⟩
    · refine AW.cond_t rfl b6 ?_
      refine AW.seq ?_
      refine AW.regionA [] [4] [] (s' := ⟨[(4, (.v (.one (.c (.int .i64 ((-1) : Int))))))], []⟩) (ob := True ∧ True) (by kernel_rfl) ⟨trivial, trivial⟩ ?_
      refine thenQ_normal ?_
      refine AW.ret ?_
      refine thenQ_ret ?_
      replace h := some_eq h
      subst h
      exact ⟨.inr rfl, retOK_of [(.one (.c (.int .i64 ((-1) : Int))))] (by kernel_rfl) ⟨⟨rfl, trivial⟩, trivial⟩ (of_decide_eq_true (by kernel_rfl))⟩
    · refine AW.cond_f rfl b6 ?_
      refine AW.skip ?_
      refine thenQ_normal ?_
      refine AW.seq ?_
      refine AW.regionA [] [4] [] (s' := ⟨[(4, (.v (.one (.c (.int .i64 v4)))))], []⟩) (ob := True ∧ True ∧ True) (by kernel_rfl) ⟨trivial, trivial, trivial⟩ ?_
      refine thenQ_normal ?_
      refine AW.ret ?_
      replace h := some_eq h
      subst h
      exact ⟨.inr rfl, retOK_of [(.one (.c (.int .i64 v4)))] (by kernel_rfl) ⟨⟨rfl, trivial⟩, trivial⟩ (of_decide_eq_true (by kernel_rfl))⟩

/-! laws.toVector -/
def laws_toVector (_K : Nat) (a0 : Vector) : Option (Vector) :=
  some a0

theorem ok_laws_toVector (K : Nat) (a0 : Vector) (o : (Vector)) (h : laws_toVector K a0 = some o) : CallOK Try.prog 184 [.agg (cs_Vector a0)] [.agg (cs_Vector o)] := by
  refine callOK_of_AW Try.func184 rfl (by kernel_rfl) (Nat.le_of_ble_eq_true (by kernel_rfl)) ?_
  intro w0
  unfold laws_toVector at h
  refine AW.seq ?_
  refine AW.regionA [.box 1, .box 2] [1, 2] [1, 2] (s' := ⟨[(1, (.v (.one (.ptr 1 0)))), (2, (.v (.one (.ptr 2 0))))], [(1, (.box [(.c (.flt .f32 a0.X.bits)), (.c (.flt .f32 a0.Y.bits)), (.c (.flt .f32 a0.Z.bits))])), (2, (.box [(.c (.flt .f32 (default : F32).bits)), (.c (.flt .f32 (default : F32).bits)), (.c (.flt .f32 (default : F32).bits))]))]⟩) (ob := True ∧ True ∧ True) (by kernel_rfl) ⟨trivial, trivial, trivial⟩ ?_
  refine thenQ_normal ?_
  refine AW.seq ?_
  refine AW.regionA [.box 3] [1, 2, 3] [1, 2, 3] (s' := ⟨[(1, (.v (.one (.ptr 1 0)))), (2, (.v (.one (.ptr 2 0)))), (3, (.v (.one (.ptr 3 0))))], [(1, (.box [(.c (.flt .f32 a0.X.bits)), (.c (.flt .f32 a0.Y.bits)), (.c (.flt .f32 a0.Z.bits))])), (2, (.box [(.c (.flt .f32 (default : F32).bits)), (.c (.flt .f32 (default : F32).bits)), (.c (.flt .f32 (default : F32).bits))])), (3, (.box [(.c (.flt .f32 (default : F32).bits)), (.c (.flt .f32 (default : F32).bits)), (.c (.flt .f32 (default : F32).bits))]))]⟩) (ob := True ∧ True) (by kernel_rfl) ⟨trivial, trivial⟩ ?_
  refine thenQ_normal ?_
  refine AW.seq ?_
  refine AW.regionA [] [1, 2, 3] [1, 2, 3] (s' := ⟨[(1, (.v (.one (.ptr 1 0)))), (2, (.v (.one (.ptr 2 0)))), (3, (.v (.one (.ptr 3 0))))], [(1, (.box [(.c (.flt .f32 a0.X.bits)), (.c (.flt .f32 a0.Y.bits)), (.c (.flt .f32 a0.Z.bits))])), (2, (.box [(.c (.flt .f32 (default : F32).bits)), (.c (.flt .f32 (default : F32).bits)), (.c (.flt .f32 (default : F32).bits))])), (3, (.box [(.c (.flt .f32 a0.X.bits)), (.c (.flt .f32 (default : F32).bits)), (.c (.flt .f32 (default : F32).bits))]))]⟩) (ob := True ∧ True ∧ True ∧ True ∧ True) (by kernel_rfl) ⟨trivial, trivial, trivial, trivial, trivial⟩ ?_
  refine thenQ_normal ?_
  refine AW.seq ?_
  refine AW.regionA [] [1, 2, 3] [1, 2, 3] (s' := ⟨[(1, (.v (.one (.ptr 1 0)))), (2, (.v (.one (.ptr 2 0)))), (3, (.v (.one (.ptr 3 0))))], [(1, (.box [(.c (.flt .f32 a0.X.bits)), (.c (.flt .f32 a0.Y.bits)), (.c (.flt .f32 a0.Z.bits))])), (2, (.box [(.c (.flt .f32 (default : F32).bits)), (.c (.flt .f32 (default : F32).bits)), (.c (.flt .f32 (default : F32).bits))])), (3, (.box [(.c (.flt .f32 a0.X.bits)), (.c (.flt .f32 a0.Y.bits)), (.c (.flt .f32 (default : F32).bits))]))]⟩) (ob := True ∧ True ∧ True ∧ True ∧ True) (by kernel_rfl) ⟨trivial, trivial, trivial, trivial, trivial⟩ ?_
  refine thenQ_normal ?_
  refine AW.seq ?_
  refine AW.regionA [] [2, 3] [2, 3] (s' := ⟨[(2, (.v (.one (.ptr 2 0)))), (3, (.v (.one (.ptr 3 0))))], [(2, (.box [(.c (.flt .f32 (default : F32).bits)), (.c (.flt .f32 (default : F32).bits)), (.c (.flt .f32 (default : F32).bits))])), (3, (.box [(.c (.flt .f32 a0.X.bits)), (.c (.flt .f32 a0.Y.bits)), (.c (.flt .f32 a0.Z.bits))]))]⟩) (ob := True ∧ True ∧ True ∧ True ∧ True) (by kernel_rfl) ⟨trivial, trivial, trivial, trivial, trivial⟩ ?_
  refine thenQ_normal ?_
  refine AW.seq ?_
  refine AW.regionA [] [2] [2] (s' := ⟨[(2, (.v (.one (.ptr 2 0))))], [(2, (.box [(.c (.flt .f32 a0.X.bits)), (.c (.flt .f32 a0.Y.bits)), (.c (.flt .f32 a0.Z.bits))]))]⟩) (ob := True ∧ True ∧ True) (by kernel_rfl) ⟨trivial, trivial, trivial⟩ ?_
  refine thenQ_normal ?_
  refine AW.ret ?_
  replace h := some_eq h
  subst h
  exact ⟨.inr rfl, retOK_of [(.agg [(.c (.flt .f32 a0.X.bits)), (.c (.flt .f32 a0.Y.bits)), (.c (.flt .f32 a0.Z.bits))])] (by kernel_rfl) ⟨⟨⟨rfl, trivial⟩, ⟨rfl, trivial⟩, ⟨rfl, trivial⟩, trivial⟩, trivial⟩ (of_decide_eq_true (by kernel_rfl))⟩

/-! laws.toBone -/
def laws_toBone (K : Nat) (a0 : Bone) : Option (Bone) :=
  (laws_toVector K a0.Offset).bind fun v1 => some (Bone.mk a0.Parent v1)

theorem ok_laws_toBone (K : Nat) (a0 : Bone) (o : (Bone)) (h : laws_toBone K a0 = some o) : CallOK Try.prog 162 [.agg (cs_Bone a0)] [.agg (cs_Bone o)] := by
  refine callOK_of_AW Try.func162 rfl (by kernel_rfl) (Nat.le_of_ble_eq_true (by kernel_rfl)) ?_
  intro w0
  unfold laws_toBone at h
  refine AW.seq ?_
  refine AW.regionA [.box 1, .box 2] [1, 2] [1, 2] (s' := ⟨[(1, (.v (.one (.ptr 1 0)))), (2, (.v (.one (.ptr 2 0))))], [(1, (.box [(.c (.int .i64 a0.Parent)), (.c (.flt .f32 a0.Offset.X.bits)), (.c (.flt .f32 a0.Offset.Y.bits)), (.c (.flt .f32 a0.Offset.Z.bits))])), (2, (.box [(.c (.int .i64 (0 : Int))), (.c (.flt .f32 (default : F32).bits)), (.c (.flt .f32 (default : F32).bits)), (.c (.flt .f32 (default : F32).bits))]))]⟩) (ob := True ∧ True ∧ True) (by kernel_rfl) ⟨trivial, trivial, trivial⟩ ?_
  refine thenQ_normal ?_
  refine AW.seq ?_
  refine AW.regionA [.box 3] [1, 2, 3] [1, 2, 3] (s' := ⟨[(1, (.v (.one (.ptr 1 0)))), (2, (.v (.one (.ptr 2 0)))), (3, (.v (.one (.ptr 3 0))))], [(1, (.box [(.c (.int .i64 a0.Parent)), (.c (.flt .f32 a0.Offset.X.bits)), (.c (.flt .f32 a0.Offset.Y.bits)), (.c (.flt .f32 a0.Offset.Z.bits))])), (2, (.box [(.c (.int .i64 (0 : Int))), (.c (.flt .f32 (default : F32).bits)), (.c (.flt .f32 (default : F32).bits)), (.c (.flt .f32 (default : F32).bits))])), (3, (.box [(.c (.int .i64 (0 : Int))), (.c (.flt .f32 (default : F32).bits)), (.c (.flt .f32 (default : F32).bits)), (.c (.flt .f32 (default : F32).bits))]))]⟩) (ob := True ∧ True) (by kernel_rfl) ⟨trivial, trivial⟩ ?_
  refine thenQ_normal ?_
  refine AW.seq ?_
  refine AW.regionA [] [1, 2, 3] [1, 2, 3] (s' := ⟨[(1, (.v (.one (.ptr 1 0)))), (2, (.v (.one (.ptr 2 0)))), (3, (.v (.one (.ptr 3 0))))], [(1, (.box [(.c (.int .i64 a0.Parent)), (.c (.flt .f32 a0.Offset.X.bits)), (.c (.flt .f32 a0.Offset.Y.bits)), (.c (.flt .f32 a0.Offset.Z.bits))])), (2, (.box [(.c (.int .i64 (0 : Int))), (.c (.flt .f32 (default : F32).bits)), (.c (.flt .f32 (default : F32).bits)), (.c (.flt .f32 (default : F32).bits))])), (3, (.box [(.c (.int .i64 a0.Parent)), (.c (.flt .f32 (default : F32).bits)), (.c (.flt .f32 (default : F32).bits)), (.c (.flt .f32 (default : F32).bits))]))]⟩) (ob := True ∧ True ∧ True ∧ True ∧ True) (by kernel_rfl) ⟨trivial, trivial, trivial, trivial, trivial⟩ ?_
  refine thenQ_normal ?_
  refine AW.seq ?_
  obtain ⟨v1, e2, h⟩ := bind_some h
  refine AW.regionA [.no, .no, .call [.agg (cs_Vector a0.Offset)] [.agg (cs_Vector v1)] [[.view, .view, .view]]] [2, 3] [2, 3] (s' := ⟨[(2, (.v (.one (.ptr 2 0)))), (3, (.v (.one (.ptr 3 0))))], [(2, (.box [(.c (.int .i64 (0 : Int))), (.c (.flt .f32 (default : F32).bits)), (.c (.flt .f32 (default : F32).bits)), (.c (.flt .f32 (default : F32).bits))])), (3, (.box [(.c (.int .i64 a0.Parent)), (.c (.flt .f32 v1.X.bits)), (.c (.flt .f32 v1.Y.bits)), (.c (.flt .f32 v1.Z.bits))]))]⟩) (ob := True ∧ True ∧ ((((((.flt .f32 a0.Offset.X.bits) : C) = (.flt .f32 a0.Offset.X.bits)) ∧ (((.flt .f32 a0.Offset.Y.bits) : C) = (.flt .f32 a0.Offset.Y.bits)) ∧ (((.flt .f32 a0.Offset.Z.bits) : C) = (.flt .f32 a0.Offset.Z.bits)) ∧ True) ∧ True) ∧ CallOK Try.prog 184 [.agg (cs_Vector a0.Offset)] [.agg (cs_Vector v1)]) ∧ True ∧ True ∧ True) (by kernel_rfl) ⟨trivial, trivial, ⟨⟨⟨rfl, rfl, rfl, trivial⟩, trivial⟩, ok_laws_toVector K a0.Offset v1 e2⟩, trivial, trivial, trivial⟩ ?_
  refine thenQ_normal ?_
  refine AW.seq ?_
  refine AW.regionA [] [2] [2] (s' := ⟨[(2, (.v (.one (.ptr 2 0))))], [(2, (.box [(.c (.int .i64 a0.Parent)), (.c (.flt .f32 v1.X.bits)), (.c (.flt .f32 v1.Y.bits)), (.c (.flt .f32 v1.Z.bits))]))]⟩) (ob := True ∧ True ∧ True) (by kernel_rfl) ⟨trivial, trivial, trivial⟩ ?_
  refine thenQ_normal ?_
  refine AW.ret ?_
  replace h := some_eq h
  subst h
  exact ⟨.inr rfl, retOK_of [(.agg [(.c (.int .i64 a0.Parent)), (.c (.flt .f32 v1.X.bits)), (.c (.flt .f32 v1.Y.bits)), (.c (.flt .f32 v1.Z.bits))])] (by kernel_rfl) ⟨⟨⟨rfl, trivial⟩, ⟨rfl, trivial⟩, ⟨rfl, trivial⟩, ⟨rfl, trivial⟩, trivial⟩, trivial⟩ (of_decide_eq_true (by kernel_rfl))⟩

/-! laws.toBoneS -/
def laws_toBoneS_l1 (K : Nat) (a0 : (List Bone)) : Nat → Int → (List Bone) → Option ((List Bone))
  | 0, _, _ => none
  | k + 1, x4, x5 => ite2 ((decide (x4 < (a0.length : Int)))) (chk (0 ≤ x4 ∧ x4 < (a0.length : Int)) ((laws_toBone K (a0.getD x4.toNat default)).bind fun v8 => chk (0 ≤ x4 ∧ x4 < (x5.length : Int)) (laws_toBoneS_l1 K a0 k (IntKind.i64.wrap (x4 + (1 : Int))) (x5.set x4.toNat v8)))) (some x5)

def laws_toBoneS (K : Nat) (a0 : (List Bone)) : Option ((List Bone)) :=
  chk (0 ≤ (a0.length : Int) ∧ (a0.length : Int).toNat * 24 ≤ 140737488355328) (laws_toBoneS_l1 K a0 K (0 : Int) (List.replicate (a0.length : Int).toNat (default : Bone)))

theorem ok_laws_toBoneS (K : Nat) (a0 : (List Bone)) (o : ((List Bone))) (h : laws_toBoneS K a0 = some o) : CallOK Try.prog 99 [.one (sl 4 cs_Bone a0)] [.one (sl 4 cs_Bone o)] := by
  refine callOK_of_AW Try.func99 rfl (by kernel_rfl) (Nat.le_of_ble_eq_true (by kernel_rfl)) ?_
  intro w0
  unfold laws_toBoneS at h
  refine AW.seq ?_
  refine AW.regionA [] [0] [] (s' := ⟨[(0, (.v (.one (.c (sl 4 cs_Bone a0)))))], []⟩) (ob := True ∧ True) (by kernel_rfl) ⟨trivial, trivial⟩ ?_
  refine thenQ_normal ?_
  refine AW.seq ?_
  obtain ⟨c1, h⟩ := chk_some h
  refine AW.regionA [.no, .no, .objA 1 (List.replicate (a0.length : Int).toNat (default : Bone)).length (gl cs_Bone (List.replicate (a0.length : Int).toNat (default : Bone)))] [0, 3] [1] (s' := ⟨[(0, (.v (.one (.c (sl 4 cs_Bone a0))))), (3, (.v (.one (.arr 1))))], [(1, (.arr false (List.replicate (a0.length : Int).toNat (default : Bone)).length 4 (gl cs_Bone (List.replicate (a0.length : Int).toNat (default : Bone)))))]⟩) (ob := True ∧ True ∧ (0 ≤ (a0.length : Int) ∧ (a0.length : Int) = (a0.length : Int) ∧ (((List.replicate (a0.length : Int).toNat (default : Bone)).length : Nat) : Int) = (a0.length : Int) ∧ (List.replicate (a0.length : Int).toNat (default : Bone)).length * 24 ≤ 140737488355328 ∧ ∀ i, i < (List.replicate (a0.length : Int).toNat (default : Bone)).length → zeroRow (fun _ => none) [(.c (.int .i64 (0 : Int))), (.c (.flt .f32 (default : F32).bits)), (.c (.flt .f32 (default : F32).bits)), (.c (.flt .f32 (default : F32).bits))] (gl cs_Bone (List.replicate (a0.length : Int).toNat (default : Bone)) i)) ∧ True ∧ True) (by kernel_rfl) ⟨trivial, trivial, ⟨c1.1, rfl, len_rep c1.1, rep_bytes c1.2, fun i hi => gl_zero (cs := cs_Bone) (zs := [(.c (.int .i64 (0 : Int))), (.c (.flt .f32 (default : F32).bits)), (.c (.flt .f32 (default : F32).bits)), (.c (.flt .f32 (default : F32).bits))]) (n := (a0.length : Int).toNat) ⟨⟨rfl, trivial⟩, ⟨rfl, trivial⟩, ⟨rfl, trivial⟩, ⟨rfl, trivial⟩, trivial⟩ i (rep_lt hi)⟩, trivial, trivial⟩ ?_
  refine thenQ_normal ?_
  refine AW.seq ?_
  refine AW.seq ?_
  refine AW.regionA [] [0, 3, 4] [1] (s' := ⟨[(0, (.v (.one (.c (sl 4 cs_Bone a0))))), (3, (.v (.one (.arr 1)))), (4, (.v (.one (.c (.int .i64 (0 : Int))))))], [(1, (.arr false (List.replicate (a0.length : Int).toNat (default : Bone)).length 4 (gl cs_Bone (List.replicate (a0.length : Int).toNat (default : Bone)))))]⟩) (ob := True ∧ True) (by kernel_rfl) ⟨trivial, trivial⟩ ?_
  refine thenQ_normal ?_
  refine AW.block ?_
  refine AW.loopQ (σ := Nat × Int × (List Bone)) (fun p => ⟨[(0, (.v (.one (.c (sl 4 cs_Bone a0))))), (3, (.v (.one (.arr 1)))), (4, (.v (.one (.c (.int .i64 p.2.1)))))], [(1, (.arr false p.2.2.length 4 (gl cs_Bone p.2.2)))]⟩) (fun p => laws_toBoneS_l1 K a0 p.1 p.2.1 p.2.2 = some o) (fun p => p.1) (K, (0 : Int), (List.replicate (a0.length : Int).toNat (default : Bone))) h ?_
  clear h
  rintro ⟨k, x4, x5⟩ h
  replace h : laws_toBoneS_l1 K a0 k x4 x5 = some o := h
  show AW _ _ (⟨[(0, (.v (.one (.c (sl 4 cs_Bone a0))))), (3, (.v (.one (.arr 1)))), (4, (.v (.one (.c (.int .i64 x4)))))], [(1, (.arr false x5.length 4 (gl cs_Bone x5)))]⟩ : St) _
  obtain _ | k := k
  · rw [laws_toBoneS_l1] at h; cases h
  rw [laws_toBoneS_l1] at h
  refine AW.seq ?_
  refine AW.seq ?_
  refine AW.regionA [] [0, 3, 4, 11] [1] (s' := ⟨[(0, (.v (.one (.c (sl 4 cs_Bone a0))))), (3, (.v (.one (.arr 1)))), (4, (.v (.one (.c (.int .i64 x4))))), (11, (.v (.one (.c (.bool (decide (x4 < (a0.length : Int))))))))], [(1, (.arr false x5.length 4 (gl cs_Bone x5)))]⟩) (ob := True ∧ True ∧ True ∧ True ∧ True) (by kernel_rfl) ⟨trivial, trivial, trivial, trivial, trivial⟩ ?_
  refine thenQ_normal ?_
  rcases ite2_cases h with ⟨b6, h⟩ | ⟨b6, h⟩
  · refine AW.cond_t rfl b6 ?_
    refine AW.skip ?_
    refine thenQ_normal ?_
    refine AW.seq ?_
    refine AW.block ?_
    obtain ⟨c7, h⟩ := chk_some h
    obtain ⟨v8, e9, h⟩ := bind_some h
    obtain ⟨c10, h⟩ := chk_some h
    refine AW.regionA [.no, .no, .no, .no, .no, .no, .call [.agg (cs_Bone (a0.getD x4.toNat default))] [.agg (cs_Bone v8)] [[.view, .view, .view, .view]], .no, .set (x5.set x4.toNat v8).length (gl cs_Bone (x5.set x4.toNat v8)) ((List.range 4).map fun j => (cs_Bone v8).getD (0 + j) .nilptr)] [0, 3, 4] [1] (s' := ⟨[(0, (.v (.one (.c (sl 4 cs_Bone a0))))), (3, (.v (.one (.arr 1)))), (4, (.v (.one (.c (.int .i64 x4)))))], [(1, (.arr false (x5.set x4.toNat v8).length 4 (gl cs_Bone (x5.set x4.toNat v8))))]⟩) (ob := True ∧ True ∧ True ∧ True ∧ (0 ≤ x4 ∧ x4 < (a0.length : Int)) ∧ True ∧ ((((((.int .i64 ((a0.getD x4.toNat default).Parent)) : C) = (.int .i64 ((a0.getD x4.toNat default).Parent))) ∧ (((.flt .f32 (((a0.getD x4.toNat default).Offset).X).bits) : C) = (.flt .f32 (((a0.getD x4.toNat default).Offset).X).bits)) ∧ (((.flt .f32 (((a0.getD x4.toNat default).Offset).Y).bits) : C) = (.flt .f32 (((a0.getD x4.toNat default).Offset).Y).bits)) ∧ (((.flt .f32 (((a0.getD x4.toNat default).Offset).Z).bits) : C) = (.flt .f32 (((a0.getD x4.toNat default).Offset).Z).bits)) ∧ True) ∧ True) ∧ CallOK Try.prog 162 [.agg (cs_Bone (a0.getD x4.toNat default))] [.agg (cs_Bone v8)]) ∧ (0 ≤ x4 ∧ x4 < (x5.length : Int)) ∧ ((x5.set x4.toNat v8).length = x5.length ∧ SetOb x5.length 4 x4.toNat 0 4 (gl cs_Bone x5) (gl cs_Bone (x5.set x4.toNat v8)) ∧ ((List.range 4).map fun j => (cs_Bone v8).getD (0 + j) .nilptr) = ((List.range 4).map fun j => gl cs_Bone (x5.set x4.toNat v8) x4.toNat (0 + j)) ∧ ((((.int .i64 v8.Parent) : C) = (.int .i64 v8.Parent) ∧ True) ∧ (((.flt .f32 v8.Offset.X.bits) : C) = (.flt .f32 v8.Offset.X.bits) ∧ True) ∧ (((.flt .f32 v8.Offset.Y.bits) : C) = (.flt .f32 v8.Offset.Y.bits) ∧ True) ∧ (((.flt .f32 v8.Offset.Z.bits) : C) = (.flt .f32 v8.Offset.Z.bits) ∧ True) ∧ True) ∧ (false = true → ∀ j, j < 4 → isSeq (gl cs_Bone x5 x4.toNat (0 + j)) = false ∧ isSeq (gl cs_Bone (x5.set x4.toNat v8) x4.toNat (0 + j)) = false)) ∧ True) (by kernel_rfl) ⟨trivial, trivial, trivial, trivial, c7, trivial, ⟨⟨⟨rfl, rfl, rfl, rfl, trivial⟩, trivial⟩, ok_laws_toBone K (a0.getD x4.toNat default) v8 e9⟩, c10, ⟨List.length_set, gl_set, (gl_atp (lt_of_bound c10)).symm, ⟨⟨rfl, trivial⟩, ⟨rfl, trivial⟩, ⟨rfl, trivial⟩, ⟨rfl, trivial⟩, trivial⟩, (fun h => nomatch h)⟩, trivial⟩ ?_
    refine blockQ_normal ?_
    refine thenQ_normal ?_
    refine AW.regionA [] [0, 3, 4] [1] (s' := ⟨[(0, (.v (.one (.c (sl 4 cs_Bone a0))))), (3, (.v (.one (.arr 1)))), (4, (.v (.one (.c (.int .i64 (IntKind.i64.wrap (x4 + (1 : Int))))))))], [(1, (.arr false (x5.set x4.toNat v8).length 4 (gl cs_Bone (x5.set x4.toNat v8))))]⟩) (ob := True ∧ True ∧ True ∧ True) (by kernel_rfl) ⟨trivial, trivial, trivial, trivial⟩ ?_
    exact loopQ_normal (k, (IntKind.i64.wrap (x4 + (1 : Int))), (x5.set x4.toNat v8)) h (Nat.lt_succ_self k) (Sub.keep [0, 3, 4] [1] (by kernel_rfl) (by kernel_rfl))
  · refine AW.cond_f rfl b6 ?_
    refine AW.exit ?_
    refine thenQ_exit ?_
    refine loopQ_exit ?_
    refine blockQ_exit ?_
    refine thenQ_normal ?_
    refine AW.seq ?_
    refine AW.regionA [] [2] [1] (s' := ⟨[(2, (.v (.one (.arr 1))))], [(1, (.arr false x5.length 4 (gl cs_Bone x5)))]⟩) (ob := True ∧ True ∧ True) (by kernel_rfl) ⟨trivial, trivial, trivial⟩ ?_
    refine thenQ_normal ?_
    refine AW.ret ?_
    replace h := some_eq h
    subst h
    exact ⟨.inr rfl, retOK_of [(.one (.arr 1))] (by kernel_rfl) ⟨rfl, trivial⟩ (of_decide_eq_true (by kernel_rfl))⟩

/-! laws.toSkeleton -/
def laws_toSkeleton (K : Nat) (a0 : Skeleton) : Option (Skeleton) :=
  (laws_toBoneS K a0.Bones).bind fun v1 => some (Skeleton.mk v1)

theorem ok_laws_toSkeleton (K : Nat) (a0 : Skeleton) (o : (Skeleton)) (h : laws_toSkeleton K a0 = some o) : CallOK Try.prog 28 [.agg (cs_Skeleton a0)] [.agg (cs_Skeleton o)] := by
  refine callOK_of_AW Try.func28 rfl (by kernel_rfl) (Nat.le_of_ble_eq_true (by kernel_rfl)) ?_
  intro w0
  unfold laws_toSkeleton at h
  refine AW.seq ?_
  refine AW.regionA [.box 1, .box 2] [1, 2] [1, 2] (s' := ⟨[(1, (.v (.one (.ptr 1 0)))), (2, (.v (.one (.ptr 2 0))))], [(1, (.box [(.c (sl 4 cs_Bone a0.Bones))])), (2, (.box [.nils]))]⟩) (ob := True ∧ True ∧ True) (by kernel_rfl) ⟨trivial, trivial, trivial⟩ ?_
  refine thenQ_normal ?_
  refine AW.seq ?_
  refine AW.regionA [.box 3] [1, 2, 3] [1, 2, 3] (s' := ⟨[(1, (.v (.one (.ptr 1 0)))), (2, (.v (.one (.ptr 2 0)))), (3, (.v (.one (.ptr 3 0))))], [(1, (.box [(.c (sl 4 cs_Bone a0.Bones))])), (2, (.box [.nils])), (3, (.box [.nils]))]⟩) (ob := True ∧ True) (by kernel_rfl) ⟨trivial, trivial⟩ ?_
  refine thenQ_normal ?_
  refine AW.seq ?_
  obtain ⟨v1, e2, h⟩ := bind_some h
  refine AW.regionA [.no, .no, .call [.one (sl 4 cs_Bone a0.Bones)] [.one (sl 4 cs_Bone v1)] [[.lst 4]]] [2, 3] [2, 3, 4] (s' := ⟨[(2, (.v (.one (.ptr 2 0)))), (3, (.v (.one (.ptr 3 0))))], [(2, (.box [.nils])), (3, (.box [(.lst 4 v1.length 4 (gl cs_Bone v1))])), (4, (.lst v1.length 4 (gl cs_Bone v1)))]⟩) (ob := True ∧ True ∧ (((((sl 4 cs_Bone a0.Bones) : C) = (sl 4 cs_Bone a0.Bones)) ∧ True) ∧ CallOK Try.prog 99 [.one (sl 4 cs_Bone a0.Bones)] [.one (sl 4 cs_Bone v1)]) ∧ True ∧ True ∧ True) (by kernel_rfl) ⟨trivial, trivial, ⟨⟨rfl, trivial⟩, ok_laws_toBoneS K a0.Bones v1 e2⟩, trivial, trivial, trivial⟩ ?_
  refine thenQ_normal ?_
  refine AW.seq ?_
  refine AW.regionA [] [2] [2, 4] (s' := ⟨[(2, (.v (.one (.ptr 2 0))))], [(2, (.box [(.lst 4 v1.length 4 (gl cs_Bone v1))])), (4, (.lst v1.length 4 (gl cs_Bone v1)))]⟩) (ob := True ∧ True ∧ True) (by kernel_rfl) ⟨trivial, trivial, trivial⟩ ?_
  refine thenQ_normal ?_
  refine AW.ret ?_
  replace h := some_eq h
  subst h
  exact ⟨.inr rfl, retOK_of [(.agg [(.lst 4 v1.length 4 (gl cs_Bone v1))])] (by kernel_rfl) ⟨⟨rfl, trivial⟩, trivial⟩ (of_decide_eq_true (by kernel_rfl))⟩

/-! laws.toTurn -/
def laws_toTurn (_K : Nat) (a0 : Turn) : Option (Turn) :=
  some a0

theorem ok_laws_toTurn (K : Nat) (a0 : Turn) (o : (Turn)) (h : laws_toTurn K a0 = some o) : CallOK Try.prog 209 [.agg (cs_Turn a0)] [.agg (cs_Turn o)] := by
  refine callOK_of_AW Try.func209 rfl (by kernel_rfl) (Nat.le_of_ble_eq_true (by kernel_rfl)) ?_
  intro w0
  unfold laws_toTurn at h
  refine AW.seq ?_
  refine AW.regionA [.box 1, .box 2] [1, 2] [1, 2] (s' := ⟨[(1, (.v (.one (.ptr 1 0)))), (2, (.v (.one (.ptr 2 0))))], [(1, (.box [(.c (.flt .f32 a0.W.bits)), (.c (.flt .f32 a0.X.bits)), (.c (.flt .f32 a0.Y.bits)), (.c (.flt .f32 a0.Z.bits))])), (2, (.box [(.c (.flt .f32 (default : F32).bits)), (.c (.flt .f32 (default : F32).bits)), (.c (.flt .f32 (default : F32).bits)), (.c (.flt .f32 (default : F32).bits))]))]⟩) (ob := True ∧ True ∧ True) (by kernel_rfl) ⟨trivial, trivial, trivial⟩ ?_
  refine thenQ_normal ?_
  refine AW.seq ?_
  refine AW.regionA [.box 3] [1, 2, 3] [1, 2, 3] (s' := ⟨[(1, (.v (.one (.ptr 1 0)))), (2, (.v (.one (.ptr 2 0)))), (3, (.v (.one (.ptr 3 0))))], [(1, (.box [(.c (.flt .f32 a0.W.bits)), (.c (.flt .f32 a0.X.bits)), (.c (.flt .f32 a0.Y.bits)), (.c (.flt .f32 a0.Z.bits))])), (2, (.box [(.c (.flt .f32 (default : F32).bits)), (.c (.flt .f32 (default : F32).bits)), (.c (.flt .f32 (default : F32).bits)), (.c (.flt .f32 (default : F32).bits))])), (3, (.box [(.c (.flt .f32 (default : F32).bits)), (.c (.flt .f32 (default : F32).bits)), (.c (.flt .f32 (default : F32).bits)), (.c (.flt .f32 (default : F32).bits))]))]⟩) (ob := True ∧ True) (by kernel_rfl) ⟨trivial, trivial⟩ ?_
  refine thenQ_normal ?_
  refine AW.seq ?_
  refine AW.regionA [] [1, 2, 3] [1, 2, 3] (s' := ⟨[(1, (.v (.one (.ptr 1 0)))), (2, (.v (.one (.ptr 2 0)))), (3, (.v (.one (.ptr 3 0))))], [(1, (.box [(.c (.flt .f32 a0.W.bits)), (.c (.flt .f32 a0.X.bits)), (.c (.flt .f32 a0.Y.bits)), (.c (.flt .f32 a0.Z.bits))])), (2, (.box [(.c (.flt .f32 (default : F32).bits)), (.c (.flt .f32 (default : F32).bits)), (.c (.flt .f32 (default : F32).bits)), (.c (.flt .f32 (default : F32).bits))])), (3, (.box [(.c (.flt .f32 a0.W.bits)), (.c (.flt .f32 (default : F32).bits)), (.c (.flt .f32 (default : F32).bits)), (.c (.flt .f32 (default : F32).bits))]))]⟩) (ob := True ∧ True ∧ True ∧ True ∧ True) (by kernel_rfl) ⟨trivial, trivial, trivial, trivial, trivial⟩ ?_
  refine thenQ_normal ?_
  refine AW.seq ?_
  refine AW.regionA [] [1, 2, 3] [1, 2, 3] (s' := ⟨[(1, (.v (.one (.ptr 1 0)))), (2, (.v (.one (.ptr 2 0)))), (3, (.v (.one (.ptr 3 0))))], [(1, (.box [(.c (.flt .f32 a0.W.bits)), (.c (.flt .f32 a0.X.bits)), (.c (.flt .f32 a0.Y.bits)), (.c (.flt .f32 a0.Z.bits))])), (2, (.box [(.c (.flt .f32 (default : F32).bits)), (.c (.flt .f32 (default : F32).bits)), (.c (.flt .f32 (default : F32).bits)), (.c (.flt .f32 (default : F32).bits))])), (3, (.box [(.c (.flt .f32 a0.W.bits)), (.c (.flt .f32 a0.X.bits)), (.c (.flt .f32 (default : F32).bits)), (.c (.flt .f32 (default : F32).bits))]))]⟩) (ob := True ∧ True ∧ True ∧ True ∧ True) (by kernel_rfl) ⟨trivial, trivial, trivial, trivial, trivial⟩ ?_
  refine thenQ_normal ?_
  refine AW.seq ?_
  refine AW.regionA [] [1, 2, 3] [1, 2, 3] (s' := ⟨[(1, (.v (.one (.ptr 1 0)))), (2, (.v (.one (.ptr 2 0)))), (3, (.v (.one (.ptr 3 0))))], [(1, (.box [(.c (.flt .f32 a0.W.bits)), (.c (.flt .f32 a0.X.bits)), (.c (.flt .f32 a0.Y.bits)), (.c (.flt .f32 a0.Z.bits))])), (2, (.box [(.c (.flt .f32 (default : F32).bits)), (.c (.flt .f32 (default : F32).bits)), (.c (.flt .f32 (default : F32).bits)), (.c (.flt .f32 (default : F32).bits))])), (3, (.box [(.c (.flt .f32 a0.W.bits)), (.c (.flt .f32 a0.X.bits)), (.c (.flt .f32 a0.Y.bits)), (.c (.flt .f32 (default : F32).bits))]))]⟩) (ob := True ∧ True ∧ True ∧ True ∧ True) (by kernel_rfl) ⟨trivial, trivial, trivial, trivial, trivial⟩ ?_
  refine thenQ_normal ?_
  refine AW.seq ?_
  refine AW.regionA [] [2, 3] [2, 3] (s' := ⟨[(2, (.v (.one (.ptr 2 0)))), (3, (.v (.one (.ptr 3 0))))], [(2, (.box [(.c (.flt .f32 (default : F32).bits)), (.c (.flt .f32 (default : F32).bits)), (.c (.flt .f32 (default : F32).bits)), (.c (.flt .f32 (default : F32).bits))])), (3, (.box [(.c (.flt .f32 a0.W.bits)), (.c (.flt .f32 a0.X.bits)), (.c (.flt .f32 a0.Y.bits)), (.c (.flt .f32 a0.Z.bits))]))]⟩) (ob := True ∧ True ∧ True ∧ True ∧ True) (by kernel_rfl) ⟨trivial, trivial, trivial, trivial, trivial⟩ ?_
  refine thenQ_normal ?_
  refine AW.seq ?_
  refine AW.regionA [] [2] [2] (s' := ⟨[(2, (.v (.one (.ptr 2 0))))], [(2, (.box [(.c (.flt .f32 a0.W.bits)), (.c (.flt .f32 a0.X.bits)), (.c (.flt .f32 a0.Y.bits)), (.c (.flt .f32 a0.Z.bits))]))]⟩) (ob := True ∧ True ∧ True) (by kernel_rfl) ⟨trivial, trivial, trivial⟩ ?_
  refine thenQ_normal ?_
  refine AW.ret ?_
  replace h := some_eq h
  subst h
  exact ⟨.inr rfl, retOK_of [(.agg [(.c (.flt .f32 a0.W.bits)), (.c (.flt .f32 a0.X.bits)), (.c (.flt .f32 a0.Y.bits)), (.c (.flt .f32 a0.Z.bits))])] (by kernel_rfl) ⟨⟨⟨rfl, trivial⟩, ⟨rfl, trivial⟩, ⟨rfl, trivial⟩, ⟨rfl, trivial⟩, trivial⟩, trivial⟩ (of_decide_eq_true (by kernel_rfl))⟩

/-! laws.toKey -/
def laws_toKey (K : Nat) (a0 : Key) : Option (Key) :=
  (laws_toTurn K a0.Turn).bind fun v1 => some (Key.mk a0.At v1)

theorem ok_laws_toKey (K : Nat) (a0 : Key) (o : (Key)) (h : laws_toKey K a0 = some o) : CallOK Try.prog 183 [.agg (cs_Key a0)] [.agg (cs_Key o)] := by
  refine callOK_of_AW Try.func183 rfl (by kernel_rfl) (Nat.le_of_ble_eq_true (by kernel_rfl)) ?_
  intro w0
  unfold laws_toKey at h
  refine AW.seq ?_
  refine AW.regionA [.box 1, .box 2] [1, 2] [1, 2] (s' := ⟨[(1, (.v (.one (.ptr 1 0)))), (2, (.v (.one (.ptr 2 0))))], [(1, (.box [(.c (.int .i64 a0.At)), (.c (.flt .f32 a0.Turn.W.bits)), (.c (.flt .f32 a0.Turn.X.bits)), (.c (.flt .f32 a0.Turn.Y.bits)), (.c (.flt .f32 a0.Turn.Z.bits))])), (2, (.box [(.c (.int .i64 (0 : Int))), (.c (.flt .f32 (default : F32).bits)), (.c (.flt .f32 (default : F32).bits)), (.c (.flt .f32 (default : F32).bits)), (.c (.flt .f32 (default : F32).bits))]))]⟩) (ob := True ∧ True ∧ True) (by kernel_rfl) ⟨trivial, trivial, trivial⟩ ?_
  refine thenQ_normal ?_
  refine AW.seq ?_
  refine AW.regionA [.box 3] [1, 2, 3] [1, 2, 3] (s' := ⟨[(1, (.v (.one (.ptr 1 0)))), (2, (.v (.one (.ptr 2 0)))), (3, (.v (.one (.ptr 3 0))))], [(1, (.box [(.c (.int .i64 a0.At)), (.c (.flt .f32 a0.Turn.W.bits)), (.c (.flt .f32 a0.Turn.X.bits)), (.c (.flt .f32 a0.Turn.Y.bits)), (.c (.flt .f32 a0.Turn.Z.bits))])), (2, (.box [(.c (.int .i64 (0 : Int))), (.c (.flt .f32 (default : F32).bits)), (.c (.flt .f32 (default : F32).bits)), (.c (.flt .f32 (default : F32).bits)), (.c (.flt .f32 (default : F32).bits))])), (3, (.box [(.c (.int .i64 (0 : Int))), (.c (.flt .f32 (default : F32).bits)), (.c (.flt .f32 (default : F32).bits)), (.c (.flt .f32 (default : F32).bits)), (.c (.flt .f32 (default : F32).bits))]))]⟩) (ob := True ∧ True) (by kernel_rfl) ⟨trivial, trivial⟩ ?_
  refine thenQ_normal ?_
  refine AW.seq ?_
  refine AW.regionA [] [1, 2, 3] [1, 2, 3] (s' := ⟨[(1, (.v (.one (.ptr 1 0)))), (2, (.v (.one (.ptr 2 0)))), (3, (.v (.one (.ptr 3 0))))], [(1, (.box [(.c (.int .i64 a0.At)), (.c (.flt .f32 a0.Turn.W.bits)), (.c (.flt .f32 a0.Turn.X.bits)), (.c (.flt .f32 a0.Turn.Y.bits)), (.c (.flt .f32 a0.Turn.Z.bits))])), (2, (.box [(.c (.int .i64 (0 : Int))), (.c (.flt .f32 (default : F32).bits)), (.c (.flt .f32 (default : F32).bits)), (.c (.flt .f32 (default : F32).bits)), (.c (.flt .f32 (default : F32).bits))])), (3, (.box [(.c (.int .i64 a0.At)), (.c (.flt .f32 (default : F32).bits)), (.c (.flt .f32 (default : F32).bits)), (.c (.flt .f32 (default : F32).bits)), (.c (.flt .f32 (default : F32).bits))]))]⟩) (ob := True ∧ True ∧ True ∧ True ∧ True) (by kernel_rfl) ⟨trivial, trivial, trivial, trivial, trivial⟩ ?_
  refine thenQ_normal ?_
  refine AW.seq ?_
  obtain ⟨v1, e2, h⟩ := bind_some h
  refine AW.regionA [.no, .no, .call [.agg (cs_Turn a0.Turn)] [.agg (cs_Turn v1)] [[.view, .view, .view, .view]]] [2, 3] [2, 3] (s' := ⟨[(2, (.v (.one (.ptr 2 0)))), (3, (.v (.one (.ptr 3 0))))], [(2, (.box [(.c (.int .i64 (0 : Int))), (.c (.flt .f32 (default : F32).bits)), (.c (.flt .f32 (default : F32).bits)), (.c (.flt .f32 (default : F32).bits)), (.c (.flt .f32 (default : F32).bits))])), (3, (.box [(.c (.int .i64 a0.At)), (.c (.flt .f32 v1.W.bits)), (.c (.flt .f32 v1.X.bits)), (.c (.flt .f32 v1.Y.bits)), (.c (.flt .f32 v1.Z.bits))]))]⟩) (ob := True ∧ True ∧ ((((((.flt .f32 a0.Turn.W.bits) : C) = (.flt .f32 a0.Turn.W.bits)) ∧ (((.flt .f32 a0.Turn.X.bits) : C) = (.flt .f32 a0.Turn.X.bits)) ∧ (((.flt .f32 a0.Turn.Y.bits) : C) = (.flt .f32 a0.Turn.Y.bits)) ∧ (((.flt .f32 a0.Turn.Z.bits) : C) = (.flt .f32 a0.Turn.Z.bits)) ∧ True) ∧ True) ∧ CallOK Try.prog 209 [.agg (cs_Turn a0.Turn)] [.agg (cs_Turn v1)]) ∧ True ∧ True ∧ True) (by kernel_rfl) ⟨trivial, trivial, ⟨⟨⟨rfl, rfl, rfl, rfl, trivial⟩, trivial⟩, ok_laws_toTurn K a0.Turn v1 e2⟩, trivial, trivial, trivial⟩ ?_
  refine thenQ_normal ?_
  refine AW.seq ?_
  refine AW.regionA [] [2] [2] (s' := ⟨[(2, (.v (.one (.ptr 2 0))))], [(2, (.box [(.c (.int .i64 a0.At)), (.c (.flt .f32 v1.W.bits)), (.c (.flt .f32 v1.X.bits)), (.c (.flt .f32 v1.Y.bits)), (.c (.flt .f32 v1.Z.bits))]))]⟩) (ob := True ∧ True ∧ True) (by kernel_rfl) ⟨trivial, trivial, trivial⟩ ?_
  refine thenQ_normal ?_
  refine AW.ret ?_
  replace h := some_eq h
  subst h
  exact ⟨.inr rfl, retOK_of [(.agg [(.c (.int .i64 a0.At)), (.c (.flt .f32 v1.W.bits)), (.c (.flt .f32 v1.X.bits)), (.c (.flt .f32 v1.Y.bits)), (.c (.flt .f32 v1.Z.bits))])] (by kernel_rfl) ⟨⟨⟨rfl, trivial⟩, ⟨rfl, trivial⟩, ⟨rfl, trivial⟩, ⟨rfl, trivial⟩, ⟨rfl, trivial⟩, trivial⟩, trivial⟩ (of_decide_eq_true (by kernel_rfl))⟩

/-! laws.toKeyS -/
def laws_toKeyS_l1 (K : Nat) (a0 : (List Key)) : Nat → Int → (List Key) → Option ((List Key))
  | 0, _, _ => none
  | k + 1, x4, x5 => ite2 ((decide (x4 < (a0.length : Int)))) (chk (0 ≤ x4 ∧ x4 < (a0.length : Int)) ((laws_toKey K (a0.getD x4.toNat default)).bind fun v8 => chk (0 ≤ x4 ∧ x4 < (x5.length : Int)) (laws_toKeyS_l1 K a0 k (IntKind.i64.wrap (x4 + (1 : Int))) (x5.set x4.toNat v8)))) (some x5)

def laws_toKeyS (K : Nat) (a0 : (List Key)) : Option ((List Key)) :=
  chk (0 ≤ (a0.length : Int) ∧ (a0.length : Int).toNat * 24 ≤ 140737488355328) (laws_toKeyS_l1 K a0 K (0 : Int) (List.replicate (a0.length : Int).toNat (default : Key)))

theorem ok_laws_toKeyS (K : Nat) (a0 : (List Key)) (o : ((List Key))) (h : laws_toKeyS K a0 = some o) : CallOK Try.prog 137 [.one (sl 5 cs_Key a0)] [.one (sl 5 cs_Key o)] := by
  refine callOK_of_AW Try.func137 rfl (by kernel_rfl) (Nat.le_of_ble_eq_true (by kernel_rfl)) ?_
  intro w0
  unfold laws_toKeyS at h
  refine AW.seq ?_
  refine AW.regionA [] [0] [] (s' := ⟨[(0, (.v (.one (.c (sl 5 cs_Key a0)))))], []⟩) (ob := True ∧ True) (by kernel_rfl) ⟨trivial, trivial⟩ ?_
  refine thenQ_normal ?_
  refine AW.seq ?_
  obtain ⟨c1, h⟩ := chk_some h
  refine AW.regionA [.no, .no, .objA 1 (List.replicate (a0.length : Int).toNat (default : Key)).length (gl cs_Key (List.replicate (a0.length : Int).toNat (default : Key)))] [0, 3] [1] (s' := ⟨[(0, (.v (.one (.c (sl 5 cs_Key a0))))), (3, (.v (.one (.arr 1))))], [(1, (.arr false (List.replicate (a0.length : Int).toNat (default : Key)).length 5 (gl cs_Key (List.replicate (a0.length : Int).toNat (default : Key)))))]⟩) (ob := True ∧ True ∧ (0 ≤ (a0.length : Int) ∧ (a0.length : Int) = (a0.length : Int) ∧ (((List.replicate (a0.length : Int).toNat (default : Key)).length : Nat) : Int) = (a0.length : Int) ∧ (List.replicate (a0.length : Int).toNat (default : Key)).length * 24 ≤ 140737488355328 ∧ ∀ i, i < (List.replicate (a0.length : Int).toNat (default : Key)).length → zeroRow (fun _ => none) [(.c (.int .i64 (0 : Int))), (.c (.flt .f32 (default : F32).bits)), (.c (.flt .f32 (default : F32).bits)), (.c (.flt .f32 (default : F32).bits)), (.c (.flt .f32 (default : F32).bits))] (gl cs_Key (List.replicate (a0.length : Int).toNat (default : Key)) i)) ∧ True ∧ True) (by kernel_rfl) ⟨trivial, trivial, ⟨c1.1, rfl, len_rep c1.1, rep_bytes c1.2, fun i hi => gl_zero (cs := cs_Key) (zs := [(.c (.int .i64 (0 : Int))), (.c (.flt .f32 (default : F32).bits)), (.c (.flt .f32 (default : F32).bits)), (.c (.flt .f32 (default : F32).bits)), (.c (.flt .f32 (default : F32).bits))]) (n := (a0.length : Int).toNat) ⟨⟨rfl, trivial⟩, ⟨rfl, trivial⟩, ⟨rfl, trivial⟩, ⟨rfl, trivial⟩, ⟨rfl, trivial⟩, trivial⟩ i (rep_lt hi)⟩, trivial, trivial⟩ ?_
  refine thenQ_normal ?_
  refine AW.seq ?_
  refine AW.seq ?_
  refine AW.regionA [] [0, 3, 4] [1] (s' := ⟨[(0, (.v (.one (.c (sl 5 cs_Key a0))))), (3, (.v (.one (.arr 1)))), (4, (.v (.one (.c (.int .i64 (0 : Int))))))], [(1, (.arr false (List.replicate (a0.length : Int).toNat (default : Key)).length 5 (gl cs_Key (List.replicate (a0.length : Int).toNat (default : Key)))))]⟩) (ob := True ∧ True) (by kernel_rfl) ⟨trivial, trivial⟩ ?_
  refine thenQ_normal ?_
  refine AW.block ?_
  refine AW.loopQ (σ := Nat × Int × (List Key)) (fun p => ⟨[(0, (.v (.one (.c (sl 5 cs_Key a0))))), (3, (.v (.one (.arr 1)))), (4, (.v (.one (.c (.int .i64 p.2.1)))))], [(1, (.arr false p.2.2.length 5 (gl cs_Key p.2.2)))]⟩) (fun p => laws_toKeyS_l1 K a0 p.1 p.2.1 p.2.2 = some o) (fun p => p.1) (K, (0 : Int), (List.replicate (a0.length : Int).toNat (default : Key))) h ?_
  clear h
  rintro ⟨k, x4, x5⟩ h
  replace h : laws_toKeyS_l1 K a0 k x4 x5 = some o := h
  show AW _ _ (⟨[(0, (.v (.one (.c (sl 5 cs_Key a0))))), (3, (.v (.one (.arr 1)))), (4, (.v (.one (.c (.int .i64 x4)))))], [(1, (.arr false x5.length 5 (gl cs_Key x5)))]⟩ : St) _
  obtain _ | k := k
  · rw [laws_toKeyS_l1] at h; cases h
  rw [laws_toKeyS_l1] at h
  refine AW.seq ?_
  refine AW.seq ?_
  refine AW.regionA [] [0, 3, 4, 11] [1] (s' := ⟨[(0, (.v (.one (.c (sl 5 cs_Key a0))))), (3, (.v (.one (.arr 1)))), (4, (.v (.one (.c (.int .i64 x4))))), (11, (.v (.one (.c (.bool (decide (x4 < (a0.length : Int))))))))], [(1, (.arr false x5.length 5 (gl cs_Key x5)))]⟩) (ob := True ∧ True ∧ True ∧ True ∧ True) (by kernel_rfl) ⟨trivial, trivial, trivial, trivial, trivial⟩ ?_
  refine thenQ_normal ?_
  rcases ite2_cases h with ⟨b6, h⟩ | ⟨b6, h⟩
  · refine AW.cond_t rfl b6 ?_
    refine AW.skip ?_
    refine thenQ_normal ?_
    refine AW.seq ?_
    refine AW.block ?_
    obtain ⟨c7, h⟩ := chk_some h
    obtain ⟨v8, e9, h⟩ := bind_some h
    obtain ⟨c10, h⟩ := chk_some h
    refine AW.regionA [.no, .no, .no, .no, .no, .no, .call [.agg (cs_Key (a0.getD x4.toNat default))] [.agg (cs_Key v8)] [[.view, .view, .view, .view, .view]], .no, .set (x5.set x4.toNat v8).length (gl cs_Key (x5.set x4.toNat v8)) ((List.range 5).map fun j => (cs_Key v8).getD (0 + j) .nilptr)] [0, 3, 4] [1] (s' := ⟨[(0, (.v (.one (.c (sl 5 cs_Key a0))))), (3, (.v (.one (.arr 1)))), (4, (.v (.one (.c (.int .i64 x4)))))], [(1, (.arr false (x5.set x4.toNat v8).length 5 (gl cs_Key (x5.set x4.toNat v8))))]⟩) (ob := True ∧ True ∧ True ∧ True ∧ (0 ≤ x4 ∧ x4 < (a0.length : Int)) ∧ True ∧ ((((((.int .i64 ((a0.getD x4.toNat default).At)) : C) = (.int .i64 ((a0.getD x4.toNat default).At))) ∧ (((.flt .f32 (((a0.getD x4.toNat default).Turn).W).bits) : C) = (.flt .f32 (((a0.getD x4.toNat default).Turn).W).bits)) ∧ (((.flt .f32 (((a0.getD x4.toNat default).Turn).X).bits) : C) = (.flt .f32 (((a0.getD x4.toNat default).Turn).X).bits)) ∧ (((.flt .f32 (((a0.getD x4.toNat default).Turn).Y).bits) : C) = (.flt .f32 (((a0.getD x4.toNat default).Turn).Y).bits)) ∧ (((.flt .f32 (((a0.getD x4.toNat default).Turn).Z).bits) : C) = (.flt .f32 (((a0.getD x4.toNat default).Turn).Z).bits)) ∧ True) ∧ True) ∧ CallOK Try.prog 183 [.agg (cs_Key (a0.getD x4.toNat default))] [.agg (cs_Key v8)]) ∧ (0 ≤ x4 ∧ x4 < (x5.length : Int)) ∧ ((x5.set x4.toNat v8).length = x5.length ∧ SetOb x5.length 5 x4.toNat 0 5 (gl cs_Key x5) (gl cs_Key (x5.set x4.toNat v8)) ∧ ((List.range 5).map fun j => (cs_Key v8).getD (0 + j) .nilptr) = ((List.range 5).map fun j => gl cs_Key (x5.set x4.toNat v8) x4.toNat (0 + j)) ∧ ((((.int .i64 v8.At) : C) = (.int .i64 v8.At) ∧ True) ∧ (((.flt .f32 v8.Turn.W.bits) : C) = (.flt .f32 v8.Turn.W.bits) ∧ True) ∧ (((.flt .f32 v8.Turn.X.bits) : C) = (.flt .f32 v8.Turn.X.bits) ∧ True) ∧ (((.flt .f32 v8.Turn.Y.bits) : C) = (.flt .f32 v8.Turn.Y.bits) ∧ True) ∧ (((.flt .f32 v8.Turn.Z.bits) : C) = (.flt .f32 v8.Turn.Z.bits) ∧ True) ∧ True) ∧ (false = true → ∀ j, j < 5 → isSeq (gl cs_Key x5 x4.toNat (0 + j)) = false ∧ isSeq (gl cs_Key (x5.set x4.toNat v8) x4.toNat (0 + j)) = false)) ∧ True) (by kernel_rfl) ⟨trivial, trivial, trivial, trivial, c7, trivial, ⟨⟨⟨rfl, rfl, rfl, rfl, rfl, trivial⟩, trivial⟩, ok_laws_toKey K (a0.getD x4.toNat default) v8 e9⟩, c10, ⟨List.length_set, gl_set, (gl_atp (lt_of_bound c10)).symm, ⟨⟨rfl, trivial⟩, ⟨rfl, trivial⟩, ⟨rfl, trivial⟩, ⟨rfl, trivial⟩, ⟨rfl, trivial⟩, trivial⟩, (fun h => nomatch h)⟩, trivial⟩ ?_
    refine blockQ_normal ?_
    refine thenQ_normal ?_
    refine AW.regionA [] [0, 3, 4] [1] (s' := ⟨[(0, (.v (.one (.c (sl 5 cs_Key a0))))), (3, (.v (.one (.arr 1)))), (4, (.v (.one (.c (.int .i64 (IntKind.i64.wrap (x4 + (1 : Int))))))))], [(1, (.arr false (x5.set x4.toNat v8).length 5 (gl cs_Key (x5.set x4.toNat v8))))]⟩) (ob := True ∧ True ∧ True ∧ True) (by kernel_rfl) ⟨trivial, trivial, trivial, trivial⟩ ?_
    exact loopQ_normal (k, (IntKind.i64.wrap (x4 + (1 : Int))), (x5.set x4.toNat v8)) h (Nat.lt_succ_self k) (Sub.keep [0, 3, 4] [1] (by kernel_rfl) (by kernel_rfl))
  · refine AW.cond_f rfl b6 ?_
    refine AW.exit ?_
    refine thenQ_exit ?_
    refine loopQ_exit ?_
    refine blockQ_exit ?_
    refine thenQ_normal ?_
    refine AW.seq ?_
    refine AW.regionA [] [2] [1] (s' := ⟨[(2, (.v (.one (.arr 1))))], [(1, (.arr false x5.length 5 (gl cs_Key x5)))]⟩) (ob := True ∧ True ∧ True) (by kernel_rfl) ⟨trivial, trivial, trivial⟩ ?_
    refine thenQ_normal ?_
    refine AW.ret ?_
    replace h := some_eq h
    subst h
    exact ⟨.inr rfl, retOK_of [(.one (.arr 1))] (by kernel_rfl) ⟨rfl, trivial⟩ (of_decide_eq_true (by kernel_rfl))⟩

/-! laws.toKeySS -/
def laws_toKeySS_l1 (K : Nat) (a0 : (List (List Key))) : Nat → Int → (List (List Key)) → Option ((List (List Key)))
  | 0, _, _ => none
  | k + 1, x4, x5 => ite2 ((decide (x4 < (a0.length : Int)))) (chk (0 ≤ x4 ∧ x4 < (a0.length : Int)) ((laws_toKeyS K (a0.getD x4.toNat default)).bind fun v8 => chk (0 ≤ x4 ∧ x4 < (x5.length : Int)) (laws_toKeySS_l1 K a0 k (IntKind.i64.wrap (x4 + (1 : Int))) (x5.set x4.toNat v8)))) (some x5)

def laws_toKeySS (K : Nat) (a0 : (List (List Key))) : Option ((List (List Key))) :=
  chk (0 ≤ (a0.length : Int) ∧ (a0.length : Int).toNat * 24 ≤ 140737488355328) (laws_toKeySS_l1 K a0 K (0 : Int) (List.replicate (a0.length : Int).toNat (default : (List Key))))

theorem ok_laws_toKeySS (K : Nat) (a0 : (List (List Key))) (o : ((List (List Key)))) (h : laws_toKeySS K a0 = some o) : CallOK Try.prog 61 [.one (sl 1 (csL 5 cs_Key) a0)] [.one (sl 1 (csL 5 cs_Key) o)] := by
  refine callOK_of_AW Try.func61 rfl (by kernel_rfl) (Nat.le_of_ble_eq_true (by kernel_rfl)) ?_
  intro w0
  unfold laws_toKeySS at h
  refine AW.seq ?_
  refine AW.regionA [] [0] [] (s' := ⟨[(0, (.v (.one (.c (sl 1 (csL 5 cs_Key) a0)))))], []⟩) (ob := True ∧ True) (by kernel_rfl) ⟨trivial, trivial⟩ ?_
  refine thenQ_normal ?_
  refine AW.seq ?_
  obtain ⟨c1, h⟩ := chk_some h
  refine AW.regionA [.no, .no, .objA 1 (List.replicate (a0.length : Int).toNat (default : (List Key))).length (gl (csL 5 cs_Key) (List.replicate (a0.length : Int).toNat (default : (List Key))))] [0, 3] [1] (s' := ⟨[(0, (.v (.one (.c (sl 1 (csL 5 cs_Key) a0))))), (3, (.v (.one (.arr 1))))], [(1, (.arr false (List.replicate (a0.length : Int).toNat (default : (List Key))).length 1 (gl (csL 5 cs_Key) (List.replicate (a0.length : Int).toNat (default : (List Key))))))]⟩) (ob := True ∧ True ∧ (0 ≤ (a0.length : Int) ∧ (a0.length : Int) = (a0.length : Int) ∧ (((List.replicate (a0.length : Int).toNat (default : (List Key))).length : Nat) : Int) = (a0.length : Int) ∧ (List.replicate (a0.length : Int).toNat (default : (List Key))).length * 24 ≤ 140737488355328 ∧ ∀ i, i < (List.replicate (a0.length : Int).toNat (default : (List Key))).length → zeroRow (fun _ => none) [.nils] (gl (csL 5 cs_Key) (List.replicate (a0.length : Int).toNat (default : (List Key))) i)) ∧ True ∧ True) (by kernel_rfl) ⟨trivial, trivial, ⟨c1.1, rfl, len_rep c1.1, rep_bytes c1.2, fun i hi => gl_zero (cs := (csL 5 cs_Key)) (zs := [.nils]) (n := (a0.length : Int).toNat) ⟨rfl, trivial⟩ i (rep_lt hi)⟩, trivial, trivial⟩ ?_
  refine thenQ_normal ?_
  refine AW.seq ?_
  refine AW.seq ?_
  refine AW.regionA [] [0, 3, 4] [1] (s' := ⟨[(0, (.v (.one (.c (sl 1 (csL 5 cs_Key) a0))))), (3, (.v (.one (.arr 1)))), (4, (.v (.one (.c (.int .i64 (0 : Int))))))], [(1, (.arr false (List.replicate (a0.length : Int).toNat (default : (List Key))).length 1 (gl (csL 5 cs_Key) (List.replicate (a0.length : Int).toNat (default : (List Key))))))]⟩) (ob := True ∧ True) (by kernel_rfl) ⟨trivial, trivial⟩ ?_
  refine thenQ_normal ?_
  refine AW.block ?_
  refine AW.loopQ (σ := Nat × Int × (List (List Key))) (fun p => ⟨[(0, (.v (.one (.c (sl 1 (csL 5 cs_Key) a0))))), (3, (.v (.one (.arr 1)))), (4, (.v (.one (.c (.int .i64 p.2.1)))))], [(1, (.arr false p.2.2.length 1 (gl (csL 5 cs_Key) p.2.2)))]⟩) (fun p => laws_toKeySS_l1 K a0 p.1 p.2.1 p.2.2 = some o) (fun p => p.1) (K, (0 : Int), (List.replicate (a0.length : Int).toNat (default : (List Key)))) h ?_
  clear h
  rintro ⟨k, x4, x5⟩ h
  replace h : laws_toKeySS_l1 K a0 k x4 x5 = some o := h
  show AW _ _ (⟨[(0, (.v (.one (.c (sl 1 (csL 5 cs_Key) a0))))), (3, (.v (.one (.arr 1)))), (4, (.v (.one (.c (.int .i64 x4)))))], [(1, (.arr false x5.length 1 (gl (csL 5 cs_Key) x5)))]⟩ : St) _
  obtain _ | k := k
  · rw [laws_toKeySS_l1] at h; cases h
  rw [laws_toKeySS_l1] at h
  refine AW.seq ?_
  refine AW.seq ?_
  refine AW.regionA [] [0, 3, 4, 11] [1] (s' := ⟨[(0, (.v (.one (.c (sl 1 (csL 5 cs_Key) a0))))), (3, (.v (.one (.arr 1)))), (4, (.v (.one (.c (.int .i64 x4))))), (11, (.v (.one (.c (.bool (decide (x4 < (a0.length : Int))))))))], [(1, (.arr false x5.length 1 (gl (csL 5 cs_Key) x5)))]⟩) (ob := True ∧ True ∧ True ∧ True ∧ True) (by kernel_rfl) ⟨trivial, trivial, trivial, trivial, trivial⟩ ?_
  refine thenQ_normal ?_
  rcases ite2_cases h with ⟨b6, h⟩ | ⟨b6, h⟩
  · refine AW.cond_t rfl b6 ?_
    refine AW.skip ?_
    refine thenQ_normal ?_
    refine AW.seq ?_
    refine AW.block ?_
    obtain ⟨c7, h⟩ := chk_some h
    obtain ⟨v8, e9, h⟩ := bind_some h
    obtain ⟨c10, h⟩ := chk_some h
    refine AW.regionA [.no, .no, .no, .no, .no, .no, .call [.one (sl 5 cs_Key (a0.getD x4.toNat default))] [.one (sl 5 cs_Key v8)] [[.lst 4]], .no, .set (x5.set x4.toNat v8).length (gl (csL 5 cs_Key) (x5.set x4.toNat v8)) ((List.range 1).map fun j => ((csL 5 cs_Key) v8).getD (0 + j) .nilptr)] [0, 3, 4] [1] (s' := ⟨[(0, (.v (.one (.c (sl 1 (csL 5 cs_Key) a0))))), (3, (.v (.one (.arr 1)))), (4, (.v (.one (.c (.int .i64 x4)))))], [(1, (.arr false (x5.set x4.toNat v8).length 1 (gl (csL 5 cs_Key) (x5.set x4.toNat v8))))]⟩) (ob := True ∧ True ∧ True ∧ True ∧ (0 ≤ x4 ∧ x4 < (a0.length : Int)) ∧ True ∧ (((((sl 5 cs_Key (a0.getD x4.toNat default)) : C) = (sl 5 cs_Key (a0.getD x4.toNat default))) ∧ True) ∧ CallOK Try.prog 137 [.one (sl 5 cs_Key (a0.getD x4.toNat default))] [.one (sl 5 cs_Key v8)]) ∧ (0 ≤ x4 ∧ x4 < (x5.length : Int)) ∧ ((x5.set x4.toNat v8).length = x5.length ∧ SetOb x5.length 1 x4.toNat 0 1 (gl (csL 5 cs_Key) x5) (gl (csL 5 cs_Key) (x5.set x4.toNat v8)) ∧ ((List.range 1).map fun j => ((csL 5 cs_Key) v8).getD (0 + j) .nilptr) = ((List.range 1).map fun j => gl (csL 5 cs_Key) (x5.set x4.toNat v8) x4.toNat (0 + j)) ∧ ((((sl 5 cs_Key v8) : C) = (sl 5 cs_Key v8)) ∧ True) ∧ (false = true → ∀ j, j < 1 → isSeq (gl (csL 5 cs_Key) x5 x4.toNat (0 + j)) = false ∧ isSeq (gl (csL 5 cs_Key) (x5.set x4.toNat v8) x4.toNat (0 + j)) = false)) ∧ True) (by kernel_rfl) ⟨trivial, trivial, trivial, trivial, c7, trivial, ⟨⟨rfl, trivial⟩, ok_laws_toKeyS K (a0.getD x4.toNat default) v8 e9⟩, c10, ⟨List.length_set, gl_set, (gl_atp (lt_of_bound c10)).symm, ⟨rfl, trivial⟩, (fun h => nomatch h)⟩, trivial⟩ ?_
    refine blockQ_normal ?_
    refine thenQ_normal ?_
    refine AW.regionA [] [0, 3, 4] [1] (s' := ⟨[(0, (.v (.one (.c (sl 1 (csL 5 cs_Key) a0))))), (3, (.v (.one (.arr 1)))), (4, (.v (.one (.c (.int .i64 (IntKind.i64.wrap (x4 + (1 : Int))))))))], [(1, (.arr false (x5.set x4.toNat v8).length 1 (gl (csL 5 cs_Key) (x5.set x4.toNat v8))))]⟩) (ob := True ∧ True ∧ True ∧ True) (by kernel_rfl) ⟨trivial, trivial, trivial, trivial⟩ ?_
    exact loopQ_normal (k, (IntKind.i64.wrap (x4 + (1 : Int))), (x5.set x4.toNat v8)) h (Nat.lt_succ_self k) (Sub.keep [0, 3, 4] [1] (by kernel_rfl) (by kernel_rfl))
  · refine AW.cond_f rfl b6 ?_
    refine AW.exit ?_
    refine thenQ_exit ?_
    refine loopQ_exit ?_
    refine blockQ_exit ?_
    refine thenQ_normal ?_
    refine AW.seq ?_
    refine AW.regionA [] [2] [1] (s' := ⟨[(2, (.v (.one (.arr 1))))], [(1, (.arr false x5.length 1 (gl (csL 5 cs_Key) x5)))]⟩) (ob := True ∧ True ∧ True) (by kernel_rfl) ⟨trivial, trivial, trivial⟩ ?_
    refine thenQ_normal ?_
    refine AW.ret ?_
    replace h := some_eq h
    subst h
    exact ⟨.inr rfl, retOK_of [(.one (.arr 1))] (by kernel_rfl) ⟨rfl, trivial⟩ (of_decide_eq_true (by kernel_rfl))⟩

/-! laws.toRootKey -/
def laws_toRootKey (K : Nat) (a0 : RootKey) : Option (RootKey) :=
  (laws_toVector K a0.Place).bind fun v1 => some (RootKey.mk a0.At v1)

theorem ok_laws_toRootKey (K : Nat) (a0 : RootKey) (o : (RootKey)) (h : laws_toRootKey K a0 = some o) : CallOK Try.prog 138 [.agg (cs_RootKey a0)] [.agg (cs_RootKey o)] := by
  refine callOK_of_AW Try.func138 rfl (by kernel_rfl) (Nat.le_of_ble_eq_true (by kernel_rfl)) ?_
  intro w0
  unfold laws_toRootKey at h
  refine AW.seq ?_
  refine AW.regionA [.box 1, .box 2] [1, 2] [1, 2] (s' := ⟨[(1, (.v (.one (.ptr 1 0)))), (2, (.v (.one (.ptr 2 0))))], [(1, (.box [(.c (.int .i64 a0.At)), (.c (.flt .f32 a0.Place.X.bits)), (.c (.flt .f32 a0.Place.Y.bits)), (.c (.flt .f32 a0.Place.Z.bits))])), (2, (.box [(.c (.int .i64 (0 : Int))), (.c (.flt .f32 (default : F32).bits)), (.c (.flt .f32 (default : F32).bits)), (.c (.flt .f32 (default : F32).bits))]))]⟩) (ob := True ∧ True ∧ True) (by kernel_rfl) ⟨trivial, trivial, trivial⟩ ?_
  refine thenQ_normal ?_
  refine AW.seq ?_
  refine AW.regionA [.box 3] [1, 2, 3] [1, 2, 3] (s' := ⟨[(1, (.v (.one (.ptr 1 0)))), (2, (.v (.one (.ptr 2 0)))), (3, (.v (.one (.ptr 3 0))))], [(1, (.box [(.c (.int .i64 a0.At)), (.c (.flt .f32 a0.Place.X.bits)), (.c (.flt .f32 a0.Place.Y.bits)), (.c (.flt .f32 a0.Place.Z.bits))])), (2, (.box [(.c (.int .i64 (0 : Int))), (.c (.flt .f32 (default : F32).bits)), (.c (.flt .f32 (default : F32).bits)), (.c (.flt .f32 (default : F32).bits))])), (3, (.box [(.c (.int .i64 (0 : Int))), (.c (.flt .f32 (default : F32).bits)), (.c (.flt .f32 (default : F32).bits)), (.c (.flt .f32 (default : F32).bits))]))]⟩) (ob := True ∧ True) (by kernel_rfl) ⟨trivial, trivial⟩ ?_
  refine thenQ_normal ?_
  refine AW.seq ?_
  refine AW.regionA [] [1, 2, 3] [1, 2, 3] (s' := ⟨[(1, (.v (.one (.ptr 1 0)))), (2, (.v (.one (.ptr 2 0)))), (3, (.v (.one (.ptr 3 0))))], [(1, (.box [(.c (.int .i64 a0.At)), (.c (.flt .f32 a0.Place.X.bits)), (.c (.flt .f32 a0.Place.Y.bits)), (.c (.flt .f32 a0.Place.Z.bits))])), (2, (.box [(.c (.int .i64 (0 : Int))), (.c (.flt .f32 (default : F32).bits)), (.c (.flt .f32 (default : F32).bits)), (.c (.flt .f32 (default : F32).bits))])), (3, (.box [(.c (.int .i64 a0.At)), (.c (.flt .f32 (default : F32).bits)), (.c (.flt .f32 (default : F32).bits)), (.c (.flt .f32 (default : F32).bits))]))]⟩) (ob := True ∧ True ∧ True ∧ True ∧ True) (by kernel_rfl) ⟨trivial, trivial, trivial, trivial, trivial⟩ ?_
  refine thenQ_normal ?_
  refine AW.seq ?_
  obtain ⟨v1, e2, h⟩ := bind_some h
  refine AW.regionA [.no, .no, .call [.agg (cs_Vector a0.Place)] [.agg (cs_Vector v1)] [[.view, .view, .view]]] [2, 3] [2, 3] (s' := ⟨[(2, (.v (.one (.ptr 2 0)))), (3, (.v (.one (.ptr 3 0))))], [(2, (.box [(.c (.int .i64 (0 : Int))), (.c (.flt .f32 (default : F32).bits)), (.c (.flt .f32 (default : F32).bits)), (.c (.flt .f32 (default : F32).bits))])), (3, (.box [(.c (.int .i64 a0.At)), (.c (.flt .f32 v1.X.bits)), (.c (.flt .f32 v1.Y.bits)), (.c (.flt .f32 v1.Z.bits))]))]⟩) (ob := True ∧ True ∧ ((((((.flt .f32 a0.Place.X.bits) : C) = (.flt .f32 a0.Place.X.bits)) ∧ (((.flt .f32 a0.Place.Y.bits) : C) = (.flt .f32 a0.Place.Y.bits)) ∧ (((.flt .f32 a0.Place.Z.bits) : C) = (.flt .f32 a0.Place.Z.bits)) ∧ True) ∧ True) ∧ CallOK Try.prog 184 [.agg (cs_Vector a0.Place)] [.agg (cs_Vector v1)]) ∧ True ∧ True ∧ True) (by kernel_rfl) ⟨trivial, trivial, ⟨⟨⟨rfl, rfl, rfl, trivial⟩, trivial⟩, ok_laws_toVector K a0.Place v1 e2⟩, trivial, trivial, trivial⟩ ?_
  refine thenQ_normal ?_
  refine AW.seq ?_
  refine AW.regionA [] [2] [2] (s' := ⟨[(2, (.v (.one (.ptr 2 0))))], [(2, (.box [(.c (.int .i64 a0.At)), (.c (.flt .f32 v1.X.bits)), (.c (.flt .f32 v1.Y.bits)), (.c (.flt .f32 v1.Z.bits))]))]⟩) (ob := True ∧ True ∧ True) (by kernel_rfl) ⟨trivial, trivial, trivial⟩ ?_
  refine thenQ_normal ?_
  refine AW.ret ?_
  replace h := some_eq h
  subst h
  exact ⟨.inr rfl, retOK_of [(.agg [(.c (.int .i64 a0.At)), (.c (.flt .f32 v1.X.bits)), (.c (.flt .f32 v1.Y.bits)), (.c (.flt .f32 v1.Z.bits))])] (by kernel_rfl) ⟨⟨⟨rfl, trivial⟩, ⟨rfl, trivial⟩, ⟨rfl, trivial⟩, ⟨rfl, trivial⟩, trivial⟩, trivial⟩ (of_decide_eq_true (by kernel_rfl))⟩

/-! laws.toRootKeyS -/
def laws_toRootKeyS_l1 (K : Nat) (a0 : (List RootKey)) : Nat → Int → (List RootKey) → Option ((List RootKey))
  | 0, _, _ => none
  | k + 1, x4, x5 => ite2 ((decide (x4 < (a0.length : Int)))) (chk (0 ≤ x4 ∧ x4 < (a0.length : Int)) ((laws_toRootKey K (a0.getD x4.toNat default)).bind fun v8 => chk (0 ≤ x4 ∧ x4 < (x5.length : Int)) (laws_toRootKeyS_l1 K a0 k (IntKind.i64.wrap (x4 + (1 : Int))) (x5.set x4.toNat v8)))) (some x5)

def laws_toRootKeyS (K : Nat) (a0 : (List RootKey)) : Option ((List RootKey)) :=
  chk (0 ≤ (a0.length : Int) ∧ (a0.length : Int).toNat * 24 ≤ 140737488355328) (laws_toRootKeyS_l1 K a0 K (0 : Int) (List.replicate (a0.length : Int).toNat (default : RootKey)))

theorem ok_laws_toRootKeyS (K : Nat) (a0 : (List RootKey)) (o : ((List RootKey))) (h : laws_toRootKeyS K a0 = some o) : CallOK Try.prog 62 [.one (sl 4 cs_RootKey a0)] [.one (sl 4 cs_RootKey o)] := by
  refine callOK_of_AW Try.func62 rfl (by kernel_rfl) (Nat.le_of_ble_eq_true (by kernel_rfl)) ?_
  intro w0
  unfold laws_toRootKeyS at h
  refine AW.seq ?_
  refine AW.regionA [] [0] [] (s' := ⟨[(0, (.v (.one (.c (sl 4 cs_RootKey a0)))))], []⟩) (ob := True ∧ True) (by kernel_rfl) ⟨trivial, trivial⟩ ?_
  refine thenQ_normal ?_
  refine AW.seq ?_
  obtain ⟨c1, h⟩ := chk_some h
  refine AW.regionA [.no, .no, .objA 1 (List.replicate (a0.length : Int).toNat (default : RootKey)).length (gl cs_RootKey (List.replicate (a0.length : Int).toNat (default : RootKey)))] [0, 3] [1] (s' := ⟨[(0, (.v (.one (.c (sl 4 cs_RootKey a0))))), (3, (.v (.one (.arr 1))))], [(1, (.arr false (List.replicate (a0.length : Int).toNat (default : RootKey)).length 4 (gl cs_RootKey (List.replicate (a0.length : Int).toNat (default : RootKey)))))]⟩) (ob := True ∧ True ∧ (0 ≤ (a0.length : Int) ∧ (a0.length : Int) = (a0.length : Int) ∧ (((List.replicate (a0.length : Int).toNat (default : RootKey)).length : Nat) : Int) = (a0.length : Int) ∧ (List.replicate (a0.length : Int).toNat (default : RootKey)).length * 24 ≤ 140737488355328 ∧ ∀ i, i < (List.replicate (a0.length : Int).toNat (default : RootKey)).length → zeroRow (fun _ => none) [(.c (.int .i64 (0 : Int))), (.c (.flt .f32 (default : F32).bits)), (.c (.flt .f32 (default : F32).bits)), (.c (.flt .f32 (default : F32).bits))] (gl cs_RootKey (List.replicate (a0.length : Int).toNat (default : RootKey)) i)) ∧ True ∧ True) (by kernel_rfl) ⟨trivial, trivial, ⟨c1.1, rfl, len_rep c1.1, rep_bytes c1.2, fun i hi => gl_zero (cs := cs_RootKey) (zs := [(.c (.int .i64 (0 : Int))), (.c (.flt .f32 (default : F32).bits)), (.c (.flt .f32 (default : F32).bits)), (.c (.flt .f32 (default : F32).bits))]) (n := (a0.length : Int).toNat) ⟨⟨rfl, trivial⟩, ⟨rfl, trivial⟩, ⟨rfl, trivial⟩, ⟨rfl, trivial⟩, trivial⟩ i (rep_lt hi)⟩, trivial, trivial⟩ ?_
  refine thenQ_normal ?_
  refine AW.seq ?_
  refine AW.seq ?_
  refine AW.regionA [] [0, 3, 4] [1] (s' := ⟨[(0, (.v (.one (.c (sl 4 cs_RootKey a0))))), (3, (.v (.one (.arr 1)))), (4, (.v (.one (.c (.int .i64 (0 : Int))))))], [(1, (.arr false (List.replicate (a0.length : Int).toNat (default : RootKey)).length 4 (gl cs_RootKey (List.replicate (a0.length : Int).toNat (default : RootKey)))))]⟩) (ob := True ∧ True) (by kernel_rfl) ⟨trivial, trivial⟩ ?_
  refine thenQ_normal ?_
  refine AW.block ?_
  refine AW.loopQ (σ := Nat × Int × (List RootKey)) (fun p => ⟨[(0, (.v (.one (.c (sl 4 cs_RootKey a0))))), (3, (.v (.one (.arr 1)))), (4, (.v (.one (.c (.int .i64 p.2.1)))))], [(1, (.arr false p.2.2.length 4 (gl cs_RootKey p.2.2)))]⟩) (fun p => laws_toRootKeyS_l1 K a0 p.1 p.2.1 p.2.2 = some o) (fun p => p.1) (K, (0 : Int), (List.replicate (a0.length : Int).toNat (default : RootKey))) h ?_
  clear h
  rintro ⟨k, x4, x5⟩ h
  replace h : laws_toRootKeyS_l1 K a0 k x4 x5 = some o := h
  show AW _ _ (⟨[(0, (.v (.one (.c (sl 4 cs_RootKey a0))))), (3, (.v (.one (.arr 1)))), (4, (.v (.one (.c (.int .i64 x4)))))], [(1, (.arr false x5.length 4 (gl cs_RootKey x5)))]⟩ : St) _
  obtain _ | k := k
  · rw [laws_toRootKeyS_l1] at h; cases h
  rw [laws_toRootKeyS_l1] at h
  refine AW.seq ?_
  refine AW.seq ?_
  refine AW.regionA [] [0, 3, 4, 11] [1] (s' := ⟨[(0, (.v (.one (.c (sl 4 cs_RootKey a0))))), (3, (.v (.one (.arr 1)))), (4, (.v (.one (.c (.int .i64 x4))))), (11, (.v (.one (.c (.bool (decide (x4 < (a0.length : Int))))))))], [(1, (.arr false x5.length 4 (gl cs_RootKey x5)))]⟩) (ob := True ∧ True ∧ True ∧ True ∧ True) (by kernel_rfl) ⟨trivial, trivial, trivial, trivial, trivial⟩ ?_
  refine thenQ_normal ?_
  rcases ite2_cases h with ⟨b6, h⟩ | ⟨b6, h⟩
  · refine AW.cond_t rfl b6 ?_
    refine AW.skip ?_
    refine thenQ_normal ?_
    refine AW.seq ?_
    refine AW.block ?_
    obtain ⟨c7, h⟩ := chk_some h
    obtain ⟨v8, e9, h⟩ := bind_some h
    obtain ⟨c10, h⟩ := chk_some h
    refine AW.regionA [.no, .no, .no, .no, .no, .no, .call [.agg (cs_RootKey (a0.getD x4.toNat default))] [.agg (cs_RootKey v8)] [[.view, .view, .view, .view]], .no, .set (x5.set x4.toNat v8).length (gl cs_RootKey (x5.set x4.toNat v8)) ((List.range 4).map fun j => (cs_RootKey v8).getD (0 + j) .nilptr)] [0, 3, 4] [1] (s' := ⟨[(0, (.v (.one (.c (sl 4 cs_RootKey a0))))), (3, (.v (.one (.arr 1)))), (4, (.v (.one (.c (.int .i64 x4)))))], [(1, (.arr false (x5.set x4.toNat v8).length 4 (gl cs_RootKey (x5.set x4.toNat v8))))]⟩) (ob := True ∧ True ∧ True ∧ True ∧ (0 ≤ x4 ∧ x4 < (a0.length : Int)) ∧ True ∧ ((((((.int .i64 ((a0.getD x4.toNat default).At)) : C) = (.int .i64 ((a0.getD x4.toNat default).At))) ∧ (((.flt .f32 (((a0.getD x4.toNat default).Place).X).bits) : C) = (.flt .f32 (((a0.getD x4.toNat default).Place).X).bits)) ∧ (((.flt .f32 (((a0.getD x4.toNat default).Place).Y).bits) : C) = (.flt .f32 (((a0.getD x4.toNat default).Place).Y).bits)) ∧ (((.flt .f32 (((a0.getD x4.toNat default).Place).Z).bits) : C) = (.flt .f32 (((a0.getD x4.toNat default).Place).Z).bits)) ∧ True) ∧ True) ∧ CallOK Try.prog 138 [.agg (cs_RootKey (a0.getD x4.toNat default))] [.agg (cs_RootKey v8)]) ∧ (0 ≤ x4 ∧ x4 < (x5.length : Int)) ∧ ((x5.set x4.toNat v8).length = x5.length ∧ SetOb x5.length 4 x4.toNat 0 4 (gl cs_RootKey x5) (gl cs_RootKey (x5.set x4.toNat v8)) ∧ ((List.range 4).map fun j => (cs_RootKey v8).getD (0 + j) .nilptr) = ((List.range 4).map fun j => gl cs_RootKey (x5.set x4.toNat v8) x4.toNat (0 + j)) ∧ ((((.int .i64 v8.At) : C) = (.int .i64 v8.At) ∧ True) ∧ (((.flt .f32 v8.Place.X.bits) : C) = (.flt .f32 v8.Place.X.bits) ∧ True) ∧ (((.flt .f32 v8.Place.Y.bits) : C) = (.flt .f32 v8.Place.Y.bits) ∧ True) ∧ (((.flt .f32 v8.Place.Z.bits) : C) = (.flt .f32 v8.Place.Z.bits) ∧ True) ∧ True) ∧ (false = true → ∀ j, j < 4 → isSeq (gl cs_RootKey x5 x4.toNat (0 + j)) = false ∧ isSeq (gl cs_RootKey (x5.set x4.toNat v8) x4.toNat (0 + j)) = false)) ∧ True) (by kernel_rfl) ⟨trivial, trivial, trivial, trivial, c7, trivial, ⟨⟨⟨rfl, rfl, rfl, rfl, trivial⟩, trivial⟩, ok_laws_toRootKey K (a0.getD x4.toNat default) v8 e9⟩, c10, ⟨List.length_set, gl_set, (gl_atp (lt_of_bound c10)).symm, ⟨⟨rfl, trivial⟩, ⟨rfl, trivial⟩, ⟨rfl, trivial⟩, ⟨rfl, trivial⟩, trivial⟩, (fun h => nomatch h)⟩, trivial⟩ ?_
    refine blockQ_normal ?_
    refine thenQ_normal ?_
    refine AW.regionA [] [0, 3, 4] [1] (s' := ⟨[(0, (.v (.one (.c (sl 4 cs_RootKey a0))))), (3, (.v (.one (.arr 1)))), (4, (.v (.one (.c (.int .i64 (IntKind.i64.wrap (x4 + (1 : Int))))))))], [(1, (.arr false (x5.set x4.toNat v8).length 4 (gl cs_RootKey (x5.set x4.toNat v8))))]⟩) (ob := True ∧ True ∧ True ∧ True) (by kernel_rfl) ⟨trivial, trivial, trivial, trivial⟩ ?_
    exact loopQ_normal (k, (IntKind.i64.wrap (x4 + (1 : Int))), (x5.set x4.toNat v8)) h (Nat.lt_succ_self k) (Sub.keep [0, 3, 4] [1] (by kernel_rfl) (by kernel_rfl))
  · refine AW.cond_f rfl b6 ?_
    refine AW.exit ?_
    refine thenQ_exit ?_
    refine loopQ_exit ?_
    refine blockQ_exit ?_
    refine thenQ_normal ?_
    refine AW.seq ?_
    refine AW.regionA [] [2] [1] (s' := ⟨[(2, (.v (.one (.arr 1))))], [(1, (.arr false x5.length 4 (gl cs_RootKey x5)))]⟩) (ob := True ∧ True ∧ True) (by kernel_rfl) ⟨trivial, trivial, trivial⟩ ?_
    refine thenQ_normal ?_
    refine AW.ret ?_
    replace h := some_eq h
    subst h
    exact ⟨.inr rfl, retOK_of [(.one (.arr 1))] (by kernel_rfl) ⟨rfl, trivial⟩ (of_decide_eq_true (by kernel_rfl))⟩

/-! laws.toClip -/
def laws_toClip (K : Nat) (a0 : Clip) : Option (Clip) :=
  (laws_toKeySS K a0.Tracks).bind fun v1 => (laws_toRootKeyS K a0.Roots).bind fun v3 => some (Clip.mk a0.Length a0.Kind v1 v3)

theorem ok_laws_toClip (K : Nat) (a0 : Clip) (o : (Clip)) (h : laws_toClip K a0 = some o) : CallOK Try.prog 13 [.agg (cs_Clip a0)] [.agg (cs_Clip o)] := by
  refine callOK_of_AW Try.func13 rfl (by kernel_rfl) (Nat.le_of_ble_eq_true (by kernel_rfl)) ?_
  intro w0
  unfold laws_toClip at h
  refine AW.seq ?_
  refine AW.regionA [.box 1, .box 2] [1, 2] [1, 2] (s' := ⟨[(1, (.v (.one (.ptr 1 0)))), (2, (.v (.one (.ptr 2 0))))], [(1, (.box [(.c (.int .i64 a0.Length)), (.c (.int .i64 a0.Kind)), (.c (sl 1 (csL 5 cs_Key) a0.Tracks)), (.c (sl 4 cs_RootKey a0.Roots))])), (2, (.box [(.c (.int .i64 (0 : Int))), (.c (.int .i64 (0 : Int))), .nils, .nils]))]⟩) (ob := True ∧ True ∧ True) (by kernel_rfl) ⟨trivial, trivial, trivial⟩ ?_
  refine thenQ_normal ?_
  refine AW.seq ?_
  refine AW.regionA [.box 3] [1, 2, 3] [1, 2, 3] (s' := ⟨[(1, (.v (.one (.ptr 1 0)))), (2, (.v (.one (.ptr 2 0)))), (3, (.v (.one (.ptr 3 0))))], [(1, (.box [(.c (.int .i64 a0.Length)), (.c (.int .i64 a0.Kind)), (.c (sl 1 (csL 5 cs_Key) a0.Tracks)), (.c (sl 4 cs_RootKey a0.Roots))])), (2, (.box [(.c (.int .i64 (0 : Int))), (.c (.int .i64 (0 : Int))), .nils, .nils])), (3, (.box [(.c (.int .i64 (0 : Int))), (.c (.int .i64 (0 : Int))), .nils, .nils]))]⟩) (ob := True ∧ True) (by kernel_rfl) ⟨trivial, trivial⟩ ?_
  refine thenQ_normal ?_
  refine AW.seq ?_
  refine AW.regionA [] [1, 2, 3] [1, 2, 3] (s' := ⟨[(1, (.v (.one (.ptr 1 0)))), (2, (.v (.one (.ptr 2 0)))), (3, (.v (.one (.ptr 3 0))))], [(1, (.box [(.c (.int .i64 a0.Length)), (.c (.int .i64 a0.Kind)), (.c (sl 1 (csL 5 cs_Key) a0.Tracks)), (.c (sl 4 cs_RootKey a0.Roots))])), (2, (.box [(.c (.int .i64 (0 : Int))), (.c (.int .i64 (0 : Int))), .nils, .nils])), (3, (.box [(.c (.int .i64 a0.Length)), (.c (.int .i64 (0 : Int))), .nils, .nils]))]⟩) (ob := True ∧ True ∧ True ∧ True ∧ True) (by kernel_rfl) ⟨trivial, trivial, trivial, trivial, trivial⟩ ?_
  refine thenQ_normal ?_
  refine AW.seq ?_
  refine AW.regionA [] [1, 2, 3] [1, 2, 3] (s' := ⟨[(1, (.v (.one (.ptr 1 0)))), (2, (.v (.one (.ptr 2 0)))), (3, (.v (.one (.ptr 3 0))))], [(1, (.box [(.c (.int .i64 a0.Length)), (.c (.int .i64 a0.Kind)), (.c (sl 1 (csL 5 cs_Key) a0.Tracks)), (.c (sl 4 cs_RootKey a0.Roots))])), (2, (.box [(.c (.int .i64 (0 : Int))), (.c (.int .i64 (0 : Int))), .nils, .nils])), (3, (.box [(.c (.int .i64 a0.Length)), (.c (.int .i64 a0.Kind)), .nils, .nils]))]⟩) (ob := True ∧ True ∧ True ∧ True ∧ True) (by kernel_rfl) ⟨trivial, trivial, trivial, trivial, trivial⟩ ?_
  refine thenQ_normal ?_
  refine AW.seq ?_
  obtain ⟨v1, e2, h⟩ := bind_some h
  refine AW.regionA [.no, .no, .call [.one (sl 1 (csL 5 cs_Key) a0.Tracks)] [.one (sl 1 (csL 5 cs_Key) v1)] [[.lst 4]]] [1, 2, 3] [1, 2, 3, 4] (s' := ⟨[(1, (.v (.one (.ptr 1 0)))), (2, (.v (.one (.ptr 2 0)))), (3, (.v (.one (.ptr 3 0))))], [(1, (.box [(.c (.int .i64 a0.Length)), (.c (.int .i64 a0.Kind)), (.c (sl 1 (csL 5 cs_Key) a0.Tracks)), (.c (sl 4 cs_RootKey a0.Roots))])), (2, (.box [(.c (.int .i64 (0 : Int))), (.c (.int .i64 (0 : Int))), .nils, .nils])), (3, (.box [(.c (.int .i64 a0.Length)), (.c (.int .i64 a0.Kind)), (.lst 4 v1.length 1 (gl (csL 5 cs_Key) v1)), .nils])), (4, (.lst v1.length 1 (gl (csL 5 cs_Key) v1)))]⟩) (ob := True ∧ True ∧ (((((sl 1 (csL 5 cs_Key) a0.Tracks) : C) = (sl 1 (csL 5 cs_Key) a0.Tracks)) ∧ True) ∧ CallOK Try.prog 61 [.one (sl 1 (csL 5 cs_Key) a0.Tracks)] [.one (sl 1 (csL 5 cs_Key) v1)]) ∧ True ∧ True ∧ True) (by kernel_rfl) ⟨trivial, trivial, ⟨⟨rfl, trivial⟩, ok_laws_toKeySS K a0.Tracks v1 e2⟩, trivial, trivial, trivial⟩ ?_
  refine thenQ_normal ?_
  refine AW.seq ?_
  obtain ⟨v3, e4, h⟩ := bind_some h
  refine AW.regionA [.no, .no, .call [.one (sl 4 cs_RootKey a0.Roots)] [.one (sl 4 cs_RootKey v3)] [[.lst 5]]] [2, 3] [2, 3, 4, 5] (s' := ⟨[(2, (.v (.one (.ptr 2 0)))), (3, (.v (.one (.ptr 3 0))))], [(2, (.box [(.c (.int .i64 (0 : Int))), (.c (.int .i64 (0 : Int))), .nils, .nils])), (3, (.box [(.c (.int .i64 a0.Length)), (.c (.int .i64 a0.Kind)), (.lst 4 v1.length 1 (gl (csL 5 cs_Key) v1)), (.lst 5 v3.length 4 (gl cs_RootKey v3))])), (4, (.lst v1.length 1 (gl (csL 5 cs_Key) v1))), (5, (.lst v3.length 4 (gl cs_RootKey v3)))]⟩) (ob := True ∧ True ∧ (((((sl 4 cs_RootKey a0.Roots) : C) = (sl 4 cs_RootKey a0.Roots)) ∧ True) ∧ CallOK Try.prog 62 [.one (sl 4 cs_RootKey a0.Roots)] [.one (sl 4 cs_RootKey v3)]) ∧ True ∧ True ∧ True) (by kernel_rfl) ⟨trivial, trivial, ⟨⟨rfl, trivial⟩, ok_laws_toRootKeyS K a0.Roots v3 e4⟩, trivial, trivial, trivial⟩ ?_
  refine thenQ_normal ?_
  refine AW.seq ?_
  refine AW.regionA [] [2] [2, 4, 5] (s' := ⟨[(2, (.v (.one (.ptr 2 0))))], [(2, (.box [(.c (.int .i64 a0.Length)), (.c (.int .i64 a0.Kind)), (.lst 4 v1.length 1 (gl (csL 5 cs_Key) v1)), (.lst 5 v3.length 4 (gl cs_RootKey v3))])), (4, (.lst v1.length 1 (gl (csL 5 cs_Key) v1))), (5, (.lst v3.length 4 (gl cs_RootKey v3)))]⟩) (ob := True ∧ True ∧ True) (by kernel_rfl) ⟨trivial, trivial, trivial⟩ ?_
  refine thenQ_normal ?_
  refine AW.ret ?_
  replace h := some_eq h
  subst h
  exact ⟨.inr rfl, retOK_of [(.agg [(.c (.int .i64 a0.Length)), (.c (.int .i64 a0.Kind)), (.lst 4 v1.length 1 (gl (csL 5 cs_Key) v1)), (.lst 5 v3.length 4 (gl cs_RootKey v3))])] (by kernel_rfl) ⟨⟨⟨rfl, trivial⟩, ⟨rfl, trivial⟩, rfl, rfl, trivial⟩, trivial⟩ (of_decide_eq_true (by kernel_rfl))⟩

/-! laws.toInt64S -/
def laws_toInt64S_l1 (K : Nat) (a0 : (List Int)) : Nat → Int → (List Int) → Option ((List Int))
  | 0, _, _ => none
  | k + 1, x4, x5 => ite2 ((decide (x4 < (a0.length : Int)))) (chk (0 ≤ x4 ∧ x4 < (a0.length : Int)) (chk (0 ≤ x4 ∧ x4 < (x5.length : Int)) (laws_toInt64S_l1 K a0 k (IntKind.i64.wrap (x4 + (1 : Int))) (x5.set x4.toNat (a0.getD x4.toNat default))))) (some x5)

def laws_toInt64S (K : Nat) (a0 : (List Int)) : Option ((List Int)) :=
  chk (0 ≤ (a0.length : Int) ∧ (a0.length : Int).toNat * 8 ≤ 140737488355328) (laws_toInt64S_l1 K a0 K (0 : Int) (List.replicate (a0.length : Int).toNat (default : Int)))

theorem ok_laws_toInt64S (K : Nat) (a0 : (List Int)) (o : ((List Int))) (h : laws_toInt64S K a0 = some o) : CallOK Try.prog 29 [.one (sl 1 (csI .i64) a0)] [.one (sl 1 (csI .i64) o)] := by
  refine callOK_of_AW Try.func29 rfl (by kernel_rfl) (Nat.le_of_ble_eq_true (by kernel_rfl)) ?_
  intro w0
  unfold laws_toInt64S at h
  refine AW.seq ?_
  refine AW.regionA [] [0] [] (s' := ⟨[(0, (.v (.one (.c (sl 1 (csI .i64) a0)))))], []⟩) (ob := True ∧ True) (by kernel_rfl) ⟨trivial, trivial⟩ ?_
  refine thenQ_normal ?_
  refine AW.seq ?_
  obtain ⟨c1, h⟩ := chk_some h
  refine AW.regionA [.no, .no, .objA 1 (List.replicate (a0.length : Int).toNat (default : Int)).length (gl (csI .i64) (List.replicate (a0.length : Int).toNat (default : Int)))] [0, 3] [1] (s' := ⟨[(0, (.v (.one (.c (sl 1 (csI .i64) a0))))), (3, (.v (.one (.arr 1))))], [(1, (.arr false (List.replicate (a0.length : Int).toNat (default : Int)).length 1 (gl (csI .i64) (List.replicate (a0.length : Int).toNat (default : Int)))))]⟩) (ob := True ∧ True ∧ (0 ≤ (a0.length : Int) ∧ (a0.length : Int) = (a0.length : Int) ∧ (((List.replicate (a0.length : Int).toNat (default : Int)).length : Nat) : Int) = (a0.length : Int) ∧ (List.replicate (a0.length : Int).toNat (default : Int)).length * 8 ≤ 140737488355328 ∧ ∀ i, i < (List.replicate (a0.length : Int).toNat (default : Int)).length → zeroRow (fun _ => none) [(.c (.int .i64 (0 : Int)))] (gl (csI .i64) (List.replicate (a0.length : Int).toNat (default : Int)) i)) ∧ True ∧ True) (by kernel_rfl) ⟨trivial, trivial, ⟨c1.1, rfl, len_rep c1.1, rep_bytes c1.2, fun i hi => gl_zero (cs := (csI .i64)) (zs := [(.c (.int .i64 (0 : Int)))]) (n := (a0.length : Int).toNat) ⟨⟨rfl, trivial⟩, trivial⟩ i (rep_lt hi)⟩, trivial, trivial⟩ ?_
  refine thenQ_normal ?_
  refine AW.seq ?_
  refine AW.seq ?_
  refine AW.regionA [] [0, 3, 4] [1] (s' := ⟨[(0, (.v (.one (.c (sl 1 (csI .i64) a0))))), (3, (.v (.one (.arr 1)))), (4, (.v (.one (.c (.int .i64 (0 : Int))))))], [(1, (.arr false (List.replicate (a0.length : Int).toNat (default : Int)).length 1 (gl (csI .i64) (List.replicate (a0.length : Int).toNat (default : Int)))))]⟩) (ob := True ∧ True) (by kernel_rfl) ⟨trivial, trivial⟩ ?_
  refine thenQ_normal ?_
  refine AW.block ?_
  refine AW.loopQ (σ := Nat × Int × (List Int)) (fun p => ⟨[(0, (.v (.one (.c (sl 1 (csI .i64) a0))))), (3, (.v (.one (.arr 1)))), (4, (.v (.one (.c (.int .i64 p.2.1)))))], [(1, (.arr false p.2.2.length 1 (gl (csI .i64) p.2.2)))]⟩) (fun p => laws_toInt64S_l1 K a0 p.1 p.2.1 p.2.2 = some o) (fun p => p.1) (K, (0 : Int), (List.replicate (a0.length : Int).toNat (default : Int))) h ?_
  clear h
  rintro ⟨k, x4, x5⟩ h
  replace h : laws_toInt64S_l1 K a0 k x4 x5 = some o := h
  show AW _ _ (⟨[(0, (.v (.one (.c (sl 1 (csI .i64) a0))))), (3, (.v (.one (.arr 1)))), (4, (.v (.one (.c (.int .i64 x4)))))], [(1, (.arr false x5.length 1 (gl (csI .i64) x5)))]⟩ : St) _
  obtain _ | k := k
  · rw [laws_toInt64S_l1] at h; cases h
  rw [laws_toInt64S_l1] at h
  refine AW.seq ?_
  refine AW.seq ?_
  refine AW.regionA [] [0, 3, 4, 11] [1] (s' := ⟨[(0, (.v (.one (.c (sl 1 (csI .i64) a0))))), (3, (.v (.one (.arr 1)))), (4, (.v (.one (.c (.int .i64 x4))))), (11, (.v (.one (.c (.bool (decide (x4 < (a0.length : Int))))))))], [(1, (.arr false x5.length 1 (gl (csI .i64) x5)))]⟩) (ob := True ∧ True ∧ True ∧ True ∧ True) (by kernel_rfl) ⟨trivial, trivial, trivial, trivial, trivial⟩ ?_
  refine thenQ_normal ?_
  rcases ite2_cases h with ⟨b6, h⟩ | ⟨b6, h⟩
  · refine AW.cond_t rfl b6 ?_
    refine AW.skip ?_
    refine thenQ_normal ?_
    refine AW.seq ?_
    refine AW.block ?_
    obtain ⟨c7, h⟩ := chk_some h
    obtain ⟨c8, h⟩ := chk_some h
    refine AW.regionA [.no, .no, .no, .no, .no, .no, .no, .set (x5.set x4.toNat (a0.getD x4.toNat default)).length (gl (csI .i64) (x5.set x4.toNat (a0.getD x4.toNat default))) ((List.range 1).map fun j => ((csI .i64) (a0.getD x4.toNat default)).getD (0 + j) .nilptr)] [0, 3, 4] [1] (s' := ⟨[(0, (.v (.one (.c (sl 1 (csI .i64) a0))))), (3, (.v (.one (.arr 1)))), (4, (.v (.one (.c (.int .i64 x4)))))], [(1, (.arr false (x5.set x4.toNat (a0.getD x4.toNat default)).length 1 (gl (csI .i64) (x5.set x4.toNat (a0.getD x4.toNat default)))))]⟩) (ob := True ∧ True ∧ True ∧ True ∧ (0 ≤ x4 ∧ x4 < (a0.length : Int)) ∧ True ∧ (0 ≤ x4 ∧ x4 < (x5.length : Int)) ∧ ((x5.set x4.toNat (a0.getD x4.toNat default)).length = x5.length ∧ SetOb x5.length 1 x4.toNat 0 1 (gl (csI .i64) x5) (gl (csI .i64) (x5.set x4.toNat (a0.getD x4.toNat default))) ∧ ((List.range 1).map fun j => ((csI .i64) (a0.getD x4.toNat default)).getD (0 + j) .nilptr) = ((List.range 1).map fun j => gl (csI .i64) (x5.set x4.toNat (a0.getD x4.toNat default)) x4.toNat (0 + j)) ∧ ((((.int .i64 (a0.getD x4.toNat default)) : C) = (.int .i64 (a0.getD x4.toNat default)) ∧ True) ∧ True) ∧ (false = true → ∀ j, j < 1 → isSeq (gl (csI .i64) x5 x4.toNat (0 + j)) = false ∧ isSeq (gl (csI .i64) (x5.set x4.toNat (a0.getD x4.toNat default)) x4.toNat (0 + j)) = false)) ∧ True) (by kernel_rfl) ⟨trivial, trivial, trivial, trivial, c7, trivial, c8, ⟨List.length_set, gl_set, (gl_atp (lt_of_bound c8)).symm, ⟨⟨rfl, trivial⟩, trivial⟩, (fun h => nomatch h)⟩, trivial⟩ ?_
    refine blockQ_normal ?_
    refine thenQ_normal ?_
    refine AW.regionA [] [0, 3, 4] [1] (s' := ⟨[(0, (.v (.one (.c (sl 1 (csI .i64) a0))))), (3, (.v (.one (.arr 1)))), (4, (.v (.one (.c (.int .i64 (IntKind.i64.wrap (x4 + (1 : Int))))))))], [(1, (.arr false (x5.set x4.toNat (a0.getD x4.toNat default)).length 1 (gl (csI .i64) (x5.set x4.toNat (a0.getD x4.toNat default)))))]⟩) (ob := True ∧ True ∧ True ∧ True) (by kernel_rfl) ⟨trivial, trivial, trivial, trivial⟩ ?_
    exact loopQ_normal (k, (IntKind.i64.wrap (x4 + (1 : Int))), (x5.set x4.toNat (a0.getD x4.toNat default))) h (Nat.lt_succ_self k) (Sub.keep [0, 3, 4] [1] (by kernel_rfl) (by kernel_rfl))
  · refine AW.cond_f rfl b6 ?_
    refine AW.exit ?_
    refine thenQ_exit ?_
    refine loopQ_exit ?_
    refine blockQ_exit ?_
    refine thenQ_normal ?_
    refine AW.seq ?_
    refine AW.regionA [] [2] [1] (s' := ⟨[(2, (.v (.one (.arr 1))))], [(1, (.arr false x5.length 1 (gl (csI .i64) x5)))]⟩) (ob := True ∧ True ∧ True) (by kernel_rfl) ⟨trivial, trivial, trivial⟩ ?_
    refine thenQ_normal ?_
    refine AW.ret ?_
    replace h := some_eq h
    subst h
    exact ⟨.inr rfl, retOK_of [(.one (.arr 1))] (by kernel_rfl) ⟨rfl, trivial⟩ (of_decide_eq_true (by kernel_rfl))⟩

/-! spec.l00In -/
def spec_l00In (_K : Nat) (a0 : Int) (a1 : Int) (a2 : Int) : Option (Bool) :=
  (ite2 ((decide (a0 ≥ a1))) (some (decide (a0 ≤ a2))) (some false)).bind fun j2 => some j2

theorem ok_spec_l00In (K : Nat) (a0 : Int) (a1 : Int) (a2 : Int) (o : (Bool)) (h : spec_l00In K a0 a1 a2 = some o) : CallOK Try.prog 74 [.one (.int .i64 a0), .one (.int .i64 a1), .one (.int .i64 a2)] [.one (.bool o)] := by
  refine callOK_of_AW Try.func74 rfl (by kernel_rfl) (Nat.le_of_ble_eq_true (by kernel_rfl)) ?_
  intro w0
  unfold spec_l00In at h
  refine AW.seq ?_
  refine AW.regionA [] [0, 1, 2] [] (s' := ⟨[(0, (.v (.one (.c (.int .i64 a0))))), (1, (.v (.one (.c (.int .i64 a1))))), (2, (.v (.one (.c (.int .i64 a2)))))], []⟩) (ob := True ∧ True) (by kernel_rfl) ⟨trivial, trivial⟩ ?_
  refine thenQ_normal ?_
  refine AW.seq ?_
  obtain ⟨j2, e3, h⟩ := bind_some h
  refine AW.join1 (s2 := ⟨[(6, (.v (.one (.c (.bool j2)))))], []⟩) ?_ ?_
  · rcases ite2_cases e3 with ⟨b1, e3⟩ | ⟨b1, e3⟩
    · replace e3 := some_eq e3
      subst e3
      exact AW.regionA [.no, .no, .no, .dec true] [6] [] (s' := ⟨[(6, (.v (.one (.c (.bool (decide (a0 ≤ a2)))))))], []⟩) (ob := True ∧ True ∧ True ∧ (True ∧ (decide (a0 ≥ a1)) = true) ∧ True ∧ True ∧ True ∧ True ∧ True ∧ True) (by kernel_rfl) ⟨trivial, trivial, trivial, ⟨trivial, b1⟩, trivial, trivial, trivial, trivial, trivial, trivial⟩ ⟨rfl, rfl⟩
    · replace e3 := some_eq e3
      subst e3
      exact AW.regionA [.no, .no, .no, .dec false] [6] [] (s' := ⟨[(6, (.v (.one (.c (.bool false)))))], []⟩) (ob := True ∧ True ∧ True ∧ (True ∧ (decide (a0 ≥ a1)) = false) ∧ True ∧ True ∧ True ∧ True ∧ True ∧ True) (by kernel_rfl) ⟨trivial, trivial, trivial, ⟨trivial, b1⟩, trivial, trivial, trivial, trivial, trivial, trivial⟩ ⟨rfl, rfl⟩
  refine thenQ_normal ?_
  refine AW.ret ?_
  replace h := some_eq h
  subst h
  exact ⟨.inr rfl, retOK_of [(.one (.c (.bool j2)))] (by kernel_rfl) ⟨⟨rfl, trivial⟩, trivial⟩ (of_decide_eq_true (by kernel_rfl))⟩

/-! spec.l03Is -/
def spec_l03Is_l1 (K : Nat) (a0 : Skeleton) : Nat → Int → Option (Bool)
  | 0, _ => none
  | k + 1, x9 => ite2 ((decide (x9 < (a0.Bones.length : Int)))) (chk (0 ≤ x9 ∧ x9 < (a0.Bones.length : Int)) ((spec_l00In K ((a0.Bones.getD x9.toNat default).Parent) (0 : Int) (IntKind.i64.wrap (x9 - (1 : Int)))).bind fun v12 => ite2 ((!v12)) (some false) (spec_l03Is_l1 K a0 k (IntKind.i64.wrap (x9 + (1 : Int)))))) (some true)

def spec_l03Is (K : Nat) (a0 : Skeleton) : Option (Bool) :=
  (spec_l00In K (a0.Bones.length : Int) (1 : Int) (12 : Int)).bind fun v1 => (ite2 ((!v1)) (some true) (chk (0 ≤ (0 : Int) ∧ (0 : Int) < (a0.Bones.length : Int)) (some (((a0.Bones.getD ((0 : Int).toNat) default).Parent) != ((-1) : Int))))).bind fun j5 => ite2 (j5) (some false) (spec_l03Is_l1 K a0 K (1 : Int))

theorem ok_spec_l03Is (K : Nat) (a0 : Skeleton) (o : (Bool)) (h : spec_l03Is K a0 = some o) : CallOK Try.prog 96 [.one (pl 1 cs_Skeleton a0)] [.one (.bool o)] := by
  refine callOK_of_AW Try.func96 rfl (by kernel_rfl) (Nat.le_of_ble_eq_true (by kernel_rfl)) ?_
  intro w0
  unfold spec_l03Is at h
  refine AW.seq ?_
  refine AW.regionA [] [0] [] (s' := ⟨[(0, (.v (.one (.c (pl 1 cs_Skeleton a0)))))], []⟩) (ob := True ∧ True) (by kernel_rfl) ⟨trivial, trivial⟩ ?_
  refine thenQ_normal ?_
  refine AW.seq ?_
  refine AW.regionA [] [0, 3] [] (s' := ⟨[(0, (.v (.one (.c (pl 1 cs_Skeleton a0))))), (3, (.v (.one (.c (.int .i64 (a0.Bones.length : Int))))))], []⟩) (ob := True ∧ True ∧ True ∧ True ∧ True ∧ True ∧ True) (by kernel_rfl) ⟨trivial, trivial, trivial, trivial, trivial, trivial, trivial⟩ ?_
  refine thenQ_normal ?_
  refine AW.seq ?_
  refine AW.seq ?_
  obtain ⟨v1, e2, h⟩ := bind_some h
  obtain ⟨j5, e6, h⟩ := bind_some h
  refine AW.join1 (s2 := ⟨[(0, (.v (.one (.c (pl 1 cs_Skeleton a0))))), (3, (.v (.one (.c (.int .i64 (a0.Bones.length : Int)))))), (22, (.v (.one (.c (.bool j5)))))], []⟩) ?_ ?_
  · rcases ite2_cases e6 with ⟨b3, e6⟩ | ⟨b3, e6⟩
    · replace e6 := some_eq e6
      subst e6
      exact AW.regionA [.no, .call [.one (.int .i64 (a0.Bones.length : Int)), .one (.int .i64 (1 : Int)), .one (.int .i64 (12 : Int))] [.one (.bool v1)] [[.view]], .no, .dec true] [0, 3, 22] [] (s' := ⟨[(0, (.v (.one (.c (pl 1 cs_Skeleton a0))))), (3, (.v (.one (.c (.int .i64 (a0.Bones.length : Int)))))), (22, (.v (.one (.c (.bool true)))))], []⟩) (ob := True ∧ (((((.int .i64 (a0.Bones.length : Int)) : C) = (.int .i64 (a0.Bones.length : Int))) ∧ (((.int .i64 (1 : Int)) : C) = (.int .i64 (1 : Int))) ∧ (((.int .i64 (12 : Int)) : C) = (.int .i64 (12 : Int))) ∧ True) ∧ CallOK Try.prog 74 [.one (.int .i64 (a0.Bones.length : Int)), .one (.int .i64 (1 : Int)), .one (.int .i64 (12 : Int))] [.one (.bool v1)]) ∧ True ∧ (True ∧ (!v1) = true) ∧ True ∧ True ∧ True ∧ True ∧ True ∧ True ∧ True ∧ True ∧ True ∧ True) (by kernel_rfl) ⟨trivial, ⟨⟨rfl, rfl, rfl, trivial⟩, ok_spec_l00In K (a0.Bones.length : Int) (1 : Int) (12 : Int) v1 e2⟩, trivial, ⟨trivial, b3⟩, trivial, trivial, trivial, trivial, trivial, trivial, trivial, trivial, trivial, trivial⟩ ⟨rfl, rfl⟩
    · obtain ⟨c4, e6⟩ := chk_some e6
      replace e6 := some_eq e6
      subst e6
      exact AW.regionA [.no, .call [.one (.int .i64 (a0.Bones.length : Int)), .one (.int .i64 (1 : Int)), .one (.int .i64 (12 : Int))] [.one (.bool v1)] [[.view]], .no, .dec false] [0, 3, 22] [] (s' := ⟨[(0, (.v (.one (.c (pl 1 cs_Skeleton a0))))), (3, (.v (.one (.c (.int .i64 (a0.Bones.length : Int)))))), (22, (.v (.one (.c (.bool (((a0.Bones.getD ((0 : Int).toNat) default).Parent) != ((-1) : Int)))))))], []⟩) (ob := True ∧ (((((.int .i64 (a0.Bones.length : Int)) : C) = (.int .i64 (a0.Bones.length : Int))) ∧ (((.int .i64 (1 : Int)) : C) = (.int .i64 (1 : Int))) ∧ (((.int .i64 (12 : Int)) : C) = (.int .i64 (12 : Int))) ∧ True) ∧ CallOK Try.prog 74 [.one (.int .i64 (a0.Bones.length : Int)), .one (.int .i64 (1 : Int)), .one (.int .i64 (12 : Int))] [.one (.bool v1)]) ∧ True ∧ (True ∧ (!v1) = false) ∧ True ∧ True ∧ True ∧ True ∧ (0 ≤ (0 : Int) ∧ (0 : Int) < (a0.Bones.length : Int)) ∧ True ∧ True ∧ True ∧ True ∧ True) (by kernel_rfl) ⟨trivial, ⟨⟨rfl, rfl, rfl, trivial⟩, ok_spec_l00In K (a0.Bones.length : Int) (1 : Int) (12 : Int) v1 e2⟩, trivial, ⟨trivial, b3⟩, trivial, trivial, trivial, trivial, c4, trivial, trivial, trivial, trivial, trivial⟩ ⟨rfl, rfl⟩
  refine thenQ_normal ?_
  rcases ite2_cases h with ⟨b7, h⟩ | ⟨b7, h⟩
  · refine AW.cond_t rfl b7 ?_
    refine AW.seq ?_
    refine AW.regionA [] [2] [] (s' := ⟨[(2, (.v (.one (.c (.bool false)))))], []⟩) (ob := True ∧ True) (by kernel_rfl) ⟨trivial, trivial⟩ ?_
    refine thenQ_normal ?_
    refine AW.ret ?_
    refine thenQ_ret ?_
    replace h := some_eq h
    subst h
    exact ⟨.inr rfl, retOK_of [(.one (.c (.bool false)))] (by kernel_rfl) ⟨⟨rfl, trivial⟩, trivial⟩ (of_decide_eq_true (by kernel_rfl))⟩
  · refine AW.cond_f rfl b7 ?_
    refine AW.skip ?_
    refine thenQ_normal ?_
    refine AW.seq ?_
    refine AW.seq ?_
    refine AW.regionA [] [0, 3, 4] [] (s' := ⟨[(0, (.v (.one (.c (pl 1 cs_Skeleton a0))))), (3, (.v (.one (.c (.int .i64 (a0.Bones.length : Int)))))), (4, (.v (.one (.c (.int .i64 (1 : Int))))))], []⟩) (ob := True ∧ True) (by kernel_rfl) ⟨trivial, trivial⟩ ?_
    refine thenQ_normal ?_
    refine AW.block ?_
    refine AW.loopQ (σ := Nat × Int) (fun p => ⟨[(0, (.v (.one (.c (pl 1 cs_Skeleton a0))))), (3, (.v (.one (.c (.int .i64 (a0.Bones.length : Int)))))), (4, (.v (.one (.c (.int .i64 p.2)))))], []⟩) (fun p => spec_l03Is_l1 K a0 p.1 p.2 = some o) (fun p => p.1) (K, (1 : Int)) h ?_
    clear h
    rintro ⟨k, x9⟩ h
    replace h : spec_l03Is_l1 K a0 k x9 = some o := h
    show AW _ _ (⟨[(0, (.v (.one (.c (pl 1 cs_Skeleton a0))))), (3, (.v (.one (.c (.int .i64 (a0.Bones.length : Int)))))), (4, (.v (.one (.c (.int .i64 x9)))))], []⟩ : St) _
    obtain _ | k := k
    · rw [spec_l03Is_l1] at h; cases h
    rw [spec_l03Is_l1] at h
    refine AW.seq ?_
    refine AW.seq ?_
    refine AW.regionA [] [0, 3, 4, 25] [] (s' := ⟨[(0, (.v (.one (.c (pl 1 cs_Skeleton a0))))), (3, (.v (.one (.c (.int .i64 (a0.Bones.length : Int)))))), (4, (.v (.one (.c (.int .i64 x9))))), (25, (.v (.one (.c (.bool (decide (x9 < (a0.Bones.length : Int))))))))], []⟩) (ob := True ∧ True ∧ True ∧ True) (by kernel_rfl) ⟨trivial, trivial, trivial, trivial⟩ ?_
    refine thenQ_normal ?_
    rcases ite2_cases h with ⟨b10, h⟩ | ⟨b10, h⟩
    · refine AW.cond_t rfl b10 ?_
      refine AW.skip ?_
      refine thenQ_normal ?_
      refine AW.seq ?_
      refine AW.block ?_
      refine AW.seq ?_
      obtain ⟨c11, h⟩ := chk_some h
      obtain ⟨v12, e13, h⟩ := bind_some h
      refine AW.regionA [.no, .no, .no, .no, .no, .no, .no, .no, .no, .no, .call [.one (.int .i64 ((a0.Bones.getD x9.toNat default).Parent)), .one (.int .i64 (0 : Int)), .one (.int .i64 (IntKind.i64.wrap (x9 - (1 : Int))))] [.one (.bool v12)] [[.view]]] [0, 3, 4, 39] [] (s' := ⟨[(0, (.v (.one (.c (pl 1 cs_Skeleton a0))))), (3, (.v (.one (.c (.int .i64 (a0.Bones.length : Int)))))), (4, (.v (.one (.c (.int .i64 x9))))), (39, (.v (.one (.c (.bool (!v12))))))], []⟩) (ob := True ∧ True ∧ True ∧ True ∧ True ∧ (0 ≤ x9 ∧ x9 < (a0.Bones.length : Int)) ∧ True ∧ True ∧ True ∧ True ∧ (((((.int .i64 ((a0.Bones.getD x9.toNat default).Parent)) : C) = (.int .i64 ((a0.Bones.getD x9.toNat default).Parent))) ∧ (((.int .i64 (0 : Int)) : C) = (.int .i64 (0 : Int))) ∧ (((.int .i64 (IntKind.i64.wrap (x9 - (1 : Int)))) : C) = (.int .i64 (IntKind.i64.wrap (x9 - (1 : Int))))) ∧ True) ∧ CallOK Try.prog 74 [.one (.int .i64 ((a0.Bones.getD x9.toNat default).Parent)), .one (.int .i64 (0 : Int)), .one (.int .i64 (IntKind.i64.wrap (x9 - (1 : Int))))] [.one (.bool v12)]) ∧ True ∧ True) (by kernel_rfl) ⟨trivial, trivial, trivial, trivial, trivial, c11, trivial, trivial, trivial, trivial, ⟨⟨rfl, rfl, rfl, trivial⟩, ok_spec_l00In K ((a0.Bones.getD x9.toNat default).Parent) (0 : Int) (IntKind.i64.wrap (x9 - (1 : Int))) v12 e13⟩, trivial, trivial⟩ ?_
      refine thenQ_normal ?_
      rcases ite2_cases h with ⟨b14, h⟩ | ⟨b14, h⟩
      · refine AW.cond_t rfl b14 ?_
        refine AW.seq ?_
        refine AW.regionA [] [2] [] (s' := ⟨[(2, (.v (.one (.c (.bool false)))))], []⟩) (ob := True ∧ True) (by kernel_rfl) ⟨trivial, trivial⟩ ?_
        refine thenQ_normal ?_
        refine AW.ret ?_
        refine blockQ_ret ?_
        refine thenQ_ret ?_
        refine loopQ_ret ?_
        refine blockQ_ret ?_
        refine thenQ_ret ?_
        replace h := some_eq h
        subst h
        exact ⟨.inr rfl, retOK_of [(.one (.c (.bool false)))] (by kernel_rfl) ⟨⟨rfl, trivial⟩, trivial⟩ (of_decide_eq_true (by kernel_rfl))⟩
      · refine AW.cond_f rfl b14 ?_
        refine AW.skip ?_
        refine blockQ_normal ?_
        refine thenQ_normal ?_
        refine AW.regionA [] [0, 3, 4] [] (s' := ⟨[(0, (.v (.one (.c (pl 1 cs_Skeleton a0))))), (3, (.v (.one (.c (.int .i64 (a0.Bones.length : Int)))))), (4, (.v (.one (.c (.int .i64 (IntKind.i64.wrap (x9 + (1 : Int))))))))], []⟩) (ob := True ∧ True ∧ True ∧ True) (by kernel_rfl) ⟨trivial, trivial, trivial, trivial⟩ ?_
        exact loopQ_normal (k, (IntKind.i64.wrap (x9 + (1 : Int)))) h (Nat.lt_succ_self k) (Sub.keep [0, 3, 4] [] (by kernel_rfl) (by kernel_rfl))
    · refine AW.cond_f rfl b10 ?_
      refine AW.exit ?_
      refine thenQ_exit ?_
      refine loopQ_exit ?_
      refine blockQ_exit ?_
      refine thenQ_normal ?_
      refine AW.seq ?_
      refine AW.regionA [] [2] [] (s' := ⟨[(2, (.v (.one (.c (.bool true)))))], []⟩) (ob := True ∧ True) (by kernel_rfl) ⟨trivial, trivial⟩ ?_
      refine thenQ_normal ?_
      refine AW.ret ?_
      replace h := some_eq h
      subst h
      exact ⟨.inr rfl, retOK_of [(.one (.c (.bool true)))] (by kernel_rfl) ⟨⟨rfl, trivial⟩, trivial⟩ (of_decide_eq_true (by kernel_rfl))⟩

/-! spec.l03Pairs -/
def spec_l03Pairs_l1 (K : Nat) (a0 : Skeleton) (a1 : (List Int)) : Nat → Int → Option (Bool)
  | 0, _ => none
  | k + 1, x3 => ite2 ((decide (x3 < (a0.Bones.length : Int)))) (chk (0 ≤ x3 ∧ x3 < (a1.length : Int)) ((spec_l00In K (a1.getD x3.toNat default) (0 : Int) (IntKind.i64.wrap ((a0.Bones.length : Int) - (1 : Int)))).bind fun v6 => (ite2 ((!v6)) (some true) (chk (0 ≤ (a1.getD x3.toNat default) ∧ (a1.getD x3.toNat default) < (a1.length : Int)) (some ((a1.getD ((a1.getD x3.toNat default).toNat) default) != x3)))).bind fun j10 => ite2 (j10) (some false) ((ite2 ((x3 == (0 : Int))) (ite2 (((a1.getD x3.toNat default) != (0 : Int))) (some true) (ite2 ((decide (x3 > (0 : Int)))) (chk (0 ≤ (a1.getD x3.toNat default) ∧ (a1.getD x3.toNat default) < (a0.Bones.length : Int)) (chk (0 ≤ x3 ∧ x3 < (a0.Bones.length : Int)) (chk (0 ≤ ((a0.Bones.getD x3.toNat default).Parent) ∧ ((a0.Bones.getD x3.toNat default).Parent) < (a1.length : Int)) (some (((a0.Bones.getD ((a1.getD x3.toNat default).toNat) default).Parent) != (a1.getD (((a0.Bones.getD x3.toNat default).Parent).toNat) default)))))) (some false))) (ite2 ((decide (x3 > (0 : Int)))) (chk (0 ≤ (a1.getD x3.toNat default) ∧ (a1.getD x3.toNat default) < (a0.Bones.length : Int)) (chk (0 ≤ x3 ∧ x3 < (a0.Bones.length : Int)) (chk (0 ≤ ((a0.Bones.getD x3.toNat default).Parent) ∧ ((a0.Bones.getD x3.toNat default).Parent) < (a1.length : Int)) (some (((a0.Bones.getD ((a1.getD x3.toNat default).toNat) default).Parent) != (a1.getD (((a0.Bones.getD x3.toNat default).Parent).toNat) default)))))) (some false))).bind fun j23 => ite2 (j23) (some false) (spec_l03Pairs_l1 K a0 a1 k (IntKind.i64.wrap (x3 + (1 : Int))))))) (some true)

def spec_l03Pairs (K : Nat) (a0 : Skeleton) (a1 : (List Int)) : Option (Bool) :=
  ite2 (((a1.length : Int) != (a0.Bones.length : Int))) (some false) (spec_l03Pairs_l1 K a0 a1 K (0 : Int))

theorem ok_spec_l03Pairs (K : Nat) (a0 : Skeleton) (a1 : (List Int)) (o : (Bool)) (h : spec_l03Pairs K a0 a1 = some o) : CallOK Try.prog 97 [.one (pl 1 cs_Skeleton a0), .one (sl 1 (csI .i64) a1)] [.one (.bool o)] := by
  refine callOK_of_AW Try.func97 rfl (by kernel_rfl) (Nat.le_of_ble_eq_true (by kernel_rfl)) ?_
  intro w0
  unfold spec_l03Pairs at h
  refine AW.seq ?_
  refine AW.regionA [] [0, 1] [] (s' := ⟨[(0, (.v (.one (.c (pl 1 cs_Skeleton a0))))), (1, (.v (.one (.c (sl 1 (csI .i64) a1)))))], []⟩) (ob := True ∧ True) (by kernel_rfl) ⟨trivial, trivial⟩ ?_
  refine thenQ_normal ?_
  refine AW.seq ?_
  refine AW.regionA [] [0, 1, 5] [] (s' := ⟨[(0, (.v (.one (.c (pl 1 cs_Skeleton a0))))), (1, (.v (.one (.c (sl 1 (csI .i64) a1))))), (5, (.v (.one (.c (.int .i64 (a0.Bones.length : Int))))))], []⟩) (ob := True ∧ True ∧ True ∧ True ∧ True ∧ True ∧ True) (by kernel_rfl) ⟨trivial, trivial, trivial, trivial, trivial, trivial, trivial⟩ ?_
  refine thenQ_normal ?_
  refine AW.seq ?_
  refine AW.seq ?_
  refine AW.regionA [] [0, 1, 5, 15] [] (s' := ⟨[(0, (.v (.one (.c (pl 1 cs_Skeleton a0))))), (1, (.v (.one (.c (sl 1 (csI .i64) a1))))), (5, (.v (.one (.c (.int .i64 (a0.Bones.length : Int)))))), (15, (.v (.one (.c (.bool ((a1.length : Int) != (a0.Bones.length : Int)))))))], []⟩) (ob := True ∧ True ∧ True ∧ True ∧ True) (by kernel_rfl) ⟨trivial, trivial, trivial, trivial, trivial⟩ ?_
  refine thenQ_normal ?_
  rcases ite2_cases h with ⟨b1, h⟩ | ⟨b1, h⟩
  · refine AW.cond_t rfl b1 ?_
    refine AW.seq ?_
    refine AW.regionA [] [4] [] (s' := ⟨[(4, (.v (.one (.c (.bool false)))))], []⟩) (ob := True ∧ True) (by kernel_rfl) ⟨trivial, trivial⟩ ?_
    refine thenQ_normal ?_
    refine AW.ret ?_
    refine thenQ_ret ?_
    replace h := some_eq h
    subst h
    exact ⟨.inr rfl, retOK_of [(.one (.c (.bool false)))] (by kernel_rfl) ⟨⟨rfl, trivial⟩, trivial⟩ (of_decide_eq_true (by kernel_rfl))⟩
  · refine AW.cond_f rfl b1 ?_
    refine AW.skip ?_
    refine thenQ_normal ?_
    refine AW.seq ?_
    refine AW.seq ?_
    refine AW.regionA [] [0, 1, 5, 6] [] (s' := ⟨[(0, (.v (.one (.c (pl 1 cs_Skeleton a0))))), (1, (.v (.one (.c (sl 1 (csI .i64) a1))))), (5, (.v (.one (.c (.int .i64 (a0.Bones.length : Int)))))), (6, (.v (.one (.c (.int .i64 (0 : Int))))))], []⟩) (ob := True ∧ True) (by kernel_rfl) ⟨trivial, trivial⟩ ?_
    refine thenQ_normal ?_
    refine AW.block ?_
    refine AW.loopQ (σ := Nat × Int) (fun p => ⟨[(0, (.v (.one (.c (pl 1 cs_Skeleton a0))))), (1, (.v (.one (.c (sl 1 (csI .i64) a1))))), (5, (.v (.one (.c (.int .i64 (a0.Bones.length : Int)))))), (6, (.v (.one (.c (.int .i64 p.2)))))], []⟩) (fun p => spec_l03Pairs_l1 K a0 a1 p.1 p.2 = some o) (fun p => p.1) (K, (0 : Int)) h ?_
    clear h
    rintro ⟨k, x3⟩ h
    replace h : spec_l03Pairs_l1 K a0 a1 k x3 = some o := h
    show AW _ _ (⟨[(0, (.v (.one (.c (pl 1 cs_Skeleton a0))))), (1, (.v (.one (.c (sl 1 (csI .i64) a1))))), (5, (.v (.one (.c (.int .i64 (a0.Bones.length : Int)))))), (6, (.v (.one (.c (.int .i64 x3)))))], []⟩ : St) _
    obtain _ | k := k
    · rw [spec_l03Pairs_l1] at h; cases h
    rw [spec_l03Pairs_l1] at h
    refine AW.seq ?_
    refine AW.seq ?_
    refine AW.regionA [] [0, 1, 5, 6, 18] [] (s' := ⟨[(0, (.v (.one (.c (pl 1 cs_Skeleton a0))))), (1, (.v (.one (.c (sl 1 (csI .i64) a1))))), (5, (.v (.one (.c (.int .i64 (a0.Bones.length : Int)))))), (6, (.v (.one (.c (.int .i64 x3))))), (18, (.v (.one (.c (.bool (decide (x3 < (a0.Bones.length : Int))))))))], []⟩) (ob := True ∧ True ∧ True ∧ True) (by kernel_rfl) ⟨trivial, trivial, trivial, trivial⟩ ?_
    refine thenQ_normal ?_
    rcases ite2_cases h with ⟨b4, h⟩ | ⟨b4, h⟩
    · refine AW.cond_t rfl b4 ?_
      refine AW.skip ?_
      refine thenQ_normal ?_
      refine AW.seq ?_
      refine AW.block ?_
      refine AW.seq ?_
      refine AW.seq ?_
      obtain ⟨c5, h⟩ := chk_some h
      obtain ⟨v6, e7, h⟩ := bind_some h
      obtain ⟨j10, e11, h⟩ := bind_some h
      refine AW.join1 (s2 := ⟨[(0, (.v (.one (.c (pl 1 cs_Skeleton a0))))), (1, (.v (.one (.c (sl 1 (csI .i64) a1))))), (5, (.v (.one (.c (.int .i64 (a0.Bones.length : Int)))))), (6, (.v (.one (.c (.int .i64 x3))))), (39, (.v (.one (.c (.bool j10)))))], []⟩) ?_ ?_
      · rcases ite2_cases e11 with ⟨b8, e11⟩ | ⟨b8, e11⟩
        · replace e11 := some_eq e11
          subst e11
          exact AW.regionA [.no, .no, .no, .no, .no, .no, .call [.one (.int .i64 (a1.getD x3.toNat default)), .one (.int .i64 (0 : Int)), .one (.int .i64 (IntKind.i64.wrap ((a0.Bones.length : Int) - (1 : Int))))] [.one (.bool v6)] [[.view]], .no, .dec true] [0, 1, 5, 6, 39] [] (s' := ⟨[(0, (.v (.one (.c (pl 1 cs_Skeleton a0))))), (1, (.v (.one (.c (sl 1 (csI .i64) a1))))), (5, (.v (.one (.c (.int .i64 (a0.Bones.length : Int)))))), (6, (.v (.one (.c (.int .i64 x3))))), (39, (.v (.one (.c (.bool true)))))], []⟩) (ob := True ∧ True ∧ (0 ≤ x3 ∧ x3 < (a1.length : Int)) ∧ True ∧ True ∧ True ∧ (((((.int .i64 (a1.getD x3.toNat default)) : C) = (.int .i64 (a1.getD x3.toNat default))) ∧ (((.int .i64 (0 : Int)) : C) = (.int .i64 (0 : Int))) ∧ (((.int .i64 (IntKind.i64.wrap ((a0.Bones.length : Int) - (1 : Int)))) : C) = (.int .i64 (IntKind.i64.wrap ((a0.Bones.length : Int) - (1 : Int))))) ∧ True) ∧ CallOK Try.prog 74 [.one (.int .i64 (a1.getD x3.toNat default)), .one (.int .i64 (0 : Int)), .one (.int .i64 (IntKind.i64.wrap ((a0.Bones.length : Int) - (1 : Int))))] [.one (.bool v6)]) ∧ True ∧ (True ∧ (!v6) = true) ∧ True ∧ True ∧ True ∧ True ∧ True ∧ True ∧ True ∧ True ∧ True ∧ True ∧ True) (by kernel_rfl) ⟨trivial, trivial, c5, trivial, trivial, trivial, ⟨⟨rfl, rfl, rfl, trivial⟩, ok_spec_l00In K (a1.getD x3.toNat default) (0 : Int) (IntKind.i64.wrap ((a0.Bones.length : Int) - (1 : Int))) v6 e7⟩, trivial, ⟨trivial, b8⟩, trivial, trivial, trivial, trivial, trivial, trivial, trivial, trivial, trivial, trivial, trivial⟩ ⟨rfl, rfl⟩
        · obtain ⟨c9, e11⟩ := chk_some e11
          replace e11 := some_eq e11
          subst e11
          exact AW.regionA [.no, .no, .no, .no, .no, .no, .call [.one (.int .i64 (a1.getD x3.toNat default)), .one (.int .i64 (0 : Int)), .one (.int .i64 (IntKind.i64.wrap ((a0.Bones.length : Int) - (1 : Int))))] [.one (.bool v6)] [[.view]], .no, .dec false] [0, 1, 5, 6, 39] [] (s' := ⟨[(0, (.v (.one (.c (pl 1 cs_Skeleton a0))))), (1, (.v (.one (.c (sl 1 (csI .i64) a1))))), (5, (.v (.one (.c (.int .i64 (a0.Bones.length : Int)))))), (6, (.v (.one (.c (.int .i64 x3))))), (39, (.v (.one (.c (.bool ((a1.getD ((a1.getD x3.toNat default).toNat) default) != x3))))))], []⟩) (ob := True ∧ True ∧ (0 ≤ x3 ∧ x3 < (a1.length : Int)) ∧ True ∧ True ∧ True ∧ (((((.int .i64 (a1.getD x3.toNat default)) : C) = (.int .i64 (a1.getD x3.toNat default))) ∧ (((.int .i64 (0 : Int)) : C) = (.int .i64 (0 : Int))) ∧ (((.int .i64 (IntKind.i64.wrap ((a0.Bones.length : Int) - (1 : Int)))) : C) = (.int .i64 (IntKind.i64.wrap ((a0.Bones.length : Int) - (1 : Int))))) ∧ True) ∧ CallOK Try.prog 74 [.one (.int .i64 (a1.getD x3.toNat default)), .one (.int .i64 (0 : Int)), .one (.int .i64 (IntKind.i64.wrap ((a0.Bones.length : Int) - (1 : Int))))] [.one (.bool v6)]) ∧ True ∧ (True ∧ (!v6) = false) ∧ True ∧ True ∧ True ∧ (0 ≤ x3 ∧ x3 < (a1.length : Int)) ∧ True ∧ (0 ≤ (a1.getD x3.toNat default) ∧ (a1.getD x3.toNat default) < (a1.length : Int)) ∧ True ∧ True ∧ True ∧ True ∧ True) (by kernel_rfl) ⟨trivial, trivial, c5, trivial, trivial, trivial, ⟨⟨rfl, rfl, rfl, trivial⟩, ok_spec_l00In K (a1.getD x3.toNat default) (0 : Int) (IntKind.i64.wrap ((a0.Bones.length : Int) - (1 : Int))) v6 e7⟩, trivial, ⟨trivial, b8⟩, trivial, trivial, trivial, c5, trivial, c9, trivial, trivial, trivial, trivial, trivial⟩ ⟨rfl, rfl⟩
      refine thenQ_normal ?_
      rcases ite2_cases h with ⟨b12, h⟩ | ⟨b12, h⟩
      · refine AW.cond_t rfl b12 ?_
        refine AW.seq ?_
        refine AW.regionA [] [4] [] (s' := ⟨[(4, (.v (.one (.c (.bool false)))))], []⟩) (ob := True ∧ True) (by kernel_rfl) ⟨trivial, trivial⟩ ?_
        refine thenQ_normal ?_
        refine AW.ret ?_
        refine thenQ_ret ?_
        refine blockQ_ret ?_
        refine thenQ_ret ?_
        refine loopQ_ret ?_
        refine blockQ_ret ?_
        refine thenQ_ret ?_
        replace h := some_eq h
        subst h
        exact ⟨.inr rfl, retOK_of [(.one (.c (.bool false)))] (by kernel_rfl) ⟨⟨rfl, trivial⟩, trivial⟩ (of_decide_eq_true (by kernel_rfl))⟩
      · refine AW.cond_f rfl b12 ?_
        refine AW.skip ?_
        refine thenQ_normal ?_
        refine AW.seq ?_
        obtain ⟨j23, e24, h⟩ := bind_some h
        refine AW.join1 (s2 := ⟨[(0, (.v (.one (.c (pl 1 cs_Skeleton a0))))), (1, (.v (.one (.c (sl 1 (csI .i64) a1))))), (5, (.v (.one (.c (.int .i64 (a0.Bones.length : Int)))))), (6, (.v (.one (.c (.int .i64 x3))))), (77, (.v (.one (.c (.bool j23)))))], []⟩) ?_ ?_
        · rcases ite2_cases e24 with ⟨b13, e24⟩ | ⟨b13, e24⟩
          · rcases ite2_cases e24 with ⟨b14, e24⟩ | ⟨b14, e24⟩
            · replace e24 := some_eq e24
              subst e24
              exact AW.drawnA (by kernel_rfl) 38 [.no, .no, .dec true, .no, .no, .no, .no, .no, .no, .dec true] [0, 1, 5, 6, 77] [] (s' := ⟨[(0, (.v (.one (.c (pl 1 cs_Skeleton a0))))), (1, (.v (.one (.c (sl 1 (csI .i64) a1))))), (5, (.v (.one (.c (.int .i64 (a0.Bones.length : Int)))))), (6, (.v (.one (.c (.int .i64 x3))))), (77, (.v (.one (.c (.bool true)))))], []⟩) (ob := (True ∧ True ∧ (True ∧ (x3 == (0 : Int)) = true) ∧ True ∧ True ∧ (0 ≤ x3 ∧ x3 < (a1.length : Int)) ∧ True ∧ True ∧ True ∧ (True ∧ ((a1.getD x3.toNat default) != (0 : Int)) = true) ∧ True ∧ True ∧ True ∧ True ∧ True ∧ True ∧ True ∧ True ∧ True ∧ True ∧ True ∧ True ∧ True ∧ True ∧ True ∧ True ∧ True ∧ True ∧ True ∧ True ∧ True ∧ True ∧ True ∧ True ∧ True ∧ True ∧ True ∧ True ∧ True) ∧ (True)) (by kernel_rfl) ⟨⟨trivial, trivial, ⟨trivial, b13⟩, trivial, trivial, c5, trivial, trivial, trivial, ⟨trivial, b14⟩, trivial, trivial, trivial, trivial, trivial, trivial, trivial, trivial, trivial, trivial, trivial, trivial, trivial, trivial, trivial, trivial, trivial, trivial, trivial, trivial, trivial, trivial, trivial, trivial, trivial, trivial, trivial, trivial, trivial⟩, trivial⟩ ⟨rfl, rfl⟩
            · rcases ite2_cases e24 with ⟨b15, e24⟩ | ⟨b15, e24⟩
              · obtain ⟨c16, e24⟩ := chk_some e24
                obtain ⟨c17, e24⟩ := chk_some e24
                obtain ⟨c18, e24⟩ := chk_some e24
                replace e24 := some_eq e24
                subst e24
                exact AW.drawnA (by kernel_rfl) 38 [.no, .no, .dec true, .no, .no, .no, .no, .no, .no, .dec false, .no, .no, .dec true] [0, 1, 5, 6, 77] [] (s' := ⟨[(0, (.v (.one (.c (pl 1 cs_Skeleton a0))))), (1, (.v (.one (.c (sl 1 (csI .i64) a1))))), (5, (.v (.one (.c (.int .i64 (a0.Bones.length : Int)))))), (6, (.v (.one (.c (.int .i64 x3))))), (77, (.v (.one (.c (.bool (((a0.Bones.getD ((a1.getD x3.toNat default).toNat) default).Parent) != (a1.getD (((a0.Bones.getD x3.toNat default).Parent).toNat) default)))))))], []⟩) (ob := (True ∧ True ∧ (True ∧ (x3 == (0 : Int)) = true) ∧ True ∧ True ∧ (0 ≤ x3 ∧ x3 < (a1.length : Int)) ∧ True ∧ True ∧ True ∧ (True ∧ ((a1.getD x3.toNat default) != (0 : Int)) = false) ∧ True ∧ True ∧ (True ∧ (decide (x3 > (0 : Int))) = true) ∧ True ∧ True ∧ True ∧ True ∧ True ∧ True ∧ (0 ≤ x3 ∧ x3 < (a1.length : Int)) ∧ True ∧ (0 ≤ (a1.getD x3.toNat default) ∧ (a1.getD x3.toNat default) < (a0.Bones.length : Int)) ∧ True ∧ True ∧ True ∧ True ∧ True ∧ True ∧ True ∧ True ∧ (0 ≤ x3 ∧ x3 < (a0.Bones.length : Int)) ∧ True ∧ True ∧ (0 ≤ ((a0.Bones.getD x3.toNat default).Parent) ∧ ((a0.Bones.getD x3.toNat default).Parent) < (a1.length : Int)) ∧ True ∧ True ∧ True ∧ True ∧ True) ∧ (True)) (by kernel_rfl) ⟨⟨trivial, trivial, ⟨trivial, b13⟩, trivial, trivial, c5, trivial, trivial, trivial, ⟨trivial, b14⟩, trivial, trivial, ⟨trivial, b15⟩, trivial, trivial, trivial, trivial, trivial, trivial, c5, trivial, c16, trivial, trivial, trivial, trivial, trivial, trivial, trivial, trivial, c17, trivial, trivial, c18, trivial, trivial, trivial, trivial, trivial⟩, trivial⟩ ⟨rfl, rfl⟩
              · replace e24 := some_eq e24
                subst e24
                exact AW.drawnA (by kernel_rfl) 38 [.no, .no, .dec true, .no, .no, .no, .no, .no, .no, .dec false, .no, .no, .dec false] [0, 1, 5, 6, 77] [] (s' := ⟨[(0, (.v (.one (.c (pl 1 cs_Skeleton a0))))), (1, (.v (.one (.c (sl 1 (csI .i64) a1))))), (5, (.v (.one (.c (.int .i64 (a0.Bones.length : Int)))))), (6, (.v (.one (.c (.int .i64 x3))))), (77, (.v (.one (.c (.bool false)))))], []⟩) (ob := (True ∧ True ∧ (True ∧ (x3 == (0 : Int)) = true) ∧ True ∧ True ∧ (0 ≤ x3 ∧ x3 < (a1.length : Int)) ∧ True ∧ True ∧ True ∧ (True ∧ ((a1.getD x3.toNat default) != (0 : Int)) = false) ∧ True ∧ True ∧ (True ∧ (decide (x3 > (0 : Int))) = false) ∧ True ∧ True ∧ True ∧ True ∧ True ∧ True ∧ True ∧ True ∧ True ∧ True ∧ True ∧ True ∧ True ∧ True ∧ True ∧ True ∧ True ∧ True ∧ True ∧ True ∧ True ∧ True ∧ True ∧ True ∧ True ∧ True) ∧ (True)) (by kernel_rfl) ⟨⟨trivial, trivial, ⟨trivial, b13⟩, trivial, trivial, c5, trivial, trivial, trivial, ⟨trivial, b14⟩, trivial, trivial, ⟨trivial, b15⟩, trivial, trivial, trivial, trivial, trivial, trivial, trivial, trivial, trivial, trivial, trivial, trivial, trivial, trivial, trivial, trivial, trivial, trivial, trivial, trivial, trivial, trivial, trivial, trivial, trivial, trivial⟩, trivial⟩ ⟨rfl, rfl⟩
          · rcases ite2_cases e24 with ⟨b19, e24⟩ | ⟨b19, e24⟩
            · obtain ⟨c20, e24⟩ := chk_some e24
              obtain ⟨c21, e24⟩ := chk_some e24
              obtain ⟨c22, e24⟩ := chk_some e24
              replace e24 := some_eq e24
              subst e24
              exact AW.drawnA (by kernel_rfl) 38 [.no, .no, .dec false, .no, .no, .no, .no, .no, .no, .no, .no, .no, .dec true] [0, 1, 5, 6, 77] [] (s' := ⟨[(0, (.v (.one (.c (pl 1 cs_Skeleton a0))))), (1, (.v (.one (.c (sl 1 (csI .i64) a1))))), (5, (.v (.one (.c (.int .i64 (a0.Bones.length : Int)))))), (6, (.v (.one (.c (.int .i64 x3))))), (77, (.v (.one (.c (.bool (((a0.Bones.getD ((a1.getD x3.toNat default).toNat) default).Parent) != (a1.getD (((a0.Bones.getD x3.toNat default).Parent).toNat) default)))))))], []⟩) (ob := (True ∧ True ∧ (True ∧ (x3 == (0 : Int)) = false) ∧ True ∧ True ∧ True ∧ True ∧ True ∧ True ∧ True ∧ True ∧ True ∧ (True ∧ (decide (x3 > (0 : Int))) = true) ∧ True ∧ True ∧ True ∧ True ∧ True ∧ True ∧ (0 ≤ x3 ∧ x3 < (a1.length : Int)) ∧ True ∧ (0 ≤ (a1.getD x3.toNat default) ∧ (a1.getD x3.toNat default) < (a0.Bones.length : Int)) ∧ True ∧ True ∧ True ∧ True ∧ True ∧ True ∧ True ∧ True ∧ (0 ≤ x3 ∧ x3 < (a0.Bones.length : Int)) ∧ True ∧ True ∧ (0 ≤ ((a0.Bones.getD x3.toNat default).Parent) ∧ ((a0.Bones.getD x3.toNat default).Parent) < (a1.length : Int)) ∧ True ∧ True ∧ True ∧ True ∧ True) ∧ (True)) (by kernel_rfl) ⟨⟨trivial, trivial, ⟨trivial, b13⟩, trivial, trivial, trivial, trivial, trivial, trivial, trivial, trivial, trivial, ⟨trivial, b19⟩, trivial, trivial, trivial, trivial, trivial, trivial, c5, trivial, c20, trivial, trivial, trivial, trivial, trivial, trivial, trivial, trivial, c21, trivial, trivial, c22, trivial, trivial, trivial, trivial, trivial⟩, trivial⟩ ⟨rfl, rfl⟩
            · replace e24 := some_eq e24
              subst e24
              exact AW.drawnA (by kernel_rfl) 38 [.no, .no, .dec false, .no, .no, .no, .no, .no, .no, .no, .no, .no, .dec false] [0, 1, 5, 6, 77] [] (s' := ⟨[(0, (.v (.one (.c (pl 1 cs_Skeleton a0))))), (1, (.v (.one (.c (sl 1 (csI .i64) a1))))), (5, (.v (.one (.c (.int .i64 (a0.Bones.length : Int)))))), (6, (.v (.one (.c (.int .i64 x3))))), (77, (.v (.one (.c (.bool false)))))], []⟩) (ob := (True ∧ True ∧ (True ∧ (x3 == (0 : Int)) = false) ∧ True ∧ True ∧ True ∧ True ∧ True ∧ True ∧ True ∧ True ∧ True ∧ (True ∧ (decide (x3 > (0 : Int))) = false) ∧ True ∧ True ∧ True ∧ True ∧ True ∧ True ∧ True ∧ True ∧ True ∧ True ∧ True ∧ True ∧ True ∧ True ∧ True ∧ True ∧ True ∧ True ∧ True ∧ True ∧ True ∧ True ∧ True ∧ True ∧ True ∧ True) ∧ (True)) (by kernel_rfl) ⟨⟨trivial, trivial, ⟨trivial, b13⟩, trivial, trivial, trivial, trivial, trivial, trivial, trivial, trivial, trivial, ⟨trivial, b19⟩, trivial, trivial, trivial, trivial, trivial, trivial, trivial, trivial, trivial, trivial, trivial, trivial, trivial, trivial, trivial, trivial, trivial, trivial, trivial, trivial, trivial, trivial, trivial, trivial, trivial, trivial⟩, trivial⟩ ⟨rfl, rfl⟩
        refine thenQ_normal ?_
        rcases ite2_cases h with ⟨b25, h⟩ | ⟨b25, h⟩
        · refine AW.cond_t rfl b25 ?_
          refine AW.seq ?_
          refine AW.regionA [] [4] [] (s' := ⟨[(4, (.v (.one (.c (.bool false)))))], []⟩) (ob := True ∧ True) (by kernel_rfl) ⟨trivial, trivial⟩ ?_
          refine thenQ_normal ?_
          refine AW.ret ?_
          refine blockQ_ret ?_
          refine thenQ_ret ?_
          refine loopQ_ret ?_
          refine blockQ_ret ?_
          refine thenQ_ret ?_
          replace h := some_eq h
          subst h
          exact ⟨.inr rfl, retOK_of [(.one (.c (.bool false)))] (by kernel_rfl) ⟨⟨rfl, trivial⟩, trivial⟩ (of_decide_eq_true (by kernel_rfl))⟩
        · refine AW.cond_f rfl b25 ?_
          refine AW.skip ?_
          refine blockQ_normal ?_
          refine thenQ_normal ?_
          refine AW.regionA [] [0, 1, 5, 6] [] (s' := ⟨[(0, (.v (.one (.c (pl 1 cs_Skeleton a0))))), (1, (.v (.one (.c (sl 1 (csI .i64) a1))))), (5, (.v (.one (.c (.int .i64 (a0.Bones.length : Int)))))), (6, (.v (.one (.c (.int .i64 (IntKind.i64.wrap (x3 + (1 : Int))))))))], []⟩) (ob := True ∧ True ∧ True ∧ True) (by kernel_rfl) ⟨trivial, trivial, trivial, trivial⟩ ?_
          exact loopQ_normal (k, (IntKind.i64.wrap (x3 + (1 : Int)))) h (Nat.lt_succ_self k) (Sub.keep [0, 1, 5, 6] [] (by kernel_rfl) (by kernel_rfl))
    · refine AW.cond_f rfl b4 ?_
      refine AW.exit ?_
      refine thenQ_exit ?_
      refine loopQ_exit ?_
      refine blockQ_exit ?_
      refine thenQ_normal ?_
      refine AW.seq ?_
      refine AW.regionA [] [4] [] (s' := ⟨[(4, (.v (.one (.c (.bool true)))))], []⟩) (ob := True ∧ True) (by kernel_rfl) ⟨trivial, trivial⟩ ?_
      refine thenQ_normal ?_
      refine AW.ret ?_
      replace h := some_eq h
      subst h
      exact ⟨.inr rfl, retOK_of [(.one (.c (.bool true)))] (by kernel_rfl) ⟨⟨rfl, trivial⟩, trivial⟩ (of_decide_eq_true (by kernel_rfl))⟩

/-! spec.l05At -/
def spec_l05At_l1 (K : Nat) (a0 : (List Key)) : Nat → Int → (List Int) → Option ((List Int))
  | 0, _, _ => none
  | k + 1, x3, x4 => ite2 ((decide (x3 < (a0.length : Int)))) (chk (0 ≤ x3 ∧ x3 < (a0.length : Int)) (chk ((x4.length + ([(a0.getD x3.toNat default).At]).length) * 8 ≤ 140737488355328) (spec_l05At_l1 K a0 k (IntKind.i64.wrap (x3 + (1 : Int))) (x4 ++ ([(a0.getD x3.toNat default).At]))))) (some x4)

def spec_l05At (K : Nat) (a0 : (List Key)) : Option ((List Int)) :=
  spec_l05At_l1 K a0 K (0 : Int) ([] : List Int)

theorem ok_spec_l05At (K : Nat) (a0 : (List Key)) (o : ((List Int))) (h : spec_l05At K a0 = some o) : CallOK Try.prog 135 [.one (sl 5 cs_Key a0)] [.one (sl 1 (csI .i64) o)] := by
  refine callOK_of_AW Try.func135 rfl (by kernel_rfl) (Nat.le_of_ble_eq_true (by kernel_rfl)) ?_
  intro w0
  unfold spec_l05At at h
  refine AW.seq ?_
  refine AW.regionA [] [0] [] (s' := ⟨[(0, (.v (.one (.c (sl 5 cs_Key a0)))))], []⟩) (ob := True ∧ True) (by kernel_rfl) ⟨trivial, trivial⟩ ?_
  refine thenQ_normal ?_
  refine AW.seq ?_
  refine AW.regionA [.obj 1 ([] : List Int).length (gl (csI .i64) ([] : List Int))] [0, 3] [1] (s' := ⟨[(0, (.v (.one (.c (sl 5 cs_Key a0))))), (3, (.v (.one (.lst 1 ([] : List Int).length 1 (gl (csI .i64) ([] : List Int))))))], [(1, (.lst ([] : List Int).length 1 (gl (csI .i64) ([] : List Int))))]⟩) (ob := (([] : List Int).length = 0 ∧ True) ∧ True ∧ True) (by kernel_rfl) ⟨⟨rfl, trivial⟩, trivial, trivial⟩ ?_
  refine thenQ_normal ?_
  refine AW.seq ?_
  refine AW.seq ?_
  refine AW.regionA [] [0, 3, 7, 8] [1] (s' := ⟨[(0, (.v (.one (.c (sl 5 cs_Key a0))))), (3, (.v (.one (.lst 1 ([] : List Int).length 1 (gl (csI .i64) ([] : List Int)))))), (7, (.v (.one (.c (.int .i64 (a0.length : Int)))))), (8, (.v (.one (.c (.int .i64 (0 : Int))))))], [(1, (.lst ([] : List Int).length 1 (gl (csI .i64) ([] : List Int))))]⟩) (ob := True ∧ True ∧ True ∧ True) (by kernel_rfl) ⟨trivial, trivial, trivial, trivial⟩ ?_
  refine thenQ_normal ?_
  refine AW.block ?_
  refine AW.loopQ (σ := Nat × Int × (List Int)) (fun p => ⟨[(0, (.v (.one (.c (sl 5 cs_Key a0))))), (3, (.v (.one (.lst 1 p.2.2.length 1 (gl (csI .i64) p.2.2))))), (7, (.v (.one (.c (.int .i64 (a0.length : Int)))))), (8, (.v (.one (.c (.int .i64 p.2.1)))))], [(1, (.lst p.2.2.length 1 (gl (csI .i64) p.2.2)))]⟩) (fun p => spec_l05At_l1 K a0 p.1 p.2.1 p.2.2 = some o) (fun p => p.1) (K, (0 : Int), ([] : List Int)) h ?_
  clear h
  rintro ⟨k, x3, x4⟩ h
  replace h : spec_l05At_l1 K a0 k x3 x4 = some o := h
  show AW _ _ (⟨[(0, (.v (.one (.c (sl 5 cs_Key a0))))), (3, (.v (.one (.lst 1 x4.length 1 (gl (csI .i64) x4))))), (7, (.v (.one (.c (.int .i64 (a0.length : Int)))))), (8, (.v (.one (.c (.int .i64 x3)))))], [(1, (.lst x4.length 1 (gl (csI .i64) x4)))]⟩ : St) _
  obtain _ | k := k
  · rw [spec_l05At_l1] at h; cases h
  rw [spec_l05At_l1] at h
  refine AW.seq ?_
  refine AW.regionA [] [0, 3, 7, 8, 9] [1] (s' := ⟨[(0, (.v (.one (.c (sl 5 cs_Key a0))))), (3, (.v (.one (.lst 1 x4.length 1 (gl (csI .i64) x4))))), (7, (.v (.one (.c (.int .i64 (a0.length : Int)))))), (8, (.v (.one (.c (.int .i64 x3))))), (9, (.v (.one (.c (.bool (decide (x3 < (a0.length : Int))))))))], [(1, (.lst x4.length 1 (gl (csI .i64) x4)))]⟩) (ob := True ∧ True) (by kernel_rfl) ⟨trivial, trivial⟩ ?_
  refine thenQ_normal ?_
  refine AW.seq ?_
  rcases ite2_cases h with ⟨b5, h⟩ | ⟨b5, h⟩
  · refine AW.cond_t rfl b5 ?_
    refine AW.skip ?_
    refine thenQ_normal ?_
    refine AW.seq ?_
    refine AW.block ?_
    refine AW.seq ?_
    refine AW.regionA [] [0, 3, 4, 7, 8] [1] (s' := ⟨[(0, (.v (.one (.c (sl 5 cs_Key a0))))), (3, (.v (.one (.lst 1 x4.length 1 (gl (csI .i64) x4))))), (4, (.v (.one (.c (.int .i64 x3))))), (7, (.v (.one (.c (.int .i64 (a0.length : Int)))))), (8, (.v (.one (.c (.int .i64 x3)))))], [(1, (.lst x4.length 1 (gl (csI .i64) x4)))]⟩) (ob := True ∧ True ∧ True) (by kernel_rfl) ⟨trivial, trivial, trivial⟩ ?_
    refine thenQ_normal ?_
    obtain ⟨c6, h⟩ := chk_some h
    obtain ⟨c7, h⟩ := chk_some h
    refine AW.regionA [.no, .no, .no, .no, .no, .no, .obj 6 ([(a0.getD x3.toNat default).At]).length (gl (csI .i64) ([(a0.getD x3.toNat default).At])), .objK 7 (x4 ++ ([(a0.getD x3.toNat default).At])).length (gl (csI .i64) (x4 ++ ([(a0.getD x3.toNat default).At])))] [0, 3, 7, 8] [7] (s' := ⟨[(0, (.v (.one (.c (sl 5 cs_Key a0))))), (3, (.v (.one (.lst 7 (x4 ++ ([(a0.getD x3.toNat default).At])).length 1 (gl (csI .i64) (x4 ++ ([(a0.getD x3.toNat default).At]))))))), (7, (.v (.one (.c (.int .i64 (a0.length : Int)))))), (8, (.v (.one (.c (.int .i64 x3)))))], [(7, (.lst (x4 ++ ([(a0.getD x3.toNat default).At])).length 1 (gl (csI .i64) (x4 ++ ([(a0.getD x3.toNat default).At])))))]⟩) (ob := True ∧ True ∧ True ∧ (0 ≤ x3 ∧ x3 < (a0.length : Int)) ∧ True ∧ True ∧ (([(a0.getD x3.toNat default).At]).length = 1 ∧ (((.int .i64 ((a0.getD x3.toNat default).At)) : C) = (.int .i64 ((a0.getD x3.toNat default).At)) ∧ True) ∧ True) ∧ ((x4 ++ ([(a0.getD x3.toNat default).At])).length = x4.length + ([(a0.getD x3.toNat default).At]).length ∧ AppOb (x4.length) (([(a0.getD x3.toNat default).At]).length) 1 (gl (csI .i64) x4) (gl (csI .i64) ([(a0.getD x3.toNat default).At])) (gl (csI .i64) (x4 ++ ([(a0.getD x3.toNat default).At]))) ∧ (∀ i j, i < ([(a0.getD x3.toNat default).At]).length → j < 1 → scalarC (gl (csI .i64) ([(a0.getD x3.toNat default).At]) i j)) ∧ (x4.length + ([(a0.getD x3.toNat default).At]).length) * 8 ≤ 140737488355328) ∧ True ∧ True) (by kernel_rfl) ⟨trivial, trivial, trivial, c6, trivial, trivial, ⟨rfl, ⟨⟨rfl, trivial⟩, trivial⟩⟩, ⟨List.length_append, gl_append, gl_scalar scI _, c7⟩, trivial, trivial⟩ ?_
    refine blockQ_normal ?_
    refine thenQ_normal ?_
    refine AW.regionA [] [0, 3, 7, 8] [7] (s' := ⟨[(0, (.v (.one (.c (sl 5 cs_Key a0))))), (3, (.v (.one (.lst 7 (x4 ++ ([(a0.getD x3.toNat default).At])).length 1 (gl (csI .i64) (x4 ++ ([(a0.getD x3.toNat default).At]))))))), (7, (.v (.one (.c (.int .i64 (a0.length : Int)))))), (8, (.v (.one (.c (.int .i64 (IntKind.i64.wrap (x3 + (1 : Int))))))))], [(7, (.lst (x4 ++ ([(a0.getD x3.toNat default).At])).length 1 (gl (csI .i64) (x4 ++ ([(a0.getD x3.toNat default).At])))))]⟩) (ob := True ∧ True ∧ True) (by kernel_rfl) ⟨trivial, trivial, trivial⟩ ?_
    exact loopQ_normal (k, (IntKind.i64.wrap (x3 + (1 : Int))), (x4 ++ ([(a0.getD x3.toNat default).At]))) h (Nat.lt_succ_self k) (Sub.trans (Sub.swap 1 7 _ (by kernel_rfl) (by kernel_rfl)) (Sub.keep [0, 3, 7, 8] [1] (by kernel_rfl) (by kernel_rfl)))
  · refine AW.cond_f rfl b5 ?_
    refine AW.exit ?_
    refine thenQ_exit ?_
    refine loopQ_exit ?_
    refine blockQ_exit ?_
    refine thenQ_normal ?_
    refine AW.seq ?_
    refine AW.regionA [] [2] [1] (s' := ⟨[(2, (.v (.one (.lst 1 x4.length 1 (gl (csI .i64) x4)))))], [(1, (.lst x4.length 1 (gl (csI .i64) x4)))]⟩) (ob := True ∧ True ∧ True) (by kernel_rfl) ⟨trivial, trivial, trivial⟩ ?_
    refine thenQ_normal ?_
    refine AW.ret ?_
    replace h := some_eq h
    subst h
    exact ⟨.inr rfl, retOK_of [(.one (.lst 1 x4.length 1 (gl (csI .i64) x4)))] (by kernel_rfl) ⟨rfl, trivial⟩ (of_decide_eq_true (by kernel_rfl))⟩

/-! spec.l05Times -/
def spec_l05Times_l1 (K : Nat) (a0 : (List Int)) (a1 : Int) : Nat → Int → Option (Bool)
  | 0, _ => none
  | k + 1, x2 => ite2 ((decide (x2 < (a0.length : Int)))) (chk (0 ≤ x2 ∧ x2 < (a0.length : Int)) ((spec_l00In K (a0.getD x2.toNat default) (0 : Int) a1).bind fun v5 => (ite2 ((!v5)) (some true) (ite2 ((decide (x2 > (0 : Int)))) (chk (0 ≤ (IntKind.i64.wrap (x2 - (1 : Int))) ∧ (IntKind.i64.wrap (x2 - (1 : Int))) < (a0.length : Int)) (some (decide ((a0.getD ((IntKind.i64.wrap (x2 - (1 : Int))).toNat) default) ≥ (a0.getD x2.toNat default))))) (some false))).bind fun j10 => ite2 (j10) (some false) (spec_l05Times_l1 K a0 a1 k (IntKind.i64.wrap (x2 + (1 : Int)))))) ((ite2 ((decide ((a0.length : Int) ≥ (1 : Int)))) (some (decide ((a0.length : Int) ≤ (12 : Int)))) (some false)).bind fun j14 => some j14)

def spec_l05Times (K : Nat) (a0 : (List Int)) (a1 : Int) : Option (Bool) :=
  spec_l05Times_l1 K a0 a1 K (0 : Int)

theorem ok_spec_l05Times (K : Nat) (a0 : (List Int)) (a1 : Int) (o : (Bool)) (h : spec_l05Times K a0 a1 = some o) : CallOK Try.prog 134 [.one (sl 1 (csI .i64) a0), .one (.int .i64 a1)] [.one (.bool o)] := by
  refine callOK_of_AW Try.func134 rfl (by kernel_rfl) (Nat.le_of_ble_eq_true (by kernel_rfl)) ?_
  intro w0
  unfold spec_l05Times at h
  refine AW.seq ?_
  refine AW.regionA [] [0, 1] [] (s' := ⟨[(0, (.v (.one (.c (sl 1 (csI .i64) a0))))), (1, (.v (.one (.c (.int .i64 a1)))))], []⟩) (ob := True ∧ True) (by kernel_rfl) ⟨trivial, trivial⟩ ?_
  refine thenQ_normal ?_
  refine AW.seq ?_
  refine AW.seq ?_
  refine AW.regionA [] [0, 1, 7, 8] [] (s' := ⟨[(0, (.v (.one (.c (sl 1 (csI .i64) a0))))), (1, (.v (.one (.c (.int .i64 a1))))), (7, (.v (.one (.c (.int .i64 (a0.length : Int)))))), (8, (.v (.one (.c (.int .i64 (0 : Int))))))], []⟩) (ob := True ∧ True ∧ True ∧ True) (by kernel_rfl) ⟨trivial, trivial, trivial, trivial⟩ ?_
  refine thenQ_normal ?_
  refine AW.block ?_
  refine AW.loopQ (σ := Nat × Int) (fun p => ⟨[(0, (.v (.one (.c (sl 1 (csI .i64) a0))))), (1, (.v (.one (.c (.int .i64 a1))))), (7, (.v (.one (.c (.int .i64 (a0.length : Int)))))), (8, (.v (.one (.c (.int .i64 p.2)))))], []⟩) (fun p => spec_l05Times_l1 K a0 a1 p.1 p.2 = some o) (fun p => p.1) (K, (0 : Int)) h ?_
  clear h
  rintro ⟨k, x2⟩ h
  replace h : spec_l05Times_l1 K a0 a1 k x2 = some o := h
  show AW _ _ (⟨[(0, (.v (.one (.c (sl 1 (csI .i64) a0))))), (1, (.v (.one (.c (.int .i64 a1))))), (7, (.v (.one (.c (.int .i64 (a0.length : Int)))))), (8, (.v (.one (.c (.int .i64 x2)))))], []⟩ : St) _
  obtain _ | k := k
  · rw [spec_l05Times_l1] at h; cases h
  rw [spec_l05Times_l1] at h
  refine AW.seq ?_
  refine AW.regionA [] [0, 1, 7, 8, 9] [] (s' := ⟨[(0, (.v (.one (.c (sl 1 (csI .i64) a0))))), (1, (.v (.one (.c (.int .i64 a1))))), (7, (.v (.one (.c (.int .i64 (a0.length : Int)))))), (8, (.v (.one (.c (.int .i64 x2))))), (9, (.v (.one (.c (.bool (decide (x2 < (a0.length : Int))))))))], []⟩) (ob := True ∧ True) (by kernel_rfl) ⟨trivial, trivial⟩ ?_
  refine thenQ_normal ?_
  refine AW.seq ?_
  rcases ite2_cases h with ⟨b3, h⟩ | ⟨b3, h⟩
  · refine AW.cond_t rfl b3 ?_
    refine AW.skip ?_
    refine thenQ_normal ?_
    refine AW.seq ?_
    refine AW.block ?_
    refine AW.seq ?_
    refine AW.regionA [] [0, 1, 5, 7, 8] [] (s' := ⟨[(0, (.v (.one (.c (sl 1 (csI .i64) a0))))), (1, (.v (.one (.c (.int .i64 a1))))), (5, (.v (.one (.c (.int .i64 x2))))), (7, (.v (.one (.c (.int .i64 (a0.length : Int)))))), (8, (.v (.one (.c (.int .i64 x2)))))], []⟩) (ob := True ∧ True ∧ True) (by kernel_rfl) ⟨trivial, trivial, trivial⟩ ?_
    refine thenQ_normal ?_
    refine AW.seq ?_
    obtain ⟨c4, h⟩ := chk_some h
    obtain ⟨v5, e6, h⟩ := bind_some h
    obtain ⟨j10, e11, h⟩ := bind_some h
    refine AW.join1 (s2 := ⟨[(0, (.v (.one (.c (sl 1 (csI .i64) a0))))), (1, (.v (.one (.c (.int .i64 a1))))), (7, (.v (.one (.c (.int .i64 (a0.length : Int)))))), (8, (.v (.one (.c (.int .i64 x2))))), (33, (.v (.one (.c (.bool j10)))))], []⟩) ?_ ?_
    · rcases ite2_cases e11 with ⟨b7, e11⟩ | ⟨b7, e11⟩
      · replace e11 := some_eq e11
        subst e11
        exact AW.drawnA (by kernel_rfl) 23 [.no, .no, .no, .no, .no, .call [.one (.int .i64 (a0.getD x2.toNat default)), .one (.int .i64 (0 : Int)), .one (.int .i64 a1)] [.one (.bool v5)] [[.view]], .no, .dec true] [0, 1, 7, 8, 33] [] (s' := ⟨[(0, (.v (.one (.c (sl 1 (csI .i64) a0))))), (1, (.v (.one (.c (.int .i64 a1))))), (7, (.v (.one (.c (.int .i64 (a0.length : Int)))))), (8, (.v (.one (.c (.int .i64 x2))))), (33, (.v (.one (.c (.bool true)))))], []⟩) (ob := (True ∧ True ∧ (0 ≤ x2 ∧ x2 < (a0.length : Int)) ∧ True ∧ True ∧ (((((.int .i64 (a0.getD x2.toNat default)) : C) = (.int .i64 (a0.getD x2.toNat default))) ∧ (((.int .i64 (0 : Int)) : C) = (.int .i64 (0 : Int))) ∧ (((.int .i64 a1) : C) = (.int .i64 a1)) ∧ True) ∧ CallOK Try.prog 74 [.one (.int .i64 (a0.getD x2.toNat default)), .one (.int .i64 (0 : Int)), .one (.int .i64 a1)] [.one (.bool v5)]) ∧ True ∧ (True ∧ (!v5) = true) ∧ True ∧ True ∧ True ∧ True ∧ True ∧ True ∧ True ∧ True ∧ True ∧ True ∧ True ∧ True ∧ True ∧ True ∧ True ∧ True) ∧ (True)) (by kernel_rfl) ⟨⟨trivial, trivial, c4, trivial, trivial, ⟨⟨rfl, rfl, rfl, trivial⟩, ok_spec_l00In K (a0.getD x2.toNat default) (0 : Int) a1 v5 e6⟩, trivial, ⟨trivial, b7⟩, trivial, trivial, trivial, trivial, trivial, trivial, trivial, trivial, trivial, trivial, trivial, trivial, trivial, trivial, trivial, trivial⟩, trivial⟩ ⟨rfl, rfl⟩
      · rcases ite2_cases e11 with ⟨b8, e11⟩ | ⟨b8, e11⟩
        · obtain ⟨c9, e11⟩ := chk_some e11
          replace e11 := some_eq e11
          subst e11
          exact AW.drawnA (by kernel_rfl) 23 [.no, .no, .no, .no, .no, .call [.one (.int .i64 (a0.getD x2.toNat default)), .one (.int .i64 (0 : Int)), .one (.int .i64 a1)] [.one (.bool v5)] [[.view]], .no, .dec false, .no, .no, .dec true] [0, 1, 7, 8, 33] [] (s' := ⟨[(0, (.v (.one (.c (sl 1 (csI .i64) a0))))), (1, (.v (.one (.c (.int .i64 a1))))), (7, (.v (.one (.c (.int .i64 (a0.length : Int)))))), (8, (.v (.one (.c (.int .i64 x2))))), (33, (.v (.one (.c (.bool (decide ((a0.getD ((IntKind.i64.wrap (x2 - (1 : Int))).toNat) default) ≥ (a0.getD x2.toNat default))))))))], []⟩) (ob := (True ∧ True ∧ (0 ≤ x2 ∧ x2 < (a0.length : Int)) ∧ True ∧ True ∧ (((((.int .i64 (a0.getD x2.toNat default)) : C) = (.int .i64 (a0.getD x2.toNat default))) ∧ (((.int .i64 (0 : Int)) : C) = (.int .i64 (0 : Int))) ∧ (((.int .i64 a1) : C) = (.int .i64 a1)) ∧ True) ∧ CallOK Try.prog 74 [.one (.int .i64 (a0.getD x2.toNat default)), .one (.int .i64 (0 : Int)), .one (.int .i64 a1)] [.one (.bool v5)]) ∧ True ∧ (True ∧ (!v5) = false) ∧ True ∧ True ∧ (True ∧ (decide (x2 > (0 : Int))) = true) ∧ True ∧ True ∧ True ∧ (0 ≤ (IntKind.i64.wrap (x2 - (1 : Int))) ∧ (IntKind.i64.wrap (x2 - (1 : Int))) < (a0.length : Int)) ∧ True ∧ True ∧ True ∧ (0 ≤ x2 ∧ x2 < (a0.length : Int)) ∧ True ∧ True ∧ True ∧ True ∧ True) ∧ (True)) (by kernel_rfl) ⟨⟨trivial, trivial, c4, trivial, trivial, ⟨⟨rfl, rfl, rfl, trivial⟩, ok_spec_l00In K (a0.getD x2.toNat default) (0 : Int) a1 v5 e6⟩, trivial, ⟨trivial, b7⟩, trivial, trivial, ⟨trivial, b8⟩, trivial, trivial, trivial, c9, trivial, trivial, trivial, c4, trivial, trivial, trivial, trivial, trivial⟩, trivial⟩ ⟨rfl, rfl⟩
        · replace e11 := some_eq e11
          subst e11
          exact AW.drawnA (by kernel_rfl) 23 [.no, .no, .no, .no, .no, .call [.one (.int .i64 (a0.getD x2.toNat default)), .one (.int .i64 (0 : Int)), .one (.int .i64 a1)] [.one (.bool v5)] [[.view]], .no, .dec false, .no, .no, .dec false] [0, 1, 7, 8, 33] [] (s' := ⟨[(0, (.v (.one (.c (sl 1 (csI .i64) a0))))), (1, (.v (.one (.c (.int .i64 a1))))), (7, (.v (.one (.c (.int .i64 (a0.length : Int)))))), (8, (.v (.one (.c (.int .i64 x2))))), (33, (.v (.one (.c (.bool false)))))], []⟩) (ob := (True ∧ True ∧ (0 ≤ x2 ∧ x2 < (a0.length : Int)) ∧ True ∧ True ∧ (((((.int .i64 (a0.getD x2.toNat default)) : C) = (.int .i64 (a0.getD x2.toNat default))) ∧ (((.int .i64 (0 : Int)) : C) = (.int .i64 (0 : Int))) ∧ (((.int .i64 a1) : C) = (.int .i64 a1)) ∧ True) ∧ CallOK Try.prog 74 [.one (.int .i64 (a0.getD x2.toNat default)), .one (.int .i64 (0 : Int)), .one (.int .i64 a1)] [.one (.bool v5)]) ∧ True ∧ (True ∧ (!v5) = false) ∧ True ∧ True ∧ (True ∧ (decide (x2 > (0 : Int))) = false) ∧ True ∧ True ∧ True ∧ True ∧ True ∧ True ∧ True ∧ True ∧ True ∧ True ∧ True ∧ True ∧ True) ∧ (True)) (by kernel_rfl) ⟨⟨trivial, trivial, c4, trivial, trivial, ⟨⟨rfl, rfl, rfl, trivial⟩, ok_spec_l00In K (a0.getD x2.toNat default) (0 : Int) a1 v5 e6⟩, trivial, ⟨trivial, b7⟩, trivial, trivial, ⟨trivial, b8⟩, trivial, trivial, trivial, trivial, trivial, trivial, trivial, trivial, trivial, trivial, trivial, trivial, trivial⟩, trivial⟩ ⟨rfl, rfl⟩
    refine thenQ_normal ?_
    rcases ite2_cases h with ⟨b12, h⟩ | ⟨b12, h⟩
    · refine AW.cond_t rfl b12 ?_
      refine AW.seq ?_
      refine AW.regionA [] [4] [] (s' := ⟨[(4, (.v (.one (.c (.bool false)))))], []⟩) (ob := True ∧ True) (by kernel_rfl) ⟨trivial, trivial⟩ ?_
      refine thenQ_normal ?_
      refine AW.ret ?_
      refine blockQ_ret ?_
      refine thenQ_ret ?_
      refine loopQ_ret ?_
      refine blockQ_ret ?_
      refine thenQ_ret ?_
      replace h := some_eq h
      subst h
      exact ⟨.inr rfl, retOK_of [(.one (.c (.bool false)))] (by kernel_rfl) ⟨⟨rfl, trivial⟩, trivial⟩ (of_decide_eq_true (by kernel_rfl))⟩
    · refine AW.cond_f rfl b12 ?_
      refine AW.skip ?_
      refine blockQ_normal ?_
      refine thenQ_normal ?_
      refine AW.regionA [] [0, 1, 7, 8] [] (s' := ⟨[(0, (.v (.one (.c (sl 1 (csI .i64) a0))))), (1, (.v (.one (.c (.int .i64 a1))))), (7, (.v (.one (.c (.int .i64 (a0.length : Int)))))), (8, (.v (.one (.c (.int .i64 (IntKind.i64.wrap (x2 + (1 : Int))))))))], []⟩) (ob := True ∧ True ∧ True) (by kernel_rfl) ⟨trivial, trivial, trivial⟩ ?_
      exact loopQ_normal (k, (IntKind.i64.wrap (x2 + (1 : Int)))) h (Nat.lt_succ_self k) (Sub.keep [0, 1, 7, 8] [] (by kernel_rfl) (by kernel_rfl))
  · refine AW.cond_f rfl b3 ?_
    refine AW.exit ?_
    refine thenQ_exit ?_
    refine loopQ_exit ?_
    refine blockQ_exit ?_
    refine thenQ_normal ?_
    refine AW.seq ?_
    obtain ⟨j14, e15, h⟩ := bind_some h
    refine AW.join1 (s2 := ⟨[(4, (.v (.one (.c (.bool j14)))))], []⟩) ?_ ?_
    · rcases ite2_cases e15 with ⟨b13, e15⟩ | ⟨b13, e15⟩
      · replace e15 := some_eq e15
        subst e15
        exact AW.regionA [.no, .no, .no, .dec true] [4] [] (s' := ⟨[(4, (.v (.one (.c (.bool (decide ((a0.length : Int) ≤ (12 : Int))))))))], []⟩) (ob := True ∧ True ∧ True ∧ (True ∧ (decide ((a0.length : Int) ≥ (1 : Int))) = true) ∧ True ∧ True ∧ True ∧ True ∧ True ∧ True) (by kernel_rfl) ⟨trivial, trivial, trivial, ⟨trivial, b13⟩, trivial, trivial, trivial, trivial, trivial, trivial⟩ ⟨rfl, rfl⟩
      · replace e15 := some_eq e15
        subst e15
        exact AW.regionA [.no, .no, .no, .dec false] [4] [] (s' := ⟨[(4, (.v (.one (.c (.bool false)))))], []⟩) (ob := True ∧ True ∧ True ∧ (True ∧ (decide ((a0.length : Int) ≥ (1 : Int))) = false) ∧ True ∧ True ∧ True ∧ True ∧ True ∧ True) (by kernel_rfl) ⟨trivial, trivial, trivial, ⟨trivial, b13⟩, trivial, trivial, trivial, trivial, trivial, trivial⟩ ⟨rfl, rfl⟩
    refine thenQ_normal ?_
    refine AW.ret ?_
    replace h := some_eq h
    subst h
    exact ⟨.inr rfl, retOK_of [(.one (.c (.bool j14)))] (by kernel_rfl) ⟨⟨rfl, trivial⟩, trivial⟩ (of_decide_eq_true (by kernel_rfl))⟩

/-! spec.l05RootAt -/
def spec_l05RootAt_l1 (K : Nat) (a0 : (List RootKey)) : Nat → Int → (List Int) → Option ((List Int))
  | 0, _, _ => none
  | k + 1, x3, x4 => ite2 ((decide (x3 < (a0.length : Int)))) (chk (0 ≤ x3 ∧ x3 < (a0.length : Int)) (chk ((x4.length + ([(a0.getD x3.toNat default).At]).length) * 8 ≤ 140737488355328) (spec_l05RootAt_l1 K a0 k (IntKind.i64.wrap (x3 + (1 : Int))) (x4 ++ ([(a0.getD x3.toNat default).At]))))) (some x4)

def spec_l05RootAt (K : Nat) (a0 : (List RootKey)) : Option ((List Int)) :=
  spec_l05RootAt_l1 K a0 K (0 : Int) ([] : List Int)

theorem ok_spec_l05RootAt (K : Nat) (a0 : (List RootKey)) (o : ((List Int))) (h : spec_l05RootAt K a0 = some o) : CallOK Try.prog 136 [.one (sl 4 cs_RootKey a0)] [.one (sl 1 (csI .i64) o)] := by
  refine callOK_of_AW Try.func136 rfl (by kernel_rfl) (Nat.le_of_ble_eq_true (by kernel_rfl)) ?_
  intro w0
  unfold spec_l05RootAt at h
  refine AW.seq ?_
  refine AW.regionA [] [0] [] (s' := ⟨[(0, (.v (.one (.c (sl 4 cs_RootKey a0)))))], []⟩) (ob := True ∧ True) (by kernel_rfl) ⟨trivial, trivial⟩ ?_
  refine thenQ_normal ?_
  refine AW.seq ?_
  refine AW.regionA [.obj 1 ([] : List Int).length (gl (csI .i64) ([] : List Int))] [0, 3] [1] (s' := ⟨[(0, (.v (.one (.c (sl 4 cs_RootKey a0))))), (3, (.v (.one (.lst 1 ([] : List Int).length 1 (gl (csI .i64) ([] : List Int))))))], [(1, (.lst ([] : List Int).length 1 (gl (csI .i64) ([] : List Int))))]⟩) (ob := (([] : List Int).length = 0 ∧ True) ∧ True ∧ True) (by kernel_rfl) ⟨⟨rfl, trivial⟩, trivial, trivial⟩ ?_
  refine thenQ_normal ?_
  refine AW.seq ?_
  refine AW.seq ?_
  refine AW.regionA [] [0, 3, 7, 8] [1] (s' := ⟨[(0, (.v (.one (.c (sl 4 cs_RootKey a0))))), (3, (.v (.one (.lst 1 ([] : List Int).length 1 (gl (csI .i64) ([] : List Int)))))), (7, (.v (.one (.c (.int .i64 (a0.length : Int)))))), (8, (.v (.one (.c (.int .i64 (0 : Int))))))], [(1, (.lst ([] : List Int).length 1 (gl (csI .i64) ([] : List Int))))]⟩) (ob := True ∧ True ∧ True ∧ True) (by kernel_rfl) ⟨trivial, trivial, trivial, trivial⟩ ?_
  refine thenQ_normal ?_
  refine AW.block ?_
  refine AW.loopQ (σ := Nat × Int × (List Int)) (fun p => ⟨[(0, (.v (.one (.c (sl 4 cs_RootKey a0))))), (3, (.v (.one (.lst 1 p.2.2.length 1 (gl (csI .i64) p.2.2))))), (7, (.v (.one (.c (.int .i64 (a0.length : Int)))))), (8, (.v (.one (.c (.int .i64 p.2.1)))))], [(1, (.lst p.2.2.length 1 (gl (csI .i64) p.2.2)))]⟩) (fun p => spec_l05RootAt_l1 K a0 p.1 p.2.1 p.2.2 = some o) (fun p => p.1) (K, (0 : Int), ([] : List Int)) h ?_
  clear h
  rintro ⟨k, x3, x4⟩ h
  replace h : spec_l05RootAt_l1 K a0 k x3 x4 = some o := h
  show AW _ _ (⟨[(0, (.v (.one (.c (sl 4 cs_RootKey a0))))), (3, (.v (.one (.lst 1 x4.length 1 (gl (csI .i64) x4))))), (7, (.v (.one (.c (.int .i64 (a0.length : Int)))))), (8, (.v (.one (.c (.int .i64 x3)))))], [(1, (.lst x4.length 1 (gl (csI .i64) x4)))]⟩ : St) _
  obtain _ | k := k
  · rw [spec_l05RootAt_l1] at h; cases h
  rw [spec_l05RootAt_l1] at h
  refine AW.seq ?_
  refine AW.regionA [] [0, 3, 7, 8, 9] [1] (s' := ⟨[(0, (.v (.one (.c (sl 4 cs_RootKey a0))))), (3, (.v (.one (.lst 1 x4.length 1 (gl (csI .i64) x4))))), (7, (.v (.one (.c (.int .i64 (a0.length : Int)))))), (8, (.v (.one (.c (.int .i64 x3))))), (9, (.v (.one (.c (.bool (decide (x3 < (a0.length : Int))))))))], [(1, (.lst x4.length 1 (gl (csI .i64) x4)))]⟩) (ob := True ∧ True) (by kernel_rfl) ⟨trivial, trivial⟩ ?_
  refine thenQ_normal ?_
  refine AW.seq ?_
  rcases ite2_cases h with ⟨b5, h⟩ | ⟨b5, h⟩
  · refine AW.cond_t rfl b5 ?_
    refine AW.skip ?_
    refine thenQ_normal ?_
    refine AW.seq ?_
    refine AW.block ?_
    refine AW.seq ?_
    refine AW.regionA [] [0, 3, 4, 7, 8] [1] (s' := ⟨[(0, (.v (.one (.c (sl 4 cs_RootKey a0))))), (3, (.v (.one (.lst 1 x4.length 1 (gl (csI .i64) x4))))), (4, (.v (.one (.c (.int .i64 x3))))), (7, (.v (.one (.c (.int .i64 (a0.length : Int)))))), (8, (.v (.one (.c (.int .i64 x3)))))], [(1, (.lst x4.length 1 (gl (csI .i64) x4)))]⟩) (ob := True ∧ True ∧ True) (by kernel_rfl) ⟨trivial, trivial, trivial⟩ ?_
    refine thenQ_normal ?_
    obtain ⟨c6, h⟩ := chk_some h
    obtain ⟨c7, h⟩ := chk_some h
    refine AW.regionA [.no, .no, .no, .no, .no, .no, .obj 6 ([(a0.getD x3.toNat default).At]).length (gl (csI .i64) ([(a0.getD x3.toNat default).At])), .objK 7 (x4 ++ ([(a0.getD x3.toNat default).At])).length (gl (csI .i64) (x4 ++ ([(a0.getD x3.toNat default).At])))] [0, 3, 7, 8] [7] (s' := ⟨[(0, (.v (.one (.c (sl 4 cs_RootKey a0))))), (3, (.v (.one (.lst 7 (x4 ++ ([(a0.getD x3.toNat default).At])).length 1 (gl (csI .i64) (x4 ++ ([(a0.getD x3.toNat default).At]))))))), (7, (.v (.one (.c (.int .i64 (a0.length : Int)))))), (8, (.v (.one (.c (.int .i64 x3)))))], [(7, (.lst (x4 ++ ([(a0.getD x3.toNat default).At])).length 1 (gl (csI .i64) (x4 ++ ([(a0.getD x3.toNat default).At])))))]⟩) (ob := True ∧ True ∧ True ∧ (0 ≤ x3 ∧ x3 < (a0.length : Int)) ∧ True ∧ True ∧ (([(a0.getD x3.toNat default).At]).length = 1 ∧ (((.int .i64 ((a0.getD x3.toNat default).At)) : C) = (.int .i64 ((a0.getD x3.toNat default).At)) ∧ True) ∧ True) ∧ ((x4 ++ ([(a0.getD x3.toNat default).At])).length = x4.length + ([(a0.getD x3.toNat default).At]).length ∧ AppOb (x4.length) (([(a0.getD x3.toNat default).At]).length) 1 (gl (csI .i64) x4) (gl (csI .i64) ([(a0.getD x3.toNat default).At])) (gl (csI .i64) (x4 ++ ([(a0.getD x3.toNat default).At]))) ∧ (∀ i j, i < ([(a0.getD x3.toNat default).At]).length → j < 1 → scalarC (gl (csI .i64) ([(a0.getD x3.toNat default).At]) i j)) ∧ (x4.length + ([(a0.getD x3.toNat default).At]).length) * 8 ≤ 140737488355328) ∧ True ∧ True) (by kernel_rfl) ⟨trivial, trivial, trivial, c6, trivial, trivial, ⟨rfl, ⟨⟨rfl, trivial⟩, trivial⟩⟩, ⟨List.length_append, gl_append, gl_scalar scI _, c7⟩, trivial, trivial⟩ ?_
    refine blockQ_normal ?_
    refine thenQ_normal ?_
    refine AW.regionA [] [0, 3, 7, 8] [7] (s' := ⟨[(0, (.v (.one (.c (sl 4 cs_RootKey a0))))), (3, (.v (.one (.lst 7 (x4 ++ ([(a0.getD x3.toNat default).At])).length 1 (gl (csI .i64) (x4 ++ ([(a0.getD x3.toNat default).At]))))))), (7, (.v (.one (.c (.int .i64 (a0.length : Int)))))), (8, (.v (.one (.c (.int .i64 (IntKind.i64.wrap (x3 + (1 : Int))))))))], [(7, (.lst (x4 ++ ([(a0.getD x3.toNat default).At])).length 1 (gl (csI .i64) (x4 ++ ([(a0.getD x3.toNat default).At])))))]⟩) (ob := True ∧ True ∧ True) (by kernel_rfl) ⟨trivial, trivial, trivial⟩ ?_
    exact loopQ_normal (k, (IntKind.i64.wrap (x3 + (1 : Int))), (x4 ++ ([(a0.getD x3.toNat default).At]))) h (Nat.lt_succ_self k) (Sub.trans (Sub.swap 1 7 _ (by kernel_rfl) (by kernel_rfl)) (Sub.keep [0, 3, 7, 8] [1] (by kernel_rfl) (by kernel_rfl)))
  · refine AW.cond_f rfl b5 ?_
    refine AW.exit ?_
    refine thenQ_exit ?_
    refine loopQ_exit ?_
    refine blockQ_exit ?_
    refine thenQ_normal ?_
    refine AW.seq ?_
    refine AW.regionA [] [2] [1] (s' := ⟨[(2, (.v (.one (.lst 1 x4.length 1 (gl (csI .i64) x4)))))], [(1, (.lst x4.length 1 (gl (csI .i64) x4)))]⟩) (ob := True ∧ True ∧ True) (by kernel_rfl) ⟨trivial, trivial, trivial⟩ ?_
    refine thenQ_normal ?_
    refine AW.ret ?_
    replace h := some_eq h
    subst h
    exact ⟨.inr rfl, retOK_of [(.one (.lst 1 x4.length 1 (gl (csI .i64) x4)))] (by kernel_rfl) ⟨rfl, trivial⟩ (of_decide_eq_true (by kernel_rfl))⟩

/-! spec.l05Is -/
def spec_l05Is_l1 (K : Nat) (a0 : Clip) : Nat → Int → Option (Bool)
  | 0, _ => none
  | k + 1, x12 => ite2 ((decide (x12 < (a0.Tracks.length : Int)))) (chk (0 ≤ x12 ∧ x12 < (a0.Tracks.length : Int)) ((spec_l05At K (a0.Tracks.getD x12.toNat default)).bind fun v15 => (spec_l05Times K v15 a0.Length).bind fun v17 => ite2 ((!v17)) (some false) (spec_l05Is_l1 K a0 k (IntKind.i64.wrap (x12 + (1 : Int)))))) ((spec_l05RootAt K a0.Roots).bind fun v20 => (spec_l05Times K v20 a0.Length).bind fun v22 => some v22)

def spec_l05Is (K : Nat) (a0 : Clip) : Option (Bool) :=
  (spec_l00In K a0.Length (1 : Int) (1000 : Int)).bind fun v1 => (ite2 ((!v1)) (some true) ((spec_l00In K a0.Kind (0 : Int) (2 : Int)).bind fun v4 => ite2 ((!v4)) (some true) (ite2 ((decide ((a0.Tracks.length : Int) < (1 : Int)))) (some true) (some (decide ((a0.Tracks.length : Int) > (12 : Int))))))).bind fun j8 => ite2 (j8) (some false) (spec_l05Is_l1 K a0 K (0 : Int))

theorem ok_spec_l05Is (K : Nat) (a0 : Clip) (o : (Bool)) (h : spec_l05Is K a0 = some o) : CallOK Try.prog 60 [.one (pl 4 cs_Clip a0)] [.one (.bool o)] := by
  refine callOK_of_AW Try.func60 rfl (by kernel_rfl) (Nat.le_of_ble_eq_true (by kernel_rfl)) ?_
  intro w0
  unfold spec_l05Is at h
  refine AW.seq ?_
  refine AW.regionA [] [0] [] (s' := ⟨[(0, (.v (.one (.c (pl 4 cs_Clip a0)))))], []⟩) (ob := True ∧ True) (by kernel_rfl) ⟨trivial, trivial⟩ ?_
  refine thenQ_normal ?_
  refine AW.seq ?_
  refine AW.seq ?_
  obtain ⟨v1, e2, h⟩ := bind_some h
  obtain ⟨j8, e9, h⟩ := bind_some h
  refine AW.join1 (s2 := ⟨[(0, (.v (.one (.c (pl 4 cs_Clip a0))))), (33, (.v (.one (.c (.bool j8)))))], []⟩) ?_ ?_
  · rcases ite2_cases e9 with ⟨b3, e9⟩ | ⟨b3, e9⟩
    · replace e9 := some_eq e9
      subst e9
      exact AW.regionA [.no, .no, .no, .no, .call [.one (.int .i64 a0.Length), .one (.int .i64 (1 : Int)), .one (.int .i64 (1000 : Int))] [.one (.bool v1)] [[.view]], .no, .dec true] [0, 33] [] (s' := ⟨[(0, (.v (.one (.c (pl 4 cs_Clip a0))))), (33, (.v (.one (.c (.bool true)))))], []⟩) (ob := True ∧ True ∧ True ∧ True ∧ (((((.int .i64 a0.Length) : C) = (.int .i64 a0.Length)) ∧ (((.int .i64 (1 : Int)) : C) = (.int .i64 (1 : Int))) ∧ (((.int .i64 (1000 : Int)) : C) = (.int .i64 (1000 : Int))) ∧ True) ∧ CallOK Try.prog 74 [.one (.int .i64 a0.Length), .one (.int .i64 (1 : Int)), .one (.int .i64 (1000 : Int))] [.one (.bool v1)]) ∧ True ∧ (True ∧ (!v1) = true) ∧ True ∧ True ∧ True ∧ True ∧ True ∧ True ∧ True ∧ True ∧ True ∧ True ∧ True ∧ True ∧ True ∧ True ∧ True ∧ True ∧ True ∧ True ∧ True ∧ True ∧ True ∧ True ∧ True ∧ True) (by kernel_rfl) ⟨trivial, trivial, trivial, trivial, ⟨⟨rfl, rfl, rfl, trivial⟩, ok_spec_l00In K a0.Length (1 : Int) (1000 : Int) v1 e2⟩, trivial, ⟨trivial, b3⟩, trivial, trivial, trivial, trivial, trivial, trivial, trivial, trivial, trivial, trivial, trivial, trivial, trivial, trivial, trivial, trivial, trivial, trivial, trivial, trivial, trivial, trivial, trivial, trivial⟩ ⟨rfl, rfl⟩
    · obtain ⟨v4, e5, e9⟩ := bind_some e9
      rcases ite2_cases e9 with ⟨b6, e9⟩ | ⟨b6, e9⟩
      · replace e9 := some_eq e9
        subst e9
        exact AW.regionA [.no, .no, .no, .no, .call [.one (.int .i64 a0.Length), .one (.int .i64 (1 : Int)), .one (.int .i64 (1000 : Int))] [.one (.bool v1)] [[.view]], .no, .dec false, .no, .no, .no, .no, .call [.one (.int .i64 a0.Kind), .one (.int .i64 (0 : Int)), .one (.int .i64 (2 : Int))] [.one (.bool v4)] [[.view]], .no, .no, .dec true] [0, 33] [] (s' := ⟨[(0, (.v (.one (.c (pl 4 cs_Clip a0))))), (33, (.v (.one (.c (.bool true)))))], []⟩) (ob := True ∧ True ∧ True ∧ True ∧ (((((.int .i64 a0.Length) : C) = (.int .i64 a0.Length)) ∧ (((.int .i64 (1 : Int)) : C) = (.int .i64 (1 : Int))) ∧ (((.int .i64 (1000 : Int)) : C) = (.int .i64 (1000 : Int))) ∧ True) ∧ CallOK Try.prog 74 [.one (.int .i64 a0.Length), .one (.int .i64 (1 : Int)), .one (.int .i64 (1000 : Int))] [.one (.bool v1)]) ∧ True ∧ (True ∧ (!v1) = false) ∧ True ∧ True ∧ True ∧ True ∧ (((((.int .i64 a0.Kind) : C) = (.int .i64 a0.Kind)) ∧ (((.int .i64 (0 : Int)) : C) = (.int .i64 (0 : Int))) ∧ (((.int .i64 (2 : Int)) : C) = (.int .i64 (2 : Int))) ∧ True) ∧ CallOK Try.prog 74 [.one (.int .i64 a0.Kind), .one (.int .i64 (0 : Int)), .one (.int .i64 (2 : Int))] [.one (.bool v4)]) ∧ True ∧ True ∧ (True ∧ (!v4) = true) ∧ True ∧ True ∧ True ∧ True ∧ True ∧ True ∧ True ∧ True ∧ True ∧ True ∧ True ∧ True ∧ True ∧ True ∧ True ∧ True) (by kernel_rfl) ⟨trivial, trivial, trivial, trivial, ⟨⟨rfl, rfl, rfl, trivial⟩, ok_spec_l00In K a0.Length (1 : Int) (1000 : Int) v1 e2⟩, trivial, ⟨trivial, b3⟩, trivial, trivial, trivial, trivial, ⟨⟨rfl, rfl, rfl, trivial⟩, ok_spec_l00In K a0.Kind (0 : Int) (2 : Int) v4 e5⟩, trivial, trivial, ⟨trivial, b6⟩, trivial, trivial, trivial, trivial, trivial, trivial, trivial, trivial, trivial, trivial, trivial, trivial, trivial, trivial, trivial, trivial⟩ ⟨rfl, rfl⟩
      · rcases ite2_cases e9 with ⟨b7, e9⟩ | ⟨b7, e9⟩
        · replace e9 := some_eq e9
          subst e9
          exact AW.regionA [.no, .no, .no, .no, .call [.one (.int .i64 a0.Length), .one (.int .i64 (1 : Int)), .one (.int .i64 (1000 : Int))] [.one (.bool v1)] [[.view]], .no, .dec false, .no, .no, .no, .no, .call [.one (.int .i64 a0.Kind), .one (.int .i64 (0 : Int)), .one (.int .i64 (2 : Int))] [.one (.bool v4)] [[.view]], .no, .no, .dec false, .no, .no, .no, .no, .no, .no, .no, .dec true] [0, 33] [] (s' := ⟨[(0, (.v (.one (.c (pl 4 cs_Clip a0))))), (33, (.v (.one (.c (.bool true)))))], []⟩) (ob := True ∧ True ∧ True ∧ True ∧ (((((.int .i64 a0.Length) : C) = (.int .i64 a0.Length)) ∧ (((.int .i64 (1 : Int)) : C) = (.int .i64 (1 : Int))) ∧ (((.int .i64 (1000 : Int)) : C) = (.int .i64 (1000 : Int))) ∧ True) ∧ CallOK Try.prog 74 [.one (.int .i64 a0.Length), .one (.int .i64 (1 : Int)), .one (.int .i64 (1000 : Int))] [.one (.bool v1)]) ∧ True ∧ (True ∧ (!v1) = false) ∧ True ∧ True ∧ True ∧ True ∧ (((((.int .i64 a0.Kind) : C) = (.int .i64 a0.Kind)) ∧ (((.int .i64 (0 : Int)) : C) = (.int .i64 (0 : Int))) ∧ (((.int .i64 (2 : Int)) : C) = (.int .i64 (2 : Int))) ∧ True) ∧ CallOK Try.prog 74 [.one (.int .i64 a0.Kind), .one (.int .i64 (0 : Int)), .one (.int .i64 (2 : Int))] [.one (.bool v4)]) ∧ True ∧ True ∧ (True ∧ (!v4) = false) ∧ True ∧ True ∧ True ∧ True ∧ True ∧ True ∧ True ∧ (True ∧ (decide ((a0.Tracks.length : Int) < (1 : Int))) = true) ∧ True ∧ True ∧ True ∧ True ∧ True ∧ True ∧ True ∧ True) (by kernel_rfl) ⟨trivial, trivial, trivial, trivial, ⟨⟨rfl, rfl, rfl, trivial⟩, ok_spec_l00In K a0.Length (1 : Int) (1000 : Int) v1 e2⟩, trivial, ⟨trivial, b3⟩, trivial, trivial, trivial, trivial, ⟨⟨rfl, rfl, rfl, trivial⟩, ok_spec_l00In K a0.Kind (0 : Int) (2 : Int) v4 e5⟩, trivial, trivial, ⟨trivial, b6⟩, trivial, trivial, trivial, trivial, trivial, trivial, trivial, ⟨trivial, b7⟩, trivial, trivial, trivial, trivial, trivial, trivial, trivial, trivial⟩ ⟨rfl, rfl⟩
        · replace e9 := some_eq e9
          subst e9
          exact AW.regionA [.no, .no, .no, .no, .call [.one (.int .i64 a0.Length), .one (.int .i64 (1 : Int)), .one (.int .i64 (1000 : Int))] [.one (.bool v1)] [[.view]], .no, .dec false, .no, .no, .no, .no, .call [.one (.int .i64 a0.Kind), .one (.int .i64 (0 : Int)), .one (.int .i64 (2 : Int))] [.one (.bool v4)] [[.view]], .no, .no, .dec false, .no, .no, .no, .no, .no, .no, .no, .dec false] [0, 33] [] (s' := ⟨[(0, (.v (.one (.c (pl 4 cs_Clip a0))))), (33, (.v (.one (.c (.bool (decide ((a0.Tracks.length : Int) > (12 : Int))))))))], []⟩) (ob := True ∧ True ∧ True ∧ True ∧ (((((.int .i64 a0.Length) : C) = (.int .i64 a0.Length)) ∧ (((.int .i64 (1 : Int)) : C) = (.int .i64 (1 : Int))) ∧ (((.int .i64 (1000 : Int)) : C) = (.int .i64 (1000 : Int))) ∧ True) ∧ CallOK Try.prog 74 [.one (.int .i64 a0.Length), .one (.int .i64 (1 : Int)), .one (.int .i64 (1000 : Int))] [.one (.bool v1)]) ∧ True ∧ (True ∧ (!v1) = false) ∧ True ∧ True ∧ True ∧ True ∧ (((((.int .i64 a0.Kind) : C) = (.int .i64 a0.Kind)) ∧ (((.int .i64 (0 : Int)) : C) = (.int .i64 (0 : Int))) ∧ (((.int .i64 (2 : Int)) : C) = (.int .i64 (2 : Int))) ∧ True) ∧ CallOK Try.prog 74 [.one (.int .i64 a0.Kind), .one (.int .i64 (0 : Int)), .one (.int .i64 (2 : Int))] [.one (.bool v4)]) ∧ True ∧ True ∧ (True ∧ (!v4) = false) ∧ True ∧ True ∧ True ∧ True ∧ True ∧ True ∧ True ∧ (True ∧ (decide ((a0.Tracks.length : Int) < (1 : Int))) = false) ∧ True ∧ True ∧ True ∧ True ∧ True ∧ True ∧ True ∧ True) (by kernel_rfl) ⟨trivial, trivial, trivial, trivial, ⟨⟨rfl, rfl, rfl, trivial⟩, ok_spec_l00In K a0.Length (1 : Int) (1000 : Int) v1 e2⟩, trivial, ⟨trivial, b3⟩, trivial, trivial, trivial, trivial, ⟨⟨rfl, rfl, rfl, trivial⟩, ok_spec_l00In K a0.Kind (0 : Int) (2 : Int) v4 e5⟩, trivial, trivial, ⟨trivial, b6⟩, trivial, trivial, trivial, trivial, trivial, trivial, trivial, ⟨trivial, b7⟩, trivial, trivial, trivial, trivial, trivial, trivial, trivial, trivial⟩ ⟨rfl, rfl⟩
  refine thenQ_normal ?_
  rcases ite2_cases h with ⟨b10, h⟩ | ⟨b10, h⟩
  · refine AW.cond_t rfl b10 ?_
    refine AW.seq ?_
    refine AW.regionA [] [2] [] (s' := ⟨[(2, (.v (.one (.c (.bool false)))))], []⟩) (ob := True ∧ True) (by kernel_rfl) ⟨trivial, trivial⟩ ?_
    refine thenQ_normal ?_
    refine AW.ret ?_
    refine thenQ_ret ?_
    replace h := some_eq h
    subst h
    exact ⟨.inr rfl, retOK_of [(.one (.c (.bool false)))] (by kernel_rfl) ⟨⟨rfl, trivial⟩, trivial⟩ (of_decide_eq_true (by kernel_rfl))⟩
  · refine AW.cond_f rfl b10 ?_
    refine AW.skip ?_
    refine thenQ_normal ?_
    refine AW.seq ?_
    refine AW.seq ?_
    refine AW.regionA [] [0, 38, 39] [] (s' := ⟨[(0, (.v (.one (.c (pl 4 cs_Clip a0))))), (38, (.v (.one (.c (.int .i64 (a0.Tracks.length : Int)))))), (39, (.v (.one (.c (.int .i64 (0 : Int))))))], []⟩) (ob := True ∧ True ∧ True ∧ True ∧ True ∧ True ∧ True) (by kernel_rfl) ⟨trivial, trivial, trivial, trivial, trivial, trivial, trivial⟩ ?_
    refine thenQ_normal ?_
    refine AW.block ?_
    refine AW.loopQ (σ := Nat × Int) (fun p => ⟨[(0, (.v (.one (.c (pl 4 cs_Clip a0))))), (38, (.v (.one (.c (.int .i64 (a0.Tracks.length : Int)))))), (39, (.v (.one (.c (.int .i64 p.2)))))], []⟩) (fun p => spec_l05Is_l1 K a0 p.1 p.2 = some o) (fun p => p.1) (K, (0 : Int)) h ?_
    clear h
    rintro ⟨k, x12⟩ h
    replace h : spec_l05Is_l1 K a0 k x12 = some o := h
    show AW _ _ (⟨[(0, (.v (.one (.c (pl 4 cs_Clip a0))))), (38, (.v (.one (.c (.int .i64 (a0.Tracks.length : Int)))))), (39, (.v (.one (.c (.int .i64 x12)))))], []⟩ : St) _
    obtain _ | k := k
    · rw [spec_l05Is_l1] at h; cases h
    rw [spec_l05Is_l1] at h
    refine AW.seq ?_
    refine AW.regionA [] [0, 38, 39, 40] [] (s' := ⟨[(0, (.v (.one (.c (pl 4 cs_Clip a0))))), (38, (.v (.one (.c (.int .i64 (a0.Tracks.length : Int)))))), (39, (.v (.one (.c (.int .i64 x12))))), (40, (.v (.one (.c (.bool (decide (x12 < (a0.Tracks.length : Int))))))))], []⟩) (ob := True ∧ True) (by kernel_rfl) ⟨trivial, trivial⟩ ?_
    refine thenQ_normal ?_
    refine AW.seq ?_
    rcases ite2_cases h with ⟨b13, h⟩ | ⟨b13, h⟩
    · refine AW.cond_t rfl b13 ?_
      refine AW.skip ?_
      refine thenQ_normal ?_
      refine AW.seq ?_
      refine AW.block ?_
      refine AW.seq ?_
      refine AW.regionA [] [0, 3, 38, 39] [] (s' := ⟨[(0, (.v (.one (.c (pl 4 cs_Clip a0))))), (3, (.v (.one (.c (.int .i64 x12))))), (38, (.v (.one (.c (.int .i64 (a0.Tracks.length : Int)))))), (39, (.v (.one (.c (.int .i64 x12)))))], []⟩) (ob := True ∧ True ∧ True) (by kernel_rfl) ⟨trivial, trivial, trivial⟩ ?_
      refine thenQ_normal ?_
      refine AW.seq ?_
      obtain ⟨c14, h⟩ := chk_some h
      obtain ⟨v15, e16, h⟩ := bind_some h
      obtain ⟨v17, e18, h⟩ := bind_some h
      refine AW.drawnA (by kernel_rfl) 14 [.no, .no, .no, .no, .no, .no, .no, .call [.one (sl 5 cs_Key (a0.Tracks.getD x12.toNat default))] [.one (sl 1 (csI .i64) v15)] [[.lst 3]], .no, .no, .no, .no, .call [.one (sl 1 (csI .i64) v15), .one (.int .i64 a0.Length)] [.one (.bool v17)] [[.view]]] [0, 38, 39, 55] [] (s' := ⟨[(0, (.v (.one (.c (pl 4 cs_Clip a0))))), (38, (.v (.one (.c (.int .i64 (a0.Tracks.length : Int)))))), (39, (.v (.one (.c (.int .i64 x12))))), (55, (.v (.one (.c (.bool (!v17))))))], []⟩) (ob := (True ∧ True ∧ True ∧ True ∧ True ∧ (0 ≤ x12 ∧ x12 < (a0.Tracks.length : Int)) ∧ True ∧ (((((sl 5 cs_Key (a0.Tracks.getD x12.toNat default)) : C) = (sl 5 cs_Key (a0.Tracks.getD x12.toNat default))) ∧ True) ∧ CallOK Try.prog 135 [.one (sl 5 cs_Key (a0.Tracks.getD x12.toNat default))] [.one (sl 1 (csI .i64) v15)]) ∧ True ∧ True ∧ True ∧ True ∧ (((((sl 1 (csI .i64) v15) : C) = (sl 1 (csI .i64) v15)) ∧ (((.int .i64 a0.Length) : C) = (.int .i64 a0.Length)) ∧ True) ∧ CallOK Try.prog 134 [.one (sl 1 (csI .i64) v15), .one (.int .i64 a0.Length)] [.one (.bool v17)]) ∧ True ∧ True) ∧ (True)) (by kernel_rfl) ⟨⟨trivial, trivial, trivial, trivial, trivial, c14, trivial, ⟨⟨rfl, trivial⟩, ok_spec_l05At K (a0.Tracks.getD x12.toNat default) v15 e16⟩, trivial, trivial, trivial, trivial, ⟨⟨rfl, rfl, trivial⟩, ok_spec_l05Times K v15 a0.Length v17 e18⟩, trivial, trivial⟩, trivial⟩ ?_
      refine thenQ_normal ?_
      rcases ite2_cases h with ⟨b19, h⟩ | ⟨b19, h⟩
      · refine AW.cond_t rfl b19 ?_
        refine AW.seq ?_
        refine AW.regionA [] [2] [] (s' := ⟨[(2, (.v (.one (.c (.bool false)))))], []⟩) (ob := True ∧ True) (by kernel_rfl) ⟨trivial, trivial⟩ ?_
        refine thenQ_normal ?_
        refine AW.ret ?_
        refine blockQ_ret ?_
        refine thenQ_ret ?_
        refine loopQ_ret ?_
        refine blockQ_ret ?_
        refine thenQ_ret ?_
        replace h := some_eq h
        subst h
        exact ⟨.inr rfl, retOK_of [(.one (.c (.bool false)))] (by kernel_rfl) ⟨⟨rfl, trivial⟩, trivial⟩ (of_decide_eq_true (by kernel_rfl))⟩
      · refine AW.cond_f rfl b19 ?_
        refine AW.skip ?_
        refine blockQ_normal ?_
        refine thenQ_normal ?_
        refine AW.regionA [] [0, 38, 39] [] (s' := ⟨[(0, (.v (.one (.c (pl 4 cs_Clip a0))))), (38, (.v (.one (.c (.int .i64 (a0.Tracks.length : Int)))))), (39, (.v (.one (.c (.int .i64 (IntKind.i64.wrap (x12 + (1 : Int))))))))], []⟩) (ob := True ∧ True ∧ True) (by kernel_rfl) ⟨trivial, trivial, trivial⟩ ?_
        exact loopQ_normal (k, (IntKind.i64.wrap (x12 + (1 : Int)))) h (Nat.lt_succ_self k) (Sub.keep [0, 38, 39] [] (by kernel_rfl) (by kernel_rfl))
    · refine AW.cond_f rfl b13 ?_
      refine AW.exit ?_
      refine thenQ_exit ?_
      refine loopQ_exit ?_
      refine blockQ_exit ?_
      refine thenQ_normal ?_
      refine AW.seq ?_
      obtain ⟨v20, e21, h⟩ := bind_some h
      obtain ⟨v22, e23, h⟩ := bind_some h
      refine AW.drawnA (by kernel_rfl) 11 [.no, .no, .no, .no, .call [.one (sl 4 cs_RootKey a0.Roots)] [.one (sl 1 (csI .i64) v20)] [[.lst 4]], .no, .no, .no, .no, .call [.one (sl 1 (csI .i64) v20), .one (.int .i64 a0.Length)] [.one (.bool v22)] [[.view]]] [2] [] (s' := ⟨[(2, (.v (.one (.c (.bool v22)))))], []⟩) (ob := (True ∧ True ∧ True ∧ True ∧ (((((sl 4 cs_RootKey a0.Roots) : C) = (sl 4 cs_RootKey a0.Roots)) ∧ True) ∧ CallOK Try.prog 136 [.one (sl 4 cs_RootKey a0.Roots)] [.one (sl 1 (csI .i64) v20)]) ∧ True ∧ True ∧ True ∧ True ∧ (((((sl 1 (csI .i64) v20) : C) = (sl 1 (csI .i64) v20)) ∧ (((.int .i64 a0.Length) : C) = (.int .i64 a0.Length)) ∧ True) ∧ CallOK Try.prog 134 [.one (sl 1 (csI .i64) v20), .one (.int .i64 a0.Length)] [.one (.bool v22)]) ∧ True ∧ True) ∧ (True)) (by kernel_rfl) ⟨⟨trivial, trivial, trivial, trivial, ⟨⟨rfl, trivial⟩, ok_spec_l05RootAt K a0.Roots v20 e21⟩, trivial, trivial, trivial, trivial, ⟨⟨rfl, rfl, trivial⟩, ok_spec_l05Times K v20 a0.Length v22 e23⟩, trivial, trivial⟩, trivial⟩ ?_
      refine thenQ_normal ?_
      refine AW.ret ?_
      replace h := some_eq h
      subst h
      exact ⟨.inr rfl, retOK_of [(.one (.c (.bool v22)))] (by kernel_rfl) ⟨⟨rfl, trivial⟩, trivial⟩ (of_decide_eq_true (by kernel_rfl))⟩

/-! spec.l03Mirror -/
def spec_l03Mirror (_K : Nat) (a0 : Vector) : Option (Vector) :=
  some (Vector.mk (a0.X.neg) a0.Y a0.Z)

theorem ok_spec_l03Mirror (K : Nat) (a0 : Vector) (o : (Vector)) (h : spec_l03Mirror K a0 = some o) : CallOK Try.prog 98 [.agg (cs_Vector a0)] [.agg (cs_Vector o)] := by
  refine callOK_of_AW Try.func98 rfl (by kernel_rfl) (Nat.le_of_ble_eq_true (by kernel_rfl)) ?_
  intro w0
  unfold spec_l03Mirror at h
  refine AW.seq ?_
  refine AW.regionA [.box 1, .box 2] [1, 2] [1, 2] (s' := ⟨[(1, (.v (.one (.ptr 1 0)))), (2, (.v (.one (.ptr 2 0))))], [(1, (.box [(.c (.flt .f32 a0.X.bits)), (.c (.flt .f32 a0.Y.bits)), (.c (.flt .f32 a0.Z.bits))])), (2, (.box [(.c (.flt .f32 (default : F32).bits)), (.c (.flt .f32 (default : F32).bits)), (.c (.flt .f32 (default : F32).bits))]))]⟩) (ob := True ∧ True ∧ True) (by kernel_rfl) ⟨trivial, trivial, trivial⟩ ?_
  refine thenQ_normal ?_
  refine AW.seq ?_
  refine AW.regionA [] [2] [2] (s' := ⟨[(2, (.v (.one (.ptr 2 0))))], [(2, (.box [(.c (.flt .f32 (a0.X.neg).bits)), (.c (.flt .f32 a0.Y.bits)), (.c (.flt .f32 a0.Z.bits))]))]⟩) (ob := True ∧ True ∧ True ∧ True ∧ True ∧ True ∧ True ∧ True ∧ True ∧ True) (by kernel_rfl) ⟨trivial, trivial, trivial, trivial, trivial, trivial, trivial, trivial, trivial, trivial⟩ ?_
  refine thenQ_normal ?_
  refine AW.ret ?_
  replace h := some_eq h
  subst h
  exact ⟨.inr rfl, retOK_of [(.agg [(.c (.flt .f32 (a0.X.neg).bits)), (.c (.flt .f32 a0.Y.bits)), (.c (.flt .f32 a0.Z.bits))])] (by kernel_rfl) ⟨⟨⟨rfl, trivial⟩, ⟨rfl, trivial⟩, ⟨rfl, trivial⟩, trivial⟩, trivial⟩ (of_decide_eq_true (by kernel_rfl))⟩

/-! spec.MirrorClip -/
def spec_MirrorClip_l5 (K : Nat) (a1 : Clip) (a2 : (List Int)) (x15 : Int) : Nat → Int → (List Key) → Option ((List Key))
  | 0, _, _ => none
  | k + 1, x33, x34 => ite2 ((decide (x33 < ((([] : List Key) ++ (a1.Tracks.getD ((a2.getD x15.toNat default).toNat) default)).length : Int)))) (chk (0 ≤ x33 ∧ x33 < (x34.length : Int)) ((some (x34.set x33.toNat (Key.mk ((x34.getD x33.toNat default).At) (Turn.mk (((x34.getD x33.toNat default).Turn).W) (((x34.getD x33.toNat default).Turn).X) ((((x34.getD x33.toNat default).Turn).Y).neg) ((((x34.getD x33.toNat default).Turn).Z).neg))))).bind fun y37 => spec_MirrorClip_l5 K a1 a2 x15 k (IntKind.i64.wrap (x33 + (1 : Int))) y37)) (some x34)

def spec_MirrorClip_l6 (K : Nat) (a1 : Clip) (x16 : (List (List Key))) : Nat → Int → (List RootKey) → Option (Clip × Bool)
  | 0, _, _ => none
  | k + 1, x42, x43 => ite2 ((decide (x42 < (a1.Roots.length : Int)))) (chk (0 ≤ x42 ∧ x42 < (a1.Roots.length : Int)) ((spec_l03Mirror K ((a1.Roots.getD x42.toNat default).Place)).bind fun v46 => chk ((x43.length + ([(RootKey.mk ((a1.Roots.getD x42.toNat default).At) v46)]).length) * 24 ≤ 140737488355328) (spec_MirrorClip_l6 K a1 x16 k (IntKind.i64.wrap (x42 + (1 : Int))) (x43 ++ ([(RootKey.mk ((a1.Roots.getD x42.toNat default).At) v46)]))))) (some ((Clip.mk a1.Length a1.Kind x16 x43), true))

def spec_MirrorClip_l4 (K : Nat) (a1 : Clip) (a2 : (List Int)) : Nat → Int → (List (List Key)) → Option (Clip × Bool)
  | 0, _, _ => none
  | k + 1, x15, x16 => ite2 ((decide (x15 < (a2.length : Int)))) (chk (0 ≤ x15 ∧ x15 < (a2.length : Int)) (chk (0 ≤ (a2.getD x15.toNat default) ∧ (a2.getD x15.toNat default) < (a1.Tracks.length : Int)) (chk ((([] : List Key).length + (a1.Tracks.getD ((a2.getD x15.toNat default).toNat) default).length) * 24 ≤ 140737488355328) ((spec_MirrorClip_l5 K a1 a2 x15 K (0 : Int) (([] : List Key) ++ (a1.Tracks.getD ((a2.getD x15.toNat default).toNat) default))).bind fun j29 => chk ((x16.length + ([j29]).length) * 24 ≤ 140737488355328) (spec_MirrorClip_l4 K a1 a2 k (IntKind.i64.wrap (x15 + (1 : Int))) (x16 ++ ([j29]))))))) (spec_MirrorClip_l6 K a1 x16 K (0 : Int) ([] : (List RootKey)))

def spec_MirrorClip (K : Nat) (a0 : Skeleton) (a1 : Clip) (a2 : (List Int)) : Option (Clip × Bool) :=
  (spec_l03Is K a0).bind fun v1 => (ite2 ((!v1)) (some true) ((spec_l03Pairs K a0 a2).bind fun v4 => ite2 ((!v4)) (some true) ((spec_l05Is K a1).bind fun v7 => ite2 ((!v7)) (some true) (some ((a1.Tracks.length : Int) != (a2.length : Int)))))).bind fun j10 => ite2 (j10) (some ((Clip.mk (0 : Int) (0 : Int) ([] : (List (List Key))) ([] : (List RootKey))), false)) (spec_MirrorClip_l4 K a1 a2 K (0 : Int) ([] : (List (List Key))))

theorem ok_spec_MirrorClip (K : Nat) (a0 : Skeleton) (a1 : Clip) (a2 : (List Int)) (o : (Clip × Bool)) (h : spec_MirrorClip K a0 a1 a2 = some o) : CallOK Try.prog 27 [.agg (cs_Skeleton a0), .agg (cs_Clip a1), .one (sl 1 (csI .i64) a2)] [.agg (cs_Clip o.1), .one (.bool o.2)] := by
  refine callOK_of_AW Try.func27 rfl (by kernel_rfl) (Nat.le_of_ble_eq_true (by kernel_rfl)) ?_
  intro w0
  unfold spec_MirrorClip at h
  refine AW.seq ?_
  refine AW.regionA [.box 1, .box 2, .box 3] [2, 3, 4, 6] [1, 2, 3] (s' := ⟨[(2, (.v (.one (.c (sl 1 (csI .i64) a2))))), (3, (.v (.one (.ptr 1 0)))), (4, (.v (.one (.ptr 2 0)))), (6, (.v (.one (.ptr 3 0))))], [(1, (.box [(.c (sl 4 cs_Bone a0.Bones))])), (2, (.box [(.c (.int .i64 a1.Length)), (.c (.int .i64 a1.Kind)), (.c (sl 1 (csL 5 cs_Key) a1.Tracks)), (.c (sl 4 cs_RootKey a1.Roots))])), (3, (.box [(.c (.int .i64 (0 : Int))), (.c (.int .i64 (0 : Int))), .nils, .nils]))]⟩) (ob := True ∧ True ∧ True ∧ True ∧ True) (by kernel_rfl) ⟨trivial, trivial, trivial, trivial, trivial⟩ ?_
  refine thenQ_normal ?_
  refine AW.seq ?_
  refine AW.seq ?_
  obtain ⟨v1, e2, h⟩ := bind_some h
  obtain ⟨j10, e11, h⟩ := bind_some h
  refine AW.join1 (s2 := ⟨[(2, (.v (.one (.c (sl 1 (csI .i64) a2))))), (4, (.v (.one (.ptr 2 0)))), (6, (.v (.one (.ptr 3 0)))), (32, (.v (.one (.c (.bool j10)))))], [(2, (.box [(.c (.int .i64 a1.Length)), (.c (.int .i64 a1.Kind)), (.c (sl 1 (csL 5 cs_Key) a1.Tracks)), (.c (sl 4 cs_RootKey a1.Roots))])), (3, (.box [(.c (.int .i64 (0 : Int))), (.c (.int .i64 (0 : Int))), .nils, .nils]))]⟩) ?_ ?_
  · rcases ite2_cases e11 with ⟨b3, e11⟩ | ⟨b3, e11⟩
    · replace e11 := some_eq e11
      subst e11
      exact AW.regionA [.call [.one (pl 1 cs_Skeleton a0)] [.one (.bool v1)] [[.view]], .no, .dec true] [2, 4, 6, 32] [2, 3] (s' := ⟨[(2, (.v (.one (.c (sl 1 (csI .i64) a2))))), (4, (.v (.one (.ptr 2 0)))), (6, (.v (.one (.ptr 3 0)))), (32, (.v (.one (.c (.bool true)))))], [(2, (.box [(.c (.int .i64 a1.Length)), (.c (.int .i64 a1.Kind)), (.c (sl 1 (csL 5 cs_Key) a1.Tracks)), (.c (sl 4 cs_RootKey a1.Roots))])), (3, (.box [(.c (.int .i64 (0 : Int))), (.c (.int .i64 (0 : Int))), .nils, .nils]))]⟩) (ob := (((0 = 0 ∧ (((sl 4 cs_Bone a0.Bones) : C) = (sl 4 cs_Bone a0.Bones)) ∧ True) ∧ True) ∧ CallOK Try.prog 96 [.one (pl 1 cs_Skeleton a0)] [.one (.bool v1)]) ∧ True ∧ (True ∧ (!v1) = true) ∧ True ∧ True ∧ True ∧ True ∧ True ∧ True ∧ True ∧ True ∧ True ∧ True ∧ True ∧ True ∧ True ∧ True ∧ True ∧ True ∧ True) (by kernel_rfl) ⟨⟨⟨⟨rfl, rfl, trivial⟩, trivial⟩, ok_spec_l03Is K a0 v1 e2⟩, trivial, ⟨trivial, b3⟩, trivial, trivial, trivial, trivial, trivial, trivial, trivial, trivial, trivial, trivial, trivial, trivial, trivial, trivial, trivial, trivial, trivial⟩ ⟨rfl, rfl⟩
    · obtain ⟨v4, e5, e11⟩ := bind_some e11
      rcases ite2_cases e11 with ⟨b6, e11⟩ | ⟨b6, e11⟩
      · replace e11 := some_eq e11
        subst e11
        exact AW.regionA [.call [.one (pl 1 cs_Skeleton a0)] [.one (.bool v1)] [[.view]], .no, .dec false, .no, .call [.one (pl 1 cs_Skeleton a0), .one (sl 1 (csI .i64) a2)] [.one (.bool v4)] [[.view]], .no, .no, .dec true] [2, 4, 6, 32] [2, 3] (s' := ⟨[(2, (.v (.one (.c (sl 1 (csI .i64) a2))))), (4, (.v (.one (.ptr 2 0)))), (6, (.v (.one (.ptr 3 0)))), (32, (.v (.one (.c (.bool true)))))], [(2, (.box [(.c (.int .i64 a1.Length)), (.c (.int .i64 a1.Kind)), (.c (sl 1 (csL 5 cs_Key) a1.Tracks)), (.c (sl 4 cs_RootKey a1.Roots))])), (3, (.box [(.c (.int .i64 (0 : Int))), (.c (.int .i64 (0 : Int))), .nils, .nils]))]⟩) (ob := (((0 = 0 ∧ (((sl 4 cs_Bone a0.Bones) : C) = (sl 4 cs_Bone a0.Bones)) ∧ True) ∧ True) ∧ CallOK Try.prog 96 [.one (pl 1 cs_Skeleton a0)] [.one (.bool v1)]) ∧ True ∧ (True ∧ (!v1) = false) ∧ True ∧ (((0 = 0 ∧ (((sl 4 cs_Bone a0.Bones) : C) = (sl 4 cs_Bone a0.Bones)) ∧ True) ∧ (((sl 1 (csI .i64) a2) : C) = (sl 1 (csI .i64) a2)) ∧ True) ∧ CallOK Try.prog 97 [.one (pl 1 cs_Skeleton a0), .one (sl 1 (csI .i64) a2)] [.one (.bool v4)]) ∧ True ∧ True ∧ (True ∧ (!v4) = true) ∧ True ∧ True ∧ True ∧ True ∧ True ∧ True ∧ True ∧ True ∧ True ∧ True ∧ True ∧ True) (by kernel_rfl) ⟨⟨⟨⟨rfl, rfl, trivial⟩, trivial⟩, ok_spec_l03Is K a0 v1 e2⟩, trivial, ⟨trivial, b3⟩, trivial, ⟨⟨⟨rfl, rfl, trivial⟩, rfl, trivial⟩, ok_spec_l03Pairs K a0 a2 v4 e5⟩, trivial, trivial, ⟨trivial, b6⟩, trivial, trivial, trivial, trivial, trivial, trivial, trivial, trivial, trivial, trivial, trivial, trivial⟩ ⟨rfl, rfl⟩
      · obtain ⟨v7, e8, e11⟩ := bind_some e11
        rcases ite2_cases e11 with ⟨b9, e11⟩ | ⟨b9, e11⟩
        · replace e11 := some_eq e11
          subst e11
          exact AW.regionA [.call [.one (pl 1 cs_Skeleton a0)] [.one (.bool v1)] [[.view]], .no, .dec false, .no, .call [.one (pl 1 cs_Skeleton a0), .one (sl 1 (csI .i64) a2)] [.one (.bool v4)] [[.view]], .no, .no, .dec false, .call [.one (pl 4 cs_Clip a1)] [.one (.bool v7)] [[.view]], .no, .no, .dec true] [2, 4, 6, 32] [2, 3] (s' := ⟨[(2, (.v (.one (.c (sl 1 (csI .i64) a2))))), (4, (.v (.one (.ptr 2 0)))), (6, (.v (.one (.ptr 3 0)))), (32, (.v (.one (.c (.bool true)))))], [(2, (.box [(.c (.int .i64 a1.Length)), (.c (.int .i64 a1.Kind)), (.c (sl 1 (csL 5 cs_Key) a1.Tracks)), (.c (sl 4 cs_RootKey a1.Roots))])), (3, (.box [(.c (.int .i64 (0 : Int))), (.c (.int .i64 (0 : Int))), .nils, .nils]))]⟩) (ob := (((0 = 0 ∧ (((sl 4 cs_Bone a0.Bones) : C) = (sl 4 cs_Bone a0.Bones)) ∧ True) ∧ True) ∧ CallOK Try.prog 96 [.one (pl 1 cs_Skeleton a0)] [.one (.bool v1)]) ∧ True ∧ (True ∧ (!v1) = false) ∧ True ∧ (((0 = 0 ∧ (((sl 4 cs_Bone a0.Bones) : C) = (sl 4 cs_Bone a0.Bones)) ∧ True) ∧ (((sl 1 (csI .i64) a2) : C) = (sl 1 (csI .i64) a2)) ∧ True) ∧ CallOK Try.prog 97 [.one (pl 1 cs_Skeleton a0), .one (sl 1 (csI .i64) a2)] [.one (.bool v4)]) ∧ True ∧ True ∧ (True ∧ (!v4) = false) ∧ (((0 = 0 ∧ (((.int .i64 a1.Length) : C) = (.int .i64 a1.Length)) ∧ (((.int .i64 a1.Kind) : C) = (.int .i64 a1.Kind)) ∧ (((sl 1 (csL 5 cs_Key) a1.Tracks) : C) = (sl 1 (csL 5 cs_Key) a1.Tracks)) ∧ (((sl 4 cs_RootKey a1.Roots) : C) = (sl 4 cs_RootKey a1.Roots)) ∧ True) ∧ True) ∧ CallOK Try.prog 60 [.one (pl 4 cs_Clip a1)] [.one (.bool v7)]) ∧ True ∧ True ∧ (True ∧ (!v7) = true) ∧ True ∧ True ∧ True ∧ True ∧ True ∧ True ∧ True ∧ True) (by kernel_rfl) ⟨⟨⟨⟨rfl, rfl, trivial⟩, trivial⟩, ok_spec_l03Is K a0 v1 e2⟩, trivial, ⟨trivial, b3⟩, trivial, ⟨⟨⟨rfl, rfl, trivial⟩, rfl, trivial⟩, ok_spec_l03Pairs K a0 a2 v4 e5⟩, trivial, trivial, ⟨trivial, b6⟩, ⟨⟨⟨rfl, rfl, rfl, rfl, rfl, trivial⟩, trivial⟩, ok_spec_l05Is K a1 v7 e8⟩, trivial, trivial, ⟨trivial, b9⟩, trivial, trivial, trivial, trivial, trivial, trivial, trivial, trivial⟩ ⟨rfl, rfl⟩
        · replace e11 := some_eq e11
          subst e11
          exact AW.regionA [.call [.one (pl 1 cs_Skeleton a0)] [.one (.bool v1)] [[.view]], .no, .dec false, .no, .call [.one (pl 1 cs_Skeleton a0), .one (sl 1 (csI .i64) a2)] [.one (.bool v4)] [[.view]], .no, .no, .dec false, .call [.one (pl 4 cs_Clip a1)] [.one (.bool v7)] [[.view]], .no, .no, .dec false] [2, 4, 6, 32] [2, 3] (s' := ⟨[(2, (.v (.one (.c (sl 1 (csI .i64) a2))))), (4, (.v (.one (.ptr 2 0)))), (6, (.v (.one (.ptr 3 0)))), (32, (.v (.one (.c (.bool ((a1.Tracks.length : Int) != (a2.length : Int)))))))], [(2, (.box [(.c (.int .i64 a1.Length)), (.c (.int .i64 a1.Kind)), (.c (sl 1 (csL 5 cs_Key) a1.Tracks)), (.c (sl 4 cs_RootKey a1.Roots))])), (3, (.box [(.c (.int .i64 (0 : Int))), (.c (.int .i64 (0 : Int))), .nils, .nils]))]⟩) (ob := (((0 = 0 ∧ (((sl 4 cs_Bone a0.Bones) : C) = (sl 4 cs_Bone a0.Bones)) ∧ True) ∧ True) ∧ CallOK Try.prog 96 [.one (pl 1 cs_Skeleton a0)] [.one (.bool v1)]) ∧ True ∧ (True ∧ (!v1) = false) ∧ True ∧ (((0 = 0 ∧ (((sl 4 cs_Bone a0.Bones) : C) = (sl 4 cs_Bone a0.Bones)) ∧ True) ∧ (((sl 1 (csI .i64) a2) : C) = (sl 1 (csI .i64) a2)) ∧ True) ∧ CallOK Try.prog 97 [.one (pl 1 cs_Skeleton a0), .one (sl 1 (csI .i64) a2)] [.one (.bool v4)]) ∧ True ∧ True ∧ (True ∧ (!v4) = false) ∧ (((0 = 0 ∧ (((.int .i64 a1.Length) : C) = (.int .i64 a1.Length)) ∧ (((.int .i64 a1.Kind) : C) = (.int .i64 a1.Kind)) ∧ (((sl 1 (csL 5 cs_Key) a1.Tracks) : C) = (sl 1 (csL 5 cs_Key) a1.Tracks)) ∧ (((sl 4 cs_RootKey a1.Roots) : C) = (sl 4 cs_RootKey a1.Roots)) ∧ True) ∧ True) ∧ CallOK Try.prog 60 [.one (pl 4 cs_Clip a1)] [.one (.bool v7)]) ∧ True ∧ True ∧ (True ∧ (!v7) = false) ∧ True ∧ True ∧ True ∧ True ∧ True ∧ True ∧ True ∧ True) (by kernel_rfl) ⟨⟨⟨⟨rfl, rfl, trivial⟩, trivial⟩, ok_spec_l03Is K a0 v1 e2⟩, trivial, ⟨trivial, b3⟩, trivial, ⟨⟨⟨rfl, rfl, trivial⟩, rfl, trivial⟩, ok_spec_l03Pairs K a0 a2 v4 e5⟩, trivial, trivial, ⟨trivial, b6⟩, ⟨⟨⟨rfl, rfl, rfl, rfl, rfl, trivial⟩, trivial⟩, ok_spec_l05Is K a1 v7 e8⟩, trivial, trivial, ⟨trivial, b9⟩, trivial, trivial, trivial, trivial, trivial, trivial, trivial, trivial⟩ ⟨rfl, rfl⟩
  refine thenQ_normal ?_
  rcases ite2_cases h with ⟨b12, h⟩ | ⟨b12, h⟩
  · refine AW.cond_t rfl b12 ?_
    refine AW.seq ?_
    refine AW.regionA [] [6, 7] [3] (s' := ⟨[(6, (.v (.one (.ptr 3 0)))), (7, (.v (.one (.c (.bool false)))))], [(3, (.box [(.c (.int .i64 (0 : Int))), (.c (.int .i64 (0 : Int))), .nils, .nils]))]⟩) (ob := True ∧ True ∧ True ∧ True) (by kernel_rfl) ⟨trivial, trivial, trivial, trivial⟩ ?_
    refine thenQ_normal ?_
    refine AW.ret ?_
    refine thenQ_ret ?_
    replace h := some_eq h
    subst h
    exact ⟨.inr rfl, retOK_of [(.agg [(.c (.int .i64 (0 : Int))), (.c (.int .i64 (0 : Int))), .nils, .nils]), (.one (.c (.bool false)))] (by kernel_rfl) ⟨⟨⟨rfl, trivial⟩, ⟨rfl, trivial⟩, rfl, rfl, trivial⟩, ⟨rfl, trivial⟩, trivial⟩ (of_decide_eq_true (by kernel_rfl))⟩
  · refine AW.cond_f rfl b12 ?_
    refine AW.skip ?_
    refine thenQ_normal ?_
    refine AW.seq ?_
    refine AW.regionA [.no, .no, .no, .no, .no, .box 4] [2, 4, 6, 8] [2, 3, 4] (s' := ⟨[(2, (.v (.one (.c (sl 1 (csI .i64) a2))))), (4, (.v (.one (.ptr 2 0)))), (6, (.v (.one (.ptr 3 0)))), (8, (.v (.one (.ptr 4 0))))], [(2, (.box [(.c (.int .i64 a1.Length)), (.c (.int .i64 a1.Kind)), (.c (sl 1 (csL 5 cs_Key) a1.Tracks)), (.c (sl 4 cs_RootKey a1.Roots))])), (3, (.box [(.c (.int .i64 (0 : Int))), (.c (.int .i64 (0 : Int))), .nils, .nils])), (4, (.box [(.c (.int .i64 a1.Length)), (.c (.int .i64 a1.Kind)), .nils, .nils]))]⟩) (ob := True ∧ True ∧ True ∧ True ∧ True ∧ True ∧ True ∧ True) (by kernel_rfl) ⟨trivial, trivial, trivial, trivial, trivial, trivial, trivial, trivial⟩ ?_
    refine thenQ_normal ?_
    refine AW.seq ?_
    refine AW.seq ?_
    refine AW.regionA [] [2, 4, 6, 8, 40, 41] [2, 3, 4] (s' := ⟨[(2, (.v (.one (.c (sl 1 (csI .i64) a2))))), (4, (.v (.one (.ptr 2 0)))), (6, (.v (.one (.ptr 3 0)))), (8, (.v (.one (.ptr 4 0)))), (40, (.v (.one (.c (.int .i64 (a2.length : Int)))))), (41, (.v (.one (.c (.int .i64 (0 : Int))))))], [(2, (.box [(.c (.int .i64 a1.Length)), (.c (.int .i64 a1.Kind)), (.c (sl 1 (csL 5 cs_Key) a1.Tracks)), (.c (sl 4 cs_RootKey a1.Roots))])), (3, (.box [(.c (.int .i64 (0 : Int))), (.c (.int .i64 (0 : Int))), .nils, .nils])), (4, (.box [(.c (.int .i64 a1.Length)), (.c (.int .i64 a1.Kind)), .nils, .nils]))]⟩) (ob := True ∧ True ∧ True ∧ True) (by kernel_rfl) ⟨trivial, trivial, trivial, trivial⟩ ?_
    refine thenQ_normal ?_
    refine AW.block ?_
    refine AW.weak (s' := ⟨[(2, (.v (.one (.c (sl 1 (csI .i64) a2))))), (4, (.v (.one (.ptr 2 0)))), (6, (.v (.one (.ptr 3 0)))), (8, (.v (.one (.ptr 4 0)))), (40, (.v (.one (.c (.int .i64 (a2.length : Int)))))), (41, (.v (.one (.c (.int .i64 (0 : Int))))))], [(2, (.box [(.c (.int .i64 a1.Length)), (.c (.int .i64 a1.Kind)), (.c (sl 1 (csL 5 cs_Key) a1.Tracks)), (.c (sl 4 cs_RootKey a1.Roots))])), (3, (.box [(.c (.int .i64 (0 : Int))), (.c (.int .i64 (0 : Int))), .nils, .nils])), (4, (.box [(.c (.int .i64 a1.Length)), (.c (.int .i64 a1.Kind)), (.lst 15 ([] : (List (List Key))).length 1 (gl (csL 5 cs_Key) ([] : (List (List Key))))), .nils])), (15, (.lst ([] : (List (List Key))).length 1 (gl (csL 5 cs_Key) ([] : (List (List Key))))))]⟩) (Sub.trans (Sub.unnil 15 1 (gl (csL 5 cs_Key) ([] : (List (List Key)))) [] [(4, 2)] _ (by kernel_rfl) (by kernel_rfl)) (Sub.keep [2, 4, 6, 8, 40, 41] [2, 3, 4, 15] (by kernel_rfl) (by kernel_rfl))) ?_
    refine AW.loopQ (σ := Nat × Int × (List (List Key))) (fun p => ⟨[(2, (.v (.one (.c (sl 1 (csI .i64) a2))))), (4, (.v (.one (.ptr 2 0)))), (6, (.v (.one (.ptr 3 0)))), (8, (.v (.one (.ptr 4 0)))), (40, (.v (.one (.c (.int .i64 (a2.length : Int)))))), (41, (.v (.one (.c (.int .i64 p.2.1)))))], [(2, (.box [(.c (.int .i64 a1.Length)), (.c (.int .i64 a1.Kind)), (.c (sl 1 (csL 5 cs_Key) a1.Tracks)), (.c (sl 4 cs_RootKey a1.Roots))])), (3, (.box [(.c (.int .i64 (0 : Int))), (.c (.int .i64 (0 : Int))), .nils, .nils])), (4, (.box [(.c (.int .i64 a1.Length)), (.c (.int .i64 a1.Kind)), (.lst 15 p.2.2.length 1 (gl (csL 5 cs_Key) p.2.2)), .nils])), (15, (.lst p.2.2.length 1 (gl (csL 5 cs_Key) p.2.2)))]⟩) (fun p => spec_MirrorClip_l4 K a1 a2 p.1 p.2.1 p.2.2 = some o) (fun p => p.1) (K, (0 : Int), ([] : (List (List Key)))) h ?_
    clear h
    rintro ⟨k, x15, x16⟩ h
    replace h : spec_MirrorClip_l4 K a1 a2 k x15 x16 = some o := h
    show AW _ _ (⟨[(2, (.v (.one (.c (sl 1 (csI .i64) a2))))), (4, (.v (.one (.ptr 2 0)))), (6, (.v (.one (.ptr 3 0)))), (8, (.v (.one (.ptr 4 0)))), (40, (.v (.one (.c (.int .i64 (a2.length : Int)))))), (41, (.v (.one (.c (.int .i64 x15)))))], [(2, (.box [(.c (.int .i64 a1.Length)), (.c (.int .i64 a1.Kind)), (.c (sl 1 (csL 5 cs_Key) a1.Tracks)), (.c (sl 4 cs_RootKey a1.Roots))])), (3, (.box [(.c (.int .i64 (0 : Int))), (.c (.int .i64 (0 : Int))), .nils, .nils])), (4, (.box [(.c (.int .i64 a1.Length)), (.c (.int .i64 a1.Kind)), (.lst 15 x16.length 1 (gl (csL 5 cs_Key) x16)), .nils])), (15, (.lst x16.length 1 (gl (csL 5 cs_Key) x16)))]⟩ : St) _
    obtain _ | k := k
    · rw [spec_MirrorClip_l4] at h; cases h
    rw [spec_MirrorClip_l4] at h
    refine AW.seq ?_
    refine AW.regionA [] [2, 4, 6, 8, 40, 41, 42] [2, 3, 4, 15] (s' := ⟨[(2, (.v (.one (.c (sl 1 (csI .i64) a2))))), (4, (.v (.one (.ptr 2 0)))), (6, (.v (.one (.ptr 3 0)))), (8, (.v (.one (.ptr 4 0)))), (40, (.v (.one (.c (.int .i64 (a2.length : Int)))))), (41, (.v (.one (.c (.int .i64 x15))))), (42, (.v (.one (.c (.bool (decide (x15 < (a2.length : Int))))))))], [(2, (.box [(.c (.int .i64 a1.Length)), (.c (.int .i64 a1.Kind)), (.c (sl 1 (csL 5 cs_Key) a1.Tracks)), (.c (sl 4 cs_RootKey a1.Roots))])), (3, (.box [(.c (.int .i64 (0 : Int))), (.c (.int .i64 (0 : Int))), .nils, .nils])), (4, (.box [(.c (.int .i64 a1.Length)), (.c (.int .i64 a1.Kind)), (.lst 15 x16.length 1 (gl (csL 5 cs_Key) x16)), .nils])), (15, (.lst x16.length 1 (gl (csL 5 cs_Key) x16)))]⟩) (ob := True ∧ True) (by kernel_rfl) ⟨trivial, trivial⟩ ?_
    refine thenQ_normal ?_
    refine AW.seq ?_
    rcases ite2_cases h with ⟨b17, h⟩ | ⟨b17, h⟩
    · refine AW.cond_t rfl b17 ?_
      refine AW.skip ?_
      refine thenQ_normal ?_
      refine AW.seq ?_
      refine AW.block ?_
      refine AW.seq ?_
      refine AW.regionA [] [2, 4, 6, 8, 9, 40, 41] [2, 3, 4, 15] (s' := ⟨[(2, (.v (.one (.c (sl 1 (csI .i64) a2))))), (4, (.v (.one (.ptr 2 0)))), (6, (.v (.one (.ptr 3 0)))), (8, (.v (.one (.ptr 4 0)))), (9, (.v (.one (.c (.int .i64 x15))))), (40, (.v (.one (.c (.int .i64 (a2.length : Int)))))), (41, (.v (.one (.c (.int .i64 x15)))))], [(2, (.box [(.c (.int .i64 a1.Length)), (.c (.int .i64 a1.Kind)), (.c (sl 1 (csL 5 cs_Key) a1.Tracks)), (.c (sl 4 cs_RootKey a1.Roots))])), (3, (.box [(.c (.int .i64 (0 : Int))), (.c (.int .i64 (0 : Int))), .nils, .nils])), (4, (.box [(.c (.int .i64 a1.Length)), (.c (.int .i64 a1.Kind)), (.lst 15 x16.length 1 (gl (csL 5 cs_Key) x16)), .nils])), (15, (.lst x16.length 1 (gl (csL 5 cs_Key) x16)))]⟩) (ob := True ∧ True ∧ True) (by kernel_rfl) ⟨trivial, trivial, trivial⟩ ?_
      refine thenQ_normal ?_
      refine AW.seq ?_
      obtain ⟨c18, h⟩ := chk_some h
      obtain ⟨c19, h⟩ := chk_some h
      obtain ⟨c20, h⟩ := chk_some h
      refine AW.drawnA (by kernel_rfl) 11 [.objA 36 ([] : List Key).length (gl cs_Key ([] : List Key)), .no, .no, .no, .no, .no, .no, .no, .no, .objA 37 (([] : List Key) ++ (a1.Tracks.getD ((a2.getD x15.toNat default).toNat) default)).length (gl cs_Key (([] : List Key) ++ (a1.Tracks.getD ((a2.getD x15.toNat default).toNat) default)))] [2, 4, 6, 8, 10, 40, 41] [2, 3, 4, 15, 37] (s' := ⟨[(2, (.v (.one (.c (sl 1 (csI .i64) a2))))), (4, (.v (.one (.ptr 2 0)))), (6, (.v (.one (.ptr 3 0)))), (8, (.v (.one (.ptr 4 0)))), (10, (.v (.one (.arr 37)))), (40, (.v (.one (.c (.int .i64 (a2.length : Int)))))), (41, (.v (.one (.c (.int .i64 x15)))))], [(2, (.box [(.c (.int .i64 a1.Length)), (.c (.int .i64 a1.Kind)), (.c (sl 1 (csL 5 cs_Key) a1.Tracks)), (.c (sl 4 cs_RootKey a1.Roots))])), (3, (.box [(.c (.int .i64 (0 : Int))), (.c (.int .i64 (0 : Int))), .nils, .nils])), (4, (.box [(.c (.int .i64 a1.Length)), (.c (.int .i64 a1.Kind)), (.lst 15 x16.length 1 (gl (csL 5 cs_Key) x16)), .nils])), (15, (.lst x16.length 1 (gl (csL 5 cs_Key) x16))), (37, (.arr false (([] : List Key) ++ (a1.Tracks.getD ((a2.getD x15.toNat default).toNat) default)).length 5 (gl cs_Key (([] : List Key) ++ (a1.Tracks.getD ((a2.getD x15.toNat default).toNat) default)))))]⟩) (ob := ((([] : List Key).length = 0 ∧ True) ∧ True ∧ True ∧ True ∧ True ∧ (0 ≤ x15 ∧ x15 < (a2.length : Int)) ∧ True ∧ (0 ≤ (a2.getD x15.toNat default) ∧ (a2.getD x15.toNat default) < (a1.Tracks.length : Int)) ∧ True ∧ ((([] : List Key) ++ (a1.Tracks.getD ((a2.getD x15.toNat default).toNat) default)).length = ([] : List Key).length + (a1.Tracks.getD ((a2.getD x15.toNat default).toNat) default).length ∧ AppOb (([] : List Key).length) ((a1.Tracks.getD ((a2.getD x15.toNat default).toNat) default).length) 5 (gl cs_Key ([] : List Key)) (gl cs_Key (a1.Tracks.getD ((a2.getD x15.toNat default).toNat) default)) (gl cs_Key (([] : List Key) ++ (a1.Tracks.getD ((a2.getD x15.toNat default).toNat) default))) ∧ (∀ i j, i < (a1.Tracks.getD ((a2.getD x15.toNat default).toNat) default).length → j < 5 → scalarC (gl cs_Key (a1.Tracks.getD ((a2.getD x15.toNat default).toNat) default) i j)) ∧ (([] : List Key).length + (a1.Tracks.getD ((a2.getD x15.toNat default).toNat) default).length) * 24 ≤ 140737488355328) ∧ True ∧ True) ∧ (True)) (by kernel_rfl) ⟨⟨⟨rfl, trivial⟩, trivial, trivial, trivial, trivial, c18, trivial, c19, trivial, ⟨List.length_append, gl_append, gl_scalar sc_Key _, c20⟩, trivial, trivial⟩, trivial⟩ ?_
      refine thenQ_normal ?_
      refine AW.seq ?_
      refine AW.seq ?_
      refine AW.regionA [] [2, 4, 6, 8, 10, 40, 41, 55, 56] [2, 3, 4, 15, 37] (s' := ⟨[(2, (.v (.one (.c (sl 1 (csI .i64) a2))))), (4, (.v (.one (.ptr 2 0)))), (6, (.v (.one (.ptr 3 0)))), (8, (.v (.one (.ptr 4 0)))), (10, (.v (.one (.arr 37)))), (40, (.v (.one (.c (.int .i64 (a2.length : Int)))))), (41, (.v (.one (.c (.int .i64 x15))))), (55, (.v (.one (.c (.int .i64 ((([] : List Key) ++ (a1.Tracks.getD ((a2.getD x15.toNat default).toNat) default)).length : Int)))))), (56, (.v (.one (.c (.int .i64 (0 : Int))))))], [(2, (.box [(.c (.int .i64 a1.Length)), (.c (.int .i64 a1.Kind)), (.c (sl 1 (csL 5 cs_Key) a1.Tracks)), (.c (sl 4 cs_RootKey a1.Roots))])), (3, (.box [(.c (.int .i64 (0 : Int))), (.c (.int .i64 (0 : Int))), .nils, .nils])), (4, (.box [(.c (.int .i64 a1.Length)), (.c (.int .i64 a1.Kind)), (.lst 15 x16.length 1 (gl (csL 5 cs_Key) x16)), .nils])), (15, (.lst x16.length 1 (gl (csL 5 cs_Key) x16))), (37, (.arr false (([] : List Key) ++ (a1.Tracks.getD ((a2.getD x15.toNat default).toNat) default)).length 5 (gl cs_Key (([] : List Key) ++ (a1.Tracks.getD ((a2.getD x15.toNat default).toNat) default)))))]⟩) (ob := True ∧ True ∧ True ∧ True) (by kernel_rfl) ⟨trivial, trivial, trivial, trivial⟩ ?_
      refine thenQ_normal ?_
      obtain ⟨j29, e30, h⟩ := bind_some h
      refine AW.joinS (s2 := ⟨[(2, (.v (.one (.c (sl 1 (csI .i64) a2))))), (4, (.v (.one (.ptr 2 0)))), (6, (.v (.one (.ptr 3 0)))), (8, (.v (.one (.ptr 4 0)))), (10, (.v (.one (.arr 37)))), (40, (.v (.one (.c (.int .i64 (a2.length : Int)))))), (41, (.v (.one (.c (.int .i64 x15)))))], [(2, (.box [(.c (.int .i64 a1.Length)), (.c (.int .i64 a1.Kind)), (.c (sl 1 (csL 5 cs_Key) a1.Tracks)), (.c (sl 4 cs_RootKey a1.Roots))])), (3, (.box [(.c (.int .i64 (0 : Int))), (.c (.int .i64 (0 : Int))), .nils, .nils])), (4, (.box [(.c (.int .i64 a1.Length)), (.c (.int .i64 a1.Kind)), (.lst 15 x16.length 1 (gl (csL 5 cs_Key) x16)), .nils])), (15, (.lst x16.length 1 (gl (csL 5 cs_Key) x16))), (37, (.arr false j29.length 5 (gl cs_Key j29)))]⟩) ?_ ?_
      · replace h := e30
        refine AW.block ?_
        refine AW.loopQ (σ := Nat × Int × (List Key)) (fun p => ⟨[(2, (.v (.one (.c (sl 1 (csI .i64) a2))))), (4, (.v (.one (.ptr 2 0)))), (6, (.v (.one (.ptr 3 0)))), (8, (.v (.one (.ptr 4 0)))), (10, (.v (.one (.arr 37)))), (40, (.v (.one (.c (.int .i64 (a2.length : Int)))))), (41, (.v (.one (.c (.int .i64 x15))))), (55, (.v (.one (.c (.int .i64 ((([] : List Key) ++ (a1.Tracks.getD ((a2.getD x15.toNat default).toNat) default)).length : Int)))))), (56, (.v (.one (.c (.int .i64 p.2.1)))))], [(2, (.box [(.c (.int .i64 a1.Length)), (.c (.int .i64 a1.Kind)), (.c (sl 1 (csL 5 cs_Key) a1.Tracks)), (.c (sl 4 cs_RootKey a1.Roots))])), (3, (.box [(.c (.int .i64 (0 : Int))), (.c (.int .i64 (0 : Int))), .nils, .nils])), (4, (.box [(.c (.int .i64 a1.Length)), (.c (.int .i64 a1.Kind)), (.lst 15 x16.length 1 (gl (csL 5 cs_Key) x16)), .nils])), (15, (.lst x16.length 1 (gl (csL 5 cs_Key) x16))), (37, (.arr false p.2.2.length 5 (gl cs_Key p.2.2)))]⟩) (fun p => spec_MirrorClip_l5 K a1 a2 x15 p.1 p.2.1 p.2.2 = some j29) (fun p => p.1) (K, (0 : Int), (([] : List Key) ++ (a1.Tracks.getD ((a2.getD x15.toNat default).toNat) default))) h ?_
        clear h
        rintro ⟨k, x33, x34⟩ h
        replace h : spec_MirrorClip_l5 K a1 a2 x15 k x33 x34 = some j29 := h
        show AW _ _ (⟨[(2, (.v (.one (.c (sl 1 (csI .i64) a2))))), (4, (.v (.one (.ptr 2 0)))), (6, (.v (.one (.ptr 3 0)))), (8, (.v (.one (.ptr 4 0)))), (10, (.v (.one (.arr 37)))), (40, (.v (.one (.c (.int .i64 (a2.length : Int)))))), (41, (.v (.one (.c (.int .i64 x15))))), (55, (.v (.one (.c (.int .i64 ((([] : List Key) ++ (a1.Tracks.getD ((a2.getD x15.toNat default).toNat) default)).length : Int)))))), (56, (.v (.one (.c (.int .i64 x33)))))], [(2, (.box [(.c (.int .i64 a1.Length)), (.c (.int .i64 a1.Kind)), (.c (sl 1 (csL 5 cs_Key) a1.Tracks)), (.c (sl 4 cs_RootKey a1.Roots))])), (3, (.box [(.c (.int .i64 (0 : Int))), (.c (.int .i64 (0 : Int))), .nils, .nils])), (4, (.box [(.c (.int .i64 a1.Length)), (.c (.int .i64 a1.Kind)), (.lst 15 x16.length 1 (gl (csL 5 cs_Key) x16)), .nils])), (15, (.lst x16.length 1 (gl (csL 5 cs_Key) x16))), (37, (.arr false x34.length 5 (gl cs_Key x34)))]⟩ : St) _
        obtain _ | k := k
        · rw [spec_MirrorClip_l5] at h; cases h
        rw [spec_MirrorClip_l5] at h
        refine AW.seq ?_
        refine AW.regionA [] [2, 4, 6, 8, 10, 40, 41, 55, 56, 57] [2, 3, 4, 15, 37] (s' := ⟨[(2, (.v (.one (.c (sl 1 (csI .i64) a2))))), (4, (.v (.one (.ptr 2 0)))), (6, (.v (.one (.ptr 3 0)))), (8, (.v (.one (.ptr 4 0)))), (10, (.v (.one (.arr 37)))), (40, (.v (.one (.c (.int .i64 (a2.length : Int)))))), (41, (.v (.one (.c (.int .i64 x15))))), (55, (.v (.one (.c (.int .i64 ((([] : List Key) ++ (a1.Tracks.getD ((a2.getD x15.toNat default).toNat) default)).length : Int)))))), (56, (.v (.one (.c (.int .i64 x33))))), (57, (.v (.one (.c (.bool (decide (x33 < ((([] : List Key) ++ (a1.Tracks.getD ((a2.getD x15.toNat default).toNat) default)).length : Int))))))))], [(2, (.box [(.c (.int .i64 a1.Length)), (.c (.int .i64 a1.Kind)), (.c (sl 1 (csL 5 cs_Key) a1.Tracks)), (.c (sl 4 cs_RootKey a1.Roots))])), (3, (.box [(.c (.int .i64 (0 : Int))), (.c (.int .i64 (0 : Int))), .nils, .nils])), (4, (.box [(.c (.int .i64 a1.Length)), (.c (.int .i64 a1.Kind)), (.lst 15 x16.length 1 (gl (csL 5 cs_Key) x16)), .nils])), (15, (.lst x16.length 1 (gl (csL 5 cs_Key) x16))), (37, (.arr false x34.length 5 (gl cs_Key x34)))]⟩) (ob := True ∧ True) (by kernel_rfl) ⟨trivial, trivial⟩ ?_
        refine thenQ_normal ?_
        refine AW.seq ?_
        rcases ite2_cases h with ⟨b35, h⟩ | ⟨b35, h⟩
        · refine AW.cond_t rfl b35 ?_
          refine AW.skip ?_
          refine thenQ_normal ?_
          refine AW.seq ?_
          refine AW.block ?_
          refine AW.seq ?_
          refine AW.regionA [] [2, 4, 6, 8, 10, 11, 40, 41, 55, 56] [2, 3, 4, 15, 37] (s' := ⟨[(2, (.v (.one (.c (sl 1 (csI .i64) a2))))), (4, (.v (.one (.ptr 2 0)))), (6, (.v (.one (.ptr 3 0)))), (8, (.v (.one (.ptr 4 0)))), (10, (.v (.one (.arr 37)))), (11, (.v (.one (.c (.int .i64 x33))))), (40, (.v (.one (.c (.int .i64 (a2.length : Int)))))), (41, (.v (.one (.c (.int .i64 x15))))), (55, (.v (.one (.c (.int .i64 ((([] : List Key) ++ (a1.Tracks.getD ((a2.getD x15.toNat default).toNat) default)).length : Int)))))), (56, (.v (.one (.c (.int .i64 x33)))))], [(2, (.box [(.c (.int .i64 a1.Length)), (.c (.int .i64 a1.Kind)), (.c (sl 1 (csL 5 cs_Key) a1.Tracks)), (.c (sl 4 cs_RootKey a1.Roots))])), (3, (.box [(.c (.int .i64 (0 : Int))), (.c (.int .i64 (0 : Int))), .nils, .nils])), (4, (.box [(.c (.int .i64 a1.Length)), (.c (.int .i64 a1.Kind)), (.lst 15 x16.length 1 (gl (csL 5 cs_Key) x16)), .nils])), (15, (.lst x16.length 1 (gl (csL 5 cs_Key) x16))), (37, (.arr false x34.length 5 (gl cs_Key x34)))]⟩) (ob := True ∧ True ∧ True) (by kernel_rfl) ⟨trivial, trivial, trivial⟩ ?_
          refine thenQ_normal ?_
          refine AW.seq ?_
          obtain ⟨c36, h⟩ := chk_some h
          refine AW.regionA [.no, .no, .no, .no, .no, .box 43] [2, 4, 6, 8, 10, 11, 12, 40, 41, 55, 56] [2, 3, 4, 15, 37, 43] (s' := ⟨[(2, (.v (.one (.c (sl 1 (csI .i64) a2))))), (4, (.v (.one (.ptr 2 0)))), (6, (.v (.one (.ptr 3 0)))), (8, (.v (.one (.ptr 4 0)))), (10, (.v (.one (.arr 37)))), (11, (.v (.one (.c (.int .i64 x33))))), (12, (.v (.one (.ptr 43 0)))), (40, (.v (.one (.c (.int .i64 (a2.length : Int)))))), (41, (.v (.one (.c (.int .i64 x15))))), (55, (.v (.one (.c (.int .i64 ((([] : List Key) ++ (a1.Tracks.getD ((a2.getD x15.toNat default).toNat) default)).length : Int)))))), (56, (.v (.one (.c (.int .i64 x33)))))], [(2, (.box [(.c (.int .i64 a1.Length)), (.c (.int .i64 a1.Kind)), (.c (sl 1 (csL 5 cs_Key) a1.Tracks)), (.c (sl 4 cs_RootKey a1.Roots))])), (3, (.box [(.c (.int .i64 (0 : Int))), (.c (.int .i64 (0 : Int))), .nils, .nils])), (4, (.box [(.c (.int .i64 a1.Length)), (.c (.int .i64 a1.Kind)), (.lst 15 x16.length 1 (gl (csL 5 cs_Key) x16)), .nils])), (15, (.lst x16.length 1 (gl (csL 5 cs_Key) x16))), (37, (.arr false x34.length 5 (gl cs_Key x34))), (43, (.box [(.c (.flt .f32 (((x34.getD x33.toNat default).Turn).W).bits)), (.c (.flt .f32 (((x34.getD x33.toNat default).Turn).X).bits)), (.c (.flt .f32 (((x34.getD x33.toNat default).Turn).Y).bits)), (.c (.flt .f32 (((x34.getD x33.toNat default).Turn).Z).bits))]))]⟩) (ob := True ∧ True ∧ (0 ≤ x33 ∧ x33 < (x34.length : Int)) ∧ True ∧ True ∧ True ∧ True ∧ True) (by kernel_rfl) ⟨trivial, trivial, c36, trivial, trivial, trivial, trivial, trivial⟩ ?_
          refine thenQ_normal ?_
          obtain ⟨y37, e38, h⟩ := bind_some h
          refine AW.regionA [.no, .no, .no, .no, .no, .no, .no, .no, .no, .no, .no, .no, .no, .no, .no, .set y37.length (gl cs_Key y37) ((List.range 4).map fun j => (cs_Key (Key.mk ((x34.getD x33.toNat default).At) (Turn.mk (((x34.getD x33.toNat default).Turn).W) (((x34.getD x33.toNat default).Turn).X) ((((x34.getD x33.toNat default).Turn).Y).neg) ((((x34.getD x33.toNat default).Turn).Z).neg)))).getD (1 + j) .nilptr)] [2, 4, 6, 8, 10, 40, 41, 55, 56] [2, 3, 4, 15, 37] (s' := ⟨[(2, (.v (.one (.c (sl 1 (csI .i64) a2))))), (4, (.v (.one (.ptr 2 0)))), (6, (.v (.one (.ptr 3 0)))), (8, (.v (.one (.ptr 4 0)))), (10, (.v (.one (.arr 37)))), (40, (.v (.one (.c (.int .i64 (a2.length : Int)))))), (41, (.v (.one (.c (.int .i64 x15))))), (55, (.v (.one (.c (.int .i64 ((([] : List Key) ++ (a1.Tracks.getD ((a2.getD x15.toNat default).toNat) default)).length : Int)))))), (56, (.v (.one (.c (.int .i64 x33)))))], [(2, (.box [(.c (.int .i64 a1.Length)), (.c (.int .i64 a1.Kind)), (.c (sl 1 (csL 5 cs_Key) a1.Tracks)), (.c (sl 4 cs_RootKey a1.Roots))])), (3, (.box [(.c (.int .i64 (0 : Int))), (.c (.int .i64 (0 : Int))), .nils, .nils])), (4, (.box [(.c (.int .i64 a1.Length)), (.c (.int .i64 a1.Kind)), (.lst 15 x16.length 1 (gl (csL 5 cs_Key) x16)), .nils])), (15, (.lst x16.length 1 (gl (csL 5 cs_Key) x16))), (37, (.arr false y37.length 5 (gl cs_Key y37)))]⟩) (ob := True ∧ True ∧ True ∧ True ∧ True ∧ True ∧ True ∧ True ∧ True ∧ True ∧ True ∧ True ∧ True ∧ (0 ≤ x33 ∧ x33 < (x34.length : Int)) ∧ True ∧ (y37.length = x34.length ∧ SetOb x34.length 5 x33.toNat 1 4 (gl cs_Key x34) (gl cs_Key y37) ∧ ((List.range 4).map fun j => (cs_Key (Key.mk ((x34.getD x33.toNat default).At) (Turn.mk (((x34.getD x33.toNat default).Turn).W) (((x34.getD x33.toNat default).Turn).X) ((((x34.getD x33.toNat default).Turn).Y).neg) ((((x34.getD x33.toNat default).Turn).Z).neg)))).getD (1 + j) .nilptr) = ((List.range 4).map fun j => gl cs_Key y37 x33.toNat (1 + j)) ∧ ((((.flt .f32 (((x34.getD x33.toNat default).Turn).W).bits) : C) = (.flt .f32 (((x34.getD x33.toNat default).Turn).W).bits) ∧ True) ∧ (((.flt .f32 (((x34.getD x33.toNat default).Turn).X).bits) : C) = (.flt .f32 (((x34.getD x33.toNat default).Turn).X).bits) ∧ True) ∧ (((.flt .f32 ((((x34.getD x33.toNat default).Turn).Y).neg).bits) : C) = (.flt .f32 ((((x34.getD x33.toNat default).Turn).Y).neg).bits) ∧ True) ∧ (((.flt .f32 ((((x34.getD x33.toNat default).Turn).Z).neg).bits) : C) = (.flt .f32 ((((x34.getD x33.toNat default).Turn).Z).neg).bits) ∧ True) ∧ True) ∧ (false = true → ∀ j, j < 4 → isSeq (gl cs_Key x34 x33.toNat (1 + j)) = false ∧ isSeq (gl cs_Key y37 x33.toNat (1 + j)) = false)) ∧ True) (by kernel_rfl) ⟨trivial, trivial, trivial, trivial, trivial, trivial, trivial, trivial, trivial, trivial, trivial, trivial, trivial, c36, trivial, (letP (some_eq e38) (fun z => (z.length = x34.length ∧ SetOb x34.length 5 x33.toNat 1 4 (gl cs_Key x34) (gl cs_Key z) ∧ ((List.range 4).map fun j => (cs_Key (Key.mk ((x34.getD x33.toNat default).At) (Turn.mk (((x34.getD x33.toNat default).Turn).W) (((x34.getD x33.toNat default).Turn).X) ((((x34.getD x33.toNat default).Turn).Y).neg) ((((x34.getD x33.toNat default).Turn).Z).neg)))).getD (1 + j) .nilptr) = ((List.range 4).map fun j => gl cs_Key z x33.toNat (1 + j)) ∧ ((((.flt .f32 (((x34.getD x33.toNat default).Turn).W).bits) : C) = (.flt .f32 (((x34.getD x33.toNat default).Turn).W).bits) ∧ True) ∧ (((.flt .f32 (((x34.getD x33.toNat default).Turn).X).bits) : C) = (.flt .f32 (((x34.getD x33.toNat default).Turn).X).bits) ∧ True) ∧ (((.flt .f32 ((((x34.getD x33.toNat default).Turn).Y).neg).bits) : C) = (.flt .f32 ((((x34.getD x33.toNat default).Turn).Y).neg).bits) ∧ True) ∧ (((.flt .f32 ((((x34.getD x33.toNat default).Turn).Z).neg).bits) : C) = (.flt .f32 ((((x34.getD x33.toNat default).Turn).Z).neg).bits) ∧ True) ∧ True) ∧ (false = true → ∀ j, j < 4 → isSeq (gl cs_Key x34 x33.toNat (1 + j)) = false ∧ isSeq (gl cs_Key z x33.toNat (1 + j)) = false))) ⟨List.length_set, gl_setp (fun j hj hn => match j, hj, hn with | 0, _, _ => rfl | 1, _, hn => absurd ⟨by decide, by decide⟩ hn | 2, _, hn => absurd ⟨by decide, by decide⟩ hn | 3, _, hn => absurd ⟨by decide, by decide⟩ hn | 4, _, hn => absurd ⟨by decide, by decide⟩ hn) (lt_of_bound c36), (gl_atp (lt_of_bound c36)).symm, ⟨⟨rfl, trivial⟩, ⟨rfl, trivial⟩, ⟨rfl, trivial⟩, ⟨rfl, trivial⟩, trivial⟩, (fun h => nomatch h)⟩), trivial⟩ ?_
          refine blockQ_normal ?_
          refine thenQ_normal ?_
          refine AW.regionA [] [2, 4, 6, 8, 10, 40, 41, 55, 56] [2, 3, 4, 15, 37] (s' := ⟨[(2, (.v (.one (.c (sl 1 (csI .i64) a2))))), (4, (.v (.one (.ptr 2 0)))), (6, (.v (.one (.ptr 3 0)))), (8, (.v (.one (.ptr 4 0)))), (10, (.v (.one (.arr 37)))), (40, (.v (.one (.c (.int .i64 (a2.length : Int)))))), (41, (.v (.one (.c (.int .i64 x15))))), (55, (.v (.one (.c (.int .i64 ((([] : List Key) ++ (a1.Tracks.getD ((a2.getD x15.toNat default).toNat) default)).length : Int)))))), (56, (.v (.one (.c (.int .i64 (IntKind.i64.wrap (x33 + (1 : Int))))))))], [(2, (.box [(.c (.int .i64 a1.Length)), (.c (.int .i64 a1.Kind)), (.c (sl 1 (csL 5 cs_Key) a1.Tracks)), (.c (sl 4 cs_RootKey a1.Roots))])), (3, (.box [(.c (.int .i64 (0 : Int))), (.c (.int .i64 (0 : Int))), .nils, .nils])), (4, (.box [(.c (.int .i64 a1.Length)), (.c (.int .i64 a1.Kind)), (.lst 15 x16.length 1 (gl (csL 5 cs_Key) x16)), .nils])), (15, (.lst x16.length 1 (gl (csL 5 cs_Key) x16))), (37, (.arr false y37.length 5 (gl cs_Key y37)))]⟩) (ob := True ∧ True ∧ True) (by kernel_rfl) ⟨trivial, trivial, trivial⟩ ?_
          exact loopQ_normal (k, (IntKind.i64.wrap (x33 + (1 : Int))), y37) h (Nat.lt_succ_self k) (Sub.keep [2, 4, 6, 8, 10, 40, 41, 55, 56] [2, 3, 4, 15, 37] (by kernel_rfl) (by kernel_rfl))
        · refine AW.cond_f rfl b35 ?_
          refine AW.exit ?_
          refine thenQ_exit ?_
          refine loopQ_exit ?_
          refine blockQ_exit ?_
          replace h := some_eq h
          subst h
          exact ⟨rfl, Sub.keep [2, 4, 6, 8, 10, 40, 41] [2, 3, 4, 15, 37] (by kernel_rfl) (by kernel_rfl)⟩
      refine thenQ_normal ?_
      obtain ⟨c39, h⟩ := chk_some h
      refine AW.regionA [.no, .no, .no, .obj 44 ([j29]).length (gl (csL 5 cs_Key) ([j29])), .obj 45 (x16 ++ ([j29])).length (gl (csL 5 cs_Key) (x16 ++ ([j29])))] [2, 4, 6, 8, 40, 41] [2, 3, 4, 45] (s' := ⟨[(2, (.v (.one (.c (sl 1 (csI .i64) a2))))), (4, (.v (.one (.ptr 2 0)))), (6, (.v (.one (.ptr 3 0)))), (8, (.v (.one (.ptr 4 0)))), (40, (.v (.one (.c (.int .i64 (a2.length : Int)))))), (41, (.v (.one (.c (.int .i64 x15)))))], [(2, (.box [(.c (.int .i64 a1.Length)), (.c (.int .i64 a1.Kind)), (.c (sl 1 (csL 5 cs_Key) a1.Tracks)), (.c (sl 4 cs_RootKey a1.Roots))])), (3, (.box [(.c (.int .i64 (0 : Int))), (.c (.int .i64 (0 : Int))), .nils, .nils])), (4, (.box [(.c (.int .i64 a1.Length)), (.c (.int .i64 a1.Kind)), (.lst 45 (x16 ++ ([j29])).length 1 (gl (csL 5 cs_Key) (x16 ++ ([j29])))), .nils])), (45, (.lst (x16 ++ ([j29])).length 1 (gl (csL 5 cs_Key) (x16 ++ ([j29])))))]⟩) (ob := True ∧ True ∧ True ∧ (([j29]).length = 1 ∧ (((sl 5 cs_Key j29) : C) = (sl 5 cs_Key j29)) ∧ True) ∧ ((x16 ++ ([j29])).length = x16.length + ([j29]).length ∧ AppOb (x16.length) (([j29]).length) 1 (gl (csL 5 cs_Key) x16) (gl (csL 5 cs_Key) ([j29])) (gl (csL 5 cs_Key) (x16 ++ ([j29]))) ∧ True ∧ (x16.length + ([j29]).length) * 24 ≤ 140737488355328) ∧ True ∧ True ∧ True) (by kernel_rfl) ⟨trivial, trivial, trivial, ⟨rfl, ⟨rfl, trivial⟩⟩, ⟨List.length_append, gl_append, trivial, c39⟩, trivial, trivial, trivial⟩ ?_
      refine blockQ_normal ?_
      refine thenQ_normal ?_
      refine AW.regionA [] [2, 4, 6, 8, 40, 41] [2, 3, 4, 45] (s' := ⟨[(2, (.v (.one (.c (sl 1 (csI .i64) a2))))), (4, (.v (.one (.ptr 2 0)))), (6, (.v (.one (.ptr 3 0)))), (8, (.v (.one (.ptr 4 0)))), (40, (.v (.one (.c (.int .i64 (a2.length : Int)))))), (41, (.v (.one (.c (.int .i64 (IntKind.i64.wrap (x15 + (1 : Int))))))))], [(2, (.box [(.c (.int .i64 a1.Length)), (.c (.int .i64 a1.Kind)), (.c (sl 1 (csL 5 cs_Key) a1.Tracks)), (.c (sl 4 cs_RootKey a1.Roots))])), (3, (.box [(.c (.int .i64 (0 : Int))), (.c (.int .i64 (0 : Int))), .nils, .nils])), (4, (.box [(.c (.int .i64 a1.Length)), (.c (.int .i64 a1.Kind)), (.lst 45 (x16 ++ ([j29])).length 1 (gl (csL 5 cs_Key) (x16 ++ ([j29])))), .nils])), (45, (.lst (x16 ++ ([j29])).length 1 (gl (csL 5 cs_Key) (x16 ++ ([j29])))))]⟩) (ob := True ∧ True ∧ True) (by kernel_rfl) ⟨trivial, trivial, trivial⟩ ?_
      exact loopQ_normal (k, (IntKind.i64.wrap (x15 + (1 : Int))), (x16 ++ ([j29]))) h (Nat.lt_succ_self k) (Sub.trans (Sub.swap 15 45 _ (by kernel_rfl) (by kernel_rfl)) (Sub.keep [2, 4, 6, 8, 40, 41] [2, 3, 4, 15] (by kernel_rfl) (by kernel_rfl)))
    · refine AW.cond_f rfl b17 ?_
      refine AW.exit ?_
      refine thenQ_exit ?_
      refine loopQ_exit ?_
      refine blockQ_exit ?_
      refine thenQ_normal ?_
      refine AW.seq ?_
      refine AW.seq ?_
      refine AW.regionA [] [4, 6, 8, 89, 90] [2, 3, 4, 15] (s' := ⟨[(4, (.v (.one (.ptr 2 0)))), (6, (.v (.one (.ptr 3 0)))), (8, (.v (.one (.ptr 4 0)))), (89, (.v (.one (.c (.int .i64 (a1.Roots.length : Int)))))), (90, (.v (.one (.c (.int .i64 (0 : Int))))))], [(2, (.box [(.c (.int .i64 a1.Length)), (.c (.int .i64 a1.Kind)), (.c (sl 1 (csL 5 cs_Key) a1.Tracks)), (.c (sl 4 cs_RootKey a1.Roots))])), (3, (.box [(.c (.int .i64 (0 : Int))), (.c (.int .i64 (0 : Int))), .nils, .nils])), (4, (.box [(.c (.int .i64 a1.Length)), (.c (.int .i64 a1.Kind)), (.lst 15 x16.length 1 (gl (csL 5 cs_Key) x16)), .nils])), (15, (.lst x16.length 1 (gl (csL 5 cs_Key) x16)))]⟩) (ob := True ∧ True ∧ True ∧ True ∧ True) (by kernel_rfl) ⟨trivial, trivial, trivial, trivial, trivial⟩ ?_
      refine thenQ_normal ?_
      refine AW.block ?_
      refine AW.weak (s' := ⟨[(4, (.v (.one (.ptr 2 0)))), (6, (.v (.one (.ptr 3 0)))), (8, (.v (.one (.ptr 4 0)))), (89, (.v (.one (.c (.int .i64 (a1.Roots.length : Int)))))), (90, (.v (.one (.c (.int .i64 (0 : Int))))))], [(2, (.box [(.c (.int .i64 a1.Length)), (.c (.int .i64 a1.Kind)), (.c (sl 1 (csL 5 cs_Key) a1.Tracks)), (.c (sl 4 cs_RootKey a1.Roots))])), (3, (.box [(.c (.int .i64 (0 : Int))), (.c (.int .i64 (0 : Int))), .nils, .nils])), (4, (.box [(.c (.int .i64 a1.Length)), (.c (.int .i64 a1.Kind)), (.lst 15 x16.length 1 (gl (csL 5 cs_Key) x16)), (.lst 48 ([] : (List RootKey)).length 4 (gl cs_RootKey ([] : (List RootKey))))])), (15, (.lst x16.length 1 (gl (csL 5 cs_Key) x16))), (48, (.lst ([] : (List RootKey)).length 4 (gl cs_RootKey ([] : (List RootKey)))))]⟩) (Sub.trans (Sub.unnil 48 4 (gl cs_RootKey ([] : (List RootKey))) [] [(4, 3)] _ (by kernel_rfl) (by kernel_rfl)) (Sub.keep [4, 6, 8, 89, 90] [2, 3, 4, 15, 48] (by kernel_rfl) (by kernel_rfl))) ?_
      refine AW.loopQ (σ := Nat × Int × (List RootKey)) (fun p => ⟨[(4, (.v (.one (.ptr 2 0)))), (6, (.v (.one (.ptr 3 0)))), (8, (.v (.one (.ptr 4 0)))), (89, (.v (.one (.c (.int .i64 (a1.Roots.length : Int)))))), (90, (.v (.one (.c (.int .i64 p.2.1)))))], [(2, (.box [(.c (.int .i64 a1.Length)), (.c (.int .i64 a1.Kind)), (.c (sl 1 (csL 5 cs_Key) a1.Tracks)), (.c (sl 4 cs_RootKey a1.Roots))])), (3, (.box [(.c (.int .i64 (0 : Int))), (.c (.int .i64 (0 : Int))), .nils, .nils])), (4, (.box [(.c (.int .i64 a1.Length)), (.c (.int .i64 a1.Kind)), (.lst 15 x16.length 1 (gl (csL 5 cs_Key) x16)), (.lst 48 p.2.2.length 4 (gl cs_RootKey p.2.2))])), (15, (.lst x16.length 1 (gl (csL 5 cs_Key) x16))), (48, (.lst p.2.2.length 4 (gl cs_RootKey p.2.2)))]⟩) (fun p => spec_MirrorClip_l6 K a1 x16 p.1 p.2.1 p.2.2 = some o) (fun p => p.1) (K, (0 : Int), ([] : (List RootKey))) h ?_
      clear h
      rintro ⟨k, x42, x43⟩ h
      replace h : spec_MirrorClip_l6 K a1 x16 k x42 x43 = some o := h
      show AW _ _ (⟨[(4, (.v (.one (.ptr 2 0)))), (6, (.v (.one (.ptr 3 0)))), (8, (.v (.one (.ptr 4 0)))), (89, (.v (.one (.c (.int .i64 (a1.Roots.length : Int)))))), (90, (.v (.one (.c (.int .i64 x42)))))], [(2, (.box [(.c (.int .i64 a1.Length)), (.c (.int .i64 a1.Kind)), (.c (sl 1 (csL 5 cs_Key) a1.Tracks)), (.c (sl 4 cs_RootKey a1.Roots))])), (3, (.box [(.c (.int .i64 (0 : Int))), (.c (.int .i64 (0 : Int))), .nils, .nils])), (4, (.box [(.c (.int .i64 a1.Length)), (.c (.int .i64 a1.Kind)), (.lst 15 x16.length 1 (gl (csL 5 cs_Key) x16)), (.lst 48 x43.length 4 (gl cs_RootKey x43))])), (15, (.lst x16.length 1 (gl (csL 5 cs_Key) x16))), (48, (.lst x43.length 4 (gl cs_RootKey x43)))]⟩ : St) _
      obtain _ | k := k
      · rw [spec_MirrorClip_l6] at h; cases h
      rw [spec_MirrorClip_l6] at h
      refine AW.seq ?_
      refine AW.regionA [] [4, 6, 8, 89, 90, 91] [2, 3, 4, 15, 48] (s' := ⟨[(4, (.v (.one (.ptr 2 0)))), (6, (.v (.one (.ptr 3 0)))), (8, (.v (.one (.ptr 4 0)))), (89, (.v (.one (.c (.int .i64 (a1.Roots.length : Int)))))), (90, (.v (.one (.c (.int .i64 x42))))), (91, (.v (.one (.c (.bool (decide (x42 < (a1.Roots.length : Int))))))))], [(2, (.box [(.c (.int .i64 a1.Length)), (.c (.int .i64 a1.Kind)), (.c (sl 1 (csL 5 cs_Key) a1.Tracks)), (.c (sl 4 cs_RootKey a1.Roots))])), (3, (.box [(.c (.int .i64 (0 : Int))), (.c (.int .i64 (0 : Int))), .nils, .nils])), (4, (.box [(.c (.int .i64 a1.Length)), (.c (.int .i64 a1.Kind)), (.lst 15 x16.length 1 (gl (csL 5 cs_Key) x16)), (.lst 48 x43.length 4 (gl cs_RootKey x43))])), (15, (.lst x16.length 1 (gl (csL 5 cs_Key) x16))), (48, (.lst x43.length 4 (gl cs_RootKey x43)))]⟩) (ob := True ∧ True) (by kernel_rfl) ⟨trivial, trivial⟩ ?_
      refine thenQ_normal ?_
      refine AW.seq ?_
      rcases ite2_cases h with ⟨b44, h⟩ | ⟨b44, h⟩
      · refine AW.cond_t rfl b44 ?_
        refine AW.skip ?_
        refine thenQ_normal ?_
        refine AW.seq ?_
        refine AW.block ?_
        refine AW.seq ?_
        refine AW.regionA [] [4, 6, 8, 13, 89, 90] [2, 3, 4, 15, 48] (s' := ⟨[(4, (.v (.one (.ptr 2 0)))), (6, (.v (.one (.ptr 3 0)))), (8, (.v (.one (.ptr 4 0)))), (13, (.v (.one (.c (.int .i64 x42))))), (89, (.v (.one (.c (.int .i64 (a1.Roots.length : Int)))))), (90, (.v (.one (.c (.int .i64 x42)))))], [(2, (.box [(.c (.int .i64 a1.Length)), (.c (.int .i64 a1.Kind)), (.c (sl 1 (csL 5 cs_Key) a1.Tracks)), (.c (sl 4 cs_RootKey a1.Roots))])), (3, (.box [(.c (.int .i64 (0 : Int))), (.c (.int .i64 (0 : Int))), .nils, .nils])), (4, (.box [(.c (.int .i64 a1.Length)), (.c (.int .i64 a1.Kind)), (.lst 15 x16.length 1 (gl (csL 5 cs_Key) x16)), (.lst 48 x43.length 4 (gl cs_RootKey x43))])), (15, (.lst x16.length 1 (gl (csL 5 cs_Key) x16))), (48, (.lst x43.length 4 (gl cs_RootKey x43)))]⟩) (ob := True ∧ True ∧ True) (by kernel_rfl) ⟨trivial, trivial, trivial⟩ ?_
        refine thenQ_normal ?_
        obtain ⟨c45, h⟩ := chk_some h
        obtain ⟨v46, e47, h⟩ := bind_some h
        obtain ⟨c48, h⟩ := chk_some h
        refine AW.drawnA (by kernel_rfl) 19 [.no, .no, .no, .no, .no, .no, .no, .no, .no, .no, .no, .no, .no, .no, .call [.agg (cs_Vector ((a1.Roots.getD x42.toNat default).Place))] [.agg (cs_Vector v46)] [[.view, .view, .view]], .no, .obj 53 ([(RootKey.mk ((a1.Roots.getD x42.toNat default).At) v46)]).length (gl cs_RootKey ([(RootKey.mk ((a1.Roots.getD x42.toNat default).At) v46)])), .objK 54 (x43 ++ ([(RootKey.mk ((a1.Roots.getD x42.toNat default).At) v46)])).length (gl cs_RootKey (x43 ++ ([(RootKey.mk ((a1.Roots.getD x42.toNat default).At) v46)])))] [4, 6, 8, 89, 90] [2, 3, 4, 15, 54] (s' := ⟨[(4, (.v (.one (.ptr 2 0)))), (6, (.v (.one (.ptr 3 0)))), (8, (.v (.one (.ptr 4 0)))), (89, (.v (.one (.c (.int .i64 (a1.Roots.length : Int)))))), (90, (.v (.one (.c (.int .i64 x42)))))], [(2, (.box [(.c (.int .i64 a1.Length)), (.c (.int .i64 a1.Kind)), (.c (sl 1 (csL 5 cs_Key) a1.Tracks)), (.c (sl 4 cs_RootKey a1.Roots))])), (3, (.box [(.c (.int .i64 (0 : Int))), (.c (.int .i64 (0 : Int))), .nils, .nils])), (4, (.box [(.c (.int .i64 a1.Length)), (.c (.int .i64 a1.Kind)), (.lst 15 x16.length 1 (gl (csL 5 cs_Key) x16)), (.lst 54 (x43 ++ ([(RootKey.mk ((a1.Roots.getD x42.toNat default).At) v46)])).length 4 (gl cs_RootKey (x43 ++ ([(RootKey.mk ((a1.Roots.getD x42.toNat default).At) v46)]))))])), (15, (.lst x16.length 1 (gl (csL 5 cs_Key) x16))), (54, (.lst (x43 ++ ([(RootKey.mk ((a1.Roots.getD x42.toNat default).At) v46)])).length 4 (gl cs_RootKey (x43 ++ ([(RootKey.mk ((a1.Roots.getD x42.toNat default).At) v46)])))))]⟩) (ob := (True ∧ True ∧ True ∧ True ∧ True ∧ (0 ≤ x42 ∧ x42 < (a1.Roots.length : Int)) ∧ True ∧ True ∧ True ∧ True ∧ True ∧ (0 ≤ x42 ∧ x42 < (a1.Roots.length : Int)) ∧ True ∧ True ∧ ((((((.flt .f32 (((a1.Roots.getD x42.toNat default).Place).X).bits) : C) = (.flt .f32 (((a1.Roots.getD x42.toNat default).Place).X).bits)) ∧ (((.flt .f32 (((a1.Roots.getD x42.toNat default).Place).Y).bits) : C) = (.flt .f32 (((a1.Roots.getD x42.toNat default).Place).Y).bits)) ∧ (((.flt .f32 (((a1.Roots.getD x42.toNat default).Place).Z).bits) : C) = (.flt .f32 (((a1.Roots.getD x42.toNat default).Place).Z).bits)) ∧ True) ∧ True) ∧ CallOK Try.prog 98 [.agg (cs_Vector ((a1.Roots.getD x42.toNat default).Place))] [.agg (cs_Vector v46)]) ∧ True ∧ (([(RootKey.mk ((a1.Roots.getD x42.toNat default).At) v46)]).length = 1 ∧ (((.int .i64 ((a1.Roots.getD x42.toNat default).At)) : C) = (.int .i64 ((a1.Roots.getD x42.toNat default).At)) ∧ True) ∧ (((.flt .f32 v46.X.bits) : C) = (.flt .f32 v46.X.bits) ∧ True) ∧ (((.flt .f32 v46.Y.bits) : C) = (.flt .f32 v46.Y.bits) ∧ True) ∧ (((.flt .f32 v46.Z.bits) : C) = (.flt .f32 v46.Z.bits) ∧ True) ∧ True) ∧ ((x43 ++ ([(RootKey.mk ((a1.Roots.getD x42.toNat default).At) v46)])).length = x43.length + ([(RootKey.mk ((a1.Roots.getD x42.toNat default).At) v46)]).length ∧ AppOb (x43.length) (([(RootKey.mk ((a1.Roots.getD x42.toNat default).At) v46)]).length) 4 (gl cs_RootKey x43) (gl cs_RootKey ([(RootKey.mk ((a1.Roots.getD x42.toNat default).At) v46)])) (gl cs_RootKey (x43 ++ ([(RootKey.mk ((a1.Roots.getD x42.toNat default).At) v46)]))) ∧ (∀ i j, i < ([(RootKey.mk ((a1.Roots.getD x42.toNat default).At) v46)]).length → j < 4 → scalarC (gl cs_RootKey ([(RootKey.mk ((a1.Roots.getD x42.toNat default).At) v46)]) i j)) ∧ (x43.length + ([(RootKey.mk ((a1.Roots.getD x42.toNat default).At) v46)]).length) * 24 ≤ 140737488355328) ∧ True ∧ True) ∧ (True ∧ True)) (by kernel_rfl) ⟨⟨trivial, trivial, trivial, trivial, trivial, c45, trivial, trivial, trivial, trivial, trivial, c45, trivial, trivial, ⟨⟨⟨rfl, rfl, rfl, trivial⟩, trivial⟩, ok_spec_l03Mirror K ((a1.Roots.getD x42.toNat default).Place) v46 e47⟩, trivial, ⟨rfl, ⟨⟨rfl, trivial⟩, ⟨rfl, trivial⟩, ⟨rfl, trivial⟩, ⟨rfl, trivial⟩, trivial⟩⟩, ⟨List.length_append, gl_append, gl_scalar sc_RootKey _, c48⟩, trivial, trivial⟩, ⟨trivial, trivial⟩⟩ ?_
        refine blockQ_normal ?_
        refine thenQ_normal ?_
        refine AW.regionA [] [4, 6, 8, 89, 90] [2, 3, 4, 15, 54] (s' := ⟨[(4, (.v (.one (.ptr 2 0)))), (6, (.v (.one (.ptr 3 0)))), (8, (.v (.one (.ptr 4 0)))), (89, (.v (.one (.c (.int .i64 (a1.Roots.length : Int)))))), (90, (.v (.one (.c (.int .i64 (IntKind.i64.wrap (x42 + (1 : Int))))))))], [(2, (.box [(.c (.int .i64 a1.Length)), (.c (.int .i64 a1.Kind)), (.c (sl 1 (csL 5 cs_Key) a1.Tracks)), (.c (sl 4 cs_RootKey a1.Roots))])), (3, (.box [(.c (.int .i64 (0 : Int))), (.c (.int .i64 (0 : Int))), .nils, .nils])), (4, (.box [(.c (.int .i64 a1.Length)), (.c (.int .i64 a1.Kind)), (.lst 15 x16.length 1 (gl (csL 5 cs_Key) x16)), (.lst 54 (x43 ++ ([(RootKey.mk ((a1.Roots.getD x42.toNat default).At) v46)])).length 4 (gl cs_RootKey (x43 ++ ([(RootKey.mk ((a1.Roots.getD x42.toNat default).At) v46)]))))])), (15, (.lst x16.length 1 (gl (csL 5 cs_Key) x16))), (54, (.lst (x43 ++ ([(RootKey.mk ((a1.Roots.getD x42.toNat default).At) v46)])).length 4 (gl cs_RootKey (x43 ++ ([(RootKey.mk ((a1.Roots.getD x42.toNat default).At) v46)])))))]⟩) (ob := True ∧ True ∧ True) (by kernel_rfl) ⟨trivial, trivial, trivial⟩ ?_
        exact loopQ_normal (k, (IntKind.i64.wrap (x42 + (1 : Int))), (x43 ++ ([(RootKey.mk ((a1.Roots.getD x42.toNat default).At) v46)]))) h (Nat.lt_succ_self k) (Sub.trans (Sub.swap 48 54 _ (by kernel_rfl) (by kernel_rfl)) (Sub.keep [4, 6, 8, 89, 90] [2, 3, 4, 15, 48] (by kernel_rfl) (by kernel_rfl)))
      · refine AW.cond_f rfl b44 ?_
        refine AW.exit ?_
        refine thenQ_exit ?_
        refine loopQ_exit ?_
        refine blockQ_exit ?_
        refine thenQ_normal ?_
        refine AW.seq ?_
        refine AW.regionA [] [6, 7] [3, 15, 48] (s' := ⟨[(6, (.v (.one (.ptr 3 0)))), (7, (.v (.one (.c (.bool true)))))], [(3, (.box [(.c (.int .i64 a1.Length)), (.c (.int .i64 a1.Kind)), (.lst 15 x16.length 1 (gl (csL 5 cs_Key) x16)), (.lst 48 x43.length 4 (gl cs_RootKey x43))])), (15, (.lst x16.length 1 (gl (csL 5 cs_Key) x16))), (48, (.lst x43.length 4 (gl cs_RootKey x43)))]⟩) (ob := True ∧ True ∧ True ∧ True) (by kernel_rfl) ⟨trivial, trivial, trivial, trivial⟩ ?_
        refine thenQ_normal ?_
        refine AW.ret ?_
        replace h := some_eq h
        subst h
        exact ⟨.inr rfl, retOK_of [(.agg [(.c (.int .i64 a1.Length)), (.c (.int .i64 a1.Kind)), (.lst 15 x16.length 1 (gl (csL 5 cs_Key) x16)), (.lst 48 x43.length 4 (gl cs_RootKey x43))]), (.one (.c (.bool true)))] (by kernel_rfl) ⟨⟨⟨rfl, trivial⟩, ⟨rfl, trivial⟩, rfl, rfl, trivial⟩, ⟨rfl, trivial⟩, trivial⟩ (of_decide_eq_true (by kernel_rfl))⟩

/-! impl.turnTrack -/
def impl_turnTrack (_K : Nat) : Option (Unit) :=
  some ()

theorem ok_impl_turnTrack (K : Nat) (o : (Unit)) (h : impl_turnTrack K  = some o) : CallOK Try.prog 76 [] [.agg [(.fn 146 0 fun _ => .nilptr), (.fn 147 0 fun _ => .nilptr), (.fn 148 0 fun _ => .nilptr)]] := by
  refine callOK_of_AW Try.func76 rfl (by kernel_rfl) (Nat.le_of_ble_eq_true (by kernel_rfl)) ?_
  intro w0
  unfold impl_turnTrack at h
  refine AW.seq ?_
  refine AW.regionA [.box 1] [0] [1] (s' := ⟨[(0, (.v (.one (.ptr 1 0))))], [(1, (.box [(.c .nilfn), (.c .nilfn), (.c .nilfn)]))]⟩) (ob := True ∧ True) (by kernel_rfl) ⟨trivial, trivial⟩ ?_
  refine thenQ_normal ?_
  refine AW.seq ?_
  refine AW.regionA [] [0] [1] (s' := ⟨[(0, (.v (.one (.ptr 1 0))))], [(1, (.box [(.c (.fn 146 0 fun _ => .nilptr)), (.c (.fn 147 0 fun _ => .nilptr)), (.c (.fn 148 0 fun _ => .nilptr))]))]⟩) (ob := True ∧ True ∧ True) (by kernel_rfl) ⟨trivial, trivial, trivial⟩ ?_
  refine thenQ_normal ?_
  refine AW.ret ?_
  replace h := some_eq h
  subst h
  exact ⟨.inr rfl, retOK_of [(.agg [(.c (.fn 146 0 fun _ => .nilptr)), (.c (.fn 147 0 fun _ => .nilptr)), (.c (.fn 148 0 fun _ => .nilptr))])] (by kernel_rfl) ⟨⟨⟨rfl, rfl⟩, ⟨rfl, rfl⟩, ⟨rfl, rfl⟩, trivial⟩, trivial⟩ (of_decide_eq_true (by kernel_rfl))⟩

/-! impl.turnTrack$1 -/
def impl_turnTrack_1 (_K : Nat) (a0 : Key) : Option (Int) :=
  some a0.At

theorem ok_impl_turnTrack_1 (K : Nat) (a0 : Key) (o : (Int)) (h : impl_turnTrack_1 K a0 = some o) : CallOK Try.prog 146 [.agg (cs_Key a0)] [.one (.int .i64 o)] := by
  refine callOK_of_AW Try.func146 rfl (by kernel_rfl) (Nat.le_of_ble_eq_true (by kernel_rfl)) ?_
  intro w0
  unfold impl_turnTrack_1 at h
  refine AW.seq ?_
  refine AW.regionA [.box 1] [1] [1] (s' := ⟨[(1, (.v (.one (.ptr 1 0))))], [(1, (.box [(.c (.int .i64 a0.At)), (.c (.flt .f32 a0.Turn.W.bits)), (.c (.flt .f32 a0.Turn.X.bits)), (.c (.flt .f32 a0.Turn.Y.bits)), (.c (.flt .f32 a0.Turn.Z.bits))]))]⟩) (ob := True ∧ True ∧ True) (by kernel_rfl) ⟨trivial, trivial, trivial⟩ ?_
  refine thenQ_normal ?_
  refine AW.seq ?_
  refine AW.regionA [] [2] [] (s' := ⟨[(2, (.v (.one (.c (.int .i64 a0.At)))))], []⟩) (ob := True ∧ True ∧ True ∧ True) (by kernel_rfl) ⟨trivial, trivial, trivial, trivial⟩ ?_
  refine thenQ_normal ?_
  refine AW.ret ?_
  replace h := some_eq h
  subst h
  exact ⟨.inr rfl, retOK_of [(.one (.c (.int .i64 a0.At)))] (by kernel_rfl) ⟨⟨rfl, trivial⟩, trivial⟩ (of_decide_eq_true (by kernel_rfl))⟩

end
end Go.Fw
