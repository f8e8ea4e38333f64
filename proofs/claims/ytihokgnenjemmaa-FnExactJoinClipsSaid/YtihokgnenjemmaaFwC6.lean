/- Functions of the program: what each computes, and that it computes just that. -/
import Derived.Test.YtihokgnenjemmaaFwTy
import Derived.Test.YtihokgnenjemmaaFwH
import Derived.Test.YtihokgnenjemmaaFwV
import Derived.Test.YtihokgnenjemmaaFwC62
import Derived.Test.YtihokgnenjemmaaFwUB
import Derived.Test.YtihokgnenjemmaaProg
import Derived.KernelRfl
namespace Go.Fw
open Go Go.Proofs
noncomputable section
set_option maxRecDepth 10000

/-! laws.heldRootKeyS -/
def laws_heldRootKeyS_l1 (K : Nat) (a0 : (List RootKey)) : Nat → Int → Int → Option (Int)
  | 0, _, _ => none
  | k + 1, x3, x4 => ite2 ((decide (x4 < (a0.length : Int)))) (chk (0 ≤ x4 ∧ x4 < (a0.length : Int)) (ite2 ((((a0.getD x4.toNat default).At) != x3)) (some ((-1) : Int)) (ite2 (((((a0.getD x4.toNat default).Place).X).ne (Fl.ofInt .f32 (IntKind.i64.wrap (x3 + (1 : Int)))))) (some ((-1) : Int)) (ite2 (((((a0.getD x4.toNat default).Place).Y).ne (Fl.ofInt .f32 (IntKind.i64.wrap ((IntKind.i64.wrap (x3 + (1 : Int))) + (1 : Int)))))) (some ((-1) : Int)) (ite2 (((((a0.getD x4.toNat default).Place).Z).ne (Fl.ofInt .f32 (IntKind.i64.wrap ((IntKind.i64.wrap ((IntKind.i64.wrap (x3 + (1 : Int))) + (1 : Int))) + (1 : Int)))))) (some ((-1) : Int)) (laws_heldRootKeyS_l1 K a0 k (IntKind.i64.wrap ((IntKind.i64.wrap ((IntKind.i64.wrap ((IntKind.i64.wrap (x3 + (1 : Int))) + (1 : Int))) + (1 : Int))) + (1 : Int))) (IntKind.i64.wrap (x4 + (1 : Int))))))))) (some x3)

def laws_heldRootKeyS (K : Nat) (a0 : (List RootKey)) (a1 : Int) : Option (Int) :=
  laws_heldRootKeyS_l1 K a0 K a1 (0 : Int)

theorem ok_laws_heldRootKeyS (K : Nat) (a0 : (List RootKey)) (a1 : Int) (o : (Int)) (h : laws_heldRootKeyS K a0 a1 = some o) : CallOK Try.prog 73 [.one (sl 4 cs_RootKey a0), .one (.int .i64 a1)] [.one (.int .i64 o)] := by
  refine callOK_of_AW Try.func73 rfl (by kernel_rfl) (Nat.le_of_ble_eq_true (by kernel_rfl)) ?_
  intro w0
  unfold laws_heldRootKeyS at h
  refine AW.seq (AW.rA ⟨[(0, (vc (sl 4 cs_RootKey a0))), (1, (vc (.int .i64 a1)))], []⟩ (Tt ∧ Tt) [] [0, 1] [] ⟨tr, tr⟩ (thenQ_normal ?_))
  refine AW.seq ?_
  refine AW.seq (AW.rA ⟨[(0, (vc (sl 4 cs_RootKey a0))), (1, (vc (.int .i64 a1))), (5, (vc (.int .i64 (0 : Int))))], []⟩ (Tt ∧ Tt) [] [0, 1, 5] [] ⟨tr, tr⟩ (thenQ_normal ?_))
  refine AW.block ?_
  refine AW.loopQ (σ := Nat × Int × Int) (fun p => ⟨[(0, (vc (sl 4 cs_RootKey a0))), (1, (vc (.int .i64 p.2.1))), (5, (vc (.int .i64 p.2.2)))], []⟩) (fun p => laws_heldRootKeyS_l1 K a0 p.1 p.2.1 p.2.2 = some o) (fun p => p.1) (K, a1, (0 : Int)) h ?_
  clear h
  rintro ⟨k, x3, x4⟩ h
  replace h : laws_heldRootKeyS_l1 K a0 k x3 x4 = some o := h
  show AW _ _ (⟨[(0, (vc (sl 4 cs_RootKey a0))), (1, (vc (.int .i64 x3))), (5, (vc (.int .i64 x4)))], []⟩ : St) _
  obtain _ | k := k
  · rw [laws_heldRootKeyS_l1] at h; cases h
  rw [laws_heldRootKeyS_l1] at h
  refine AW.seq ?_
  refine AW.seq (AW.rA ⟨[(0, (vc (sl 4 cs_RootKey a0))), (1, (vc (.int .i64 x3))), (5, (vc (.int .i64 x4))), (9, (vc (.bool (decide (x4 < (a0.length : Int))))))], []⟩ (T4 Tt) [] [0, 1, 5, 9] [] ⟨tr, tr, tr, tr, tr⟩ (thenQ_normal ?_))
  rcases ite2_cases h with ⟨b5, h⟩ | ⟨b5, h⟩
  · refine AW.cond_t rfl b5 ?_
    refine AW.skip ?_
    refine thenQ_normal ?_
    refine AW.seq ?_
    refine AW.block ?_
    refine AW.seq ?_
    refine AW.seq ?_
    obtain ⟨c6, h⟩ := chk_some h
    refine AW.rA ⟨[(0, (vc (sl 4 cs_RootKey a0))), (1, (vc (.int .i64 x3))), (5, (vc (.int .i64 x4))), (18, (vc (.bool (((a0.getD x4.toNat default).At) != x3))))], []⟩ (T2 ((0 ≤ x4 ∧ x4 < (a0.length : Int)) ∧ T4 Tt)) [] [0, 1, 5, 18] [] ⟨tr, tr, c6, tr, tr, tr, tr, tr⟩ ?_
    refine thenQ_normal ?_
    rcases ite2_cases h with ⟨b7, h⟩ | ⟨b7, h⟩
    · refine AW.cond_t rfl b7 ?_
      refine AW.seq (AW.rA ⟨[(4, (vc (.int .i64 ((-1) : Int))))], []⟩ (Tt ∧ Tt) [] [4] [] ⟨tr, tr⟩ (thenQ_normal ?_))
      refine AW.ret ?_
      refine thenQ_ret ?_
      refine blockQ_ret ?_
      refine thenQ_ret ?_
      refine loopQ_ret ?_
      refine blockQ_ret ?_
      refine thenQ_ret ?_
      replace h := some_eq h
      subst h
      exact ⟨.inr rfl, retOK_of [(.one (.c (.int .i64 ((-1) : Int))))] (by kernel_rfl) ⟨⟨rfl, tr⟩, tr⟩ (of_decide_eq_true (by kernel_rfl))⟩
    · refine AW.cond_f rfl b7 ?_
      refine AW.skip ?_
      refine thenQ_normal ?_
      refine AW.seq (AW.rA ⟨[(0, (vc (sl 4 cs_RootKey a0))), (1, (vc (.int .i64 (IntKind.i64.wrap (x3 + (1 : Int)))))), (5, (vc (.int .i64 x4)))], []⟩ (Tt ∧ T2 Tt) [] [0, 1, 5] [] ⟨tr, tr, tr, tr⟩ (thenQ_normal ?_))
      refine AW.seq ?_
      refine AW.seq (AW.rA ⟨[(0, (vc (sl 4 cs_RootKey a0))), (1, (vc (.int .i64 (IntKind.i64.wrap (x3 + (1 : Int)))))), (5, (vc (.int .i64 x4))), (29, (vc (.bool ((((a0.getD x4.toNat default).Place).X).ne (Fl.ofInt .f32 (IntKind.i64.wrap (x3 + (1 : Int))))))))], []⟩ (T2 ((0 ≤ x4 ∧ x4 < (a0.length : Int)) ∧ T2 (T4 Tt))) [] [0, 1, 5, 29] [] ⟨tr, tr, c6, tr, tr, tr, tr, tr, tr, tr⟩ (thenQ_normal ?_))
      rcases ite2_cases h with ⟨b8, h⟩ | ⟨b8, h⟩
      · refine AW.cond_t rfl b8 ?_
        refine AW.seq (AW.rA ⟨[(4, (vc (.int .i64 ((-1) : Int))))], []⟩ (Tt ∧ Tt) [] [4] [] ⟨tr, tr⟩ (thenQ_normal ?_))
        refine AW.ret ?_
        refine thenQ_ret ?_
        refine blockQ_ret ?_
        refine thenQ_ret ?_
        refine loopQ_ret ?_
        refine blockQ_ret ?_
        refine thenQ_ret ?_
        replace h := some_eq h
        subst h
        exact ⟨.inr rfl, retOK_of [(.one (.c (.int .i64 ((-1) : Int))))] (by kernel_rfl) ⟨⟨rfl, tr⟩, tr⟩ (of_decide_eq_true (by kernel_rfl))⟩
      · refine AW.cond_f rfl b8 ?_
        refine AW.skip ?_
        refine thenQ_normal ?_
        refine AW.seq (AW.rA ⟨[(0, (vc (sl 4 cs_RootKey a0))), (1, (vc (.int .i64 (IntKind.i64.wrap ((IntKind.i64.wrap (x3 + (1 : Int))) + (1 : Int)))))), (5, (vc (.int .i64 x4)))], []⟩ (Tt ∧ T2 Tt) [] [0, 1, 5] [] ⟨tr, tr, tr, tr⟩ (thenQ_normal ?_))
        refine AW.seq ?_
        refine AW.seq (AW.rA ⟨[(0, (vc (sl 4 cs_RootKey a0))), (1, (vc (.int .i64 (IntKind.i64.wrap ((IntKind.i64.wrap (x3 + (1 : Int))) + (1 : Int)))))), (5, (vc (.int .i64 x4))), (40, (vc (.bool ((((a0.getD x4.toNat default).Place).Y).ne (Fl.ofInt .f32 (IntKind.i64.wrap ((IntKind.i64.wrap (x3 + (1 : Int))) + (1 : Int))))))))], []⟩ (T2 ((0 ≤ x4 ∧ x4 < (a0.length : Int)) ∧ T2 (T4 Tt))) [] [0, 1, 5, 40] [] ⟨tr, tr, c6, tr, tr, tr, tr, tr, tr, tr⟩ (thenQ_normal ?_))
        rcases ite2_cases h with ⟨b9, h⟩ | ⟨b9, h⟩
        · refine AW.cond_t rfl b9 ?_
          refine AW.seq (AW.rA ⟨[(4, (vc (.int .i64 ((-1) : Int))))], []⟩ (Tt ∧ Tt) [] [4] [] ⟨tr, tr⟩ (thenQ_normal ?_))
          refine AW.ret ?_
          refine thenQ_ret ?_
          refine blockQ_ret ?_
          refine thenQ_ret ?_
          refine loopQ_ret ?_
          refine blockQ_ret ?_
          refine thenQ_ret ?_
          replace h := some_eq h
          subst h
          exact ⟨.inr rfl, retOK_of [(.one (.c (.int .i64 ((-1) : Int))))] (by kernel_rfl) ⟨⟨rfl, tr⟩, tr⟩ (of_decide_eq_true (by kernel_rfl))⟩
        · refine AW.cond_f rfl b9 ?_
          refine AW.skip ?_
          refine thenQ_normal ?_
          refine AW.seq (AW.rA ⟨[(0, (vc (sl 4 cs_RootKey a0))), (1, (vc (.int .i64 (IntKind.i64.wrap ((IntKind.i64.wrap ((IntKind.i64.wrap (x3 + (1 : Int))) + (1 : Int))) + (1 : Int)))))), (5, (vc (.int .i64 x4)))], []⟩ (Tt ∧ T2 Tt) [] [0, 1, 5] [] ⟨tr, tr, tr, tr⟩ (thenQ_normal ?_))
          refine AW.seq ?_
          refine AW.seq (AW.rA ⟨[(0, (vc (sl 4 cs_RootKey a0))), (1, (vc (.int .i64 (IntKind.i64.wrap ((IntKind.i64.wrap ((IntKind.i64.wrap (x3 + (1 : Int))) + (1 : Int))) + (1 : Int)))))), (5, (vc (.int .i64 x4))), (51, (vc (.bool ((((a0.getD x4.toNat default).Place).Z).ne (Fl.ofInt .f32 (IntKind.i64.wrap ((IntKind.i64.wrap ((IntKind.i64.wrap (x3 + (1 : Int))) + (1 : Int))) + (1 : Int))))))))], []⟩ (T2 ((0 ≤ x4 ∧ x4 < (a0.length : Int)) ∧ T2 (T4 Tt))) [] [0, 1, 5, 51] [] ⟨tr, tr, c6, tr, tr, tr, tr, tr, tr, tr⟩ (thenQ_normal ?_))
          rcases ite2_cases h with ⟨b10, h⟩ | ⟨b10, h⟩
          · refine AW.cond_t rfl b10 ?_
            refine AW.seq (AW.rA ⟨[(4, (vc (.int .i64 ((-1) : Int))))], []⟩ (Tt ∧ Tt) [] [4] [] ⟨tr, tr⟩ (thenQ_normal ?_))
            refine AW.ret ?_
            refine thenQ_ret ?_
            refine blockQ_ret ?_
            refine thenQ_ret ?_
            refine loopQ_ret ?_
            refine blockQ_ret ?_
            refine thenQ_ret ?_
            replace h := some_eq h
            subst h
            exact ⟨.inr rfl, retOK_of [(.one (.c (.int .i64 ((-1) : Int))))] (by kernel_rfl) ⟨⟨rfl, tr⟩, tr⟩ (of_decide_eq_true (by kernel_rfl))⟩
          · refine AW.cond_f rfl b10 ?_
            refine AW.skip ?_
            refine thenQ_normal ?_
            refine AW.rA ⟨[(0, (vc (sl 4 cs_RootKey a0))), (1, (vc (.int .i64 (IntKind.i64.wrap ((IntKind.i64.wrap ((IntKind.i64.wrap ((IntKind.i64.wrap (x3 + (1 : Int))) + (1 : Int))) + (1 : Int))) + (1 : Int)))))), (5, (vc (.int .i64 x4)))], []⟩ (Tt ∧ T2 Tt) [] [0, 1, 5] [] ⟨tr, tr, tr, tr⟩ ?_
            refine blockQ_normal ?_
            refine thenQ_normal ?_
            refine AW.rA ⟨[(0, (vc (sl 4 cs_RootKey a0))), (1, (vc (.int .i64 (IntKind.i64.wrap ((IntKind.i64.wrap ((IntKind.i64.wrap ((IntKind.i64.wrap (x3 + (1 : Int))) + (1 : Int))) + (1 : Int))) + (1 : Int)))))), (5, (vc (.int .i64 (IntKind.i64.wrap (x4 + (1 : Int))))))], []⟩ (Tt ∧ T2 Tt) [] [0, 1, 5] [] ⟨tr, tr, tr, tr⟩ ?_
            exact loopQ_normal (k, (IntKind.i64.wrap ((IntKind.i64.wrap ((IntKind.i64.wrap ((IntKind.i64.wrap (x3 + (1 : Int))) + (1 : Int))) + (1 : Int))) + (1 : Int))), (IntKind.i64.wrap (x4 + (1 : Int)))) h (Nat.lt_succ_self k) (Sub.keep [0, 1, 5] [] (by kernel_rfl) (by kernel_rfl))
  · refine AW.cond_f rfl b5 ?_
    refine AW.exit ?_
    refine thenQ_exit ?_
    refine loopQ_exit ?_
    refine blockQ_exit ?_
    refine thenQ_normal ?_
    refine AW.seq (AW.rA ⟨[(4, (vc (.int .i64 x3)))], []⟩ (T2 Tt) [] [4] [] ⟨tr, tr, tr⟩ (thenQ_normal ?_))
    refine AW.ret ?_
    replace h := some_eq h
    subst h
    exact ⟨.inr rfl, retOK_of [(.one (.c (.int .i64 x3)))] (by kernel_rfl) ⟨⟨rfl, tr⟩, tr⟩ (of_decide_eq_true (by kernel_rfl))⟩

/-! laws.heldClip -/
def laws_heldClip (K : Nat) (a0 : Clip) (a1 : Int) : Option (Int) :=
  (laws_heldKeySS K a0.Tracks a1).bind fun v1 => ite2 ((decide (v1 < (0 : Int)))) (some ((-1) : Int)) ((laws_heldRootKeyS K a0.Roots v1).bind fun v4 => ite2 ((decide (v4 < (0 : Int)))) (some ((-1) : Int)) (some v4))

theorem ok_laws_heldClip (K : Nat) (a0 : Clip) (a1 : Int) (o : (Int)) (h : laws_heldClip K a0 a1 = some o) : CallOK Try.prog 17 [.agg (cs_Clip a0), .one (.int .i64 a1)] [.one (.int .i64 o)] := by
  refine callOK_of_AW Try.func17 rfl (by kernel_rfl) (Nat.le_of_ble_eq_true (by kernel_rfl)) ?_
  intro w0
  unfold laws_heldClip at h
  refine AW.seq (AW.rA ⟨[(1, (vc (.int .i64 a1))), (2, (vp 1 0))], [(1, (.box [(.c (.int .i64 a0.Length)), (.c (.int .i64 a0.Kind)), (.c (sl 1 (csL 5 cs_Key) a0.Tracks)), (.c (sl 4 cs_RootKey a0.Roots))]))]⟩ (T2 Tt) [.box 1] [1, 2] [1] ⟨tr, tr, tr⟩ (thenQ_normal ?_))
  refine AW.seq ?_
  obtain ⟨v1, e2, h⟩ := bind_some h
  refine AW.rA ⟨[(1, (vc (.int .i64 v1))), (2, (vp 1 0))], [(1, (.box [(.c (.int .i64 a0.Length)), (.c (.int .i64 a0.Kind)), (.c (sl 1 (csL 5 cs_Key) a0.Tracks)), (.c (sl 4 cs_RootKey a0.Roots))]))]⟩ (Tt ∧ T2 ((((Eqc (sl 1 (csL 5 cs_Key) a0.Tracks)) ∧ (Eqc (.int .i64 a1)) ∧ Tt) ∧ CallOK Try.prog 72 [.one (sl 1 (csL 5 cs_Key) a0.Tracks), .one (.int .i64 a1)] [.one (.int .i64 v1)]) ∧ Tt ∧ Tt)) [.no, .no, .no, .call [.one (sl 1 (csL 5 cs_Key) a0.Tracks), .one (.int .i64 a1)] [.one (.int .i64 v1)] [[.view]]] [1, 2] [1] ⟨tr, tr, tr, ⟨⟨rfl, rfl, tr⟩, ok_laws_heldKeySS K a0.Tracks a1 v1 e2⟩, tr, tr⟩ ?_
  refine thenQ_normal ?_
  refine AW.seq ?_
  refine AW.seq (AW.rA ⟨[(1, (vc (.int .i64 v1))), (2, (vp 1 0)), (10, (vc (.bool (decide (v1 < (0 : Int))))))], [(1, (.box [(.c (.int .i64 a0.Length)), (.c (.int .i64 a0.Kind)), (.c (sl 1 (csL 5 cs_Key) a0.Tracks)), (.c (sl 4 cs_RootKey a0.Roots))]))]⟩ (T2 Tt) [] [1, 2, 10] [1] ⟨tr, tr, tr⟩ (thenQ_normal ?_))
  rcases ite2_cases h with ⟨b3, h⟩ | ⟨b3, h⟩
  · refine AW.cond_t rfl b3 ?_
    refine AW.seq (AW.rA ⟨[(4, (vc (.int .i64 ((-1) : Int))))], []⟩ (Tt ∧ Tt) [] [4] [] ⟨tr, tr⟩ (thenQ_normal ?_))
    refine AW.ret ?_
    refine thenQ_ret ?_
    replace h := some_eq h
    subst h
    exact ⟨.inr rfl, retOK_of [(.one (.c (.int .i64 ((-1) : Int))))] (by kernel_rfl) ⟨⟨rfl, tr⟩, tr⟩ (of_decide_eq_true (by kernel_rfl))⟩
  · refine AW.cond_f rfl b3 ?_
    refine AW.skip ?_
    refine thenQ_normal ?_
    refine AW.seq ?_
    obtain ⟨v4, e5, h⟩ := bind_some h
    refine AW.rA ⟨[(1, (vc (.int .i64 v4)))], []⟩ (Tt ∧ T2 ((((Eqc (sl 4 cs_RootKey a0.Roots)) ∧ (Eqc (.int .i64 v1)) ∧ Tt) ∧ CallOK Try.prog 73 [.one (sl 4 cs_RootKey a0.Roots), .one (.int .i64 v1)] [.one (.int .i64 v4)]) ∧ Tt ∧ Tt)) [.no, .no, .no, .call [.one (sl 4 cs_RootKey a0.Roots), .one (.int .i64 v1)] [.one (.int .i64 v4)] [[.view]]] [1] [] ⟨tr, tr, tr, ⟨⟨rfl, rfl, tr⟩, ok_laws_heldRootKeyS K a0.Roots v1 v4 e5⟩, tr, tr⟩ ?_
    refine thenQ_normal ?_
    refine AW.seq ?_
    refine AW.seq (AW.rA ⟨[(1, (vc (.int .i64 v4))), (16, (vc (.bool (decide (v4 < (0 : Int))))))], []⟩ (T2 Tt) [] [1, 16] [] ⟨tr, tr, tr⟩ (thenQ_normal ?_))
    rcases ite2_cases h with ⟨b6, h⟩ | ⟨b6, h⟩
    · refine AW.cond_t rfl b6 ?_
      refine AW.seq (AW.rA ⟨[(4, (vc (.int .i64 ((-1) : Int))))], []⟩ (Tt ∧ Tt) [] [4] [] ⟨tr, tr⟩ (thenQ_normal ?_))
      refine AW.ret ?_
      refine thenQ_ret ?_
      replace h := some_eq h
      subst h
      exact ⟨.inr rfl, retOK_of [(.one (.c (.int .i64 ((-1) : Int))))] (by kernel_rfl) ⟨⟨rfl, tr⟩, tr⟩ (of_decide_eq_true (by kernel_rfl))⟩
    · refine AW.cond_f rfl b6 ?_
      refine AW.skip ?_
      refine thenQ_normal ?_
      refine AW.seq (AW.rA ⟨[(4, (vc (.int .i64 v4)))], []⟩ (T2 Tt) [] [4] [] ⟨tr, tr, tr⟩ (thenQ_normal ?_))
      refine AW.ret ?_
      replace h := some_eq h
      subst h
      exact ⟨.inr rfl, retOK_of [(.one (.c (.int .i64 v4)))] (by kernel_rfl) ⟨⟨rfl, tr⟩, tr⟩ (of_decide_eq_true (by kernel_rfl))⟩

/-! laws.FnExactJoinClips -/
def laws_FnExactJoinClips (K : Nat) (a0 : Clip) (a1 : Clip) : Option (Bool) :=
  (laws_szClip K a0 (1048576 : Int)).bind fun v1 => ite2 ((decide (v1 < (0 : Int)))) (some true) ((laws_szClip K a1 v1).bind fun v4 => ite2 ((decide (v4 < (0 : Int)))) (some true) ((laws_toClip K a0).bind fun v7 => (laws_toClip K a1).bind fun v9 => (spec_JoinClips K v7 v9).bind fun v11 => (laws_toClip K a0).bind fun v13 => (laws_toClip K a1).bind fun v15 => (impl_JoinClips K v13 v15).bind fun v17 => (laws_eqClip K v17.1 v11.1).bind fun v19 => (ite2 ((!v19)) (some true) (some (!(v17.2 == v11.2)))).bind fun j22 => ite2 (j22) (some false) ((laws_toClip K a0).bind fun v25 => (laws_eqClip K v13 v25).bind fun v27 => ite2 ((!v27)) (some false) ((laws_toClip K a1).bind fun v30 => (laws_eqClip K v15 v30).bind fun v32 => ite2 ((!v32)) (some false) ((laws_markClip K v13 (1 : Int)).bind fun v35 => chk (v35.2.1.length = v13.Tracks.length) (chk (v35.2.2.length = v13.Roots.length) ((laws_markClip K v15 v35.1).bind fun v39 => chk (v39.2.1.length = v15.Tracks.length) (chk (v39.2.2.length = v15.Roots.length) ((ite2 ((decide (v39.1 < (0 : Int)))) (some true) ((laws_eqClip K v17.1 v11.1).bind fun v44 => ite2 ((!v44)) (some true) (some (!(v17.2 == v11.2))))).bind fun j47 => ite2 (j47) (some false) ((laws_markClip K v17.1 (1 : Int)).bind fun v50 => chk (v50.2.1.length = v17.1.Tracks.length) (chk (v50.2.2.length = v17.1.Roots.length) ((laws_heldClip K (Clip.mk v17.1.Length v17.1.Kind v50.2.1 v50.2.2) (1 : Int)).bind fun v54 => ite2 ((decide (v54 < (0 : Int)))) (some false) (ite2 ((v54 != v50.1)) (some false) ((laws_toClip K a0).bind fun v58 => (laws_toClip K a1).bind fun v60 => (impl_JoinClips K v58 v60).bind fun v62 => (laws_eqClip K v62.1 v11.1).bind fun v64 => (ite2 ((!v64)) (some true) (some (!(v62.2 == v11.2)))).bind fun j67 => ite2 (j67) (some false) ((laws_heldClip K (Clip.mk v17.1.Length v17.1.Kind v50.2.1 v50.2.2) (1 : Int)).bind fun v70 => ite2 ((decide (v70 < (0 : Int)))) (some false) (ite2 ((v70 != v50.1)) (some false) (some true)))))))))))))))))

theorem ok_laws_FnExactJoinClips (K : Nat) (a0 : Clip) (a1 : Clip) (o : (Bool)) (h : laws_FnExactJoinClips K a0 a1 = some o) : CallOK Try.prog 6 [.agg (cs_Clip a0), .agg (cs_Clip a1)] [.one (.bool o)] := by
  refine callOK_of_AW Try.func6 rfl (by kernel_rfl) (Nat.le_of_ble_eq_true (by kernel_rfl)) ?_
  intro w0
  unfold laws_FnExactJoinClips at h
  refine AW.seq (AW.rA ⟨[(2, (vp 1 0)), (3, (vp 2 0))], [(1, (.box [(.c (.int .i64 a0.Length)), (.c (.int .i64 a0.Kind)), (.c (sl 1 (csL 5 cs_Key) a0.Tracks)), (.c (sl 4 cs_RootKey a0.Roots))])), (2, (.box [(.c (.int .i64 a1.Length)), (.c (.int .i64 a1.Kind)), (.c (sl 1 (csL 5 cs_Key) a1.Tracks)), (.c (sl 4 cs_RootKey a1.Roots))]))]⟩ (Tt ∧ T2 Tt) [.box 1, .box 2] [2, 3] [1, 2] ⟨tr, tr, tr, tr⟩ (thenQ_normal ?_))
  refine AW.seq (AW.rA ⟨[(2, (vp 1 0)), (3, (vp 2 0)), (5, (vc (.int .i64 (1048576 : Int))))], [(1, (.box [(.c (.int .i64 a0.Length)), (.c (.int .i64 a0.Kind)), (.c (sl 1 (csL 5 cs_Key) a0.Tracks)), (.c (sl 4 cs_RootKey a0.Roots))])), (2, (.box [(.c (.int .i64 a1.Length)), (.c (.int .i64 a1.Kind)), (.c (sl 1 (csL 5 cs_Key) a1.Tracks)), (.c (sl 4 cs_RootKey a1.Roots))]))]⟩ (Tt ∧ Tt) [] [2, 3, 5] [1, 2] ⟨tr, tr⟩ (thenQ_normal ?_))
  refine AW.seq ?_
  obtain ⟨v1, e2, h⟩ := bind_some h
  refine AW.rA ⟨[(2, (vp 1 0)), (3, (vp 2 0)), (5, (vc (.int .i64 v1)))], [(1, (.box [(.c (.int .i64 a0.Length)), (.c (.int .i64 a0.Kind)), (.c (sl 1 (csL 5 cs_Key) a0.Tracks)), (.c (sl 4 cs_RootKey a0.Roots))])), (2, (.box [(.c (.int .i64 a1.Length)), (.c (.int .i64 a1.Kind)), (.c (sl 1 (csL 5 cs_Key) a1.Tracks)), (.c (sl 4 cs_RootKey a1.Roots))]))]⟩ (T2 (((((Eqc (.int .i64 a0.Length)) ∧ (Eqc (.int .i64 a0.Kind)) ∧ (Eqc (sl 1 (csL 5 cs_Key) a0.Tracks)) ∧ (Eqc (sl 4 cs_RootKey a0.Roots)) ∧ Tt) ∧ (Eqc (.int .i64 (1048576 : Int))) ∧ Tt) ∧ CallOK Try.prog 11 [.agg (cs_Clip a0), .one (.int .i64 (1048576 : Int))] [.one (.int .i64 v1)]) ∧ Tt ∧ Tt)) [.no, .no, .call [.agg (cs_Clip a0), .one (.int .i64 (1048576 : Int))] [.one (.int .i64 v1)] [[.view]]] [2, 3, 5] [1, 2] ⟨tr, tr, ⟨⟨⟨rfl, rfl, rfl, rfl, tr⟩, rfl, tr⟩, ok_laws_szClip K a0 (1048576 : Int) v1 e2⟩, tr, tr⟩ ?_
  refine thenQ_normal ?_
  refine AW.seq ?_
  refine AW.seq (AW.rA ⟨[(2, (vp 1 0)), (3, (vp 2 0)), (5, (vc (.int .i64 v1))), (21, (vc (.bool (decide (v1 < (0 : Int))))))], [(1, (.box [(.c (.int .i64 a0.Length)), (.c (.int .i64 a0.Kind)), (.c (sl 1 (csL 5 cs_Key) a0.Tracks)), (.c (sl 4 cs_RootKey a0.Roots))])), (2, (.box [(.c (.int .i64 a1.Length)), (.c (.int .i64 a1.Kind)), (.c (sl 1 (csL 5 cs_Key) a1.Tracks)), (.c (sl 4 cs_RootKey a1.Roots))]))]⟩ (T2 Tt) [] [2, 3, 5, 21] [1, 2] ⟨tr, tr, tr⟩ (thenQ_normal ?_))
  rcases ite2_cases h with ⟨b3, h⟩ | ⟨b3, h⟩
  · refine AW.cond_t rfl b3 ?_
    refine AW.seq (AW.rA ⟨[(4, (vc (.bool true)))], []⟩ (Tt ∧ Tt) [] [4] [] ⟨tr, tr⟩ (thenQ_normal ?_))
    refine AW.ret ?_
    refine thenQ_ret ?_
    replace h := some_eq h
    subst h
    exact ⟨.inr rfl, retOK_of [(.one (.c (.bool true)))] (by kernel_rfl) ⟨⟨rfl, tr⟩, tr⟩ (of_decide_eq_true (by kernel_rfl))⟩
  · refine AW.cond_f rfl b3 ?_
    refine AW.skip ?_
    refine thenQ_normal ?_
    refine AW.seq ?_
    obtain ⟨v4, e5, h⟩ := bind_some h
    refine AW.rA ⟨[(2, (vp 1 0)), (3, (vp 2 0)), (5, (vc (.int .i64 v4)))], [(1, (.box [(.c (.int .i64 a0.Length)), (.c (.int .i64 a0.Kind)), (.c (sl 1 (csL 5 cs_Key) a0.Tracks)), (.c (sl 4 cs_RootKey a0.Roots))])), (2, (.box [(.c (.int .i64 a1.Length)), (.c (.int .i64 a1.Kind)), (.c (sl 1 (csL 5 cs_Key) a1.Tracks)), (.c (sl 4 cs_RootKey a1.Roots))]))]⟩ (T2 (((((Eqc (.int .i64 a1.Length)) ∧ (Eqc (.int .i64 a1.Kind)) ∧ (Eqc (sl 1 (csL 5 cs_Key) a1.Tracks)) ∧ (Eqc (sl 4 cs_RootKey a1.Roots)) ∧ Tt) ∧ (Eqc (.int .i64 v1)) ∧ Tt) ∧ CallOK Try.prog 11 [.agg (cs_Clip a1), .one (.int .i64 v1)] [.one (.int .i64 v4)]) ∧ Tt ∧ Tt)) [.no, .no, .call [.agg (cs_Clip a1), .one (.int .i64 v1)] [.one (.int .i64 v4)] [[.view]]] [2, 3, 5] [1, 2] ⟨tr, tr, ⟨⟨⟨rfl, rfl, rfl, rfl, tr⟩, rfl, tr⟩, ok_laws_szClip K a1 v1 v4 e5⟩, tr, tr⟩ ?_
    refine thenQ_normal ?_
    refine AW.seq ?_
    refine AW.seq (AW.rA ⟨[(2, (vp 1 0)), (3, (vp 2 0)), (26, (vc (.bool (decide (v4 < (0 : Int))))))], [(1, (.box [(.c (.int .i64 a0.Length)), (.c (.int .i64 a0.Kind)), (.c (sl 1 (csL 5 cs_Key) a0.Tracks)), (.c (sl 4 cs_RootKey a0.Roots))])), (2, (.box [(.c (.int .i64 a1.Length)), (.c (.int .i64 a1.Kind)), (.c (sl 1 (csL 5 cs_Key) a1.Tracks)), (.c (sl 4 cs_RootKey a1.Roots))]))]⟩ (T2 Tt) [] [2, 3, 26] [1, 2] ⟨tr, tr, tr⟩ (thenQ_normal ?_))
    rcases ite2_cases h with ⟨b6, h⟩ | ⟨b6, h⟩
    · refine AW.cond_t rfl b6 ?_
      refine AW.seq (AW.rA ⟨[(4, (vc (.bool true)))], []⟩ (Tt ∧ Tt) [] [4] [] ⟨tr, tr⟩ (thenQ_normal ?_))
      refine AW.ret ?_
      refine thenQ_ret ?_
      replace h := some_eq h
      subst h
      exact ⟨.inr rfl, retOK_of [(.one (.c (.bool true)))] (by kernel_rfl) ⟨⟨rfl, tr⟩, tr⟩ (of_decide_eq_true (by kernel_rfl))⟩
    · refine AW.cond_f rfl b6 ?_
      refine AW.skip ?_
      refine thenQ_normal ?_
      refine AW.seq ?_
      obtain ⟨v7, e8, h⟩ := bind_some h
      obtain ⟨v9, e10, h⟩ := bind_some h
      obtain ⟨v11, e12, h⟩ := bind_some h
      refine AW.lateA (by kernel_rfl) 9 7 [.no, .call [.agg (cs_Clip a0)] [.agg (cs_Clip v7)] [[.view, .view, .lst 3, .lst 4]], .no, .call [.agg (cs_Clip a1)] [.agg (cs_Clip v9)] [[.view, .view, .lst 5, .lst 6]], .call [.agg (cs_Clip v7), .agg (cs_Clip v9)] [.agg (cs_Clip v11.1), .one (.bool v11.2)] [[.view, .view, .lst 7, .lst 8], [.view]], .no, .no, .no, .box 9] [2, 3, 6, 7] [1, 2, 7, 8, 9] (s' := ⟨[(2, (vp 1 0)), (3, (vp 2 0)), (6, (vp 9 0)), (7, (vc (.bool v11.2)))], [(1, (.box [(.c (.int .i64 a0.Length)), (.c (.int .i64 a0.Kind)), (.c (sl 1 (csL 5 cs_Key) a0.Tracks)), (.c (sl 4 cs_RootKey a0.Roots))])), (2, (.box [(.c (.int .i64 a1.Length)), (.c (.int .i64 a1.Kind)), (.c (sl 1 (csL 5 cs_Key) a1.Tracks)), (.c (sl 4 cs_RootKey a1.Roots))])), (7, (.lst v11.1.Tracks.length 1 (gl (csL 5 cs_Key) v11.1.Tracks))), (8, (.lst v11.1.Roots.length 4 (gl cs_RootKey v11.1.Roots))), (9, (.box [(.c (.int .i64 v11.1.Length)), (.c (.int .i64 v11.1.Kind)), (.lst 7 v11.1.Tracks.length 1 (gl (csL 5 cs_Key) v11.1.Tracks)), (.lst 8 v11.1.Roots.length 4 (gl cs_RootKey v11.1.Roots))]))]⟩) (ob := (Tt ∧ ((((Eqc (.int .i64 a0.Length)) ∧ (Eqc (.int .i64 a0.Kind)) ∧ (Eqc (sl 1 (csL 5 cs_Key) a0.Tracks)) ∧ (Eqc (sl 4 cs_RootKey a0.Roots)) ∧ Tt) ∧ Tt) ∧ CallOK Try.prog 13 [.agg (cs_Clip a0)] [.agg (cs_Clip v7)]) ∧ Tt ∧ ((((Eqc (.int .i64 a1.Length)) ∧ (Eqc (.int .i64 a1.Kind)) ∧ (Eqc (sl 1 (csL 5 cs_Key) a1.Tracks)) ∧ (Eqc (sl 4 cs_RootKey a1.Roots)) ∧ Tt) ∧ Tt) ∧ CallOK Try.prog 13 [.agg (cs_Clip a1)] [.agg (cs_Clip v9)]) ∧ ((((Eqc (.int .i64 v7.Length)) ∧ (Eqc (.int .i64 v7.Kind)) ∧ (Eqc (sl 1 (csL 5 cs_Key) v7.Tracks)) ∧ (Eqc (sl 4 cs_RootKey v7.Roots)) ∧ Tt) ∧ ((Eqc (.int .i64 v9.Length)) ∧ (Eqc (.int .i64 v9.Kind)) ∧ (Eqc (sl 1 (csL 5 cs_Key) v9.Tracks)) ∧ (Eqc (sl 4 cs_RootKey v9.Roots)) ∧ Tt) ∧ Tt) ∧ CallOK Try.prog 22 [.agg (cs_Clip v7), .agg (cs_Clip v9)] [.agg (cs_Clip v11.1), .one (.bool v11.2)]) ∧ T4 Tt) ∧ (T2 Tt) ∧ (Tt ∧ T2 Tt) ∧ ((⟨[(2, (vp 1 0)), (3, (vp 2 0)), (6, (vp 9 0)), (7, (vc (.bool v11.2)))], [(1, (.box [(.c (.int .i64 a0.Length)), (.c (.int .i64 a0.Kind)), (.c (sl 1 (csL 5 cs_Key) a0.Tracks)), (.c (sl 4 cs_RootKey a0.Roots))])), (2, (.box [(.c (.int .i64 a1.Length)), (.c (.int .i64 a1.Kind)), (.c (sl 1 (csL 5 cs_Key) a1.Tracks)), (.c (sl 4 cs_RootKey a1.Roots))])), (7, (.lst v11.1.Tracks.length 1 (gl (csL 5 cs_Key) v11.1.Tracks))), (8, (.lst v11.1.Roots.length 4 (gl cs_RootKey v11.1.Roots))), (9, (.box [(.c (.int .i64 v11.1.Length)), (.c (.int .i64 v11.1.Kind)), (.lst 7 v11.1.Tracks.length 1 (gl (csL 5 cs_Key) v11.1.Tracks)), (.lst 8 v11.1.Roots.length 4 (gl cs_RootKey v11.1.Roots))]))]⟩ : St) = ⟨[(2, (vp 1 0)), (3, (vp 2 0)), (6, (vp 9 0)), (7, (vc (.bool v11.2)))], [(1, (.box [(.c (.int .i64 a0.Length)), (.c (.int .i64 a0.Kind)), (.c (sl 1 (csL 5 cs_Key) a0.Tracks)), (.c (sl 4 cs_RootKey a0.Roots))])), (2, (.box [(.c (.int .i64 a1.Length)), (.c (.int .i64 a1.Kind)), (.c (sl 1 (csL 5 cs_Key) a1.Tracks)), (.c (sl 4 cs_RootKey a1.Roots))])), (7, (.lst v11.1.Tracks.length 1 (gl (csL 5 cs_Key) v11.1.Tracks))), (8, (.lst v11.1.Roots.length 4 (gl cs_RootKey v11.1.Roots))), (9, (.box [(.c (.int .i64 v11.1.Length)), (.c (.int .i64 v11.1.Kind)), (.lst 7 v11.1.Tracks.length 1 (gl (csL 5 cs_Key) v11.1.Tracks)), (.lst 8 v11.1.Roots.length 4 (gl cs_RootKey v11.1.Roots))]))]⟩)) (by kernel_rfl) ⟨⟨tr, ⟨⟨⟨rfl, rfl, rfl, rfl, tr⟩, tr⟩, ok_laws_toClip K a0 v7 e8⟩, tr, ⟨⟨⟨rfl, rfl, rfl, rfl, tr⟩, tr⟩, ok_laws_toClip K a1 v9 e10⟩, ⟨⟨⟨rfl, rfl, rfl, rfl, tr⟩, ⟨rfl, rfl, rfl, rfl, tr⟩, tr⟩, ok_spec_JoinClips K v7 v9 v11 e12⟩, tr, tr, tr, tr, tr⟩, ⟨tr, tr, tr⟩, ⟨tr, tr, tr, tr⟩, rfl⟩ ?_
      refine thenQ_normal ?_
      refine AW.seq ?_
      obtain ⟨v13, e14, h⟩ := bind_some h
      refine AW.rA ⟨[(2, (vp 1 0)), (3, (vp 2 0)), (6, (vp 9 0)), (7, (vc (.bool v11.2))), (8, (vp 12 0))], [(1, (.box [(.c (.int .i64 a0.Length)), (.c (.int .i64 a0.Kind)), (.c (sl 1 (csL 5 cs_Key) a0.Tracks)), (.c (sl 4 cs_RootKey a0.Roots))])), (2, (.box [(.c (.int .i64 a1.Length)), (.c (.int .i64 a1.Kind)), (.c (sl 1 (csL 5 cs_Key) a1.Tracks)), (.c (sl 4 cs_RootKey a1.Roots))])), (7, (.lst v11.1.Tracks.length 1 (gl (csL 5 cs_Key) v11.1.Tracks))), (8, (.lst v11.1.Roots.length 4 (gl cs_RootKey v11.1.Roots))), (9, (.box [(.c (.int .i64 v11.1.Length)), (.c (.int .i64 v11.1.Kind)), (.lst 7 v11.1.Tracks.length 1 (gl (csL 5 cs_Key) v11.1.Tracks)), (.lst 8 v11.1.Roots.length 4 (gl cs_RootKey v11.1.Roots))])), (10, (.arr true v13.Tracks.length 1 (gl (csL 5 cs_Key) v13.Tracks))), (11, (.arr true v13.Roots.length 4 (gl cs_RootKey v13.Roots))), (12, (.box [(.c (.int .i64 v13.Length)), (.c (.int .i64 v13.Kind)), (.arr 10), (.arr 11)]))]⟩ (Tt ∧ ((((Eqc (.int .i64 a0.Length)) ∧ (Eqc (.int .i64 a0.Kind)) ∧ (Eqc (sl 1 (csL 5 cs_Key) a0.Tracks)) ∧ (Eqc (sl 4 cs_RootKey a0.Roots)) ∧ Tt) ∧ Tt) ∧ CallOK Try.prog 13 [.agg (cs_Clip a0)] [.agg (cs_Clip v13)]) ∧ T2 Tt) [.no, .call [.agg (cs_Clip a0)] [.agg (cs_Clip v13)] [[.view, .view, .own 10, .own 11]], .box 12] [2, 3, 6, 7, 8] [1, 2, 7, 8, 9, 10, 11, 12] ⟨tr, ⟨⟨⟨rfl, rfl, rfl, rfl, tr⟩, tr⟩, ok_laws_toClip K a0 v13 e14⟩, tr, tr, tr⟩ ?_
      refine thenQ_normal ?_
      refine AW.seq ?_
      obtain ⟨v15, e16, h⟩ := bind_some h
      refine AW.rA ⟨[(2, (vp 1 0)), (3, (vp 2 0)), (6, (vp 9 0)), (7, (vc (.bool v11.2))), (8, (vp 12 0)), (9, (vp 15 0))], [(1, (.box [(.c (.int .i64 a0.Length)), (.c (.int .i64 a0.Kind)), (.c (sl 1 (csL 5 cs_Key) a0.Tracks)), (.c (sl 4 cs_RootKey a0.Roots))])), (2, (.box [(.c (.int .i64 a1.Length)), (.c (.int .i64 a1.Kind)), (.c (sl 1 (csL 5 cs_Key) a1.Tracks)), (.c (sl 4 cs_RootKey a1.Roots))])), (7, (.lst v11.1.Tracks.length 1 (gl (csL 5 cs_Key) v11.1.Tracks))), (8, (.lst v11.1.Roots.length 4 (gl cs_RootKey v11.1.Roots))), (9, (.box [(.c (.int .i64 v11.1.Length)), (.c (.int .i64 v11.1.Kind)), (.lst 7 v11.1.Tracks.length 1 (gl (csL 5 cs_Key) v11.1.Tracks)), (.lst 8 v11.1.Roots.length 4 (gl cs_RootKey v11.1.Roots))])), (10, (.arr true v13.Tracks.length 1 (gl (csL 5 cs_Key) v13.Tracks))), (11, (.arr true v13.Roots.length 4 (gl cs_RootKey v13.Roots))), (12, (.box [(.c (.int .i64 v13.Length)), (.c (.int .i64 v13.Kind)), (.arr 10), (.arr 11)])), (13, (.arr true v15.Tracks.length 1 (gl (csL 5 cs_Key) v15.Tracks))), (14, (.arr true v15.Roots.length 4 (gl cs_RootKey v15.Roots))), (15, (.box [(.c (.int .i64 v15.Length)), (.c (.int .i64 v15.Kind)), (.arr 13), (.arr 14)]))]⟩ (Tt ∧ ((((Eqc (.int .i64 a1.Length)) ∧ (Eqc (.int .i64 a1.Kind)) ∧ (Eqc (sl 1 (csL 5 cs_Key) a1.Tracks)) ∧ (Eqc (sl 4 cs_RootKey a1.Roots)) ∧ Tt) ∧ Tt) ∧ CallOK Try.prog 13 [.agg (cs_Clip a1)] [.agg (cs_Clip v15)]) ∧ T2 Tt) [.no, .call [.agg (cs_Clip a1)] [.agg (cs_Clip v15)] [[.view, .view, .own 13, .own 14]], .box 15] [2, 3, 6, 7, 8, 9] [1, 2, 7, 8, 9, 10, 11, 12, 13, 14, 15] ⟨tr, ⟨⟨⟨rfl, rfl, rfl, rfl, tr⟩, tr⟩, ok_laws_toClip K a1 v15 e16⟩, tr, tr, tr⟩ ?_
      refine thenQ_normal ?_
      refine AW.seq ?_
      obtain ⟨v17, e18, h⟩ := bind_some h
      refine AW.rA ⟨[(2, (vp 1 0)), (3, (vp 2 0)), (6, (vp 9 0)), (7, (vc (.bool v11.2))), (8, (vp 12 0)), (9, (vp 15 0)), (10, (vp 18 0)), (11, (vc (.bool v17.2)))], [(1, (.box [(.c (.int .i64 a0.Length)), (.c (.int .i64 a0.Kind)), (.c (sl 1 (csL 5 cs_Key) a0.Tracks)), (.c (sl 4 cs_RootKey a0.Roots))])), (2, (.box [(.c (.int .i64 a1.Length)), (.c (.int .i64 a1.Kind)), (.c (sl 1 (csL 5 cs_Key) a1.Tracks)), (.c (sl 4 cs_RootKey a1.Roots))])), (7, (.lst v11.1.Tracks.length 1 (gl (csL 5 cs_Key) v11.1.Tracks))), (8, (.lst v11.1.Roots.length 4 (gl cs_RootKey v11.1.Roots))), (9, (.box [(.c (.int .i64 v11.1.Length)), (.c (.int .i64 v11.1.Kind)), (.lst 7 v11.1.Tracks.length 1 (gl (csL 5 cs_Key) v11.1.Tracks)), (.lst 8 v11.1.Roots.length 4 (gl cs_RootKey v11.1.Roots))])), (10, (.arr true v13.Tracks.length 1 (gl (csL 5 cs_Key) v13.Tracks))), (11, (.arr true v13.Roots.length 4 (gl cs_RootKey v13.Roots))), (12, (.box [(.c (.int .i64 v13.Length)), (.c (.int .i64 v13.Kind)), (.arr 10), (.arr 11)])), (13, (.arr true v15.Tracks.length 1 (gl (csL 5 cs_Key) v15.Tracks))), (14, (.arr true v15.Roots.length 4 (gl cs_RootKey v15.Roots))), (15, (.box [(.c (.int .i64 v15.Length)), (.c (.int .i64 v15.Kind)), (.arr 13), (.arr 14)])), (16, (.arr true v17.1.Tracks.length 1 (gl (csL 5 cs_Key) v17.1.Tracks))), (17, (.arr true v17.1.Roots.length 4 (gl cs_RootKey v17.1.Roots))), (18, (.box [(.c (.int .i64 v17.1.Length)), (.c (.int .i64 v17.1.Kind)), (.arr 16), (.arr 17)]))]⟩ (T2 (((((Eqc (.int .i64 v13.Length)) ∧ (Eqc (.int .i64 v13.Kind)) ∧ (Eqc (sl 1 (csL 5 cs_Key) v13.Tracks)) ∧ (Eqc (sl 4 cs_RootKey v13.Roots)) ∧ Tt) ∧ ((Eqc (.int .i64 v15.Length)) ∧ (Eqc (.int .i64 v15.Kind)) ∧ (Eqc (sl 1 (csL 5 cs_Key) v15.Tracks)) ∧ (Eqc (sl 4 cs_RootKey v15.Roots)) ∧ Tt) ∧ Tt) ∧ CallOK Try.prog 23 [.agg (cs_Clip v13), .agg (cs_Clip v15)] [.agg (cs_Clip v17.1), .one (.bool v17.2)]) ∧ T2 (T4 Tt))) [.no, .no, .call [.agg (cs_Clip v13), .agg (cs_Clip v15)] [.agg (cs_Clip v17.1), .one (.bool v17.2)] [[.view, .view, .own 16, .own 17], [.view]], .no, .no, .no, .box 18] [2, 3, 6, 7, 8, 9, 10, 11] [1, 2, 7, 8, 9, 10, 11, 12, 13, 14, 15, 16, 17, 18] ⟨tr, tr, ⟨⟨⟨rfl, rfl, rfl, rfl, tr⟩, ⟨rfl, rfl, rfl, rfl, tr⟩, tr⟩, ok_impl_JoinClips K v13 v15 v17 e18⟩, tr, tr, tr, tr, tr, tr, tr⟩ ?_
      refine thenQ_normal ?_
      refine AW.seq ?_
      refine AW.seq ?_
      obtain ⟨v19, e20, h⟩ := bind_some h
      obtain ⟨j22, e23, h⟩ := bind_some h
      refine AW.join1 (s2 := ⟨[(2, (vp 1 0)), (3, (vp 2 0)), (6, (vp 9 0)), (7, (vc (.bool v11.2))), (8, (vp 12 0)), (9, (vp 15 0)), (10, (vp 18 0)), (11, (vc (.bool v17.2))), (53, (vc (.bool j22)))], [(1, (.box [(.c (.int .i64 a0.Length)), (.c (.int .i64 a0.Kind)), (.c (sl 1 (csL 5 cs_Key) a0.Tracks)), (.c (sl 4 cs_RootKey a0.Roots))])), (2, (.box [(.c (.int .i64 a1.Length)), (.c (.int .i64 a1.Kind)), (.c (sl 1 (csL 5 cs_Key) a1.Tracks)), (.c (sl 4 cs_RootKey a1.Roots))])), (7, (.lst v11.1.Tracks.length 1 (gl (csL 5 cs_Key) v11.1.Tracks))), (8, (.lst v11.1.Roots.length 4 (gl cs_RootKey v11.1.Roots))), (9, (.box [(.c (.int .i64 v11.1.Length)), (.c (.int .i64 v11.1.Kind)), (.lst 7 v11.1.Tracks.length 1 (gl (csL 5 cs_Key) v11.1.Tracks)), (.lst 8 v11.1.Roots.length 4 (gl cs_RootKey v11.1.Roots))])), (10, (.arr true v13.Tracks.length 1 (gl (csL 5 cs_Key) v13.Tracks))), (11, (.arr true v13.Roots.length 4 (gl cs_RootKey v13.Roots))), (12, (.box [(.c (.int .i64 v13.Length)), (.c (.int .i64 v13.Kind)), (.arr 10), (.arr 11)])), (13, (.arr true v15.Tracks.length 1 (gl (csL 5 cs_Key) v15.Tracks))), (14, (.arr true v15.Roots.length 4 (gl cs_RootKey v15.Roots))), (15, (.box [(.c (.int .i64 v15.Length)), (.c (.int .i64 v15.Kind)), (.arr 13), (.arr 14)])), (16, (.arr true v17.1.Tracks.length 1 (gl (csL 5 cs_Key) v17.1.Tracks))), (17, (.arr true v17.1.Roots.length 4 (gl cs_RootKey v17.1.Roots))), (18, (.box [(.c (.int .i64 v17.1.Length)), (.c (.int .i64 v17.1.Kind)), (.arr 16), (.arr 17)]))]⟩) ?_ ?_
      · rcases ite2_cases e23 with ⟨b21, e23⟩ | ⟨b21, e23⟩
        · replace e23 := some_eq e23
          subst e23
          exact AW.rA ⟨[(2, (vp 1 0)), (3, (vp 2 0)), (6, (vp 9 0)), (7, (vc (.bool v11.2))), (8, (vp 12 0)), (9, (vp 15 0)), (10, (vp 18 0)), (11, (vc (.bool v17.2))), (53, (vc (.bool true)))], [(1, (.box [(.c (.int .i64 a0.Length)), (.c (.int .i64 a0.Kind)), (.c (sl 1 (csL 5 cs_Key) a0.Tracks)), (.c (sl 4 cs_RootKey a0.Roots))])), (2, (.box [(.c (.int .i64 a1.Length)), (.c (.int .i64 a1.Kind)), (.c (sl 1 (csL 5 cs_Key) a1.Tracks)), (.c (sl 4 cs_RootKey a1.Roots))])), (7, (.lst v11.1.Tracks.length 1 (gl (csL 5 cs_Key) v11.1.Tracks))), (8, (.lst v11.1.Roots.length 4 (gl cs_RootKey v11.1.Roots))), (9, (.box [(.c (.int .i64 v11.1.Length)), (.c (.int .i64 v11.1.Kind)), (.lst 7 v11.1.Tracks.length 1 (gl (csL 5 cs_Key) v11.1.Tracks)), (.lst 8 v11.1.Roots.length 4 (gl cs_RootKey v11.1.Roots))])), (10, (.arr true v13.Tracks.length 1 (gl (csL 5 cs_Key) v13.Tracks))), (11, (.arr true v13.Roots.length 4 (gl cs_RootKey v13.Roots))), (12, (.box [(.c (.int .i64 v13.Length)), (.c (.int .i64 v13.Kind)), (.arr 10), (.arr 11)])), (13, (.arr true v15.Tracks.length 1 (gl (csL 5 cs_Key) v15.Tracks))), (14, (.arr true v15.Roots.length 4 (gl cs_RootKey v15.Roots))), (15, (.box [(.c (.int .i64 v15.Length)), (.c (.int .i64 v15.Kind)), (.arr 13), (.arr 14)])), (16, (.arr true v17.1.Tracks.length 1 (gl (csL 5 cs_Key) v17.1.Tracks))), (17, (.arr true v17.1.Roots.length 4 (gl cs_RootKey v17.1.Roots))), (18, (.box [(.c (.int .i64 v17.1.Length)), (.c (.int .i64 v17.1.Kind)), (.arr 16), (.arr 17)]))]⟩ (T2 (((((Eqc (.int .i64 v17.1.Length)) ∧ (Eqc (.int .i64 v17.1.Kind)) ∧ (Eqc (sl 1 (csL 5 cs_Key) v17.1.Tracks)) ∧ (Eqc (sl 4 cs_RootKey v17.1.Roots)) ∧ Tt) ∧ ((Eqc (.int .i64 v11.1.Length)) ∧ (Eqc (.int .i64 v11.1.Kind)) ∧ (Eqc (sl 1 (csL 5 cs_Key) v11.1.Tracks)) ∧ (Eqc (sl 4 cs_RootKey v11.1.Roots)) ∧ Tt) ∧ Tt) ∧ CallOK Try.prog 15 [.agg (cs_Clip v17.1), .agg (cs_Clip v11.1)] [.one (.bool v19)]) ∧ Tt ∧ (Tt ∧ (!v19) = true) ∧ T4 Tt)) [.no, .no, .call [.agg (cs_Clip v17.1), .agg (cs_Clip v11.1)] [.one (.bool v19)] [[.view]], .no, .dec true] [2, 3, 6, 7, 8, 9, 10, 11, 53] [1, 2, 7, 8, 9, 10, 11, 12, 13, 14, 15, 16, 17, 18] ⟨tr, tr, ⟨⟨⟨rfl, rfl, rfl, rfl, tr⟩, ⟨rfl, rfl, rfl, rfl, tr⟩, tr⟩, ok_laws_eqClip K v17.1 v11.1 v19 e20⟩, tr, ⟨tr, b21⟩, tr, tr, tr, tr, tr⟩ ⟨rfl, rfl⟩
        · replace e23 := some_eq e23
          subst e23
          exact AW.rA ⟨[(2, (vp 1 0)), (3, (vp 2 0)), (6, (vp 9 0)), (7, (vc (.bool v11.2))), (8, (vp 12 0)), (9, (vp 15 0)), (10, (vp 18 0)), (11, (vc (.bool v17.2))), (53, (vc (.bool (!(v17.2 == v11.2)))))], [(1, (.box [(.c (.int .i64 a0.Length)), (.c (.int .i64 a0.Kind)), (.c (sl 1 (csL 5 cs_Key) a0.Tracks)), (.c (sl 4 cs_RootKey a0.Roots))])), (2, (.box [(.c (.int .i64 a1.Length)), (.c (.int .i64 a1.Kind)), (.c (sl 1 (csL 5 cs_Key) a1.Tracks)), (.c (sl 4 cs_RootKey a1.Roots))])), (7, (.lst v11.1.Tracks.length 1 (gl (csL 5 cs_Key) v11.1.Tracks))), (8, (.lst v11.1.Roots.length 4 (gl cs_RootKey v11.1.Roots))), (9, (.box [(.c (.int .i64 v11.1.Length)), (.c (.int .i64 v11.1.Kind)), (.lst 7 v11.1.Tracks.length 1 (gl (csL 5 cs_Key) v11.1.Tracks)), (.lst 8 v11.1.Roots.length 4 (gl cs_RootKey v11.1.Roots))])), (10, (.arr true v13.Tracks.length 1 (gl (csL 5 cs_Key) v13.Tracks))), (11, (.arr true v13.Roots.length 4 (gl cs_RootKey v13.Roots))), (12, (.box [(.c (.int .i64 v13.Length)), (.c (.int .i64 v13.Kind)), (.arr 10), (.arr 11)])), (13, (.arr true v15.Tracks.length 1 (gl (csL 5 cs_Key) v15.Tracks))), (14, (.arr true v15.Roots.length 4 (gl cs_RootKey v15.Roots))), (15, (.box [(.c (.int .i64 v15.Length)), (.c (.int .i64 v15.Kind)), (.arr 13), (.arr 14)])), (16, (.arr true v17.1.Tracks.length 1 (gl (csL 5 cs_Key) v17.1.Tracks))), (17, (.arr true v17.1.Roots.length 4 (gl cs_RootKey v17.1.Roots))), (18, (.box [(.c (.int .i64 v17.1.Length)), (.c (.int .i64 v17.1.Kind)), (.arr 16), (.arr 17)]))]⟩ (T2 (((((Eqc (.int .i64 v17.1.Length)) ∧ (Eqc (.int .i64 v17.1.Kind)) ∧ (Eqc (sl 1 (csL 5 cs_Key) v17.1.Tracks)) ∧ (Eqc (sl 4 cs_RootKey v17.1.Roots)) ∧ Tt) ∧ ((Eqc (.int .i64 v11.1.Length)) ∧ (Eqc (.int .i64 v11.1.Kind)) ∧ (Eqc (sl 1 (csL 5 cs_Key) v11.1.Tracks)) ∧ (Eqc (sl 4 cs_RootKey v11.1.Roots)) ∧ Tt) ∧ Tt) ∧ CallOK Try.prog 15 [.agg (cs_Clip v17.1), .agg (cs_Clip v11.1)] [.one (.bool v19)]) ∧ Tt ∧ (Tt ∧ (!v19) = false) ∧ T4 Tt)) [.no, .no, .call [.agg (cs_Clip v17.1), .agg (cs_Clip v11.1)] [.one (.bool v19)] [[.view]], .no, .dec false] [2, 3, 6, 7, 8, 9, 10, 11, 53] [1, 2, 7, 8, 9, 10, 11, 12, 13, 14, 15, 16, 17, 18] ⟨tr, tr, ⟨⟨⟨rfl, rfl, rfl, rfl, tr⟩, ⟨rfl, rfl, rfl, rfl, tr⟩, tr⟩, ok_laws_eqClip K v17.1 v11.1 v19 e20⟩, tr, ⟨tr, b21⟩, tr, tr, tr, tr, tr⟩ ⟨rfl, rfl⟩
      refine thenQ_normal ?_
      rcases ite2_cases h with ⟨b24, h⟩ | ⟨b24, h⟩
      · refine AW.cond_t rfl b24 ?_
        refine AW.seq (AW.rA ⟨[(4, (vc (.bool false)))], []⟩ (Tt ∧ Tt) [] [4] [] ⟨tr, tr⟩ (thenQ_normal ?_))
        refine AW.ret ?_
        refine thenQ_ret ?_
        replace h := some_eq h
        subst h
        exact ⟨.inr rfl, retOK_of [(.one (.c (.bool false)))] (by kernel_rfl) ⟨⟨rfl, tr⟩, tr⟩ (of_decide_eq_true (by kernel_rfl))⟩
      · refine AW.cond_f rfl b24 ?_
        refine AW.skip ?_
        refine thenQ_normal ?_
        refine AW.seq ?_
        refine AW.seq ?_
        obtain ⟨v25, e26, h⟩ := bind_some h
        obtain ⟨v27, e28, h⟩ := bind_some h
        refine AW.dA ⟨[(2, (vp 1 0)), (3, (vp 2 0)), (6, (vp 9 0)), (7, (vc (.bool v11.2))), (8, (vp 12 0)), (9, (vp 15 0)), (10, (vp 18 0)), (11, (vc (.bool v17.2))), (58, (vc (.bool (!v27))))], [(1, (.box [(.c (.int .i64 a0.Length)), (.c (.int .i64 a0.Kind)), (.c (sl 1 (csL 5 cs_Key) a0.Tracks)), (.c (sl 4 cs_RootKey a0.Roots))])), (2, (.box [(.c (.int .i64 a1.Length)), (.c (.int .i64 a1.Kind)), (.c (sl 1 (csL 5 cs_Key) a1.Tracks)), (.c (sl 4 cs_RootKey a1.Roots))])), (7, (.lst v11.1.Tracks.length 1 (gl (csL 5 cs_Key) v11.1.Tracks))), (8, (.lst v11.1.Roots.length 4 (gl cs_RootKey v11.1.Roots))), (9, (.box [(.c (.int .i64 v11.1.Length)), (.c (.int .i64 v11.1.Kind)), (.lst 7 v11.1.Tracks.length 1 (gl (csL 5 cs_Key) v11.1.Tracks)), (.lst 8 v11.1.Roots.length 4 (gl cs_RootKey v11.1.Roots))])), (10, (.arr true v13.Tracks.length 1 (gl (csL 5 cs_Key) v13.Tracks))), (11, (.arr true v13.Roots.length 4 (gl cs_RootKey v13.Roots))), (12, (.box [(.c (.int .i64 v13.Length)), (.c (.int .i64 v13.Kind)), (.arr 10), (.arr 11)])), (13, (.arr true v15.Tracks.length 1 (gl (csL 5 cs_Key) v15.Tracks))), (14, (.arr true v15.Roots.length 4 (gl cs_RootKey v15.Roots))), (15, (.box [(.c (.int .i64 v15.Length)), (.c (.int .i64 v15.Kind)), (.arr 13), (.arr 14)])), (16, (.arr true v17.1.Tracks.length 1 (gl (csL 5 cs_Key) v17.1.Tracks))), (17, (.arr true v17.1.Roots.length 4 (gl cs_RootKey v17.1.Roots))), (18, (.box [(.c (.int .i64 v17.1.Length)), (.c (.int .i64 v17.1.Kind)), (.arr 16), (.arr 17)]))]⟩ ((T2 (((((Eqc (.int .i64 a0.Length)) ∧ (Eqc (.int .i64 a0.Kind)) ∧ (Eqc (sl 1 (csL 5 cs_Key) a0.Tracks)) ∧ (Eqc (sl 4 cs_RootKey a0.Roots)) ∧ Tt) ∧ Tt) ∧ CallOK Try.prog 13 [.agg (cs_Clip a0)] [.agg (cs_Clip v25)]) ∧ ((((Eqc (.int .i64 v13.Length)) ∧ (Eqc (.int .i64 v13.Kind)) ∧ (Eqc (sl 1 (csL 5 cs_Key) v13.Tracks)) ∧ (Eqc (sl 4 cs_RootKey v13.Roots)) ∧ Tt) ∧ ((Eqc (.int .i64 v25.Length)) ∧ (Eqc (.int .i64 v25.Kind)) ∧ (Eqc (sl 1 (csL 5 cs_Key) v25.Tracks)) ∧ (Eqc (sl 4 cs_RootKey v25.Roots)) ∧ Tt) ∧ Tt) ∧ CallOK Try.prog 15 [.agg (cs_Clip v13), .agg (cs_Clip v25)] [.one (.bool v27)]) ∧ Tt ∧ Tt)) ∧ (Tt)) 5 [.no, .no, .call [.agg (cs_Clip a0)] [.agg (cs_Clip v25)] [[.view, .view, .lst 19, .lst 20]], .call [.agg (cs_Clip v13), .agg (cs_Clip v25)] [.one (.bool v27)] [[.view]]] [2, 3, 6, 7, 8, 9, 10, 11, 58] [1, 2, 7, 8, 9, 10, 11, 12, 13, 14, 15, 16, 17, 18] ⟨⟨tr, tr, ⟨⟨⟨rfl, rfl, rfl, rfl, tr⟩, tr⟩, ok_laws_toClip K a0 v25 e26⟩, ⟨⟨⟨rfl, rfl, rfl, rfl, tr⟩, ⟨rfl, rfl, rfl, rfl, tr⟩, tr⟩, ok_laws_eqClip K v13 v25 v27 e28⟩, tr, tr⟩, tr⟩ ?_
        refine thenQ_normal ?_
        rcases ite2_cases h with ⟨b29, h⟩ | ⟨b29, h⟩
        · refine AW.cond_t rfl b29 ?_
          refine AW.seq (AW.rA ⟨[(4, (vc (.bool false)))], []⟩ (Tt ∧ Tt) [] [4] [] ⟨tr, tr⟩ (thenQ_normal ?_))
          refine AW.ret ?_
          refine thenQ_ret ?_
          replace h := some_eq h
          subst h
          exact ⟨.inr rfl, retOK_of [(.one (.c (.bool false)))] (by kernel_rfl) ⟨⟨rfl, tr⟩, tr⟩ (of_decide_eq_true (by kernel_rfl))⟩
        · refine AW.cond_f rfl b29 ?_
          refine AW.skip ?_
          refine thenQ_normal ?_
          refine AW.seq ?_
          refine AW.seq ?_
          obtain ⟨v30, e31, h⟩ := bind_some h
          obtain ⟨v32, e33, h⟩ := bind_some h
          refine AW.dA ⟨[(2, (vp 1 0)), (3, (vp 2 0)), (6, (vp 9 0)), (7, (vc (.bool v11.2))), (8, (vp 12 0)), (9, (vp 15 0)), (10, (vp 18 0)), (11, (vc (.bool v17.2))), (63, (vc (.bool (!v32))))], [(1, (.box [(.c (.int .i64 a0.Length)), (.c (.int .i64 a0.Kind)), (.c (sl 1 (csL 5 cs_Key) a0.Tracks)), (.c (sl 4 cs_RootKey a0.Roots))])), (2, (.box [(.c (.int .i64 a1.Length)), (.c (.int .i64 a1.Kind)), (.c (sl 1 (csL 5 cs_Key) a1.Tracks)), (.c (sl 4 cs_RootKey a1.Roots))])), (7, (.lst v11.1.Tracks.length 1 (gl (csL 5 cs_Key) v11.1.Tracks))), (8, (.lst v11.1.Roots.length 4 (gl cs_RootKey v11.1.Roots))), (9, (.box [(.c (.int .i64 v11.1.Length)), (.c (.int .i64 v11.1.Kind)), (.lst 7 v11.1.Tracks.length 1 (gl (csL 5 cs_Key) v11.1.Tracks)), (.lst 8 v11.1.Roots.length 4 (gl cs_RootKey v11.1.Roots))])), (10, (.arr true v13.Tracks.length 1 (gl (csL 5 cs_Key) v13.Tracks))), (11, (.arr true v13.Roots.length 4 (gl cs_RootKey v13.Roots))), (12, (.box [(.c (.int .i64 v13.Length)), (.c (.int .i64 v13.Kind)), (.arr 10), (.arr 11)])), (13, (.arr true v15.Tracks.length 1 (gl (csL 5 cs_Key) v15.Tracks))), (14, (.arr true v15.Roots.length 4 (gl cs_RootKey v15.Roots))), (15, (.box [(.c (.int .i64 v15.Length)), (.c (.int .i64 v15.Kind)), (.arr 13), (.arr 14)])), (16, (.arr true v17.1.Tracks.length 1 (gl (csL 5 cs_Key) v17.1.Tracks))), (17, (.arr true v17.1.Roots.length 4 (gl cs_RootKey v17.1.Roots))), (18, (.box [(.c (.int .i64 v17.1.Length)), (.c (.int .i64 v17.1.Kind)), (.arr 16), (.arr 17)]))]⟩ ((T2 (((((Eqc (.int .i64 a1.Length)) ∧ (Eqc (.int .i64 a1.Kind)) ∧ (Eqc (sl 1 (csL 5 cs_Key) a1.Tracks)) ∧ (Eqc (sl 4 cs_RootKey a1.Roots)) ∧ Tt) ∧ Tt) ∧ CallOK Try.prog 13 [.agg (cs_Clip a1)] [.agg (cs_Clip v30)]) ∧ ((((Eqc (.int .i64 v15.Length)) ∧ (Eqc (.int .i64 v15.Kind)) ∧ (Eqc (sl 1 (csL 5 cs_Key) v15.Tracks)) ∧ (Eqc (sl 4 cs_RootKey v15.Roots)) ∧ Tt) ∧ ((Eqc (.int .i64 v30.Length)) ∧ (Eqc (.int .i64 v30.Kind)) ∧ (Eqc (sl 1 (csL 5 cs_Key) v30.Tracks)) ∧ (Eqc (sl 4 cs_RootKey v30.Roots)) ∧ Tt) ∧ Tt) ∧ CallOK Try.prog 15 [.agg (cs_Clip v15), .agg (cs_Clip v30)] [.one (.bool v32)]) ∧ Tt ∧ Tt)) ∧ (Tt)) 5 [.no, .no, .call [.agg (cs_Clip a1)] [.agg (cs_Clip v30)] [[.view, .view, .lst 21, .lst 22]], .call [.agg (cs_Clip v15), .agg (cs_Clip v30)] [.one (.bool v32)] [[.view]]] [2, 3, 6, 7, 8, 9, 10, 11, 63] [1, 2, 7, 8, 9, 10, 11, 12, 13, 14, 15, 16, 17, 18] ⟨⟨tr, tr, ⟨⟨⟨rfl, rfl, rfl, rfl, tr⟩, tr⟩, ok_laws_toClip K a1 v30 e31⟩, ⟨⟨⟨rfl, rfl, rfl, rfl, tr⟩, ⟨rfl, rfl, rfl, rfl, tr⟩, tr⟩, ok_laws_eqClip K v15 v30 v32 e33⟩, tr, tr⟩, tr⟩ ?_
          refine thenQ_normal ?_
          rcases ite2_cases h with ⟨b34, h⟩ | ⟨b34, h⟩
          · refine AW.cond_t rfl b34 ?_
            refine AW.seq (AW.rA ⟨[(4, (vc (.bool false)))], []⟩ (Tt ∧ Tt) [] [4] [] ⟨tr, tr⟩ (thenQ_normal ?_))
            refine AW.ret ?_
            refine thenQ_ret ?_
            replace h := some_eq h
            subst h
            exact ⟨.inr rfl, retOK_of [(.one (.c (.bool false)))] (by kernel_rfl) ⟨⟨rfl, tr⟩, tr⟩ (of_decide_eq_true (by kernel_rfl))⟩
          · refine AW.cond_f rfl b34 ?_
            refine AW.skip ?_
            refine thenQ_normal ?_
            refine AW.seq (AW.rA ⟨[(2, (vp 1 0)), (3, (vp 2 0)), (6, (vp 9 0)), (7, (vc (.bool v11.2))), (8, (vp 12 0)), (9, (vp 15 0)), (10, (vp 18 0)), (11, (vc (.bool v17.2))), (12, (vc (.int .i64 (1 : Int))))], [(1, (.box [(.c (.int .i64 a0.Length)), (.c (.int .i64 a0.Kind)), (.c (sl 1 (csL 5 cs_Key) a0.Tracks)), (.c (sl 4 cs_RootKey a0.Roots))])), (2, (.box [(.c (.int .i64 a1.Length)), (.c (.int .i64 a1.Kind)), (.c (sl 1 (csL 5 cs_Key) a1.Tracks)), (.c (sl 4 cs_RootKey a1.Roots))])), (7, (.lst v11.1.Tracks.length 1 (gl (csL 5 cs_Key) v11.1.Tracks))), (8, (.lst v11.1.Roots.length 4 (gl cs_RootKey v11.1.Roots))), (9, (.box [(.c (.int .i64 v11.1.Length)), (.c (.int .i64 v11.1.Kind)), (.lst 7 v11.1.Tracks.length 1 (gl (csL 5 cs_Key) v11.1.Tracks)), (.lst 8 v11.1.Roots.length 4 (gl cs_RootKey v11.1.Roots))])), (10, (.arr true v13.Tracks.length 1 (gl (csL 5 cs_Key) v13.Tracks))), (11, (.arr true v13.Roots.length 4 (gl cs_RootKey v13.Roots))), (12, (.box [(.c (.int .i64 v13.Length)), (.c (.int .i64 v13.Kind)), (.arr 10), (.arr 11)])), (13, (.arr true v15.Tracks.length 1 (gl (csL 5 cs_Key) v15.Tracks))), (14, (.arr true v15.Roots.length 4 (gl cs_RootKey v15.Roots))), (15, (.box [(.c (.int .i64 v15.Length)), (.c (.int .i64 v15.Kind)), (.arr 13), (.arr 14)])), (16, (.arr true v17.1.Tracks.length 1 (gl (csL 5 cs_Key) v17.1.Tracks))), (17, (.arr true v17.1.Roots.length 4 (gl cs_RootKey v17.1.Roots))), (18, (.box [(.c (.int .i64 v17.1.Length)), (.c (.int .i64 v17.1.Kind)), (.arr 16), (.arr 17)]))]⟩ (Tt ∧ Tt) [] [2, 3, 6, 7, 8, 9, 10, 11, 12] [1, 2, 7, 8, 9, 10, 11, 12, 13, 14, 15, 16, 17, 18] ⟨tr, tr⟩ (thenQ_normal ?_))
            refine AW.seq ?_
            obtain ⟨v35, e36, h⟩ := bind_some h
            obtain ⟨c37, h⟩ := chk_some h
            obtain ⟨c38, h⟩ := chk_some h
            refine AW.rA ⟨[(2, (vp 1 0)), (3, (vp 2 0)), (6, (vp 9 0)), (7, (vc (.bool v11.2))), (9, (vp 15 0)), (10, (vp 18 0)), (11, (vc (.bool v17.2))), (12, (vc (.int .i64 v35.1)))], [(1, (.box [(.c (.int .i64 a0.Length)), (.c (.int .i64 a0.Kind)), (.c (sl 1 (csL 5 cs_Key) a0.Tracks)), (.c (sl 4 cs_RootKey a0.Roots))])), (2, (.box [(.c (.int .i64 a1.Length)), (.c (.int .i64 a1.Kind)), (.c (sl 1 (csL 5 cs_Key) a1.Tracks)), (.c (sl 4 cs_RootKey a1.Roots))])), (7, (.lst v11.1.Tracks.length 1 (gl (csL 5 cs_Key) v11.1.Tracks))), (8, (.lst v11.1.Roots.length 4 (gl cs_RootKey v11.1.Roots))), (9, (.box [(.c (.int .i64 v11.1.Length)), (.c (.int .i64 v11.1.Kind)), (.lst 7 v11.1.Tracks.length 1 (gl (csL 5 cs_Key) v11.1.Tracks)), (.lst 8 v11.1.Roots.length 4 (gl cs_RootKey v11.1.Roots))])), (13, (.arr true v15.Tracks.length 1 (gl (csL 5 cs_Key) v15.Tracks))), (14, (.arr true v15.Roots.length 4 (gl cs_RootKey v15.Roots))), (15, (.box [(.c (.int .i64 v15.Length)), (.c (.int .i64 v15.Kind)), (.arr 13), (.arr 14)])), (16, (.arr true v17.1.Tracks.length 1 (gl (csL 5 cs_Key) v17.1.Tracks))), (17, (.arr true v17.1.Roots.length 4 (gl cs_RootKey v17.1.Roots))), (18, (.box [(.c (.int .i64 v17.1.Length)), (.c (.int .i64 v17.1.Kind)), (.arr 16), (.arr 17)]))]⟩ (T2 (((((Eqc (.int .i64 v13.Length)) ∧ (Eqc (.int .i64 v13.Kind)) ∧ (((sl 1 (csL 5 cs_Key) v13.Tracks) : C) = (sl 1 (csL 5 cs_Key) v13.Tracks) ∧ v35.2.1.length = v13.Tracks.length ∧ 1 = 1 ∧ ∀ i j, i < v13.Tracks.length → j < 1 → isSeq (gl (csL 5 cs_Key) v35.2.1 i j) = isSeq (gl (csL 5 cs_Key) v13.Tracks i j)) ∧ (((sl 4 cs_RootKey v13.Roots) : C) = (sl 4 cs_RootKey v13.Roots) ∧ v35.2.2.length = v13.Roots.length ∧ 4 = 4 ∧ ∀ i j, i < v13.Roots.length → j < 4 → isSeq (gl cs_RootKey v35.2.2 i j) = isSeq (gl cs_RootKey v13.Roots i j)) ∧ Tt) ∧ (Eqc (.int .i64 (1 : Int))) ∧ Tt) ∧ MutOK Try.prog 16 [(.agg [(.ro (.int .i64 v13.Length)), (.ro (.int .i64 v13.Kind)), (.mu (sl 1 (csL 5 cs_Key) v13.Tracks) (sl 1 (csL 5 cs_Key) v35.2.1)), (.mu (sl 4 cs_RootKey v13.Roots) (sl 4 cs_RootKey v35.2.2))]), .one (.ro (.int .i64 (1 : Int)))] [.one (.int .i64 v35.1)]) ∧ Tt ∧ Tt)) [.no, .no, .callM [(.agg [(.ro (.int .i64 v13.Length)), (.ro (.int .i64 v13.Kind)), (.mu (sl 1 (csL 5 cs_Key) v13.Tracks) (sl 1 (csL 5 cs_Key) v35.2.1)), (.mu (sl 4 cs_RootKey v13.Roots) (sl 4 cs_RootKey v35.2.2))]), .one (.ro (.int .i64 (1 : Int)))] [.one (.int .i64 v35.1)] [[.view]] none] [2, 3, 6, 7, 9, 10, 11, 12] [1, 2, 7, 8, 9, 13, 14, 15, 16, 17, 18] ⟨tr, tr, ⟨⟨⟨rfl, rfl, ⟨rfl, c37, rfl, gl_seq (sq_slice)⟩, ⟨rfl, c38, rfl, gl_seq sq_RootKey⟩, tr⟩, rfl, tr⟩, ok_laws_markClip K v13 (1 : Int) v35 e36⟩, tr, tr⟩ ?_
            refine thenQ_normal ?_
            refine AW.seq ?_
            obtain ⟨v39, e40, h⟩ := bind_some h
            obtain ⟨c41, h⟩ := chk_some h
            obtain ⟨c42, h⟩ := chk_some h
            refine AW.rA ⟨[(2, (vp 1 0)), (3, (vp 2 0)), (6, (vp 9 0)), (7, (vc (.bool v11.2))), (10, (vp 18 0)), (11, (vc (.bool v17.2))), (12, (vc (.int .i64 v39.1)))], [(1, (.box [(.c (.int .i64 a0.Length)), (.c (.int .i64 a0.Kind)), (.c (sl 1 (csL 5 cs_Key) a0.Tracks)), (.c (sl 4 cs_RootKey a0.Roots))])), (2, (.box [(.c (.int .i64 a1.Length)), (.c (.int .i64 a1.Kind)), (.c (sl 1 (csL 5 cs_Key) a1.Tracks)), (.c (sl 4 cs_RootKey a1.Roots))])), (7, (.lst v11.1.Tracks.length 1 (gl (csL 5 cs_Key) v11.1.Tracks))), (8, (.lst v11.1.Roots.length 4 (gl cs_RootKey v11.1.Roots))), (9, (.box [(.c (.int .i64 v11.1.Length)), (.c (.int .i64 v11.1.Kind)), (.lst 7 v11.1.Tracks.length 1 (gl (csL 5 cs_Key) v11.1.Tracks)), (.lst 8 v11.1.Roots.length 4 (gl cs_RootKey v11.1.Roots))])), (16, (.arr true v17.1.Tracks.length 1 (gl (csL 5 cs_Key) v17.1.Tracks))), (17, (.arr true v17.1.Roots.length 4 (gl cs_RootKey v17.1.Roots))), (18, (.box [(.c (.int .i64 v17.1.Length)), (.c (.int .i64 v17.1.Kind)), (.arr 16), (.arr 17)]))]⟩ (T2 (((((Eqc (.int .i64 v15.Length)) ∧ (Eqc (.int .i64 v15.Kind)) ∧ (((sl 1 (csL 5 cs_Key) v15.Tracks) : C) = (sl 1 (csL 5 cs_Key) v15.Tracks) ∧ v39.2.1.length = v15.Tracks.length ∧ 1 = 1 ∧ ∀ i j, i < v15.Tracks.length → j < 1 → isSeq (gl (csL 5 cs_Key) v39.2.1 i j) = isSeq (gl (csL 5 cs_Key) v15.Tracks i j)) ∧ (((sl 4 cs_RootKey v15.Roots) : C) = (sl 4 cs_RootKey v15.Roots) ∧ v39.2.2.length = v15.Roots.length ∧ 4 = 4 ∧ ∀ i j, i < v15.Roots.length → j < 4 → isSeq (gl cs_RootKey v39.2.2 i j) = isSeq (gl cs_RootKey v15.Roots i j)) ∧ Tt) ∧ (Eqc (.int .i64 v35.1)) ∧ Tt) ∧ MutOK Try.prog 16 [(.agg [(.ro (.int .i64 v15.Length)), (.ro (.int .i64 v15.Kind)), (.mu (sl 1 (csL 5 cs_Key) v15.Tracks) (sl 1 (csL 5 cs_Key) v39.2.1)), (.mu (sl 4 cs_RootKey v15.Roots) (sl 4 cs_RootKey v39.2.2))]), .one (.ro (.int .i64 v35.1))] [.one (.int .i64 v39.1)]) ∧ Tt ∧ Tt)) [.no, .no, .callM [(.agg [(.ro (.int .i64 v15.Length)), (.ro (.int .i64 v15.Kind)), (.mu (sl 1 (csL 5 cs_Key) v15.Tracks) (sl 1 (csL 5 cs_Key) v39.2.1)), (.mu (sl 4 cs_RootKey v15.Roots) (sl 4 cs_RootKey v39.2.2))]), .one (.ro (.int .i64 v35.1))] [.one (.int .i64 v39.1)] [[.view]] none] [2, 3, 6, 7, 10, 11, 12] [1, 2, 7, 8, 9, 16, 17, 18] ⟨tr, tr, ⟨⟨⟨rfl, rfl, ⟨rfl, c41, rfl, gl_seq (sq_slice)⟩, ⟨rfl, c42, rfl, gl_seq sq_RootKey⟩, tr⟩, rfl, tr⟩, ok_laws_markClip K v15 v35.1 v39 e40⟩, tr, tr⟩ ?_
            refine thenQ_normal ?_
            refine AW.seq ?_
            refine AW.seq ?_
            obtain ⟨j47, e48, h⟩ := bind_some h
            refine AW.join1 (s2 := ⟨[(2, (vp 1 0)), (3, (vp 2 0)), (6, (vp 9 0)), (7, (vc (.bool v11.2))), (10, (vp 18 0)), (82, (vc (.bool j47)))], [(1, (.box [(.c (.int .i64 a0.Length)), (.c (.int .i64 a0.Kind)), (.c (sl 1 (csL 5 cs_Key) a0.Tracks)), (.c (sl 4 cs_RootKey a0.Roots))])), (2, (.box [(.c (.int .i64 a1.Length)), (.c (.int .i64 a1.Kind)), (.c (sl 1 (csL 5 cs_Key) a1.Tracks)), (.c (sl 4 cs_RootKey a1.Roots))])), (7, (.lst v11.1.Tracks.length 1 (gl (csL 5 cs_Key) v11.1.Tracks))), (8, (.lst v11.1.Roots.length 4 (gl cs_RootKey v11.1.Roots))), (9, (.box [(.c (.int .i64 v11.1.Length)), (.c (.int .i64 v11.1.Kind)), (.lst 7 v11.1.Tracks.length 1 (gl (csL 5 cs_Key) v11.1.Tracks)), (.lst 8 v11.1.Roots.length 4 (gl cs_RootKey v11.1.Roots))])), (16, (.arr true v17.1.Tracks.length 1 (gl (csL 5 cs_Key) v17.1.Tracks))), (17, (.arr true v17.1.Roots.length 4 (gl cs_RootKey v17.1.Roots))), (18, (.box [(.c (.int .i64 v17.1.Length)), (.c (.int .i64 v17.1.Kind)), (.arr 16), (.arr 17)]))]⟩) ?_ ?_
            · rcases ite2_cases e48 with ⟨b43, e48⟩ | ⟨b43, e48⟩
              · replace e48 := some_eq e48
                subst e48
                exact AW.rA ⟨[(2, (vp 1 0)), (3, (vp 2 0)), (6, (vp 9 0)), (7, (vc (.bool v11.2))), (10, (vp 18 0)), (82, (vc (.bool true)))], [(1, (.box [(.c (.int .i64 a0.Length)), (.c (.int .i64 a0.Kind)), (.c (sl 1 (csL 5 cs_Key) a0.Tracks)), (.c (sl 4 cs_RootKey a0.Roots))])), (2, (.box [(.c (.int .i64 a1.Length)), (.c (.int .i64 a1.Kind)), (.c (sl 1 (csL 5 cs_Key) a1.Tracks)), (.c (sl 4 cs_RootKey a1.Roots))])), (7, (.lst v11.1.Tracks.length 1 (gl (csL 5 cs_Key) v11.1.Tracks))), (8, (.lst v11.1.Roots.length 4 (gl cs_RootKey v11.1.Roots))), (9, (.box [(.c (.int .i64 v11.1.Length)), (.c (.int .i64 v11.1.Kind)), (.lst 7 v11.1.Tracks.length 1 (gl (csL 5 cs_Key) v11.1.Tracks)), (.lst 8 v11.1.Roots.length 4 (gl cs_RootKey v11.1.Roots))])), (16, (.arr true v17.1.Tracks.length 1 (gl (csL 5 cs_Key) v17.1.Tracks))), (17, (.arr true v17.1.Roots.length 4 (gl cs_RootKey v17.1.Roots))), (18, (.box [(.c (.int .i64 v17.1.Length)), (.c (.int .i64 v17.1.Kind)), (.arr 16), (.arr 17)]))]⟩ (T2 ((Tt ∧ (decide (v39.1 < (0 : Int))) = true) ∧ T2 (T4 (T4 Tt)))) [.no, .no, .dec true] [2, 3, 6, 7, 10, 82] [1, 2, 7, 8, 9, 16, 17, 18] ⟨tr, tr, ⟨tr, b43⟩, tr, tr, tr, tr, tr, tr, tr, tr, tr, tr, tr⟩ ⟨rfl, rfl⟩
              · obtain ⟨v44, e45, e48⟩ := bind_some e48
                rcases ite2_cases e48 with ⟨b46, e48⟩ | ⟨b46, e48⟩
                · replace e48 := some_eq e48
                  subst e48
                  exact AW.rA ⟨[(2, (vp 1 0)), (3, (vp 2 0)), (6, (vp 9 0)), (7, (vc (.bool v11.2))), (10, (vp 18 0)), (82, (vc (.bool true)))], [(1, (.box [(.c (.int .i64 a0.Length)), (.c (.int .i64 a0.Kind)), (.c (sl 1 (csL 5 cs_Key) a0.Tracks)), (.c (sl 4 cs_RootKey a0.Roots))])), (2, (.box [(.c (.int .i64 a1.Length)), (.c (.int .i64 a1.Kind)), (.c (sl 1 (csL 5 cs_Key) a1.Tracks)), (.c (sl 4 cs_RootKey a1.Roots))])), (7, (.lst v11.1.Tracks.length 1 (gl (csL 5 cs_Key) v11.1.Tracks))), (8, (.lst v11.1.Roots.length 4 (gl cs_RootKey v11.1.Roots))), (9, (.box [(.c (.int .i64 v11.1.Length)), (.c (.int .i64 v11.1.Kind)), (.lst 7 v11.1.Tracks.length 1 (gl (csL 5 cs_Key) v11.1.Tracks)), (.lst 8 v11.1.Roots.length 4 (gl cs_RootKey v11.1.Roots))])), (16, (.arr true v17.1.Tracks.length 1 (gl (csL 5 cs_Key) v17.1.Tracks))), (17, (.arr true v17.1.Roots.length 4 (gl cs_RootKey v17.1.Roots))), (18, (.box [(.c (.int .i64 v17.1.Length)), (.c (.int .i64 v17.1.Kind)), (.arr 16), (.arr 17)]))]⟩ (T2 ((Tt ∧ (decide (v39.1 < (0 : Int))) = false) ∧ T2 (((((Eqc (.int .i64 v17.1.Length)) ∧ (Eqc (.int .i64 v17.1.Kind)) ∧ (Eqc (sl 1 (csL 5 cs_Key) v17.1.Tracks)) ∧ (Eqc (sl 4 cs_RootKey v17.1.Roots)) ∧ Tt) ∧ ((Eqc (.int .i64 v11.1.Length)) ∧ (Eqc (.int .i64 v11.1.Kind)) ∧ (Eqc (sl 1 (csL 5 cs_Key) v11.1.Tracks)) ∧ (Eqc (sl 4 cs_RootKey v11.1.Roots)) ∧ Tt) ∧ Tt) ∧ CallOK Try.prog 15 [.agg (cs_Clip v17.1), .agg (cs_Clip v11.1)] [.one (.bool v44)]) ∧ T2 ((Tt ∧ (!v44) = true) ∧ T4 Tt)))) [.no, .no, .dec false, .no, .no, .call [.agg (cs_Clip v17.1), .agg (cs_Clip v11.1)] [.one (.bool v44)] [[.view]], .no, .no, .dec true] [2, 3, 6, 7, 10, 82] [1, 2, 7, 8, 9, 16, 17, 18] ⟨tr, tr, ⟨tr, b43⟩, tr, tr, ⟨⟨⟨rfl, rfl, rfl, rfl, tr⟩, ⟨rfl, rfl, rfl, rfl, tr⟩, tr⟩, ok_laws_eqClip K v17.1 v11.1 v44 e45⟩, tr, tr, ⟨tr, b46⟩, tr, tr, tr, tr, tr⟩ ⟨rfl, rfl⟩
                · replace e48 := some_eq e48
                  subst e48
                  exact AW.rA ⟨[(2, (vp 1 0)), (3, (vp 2 0)), (6, (vp 9 0)), (7, (vc (.bool v11.2))), (10, (vp 18 0)), (82, (vc (.bool (!(v17.2 == v11.2)))))], [(1, (.box [(.c (.int .i64 a0.Length)), (.c (.int .i64 a0.Kind)), (.c (sl 1 (csL 5 cs_Key) a0.Tracks)), (.c (sl 4 cs_RootKey a0.Roots))])), (2, (.box [(.c (.int .i64 a1.Length)), (.c (.int .i64 a1.Kind)), (.c (sl 1 (csL 5 cs_Key) a1.Tracks)), (.c (sl 4 cs_RootKey a1.Roots))])), (7, (.lst v11.1.Tracks.length 1 (gl (csL 5 cs_Key) v11.1.Tracks))), (8, (.lst v11.1.Roots.length 4 (gl cs_RootKey v11.1.Roots))), (9, (.box [(.c (.int .i64 v11.1.Length)), (.c (.int .i64 v11.1.Kind)), (.lst 7 v11.1.Tracks.length 1 (gl (csL 5 cs_Key) v11.1.Tracks)), (.lst 8 v11.1.Roots.length 4 (gl cs_RootKey v11.1.Roots))])), (16, (.arr true v17.1.Tracks.length 1 (gl (csL 5 cs_Key) v17.1.Tracks))), (17, (.arr true v17.1.Roots.length 4 (gl cs_RootKey v17.1.Roots))), (18, (.box [(.c (.int .i64 v17.1.Length)), (.c (.int .i64 v17.1.Kind)), (.arr 16), (.arr 17)]))]⟩ (T2 ((Tt ∧ (decide (v39.1 < (0 : Int))) = false) ∧ T2 (((((Eqc (.int .i64 v17.1.Length)) ∧ (Eqc (.int .i64 v17.1.Kind)) ∧ (Eqc (sl 1 (csL 5 cs_Key) v17.1.Tracks)) ∧ (Eqc (sl 4 cs_RootKey v17.1.Roots)) ∧ Tt) ∧ ((Eqc (.int .i64 v11.1.Length)) ∧ (Eqc (.int .i64 v11.1.Kind)) ∧ (Eqc (sl 1 (csL 5 cs_Key) v11.1.Tracks)) ∧ (Eqc (sl 4 cs_RootKey v11.1.Roots)) ∧ Tt) ∧ Tt) ∧ CallOK Try.prog 15 [.agg (cs_Clip v17.1), .agg (cs_Clip v11.1)] [.one (.bool v44)]) ∧ T2 ((Tt ∧ (!v44) = false) ∧ T4 Tt)))) [.no, .no, .dec false, .no, .no, .call [.agg (cs_Clip v17.1), .agg (cs_Clip v11.1)] [.one (.bool v44)] [[.view]], .no, .no, .dec false] [2, 3, 6, 7, 10, 82] [1, 2, 7, 8, 9, 16, 17, 18] ⟨tr, tr, ⟨tr, b43⟩, tr, tr, ⟨⟨⟨rfl, rfl, rfl, rfl, tr⟩, ⟨rfl, rfl, rfl, rfl, tr⟩, tr⟩, ok_laws_eqClip K v17.1 v11.1 v44 e45⟩, tr, tr, ⟨tr, b46⟩, tr, tr, tr, tr, tr⟩ ⟨rfl, rfl⟩
            refine thenQ_normal ?_
            rcases ite2_cases h with ⟨b49, h⟩ | ⟨b49, h⟩
            · refine AW.cond_t rfl b49 ?_
              refine AW.seq (AW.rA ⟨[(4, (vc (.bool false)))], []⟩ (Tt ∧ Tt) [] [4] [] ⟨tr, tr⟩ (thenQ_normal ?_))
              refine AW.ret ?_
              refine thenQ_ret ?_
              replace h := some_eq h
              subst h
              exact ⟨.inr rfl, retOK_of [(.one (.c (.bool false)))] (by kernel_rfl) ⟨⟨rfl, tr⟩, tr⟩ (of_decide_eq_true (by kernel_rfl))⟩
            · refine AW.cond_f rfl b49 ?_
              refine AW.skip ?_
              refine thenQ_normal ?_
              refine AW.seq (AW.rA ⟨[(2, (vp 1 0)), (3, (vp 2 0)), (6, (vp 9 0)), (7, (vc (.bool v11.2))), (10, (vp 18 0)), (13, (vc (.int .i64 (1 : Int))))], [(1, (.box [(.c (.int .i64 a0.Length)), (.c (.int .i64 a0.Kind)), (.c (sl 1 (csL 5 cs_Key) a0.Tracks)), (.c (sl 4 cs_RootKey a0.Roots))])), (2, (.box [(.c (.int .i64 a1.Length)), (.c (.int .i64 a1.Kind)), (.c (sl 1 (csL 5 cs_Key) a1.Tracks)), (.c (sl 4 cs_RootKey a1.Roots))])), (7, (.lst v11.1.Tracks.length 1 (gl (csL 5 cs_Key) v11.1.Tracks))), (8, (.lst v11.1.Roots.length 4 (gl cs_RootKey v11.1.Roots))), (9, (.box [(.c (.int .i64 v11.1.Length)), (.c (.int .i64 v11.1.Kind)), (.lst 7 v11.1.Tracks.length 1 (gl (csL 5 cs_Key) v11.1.Tracks)), (.lst 8 v11.1.Roots.length 4 (gl cs_RootKey v11.1.Roots))])), (16, (.arr true v17.1.Tracks.length 1 (gl (csL 5 cs_Key) v17.1.Tracks))), (17, (.arr true v17.1.Roots.length 4 (gl cs_RootKey v17.1.Roots))), (18, (.box [(.c (.int .i64 v17.1.Length)), (.c (.int .i64 v17.1.Kind)), (.arr 16), (.arr 17)]))]⟩ (Tt ∧ Tt) [] [2, 3, 6, 7, 10, 13] [1, 2, 7, 8, 9, 16, 17, 18] ⟨tr, tr⟩ (thenQ_normal ?_))
              refine AW.seq ?_
              obtain ⟨v50, e51, h⟩ := bind_some h
              obtain ⟨c52, h⟩ := chk_some h
              obtain ⟨c53, h⟩ := chk_some h
              refine AW.rA ⟨[(2, (vp 1 0)), (3, (vp 2 0)), (6, (vp 9 0)), (7, (vc (.bool v11.2))), (10, (vp 18 0)), (13, (vc (.int .i64 v50.1)))], [(1, (.box [(.c (.int .i64 a0.Length)), (.c (.int .i64 a0.Kind)), (.c (sl 1 (csL 5 cs_Key) a0.Tracks)), (.c (sl 4 cs_RootKey a0.Roots))])), (2, (.box [(.c (.int .i64 a1.Length)), (.c (.int .i64 a1.Kind)), (.c (sl 1 (csL 5 cs_Key) a1.Tracks)), (.c (sl 4 cs_RootKey a1.Roots))])), (7, (.lst v11.1.Tracks.length 1 (gl (csL 5 cs_Key) v11.1.Tracks))), (8, (.lst v11.1.Roots.length 4 (gl cs_RootKey v11.1.Roots))), (9, (.box [(.c (.int .i64 v11.1.Length)), (.c (.int .i64 v11.1.Kind)), (.lst 7 v11.1.Tracks.length 1 (gl (csL 5 cs_Key) v11.1.Tracks)), (.lst 8 v11.1.Roots.length 4 (gl cs_RootKey v11.1.Roots))])), (16, (.arr true v50.2.1.length 1 (gl (csL 5 cs_Key) v50.2.1))), (17, (.arr true v50.2.2.length 4 (gl cs_RootKey v50.2.2))), (18, (.box [(.c (.int .i64 v17.1.Length)), (.c (.int .i64 v17.1.Kind)), (.arr 16), (.arr 17)]))]⟩ (T2 (((((Eqc (.int .i64 v17.1.Length)) ∧ (Eqc (.int .i64 v17.1.Kind)) ∧ (((sl 1 (csL 5 cs_Key) v17.1.Tracks) : C) = (sl 1 (csL 5 cs_Key) v17.1.Tracks) ∧ v50.2.1.length = v17.1.Tracks.length ∧ 1 = 1 ∧ ∀ i j, i < v17.1.Tracks.length → j < 1 → isSeq (gl (csL 5 cs_Key) v50.2.1 i j) = isSeq (gl (csL 5 cs_Key) v17.1.Tracks i j)) ∧ (((sl 4 cs_RootKey v17.1.Roots) : C) = (sl 4 cs_RootKey v17.1.Roots) ∧ v50.2.2.length = v17.1.Roots.length ∧ 4 = 4 ∧ ∀ i j, i < v17.1.Roots.length → j < 4 → isSeq (gl cs_RootKey v50.2.2 i j) = isSeq (gl cs_RootKey v17.1.Roots i j)) ∧ Tt) ∧ (Eqc (.int .i64 (1 : Int))) ∧ Tt) ∧ MutOK Try.prog 16 [(.agg [(.ro (.int .i64 v17.1.Length)), (.ro (.int .i64 v17.1.Kind)), (.mu (sl 1 (csL 5 cs_Key) v17.1.Tracks) (sl 1 (csL 5 cs_Key) v50.2.1)), (.mu (sl 4 cs_RootKey v17.1.Roots) (sl 4 cs_RootKey v50.2.2))]), .one (.ro (.int .i64 (1 : Int)))] [.one (.int .i64 v50.1)]) ∧ Tt ∧ Tt)) [.no, .no, .callM [(.agg [(.ro (.int .i64 v17.1.Length)), (.ro (.int .i64 v17.1.Kind)), (.mu (sl 1 (csL 5 cs_Key) v17.1.Tracks) (sl 1 (csL 5 cs_Key) v50.2.1)), (.mu (sl 4 cs_RootKey v17.1.Roots) (sl 4 cs_RootKey v50.2.2))]), .one (.ro (.int .i64 (1 : Int)))] [.one (.int .i64 v50.1)] [[.view]] none] [2, 3, 6, 7, 10, 13] [1, 2, 7, 8, 9, 16, 17, 18] ⟨tr, tr, ⟨⟨⟨rfl, rfl, ⟨rfl, c52, rfl, gl_seq (sq_slice)⟩, ⟨rfl, c53, rfl, gl_seq sq_RootKey⟩, tr⟩, rfl, tr⟩, ok_laws_markClip K v17.1 (1 : Int) v50 e51⟩, tr, tr⟩ ?_
              refine thenQ_normal ?_
              refine AW.seq (AW.rA ⟨[(2, (vp 1 0)), (3, (vp 2 0)), (6, (vp 9 0)), (7, (vc (.bool v11.2))), (10, (vp 18 0)), (13, (vc (.int .i64 v50.1))), (14, (vc (.int .i64 (1 : Int))))], [(1, (.box [(.c (.int .i64 a0.Length)), (.c (.int .i64 a0.Kind)), (.c (sl 1 (csL 5 cs_Key) a0.Tracks)), (.c (sl 4 cs_RootKey a0.Roots))])), (2, (.box [(.c (.int .i64 a1.Length)), (.c (.int .i64 a1.Kind)), (.c (sl 1 (csL 5 cs_Key) a1.Tracks)), (.c (sl 4 cs_RootKey a1.Roots))])), (7, (.lst v11.1.Tracks.length 1 (gl (csL 5 cs_Key) v11.1.Tracks))), (8, (.lst v11.1.Roots.length 4 (gl cs_RootKey v11.1.Roots))), (9, (.box [(.c (.int .i64 v11.1.Length)), (.c (.int .i64 v11.1.Kind)), (.lst 7 v11.1.Tracks.length 1 (gl (csL 5 cs_Key) v11.1.Tracks)), (.lst 8 v11.1.Roots.length 4 (gl cs_RootKey v11.1.Roots))])), (16, (.arr true v50.2.1.length 1 (gl (csL 5 cs_Key) v50.2.1))), (17, (.arr true v50.2.2.length 4 (gl cs_RootKey v50.2.2))), (18, (.box [(.c (.int .i64 v17.1.Length)), (.c (.int .i64 v17.1.Kind)), (.arr 16), (.arr 17)]))]⟩ (Tt ∧ Tt) [] [2, 3, 6, 7, 10, 13, 14] [1, 2, 7, 8, 9, 16, 17, 18] ⟨tr, tr⟩ (thenQ_normal ?_))
              refine AW.seq ?_
              obtain ⟨v54, e55, h⟩ := bind_some h
              refine AW.rA ⟨[(2, (vp 1 0)), (3, (vp 2 0)), (6, (vp 9 0)), (7, (vc (.bool v11.2))), (10, (vp 18 0)), (13, (vc (.int .i64 v50.1))), (14, (vc (.int .i64 v54)))], [(1, (.box [(.c (.int .i64 a0.Length)), (.c (.int .i64 a0.Kind)), (.c (sl 1 (csL 5 cs_Key) a0.Tracks)), (.c (sl 4 cs_RootKey a0.Roots))])), (2, (.box [(.c (.int .i64 a1.Length)), (.c (.int .i64 a1.Kind)), (.c (sl 1 (csL 5 cs_Key) a1.Tracks)), (.c (sl 4 cs_RootKey a1.Roots))])), (7, (.lst v11.1.Tracks.length 1 (gl (csL 5 cs_Key) v11.1.Tracks))), (8, (.lst v11.1.Roots.length 4 (gl cs_RootKey v11.1.Roots))), (9, (.box [(.c (.int .i64 v11.1.Length)), (.c (.int .i64 v11.1.Kind)), (.lst 7 v11.1.Tracks.length 1 (gl (csL 5 cs_Key) v11.1.Tracks)), (.lst 8 v11.1.Roots.length 4 (gl cs_RootKey v11.1.Roots))])), (16, (.arr true v50.2.1.length 1 (gl (csL 5 cs_Key) v50.2.1))), (17, (.arr true v50.2.2.length 4 (gl cs_RootKey v50.2.2))), (18, (.box [(.c (.int .i64 v17.1.Length)), (.c (.int .i64 v17.1.Kind)), (.arr 16), (.arr 17)]))]⟩ (T2 (((((Eqc (.int .i64 v17.1.Length)) ∧ (Eqc (.int .i64 v17.1.Kind)) ∧ (Eqc (sl 1 (csL 5 cs_Key) v50.2.1)) ∧ (Eqc (sl 4 cs_RootKey v50.2.2)) ∧ Tt) ∧ (Eqc (.int .i64 (1 : Int))) ∧ Tt) ∧ CallOK Try.prog 17 [.agg (cs_Clip (Clip.mk v17.1.Length v17.1.Kind v50.2.1 v50.2.2)), .one (.int .i64 (1 : Int))] [.one (.int .i64 v54)]) ∧ Tt ∧ Tt)) [.no, .no, .call [.agg (cs_Clip (Clip.mk v17.1.Length v17.1.Kind v50.2.1 v50.2.2)), .one (.int .i64 (1 : Int))] [.one (.int .i64 v54)] [[.view]]] [2, 3, 6, 7, 10, 13, 14] [1, 2, 7, 8, 9, 16, 17, 18] ⟨tr, tr, ⟨⟨⟨rfl, rfl, rfl, rfl, tr⟩, rfl, tr⟩, ok_laws_heldClip K (Clip.mk v17.1.Length v17.1.Kind v50.2.1 v50.2.2) (1 : Int) v54 e55⟩, tr, tr⟩ ?_
              refine thenQ_normal ?_
              refine AW.seq ?_
              refine AW.seq (AW.rA ⟨[(2, (vp 1 0)), (3, (vp 2 0)), (6, (vp 9 0)), (7, (vc (.bool v11.2))), (10, (vp 18 0)), (13, (vc (.int .i64 v50.1))), (14, (vc (.int .i64 v54))), (90, (vc (.bool (decide (v54 < (0 : Int))))))], [(1, (.box [(.c (.int .i64 a0.Length)), (.c (.int .i64 a0.Kind)), (.c (sl 1 (csL 5 cs_Key) a0.Tracks)), (.c (sl 4 cs_RootKey a0.Roots))])), (2, (.box [(.c (.int .i64 a1.Length)), (.c (.int .i64 a1.Kind)), (.c (sl 1 (csL 5 cs_Key) a1.Tracks)), (.c (sl 4 cs_RootKey a1.Roots))])), (7, (.lst v11.1.Tracks.length 1 (gl (csL 5 cs_Key) v11.1.Tracks))), (8, (.lst v11.1.Roots.length 4 (gl cs_RootKey v11.1.Roots))), (9, (.box [(.c (.int .i64 v11.1.Length)), (.c (.int .i64 v11.1.Kind)), (.lst 7 v11.1.Tracks.length 1 (gl (csL 5 cs_Key) v11.1.Tracks)), (.lst 8 v11.1.Roots.length 4 (gl cs_RootKey v11.1.Roots))])), (16, (.arr true v50.2.1.length 1 (gl (csL 5 cs_Key) v50.2.1))), (17, (.arr true v50.2.2.length 4 (gl cs_RootKey v50.2.2))), (18, (.box [(.c (.int .i64 v17.1.Length)), (.c (.int .i64 v17.1.Kind)), (.arr 16), (.arr 17)]))]⟩ (T2 Tt) [] [2, 3, 6, 7, 10, 13, 14, 90] [1, 2, 7, 8, 9, 16, 17, 18] ⟨tr, tr, tr⟩ (thenQ_normal ?_))
              rcases ite2_cases h with ⟨b56, h⟩ | ⟨b56, h⟩
              · refine AW.cond_t rfl b56 ?_
                refine AW.seq (AW.rA ⟨[(4, (vc (.bool false)))], []⟩ (Tt ∧ Tt) [] [4] [] ⟨tr, tr⟩ (thenQ_normal ?_))
                refine AW.ret ?_
                refine thenQ_ret ?_
                replace h := some_eq h
                subst h
                exact ⟨.inr rfl, retOK_of [(.one (.c (.bool false)))] (by kernel_rfl) ⟨⟨rfl, tr⟩, tr⟩ (of_decide_eq_true (by kernel_rfl))⟩
              · refine AW.cond_f rfl b56 ?_
                refine AW.skip ?_
                refine thenQ_normal ?_
                refine AW.seq ?_
                refine AW.seq (AW.rA ⟨[(2, (vp 1 0)), (3, (vp 2 0)), (6, (vp 9 0)), (7, (vc (.bool v11.2))), (10, (vp 18 0)), (13, (vc (.int .i64 v50.1))), (93, (vc (.bool (v54 != v50.1))))], [(1, (.box [(.c (.int .i64 a0.Length)), (.c (.int .i64 a0.Kind)), (.c (sl 1 (csL 5 cs_Key) a0.Tracks)), (.c (sl 4 cs_RootKey a0.Roots))])), (2, (.box [(.c (.int .i64 a1.Length)), (.c (.int .i64 a1.Kind)), (.c (sl 1 (csL 5 cs_Key) a1.Tracks)), (.c (sl 4 cs_RootKey a1.Roots))])), (7, (.lst v11.1.Tracks.length 1 (gl (csL 5 cs_Key) v11.1.Tracks))), (8, (.lst v11.1.Roots.length 4 (gl cs_RootKey v11.1.Roots))), (9, (.box [(.c (.int .i64 v11.1.Length)), (.c (.int .i64 v11.1.Kind)), (.lst 7 v11.1.Tracks.length 1 (gl (csL 5 cs_Key) v11.1.Tracks)), (.lst 8 v11.1.Roots.length 4 (gl cs_RootKey v11.1.Roots))])), (16, (.arr true v50.2.1.length 1 (gl (csL 5 cs_Key) v50.2.1))), (17, (.arr true v50.2.2.length 4 (gl cs_RootKey v50.2.2))), (18, (.box [(.c (.int .i64 v17.1.Length)), (.c (.int .i64 v17.1.Kind)), (.arr 16), (.arr 17)]))]⟩ (Tt ∧ T2 Tt) [] [2, 3, 6, 7, 10, 13, 93] [1, 2, 7, 8, 9, 16, 17, 18] ⟨tr, tr, tr, tr⟩ (thenQ_normal ?_))
                rcases ite2_cases h with ⟨b57, h⟩ | ⟨b57, h⟩
                · refine AW.cond_t rfl b57 ?_
                  refine AW.seq (AW.rA ⟨[(4, (vc (.bool false)))], []⟩ (Tt ∧ Tt) [] [4] [] ⟨tr, tr⟩ (thenQ_normal ?_))
                  refine AW.ret ?_
                  refine thenQ_ret ?_
                  replace h := some_eq h
                  subst h
                  exact ⟨.inr rfl, retOK_of [(.one (.c (.bool false)))] (by kernel_rfl) ⟨⟨rfl, tr⟩, tr⟩ (of_decide_eq_true (by kernel_rfl))⟩
                · refine AW.cond_f rfl b57 ?_
                  refine AW.skip ?_
                  refine thenQ_normal ?_
                  refine AW.seq ?_
                  obtain ⟨v58, e59, h⟩ := bind_some h
                  obtain ⟨v60, e61, h⟩ := bind_some h
                  obtain ⟨v62, e63, h⟩ := bind_some h
                  refine AW.lateA (by kernel_rfl) 9 7 [.no, .call [.agg (cs_Clip a0)] [.agg (cs_Clip v58)] [[.view, .view, .lst 23, .lst 24]], .no, .call [.agg (cs_Clip a1)] [.agg (cs_Clip v60)] [[.view, .view, .lst 25, .lst 26]], .call [.agg (cs_Clip v58), .agg (cs_Clip v60)] [.agg (cs_Clip v62.1), .one (.bool v62.2)] [[.view, .view, .lst 27, .lst 28], [.view]], .no, .no, .no, .box 29] [6, 7, 10, 13, 15, 16] [7, 8, 9, 16, 17, 18, 27, 28, 29] (s' := ⟨[(6, (vp 9 0)), (7, (vc (.bool v11.2))), (10, (vp 18 0)), (13, (vc (.int .i64 v50.1))), (15, (vp 29 0)), (16, (vc (.bool v62.2)))], [(7, (.lst v11.1.Tracks.length 1 (gl (csL 5 cs_Key) v11.1.Tracks))), (8, (.lst v11.1.Roots.length 4 (gl cs_RootKey v11.1.Roots))), (9, (.box [(.c (.int .i64 v11.1.Length)), (.c (.int .i64 v11.1.Kind)), (.lst 7 v11.1.Tracks.length 1 (gl (csL 5 cs_Key) v11.1.Tracks)), (.lst 8 v11.1.Roots.length 4 (gl cs_RootKey v11.1.Roots))])), (16, (.arr true v50.2.1.length 1 (gl (csL 5 cs_Key) v50.2.1))), (17, (.arr true v50.2.2.length 4 (gl cs_RootKey v50.2.2))), (18, (.box [(.c (.int .i64 v17.1.Length)), (.c (.int .i64 v17.1.Kind)), (.arr 16), (.arr 17)])), (27, (.lst v62.1.Tracks.length 1 (gl (csL 5 cs_Key) v62.1.Tracks))), (28, (.lst v62.1.Roots.length 4 (gl cs_RootKey v62.1.Roots))), (29, (.box [(.c (.int .i64 v62.1.Length)), (.c (.int .i64 v62.1.Kind)), (.lst 27 v62.1.Tracks.length 1 (gl (csL 5 cs_Key) v62.1.Tracks)), (.lst 28 v62.1.Roots.length 4 (gl cs_RootKey v62.1.Roots))]))]⟩) (ob := (Tt ∧ ((((Eqc (.int .i64 a0.Length)) ∧ (Eqc (.int .i64 a0.Kind)) ∧ (Eqc (sl 1 (csL 5 cs_Key) a0.Tracks)) ∧ (Eqc (sl 4 cs_RootKey a0.Roots)) ∧ Tt) ∧ Tt) ∧ CallOK Try.prog 13 [.agg (cs_Clip a0)] [.agg (cs_Clip v58)]) ∧ Tt ∧ ((((Eqc (.int .i64 a1.Length)) ∧ (Eqc (.int .i64 a1.Kind)) ∧ (Eqc (sl 1 (csL 5 cs_Key) a1.Tracks)) ∧ (Eqc (sl 4 cs_RootKey a1.Roots)) ∧ Tt) ∧ Tt) ∧ CallOK Try.prog 13 [.agg (cs_Clip a1)] [.agg (cs_Clip v60)]) ∧ ((((Eqc (.int .i64 v58.Length)) ∧ (Eqc (.int .i64 v58.Kind)) ∧ (Eqc (sl 1 (csL 5 cs_Key) v58.Tracks)) ∧ (Eqc (sl 4 cs_RootKey v58.Roots)) ∧ Tt) ∧ ((Eqc (.int .i64 v60.Length)) ∧ (Eqc (.int .i64 v60.Kind)) ∧ (Eqc (sl 1 (csL 5 cs_Key) v60.Tracks)) ∧ (Eqc (sl 4 cs_RootKey v60.Roots)) ∧ Tt) ∧ Tt) ∧ CallOK Try.prog 23 [.agg (cs_Clip v58), .agg (cs_Clip v60)] [.agg (cs_Clip v62.1), .one (.bool v62.2)]) ∧ T4 Tt) ∧ (T2 Tt) ∧ (Tt ∧ T2 Tt) ∧ ((⟨[(6, (vp 9 0)), (7, (vc (.bool v11.2))), (10, (vp 18 0)), (13, (vc (.int .i64 v50.1))), (15, (vp 29 0)), (16, (vc (.bool v62.2)))], [(7, (.lst v11.1.Tracks.length 1 (gl (csL 5 cs_Key) v11.1.Tracks))), (8, (.lst v11.1.Roots.length 4 (gl cs_RootKey v11.1.Roots))), (9, (.box [(.c (.int .i64 v11.1.Length)), (.c (.int .i64 v11.1.Kind)), (.lst 7 v11.1.Tracks.length 1 (gl (csL 5 cs_Key) v11.1.Tracks)), (.lst 8 v11.1.Roots.length 4 (gl cs_RootKey v11.1.Roots))])), (16, (.arr true v50.2.1.length 1 (gl (csL 5 cs_Key) v50.2.1))), (17, (.arr true v50.2.2.length 4 (gl cs_RootKey v50.2.2))), (18, (.box [(.c (.int .i64 v17.1.Length)), (.c (.int .i64 v17.1.Kind)), (.arr 16), (.arr 17)])), (27, (.lst v62.1.Tracks.length 1 (gl (csL 5 cs_Key) v62.1.Tracks))), (28, (.lst v62.1.Roots.length 4 (gl cs_RootKey v62.1.Roots))), (29, (.box [(.c (.int .i64 v62.1.Length)), (.c (.int .i64 v62.1.Kind)), (.lst 27 v62.1.Tracks.length 1 (gl (csL 5 cs_Key) v62.1.Tracks)), (.lst 28 v62.1.Roots.length 4 (gl cs_RootKey v62.1.Roots))]))]⟩ : St) = ⟨[(6, (vp 9 0)), (7, (vc (.bool v11.2))), (10, (vp 18 0)), (13, (vc (.int .i64 v50.1))), (15, (vp 29 0)), (16, (vc (.bool v62.2)))], [(7, (.lst v11.1.Tracks.length 1 (gl (csL 5 cs_Key) v11.1.Tracks))), (8, (.lst v11.1.Roots.length 4 (gl cs_RootKey v11.1.Roots))), (9, (.box [(.c (.int .i64 v11.1.Length)), (.c (.int .i64 v11.1.Kind)), (.lst 7 v11.1.Tracks.length 1 (gl (csL 5 cs_Key) v11.1.Tracks)), (.lst 8 v11.1.Roots.length 4 (gl cs_RootKey v11.1.Roots))])), (16, (.arr true v50.2.1.length 1 (gl (csL 5 cs_Key) v50.2.1))), (17, (.arr true v50.2.2.length 4 (gl cs_RootKey v50.2.2))), (18, (.box [(.c (.int .i64 v17.1.Length)), (.c (.int .i64 v17.1.Kind)), (.arr 16), (.arr 17)])), (27, (.lst v62.1.Tracks.length 1 (gl (csL 5 cs_Key) v62.1.Tracks))), (28, (.lst v62.1.Roots.length 4 (gl cs_RootKey v62.1.Roots))), (29, (.box [(.c (.int .i64 v62.1.Length)), (.c (.int .i64 v62.1.Kind)), (.lst 27 v62.1.Tracks.length 1 (gl (csL 5 cs_Key) v62.1.Tracks)), (.lst 28 v62.1.Roots.length 4 (gl cs_RootKey v62.1.Roots))]))]⟩)) (by kernel_rfl) ⟨⟨tr, ⟨⟨⟨rfl, rfl, rfl, rfl, tr⟩, tr⟩, ok_laws_toClip K a0 v58 e59⟩, tr, ⟨⟨⟨rfl, rfl, rfl, rfl, tr⟩, tr⟩, ok_laws_toClip K a1 v60 e61⟩, ⟨⟨⟨rfl, rfl, rfl, rfl, tr⟩, ⟨rfl, rfl, rfl, rfl, tr⟩, tr⟩, ok_impl_JoinClips K v58 v60 v62 e63⟩, tr, tr, tr, tr, tr⟩, ⟨tr, tr, tr⟩, ⟨tr, tr, tr, tr⟩, rfl⟩ ?_
                  refine thenQ_normal ?_
                  refine AW.seq ?_
                  refine AW.seq ?_
                  obtain ⟨v64, e65, h⟩ := bind_some h
                  obtain ⟨j67, e68, h⟩ := bind_some h
                  refine AW.join1 (s2 := ⟨[(10, (vp 18 0)), (13, (vc (.int .i64 v50.1))), (110, (vc (.bool j67)))], [(16, (.arr true v50.2.1.length 1 (gl (csL 5 cs_Key) v50.2.1))), (17, (.arr true v50.2.2.length 4 (gl cs_RootKey v50.2.2))), (18, (.box [(.c (.int .i64 v17.1.Length)), (.c (.int .i64 v17.1.Kind)), (.arr 16), (.arr 17)]))]⟩) ?_ ?_
                  · rcases ite2_cases e68 with ⟨b66, e68⟩ | ⟨b66, e68⟩
                    · replace e68 := some_eq e68
                      subst e68
                      exact AW.rA ⟨[(10, (vp 18 0)), (13, (vc (.int .i64 v50.1))), (110, (vc (.bool true)))], [(16, (.arr true v50.2.1.length 1 (gl (csL 5 cs_Key) v50.2.1))), (17, (.arr true v50.2.2.length 4 (gl cs_RootKey v50.2.2))), (18, (.box [(.c (.int .i64 v17.1.Length)), (.c (.int .i64 v17.1.Kind)), (.arr 16), (.arr 17)]))]⟩ (T2 (((((Eqc (.int .i64 v62.1.Length)) ∧ (Eqc (.int .i64 v62.1.Kind)) ∧ (Eqc (sl 1 (csL 5 cs_Key) v62.1.Tracks)) ∧ (Eqc (sl 4 cs_RootKey v62.1.Roots)) ∧ Tt) ∧ ((Eqc (.int .i64 v11.1.Length)) ∧ (Eqc (.int .i64 v11.1.Kind)) ∧ (Eqc (sl 1 (csL 5 cs_Key) v11.1.Tracks)) ∧ (Eqc (sl 4 cs_RootKey v11.1.Roots)) ∧ Tt) ∧ Tt) ∧ CallOK Try.prog 15 [.agg (cs_Clip v62.1), .agg (cs_Clip v11.1)] [.one (.bool v64)]) ∧ Tt ∧ (Tt ∧ (!v64) = true) ∧ T4 Tt)) [.no, .no, .call [.agg (cs_Clip v62.1), .agg (cs_Clip v11.1)] [.one (.bool v64)] [[.view]], .no, .dec true] [10, 13, 110] [16, 17, 18] ⟨tr, tr, ⟨⟨⟨rfl, rfl, rfl, rfl, tr⟩, ⟨rfl, rfl, rfl, rfl, tr⟩, tr⟩, ok_laws_eqClip K v62.1 v11.1 v64 e65⟩, tr, ⟨tr, b66⟩, tr, tr, tr, tr, tr⟩ ⟨rfl, rfl⟩
                    · replace e68 := some_eq e68
                      subst e68
                      exact AW.rA ⟨[(10, (vp 18 0)), (13, (vc (.int .i64 v50.1))), (110, (vc (.bool (!(v62.2 == v11.2)))))], [(16, (.arr true v50.2.1.length 1 (gl (csL 5 cs_Key) v50.2.1))), (17, (.arr true v50.2.2.length 4 (gl cs_RootKey v50.2.2))), (18, (.box [(.c (.int .i64 v17.1.Length)), (.c (.int .i64 v17.1.Kind)), (.arr 16), (.arr 17)]))]⟩ (T2 (((((Eqc (.int .i64 v62.1.Length)) ∧ (Eqc (.int .i64 v62.1.Kind)) ∧ (Eqc (sl 1 (csL 5 cs_Key) v62.1.Tracks)) ∧ (Eqc (sl 4 cs_RootKey v62.1.Roots)) ∧ Tt) ∧ ((Eqc (.int .i64 v11.1.Length)) ∧ (Eqc (.int .i64 v11.1.Kind)) ∧ (Eqc (sl 1 (csL 5 cs_Key) v11.1.Tracks)) ∧ (Eqc (sl 4 cs_RootKey v11.1.Roots)) ∧ Tt) ∧ Tt) ∧ CallOK Try.prog 15 [.agg (cs_Clip v62.1), .agg (cs_Clip v11.1)] [.one (.bool v64)]) ∧ Tt ∧ (Tt ∧ (!v64) = false) ∧ T4 Tt)) [.no, .no, .call [.agg (cs_Clip v62.1), .agg (cs_Clip v11.1)] [.one (.bool v64)] [[.view]], .no, .dec false] [10, 13, 110] [16, 17, 18] ⟨tr, tr, ⟨⟨⟨rfl, rfl, rfl, rfl, tr⟩, ⟨rfl, rfl, rfl, rfl, tr⟩, tr⟩, ok_laws_eqClip K v62.1 v11.1 v64 e65⟩, tr, ⟨tr, b66⟩, tr, tr, tr, tr, tr⟩ ⟨rfl, rfl⟩
                  refine thenQ_normal ?_
                  rcases ite2_cases h with ⟨b69, h⟩ | ⟨b69, h⟩
                  · refine AW.cond_t rfl b69 ?_
                    refine AW.seq (AW.rA ⟨[(4, (vc (.bool false)))], []⟩ (Tt ∧ Tt) [] [4] [] ⟨tr, tr⟩ (thenQ_normal ?_))
                    refine AW.ret ?_
                    refine thenQ_ret ?_
                    replace h := some_eq h
                    subst h
                    exact ⟨.inr rfl, retOK_of [(.one (.c (.bool false)))] (by kernel_rfl) ⟨⟨rfl, tr⟩, tr⟩ (of_decide_eq_true (by kernel_rfl))⟩
                  · refine AW.cond_f rfl b69 ?_
                    refine AW.skip ?_
                    refine thenQ_normal ?_
                    refine AW.seq (AW.rA ⟨[(10, (vp 18 0)), (13, (vc (.int .i64 v50.1))), (14, (vc (.int .i64 (1 : Int))))], [(16, (.arr true v50.2.1.length 1 (gl (csL 5 cs_Key) v50.2.1))), (17, (.arr true v50.2.2.length 4 (gl cs_RootKey v50.2.2))), (18, (.box [(.c (.int .i64 v17.1.Length)), (.c (.int .i64 v17.1.Kind)), (.arr 16), (.arr 17)]))]⟩ (Tt ∧ Tt) [] [10, 13, 14] [16, 17, 18] ⟨tr, tr⟩ (thenQ_normal ?_))
                    refine AW.seq ?_
                    obtain ⟨v70, e71, h⟩ := bind_some h
                    refine AW.rA ⟨[(13, (vc (.int .i64 v50.1))), (14, (vc (.int .i64 v70)))], []⟩ (T2 (((((Eqc (.int .i64 v17.1.Length)) ∧ (Eqc (.int .i64 v17.1.Kind)) ∧ (Eqc (sl 1 (csL 5 cs_Key) v50.2.1)) ∧ (Eqc (sl 4 cs_RootKey v50.2.2)) ∧ Tt) ∧ (Eqc (.int .i64 (1 : Int))) ∧ Tt) ∧ CallOK Try.prog 17 [.agg (cs_Clip (Clip.mk v17.1.Length v17.1.Kind v50.2.1 v50.2.2)), .one (.int .i64 (1 : Int))] [.one (.int .i64 v70)]) ∧ Tt ∧ Tt)) [.no, .no, .call [.agg (cs_Clip (Clip.mk v17.1.Length v17.1.Kind v50.2.1 v50.2.2)), .one (.int .i64 (1 : Int))] [.one (.int .i64 v70)] [[.view]]] [13, 14] [] ⟨tr, tr, ⟨⟨⟨rfl, rfl, rfl, rfl, tr⟩, rfl, tr⟩, ok_laws_heldClip K (Clip.mk v17.1.Length v17.1.Kind v50.2.1 v50.2.2) (1 : Int) v70 e71⟩, tr, tr⟩ ?_
                    refine thenQ_normal ?_
                    refine AW.seq ?_
                    refine AW.seq (AW.rA ⟨[(13, (vc (.int .i64 v50.1))), (14, (vc (.int .i64 v70))), (115, (vc (.bool (decide (v70 < (0 : Int))))))], []⟩ (T2 Tt) [] [13, 14, 115] [] ⟨tr, tr, tr⟩ (thenQ_normal ?_))
                    rcases ite2_cases h with ⟨b72, h⟩ | ⟨b72, h⟩
                    · refine AW.cond_t rfl b72 ?_
                      refine AW.seq (AW.rA ⟨[(4, (vc (.bool false)))], []⟩ (Tt ∧ Tt) [] [4] [] ⟨tr, tr⟩ (thenQ_normal ?_))
                      refine AW.ret ?_
                      refine thenQ_ret ?_
                      replace h := some_eq h
                      subst h
                      exact ⟨.inr rfl, retOK_of [(.one (.c (.bool false)))] (by kernel_rfl) ⟨⟨rfl, tr⟩, tr⟩ (of_decide_eq_true (by kernel_rfl))⟩
                    · refine AW.cond_f rfl b72 ?_
                      refine AW.skip ?_
                      refine thenQ_normal ?_
                      refine AW.seq ?_
                      refine AW.seq (AW.rA ⟨[(118, (vc (.bool (v70 != v50.1))))], []⟩ (Tt ∧ T2 Tt) [] [118] [] ⟨tr, tr, tr, tr⟩ (thenQ_normal ?_))
                      rcases ite2_cases h with ⟨b73, h⟩ | ⟨b73, h⟩
                      · refine AW.cond_t rfl b73 ?_
                        refine AW.seq (AW.rA ⟨[(4, (vc (.bool false)))], []⟩ (Tt ∧ Tt) [] [4] [] ⟨tr, tr⟩ (thenQ_normal ?_))
                        refine AW.ret ?_
                        refine thenQ_ret ?_
                        replace h := some_eq h
                        subst h
                        exact ⟨.inr rfl, retOK_of [(.one (.c (.bool false)))] (by kernel_rfl) ⟨⟨rfl, tr⟩, tr⟩ (of_decide_eq_true (by kernel_rfl))⟩
                      · refine AW.cond_f rfl b73 ?_
                        refine AW.skip ?_
                        refine thenQ_normal ?_
                        refine AW.seq (AW.rA ⟨[(4, (vc (.bool true)))], []⟩ (Tt ∧ Tt) [] [4] [] ⟨tr, tr⟩ (thenQ_normal ?_))
                        refine AW.ret ?_
                        replace h := some_eq h
                        subst h
                        exact ⟨.inr rfl, retOK_of [(.one (.c (.bool true)))] (by kernel_rfl) ⟨⟨rfl, tr⟩, tr⟩ (of_decide_eq_true (by kernel_rfl))⟩

end
end Go.Fw
