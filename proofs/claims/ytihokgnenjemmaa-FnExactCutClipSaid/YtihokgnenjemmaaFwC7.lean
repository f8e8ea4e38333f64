/- Functions of the program: what each computes, and that it computes just that. -/
import Derived.Test.YtihokgnenjemmaaFwTy
import Derived.Test.YtihokgnenjemmaaFwH
import Derived.Test.YtihokgnenjemmaaFwV
import Derived.Test.YtihokgnenjemmaaFwC73
import Derived.Test.YtihokgnenjemmaaFwUB
import Derived.Test.YtihokgnenjemmaaProg
import Derived.KernelRfl
namespace Go.Fw
open Go Go.Proofs
noncomputable section
set_option maxRecDepth 10000

/-! laws.heldRootKeyS -/
def laws_heldRootKeyS_l1 (K : Nat) (a0 : (List RootKey)) : Nat → Int → Int → Option (Int)
  | 0, _, _ => none
  | k + 1, x3, x4 => ite2 ((decide (x4 < (a0.length : Int)))) (chk (0 ≤ x4 ∧ x4 < (a0.length : Int)) (ite2 ((((a0.getD x4.toNat default).At) != x3)) (some ((-1) : Int)) (ite2 (((((a0.getD x4.toNat default).Place).X).ne (Fl.ofInt .f32 (IntKind.i64.wrap (x3 + (1 : Int)))))) (some ((-1) : Int)) (ite2 (((((a0.getD x4.toNat default).Place).Y).ne (Fl.ofInt .f32 (IntKind.i64.wrap ((IntKind.i64.wrap (x3 + (1 : Int))) + (1 : Int)))))) (some ((-1) : Int)) (ite2 (((((a0.getD x4.toNat default).Place).Z).ne (Fl.ofInt .f32 (IntKind.i64.wrap ((IntKind.i64.wrap ((IntKind.i64.wrap (x3 + (1 : Int))) + (1 : Int))) + (1 : Int)))))) (some ((-1) : Int)) (laws_heldRootKeyS_l1 K a0 k (IntKind.i64.wrap ((IntKind.i64.wrap ((IntKind.i64.wrap ((IntKind.i64.wrap (x3 + (1 : Int))) + (1 : Int))) + (1 : Int))) + (1 : Int))) (IntKind.i64.wrap (x4 + (1 : Int))))))))) (some x3)

def laws_heldRootKeyS (K : Nat) (a0 : (List RootKey)) (a1 : Int) : Option (Int) :=
  laws_heldRootKeyS_l1 K a0 K a1 (0 : Int)

theorem ok_laws_heldRootKeyS (K : Nat) (a0 : (List RootKey)) (a1 : Int) (o : (Int)) (h : laws_heldRootKeyS K a0 a1 = some o) : CallOK Try.prog 73 [.one (sl 4 cs_RootKey a0), .one (.int .i64 a1)] [.one (.int .i64 o)] := by
  refine callOK_of_AW Try.func73 rfl (by kernel_rfl) (Nat.le_of_ble_eq_true (by kernel_rfl)) ?_
  intro w0
  unfold laws_heldRootKeyS at h
  refine AW.seq (AW.rA ⟨[(0, (vc (sl 4 cs_RootKey a0))), (1, (vc (.int .i64 a1)))], []⟩ (Tt ∧ Tt) [] [0, 1] [] ⟨tr, tr⟩ (thenQ_normal ?_))
  refine AW.seq ?_
  refine AW.seq (AW.rA ⟨[(0, (vc (sl 4 cs_RootKey a0))), (1, (vc (.int .i64 a1))), (5, (vc (.int .i64 (0 : Int))))], []⟩ (Tt ∧ Tt) [] [0, 1, 5] [] ⟨tr, tr⟩ (thenQ_normal ?_))
  refine AW.block ?_
  refine AW.loopQ (σ := Nat × Int × Int) (fun p => ⟨[(0, (vc (sl 4 cs_RootKey a0))), (1, (vc (.int .i64 p.2.1))), (5, (vc (.int .i64 p.2.2)))], []⟩) (fun p => laws_heldRootKeyS_l1 K a0 p.1 p.2.1 p.2.2 = some o) (fun p => p.1) (K, a1, (0 : Int)) h ?_
  clear h
  rintro ⟨k, x3, x4⟩ h
  replace h : laws_heldRootKeyS_l1 K a0 k x3 x4 = some o := h
  show AW _ _ (⟨[(0, (vc (sl 4 cs_RootKey a0))), (1, (vc (.int .i64 x3))), (5, (vc (.int .i64 x4)))], []⟩ : St) _
  obtain _ | k := k
  · rw [laws_heldRootKeyS_l1] at h; cases h
  rw [laws_heldRootKeyS_l1] at h
  refine AW.seq ?_
  refine AW.seq (AW.rA ⟨[(0, (vc (sl 4 cs_RootKey a0))), (1, (vc (.int .i64 x3))), (5, (vc (.int .i64 x4))), (9, (vc (.bool (decide (x4 < (a0.length : Int))))))], []⟩ (T4 Tt) [] [0, 1, 5, 9] [] ⟨tr, tr, tr, tr, tr⟩ (thenQ_normal ?_))
  rcases ite2_cases h with ⟨b5, h⟩ | ⟨b5, h⟩
  · refine AW.cond_t rfl b5 ?_
    refine AW.skip ?_
    refine thenQ_normal ?_
    refine AW.seq ?_
    refine AW.block ?_
    refine AW.seq ?_
    refine AW.seq ?_
    obtain ⟨c6, h⟩ := chk_some h
    refine AW.rA ⟨[(0, (vc (sl 4 cs_RootKey a0))), (1, (vc (.int .i64 x3))), (5, (vc (.int .i64 x4))), (18, (vc (.bool (((a0.getD x4.toNat default).At) != x3))))], []⟩ (T2 ((0 ≤ x4 ∧ x4 < (a0.length : Int)) ∧ T4 Tt)) [] [0, 1, 5, 18] [] ⟨tr, tr, c6, tr, tr, tr, tr, tr⟩ ?_
    refine thenQ_normal ?_
    rcases ite2_cases h with ⟨b7, h⟩ | ⟨b7, h⟩
    · refine AW.cond_t rfl b7 ?_
      refine AW.seq (AW.rA ⟨[(4, (vc (.int .i64 ((-1) : Int))))], []⟩ (Tt ∧ Tt) [] [4] [] ⟨tr, tr⟩ (thenQ_normal ?_))
      refine AW.ret ?_
      refine thenQ_ret ?_
      refine blockQ_ret ?_
      refine thenQ_ret ?_
      refine loopQ_ret ?_
      refine blockQ_ret ?_
      refine thenQ_ret ?_
      replace h := some_eq h
      subst h
      exact ⟨.inr rfl, retOK_of [(.one (.c (.int .i64 ((-1) : Int))))] (by kernel_rfl) ⟨⟨rfl, tr⟩, tr⟩ (of_decide_eq_true (by kernel_rfl))⟩
    · refine AW.cond_f rfl b7 ?_
      refine AW.skip ?_
      refine thenQ_normal ?_
      refine AW.seq (AW.rA ⟨[(0, (vc (sl 4 cs_RootKey a0))), (1, (vc (.int .i64 (IntKind.i64.wrap (x3 + (1 : Int)))))), (5, (vc (.int .i64 x4)))], []⟩ (Tt ∧ T2 Tt) [] [0, 1, 5] [] ⟨tr, tr, tr, tr⟩ (thenQ_normal ?_))
      refine AW.seq ?_
      refine AW.seq (AW.rA ⟨[(0, (vc (sl 4 cs_RootKey a0))), (1, (vc (.int .i64 (IntKind.i64.wrap (x3 + (1 : Int)))))), (5, (vc (.int .i64 x4))), (29, (vc (.bool ((((a0.getD x4.toNat default).Place).X).ne (Fl.ofInt .f32 (IntKind.i64.wrap (x3 + (1 : Int))))))))], []⟩ (T2 ((0 ≤ x4 ∧ x4 < (a0.length : Int)) ∧ T2 (T4 Tt))) [] [0, 1, 5, 29] [] ⟨tr, tr, c6, tr, tr, tr, tr, tr, tr, tr⟩ (thenQ_normal ?_))
      rcases ite2_cases h with ⟨b8, h⟩ | ⟨b8, h⟩
      · refine AW.cond_t rfl b8 ?_
        refine AW.seq (AW.rA ⟨[(4, (vc (.int .i64 ((-1) : Int))))], []⟩ (Tt ∧ Tt) [] [4] [] ⟨tr, tr⟩ (thenQ_normal ?_))
        refine AW.ret ?_
        refine thenQ_ret ?_
        refine blockQ_ret ?_
        refine thenQ_ret ?_
        refine loopQ_ret ?_
        refine blockQ_ret ?_
        refine thenQ_ret ?_
        replace h := some_eq h
        subst h
        exact ⟨.inr rfl, retOK_of [(.one (.c (.int .i64 ((-1) : Int))))] (by kernel_rfl) ⟨⟨rfl, tr⟩, tr⟩ (of_decide_eq_true (by kernel_rfl))⟩
      · refine AW.cond_f rfl b8 ?_
        refine AW.skip ?_
        refine thenQ_normal ?_
        refine AW.seq (AW.rA ⟨[(0, (vc (sl 4 cs_RootKey a0))), (1, (vc (.int .i64 (IntKind.i64.wrap ((IntKind.i64.wrap (x3 + (1 : Int))) + (1 : Int)))))), (5, (vc (.int .i64 x4)))], []⟩ (Tt ∧ T2 Tt) [] [0, 1, 5] [] ⟨tr, tr, tr, tr⟩ (thenQ_normal ?_))
        refine AW.seq ?_
        refine AW.seq (AW.rA ⟨[(0, (vc (sl 4 cs_RootKey a0))), (1, (vc (.int .i64 (IntKind.i64.wrap ((IntKind.i64.wrap (x3 + (1 : Int))) + (1 : Int)))))), (5, (vc (.int .i64 x4))), (40, (vc (.bool ((((a0.getD x4.toNat default).Place).Y).ne (Fl.ofInt .f32 (IntKind.i64.wrap ((IntKind.i64.wrap (x3 + (1 : Int))) + (1 : Int))))))))], []⟩ (T2 ((0 ≤ x4 ∧ x4 < (a0.length : Int)) ∧ T2 (T4 Tt))) [] [0, 1, 5, 40] [] ⟨tr, tr, c6, tr, tr, tr, tr, tr, tr, tr⟩ (thenQ_normal ?_))
        rcases ite2_cases h with ⟨b9, h⟩ | ⟨b9, h⟩
        · refine AW.cond_t rfl b9 ?_
          refine AW.seq (AW.rA ⟨[(4, (vc (.int .i64 ((-1) : Int))))], []⟩ (Tt ∧ Tt) [] [4] [] ⟨tr, tr⟩ (thenQ_normal ?_))
          refine AW.ret ?_
          refine thenQ_ret ?_
          refine blockQ_ret ?_
          refine thenQ_ret ?_
          refine loopQ_ret ?_
          refine blockQ_ret ?_
          refine thenQ_ret ?_
          replace h := some_eq h
          subst h
          exact ⟨.inr rfl, retOK_of [(.one (.c (.int .i64 ((-1) : Int))))] (by kernel_rfl) ⟨⟨rfl, tr⟩, tr⟩ (of_decide_eq_true (by kernel_rfl))⟩
        · refine AW.cond_f rfl b9 ?_
          refine AW.skip ?_
          refine thenQ_normal ?_
          refine AW.seq (AW.rA ⟨[(0, (vc (sl 4 cs_RootKey a0))), (1, (vc (.int .i64 (IntKind.i64.wrap ((IntKind.i64.wrap ((IntKind.i64.wrap (x3 + (1 : Int))) + (1 : Int))) + (1 : Int)))))), (5, (vc (.int .i64 x4)))], []⟩ (Tt ∧ T2 Tt) [] [0, 1, 5] [] ⟨tr, tr, tr, tr⟩ (thenQ_normal ?_))
          refine AW.seq ?_
          refine AW.seq (AW.rA ⟨[(0, (vc (sl 4 cs_RootKey a0))), (1, (vc (.int .i64 (IntKind.i64.wrap ((IntKind.i64.wrap ((IntKind.i64.wrap (x3 + (1 : Int))) + (1 : Int))) + (1 : Int)))))), (5, (vc (.int .i64 x4))), (51, (vc (.bool ((((a0.getD x4.toNat default).Place).Z).ne (Fl.ofInt .f32 (IntKind.i64.wrap ((IntKind.i64.wrap ((IntKind.i64.wrap (x3 + (1 : Int))) + (1 : Int))) + (1 : Int))))))))], []⟩ (T2 ((0 ≤ x4 ∧ x4 < (a0.length : Int)) ∧ T2 (T4 Tt))) [] [0, 1, 5, 51] [] ⟨tr, tr, c6, tr, tr, tr, tr, tr, tr, tr⟩ (thenQ_normal ?_))
          rcases ite2_cases h with ⟨b10, h⟩ | ⟨b10, h⟩
          · refine AW.cond_t rfl b10 ?_
            refine AW.seq (AW.rA ⟨[(4, (vc (.int .i64 ((-1) : Int))))], []⟩ (Tt ∧ Tt) [] [4] [] ⟨tr, tr⟩ (thenQ_normal ?_))
            refine AW.ret ?_
            refine thenQ_ret ?_
            refine blockQ_ret ?_
            refine thenQ_ret ?_
            refine loopQ_ret ?_
            refine blockQ_ret ?_
            refine thenQ_ret ?_
            replace h := some_eq h
            subst h
            exact ⟨.inr rfl, retOK_of [(.one (.c (.int .i64 ((-1) : Int))))] (by kernel_rfl) ⟨⟨rfl, tr⟩, tr⟩ (of_decide_eq_true (by kernel_rfl))⟩
          · refine AW.cond_f rfl b10 ?_
            refine AW.skip ?_
            refine thenQ_normal ?_
            refine AW.rA ⟨[(0, (vc (sl 4 cs_RootKey a0))), (1, (vc (.int .i64 (IntKind.i64.wrap ((IntKind.i64.wrap ((IntKind.i64.wrap ((IntKind.i64.wrap (x3 + (1 : Int))) + (1 : Int))) + (1 : Int))) + (1 : Int)))))), (5, (vc (.int .i64 x4)))], []⟩ (Tt ∧ T2 Tt) [] [0, 1, 5] [] ⟨tr, tr, tr, tr⟩ ?_
            refine blockQ_normal ?_
            refine thenQ_normal ?_
            refine AW.rA ⟨[(0, (vc (sl 4 cs_RootKey a0))), (1, (vc (.int .i64 (IntKind.i64.wrap ((IntKind.i64.wrap ((IntKind.i64.wrap ((IntKind.i64.wrap (x3 + (1 : Int))) + (1 : Int))) + (1 : Int))) + (1 : Int)))))), (5, (vc (.int .i64 (IntKind.i64.wrap (x4 + (1 : Int))))))], []⟩ (Tt ∧ T2 Tt) [] [0, 1, 5] [] ⟨tr, tr, tr, tr⟩ ?_
            exact loopQ_normal (k, (IntKind.i64.wrap ((IntKind.i64.wrap ((IntKind.i64.wrap ((IntKind.i64.wrap (x3 + (1 : Int))) + (1 : Int))) + (1 : Int))) + (1 : Int))), (IntKind.i64.wrap (x4 + (1 : Int)))) h (Nat.lt_succ_self k) (Sub.keep [0, 1, 5] [] (by kernel_rfl) (by kernel_rfl))
  · refine AW.cond_f rfl b5 ?_
    refine AW.exit ?_
    refine thenQ_exit ?_
    refine loopQ_exit ?_
    refine blockQ_exit ?_
    refine thenQ_normal ?_
    refine AW.seq (AW.rA ⟨[(4, (vc (.int .i64 x3)))], []⟩ (T2 Tt) [] [4] [] ⟨tr, tr, tr⟩ (thenQ_normal ?_))
    refine AW.ret ?_
    replace h := some_eq h
    subst h
    exact ⟨.inr rfl, retOK_of [(.one (.c (.int .i64 x3)))] (by kernel_rfl) ⟨⟨rfl, tr⟩, tr⟩ (of_decide_eq_true (by kernel_rfl))⟩

/-! laws.heldClip -/
def laws_heldClip (K : Nat) (a0 : Clip) (a1 : Int) : Option (Int) :=
  (laws_heldKeySS K a0.Tracks a1).bind fun v1 => ite2 ((decide (v1 < (0 : Int)))) (some ((-1) : Int)) ((laws_heldRootKeyS K a0.Roots v1).bind fun v4 => ite2 ((decide (v4 < (0 : Int)))) (some ((-1) : Int)) (some v4))

theorem ok_laws_heldClip (K : Nat) (a0 : Clip) (a1 : Int) (o : (Int)) (h : laws_heldClip K a0 a1 = some o) : CallOK Try.prog 17 [.agg (cs_Clip a0), .one (.int .i64 a1)] [.one (.int .i64 o)] := by
  refine callOK_of_AW Try.func17 rfl (by kernel_rfl) (Nat.le_of_ble_eq_true (by kernel_rfl)) ?_
  intro w0
  unfold laws_heldClip at h
  refine AW.seq (AW.rA ⟨[(1, (vc (.int .i64 a1))), (2, (vp 1 0))], [(1, (.box [(.c (.int .i64 a0.Length)), (.c (.int .i64 a0.Kind)), (.c (sl 1 (csL 5 cs_Key) a0.Tracks)), (.c (sl 4 cs_RootKey a0.Roots))]))]⟩ (T2 Tt) [.box 1] [1, 2] [1] ⟨tr, tr, tr⟩ (thenQ_normal ?_))
  refine AW.seq ?_
  obtain ⟨v1, e2, h⟩ := bind_some h
  refine AW.rA ⟨[(1, (vc (.int .i64 v1))), (2, (vp 1 0))], [(1, (.box [(.c (.int .i64 a0.Length)), (.c (.int .i64 a0.Kind)), (.c (sl 1 (csL 5 cs_Key) a0.Tracks)), (.c (sl 4 cs_RootKey a0.Roots))]))]⟩ (Tt ∧ T2 ((((Eqc (sl 1 (csL 5 cs_Key) a0.Tracks)) ∧ (Eqc (.int .i64 a1)) ∧ Tt) ∧ CallOK Try.prog 72 [.one (sl 1 (csL 5 cs_Key) a0.Tracks), .one (.int .i64 a1)] [.one (.int .i64 v1)]) ∧ Tt ∧ Tt)) [.no, .no, .no, .call [.one (sl 1 (csL 5 cs_Key) a0.Tracks), .one (.int .i64 a1)] [.one (.int .i64 v1)] [[.view]]] [1, 2] [1] ⟨tr, tr, tr, ⟨⟨rfl, rfl, tr⟩, ok_laws_heldKeySS K a0.Tracks a1 v1 e2⟩, tr, tr⟩ ?_
  refine thenQ_normal ?_
  refine AW.seq ?_
  refine AW.seq (AW.rA ⟨[(1, (vc (.int .i64 v1))), (2, (vp 1 0)), (10, (vc (.bool (decide (v1 < (0 : Int))))))], [(1, (.box [(.c (.int .i64 a0.Length)), (.c (.int .i64 a0.Kind)), (.c (sl 1 (csL 5 cs_Key) a0.Tracks)), (.c (sl 4 cs_RootKey a0.Roots))]))]⟩ (T2 Tt) [] [1, 2, 10] [1] ⟨tr, tr, tr⟩ (thenQ_normal ?_))
  rcases ite2_cases h with ⟨b3, h⟩ | ⟨b3, h⟩
  · refine AW.cond_t rfl b3 ?_
    refine AW.seq (AW.rA ⟨[(4, (vc (.int .i64 ((-1) : Int))))], []⟩ (Tt ∧ Tt) [] [4] [] ⟨tr, tr⟩ (thenQ_normal ?_))
    refine AW.ret ?_
    refine thenQ_ret ?_
    replace h := some_eq h
    subst h
    exact ⟨.inr rfl, retOK_of [(.one (.c (.int .i64 ((-1) : Int))))] (by kernel_rfl) ⟨⟨rfl, tr⟩, tr⟩ (of_decide_eq_true (by kernel_rfl))⟩
  · refine AW.cond_f rfl b3 ?_
    refine AW.skip ?_
    refine thenQ_normal ?_
    refine AW.seq ?_
    obtain ⟨v4, e5, h⟩ := bind_some h
    refine AW.rA ⟨[(1, (vc (.int .i64 v4)))], []⟩ (Tt ∧ T2 ((((Eqc (sl 4 cs_RootKey a0.Roots)) ∧ (Eqc (.int .i64 v1)) ∧ Tt) ∧ CallOK Try.prog 73 [.one (sl 4 cs_RootKey a0.Roots), .one (.int .i64 v1)] [.one (.int .i64 v4)]) ∧ Tt ∧ Tt)) [.no, .no, .no, .call [.one (sl 4 cs_RootKey a0.Roots), .one (.int .i64 v1)] [.one (.int .i64 v4)] [[.view]]] [1] [] ⟨tr, tr, tr, ⟨⟨rfl, rfl, tr⟩, ok_laws_heldRootKeyS K a0.Roots v1 v4 e5⟩, tr, tr⟩ ?_
    refine thenQ_normal ?_
    refine AW.seq ?_
    refine AW.seq (AW.rA ⟨[(1, (vc (.int .i64 v4))), (16, (vc (.bool (decide (v4 < (0 : Int))))))], []⟩ (T2 Tt) [] [1, 16] [] ⟨tr, tr, tr⟩ (thenQ_normal ?_))
    rcases ite2_cases h with ⟨b6, h⟩ | ⟨b6, h⟩
    · refine AW.cond_t rfl b6 ?_
      refine AW.seq (AW.rA ⟨[(4, (vc (.int .i64 ((-1) : Int))))], []⟩ (Tt ∧ Tt) [] [4] [] ⟨tr, tr⟩ (thenQ_normal ?_))
      refine AW.ret ?_
      refine thenQ_ret ?_
      replace h := some_eq h
      subst h
      exact ⟨.inr rfl, retOK_of [(.one (.c (.int .i64 ((-1) : Int))))] (by kernel_rfl) ⟨⟨rfl, tr⟩, tr⟩ (of_decide_eq_true (by kernel_rfl))⟩
    · refine AW.cond_f rfl b6 ?_
      refine AW.skip ?_
      refine thenQ_normal ?_
      refine AW.seq (AW.rA ⟨[(4, (vc (.int .i64 v4)))], []⟩ (T2 Tt) [] [4] [] ⟨tr, tr, tr⟩ (thenQ_normal ?_))
      refine AW.ret ?_
      replace h := some_eq h
      subst h
      exact ⟨.inr rfl, retOK_of [(.one (.c (.int .i64 v4)))] (by kernel_rfl) ⟨⟨rfl, tr⟩, tr⟩ (of_decide_eq_true (by kernel_rfl))⟩

/-! laws.FnExactCutClip -/
def laws_FnExactCutClip (K : Nat) (a0 : Clip) (a1 : Int) (a2 : Int) : Option (Bool) :=
  (laws_szClip K a0 (1048576 : Int)).bind fun v1 => ite2 ((decide (v1 < (0 : Int)))) (some true) ((laws_toClip K a0).bind fun v4 => (spec_CutClip K v4 a1 a2).bind fun v6 => (laws_toClip K a0).bind fun v8 => (impl_CutClip K v8 a1 a2).bind fun v10 => (laws_eqClip K v10.1 v6.1).bind fun v12 => (ite2 ((!v12)) (some true) (some (!(v10.2 == v6.2)))).bind fun j15 => ite2 (j15) (some false) ((laws_toClip K a0).bind fun v18 => (laws_eqClip K v8 v18).bind fun v20 => ite2 ((!v20)) (some false) ((laws_markClip K v8 (1 : Int)).bind fun v23 => chk (v23.2.1.length = v8.Tracks.length) (chk (v23.2.2.length = v8.Roots.length) ((ite2 ((decide (v23.1 < (0 : Int)))) (some true) ((laws_eqClip K v10.1 v6.1).bind fun v28 => ite2 ((!v28)) (some true) (some (!(v10.2 == v6.2))))).bind fun j31 => ite2 (j31) (some false) ((laws_markClip K v10.1 (1 : Int)).bind fun v34 => chk (v34.2.1.length = v10.1.Tracks.length) (chk (v34.2.2.length = v10.1.Roots.length) ((laws_heldClip K (Clip.mk v10.1.Length v10.1.Kind v34.2.1 v34.2.2) (1 : Int)).bind fun v38 => ite2 ((decide (v38 < (0 : Int)))) (some false) (ite2 ((v38 != v34.1)) (some false) ((laws_toClip K a0).bind fun v42 => (impl_CutClip K v42 a1 a2).bind fun v44 => (laws_eqClip K v44.1 v6.1).bind fun v46 => (ite2 ((!v46)) (some true) (some (!(v44.2 == v6.2)))).bind fun j49 => ite2 (j49) (some false) ((laws_heldClip K (Clip.mk v10.1.Length v10.1.Kind v34.2.1 v34.2.2) (1 : Int)).bind fun v52 => ite2 ((decide (v52 < (0 : Int)))) (some false) (ite2 ((v52 != v34.1)) (some false) (some true)))))))))))))

theorem ok_laws_FnExactCutClip (K : Nat) (a0 : Clip) (a1 : Int) (a2 : Int) (o : (Bool)) (h : laws_FnExactCutClip K a0 a1 a2 = some o) : CallOK Try.prog 7 [.agg (cs_Clip a0), .one (.int .i64 a1), .one (.int .i64 a2)] [.one (.bool o)] := by
  refine callOK_of_AW Try.func7 rfl (by kernel_rfl) (Nat.le_of_ble_eq_true (by kernel_rfl)) ?_
  intro w0
  unfold laws_FnExactCutClip at h
  refine AW.seq (AW.rA ⟨[(1, (vc (.int .i64 a1))), (2, (vc (.int .i64 a2))), (3, (vp 1 0))], [(1, (.box [(.c (.int .i64 a0.Length)), (.c (.int .i64 a0.Kind)), (.c (sl 1 (csL 5 cs_Key) a0.Tracks)), (.c (sl 4 cs_RootKey a0.Roots))]))]⟩ (T2 Tt) [.box 1] [1, 2, 3] [1] ⟨tr, tr, tr⟩ (thenQ_normal ?_))
  refine AW.seq (AW.rA ⟨[(1, (vc (.int .i64 a1))), (2, (vc (.int .i64 a2))), (3, (vp 1 0)), (7, (vc (.int .i64 (1048576 : Int))))], [(1, (.box [(.c (.int .i64 a0.Length)), (.c (.int .i64 a0.Kind)), (.c (sl 1 (csL 5 cs_Key) a0.Tracks)), (.c (sl 4 cs_RootKey a0.Roots))]))]⟩ (Tt ∧ Tt) [] [1, 2, 3, 7] [1] ⟨tr, tr⟩ (thenQ_normal ?_))
  refine AW.seq ?_
  obtain ⟨v1, e2, h⟩ := bind_some h
  refine AW.rA ⟨[(1, (vc (.int .i64 a1))), (2, (vc (.int .i64 a2))), (3, (vp 1 0)), (7, (vc (.int .i64 v1)))], [(1, (.box [(.c (.int .i64 a0.Length)), (.c (.int .i64 a0.Kind)), (.c (sl 1 (csL 5 cs_Key) a0.Tracks)), (.c (sl 4 cs_RootKey a0.Roots))]))]⟩ (T2 (((((Eqc (.int .i64 a0.Length)) ∧ (Eqc (.int .i64 a0.Kind)) ∧ (Eqc (sl 1 (csL 5 cs_Key) a0.Tracks)) ∧ (Eqc (sl 4 cs_RootKey a0.Roots)) ∧ Tt) ∧ (Eqc (.int .i64 (1048576 : Int))) ∧ Tt) ∧ CallOK Try.prog 11 [.agg (cs_Clip a0), .one (.int .i64 (1048576 : Int))] [.one (.int .i64 v1)]) ∧ Tt ∧ Tt)) [.no, .no, .call [.agg (cs_Clip a0), .one (.int .i64 (1048576 : Int))] [.one (.int .i64 v1)] [[.view]]] [1, 2, 3, 7] [1] ⟨tr, tr, ⟨⟨⟨rfl, rfl, rfl, rfl, tr⟩, rfl, tr⟩, ok_laws_szClip K a0 (1048576 : Int) v1 e2⟩, tr, tr⟩ ?_
  refine thenQ_normal ?_
  refine AW.seq ?_
  refine AW.seq (AW.rA ⟨[(1, (vc (.int .i64 a1))), (2, (vc (.int .i64 a2))), (3, (vp 1 0)), (22, (vc (.bool (decide (v1 < (0 : Int))))))], [(1, (.box [(.c (.int .i64 a0.Length)), (.c (.int .i64 a0.Kind)), (.c (sl 1 (csL 5 cs_Key) a0.Tracks)), (.c (sl 4 cs_RootKey a0.Roots))]))]⟩ (T2 Tt) [] [1, 2, 3, 22] [1] ⟨tr, tr, tr⟩ (thenQ_normal ?_))
  rcases ite2_cases h with ⟨b3, h⟩ | ⟨b3, h⟩
  · refine AW.cond_t rfl b3 ?_
    refine AW.seq (AW.rA ⟨[(6, (vc (.bool true)))], []⟩ (Tt ∧ Tt) [] [6] [] ⟨tr, tr⟩ (thenQ_normal ?_))
    refine AW.ret ?_
    refine thenQ_ret ?_
    replace h := some_eq h
    subst h
    exact ⟨.inr rfl, retOK_of [(.one (.c (.bool true)))] (by kernel_rfl) ⟨⟨rfl, tr⟩, tr⟩ (of_decide_eq_true (by kernel_rfl))⟩
  · refine AW.cond_f rfl b3 ?_
    refine AW.skip ?_
    refine thenQ_normal ?_
    refine AW.seq ?_
    obtain ⟨v4, e5, h⟩ := bind_some h
    obtain ⟨v6, e7, h⟩ := bind_some h
    refine AW.rA ⟨[(1, (vc (.int .i64 a1))), (2, (vc (.int .i64 a2))), (3, (vp 1 0)), (8, (vp 6 0)), (9, (vc (.bool v6.2)))], [(1, (.box [(.c (.int .i64 a0.Length)), (.c (.int .i64 a0.Kind)), (.c (sl 1 (csL 5 cs_Key) a0.Tracks)), (.c (sl 4 cs_RootKey a0.Roots))])), (4, (.lst v6.1.Tracks.length 1 (gl (csL 5 cs_Key) v6.1.Tracks))), (5, (.lst v6.1.Roots.length 4 (gl cs_RootKey v6.1.Roots))), (6, (.box [(.c (.int .i64 v6.1.Length)), (.c (.int .i64 v6.1.Kind)), (.lst 4 v6.1.Tracks.length 1 (gl (csL 5 cs_Key) v6.1.Tracks)), (.lst 5 v6.1.Roots.length 4 (gl cs_RootKey v6.1.Roots))]))]⟩ (Tt ∧ ((((Eqc (.int .i64 a0.Length)) ∧ (Eqc (.int .i64 a0.Kind)) ∧ (Eqc (sl 1 (csL 5 cs_Key) a0.Tracks)) ∧ (Eqc (sl 4 cs_RootKey a0.Roots)) ∧ Tt) ∧ Tt) ∧ CallOK Try.prog 13 [.agg (cs_Clip a0)] [.agg (cs_Clip v4)]) ∧ T2 (((((Eqc (.int .i64 v4.Length)) ∧ (Eqc (.int .i64 v4.Kind)) ∧ (Eqc (sl 1 (csL 5 cs_Key) v4.Tracks)) ∧ (Eqc (sl 4 cs_RootKey v4.Roots)) ∧ Tt) ∧ (Eqc (.int .i64 a1)) ∧ (Eqc (.int .i64 a2)) ∧ Tt) ∧ CallOK Try.prog 24 [.agg (cs_Clip v4), .one (.int .i64 a1), .one (.int .i64 a2)] [.agg (cs_Clip v6.1), .one (.bool v6.2)]) ∧ T2 (T4 Tt))) [.no, .call [.agg (cs_Clip a0)] [.agg (cs_Clip v4)] [[.view, .view, .lst 2, .lst 3]], .no, .no, .call [.agg (cs_Clip v4), .one (.int .i64 a1), .one (.int .i64 a2)] [.agg (cs_Clip v6.1), .one (.bool v6.2)] [[.view, .view, .lst 4, .lst 5], [.view]], .no, .no, .no, .box 6] [1, 2, 3, 8, 9] [1, 4, 5, 6] ⟨tr, ⟨⟨⟨rfl, rfl, rfl, rfl, tr⟩, tr⟩, ok_laws_toClip K a0 v4 e5⟩, tr, tr, ⟨⟨⟨rfl, rfl, rfl, rfl, tr⟩, rfl, rfl, tr⟩, ok_spec_CutClip K v4 a1 a2 v6 e7⟩, tr, tr, tr, tr, tr, tr, tr⟩ ?_
    refine thenQ_normal ?_
    refine AW.seq ?_
    obtain ⟨v8, e9, h⟩ := bind_some h
    refine AW.rA ⟨[(1, (vc (.int .i64 a1))), (2, (vc (.int .i64 a2))), (3, (vp 1 0)), (8, (vp 6 0)), (9, (vc (.bool v6.2))), (10, (vp 9 0))], [(1, (.box [(.c (.int .i64 a0.Length)), (.c (.int .i64 a0.Kind)), (.c (sl 1 (csL 5 cs_Key) a0.Tracks)), (.c (sl 4 cs_RootKey a0.Roots))])), (4, (.lst v6.1.Tracks.length 1 (gl (csL 5 cs_Key) v6.1.Tracks))), (5, (.lst v6.1.Roots.length 4 (gl cs_RootKey v6.1.Roots))), (6, (.box [(.c (.int .i64 v6.1.Length)), (.c (.int .i64 v6.1.Kind)), (.lst 4 v6.1.Tracks.length 1 (gl (csL 5 cs_Key) v6.1.Tracks)), (.lst 5 v6.1.Roots.length 4 (gl cs_RootKey v6.1.Roots))])), (7, (.arr true v8.Tracks.length 1 (gl (csL 5 cs_Key) v8.Tracks))), (8, (.arr true v8.Roots.length 4 (gl cs_RootKey v8.Roots))), (9, (.box [(.c (.int .i64 v8.Length)), (.c (.int .i64 v8.Kind)), (.arr 7), (.arr 8)]))]⟩ (Tt ∧ ((((Eqc (.int .i64 a0.Length)) ∧ (Eqc (.int .i64 a0.Kind)) ∧ (Eqc (sl 1 (csL 5 cs_Key) a0.Tracks)) ∧ (Eqc (sl 4 cs_RootKey a0.Roots)) ∧ Tt) ∧ Tt) ∧ CallOK Try.prog 13 [.agg (cs_Clip a0)] [.agg (cs_Clip v8)]) ∧ T2 Tt) [.no, .call [.agg (cs_Clip a0)] [.agg (cs_Clip v8)] [[.view, .view, .own 7, .own 8]], .box 9] [1, 2, 3, 8, 9, 10] [1, 4, 5, 6, 7, 8, 9] ⟨tr, ⟨⟨⟨rfl, rfl, rfl, rfl, tr⟩, tr⟩, ok_laws_toClip K a0 v8 e9⟩, tr, tr, tr⟩ ?_
    refine thenQ_normal ?_
    refine AW.seq ?_
    obtain ⟨v10, e11, h⟩ := bind_some h
    refine AW.rA ⟨[(1, (vc (.int .i64 a1))), (2, (vc (.int .i64 a2))), (3, (vp 1 0)), (8, (vp 6 0)), (9, (vc (.bool v6.2))), (10, (vp 9 0)), (11, (vp 12 0)), (12, (vc (.bool v10.2)))], [(1, (.box [(.c (.int .i64 a0.Length)), (.c (.int .i64 a0.Kind)), (.c (sl 1 (csL 5 cs_Key) a0.Tracks)), (.c (sl 4 cs_RootKey a0.Roots))])), (4, (.lst v6.1.Tracks.length 1 (gl (csL 5 cs_Key) v6.1.Tracks))), (5, (.lst v6.1.Roots.length 4 (gl cs_RootKey v6.1.Roots))), (6, (.box [(.c (.int .i64 v6.1.Length)), (.c (.int .i64 v6.1.Kind)), (.lst 4 v6.1.Tracks.length 1 (gl (csL 5 cs_Key) v6.1.Tracks)), (.lst 5 v6.1.Roots.length 4 (gl cs_RootKey v6.1.Roots))])), (7, (.arr true v8.Tracks.length 1 (gl (csL 5 cs_Key) v8.Tracks))), (8, (.arr true v8.Roots.length 4 (gl cs_RootKey v8.Roots))), (9, (.box [(.c (.int .i64 v8.Length)), (.c (.int .i64 v8.Kind)), (.arr 7), (.arr 8)])), (10, (.arr true v10.1.Tracks.length 1 (gl (csL 5 cs_Key) v10.1.Tracks))), (11, (.arr true v10.1.Roots.length 4 (gl cs_RootKey v10.1.Roots))), (12, (.box [(.c (.int .i64 v10.1.Length)), (.c (.int .i64 v10.1.Kind)), (.arr 10), (.arr 11)]))]⟩ (Tt ∧ T2 (((((Eqc (.int .i64 v8.Length)) ∧ (Eqc (.int .i64 v8.Kind)) ∧ (Eqc (sl 1 (csL 5 cs_Key) v8.Tracks)) ∧ (Eqc (sl 4 cs_RootKey v8.Roots)) ∧ Tt) ∧ (Eqc (.int .i64 a1)) ∧ (Eqc (.int .i64 a2)) ∧ Tt) ∧ CallOK Try.prog 25 [.agg (cs_Clip v8), .one (.int .i64 a1), .one (.int .i64 a2)] [.agg (cs_Clip v10.1), .one (.bool v10.2)]) ∧ T2 (T4 Tt))) [.no, .no, .no, .call [.agg (cs_Clip v8), .one (.int .i64 a1), .one (.int .i64 a2)] [.agg (cs_Clip v10.1), .one (.bool v10.2)] [[.view, .view, .own 10, .own 11], [.view]], .no, .no, .no, .box 12] [1, 2, 3, 8, 9, 10, 11, 12] [1, 4, 5, 6, 7, 8, 9, 10, 11, 12] ⟨tr, tr, tr, ⟨⟨⟨rfl, rfl, rfl, rfl, tr⟩, rfl, rfl, tr⟩, ok_impl_CutClip K v8 a1 a2 v10 e11⟩, tr, tr, tr, tr, tr, tr, tr⟩ ?_
    refine thenQ_normal ?_
    refine AW.seq ?_
    refine AW.seq ?_
    obtain ⟨v12, e13, h⟩ := bind_some h
    obtain ⟨j15, e16, h⟩ := bind_some h
    refine AW.join1 (s2 := ⟨[(1, (vc (.int .i64 a1))), (2, (vc (.int .i64 a2))), (3, (vp 1 0)), (8, (vp 6 0)), (9, (vc (.bool v6.2))), (10, (vp 9 0)), (11, (vp 12 0)), (12, (vc (.bool v10.2))), (48, (vc (.bool j15)))], [(1, (.box [(.c (.int .i64 a0.Length)), (.c (.int .i64 a0.Kind)), (.c (sl 1 (csL 5 cs_Key) a0.Tracks)), (.c (sl 4 cs_RootKey a0.Roots))])), (4, (.lst v6.1.Tracks.length 1 (gl (csL 5 cs_Key) v6.1.Tracks))), (5, (.lst v6.1.Roots.length 4 (gl cs_RootKey v6.1.Roots))), (6, (.box [(.c (.int .i64 v6.1.Length)), (.c (.int .i64 v6.1.Kind)), (.lst 4 v6.1.Tracks.length 1 (gl (csL 5 cs_Key) v6.1.Tracks)), (.lst 5 v6.1.Roots.length 4 (gl cs_RootKey v6.1.Roots))])), (7, (.arr true v8.Tracks.length 1 (gl (csL 5 cs_Key) v8.Tracks))), (8, (.arr true v8.Roots.length 4 (gl cs_RootKey v8.Roots))), (9, (.box [(.c (.int .i64 v8.Length)), (.c (.int .i64 v8.Kind)), (.arr 7), (.arr 8)])), (10, (.arr true v10.1.Tracks.length 1 (gl (csL 5 cs_Key) v10.1.Tracks))), (11, (.arr true v10.1.Roots.length 4 (gl cs_RootKey v10.1.Roots))), (12, (.box [(.c (.int .i64 v10.1.Length)), (.c (.int .i64 v10.1.Kind)), (.arr 10), (.arr 11)]))]⟩) ?_ ?_
    · rcases ite2_cases e16 with ⟨b14, e16⟩ | ⟨b14, e16⟩
      · replace e16 := some_eq e16
        subst e16
        exact AW.rA ⟨[(1, (vc (.int .i64 a1))), (2, (vc (.int .i64 a2))), (3, (vp 1 0)), (8, (vp 6 0)), (9, (vc (.bool v6.2))), (10, (vp 9 0)), (11, (vp 12 0)), (12, (vc (.bool v10.2))), (48, (vc (.bool true)))], [(1, (.box [(.c (.int .i64 a0.Length)), (.c (.int .i64 a0.Kind)), (.c (sl 1 (csL 5 cs_Key) a0.Tracks)), (.c (sl 4 cs_RootKey a0.Roots))])), (4, (.lst v6.1.Tracks.length 1 (gl (csL 5 cs_Key) v6.1.Tracks))), (5, (.lst v6.1.Roots.length 4 (gl cs_RootKey v6.1.Roots))), (6, (.box [(.c (.int .i64 v6.1.Length)), (.c (.int .i64 v6.1.Kind)), (.lst 4 v6.1.Tracks.length 1 (gl (csL 5 cs_Key) v6.1.Tracks)), (.lst 5 v6.1.Roots.length 4 (gl cs_RootKey v6.1.Roots))])), (7, (.arr true v8.Tracks.length 1 (gl (csL 5 cs_Key) v8.Tracks))), (8, (.arr true v8.Roots.length 4 (gl cs_RootKey v8.Roots))), (9, (.box [(.c (.int .i64 v8.Length)), (.c (.int .i64 v8.Kind)), (.arr 7), (.arr 8)])), (10, (.arr true v10.1.Tracks.length 1 (gl (csL 5 cs_Key) v10.1.Tracks))), (11, (.arr true v10.1.Roots.length 4 (gl cs_RootKey v10.1.Roots))), (12, (.box [(.c (.int .i64 v10.1.Length)), (.c (.int .i64 v10.1.Kind)), (.arr 10), (.arr 11)]))]⟩ (T2 (((((Eqc (.int .i64 v10.1.Length)) ∧ (Eqc (.int .i64 v10.1.Kind)) ∧ (Eqc (sl 1 (csL 5 cs_Key) v10.1.Tracks)) ∧ (Eqc (sl 4 cs_RootKey v10.1.Roots)) ∧ Tt) ∧ ((Eqc (.int .i64 v6.1.Length)) ∧ (Eqc (.int .i64 v6.1.Kind)) ∧ (Eqc (sl 1 (csL 5 cs_Key) v6.1.Tracks)) ∧ (Eqc (sl 4 cs_RootKey v6.1.Roots)) ∧ Tt) ∧ Tt) ∧ CallOK Try.prog 15 [.agg (cs_Clip v10.1), .agg (cs_Clip v6.1)] [.one (.bool v12)]) ∧ Tt ∧ (Tt ∧ (!v12) = true) ∧ T4 Tt)) [.no, .no, .call [.agg (cs_Clip v10.1), .agg (cs_Clip v6.1)] [.one (.bool v12)] [[.view]], .no, .dec true] [1, 2, 3, 8, 9, 10, 11, 12, 48] [1, 4, 5, 6, 7, 8, 9, 10, 11, 12] ⟨tr, tr, ⟨⟨⟨rfl, rfl, rfl, rfl, tr⟩, ⟨rfl, rfl, rfl, rfl, tr⟩, tr⟩, ok_laws_eqClip K v10.1 v6.1 v12 e13⟩, tr, ⟨tr, b14⟩, tr, tr, tr, tr, tr⟩ ⟨rfl, rfl⟩
      · replace e16 := some_eq e16
        subst e16
        exact AW.rA ⟨[(1, (vc (.int .i64 a1))), (2, (vc (.int .i64 a2))), (3, (vp 1 0)), (8, (vp 6 0)), (9, (vc (.bool v6.2))), (10, (vp 9 0)), (11, (vp 12 0)), (12, (vc (.bool v10.2))), (48, (vc (.bool (!(v10.2 == v6.2)))))], [(1, (.box [(.c (.int .i64 a0.Length)), (.c (.int .i64 a0.Kind)), (.c (sl 1 (csL 5 cs_Key) a0.Tracks)), (.c (sl 4 cs_RootKey a0.Roots))])), (4, (.lst v6.1.Tracks.length 1 (gl (csL 5 cs_Key) v6.1.Tracks))), (5, (.lst v6.1.Roots.length 4 (gl cs_RootKey v6.1.Roots))), (6, (.box [(.c (.int .i64 v6.1.Length)), (.c (.int .i64 v6.1.Kind)), (.lst 4 v6.1.Tracks.length 1 (gl (csL 5 cs_Key) v6.1.Tracks)), (.lst 5 v6.1.Roots.length 4 (gl cs_RootKey v6.1.Roots))])), (7, (.arr true v8.Tracks.length 1 (gl (csL 5 cs_Key) v8.Tracks))), (8, (.arr true v8.Roots.length 4 (gl cs_RootKey v8.Roots))), (9, (.box [(.c (.int .i64 v8.Length)), (.c (.int .i64 v8.Kind)), (.arr 7), (.arr 8)])), (10, (.arr true v10.1.Tracks.length 1 (gl (csL 5 cs_Key) v10.1.Tracks))), (11, (.arr true v10.1.Roots.length 4 (gl cs_RootKey v10.1.Roots))), (12, (.box [(.c (.int .i64 v10.1.Length)), (.c (.int .i64 v10.1.Kind)), (.arr 10), (.arr 11)]))]⟩ (T2 (((((Eqc (.int .i64 v10.1.Length)) ∧ (Eqc (.int .i64 v10.1.Kind)) ∧ (Eqc (sl 1 (csL 5 cs_Key) v10.1.Tracks)) ∧ (Eqc (sl 4 cs_RootKey v10.1.Roots)) ∧ Tt) ∧ ((Eqc (.int .i64 v6.1.Length)) ∧ (Eqc (.int .i64 v6.1.Kind)) ∧ (Eqc (sl 1 (csL 5 cs_Key) v6.1.Tracks)) ∧ (Eqc (sl 4 cs_RootKey v6.1.Roots)) ∧ Tt) ∧ Tt) ∧ CallOK Try.prog 15 [.agg (cs_Clip v10.1), .agg (cs_Clip v6.1)] [.one (.bool v12)]) ∧ Tt ∧ (Tt ∧ (!v12) = false) ∧ T4 Tt)) [.no, .no, .call [.agg (cs_Clip v10.1), .agg (cs_Clip v6.1)] [.one (.bool v12)] [[.view]], .no, .dec false] [1, 2, 3, 8, 9, 10, 11, 12, 48] [1, 4, 5, 6, 7, 8, 9, 10, 11, 12] ⟨tr, tr, ⟨⟨⟨rfl, rfl, rfl, rfl, tr⟩, ⟨rfl, rfl, rfl, rfl, tr⟩, tr⟩, ok_laws_eqClip K v10.1 v6.1 v12 e13⟩, tr, ⟨tr, b14⟩, tr, tr, tr, tr, tr⟩ ⟨rfl, rfl⟩
    refine thenQ_normal ?_
    rcases ite2_cases h with ⟨b17, h⟩ | ⟨b17, h⟩
    · refine AW.cond_t rfl b17 ?_
      refine AW.seq (AW.rA ⟨[(6, (vc (.bool false)))], []⟩ (Tt ∧ Tt) [] [6] [] ⟨tr, tr⟩ (thenQ_normal ?_))
      refine AW.ret ?_
      refine thenQ_ret ?_
      replace h := some_eq h
      subst h
      exact ⟨.inr rfl, retOK_of [(.one (.c (.bool false)))] (by kernel_rfl) ⟨⟨rfl, tr⟩, tr⟩ (of_decide_eq_true (by kernel_rfl))⟩
    · refine AW.cond_f rfl b17 ?_
      refine AW.skip ?_
      refine thenQ_normal ?_
      refine AW.seq ?_
      refine AW.seq ?_
      obtain ⟨v18, e19, h⟩ := bind_some h
      obtain ⟨v20, e21, h⟩ := bind_some h
      refine AW.dA ⟨[(1, (vc (.int .i64 a1))), (2, (vc (.int .i64 a2))), (3, (vp 1 0)), (8, (vp 6 0)), (9, (vc (.bool v6.2))), (10, (vp 9 0)), (11, (vp 12 0)), (12, (vc (.bool v10.2))), (53, (vc (.bool (!v20))))], [(1, (.box [(.c (.int .i64 a0.Length)), (.c (.int .i64 a0.Kind)), (.c (sl 1 (csL 5 cs_Key) a0.Tracks)), (.c (sl 4 cs_RootKey a0.Roots))])), (4, (.lst v6.1.Tracks.length 1 (gl (csL 5 cs_Key) v6.1.Tracks))), (5, (.lst v6.1.Roots.length 4 (gl cs_RootKey v6.1.Roots))), (6, (.box [(.c (.int .i64 v6.1.Length)), (.c (.int .i64 v6.1.Kind)), (.lst 4 v6.1.Tracks.length 1 (gl (csL 5 cs_Key) v6.1.Tracks)), (.lst 5 v6.1.Roots.length 4 (gl cs_RootKey v6.1.Roots))])), (7, (.arr true v8.Tracks.length 1 (gl (csL 5 cs_Key) v8.Tracks))), (8, (.arr true v8.Roots.length 4 (gl cs_RootKey v8.Roots))), (9, (.box [(.c (.int .i64 v8.Length)), (.c (.int .i64 v8.Kind)), (.arr 7), (.arr 8)])), (10, (.arr true v10.1.Tracks.length 1 (gl (csL 5 cs_Key) v10.1.Tracks))), (11, (.arr true v10.1.Roots.length 4 (gl cs_RootKey v10.1.Roots))), (12, (.box [(.c (.int .i64 v10.1.Length)), (.c (.int .i64 v10.1.Kind)), (.arr 10), (.arr 11)]))]⟩ ((T2 (((((Eqc (.int .i64 a0.Length)) ∧ (Eqc (.int .i64 a0.Kind)) ∧ (Eqc (sl 1 (csL 5 cs_Key) a0.Tracks)) ∧ (Eqc (sl 4 cs_RootKey a0.Roots)) ∧ Tt) ∧ Tt) ∧ CallOK Try.prog 13 [.agg (cs_Clip a0)] [.agg (cs_Clip v18)]) ∧ ((((Eqc (.int .i64 v8.Length)) ∧ (Eqc (.int .i64 v8.Kind)) ∧ (Eqc (sl 1 (csL 5 cs_Key) v8.Tracks)) ∧ (Eqc (sl 4 cs_RootKey v8.Roots)) ∧ Tt) ∧ ((Eqc (.int .i64 v18.Length)) ∧ (Eqc (.int .i64 v18.Kind)) ∧ (Eqc (sl 1 (csL 5 cs_Key) v18.Tracks)) ∧ (Eqc (sl 4 cs_RootKey v18.Roots)) ∧ Tt) ∧ Tt) ∧ CallOK Try.prog 15 [.agg (cs_Clip v8), .agg (cs_Clip v18)] [.one (.bool v20)]) ∧ Tt ∧ Tt)) ∧ (Tt)) 5 [.no, .no, .call [.agg (cs_Clip a0)] [.agg (cs_Clip v18)] [[.view, .view, .lst 13, .lst 14]], .call [.agg (cs_Clip v8), .agg (cs_Clip v18)] [.one (.bool v20)] [[.view]]] [1, 2, 3, 8, 9, 10, 11, 12, 53] [1, 4, 5, 6, 7, 8, 9, 10, 11, 12] ⟨⟨tr, tr, ⟨⟨⟨rfl, rfl, rfl, rfl, tr⟩, tr⟩, ok_laws_toClip K a0 v18 e19⟩, ⟨⟨⟨rfl, rfl, rfl, rfl, tr⟩, ⟨rfl, rfl, rfl, rfl, tr⟩, tr⟩, ok_laws_eqClip K v8 v18 v20 e21⟩, tr, tr⟩, tr⟩ ?_
      refine thenQ_normal ?_
      rcases ite2_cases h with ⟨b22, h⟩ | ⟨b22, h⟩
      · refine AW.cond_t rfl b22 ?_
        refine AW.seq (AW.rA ⟨[(6, (vc (.bool false)))], []⟩ (Tt ∧ Tt) [] [6] [] ⟨tr, tr⟩ (thenQ_normal ?_))
        refine AW.ret ?_
        refine thenQ_ret ?_
        replace h := some_eq h
        subst h
        exact ⟨.inr rfl, retOK_of [(.one (.c (.bool false)))] (by kernel_rfl) ⟨⟨rfl, tr⟩, tr⟩ (of_decide_eq_true (by kernel_rfl))⟩
      · refine AW.cond_f rfl b22 ?_
        refine AW.skip ?_
        refine thenQ_normal ?_
        refine AW.seq (AW.rA ⟨[(1, (vc (.int .i64 a1))), (2, (vc (.int .i64 a2))), (3, (vp 1 0)), (8, (vp 6 0)), (9, (vc (.bool v6.2))), (10, (vp 9 0)), (11, (vp 12 0)), (12, (vc (.bool v10.2))), (13, (vc (.int .i64 (1 : Int))))], [(1, (.box [(.c (.int .i64 a0.Length)), (.c (.int .i64 a0.Kind)), (.c (sl 1 (csL 5 cs_Key) a0.Tracks)), (.c (sl 4 cs_RootKey a0.Roots))])), (4, (.lst v6.1.Tracks.length 1 (gl (csL 5 cs_Key) v6.1.Tracks))), (5, (.lst v6.1.Roots.length 4 (gl cs_RootKey v6.1.Roots))), (6, (.box [(.c (.int .i64 v6.1.Length)), (.c (.int .i64 v6.1.Kind)), (.lst 4 v6.1.Tracks.length 1 (gl (csL 5 cs_Key) v6.1.Tracks)), (.lst 5 v6.1.Roots.length 4 (gl cs_RootKey v6.1.Roots))])), (7, (.arr true v8.Tracks.length 1 (gl (csL 5 cs_Key) v8.Tracks))), (8, (.arr true v8.Roots.length 4 (gl cs_RootKey v8.Roots))), (9, (.box [(.c (.int .i64 v8.Length)), (.c (.int .i64 v8.Kind)), (.arr 7), (.arr 8)])), (10, (.arr true v10.1.Tracks.length 1 (gl (csL 5 cs_Key) v10.1.Tracks))), (11, (.arr true v10.1.Roots.length 4 (gl cs_RootKey v10.1.Roots))), (12, (.box [(.c (.int .i64 v10.1.Length)), (.c (.int .i64 v10.1.Kind)), (.arr 10), (.arr 11)]))]⟩ (Tt ∧ Tt) [] [1, 2, 3, 8, 9, 10, 11, 12, 13] [1, 4, 5, 6, 7, 8, 9, 10, 11, 12] ⟨tr, tr⟩ (thenQ_normal ?_))
        refine AW.seq ?_
        obtain ⟨v23, e24, h⟩ := bind_some h
        obtain ⟨c25, h⟩ := chk_some h
        obtain ⟨c26, h⟩ := chk_some h
        refine AW.rA ⟨[(1, (vc (.int .i64 a1))), (2, (vc (.int .i64 a2))), (3, (vp 1 0)), (8, (vp 6 0)), (9, (vc (.bool v6.2))), (11, (vp 12 0)), (12, (vc (.bool v10.2))), (13, (vc (.int .i64 v23.1)))], [(1, (.box [(.c (.int .i64 a0.Length)), (.c (.int .i64 a0.Kind)), (.c (sl 1 (csL 5 cs_Key) a0.Tracks)), (.c (sl 4 cs_RootKey a0.Roots))])), (4, (.lst v6.1.Tracks.length 1 (gl (csL 5 cs_Key) v6.1.Tracks))), (5, (.lst v6.1.Roots.length 4 (gl cs_RootKey v6.1.Roots))), (6, (.box [(.c (.int .i64 v6.1.Length)), (.c (.int .i64 v6.1.Kind)), (.lst 4 v6.1.Tracks.length 1 (gl (csL 5 cs_Key) v6.1.Tracks)), (.lst 5 v6.1.Roots.length 4 (gl cs_RootKey v6.1.Roots))])), (10, (.arr true v10.1.Tracks.length 1 (gl (csL 5 cs_Key) v10.1.Tracks))), (11, (.arr true v10.1.Roots.length 4 (gl cs_RootKey v10.1.Roots))), (12, (.box [(.c (.int .i64 v10.1.Length)), (.c (.int .i64 v10.1.Kind)), (.arr 10), (.arr 11)]))]⟩ (T2 (((((Eqc (.int .i64 v8.Length)) ∧ (Eqc (.int .i64 v8.Kind)) ∧ (((sl 1 (csL 5 cs_Key) v8.Tracks) : C) = (sl 1 (csL 5 cs_Key) v8.Tracks) ∧ v23.2.1.length = v8.Tracks.length ∧ 1 = 1 ∧ ∀ i j, i < v8.Tracks.length → j < 1 → isSeq (gl (csL 5 cs_Key) v23.2.1 i j) = isSeq (gl (csL 5 cs_Key) v8.Tracks i j)) ∧ (((sl 4 cs_RootKey v8.Roots) : C) = (sl 4 cs_RootKey v8.Roots) ∧ v23.2.2.length = v8.Roots.length ∧ 4 = 4 ∧ ∀ i j, i < v8.Roots.length → j < 4 → isSeq (gl cs_RootKey v23.2.2 i j) = isSeq (gl cs_RootKey v8.Roots i j)) ∧ Tt) ∧ (Eqc (.int .i64 (1 : Int))) ∧ Tt) ∧ MutOK Try.prog 16 [(.agg [(.ro (.int .i64 v8.Length)), (.ro (.int .i64 v8.Kind)), (.mu (sl 1 (csL 5 cs_Key) v8.Tracks) (sl 1 (csL 5 cs_Key) v23.2.1)), (.mu (sl 4 cs_RootKey v8.Roots) (sl 4 cs_RootKey v23.2.2))]), .one (.ro (.int .i64 (1 : Int)))] [.one (.int .i64 v23.1)]) ∧ Tt ∧ Tt)) [.no, .no, .callM [(.agg [(.ro (.int .i64 v8.Length)), (.ro (.int .i64 v8.Kind)), (.mu (sl 1 (csL 5 cs_Key) v8.Tracks) (sl 1 (csL 5 cs_Key) v23.2.1)), (.mu (sl 4 cs_RootKey v8.Roots) (sl 4 cs_RootKey v23.2.2))]), .one (.ro (.int .i64 (1 : Int)))] [.one (.int .i64 v23.1)] [[.view]] none] [1, 2, 3, 8, 9, 11, 12, 13] [1, 4, 5, 6, 10, 11, 12] ⟨tr, tr, ⟨⟨⟨rfl, rfl, ⟨rfl, c25, rfl, gl_seq (sq_slice)⟩, ⟨rfl, c26, rfl, gl_seq sq_RootKey⟩, tr⟩, rfl, tr⟩, ok_laws_markClip K v8 (1 : Int) v23 e24⟩, tr, tr⟩ ?_
        refine thenQ_normal ?_
        refine AW.seq ?_
        refine AW.seq ?_
        obtain ⟨j31, e32, h⟩ := bind_some h
        refine AW.join1 (s2 := ⟨[(1, (vc (.int .i64 a1))), (2, (vc (.int .i64 a2))), (3, (vp 1 0)), (8, (vp 6 0)), (9, (vc (.bool v6.2))), (11, (vp 12 0)), (69, (vc (.bool j31)))], [(1, (.box [(.c (.int .i64 a0.Length)), (.c (.int .i64 a0.Kind)), (.c (sl 1 (csL 5 cs_Key) a0.Tracks)), (.c (sl 4 cs_RootKey a0.Roots))])), (4, (.lst v6.1.Tracks.length 1 (gl (csL 5 cs_Key) v6.1.Tracks))), (5, (.lst v6.1.Roots.length 4 (gl cs_RootKey v6.1.Roots))), (6, (.box [(.c (.int .i64 v6.1.Length)), (.c (.int .i64 v6.1.Kind)), (.lst 4 v6.1.Tracks.length 1 (gl (csL 5 cs_Key) v6.1.Tracks)), (.lst 5 v6.1.Roots.length 4 (gl cs_RootKey v6.1.Roots))])), (10, (.arr true v10.1.Tracks.length 1 (gl (csL 5 cs_Key) v10.1.Tracks))), (11, (.arr true v10.1.Roots.length 4 (gl cs_RootKey v10.1.Roots))), (12, (.box [(.c (.int .i64 v10.1.Length)), (.c (.int .i64 v10.1.Kind)), (.arr 10), (.arr 11)]))]⟩) ?_ ?_
        · rcases ite2_cases e32 with ⟨b27, e32⟩ | ⟨b27, e32⟩
          · replace e32 := some_eq e32
            subst e32
            exact AW.rA ⟨[(1, (vc (.int .i64 a1))), (2, (vc (.int .i64 a2))), (3, (vp 1 0)), (8, (vp 6 0)), (9, (vc (.bool v6.2))), (11, (vp 12 0)), (69, (vc (.bool true)))], [(1, (.box [(.c (.int .i64 a0.Length)), (.c (.int .i64 a0.Kind)), (.c (sl 1 (csL 5 cs_Key) a0.Tracks)), (.c (sl 4 cs_RootKey a0.Roots))])), (4, (.lst v6.1.Tracks.length 1 (gl (csL 5 cs_Key) v6.1.Tracks))), (5, (.lst v6.1.Roots.length 4 (gl cs_RootKey v6.1.Roots))), (6, (.box [(.c (.int .i64 v6.1.Length)), (.c (.int .i64 v6.1.Kind)), (.lst 4 v6.1.Tracks.length 1 (gl (csL 5 cs_Key) v6.1.Tracks)), (.lst 5 v6.1.Roots.length 4 (gl cs_RootKey v6.1.Roots))])), (10, (.arr true v10.1.Tracks.length 1 (gl (csL 5 cs_Key) v10.1.Tracks))), (11, (.arr true v10.1.Roots.length 4 (gl cs_RootKey v10.1.Roots))), (12, (.box [(.c (.int .i64 v10.1.Length)), (.c (.int .i64 v10.1.Kind)), (.arr 10), (.arr 11)]))]⟩ (T2 ((Tt ∧ (decide (v23.1 < (0 : Int))) = true) ∧ T2 (T4 (T4 Tt)))) [.no, .no, .dec true] [1, 2, 3, 8, 9, 11, 69] [1, 4, 5, 6, 10, 11, 12] ⟨tr, tr, ⟨tr, b27⟩, tr, tr, tr, tr, tr, tr, tr, tr, tr, tr, tr⟩ ⟨rfl, rfl⟩
          · obtain ⟨v28, e29, e32⟩ := bind_some e32
            rcases ite2_cases e32 with ⟨b30, e32⟩ | ⟨b30, e32⟩
            · replace e32 := some_eq e32
              subst e32
              exact AW.rA ⟨[(1, (vc (.int .i64 a1))), (2, (vc (.int .i64 a2))), (3, (vp 1 0)), (8, (vp 6 0)), (9, (vc (.bool v6.2))), (11, (vp 12 0)), (69, (vc (.bool true)))], [(1, (.box [(.c (.int .i64 a0.Length)), (.c (.int .i64 a0.Kind)), (.c (sl 1 (csL 5 cs_Key) a0.Tracks)), (.c (sl 4 cs_RootKey a0.Roots))])), (4, (.lst v6.1.Tracks.length 1 (gl (csL 5 cs_Key) v6.1.Tracks))), (5, (.lst v6.1.Roots.length 4 (gl cs_RootKey v6.1.Roots))), (6, (.box [(.c (.int .i64 v6.1.Length)), (.c (.int .i64 v6.1.Kind)), (.lst 4 v6.1.Tracks.length 1 (gl (csL 5 cs_Key) v6.1.Tracks)), (.lst 5 v6.1.Roots.length 4 (gl cs_RootKey v6.1.Roots))])), (10, (.arr true v10.1.Tracks.length 1 (gl (csL 5 cs_Key) v10.1.Tracks))), (11, (.arr true v10.1.Roots.length 4 (gl cs_RootKey v10.1.Roots))), (12, (.box [(.c (.int .i64 v10.1.Length)), (.c (.int .i64 v10.1.Kind)), (.arr 10), (.arr 11)]))]⟩ (T2 ((Tt ∧ (decide (v23.1 < (0 : Int))) = false) ∧ T2 (((((Eqc (.int .i64 v10.1.Length)) ∧ (Eqc (.int .i64 v10.1.Kind)) ∧ (Eqc (sl 1 (csL 5 cs_Key) v10.1.Tracks)) ∧ (Eqc (sl 4 cs_RootKey v10.1.Roots)) ∧ Tt) ∧ ((Eqc (.int .i64 v6.1.Length)) ∧ (Eqc (.int .i64 v6.1.Kind)) ∧ (Eqc (sl 1 (csL 5 cs_Key) v6.1.Tracks)) ∧ (Eqc (sl 4 cs_RootKey v6.1.Roots)) ∧ Tt) ∧ Tt) ∧ CallOK Try.prog 15 [.agg (cs_Clip v10.1), .agg (cs_Clip v6.1)] [.one (.bool v28)]) ∧ T2 ((Tt ∧ (!v28) = true) ∧ T4 Tt)))) [.no, .no, .dec false, .no, .no, .call [.agg (cs_Clip v10.1), .agg (cs_Clip v6.1)] [.one (.bool v28)] [[.view]], .no, .no, .dec true] [1, 2, 3, 8, 9, 11, 69] [1, 4, 5, 6, 10, 11, 12] ⟨tr, tr, ⟨tr, b27⟩, tr, tr, ⟨⟨⟨rfl, rfl, rfl, rfl, tr⟩, ⟨rfl, rfl, rfl, rfl, tr⟩, tr⟩, ok_laws_eqClip K v10.1 v6.1 v28 e29⟩, tr, tr, ⟨tr, b30⟩, tr, tr, tr, tr, tr⟩ ⟨rfl, rfl⟩
            · replace e32 := some_eq e32
              subst e32
              exact AW.rA ⟨[(1, (vc (.int .i64 a1))), (2, (vc (.int .i64 a2))), (3, (vp 1 0)), (8, (vp 6 0)), (9, (vc (.bool v6.2))), (11, (vp 12 0)), (69, (vc (.bool (!(v10.2 == v6.2)))))], [(1, (.box [(.c (.int .i64 a0.Length)), (.c (.int .i64 a0.Kind)), (.c (sl 1 (csL 5 cs_Key) a0.Tracks)), (.c (sl 4 cs_RootKey a0.Roots))])), (4, (.lst v6.1.Tracks.length 1 (gl (csL 5 cs_Key) v6.1.Tracks))), (5, (.lst v6.1.Roots.length 4 (gl cs_RootKey v6.1.Roots))), (6, (.box [(.c (.int .i64 v6.1.Length)), (.c (.int .i64 v6.1.Kind)), (.lst 4 v6.1.Tracks.length 1 (gl (csL 5 cs_Key) v6.1.Tracks)), (.lst 5 v6.1.Roots.length 4 (gl cs_RootKey v6.1.Roots))])), (10, (.arr true v10.1.Tracks.length 1 (gl (csL 5 cs_Key) v10.1.Tracks))), (11, (.arr true v10.1.Roots.length 4 (gl cs_RootKey v10.1.Roots))), (12, (.box [(.c (.int .i64 v10.1.Length)), (.c (.int .i64 v10.1.Kind)), (.arr 10), (.arr 11)]))]⟩ (T2 ((Tt ∧ (decide (v23.1 < (0 : Int))) = false) ∧ T2 (((((Eqc (.int .i64 v10.1.Length)) ∧ (Eqc (.int .i64 v10.1.Kind)) ∧ (Eqc (sl 1 (csL 5 cs_Key) v10.1.Tracks)) ∧ (Eqc (sl 4 cs_RootKey v10.1.Roots)) ∧ Tt) ∧ ((Eqc (.int .i64 v6.1.Length)) ∧ (Eqc (.int .i64 v6.1.Kind)) ∧ (Eqc (sl 1 (csL 5 cs_Key) v6.1.Tracks)) ∧ (Eqc (sl 4 cs_RootKey v6.1.Roots)) ∧ Tt) ∧ Tt) ∧ CallOK Try.prog 15 [.agg (cs_Clip v10.1), .agg (cs_Clip v6.1)] [.one (.bool v28)]) ∧ T2 ((Tt ∧ (!v28) = false) ∧ T4 Tt)))) [.no, .no, .dec false, .no, .no, .call [.agg (cs_Clip v10.1), .agg (cs_Clip v6.1)] [.one (.bool v28)] [[.view]], .no, .no, .dec false] [1, 2, 3, 8, 9, 11, 69] [1, 4, 5, 6, 10, 11, 12] ⟨tr, tr, ⟨tr, b27⟩, tr, tr, ⟨⟨⟨rfl, rfl, rfl, rfl, tr⟩, ⟨rfl, rfl, rfl, rfl, tr⟩, tr⟩, ok_laws_eqClip K v10.1 v6.1 v28 e29⟩, tr, tr, ⟨tr, b30⟩, tr, tr, tr, tr, tr⟩ ⟨rfl, rfl⟩
        refine thenQ_normal ?_
        rcases ite2_cases h with ⟨b33, h⟩ | ⟨b33, h⟩
        · refine AW.cond_t rfl b33 ?_
          refine AW.seq (AW.rA ⟨[(6, (vc (.bool false)))], []⟩ (Tt ∧ Tt) [] [6] [] ⟨tr, tr⟩ (thenQ_normal ?_))
          refine AW.ret ?_
          refine thenQ_ret ?_
          replace h := some_eq h
          subst h
          exact ⟨.inr rfl, retOK_of [(.one (.c (.bool false)))] (by kernel_rfl) ⟨⟨rfl, tr⟩, tr⟩ (of_decide_eq_true (by kernel_rfl))⟩
        · refine AW.cond_f rfl b33 ?_
          refine AW.skip ?_
          refine thenQ_normal ?_
          refine AW.seq (AW.rA ⟨[(1, (vc (.int .i64 a1))), (2, (vc (.int .i64 a2))), (3, (vp 1 0)), (8, (vp 6 0)), (9, (vc (.bool v6.2))), (11, (vp 12 0)), (14, (vc (.int .i64 (1 : Int))))], [(1, (.box [(.c (.int .i64 a0.Length)), (.c (.int .i64 a0.Kind)), (.c (sl 1 (csL 5 cs_Key) a0.Tracks)), (.c (sl 4 cs_RootKey a0.Roots))])), (4, (.lst v6.1.Tracks.length 1 (gl (csL 5 cs_Key) v6.1.Tracks))), (5, (.lst v6.1.Roots.length 4 (gl cs_RootKey v6.1.Roots))), (6, (.box [(.c (.int .i64 v6.1.Length)), (.c (.int .i64 v6.1.Kind)), (.lst 4 v6.1.Tracks.length 1 (gl (csL 5 cs_Key) v6.1.Tracks)), (.lst 5 v6.1.Roots.length 4 (gl cs_RootKey v6.1.Roots))])), (10, (.arr true v10.1.Tracks.length 1 (gl (csL 5 cs_Key) v10.1.Tracks))), (11, (.arr true v10.1.Roots.length 4 (gl cs_RootKey v10.1.Roots))), (12, (.box [(.c (.int .i64 v10.1.Length)), (.c (.int .i64 v10.1.Kind)), (.arr 10), (.arr 11)]))]⟩ (Tt ∧ Tt) [] [1, 2, 3, 8, 9, 11, 14] [1, 4, 5, 6, 10, 11, 12] ⟨tr, tr⟩ (thenQ_normal ?_))
          refine AW.seq ?_
          obtain ⟨v34, e35, h⟩ := bind_some h
          obtain ⟨c36, h⟩ := chk_some h
          obtain ⟨c37, h⟩ := chk_some h
          refine AW.rA ⟨[(1, (vc (.int .i64 a1))), (2, (vc (.int .i64 a2))), (3, (vp 1 0)), (8, (vp 6 0)), (9, (vc (.bool v6.2))), (11, (vp 12 0)), (14, (vc (.int .i64 v34.1)))], [(1, (.box [(.c (.int .i64 a0.Length)), (.c (.int .i64 a0.Kind)), (.c (sl 1 (csL 5 cs_Key) a0.Tracks)), (.c (sl 4 cs_RootKey a0.Roots))])), (4, (.lst v6.1.Tracks.length 1 (gl (csL 5 cs_Key) v6.1.Tracks))), (5, (.lst v6.1.Roots.length 4 (gl cs_RootKey v6.1.Roots))), (6, (.box [(.c (.int .i64 v6.1.Length)), (.c (.int .i64 v6.1.Kind)), (.lst 4 v6.1.Tracks.length 1 (gl (csL 5 cs_Key) v6.1.Tracks)), (.lst 5 v6.1.Roots.length 4 (gl cs_RootKey v6.1.Roots))])), (10, (.arr true v34.2.1.length 1 (gl (csL 5 cs_Key) v34.2.1))), (11, (.arr true v34.2.2.length 4 (gl cs_RootKey v34.2.2))), (12, (.box [(.c (.int .i64 v10.1.Length)), (.c (.int .i64 v10.1.Kind)), (.arr 10), (.arr 11)]))]⟩ (T2 (((((Eqc (.int .i64 v10.1.Length)) ∧ (Eqc (.int .i64 v10.1.Kind)) ∧ (((sl 1 (csL 5 cs_Key) v10.1.Tracks) : C) = (sl 1 (csL 5 cs_Key) v10.1.Tracks) ∧ v34.2.1.length = v10.1.Tracks.length ∧ 1 = 1 ∧ ∀ i j, i < v10.1.Tracks.length → j < 1 → isSeq (gl (csL 5 cs_Key) v34.2.1 i j) = isSeq (gl (csL 5 cs_Key) v10.1.Tracks i j)) ∧ (((sl 4 cs_RootKey v10.1.Roots) : C) = (sl 4 cs_RootKey v10.1.Roots) ∧ v34.2.2.length = v10.1.Roots.length ∧ 4 = 4 ∧ ∀ i j, i < v10.1.Roots.length → j < 4 → isSeq (gl cs_RootKey v34.2.2 i j) = isSeq (gl cs_RootKey v10.1.Roots i j)) ∧ Tt) ∧ (Eqc (.int .i64 (1 : Int))) ∧ Tt) ∧ MutOK Try.prog 16 [(.agg [(.ro (.int .i64 v10.1.Length)), (.ro (.int .i64 v10.1.Kind)), (.mu (sl 1 (csL 5 cs_Key) v10.1.Tracks) (sl 1 (csL 5 cs_Key) v34.2.1)), (.mu (sl 4 cs_RootKey v10.1.Roots) (sl 4 cs_RootKey v34.2.2))]), .one (.ro (.int .i64 (1 : Int)))] [.one (.int .i64 v34.1)]) ∧ Tt ∧ Tt)) [.no, .no, .callM [(.agg [(.ro (.int .i64 v10.1.Length)), (.ro (.int .i64 v10.1.Kind)), (.mu (sl 1 (csL 5 cs_Key) v10.1.Tracks) (sl 1 (csL 5 cs_Key) v34.2.1)), (.mu (sl 4 cs_RootKey v10.1.Roots) (sl 4 cs_RootKey v34.2.2))]), .one (.ro (.int .i64 (1 : Int)))] [.one (.int .i64 v34.1)] [[.view]] none] [1, 2, 3, 8, 9, 11, 14] [1, 4, 5, 6, 10, 11, 12] ⟨tr, tr, ⟨⟨⟨rfl, rfl, ⟨rfl, c36, rfl, gl_seq (sq_slice)⟩, ⟨rfl, c37, rfl, gl_seq sq_RootKey⟩, tr⟩, rfl, tr⟩, ok_laws_markClip K v10.1 (1 : Int) v34 e35⟩, tr, tr⟩ ?_
          refine thenQ_normal ?_
          refine AW.seq (AW.rA ⟨[(1, (vc (.int .i64 a1))), (2, (vc (.int .i64 a2))), (3, (vp 1 0)), (8, (vp 6 0)), (9, (vc (.bool v6.2))), (11, (vp 12 0)), (14, (vc (.int .i64 v34.1))), (15, (vc (.int .i64 (1 : Int))))], [(1, (.box [(.c (.int .i64 a0.Length)), (.c (.int .i64 a0.Kind)), (.c (sl 1 (csL 5 cs_Key) a0.Tracks)), (.c (sl 4 cs_RootKey a0.Roots))])), (4, (.lst v6.1.Tracks.length 1 (gl (csL 5 cs_Key) v6.1.Tracks))), (5, (.lst v6.1.Roots.length 4 (gl cs_RootKey v6.1.Roots))), (6, (.box [(.c (.int .i64 v6.1.Length)), (.c (.int .i64 v6.1.Kind)), (.lst 4 v6.1.Tracks.length 1 (gl (csL 5 cs_Key) v6.1.Tracks)), (.lst 5 v6.1.Roots.length 4 (gl cs_RootKey v6.1.Roots))])), (10, (.arr true v34.2.1.length 1 (gl (csL 5 cs_Key) v34.2.1))), (11, (.arr true v34.2.2.length 4 (gl cs_RootKey v34.2.2))), (12, (.box [(.c (.int .i64 v10.1.Length)), (.c (.int .i64 v10.1.Kind)), (.arr 10), (.arr 11)]))]⟩ (Tt ∧ Tt) [] [1, 2, 3, 8, 9, 11, 14, 15] [1, 4, 5, 6, 10, 11, 12] ⟨tr, tr⟩ (thenQ_normal ?_))
          refine AW.seq ?_
          obtain ⟨v38, e39, h⟩ := bind_some h
          refine AW.rA ⟨[(1, (vc (.int .i64 a1))), (2, (vc (.int .i64 a2))), (3, (vp 1 0)), (8, (vp 6 0)), (9, (vc (.bool v6.2))), (11, (vp 12 0)), (14, (vc (.int .i64 v34.1))), (15, (vc (.int .i64 v38)))], [(1, (.box [(.c (.int .i64 a0.Length)), (.c (.int .i64 a0.Kind)), (.c (sl 1 (csL 5 cs_Key) a0.Tracks)), (.c (sl 4 cs_RootKey a0.Roots))])), (4, (.lst v6.1.Tracks.length 1 (gl (csL 5 cs_Key) v6.1.Tracks))), (5, (.lst v6.1.Roots.length 4 (gl cs_RootKey v6.1.Roots))), (6, (.box [(.c (.int .i64 v6.1.Length)), (.c (.int .i64 v6.1.Kind)), (.lst 4 v6.1.Tracks.length 1 (gl (csL 5 cs_Key) v6.1.Tracks)), (.lst 5 v6.1.Roots.length 4 (gl cs_RootKey v6.1.Roots))])), (10, (.arr true v34.2.1.length 1 (gl (csL 5 cs_Key) v34.2.1))), (11, (.arr true v34.2.2.length 4 (gl cs_RootKey v34.2.2))), (12, (.box [(.c (.int .i64 v10.1.Length)), (.c (.int .i64 v10.1.Kind)), (.arr 10), (.arr 11)]))]⟩ (T2 (((((Eqc (.int .i64 v10.1.Length)) ∧ (Eqc (.int .i64 v10.1.Kind)) ∧ (Eqc (sl 1 (csL 5 cs_Key) v34.2.1)) ∧ (Eqc (sl 4 cs_RootKey v34.2.2)) ∧ Tt) ∧ (Eqc (.int .i64 (1 : Int))) ∧ Tt) ∧ CallOK Try.prog 17 [.agg (cs_Clip (Clip.mk v10.1.Length v10.1.Kind v34.2.1 v34.2.2)), .one (.int .i64 (1 : Int))] [.one (.int .i64 v38)]) ∧ Tt ∧ Tt)) [.no, .no, .call [.agg (cs_Clip (Clip.mk v10.1.Length v10.1.Kind v34.2.1 v34.2.2)), .one (.int .i64 (1 : Int))] [.one (.int .i64 v38)] [[.view]]] [1, 2, 3, 8, 9, 11, 14, 15] [1, 4, 5, 6, 10, 11, 12] ⟨tr, tr, ⟨⟨⟨rfl, rfl, rfl, rfl, tr⟩, rfl, tr⟩, ok_laws_heldClip K (Clip.mk v10.1.Length v10.1.Kind v34.2.1 v34.2.2) (1 : Int) v38 e39⟩, tr, tr⟩ ?_
          refine thenQ_normal ?_
          refine AW.seq ?_
          refine AW.seq (AW.rA ⟨[(1, (vc (.int .i64 a1))), (2, (vc (.int .i64 a2))), (3, (vp 1 0)), (8, (vp 6 0)), (9, (vc (.bool v6.2))), (11, (vp 12 0)), (14, (vc (.int .i64 v34.1))), (15, (vc (.int .i64 v38))), (77, (vc (.bool (decide (v38 < (0 : Int))))))], [(1, (.box [(.c (.int .i64 a0.Length)), (.c (.int .i64 a0.Kind)), (.c (sl 1 (csL 5 cs_Key) a0.Tracks)), (.c (sl 4 cs_RootKey a0.Roots))])), (4, (.lst v6.1.Tracks.length 1 (gl (csL 5 cs_Key) v6.1.Tracks))), (5, (.lst v6.1.Roots.length 4 (gl cs_RootKey v6.1.Roots))), (6, (.box [(.c (.int .i64 v6.1.Length)), (.c (.int .i64 v6.1.Kind)), (.lst 4 v6.1.Tracks.length 1 (gl (csL 5 cs_Key) v6.1.Tracks)), (.lst 5 v6.1.Roots.length 4 (gl cs_RootKey v6.1.Roots))])), (10, (.arr true v34.2.1.length 1 (gl (csL 5 cs_Key) v34.2.1))), (11, (.arr true v34.2.2.length 4 (gl cs_RootKey v34.2.2))), (12, (.box [(.c (.int .i64 v10.1.Length)), (.c (.int .i64 v10.1.Kind)), (.arr 10), (.arr 11)]))]⟩ (T2 Tt) [] [1, 2, 3, 8, 9, 11, 14, 15, 77] [1, 4, 5, 6, 10, 11, 12] ⟨tr, tr, tr⟩ (thenQ_normal ?_))
          rcases ite2_cases h with ⟨b40, h⟩ | ⟨b40, h⟩
          · refine AW.cond_t rfl b40 ?_
            refine AW.seq (AW.rA ⟨[(6, (vc (.bool false)))], []⟩ (Tt ∧ Tt) [] [6] [] ⟨tr, tr⟩ (thenQ_normal ?_))
            refine AW.ret ?_
            refine thenQ_ret ?_
            replace h := some_eq h
            subst h
            exact ⟨.inr rfl, retOK_of [(.one (.c (.bool false)))] (by kernel_rfl) ⟨⟨rfl, tr⟩, tr⟩ (of_decide_eq_true (by kernel_rfl))⟩
          · refine AW.cond_f rfl b40 ?_
            refine AW.skip ?_
            refine thenQ_normal ?_
            refine AW.seq ?_
            refine AW.seq (AW.rA ⟨[(1, (vc (.int .i64 a1))), (2, (vc (.int .i64 a2))), (3, (vp 1 0)), (8, (vp 6 0)), (9, (vc (.bool v6.2))), (11, (vp 12 0)), (14, (vc (.int .i64 v34.1))), (80, (vc (.bool (v38 != v34.1))))], [(1, (.box [(.c (.int .i64 a0.Length)), (.c (.int .i64 a0.Kind)), (.c (sl 1 (csL 5 cs_Key) a0.Tracks)), (.c (sl 4 cs_RootKey a0.Roots))])), (4, (.lst v6.1.Tracks.length 1 (gl (csL 5 cs_Key) v6.1.Tracks))), (5, (.lst v6.1.Roots.length 4 (gl cs_RootKey v6.1.Roots))), (6, (.box [(.c (.int .i64 v6.1.Length)), (.c (.int .i64 v6.1.Kind)), (.lst 4 v6.1.Tracks.length 1 (gl (csL 5 cs_Key) v6.1.Tracks)), (.lst 5 v6.1.Roots.length 4 (gl cs_RootKey v6.1.Roots))])), (10, (.arr true v34.2.1.length 1 (gl (csL 5 cs_Key) v34.2.1))), (11, (.arr true v34.2.2.length 4 (gl cs_RootKey v34.2.2))), (12, (.box [(.c (.int .i64 v10.1.Length)), (.c (.int .i64 v10.1.Kind)), (.arr 10), (.arr 11)]))]⟩ (Tt ∧ T2 Tt) [] [1, 2, 3, 8, 9, 11, 14, 80] [1, 4, 5, 6, 10, 11, 12] ⟨tr, tr, tr, tr⟩ (thenQ_normal ?_))
            rcases ite2_cases h with ⟨b41, h⟩ | ⟨b41, h⟩
            · refine AW.cond_t rfl b41 ?_
              refine AW.seq (AW.rA ⟨[(6, (vc (.bool false)))], []⟩ (Tt ∧ Tt) [] [6] [] ⟨tr, tr⟩ (thenQ_normal ?_))
              refine AW.ret ?_
              refine thenQ_ret ?_
              replace h := some_eq h
              subst h
              exact ⟨.inr rfl, retOK_of [(.one (.c (.bool false)))] (by kernel_rfl) ⟨⟨rfl, tr⟩, tr⟩ (of_decide_eq_true (by kernel_rfl))⟩
            · refine AW.cond_f rfl b41 ?_
              refine AW.skip ?_
              refine thenQ_normal ?_
              refine AW.seq ?_
              obtain ⟨v42, e43, h⟩ := bind_some h
              obtain ⟨v44, e45, h⟩ := bind_some h
              refine AW.rA ⟨[(8, (vp 6 0)), (9, (vc (.bool v6.2))), (11, (vp 12 0)), (14, (vc (.int .i64 v34.1))), (16, (vp 19 0)), (17, (vc (.bool v44.2)))], [(4, (.lst v6.1.Tracks.length 1 (gl (csL 5 cs_Key) v6.1.Tracks))), (5, (.lst v6.1.Roots.length 4 (gl cs_RootKey v6.1.Roots))), (6, (.box [(.c (.int .i64 v6.1.Length)), (.c (.int .i64 v6.1.Kind)), (.lst 4 v6.1.Tracks.length 1 (gl (csL 5 cs_Key) v6.1.Tracks)), (.lst 5 v6.1.Roots.length 4 (gl cs_RootKey v6.1.Roots))])), (10, (.arr true v34.2.1.length 1 (gl (csL 5 cs_Key) v34.2.1))), (11, (.arr true v34.2.2.length 4 (gl cs_RootKey v34.2.2))), (12, (.box [(.c (.int .i64 v10.1.Length)), (.c (.int .i64 v10.1.Kind)), (.arr 10), (.arr 11)])), (17, (.lst v44.1.Tracks.length 1 (gl (csL 5 cs_Key) v44.1.Tracks))), (18, (.lst v44.1.Roots.length 4 (gl cs_RootKey v44.1.Roots))), (19, (.box [(.c (.int .i64 v44.1.Length)), (.c (.int .i64 v44.1.Kind)), (.lst 17 v44.1.Tracks.length 1 (gl (csL 5 cs_Key) v44.1.Tracks)), (.lst 18 v44.1.Roots.length 4 (gl cs_RootKey v44.1.Roots))]))]⟩ (Tt ∧ ((((Eqc (.int .i64 a0.Length)) ∧ (Eqc (.int .i64 a0.Kind)) ∧ (Eqc (sl 1 (csL 5 cs_Key) a0.Tracks)) ∧ (Eqc (sl 4 cs_RootKey a0.Roots)) ∧ Tt) ∧ Tt) ∧ CallOK Try.prog 13 [.agg (cs_Clip a0)] [.agg (cs_Clip v42)]) ∧ T2 (((((Eqc (.int .i64 v42.Length)) ∧ (Eqc (.int .i64 v42.Kind)) ∧ (Eqc (sl 1 (csL 5 cs_Key) v42.Tracks)) ∧ (Eqc (sl 4 cs_RootKey v42.Roots)) ∧ Tt) ∧ (Eqc (.int .i64 a1)) ∧ (Eqc (.int .i64 a2)) ∧ Tt) ∧ CallOK Try.prog 25 [.agg (cs_Clip v42), .one (.int .i64 a1), .one (.int .i64 a2)] [.agg (cs_Clip v44.1), .one (.bool v44.2)]) ∧ T2 (T4 Tt))) [.no, .call [.agg (cs_Clip a0)] [.agg (cs_Clip v42)] [[.view, .view, .lst 15, .lst 16]], .no, .no, .call [.agg (cs_Clip v42), .one (.int .i64 a1), .one (.int .i64 a2)] [.agg (cs_Clip v44.1), .one (.bool v44.2)] [[.view, .view, .lst 17, .lst 18], [.view]], .no, .no, .no, .box 19] [8, 9, 11, 14, 16, 17] [4, 5, 6, 10, 11, 12, 17, 18, 19] ⟨tr, ⟨⟨⟨rfl, rfl, rfl, rfl, tr⟩, tr⟩, ok_laws_toClip K a0 v42 e43⟩, tr, tr, ⟨⟨⟨rfl, rfl, rfl, rfl, tr⟩, rfl, rfl, tr⟩, ok_impl_CutClip K v42 a1 a2 v44 e45⟩, tr, tr, tr, tr, tr, tr, tr⟩ ?_
              refine thenQ_normal ?_
              refine AW.seq ?_
              refine AW.seq ?_
              obtain ⟨v46, e47, h⟩ := bind_some h
              obtain ⟨j49, e50, h⟩ := bind_some h
              refine AW.join1 (s2 := ⟨[(11, (vp 12 0)), (14, (vc (.int .i64 v34.1))), (97, (vc (.bool j49)))], [(10, (.arr true v34.2.1.length 1 (gl (csL 5 cs_Key) v34.2.1))), (11, (.arr true v34.2.2.length 4 (gl cs_RootKey v34.2.2))), (12, (.box [(.c (.int .i64 v10.1.Length)), (.c (.int .i64 v10.1.Kind)), (.arr 10), (.arr 11)]))]⟩) ?_ ?_
              · rcases ite2_cases e50 with ⟨b48, e50⟩ | ⟨b48, e50⟩
                · replace e50 := some_eq e50
                  subst e50
                  exact AW.rA ⟨[(11, (vp 12 0)), (14, (vc (.int .i64 v34.1))), (97, (vc (.bool true)))], [(10, (.arr true v34.2.1.length 1 (gl (csL 5 cs_Key) v34.2.1))), (11, (.arr true v34.2.2.length 4 (gl cs_RootKey v34.2.2))), (12, (.box [(.c (.int .i64 v10.1.Length)), (.c (.int .i64 v10.1.Kind)), (.arr 10), (.arr 11)]))]⟩ (T2 (((((Eqc (.int .i64 v44.1.Length)) ∧ (Eqc (.int .i64 v44.1.Kind)) ∧ (Eqc (sl 1 (csL 5 cs_Key) v44.1.Tracks)) ∧ (Eqc (sl 4 cs_RootKey v44.1.Roots)) ∧ Tt) ∧ ((Eqc (.int .i64 v6.1.Length)) ∧ (Eqc (.int .i64 v6.1.Kind)) ∧ (Eqc (sl 1 (csL 5 cs_Key) v6.1.Tracks)) ∧ (Eqc (sl 4 cs_RootKey v6.1.Roots)) ∧ Tt) ∧ Tt) ∧ CallOK Try.prog 15 [.agg (cs_Clip v44.1), .agg (cs_Clip v6.1)] [.one (.bool v46)]) ∧ Tt ∧ (Tt ∧ (!v46) = true) ∧ T4 Tt)) [.no, .no, .call [.agg (cs_Clip v44.1), .agg (cs_Clip v6.1)] [.one (.bool v46)] [[.view]], .no, .dec true] [11, 14, 97] [10, 11, 12] ⟨tr, tr, ⟨⟨⟨rfl, rfl, rfl, rfl, tr⟩, ⟨rfl, rfl, rfl, rfl, tr⟩, tr⟩, ok_laws_eqClip K v44.1 v6.1 v46 e47⟩, tr, ⟨tr, b48⟩, tr, tr, tr, tr, tr⟩ ⟨rfl, rfl⟩
                · replace e50 := some_eq e50
                  subst e50
                  exact AW.rA ⟨[(11, (vp 12 0)), (14, (vc (.int .i64 v34.1))), (97, (vc (.bool (!(v44.2 == v6.2)))))], [(10, (.arr true v34.2.1.length 1 (gl (csL 5 cs_Key) v34.2.1))), (11, (.arr true v34.2.2.length 4 (gl cs_RootKey v34.2.2))), (12, (.box [(.c (.int .i64 v10.1.Length)), (.c (.int .i64 v10.1.Kind)), (.arr 10), (.arr 11)]))]⟩ (T2 (((((Eqc (.int .i64 v44.1.Length)) ∧ (Eqc (.int .i64 v44.1.Kind)) ∧ (Eqc (sl 1 (csL 5 cs_Key) v44.1.Tracks)) ∧ (Eqc (sl 4 cs_RootKey v44.1.Roots)) ∧ Tt) ∧ ((Eqc (.int .i64 v6.1.Length)) ∧ (Eqc (.int .i64 v6.1.Kind)) ∧ (Eqc (sl 1 (csL 5 cs_Key) v6.1.Tracks)) ∧ (Eqc (sl 4 cs_RootKey v6.1.Roots)) ∧ Tt) ∧ Tt) ∧ CallOK Try.prog 15 [.agg (cs_Clip v44.1), .agg (cs_Clip v6.1)] [.one (.bool v46)]) ∧ Tt ∧ (Tt ∧ (!v46) = false) ∧ T4 Tt)) [.no, .no, .call [.agg (cs_Clip v44.1), .agg (cs_Clip v6.1)] [.one (.bool v46)] [[.view]], .no, .dec false] [11, 14, 97] [10, 11, 12] ⟨tr, tr, ⟨⟨⟨rfl, rfl, rfl, rfl, tr⟩, ⟨rfl, rfl, rfl, rfl, tr⟩, tr⟩, ok_laws_eqClip K v44.1 v6.1 v46 e47⟩, tr, ⟨tr, b48⟩, tr, tr, tr, tr, tr⟩ ⟨rfl, rfl⟩
              refine thenQ_normal ?_
              rcases ite2_cases h with ⟨b51, h⟩ | ⟨b51, h⟩
              · refine AW.cond_t rfl b51 ?_
                refine AW.seq (AW.rA ⟨[(6, (vc (.bool false)))], []⟩ (Tt ∧ Tt) [] [6] [] ⟨tr, tr⟩ (thenQ_normal ?_))
                refine AW.ret ?_
                refine thenQ_ret ?_
                replace h := some_eq h
                subst h
                exact ⟨.inr rfl, retOK_of [(.one (.c (.bool false)))] (by kernel_rfl) ⟨⟨rfl, tr⟩, tr⟩ (of_decide_eq_true (by kernel_rfl))⟩
              · refine AW.cond_f rfl b51 ?_
                refine AW.skip ?_
                refine thenQ_normal ?_
                refine AW.seq (AW.rA ⟨[(11, (vp 12 0)), (14, (vc (.int .i64 v34.1))), (15, (vc (.int .i64 (1 : Int))))], [(10, (.arr true v34.2.1.length 1 (gl (csL 5 cs_Key) v34.2.1))), (11, (.arr true v34.2.2.length 4 (gl cs_RootKey v34.2.2))), (12, (.box [(.c (.int .i64 v10.1.Length)), (.c (.int .i64 v10.1.Kind)), (.arr 10), (.arr 11)]))]⟩ (Tt ∧ Tt) [] [11, 14, 15] [10, 11, 12] ⟨tr, tr⟩ (thenQ_normal ?_))
                refine AW.seq ?_
                obtain ⟨v52, e53, h⟩ := bind_some h
                refine AW.rA ⟨[(14, (vc (.int .i64 v34.1))), (15, (vc (.int .i64 v52)))], []⟩ (T2 (((((Eqc (.int .i64 v10.1.Length)) ∧ (Eqc (.int .i64 v10.1.Kind)) ∧ (Eqc (sl 1 (csL 5 cs_Key) v34.2.1)) ∧ (Eqc (sl 4 cs_RootKey v34.2.2)) ∧ Tt) ∧ (Eqc (.int .i64 (1 : Int))) ∧ Tt) ∧ CallOK Try.prog 17 [.agg (cs_Clip (Clip.mk v10.1.Length v10.1.Kind v34.2.1 v34.2.2)), .one (.int .i64 (1 : Int))] [.one (.int .i64 v52)]) ∧ Tt ∧ Tt)) [.no, .no, .call [.agg (cs_Clip (Clip.mk v10.1.Length v10.1.Kind v34.2.1 v34.2.2)), .one (.int .i64 (1 : Int))] [.one (.int .i64 v52)] [[.view]]] [14, 15] [] ⟨tr, tr, ⟨⟨⟨rfl, rfl, rfl, rfl, tr⟩, rfl, tr⟩, ok_laws_heldClip K (Clip.mk v10.1.Length v10.1.Kind v34.2.1 v34.2.2) (1 : Int) v52 e53⟩, tr, tr⟩ ?_
                refine thenQ_normal ?_
                refine AW.seq ?_
                refine AW.seq (AW.rA ⟨[(14, (vc (.int .i64 v34.1))), (15, (vc (.int .i64 v52))), (102, (vc (.bool (decide (v52 < (0 : Int))))))], []⟩ (T2 Tt) [] [14, 15, 102] [] ⟨tr, tr, tr⟩ (thenQ_normal ?_))
                rcases ite2_cases h with ⟨b54, h⟩ | ⟨b54, h⟩
                · refine AW.cond_t rfl b54 ?_
                  refine AW.seq (AW.rA ⟨[(6, (vc (.bool false)))], []⟩ (Tt ∧ Tt) [] [6] [] ⟨tr, tr⟩ (thenQ_normal ?_))
                  refine AW.ret ?_
                  refine thenQ_ret ?_
                  replace h := some_eq h
                  subst h
                  exact ⟨.inr rfl, retOK_of [(.one (.c (.bool false)))] (by kernel_rfl) ⟨⟨rfl, tr⟩, tr⟩ (of_decide_eq_true (by kernel_rfl))⟩
                · refine AW.cond_f rfl b54 ?_
                  refine AW.skip ?_
                  refine thenQ_normal ?_
                  refine AW.seq ?_
                  refine AW.seq (AW.rA ⟨[(105, (vc (.bool (v52 != v34.1))))], []⟩ (Tt ∧ T2 Tt) [] [105] [] ⟨tr, tr, tr, tr⟩ (thenQ_normal ?_))
                  rcases ite2_cases h with ⟨b55, h⟩ | ⟨b55, h⟩
                  · refine AW.cond_t rfl b55 ?_
                    refine AW.seq (AW.rA ⟨[(6, (vc (.bool false)))], []⟩ (Tt ∧ Tt) [] [6] [] ⟨tr, tr⟩ (thenQ_normal ?_))
                    refine AW.ret ?_
                    refine thenQ_ret ?_
                    replace h := some_eq h
                    subst h
                    exact ⟨.inr rfl, retOK_of [(.one (.c (.bool false)))] (by kernel_rfl) ⟨⟨rfl, tr⟩, tr⟩ (of_decide_eq_true (by kernel_rfl))⟩
                  · refine AW.cond_f rfl b55 ?_
                    refine AW.skip ?_
                    refine thenQ_normal ?_
                    refine AW.seq (AW.rA ⟨[(6, (vc (.bool true)))], []⟩ (Tt ∧ Tt) [] [6] [] ⟨tr, tr⟩ (thenQ_normal ?_))
                    refine AW.ret ?_
                    replace h := some_eq h
                    subst h
                    exact ⟨.inr rfl, retOK_of [(.one (.c (.bool true)))] (by kernel_rfl) ⟨⟨rfl, tr⟩, tr⟩ (of_decide_eq_true (by kernel_rfl))⟩

end
end Go.Fw
