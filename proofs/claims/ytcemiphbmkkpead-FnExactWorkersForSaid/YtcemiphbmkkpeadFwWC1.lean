/- Functions of the program: what each computes, and that it computes just that. -/
import Derived.Test.YtcemiphbmkkpeadFwTy
import Derived.Test.YtcemiphbmkkpeadFwH
import Derived.Test.YtcemiphbmkkpeadFwV
import Derived.Test.YtcemiphbmkkpeadFwHF
import Derived.Test.YtcemiphbmkkpeadFwMK
import Derived.Test.YtcemiphbmkkpeadProg
import Derived.KernelRfl
namespace Go.Fw
open Go Go.Proofs
noncomputable section
set_option maxRecDepth 10000

/-! laws.toInt64S -/
def laws_toInt64S_l1 (K : Nat) (a0 : (List Int)) : Nat → Int → (List Int) → Option ((List Int))
  | 0, _, _ => none
  | k + 1, x4, x5 => ite2 ((decide (x4 < (a0.length : Int)))) (chk (0 ≤ x4 ∧ x4 < (a0.length : Int)) (chk (0 ≤ x4 ∧ x4 < (x5.length : Int)) (laws_toInt64S_l1 K a0 k (IntKind.i64.wrap (x4 + (1 : Int))) (x5.set x4.toNat (a0.getD x4.toNat default))))) (some x5)

def laws_toInt64S (K : Nat) (a0 : (List Int)) : Option ((List Int)) :=
  chk (0 ≤ (a0.length : Int) ∧ (a0.length : Int).toNat * 8 ≤ 140737488355328) (laws_toInt64S_l1 K a0 K (0 : Int) (List.replicate (a0.length : Int).toNat (default : Int)))

theorem ok_laws_toInt64S (K : Nat) (a0 : (List Int)) (o : ((List Int))) (h : laws_toInt64S K a0 = some o) : CallOK Try.prog 5 [.one (sl 1 (csI .i64) a0)] [.one (sl 1 (csI .i64) o)] := by
  refine callOK_of_AW Try.func5 rfl (by kernel_rfl) (Nat.le_of_ble_eq_true (by kernel_rfl)) ?_
  intro w0
  unfold laws_toInt64S at h
  refine AW.seq (AW.rA ⟨[(0, (vc (sl 1 (csI .i64) a0)))], []⟩ (Tt ∧ Tt) [] [0] [] ⟨tr, tr⟩ (thenQ_normal ?_))
  refine AW.seq ?_
  obtain ⟨c1, h⟩ := chk_some h
  refine AW.rA ⟨[(0, (vc (sl 1 (csI .i64) a0))), (3, (.v (.one (.arr 1))))], [(1, (.arr false (List.replicate (a0.length : Int).toNat (default : Int)).length 1 (gl (csI .i64) (List.replicate (a0.length : Int).toNat (default : Int)))))]⟩ (T2 ((0 ≤ (a0.length : Int) ∧ (a0.length : Int) = (a0.length : Int) ∧ (((List.replicate (a0.length : Int).toNat (default : Int)).length : Nat) : Int) = (a0.length : Int) ∧ (List.replicate (a0.length : Int).toNat (default : Int)).length * 8 ≤ 140737488355328 ∧ ∀ i, i < (List.replicate (a0.length : Int).toNat (default : Int)).length → zeroRow (fun _ => none) [(.c (.int .i64 (0 : Int)))] (gl (csI .i64) (List.replicate (a0.length : Int).toNat (default : Int)) i)) ∧ Tt ∧ Tt)) [.no, .no, .objA 1 (List.replicate (a0.length : Int).toNat (default : Int)).length (gl (csI .i64) (List.replicate (a0.length : Int).toNat (default : Int)))] [0, 3] [1] ⟨tr, tr, ⟨c1.1, rfl, len_rep c1.1, rep_bytes c1.2, fun i hi => gl_zero (cs := (csI .i64)) (zs := [(.c (.int .i64 (0 : Int)))]) (n := (a0.length : Int).toNat) ⟨⟨rfl, tr⟩, tr⟩ i (rep_lt hi)⟩, tr, tr⟩ ?_
  refine thenQ_normal ?_
  refine AW.seq ?_
  refine AW.seq (AW.rA ⟨[(0, (vc (sl 1 (csI .i64) a0))), (3, (.v (.one (.arr 1)))), (4, (vc (.int .i64 (0 : Int))))], [(1, (.arr false (List.replicate (a0.length : Int).toNat (default : Int)).length 1 (gl (csI .i64) (List.replicate (a0.length : Int).toNat (default : Int)))))]⟩ (Tt ∧ Tt) [] [0, 3, 4] [1] ⟨tr, tr⟩ (thenQ_normal ?_))
  refine AW.block ?_
  refine AW.loopQ (σ := Nat × Int × (List Int)) (fun p => ⟨[(0, (vc (sl 1 (csI .i64) a0))), (3, (.v (.one (.arr 1)))), (4, (vc (.int .i64 p.2.1)))], [(1, (.arr false p.2.2.length 1 (gl (csI .i64) p.2.2)))]⟩) (fun p => laws_toInt64S_l1 K a0 p.1 p.2.1 p.2.2 = some o) (fun p => p.1) (K, (0 : Int), (List.replicate (a0.length : Int).toNat (default : Int))) h ?_
  clear h
  rintro ⟨k, x4, x5⟩ h
  replace h : laws_toInt64S_l1 K a0 k x4 x5 = some o := h
  show AW _ _ (⟨[(0, (vc (sl 1 (csI .i64) a0))), (3, (.v (.one (.arr 1)))), (4, (vc (.int .i64 x4)))], [(1, (.arr false x5.length 1 (gl (csI .i64) x5)))]⟩ : St) _
  obtain _ | k := k
  · rw [laws_toInt64S_l1] at h; cases h
  rw [laws_toInt64S_l1] at h
  refine AW.seq ?_
  refine AW.seq (AW.rA ⟨[(0, (vc (sl 1 (csI .i64) a0))), (3, (.v (.one (.arr 1)))), (4, (vc (.int .i64 x4))), (11, (vc (.bool (decide (x4 < (a0.length : Int))))))], [(1, (.arr false x5.length 1 (gl (csI .i64) x5)))]⟩ (T4 Tt) [] [0, 3, 4, 11] [1] ⟨tr, tr, tr, tr, tr⟩ (thenQ_normal ?_))
  rcases ite2_cases h with ⟨b6, h⟩ | ⟨b6, h⟩
  · refine AW.cond_t rfl b6 ?_
    refine AW.skip ?_
    refine thenQ_normal ?_
    refine AW.seq ?_
    refine AW.block ?_
    obtain ⟨c7, h⟩ := chk_some h
    obtain ⟨c8, h⟩ := chk_some h
    refine AW.rA ⟨[(0, (vc (sl 1 (csI .i64) a0))), (3, (.v (.one (.arr 1)))), (4, (vc (.int .i64 x4)))], [(1, (.arr false (x5.set x4.toNat (a0.getD x4.toNat default)).length 1 (gl (csI .i64) (x5.set x4.toNat (a0.getD x4.toNat default)))))]⟩ (T4 ((0 ≤ x4 ∧ x4 < (a0.length : Int)) ∧ Tt ∧ (0 ≤ x4 ∧ x4 < (x5.length : Int)) ∧ ((x5.set x4.toNat (a0.getD x4.toNat default)).length = x5.length ∧ SetOb x5.length 1 x4.toNat 0 1 (gl (csI .i64) x5) (gl (csI .i64) (x5.set x4.toNat (a0.getD x4.toNat default))) ∧ ((List.range 1).map fun j => ((csI .i64) (a0.getD x4.toNat default)).getD (0 + j) .nilptr) = ((List.range 1).map fun j => gl (csI .i64) (x5.set x4.toNat (a0.getD x4.toNat default)) x4.toNat (0 + j)) ∧ ((((.int .i64 (a0.getD x4.toNat default)) : C) = (.int .i64 (a0.getD x4.toNat default)) ∧ Tt) ∧ Tt) ∧ (false = true → ∀ j, j < 1 → isSeq (gl (csI .i64) x5 x4.toNat (0 + j)) = false ∧ isSeq (gl (csI .i64) (x5.set x4.toNat (a0.getD x4.toNat default)) x4.toNat (0 + j)) = false)) ∧ Tt)) [.no, .no, .no, .no, .no, .no, .no, .set (x5.set x4.toNat (a0.getD x4.toNat default)).length (gl (csI .i64) (x5.set x4.toNat (a0.getD x4.toNat default))) ((List.range 1).map fun j => ((csI .i64) (a0.getD x4.toNat default)).getD (0 + j) .nilptr)] [0, 3, 4] [1] ⟨tr, tr, tr, tr, c7, tr, c8, ⟨List.length_set, gl_set, (gl_atp (lt_of_bound c8)).symm, ⟨⟨rfl, tr⟩, tr⟩, (fun h => nomatch h)⟩, tr⟩ ?_
    refine blockQ_normal ?_
    refine thenQ_normal ?_
    refine AW.rA ⟨[(0, (vc (sl 1 (csI .i64) a0))), (3, (.v (.one (.arr 1)))), (4, (vc (.int .i64 (IntKind.i64.wrap (x4 + (1 : Int))))))], [(1, (.arr false (x5.set x4.toNat (a0.getD x4.toNat default)).length 1 (gl (csI .i64) (x5.set x4.toNat (a0.getD x4.toNat default)))))]⟩ (Tt ∧ T2 Tt) [] [0, 3, 4] [1] ⟨tr, tr, tr, tr⟩ ?_
    exact loopQ_normal (k, (IntKind.i64.wrap (x4 + (1 : Int))), (x5.set x4.toNat (a0.getD x4.toNat default))) h (Nat.lt_succ_self k) (Sub.keep [0, 3, 4] [1] (by kernel_rfl) (by kernel_rfl))
  · refine AW.cond_f rfl b6 ?_
    refine AW.exit ?_
    refine thenQ_exit ?_
    refine loopQ_exit ?_
    refine blockQ_exit ?_
    refine thenQ_normal ?_
    refine AW.seq (AW.rA ⟨[(2, (.v (.one (.arr 1))))], [(1, (.arr false x5.length 1 (gl (csI .i64) x5)))]⟩ (T2 Tt) [] [2] [1] ⟨tr, tr, tr⟩ (thenQ_normal ?_))
    refine AW.ret ?_
    replace h := some_eq h
    subst h
    exact ⟨.inr rfl, retOK_of [(.one (.arr 1))] (by kernel_rfl) ⟨rfl, tr⟩ (of_decide_eq_true (by kernel_rfl))⟩

/-! spec.l00In -/
def spec_l00In (_K : Nat) (a0 : Int) (a1 : Int) (a2 : Int) : Option (Bool) :=
  (ite2 ((decide (a0 ≥ a1))) (some (decide (a0 ≤ a2))) (some false)).bind fun j2 => some j2

theorem ok_spec_l00In (K : Nat) (a0 : Int) (a1 : Int) (a2 : Int) (o : (Bool)) (h : spec_l00In K a0 a1 a2 = some o) : CallOK Try.prog 10 [.one (.int .i64 a0), .one (.int .i64 a1), .one (.int .i64 a2)] [.one (.bool o)] := by
  refine callOK_of_AW Try.func10 rfl (by kernel_rfl) (Nat.le_of_ble_eq_true (by kernel_rfl)) ?_
  intro w0
  unfold spec_l00In at h
  refine AW.seq (AW.rA ⟨[(0, (vc (.int .i64 a0))), (1, (vc (.int .i64 a1))), (2, (vc (.int .i64 a2)))], []⟩ (Tt ∧ Tt) [] [0, 1, 2] [] ⟨tr, tr⟩ (thenQ_normal ?_))
  refine AW.seq ?_
  obtain ⟨j2, e3, h⟩ := bind_some h
  refine AW.join1 (s2 := ⟨[(6, (vc (.bool j2)))], []⟩) ?_ ?_
  · rcases ite2_cases e3 with ⟨b1, e3⟩ | ⟨b1, e3⟩
    · replace e3 := some_eq e3
      subst e3
      exact AW.rA ⟨[(6, (vc (.bool (decide (a0 ≤ a2)))))], []⟩ (Tt ∧ T2 ((Tt ∧ (decide (a0 ≥ a1)) = true) ∧ Tt ∧ T4 Tt)) [.no, .no, .no, .dec true] [6] [] ⟨tr, tr, tr, ⟨tr, b1⟩, tr, tr, tr, tr, tr, tr⟩ ⟨rfl, rfl⟩
    · replace e3 := some_eq e3
      subst e3
      exact AW.rA ⟨[(6, (vc (.bool false)))], []⟩ (Tt ∧ T2 ((Tt ∧ (decide (a0 ≥ a1)) = false) ∧ Tt ∧ T4 Tt)) [.no, .no, .no, .dec false] [6] [] ⟨tr, tr, tr, ⟨tr, b1⟩, tr, tr, tr, tr, tr, tr⟩ ⟨rfl, rfl⟩
  refine thenQ_normal ?_
  refine AW.ret ?_
  replace h := some_eq h
  subst h
  exact ⟨.inr rfl, retOK_of [(.one (.c (.bool j2)))] (by kernel_rfl) ⟨⟨rfl, tr⟩, tr⟩ (of_decide_eq_true (by kernel_rfl))⟩

/-! spec.WorkersFor -/
def spec_WorkersFor_l7 (K : Nat) (a0 : (List Int)) (x23 : (List Bool)) : Nat → Int → Int → Option (Int)
  | 0, _, _ => none
  | k + 1, x43, x44 => ite2 ((decide (x44 < (a0.length : Int)))) (chk (0 ≤ x44 ∧ x44 < (x23.length : Int)) ((ite2 ((!(x23.getD x44.toNat default))) (ite2 ((decide (x43 < (0 : Int)))) (some true) (chk (0 ≤ x44 ∧ x44 < (a0.length : Int)) (chk (0 ≤ x43 ∧ x43 < (a0.length : Int)) (some (decide ((a0.getD x44.toNat default) > (a0.getD x43.toNat default))))))) (some false)).bind fun j51 => ite2 (j51) (spec_WorkersFor_l7 K a0 x23 k x44 (IntKind.i64.wrap (x44 + (1 : Int)))) (spec_WorkersFor_l7 K a0 x23 k x43 (IntKind.i64.wrap (x44 + (1 : Int)))))) (some x43)

def spec_WorkersFor_l8 (K : Nat) (a1 : Int) (x24 : (List Int)) : Nat → Int → Int → Option (Int)
  | 0, _, _ => none
  | k + 1, x67, x68 => ite2 ((decide (x68 < a1))) (chk (0 ≤ x68 ∧ x68 < (x24.length : Int)) (chk (0 ≤ x67 ∧ x67 < (x24.length : Int)) (ite2 ((decide ((x24.getD x68.toNat default) < (x24.getD x67.toNat default)))) (spec_WorkersFor_l8 K a1 x24 k x68 (IntKind.i64.wrap (x68 + (1 : Int)))) (spec_WorkersFor_l8 K a1 x24 k x67 (IntKind.i64.wrap (x68 + (1 : Int))))))) (some x67)

def spec_WorkersFor_l6 (K : Nat) (a0 : (List Int)) (a1 : Int) : Nat → Int → (List Int) → (List Bool) → (List Int) → Option ((List Int) × Bool)
  | 0, _, _, _, _ => none
  | k + 1, x21, x22, x23, x24 => ite2 ((decide (x21 < (a0.length : Int)))) ((spec_WorkersFor_l7 K a0 x23 K ((-1) : Int) (0 : Int)).bind fun j39 => chk (0 ≤ j39 ∧ j39 < (x23.length : Int)) ((spec_WorkersFor_l8 K a1 x24 K (0 : Int) (1 : Int)).bind fun j63 => chk (0 ≤ j39 ∧ j39 < (x22.length : Int)) (chk (0 ≤ j63 ∧ j63 < (x24.length : Int)) (chk (0 ≤ j39 ∧ j39 < (a0.length : Int)) (spec_WorkersFor_l6 K a0 a1 k (IntKind.i64.wrap (x21 + (1 : Int))) (x22.set j39.toNat j63) (x23.set j39.toNat true) (x24.set j63.toNat (IntKind.i64.wrap ((x24.getD j63.toNat default) + (a0.getD j39.toNat default))))))))) (some (x22, true))

def spec_WorkersFor_l1 (K : Nat) (a0 : (List Int)) (a1 : Int) : Nat → Int → Option ((List Int) × Bool)
  | 0, _ => none
  | k + 1, x8 => ite2 ((decide (x8 < (a0.length : Int)))) (chk (0 ≤ x8 ∧ x8 < (a0.length : Int)) ((spec_l00In K (a0.getD x8.toNat default) (0 : Int) (1000000 : Int)).bind fun v11 => ite2 ((!v11)) (some (([] : (List Int)), false)) (spec_WorkersFor_l1 K a0 a1 k (IntKind.i64.wrap (x8 + (1 : Int)))))) (chk (0 ≤ (a0.length : Int) ∧ (a0.length : Int).toNat * 8 ≤ 140737488355328) (chk (0 ≤ (a0.length : Int) ∧ (a0.length : Int).toNat * 1 ≤ 140737488355328) (chk (0 ≤ a1 ∧ a1.toNat * 8 ≤ 140737488355328) (spec_WorkersFor_l6 K a0 a1 K (0 : Int) (List.replicate (a0.length : Int).toNat (default : Int)) (List.replicate (a0.length : Int).toNat (default : Bool)) (List.replicate a1.toNat (default : Int))))))

def spec_WorkersFor (K : Nat) (a0 : (List Int)) (a1 : Int) : Option ((List Int) × Bool) :=
  (ite2 ((decide ((a0.length : Int) > (64 : Int)))) (some true) ((spec_l00In K a1 (1 : Int) (8 : Int)).bind fun v2 => some (!v2))).bind fun j4 => ite2 (j4) (some (([] : (List Int)), false)) (spec_WorkersFor_l1 K a0 a1 K (0 : Int))

theorem ok_spec_WorkersFor (K : Nat) (a0 : (List Int)) (a1 : Int) (o : ((List Int) × Bool)) (h : spec_WorkersFor K a0 a1 = some o) : CallOK Try.prog 4 [.one (sl 1 (csI .i64) a0), .one (.int .i64 a1)] [.one (sl 1 (csI .i64) o.1), .one (.bool o.2)] := by
  refine callOK_of_AW Try.func4 rfl (by kernel_rfl) (Nat.le_of_ble_eq_true (by kernel_rfl)) ?_
  intro w0
  unfold spec_WorkersFor at h
  refine AW.seq (AW.rA ⟨[(0, (vc (sl 1 (csI .i64) a0))), (1, (vc (.int .i64 a1)))], []⟩ (T2 Tt) [] [0, 1] [] ⟨tr, tr, tr⟩ (thenQ_normal ?_))
  refine AW.seq ?_
  refine AW.seq ?_
  obtain ⟨j4, e5, h⟩ := bind_some h
  refine AW.join1 (s2 := ⟨[(0, (vc (sl 1 (csI .i64) a0))), (1, (vc (.int .i64 a1))), (22, (vc (.bool j4)))], []⟩) ?_ ?_
  · rcases ite2_cases e5 with ⟨b1, e5⟩ | ⟨b1, e5⟩
    · replace e5 := some_eq e5
      subst e5
      exact AW.rA ⟨[(0, (vc (sl 1 (csI .i64) a0))), (1, (vc (.int .i64 a1))), (22, (vc (.bool true)))], []⟩ (Tt ∧ T2 ((Tt ∧ (decide ((a0.length : Int) > (64 : Int))) = true) ∧ T4 Tt)) [.no, .no, .no, .dec true] [0, 1, 22] [] ⟨tr, tr, tr, ⟨tr, b1⟩, tr, tr, tr, tr, tr⟩ ⟨rfl, rfl⟩
    · obtain ⟨v2, e3, e5⟩ := bind_some e5
      replace e5 := some_eq e5
      subst e5
      exact AW.rA ⟨[(0, (vc (sl 1 (csI .i64) a0))), (1, (vc (.int .i64 a1))), (22, (vc (.bool (!v2))))], []⟩ (Tt ∧ T2 ((Tt ∧ (decide ((a0.length : Int) > (64 : Int))) = false) ∧ Tt ∧ (((Eqc (.int .i64 a1)) ∧ (Eqc (.int .i64 (1 : Int))) ∧ (Eqc (.int .i64 (8 : Int))) ∧ Tt) ∧ CallOK Try.prog 10 [.one (.int .i64 a1), .one (.int .i64 (1 : Int)), .one (.int .i64 (8 : Int))] [.one (.bool v2)]) ∧ T2 Tt)) [.no, .no, .no, .dec false, .no, .call [.one (.int .i64 a1), .one (.int .i64 (1 : Int)), .one (.int .i64 (8 : Int))] [.one (.bool v2)] [[.view]]] [0, 1, 22] [] ⟨tr, tr, tr, ⟨tr, b1⟩, tr, ⟨⟨rfl, rfl, rfl, tr⟩, ok_spec_l00In K a1 (1 : Int) (8 : Int) v2 e3⟩, tr, tr, tr⟩ ⟨rfl, rfl⟩
  refine thenQ_normal ?_
  rcases ite2_cases h with ⟨b6, h⟩ | ⟨b6, h⟩
  · refine AW.cond_t rfl b6 ?_
    refine AW.seq (AW.rA ⟨[(4, (.v (.one .nils))), (5, (vc (.bool false)))], []⟩ (T2 Tt) [] [4, 5] [] ⟨tr, tr, tr⟩ (thenQ_normal ?_))
    refine AW.ret ?_
    refine thenQ_ret ?_
    replace h := some_eq h
    subst h
    exact ⟨.inr rfl, retOK_of [(.one .nils), (.one (.c (.bool false)))] (by kernel_rfl) ⟨rfl, ⟨rfl, tr⟩, tr⟩ (of_decide_eq_true (by kernel_rfl))⟩
  · refine AW.cond_f rfl b6 ?_
    refine AW.skip ?_
    refine thenQ_normal ?_
    refine AW.seq ?_
    refine AW.seq (AW.rA ⟨[(0, (vc (sl 1 (csI .i64) a0))), (1, (vc (.int .i64 a1))), (6, (vc (.int .i64 (0 : Int))))], []⟩ (Tt ∧ Tt) [] [0, 1, 6] [] ⟨tr, tr⟩ (thenQ_normal ?_))
    refine AW.block ?_
    refine AW.loopQ (σ := Nat × Int) (fun p => ⟨[(0, (vc (sl 1 (csI .i64) a0))), (1, (vc (.int .i64 a1))), (6, (vc (.int .i64 p.2)))], []⟩) (fun p => spec_WorkersFor_l1 K a0 a1 p.1 p.2 = some o) (fun p => p.1) (K, (0 : Int)) h ?_
    clear h
    rintro ⟨k, x8⟩ h
    replace h : spec_WorkersFor_l1 K a0 a1 k x8 = some o := h
    show AW _ _ (⟨[(0, (vc (sl 1 (csI .i64) a0))), (1, (vc (.int .i64 a1))), (6, (vc (.int .i64 x8)))], []⟩ : St) _
    obtain _ | k := k
    · rw [spec_WorkersFor_l1] at h; cases h
    rw [spec_WorkersFor_l1] at h
    refine AW.seq ?_
    refine AW.seq (AW.rA ⟨[(0, (vc (sl 1 (csI .i64) a0))), (1, (vc (.int .i64 a1))), (6, (vc (.int .i64 x8))), (26, (vc (.bool (decide (x8 < (a0.length : Int))))))], []⟩ (T4 Tt) [] [0, 1, 6, 26] [] ⟨tr, tr, tr, tr, tr⟩ (thenQ_normal ?_))
    rcases ite2_cases h with ⟨b9, h⟩ | ⟨b9, h⟩
    · refine AW.cond_t rfl b9 ?_
      refine AW.skip ?_
      refine thenQ_normal ?_
      refine AW.seq ?_
      refine AW.block ?_
      refine AW.seq ?_
      obtain ⟨c10, h⟩ := chk_some h
      obtain ⟨v11, e12, h⟩ := bind_some h
      refine AW.rA ⟨[(0, (vc (sl 1 (csI .i64) a0))), (1, (vc (.int .i64 a1))), (6, (vc (.int .i64 x8))), (34, (vc (.bool (!v11))))], []⟩ (T2 ((0 ≤ x8 ∧ x8 < (a0.length : Int)) ∧ Tt ∧ (((Eqc (.int .i64 (a0.getD x8.toNat default))) ∧ (Eqc (.int .i64 (0 : Int))) ∧ (Eqc (.int .i64 (1000000 : Int))) ∧ Tt) ∧ CallOK Try.prog 10 [.one (.int .i64 (a0.getD x8.toNat default)), .one (.int .i64 (0 : Int)), .one (.int .i64 (1000000 : Int))] [.one (.bool v11)]) ∧ Tt ∧ Tt)) [.no, .no, .no, .no, .call [.one (.int .i64 (a0.getD x8.toNat default)), .one (.int .i64 (0 : Int)), .one (.int .i64 (1000000 : Int))] [.one (.bool v11)] [[.view]]] [0, 1, 6, 34] [] ⟨tr, tr, c10, tr, ⟨⟨rfl, rfl, rfl, tr⟩, ok_spec_l00In K (a0.getD x8.toNat default) (0 : Int) (1000000 : Int) v11 e12⟩, tr, tr⟩ ?_
      refine thenQ_normal ?_
      rcases ite2_cases h with ⟨b13, h⟩ | ⟨b13, h⟩
      · refine AW.cond_t rfl b13 ?_
        refine AW.seq (AW.rA ⟨[(4, (.v (.one .nils))), (5, (vc (.bool false)))], []⟩ (T2 Tt) [] [4, 5] [] ⟨tr, tr, tr⟩ (thenQ_normal ?_))
        refine AW.ret ?_
        refine blockQ_ret ?_
        refine thenQ_ret ?_
        refine loopQ_ret ?_
        refine blockQ_ret ?_
        refine thenQ_ret ?_
        replace h := some_eq h
        subst h
        exact ⟨.inr rfl, retOK_of [(.one .nils), (.one (.c (.bool false)))] (by kernel_rfl) ⟨rfl, ⟨rfl, tr⟩, tr⟩ (of_decide_eq_true (by kernel_rfl))⟩
      · refine AW.cond_f rfl b13 ?_
        refine AW.skip ?_
        refine blockQ_normal ?_
        refine thenQ_normal ?_
        refine AW.rA ⟨[(0, (vc (sl 1 (csI .i64) a0))), (1, (vc (.int .i64 a1))), (6, (vc (.int .i64 (IntKind.i64.wrap (x8 + (1 : Int))))))], []⟩ (Tt ∧ T2 Tt) [] [0, 1, 6] [] ⟨tr, tr, tr, tr⟩ ?_
        exact loopQ_normal (k, (IntKind.i64.wrap (x8 + (1 : Int)))) h (Nat.lt_succ_self k) (Sub.keep [0, 1, 6] [] (by kernel_rfl) (by kernel_rfl))
    · refine AW.cond_f rfl b9 ?_
      refine AW.exit ?_
      refine thenQ_exit ?_
      refine loopQ_exit ?_
      refine blockQ_exit ?_
      refine thenQ_normal ?_
      refine AW.seq ?_
      obtain ⟨c14, h⟩ := chk_some h
      refine AW.rA ⟨[(0, (vc (sl 1 (csI .i64) a0))), (1, (vc (.int .i64 a1))), (7, (.v (.one (.arr 1))))], [(1, (.arr false (List.replicate (a0.length : Int).toNat (default : Int)).length 1 (gl (csI .i64) (List.replicate (a0.length : Int).toNat (default : Int)))))]⟩ (T2 ((0 ≤ (a0.length : Int) ∧ (a0.length : Int) = (a0.length : Int) ∧ (((List.replicate (a0.length : Int).toNat (default : Int)).length : Nat) : Int) = (a0.length : Int) ∧ (List.replicate (a0.length : Int).toNat (default : Int)).length * 8 ≤ 140737488355328 ∧ ∀ i, i < (List.replicate (a0.length : Int).toNat (default : Int)).length → zeroRow (fun _ => none) [(.c (.int .i64 (0 : Int)))] (gl (csI .i64) (List.replicate (a0.length : Int).toNat (default : Int)) i)) ∧ Tt ∧ Tt)) [.no, .no, .objA 1 (List.replicate (a0.length : Int).toNat (default : Int)).length (gl (csI .i64) (List.replicate (a0.length : Int).toNat (default : Int)))] [0, 1, 7] [1] ⟨tr, tr, ⟨c14.1, rfl, len_rep c14.1, rep_bytes c14.2, fun i hi => gl_zero (cs := (csI .i64)) (zs := [(.c (.int .i64 (0 : Int)))]) (n := (a0.length : Int).toNat) ⟨⟨rfl, tr⟩, tr⟩ i (rep_lt hi)⟩, tr, tr⟩ ?_
      refine thenQ_normal ?_
      refine AW.seq ?_
      obtain ⟨c15, h⟩ := chk_some h
      refine AW.rA ⟨[(0, (vc (sl 1 (csI .i64) a0))), (1, (vc (.int .i64 a1))), (7, (.v (.one (.arr 1)))), (8, (.v (.one (.arr 2))))], [(1, (.arr false (List.replicate (a0.length : Int).toNat (default : Int)).length 1 (gl (csI .i64) (List.replicate (a0.length : Int).toNat (default : Int))))), (2, (.arr false (List.replicate (a0.length : Int).toNat (default : Bool)).length 1 (gl csB (List.replicate (a0.length : Int).toNat (default : Bool)))))]⟩ (T2 ((0 ≤ (a0.length : Int) ∧ (a0.length : Int) = (a0.length : Int) ∧ (((List.replicate (a0.length : Int).toNat (default : Bool)).length : Nat) : Int) = (a0.length : Int) ∧ (List.replicate (a0.length : Int).toNat (default : Bool)).length * 1 ≤ 140737488355328 ∧ ∀ i, i < (List.replicate (a0.length : Int).toNat (default : Bool)).length → zeroRow (fun _ => none) [(.c (.bool false))] (gl csB (List.replicate (a0.length : Int).toNat (default : Bool)) i)) ∧ Tt ∧ Tt)) [.no, .no, .objA 2 (List.replicate (a0.length : Int).toNat (default : Bool)).length (gl csB (List.replicate (a0.length : Int).toNat (default : Bool)))] [0, 1, 7, 8] [1, 2] ⟨tr, tr, ⟨c15.1, rfl, len_rep c15.1, rep_bytes c15.2, fun i hi => gl_zero (cs := csB) (zs := [(.c (.bool false))]) (n := (a0.length : Int).toNat) ⟨⟨rfl, tr⟩, tr⟩ i (rep_lt hi)⟩, tr, tr⟩ ?_
      refine thenQ_normal ?_
      refine AW.seq ?_
      obtain ⟨c16, h⟩ := chk_some h
      refine AW.rA ⟨[(0, (vc (sl 1 (csI .i64) a0))), (1, (vc (.int .i64 a1))), (7, (.v (.one (.arr 1)))), (8, (.v (.one (.arr 2)))), (9, (.v (.one (.arr 3))))], [(1, (.arr false (List.replicate (a0.length : Int).toNat (default : Int)).length 1 (gl (csI .i64) (List.replicate (a0.length : Int).toNat (default : Int))))), (2, (.arr false (List.replicate (a0.length : Int).toNat (default : Bool)).length 1 (gl csB (List.replicate (a0.length : Int).toNat (default : Bool))))), (3, (.arr false (List.replicate a1.toNat (default : Int)).length 1 (gl (csI .i64) (List.replicate a1.toNat (default : Int)))))]⟩ (Tt ∧ (0 ≤ a1 ∧ a1 = a1 ∧ (((List.replicate a1.toNat (default : Int)).length : Nat) : Int) = a1 ∧ (List.replicate a1.toNat (default : Int)).length * 8 ≤ 140737488355328 ∧ ∀ i, i < (List.replicate a1.toNat (default : Int)).length → zeroRow (fun _ => none) [(.c (.int .i64 (0 : Int)))] (gl (csI .i64) (List.replicate a1.toNat (default : Int)) i)) ∧ Tt ∧ Tt) [.no, .objA 3 (List.replicate a1.toNat (default : Int)).length (gl (csI .i64) (List.replicate a1.toNat (default : Int)))] [0, 1, 7, 8, 9] [1, 2, 3] ⟨tr, ⟨c16.1, rfl, len_rep c16.1, rep_bytes c16.2, fun i hi => gl_zero (cs := (csI .i64)) (zs := [(.c (.int .i64 (0 : Int)))]) (n := a1.toNat) ⟨⟨rfl, tr⟩, tr⟩ i (rep_lt hi)⟩, tr, tr⟩ ?_
      refine thenQ_normal ?_
      refine AW.seq ?_
      refine AW.seq (AW.rA ⟨[(0, (vc (sl 1 (csI .i64) a0))), (1, (vc (.int .i64 a1))), (7, (.v (.one (.arr 1)))), (8, (.v (.one (.arr 2)))), (9, (.v (.one (.arr 3)))), (10, (vc (.int .i64 (0 : Int))))], [(1, (.arr false (List.replicate (a0.length : Int).toNat (default : Int)).length 1 (gl (csI .i64) (List.replicate (a0.length : Int).toNat (default : Int))))), (2, (.arr false (List.replicate (a0.length : Int).toNat (default : Bool)).length 1 (gl csB (List.replicate (a0.length : Int).toNat (default : Bool))))), (3, (.arr false (List.replicate a1.toNat (default : Int)).length 1 (gl (csI .i64) (List.replicate a1.toNat (default : Int)))))]⟩ (Tt ∧ Tt) [] [0, 1, 7, 8, 9, 10] [1, 2, 3] ⟨tr, tr⟩ (thenQ_normal ?_))
      refine AW.block ?_
      refine AW.loopQ (σ := Nat × Int × (List Int) × (List Bool) × (List Int)) (fun p => ⟨[(0, (vc (sl 1 (csI .i64) a0))), (1, (vc (.int .i64 a1))), (7, (.v (.one (.arr 1)))), (8, (.v (.one (.arr 2)))), (9, (.v (.one (.arr 3)))), (10, (vc (.int .i64 p.2.1)))], [(1, (.arr false p.2.2.1.length 1 (gl (csI .i64) p.2.2.1))), (2, (.arr false p.2.2.2.1.length 1 (gl csB p.2.2.2.1))), (3, (.arr false p.2.2.2.2.length 1 (gl (csI .i64) p.2.2.2.2)))]⟩) (fun p => spec_WorkersFor_l6 K a0 a1 p.1 p.2.1 p.2.2.1 p.2.2.2.1 p.2.2.2.2 = some o) (fun p => p.1) (K, (0 : Int), (List.replicate (a0.length : Int).toNat (default : Int)), (List.replicate (a0.length : Int).toNat (default : Bool)), (List.replicate a1.toNat (default : Int))) h ?_
      clear h
      rintro ⟨k, x21, x22, x23, x24⟩ h
      replace h : spec_WorkersFor_l6 K a0 a1 k x21 x22 x23 x24 = some o := h
      show AW _ _ (⟨[(0, (vc (sl 1 (csI .i64) a0))), (1, (vc (.int .i64 a1))), (7, (.v (.one (.arr 1)))), (8, (.v (.one (.arr 2)))), (9, (.v (.one (.arr 3)))), (10, (vc (.int .i64 x21)))], [(1, (.arr false x22.length 1 (gl (csI .i64) x22))), (2, (.arr false x23.length 1 (gl csB x23))), (3, (.arr false x24.length 1 (gl (csI .i64) x24)))]⟩ : St) _
      obtain _ | k := k
      · rw [spec_WorkersFor_l6] at h; cases h
      rw [spec_WorkersFor_l6] at h
      refine AW.seq ?_
      refine AW.seq (AW.rA ⟨[(0, (vc (sl 1 (csI .i64) a0))), (1, (vc (.int .i64 a1))), (7, (.v (.one (.arr 1)))), (8, (.v (.one (.arr 2)))), (9, (.v (.one (.arr 3)))), (10, (vc (.int .i64 x21))), (46, (vc (.bool (decide (x21 < (a0.length : Int))))))], [(1, (.arr false x22.length 1 (gl (csI .i64) x22))), (2, (.arr false x23.length 1 (gl csB x23))), (3, (.arr false x24.length 1 (gl (csI .i64) x24)))]⟩ (T4 Tt) [] [0, 1, 7, 8, 9, 10, 46] [1, 2, 3] ⟨tr, tr, tr, tr, tr⟩ (thenQ_normal ?_))
      rcases ite2_cases h with ⟨b25, h⟩ | ⟨b25, h⟩
      · refine AW.cond_t rfl b25 ?_
        refine AW.skip ?_
        refine thenQ_normal ?_
        refine AW.seq ?_
        refine AW.block ?_
        refine AW.seq (AW.rA ⟨[(0, (vc (sl 1 (csI .i64) a0))), (1, (vc (.int .i64 a1))), (7, (.v (.one (.arr 1)))), (8, (.v (.one (.arr 2)))), (9, (.v (.one (.arr 3)))), (10, (vc (.int .i64 x21))), (11, (vc (.int .i64 ((-1) : Int))))], [(1, (.arr false x22.length 1 (gl (csI .i64) x22))), (2, (.arr false x23.length 1 (gl csB x23))), (3, (.arr false x24.length 1 (gl (csI .i64) x24)))]⟩ (Tt ∧ Tt) [] [0, 1, 7, 8, 9, 10, 11] [1, 2, 3] ⟨tr, tr⟩ (thenQ_normal ?_))
        refine AW.seq ?_
        refine AW.seq (AW.rA ⟨[(0, (vc (sl 1 (csI .i64) a0))), (1, (vc (.int .i64 a1))), (7, (.v (.one (.arr 1)))), (8, (.v (.one (.arr 2)))), (9, (.v (.one (.arr 3)))), (10, (vc (.int .i64 x21))), (11, (vc (.int .i64 ((-1) : Int)))), (12, (vc (.int .i64 (0 : Int))))], [(1, (.arr false x22.length 1 (gl (csI .i64) x22))), (2, (.arr false x23.length 1 (gl csB x23))), (3, (.arr false x24.length 1 (gl (csI .i64) x24)))]⟩ (Tt ∧ Tt) [] [0, 1, 7, 8, 9, 10, 11, 12] [1, 2, 3] ⟨tr, tr⟩ (thenQ_normal ?_))
        obtain ⟨j39, e40, h⟩ := bind_some h
        refine AW.joinS (s2 := ⟨[(0, (vc (sl 1 (csI .i64) a0))), (1, (vc (.int .i64 a1))), (7, (.v (.one (.arr 1)))), (8, (.v (.one (.arr 2)))), (9, (.v (.one (.arr 3)))), (10, (vc (.int .i64 x21))), (11, (vc (.int .i64 j39)))], [(1, (.arr false x22.length 1 (gl (csI .i64) x22))), (2, (.arr false x23.length 1 (gl csB x23))), (3, (.arr false x24.length 1 (gl (csI .i64) x24)))]⟩) ?_ ?_
        · replace h := e40
          refine AW.block ?_
          refine AW.loopQ (σ := Nat × Int × Int) (fun p => ⟨[(0, (vc (sl 1 (csI .i64) a0))), (1, (vc (.int .i64 a1))), (7, (.v (.one (.arr 1)))), (8, (.v (.one (.arr 2)))), (9, (.v (.one (.arr 3)))), (10, (vc (.int .i64 x21))), (11, (vc (.int .i64 p.2.1))), (12, (vc (.int .i64 p.2.2)))], [(1, (.arr false x22.length 1 (gl (csI .i64) x22))), (2, (.arr false x23.length 1 (gl csB x23))), (3, (.arr false x24.length 1 (gl (csI .i64) x24)))]⟩) (fun p => spec_WorkersFor_l7 K a0 x23 p.1 p.2.1 p.2.2 = some j39) (fun p => p.1) (K, ((-1) : Int), (0 : Int)) h ?_
          clear h
          rintro ⟨k, x43, x44⟩ h
          replace h : spec_WorkersFor_l7 K a0 x23 k x43 x44 = some j39 := h
          show AW _ _ (⟨[(0, (vc (sl 1 (csI .i64) a0))), (1, (vc (.int .i64 a1))), (7, (.v (.one (.arr 1)))), (8, (.v (.one (.arr 2)))), (9, (.v (.one (.arr 3)))), (10, (vc (.int .i64 x21))), (11, (vc (.int .i64 x43))), (12, (vc (.int .i64 x44)))], [(1, (.arr false x22.length 1 (gl (csI .i64) x22))), (2, (.arr false x23.length 1 (gl csB x23))), (3, (.arr false x24.length 1 (gl (csI .i64) x24)))]⟩ : St) _
          obtain _ | k := k
          · rw [spec_WorkersFor_l7] at h; cases h
          rw [spec_WorkersFor_l7] at h
          refine AW.seq ?_
          refine AW.seq (AW.rA ⟨[(0, (vc (sl 1 (csI .i64) a0))), (1, (vc (.int .i64 a1))), (7, (.v (.one (.arr 1)))), (8, (.v (.one (.arr 2)))), (9, (.v (.one (.arr 3)))), (10, (vc (.int .i64 x21))), (11, (vc (.int .i64 x43))), (12, (vc (.int .i64 x44))), (52, (vc (.bool (decide (x44 < (a0.length : Int))))))], [(1, (.arr false x22.length 1 (gl (csI .i64) x22))), (2, (.arr false x23.length 1 (gl csB x23))), (3, (.arr false x24.length 1 (gl (csI .i64) x24)))]⟩ (T4 Tt) [] [0, 1, 7, 8, 9, 10, 11, 12, 52] [1, 2, 3] ⟨tr, tr, tr, tr, tr⟩ (thenQ_normal ?_))
          rcases ite2_cases h with ⟨b45, h⟩ | ⟨b45, h⟩
          · refine AW.cond_t rfl b45 ?_
            refine AW.skip ?_
            refine thenQ_normal ?_
            refine AW.seq ?_
            refine AW.block ?_
            refine AW.seq ?_
            obtain ⟨c46, h⟩ := chk_some h
            obtain ⟨j51, e52, h⟩ := bind_some h
            refine AW.join1 (s2 := ⟨[(0, (vc (sl 1 (csI .i64) a0))), (1, (vc (.int .i64 a1))), (7, (.v (.one (.arr 1)))), (8, (.v (.one (.arr 2)))), (9, (.v (.one (.arr 3)))), (10, (vc (.int .i64 x21))), (11, (vc (.int .i64 x43))), (12, (vc (.int .i64 x44))), (74, (vc (.bool j51)))], [(1, (.arr false x22.length 1 (gl (csI .i64) x22))), (2, (.arr false x23.length 1 (gl csB x23))), (3, (.arr false x24.length 1 (gl (csI .i64) x24)))]⟩) ?_ ?_
            · rcases ite2_cases e52 with ⟨b47, e52⟩ | ⟨b47, e52⟩
              · rcases ite2_cases e52 with ⟨b48, e52⟩ | ⟨b48, e52⟩
                · replace e52 := some_eq e52
                  subst e52
                  exact AW.dA ⟨[(0, (vc (sl 1 (csI .i64) a0))), (1, (vc (.int .i64 a1))), (7, (.v (.one (.arr 1)))), (8, (.v (.one (.arr 2)))), (9, (.v (.one (.arr 3)))), (10, (vc (.int .i64 x21))), (11, (vc (.int .i64 x43))), (12, (vc (.int .i64 x44))), (74, (vc (.bool true)))], [(1, (.arr false x22.length 1 (gl (csI .i64) x22))), (2, (.arr false x23.length 1 (gl csB x23))), (3, (.arr false x24.length 1 (gl (csI .i64) x24)))]⟩ ((T2 ((0 ≤ x44 ∧ x44 < (x23.length : Int)) ∧ T2 ((Tt ∧ (!(x23.getD x44.toNat default)) = true) ∧ T2 ((Tt ∧ (decide (x43 < (0 : Int))) = true) ∧ Tt ∧ T2 (T4 (T4 Tt)))))) ∧ (Tt)) 20 [.no, .no, .no, .no, .no, .dec true, .no, .no, .dec true] [0, 1, 7, 8, 9, 10, 11, 12, 74] [1, 2, 3] ⟨⟨tr, tr, c46, tr, tr, ⟨tr, b47⟩, tr, tr, ⟨tr, b48⟩, tr, tr, tr, tr, tr, tr, tr, tr, tr, tr, tr, tr⟩, tr⟩ ⟨rfl, rfl⟩
                · obtain ⟨c49, e52⟩ := chk_some e52
                  obtain ⟨c50, e52⟩ := chk_some e52
                  replace e52 := some_eq e52
                  subst e52
                  exact AW.dA ⟨[(0, (vc (sl 1 (csI .i64) a0))), (1, (vc (.int .i64 a1))), (7, (.v (.one (.arr 1)))), (8, (.v (.one (.arr 2)))), (9, (.v (.one (.arr 3)))), (10, (vc (.int .i64 x21))), (11, (vc (.int .i64 x43))), (12, (vc (.int .i64 x44))), (74, (vc (.bool (decide ((a0.getD x44.toNat default) > (a0.getD x43.toNat default))))))], [(1, (.arr false x22.length 1 (gl (csI .i64) x22))), (2, (.arr false x23.length 1 (gl csB x23))), (3, (.arr false x24.length 1 (gl (csI .i64) x24)))]⟩ ((T2 ((0 ≤ x44 ∧ x44 < (x23.length : Int)) ∧ T2 ((Tt ∧ (!(x23.getD x44.toNat default)) = true) ∧ T2 ((Tt ∧ (decide (x43 < (0 : Int))) = false) ∧ T2 ((0 ≤ x44 ∧ x44 < (a0.length : Int)) ∧ Tt ∧ T2 ((0 ≤ x43 ∧ x43 < (a0.length : Int)) ∧ T4 Tt)))))) ∧ (Tt)) 20 [.no, .no, .no, .no, .no, .dec true, .no, .no, .dec false] [0, 1, 7, 8, 9, 10, 11, 12, 74] [1, 2, 3] ⟨⟨tr, tr, c46, tr, tr, ⟨tr, b47⟩, tr, tr, ⟨tr, b48⟩, tr, tr, c49, tr, tr, tr, c50, tr, tr, tr, tr, tr⟩, tr⟩ ⟨rfl, rfl⟩
              · replace e52 := some_eq e52
                subst e52
                exact AW.dA ⟨[(0, (vc (sl 1 (csI .i64) a0))), (1, (vc (.int .i64 a1))), (7, (.v (.one (.arr 1)))), (8, (.v (.one (.arr 2)))), (9, (.v (.one (.arr 3)))), (10, (vc (.int .i64 x21))), (11, (vc (.int .i64 x43))), (12, (vc (.int .i64 x44))), (74, (vc (.bool false)))], [(1, (.arr false x22.length 1 (gl (csI .i64) x22))), (2, (.arr false x23.length 1 (gl csB x23))), (3, (.arr false x24.length 1 (gl (csI .i64) x24)))]⟩ ((T2 ((0 ≤ x44 ∧ x44 < (x23.length : Int)) ∧ T2 ((Tt ∧ (!(x23.getD x44.toNat default)) = false) ∧ T2 (T4 (T4 (T4 Tt)))))) ∧ (Tt)) 20 [.no, .no, .no, .no, .no, .dec false] [0, 1, 7, 8, 9, 10, 11, 12, 74] [1, 2, 3] ⟨⟨tr, tr, c46, tr, tr, ⟨tr, b47⟩, tr, tr, tr, tr, tr, tr, tr, tr, tr, tr, tr, tr, tr, tr, tr⟩, tr⟩ ⟨rfl, rfl⟩
            refine thenQ_normal ?_
            rcases ite2_cases h with ⟨b53, h⟩ | ⟨b53, h⟩
            · refine AW.cond_t rfl b53 ?_
              refine AW.rA ⟨[(0, (vc (sl 1 (csI .i64) a0))), (1, (vc (.int .i64 a1))), (7, (.v (.one (.arr 1)))), (8, (.v (.one (.arr 2)))), (9, (.v (.one (.arr 3)))), (10, (vc (.int .i64 x21))), (11, (vc (.int .i64 x44))), (12, (vc (.int .i64 x44)))], [(1, (.arr false x22.length 1 (gl (csI .i64) x22))), (2, (.arr false x23.length 1 (gl csB x23))), (3, (.arr false x24.length 1 (gl (csI .i64) x24)))]⟩ (T2 Tt) [] [0, 1, 7, 8, 9, 10, 11, 12] [1, 2, 3] ⟨tr, tr, tr⟩ ?_
              refine blockQ_normal ?_
              refine thenQ_normal ?_
              refine AW.rA ⟨[(0, (vc (sl 1 (csI .i64) a0))), (1, (vc (.int .i64 a1))), (7, (.v (.one (.arr 1)))), (8, (.v (.one (.arr 2)))), (9, (.v (.one (.arr 3)))), (10, (vc (.int .i64 x21))), (11, (vc (.int .i64 x44))), (12, (vc (.int .i64 (IntKind.i64.wrap (x44 + (1 : Int))))))], [(1, (.arr false x22.length 1 (gl (csI .i64) x22))), (2, (.arr false x23.length 1 (gl csB x23))), (3, (.arr false x24.length 1 (gl (csI .i64) x24)))]⟩ (Tt ∧ T2 Tt) [] [0, 1, 7, 8, 9, 10, 11, 12] [1, 2, 3] ⟨tr, tr, tr, tr⟩ ?_
              exact loopQ_normal (k, x44, (IntKind.i64.wrap (x44 + (1 : Int)))) h (Nat.lt_succ_self k) (Sub.keep [0, 1, 7, 8, 9, 10, 11, 12] [1, 2, 3] (by kernel_rfl) (by kernel_rfl))
            · refine AW.cond_f rfl b53 ?_
              refine AW.skip ?_
              refine blockQ_normal ?_
              refine thenQ_normal ?_
              refine AW.rA ⟨[(0, (vc (sl 1 (csI .i64) a0))), (1, (vc (.int .i64 a1))), (7, (.v (.one (.arr 1)))), (8, (.v (.one (.arr 2)))), (9, (.v (.one (.arr 3)))), (10, (vc (.int .i64 x21))), (11, (vc (.int .i64 x43))), (12, (vc (.int .i64 (IntKind.i64.wrap (x44 + (1 : Int))))))], [(1, (.arr false x22.length 1 (gl (csI .i64) x22))), (2, (.arr false x23.length 1 (gl csB x23))), (3, (.arr false x24.length 1 (gl (csI .i64) x24)))]⟩ (Tt ∧ T2 Tt) [] [0, 1, 7, 8, 9, 10, 11, 12] [1, 2, 3] ⟨tr, tr, tr, tr⟩ ?_
              exact loopQ_normal (k, x43, (IntKind.i64.wrap (x44 + (1 : Int)))) h (Nat.lt_succ_self k) (Sub.keep [0, 1, 7, 8, 9, 10, 11, 12] [1, 2, 3] (by kernel_rfl) (by kernel_rfl))
          · refine AW.cond_f rfl b45 ?_
            refine AW.exit ?_
            refine thenQ_exit ?_
            refine loopQ_exit ?_
            refine blockQ_exit ?_
            replace h := some_eq h
            subst h
            exact ⟨rfl, Sub.keep [0, 1, 7, 8, 9, 10, 11] [1, 2, 3] (by kernel_rfl) (by kernel_rfl)⟩
        refine thenQ_normal ?_
        refine AW.seq ?_
        obtain ⟨c54, h⟩ := chk_some h
        refine AW.rA ⟨[(0, (vc (sl 1 (csI .i64) a0))), (1, (vc (.int .i64 a1))), (7, (.v (.one (.arr 1)))), (8, (.v (.one (.arr 2)))), (9, (.v (.one (.arr 3)))), (10, (vc (.int .i64 x21))), (11, (vc (.int .i64 j39)))], [(1, (.arr false x22.length 1 (gl (csI .i64) x22))), (2, (.arr false (x23.set j39.toNat true).length 1 (gl csB (x23.set j39.toNat true)))), (3, (.arr false x24.length 1 (gl (csI .i64) x24)))]⟩ (T2 ((0 ≤ j39 ∧ j39 < (x23.length : Int)) ∧ ((x23.set j39.toNat true).length = x23.length ∧ SetOb x23.length 1 j39.toNat 0 1 (gl csB x23) (gl csB (x23.set j39.toNat true)) ∧ ((List.range 1).map fun j => (csB true).getD (0 + j) .nilptr) = ((List.range 1).map fun j => gl csB (x23.set j39.toNat true) j39.toNat (0 + j)) ∧ ((((.bool true) : C) = (.bool true) ∧ Tt) ∧ Tt) ∧ (false = true → ∀ j, j < 1 → isSeq (gl csB x23 j39.toNat (0 + j)) = false ∧ isSeq (gl csB (x23.set j39.toNat true) j39.toNat (0 + j)) = false)) ∧ Tt)) [.no, .no, .no, .set (x23.set j39.toNat true).length (gl csB (x23.set j39.toNat true)) ((List.range 1).map fun j => (csB true).getD (0 + j) .nilptr)] [0, 1, 7, 8, 9, 10, 11] [1, 2, 3] ⟨tr, tr, c54, ⟨List.length_set, gl_set, (gl_atp (lt_of_bound c54)).symm, ⟨⟨rfl, tr⟩, tr⟩, (fun h => nomatch h)⟩, tr⟩ ?_
        refine thenQ_normal ?_
        refine AW.seq (AW.rA ⟨[(0, (vc (sl 1 (csI .i64) a0))), (1, (vc (.int .i64 a1))), (7, (.v (.one (.arr 1)))), (8, (.v (.one (.arr 2)))), (9, (.v (.one (.arr 3)))), (10, (vc (.int .i64 x21))), (11, (vc (.int .i64 j39))), (13, (vc (.int .i64 (0 : Int))))], [(1, (.arr false x22.length 1 (gl (csI .i64) x22))), (2, (.arr false (x23.set j39.toNat true).length 1 (gl csB (x23.set j39.toNat true)))), (3, (.arr false x24.length 1 (gl (csI .i64) x24)))]⟩ (Tt ∧ Tt) [] [0, 1, 7, 8, 9, 10, 11, 13] [1, 2, 3] ⟨tr, tr⟩ (thenQ_normal ?_))
        refine AW.seq ?_
        refine AW.seq (AW.rA ⟨[(0, (vc (sl 1 (csI .i64) a0))), (1, (vc (.int .i64 a1))), (7, (.v (.one (.arr 1)))), (8, (.v (.one (.arr 2)))), (9, (.v (.one (.arr 3)))), (10, (vc (.int .i64 x21))), (11, (vc (.int .i64 j39))), (13, (vc (.int .i64 (0 : Int)))), (14, (vc (.int .i64 (1 : Int))))], [(1, (.arr false x22.length 1 (gl (csI .i64) x22))), (2, (.arr false (x23.set j39.toNat true).length 1 (gl csB (x23.set j39.toNat true)))), (3, (.arr false x24.length 1 (gl (csI .i64) x24)))]⟩ (Tt ∧ Tt) [] [0, 1, 7, 8, 9, 10, 11, 13, 14] [1, 2, 3] ⟨tr, tr⟩ (thenQ_normal ?_))
        obtain ⟨j63, e64, h⟩ := bind_some h
        refine AW.joinS (s2 := ⟨[(0, (vc (sl 1 (csI .i64) a0))), (1, (vc (.int .i64 a1))), (7, (.v (.one (.arr 1)))), (8, (.v (.one (.arr 2)))), (9, (.v (.one (.arr 3)))), (10, (vc (.int .i64 x21))), (11, (vc (.int .i64 j39))), (13, (vc (.int .i64 j63)))], [(1, (.arr false x22.length 1 (gl (csI .i64) x22))), (2, (.arr false (x23.set j39.toNat true).length 1 (gl csB (x23.set j39.toNat true)))), (3, (.arr false x24.length 1 (gl (csI .i64) x24)))]⟩) ?_ ?_
        · replace h := e64
          refine AW.block ?_
          refine AW.loopQ (σ := Nat × Int × Int) (fun p => ⟨[(0, (vc (sl 1 (csI .i64) a0))), (1, (vc (.int .i64 a1))), (7, (.v (.one (.arr 1)))), (8, (.v (.one (.arr 2)))), (9, (.v (.one (.arr 3)))), (10, (vc (.int .i64 x21))), (11, (vc (.int .i64 j39))), (13, (vc (.int .i64 p.2.1))), (14, (vc (.int .i64 p.2.2)))], [(1, (.arr false x22.length 1 (gl (csI .i64) x22))), (2, (.arr false (x23.set j39.toNat true).length 1 (gl csB (x23.set j39.toNat true)))), (3, (.arr false x24.length 1 (gl (csI .i64) x24)))]⟩) (fun p => spec_WorkersFor_l8 K a1 x24 p.1 p.2.1 p.2.2 = some j63) (fun p => p.1) (K, (0 : Int), (1 : Int)) h ?_
          clear h
          rintro ⟨k, x67, x68⟩ h
          replace h : spec_WorkersFor_l8 K a1 x24 k x67 x68 = some j63 := h
          show AW _ _ (⟨[(0, (vc (sl 1 (csI .i64) a0))), (1, (vc (.int .i64 a1))), (7, (.v (.one (.arr 1)))), (8, (.v (.one (.arr 2)))), (9, (.v (.one (.arr 3)))), (10, (vc (.int .i64 x21))), (11, (vc (.int .i64 j39))), (13, (vc (.int .i64 x67))), (14, (vc (.int .i64 x68)))], [(1, (.arr false x22.length 1 (gl (csI .i64) x22))), (2, (.arr false (x23.set j39.toNat true).length 1 (gl csB (x23.set j39.toNat true)))), (3, (.arr false x24.length 1 (gl (csI .i64) x24)))]⟩ : St) _
          obtain _ | k := k
          · rw [spec_WorkersFor_l8] at h; cases h
          rw [spec_WorkersFor_l8] at h
          refine AW.seq ?_
          refine AW.seq (AW.rA ⟨[(0, (vc (sl 1 (csI .i64) a0))), (1, (vc (.int .i64 a1))), (7, (.v (.one (.arr 1)))), (8, (.v (.one (.arr 2)))), (9, (.v (.one (.arr 3)))), (10, (vc (.int .i64 x21))), (11, (vc (.int .i64 j39))), (13, (vc (.int .i64 x67))), (14, (vc (.int .i64 x68))), (81, (vc (.bool (decide (x68 < a1)))))], [(1, (.arr false x22.length 1 (gl (csI .i64) x22))), (2, (.arr false (x23.set j39.toNat true).length 1 (gl csB (x23.set j39.toNat true)))), (3, (.arr false x24.length 1 (gl (csI .i64) x24)))]⟩ (Tt ∧ T2 Tt) [] [0, 1, 7, 8, 9, 10, 11, 13, 14, 81] [1, 2, 3] ⟨tr, tr, tr, tr⟩ (thenQ_normal ?_))
          rcases ite2_cases h with ⟨b69, h⟩ | ⟨b69, h⟩
          · refine AW.cond_t rfl b69 ?_
            refine AW.skip ?_
            refine thenQ_normal ?_
            refine AW.seq ?_
            refine AW.block ?_
            refine AW.seq ?_
            obtain ⟨c70, h⟩ := chk_some h
            obtain ⟨c71, h⟩ := chk_some h
            refine AW.dA ⟨[(0, (vc (sl 1 (csI .i64) a0))), (1, (vc (.int .i64 a1))), (7, (.v (.one (.arr 1)))), (8, (.v (.one (.arr 2)))), (9, (.v (.one (.arr 3)))), (10, (vc (.int .i64 x21))), (11, (vc (.int .i64 j39))), (13, (vc (.int .i64 x67))), (14, (vc (.int .i64 x68))), (92, (vc (.bool (decide ((x24.getD x68.toNat default) < (x24.getD x67.toNat default))))))], [(1, (.arr false x22.length 1 (gl (csI .i64) x22))), (2, (.arr false (x23.set j39.toNat true).length 1 (gl csB (x23.set j39.toNat true)))), (3, (.arr false x24.length 1 (gl (csI .i64) x24)))]⟩ ((T2 ((0 ≤ x68 ∧ x68 < (x24.length : Int)) ∧ Tt ∧ T2 ((0 ≤ x67 ∧ x67 < (x24.length : Int)) ∧ T2 Tt))) ∧ (Tt)) 9 [] [0, 1, 7, 8, 9, 10, 11, 13, 14, 92] [1, 2, 3] ⟨⟨tr, tr, c70, tr, tr, tr, c71, tr, tr, tr⟩, tr⟩ ?_
            refine thenQ_normal ?_
            rcases ite2_cases h with ⟨b72, h⟩ | ⟨b72, h⟩
            · refine AW.cond_t rfl b72 ?_
              refine AW.rA ⟨[(0, (vc (sl 1 (csI .i64) a0))), (1, (vc (.int .i64 a1))), (7, (.v (.one (.arr 1)))), (8, (.v (.one (.arr 2)))), (9, (.v (.one (.arr 3)))), (10, (vc (.int .i64 x21))), (11, (vc (.int .i64 j39))), (13, (vc (.int .i64 x68))), (14, (vc (.int .i64 x68)))], [(1, (.arr false x22.length 1 (gl (csI .i64) x22))), (2, (.arr false (x23.set j39.toNat true).length 1 (gl csB (x23.set j39.toNat true)))), (3, (.arr false x24.length 1 (gl (csI .i64) x24)))]⟩ (T2 Tt) [] [0, 1, 7, 8, 9, 10, 11, 13, 14] [1, 2, 3] ⟨tr, tr, tr⟩ ?_
              refine blockQ_normal ?_
              refine thenQ_normal ?_
              refine AW.rA ⟨[(0, (vc (sl 1 (csI .i64) a0))), (1, (vc (.int .i64 a1))), (7, (.v (.one (.arr 1)))), (8, (.v (.one (.arr 2)))), (9, (.v (.one (.arr 3)))), (10, (vc (.int .i64 x21))), (11, (vc (.int .i64 j39))), (13, (vc (.int .i64 x68))), (14, (vc (.int .i64 (IntKind.i64.wrap (x68 + (1 : Int))))))], [(1, (.arr false x22.length 1 (gl (csI .i64) x22))), (2, (.arr false (x23.set j39.toNat true).length 1 (gl csB (x23.set j39.toNat true)))), (3, (.arr false x24.length 1 (gl (csI .i64) x24)))]⟩ (Tt ∧ T2 Tt) [] [0, 1, 7, 8, 9, 10, 11, 13, 14] [1, 2, 3] ⟨tr, tr, tr, tr⟩ ?_
              exact loopQ_normal (k, x68, (IntKind.i64.wrap (x68 + (1 : Int)))) h (Nat.lt_succ_self k) (Sub.keep [0, 1, 7, 8, 9, 10, 11, 13, 14] [1, 2, 3] (by kernel_rfl) (by kernel_rfl))
            · refine AW.cond_f rfl b72 ?_
              refine AW.skip ?_
              refine blockQ_normal ?_
              refine thenQ_normal ?_
              refine AW.rA ⟨[(0, (vc (sl 1 (csI .i64) a0))), (1, (vc (.int .i64 a1))), (7, (.v (.one (.arr 1)))), (8, (.v (.one (.arr 2)))), (9, (.v (.one (.arr 3)))), (10, (vc (.int .i64 x21))), (11, (vc (.int .i64 j39))), (13, (vc (.int .i64 x67))), (14, (vc (.int .i64 (IntKind.i64.wrap (x68 + (1 : Int))))))], [(1, (.arr false x22.length 1 (gl (csI .i64) x22))), (2, (.arr false (x23.set j39.toNat true).length 1 (gl csB (x23.set j39.toNat true)))), (3, (.arr false x24.length 1 (gl (csI .i64) x24)))]⟩ (Tt ∧ T2 Tt) [] [0, 1, 7, 8, 9, 10, 11, 13, 14] [1, 2, 3] ⟨tr, tr, tr, tr⟩ ?_
              exact loopQ_normal (k, x67, (IntKind.i64.wrap (x68 + (1 : Int)))) h (Nat.lt_succ_self k) (Sub.keep [0, 1, 7, 8, 9, 10, 11, 13, 14] [1, 2, 3] (by kernel_rfl) (by kernel_rfl))
          · refine AW.cond_f rfl b69 ?_
            refine AW.exit ?_
            refine thenQ_exit ?_
            refine loopQ_exit ?_
            refine blockQ_exit ?_
            replace h := some_eq h
            subst h
            exact ⟨rfl, Sub.keep [0, 1, 7, 8, 9, 10, 11, 13] [1, 2, 3] (by kernel_rfl) (by kernel_rfl)⟩
        refine thenQ_normal ?_
        refine AW.seq ?_
        obtain ⟨c73, h⟩ := chk_some h
        refine AW.rA ⟨[(0, (vc (sl 1 (csI .i64) a0))), (1, (vc (.int .i64 a1))), (7, (.v (.one (.arr 1)))), (8, (.v (.one (.arr 2)))), (9, (.v (.one (.arr 3)))), (10, (vc (.int .i64 x21))), (11, (vc (.int .i64 j39))), (13, (vc (.int .i64 j63)))], [(1, (.arr false (x22.set j39.toNat j63).length 1 (gl (csI .i64) (x22.set j39.toNat j63)))), (2, (.arr false (x23.set j39.toNat true).length 1 (gl csB (x23.set j39.toNat true)))), (3, (.arr false x24.length 1 (gl (csI .i64) x24)))]⟩ (Tt ∧ T2 ((0 ≤ j39 ∧ j39 < (x22.length : Int)) ∧ ((x22.set j39.toNat j63).length = x22.length ∧ SetOb x22.length 1 j39.toNat 0 1 (gl (csI .i64) x22) (gl (csI .i64) (x22.set j39.toNat j63)) ∧ ((List.range 1).map fun j => ((csI .i64) j63).getD (0 + j) .nilptr) = ((List.range 1).map fun j => gl (csI .i64) (x22.set j39.toNat j63) j39.toNat (0 + j)) ∧ ((((.int .i64 j63) : C) = (.int .i64 j63) ∧ Tt) ∧ Tt) ∧ (false = true → ∀ j, j < 1 → isSeq (gl (csI .i64) x22 j39.toNat (0 + j)) = false ∧ isSeq (gl (csI .i64) (x22.set j39.toNat j63) j39.toNat (0 + j)) = false)) ∧ Tt)) [.no, .no, .no, .no, .set (x22.set j39.toNat j63).length (gl (csI .i64) (x22.set j39.toNat j63)) ((List.range 1).map fun j => ((csI .i64) j63).getD (0 + j) .nilptr)] [0, 1, 7, 8, 9, 10, 11, 13] [1, 2, 3] ⟨tr, tr, tr, c73, ⟨List.length_set, gl_set, (gl_atp (lt_of_bound c73)).symm, ⟨⟨rfl, tr⟩, tr⟩, (fun h => nomatch h)⟩, tr⟩ ?_
        refine thenQ_normal ?_
        obtain ⟨c74, h⟩ := chk_some h
        obtain ⟨c75, h⟩ := chk_some h
        refine AW.dA ⟨[(0, (vc (sl 1 (csI .i64) a0))), (1, (vc (.int .i64 a1))), (7, (.v (.one (.arr 1)))), (8, (.v (.one (.arr 2)))), (9, (.v (.one (.arr 3)))), (10, (vc (.int .i64 x21)))], [(1, (.arr false (x22.set j39.toNat j63).length 1 (gl (csI .i64) (x22.set j39.toNat j63)))), (2, (.arr false (x23.set j39.toNat true).length 1 (gl csB (x23.set j39.toNat true)))), (3, (.arr false (x24.set j63.toNat (IntKind.i64.wrap ((x24.getD j63.toNat default) + (a0.getD j39.toNat default)))).length 1 (gl (csI .i64) (x24.set j63.toNat (IntKind.i64.wrap ((x24.getD j63.toNat default) + (a0.getD j39.toNat default)))))))]⟩ ((T2 ((0 ≤ j63 ∧ j63 < (x24.length : Int)) ∧ Tt ∧ T2 ((0 ≤ j39 ∧ j39 < (a0.length : Int)) ∧ T2 ((0 ≤ j63 ∧ j63 < (x24.length : Int)) ∧ Tt)))) ∧ (((x24.set j63.toNat (IntKind.i64.wrap ((x24.getD j63.toNat default) + (a0.getD j39.toNat default)))).length = x24.length ∧ SetOb x24.length 1 j63.toNat 0 1 (gl (csI .i64) x24) (gl (csI .i64) (x24.set j63.toNat (IntKind.i64.wrap ((x24.getD j63.toNat default) + (a0.getD j39.toNat default))))) ∧ ((List.range 1).map fun j => ((csI .i64) (IntKind.i64.wrap ((x24.getD j63.toNat default) + (a0.getD j39.toNat default)))).getD (0 + j) .nilptr) = ((List.range 1).map fun j => gl (csI .i64) (x24.set j63.toNat (IntKind.i64.wrap ((x24.getD j63.toNat default) + (a0.getD j39.toNat default)))) j63.toNat (0 + j)) ∧ ((((.int .i64 (IntKind.i64.wrap ((x24.getD j63.toNat default) + (a0.getD j39.toNat default)))) : C) = (.int .i64 (IntKind.i64.wrap ((x24.getD j63.toNat default) + (a0.getD j39.toNat default)))) ∧ Tt) ∧ Tt) ∧ (false = true → ∀ j, j < 1 → isSeq (gl (csI .i64) x24 j63.toNat (0 + j)) = false ∧ isSeq (gl (csI .i64) (x24.set j63.toNat (IntKind.i64.wrap ((x24.getD j63.toNat default) + (a0.getD j39.toNat default)))) j63.toNat (0 + j)) = false)) ∧ Tt)) 10 [.no, .no, .no, .no, .no, .no, .no, .no, .no, .no, .set (x24.set j63.toNat (IntKind.i64.wrap ((x24.getD j63.toNat default) + (a0.getD j39.toNat default)))).length (gl (csI .i64) (x24.set j63.toNat (IntKind.i64.wrap ((x24.getD j63.toNat default) + (a0.getD j39.toNat default))))) ((List.range 1).map fun j => ((csI .i64) (IntKind.i64.wrap ((x24.getD j63.toNat default) + (a0.getD j39.toNat default)))).getD (0 + j) .nilptr)] [0, 1, 7, 8, 9, 10] [1, 2, 3] ⟨⟨tr, tr, c74, tr, tr, tr, c75, tr, tr, c74, tr⟩, ⟨⟨List.length_set, gl_set, (gl_atp (lt_of_bound c74)).symm, ⟨⟨rfl, tr⟩, tr⟩, (fun h => nomatch h)⟩, tr⟩⟩ ?_
        refine blockQ_normal ?_
        refine thenQ_normal ?_
        refine AW.rA ⟨[(0, (vc (sl 1 (csI .i64) a0))), (1, (vc (.int .i64 a1))), (7, (.v (.one (.arr 1)))), (8, (.v (.one (.arr 2)))), (9, (.v (.one (.arr 3)))), (10, (vc (.int .i64 (IntKind.i64.wrap (x21 + (1 : Int))))))], [(1, (.arr false (x22.set j39.toNat j63).length 1 (gl (csI .i64) (x22.set j39.toNat j63)))), (2, (.arr false (x23.set j39.toNat true).length 1 (gl csB (x23.set j39.toNat true)))), (3, (.arr false (x24.set j63.toNat (IntKind.i64.wrap ((x24.getD j63.toNat default) + (a0.getD j39.toNat default)))).length 1 (gl (csI .i64) (x24.set j63.toNat (IntKind.i64.wrap ((x24.getD j63.toNat default) + (a0.getD j39.toNat default)))))))]⟩ (Tt ∧ T2 Tt) [] [0, 1, 7, 8, 9, 10] [1, 2, 3] ⟨tr, tr, tr, tr⟩ ?_
        exact loopQ_normal (k, (IntKind.i64.wrap (x21 + (1 : Int))), (x22.set j39.toNat j63), (x23.set j39.toNat true), (x24.set j63.toNat (IntKind.i64.wrap ((x24.getD j63.toNat default) + (a0.getD j39.toNat default))))) h (Nat.lt_succ_self k) (Sub.keep [0, 1, 7, 8, 9, 10] [1, 2, 3] (by kernel_rfl) (by kernel_rfl))
      · refine AW.cond_f rfl b25 ?_
        refine AW.exit ?_
        refine thenQ_exit ?_
        refine loopQ_exit ?_
        refine blockQ_exit ?_
        refine thenQ_normal ?_
        refine AW.seq (AW.rA ⟨[(4, (.v (.one (.arr 1)))), (5, (vc (.bool true)))], [(1, (.arr false x22.length 1 (gl (csI .i64) x22)))]⟩ (Tt ∧ T2 Tt) [] [4, 5] [1] ⟨tr, tr, tr, tr⟩ (thenQ_normal ?_))
        refine AW.ret ?_
        replace h := some_eq h
        subst h
        exact ⟨.inr rfl, retOK_of [(.one (.arr 1)), (.one (.c (.bool true)))] (by kernel_rfl) ⟨rfl, ⟨rfl, tr⟩, tr⟩ (of_decide_eq_true (by kernel_rfl))⟩

/-! impl.areWorkers -/
def impl_areWorkers (_K : Nat) (a0 : Int) : Option (Bool) :=
  (ite2 ((decide (a0 ≥ (1 : Int)))) (some (decide (a0 ≤ (8 : Int)))) (some false)).bind fun j2 => some j2

theorem ok_impl_areWorkers (K : Nat) (a0 : Int) (o : (Bool)) (h : impl_areWorkers K a0 = some o) : CallOK Try.prog 11 [.one (.int .i64 a0)] [.one (.bool o)] := by
  refine callOK_of_AW Try.func11 rfl (by kernel_rfl) (Nat.le_of_ble_eq_true (by kernel_rfl)) ?_
  intro w0
  unfold impl_areWorkers at h
  refine AW.seq (AW.rA ⟨[(0, (vc (.int .i64 a0)))], []⟩ (Tt ∧ Tt) [] [0] [] ⟨tr, tr⟩ (thenQ_normal ?_))
  refine AW.seq ?_
  obtain ⟨j2, e3, h⟩ := bind_some h
  refine AW.join1 (s2 := ⟨[(2, (vc (.bool j2)))], []⟩) ?_ ?_
  · rcases ite2_cases e3 with ⟨b1, e3⟩ | ⟨b1, e3⟩
    · replace e3 := some_eq e3
      subst e3
      exact AW.rA ⟨[(2, (vc (.bool (decide (a0 ≤ (8 : Int))))))], []⟩ (T2 ((Tt ∧ (decide (a0 ≥ (1 : Int))) = true) ∧ T4 Tt)) [.no, .no, .dec true] [2] [] ⟨tr, tr, ⟨tr, b1⟩, tr, tr, tr, tr, tr⟩ ⟨rfl, rfl⟩
    · replace e3 := some_eq e3
      subst e3
      exact AW.rA ⟨[(2, (vc (.bool false)))], []⟩ (T2 ((Tt ∧ (decide (a0 ≥ (1 : Int))) = false) ∧ T4 Tt)) [.no, .no, .dec false] [2] [] ⟨tr, tr, ⟨tr, b1⟩, tr, tr, tr, tr, tr⟩ ⟨rfl, rfl⟩
  refine thenQ_normal ?_
  refine AW.ret ?_
  replace h := some_eq h
  subst h
  exact ⟨.inr rfl, retOK_of [(.one (.c (.bool j2)))] (by kernel_rfl) ⟨⟨rfl, tr⟩, tr⟩ (of_decide_eq_true (by kernel_rfl))⟩

/-! impl.WorkersFor$1 -/
def impl_WorkersFor_1 (_K : Nat) (a0 : Int) : Option (Bool) :=
  (ite2 ((decide (a0 < (0 : Int)))) (some true) (some (decide (a0 > (1000000 : Int))))).bind fun j2 => some j2

theorem ok_impl_WorkersFor_1 (K : Nat) (a0 : Int) (o : (Bool)) (h : impl_WorkersFor_1 K a0 = some o) : CallOK Try.prog 13 [.one (.int .i64 a0)] [.one (.bool o)] := by
  refine callOK_of_AW Try.func13 rfl (by kernel_rfl) (Nat.le_of_ble_eq_true (by kernel_rfl)) ?_
  intro w0
  unfold impl_WorkersFor_1 at h
  refine AW.seq (AW.rA ⟨[(0, (vc (.int .i64 a0)))], []⟩ (Tt ∧ Tt) [] [0] [] ⟨tr, tr⟩ (thenQ_normal ?_))
  refine AW.seq ?_
  obtain ⟨j2, e3, h⟩ := bind_some h
  refine AW.join1 (s2 := ⟨[(2, (vc (.bool j2)))], []⟩) ?_ ?_
  · rcases ite2_cases e3 with ⟨b1, e3⟩ | ⟨b1, e3⟩
    · replace e3 := some_eq e3
      subst e3
      exact AW.rA ⟨[(2, (vc (.bool true)))], []⟩ (T2 ((Tt ∧ (decide (a0 < (0 : Int))) = true) ∧ T4 Tt)) [.no, .no, .dec true] [2] [] ⟨tr, tr, ⟨tr, b1⟩, tr, tr, tr, tr, tr⟩ ⟨rfl, rfl⟩
    · replace e3 := some_eq e3
      subst e3
      exact AW.rA ⟨[(2, (vc (.bool (decide (a0 > (1000000 : Int))))))], []⟩ (T2 ((Tt ∧ (decide (a0 < (0 : Int))) = false) ∧ T4 Tt)) [.no, .no, .dec false] [2] [] ⟨tr, tr, ⟨tr, b1⟩, tr, tr, tr, tr, tr⟩ ⟨rfl, rfl⟩
  refine thenQ_normal ?_
  refine AW.ret ?_
  replace h := some_eq h
  subst h
  exact ⟨.inr rfl, retOK_of [(.one (.c (.bool j2)))] (by kernel_rfl) ⟨⟨rfl, tr⟩, tr⟩ (of_decide_eq_true (by kernel_rfl))⟩

/-! slices.IndexFunc[[]int64,int64] -/
def slices_IndexFunc_int64_int64_l1 (K : Nat) (a0 : (List Int)) : Nat → Int → Option (Int)
  | 0, _ => none
  | k + 1, x2 => ite2 ((decide (x2 < (a0.length : Int)))) (chk (0 ≤ x2 ∧ x2 < (a0.length : Int)) ((impl_WorkersFor_1 K (a0.getD x2.toNat default)).bind fun v5 => ite2 (v5) (some x2) (slices_IndexFunc_int64_int64_l1 K a0 k (IntKind.i64.wrap (x2 + (1 : Int)))))) (some ((-1) : Int))

def slices_IndexFunc_int64_int64 (K : Nat) (a0 : (List Int)) : Option (Int) :=
  slices_IndexFunc_int64_int64_l1 K a0 K (0 : Int)

theorem ok_slices_IndexFunc_int64_int64 (K : Nat) (a0 : (List Int)) (o : (Int)) (h : slices_IndexFunc_int64_int64 K a0 = some o) : CallOK Try.prog 18 [.one (sl 1 (csI .i64) a0), .one (.fn 13 0 fun _ => .nilptr)] [.one (.int .i64 o)] := by
  refine callOK_of_AW Try.func18 rfl (by kernel_rfl) (Nat.le_of_ble_eq_true (by kernel_rfl)) ?_
  intro w0
  unfold slices_IndexFunc_int64_int64 at h
  refine AW.seq (AW.rA ⟨[(0, (vc (sl 1 (csI .i64) a0))), (1, (vc (.fn 13 0 fun _ => .nilptr)))], []⟩ (Tt ∧ Tt) [] [0, 1] [] ⟨tr, tr⟩ (thenQ_normal ?_))
  refine AW.seq ?_
  refine AW.seq (AW.rA ⟨[(0, (vc (sl 1 (csI .i64) a0))), (1, (vc (.fn 13 0 fun _ => .nilptr))), (7, (vc (.int .i64 (a0.length : Int)))), (8, (vc (.int .i64 (0 : Int))))], []⟩ (Tt ∧ T2 Tt) [] [0, 1, 7, 8] [] ⟨tr, tr, tr, tr⟩ (thenQ_normal ?_))
  refine AW.block ?_
  refine AW.loopQ (σ := Nat × Int) (fun p => ⟨[(0, (vc (sl 1 (csI .i64) a0))), (1, (vc (.fn 13 0 fun _ => .nilptr))), (7, (vc (.int .i64 (a0.length : Int)))), (8, (vc (.int .i64 p.2)))], []⟩) (fun p => slices_IndexFunc_int64_int64_l1 K a0 p.1 p.2 = some o) (fun p => p.1) (K, (0 : Int)) h ?_
  clear h
  rintro ⟨k, x2⟩ h
  replace h : slices_IndexFunc_int64_int64_l1 K a0 k x2 = some o := h
  show AW _ _ (⟨[(0, (vc (sl 1 (csI .i64) a0))), (1, (vc (.fn 13 0 fun _ => .nilptr))), (7, (vc (.int .i64 (a0.length : Int)))), (8, (vc (.int .i64 x2)))], []⟩ : St) _
  obtain _ | k := k
  · rw [slices_IndexFunc_int64_int64_l1] at h; cases h
  rw [slices_IndexFunc_int64_int64_l1] at h
  refine AW.seq (AW.rA ⟨[(0, (vc (sl 1 (csI .i64) a0))), (1, (vc (.fn 13 0 fun _ => .nilptr))), (7, (vc (.int .i64 (a0.length : Int)))), (8, (vc (.int .i64 x2))), (9, (vc (.bool (decide (x2 < (a0.length : Int))))))], []⟩ (Tt ∧ Tt) [] [0, 1, 7, 8, 9] [] ⟨tr, tr⟩ (thenQ_normal ?_))
  refine AW.seq ?_
  rcases ite2_cases h with ⟨b3, h⟩ | ⟨b3, h⟩
  · refine AW.cond_t rfl b3 ?_
    refine AW.skip ?_
    refine thenQ_normal ?_
    refine AW.seq ?_
    refine AW.block ?_
    refine AW.seq (AW.rA ⟨[(0, (vc (sl 1 (csI .i64) a0))), (1, (vc (.fn 13 0 fun _ => .nilptr))), (5, (vc (.int .i64 x2))), (7, (vc (.int .i64 (a0.length : Int)))), (8, (vc (.int .i64 x2)))], []⟩ (T2 Tt) [] [0, 1, 5, 7, 8] [] ⟨tr, tr, tr⟩ (thenQ_normal ?_))
    refine AW.seq ?_
    obtain ⟨c4, h⟩ := chk_some h
    obtain ⟨v5, e6, h⟩ := bind_some h
    refine AW.rA ⟨[(0, (vc (sl 1 (csI .i64) a0))), (1, (vc (.fn 13 0 fun _ => .nilptr))), (5, (vc (.int .i64 x2))), (7, (vc (.int .i64 (a0.length : Int)))), (8, (vc (.int .i64 x2))), (16, (vc (.bool v5)))], []⟩ (Tt ∧ T2 ((0 ≤ x2 ∧ x2 < (a0.length : Int)) ∧ Tt ∧ (((Eqc (.int .i64 (a0.getD x2.toNat default))) ∧ Tt) ∧ CallOK Try.prog 13 [.one (.int .i64 (a0.getD x2.toNat default))] [.one (.bool v5)]) ∧ Tt)) [.no, .no, .no, .no, .no, .call [.one (.int .i64 (a0.getD x2.toNat default))] [.one (.bool v5)] [[.view]]] [0, 1, 5, 7, 8, 16] [] ⟨tr, tr, tr, c4, tr, ⟨⟨rfl, tr⟩, ok_impl_WorkersFor_1 K (a0.getD x2.toNat default) v5 e6⟩, tr⟩ ?_
    refine thenQ_normal ?_
    rcases ite2_cases h with ⟨b7, h⟩ | ⟨b7, h⟩
    · refine AW.cond_t rfl b7 ?_
      refine AW.seq (AW.rA ⟨[(4, (vc (.int .i64 x2)))], []⟩ (T2 Tt) [] [4] [] ⟨tr, tr, tr⟩ (thenQ_normal ?_))
      refine AW.ret ?_
      refine blockQ_ret ?_
      refine thenQ_ret ?_
      refine loopQ_ret ?_
      refine blockQ_ret ?_
      refine thenQ_ret ?_
      replace h := some_eq h
      subst h
      exact ⟨.inr rfl, retOK_of [(.one (.c (.int .i64 x2)))] (by kernel_rfl) ⟨⟨rfl, tr⟩, tr⟩ (of_decide_eq_true (by kernel_rfl))⟩
    · refine AW.cond_f rfl b7 ?_
      refine AW.skip ?_
      refine blockQ_normal ?_
      refine thenQ_normal ?_
      refine AW.rA ⟨[(0, (vc (sl 1 (csI .i64) a0))), (1, (vc (.fn 13 0 fun _ => .nilptr))), (7, (vc (.int .i64 (a0.length : Int)))), (8, (vc (.int .i64 (IntKind.i64.wrap (x2 + (1 : Int))))))], []⟩ (T2 Tt) [] [0, 1, 7, 8] [] ⟨tr, tr, tr⟩ ?_
      exact loopQ_normal (k, (IntKind.i64.wrap (x2 + (1 : Int)))) h (Nat.lt_succ_self k) (Sub.keep [0, 1, 7, 8] [] (by kernel_rfl) (by kernel_rfl))
  · refine AW.cond_f rfl b3 ?_
    refine AW.exit ?_
    refine thenQ_exit ?_
    refine loopQ_exit ?_
    refine blockQ_exit ?_
    refine thenQ_normal ?_
    refine AW.seq (AW.rA ⟨[(4, (vc (.int .i64 ((-1) : Int))))], []⟩ (Tt ∧ Tt) [] [4] [] ⟨tr, tr⟩ (thenQ_normal ?_))
    refine AW.ret ?_
    replace h := some_eq h
    subst h
    exact ⟨.inr rfl, retOK_of [(.one (.c (.int .i64 ((-1) : Int))))] (by kernel_rfl) ⟨⟨rfl, tr⟩, tr⟩ (of_decide_eq_true (by kernel_rfl))⟩

/-! slices.ContainsFunc[[]int64,int64] -/
def slices_ContainsFunc_int64_int64 (K : Nat) (a0 : (List Int)) : Option (Bool) :=
  (slices_IndexFunc_int64_int64 K a0).bind fun v1 => some (decide (v1 ≥ (0 : Int)))

theorem ok_slices_ContainsFunc_int64_int64 (K : Nat) (a0 : (List Int)) (o : (Bool)) (h : slices_ContainsFunc_int64_int64 K a0 = some o) : CallOK Try.prog 12 [.one (sl 1 (csI .i64) a0), .one (.fn 13 0 fun _ => .nilptr)] [.one (.bool o)] := by
  refine callOK_of_AW Try.func12 rfl (by kernel_rfl) (Nat.le_of_ble_eq_true (by kernel_rfl)) ?_
  intro w0
  unfold slices_ContainsFunc_int64_int64 at h
  refine AW.seq (AW.rA ⟨[(0, (vc (sl 1 (csI .i64) a0))), (1, (vc (.fn 13 0 fun _ => .nilptr)))], []⟩ (Tt ∧ Tt) [] [0, 1] [] ⟨tr, tr⟩ (thenQ_normal ?_))
  refine AW.seq ?_
  obtain ⟨v1, e2, h⟩ := bind_some h
  refine AW.rA ⟨[(4, (vc (.bool (decide (v1 ≥ (0 : Int))))))], []⟩ (T2 ((((Eqc (sl 1 (csI .i64) a0)) ∧ (Eqc (.fn 13 0 fun _ => .nilptr)) ∧ Tt) ∧ CallOK Try.prog 18 [.one (sl 1 (csI .i64) a0), .one (.fn 13 0 fun _ => .nilptr)] [.one (.int .i64 v1)]) ∧ T2 Tt)) [.no, .no, .call [.one (sl 1 (csI .i64) a0), .one (.fn 13 0 fun _ => .nilptr)] [.one (.int .i64 v1)] [[.view]]] [4] [] ⟨tr, tr, ⟨⟨rfl, rfl, tr⟩, ok_slices_IndexFunc_int64_int64 K a0 v1 e2⟩, tr, tr, tr⟩ ?_
  refine thenQ_normal ?_
  refine AW.ret ?_
  replace h := some_eq h
  subst h
  exact ⟨.inr rfl, retOK_of [(.one (.c (.bool (decide (v1 ≥ (0 : Int))))))] (by kernel_rfl) ⟨⟨rfl, tr⟩, tr⟩ (of_decide_eq_true (by kernel_rfl))⟩

/-! impl.WorkersFor$2 -/
def impl_WorkersFor_2 (_K : Nat) (a0 : Int) (a1 : Int) (a2 : (List Int)) : Option (Int) :=
  chk (0 ≤ a1 ∧ a1 < (a2.length : Int)) (chk (0 ≤ a0 ∧ a0 < (a2.length : Int)) (some (IntKind.i64.wrap ((a2.getD a1.toNat default) - (a2.getD a0.toNat default)))))

theorem ok_impl_WorkersFor_2 (K : Nat) (a0 : Int) (a1 : Int) (a2 : (List Int)) (o : (Int)) (h : impl_WorkersFor_2 K a0 a1 a2 = some o) : CallOK Try.prog 15 [.one (.int .i64 a0), .one (.int .i64 a1), .one (pl 1 (csL 1 (csI .i64)) a2)] [.one (.int .i64 o)] := by
  refine callOK_of_AW Try.func15 rfl (by kernel_rfl) (Nat.le_of_ble_eq_true (by kernel_rfl)) ?_
  intro w0
  unfold impl_WorkersFor_2 at h
  refine AW.seq (AW.rA ⟨[(0, (vc (.int .i64 a0))), (1, (vc (.int .i64 a1))), (2, (vc (pl 1 (csL 1 (csI .i64)) a2)))], []⟩ (Tt ∧ Tt) [] [0, 1, 2] [] ⟨tr, tr⟩ (thenQ_normal ?_))
  refine AW.seq ?_
  obtain ⟨c1, h⟩ := chk_some h
  obtain ⟨c2, h⟩ := chk_some h
  refine AW.dA ⟨[(5, (vc (.int .i64 (IntKind.i64.wrap ((a2.getD a1.toNat default) - (a2.getD a0.toNat default))))))], []⟩ ((T2 ((0 ≤ a1 ∧ a1 < (a2.length : Int)) ∧ Tt ∧ T2 ((0 ≤ a0 ∧ a0 < (a2.length : Int)) ∧ Tt ∧ T2 Tt))) ∧ (Tt)) 10 [] [5] [] ⟨⟨tr, tr, c1, tr, tr, tr, c2, tr, tr, tr, tr⟩, tr⟩ ?_
  refine thenQ_normal ?_
  refine AW.ret ?_
  replace h := some_eq h
  subst h
  exact ⟨.inr rfl, retOK_of [(.one (.c (.int .i64 (IntKind.i64.wrap ((a2.getD a1.toNat default) - (a2.getD a0.toNat default))))))] (by kernel_rfl) ⟨⟨rfl, tr⟩, tr⟩ (of_decide_eq_true (by kernel_rfl))⟩

/-! slices.insertionSortCmpFunc[int] -/
def Zt1 (Q0 Q1 Q2 Q3 : Prop) : Prop := (Tt ∧ (Q0 ∧ (Q1 ∧ (Q2 ∧ (Q3 ∧ Tt)))))
theorem zt1 {Q0 Q1 Q2 Q3 : Prop} (q0 : Q0) (q1 : Q1) (q2 : Q2) (q3 : Q3) : Zt1 Q0 Q1 Q2 Q3 := ⟨tr, ⟨q0, ⟨q1, ⟨q2, ⟨q3, tr⟩⟩⟩⟩⟩
def Zt2 (QE Q0 Q1 Q2 Q3 : Prop) : Prop := ((Tt ∧ (Zt1 Q0 Q1 Q2 Q3)) ∧ (Tt ∧ (Zt1 Q0 Q1 Q2 Q3)) ∧ QE)
theorem zt2 {QE Q0 Q1 Q2 Q3 : Prop} (qe : QE) (q0 : Q0) (q1 : Q1) (q2 : Q2) (q3 : Q3) : Zt2 QE Q0 Q1 Q2 Q3 := ⟨⟨tr, (zt1 q0 q1 q2 q3)⟩, ⟨tr, (zt1 q0 q1 q2 q3)⟩, qe⟩
def slices_insertionSortCmpFunc_int_l4 (K : Nat) (a1 : Int) (a3_0_0 : (List Int)) : Nat → Int → (List Int) → Option ((List Int))
  | 0, _, _ => none
  | k + 1, x24, x25 => (ite2 ((decide (x24 > a1))) (chk (0 ≤ x24 ∧ x24 < (x25.length : Int)) (chk (0 ≤ (IntKind.i64.wrap (x24 - (1 : Int))) ∧ (IntKind.i64.wrap (x24 - (1 : Int))) < (x25.length : Int)) ((impl_WorkersFor_2 K (x25.getD x24.toNat default) (x25.getD ((IntKind.i64.wrap (x24 - (1 : Int))).toNat) default) a3_0_0).bind fun v29 => some (decide (v29 < (0 : Int)))))) (some false)).bind fun j31 => ite2 (j31) (chk (0 ≤ (IntKind.i64.wrap (x24 - (1 : Int))) ∧ (IntKind.i64.wrap (x24 - (1 : Int))) < (x25.length : Int)) (chk (0 ≤ x24 ∧ x24 < (x25.length : Int)) (slices_insertionSortCmpFunc_int_l4 K a1 a3_0_0 k (IntKind.i64.wrap (x24 - (1 : Int))) ((x25.set x24.toNat (x25.getD ((IntKind.i64.wrap (x24 - (1 : Int))).toNat) default)).set ((IntKind.i64.wrap (x24 - (1 : Int))).toNat) (x25.getD x24.toNat default))))) (some x25)

def slices_insertionSortCmpFunc_int_l3 (K : Nat) (a0 : (List Int)) (a1 : Int) (a2 : Int) (a3_0_0 : (List Int)) : Nat → Int → (List Int) → Option ((List Int))
  | 0, _, _ => none
  | k + 1, x3, x4 => ite2 ((decide (x3 < a2))) ((slices_insertionSortCmpFunc_int_l4 K a1 a3_0_0 K x3 x4).bind fun j20 => slices_insertionSortCmpFunc_int_l3 K a0 a1 a2 a3_0_0 k (IntKind.i64.wrap (x3 + (1 : Int))) j20) (chk (x4.length = a0.length) (some x4))

def slices_insertionSortCmpFunc_int (K : Nat) (a0 : (List Int)) (a1 : Int) (a2 : Int) (a3_0_0 : (List Int)) : Option ((List Int)) :=
  slices_insertionSortCmpFunc_int_l3 K a0 a1 a2 a3_0_0 K (IntKind.i64.wrap (a1 + (1 : Int))) a0

theorem ok_slices_insertionSortCmpFunc_int (K : Nat) (a0 : (List Int)) (a1 : Int) (a2 : Int) (a3_0_0 : (List Int)) (o : ((List Int))) (h : slices_insertionSortCmpFunc_int K a0 a1 a2 a3_0_0 = some o) : MutOK Try.prog 20 [(.one (.mu (sl 1 (csI .i64) a0) (sl 1 (csI .i64) o))), (.one (.ro (.int .i64 a1))), (.one (.ro (.int .i64 a2))), (.one (.ro (.fn 15 1 fun j => [(pl 1 (csL 1 (csI .i64)) a3_0_0)].getD j .nilptr)))] [] := by
  refine mutOK_of_AW 1 Try.func20 rfl (by kernel_rfl) (Nat.le_of_ble_eq_true (by kernel_rfl)) (by kernel_rfl) (by kernel_rfl) ?_
  intro w0 K0 v0 s0
  unfold slices_insertionSortCmpFunc_int at h
  refine AW.seq (AW.rA ⟨[(0, (.v (.one (.arr 0)))), (1, (vc (.int .i64 a1))), (2, (vc (.int .i64 a2))), (3, (vc (.fn 15 1 fun j => [(pl 1 (csL 1 (csI .i64)) a3_0_0)].getD j .nilptr))), (8, (vc (.int .i64 (IntKind.i64.wrap (a1 + (1 : Int))))))], [(0, (.arr true a0.length 1 (gl (csI .i64) a0)))]⟩ (Tt ∧ T2 Tt) [] [0, 1, 2, 3, 8] [0] ⟨tr, tr, tr, tr⟩ (thenQ_normal ?_))
  refine AW.block ?_
  refine AW.loopQ (σ := Nat × Int × (List Int)) (fun p => ⟨[(0, (.v (.one (.arr 0)))), (1, (vc (.int .i64 a1))), (2, (vc (.int .i64 a2))), (3, (vc (.fn 15 1 fun j => [(pl 1 (csL 1 (csI .i64)) a3_0_0)].getD j .nilptr))), (8, (vc (.int .i64 p.2.1)))], [(0, (.arr true p.2.2.length 1 (gl (csI .i64) p.2.2)))]⟩) (fun p => slices_insertionSortCmpFunc_int_l3 K a0 a1 a2 a3_0_0 p.1 p.2.1 p.2.2 = some o) (fun p => p.1) (K, (IntKind.i64.wrap (a1 + (1 : Int))), a0) h ?_
  clear h
  rintro ⟨k, x3, x4⟩ h
  replace h : slices_insertionSortCmpFunc_int_l3 K a0 a1 a2 a3_0_0 k x3 x4 = some o := h
  show AW _ _ (⟨[(0, (.v (.one (.arr 0)))), (1, (vc (.int .i64 a1))), (2, (vc (.int .i64 a2))), (3, (vc (.fn 15 1 fun j => [(pl 1 (csL 1 (csI .i64)) a3_0_0)].getD j .nilptr))), (8, (vc (.int .i64 x3)))], [(0, (.arr true x4.length 1 (gl (csI .i64) x4)))]⟩ : St) _
  obtain _ | k := k
  · rw [slices_insertionSortCmpFunc_int_l3] at h; cases h
  rw [slices_insertionSortCmpFunc_int_l3] at h
  refine AW.seq ?_
  refine AW.seq (AW.rA ⟨[(0, (.v (.one (.arr 0)))), (1, (vc (.int .i64 a1))), (2, (vc (.int .i64 a2))), (3, (vc (.fn 15 1 fun j => [(pl 1 (csL 1 (csI .i64)) a3_0_0)].getD j .nilptr))), (8, (vc (.int .i64 x3))), (14, (vc (.bool (decide (x3 < a2)))))], [(0, (.arr true x4.length 1 (gl (csI .i64) x4)))]⟩ (Tt ∧ T2 Tt) [] [0, 1, 2, 3, 8, 14] [0] ⟨tr, tr, tr, tr⟩ (thenQ_normal ?_))
  rcases ite2_cases h with ⟨b5, h⟩ | ⟨b5, h⟩
  · refine AW.cond_t rfl b5 ?_
    refine AW.skip ?_
    refine thenQ_normal ?_
    refine AW.seq ?_
    refine AW.block ?_
    refine AW.seq (AW.rA ⟨[(0, (.v (.one (.arr 0)))), (1, (vc (.int .i64 a1))), (2, (vc (.int .i64 a2))), (3, (vc (.fn 15 1 fun j => [(pl 1 (csL 1 (csI .i64)) a3_0_0)].getD j .nilptr))), (8, (vc (.int .i64 x3))), (9, (vc (.int .i64 x3)))], [(0, (.arr true x4.length 1 (gl (csI .i64) x4)))]⟩ (T2 Tt) [] [0, 1, 2, 3, 8, 9] [0] ⟨tr, tr, tr⟩ (thenQ_normal ?_))
    obtain ⟨j20, e21, h⟩ := bind_some h
    refine AW.joinS (s2 := ⟨[(0, (.v (.one (.arr 0)))), (1, (vc (.int .i64 a1))), (2, (vc (.int .i64 a2))), (3, (vc (.fn 15 1 fun j => [(pl 1 (csL 1 (csI .i64)) a3_0_0)].getD j .nilptr))), (8, (vc (.int .i64 x3)))], [(0, (.arr true j20.length 1 (gl (csI .i64) j20)))]⟩) ?_ ?_
    · replace h := e21
      refine AW.block ?_
      refine AW.loopQ (σ := Nat × Int × (List Int)) (fun p => ⟨[(0, (.v (.one (.arr 0)))), (1, (vc (.int .i64 a1))), (2, (vc (.int .i64 a2))), (3, (vc (.fn 15 1 fun j => [(pl 1 (csL 1 (csI .i64)) a3_0_0)].getD j .nilptr))), (8, (vc (.int .i64 x3))), (9, (vc (.int .i64 p.2.1)))], [(0, (.arr true p.2.2.length 1 (gl (csI .i64) p.2.2)))]⟩) (fun p => slices_insertionSortCmpFunc_int_l4 K a1 a3_0_0 p.1 p.2.1 p.2.2 = some j20) (fun p => p.1) (K, x3, x4) h ?_
      clear h
      rintro ⟨k, x24, x25⟩ h
      replace h : slices_insertionSortCmpFunc_int_l4 K a1 a3_0_0 k x24 x25 = some j20 := h
      show AW _ _ (⟨[(0, (.v (.one (.arr 0)))), (1, (vc (.int .i64 a1))), (2, (vc (.int .i64 a2))), (3, (vc (.fn 15 1 fun j => [(pl 1 (csL 1 (csI .i64)) a3_0_0)].getD j .nilptr))), (8, (vc (.int .i64 x3))), (9, (vc (.int .i64 x24)))], [(0, (.arr true x25.length 1 (gl (csI .i64) x25)))]⟩ : St) _
      obtain _ | k := k
      · rw [slices_insertionSortCmpFunc_int_l4] at h; cases h
      rw [slices_insertionSortCmpFunc_int_l4] at h
      refine AW.seq ?_
      refine AW.seq ?_
      obtain ⟨j31, e32, h⟩ := bind_some h
      refine AW.join1 (s2 := ⟨[(0, (.v (.one (.arr 0)))), (1, (vc (.int .i64 a1))), (2, (vc (.int .i64 a2))), (3, (vc (.fn 15 1 fun j => [(pl 1 (csL 1 (csI .i64)) a3_0_0)].getD j .nilptr))), (8, (vc (.int .i64 x3))), (9, (vc (.int .i64 x24))), (34, (vc (.bool j31)))], [(0, (.arr true x25.length 1 (gl (csI .i64) x25)))]⟩) ?_ ?_
      · rcases ite2_cases e32 with ⟨b26, e32⟩ | ⟨b26, e32⟩
        · obtain ⟨c27, e32⟩ := chk_some e32
          obtain ⟨c28, e32⟩ := chk_some e32
          obtain ⟨v29, e30, e32⟩ := bind_some e32
          replace e32 := some_eq e32
          subst e32
          exact AW.dA ⟨[(0, (.v (.one (.arr 0)))), (1, (vc (.int .i64 a1))), (2, (vc (.int .i64 a2))), (3, (vc (.fn 15 1 fun j => [(pl 1 (csL 1 (csI .i64)) a3_0_0)].getD j .nilptr))), (8, (vc (.int .i64 x3))), (9, (vc (.int .i64 x24))), (34, (vc (.bool (decide (v29 < (0 : Int))))))], [(0, (.arr true x25.length 1 (gl (csI .i64) x25)))]⟩ ((Tt ∧ T2 ((Tt ∧ (decide (x24 > a1)) = true) ∧ Tt ∧ T2 ((0 ≤ x24 ∧ x24 < (x25.length : Int)) ∧ T4 ((0 ≤ (IntKind.i64.wrap (x24 - (1 : Int))) ∧ (IntKind.i64.wrap (x24 - (1 : Int))) < (x25.length : Int)) ∧ Tt ∧ (((Eqc (.int .i64 (x25.getD x24.toNat default))) ∧ (((.int .i64 (x25.getD ((IntKind.i64.wrap (x24 - (1 : Int))).toNat) default)) : C) = (.int .i64 (x25.getD ((IntKind.i64.wrap (x24 - (1 : Int))).toNat) default))) ∧ (1 = 1 ∧ ∀ j, j < 1 → ((csL 1 (csI .i64)) a3_0_0).getD j .nilptr = ((csL 1 (csI .i64)) a3_0_0).getD j .nilptr) ∧ Tt) ∧ CallOK Try.prog 15 [.one (.int .i64 (x25.getD x24.toNat default)), .one (.int .i64 (x25.getD ((IntKind.i64.wrap (x24 - (1 : Int))).toNat) default)), .one (pl 1 (csL 1 (csI .i64)) a3_0_0)] [.one (.int .i64 v29)]) ∧ T2 Tt)))) ∧ (Tt)) 17 [.no, .no, .no, .dec true, .no, .no, .no, .no, .no, .no, .no, .no, .no, .no, .call [.one (.int .i64 (x25.getD x24.toNat default)), .one (.int .i64 (x25.getD ((IntKind.i64.wrap (x24 - (1 : Int))).toNat) default)), .one (pl 1 (csL 1 (csI .i64)) a3_0_0)] [.one (.int .i64 v29)] [[.view]]] [0, 1, 2, 3, 8, 9, 34] [0] ⟨⟨tr, tr, tr, ⟨tr, b26⟩, tr, tr, tr, c27, tr, tr, tr, tr, c28, tr, ⟨⟨rfl, rfl, ⟨rfl, fun j hj => rfl⟩, tr⟩, ok_impl_WorkersFor_2 K (x25.getD x24.toNat default) (x25.getD ((IntKind.i64.wrap (x24 - (1 : Int))).toNat) default) a3_0_0 v29 e30⟩, tr, tr, tr⟩, tr⟩ ⟨rfl, rfl⟩
        · replace e32 := some_eq e32
          subst e32
          exact AW.dA ⟨[(0, (.v (.one (.arr 0)))), (1, (vc (.int .i64 a1))), (2, (vc (.int .i64 a2))), (3, (vc (.fn 15 1 fun j => [(pl 1 (csL 1 (csI .i64)) a3_0_0)].getD j .nilptr))), (8, (vc (.int .i64 x3))), (9, (vc (.int .i64 x24))), (34, (vc (.bool false)))], [(0, (.arr true x25.length 1 (gl (csI .i64) x25)))]⟩ ((Tt ∧ T2 ((Tt ∧ (decide (x24 > a1)) = false) ∧ Tt ∧ T4 (T4 (T4 Tt)))) ∧ (Tt)) 17 [.no, .no, .no, .dec false] [0, 1, 2, 3, 8, 9, 34] [0] ⟨⟨tr, tr, tr, ⟨tr, b26⟩, tr, tr, tr, tr, tr, tr, tr, tr, tr, tr, tr, tr, tr, tr⟩, tr⟩ ⟨rfl, rfl⟩
      refine thenQ_normal ?_
      rcases ite2_cases h with ⟨b33, h⟩ | ⟨b33, h⟩
      · refine AW.cond_t rfl b33 ?_
        refine AW.skip ?_
        refine thenQ_normal ?_
        refine AW.seq ?_
        refine AW.block ?_
        obtain ⟨c34, h⟩ := chk_some h
        obtain ⟨c35, h⟩ := chk_some h
        refine AW.post ?_
        refine AW.heldA (by kernel_rfl) [0, 1, 2, 3, 4, 5, 6, 7, 8, 10, 11, 12] [0] 1 [37, 38, 39, 41, 45, 49] [.no, .no, .no, .no, .no, .no, .no, .no, .no, .no, .no, .no, .no, .no, .no, .set x25.length (gl (csI .i64) (x25.set x24.toNat (x25.getD ((IntKind.i64.wrap (x24 - (1 : Int))).toNat) default))) ((List.range 1).map fun j => ((csI .i64) (x25.getD ((IntKind.i64.wrap (x24 - (1 : Int))).toNat) default)).getD (0 + j) .nilptr), .no, .set x25.length (gl (csI .i64) ((x25.set x24.toNat (x25.getD ((IntKind.i64.wrap (x24 - (1 : Int))).toNat) default)).set ((IntKind.i64.wrap (x24 - (1 : Int))).toNat) (x25.getD x24.toNat default))) ((List.range 1).map fun j => ((csI .i64) (x25.getD x24.toNat default)).getD (0 + j) .nilptr)] [] [0] [0, 1, 2, 3, 8, 9] [0] (s' := ⟨[(0, (.v (.one (.arr 0)))), (1, (vc (.int .i64 a1))), (2, (vc (.int .i64 a2))), (3, (vc (.fn 15 1 fun j => [(pl 1 (csL 1 (csI .i64)) a3_0_0)].getD j .nilptr))), (8, (vc (.int .i64 x3))), (9, (vc (.int .i64 x24)))], [(0, (.arr true x25.length 1 (gl (csI .i64) ((x25.set x24.toNat (x25.getD ((IntKind.i64.wrap (x24 - (1 : Int))).toNat) default)).set ((IntKind.i64.wrap (x24 - (1 : Int))).toNat) (x25.getD x24.toNat default)))))]⟩) (ob := (T4 (T4 ((0 ≤ (IntKind.i64.wrap (x24 - (1 : Int))) ∧ (IntKind.i64.wrap (x24 - (1 : Int))) < (x25.length : Int)) ∧ T2 ((0 ≤ x24 ∧ x24 < (x25.length : Int)) ∧ Tt)))) ∧ (Zt2 ((⟨[], [(0, (.arr true x25.length 1 (gl (csI .i64) ((x25.set x24.toNat (x25.getD ((IntKind.i64.wrap (x24 - (1 : Int))).toNat) default)).set ((IntKind.i64.wrap (x24 - (1 : Int))).toNat) (x25.getD x24.toNat default)))))]⟩ : St) = ⟨[], [(0, (.arr true x25.length 1 (gl (csI .i64) ((x25.set x24.toNat (x25.getD ((IntKind.i64.wrap (x24 - (1 : Int))).toNat) default)).set ((IntKind.i64.wrap (x24 - (1 : Int))).toNat) (x25.getD x24.toNat default)))))]⟩) ((0 ≤ x24 ∧ x24 < (x25.length : Int))) ((x25.length = x25.length ∧ SetOb x25.length 1 x24.toNat 0 1 (gl (csI .i64) x25) (gl (csI .i64) (x25.set x24.toNat (x25.getD ((IntKind.i64.wrap (x24 - (1 : Int))).toNat) default))) ∧ ((List.range 1).map fun j => ((csI .i64) (x25.getD ((IntKind.i64.wrap (x24 - (1 : Int))).toNat) default)).getD (0 + j) .nilptr) = ((List.range 1).map fun j => gl (csI .i64) (x25.set x24.toNat (x25.getD ((IntKind.i64.wrap (x24 - (1 : Int))).toNat) default)) x24.toNat (0 + j)) ∧ ((((.int .i64 (x25.getD ((IntKind.i64.wrap (x24 - (1 : Int))).toNat) default)) : C) = (.int .i64 (x25.getD ((IntKind.i64.wrap (x24 - (1 : Int))).toNat) default)) ∧ Tt) ∧ Tt) ∧ (true = true → ∀ j, j < 1 → isSeq (gl (csI .i64) x25 x24.toNat (0 + j)) = false ∧ isSeq (gl (csI .i64) (x25.set x24.toNat (x25.getD ((IntKind.i64.wrap (x24 - (1 : Int))).toNat) default)) x24.toNat (0 + j)) = false))) ((0 ≤ (IntKind.i64.wrap (x24 - (1 : Int))) ∧ (IntKind.i64.wrap (x24 - (1 : Int))) < (x25.length : Int))) ((x25.length = x25.length ∧ SetOb x25.length 1 ((IntKind.i64.wrap (x24 - (1 : Int))).toNat) 0 1 (gl (csI .i64) (x25.set x24.toNat (x25.getD ((IntKind.i64.wrap (x24 - (1 : Int))).toNat) default))) (gl (csI .i64) ((x25.set x24.toNat (x25.getD ((IntKind.i64.wrap (x24 - (1 : Int))).toNat) default)).set ((IntKind.i64.wrap (x24 - (1 : Int))).toNat) (x25.getD x24.toNat default))) ∧ ((List.range 1).map fun j => ((csI .i64) (x25.getD x24.toNat default)).getD (0 + j) .nilptr) = ((List.range 1).map fun j => gl (csI .i64) ((x25.set x24.toNat (x25.getD ((IntKind.i64.wrap (x24 - (1 : Int))).toNat) default)).set ((IntKind.i64.wrap (x24 - (1 : Int))).toNat) (x25.getD x24.toNat default)) ((IntKind.i64.wrap (x24 - (1 : Int))).toNat) (0 + j)) ∧ ((((.int .i64 (x25.getD x24.toNat default)) : C) = (.int .i64 (x25.getD x24.toNat default)) ∧ Tt) ∧ Tt) ∧ (true = true → ∀ j, j < 1 → isSeq (gl (csI .i64) (x25.set x24.toNat (x25.getD ((IntKind.i64.wrap (x24 - (1 : Int))).toNat) default)) ((IntKind.i64.wrap (x24 - (1 : Int))).toNat) (0 + j)) = false ∧ isSeq (gl (csI .i64) ((x25.set x24.toNat (x25.getD ((IntKind.i64.wrap (x24 - (1 : Int))).toNat) default)).set ((IntKind.i64.wrap (x24 - (1 : Int))).toNat) (x25.getD x24.toNat default)) ((IntKind.i64.wrap (x24 - (1 : Int))).toNat) (0 + j)) = false)))) ∧ ((x25.length = x25.length ∧ 1 = 1 ∧ ∀ i j, i < x25.length → j < 1 → isSeq (gl (csI .i64) ((x25.set x24.toNat (x25.getD ((IntKind.i64.wrap (x24 - (1 : Int))).toNat) default)).set ((IntKind.i64.wrap (x24 - (1 : Int))).toNat) (x25.getD x24.toNat default)) i j) = isSeq (gl (csI .i64) x25 i j)) ∧ Tt)) (by kernel_rfl) ⟨⟨tr, tr, tr, tr, tr, tr, tr, tr, c34, tr, tr, c35, tr⟩, (zt2 rfl (c35) ⟨rfl, setN rfl gl_set, (gl_atp (ltN rfl c35)).symm, ⟨⟨rfl, tr⟩, tr⟩, (fun _ j hj => match j, hj with | 0, _ => ⟨rfl, rfl⟩)⟩ (c34) ⟨rfl, setN (by simp only [List.length_set]) gl_set, (gl_atp (ltN (by simp only [List.length_set]) c34)).symm, ⟨⟨rfl, tr⟩, tr⟩, (fun _ j hj => match j, hj with | 0, _ => ⟨rfl, rfl⟩)⟩), ⟨⟨rfl, rfl, gl_seq sqI⟩, tr⟩⟩ ?_
        refine ⟨⟨[(0, (.v (.one (.arr 0)))), (1, (vc (.int .i64 a1))), (2, (vc (.int .i64 a2))), (3, (vc (.fn 15 1 fun j => [(pl 1 (csL 1 (csI .i64)) a3_0_0)].getD j .nilptr))), (8, (vc (.int .i64 x3))), (9, (vc (.int .i64 x24)))], [(0, (.arr true ((x25.set x24.toNat (x25.getD ((IntKind.i64.wrap (x24 - (1 : Int))).toNat) default)).set ((IntKind.i64.wrap (x24 - (1 : Int))).toNat) (x25.getD x24.toNat default)).length 1 (gl (csI .i64) ((x25.set x24.toNat (x25.getD ((IntKind.i64.wrap (x24 - (1 : Int))).toNat) default)).set ((IntKind.i64.wrap (x24 - (1 : Int))).toNat) (x25.getD x24.toNat default)))))]⟩, subEq (by simp only [List.length_set]), ?_⟩
        refine blockQ_normal ?_
        refine thenQ_normal ?_
        refine AW.rA ⟨[(0, (.v (.one (.arr 0)))), (1, (vc (.int .i64 a1))), (2, (vc (.int .i64 a2))), (3, (vc (.fn 15 1 fun j => [(pl 1 (csL 1 (csI .i64)) a3_0_0)].getD j .nilptr))), (8, (vc (.int .i64 x3))), (9, (vc (.int .i64 (IntKind.i64.wrap (x24 - (1 : Int))))))], [(0, (.arr true ((x25.set x24.toNat (x25.getD ((IntKind.i64.wrap (x24 - (1 : Int))).toNat) default)).set ((IntKind.i64.wrap (x24 - (1 : Int))).toNat) (x25.getD x24.toNat default)).length 1 (gl (csI .i64) ((x25.set x24.toNat (x25.getD ((IntKind.i64.wrap (x24 - (1 : Int))).toNat) default)).set ((IntKind.i64.wrap (x24 - (1 : Int))).toNat) (x25.getD x24.toNat default)))))]⟩ (Tt ∧ T2 Tt) [] [0, 1, 2, 3, 8, 9] [0] ⟨tr, tr, tr, tr⟩ ?_
        exact loopQ_normal (k, (IntKind.i64.wrap (x24 - (1 : Int))), ((x25.set x24.toNat (x25.getD ((IntKind.i64.wrap (x24 - (1 : Int))).toNat) default)).set ((IntKind.i64.wrap (x24 - (1 : Int))).toNat) (x25.getD x24.toNat default))) h (Nat.lt_succ_self k) (Sub.keep [0, 1, 2, 3, 8, 9] [0] (by kernel_rfl) (by kernel_rfl))
      · refine AW.cond_f rfl b33 ?_
        refine AW.exit ?_
        refine thenQ_exit ?_
        refine loopQ_exit ?_
        refine blockQ_exit ?_
        replace h := some_eq h
        subst h
        exact ⟨rfl, Sub.keep [0, 1, 2, 3, 8] [0] (by kernel_rfl) (by kernel_rfl)⟩
    refine blockQ_normal ?_
    refine thenQ_normal ?_
    refine AW.rA ⟨[(0, (.v (.one (.arr 0)))), (1, (vc (.int .i64 a1))), (2, (vc (.int .i64 a2))), (3, (vc (.fn 15 1 fun j => [(pl 1 (csL 1 (csI .i64)) a3_0_0)].getD j .nilptr))), (8, (vc (.int .i64 (IntKind.i64.wrap (x3 + (1 : Int))))))], [(0, (.arr true j20.length 1 (gl (csI .i64) j20)))]⟩ (Tt ∧ T2 Tt) [] [0, 1, 2, 3, 8] [0] ⟨tr, tr, tr, tr⟩ ?_
    exact loopQ_normal (k, (IntKind.i64.wrap (x3 + (1 : Int))), j20) h (Nat.lt_succ_self k) (Sub.keep [0, 1, 2, 3, 8] [0] (by kernel_rfl) (by kernel_rfl))
  · refine AW.cond_f rfl b5 ?_
    refine AW.exit ?_
    refine thenQ_exit ?_
    refine loopQ_exit ?_
    refine blockQ_exit ?_
    obtain ⟨c36, h⟩ := chk_some h
    replace h := some_eq h
    subst h
    exact ⟨.inl rfl, retOK_of [] (by kernel_rfl) tr (of_decide_eq_true (by kernel_rfl)), by kernel_rfl, ⟨⟨c36, rfl, rfl⟩, tr, tr, tr, tr⟩⟩

/-! slices.swapRangeCmpFunc[int] -/
def slices_swapRangeCmpFunc_int_l1 (K : Nat) (a0 : (List Int)) (a1 : Int) (a2 : Int) (a3 : Int) : Nat → Int → (List Int) → Option ((List Int))
  | 0, _, _ => none
  | k + 1, x3, x4 => ite2 ((decide (x3 < a3))) (chk (0 ≤ (IntKind.i64.wrap (a2 + x3)) ∧ (IntKind.i64.wrap (a2 + x3)) < (x4.length : Int)) (chk (0 ≤ (IntKind.i64.wrap (a1 + x3)) ∧ (IntKind.i64.wrap (a1 + x3)) < (x4.length : Int)) (slices_swapRangeCmpFunc_int_l1 K a0 a1 a2 a3 k (IntKind.i64.wrap (x3 + (1 : Int))) ((x4.set ((IntKind.i64.wrap (a1 + x3)).toNat) (x4.getD ((IntKind.i64.wrap (a2 + x3)).toNat) default)).set ((IntKind.i64.wrap (a2 + x3)).toNat) (x4.getD ((IntKind.i64.wrap (a1 + x3)).toNat) default))))) (chk (x4.length = a0.length) (some x4))

def slices_swapRangeCmpFunc_int (K : Nat) (a0 : (List Int)) (a1 : Int) (a2 : Int) (a3 : Int) (a4_0_0 : (List Int)) : Option ((List Int)) :=
  slices_swapRangeCmpFunc_int_l1 K a0 a1 a2 a3 K (0 : Int) a0

theorem ok_slices_swapRangeCmpFunc_int (K : Nat) (a0 : (List Int)) (a1 : Int) (a2 : Int) (a3 : Int) (a4_0_0 : (List Int)) (o : ((List Int))) (h : slices_swapRangeCmpFunc_int K a0 a1 a2 a3 a4_0_0 = some o) : MutOK Try.prog 23 [(.one (.mu (sl 1 (csI .i64) a0) (sl 1 (csI .i64) o))), (.one (.ro (.int .i64 a1))), (.one (.ro (.int .i64 a2))), (.one (.ro (.int .i64 a3))), (.one (.ro (.fn 15 1 fun j => [(pl 1 (csL 1 (csI .i64)) a4_0_0)].getD j .nilptr)))] [] := by
  refine mutOK_of_AW 1 Try.func23 rfl (by kernel_rfl) (Nat.le_of_ble_eq_true (by kernel_rfl)) (by kernel_rfl) (by kernel_rfl) ?_
  intro w0 K0 v0 s0
  unfold slices_swapRangeCmpFunc_int at h
  refine AW.seq (AW.rA ⟨[(0, (.v (.one (.arr 0)))), (1, (vc (.int .i64 a1))), (2, (vc (.int .i64 a2))), (3, (vc (.int .i64 a3))), (4, (vc (.fn 15 1 fun j => [(pl 1 (csL 1 (csI .i64)) a4_0_0)].getD j .nilptr))), (10, (vc (.int .i64 (0 : Int))))], [(0, (.arr true a0.length 1 (gl (csI .i64) a0)))]⟩ (Tt ∧ Tt) [] [0, 1, 2, 3, 4, 10] [0] ⟨tr, tr⟩ (thenQ_normal ?_))
  refine AW.block ?_
  refine AW.loopQ (σ := Nat × Int × (List Int)) (fun p => ⟨[(0, (.v (.one (.arr 0)))), (1, (vc (.int .i64 a1))), (2, (vc (.int .i64 a2))), (3, (vc (.int .i64 a3))), (4, (vc (.fn 15 1 fun j => [(pl 1 (csL 1 (csI .i64)) a4_0_0)].getD j .nilptr))), (10, (vc (.int .i64 p.2.1)))], [(0, (.arr true p.2.2.length 1 (gl (csI .i64) p.2.2)))]⟩) (fun p => slices_swapRangeCmpFunc_int_l1 K a0 a1 a2 a3 p.1 p.2.1 p.2.2 = some o) (fun p => p.1) (K, (0 : Int), a0) h ?_
  clear h
  rintro ⟨k, x3, x4⟩ h
  replace h : slices_swapRangeCmpFunc_int_l1 K a0 a1 a2 a3 k x3 x4 = some o := h
  show AW _ _ (⟨[(0, (.v (.one (.arr 0)))), (1, (vc (.int .i64 a1))), (2, (vc (.int .i64 a2))), (3, (vc (.int .i64 a3))), (4, (vc (.fn 15 1 fun j => [(pl 1 (csL 1 (csI .i64)) a4_0_0)].getD j .nilptr))), (10, (vc (.int .i64 x3)))], [(0, (.arr true x4.length 1 (gl (csI .i64) x4)))]⟩ : St) _
  obtain _ | k := k
  · rw [slices_swapRangeCmpFunc_int_l1] at h; cases h
  rw [slices_swapRangeCmpFunc_int_l1] at h
  refine AW.seq ?_
  refine AW.seq (AW.rA ⟨[(0, (.v (.one (.arr 0)))), (1, (vc (.int .i64 a1))), (2, (vc (.int .i64 a2))), (3, (vc (.int .i64 a3))), (4, (vc (.fn 15 1 fun j => [(pl 1 (csL 1 (csI .i64)) a4_0_0)].getD j .nilptr))), (10, (vc (.int .i64 x3))), (13, (vc (.bool (decide (x3 < a3)))))], [(0, (.arr true x4.length 1 (gl (csI .i64) x4)))]⟩ (Tt ∧ T2 Tt) [] [0, 1, 2, 3, 4, 10, 13] [0] ⟨tr, tr, tr, tr⟩ (thenQ_normal ?_))
  rcases ite2_cases h with ⟨b5, h⟩ | ⟨b5, h⟩
  · refine AW.cond_t rfl b5 ?_
    refine AW.skip ?_
    refine thenQ_normal ?_
    refine AW.seq ?_
    refine AW.block ?_
    obtain ⟨c6, h⟩ := chk_some h
    obtain ⟨c7, h⟩ := chk_some h
    refine AW.post ?_
    refine AW.heldA (by kernel_rfl) [0, 1, 2, 3, 4, 5, 6, 7, 8, 9, 10, 11, 12, 14, 15, 16, 17, 18] [0] 1 [16, 19, 20, 23, 28, 34] [.no, .no, .no, .no, .no, .no, .no, .no, .no, .no, .no, .no, .no, .no, .no, .no, .no, .no, .no, .no, .no, .set x4.length (gl (csI .i64) (x4.set ((IntKind.i64.wrap (a1 + x3)).toNat) (x4.getD ((IntKind.i64.wrap (a2 + x3)).toNat) default))) ((List.range 1).map fun j => ((csI .i64) (x4.getD ((IntKind.i64.wrap (a2 + x3)).toNat) default)).getD (0 + j) .nilptr), .no, .set x4.length (gl (csI .i64) ((x4.set ((IntKind.i64.wrap (a1 + x3)).toNat) (x4.getD ((IntKind.i64.wrap (a2 + x3)).toNat) default)).set ((IntKind.i64.wrap (a2 + x3)).toNat) (x4.getD ((IntKind.i64.wrap (a1 + x3)).toNat) default))) ((List.range 1).map fun j => ((csI .i64) (x4.getD ((IntKind.i64.wrap (a1 + x3)).toNat) default)).getD (0 + j) .nilptr)] [] [0] [0, 1, 2, 3, 4, 10] [0] (s' := ⟨[(0, (.v (.one (.arr 0)))), (1, (vc (.int .i64 a1))), (2, (vc (.int .i64 a2))), (3, (vc (.int .i64 a3))), (4, (vc (.fn 15 1 fun j => [(pl 1 (csL 1 (csI .i64)) a4_0_0)].getD j .nilptr))), (10, (vc (.int .i64 x3)))], [(0, (.arr true x4.length 1 (gl (csI .i64) ((x4.set ((IntKind.i64.wrap (a1 + x3)).toNat) (x4.getD ((IntKind.i64.wrap (a2 + x3)).toNat) default)).set ((IntKind.i64.wrap (a2 + x3)).toNat) (x4.getD ((IntKind.i64.wrap (a1 + x3)).toNat) default)))))]⟩) (ob := (T4 (T4 (T4 ((0 ≤ (IntKind.i64.wrap (a2 + x3)) ∧ (IntKind.i64.wrap (a2 + x3)) < (x4.length : Int)) ∧ T4 ((0 ≤ (IntKind.i64.wrap (a1 + x3)) ∧ (IntKind.i64.wrap (a1 + x3)) < (x4.length : Int)) ∧ Tt))))) ∧ (Zt2 ((⟨[], [(0, (.arr true x4.length 1 (gl (csI .i64) ((x4.set ((IntKind.i64.wrap (a1 + x3)).toNat) (x4.getD ((IntKind.i64.wrap (a2 + x3)).toNat) default)).set ((IntKind.i64.wrap (a2 + x3)).toNat) (x4.getD ((IntKind.i64.wrap (a1 + x3)).toNat) default)))))]⟩ : St) = ⟨[], [(0, (.arr true x4.length 1 (gl (csI .i64) ((x4.set ((IntKind.i64.wrap (a1 + x3)).toNat) (x4.getD ((IntKind.i64.wrap (a2 + x3)).toNat) default)).set ((IntKind.i64.wrap (a2 + x3)).toNat) (x4.getD ((IntKind.i64.wrap (a1 + x3)).toNat) default)))))]⟩) ((0 ≤ (IntKind.i64.wrap (a1 + x3)) ∧ (IntKind.i64.wrap (a1 + x3)) < (x4.length : Int))) ((x4.length = x4.length ∧ SetOb x4.length 1 ((IntKind.i64.wrap (a1 + x3)).toNat) 0 1 (gl (csI .i64) x4) (gl (csI .i64) (x4.set ((IntKind.i64.wrap (a1 + x3)).toNat) (x4.getD ((IntKind.i64.wrap (a2 + x3)).toNat) default))) ∧ ((List.range 1).map fun j => ((csI .i64) (x4.getD ((IntKind.i64.wrap (a2 + x3)).toNat) default)).getD (0 + j) .nilptr) = ((List.range 1).map fun j => gl (csI .i64) (x4.set ((IntKind.i64.wrap (a1 + x3)).toNat) (x4.getD ((IntKind.i64.wrap (a2 + x3)).toNat) default)) ((IntKind.i64.wrap (a1 + x3)).toNat) (0 + j)) ∧ ((((.int .i64 (x4.getD ((IntKind.i64.wrap (a2 + x3)).toNat) default)) : C) = (.int .i64 (x4.getD ((IntKind.i64.wrap (a2 + x3)).toNat) default)) ∧ Tt) ∧ Tt) ∧ (true = true → ∀ j, j < 1 → isSeq (gl (csI .i64) x4 ((IntKind.i64.wrap (a1 + x3)).toNat) (0 + j)) = false ∧ isSeq (gl (csI .i64) (x4.set ((IntKind.i64.wrap (a1 + x3)).toNat) (x4.getD ((IntKind.i64.wrap (a2 + x3)).toNat) default)) ((IntKind.i64.wrap (a1 + x3)).toNat) (0 + j)) = false))) ((0 ≤ (IntKind.i64.wrap (a2 + x3)) ∧ (IntKind.i64.wrap (a2 + x3)) < (x4.length : Int))) ((x4.length = x4.length ∧ SetOb x4.length 1 ((IntKind.i64.wrap (a2 + x3)).toNat) 0 1 (gl (csI .i64) (x4.set ((IntKind.i64.wrap (a1 + x3)).toNat) (x4.getD ((IntKind.i64.wrap (a2 + x3)).toNat) default))) (gl (csI .i64) ((x4.set ((IntKind.i64.wrap (a1 + x3)).toNat) (x4.getD ((IntKind.i64.wrap (a2 + x3)).toNat) default)).set ((IntKind.i64.wrap (a2 + x3)).toNat) (x4.getD ((IntKind.i64.wrap (a1 + x3)).toNat) default))) ∧ ((List.range 1).map fun j => ((csI .i64) (x4.getD ((IntKind.i64.wrap (a1 + x3)).toNat) default)).getD (0 + j) .nilptr) = ((List.range 1).map fun j => gl (csI .i64) ((x4.set ((IntKind.i64.wrap (a1 + x3)).toNat) (x4.getD ((IntKind.i64.wrap (a2 + x3)).toNat) default)).set ((IntKind.i64.wrap (a2 + x3)).toNat) (x4.getD ((IntKind.i64.wrap (a1 + x3)).toNat) default)) ((IntKind.i64.wrap (a2 + x3)).toNat) (0 + j)) ∧ ((((.int .i64 (x4.getD ((IntKind.i64.wrap (a1 + x3)).toNat) default)) : C) = (.int .i64 (x4.getD ((IntKind.i64.wrap (a1 + x3)).toNat) default)) ∧ Tt) ∧ Tt) ∧ (true = true → ∀ j, j < 1 → isSeq (gl (csI .i64) (x4.set ((IntKind.i64.wrap (a1 + x3)).toNat) (x4.getD ((IntKind.i64.wrap (a2 + x3)).toNat) default)) ((IntKind.i64.wrap (a2 + x3)).toNat) (0 + j)) = false ∧ isSeq (gl (csI .i64) ((x4.set ((IntKind.i64.wrap (a1 + x3)).toNat) (x4.getD ((IntKind.i64.wrap (a2 + x3)).toNat) default)).set ((IntKind.i64.wrap (a2 + x3)).toNat) (x4.getD ((IntKind.i64.wrap (a1 + x3)).toNat) default)) ((IntKind.i64.wrap (a2 + x3)).toNat) (0 + j)) = false)))) ∧ ((x4.length = x4.length ∧ 1 = 1 ∧ ∀ i j, i < x4.length → j < 1 → isSeq (gl (csI .i64) ((x4.set ((IntKind.i64.wrap (a1 + x3)).toNat) (x4.getD ((IntKind.i64.wrap (a2 + x3)).toNat) default)).set ((IntKind.i64.wrap (a2 + x3)).toNat) (x4.getD ((IntKind.i64.wrap (a1 + x3)).toNat) default)) i j) = isSeq (gl (csI .i64) x4 i j)) ∧ Tt)) (by kernel_rfl) ⟨⟨tr, tr, tr, tr, tr, tr, tr, tr, tr, tr, tr, tr, c6, tr, tr, tr, tr, c7, tr⟩, (zt2 rfl (c7) ⟨rfl, setN rfl gl_set, (gl_atp (ltN rfl c7)).symm, ⟨⟨rfl, tr⟩, tr⟩, (fun _ j hj => match j, hj with | 0, _ => ⟨rfl, rfl⟩)⟩ (c6) ⟨rfl, setN (by simp only [List.length_set]) gl_set, (gl_atp (ltN (by simp only [List.length_set]) c6)).symm, ⟨⟨rfl, tr⟩, tr⟩, (fun _ j hj => match j, hj with | 0, _ => ⟨rfl, rfl⟩)⟩), ⟨⟨rfl, rfl, gl_seq sqI⟩, tr⟩⟩ ?_
    refine ⟨⟨[(0, (.v (.one (.arr 0)))), (1, (vc (.int .i64 a1))), (2, (vc (.int .i64 a2))), (3, (vc (.int .i64 a3))), (4, (vc (.fn 15 1 fun j => [(pl 1 (csL 1 (csI .i64)) a4_0_0)].getD j .nilptr))), (10, (vc (.int .i64 x3)))], [(0, (.arr true ((x4.set ((IntKind.i64.wrap (a1 + x3)).toNat) (x4.getD ((IntKind.i64.wrap (a2 + x3)).toNat) default)).set ((IntKind.i64.wrap (a2 + x3)).toNat) (x4.getD ((IntKind.i64.wrap (a1 + x3)).toNat) default)).length 1 (gl (csI .i64) ((x4.set ((IntKind.i64.wrap (a1 + x3)).toNat) (x4.getD ((IntKind.i64.wrap (a2 + x3)).toNat) default)).set ((IntKind.i64.wrap (a2 + x3)).toNat) (x4.getD ((IntKind.i64.wrap (a1 + x3)).toNat) default)))))]⟩, subEq (by simp only [List.length_set]), ?_⟩
    refine blockQ_normal ?_
    refine thenQ_normal ?_
    refine AW.rA ⟨[(0, (.v (.one (.arr 0)))), (1, (vc (.int .i64 a1))), (2, (vc (.int .i64 a2))), (3, (vc (.int .i64 a3))), (4, (vc (.fn 15 1 fun j => [(pl 1 (csL 1 (csI .i64)) a4_0_0)].getD j .nilptr))), (10, (vc (.int .i64 (IntKind.i64.wrap (x3 + (1 : Int))))))], [(0, (.arr true ((x4.set ((IntKind.i64.wrap (a1 + x3)).toNat) (x4.getD ((IntKind.i64.wrap (a2 + x3)).toNat) default)).set ((IntKind.i64.wrap (a2 + x3)).toNat) (x4.getD ((IntKind.i64.wrap (a1 + x3)).toNat) default)).length 1 (gl (csI .i64) ((x4.set ((IntKind.i64.wrap (a1 + x3)).toNat) (x4.getD ((IntKind.i64.wrap (a2 + x3)).toNat) default)).set ((IntKind.i64.wrap (a2 + x3)).toNat) (x4.getD ((IntKind.i64.wrap (a1 + x3)).toNat) default)))))]⟩ (Tt ∧ T2 Tt) [] [0, 1, 2, 3, 4, 10] [0] ⟨tr, tr, tr, tr⟩ ?_
    exact loopQ_normal (k, (IntKind.i64.wrap (x3 + (1 : Int))), ((x4.set ((IntKind.i64.wrap (a1 + x3)).toNat) (x4.getD ((IntKind.i64.wrap (a2 + x3)).toNat) default)).set ((IntKind.i64.wrap (a2 + x3)).toNat) (x4.getD ((IntKind.i64.wrap (a1 + x3)).toNat) default))) h (Nat.lt_succ_self k) (Sub.keep [0, 1, 2, 3, 4, 10] [0] (by kernel_rfl) (by kernel_rfl))
  · refine AW.cond_f rfl b5 ?_
    refine AW.exit ?_
    refine thenQ_exit ?_
    refine loopQ_exit ?_
    refine blockQ_exit ?_
    obtain ⟨c8, h⟩ := chk_some h
    replace h := some_eq h
    subst h
    exact ⟨.inl rfl, retOK_of [] (by kernel_rfl) tr (of_decide_eq_true (by kernel_rfl)), by kernel_rfl, ⟨⟨c8, rfl, rfl⟩, tr, tr, tr, tr, tr⟩⟩

/-! slices.rotateCmpFunc[int] -/
def slices_rotateCmpFunc_int_l1 (K : Nat) (a0 : (List Int)) (a2 : Int) (a4_0_0 : (List Int)) : Nat → Int → (List Int) → Int → Option ((List Int))
  | 0, _, _, _ => none
  | k + 1, x4, x5, x6 => ite2 ((x4 != x6)) (ite2 ((decide (x4 > x6))) ((slices_swapRangeCmpFunc_int K x5 (IntKind.i64.wrap (a2 - x4)) a2 x6 a4_0_0).bind fun v9 => chk (v9.length = x5.length) (slices_rotateCmpFunc_int_l1 K a0 a2 a4_0_0 k (IntKind.i64.wrap (x4 - x6)) v9 x6)) ((slices_swapRangeCmpFunc_int K x5 (IntKind.i64.wrap (a2 - x4)) (IntKind.i64.wrap ((IntKind.i64.wrap (a2 + x6)) - x4)) x4 a4_0_0).bind fun v12 => chk (v12.length = x5.length) (slices_rotateCmpFunc_int_l1 K a0 a2 a4_0_0 k x4 v12 (IntKind.i64.wrap (x6 - x4))))) ((slices_swapRangeCmpFunc_int K x5 (IntKind.i64.wrap (a2 - x4)) a2 x4 a4_0_0).bind fun v15 => chk (v15.length = x5.length) (chk (v15.length = a0.length) (some v15)))

def slices_rotateCmpFunc_int (K : Nat) (a0 : (List Int)) (a1 : Int) (a2 : Int) (a3 : Int) (a4_0_0 : (List Int)) : Option ((List Int)) :=
  slices_rotateCmpFunc_int_l1 K a0 a2 a4_0_0 K (IntKind.i64.wrap (a2 - a1)) a0 (IntKind.i64.wrap (a3 - a2))

theorem ok_slices_rotateCmpFunc_int (K : Nat) (a0 : (List Int)) (a1 : Int) (a2 : Int) (a3 : Int) (a4_0_0 : (List Int)) (o : ((List Int))) (h : slices_rotateCmpFunc_int K a0 a1 a2 a3 a4_0_0 = some o) : MutOK Try.prog 22 [(.one (.mu (sl 1 (csI .i64) a0) (sl 1 (csI .i64) o))), (.one (.ro (.int .i64 a1))), (.one (.ro (.int .i64 a2))), (.one (.ro (.int .i64 a3))), (.one (.ro (.fn 15 1 fun j => [(pl 1 (csL 1 (csI .i64)) a4_0_0)].getD j .nilptr)))] [] := by
  refine mutOK_of_AW 1 Try.func22 rfl (by kernel_rfl) (Nat.le_of_ble_eq_true (by kernel_rfl)) (by kernel_rfl) (by kernel_rfl) ?_
  intro w0 K0 v0 s0
  unfold slices_rotateCmpFunc_int at h
  refine AW.seq (AW.rA ⟨[(0, (.v (.one (.arr 0)))), (1, (vc (.int .i64 a1))), (2, (vc (.int .i64 a2))), (3, (vc (.int .i64 a3))), (4, (vc (.fn 15 1 fun j => [(pl 1 (csL 1 (csI .i64)) a4_0_0)].getD j .nilptr))), (10, (vc (.int .i64 (IntKind.i64.wrap (a2 - a1)))))], [(0, (.arr true a0.length 1 (gl (csI .i64) a0)))]⟩ (T4 Tt) [] [0, 1, 2, 3, 4, 10] [0] ⟨tr, tr, tr, tr, tr⟩ (thenQ_normal ?_))
  refine AW.seq (AW.rA ⟨[(0, (.v (.one (.arr 0)))), (1, (vc (.int .i64 a1))), (2, (vc (.int .i64 a2))), (3, (vc (.int .i64 a3))), (4, (vc (.fn 15 1 fun j => [(pl 1 (csL 1 (csI .i64)) a4_0_0)].getD j .nilptr))), (10, (vc (.int .i64 (IntKind.i64.wrap (a2 - a1))))), (11, (vc (.int .i64 (IntKind.i64.wrap (a3 - a2)))))], [(0, (.arr true a0.length 1 (gl (csI .i64) a0)))]⟩ (T4 Tt) [] [0, 1, 2, 3, 4, 10, 11] [0] ⟨tr, tr, tr, tr, tr⟩ (thenQ_normal ?_))
  refine AW.seq ?_
  refine AW.block ?_
  refine AW.loopQ (σ := Nat × Int × (List Int) × Int) (fun p => ⟨[(0, (.v (.one (.arr 0)))), (1, (vc (.int .i64 a1))), (2, (vc (.int .i64 a2))), (3, (vc (.int .i64 a3))), (4, (vc (.fn 15 1 fun j => [(pl 1 (csL 1 (csI .i64)) a4_0_0)].getD j .nilptr))), (10, (vc (.int .i64 p.2.1))), (11, (vc (.int .i64 p.2.2.2)))], [(0, (.arr true p.2.2.1.length 1 (gl (csI .i64) p.2.2.1)))]⟩) (fun p => slices_rotateCmpFunc_int_l1 K a0 a2 a4_0_0 p.1 p.2.1 p.2.2.1 p.2.2.2 = some o) (fun p => p.1) (K, (IntKind.i64.wrap (a2 - a1)), a0, (IntKind.i64.wrap (a3 - a2))) h ?_
  clear h
  rintro ⟨k, x4, x5, x6⟩ h
  replace h : slices_rotateCmpFunc_int_l1 K a0 a2 a4_0_0 k x4 x5 x6 = some o := h
  show AW _ _ (⟨[(0, (.v (.one (.arr 0)))), (1, (vc (.int .i64 a1))), (2, (vc (.int .i64 a2))), (3, (vc (.int .i64 a3))), (4, (vc (.fn 15 1 fun j => [(pl 1 (csL 1 (csI .i64)) a4_0_0)].getD j .nilptr))), (10, (vc (.int .i64 x4))), (11, (vc (.int .i64 x6)))], [(0, (.arr true x5.length 1 (gl (csI .i64) x5)))]⟩ : St) _
  obtain _ | k := k
  · rw [slices_rotateCmpFunc_int_l1] at h; cases h
  rw [slices_rotateCmpFunc_int_l1] at h
  refine AW.seq ?_
  refine AW.seq (AW.rA ⟨[(0, (.v (.one (.arr 0)))), (1, (vc (.int .i64 a1))), (2, (vc (.int .i64 a2))), (3, (vc (.int .i64 a3))), (4, (vc (.fn 15 1 fun j => [(pl 1 (csL 1 (csI .i64)) a4_0_0)].getD j .nilptr))), (10, (vc (.int .i64 x4))), (11, (vc (.int .i64 x6))), (20, (vc (.bool (x4 != x6))))], [(0, (.arr true x5.length 1 (gl (csI .i64) x5)))]⟩ (Tt ∧ T2 Tt) [] [0, 1, 2, 3, 4, 10, 11, 20] [0] ⟨tr, tr, tr, tr⟩ (thenQ_normal ?_))
  rcases ite2_cases h with ⟨b7, h⟩ | ⟨b7, h⟩
  · refine AW.cond_t rfl b7 ?_
    refine AW.skip ?_
    refine thenQ_normal ?_
    refine AW.block ?_
    refine AW.seq (AW.rA ⟨[(0, (.v (.one (.arr 0)))), (1, (vc (.int .i64 a1))), (2, (vc (.int .i64 a2))), (3, (vc (.int .i64 a3))), (4, (vc (.fn 15 1 fun j => [(pl 1 (csL 1 (csI .i64)) a4_0_0)].getD j .nilptr))), (10, (vc (.int .i64 x4))), (11, (vc (.int .i64 x6))), (23, (vc (.bool (decide (x4 > x6)))))], [(0, (.arr true x5.length 1 (gl (csI .i64) x5)))]⟩ (Tt ∧ T2 Tt) [] [0, 1, 2, 3, 4, 10, 11, 23] [0] ⟨tr, tr, tr, tr⟩ (thenQ_normal ?_))
    rcases ite2_cases h with ⟨b8, h⟩ | ⟨b8, h⟩
    · refine AW.cond_t rfl b8 ?_
      refine AW.seq ?_
      obtain ⟨v9, e10, h⟩ := bind_some h
      obtain ⟨c11, h⟩ := chk_some h
      refine AW.rA ⟨[(0, (.v (.one (.arr 0)))), (1, (vc (.int .i64 a1))), (2, (vc (.int .i64 a2))), (3, (vc (.int .i64 a3))), (4, (vc (.fn 15 1 fun j => [(pl 1 (csL 1 (csI .i64)) a4_0_0)].getD j .nilptr))), (10, (vc (.int .i64 x4))), (11, (vc (.int .i64 x6)))], [(0, (.arr true v9.length 1 (gl (csI .i64) v9)))]⟩ (Tt ∧ T2 (T4 ((((((sl 1 (csI .i64) x5) : C) = (sl 1 (csI .i64) x5) ∧ v9.length = x5.length ∧ 1 = 1 ∧ ∀ i j, i < x5.length → j < 1 → isSeq (gl (csI .i64) v9 i j) = isSeq (gl (csI .i64) x5 i j)) ∧ (Eqc (.int .i64 (IntKind.i64.wrap (a2 - x4)))) ∧ (Eqc (.int .i64 a2)) ∧ (Eqc (.int .i64 x6)) ∧ (Eqc (.fn 15 1 fun j => [(pl 1 (csL 1 (csI .i64)) a4_0_0)].getD j .nilptr)) ∧ Tt) ∧ MutOK Try.prog 23 [(.one (.mu (sl 1 (csI .i64) x5) (sl 1 (csI .i64) v9))), .one (.ro (.int .i64 (IntKind.i64.wrap (a2 - x4)))), .one (.ro (.int .i64 a2)), .one (.ro (.int .i64 x6)), .one (.ro (.fn 15 1 fun j => [(pl 1 (csL 1 (csI .i64)) a4_0_0)].getD j .nilptr))] []) ∧ Tt))) [.no, .no, .no, .no, .no, .no, .no, .callM [(.one (.mu (sl 1 (csI .i64) x5) (sl 1 (csI .i64) v9))), .one (.ro (.int .i64 (IntKind.i64.wrap (a2 - x4)))), .one (.ro (.int .i64 a2)), .one (.ro (.int .i64 x6)), .one (.ro (.fn 15 1 fun j => [(pl 1 (csL 1 (csI .i64)) a4_0_0)].getD j .nilptr))] [] [] none] [0, 1, 2, 3, 4, 10, 11] [0] ⟨tr, tr, tr, tr, tr, tr, tr, ⟨⟨⟨rfl, c11, rfl, gl_seq sqI⟩, rfl, rfl, rfl, rfl, tr⟩, ok_slices_swapRangeCmpFunc_int K x5 (IntKind.i64.wrap (a2 - x4)) a2 x6 a4_0_0 v9 e10⟩, tr⟩ ?_
      refine thenQ_normal ?_
      refine AW.rA ⟨[(0, (.v (.one (.arr 0)))), (1, (vc (.int .i64 a1))), (2, (vc (.int .i64 a2))), (3, (vc (.int .i64 a3))), (4, (vc (.fn 15 1 fun j => [(pl 1 (csL 1 (csI .i64)) a4_0_0)].getD j .nilptr))), (10, (vc (.int .i64 (IntKind.i64.wrap (x4 - x6))))), (11, (vc (.int .i64 x6)))], [(0, (.arr true v9.length 1 (gl (csI .i64) v9)))]⟩ (T4 Tt) [] [0, 1, 2, 3, 4, 10, 11] [0] ⟨tr, tr, tr, tr, tr⟩ ?_
      refine blockQ_normal ?_
      exact loopQ_normal (k, (IntKind.i64.wrap (x4 - x6)), v9, x6) h (Nat.lt_succ_self k) (Sub.keep [0, 1, 2, 3, 4, 10, 11] [0] (by kernel_rfl) (by kernel_rfl))
    · refine AW.cond_f rfl b8 ?_
      refine AW.seq ?_
      obtain ⟨v12, e13, h⟩ := bind_some h
      obtain ⟨c14, h⟩ := chk_some h
      refine AW.rA ⟨[(0, (.v (.one (.arr 0)))), (1, (vc (.int .i64 a1))), (2, (vc (.int .i64 a2))), (3, (vc (.int .i64 a3))), (4, (vc (.fn 15 1 fun j => [(pl 1 (csL 1 (csI .i64)) a4_0_0)].getD j .nilptr))), (10, (vc (.int .i64 x4))), (11, (vc (.int .i64 x6)))], [(0, (.arr true v12.length 1 (gl (csI .i64) v12)))]⟩ (Tt ∧ T2 (T4 (T4 ((((((sl 1 (csI .i64) x5) : C) = (sl 1 (csI .i64) x5) ∧ v12.length = x5.length ∧ 1 = 1 ∧ ∀ i j, i < x5.length → j < 1 → isSeq (gl (csI .i64) v12 i j) = isSeq (gl (csI .i64) x5 i j)) ∧ (Eqc (.int .i64 (IntKind.i64.wrap (a2 - x4)))) ∧ (Eqc (.int .i64 (IntKind.i64.wrap ((IntKind.i64.wrap (a2 + x6)) - x4)))) ∧ (Eqc (.int .i64 x4)) ∧ (Eqc (.fn 15 1 fun j => [(pl 1 (csL 1 (csI .i64)) a4_0_0)].getD j .nilptr)) ∧ Tt) ∧ MutOK Try.prog 23 [(.one (.mu (sl 1 (csI .i64) x5) (sl 1 (csI .i64) v12))), .one (.ro (.int .i64 (IntKind.i64.wrap (a2 - x4)))), .one (.ro (.int .i64 (IntKind.i64.wrap ((IntKind.i64.wrap (a2 + x6)) - x4)))), .one (.ro (.int .i64 x4)), .one (.ro (.fn 15 1 fun j => [(pl 1 (csL 1 (csI .i64)) a4_0_0)].getD j .nilptr))] []) ∧ Tt)))) [.no, .no, .no, .no, .no, .no, .no, .no, .no, .no, .no, .callM [(.one (.mu (sl 1 (csI .i64) x5) (sl 1 (csI .i64) v12))), .one (.ro (.int .i64 (IntKind.i64.wrap (a2 - x4)))), .one (.ro (.int .i64 (IntKind.i64.wrap ((IntKind.i64.wrap (a2 + x6)) - x4)))), .one (.ro (.int .i64 x4)), .one (.ro (.fn 15 1 fun j => [(pl 1 (csL 1 (csI .i64)) a4_0_0)].getD j .nilptr))] [] [] none] [0, 1, 2, 3, 4, 10, 11] [0] ⟨tr, tr, tr, tr, tr, tr, tr, tr, tr, tr, tr, ⟨⟨⟨rfl, c14, rfl, gl_seq sqI⟩, rfl, rfl, rfl, rfl, tr⟩, ok_slices_swapRangeCmpFunc_int K x5 (IntKind.i64.wrap (a2 - x4)) (IntKind.i64.wrap ((IntKind.i64.wrap (a2 + x6)) - x4)) x4 a4_0_0 v12 e13⟩, tr⟩ ?_
      refine thenQ_normal ?_
      refine AW.rA ⟨[(0, (.v (.one (.arr 0)))), (1, (vc (.int .i64 a1))), (2, (vc (.int .i64 a2))), (3, (vc (.int .i64 a3))), (4, (vc (.fn 15 1 fun j => [(pl 1 (csL 1 (csI .i64)) a4_0_0)].getD j .nilptr))), (10, (vc (.int .i64 x4))), (11, (vc (.int .i64 (IntKind.i64.wrap (x6 - x4)))))], [(0, (.arr true v12.length 1 (gl (csI .i64) v12)))]⟩ (T4 Tt) [] [0, 1, 2, 3, 4, 10, 11] [0] ⟨tr, tr, tr, tr, tr⟩ ?_
      refine blockQ_normal ?_
      exact loopQ_normal (k, x4, v12, (IntKind.i64.wrap (x6 - x4))) h (Nat.lt_succ_self k) (Sub.keep [0, 1, 2, 3, 4, 10, 11] [0] (by kernel_rfl) (by kernel_rfl))
  · refine AW.cond_f rfl b7 ?_
    refine AW.exit ?_
    refine thenQ_exit ?_
    refine loopQ_exit ?_
    refine blockQ_exit ?_
    refine thenQ_normal ?_
    obtain ⟨v15, e16, h⟩ := bind_some h
    obtain ⟨c17, h⟩ := chk_some h
    refine AW.rA ⟨[(0, (.v (.one (.arr 0)))), (1, (vc (.int .i64 a1))), (2, (vc (.int .i64 a2))), (3, (vc (.int .i64 a3))), (4, (vc (.fn 15 1 fun j => [(pl 1 (csL 1 (csI .i64)) a4_0_0)].getD j .nilptr)))], [(0, (.arr true v15.length 1 (gl (csI .i64) v15)))]⟩ (Tt ∧ T2 (T4 ((((((sl 1 (csI .i64) x5) : C) = (sl 1 (csI .i64) x5) ∧ v15.length = x5.length ∧ 1 = 1 ∧ ∀ i j, i < x5.length → j < 1 → isSeq (gl (csI .i64) v15 i j) = isSeq (gl (csI .i64) x5 i j)) ∧ (Eqc (.int .i64 (IntKind.i64.wrap (a2 - x4)))) ∧ (Eqc (.int .i64 a2)) ∧ (Eqc (.int .i64 x4)) ∧ (Eqc (.fn 15 1 fun j => [(pl 1 (csL 1 (csI .i64)) a4_0_0)].getD j .nilptr)) ∧ Tt) ∧ MutOK Try.prog 23 [(.one (.mu (sl 1 (csI .i64) x5) (sl 1 (csI .i64) v15))), .one (.ro (.int .i64 (IntKind.i64.wrap (a2 - x4)))), .one (.ro (.int .i64 a2)), .one (.ro (.int .i64 x4)), .one (.ro (.fn 15 1 fun j => [(pl 1 (csL 1 (csI .i64)) a4_0_0)].getD j .nilptr))] []) ∧ Tt))) [.no, .no, .no, .no, .no, .no, .no, .callM [(.one (.mu (sl 1 (csI .i64) x5) (sl 1 (csI .i64) v15))), .one (.ro (.int .i64 (IntKind.i64.wrap (a2 - x4)))), .one (.ro (.int .i64 a2)), .one (.ro (.int .i64 x4)), .one (.ro (.fn 15 1 fun j => [(pl 1 (csL 1 (csI .i64)) a4_0_0)].getD j .nilptr))] [] [] none] [0, 1, 2, 3, 4] [0] ⟨tr, tr, tr, tr, tr, tr, tr, ⟨⟨⟨rfl, c17, rfl, gl_seq sqI⟩, rfl, rfl, rfl, rfl, tr⟩, ok_slices_swapRangeCmpFunc_int K x5 (IntKind.i64.wrap (a2 - x4)) a2 x4 a4_0_0 v15 e16⟩, tr⟩ ?_
    obtain ⟨c18, h⟩ := chk_some h
    replace h := some_eq h
    subst h
    exact ⟨.inl rfl, retOK_of [] (by kernel_rfl) tr (of_decide_eq_true (by kernel_rfl)), by kernel_rfl, ⟨⟨c18, rfl, rfl⟩, tr, tr, tr, tr, tr⟩⟩

end
end Go.Fw
