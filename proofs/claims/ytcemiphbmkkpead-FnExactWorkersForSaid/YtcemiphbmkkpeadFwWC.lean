/- Functions of the program: what each computes, and that it computes just that. -/
import Derived.Test.YtcemiphbmkkpeadFwTy
import Derived.Test.YtcemiphbmkkpeadFwH
import Derived.Test.YtcemiphbmkkpeadFwV
import Derived.Test.YtcemiphbmkkpeadFwWC2
import Derived.Test.YtcemiphbmkkpeadFwHF
import Derived.Test.YtcemiphbmkkpeadFwMK
import Derived.Test.YtcemiphbmkkpeadProg
import Derived.KernelRfl
namespace Go.Fw
open Go Go.Proofs
noncomputable section
set_option maxRecDepth 10000

/-! impl.WorkersFor -/
def impl_WorkersFor_l2 (K : Nat) (a0 : (List Int)) (v17 : ((List Int))) : Nat → Int → (List Int) → (List Int) → Option ((List Int) × Bool)
  | 0, _, _, _ => none
  | k + 1, x25, x26, x27 => ite2 ((decide (x25 < (v17.length : Int)))) (chk (0 ≤ x25 ∧ x25 < (v17.length : Int)) ((slices_Min_int64_int64 K x26).bind fun v30 => (slices_Index_int64_int64 K x26 v30).bind fun v32 => chk (0 ≤ v32 ∧ v32 < (x26.length : Int)) (chk (0 ≤ (v17.getD x25.toNat default) ∧ (v17.getD x25.toNat default) < (a0.length : Int)) (chk (0 ≤ (v17.getD x25.toNat default) ∧ (v17.getD x25.toNat default) < (x27.length : Int)) (impl_WorkersFor_l2 K a0 v17 k (IntKind.i64.wrap (x25 + (1 : Int))) (x26.set v32.toNat (IntKind.i64.wrap ((x26.getD v32.toNat default) + (a0.getD ((v17.getD x25.toNat default).toNat) default)))) (x27.set ((v17.getD x25.toNat default).toNat) v32)))))) (some (x27, true))

def impl_WorkersFor_l1 (K : Nat) (a0 : (List Int)) (a1 : Int) : Nat → Int → (List Int) → Option ((List Int) × Bool)
  | 0, _, _ => none
  | k + 1, x13, x14 => ite2 ((decide (x13 < ((List.replicate (a0.length : Int).toNat (default : Int)).length : Int)))) (chk (0 ≤ x13 ∧ x13 < (x14.length : Int)) (impl_WorkersFor_l1 K a0 a1 k (IntKind.i64.wrap (x13 + (1 : Int))) (x14.set x13.toNat x13))) ((slices_SortStableFunc_int_int K x14 a0).bind fun v17 => chk (v17.length = x14.length) (chk (0 ≤ a1 ∧ a1.toNat * 8 ≤ 140737488355328) (chk (0 ≤ (a0.length : Int) ∧ (a0.length : Int).toNat * 8 ≤ 140737488355328) (impl_WorkersFor_l2 K a0 v17 K (0 : Int) (List.replicate a1.toNat (default : Int)) (List.replicate (a0.length : Int).toNat (default : Int))))))

def impl_WorkersFor (K : Nat) (a0 : (List Int)) (a1 : Int) : Option ((List Int) × Bool) :=
  (ite2 ((decide ((a0.length : Int) > (64 : Int)))) (some true) ((impl_areWorkers K a1).bind fun v2 => ite2 ((!v2)) (some true) ((slices_ContainsFunc_int64_int64 K a0).bind fun v5 => some v5))).bind fun j7 => ite2 (j7) (some (([] : (List Int)), false)) (chk (0 ≤ (a0.length : Int) ∧ (a0.length : Int).toNat * 8 ≤ 140737488355328) (impl_WorkersFor_l1 K a0 a1 K (0 : Int) (List.replicate (a0.length : Int).toNat (default : Int))))

theorem ok_impl_WorkersFor (K : Nat) (a0 : (List Int)) (a1 : Int) (o : ((List Int) × Bool)) (h : impl_WorkersFor K a0 a1 = some o) : CallOK Try.prog 6 [.one (sl 1 (csI .i64) a0), .one (.int .i64 a1)] [.one (sl 1 (csI .i64) o.1), .one (.bool o.2)] := by
  refine callOK_of_AW Try.func6 rfl (by kernel_rfl) (Nat.le_of_ble_eq_true (by kernel_rfl)) ?_
  intro w0
  unfold impl_WorkersFor at h
  refine AW.seq (AW.rA ⟨[(1, (vc (.int .i64 a1))), (2, (vp 1 0))], [(1, (.box [(.c (sl 1 (csI .i64) a0))]))]⟩ (Tt ∧ T2 Tt) [.box 1] [1, 2] [1] ⟨tr, tr, tr, tr⟩ (thenQ_normal ?_))
  refine AW.seq ?_
  refine AW.seq ?_
  obtain ⟨j7, e8, h⟩ := bind_some h
  refine AW.join1 (s2 := ⟨[(1, (vc (.int .i64 a1))), (2, (vp 1 0)), (24, (vc (.bool j7)))], [(1, (.box [(.c (sl 1 (csI .i64) a0))]))]⟩) ?_ ?_
  · rcases ite2_cases e8 with ⟨b1, e8⟩ | ⟨b1, e8⟩
    · replace e8 := some_eq e8
      subst e8
      exact AW.rA ⟨[(1, (vc (.int .i64 a1))), (2, (vp 1 0)), (24, (vc (.bool true)))], [(1, (.box [(.c (sl 1 (csI .i64) a0))]))]⟩ (Tt ∧ T2 ((Tt ∧ (decide ((a0.length : Int) > (64 : Int))) = true) ∧ T4 (T4 Tt))) [.no, .no, .no, .dec true] [1, 2, 24] [1] ⟨tr, tr, tr, ⟨tr, b1⟩, tr, tr, tr, tr, tr, tr, tr, tr, tr⟩ ⟨rfl, rfl⟩
    · obtain ⟨v2, e3, e8⟩ := bind_some e8
      rcases ite2_cases e8 with ⟨b4, e8⟩ | ⟨b4, e8⟩
      · replace e8 := some_eq e8
        subst e8
        exact AW.rA ⟨[(1, (vc (.int .i64 a1))), (2, (vp 1 0)), (24, (vc (.bool true)))], [(1, (.box [(.c (sl 1 (csI .i64) a0))]))]⟩ (Tt ∧ T2 ((Tt ∧ (decide ((a0.length : Int) > (64 : Int))) = false) ∧ Tt ∧ (((Eqc (.int .i64 a1)) ∧ Tt) ∧ CallOK Try.prog 11 [.one (.int .i64 a1)] [.one (.bool v2)]) ∧ T2 ((Tt ∧ (!v2) = true) ∧ Tt ∧ T2 Tt))) [.no, .no, .no, .dec false, .no, .call [.one (.int .i64 a1)] [.one (.bool v2)] [[.view]], .no, .no, .dec true] [1, 2, 24] [1] ⟨tr, tr, tr, ⟨tr, b1⟩, tr, ⟨⟨rfl, tr⟩, ok_impl_areWorkers K a1 v2 e3⟩, tr, tr, ⟨tr, b4⟩, tr, tr, tr, tr⟩ ⟨rfl, rfl⟩
      · obtain ⟨v5, e6, e8⟩ := bind_some e8
        replace e8 := some_eq e8
        subst e8
        exact AW.rA ⟨[(1, (vc (.int .i64 a1))), (2, (vp 1 0)), (24, (vc (.bool v5)))], [(1, (.box [(.c (sl 1 (csI .i64) a0))]))]⟩ (Tt ∧ T2 ((Tt ∧ (decide ((a0.length : Int) > (64 : Int))) = false) ∧ Tt ∧ (((Eqc (.int .i64 a1)) ∧ Tt) ∧ CallOK Try.prog 11 [.one (.int .i64 a1)] [.one (.bool v2)]) ∧ T2 ((Tt ∧ (!v2) = false) ∧ Tt ∧ (((Eqc (sl 1 (csI .i64) a0)) ∧ (Eqc (.fn 13 0 fun _ => .nilptr)) ∧ Tt) ∧ CallOK Try.prog 12 [.one (sl 1 (csI .i64) a0), .one (.fn 13 0 fun _ => .nilptr)] [.one (.bool v5)]) ∧ Tt ∧ Tt))) [.no, .no, .no, .dec false, .no, .call [.one (.int .i64 a1)] [.one (.bool v2)] [[.view]], .no, .no, .dec false, .no, .call [.one (sl 1 (csI .i64) a0), .one (.fn 13 0 fun _ => .nilptr)] [.one (.bool v5)] [[.view]]] [1, 2, 24] [1] ⟨tr, tr, tr, ⟨tr, b1⟩, tr, ⟨⟨rfl, tr⟩, ok_impl_areWorkers K a1 v2 e3⟩, tr, tr, ⟨tr, b4⟩, tr, ⟨⟨rfl, rfl, tr⟩, ok_slices_ContainsFunc_int64_int64 K a0 v5 e6⟩, tr, tr⟩ ⟨rfl, rfl⟩
  refine thenQ_normal ?_
  rcases ite2_cases h with ⟨b9, h⟩ | ⟨b9, h⟩
  · refine AW.cond_t rfl b9 ?_
    refine AW.seq (AW.rA ⟨[(4, (.v (.one .nils))), (5, (vc (.bool false)))], []⟩ (T2 Tt) [] [4, 5] [] ⟨tr, tr, tr⟩ (thenQ_normal ?_))
    refine AW.ret ?_
    refine thenQ_ret ?_
    replace h := some_eq h
    subst h
    exact ⟨.inr rfl, retOK_of [(.one .nils), (.one (.c (.bool false)))] (by kernel_rfl) ⟨rfl, ⟨rfl, tr⟩, tr⟩ (of_decide_eq_true (by kernel_rfl))⟩
  · refine AW.cond_f rfl b9 ?_
    refine AW.skip ?_
    refine thenQ_normal ?_
    refine AW.seq ?_
    obtain ⟨c10, h⟩ := chk_some h
    refine AW.rA ⟨[(1, (vc (.int .i64 a1))), (2, (vp 1 0)), (6, (.v (.one (.arr 2))))], [(1, (.box [(.c (sl 1 (csI .i64) a0))])), (2, (.arr true (List.replicate (a0.length : Int).toNat (default : Int)).length 1 (gl (csI .i64) (List.replicate (a0.length : Int).toNat (default : Int)))))]⟩ (T2 ((0 ≤ (a0.length : Int) ∧ (a0.length : Int) = (a0.length : Int) ∧ (((List.replicate (a0.length : Int).toNat (default : Int)).length : Nat) : Int) = (a0.length : Int) ∧ (List.replicate (a0.length : Int).toNat (default : Int)).length * 8 ≤ 140737488355328 ∧ ∀ i, i < (List.replicate (a0.length : Int).toNat (default : Int)).length → zeroRow (fun _ => none) [(.c (.int .i64 (0 : Int)))] (gl (csI .i64) (List.replicate (a0.length : Int).toNat (default : Int)) i)) ∧ Tt ∧ Tt)) [.no, .no, .objD 2 (List.replicate (a0.length : Int).toNat (default : Int)).length (gl (csI .i64) (List.replicate (a0.length : Int).toNat (default : Int)))] [1, 2, 6] [1, 2] ⟨tr, tr, ⟨c10.1, rfl, len_rep c10.1, rep_bytes c10.2, fun i hi => gl_zero (cs := (csI .i64)) (zs := [(.c (.int .i64 (0 : Int)))]) (n := (a0.length : Int).toNat) ⟨⟨rfl, tr⟩, tr⟩ i (rep_lt hi)⟩, tr, tr⟩ ?_
    refine thenQ_normal ?_
    refine AW.seq ?_
    refine AW.seq (AW.rA ⟨[(1, (vc (.int .i64 a1))), (2, (vp 1 0)), (6, (.v (.one (.arr 2)))), (29, (vc (.int .i64 ((List.replicate (a0.length : Int).toNat (default : Int)).length : Int)))), (30, (vc (.int .i64 (0 : Int))))], [(1, (.box [(.c (sl 1 (csI .i64) a0))])), (2, (.arr true (List.replicate (a0.length : Int).toNat (default : Int)).length 1 (gl (csI .i64) (List.replicate (a0.length : Int).toNat (default : Int)))))]⟩ (Tt ∧ T2 Tt) [] [1, 2, 6, 29, 30] [1, 2] ⟨tr, tr, tr, tr⟩ (thenQ_normal ?_))
    refine AW.block ?_
    refine AW.loopQ (σ := Nat × Int × (List Int)) (fun p => ⟨[(1, (vc (.int .i64 a1))), (2, (vp 1 0)), (6, (.v (.one (.arr 2)))), (29, (vc (.int .i64 ((List.replicate (a0.length : Int).toNat (default : Int)).length : Int)))), (30, (vc (.int .i64 p.2.1)))], [(1, (.box [(.c (sl 1 (csI .i64) a0))])), (2, (.arr true p.2.2.length 1 (gl (csI .i64) p.2.2)))]⟩) (fun p => impl_WorkersFor_l1 K a0 a1 p.1 p.2.1 p.2.2 = some o) (fun p => p.1) (K, (0 : Int), (List.replicate (a0.length : Int).toNat (default : Int))) h ?_
    clear h
    rintro ⟨k, x13, x14⟩ h
    replace h : impl_WorkersFor_l1 K a0 a1 k x13 x14 = some o := h
    show AW _ _ (⟨[(1, (vc (.int .i64 a1))), (2, (vp 1 0)), (6, (.v (.one (.arr 2)))), (29, (vc (.int .i64 ((List.replicate (a0.length : Int).toNat (default : Int)).length : Int)))), (30, (vc (.int .i64 x13)))], [(1, (.box [(.c (sl 1 (csI .i64) a0))])), (2, (.arr true x14.length 1 (gl (csI .i64) x14)))]⟩ : St) _
    obtain _ | k := k
    · rw [impl_WorkersFor_l1] at h; cases h
    rw [impl_WorkersFor_l1] at h
    refine AW.seq (AW.rA ⟨[(1, (vc (.int .i64 a1))), (2, (vp 1 0)), (6, (.v (.one (.arr 2)))), (29, (vc (.int .i64 ((List.replicate (a0.length : Int).toNat (default : Int)).length : Int)))), (30, (vc (.int .i64 x13))), (31, (vc (.bool (decide (x13 < ((List.replicate (a0.length : Int).toNat (default : Int)).length : Int))))))], [(1, (.box [(.c (sl 1 (csI .i64) a0))])), (2, (.arr true x14.length 1 (gl (csI .i64) x14)))]⟩ (Tt ∧ Tt) [] [1, 2, 6, 29, 30, 31] [1, 2] ⟨tr, tr⟩ (thenQ_normal ?_))
    refine AW.seq ?_
    rcases ite2_cases h with ⟨b15, h⟩ | ⟨b15, h⟩
    · refine AW.cond_t rfl b15 ?_
      refine AW.skip ?_
      refine thenQ_normal ?_
      refine AW.seq ?_
      refine AW.block ?_
      refine AW.seq (AW.rA ⟨[(1, (vc (.int .i64 a1))), (2, (vp 1 0)), (6, (.v (.one (.arr 2)))), (7, (vc (.int .i64 x13))), (29, (vc (.int .i64 ((List.replicate (a0.length : Int).toNat (default : Int)).length : Int)))), (30, (vc (.int .i64 x13)))], [(1, (.box [(.c (sl 1 (csI .i64) a0))])), (2, (.arr true x14.length 1 (gl (csI .i64) x14)))]⟩ (T2 Tt) [] [1, 2, 6, 7, 29, 30] [1, 2] ⟨tr, tr, tr⟩ (thenQ_normal ?_))
      obtain ⟨c16, h⟩ := chk_some h
      refine AW.rA ⟨[(1, (vc (.int .i64 a1))), (2, (vp 1 0)), (6, (.v (.one (.arr 2)))), (29, (vc (.int .i64 ((List.replicate (a0.length : Int).toNat (default : Int)).length : Int)))), (30, (vc (.int .i64 x13)))], [(1, (.box [(.c (sl 1 (csI .i64) a0))])), (2, (.arr true (x14.set x13.toNat x13).length 1 (gl (csI .i64) (x14.set x13.toNat x13))))]⟩ (Tt ∧ T2 ((0 ≤ x13 ∧ x13 < (x14.length : Int)) ∧ ((x14.set x13.toNat x13).length = x14.length ∧ SetOb x14.length 1 x13.toNat 0 1 (gl (csI .i64) x14) (gl (csI .i64) (x14.set x13.toNat x13)) ∧ ((List.range 1).map fun j => ((csI .i64) x13).getD (0 + j) .nilptr) = ((List.range 1).map fun j => gl (csI .i64) (x14.set x13.toNat x13) x13.toNat (0 + j)) ∧ ((((.int .i64 x13) : C) = (.int .i64 x13) ∧ Tt) ∧ Tt) ∧ (true = true → ∀ j, j < 1 → isSeq (gl (csI .i64) x14 x13.toNat (0 + j)) = false ∧ isSeq (gl (csI .i64) (x14.set x13.toNat x13) x13.toNat (0 + j)) = false)) ∧ Tt)) [.no, .no, .no, .no, .set (x14.set x13.toNat x13).length (gl (csI .i64) (x14.set x13.toNat x13)) ((List.range 1).map fun j => ((csI .i64) x13).getD (0 + j) .nilptr)] [1, 2, 6, 29, 30] [1, 2] ⟨tr, tr, tr, c16, ⟨List.length_set, gl_set, (gl_atp (lt_of_bound c16)).symm, ⟨⟨rfl, tr⟩, tr⟩, (fun _ j hj => match j, hj with | 0, _ => ⟨rfl, rfl⟩)⟩, tr⟩ ?_
      refine blockQ_normal ?_
      refine thenQ_normal ?_
      refine AW.rA ⟨[(1, (vc (.int .i64 a1))), (2, (vp 1 0)), (6, (.v (.one (.arr 2)))), (29, (vc (.int .i64 ((List.replicate (a0.length : Int).toNat (default : Int)).length : Int)))), (30, (vc (.int .i64 (IntKind.i64.wrap (x13 + (1 : Int))))))], [(1, (.box [(.c (sl 1 (csI .i64) a0))])), (2, (.arr true (x14.set x13.toNat x13).length 1 (gl (csI .i64) (x14.set x13.toNat x13))))]⟩ (T2 Tt) [] [1, 2, 6, 29, 30] [1, 2] ⟨tr, tr, tr⟩ ?_
      exact loopQ_normal (k, (IntKind.i64.wrap (x13 + (1 : Int))), (x14.set x13.toNat x13)) h (Nat.lt_succ_self k) (Sub.keep [1, 2, 6, 29, 30] [1, 2] (by kernel_rfl) (by kernel_rfl))
    · refine AW.cond_f rfl b15 ?_
      refine AW.exit ?_
      refine thenQ_exit ?_
      refine loopQ_exit ?_
      refine blockQ_exit ?_
      refine thenQ_normal ?_
      refine AW.seq ?_
      obtain ⟨v17, e18, h⟩ := bind_some h
      obtain ⟨c19, h⟩ := chk_some h
      refine AW.rA ⟨[(1, (vc (.int .i64 a1))), (2, (vp 1 0)), (6, (.v (.one (.arr 2))))], [(1, (.box [(.c (sl 1 (csI .i64) a0))])), (2, (.arr true v17.length 1 (gl (csI .i64) v17)))]⟩ (T2 ((((((sl 1 (csI .i64) x14) : C) = (sl 1 (csI .i64) x14) ∧ v17.length = x14.length ∧ 1 = 1 ∧ ∀ i j, i < x14.length → j < 1 → isSeq (gl (csI .i64) v17 i j) = isSeq (gl (csI .i64) x14 i j)) ∧ (15 = 15 ∧ 1 = 1 ∧ ((Eqc (sl 1 (csI .i64) a0)) ∧ Tt) ∧ Tt) ∧ Tt) ∧ MutOK Try.prog 14 [(.one (.mu (sl 1 (csI .i64) x14) (sl 1 (csI .i64) v17))), .one (.ro (.fn 15 1 fun j => [(pl 1 (csL 1 (csI .i64)) a0)].getD j .nilptr))] []) ∧ Tt)) [.no, .no, .callM [(.one (.mu (sl 1 (csI .i64) x14) (sl 1 (csI .i64) v17))), .one (.ro (.fn 15 1 fun j => [(pl 1 (csL 1 (csI .i64)) a0)].getD j .nilptr))] [] [] none] [1, 2, 6] [1, 2] ⟨tr, tr, ⟨⟨⟨rfl, c19, rfl, gl_seq sqI⟩, ⟨rfl, rfl, ⟨⟨rfl, tr⟩, tr⟩⟩, tr⟩, ok_slices_SortStableFunc_int_int K x14 a0 v17 e18⟩, tr⟩ ?_
      refine thenQ_normal ?_
      refine AW.seq ?_
      obtain ⟨c20, h⟩ := chk_some h
      refine AW.rA ⟨[(2, (vp 1 0)), (6, (.v (.one (.arr 2)))), (8, (.v (.one (.arr 3))))], [(1, (.box [(.c (sl 1 (csI .i64) a0))])), (2, (.arr true v17.length 1 (gl (csI .i64) v17))), (3, (.arr false (List.replicate a1.toNat (default : Int)).length 1 (gl (csI .i64) (List.replicate a1.toNat (default : Int)))))]⟩ (Tt ∧ (0 ≤ a1 ∧ a1 = a1 ∧ (((List.replicate a1.toNat (default : Int)).length : Nat) : Int) = a1 ∧ (List.replicate a1.toNat (default : Int)).length * 8 ≤ 140737488355328 ∧ ∀ i, i < (List.replicate a1.toNat (default : Int)).length → zeroRow (fun _ => none) [(.c (.int .i64 (0 : Int)))] (gl (csI .i64) (List.replicate a1.toNat (default : Int)) i)) ∧ Tt ∧ Tt) [.no, .objA 3 (List.replicate a1.toNat (default : Int)).length (gl (csI .i64) (List.replicate a1.toNat (default : Int)))] [2, 6, 8] [1, 2, 3] ⟨tr, ⟨c20.1, rfl, len_rep c20.1, rep_bytes c20.2, fun i hi => gl_zero (cs := (csI .i64)) (zs := [(.c (.int .i64 (0 : Int)))]) (n := a1.toNat) ⟨⟨rfl, tr⟩, tr⟩ i (rep_lt hi)⟩, tr, tr⟩ ?_
      refine thenQ_normal ?_
      refine AW.seq ?_
      obtain ⟨c21, h⟩ := chk_some h
      refine AW.rA ⟨[(2, (vp 1 0)), (6, (.v (.one (.arr 2)))), (8, (.v (.one (.arr 3)))), (9, (.v (.one (.arr 4))))], [(1, (.box [(.c (sl 1 (csI .i64) a0))])), (2, (.arr true v17.length 1 (gl (csI .i64) v17))), (3, (.arr false (List.replicate a1.toNat (default : Int)).length 1 (gl (csI .i64) (List.replicate a1.toNat (default : Int))))), (4, (.arr false (List.replicate (a0.length : Int).toNat (default : Int)).length 1 (gl (csI .i64) (List.replicate (a0.length : Int).toNat (default : Int)))))]⟩ (T2 ((0 ≤ (a0.length : Int) ∧ (a0.length : Int) = (a0.length : Int) ∧ (((List.replicate (a0.length : Int).toNat (default : Int)).length : Nat) : Int) = (a0.length : Int) ∧ (List.replicate (a0.length : Int).toNat (default : Int)).length * 8 ≤ 140737488355328 ∧ ∀ i, i < (List.replicate (a0.length : Int).toNat (default : Int)).length → zeroRow (fun _ => none) [(.c (.int .i64 (0 : Int)))] (gl (csI .i64) (List.replicate (a0.length : Int).toNat (default : Int)) i)) ∧ Tt ∧ Tt)) [.no, .no, .objA 4 (List.replicate (a0.length : Int).toNat (default : Int)).length (gl (csI .i64) (List.replicate (a0.length : Int).toNat (default : Int)))] [2, 6, 8, 9] [1, 2, 3, 4] ⟨tr, tr, ⟨c21.1, rfl, len_rep c21.1, rep_bytes c21.2, fun i hi => gl_zero (cs := (csI .i64)) (zs := [(.c (.int .i64 (0 : Int)))]) (n := (a0.length : Int).toNat) ⟨⟨rfl, tr⟩, tr⟩ i (rep_lt hi)⟩, tr, tr⟩ ?_
      refine thenQ_normal ?_
      refine AW.seq ?_
      refine AW.seq (AW.rA ⟨[(2, (vp 1 0)), (8, (.v (.one (.arr 3)))), (9, (.v (.one (.arr 4)))), (46, (.v (.one (.arr 2)))), (47, (vc (.int .i64 (v17.length : Int)))), (48, (vc (.int .i64 (0 : Int))))], [(1, (.box [(.c (sl 1 (csI .i64) a0))])), (2, (.arr true v17.length 1 (gl (csI .i64) v17))), (3, (.arr false (List.replicate a1.toNat (default : Int)).length 1 (gl (csI .i64) (List.replicate a1.toNat (default : Int))))), (4, (.arr false (List.replicate (a0.length : Int).toNat (default : Int)).length 1 (gl (csI .i64) (List.replicate (a0.length : Int).toNat (default : Int)))))]⟩ (Tt ∧ T2 Tt) [] [2, 8, 9, 46, 47, 48] [1, 2, 3, 4] ⟨tr, tr, tr, tr⟩ (thenQ_normal ?_))
      refine AW.block ?_
      refine AW.loopQ (σ := Nat × Int × (List Int) × (List Int)) (fun p => ⟨[(2, (vp 1 0)), (8, (.v (.one (.arr 3)))), (9, (.v (.one (.arr 4)))), (46, (.v (.one (.arr 2)))), (47, (vc (.int .i64 (v17.length : Int)))), (48, (vc (.int .i64 p.2.1)))], [(1, (.box [(.c (sl 1 (csI .i64) a0))])), (2, (.arr true v17.length 1 (gl (csI .i64) v17))), (3, (.arr false p.2.2.1.length 1 (gl (csI .i64) p.2.2.1))), (4, (.arr false p.2.2.2.length 1 (gl (csI .i64) p.2.2.2)))]⟩) (fun p => impl_WorkersFor_l2 K a0 v17 p.1 p.2.1 p.2.2.1 p.2.2.2 = some o) (fun p => p.1) (K, (0 : Int), (List.replicate a1.toNat (default : Int)), (List.replicate (a0.length : Int).toNat (default : Int))) h ?_
      clear h
      rintro ⟨k, x25, x26, x27⟩ h
      replace h : impl_WorkersFor_l2 K a0 v17 k x25 x26 x27 = some o := h
      show AW _ _ (⟨[(2, (vp 1 0)), (8, (.v (.one (.arr 3)))), (9, (.v (.one (.arr 4)))), (46, (.v (.one (.arr 2)))), (47, (vc (.int .i64 (v17.length : Int)))), (48, (vc (.int .i64 x25)))], [(1, (.box [(.c (sl 1 (csI .i64) a0))])), (2, (.arr true v17.length 1 (gl (csI .i64) v17))), (3, (.arr false x26.length 1 (gl (csI .i64) x26))), (4, (.arr false x27.length 1 (gl (csI .i64) x27)))]⟩ : St) _
      obtain _ | k := k
      · rw [impl_WorkersFor_l2] at h; cases h
      rw [impl_WorkersFor_l2] at h
      refine AW.seq (AW.rA ⟨[(2, (vp 1 0)), (8, (.v (.one (.arr 3)))), (9, (.v (.one (.arr 4)))), (46, (.v (.one (.arr 2)))), (47, (vc (.int .i64 (v17.length : Int)))), (48, (vc (.int .i64 x25))), (49, (vc (.bool (decide (x25 < (v17.length : Int))))))], [(1, (.box [(.c (sl 1 (csI .i64) a0))])), (2, (.arr true v17.length 1 (gl (csI .i64) v17))), (3, (.arr false x26.length 1 (gl (csI .i64) x26))), (4, (.arr false x27.length 1 (gl (csI .i64) x27)))]⟩ (Tt ∧ Tt) [] [2, 8, 9, 46, 47, 48, 49] [1, 2, 3, 4] ⟨tr, tr⟩ (thenQ_normal ?_))
      refine AW.seq ?_
      rcases ite2_cases h with ⟨b28, h⟩ | ⟨b28, h⟩
      · refine AW.cond_t rfl b28 ?_
        refine AW.skip ?_
        refine thenQ_normal ?_
        refine AW.seq ?_
        refine AW.block ?_
        refine AW.seq ?_
        obtain ⟨c29, h⟩ := chk_some h
        refine AW.rA ⟨[(2, (vp 1 0)), (8, (.v (.one (.arr 3)))), (9, (.v (.one (.arr 4)))), (11, (vc (.int .i64 (v17.getD x25.toNat default)))), (46, (.v (.one (.arr 2)))), (47, (vc (.int .i64 (v17.length : Int)))), (48, (vc (.int .i64 x25)))], [(1, (.box [(.c (sl 1 (csI .i64) a0))])), (2, (.arr true v17.length 1 (gl (csI .i64) v17))), (3, (.arr false x26.length 1 (gl (csI .i64) x26))), (4, (.arr false x27.length 1 (gl (csI .i64) x27)))]⟩ ((0 ≤ x25 ∧ x25 < (v17.length : Int)) ∧ T2 Tt) [] [2, 8, 9, 11, 46, 47, 48] [1, 2, 3, 4] ⟨c29, tr, tr, tr⟩ ?_
        refine thenQ_normal ?_
        refine AW.seq ?_
        obtain ⟨v30, e31, h⟩ := bind_some h
        obtain ⟨v32, e33, h⟩ := bind_some h
        refine AW.rA ⟨[(2, (vp 1 0)), (8, (.v (.one (.arr 3)))), (9, (.v (.one (.arr 4)))), (11, (vc (.int .i64 (v17.getD x25.toNat default)))), (12, (vc (.int .i64 v32))), (46, (.v (.one (.arr 2)))), (47, (vc (.int .i64 (v17.length : Int)))), (48, (vc (.int .i64 x25)))], [(1, (.box [(.c (sl 1 (csI .i64) a0))])), (2, (.arr true v17.length 1 (gl (csI .i64) v17))), (3, (.arr false x26.length 1 (gl (csI .i64) x26))), (4, (.arr false x27.length 1 (gl (csI .i64) x27)))]⟩ (T2 ((((Eqc (sl 1 (csI .i64) x26)) ∧ Tt) ∧ CallOK Try.prog 17 [.one (sl 1 (csI .i64) x26)] [.one (.int .i64 v30)]) ∧ (((Eqc (sl 1 (csI .i64) x26)) ∧ (Eqc (.int .i64 v30)) ∧ Tt) ∧ CallOK Try.prog 16 [.one (sl 1 (csI .i64) x26), .one (.int .i64 v30)] [.one (.int .i64 v32)]) ∧ Tt ∧ Tt)) [.no, .no, .call [.one (sl 1 (csI .i64) x26)] [.one (.int .i64 v30)] [[.view]], .call [.one (sl 1 (csI .i64) x26), .one (.int .i64 v30)] [.one (.int .i64 v32)] [[.view]]] [2, 8, 9, 11, 12, 46, 47, 48] [1, 2, 3, 4] ⟨tr, tr, ⟨⟨rfl, tr⟩, ok_slices_Min_int64_int64 K x26 v30 e31⟩, ⟨⟨rfl, rfl, tr⟩, ok_slices_Index_int64_int64 K x26 v30 v32 e33⟩, tr, tr⟩ ?_
        refine thenQ_normal ?_
        refine AW.seq ?_
        obtain ⟨c34, h⟩ := chk_some h
        obtain ⟨c35, h⟩ := chk_some h
        refine AW.dA ⟨[(2, (vp 1 0)), (8, (.v (.one (.arr 3)))), (9, (.v (.one (.arr 4)))), (11, (vc (.int .i64 (v17.getD x25.toNat default)))), (12, (vc (.int .i64 v32))), (46, (.v (.one (.arr 2)))), (47, (vc (.int .i64 (v17.length : Int)))), (48, (vc (.int .i64 x25)))], [(1, (.box [(.c (sl 1 (csI .i64) a0))])), (2, (.arr true v17.length 1 (gl (csI .i64) v17))), (3, (.arr false (x26.set v32.toNat (IntKind.i64.wrap ((x26.getD v32.toNat default) + (a0.getD ((v17.getD x25.toNat default).toNat) default)))).length 1 (gl (csI .i64) (x26.set v32.toNat (IntKind.i64.wrap ((x26.getD v32.toNat default) + (a0.getD ((v17.getD x25.toNat default).toNat) default))))))), (4, (.arr false x27.length 1 (gl (csI .i64) x27)))]⟩ ((T2 ((0 ≤ v32 ∧ v32 < (x26.length : Int)) ∧ Tt ∧ T2 ((0 ≤ (v17.getD x25.toNat default) ∧ (v17.getD x25.toNat default) < (a0.length : Int)) ∧ T2 ((0 ≤ v32 ∧ v32 < (x26.length : Int)) ∧ Tt)))) ∧ (((x26.set v32.toNat (IntKind.i64.wrap ((x26.getD v32.toNat default) + (a0.getD ((v17.getD x25.toNat default).toNat) default)))).length = x26.length ∧ SetOb x26.length 1 v32.toNat 0 1 (gl (csI .i64) x26) (gl (csI .i64) (x26.set v32.toNat (IntKind.i64.wrap ((x26.getD v32.toNat default) + (a0.getD ((v17.getD x25.toNat default).toNat) default))))) ∧ ((List.range 1).map fun j => ((csI .i64) (IntKind.i64.wrap ((x26.getD v32.toNat default) + (a0.getD ((v17.getD x25.toNat default).toNat) default)))).getD (0 + j) .nilptr) = ((List.range 1).map fun j => gl (csI .i64) (x26.set v32.toNat (IntKind.i64.wrap ((x26.getD v32.toNat default) + (a0.getD ((v17.getD x25.toNat default).toNat) default)))) v32.toNat (0 + j)) ∧ ((((.int .i64 (IntKind.i64.wrap ((x26.getD v32.toNat default) + (a0.getD ((v17.getD x25.toNat default).toNat) default)))) : C) = (.int .i64 (IntKind.i64.wrap ((x26.getD v32.toNat default) + (a0.getD ((v17.getD x25.toNat default).toNat) default)))) ∧ Tt) ∧ Tt) ∧ (false = true → ∀ j, j < 1 → isSeq (gl (csI .i64) x26 v32.toNat (0 + j)) = false ∧ isSeq (gl (csI .i64) (x26.set v32.toNat (IntKind.i64.wrap ((x26.getD v32.toNat default) + (a0.getD ((v17.getD x25.toNat default).toNat) default)))) v32.toNat (0 + j)) = false)) ∧ Tt)) 10 [.no, .no, .no, .no, .no, .no, .no, .no, .no, .no, .set (x26.set v32.toNat (IntKind.i64.wrap ((x26.getD v32.toNat default) + (a0.getD ((v17.getD x25.toNat default).toNat) default)))).length (gl (csI .i64) (x26.set v32.toNat (IntKind.i64.wrap ((x26.getD v32.toNat default) + (a0.getD ((v17.getD x25.toNat default).toNat) default))))) ((List.range 1).map fun j => ((csI .i64) (IntKind.i64.wrap ((x26.getD v32.toNat default) + (a0.getD ((v17.getD x25.toNat default).toNat) default)))).getD (0 + j) .nilptr)] [2, 8, 9, 11, 12, 46, 47, 48] [1, 2, 3, 4] ⟨⟨tr, tr, c34, tr, tr, tr, c35, tr, tr, c34, tr⟩, ⟨⟨List.length_set, gl_set, (gl_atp (lt_of_bound c34)).symm, ⟨⟨rfl, tr⟩, tr⟩, (fun h => nomatch h)⟩, tr⟩⟩ ?_
        refine thenQ_normal ?_
        obtain ⟨c36, h⟩ := chk_some h
        refine AW.rA ⟨[(2, (vp 1 0)), (8, (.v (.one (.arr 3)))), (9, (.v (.one (.arr 4)))), (46, (.v (.one (.arr 2)))), (47, (vc (.int .i64 (v17.length : Int)))), (48, (vc (.int .i64 x25)))], [(1, (.box [(.c (sl 1 (csI .i64) a0))])), (2, (.arr true v17.length 1 (gl (csI .i64) v17))), (3, (.arr false (x26.set v32.toNat (IntKind.i64.wrap ((x26.getD v32.toNat default) + (a0.getD ((v17.getD x25.toNat default).toNat) default)))).length 1 (gl (csI .i64) (x26.set v32.toNat (IntKind.i64.wrap ((x26.getD v32.toNat default) + (a0.getD ((v17.getD x25.toNat default).toNat) default))))))), (4, (.arr false (x27.set ((v17.getD x25.toNat default).toNat) v32).length 1 (gl (csI .i64) (x27.set ((v17.getD x25.toNat default).toNat) v32))))]⟩ (Tt ∧ T2 ((0 ≤ (v17.getD x25.toNat default) ∧ (v17.getD x25.toNat default) < (x27.length : Int)) ∧ ((x27.set ((v17.getD x25.toNat default).toNat) v32).length = x27.length ∧ SetOb x27.length 1 ((v17.getD x25.toNat default).toNat) 0 1 (gl (csI .i64) x27) (gl (csI .i64) (x27.set ((v17.getD x25.toNat default).toNat) v32)) ∧ ((List.range 1).map fun j => ((csI .i64) v32).getD (0 + j) .nilptr) = ((List.range 1).map fun j => gl (csI .i64) (x27.set ((v17.getD x25.toNat default).toNat) v32) ((v17.getD x25.toNat default).toNat) (0 + j)) ∧ ((((.int .i64 v32) : C) = (.int .i64 v32) ∧ Tt) ∧ Tt) ∧ (false = true → ∀ j, j < 1 → isSeq (gl (csI .i64) x27 ((v17.getD x25.toNat default).toNat) (0 + j)) = false ∧ isSeq (gl (csI .i64) (x27.set ((v17.getD x25.toNat default).toNat) v32) ((v17.getD x25.toNat default).toNat) (0 + j)) = false)) ∧ Tt)) [.no, .no, .no, .no, .set (x27.set ((v17.getD x25.toNat default).toNat) v32).length (gl (csI .i64) (x27.set ((v17.getD x25.toNat default).toNat) v32)) ((List.range 1).map fun j => ((csI .i64) v32).getD (0 + j) .nilptr)] [2, 8, 9, 46, 47, 48] [1, 2, 3, 4] ⟨tr, tr, tr, c36, ⟨List.length_set, gl_set, (gl_atp (lt_of_bound c36)).symm, ⟨⟨rfl, tr⟩, tr⟩, (fun h => nomatch h)⟩, tr⟩ ?_
        refine blockQ_normal ?_
        refine thenQ_normal ?_
        refine AW.rA ⟨[(2, (vp 1 0)), (8, (.v (.one (.arr 3)))), (9, (.v (.one (.arr 4)))), (46, (.v (.one (.arr 2)))), (47, (vc (.int .i64 (v17.length : Int)))), (48, (vc (.int .i64 (IntKind.i64.wrap (x25 + (1 : Int))))))], [(1, (.box [(.c (sl 1 (csI .i64) a0))])), (2, (.arr true v17.length 1 (gl (csI .i64) v17))), (3, (.arr false (x26.set v32.toNat (IntKind.i64.wrap ((x26.getD v32.toNat default) + (a0.getD ((v17.getD x25.toNat default).toNat) default)))).length 1 (gl (csI .i64) (x26.set v32.toNat (IntKind.i64.wrap ((x26.getD v32.toNat default) + (a0.getD ((v17.getD x25.toNat default).toNat) default))))))), (4, (.arr false (x27.set ((v17.getD x25.toNat default).toNat) v32).length 1 (gl (csI .i64) (x27.set ((v17.getD x25.toNat default).toNat) v32))))]⟩ (T2 Tt) [] [2, 8, 9, 46, 47, 48] [1, 2, 3, 4] ⟨tr, tr, tr⟩ ?_
        exact loopQ_normal (k, (IntKind.i64.wrap (x25 + (1 : Int))), (x26.set v32.toNat (IntKind.i64.wrap ((x26.getD v32.toNat default) + (a0.getD ((v17.getD x25.toNat default).toNat) default)))), (x27.set ((v17.getD x25.toNat default).toNat) v32)) h (Nat.lt_succ_self k) (Sub.keep [2, 8, 9, 46, 47, 48] [1, 2, 3, 4] (by kernel_rfl) (by kernel_rfl))
      · refine AW.cond_f rfl b28 ?_
        refine AW.exit ?_
        refine thenQ_exit ?_
        refine loopQ_exit ?_
        refine blockQ_exit ?_
        refine thenQ_normal ?_
        refine AW.seq (AW.rA ⟨[(4, (.v (.one (.arr 4)))), (5, (vc (.bool true)))], [(4, (.arr false x27.length 1 (gl (csI .i64) x27)))]⟩ (Tt ∧ T2 Tt) [] [4, 5] [4] ⟨tr, tr, tr, tr⟩ (thenQ_normal ?_))
        refine AW.ret ?_
        replace h := some_eq h
        subst h
        exact ⟨.inr rfl, retOK_of [(.one (.arr 4)), (.one (.c (.bool true)))] (by kernel_rfl) ⟨rfl, ⟨rfl, tr⟩, tr⟩ (of_decide_eq_true (by kernel_rfl))⟩

/-! laws.eqInt64S -/
def laws_eqInt64S_l1 (K : Nat) (a0 : (List Int)) (a1 : (List Int)) : Nat → Int → Option (Bool)
  | 0, _ => none
  | k + 1, x3 => ite2 ((decide (x3 < (a0.length : Int)))) (chk (0 ≤ x3 ∧ x3 < (a0.length : Int)) (chk (0 ≤ x3 ∧ x3 < (a1.length : Int)) (ite2 (((a0.getD x3.toNat default) != (a1.getD x3.toNat default))) (some false) (laws_eqInt64S_l1 K a0 a1 k (IntKind.i64.wrap (x3 + (1 : Int))))))) (some true)

def laws_eqInt64S (K : Nat) (a0 : (List Int)) (a1 : (List Int)) : Option (Bool) :=
  ite2 (((a0.length : Int) != (a1.length : Int))) (some false) (laws_eqInt64S_l1 K a0 a1 K (0 : Int))

theorem ok_laws_eqInt64S (K : Nat) (a0 : (List Int)) (a1 : (List Int)) (o : (Bool)) (h : laws_eqInt64S K a0 a1 = some o) : CallOK Try.prog 7 [.one (sl 1 (csI .i64) a0), .one (sl 1 (csI .i64) a1)] [.one (.bool o)] := by
  refine callOK_of_AW Try.func7 rfl (by kernel_rfl) (Nat.le_of_ble_eq_true (by kernel_rfl)) ?_
  intro w0
  unfold laws_eqInt64S at h
  refine AW.seq (AW.rA ⟨[(0, (vc (sl 1 (csI .i64) a0))), (1, (vc (sl 1 (csI .i64) a1)))], []⟩ (Tt ∧ Tt) [] [0, 1] [] ⟨tr, tr⟩ (thenQ_normal ?_))
  refine AW.seq ?_
  refine AW.seq (AW.rA ⟨[(0, (vc (sl 1 (csI .i64) a0))), (1, (vc (sl 1 (csI .i64) a1))), (10, (vc (.bool ((a0.length : Int) != (a1.length : Int)))))], []⟩ (Tt ∧ T4 Tt) [] [0, 1, 10] [] ⟨tr, tr, tr, tr, tr, tr⟩ (thenQ_normal ?_))
  rcases ite2_cases h with ⟨b1, h⟩ | ⟨b1, h⟩
  · refine AW.cond_t rfl b1 ?_
    refine AW.seq (AW.rA ⟨[(4, (vc (.bool false)))], []⟩ (Tt ∧ Tt) [] [4] [] ⟨tr, tr⟩ (thenQ_normal ?_))
    refine AW.ret ?_
    refine thenQ_ret ?_
    replace h := some_eq h
    subst h
    exact ⟨.inr rfl, retOK_of [(.one (.c (.bool false)))] (by kernel_rfl) ⟨⟨rfl, tr⟩, tr⟩ (of_decide_eq_true (by kernel_rfl))⟩
  · refine AW.cond_f rfl b1 ?_
    refine AW.skip ?_
    refine thenQ_normal ?_
    refine AW.seq ?_
    refine AW.seq (AW.rA ⟨[(0, (vc (sl 1 (csI .i64) a0))), (1, (vc (sl 1 (csI .i64) a1))), (5, (vc (.int .i64 (0 : Int))))], []⟩ (Tt ∧ Tt) [] [0, 1, 5] [] ⟨tr, tr⟩ (thenQ_normal ?_))
    refine AW.block ?_
    refine AW.loopQ (σ := Nat × Int) (fun p => ⟨[(0, (vc (sl 1 (csI .i64) a0))), (1, (vc (sl 1 (csI .i64) a1))), (5, (vc (.int .i64 p.2)))], []⟩) (fun p => laws_eqInt64S_l1 K a0 a1 p.1 p.2 = some o) (fun p => p.1) (K, (0 : Int)) h ?_
    clear h
    rintro ⟨k, x3⟩ h
    replace h : laws_eqInt64S_l1 K a0 a1 k x3 = some o := h
    show AW _ _ (⟨[(0, (vc (sl 1 (csI .i64) a0))), (1, (vc (sl 1 (csI .i64) a1))), (5, (vc (.int .i64 x3)))], []⟩ : St) _
    obtain _ | k := k
    · rw [laws_eqInt64S_l1] at h; cases h
    rw [laws_eqInt64S_l1] at h
    refine AW.seq ?_
    refine AW.seq (AW.rA ⟨[(0, (vc (sl 1 (csI .i64) a0))), (1, (vc (sl 1 (csI .i64) a1))), (5, (vc (.int .i64 x3))), (14, (vc (.bool (decide (x3 < (a0.length : Int))))))], []⟩ (T4 Tt) [] [0, 1, 5, 14] [] ⟨tr, tr, tr, tr, tr⟩ (thenQ_normal ?_))
    rcases ite2_cases h with ⟨b4, h⟩ | ⟨b4, h⟩
    · refine AW.cond_t rfl b4 ?_
      refine AW.skip ?_
      refine thenQ_normal ?_
      refine AW.seq ?_
      refine AW.block ?_
      refine AW.seq ?_
      obtain ⟨c5, h⟩ := chk_some h
      obtain ⟨c6, h⟩ := chk_some h
      refine AW.dA ⟨[(0, (vc (sl 1 (csI .i64) a0))), (1, (vc (sl 1 (csI .i64) a1))), (5, (vc (.int .i64 x3))), (25, (vc (.bool ((a0.getD x3.toNat default) != (a1.getD x3.toNat default)))))], []⟩ ((T2 ((0 ≤ x3 ∧ x3 < (a0.length : Int)) ∧ Tt ∧ T2 ((0 ≤ x3 ∧ x3 < (a1.length : Int)) ∧ T2 Tt))) ∧ (Tt)) 9 [] [0, 1, 5, 25] [] ⟨⟨tr, tr, c5, tr, tr, tr, c6, tr, tr, tr⟩, tr⟩ ?_
      refine thenQ_normal ?_
      rcases ite2_cases h with ⟨b7, h⟩ | ⟨b7, h⟩
      · refine AW.cond_t rfl b7 ?_
        refine AW.seq (AW.rA ⟨[(4, (vc (.bool false)))], []⟩ (Tt ∧ Tt) [] [4] [] ⟨tr, tr⟩ (thenQ_normal ?_))
        refine AW.ret ?_
        refine blockQ_ret ?_
        refine thenQ_ret ?_
        refine loopQ_ret ?_
        refine blockQ_ret ?_
        refine thenQ_ret ?_
        replace h := some_eq h
        subst h
        exact ⟨.inr rfl, retOK_of [(.one (.c (.bool false)))] (by kernel_rfl) ⟨⟨rfl, tr⟩, tr⟩ (of_decide_eq_true (by kernel_rfl))⟩
      · refine AW.cond_f rfl b7 ?_
        refine AW.skip ?_
        refine blockQ_normal ?_
        refine thenQ_normal ?_
        refine AW.rA ⟨[(0, (vc (sl 1 (csI .i64) a0))), (1, (vc (sl 1 (csI .i64) a1))), (5, (vc (.int .i64 (IntKind.i64.wrap (x3 + (1 : Int))))))], []⟩ (Tt ∧ T2 Tt) [] [0, 1, 5] [] ⟨tr, tr, tr, tr⟩ ?_
        exact loopQ_normal (k, (IntKind.i64.wrap (x3 + (1 : Int)))) h (Nat.lt_succ_self k) (Sub.keep [0, 1, 5] [] (by kernel_rfl) (by kernel_rfl))
    · refine AW.cond_f rfl b4 ?_
      refine AW.exit ?_
      refine thenQ_exit ?_
      refine loopQ_exit ?_
      refine blockQ_exit ?_
      refine thenQ_normal ?_
      refine AW.seq (AW.rA ⟨[(4, (vc (.bool true)))], []⟩ (Tt ∧ Tt) [] [4] [] ⟨tr, tr⟩ (thenQ_normal ?_))
      refine AW.ret ?_
      replace h := some_eq h
      subst h
      exact ⟨.inr rfl, retOK_of [(.one (.c (.bool true)))] (by kernel_rfl) ⟨⟨rfl, tr⟩, tr⟩ (of_decide_eq_true (by kernel_rfl))⟩

/-! laws.markInt64S -/
def laws_markInt64S_l1 (K : Nat) (a0 : (List Int)) : Nat → Int → Int → (List Int) → Option (Int × (List Int))
  | 0, _, _, _ => none
  | k + 1, x4, x5, x6 => ite2 ((decide (x5 < (x6.length : Int)))) (chk (0 ≤ x5 ∧ x5 < (x6.length : Int)) (laws_markInt64S_l1 K a0 k (IntKind.i64.wrap (x4 + (1 : Int))) (IntKind.i64.wrap (x5 + (1 : Int))) (x6.set x5.toNat x4))) (chk (x6.length = a0.length) (some (x4, x6)))

def laws_markInt64S (K : Nat) (a0 : (List Int)) (a1 : Int) : Option (Int × (List Int)) :=
  laws_markInt64S_l1 K a0 K a1 (0 : Int) a0

theorem ok_laws_markInt64S (K : Nat) (a0 : (List Int)) (a1 : Int) (o : (Int × (List Int))) (h : laws_markInt64S K a0 a1 = some o) : MutOK Try.prog 8 [(.one (.mu (sl 1 (csI .i64) a0) (sl 1 (csI .i64) o.2))), (.one (.ro (.int .i64 a1)))] [.one (.int .i64 o.1)] := by
  refine mutOK_of_AW 1 Try.func8 rfl (by kernel_rfl) (Nat.le_of_ble_eq_true (by kernel_rfl)) (by kernel_rfl) (by kernel_rfl) ?_
  intro w0 K0 v0 s0
  unfold laws_markInt64S at h
  refine AW.seq (AW.rA ⟨[(0, (.v (.one (.arr 0)))), (1, (vc (.int .i64 a1)))], [(0, (.arr true a0.length 1 (gl (csI .i64) a0)))]⟩ (Tt ∧ Tt) [] [0, 1] [0] ⟨tr, tr⟩ (thenQ_normal ?_))
  refine AW.seq ?_
  refine AW.seq (AW.rA ⟨[(0, (.v (.one (.arr 0)))), (1, (vc (.int .i64 a1))), (5, (vc (.int .i64 (0 : Int))))], [(0, (.arr true a0.length 1 (gl (csI .i64) a0)))]⟩ (Tt ∧ Tt) [] [0, 1, 5] [0] ⟨tr, tr⟩ (thenQ_normal ?_))
  refine AW.block ?_
  refine AW.loopQ (σ := Nat × Int × Int × (List Int)) (fun p => ⟨[(0, (.v (.one (.arr 0)))), (1, (vc (.int .i64 p.2.1))), (5, (vc (.int .i64 p.2.2.1)))], [(0, (.arr true p.2.2.2.length 1 (gl (csI .i64) p.2.2.2)))]⟩) (fun p => laws_markInt64S_l1 K a0 p.1 p.2.1 p.2.2.1 p.2.2.2 = some o) (fun p => p.1) (K, a1, (0 : Int), a0) h ?_
  clear h
  rintro ⟨k, x4, x5, x6⟩ h
  replace h : laws_markInt64S_l1 K a0 k x4 x5 x6 = some o := h
  show AW _ _ (⟨[(0, (.v (.one (.arr 0)))), (1, (vc (.int .i64 x4))), (5, (vc (.int .i64 x5)))], [(0, (.arr true x6.length 1 (gl (csI .i64) x6)))]⟩ : St) _
  obtain _ | k := k
  · rw [laws_markInt64S_l1] at h; cases h
  rw [laws_markInt64S_l1] at h
  refine AW.seq ?_
  refine AW.seq (AW.rA ⟨[(0, (.v (.one (.arr 0)))), (1, (vc (.int .i64 x4))), (5, (vc (.int .i64 x5))), (9, (vc (.bool (decide (x5 < (x6.length : Int))))))], [(0, (.arr true x6.length 1 (gl (csI .i64) x6)))]⟩ (T4 Tt) [] [0, 1, 5, 9] [0] ⟨tr, tr, tr, tr, tr⟩ (thenQ_normal ?_))
  rcases ite2_cases h with ⟨b7, h⟩ | ⟨b7, h⟩
  · refine AW.cond_t rfl b7 ?_
    refine AW.skip ?_
    refine thenQ_normal ?_
    refine AW.seq ?_
    refine AW.block ?_
    refine AW.seq ?_
    obtain ⟨c8, h⟩ := chk_some h
    refine AW.rA ⟨[(0, (.v (.one (.arr 0)))), (1, (vc (.int .i64 x4))), (5, (vc (.int .i64 x5)))], [(0, (.arr true (x6.set x5.toNat x4).length 1 (gl (csI .i64) (x6.set x5.toNat x4))))]⟩ (Tt ∧ T2 ((0 ≤ x5 ∧ x5 < (x6.length : Int)) ∧ ((x6.set x5.toNat x4).length = x6.length ∧ SetOb x6.length 1 x5.toNat 0 1 (gl (csI .i64) x6) (gl (csI .i64) (x6.set x5.toNat x4)) ∧ ((List.range 1).map fun j => ((csI .i64) x4).getD (0 + j) .nilptr) = ((List.range 1).map fun j => gl (csI .i64) (x6.set x5.toNat x4) x5.toNat (0 + j)) ∧ ((((.int .i64 x4) : C) = (.int .i64 x4) ∧ Tt) ∧ Tt) ∧ (true = true → ∀ j, j < 1 → isSeq (gl (csI .i64) x6 x5.toNat (0 + j)) = false ∧ isSeq (gl (csI .i64) (x6.set x5.toNat x4) x5.toNat (0 + j)) = false)) ∧ Tt)) [.no, .no, .no, .no, .set (x6.set x5.toNat x4).length (gl (csI .i64) (x6.set x5.toNat x4)) ((List.range 1).map fun j => ((csI .i64) x4).getD (0 + j) .nilptr)] [0, 1, 5] [0] ⟨tr, tr, tr, c8, ⟨List.length_set, gl_set, (gl_atp (lt_of_bound c8)).symm, ⟨⟨rfl, tr⟩, tr⟩, (fun _ j hj => match j, hj with | 0, _ => ⟨rfl, rfl⟩)⟩, tr⟩ ?_
    refine thenQ_normal ?_
    refine AW.rA ⟨[(0, (.v (.one (.arr 0)))), (1, (vc (.int .i64 (IntKind.i64.wrap (x4 + (1 : Int)))))), (5, (vc (.int .i64 x5)))], [(0, (.arr true (x6.set x5.toNat x4).length 1 (gl (csI .i64) (x6.set x5.toNat x4))))]⟩ (Tt ∧ T2 Tt) [] [0, 1, 5] [0] ⟨tr, tr, tr, tr⟩ ?_
    refine blockQ_normal ?_
    refine thenQ_normal ?_
    refine AW.rA ⟨[(0, (.v (.one (.arr 0)))), (1, (vc (.int .i64 (IntKind.i64.wrap (x4 + (1 : Int)))))), (5, (vc (.int .i64 (IntKind.i64.wrap (x5 + (1 : Int))))))], [(0, (.arr true (x6.set x5.toNat x4).length 1 (gl (csI .i64) (x6.set x5.toNat x4))))]⟩ (Tt ∧ T2 Tt) [] [0, 1, 5] [0] ⟨tr, tr, tr, tr⟩ ?_
    exact loopQ_normal (k, (IntKind.i64.wrap (x4 + (1 : Int))), (IntKind.i64.wrap (x5 + (1 : Int))), (x6.set x5.toNat x4)) h (Nat.lt_succ_self k) (Sub.keep [0, 1, 5] [0] (by kernel_rfl) (by kernel_rfl))
  · refine AW.cond_f rfl b7 ?_
    refine AW.exit ?_
    refine thenQ_exit ?_
    refine loopQ_exit ?_
    refine blockQ_exit ?_
    refine thenQ_normal ?_
    refine AW.seq (AW.rA ⟨[(0, (.v (.one (.arr 0)))), (1, (vc (.int .i64 x4))), (4, (vc (.int .i64 x4)))], [(0, (.arr true x6.length 1 (gl (csI .i64) x6)))]⟩ (T2 Tt) [] [0, 1, 4] [0] ⟨tr, tr, tr⟩ (thenQ_normal ?_))
    refine AW.ret ?_
    obtain ⟨c9, h⟩ := chk_some h
    replace h := some_eq h
    subst h
    exact ⟨.inr rfl, retOK_of [(.one (.c (.int .i64 x4)))] (by kernel_rfl) ⟨⟨rfl, tr⟩, tr⟩ (of_decide_eq_true (by kernel_rfl)), by kernel_rfl, ⟨⟨c9, rfl, rfl⟩, tr, tr⟩⟩

/-! laws.heldInt64S -/
def laws_heldInt64S_l1 (K : Nat) (a0 : (List Int)) : Nat → Int → Int → Option (Int)
  | 0, _, _ => none
  | k + 1, x3, x4 => ite2 ((decide (x4 < (a0.length : Int)))) (chk (0 ≤ x4 ∧ x4 < (a0.length : Int)) (ite2 (((a0.getD x4.toNat default) != x3)) (some ((-1) : Int)) (laws_heldInt64S_l1 K a0 k (IntKind.i64.wrap (x3 + (1 : Int))) (IntKind.i64.wrap (x4 + (1 : Int)))))) (some x3)

def laws_heldInt64S (K : Nat) (a0 : (List Int)) (a1 : Int) : Option (Int) :=
  laws_heldInt64S_l1 K a0 K a1 (0 : Int)

theorem ok_laws_heldInt64S (K : Nat) (a0 : (List Int)) (a1 : Int) (o : (Int)) (h : laws_heldInt64S K a0 a1 = some o) : CallOK Try.prog 9 [.one (sl 1 (csI .i64) a0), .one (.int .i64 a1)] [.one (.int .i64 o)] := by
  refine callOK_of_AW Try.func9 rfl (by kernel_rfl) (Nat.le_of_ble_eq_true (by kernel_rfl)) ?_
  intro w0
  unfold laws_heldInt64S at h
  refine AW.seq (AW.rA ⟨[(0, (vc (sl 1 (csI .i64) a0))), (1, (vc (.int .i64 a1)))], []⟩ (Tt ∧ Tt) [] [0, 1] [] ⟨tr, tr⟩ (thenQ_normal ?_))
  refine AW.seq ?_
  refine AW.seq (AW.rA ⟨[(0, (vc (sl 1 (csI .i64) a0))), (1, (vc (.int .i64 a1))), (5, (vc (.int .i64 (0 : Int))))], []⟩ (Tt ∧ Tt) [] [0, 1, 5] [] ⟨tr, tr⟩ (thenQ_normal ?_))
  refine AW.block ?_
  refine AW.loopQ (σ := Nat × Int × Int) (fun p => ⟨[(0, (vc (sl 1 (csI .i64) a0))), (1, (vc (.int .i64 p.2.1))), (5, (vc (.int .i64 p.2.2)))], []⟩) (fun p => laws_heldInt64S_l1 K a0 p.1 p.2.1 p.2.2 = some o) (fun p => p.1) (K, a1, (0 : Int)) h ?_
  clear h
  rintro ⟨k, x3, x4⟩ h
  replace h : laws_heldInt64S_l1 K a0 k x3 x4 = some o := h
  show AW _ _ (⟨[(0, (vc (sl 1 (csI .i64) a0))), (1, (vc (.int .i64 x3))), (5, (vc (.int .i64 x4)))], []⟩ : St) _
  obtain _ | k := k
  · rw [laws_heldInt64S_l1] at h; cases h
  rw [laws_heldInt64S_l1] at h
  refine AW.seq ?_
  refine AW.seq (AW.rA ⟨[(0, (vc (sl 1 (csI .i64) a0))), (1, (vc (.int .i64 x3))), (5, (vc (.int .i64 x4))), (9, (vc (.bool (decide (x4 < (a0.length : Int))))))], []⟩ (T4 Tt) [] [0, 1, 5, 9] [] ⟨tr, tr, tr, tr, tr⟩ (thenQ_normal ?_))
  rcases ite2_cases h with ⟨b5, h⟩ | ⟨b5, h⟩
  · refine AW.cond_t rfl b5 ?_
    refine AW.skip ?_
    refine thenQ_normal ?_
    refine AW.seq ?_
    refine AW.block ?_
    refine AW.seq ?_
    refine AW.seq ?_
    obtain ⟨c6, h⟩ := chk_some h
    refine AW.rA ⟨[(0, (vc (sl 1 (csI .i64) a0))), (1, (vc (.int .i64 x3))), (5, (vc (.int .i64 x4))), (17, (vc (.bool ((a0.getD x4.toNat default) != x3))))], []⟩ (T2 ((0 ≤ x4 ∧ x4 < (a0.length : Int)) ∧ Tt ∧ T2 Tt)) [] [0, 1, 5, 17] [] ⟨tr, tr, c6, tr, tr, tr, tr⟩ ?_
    refine thenQ_normal ?_
    rcases ite2_cases h with ⟨b7, h⟩ | ⟨b7, h⟩
    · refine AW.cond_t rfl b7 ?_
      refine AW.seq (AW.rA ⟨[(4, (vc (.int .i64 ((-1) : Int))))], []⟩ (Tt ∧ Tt) [] [4] [] ⟨tr, tr⟩ (thenQ_normal ?_))
      refine AW.ret ?_
      refine thenQ_ret ?_
      refine blockQ_ret ?_
      refine thenQ_ret ?_
      refine loopQ_ret ?_
      refine blockQ_ret ?_
      refine thenQ_ret ?_
      replace h := some_eq h
      subst h
      exact ⟨.inr rfl, retOK_of [(.one (.c (.int .i64 ((-1) : Int))))] (by kernel_rfl) ⟨⟨rfl, tr⟩, tr⟩ (of_decide_eq_true (by kernel_rfl))⟩
    · refine AW.cond_f rfl b7 ?_
      refine AW.skip ?_
      refine thenQ_normal ?_
      refine AW.rA ⟨[(0, (vc (sl 1 (csI .i64) a0))), (1, (vc (.int .i64 (IntKind.i64.wrap (x3 + (1 : Int)))))), (5, (vc (.int .i64 x4)))], []⟩ (Tt ∧ T2 Tt) [] [0, 1, 5] [] ⟨tr, tr, tr, tr⟩ ?_
      refine blockQ_normal ?_
      refine thenQ_normal ?_
      refine AW.rA ⟨[(0, (vc (sl 1 (csI .i64) a0))), (1, (vc (.int .i64 (IntKind.i64.wrap (x3 + (1 : Int)))))), (5, (vc (.int .i64 (IntKind.i64.wrap (x4 + (1 : Int))))))], []⟩ (Tt ∧ T2 Tt) [] [0, 1, 5] [] ⟨tr, tr, tr, tr⟩ ?_
      exact loopQ_normal (k, (IntKind.i64.wrap (x3 + (1 : Int))), (IntKind.i64.wrap (x4 + (1 : Int)))) h (Nat.lt_succ_self k) (Sub.keep [0, 1, 5] [] (by kernel_rfl) (by kernel_rfl))
  · refine AW.cond_f rfl b5 ?_
    refine AW.exit ?_
    refine thenQ_exit ?_
    refine loopQ_exit ?_
    refine blockQ_exit ?_
    refine thenQ_normal ?_
    refine AW.seq (AW.rA ⟨[(4, (vc (.int .i64 x3)))], []⟩ (T2 Tt) [] [4] [] ⟨tr, tr, tr⟩ (thenQ_normal ?_))
    refine AW.ret ?_
    replace h := some_eq h
    subst h
    exact ⟨.inr rfl, retOK_of [(.one (.c (.int .i64 x3)))] (by kernel_rfl) ⟨⟨rfl, tr⟩, tr⟩ (of_decide_eq_true (by kernel_rfl))⟩

/-! laws.FnExactWorkersFor -/
def laws_FnExactWorkersFor (K : Nat) (a0 : (List Int)) (a1 : Int) : Option (Bool) :=
  ite2 ((decide ((a0.length : Int) > (1048576 : Int)))) (some true) ((laws_toInt64S K a0).bind fun v2 => (spec_WorkersFor K v2 a1).bind fun v4 => (laws_toInt64S K a0).bind fun v6 => (impl_WorkersFor K v6 a1).bind fun v8 => (laws_eqInt64S K v8.1 v4.1).bind fun v10 => (ite2 ((!v10)) (some true) (some (!(v8.2 == v4.2)))).bind fun j13 => ite2 (j13) (some false) ((laws_toInt64S K a0).bind fun v16 => (laws_eqInt64S K v6 v16).bind fun v18 => ite2 ((!v18)) (some false) ((laws_markInt64S K v6 (1 : Int)).bind fun v21 => chk (v21.2.length = v6.length) ((ite2 ((decide (v21.1 < (0 : Int)))) (some true) ((laws_eqInt64S K v8.1 v4.1).bind fun v25 => ite2 ((!v25)) (some true) (some (!(v8.2 == v4.2))))).bind fun j28 => ite2 (j28) (some false) ((laws_markInt64S K v8.1 (1 : Int)).bind fun v31 => chk (v31.2.length = v8.1.length) ((laws_heldInt64S K v31.2 (1 : Int)).bind fun v34 => ite2 ((decide (v34 < (0 : Int)))) (some false) (ite2 ((v34 != v31.1)) (some false) ((laws_toInt64S K a0).bind fun v38 => (impl_WorkersFor K v38 a1).bind fun v40 => (laws_eqInt64S K v40.1 v4.1).bind fun v42 => (ite2 ((!v42)) (some true) (some (!(v40.2 == v4.2)))).bind fun j45 => ite2 (j45) (some false) ((laws_heldInt64S K v31.2 (1 : Int)).bind fun v48 => ite2 ((decide (v48 < (0 : Int)))) (some false) (ite2 ((v48 != v31.1)) (some false) (some true)))))))))))

theorem ok_laws_FnExactWorkersFor (K : Nat) (a0 : (List Int)) (a1 : Int) (o : (Bool)) (h : laws_FnExactWorkersFor K a0 a1 = some o) : CallOK Try.prog 3 [.one (sl 1 (csI .i64) a0), .one (.int .i64 a1)] [.one (.bool o)] := by
  refine callOK_of_AW Try.func3 rfl (by kernel_rfl) (Nat.le_of_ble_eq_true (by kernel_rfl)) ?_
  intro w0
  unfold laws_FnExactWorkersFor at h
  refine AW.seq (AW.rA ⟨[(0, (vc (sl 1 (csI .i64) a0))), (1, (vc (.int .i64 a1)))], []⟩ (Tt ∧ Tt) [] [0, 1] [] ⟨tr, tr⟩ (thenQ_normal ?_))
  refine AW.seq ?_
  refine AW.seq (AW.rA ⟨[(0, (vc (sl 1 (csI .i64) a0))), (1, (vc (.int .i64 a1))), (17, (vc (.bool (decide ((a0.length : Int) > (1048576 : Int))))))], []⟩ (Tt ∧ T2 Tt) [] [0, 1, 17] [] ⟨tr, tr, tr, tr⟩ (thenQ_normal ?_))
  rcases ite2_cases h with ⟨b1, h⟩ | ⟨b1, h⟩
  · refine AW.cond_t rfl b1 ?_
    refine AW.seq (AW.rA ⟨[(4, (vc (.bool true)))], []⟩ (Tt ∧ Tt) [] [4] [] ⟨tr, tr⟩ (thenQ_normal ?_))
    refine AW.ret ?_
    refine thenQ_ret ?_
    replace h := some_eq h
    subst h
    exact ⟨.inr rfl, retOK_of [(.one (.c (.bool true)))] (by kernel_rfl) ⟨⟨rfl, tr⟩, tr⟩ (of_decide_eq_true (by kernel_rfl))⟩
  · refine AW.cond_f rfl b1 ?_
    refine AW.skip ?_
    refine thenQ_normal ?_
    refine AW.seq ?_
    obtain ⟨v2, e3, h⟩ := bind_some h
    obtain ⟨v4, e5, h⟩ := bind_some h
    refine AW.rA ⟨[(0, (vc (sl 1 (csI .i64) a0))), (1, (vc (.int .i64 a1))), (5, (.v (.one (.lst 2 v4.1.length 1 (gl (csI .i64) v4.1))))), (6, (vc (.bool v4.2)))], [(2, (.lst v4.1.length 1 (gl (csI .i64) v4.1)))]⟩ (Tt ∧ (((Eqc (sl 1 (csI .i64) a0)) ∧ Tt) ∧ CallOK Try.prog 5 [.one (sl 1 (csI .i64) a0)] [.one (sl 1 (csI .i64) v2)]) ∧ Tt ∧ (((Eqc (sl 1 (csI .i64) v2)) ∧ (Eqc (.int .i64 a1)) ∧ Tt) ∧ CallOK Try.prog 4 [.one (sl 1 (csI .i64) v2), .one (.int .i64 a1)] [.one (sl 1 (csI .i64) v4.1), .one (.bool v4.2)]) ∧ Tt ∧ T4 Tt) [.no, .call [.one (sl 1 (csI .i64) a0)] [.one (sl 1 (csI .i64) v2)] [[.lst 1]], .no, .call [.one (sl 1 (csI .i64) v2), .one (.int .i64 a1)] [.one (sl 1 (csI .i64) v4.1), .one (.bool v4.2)] [[.lst 2], [.view]]] [0, 1, 5, 6] [2] ⟨tr, ⟨⟨rfl, tr⟩, ok_laws_toInt64S K a0 v2 e3⟩, tr, ⟨⟨rfl, rfl, tr⟩, ok_spec_WorkersFor K v2 a1 v4 e5⟩, tr, tr, tr, tr, tr, tr⟩ ?_
    refine thenQ_normal ?_
    refine AW.seq ?_
    obtain ⟨v6, e7, h⟩ := bind_some h
    refine AW.rA ⟨[(0, (vc (sl 1 (csI .i64) a0))), (1, (vc (.int .i64 a1))), (5, (.v (.one (.lst 2 v4.1.length 1 (gl (csI .i64) v4.1))))), (6, (vc (.bool v4.2))), (7, (.v (.one (.arr 3))))], [(2, (.lst v4.1.length 1 (gl (csI .i64) v4.1))), (3, (.arr true v6.length 1 (gl (csI .i64) v6)))]⟩ (Tt ∧ (((Eqc (sl 1 (csI .i64) a0)) ∧ Tt) ∧ CallOK Try.prog 5 [.one (sl 1 (csI .i64) a0)] [.one (sl 1 (csI .i64) v6)]) ∧ Tt ∧ Tt) [.no, .call [.one (sl 1 (csI .i64) a0)] [.one (sl 1 (csI .i64) v6)] [[.own 3]]] [0, 1, 5, 6, 7] [2, 3] ⟨tr, ⟨⟨rfl, tr⟩, ok_laws_toInt64S K a0 v6 e7⟩, tr, tr⟩ ?_
    refine thenQ_normal ?_
    refine AW.seq ?_
    obtain ⟨v8, e9, h⟩ := bind_some h
    refine AW.rA ⟨[(0, (vc (sl 1 (csI .i64) a0))), (1, (vc (.int .i64 a1))), (5, (.v (.one (.lst 2 v4.1.length 1 (gl (csI .i64) v4.1))))), (6, (vc (.bool v4.2))), (7, (.v (.one (.arr 3)))), (8, (.v (.one (.arr 4)))), (9, (vc (.bool v8.2)))], [(2, (.lst v4.1.length 1 (gl (csI .i64) v4.1))), (3, (.arr true v6.length 1 (gl (csI .i64) v6))), (4, (.arr true v8.1.length 1 (gl (csI .i64) v8.1)))]⟩ (T2 ((((Eqc (sl 1 (csI .i64) v6)) ∧ (Eqc (.int .i64 a1)) ∧ Tt) ∧ CallOK Try.prog 6 [.one (sl 1 (csI .i64) v6), .one (.int .i64 a1)] [.one (sl 1 (csI .i64) v8.1), .one (.bool v8.2)]) ∧ Tt ∧ T4 Tt)) [.no, .no, .call [.one (sl 1 (csI .i64) v6), .one (.int .i64 a1)] [.one (sl 1 (csI .i64) v8.1), .one (.bool v8.2)] [[.own 4], [.view]]] [0, 1, 5, 6, 7, 8, 9] [2, 3, 4] ⟨tr, tr, ⟨⟨rfl, rfl, tr⟩, ok_impl_WorkersFor K v6 a1 v8 e9⟩, tr, tr, tr, tr, tr, tr⟩ ?_
    refine thenQ_normal ?_
    refine AW.seq ?_
    refine AW.seq ?_
    obtain ⟨v10, e11, h⟩ := bind_some h
    obtain ⟨j13, e14, h⟩ := bind_some h
    refine AW.join1 (s2 := ⟨[(0, (vc (sl 1 (csI .i64) a0))), (1, (vc (.int .i64 a1))), (5, (.v (.one (.lst 2 v4.1.length 1 (gl (csI .i64) v4.1))))), (6, (vc (.bool v4.2))), (7, (.v (.one (.arr 3)))), (8, (.v (.one (.arr 4)))), (9, (vc (.bool v8.2))), (41, (vc (.bool j13)))], [(2, (.lst v4.1.length 1 (gl (csI .i64) v4.1))), (3, (.arr true v6.length 1 (gl (csI .i64) v6))), (4, (.arr true v8.1.length 1 (gl (csI .i64) v8.1)))]⟩) ?_ ?_
    · rcases ite2_cases e14 with ⟨b12, e14⟩ | ⟨b12, e14⟩
      · replace e14 := some_eq e14
        subst e14
        exact AW.rA ⟨[(0, (vc (sl 1 (csI .i64) a0))), (1, (vc (.int .i64 a1))), (5, (.v (.one (.lst 2 v4.1.length 1 (gl (csI .i64) v4.1))))), (6, (vc (.bool v4.2))), (7, (.v (.one (.arr 3)))), (8, (.v (.one (.arr 4)))), (9, (vc (.bool v8.2))), (41, (vc (.bool true)))], [(2, (.lst v4.1.length 1 (gl (csI .i64) v4.1))), (3, (.arr true v6.length 1 (gl (csI .i64) v6))), (4, (.arr true v8.1.length 1 (gl (csI .i64) v8.1)))]⟩ (T2 ((((Eqc (sl 1 (csI .i64) v8.1)) ∧ (Eqc (sl 1 (csI .i64) v4.1)) ∧ Tt) ∧ CallOK Try.prog 7 [.one (sl 1 (csI .i64) v8.1), .one (sl 1 (csI .i64) v4.1)] [.one (.bool v10)]) ∧ Tt ∧ (Tt ∧ (!v10) = true) ∧ T4 Tt)) [.no, .no, .call [.one (sl 1 (csI .i64) v8.1), .one (sl 1 (csI .i64) v4.1)] [.one (.bool v10)] [[.view]], .no, .dec true] [0, 1, 5, 6, 7, 8, 9, 41] [2, 3, 4] ⟨tr, tr, ⟨⟨rfl, rfl, tr⟩, ok_laws_eqInt64S K v8.1 v4.1 v10 e11⟩, tr, ⟨tr, b12⟩, tr, tr, tr, tr, tr⟩ ⟨rfl, rfl⟩
      · replace e14 := some_eq e14
        subst e14
        exact AW.rA ⟨[(0, (vc (sl 1 (csI .i64) a0))), (1, (vc (.int .i64 a1))), (5, (.v (.one (.lst 2 v4.1.length 1 (gl (csI .i64) v4.1))))), (6, (vc (.bool v4.2))), (7, (.v (.one (.arr 3)))), (8, (.v (.one (.arr 4)))), (9, (vc (.bool v8.2))), (41, (vc (.bool (!(v8.2 == v4.2)))))], [(2, (.lst v4.1.length 1 (gl (csI .i64) v4.1))), (3, (.arr true v6.length 1 (gl (csI .i64) v6))), (4, (.arr true v8.1.length 1 (gl (csI .i64) v8.1)))]⟩ (T2 ((((Eqc (sl 1 (csI .i64) v8.1)) ∧ (Eqc (sl 1 (csI .i64) v4.1)) ∧ Tt) ∧ CallOK Try.prog 7 [.one (sl 1 (csI .i64) v8.1), .one (sl 1 (csI .i64) v4.1)] [.one (.bool v10)]) ∧ Tt ∧ (Tt ∧ (!v10) = false) ∧ T4 Tt)) [.no, .no, .call [.one (sl 1 (csI .i64) v8.1), .one (sl 1 (csI .i64) v4.1)] [.one (.bool v10)] [[.view]], .no, .dec false] [0, 1, 5, 6, 7, 8, 9, 41] [2, 3, 4] ⟨tr, tr, ⟨⟨rfl, rfl, tr⟩, ok_laws_eqInt64S K v8.1 v4.1 v10 e11⟩, tr, ⟨tr, b12⟩, tr, tr, tr, tr, tr⟩ ⟨rfl, rfl⟩
    refine thenQ_normal ?_
    rcases ite2_cases h with ⟨b15, h⟩ | ⟨b15, h⟩
    · refine AW.cond_t rfl b15 ?_
      refine AW.seq (AW.rA ⟨[(4, (vc (.bool false)))], []⟩ (Tt ∧ Tt) [] [4] [] ⟨tr, tr⟩ (thenQ_normal ?_))
      refine AW.ret ?_
      refine thenQ_ret ?_
      replace h := some_eq h
      subst h
      exact ⟨.inr rfl, retOK_of [(.one (.c (.bool false)))] (by kernel_rfl) ⟨⟨rfl, tr⟩, tr⟩ (of_decide_eq_true (by kernel_rfl))⟩
    · refine AW.cond_f rfl b15 ?_
      refine AW.skip ?_
      refine thenQ_normal ?_
      refine AW.seq ?_
      refine AW.seq ?_
      obtain ⟨v16, e17, h⟩ := bind_some h
      obtain ⟨v18, e19, h⟩ := bind_some h
      refine AW.rA ⟨[(0, (vc (sl 1 (csI .i64) a0))), (1, (vc (.int .i64 a1))), (5, (.v (.one (.lst 2 v4.1.length 1 (gl (csI .i64) v4.1))))), (6, (vc (.bool v4.2))), (7, (.v (.one (.arr 3)))), (8, (.v (.one (.arr 4)))), (9, (vc (.bool v8.2))), (46, (vc (.bool (!v18))))], [(2, (.lst v4.1.length 1 (gl (csI .i64) v4.1))), (3, (.arr true v6.length 1 (gl (csI .i64) v6))), (4, (.arr true v8.1.length 1 (gl (csI .i64) v8.1)))]⟩ (T2 ((((Eqc (sl 1 (csI .i64) a0)) ∧ Tt) ∧ CallOK Try.prog 5 [.one (sl 1 (csI .i64) a0)] [.one (sl 1 (csI .i64) v16)]) ∧ (((Eqc (sl 1 (csI .i64) v6)) ∧ (Eqc (sl 1 (csI .i64) v16)) ∧ Tt) ∧ CallOK Try.prog 7 [.one (sl 1 (csI .i64) v6), .one (sl 1 (csI .i64) v16)] [.one (.bool v18)]) ∧ Tt ∧ Tt)) [.no, .no, .call [.one (sl 1 (csI .i64) a0)] [.one (sl 1 (csI .i64) v16)] [[.lst 5]], .call [.one (sl 1 (csI .i64) v6), .one (sl 1 (csI .i64) v16)] [.one (.bool v18)] [[.view]]] [0, 1, 5, 6, 7, 8, 9, 46] [2, 3, 4] ⟨tr, tr, ⟨⟨rfl, tr⟩, ok_laws_toInt64S K a0 v16 e17⟩, ⟨⟨rfl, rfl, tr⟩, ok_laws_eqInt64S K v6 v16 v18 e19⟩, tr, tr⟩ ?_
      refine thenQ_normal ?_
      rcases ite2_cases h with ⟨b20, h⟩ | ⟨b20, h⟩
      · refine AW.cond_t rfl b20 ?_
        refine AW.seq (AW.rA ⟨[(4, (vc (.bool false)))], []⟩ (Tt ∧ Tt) [] [4] [] ⟨tr, tr⟩ (thenQ_normal ?_))
        refine AW.ret ?_
        refine thenQ_ret ?_
        replace h := some_eq h
        subst h
        exact ⟨.inr rfl, retOK_of [(.one (.c (.bool false)))] (by kernel_rfl) ⟨⟨rfl, tr⟩, tr⟩ (of_decide_eq_true (by kernel_rfl))⟩
      · refine AW.cond_f rfl b20 ?_
        refine AW.skip ?_
        refine thenQ_normal ?_
        refine AW.seq (AW.rA ⟨[(0, (vc (sl 1 (csI .i64) a0))), (1, (vc (.int .i64 a1))), (5, (.v (.one (.lst 2 v4.1.length 1 (gl (csI .i64) v4.1))))), (6, (vc (.bool v4.2))), (7, (.v (.one (.arr 3)))), (8, (.v (.one (.arr 4)))), (9, (vc (.bool v8.2))), (10, (vc (.int .i64 (1 : Int))))], [(2, (.lst v4.1.length 1 (gl (csI .i64) v4.1))), (3, (.arr true v6.length 1 (gl (csI .i64) v6))), (4, (.arr true v8.1.length 1 (gl (csI .i64) v8.1)))]⟩ (Tt ∧ Tt) [] [0, 1, 5, 6, 7, 8, 9, 10] [2, 3, 4] ⟨tr, tr⟩ (thenQ_normal ?_))
        refine AW.seq ?_
        obtain ⟨v21, e22, h⟩ := bind_some h
        obtain ⟨c23, h⟩ := chk_some h
        refine AW.rA ⟨[(0, (vc (sl 1 (csI .i64) a0))), (1, (vc (.int .i64 a1))), (5, (.v (.one (.lst 2 v4.1.length 1 (gl (csI .i64) v4.1))))), (6, (vc (.bool v4.2))), (8, (.v (.one (.arr 4)))), (9, (vc (.bool v8.2))), (10, (vc (.int .i64 v21.1)))], [(2, (.lst v4.1.length 1 (gl (csI .i64) v4.1))), (4, (.arr true v8.1.length 1 (gl (csI .i64) v8.1)))]⟩ (T2 ((((((sl 1 (csI .i64) v6) : C) = (sl 1 (csI .i64) v6) ∧ v21.2.length = v6.length ∧ 1 = 1 ∧ ∀ i j, i < v6.length → j < 1 → isSeq (gl (csI .i64) v21.2 i j) = isSeq (gl (csI .i64) v6 i j)) ∧ (Eqc (.int .i64 (1 : Int))) ∧ Tt) ∧ MutOK Try.prog 8 [(.one (.mu (sl 1 (csI .i64) v6) (sl 1 (csI .i64) v21.2))), .one (.ro (.int .i64 (1 : Int)))] [.one (.int .i64 v21.1)]) ∧ Tt ∧ Tt)) [.no, .no, .callM [(.one (.mu (sl 1 (csI .i64) v6) (sl 1 (csI .i64) v21.2))), .one (.ro (.int .i64 (1 : Int)))] [.one (.int .i64 v21.1)] [[.view]] none] [0, 1, 5, 6, 8, 9, 10] [2, 4] ⟨tr, tr, ⟨⟨⟨rfl, c23, rfl, gl_seq sqI⟩, rfl, tr⟩, ok_laws_markInt64S K v6 (1 : Int) v21 e22⟩, tr, tr⟩ ?_
        refine thenQ_normal ?_
        refine AW.seq ?_
        refine AW.seq ?_
        obtain ⟨j28, e29, h⟩ := bind_some h
        refine AW.join1 (s2 := ⟨[(0, (vc (sl 1 (csI .i64) a0))), (1, (vc (.int .i64 a1))), (5, (.v (.one (.lst 2 v4.1.length 1 (gl (csI .i64) v4.1))))), (6, (vc (.bool v4.2))), (8, (.v (.one (.arr 4)))), (62, (vc (.bool j28)))], [(2, (.lst v4.1.length 1 (gl (csI .i64) v4.1))), (4, (.arr true v8.1.length 1 (gl (csI .i64) v8.1)))]⟩) ?_ ?_
        · rcases ite2_cases e29 with ⟨b24, e29⟩ | ⟨b24, e29⟩
          · replace e29 := some_eq e29
            subst e29
            exact AW.rA ⟨[(0, (vc (sl 1 (csI .i64) a0))), (1, (vc (.int .i64 a1))), (5, (.v (.one (.lst 2 v4.1.length 1 (gl (csI .i64) v4.1))))), (6, (vc (.bool v4.2))), (8, (.v (.one (.arr 4)))), (62, (vc (.bool true)))], [(2, (.lst v4.1.length 1 (gl (csI .i64) v4.1))), (4, (.arr true v8.1.length 1 (gl (csI .i64) v8.1)))]⟩ (T2 ((Tt ∧ (decide (v21.1 < (0 : Int))) = true) ∧ T2 (T4 (T4 Tt)))) [.no, .no, .dec true] [0, 1, 5, 6, 8, 62] [2, 4] ⟨tr, tr, ⟨tr, b24⟩, tr, tr, tr, tr, tr, tr, tr, tr, tr, tr, tr⟩ ⟨rfl, rfl⟩
          · obtain ⟨v25, e26, e29⟩ := bind_some e29
            rcases ite2_cases e29 with ⟨b27, e29⟩ | ⟨b27, e29⟩
            · replace e29 := some_eq e29
              subst e29
              exact AW.rA ⟨[(0, (vc (sl 1 (csI .i64) a0))), (1, (vc (.int .i64 a1))), (5, (.v (.one (.lst 2 v4.1.length 1 (gl (csI .i64) v4.1))))), (6, (vc (.bool v4.2))), (8, (.v (.one (.arr 4)))), (62, (vc (.bool true)))], [(2, (.lst v4.1.length 1 (gl (csI .i64) v4.1))), (4, (.arr true v8.1.length 1 (gl (csI .i64) v8.1)))]⟩ (T2 ((Tt ∧ (decide (v21.1 < (0 : Int))) = false) ∧ T2 ((((Eqc (sl 1 (csI .i64) v8.1)) ∧ (Eqc (sl 1 (csI .i64) v4.1)) ∧ Tt) ∧ CallOK Try.prog 7 [.one (sl 1 (csI .i64) v8.1), .one (sl 1 (csI .i64) v4.1)] [.one (.bool v25)]) ∧ T2 ((Tt ∧ (!v25) = true) ∧ T4 Tt)))) [.no, .no, .dec false, .no, .no, .call [.one (sl 1 (csI .i64) v8.1), .one (sl 1 (csI .i64) v4.1)] [.one (.bool v25)] [[.view]], .no, .no, .dec true] [0, 1, 5, 6, 8, 62] [2, 4] ⟨tr, tr, ⟨tr, b24⟩, tr, tr, ⟨⟨rfl, rfl, tr⟩, ok_laws_eqInt64S K v8.1 v4.1 v25 e26⟩, tr, tr, ⟨tr, b27⟩, tr, tr, tr, tr, tr⟩ ⟨rfl, rfl⟩
            · replace e29 := some_eq e29
              subst e29
              exact AW.rA ⟨[(0, (vc (sl 1 (csI .i64) a0))), (1, (vc (.int .i64 a1))), (5, (.v (.one (.lst 2 v4.1.length 1 (gl (csI .i64) v4.1))))), (6, (vc (.bool v4.2))), (8, (.v (.one (.arr 4)))), (62, (vc (.bool (!(v8.2 == v4.2)))))], [(2, (.lst v4.1.length 1 (gl (csI .i64) v4.1))), (4, (.arr true v8.1.length 1 (gl (csI .i64) v8.1)))]⟩ (T2 ((Tt ∧ (decide (v21.1 < (0 : Int))) = false) ∧ T2 ((((Eqc (sl 1 (csI .i64) v8.1)) ∧ (Eqc (sl 1 (csI .i64) v4.1)) ∧ Tt) ∧ CallOK Try.prog 7 [.one (sl 1 (csI .i64) v8.1), .one (sl 1 (csI .i64) v4.1)] [.one (.bool v25)]) ∧ T2 ((Tt ∧ (!v25) = false) ∧ T4 Tt)))) [.no, .no, .dec false, .no, .no, .call [.one (sl 1 (csI .i64) v8.1), .one (sl 1 (csI .i64) v4.1)] [.one (.bool v25)] [[.view]], .no, .no, .dec false] [0, 1, 5, 6, 8, 62] [2, 4] ⟨tr, tr, ⟨tr, b24⟩, tr, tr, ⟨⟨rfl, rfl, tr⟩, ok_laws_eqInt64S K v8.1 v4.1 v25 e26⟩, tr, tr, ⟨tr, b27⟩, tr, tr, tr, tr, tr⟩ ⟨rfl, rfl⟩
        refine thenQ_normal ?_
        rcases ite2_cases h with ⟨b30, h⟩ | ⟨b30, h⟩
        · refine AW.cond_t rfl b30 ?_
          refine AW.seq (AW.rA ⟨[(4, (vc (.bool false)))], []⟩ (Tt ∧ Tt) [] [4] [] ⟨tr, tr⟩ (thenQ_normal ?_))
          refine AW.ret ?_
          refine thenQ_ret ?_
          replace h := some_eq h
          subst h
          exact ⟨.inr rfl, retOK_of [(.one (.c (.bool false)))] (by kernel_rfl) ⟨⟨rfl, tr⟩, tr⟩ (of_decide_eq_true (by kernel_rfl))⟩
        · refine AW.cond_f rfl b30 ?_
          refine AW.skip ?_
          refine thenQ_normal ?_
          refine AW.seq (AW.rA ⟨[(0, (vc (sl 1 (csI .i64) a0))), (1, (vc (.int .i64 a1))), (5, (.v (.one (.lst 2 v4.1.length 1 (gl (csI .i64) v4.1))))), (6, (vc (.bool v4.2))), (8, (.v (.one (.arr 4)))), (11, (vc (.int .i64 (1 : Int))))], [(2, (.lst v4.1.length 1 (gl (csI .i64) v4.1))), (4, (.arr true v8.1.length 1 (gl (csI .i64) v8.1)))]⟩ (Tt ∧ Tt) [] [0, 1, 5, 6, 8, 11] [2, 4] ⟨tr, tr⟩ (thenQ_normal ?_))
          refine AW.seq ?_
          obtain ⟨v31, e32, h⟩ := bind_some h
          obtain ⟨c33, h⟩ := chk_some h
          refine AW.rA ⟨[(0, (vc (sl 1 (csI .i64) a0))), (1, (vc (.int .i64 a1))), (5, (.v (.one (.lst 2 v4.1.length 1 (gl (csI .i64) v4.1))))), (6, (vc (.bool v4.2))), (8, (.v (.one (.arr 4)))), (11, (vc (.int .i64 v31.1)))], [(2, (.lst v4.1.length 1 (gl (csI .i64) v4.1))), (4, (.arr true v31.2.length 1 (gl (csI .i64) v31.2)))]⟩ (T2 ((((((sl 1 (csI .i64) v8.1) : C) = (sl 1 (csI .i64) v8.1) ∧ v31.2.length = v8.1.length ∧ 1 = 1 ∧ ∀ i j, i < v8.1.length → j < 1 → isSeq (gl (csI .i64) v31.2 i j) = isSeq (gl (csI .i64) v8.1 i j)) ∧ (Eqc (.int .i64 (1 : Int))) ∧ Tt) ∧ MutOK Try.prog 8 [(.one (.mu (sl 1 (csI .i64) v8.1) (sl 1 (csI .i64) v31.2))), .one (.ro (.int .i64 (1 : Int)))] [.one (.int .i64 v31.1)]) ∧ Tt ∧ Tt)) [.no, .no, .callM [(.one (.mu (sl 1 (csI .i64) v8.1) (sl 1 (csI .i64) v31.2))), .one (.ro (.int .i64 (1 : Int)))] [.one (.int .i64 v31.1)] [[.view]] none] [0, 1, 5, 6, 8, 11] [2, 4] ⟨tr, tr, ⟨⟨⟨rfl, c33, rfl, gl_seq sqI⟩, rfl, tr⟩, ok_laws_markInt64S K v8.1 (1 : Int) v31 e32⟩, tr, tr⟩ ?_
          refine thenQ_normal ?_
          refine AW.seq (AW.rA ⟨[(0, (vc (sl 1 (csI .i64) a0))), (1, (vc (.int .i64 a1))), (5, (.v (.one (.lst 2 v4.1.length 1 (gl (csI .i64) v4.1))))), (6, (vc (.bool v4.2))), (8, (.v (.one (.arr 4)))), (11, (vc (.int .i64 v31.1))), (12, (vc (.int .i64 (1 : Int))))], [(2, (.lst v4.1.length 1 (gl (csI .i64) v4.1))), (4, (.arr true v31.2.length 1 (gl (csI .i64) v31.2)))]⟩ (Tt ∧ Tt) [] [0, 1, 5, 6, 8, 11, 12] [2, 4] ⟨tr, tr⟩ (thenQ_normal ?_))
          refine AW.seq ?_
          obtain ⟨v34, e35, h⟩ := bind_some h
          refine AW.rA ⟨[(0, (vc (sl 1 (csI .i64) a0))), (1, (vc (.int .i64 a1))), (5, (.v (.one (.lst 2 v4.1.length 1 (gl (csI .i64) v4.1))))), (6, (vc (.bool v4.2))), (8, (.v (.one (.arr 4)))), (11, (vc (.int .i64 v31.1))), (12, (vc (.int .i64 v34)))], [(2, (.lst v4.1.length 1 (gl (csI .i64) v4.1))), (4, (.arr true v31.2.length 1 (gl (csI .i64) v31.2)))]⟩ (T2 ((((Eqc (sl 1 (csI .i64) v31.2)) ∧ (Eqc (.int .i64 (1 : Int))) ∧ Tt) ∧ CallOK Try.prog 9 [.one (sl 1 (csI .i64) v31.2), .one (.int .i64 (1 : Int))] [.one (.int .i64 v34)]) ∧ Tt ∧ Tt)) [.no, .no, .call [.one (sl 1 (csI .i64) v31.2), .one (.int .i64 (1 : Int))] [.one (.int .i64 v34)] [[.view]]] [0, 1, 5, 6, 8, 11, 12] [2, 4] ⟨tr, tr, ⟨⟨rfl, rfl, tr⟩, ok_laws_heldInt64S K v31.2 (1 : Int) v34 e35⟩, tr, tr⟩ ?_
          refine thenQ_normal ?_
          refine AW.seq ?_
          refine AW.seq (AW.rA ⟨[(0, (vc (sl 1 (csI .i64) a0))), (1, (vc (.int .i64 a1))), (5, (.v (.one (.lst 2 v4.1.length 1 (gl (csI .i64) v4.1))))), (6, (vc (.bool v4.2))), (8, (.v (.one (.arr 4)))), (11, (vc (.int .i64 v31.1))), (12, (vc (.int .i64 v34))), (70, (vc (.bool (decide (v34 < (0 : Int))))))], [(2, (.lst v4.1.length 1 (gl (csI .i64) v4.1))), (4, (.arr true v31.2.length 1 (gl (csI .i64) v31.2)))]⟩ (T2 Tt) [] [0, 1, 5, 6, 8, 11, 12, 70] [2, 4] ⟨tr, tr, tr⟩ (thenQ_normal ?_))
          rcases ite2_cases h with ⟨b36, h⟩ | ⟨b36, h⟩
          · refine AW.cond_t rfl b36 ?_
            refine AW.seq (AW.rA ⟨[(4, (vc (.bool false)))], []⟩ (Tt ∧ Tt) [] [4] [] ⟨tr, tr⟩ (thenQ_normal ?_))
            refine AW.ret ?_
            refine thenQ_ret ?_
            replace h := some_eq h
            subst h
            exact ⟨.inr rfl, retOK_of [(.one (.c (.bool false)))] (by kernel_rfl) ⟨⟨rfl, tr⟩, tr⟩ (of_decide_eq_true (by kernel_rfl))⟩
          · refine AW.cond_f rfl b36 ?_
            refine AW.skip ?_
            refine thenQ_normal ?_
            refine AW.seq ?_
            refine AW.seq (AW.rA ⟨[(0, (vc (sl 1 (csI .i64) a0))), (1, (vc (.int .i64 a1))), (5, (.v (.one (.lst 2 v4.1.length 1 (gl (csI .i64) v4.1))))), (6, (vc (.bool v4.2))), (8, (.v (.one (.arr 4)))), (11, (vc (.int .i64 v31.1))), (73, (vc (.bool (v34 != v31.1))))], [(2, (.lst v4.1.length 1 (gl (csI .i64) v4.1))), (4, (.arr true v31.2.length 1 (gl (csI .i64) v31.2)))]⟩ (Tt ∧ T2 Tt) [] [0, 1, 5, 6, 8, 11, 73] [2, 4] ⟨tr, tr, tr, tr⟩ (thenQ_normal ?_))
            rcases ite2_cases h with ⟨b37, h⟩ | ⟨b37, h⟩
            · refine AW.cond_t rfl b37 ?_
              refine AW.seq (AW.rA ⟨[(4, (vc (.bool false)))], []⟩ (Tt ∧ Tt) [] [4] [] ⟨tr, tr⟩ (thenQ_normal ?_))
              refine AW.ret ?_
              refine thenQ_ret ?_
              replace h := some_eq h
              subst h
              exact ⟨.inr rfl, retOK_of [(.one (.c (.bool false)))] (by kernel_rfl) ⟨⟨rfl, tr⟩, tr⟩ (of_decide_eq_true (by kernel_rfl))⟩
            · refine AW.cond_f rfl b37 ?_
              refine AW.skip ?_
              refine thenQ_normal ?_
              refine AW.seq ?_
              obtain ⟨v38, e39, h⟩ := bind_some h
              obtain ⟨v40, e41, h⟩ := bind_some h
              refine AW.rA ⟨[(5, (.v (.one (.lst 2 v4.1.length 1 (gl (csI .i64) v4.1))))), (6, (vc (.bool v4.2))), (8, (.v (.one (.arr 4)))), (11, (vc (.int .i64 v31.1))), (13, (.v (.one (.lst 7 v40.1.length 1 (gl (csI .i64) v40.1))))), (14, (vc (.bool v40.2)))], [(2, (.lst v4.1.length 1 (gl (csI .i64) v4.1))), (4, (.arr true v31.2.length 1 (gl (csI .i64) v31.2))), (7, (.lst v40.1.length 1 (gl (csI .i64) v40.1)))]⟩ (Tt ∧ (((Eqc (sl 1 (csI .i64) a0)) ∧ Tt) ∧ CallOK Try.prog 5 [.one (sl 1 (csI .i64) a0)] [.one (sl 1 (csI .i64) v38)]) ∧ Tt ∧ (((Eqc (sl 1 (csI .i64) v38)) ∧ (Eqc (.int .i64 a1)) ∧ Tt) ∧ CallOK Try.prog 6 [.one (sl 1 (csI .i64) v38), .one (.int .i64 a1)] [.one (sl 1 (csI .i64) v40.1), .one (.bool v40.2)]) ∧ Tt ∧ T4 Tt) [.no, .call [.one (sl 1 (csI .i64) a0)] [.one (sl 1 (csI .i64) v38)] [[.lst 6]], .no, .call [.one (sl 1 (csI .i64) v38), .one (.int .i64 a1)] [.one (sl 1 (csI .i64) v40.1), .one (.bool v40.2)] [[.lst 7], [.view]]] [5, 6, 8, 11, 13, 14] [2, 4, 7] ⟨tr, ⟨⟨rfl, tr⟩, ok_laws_toInt64S K a0 v38 e39⟩, tr, ⟨⟨rfl, rfl, tr⟩, ok_impl_WorkersFor K v38 a1 v40 e41⟩, tr, tr, tr, tr, tr, tr⟩ ?_
              refine thenQ_normal ?_
              refine AW.seq ?_
              refine AW.seq ?_
              obtain ⟨v42, e43, h⟩ := bind_some h
              obtain ⟨j45, e46, h⟩ := bind_some h
              refine AW.join1 (s2 := ⟨[(8, (.v (.one (.arr 4)))), (11, (vc (.int .i64 v31.1))), (89, (vc (.bool j45)))], [(4, (.arr true v31.2.length 1 (gl (csI .i64) v31.2)))]⟩) ?_ ?_
              · rcases ite2_cases e46 with ⟨b44, e46⟩ | ⟨b44, e46⟩
                · replace e46 := some_eq e46
                  subst e46
                  exact AW.rA ⟨[(8, (.v (.one (.arr 4)))), (11, (vc (.int .i64 v31.1))), (89, (vc (.bool true)))], [(4, (.arr true v31.2.length 1 (gl (csI .i64) v31.2)))]⟩ (T2 ((((Eqc (sl 1 (csI .i64) v40.1)) ∧ (Eqc (sl 1 (csI .i64) v4.1)) ∧ Tt) ∧ CallOK Try.prog 7 [.one (sl 1 (csI .i64) v40.1), .one (sl 1 (csI .i64) v4.1)] [.one (.bool v42)]) ∧ Tt ∧ (Tt ∧ (!v42) = true) ∧ T4 Tt)) [.no, .no, .call [.one (sl 1 (csI .i64) v40.1), .one (sl 1 (csI .i64) v4.1)] [.one (.bool v42)] [[.view]], .no, .dec true] [8, 11, 89] [4] ⟨tr, tr, ⟨⟨rfl, rfl, tr⟩, ok_laws_eqInt64S K v40.1 v4.1 v42 e43⟩, tr, ⟨tr, b44⟩, tr, tr, tr, tr, tr⟩ ⟨rfl, rfl⟩
                · replace e46 := some_eq e46
                  subst e46
                  exact AW.rA ⟨[(8, (.v (.one (.arr 4)))), (11, (vc (.int .i64 v31.1))), (89, (vc (.bool (!(v40.2 == v4.2)))))], [(4, (.arr true v31.2.length 1 (gl (csI .i64) v31.2)))]⟩ (T2 ((((Eqc (sl 1 (csI .i64) v40.1)) ∧ (Eqc (sl 1 (csI .i64) v4.1)) ∧ Tt) ∧ CallOK Try.prog 7 [.one (sl 1 (csI .i64) v40.1), .one (sl 1 (csI .i64) v4.1)] [.one (.bool v42)]) ∧ Tt ∧ (Tt ∧ (!v42) = false) ∧ T4 Tt)) [.no, .no, .call [.one (sl 1 (csI .i64) v40.1), .one (sl 1 (csI .i64) v4.1)] [.one (.bool v42)] [[.view]], .no, .dec false] [8, 11, 89] [4] ⟨tr, tr, ⟨⟨rfl, rfl, tr⟩, ok_laws_eqInt64S K v40.1 v4.1 v42 e43⟩, tr, ⟨tr, b44⟩, tr, tr, tr, tr, tr⟩ ⟨rfl, rfl⟩
              refine thenQ_normal ?_
              rcases ite2_cases h with ⟨b47, h⟩ | ⟨b47, h⟩
              · refine AW.cond_t rfl b47 ?_
                refine AW.seq (AW.rA ⟨[(4, (vc (.bool false)))], []⟩ (Tt ∧ Tt) [] [4] [] ⟨tr, tr⟩ (thenQ_normal ?_))
                refine AW.ret ?_
                refine thenQ_ret ?_
                replace h := some_eq h
                subst h
                exact ⟨.inr rfl, retOK_of [(.one (.c (.bool false)))] (by kernel_rfl) ⟨⟨rfl, tr⟩, tr⟩ (of_decide_eq_true (by kernel_rfl))⟩
              · refine AW.cond_f rfl b47 ?_
                refine AW.skip ?_
                refine thenQ_normal ?_
                refine AW.seq (AW.rA ⟨[(8, (.v (.one (.arr 4)))), (11, (vc (.int .i64 v31.1))), (12, (vc (.int .i64 (1 : Int))))], [(4, (.arr true v31.2.length 1 (gl (csI .i64) v31.2)))]⟩ (Tt ∧ Tt) [] [8, 11, 12] [4] ⟨tr, tr⟩ (thenQ_normal ?_))
                refine AW.seq ?_
                obtain ⟨v48, e49, h⟩ := bind_some h
                refine AW.rA ⟨[(11, (vc (.int .i64 v31.1))), (12, (vc (.int .i64 v48)))], []⟩ (T2 ((((Eqc (sl 1 (csI .i64) v31.2)) ∧ (Eqc (.int .i64 (1 : Int))) ∧ Tt) ∧ CallOK Try.prog 9 [.one (sl 1 (csI .i64) v31.2), .one (.int .i64 (1 : Int))] [.one (.int .i64 v48)]) ∧ Tt ∧ Tt)) [.no, .no, .call [.one (sl 1 (csI .i64) v31.2), .one (.int .i64 (1 : Int))] [.one (.int .i64 v48)] [[.view]]] [11, 12] [] ⟨tr, tr, ⟨⟨rfl, rfl, tr⟩, ok_laws_heldInt64S K v31.2 (1 : Int) v48 e49⟩, tr, tr⟩ ?_
                refine thenQ_normal ?_
                refine AW.seq ?_
                refine AW.seq (AW.rA ⟨[(11, (vc (.int .i64 v31.1))), (12, (vc (.int .i64 v48))), (94, (vc (.bool (decide (v48 < (0 : Int))))))], []⟩ (T2 Tt) [] [11, 12, 94] [] ⟨tr, tr, tr⟩ (thenQ_normal ?_))
                rcases ite2_cases h with ⟨b50, h⟩ | ⟨b50, h⟩
                · refine AW.cond_t rfl b50 ?_
                  refine AW.seq (AW.rA ⟨[(4, (vc (.bool false)))], []⟩ (Tt ∧ Tt) [] [4] [] ⟨tr, tr⟩ (thenQ_normal ?_))
                  refine AW.ret ?_
                  refine thenQ_ret ?_
                  replace h := some_eq h
                  subst h
                  exact ⟨.inr rfl, retOK_of [(.one (.c (.bool false)))] (by kernel_rfl) ⟨⟨rfl, tr⟩, tr⟩ (of_decide_eq_true (by kernel_rfl))⟩
                · refine AW.cond_f rfl b50 ?_
                  refine AW.skip ?_
                  refine thenQ_normal ?_
                  refine AW.seq ?_
                  refine AW.seq (AW.rA ⟨[(97, (vc (.bool (v48 != v31.1))))], []⟩ (Tt ∧ T2 Tt) [] [97] [] ⟨tr, tr, tr, tr⟩ (thenQ_normal ?_))
                  rcases ite2_cases h with ⟨b51, h⟩ | ⟨b51, h⟩
                  · refine AW.cond_t rfl b51 ?_
                    refine AW.seq (AW.rA ⟨[(4, (vc (.bool false)))], []⟩ (Tt ∧ Tt) [] [4] [] ⟨tr, tr⟩ (thenQ_normal ?_))
                    refine AW.ret ?_
                    refine thenQ_ret ?_
                    replace h := some_eq h
                    subst h
                    exact ⟨.inr rfl, retOK_of [(.one (.c (.bool false)))] (by kernel_rfl) ⟨⟨rfl, tr⟩, tr⟩ (of_decide_eq_true (by kernel_rfl))⟩
                  · refine AW.cond_f rfl b51 ?_
                    refine AW.skip ?_
                    refine thenQ_normal ?_
                    refine AW.seq (AW.rA ⟨[(4, (vc (.bool true)))], []⟩ (Tt ∧ Tt) [] [4] [] ⟨tr, tr⟩ (thenQ_normal ?_))
                    refine AW.ret ?_
                    replace h := some_eq h
                    subst h
                    exact ⟨.inr rfl, retOK_of [(.one (.c (.bool true)))] (by kernel_rfl) ⟨⟨rfl, tr⟩, tr⟩ (of_decide_eq_true (by kernel_rfl))⟩

end
end Go.Fw
