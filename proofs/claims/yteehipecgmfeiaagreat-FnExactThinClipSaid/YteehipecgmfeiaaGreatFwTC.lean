/- Functions of the program: what each computes, and that it computes just that. -/
import Derived.Test.YteehipecgmfeiaaGreatFwTy
import Derived.Test.YteehipecgmfeiaaGreatFwH
import Derived.Test.YteehipecgmfeiaaGreatFwV
import Derived.Test.YteehipecgmfeiaaGreatFwTC2
import Derived.Test.YteehipecgmfeiaaGreatFwAB
import Derived.Test.YteehipecgmfeiaaGreatFwUB
import Derived.Test.YteehipecgmfeiaaGreatProg
import Derived.KernelRfl
namespace Go.Fw
open Go Go.Proofs
noncomputable section
set_option maxRecDepth 10000

/-! impl.validClip -/
def impl_validClip (K : Nat) (a0 : Clip) : Option (Clip × Bool) :=
  (impl_ValidClip K a0).bind fun v1 => ite2 ((!v1)) (some ((Clip.mk (0 : Int) (0 : Int) ([] : (List (List Key))) ([] : (List RootKey))), false)) (some (a0, true))

theorem ok_impl_validClip (K : Nat) (a0 : Clip) (o : (Clip × Bool)) (h : impl_validClip K a0 = some o) : MutOK Tryz.prog 49 [(.agg [(.ro (.int .i64 a0.Length)), (.ro (.int .i64 a0.Kind)), (.mv (sl 1 (csL 5 cs_Key) a0.Tracks)), (.mv (sl 4 cs_RootKey a0.Roots))])] [.agg (cs_Clip o.1), .one (.bool o.2)] := by
  refine mutOK_of_AW 2 Tryz.func49 rfl (by kernel_rfl) (Nat.le_of_ble_eq_true (by kernel_rfl)) (by kernel_rfl) (by kernel_rfl) ?_
  intro w0 K0 v0 s0
  unfold impl_validClip at h
  refine AW.seq (AW.rA ⟨[(0, (.v (.agg [(.c (.int .i64 a0.Length)), (.c (.int .i64 a0.Kind)), (.arr 0), (.arr 1)]))), (1, (vp 2 0)), (2, (vp 3 0))], [(0, (.arr true a0.Tracks.length 1 (gl (csL 5 cs_Key) a0.Tracks))), (1, (.arr true a0.Roots.length 4 (gl cs_RootKey a0.Roots))), (2, (.box [(.c (.int .i64 a0.Length)), (.c (.int .i64 a0.Kind)), (.arr 0), (.arr 1)])), (3, (.box [(.c (.int .i64 (0 : Int))), (.c (.int .i64 (0 : Int))), .nils, .nils]))]⟩ (Tt ∧ T2 Tt) [.box 2, .box 3] [0, 1, 2] [0, 1, 2, 3] ⟨tr, tr, tr, tr⟩ (thenQ_normal ?_))
  refine AW.seq ?_
  refine AW.seq ?_
  obtain ⟨v1, e2, h⟩ := bind_some h
  refine AW.rA ⟨[(0, (.v (.agg [(.c (.int .i64 a0.Length)), (.c (.int .i64 a0.Kind)), (.arr 0), (.arr 1)]))), (1, (vp 2 0)), (2, (vp 3 0)), (6, (vc (.bool (!v1))))], [(0, (.arr true a0.Tracks.length 1 (gl (csL 5 cs_Key) a0.Tracks))), (1, (.arr true a0.Roots.length 4 (gl cs_RootKey a0.Roots))), (2, (.box [(.c (.int .i64 a0.Length)), (.c (.int .i64 a0.Kind)), (.arr 0), (.arr 1)])), (3, (.box [(.c (.int .i64 (0 : Int))), (.c (.int .i64 (0 : Int))), .nils, .nils]))]⟩ (Tt ∧ ((((Eqc (.int .i64 a0.Length)) ∧ (Eqc (.int .i64 a0.Kind)) ∧ (Eqc (sl 1 (csL 5 cs_Key) a0.Tracks)) ∧ (Eqc (sl 4 cs_RootKey a0.Roots)) ∧ Tt) ∧ Tt) ∧ CallOK Tryz.prog 19 [.agg (cs_Clip a0)] [.one (.bool v1)]) ∧ Tt ∧ Tt) [.no, .call [.agg (cs_Clip a0)] [.one (.bool v1)] [[.view]]] [0, 1, 2, 6] [0, 1, 2, 3] ⟨tr, ⟨⟨⟨rfl, rfl, rfl, rfl, tr⟩, tr⟩, ok_impl_ValidClip K a0 v1 e2⟩, tr, tr⟩ ?_
  refine thenQ_normal ?_
  rcases ite2_cases h with ⟨b3, h⟩ | ⟨b3, h⟩
  · refine AW.cond_t rfl b3 ?_
    refine AW.seq (AW.rA ⟨[(0, (.v (.agg [(.c (.int .i64 a0.Length)), (.c (.int .i64 a0.Kind)), (.arr 0), (.arr 1)]))), (2, (vp 3 0)), (3, (vc (.bool false)))], [(0, (.arr true a0.Tracks.length 1 (gl (csL 5 cs_Key) a0.Tracks))), (1, (.arr true a0.Roots.length 4 (gl cs_RootKey a0.Roots))), (3, (.box [(.c (.int .i64 (0 : Int))), (.c (.int .i64 (0 : Int))), .nils, .nils]))]⟩ (Tt ∧ T2 Tt) [] [0, 2, 3] [0, 1, 3] ⟨tr, tr, tr, tr⟩ (thenQ_normal ?_))
    refine AW.ret ?_
    refine thenQ_ret ?_
    replace h := some_eq h
    subst h
    exact ⟨.inr rfl, retOK_of [(.agg [(.c (.int .i64 (0 : Int))), (.c (.int .i64 (0 : Int))), .nils, .nils]), (.one (.c (.bool false)))] (by kernel_rfl) ⟨⟨⟨rfl, tr⟩, ⟨rfl, tr⟩, rfl, rfl, tr⟩, ⟨rfl, tr⟩, tr⟩ (of_decide_eq_true (by kernel_rfl)), by kernel_rfl, ⟨⟨tr, tr, tr, tr, tr⟩, tr⟩⟩
  · refine AW.cond_f rfl b3 ?_
    refine AW.skip ?_
    refine thenQ_normal ?_
    refine AW.seq (AW.rA ⟨[(0, (.v (.agg [(.c (.int .i64 a0.Length)), (.c (.int .i64 a0.Kind)), (.arr 0), (.arr 1)]))), (2, (vp 3 0)), (3, (vc (.bool true)))], [(0, (.arr true a0.Tracks.length 1 (gl (csL 5 cs_Key) a0.Tracks))), (1, (.arr true a0.Roots.length 4 (gl cs_RootKey a0.Roots))), (3, (.box [(.c (.int .i64 a0.Length)), (.c (.int .i64 a0.Kind)), (.arr 0), (.arr 1)]))]⟩ (Tt ∧ T2 Tt) [] [0, 2, 3] [0, 1, 3] ⟨tr, tr, tr, tr⟩ (thenQ_normal ?_))
    refine AW.ret ?_
    replace h := some_eq h
    subst h
    exact ⟨.inr rfl, retOK_of [(.agg [(.c (.int .i64 a0.Length)), (.c (.int .i64 a0.Kind)), (.arr 0), (.arr 1)]), (.one (.c (.bool true)))] (by kernel_rfl) ⟨⟨⟨rfl, tr⟩, ⟨rfl, tr⟩, rfl, rfl, tr⟩, ⟨rfl, tr⟩, tr⟩ (of_decide_eq_true (by kernel_rfl)), by kernel_rfl, ⟨⟨tr, tr, tr, tr, tr⟩, tr⟩⟩

/-! (impl.Clip).changed -/
def impl_Clip_changed_l1 (K : Nat) (a0 : Clip) (a1 : Int) (a2_0_0 : F32) (v1 : ((List RootKey))) : Nat → Int → (List (List Key)) → Option (Clip × Bool)
  | 0, _, _ => none
  | k + 1, x5, x6 => ite2 ((decide (x5 < (a0.Tracks.length : Int)))) (chk (0 ≤ x5 ∧ x5 < (a0.Tracks.length : Int)) ((impl_ThinClip_1 K x5 (a0.Tracks.getD x5.toNat default) a2_0_0).bind fun v9 => chk ((x6.length + ([v9]).length) * 24 ≤ 140737488355328) (impl_Clip_changed_l1 K a0 a1 a2_0_0 v1 k (IntKind.i64.wrap (x5 + (1 : Int))) (x6 ++ ([v9]))))) ((impl_validClip K (Clip.mk a1 a0.Kind x6 v1)).bind fun v12 => some (v12.1, v12.2))

def impl_Clip_changed (K : Nat) (a0 : Clip) (a1 : Int) (a2_0_0 : F32) : Option (Clip × Bool) :=
  (impl_ThinClip_2 K a0.Roots).bind fun v1 => impl_Clip_changed_l1 K a0 a1 a2_0_0 v1 K (0 : Int) ([] : (List (List Key)))

theorem ok_impl_Clip_changed (K : Nat) (a0 : Clip) (a1 : Int) (a2_0_0 : F32) (o : (Clip × Bool)) (h : impl_Clip_changed K a0 a1 a2_0_0 = some o) : CallOK Tryz.prog 20 [.agg (cs_Clip a0), .one (.int .i64 a1), .one (.fn 21 1 fun j => [(pl 1 (csF .f32) a2_0_0)].getD j .nilptr), .one (.fn 23 0 fun _ => .nilptr)] [.agg (cs_Clip o.1), .one (.bool o.2)] := by
  refine callOK_of_AW Tryz.func20 rfl (by kernel_rfl) (Nat.le_of_ble_eq_true (by kernel_rfl)) ?_
  intro w0
  unfold impl_Clip_changed at h
  refine AW.seq (AW.rA ⟨[(1, (vc (.int .i64 a1))), (2, (vc (.fn 21 1 fun j => [(pl 1 (csF .f32) a2_0_0)].getD j .nilptr))), (3, (vc (.fn 23 0 fun _ => .nilptr))), (4, (vp 1 0)), (8, (vp 2 0))], [(1, (.box [(.c (.int .i64 a0.Length)), (.c (.int .i64 a0.Kind)), (.c (sl 1 (csL 5 cs_Key) a0.Tracks)), (.c (sl 4 cs_RootKey a0.Roots))])), (2, (.box [(.c (.int .i64 (0 : Int))), (.c (.int .i64 (0 : Int))), .nils, .nils]))]⟩ (Tt ∧ T2 Tt) [.box 1, .box 2] [1, 2, 3, 4, 8] [1, 2] ⟨tr, tr, tr, tr⟩ (thenQ_normal ?_))
  refine AW.seq ?_
  obtain ⟨v1, e2, h⟩ := bind_some h
  refine AW.dA ⟨[(2, (vc (.fn 21 1 fun j => [(pl 1 (csF .f32) a2_0_0)].getD j .nilptr))), (4, (vp 1 0)), (8, (vp 2 0)), (10, (vp 4 0))], [(1, (.box [(.c (.int .i64 a0.Length)), (.c (.int .i64 a0.Kind)), (.c (sl 1 (csL 5 cs_Key) a0.Tracks)), (.c (sl 4 cs_RootKey a0.Roots))])), (2, (.box [(.c (.int .i64 (0 : Int))), (.c (.int .i64 (0 : Int))), .nils, .nils])), (3, (.lst v1.length 4 (gl cs_RootKey v1))), (4, (.box [(.c (.int .i64 a1)), (.c (.int .i64 a0.Kind)), .nils, (.lst 3 v1.length 4 (gl cs_RootKey v1))]))]⟩ ((T2 (T4 ((((Eqc (sl 4 cs_RootKey a0.Roots)) ∧ Tt) ∧ CallOK Tryz.prog 23 [.one (sl 4 cs_RootKey a0.Roots)] [.one (sl 4 cs_RootKey v1)]) ∧ T2 Tt))) ∧ (Tt ∧ Tt)) 9 [.no, .no, .no, .no, .no, .no, .call [.one (sl 4 cs_RootKey a0.Roots)] [.one (sl 4 cs_RootKey v1)] [[.lst 3]], .no, .box 4] [2, 4, 8, 10] [1, 2, 3, 4] ⟨⟨tr, tr, tr, tr, tr, tr, ⟨⟨rfl, tr⟩, ok_impl_ThinClip_2 K a0.Roots v1 e2⟩, tr, tr, tr⟩, ⟨tr, tr⟩⟩ ?_
  refine thenQ_normal ?_
  refine AW.seq ?_
  refine AW.seq (AW.rA ⟨[(2, (vc (.fn 21 1 fun j => [(pl 1 (csF .f32) a2_0_0)].getD j .nilptr))), (8, (vp 2 0)), (10, (vp 4 0)), (22, (vc (sl 1 (csL 5 cs_Key) a0.Tracks))), (23, (vc (.int .i64 (a0.Tracks.length : Int)))), (24, (vc (.int .i64 (0 : Int))))], [(2, (.box [(.c (.int .i64 (0 : Int))), (.c (.int .i64 (0 : Int))), .nils, .nils])), (3, (.lst v1.length 4 (gl cs_RootKey v1))), (4, (.box [(.c (.int .i64 a1)), (.c (.int .i64 a0.Kind)), .nils, (.lst 3 v1.length 4 (gl cs_RootKey v1))]))]⟩ (T4 Tt) [] [2, 8, 10, 22, 23, 24] [2, 3, 4] ⟨tr, tr, tr, tr, tr⟩ (thenQ_normal ?_))
  refine AW.block ?_
  refine AW.weak (s' := ⟨[(2, (vc (.fn 21 1 fun j => [(pl 1 (csF .f32) a2_0_0)].getD j .nilptr))), (8, (vp 2 0)), (10, (vp 4 0)), (22, (vc (sl 1 (csL 5 cs_Key) a0.Tracks))), (23, (vc (.int .i64 (a0.Tracks.length : Int)))), (24, (vc (.int .i64 (0 : Int))))], [(2, (.box [(.c (.int .i64 (0 : Int))), (.c (.int .i64 (0 : Int))), .nils, .nils])), (3, (.lst v1.length 4 (gl cs_RootKey v1))), (4, (.box [(.c (.int .i64 a1)), (.c (.int .i64 a0.Kind)), (.lst 8 ([] : (List (List Key))).length 1 (gl (csL 5 cs_Key) ([] : (List (List Key))))), (.lst 3 v1.length 4 (gl cs_RootKey v1))])), (8, (.lst ([] : (List (List Key))).length 1 (gl (csL 5 cs_Key) ([] : (List (List Key))))))]⟩) (Sub.trans (Sub.unnil 8 1 (gl (csL 5 cs_Key) ([] : (List (List Key)))) [] [(4, 2)] _ (by kernel_rfl) (by kernel_rfl)) (Sub.keep [2, 8, 10, 22, 23, 24] [2, 3, 4, 8] (by kernel_rfl) (by kernel_rfl))) ?_
  refine AW.loopQ (σ := Nat × Int × (List (List Key))) (fun p => ⟨[(2, (vc (.fn 21 1 fun j => [(pl 1 (csF .f32) a2_0_0)].getD j .nilptr))), (8, (vp 2 0)), (10, (vp 4 0)), (22, (vc (sl 1 (csL 5 cs_Key) a0.Tracks))), (23, (vc (.int .i64 (a0.Tracks.length : Int)))), (24, (vc (.int .i64 p.2.1)))], [(2, (.box [(.c (.int .i64 (0 : Int))), (.c (.int .i64 (0 : Int))), .nils, .nils])), (3, (.lst v1.length 4 (gl cs_RootKey v1))), (4, (.box [(.c (.int .i64 a1)), (.c (.int .i64 a0.Kind)), (.lst 8 p.2.2.length 1 (gl (csL 5 cs_Key) p.2.2)), (.lst 3 v1.length 4 (gl cs_RootKey v1))])), (8, (.lst p.2.2.length 1 (gl (csL 5 cs_Key) p.2.2)))]⟩) (fun p => impl_Clip_changed_l1 K a0 a1 a2_0_0 v1 p.1 p.2.1 p.2.2 = some o) (fun p => p.1) (K, (0 : Int), ([] : (List (List Key)))) h ?_
  clear h
  rintro ⟨k, x5, x6⟩ h
  replace h : impl_Clip_changed_l1 K a0 a1 a2_0_0 v1 k x5 x6 = some o := h
  show AW _ _ (⟨[(2, (vc (.fn 21 1 fun j => [(pl 1 (csF .f32) a2_0_0)].getD j .nilptr))), (8, (vp 2 0)), (10, (vp 4 0)), (22, (vc (sl 1 (csL 5 cs_Key) a0.Tracks))), (23, (vc (.int .i64 (a0.Tracks.length : Int)))), (24, (vc (.int .i64 x5)))], [(2, (.box [(.c (.int .i64 (0 : Int))), (.c (.int .i64 (0 : Int))), .nils, .nils])), (3, (.lst v1.length 4 (gl cs_RootKey v1))), (4, (.box [(.c (.int .i64 a1)), (.c (.int .i64 a0.Kind)), (.lst 8 x6.length 1 (gl (csL 5 cs_Key) x6)), (.lst 3 v1.length 4 (gl cs_RootKey v1))])), (8, (.lst x6.length 1 (gl (csL 5 cs_Key) x6)))]⟩ : St) _
  obtain _ | k := k
  · rw [impl_Clip_changed_l1] at h; cases h
  rw [impl_Clip_changed_l1] at h
  refine AW.seq (AW.rA ⟨[(2, (vc (.fn 21 1 fun j => [(pl 1 (csF .f32) a2_0_0)].getD j .nilptr))), (8, (vp 2 0)), (10, (vp 4 0)), (22, (vc (sl 1 (csL 5 cs_Key) a0.Tracks))), (23, (vc (.int .i64 (a0.Tracks.length : Int)))), (24, (vc (.int .i64 x5))), (25, (vc (.bool (decide (x5 < (a0.Tracks.length : Int))))))], [(2, (.box [(.c (.int .i64 (0 : Int))), (.c (.int .i64 (0 : Int))), .nils, .nils])), (3, (.lst v1.length 4 (gl cs_RootKey v1))), (4, (.box [(.c (.int .i64 a1)), (.c (.int .i64 a0.Kind)), (.lst 8 x6.length 1 (gl (csL 5 cs_Key) x6)), (.lst 3 v1.length 4 (gl cs_RootKey v1))])), (8, (.lst x6.length 1 (gl (csL 5 cs_Key) x6)))]⟩ (Tt ∧ Tt) [] [2, 8, 10, 22, 23, 24, 25] [2, 3, 4, 8] ⟨tr, tr⟩ (thenQ_normal ?_))
  refine AW.seq ?_
  rcases ite2_cases h with ⟨b7, h⟩ | ⟨b7, h⟩
  · refine AW.cond_t rfl b7 ?_
    refine AW.skip ?_
    refine thenQ_normal ?_
    refine AW.seq ?_
    refine AW.block ?_
    refine AW.seq ?_
    obtain ⟨c8, h⟩ := chk_some h
    refine AW.rA ⟨[(2, (vc (.fn 21 1 fun j => [(pl 1 (csF .f32) a2_0_0)].getD j .nilptr))), (8, (vp 2 0)), (10, (vp 4 0)), (11, (vc (.int .i64 x5))), (12, (vc (sl 5 cs_Key (a0.Tracks.getD x5.toNat default)))), (22, (vc (sl 1 (csL 5 cs_Key) a0.Tracks))), (23, (vc (.int .i64 (a0.Tracks.length : Int)))), (24, (vc (.int .i64 x5)))], [(2, (.box [(.c (.int .i64 (0 : Int))), (.c (.int .i64 (0 : Int))), .nils, .nils])), (3, (.lst v1.length 4 (gl cs_RootKey v1))), (4, (.box [(.c (.int .i64 a1)), (.c (.int .i64 a0.Kind)), (.lst 8 x6.length 1 (gl (csL 5 cs_Key) x6)), (.lst 3 v1.length 4 (gl cs_RootKey v1))])), (8, (.lst x6.length 1 (gl (csL 5 cs_Key) x6)))]⟩ (Tt ∧ (0 ≤ x5 ∧ x5 < (a0.Tracks.length : Int)) ∧ Tt ∧ T2 Tt) [] [2, 8, 10, 11, 12, 22, 23, 24] [2, 3, 4, 8] ⟨tr, c8, tr, tr, tr, tr⟩ ?_
    refine thenQ_normal ?_
    obtain ⟨v9, e10, h⟩ := bind_some h
    obtain ⟨c11, h⟩ := chk_some h
    refine AW.dA ⟨[(2, (vc (.fn 21 1 fun j => [(pl 1 (csF .f32) a2_0_0)].getD j .nilptr))), (8, (vp 2 0)), (10, (vp 4 0)), (22, (vc (sl 1 (csL 5 cs_Key) a0.Tracks))), (23, (vc (.int .i64 (a0.Tracks.length : Int)))), (24, (vc (.int .i64 x5)))], [(2, (.box [(.c (.int .i64 (0 : Int))), (.c (.int .i64 (0 : Int))), .nils, .nils])), (3, (.lst v1.length 4 (gl cs_RootKey v1))), (4, (.box [(.c (.int .i64 a1)), (.c (.int .i64 a0.Kind)), (.lst 17 (x6 ++ ([v9])).length 1 (gl (csL 5 cs_Key) (x6 ++ ([v9])))), (.lst 3 v1.length 4 (gl cs_RootKey v1))])), (17, (.lst (x6 ++ ([v9])).length 1 (gl (csL 5 cs_Key) (x6 ++ ([v9])))))]⟩ ((Tt ∧ T4 ((((Eqc (.int .i64 x5)) ∧ (Eqc (sl 5 cs_Key (a0.Tracks.getD x5.toNat default))) ∧ (1 = 1 ∧ ∀ j, j < 1 → ((csF .f32) a2_0_0).getD j .nilptr = ((csF .f32) a2_0_0).getD j .nilptr) ∧ Tt) ∧ CallOK Tryz.prog 21 [.one (.int .i64 x5), .one (sl 5 cs_Key (a0.Tracks.getD x5.toNat default)), .one (pl 1 (csF .f32) a2_0_0)] [.one (sl 5 cs_Key v9)]) ∧ (([v9]).length = 1 ∧ (Eqc (sl 5 cs_Key v9)) ∧ Tt) ∧ ((x6 ++ ([v9])).length = x6.length + ([v9]).length ∧ AppOb (x6.length) (([v9]).length) 1 (gl (csL 5 cs_Key) x6) (gl (csL 5 cs_Key) ([v9])) (gl (csL 5 cs_Key) (x6 ++ ([v9]))) ∧ Tt ∧ (x6.length + ([v9]).length) * 24 ≤ 140737488355328) ∧ Tt ∧ Tt)) ∧ (Tt ∧ Tt)) 9 [.no, .no, .no, .no, .no, .call [.one (.int .i64 x5), .one (sl 5 cs_Key (a0.Tracks.getD x5.toNat default)), .one (pl 1 (csF .f32) a2_0_0)] [.one (sl 5 cs_Key v9)] [[.lst 15]], .obj 16 ([v9]).length (gl (csL 5 cs_Key) ([v9])), .obj 17 (x6 ++ ([v9])).length (gl (csL 5 cs_Key) (x6 ++ ([v9])))] [2, 8, 10, 22, 23, 24] [2, 3, 4, 17] ⟨⟨tr, tr, tr, tr, tr, ⟨⟨rfl, rfl, ⟨rfl, fun j hj => rfl⟩, tr⟩, ok_impl_ThinClip_1 K x5 (a0.Tracks.getD x5.toNat default) a2_0_0 v9 e10⟩, ⟨rfl, ⟨rfl, tr⟩⟩, ⟨List.length_append, gl_append, tr, c11⟩, tr, tr⟩, ⟨tr, tr⟩⟩ ?_
    refine blockQ_normal ?_
    refine thenQ_normal ?_
    refine AW.rA ⟨[(2, (vc (.fn 21 1 fun j => [(pl 1 (csF .f32) a2_0_0)].getD j .nilptr))), (8, (vp 2 0)), (10, (vp 4 0)), (22, (vc (sl 1 (csL 5 cs_Key) a0.Tracks))), (23, (vc (.int .i64 (a0.Tracks.length : Int)))), (24, (vc (.int .i64 (IntKind.i64.wrap (x5 + (1 : Int))))))], [(2, (.box [(.c (.int .i64 (0 : Int))), (.c (.int .i64 (0 : Int))), .nils, .nils])), (3, (.lst v1.length 4 (gl cs_RootKey v1))), (4, (.box [(.c (.int .i64 a1)), (.c (.int .i64 a0.Kind)), (.lst 17 (x6 ++ ([v9])).length 1 (gl (csL 5 cs_Key) (x6 ++ ([v9])))), (.lst 3 v1.length 4 (gl cs_RootKey v1))])), (17, (.lst (x6 ++ ([v9])).length 1 (gl (csL 5 cs_Key) (x6 ++ ([v9])))))]⟩ (T2 Tt) [] [2, 8, 10, 22, 23, 24] [2, 3, 4, 17] ⟨tr, tr, tr⟩ ?_
    exact loopQ_normal (k, (IntKind.i64.wrap (x5 + (1 : Int))), (x6 ++ ([v9]))) h (Nat.lt_succ_self k) (Sub.trans (Sub.swap 8 17 _ (by kernel_rfl) (by kernel_rfl)) (Sub.keep [2, 8, 10, 22, 23, 24] [2, 3, 4, 8] (by kernel_rfl) (by kernel_rfl)))
  · refine AW.cond_f rfl b7 ?_
    refine AW.exit ?_
    refine thenQ_exit ?_
    refine loopQ_exit ?_
    refine blockQ_exit ?_
    refine thenQ_normal ?_
    refine AW.seq ?_
    refine AW.weak (s' := ⟨[(8, (vp 2 0)), (10, (vp 4 0))], [(2, (.box [(.c (.int .i64 (0 : Int))), (.c (.int .i64 (0 : Int))), .nils, .nils])), (3, (.lst v1.length 4 (gl cs_RootKey v1))), (4, (.box [(.c (.int .i64 a1)), (.c (.int .i64 a0.Kind)), (.lst 8 x6.length 1 (gl (csL 5 cs_Key) x6)), (.lst 3 v1.length 4 (gl cs_RootKey v1))])), (8, (.lst x6.length 1 (gl (csL 5 cs_Key) x6)))]⟩) (Sub.keep [8, 10] [2, 3, 4, 8] (by kernel_rfl) (by kernel_rfl)) ?_
    refine AW.weak (s' := ⟨[(8, (vp 2 0)), (10, (vp 4 0))], [(2, (.box [(.c (.int .i64 (0 : Int))), (.c (.int .i64 (0 : Int))), .nils, .nils])), (3, (.arr true v1.length 4 (gl cs_RootKey v1))), (4, (.box [(.c (.int .i64 a1)), (.c (.int .i64 a0.Kind)), (.arr 8), (.arr 3)])), (8, (.arr true x6.length 1 (gl (csL 5 cs_Key) x6)))]⟩) (Sub.lstOwn [3, 8] (by kernel_rfl)) ?_
    obtain ⟨v12, e13, h⟩ := bind_some h
    refine AW.splitA 1 [.no] [8, 39] [2, 3, 8] [.callM [(.agg [(.ro (.int .i64 a1)), (.ro (.int .i64 a0.Kind)), (.mv (sl 1 (csL 5 cs_Key) x6)), (.mv (sl 4 cs_RootKey v1))])] [.agg (cs_Clip v12.1), .one (.bool v12.2)] [[.view, .view, .lst 18, .lst 19], [.view]] none] [8, 9] [2, 18, 19] (s' := ⟨[(8, (vp 2 0)), (9, (vc (.bool v12.2)))], [(2, (.box [(.c (.int .i64 v12.1.Length)), (.c (.int .i64 v12.1.Kind)), (.lst 18 v12.1.Tracks.length 1 (gl (csL 5 cs_Key) v12.1.Tracks)), (.lst 19 v12.1.Roots.length 4 (gl cs_RootKey v12.1.Roots))])), (18, (.lst v12.1.Tracks.length 1 (gl (csL 5 cs_Key) v12.1.Tracks))), (19, (.lst v12.1.Roots.length 4 (gl cs_RootKey v12.1.Roots)))]⟩) (ob := (Tt ∧ Tt) ∧ (((((Eqc (.int .i64 a1)) ∧ (Eqc (.int .i64 a0.Kind)) ∧ (Eqc (sl 1 (csL 5 cs_Key) x6)) ∧ (Eqc (sl 4 cs_RootKey v1)) ∧ Tt) ∧ Tt) ∧ MutOK Tryz.prog 49 [(.agg [(.ro (.int .i64 a1)), (.ro (.int .i64 a0.Kind)), (.mv (sl 1 (csL 5 cs_Key) x6)), (.mv (sl 4 cs_RootKey v1))])] [.agg (cs_Clip v12.1), .one (.bool v12.2)]) ∧ T4 Tt)) (by kernel_rfl) ⟨⟨tr, tr⟩, ⟨⟨⟨⟨rfl, rfl, rfl, rfl, tr⟩, tr⟩, ok_impl_validClip K (Clip.mk a1 a0.Kind x6 v1) v12 e13⟩, tr, tr, tr, tr, tr⟩⟩ ?_
    refine thenQ_normal ?_
    refine AW.ret ?_
    replace h := some_eq h
    subst h
    exact ⟨.inr rfl, retOK_of [(.agg [(.c (.int .i64 v12.1.Length)), (.c (.int .i64 v12.1.Kind)), (.lst 18 v12.1.Tracks.length 1 (gl (csL 5 cs_Key) v12.1.Tracks)), (.lst 19 v12.1.Roots.length 4 (gl cs_RootKey v12.1.Roots))]), (.one (.c (.bool v12.2)))] (by kernel_rfl) ⟨⟨⟨rfl, tr⟩, ⟨rfl, tr⟩, rfl, rfl, tr⟩, ⟨rfl, tr⟩, tr⟩ (of_decide_eq_true (by kernel_rfl))⟩

/-! impl.ThinClip -/
def impl_ThinClip (K : Nat) (a0 : Clip) (a1 : F32) : Option (Clip × Bool) :=
  (impl_ValidClip K a0).bind fun v1 => ite2 ((!v1)) (some ((Clip.mk (0 : Int) (0 : Int) ([] : (List (List Key))) ([] : (List RootKey))), false)) ((impl_Clip_changed K a0 a0.Length a1).bind fun v4 => some (v4.1, v4.2))

theorem ok_impl_ThinClip (K : Nat) (a0 : Clip) (a1 : F32) (o : (Clip × Bool)) (h : impl_ThinClip K a0 a1 = some o) : CallOK Tryz.prog 7 [.agg (cs_Clip a0), .one (.flt .f32 a1.bits)] [.agg (cs_Clip o.1), .one (.bool o.2)] := by
  refine callOK_of_AW Tryz.func7 rfl (by kernel_rfl) (Nat.le_of_ble_eq_true (by kernel_rfl)) ?_
  intro w0
  unfold impl_ThinClip at h
  refine AW.seq (AW.rA ⟨[(2, (vp 1 0)), (3, (vp 2 0)), (4, (vp 3 0))], [(1, (.box [(.c (.int .i64 a0.Length)), (.c (.int .i64 a0.Kind)), (.c (sl 1 (csL 5 cs_Key) a0.Tracks)), (.c (sl 4 cs_RootKey a0.Roots))])), (2, (.box [(.c (.flt .f32 a1.bits))])), (3, (.box [(.c (.int .i64 (0 : Int))), (.c (.int .i64 (0 : Int))), .nils, .nils]))]⟩ (T4 Tt) [.box 1, .box 2, .box 3] [2, 3, 4] [1, 2, 3] ⟨tr, tr, tr, tr, tr⟩ (thenQ_normal ?_))
  refine AW.seq ?_
  refine AW.seq ?_
  obtain ⟨v1, e2, h⟩ := bind_some h
  refine AW.rA ⟨[(2, (vp 1 0)), (3, (vp 2 0)), (4, (vp 3 0)), (8, (vc (.bool (!v1))))], [(1, (.box [(.c (.int .i64 a0.Length)), (.c (.int .i64 a0.Kind)), (.c (sl 1 (csL 5 cs_Key) a0.Tracks)), (.c (sl 4 cs_RootKey a0.Roots))])), (2, (.box [(.c (.flt .f32 a1.bits))])), (3, (.box [(.c (.int .i64 (0 : Int))), (.c (.int .i64 (0 : Int))), .nils, .nils]))]⟩ (Tt ∧ ((((Eqc (.int .i64 a0.Length)) ∧ (Eqc (.int .i64 a0.Kind)) ∧ (Eqc (sl 1 (csL 5 cs_Key) a0.Tracks)) ∧ (Eqc (sl 4 cs_RootKey a0.Roots)) ∧ Tt) ∧ Tt) ∧ CallOK Tryz.prog 19 [.agg (cs_Clip a0)] [.one (.bool v1)]) ∧ Tt ∧ Tt) [.no, .call [.agg (cs_Clip a0)] [.one (.bool v1)] [[.view]]] [2, 3, 4, 8] [1, 2, 3] ⟨tr, ⟨⟨⟨rfl, rfl, rfl, rfl, tr⟩, tr⟩, ok_impl_ValidClip K a0 v1 e2⟩, tr, tr⟩ ?_
  refine thenQ_normal ?_
  rcases ite2_cases h with ⟨b3, h⟩ | ⟨b3, h⟩
  · refine AW.cond_t rfl b3 ?_
    refine AW.seq (AW.rA ⟨[(4, (vp 3 0)), (5, (vc (.bool false)))], [(3, (.box [(.c (.int .i64 (0 : Int))), (.c (.int .i64 (0 : Int))), .nils, .nils]))]⟩ (Tt ∧ T2 Tt) [] [4, 5] [3] ⟨tr, tr, tr, tr⟩ (thenQ_normal ?_))
    refine AW.ret ?_
    refine thenQ_ret ?_
    replace h := some_eq h
    subst h
    exact ⟨.inr rfl, retOK_of [(.agg [(.c (.int .i64 (0 : Int))), (.c (.int .i64 (0 : Int))), .nils, .nils]), (.one (.c (.bool false)))] (by kernel_rfl) ⟨⟨⟨rfl, tr⟩, ⟨rfl, tr⟩, rfl, rfl, tr⟩, ⟨rfl, tr⟩, tr⟩ (of_decide_eq_true (by kernel_rfl))⟩
  · refine AW.cond_f rfl b3 ?_
    refine AW.skip ?_
    refine thenQ_normal ?_
    refine AW.seq ?_
    obtain ⟨v4, e5, h⟩ := bind_some h
    refine AW.rA ⟨[(4, (vp 3 0)), (5, (vc (.bool v4.2)))], [(3, (.box [(.c (.int .i64 v4.1.Length)), (.c (.int .i64 v4.1.Kind)), (.lst 4 v4.1.Tracks.length 1 (gl (csL 5 cs_Key) v4.1.Tracks)), (.lst 5 v4.1.Roots.length 4 (gl cs_RootKey v4.1.Roots))])), (4, (.lst v4.1.Tracks.length 1 (gl (csL 5 cs_Key) v4.1.Tracks))), (5, (.lst v4.1.Roots.length 4 (gl cs_RootKey v4.1.Roots)))]⟩ (T4 (((((Eqc (.int .i64 a0.Length)) ∧ (Eqc (.int .i64 a0.Kind)) ∧ (Eqc (sl 1 (csL 5 cs_Key) a0.Tracks)) ∧ (Eqc (sl 4 cs_RootKey a0.Roots)) ∧ Tt) ∧ (Eqc (.int .i64 a0.Length)) ∧ (21 = 21 ∧ 1 = 1 ∧ ((Eqc (.flt .f32 a1.bits)) ∧ Tt) ∧ Tt) ∧ (Eqc (.fn 23 0 fun _ => .nilptr)) ∧ Tt) ∧ CallOK Tryz.prog 20 [.agg (cs_Clip a0), .one (.int .i64 a0.Length), .one (.fn 21 1 fun j => [(pl 1 (csF .f32) a1)].getD j .nilptr), .one (.fn 23 0 fun _ => .nilptr)] [.agg (cs_Clip v4.1), .one (.bool v4.2)]) ∧ T4 Tt)) [.no, .no, .no, .no, .call [.agg (cs_Clip a0), .one (.int .i64 a0.Length), .one (.fn 21 1 fun j => [(pl 1 (csF .f32) a1)].getD j .nilptr), .one (.fn 23 0 fun _ => .nilptr)] [.agg (cs_Clip v4.1), .one (.bool v4.2)] [[.view, .view, .lst 4, .lst 5], [.view]]] [4, 5] [3, 4, 5] ⟨tr, tr, tr, tr, ⟨⟨⟨rfl, rfl, rfl, rfl, tr⟩, rfl, ⟨rfl, rfl, ⟨⟨rfl, tr⟩, tr⟩⟩, rfl, tr⟩, ok_impl_Clip_changed K a0 a0.Length a1 v4 e5⟩, tr, tr, tr, tr, tr⟩ ?_
    refine thenQ_normal ?_
    refine AW.ret ?_
    replace h := some_eq h
    subst h
    exact ⟨.inr rfl, retOK_of [(.agg [(.c (.int .i64 v4.1.Length)), (.c (.int .i64 v4.1.Kind)), (.lst 4 v4.1.Tracks.length 1 (gl (csL 5 cs_Key) v4.1.Tracks)), (.lst 5 v4.1.Roots.length 4 (gl cs_RootKey v4.1.Roots))]), (.one (.c (.bool v4.2)))] (by kernel_rfl) ⟨⟨⟨rfl, tr⟩, ⟨rfl, tr⟩, rfl, rfl, tr⟩, ⟨rfl, tr⟩, tr⟩ (of_decide_eq_true (by kernel_rfl))⟩

/-! laws.sameFloat -/
def laws_sameFloat (_K : Nat) (a0 : F64) (a1 : F64) : Option (Bool) :=
  (ite2 ((a0.ne a0)) (some true) (some (a1.ne a1))).bind fun j2 => ite2 (j2) ((ite2 ((a0.ne a0)) (some (a1.ne a1)) (some false)).bind fun j6 => some j6) ((ite2 ((a0.eq (Fl.mk (k := .f64) 0 (by decide)))) (some (a1.eq (Fl.mk (k := .f64) 0 (by decide)))) (some false)).bind fun j9 => ite2 (j9) (some ((((Fl.mk (k := .f64) 4607182418800017408 (by decide)).div a0).gt (Fl.mk (k := .f64) 0 (by decide))) == (((Fl.mk (k := .f64) 4607182418800017408 (by decide)).div a1).gt (Fl.mk (k := .f64) 0 (by decide))))) (some (a0.eq a1)))

theorem ok_laws_sameFloat (K : Nat) (a0 : F64) (a1 : F64) (o : (Bool)) (h : laws_sameFloat K a0 a1 = some o) : CallOK Tryz.prog 100 [.one (.flt .f64 a0.bits), .one (.flt .f64 a1.bits)] [.one (.bool o)] := by
  refine callOK_of_AW Tryz.func100 rfl (by kernel_rfl) (Nat.le_of_ble_eq_true (by kernel_rfl)) ?_
  intro w0
  unfold laws_sameFloat at h
  refine AW.seq (AW.rA ⟨[(0, (vc (.flt .f64 a0.bits))), (1, (vc (.flt .f64 a1.bits)))], []⟩ (Tt ∧ Tt) [] [0, 1] [] ⟨tr, tr⟩ (thenQ_normal ?_))
  refine AW.seq ?_
  refine AW.seq ?_
  obtain ⟨j2, e3, h⟩ := bind_some h
  refine AW.join1 (s2 := ⟨[(0, (vc (.flt .f64 a0.bits))), (1, (vc (.flt .f64 a1.bits))), (12, (vc (.bool j2)))], []⟩) ?_ ?_
  · rcases ite2_cases e3 with ⟨b1, e3⟩ | ⟨b1, e3⟩
    · replace e3 := some_eq e3
      subst e3
      exact AW.rA ⟨[(0, (vc (.flt .f64 a0.bits))), (1, (vc (.flt .f64 a1.bits))), (12, (vc (.bool true)))], []⟩ (Tt ∧ T2 ((Tt ∧ (a0.ne a0) = true) ∧ T4 Tt)) [.no, .no, .no, .dec true] [0, 1, 12] [] ⟨tr, tr, tr, ⟨tr, b1⟩, tr, tr, tr, tr, tr⟩ ⟨rfl, rfl⟩
    · replace e3 := some_eq e3
      subst e3
      exact AW.rA ⟨[(0, (vc (.flt .f64 a0.bits))), (1, (vc (.flt .f64 a1.bits))), (12, (vc (.bool (a1.ne a1))))], []⟩ (Tt ∧ T2 ((Tt ∧ (a0.ne a0) = false) ∧ T4 Tt)) [.no, .no, .no, .dec false] [0, 1, 12] [] ⟨tr, tr, tr, ⟨tr, b1⟩, tr, tr, tr, tr, tr⟩ ⟨rfl, rfl⟩
  refine thenQ_normal ?_
  rcases ite2_cases h with ⟨b4, h⟩ | ⟨b4, h⟩
  · refine AW.cond_t rfl b4 ?_
    refine AW.seq ?_
    obtain ⟨j6, e7, h⟩ := bind_some h
    refine AW.join1 (s2 := ⟨[(4, (vc (.bool j6)))], []⟩) ?_ ?_
    · rcases ite2_cases e7 with ⟨b5, e7⟩ | ⟨b5, e7⟩
      · replace e7 := some_eq e7
        subst e7
        exact AW.rA ⟨[(4, (vc (.bool (a1.ne a1))))], []⟩ (Tt ∧ T2 ((Tt ∧ (a0.ne a0) = true) ∧ Tt ∧ T4 Tt)) [.no, .no, .no, .dec true] [4] [] ⟨tr, tr, tr, ⟨tr, b5⟩, tr, tr, tr, tr, tr, tr⟩ ⟨rfl, rfl⟩
      · replace e7 := some_eq e7
        subst e7
        exact AW.rA ⟨[(4, (vc (.bool false)))], []⟩ (Tt ∧ T2 ((Tt ∧ (a0.ne a0) = false) ∧ Tt ∧ T4 Tt)) [.no, .no, .no, .dec false] [4] [] ⟨tr, tr, tr, ⟨tr, b5⟩, tr, tr, tr, tr, tr, tr⟩ ⟨rfl, rfl⟩
    refine thenQ_normal ?_
    refine AW.ret ?_
    refine thenQ_ret ?_
    replace h := some_eq h
    subst h
    exact ⟨.inr rfl, retOK_of [(.one (.c (.bool j6)))] (by kernel_rfl) ⟨⟨rfl, tr⟩, tr⟩ (of_decide_eq_true (by kernel_rfl))⟩
  · refine AW.cond_f rfl b4 ?_
    refine AW.skip ?_
    refine thenQ_normal ?_
    refine AW.seq ?_
    refine AW.seq ?_
    obtain ⟨j9, e10, h⟩ := bind_some h
    refine AW.join1 (s2 := ⟨[(0, (vc (.flt .f64 a0.bits))), (1, (vc (.flt .f64 a1.bits))), (26, (vc (.bool j9)))], []⟩) ?_ ?_
    · rcases ite2_cases e10 with ⟨b8, e10⟩ | ⟨b8, e10⟩
      · replace e10 := some_eq e10
        subst e10
        exact AW.rA ⟨[(0, (vc (.flt .f64 a0.bits))), (1, (vc (.flt .f64 a1.bits))), (26, (vc (.bool (a1.eq (Fl.mk (k := .f64) 0 (by decide))))))], []⟩ (T2 ((Tt ∧ (a0.eq (Fl.mk (k := .f64) 0 (by decide))) = true) ∧ Tt ∧ T2 Tt)) [.no, .no, .dec true] [0, 1, 26] [] ⟨tr, tr, ⟨tr, b8⟩, tr, tr, tr, tr⟩ ⟨rfl, rfl⟩
      · replace e10 := some_eq e10
        subst e10
        exact AW.rA ⟨[(0, (vc (.flt .f64 a0.bits))), (1, (vc (.flt .f64 a1.bits))), (26, (vc (.bool false)))], []⟩ (T2 ((Tt ∧ (a0.eq (Fl.mk (k := .f64) 0 (by decide))) = false) ∧ Tt ∧ T2 Tt)) [.no, .no, .dec false] [0, 1, 26] [] ⟨tr, tr, ⟨tr, b8⟩, tr, tr, tr, tr⟩ ⟨rfl, rfl⟩
    refine thenQ_normal ?_
    rcases ite2_cases h with ⟨b11, h⟩ | ⟨b11, h⟩
    · refine AW.cond_t rfl b11 ?_
      refine AW.seq (AW.rA ⟨[(4, (vc (.bool ((((Fl.mk (k := .f64) 4607182418800017408 (by decide)).div a0).gt (Fl.mk (k := .f64) 0 (by decide))) == (((Fl.mk (k := .f64) 4607182418800017408 (by decide)).div a1).gt (Fl.mk (k := .f64) 0 (by decide)))))))], []⟩ (T4 (T4 Tt)) [] [4] [] ⟨tr, tr, tr, tr, tr, tr, tr, tr, tr⟩ (thenQ_normal ?_))
      refine AW.ret ?_
      refine thenQ_ret ?_
      replace h := some_eq h
      subst h
      exact ⟨.inr rfl, retOK_of [(.one (.c (.bool ((((Fl.mk (k := .f64) 4607182418800017408 (by decide)).div a0).gt (Fl.mk (k := .f64) 0 (by decide))) == (((Fl.mk (k := .f64) 4607182418800017408 (by decide)).div a1).gt (Fl.mk (k := .f64) 0 (by decide)))))))] (by kernel_rfl) ⟨⟨rfl, tr⟩, tr⟩ (of_decide_eq_true (by kernel_rfl))⟩
    · refine AW.cond_f rfl b11 ?_
      refine AW.skip ?_
      refine thenQ_normal ?_
      refine AW.seq (AW.rA ⟨[(4, (vc (.bool (a0.eq a1))))], []⟩ (T4 Tt) [] [4] [] ⟨tr, tr, tr, tr, tr⟩ (thenQ_normal ?_))
      refine AW.ret ?_
      replace h := some_eq h
      subst h
      exact ⟨.inr rfl, retOK_of [(.one (.c (.bool (a0.eq a1))))] (by kernel_rfl) ⟨⟨rfl, tr⟩, tr⟩ (of_decide_eq_true (by kernel_rfl))⟩

/-! laws.eqTurn -/
def laws_eqTurn (K : Nat) (a0 : Turn) (a1 : Turn) : Option (Bool) :=
  (laws_sameFloat K (Fl.cv .f32 .f64 a0.W) (Fl.cv .f32 .f64 a1.W)).bind fun v1 => ite2 ((!v1)) (some false) ((laws_sameFloat K (Fl.cv .f32 .f64 a0.X) (Fl.cv .f32 .f64 a1.X)).bind fun v4 => ite2 ((!v4)) (some false) ((laws_sameFloat K (Fl.cv .f32 .f64 a0.Y) (Fl.cv .f32 .f64 a1.Y)).bind fun v7 => ite2 ((!v7)) (some false) ((laws_sameFloat K (Fl.cv .f32 .f64 a0.Z) (Fl.cv .f32 .f64 a1.Z)).bind fun v10 => ite2 ((!v10)) (some false) (some true))))

theorem ok_laws_eqTurn (K : Nat) (a0 : Turn) (a1 : Turn) (o : (Bool)) (h : laws_eqTurn K a0 a1 = some o) : CallOK Tryz.prog 99 [.agg (cs_Turn a0), .agg (cs_Turn a1)] [.one (.bool o)] := by
  refine callOK_of_AW Tryz.func99 rfl (by kernel_rfl) (Nat.le_of_ble_eq_true (by kernel_rfl)) ?_
  intro w0
  unfold laws_eqTurn at h
  refine AW.seq (AW.rA ⟨[(2, (vp 1 0)), (3, (vp 2 0))], [(1, (.box [(.c (.flt .f32 a0.W.bits)), (.c (.flt .f32 a0.X.bits)), (.c (.flt .f32 a0.Y.bits)), (.c (.flt .f32 a0.Z.bits))])), (2, (.box [(.c (.flt .f32 a1.W.bits)), (.c (.flt .f32 a1.X.bits)), (.c (.flt .f32 a1.Y.bits)), (.c (.flt .f32 a1.Z.bits))]))]⟩ (Tt ∧ T2 Tt) [.box 1, .box 2] [2, 3] [1, 2] ⟨tr, tr, tr, tr⟩ (thenQ_normal ?_))
  refine AW.seq ?_
  refine AW.seq ?_
  obtain ⟨v1, e2, h⟩ := bind_some h
  refine AW.rA ⟨[(2, (vp 1 0)), (3, (vp 2 0)), (12, (vc (.bool (!v1))))], [(1, (.box [(.c (.flt .f32 a0.W.bits)), (.c (.flt .f32 a0.X.bits)), (.c (.flt .f32 a0.Y.bits)), (.c (.flt .f32 a0.Z.bits))])), (2, (.box [(.c (.flt .f32 a1.W.bits)), (.c (.flt .f32 a1.X.bits)), (.c (.flt .f32 a1.Y.bits)), (.c (.flt .f32 a1.Z.bits))]))]⟩ (T2 (((convBits .f32 a0.W.bits .f64).isSome = true) ∧ T2 (((convBits .f32 a1.W.bits .f64).isSome = true) ∧ (((Eqc (.flt .f64 (Fl.cv .f32 .f64 a0.W).bits)) ∧ (Eqc (.flt .f64 (Fl.cv .f32 .f64 a1.W).bits)) ∧ Tt) ∧ CallOK Tryz.prog 100 [.one (.flt .f64 (Fl.cv .f32 .f64 a0.W).bits), .one (.flt .f64 (Fl.cv .f32 .f64 a1.W).bits)] [.one (.bool v1)]) ∧ Tt ∧ Tt))) [.no, .no, .no, .no, .no, .no, .call [.one (.flt .f64 (Fl.cv .f32 .f64 a0.W).bits), .one (.flt .f64 (Fl.cv .f32 .f64 a1.W).bits)] [.one (.bool v1)] [[.view]]] [2, 3, 12] [1, 2] ⟨tr, tr, cv_wide a0.W, tr, tr, cv_wide a1.W, ⟨⟨rfl, rfl, tr⟩, ok_laws_sameFloat K (Fl.cv .f32 .f64 a0.W) (Fl.cv .f32 .f64 a1.W) v1 e2⟩, tr, tr⟩ ?_
  refine thenQ_normal ?_
  rcases ite2_cases h with ⟨b3, h⟩ | ⟨b3, h⟩
  · refine AW.cond_t rfl b3 ?_
    refine AW.seq (AW.rA ⟨[(4, (vc (.bool false)))], []⟩ (Tt ∧ Tt) [] [4] [] ⟨tr, tr⟩ (thenQ_normal ?_))
    refine AW.ret ?_
    refine thenQ_ret ?_
    replace h := some_eq h
    subst h
    exact ⟨.inr rfl, retOK_of [(.one (.c (.bool false)))] (by kernel_rfl) ⟨⟨rfl, tr⟩, tr⟩ (of_decide_eq_true (by kernel_rfl))⟩
  · refine AW.cond_f rfl b3 ?_
    refine AW.skip ?_
    refine thenQ_normal ?_
    refine AW.seq ?_
    refine AW.seq ?_
    obtain ⟨v4, e5, h⟩ := bind_some h
    refine AW.rA ⟨[(2, (vp 1 0)), (3, (vp 2 0)), (20, (vc (.bool (!v4))))], [(1, (.box [(.c (.flt .f32 a0.W.bits)), (.c (.flt .f32 a0.X.bits)), (.c (.flt .f32 a0.Y.bits)), (.c (.flt .f32 a0.Z.bits))])), (2, (.box [(.c (.flt .f32 a1.W.bits)), (.c (.flt .f32 a1.X.bits)), (.c (.flt .f32 a1.Y.bits)), (.c (.flt .f32 a1.Z.bits))]))]⟩ (T2 (((convBits .f32 a0.X.bits .f64).isSome = true) ∧ T2 (((convBits .f32 a1.X.bits .f64).isSome = true) ∧ (((Eqc (.flt .f64 (Fl.cv .f32 .f64 a0.X).bits)) ∧ (Eqc (.flt .f64 (Fl.cv .f32 .f64 a1.X).bits)) ∧ Tt) ∧ CallOK Tryz.prog 100 [.one (.flt .f64 (Fl.cv .f32 .f64 a0.X).bits), .one (.flt .f64 (Fl.cv .f32 .f64 a1.X).bits)] [.one (.bool v4)]) ∧ Tt ∧ Tt))) [.no, .no, .no, .no, .no, .no, .call [.one (.flt .f64 (Fl.cv .f32 .f64 a0.X).bits), .one (.flt .f64 (Fl.cv .f32 .f64 a1.X).bits)] [.one (.bool v4)] [[.view]]] [2, 3, 20] [1, 2] ⟨tr, tr, cv_wide a0.X, tr, tr, cv_wide a1.X, ⟨⟨rfl, rfl, tr⟩, ok_laws_sameFloat K (Fl.cv .f32 .f64 a0.X) (Fl.cv .f32 .f64 a1.X) v4 e5⟩, tr, tr⟩ ?_
    refine thenQ_normal ?_
    rcases ite2_cases h with ⟨b6, h⟩ | ⟨b6, h⟩
    · refine AW.cond_t rfl b6 ?_
      refine AW.seq (AW.rA ⟨[(4, (vc (.bool false)))], []⟩ (Tt ∧ Tt) [] [4] [] ⟨tr, tr⟩ (thenQ_normal ?_))
      refine AW.ret ?_
      refine thenQ_ret ?_
      replace h := some_eq h
      subst h
      exact ⟨.inr rfl, retOK_of [(.one (.c (.bool false)))] (by kernel_rfl) ⟨⟨rfl, tr⟩, tr⟩ (of_decide_eq_true (by kernel_rfl))⟩
    · refine AW.cond_f rfl b6 ?_
      refine AW.skip ?_
      refine thenQ_normal ?_
      refine AW.seq ?_
      refine AW.seq ?_
      obtain ⟨v7, e8, h⟩ := bind_some h
      refine AW.rA ⟨[(2, (vp 1 0)), (3, (vp 2 0)), (28, (vc (.bool (!v7))))], [(1, (.box [(.c (.flt .f32 a0.W.bits)), (.c (.flt .f32 a0.X.bits)), (.c (.flt .f32 a0.Y.bits)), (.c (.flt .f32 a0.Z.bits))])), (2, (.box [(.c (.flt .f32 a1.W.bits)), (.c (.flt .f32 a1.X.bits)), (.c (.flt .f32 a1.Y.bits)), (.c (.flt .f32 a1.Z.bits))]))]⟩ (T2 (((convBits .f32 a0.Y.bits .f64).isSome = true) ∧ T2 (((convBits .f32 a1.Y.bits .f64).isSome = true) ∧ (((Eqc (.flt .f64 (Fl.cv .f32 .f64 a0.Y).bits)) ∧ (Eqc (.flt .f64 (Fl.cv .f32 .f64 a1.Y).bits)) ∧ Tt) ∧ CallOK Tryz.prog 100 [.one (.flt .f64 (Fl.cv .f32 .f64 a0.Y).bits), .one (.flt .f64 (Fl.cv .f32 .f64 a1.Y).bits)] [.one (.bool v7)]) ∧ Tt ∧ Tt))) [.no, .no, .no, .no, .no, .no, .call [.one (.flt .f64 (Fl.cv .f32 .f64 a0.Y).bits), .one (.flt .f64 (Fl.cv .f32 .f64 a1.Y).bits)] [.one (.bool v7)] [[.view]]] [2, 3, 28] [1, 2] ⟨tr, tr, cv_wide a0.Y, tr, tr, cv_wide a1.Y, ⟨⟨rfl, rfl, tr⟩, ok_laws_sameFloat K (Fl.cv .f32 .f64 a0.Y) (Fl.cv .f32 .f64 a1.Y) v7 e8⟩, tr, tr⟩ ?_
      refine thenQ_normal ?_
      rcases ite2_cases h with ⟨b9, h⟩ | ⟨b9, h⟩
      · refine AW.cond_t rfl b9 ?_
        refine AW.seq (AW.rA ⟨[(4, (vc (.bool false)))], []⟩ (Tt ∧ Tt) [] [4] [] ⟨tr, tr⟩ (thenQ_normal ?_))
        refine AW.ret ?_
        refine thenQ_ret ?_
        replace h := some_eq h
        subst h
        exact ⟨.inr rfl, retOK_of [(.one (.c (.bool false)))] (by kernel_rfl) ⟨⟨rfl, tr⟩, tr⟩ (of_decide_eq_true (by kernel_rfl))⟩
      · refine AW.cond_f rfl b9 ?_
        refine AW.skip ?_
        refine thenQ_normal ?_
        refine AW.seq ?_
        refine AW.seq ?_
        obtain ⟨v10, e11, h⟩ := bind_some h
        refine AW.rA ⟨[(36, (vc (.bool (!v10))))], []⟩ (T2 (((convBits .f32 a0.Z.bits .f64).isSome = true) ∧ T2 (((convBits .f32 a1.Z.bits .f64).isSome = true) ∧ (((Eqc (.flt .f64 (Fl.cv .f32 .f64 a0.Z).bits)) ∧ (Eqc (.flt .f64 (Fl.cv .f32 .f64 a1.Z).bits)) ∧ Tt) ∧ CallOK Tryz.prog 100 [.one (.flt .f64 (Fl.cv .f32 .f64 a0.Z).bits), .one (.flt .f64 (Fl.cv .f32 .f64 a1.Z).bits)] [.one (.bool v10)]) ∧ Tt ∧ Tt))) [.no, .no, .no, .no, .no, .no, .call [.one (.flt .f64 (Fl.cv .f32 .f64 a0.Z).bits), .one (.flt .f64 (Fl.cv .f32 .f64 a1.Z).bits)] [.one (.bool v10)] [[.view]]] [36] [] ⟨tr, tr, cv_wide a0.Z, tr, tr, cv_wide a1.Z, ⟨⟨rfl, rfl, tr⟩, ok_laws_sameFloat K (Fl.cv .f32 .f64 a0.Z) (Fl.cv .f32 .f64 a1.Z) v10 e11⟩, tr, tr⟩ ?_
        refine thenQ_normal ?_
        rcases ite2_cases h with ⟨b12, h⟩ | ⟨b12, h⟩
        · refine AW.cond_t rfl b12 ?_
          refine AW.seq (AW.rA ⟨[(4, (vc (.bool false)))], []⟩ (Tt ∧ Tt) [] [4] [] ⟨tr, tr⟩ (thenQ_normal ?_))
          refine AW.ret ?_
          refine thenQ_ret ?_
          replace h := some_eq h
          subst h
          exact ⟨.inr rfl, retOK_of [(.one (.c (.bool false)))] (by kernel_rfl) ⟨⟨rfl, tr⟩, tr⟩ (of_decide_eq_true (by kernel_rfl))⟩
        · refine AW.cond_f rfl b12 ?_
          refine AW.skip ?_
          refine thenQ_normal ?_
          refine AW.seq (AW.rA ⟨[(4, (vc (.bool true)))], []⟩ (Tt ∧ Tt) [] [4] [] ⟨tr, tr⟩ (thenQ_normal ?_))
          refine AW.ret ?_
          replace h := some_eq h
          subst h
          exact ⟨.inr rfl, retOK_of [(.one (.c (.bool true)))] (by kernel_rfl) ⟨⟨rfl, tr⟩, tr⟩ (of_decide_eq_true (by kernel_rfl))⟩

/-! laws.eqKey -/
def laws_eqKey (K : Nat) (a0 : Key) (a1 : Key) : Option (Bool) :=
  ite2 ((a0.At != a1.At)) (some false) ((laws_eqTurn K a0.Turn a1.Turn).bind fun v2 => ite2 ((!v2)) (some false) (some true))

theorem ok_laws_eqKey (K : Nat) (a0 : Key) (a1 : Key) (o : (Bool)) (h : laws_eqKey K a0 a1 = some o) : CallOK Tryz.prog 80 [.agg (cs_Key a0), .agg (cs_Key a1)] [.one (.bool o)] := by
  refine callOK_of_AW Tryz.func80 rfl (by kernel_rfl) (Nat.le_of_ble_eq_true (by kernel_rfl)) ?_
  intro w0
  unfold laws_eqKey at h
  refine AW.seq (AW.rA ⟨[(2, (vp 1 0)), (3, (vp 2 0))], [(1, (.box [(.c (.int .i64 a0.At)), (.c (.flt .f32 a0.Turn.W.bits)), (.c (.flt .f32 a0.Turn.X.bits)), (.c (.flt .f32 a0.Turn.Y.bits)), (.c (.flt .f32 a0.Turn.Z.bits))])), (2, (.box [(.c (.int .i64 a1.At)), (.c (.flt .f32 a1.Turn.W.bits)), (.c (.flt .f32 a1.Turn.X.bits)), (.c (.flt .f32 a1.Turn.Y.bits)), (.c (.flt .f32 a1.Turn.Z.bits))]))]⟩ (Tt ∧ T2 Tt) [.box 1, .box 2] [2, 3] [1, 2] ⟨tr, tr, tr, tr⟩ (thenQ_normal ?_))
  refine AW.seq ?_
  refine AW.seq (AW.rA ⟨[(2, (vp 1 0)), (3, (vp 2 0)), (9, (vc (.bool (a0.At != a1.At))))], [(1, (.box [(.c (.int .i64 a0.At)), (.c (.flt .f32 a0.Turn.W.bits)), (.c (.flt .f32 a0.Turn.X.bits)), (.c (.flt .f32 a0.Turn.Y.bits)), (.c (.flt .f32 a0.Turn.Z.bits))])), (2, (.box [(.c (.int .i64 a1.At)), (.c (.flt .f32 a1.Turn.W.bits)), (.c (.flt .f32 a1.Turn.X.bits)), (.c (.flt .f32 a1.Turn.Y.bits)), (.c (.flt .f32 a1.Turn.Z.bits))]))]⟩ (Tt ∧ T4 Tt) [] [2, 3, 9] [1, 2] ⟨tr, tr, tr, tr, tr, tr⟩ (thenQ_normal ?_))
  rcases ite2_cases h with ⟨b1, h⟩ | ⟨b1, h⟩
  · refine AW.cond_t rfl b1 ?_
    refine AW.seq (AW.rA ⟨[(4, (vc (.bool false)))], []⟩ (Tt ∧ Tt) [] [4] [] ⟨tr, tr⟩ (thenQ_normal ?_))
    refine AW.ret ?_
    refine thenQ_ret ?_
    replace h := some_eq h
    subst h
    exact ⟨.inr rfl, retOK_of [(.one (.c (.bool false)))] (by kernel_rfl) ⟨⟨rfl, tr⟩, tr⟩ (of_decide_eq_true (by kernel_rfl))⟩
  · refine AW.cond_f rfl b1 ?_
    refine AW.skip ?_
    refine thenQ_normal ?_
    refine AW.seq ?_
    refine AW.seq ?_
    obtain ⟨v2, e3, h⟩ := bind_some h
    refine AW.rA ⟨[(15, (vc (.bool (!v2))))], []⟩ (T4 (((((Eqc (.flt .f32 a0.Turn.W.bits)) ∧ (Eqc (.flt .f32 a0.Turn.X.bits)) ∧ (Eqc (.flt .f32 a0.Turn.Y.bits)) ∧ (Eqc (.flt .f32 a0.Turn.Z.bits)) ∧ Tt) ∧ ((Eqc (.flt .f32 a1.Turn.W.bits)) ∧ (Eqc (.flt .f32 a1.Turn.X.bits)) ∧ (Eqc (.flt .f32 a1.Turn.Y.bits)) ∧ (Eqc (.flt .f32 a1.Turn.Z.bits)) ∧ Tt) ∧ Tt) ∧ CallOK Tryz.prog 99 [.agg (cs_Turn a0.Turn), .agg (cs_Turn a1.Turn)] [.one (.bool v2)]) ∧ Tt ∧ Tt)) [.no, .no, .no, .no, .call [.agg (cs_Turn a0.Turn), .agg (cs_Turn a1.Turn)] [.one (.bool v2)] [[.view]]] [15] [] ⟨tr, tr, tr, tr, ⟨⟨⟨rfl, rfl, rfl, rfl, tr⟩, ⟨rfl, rfl, rfl, rfl, tr⟩, tr⟩, ok_laws_eqTurn K a0.Turn a1.Turn v2 e3⟩, tr, tr⟩ ?_
    refine thenQ_normal ?_
    rcases ite2_cases h with ⟨b4, h⟩ | ⟨b4, h⟩
    · refine AW.cond_t rfl b4 ?_
      refine AW.seq (AW.rA ⟨[(4, (vc (.bool false)))], []⟩ (Tt ∧ Tt) [] [4] [] ⟨tr, tr⟩ (thenQ_normal ?_))
      refine AW.ret ?_
      refine thenQ_ret ?_
      replace h := some_eq h
      subst h
      exact ⟨.inr rfl, retOK_of [(.one (.c (.bool false)))] (by kernel_rfl) ⟨⟨rfl, tr⟩, tr⟩ (of_decide_eq_true (by kernel_rfl))⟩
    · refine AW.cond_f rfl b4 ?_
      refine AW.skip ?_
      refine thenQ_normal ?_
      refine AW.seq (AW.rA ⟨[(4, (vc (.bool true)))], []⟩ (Tt ∧ Tt) [] [4] [] ⟨tr, tr⟩ (thenQ_normal ?_))
      refine AW.ret ?_
      replace h := some_eq h
      subst h
      exact ⟨.inr rfl, retOK_of [(.one (.c (.bool true)))] (by kernel_rfl) ⟨⟨rfl, tr⟩, tr⟩ (of_decide_eq_true (by kernel_rfl))⟩

/-! laws.eqKeyS -/
def laws_eqKeyS_l1 (K : Nat) (a0 : (List Key)) (a1 : (List Key)) : Nat → Int → Option (Bool)
  | 0, _ => none
  | k + 1, x3 => ite2 ((decide (x3 < (a0.length : Int)))) (chk (0 ≤ x3 ∧ x3 < (a0.length : Int)) (chk (0 ≤ x3 ∧ x3 < (a1.length : Int)) ((laws_eqKey K (a0.getD x3.toNat default) (a1.getD x3.toNat default)).bind fun v7 => ite2 ((!v7)) (some false) (laws_eqKeyS_l1 K a0 a1 k (IntKind.i64.wrap (x3 + (1 : Int))))))) (some true)

def laws_eqKeyS (K : Nat) (a0 : (List Key)) (a1 : (List Key)) : Option (Bool) :=
  ite2 (((a0.length : Int) != (a1.length : Int))) (some false) (laws_eqKeyS_l1 K a0 a1 K (0 : Int))

theorem ok_laws_eqKeyS (K : Nat) (a0 : (List Key)) (a1 : (List Key)) (o : (Bool)) (h : laws_eqKeyS K a0 a1 = some o) : CallOK Tryz.prog 53 [.one (sl 5 cs_Key a0), .one (sl 5 cs_Key a1)] [.one (.bool o)] := by
  refine callOK_of_AW Tryz.func53 rfl (by kernel_rfl) (Nat.le_of_ble_eq_true (by kernel_rfl)) ?_
  intro w0
  unfold laws_eqKeyS at h
  refine AW.seq (AW.rA ⟨[(0, (vc (sl 5 cs_Key a0))), (1, (vc (sl 5 cs_Key a1)))], []⟩ (Tt ∧ Tt) [] [0, 1] [] ⟨tr, tr⟩ (thenQ_normal ?_))
  refine AW.seq ?_
  refine AW.seq (AW.rA ⟨[(0, (vc (sl 5 cs_Key a0))), (1, (vc (sl 5 cs_Key a1))), (10, (vc (.bool ((a0.length : Int) != (a1.length : Int)))))], []⟩ (Tt ∧ T4 Tt) [] [0, 1, 10] [] ⟨tr, tr, tr, tr, tr, tr⟩ (thenQ_normal ?_))
  rcases ite2_cases h with ⟨b1, h⟩ | ⟨b1, h⟩
  · refine AW.cond_t rfl b1 ?_
    refine AW.seq (AW.rA ⟨[(4, (vc (.bool false)))], []⟩ (Tt ∧ Tt) [] [4] [] ⟨tr, tr⟩ (thenQ_normal ?_))
    refine AW.ret ?_
    refine thenQ_ret ?_
    replace h := some_eq h
    subst h
    exact ⟨.inr rfl, retOK_of [(.one (.c (.bool false)))] (by kernel_rfl) ⟨⟨rfl, tr⟩, tr⟩ (of_decide_eq_true (by kernel_rfl))⟩
  · refine AW.cond_f rfl b1 ?_
    refine AW.skip ?_
    refine thenQ_normal ?_
    refine AW.seq ?_
    refine AW.seq (AW.rA ⟨[(0, (vc (sl 5 cs_Key a0))), (1, (vc (sl 5 cs_Key a1))), (5, (vc (.int .i64 (0 : Int))))], []⟩ (Tt ∧ Tt) [] [0, 1, 5] [] ⟨tr, tr⟩ (thenQ_normal ?_))
    refine AW.block ?_
    refine AW.loopQ (σ := Nat × Int) (fun p => ⟨[(0, (vc (sl 5 cs_Key a0))), (1, (vc (sl 5 cs_Key a1))), (5, (vc (.int .i64 p.2)))], []⟩) (fun p => laws_eqKeyS_l1 K a0 a1 p.1 p.2 = some o) (fun p => p.1) (K, (0 : Int)) h ?_
    clear h
    rintro ⟨k, x3⟩ h
    replace h : laws_eqKeyS_l1 K a0 a1 k x3 = some o := h
    show AW _ _ (⟨[(0, (vc (sl 5 cs_Key a0))), (1, (vc (sl 5 cs_Key a1))), (5, (vc (.int .i64 x3)))], []⟩ : St) _
    obtain _ | k := k
    · rw [laws_eqKeyS_l1] at h; cases h
    rw [laws_eqKeyS_l1] at h
    refine AW.seq ?_
    refine AW.seq (AW.rA ⟨[(0, (vc (sl 5 cs_Key a0))), (1, (vc (sl 5 cs_Key a1))), (5, (vc (.int .i64 x3))), (14, (vc (.bool (decide (x3 < (a0.length : Int))))))], []⟩ (T4 Tt) [] [0, 1, 5, 14] [] ⟨tr, tr, tr, tr, tr⟩ (thenQ_normal ?_))
    rcases ite2_cases h with ⟨b4, h⟩ | ⟨b4, h⟩
    · refine AW.cond_t rfl b4 ?_
      refine AW.skip ?_
      refine thenQ_normal ?_
      refine AW.seq ?_
      refine AW.block ?_
      refine AW.seq ?_
      obtain ⟨c5, h⟩ := chk_some h
      obtain ⟨c6, h⟩ := chk_some h
      obtain ⟨v7, e8, h⟩ := bind_some h
      refine AW.dA ⟨[(0, (vc (sl 5 cs_Key a0))), (1, (vc (sl 5 cs_Key a1))), (5, (vc (.int .i64 x3))), (26, (vc (.bool (!v7))))], []⟩ ((T2 ((0 ≤ x3 ∧ x3 < (a0.length : Int)) ∧ Tt ∧ T2 ((0 ≤ x3 ∧ x3 < (a1.length : Int)) ∧ Tt ∧ ((((Eqc (.int .i64 ((a0.getD x3.toNat default).At))) ∧ (Eqc (.flt .f32 (((a0.getD x3.toNat default).Turn).W).bits)) ∧ (Eqc (.flt .f32 (((a0.getD x3.toNat default).Turn).X).bits)) ∧ (Eqc (.flt .f32 (((a0.getD x3.toNat default).Turn).Y).bits)) ∧ (Eqc (.flt .f32 (((a0.getD x3.toNat default).Turn).Z).bits)) ∧ Tt) ∧ ((Eqc (.int .i64 ((a1.getD x3.toNat default).At))) ∧ (Eqc (.flt .f32 (((a1.getD x3.toNat default).Turn).W).bits)) ∧ (Eqc (.flt .f32 (((a1.getD x3.toNat default).Turn).X).bits)) ∧ (Eqc (.flt .f32 (((a1.getD x3.toNat default).Turn).Y).bits)) ∧ (Eqc (.flt .f32 (((a1.getD x3.toNat default).Turn).Z).bits)) ∧ Tt) ∧ Tt) ∧ CallOK Tryz.prog 80 [.agg (cs_Key (a0.getD x3.toNat default)), .agg (cs_Key (a1.getD x3.toNat default))] [.one (.bool v7)]) ∧ Tt ∧ Tt))) ∧ (Tt)) 10 [.no, .no, .no, .no, .no, .no, .no, .no, .call [.agg (cs_Key (a0.getD x3.toNat default)), .agg (cs_Key (a1.getD x3.toNat default))] [.one (.bool v7)] [[.view]]] [0, 1, 5, 26] [] ⟨⟨tr, tr, c5, tr, tr, tr, c6, tr, ⟨⟨⟨rfl, rfl, rfl, rfl, rfl, tr⟩, ⟨rfl, rfl, rfl, rfl, rfl, tr⟩, tr⟩, ok_laws_eqKey K (a0.getD x3.toNat default) (a1.getD x3.toNat default) v7 e8⟩, tr, tr⟩, tr⟩ ?_
      refine thenQ_normal ?_
      rcases ite2_cases h with ⟨b9, h⟩ | ⟨b9, h⟩
      · refine AW.cond_t rfl b9 ?_
        refine AW.seq (AW.rA ⟨[(4, (vc (.bool false)))], []⟩ (Tt ∧ Tt) [] [4] [] ⟨tr, tr⟩ (thenQ_normal ?_))
        refine AW.ret ?_
        refine blockQ_ret ?_
        refine thenQ_ret ?_
        refine loopQ_ret ?_
        refine blockQ_ret ?_
        refine thenQ_ret ?_
        replace h := some_eq h
        subst h
        exact ⟨.inr rfl, retOK_of [(.one (.c (.bool false)))] (by kernel_rfl) ⟨⟨rfl, tr⟩, tr⟩ (of_decide_eq_true (by kernel_rfl))⟩
      · refine AW.cond_f rfl b9 ?_
        refine AW.skip ?_
        refine blockQ_normal ?_
        refine thenQ_normal ?_
        refine AW.rA ⟨[(0, (vc (sl 5 cs_Key a0))), (1, (vc (sl 5 cs_Key a1))), (5, (vc (.int .i64 (IntKind.i64.wrap (x3 + (1 : Int))))))], []⟩ (Tt ∧ T2 Tt) [] [0, 1, 5] [] ⟨tr, tr, tr, tr⟩ ?_
        exact loopQ_normal (k, (IntKind.i64.wrap (x3 + (1 : Int)))) h (Nat.lt_succ_self k) (Sub.keep [0, 1, 5] [] (by kernel_rfl) (by kernel_rfl))
    · refine AW.cond_f rfl b4 ?_
      refine AW.exit ?_
      refine thenQ_exit ?_
      refine loopQ_exit ?_
      refine blockQ_exit ?_
      refine thenQ_normal ?_
      refine AW.seq (AW.rA ⟨[(4, (vc (.bool true)))], []⟩ (Tt ∧ Tt) [] [4] [] ⟨tr, tr⟩ (thenQ_normal ?_))
      refine AW.ret ?_
      replace h := some_eq h
      subst h
      exact ⟨.inr rfl, retOK_of [(.one (.c (.bool true)))] (by kernel_rfl) ⟨⟨rfl, tr⟩, tr⟩ (of_decide_eq_true (by kernel_rfl))⟩

/-! laws.eqKeySS -/
def laws_eqKeySS_l1 (K : Nat) (a0 : (List (List Key))) (a1 : (List (List Key))) : Nat → Int → Option (Bool)
  | 0, _ => none
  | k + 1, x3 => ite2 ((decide (x3 < (a0.length : Int)))) (chk (0 ≤ x3 ∧ x3 < (a0.length : Int)) (chk (0 ≤ x3 ∧ x3 < (a1.length : Int)) ((laws_eqKeyS K (a0.getD x3.toNat default) (a1.getD x3.toNat default)).bind fun v7 => ite2 ((!v7)) (some false) (laws_eqKeySS_l1 K a0 a1 k (IntKind.i64.wrap (x3 + (1 : Int))))))) (some true)

def laws_eqKeySS (K : Nat) (a0 : (List (List Key))) (a1 : (List (List Key))) : Option (Bool) :=
  ite2 (((a0.length : Int) != (a1.length : Int))) (some false) (laws_eqKeySS_l1 K a0 a1 K (0 : Int))

theorem ok_laws_eqKeySS (K : Nat) (a0 : (List (List Key))) (a1 : (List (List Key))) (o : (Bool)) (h : laws_eqKeySS K a0 a1 = some o) : CallOK Tryz.prog 25 [.one (sl 1 (csL 5 cs_Key) a0), .one (sl 1 (csL 5 cs_Key) a1)] [.one (.bool o)] := by
  refine callOK_of_AW Tryz.func25 rfl (by kernel_rfl) (Nat.le_of_ble_eq_true (by kernel_rfl)) ?_
  intro w0
  unfold laws_eqKeySS at h
  refine AW.seq (AW.rA ⟨[(0, (vc (sl 1 (csL 5 cs_Key) a0))), (1, (vc (sl 1 (csL 5 cs_Key) a1)))], []⟩ (Tt ∧ Tt) [] [0, 1] [] ⟨tr, tr⟩ (thenQ_normal ?_))
  refine AW.seq ?_
  refine AW.seq (AW.rA ⟨[(0, (vc (sl 1 (csL 5 cs_Key) a0))), (1, (vc (sl 1 (csL 5 cs_Key) a1))), (10, (vc (.bool ((a0.length : Int) != (a1.length : Int)))))], []⟩ (Tt ∧ T4 Tt) [] [0, 1, 10] [] ⟨tr, tr, tr, tr, tr, tr⟩ (thenQ_normal ?_))
  rcases ite2_cases h with ⟨b1, h⟩ | ⟨b1, h⟩
  · refine AW.cond_t rfl b1 ?_
    refine AW.seq (AW.rA ⟨[(4, (vc (.bool false)))], []⟩ (Tt ∧ Tt) [] [4] [] ⟨tr, tr⟩ (thenQ_normal ?_))
    refine AW.ret ?_
    refine thenQ_ret ?_
    replace h := some_eq h
    subst h
    exact ⟨.inr rfl, retOK_of [(.one (.c (.bool false)))] (by kernel_rfl) ⟨⟨rfl, tr⟩, tr⟩ (of_decide_eq_true (by kernel_rfl))⟩
  · refine AW.cond_f rfl b1 ?_
    refine AW.skip ?_
    refine thenQ_normal ?_
    refine AW.seq ?_
    refine AW.seq (AW.rA ⟨[(0, (vc (sl 1 (csL 5 cs_Key) a0))), (1, (vc (sl 1 (csL 5 cs_Key) a1))), (5, (vc (.int .i64 (0 : Int))))], []⟩ (Tt ∧ Tt) [] [0, 1, 5] [] ⟨tr, tr⟩ (thenQ_normal ?_))
    refine AW.block ?_
    refine AW.loopQ (σ := Nat × Int) (fun p => ⟨[(0, (vc (sl 1 (csL 5 cs_Key) a0))), (1, (vc (sl 1 (csL 5 cs_Key) a1))), (5, (vc (.int .i64 p.2)))], []⟩) (fun p => laws_eqKeySS_l1 K a0 a1 p.1 p.2 = some o) (fun p => p.1) (K, (0 : Int)) h ?_
    clear h
    rintro ⟨k, x3⟩ h
    replace h : laws_eqKeySS_l1 K a0 a1 k x3 = some o := h
    show AW _ _ (⟨[(0, (vc (sl 1 (csL 5 cs_Key) a0))), (1, (vc (sl 1 (csL 5 cs_Key) a1))), (5, (vc (.int .i64 x3)))], []⟩ : St) _
    obtain _ | k := k
    · rw [laws_eqKeySS_l1] at h; cases h
    rw [laws_eqKeySS_l1] at h
    refine AW.seq ?_
    refine AW.seq (AW.rA ⟨[(0, (vc (sl 1 (csL 5 cs_Key) a0))), (1, (vc (sl 1 (csL 5 cs_Key) a1))), (5, (vc (.int .i64 x3))), (14, (vc (.bool (decide (x3 < (a0.length : Int))))))], []⟩ (T4 Tt) [] [0, 1, 5, 14] [] ⟨tr, tr, tr, tr, tr⟩ (thenQ_normal ?_))
    rcases ite2_cases h with ⟨b4, h⟩ | ⟨b4, h⟩
    · refine AW.cond_t rfl b4 ?_
      refine AW.skip ?_
      refine thenQ_normal ?_
      refine AW.seq ?_
      refine AW.block ?_
      refine AW.seq ?_
      obtain ⟨c5, h⟩ := chk_some h
      obtain ⟨c6, h⟩ := chk_some h
      obtain ⟨v7, e8, h⟩ := bind_some h
      refine AW.dA ⟨[(0, (vc (sl 1 (csL 5 cs_Key) a0))), (1, (vc (sl 1 (csL 5 cs_Key) a1))), (5, (vc (.int .i64 x3))), (26, (vc (.bool (!v7))))], []⟩ ((T2 ((0 ≤ x3 ∧ x3 < (a0.length : Int)) ∧ Tt ∧ T2 ((0 ≤ x3 ∧ x3 < (a1.length : Int)) ∧ Tt ∧ (((Eqc (sl 5 cs_Key (a0.getD x3.toNat default))) ∧ (Eqc (sl 5 cs_Key (a1.getD x3.toNat default))) ∧ Tt) ∧ CallOK Tryz.prog 53 [.one (sl 5 cs_Key (a0.getD x3.toNat default)), .one (sl 5 cs_Key (a1.getD x3.toNat default))] [.one (.bool v7)]) ∧ Tt ∧ Tt))) ∧ (Tt)) 10 [.no, .no, .no, .no, .no, .no, .no, .no, .call [.one (sl 5 cs_Key (a0.getD x3.toNat default)), .one (sl 5 cs_Key (a1.getD x3.toNat default))] [.one (.bool v7)] [[.view]]] [0, 1, 5, 26] [] ⟨⟨tr, tr, c5, tr, tr, tr, c6, tr, ⟨⟨rfl, rfl, tr⟩, ok_laws_eqKeyS K (a0.getD x3.toNat default) (a1.getD x3.toNat default) v7 e8⟩, tr, tr⟩, tr⟩ ?_
      refine thenQ_normal ?_
      rcases ite2_cases h with ⟨b9, h⟩ | ⟨b9, h⟩
      · refine AW.cond_t rfl b9 ?_
        refine AW.seq (AW.rA ⟨[(4, (vc (.bool false)))], []⟩ (Tt ∧ Tt) [] [4] [] ⟨tr, tr⟩ (thenQ_normal ?_))
        refine AW.ret ?_
        refine blockQ_ret ?_
        refine thenQ_ret ?_
        refine loopQ_ret ?_
        refine blockQ_ret ?_
        refine thenQ_ret ?_
        replace h := some_eq h
        subst h
        exact ⟨.inr rfl, retOK_of [(.one (.c (.bool false)))] (by kernel_rfl) ⟨⟨rfl, tr⟩, tr⟩ (of_decide_eq_true (by kernel_rfl))⟩
      · refine AW.cond_f rfl b9 ?_
        refine AW.skip ?_
        refine blockQ_normal ?_
        refine thenQ_normal ?_
        refine AW.rA ⟨[(0, (vc (sl 1 (csL 5 cs_Key) a0))), (1, (vc (sl 1 (csL 5 cs_Key) a1))), (5, (vc (.int .i64 (IntKind.i64.wrap (x3 + (1 : Int))))))], []⟩ (Tt ∧ T2 Tt) [] [0, 1, 5] [] ⟨tr, tr, tr, tr⟩ ?_
        exact loopQ_normal (k, (IntKind.i64.wrap (x3 + (1 : Int)))) h (Nat.lt_succ_self k) (Sub.keep [0, 1, 5] [] (by kernel_rfl) (by kernel_rfl))
    · refine AW.cond_f rfl b4 ?_
      refine AW.exit ?_
      refine thenQ_exit ?_
      refine loopQ_exit ?_
      refine blockQ_exit ?_
      refine thenQ_normal ?_
      refine AW.seq (AW.rA ⟨[(4, (vc (.bool true)))], []⟩ (Tt ∧ Tt) [] [4] [] ⟨tr, tr⟩ (thenQ_normal ?_))
      refine AW.ret ?_
      replace h := some_eq h
      subst h
      exact ⟨.inr rfl, retOK_of [(.one (.c (.bool true)))] (by kernel_rfl) ⟨⟨rfl, tr⟩, tr⟩ (of_decide_eq_true (by kernel_rfl))⟩

/-! laws.eqVector -/
def laws_eqVector (K : Nat) (a0 : Vector) (a1 : Vector) : Option (Bool) :=
  (laws_sameFloat K (Fl.cv .f32 .f64 a0.X) (Fl.cv .f32 .f64 a1.X)).bind fun v1 => ite2 ((!v1)) (some false) ((laws_sameFloat K (Fl.cv .f32 .f64 a0.Y) (Fl.cv .f32 .f64 a1.Y)).bind fun v4 => ite2 ((!v4)) (some false) ((laws_sameFloat K (Fl.cv .f32 .f64 a0.Z) (Fl.cv .f32 .f64 a1.Z)).bind fun v7 => ite2 ((!v7)) (some false) (some true)))

theorem ok_laws_eqVector (K : Nat) (a0 : Vector) (a1 : Vector) (o : (Bool)) (h : laws_eqVector K a0 a1 = some o) : CallOK Tryz.prog 81 [.agg (cs_Vector a0), .agg (cs_Vector a1)] [.one (.bool o)] := by
  refine callOK_of_AW Tryz.func81 rfl (by kernel_rfl) (Nat.le_of_ble_eq_true (by kernel_rfl)) ?_
  intro w0
  unfold laws_eqVector at h
  refine AW.seq (AW.rA ⟨[(2, (vp 1 0)), (3, (vp 2 0))], [(1, (.box [(.c (.flt .f32 a0.X.bits)), (.c (.flt .f32 a0.Y.bits)), (.c (.flt .f32 a0.Z.bits))])), (2, (.box [(.c (.flt .f32 a1.X.bits)), (.c (.flt .f32 a1.Y.bits)), (.c (.flt .f32 a1.Z.bits))]))]⟩ (Tt ∧ T2 Tt) [.box 1, .box 2] [2, 3] [1, 2] ⟨tr, tr, tr, tr⟩ (thenQ_normal ?_))
  refine AW.seq ?_
  refine AW.seq ?_
  obtain ⟨v1, e2, h⟩ := bind_some h
  refine AW.rA ⟨[(2, (vp 1 0)), (3, (vp 2 0)), (12, (vc (.bool (!v1))))], [(1, (.box [(.c (.flt .f32 a0.X.bits)), (.c (.flt .f32 a0.Y.bits)), (.c (.flt .f32 a0.Z.bits))])), (2, (.box [(.c (.flt .f32 a1.X.bits)), (.c (.flt .f32 a1.Y.bits)), (.c (.flt .f32 a1.Z.bits))]))]⟩ (T2 (((convBits .f32 a0.X.bits .f64).isSome = true) ∧ T2 (((convBits .f32 a1.X.bits .f64).isSome = true) ∧ (((Eqc (.flt .f64 (Fl.cv .f32 .f64 a0.X).bits)) ∧ (Eqc (.flt .f64 (Fl.cv .f32 .f64 a1.X).bits)) ∧ Tt) ∧ CallOK Tryz.prog 100 [.one (.flt .f64 (Fl.cv .f32 .f64 a0.X).bits), .one (.flt .f64 (Fl.cv .f32 .f64 a1.X).bits)] [.one (.bool v1)]) ∧ Tt ∧ Tt))) [.no, .no, .no, .no, .no, .no, .call [.one (.flt .f64 (Fl.cv .f32 .f64 a0.X).bits), .one (.flt .f64 (Fl.cv .f32 .f64 a1.X).bits)] [.one (.bool v1)] [[.view]]] [2, 3, 12] [1, 2] ⟨tr, tr, cv_wide a0.X, tr, tr, cv_wide a1.X, ⟨⟨rfl, rfl, tr⟩, ok_laws_sameFloat K (Fl.cv .f32 .f64 a0.X) (Fl.cv .f32 .f64 a1.X) v1 e2⟩, tr, tr⟩ ?_
  refine thenQ_normal ?_
  rcases ite2_cases h with ⟨b3, h⟩ | ⟨b3, h⟩
  · refine AW.cond_t rfl b3 ?_
    refine AW.seq (AW.rA ⟨[(4, (vc (.bool false)))], []⟩ (Tt ∧ Tt) [] [4] [] ⟨tr, tr⟩ (thenQ_normal ?_))
    refine AW.ret ?_
    refine thenQ_ret ?_
    replace h := some_eq h
    subst h
    exact ⟨.inr rfl, retOK_of [(.one (.c (.bool false)))] (by kernel_rfl) ⟨⟨rfl, tr⟩, tr⟩ (of_decide_eq_true (by kernel_rfl))⟩
  · refine AW.cond_f rfl b3 ?_
    refine AW.skip ?_
    refine thenQ_normal ?_
    refine AW.seq ?_
    refine AW.seq ?_
    obtain ⟨v4, e5, h⟩ := bind_some h
    refine AW.rA ⟨[(2, (vp 1 0)), (3, (vp 2 0)), (20, (vc (.bool (!v4))))], [(1, (.box [(.c (.flt .f32 a0.X.bits)), (.c (.flt .f32 a0.Y.bits)), (.c (.flt .f32 a0.Z.bits))])), (2, (.box [(.c (.flt .f32 a1.X.bits)), (.c (.flt .f32 a1.Y.bits)), (.c (.flt .f32 a1.Z.bits))]))]⟩ (T2 (((convBits .f32 a0.Y.bits .f64).isSome = true) ∧ T2 (((convBits .f32 a1.Y.bits .f64).isSome = true) ∧ (((Eqc (.flt .f64 (Fl.cv .f32 .f64 a0.Y).bits)) ∧ (Eqc (.flt .f64 (Fl.cv .f32 .f64 a1.Y).bits)) ∧ Tt) ∧ CallOK Tryz.prog 100 [.one (.flt .f64 (Fl.cv .f32 .f64 a0.Y).bits), .one (.flt .f64 (Fl.cv .f32 .f64 a1.Y).bits)] [.one (.bool v4)]) ∧ Tt ∧ Tt))) [.no, .no, .no, .no, .no, .no, .call [.one (.flt .f64 (Fl.cv .f32 .f64 a0.Y).bits), .one (.flt .f64 (Fl.cv .f32 .f64 a1.Y).bits)] [.one (.bool v4)] [[.view]]] [2, 3, 20] [1, 2] ⟨tr, tr, cv_wide a0.Y, tr, tr, cv_wide a1.Y, ⟨⟨rfl, rfl, tr⟩, ok_laws_sameFloat K (Fl.cv .f32 .f64 a0.Y) (Fl.cv .f32 .f64 a1.Y) v4 e5⟩, tr, tr⟩ ?_
    refine thenQ_normal ?_
    rcases ite2_cases h with ⟨b6, h⟩ | ⟨b6, h⟩
    · refine AW.cond_t rfl b6 ?_
      refine AW.seq (AW.rA ⟨[(4, (vc (.bool false)))], []⟩ (Tt ∧ Tt) [] [4] [] ⟨tr, tr⟩ (thenQ_normal ?_))
      refine AW.ret ?_
      refine thenQ_ret ?_
      replace h := some_eq h
      subst h
      exact ⟨.inr rfl, retOK_of [(.one (.c (.bool false)))] (by kernel_rfl) ⟨⟨rfl, tr⟩, tr⟩ (of_decide_eq_true (by kernel_rfl))⟩
    · refine AW.cond_f rfl b6 ?_
      refine AW.skip ?_
      refine thenQ_normal ?_
      refine AW.seq ?_
      refine AW.seq ?_
      obtain ⟨v7, e8, h⟩ := bind_some h
      refine AW.rA ⟨[(28, (vc (.bool (!v7))))], []⟩ (T2 (((convBits .f32 a0.Z.bits .f64).isSome = true) ∧ T2 (((convBits .f32 a1.Z.bits .f64).isSome = true) ∧ (((Eqc (.flt .f64 (Fl.cv .f32 .f64 a0.Z).bits)) ∧ (Eqc (.flt .f64 (Fl.cv .f32 .f64 a1.Z).bits)) ∧ Tt) ∧ CallOK Tryz.prog 100 [.one (.flt .f64 (Fl.cv .f32 .f64 a0.Z).bits), .one (.flt .f64 (Fl.cv .f32 .f64 a1.Z).bits)] [.one (.bool v7)]) ∧ Tt ∧ Tt))) [.no, .no, .no, .no, .no, .no, .call [.one (.flt .f64 (Fl.cv .f32 .f64 a0.Z).bits), .one (.flt .f64 (Fl.cv .f32 .f64 a1.Z).bits)] [.one (.bool v7)] [[.view]]] [28] [] ⟨tr, tr, cv_wide a0.Z, tr, tr, cv_wide a1.Z, ⟨⟨rfl, rfl, tr⟩, ok_laws_sameFloat K (Fl.cv .f32 .f64 a0.Z) (Fl.cv .f32 .f64 a1.Z) v7 e8⟩, tr, tr⟩ ?_
      refine thenQ_normal ?_
      rcases ite2_cases h with ⟨b9, h⟩ | ⟨b9, h⟩
      · refine AW.cond_t rfl b9 ?_
        refine AW.seq (AW.rA ⟨[(4, (vc (.bool false)))], []⟩ (Tt ∧ Tt) [] [4] [] ⟨tr, tr⟩ (thenQ_normal ?_))
        refine AW.ret ?_
        refine thenQ_ret ?_
        replace h := some_eq h
        subst h
        exact ⟨.inr rfl, retOK_of [(.one (.c (.bool false)))] (by kernel_rfl) ⟨⟨rfl, tr⟩, tr⟩ (of_decide_eq_true (by kernel_rfl))⟩
      · refine AW.cond_f rfl b9 ?_
        refine AW.skip ?_
        refine thenQ_normal ?_
        refine AW.seq (AW.rA ⟨[(4, (vc (.bool true)))], []⟩ (Tt ∧ Tt) [] [4] [] ⟨tr, tr⟩ (thenQ_normal ?_))
        refine AW.ret ?_
        replace h := some_eq h
        subst h
        exact ⟨.inr rfl, retOK_of [(.one (.c (.bool true)))] (by kernel_rfl) ⟨⟨rfl, tr⟩, tr⟩ (of_decide_eq_true (by kernel_rfl))⟩

/-! laws.eqRootKey -/
def laws_eqRootKey (K : Nat) (a0 : RootKey) (a1 : RootKey) : Option (Bool) :=
  ite2 ((a0.At != a1.At)) (some false) ((laws_eqVector K a0.Place a1.Place).bind fun v2 => ite2 ((!v2)) (some false) (some true))

theorem ok_laws_eqRootKey (K : Nat) (a0 : RootKey) (a1 : RootKey) (o : (Bool)) (h : laws_eqRootKey K a0 a1 = some o) : CallOK Tryz.prog 54 [.agg (cs_RootKey a0), .agg (cs_RootKey a1)] [.one (.bool o)] := by
  refine callOK_of_AW Tryz.func54 rfl (by kernel_rfl) (Nat.le_of_ble_eq_true (by kernel_rfl)) ?_
  intro w0
  unfold laws_eqRootKey at h
  refine AW.seq (AW.rA ⟨[(2, (vp 1 0)), (3, (vp 2 0))], [(1, (.box [(.c (.int .i64 a0.At)), (.c (.flt .f32 a0.Place.X.bits)), (.c (.flt .f32 a0.Place.Y.bits)), (.c (.flt .f32 a0.Place.Z.bits))])), (2, (.box [(.c (.int .i64 a1.At)), (.c (.flt .f32 a1.Place.X.bits)), (.c (.flt .f32 a1.Place.Y.bits)), (.c (.flt .f32 a1.Place.Z.bits))]))]⟩ (Tt ∧ T2 Tt) [.box 1, .box 2] [2, 3] [1, 2] ⟨tr, tr, tr, tr⟩ (thenQ_normal ?_))
  refine AW.seq ?_
  refine AW.seq (AW.rA ⟨[(2, (vp 1 0)), (3, (vp 2 0)), (9, (vc (.bool (a0.At != a1.At))))], [(1, (.box [(.c (.int .i64 a0.At)), (.c (.flt .f32 a0.Place.X.bits)), (.c (.flt .f32 a0.Place.Y.bits)), (.c (.flt .f32 a0.Place.Z.bits))])), (2, (.box [(.c (.int .i64 a1.At)), (.c (.flt .f32 a1.Place.X.bits)), (.c (.flt .f32 a1.Place.Y.bits)), (.c (.flt .f32 a1.Place.Z.bits))]))]⟩ (Tt ∧ T4 Tt) [] [2, 3, 9] [1, 2] ⟨tr, tr, tr, tr, tr, tr⟩ (thenQ_normal ?_))
  rcases ite2_cases h with ⟨b1, h⟩ | ⟨b1, h⟩
  · refine AW.cond_t rfl b1 ?_
    refine AW.seq (AW.rA ⟨[(4, (vc (.bool false)))], []⟩ (Tt ∧ Tt) [] [4] [] ⟨tr, tr⟩ (thenQ_normal ?_))
    refine AW.ret ?_
    refine thenQ_ret ?_
    replace h := some_eq h
    subst h
    exact ⟨.inr rfl, retOK_of [(.one (.c (.bool false)))] (by kernel_rfl) ⟨⟨rfl, tr⟩, tr⟩ (of_decide_eq_true (by kernel_rfl))⟩
  · refine AW.cond_f rfl b1 ?_
    refine AW.skip ?_
    refine thenQ_normal ?_
    refine AW.seq ?_
    refine AW.seq ?_
    obtain ⟨v2, e3, h⟩ := bind_some h
    refine AW.rA ⟨[(15, (vc (.bool (!v2))))], []⟩ (T4 (((((Eqc (.flt .f32 a0.Place.X.bits)) ∧ (Eqc (.flt .f32 a0.Place.Y.bits)) ∧ (Eqc (.flt .f32 a0.Place.Z.bits)) ∧ Tt) ∧ ((Eqc (.flt .f32 a1.Place.X.bits)) ∧ (Eqc (.flt .f32 a1.Place.Y.bits)) ∧ (Eqc (.flt .f32 a1.Place.Z.bits)) ∧ Tt) ∧ Tt) ∧ CallOK Tryz.prog 81 [.agg (cs_Vector a0.Place), .agg (cs_Vector a1.Place)] [.one (.bool v2)]) ∧ Tt ∧ Tt)) [.no, .no, .no, .no, .call [.agg (cs_Vector a0.Place), .agg (cs_Vector a1.Place)] [.one (.bool v2)] [[.view]]] [15] [] ⟨tr, tr, tr, tr, ⟨⟨⟨rfl, rfl, rfl, tr⟩, ⟨rfl, rfl, rfl, tr⟩, tr⟩, ok_laws_eqVector K a0.Place a1.Place v2 e3⟩, tr, tr⟩ ?_
    refine thenQ_normal ?_
    rcases ite2_cases h with ⟨b4, h⟩ | ⟨b4, h⟩
    · refine AW.cond_t rfl b4 ?_
      refine AW.seq (AW.rA ⟨[(4, (vc (.bool false)))], []⟩ (Tt ∧ Tt) [] [4] [] ⟨tr, tr⟩ (thenQ_normal ?_))
      refine AW.ret ?_
      refine thenQ_ret ?_
      replace h := some_eq h
      subst h
      exact ⟨.inr rfl, retOK_of [(.one (.c (.bool false)))] (by kernel_rfl) ⟨⟨rfl, tr⟩, tr⟩ (of_decide_eq_true (by kernel_rfl))⟩
    · refine AW.cond_f rfl b4 ?_
      refine AW.skip ?_
      refine thenQ_normal ?_
      refine AW.seq (AW.rA ⟨[(4, (vc (.bool true)))], []⟩ (Tt ∧ Tt) [] [4] [] ⟨tr, tr⟩ (thenQ_normal ?_))
      refine AW.ret ?_
      replace h := some_eq h
      subst h
      exact ⟨.inr rfl, retOK_of [(.one (.c (.bool true)))] (by kernel_rfl) ⟨⟨rfl, tr⟩, tr⟩ (of_decide_eq_true (by kernel_rfl))⟩

/-! laws.eqRootKeyS -/
def laws_eqRootKeyS_l1 (K : Nat) (a0 : (List RootKey)) (a1 : (List RootKey)) : Nat → Int → Option (Bool)
  | 0, _ => none
  | k + 1, x3 => ite2 ((decide (x3 < (a0.length : Int)))) (chk (0 ≤ x3 ∧ x3 < (a0.length : Int)) (chk (0 ≤ x3 ∧ x3 < (a1.length : Int)) ((laws_eqRootKey K (a0.getD x3.toNat default) (a1.getD x3.toNat default)).bind fun v7 => ite2 ((!v7)) (some false) (laws_eqRootKeyS_l1 K a0 a1 k (IntKind.i64.wrap (x3 + (1 : Int))))))) (some true)

def laws_eqRootKeyS (K : Nat) (a0 : (List RootKey)) (a1 : (List RootKey)) : Option (Bool) :=
  ite2 (((a0.length : Int) != (a1.length : Int))) (some false) (laws_eqRootKeyS_l1 K a0 a1 K (0 : Int))

theorem ok_laws_eqRootKeyS (K : Nat) (a0 : (List RootKey)) (a1 : (List RootKey)) (o : (Bool)) (h : laws_eqRootKeyS K a0 a1 = some o) : CallOK Tryz.prog 26 [.one (sl 4 cs_RootKey a0), .one (sl 4 cs_RootKey a1)] [.one (.bool o)] := by
  refine callOK_of_AW Tryz.func26 rfl (by kernel_rfl) (Nat.le_of_ble_eq_true (by kernel_rfl)) ?_
  intro w0
  unfold laws_eqRootKeyS at h
  refine AW.seq (AW.rA ⟨[(0, (vc (sl 4 cs_RootKey a0))), (1, (vc (sl 4 cs_RootKey a1)))], []⟩ (Tt ∧ Tt) [] [0, 1] [] ⟨tr, tr⟩ (thenQ_normal ?_))
  refine AW.seq ?_
  refine AW.seq (AW.rA ⟨[(0, (vc (sl 4 cs_RootKey a0))), (1, (vc (sl 4 cs_RootKey a1))), (10, (vc (.bool ((a0.length : Int) != (a1.length : Int)))))], []⟩ (Tt ∧ T4 Tt) [] [0, 1, 10] [] ⟨tr, tr, tr, tr, tr, tr⟩ (thenQ_normal ?_))
  rcases ite2_cases h with ⟨b1, h⟩ | ⟨b1, h⟩
  · refine AW.cond_t rfl b1 ?_
    refine AW.seq (AW.rA ⟨[(4, (vc (.bool false)))], []⟩ (Tt ∧ Tt) [] [4] [] ⟨tr, tr⟩ (thenQ_normal ?_))
    refine AW.ret ?_
    refine thenQ_ret ?_
    replace h := some_eq h
    subst h
    exact ⟨.inr rfl, retOK_of [(.one (.c (.bool false)))] (by kernel_rfl) ⟨⟨rfl, tr⟩, tr⟩ (of_decide_eq_true (by kernel_rfl))⟩
  · refine AW.cond_f rfl b1 ?_
    refine AW.skip ?_
    refine thenQ_normal ?_
    refine AW.seq ?_
    refine AW.seq (AW.rA ⟨[(0, (vc (sl 4 cs_RootKey a0))), (1, (vc (sl 4 cs_RootKey a1))), (5, (vc (.int .i64 (0 : Int))))], []⟩ (Tt ∧ Tt) [] [0, 1, 5] [] ⟨tr, tr⟩ (thenQ_normal ?_))
    refine AW.block ?_
    refine AW.loopQ (σ := Nat × Int) (fun p => ⟨[(0, (vc (sl 4 cs_RootKey a0))), (1, (vc (sl 4 cs_RootKey a1))), (5, (vc (.int .i64 p.2)))], []⟩) (fun p => laws_eqRootKeyS_l1 K a0 a1 p.1 p.2 = some o) (fun p => p.1) (K, (0 : Int)) h ?_
    clear h
    rintro ⟨k, x3⟩ h
    replace h : laws_eqRootKeyS_l1 K a0 a1 k x3 = some o := h
    show AW _ _ (⟨[(0, (vc (sl 4 cs_RootKey a0))), (1, (vc (sl 4 cs_RootKey a1))), (5, (vc (.int .i64 x3)))], []⟩ : St) _
    obtain _ | k := k
    · rw [laws_eqRootKeyS_l1] at h; cases h
    rw [laws_eqRootKeyS_l1] at h
    refine AW.seq ?_
    refine AW.seq (AW.rA ⟨[(0, (vc (sl 4 cs_RootKey a0))), (1, (vc (sl 4 cs_RootKey a1))), (5, (vc (.int .i64 x3))), (14, (vc (.bool (decide (x3 < (a0.length : Int))))))], []⟩ (T4 Tt) [] [0, 1, 5, 14] [] ⟨tr, tr, tr, tr, tr⟩ (thenQ_normal ?_))
    rcases ite2_cases h with ⟨b4, h⟩ | ⟨b4, h⟩
    · refine AW.cond_t rfl b4 ?_
      refine AW.skip ?_
      refine thenQ_normal ?_
      refine AW.seq ?_
      refine AW.block ?_
      refine AW.seq ?_
      obtain ⟨c5, h⟩ := chk_some h
      obtain ⟨c6, h⟩ := chk_some h
      obtain ⟨v7, e8, h⟩ := bind_some h
      refine AW.dA ⟨[(0, (vc (sl 4 cs_RootKey a0))), (1, (vc (sl 4 cs_RootKey a1))), (5, (vc (.int .i64 x3))), (26, (vc (.bool (!v7))))], []⟩ ((T2 ((0 ≤ x3 ∧ x3 < (a0.length : Int)) ∧ Tt ∧ T2 ((0 ≤ x3 ∧ x3 < (a1.length : Int)) ∧ Tt ∧ ((((Eqc (.int .i64 ((a0.getD x3.toNat default).At))) ∧ (Eqc (.flt .f32 (((a0.getD x3.toNat default).Place).X).bits)) ∧ (Eqc (.flt .f32 (((a0.getD x3.toNat default).Place).Y).bits)) ∧ (Eqc (.flt .f32 (((a0.getD x3.toNat default).Place).Z).bits)) ∧ Tt) ∧ ((Eqc (.int .i64 ((a1.getD x3.toNat default).At))) ∧ (Eqc (.flt .f32 (((a1.getD x3.toNat default).Place).X).bits)) ∧ (Eqc (.flt .f32 (((a1.getD x3.toNat default).Place).Y).bits)) ∧ (Eqc (.flt .f32 (((a1.getD x3.toNat default).Place).Z).bits)) ∧ Tt) ∧ Tt) ∧ CallOK Tryz.prog 54 [.agg (cs_RootKey (a0.getD x3.toNat default)), .agg (cs_RootKey (a1.getD x3.toNat default))] [.one (.bool v7)]) ∧ Tt ∧ Tt))) ∧ (Tt)) 10 [.no, .no, .no, .no, .no, .no, .no, .no, .call [.agg (cs_RootKey (a0.getD x3.toNat default)), .agg (cs_RootKey (a1.getD x3.toNat default))] [.one (.bool v7)] [[.view]]] [0, 1, 5, 26] [] ⟨⟨tr, tr, c5, tr, tr, tr, c6, tr, ⟨⟨⟨rfl, rfl, rfl, rfl, tr⟩, ⟨rfl, rfl, rfl, rfl, tr⟩, tr⟩, ok_laws_eqRootKey K (a0.getD x3.toNat default) (a1.getD x3.toNat default) v7 e8⟩, tr, tr⟩, tr⟩ ?_
      refine thenQ_normal ?_
      rcases ite2_cases h with ⟨b9, h⟩ | ⟨b9, h⟩
      · refine AW.cond_t rfl b9 ?_
        refine AW.seq (AW.rA ⟨[(4, (vc (.bool false)))], []⟩ (Tt ∧ Tt) [] [4] [] ⟨tr, tr⟩ (thenQ_normal ?_))
        refine AW.ret ?_
        refine blockQ_ret ?_
        refine thenQ_ret ?_
        refine loopQ_ret ?_
        refine blockQ_ret ?_
        refine thenQ_ret ?_
        replace h := some_eq h
        subst h
        exact ⟨.inr rfl, retOK_of [(.one (.c (.bool false)))] (by kernel_rfl) ⟨⟨rfl, tr⟩, tr⟩ (of_decide_eq_true (by kernel_rfl))⟩
      · refine AW.cond_f rfl b9 ?_
        refine AW.skip ?_
        refine blockQ_normal ?_
        refine thenQ_normal ?_
        refine AW.rA ⟨[(0, (vc (sl 4 cs_RootKey a0))), (1, (vc (sl 4 cs_RootKey a1))), (5, (vc (.int .i64 (IntKind.i64.wrap (x3 + (1 : Int))))))], []⟩ (Tt ∧ T2 Tt) [] [0, 1, 5] [] ⟨tr, tr, tr, tr⟩ ?_
        exact loopQ_normal (k, (IntKind.i64.wrap (x3 + (1 : Int)))) h (Nat.lt_succ_self k) (Sub.keep [0, 1, 5] [] (by kernel_rfl) (by kernel_rfl))
    · refine AW.cond_f rfl b4 ?_
      refine AW.exit ?_
      refine thenQ_exit ?_
      refine loopQ_exit ?_
      refine blockQ_exit ?_
      refine thenQ_normal ?_
      refine AW.seq (AW.rA ⟨[(4, (vc (.bool true)))], []⟩ (Tt ∧ Tt) [] [4] [] ⟨tr, tr⟩ (thenQ_normal ?_))
      refine AW.ret ?_
      replace h := some_eq h
      subst h
      exact ⟨.inr rfl, retOK_of [(.one (.c (.bool true)))] (by kernel_rfl) ⟨⟨rfl, tr⟩, tr⟩ (of_decide_eq_true (by kernel_rfl))⟩

/-! laws.eqClip -/
def laws_eqClip (K : Nat) (a0 : Clip) (a1 : Clip) : Option (Bool) :=
  ite2 ((a0.Length != a1.Length)) (some false) (ite2 ((a0.Kind != a1.Kind)) (some false) ((laws_eqKeySS K a0.Tracks a1.Tracks).bind fun v3 => ite2 ((!v3)) (some false) ((laws_eqRootKeyS K a0.Roots a1.Roots).bind fun v6 => ite2 ((!v6)) (some false) (some true))))

theorem ok_laws_eqClip (K : Nat) (a0 : Clip) (a1 : Clip) (o : (Bool)) (h : laws_eqClip K a0 a1 = some o) : CallOK Tryz.prog 8 [.agg (cs_Clip a0), .agg (cs_Clip a1)] [.one (.bool o)] := by
  refine callOK_of_AW Tryz.func8 rfl (by kernel_rfl) (Nat.le_of_ble_eq_true (by kernel_rfl)) ?_
  intro w0
  unfold laws_eqClip at h
  refine AW.seq (AW.rA ⟨[(2, (vp 1 0)), (3, (vp 2 0))], [(1, (.box [(.c (.int .i64 a0.Length)), (.c (.int .i64 a0.Kind)), (.c (sl 1 (csL 5 cs_Key) a0.Tracks)), (.c (sl 4 cs_RootKey a0.Roots))])), (2, (.box [(.c (.int .i64 a1.Length)), (.c (.int .i64 a1.Kind)), (.c (sl 1 (csL 5 cs_Key) a1.Tracks)), (.c (sl 4 cs_RootKey a1.Roots))]))]⟩ (Tt ∧ T2 Tt) [.box 1, .box 2] [2, 3] [1, 2] ⟨tr, tr, tr, tr⟩ (thenQ_normal ?_))
  refine AW.seq ?_
  refine AW.seq (AW.rA ⟨[(2, (vp 1 0)), (3, (vp 2 0)), (9, (vc (.bool (a0.Length != a1.Length))))], [(1, (.box [(.c (.int .i64 a0.Length)), (.c (.int .i64 a0.Kind)), (.c (sl 1 (csL 5 cs_Key) a0.Tracks)), (.c (sl 4 cs_RootKey a0.Roots))])), (2, (.box [(.c (.int .i64 a1.Length)), (.c (.int .i64 a1.Kind)), (.c (sl 1 (csL 5 cs_Key) a1.Tracks)), (.c (sl 4 cs_RootKey a1.Roots))]))]⟩ (Tt ∧ T4 Tt) [] [2, 3, 9] [1, 2] ⟨tr, tr, tr, tr, tr, tr⟩ (thenQ_normal ?_))
  rcases ite2_cases h with ⟨b1, h⟩ | ⟨b1, h⟩
  · refine AW.cond_t rfl b1 ?_
    refine AW.seq (AW.rA ⟨[(4, (vc (.bool false)))], []⟩ (Tt ∧ Tt) [] [4] [] ⟨tr, tr⟩ (thenQ_normal ?_))
    refine AW.ret ?_
    refine thenQ_ret ?_
    replace h := some_eq h
    subst h
    exact ⟨.inr rfl, retOK_of [(.one (.c (.bool false)))] (by kernel_rfl) ⟨⟨rfl, tr⟩, tr⟩ (of_decide_eq_true (by kernel_rfl))⟩
  · refine AW.cond_f rfl b1 ?_
    refine AW.skip ?_
    refine thenQ_normal ?_
    refine AW.seq ?_
    refine AW.seq (AW.rA ⟨[(2, (vp 1 0)), (3, (vp 2 0)), (14, (vc (.bool (a0.Kind != a1.Kind))))], [(1, (.box [(.c (.int .i64 a0.Length)), (.c (.int .i64 a0.Kind)), (.c (sl 1 (csL 5 cs_Key) a0.Tracks)), (.c (sl 4 cs_RootKey a0.Roots))])), (2, (.box [(.c (.int .i64 a1.Length)), (.c (.int .i64 a1.Kind)), (.c (sl 1 (csL 5 cs_Key) a1.Tracks)), (.c (sl 4 cs_RootKey a1.Roots))]))]⟩ (Tt ∧ T4 Tt) [] [2, 3, 14] [1, 2] ⟨tr, tr, tr, tr, tr, tr⟩ (thenQ_normal ?_))
    rcases ite2_cases h with ⟨b2, h⟩ | ⟨b2, h⟩
    · refine AW.cond_t rfl b2 ?_
      refine AW.seq (AW.rA ⟨[(4, (vc (.bool false)))], []⟩ (Tt ∧ Tt) [] [4] [] ⟨tr, tr⟩ (thenQ_normal ?_))
      refine AW.ret ?_
      refine thenQ_ret ?_
      replace h := some_eq h
      subst h
      exact ⟨.inr rfl, retOK_of [(.one (.c (.bool false)))] (by kernel_rfl) ⟨⟨rfl, tr⟩, tr⟩ (of_decide_eq_true (by kernel_rfl))⟩
    · refine AW.cond_f rfl b2 ?_
      refine AW.skip ?_
      refine thenQ_normal ?_
      refine AW.seq ?_
      refine AW.seq ?_
      obtain ⟨v3, e4, h⟩ := bind_some h
      refine AW.rA ⟨[(2, (vp 1 0)), (3, (vp 2 0)), (20, (vc (.bool (!v3))))], [(1, (.box [(.c (.int .i64 a0.Length)), (.c (.int .i64 a0.Kind)), (.c (sl 1 (csL 5 cs_Key) a0.Tracks)), (.c (sl 4 cs_RootKey a0.Roots))])), (2, (.box [(.c (.int .i64 a1.Length)), (.c (.int .i64 a1.Kind)), (.c (sl 1 (csL 5 cs_Key) a1.Tracks)), (.c (sl 4 cs_RootKey a1.Roots))]))]⟩ (T4 ((((Eqc (sl 1 (csL 5 cs_Key) a0.Tracks)) ∧ (Eqc (sl 1 (csL 5 cs_Key) a1.Tracks)) ∧ Tt) ∧ CallOK Tryz.prog 25 [.one (sl 1 (csL 5 cs_Key) a0.Tracks), .one (sl 1 (csL 5 cs_Key) a1.Tracks)] [.one (.bool v3)]) ∧ Tt ∧ Tt)) [.no, .no, .no, .no, .call [.one (sl 1 (csL 5 cs_Key) a0.Tracks), .one (sl 1 (csL 5 cs_Key) a1.Tracks)] [.one (.bool v3)] [[.view]]] [2, 3, 20] [1, 2] ⟨tr, tr, tr, tr, ⟨⟨rfl, rfl, tr⟩, ok_laws_eqKeySS K a0.Tracks a1.Tracks v3 e4⟩, tr, tr⟩ ?_
      refine thenQ_normal ?_
      rcases ite2_cases h with ⟨b5, h⟩ | ⟨b5, h⟩
      · refine AW.cond_t rfl b5 ?_
        refine AW.seq (AW.rA ⟨[(4, (vc (.bool false)))], []⟩ (Tt ∧ Tt) [] [4] [] ⟨tr, tr⟩ (thenQ_normal ?_))
        refine AW.ret ?_
        refine thenQ_ret ?_
        replace h := some_eq h
        subst h
        exact ⟨.inr rfl, retOK_of [(.one (.c (.bool false)))] (by kernel_rfl) ⟨⟨rfl, tr⟩, tr⟩ (of_decide_eq_true (by kernel_rfl))⟩
      · refine AW.cond_f rfl b5 ?_
        refine AW.skip ?_
        refine thenQ_normal ?_
        refine AW.seq ?_
        refine AW.seq ?_
        obtain ⟨v6, e7, h⟩ := bind_some h
        refine AW.rA ⟨[(26, (vc (.bool (!v6))))], []⟩ (T4 ((((Eqc (sl 4 cs_RootKey a0.Roots)) ∧ (Eqc (sl 4 cs_RootKey a1.Roots)) ∧ Tt) ∧ CallOK Tryz.prog 26 [.one (sl 4 cs_RootKey a0.Roots), .one (sl 4 cs_RootKey a1.Roots)] [.one (.bool v6)]) ∧ Tt ∧ Tt)) [.no, .no, .no, .no, .call [.one (sl 4 cs_RootKey a0.Roots), .one (sl 4 cs_RootKey a1.Roots)] [.one (.bool v6)] [[.view]]] [26] [] ⟨tr, tr, tr, tr, ⟨⟨rfl, rfl, tr⟩, ok_laws_eqRootKeyS K a0.Roots a1.Roots v6 e7⟩, tr, tr⟩ ?_
        refine thenQ_normal ?_
        rcases ite2_cases h with ⟨b8, h⟩ | ⟨b8, h⟩
        · refine AW.cond_t rfl b8 ?_
          refine AW.seq (AW.rA ⟨[(4, (vc (.bool false)))], []⟩ (Tt ∧ Tt) [] [4] [] ⟨tr, tr⟩ (thenQ_normal ?_))
          refine AW.ret ?_
          refine thenQ_ret ?_
          replace h := some_eq h
          subst h
          exact ⟨.inr rfl, retOK_of [(.one (.c (.bool false)))] (by kernel_rfl) ⟨⟨rfl, tr⟩, tr⟩ (of_decide_eq_true (by kernel_rfl))⟩
        · refine AW.cond_f rfl b8 ?_
          refine AW.skip ?_
          refine thenQ_normal ?_
          refine AW.seq (AW.rA ⟨[(4, (vc (.bool true)))], []⟩ (Tt ∧ Tt) [] [4] [] ⟨tr, tr⟩ (thenQ_normal ?_))
          refine AW.ret ?_
          replace h := some_eq h
          subst h
          exact ⟨.inr rfl, retOK_of [(.one (.c (.bool true)))] (by kernel_rfl) ⟨⟨rfl, tr⟩, tr⟩ (of_decide_eq_true (by kernel_rfl))⟩

/-! laws.markKeyS -/
def laws_markKeyS_l1 (K : Nat) (a0 : (List Key)) : Nat → Int → Int → (List Key) → Option (Int × (List Key))
  | 0, _, _, _ => none
  | k + 1, x4, x5, x6 => ite2 ((decide (x5 < (x6.length : Int)))) (chk (0 ≤ x5 ∧ x5 < (x6.length : Int)) ((some (x6.set x5.toNat (Key.mk x4 ((x6.getD x5.toNat default).Turn)))).bind fun y9 => chk (0 ≤ x5 ∧ x5 < (y9.length : Int)) ((some (y9.set x5.toNat (Key.mk ((y9.getD x5.toNat default).At) (Turn.mk (Fl.ofInt .f32 (IntKind.i64.wrap (x4 + (1 : Int)))) (((y9.getD x5.toNat default).Turn).X) (((y9.getD x5.toNat default).Turn).Y) (((y9.getD x5.toNat default).Turn).Z))))).bind fun y12 => chk (0 ≤ x5 ∧ x5 < (y12.length : Int)) ((some (y12.set x5.toNat (Key.mk ((y12.getD x5.toNat default).At) (Turn.mk (((y12.getD x5.toNat default).Turn).W) (Fl.ofInt .f32 (IntKind.i64.wrap ((IntKind.i64.wrap (x4 + (1 : Int))) + (1 : Int)))) (((y12.getD x5.toNat default).Turn).Y) (((y12.getD x5.toNat default).Turn).Z))))).bind fun y15 => chk (0 ≤ x5 ∧ x5 < (y15.length : Int)) ((some (y15.set x5.toNat (Key.mk ((y15.getD x5.toNat default).At) (Turn.mk (((y15.getD x5.toNat default).Turn).W) (((y15.getD x5.toNat default).Turn).X) (Fl.ofInt .f32 (IntKind.i64.wrap ((IntKind.i64.wrap ((IntKind.i64.wrap (x4 + (1 : Int))) + (1 : Int))) + (1 : Int)))) (((y15.getD x5.toNat default).Turn).Z))))).bind fun y18 => chk (0 ≤ x5 ∧ x5 < (y18.length : Int)) ((some (y18.set x5.toNat (Key.mk ((y18.getD x5.toNat default).At) (Turn.mk (((y18.getD x5.toNat default).Turn).W) (((y18.getD x5.toNat default).Turn).X) (((y18.getD x5.toNat default).Turn).Y) (Fl.ofInt .f32 (IntKind.i64.wrap ((IntKind.i64.wrap ((IntKind.i64.wrap ((IntKind.i64.wrap (x4 + (1 : Int))) + (1 : Int))) + (1 : Int))) + (1 : Int)))))))).bind fun y21 => laws_markKeyS_l1 K a0 k (IntKind.i64.wrap ((IntKind.i64.wrap ((IntKind.i64.wrap ((IntKind.i64.wrap ((IntKind.i64.wrap (x4 + (1 : Int))) + (1 : Int))) + (1 : Int))) + (1 : Int))) + (1 : Int))) (IntKind.i64.wrap (x5 + (1 : Int))) y21)))))) (chk (x6.length = a0.length) (some (x4, x6)))

def laws_markKeyS (K : Nat) (a0 : (List Key)) (a1 : Int) : Option (Int × (List Key)) :=
  laws_markKeyS_l1 K a0 K a1 (0 : Int) a0

theorem ok_laws_markKeyS (K : Nat) (a0 : (List Key)) (a1 : Int) (o : (Int × (List Key))) (h : laws_markKeyS K a0 a1 = some o) : MutOK Tryz.prog 55 [(.one (.mu (sl 5 cs_Key a0) (sl 5 cs_Key o.2))), (.one (.ro (.int .i64 a1)))] [.one (.int .i64 o.1)] := by
  refine mutOK_of_AW 1 Tryz.func55 rfl (by kernel_rfl) (Nat.le_of_ble_eq_true (by kernel_rfl)) (by kernel_rfl) (by kernel_rfl) ?_
  intro w0 K0 v0 s0
  unfold laws_markKeyS at h
  refine AW.seq (AW.rA ⟨[(0, (.v (.one (.arr 0)))), (1, (vc (.int .i64 a1)))], [(0, (.arr true a0.length 5 (gl cs_Key a0)))]⟩ (Tt ∧ Tt) [] [0, 1] [0] ⟨tr, tr⟩ (thenQ_normal ?_))
  refine AW.seq ?_
  refine AW.seq (AW.rA ⟨[(0, (.v (.one (.arr 0)))), (1, (vc (.int .i64 a1))), (5, (vc (.int .i64 (0 : Int))))], [(0, (.arr true a0.length 5 (gl cs_Key a0)))]⟩ (Tt ∧ Tt) [] [0, 1, 5] [0] ⟨tr, tr⟩ (thenQ_normal ?_))
  refine AW.block ?_
  refine AW.loopQ (σ := Nat × Int × Int × (List Key)) (fun p => ⟨[(0, (.v (.one (.arr 0)))), (1, (vc (.int .i64 p.2.1))), (5, (vc (.int .i64 p.2.2.1)))], [(0, (.arr true p.2.2.2.length 5 (gl cs_Key p.2.2.2)))]⟩) (fun p => laws_markKeyS_l1 K a0 p.1 p.2.1 p.2.2.1 p.2.2.2 = some o) (fun p => p.1) (K, a1, (0 : Int), a0) h ?_
  clear h
  rintro ⟨k, x4, x5, x6⟩ h
  replace h : laws_markKeyS_l1 K a0 k x4 x5 x6 = some o := h
  show AW _ _ (⟨[(0, (.v (.one (.arr 0)))), (1, (vc (.int .i64 x4))), (5, (vc (.int .i64 x5)))], [(0, (.arr true x6.length 5 (gl cs_Key x6)))]⟩ : St) _
  obtain _ | k := k
  · rw [laws_markKeyS_l1] at h; cases h
  rw [laws_markKeyS_l1] at h
  refine AW.seq ?_
  refine AW.seq (AW.rA ⟨[(0, (.v (.one (.arr 0)))), (1, (vc (.int .i64 x4))), (5, (vc (.int .i64 x5))), (9, (vc (.bool (decide (x5 < (x6.length : Int))))))], [(0, (.arr true x6.length 5 (gl cs_Key x6)))]⟩ (T4 Tt) [] [0, 1, 5, 9] [0] ⟨tr, tr, tr, tr, tr⟩ (thenQ_normal ?_))
  rcases ite2_cases h with ⟨b7, h⟩ | ⟨b7, h⟩
  · refine AW.cond_t rfl b7 ?_
    refine AW.skip ?_
    refine thenQ_normal ?_
    refine AW.seq ?_
    refine AW.block ?_
    refine AW.seq ?_
    obtain ⟨c8, h⟩ := chk_some h
    obtain ⟨y9, e10, h⟩ := bind_some h
    refine AW.rA ⟨[(0, (.v (.one (.arr 0)))), (1, (vc (.int .i64 x4))), (5, (vc (.int .i64 x5)))], [(0, (.arr true y9.length 5 (gl cs_Key y9)))]⟩ (Tt ∧ T2 ((0 ≤ x5 ∧ x5 < (x6.length : Int)) ∧ Tt ∧ (y9.length = x6.length ∧ SetOb x6.length 5 x5.toNat 0 1 (gl cs_Key x6) (gl cs_Key y9) ∧ ((List.range 1).map fun j => (cs_Key (Key.mk x4 ((x6.getD x5.toNat default).Turn))).getD (0 + j) .nilptr) = ((List.range 1).map fun j => gl cs_Key y9 x5.toNat (0 + j)) ∧ ((((.int .i64 x4) : C) = (.int .i64 x4) ∧ Tt) ∧ Tt) ∧ (true = true → ∀ j, j < 1 → isSeq (gl cs_Key x6 x5.toNat (0 + j)) = false ∧ isSeq (gl cs_Key y9 x5.toNat (0 + j)) = false)) ∧ Tt)) [.no, .no, .no, .no, .no, .set y9.length (gl cs_Key y9) ((List.range 1).map fun j => (cs_Key (Key.mk x4 ((x6.getD x5.toNat default).Turn))).getD (0 + j) .nilptr)] [0, 1, 5] [0] ⟨tr, tr, tr, c8, tr, (letP (some_eq e10) (fun z => (z.length = x6.length ∧ SetOb x6.length 5 x5.toNat 0 1 (gl cs_Key x6) (gl cs_Key z) ∧ ((List.range 1).map fun j => (cs_Key (Key.mk x4 ((x6.getD x5.toNat default).Turn))).getD (0 + j) .nilptr) = ((List.range 1).map fun j => gl cs_Key z x5.toNat (0 + j)) ∧ ((((.int .i64 x4) : C) = (.int .i64 x4) ∧ Tt) ∧ Tt) ∧ (true = true → ∀ j, j < 1 → isSeq (gl cs_Key x6 x5.toNat (0 + j)) = false ∧ isSeq (gl cs_Key z x5.toNat (0 + j)) = false))) ⟨List.length_set, gl_setp (fun j hj hn => match j, hj, hn with | 0, _, hn => absurd ⟨by decide, by decide⟩ hn | 1, _, _ => rfl | 2, _, _ => rfl | 3, _, _ => rfl | 4, _, _ => rfl) (lt_of_bound c8), (gl_atp (lt_of_bound c8)).symm, ⟨⟨rfl, tr⟩, tr⟩, (fun _ j hj => match j, hj with | 0, _ => ⟨rfl, rfl⟩)⟩), tr⟩ ?_
    refine thenQ_normal ?_
    refine AW.seq (AW.rA ⟨[(0, (.v (.one (.arr 0)))), (1, (vc (.int .i64 (IntKind.i64.wrap (x4 + (1 : Int)))))), (5, (vc (.int .i64 x5)))], [(0, (.arr true y9.length 5 (gl cs_Key y9)))]⟩ (Tt ∧ T2 Tt) [] [0, 1, 5] [0] ⟨tr, tr, tr, tr⟩ (thenQ_normal ?_))
    refine AW.seq ?_
    obtain ⟨c11, h⟩ := chk_some h
    obtain ⟨y12, e13, h⟩ := bind_some h
    refine AW.rA ⟨[(0, (.v (.one (.arr 0)))), (1, (vc (.int .i64 (IntKind.i64.wrap (x4 + (1 : Int)))))), (5, (vc (.int .i64 x5)))], [(0, (.arr true y12.length 5 (gl cs_Key y12)))]⟩ (T4 ((0 ≤ x5 ∧ x5 < (y9.length : Int)) ∧ T2 ((y12.length = y9.length ∧ SetOb y9.length 5 x5.toNat 1 1 (gl cs_Key y9) (gl cs_Key y12) ∧ ((List.range 1).map fun j => (cs_Key (Key.mk ((y9.getD x5.toNat default).At) (Turn.mk (Fl.ofInt .f32 (IntKind.i64.wrap (x4 + (1 : Int)))) (((y9.getD x5.toNat default).Turn).X) (((y9.getD x5.toNat default).Turn).Y) (((y9.getD x5.toNat default).Turn).Z)))).getD (1 + j) .nilptr) = ((List.range 1).map fun j => gl cs_Key y12 x5.toNat (1 + j)) ∧ ((((.flt .f32 (Fl.ofInt .f32 (IntKind.i64.wrap (x4 + (1 : Int)))).bits) : C) = (.flt .f32 (Fl.ofInt .f32 (IntKind.i64.wrap (x4 + (1 : Int)))).bits) ∧ Tt) ∧ Tt) ∧ (true = true → ∀ j, j < 1 → isSeq (gl cs_Key y9 x5.toNat (1 + j)) = false ∧ isSeq (gl cs_Key y12 x5.toNat (1 + j)) = false)) ∧ Tt))) [.no, .no, .no, .no, .no, .no, .no, .set y12.length (gl cs_Key y12) ((List.range 1).map fun j => (cs_Key (Key.mk ((y9.getD x5.toNat default).At) (Turn.mk (Fl.ofInt .f32 (IntKind.i64.wrap (x4 + (1 : Int)))) (((y9.getD x5.toNat default).Turn).X) (((y9.getD x5.toNat default).Turn).Y) (((y9.getD x5.toNat default).Turn).Z)))).getD (1 + j) .nilptr)] [0, 1, 5] [0] ⟨tr, tr, tr, tr, c11, tr, tr, (letP (some_eq e13) (fun z => (z.length = y9.length ∧ SetOb y9.length 5 x5.toNat 1 1 (gl cs_Key y9) (gl cs_Key z) ∧ ((List.range 1).map fun j => (cs_Key (Key.mk ((y9.getD x5.toNat default).At) (Turn.mk (Fl.ofInt .f32 (IntKind.i64.wrap (x4 + (1 : Int)))) (((y9.getD x5.toNat default).Turn).X) (((y9.getD x5.toNat default).Turn).Y) (((y9.getD x5.toNat default).Turn).Z)))).getD (1 + j) .nilptr) = ((List.range 1).map fun j => gl cs_Key z x5.toNat (1 + j)) ∧ ((((.flt .f32 (Fl.ofInt .f32 (IntKind.i64.wrap (x4 + (1 : Int)))).bits) : C) = (.flt .f32 (Fl.ofInt .f32 (IntKind.i64.wrap (x4 + (1 : Int)))).bits) ∧ Tt) ∧ Tt) ∧ (true = true → ∀ j, j < 1 → isSeq (gl cs_Key y9 x5.toNat (1 + j)) = false ∧ isSeq (gl cs_Key z x5.toNat (1 + j)) = false))) ⟨List.length_set, gl_setp (fun j hj hn => match j, hj, hn with | 0, _, _ => rfl | 1, _, hn => absurd ⟨by decide, by decide⟩ hn | 2, _, _ => rfl | 3, _, _ => rfl | 4, _, _ => rfl) (lt_of_bound c11), (gl_atp (lt_of_bound c11)).symm, ⟨⟨rfl, tr⟩, tr⟩, (fun _ j hj => match j, hj with | 0, _ => ⟨rfl, rfl⟩)⟩), tr⟩ ?_
    refine thenQ_normal ?_
    refine AW.seq (AW.rA ⟨[(0, (.v (.one (.arr 0)))), (1, (vc (.int .i64 (IntKind.i64.wrap ((IntKind.i64.wrap (x4 + (1 : Int))) + (1 : Int)))))), (5, (vc (.int .i64 x5)))], [(0, (.arr true y12.length 5 (gl cs_Key y12)))]⟩ (Tt ∧ T2 Tt) [] [0, 1, 5] [0] ⟨tr, tr, tr, tr⟩ (thenQ_normal ?_))
    refine AW.seq ?_
    obtain ⟨c14, h⟩ := chk_some h
    obtain ⟨y15, e16, h⟩ := bind_some h
    refine AW.rA ⟨[(0, (.v (.one (.arr 0)))), (1, (vc (.int .i64 (IntKind.i64.wrap ((IntKind.i64.wrap (x4 + (1 : Int))) + (1 : Int)))))), (5, (vc (.int .i64 x5)))], [(0, (.arr true y15.length 5 (gl cs_Key y15)))]⟩ (T4 ((0 ≤ x5 ∧ x5 < (y12.length : Int)) ∧ T2 ((y15.length = y12.length ∧ SetOb y12.length 5 x5.toNat 2 1 (gl cs_Key y12) (gl cs_Key y15) ∧ ((List.range 1).map fun j => (cs_Key (Key.mk ((y12.getD x5.toNat default).At) (Turn.mk (((y12.getD x5.toNat default).Turn).W) (Fl.ofInt .f32 (IntKind.i64.wrap ((IntKind.i64.wrap (x4 + (1 : Int))) + (1 : Int)))) (((y12.getD x5.toNat default).Turn).Y) (((y12.getD x5.toNat default).Turn).Z)))).getD (2 + j) .nilptr) = ((List.range 1).map fun j => gl cs_Key y15 x5.toNat (2 + j)) ∧ ((((.flt .f32 (Fl.ofInt .f32 (IntKind.i64.wrap ((IntKind.i64.wrap (x4 + (1 : Int))) + (1 : Int)))).bits) : C) = (.flt .f32 (Fl.ofInt .f32 (IntKind.i64.wrap ((IntKind.i64.wrap (x4 + (1 : Int))) + (1 : Int)))).bits) ∧ Tt) ∧ Tt) ∧ (true = true → ∀ j, j < 1 → isSeq (gl cs_Key y12 x5.toNat (2 + j)) = false ∧ isSeq (gl cs_Key y15 x5.toNat (2 + j)) = false)) ∧ Tt))) [.no, .no, .no, .no, .no, .no, .no, .set y15.length (gl cs_Key y15) ((List.range 1).map fun j => (cs_Key (Key.mk ((y12.getD x5.toNat default).At) (Turn.mk (((y12.getD x5.toNat default).Turn).W) (Fl.ofInt .f32 (IntKind.i64.wrap ((IntKind.i64.wrap (x4 + (1 : Int))) + (1 : Int)))) (((y12.getD x5.toNat default).Turn).Y) (((y12.getD x5.toNat default).Turn).Z)))).getD (2 + j) .nilptr)] [0, 1, 5] [0] ⟨tr, tr, tr, tr, c14, tr, tr, (letP (some_eq e16) (fun z => (z.length = y12.length ∧ SetOb y12.length 5 x5.toNat 2 1 (gl cs_Key y12) (gl cs_Key z) ∧ ((List.range 1).map fun j => (cs_Key (Key.mk ((y12.getD x5.toNat default).At) (Turn.mk (((y12.getD x5.toNat default).Turn).W) (Fl.ofInt .f32 (IntKind.i64.wrap ((IntKind.i64.wrap (x4 + (1 : Int))) + (1 : Int)))) (((y12.getD x5.toNat default).Turn).Y) (((y12.getD x5.toNat default).Turn).Z)))).getD (2 + j) .nilptr) = ((List.range 1).map fun j => gl cs_Key z x5.toNat (2 + j)) ∧ ((((.flt .f32 (Fl.ofInt .f32 (IntKind.i64.wrap ((IntKind.i64.wrap (x4 + (1 : Int))) + (1 : Int)))).bits) : C) = (.flt .f32 (Fl.ofInt .f32 (IntKind.i64.wrap ((IntKind.i64.wrap (x4 + (1 : Int))) + (1 : Int)))).bits) ∧ Tt) ∧ Tt) ∧ (true = true → ∀ j, j < 1 → isSeq (gl cs_Key y12 x5.toNat (2 + j)) = false ∧ isSeq (gl cs_Key z x5.toNat (2 + j)) = false))) ⟨List.length_set, gl_setp (fun j hj hn => match j, hj, hn with | 0, _, _ => rfl | 1, _, _ => rfl | 2, _, hn => absurd ⟨by decide, by decide⟩ hn | 3, _, _ => rfl | 4, _, _ => rfl) (lt_of_bound c14), (gl_atp (lt_of_bound c14)).symm, ⟨⟨rfl, tr⟩, tr⟩, (fun _ j hj => match j, hj with | 0, _ => ⟨rfl, rfl⟩)⟩), tr⟩ ?_
    refine thenQ_normal ?_
    refine AW.seq (AW.rA ⟨[(0, (.v (.one (.arr 0)))), (1, (vc (.int .i64 (IntKind.i64.wrap ((IntKind.i64.wrap ((IntKind.i64.wrap (x4 + (1 : Int))) + (1 : Int))) + (1 : Int)))))), (5, (vc (.int .i64 x5)))], [(0, (.arr true y15.length 5 (gl cs_Key y15)))]⟩ (Tt ∧ T2 Tt) [] [0, 1, 5] [0] ⟨tr, tr, tr, tr⟩ (thenQ_normal ?_))
    refine AW.seq ?_
    obtain ⟨c17, h⟩ := chk_some h
    obtain ⟨y18, e19, h⟩ := bind_some h
    refine AW.rA ⟨[(0, (.v (.one (.arr 0)))), (1, (vc (.int .i64 (IntKind.i64.wrap ((IntKind.i64.wrap ((IntKind.i64.wrap (x4 + (1 : Int))) + (1 : Int))) + (1 : Int)))))), (5, (vc (.int .i64 x5)))], [(0, (.arr true y18.length 5 (gl cs_Key y18)))]⟩ (T4 ((0 ≤ x5 ∧ x5 < (y15.length : Int)) ∧ T2 ((y18.length = y15.length ∧ SetOb y15.length 5 x5.toNat 3 1 (gl cs_Key y15) (gl cs_Key y18) ∧ ((List.range 1).map fun j => (cs_Key (Key.mk ((y15.getD x5.toNat default).At) (Turn.mk (((y15.getD x5.toNat default).Turn).W) (((y15.getD x5.toNat default).Turn).X) (Fl.ofInt .f32 (IntKind.i64.wrap ((IntKind.i64.wrap ((IntKind.i64.wrap (x4 + (1 : Int))) + (1 : Int))) + (1 : Int)))) (((y15.getD x5.toNat default).Turn).Z)))).getD (3 + j) .nilptr) = ((List.range 1).map fun j => gl cs_Key y18 x5.toNat (3 + j)) ∧ ((((.flt .f32 (Fl.ofInt .f32 (IntKind.i64.wrap ((IntKind.i64.wrap ((IntKind.i64.wrap (x4 + (1 : Int))) + (1 : Int))) + (1 : Int)))).bits) : C) = (.flt .f32 (Fl.ofInt .f32 (IntKind.i64.wrap ((IntKind.i64.wrap ((IntKind.i64.wrap (x4 + (1 : Int))) + (1 : Int))) + (1 : Int)))).bits) ∧ Tt) ∧ Tt) ∧ (true = true → ∀ j, j < 1 → isSeq (gl cs_Key y15 x5.toNat (3 + j)) = false ∧ isSeq (gl cs_Key y18 x5.toNat (3 + j)) = false)) ∧ Tt))) [.no, .no, .no, .no, .no, .no, .no, .set y18.length (gl cs_Key y18) ((List.range 1).map fun j => (cs_Key (Key.mk ((y15.getD x5.toNat default).At) (Turn.mk (((y15.getD x5.toNat default).Turn).W) (((y15.getD x5.toNat default).Turn).X) (Fl.ofInt .f32 (IntKind.i64.wrap ((IntKind.i64.wrap ((IntKind.i64.wrap (x4 + (1 : Int))) + (1 : Int))) + (1 : Int)))) (((y15.getD x5.toNat default).Turn).Z)))).getD (3 + j) .nilptr)] [0, 1, 5] [0] ⟨tr, tr, tr, tr, c17, tr, tr, (letP (some_eq e19) (fun z => (z.length = y15.length ∧ SetOb y15.length 5 x5.toNat 3 1 (gl cs_Key y15) (gl cs_Key z) ∧ ((List.range 1).map fun j => (cs_Key (Key.mk ((y15.getD x5.toNat default).At) (Turn.mk (((y15.getD x5.toNat default).Turn).W) (((y15.getD x5.toNat default).Turn).X) (Fl.ofInt .f32 (IntKind.i64.wrap ((IntKind.i64.wrap ((IntKind.i64.wrap (x4 + (1 : Int))) + (1 : Int))) + (1 : Int)))) (((y15.getD x5.toNat default).Turn).Z)))).getD (3 + j) .nilptr) = ((List.range 1).map fun j => gl cs_Key z x5.toNat (3 + j)) ∧ ((((.flt .f32 (Fl.ofInt .f32 (IntKind.i64.wrap ((IntKind.i64.wrap ((IntKind.i64.wrap (x4 + (1 : Int))) + (1 : Int))) + (1 : Int)))).bits) : C) = (.flt .f32 (Fl.ofInt .f32 (IntKind.i64.wrap ((IntKind.i64.wrap ((IntKind.i64.wrap (x4 + (1 : Int))) + (1 : Int))) + (1 : Int)))).bits) ∧ Tt) ∧ Tt) ∧ (true = true → ∀ j, j < 1 → isSeq (gl cs_Key y15 x5.toNat (3 + j)) = false ∧ isSeq (gl cs_Key z x5.toNat (3 + j)) = false))) ⟨List.length_set, gl_setp (fun j hj hn => match j, hj, hn with | 0, _, _ => rfl | 1, _, _ => rfl | 2, _, _ => rfl | 3, _, hn => absurd ⟨by decide, by decide⟩ hn | 4, _, _ => rfl) (lt_of_bound c17), (gl_atp (lt_of_bound c17)).symm, ⟨⟨rfl, tr⟩, tr⟩, (fun _ j hj => match j, hj with | 0, _ => ⟨rfl, rfl⟩)⟩), tr⟩ ?_
    refine thenQ_normal ?_
    refine AW.seq (AW.rA ⟨[(0, (.v (.one (.arr 0)))), (1, (vc (.int .i64 (IntKind.i64.wrap ((IntKind.i64.wrap ((IntKind.i64.wrap ((IntKind.i64.wrap (x4 + (1 : Int))) + (1 : Int))) + (1 : Int))) + (1 : Int)))))), (5, (vc (.int .i64 x5)))], [(0, (.arr true y18.length 5 (gl cs_Key y18)))]⟩ (Tt ∧ T2 Tt) [] [0, 1, 5] [0] ⟨tr, tr, tr, tr⟩ (thenQ_normal ?_))
    refine AW.seq ?_
    obtain ⟨c20, h⟩ := chk_some h
    obtain ⟨y21, e22, h⟩ := bind_some h
    refine AW.rA ⟨[(0, (.v (.one (.arr 0)))), (1, (vc (.int .i64 (IntKind.i64.wrap ((IntKind.i64.wrap ((IntKind.i64.wrap ((IntKind.i64.wrap (x4 + (1 : Int))) + (1 : Int))) + (1 : Int))) + (1 : Int)))))), (5, (vc (.int .i64 x5)))], [(0, (.arr true y21.length 5 (gl cs_Key y21)))]⟩ (T4 ((0 ≤ x5 ∧ x5 < (y18.length : Int)) ∧ T2 ((y21.length = y18.length ∧ SetOb y18.length 5 x5.toNat 4 1 (gl cs_Key y18) (gl cs_Key y21) ∧ ((List.range 1).map fun j => (cs_Key (Key.mk ((y18.getD x5.toNat default).At) (Turn.mk (((y18.getD x5.toNat default).Turn).W) (((y18.getD x5.toNat default).Turn).X) (((y18.getD x5.toNat default).Turn).Y) (Fl.ofInt .f32 (IntKind.i64.wrap ((IntKind.i64.wrap ((IntKind.i64.wrap ((IntKind.i64.wrap (x4 + (1 : Int))) + (1 : Int))) + (1 : Int))) + (1 : Int))))))).getD (4 + j) .nilptr) = ((List.range 1).map fun j => gl cs_Key y21 x5.toNat (4 + j)) ∧ ((((.flt .f32 (Fl.ofInt .f32 (IntKind.i64.wrap ((IntKind.i64.wrap ((IntKind.i64.wrap ((IntKind.i64.wrap (x4 + (1 : Int))) + (1 : Int))) + (1 : Int))) + (1 : Int)))).bits) : C) = (.flt .f32 (Fl.ofInt .f32 (IntKind.i64.wrap ((IntKind.i64.wrap ((IntKind.i64.wrap ((IntKind.i64.wrap (x4 + (1 : Int))) + (1 : Int))) + (1 : Int))) + (1 : Int)))).bits) ∧ Tt) ∧ Tt) ∧ (true = true → ∀ j, j < 1 → isSeq (gl cs_Key y18 x5.toNat (4 + j)) = false ∧ isSeq (gl cs_Key y21 x5.toNat (4 + j)) = false)) ∧ Tt))) [.no, .no, .no, .no, .no, .no, .no, .set y21.length (gl cs_Key y21) ((List.range 1).map fun j => (cs_Key (Key.mk ((y18.getD x5.toNat default).At) (Turn.mk (((y18.getD x5.toNat default).Turn).W) (((y18.getD x5.toNat default).Turn).X) (((y18.getD x5.toNat default).Turn).Y) (Fl.ofInt .f32 (IntKind.i64.wrap ((IntKind.i64.wrap ((IntKind.i64.wrap ((IntKind.i64.wrap (x4 + (1 : Int))) + (1 : Int))) + (1 : Int))) + (1 : Int))))))).getD (4 + j) .nilptr)] [0, 1, 5] [0] ⟨tr, tr, tr, tr, c20, tr, tr, (letP (some_eq e22) (fun z => (z.length = y18.length ∧ SetOb y18.length 5 x5.toNat 4 1 (gl cs_Key y18) (gl cs_Key z) ∧ ((List.range 1).map fun j => (cs_Key (Key.mk ((y18.getD x5.toNat default).At) (Turn.mk (((y18.getD x5.toNat default).Turn).W) (((y18.getD x5.toNat default).Turn).X) (((y18.getD x5.toNat default).Turn).Y) (Fl.ofInt .f32 (IntKind.i64.wrap ((IntKind.i64.wrap ((IntKind.i64.wrap ((IntKind.i64.wrap (x4 + (1 : Int))) + (1 : Int))) + (1 : Int))) + (1 : Int))))))).getD (4 + j) .nilptr) = ((List.range 1).map fun j => gl cs_Key z x5.toNat (4 + j)) ∧ ((((.flt .f32 (Fl.ofInt .f32 (IntKind.i64.wrap ((IntKind.i64.wrap ((IntKind.i64.wrap ((IntKind.i64.wrap (x4 + (1 : Int))) + (1 : Int))) + (1 : Int))) + (1 : Int)))).bits) : C) = (.flt .f32 (Fl.ofInt .f32 (IntKind.i64.wrap ((IntKind.i64.wrap ((IntKind.i64.wrap ((IntKind.i64.wrap (x4 + (1 : Int))) + (1 : Int))) + (1 : Int))) + (1 : Int)))).bits) ∧ Tt) ∧ Tt) ∧ (true = true → ∀ j, j < 1 → isSeq (gl cs_Key y18 x5.toNat (4 + j)) = false ∧ isSeq (gl cs_Key z x5.toNat (4 + j)) = false))) ⟨List.length_set, gl_setp (fun j hj hn => match j, hj, hn with | 0, _, _ => rfl | 1, _, _ => rfl | 2, _, _ => rfl | 3, _, _ => rfl | 4, _, hn => absurd ⟨by decide, by decide⟩ hn) (lt_of_bound c20), (gl_atp (lt_of_bound c20)).symm, ⟨⟨rfl, tr⟩, tr⟩, (fun _ j hj => match j, hj with | 0, _ => ⟨rfl, rfl⟩)⟩), tr⟩ ?_
    refine thenQ_normal ?_
    refine AW.rA ⟨[(0, (.v (.one (.arr 0)))), (1, (vc (.int .i64 (IntKind.i64.wrap ((IntKind.i64.wrap ((IntKind.i64.wrap ((IntKind.i64.wrap ((IntKind.i64.wrap (x4 + (1 : Int))) + (1 : Int))) + (1 : Int))) + (1 : Int))) + (1 : Int)))))), (5, (vc (.int .i64 x5)))], [(0, (.arr true y21.length 5 (gl cs_Key y21)))]⟩ (Tt ∧ T2 Tt) [] [0, 1, 5] [0] ⟨tr, tr, tr, tr⟩ ?_
    refine blockQ_normal ?_
    refine thenQ_normal ?_
    refine AW.rA ⟨[(0, (.v (.one (.arr 0)))), (1, (vc (.int .i64 (IntKind.i64.wrap ((IntKind.i64.wrap ((IntKind.i64.wrap ((IntKind.i64.wrap ((IntKind.i64.wrap (x4 + (1 : Int))) + (1 : Int))) + (1 : Int))) + (1 : Int))) + (1 : Int)))))), (5, (vc (.int .i64 (IntKind.i64.wrap (x5 + (1 : Int))))))], [(0, (.arr true y21.length 5 (gl cs_Key y21)))]⟩ (Tt ∧ T2 Tt) [] [0, 1, 5] [0] ⟨tr, tr, tr, tr⟩ ?_
    exact loopQ_normal (k, (IntKind.i64.wrap ((IntKind.i64.wrap ((IntKind.i64.wrap ((IntKind.i64.wrap ((IntKind.i64.wrap (x4 + (1 : Int))) + (1 : Int))) + (1 : Int))) + (1 : Int))) + (1 : Int))), (IntKind.i64.wrap (x5 + (1 : Int))), y21) h (Nat.lt_succ_self k) (Sub.keep [0, 1, 5] [0] (by kernel_rfl) (by kernel_rfl))
  · refine AW.cond_f rfl b7 ?_
    refine AW.exit ?_
    refine thenQ_exit ?_
    refine loopQ_exit ?_
    refine blockQ_exit ?_
    refine thenQ_normal ?_
    refine AW.seq (AW.rA ⟨[(0, (.v (.one (.arr 0)))), (1, (vc (.int .i64 x4))), (4, (vc (.int .i64 x4)))], [(0, (.arr true x6.length 5 (gl cs_Key x6)))]⟩ (T2 Tt) [] [0, 1, 4] [0] ⟨tr, tr, tr⟩ (thenQ_normal ?_))
    refine AW.ret ?_
    obtain ⟨c23, h⟩ := chk_some h
    replace h := some_eq h
    subst h
    exact ⟨.inr rfl, retOK_of [(.one (.c (.int .i64 x4)))] (by kernel_rfl) ⟨⟨rfl, tr⟩, tr⟩ (of_decide_eq_true (by kernel_rfl)), by kernel_rfl, ⟨⟨c23, rfl, rfl⟩, tr, tr⟩⟩

/-! laws.markKeySS -/
def laws_markKeySS_l1 (K : Nat) (a0 : (List (List Key))) : Nat → Int → Int → (List (List Key)) → Option (Int × (List (List Key)))
  | 0, _, _, _ => none
  | k + 1, x4, x5, x6 => ite2 ((decide (x5 < (x6.length : Int)))) (chk (0 ≤ x5 ∧ x5 < (x6.length : Int)) ((laws_markKeyS K (x6.getD x5.toNat default) x4).bind fun v9 => laws_markKeySS_l1 K a0 k v9.1 (IntKind.i64.wrap (x5 + (1 : Int))) (x6.set x5.toNat v9.2))) (chk (x6.length = a0.length) (some (x4, x6)))

def laws_markKeySS (K : Nat) (a0 : (List (List Key))) (a1 : Int) : Option (Int × (List (List Key))) :=
  laws_markKeySS_l1 K a0 K a1 (0 : Int) a0

theorem ok_laws_markKeySS (K : Nat) (a0 : (List (List Key))) (a1 : Int) (o : (Int × (List (List Key)))) (h : laws_markKeySS K a0 a1 = some o) : MutOK Tryz.prog 27 [(.one (.mu (sl 1 (csL 5 cs_Key) a0) (sl 1 (csL 5 cs_Key) o.2))), (.one (.ro (.int .i64 a1)))] [.one (.int .i64 o.1)] := by
  refine mutOK_of_AW 1 Tryz.func27 rfl (by kernel_rfl) (Nat.le_of_ble_eq_true (by kernel_rfl)) (by kernel_rfl) (by kernel_rfl) ?_
  intro w0 K0 v0 s0
  unfold laws_markKeySS at h
  refine AW.seq (AW.rA ⟨[(0, (.v (.one (.arr 0)))), (1, (vc (.int .i64 a1)))], [(0, (.arr true a0.length 1 (gl (csL 5 cs_Key) a0)))]⟩ (Tt ∧ Tt) [] [0, 1] [0] ⟨tr, tr⟩ (thenQ_normal ?_))
  refine AW.seq ?_
  refine AW.seq (AW.rA ⟨[(0, (.v (.one (.arr 0)))), (1, (vc (.int .i64 a1))), (5, (vc (.int .i64 (0 : Int))))], [(0, (.arr true a0.length 1 (gl (csL 5 cs_Key) a0)))]⟩ (Tt ∧ Tt) [] [0, 1, 5] [0] ⟨tr, tr⟩ (thenQ_normal ?_))
  refine AW.block ?_
  refine AW.loopQ (σ := Nat × Int × Int × (List (List Key))) (fun p => ⟨[(0, (.v (.one (.arr 0)))), (1, (vc (.int .i64 p.2.1))), (5, (vc (.int .i64 p.2.2.1)))], [(0, (.arr true p.2.2.2.length 1 (gl (csL 5 cs_Key) p.2.2.2)))]⟩) (fun p => laws_markKeySS_l1 K a0 p.1 p.2.1 p.2.2.1 p.2.2.2 = some o) (fun p => p.1) (K, a1, (0 : Int), a0) h ?_
  clear h
  rintro ⟨k, x4, x5, x6⟩ h
  replace h : laws_markKeySS_l1 K a0 k x4 x5 x6 = some o := h
  show AW _ _ (⟨[(0, (.v (.one (.arr 0)))), (1, (vc (.int .i64 x4))), (5, (vc (.int .i64 x5)))], [(0, (.arr true x6.length 1 (gl (csL 5 cs_Key) x6)))]⟩ : St) _
  obtain _ | k := k
  · rw [laws_markKeySS_l1] at h; cases h
  rw [laws_markKeySS_l1] at h
  refine AW.seq ?_
  refine AW.seq (AW.rA ⟨[(0, (.v (.one (.arr 0)))), (1, (vc (.int .i64 x4))), (5, (vc (.int .i64 x5))), (9, (vc (.bool (decide (x5 < (x6.length : Int))))))], [(0, (.arr true x6.length 1 (gl (csL 5 cs_Key) x6)))]⟩ (T4 Tt) [] [0, 1, 5, 9] [0] ⟨tr, tr, tr, tr, tr⟩ (thenQ_normal ?_))
  rcases ite2_cases h with ⟨b7, h⟩ | ⟨b7, h⟩
  · refine AW.cond_t rfl b7 ?_
    refine AW.skip ?_
    refine thenQ_normal ?_
    refine AW.seq ?_
    refine AW.block ?_
    obtain ⟨c8, h⟩ := chk_some h
    obtain ⟨v9, e10, h⟩ := bind_some h
    refine AW.rA ⟨[(0, (.v (.one (.arr 0)))), (1, (vc (.int .i64 v9.1))), (5, (vc (.int .i64 x5)))], [(0, (.arr true (x6.set x5.toNat v9.2).length 1 (gl (csL 5 cs_Key) (x6.set x5.toNat v9.2))))]⟩ (T2 ((0 ≤ x5 ∧ x5 < (x6.length : Int)) ∧ T2 (((((x6.set x5.toNat v9.2).length = x6.length ∧ ((sl 5 cs_Key (x6.getD x5.toNat default)) : C) = gl (csL 5 cs_Key) x6 x5.toNat 0 ∧ gl (csL 5 cs_Key) (x6.set x5.toNat v9.2) x5.toNat 0 = ((sl 5 cs_Key v9.2) : C) ∧ isSeq (sl 5 cs_Key v9.2) = true ∧ SetOb x6.length 1 x5.toNat 0 1 (gl (csL 5 cs_Key) x6) (gl (csL 5 cs_Key) (x6.set x5.toNat v9.2))) ∧ (Eqc (.int .i64 x4)) ∧ Tt) ∧ MutOK Tryz.prog 55 [(.one (.mu (sl 5 cs_Key (x6.getD x5.toNat default)) (sl 5 cs_Key v9.2))), .one (.ro (.int .i64 x4))] [.one (.int .i64 v9.1)]) ∧ Tt ∧ Tt))) [.no, .no, .no, .no, .no, .callM [(.one (.mu (sl 5 cs_Key (x6.getD x5.toNat default)) (sl 5 cs_Key v9.2))), .one (.ro (.int .i64 x4))] [.one (.int .i64 v9.1)] [[.view]] (some ((x6.set x5.toNat v9.2).length, gl (csL 5 cs_Key) (x6.set x5.toNat v9.2)))] [0, 1, 5] [0] ⟨tr, tr, c8, tr, tr, ⟨⟨⟨List.length_set, rfl, gl_cell (lt_of_bound c8) rfl, rfl, gl_setp (fun j hj hn => match j, hj, hn with | 0, _, hn => absurd ⟨by decide, by decide⟩ hn) (lt_of_bound c8)⟩, rfl, tr⟩, ok_laws_markKeyS K (x6.getD x5.toNat default) x4 v9 e10⟩, tr, tr⟩ ?_
    refine blockQ_normal ?_
    refine thenQ_normal ?_
    refine AW.rA ⟨[(0, (.v (.one (.arr 0)))), (1, (vc (.int .i64 v9.1))), (5, (vc (.int .i64 (IntKind.i64.wrap (x5 + (1 : Int))))))], [(0, (.arr true (x6.set x5.toNat v9.2).length 1 (gl (csL 5 cs_Key) (x6.set x5.toNat v9.2))))]⟩ (Tt ∧ T2 Tt) [] [0, 1, 5] [0] ⟨tr, tr, tr, tr⟩ ?_
    exact loopQ_normal (k, v9.1, (IntKind.i64.wrap (x5 + (1 : Int))), (x6.set x5.toNat v9.2)) h (Nat.lt_succ_self k) (Sub.keep [0, 1, 5] [0] (by kernel_rfl) (by kernel_rfl))
  · refine AW.cond_f rfl b7 ?_
    refine AW.exit ?_
    refine thenQ_exit ?_
    refine loopQ_exit ?_
    refine blockQ_exit ?_
    refine thenQ_normal ?_
    refine AW.seq (AW.rA ⟨[(0, (.v (.one (.arr 0)))), (1, (vc (.int .i64 x4))), (4, (vc (.int .i64 x4)))], [(0, (.arr true x6.length 1 (gl (csL 5 cs_Key) x6)))]⟩ (T2 Tt) [] [0, 1, 4] [0] ⟨tr, tr, tr⟩ (thenQ_normal ?_))
    refine AW.ret ?_
    obtain ⟨c11, h⟩ := chk_some h
    replace h := some_eq h
    subst h
    exact ⟨.inr rfl, retOK_of [(.one (.c (.int .i64 x4)))] (by kernel_rfl) ⟨⟨rfl, tr⟩, tr⟩ (of_decide_eq_true (by kernel_rfl)), by kernel_rfl, ⟨⟨c11, rfl, rfl⟩, tr, tr⟩⟩

/-! laws.markRootKeyS -/
def laws_markRootKeyS_l1 (K : Nat) (a0 : (List RootKey)) : Nat → Int → Int → (List RootKey) → Option (Int × (List RootKey))
  | 0, _, _, _ => none
  | k + 1, x4, x5, x6 => ite2 ((decide (x5 < (x6.length : Int)))) (chk (0 ≤ x5 ∧ x5 < (x6.length : Int)) ((some (x6.set x5.toNat (RootKey.mk x4 ((x6.getD x5.toNat default).Place)))).bind fun y9 => chk (0 ≤ x5 ∧ x5 < (y9.length : Int)) ((some (y9.set x5.toNat (RootKey.mk ((y9.getD x5.toNat default).At) (Vector.mk (Fl.ofInt .f32 (IntKind.i64.wrap (x4 + (1 : Int)))) (((y9.getD x5.toNat default).Place).Y) (((y9.getD x5.toNat default).Place).Z))))).bind fun y12 => chk (0 ≤ x5 ∧ x5 < (y12.length : Int)) ((some (y12.set x5.toNat (RootKey.mk ((y12.getD x5.toNat default).At) (Vector.mk (((y12.getD x5.toNat default).Place).X) (Fl.ofInt .f32 (IntKind.i64.wrap ((IntKind.i64.wrap (x4 + (1 : Int))) + (1 : Int)))) (((y12.getD x5.toNat default).Place).Z))))).bind fun y15 => chk (0 ≤ x5 ∧ x5 < (y15.length : Int)) ((some (y15.set x5.toNat (RootKey.mk ((y15.getD x5.toNat default).At) (Vector.mk (((y15.getD x5.toNat default).Place).X) (((y15.getD x5.toNat default).Place).Y) (Fl.ofInt .f32 (IntKind.i64.wrap ((IntKind.i64.wrap ((IntKind.i64.wrap (x4 + (1 : Int))) + (1 : Int))) + (1 : Int)))))))).bind fun y18 => laws_markRootKeyS_l1 K a0 k (IntKind.i64.wrap ((IntKind.i64.wrap ((IntKind.i64.wrap ((IntKind.i64.wrap (x4 + (1 : Int))) + (1 : Int))) + (1 : Int))) + (1 : Int))) (IntKind.i64.wrap (x5 + (1 : Int))) y18))))) (chk (x6.length = a0.length) (some (x4, x6)))

def laws_markRootKeyS (K : Nat) (a0 : (List RootKey)) (a1 : Int) : Option (Int × (List RootKey)) :=
  laws_markRootKeyS_l1 K a0 K a1 (0 : Int) a0

theorem ok_laws_markRootKeyS (K : Nat) (a0 : (List RootKey)) (a1 : Int) (o : (Int × (List RootKey))) (h : laws_markRootKeyS K a0 a1 = some o) : MutOK Tryz.prog 28 [(.one (.mu (sl 4 cs_RootKey a0) (sl 4 cs_RootKey o.2))), (.one (.ro (.int .i64 a1)))] [.one (.int .i64 o.1)] := by
  refine mutOK_of_AW 1 Tryz.func28 rfl (by kernel_rfl) (Nat.le_of_ble_eq_true (by kernel_rfl)) (by kernel_rfl) (by kernel_rfl) ?_
  intro w0 K0 v0 s0
  unfold laws_markRootKeyS at h
  refine AW.seq (AW.rA ⟨[(0, (.v (.one (.arr 0)))), (1, (vc (.int .i64 a1)))], [(0, (.arr true a0.length 4 (gl cs_RootKey a0)))]⟩ (Tt ∧ Tt) [] [0, 1] [0] ⟨tr, tr⟩ (thenQ_normal ?_))
  refine AW.seq ?_
  refine AW.seq (AW.rA ⟨[(0, (.v (.one (.arr 0)))), (1, (vc (.int .i64 a1))), (5, (vc (.int .i64 (0 : Int))))], [(0, (.arr true a0.length 4 (gl cs_RootKey a0)))]⟩ (Tt ∧ Tt) [] [0, 1, 5] [0] ⟨tr, tr⟩ (thenQ_normal ?_))
  refine AW.block ?_
  refine AW.loopQ (σ := Nat × Int × Int × (List RootKey)) (fun p => ⟨[(0, (.v (.one (.arr 0)))), (1, (vc (.int .i64 p.2.1))), (5, (vc (.int .i64 p.2.2.1)))], [(0, (.arr true p.2.2.2.length 4 (gl cs_RootKey p.2.2.2)))]⟩) (fun p => laws_markRootKeyS_l1 K a0 p.1 p.2.1 p.2.2.1 p.2.2.2 = some o) (fun p => p.1) (K, a1, (0 : Int), a0) h ?_
  clear h
  rintro ⟨k, x4, x5, x6⟩ h
  replace h : laws_markRootKeyS_l1 K a0 k x4 x5 x6 = some o := h
  show AW _ _ (⟨[(0, (.v (.one (.arr 0)))), (1, (vc (.int .i64 x4))), (5, (vc (.int .i64 x5)))], [(0, (.arr true x6.length 4 (gl cs_RootKey x6)))]⟩ : St) _
  obtain _ | k := k
  · rw [laws_markRootKeyS_l1] at h; cases h
  rw [laws_markRootKeyS_l1] at h
  refine AW.seq ?_
  refine AW.seq (AW.rA ⟨[(0, (.v (.one (.arr 0)))), (1, (vc (.int .i64 x4))), (5, (vc (.int .i64 x5))), (9, (vc (.bool (decide (x5 < (x6.length : Int))))))], [(0, (.arr true x6.length 4 (gl cs_RootKey x6)))]⟩ (T4 Tt) [] [0, 1, 5, 9] [0] ⟨tr, tr, tr, tr, tr⟩ (thenQ_normal ?_))
  rcases ite2_cases h with ⟨b7, h⟩ | ⟨b7, h⟩
  · refine AW.cond_t rfl b7 ?_
    refine AW.skip ?_
    refine thenQ_normal ?_
    refine AW.seq ?_
    refine AW.block ?_
    refine AW.seq ?_
    obtain ⟨c8, h⟩ := chk_some h
    obtain ⟨y9, e10, h⟩ := bind_some h
    refine AW.rA ⟨[(0, (.v (.one (.arr 0)))), (1, (vc (.int .i64 x4))), (5, (vc (.int .i64 x5)))], [(0, (.arr true y9.length 4 (gl cs_RootKey y9)))]⟩ (Tt ∧ T2 ((0 ≤ x5 ∧ x5 < (x6.length : Int)) ∧ Tt ∧ (y9.length = x6.length ∧ SetOb x6.length 4 x5.toNat 0 1 (gl cs_RootKey x6) (gl cs_RootKey y9) ∧ ((List.range 1).map fun j => (cs_RootKey (RootKey.mk x4 ((x6.getD x5.toNat default).Place))).getD (0 + j) .nilptr) = ((List.range 1).map fun j => gl cs_RootKey y9 x5.toNat (0 + j)) ∧ ((((.int .i64 x4) : C) = (.int .i64 x4) ∧ Tt) ∧ Tt) ∧ (true = true → ∀ j, j < 1 → isSeq (gl cs_RootKey x6 x5.toNat (0 + j)) = false ∧ isSeq (gl cs_RootKey y9 x5.toNat (0 + j)) = false)) ∧ Tt)) [.no, .no, .no, .no, .no, .set y9.length (gl cs_RootKey y9) ((List.range 1).map fun j => (cs_RootKey (RootKey.mk x4 ((x6.getD x5.toNat default).Place))).getD (0 + j) .nilptr)] [0, 1, 5] [0] ⟨tr, tr, tr, c8, tr, (letP (some_eq e10) (fun z => (z.length = x6.length ∧ SetOb x6.length 4 x5.toNat 0 1 (gl cs_RootKey x6) (gl cs_RootKey z) ∧ ((List.range 1).map fun j => (cs_RootKey (RootKey.mk x4 ((x6.getD x5.toNat default).Place))).getD (0 + j) .nilptr) = ((List.range 1).map fun j => gl cs_RootKey z x5.toNat (0 + j)) ∧ ((((.int .i64 x4) : C) = (.int .i64 x4) ∧ Tt) ∧ Tt) ∧ (true = true → ∀ j, j < 1 → isSeq (gl cs_RootKey x6 x5.toNat (0 + j)) = false ∧ isSeq (gl cs_RootKey z x5.toNat (0 + j)) = false))) ⟨List.length_set, gl_setp (fun j hj hn => match j, hj, hn with | 0, _, hn => absurd ⟨by decide, by decide⟩ hn | 1, _, _ => rfl | 2, _, _ => rfl | 3, _, _ => rfl) (lt_of_bound c8), (gl_atp (lt_of_bound c8)).symm, ⟨⟨rfl, tr⟩, tr⟩, (fun _ j hj => match j, hj with | 0, _ => ⟨rfl, rfl⟩)⟩), tr⟩ ?_
    refine thenQ_normal ?_
    refine AW.seq (AW.rA ⟨[(0, (.v (.one (.arr 0)))), (1, (vc (.int .i64 (IntKind.i64.wrap (x4 + (1 : Int)))))), (5, (vc (.int .i64 x5)))], [(0, (.arr true y9.length 4 (gl cs_RootKey y9)))]⟩ (Tt ∧ T2 Tt) [] [0, 1, 5] [0] ⟨tr, tr, tr, tr⟩ (thenQ_normal ?_))
    refine AW.seq ?_
    obtain ⟨c11, h⟩ := chk_some h
    obtain ⟨y12, e13, h⟩ := bind_some h
    refine AW.rA ⟨[(0, (.v (.one (.arr 0)))), (1, (vc (.int .i64 (IntKind.i64.wrap (x4 + (1 : Int)))))), (5, (vc (.int .i64 x5)))], [(0, (.arr true y12.length 4 (gl cs_RootKey y12)))]⟩ (T4 ((0 ≤ x5 ∧ x5 < (y9.length : Int)) ∧ T2 ((y12.length = y9.length ∧ SetOb y9.length 4 x5.toNat 1 1 (gl cs_RootKey y9) (gl cs_RootKey y12) ∧ ((List.range 1).map fun j => (cs_RootKey (RootKey.mk ((y9.getD x5.toNat default).At) (Vector.mk (Fl.ofInt .f32 (IntKind.i64.wrap (x4 + (1 : Int)))) (((y9.getD x5.toNat default).Place).Y) (((y9.getD x5.toNat default).Place).Z)))).getD (1 + j) .nilptr) = ((List.range 1).map fun j => gl cs_RootKey y12 x5.toNat (1 + j)) ∧ ((((.flt .f32 (Fl.ofInt .f32 (IntKind.i64.wrap (x4 + (1 : Int)))).bits) : C) = (.flt .f32 (Fl.ofInt .f32 (IntKind.i64.wrap (x4 + (1 : Int)))).bits) ∧ Tt) ∧ Tt) ∧ (true = true → ∀ j, j < 1 → isSeq (gl cs_RootKey y9 x5.toNat (1 + j)) = false ∧ isSeq (gl cs_RootKey y12 x5.toNat (1 + j)) = false)) ∧ Tt))) [.no, .no, .no, .no, .no, .no, .no, .set y12.length (gl cs_RootKey y12) ((List.range 1).map fun j => (cs_RootKey (RootKey.mk ((y9.getD x5.toNat default).At) (Vector.mk (Fl.ofInt .f32 (IntKind.i64.wrap (x4 + (1 : Int)))) (((y9.getD x5.toNat default).Place).Y) (((y9.getD x5.toNat default).Place).Z)))).getD (1 + j) .nilptr)] [0, 1, 5] [0] ⟨tr, tr, tr, tr, c11, tr, tr, (letP (some_eq e13) (fun z => (z.length = y9.length ∧ SetOb y9.length 4 x5.toNat 1 1 (gl cs_RootKey y9) (gl cs_RootKey z) ∧ ((List.range 1).map fun j => (cs_RootKey (RootKey.mk ((y9.getD x5.toNat default).At) (Vector.mk (Fl.ofInt .f32 (IntKind.i64.wrap (x4 + (1 : Int)))) (((y9.getD x5.toNat default).Place).Y) (((y9.getD x5.toNat default).Place).Z)))).getD (1 + j) .nilptr) = ((List.range 1).map fun j => gl cs_RootKey z x5.toNat (1 + j)) ∧ ((((.flt .f32 (Fl.ofInt .f32 (IntKind.i64.wrap (x4 + (1 : Int)))).bits) : C) = (.flt .f32 (Fl.ofInt .f32 (IntKind.i64.wrap (x4 + (1 : Int)))).bits) ∧ Tt) ∧ Tt) ∧ (true = true → ∀ j, j < 1 → isSeq (gl cs_RootKey y9 x5.toNat (1 + j)) = false ∧ isSeq (gl cs_RootKey z x5.toNat (1 + j)) = false))) ⟨List.length_set, gl_setp (fun j hj hn => match j, hj, hn with | 0, _, _ => rfl | 1, _, hn => absurd ⟨by decide, by decide⟩ hn | 2, _, _ => rfl | 3, _, _ => rfl) (lt_of_bound c11), (gl_atp (lt_of_bound c11)).symm, ⟨⟨rfl, tr⟩, tr⟩, (fun _ j hj => match j, hj with | 0, _ => ⟨rfl, rfl⟩)⟩), tr⟩ ?_
    refine thenQ_normal ?_
    refine AW.seq (AW.rA ⟨[(0, (.v (.one (.arr 0)))), (1, (vc (.int .i64 (IntKind.i64.wrap ((IntKind.i64.wrap (x4 + (1 : Int))) + (1 : Int)))))), (5, (vc (.int .i64 x5)))], [(0, (.arr true y12.length 4 (gl cs_RootKey y12)))]⟩ (Tt ∧ T2 Tt) [] [0, 1, 5] [0] ⟨tr, tr, tr, tr⟩ (thenQ_normal ?_))
    refine AW.seq ?_
    obtain ⟨c14, h⟩ := chk_some h
    obtain ⟨y15, e16, h⟩ := bind_some h
    refine AW.rA ⟨[(0, (.v (.one (.arr 0)))), (1, (vc (.int .i64 (IntKind.i64.wrap ((IntKind.i64.wrap (x4 + (1 : Int))) + (1 : Int)))))), (5, (vc (.int .i64 x5)))], [(0, (.arr true y15.length 4 (gl cs_RootKey y15)))]⟩ (T4 ((0 ≤ x5 ∧ x5 < (y12.length : Int)) ∧ T2 ((y15.length = y12.length ∧ SetOb y12.length 4 x5.toNat 2 1 (gl cs_RootKey y12) (gl cs_RootKey y15) ∧ ((List.range 1).map fun j => (cs_RootKey (RootKey.mk ((y12.getD x5.toNat default).At) (Vector.mk (((y12.getD x5.toNat default).Place).X) (Fl.ofInt .f32 (IntKind.i64.wrap ((IntKind.i64.wrap (x4 + (1 : Int))) + (1 : Int)))) (((y12.getD x5.toNat default).Place).Z)))).getD (2 + j) .nilptr) = ((List.range 1).map fun j => gl cs_RootKey y15 x5.toNat (2 + j)) ∧ ((((.flt .f32 (Fl.ofInt .f32 (IntKind.i64.wrap ((IntKind.i64.wrap (x4 + (1 : Int))) + (1 : Int)))).bits) : C) = (.flt .f32 (Fl.ofInt .f32 (IntKind.i64.wrap ((IntKind.i64.wrap (x4 + (1 : Int))) + (1 : Int)))).bits) ∧ Tt) ∧ Tt) ∧ (true = true → ∀ j, j < 1 → isSeq (gl cs_RootKey y12 x5.toNat (2 + j)) = false ∧ isSeq (gl cs_RootKey y15 x5.toNat (2 + j)) = false)) ∧ Tt))) [.no, .no, .no, .no, .no, .no, .no, .set y15.length (gl cs_RootKey y15) ((List.range 1).map fun j => (cs_RootKey (RootKey.mk ((y12.getD x5.toNat default).At) (Vector.mk (((y12.getD x5.toNat default).Place).X) (Fl.ofInt .f32 (IntKind.i64.wrap ((IntKind.i64.wrap (x4 + (1 : Int))) + (1 : Int)))) (((y12.getD x5.toNat default).Place).Z)))).getD (2 + j) .nilptr)] [0, 1, 5] [0] ⟨tr, tr, tr, tr, c14, tr, tr, (letP (some_eq e16) (fun z => (z.length = y12.length ∧ SetOb y12.length 4 x5.toNat 2 1 (gl cs_RootKey y12) (gl cs_RootKey z) ∧ ((List.range 1).map fun j => (cs_RootKey (RootKey.mk ((y12.getD x5.toNat default).At) (Vector.mk (((y12.getD x5.toNat default).Place).X) (Fl.ofInt .f32 (IntKind.i64.wrap ((IntKind.i64.wrap (x4 + (1 : Int))) + (1 : Int)))) (((y12.getD x5.toNat default).Place).Z)))).getD (2 + j) .nilptr) = ((List.range 1).map fun j => gl cs_RootKey z x5.toNat (2 + j)) ∧ ((((.flt .f32 (Fl.ofInt .f32 (IntKind.i64.wrap ((IntKind.i64.wrap (x4 + (1 : Int))) + (1 : Int)))).bits) : C) = (.flt .f32 (Fl.ofInt .f32 (IntKind.i64.wrap ((IntKind.i64.wrap (x4 + (1 : Int))) + (1 : Int)))).bits) ∧ Tt) ∧ Tt) ∧ (true = true → ∀ j, j < 1 → isSeq (gl cs_RootKey y12 x5.toNat (2 + j)) = false ∧ isSeq (gl cs_RootKey z x5.toNat (2 + j)) = false))) ⟨List.length_set, gl_setp (fun j hj hn => match j, hj, hn with | 0, _, _ => rfl | 1, _, _ => rfl | 2, _, hn => absurd ⟨by decide, by decide⟩ hn | 3, _, _ => rfl) (lt_of_bound c14), (gl_atp (lt_of_bound c14)).symm, ⟨⟨rfl, tr⟩, tr⟩, (fun _ j hj => match j, hj with | 0, _ => ⟨rfl, rfl⟩)⟩), tr⟩ ?_
    refine thenQ_normal ?_
    refine AW.seq (AW.rA ⟨[(0, (.v (.one (.arr 0)))), (1, (vc (.int .i64 (IntKind.i64.wrap ((IntKind.i64.wrap ((IntKind.i64.wrap (x4 + (1 : Int))) + (1 : Int))) + (1 : Int)))))), (5, (vc (.int .i64 x5)))], [(0, (.arr true y15.length 4 (gl cs_RootKey y15)))]⟩ (Tt ∧ T2 Tt) [] [0, 1, 5] [0] ⟨tr, tr, tr, tr⟩ (thenQ_normal ?_))
    refine AW.seq ?_
    obtain ⟨c17, h⟩ := chk_some h
    obtain ⟨y18, e19, h⟩ := bind_some h
    refine AW.rA ⟨[(0, (.v (.one (.arr 0)))), (1, (vc (.int .i64 (IntKind.i64.wrap ((IntKind.i64.wrap ((IntKind.i64.wrap (x4 + (1 : Int))) + (1 : Int))) + (1 : Int)))))), (5, (vc (.int .i64 x5)))], [(0, (.arr true y18.length 4 (gl cs_RootKey y18)))]⟩ (T4 ((0 ≤ x5 ∧ x5 < (y15.length : Int)) ∧ T2 ((y18.length = y15.length ∧ SetOb y15.length 4 x5.toNat 3 1 (gl cs_RootKey y15) (gl cs_RootKey y18) ∧ ((List.range 1).map fun j => (cs_RootKey (RootKey.mk ((y15.getD x5.toNat default).At) (Vector.mk (((y15.getD x5.toNat default).Place).X) (((y15.getD x5.toNat default).Place).Y) (Fl.ofInt .f32 (IntKind.i64.wrap ((IntKind.i64.wrap ((IntKind.i64.wrap (x4 + (1 : Int))) + (1 : Int))) + (1 : Int))))))).getD (3 + j) .nilptr) = ((List.range 1).map fun j => gl cs_RootKey y18 x5.toNat (3 + j)) ∧ ((((.flt .f32 (Fl.ofInt .f32 (IntKind.i64.wrap ((IntKind.i64.wrap ((IntKind.i64.wrap (x4 + (1 : Int))) + (1 : Int))) + (1 : Int)))).bits) : C) = (.flt .f32 (Fl.ofInt .f32 (IntKind.i64.wrap ((IntKind.i64.wrap ((IntKind.i64.wrap (x4 + (1 : Int))) + (1 : Int))) + (1 : Int)))).bits) ∧ Tt) ∧ Tt) ∧ (true = true → ∀ j, j < 1 → isSeq (gl cs_RootKey y15 x5.toNat (3 + j)) = false ∧ isSeq (gl cs_RootKey y18 x5.toNat (3 + j)) = false)) ∧ Tt))) [.no, .no, .no, .no, .no, .no, .no, .set y18.length (gl cs_RootKey y18) ((List.range 1).map fun j => (cs_RootKey (RootKey.mk ((y15.getD x5.toNat default).At) (Vector.mk (((y15.getD x5.toNat default).Place).X) (((y15.getD x5.toNat default).Place).Y) (Fl.ofInt .f32 (IntKind.i64.wrap ((IntKind.i64.wrap ((IntKind.i64.wrap (x4 + (1 : Int))) + (1 : Int))) + (1 : Int))))))).getD (3 + j) .nilptr)] [0, 1, 5] [0] ⟨tr, tr, tr, tr, c17, tr, tr, (letP (some_eq e19) (fun z => (z.length = y15.length ∧ SetOb y15.length 4 x5.toNat 3 1 (gl cs_RootKey y15) (gl cs_RootKey z) ∧ ((List.range 1).map fun j => (cs_RootKey (RootKey.mk ((y15.getD x5.toNat default).At) (Vector.mk (((y15.getD x5.toNat default).Place).X) (((y15.getD x5.toNat default).Place).Y) (Fl.ofInt .f32 (IntKind.i64.wrap ((IntKind.i64.wrap ((IntKind.i64.wrap (x4 + (1 : Int))) + (1 : Int))) + (1 : Int))))))).getD (3 + j) .nilptr) = ((List.range 1).map fun j => gl cs_RootKey z x5.toNat (3 + j)) ∧ ((((.flt .f32 (Fl.ofInt .f32 (IntKind.i64.wrap ((IntKind.i64.wrap ((IntKind.i64.wrap (x4 + (1 : Int))) + (1 : Int))) + (1 : Int)))).bits) : C) = (.flt .f32 (Fl.ofInt .f32 (IntKind.i64.wrap ((IntKind.i64.wrap ((IntKind.i64.wrap (x4 + (1 : Int))) + (1 : Int))) + (1 : Int)))).bits) ∧ Tt) ∧ Tt) ∧ (true = true → ∀ j, j < 1 → isSeq (gl cs_RootKey y15 x5.toNat (3 + j)) = false ∧ isSeq (gl cs_RootKey z x5.toNat (3 + j)) = false))) ⟨List.length_set, gl_setp (fun j hj hn => match j, hj, hn with | 0, _, _ => rfl | 1, _, _ => rfl | 2, _, _ => rfl | 3, _, hn => absurd ⟨by decide, by decide⟩ hn) (lt_of_bound c17), (gl_atp (lt_of_bound c17)).symm, ⟨⟨rfl, tr⟩, tr⟩, (fun _ j hj => match j, hj with | 0, _ => ⟨rfl, rfl⟩)⟩), tr⟩ ?_
    refine thenQ_normal ?_
    refine AW.rA ⟨[(0, (.v (.one (.arr 0)))), (1, (vc (.int .i64 (IntKind.i64.wrap ((IntKind.i64.wrap ((IntKind.i64.wrap ((IntKind.i64.wrap (x4 + (1 : Int))) + (1 : Int))) + (1 : Int))) + (1 : Int)))))), (5, (vc (.int .i64 x5)))], [(0, (.arr true y18.length 4 (gl cs_RootKey y18)))]⟩ (Tt ∧ T2 Tt) [] [0, 1, 5] [0] ⟨tr, tr, tr, tr⟩ ?_
    refine blockQ_normal ?_
    refine thenQ_normal ?_
    refine AW.rA ⟨[(0, (.v (.one (.arr 0)))), (1, (vc (.int .i64 (IntKind.i64.wrap ((IntKind.i64.wrap ((IntKind.i64.wrap ((IntKind.i64.wrap (x4 + (1 : Int))) + (1 : Int))) + (1 : Int))) + (1 : Int)))))), (5, (vc (.int .i64 (IntKind.i64.wrap (x5 + (1 : Int))))))], [(0, (.arr true y18.length 4 (gl cs_RootKey y18)))]⟩ (Tt ∧ T2 Tt) [] [0, 1, 5] [0] ⟨tr, tr, tr, tr⟩ ?_
    exact loopQ_normal (k, (IntKind.i64.wrap ((IntKind.i64.wrap ((IntKind.i64.wrap ((IntKind.i64.wrap (x4 + (1 : Int))) + (1 : Int))) + (1 : Int))) + (1 : Int))), (IntKind.i64.wrap (x5 + (1 : Int))), y18) h (Nat.lt_succ_self k) (Sub.keep [0, 1, 5] [0] (by kernel_rfl) (by kernel_rfl))
  · refine AW.cond_f rfl b7 ?_
    refine AW.exit ?_
    refine thenQ_exit ?_
    refine loopQ_exit ?_
    refine blockQ_exit ?_
    refine thenQ_normal ?_
    refine AW.seq (AW.rA ⟨[(0, (.v (.one (.arr 0)))), (1, (vc (.int .i64 x4))), (4, (vc (.int .i64 x4)))], [(0, (.arr true x6.length 4 (gl cs_RootKey x6)))]⟩ (T2 Tt) [] [0, 1, 4] [0] ⟨tr, tr, tr⟩ (thenQ_normal ?_))
    refine AW.ret ?_
    obtain ⟨c20, h⟩ := chk_some h
    replace h := some_eq h
    subst h
    exact ⟨.inr rfl, retOK_of [(.one (.c (.int .i64 x4)))] (by kernel_rfl) ⟨⟨rfl, tr⟩, tr⟩ (of_decide_eq_true (by kernel_rfl)), by kernel_rfl, ⟨⟨c20, rfl, rfl⟩, tr, tr⟩⟩

/-! laws.markClip -/
def laws_markClip (K : Nat) (a0 : Clip) (a1 : Int) : Option (Int × (List (List Key)) × (List RootKey)) :=
  (laws_markKeySS K a0.Tracks a1).bind fun v1 => chk (v1.2.length = a0.Tracks.length) ((laws_markRootKeyS K a0.Roots v1.1).bind fun v4 => chk (v4.2.length = a0.Roots.length) (chk (v1.2.length = a0.Tracks.length) (chk (v4.2.length = a0.Roots.length) (some (v4.1, v1.2, v4.2)))))

theorem ok_laws_markClip (K : Nat) (a0 : Clip) (a1 : Int) (o : (Int × (List (List Key)) × (List RootKey))) (h : laws_markClip K a0 a1 = some o) : MutOK Tryz.prog 9 [(.agg [(.ro (.int .i64 a0.Length)), (.ro (.int .i64 a0.Kind)), (.mu (sl 1 (csL 5 cs_Key) a0.Tracks) (sl 1 (csL 5 cs_Key) o.2.1)), (.mu (sl 4 cs_RootKey a0.Roots) (sl 4 cs_RootKey o.2.2))]), (.one (.ro (.int .i64 a1)))] [.one (.int .i64 o.1)] := by
  refine mutOK_of_AW 2 Tryz.func9 rfl (by kernel_rfl) (Nat.le_of_ble_eq_true (by kernel_rfl)) (by kernel_rfl) (by kernel_rfl) ?_
  intro w0 K0 v0 s0
  unfold laws_markClip at h
  refine AW.seq (AW.rA ⟨[(0, (.v (.agg [(.c (.int .i64 a0.Length)), (.c (.int .i64 a0.Kind)), (.arr 0), (.arr 1)]))), (1, (vc (.int .i64 a1))), (2, (vp 2 0))], [(0, (.arr true a0.Tracks.length 1 (gl (csL 5 cs_Key) a0.Tracks))), (1, (.arr true a0.Roots.length 4 (gl cs_RootKey a0.Roots))), (2, (.box [(.c (.int .i64 a0.Length)), (.c (.int .i64 a0.Kind)), (.arr 0), (.arr 1)]))]⟩ (T2 Tt) [.box 2] [0, 1, 2] [0, 1, 2] ⟨tr, tr, tr⟩ (thenQ_normal ?_))
  refine AW.seq ?_
  obtain ⟨v1, e2, h⟩ := bind_some h
  obtain ⟨c3, h⟩ := chk_some h
  refine AW.rA ⟨[(0, (.v (.agg [(.c (.int .i64 a0.Length)), (.c (.int .i64 a0.Kind)), (.arr 0), (.arr 1)]))), (1, (vc (.int .i64 v1.1))), (2, (vp 2 0))], [(0, (.arr true v1.2.length 1 (gl (csL 5 cs_Key) v1.2))), (1, (.arr true a0.Roots.length 4 (gl cs_RootKey a0.Roots))), (2, (.box [(.c (.int .i64 a0.Length)), (.c (.int .i64 a0.Kind)), (.arr 0), (.arr 1)]))]⟩ (Tt ∧ T2 ((((((sl 1 (csL 5 cs_Key) a0.Tracks) : C) = (sl 1 (csL 5 cs_Key) a0.Tracks) ∧ v1.2.length = a0.Tracks.length ∧ 1 = 1 ∧ ∀ i j, i < a0.Tracks.length → j < 1 → isSeq (gl (csL 5 cs_Key) v1.2 i j) = isSeq (gl (csL 5 cs_Key) a0.Tracks i j)) ∧ (Eqc (.int .i64 a1)) ∧ Tt) ∧ MutOK Tryz.prog 27 [(.one (.mu (sl 1 (csL 5 cs_Key) a0.Tracks) (sl 1 (csL 5 cs_Key) v1.2))), .one (.ro (.int .i64 a1))] [.one (.int .i64 v1.1)]) ∧ Tt ∧ Tt)) [.no, .no, .no, .callM [(.one (.mu (sl 1 (csL 5 cs_Key) a0.Tracks) (sl 1 (csL 5 cs_Key) v1.2))), .one (.ro (.int .i64 a1))] [.one (.int .i64 v1.1)] [[.view]] none] [0, 1, 2] [0, 1, 2] ⟨tr, tr, tr, ⟨⟨⟨rfl, c3, rfl, gl_seq (sq_slice)⟩, rfl, tr⟩, ok_laws_markKeySS K a0.Tracks a1 v1 e2⟩, tr, tr⟩ ?_
  refine thenQ_normal ?_
  refine AW.seq ?_
  obtain ⟨v4, e5, h⟩ := bind_some h
  obtain ⟨c6, h⟩ := chk_some h
  refine AW.rA ⟨[(0, (.v (.agg [(.c (.int .i64 a0.Length)), (.c (.int .i64 a0.Kind)), (.arr 0), (.arr 1)]))), (1, (vc (.int .i64 v4.1)))], [(0, (.arr true v1.2.length 1 (gl (csL 5 cs_Key) v1.2))), (1, (.arr true v4.2.length 4 (gl cs_RootKey v4.2)))]⟩ (Tt ∧ T2 ((((((sl 4 cs_RootKey a0.Roots) : C) = (sl 4 cs_RootKey a0.Roots) ∧ v4.2.length = a0.Roots.length ∧ 4 = 4 ∧ ∀ i j, i < a0.Roots.length → j < 4 → isSeq (gl cs_RootKey v4.2 i j) = isSeq (gl cs_RootKey a0.Roots i j)) ∧ (Eqc (.int .i64 v1.1)) ∧ Tt) ∧ MutOK Tryz.prog 28 [(.one (.mu (sl 4 cs_RootKey a0.Roots) (sl 4 cs_RootKey v4.2))), .one (.ro (.int .i64 v1.1))] [.one (.int .i64 v4.1)]) ∧ Tt ∧ Tt)) [.no, .no, .no, .callM [(.one (.mu (sl 4 cs_RootKey a0.Roots) (sl 4 cs_RootKey v4.2))), .one (.ro (.int .i64 v1.1))] [.one (.int .i64 v4.1)] [[.view]] none] [0, 1] [0, 1] ⟨tr, tr, tr, ⟨⟨⟨rfl, c6, rfl, gl_seq sq_RootKey⟩, rfl, tr⟩, ok_laws_markRootKeyS K a0.Roots v1.1 v4 e5⟩, tr, tr⟩ ?_
  refine thenQ_normal ?_
  refine AW.seq (AW.rA ⟨[(0, (.v (.agg [(.c (.int .i64 a0.Length)), (.c (.int .i64 a0.Kind)), (.arr 0), (.arr 1)]))), (1, (vc (.int .i64 v4.1))), (4, (vc (.int .i64 v4.1)))], [(0, (.arr true v1.2.length 1 (gl (csL 5 cs_Key) v1.2))), (1, (.arr true v4.2.length 4 (gl cs_RootKey v4.2)))]⟩ (T2 Tt) [] [0, 1, 4] [0, 1] ⟨tr, tr, tr⟩ (thenQ_normal ?_))
  refine AW.ret ?_
  obtain ⟨c7, h⟩ := chk_some h
  obtain ⟨c8, h⟩ := chk_some h
  replace h := some_eq h
  subst h
  exact ⟨.inr rfl, retOK_of [(.one (.c (.int .i64 v4.1)))] (by kernel_rfl) ⟨⟨rfl, tr⟩, tr⟩ (of_decide_eq_true (by kernel_rfl)), by kernel_rfl, ⟨⟨tr, tr, ⟨c7, rfl, rfl⟩, ⟨c8, rfl, rfl⟩, tr⟩, tr, tr⟩⟩

/-! laws.heldKeyS -/
def laws_heldKeyS_l1 (K : Nat) (a0 : (List Key)) : Nat → Int → Int → Option (Int)
  | 0, _, _ => none
  | k + 1, x3, x4 => ite2 ((decide (x4 < (a0.length : Int)))) (chk (0 ≤ x4 ∧ x4 < (a0.length : Int)) (ite2 ((((a0.getD x4.toNat default).At) != x3)) (some ((-1) : Int)) (ite2 (((((a0.getD x4.toNat default).Turn).W).ne (Fl.ofInt .f32 (IntKind.i64.wrap (x3 + (1 : Int)))))) (some ((-1) : Int)) (ite2 (((((a0.getD x4.toNat default).Turn).X).ne (Fl.ofInt .f32 (IntKind.i64.wrap ((IntKind.i64.wrap (x3 + (1 : Int))) + (1 : Int)))))) (some ((-1) : Int)) (ite2 (((((a0.getD x4.toNat default).Turn).Y).ne (Fl.ofInt .f32 (IntKind.i64.wrap ((IntKind.i64.wrap ((IntKind.i64.wrap (x3 + (1 : Int))) + (1 : Int))) + (1 : Int)))))) (some ((-1) : Int)) (ite2 (((((a0.getD x4.toNat default).Turn).Z).ne (Fl.ofInt .f32 (IntKind.i64.wrap ((IntKind.i64.wrap ((IntKind.i64.wrap ((IntKind.i64.wrap (x3 + (1 : Int))) + (1 : Int))) + (1 : Int))) + (1 : Int)))))) (some ((-1) : Int)) (laws_heldKeyS_l1 K a0 k (IntKind.i64.wrap ((IntKind.i64.wrap ((IntKind.i64.wrap ((IntKind.i64.wrap ((IntKind.i64.wrap (x3 + (1 : Int))) + (1 : Int))) + (1 : Int))) + (1 : Int))) + (1 : Int))) (IntKind.i64.wrap (x4 + (1 : Int)))))))))) (some x3)

def laws_heldKeyS (K : Nat) (a0 : (List Key)) (a1 : Int) : Option (Int) :=
  laws_heldKeyS_l1 K a0 K a1 (0 : Int)

theorem ok_laws_heldKeyS (K : Nat) (a0 : (List Key)) (a1 : Int) (o : (Int)) (h : laws_heldKeyS K a0 a1 = some o) : CallOK Tryz.prog 56 [.one (sl 5 cs_Key a0), .one (.int .i64 a1)] [.one (.int .i64 o)] := by
  refine callOK_of_AW Tryz.func56 rfl (by kernel_rfl) (Nat.le_of_ble_eq_true (by kernel_rfl)) ?_
  intro w0
  unfold laws_heldKeyS at h
  refine AW.seq (AW.rA ⟨[(0, (vc (sl 5 cs_Key a0))), (1, (vc (.int .i64 a1)))], []⟩ (Tt ∧ Tt) [] [0, 1] [] ⟨tr, tr⟩ (thenQ_normal ?_))
  refine AW.seq ?_
  refine AW.seq (AW.rA ⟨[(0, (vc (sl 5 cs_Key a0))), (1, (vc (.int .i64 a1))), (5, (vc (.int .i64 (0 : Int))))], []⟩ (Tt ∧ Tt) [] [0, 1, 5] [] ⟨tr, tr⟩ (thenQ_normal ?_))
  refine AW.block ?_
  refine AW.loopQ (σ := Nat × Int × Int) (fun p => ⟨[(0, (vc (sl 5 cs_Key a0))), (1, (vc (.int .i64 p.2.1))), (5, (vc (.int .i64 p.2.2)))], []⟩) (fun p => laws_heldKeyS_l1 K a0 p.1 p.2.1 p.2.2 = some o) (fun p => p.1) (K, a1, (0 : Int)) h ?_
  clear h
  rintro ⟨k, x3, x4⟩ h
  replace h : laws_heldKeyS_l1 K a0 k x3 x4 = some o := h
  show AW _ _ (⟨[(0, (vc (sl 5 cs_Key a0))), (1, (vc (.int .i64 x3))), (5, (vc (.int .i64 x4)))], []⟩ : St) _
  obtain _ | k := k
  · rw [laws_heldKeyS_l1] at h; cases h
  rw [laws_heldKeyS_l1] at h
  refine AW.seq ?_
  refine AW.seq (AW.rA ⟨[(0, (vc (sl 5 cs_Key a0))), (1, (vc (.int .i64 x3))), (5, (vc (.int .i64 x4))), (9, (vc (.bool (decide (x4 < (a0.length : Int))))))], []⟩ (T4 Tt) [] [0, 1, 5, 9] [] ⟨tr, tr, tr, tr, tr⟩ (thenQ_normal ?_))
  rcases ite2_cases h with ⟨b5, h⟩ | ⟨b5, h⟩
  · refine AW.cond_t rfl b5 ?_
    refine AW.skip ?_
    refine thenQ_normal ?_
    refine AW.seq ?_
    refine AW.block ?_
    refine AW.seq ?_
    refine AW.seq ?_
    obtain ⟨c6, h⟩ := chk_some h
    refine AW.rA ⟨[(0, (vc (sl 5 cs_Key a0))), (1, (vc (.int .i64 x3))), (5, (vc (.int .i64 x4))), (18, (vc (.bool (((a0.getD x4.toNat default).At) != x3))))], []⟩ (T2 ((0 ≤ x4 ∧ x4 < (a0.length : Int)) ∧ T4 Tt)) [] [0, 1, 5, 18] [] ⟨tr, tr, c6, tr, tr, tr, tr, tr⟩ ?_
    refine thenQ_normal ?_
    rcases ite2_cases h with ⟨b7, h⟩ | ⟨b7, h⟩
    · refine AW.cond_t rfl b7 ?_
      refine AW.seq (AW.rA ⟨[(4, (vc (.int .i64 ((-1) : Int))))], []⟩ (Tt ∧ Tt) [] [4] [] ⟨tr, tr⟩ (thenQ_normal ?_))
      refine AW.ret ?_
      refine thenQ_ret ?_
      refine blockQ_ret ?_
      refine thenQ_ret ?_
      refine loopQ_ret ?_
      refine blockQ_ret ?_
      refine thenQ_ret ?_
      replace h := some_eq h
      subst h
      exact ⟨.inr rfl, retOK_of [(.one (.c (.int .i64 ((-1) : Int))))] (by kernel_rfl) ⟨⟨rfl, tr⟩, tr⟩ (of_decide_eq_true (by kernel_rfl))⟩
    · refine AW.cond_f rfl b7 ?_
      refine AW.skip ?_
      refine thenQ_normal ?_
      refine AW.seq (AW.rA ⟨[(0, (vc (sl 5 cs_Key a0))), (1, (vc (.int .i64 (IntKind.i64.wrap (x3 + (1 : Int)))))), (5, (vc (.int .i64 x4)))], []⟩ (Tt ∧ T2 Tt) [] [0, 1, 5] [] ⟨tr, tr, tr, tr⟩ (thenQ_normal ?_))
      refine AW.seq ?_
      refine AW.seq (AW.rA ⟨[(0, (vc (sl 5 cs_Key a0))), (1, (vc (.int .i64 (IntKind.i64.wrap (x3 + (1 : Int)))))), (5, (vc (.int .i64 x4))), (29, (vc (.bool ((((a0.getD x4.toNat default).Turn).W).ne (Fl.ofInt .f32 (IntKind.i64.wrap (x3 + (1 : Int))))))))], []⟩ (T2 ((0 ≤ x4 ∧ x4 < (a0.length : Int)) ∧ T2 (T4 Tt))) [] [0, 1, 5, 29] [] ⟨tr, tr, c6, tr, tr, tr, tr, tr, tr, tr⟩ (thenQ_normal ?_))
      rcases ite2_cases h with ⟨b8, h⟩ | ⟨b8, h⟩
      · refine AW.cond_t rfl b8 ?_
        refine AW.seq (AW.rA ⟨[(4, (vc (.int .i64 ((-1) : Int))))], []⟩ (Tt ∧ Tt) [] [4] [] ⟨tr, tr⟩ (thenQ_normal ?_))
        refine AW.ret ?_
        refine thenQ_ret ?_
        refine blockQ_ret ?_
        refine thenQ_ret ?_
        refine loopQ_ret ?_
        refine blockQ_ret ?_
        refine thenQ_ret ?_
        replace h := some_eq h
        subst h
        exact ⟨.inr rfl, retOK_of [(.one (.c (.int .i64 ((-1) : Int))))] (by kernel_rfl) ⟨⟨rfl, tr⟩, tr⟩ (of_decide_eq_true (by kernel_rfl))⟩
      · refine AW.cond_f rfl b8 ?_
        refine AW.skip ?_
        refine thenQ_normal ?_
        refine AW.seq (AW.rA ⟨[(0, (vc (sl 5 cs_Key a0))), (1, (vc (.int .i64 (IntKind.i64.wrap ((IntKind.i64.wrap (x3 + (1 : Int))) + (1 : Int)))))), (5, (vc (.int .i64 x4)))], []⟩ (Tt ∧ T2 Tt) [] [0, 1, 5] [] ⟨tr, tr, tr, tr⟩ (thenQ_normal ?_))
        refine AW.seq ?_
        refine AW.seq (AW.rA ⟨[(0, (vc (sl 5 cs_Key a0))), (1, (vc (.int .i64 (IntKind.i64.wrap ((IntKind.i64.wrap (x3 + (1 : Int))) + (1 : Int)))))), (5, (vc (.int .i64 x4))), (40, (vc (.bool ((((a0.getD x4.toNat default).Turn).X).ne (Fl.ofInt .f32 (IntKind.i64.wrap ((IntKind.i64.wrap (x3 + (1 : Int))) + (1 : Int))))))))], []⟩ (T2 ((0 ≤ x4 ∧ x4 < (a0.length : Int)) ∧ T2 (T4 Tt))) [] [0, 1, 5, 40] [] ⟨tr, tr, c6, tr, tr, tr, tr, tr, tr, tr⟩ (thenQ_normal ?_))
        rcases ite2_cases h with ⟨b9, h⟩ | ⟨b9, h⟩
        · refine AW.cond_t rfl b9 ?_
          refine AW.seq (AW.rA ⟨[(4, (vc (.int .i64 ((-1) : Int))))], []⟩ (Tt ∧ Tt) [] [4] [] ⟨tr, tr⟩ (thenQ_normal ?_))
          refine AW.ret ?_
          refine thenQ_ret ?_
          refine blockQ_ret ?_
          refine thenQ_ret ?_
          refine loopQ_ret ?_
          refine blockQ_ret ?_
          refine thenQ_ret ?_
          replace h := some_eq h
          subst h
          exact ⟨.inr rfl, retOK_of [(.one (.c (.int .i64 ((-1) : Int))))] (by kernel_rfl) ⟨⟨rfl, tr⟩, tr⟩ (of_decide_eq_true (by kernel_rfl))⟩
        · refine AW.cond_f rfl b9 ?_
          refine AW.skip ?_
          refine thenQ_normal ?_
          refine AW.seq (AW.rA ⟨[(0, (vc (sl 5 cs_Key a0))), (1, (vc (.int .i64 (IntKind.i64.wrap ((IntKind.i64.wrap ((IntKind.i64.wrap (x3 + (1 : Int))) + (1 : Int))) + (1 : Int)))))), (5, (vc (.int .i64 x4)))], []⟩ (Tt ∧ T2 Tt) [] [0, 1, 5] [] ⟨tr, tr, tr, tr⟩ (thenQ_normal ?_))
          refine AW.seq ?_
          refine AW.seq (AW.rA ⟨[(0, (vc (sl 5 cs_Key a0))), (1, (vc (.int .i64 (IntKind.i64.wrap ((IntKind.i64.wrap ((IntKind.i64.wrap (x3 + (1 : Int))) + (1 : Int))) + (1 : Int)))))), (5, (vc (.int .i64 x4))), (51, (vc (.bool ((((a0.getD x4.toNat default).Turn).Y).ne (Fl.ofInt .f32 (IntKind.i64.wrap ((IntKind.i64.wrap ((IntKind.i64.wrap (x3 + (1 : Int))) + (1 : Int))) + (1 : Int))))))))], []⟩ (T2 ((0 ≤ x4 ∧ x4 < (a0.length : Int)) ∧ T2 (T4 Tt))) [] [0, 1, 5, 51] [] ⟨tr, tr, c6, tr, tr, tr, tr, tr, tr, tr⟩ (thenQ_normal ?_))
          rcases ite2_cases h with ⟨b10, h⟩ | ⟨b10, h⟩
          · refine AW.cond_t rfl b10 ?_
            refine AW.seq (AW.rA ⟨[(4, (vc (.int .i64 ((-1) : Int))))], []⟩ (Tt ∧ Tt) [] [4] [] ⟨tr, tr⟩ (thenQ_normal ?_))
            refine AW.ret ?_
            refine thenQ_ret ?_
            refine blockQ_ret ?_
            refine thenQ_ret ?_
            refine loopQ_ret ?_
            refine blockQ_ret ?_
            refine thenQ_ret ?_
            replace h := some_eq h
            subst h
            exact ⟨.inr rfl, retOK_of [(.one (.c (.int .i64 ((-1) : Int))))] (by kernel_rfl) ⟨⟨rfl, tr⟩, tr⟩ (of_decide_eq_true (by kernel_rfl))⟩
          · refine AW.cond_f rfl b10 ?_
            refine AW.skip ?_
            refine thenQ_normal ?_
            refine AW.seq (AW.rA ⟨[(0, (vc (sl 5 cs_Key a0))), (1, (vc (.int .i64 (IntKind.i64.wrap ((IntKind.i64.wrap ((IntKind.i64.wrap ((IntKind.i64.wrap (x3 + (1 : Int))) + (1 : Int))) + (1 : Int))) + (1 : Int)))))), (5, (vc (.int .i64 x4)))], []⟩ (Tt ∧ T2 Tt) [] [0, 1, 5] [] ⟨tr, tr, tr, tr⟩ (thenQ_normal ?_))
            refine AW.seq ?_
            refine AW.seq (AW.rA ⟨[(0, (vc (sl 5 cs_Key a0))), (1, (vc (.int .i64 (IntKind.i64.wrap ((IntKind.i64.wrap ((IntKind.i64.wrap ((IntKind.i64.wrap (x3 + (1 : Int))) + (1 : Int))) + (1 : Int))) + (1 : Int)))))), (5, (vc (.int .i64 x4))), (62, (vc (.bool ((((a0.getD x4.toNat default).Turn).Z).ne (Fl.ofInt .f32 (IntKind.i64.wrap ((IntKind.i64.wrap ((IntKind.i64.wrap ((IntKind.i64.wrap (x3 + (1 : Int))) + (1 : Int))) + (1 : Int))) + (1 : Int))))))))], []⟩ (T2 ((0 ≤ x4 ∧ x4 < (a0.length : Int)) ∧ T2 (T4 Tt))) [] [0, 1, 5, 62] [] ⟨tr, tr, c6, tr, tr, tr, tr, tr, tr, tr⟩ (thenQ_normal ?_))
            rcases ite2_cases h with ⟨b11, h⟩ | ⟨b11, h⟩
            · refine AW.cond_t rfl b11 ?_
              refine AW.seq (AW.rA ⟨[(4, (vc (.int .i64 ((-1) : Int))))], []⟩ (Tt ∧ Tt) [] [4] [] ⟨tr, tr⟩ (thenQ_normal ?_))
              refine AW.ret ?_
              refine thenQ_ret ?_
              refine blockQ_ret ?_
              refine thenQ_ret ?_
              refine loopQ_ret ?_
              refine blockQ_ret ?_
              refine thenQ_ret ?_
              replace h := some_eq h
              subst h
              exact ⟨.inr rfl, retOK_of [(.one (.c (.int .i64 ((-1) : Int))))] (by kernel_rfl) ⟨⟨rfl, tr⟩, tr⟩ (of_decide_eq_true (by kernel_rfl))⟩
            · refine AW.cond_f rfl b11 ?_
              refine AW.skip ?_
              refine thenQ_normal ?_
              refine AW.rA ⟨[(0, (vc (sl 5 cs_Key a0))), (1, (vc (.int .i64 (IntKind.i64.wrap ((IntKind.i64.wrap ((IntKind.i64.wrap ((IntKind.i64.wrap ((IntKind.i64.wrap (x3 + (1 : Int))) + (1 : Int))) + (1 : Int))) + (1 : Int))) + (1 : Int)))))), (5, (vc (.int .i64 x4)))], []⟩ (Tt ∧ T2 Tt) [] [0, 1, 5] [] ⟨tr, tr, tr, tr⟩ ?_
              refine blockQ_normal ?_
              refine thenQ_normal ?_
              refine AW.rA ⟨[(0, (vc (sl 5 cs_Key a0))), (1, (vc (.int .i64 (IntKind.i64.wrap ((IntKind.i64.wrap ((IntKind.i64.wrap ((IntKind.i64.wrap ((IntKind.i64.wrap (x3 + (1 : Int))) + (1 : Int))) + (1 : Int))) + (1 : Int))) + (1 : Int)))))), (5, (vc (.int .i64 (IntKind.i64.wrap (x4 + (1 : Int))))))], []⟩ (Tt ∧ T2 Tt) [] [0, 1, 5] [] ⟨tr, tr, tr, tr⟩ ?_
              exact loopQ_normal (k, (IntKind.i64.wrap ((IntKind.i64.wrap ((IntKind.i64.wrap ((IntKind.i64.wrap ((IntKind.i64.wrap (x3 + (1 : Int))) + (1 : Int))) + (1 : Int))) + (1 : Int))) + (1 : Int))), (IntKind.i64.wrap (x4 + (1 : Int)))) h (Nat.lt_succ_self k) (Sub.keep [0, 1, 5] [] (by kernel_rfl) (by kernel_rfl))
  · refine AW.cond_f rfl b5 ?_
    refine AW.exit ?_
    refine thenQ_exit ?_
    refine loopQ_exit ?_
    refine blockQ_exit ?_
    refine thenQ_normal ?_
    refine AW.seq (AW.rA ⟨[(4, (vc (.int .i64 x3)))], []⟩ (T2 Tt) [] [4] [] ⟨tr, tr, tr⟩ (thenQ_normal ?_))
    refine AW.ret ?_
    replace h := some_eq h
    subst h
    exact ⟨.inr rfl, retOK_of [(.one (.c (.int .i64 x3)))] (by kernel_rfl) ⟨⟨rfl, tr⟩, tr⟩ (of_decide_eq_true (by kernel_rfl))⟩

/-! laws.heldKeySS -/
def laws_heldKeySS_l1 (K : Nat) (a0 : (List (List Key))) : Nat → Int → Int → Option (Int)
  | 0, _, _ => none
  | k + 1, x3, x4 => ite2 ((decide (x4 < (a0.length : Int)))) (chk (0 ≤ x4 ∧ x4 < (a0.length : Int)) ((laws_heldKeyS K (a0.getD x4.toNat default) x3).bind fun v7 => ite2 ((decide (v7 < (0 : Int)))) (some ((-1) : Int)) (laws_heldKeySS_l1 K a0 k v7 (IntKind.i64.wrap (x4 + (1 : Int)))))) (some x3)

def laws_heldKeySS (K : Nat) (a0 : (List (List Key))) (a1 : Int) : Option (Int) :=
  laws_heldKeySS_l1 K a0 K a1 (0 : Int)

theorem ok_laws_heldKeySS (K : Nat) (a0 : (List (List Key))) (a1 : Int) (o : (Int)) (h : laws_heldKeySS K a0 a1 = some o) : CallOK Tryz.prog 29 [.one (sl 1 (csL 5 cs_Key) a0), .one (.int .i64 a1)] [.one (.int .i64 o)] := by
  refine callOK_of_AW Tryz.func29 rfl (by kernel_rfl) (Nat.le_of_ble_eq_true (by kernel_rfl)) ?_
  intro w0
  unfold laws_heldKeySS at h
  refine AW.seq (AW.rA ⟨[(0, (vc (sl 1 (csL 5 cs_Key) a0))), (1, (vc (.int .i64 a1)))], []⟩ (Tt ∧ Tt) [] [0, 1] [] ⟨tr, tr⟩ (thenQ_normal ?_))
  refine AW.seq ?_
  refine AW.seq (AW.rA ⟨[(0, (vc (sl 1 (csL 5 cs_Key) a0))), (1, (vc (.int .i64 a1))), (5, (vc (.int .i64 (0 : Int))))], []⟩ (Tt ∧ Tt) [] [0, 1, 5] [] ⟨tr, tr⟩ (thenQ_normal ?_))
  refine AW.block ?_
  refine AW.loopQ (σ := Nat × Int × Int) (fun p => ⟨[(0, (vc (sl 1 (csL 5 cs_Key) a0))), (1, (vc (.int .i64 p.2.1))), (5, (vc (.int .i64 p.2.2)))], []⟩) (fun p => laws_heldKeySS_l1 K a0 p.1 p.2.1 p.2.2 = some o) (fun p => p.1) (K, a1, (0 : Int)) h ?_
  clear h
  rintro ⟨k, x3, x4⟩ h
  replace h : laws_heldKeySS_l1 K a0 k x3 x4 = some o := h
  show AW _ _ (⟨[(0, (vc (sl 1 (csL 5 cs_Key) a0))), (1, (vc (.int .i64 x3))), (5, (vc (.int .i64 x4)))], []⟩ : St) _
  obtain _ | k := k
  · rw [laws_heldKeySS_l1] at h; cases h
  rw [laws_heldKeySS_l1] at h
  refine AW.seq ?_
  refine AW.seq (AW.rA ⟨[(0, (vc (sl 1 (csL 5 cs_Key) a0))), (1, (vc (.int .i64 x3))), (5, (vc (.int .i64 x4))), (9, (vc (.bool (decide (x4 < (a0.length : Int))))))], []⟩ (T4 Tt) [] [0, 1, 5, 9] [] ⟨tr, tr, tr, tr, tr⟩ (thenQ_normal ?_))
  rcases ite2_cases h with ⟨b5, h⟩ | ⟨b5, h⟩
  · refine AW.cond_t rfl b5 ?_
    refine AW.skip ?_
    refine thenQ_normal ?_
    refine AW.seq ?_
    refine AW.block ?_
    refine AW.seq ?_
    obtain ⟨c6, h⟩ := chk_some h
    obtain ⟨v7, e8, h⟩ := bind_some h
    refine AW.rA ⟨[(0, (vc (sl 1 (csL 5 cs_Key) a0))), (1, (vc (.int .i64 v7))), (5, (vc (.int .i64 x4)))], []⟩ (T2 ((0 ≤ x4 ∧ x4 < (a0.length : Int)) ∧ T2 ((((Eqc (sl 5 cs_Key (a0.getD x4.toNat default))) ∧ (Eqc (.int .i64 x3)) ∧ Tt) ∧ CallOK Tryz.prog 56 [.one (sl 5 cs_Key (a0.getD x4.toNat default)), .one (.int .i64 x3)] [.one (.int .i64 v7)]) ∧ Tt ∧ Tt))) [.no, .no, .no, .no, .no, .call [.one (sl 5 cs_Key (a0.getD x4.toNat default)), .one (.int .i64 x3)] [.one (.int .i64 v7)] [[.view]]] [0, 1, 5] [] ⟨tr, tr, c6, tr, tr, ⟨⟨rfl, rfl, tr⟩, ok_laws_heldKeyS K (a0.getD x4.toNat default) x3 v7 e8⟩, tr, tr⟩ ?_
    refine thenQ_normal ?_
    refine AW.seq (AW.rA ⟨[(0, (vc (sl 1 (csL 5 cs_Key) a0))), (1, (vc (.int .i64 v7))), (5, (vc (.int .i64 x4))), (19, (vc (.bool (decide (v7 < (0 : Int))))))], []⟩ (T2 Tt) [] [0, 1, 5, 19] [] ⟨tr, tr, tr⟩ (thenQ_normal ?_))
    rcases ite2_cases h with ⟨b9, h⟩ | ⟨b9, h⟩
    · refine AW.cond_t rfl b9 ?_
      refine AW.seq (AW.rA ⟨[(4, (vc (.int .i64 ((-1) : Int))))], []⟩ (Tt ∧ Tt) [] [4] [] ⟨tr, tr⟩ (thenQ_normal ?_))
      refine AW.ret ?_
      refine blockQ_ret ?_
      refine thenQ_ret ?_
      refine loopQ_ret ?_
      refine blockQ_ret ?_
      refine thenQ_ret ?_
      replace h := some_eq h
      subst h
      exact ⟨.inr rfl, retOK_of [(.one (.c (.int .i64 ((-1) : Int))))] (by kernel_rfl) ⟨⟨rfl, tr⟩, tr⟩ (of_decide_eq_true (by kernel_rfl))⟩
    · refine AW.cond_f rfl b9 ?_
      refine AW.skip ?_
      refine blockQ_normal ?_
      refine thenQ_normal ?_
      refine AW.rA ⟨[(0, (vc (sl 1 (csL 5 cs_Key) a0))), (1, (vc (.int .i64 v7))), (5, (vc (.int .i64 (IntKind.i64.wrap (x4 + (1 : Int))))))], []⟩ (Tt ∧ T2 Tt) [] [0, 1, 5] [] ⟨tr, tr, tr, tr⟩ ?_
      exact loopQ_normal (k, v7, (IntKind.i64.wrap (x4 + (1 : Int)))) h (Nat.lt_succ_self k) (Sub.keep [0, 1, 5] [] (by kernel_rfl) (by kernel_rfl))
  · refine AW.cond_f rfl b5 ?_
    refine AW.exit ?_
    refine thenQ_exit ?_
    refine loopQ_exit ?_
    refine blockQ_exit ?_
    refine thenQ_normal ?_
    refine AW.seq (AW.rA ⟨[(4, (vc (.int .i64 x3)))], []⟩ (T2 Tt) [] [4] [] ⟨tr, tr, tr⟩ (thenQ_normal ?_))
    refine AW.ret ?_
    replace h := some_eq h
    subst h
    exact ⟨.inr rfl, retOK_of [(.one (.c (.int .i64 x3)))] (by kernel_rfl) ⟨⟨rfl, tr⟩, tr⟩ (of_decide_eq_true (by kernel_rfl))⟩

/-! laws.heldRootKeyS -/
def laws_heldRootKeyS_l1 (K : Nat) (a0 : (List RootKey)) : Nat → Int → Int → Option (Int)
  | 0, _, _ => none
  | k + 1, x3, x4 => ite2 ((decide (x4 < (a0.length : Int)))) (chk (0 ≤ x4 ∧ x4 < (a0.length : Int)) (ite2 ((((a0.getD x4.toNat default).At) != x3)) (some ((-1) : Int)) (ite2 (((((a0.getD x4.toNat default).Place).X).ne (Fl.ofInt .f32 (IntKind.i64.wrap (x3 + (1 : Int)))))) (some ((-1) : Int)) (ite2 (((((a0.getD x4.toNat default).Place).Y).ne (Fl.ofInt .f32 (IntKind.i64.wrap ((IntKind.i64.wrap (x3 + (1 : Int))) + (1 : Int)))))) (some ((-1) : Int)) (ite2 (((((a0.getD x4.toNat default).Place).Z).ne (Fl.ofInt .f32 (IntKind.i64.wrap ((IntKind.i64.wrap ((IntKind.i64.wrap (x3 + (1 : Int))) + (1 : Int))) + (1 : Int)))))) (some ((-1) : Int)) (laws_heldRootKeyS_l1 K a0 k (IntKind.i64.wrap ((IntKind.i64.wrap ((IntKind.i64.wrap ((IntKind.i64.wrap (x3 + (1 : Int))) + (1 : Int))) + (1 : Int))) + (1 : Int))) (IntKind.i64.wrap (x4 + (1 : Int))))))))) (some x3)

def laws_heldRootKeyS (K : Nat) (a0 : (List RootKey)) (a1 : Int) : Option (Int) :=
  laws_heldRootKeyS_l1 K a0 K a1 (0 : Int)

theorem ok_laws_heldRootKeyS (K : Nat) (a0 : (List RootKey)) (a1 : Int) (o : (Int)) (h : laws_heldRootKeyS K a0 a1 = some o) : CallOK Tryz.prog 30 [.one (sl 4 cs_RootKey a0), .one (.int .i64 a1)] [.one (.int .i64 o)] := by
  refine callOK_of_AW Tryz.func30 rfl (by kernel_rfl) (Nat.le_of_ble_eq_true (by kernel_rfl)) ?_
  intro w0
  unfold laws_heldRootKeyS at h
  refine AW.seq (AW.rA ⟨[(0, (vc (sl 4 cs_RootKey a0))), (1, (vc (.int .i64 a1)))], []⟩ (Tt ∧ Tt) [] [0, 1] [] ⟨tr, tr⟩ (thenQ_normal ?_))
  refine AW.seq ?_
  refine AW.seq (AW.rA ⟨[(0, (vc (sl 4 cs_RootKey a0))), (1, (vc (.int .i64 a1))), (5, (vc (.int .i64 (0 : Int))))], []⟩ (Tt ∧ Tt) [] [0, 1, 5] [] ⟨tr, tr⟩ (thenQ_normal ?_))
  refine AW.block ?_
  refine AW.loopQ (σ := Nat × Int × Int) (fun p => ⟨[(0, (vc (sl 4 cs_RootKey a0))), (1, (vc (.int .i64 p.2.1))), (5, (vc (.int .i64 p.2.2)))], []⟩) (fun p => laws_heldRootKeyS_l1 K a0 p.1 p.2.1 p.2.2 = some o) (fun p => p.1) (K, a1, (0 : Int)) h ?_
  clear h
  rintro ⟨k, x3, x4⟩ h
  replace h : laws_heldRootKeyS_l1 K a0 k x3 x4 = some o := h
  show AW _ _ (⟨[(0, (vc (sl 4 cs_RootKey a0))), (1, (vc (.int .i64 x3))), (5, (vc (.int .i64 x4)))], []⟩ : St) _
  obtain _ | k := k
  · rw [laws_heldRootKeyS_l1] at h; cases h
  rw [laws_heldRootKeyS_l1] at h
  refine AW.seq ?_
  refine AW.seq (AW.rA ⟨[(0, (vc (sl 4 cs_RootKey a0))), (1, (vc (.int .i64 x3))), (5, (vc (.int .i64 x4))), (9, (vc (.bool (decide (x4 < (a0.length : Int))))))], []⟩ (T4 Tt) [] [0, 1, 5, 9] [] ⟨tr, tr, tr, tr, tr⟩ (thenQ_normal ?_))
  rcases ite2_cases h with ⟨b5, h⟩ | ⟨b5, h⟩
  · refine AW.cond_t rfl b5 ?_
    refine AW.skip ?_
    refine thenQ_normal ?_
    refine AW.seq ?_
    refine AW.block ?_
    refine AW.seq ?_
    refine AW.seq ?_
    obtain ⟨c6, h⟩ := chk_some h
    refine AW.rA ⟨[(0, (vc (sl 4 cs_RootKey a0))), (1, (vc (.int .i64 x3))), (5, (vc (.int .i64 x4))), (18, (vc (.bool (((a0.getD x4.toNat default).At) != x3))))], []⟩ (T2 ((0 ≤ x4 ∧ x4 < (a0.length : Int)) ∧ T4 Tt)) [] [0, 1, 5, 18] [] ⟨tr, tr, c6, tr, tr, tr, tr, tr⟩ ?_
    refine thenQ_normal ?_
    rcases ite2_cases h with ⟨b7, h⟩ | ⟨b7, h⟩
    · refine AW.cond_t rfl b7 ?_
      refine AW.seq (AW.rA ⟨[(4, (vc (.int .i64 ((-1) : Int))))], []⟩ (Tt ∧ Tt) [] [4] [] ⟨tr, tr⟩ (thenQ_normal ?_))
      refine AW.ret ?_
      refine thenQ_ret ?_
      refine blockQ_ret ?_
      refine thenQ_ret ?_
      refine loopQ_ret ?_
      refine blockQ_ret ?_
      refine thenQ_ret ?_
      replace h := some_eq h
      subst h
      exact ⟨.inr rfl, retOK_of [(.one (.c (.int .i64 ((-1) : Int))))] (by kernel_rfl) ⟨⟨rfl, tr⟩, tr⟩ (of_decide_eq_true (by kernel_rfl))⟩
    · refine AW.cond_f rfl b7 ?_
      refine AW.skip ?_
      refine thenQ_normal ?_
      refine AW.seq (AW.rA ⟨[(0, (vc (sl 4 cs_RootKey a0))), (1, (vc (.int .i64 (IntKind.i64.wrap (x3 + (1 : Int)))))), (5, (vc (.int .i64 x4)))], []⟩ (Tt ∧ T2 Tt) [] [0, 1, 5] [] ⟨tr, tr, tr, tr⟩ (thenQ_normal ?_))
      refine AW.seq ?_
      refine AW.seq (AW.rA ⟨[(0, (vc (sl 4 cs_RootKey a0))), (1, (vc (.int .i64 (IntKind.i64.wrap (x3 + (1 : Int)))))), (5, (vc (.int .i64 x4))), (29, (vc (.bool ((((a0.getD x4.toNat default).Place).X).ne (Fl.ofInt .f32 (IntKind.i64.wrap (x3 + (1 : Int))))))))], []⟩ (T2 ((0 ≤ x4 ∧ x4 < (a0.length : Int)) ∧ T2 (T4 Tt))) [] [0, 1, 5, 29] [] ⟨tr, tr, c6, tr, tr, tr, tr, tr, tr, tr⟩ (thenQ_normal ?_))
      rcases ite2_cases h with ⟨b8, h⟩ | ⟨b8, h⟩
      · refine AW.cond_t rfl b8 ?_
        refine AW.seq (AW.rA ⟨[(4, (vc (.int .i64 ((-1) : Int))))], []⟩ (Tt ∧ Tt) [] [4] [] ⟨tr, tr⟩ (thenQ_normal ?_))
        refine AW.ret ?_
        refine thenQ_ret ?_
        refine blockQ_ret ?_
        refine thenQ_ret ?_
        refine loopQ_ret ?_
        refine blockQ_ret ?_
        refine thenQ_ret ?_
        replace h := some_eq h
        subst h
        exact ⟨.inr rfl, retOK_of [(.one (.c (.int .i64 ((-1) : Int))))] (by kernel_rfl) ⟨⟨rfl, tr⟩, tr⟩ (of_decide_eq_true (by kernel_rfl))⟩
      · refine AW.cond_f rfl b8 ?_
        refine AW.skip ?_
        refine thenQ_normal ?_
        refine AW.seq (AW.rA ⟨[(0, (vc (sl 4 cs_RootKey a0))), (1, (vc (.int .i64 (IntKind.i64.wrap ((IntKind.i64.wrap (x3 + (1 : Int))) + (1 : Int)))))), (5, (vc (.int .i64 x4)))], []⟩ (Tt ∧ T2 Tt) [] [0, 1, 5] [] ⟨tr, tr, tr, tr⟩ (thenQ_normal ?_))
        refine AW.seq ?_
        refine AW.seq (AW.rA ⟨[(0, (vc (sl 4 cs_RootKey a0))), (1, (vc (.int .i64 (IntKind.i64.wrap ((IntKind.i64.wrap (x3 + (1 : Int))) + (1 : Int)))))), (5, (vc (.int .i64 x4))), (40, (vc (.bool ((((a0.getD x4.toNat default).Place).Y).ne (Fl.ofInt .f32 (IntKind.i64.wrap ((IntKind.i64.wrap (x3 + (1 : Int))) + (1 : Int))))))))], []⟩ (T2 ((0 ≤ x4 ∧ x4 < (a0.length : Int)) ∧ T2 (T4 Tt))) [] [0, 1, 5, 40] [] ⟨tr, tr, c6, tr, tr, tr, tr, tr, tr, tr⟩ (thenQ_normal ?_))
        rcases ite2_cases h with ⟨b9, h⟩ | ⟨b9, h⟩
        · refine AW.cond_t rfl b9 ?_
          refine AW.seq (AW.rA ⟨[(4, (vc (.int .i64 ((-1) : Int))))], []⟩ (Tt ∧ Tt) [] [4] [] ⟨tr, tr⟩ (thenQ_normal ?_))
          refine AW.ret ?_
          refine thenQ_ret ?_
          refine blockQ_ret ?_
          refine thenQ_ret ?_
          refine loopQ_ret ?_
          refine blockQ_ret ?_
          refine thenQ_ret ?_
          replace h := some_eq h
          subst h
          exact ⟨.inr rfl, retOK_of [(.one (.c (.int .i64 ((-1) : Int))))] (by kernel_rfl) ⟨⟨rfl, tr⟩, tr⟩ (of_decide_eq_true (by kernel_rfl))⟩
        · refine AW.cond_f rfl b9 ?_
          refine AW.skip ?_
          refine thenQ_normal ?_
          refine AW.seq (AW.rA ⟨[(0, (vc (sl 4 cs_RootKey a0))), (1, (vc (.int .i64 (IntKind.i64.wrap ((IntKind.i64.wrap ((IntKind.i64.wrap (x3 + (1 : Int))) + (1 : Int))) + (1 : Int)))))), (5, (vc (.int .i64 x4)))], []⟩ (Tt ∧ T2 Tt) [] [0, 1, 5] [] ⟨tr, tr, tr, tr⟩ (thenQ_normal ?_))
          refine AW.seq ?_
          refine AW.seq (AW.rA ⟨[(0, (vc (sl 4 cs_RootKey a0))), (1, (vc (.int .i64 (IntKind.i64.wrap ((IntKind.i64.wrap ((IntKind.i64.wrap (x3 + (1 : Int))) + (1 : Int))) + (1 : Int)))))), (5, (vc (.int .i64 x4))), (51, (vc (.bool ((((a0.getD x4.toNat default).Place).Z).ne (Fl.ofInt .f32 (IntKind.i64.wrap ((IntKind.i64.wrap ((IntKind.i64.wrap (x3 + (1 : Int))) + (1 : Int))) + (1 : Int))))))))], []⟩ (T2 ((0 ≤ x4 ∧ x4 < (a0.length : Int)) ∧ T2 (T4 Tt))) [] [0, 1, 5, 51] [] ⟨tr, tr, c6, tr, tr, tr, tr, tr, tr, tr⟩ (thenQ_normal ?_))
          rcases ite2_cases h with ⟨b10, h⟩ | ⟨b10, h⟩
          · refine AW.cond_t rfl b10 ?_
            refine AW.seq (AW.rA ⟨[(4, (vc (.int .i64 ((-1) : Int))))], []⟩ (Tt ∧ Tt) [] [4] [] ⟨tr, tr⟩ (thenQ_normal ?_))
            refine AW.ret ?_
            refine thenQ_ret ?_
            refine blockQ_ret ?_
            refine thenQ_ret ?_
            refine loopQ_ret ?_
            refine blockQ_ret ?_
            refine thenQ_ret ?_
            replace h := some_eq h
            subst h
            exact ⟨.inr rfl, retOK_of [(.one (.c (.int .i64 ((-1) : Int))))] (by kernel_rfl) ⟨⟨rfl, tr⟩, tr⟩ (of_decide_eq_true (by kernel_rfl))⟩
          · refine AW.cond_f rfl b10 ?_
            refine AW.skip ?_
            refine thenQ_normal ?_
            refine AW.rA ⟨[(0, (vc (sl 4 cs_RootKey a0))), (1, (vc (.int .i64 (IntKind.i64.wrap ((IntKind.i64.wrap ((IntKind.i64.wrap ((IntKind.i64.wrap (x3 + (1 : Int))) + (1 : Int))) + (1 : Int))) + (1 : Int)))))), (5, (vc (.int .i64 x4)))], []⟩ (Tt ∧ T2 Tt) [] [0, 1, 5] [] ⟨tr, tr, tr, tr⟩ ?_
            refine blockQ_normal ?_
            refine thenQ_normal ?_
            refine AW.rA ⟨[(0, (vc (sl 4 cs_RootKey a0))), (1, (vc (.int .i64 (IntKind.i64.wrap ((IntKind.i64.wrap ((IntKind.i64.wrap ((IntKind.i64.wrap (x3 + (1 : Int))) + (1 : Int))) + (1 : Int))) + (1 : Int)))))), (5, (vc (.int .i64 (IntKind.i64.wrap (x4 + (1 : Int))))))], []⟩ (Tt ∧ T2 Tt) [] [0, 1, 5] [] ⟨tr, tr, tr, tr⟩ ?_
            exact loopQ_normal (k, (IntKind.i64.wrap ((IntKind.i64.wrap ((IntKind.i64.wrap ((IntKind.i64.wrap (x3 + (1 : Int))) + (1 : Int))) + (1 : Int))) + (1 : Int))), (IntKind.i64.wrap (x4 + (1 : Int)))) h (Nat.lt_succ_self k) (Sub.keep [0, 1, 5] [] (by kernel_rfl) (by kernel_rfl))
  · refine AW.cond_f rfl b5 ?_
    refine AW.exit ?_
    refine thenQ_exit ?_
    refine loopQ_exit ?_
    refine blockQ_exit ?_
    refine thenQ_normal ?_
    refine AW.seq (AW.rA ⟨[(4, (vc (.int .i64 x3)))], []⟩ (T2 Tt) [] [4] [] ⟨tr, tr, tr⟩ (thenQ_normal ?_))
    refine AW.ret ?_
    replace h := some_eq h
    subst h
    exact ⟨.inr rfl, retOK_of [(.one (.c (.int .i64 x3)))] (by kernel_rfl) ⟨⟨rfl, tr⟩, tr⟩ (of_decide_eq_true (by kernel_rfl))⟩

/-! laws.heldClip -/
def laws_heldClip (K : Nat) (a0 : Clip) (a1 : Int) : Option (Int) :=
  (laws_heldKeySS K a0.Tracks a1).bind fun v1 => ite2 ((decide (v1 < (0 : Int)))) (some ((-1) : Int)) ((laws_heldRootKeyS K a0.Roots v1).bind fun v4 => ite2 ((decide (v4 < (0 : Int)))) (some ((-1) : Int)) (some v4))

theorem ok_laws_heldClip (K : Nat) (a0 : Clip) (a1 : Int) (o : (Int)) (h : laws_heldClip K a0 a1 = some o) : CallOK Tryz.prog 10 [.agg (cs_Clip a0), .one (.int .i64 a1)] [.one (.int .i64 o)] := by
  refine callOK_of_AW Tryz.func10 rfl (by kernel_rfl) (Nat.le_of_ble_eq_true (by kernel_rfl)) ?_
  intro w0
  unfold laws_heldClip at h
  refine AW.seq (AW.rA ⟨[(1, (vc (.int .i64 a1))), (2, (vp 1 0))], [(1, (.box [(.c (.int .i64 a0.Length)), (.c (.int .i64 a0.Kind)), (.c (sl 1 (csL 5 cs_Key) a0.Tracks)), (.c (sl 4 cs_RootKey a0.Roots))]))]⟩ (T2 Tt) [.box 1] [1, 2] [1] ⟨tr, tr, tr⟩ (thenQ_normal ?_))
  refine AW.seq ?_
  obtain ⟨v1, e2, h⟩ := bind_some h
  refine AW.rA ⟨[(1, (vc (.int .i64 v1))), (2, (vp 1 0))], [(1, (.box [(.c (.int .i64 a0.Length)), (.c (.int .i64 a0.Kind)), (.c (sl 1 (csL 5 cs_Key) a0.Tracks)), (.c (sl 4 cs_RootKey a0.Roots))]))]⟩ (Tt ∧ T2 ((((Eqc (sl 1 (csL 5 cs_Key) a0.Tracks)) ∧ (Eqc (.int .i64 a1)) ∧ Tt) ∧ CallOK Tryz.prog 29 [.one (sl 1 (csL 5 cs_Key) a0.Tracks), .one (.int .i64 a1)] [.one (.int .i64 v1)]) ∧ Tt ∧ Tt)) [.no, .no, .no, .call [.one (sl 1 (csL 5 cs_Key) a0.Tracks), .one (.int .i64 a1)] [.one (.int .i64 v1)] [[.view]]] [1, 2] [1] ⟨tr, tr, tr, ⟨⟨rfl, rfl, tr⟩, ok_laws_heldKeySS K a0.Tracks a1 v1 e2⟩, tr, tr⟩ ?_
  refine thenQ_normal ?_
  refine AW.seq ?_
  refine AW.seq (AW.rA ⟨[(1, (vc (.int .i64 v1))), (2, (vp 1 0)), (10, (vc (.bool (decide (v1 < (0 : Int))))))], [(1, (.box [(.c (.int .i64 a0.Length)), (.c (.int .i64 a0.Kind)), (.c (sl 1 (csL 5 cs_Key) a0.Tracks)), (.c (sl 4 cs_RootKey a0.Roots))]))]⟩ (T2 Tt) [] [1, 2, 10] [1] ⟨tr, tr, tr⟩ (thenQ_normal ?_))
  rcases ite2_cases h with ⟨b3, h⟩ | ⟨b3, h⟩
  · refine AW.cond_t rfl b3 ?_
    refine AW.seq (AW.rA ⟨[(4, (vc (.int .i64 ((-1) : Int))))], []⟩ (Tt ∧ Tt) [] [4] [] ⟨tr, tr⟩ (thenQ_normal ?_))
    refine AW.ret ?_
    refine thenQ_ret ?_
    replace h := some_eq h
    subst h
    exact ⟨.inr rfl, retOK_of [(.one (.c (.int .i64 ((-1) : Int))))] (by kernel_rfl) ⟨⟨rfl, tr⟩, tr⟩ (of_decide_eq_true (by kernel_rfl))⟩
  · refine AW.cond_f rfl b3 ?_
    refine AW.skip ?_
    refine thenQ_normal ?_
    refine AW.seq ?_
    obtain ⟨v4, e5, h⟩ := bind_some h
    refine AW.rA ⟨[(1, (vc (.int .i64 v4)))], []⟩ (Tt ∧ T2 ((((Eqc (sl 4 cs_RootKey a0.Roots)) ∧ (Eqc (.int .i64 v1)) ∧ Tt) ∧ CallOK Tryz.prog 30 [.one (sl 4 cs_RootKey a0.Roots), .one (.int .i64 v1)] [.one (.int .i64 v4)]) ∧ Tt ∧ Tt)) [.no, .no, .no, .call [.one (sl 4 cs_RootKey a0.Roots), .one (.int .i64 v1)] [.one (.int .i64 v4)] [[.view]]] [1] [] ⟨tr, tr, tr, ⟨⟨rfl, rfl, tr⟩, ok_laws_heldRootKeyS K a0.Roots v1 v4 e5⟩, tr, tr⟩ ?_
    refine thenQ_normal ?_
    refine AW.seq ?_
    refine AW.seq (AW.rA ⟨[(1, (vc (.int .i64 v4))), (16, (vc (.bool (decide (v4 < (0 : Int))))))], []⟩ (T2 Tt) [] [1, 16] [] ⟨tr, tr, tr⟩ (thenQ_normal ?_))
    rcases ite2_cases h with ⟨b6, h⟩ | ⟨b6, h⟩
    · refine AW.cond_t rfl b6 ?_
      refine AW.seq (AW.rA ⟨[(4, (vc (.int .i64 ((-1) : Int))))], []⟩ (Tt ∧ Tt) [] [4] [] ⟨tr, tr⟩ (thenQ_normal ?_))
      refine AW.ret ?_
      refine thenQ_ret ?_
      replace h := some_eq h
      subst h
      exact ⟨.inr rfl, retOK_of [(.one (.c (.int .i64 ((-1) : Int))))] (by kernel_rfl) ⟨⟨rfl, tr⟩, tr⟩ (of_decide_eq_true (by kernel_rfl))⟩
    · refine AW.cond_f rfl b6 ?_
      refine AW.skip ?_
      refine thenQ_normal ?_
      refine AW.seq (AW.rA ⟨[(4, (vc (.int .i64 v4)))], []⟩ (T2 Tt) [] [4] [] ⟨tr, tr, tr⟩ (thenQ_normal ?_))
      refine AW.ret ?_
      replace h := some_eq h
      subst h
      exact ⟨.inr rfl, retOK_of [(.one (.c (.int .i64 v4)))] (by kernel_rfl) ⟨⟨rfl, tr⟩, tr⟩ (of_decide_eq_true (by kernel_rfl))⟩

/-! laws.FnExactThinClip -/
def laws_FnExactThinClip (K : Nat) (a0 : Clip) (a1 : F32) : Option (Bool) :=
  (laws_szClip K a0 (1048576 : Int)).bind fun v1 => ite2 ((decide (v1 < (0 : Int)))) (some true) ((laws_toClip K a0).bind fun v4 => (spec_ThinClip K v4 a1).bind fun v6 => (laws_toClip K a0).bind fun v8 => (impl_ThinClip K v8 a1).bind fun v10 => (laws_eqClip K v10.1 v6.1).bind fun v12 => (ite2 ((!v12)) (some true) (some (!(v10.2 == v6.2)))).bind fun j15 => ite2 (j15) (some false) ((laws_toClip K a0).bind fun v18 => (laws_eqClip K v8 v18).bind fun v20 => ite2 ((!v20)) (some false) ((laws_markClip K v8 (1 : Int)).bind fun v23 => chk (v23.2.1.length = v8.Tracks.length) (chk (v23.2.2.length = v8.Roots.length) ((ite2 ((decide (v23.1 < (0 : Int)))) (some true) ((laws_eqClip K v10.1 v6.1).bind fun v28 => ite2 ((!v28)) (some true) (some (!(v10.2 == v6.2))))).bind fun j31 => ite2 (j31) (some false) ((laws_markClip K v10.1 (1 : Int)).bind fun v34 => chk (v34.2.1.length = v10.1.Tracks.length) (chk (v34.2.2.length = v10.1.Roots.length) ((laws_heldClip K (Clip.mk v10.1.Length v10.1.Kind v34.2.1 v34.2.2) (1 : Int)).bind fun v38 => ite2 ((decide (v38 < (0 : Int)))) (some false) (ite2 ((v38 != v34.1)) (some false) ((laws_toClip K a0).bind fun v42 => (impl_ThinClip K v42 a1).bind fun v44 => (laws_eqClip K v44.1 v6.1).bind fun v46 => (ite2 ((!v46)) (some true) (some (!(v44.2 == v6.2)))).bind fun j49 => ite2 (j49) (some false) ((laws_heldClip K (Clip.mk v10.1.Length v10.1.Kind v34.2.1 v34.2.2) (1 : Int)).bind fun v52 => ite2 ((decide (v52 < (0 : Int)))) (some false) (ite2 ((v52 != v34.1)) (some false) (some true)))))))))))))

theorem ok_laws_FnExactThinClip (K : Nat) (a0 : Clip) (a1 : F32) (o : (Bool)) (h : laws_FnExactThinClip K a0 a1 = some o) : CallOK Tryz.prog 3 [.agg (cs_Clip a0), .one (.flt .f32 a1.bits)] [.one (.bool o)] := by
  refine callOK_of_AW Tryz.func3 rfl (by kernel_rfl) (Nat.le_of_ble_eq_true (by kernel_rfl)) ?_
  intro w0
  unfold laws_FnExactThinClip at h
  refine AW.seq (AW.rA ⟨[(1, (vc (.flt .f32 a1.bits))), (2, (vp 1 0))], [(1, (.box [(.c (.int .i64 a0.Length)), (.c (.int .i64 a0.Kind)), (.c (sl 1 (csL 5 cs_Key) a0.Tracks)), (.c (sl 4 cs_RootKey a0.Roots))]))]⟩ (T2 Tt) [.box 1] [1, 2] [1] ⟨tr, tr, tr⟩ (thenQ_normal ?_))
  refine AW.seq (AW.rA ⟨[(1, (vc (.flt .f32 a1.bits))), (2, (vp 1 0)), (5, (vc (.int .i64 (1048576 : Int))))], [(1, (.box [(.c (.int .i64 a0.Length)), (.c (.int .i64 a0.Kind)), (.c (sl 1 (csL 5 cs_Key) a0.Tracks)), (.c (sl 4 cs_RootKey a0.Roots))]))]⟩ (Tt ∧ Tt) [] [1, 2, 5] [1] ⟨tr, tr⟩ (thenQ_normal ?_))
  refine AW.seq ?_
  obtain ⟨v1, e2, h⟩ := bind_some h
  refine AW.rA ⟨[(1, (vc (.flt .f32 a1.bits))), (2, (vp 1 0)), (5, (vc (.int .i64 v1)))], [(1, (.box [(.c (.int .i64 a0.Length)), (.c (.int .i64 a0.Kind)), (.c (sl 1 (csL 5 cs_Key) a0.Tracks)), (.c (sl 4 cs_RootKey a0.Roots))]))]⟩ (T2 (((((Eqc (.int .i64 a0.Length)) ∧ (Eqc (.int .i64 a0.Kind)) ∧ (Eqc (sl 1 (csL 5 cs_Key) a0.Tracks)) ∧ (Eqc (sl 4 cs_RootKey a0.Roots)) ∧ Tt) ∧ (Eqc (.int .i64 (1048576 : Int))) ∧ Tt) ∧ CallOK Tryz.prog 4 [.agg (cs_Clip a0), .one (.int .i64 (1048576 : Int))] [.one (.int .i64 v1)]) ∧ Tt ∧ Tt)) [.no, .no, .call [.agg (cs_Clip a0), .one (.int .i64 (1048576 : Int))] [.one (.int .i64 v1)] [[.view]]] [1, 2, 5] [1] ⟨tr, tr, ⟨⟨⟨rfl, rfl, rfl, rfl, tr⟩, rfl, tr⟩, ok_laws_szClip K a0 (1048576 : Int) v1 e2⟩, tr, tr⟩ ?_
  refine thenQ_normal ?_
  refine AW.seq ?_
  refine AW.seq (AW.rA ⟨[(1, (vc (.flt .f32 a1.bits))), (2, (vp 1 0)), (20, (vc (.bool (decide (v1 < (0 : Int))))))], [(1, (.box [(.c (.int .i64 a0.Length)), (.c (.int .i64 a0.Kind)), (.c (sl 1 (csL 5 cs_Key) a0.Tracks)), (.c (sl 4 cs_RootKey a0.Roots))]))]⟩ (T2 Tt) [] [1, 2, 20] [1] ⟨tr, tr, tr⟩ (thenQ_normal ?_))
  rcases ite2_cases h with ⟨b3, h⟩ | ⟨b3, h⟩
  · refine AW.cond_t rfl b3 ?_
    refine AW.seq (AW.rA ⟨[(4, (vc (.bool true)))], []⟩ (Tt ∧ Tt) [] [4] [] ⟨tr, tr⟩ (thenQ_normal ?_))
    refine AW.ret ?_
    refine thenQ_ret ?_
    replace h := some_eq h
    subst h
    exact ⟨.inr rfl, retOK_of [(.one (.c (.bool true)))] (by kernel_rfl) ⟨⟨rfl, tr⟩, tr⟩ (of_decide_eq_true (by kernel_rfl))⟩
  · refine AW.cond_f rfl b3 ?_
    refine AW.skip ?_
    refine thenQ_normal ?_
    refine AW.seq ?_
    obtain ⟨v4, e5, h⟩ := bind_some h
    obtain ⟨v6, e7, h⟩ := bind_some h
    refine AW.rA ⟨[(1, (vc (.flt .f32 a1.bits))), (2, (vp 1 0)), (6, (vp 6 0)), (7, (vc (.bool v6.2)))], [(1, (.box [(.c (.int .i64 a0.Length)), (.c (.int .i64 a0.Kind)), (.c (sl 1 (csL 5 cs_Key) a0.Tracks)), (.c (sl 4 cs_RootKey a0.Roots))])), (4, (.lst v6.1.Tracks.length 1 (gl (csL 5 cs_Key) v6.1.Tracks))), (5, (.lst v6.1.Roots.length 4 (gl cs_RootKey v6.1.Roots))), (6, (.box [(.c (.int .i64 v6.1.Length)), (.c (.int .i64 v6.1.Kind)), (.lst 4 v6.1.Tracks.length 1 (gl (csL 5 cs_Key) v6.1.Tracks)), (.lst 5 v6.1.Roots.length 4 (gl cs_RootKey v6.1.Roots))]))]⟩ (Tt ∧ ((((Eqc (.int .i64 a0.Length)) ∧ (Eqc (.int .i64 a0.Kind)) ∧ (Eqc (sl 1 (csL 5 cs_Key) a0.Tracks)) ∧ (Eqc (sl 4 cs_RootKey a0.Roots)) ∧ Tt) ∧ Tt) ∧ CallOK Tryz.prog 6 [.agg (cs_Clip a0)] [.agg (cs_Clip v4)]) ∧ Tt ∧ ((((Eqc (.int .i64 v4.Length)) ∧ (Eqc (.int .i64 v4.Kind)) ∧ (Eqc (sl 1 (csL 5 cs_Key) v4.Tracks)) ∧ (Eqc (sl 4 cs_RootKey v4.Roots)) ∧ Tt) ∧ (Eqc (.flt .f32 a1.bits)) ∧ Tt) ∧ CallOK Tryz.prog 5 [.agg (cs_Clip v4), .one (.flt .f32 a1.bits)] [.agg (cs_Clip v6.1), .one (.bool v6.2)]) ∧ T2 (T4 Tt)) [.no, .call [.agg (cs_Clip a0)] [.agg (cs_Clip v4)] [[.view, .view, .lst 2, .lst 3]], .no, .call [.agg (cs_Clip v4), .one (.flt .f32 a1.bits)] [.agg (cs_Clip v6.1), .one (.bool v6.2)] [[.view, .view, .lst 4, .lst 5], [.view]], .no, .no, .no, .box 6] [1, 2, 6, 7] [1, 4, 5, 6] ⟨tr, ⟨⟨⟨rfl, rfl, rfl, rfl, tr⟩, tr⟩, ok_laws_toClip K a0 v4 e5⟩, tr, ⟨⟨⟨rfl, rfl, rfl, rfl, tr⟩, rfl, tr⟩, ok_spec_ThinClip K v4 a1 v6 e7⟩, tr, tr, tr, tr, tr, tr, tr⟩ ?_
    refine thenQ_normal ?_
    refine AW.seq ?_
    obtain ⟨v8, e9, h⟩ := bind_some h
    refine AW.rA ⟨[(1, (vc (.flt .f32 a1.bits))), (2, (vp 1 0)), (6, (vp 6 0)), (7, (vc (.bool v6.2))), (8, (vp 9 0))], [(1, (.box [(.c (.int .i64 a0.Length)), (.c (.int .i64 a0.Kind)), (.c (sl 1 (csL 5 cs_Key) a0.Tracks)), (.c (sl 4 cs_RootKey a0.Roots))])), (4, (.lst v6.1.Tracks.length 1 (gl (csL 5 cs_Key) v6.1.Tracks))), (5, (.lst v6.1.Roots.length 4 (gl cs_RootKey v6.1.Roots))), (6, (.box [(.c (.int .i64 v6.1.Length)), (.c (.int .i64 v6.1.Kind)), (.lst 4 v6.1.Tracks.length 1 (gl (csL 5 cs_Key) v6.1.Tracks)), (.lst 5 v6.1.Roots.length 4 (gl cs_RootKey v6.1.Roots))])), (7, (.arr true v8.Tracks.length 1 (gl (csL 5 cs_Key) v8.Tracks))), (8, (.arr true v8.Roots.length 4 (gl cs_RootKey v8.Roots))), (9, (.box [(.c (.int .i64 v8.Length)), (.c (.int .i64 v8.Kind)), (.arr 7), (.arr 8)]))]⟩ (Tt ∧ ((((Eqc (.int .i64 a0.Length)) ∧ (Eqc (.int .i64 a0.Kind)) ∧ (Eqc (sl 1 (csL 5 cs_Key) a0.Tracks)) ∧ (Eqc (sl 4 cs_RootKey a0.Roots)) ∧ Tt) ∧ Tt) ∧ CallOK Tryz.prog 6 [.agg (cs_Clip a0)] [.agg (cs_Clip v8)]) ∧ T2 Tt) [.no, .call [.agg (cs_Clip a0)] [.agg (cs_Clip v8)] [[.view, .view, .own 7, .own 8]], .box 9] [1, 2, 6, 7, 8] [1, 4, 5, 6, 7, 8, 9] ⟨tr, ⟨⟨⟨rfl, rfl, rfl, rfl, tr⟩, tr⟩, ok_laws_toClip K a0 v8 e9⟩, tr, tr, tr⟩ ?_
    refine thenQ_normal ?_
    refine AW.seq ?_
    obtain ⟨v10, e11, h⟩ := bind_some h
    refine AW.rA ⟨[(1, (vc (.flt .f32 a1.bits))), (2, (vp 1 0)), (6, (vp 6 0)), (7, (vc (.bool v6.2))), (8, (vp 9 0)), (9, (vp 12 0)), (10, (vc (.bool v10.2)))], [(1, (.box [(.c (.int .i64 a0.Length)), (.c (.int .i64 a0.Kind)), (.c (sl 1 (csL 5 cs_Key) a0.Tracks)), (.c (sl 4 cs_RootKey a0.Roots))])), (4, (.lst v6.1.Tracks.length 1 (gl (csL 5 cs_Key) v6.1.Tracks))), (5, (.lst v6.1.Roots.length 4 (gl cs_RootKey v6.1.Roots))), (6, (.box [(.c (.int .i64 v6.1.Length)), (.c (.int .i64 v6.1.Kind)), (.lst 4 v6.1.Tracks.length 1 (gl (csL 5 cs_Key) v6.1.Tracks)), (.lst 5 v6.1.Roots.length 4 (gl cs_RootKey v6.1.Roots))])), (7, (.arr true v8.Tracks.length 1 (gl (csL 5 cs_Key) v8.Tracks))), (8, (.arr true v8.Roots.length 4 (gl cs_RootKey v8.Roots))), (9, (.box [(.c (.int .i64 v8.Length)), (.c (.int .i64 v8.Kind)), (.arr 7), (.arr 8)])), (10, (.arr true v10.1.Tracks.length 1 (gl (csL 5 cs_Key) v10.1.Tracks))), (11, (.arr true v10.1.Roots.length 4 (gl cs_RootKey v10.1.Roots))), (12, (.box [(.c (.int .i64 v10.1.Length)), (.c (.int .i64 v10.1.Kind)), (.arr 10), (.arr 11)]))]⟩ (T2 (((((Eqc (.int .i64 v8.Length)) ∧ (Eqc (.int .i64 v8.Kind)) ∧ (Eqc (sl 1 (csL 5 cs_Key) v8.Tracks)) ∧ (Eqc (sl 4 cs_RootKey v8.Roots)) ∧ Tt) ∧ (Eqc (.flt .f32 a1.bits)) ∧ Tt) ∧ CallOK Tryz.prog 7 [.agg (cs_Clip v8), .one (.flt .f32 a1.bits)] [.agg (cs_Clip v10.1), .one (.bool v10.2)]) ∧ T2 (T4 Tt))) [.no, .no, .call [.agg (cs_Clip v8), .one (.flt .f32 a1.bits)] [.agg (cs_Clip v10.1), .one (.bool v10.2)] [[.view, .view, .own 10, .own 11], [.view]], .no, .no, .no, .box 12] [1, 2, 6, 7, 8, 9, 10] [1, 4, 5, 6, 7, 8, 9, 10, 11, 12] ⟨tr, tr, ⟨⟨⟨rfl, rfl, rfl, rfl, tr⟩, rfl, tr⟩, ok_impl_ThinClip K v8 a1 v10 e11⟩, tr, tr, tr, tr, tr, tr, tr⟩ ?_
    refine thenQ_normal ?_
    refine AW.seq ?_
    refine AW.seq ?_
    obtain ⟨v12, e13, h⟩ := bind_some h
    obtain ⟨j15, e16, h⟩ := bind_some h
    refine AW.join1 (s2 := ⟨[(1, (vc (.flt .f32 a1.bits))), (2, (vp 1 0)), (6, (vp 6 0)), (7, (vc (.bool v6.2))), (8, (vp 9 0)), (9, (vp 12 0)), (10, (vc (.bool v10.2))), (44, (vc (.bool j15)))], [(1, (.box [(.c (.int .i64 a0.Length)), (.c (.int .i64 a0.Kind)), (.c (sl 1 (csL 5 cs_Key) a0.Tracks)), (.c (sl 4 cs_RootKey a0.Roots))])), (4, (.lst v6.1.Tracks.length 1 (gl (csL 5 cs_Key) v6.1.Tracks))), (5, (.lst v6.1.Roots.length 4 (gl cs_RootKey v6.1.Roots))), (6, (.box [(.c (.int .i64 v6.1.Length)), (.c (.int .i64 v6.1.Kind)), (.lst 4 v6.1.Tracks.length 1 (gl (csL 5 cs_Key) v6.1.Tracks)), (.lst 5 v6.1.Roots.length 4 (gl cs_RootKey v6.1.Roots))])), (7, (.arr true v8.Tracks.length 1 (gl (csL 5 cs_Key) v8.Tracks))), (8, (.arr true v8.Roots.length 4 (gl cs_RootKey v8.Roots))), (9, (.box [(.c (.int .i64 v8.Length)), (.c (.int .i64 v8.Kind)), (.arr 7), (.arr 8)])), (10, (.arr true v10.1.Tracks.length 1 (gl (csL 5 cs_Key) v10.1.Tracks))), (11, (.arr true v10.1.Roots.length 4 (gl cs_RootKey v10.1.Roots))), (12, (.box [(.c (.int .i64 v10.1.Length)), (.c (.int .i64 v10.1.Kind)), (.arr 10), (.arr 11)]))]⟩) ?_ ?_
    · rcases ite2_cases e16 with ⟨b14, e16⟩ | ⟨b14, e16⟩
      · replace e16 := some_eq e16
        subst e16
        exact AW.rA ⟨[(1, (vc (.flt .f32 a1.bits))), (2, (vp 1 0)), (6, (vp 6 0)), (7, (vc (.bool v6.2))), (8, (vp 9 0)), (9, (vp 12 0)), (10, (vc (.bool v10.2))), (44, (vc (.bool true)))], [(1, (.box [(.c (.int .i64 a0.Length)), (.c (.int .i64 a0.Kind)), (.c (sl 1 (csL 5 cs_Key) a0.Tracks)), (.c (sl 4 cs_RootKey a0.Roots))])), (4, (.lst v6.1.Tracks.length 1 (gl (csL 5 cs_Key) v6.1.Tracks))), (5, (.lst v6.1.Roots.length 4 (gl cs_RootKey v6.1.Roots))), (6, (.box [(.c (.int .i64 v6.1.Length)), (.c (.int .i64 v6.1.Kind)), (.lst 4 v6.1.Tracks.length 1 (gl (csL 5 cs_Key) v6.1.Tracks)), (.lst 5 v6.1.Roots.length 4 (gl cs_RootKey v6.1.Roots))])), (7, (.arr true v8.Tracks.length 1 (gl (csL 5 cs_Key) v8.Tracks))), (8, (.arr true v8.Roots.length 4 (gl cs_RootKey v8.Roots))), (9, (.box [(.c (.int .i64 v8.Length)), (.c (.int .i64 v8.Kind)), (.arr 7), (.arr 8)])), (10, (.arr true v10.1.Tracks.length 1 (gl (csL 5 cs_Key) v10.1.Tracks))), (11, (.arr true v10.1.Roots.length 4 (gl cs_RootKey v10.1.Roots))), (12, (.box [(.c (.int .i64 v10.1.Length)), (.c (.int .i64 v10.1.Kind)), (.arr 10), (.arr 11)]))]⟩ (T2 (((((Eqc (.int .i64 v10.1.Length)) ∧ (Eqc (.int .i64 v10.1.Kind)) ∧ (Eqc (sl 1 (csL 5 cs_Key) v10.1.Tracks)) ∧ (Eqc (sl 4 cs_RootKey v10.1.Roots)) ∧ Tt) ∧ ((Eqc (.int .i64 v6.1.Length)) ∧ (Eqc (.int .i64 v6.1.Kind)) ∧ (Eqc (sl 1 (csL 5 cs_Key) v6.1.Tracks)) ∧ (Eqc (sl 4 cs_RootKey v6.1.Roots)) ∧ Tt) ∧ Tt) ∧ CallOK Tryz.prog 8 [.agg (cs_Clip v10.1), .agg (cs_Clip v6.1)] [.one (.bool v12)]) ∧ Tt ∧ (Tt ∧ (!v12) = true) ∧ T4 Tt)) [.no, .no, .call [.agg (cs_Clip v10.1), .agg (cs_Clip v6.1)] [.one (.bool v12)] [[.view]], .no, .dec true] [1, 2, 6, 7, 8, 9, 10, 44] [1, 4, 5, 6, 7, 8, 9, 10, 11, 12] ⟨tr, tr, ⟨⟨⟨rfl, rfl, rfl, rfl, tr⟩, ⟨rfl, rfl, rfl, rfl, tr⟩, tr⟩, ok_laws_eqClip K v10.1 v6.1 v12 e13⟩, tr, ⟨tr, b14⟩, tr, tr, tr, tr, tr⟩ ⟨rfl, rfl⟩
      · replace e16 := some_eq e16
        subst e16
        exact AW.rA ⟨[(1, (vc (.flt .f32 a1.bits))), (2, (vp 1 0)), (6, (vp 6 0)), (7, (vc (.bool v6.2))), (8, (vp 9 0)), (9, (vp 12 0)), (10, (vc (.bool v10.2))), (44, (vc (.bool (!(v10.2 == v6.2)))))], [(1, (.box [(.c (.int .i64 a0.Length)), (.c (.int .i64 a0.Kind)), (.c (sl 1 (csL 5 cs_Key) a0.Tracks)), (.c (sl 4 cs_RootKey a0.Roots))])), (4, (.lst v6.1.Tracks.length 1 (gl (csL 5 cs_Key) v6.1.Tracks))), (5, (.lst v6.1.Roots.length 4 (gl cs_RootKey v6.1.Roots))), (6, (.box [(.c (.int .i64 v6.1.Length)), (.c (.int .i64 v6.1.Kind)), (.lst 4 v6.1.Tracks.length 1 (gl (csL 5 cs_Key) v6.1.Tracks)), (.lst 5 v6.1.Roots.length 4 (gl cs_RootKey v6.1.Roots))])), (7, (.arr true v8.Tracks.length 1 (gl (csL 5 cs_Key) v8.Tracks))), (8, (.arr true v8.Roots.length 4 (gl cs_RootKey v8.Roots))), (9, (.box [(.c (.int .i64 v8.Length)), (.c (.int .i64 v8.Kind)), (.arr 7), (.arr 8)])), (10, (.arr true v10.1.Tracks.length 1 (gl (csL 5 cs_Key) v10.1.Tracks))), (11, (.arr true v10.1.Roots.length 4 (gl cs_RootKey v10.1.Roots))), (12, (.box [(.c (.int .i64 v10.1.Length)), (.c (.int .i64 v10.1.Kind)), (.arr 10), (.arr 11)]))]⟩ (T2 (((((Eqc (.int .i64 v10.1.Length)) ∧ (Eqc (.int .i64 v10.1.Kind)) ∧ (Eqc (sl 1 (csL 5 cs_Key) v10.1.Tracks)) ∧ (Eqc (sl 4 cs_RootKey v10.1.Roots)) ∧ Tt) ∧ ((Eqc (.int .i64 v6.1.Length)) ∧ (Eqc (.int .i64 v6.1.Kind)) ∧ (Eqc (sl 1 (csL 5 cs_Key) v6.1.Tracks)) ∧ (Eqc (sl 4 cs_RootKey v6.1.Roots)) ∧ Tt) ∧ Tt) ∧ CallOK Tryz.prog 8 [.agg (cs_Clip v10.1), .agg (cs_Clip v6.1)] [.one (.bool v12)]) ∧ Tt ∧ (Tt ∧ (!v12) = false) ∧ T4 Tt)) [.no, .no, .call [.agg (cs_Clip v10.1), .agg (cs_Clip v6.1)] [.one (.bool v12)] [[.view]], .no, .dec false] [1, 2, 6, 7, 8, 9, 10, 44] [1, 4, 5, 6, 7, 8, 9, 10, 11, 12] ⟨tr, tr, ⟨⟨⟨rfl, rfl, rfl, rfl, tr⟩, ⟨rfl, rfl, rfl, rfl, tr⟩, tr⟩, ok_laws_eqClip K v10.1 v6.1 v12 e13⟩, tr, ⟨tr, b14⟩, tr, tr, tr, tr, tr⟩ ⟨rfl, rfl⟩
    refine thenQ_normal ?_
    rcases ite2_cases h with ⟨b17, h⟩ | ⟨b17, h⟩
    · refine AW.cond_t rfl b17 ?_
      refine AW.seq (AW.rA ⟨[(4, (vc (.bool false)))], []⟩ (Tt ∧ Tt) [] [4] [] ⟨tr, tr⟩ (thenQ_normal ?_))
      refine AW.ret ?_
      refine thenQ_ret ?_
      replace h := some_eq h
      subst h
      exact ⟨.inr rfl, retOK_of [(.one (.c (.bool false)))] (by kernel_rfl) ⟨⟨rfl, tr⟩, tr⟩ (of_decide_eq_true (by kernel_rfl))⟩
    · refine AW.cond_f rfl b17 ?_
      refine AW.skip ?_
      refine thenQ_normal ?_
      refine AW.seq ?_
      refine AW.seq ?_
      obtain ⟨v18, e19, h⟩ := bind_some h
      obtain ⟨v20, e21, h⟩ := bind_some h
      refine AW.dA ⟨[(1, (vc (.flt .f32 a1.bits))), (2, (vp 1 0)), (6, (vp 6 0)), (7, (vc (.bool v6.2))), (8, (vp 9 0)), (9, (vp 12 0)), (10, (vc (.bool v10.2))), (49, (vc (.bool (!v20))))], [(1, (.box [(.c (.int .i64 a0.Length)), (.c (.int .i64 a0.Kind)), (.c (sl 1 (csL 5 cs_Key) a0.Tracks)), (.c (sl 4 cs_RootKey a0.Roots))])), (4, (.lst v6.1.Tracks.length 1 (gl (csL 5 cs_Key) v6.1.Tracks))), (5, (.lst v6.1.Roots.length 4 (gl cs_RootKey v6.1.Roots))), (6, (.box [(.c (.int .i64 v6.1.Length)), (.c (.int .i64 v6.1.Kind)), (.lst 4 v6.1.Tracks.length 1 (gl (csL 5 cs_Key) v6.1.Tracks)), (.lst 5 v6.1.Roots.length 4 (gl cs_RootKey v6.1.Roots))])), (7, (.arr true v8.Tracks.length 1 (gl (csL 5 cs_Key) v8.Tracks))), (8, (.arr true v8.Roots.length 4 (gl cs_RootKey v8.Roots))), (9, (.box [(.c (.int .i64 v8.Length)), (.c (.int .i64 v8.Kind)), (.arr 7), (.arr 8)])), (10, (.arr true v10.1.Tracks.length 1 (gl (csL 5 cs_Key) v10.1.Tracks))), (11, (.arr true v10.1.Roots.length 4 (gl cs_RootKey v10.1.Roots))), (12, (.box [(.c (.int .i64 v10.1.Length)), (.c (.int .i64 v10.1.Kind)), (.arr 10), (.arr 11)]))]⟩ ((T2 (((((Eqc (.int .i64 a0.Length)) ∧ (Eqc (.int .i64 a0.Kind)) ∧ (Eqc (sl 1 (csL 5 cs_Key) a0.Tracks)) ∧ (Eqc (sl 4 cs_RootKey a0.Roots)) ∧ Tt) ∧ Tt) ∧ CallOK Tryz.prog 6 [.agg (cs_Clip a0)] [.agg (cs_Clip v18)]) ∧ ((((Eqc (.int .i64 v8.Length)) ∧ (Eqc (.int .i64 v8.Kind)) ∧ (Eqc (sl 1 (csL 5 cs_Key) v8.Tracks)) ∧ (Eqc (sl 4 cs_RootKey v8.Roots)) ∧ Tt) ∧ ((Eqc (.int .i64 v18.Length)) ∧ (Eqc (.int .i64 v18.Kind)) ∧ (Eqc (sl 1 (csL 5 cs_Key) v18.Tracks)) ∧ (Eqc (sl 4 cs_RootKey v18.Roots)) ∧ Tt) ∧ Tt) ∧ CallOK Tryz.prog 8 [.agg (cs_Clip v8), .agg (cs_Clip v18)] [.one (.bool v20)]) ∧ Tt ∧ Tt)) ∧ (Tt)) 5 [.no, .no, .call [.agg (cs_Clip a0)] [.agg (cs_Clip v18)] [[.view, .view, .lst 13, .lst 14]], .call [.agg (cs_Clip v8), .agg (cs_Clip v18)] [.one (.bool v20)] [[.view]]] [1, 2, 6, 7, 8, 9, 10, 49] [1, 4, 5, 6, 7, 8, 9, 10, 11, 12] ⟨⟨tr, tr, ⟨⟨⟨rfl, rfl, rfl, rfl, tr⟩, tr⟩, ok_laws_toClip K a0 v18 e19⟩, ⟨⟨⟨rfl, rfl, rfl, rfl, tr⟩, ⟨rfl, rfl, rfl, rfl, tr⟩, tr⟩, ok_laws_eqClip K v8 v18 v20 e21⟩, tr, tr⟩, tr⟩ ?_
      refine thenQ_normal ?_
      rcases ite2_cases h with ⟨b22, h⟩ | ⟨b22, h⟩
      · refine AW.cond_t rfl b22 ?_
        refine AW.seq (AW.rA ⟨[(4, (vc (.bool false)))], []⟩ (Tt ∧ Tt) [] [4] [] ⟨tr, tr⟩ (thenQ_normal ?_))
        refine AW.ret ?_
        refine thenQ_ret ?_
        replace h := some_eq h
        subst h
        exact ⟨.inr rfl, retOK_of [(.one (.c (.bool false)))] (by kernel_rfl) ⟨⟨rfl, tr⟩, tr⟩ (of_decide_eq_true (by kernel_rfl))⟩
      · refine AW.cond_f rfl b22 ?_
        refine AW.skip ?_
        refine thenQ_normal ?_
        refine AW.seq (AW.rA ⟨[(1, (vc (.flt .f32 a1.bits))), (2, (vp 1 0)), (6, (vp 6 0)), (7, (vc (.bool v6.2))), (8, (vp 9 0)), (9, (vp 12 0)), (10, (vc (.bool v10.2))), (11, (vc (.int .i64 (1 : Int))))], [(1, (.box [(.c (.int .i64 a0.Length)), (.c (.int .i64 a0.Kind)), (.c (sl 1 (csL 5 cs_Key) a0.Tracks)), (.c (sl 4 cs_RootKey a0.Roots))])), (4, (.lst v6.1.Tracks.length 1 (gl (csL 5 cs_Key) v6.1.Tracks))), (5, (.lst v6.1.Roots.length 4 (gl cs_RootKey v6.1.Roots))), (6, (.box [(.c (.int .i64 v6.1.Length)), (.c (.int .i64 v6.1.Kind)), (.lst 4 v6.1.Tracks.length 1 (gl (csL 5 cs_Key) v6.1.Tracks)), (.lst 5 v6.1.Roots.length 4 (gl cs_RootKey v6.1.Roots))])), (7, (.arr true v8.Tracks.length 1 (gl (csL 5 cs_Key) v8.Tracks))), (8, (.arr true v8.Roots.length 4 (gl cs_RootKey v8.Roots))), (9, (.box [(.c (.int .i64 v8.Length)), (.c (.int .i64 v8.Kind)), (.arr 7), (.arr 8)])), (10, (.arr true v10.1.Tracks.length 1 (gl (csL 5 cs_Key) v10.1.Tracks))), (11, (.arr true v10.1.Roots.length 4 (gl cs_RootKey v10.1.Roots))), (12, (.box [(.c (.int .i64 v10.1.Length)), (.c (.int .i64 v10.1.Kind)), (.arr 10), (.arr 11)]))]⟩ (Tt ∧ Tt) [] [1, 2, 6, 7, 8, 9, 10, 11] [1, 4, 5, 6, 7, 8, 9, 10, 11, 12] ⟨tr, tr⟩ (thenQ_normal ?_))
        refine AW.seq ?_
        obtain ⟨v23, e24, h⟩ := bind_some h
        obtain ⟨c25, h⟩ := chk_some h
        obtain ⟨c26, h⟩ := chk_some h
        refine AW.rA ⟨[(1, (vc (.flt .f32 a1.bits))), (2, (vp 1 0)), (6, (vp 6 0)), (7, (vc (.bool v6.2))), (9, (vp 12 0)), (10, (vc (.bool v10.2))), (11, (vc (.int .i64 v23.1)))], [(1, (.box [(.c (.int .i64 a0.Length)), (.c (.int .i64 a0.Kind)), (.c (sl 1 (csL 5 cs_Key) a0.Tracks)), (.c (sl 4 cs_RootKey a0.Roots))])), (4, (.lst v6.1.Tracks.length 1 (gl (csL 5 cs_Key) v6.1.Tracks))), (5, (.lst v6.1.Roots.length 4 (gl cs_RootKey v6.1.Roots))), (6, (.box [(.c (.int .i64 v6.1.Length)), (.c (.int .i64 v6.1.Kind)), (.lst 4 v6.1.Tracks.length 1 (gl (csL 5 cs_Key) v6.1.Tracks)), (.lst 5 v6.1.Roots.length 4 (gl cs_RootKey v6.1.Roots))])), (10, (.arr true v10.1.Tracks.length 1 (gl (csL 5 cs_Key) v10.1.Tracks))), (11, (.arr true v10.1.Roots.length 4 (gl cs_RootKey v10.1.Roots))), (12, (.box [(.c (.int .i64 v10.1.Length)), (.c (.int .i64 v10.1.Kind)), (.arr 10), (.arr 11)]))]⟩ (T2 (((((Eqc (.int .i64 v8.Length)) ∧ (Eqc (.int .i64 v8.Kind)) ∧ (((sl 1 (csL 5 cs_Key) v8.Tracks) : C) = (sl 1 (csL 5 cs_Key) v8.Tracks) ∧ v23.2.1.length = v8.Tracks.length ∧ 1 = 1 ∧ ∀ i j, i < v8.Tracks.length → j < 1 → isSeq (gl (csL 5 cs_Key) v23.2.1 i j) = isSeq (gl (csL 5 cs_Key) v8.Tracks i j)) ∧ (((sl 4 cs_RootKey v8.Roots) : C) = (sl 4 cs_RootKey v8.Roots) ∧ v23.2.2.length = v8.Roots.length ∧ 4 = 4 ∧ ∀ i j, i < v8.Roots.length → j < 4 → isSeq (gl cs_RootKey v23.2.2 i j) = isSeq (gl cs_RootKey v8.Roots i j)) ∧ Tt) ∧ (Eqc (.int .i64 (1 : Int))) ∧ Tt) ∧ MutOK Tryz.prog 9 [(.agg [(.ro (.int .i64 v8.Length)), (.ro (.int .i64 v8.Kind)), (.mu (sl 1 (csL 5 cs_Key) v8.Tracks) (sl 1 (csL 5 cs_Key) v23.2.1)), (.mu (sl 4 cs_RootKey v8.Roots) (sl 4 cs_RootKey v23.2.2))]), .one (.ro (.int .i64 (1 : Int)))] [.one (.int .i64 v23.1)]) ∧ Tt ∧ Tt)) [.no, .no, .callM [(.agg [(.ro (.int .i64 v8.Length)), (.ro (.int .i64 v8.Kind)), (.mu (sl 1 (csL 5 cs_Key) v8.Tracks) (sl 1 (csL 5 cs_Key) v23.2.1)), (.mu (sl 4 cs_RootKey v8.Roots) (sl 4 cs_RootKey v23.2.2))]), .one (.ro (.int .i64 (1 : Int)))] [.one (.int .i64 v23.1)] [[.view]] none] [1, 2, 6, 7, 9, 10, 11] [1, 4, 5, 6, 10, 11, 12] ⟨tr, tr, ⟨⟨⟨rfl, rfl, ⟨rfl, c25, rfl, gl_seq (sq_slice)⟩, ⟨rfl, c26, rfl, gl_seq sq_RootKey⟩, tr⟩, rfl, tr⟩, ok_laws_markClip K v8 (1 : Int) v23 e24⟩, tr, tr⟩ ?_
        refine thenQ_normal ?_
        refine AW.seq ?_
        refine AW.seq ?_
        obtain ⟨j31, e32, h⟩ := bind_some h
        refine AW.join1 (s2 := ⟨[(1, (vc (.flt .f32 a1.bits))), (2, (vp 1 0)), (6, (vp 6 0)), (7, (vc (.bool v6.2))), (9, (vp 12 0)), (65, (vc (.bool j31)))], [(1, (.box [(.c (.int .i64 a0.Length)), (.c (.int .i64 a0.Kind)), (.c (sl 1 (csL 5 cs_Key) a0.Tracks)), (.c (sl 4 cs_RootKey a0.Roots))])), (4, (.lst v6.1.Tracks.length 1 (gl (csL 5 cs_Key) v6.1.Tracks))), (5, (.lst v6.1.Roots.length 4 (gl cs_RootKey v6.1.Roots))), (6, (.box [(.c (.int .i64 v6.1.Length)), (.c (.int .i64 v6.1.Kind)), (.lst 4 v6.1.Tracks.length 1 (gl (csL 5 cs_Key) v6.1.Tracks)), (.lst 5 v6.1.Roots.length 4 (gl cs_RootKey v6.1.Roots))])), (10, (.arr true v10.1.Tracks.length 1 (gl (csL 5 cs_Key) v10.1.Tracks))), (11, (.arr true v10.1.Roots.length 4 (gl cs_RootKey v10.1.Roots))), (12, (.box [(.c (.int .i64 v10.1.Length)), (.c (.int .i64 v10.1.Kind)), (.arr 10), (.arr 11)]))]⟩) ?_ ?_
        · rcases ite2_cases e32 with ⟨b27, e32⟩ | ⟨b27, e32⟩
          · replace e32 := some_eq e32
            subst e32
            exact AW.rA ⟨[(1, (vc (.flt .f32 a1.bits))), (2, (vp 1 0)), (6, (vp 6 0)), (7, (vc (.bool v6.2))), (9, (vp 12 0)), (65, (vc (.bool true)))], [(1, (.box [(.c (.int .i64 a0.Length)), (.c (.int .i64 a0.Kind)), (.c (sl 1 (csL 5 cs_Key) a0.Tracks)), (.c (sl 4 cs_RootKey a0.Roots))])), (4, (.lst v6.1.Tracks.length 1 (gl (csL 5 cs_Key) v6.1.Tracks))), (5, (.lst v6.1.Roots.length 4 (gl cs_RootKey v6.1.Roots))), (6, (.box [(.c (.int .i64 v6.1.Length)), (.c (.int .i64 v6.1.Kind)), (.lst 4 v6.1.Tracks.length 1 (gl (csL 5 cs_Key) v6.1.Tracks)), (.lst 5 v6.1.Roots.length 4 (gl cs_RootKey v6.1.Roots))])), (10, (.arr true v10.1.Tracks.length 1 (gl (csL 5 cs_Key) v10.1.Tracks))), (11, (.arr true v10.1.Roots.length 4 (gl cs_RootKey v10.1.Roots))), (12, (.box [(.c (.int .i64 v10.1.Length)), (.c (.int .i64 v10.1.Kind)), (.arr 10), (.arr 11)]))]⟩ (T2 ((Tt ∧ (decide (v23.1 < (0 : Int))) = true) ∧ T2 (T4 (T4 Tt)))) [.no, .no, .dec true] [1, 2, 6, 7, 9, 65] [1, 4, 5, 6, 10, 11, 12] ⟨tr, tr, ⟨tr, b27⟩, tr, tr, tr, tr, tr, tr, tr, tr, tr, tr, tr⟩ ⟨rfl, rfl⟩
          · obtain ⟨v28, e29, e32⟩ := bind_some e32
            rcases ite2_cases e32 with ⟨b30, e32⟩ | ⟨b30, e32⟩
            · replace e32 := some_eq e32
              subst e32
              exact AW.rA ⟨[(1, (vc (.flt .f32 a1.bits))), (2, (vp 1 0)), (6, (vp 6 0)), (7, (vc (.bool v6.2))), (9, (vp 12 0)), (65, (vc (.bool true)))], [(1, (.box [(.c (.int .i64 a0.Length)), (.c (.int .i64 a0.Kind)), (.c (sl 1 (csL 5 cs_Key) a0.Tracks)), (.c (sl 4 cs_RootKey a0.Roots))])), (4, (.lst v6.1.Tracks.length 1 (gl (csL 5 cs_Key) v6.1.Tracks))), (5, (.lst v6.1.Roots.length 4 (gl cs_RootKey v6.1.Roots))), (6, (.box [(.c (.int .i64 v6.1.Length)), (.c (.int .i64 v6.1.Kind)), (.lst 4 v6.1.Tracks.length 1 (gl (csL 5 cs_Key) v6.1.Tracks)), (.lst 5 v6.1.Roots.length 4 (gl cs_RootKey v6.1.Roots))])), (10, (.arr true v10.1.Tracks.length 1 (gl (csL 5 cs_Key) v10.1.Tracks))), (11, (.arr true v10.1.Roots.length 4 (gl cs_RootKey v10.1.Roots))), (12, (.box [(.c (.int .i64 v10.1.Length)), (.c (.int .i64 v10.1.Kind)), (.arr 10), (.arr 11)]))]⟩ (T2 ((Tt ∧ (decide (v23.1 < (0 : Int))) = false) ∧ T2 (((((Eqc (.int .i64 v10.1.Length)) ∧ (Eqc (.int .i64 v10.1.Kind)) ∧ (Eqc (sl 1 (csL 5 cs_Key) v10.1.Tracks)) ∧ (Eqc (sl 4 cs_RootKey v10.1.Roots)) ∧ Tt) ∧ ((Eqc (.int .i64 v6.1.Length)) ∧ (Eqc (.int .i64 v6.1.Kind)) ∧ (Eqc (sl 1 (csL 5 cs_Key) v6.1.Tracks)) ∧ (Eqc (sl 4 cs_RootKey v6.1.Roots)) ∧ Tt) ∧ Tt) ∧ CallOK Tryz.prog 8 [.agg (cs_Clip v10.1), .agg (cs_Clip v6.1)] [.one (.bool v28)]) ∧ T2 ((Tt ∧ (!v28) = true) ∧ T4 Tt)))) [.no, .no, .dec false, .no, .no, .call [.agg (cs_Clip v10.1), .agg (cs_Clip v6.1)] [.one (.bool v28)] [[.view]], .no, .no, .dec true] [1, 2, 6, 7, 9, 65] [1, 4, 5, 6, 10, 11, 12] ⟨tr, tr, ⟨tr, b27⟩, tr, tr, ⟨⟨⟨rfl, rfl, rfl, rfl, tr⟩, ⟨rfl, rfl, rfl, rfl, tr⟩, tr⟩, ok_laws_eqClip K v10.1 v6.1 v28 e29⟩, tr, tr, ⟨tr, b30⟩, tr, tr, tr, tr, tr⟩ ⟨rfl, rfl⟩
            · replace e32 := some_eq e32
              subst e32
              exact AW.rA ⟨[(1, (vc (.flt .f32 a1.bits))), (2, (vp 1 0)), (6, (vp 6 0)), (7, (vc (.bool v6.2))), (9, (vp 12 0)), (65, (vc (.bool (!(v10.2 == v6.2)))))], [(1, (.box [(.c (.int .i64 a0.Length)), (.c (.int .i64 a0.Kind)), (.c (sl 1 (csL 5 cs_Key) a0.Tracks)), (.c (sl 4 cs_RootKey a0.Roots))])), (4, (.lst v6.1.Tracks.length 1 (gl (csL 5 cs_Key) v6.1.Tracks))), (5, (.lst v6.1.Roots.length 4 (gl cs_RootKey v6.1.Roots))), (6, (.box [(.c (.int .i64 v6.1.Length)), (.c (.int .i64 v6.1.Kind)), (.lst 4 v6.1.Tracks.length 1 (gl (csL 5 cs_Key) v6.1.Tracks)), (.lst 5 v6.1.Roots.length 4 (gl cs_RootKey v6.1.Roots))])), (10, (.arr true v10.1.Tracks.length 1 (gl (csL 5 cs_Key) v10.1.Tracks))), (11, (.arr true v10.1.Roots.length 4 (gl cs_RootKey v10.1.Roots))), (12, (.box [(.c (.int .i64 v10.1.Length)), (.c (.int .i64 v10.1.Kind)), (.arr 10), (.arr 11)]))]⟩ (T2 ((Tt ∧ (decide (v23.1 < (0 : Int))) = false) ∧ T2 (((((Eqc (.int .i64 v10.1.Length)) ∧ (Eqc (.int .i64 v10.1.Kind)) ∧ (Eqc (sl 1 (csL 5 cs_Key) v10.1.Tracks)) ∧ (Eqc (sl 4 cs_RootKey v10.1.Roots)) ∧ Tt) ∧ ((Eqc (.int .i64 v6.1.Length)) ∧ (Eqc (.int .i64 v6.1.Kind)) ∧ (Eqc (sl 1 (csL 5 cs_Key) v6.1.Tracks)) ∧ (Eqc (sl 4 cs_RootKey v6.1.Roots)) ∧ Tt) ∧ Tt) ∧ CallOK Tryz.prog 8 [.agg (cs_Clip v10.1), .agg (cs_Clip v6.1)] [.one (.bool v28)]) ∧ T2 ((Tt ∧ (!v28) = false) ∧ T4 Tt)))) [.no, .no, .dec false, .no, .no, .call [.agg (cs_Clip v10.1), .agg (cs_Clip v6.1)] [.one (.bool v28)] [[.view]], .no, .no, .dec false] [1, 2, 6, 7, 9, 65] [1, 4, 5, 6, 10, 11, 12] ⟨tr, tr, ⟨tr, b27⟩, tr, tr, ⟨⟨⟨rfl, rfl, rfl, rfl, tr⟩, ⟨rfl, rfl, rfl, rfl, tr⟩, tr⟩, ok_laws_eqClip K v10.1 v6.1 v28 e29⟩, tr, tr, ⟨tr, b30⟩, tr, tr, tr, tr, tr⟩ ⟨rfl, rfl⟩
        refine thenQ_normal ?_
        rcases ite2_cases h with ⟨b33, h⟩ | ⟨b33, h⟩
        · refine AW.cond_t rfl b33 ?_
          refine AW.seq (AW.rA ⟨[(4, (vc (.bool false)))], []⟩ (Tt ∧ Tt) [] [4] [] ⟨tr, tr⟩ (thenQ_normal ?_))
          refine AW.ret ?_
          refine thenQ_ret ?_
          replace h := some_eq h
          subst h
          exact ⟨.inr rfl, retOK_of [(.one (.c (.bool false)))] (by kernel_rfl) ⟨⟨rfl, tr⟩, tr⟩ (of_decide_eq_true (by kernel_rfl))⟩
        · refine AW.cond_f rfl b33 ?_
          refine AW.skip ?_
          refine thenQ_normal ?_
          refine AW.seq (AW.rA ⟨[(1, (vc (.flt .f32 a1.bits))), (2, (vp 1 0)), (6, (vp 6 0)), (7, (vc (.bool v6.2))), (9, (vp 12 0)), (12, (vc (.int .i64 (1 : Int))))], [(1, (.box [(.c (.int .i64 a0.Length)), (.c (.int .i64 a0.Kind)), (.c (sl 1 (csL 5 cs_Key) a0.Tracks)), (.c (sl 4 cs_RootKey a0.Roots))])), (4, (.lst v6.1.Tracks.length 1 (gl (csL 5 cs_Key) v6.1.Tracks))), (5, (.lst v6.1.Roots.length 4 (gl cs_RootKey v6.1.Roots))), (6, (.box [(.c (.int .i64 v6.1.Length)), (.c (.int .i64 v6.1.Kind)), (.lst 4 v6.1.Tracks.length 1 (gl (csL 5 cs_Key) v6.1.Tracks)), (.lst 5 v6.1.Roots.length 4 (gl cs_RootKey v6.1.Roots))])), (10, (.arr true v10.1.Tracks.length 1 (gl (csL 5 cs_Key) v10.1.Tracks))), (11, (.arr true v10.1.Roots.length 4 (gl cs_RootKey v10.1.Roots))), (12, (.box [(.c (.int .i64 v10.1.Length)), (.c (.int .i64 v10.1.Kind)), (.arr 10), (.arr 11)]))]⟩ (Tt ∧ Tt) [] [1, 2, 6, 7, 9, 12] [1, 4, 5, 6, 10, 11, 12] ⟨tr, tr⟩ (thenQ_normal ?_))
          refine AW.seq ?_
          obtain ⟨v34, e35, h⟩ := bind_some h
          obtain ⟨c36, h⟩ := chk_some h
          obtain ⟨c37, h⟩ := chk_some h
          refine AW.rA ⟨[(1, (vc (.flt .f32 a1.bits))), (2, (vp 1 0)), (6, (vp 6 0)), (7, (vc (.bool v6.2))), (9, (vp 12 0)), (12, (vc (.int .i64 v34.1)))], [(1, (.box [(.c (.int .i64 a0.Length)), (.c (.int .i64 a0.Kind)), (.c (sl 1 (csL 5 cs_Key) a0.Tracks)), (.c (sl 4 cs_RootKey a0.Roots))])), (4, (.lst v6.1.Tracks.length 1 (gl (csL 5 cs_Key) v6.1.Tracks))), (5, (.lst v6.1.Roots.length 4 (gl cs_RootKey v6.1.Roots))), (6, (.box [(.c (.int .i64 v6.1.Length)), (.c (.int .i64 v6.1.Kind)), (.lst 4 v6.1.Tracks.length 1 (gl (csL 5 cs_Key) v6.1.Tracks)), (.lst 5 v6.1.Roots.length 4 (gl cs_RootKey v6.1.Roots))])), (10, (.arr true v34.2.1.length 1 (gl (csL 5 cs_Key) v34.2.1))), (11, (.arr true v34.2.2.length 4 (gl cs_RootKey v34.2.2))), (12, (.box [(.c (.int .i64 v10.1.Length)), (.c (.int .i64 v10.1.Kind)), (.arr 10), (.arr 11)]))]⟩ (T2 (((((Eqc (.int .i64 v10.1.Length)) ∧ (Eqc (.int .i64 v10.1.Kind)) ∧ (((sl 1 (csL 5 cs_Key) v10.1.Tracks) : C) = (sl 1 (csL 5 cs_Key) v10.1.Tracks) ∧ v34.2.1.length = v10.1.Tracks.length ∧ 1 = 1 ∧ ∀ i j, i < v10.1.Tracks.length → j < 1 → isSeq (gl (csL 5 cs_Key) v34.2.1 i j) = isSeq (gl (csL 5 cs_Key) v10.1.Tracks i j)) ∧ (((sl 4 cs_RootKey v10.1.Roots) : C) = (sl 4 cs_RootKey v10.1.Roots) ∧ v34.2.2.length = v10.1.Roots.length ∧ 4 = 4 ∧ ∀ i j, i < v10.1.Roots.length → j < 4 → isSeq (gl cs_RootKey v34.2.2 i j) = isSeq (gl cs_RootKey v10.1.Roots i j)) ∧ Tt) ∧ (Eqc (.int .i64 (1 : Int))) ∧ Tt) ∧ MutOK Tryz.prog 9 [(.agg [(.ro (.int .i64 v10.1.Length)), (.ro (.int .i64 v10.1.Kind)), (.mu (sl 1 (csL 5 cs_Key) v10.1.Tracks) (sl 1 (csL 5 cs_Key) v34.2.1)), (.mu (sl 4 cs_RootKey v10.1.Roots) (sl 4 cs_RootKey v34.2.2))]), .one (.ro (.int .i64 (1 : Int)))] [.one (.int .i64 v34.1)]) ∧ Tt ∧ Tt)) [.no, .no, .callM [(.agg [(.ro (.int .i64 v10.1.Length)), (.ro (.int .i64 v10.1.Kind)), (.mu (sl 1 (csL 5 cs_Key) v10.1.Tracks) (sl 1 (csL 5 cs_Key) v34.2.1)), (.mu (sl 4 cs_RootKey v10.1.Roots) (sl 4 cs_RootKey v34.2.2))]), .one (.ro (.int .i64 (1 : Int)))] [.one (.int .i64 v34.1)] [[.view]] none] [1, 2, 6, 7, 9, 12] [1, 4, 5, 6, 10, 11, 12] ⟨tr, tr, ⟨⟨⟨rfl, rfl, ⟨rfl, c36, rfl, gl_seq (sq_slice)⟩, ⟨rfl, c37, rfl, gl_seq sq_RootKey⟩, tr⟩, rfl, tr⟩, ok_laws_markClip K v10.1 (1 : Int) v34 e35⟩, tr, tr⟩ ?_
          refine thenQ_normal ?_
          refine AW.seq (AW.rA ⟨[(1, (vc (.flt .f32 a1.bits))), (2, (vp 1 0)), (6, (vp 6 0)), (7, (vc (.bool v6.2))), (9, (vp 12 0)), (12, (vc (.int .i64 v34.1))), (13, (vc (.int .i64 (1 : Int))))], [(1, (.box [(.c (.int .i64 a0.Length)), (.c (.int .i64 a0.Kind)), (.c (sl 1 (csL 5 cs_Key) a0.Tracks)), (.c (sl 4 cs_RootKey a0.Roots))])), (4, (.lst v6.1.Tracks.length 1 (gl (csL 5 cs_Key) v6.1.Tracks))), (5, (.lst v6.1.Roots.length 4 (gl cs_RootKey v6.1.Roots))), (6, (.box [(.c (.int .i64 v6.1.Length)), (.c (.int .i64 v6.1.Kind)), (.lst 4 v6.1.Tracks.length 1 (gl (csL 5 cs_Key) v6.1.Tracks)), (.lst 5 v6.1.Roots.length 4 (gl cs_RootKey v6.1.Roots))])), (10, (.arr true v34.2.1.length 1 (gl (csL 5 cs_Key) v34.2.1))), (11, (.arr true v34.2.2.length 4 (gl cs_RootKey v34.2.2))), (12, (.box [(.c (.int .i64 v10.1.Length)), (.c (.int .i64 v10.1.Kind)), (.arr 10), (.arr 11)]))]⟩ (Tt ∧ Tt) [] [1, 2, 6, 7, 9, 12, 13] [1, 4, 5, 6, 10, 11, 12] ⟨tr, tr⟩ (thenQ_normal ?_))
          refine AW.seq ?_
          obtain ⟨v38, e39, h⟩ := bind_some h
          refine AW.rA ⟨[(1, (vc (.flt .f32 a1.bits))), (2, (vp 1 0)), (6, (vp 6 0)), (7, (vc (.bool v6.2))), (9, (vp 12 0)), (12, (vc (.int .i64 v34.1))), (13, (vc (.int .i64 v38)))], [(1, (.box [(.c (.int .i64 a0.Length)), (.c (.int .i64 a0.Kind)), (.c (sl 1 (csL 5 cs_Key) a0.Tracks)), (.c (sl 4 cs_RootKey a0.Roots))])), (4, (.lst v6.1.Tracks.length 1 (gl (csL 5 cs_Key) v6.1.Tracks))), (5, (.lst v6.1.Roots.length 4 (gl cs_RootKey v6.1.Roots))), (6, (.box [(.c (.int .i64 v6.1.Length)), (.c (.int .i64 v6.1.Kind)), (.lst 4 v6.1.Tracks.length 1 (gl (csL 5 cs_Key) v6.1.Tracks)), (.lst 5 v6.1.Roots.length 4 (gl cs_RootKey v6.1.Roots))])), (10, (.arr true v34.2.1.length 1 (gl (csL 5 cs_Key) v34.2.1))), (11, (.arr true v34.2.2.length 4 (gl cs_RootKey v34.2.2))), (12, (.box [(.c (.int .i64 v10.1.Length)), (.c (.int .i64 v10.1.Kind)), (.arr 10), (.arr 11)]))]⟩ (T2 (((((Eqc (.int .i64 v10.1.Length)) ∧ (Eqc (.int .i64 v10.1.Kind)) ∧ (Eqc (sl 1 (csL 5 cs_Key) v34.2.1)) ∧ (Eqc (sl 4 cs_RootKey v34.2.2)) ∧ Tt) ∧ (Eqc (.int .i64 (1 : Int))) ∧ Tt) ∧ CallOK Tryz.prog 10 [.agg (cs_Clip (Clip.mk v10.1.Length v10.1.Kind v34.2.1 v34.2.2)), .one (.int .i64 (1 : Int))] [.one (.int .i64 v38)]) ∧ Tt ∧ Tt)) [.no, .no, .call [.agg (cs_Clip (Clip.mk v10.1.Length v10.1.Kind v34.2.1 v34.2.2)), .one (.int .i64 (1 : Int))] [.one (.int .i64 v38)] [[.view]]] [1, 2, 6, 7, 9, 12, 13] [1, 4, 5, 6, 10, 11, 12] ⟨tr, tr, ⟨⟨⟨rfl, rfl, rfl, rfl, tr⟩, rfl, tr⟩, ok_laws_heldClip K (Clip.mk v10.1.Length v10.1.Kind v34.2.1 v34.2.2) (1 : Int) v38 e39⟩, tr, tr⟩ ?_
          refine thenQ_normal ?_
          refine AW.seq ?_
          refine AW.seq (AW.rA ⟨[(1, (vc (.flt .f32 a1.bits))), (2, (vp 1 0)), (6, (vp 6 0)), (7, (vc (.bool v6.2))), (9, (vp 12 0)), (12, (vc (.int .i64 v34.1))), (13, (vc (.int .i64 v38))), (73, (vc (.bool (decide (v38 < (0 : Int))))))], [(1, (.box [(.c (.int .i64 a0.Length)), (.c (.int .i64 a0.Kind)), (.c (sl 1 (csL 5 cs_Key) a0.Tracks)), (.c (sl 4 cs_RootKey a0.Roots))])), (4, (.lst v6.1.Tracks.length 1 (gl (csL 5 cs_Key) v6.1.Tracks))), (5, (.lst v6.1.Roots.length 4 (gl cs_RootKey v6.1.Roots))), (6, (.box [(.c (.int .i64 v6.1.Length)), (.c (.int .i64 v6.1.Kind)), (.lst 4 v6.1.Tracks.length 1 (gl (csL 5 cs_Key) v6.1.Tracks)), (.lst 5 v6.1.Roots.length 4 (gl cs_RootKey v6.1.Roots))])), (10, (.arr true v34.2.1.length 1 (gl (csL 5 cs_Key) v34.2.1))), (11, (.arr true v34.2.2.length 4 (gl cs_RootKey v34.2.2))), (12, (.box [(.c (.int .i64 v10.1.Length)), (.c (.int .i64 v10.1.Kind)), (.arr 10), (.arr 11)]))]⟩ (T2 Tt) [] [1, 2, 6, 7, 9, 12, 13, 73] [1, 4, 5, 6, 10, 11, 12] ⟨tr, tr, tr⟩ (thenQ_normal ?_))
          rcases ite2_cases h with ⟨b40, h⟩ | ⟨b40, h⟩
          · refine AW.cond_t rfl b40 ?_
            refine AW.seq (AW.rA ⟨[(4, (vc (.bool false)))], []⟩ (Tt ∧ Tt) [] [4] [] ⟨tr, tr⟩ (thenQ_normal ?_))
            refine AW.ret ?_
            refine thenQ_ret ?_
            replace h := some_eq h
            subst h
            exact ⟨.inr rfl, retOK_of [(.one (.c (.bool false)))] (by kernel_rfl) ⟨⟨rfl, tr⟩, tr⟩ (of_decide_eq_true (by kernel_rfl))⟩
          · refine AW.cond_f rfl b40 ?_
            refine AW.skip ?_
            refine thenQ_normal ?_
            refine AW.seq ?_
            refine AW.seq (AW.rA ⟨[(1, (vc (.flt .f32 a1.bits))), (2, (vp 1 0)), (6, (vp 6 0)), (7, (vc (.bool v6.2))), (9, (vp 12 0)), (12, (vc (.int .i64 v34.1))), (76, (vc (.bool (v38 != v34.1))))], [(1, (.box [(.c (.int .i64 a0.Length)), (.c (.int .i64 a0.Kind)), (.c (sl 1 (csL 5 cs_Key) a0.Tracks)), (.c (sl 4 cs_RootKey a0.Roots))])), (4, (.lst v6.1.Tracks.length 1 (gl (csL 5 cs_Key) v6.1.Tracks))), (5, (.lst v6.1.Roots.length 4 (gl cs_RootKey v6.1.Roots))), (6, (.box [(.c (.int .i64 v6.1.Length)), (.c (.int .i64 v6.1.Kind)), (.lst 4 v6.1.Tracks.length 1 (gl (csL 5 cs_Key) v6.1.Tracks)), (.lst 5 v6.1.Roots.length 4 (gl cs_RootKey v6.1.Roots))])), (10, (.arr true v34.2.1.length 1 (gl (csL 5 cs_Key) v34.2.1))), (11, (.arr true v34.2.2.length 4 (gl cs_RootKey v34.2.2))), (12, (.box [(.c (.int .i64 v10.1.Length)), (.c (.int .i64 v10.1.Kind)), (.arr 10), (.arr 11)]))]⟩ (Tt ∧ T2 Tt) [] [1, 2, 6, 7, 9, 12, 76] [1, 4, 5, 6, 10, 11, 12] ⟨tr, tr, tr, tr⟩ (thenQ_normal ?_))
            rcases ite2_cases h with ⟨b41, h⟩ | ⟨b41, h⟩
            · refine AW.cond_t rfl b41 ?_
              refine AW.seq (AW.rA ⟨[(4, (vc (.bool false)))], []⟩ (Tt ∧ Tt) [] [4] [] ⟨tr, tr⟩ (thenQ_normal ?_))
              refine AW.ret ?_
              refine thenQ_ret ?_
              replace h := some_eq h
              subst h
              exact ⟨.inr rfl, retOK_of [(.one (.c (.bool false)))] (by kernel_rfl) ⟨⟨rfl, tr⟩, tr⟩ (of_decide_eq_true (by kernel_rfl))⟩
            · refine AW.cond_f rfl b41 ?_
              refine AW.skip ?_
              refine thenQ_normal ?_
              refine AW.seq ?_
              obtain ⟨v42, e43, h⟩ := bind_some h
              obtain ⟨v44, e45, h⟩ := bind_some h
              refine AW.rA ⟨[(6, (vp 6 0)), (7, (vc (.bool v6.2))), (9, (vp 12 0)), (12, (vc (.int .i64 v34.1))), (14, (vp 19 0)), (15, (vc (.bool v44.2)))], [(4, (.lst v6.1.Tracks.length 1 (gl (csL 5 cs_Key) v6.1.Tracks))), (5, (.lst v6.1.Roots.length 4 (gl cs_RootKey v6.1.Roots))), (6, (.box [(.c (.int .i64 v6.1.Length)), (.c (.int .i64 v6.1.Kind)), (.lst 4 v6.1.Tracks.length 1 (gl (csL 5 cs_Key) v6.1.Tracks)), (.lst 5 v6.1.Roots.length 4 (gl cs_RootKey v6.1.Roots))])), (10, (.arr true v34.2.1.length 1 (gl (csL 5 cs_Key) v34.2.1))), (11, (.arr true v34.2.2.length 4 (gl cs_RootKey v34.2.2))), (12, (.box [(.c (.int .i64 v10.1.Length)), (.c (.int .i64 v10.1.Kind)), (.arr 10), (.arr 11)])), (17, (.lst v44.1.Tracks.length 1 (gl (csL 5 cs_Key) v44.1.Tracks))), (18, (.lst v44.1.Roots.length 4 (gl cs_RootKey v44.1.Roots))), (19, (.box [(.c (.int .i64 v44.1.Length)), (.c (.int .i64 v44.1.Kind)), (.lst 17 v44.1.Tracks.length 1 (gl (csL 5 cs_Key) v44.1.Tracks)), (.lst 18 v44.1.Roots.length 4 (gl cs_RootKey v44.1.Roots))]))]⟩ (Tt ∧ ((((Eqc (.int .i64 a0.Length)) ∧ (Eqc (.int .i64 a0.Kind)) ∧ (Eqc (sl 1 (csL 5 cs_Key) a0.Tracks)) ∧ (Eqc (sl 4 cs_RootKey a0.Roots)) ∧ Tt) ∧ Tt) ∧ CallOK Tryz.prog 6 [.agg (cs_Clip a0)] [.agg (cs_Clip v42)]) ∧ Tt ∧ ((((Eqc (.int .i64 v42.Length)) ∧ (Eqc (.int .i64 v42.Kind)) ∧ (Eqc (sl 1 (csL 5 cs_Key) v42.Tracks)) ∧ (Eqc (sl 4 cs_RootKey v42.Roots)) ∧ Tt) ∧ (Eqc (.flt .f32 a1.bits)) ∧ Tt) ∧ CallOK Tryz.prog 7 [.agg (cs_Clip v42), .one (.flt .f32 a1.bits)] [.agg (cs_Clip v44.1), .one (.bool v44.2)]) ∧ T2 (T4 Tt)) [.no, .call [.agg (cs_Clip a0)] [.agg (cs_Clip v42)] [[.view, .view, .lst 15, .lst 16]], .no, .call [.agg (cs_Clip v42), .one (.flt .f32 a1.bits)] [.agg (cs_Clip v44.1), .one (.bool v44.2)] [[.view, .view, .lst 17, .lst 18], [.view]], .no, .no, .no, .box 19] [6, 7, 9, 12, 14, 15] [4, 5, 6, 10, 11, 12, 17, 18, 19] ⟨tr, ⟨⟨⟨rfl, rfl, rfl, rfl, tr⟩, tr⟩, ok_laws_toClip K a0 v42 e43⟩, tr, ⟨⟨⟨rfl, rfl, rfl, rfl, tr⟩, rfl, tr⟩, ok_impl_ThinClip K v42 a1 v44 e45⟩, tr, tr, tr, tr, tr, tr, tr⟩ ?_
              refine thenQ_normal ?_
              refine AW.seq ?_
              refine AW.seq ?_
              obtain ⟨v46, e47, h⟩ := bind_some h
              obtain ⟨j49, e50, h⟩ := bind_some h
              refine AW.join1 (s2 := ⟨[(9, (vp 12 0)), (12, (vc (.int .i64 v34.1))), (92, (vc (.bool j49)))], [(10, (.arr true v34.2.1.length 1 (gl (csL 5 cs_Key) v34.2.1))), (11, (.arr true v34.2.2.length 4 (gl cs_RootKey v34.2.2))), (12, (.box [(.c (.int .i64 v10.1.Length)), (.c (.int .i64 v10.1.Kind)), (.arr 10), (.arr 11)]))]⟩) ?_ ?_
              · rcases ite2_cases e50 with ⟨b48, e50⟩ | ⟨b48, e50⟩
                · replace e50 := some_eq e50
                  subst e50
                  exact AW.rA ⟨[(9, (vp 12 0)), (12, (vc (.int .i64 v34.1))), (92, (vc (.bool true)))], [(10, (.arr true v34.2.1.length 1 (gl (csL 5 cs_Key) v34.2.1))), (11, (.arr true v34.2.2.length 4 (gl cs_RootKey v34.2.2))), (12, (.box [(.c (.int .i64 v10.1.Length)), (.c (.int .i64 v10.1.Kind)), (.arr 10), (.arr 11)]))]⟩ (T2 (((((Eqc (.int .i64 v44.1.Length)) ∧ (Eqc (.int .i64 v44.1.Kind)) ∧ (Eqc (sl 1 (csL 5 cs_Key) v44.1.Tracks)) ∧ (Eqc (sl 4 cs_RootKey v44.1.Roots)) ∧ Tt) ∧ ((Eqc (.int .i64 v6.1.Length)) ∧ (Eqc (.int .i64 v6.1.Kind)) ∧ (Eqc (sl 1 (csL 5 cs_Key) v6.1.Tracks)) ∧ (Eqc (sl 4 cs_RootKey v6.1.Roots)) ∧ Tt) ∧ Tt) ∧ CallOK Tryz.prog 8 [.agg (cs_Clip v44.1), .agg (cs_Clip v6.1)] [.one (.bool v46)]) ∧ Tt ∧ (Tt ∧ (!v46) = true) ∧ T4 Tt)) [.no, .no, .call [.agg (cs_Clip v44.1), .agg (cs_Clip v6.1)] [.one (.bool v46)] [[.view]], .no, .dec true] [9, 12, 92] [10, 11, 12] ⟨tr, tr, ⟨⟨⟨rfl, rfl, rfl, rfl, tr⟩, ⟨rfl, rfl, rfl, rfl, tr⟩, tr⟩, ok_laws_eqClip K v44.1 v6.1 v46 e47⟩, tr, ⟨tr, b48⟩, tr, tr, tr, tr, tr⟩ ⟨rfl, rfl⟩
                · replace e50 := some_eq e50
                  subst e50
                  exact AW.rA ⟨[(9, (vp 12 0)), (12, (vc (.int .i64 v34.1))), (92, (vc (.bool (!(v44.2 == v6.2)))))], [(10, (.arr true v34.2.1.length 1 (gl (csL 5 cs_Key) v34.2.1))), (11, (.arr true v34.2.2.length 4 (gl cs_RootKey v34.2.2))), (12, (.box [(.c (.int .i64 v10.1.Length)), (.c (.int .i64 v10.1.Kind)), (.arr 10), (.arr 11)]))]⟩ (T2 (((((Eqc (.int .i64 v44.1.Length)) ∧ (Eqc (.int .i64 v44.1.Kind)) ∧ (Eqc (sl 1 (csL 5 cs_Key) v44.1.Tracks)) ∧ (Eqc (sl 4 cs_RootKey v44.1.Roots)) ∧ Tt) ∧ ((Eqc (.int .i64 v6.1.Length)) ∧ (Eqc (.int .i64 v6.1.Kind)) ∧ (Eqc (sl 1 (csL 5 cs_Key) v6.1.Tracks)) ∧ (Eqc (sl 4 cs_RootKey v6.1.Roots)) ∧ Tt) ∧ Tt) ∧ CallOK Tryz.prog 8 [.agg (cs_Clip v44.1), .agg (cs_Clip v6.1)] [.one (.bool v46)]) ∧ Tt ∧ (Tt ∧ (!v46) = false) ∧ T4 Tt)) [.no, .no, .call [.agg (cs_Clip v44.1), .agg (cs_Clip v6.1)] [.one (.bool v46)] [[.view]], .no, .dec false] [9, 12, 92] [10, 11, 12] ⟨tr, tr, ⟨⟨⟨rfl, rfl, rfl, rfl, tr⟩, ⟨rfl, rfl, rfl, rfl, tr⟩, tr⟩, ok_laws_eqClip K v44.1 v6.1 v46 e47⟩, tr, ⟨tr, b48⟩, tr, tr, tr, tr, tr⟩ ⟨rfl, rfl⟩
              refine thenQ_normal ?_
              rcases ite2_cases h with ⟨b51, h⟩ | ⟨b51, h⟩
              · refine AW.cond_t rfl b51 ?_
                refine AW.seq (AW.rA ⟨[(4, (vc (.bool false)))], []⟩ (Tt ∧ Tt) [] [4] [] ⟨tr, tr⟩ (thenQ_normal ?_))
                refine AW.ret ?_
                refine thenQ_ret ?_
                replace h := some_eq h
                subst h
                exact ⟨.inr rfl, retOK_of [(.one (.c (.bool false)))] (by kernel_rfl) ⟨⟨rfl, tr⟩, tr⟩ (of_decide_eq_true (by kernel_rfl))⟩
              · refine AW.cond_f rfl b51 ?_
                refine AW.skip ?_
                refine thenQ_normal ?_
                refine AW.seq (AW.rA ⟨[(9, (vp 12 0)), (12, (vc (.int .i64 v34.1))), (13, (vc (.int .i64 (1 : Int))))], [(10, (.arr true v34.2.1.length 1 (gl (csL 5 cs_Key) v34.2.1))), (11, (.arr true v34.2.2.length 4 (gl cs_RootKey v34.2.2))), (12, (.box [(.c (.int .i64 v10.1.Length)), (.c (.int .i64 v10.1.Kind)), (.arr 10), (.arr 11)]))]⟩ (Tt ∧ Tt) [] [9, 12, 13] [10, 11, 12] ⟨tr, tr⟩ (thenQ_normal ?_))
                refine AW.seq ?_
                obtain ⟨v52, e53, h⟩ := bind_some h
                refine AW.rA ⟨[(12, (vc (.int .i64 v34.1))), (13, (vc (.int .i64 v52)))], []⟩ (T2 (((((Eqc (.int .i64 v10.1.Length)) ∧ (Eqc (.int .i64 v10.1.Kind)) ∧ (Eqc (sl 1 (csL 5 cs_Key) v34.2.1)) ∧ (Eqc (sl 4 cs_RootKey v34.2.2)) ∧ Tt) ∧ (Eqc (.int .i64 (1 : Int))) ∧ Tt) ∧ CallOK Tryz.prog 10 [.agg (cs_Clip (Clip.mk v10.1.Length v10.1.Kind v34.2.1 v34.2.2)), .one (.int .i64 (1 : Int))] [.one (.int .i64 v52)]) ∧ Tt ∧ Tt)) [.no, .no, .call [.agg (cs_Clip (Clip.mk v10.1.Length v10.1.Kind v34.2.1 v34.2.2)), .one (.int .i64 (1 : Int))] [.one (.int .i64 v52)] [[.view]]] [12, 13] [] ⟨tr, tr, ⟨⟨⟨rfl, rfl, rfl, rfl, tr⟩, rfl, tr⟩, ok_laws_heldClip K (Clip.mk v10.1.Length v10.1.Kind v34.2.1 v34.2.2) (1 : Int) v52 e53⟩, tr, tr⟩ ?_
                refine thenQ_normal ?_
                refine AW.seq ?_
                refine AW.seq (AW.rA ⟨[(12, (vc (.int .i64 v34.1))), (13, (vc (.int .i64 v52))), (97, (vc (.bool (decide (v52 < (0 : Int))))))], []⟩ (T2 Tt) [] [12, 13, 97] [] ⟨tr, tr, tr⟩ (thenQ_normal ?_))
                rcases ite2_cases h with ⟨b54, h⟩ | ⟨b54, h⟩
                · refine AW.cond_t rfl b54 ?_
                  refine AW.seq (AW.rA ⟨[(4, (vc (.bool false)))], []⟩ (Tt ∧ Tt) [] [4] [] ⟨tr, tr⟩ (thenQ_normal ?_))
                  refine AW.ret ?_
                  refine thenQ_ret ?_
                  replace h := some_eq h
                  subst h
                  exact ⟨.inr rfl, retOK_of [(.one (.c (.bool false)))] (by kernel_rfl) ⟨⟨rfl, tr⟩, tr⟩ (of_decide_eq_true (by kernel_rfl))⟩
                · refine AW.cond_f rfl b54 ?_
                  refine AW.skip ?_
                  refine thenQ_normal ?_
                  refine AW.seq ?_
                  refine AW.seq (AW.rA ⟨[(100, (vc (.bool (v52 != v34.1))))], []⟩ (Tt ∧ T2 Tt) [] [100] [] ⟨tr, tr, tr, tr⟩ (thenQ_normal ?_))
                  rcases ite2_cases h with ⟨b55, h⟩ | ⟨b55, h⟩
                  · refine AW.cond_t rfl b55 ?_
                    refine AW.seq (AW.rA ⟨[(4, (vc (.bool false)))], []⟩ (Tt ∧ Tt) [] [4] [] ⟨tr, tr⟩ (thenQ_normal ?_))
                    refine AW.ret ?_
                    refine thenQ_ret ?_
                    replace h := some_eq h
                    subst h
                    exact ⟨.inr rfl, retOK_of [(.one (.c (.bool false)))] (by kernel_rfl) ⟨⟨rfl, tr⟩, tr⟩ (of_decide_eq_true (by kernel_rfl))⟩
                  · refine AW.cond_f rfl b55 ?_
                    refine AW.skip ?_
                    refine thenQ_normal ?_
                    refine AW.seq (AW.rA ⟨[(4, (vc (.bool true)))], []⟩ (Tt ∧ Tt) [] [4] [] ⟨tr, tr⟩ (thenQ_normal ?_))
                    refine AW.ret ?_
                    replace h := some_eq h
                    subst h
                    exact ⟨.inr rfl, retOK_of [(.one (.c (.bool true)))] (by kernel_rfl) ⟨⟨rfl, tr⟩, tr⟩ (of_decide_eq_true (by kernel_rfl))⟩

end
end Go.Fw
