/- Functions of the program: what each computes, and that it computes just that. -/
import Derived.Test.YteehipecgmfeiaaGreatFwTy
import Derived.Test.YteehipecgmfeiaaGreatFwH
import Derived.Test.YteehipecgmfeiaaGreatFwV
import Derived.Test.YteehipecgmfeiaaGreatFwTC1
import Derived.Test.YteehipecgmfeiaaGreatFwAB
import Derived.Test.YteehipecgmfeiaaGreatFwUB
import Derived.Test.YteehipecgmfeiaaGreatProg
import Derived.KernelRfl
namespace Go.Fw
open Go Go.Proofs
noncomputable section
set_option maxRecDepth 10000

/-! spec.ThinClip -/
def spec_ThinClip_l5 (K : Nat) (a0 : Clip) (a1 : F32) (x8 : Int) : Nat → Int → (List Key) → Option ((List Key))
  | 0, _, _ => none
  | k + 1, x34, x35 => ite2 ((decide (x34 < ((a0.Tracks.getD x8.toNat default).length : Int)))) (ite2 ((decide ((IntKind.i64.wrap (x34 + (1 : Int))) < ((a0.Tracks.getD x8.toNat default).length : Int)))) (chk (0 ≤ (IntKind.i64.wrap ((x35.length : Int) - (1 : Int))) ∧ (IntKind.i64.wrap ((x35.length : Int) - (1 : Int))) < (x35.length : Int)) (chk (0 ≤ x34 ∧ x34 < ((a0.Tracks.getD x8.toNat default).length : Int)) (chk (0 ≤ (IntKind.i64.wrap (x34 + (1 : Int))) ∧ (IntKind.i64.wrap (x34 + (1 : Int))) < ((a0.Tracks.getD x8.toNat default).length : Int)) ((spec_l02Near K ((x35.getD ((IntKind.i64.wrap ((x35.length : Int) - (1 : Int))).toNat) default).Turn) (((a0.Tracks.getD x8.toNat default).getD ((IntKind.i64.wrap (x34 + (1 : Int))).toNat) default).Turn) ((Fl.ofInt .f32 (IntKind.i64.wrap ((((a0.Tracks.getD x8.toNat default).getD x34.toNat default).At) - ((x35.getD ((IntKind.i64.wrap ((x35.length : Int) - (1 : Int))).toNat) default).At)))).div (Fl.ofInt .f32 (IntKind.i64.wrap ((((a0.Tracks.getD x8.toNat default).getD ((IntKind.i64.wrap (x34 + (1 : Int))).toNat) default).At) - ((x35.getD ((IntKind.i64.wrap ((x35.length : Int) - (1 : Int))).toNat) default).At)))))).bind fun v41 => (spec_l02Apart K (((a0.Tracks.getD x8.toNat default).getD x34.toNat default).Turn) v41).bind fun v43 => ite2 ((v43.le a1)) (spec_ThinClip_l5 K a0 a1 x8 k (IntKind.i64.wrap (x34 + (1 : Int))) x35) (chk ((x35.length + ([((a0.Tracks.getD x8.toNat default).getD x34.toNat default)]).length) * 24 ≤ 140737488355328) (spec_ThinClip_l5 K a0 a1 x8 k (IntKind.i64.wrap (x34 + (1 : Int))) (x35 ++ ([((a0.Tracks.getD x8.toNat default).getD x34.toNat default)])))))))) (chk (0 ≤ x34 ∧ x34 < ((a0.Tracks.getD x8.toNat default).length : Int)) (chk ((x35.length + ([((a0.Tracks.getD x8.toNat default).getD x34.toNat default)]).length) * 24 ≤ 140737488355328) (spec_ThinClip_l5 K a0 a1 x8 k (IntKind.i64.wrap (x34 + (1 : Int))) (x35 ++ ([((a0.Tracks.getD x8.toNat default).getD x34.toNat default)])))))) (some x35)

def spec_ThinClip_l4 (K : Nat) (a0 : Clip) (a1 : F32) (v4 : ((List RootKey))) : Nat → Int → (List (List Key)) → Option (Clip × Bool)
  | 0, _, _ => none
  | k + 1, x8, x9 => ite2 ((decide (x8 < (a0.Tracks.length : Int)))) (chk (0 ≤ x8 ∧ x8 < (a0.Tracks.length : Int)) (chk (0 ≤ (0 : Int) ∧ (0 : Int) < ((a0.Tracks.getD x8.toNat default).length : Int)) ((spec_ThinClip_l5 K a0 a1 x8 K (1 : Int) ([((a0.Tracks.getD x8.toNat default).getD ((0 : Int).toNat) default)])).bind fun j30 => chk ((x9.length + ([j30]).length) * 24 ≤ 140737488355328) (spec_ThinClip_l4 K a0 a1 v4 k (IntKind.i64.wrap (x8 + (1 : Int))) (x9 ++ ([j30])))))) (some ((Clip.mk a0.Length a0.Kind x9 v4), true))

def spec_ThinClip (K : Nat) (a0 : Clip) (a1 : F32) : Option (Clip × Bool) :=
  (spec_l05Is K a0).bind fun v1 => ite2 ((!v1)) (some ((Clip.mk (0 : Int) (0 : Int) ([] : (List (List Key))) ([] : (List RootKey))), false)) ((spec_l05Own K a0.Roots).bind fun v4 => spec_ThinClip_l4 K a0 a1 v4 K (0 : Int) ([] : (List (List Key))))

theorem ok_spec_ThinClip (K : Nat) (a0 : Clip) (a1 : F32) (o : (Clip × Bool)) (h : spec_ThinClip K a0 a1 = some o) : CallOK Tryz.prog 5 [.agg (cs_Clip a0), .one (.flt .f32 a1.bits)] [.agg (cs_Clip o.1), .one (.bool o.2)] := by
  refine callOK_of_AW Tryz.func5 rfl (by kernel_rfl) (Nat.le_of_ble_eq_true (by kernel_rfl)) ?_
  intro w0
  unfold spec_ThinClip at h
  refine AW.seq (AW.rA ⟨[(1, (vc (.flt .f32 a1.bits))), (2, (vp 1 0)), (4, (vp 2 0))], [(1, (.box [(.c (.int .i64 a0.Length)), (.c (.int .i64 a0.Kind)), (.c (sl 1 (csL 5 cs_Key) a0.Tracks)), (.c (sl 4 cs_RootKey a0.Roots))])), (2, (.box [(.c (.int .i64 (0 : Int))), (.c (.int .i64 (0 : Int))), .nils, .nils]))]⟩ (Tt ∧ T2 Tt) [.box 1, .box 2] [1, 2, 4] [1, 2] ⟨tr, tr, tr, tr⟩ (thenQ_normal ?_))
  refine AW.seq ?_
  refine AW.seq ?_
  obtain ⟨v1, e2, h⟩ := bind_some h
  refine AW.rA ⟨[(1, (vc (.flt .f32 a1.bits))), (2, (vp 1 0)), (4, (vp 2 0)), (14, (vc (.bool (!v1))))], [(1, (.box [(.c (.int .i64 a0.Length)), (.c (.int .i64 a0.Kind)), (.c (sl 1 (csL 5 cs_Key) a0.Tracks)), (.c (sl 4 cs_RootKey a0.Roots))])), (2, (.box [(.c (.int .i64 (0 : Int))), (.c (.int .i64 (0 : Int))), .nils, .nils]))]⟩ ((((0 = 0 ∧ (Eqc (.int .i64 a0.Length)) ∧ (Eqc (.int .i64 a0.Kind)) ∧ (Eqc (sl 1 (csL 5 cs_Key) a0.Tracks)) ∧ (Eqc (sl 4 cs_RootKey a0.Roots)) ∧ Tt) ∧ Tt) ∧ CallOK Tryz.prog 13 [.one (pl 4 cs_Clip a0)] [.one (.bool v1)]) ∧ Tt ∧ Tt) [.call [.one (pl 4 cs_Clip a0)] [.one (.bool v1)] [[.view]]] [1, 2, 4, 14] [1, 2] ⟨⟨⟨⟨rfl, rfl, rfl, rfl, rfl, tr⟩, tr⟩, ok_spec_l05Is K a0 v1 e2⟩, tr, tr⟩ ?_
  refine thenQ_normal ?_
  rcases ite2_cases h with ⟨b3, h⟩ | ⟨b3, h⟩
  · refine AW.cond_t rfl b3 ?_
    refine AW.seq (AW.rA ⟨[(4, (vp 2 0)), (5, (vc (.bool false)))], [(2, (.box [(.c (.int .i64 (0 : Int))), (.c (.int .i64 (0 : Int))), .nils, .nils]))]⟩ (Tt ∧ T2 Tt) [] [4, 5] [2] ⟨tr, tr, tr, tr⟩ (thenQ_normal ?_))
    refine AW.ret ?_
    refine thenQ_ret ?_
    replace h := some_eq h
    subst h
    exact ⟨.inr rfl, retOK_of [(.agg [(.c (.int .i64 (0 : Int))), (.c (.int .i64 (0 : Int))), .nils, .nils]), (.one (.c (.bool false)))] (by kernel_rfl) ⟨⟨⟨rfl, tr⟩, ⟨rfl, tr⟩, rfl, rfl, tr⟩, ⟨rfl, tr⟩, tr⟩ (of_decide_eq_true (by kernel_rfl))⟩
  · refine AW.cond_f rfl b3 ?_
    refine AW.skip ?_
    refine thenQ_normal ?_
    refine AW.seq ?_
    obtain ⟨v4, e5, h⟩ := bind_some h
    refine AW.dA ⟨[(1, (vc (.flt .f32 a1.bits))), (2, (vp 1 0)), (4, (vp 2 0)), (6, (vp 4 0))], [(1, (.box [(.c (.int .i64 a0.Length)), (.c (.int .i64 a0.Kind)), (.c (sl 1 (csL 5 cs_Key) a0.Tracks)), (.c (sl 4 cs_RootKey a0.Roots))])), (2, (.box [(.c (.int .i64 (0 : Int))), (.c (.int .i64 (0 : Int))), .nils, .nils])), (3, (.lst v4.length 4 (gl cs_RootKey v4))), (4, (.box [(.c (.int .i64 a0.Length)), (.c (.int .i64 a0.Kind)), .nils, (.lst 3 v4.length 4 (gl cs_RootKey v4))]))]⟩ ((T2 (T4 ((((Eqc (sl 4 cs_RootKey a0.Roots)) ∧ Tt) ∧ CallOK Tryz.prog 14 [.one (sl 4 cs_RootKey a0.Roots)] [.one (sl 4 cs_RootKey v4)]) ∧ T2 Tt))) ∧ (Tt ∧ Tt)) 9 [.no, .no, .no, .no, .no, .no, .call [.one (sl 4 cs_RootKey a0.Roots)] [.one (sl 4 cs_RootKey v4)] [[.lst 3]], .no, .box 4] [1, 2, 4, 6] [1, 2, 3, 4] ⟨⟨tr, tr, tr, tr, tr, tr, ⟨⟨rfl, tr⟩, ok_spec_l05Own K a0.Roots v4 e5⟩, tr, tr, tr⟩, ⟨tr, tr⟩⟩ ?_
    refine thenQ_normal ?_
    refine AW.seq ?_
    refine AW.seq (AW.rA ⟨[(1, (vc (.flt .f32 a1.bits))), (2, (vp 1 0)), (4, (vp 2 0)), (6, (vp 4 0)), (26, (vc (.int .i64 (a0.Tracks.length : Int)))), (27, (vc (.int .i64 (0 : Int))))], [(1, (.box [(.c (.int .i64 a0.Length)), (.c (.int .i64 a0.Kind)), (.c (sl 1 (csL 5 cs_Key) a0.Tracks)), (.c (sl 4 cs_RootKey a0.Roots))])), (2, (.box [(.c (.int .i64 (0 : Int))), (.c (.int .i64 (0 : Int))), .nils, .nils])), (3, (.lst v4.length 4 (gl cs_RootKey v4))), (4, (.box [(.c (.int .i64 a0.Length)), (.c (.int .i64 a0.Kind)), .nils, (.lst 3 v4.length 4 (gl cs_RootKey v4))]))]⟩ (T4 Tt) [] [1, 2, 4, 6, 26, 27] [1, 2, 3, 4] ⟨tr, tr, tr, tr, tr⟩ (thenQ_normal ?_))
    refine AW.block ?_
    refine AW.weak (s' := ⟨[(1, (vc (.flt .f32 a1.bits))), (2, (vp 1 0)), (4, (vp 2 0)), (6, (vp 4 0)), (26, (vc (.int .i64 (a0.Tracks.length : Int)))), (27, (vc (.int .i64 (0 : Int))))], [(1, (.box [(.c (.int .i64 a0.Length)), (.c (.int .i64 a0.Kind)), (.c (sl 1 (csL 5 cs_Key) a0.Tracks)), (.c (sl 4 cs_RootKey a0.Roots))])), (2, (.box [(.c (.int .i64 (0 : Int))), (.c (.int .i64 (0 : Int))), .nils, .nils])), (3, (.lst v4.length 4 (gl cs_RootKey v4))), (4, (.box [(.c (.int .i64 a0.Length)), (.c (.int .i64 a0.Kind)), (.lst 38 ([] : (List (List Key))).length 1 (gl (csL 5 cs_Key) ([] : (List (List Key))))), (.lst 3 v4.length 4 (gl cs_RootKey v4))])), (38, (.lst ([] : (List (List Key))).length 1 (gl (csL 5 cs_Key) ([] : (List (List Key))))))]⟩) (Sub.trans (Sub.unnil 38 1 (gl (csL 5 cs_Key) ([] : (List (List Key)))) [] [(4, 2)] _ (by kernel_rfl) (by kernel_rfl)) (Sub.keep [1, 2, 4, 6, 26, 27] [1, 2, 3, 4, 38] (by kernel_rfl) (by kernel_rfl))) ?_
    refine AW.loopQ (σ := Nat × Int × (List (List Key))) (fun p => ⟨[(1, (vc (.flt .f32 a1.bits))), (2, (vp 1 0)), (4, (vp 2 0)), (6, (vp 4 0)), (26, (vc (.int .i64 (a0.Tracks.length : Int)))), (27, (vc (.int .i64 p.2.1)))], [(1, (.box [(.c (.int .i64 a0.Length)), (.c (.int .i64 a0.Kind)), (.c (sl 1 (csL 5 cs_Key) a0.Tracks)), (.c (sl 4 cs_RootKey a0.Roots))])), (2, (.box [(.c (.int .i64 (0 : Int))), (.c (.int .i64 (0 : Int))), .nils, .nils])), (3, (.lst v4.length 4 (gl cs_RootKey v4))), (4, (.box [(.c (.int .i64 a0.Length)), (.c (.int .i64 a0.Kind)), (.lst 38 p.2.2.length 1 (gl (csL 5 cs_Key) p.2.2)), (.lst 3 v4.length 4 (gl cs_RootKey v4))])), (38, (.lst p.2.2.length 1 (gl (csL 5 cs_Key) p.2.2)))]⟩) (fun p => spec_ThinClip_l4 K a0 a1 v4 p.1 p.2.1 p.2.2 = some o) (fun p => p.1) (K, (0 : Int), ([] : (List (List Key)))) h ?_
    clear h
    rintro ⟨k, x8, x9⟩ h
    replace h : spec_ThinClip_l4 K a0 a1 v4 k x8 x9 = some o := h
    show AW _ _ (⟨[(1, (vc (.flt .f32 a1.bits))), (2, (vp 1 0)), (4, (vp 2 0)), (6, (vp 4 0)), (26, (vc (.int .i64 (a0.Tracks.length : Int)))), (27, (vc (.int .i64 x8)))], [(1, (.box [(.c (.int .i64 a0.Length)), (.c (.int .i64 a0.Kind)), (.c (sl 1 (csL 5 cs_Key) a0.Tracks)), (.c (sl 4 cs_RootKey a0.Roots))])), (2, (.box [(.c (.int .i64 (0 : Int))), (.c (.int .i64 (0 : Int))), .nils, .nils])), (3, (.lst v4.length 4 (gl cs_RootKey v4))), (4, (.box [(.c (.int .i64 a0.Length)), (.c (.int .i64 a0.Kind)), (.lst 38 x9.length 1 (gl (csL 5 cs_Key) x9)), (.lst 3 v4.length 4 (gl cs_RootKey v4))])), (38, (.lst x9.length 1 (gl (csL 5 cs_Key) x9)))]⟩ : St) _
    obtain _ | k := k
    · rw [spec_ThinClip_l4] at h; cases h
    rw [spec_ThinClip_l4] at h
    refine AW.seq (AW.rA ⟨[(1, (vc (.flt .f32 a1.bits))), (2, (vp 1 0)), (4, (vp 2 0)), (6, (vp 4 0)), (26, (vc (.int .i64 (a0.Tracks.length : Int)))), (27, (vc (.int .i64 x8))), (28, (vc (.bool (decide (x8 < (a0.Tracks.length : Int))))))], [(1, (.box [(.c (.int .i64 a0.Length)), (.c (.int .i64 a0.Kind)), (.c (sl 1 (csL 5 cs_Key) a0.Tracks)), (.c (sl 4 cs_RootKey a0.Roots))])), (2, (.box [(.c (.int .i64 (0 : Int))), (.c (.int .i64 (0 : Int))), .nils, .nils])), (3, (.lst v4.length 4 (gl cs_RootKey v4))), (4, (.box [(.c (.int .i64 a0.Length)), (.c (.int .i64 a0.Kind)), (.lst 38 x9.length 1 (gl (csL 5 cs_Key) x9)), (.lst 3 v4.length 4 (gl cs_RootKey v4))])), (38, (.lst x9.length 1 (gl (csL 5 cs_Key) x9)))]⟩ (Tt ∧ Tt) [] [1, 2, 4, 6, 26, 27, 28] [1, 2, 3, 4, 38] ⟨tr, tr⟩ (thenQ_normal ?_))
    refine AW.seq ?_
    rcases ite2_cases h with ⟨b10, h⟩ | ⟨b10, h⟩
    · refine AW.cond_t rfl b10 ?_
      refine AW.skip ?_
      refine thenQ_normal ?_
      refine AW.seq ?_
      refine AW.block ?_
      refine AW.seq (AW.rA ⟨[(1, (vc (.flt .f32 a1.bits))), (2, (vp 1 0)), (4, (vp 2 0)), (6, (vp 4 0)), (7, (vc (.int .i64 x8))), (26, (vc (.int .i64 (a0.Tracks.length : Int)))), (27, (vc (.int .i64 x8)))], [(1, (.box [(.c (.int .i64 a0.Length)), (.c (.int .i64 a0.Kind)), (.c (sl 1 (csL 5 cs_Key) a0.Tracks)), (.c (sl 4 cs_RootKey a0.Roots))])), (2, (.box [(.c (.int .i64 (0 : Int))), (.c (.int .i64 (0 : Int))), .nils, .nils])), (3, (.lst v4.length 4 (gl cs_RootKey v4))), (4, (.box [(.c (.int .i64 a0.Length)), (.c (.int .i64 a0.Kind)), (.lst 38 x9.length 1 (gl (csL 5 cs_Key) x9)), (.lst 3 v4.length 4 (gl cs_RootKey v4))])), (38, (.lst x9.length 1 (gl (csL 5 cs_Key) x9)))]⟩ (T2 Tt) [] [1, 2, 4, 6, 7, 26, 27] [1, 2, 3, 4, 38] ⟨tr, tr, tr⟩ (thenQ_normal ?_))
      refine AW.seq ?_
      obtain ⟨c11, h⟩ := chk_some h
      refine AW.rA ⟨[(1, (vc (.flt .f32 a1.bits))), (2, (vp 1 0)), (4, (vp 2 0)), (6, (vp 4 0)), (8, (vc (sl 5 cs_Key (a0.Tracks.getD x8.toNat default)))), (26, (vc (.int .i64 (a0.Tracks.length : Int)))), (27, (vc (.int .i64 x8)))], [(1, (.box [(.c (.int .i64 a0.Length)), (.c (.int .i64 a0.Kind)), (.c (sl 1 (csL 5 cs_Key) a0.Tracks)), (.c (sl 4 cs_RootKey a0.Roots))])), (2, (.box [(.c (.int .i64 (0 : Int))), (.c (.int .i64 (0 : Int))), .nils, .nils])), (3, (.lst v4.length 4 (gl cs_RootKey v4))), (4, (.box [(.c (.int .i64 a0.Length)), (.c (.int .i64 a0.Kind)), (.lst 38 x9.length 1 (gl (csL 5 cs_Key) x9)), (.lst 3 v4.length 4 (gl cs_RootKey v4))])), (38, (.lst x9.length 1 (gl (csL 5 cs_Key) x9)))]⟩ (Tt ∧ T2 ((0 ≤ x8 ∧ x8 < (a0.Tracks.length : Int)) ∧ T2 Tt)) [] [1, 2, 4, 6, 8, 26, 27] [1, 2, 3, 4, 38] ⟨tr, tr, tr, c11, tr, tr, tr⟩ ?_
      refine thenQ_normal ?_
      refine AW.seq ?_
      obtain ⟨c12, h⟩ := chk_some h
      refine AW.rA ⟨[(1, (vc (.flt .f32 a1.bits))), (2, (vp 1 0)), (4, (vp 2 0)), (6, (vp 4 0)), (8, (vc (sl 5 cs_Key (a0.Tracks.getD x8.toNat default)))), (9, (.v (.one (.lst 105 ([((a0.Tracks.getD x8.toNat default).getD ((0 : Int).toNat) default)]).length 5 (gl cs_Key ([((a0.Tracks.getD x8.toNat default).getD ((0 : Int).toNat) default)])))))), (26, (vc (.int .i64 (a0.Tracks.length : Int)))), (27, (vc (.int .i64 x8)))], [(1, (.box [(.c (.int .i64 a0.Length)), (.c (.int .i64 a0.Kind)), (.c (sl 1 (csL 5 cs_Key) a0.Tracks)), (.c (sl 4 cs_RootKey a0.Roots))])), (2, (.box [(.c (.int .i64 (0 : Int))), (.c (.int .i64 (0 : Int))), .nils, .nils])), (3, (.lst v4.length 4 (gl cs_RootKey v4))), (4, (.box [(.c (.int .i64 a0.Length)), (.c (.int .i64 a0.Kind)), (.lst 38 x9.length 1 (gl (csL 5 cs_Key) x9)), (.lst 3 v4.length 4 (gl cs_RootKey v4))])), (38, (.lst x9.length 1 (gl (csL 5 cs_Key) x9))), (105, (.lst ([((a0.Tracks.getD x8.toNat default).getD ((0 : Int).toNat) default)]).length 5 (gl cs_Key ([((a0.Tracks.getD x8.toNat default).getD ((0 : Int).toNat) default)]))))]⟩ (Tt ∧ (0 ≤ (0 : Int) ∧ (0 : Int) < ((a0.Tracks.getD x8.toNat default).length : Int)) ∧ Tt ∧ (([((a0.Tracks.getD x8.toNat default).getD ((0 : Int).toNat) default)]).length = 1 ∧ (((.int .i64 (((a0.Tracks.getD x8.toNat default).getD ((0 : Int).toNat) default).At)) : C) = (.int .i64 (((a0.Tracks.getD x8.toNat default).getD ((0 : Int).toNat) default).At)) ∧ Tt) ∧ (((.flt .f32 ((((a0.Tracks.getD x8.toNat default).getD ((0 : Int).toNat) default).Turn).W).bits) : C) = (.flt .f32 ((((a0.Tracks.getD x8.toNat default).getD ((0 : Int).toNat) default).Turn).W).bits) ∧ Tt) ∧ (((.flt .f32 ((((a0.Tracks.getD x8.toNat default).getD ((0 : Int).toNat) default).Turn).X).bits) : C) = (.flt .f32 ((((a0.Tracks.getD x8.toNat default).getD ((0 : Int).toNat) default).Turn).X).bits) ∧ Tt) ∧ (((.flt .f32 ((((a0.Tracks.getD x8.toNat default).getD ((0 : Int).toNat) default).Turn).Y).bits) : C) = (.flt .f32 ((((a0.Tracks.getD x8.toNat default).getD ((0 : Int).toNat) default).Turn).Y).bits) ∧ Tt) ∧ (((.flt .f32 ((((a0.Tracks.getD x8.toNat default).getD ((0 : Int).toNat) default).Turn).Z).bits) : C) = (.flt .f32 ((((a0.Tracks.getD x8.toNat default).getD ((0 : Int).toNat) default).Turn).Z).bits) ∧ Tt) ∧ Tt) ∧ Tt ∧ Tt) [.no, .no, .no, .obj 105 ([((a0.Tracks.getD x8.toNat default).getD ((0 : Int).toNat) default)]).length (gl cs_Key ([((a0.Tracks.getD x8.toNat default).getD ((0 : Int).toNat) default)]))] [1, 2, 4, 6, 8, 9, 26, 27] [1, 2, 3, 4, 38, 105] ⟨tr, c12, tr, ⟨rfl, ⟨⟨rfl, tr⟩, ⟨rfl, tr⟩, ⟨rfl, tr⟩, ⟨rfl, tr⟩, ⟨rfl, tr⟩, tr⟩⟩, tr, tr⟩ ?_
      refine thenQ_normal ?_
      refine AW.seq ?_
      refine AW.seq (AW.rA ⟨[(1, (vc (.flt .f32 a1.bits))), (2, (vp 1 0)), (4, (vp 2 0)), (6, (vp 4 0)), (8, (vc (sl 5 cs_Key (a0.Tracks.getD x8.toNat default)))), (9, (.v (.one (.lst 105 ([((a0.Tracks.getD x8.toNat default).getD ((0 : Int).toNat) default)]).length 5 (gl cs_Key ([((a0.Tracks.getD x8.toNat default).getD ((0 : Int).toNat) default)])))))), (10, (vc (.int .i64 (1 : Int)))), (26, (vc (.int .i64 (a0.Tracks.length : Int)))), (27, (vc (.int .i64 x8)))], [(1, (.box [(.c (.int .i64 a0.Length)), (.c (.int .i64 a0.Kind)), (.c (sl 1 (csL 5 cs_Key) a0.Tracks)), (.c (sl 4 cs_RootKey a0.Roots))])), (2, (.box [(.c (.int .i64 (0 : Int))), (.c (.int .i64 (0 : Int))), .nils, .nils])), (3, (.lst v4.length 4 (gl cs_RootKey v4))), (4, (.box [(.c (.int .i64 a0.Length)), (.c (.int .i64 a0.Kind)), (.lst 38 x9.length 1 (gl (csL 5 cs_Key) x9)), (.lst 3 v4.length 4 (gl cs_RootKey v4))])), (38, (.lst x9.length 1 (gl (csL 5 cs_Key) x9))), (105, (.lst ([((a0.Tracks.getD x8.toNat default).getD ((0 : Int).toNat) default)]).length 5 (gl cs_Key ([((a0.Tracks.getD x8.toNat default).getD ((0 : Int).toNat) default)]))))]⟩ (Tt ∧ Tt) [] [1, 2, 4, 6, 8, 9, 10, 26, 27] [1, 2, 3, 4, 38, 105] ⟨tr, tr⟩ (thenQ_normal ?_))
      obtain ⟨j30, e31, h⟩ := bind_some h
      refine AW.joinS (s2 := ⟨[(1, (vc (.flt .f32 a1.bits))), (2, (vp 1 0)), (4, (vp 2 0)), (6, (vp 4 0)), (9, (.v (.one (.lst 105 j30.length 5 (gl cs_Key j30))))), (26, (vc (.int .i64 (a0.Tracks.length : Int)))), (27, (vc (.int .i64 x8)))], [(1, (.box [(.c (.int .i64 a0.Length)), (.c (.int .i64 a0.Kind)), (.c (sl 1 (csL 5 cs_Key) a0.Tracks)), (.c (sl 4 cs_RootKey a0.Roots))])), (2, (.box [(.c (.int .i64 (0 : Int))), (.c (.int .i64 (0 : Int))), .nils, .nils])), (3, (.lst v4.length 4 (gl cs_RootKey v4))), (4, (.box [(.c (.int .i64 a0.Length)), (.c (.int .i64 a0.Kind)), (.lst 38 x9.length 1 (gl (csL 5 cs_Key) x9)), (.lst 3 v4.length 4 (gl cs_RootKey v4))])), (38, (.lst x9.length 1 (gl (csL 5 cs_Key) x9))), (105, (.lst j30.length 5 (gl cs_Key j30)))]⟩) ?_ ?_
      · replace h := e31
        refine AW.block ?_
        refine AW.loopQ (σ := Nat × Int × (List Key)) (fun p => ⟨[(1, (vc (.flt .f32 a1.bits))), (2, (vp 1 0)), (4, (vp 2 0)), (6, (vp 4 0)), (8, (vc (sl 5 cs_Key (a0.Tracks.getD x8.toNat default)))), (9, (.v (.one (.lst 105 p.2.2.length 5 (gl cs_Key p.2.2))))), (10, (vc (.int .i64 p.2.1))), (26, (vc (.int .i64 (a0.Tracks.length : Int)))), (27, (vc (.int .i64 x8)))], [(1, (.box [(.c (.int .i64 a0.Length)), (.c (.int .i64 a0.Kind)), (.c (sl 1 (csL 5 cs_Key) a0.Tracks)), (.c (sl 4 cs_RootKey a0.Roots))])), (2, (.box [(.c (.int .i64 (0 : Int))), (.c (.int .i64 (0 : Int))), .nils, .nils])), (3, (.lst v4.length 4 (gl cs_RootKey v4))), (4, (.box [(.c (.int .i64 a0.Length)), (.c (.int .i64 a0.Kind)), (.lst 38 x9.length 1 (gl (csL 5 cs_Key) x9)), (.lst 3 v4.length 4 (gl cs_RootKey v4))])), (38, (.lst x9.length 1 (gl (csL 5 cs_Key) x9))), (105, (.lst p.2.2.length 5 (gl cs_Key p.2.2)))]⟩) (fun p => spec_ThinClip_l5 K a0 a1 x8 p.1 p.2.1 p.2.2 = some j30) (fun p => p.1) (K, (1 : Int), [((a0.Tracks.getD x8.toNat default).getD ((0 : Int).toNat) default)]) h ?_
        clear h
        rintro ⟨k, x34, x35⟩ h
        replace h : spec_ThinClip_l5 K a0 a1 x8 k x34 x35 = some j30 := h
        show AW _ _ (⟨[(1, (vc (.flt .f32 a1.bits))), (2, (vp 1 0)), (4, (vp 2 0)), (6, (vp 4 0)), (8, (vc (sl 5 cs_Key (a0.Tracks.getD x8.toNat default)))), (9, (.v (.one (.lst 105 x35.length 5 (gl cs_Key x35))))), (10, (vc (.int .i64 x34))), (26, (vc (.int .i64 (a0.Tracks.length : Int)))), (27, (vc (.int .i64 x8)))], [(1, (.box [(.c (.int .i64 a0.Length)), (.c (.int .i64 a0.Kind)), (.c (sl 1 (csL 5 cs_Key) a0.Tracks)), (.c (sl 4 cs_RootKey a0.Roots))])), (2, (.box [(.c (.int .i64 (0 : Int))), (.c (.int .i64 (0 : Int))), .nils, .nils])), (3, (.lst v4.length 4 (gl cs_RootKey v4))), (4, (.box [(.c (.int .i64 a0.Length)), (.c (.int .i64 a0.Kind)), (.lst 38 x9.length 1 (gl (csL 5 cs_Key) x9)), (.lst 3 v4.length 4 (gl cs_RootKey v4))])), (38, (.lst x9.length 1 (gl (csL 5 cs_Key) x9))), (105, (.lst x35.length 5 (gl cs_Key x35)))]⟩ : St) _
        obtain _ | k := k
        · rw [spec_ThinClip_l5] at h; cases h
        rw [spec_ThinClip_l5] at h
        refine AW.seq ?_
        refine AW.seq (AW.rA ⟨[(1, (vc (.flt .f32 a1.bits))), (2, (vp 1 0)), (4, (vp 2 0)), (6, (vp 4 0)), (8, (vc (sl 5 cs_Key (a0.Tracks.getD x8.toNat default)))), (9, (.v (.one (.lst 105 x35.length 5 (gl cs_Key x35))))), (10, (vc (.int .i64 x34))), (26, (vc (.int .i64 (a0.Tracks.length : Int)))), (27, (vc (.int .i64 x8))), (42, (vc (.bool (decide (x34 < ((a0.Tracks.getD x8.toNat default).length : Int))))))], [(1, (.box [(.c (.int .i64 a0.Length)), (.c (.int .i64 a0.Kind)), (.c (sl 1 (csL 5 cs_Key) a0.Tracks)), (.c (sl 4 cs_RootKey a0.Roots))])), (2, (.box [(.c (.int .i64 (0 : Int))), (.c (.int .i64 (0 : Int))), .nils, .nils])), (3, (.lst v4.length 4 (gl cs_RootKey v4))), (4, (.box [(.c (.int .i64 a0.Length)), (.c (.int .i64 a0.Kind)), (.lst 38 x9.length 1 (gl (csL 5 cs_Key) x9)), (.lst 3 v4.length 4 (gl cs_RootKey v4))])), (38, (.lst x9.length 1 (gl (csL 5 cs_Key) x9))), (105, (.lst x35.length 5 (gl cs_Key x35)))]⟩ (T4 Tt) [] [1, 2, 4, 6, 8, 9, 10, 26, 27, 42] [1, 2, 3, 4, 38, 105] ⟨tr, tr, tr, tr, tr⟩ (thenQ_normal ?_))
        rcases ite2_cases h with ⟨b36, h⟩ | ⟨b36, h⟩
        · refine AW.cond_t rfl b36 ?_
          refine AW.skip ?_
          refine thenQ_normal ?_
          refine AW.seq ?_
          refine AW.block ?_
          refine AW.seq ?_
          refine AW.seq (AW.rA ⟨[(1, (vc (.flt .f32 a1.bits))), (2, (vp 1 0)), (4, (vp 2 0)), (6, (vp 4 0)), (8, (vc (sl 5 cs_Key (a0.Tracks.getD x8.toNat default)))), (9, (.v (.one (.lst 105 x35.length 5 (gl cs_Key x35))))), (10, (vc (.int .i64 x34))), (26, (vc (.int .i64 (a0.Tracks.length : Int)))), (27, (vc (.int .i64 x8))), (49, (vc (.bool (decide ((IntKind.i64.wrap (x34 + (1 : Int))) < ((a0.Tracks.getD x8.toNat default).length : Int))))))], [(1, (.box [(.c (.int .i64 a0.Length)), (.c (.int .i64 a0.Kind)), (.c (sl 1 (csL 5 cs_Key) a0.Tracks)), (.c (sl 4 cs_RootKey a0.Roots))])), (2, (.box [(.c (.int .i64 (0 : Int))), (.c (.int .i64 (0 : Int))), .nils, .nils])), (3, (.lst v4.length 4 (gl cs_RootKey v4))), (4, (.box [(.c (.int .i64 a0.Length)), (.c (.int .i64 a0.Kind)), (.lst 38 x9.length 1 (gl (csL 5 cs_Key) x9)), (.lst 3 v4.length 4 (gl cs_RootKey v4))])), (38, (.lst x9.length 1 (gl (csL 5 cs_Key) x9))), (105, (.lst x35.length 5 (gl cs_Key x35)))]⟩ (Tt ∧ T4 Tt) [] [1, 2, 4, 6, 8, 9, 10, 26, 27, 49] [1, 2, 3, 4, 38, 105] ⟨tr, tr, tr, tr, tr, tr⟩ (thenQ_normal ?_))
          rcases ite2_cases h with ⟨b37, h⟩ | ⟨b37, h⟩
          · refine AW.cond_t rfl b37 ?_
            refine AW.seq ?_
            obtain ⟨c38, h⟩ := chk_some h
            refine AW.rA ⟨[(1, (vc (.flt .f32 a1.bits))), (2, (vp 1 0)), (4, (vp 2 0)), (6, (vp 4 0)), (8, (vc (sl 5 cs_Key (a0.Tracks.getD x8.toNat default)))), (9, (.v (.one (.lst 105 x35.length 5 (gl cs_Key x35))))), (10, (vc (.int .i64 x34))), (11, (vp 131 0)), (26, (vc (.int .i64 (a0.Tracks.length : Int)))), (27, (vc (.int .i64 x8)))], [(1, (.box [(.c (.int .i64 a0.Length)), (.c (.int .i64 a0.Kind)), (.c (sl 1 (csL 5 cs_Key) a0.Tracks)), (.c (sl 4 cs_RootKey a0.Roots))])), (2, (.box [(.c (.int .i64 (0 : Int))), (.c (.int .i64 (0 : Int))), .nils, .nils])), (3, (.lst v4.length 4 (gl cs_RootKey v4))), (4, (.box [(.c (.int .i64 a0.Length)), (.c (.int .i64 a0.Kind)), (.lst 38 x9.length 1 (gl (csL 5 cs_Key) x9)), (.lst 3 v4.length 4 (gl cs_RootKey v4))])), (38, (.lst x9.length 1 (gl (csL 5 cs_Key) x9))), (105, (.lst x35.length 5 (gl cs_Key x35))), (131, (.box [(.c (.int .i64 ((x35.getD ((IntKind.i64.wrap ((x35.length : Int) - (1 : Int))).toNat) default).At))), (.c (.flt .f32 (((x35.getD ((IntKind.i64.wrap ((x35.length : Int) - (1 : Int))).toNat) default).Turn).W).bits)), (.c (.flt .f32 (((x35.getD ((IntKind.i64.wrap ((x35.length : Int) - (1 : Int))).toNat) default).Turn).X).bits)), (.c (.flt .f32 (((x35.getD ((IntKind.i64.wrap ((x35.length : Int) - (1 : Int))).toNat) default).Turn).Y).bits)), (.c (.flt .f32 (((x35.getD ((IntKind.i64.wrap ((x35.length : Int) - (1 : Int))).toNat) default).Turn).Z).bits))]))]⟩ (T4 ((0 ≤ (IntKind.i64.wrap ((x35.length : Int) - (1 : Int))) ∧ (IntKind.i64.wrap ((x35.length : Int) - (1 : Int))) < (x35.length : Int)) ∧ Tt ∧ T2 Tt)) [.no, .no, .no, .no, .no, .no, .box 131] [1, 2, 4, 6, 8, 9, 10, 11, 26, 27] [1, 2, 3, 4, 38, 105, 131] ⟨tr, tr, tr, tr, c38, tr, tr, tr, tr⟩ ?_
            refine thenQ_normal ?_
            refine AW.seq ?_
            obtain ⟨c39, h⟩ := chk_some h
            obtain ⟨c40, h⟩ := chk_some h
            refine AW.dA ⟨[(1, (vc (.flt .f32 a1.bits))), (2, (vp 1 0)), (4, (vp 2 0)), (6, (vp 4 0)), (8, (vc (sl 5 cs_Key (a0.Tracks.getD x8.toNat default)))), (9, (.v (.one (.lst 105 x35.length 5 (gl cs_Key x35))))), (10, (vc (.int .i64 x34))), (11, (vp 131 0)), (12, (vc (.flt .f32 ((Fl.ofInt .f32 (IntKind.i64.wrap ((((a0.Tracks.getD x8.toNat default).getD x34.toNat default).At) - ((x35.getD ((IntKind.i64.wrap ((x35.length : Int) - (1 : Int))).toNat) default).At)))).div (Fl.ofInt .f32 (IntKind.i64.wrap ((((a0.Tracks.getD x8.toNat default).getD ((IntKind.i64.wrap (x34 + (1 : Int))).toNat) default).At) - ((x35.getD ((IntKind.i64.wrap ((x35.length : Int) - (1 : Int))).toNat) default).At))))).bits))), (26, (vc (.int .i64 (a0.Tracks.length : Int)))), (27, (vc (.int .i64 x8)))], [(1, (.box [(.c (.int .i64 a0.Length)), (.c (.int .i64 a0.Kind)), (.c (sl 1 (csL 5 cs_Key) a0.Tracks)), (.c (sl 4 cs_RootKey a0.Roots))])), (2, (.box [(.c (.int .i64 (0 : Int))), (.c (.int .i64 (0 : Int))), .nils, .nils])), (3, (.lst v4.length 4 (gl cs_RootKey v4))), (4, (.box [(.c (.int .i64 a0.Length)), (.c (.int .i64 a0.Kind)), (.lst 38 x9.length 1 (gl (csL 5 cs_Key) x9)), (.lst 3 v4.length 4 (gl cs_RootKey v4))])), (38, (.lst x9.length 1 (gl (csL 5 cs_Key) x9))), (105, (.lst x35.length 5 (gl cs_Key x35))), (131, (.box [(.c (.int .i64 ((x35.getD ((IntKind.i64.wrap ((x35.length : Int) - (1 : Int))).toNat) default).At))), (.c (.flt .f32 (((x35.getD ((IntKind.i64.wrap ((x35.length : Int) - (1 : Int))).toNat) default).Turn).W).bits)), (.c (.flt .f32 (((x35.getD ((IntKind.i64.wrap ((x35.length : Int) - (1 : Int))).toNat) default).Turn).X).bits)), (.c (.flt .f32 (((x35.getD ((IntKind.i64.wrap ((x35.length : Int) - (1 : Int))).toNat) default).Turn).Y).bits)), (.c (.flt .f32 (((x35.getD ((IntKind.i64.wrap ((x35.length : Int) - (1 : Int))).toNat) default).Turn).Z).bits))]))]⟩ ((T2 ((0 ≤ x34 ∧ x34 < ((a0.Tracks.getD x8.toNat default).length : Int)) ∧ Tt ∧ T4 (T4 ((0 ≤ (IntKind.i64.wrap (x34 + (1 : Int))) ∧ (IntKind.i64.wrap (x34 + (1 : Int))) < ((a0.Tracks.getD x8.toNat default).length : Int)) ∧ T4 (T4 Tt))))) ∧ (Tt)) 21 [] [1, 2, 4, 6, 8, 9, 10, 11, 12, 26, 27] [1, 2, 3, 4, 38, 105, 131] ⟨⟨tr, tr, c39, tr, tr, tr, tr, tr, tr, tr, tr, tr, c40, tr, tr, tr, tr, tr, tr, tr, tr, tr⟩, tr⟩ ?_
            refine thenQ_normal ?_
            refine AW.seq ?_
            obtain ⟨v41, e42, h⟩ := bind_some h
            obtain ⟨v43, e44, h⟩ := bind_some h
            refine AW.dA ⟨[(1, (vc (.flt .f32 a1.bits))), (2, (vp 1 0)), (4, (vp 2 0)), (6, (vp 4 0)), (8, (vc (sl 5 cs_Key (a0.Tracks.getD x8.toNat default)))), (9, (.v (.one (.lst 105 x35.length 5 (gl cs_Key x35))))), (10, (vc (.int .i64 x34))), (26, (vc (.int .i64 (a0.Tracks.length : Int)))), (27, (vc (.int .i64 x8))), (93, (vc (.bool (v43.le a1))))], [(1, (.box [(.c (.int .i64 a0.Length)), (.c (.int .i64 a0.Kind)), (.c (sl 1 (csL 5 cs_Key) a0.Tracks)), (.c (sl 4 cs_RootKey a0.Roots))])), (2, (.box [(.c (.int .i64 (0 : Int))), (.c (.int .i64 (0 : Int))), .nils, .nils])), (3, (.lst v4.length 4 (gl cs_RootKey v4))), (4, (.box [(.c (.int .i64 a0.Length)), (.c (.int .i64 a0.Kind)), (.lst 38 x9.length 1 (gl (csL 5 cs_Key) x9)), (.lst 3 v4.length 4 (gl cs_RootKey v4))])), (38, (.lst x9.length 1 (gl (csL 5 cs_Key) x9))), (105, (.lst x35.length 5 (gl cs_Key x35)))]⟩ ((T2 ((0 ≤ x34 ∧ x34 < ((a0.Tracks.getD x8.toNat default).length : Int)) ∧ Tt ∧ T2 (T4 ((0 ≤ (IntKind.i64.wrap (x34 + (1 : Int))) ∧ (IntKind.i64.wrap (x34 + (1 : Int))) < ((a0.Tracks.getD x8.toNat default).length : Int)) ∧ Tt ∧ T2 (((((((.flt .f32 (((x35.getD ((IntKind.i64.wrap ((x35.length : Int) - (1 : Int))).toNat) default).Turn).W).bits) : C) = (.flt .f32 (((x35.getD ((IntKind.i64.wrap ((x35.length : Int) - (1 : Int))).toNat) default).Turn).W).bits)) ∧ (((.flt .f32 (((x35.getD ((IntKind.i64.wrap ((x35.length : Int) - (1 : Int))).toNat) default).Turn).X).bits) : C) = (.flt .f32 (((x35.getD ((IntKind.i64.wrap ((x35.length : Int) - (1 : Int))).toNat) default).Turn).X).bits)) ∧ (((.flt .f32 (((x35.getD ((IntKind.i64.wrap ((x35.length : Int) - (1 : Int))).toNat) default).Turn).Y).bits) : C) = (.flt .f32 (((x35.getD ((IntKind.i64.wrap ((x35.length : Int) - (1 : Int))).toNat) default).Turn).Y).bits)) ∧ (((.flt .f32 (((x35.getD ((IntKind.i64.wrap ((x35.length : Int) - (1 : Int))).toNat) default).Turn).Z).bits) : C) = (.flt .f32 (((x35.getD ((IntKind.i64.wrap ((x35.length : Int) - (1 : Int))).toNat) default).Turn).Z).bits)) ∧ Tt) ∧ ((((.flt .f32 ((((a0.Tracks.getD x8.toNat default).getD ((IntKind.i64.wrap (x34 + (1 : Int))).toNat) default).Turn).W).bits) : C) = (.flt .f32 ((((a0.Tracks.getD x8.toNat default).getD ((IntKind.i64.wrap (x34 + (1 : Int))).toNat) default).Turn).W).bits)) ∧ (((.flt .f32 ((((a0.Tracks.getD x8.toNat default).getD ((IntKind.i64.wrap (x34 + (1 : Int))).toNat) default).Turn).X).bits) : C) = (.flt .f32 ((((a0.Tracks.getD x8.toNat default).getD ((IntKind.i64.wrap (x34 + (1 : Int))).toNat) default).Turn).X).bits)) ∧ (((.flt .f32 ((((a0.Tracks.getD x8.toNat default).getD ((IntKind.i64.wrap (x34 + (1 : Int))).toNat) default).Turn).Y).bits) : C) = (.flt .f32 ((((a0.Tracks.getD x8.toNat default).getD ((IntKind.i64.wrap (x34 + (1 : Int))).toNat) default).Turn).Y).bits)) ∧ (((.flt .f32 ((((a0.Tracks.getD x8.toNat default).getD ((IntKind.i64.wrap (x34 + (1 : Int))).toNat) default).Turn).Z).bits) : C) = (.flt .f32 ((((a0.Tracks.getD x8.toNat default).getD ((IntKind.i64.wrap (x34 + (1 : Int))).toNat) default).Turn).Z).bits)) ∧ Tt) ∧ (((.flt .f32 ((Fl.ofInt .f32 (IntKind.i64.wrap ((((a0.Tracks.getD x8.toNat default).getD x34.toNat default).At) - ((x35.getD ((IntKind.i64.wrap ((x35.length : Int) - (1 : Int))).toNat) default).At)))).div (Fl.ofInt .f32 (IntKind.i64.wrap ((((a0.Tracks.getD x8.toNat default).getD ((IntKind.i64.wrap (x34 + (1 : Int))).toNat) default).At) - ((x35.getD ((IntKind.i64.wrap ((x35.length : Int) - (1 : Int))).toNat) default).At))))).bits) : C) = (.flt .f32 ((Fl.ofInt .f32 (IntKind.i64.wrap ((((a0.Tracks.getD x8.toNat default).getD x34.toNat default).At) - ((x35.getD ((IntKind.i64.wrap ((x35.length : Int) - (1 : Int))).toNat) default).At)))).div (Fl.ofInt .f32 (IntKind.i64.wrap ((((a0.Tracks.getD x8.toNat default).getD ((IntKind.i64.wrap (x34 + (1 : Int))).toNat) default).At) - ((x35.getD ((IntKind.i64.wrap ((x35.length : Int) - (1 : Int))).toNat) default).At))))).bits)) ∧ Tt) ∧ CallOK Tryz.prog 16 [.agg (cs_Turn ((x35.getD ((IntKind.i64.wrap ((x35.length : Int) - (1 : Int))).toNat) default).Turn)), .agg (cs_Turn (((a0.Tracks.getD x8.toNat default).getD ((IntKind.i64.wrap (x34 + (1 : Int))).toNat) default).Turn)), .one (.flt .f32 ((Fl.ofInt .f32 (IntKind.i64.wrap ((((a0.Tracks.getD x8.toNat default).getD x34.toNat default).At) - ((x35.getD ((IntKind.i64.wrap ((x35.length : Int) - (1 : Int))).toNat) default).At)))).div (Fl.ofInt .f32 (IntKind.i64.wrap ((((a0.Tracks.getD x8.toNat default).getD ((IntKind.i64.wrap (x34 + (1 : Int))).toNat) default).At) - ((x35.getD ((IntKind.i64.wrap ((x35.length : Int) - (1 : Int))).toNat) default).At))))).bits)] [.agg (cs_Turn v41)]) ∧ ((((Eqc (.flt .f32 ((((a0.Tracks.getD x8.toNat default).getD x34.toNat default).Turn).W).bits)) ∧ (Eqc (.flt .f32 ((((a0.Tracks.getD x8.toNat default).getD x34.toNat default).Turn).X).bits)) ∧ (Eqc (.flt .f32 ((((a0.Tracks.getD x8.toNat default).getD x34.toNat default).Turn).Y).bits)) ∧ (Eqc (.flt .f32 ((((a0.Tracks.getD x8.toNat default).getD x34.toNat default).Turn).Z).bits)) ∧ Tt) ∧ ((Eqc (.flt .f32 v41.W.bits)) ∧ (Eqc (.flt .f32 v41.X.bits)) ∧ (Eqc (.flt .f32 v41.Y.bits)) ∧ (Eqc (.flt .f32 v41.Z.bits)) ∧ Tt) ∧ Tt) ∧ CallOK Tryz.prog 15 [.agg (cs_Turn (((a0.Tracks.getD x8.toNat default).getD x34.toNat default).Turn)), .agg (cs_Turn v41)] [.one (.flt .f32 v43.bits)]) ∧ T2 Tt))))) ∧ (Tt)) 18 [.no, .no, .no, .no, .no, .no, .no, .no, .no, .no, .no, .no, .no, .no, .call [.agg (cs_Turn ((x35.getD ((IntKind.i64.wrap ((x35.length : Int) - (1 : Int))).toNat) default).Turn)), .agg (cs_Turn (((a0.Tracks.getD x8.toNat default).getD ((IntKind.i64.wrap (x34 + (1 : Int))).toNat) default).Turn)), .one (.flt .f32 ((Fl.ofInt .f32 (IntKind.i64.wrap ((((a0.Tracks.getD x8.toNat default).getD x34.toNat default).At) - ((x35.getD ((IntKind.i64.wrap ((x35.length : Int) - (1 : Int))).toNat) default).At)))).div (Fl.ofInt .f32 (IntKind.i64.wrap ((((a0.Tracks.getD x8.toNat default).getD ((IntKind.i64.wrap (x34 + (1 : Int))).toNat) default).At) - ((x35.getD ((IntKind.i64.wrap ((x35.length : Int) - (1 : Int))).toNat) default).At))))).bits)] [.agg (cs_Turn v41)] [[.view, .view, .view, .view]], .call [.agg (cs_Turn (((a0.Tracks.getD x8.toNat default).getD x34.toNat default).Turn)), .agg (cs_Turn v41)] [.one (.flt .f32 v43.bits)] [[.view]]] [1, 2, 4, 6, 8, 9, 10, 26, 27, 93] [1, 2, 3, 4, 38, 105] ⟨⟨tr, tr, c39, tr, tr, tr, tr, tr, tr, tr, c40, tr, tr, tr, ⟨⟨⟨rfl, rfl, rfl, rfl, tr⟩, ⟨rfl, rfl, rfl, rfl, tr⟩, rfl, tr⟩, ok_spec_l02Near K ((x35.getD ((IntKind.i64.wrap ((x35.length : Int) - (1 : Int))).toNat) default).Turn) (((a0.Tracks.getD x8.toNat default).getD ((IntKind.i64.wrap (x34 + (1 : Int))).toNat) default).Turn) ((Fl.ofInt .f32 (IntKind.i64.wrap ((((a0.Tracks.getD x8.toNat default).getD x34.toNat default).At) - ((x35.getD ((IntKind.i64.wrap ((x35.length : Int) - (1 : Int))).toNat) default).At)))).div (Fl.ofInt .f32 (IntKind.i64.wrap ((((a0.Tracks.getD x8.toNat default).getD ((IntKind.i64.wrap (x34 + (1 : Int))).toNat) default).At) - ((x35.getD ((IntKind.i64.wrap ((x35.length : Int) - (1 : Int))).toNat) default).At))))) v41 e42⟩, ⟨⟨⟨rfl, rfl, rfl, rfl, tr⟩, ⟨rfl, rfl, rfl, rfl, tr⟩, tr⟩, ok_spec_l02Apart K (((a0.Tracks.getD x8.toNat default).getD x34.toNat default).Turn) v41 v43 e44⟩, tr, tr, tr⟩, tr⟩ ?_
            refine thenQ_normal ?_
            rcases ite2_cases h with ⟨b45, h⟩ | ⟨b45, h⟩
            · refine AW.cond_t rfl b45 ?_
              refine AW.exit ?_
              refine thenQ_exit ?_
              refine blockQ_exit ?_
              refine thenQ_normal ?_
              refine AW.rA ⟨[(1, (vc (.flt .f32 a1.bits))), (2, (vp 1 0)), (4, (vp 2 0)), (6, (vp 4 0)), (8, (vc (sl 5 cs_Key (a0.Tracks.getD x8.toNat default)))), (9, (.v (.one (.lst 105 x35.length 5 (gl cs_Key x35))))), (10, (vc (.int .i64 (IntKind.i64.wrap (x34 + (1 : Int)))))), (26, (vc (.int .i64 (a0.Tracks.length : Int)))), (27, (vc (.int .i64 x8)))], [(1, (.box [(.c (.int .i64 a0.Length)), (.c (.int .i64 a0.Kind)), (.c (sl 1 (csL 5 cs_Key) a0.Tracks)), (.c (sl 4 cs_RootKey a0.Roots))])), (2, (.box [(.c (.int .i64 (0 : Int))), (.c (.int .i64 (0 : Int))), .nils, .nils])), (3, (.lst v4.length 4 (gl cs_RootKey v4))), (4, (.box [(.c (.int .i64 a0.Length)), (.c (.int .i64 a0.Kind)), (.lst 38 x9.length 1 (gl (csL 5 cs_Key) x9)), (.lst 3 v4.length 4 (gl cs_RootKey v4))])), (38, (.lst x9.length 1 (gl (csL 5 cs_Key) x9))), (105, (.lst x35.length 5 (gl cs_Key x35)))]⟩ (Tt ∧ T2 Tt) [] [1, 2, 4, 6, 8, 9, 10, 26, 27] [1, 2, 3, 4, 38, 105] ⟨tr, tr, tr, tr⟩ ?_
              exact loopQ_normal (k, (IntKind.i64.wrap (x34 + (1 : Int))), x35) h (Nat.lt_succ_self k) (Sub.keep [1, 2, 4, 6, 8, 9, 10, 26, 27] [1, 2, 3, 4, 38, 105] (by kernel_rfl) (by kernel_rfl))
            · refine AW.cond_f rfl b45 ?_
              refine AW.skip ?_
              refine thenQ_normal ?_
              obtain ⟨c46, h⟩ := chk_some h
              refine AW.rA ⟨[(1, (vc (.flt .f32 a1.bits))), (2, (vp 1 0)), (4, (vp 2 0)), (6, (vp 4 0)), (8, (vc (sl 5 cs_Key (a0.Tracks.getD x8.toNat default)))), (9, (.v (.one (.lst 133 (x35 ++ ([((a0.Tracks.getD x8.toNat default).getD x34.toNat default)])).length 5 (gl cs_Key (x35 ++ ([((a0.Tracks.getD x8.toNat default).getD x34.toNat default)]))))))), (10, (vc (.int .i64 x34))), (26, (vc (.int .i64 (a0.Tracks.length : Int)))), (27, (vc (.int .i64 x8)))], [(1, (.box [(.c (.int .i64 a0.Length)), (.c (.int .i64 a0.Kind)), (.c (sl 1 (csL 5 cs_Key) a0.Tracks)), (.c (sl 4 cs_RootKey a0.Roots))])), (2, (.box [(.c (.int .i64 (0 : Int))), (.c (.int .i64 (0 : Int))), .nils, .nils])), (3, (.lst v4.length 4 (gl cs_RootKey v4))), (4, (.box [(.c (.int .i64 a0.Length)), (.c (.int .i64 a0.Kind)), (.lst 38 x9.length 1 (gl (csL 5 cs_Key) x9)), (.lst 3 v4.length 4 (gl cs_RootKey v4))])), (38, (.lst x9.length 1 (gl (csL 5 cs_Key) x9))), (133, (.lst (x35 ++ ([((a0.Tracks.getD x8.toNat default).getD x34.toNat default)])).length 5 (gl cs_Key (x35 ++ ([((a0.Tracks.getD x8.toNat default).getD x34.toNat default)])))))]⟩ (Tt ∧ T2 ((0 ≤ x34 ∧ x34 < ((a0.Tracks.getD x8.toNat default).length : Int)) ∧ Tt ∧ (([((a0.Tracks.getD x8.toNat default).getD x34.toNat default)]).length = 1 ∧ (((.int .i64 (((a0.Tracks.getD x8.toNat default).getD x34.toNat default).At)) : C) = (.int .i64 (((a0.Tracks.getD x8.toNat default).getD x34.toNat default).At)) ∧ Tt) ∧ (((.flt .f32 ((((a0.Tracks.getD x8.toNat default).getD x34.toNat default).Turn).W).bits) : C) = (.flt .f32 ((((a0.Tracks.getD x8.toNat default).getD x34.toNat default).Turn).W).bits) ∧ Tt) ∧ (((.flt .f32 ((((a0.Tracks.getD x8.toNat default).getD x34.toNat default).Turn).X).bits) : C) = (.flt .f32 ((((a0.Tracks.getD x8.toNat default).getD x34.toNat default).Turn).X).bits) ∧ Tt) ∧ (((.flt .f32 ((((a0.Tracks.getD x8.toNat default).getD x34.toNat default).Turn).Y).bits) : C) = (.flt .f32 ((((a0.Tracks.getD x8.toNat default).getD x34.toNat default).Turn).Y).bits) ∧ Tt) ∧ (((.flt .f32 ((((a0.Tracks.getD x8.toNat default).getD x34.toNat default).Turn).Z).bits) : C) = (.flt .f32 ((((a0.Tracks.getD x8.toNat default).getD x34.toNat default).Turn).Z).bits) ∧ Tt) ∧ Tt) ∧ ((x35 ++ ([((a0.Tracks.getD x8.toNat default).getD x34.toNat default)])).length = x35.length + ([((a0.Tracks.getD x8.toNat default).getD x34.toNat default)]).length ∧ AppOb (x35.length) (([((a0.Tracks.getD x8.toNat default).getD x34.toNat default)]).length) 5 (gl cs_Key x35) (gl cs_Key ([((a0.Tracks.getD x8.toNat default).getD x34.toNat default)])) (gl cs_Key (x35 ++ ([((a0.Tracks.getD x8.toNat default).getD x34.toNat default)]))) ∧ (∀ i j, i < ([((a0.Tracks.getD x8.toNat default).getD x34.toNat default)]).length → j < 5 → scalarC (gl cs_Key ([((a0.Tracks.getD x8.toNat default).getD x34.toNat default)]) i j)) ∧ (x35.length + ([((a0.Tracks.getD x8.toNat default).getD x34.toNat default)]).length) * 24 ≤ 140737488355328) ∧ Tt ∧ Tt)) [.no, .no, .no, .no, .no, .obj 132 ([((a0.Tracks.getD x8.toNat default).getD x34.toNat default)]).length (gl cs_Key ([((a0.Tracks.getD x8.toNat default).getD x34.toNat default)])), .objK 133 (x35 ++ ([((a0.Tracks.getD x8.toNat default).getD x34.toNat default)])).length (gl cs_Key (x35 ++ ([((a0.Tracks.getD x8.toNat default).getD x34.toNat default)])))] [1, 2, 4, 6, 8, 9, 10, 26, 27] [1, 2, 3, 4, 38, 133] ⟨tr, tr, tr, c39, tr, ⟨rfl, ⟨⟨rfl, tr⟩, ⟨rfl, tr⟩, ⟨rfl, tr⟩, ⟨rfl, tr⟩, ⟨rfl, tr⟩, tr⟩⟩, ⟨List.length_append, gl_append, gl_scalar sc_Key _, c46⟩, tr, tr⟩ ?_
              refine blockQ_normal ?_
              refine thenQ_normal ?_
              refine AW.rA ⟨[(1, (vc (.flt .f32 a1.bits))), (2, (vp 1 0)), (4, (vp 2 0)), (6, (vp 4 0)), (8, (vc (sl 5 cs_Key (a0.Tracks.getD x8.toNat default)))), (9, (.v (.one (.lst 133 (x35 ++ ([((a0.Tracks.getD x8.toNat default).getD x34.toNat default)])).length 5 (gl cs_Key (x35 ++ ([((a0.Tracks.getD x8.toNat default).getD x34.toNat default)]))))))), (10, (vc (.int .i64 (IntKind.i64.wrap (x34 + (1 : Int)))))), (26, (vc (.int .i64 (a0.Tracks.length : Int)))), (27, (vc (.int .i64 x8)))], [(1, (.box [(.c (.int .i64 a0.Length)), (.c (.int .i64 a0.Kind)), (.c (sl 1 (csL 5 cs_Key) a0.Tracks)), (.c (sl 4 cs_RootKey a0.Roots))])), (2, (.box [(.c (.int .i64 (0 : Int))), (.c (.int .i64 (0 : Int))), .nils, .nils])), (3, (.lst v4.length 4 (gl cs_RootKey v4))), (4, (.box [(.c (.int .i64 a0.Length)), (.c (.int .i64 a0.Kind)), (.lst 38 x9.length 1 (gl (csL 5 cs_Key) x9)), (.lst 3 v4.length 4 (gl cs_RootKey v4))])), (38, (.lst x9.length 1 (gl (csL 5 cs_Key) x9))), (133, (.lst (x35 ++ ([((a0.Tracks.getD x8.toNat default).getD x34.toNat default)])).length 5 (gl cs_Key (x35 ++ ([((a0.Tracks.getD x8.toNat default).getD x34.toNat default)])))))]⟩ (Tt ∧ T2 Tt) [] [1, 2, 4, 6, 8, 9, 10, 26, 27] [1, 2, 3, 4, 38, 133] ⟨tr, tr, tr, tr⟩ ?_
              exact loopQ_normal (k, (IntKind.i64.wrap (x34 + (1 : Int))), (x35 ++ ([((a0.Tracks.getD x8.toNat default).getD x34.toNat default)]))) h (Nat.lt_succ_self k) (Sub.trans (Sub.swap 105 133 _ (by kernel_rfl) (by kernel_rfl)) (Sub.keep [1, 2, 4, 6, 8, 9, 10, 26, 27] [1, 2, 3, 4, 38, 105] (by kernel_rfl) (by kernel_rfl)))
          · refine AW.cond_f rfl b37 ?_
            refine AW.skip ?_
            refine thenQ_normal ?_
            obtain ⟨c47, h⟩ := chk_some h
            obtain ⟨c48, h⟩ := chk_some h
            refine AW.rA ⟨[(1, (vc (.flt .f32 a1.bits))), (2, (vp 1 0)), (4, (vp 2 0)), (6, (vp 4 0)), (8, (vc (sl 5 cs_Key (a0.Tracks.getD x8.toNat default)))), (9, (.v (.one (.lst 135 (x35 ++ ([((a0.Tracks.getD x8.toNat default).getD x34.toNat default)])).length 5 (gl cs_Key (x35 ++ ([((a0.Tracks.getD x8.toNat default).getD x34.toNat default)]))))))), (10, (vc (.int .i64 x34))), (26, (vc (.int .i64 (a0.Tracks.length : Int)))), (27, (vc (.int .i64 x8)))], [(1, (.box [(.c (.int .i64 a0.Length)), (.c (.int .i64 a0.Kind)), (.c (sl 1 (csL 5 cs_Key) a0.Tracks)), (.c (sl 4 cs_RootKey a0.Roots))])), (2, (.box [(.c (.int .i64 (0 : Int))), (.c (.int .i64 (0 : Int))), .nils, .nils])), (3, (.lst v4.length 4 (gl cs_RootKey v4))), (4, (.box [(.c (.int .i64 a0.Length)), (.c (.int .i64 a0.Kind)), (.lst 38 x9.length 1 (gl (csL 5 cs_Key) x9)), (.lst 3 v4.length 4 (gl cs_RootKey v4))])), (38, (.lst x9.length 1 (gl (csL 5 cs_Key) x9))), (135, (.lst (x35 ++ ([((a0.Tracks.getD x8.toNat default).getD x34.toNat default)])).length 5 (gl cs_Key (x35 ++ ([((a0.Tracks.getD x8.toNat default).getD x34.toNat default)])))))]⟩ (Tt ∧ T2 ((0 ≤ x34 ∧ x34 < ((a0.Tracks.getD x8.toNat default).length : Int)) ∧ Tt ∧ (([((a0.Tracks.getD x8.toNat default).getD x34.toNat default)]).length = 1 ∧ (((.int .i64 (((a0.Tracks.getD x8.toNat default).getD x34.toNat default).At)) : C) = (.int .i64 (((a0.Tracks.getD x8.toNat default).getD x34.toNat default).At)) ∧ Tt) ∧ (((.flt .f32 ((((a0.Tracks.getD x8.toNat default).getD x34.toNat default).Turn).W).bits) : C) = (.flt .f32 ((((a0.Tracks.getD x8.toNat default).getD x34.toNat default).Turn).W).bits) ∧ Tt) ∧ (((.flt .f32 ((((a0.Tracks.getD x8.toNat default).getD x34.toNat default).Turn).X).bits) : C) = (.flt .f32 ((((a0.Tracks.getD x8.toNat default).getD x34.toNat default).Turn).X).bits) ∧ Tt) ∧ (((.flt .f32 ((((a0.Tracks.getD x8.toNat default).getD x34.toNat default).Turn).Y).bits) : C) = (.flt .f32 ((((a0.Tracks.getD x8.toNat default).getD x34.toNat default).Turn).Y).bits) ∧ Tt) ∧ (((.flt .f32 ((((a0.Tracks.getD x8.toNat default).getD x34.toNat default).Turn).Z).bits) : C) = (.flt .f32 ((((a0.Tracks.getD x8.toNat default).getD x34.toNat default).Turn).Z).bits) ∧ Tt) ∧ Tt) ∧ ((x35 ++ ([((a0.Tracks.getD x8.toNat default).getD x34.toNat default)])).length = x35.length + ([((a0.Tracks.getD x8.toNat default).getD x34.toNat default)]).length ∧ AppOb (x35.length) (([((a0.Tracks.getD x8.toNat default).getD x34.toNat default)]).length) 5 (gl cs_Key x35) (gl cs_Key ([((a0.Tracks.getD x8.toNat default).getD x34.toNat default)])) (gl cs_Key (x35 ++ ([((a0.Tracks.getD x8.toNat default).getD x34.toNat default)]))) ∧ (∀ i j, i < ([((a0.Tracks.getD x8.toNat default).getD x34.toNat default)]).length → j < 5 → scalarC (gl cs_Key ([((a0.Tracks.getD x8.toNat default).getD x34.toNat default)]) i j)) ∧ (x35.length + ([((a0.Tracks.getD x8.toNat default).getD x34.toNat default)]).length) * 24 ≤ 140737488355328) ∧ Tt ∧ Tt)) [.no, .no, .no, .no, .no, .obj 134 ([((a0.Tracks.getD x8.toNat default).getD x34.toNat default)]).length (gl cs_Key ([((a0.Tracks.getD x8.toNat default).getD x34.toNat default)])), .objK 135 (x35 ++ ([((a0.Tracks.getD x8.toNat default).getD x34.toNat default)])).length (gl cs_Key (x35 ++ ([((a0.Tracks.getD x8.toNat default).getD x34.toNat default)])))] [1, 2, 4, 6, 8, 9, 10, 26, 27] [1, 2, 3, 4, 38, 135] ⟨tr, tr, tr, c47, tr, ⟨rfl, ⟨⟨rfl, tr⟩, ⟨rfl, tr⟩, ⟨rfl, tr⟩, ⟨rfl, tr⟩, ⟨rfl, tr⟩, tr⟩⟩, ⟨List.length_append, gl_append, gl_scalar sc_Key _, c48⟩, tr, tr⟩ ?_
            refine blockQ_normal ?_
            refine thenQ_normal ?_
            refine AW.rA ⟨[(1, (vc (.flt .f32 a1.bits))), (2, (vp 1 0)), (4, (vp 2 0)), (6, (vp 4 0)), (8, (vc (sl 5 cs_Key (a0.Tracks.getD x8.toNat default)))), (9, (.v (.one (.lst 135 (x35 ++ ([((a0.Tracks.getD x8.toNat default).getD x34.toNat default)])).length 5 (gl cs_Key (x35 ++ ([((a0.Tracks.getD x8.toNat default).getD x34.toNat default)]))))))), (10, (vc (.int .i64 (IntKind.i64.wrap (x34 + (1 : Int)))))), (26, (vc (.int .i64 (a0.Tracks.length : Int)))), (27, (vc (.int .i64 x8)))], [(1, (.box [(.c (.int .i64 a0.Length)), (.c (.int .i64 a0.Kind)), (.c (sl 1 (csL 5 cs_Key) a0.Tracks)), (.c (sl 4 cs_RootKey a0.Roots))])), (2, (.box [(.c (.int .i64 (0 : Int))), (.c (.int .i64 (0 : Int))), .nils, .nils])), (3, (.lst v4.length 4 (gl cs_RootKey v4))), (4, (.box [(.c (.int .i64 a0.Length)), (.c (.int .i64 a0.Kind)), (.lst 38 x9.length 1 (gl (csL 5 cs_Key) x9)), (.lst 3 v4.length 4 (gl cs_RootKey v4))])), (38, (.lst x9.length 1 (gl (csL 5 cs_Key) x9))), (135, (.lst (x35 ++ ([((a0.Tracks.getD x8.toNat default).getD x34.toNat default)])).length 5 (gl cs_Key (x35 ++ ([((a0.Tracks.getD x8.toNat default).getD x34.toNat default)])))))]⟩ (Tt ∧ T2 Tt) [] [1, 2, 4, 6, 8, 9, 10, 26, 27] [1, 2, 3, 4, 38, 135] ⟨tr, tr, tr, tr⟩ ?_
            exact loopQ_normal (k, (IntKind.i64.wrap (x34 + (1 : Int))), (x35 ++ ([((a0.Tracks.getD x8.toNat default).getD x34.toNat default)]))) h (Nat.lt_succ_self k) (Sub.trans (Sub.swap 105 135 _ (by kernel_rfl) (by kernel_rfl)) (Sub.keep [1, 2, 4, 6, 8, 9, 10, 26, 27] [1, 2, 3, 4, 38, 105] (by kernel_rfl) (by kernel_rfl)))
        · refine AW.cond_f rfl b36 ?_
          refine AW.exit ?_
          refine thenQ_exit ?_
          refine loopQ_exit ?_
          refine blockQ_exit ?_
          replace h := some_eq h
          subst h
          exact ⟨rfl, Sub.keep [1, 2, 4, 6, 9, 26, 27] [1, 2, 3, 4, 38, 105] (by kernel_rfl) (by kernel_rfl)⟩
      refine thenQ_normal ?_
      obtain ⟨c49, h⟩ := chk_some h
      refine AW.rA ⟨[(1, (vc (.flt .f32 a1.bits))), (2, (vp 1 0)), (4, (vp 2 0)), (6, (vp 4 0)), (26, (vc (.int .i64 (a0.Tracks.length : Int)))), (27, (vc (.int .i64 x8)))], [(1, (.box [(.c (.int .i64 a0.Length)), (.c (.int .i64 a0.Kind)), (.c (sl 1 (csL 5 cs_Key) a0.Tracks)), (.c (sl 4 cs_RootKey a0.Roots))])), (2, (.box [(.c (.int .i64 (0 : Int))), (.c (.int .i64 (0 : Int))), .nils, .nils])), (3, (.lst v4.length 4 (gl cs_RootKey v4))), (4, (.box [(.c (.int .i64 a0.Length)), (.c (.int .i64 a0.Kind)), (.lst 137 (x9 ++ ([j30])).length 1 (gl (csL 5 cs_Key) (x9 ++ ([j30])))), (.lst 3 v4.length 4 (gl cs_RootKey v4))])), (137, (.lst (x9 ++ ([j30])).length 1 (gl (csL 5 cs_Key) (x9 ++ ([j30])))))]⟩ (Tt ∧ T2 ((([j30]).length = 1 ∧ (Eqc (sl 5 cs_Key j30)) ∧ Tt) ∧ ((x9 ++ ([j30])).length = x9.length + ([j30]).length ∧ AppOb (x9.length) (([j30]).length) 1 (gl (csL 5 cs_Key) x9) (gl (csL 5 cs_Key) ([j30])) (gl (csL 5 cs_Key) (x9 ++ ([j30]))) ∧ Tt ∧ (x9.length + ([j30]).length) * 24 ≤ 140737488355328) ∧ T2 Tt)) [.no, .no, .no, .obj 136 ([j30]).length (gl (csL 5 cs_Key) ([j30])), .obj 137 (x9 ++ ([j30])).length (gl (csL 5 cs_Key) (x9 ++ ([j30])))] [1, 2, 4, 6, 26, 27] [1, 2, 3, 4, 137] ⟨tr, tr, tr, ⟨rfl, ⟨rfl, tr⟩⟩, ⟨List.length_append, gl_append, tr, c49⟩, tr, tr, tr⟩ ?_
      refine blockQ_normal ?_
      refine thenQ_normal ?_
      refine AW.rA ⟨[(1, (vc (.flt .f32 a1.bits))), (2, (vp 1 0)), (4, (vp 2 0)), (6, (vp 4 0)), (26, (vc (.int .i64 (a0.Tracks.length : Int)))), (27, (vc (.int .i64 (IntKind.i64.wrap (x8 + (1 : Int))))))], [(1, (.box [(.c (.int .i64 a0.Length)), (.c (.int .i64 a0.Kind)), (.c (sl 1 (csL 5 cs_Key) a0.Tracks)), (.c (sl 4 cs_RootKey a0.Roots))])), (2, (.box [(.c (.int .i64 (0 : Int))), (.c (.int .i64 (0 : Int))), .nils, .nils])), (3, (.lst v4.length 4 (gl cs_RootKey v4))), (4, (.box [(.c (.int .i64 a0.Length)), (.c (.int .i64 a0.Kind)), (.lst 137 (x9 ++ ([j30])).length 1 (gl (csL 5 cs_Key) (x9 ++ ([j30])))), (.lst 3 v4.length 4 (gl cs_RootKey v4))])), (137, (.lst (x9 ++ ([j30])).length 1 (gl (csL 5 cs_Key) (x9 ++ ([j30])))))]⟩ (T2 Tt) [] [1, 2, 4, 6, 26, 27] [1, 2, 3, 4, 137] ⟨tr, tr, tr⟩ ?_
      exact loopQ_normal (k, (IntKind.i64.wrap (x8 + (1 : Int))), (x9 ++ ([j30]))) h (Nat.lt_succ_self k) (Sub.trans (Sub.swap 38 137 _ (by kernel_rfl) (by kernel_rfl)) (Sub.keep [1, 2, 4, 6, 26, 27] [1, 2, 3, 4, 38] (by kernel_rfl) (by kernel_rfl)))
    · refine AW.cond_f rfl b10 ?_
      refine AW.exit ?_
      refine thenQ_exit ?_
      refine loopQ_exit ?_
      refine blockQ_exit ?_
      refine thenQ_normal ?_
      refine AW.seq (AW.rA ⟨[(4, (vp 2 0)), (5, (vc (.bool true)))], [(2, (.box [(.c (.int .i64 a0.Length)), (.c (.int .i64 a0.Kind)), (.lst 38 x9.length 1 (gl (csL 5 cs_Key) x9)), (.lst 3 v4.length 4 (gl cs_RootKey v4))])), (3, (.lst v4.length 4 (gl cs_RootKey v4))), (38, (.lst x9.length 1 (gl (csL 5 cs_Key) x9)))]⟩ (Tt ∧ T2 Tt) [] [4, 5] [2, 3, 38] ⟨tr, tr, tr, tr⟩ (thenQ_normal ?_))
      refine AW.ret ?_
      replace h := some_eq h
      subst h
      exact ⟨.inr rfl, retOK_of [(.agg [(.c (.int .i64 a0.Length)), (.c (.int .i64 a0.Kind)), (.lst 38 x9.length 1 (gl (csL 5 cs_Key) x9)), (.lst 3 v4.length 4 (gl cs_RootKey v4))]), (.one (.c (.bool true)))] (by kernel_rfl) ⟨⟨⟨rfl, tr⟩, ⟨rfl, tr⟩, rfl, rfl, tr⟩, ⟨rfl, tr⟩, tr⟩ (of_decide_eq_true (by kernel_rfl))⟩

/-! impl.turnTrack -/
def impl_turnTrack (_K : Nat) : Option (Unit) :=
  some ()

theorem ok_impl_turnTrack (K : Nat) (o : (Unit)) (h : impl_turnTrack K  = some o) : CallOK Tryz.prog 45 [] [.agg [(.fn 66 0 fun _ => .nilptr), (.fn 67 0 fun _ => .nilptr), (.fn 68 0 fun _ => .nilptr)]] := by
  refine callOK_of_AW Tryz.func45 rfl (by kernel_rfl) (Nat.le_of_ble_eq_true (by kernel_rfl)) ?_
  intro w0
  unfold impl_turnTrack at h
  refine AW.seq (AW.rA ⟨[(0, (vp 1 0))], [(1, (.box [(.c .nilfn), (.c .nilfn), (.c .nilfn)]))]⟩ (Tt ∧ Tt) [.box 1] [0] [1] ⟨tr, tr⟩ (thenQ_normal ?_))
  refine AW.seq (AW.rA ⟨[(0, (vp 1 0))], [(1, (.box [(.c (.fn 66 0 fun _ => .nilptr)), (.c (.fn 67 0 fun _ => .nilptr)), (.c (.fn 68 0 fun _ => .nilptr))]))]⟩ (T2 Tt) [] [0] [1] ⟨tr, tr, tr⟩ (thenQ_normal ?_))
  refine AW.ret ?_
  replace h := some_eq h
  subst h
  exact ⟨.inr rfl, retOK_of [(.agg [(.c (.fn 66 0 fun _ => .nilptr)), (.c (.fn 67 0 fun _ => .nilptr)), (.c (.fn 68 0 fun _ => .nilptr))])] (by kernel_rfl) ⟨⟨⟨rfl, rfl⟩, ⟨rfl, rfl⟩, ⟨rfl, rfl⟩, tr⟩, tr⟩ (of_decide_eq_true (by kernel_rfl))⟩

/-! impl.turnTrack$1 -/
def impl_turnTrack_1 (_K : Nat) (a0 : Key) : Option (Int) :=
  some a0.At

theorem ok_impl_turnTrack_1 (K : Nat) (a0 : Key) (o : (Int)) (h : impl_turnTrack_1 K a0 = some o) : CallOK Tryz.prog 66 [.agg (cs_Key a0)] [.one (.int .i64 o)] := by
  refine callOK_of_AW Tryz.func66 rfl (by kernel_rfl) (Nat.le_of_ble_eq_true (by kernel_rfl)) ?_
  intro w0
  unfold impl_turnTrack_1 at h
  refine AW.seq (AW.rA ⟨[(1, (vp 1 0))], [(1, (.box [(.c (.int .i64 a0.At)), (.c (.flt .f32 a0.Turn.W.bits)), (.c (.flt .f32 a0.Turn.X.bits)), (.c (.flt .f32 a0.Turn.Y.bits)), (.c (.flt .f32 a0.Turn.Z.bits))]))]⟩ (T2 Tt) [.box 1] [1] [1] ⟨tr, tr, tr⟩ (thenQ_normal ?_))
  refine AW.seq (AW.rA ⟨[(2, (vc (.int .i64 a0.At)))], []⟩ (Tt ∧ T2 Tt) [] [2] [] ⟨tr, tr, tr, tr⟩ (thenQ_normal ?_))
  refine AW.ret ?_
  replace h := some_eq h
  subst h
  exact ⟨.inr rfl, retOK_of [(.one (.c (.int .i64 a0.At)))] (by kernel_rfl) ⟨⟨rfl, tr⟩, tr⟩ (of_decide_eq_true (by kernel_rfl))⟩

/-! (impl.track[impl.Key]).valid -/
def impl_track_impl_Key_valid_l1 (K : Nat) (a1 : (List Key)) (a2 : Int) : Nat → Int → Int → Option (Bool)
  | 0, _, _ => none
  | k + 1, x3, x4 => ite2 ((decide (x4 < (a1.length : Int)))) (chk (0 ≤ x4 ∧ x4 < (a1.length : Int)) ((impl_turnTrack_1 K (a1.getD x4.toNat default)).bind fun v7 => (ite2 ((decide (v7 ≤ x3))) (some true) (some (decide (v7 > a2)))).bind fun j10 => ite2 (j10) (some false) ((impl_turnTrack_1 K (a1.getD x4.toNat default)).bind fun v13 => impl_track_impl_Key_valid_l1 K a1 a2 k v13 (IntKind.i64.wrap (x4 + (1 : Int)))))) ((ite2 ((decide ((a1.length : Int) ≥ (1 : Int)))) (some (decide ((a1.length : Int) ≤ (12 : Int)))) (some false)).bind fun j16 => some j16)

def impl_track_impl_Key_valid (K : Nat) (a1 : (List Key)) (a2 : Int) : Option (Bool) :=
  impl_track_impl_Key_valid_l1 K a1 a2 K ((-1) : Int) (0 : Int)

theorem ok_impl_track_impl_Key_valid (K : Nat) (a1 : (List Key)) (a2 : Int) (o : (Bool)) (h : impl_track_impl_Key_valid K a1 a2 = some o) : CallOK Tryz.prog 46 [.agg [(.fn 66 0 fun _ => .nilptr), (.fn 67 0 fun _ => .nilptr), (.fn 68 0 fun _ => .nilptr)], .one (sl 5 cs_Key a1), .one (.int .i64 a2)] [.one (.bool o)] := by
  refine callOK_of_AW Tryz.func46 rfl (by kernel_rfl) (Nat.le_of_ble_eq_true (by kernel_rfl)) ?_
  intro w0
  unfold impl_track_impl_Key_valid at h
  refine AW.seq (AW.rA ⟨[(1, (vc (sl 5 cs_Key a1))), (2, (vc (.int .i64 a2))), (3, (vp 1 0))], [(1, (.box [(.c (.fn 66 0 fun _ => .nilptr)), (.c (.fn 67 0 fun _ => .nilptr)), (.c (.fn 68 0 fun _ => .nilptr))]))]⟩ (T2 Tt) [.box 1] [1, 2, 3] [1] ⟨tr, tr, tr⟩ (thenQ_normal ?_))
  refine AW.seq (AW.rA ⟨[(1, (vc (sl 5 cs_Key a1))), (2, (vc (.int .i64 a2))), (3, (vp 1 0)), (7, (vc (.int .i64 ((-1) : Int))))], [(1, (.box [(.c (.fn 66 0 fun _ => .nilptr)), (.c (.fn 67 0 fun _ => .nilptr)), (.c (.fn 68 0 fun _ => .nilptr))]))]⟩ (Tt ∧ Tt) [] [1, 2, 3, 7] [1] ⟨tr, tr⟩ (thenQ_normal ?_))
  refine AW.seq ?_
  refine AW.seq (AW.rA ⟨[(1, (vc (sl 5 cs_Key a1))), (2, (vc (.int .i64 a2))), (3, (vp 1 0)), (7, (vc (.int .i64 ((-1) : Int)))), (11, (vc (sl 5 cs_Key a1))), (12, (vc (.int .i64 (a1.length : Int)))), (13, (vc (.int .i64 (0 : Int))))], [(1, (.box [(.c (.fn 66 0 fun _ => .nilptr)), (.c (.fn 67 0 fun _ => .nilptr)), (.c (.fn 68 0 fun _ => .nilptr))]))]⟩ (Tt ∧ T2 Tt) [] [1, 2, 3, 7, 11, 12, 13] [1] ⟨tr, tr, tr, tr⟩ (thenQ_normal ?_))
  refine AW.block ?_
  refine AW.loopQ (σ := Nat × Int × Int) (fun p => ⟨[(1, (vc (sl 5 cs_Key a1))), (2, (vc (.int .i64 a2))), (3, (vp 1 0)), (7, (vc (.int .i64 p.2.1))), (11, (vc (sl 5 cs_Key a1))), (12, (vc (.int .i64 (a1.length : Int)))), (13, (vc (.int .i64 p.2.2)))], [(1, (.box [(.c (.fn 66 0 fun _ => .nilptr)), (.c (.fn 67 0 fun _ => .nilptr)), (.c (.fn 68 0 fun _ => .nilptr))]))]⟩) (fun p => impl_track_impl_Key_valid_l1 K a1 a2 p.1 p.2.1 p.2.2 = some o) (fun p => p.1) (K, ((-1) : Int), (0 : Int)) h ?_
  clear h
  rintro ⟨k, x3, x4⟩ h
  replace h : impl_track_impl_Key_valid_l1 K a1 a2 k x3 x4 = some o := h
  show AW _ _ (⟨[(1, (vc (sl 5 cs_Key a1))), (2, (vc (.int .i64 a2))), (3, (vp 1 0)), (7, (vc (.int .i64 x3))), (11, (vc (sl 5 cs_Key a1))), (12, (vc (.int .i64 (a1.length : Int)))), (13, (vc (.int .i64 x4)))], [(1, (.box [(.c (.fn 66 0 fun _ => .nilptr)), (.c (.fn 67 0 fun _ => .nilptr)), (.c (.fn 68 0 fun _ => .nilptr))]))]⟩ : St) _
  obtain _ | k := k
  · rw [impl_track_impl_Key_valid_l1] at h; cases h
  rw [impl_track_impl_Key_valid_l1] at h
  refine AW.seq (AW.rA ⟨[(1, (vc (sl 5 cs_Key a1))), (2, (vc (.int .i64 a2))), (3, (vp 1 0)), (7, (vc (.int .i64 x3))), (11, (vc (sl 5 cs_Key a1))), (12, (vc (.int .i64 (a1.length : Int)))), (13, (vc (.int .i64 x4))), (14, (vc (.bool (decide (x4 < (a1.length : Int))))))], [(1, (.box [(.c (.fn 66 0 fun _ => .nilptr)), (.c (.fn 67 0 fun _ => .nilptr)), (.c (.fn 68 0 fun _ => .nilptr))]))]⟩ (Tt ∧ Tt) [] [1, 2, 3, 7, 11, 12, 13, 14] [1] ⟨tr, tr⟩ (thenQ_normal ?_))
  refine AW.seq ?_
  rcases ite2_cases h with ⟨b5, h⟩ | ⟨b5, h⟩
  · refine AW.cond_t rfl b5 ?_
    refine AW.skip ?_
    refine thenQ_normal ?_
    refine AW.seq ?_
    refine AW.block ?_
    refine AW.seq ?_
    obtain ⟨c6, h⟩ := chk_some h
    refine AW.rA ⟨[(1, (vc (sl 5 cs_Key a1))), (2, (vc (.int .i64 a2))), (3, (vp 1 0)), (7, (vc (.int .i64 x3))), (9, (vp 4 0)), (11, (vc (sl 5 cs_Key a1))), (12, (vc (.int .i64 (a1.length : Int)))), (13, (vc (.int .i64 x4)))], [(1, (.box [(.c (.fn 66 0 fun _ => .nilptr)), (.c (.fn 67 0 fun _ => .nilptr)), (.c (.fn 68 0 fun _ => .nilptr))])), (4, (.box [(.c (.int .i64 ((a1.getD x4.toNat default).At))), (.c (.flt .f32 (((a1.getD x4.toNat default).Turn).W).bits)), (.c (.flt .f32 (((a1.getD x4.toNat default).Turn).X).bits)), (.c (.flt .f32 (((a1.getD x4.toNat default).Turn).Y).bits)), (.c (.flt .f32 (((a1.getD x4.toNat default).Turn).Z).bits))]))]⟩ ((0 ≤ x4 ∧ x4 < (a1.length : Int)) ∧ Tt ∧ T2 Tt) [.no, .no, .box 4] [1, 2, 3, 7, 9, 11, 12, 13] [1, 4] ⟨c6, tr, tr, tr, tr⟩ ?_
    refine thenQ_normal ?_
    refine AW.seq ?_
    refine AW.seq ?_
    obtain ⟨v7, e8, h⟩ := bind_some h
    refine AW.rA ⟨[(1, (vc (sl 5 cs_Key a1))), (2, (vc (.int .i64 a2))), (3, (vp 1 0)), (7, (vc (.int .i64 x3))), (9, (vp 4 0)), (10, (vc (.int .i64 v7))), (11, (vc (sl 5 cs_Key a1))), (12, (vc (.int .i64 (a1.length : Int)))), (13, (vc (.int .i64 x4)))], [(1, (.box [(.c (.fn 66 0 fun _ => .nilptr)), (.c (.fn 67 0 fun _ => .nilptr)), (.c (.fn 68 0 fun _ => .nilptr))])), (4, (.box [(.c (.int .i64 ((a1.getD x4.toNat default).At))), (.c (.flt .f32 (((a1.getD x4.toNat default).Turn).W).bits)), (.c (.flt .f32 (((a1.getD x4.toNat default).Turn).X).bits)), (.c (.flt .f32 (((a1.getD x4.toNat default).Turn).Y).bits)), (.c (.flt .f32 (((a1.getD x4.toNat default).Turn).Z).bits))]))]⟩ (Tt ∧ T2 (((((Eqc (.int .i64 ((a1.getD x4.toNat default).At))) ∧ (Eqc (.flt .f32 (((a1.getD x4.toNat default).Turn).W).bits)) ∧ (Eqc (.flt .f32 (((a1.getD x4.toNat default).Turn).X).bits)) ∧ (Eqc (.flt .f32 (((a1.getD x4.toNat default).Turn).Y).bits)) ∧ (Eqc (.flt .f32 (((a1.getD x4.toNat default).Turn).Z).bits)) ∧ Tt) ∧ Tt) ∧ CallOK Tryz.prog 66 [.agg (cs_Key (a1.getD x4.toNat default))] [.one (.int .i64 v7)]) ∧ Tt ∧ Tt)) [.no, .no, .no, .call [.agg (cs_Key (a1.getD x4.toNat default))] [.one (.int .i64 v7)] [[.view]]] [1, 2, 3, 7, 9, 10, 11, 12, 13] [1, 4] ⟨tr, tr, tr, ⟨⟨⟨rfl, rfl, rfl, rfl, rfl, tr⟩, tr⟩, ok_impl_turnTrack_1 K (a1.getD x4.toNat default) v7 e8⟩, tr, tr⟩ ?_
    refine thenQ_normal ?_
    refine AW.seq ?_
    obtain ⟨j10, e11, h⟩ := bind_some h
    refine AW.join1 (s2 := ⟨[(1, (vc (sl 5 cs_Key a1))), (2, (vc (.int .i64 a2))), (3, (vp 1 0)), (9, (vp 4 0)), (11, (vc (sl 5 cs_Key a1))), (12, (vc (.int .i64 (a1.length : Int)))), (13, (vc (.int .i64 x4))), (28, (vc (.bool j10)))], [(1, (.box [(.c (.fn 66 0 fun _ => .nilptr)), (.c (.fn 67 0 fun _ => .nilptr)), (.c (.fn 68 0 fun _ => .nilptr))])), (4, (.box [(.c (.int .i64 ((a1.getD x4.toNat default).At))), (.c (.flt .f32 (((a1.getD x4.toNat default).Turn).W).bits)), (.c (.flt .f32 (((a1.getD x4.toNat default).Turn).X).bits)), (.c (.flt .f32 (((a1.getD x4.toNat default).Turn).Y).bits)), (.c (.flt .f32 (((a1.getD x4.toNat default).Turn).Z).bits))]))]⟩) ?_ ?_
    · rcases ite2_cases e11 with ⟨b9, e11⟩ | ⟨b9, e11⟩
      · replace e11 := some_eq e11
        subst e11
        exact AW.rA ⟨[(1, (vc (sl 5 cs_Key a1))), (2, (vc (.int .i64 a2))), (3, (vp 1 0)), (9, (vp 4 0)), (11, (vc (sl 5 cs_Key a1))), (12, (vc (.int .i64 (a1.length : Int)))), (13, (vc (.int .i64 x4))), (28, (vc (.bool true)))], [(1, (.box [(.c (.fn 66 0 fun _ => .nilptr)), (.c (.fn 67 0 fun _ => .nilptr)), (.c (.fn 68 0 fun _ => .nilptr))])), (4, (.box [(.c (.int .i64 ((a1.getD x4.toNat default).At))), (.c (.flt .f32 (((a1.getD x4.toNat default).Turn).W).bits)), (.c (.flt .f32 (((a1.getD x4.toNat default).Turn).X).bits)), (.c (.flt .f32 (((a1.getD x4.toNat default).Turn).Y).bits)), (.c (.flt .f32 (((a1.getD x4.toNat default).Turn).Z).bits))]))]⟩ (Tt ∧ T2 ((Tt ∧ (decide (v7 ≤ x3)) = true) ∧ T4 Tt)) [.no, .no, .no, .dec true] [1, 2, 3, 9, 11, 12, 13, 28] [1, 4] ⟨tr, tr, tr, ⟨tr, b9⟩, tr, tr, tr, tr, tr⟩ ⟨rfl, rfl⟩
      · replace e11 := some_eq e11
        subst e11
        exact AW.rA ⟨[(1, (vc (sl 5 cs_Key a1))), (2, (vc (.int .i64 a2))), (3, (vp 1 0)), (9, (vp 4 0)), (11, (vc (sl 5 cs_Key a1))), (12, (vc (.int .i64 (a1.length : Int)))), (13, (vc (.int .i64 x4))), (28, (vc (.bool (decide (v7 > a2)))))], [(1, (.box [(.c (.fn 66 0 fun _ => .nilptr)), (.c (.fn 67 0 fun _ => .nilptr)), (.c (.fn 68 0 fun _ => .nilptr))])), (4, (.box [(.c (.int .i64 ((a1.getD x4.toNat default).At))), (.c (.flt .f32 (((a1.getD x4.toNat default).Turn).W).bits)), (.c (.flt .f32 (((a1.getD x4.toNat default).Turn).X).bits)), (.c (.flt .f32 (((a1.getD x4.toNat default).Turn).Y).bits)), (.c (.flt .f32 (((a1.getD x4.toNat default).Turn).Z).bits))]))]⟩ (Tt ∧ T2 ((Tt ∧ (decide (v7 ≤ x3)) = false) ∧ T4 Tt)) [.no, .no, .no, .dec false] [1, 2, 3, 9, 11, 12, 13, 28] [1, 4] ⟨tr, tr, tr, ⟨tr, b9⟩, tr, tr, tr, tr, tr⟩ ⟨rfl, rfl⟩
    refine thenQ_normal ?_
    rcases ite2_cases h with ⟨b12, h⟩ | ⟨b12, h⟩
    · refine AW.cond_t rfl b12 ?_
      refine AW.seq (AW.rA ⟨[(6, (vc (.bool false)))], []⟩ (Tt ∧ Tt) [] [6] [] ⟨tr, tr⟩ (thenQ_normal ?_))
      refine AW.ret ?_
      refine thenQ_ret ?_
      refine blockQ_ret ?_
      refine thenQ_ret ?_
      refine loopQ_ret ?_
      refine blockQ_ret ?_
      refine thenQ_ret ?_
      replace h := some_eq h
      subst h
      exact ⟨.inr rfl, retOK_of [(.one (.c (.bool false)))] (by kernel_rfl) ⟨⟨rfl, tr⟩, tr⟩ (of_decide_eq_true (by kernel_rfl))⟩
    · refine AW.cond_f rfl b12 ?_
      refine AW.skip ?_
      refine thenQ_normal ?_
      obtain ⟨v13, e14, h⟩ := bind_some h
      refine AW.rA ⟨[(1, (vc (sl 5 cs_Key a1))), (2, (vc (.int .i64 a2))), (3, (vp 1 0)), (7, (vc (.int .i64 v13))), (11, (vc (sl 5 cs_Key a1))), (12, (vc (.int .i64 (a1.length : Int)))), (13, (vc (.int .i64 x4)))], [(1, (.box [(.c (.fn 66 0 fun _ => .nilptr)), (.c (.fn 67 0 fun _ => .nilptr)), (.c (.fn 68 0 fun _ => .nilptr))]))]⟩ (Tt ∧ T2 (((((Eqc (.int .i64 ((a1.getD x4.toNat default).At))) ∧ (Eqc (.flt .f32 (((a1.getD x4.toNat default).Turn).W).bits)) ∧ (Eqc (.flt .f32 (((a1.getD x4.toNat default).Turn).X).bits)) ∧ (Eqc (.flt .f32 (((a1.getD x4.toNat default).Turn).Y).bits)) ∧ (Eqc (.flt .f32 (((a1.getD x4.toNat default).Turn).Z).bits)) ∧ Tt) ∧ Tt) ∧ CallOK Tryz.prog 66 [.agg (cs_Key (a1.getD x4.toNat default))] [.one (.int .i64 v13)]) ∧ Tt ∧ Tt)) [.no, .no, .no, .call [.agg (cs_Key (a1.getD x4.toNat default))] [.one (.int .i64 v13)] [[.view]]] [1, 2, 3, 7, 11, 12, 13] [1] ⟨tr, tr, tr, ⟨⟨⟨rfl, rfl, rfl, rfl, rfl, tr⟩, tr⟩, ok_impl_turnTrack_1 K (a1.getD x4.toNat default) v13 e14⟩, tr, tr⟩ ?_
      refine blockQ_normal ?_
      refine thenQ_normal ?_
      refine AW.rA ⟨[(1, (vc (sl 5 cs_Key a1))), (2, (vc (.int .i64 a2))), (3, (vp 1 0)), (7, (vc (.int .i64 v13))), (11, (vc (sl 5 cs_Key a1))), (12, (vc (.int .i64 (a1.length : Int)))), (13, (vc (.int .i64 (IntKind.i64.wrap (x4 + (1 : Int))))))], [(1, (.box [(.c (.fn 66 0 fun _ => .nilptr)), (.c (.fn 67 0 fun _ => .nilptr)), (.c (.fn 68 0 fun _ => .nilptr))]))]⟩ (T2 Tt) [] [1, 2, 3, 7, 11, 12, 13] [1] ⟨tr, tr, tr⟩ ?_
      exact loopQ_normal (k, v13, (IntKind.i64.wrap (x4 + (1 : Int)))) h (Nat.lt_succ_self k) (Sub.keep [1, 2, 3, 7, 11, 12, 13] [1] (by kernel_rfl) (by kernel_rfl))
  · refine AW.cond_f rfl b5 ?_
    refine AW.exit ?_
    refine thenQ_exit ?_
    refine loopQ_exit ?_
    refine blockQ_exit ?_
    refine thenQ_normal ?_
    refine AW.seq ?_
    obtain ⟨j16, e17, h⟩ := bind_some h
    refine AW.join1 (s2 := ⟨[(6, (vc (.bool j16)))], []⟩) ?_ ?_
    · rcases ite2_cases e17 with ⟨b15, e17⟩ | ⟨b15, e17⟩
      · replace e17 := some_eq e17
        subst e17
        exact AW.rA ⟨[(6, (vc (.bool (decide ((a1.length : Int) ≤ (12 : Int))))))], []⟩ (Tt ∧ T2 ((Tt ∧ (decide ((a1.length : Int) ≥ (1 : Int))) = true) ∧ Tt ∧ T4 Tt)) [.no, .no, .no, .dec true] [6] [] ⟨tr, tr, tr, ⟨tr, b15⟩, tr, tr, tr, tr, tr, tr⟩ ⟨rfl, rfl⟩
      · replace e17 := some_eq e17
        subst e17
        exact AW.rA ⟨[(6, (vc (.bool false)))], []⟩ (Tt ∧ T2 ((Tt ∧ (decide ((a1.length : Int) ≥ (1 : Int))) = false) ∧ Tt ∧ T4 Tt)) [.no, .no, .no, .dec false] [6] [] ⟨tr, tr, tr, ⟨tr, b15⟩, tr, tr, tr, tr, tr, tr⟩ ⟨rfl, rfl⟩
    refine thenQ_normal ?_
    refine AW.ret ?_
    replace h := some_eq h
    subst h
    exact ⟨.inr rfl, retOK_of [(.one (.c (.bool j16)))] (by kernel_rfl) ⟨⟨rfl, tr⟩, tr⟩ (of_decide_eq_true (by kernel_rfl))⟩

/-! impl.rootTrack -/
def impl_rootTrack (_K : Nat) : Option (Unit) :=
  some ()

theorem ok_impl_rootTrack (K : Nat) (o : (Unit)) (h : impl_rootTrack K  = some o) : CallOK Tryz.prog 47 [] [.agg [(.fn 69 0 fun _ => .nilptr), (.fn 70 0 fun _ => .nilptr), (.fn 71 0 fun _ => .nilptr)]] := by
  refine callOK_of_AW Tryz.func47 rfl (by kernel_rfl) (Nat.le_of_ble_eq_true (by kernel_rfl)) ?_
  intro w0
  unfold impl_rootTrack at h
  refine AW.seq (AW.rA ⟨[(0, (vp 1 0))], [(1, (.box [(.c .nilfn), (.c .nilfn), (.c .nilfn)]))]⟩ (Tt ∧ Tt) [.box 1] [0] [1] ⟨tr, tr⟩ (thenQ_normal ?_))
  refine AW.seq (AW.rA ⟨[(0, (vp 1 0))], [(1, (.box [(.c (.fn 69 0 fun _ => .nilptr)), (.c (.fn 70 0 fun _ => .nilptr)), (.c (.fn 71 0 fun _ => .nilptr))]))]⟩ (T2 Tt) [] [0] [1] ⟨tr, tr, tr⟩ (thenQ_normal ?_))
  refine AW.ret ?_
  replace h := some_eq h
  subst h
  exact ⟨.inr rfl, retOK_of [(.agg [(.c (.fn 69 0 fun _ => .nilptr)), (.c (.fn 70 0 fun _ => .nilptr)), (.c (.fn 71 0 fun _ => .nilptr))])] (by kernel_rfl) ⟨⟨⟨rfl, rfl⟩, ⟨rfl, rfl⟩, ⟨rfl, rfl⟩, tr⟩, tr⟩ (of_decide_eq_true (by kernel_rfl))⟩

/-! impl.rootTrack$1 -/
def impl_rootTrack_1 (_K : Nat) (a0 : RootKey) : Option (Int) :=
  some a0.At

theorem ok_impl_rootTrack_1 (K : Nat) (a0 : RootKey) (o : (Int)) (h : impl_rootTrack_1 K a0 = some o) : CallOK Tryz.prog 69 [.agg (cs_RootKey a0)] [.one (.int .i64 o)] := by
  refine callOK_of_AW Tryz.func69 rfl (by kernel_rfl) (Nat.le_of_ble_eq_true (by kernel_rfl)) ?_
  intro w0
  unfold impl_rootTrack_1 at h
  refine AW.seq (AW.rA ⟨[(1, (vp 1 0))], [(1, (.box [(.c (.int .i64 a0.At)), (.c (.flt .f32 a0.Place.X.bits)), (.c (.flt .f32 a0.Place.Y.bits)), (.c (.flt .f32 a0.Place.Z.bits))]))]⟩ (T2 Tt) [.box 1] [1] [1] ⟨tr, tr, tr⟩ (thenQ_normal ?_))
  refine AW.seq (AW.rA ⟨[(2, (vc (.int .i64 a0.At)))], []⟩ (Tt ∧ T2 Tt) [] [2] [] ⟨tr, tr, tr, tr⟩ (thenQ_normal ?_))
  refine AW.ret ?_
  replace h := some_eq h
  subst h
  exact ⟨.inr rfl, retOK_of [(.one (.c (.int .i64 a0.At)))] (by kernel_rfl) ⟨⟨rfl, tr⟩, tr⟩ (of_decide_eq_true (by kernel_rfl))⟩

/-! (impl.track[impl.RootKey]).valid -/
def impl_track_impl_RootKey_valid_l1 (K : Nat) (a1 : (List RootKey)) (a2 : Int) : Nat → Int → Int → Option (Bool)
  | 0, _, _ => none
  | k + 1, x3, x4 => ite2 ((decide (x4 < (a1.length : Int)))) (chk (0 ≤ x4 ∧ x4 < (a1.length : Int)) ((impl_rootTrack_1 K (a1.getD x4.toNat default)).bind fun v7 => (ite2 ((decide (v7 ≤ x3))) (some true) (some (decide (v7 > a2)))).bind fun j10 => ite2 (j10) (some false) ((impl_rootTrack_1 K (a1.getD x4.toNat default)).bind fun v13 => impl_track_impl_RootKey_valid_l1 K a1 a2 k v13 (IntKind.i64.wrap (x4 + (1 : Int)))))) ((ite2 ((decide ((a1.length : Int) ≥ (1 : Int)))) (some (decide ((a1.length : Int) ≤ (12 : Int)))) (some false)).bind fun j16 => some j16)

def impl_track_impl_RootKey_valid (K : Nat) (a1 : (List RootKey)) (a2 : Int) : Option (Bool) :=
  impl_track_impl_RootKey_valid_l1 K a1 a2 K ((-1) : Int) (0 : Int)

theorem ok_impl_track_impl_RootKey_valid (K : Nat) (a1 : (List RootKey)) (a2 : Int) (o : (Bool)) (h : impl_track_impl_RootKey_valid K a1 a2 = some o) : CallOK Tryz.prog 48 [.agg [(.fn 69 0 fun _ => .nilptr), (.fn 70 0 fun _ => .nilptr), (.fn 71 0 fun _ => .nilptr)], .one (sl 4 cs_RootKey a1), .one (.int .i64 a2)] [.one (.bool o)] := by
  refine callOK_of_AW Tryz.func48 rfl (by kernel_rfl) (Nat.le_of_ble_eq_true (by kernel_rfl)) ?_
  intro w0
  unfold impl_track_impl_RootKey_valid at h
  refine AW.seq (AW.rA ⟨[(1, (vc (sl 4 cs_RootKey a1))), (2, (vc (.int .i64 a2))), (3, (vp 1 0))], [(1, (.box [(.c (.fn 69 0 fun _ => .nilptr)), (.c (.fn 70 0 fun _ => .nilptr)), (.c (.fn 71 0 fun _ => .nilptr))]))]⟩ (T2 Tt) [.box 1] [1, 2, 3] [1] ⟨tr, tr, tr⟩ (thenQ_normal ?_))
  refine AW.seq (AW.rA ⟨[(1, (vc (sl 4 cs_RootKey a1))), (2, (vc (.int .i64 a2))), (3, (vp 1 0)), (7, (vc (.int .i64 ((-1) : Int))))], [(1, (.box [(.c (.fn 69 0 fun _ => .nilptr)), (.c (.fn 70 0 fun _ => .nilptr)), (.c (.fn 71 0 fun _ => .nilptr))]))]⟩ (Tt ∧ Tt) [] [1, 2, 3, 7] [1] ⟨tr, tr⟩ (thenQ_normal ?_))
  refine AW.seq ?_
  refine AW.seq (AW.rA ⟨[(1, (vc (sl 4 cs_RootKey a1))), (2, (vc (.int .i64 a2))), (3, (vp 1 0)), (7, (vc (.int .i64 ((-1) : Int)))), (11, (vc (sl 4 cs_RootKey a1))), (12, (vc (.int .i64 (a1.length : Int)))), (13, (vc (.int .i64 (0 : Int))))], [(1, (.box [(.c (.fn 69 0 fun _ => .nilptr)), (.c (.fn 70 0 fun _ => .nilptr)), (.c (.fn 71 0 fun _ => .nilptr))]))]⟩ (Tt ∧ T2 Tt) [] [1, 2, 3, 7, 11, 12, 13] [1] ⟨tr, tr, tr, tr⟩ (thenQ_normal ?_))
  refine AW.block ?_
  refine AW.loopQ (σ := Nat × Int × Int) (fun p => ⟨[(1, (vc (sl 4 cs_RootKey a1))), (2, (vc (.int .i64 a2))), (3, (vp 1 0)), (7, (vc (.int .i64 p.2.1))), (11, (vc (sl 4 cs_RootKey a1))), (12, (vc (.int .i64 (a1.length : Int)))), (13, (vc (.int .i64 p.2.2)))], [(1, (.box [(.c (.fn 69 0 fun _ => .nilptr)), (.c (.fn 70 0 fun _ => .nilptr)), (.c (.fn 71 0 fun _ => .nilptr))]))]⟩) (fun p => impl_track_impl_RootKey_valid_l1 K a1 a2 p.1 p.2.1 p.2.2 = some o) (fun p => p.1) (K, ((-1) : Int), (0 : Int)) h ?_
  clear h
  rintro ⟨k, x3, x4⟩ h
  replace h : impl_track_impl_RootKey_valid_l1 K a1 a2 k x3 x4 = some o := h
  show AW _ _ (⟨[(1, (vc (sl 4 cs_RootKey a1))), (2, (vc (.int .i64 a2))), (3, (vp 1 0)), (7, (vc (.int .i64 x3))), (11, (vc (sl 4 cs_RootKey a1))), (12, (vc (.int .i64 (a1.length : Int)))), (13, (vc (.int .i64 x4)))], [(1, (.box [(.c (.fn 69 0 fun _ => .nilptr)), (.c (.fn 70 0 fun _ => .nilptr)), (.c (.fn 71 0 fun _ => .nilptr))]))]⟩ : St) _
  obtain _ | k := k
  · rw [impl_track_impl_RootKey_valid_l1] at h; cases h
  rw [impl_track_impl_RootKey_valid_l1] at h
  refine AW.seq (AW.rA ⟨[(1, (vc (sl 4 cs_RootKey a1))), (2, (vc (.int .i64 a2))), (3, (vp 1 0)), (7, (vc (.int .i64 x3))), (11, (vc (sl 4 cs_RootKey a1))), (12, (vc (.int .i64 (a1.length : Int)))), (13, (vc (.int .i64 x4))), (14, (vc (.bool (decide (x4 < (a1.length : Int))))))], [(1, (.box [(.c (.fn 69 0 fun _ => .nilptr)), (.c (.fn 70 0 fun _ => .nilptr)), (.c (.fn 71 0 fun _ => .nilptr))]))]⟩ (Tt ∧ Tt) [] [1, 2, 3, 7, 11, 12, 13, 14] [1] ⟨tr, tr⟩ (thenQ_normal ?_))
  refine AW.seq ?_
  rcases ite2_cases h with ⟨b5, h⟩ | ⟨b5, h⟩
  · refine AW.cond_t rfl b5 ?_
    refine AW.skip ?_
    refine thenQ_normal ?_
    refine AW.seq ?_
    refine AW.block ?_
    refine AW.seq ?_
    obtain ⟨c6, h⟩ := chk_some h
    refine AW.rA ⟨[(1, (vc (sl 4 cs_RootKey a1))), (2, (vc (.int .i64 a2))), (3, (vp 1 0)), (7, (vc (.int .i64 x3))), (9, (vp 4 0)), (11, (vc (sl 4 cs_RootKey a1))), (12, (vc (.int .i64 (a1.length : Int)))), (13, (vc (.int .i64 x4)))], [(1, (.box [(.c (.fn 69 0 fun _ => .nilptr)), (.c (.fn 70 0 fun _ => .nilptr)), (.c (.fn 71 0 fun _ => .nilptr))])), (4, (.box [(.c (.int .i64 ((a1.getD x4.toNat default).At))), (.c (.flt .f32 (((a1.getD x4.toNat default).Place).X).bits)), (.c (.flt .f32 (((a1.getD x4.toNat default).Place).Y).bits)), (.c (.flt .f32 (((a1.getD x4.toNat default).Place).Z).bits))]))]⟩ ((0 ≤ x4 ∧ x4 < (a1.length : Int)) ∧ Tt ∧ T2 Tt) [.no, .no, .box 4] [1, 2, 3, 7, 9, 11, 12, 13] [1, 4] ⟨c6, tr, tr, tr, tr⟩ ?_
    refine thenQ_normal ?_
    refine AW.seq ?_
    refine AW.seq ?_
    obtain ⟨v7, e8, h⟩ := bind_some h
    refine AW.rA ⟨[(1, (vc (sl 4 cs_RootKey a1))), (2, (vc (.int .i64 a2))), (3, (vp 1 0)), (7, (vc (.int .i64 x3))), (9, (vp 4 0)), (10, (vc (.int .i64 v7))), (11, (vc (sl 4 cs_RootKey a1))), (12, (vc (.int .i64 (a1.length : Int)))), (13, (vc (.int .i64 x4)))], [(1, (.box [(.c (.fn 69 0 fun _ => .nilptr)), (.c (.fn 70 0 fun _ => .nilptr)), (.c (.fn 71 0 fun _ => .nilptr))])), (4, (.box [(.c (.int .i64 ((a1.getD x4.toNat default).At))), (.c (.flt .f32 (((a1.getD x4.toNat default).Place).X).bits)), (.c (.flt .f32 (((a1.getD x4.toNat default).Place).Y).bits)), (.c (.flt .f32 (((a1.getD x4.toNat default).Place).Z).bits))]))]⟩ (Tt ∧ T2 (((((Eqc (.int .i64 ((a1.getD x4.toNat default).At))) ∧ (Eqc (.flt .f32 (((a1.getD x4.toNat default).Place).X).bits)) ∧ (Eqc (.flt .f32 (((a1.getD x4.toNat default).Place).Y).bits)) ∧ (Eqc (.flt .f32 (((a1.getD x4.toNat default).Place).Z).bits)) ∧ Tt) ∧ Tt) ∧ CallOK Tryz.prog 69 [.agg (cs_RootKey (a1.getD x4.toNat default))] [.one (.int .i64 v7)]) ∧ Tt ∧ Tt)) [.no, .no, .no, .call [.agg (cs_RootKey (a1.getD x4.toNat default))] [.one (.int .i64 v7)] [[.view]]] [1, 2, 3, 7, 9, 10, 11, 12, 13] [1, 4] ⟨tr, tr, tr, ⟨⟨⟨rfl, rfl, rfl, rfl, tr⟩, tr⟩, ok_impl_rootTrack_1 K (a1.getD x4.toNat default) v7 e8⟩, tr, tr⟩ ?_
    refine thenQ_normal ?_
    refine AW.seq ?_
    obtain ⟨j10, e11, h⟩ := bind_some h
    refine AW.join1 (s2 := ⟨[(1, (vc (sl 4 cs_RootKey a1))), (2, (vc (.int .i64 a2))), (3, (vp 1 0)), (9, (vp 4 0)), (11, (vc (sl 4 cs_RootKey a1))), (12, (vc (.int .i64 (a1.length : Int)))), (13, (vc (.int .i64 x4))), (28, (vc (.bool j10)))], [(1, (.box [(.c (.fn 69 0 fun _ => .nilptr)), (.c (.fn 70 0 fun _ => .nilptr)), (.c (.fn 71 0 fun _ => .nilptr))])), (4, (.box [(.c (.int .i64 ((a1.getD x4.toNat default).At))), (.c (.flt .f32 (((a1.getD x4.toNat default).Place).X).bits)), (.c (.flt .f32 (((a1.getD x4.toNat default).Place).Y).bits)), (.c (.flt .f32 (((a1.getD x4.toNat default).Place).Z).bits))]))]⟩) ?_ ?_
    · rcases ite2_cases e11 with ⟨b9, e11⟩ | ⟨b9, e11⟩
      · replace e11 := some_eq e11
        subst e11
        exact AW.rA ⟨[(1, (vc (sl 4 cs_RootKey a1))), (2, (vc (.int .i64 a2))), (3, (vp 1 0)), (9, (vp 4 0)), (11, (vc (sl 4 cs_RootKey a1))), (12, (vc (.int .i64 (a1.length : Int)))), (13, (vc (.int .i64 x4))), (28, (vc (.bool true)))], [(1, (.box [(.c (.fn 69 0 fun _ => .nilptr)), (.c (.fn 70 0 fun _ => .nilptr)), (.c (.fn 71 0 fun _ => .nilptr))])), (4, (.box [(.c (.int .i64 ((a1.getD x4.toNat default).At))), (.c (.flt .f32 (((a1.getD x4.toNat default).Place).X).bits)), (.c (.flt .f32 (((a1.getD x4.toNat default).Place).Y).bits)), (.c (.flt .f32 (((a1.getD x4.toNat default).Place).Z).bits))]))]⟩ (Tt ∧ T2 ((Tt ∧ (decide (v7 ≤ x3)) = true) ∧ T4 Tt)) [.no, .no, .no, .dec true] [1, 2, 3, 9, 11, 12, 13, 28] [1, 4] ⟨tr, tr, tr, ⟨tr, b9⟩, tr, tr, tr, tr, tr⟩ ⟨rfl, rfl⟩
      · replace e11 := some_eq e11
        subst e11
        exact AW.rA ⟨[(1, (vc (sl 4 cs_RootKey a1))), (2, (vc (.int .i64 a2))), (3, (vp 1 0)), (9, (vp 4 0)), (11, (vc (sl 4 cs_RootKey a1))), (12, (vc (.int .i64 (a1.length : Int)))), (13, (vc (.int .i64 x4))), (28, (vc (.bool (decide (v7 > a2)))))], [(1, (.box [(.c (.fn 69 0 fun _ => .nilptr)), (.c (.fn 70 0 fun _ => .nilptr)), (.c (.fn 71 0 fun _ => .nilptr))])), (4, (.box [(.c (.int .i64 ((a1.getD x4.toNat default).At))), (.c (.flt .f32 (((a1.getD x4.toNat default).Place).X).bits)), (.c (.flt .f32 (((a1.getD x4.toNat default).Place).Y).bits)), (.c (.flt .f32 (((a1.getD x4.toNat default).Place).Z).bits))]))]⟩ (Tt ∧ T2 ((Tt ∧ (decide (v7 ≤ x3)) = false) ∧ T4 Tt)) [.no, .no, .no, .dec false] [1, 2, 3, 9, 11, 12, 13, 28] [1, 4] ⟨tr, tr, tr, ⟨tr, b9⟩, tr, tr, tr, tr, tr⟩ ⟨rfl, rfl⟩
    refine thenQ_normal ?_
    rcases ite2_cases h with ⟨b12, h⟩ | ⟨b12, h⟩
    · refine AW.cond_t rfl b12 ?_
      refine AW.seq (AW.rA ⟨[(6, (vc (.bool false)))], []⟩ (Tt ∧ Tt) [] [6] [] ⟨tr, tr⟩ (thenQ_normal ?_))
      refine AW.ret ?_
      refine thenQ_ret ?_
      refine blockQ_ret ?_
      refine thenQ_ret ?_
      refine loopQ_ret ?_
      refine blockQ_ret ?_
      refine thenQ_ret ?_
      replace h := some_eq h
      subst h
      exact ⟨.inr rfl, retOK_of [(.one (.c (.bool false)))] (by kernel_rfl) ⟨⟨rfl, tr⟩, tr⟩ (of_decide_eq_true (by kernel_rfl))⟩
    · refine AW.cond_f rfl b12 ?_
      refine AW.skip ?_
      refine thenQ_normal ?_
      obtain ⟨v13, e14, h⟩ := bind_some h
      refine AW.rA ⟨[(1, (vc (sl 4 cs_RootKey a1))), (2, (vc (.int .i64 a2))), (3, (vp 1 0)), (7, (vc (.int .i64 v13))), (11, (vc (sl 4 cs_RootKey a1))), (12, (vc (.int .i64 (a1.length : Int)))), (13, (vc (.int .i64 x4)))], [(1, (.box [(.c (.fn 69 0 fun _ => .nilptr)), (.c (.fn 70 0 fun _ => .nilptr)), (.c (.fn 71 0 fun _ => .nilptr))]))]⟩ (Tt ∧ T2 (((((Eqc (.int .i64 ((a1.getD x4.toNat default).At))) ∧ (Eqc (.flt .f32 (((a1.getD x4.toNat default).Place).X).bits)) ∧ (Eqc (.flt .f32 (((a1.getD x4.toNat default).Place).Y).bits)) ∧ (Eqc (.flt .f32 (((a1.getD x4.toNat default).Place).Z).bits)) ∧ Tt) ∧ Tt) ∧ CallOK Tryz.prog 69 [.agg (cs_RootKey (a1.getD x4.toNat default))] [.one (.int .i64 v13)]) ∧ Tt ∧ Tt)) [.no, .no, .no, .call [.agg (cs_RootKey (a1.getD x4.toNat default))] [.one (.int .i64 v13)] [[.view]]] [1, 2, 3, 7, 11, 12, 13] [1] ⟨tr, tr, tr, ⟨⟨⟨rfl, rfl, rfl, rfl, tr⟩, tr⟩, ok_impl_rootTrack_1 K (a1.getD x4.toNat default) v13 e14⟩, tr, tr⟩ ?_
      refine blockQ_normal ?_
      refine thenQ_normal ?_
      refine AW.rA ⟨[(1, (vc (sl 4 cs_RootKey a1))), (2, (vc (.int .i64 a2))), (3, (vp 1 0)), (7, (vc (.int .i64 v13))), (11, (vc (sl 4 cs_RootKey a1))), (12, (vc (.int .i64 (a1.length : Int)))), (13, (vc (.int .i64 (IntKind.i64.wrap (x4 + (1 : Int))))))], [(1, (.box [(.c (.fn 69 0 fun _ => .nilptr)), (.c (.fn 70 0 fun _ => .nilptr)), (.c (.fn 71 0 fun _ => .nilptr))]))]⟩ (T2 Tt) [] [1, 2, 3, 7, 11, 12, 13] [1] ⟨tr, tr, tr⟩ ?_
      exact loopQ_normal (k, v13, (IntKind.i64.wrap (x4 + (1 : Int)))) h (Nat.lt_succ_self k) (Sub.keep [1, 2, 3, 7, 11, 12, 13] [1] (by kernel_rfl) (by kernel_rfl))
  · refine AW.cond_f rfl b5 ?_
    refine AW.exit ?_
    refine thenQ_exit ?_
    refine loopQ_exit ?_
    refine blockQ_exit ?_
    refine thenQ_normal ?_
    refine AW.seq ?_
    obtain ⟨j16, e17, h⟩ := bind_some h
    refine AW.join1 (s2 := ⟨[(6, (vc (.bool j16)))], []⟩) ?_ ?_
    · rcases ite2_cases e17 with ⟨b15, e17⟩ | ⟨b15, e17⟩
      · replace e17 := some_eq e17
        subst e17
        exact AW.rA ⟨[(6, (vc (.bool (decide ((a1.length : Int) ≤ (12 : Int))))))], []⟩ (Tt ∧ T2 ((Tt ∧ (decide ((a1.length : Int) ≥ (1 : Int))) = true) ∧ Tt ∧ T4 Tt)) [.no, .no, .no, .dec true] [6] [] ⟨tr, tr, tr, ⟨tr, b15⟩, tr, tr, tr, tr, tr, tr⟩ ⟨rfl, rfl⟩
      · replace e17 := some_eq e17
        subst e17
        exact AW.rA ⟨[(6, (vc (.bool false)))], []⟩ (Tt ∧ T2 ((Tt ∧ (decide ((a1.length : Int) ≥ (1 : Int))) = false) ∧ Tt ∧ T4 Tt)) [.no, .no, .no, .dec false] [6] [] ⟨tr, tr, tr, ⟨tr, b15⟩, tr, tr, tr, tr, tr, tr⟩ ⟨rfl, rfl⟩
    refine thenQ_normal ?_
    refine AW.ret ?_
    replace h := some_eq h
    subst h
    exact ⟨.inr rfl, retOK_of [(.one (.c (.bool j16)))] (by kernel_rfl) ⟨⟨rfl, tr⟩, tr⟩ (of_decide_eq_true (by kernel_rfl))⟩

/-! impl.ValidClip -/
def impl_ValidClip_l1 (K : Nat) (a0 : Clip) : Nat → Int → Option (Bool)
  | 0, _ => none
  | k + 1, x10 => ite2 ((decide (x10 < (a0.Tracks.length : Int)))) (chk (0 ≤ x10 ∧ x10 < (a0.Tracks.length : Int)) ((impl_turnTrack K ).bind fun v13 => (impl_track_impl_Key_valid K (a0.Tracks.getD x10.toNat default) a0.Length).bind fun v15 => ite2 ((!v15)) (some false) (impl_ValidClip_l1 K a0 k (IntKind.i64.wrap (x10 + (1 : Int)))))) ((impl_rootTrack K ).bind fun v18 => (impl_track_impl_RootKey_valid K a0.Roots a0.Length).bind fun v20 => some v20)

def impl_ValidClip (K : Nat) (a0 : Clip) : Option (Bool) :=
  (ite2 ((decide (a0.Length < (1 : Int)))) (some true) (ite2 ((decide (a0.Length > (1000 : Int)))) (some true) (ite2 ((decide (a0.Kind < (0 : Int)))) (some true) (ite2 ((decide (a0.Kind > (2 : Int)))) (some true) (ite2 ((decide ((a0.Tracks.length : Int) < (1 : Int)))) (some true) (some (decide ((a0.Tracks.length : Int) > (12 : Int))))))))).bind fun j6 => ite2 (j6) (some false) (impl_ValidClip_l1 K a0 K (0 : Int))

theorem ok_impl_ValidClip (K : Nat) (a0 : Clip) (o : (Bool)) (h : impl_ValidClip K a0 = some o) : CallOK Tryz.prog 19 [.agg (cs_Clip a0)] [.one (.bool o)] := by
  refine callOK_of_AW Tryz.func19 rfl (by kernel_rfl) (Nat.le_of_ble_eq_true (by kernel_rfl)) ?_
  intro w0
  unfold impl_ValidClip at h
  refine AW.seq (AW.rA ⟨[(1, (vp 1 0))], [(1, (.box [(.c (.int .i64 a0.Length)), (.c (.int .i64 a0.Kind)), (.c (sl 1 (csL 5 cs_Key) a0.Tracks)), (.c (sl 4 cs_RootKey a0.Roots))]))]⟩ (T2 Tt) [.box 1] [1] [1] ⟨tr, tr, tr⟩ (thenQ_normal ?_))
  refine AW.seq ?_
  refine AW.seq ?_
  obtain ⟨j6, e7, h⟩ := bind_some h
  refine AW.join1 (s2 := ⟨[(1, (vp 1 0)), (34, (vc (.bool j6)))], [(1, (.box [(.c (.int .i64 a0.Length)), (.c (.int .i64 a0.Kind)), (.c (sl 1 (csL 5 cs_Key) a0.Tracks)), (.c (sl 4 cs_RootKey a0.Roots))]))]⟩) ?_ ?_
  · rcases ite2_cases e7 with ⟨b1, e7⟩ | ⟨b1, e7⟩
    · replace e7 := some_eq e7
      subst e7
      exact AW.rA ⟨[(1, (vp 1 0)), (34, (vc (.bool true)))], [(1, (.box [(.c (.int .i64 a0.Length)), (.c (.int .i64 a0.Kind)), (.c (sl 1 (csL 5 cs_Key) a0.Tracks)), (.c (sl 4 cs_RootKey a0.Roots))]))]⟩ (Tt ∧ T2 ((Tt ∧ (decide (a0.Length < (1 : Int))) = true) ∧ T2 (T4 (T4 (T4 (T4 (T4 (T4 Tt)))))))) [.no, .no, .no, .dec true] [1, 34] [1] ⟨tr, tr, tr, ⟨tr, b1⟩, tr, tr, tr, tr, tr, tr, tr, tr, tr, tr, tr, tr, tr, tr, tr, tr, tr, tr, tr, tr, tr, tr, tr, tr, tr, tr, tr⟩ ⟨rfl, rfl⟩
    · rcases ite2_cases e7 with ⟨b2, e7⟩ | ⟨b2, e7⟩
      · replace e7 := some_eq e7
        subst e7
        exact AW.rA ⟨[(1, (vp 1 0)), (34, (vc (.bool true)))], [(1, (.box [(.c (.int .i64 a0.Length)), (.c (.int .i64 a0.Kind)), (.c (sl 1 (csL 5 cs_Key) a0.Tracks)), (.c (sl 4 cs_RootKey a0.Roots))]))]⟩ (Tt ∧ T2 ((Tt ∧ (decide (a0.Length < (1 : Int))) = false) ∧ T4 ((Tt ∧ (decide (a0.Length > (1000 : Int))) = true) ∧ Tt ∧ T4 (T4 (T4 (T4 (T4 Tt))))))) [.no, .no, .no, .dec false, .no, .no, .no, .no, .dec true] [1, 34] [1] ⟨tr, tr, tr, ⟨tr, b1⟩, tr, tr, tr, tr, ⟨tr, b2⟩, tr, tr, tr, tr, tr, tr, tr, tr, tr, tr, tr, tr, tr, tr, tr, tr, tr, tr, tr, tr, tr, tr⟩ ⟨rfl, rfl⟩
      · rcases ite2_cases e7 with ⟨b3, e7⟩ | ⟨b3, e7⟩
        · replace e7 := some_eq e7
          subst e7
          exact AW.rA ⟨[(1, (vp 1 0)), (34, (vc (.bool true)))], [(1, (.box [(.c (.int .i64 a0.Length)), (.c (.int .i64 a0.Kind)), (.c (sl 1 (csL 5 cs_Key) a0.Tracks)), (.c (sl 4 cs_RootKey a0.Roots))]))]⟩ (Tt ∧ T2 ((Tt ∧ (decide (a0.Length < (1 : Int))) = false) ∧ T4 ((Tt ∧ (decide (a0.Length > (1000 : Int))) = false) ∧ T4 ((Tt ∧ (decide (a0.Kind < (0 : Int))) = true) ∧ T4 (T4 (T4 (T4 Tt))))))) [.no, .no, .no, .dec false, .no, .no, .no, .no, .dec false, .no, .no, .no, .no, .dec true] [1, 34] [1] ⟨tr, tr, tr, ⟨tr, b1⟩, tr, tr, tr, tr, ⟨tr, b2⟩, tr, tr, tr, tr, ⟨tr, b3⟩, tr, tr, tr, tr, tr, tr, tr, tr, tr, tr, tr, tr, tr, tr, tr, tr, tr⟩ ⟨rfl, rfl⟩
        · rcases ite2_cases e7 with ⟨b4, e7⟩ | ⟨b4, e7⟩
          · replace e7 := some_eq e7
            subst e7
            exact AW.rA ⟨[(1, (vp 1 0)), (34, (vc (.bool true)))], [(1, (.box [(.c (.int .i64 a0.Length)), (.c (.int .i64 a0.Kind)), (.c (sl 1 (csL 5 cs_Key) a0.Tracks)), (.c (sl 4 cs_RootKey a0.Roots))]))]⟩ (Tt ∧ T2 ((Tt ∧ (decide (a0.Length < (1 : Int))) = false) ∧ T4 ((Tt ∧ (decide (a0.Length > (1000 : Int))) = false) ∧ T4 ((Tt ∧ (decide (a0.Kind < (0 : Int))) = false) ∧ T4 ((Tt ∧ (decide (a0.Kind > (2 : Int))) = true) ∧ Tt ∧ T2 (T4 (T4 Tt))))))) [.no, .no, .no, .dec false, .no, .no, .no, .no, .dec false, .no, .no, .no, .no, .dec false, .no, .no, .no, .no, .dec true] [1, 34] [1] ⟨tr, tr, tr, ⟨tr, b1⟩, tr, tr, tr, tr, ⟨tr, b2⟩, tr, tr, tr, tr, ⟨tr, b3⟩, tr, tr, tr, tr, ⟨tr, b4⟩, tr, tr, tr, tr, tr, tr, tr, tr, tr, tr, tr, tr⟩ ⟨rfl, rfl⟩
          · rcases ite2_cases e7 with ⟨b5, e7⟩ | ⟨b5, e7⟩
            · replace e7 := some_eq e7
              subst e7
              exact AW.rA ⟨[(1, (vp 1 0)), (34, (vc (.bool true)))], [(1, (.box [(.c (.int .i64 a0.Length)), (.c (.int .i64 a0.Kind)), (.c (sl 1 (csL 5 cs_Key) a0.Tracks)), (.c (sl 4 cs_RootKey a0.Roots))]))]⟩ (Tt ∧ T2 ((Tt ∧ (decide (a0.Length < (1 : Int))) = false) ∧ T4 ((Tt ∧ (decide (a0.Length > (1000 : Int))) = false) ∧ T4 ((Tt ∧ (decide (a0.Kind < (0 : Int))) = false) ∧ T4 ((Tt ∧ (decide (a0.Kind > (2 : Int))) = false) ∧ Tt ∧ T4 ((Tt ∧ (decide ((a0.Tracks.length : Int) < (1 : Int))) = true) ∧ Tt ∧ T4 Tt)))))) [.no, .no, .no, .dec false, .no, .no, .no, .no, .dec false, .no, .no, .no, .no, .dec false, .no, .no, .no, .no, .dec false, .no, .no, .no, .no, .no, .dec true] [1, 34] [1] ⟨tr, tr, tr, ⟨tr, b1⟩, tr, tr, tr, tr, ⟨tr, b2⟩, tr, tr, tr, tr, ⟨tr, b3⟩, tr, tr, tr, tr, ⟨tr, b4⟩, tr, tr, tr, tr, tr, ⟨tr, b5⟩, tr, tr, tr, tr, tr, tr⟩ ⟨rfl, rfl⟩
            · replace e7 := some_eq e7
              subst e7
              exact AW.rA ⟨[(1, (vp 1 0)), (34, (vc (.bool (decide ((a0.Tracks.length : Int) > (12 : Int))))))], [(1, (.box [(.c (.int .i64 a0.Length)), (.c (.int .i64 a0.Kind)), (.c (sl 1 (csL 5 cs_Key) a0.Tracks)), (.c (sl 4 cs_RootKey a0.Roots))]))]⟩ (Tt ∧ T2 ((Tt ∧ (decide (a0.Length < (1 : Int))) = false) ∧ T4 ((Tt ∧ (decide (a0.Length > (1000 : Int))) = false) ∧ T4 ((Tt ∧ (decide (a0.Kind < (0 : Int))) = false) ∧ T4 ((Tt ∧ (decide (a0.Kind > (2 : Int))) = false) ∧ Tt ∧ T4 ((Tt ∧ (decide ((a0.Tracks.length : Int) < (1 : Int))) = false) ∧ Tt ∧ T4 Tt)))))) [.no, .no, .no, .dec false, .no, .no, .no, .no, .dec false, .no, .no, .no, .no, .dec false, .no, .no, .no, .no, .dec false, .no, .no, .no, .no, .no, .dec false] [1, 34] [1] ⟨tr, tr, tr, ⟨tr, b1⟩, tr, tr, tr, tr, ⟨tr, b2⟩, tr, tr, tr, tr, ⟨tr, b3⟩, tr, tr, tr, tr, ⟨tr, b4⟩, tr, tr, tr, tr, tr, ⟨tr, b5⟩, tr, tr, tr, tr, tr, tr⟩ ⟨rfl, rfl⟩
  refine thenQ_normal ?_
  rcases ite2_cases h with ⟨b8, h⟩ | ⟨b8, h⟩
  · refine AW.cond_t rfl b8 ?_
    refine AW.seq (AW.rA ⟨[(2, (vc (.bool false)))], []⟩ (Tt ∧ Tt) [] [2] [] ⟨tr, tr⟩ (thenQ_normal ?_))
    refine AW.ret ?_
    refine thenQ_ret ?_
    replace h := some_eq h
    subst h
    exact ⟨.inr rfl, retOK_of [(.one (.c (.bool false)))] (by kernel_rfl) ⟨⟨rfl, tr⟩, tr⟩ (of_decide_eq_true (by kernel_rfl))⟩
  · refine AW.cond_f rfl b8 ?_
    refine AW.skip ?_
    refine thenQ_normal ?_
    refine AW.seq ?_
    refine AW.seq (AW.rA ⟨[(1, (vp 1 0)), (36, (vc (sl 1 (csL 5 cs_Key) a0.Tracks))), (37, (vc (.int .i64 (a0.Tracks.length : Int)))), (38, (vc (.int .i64 (0 : Int))))], [(1, (.box [(.c (.int .i64 a0.Length)), (.c (.int .i64 a0.Kind)), (.c (sl 1 (csL 5 cs_Key) a0.Tracks)), (.c (sl 4 cs_RootKey a0.Roots))]))]⟩ (T4 Tt) [] [1, 36, 37, 38] [1] ⟨tr, tr, tr, tr, tr⟩ (thenQ_normal ?_))
    refine AW.block ?_
    refine AW.loopQ (σ := Nat × Int) (fun p => ⟨[(1, (vp 1 0)), (36, (vc (sl 1 (csL 5 cs_Key) a0.Tracks))), (37, (vc (.int .i64 (a0.Tracks.length : Int)))), (38, (vc (.int .i64 p.2)))], [(1, (.box [(.c (.int .i64 a0.Length)), (.c (.int .i64 a0.Kind)), (.c (sl 1 (csL 5 cs_Key) a0.Tracks)), (.c (sl 4 cs_RootKey a0.Roots))]))]⟩) (fun p => impl_ValidClip_l1 K a0 p.1 p.2 = some o) (fun p => p.1) (K, (0 : Int)) h ?_
    clear h
    rintro ⟨k, x10⟩ h
    replace h : impl_ValidClip_l1 K a0 k x10 = some o := h
    show AW _ _ (⟨[(1, (vp 1 0)), (36, (vc (sl 1 (csL 5 cs_Key) a0.Tracks))), (37, (vc (.int .i64 (a0.Tracks.length : Int)))), (38, (vc (.int .i64 x10)))], [(1, (.box [(.c (.int .i64 a0.Length)), (.c (.int .i64 a0.Kind)), (.c (sl 1 (csL 5 cs_Key) a0.Tracks)), (.c (sl 4 cs_RootKey a0.Roots))]))]⟩ : St) _
    obtain _ | k := k
    · rw [impl_ValidClip_l1] at h; cases h
    rw [impl_ValidClip_l1] at h
    refine AW.seq (AW.rA ⟨[(1, (vp 1 0)), (36, (vc (sl 1 (csL 5 cs_Key) a0.Tracks))), (37, (vc (.int .i64 (a0.Tracks.length : Int)))), (38, (vc (.int .i64 x10))), (39, (vc (.bool (decide (x10 < (a0.Tracks.length : Int))))))], [(1, (.box [(.c (.int .i64 a0.Length)), (.c (.int .i64 a0.Kind)), (.c (sl 1 (csL 5 cs_Key) a0.Tracks)), (.c (sl 4 cs_RootKey a0.Roots))]))]⟩ (Tt ∧ Tt) [] [1, 36, 37, 38, 39] [1] ⟨tr, tr⟩ (thenQ_normal ?_))
    refine AW.seq ?_
    rcases ite2_cases h with ⟨b11, h⟩ | ⟨b11, h⟩
    · refine AW.cond_t rfl b11 ?_
      refine AW.skip ?_
      refine thenQ_normal ?_
      refine AW.seq ?_
      refine AW.block ?_
      refine AW.seq ?_
      obtain ⟨c12, h⟩ := chk_some h
      refine AW.rA ⟨[(1, (vp 1 0)), (4, (vc (sl 5 cs_Key (a0.Tracks.getD x10.toNat default)))), (36, (vc (sl 1 (csL 5 cs_Key) a0.Tracks))), (37, (vc (.int .i64 (a0.Tracks.length : Int)))), (38, (vc (.int .i64 x10)))], [(1, (.box [(.c (.int .i64 a0.Length)), (.c (.int .i64 a0.Kind)), (.c (sl 1 (csL 5 cs_Key) a0.Tracks)), (.c (sl 4 cs_RootKey a0.Roots))]))]⟩ ((0 ≤ x10 ∧ x10 < (a0.Tracks.length : Int)) ∧ T2 Tt) [] [1, 4, 36, 37, 38] [1] ⟨c12, tr, tr, tr⟩ ?_
      refine thenQ_normal ?_
      refine AW.seq ?_
      obtain ⟨v13, e14, h⟩ := bind_some h
      obtain ⟨v15, e16, h⟩ := bind_some h
      refine AW.dA ⟨[(1, (vp 1 0)), (36, (vc (sl 1 (csL 5 cs_Key) a0.Tracks))), (37, (vc (.int .i64 (a0.Tracks.length : Int)))), (38, (vc (.int .i64 x10))), (47, (vc (.bool (!v15))))], [(1, (.box [(.c (.int .i64 a0.Length)), (.c (.int .i64 a0.Kind)), (.c (sl 1 (csL 5 cs_Key) a0.Tracks)), (.c (sl 4 cs_RootKey a0.Roots))]))]⟩ ((((Tt) ∧ CallOK Tryz.prog 45 [] [.agg [(.fn 66 0 fun _ => .nilptr), (.fn 67 0 fun _ => .nilptr), (.fn 68 0 fun _ => .nilptr)]]) ∧ Tt ∧ T2 (((((Eqc (.fn 66 0 fun _ => .nilptr)) ∧ (Eqc (.fn 67 0 fun _ => .nilptr)) ∧ (Eqc (.fn 68 0 fun _ => .nilptr)) ∧ Tt) ∧ (Eqc (sl 5 cs_Key (a0.Tracks.getD x10.toNat default))) ∧ (Eqc (.int .i64 a0.Length)) ∧ Tt) ∧ CallOK Tryz.prog 46 [.agg [(.fn 66 0 fun _ => .nilptr), (.fn 67 0 fun _ => .nilptr), (.fn 68 0 fun _ => .nilptr)], .one (sl 5 cs_Key (a0.Tracks.getD x10.toNat default)), .one (.int .i64 a0.Length)] [.one (.bool v15)]) ∧ Tt ∧ Tt)) ∧ (Tt)) 6 [.call [] [.agg [(.fn 66 0 fun _ => .nilptr), (.fn 67 0 fun _ => .nilptr), (.fn 68 0 fun _ => .nilptr)]] [[.view, .view, .view]], .no, .no, .no, .call [.agg [(.fn 66 0 fun _ => .nilptr), (.fn 67 0 fun _ => .nilptr), (.fn 68 0 fun _ => .nilptr)], .one (sl 5 cs_Key (a0.Tracks.getD x10.toNat default)), .one (.int .i64 a0.Length)] [.one (.bool v15)] [[.view]]] [1, 36, 37, 38, 47] [1] ⟨⟨⟨tr, ok_impl_turnTrack K v13 e14⟩, tr, tr, tr, ⟨⟨⟨rfl, rfl, rfl, tr⟩, rfl, rfl, tr⟩, ok_impl_track_impl_Key_valid K (a0.Tracks.getD x10.toNat default) a0.Length v15 e16⟩, tr, tr⟩, tr⟩ ?_
      refine thenQ_normal ?_
      rcases ite2_cases h with ⟨b17, h⟩ | ⟨b17, h⟩
      · refine AW.cond_t rfl b17 ?_
        refine AW.seq (AW.rA ⟨[(2, (vc (.bool false)))], []⟩ (Tt ∧ Tt) [] [2] [] ⟨tr, tr⟩ (thenQ_normal ?_))
        refine AW.ret ?_
        refine blockQ_ret ?_
        refine thenQ_ret ?_
        refine loopQ_ret ?_
        refine blockQ_ret ?_
        refine thenQ_ret ?_
        replace h := some_eq h
        subst h
        exact ⟨.inr rfl, retOK_of [(.one (.c (.bool false)))] (by kernel_rfl) ⟨⟨rfl, tr⟩, tr⟩ (of_decide_eq_true (by kernel_rfl))⟩
      · refine AW.cond_f rfl b17 ?_
        refine AW.skip ?_
        refine blockQ_normal ?_
        refine thenQ_normal ?_
        refine AW.rA ⟨[(1, (vp 1 0)), (36, (vc (sl 1 (csL 5 cs_Key) a0.Tracks))), (37, (vc (.int .i64 (a0.Tracks.length : Int)))), (38, (vc (.int .i64 (IntKind.i64.wrap (x10 + (1 : Int))))))], [(1, (.box [(.c (.int .i64 a0.Length)), (.c (.int .i64 a0.Kind)), (.c (sl 1 (csL 5 cs_Key) a0.Tracks)), (.c (sl 4 cs_RootKey a0.Roots))]))]⟩ (T2 Tt) [] [1, 36, 37, 38] [1] ⟨tr, tr, tr⟩ ?_
        exact loopQ_normal (k, (IntKind.i64.wrap (x10 + (1 : Int)))) h (Nat.lt_succ_self k) (Sub.keep [1, 36, 37, 38] [1] (by kernel_rfl) (by kernel_rfl))
    · refine AW.cond_f rfl b11 ?_
      refine AW.exit ?_
      refine thenQ_exit ?_
      refine loopQ_exit ?_
      refine blockQ_exit ?_
      refine thenQ_normal ?_
      refine AW.seq ?_
      obtain ⟨v18, e19, h⟩ := bind_some h
      obtain ⟨v20, e21, h⟩ := bind_some h
      refine AW.dA ⟨[(2, (vc (.bool v20)))], []⟩ ((((Tt) ∧ CallOK Tryz.prog 47 [] [.agg [(.fn 69 0 fun _ => .nilptr), (.fn 70 0 fun _ => .nilptr), (.fn 71 0 fun _ => .nilptr)]]) ∧ T4 (((((Eqc (.fn 69 0 fun _ => .nilptr)) ∧ (Eqc (.fn 70 0 fun _ => .nilptr)) ∧ (Eqc (.fn 71 0 fun _ => .nilptr)) ∧ Tt) ∧ (Eqc (sl 4 cs_RootKey a0.Roots)) ∧ (Eqc (.int .i64 a0.Length)) ∧ Tt) ∧ CallOK Tryz.prog 48 [.agg [(.fn 69 0 fun _ => .nilptr), (.fn 70 0 fun _ => .nilptr), (.fn 71 0 fun _ => .nilptr)], .one (sl 4 cs_RootKey a0.Roots), .one (.int .i64 a0.Length)] [.one (.bool v20)]) ∧ Tt ∧ Tt)) ∧ (Tt)) 7 [.call [] [.agg [(.fn 69 0 fun _ => .nilptr), (.fn 70 0 fun _ => .nilptr), (.fn 71 0 fun _ => .nilptr)]] [[.view, .view, .view]], .no, .no, .no, .no, .call [.agg [(.fn 69 0 fun _ => .nilptr), (.fn 70 0 fun _ => .nilptr), (.fn 71 0 fun _ => .nilptr)], .one (sl 4 cs_RootKey a0.Roots), .one (.int .i64 a0.Length)] [.one (.bool v20)] [[.view]]] [2] [] ⟨⟨⟨tr, ok_impl_rootTrack K v18 e19⟩, tr, tr, tr, tr, ⟨⟨⟨rfl, rfl, rfl, tr⟩, rfl, rfl, tr⟩, ok_impl_track_impl_RootKey_valid K a0.Roots a0.Length v20 e21⟩, tr, tr⟩, tr⟩ ?_
      refine thenQ_normal ?_
      refine AW.ret ?_
      replace h := some_eq h
      subst h
      exact ⟨.inr rfl, retOK_of [(.one (.c (.bool v20)))] (by kernel_rfl) ⟨⟨rfl, tr⟩, tr⟩ (of_decide_eq_true (by kernel_rfl))⟩

/-! slices.Clone[[]impl.RootKey,impl.RootKey] -/
def slices_Clone_impl_RootKey_impl_RootKey (_K : Nat) (a0 : (List RootKey)) : Option ((List RootKey)) :=
  chk ((([] : List RootKey).length + a0.length) * 24 ≤ 140737488355328) (some (([] : List RootKey) ++ a0))

theorem ok_slices_Clone_impl_RootKey_impl_RootKey (K : Nat) (a0 : (List RootKey)) (o : ((List RootKey))) (h : slices_Clone_impl_RootKey_impl_RootKey K a0 = some o) : CallOK Tryz.prog 24 [.one (sl 4 cs_RootKey a0)] [.one (sl 4 cs_RootKey o)] := by
  refine callOK_of_AW Tryz.func24 rfl (by kernel_rfl) (Nat.le_of_ble_eq_true (by kernel_rfl)) ?_
  intro w0
  unfold slices_Clone_impl_RootKey_impl_RootKey at h
  refine AW.seq (AW.rA ⟨[(0, (vc (sl 4 cs_RootKey a0)))], []⟩ (Tt ∧ Tt) [] [0] [] ⟨tr, tr⟩ (thenQ_normal ?_))
  refine AW.seq ?_
  refine AW.seq ?_
  refine AW.nilA (d := 4) (n := a0.length) 1 [.no] [0] [] (s' := ⟨[(0, (vc (sl 4 cs_RootKey a0)))], []⟩) (ob := Tt ∧ Tt) (by kernel_rfl) ⟨tr, tr⟩ ?_
  intro b2 b1
  cases b2
  · refine thenQ_normal ?_
    refine AW.cond_f (b := false) rfl rfl ?_
    refine AW.skip ?_
    refine thenQ_normal ?_
    refine AW.seq ?_
    obtain ⟨c3, h⟩ := chk_some h
    refine AW.rA ⟨[(2, (.v (.one (.lst 2 (([] : List RootKey) ++ a0).length 4 (gl cs_RootKey (([] : List RootKey) ++ a0))))))], [(2, (.lst (([] : List RootKey) ++ a0).length 4 (gl cs_RootKey (([] : List RootKey) ++ a0))))]⟩ ((([] : List RootKey).length = 0 ∧ Tt) ∧ Tt ∧ ((([] : List RootKey) ++ a0).length = ([] : List RootKey).length + a0.length ∧ AppOb (([] : List RootKey).length) (a0.length) 4 (gl cs_RootKey ([] : List RootKey)) (gl cs_RootKey a0) (gl cs_RootKey (([] : List RootKey) ++ a0)) ∧ (∀ i j, i < a0.length → j < 4 → scalarC (gl cs_RootKey a0 i j)) ∧ (([] : List RootKey).length + a0.length) * 24 ≤ 140737488355328) ∧ Tt ∧ Tt) [.obj 1 ([] : List RootKey).length (gl cs_RootKey ([] : List RootKey)), .no, .obj 2 (([] : List RootKey) ++ a0).length (gl cs_RootKey (([] : List RootKey) ++ a0))] [2] [2] ⟨⟨rfl, tr⟩, tr, ⟨List.length_append, gl_append, gl_scalar sc_RootKey _, c3⟩, tr, tr⟩ ?_
    refine thenQ_normal ?_
    refine AW.ret ?_
    replace h := some_eq h
    subst h
    exact ⟨.inr rfl, retOK_of [(.one (.lst 2 (([] : List RootKey) ++ a0).length 4 (gl cs_RootKey (([] : List RootKey) ++ a0))))] (by kernel_rfl) ⟨rfl, tr⟩ (of_decide_eq_true (by kernel_rfl))⟩
  · obtain rfl := List.eq_nil_of_length_eq_zero (b1 rfl)
    replace h : some ([] : (List RootKey)) = some o := by simpa [chk] using h
    refine thenQ_normal ?_
    refine AW.cond_t (b := true) rfl rfl ?_
    refine AW.seq (AW.rA ⟨[(2, (.v (.one .nils)))], []⟩ (Tt ∧ Tt) [] [2] [] ⟨tr, tr⟩ (thenQ_normal ?_))
    refine AW.ret ?_
    refine thenQ_ret ?_
    replace h := some_eq h
    subst h
    exact ⟨.inr rfl, retOK_of [(.one .nils)] (by kernel_rfl) ⟨rfl, tr⟩ (of_decide_eq_true (by kernel_rfl))⟩

/-! impl.ThinClip$2 -/
def impl_ThinClip_2 (K : Nat) (a0 : (List RootKey)) : Option ((List RootKey)) :=
  (slices_Clone_impl_RootKey_impl_RootKey K a0).bind fun v1 => some v1

theorem ok_impl_ThinClip_2 (K : Nat) (a0 : (List RootKey)) (o : ((List RootKey))) (h : impl_ThinClip_2 K a0 = some o) : CallOK Tryz.prog 23 [.one (sl 4 cs_RootKey a0)] [.one (sl 4 cs_RootKey o)] := by
  refine callOK_of_AW Tryz.func23 rfl (by kernel_rfl) (Nat.le_of_ble_eq_true (by kernel_rfl)) ?_
  intro w0
  unfold impl_ThinClip_2 at h
  refine AW.seq (AW.rA ⟨[(0, (vc (sl 4 cs_RootKey a0)))], []⟩ (Tt ∧ Tt) [] [0] [] ⟨tr, tr⟩ (thenQ_normal ?_))
  refine AW.seq ?_
  obtain ⟨v1, e2, h⟩ := bind_some h
  refine AW.rA ⟨[(2, (.v (.one (.lst 1 v1.length 4 (gl cs_RootKey v1)))))], [(1, (.lst v1.length 4 (gl cs_RootKey v1)))]⟩ (Tt ∧ (((Eqc (sl 4 cs_RootKey a0)) ∧ Tt) ∧ CallOK Tryz.prog 24 [.one (sl 4 cs_RootKey a0)] [.one (sl 4 cs_RootKey v1)]) ∧ Tt ∧ Tt) [.no, .call [.one (sl 4 cs_RootKey a0)] [.one (sl 4 cs_RootKey v1)] [[.lst 1]]] [2] [1] ⟨tr, ⟨⟨rfl, tr⟩, ok_slices_Clone_impl_RootKey_impl_RootKey K a0 v1 e2⟩, tr, tr⟩ ?_
  refine thenQ_normal ?_
  refine AW.ret ?_
  replace h := some_eq h
  subst h
  exact ⟨.inr rfl, retOK_of [(.one (.lst 1 v1.length 4 (gl cs_RootKey v1)))] (by kernel_rfl) ⟨rfl, tr⟩ (of_decide_eq_true (by kernel_rfl))⟩

/-! impl.share -/
def impl_share (_K : Nat) (a0 : Int) (a1 : Int) (a2 : Int) : Option (F32) :=
  some ((Fl.ofInt .f32 (IntKind.i64.wrap (a1 - a0))).div (Fl.ofInt .f32 (IntKind.i64.wrap (a2 - a0))))

theorem ok_impl_share (K : Nat) (a0 : Int) (a1 : Int) (a2 : Int) (o : (F32)) (h : impl_share K a0 a1 a2 = some o) : CallOK Tryz.prog 52 [.one (.int .i64 a0), .one (.int .i64 a1), .one (.int .i64 a2)] [.one (.flt .f32 o.bits)] := by
  refine callOK_of_AW Tryz.func52 rfl (by kernel_rfl) (Nat.le_of_ble_eq_true (by kernel_rfl)) ?_
  intro w0
  unfold impl_share at h
  refine AW.seq (AW.rA ⟨[(0, (vc (.int .i64 a0))), (1, (vc (.int .i64 a1))), (2, (vc (.int .i64 a2)))], []⟩ (Tt ∧ Tt) [] [0, 1, 2] [] ⟨tr, tr⟩ (thenQ_normal ?_))
  refine AW.seq (AW.rA ⟨[(6, (vc (.flt .f32 ((Fl.ofInt .f32 (IntKind.i64.wrap (a1 - a0))).div (Fl.ofInt .f32 (IntKind.i64.wrap (a2 - a0)))).bits)))], []⟩ (T2 (T4 (T4 Tt))) [] [6] [] ⟨tr, tr, tr, tr, tr, tr, tr, tr, tr, tr, tr⟩ (thenQ_normal ?_))
  refine AW.ret ?_
  replace h := some_eq h
  subst h
  exact ⟨.inr rfl, retOK_of [(.one (.c (.flt .f32 ((Fl.ofInt .f32 (IntKind.i64.wrap (a1 - a0))).div (Fl.ofInt .f32 (IntKind.i64.wrap (a2 - a0)))).bits)))] (by kernel_rfl) ⟨⟨rfl, tr⟩, tr⟩ (of_decide_eq_true (by kernel_rfl))⟩

/-! impl.InnerOfTurns -/
def impl_InnerOfTurns (_K : Nat) (a0 : Turn) (a1 : Turn) : Option (F32) :=
  some ((((a0.W.mul a1.W).add (a0.X.mul a1.X)).add (a0.Y.mul a1.Y)).add (a0.Z.mul a1.Z))

theorem ok_impl_InnerOfTurns (K : Nat) (a0 : Turn) (a1 : Turn) (o : (F32)) (h : impl_InnerOfTurns K a0 a1 = some o) : CallOK Tryz.prog 76 [.agg (cs_Turn a0), .agg (cs_Turn a1)] [.one (.flt .f32 o.bits)] := by
  refine callOK_of_AW Tryz.func76 rfl (by kernel_rfl) (Nat.le_of_ble_eq_true (by kernel_rfl)) ?_
  intro w0
  unfold impl_InnerOfTurns at h
  refine AW.seq (AW.rA ⟨[(2, (vp 1 0)), (3, (vp 2 0))], [(1, (.box [(.c (.flt .f32 a0.W.bits)), (.c (.flt .f32 a0.X.bits)), (.c (.flt .f32 a0.Y.bits)), (.c (.flt .f32 a0.Z.bits))])), (2, (.box [(.c (.flt .f32 a1.W.bits)), (.c (.flt .f32 a1.X.bits)), (.c (.flt .f32 a1.Y.bits)), (.c (.flt .f32 a1.Z.bits))]))]⟩ (Tt ∧ T2 Tt) [.box 1, .box 2] [2, 3] [1, 2] ⟨tr, tr, tr, tr⟩ (thenQ_normal ?_))
  refine AW.seq (AW.rA ⟨[(4, (vc (.flt .f32 ((((a0.W.mul a1.W).add (a0.X.mul a1.X)).add (a0.Y.mul a1.Y)).add (a0.Z.mul a1.Z)).bits)))], []⟩ (T4 (T4 (T4 (T4 (T4 (T4 Tt)))))) [] [4] [] ⟨tr, tr, tr, tr, tr, tr, tr, tr, tr, tr, tr, tr, tr, tr, tr, tr, tr, tr, tr, tr, tr, tr, tr, tr, tr⟩ (thenQ_normal ?_))
  refine AW.ret ?_
  replace h := some_eq h
  subst h
  exact ⟨.inr rfl, retOK_of [(.one (.c (.flt .f32 ((((a0.W.mul a1.W).add (a0.X.mul a1.X)).add (a0.Y.mul a1.Y)).add (a0.Z.mul a1.Z)).bits)))] (by kernel_rfl) ⟨⟨rfl, tr⟩, tr⟩ (of_decide_eq_true (by kernel_rfl))⟩

/-! (impl.Turn).opposite -/
def impl_Turn_opposite (_K : Nat) (a0 : Turn) : Option (Turn) :=
  some (Turn.mk (a0.W.neg) (a0.X.neg) (a0.Y.neg) (a0.Z.neg))

theorem ok_impl_Turn_opposite (K : Nat) (a0 : Turn) (o : (Turn)) (h : impl_Turn_opposite K a0 = some o) : CallOK Tryz.prog 77 [.agg (cs_Turn a0)] [.agg (cs_Turn o)] := by
  refine callOK_of_AW Tryz.func77 rfl (by kernel_rfl) (Nat.le_of_ble_eq_true (by kernel_rfl)) ?_
  intro w0
  unfold impl_Turn_opposite at h
  refine AW.seq (AW.rA ⟨[(1, (vp 1 0)), (2, (vp 2 0))], [(1, (.box [(.c (.flt .f32 a0.W.bits)), (.c (.flt .f32 a0.X.bits)), (.c (.flt .f32 a0.Y.bits)), (.c (.flt .f32 a0.Z.bits))])), (2, (.box [(.c (.flt .f32 (default : F32).bits)), (.c (.flt .f32 (default : F32).bits)), (.c (.flt .f32 (default : F32).bits)), (.c (.flt .f32 (default : F32).bits))]))]⟩ (T2 Tt) [.box 1, .box 2] [1, 2] [1, 2] ⟨tr, tr, tr⟩ (thenQ_normal ?_))
  refine AW.seq (AW.rA ⟨[(2, (vp 2 0))], [(2, (.box [(.c (.flt .f32 (a0.W.neg).bits)), (.c (.flt .f32 (a0.X.neg).bits)), (.c (.flt .f32 (a0.Y.neg).bits)), (.c (.flt .f32 (a0.Z.neg).bits))]))]⟩ (T2 (T4 (T4 (T4 Tt)))) [] [2] [2] ⟨tr, tr, tr, tr, tr, tr, tr, tr, tr, tr, tr, tr, tr, tr, tr⟩ (thenQ_normal ?_))
  refine AW.ret ?_
  replace h := some_eq h
  subst h
  exact ⟨.inr rfl, retOK_of [(.agg [(.c (.flt .f32 (a0.W.neg).bits)), (.c (.flt .f32 (a0.X.neg).bits)), (.c (.flt .f32 (a0.Y.neg).bits)), (.c (.flt .f32 (a0.Z.neg).bits))])] (by kernel_rfl) ⟨⟨⟨rfl, tr⟩, ⟨rfl, tr⟩, ⟨rfl, tr⟩, ⟨rfl, tr⟩, tr⟩, tr⟩ (of_decide_eq_true (by kernel_rfl))⟩

/-! impl.between -/
def impl_between (_K : Nat) (a0 : F32) (a1 : F32) (a2 : F32) : Option (F32) :=
  some (a0.add (a2.mul (a1.sub a0)))

theorem ok_impl_between (K : Nat) (a0 : F32) (a1 : F32) (a2 : F32) (o : (F32)) (h : impl_between K a0 a1 a2 = some o) : CallOK Tryz.prog 79 [.one (.flt .f32 a0.bits), .one (.flt .f32 a1.bits), .one (.flt .f32 a2.bits)] [.one (.flt .f32 o.bits)] := by
  refine callOK_of_AW Tryz.func79 rfl (by kernel_rfl) (Nat.le_of_ble_eq_true (by kernel_rfl)) ?_
  intro w0
  unfold impl_between at h
  refine AW.seq (AW.rA ⟨[(0, (vc (.flt .f32 a0.bits))), (1, (vc (.flt .f32 a1.bits))), (2, (vc (.flt .f32 a2.bits)))], []⟩ (Tt ∧ Tt) [] [0, 1, 2] [] ⟨tr, tr⟩ (thenQ_normal ?_))
  refine AW.seq (AW.rA ⟨[(6, (vc (.flt .f32 (a0.add (a2.mul (a1.sub a0))).bits)))], []⟩ (T4 (T4 Tt)) [] [6] [] ⟨tr, tr, tr, tr, tr, tr, tr, tr, tr⟩ (thenQ_normal ?_))
  refine AW.ret ?_
  replace h := some_eq h
  subst h
  exact ⟨.inr rfl, retOK_of [(.one (.c (.flt .f32 (a0.add (a2.mul (a1.sub a0))).bits)))] (by kernel_rfl) ⟨⟨rfl, tr⟩, tr⟩ (of_decide_eq_true (by kernel_rfl))⟩

/-! impl.RootNumber -/
def impl_RootNumber (K : Nat) (a0 : F32) : Option (F32) :=
  (math_Sqrt K (Fl.cv .f32 .f64 a0)).bind fun v1 => chk ((convBits .f64 v1.bits .f32).isSome = true) (some (Fl.cv .f64 .f32 v1))

theorem ok_impl_RootNumber (K : Nat) (a0 : F32) (o : (F32)) (h : impl_RootNumber K a0 = some o) : CallOK Tryz.prog 109 [.one (.flt .f32 a0.bits)] [.one (.flt .f32 o.bits)] := by
  refine callOK_of_AW Tryz.func109 rfl (by kernel_rfl) (Nat.le_of_ble_eq_true (by kernel_rfl)) ?_
  intro w0
  unfold impl_RootNumber at h
  refine AW.seq (AW.rA ⟨[(0, (vc (.flt .f32 a0.bits)))], []⟩ (Tt ∧ Tt) [] [0] [] ⟨tr, tr⟩ (thenQ_normal ?_))
  refine AW.seq ?_
  obtain ⟨v1, e2, h⟩ := bind_some h
  obtain ⟨c3, h⟩ := chk_some h
  refine AW.rA ⟨[(2, (vc (.flt .f32 (Fl.cv .f64 .f32 v1).bits)))], []⟩ (Tt ∧ ((convBits .f32 a0.bits .f64).isSome = true) ∧ (((Eqc (.flt .f64 (Fl.cv .f32 .f64 a0).bits)) ∧ Tt) ∧ CallOK Tryz.prog 87 [.one (.flt .f64 (Fl.cv .f32 .f64 a0).bits)] [.one (.flt .f64 v1.bits)]) ∧ ((convBits .f64 v1.bits .f32).isSome = true) ∧ Tt ∧ Tt) [.no, .no, .call [.one (.flt .f64 (Fl.cv .f32 .f64 a0).bits)] [.one (.flt .f64 v1.bits)] [[.view]]] [2] [] ⟨tr, cv_wide a0, ⟨⟨rfl, tr⟩, ok_math_Sqrt K (Fl.cv .f32 .f64 a0) v1 e2⟩, c3, tr, tr⟩ ?_
  refine thenQ_normal ?_
  refine AW.ret ?_
  replace h := some_eq h
  subst h
  exact ⟨.inr rfl, retOK_of [(.one (.c (.flt .f32 (Fl.cv .f64 .f32 v1).bits)))] (by kernel_rfl) ⟨⟨rfl, tr⟩, tr⟩ (of_decide_eq_true (by kernel_rfl))⟩

/-! impl.LengthOfTurn -/
def impl_LengthOfTurn (K : Nat) (a0 : Turn) : Option (F32) :=
  (impl_InnerOfTurns K a0 a0).bind fun v1 => (impl_RootNumber K v1).bind fun v3 => some v3

theorem ok_impl_LengthOfTurn (K : Nat) (a0 : Turn) (o : (F32)) (h : impl_LengthOfTurn K a0 = some o) : CallOK Tryz.prog 96 [.agg (cs_Turn a0)] [.one (.flt .f32 o.bits)] := by
  refine callOK_of_AW Tryz.func96 rfl (by kernel_rfl) (Nat.le_of_ble_eq_true (by kernel_rfl)) ?_
  intro w0
  unfold impl_LengthOfTurn at h
  refine AW.seq (AW.rA ⟨[(1, (vp 1 0))], [(1, (.box [(.c (.flt .f32 a0.W.bits)), (.c (.flt .f32 a0.X.bits)), (.c (.flt .f32 a0.Y.bits)), (.c (.flt .f32 a0.Z.bits))]))]⟩ (T2 Tt) [.box 1] [1] [1] ⟨tr, tr, tr⟩ (thenQ_normal ?_))
  refine AW.seq ?_
  obtain ⟨v1, e2, h⟩ := bind_some h
  obtain ⟨v3, e4, h⟩ := bind_some h
  refine AW.rA ⟨[(2, (vc (.flt .f32 v3.bits)))], []⟩ (T2 (((((Eqc (.flt .f32 a0.W.bits)) ∧ (Eqc (.flt .f32 a0.X.bits)) ∧ (Eqc (.flt .f32 a0.Y.bits)) ∧ (Eqc (.flt .f32 a0.Z.bits)) ∧ Tt) ∧ ((Eqc (.flt .f32 a0.W.bits)) ∧ (Eqc (.flt .f32 a0.X.bits)) ∧ (Eqc (.flt .f32 a0.Y.bits)) ∧ (Eqc (.flt .f32 a0.Z.bits)) ∧ Tt) ∧ Tt) ∧ CallOK Tryz.prog 76 [.agg (cs_Turn a0), .agg (cs_Turn a0)] [.one (.flt .f32 v1.bits)]) ∧ (((Eqc (.flt .f32 v1.bits)) ∧ Tt) ∧ CallOK Tryz.prog 109 [.one (.flt .f32 v1.bits)] [.one (.flt .f32 v3.bits)]) ∧ Tt ∧ Tt)) [.no, .no, .call [.agg (cs_Turn a0), .agg (cs_Turn a0)] [.one (.flt .f32 v1.bits)] [[.view]], .call [.one (.flt .f32 v1.bits)] [.one (.flt .f32 v3.bits)] [[.view]]] [2] [] ⟨tr, tr, ⟨⟨⟨rfl, rfl, rfl, rfl, tr⟩, ⟨rfl, rfl, rfl, rfl, tr⟩, tr⟩, ok_impl_InnerOfTurns K a0 a0 v1 e2⟩, ⟨⟨rfl, tr⟩, ok_impl_RootNumber K v1 v3 e4⟩, tr, tr⟩ ?_
  refine thenQ_normal ?_
  refine AW.ret ?_
  replace h := some_eq h
  subst h
  exact ⟨.inr rfl, retOK_of [(.one (.c (.flt .f32 v3.bits)))] (by kernel_rfl) ⟨⟨rfl, tr⟩, tr⟩ (of_decide_eq_true (by kernel_rfl))⟩

/-! impl.IsFinite -/
def impl_IsFinite (_K : Nat) (a0 : F32) : Option (Bool) :=
  some ((a0.sub a0).eq (Fl.mk (k := .f32) 0 (by decide)))

theorem ok_impl_IsFinite (K : Nat) (a0 : F32) (o : (Bool)) (h : impl_IsFinite K a0 = some o) : CallOK Tryz.prog 106 [.one (.flt .f32 a0.bits)] [.one (.bool o)] := by
  refine callOK_of_AW Tryz.func106 rfl (by kernel_rfl) (Nat.le_of_ble_eq_true (by kernel_rfl)) ?_
  intro w0
  unfold impl_IsFinite at h
  refine AW.seq (AW.rA ⟨[(0, (vc (.flt .f32 a0.bits)))], []⟩ (Tt ∧ Tt) [] [0] [] ⟨tr, tr⟩ (thenQ_normal ?_))
  refine AW.seq (AW.rA ⟨[(2, (vc (.bool ((a0.sub a0).eq (Fl.mk (k := .f32) 0 (by decide))))))], []⟩ (Tt ∧ T4 Tt) [] [2] [] ⟨tr, tr, tr, tr, tr, tr⟩ (thenQ_normal ?_))
  refine AW.ret ?_
  replace h := some_eq h
  subst h
  exact ⟨.inr rfl, retOK_of [(.one (.c (.bool ((a0.sub a0).eq (Fl.mk (k := .f32) 0 (by decide))))))] (by kernel_rfl) ⟨⟨rfl, tr⟩, tr⟩ (of_decide_eq_true (by kernel_rfl))⟩

/-! impl.isLength -/
def impl_isLength (K : Nat) (a0 : F32) : Option (Bool) :=
  (impl_IsFinite K a0).bind fun v1 => (ite2 (v1) (some (a0.ne (Fl.mk (k := .f32) 0 (by decide)))) (some false)).bind fun j4 => some j4

theorem ok_impl_isLength (K : Nat) (a0 : F32) (o : (Bool)) (h : impl_isLength K a0 = some o) : CallOK Tryz.prog 97 [.one (.flt .f32 a0.bits)] [.one (.bool o)] := by
  refine callOK_of_AW Tryz.func97 rfl (by kernel_rfl) (Nat.le_of_ble_eq_true (by kernel_rfl)) ?_
  intro w0
  unfold impl_isLength at h
  refine AW.seq (AW.rA ⟨[(0, (vc (.flt .f32 a0.bits)))], []⟩ (Tt ∧ Tt) [] [0] [] ⟨tr, tr⟩ (thenQ_normal ?_))
  refine AW.seq ?_
  obtain ⟨v1, e2, h⟩ := bind_some h
  obtain ⟨j4, e5, h⟩ := bind_some h
  refine AW.join1 (s2 := ⟨[(2, (vc (.bool j4)))], []⟩) ?_ ?_
  · rcases ite2_cases e5 with ⟨b3, e5⟩ | ⟨b3, e5⟩
    · replace e5 := some_eq e5
      subst e5
      exact AW.rA ⟨[(2, (vc (.bool (a0.ne (Fl.mk (k := .f32) 0 (by decide))))))], []⟩ (Tt ∧ (((Eqc (.flt .f32 a0.bits)) ∧ Tt) ∧ CallOK Tryz.prog 106 [.one (.flt .f32 a0.bits)] [.one (.bool v1)]) ∧ (Tt ∧ v1 = true) ∧ T4 Tt) [.no, .call [.one (.flt .f32 a0.bits)] [.one (.bool v1)] [[.view]], .dec true] [2] [] ⟨tr, ⟨⟨rfl, tr⟩, ok_impl_IsFinite K a0 v1 e2⟩, ⟨tr, b3⟩, tr, tr, tr, tr, tr⟩ ⟨rfl, rfl⟩
    · replace e5 := some_eq e5
      subst e5
      exact AW.rA ⟨[(2, (vc (.bool false)))], []⟩ (Tt ∧ (((Eqc (.flt .f32 a0.bits)) ∧ Tt) ∧ CallOK Tryz.prog 106 [.one (.flt .f32 a0.bits)] [.one (.bool v1)]) ∧ (Tt ∧ v1 = false) ∧ T4 Tt) [.no, .call [.one (.flt .f32 a0.bits)] [.one (.bool v1)] [[.view]], .dec false] [2] [] ⟨tr, ⟨⟨rfl, tr⟩, ok_impl_IsFinite K a0 v1 e2⟩, ⟨tr, b3⟩, tr, tr, tr, tr, tr⟩ ⟨rfl, rfl⟩
  refine thenQ_normal ?_
  refine AW.ret ?_
  replace h := some_eq h
  subst h
  exact ⟨.inr rfl, retOK_of [(.one (.c (.bool j4)))] (by kernel_rfl) ⟨⟨rfl, tr⟩, tr⟩ (of_decide_eq_true (by kernel_rfl))⟩

/-! impl.NoTurn -/
def impl_NoTurn (_K : Nat) : Option (Turn) :=
  some (Turn.mk (Fl.mk (k := .f32) 1065353216 (by decide)) (default : F32) (default : F32) (default : F32))

theorem ok_impl_NoTurn (K : Nat) (o : (Turn)) (h : impl_NoTurn K  = some o) : CallOK Tryz.prog 98 [] [.agg (cs_Turn o)] := by
  refine callOK_of_AW Tryz.func98 rfl (by kernel_rfl) (Nat.le_of_ble_eq_true (by kernel_rfl)) ?_
  intro w0
  unfold impl_NoTurn at h
  refine AW.seq (AW.rA ⟨[(0, (vp 1 0))], [(1, (.box [(.c (.flt .f32 (default : F32).bits)), (.c (.flt .f32 (default : F32).bits)), (.c (.flt .f32 (default : F32).bits)), (.c (.flt .f32 (default : F32).bits))]))]⟩ (Tt ∧ Tt) [.box 1] [0] [1] ⟨tr, tr⟩ (thenQ_normal ?_))
  refine AW.seq (AW.rA ⟨[(0, (vp 1 0))], [(1, (.box [(.c (.flt .f32 (Fl.mk (k := .f32) 1065353216 (by decide)).bits)), (.c (.flt .f32 (default : F32).bits)), (.c (.flt .f32 (default : F32).bits)), (.c (.flt .f32 (default : F32).bits))]))]⟩ (T2 Tt) [] [0] [1] ⟨tr, tr, tr⟩ (thenQ_normal ?_))
  refine AW.ret ?_
  replace h := some_eq h
  subst h
  exact ⟨.inr rfl, retOK_of [(.agg [(.c (.flt .f32 (Fl.mk (k := .f32) 1065353216 (by decide)).bits)), (.c (.flt .f32 (default : F32).bits)), (.c (.flt .f32 (default : F32).bits)), (.c (.flt .f32 (default : F32).bits))])] (by kernel_rfl) ⟨⟨⟨rfl, tr⟩, ⟨rfl, tr⟩, ⟨rfl, tr⟩, ⟨rfl, tr⟩, tr⟩, tr⟩ (of_decide_eq_true (by kernel_rfl))⟩

/-! impl.MendTurn -/
def impl_MendTurn (K : Nat) (a0 : Turn) : Option (Turn) :=
  (impl_LengthOfTurn K a0).bind fun v1 => (impl_isLength K v1).bind fun v3 => ite2 ((!v3)) ((impl_NoTurn K ).bind fun v6 => some v6) (some (Turn.mk (a0.W.div v1) (a0.X.div v1) (a0.Y.div v1) (a0.Z.div v1)))

theorem ok_impl_MendTurn (K : Nat) (a0 : Turn) (o : (Turn)) (h : impl_MendTurn K a0 = some o) : CallOK Tryz.prog 78 [.agg (cs_Turn a0)] [.agg (cs_Turn o)] := by
  refine callOK_of_AW Tryz.func78 rfl (by kernel_rfl) (Nat.le_of_ble_eq_true (by kernel_rfl)) ?_
  intro w0
  unfold impl_MendTurn at h
  refine AW.seq (AW.rA ⟨[(1, (vp 1 0)), (2, (vp 2 0))], [(1, (.box [(.c (.flt .f32 a0.W.bits)), (.c (.flt .f32 a0.X.bits)), (.c (.flt .f32 a0.Y.bits)), (.c (.flt .f32 a0.Z.bits))])), (2, (.box [(.c (.flt .f32 (default : F32).bits)), (.c (.flt .f32 (default : F32).bits)), (.c (.flt .f32 (default : F32).bits)), (.c (.flt .f32 (default : F32).bits))]))]⟩ (T2 Tt) [.box 1, .box 2] [1, 2] [1, 2] ⟨tr, tr, tr⟩ (thenQ_normal ?_))
  refine AW.seq ?_
  obtain ⟨v1, e2, h⟩ := bind_some h
  refine AW.rA ⟨[(1, (vp 1 0)), (2, (vp 2 0)), (3, (vc (.flt .f32 v1.bits)))], [(1, (.box [(.c (.flt .f32 a0.W.bits)), (.c (.flt .f32 a0.X.bits)), (.c (.flt .f32 a0.Y.bits)), (.c (.flt .f32 a0.Z.bits))])), (2, (.box [(.c (.flt .f32 (default : F32).bits)), (.c (.flt .f32 (default : F32).bits)), (.c (.flt .f32 (default : F32).bits)), (.c (.flt .f32 (default : F32).bits))]))]⟩ (Tt ∧ ((((Eqc (.flt .f32 a0.W.bits)) ∧ (Eqc (.flt .f32 a0.X.bits)) ∧ (Eqc (.flt .f32 a0.Y.bits)) ∧ (Eqc (.flt .f32 a0.Z.bits)) ∧ Tt) ∧ Tt) ∧ CallOK Tryz.prog 96 [.agg (cs_Turn a0)] [.one (.flt .f32 v1.bits)]) ∧ Tt ∧ Tt) [.no, .call [.agg (cs_Turn a0)] [.one (.flt .f32 v1.bits)] [[.view]]] [1, 2, 3] [1, 2] ⟨tr, ⟨⟨⟨rfl, rfl, rfl, rfl, tr⟩, tr⟩, ok_impl_LengthOfTurn K a0 v1 e2⟩, tr, tr⟩ ?_
  refine thenQ_normal ?_
  refine AW.seq ?_
  refine AW.seq ?_
  obtain ⟨v3, e4, h⟩ := bind_some h
  refine AW.rA ⟨[(1, (vp 1 0)), (2, (vp 2 0)), (3, (vc (.flt .f32 v1.bits))), (8, (vc (.bool (!v3))))], [(1, (.box [(.c (.flt .f32 a0.W.bits)), (.c (.flt .f32 a0.X.bits)), (.c (.flt .f32 a0.Y.bits)), (.c (.flt .f32 a0.Z.bits))])), (2, (.box [(.c (.flt .f32 (default : F32).bits)), (.c (.flt .f32 (default : F32).bits)), (.c (.flt .f32 (default : F32).bits)), (.c (.flt .f32 (default : F32).bits))]))]⟩ (Tt ∧ (((Eqc (.flt .f32 v1.bits)) ∧ Tt) ∧ CallOK Tryz.prog 97 [.one (.flt .f32 v1.bits)] [.one (.bool v3)]) ∧ Tt ∧ Tt) [.no, .call [.one (.flt .f32 v1.bits)] [.one (.bool v3)] [[.view]]] [1, 2, 3, 8] [1, 2] ⟨tr, ⟨⟨rfl, tr⟩, ok_impl_isLength K v1 v3 e4⟩, tr, tr⟩ ?_
  refine thenQ_normal ?_
  rcases ite2_cases h with ⟨b5, h⟩ | ⟨b5, h⟩
  · refine AW.cond_t rfl b5 ?_
    refine AW.seq ?_
    obtain ⟨v6, e7, h⟩ := bind_some h
    refine AW.rA ⟨[(2, (vp 2 0))], [(2, (.box [(.c (.flt .f32 v6.W.bits)), (.c (.flt .f32 v6.X.bits)), (.c (.flt .f32 v6.Y.bits)), (.c (.flt .f32 v6.Z.bits))]))]⟩ (((Tt) ∧ CallOK Tryz.prog 98 [] [.agg (cs_Turn v6)]) ∧ Tt ∧ Tt) [.call [] [.agg (cs_Turn v6)] [[.view, .view, .view, .view]]] [2] [2] ⟨⟨tr, ok_impl_NoTurn K v6 e7⟩, tr, tr⟩ ?_
    refine thenQ_normal ?_
    refine AW.ret ?_
    refine thenQ_ret ?_
    replace h := some_eq h
    subst h
    exact ⟨.inr rfl, retOK_of [(.agg [(.c (.flt .f32 v6.W.bits)), (.c (.flt .f32 v6.X.bits)), (.c (.flt .f32 v6.Y.bits)), (.c (.flt .f32 v6.Z.bits))])] (by kernel_rfl) ⟨⟨⟨rfl, tr⟩, ⟨rfl, tr⟩, ⟨rfl, tr⟩, ⟨rfl, tr⟩, tr⟩, tr⟩ (of_decide_eq_true (by kernel_rfl))⟩
  · refine AW.cond_f rfl b5 ?_
    refine AW.skip ?_
    refine thenQ_normal ?_
    refine AW.seq (AW.rA ⟨[(2, (vp 2 0))], [(2, (.box [(.c (.flt .f32 (a0.W.div v1).bits)), (.c (.flt .f32 (a0.X.div v1).bits)), (.c (.flt .f32 (a0.Y.div v1).bits)), (.c (.flt .f32 (a0.Z.div v1).bits))]))]⟩ (T2 (T4 (T4 (T4 (T4 Tt))))) [] [2] [2] ⟨tr, tr, tr, tr, tr, tr, tr, tr, tr, tr, tr, tr, tr, tr, tr, tr, tr, tr, tr⟩ (thenQ_normal ?_))
    refine AW.ret ?_
    replace h := some_eq h
    subst h
    exact ⟨.inr rfl, retOK_of [(.agg [(.c (.flt .f32 (a0.W.div v1).bits)), (.c (.flt .f32 (a0.X.div v1).bits)), (.c (.flt .f32 (a0.Y.div v1).bits)), (.c (.flt .f32 (a0.Z.div v1).bits))])] (by kernel_rfl) ⟨⟨⟨rfl, tr⟩, ⟨rfl, tr⟩, ⟨rfl, tr⟩, ⟨rfl, tr⟩, tr⟩, tr⟩ (of_decide_eq_true (by kernel_rfl))⟩

/-! impl.NearTurn -/
def impl_NearTurn (K : Nat) (a0 : Turn) (a1 : Turn) (a2 : F32) : Option (Turn) :=
  (impl_InnerOfTurns K a0 a1).bind fun v1 => ite2 ((v1.lt' (Fl.mk (k := .f32) 0 (by decide)))) ((impl_Turn_opposite K a1).bind fun v4 => (impl_between K a0.W v4.W a2).bind fun v6 => (impl_between K a0.X v4.X a2).bind fun v8 => (impl_between K a0.Y v4.Y a2).bind fun v10 => (impl_between K a0.Z v4.Z a2).bind fun v12 => (impl_MendTurn K (Turn.mk v6 v8 v10 v12)).bind fun v14 => some v14) ((impl_between K a0.W a1.W a2).bind fun v16 => (impl_between K a0.X a1.X a2).bind fun v18 => (impl_between K a0.Y a1.Y a2).bind fun v20 => (impl_between K a0.Z a1.Z a2).bind fun v22 => (impl_MendTurn K (Turn.mk v16 v18 v20 v22)).bind fun v24 => some v24)

theorem ok_impl_NearTurn (K : Nat) (a0 : Turn) (a1 : Turn) (a2 : F32) (o : (Turn)) (h : impl_NearTurn K a0 a1 a2 = some o) : CallOK Tryz.prog 51 [.agg (cs_Turn a0), .agg (cs_Turn a1), .one (.flt .f32 a2.bits)] [.agg (cs_Turn o)] := by
  refine callOK_of_AW Tryz.func51 rfl (by kernel_rfl) (Nat.le_of_ble_eq_true (by kernel_rfl)) ?_
  intro w0
  unfold impl_NearTurn at h
  refine AW.seq (AW.rA ⟨[(2, (vc (.flt .f32 a2.bits))), (3, (vp 1 0)), (4, (vp 2 0)), (6, (vp 3 0))], [(1, (.box [(.c (.flt .f32 a0.W.bits)), (.c (.flt .f32 a0.X.bits)), (.c (.flt .f32 a0.Y.bits)), (.c (.flt .f32 a0.Z.bits))])), (2, (.box [(.c (.flt .f32 a1.W.bits)), (.c (.flt .f32 a1.X.bits)), (.c (.flt .f32 a1.Y.bits)), (.c (.flt .f32 a1.Z.bits))])), (3, (.box [(.c (.flt .f32 (default : F32).bits)), (.c (.flt .f32 (default : F32).bits)), (.c (.flt .f32 (default : F32).bits)), (.c (.flt .f32 (default : F32).bits))]))]⟩ (Tt ∧ T2 Tt) [.box 1, .box 2, .box 3] [2, 3, 4, 6] [1, 2, 3] ⟨tr, tr, tr, tr⟩ (thenQ_normal ?_))
  refine AW.seq ?_
  refine AW.seq ?_
  obtain ⟨v1, e2, h⟩ := bind_some h
  refine AW.rA ⟨[(2, (vc (.flt .f32 a2.bits))), (3, (vp 1 0)), (4, (vp 2 0)), (6, (vp 3 0)), (10, (vc (.bool (v1.lt' (Fl.mk (k := .f32) 0 (by decide))))))], [(1, (.box [(.c (.flt .f32 a0.W.bits)), (.c (.flt .f32 a0.X.bits)), (.c (.flt .f32 a0.Y.bits)), (.c (.flt .f32 a0.Z.bits))])), (2, (.box [(.c (.flt .f32 a1.W.bits)), (.c (.flt .f32 a1.X.bits)), (.c (.flt .f32 a1.Y.bits)), (.c (.flt .f32 a1.Z.bits))])), (3, (.box [(.c (.flt .f32 (default : F32).bits)), (.c (.flt .f32 (default : F32).bits)), (.c (.flt .f32 (default : F32).bits)), (.c (.flt .f32 (default : F32).bits))]))]⟩ (T2 (((((Eqc (.flt .f32 a0.W.bits)) ∧ (Eqc (.flt .f32 a0.X.bits)) ∧ (Eqc (.flt .f32 a0.Y.bits)) ∧ (Eqc (.flt .f32 a0.Z.bits)) ∧ Tt) ∧ ((Eqc (.flt .f32 a1.W.bits)) ∧ (Eqc (.flt .f32 a1.X.bits)) ∧ (Eqc (.flt .f32 a1.Y.bits)) ∧ (Eqc (.flt .f32 a1.Z.bits)) ∧ Tt) ∧ Tt) ∧ CallOK Tryz.prog 76 [.agg (cs_Turn a0), .agg (cs_Turn a1)] [.one (.flt .f32 v1.bits)]) ∧ Tt ∧ Tt)) [.no, .no, .call [.agg (cs_Turn a0), .agg (cs_Turn a1)] [.one (.flt .f32 v1.bits)] [[.view]]] [2, 3, 4, 6, 10] [1, 2, 3] ⟨tr, tr, ⟨⟨⟨rfl, rfl, rfl, rfl, tr⟩, ⟨rfl, rfl, rfl, rfl, tr⟩, tr⟩, ok_impl_InnerOfTurns K a0 a1 v1 e2⟩, tr, tr⟩ ?_
  refine thenQ_normal ?_
  rcases ite2_cases h with ⟨b3, h⟩ | ⟨b3, h⟩
  · refine AW.cond_t rfl b3 ?_
    obtain ⟨v4, e5, h⟩ := bind_some h
    refine AW.rA ⟨[(2, (vc (.flt .f32 a2.bits))), (3, (vp 1 0)), (4, (vp 2 0)), (6, (vp 3 0))], [(1, (.box [(.c (.flt .f32 a0.W.bits)), (.c (.flt .f32 a0.X.bits)), (.c (.flt .f32 a0.Y.bits)), (.c (.flt .f32 a0.Z.bits))])), (2, (.box [(.c (.flt .f32 v4.W.bits)), (.c (.flt .f32 v4.X.bits)), (.c (.flt .f32 v4.Y.bits)), (.c (.flt .f32 v4.Z.bits))])), (3, (.box [(.c (.flt .f32 (default : F32).bits)), (.c (.flt .f32 (default : F32).bits)), (.c (.flt .f32 (default : F32).bits)), (.c (.flt .f32 (default : F32).bits))]))]⟩ (Tt ∧ ((((Eqc (.flt .f32 a1.W.bits)) ∧ (Eqc (.flt .f32 a1.X.bits)) ∧ (Eqc (.flt .f32 a1.Y.bits)) ∧ (Eqc (.flt .f32 a1.Z.bits)) ∧ Tt) ∧ Tt) ∧ CallOK Tryz.prog 77 [.agg (cs_Turn a1)] [.agg (cs_Turn v4)]) ∧ Tt ∧ Tt) [.no, .call [.agg (cs_Turn a1)] [.agg (cs_Turn v4)] [[.view, .view, .view, .view]]] [2, 3, 4, 6] [1, 2, 3] ⟨tr, ⟨⟨⟨rfl, rfl, rfl, rfl, tr⟩, tr⟩, ok_impl_Turn_opposite K a1 v4 e5⟩, tr, tr⟩ ?_
    refine thenQ_normal ?_
    refine AW.seq ?_
    obtain ⟨v6, e7, h⟩ := bind_some h
    obtain ⟨v8, e9, h⟩ := bind_some h
    obtain ⟨v10, e11, h⟩ := bind_some h
    obtain ⟨v12, e13, h⟩ := bind_some h
    obtain ⟨v14, e15, h⟩ := bind_some h
    refine AW.dA ⟨[(6, (vp 3 0))], [(3, (.box [(.c (.flt .f32 v14.W.bits)), (.c (.flt .f32 v14.X.bits)), (.c (.flt .f32 v14.Y.bits)), (.c (.flt .f32 v14.Z.bits))]))]⟩ ((Tt ∧ T4 ((((Eqc (.flt .f32 a0.W.bits)) ∧ (Eqc (.flt .f32 v4.W.bits)) ∧ (Eqc (.flt .f32 a2.bits)) ∧ Tt) ∧ CallOK Tryz.prog 79 [.one (.flt .f32 a0.W.bits), .one (.flt .f32 v4.W.bits), .one (.flt .f32 a2.bits)] [.one (.flt .f32 v6.bits)]) ∧ Tt ∧ T4 ((((Eqc (.flt .f32 a0.X.bits)) ∧ (Eqc (.flt .f32 v4.X.bits)) ∧ (Eqc (.flt .f32 a2.bits)) ∧ Tt) ∧ CallOK Tryz.prog 79 [.one (.flt .f32 a0.X.bits), .one (.flt .f32 v4.X.bits), .one (.flt .f32 a2.bits)] [.one (.flt .f32 v8.bits)]) ∧ Tt ∧ T4 ((((Eqc (.flt .f32 a0.Y.bits)) ∧ (Eqc (.flt .f32 v4.Y.bits)) ∧ (Eqc (.flt .f32 a2.bits)) ∧ Tt) ∧ CallOK Tryz.prog 79 [.one (.flt .f32 a0.Y.bits), .one (.flt .f32 v4.Y.bits), .one (.flt .f32 a2.bits)] [.one (.flt .f32 v10.bits)]) ∧ Tt ∧ T4 ((((Eqc (.flt .f32 a0.Z.bits)) ∧ (Eqc (.flt .f32 v4.Z.bits)) ∧ (Eqc (.flt .f32 a2.bits)) ∧ Tt) ∧ CallOK Tryz.prog 79 [.one (.flt .f32 a0.Z.bits), .one (.flt .f32 v4.Z.bits), .one (.flt .f32 a2.bits)] [.one (.flt .f32 v12.bits)]) ∧ Tt ∧ ((((Eqc (.flt .f32 v6.bits)) ∧ (Eqc (.flt .f32 v8.bits)) ∧ (Eqc (.flt .f32 v10.bits)) ∧ (Eqc (.flt .f32 v12.bits)) ∧ Tt) ∧ Tt) ∧ CallOK Tryz.prog 78 [.agg (cs_Turn (Turn.mk v6 v8 v10 v12))] [.agg (cs_Turn v14)]) ∧ Tt))))) ∧ (Tt ∧ Tt)) 26 [.no, .no, .no, .no, .no, .call [.one (.flt .f32 a0.W.bits), .one (.flt .f32 v4.W.bits), .one (.flt .f32 a2.bits)] [.one (.flt .f32 v6.bits)] [[.view]], .no, .no, .no, .no, .no, .call [.one (.flt .f32 a0.X.bits), .one (.flt .f32 v4.X.bits), .one (.flt .f32 a2.bits)] [.one (.flt .f32 v8.bits)] [[.view]], .no, .no, .no, .no, .no, .call [.one (.flt .f32 a0.Y.bits), .one (.flt .f32 v4.Y.bits), .one (.flt .f32 a2.bits)] [.one (.flt .f32 v10.bits)] [[.view]], .no, .no, .no, .no, .no, .call [.one (.flt .f32 a0.Z.bits), .one (.flt .f32 v4.Z.bits), .one (.flt .f32 a2.bits)] [.one (.flt .f32 v12.bits)] [[.view]], .no, .call [.agg (cs_Turn (Turn.mk v6 v8 v10 v12))] [.agg (cs_Turn v14)] [[.view, .view, .view, .view]]] [6] [3] ⟨⟨tr, tr, tr, tr, tr, ⟨⟨rfl, rfl, rfl, tr⟩, ok_impl_between K a0.W v4.W a2 v6 e7⟩, tr, tr, tr, tr, tr, ⟨⟨rfl, rfl, rfl, tr⟩, ok_impl_between K a0.X v4.X a2 v8 e9⟩, tr, tr, tr, tr, tr, ⟨⟨rfl, rfl, rfl, tr⟩, ok_impl_between K a0.Y v4.Y a2 v10 e11⟩, tr, tr, tr, tr, tr, ⟨⟨rfl, rfl, rfl, tr⟩, ok_impl_between K a0.Z v4.Z a2 v12 e13⟩, tr, ⟨⟨⟨rfl, rfl, rfl, rfl, tr⟩, tr⟩, ok_impl_MendTurn K (Turn.mk v6 v8 v10 v12) v14 e15⟩, tr⟩, ⟨tr, tr⟩⟩ ?_
    refine thenQ_normal ?_
    refine AW.ret ?_
    replace h := some_eq h
    subst h
    exact ⟨.inr rfl, retOK_of [(.agg [(.c (.flt .f32 v14.W.bits)), (.c (.flt .f32 v14.X.bits)), (.c (.flt .f32 v14.Y.bits)), (.c (.flt .f32 v14.Z.bits))])] (by kernel_rfl) ⟨⟨⟨rfl, tr⟩, ⟨rfl, tr⟩, ⟨rfl, tr⟩, ⟨rfl, tr⟩, tr⟩, tr⟩ (of_decide_eq_true (by kernel_rfl))⟩
  · refine AW.cond_f rfl b3 ?_
    refine AW.skip ?_
    refine thenQ_normal ?_
    refine AW.seq ?_
    obtain ⟨v16, e17, h⟩ := bind_some h
    obtain ⟨v18, e19, h⟩ := bind_some h
    obtain ⟨v20, e21, h⟩ := bind_some h
    obtain ⟨v22, e23, h⟩ := bind_some h
    obtain ⟨v24, e25, h⟩ := bind_some h
    refine AW.dA ⟨[(6, (vp 3 0))], [(3, (.box [(.c (.flt .f32 v24.W.bits)), (.c (.flt .f32 v24.X.bits)), (.c (.flt .f32 v24.Y.bits)), (.c (.flt .f32 v24.Z.bits))]))]⟩ ((Tt ∧ T4 ((((Eqc (.flt .f32 a0.W.bits)) ∧ (Eqc (.flt .f32 a1.W.bits)) ∧ (Eqc (.flt .f32 a2.bits)) ∧ Tt) ∧ CallOK Tryz.prog 79 [.one (.flt .f32 a0.W.bits), .one (.flt .f32 a1.W.bits), .one (.flt .f32 a2.bits)] [.one (.flt .f32 v16.bits)]) ∧ Tt ∧ T4 ((((Eqc (.flt .f32 a0.X.bits)) ∧ (Eqc (.flt .f32 a1.X.bits)) ∧ (Eqc (.flt .f32 a2.bits)) ∧ Tt) ∧ CallOK Tryz.prog 79 [.one (.flt .f32 a0.X.bits), .one (.flt .f32 a1.X.bits), .one (.flt .f32 a2.bits)] [.one (.flt .f32 v18.bits)]) ∧ Tt ∧ T4 ((((Eqc (.flt .f32 a0.Y.bits)) ∧ (Eqc (.flt .f32 a1.Y.bits)) ∧ (Eqc (.flt .f32 a2.bits)) ∧ Tt) ∧ CallOK Tryz.prog 79 [.one (.flt .f32 a0.Y.bits), .one (.flt .f32 a1.Y.bits), .one (.flt .f32 a2.bits)] [.one (.flt .f32 v20.bits)]) ∧ Tt ∧ T4 ((((Eqc (.flt .f32 a0.Z.bits)) ∧ (Eqc (.flt .f32 a1.Z.bits)) ∧ (Eqc (.flt .f32 a2.bits)) ∧ Tt) ∧ CallOK Tryz.prog 79 [.one (.flt .f32 a0.Z.bits), .one (.flt .f32 a1.Z.bits), .one (.flt .f32 a2.bits)] [.one (.flt .f32 v22.bits)]) ∧ Tt ∧ ((((Eqc (.flt .f32 v16.bits)) ∧ (Eqc (.flt .f32 v18.bits)) ∧ (Eqc (.flt .f32 v20.bits)) ∧ (Eqc (.flt .f32 v22.bits)) ∧ Tt) ∧ Tt) ∧ CallOK Tryz.prog 78 [.agg (cs_Turn (Turn.mk v16 v18 v20 v22))] [.agg (cs_Turn v24)]) ∧ Tt))))) ∧ (Tt ∧ Tt)) 26 [.no, .no, .no, .no, .no, .call [.one (.flt .f32 a0.W.bits), .one (.flt .f32 a1.W.bits), .one (.flt .f32 a2.bits)] [.one (.flt .f32 v16.bits)] [[.view]], .no, .no, .no, .no, .no, .call [.one (.flt .f32 a0.X.bits), .one (.flt .f32 a1.X.bits), .one (.flt .f32 a2.bits)] [.one (.flt .f32 v18.bits)] [[.view]], .no, .no, .no, .no, .no, .call [.one (.flt .f32 a0.Y.bits), .one (.flt .f32 a1.Y.bits), .one (.flt .f32 a2.bits)] [.one (.flt .f32 v20.bits)] [[.view]], .no, .no, .no, .no, .no, .call [.one (.flt .f32 a0.Z.bits), .one (.flt .f32 a1.Z.bits), .one (.flt .f32 a2.bits)] [.one (.flt .f32 v22.bits)] [[.view]], .no, .call [.agg (cs_Turn (Turn.mk v16 v18 v20 v22))] [.agg (cs_Turn v24)] [[.view, .view, .view, .view]]] [6] [3] ⟨⟨tr, tr, tr, tr, tr, ⟨⟨rfl, rfl, rfl, tr⟩, ok_impl_between K a0.W a1.W a2 v16 e17⟩, tr, tr, tr, tr, tr, ⟨⟨rfl, rfl, rfl, tr⟩, ok_impl_between K a0.X a1.X a2 v18 e19⟩, tr, tr, tr, tr, tr, ⟨⟨rfl, rfl, rfl, tr⟩, ok_impl_between K a0.Y a1.Y a2 v20 e21⟩, tr, tr, tr, tr, tr, ⟨⟨rfl, rfl, rfl, tr⟩, ok_impl_between K a0.Z a1.Z a2 v22 e23⟩, tr, ⟨⟨⟨rfl, rfl, rfl, rfl, tr⟩, tr⟩, ok_impl_MendTurn K (Turn.mk v16 v18 v20 v22) v24 e25⟩, tr⟩, ⟨tr, tr⟩⟩ ?_
    refine thenQ_normal ?_
    refine AW.ret ?_
    replace h := some_eq h
    subst h
    exact ⟨.inr rfl, retOK_of [(.agg [(.c (.flt .f32 v24.W.bits)), (.c (.flt .f32 v24.X.bits)), (.c (.flt .f32 v24.Y.bits)), (.c (.flt .f32 v24.Z.bits))])] (by kernel_rfl) ⟨⟨⟨rfl, tr⟩, ⟨rfl, tr⟩, ⟨rfl, tr⟩, ⟨rfl, tr⟩, tr⟩, tr⟩ (of_decide_eq_true (by kernel_rfl))⟩

/-! impl.InverseOf -/
def impl_InverseOf (_K : Nat) (a0 : Turn) : Option (Turn) :=
  some (Turn.mk a0.W (a0.X.neg) (a0.Y.neg) (a0.Z.neg))

theorem ok_impl_InverseOf (K : Nat) (a0 : Turn) (o : (Turn)) (h : impl_InverseOf K a0 = some o) : CallOK Tryz.prog 75 [.agg (cs_Turn a0)] [.agg (cs_Turn o)] := by
  refine callOK_of_AW Tryz.func75 rfl (by kernel_rfl) (Nat.le_of_ble_eq_true (by kernel_rfl)) ?_
  intro w0
  unfold impl_InverseOf at h
  refine AW.seq (AW.rA ⟨[(1, (vp 1 0)), (2, (vp 2 0))], [(1, (.box [(.c (.flt .f32 a0.W.bits)), (.c (.flt .f32 a0.X.bits)), (.c (.flt .f32 a0.Y.bits)), (.c (.flt .f32 a0.Z.bits))])), (2, (.box [(.c (.flt .f32 (default : F32).bits)), (.c (.flt .f32 (default : F32).bits)), (.c (.flt .f32 (default : F32).bits)), (.c (.flt .f32 (default : F32).bits))]))]⟩ (T2 Tt) [.box 1, .box 2] [1, 2] [1, 2] ⟨tr, tr, tr⟩ (thenQ_normal ?_))
  refine AW.seq (AW.rA ⟨[(2, (vp 2 0))], [(2, (.box [(.c (.flt .f32 a0.W.bits)), (.c (.flt .f32 (a0.X.neg).bits)), (.c (.flt .f32 (a0.Y.neg).bits)), (.c (.flt .f32 (a0.Z.neg).bits))]))]⟩ (Tt ∧ T4 (T4 (T4 Tt))) [] [2] [2] ⟨tr, tr, tr, tr, tr, tr, tr, tr, tr, tr, tr, tr, tr, tr⟩ (thenQ_normal ?_))
  refine AW.ret ?_
  replace h := some_eq h
  subst h
  exact ⟨.inr rfl, retOK_of [(.agg [(.c (.flt .f32 a0.W.bits)), (.c (.flt .f32 (a0.X.neg).bits)), (.c (.flt .f32 (a0.Y.neg).bits)), (.c (.flt .f32 (a0.Z.neg).bits))])] (by kernel_rfl) ⟨⟨⟨rfl, tr⟩, ⟨rfl, tr⟩, ⟨rfl, tr⟩, ⟨rfl, tr⟩, tr⟩, tr⟩ (of_decide_eq_true (by kernel_rfl))⟩

/-! impl.MulTurns -/
def impl_MulTurns (_K : Nat) (a0 : Turn) (a1 : Turn) : Option (Turn) :=
  some (Turn.mk ((((a0.W.mul a1.W).sub (a0.X.mul a1.X)).sub (a0.Y.mul a1.Y)).sub (a0.Z.mul a1.Z)) ((((a0.W.mul a1.X).add (a0.X.mul a1.W)).add (a0.Y.mul a1.Z)).sub (a0.Z.mul a1.Y)) ((((a0.W.mul a1.Y).sub (a0.X.mul a1.Z)).add (a0.Y.mul a1.W)).add (a0.Z.mul a1.X)) ((((a0.W.mul a1.Z).add (a0.X.mul a1.Y)).sub (a0.Y.mul a1.X)).add (a0.Z.mul a1.W)))

theorem ok_impl_MulTurns (K : Nat) (a0 : Turn) (a1 : Turn) (o : (Turn)) (h : impl_MulTurns K a0 a1 = some o) : CallOK Tryz.prog 74 [.agg (cs_Turn a0), .agg (cs_Turn a1)] [.agg (cs_Turn o)] := by
  refine callOK_of_AW Tryz.func74 rfl (by kernel_rfl) (Nat.le_of_ble_eq_true (by kernel_rfl)) ?_
  intro w0
  unfold impl_MulTurns at h
  refine AW.seq (AW.rA ⟨[(2, (vp 1 0)), (3, (vp 2 0)), (4, (vp 3 0))], [(1, (.box [(.c (.flt .f32 a0.W.bits)), (.c (.flt .f32 a0.X.bits)), (.c (.flt .f32 a0.Y.bits)), (.c (.flt .f32 a0.Z.bits))])), (2, (.box [(.c (.flt .f32 a1.W.bits)), (.c (.flt .f32 a1.X.bits)), (.c (.flt .f32 a1.Y.bits)), (.c (.flt .f32 a1.Z.bits))])), (3, (.box [(.c (.flt .f32 (default : F32).bits)), (.c (.flt .f32 (default : F32).bits)), (.c (.flt .f32 (default : F32).bits)), (.c (.flt .f32 (default : F32).bits))]))]⟩ (Tt ∧ T2 Tt) [.box 1, .box 2, .box 3] [2, 3, 4] [1, 2, 3] ⟨tr, tr, tr, tr⟩ (thenQ_normal ?_))
  refine AW.seq (AW.rA ⟨[(4, (vp 3 0))], [(3, (.box [(.c (.flt .f32 ((((a0.W.mul a1.W).sub (a0.X.mul a1.X)).sub (a0.Y.mul a1.Y)).sub (a0.Z.mul a1.Z)).bits)), (.c (.flt .f32 ((((a0.W.mul a1.X).add (a0.X.mul a1.W)).add (a0.Y.mul a1.Z)).sub (a0.Z.mul a1.Y)).bits)), (.c (.flt .f32 ((((a0.W.mul a1.Y).sub (a0.X.mul a1.Z)).add (a0.Y.mul a1.W)).add (a0.Z.mul a1.X)).bits)), (.c (.flt .f32 ((((a0.W.mul a1.Z).add (a0.X.mul a1.Y)).sub (a0.Y.mul a1.X)).add (a0.Z.mul a1.W)).bits))]))]⟩ (T2 (T4 (T4 (T4 (T4 (T4 (T4 (T4 (T4 (T4 (T4 (T4 (T4 (T4 (T4 (T4 (T4 (T4 (T4 (T4 (T4 (T4 (T4 (T4 Tt)))))))))))))))))))))))) [] [4] [3] ⟨tr, tr, tr, tr, tr, tr, tr, tr, tr, tr, tr, tr, tr, tr, tr, tr, tr, tr, tr, tr, tr, tr, tr, tr, tr, tr, tr, tr, tr, tr, tr, tr, tr, tr, tr, tr, tr, tr, tr, tr, tr, tr, tr, tr, tr, tr, tr, tr, tr, tr, tr, tr, tr, tr, tr, tr, tr, tr, tr, tr, tr, tr, tr, tr, tr, tr, tr, tr, tr, tr, tr, tr, tr, tr, tr, tr, tr, tr, tr, tr, tr, tr, tr, tr, tr, tr, tr, tr, tr, tr, tr, tr, tr, tr, tr⟩ (thenQ_normal ?_))
  refine AW.ret ?_
  replace h := some_eq h
  subst h
  exact ⟨.inr rfl, retOK_of [(.agg [(.c (.flt .f32 ((((a0.W.mul a1.W).sub (a0.X.mul a1.X)).sub (a0.Y.mul a1.Y)).sub (a0.Z.mul a1.Z)).bits)), (.c (.flt .f32 ((((a0.W.mul a1.X).add (a0.X.mul a1.W)).add (a0.Y.mul a1.Z)).sub (a0.Z.mul a1.Y)).bits)), (.c (.flt .f32 ((((a0.W.mul a1.Y).sub (a0.X.mul a1.Z)).add (a0.Y.mul a1.W)).add (a0.Z.mul a1.X)).bits)), (.c (.flt .f32 ((((a0.W.mul a1.Z).add (a0.X.mul a1.Y)).sub (a0.Y.mul a1.X)).add (a0.Z.mul a1.W)).bits))])] (by kernel_rfl) ⟨⟨⟨rfl, tr⟩, ⟨rfl, tr⟩, ⟨rfl, tr⟩, ⟨rfl, tr⟩, tr⟩, tr⟩ (of_decide_eq_true (by kernel_rfl))⟩

/-! (impl.Turn).vector -/
def impl_Turn_vector (_K : Nat) (a0 : Turn) : Option (Vector) :=
  some (Vector.mk a0.X a0.Y a0.Z)

theorem ok_impl_Turn_vector (K : Nat) (a0 : Turn) (o : (Vector)) (h : impl_Turn_vector K a0 = some o) : CallOK Tryz.prog 94 [.agg (cs_Turn a0)] [.agg (cs_Vector o)] := by
  refine callOK_of_AW Tryz.func94 rfl (by kernel_rfl) (Nat.le_of_ble_eq_true (by kernel_rfl)) ?_
  intro w0
  unfold impl_Turn_vector at h
  refine AW.seq (AW.rA ⟨[(1, (vp 1 0)), (2, (vp 2 0))], [(1, (.box [(.c (.flt .f32 a0.W.bits)), (.c (.flt .f32 a0.X.bits)), (.c (.flt .f32 a0.Y.bits)), (.c (.flt .f32 a0.Z.bits))])), (2, (.box [(.c (.flt .f32 (default : F32).bits)), (.c (.flt .f32 (default : F32).bits)), (.c (.flt .f32 (default : F32).bits))]))]⟩ (T2 Tt) [.box 1, .box 2] [1, 2] [1, 2] ⟨tr, tr, tr⟩ (thenQ_normal ?_))
  refine AW.seq (AW.rA ⟨[(2, (vp 2 0))], [(2, (.box [(.c (.flt .f32 a0.X.bits)), (.c (.flt .f32 a0.Y.bits)), (.c (.flt .f32 a0.Z.bits))]))]⟩ (T4 (T4 Tt)) [] [2] [2] ⟨tr, tr, tr, tr, tr, tr, tr, tr, tr⟩ (thenQ_normal ?_))
  refine AW.ret ?_
  replace h := some_eq h
  subst h
  exact ⟨.inr rfl, retOK_of [(.agg [(.c (.flt .f32 a0.X.bits)), (.c (.flt .f32 a0.Y.bits)), (.c (.flt .f32 a0.Z.bits))])] (by kernel_rfl) ⟨⟨⟨rfl, tr⟩, ⟨rfl, tr⟩, ⟨rfl, tr⟩, tr⟩, tr⟩ (of_decide_eq_true (by kernel_rfl))⟩

/-! impl.InnerOf -/
def impl_InnerOf (_K : Nat) (a0 : Vector) (a1 : Vector) : Option (F32) :=
  some (((a0.X.mul a1.X).add (a0.Y.mul a1.Y)).add (a0.Z.mul a1.Z))

theorem ok_impl_InnerOf (K : Nat) (a0 : Vector) (a1 : Vector) (o : (F32)) (h : impl_InnerOf K a0 a1 = some o) : CallOK Tryz.prog 110 [.agg (cs_Vector a0), .agg (cs_Vector a1)] [.one (.flt .f32 o.bits)] := by
  refine callOK_of_AW Tryz.func110 rfl (by kernel_rfl) (Nat.le_of_ble_eq_true (by kernel_rfl)) ?_
  intro w0
  unfold impl_InnerOf at h
  refine AW.seq (AW.rA ⟨[(2, (vp 1 0)), (3, (vp 2 0))], [(1, (.box [(.c (.flt .f32 a0.X.bits)), (.c (.flt .f32 a0.Y.bits)), (.c (.flt .f32 a0.Z.bits))])), (2, (.box [(.c (.flt .f32 a1.X.bits)), (.c (.flt .f32 a1.Y.bits)), (.c (.flt .f32 a1.Z.bits))]))]⟩ (Tt ∧ T2 Tt) [.box 1, .box 2] [2, 3] [1, 2] ⟨tr, tr, tr, tr⟩ (thenQ_normal ?_))
  refine AW.seq (AW.rA ⟨[(4, (vc (.flt .f32 (((a0.X.mul a1.X).add (a0.Y.mul a1.Y)).add (a0.Z.mul a1.Z)).bits)))], []⟩ (T2 (T4 (T4 (T4 (T4 Tt))))) [] [4] [] ⟨tr, tr, tr, tr, tr, tr, tr, tr, tr, tr, tr, tr, tr, tr, tr, tr, tr, tr, tr⟩ (thenQ_normal ?_))
  refine AW.ret ?_
  replace h := some_eq h
  subst h
  exact ⟨.inr rfl, retOK_of [(.one (.c (.flt .f32 (((a0.X.mul a1.X).add (a0.Y.mul a1.Y)).add (a0.Z.mul a1.Z)).bits)))] (by kernel_rfl) ⟨⟨rfl, tr⟩, tr⟩ (of_decide_eq_true (by kernel_rfl))⟩

/-! impl.LongOf -/
def impl_LongOf (K : Nat) (a0 : Vector) : Option (F32) :=
  (impl_InnerOf K a0 a0).bind fun v1 => (impl_RootNumber K v1).bind fun v3 => some v3

theorem ok_impl_LongOf (K : Nat) (a0 : Vector) (o : (F32)) (h : impl_LongOf K a0 = some o) : CallOK Tryz.prog 93 [.agg (cs_Vector a0)] [.one (.flt .f32 o.bits)] := by
  refine callOK_of_AW Tryz.func93 rfl (by kernel_rfl) (Nat.le_of_ble_eq_true (by kernel_rfl)) ?_
  intro w0
  unfold impl_LongOf at h
  refine AW.seq (AW.rA ⟨[(1, (vp 1 0))], [(1, (.box [(.c (.flt .f32 a0.X.bits)), (.c (.flt .f32 a0.Y.bits)), (.c (.flt .f32 a0.Z.bits))]))]⟩ (T2 Tt) [.box 1] [1] [1] ⟨tr, tr, tr⟩ (thenQ_normal ?_))
  refine AW.seq ?_
  obtain ⟨v1, e2, h⟩ := bind_some h
  obtain ⟨v3, e4, h⟩ := bind_some h
  refine AW.rA ⟨[(2, (vc (.flt .f32 v3.bits)))], []⟩ (T2 (((((Eqc (.flt .f32 a0.X.bits)) ∧ (Eqc (.flt .f32 a0.Y.bits)) ∧ (Eqc (.flt .f32 a0.Z.bits)) ∧ Tt) ∧ ((Eqc (.flt .f32 a0.X.bits)) ∧ (Eqc (.flt .f32 a0.Y.bits)) ∧ (Eqc (.flt .f32 a0.Z.bits)) ∧ Tt) ∧ Tt) ∧ CallOK Tryz.prog 110 [.agg (cs_Vector a0), .agg (cs_Vector a0)] [.one (.flt .f32 v1.bits)]) ∧ (((Eqc (.flt .f32 v1.bits)) ∧ Tt) ∧ CallOK Tryz.prog 109 [.one (.flt .f32 v1.bits)] [.one (.flt .f32 v3.bits)]) ∧ Tt ∧ Tt)) [.no, .no, .call [.agg (cs_Vector a0), .agg (cs_Vector a0)] [.one (.flt .f32 v1.bits)] [[.view]], .call [.one (.flt .f32 v1.bits)] [.one (.flt .f32 v3.bits)] [[.view]]] [2] [] ⟨tr, tr, ⟨⟨⟨rfl, rfl, rfl, tr⟩, ⟨rfl, rfl, rfl, tr⟩, tr⟩, ok_impl_InnerOf K a0 a0 v1 e2⟩, ⟨⟨rfl, tr⟩, ok_impl_RootNumber K v1 v3 e4⟩, tr, tr⟩ ?_
  refine thenQ_normal ?_
  refine AW.ret ?_
  replace h := some_eq h
  subst h
  exact ⟨.inr rfl, retOK_of [(.one (.c (.flt .f32 v3.bits)))] (by kernel_rfl) ⟨⟨rfl, tr⟩, tr⟩ (of_decide_eq_true (by kernel_rfl))⟩

/-! impl.size -/
def impl_size (K : Nat) (a0 : F32) : Option (F32) :=
  (math_Abs K (Fl.cv .f32 .f64 a0)).bind fun v1 => chk ((convBits .f64 v1.bits .f32).isSome = true) (some (Fl.cv .f64 .f32 v1))

theorem ok_impl_size (K : Nat) (a0 : F32) (o : (F32)) (h : impl_size K a0 = some o) : CallOK Tryz.prog 95 [.one (.flt .f32 a0.bits)] [.one (.flt .f32 o.bits)] := by
  refine callOK_of_AW Tryz.func95 rfl (by kernel_rfl) (Nat.le_of_ble_eq_true (by kernel_rfl)) ?_
  intro w0
  unfold impl_size at h
  refine AW.seq (AW.rA ⟨[(0, (vc (.flt .f32 a0.bits)))], []⟩ (Tt ∧ Tt) [] [0] [] ⟨tr, tr⟩ (thenQ_normal ?_))
  refine AW.seq ?_
  obtain ⟨v1, e2, h⟩ := bind_some h
  obtain ⟨c3, h⟩ := chk_some h
  refine AW.rA ⟨[(2, (vc (.flt .f32 (Fl.cv .f64 .f32 v1).bits)))], []⟩ (Tt ∧ ((convBits .f32 a0.bits .f64).isSome = true) ∧ (((Eqc (.flt .f64 (Fl.cv .f32 .f64 a0).bits)) ∧ Tt) ∧ CallOK Tryz.prog 102 [.one (.flt .f64 (Fl.cv .f32 .f64 a0).bits)] [.one (.flt .f64 v1.bits)]) ∧ ((convBits .f64 v1.bits .f32).isSome = true) ∧ Tt ∧ Tt) [.no, .no, .call [.one (.flt .f64 (Fl.cv .f32 .f64 a0).bits)] [.one (.flt .f64 v1.bits)] [[.view]]] [2] [] ⟨tr, cv_wide a0, ⟨⟨rfl, tr⟩, ok_math_Abs K (Fl.cv .f32 .f64 a0) v1 e2⟩, c3, tr, tr⟩ ?_
  refine thenQ_normal ?_
  refine AW.ret ?_
  replace h := some_eq h
  subst h
  exact ⟨.inr rfl, retOK_of [(.one (.c (.flt .f32 (Fl.cv .f64 .f32 v1).bits)))] (by kernel_rfl) ⟨⟨rfl, tr⟩, tr⟩ (of_decide_eq_true (by kernel_rfl))⟩

/-! impl.notNumber -/
def impl_notNumber (K : Nat) : Option (F32) :=
  (math_NaN K ).bind fun v1 => chk ((convBits .f64 v1.bits .f32).isSome = true) (some (Fl.cv .f64 .f32 v1))

theorem ok_impl_notNumber (K : Nat) (o : (F32)) (h : impl_notNumber K  = some o) : CallOK Tryz.prog 107 [] [.one (.flt .f32 o.bits)] := by
  refine callOK_of_AW Tryz.func107 rfl (by kernel_rfl) (Nat.le_of_ble_eq_true (by kernel_rfl)) ?_
  intro w0
  unfold impl_notNumber at h
  refine AW.seq (AW.rA ⟨[], []⟩ (Tt ∧ Tt) [] [] [] ⟨tr, tr⟩ (thenQ_normal ?_))
  refine AW.seq ?_
  obtain ⟨v1, e2, h⟩ := bind_some h
  obtain ⟨c3, h⟩ := chk_some h
  refine AW.rA ⟨[(0, (vc (.flt .f32 (Fl.cv .f64 .f32 v1).bits)))], []⟩ (((Tt) ∧ CallOK Tryz.prog 101 [] [.one (.flt .f64 v1.bits)]) ∧ ((convBits .f64 v1.bits .f32).isSome = true) ∧ Tt ∧ Tt) [.call [] [.one (.flt .f64 v1.bits)] [[.view]]] [0] [] ⟨⟨tr, ok_math_NaN K v1 e2⟩, c3, tr, tr⟩ ?_
  refine thenQ_normal ?_
  refine AW.ret ?_
  replace h := some_eq h
  subst h
  exact ⟨.inr rfl, retOK_of [(.one (.c (.flt .f32 (Fl.cv .f64 .f32 v1).bits)))] (by kernel_rfl) ⟨⟨rfl, tr⟩, tr⟩ (of_decide_eq_true (by kernel_rfl))⟩

/-! impl.wideAngle -/
def impl_wideAngle_l2 (K : Nat) (a0 : F64) (a1 : F64) (v1 : (F64)) (v3 : (F64)) (x8 : F64) : Nat → F64 → Int → Option (F64)
  | 0, _, _ => none
  | k + 1, x15, x16 => ite2 ((decide (x16 ≥ (1 : Int)))) (impl_wideAngle_l2 K a0 a1 v1 v3 x8 k (((Fl.mk (k := .f64) 4607182418800017408 (by decide)).div (Fl.ofInt .f64 x16)).sub ((x8.mul x8).mul x15)) (IntKind.i64.wrap (x16 - (2 : Int)))) (ite2 ((v1.gt v3)) (ite2 ((a1.lt' (Fl.mk (k := .f64) 0 (by decide)))) (ite2 ((a0.lt' (Fl.mk (k := .f64) 0 (by decide)))) (some (((Fl.mk (k := .f64) 4602678819172646912 (by decide)).sub ((Fl.mk (k := .f64) 4598175219545276416 (by decide)).sub (((Fl.mk (k := .f64) 4620693217682128896 (by decide)).mul (x8.mul x15)).div (Fl.mk (k := .f64) 4618760256179416344 (by decide))))).neg)) (some ((Fl.mk (k := .f64) 4602678819172646912 (by decide)).sub ((Fl.mk (k := .f64) 4598175219545276416 (by decide)).sub (((Fl.mk (k := .f64) 4620693217682128896 (by decide)).mul (x8.mul x15)).div (Fl.mk (k := .f64) 4618760256179416344 (by decide))))))) (ite2 ((a0.lt' (Fl.mk (k := .f64) 0 (by decide)))) (some (((Fl.mk (k := .f64) 4598175219545276416 (by decide)).sub (((Fl.mk (k := .f64) 4620693217682128896 (by decide)).mul (x8.mul x15)).div (Fl.mk (k := .f64) 4618760256179416344 (by decide)))).neg)) (some ((Fl.mk (k := .f64) 4598175219545276416 (by decide)).sub (((Fl.mk (k := .f64) 4620693217682128896 (by decide)).mul (x8.mul x15)).div (Fl.mk (k := .f64) 4618760256179416344 (by decide))))))) (ite2 ((a1.lt' (Fl.mk (k := .f64) 0 (by decide)))) (ite2 ((a0.lt' (Fl.mk (k := .f64) 0 (by decide)))) (some (((Fl.mk (k := .f64) 4602678819172646912 (by decide)).sub (((Fl.mk (k := .f64) 4620693217682128896 (by decide)).mul (x8.mul x15)).div (Fl.mk (k := .f64) 4618760256179416344 (by decide)))).neg)) (some ((Fl.mk (k := .f64) 4602678819172646912 (by decide)).sub (((Fl.mk (k := .f64) 4620693217682128896 (by decide)).mul (x8.mul x15)).div (Fl.mk (k := .f64) 4618760256179416344 (by decide)))))) (ite2 ((a0.lt' (Fl.mk (k := .f64) 0 (by decide)))) (some ((((Fl.mk (k := .f64) 4620693217682128896 (by decide)).mul (x8.mul x15)).div (Fl.mk (k := .f64) 4618760256179416344 (by decide))).neg)) (some (((Fl.mk (k := .f64) 4620693217682128896 (by decide)).mul (x8.mul x15)).div (Fl.mk (k := .f64) 4618760256179416344 (by decide)))))))

def impl_wideAngle_l1 (K : Nat) (a0 : F64) (a1 : F64) (v1 : (F64)) (v3 : (F64)) : Nat → F64 → Int → Option (F64)
  | 0, _, _ => none
  | k + 1, x8, x9 => ite2 ((decide (x9 < (3 : Int)))) ((math_Sqrt K ((Fl.mk (k := .f64) 4607182418800017408 (by decide)).add (x8.mul x8))).bind fun v11 => impl_wideAngle_l1 K a0 a1 v1 v3 k (x8.div ((Fl.mk (k := .f64) 4607182418800017408 (by decide)).add v11)) (IntKind.i64.wrap (x9 + (1 : Int)))) (impl_wideAngle_l2 K a0 a1 v1 v3 x8 K (Fl.mk (k := .f64) 0 (by decide)) (15 : Int))

def impl_wideAngle_l4 (K : Nat) (a0 : F64) (a1 : F64) (v1 : (F64)) (v3 : (F64)) (x27 : F64) : Nat → F64 → Int → Option (F64)
  | 0, _, _ => none
  | k + 1, x34, x35 => ite2 ((decide (x35 ≥ (1 : Int)))) (impl_wideAngle_l4 K a0 a1 v1 v3 x27 k (((Fl.mk (k := .f64) 4607182418800017408 (by decide)).div (Fl.ofInt .f64 x35)).sub ((x27.mul x27).mul x34)) (IntKind.i64.wrap (x35 - (2 : Int)))) (ite2 ((v1.gt v3)) (ite2 ((a1.lt' (Fl.mk (k := .f64) 0 (by decide)))) (ite2 ((a0.lt' (Fl.mk (k := .f64) 0 (by decide)))) (some (((Fl.mk (k := .f64) 4602678819172646912 (by decide)).sub ((Fl.mk (k := .f64) 4598175219545276416 (by decide)).sub (((Fl.mk (k := .f64) 4620693217682128896 (by decide)).mul (x27.mul x34)).div (Fl.mk (k := .f64) 4618760256179416344 (by decide))))).neg)) (some ((Fl.mk (k := .f64) 4602678819172646912 (by decide)).sub ((Fl.mk (k := .f64) 4598175219545276416 (by decide)).sub (((Fl.mk (k := .f64) 4620693217682128896 (by decide)).mul (x27.mul x34)).div (Fl.mk (k := .f64) 4618760256179416344 (by decide))))))) (ite2 ((a0.lt' (Fl.mk (k := .f64) 0 (by decide)))) (some (((Fl.mk (k := .f64) 4598175219545276416 (by decide)).sub (((Fl.mk (k := .f64) 4620693217682128896 (by decide)).mul (x27.mul x34)).div (Fl.mk (k := .f64) 4618760256179416344 (by decide)))).neg)) (some ((Fl.mk (k := .f64) 4598175219545276416 (by decide)).sub (((Fl.mk (k := .f64) 4620693217682128896 (by decide)).mul (x27.mul x34)).div (Fl.mk (k := .f64) 4618760256179416344 (by decide))))))) (ite2 ((a1.lt' (Fl.mk (k := .f64) 0 (by decide)))) (ite2 ((a0.lt' (Fl.mk (k := .f64) 0 (by decide)))) (some (((Fl.mk (k := .f64) 4602678819172646912 (by decide)).sub (((Fl.mk (k := .f64) 4620693217682128896 (by decide)).mul (x27.mul x34)).div (Fl.mk (k := .f64) 4618760256179416344 (by decide)))).neg)) (some ((Fl.mk (k := .f64) 4602678819172646912 (by decide)).sub (((Fl.mk (k := .f64) 4620693217682128896 (by decide)).mul (x27.mul x34)).div (Fl.mk (k := .f64) 4618760256179416344 (by decide)))))) (ite2 ((a0.lt' (Fl.mk (k := .f64) 0 (by decide)))) (some ((((Fl.mk (k := .f64) 4620693217682128896 (by decide)).mul (x27.mul x34)).div (Fl.mk (k := .f64) 4618760256179416344 (by decide))).neg)) (some (((Fl.mk (k := .f64) 4620693217682128896 (by decide)).mul (x27.mul x34)).div (Fl.mk (k := .f64) 4618760256179416344 (by decide)))))))

def impl_wideAngle_l3 (K : Nat) (a0 : F64) (a1 : F64) (v1 : (F64)) (v3 : (F64)) : Nat → F64 → Int → Option (F64)
  | 0, _, _ => none
  | k + 1, x27, x28 => ite2 ((decide (x28 < (3 : Int)))) ((math_Sqrt K ((Fl.mk (k := .f64) 4607182418800017408 (by decide)).add (x27.mul x27))).bind fun v30 => impl_wideAngle_l3 K a0 a1 v1 v3 k (x27.div ((Fl.mk (k := .f64) 4607182418800017408 (by decide)).add v30)) (IntKind.i64.wrap (x28 + (1 : Int)))) (impl_wideAngle_l4 K a0 a1 v1 v3 x27 K (Fl.mk (k := .f64) 0 (by decide)) (15 : Int))

def impl_wideAngle (K : Nat) (a0 : F64) (a1 : F64) : Option (F64) :=
  (math_Abs K a0).bind fun v1 => (math_Abs K a1).bind fun v3 => ite2 ((v1.gt v3)) (impl_wideAngle_l1 K a0 a1 v1 v3 K (v3.div v1) (0 : Int)) (impl_wideAngle_l3 K a0 a1 v1 v3 K (v1.div v3) (0 : Int))

theorem ok_impl_wideAngle (K : Nat) (a0 : F64) (a1 : F64) (o : (F64)) (h : impl_wideAngle K a0 a1 = some o) : CallOK Tryz.prog 108 [.one (.flt .f64 a0.bits), .one (.flt .f64 a1.bits)] [.one (.flt .f64 o.bits)] := by
  refine callOK_of_AW Tryz.func108 rfl (by kernel_rfl) (Nat.le_of_ble_eq_true (by kernel_rfl)) ?_
  intro w0
  unfold impl_wideAngle at h
  refine AW.seq (AW.rA ⟨[(0, (vc (.flt .f64 a0.bits))), (1, (vc (.flt .f64 a1.bits)))], []⟩ (Tt ∧ Tt) [] [0, 1] [] ⟨tr, tr⟩ (thenQ_normal ?_))
  refine AW.seq ?_
  obtain ⟨v1, e2, h⟩ := bind_some h
  obtain ⟨v3, e4, h⟩ := bind_some h
  refine AW.rA ⟨[(0, (vc (.flt .f64 a0.bits))), (1, (vc (.flt .f64 a1.bits))), (5, (vc (.flt .f64 v1.bits))), (6, (vc (.flt .f64 v3.bits)))], []⟩ (Tt ∧ (((Eqc (.flt .f64 a0.bits)) ∧ Tt) ∧ CallOK Tryz.prog 102 [.one (.flt .f64 a0.bits)] [.one (.flt .f64 v1.bits)]) ∧ Tt ∧ (((Eqc (.flt .f64 a1.bits)) ∧ Tt) ∧ CallOK Tryz.prog 102 [.one (.flt .f64 a1.bits)] [.one (.flt .f64 v3.bits)]) ∧ T2 Tt) [.no, .call [.one (.flt .f64 a0.bits)] [.one (.flt .f64 v1.bits)] [[.view]], .no, .call [.one (.flt .f64 a1.bits)] [.one (.flt .f64 v3.bits)] [[.view]]] [0, 1, 5, 6] [] ⟨tr, ⟨⟨rfl, tr⟩, ok_math_Abs K a0 v1 e2⟩, tr, ⟨⟨rfl, tr⟩, ok_math_Abs K a1 v3 e4⟩, tr, tr, tr⟩ ?_
  refine thenQ_normal ?_
  refine AW.seq (AW.rA ⟨[(0, (vc (.flt .f64 a0.bits))), (1, (vc (.flt .f64 a1.bits))), (5, (vc (.flt .f64 v1.bits))), (6, (vc (.flt .f64 v3.bits))), (7, (vc (.flt .f64 (v1.div v3).bits)))], []⟩ (T4 Tt) [] [0, 1, 5, 6, 7] [] ⟨tr, tr, tr, tr, tr⟩ (thenQ_normal ?_))
  refine AW.seq ?_
  refine AW.seq (AW.rA ⟨[(0, (vc (.flt .f64 a0.bits))), (1, (vc (.flt .f64 a1.bits))), (5, (vc (.flt .f64 v1.bits))), (6, (vc (.flt .f64 v3.bits))), (7, (vc (.flt .f64 (v1.div v3).bits))), (21, (vc (.bool (v1.gt v3))))], []⟩ (Tt ∧ T2 Tt) [] [0, 1, 5, 6, 7, 21] [] ⟨tr, tr, tr, tr⟩ (thenQ_normal ?_))
  rcases ite2_cases h with ⟨b5, h⟩ | ⟨b5, h⟩
  · refine AW.cond_t rfl b5 ?_
    refine AW.rA ⟨[(0, (vc (.flt .f64 a0.bits))), (1, (vc (.flt .f64 a1.bits))), (5, (vc (.flt .f64 v1.bits))), (6, (vc (.flt .f64 v3.bits))), (7, (vc (.flt .f64 (v3.div v1).bits)))], []⟩ (T4 Tt) [] [0, 1, 5, 6, 7] [] ⟨tr, tr, tr, tr, tr⟩ ?_
    refine thenQ_normal ?_
    refine AW.seq ?_
    refine AW.seq (AW.rA ⟨[(0, (vc (.flt .f64 a0.bits))), (1, (vc (.flt .f64 a1.bits))), (5, (vc (.flt .f64 v1.bits))), (6, (vc (.flt .f64 v3.bits))), (7, (vc (.flt .f64 (v3.div v1).bits))), (25, (vc (.int .i64 (0 : Int))))], []⟩ (Tt ∧ Tt) [] [0, 1, 5, 6, 7, 25] [] ⟨tr, tr⟩ (thenQ_normal ?_))
    refine AW.block ?_
    refine AW.loopQ (σ := Nat × F64 × Int) (fun p => ⟨[(0, (vc (.flt .f64 a0.bits))), (1, (vc (.flt .f64 a1.bits))), (5, (vc (.flt .f64 v1.bits))), (6, (vc (.flt .f64 v3.bits))), (7, (vc (.flt .f64 p.2.1.bits))), (25, (vc (.int .i64 p.2.2)))], []⟩) (fun p => impl_wideAngle_l1 K a0 a1 v1 v3 p.1 p.2.1 p.2.2 = some o) (fun p => p.1) (K, (v3.div v1), (0 : Int)) h ?_
    clear h
    rintro ⟨k, x8, x9⟩ h
    replace h : impl_wideAngle_l1 K a0 a1 v1 v3 k x8 x9 = some o := h
    show AW _ _ (⟨[(0, (vc (.flt .f64 a0.bits))), (1, (vc (.flt .f64 a1.bits))), (5, (vc (.flt .f64 v1.bits))), (6, (vc (.flt .f64 v3.bits))), (7, (vc (.flt .f64 x8.bits))), (25, (vc (.int .i64 x9)))], []⟩ : St) _
    obtain _ | k := k
    · rw [impl_wideAngle_l1] at h; cases h
    rw [impl_wideAngle_l1] at h
    refine AW.seq (AW.rA ⟨[(0, (vc (.flt .f64 a0.bits))), (1, (vc (.flt .f64 a1.bits))), (5, (vc (.flt .f64 v1.bits))), (6, (vc (.flt .f64 v3.bits))), (7, (vc (.flt .f64 x8.bits))), (25, (vc (.int .i64 x9))), (26, (vc (.bool (decide (x9 < (3 : Int))))))], []⟩ (Tt ∧ Tt) [] [0, 1, 5, 6, 7, 25, 26] [] ⟨tr, tr⟩ (thenQ_normal ?_))
    refine AW.seq ?_
    rcases ite2_cases h with ⟨b10, h⟩ | ⟨b10, h⟩
    · refine AW.cond_t rfl b10 ?_
      refine AW.skip ?_
      refine thenQ_normal ?_
      refine AW.seq ?_
      refine AW.block ?_
      obtain ⟨v11, e12, h⟩ := bind_some h
      refine AW.rA ⟨[(0, (vc (.flt .f64 a0.bits))), (1, (vc (.flt .f64 a1.bits))), (5, (vc (.flt .f64 v1.bits))), (6, (vc (.flt .f64 v3.bits))), (7, (vc (.flt .f64 (x8.div ((Fl.mk (k := .f64) 4607182418800017408 (by decide)).add v11)).bits))), (25, (vc (.int .i64 x9)))], []⟩ (Tt ∧ T4 ((((Eqc (.flt .f64 ((Fl.mk (k := .f64) 4607182418800017408 (by decide)).add (x8.mul x8)).bits)) ∧ Tt) ∧ CallOK Tryz.prog 87 [.one (.flt .f64 ((Fl.mk (k := .f64) 4607182418800017408 (by decide)).add (x8.mul x8)).bits)] [.one (.flt .f64 v11.bits)]) ∧ Tt ∧ T2 Tt)) [.no, .no, .no, .no, .no, .call [.one (.flt .f64 ((Fl.mk (k := .f64) 4607182418800017408 (by decide)).add (x8.mul x8)).bits)] [.one (.flt .f64 v11.bits)] [[.view]]] [0, 1, 5, 6, 7, 25] [] ⟨tr, tr, tr, tr, tr, ⟨⟨rfl, tr⟩, ok_math_Sqrt K ((Fl.mk (k := .f64) 4607182418800017408 (by decide)).add (x8.mul x8)) v11 e12⟩, tr, tr, tr, tr⟩ ?_
      refine blockQ_normal ?_
      refine thenQ_normal ?_
      refine AW.rA ⟨[(0, (vc (.flt .f64 a0.bits))), (1, (vc (.flt .f64 a1.bits))), (5, (vc (.flt .f64 v1.bits))), (6, (vc (.flt .f64 v3.bits))), (7, (vc (.flt .f64 (x8.div ((Fl.mk (k := .f64) 4607182418800017408 (by decide)).add v11)).bits))), (25, (vc (.int .i64 (IntKind.i64.wrap (x9 + (1 : Int))))))], []⟩ (T2 Tt) [] [0, 1, 5, 6, 7, 25] [] ⟨tr, tr, tr⟩ ?_
      exact loopQ_normal (k, (x8.div ((Fl.mk (k := .f64) 4607182418800017408 (by decide)).add v11)), (IntKind.i64.wrap (x9 + (1 : Int)))) h (Nat.lt_succ_self k) (Sub.keep [0, 1, 5, 6, 7, 25] [] (by kernel_rfl) (by kernel_rfl))
    · refine AW.cond_f rfl b10 ?_
      refine AW.exit ?_
      refine thenQ_exit ?_
      refine loopQ_exit ?_
      refine blockQ_exit ?_
      refine thenQ_normal ?_
      refine AW.seq (AW.rA ⟨[(0, (vc (.flt .f64 a0.bits))), (1, (vc (.flt .f64 a1.bits))), (5, (vc (.flt .f64 v1.bits))), (6, (vc (.flt .f64 v3.bits))), (7, (vc (.flt .f64 x8.bits))), (8, (vc (.flt .f64 (x8.mul x8).bits)))], []⟩ (T4 Tt) [] [0, 1, 5, 6, 7, 8] [] ⟨tr, tr, tr, tr, tr⟩ (thenQ_normal ?_))
      refine AW.seq (AW.rA ⟨[(0, (vc (.flt .f64 a0.bits))), (1, (vc (.flt .f64 a1.bits))), (5, (vc (.flt .f64 v1.bits))), (6, (vc (.flt .f64 v3.bits))), (7, (vc (.flt .f64 x8.bits))), (8, (vc (.flt .f64 (x8.mul x8).bits))), (9, (vc (.flt .f64 (Fl.mk (k := .f64) 0 (by decide)).bits)))], []⟩ (Tt ∧ Tt) [] [0, 1, 5, 6, 7, 8, 9] [] ⟨tr, tr⟩ (thenQ_normal ?_))
      refine AW.seq ?_
      refine AW.seq (AW.rA ⟨[(0, (vc (.flt .f64 a0.bits))), (1, (vc (.flt .f64 a1.bits))), (5, (vc (.flt .f64 v1.bits))), (6, (vc (.flt .f64 v3.bits))), (7, (vc (.flt .f64 x8.bits))), (8, (vc (.flt .f64 (x8.mul x8).bits))), (9, (vc (.flt .f64 (Fl.mk (k := .f64) 0 (by decide)).bits))), (10, (vc (.int .i64 (15 : Int))))], []⟩ (Tt ∧ Tt) [] [0, 1, 5, 6, 7, 8, 9, 10] [] ⟨tr, tr⟩ (thenQ_normal ?_))
      refine AW.block ?_
      refine AW.loopQ (σ := Nat × F64 × Int) (fun p => ⟨[(0, (vc (.flt .f64 a0.bits))), (1, (vc (.flt .f64 a1.bits))), (5, (vc (.flt .f64 v1.bits))), (6, (vc (.flt .f64 v3.bits))), (7, (vc (.flt .f64 x8.bits))), (8, (vc (.flt .f64 (x8.mul x8).bits))), (9, (vc (.flt .f64 p.2.1.bits))), (10, (vc (.int .i64 p.2.2)))], []⟩) (fun p => impl_wideAngle_l2 K a0 a1 v1 v3 x8 p.1 p.2.1 p.2.2 = some o) (fun p => p.1) (K, (Fl.mk (k := .f64) 0 (by decide)), (15 : Int)) h ?_
      clear h
      rintro ⟨k, x15, x16⟩ h
      replace h : impl_wideAngle_l2 K a0 a1 v1 v3 x8 k x15 x16 = some o := h
      show AW _ _ (⟨[(0, (vc (.flt .f64 a0.bits))), (1, (vc (.flt .f64 a1.bits))), (5, (vc (.flt .f64 v1.bits))), (6, (vc (.flt .f64 v3.bits))), (7, (vc (.flt .f64 x8.bits))), (8, (vc (.flt .f64 (x8.mul x8).bits))), (9, (vc (.flt .f64 x15.bits))), (10, (vc (.int .i64 x16)))], []⟩ : St) _
      obtain _ | k := k
      · rw [impl_wideAngle_l2] at h; cases h
      rw [impl_wideAngle_l2] at h
      refine AW.seq ?_
      refine AW.seq (AW.rA ⟨[(0, (vc (.flt .f64 a0.bits))), (1, (vc (.flt .f64 a1.bits))), (5, (vc (.flt .f64 v1.bits))), (6, (vc (.flt .f64 v3.bits))), (7, (vc (.flt .f64 x8.bits))), (8, (vc (.flt .f64 (x8.mul x8).bits))), (9, (vc (.flt .f64 x15.bits))), (10, (vc (.int .i64 x16))), (40, (vc (.bool (decide (x16 ≥ (1 : Int))))))], []⟩ (T2 Tt) [] [0, 1, 5, 6, 7, 8, 9, 10, 40] [] ⟨tr, tr, tr⟩ (thenQ_normal ?_))
      rcases ite2_cases h with ⟨b17, h⟩ | ⟨b17, h⟩
      · refine AW.cond_t rfl b17 ?_
        refine AW.skip ?_
        refine thenQ_normal ?_
        refine AW.seq ?_
        refine AW.block ?_
        refine AW.rA ⟨[(0, (vc (.flt .f64 a0.bits))), (1, (vc (.flt .f64 a1.bits))), (5, (vc (.flt .f64 v1.bits))), (6, (vc (.flt .f64 v3.bits))), (7, (vc (.flt .f64 x8.bits))), (8, (vc (.flt .f64 (x8.mul x8).bits))), (9, (vc (.flt .f64 (((Fl.mk (k := .f64) 4607182418800017408 (by decide)).div (Fl.ofInt .f64 x16)).sub ((x8.mul x8).mul x15)).bits))), (10, (vc (.int .i64 x16)))], []⟩ (T4 (T4 Tt)) [] [0, 1, 5, 6, 7, 8, 9, 10] [] ⟨tr, tr, tr, tr, tr, tr, tr, tr, tr⟩ ?_
        refine blockQ_normal ?_
        refine thenQ_normal ?_
        refine AW.rA ⟨[(0, (vc (.flt .f64 a0.bits))), (1, (vc (.flt .f64 a1.bits))), (5, (vc (.flt .f64 v1.bits))), (6, (vc (.flt .f64 v3.bits))), (7, (vc (.flt .f64 x8.bits))), (8, (vc (.flt .f64 (x8.mul x8).bits))), (9, (vc (.flt .f64 (((Fl.mk (k := .f64) 4607182418800017408 (by decide)).div (Fl.ofInt .f64 x16)).sub ((x8.mul x8).mul x15)).bits))), (10, (vc (.int .i64 (IntKind.i64.wrap (x16 - (2 : Int))))))], []⟩ (Tt ∧ T2 Tt) [] [0, 1, 5, 6, 7, 8, 9, 10] [] ⟨tr, tr, tr, tr⟩ ?_
        exact loopQ_normal (k, (((Fl.mk (k := .f64) 4607182418800017408 (by decide)).div (Fl.ofInt .f64 x16)).sub ((x8.mul x8).mul x15)), (IntKind.i64.wrap (x16 - (2 : Int)))) h (Nat.lt_succ_self k) (Sub.keep [0, 1, 5, 6, 7, 8, 9, 10] [] (by kernel_rfl) (by kernel_rfl))
      · refine AW.cond_f rfl b17 ?_
        refine AW.exit ?_
        refine thenQ_exit ?_
        refine loopQ_exit ?_
        refine blockQ_exit ?_
        refine thenQ_normal ?_
        refine AW.seq (AW.rA ⟨[(0, (vc (.flt .f64 a0.bits))), (1, (vc (.flt .f64 a1.bits))), (5, (vc (.flt .f64 v1.bits))), (6, (vc (.flt .f64 v3.bits))), (11, (vc (.flt .f64 (((Fl.mk (k := .f64) 4620693217682128896 (by decide)).mul (x8.mul x15)).div (Fl.mk (k := .f64) 4618760256179416344 (by decide))).bits)))], []⟩ (T2 (T4 Tt)) [] [0, 1, 5, 6, 11] [] ⟨tr, tr, tr, tr, tr, tr, tr⟩ (thenQ_normal ?_))
        refine AW.seq ?_
        refine AW.seq (AW.rA ⟨[(0, (vc (.flt .f64 a0.bits))), (1, (vc (.flt .f64 a1.bits))), (11, (vc (.flt .f64 (((Fl.mk (k := .f64) 4620693217682128896 (by decide)).mul (x8.mul x15)).div (Fl.mk (k := .f64) 4618760256179416344 (by decide))).bits))), (57, (vc (.bool (v1.gt v3))))], []⟩ (Tt ∧ T2 Tt) [] [0, 1, 11, 57] [] ⟨tr, tr, tr, tr⟩ (thenQ_normal ?_))
        rcases ite2_cases h with ⟨b18, h⟩ | ⟨b18, h⟩
        · refine AW.cond_t rfl b18 ?_
          refine AW.rA ⟨[(0, (vc (.flt .f64 a0.bits))), (1, (vc (.flt .f64 a1.bits))), (11, (vc (.flt .f64 ((Fl.mk (k := .f64) 4598175219545276416 (by decide)).sub (((Fl.mk (k := .f64) 4620693217682128896 (by decide)).mul (x8.mul x15)).div (Fl.mk (k := .f64) 4618760256179416344 (by decide)))).bits)))], []⟩ (Tt ∧ T2 Tt) [] [0, 1, 11] [] ⟨tr, tr, tr, tr⟩ ?_
          refine thenQ_normal ?_
          refine AW.seq ?_
          refine AW.seq (AW.rA ⟨[(0, (vc (.flt .f64 a0.bits))), (11, (vc (.flt .f64 ((Fl.mk (k := .f64) 4598175219545276416 (by decide)).sub (((Fl.mk (k := .f64) 4620693217682128896 (by decide)).mul (x8.mul x15)).div (Fl.mk (k := .f64) 4618760256179416344 (by decide)))).bits))), (61, (vc (.bool (a1.lt' (Fl.mk (k := .f64) 0 (by decide))))))], []⟩ (T2 Tt) [] [0, 11, 61] [] ⟨tr, tr, tr⟩ (thenQ_normal ?_))
          rcases ite2_cases h with ⟨b19, h⟩ | ⟨b19, h⟩
          · refine AW.cond_t rfl b19 ?_
            refine AW.rA ⟨[(0, (vc (.flt .f64 a0.bits))), (11, (vc (.flt .f64 ((Fl.mk (k := .f64) 4602678819172646912 (by decide)).sub ((Fl.mk (k := .f64) 4598175219545276416 (by decide)).sub (((Fl.mk (k := .f64) 4620693217682128896 (by decide)).mul (x8.mul x15)).div (Fl.mk (k := .f64) 4618760256179416344 (by decide))))).bits)))], []⟩ (Tt ∧ T2 Tt) [] [0, 11] [] ⟨tr, tr, tr, tr⟩ ?_
            refine thenQ_normal ?_
            refine AW.seq ?_
            refine AW.seq (AW.rA ⟨[(11, (vc (.flt .f64 ((Fl.mk (k := .f64) 4602678819172646912 (by decide)).sub ((Fl.mk (k := .f64) 4598175219545276416 (by decide)).sub (((Fl.mk (k := .f64) 4620693217682128896 (by decide)).mul (x8.mul x15)).div (Fl.mk (k := .f64) 4618760256179416344 (by decide))))).bits))), (65, (vc (.bool (a0.lt' (Fl.mk (k := .f64) 0 (by decide))))))], []⟩ (T2 Tt) [] [11, 65] [] ⟨tr, tr, tr⟩ (thenQ_normal ?_))
            rcases ite2_cases h with ⟨b20, h⟩ | ⟨b20, h⟩
            · refine AW.cond_t rfl b20 ?_
              refine AW.rA ⟨[(11, (vc (.flt .f64 (((Fl.mk (k := .f64) 4602678819172646912 (by decide)).sub ((Fl.mk (k := .f64) 4598175219545276416 (by decide)).sub (((Fl.mk (k := .f64) 4620693217682128896 (by decide)).mul (x8.mul x15)).div (Fl.mk (k := .f64) 4618760256179416344 (by decide))))).neg).bits)))], []⟩ (Tt ∧ T2 Tt) [] [11] [] ⟨tr, tr, tr, tr⟩ ?_
              refine thenQ_normal ?_
              refine AW.seq (AW.rA ⟨[(4, (vc (.flt .f64 (((Fl.mk (k := .f64) 4602678819172646912 (by decide)).sub ((Fl.mk (k := .f64) 4598175219545276416 (by decide)).sub (((Fl.mk (k := .f64) 4620693217682128896 (by decide)).mul (x8.mul x15)).div (Fl.mk (k := .f64) 4618760256179416344 (by decide))))).neg).bits)))], []⟩ (T2 Tt) [] [4] [] ⟨tr, tr, tr⟩ (thenQ_normal ?_))
              refine AW.ret ?_
              replace h := some_eq h
              subst h
              exact ⟨.inr rfl, retOK_of [(.one (.c (.flt .f64 (((Fl.mk (k := .f64) 4602678819172646912 (by decide)).sub ((Fl.mk (k := .f64) 4598175219545276416 (by decide)).sub (((Fl.mk (k := .f64) 4620693217682128896 (by decide)).mul (x8.mul x15)).div (Fl.mk (k := .f64) 4618760256179416344 (by decide))))).neg).bits)))] (by kernel_rfl) ⟨⟨rfl, tr⟩, tr⟩ (of_decide_eq_true (by kernel_rfl))⟩
            · refine AW.cond_f rfl b20 ?_
              refine AW.skip ?_
              refine thenQ_normal ?_
              refine AW.seq (AW.rA ⟨[(4, (vc (.flt .f64 ((Fl.mk (k := .f64) 4602678819172646912 (by decide)).sub ((Fl.mk (k := .f64) 4598175219545276416 (by decide)).sub (((Fl.mk (k := .f64) 4620693217682128896 (by decide)).mul (x8.mul x15)).div (Fl.mk (k := .f64) 4618760256179416344 (by decide))))).bits)))], []⟩ (T2 Tt) [] [4] [] ⟨tr, tr, tr⟩ (thenQ_normal ?_))
              refine AW.ret ?_
              replace h := some_eq h
              subst h
              exact ⟨.inr rfl, retOK_of [(.one (.c (.flt .f64 ((Fl.mk (k := .f64) 4602678819172646912 (by decide)).sub ((Fl.mk (k := .f64) 4598175219545276416 (by decide)).sub (((Fl.mk (k := .f64) 4620693217682128896 (by decide)).mul (x8.mul x15)).div (Fl.mk (k := .f64) 4618760256179416344 (by decide))))).bits)))] (by kernel_rfl) ⟨⟨rfl, tr⟩, tr⟩ (of_decide_eq_true (by kernel_rfl))⟩
          · refine AW.cond_f rfl b19 ?_
            refine AW.skip ?_
            refine thenQ_normal ?_
            refine AW.seq ?_
            refine AW.seq (AW.rA ⟨[(11, (vc (.flt .f64 ((Fl.mk (k := .f64) 4598175219545276416 (by decide)).sub (((Fl.mk (k := .f64) 4620693217682128896 (by decide)).mul (x8.mul x15)).div (Fl.mk (k := .f64) 4618760256179416344 (by decide)))).bits))), (65, (vc (.bool (a0.lt' (Fl.mk (k := .f64) 0 (by decide))))))], []⟩ (T2 Tt) [] [11, 65] [] ⟨tr, tr, tr⟩ (thenQ_normal ?_))
            rcases ite2_cases h with ⟨b21, h⟩ | ⟨b21, h⟩
            · refine AW.cond_t rfl b21 ?_
              refine AW.rA ⟨[(11, (vc (.flt .f64 (((Fl.mk (k := .f64) 4598175219545276416 (by decide)).sub (((Fl.mk (k := .f64) 4620693217682128896 (by decide)).mul (x8.mul x15)).div (Fl.mk (k := .f64) 4618760256179416344 (by decide)))).neg).bits)))], []⟩ (Tt ∧ T2 Tt) [] [11] [] ⟨tr, tr, tr, tr⟩ ?_
              refine thenQ_normal ?_
              refine AW.seq (AW.rA ⟨[(4, (vc (.flt .f64 (((Fl.mk (k := .f64) 4598175219545276416 (by decide)).sub (((Fl.mk (k := .f64) 4620693217682128896 (by decide)).mul (x8.mul x15)).div (Fl.mk (k := .f64) 4618760256179416344 (by decide)))).neg).bits)))], []⟩ (T2 Tt) [] [4] [] ⟨tr, tr, tr⟩ (thenQ_normal ?_))
              refine AW.ret ?_
              replace h := some_eq h
              subst h
              exact ⟨.inr rfl, retOK_of [(.one (.c (.flt .f64 (((Fl.mk (k := .f64) 4598175219545276416 (by decide)).sub (((Fl.mk (k := .f64) 4620693217682128896 (by decide)).mul (x8.mul x15)).div (Fl.mk (k := .f64) 4618760256179416344 (by decide)))).neg).bits)))] (by kernel_rfl) ⟨⟨rfl, tr⟩, tr⟩ (of_decide_eq_true (by kernel_rfl))⟩
            · refine AW.cond_f rfl b21 ?_
              refine AW.skip ?_
              refine thenQ_normal ?_
              refine AW.seq (AW.rA ⟨[(4, (vc (.flt .f64 ((Fl.mk (k := .f64) 4598175219545276416 (by decide)).sub (((Fl.mk (k := .f64) 4620693217682128896 (by decide)).mul (x8.mul x15)).div (Fl.mk (k := .f64) 4618760256179416344 (by decide)))).bits)))], []⟩ (T2 Tt) [] [4] [] ⟨tr, tr, tr⟩ (thenQ_normal ?_))
              refine AW.ret ?_
              replace h := some_eq h
              subst h
              exact ⟨.inr rfl, retOK_of [(.one (.c (.flt .f64 ((Fl.mk (k := .f64) 4598175219545276416 (by decide)).sub (((Fl.mk (k := .f64) 4620693217682128896 (by decide)).mul (x8.mul x15)).div (Fl.mk (k := .f64) 4618760256179416344 (by decide)))).bits)))] (by kernel_rfl) ⟨⟨rfl, tr⟩, tr⟩ (of_decide_eq_true (by kernel_rfl))⟩
        · refine AW.cond_f rfl b18 ?_
          refine AW.skip ?_
          refine thenQ_normal ?_
          refine AW.seq ?_
          refine AW.seq (AW.rA ⟨[(0, (vc (.flt .f64 a0.bits))), (11, (vc (.flt .f64 (((Fl.mk (k := .f64) 4620693217682128896 (by decide)).mul (x8.mul x15)).div (Fl.mk (k := .f64) 4618760256179416344 (by decide))).bits))), (61, (vc (.bool (a1.lt' (Fl.mk (k := .f64) 0 (by decide))))))], []⟩ (T2 Tt) [] [0, 11, 61] [] ⟨tr, tr, tr⟩ (thenQ_normal ?_))
          rcases ite2_cases h with ⟨b22, h⟩ | ⟨b22, h⟩
          · refine AW.cond_t rfl b22 ?_
            refine AW.rA ⟨[(0, (vc (.flt .f64 a0.bits))), (11, (vc (.flt .f64 ((Fl.mk (k := .f64) 4602678819172646912 (by decide)).sub (((Fl.mk (k := .f64) 4620693217682128896 (by decide)).mul (x8.mul x15)).div (Fl.mk (k := .f64) 4618760256179416344 (by decide)))).bits)))], []⟩ (Tt ∧ T2 Tt) [] [0, 11] [] ⟨tr, tr, tr, tr⟩ ?_
            refine thenQ_normal ?_
            refine AW.seq ?_
            refine AW.seq (AW.rA ⟨[(11, (vc (.flt .f64 ((Fl.mk (k := .f64) 4602678819172646912 (by decide)).sub (((Fl.mk (k := .f64) 4620693217682128896 (by decide)).mul (x8.mul x15)).div (Fl.mk (k := .f64) 4618760256179416344 (by decide)))).bits))), (65, (vc (.bool (a0.lt' (Fl.mk (k := .f64) 0 (by decide))))))], []⟩ (T2 Tt) [] [11, 65] [] ⟨tr, tr, tr⟩ (thenQ_normal ?_))
            rcases ite2_cases h with ⟨b23, h⟩ | ⟨b23, h⟩
            · refine AW.cond_t rfl b23 ?_
              refine AW.rA ⟨[(11, (vc (.flt .f64 (((Fl.mk (k := .f64) 4602678819172646912 (by decide)).sub (((Fl.mk (k := .f64) 4620693217682128896 (by decide)).mul (x8.mul x15)).div (Fl.mk (k := .f64) 4618760256179416344 (by decide)))).neg).bits)))], []⟩ (Tt ∧ T2 Tt) [] [11] [] ⟨tr, tr, tr, tr⟩ ?_
              refine thenQ_normal ?_
              refine AW.seq (AW.rA ⟨[(4, (vc (.flt .f64 (((Fl.mk (k := .f64) 4602678819172646912 (by decide)).sub (((Fl.mk (k := .f64) 4620693217682128896 (by decide)).mul (x8.mul x15)).div (Fl.mk (k := .f64) 4618760256179416344 (by decide)))).neg).bits)))], []⟩ (T2 Tt) [] [4] [] ⟨tr, tr, tr⟩ (thenQ_normal ?_))
              refine AW.ret ?_
              replace h := some_eq h
              subst h
              exact ⟨.inr rfl, retOK_of [(.one (.c (.flt .f64 (((Fl.mk (k := .f64) 4602678819172646912 (by decide)).sub (((Fl.mk (k := .f64) 4620693217682128896 (by decide)).mul (x8.mul x15)).div (Fl.mk (k := .f64) 4618760256179416344 (by decide)))).neg).bits)))] (by kernel_rfl) ⟨⟨rfl, tr⟩, tr⟩ (of_decide_eq_true (by kernel_rfl))⟩
            · refine AW.cond_f rfl b23 ?_
              refine AW.skip ?_
              refine thenQ_normal ?_
              refine AW.seq (AW.rA ⟨[(4, (vc (.flt .f64 ((Fl.mk (k := .f64) 4602678819172646912 (by decide)).sub (((Fl.mk (k := .f64) 4620693217682128896 (by decide)).mul (x8.mul x15)).div (Fl.mk (k := .f64) 4618760256179416344 (by decide)))).bits)))], []⟩ (T2 Tt) [] [4] [] ⟨tr, tr, tr⟩ (thenQ_normal ?_))
              refine AW.ret ?_
              replace h := some_eq h
              subst h
              exact ⟨.inr rfl, retOK_of [(.one (.c (.flt .f64 ((Fl.mk (k := .f64) 4602678819172646912 (by decide)).sub (((Fl.mk (k := .f64) 4620693217682128896 (by decide)).mul (x8.mul x15)).div (Fl.mk (k := .f64) 4618760256179416344 (by decide)))).bits)))] (by kernel_rfl) ⟨⟨rfl, tr⟩, tr⟩ (of_decide_eq_true (by kernel_rfl))⟩
          · refine AW.cond_f rfl b22 ?_
            refine AW.skip ?_
            refine thenQ_normal ?_
            refine AW.seq ?_
            refine AW.seq (AW.rA ⟨[(11, (vc (.flt .f64 (((Fl.mk (k := .f64) 4620693217682128896 (by decide)).mul (x8.mul x15)).div (Fl.mk (k := .f64) 4618760256179416344 (by decide))).bits))), (65, (vc (.bool (a0.lt' (Fl.mk (k := .f64) 0 (by decide))))))], []⟩ (T2 Tt) [] [11, 65] [] ⟨tr, tr, tr⟩ (thenQ_normal ?_))
            rcases ite2_cases h with ⟨b24, h⟩ | ⟨b24, h⟩
            · refine AW.cond_t rfl b24 ?_
              refine AW.rA ⟨[(11, (vc (.flt .f64 ((((Fl.mk (k := .f64) 4620693217682128896 (by decide)).mul (x8.mul x15)).div (Fl.mk (k := .f64) 4618760256179416344 (by decide))).neg).bits)))], []⟩ (Tt ∧ T2 Tt) [] [11] [] ⟨tr, tr, tr, tr⟩ ?_
              refine thenQ_normal ?_
              refine AW.seq (AW.rA ⟨[(4, (vc (.flt .f64 ((((Fl.mk (k := .f64) 4620693217682128896 (by decide)).mul (x8.mul x15)).div (Fl.mk (k := .f64) 4618760256179416344 (by decide))).neg).bits)))], []⟩ (T2 Tt) [] [4] [] ⟨tr, tr, tr⟩ (thenQ_normal ?_))
              refine AW.ret ?_
              replace h := some_eq h
              subst h
              exact ⟨.inr rfl, retOK_of [(.one (.c (.flt .f64 ((((Fl.mk (k := .f64) 4620693217682128896 (by decide)).mul (x8.mul x15)).div (Fl.mk (k := .f64) 4618760256179416344 (by decide))).neg).bits)))] (by kernel_rfl) ⟨⟨rfl, tr⟩, tr⟩ (of_decide_eq_true (by kernel_rfl))⟩
            · refine AW.cond_f rfl b24 ?_
              refine AW.skip ?_
              refine thenQ_normal ?_
              refine AW.seq (AW.rA ⟨[(4, (vc (.flt .f64 (((Fl.mk (k := .f64) 4620693217682128896 (by decide)).mul (x8.mul x15)).div (Fl.mk (k := .f64) 4618760256179416344 (by decide))).bits)))], []⟩ (T2 Tt) [] [4] [] ⟨tr, tr, tr⟩ (thenQ_normal ?_))
              refine AW.ret ?_
              replace h := some_eq h
              subst h
              exact ⟨.inr rfl, retOK_of [(.one (.c (.flt .f64 (((Fl.mk (k := .f64) 4620693217682128896 (by decide)).mul (x8.mul x15)).div (Fl.mk (k := .f64) 4618760256179416344 (by decide))).bits)))] (by kernel_rfl) ⟨⟨rfl, tr⟩, tr⟩ (of_decide_eq_true (by kernel_rfl))⟩
  · refine AW.cond_f rfl b5 ?_
    refine AW.skip ?_
    refine thenQ_normal ?_
    refine AW.seq ?_
    refine AW.seq (AW.rA ⟨[(0, (vc (.flt .f64 a0.bits))), (1, (vc (.flt .f64 a1.bits))), (5, (vc (.flt .f64 v1.bits))), (6, (vc (.flt .f64 v3.bits))), (7, (vc (.flt .f64 (v1.div v3).bits))), (25, (vc (.int .i64 (0 : Int))))], []⟩ (Tt ∧ Tt) [] [0, 1, 5, 6, 7, 25] [] ⟨tr, tr⟩ (thenQ_normal ?_))
    refine AW.block ?_
    refine AW.loopQ (σ := Nat × F64 × Int) (fun p => ⟨[(0, (vc (.flt .f64 a0.bits))), (1, (vc (.flt .f64 a1.bits))), (5, (vc (.flt .f64 v1.bits))), (6, (vc (.flt .f64 v3.bits))), (7, (vc (.flt .f64 p.2.1.bits))), (25, (vc (.int .i64 p.2.2)))], []⟩) (fun p => impl_wideAngle_l3 K a0 a1 v1 v3 p.1 p.2.1 p.2.2 = some o) (fun p => p.1) (K, (v1.div v3), (0 : Int)) h ?_
    clear h
    rintro ⟨k, x27, x28⟩ h
    replace h : impl_wideAngle_l3 K a0 a1 v1 v3 k x27 x28 = some o := h
    show AW _ _ (⟨[(0, (vc (.flt .f64 a0.bits))), (1, (vc (.flt .f64 a1.bits))), (5, (vc (.flt .f64 v1.bits))), (6, (vc (.flt .f64 v3.bits))), (7, (vc (.flt .f64 x27.bits))), (25, (vc (.int .i64 x28)))], []⟩ : St) _
    obtain _ | k := k
    · rw [impl_wideAngle_l3] at h; cases h
    rw [impl_wideAngle_l3] at h
    refine AW.seq (AW.rA ⟨[(0, (vc (.flt .f64 a0.bits))), (1, (vc (.flt .f64 a1.bits))), (5, (vc (.flt .f64 v1.bits))), (6, (vc (.flt .f64 v3.bits))), (7, (vc (.flt .f64 x27.bits))), (25, (vc (.int .i64 x28))), (26, (vc (.bool (decide (x28 < (3 : Int))))))], []⟩ (Tt ∧ Tt) [] [0, 1, 5, 6, 7, 25, 26] [] ⟨tr, tr⟩ (thenQ_normal ?_))
    refine AW.seq ?_
    rcases ite2_cases h with ⟨b29, h⟩ | ⟨b29, h⟩
    · refine AW.cond_t rfl b29 ?_
      refine AW.skip ?_
      refine thenQ_normal ?_
      refine AW.seq ?_
      refine AW.block ?_
      obtain ⟨v30, e31, h⟩ := bind_some h
      refine AW.rA ⟨[(0, (vc (.flt .f64 a0.bits))), (1, (vc (.flt .f64 a1.bits))), (5, (vc (.flt .f64 v1.bits))), (6, (vc (.flt .f64 v3.bits))), (7, (vc (.flt .f64 (x27.div ((Fl.mk (k := .f64) 4607182418800017408 (by decide)).add v30)).bits))), (25, (vc (.int .i64 x28)))], []⟩ (Tt ∧ T4 ((((Eqc (.flt .f64 ((Fl.mk (k := .f64) 4607182418800017408 (by decide)).add (x27.mul x27)).bits)) ∧ Tt) ∧ CallOK Tryz.prog 87 [.one (.flt .f64 ((Fl.mk (k := .f64) 4607182418800017408 (by decide)).add (x27.mul x27)).bits)] [.one (.flt .f64 v30.bits)]) ∧ Tt ∧ T2 Tt)) [.no, .no, .no, .no, .no, .call [.one (.flt .f64 ((Fl.mk (k := .f64) 4607182418800017408 (by decide)).add (x27.mul x27)).bits)] [.one (.flt .f64 v30.bits)] [[.view]]] [0, 1, 5, 6, 7, 25] [] ⟨tr, tr, tr, tr, tr, ⟨⟨rfl, tr⟩, ok_math_Sqrt K ((Fl.mk (k := .f64) 4607182418800017408 (by decide)).add (x27.mul x27)) v30 e31⟩, tr, tr, tr, tr⟩ ?_
      refine blockQ_normal ?_
      refine thenQ_normal ?_
      refine AW.rA ⟨[(0, (vc (.flt .f64 a0.bits))), (1, (vc (.flt .f64 a1.bits))), (5, (vc (.flt .f64 v1.bits))), (6, (vc (.flt .f64 v3.bits))), (7, (vc (.flt .f64 (x27.div ((Fl.mk (k := .f64) 4607182418800017408 (by decide)).add v30)).bits))), (25, (vc (.int .i64 (IntKind.i64.wrap (x28 + (1 : Int))))))], []⟩ (T2 Tt) [] [0, 1, 5, 6, 7, 25] [] ⟨tr, tr, tr⟩ ?_
      exact loopQ_normal (k, (x27.div ((Fl.mk (k := .f64) 4607182418800017408 (by decide)).add v30)), (IntKind.i64.wrap (x28 + (1 : Int)))) h (Nat.lt_succ_self k) (Sub.keep [0, 1, 5, 6, 7, 25] [] (by kernel_rfl) (by kernel_rfl))
    · refine AW.cond_f rfl b29 ?_
      refine AW.exit ?_
      refine thenQ_exit ?_
      refine loopQ_exit ?_
      refine blockQ_exit ?_
      refine thenQ_normal ?_
      refine AW.seq (AW.rA ⟨[(0, (vc (.flt .f64 a0.bits))), (1, (vc (.flt .f64 a1.bits))), (5, (vc (.flt .f64 v1.bits))), (6, (vc (.flt .f64 v3.bits))), (7, (vc (.flt .f64 x27.bits))), (8, (vc (.flt .f64 (x27.mul x27).bits)))], []⟩ (T4 Tt) [] [0, 1, 5, 6, 7, 8] [] ⟨tr, tr, tr, tr, tr⟩ (thenQ_normal ?_))
      refine AW.seq (AW.rA ⟨[(0, (vc (.flt .f64 a0.bits))), (1, (vc (.flt .f64 a1.bits))), (5, (vc (.flt .f64 v1.bits))), (6, (vc (.flt .f64 v3.bits))), (7, (vc (.flt .f64 x27.bits))), (8, (vc (.flt .f64 (x27.mul x27).bits))), (9, (vc (.flt .f64 (Fl.mk (k := .f64) 0 (by decide)).bits)))], []⟩ (Tt ∧ Tt) [] [0, 1, 5, 6, 7, 8, 9] [] ⟨tr, tr⟩ (thenQ_normal ?_))
      refine AW.seq ?_
      refine AW.seq (AW.rA ⟨[(0, (vc (.flt .f64 a0.bits))), (1, (vc (.flt .f64 a1.bits))), (5, (vc (.flt .f64 v1.bits))), (6, (vc (.flt .f64 v3.bits))), (7, (vc (.flt .f64 x27.bits))), (8, (vc (.flt .f64 (x27.mul x27).bits))), (9, (vc (.flt .f64 (Fl.mk (k := .f64) 0 (by decide)).bits))), (10, (vc (.int .i64 (15 : Int))))], []⟩ (Tt ∧ Tt) [] [0, 1, 5, 6, 7, 8, 9, 10] [] ⟨tr, tr⟩ (thenQ_normal ?_))
      refine AW.block ?_
      refine AW.loopQ (σ := Nat × F64 × Int) (fun p => ⟨[(0, (vc (.flt .f64 a0.bits))), (1, (vc (.flt .f64 a1.bits))), (5, (vc (.flt .f64 v1.bits))), (6, (vc (.flt .f64 v3.bits))), (7, (vc (.flt .f64 x27.bits))), (8, (vc (.flt .f64 (x27.mul x27).bits))), (9, (vc (.flt .f64 p.2.1.bits))), (10, (vc (.int .i64 p.2.2)))], []⟩) (fun p => impl_wideAngle_l4 K a0 a1 v1 v3 x27 p.1 p.2.1 p.2.2 = some o) (fun p => p.1) (K, (Fl.mk (k := .f64) 0 (by decide)), (15 : Int)) h ?_
      clear h
      rintro ⟨k, x34, x35⟩ h
      replace h : impl_wideAngle_l4 K a0 a1 v1 v3 x27 k x34 x35 = some o := h
      show AW _ _ (⟨[(0, (vc (.flt .f64 a0.bits))), (1, (vc (.flt .f64 a1.bits))), (5, (vc (.flt .f64 v1.bits))), (6, (vc (.flt .f64 v3.bits))), (7, (vc (.flt .f64 x27.bits))), (8, (vc (.flt .f64 (x27.mul x27).bits))), (9, (vc (.flt .f64 x34.bits))), (10, (vc (.int .i64 x35)))], []⟩ : St) _
      obtain _ | k := k
      · rw [impl_wideAngle_l4] at h; cases h
      rw [impl_wideAngle_l4] at h
      refine AW.seq ?_
      refine AW.seq (AW.rA ⟨[(0, (vc (.flt .f64 a0.bits))), (1, (vc (.flt .f64 a1.bits))), (5, (vc (.flt .f64 v1.bits))), (6, (vc (.flt .f64 v3.bits))), (7, (vc (.flt .f64 x27.bits))), (8, (vc (.flt .f64 (x27.mul x27).bits))), (9, (vc (.flt .f64 x34.bits))), (10, (vc (.int .i64 x35))), (40, (vc (.bool (decide (x35 ≥ (1 : Int))))))], []⟩ (T2 Tt) [] [0, 1, 5, 6, 7, 8, 9, 10, 40] [] ⟨tr, tr, tr⟩ (thenQ_normal ?_))
      rcases ite2_cases h with ⟨b36, h⟩ | ⟨b36, h⟩
      · refine AW.cond_t rfl b36 ?_
        refine AW.skip ?_
        refine thenQ_normal ?_
        refine AW.seq ?_
        refine AW.block ?_
        refine AW.rA ⟨[(0, (vc (.flt .f64 a0.bits))), (1, (vc (.flt .f64 a1.bits))), (5, (vc (.flt .f64 v1.bits))), (6, (vc (.flt .f64 v3.bits))), (7, (vc (.flt .f64 x27.bits))), (8, (vc (.flt .f64 (x27.mul x27).bits))), (9, (vc (.flt .f64 (((Fl.mk (k := .f64) 4607182418800017408 (by decide)).div (Fl.ofInt .f64 x35)).sub ((x27.mul x27).mul x34)).bits))), (10, (vc (.int .i64 x35)))], []⟩ (T4 (T4 Tt)) [] [0, 1, 5, 6, 7, 8, 9, 10] [] ⟨tr, tr, tr, tr, tr, tr, tr, tr, tr⟩ ?_
        refine blockQ_normal ?_
        refine thenQ_normal ?_
        refine AW.rA ⟨[(0, (vc (.flt .f64 a0.bits))), (1, (vc (.flt .f64 a1.bits))), (5, (vc (.flt .f64 v1.bits))), (6, (vc (.flt .f64 v3.bits))), (7, (vc (.flt .f64 x27.bits))), (8, (vc (.flt .f64 (x27.mul x27).bits))), (9, (vc (.flt .f64 (((Fl.mk (k := .f64) 4607182418800017408 (by decide)).div (Fl.ofInt .f64 x35)).sub ((x27.mul x27).mul x34)).bits))), (10, (vc (.int .i64 (IntKind.i64.wrap (x35 - (2 : Int))))))], []⟩ (Tt ∧ T2 Tt) [] [0, 1, 5, 6, 7, 8, 9, 10] [] ⟨tr, tr, tr, tr⟩ ?_
        exact loopQ_normal (k, (((Fl.mk (k := .f64) 4607182418800017408 (by decide)).div (Fl.ofInt .f64 x35)).sub ((x27.mul x27).mul x34)), (IntKind.i64.wrap (x35 - (2 : Int)))) h (Nat.lt_succ_self k) (Sub.keep [0, 1, 5, 6, 7, 8, 9, 10] [] (by kernel_rfl) (by kernel_rfl))
      · refine AW.cond_f rfl b36 ?_
        refine AW.exit ?_
        refine thenQ_exit ?_
        refine loopQ_exit ?_
        refine blockQ_exit ?_
        refine thenQ_normal ?_
        refine AW.seq (AW.rA ⟨[(0, (vc (.flt .f64 a0.bits))), (1, (vc (.flt .f64 a1.bits))), (5, (vc (.flt .f64 v1.bits))), (6, (vc (.flt .f64 v3.bits))), (11, (vc (.flt .f64 (((Fl.mk (k := .f64) 4620693217682128896 (by decide)).mul (x27.mul x34)).div (Fl.mk (k := .f64) 4618760256179416344 (by decide))).bits)))], []⟩ (T2 (T4 Tt)) [] [0, 1, 5, 6, 11] [] ⟨tr, tr, tr, tr, tr, tr, tr⟩ (thenQ_normal ?_))
        refine AW.seq ?_
        refine AW.seq (AW.rA ⟨[(0, (vc (.flt .f64 a0.bits))), (1, (vc (.flt .f64 a1.bits))), (11, (vc (.flt .f64 (((Fl.mk (k := .f64) 4620693217682128896 (by decide)).mul (x27.mul x34)).div (Fl.mk (k := .f64) 4618760256179416344 (by decide))).bits))), (57, (vc (.bool (v1.gt v3))))], []⟩ (Tt ∧ T2 Tt) [] [0, 1, 11, 57] [] ⟨tr, tr, tr, tr⟩ (thenQ_normal ?_))
        rcases ite2_cases h with ⟨b37, h⟩ | ⟨b37, h⟩
        · refine AW.cond_t rfl b37 ?_
          refine AW.rA ⟨[(0, (vc (.flt .f64 a0.bits))), (1, (vc (.flt .f64 a1.bits))), (11, (vc (.flt .f64 ((Fl.mk (k := .f64) 4598175219545276416 (by decide)).sub (((Fl.mk (k := .f64) 4620693217682128896 (by decide)).mul (x27.mul x34)).div (Fl.mk (k := .f64) 4618760256179416344 (by decide)))).bits)))], []⟩ (Tt ∧ T2 Tt) [] [0, 1, 11] [] ⟨tr, tr, tr, tr⟩ ?_
          refine thenQ_normal ?_
          refine AW.seq ?_
          refine AW.seq (AW.rA ⟨[(0, (vc (.flt .f64 a0.bits))), (11, (vc (.flt .f64 ((Fl.mk (k := .f64) 4598175219545276416 (by decide)).sub (((Fl.mk (k := .f64) 4620693217682128896 (by decide)).mul (x27.mul x34)).div (Fl.mk (k := .f64) 4618760256179416344 (by decide)))).bits))), (61, (vc (.bool (a1.lt' (Fl.mk (k := .f64) 0 (by decide))))))], []⟩ (T2 Tt) [] [0, 11, 61] [] ⟨tr, tr, tr⟩ (thenQ_normal ?_))
          rcases ite2_cases h with ⟨b38, h⟩ | ⟨b38, h⟩
          · refine AW.cond_t rfl b38 ?_
            refine AW.rA ⟨[(0, (vc (.flt .f64 a0.bits))), (11, (vc (.flt .f64 ((Fl.mk (k := .f64) 4602678819172646912 (by decide)).sub ((Fl.mk (k := .f64) 4598175219545276416 (by decide)).sub (((Fl.mk (k := .f64) 4620693217682128896 (by decide)).mul (x27.mul x34)).div (Fl.mk (k := .f64) 4618760256179416344 (by decide))))).bits)))], []⟩ (Tt ∧ T2 Tt) [] [0, 11] [] ⟨tr, tr, tr, tr⟩ ?_
            refine thenQ_normal ?_
            refine AW.seq ?_
            refine AW.seq (AW.rA ⟨[(11, (vc (.flt .f64 ((Fl.mk (k := .f64) 4602678819172646912 (by decide)).sub ((Fl.mk (k := .f64) 4598175219545276416 (by decide)).sub (((Fl.mk (k := .f64) 4620693217682128896 (by decide)).mul (x27.mul x34)).div (Fl.mk (k := .f64) 4618760256179416344 (by decide))))).bits))), (65, (vc (.bool (a0.lt' (Fl.mk (k := .f64) 0 (by decide))))))], []⟩ (T2 Tt) [] [11, 65] [] ⟨tr, tr, tr⟩ (thenQ_normal ?_))
            rcases ite2_cases h with ⟨b39, h⟩ | ⟨b39, h⟩
            · refine AW.cond_t rfl b39 ?_
              refine AW.rA ⟨[(11, (vc (.flt .f64 (((Fl.mk (k := .f64) 4602678819172646912 (by decide)).sub ((Fl.mk (k := .f64) 4598175219545276416 (by decide)).sub (((Fl.mk (k := .f64) 4620693217682128896 (by decide)).mul (x27.mul x34)).div (Fl.mk (k := .f64) 4618760256179416344 (by decide))))).neg).bits)))], []⟩ (Tt ∧ T2 Tt) [] [11] [] ⟨tr, tr, tr, tr⟩ ?_
              refine thenQ_normal ?_
              refine AW.seq (AW.rA ⟨[(4, (vc (.flt .f64 (((Fl.mk (k := .f64) 4602678819172646912 (by decide)).sub ((Fl.mk (k := .f64) 4598175219545276416 (by decide)).sub (((Fl.mk (k := .f64) 4620693217682128896 (by decide)).mul (x27.mul x34)).div (Fl.mk (k := .f64) 4618760256179416344 (by decide))))).neg).bits)))], []⟩ (T2 Tt) [] [4] [] ⟨tr, tr, tr⟩ (thenQ_normal ?_))
              refine AW.ret ?_
              replace h := some_eq h
              subst h
              exact ⟨.inr rfl, retOK_of [(.one (.c (.flt .f64 (((Fl.mk (k := .f64) 4602678819172646912 (by decide)).sub ((Fl.mk (k := .f64) 4598175219545276416 (by decide)).sub (((Fl.mk (k := .f64) 4620693217682128896 (by decide)).mul (x27.mul x34)).div (Fl.mk (k := .f64) 4618760256179416344 (by decide))))).neg).bits)))] (by kernel_rfl) ⟨⟨rfl, tr⟩, tr⟩ (of_decide_eq_true (by kernel_rfl))⟩
            · refine AW.cond_f rfl b39 ?_
              refine AW.skip ?_
              refine thenQ_normal ?_
              refine AW.seq (AW.rA ⟨[(4, (vc (.flt .f64 ((Fl.mk (k := .f64) 4602678819172646912 (by decide)).sub ((Fl.mk (k := .f64) 4598175219545276416 (by decide)).sub (((Fl.mk (k := .f64) 4620693217682128896 (by decide)).mul (x27.mul x34)).div (Fl.mk (k := .f64) 4618760256179416344 (by decide))))).bits)))], []⟩ (T2 Tt) [] [4] [] ⟨tr, tr, tr⟩ (thenQ_normal ?_))
              refine AW.ret ?_
              replace h := some_eq h
              subst h
              exact ⟨.inr rfl, retOK_of [(.one (.c (.flt .f64 ((Fl.mk (k := .f64) 4602678819172646912 (by decide)).sub ((Fl.mk (k := .f64) 4598175219545276416 (by decide)).sub (((Fl.mk (k := .f64) 4620693217682128896 (by decide)).mul (x27.mul x34)).div (Fl.mk (k := .f64) 4618760256179416344 (by decide))))).bits)))] (by kernel_rfl) ⟨⟨rfl, tr⟩, tr⟩ (of_decide_eq_true (by kernel_rfl))⟩
          · refine AW.cond_f rfl b38 ?_
            refine AW.skip ?_
            refine thenQ_normal ?_
            refine AW.seq ?_
            refine AW.seq (AW.rA ⟨[(11, (vc (.flt .f64 ((Fl.mk (k := .f64) 4598175219545276416 (by decide)).sub (((Fl.mk (k := .f64) 4620693217682128896 (by decide)).mul (x27.mul x34)).div (Fl.mk (k := .f64) 4618760256179416344 (by decide)))).bits))), (65, (vc (.bool (a0.lt' (Fl.mk (k := .f64) 0 (by decide))))))], []⟩ (T2 Tt) [] [11, 65] [] ⟨tr, tr, tr⟩ (thenQ_normal ?_))
            rcases ite2_cases h with ⟨b40, h⟩ | ⟨b40, h⟩
            · refine AW.cond_t rfl b40 ?_
              refine AW.rA ⟨[(11, (vc (.flt .f64 (((Fl.mk (k := .f64) 4598175219545276416 (by decide)).sub (((Fl.mk (k := .f64) 4620693217682128896 (by decide)).mul (x27.mul x34)).div (Fl.mk (k := .f64) 4618760256179416344 (by decide)))).neg).bits)))], []⟩ (Tt ∧ T2 Tt) [] [11] [] ⟨tr, tr, tr, tr⟩ ?_
              refine thenQ_normal ?_
              refine AW.seq (AW.rA ⟨[(4, (vc (.flt .f64 (((Fl.mk (k := .f64) 4598175219545276416 (by decide)).sub (((Fl.mk (k := .f64) 4620693217682128896 (by decide)).mul (x27.mul x34)).div (Fl.mk (k := .f64) 4618760256179416344 (by decide)))).neg).bits)))], []⟩ (T2 Tt) [] [4] [] ⟨tr, tr, tr⟩ (thenQ_normal ?_))
              refine AW.ret ?_
              replace h := some_eq h
              subst h
              exact ⟨.inr rfl, retOK_of [(.one (.c (.flt .f64 (((Fl.mk (k := .f64) 4598175219545276416 (by decide)).sub (((Fl.mk (k := .f64) 4620693217682128896 (by decide)).mul (x27.mul x34)).div (Fl.mk (k := .f64) 4618760256179416344 (by decide)))).neg).bits)))] (by kernel_rfl) ⟨⟨rfl, tr⟩, tr⟩ (of_decide_eq_true (by kernel_rfl))⟩
            · refine AW.cond_f rfl b40 ?_
              refine AW.skip ?_
              refine thenQ_normal ?_
              refine AW.seq (AW.rA ⟨[(4, (vc (.flt .f64 ((Fl.mk (k := .f64) 4598175219545276416 (by decide)).sub (((Fl.mk (k := .f64) 4620693217682128896 (by decide)).mul (x27.mul x34)).div (Fl.mk (k := .f64) 4618760256179416344 (by decide)))).bits)))], []⟩ (T2 Tt) [] [4] [] ⟨tr, tr, tr⟩ (thenQ_normal ?_))
              refine AW.ret ?_
              replace h := some_eq h
              subst h
              exact ⟨.inr rfl, retOK_of [(.one (.c (.flt .f64 ((Fl.mk (k := .f64) 4598175219545276416 (by decide)).sub (((Fl.mk (k := .f64) 4620693217682128896 (by decide)).mul (x27.mul x34)).div (Fl.mk (k := .f64) 4618760256179416344 (by decide)))).bits)))] (by kernel_rfl) ⟨⟨rfl, tr⟩, tr⟩ (of_decide_eq_true (by kernel_rfl))⟩
        · refine AW.cond_f rfl b37 ?_
          refine AW.skip ?_
          refine thenQ_normal ?_
          refine AW.seq ?_
          refine AW.seq (AW.rA ⟨[(0, (vc (.flt .f64 a0.bits))), (11, (vc (.flt .f64 (((Fl.mk (k := .f64) 4620693217682128896 (by decide)).mul (x27.mul x34)).div (Fl.mk (k := .f64) 4618760256179416344 (by decide))).bits))), (61, (vc (.bool (a1.lt' (Fl.mk (k := .f64) 0 (by decide))))))], []⟩ (T2 Tt) [] [0, 11, 61] [] ⟨tr, tr, tr⟩ (thenQ_normal ?_))
          rcases ite2_cases h with ⟨b41, h⟩ | ⟨b41, h⟩
          · refine AW.cond_t rfl b41 ?_
            refine AW.rA ⟨[(0, (vc (.flt .f64 a0.bits))), (11, (vc (.flt .f64 ((Fl.mk (k := .f64) 4602678819172646912 (by decide)).sub (((Fl.mk (k := .f64) 4620693217682128896 (by decide)).mul (x27.mul x34)).div (Fl.mk (k := .f64) 4618760256179416344 (by decide)))).bits)))], []⟩ (Tt ∧ T2 Tt) [] [0, 11] [] ⟨tr, tr, tr, tr⟩ ?_
            refine thenQ_normal ?_
            refine AW.seq ?_
            refine AW.seq (AW.rA ⟨[(11, (vc (.flt .f64 ((Fl.mk (k := .f64) 4602678819172646912 (by decide)).sub (((Fl.mk (k := .f64) 4620693217682128896 (by decide)).mul (x27.mul x34)).div (Fl.mk (k := .f64) 4618760256179416344 (by decide)))).bits))), (65, (vc (.bool (a0.lt' (Fl.mk (k := .f64) 0 (by decide))))))], []⟩ (T2 Tt) [] [11, 65] [] ⟨tr, tr, tr⟩ (thenQ_normal ?_))
            rcases ite2_cases h with ⟨b42, h⟩ | ⟨b42, h⟩
            · refine AW.cond_t rfl b42 ?_
              refine AW.rA ⟨[(11, (vc (.flt .f64 (((Fl.mk (k := .f64) 4602678819172646912 (by decide)).sub (((Fl.mk (k := .f64) 4620693217682128896 (by decide)).mul (x27.mul x34)).div (Fl.mk (k := .f64) 4618760256179416344 (by decide)))).neg).bits)))], []⟩ (Tt ∧ T2 Tt) [] [11] [] ⟨tr, tr, tr, tr⟩ ?_
              refine thenQ_normal ?_
              refine AW.seq (AW.rA ⟨[(4, (vc (.flt .f64 (((Fl.mk (k := .f64) 4602678819172646912 (by decide)).sub (((Fl.mk (k := .f64) 4620693217682128896 (by decide)).mul (x27.mul x34)).div (Fl.mk (k := .f64) 4618760256179416344 (by decide)))).neg).bits)))], []⟩ (T2 Tt) [] [4] [] ⟨tr, tr, tr⟩ (thenQ_normal ?_))
              refine AW.ret ?_
              replace h := some_eq h
              subst h
              exact ⟨.inr rfl, retOK_of [(.one (.c (.flt .f64 (((Fl.mk (k := .f64) 4602678819172646912 (by decide)).sub (((Fl.mk (k := .f64) 4620693217682128896 (by decide)).mul (x27.mul x34)).div (Fl.mk (k := .f64) 4618760256179416344 (by decide)))).neg).bits)))] (by kernel_rfl) ⟨⟨rfl, tr⟩, tr⟩ (of_decide_eq_true (by kernel_rfl))⟩
            · refine AW.cond_f rfl b42 ?_
              refine AW.skip ?_
              refine thenQ_normal ?_
              refine AW.seq (AW.rA ⟨[(4, (vc (.flt .f64 ((Fl.mk (k := .f64) 4602678819172646912 (by decide)).sub (((Fl.mk (k := .f64) 4620693217682128896 (by decide)).mul (x27.mul x34)).div (Fl.mk (k := .f64) 4618760256179416344 (by decide)))).bits)))], []⟩ (T2 Tt) [] [4] [] ⟨tr, tr, tr⟩ (thenQ_normal ?_))
              refine AW.ret ?_
              replace h := some_eq h
              subst h
              exact ⟨.inr rfl, retOK_of [(.one (.c (.flt .f64 ((Fl.mk (k := .f64) 4602678819172646912 (by decide)).sub (((Fl.mk (k := .f64) 4620693217682128896 (by decide)).mul (x27.mul x34)).div (Fl.mk (k := .f64) 4618760256179416344 (by decide)))).bits)))] (by kernel_rfl) ⟨⟨rfl, tr⟩, tr⟩ (of_decide_eq_true (by kernel_rfl))⟩
          · refine AW.cond_f rfl b41 ?_
            refine AW.skip ?_
            refine thenQ_normal ?_
            refine AW.seq ?_
            refine AW.seq (AW.rA ⟨[(11, (vc (.flt .f64 (((Fl.mk (k := .f64) 4620693217682128896 (by decide)).mul (x27.mul x34)).div (Fl.mk (k := .f64) 4618760256179416344 (by decide))).bits))), (65, (vc (.bool (a0.lt' (Fl.mk (k := .f64) 0 (by decide))))))], []⟩ (T2 Tt) [] [11, 65] [] ⟨tr, tr, tr⟩ (thenQ_normal ?_))
            rcases ite2_cases h with ⟨b43, h⟩ | ⟨b43, h⟩
            · refine AW.cond_t rfl b43 ?_
              refine AW.rA ⟨[(11, (vc (.flt .f64 ((((Fl.mk (k := .f64) 4620693217682128896 (by decide)).mul (x27.mul x34)).div (Fl.mk (k := .f64) 4618760256179416344 (by decide))).neg).bits)))], []⟩ (Tt ∧ T2 Tt) [] [11] [] ⟨tr, tr, tr, tr⟩ ?_
              refine thenQ_normal ?_
              refine AW.seq (AW.rA ⟨[(4, (vc (.flt .f64 ((((Fl.mk (k := .f64) 4620693217682128896 (by decide)).mul (x27.mul x34)).div (Fl.mk (k := .f64) 4618760256179416344 (by decide))).neg).bits)))], []⟩ (T2 Tt) [] [4] [] ⟨tr, tr, tr⟩ (thenQ_normal ?_))
              refine AW.ret ?_
              replace h := some_eq h
              subst h
              exact ⟨.inr rfl, retOK_of [(.one (.c (.flt .f64 ((((Fl.mk (k := .f64) 4620693217682128896 (by decide)).mul (x27.mul x34)).div (Fl.mk (k := .f64) 4618760256179416344 (by decide))).neg).bits)))] (by kernel_rfl) ⟨⟨rfl, tr⟩, tr⟩ (of_decide_eq_true (by kernel_rfl))⟩
            · refine AW.cond_f rfl b43 ?_
              refine AW.skip ?_
              refine thenQ_normal ?_
              refine AW.seq (AW.rA ⟨[(4, (vc (.flt .f64 (((Fl.mk (k := .f64) 4620693217682128896 (by decide)).mul (x27.mul x34)).div (Fl.mk (k := .f64) 4618760256179416344 (by decide))).bits)))], []⟩ (T2 Tt) [] [4] [] ⟨tr, tr, tr⟩ (thenQ_normal ?_))
              refine AW.ret ?_
              replace h := some_eq h
              subst h
              exact ⟨.inr rfl, retOK_of [(.one (.c (.flt .f64 (((Fl.mk (k := .f64) 4620693217682128896 (by decide)).mul (x27.mul x34)).div (Fl.mk (k := .f64) 4618760256179416344 (by decide))).bits)))] (by kernel_rfl) ⟨⟨rfl, tr⟩, tr⟩ (of_decide_eq_true (by kernel_rfl))⟩

/-! impl.AngleTurns -/
def impl_AngleTurns (K : Nat) (a0 : F32) (a1 : F32) : Option (F32) :=
  (impl_IsFinite K a1).bind fun v1 => (ite2 ((!v1)) (some true) ((impl_IsFinite K a0).bind fun v4 => some (!v4))).bind fun j6 => ite2 (j6) ((impl_notNumber K ).bind fun v9 => some v9) ((ite2 ((a1.eq (Fl.mk (k := .f32) 0 (by decide)))) (some (a0.eq (Fl.mk (k := .f32) 0 (by decide)))) (some false)).bind fun j12 => ite2 (j12) (some (Fl.mk (k := .f32) 0 (by decide))) ((impl_wideAngle K (Fl.cv .f32 .f64 a0) (Fl.cv .f32 .f64 a1)).bind fun v15 => chk ((convBits .f64 v15.bits .f32).isSome = true) (some (Fl.cv .f64 .f32 v15))))

theorem ok_impl_AngleTurns (K : Nat) (a0 : F32) (a1 : F32) (o : (F32)) (h : impl_AngleTurns K a0 a1 = some o) : CallOK Tryz.prog 92 [.one (.flt .f32 a0.bits), .one (.flt .f32 a1.bits)] [.one (.flt .f32 o.bits)] := by
  refine callOK_of_AW Tryz.func92 rfl (by kernel_rfl) (Nat.le_of_ble_eq_true (by kernel_rfl)) ?_
  intro w0
  unfold impl_AngleTurns at h
  refine AW.seq (AW.rA ⟨[(0, (vc (.flt .f32 a0.bits))), (1, (vc (.flt .f32 a1.bits)))], []⟩ (Tt ∧ Tt) [] [0, 1] [] ⟨tr, tr⟩ (thenQ_normal ?_))
  refine AW.seq ?_
  refine AW.seq ?_
  obtain ⟨v1, e2, h⟩ := bind_some h
  obtain ⟨j6, e7, h⟩ := bind_some h
  refine AW.join1 (s2 := ⟨[(0, (vc (.flt .f32 a0.bits))), (1, (vc (.flt .f32 a1.bits))), (12, (vc (.bool j6)))], []⟩) ?_ ?_
  · rcases ite2_cases e7 with ⟨b3, e7⟩ | ⟨b3, e7⟩
    · replace e7 := some_eq e7
      subst e7
      exact AW.rA ⟨[(0, (vc (.flt .f32 a0.bits))), (1, (vc (.flt .f32 a1.bits))), (12, (vc (.bool true)))], []⟩ (Tt ∧ (((Eqc (.flt .f32 a1.bits)) ∧ Tt) ∧ CallOK Tryz.prog 106 [.one (.flt .f32 a1.bits)] [.one (.bool v1)]) ∧ Tt ∧ (Tt ∧ (!v1) = true) ∧ T4 Tt) [.no, .call [.one (.flt .f32 a1.bits)] [.one (.bool v1)] [[.view]], .no, .dec true] [0, 1, 12] [] ⟨tr, ⟨⟨rfl, tr⟩, ok_impl_IsFinite K a1 v1 e2⟩, tr, ⟨tr, b3⟩, tr, tr, tr, tr, tr⟩ ⟨rfl, rfl⟩
    · obtain ⟨v4, e5, e7⟩ := bind_some e7
      replace e7 := some_eq e7
      subst e7
      exact AW.rA ⟨[(0, (vc (.flt .f32 a0.bits))), (1, (vc (.flt .f32 a1.bits))), (12, (vc (.bool (!v4))))], []⟩ (Tt ∧ (((Eqc (.flt .f32 a1.bits)) ∧ Tt) ∧ CallOK Tryz.prog 106 [.one (.flt .f32 a1.bits)] [.one (.bool v1)]) ∧ Tt ∧ (Tt ∧ (!v1) = false) ∧ Tt ∧ (((Eqc (.flt .f32 a0.bits)) ∧ Tt) ∧ CallOK Tryz.prog 106 [.one (.flt .f32 a0.bits)] [.one (.bool v4)]) ∧ T2 Tt) [.no, .call [.one (.flt .f32 a1.bits)] [.one (.bool v1)] [[.view]], .no, .dec false, .no, .call [.one (.flt .f32 a0.bits)] [.one (.bool v4)] [[.view]]] [0, 1, 12] [] ⟨tr, ⟨⟨rfl, tr⟩, ok_impl_IsFinite K a1 v1 e2⟩, tr, ⟨tr, b3⟩, tr, ⟨⟨rfl, tr⟩, ok_impl_IsFinite K a0 v4 e5⟩, tr, tr, tr⟩ ⟨rfl, rfl⟩
  refine thenQ_normal ?_
  rcases ite2_cases h with ⟨b8, h⟩ | ⟨b8, h⟩
  · refine AW.cond_t rfl b8 ?_
    refine AW.seq ?_
    obtain ⟨v9, e10, h⟩ := bind_some h
    refine AW.rA ⟨[(4, (vc (.flt .f32 v9.bits)))], []⟩ (((Tt) ∧ CallOK Tryz.prog 107 [] [.one (.flt .f32 v9.bits)]) ∧ Tt ∧ Tt) [.call [] [.one (.flt .f32 v9.bits)] [[.view]]] [4] [] ⟨⟨tr, ok_impl_notNumber K v9 e10⟩, tr, tr⟩ ?_
    refine thenQ_normal ?_
    refine AW.ret ?_
    refine thenQ_ret ?_
    replace h := some_eq h
    subst h
    exact ⟨.inr rfl, retOK_of [(.one (.c (.flt .f32 v9.bits)))] (by kernel_rfl) ⟨⟨rfl, tr⟩, tr⟩ (of_decide_eq_true (by kernel_rfl))⟩
  · refine AW.cond_f rfl b8 ?_
    refine AW.skip ?_
    refine thenQ_normal ?_
    refine AW.seq ?_
    refine AW.seq ?_
    obtain ⟨j12, e13, h⟩ := bind_some h
    refine AW.join1 (s2 := ⟨[(0, (vc (.flt .f32 a0.bits))), (1, (vc (.flt .f32 a1.bits))), (19, (vc (.bool j12)))], []⟩) ?_ ?_
    · rcases ite2_cases e13 with ⟨b11, e13⟩ | ⟨b11, e13⟩
      · replace e13 := some_eq e13
        subst e13
        exact AW.rA ⟨[(0, (vc (.flt .f32 a0.bits))), (1, (vc (.flt .f32 a1.bits))), (19, (vc (.bool (a0.eq (Fl.mk (k := .f32) 0 (by decide))))))], []⟩ (T2 ((Tt ∧ (a1.eq (Fl.mk (k := .f32) 0 (by decide))) = true) ∧ Tt ∧ T2 Tt)) [.no, .no, .dec true] [0, 1, 19] [] ⟨tr, tr, ⟨tr, b11⟩, tr, tr, tr, tr⟩ ⟨rfl, rfl⟩
      · replace e13 := some_eq e13
        subst e13
        exact AW.rA ⟨[(0, (vc (.flt .f32 a0.bits))), (1, (vc (.flt .f32 a1.bits))), (19, (vc (.bool false)))], []⟩ (T2 ((Tt ∧ (a1.eq (Fl.mk (k := .f32) 0 (by decide))) = false) ∧ Tt ∧ T2 Tt)) [.no, .no, .dec false] [0, 1, 19] [] ⟨tr, tr, ⟨tr, b11⟩, tr, tr, tr, tr⟩ ⟨rfl, rfl⟩
    refine thenQ_normal ?_
    rcases ite2_cases h with ⟨b14, h⟩ | ⟨b14, h⟩
    · refine AW.cond_t rfl b14 ?_
      refine AW.seq (AW.rA ⟨[(4, (vc (.flt .f32 (Fl.mk (k := .f32) 0 (by decide)).bits)))], []⟩ (Tt ∧ Tt) [] [4] [] ⟨tr, tr⟩ (thenQ_normal ?_))
      refine AW.ret ?_
      refine thenQ_ret ?_
      replace h := some_eq h
      subst h
      exact ⟨.inr rfl, retOK_of [(.one (.c (.flt .f32 (Fl.mk (k := .f32) 0 (by decide)).bits)))] (by kernel_rfl) ⟨⟨rfl, tr⟩, tr⟩ (of_decide_eq_true (by kernel_rfl))⟩
    · refine AW.cond_f rfl b14 ?_
      refine AW.skip ?_
      refine thenQ_normal ?_
      refine AW.seq ?_
      obtain ⟨v15, e16, h⟩ := bind_some h
      obtain ⟨c17, h⟩ := chk_some h
      refine AW.rA ⟨[(4, (vc (.flt .f32 (Fl.cv .f64 .f32 v15).bits)))], []⟩ (Tt ∧ ((convBits .f32 a0.bits .f64).isSome = true) ∧ Tt ∧ ((convBits .f32 a1.bits .f64).isSome = true) ∧ (((Eqc (.flt .f64 (Fl.cv .f32 .f64 a0).bits)) ∧ (Eqc (.flt .f64 (Fl.cv .f32 .f64 a1).bits)) ∧ Tt) ∧ CallOK Tryz.prog 108 [.one (.flt .f64 (Fl.cv .f32 .f64 a0).bits), .one (.flt .f64 (Fl.cv .f32 .f64 a1).bits)] [.one (.flt .f64 v15.bits)]) ∧ ((convBits .f64 v15.bits .f32).isSome = true) ∧ Tt ∧ Tt) [.no, .no, .no, .no, .call [.one (.flt .f64 (Fl.cv .f32 .f64 a0).bits), .one (.flt .f64 (Fl.cv .f32 .f64 a1).bits)] [.one (.flt .f64 v15.bits)] [[.view]]] [4] [] ⟨tr, cv_wide a0, tr, cv_wide a1, ⟨⟨rfl, rfl, tr⟩, ok_impl_wideAngle K (Fl.cv .f32 .f64 a0) (Fl.cv .f32 .f64 a1) v15 e16⟩, c17, tr, tr⟩ ?_
      refine thenQ_normal ?_
      refine AW.ret ?_
      replace h := some_eq h
      subst h
      exact ⟨.inr rfl, retOK_of [(.one (.c (.flt .f32 (Fl.cv .f64 .f32 v15).bits)))] (by kernel_rfl) ⟨⟨rfl, tr⟩, tr⟩ (of_decide_eq_true (by kernel_rfl))⟩

/-! impl.AngleOf -/
def impl_AngleOf (K : Nat) (a0 : Turn) : Option (F32) :=
  (impl_Turn_vector K a0).bind fun v1 => (impl_LongOf K v1).bind fun v3 => (impl_size K a0.W).bind fun v5 => (impl_AngleTurns K v3 v5).bind fun v7 => some ((Fl.mk (k := .f32) 1073741824 (by decide)).mul v7)

theorem ok_impl_AngleOf (K : Nat) (a0 : Turn) (o : (F32)) (h : impl_AngleOf K a0 = some o) : CallOK Tryz.prog 73 [.agg (cs_Turn a0)] [.one (.flt .f32 o.bits)] := by
  refine callOK_of_AW Tryz.func73 rfl (by kernel_rfl) (Nat.le_of_ble_eq_true (by kernel_rfl)) ?_
  intro w0
  unfold impl_AngleOf at h
  refine AW.seq (AW.rA ⟨[(1, (vp 1 0))], [(1, (.box [(.c (.flt .f32 a0.W.bits)), (.c (.flt .f32 a0.X.bits)), (.c (.flt .f32 a0.Y.bits)), (.c (.flt .f32 a0.Z.bits))]))]⟩ (T2 Tt) [.box 1] [1] [1] ⟨tr, tr, tr⟩ (thenQ_normal ?_))
  refine AW.seq ?_
  obtain ⟨v1, e2, h⟩ := bind_some h
  obtain ⟨v3, e4, h⟩ := bind_some h
  obtain ⟨v5, e6, h⟩ := bind_some h
  obtain ⟨v7, e8, h⟩ := bind_some h
  refine AW.dA ⟨[(2, (vc (.flt .f32 ((Fl.mk (k := .f32) 1073741824 (by decide)).mul v7).bits)))], []⟩ ((Tt ∧ ((((Eqc (.flt .f32 a0.W.bits)) ∧ (Eqc (.flt .f32 a0.X.bits)) ∧ (Eqc (.flt .f32 a0.Y.bits)) ∧ (Eqc (.flt .f32 a0.Z.bits)) ∧ Tt) ∧ Tt) ∧ CallOK Tryz.prog 94 [.agg (cs_Turn a0)] [.agg (cs_Vector v1)]) ∧ ((((Eqc (.flt .f32 v1.X.bits)) ∧ (Eqc (.flt .f32 v1.Y.bits)) ∧ (Eqc (.flt .f32 v1.Z.bits)) ∧ Tt) ∧ Tt) ∧ CallOK Tryz.prog 93 [.agg (cs_Vector v1)] [.one (.flt .f32 v3.bits)]) ∧ T2 ((((Eqc (.flt .f32 a0.W.bits)) ∧ Tt) ∧ CallOK Tryz.prog 95 [.one (.flt .f32 a0.W.bits)] [.one (.flt .f32 v5.bits)]) ∧ (((Eqc (.flt .f32 v3.bits)) ∧ (Eqc (.flt .f32 v5.bits)) ∧ Tt) ∧ CallOK Tryz.prog 92 [.one (.flt .f32 v3.bits), .one (.flt .f32 v5.bits)] [.one (.flt .f32 v7.bits)]) ∧ T2 Tt)) ∧ (Tt)) 9 [.no, .call [.agg (cs_Turn a0)] [.agg (cs_Vector v1)] [[.view, .view, .view]], .call [.agg (cs_Vector v1)] [.one (.flt .f32 v3.bits)] [[.view]], .no, .no, .call [.one (.flt .f32 a0.W.bits)] [.one (.flt .f32 v5.bits)] [[.view]], .call [.one (.flt .f32 v3.bits), .one (.flt .f32 v5.bits)] [.one (.flt .f32 v7.bits)] [[.view]]] [2] [] ⟨⟨tr, ⟨⟨⟨rfl, rfl, rfl, rfl, tr⟩, tr⟩, ok_impl_Turn_vector K a0 v1 e2⟩, ⟨⟨⟨rfl, rfl, rfl, tr⟩, tr⟩, ok_impl_LongOf K v1 v3 e4⟩, tr, tr, ⟨⟨rfl, tr⟩, ok_impl_size K a0.W v5 e6⟩, ⟨⟨rfl, rfl, tr⟩, ok_impl_AngleTurns K v3 v5 v7 e8⟩, tr, tr, tr⟩, tr⟩ ?_
  refine thenQ_normal ?_
  refine AW.ret ?_
  replace h := some_eq h
  subst h
  exact ⟨.inr rfl, retOK_of [(.one (.c (.flt .f32 ((Fl.mk (k := .f32) 1073741824 (by decide)).mul v7).bits)))] (by kernel_rfl) ⟨⟨rfl, tr⟩, tr⟩ (of_decide_eq_true (by kernel_rfl))⟩

/-! impl.ApartTurns -/
def impl_ApartTurns (K : Nat) (a0 : Turn) (a1 : Turn) : Option (F32) :=
  (impl_InverseOf K a0).bind fun v1 => (impl_MulTurns K v1 a1).bind fun v3 => (impl_AngleOf K v3).bind fun v5 => some v5

theorem ok_impl_ApartTurns (K : Nat) (a0 : Turn) (a1 : Turn) (o : (F32)) (h : impl_ApartTurns K a0 a1 = some o) : CallOK Tryz.prog 50 [.agg (cs_Turn a0), .agg (cs_Turn a1)] [.one (.flt .f32 o.bits)] := by
  refine callOK_of_AW Tryz.func50 rfl (by kernel_rfl) (Nat.le_of_ble_eq_true (by kernel_rfl)) ?_
  intro w0
  unfold impl_ApartTurns at h
  refine AW.seq (AW.rA ⟨[(2, (vp 1 0)), (3, (vp 2 0))], [(1, (.box [(.c (.flt .f32 a0.W.bits)), (.c (.flt .f32 a0.X.bits)), (.c (.flt .f32 a0.Y.bits)), (.c (.flt .f32 a0.Z.bits))])), (2, (.box [(.c (.flt .f32 a1.W.bits)), (.c (.flt .f32 a1.X.bits)), (.c (.flt .f32 a1.Y.bits)), (.c (.flt .f32 a1.Z.bits))]))]⟩ (Tt ∧ T2 Tt) [.box 1, .box 2] [2, 3] [1, 2] ⟨tr, tr, tr, tr⟩ (thenQ_normal ?_))
  refine AW.seq ?_
  obtain ⟨v1, e2, h⟩ := bind_some h
  obtain ⟨v3, e4, h⟩ := bind_some h
  obtain ⟨v5, e6, h⟩ := bind_some h
  refine AW.dA ⟨[(4, (vc (.flt .f32 v5.bits)))], []⟩ ((Tt ∧ ((((Eqc (.flt .f32 a0.W.bits)) ∧ (Eqc (.flt .f32 a0.X.bits)) ∧ (Eqc (.flt .f32 a0.Y.bits)) ∧ (Eqc (.flt .f32 a0.Z.bits)) ∧ Tt) ∧ Tt) ∧ CallOK Tryz.prog 75 [.agg (cs_Turn a0)] [.agg (cs_Turn v1)]) ∧ Tt ∧ ((((Eqc (.flt .f32 v1.W.bits)) ∧ (Eqc (.flt .f32 v1.X.bits)) ∧ (Eqc (.flt .f32 v1.Y.bits)) ∧ (Eqc (.flt .f32 v1.Z.bits)) ∧ Tt) ∧ ((Eqc (.flt .f32 a1.W.bits)) ∧ (Eqc (.flt .f32 a1.X.bits)) ∧ (Eqc (.flt .f32 a1.Y.bits)) ∧ (Eqc (.flt .f32 a1.Z.bits)) ∧ Tt) ∧ Tt) ∧ CallOK Tryz.prog 74 [.agg (cs_Turn v1), .agg (cs_Turn a1)] [.agg (cs_Turn v3)]) ∧ ((((Eqc (.flt .f32 v3.W.bits)) ∧ (Eqc (.flt .f32 v3.X.bits)) ∧ (Eqc (.flt .f32 v3.Y.bits)) ∧ (Eqc (.flt .f32 v3.Z.bits)) ∧ Tt) ∧ Tt) ∧ CallOK Tryz.prog 73 [.agg (cs_Turn v3)] [.one (.flt .f32 v5.bits)]) ∧ Tt ∧ Tt) ∧ (Tt)) 6 [.no, .call [.agg (cs_Turn a0)] [.agg (cs_Turn v1)] [[.view, .view, .view, .view]], .no, .call [.agg (cs_Turn v1), .agg (cs_Turn a1)] [.agg (cs_Turn v3)] [[.view, .view, .view, .view]], .call [.agg (cs_Turn v3)] [.one (.flt .f32 v5.bits)] [[.view]]] [4] [] ⟨⟨tr, ⟨⟨⟨rfl, rfl, rfl, rfl, tr⟩, tr⟩, ok_impl_InverseOf K a0 v1 e2⟩, tr, ⟨⟨⟨rfl, rfl, rfl, rfl, tr⟩, ⟨rfl, rfl, rfl, rfl, tr⟩, tr⟩, ok_impl_MulTurns K v1 a1 v3 e4⟩, ⟨⟨⟨rfl, rfl, rfl, rfl, tr⟩, tr⟩, ok_impl_AngleOf K v3 v5 e6⟩, tr, tr⟩, tr⟩ ?_
  refine thenQ_normal ?_
  refine AW.ret ?_
  replace h := some_eq h
  subst h
  exact ⟨.inr rfl, retOK_of [(.one (.c (.flt .f32 v5.bits)))] (by kernel_rfl) ⟨⟨rfl, tr⟩, tr⟩ (of_decide_eq_true (by kernel_rfl))⟩

/-! impl.thin -/
def Zt1 (QE : Prop) : Prop := ((Tt ∧ (Tt ∧ (Tt ∧ (Tt ∧ Tt)))) ∧ (Tt ∧ (Tt ∧ (Tt ∧ (Tt ∧ Tt)))) ∧ QE)
theorem zt1 {QE : Prop} (qe : QE) : Zt1 QE := ⟨⟨tr, ⟨tr, ⟨tr, ⟨tr, tr⟩⟩⟩⟩, ⟨tr, ⟨tr, ⟨tr, ⟨tr, tr⟩⟩⟩⟩, qe⟩
def Zt2 (QE : Prop) : Prop := ((Tt ∧ (Tt ∧ (Tt ∧ Tt))) ∧ (Tt ∧ (Tt ∧ (Tt ∧ Tt))) ∧ QE)
theorem zt2 {QE : Prop} (qe : QE) : Zt2 QE := ⟨⟨tr, ⟨tr, ⟨tr, tr⟩⟩⟩, ⟨tr, ⟨tr, ⟨tr, tr⟩⟩⟩, qe⟩
def Zt3 (QE : Prop) : Prop := ((Tt ∧ (Tt ∧ (Tt ∧ (Tt ∧ Tt)))) ∧ (Tt ∧ (Zt2 QE)) ∧ QE)
theorem zt3 {QE : Prop} (qe : QE) : Zt3 QE := ⟨⟨tr, ⟨tr, ⟨tr, ⟨tr, tr⟩⟩⟩⟩, ⟨tr, (zt2 qe)⟩, qe⟩
def Zt4 (QE : Prop) : Prop := ((Tt ∧ (Zt1 QE)) ∧ ((Tt ∧ (Zt3 QE)) ∧ (Tt ∧ (Zt3 QE)) ∧ QE) ∧ QE)
theorem zt4 {QE : Prop} (qe : QE) : Zt4 QE := ⟨⟨tr, (zt1 qe)⟩, ⟨⟨tr, (zt3 qe)⟩, ⟨tr, (zt3 qe)⟩, qe⟩, qe⟩
def Zt5 (QE Q1 : Prop) : Prop := ((Q1 ∧ (Zt2 QE)) ∧ (Tt ∧ (Q1 ∧ (Tt ∧ (Tt ∧ Tt)))) ∧ QE)
theorem zt5 {QE Q1 : Prop} (qe : QE) (q1 : Q1) : Zt5 QE Q1 := ⟨⟨q1, (zt2 qe)⟩, ⟨tr, ⟨q1, ⟨tr, ⟨tr, tr⟩⟩⟩⟩, qe⟩
def Zt6 (QE Q1 : Prop) : Prop := ((Q1 ∧ (Zt3 QE)) ∧ (Tt ∧ (Zt5 QE Q1)) ∧ QE)
theorem zt6 {QE Q1 : Prop} (qe : QE) (q1 : Q1) : Zt6 QE Q1 := ⟨⟨q1, (zt3 qe)⟩, ⟨tr, (zt5 qe q1)⟩, qe⟩
def Zt7 (QE Q1 : Prop) : Prop := ((Q1 ∧ (Zt4 QE)) ∧ ((Tt ∧ (Zt6 QE Q1)) ∧ (Tt ∧ (Zt6 QE Q1)) ∧ QE) ∧ QE)
theorem zt7 {QE Q1 : Prop} (qe : QE) (q1 : Q1) : Zt7 QE Q1 := ⟨⟨q1, (zt4 qe)⟩, ⟨⟨tr, (zt6 qe q1)⟩, ⟨tr, (zt6 qe q1)⟩, qe⟩, qe⟩
def Zt8 (QE Q1 : Prop) : Prop := ((Tt ∧ (Zt5 QE Q1)) ∧ (Tt ∧ (Tt ∧ (Q1 ∧ (Tt ∧ (Tt ∧ Tt))))) ∧ QE)
theorem zt8 {QE Q1 : Prop} (qe : QE) (q1 : Q1) : Zt8 QE Q1 := ⟨⟨tr, (zt5 qe q1)⟩, ⟨tr, ⟨tr, ⟨q1, ⟨tr, ⟨tr, tr⟩⟩⟩⟩⟩, qe⟩
def Zt9 (QE Q1 : Prop) : Prop := ((Tt ∧ (Zt6 QE Q1)) ∧ (Tt ∧ (Zt8 QE Q1)) ∧ QE)
theorem zt9 {QE Q1 : Prop} (qe : QE) (q1 : Q1) : Zt9 QE Q1 := ⟨⟨tr, (zt6 qe q1)⟩, ⟨tr, (zt8 qe q1)⟩, qe⟩
def Zt10 (QE Q1 : Prop) : Prop := ((Tt ∧ (Zt7 QE Q1)) ∧ ((Tt ∧ (Zt9 QE Q1)) ∧ (Tt ∧ (Zt9 QE Q1)) ∧ QE) ∧ QE)
theorem zt10 {QE Q1 : Prop} (qe : QE) (q1 : Q1) : Zt10 QE Q1 := ⟨⟨tr, (zt7 qe q1)⟩, ⟨⟨tr, (zt9 qe q1)⟩, ⟨tr, (zt9 qe q1)⟩, qe⟩, qe⟩
def Zt11 (Q1 : Prop) : Prop := (Tt ∧ (Tt ∧ (Q1 ∧ (Tt ∧ (Tt ∧ Tt)))))
theorem zt11 {Q1 : Prop} (q1 : Q1) : Zt11 Q1 := ⟨tr, ⟨tr, ⟨q1, ⟨tr, ⟨tr, tr⟩⟩⟩⟩⟩
def Zt12 (QE Q1 : Prop) : Prop := ((Tt ∧ (Zt8 QE Q1)) ∧ (Tt ∧ (Zt11 Q1)) ∧ QE)
theorem zt12 {QE Q1 : Prop} (qe : QE) (q1 : Q1) : Zt12 QE Q1 := ⟨⟨tr, (zt8 qe q1)⟩, ⟨tr, (zt11 q1)⟩, qe⟩
def Zt13 (QE Q1 : Prop) : Prop := ((Tt ∧ (Zt9 QE Q1)) ∧ (Tt ∧ (Zt12 QE Q1)) ∧ QE)
theorem zt13 {QE Q1 : Prop} (qe : QE) (q1 : Q1) : Zt13 QE Q1 := ⟨⟨tr, (zt9 qe q1)⟩, ⟨tr, (zt12 qe q1)⟩, qe⟩
def Zt14 (QE Q1 : Prop) : Prop := ((Tt ∧ (Zt10 QE Q1)) ∧ ((Tt ∧ (Zt13 QE Q1)) ∧ (Tt ∧ (Zt13 QE Q1)) ∧ QE) ∧ QE)
theorem zt14 {QE Q1 : Prop} (qe : QE) (q1 : Q1) : Zt14 QE Q1 := ⟨⟨tr, (zt10 qe q1)⟩, ⟨⟨tr, (zt13 qe q1)⟩, ⟨tr, (zt13 qe q1)⟩, qe⟩, qe⟩
def Zt15 (QE : Prop) : Prop := ((Tt ∧ (Zt1 QE)) ∧ ((Tt ∧ (Zt1 QE)) ∧ (Tt ∧ (Zt1 QE)) ∧ QE) ∧ QE)
theorem zt15 {QE : Prop} (qe : QE) : Zt15 QE := ⟨⟨tr, (zt1 qe)⟩, ⟨⟨tr, (zt1 qe)⟩, ⟨tr, (zt1 qe)⟩, qe⟩, qe⟩
def Zt16 (QE : Prop) : Prop := ((Tt ∧ (Zt2 QE)) ∧ (Tt ∧ (Tt ∧ (Tt ∧ (Tt ∧ Tt)))) ∧ QE)
theorem zt16 {QE : Prop} (qe : QE) : Zt16 QE := ⟨⟨tr, (zt2 qe)⟩, ⟨tr, ⟨tr, ⟨tr, ⟨tr, tr⟩⟩⟩⟩, qe⟩
def Zt17 (QE : Prop) : Prop := ((Tt ∧ (Zt3 QE)) ∧ ((Tt ∧ (Zt1 QE)) ∧ (Tt ∧ (Zt16 QE)) ∧ QE) ∧ QE)
theorem zt17 {QE : Prop} (qe : QE) : Zt17 QE := ⟨⟨tr, (zt3 qe)⟩, ⟨⟨tr, (zt1 qe)⟩, ⟨tr, (zt16 qe)⟩, qe⟩, qe⟩
def Zt18 (QE : Prop) : Prop := ((Tt ∧ (Zt4 QE)) ∧ ((Tt ∧ (Zt15 QE)) ∧ ((Tt ∧ (Zt17 QE)) ∧ (Tt ∧ (Zt17 QE)) ∧ QE) ∧ QE) ∧ QE)
theorem zt18 {QE : Prop} (qe : QE) : Zt18 QE := ⟨⟨tr, (zt4 qe)⟩, ⟨⟨tr, (zt15 qe)⟩, ⟨⟨tr, (zt17 qe)⟩, ⟨tr, (zt17 qe)⟩, qe⟩, qe⟩, qe⟩
def Zt19 (QE Q1 : Prop) : Prop := ((Tt ∧ (Zt5 QE Q1)) ∧ (Q1 ∧ (Zt16 QE)) ∧ QE)
theorem zt19 {QE Q1 : Prop} (qe : QE) (q1 : Q1) : Zt19 QE Q1 := ⟨⟨tr, (zt5 qe q1)⟩, ⟨q1, (zt16 qe)⟩, qe⟩
def Zt20 (QE Q1 : Prop) : Prop := ((Tt ∧ (Zt6 QE Q1)) ∧ ((Q1 ∧ (Zt17 QE)) ∧ (Tt ∧ (Zt19 QE Q1)) ∧ QE) ∧ QE)
theorem zt20 {QE Q1 : Prop} (qe : QE) (q1 : Q1) : Zt20 QE Q1 := ⟨⟨tr, (zt6 qe q1)⟩, ⟨⟨q1, (zt17 qe)⟩, ⟨tr, (zt19 qe q1)⟩, qe⟩, qe⟩
def Zt21 (QE Q1 : Prop) : Prop := ((Tt ∧ (Zt7 QE Q1)) ∧ ((Q1 ∧ (Zt18 QE)) ∧ ((Tt ∧ (Zt20 QE Q1)) ∧ (Tt ∧ (Zt20 QE Q1)) ∧ QE) ∧ QE) ∧ QE)
theorem zt21 {QE Q1 : Prop} (qe : QE) (q1 : Q1) : Zt21 QE Q1 := ⟨⟨tr, (zt7 qe q1)⟩, ⟨⟨q1, (zt18 qe)⟩, ⟨⟨tr, (zt20 qe q1)⟩, ⟨tr, (zt20 qe q1)⟩, qe⟩, qe⟩, qe⟩
def Zt22 (QE Q1 : Prop) : Prop := ((Tt ∧ (Zt8 QE Q1)) ∧ (Tt ∧ (Zt19 QE Q1)) ∧ QE)
theorem zt22 {QE Q1 : Prop} (qe : QE) (q1 : Q1) : Zt22 QE Q1 := ⟨⟨tr, (zt8 qe q1)⟩, ⟨tr, (zt19 qe q1)⟩, qe⟩
def Zt23 (QE Q1 : Prop) : Prop := ((Tt ∧ (Zt9 QE Q1)) ∧ ((Tt ∧ (Zt20 QE Q1)) ∧ (Tt ∧ (Zt22 QE Q1)) ∧ QE) ∧ QE)
theorem zt23 {QE Q1 : Prop} (qe : QE) (q1 : Q1) : Zt23 QE Q1 := ⟨⟨tr, (zt9 qe q1)⟩, ⟨⟨tr, (zt20 qe q1)⟩, ⟨tr, (zt22 qe q1)⟩, qe⟩, qe⟩
def Zt24 (QE Q1 : Prop) : Prop := ((Tt ∧ (Zt10 QE Q1)) ∧ ((Tt ∧ (Zt21 QE Q1)) ∧ ((Tt ∧ (Zt23 QE Q1)) ∧ (Tt ∧ (Zt23 QE Q1)) ∧ QE) ∧ QE) ∧ QE)
theorem zt24 {QE Q1 : Prop} (qe : QE) (q1 : Q1) : Zt24 QE Q1 := ⟨⟨tr, (zt10 qe q1)⟩, ⟨⟨tr, (zt21 qe q1)⟩, ⟨⟨tr, (zt23 qe q1)⟩, ⟨tr, (zt23 qe q1)⟩, qe⟩, qe⟩, qe⟩
def Zt25 (QE Q1 : Prop) : Prop := ((Tt ∧ (Zt12 QE Q1)) ∧ (Tt ∧ (Zt22 QE Q1)) ∧ QE)
theorem zt25 {QE Q1 : Prop} (qe : QE) (q1 : Q1) : Zt25 QE Q1 := ⟨⟨tr, (zt12 qe q1)⟩, ⟨tr, (zt22 qe q1)⟩, qe⟩
def Zt26 (QE Q1 : Prop) : Prop := ((Tt ∧ (Zt13 QE Q1)) ∧ ((Tt ∧ (Zt23 QE Q1)) ∧ (Tt ∧ (Zt25 QE Q1)) ∧ QE) ∧ QE)
theorem zt26 {QE Q1 : Prop} (qe : QE) (q1 : Q1) : Zt26 QE Q1 := ⟨⟨tr, (zt13 qe q1)⟩, ⟨⟨tr, (zt23 qe q1)⟩, ⟨tr, (zt25 qe q1)⟩, qe⟩, qe⟩
def Zt27 (QE Q1 : Prop) : Prop := ((Tt ∧ (Zt14 QE Q1)) ∧ ((Tt ∧ (Zt24 QE Q1)) ∧ ((Tt ∧ (Zt26 QE Q1)) ∧ (Tt ∧ (Zt26 QE Q1)) ∧ QE) ∧ QE) ∧ QE)
theorem zt27 {QE Q1 : Prop} (qe : QE) (q1 : Q1) : Zt27 QE Q1 := ⟨⟨tr, (zt14 qe q1)⟩, ⟨⟨tr, (zt24 qe q1)⟩, ⟨⟨tr, (zt26 qe q1)⟩, ⟨tr, (zt26 qe q1)⟩, qe⟩, qe⟩, qe⟩
def Zt28 (QE Q0 : Prop) : Prop := ((Q0 ∧ (Zt1 QE)) ∧ (Tt ∧ (Q0 ∧ (Tt ∧ (Tt ∧ (Tt ∧ Tt))))) ∧ QE)
theorem zt28 {QE Q0 : Prop} (qe : QE) (q0 : Q0) : Zt28 QE Q0 := ⟨⟨q0, (zt1 qe)⟩, ⟨tr, ⟨q0, ⟨tr, ⟨tr, ⟨tr, tr⟩⟩⟩⟩⟩, qe⟩
def Zt29 (QE Q0 : Prop) : Prop := ((Q0 ∧ (Zt15 QE)) ∧ ((Tt ∧ (Zt28 QE Q0)) ∧ (Tt ∧ (Zt28 QE Q0)) ∧ QE) ∧ QE)
theorem zt29 {QE Q0 : Prop} (qe : QE) (q0 : Q0) : Zt29 QE Q0 := ⟨⟨q0, (zt15 qe)⟩, ⟨⟨tr, (zt28 qe q0)⟩, ⟨tr, (zt28 qe q0)⟩, qe⟩, qe⟩
def Zt30 (QE Q0 : Prop) : Prop := ((Q0 ∧ (Zt16 QE)) ∧ (Tt ∧ (Q0 ∧ (Tt ∧ (Tt ∧ (Tt ∧ Tt))))) ∧ QE)
theorem zt30 {QE Q0 : Prop} (qe : QE) (q0 : Q0) : Zt30 QE Q0 := ⟨⟨q0, (zt16 qe)⟩, ⟨tr, ⟨q0, ⟨tr, ⟨tr, ⟨tr, tr⟩⟩⟩⟩⟩, qe⟩
def Zt31 (QE Q0 : Prop) : Prop := ((Q0 ∧ (Zt17 QE)) ∧ ((Tt ∧ (Zt28 QE Q0)) ∧ (Tt ∧ (Zt30 QE Q0)) ∧ QE) ∧ QE)
theorem zt31 {QE Q0 : Prop} (qe : QE) (q0 : Q0) : Zt31 QE Q0 := ⟨⟨q0, (zt17 qe)⟩, ⟨⟨tr, (zt28 qe q0)⟩, ⟨tr, (zt30 qe q0)⟩, qe⟩, qe⟩
def Zt32 (QE Q0 : Prop) : Prop := ((Q0 ∧ (Zt18 QE)) ∧ ((Tt ∧ (Zt29 QE Q0)) ∧ ((Tt ∧ (Zt31 QE Q0)) ∧ (Tt ∧ (Zt31 QE Q0)) ∧ QE) ∧ QE) ∧ QE)
theorem zt32 {QE Q0 : Prop} (qe : QE) (q0 : Q0) : Zt32 QE Q0 := ⟨⟨q0, (zt18 qe)⟩, ⟨⟨tr, (zt29 qe q0)⟩, ⟨⟨tr, (zt31 qe q0)⟩, ⟨tr, (zt31 qe q0)⟩, qe⟩, qe⟩, qe⟩
def Zt33 (QE Q0 Q1 : Prop) : Prop := ((Q0 ∧ (Zt19 QE Q1)) ∧ (Q1 ∧ (Zt30 QE Q0)) ∧ QE)
theorem zt33 {QE Q0 Q1 : Prop} (qe : QE) (q0 : Q0) (q1 : Q1) : Zt33 QE Q0 Q1 := ⟨⟨q0, (zt19 qe q1)⟩, ⟨q1, (zt30 qe q0)⟩, qe⟩
def Zt34 (QE Q0 Q1 : Prop) : Prop := ((Q0 ∧ (Zt20 QE Q1)) ∧ ((Q1 ∧ (Zt31 QE Q0)) ∧ (Tt ∧ (Zt33 QE Q0 Q1)) ∧ QE) ∧ QE)
theorem zt34 {QE Q0 Q1 : Prop} (qe : QE) (q0 : Q0) (q1 : Q1) : Zt34 QE Q0 Q1 := ⟨⟨q0, (zt20 qe q1)⟩, ⟨⟨q1, (zt31 qe q0)⟩, ⟨tr, (zt33 qe q0 q1)⟩, qe⟩, qe⟩
def Zt35 (QE Q0 Q1 : Prop) : Prop := ((Q0 ∧ (Zt21 QE Q1)) ∧ ((Q1 ∧ (Zt32 QE Q0)) ∧ ((Tt ∧ (Zt34 QE Q0 Q1)) ∧ (Tt ∧ (Zt34 QE Q0 Q1)) ∧ QE) ∧ QE) ∧ QE)
theorem zt35 {QE Q0 Q1 : Prop} (qe : QE) (q0 : Q0) (q1 : Q1) : Zt35 QE Q0 Q1 := ⟨⟨q0, (zt21 qe q1)⟩, ⟨⟨q1, (zt32 qe q0)⟩, ⟨⟨tr, (zt34 qe q0 q1)⟩, ⟨tr, (zt34 qe q0 q1)⟩, qe⟩, qe⟩, qe⟩
def Zt36 (QE Q0 Q1 : Prop) : Prop := ((Q0 ∧ (Zt22 QE Q1)) ∧ (Tt ∧ (Zt33 QE Q0 Q1)) ∧ QE)
theorem zt36 {QE Q0 Q1 : Prop} (qe : QE) (q0 : Q0) (q1 : Q1) : Zt36 QE Q0 Q1 := ⟨⟨q0, (zt22 qe q1)⟩, ⟨tr, (zt33 qe q0 q1)⟩, qe⟩
def Zt37 (QE Q0 Q1 : Prop) : Prop := ((Q0 ∧ (Zt23 QE Q1)) ∧ ((Tt ∧ (Zt34 QE Q0 Q1)) ∧ (Tt ∧ (Zt36 QE Q0 Q1)) ∧ QE) ∧ QE)
theorem zt37 {QE Q0 Q1 : Prop} (qe : QE) (q0 : Q0) (q1 : Q1) : Zt37 QE Q0 Q1 := ⟨⟨q0, (zt23 qe q1)⟩, ⟨⟨tr, (zt34 qe q0 q1)⟩, ⟨tr, (zt36 qe q0 q1)⟩, qe⟩, qe⟩
def Zt38 (QE Q0 Q1 : Prop) : Prop := ((Q0 ∧ (Zt24 QE Q1)) ∧ ((Tt ∧ (Zt35 QE Q0 Q1)) ∧ ((Tt ∧ (Zt37 QE Q0 Q1)) ∧ (Tt ∧ (Zt37 QE Q0 Q1)) ∧ QE) ∧ QE) ∧ QE)
theorem zt38 {QE Q0 Q1 : Prop} (qe : QE) (q0 : Q0) (q1 : Q1) : Zt38 QE Q0 Q1 := ⟨⟨q0, (zt24 qe q1)⟩, ⟨⟨tr, (zt35 qe q0 q1)⟩, ⟨⟨tr, (zt37 qe q0 q1)⟩, ⟨tr, (zt37 qe q0 q1)⟩, qe⟩, qe⟩, qe⟩
def Zt39 (QE Q0 Q1 : Prop) : Prop := ((Q0 ∧ (Zt25 QE Q1)) ∧ (Tt ∧ (Zt36 QE Q0 Q1)) ∧ QE)
theorem zt39 {QE Q0 Q1 : Prop} (qe : QE) (q0 : Q0) (q1 : Q1) : Zt39 QE Q0 Q1 := ⟨⟨q0, (zt25 qe q1)⟩, ⟨tr, (zt36 qe q0 q1)⟩, qe⟩
def Zt40 (QE Q0 Q1 : Prop) : Prop := ((Q0 ∧ (Zt26 QE Q1)) ∧ ((Tt ∧ (Zt37 QE Q0 Q1)) ∧ (Tt ∧ (Zt39 QE Q0 Q1)) ∧ QE) ∧ QE)
theorem zt40 {QE Q0 Q1 : Prop} (qe : QE) (q0 : Q0) (q1 : Q1) : Zt40 QE Q0 Q1 := ⟨⟨q0, (zt26 qe q1)⟩, ⟨⟨tr, (zt37 qe q0 q1)⟩, ⟨tr, (zt39 qe q0 q1)⟩, qe⟩, qe⟩
def Zt41 (QE Q0 Q1 : Prop) : Prop := ((Q0 ∧ (Zt27 QE Q1)) ∧ ((Tt ∧ (Zt38 QE Q0 Q1)) ∧ ((Tt ∧ (Zt40 QE Q0 Q1)) ∧ (Tt ∧ (Zt40 QE Q0 Q1)) ∧ QE) ∧ QE) ∧ QE)
theorem zt41 {QE Q0 Q1 : Prop} (qe : QE) (q0 : Q0) (q1 : Q1) : Zt41 QE Q0 Q1 := ⟨⟨q0, (zt27 qe q1)⟩, ⟨⟨tr, (zt38 qe q0 q1)⟩, ⟨⟨tr, (zt40 qe q0 q1)⟩, ⟨tr, (zt40 qe q0 q1)⟩, qe⟩, qe⟩, qe⟩
def impl_thin_l1 (K : Nat) (a0 : (List Key)) (a1 : F32) : Nat → Int → (List Key) → Option ((List Key))
  | 0, _, _ => none
  | k + 1, x4, x5 => ite2 ((decide (x4 < (a0.length : Int)))) (chk (0 ≤ x4 ∧ x4 < (a0.length : Int)) (chk (0 ≤ (IntKind.i64.wrap ((x5.length : Int) - (1 : Int))) ∧ (IntKind.i64.wrap ((x5.length : Int) - (1 : Int))) < (x5.length : Int)) (ite2 ((decide ((IntKind.i64.wrap (x4 + (1 : Int))) < (a0.length : Int)))) (chk (0 ≤ (IntKind.i64.wrap (x4 + (1 : Int))) ∧ (IntKind.i64.wrap (x4 + (1 : Int))) < (a0.length : Int)) ((impl_share K ((x5.getD ((IntKind.i64.wrap ((x5.length : Int) - (1 : Int))).toNat) default).At) ((a0.getD x4.toNat default).At) ((a0.getD ((IntKind.i64.wrap (x4 + (1 : Int))).toNat) default).At)).bind fun v11 => (impl_NearTurn K ((x5.getD ((IntKind.i64.wrap ((x5.length : Int) - (1 : Int))).toNat) default).Turn) ((a0.getD ((IntKind.i64.wrap (x4 + (1 : Int))).toNat) default).Turn) v11).bind fun v13 => (impl_ApartTurns K ((a0.getD x4.toNat default).Turn) v13).bind fun v15 => ite2 ((v15.le a1)) (impl_thin_l1 K a0 a1 k (IntKind.i64.wrap (x4 + (1 : Int))) x5) (chk ((x5.length + ([(a0.getD x4.toNat default)]).length) * 24 ≤ 140737488355328) (impl_thin_l1 K a0 a1 k (IntKind.i64.wrap (x4 + (1 : Int))) (x5 ++ ([(a0.getD x4.toNat default)])))))) (chk ((x5.length + ([(a0.getD x4.toNat default)]).length) * 24 ≤ 140737488355328) (impl_thin_l1 K a0 a1 k (IntKind.i64.wrap (x4 + (1 : Int))) (x5 ++ ([(a0.getD x4.toNat default)]))))))) (some x5)

def impl_thin (K : Nat) (a0 : (List Key)) (a1 : F32) : Option ((List Key)) :=
  chk (0 ≤ (0 : Int) ∧ (0 : Int) < (a0.length : Int)) (impl_thin_l1 K a0 a1 K (1 : Int) ([(a0.getD ((0 : Int).toNat) default)]))

theorem ok_impl_thin (K : Nat) (a0 : (List Key)) (a1 : F32) (o : ((List Key))) (h : impl_thin K a0 a1 = some o) : CallOK Tryz.prog 22 [.one (sl 5 cs_Key a0), .one (.flt .f32 a1.bits)] [.one (sl 5 cs_Key o)] := by
  refine callOK_of_AW Tryz.func22 rfl (by kernel_rfl) (Nat.le_of_ble_eq_true (by kernel_rfl)) ?_
  intro w0
  unfold impl_thin at h
  refine AW.seq (AW.rA ⟨[(0, (vc (sl 5 cs_Key a0))), (1, (vc (.flt .f32 a1.bits)))], []⟩ (Tt ∧ Tt) [] [0, 1] [] ⟨tr, tr⟩ (thenQ_normal ?_))
  refine AW.seq ?_
  obtain ⟨c1, h⟩ := chk_some h
  refine AW.rA ⟨[(0, (vc (sl 5 cs_Key a0))), (1, (vc (.flt .f32 a1.bits))), (5, (.v (.one (.lst 1 ([(a0.getD ((0 : Int).toNat) default)]).length 5 (gl cs_Key ([(a0.getD ((0 : Int).toNat) default)]))))))], [(1, (.lst ([(a0.getD ((0 : Int).toNat) default)]).length 5 (gl cs_Key ([(a0.getD ((0 : Int).toNat) default)]))))]⟩ (Tt ∧ (0 ≤ (0 : Int) ∧ (0 : Int) < (a0.length : Int)) ∧ Tt ∧ (([(a0.getD ((0 : Int).toNat) default)]).length = 1 ∧ (((.int .i64 ((a0.getD ((0 : Int).toNat) default).At)) : C) = (.int .i64 ((a0.getD ((0 : Int).toNat) default).At)) ∧ Tt) ∧ (((.flt .f32 (((a0.getD ((0 : Int).toNat) default).Turn).W).bits) : C) = (.flt .f32 (((a0.getD ((0 : Int).toNat) default).Turn).W).bits) ∧ Tt) ∧ (((.flt .f32 (((a0.getD ((0 : Int).toNat) default).Turn).X).bits) : C) = (.flt .f32 (((a0.getD ((0 : Int).toNat) default).Turn).X).bits) ∧ Tt) ∧ (((.flt .f32 (((a0.getD ((0 : Int).toNat) default).Turn).Y).bits) : C) = (.flt .f32 (((a0.getD ((0 : Int).toNat) default).Turn).Y).bits) ∧ Tt) ∧ (((.flt .f32 (((a0.getD ((0 : Int).toNat) default).Turn).Z).bits) : C) = (.flt .f32 (((a0.getD ((0 : Int).toNat) default).Turn).Z).bits) ∧ Tt) ∧ Tt) ∧ Tt ∧ Tt) [.no, .no, .no, .obj 1 ([(a0.getD ((0 : Int).toNat) default)]).length (gl cs_Key ([(a0.getD ((0 : Int).toNat) default)]))] [0, 1, 5] [1] ⟨tr, c1, tr, ⟨rfl, ⟨⟨rfl, tr⟩, ⟨rfl, tr⟩, ⟨rfl, tr⟩, ⟨rfl, tr⟩, ⟨rfl, tr⟩, tr⟩⟩, tr, tr⟩ ?_
  refine thenQ_normal ?_
  refine AW.seq ?_
  refine AW.seq (AW.rA ⟨[(0, (vc (sl 5 cs_Key a0))), (1, (vc (.flt .f32 a1.bits))), (5, (.v (.one (.lst 1 ([(a0.getD ((0 : Int).toNat) default)]).length 5 (gl cs_Key ([(a0.getD ((0 : Int).toNat) default)])))))), (6, (vc (.int .i64 (1 : Int))))], [(1, (.lst ([(a0.getD ((0 : Int).toNat) default)]).length 5 (gl cs_Key ([(a0.getD ((0 : Int).toNat) default)]))))]⟩ (Tt ∧ Tt) [] [0, 1, 5, 6] [1] ⟨tr, tr⟩ (thenQ_normal ?_))
  refine AW.block ?_
  refine AW.loopQ (σ := Nat × Int × (List Key)) (fun p => ⟨[(0, (vc (sl 5 cs_Key a0))), (1, (vc (.flt .f32 a1.bits))), (5, (.v (.one (.lst 1 p.2.2.length 5 (gl cs_Key p.2.2))))), (6, (vc (.int .i64 p.2.1)))], [(1, (.lst p.2.2.length 5 (gl cs_Key p.2.2)))]⟩) (fun p => impl_thin_l1 K a0 a1 p.1 p.2.1 p.2.2 = some o) (fun p => p.1) (K, (1 : Int), [(a0.getD ((0 : Int).toNat) default)]) h ?_
  clear h
  rintro ⟨k, x4, x5⟩ h
  replace h : impl_thin_l1 K a0 a1 k x4 x5 = some o := h
  show AW _ _ (⟨[(0, (vc (sl 5 cs_Key a0))), (1, (vc (.flt .f32 a1.bits))), (5, (.v (.one (.lst 1 x5.length 5 (gl cs_Key x5))))), (6, (vc (.int .i64 x4)))], [(1, (.lst x5.length 5 (gl cs_Key x5)))]⟩ : St) _
  obtain _ | k := k
  · rw [impl_thin_l1] at h; cases h
  rw [impl_thin_l1] at h
  refine AW.seq ?_
  refine AW.seq (AW.rA ⟨[(0, (vc (sl 5 cs_Key a0))), (1, (vc (.flt .f32 a1.bits))), (5, (.v (.one (.lst 1 x5.length 5 (gl cs_Key x5))))), (6, (vc (.int .i64 x4))), (17, (vc (.bool (decide (x4 < (a0.length : Int))))))], [(1, (.lst x5.length 5 (gl cs_Key x5)))]⟩ (T4 Tt) [] [0, 1, 5, 6, 17] [1] ⟨tr, tr, tr, tr, tr⟩ (thenQ_normal ?_))
  rcases ite2_cases h with ⟨b6, h⟩ | ⟨b6, h⟩
  · refine AW.cond_t rfl b6 ?_
    refine AW.skip ?_
    refine thenQ_normal ?_
    refine AW.seq ?_
    refine AW.block ?_
    refine AW.seq ?_
    obtain ⟨c7, h⟩ := chk_some h
    obtain ⟨c8, h⟩ := chk_some h
    refine AW.firstA (by kernel_rfl) [0, 1, 4, 5] [.no, .no, .no, .no, .no, .no, .no, .no, .no, .no, .box 16, .box 17] [0, 1, 5, 6, 7, 8] [1, 16, 17] (s' := ⟨[(0, (vc (sl 5 cs_Key a0))), (1, (vc (.flt .f32 a1.bits))), (5, (.v (.one (.lst 1 x5.length 5 (gl cs_Key x5))))), (6, (vc (.int .i64 x4))), (7, (vp 16 0)), (8, (vp 17 0))], [(1, (.lst x5.length 5 (gl cs_Key x5))), (16, (.box [(.c (.int .i64 ((a0.getD x4.toNat default).At))), (.c (.flt .f32 (((a0.getD x4.toNat default).Turn).W).bits)), (.c (.flt .f32 (((a0.getD x4.toNat default).Turn).X).bits)), (.c (.flt .f32 (((a0.getD x4.toNat default).Turn).Y).bits)), (.c (.flt .f32 (((a0.getD x4.toNat default).Turn).Z).bits))])), (17, (.box [(.c (.int .i64 ((x5.getD ((IntKind.i64.wrap ((x5.length : Int) - (1 : Int))).toNat) default).At))), (.c (.flt .f32 (((x5.getD ((IntKind.i64.wrap ((x5.length : Int) - (1 : Int))).toNat) default).Turn).W).bits)), (.c (.flt .f32 (((x5.getD ((IntKind.i64.wrap ((x5.length : Int) - (1 : Int))).toNat) default).Turn).X).bits)), (.c (.flt .f32 (((x5.getD ((IntKind.i64.wrap ((x5.length : Int) - (1 : Int))).toNat) default).Turn).Y).bits)), (.c (.flt .f32 (((x5.getD ((IntKind.i64.wrap ((x5.length : Int) - (1 : Int))).toNat) default).Turn).Z).bits))]))]⟩) (ob := (Zt41 ((⟨[(0, (vc (sl 5 cs_Key a0))), (1, (vc (.flt .f32 a1.bits))), (5, (.v (.one (.lst 1 x5.length 5 (gl cs_Key x5))))), (6, (vc (.int .i64 x4))), (7, (vp 16 0)), (8, (vp 17 0))], [(1, (.lst x5.length 5 (gl cs_Key x5))), (16, (.box [(.c (.int .i64 ((a0.getD x4.toNat default).At))), (.c (.flt .f32 (((a0.getD x4.toNat default).Turn).W).bits)), (.c (.flt .f32 (((a0.getD x4.toNat default).Turn).X).bits)), (.c (.flt .f32 (((a0.getD x4.toNat default).Turn).Y).bits)), (.c (.flt .f32 (((a0.getD x4.toNat default).Turn).Z).bits))])), (17, (.box [(.c (.int .i64 ((x5.getD ((IntKind.i64.wrap ((x5.length : Int) - (1 : Int))).toNat) default).At))), (.c (.flt .f32 (((x5.getD ((IntKind.i64.wrap ((x5.length : Int) - (1 : Int))).toNat) default).Turn).W).bits)), (.c (.flt .f32 (((x5.getD ((IntKind.i64.wrap ((x5.length : Int) - (1 : Int))).toNat) default).Turn).X).bits)), (.c (.flt .f32 (((x5.getD ((IntKind.i64.wrap ((x5.length : Int) - (1 : Int))).toNat) default).Turn).Y).bits)), (.c (.flt .f32 (((x5.getD ((IntKind.i64.wrap ((x5.length : Int) - (1 : Int))).toNat) default).Turn).Z).bits))]))]⟩ : St) = ⟨[(0, (vc (sl 5 cs_Key a0))), (1, (vc (.flt .f32 a1.bits))), (5, (.v (.one (.lst 1 x5.length 5 (gl cs_Key x5))))), (6, (vc (.int .i64 x4))), (7, (vp 16 0)), (8, (vp 17 0))], [(1, (.lst x5.length 5 (gl cs_Key x5))), (16, (.box [(.c (.int .i64 ((a0.getD x4.toNat default).At))), (.c (.flt .f32 (((a0.getD x4.toNat default).Turn).W).bits)), (.c (.flt .f32 (((a0.getD x4.toNat default).Turn).X).bits)), (.c (.flt .f32 (((a0.getD x4.toNat default).Turn).Y).bits)), (.c (.flt .f32 (((a0.getD x4.toNat default).Turn).Z).bits))])), (17, (.box [(.c (.int .i64 ((x5.getD ((IntKind.i64.wrap ((x5.length : Int) - (1 : Int))).toNat) default).At))), (.c (.flt .f32 (((x5.getD ((IntKind.i64.wrap ((x5.length : Int) - (1 : Int))).toNat) default).Turn).W).bits)), (.c (.flt .f32 (((x5.getD ((IntKind.i64.wrap ((x5.length : Int) - (1 : Int))).toNat) default).Turn).X).bits)), (.c (.flt .f32 (((x5.getD ((IntKind.i64.wrap ((x5.length : Int) - (1 : Int))).toNat) default).Turn).Y).bits)), (.c (.flt .f32 (((x5.getD ((IntKind.i64.wrap ((x5.length : Int) - (1 : Int))).toNat) default).Turn).Z).bits))]))]⟩) ((0 ≤ x4 ∧ x4 < (a0.length : Int))) ((0 ≤ (IntKind.i64.wrap ((x5.length : Int) - (1 : Int))) ∧ (IntKind.i64.wrap ((x5.length : Int) - (1 : Int))) < (x5.length : Int))))) (by kernel_rfl) (zt41 rfl (c7) (c8)) ?_
    refine thenQ_normal ?_
    refine AW.seq ?_
    refine AW.seq (AW.rA ⟨[(0, (vc (sl 5 cs_Key a0))), (1, (vc (.flt .f32 a1.bits))), (5, (.v (.one (.lst 1 x5.length 5 (gl cs_Key x5))))), (6, (vc (.int .i64 x4))), (7, (vp 16 0)), (8, (vp 17 0)), (34, (vc (.bool (decide ((IntKind.i64.wrap (x4 + (1 : Int))) < (a0.length : Int))))))], [(1, (.lst x5.length 5 (gl cs_Key x5))), (16, (.box [(.c (.int .i64 ((a0.getD x4.toNat default).At))), (.c (.flt .f32 (((a0.getD x4.toNat default).Turn).W).bits)), (.c (.flt .f32 (((a0.getD x4.toNat default).Turn).X).bits)), (.c (.flt .f32 (((a0.getD x4.toNat default).Turn).Y).bits)), (.c (.flt .f32 (((a0.getD x4.toNat default).Turn).Z).bits))])), (17, (.box [(.c (.int .i64 ((x5.getD ((IntKind.i64.wrap ((x5.length : Int) - (1 : Int))).toNat) default).At))), (.c (.flt .f32 (((x5.getD ((IntKind.i64.wrap ((x5.length : Int) - (1 : Int))).toNat) default).Turn).W).bits)), (.c (.flt .f32 (((x5.getD ((IntKind.i64.wrap ((x5.length : Int) - (1 : Int))).toNat) default).Turn).X).bits)), (.c (.flt .f32 (((x5.getD ((IntKind.i64.wrap ((x5.length : Int) - (1 : Int))).toNat) default).Turn).Y).bits)), (.c (.flt .f32 (((x5.getD ((IntKind.i64.wrap ((x5.length : Int) - (1 : Int))).toNat) default).Turn).Z).bits))]))]⟩ (Tt ∧ T4 Tt) [] [0, 1, 5, 6, 7, 8, 34] [1, 16, 17] ⟨tr, tr, tr, tr, tr, tr⟩ (thenQ_normal ?_))
    rcases ite2_cases h with ⟨b9, h⟩ | ⟨b9, h⟩
    · refine AW.cond_t rfl b9 ?_
      refine AW.seq ?_
      obtain ⟨c10, h⟩ := chk_some h
      refine AW.rA ⟨[(0, (vc (sl 5 cs_Key a0))), (1, (vc (.flt .f32 a1.bits))), (5, (.v (.one (.lst 1 x5.length 5 (gl cs_Key x5))))), (6, (vc (.int .i64 x4))), (7, (vp 16 0)), (8, (vp 17 0)), (9, (vp 18 0))], [(1, (.lst x5.length 5 (gl cs_Key x5))), (16, (.box [(.c (.int .i64 ((a0.getD x4.toNat default).At))), (.c (.flt .f32 (((a0.getD x4.toNat default).Turn).W).bits)), (.c (.flt .f32 (((a0.getD x4.toNat default).Turn).X).bits)), (.c (.flt .f32 (((a0.getD x4.toNat default).Turn).Y).bits)), (.c (.flt .f32 (((a0.getD x4.toNat default).Turn).Z).bits))])), (17, (.box [(.c (.int .i64 ((x5.getD ((IntKind.i64.wrap ((x5.length : Int) - (1 : Int))).toNat) default).At))), (.c (.flt .f32 (((x5.getD ((IntKind.i64.wrap ((x5.length : Int) - (1 : Int))).toNat) default).Turn).W).bits)), (.c (.flt .f32 (((x5.getD ((IntKind.i64.wrap ((x5.length : Int) - (1 : Int))).toNat) default).Turn).X).bits)), (.c (.flt .f32 (((x5.getD ((IntKind.i64.wrap ((x5.length : Int) - (1 : Int))).toNat) default).Turn).Y).bits)), (.c (.flt .f32 (((x5.getD ((IntKind.i64.wrap ((x5.length : Int) - (1 : Int))).toNat) default).Turn).Z).bits))])), (18, (.box [(.c (.int .i64 ((a0.getD ((IntKind.i64.wrap (x4 + (1 : Int))).toNat) default).At))), (.c (.flt .f32 (((a0.getD ((IntKind.i64.wrap (x4 + (1 : Int))).toNat) default).Turn).W).bits)), (.c (.flt .f32 (((a0.getD ((IntKind.i64.wrap (x4 + (1 : Int))).toNat) default).Turn).X).bits)), (.c (.flt .f32 (((a0.getD ((IntKind.i64.wrap (x4 + (1 : Int))).toNat) default).Turn).Y).bits)), (.c (.flt .f32 (((a0.getD ((IntKind.i64.wrap (x4 + (1 : Int))).toNat) default).Turn).Z).bits))]))]⟩ (Tt ∧ T2 ((0 ≤ (IntKind.i64.wrap (x4 + (1 : Int))) ∧ (IntKind.i64.wrap (x4 + (1 : Int))) < (a0.length : Int)) ∧ Tt ∧ T2 Tt)) [.no, .no, .no, .no, .no, .box 18] [0, 1, 5, 6, 7, 8, 9] [1, 16, 17, 18] ⟨tr, tr, tr, c10, tr, tr, tr, tr⟩ ?_
      refine thenQ_normal ?_
      refine AW.seq ?_
      obtain ⟨v11, e12, h⟩ := bind_some h
      obtain ⟨v13, e14, h⟩ := bind_some h
      obtain ⟨v15, e16, h⟩ := bind_some h
      refine AW.dA ⟨[(0, (vc (sl 5 cs_Key a0))), (1, (vc (.flt .f32 a1.bits))), (5, (.v (.one (.lst 1 x5.length 5 (gl cs_Key x5))))), (6, (vc (.int .i64 x4))), (7, (vp 16 0)), (56, (vc (.bool (v15.le a1))))], [(1, (.lst x5.length 5 (gl cs_Key x5))), (16, (.box [(.c (.int .i64 ((a0.getD x4.toNat default).At))), (.c (.flt .f32 (((a0.getD x4.toNat default).Turn).W).bits)), (.c (.flt .f32 (((a0.getD x4.toNat default).Turn).X).bits)), (.c (.flt .f32 (((a0.getD x4.toNat default).Turn).Y).bits)), (.c (.flt .f32 (((a0.getD x4.toNat default).Turn).Z).bits))]))]⟩ ((T4 (T4 (T4 ((((((.int .i64 ((x5.getD ((IntKind.i64.wrap ((x5.length : Int) - (1 : Int))).toNat) default).At)) : C) = (.int .i64 ((x5.getD ((IntKind.i64.wrap ((x5.length : Int) - (1 : Int))).toNat) default).At))) ∧ (Eqc (.int .i64 ((a0.getD x4.toNat default).At))) ∧ (((.int .i64 ((a0.getD ((IntKind.i64.wrap (x4 + (1 : Int))).toNat) default).At)) : C) = (.int .i64 ((a0.getD ((IntKind.i64.wrap (x4 + (1 : Int))).toNat) default).At))) ∧ Tt) ∧ CallOK Tryz.prog 52 [.one (.int .i64 ((x5.getD ((IntKind.i64.wrap ((x5.length : Int) - (1 : Int))).toNat) default).At)), .one (.int .i64 ((a0.getD x4.toNat default).At)), .one (.int .i64 ((a0.getD ((IntKind.i64.wrap (x4 + (1 : Int))).toNat) default).At))] [.one (.flt .f32 v11.bits)]) ∧ ((((((.flt .f32 (((x5.getD ((IntKind.i64.wrap ((x5.length : Int) - (1 : Int))).toNat) default).Turn).W).bits) : C) = (.flt .f32 (((x5.getD ((IntKind.i64.wrap ((x5.length : Int) - (1 : Int))).toNat) default).Turn).W).bits)) ∧ (((.flt .f32 (((x5.getD ((IntKind.i64.wrap ((x5.length : Int) - (1 : Int))).toNat) default).Turn).X).bits) : C) = (.flt .f32 (((x5.getD ((IntKind.i64.wrap ((x5.length : Int) - (1 : Int))).toNat) default).Turn).X).bits)) ∧ (((.flt .f32 (((x5.getD ((IntKind.i64.wrap ((x5.length : Int) - (1 : Int))).toNat) default).Turn).Y).bits) : C) = (.flt .f32 (((x5.getD ((IntKind.i64.wrap ((x5.length : Int) - (1 : Int))).toNat) default).Turn).Y).bits)) ∧ (((.flt .f32 (((x5.getD ((IntKind.i64.wrap ((x5.length : Int) - (1 : Int))).toNat) default).Turn).Z).bits) : C) = (.flt .f32 (((x5.getD ((IntKind.i64.wrap ((x5.length : Int) - (1 : Int))).toNat) default).Turn).Z).bits)) ∧ Tt) ∧ ((((.flt .f32 (((a0.getD ((IntKind.i64.wrap (x4 + (1 : Int))).toNat) default).Turn).W).bits) : C) = (.flt .f32 (((a0.getD ((IntKind.i64.wrap (x4 + (1 : Int))).toNat) default).Turn).W).bits)) ∧ (((.flt .f32 (((a0.getD ((IntKind.i64.wrap (x4 + (1 : Int))).toNat) default).Turn).X).bits) : C) = (.flt .f32 (((a0.getD ((IntKind.i64.wrap (x4 + (1 : Int))).toNat) default).Turn).X).bits)) ∧ (((.flt .f32 (((a0.getD ((IntKind.i64.wrap (x4 + (1 : Int))).toNat) default).Turn).Y).bits) : C) = (.flt .f32 (((a0.getD ((IntKind.i64.wrap (x4 + (1 : Int))).toNat) default).Turn).Y).bits)) ∧ (((.flt .f32 (((a0.getD ((IntKind.i64.wrap (x4 + (1 : Int))).toNat) default).Turn).Z).bits) : C) = (.flt .f32 (((a0.getD ((IntKind.i64.wrap (x4 + (1 : Int))).toNat) default).Turn).Z).bits)) ∧ Tt) ∧ (Eqc (.flt .f32 v11.bits)) ∧ Tt) ∧ CallOK Tryz.prog 51 [.agg (cs_Turn ((x5.getD ((IntKind.i64.wrap ((x5.length : Int) - (1 : Int))).toNat) default).Turn)), .agg (cs_Turn ((a0.getD ((IntKind.i64.wrap (x4 + (1 : Int))).toNat) default).Turn)), .one (.flt .f32 v11.bits)] [.agg (cs_Turn v13)]) ∧ ((((Eqc (.flt .f32 (((a0.getD x4.toNat default).Turn).W).bits)) ∧ (Eqc (.flt .f32 (((a0.getD x4.toNat default).Turn).X).bits)) ∧ (Eqc (.flt .f32 (((a0.getD x4.toNat default).Turn).Y).bits)) ∧ (Eqc (.flt .f32 (((a0.getD x4.toNat default).Turn).Z).bits)) ∧ Tt) ∧ ((Eqc (.flt .f32 v13.W.bits)) ∧ (Eqc (.flt .f32 v13.X.bits)) ∧ (Eqc (.flt .f32 v13.Y.bits)) ∧ (Eqc (.flt .f32 v13.Z.bits)) ∧ Tt) ∧ Tt) ∧ CallOK Tryz.prog 50 [.agg (cs_Turn ((a0.getD x4.toNat default).Turn)), .agg (cs_Turn v13)] [.one (.flt .f32 v15.bits)]) ∧ T2 Tt)))) ∧ (Tt)) 17 [.no, .no, .no, .no, .no, .no, .no, .no, .no, .no, .no, .no, .call [.one (.int .i64 ((x5.getD ((IntKind.i64.wrap ((x5.length : Int) - (1 : Int))).toNat) default).At)), .one (.int .i64 ((a0.getD x4.toNat default).At)), .one (.int .i64 ((a0.getD ((IntKind.i64.wrap (x4 + (1 : Int))).toNat) default).At))] [.one (.flt .f32 v11.bits)] [[.view]], .call [.agg (cs_Turn ((x5.getD ((IntKind.i64.wrap ((x5.length : Int) - (1 : Int))).toNat) default).Turn)), .agg (cs_Turn ((a0.getD ((IntKind.i64.wrap (x4 + (1 : Int))).toNat) default).Turn)), .one (.flt .f32 v11.bits)] [.agg (cs_Turn v13)] [[.view, .view, .view, .view]], .call [.agg (cs_Turn ((a0.getD x4.toNat default).Turn)), .agg (cs_Turn v13)] [.one (.flt .f32 v15.bits)] [[.view]]] [0, 1, 5, 6, 7, 56] [1, 16] ⟨⟨tr, tr, tr, tr, tr, tr, tr, tr, tr, tr, tr, tr, ⟨⟨rfl, rfl, rfl, tr⟩, ok_impl_share K ((x5.getD ((IntKind.i64.wrap ((x5.length : Int) - (1 : Int))).toNat) default).At) ((a0.getD x4.toNat default).At) ((a0.getD ((IntKind.i64.wrap (x4 + (1 : Int))).toNat) default).At) v11 e12⟩, ⟨⟨⟨rfl, rfl, rfl, rfl, tr⟩, ⟨rfl, rfl, rfl, rfl, tr⟩, rfl, tr⟩, ok_impl_NearTurn K ((x5.getD ((IntKind.i64.wrap ((x5.length : Int) - (1 : Int))).toNat) default).Turn) ((a0.getD ((IntKind.i64.wrap (x4 + (1 : Int))).toNat) default).Turn) v11 v13 e14⟩, ⟨⟨⟨rfl, rfl, rfl, rfl, tr⟩, ⟨rfl, rfl, rfl, rfl, tr⟩, tr⟩, ok_impl_ApartTurns K ((a0.getD x4.toNat default).Turn) v13 v15 e16⟩, tr, tr, tr⟩, tr⟩ ?_
      refine thenQ_normal ?_
      rcases ite2_cases h with ⟨b17, h⟩ | ⟨b17, h⟩
      · refine AW.cond_t rfl b17 ?_
        refine AW.exit ?_
        refine thenQ_exit ?_
        refine blockQ_exit ?_
        refine thenQ_normal ?_
        refine AW.rA ⟨[(0, (vc (sl 5 cs_Key a0))), (1, (vc (.flt .f32 a1.bits))), (5, (.v (.one (.lst 1 x5.length 5 (gl cs_Key x5))))), (6, (vc (.int .i64 (IntKind.i64.wrap (x4 + (1 : Int))))))], [(1, (.lst x5.length 5 (gl cs_Key x5)))]⟩ (Tt ∧ T2 Tt) [] [0, 1, 5, 6] [1] ⟨tr, tr, tr, tr⟩ ?_
        exact loopQ_normal (k, (IntKind.i64.wrap (x4 + (1 : Int))), x5) h (Nat.lt_succ_self k) (Sub.keep [0, 1, 5, 6] [1] (by kernel_rfl) (by kernel_rfl))
      · refine AW.cond_f rfl b17 ?_
        refine AW.skip ?_
        refine thenQ_normal ?_
        obtain ⟨c18, h⟩ := chk_some h
        refine AW.rA ⟨[(0, (vc (sl 5 cs_Key a0))), (1, (vc (.flt .f32 a1.bits))), (5, (.v (.one (.lst 20 (x5 ++ ([(a0.getD x4.toNat default)])).length 5 (gl cs_Key (x5 ++ ([(a0.getD x4.toNat default)]))))))), (6, (vc (.int .i64 x4)))], [(20, (.lst (x5 ++ ([(a0.getD x4.toNat default)])).length 5 (gl cs_Key (x5 ++ ([(a0.getD x4.toNat default)])))))]⟩ (T2 ((([(a0.getD x4.toNat default)]).length = 1 ∧ (((.int .i64 ((a0.getD x4.toNat default).At)) : C) = (.int .i64 ((a0.getD x4.toNat default).At)) ∧ Tt) ∧ (((.flt .f32 (((a0.getD x4.toNat default).Turn).W).bits) : C) = (.flt .f32 (((a0.getD x4.toNat default).Turn).W).bits) ∧ Tt) ∧ (((.flt .f32 (((a0.getD x4.toNat default).Turn).X).bits) : C) = (.flt .f32 (((a0.getD x4.toNat default).Turn).X).bits) ∧ Tt) ∧ (((.flt .f32 (((a0.getD x4.toNat default).Turn).Y).bits) : C) = (.flt .f32 (((a0.getD x4.toNat default).Turn).Y).bits) ∧ Tt) ∧ (((.flt .f32 (((a0.getD x4.toNat default).Turn).Z).bits) : C) = (.flt .f32 (((a0.getD x4.toNat default).Turn).Z).bits) ∧ Tt) ∧ Tt) ∧ ((x5 ++ ([(a0.getD x4.toNat default)])).length = x5.length + ([(a0.getD x4.toNat default)]).length ∧ AppOb (x5.length) (([(a0.getD x4.toNat default)]).length) 5 (gl cs_Key x5) (gl cs_Key ([(a0.getD x4.toNat default)])) (gl cs_Key (x5 ++ ([(a0.getD x4.toNat default)]))) ∧ (∀ i j, i < ([(a0.getD x4.toNat default)]).length → j < 5 → scalarC (gl cs_Key ([(a0.getD x4.toNat default)]) i j)) ∧ (x5.length + ([(a0.getD x4.toNat default)]).length) * 24 ≤ 140737488355328) ∧ Tt ∧ Tt)) [.no, .no, .obj 19 ([(a0.getD x4.toNat default)]).length (gl cs_Key ([(a0.getD x4.toNat default)])), .objK 20 (x5 ++ ([(a0.getD x4.toNat default)])).length (gl cs_Key (x5 ++ ([(a0.getD x4.toNat default)])))] [0, 1, 5, 6] [20] ⟨tr, tr, ⟨rfl, ⟨⟨rfl, tr⟩, ⟨rfl, tr⟩, ⟨rfl, tr⟩, ⟨rfl, tr⟩, ⟨rfl, tr⟩, tr⟩⟩, ⟨List.length_append, gl_append, gl_scalar sc_Key _, c18⟩, tr, tr⟩ ?_
        refine blockQ_normal ?_
        refine thenQ_normal ?_
        refine AW.rA ⟨[(0, (vc (sl 5 cs_Key a0))), (1, (vc (.flt .f32 a1.bits))), (5, (.v (.one (.lst 20 (x5 ++ ([(a0.getD x4.toNat default)])).length 5 (gl cs_Key (x5 ++ ([(a0.getD x4.toNat default)]))))))), (6, (vc (.int .i64 (IntKind.i64.wrap (x4 + (1 : Int))))))], [(20, (.lst (x5 ++ ([(a0.getD x4.toNat default)])).length 5 (gl cs_Key (x5 ++ ([(a0.getD x4.toNat default)])))))]⟩ (Tt ∧ T2 Tt) [] [0, 1, 5, 6] [20] ⟨tr, tr, tr, tr⟩ ?_
        exact loopQ_normal (k, (IntKind.i64.wrap (x4 + (1 : Int))), (x5 ++ ([(a0.getD x4.toNat default)]))) h (Nat.lt_succ_self k) (Sub.trans (Sub.swap 1 20 _ (by kernel_rfl) (by kernel_rfl)) (Sub.keep [0, 1, 5, 6] [1] (by kernel_rfl) (by kernel_rfl)))
    · refine AW.cond_f rfl b9 ?_
      refine AW.skip ?_
      refine thenQ_normal ?_
      obtain ⟨c19, h⟩ := chk_some h
      refine AW.rA ⟨[(0, (vc (sl 5 cs_Key a0))), (1, (vc (.flt .f32 a1.bits))), (5, (.v (.one (.lst 22 (x5 ++ ([(a0.getD x4.toNat default)])).length 5 (gl cs_Key (x5 ++ ([(a0.getD x4.toNat default)]))))))), (6, (vc (.int .i64 x4)))], [(22, (.lst (x5 ++ ([(a0.getD x4.toNat default)])).length 5 (gl cs_Key (x5 ++ ([(a0.getD x4.toNat default)])))))]⟩ (T2 ((([(a0.getD x4.toNat default)]).length = 1 ∧ (((.int .i64 ((a0.getD x4.toNat default).At)) : C) = (.int .i64 ((a0.getD x4.toNat default).At)) ∧ Tt) ∧ (((.flt .f32 (((a0.getD x4.toNat default).Turn).W).bits) : C) = (.flt .f32 (((a0.getD x4.toNat default).Turn).W).bits) ∧ Tt) ∧ (((.flt .f32 (((a0.getD x4.toNat default).Turn).X).bits) : C) = (.flt .f32 (((a0.getD x4.toNat default).Turn).X).bits) ∧ Tt) ∧ (((.flt .f32 (((a0.getD x4.toNat default).Turn).Y).bits) : C) = (.flt .f32 (((a0.getD x4.toNat default).Turn).Y).bits) ∧ Tt) ∧ (((.flt .f32 (((a0.getD x4.toNat default).Turn).Z).bits) : C) = (.flt .f32 (((a0.getD x4.toNat default).Turn).Z).bits) ∧ Tt) ∧ Tt) ∧ ((x5 ++ ([(a0.getD x4.toNat default)])).length = x5.length + ([(a0.getD x4.toNat default)]).length ∧ AppOb (x5.length) (([(a0.getD x4.toNat default)]).length) 5 (gl cs_Key x5) (gl cs_Key ([(a0.getD x4.toNat default)])) (gl cs_Key (x5 ++ ([(a0.getD x4.toNat default)]))) ∧ (∀ i j, i < ([(a0.getD x4.toNat default)]).length → j < 5 → scalarC (gl cs_Key ([(a0.getD x4.toNat default)]) i j)) ∧ (x5.length + ([(a0.getD x4.toNat default)]).length) * 24 ≤ 140737488355328) ∧ Tt ∧ Tt)) [.no, .no, .obj 21 ([(a0.getD x4.toNat default)]).length (gl cs_Key ([(a0.getD x4.toNat default)])), .objK 22 (x5 ++ ([(a0.getD x4.toNat default)])).length (gl cs_Key (x5 ++ ([(a0.getD x4.toNat default)])))] [0, 1, 5, 6] [22] ⟨tr, tr, ⟨rfl, ⟨⟨rfl, tr⟩, ⟨rfl, tr⟩, ⟨rfl, tr⟩, ⟨rfl, tr⟩, ⟨rfl, tr⟩, tr⟩⟩, ⟨List.length_append, gl_append, gl_scalar sc_Key _, c19⟩, tr, tr⟩ ?_
      refine blockQ_normal ?_
      refine thenQ_normal ?_
      refine AW.rA ⟨[(0, (vc (sl 5 cs_Key a0))), (1, (vc (.flt .f32 a1.bits))), (5, (.v (.one (.lst 22 (x5 ++ ([(a0.getD x4.toNat default)])).length 5 (gl cs_Key (x5 ++ ([(a0.getD x4.toNat default)]))))))), (6, (vc (.int .i64 (IntKind.i64.wrap (x4 + (1 : Int))))))], [(22, (.lst (x5 ++ ([(a0.getD x4.toNat default)])).length 5 (gl cs_Key (x5 ++ ([(a0.getD x4.toNat default)])))))]⟩ (Tt ∧ T2 Tt) [] [0, 1, 5, 6] [22] ⟨tr, tr, tr, tr⟩ ?_
      exact loopQ_normal (k, (IntKind.i64.wrap (x4 + (1 : Int))), (x5 ++ ([(a0.getD x4.toNat default)]))) h (Nat.lt_succ_self k) (Sub.trans (Sub.swap 1 22 _ (by kernel_rfl) (by kernel_rfl)) (Sub.keep [0, 1, 5, 6] [1] (by kernel_rfl) (by kernel_rfl)))
  · refine AW.cond_f rfl b6 ?_
    refine AW.exit ?_
    refine thenQ_exit ?_
    refine loopQ_exit ?_
    refine blockQ_exit ?_
    refine thenQ_normal ?_
    refine AW.seq (AW.rA ⟨[(4, (.v (.one (.lst 1 x5.length 5 (gl cs_Key x5)))))], [(1, (.lst x5.length 5 (gl cs_Key x5)))]⟩ (T2 Tt) [] [4] [1] ⟨tr, tr, tr⟩ (thenQ_normal ?_))
    refine AW.ret ?_
    replace h := some_eq h
    subst h
    exact ⟨.inr rfl, retOK_of [(.one (.lst 1 x5.length 5 (gl cs_Key x5)))] (by kernel_rfl) ⟨rfl, tr⟩ (of_decide_eq_true (by kernel_rfl))⟩

/-! impl.ThinClip$1 -/
def impl_ThinClip_1 (K : Nat) (a0 : Int) (a1 : (List Key)) (a2 : F32) : Option ((List Key)) :=
  (impl_thin K a1 a2).bind fun v1 => some v1

theorem ok_impl_ThinClip_1 (K : Nat) (a0 : Int) (a1 : (List Key)) (a2 : F32) (o : ((List Key))) (h : impl_ThinClip_1 K a0 a1 a2 = some o) : CallOK Tryz.prog 21 [.one (.int .i64 a0), .one (sl 5 cs_Key a1), .one (pl 1 (csF .f32) a2)] [.one (sl 5 cs_Key o)] := by
  refine callOK_of_AW Tryz.func21 rfl (by kernel_rfl) (Nat.le_of_ble_eq_true (by kernel_rfl)) ?_
  intro w0
  unfold impl_ThinClip_1 at h
  refine AW.seq (AW.rA ⟨[(1, (vc (sl 5 cs_Key a1))), (2, (vc (pl 1 (csF .f32) a2)))], []⟩ (Tt ∧ Tt) [] [1, 2] [] ⟨tr, tr⟩ (thenQ_normal ?_))
  refine AW.seq ?_
  obtain ⟨v1, e2, h⟩ := bind_some h
  refine AW.rA ⟨[(5, (.v (.one (.lst 1 v1.length 5 (gl cs_Key v1)))))], [(1, (.lst v1.length 5 (gl cs_Key v1)))]⟩ (T2 ((((Eqc (sl 5 cs_Key a1)) ∧ (Eqc (.flt .f32 a2.bits)) ∧ Tt) ∧ CallOK Tryz.prog 22 [.one (sl 5 cs_Key a1), .one (.flt .f32 a2.bits)] [.one (sl 5 cs_Key v1)]) ∧ Tt ∧ Tt)) [.no, .no, .call [.one (sl 5 cs_Key a1), .one (.flt .f32 a2.bits)] [.one (sl 5 cs_Key v1)] [[.lst 1]]] [5] [1] ⟨tr, tr, ⟨⟨rfl, rfl, tr⟩, ok_impl_thin K a1 a2 v1 e2⟩, tr, tr⟩ ?_
  refine thenQ_normal ?_
  refine AW.ret ?_
  replace h := some_eq h
  subst h
  exact ⟨.inr rfl, retOK_of [(.one (.lst 1 v1.length 5 (gl cs_Key v1)))] (by kernel_rfl) ⟨rfl, tr⟩ (of_decide_eq_true (by kernel_rfl))⟩

end
end Go.Fw
