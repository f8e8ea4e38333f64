/- Functions of the program: what each computes, and that it computes just that. -/
import Derived.Test.YtbfcahbecedaiadFwTy
import Derived.Test.YtbfcahbecedaiadFwH
import Derived.Test.YtbfcahbecedaiadFwV
import Derived.Test.YtbfcahbecedaiadFwGF2
import Derived.Test.YtbfcahbecedaiadFwHF
import Derived.Test.YtbfcahbecedaiadFwMK
import Derived.Test.YtbfcahbecedaiadFwUB
import Derived.Test.YtbfcahbecedaiadProg
import Derived.KernelRfl
namespace Go.Fw
open Go Go.Proofs
noncomputable section
set_option maxRecDepth 10000

/-! (impl.track[impl.RootKey]).sample -/
def Zt45 (QE : Prop) : Prop := ((Tt ∧ (Tt ∧ (Tt ∧ (Tt ∧ Tt)))) ∧ (Tt ∧ (Tt ∧ (Tt ∧ (Tt ∧ Tt)))) ∧ QE)
theorem zt45 {QE : Prop} (qe : QE) : Zt45 QE := ⟨⟨tr, ⟨tr, ⟨tr, ⟨tr, tr⟩⟩⟩⟩, ⟨tr, ⟨tr, ⟨tr, ⟨tr, tr⟩⟩⟩⟩, qe⟩
def impl_track_impl_RootKey_sample_l1 (K : Nat) (a1 : (List RootKey)) (a2 : Int) (a3 : Int) : Nat → Int → Option (RootKey)
  | 0, _ => none
  | k + 1, x2 => (ite2 ((decide (x2 < (a1.length : Int)))) (chk (0 ≤ x2 ∧ x2 < (a1.length : Int)) ((impl_rootTrack_1 K (a1.getD x2.toNat default)).bind fun v5 => some (decide (v5 ≤ a3)))) (some false)).bind fun j7 => ite2 (j7) (impl_track_impl_RootKey_sample_l1 K a1 a2 a3 k (IntKind.i64.wrap (x2 + (1 : Int)))) (ite2 ((x2 == (0 : Int))) (chk (0 ≤ (0 : Int) ∧ (0 : Int) < (a1.length : Int)) ((impl_rootTrack_2 K (a1.getD ((0 : Int).toNat) default) a3).bind fun v12 => some v12)) ((ite2 ((x2 == (a1.length : Int))) (some true) (chk (0 ≤ (IntKind.i64.wrap (x2 - (1 : Int))) ∧ (IntKind.i64.wrap (x2 - (1 : Int))) < (a1.length : Int)) ((impl_rootTrack_1 K (a1.getD ((IntKind.i64.wrap (x2 - (1 : Int))).toNat) default)).bind fun v16 => ite2 ((v16 == a3)) (some true) (some (a2 == (0 : Int)))))).bind fun j19 => ite2 (j19) (chk (0 ≤ (IntKind.i64.wrap (x2 - (1 : Int))) ∧ (IntKind.i64.wrap (x2 - (1 : Int))) < (a1.length : Int)) ((impl_rootTrack_2 K (a1.getD ((IntKind.i64.wrap (x2 - (1 : Int))).toNat) default) a3).bind fun v23 => some v23)) (chk (0 ≤ (IntKind.i64.wrap (x2 - (1 : Int))) ∧ (IntKind.i64.wrap (x2 - (1 : Int))) < (a1.length : Int)) (chk (0 ≤ x2 ∧ x2 < (a1.length : Int)) ((impl_rootTrack_1 K (a1.getD ((IntKind.i64.wrap (x2 - (1 : Int))).toNat) default)).bind fun v27 => (impl_rootTrack_1 K (a1.getD x2.toNat default)).bind fun v29 => (impl_share K v27 a3 v29).bind fun v31 => ite2 ((a2 == (2 : Int))) ((impl_rootTrack_3 K (a1.getD ((IntKind.i64.wrap (x2 - (1 : Int))).toNat) default) (a1.getD x2.toNat default) ((v31.mul v31).mul ((Fl.mk (k := .f32) 1077936128 (by decide)).sub ((Fl.mk (k := .f32) 1073741824 (by decide)).mul v31)))).bind fun v34 => (impl_rootTrack_2 K v34 a3).bind fun v36 => some v36) ((impl_rootTrack_3 K (a1.getD ((IntKind.i64.wrap (x2 - (1 : Int))).toNat) default) (a1.getD x2.toNat default) v31).bind fun v38 => (impl_rootTrack_2 K v38 a3).bind fun v40 => some v40))))))

def impl_track_impl_RootKey_sample (K : Nat) (a1 : (List RootKey)) (a2 : Int) (a3 : Int) : Option (RootKey) :=
  impl_track_impl_RootKey_sample_l1 K a1 a2 a3 K (0 : Int)

theorem ok_impl_track_impl_RootKey_sample (K : Nat) (a1 : (List RootKey)) (a2 : Int) (a3 : Int) (o : (RootKey)) (h : impl_track_impl_RootKey_sample K a1 a2 a3 = some o) : CallOK Try.prog 77 [.agg [(.fn 73 0 fun _ => .nilptr), (.fn 74 0 fun _ => .nilptr), (.fn 75 0 fun _ => .nilptr)], .one (sl 4 cs_RootKey a1), .one (.int .i64 a2), .one (.int .i64 a3)] [.agg (cs_RootKey o)] := by
  refine callOK_of_AW Try.func77 rfl (by kernel_rfl) (Nat.le_of_ble_eq_true (by kernel_rfl)) ?_
  intro w0
  unfold impl_track_impl_RootKey_sample at h
  refine AW.sC (T2 Tt) [.box 1, .box 2] [1, 2, 3, 4, 8] [1, 2] ⟨tr, tr, tr⟩ ?_
  let z3 := cF (default : F32)
  let z10 := vc (sl 4 cs_RootKey a1)
  let z11 := cI (0 : Int)
  refine AW.sA ⟨[(1, z10), (2, (vI a2)), (3, (vI a3)), (4, (vp 1 0)), (8, (vp 2 0)), (9, (vI (0 : Int)))], [(1, (.box [(.c (.fn 73 0 fun _ => .nilptr)), (.c (.fn 74 0 fun _ => .nilptr)), (.c (.fn 75 0 fun _ => .nilptr))])), (2, (.box [z11, z3, z3, z3]))]⟩ (Tt ∧ Tt) [] [1, 2, 3, 4, 8, 9] [1, 2] ⟨tr, tr⟩ ?_
  refine AW.seq ?_
  refine AW.block ?_
  refine AW.loopQ (σ := Nat × Int) (fun p => ⟨[(1, z10), (2, (vI a2)), (3, (vI a3)), (4, (vp 1 0)), (8, (vp 2 0)), (9, (vI p.2))], [(1, (.box [(.c (.fn 73 0 fun _ => .nilptr)), (.c (.fn 74 0 fun _ => .nilptr)), (.c (.fn 75 0 fun _ => .nilptr))])), (2, (.box [z11, z3, z3, z3]))]⟩) (fun p => impl_track_impl_RootKey_sample_l1 K a1 a2 a3 p.1 p.2 = some o) (fun p => p.1) (K, (0 : Int)) h ?_
  clear h
  rintro ⟨k, x2⟩ h
  replace h : impl_track_impl_RootKey_sample_l1 K a1 a2 a3 k x2 = some o := h
  show AW _ _ (⟨[(1, z10), (2, (vI a2)), (3, (vI a3)), (4, (vp 1 0)), (8, (vp 2 0)), (9, (vI x2))], [(1, (.box [(.c (.fn 73 0 fun _ => .nilptr)), (.c (.fn 74 0 fun _ => .nilptr)), (.c (.fn 75 0 fun _ => .nilptr))])), (2, (.box [z11, z3, z3, z3]))]⟩ : St) _
  obtain _ | k := k
  · rw [impl_track_impl_RootKey_sample_l1] at h; cases h
  rw [impl_track_impl_RootKey_sample_l1] at h
  refine AW.seq ?_
  refine AW.seq ?_
  obtain ⟨j7, e8, h⟩ := bind_some h
  refine AW.join1 (s2 := ⟨[(1, z10), (2, (vI a2)), (3, (vI a3)), (4, (vp 1 0)), (8, (vp 2 0)), (9, (vI x2)), (27, (vB j7))], [(1, (.box [(.c (.fn 73 0 fun _ => .nilptr)), (.c (.fn 74 0 fun _ => .nilptr)), (.c (.fn 75 0 fun _ => .nilptr))])), (2, (.box [z11, z3, z3, z3]))]⟩) ?_ ?_
  · rcases ite2_cases e8 with ⟨b3, e8⟩ | ⟨b3, e8⟩
    · obtain ⟨c4, e8⟩ := chk_some e8
      obtain ⟨v5, e6, e8⟩ := bind_some e8
      replace e8 := some_eq e8
      subst e8
      let z13 := a1.getD x2.toNat default
      exact AW.dA ⟨[(1, z10), (2, (vI a2)), (3, (vI a3)), (4, (vp 1 0)), (8, (vp 2 0)), (9, (vI x2)), (27, (vB (decide (v5 ≤ a3))))], [(1, (.box [(.c (.fn 73 0 fun _ => .nilptr)), (.c (.fn 74 0 fun _ => .nilptr)), (.c (.fn 75 0 fun _ => .nilptr))])), (2, (.box [z11, z3, z3, z3]))]⟩ ((T4 ((Tt ∧ (decide (x2 < (a1.length : Int))) = true) ∧ T4 ((0 ≤ x2 ∧ x2 < (a1.length : Int)) ∧ Tt ∧ ((((eI (z13.At)) ∧ (eF ((z13.Place).X)) ∧ (eF ((z13.Place).Y)) ∧ (eF ((z13.Place).Z)) ∧ Tt) ∧ Tt) ∧ CallOK Try.prog 73 [.agg (cs_RootKey z13)] [.one (.int .i64 v5)]) ∧ Tt ∧ T2 Tt))) ∧ (Tt)) 15 [.no, .no, .no, .no, .dec true, .no, .no, .no, .no, .no, .no, .call [.agg (cs_RootKey z13)] [.one (.int .i64 v5)] [[.view]]] [1, 2, 3, 4, 8, 9, 27] [1, 2] ⟨⟨tr, tr, tr, tr, ⟨tr, b3⟩, tr, tr, tr, tr, c4, tr, ⟨⟨⟨rfl, rfl, rfl, rfl, tr⟩, tr⟩, ok_impl_rootTrack_1 K z13 v5 e6⟩, tr, tr, tr, tr⟩, tr⟩ ⟨rfl, rfl⟩
    · replace e8 := some_eq e8
      subst e8
      exact AW.dA ⟨[(1, z10), (2, (vI a2)), (3, (vI a3)), (4, (vp 1 0)), (8, (vp 2 0)), (9, (vI x2)), (27, (vB false))], [(1, (.box [(.c (.fn 73 0 fun _ => .nilptr)), (.c (.fn 74 0 fun _ => .nilptr)), (.c (.fn 75 0 fun _ => .nilptr))])), (2, (.box [z11, z3, z3, z3]))]⟩ ((T4 ((Tt ∧ (decide (x2 < (a1.length : Int))) = false) ∧ T2 (T4 (T4 Tt)))) ∧ (Tt)) 15 [.no, .no, .no, .no, .dec false] [1, 2, 3, 4, 8, 9, 27] [1, 2] ⟨⟨tr, tr, tr, tr, ⟨tr, b3⟩, tr, tr, tr, tr, tr, tr, tr, tr, tr, tr, tr⟩, tr⟩ ⟨rfl, rfl⟩
  refine thenQ_normal ?_
  rcases ite2_cases h with ⟨b9, h⟩ | ⟨b9, h⟩
  · refine AW.cond_t rfl b9 ?_
    refine AW.skip ?_
    refine thenQ_normal ?_
    refine AW.block ?_
    let z29 := IntKind.i64.wrap (x2 + (1 : Int))
    refine AW.rA ⟨[(1, z10), (2, (vI a2)), (3, (vI a3)), (4, (vp 1 0)), (8, (vp 2 0)), (9, (vI z29))], [(1, (.box [(.c (.fn 73 0 fun _ => .nilptr)), (.c (.fn 74 0 fun _ => .nilptr)), (.c (.fn 75 0 fun _ => .nilptr))])), (2, (.box [z11, z3, z3, z3]))]⟩ (Tt ∧ T2 Tt) [] [1, 2, 3, 4, 8, 9] [1, 2] ⟨tr, tr, tr, tr⟩ ?_
    refine blockQ_normal ?_
    exact loopQ_normal (k, z29) h (Nat.lt_succ_self k) (Sub.keep [1, 2, 3, 4, 8, 9] [1, 2] (by kernel_rfl) (by kernel_rfl))
  · refine AW.cond_f rfl b9 ?_
    refine AW.exit ?_
    refine thenQ_exit ?_
    refine loopQ_exit ?_
    refine blockQ_exit ?_
    refine thenQ_normal ?_
    refine AW.seq ?_
    refine AW.block ?_
    refine AW.sA ⟨[(1, z10), (2, (vI a2)), (3, (vI a3)), (4, (vp 1 0)), (8, (vp 2 0)), (9, (vI x2)), (30, (vB (x2 == (0 : Int))))], [(1, (.box [(.c (.fn 73 0 fun _ => .nilptr)), (.c (.fn 74 0 fun _ => .nilptr)), (.c (.fn 75 0 fun _ => .nilptr))])), (2, (.box [z11, z3, z3, z3]))]⟩ (Tt ∧ T2 Tt) [] [1, 2, 3, 4, 8, 9, 30] [1, 2] ⟨tr, tr, tr, tr⟩ ?_
    rcases ite2_cases h with ⟨b10, h⟩ | ⟨b10, h⟩
    · refine AW.cond_t rfl b10 ?_
      refine AW.seq ?_
      obtain ⟨c11, h⟩ := chk_some h
      obtain ⟨v12, e13, h⟩ := bind_some h
      let z9 := a1.getD ((0 : Int).toNat) default
      let z30 : List CT := [.agg (cs_RootKey z9), .one (.int .i64 a3)]
      refine AW.dA ⟨[(8, (vp 2 0))], [(2, (.box [(cI v12.At), (cF v12.Place.X), (cF v12.Place.Y), (cF v12.Place.Z)]))]⟩ ((Tt ∧ T2 ((0 ≤ (0 : Int) ∧ (0 : Int) < (a1.length : Int)) ∧ T2 (((((eI (z9.At)) ∧ (((.flt .f32 ((z9.Place).X).bits) : C) = (.flt .f32 ((z9.Place).X).bits)) ∧ (((.flt .f32 ((z9.Place).Y).bits) : C) = (.flt .f32 ((z9.Place).Y).bits)) ∧ (((.flt .f32 ((z9.Place).Z).bits) : C) = (.flt .f32 ((z9.Place).Z).bits)) ∧ Tt) ∧ (eI a3) ∧ Tt) ∧ CallOK Try.prog 74 z30 [.agg (cs_RootKey v12)]) ∧ Tt))) ∧ (Tt ∧ Tt)) 7 [.no, .no, .no, .no, .no, .no, .call z30 [.agg (cs_RootKey v12)] [[.view, .view, .view, .view]]] [8] [2] ⟨⟨tr, tr, tr, c11, tr, tr, ⟨⟨⟨rfl, rfl, rfl, rfl, tr⟩, rfl, tr⟩, ok_impl_rootTrack_2 K z9 a3 v12 e13⟩, tr⟩, ⟨tr, tr⟩⟩ ?_
      refine thenQ_normal ?_
      refine AW.ret ?_
      refine blockQ_ret ?_
      refine thenQ_ret ?_
      replace h := some_eq h
      subst h
      exact ⟨.inr rfl, retOK_of [(.agg [(cI v12.At), (cF v12.Place.X), (cF v12.Place.Y), (cF v12.Place.Z)])] (by kernel_rfl) ⟨⟨⟨rfl, tr⟩, ⟨rfl, tr⟩, ⟨rfl, tr⟩, ⟨rfl, tr⟩, tr⟩, tr⟩ (of_decide_eq_true (by kernel_rfl))⟩
    · refine AW.cond_f rfl b10 ?_
      refine AW.seq ?_
      obtain ⟨j19, e20, h⟩ := bind_some h
      refine AW.join1 (s2 := ⟨[(1, z10), (2, (vI a2)), (3, (vI a3)), (4, (vp 1 0)), (8, (vp 2 0)), (9, (vI x2)), (40, (vB j19))], [(1, (.box [(.c (.fn 73 0 fun _ => .nilptr)), (.c (.fn 74 0 fun _ => .nilptr)), (.c (.fn 75 0 fun _ => .nilptr))])), (2, (.box [z11, z3, z3, z3]))]⟩) ?_ ?_
      · rcases ite2_cases e20 with ⟨b14, e20⟩ | ⟨b14, e20⟩
        · replace e20 := some_eq e20
          subst e20
          exact AW.dA ⟨[(1, z10), (2, (vI a2)), (3, (vI a3)), (4, (vp 1 0)), (8, (vp 2 0)), (9, (vI x2)), (40, (vB true))], [(1, (.box [(.c (.fn 73 0 fun _ => .nilptr)), (.c (.fn 74 0 fun _ => .nilptr)), (.c (.fn 75 0 fun _ => .nilptr))])), (2, (.box [z11, z3, z3, z3]))]⟩ ((T4 ((Tt ∧ (x2 == (a1.length : Int)) = true) ∧ T4 (T4 (T4 (T4 Tt))))) ∧ (Tt)) 21 [.no, .no, .no, .no, .dec true] [1, 2, 3, 4, 8, 9, 40] [1, 2] ⟨⟨tr, tr, tr, tr, ⟨tr, b14⟩, tr, tr, tr, tr, tr, tr, tr, tr, tr, tr, tr, tr, tr, tr, tr, tr, tr⟩, tr⟩ ⟨rfl, rfl⟩
        · obtain ⟨c15, e20⟩ := chk_some e20
          obtain ⟨v16, e17, e20⟩ := bind_some e20
          rcases ite2_cases e20 with ⟨b18, e20⟩ | ⟨b18, e20⟩
          · replace e20 := some_eq e20
            subst e20
            let z22 := IntKind.i64.wrap (x2 - (1 : Int))
            let z6 := a1.getD (z22.toNat) default
            exact AW.dA ⟨[(1, z10), (2, (vI a2)), (3, (vI a3)), (4, (vp 1 0)), (8, (vp 2 0)), (9, (vI x2)), (40, (vB true))], [(1, (.box [(.c (.fn 73 0 fun _ => .nilptr)), (.c (.fn 74 0 fun _ => .nilptr)), (.c (.fn 75 0 fun _ => .nilptr))])), (2, (.box [z11, z3, z3, z3]))]⟩ ((T4 ((Tt ∧ (x2 == (a1.length : Int)) = false) ∧ Tt ∧ T4 ((0 ≤ z22 ∧ z22 < (a1.length : Int)) ∧ Tt ∧ ((((((.int .i64 (z6.At)) : C) = (.int .i64 (z6.At))) ∧ (((.flt .f32 ((z6.Place).X).bits) : C) = (.flt .f32 ((z6.Place).X).bits)) ∧ (((.flt .f32 ((z6.Place).Y).bits) : C) = (.flt .f32 ((z6.Place).Y).bits)) ∧ (((.flt .f32 ((z6.Place).Z).bits) : C) = (.flt .f32 ((z6.Place).Z).bits)) ∧ Tt) ∧ Tt) ∧ CallOK Try.prog 73 [.agg (cs_RootKey z6)] [.one (.int .i64 v16)]) ∧ Tt ∧ T2 ((Tt ∧ (v16 == a3) = true) ∧ T4 Tt)))) ∧ (Tt)) 21 [.no, .no, .no, .no, .dec false, .no, .no, .no, .no, .no, .no, .no, .call [.agg (cs_RootKey z6)] [.one (.int .i64 v16)] [[.view]], .no, .no, .no, .dec true] [1, 2, 3, 4, 8, 9, 40] [1, 2] ⟨⟨tr, tr, tr, tr, ⟨tr, b14⟩, tr, tr, tr, tr, tr, c15, tr, ⟨⟨⟨rfl, rfl, rfl, rfl, tr⟩, tr⟩, ok_impl_rootTrack_1 K z6 v16 e17⟩, tr, tr, tr, ⟨tr, b18⟩, tr, tr, tr, tr, tr⟩, tr⟩ ⟨rfl, rfl⟩
          · replace e20 := some_eq e20
            subst e20
            let z23 := IntKind.i64.wrap (x2 - (1 : Int))
            let z7 := a1.getD (z23.toNat) default
            exact AW.dA ⟨[(1, z10), (2, (vI a2)), (3, (vI a3)), (4, (vp 1 0)), (8, (vp 2 0)), (9, (vI x2)), (40, (vB (a2 == (0 : Int))))], [(1, (.box [(.c (.fn 73 0 fun _ => .nilptr)), (.c (.fn 74 0 fun _ => .nilptr)), (.c (.fn 75 0 fun _ => .nilptr))])), (2, (.box [z11, z3, z3, z3]))]⟩ ((T4 ((Tt ∧ (x2 == (a1.length : Int)) = false) ∧ Tt ∧ T4 ((0 ≤ z23 ∧ z23 < (a1.length : Int)) ∧ Tt ∧ ((((((.int .i64 (z7.At)) : C) = (.int .i64 (z7.At))) ∧ (((.flt .f32 ((z7.Place).X).bits) : C) = (.flt .f32 ((z7.Place).X).bits)) ∧ (((.flt .f32 ((z7.Place).Y).bits) : C) = (.flt .f32 ((z7.Place).Y).bits)) ∧ (((.flt .f32 ((z7.Place).Z).bits) : C) = (.flt .f32 ((z7.Place).Z).bits)) ∧ Tt) ∧ Tt) ∧ CallOK Try.prog 73 [.agg (cs_RootKey z7)] [.one (.int .i64 v16)]) ∧ Tt ∧ T2 ((Tt ∧ (v16 == a3) = false) ∧ T4 Tt)))) ∧ (Tt)) 21 [.no, .no, .no, .no, .dec false, .no, .no, .no, .no, .no, .no, .no, .call [.agg (cs_RootKey z7)] [.one (.int .i64 v16)] [[.view]], .no, .no, .no, .dec false] [1, 2, 3, 4, 8, 9, 40] [1, 2] ⟨⟨tr, tr, tr, tr, ⟨tr, b14⟩, tr, tr, tr, tr, tr, c15, tr, ⟨⟨⟨rfl, rfl, rfl, rfl, tr⟩, tr⟩, ok_impl_rootTrack_1 K z7 v16 e17⟩, tr, tr, tr, ⟨tr, b18⟩, tr, tr, tr, tr, tr⟩, tr⟩ ⟨rfl, rfl⟩
      refine thenQ_normal ?_
      rcases ite2_cases h with ⟨b21, h⟩ | ⟨b21, h⟩
      · refine AW.cond_t rfl b21 ?_
        refine AW.seq ?_
        obtain ⟨c22, h⟩ := chk_some h
        obtain ⟨v23, e24, h⟩ := bind_some h
        let z20 := IntKind.i64.wrap (x2 - (1 : Int))
        let z5 := a1.getD (z20.toNat) default
        refine AW.dA ⟨[(8, (vp 2 0))], [(2, (.box [(cI v23.At), (cF v23.Place.X), (cF v23.Place.Y), (cF v23.Place.Z)]))]⟩ ((Tt ∧ T4 ((0 ≤ z20 ∧ z20 < (a1.length : Int)) ∧ T2 (((((((.int .i64 (z5.At)) : C) = (.int .i64 (z5.At))) ∧ (((.flt .f32 ((z5.Place).X).bits) : C) = (.flt .f32 ((z5.Place).X).bits)) ∧ (((.flt .f32 ((z5.Place).Y).bits) : C) = (.flt .f32 ((z5.Place).Y).bits)) ∧ (((.flt .f32 ((z5.Place).Z).bits) : C) = (.flt .f32 ((z5.Place).Z).bits)) ∧ Tt) ∧ (eI a3) ∧ Tt) ∧ CallOK Try.prog 74 [.agg (cs_RootKey z5), .one (.int .i64 a3)] [.agg (cs_RootKey v23)]) ∧ Tt))) ∧ (Tt ∧ Tt)) 9 [.no, .no, .no, .no, .no, .no, .no, .no, .call [.agg (cs_RootKey z5), .one (.int .i64 a3)] [.agg (cs_RootKey v23)] [[.view, .view, .view, .view]]] [8] [2] ⟨⟨tr, tr, tr, tr, tr, c22, tr, tr, ⟨⟨⟨rfl, rfl, rfl, rfl, tr⟩, rfl, tr⟩, ok_impl_rootTrack_2 K z5 a3 v23 e24⟩, tr⟩, ⟨tr, tr⟩⟩ ?_
        refine thenQ_normal ?_
        refine AW.ret ?_
        refine blockQ_ret ?_
        refine thenQ_ret ?_
        replace h := some_eq h
        subst h
        exact ⟨.inr rfl, retOK_of [(.agg [(cI v23.At), (cF v23.Place.X), (cF v23.Place.Y), (cF v23.Place.Z)])] (by kernel_rfl) ⟨⟨⟨rfl, tr⟩, ⟨rfl, tr⟩, ⟨rfl, tr⟩, ⟨rfl, tr⟩, tr⟩, tr⟩ (of_decide_eq_true (by kernel_rfl))⟩
      · refine AW.cond_f rfl b21 ?_
        refine AW.skip ?_
        refine blockQ_normal ?_
        refine thenQ_normal ?_
        refine AW.seq ?_
        obtain ⟨c25, h⟩ := chk_some h
        obtain ⟨c26, h⟩ := chk_some h
        let z21 := IntKind.i64.wrap (x2 - (1 : Int))
        let z1 := a1.getD (z21.toNat) default
        let z2 := a1.getD x2.toNat default
        let z14 := cF ((z1.Place).X)
        let z15 := cF ((z1.Place).Y)
        let z16 := cF ((z1.Place).Z)
        let z17 := cF ((z2.Place).X)
        let z18 := cF ((z2.Place).Y)
        let z19 := cF ((z2.Place).Z)
        refine AW.heldA (by kernel_rfl) [0, 1, 2, 3, 4, 5, 6, 7, 8] [] 3 [74, 78] [.no, .no, .no, .no, .no, .no, .no, .no, .no, .box 3, .box 4] [10, 11] [3, 4] [2, 3, 4, 8, 10, 11] [1, 2, 3, 4] (s' := ⟨[(2, (vI a2)), (3, (vI a3)), (4, (vp 1 0)), (8, (vp 2 0)), (10, (vp 3 0)), (11, (vp 4 0))], [(1, (.box [(.c (.fn 73 0 fun _ => .nilptr)), (.c (.fn 74 0 fun _ => .nilptr)), (.c (.fn 75 0 fun _ => .nilptr))])), (2, (.box [z11, z3, z3, z3])), (3, (.box [(cI (z1.At)), z14, z15, z16])), (4, (.box [(cI (z2.At)), z17, z18, z19]))]⟩) (ob := (Tt ∧ T2 ((0 ≤ z21 ∧ z21 < (a1.length : Int)) ∧ Tt ∧ T2 ((0 ≤ x2 ∧ x2 < (a1.length : Int)) ∧ Tt ∧ Tt))) ∧ (Zt45 ((⟨[(10, (vp 3 0)), (11, (vp 4 0))], [(3, (.box [(cI (z1.At)), z14, z15, z16])), (4, (.box [(cI (z2.At)), z17, z18, z19]))]⟩ : St) = ⟨[(10, (vp 3 0)), (11, (vp 4 0))], [(3, (.box [(cI (z1.At)), z14, z15, z16])), (4, (.box [(cI (z2.At)), z17, z18, z19]))]⟩)) ∧ (Tt)) (by kernel_rfl) ⟨⟨tr, tr, tr, c25, tr, tr, tr, c26, tr, tr⟩, (zt45 rfl), tr⟩ ?_
        refine thenQ_normal ?_
        refine AW.seq ?_
        obtain ⟨v27, e28, h⟩ := bind_some h
        obtain ⟨v29, e30, h⟩ := bind_some h
        obtain ⟨v31, e32, h⟩ := bind_some h
        let z8 := (((.int .i64 (z1.At)) : C) = (.int .i64 (z1.At))) ∧ (((.flt .f32 ((z1.Place).X).bits) : C) = (.flt .f32 ((z1.Place).X).bits)) ∧ (((.flt .f32 ((z1.Place).Y).bits) : C) = (.flt .f32 ((z1.Place).Y).bits)) ∧ (((.flt .f32 ((z1.Place).Z).bits) : C) = (.flt .f32 ((z1.Place).Z).bits)) ∧ Tt
        let z12 := (eI (z2.At)) ∧ (eF ((z2.Place).X)) ∧ (eF ((z2.Place).Y)) ∧ (eF ((z2.Place).Z)) ∧ Tt
        let z24 := cs_RootKey z1
        let z25 := cs_RootKey z2
        let z26 : List CT := [.one (.int .i64 v27), .one (.int .i64 a3), .one (.int .i64 v29)]
        refine AW.dA ⟨[(2, (vI a2)), (3, (vI a3)), (4, (vp 1 0)), (8, (vp 2 0)), (10, (vp 3 0)), (11, (vp 4 0)), (12, (vc (.flt .f32 v31.bits)))], [(1, (.box [(.c (.fn 73 0 fun _ => .nilptr)), (.c (.fn 74 0 fun _ => .nilptr)), (.c (.fn 75 0 fun _ => .nilptr))])), (2, (.box [z11, z3, z3, z3])), (3, (.box [(cI (z1.At)), z14, z15, z16])), (4, (.box [(cI (z2.At)), z17, z18, z19]))]⟩ ((Tt ∧ T2 (((z8 ∧ Tt) ∧ CallOK Try.prog 73 [.agg z24] [.one (.int .i64 v27)]) ∧ T4 (((z12 ∧ Tt) ∧ CallOK Try.prog 73 [.agg z25] [.one (.int .i64 v29)]) ∧ (((eI v27) ∧ (eI a3) ∧ (eI v29) ∧ Tt) ∧ CallOK Try.prog 78 z26 [.one (.flt .f32 v31.bits)]) ∧ Tt ∧ Tt))) ∧ (Tt)) 11 [.no, .no, .no, .call [.agg z24] [.one (.int .i64 v27)] [[.view]], .no, .no, .no, .no, .call [.agg z25] [.one (.int .i64 v29)] [[.view]], .call z26 [.one (.flt .f32 v31.bits)] [[.view]]] [2, 3, 4, 8, 10, 11, 12] [1, 2, 3, 4] ⟨⟨tr, tr, tr, ⟨⟨⟨rfl, rfl, rfl, rfl, tr⟩, tr⟩, ok_impl_rootTrack_1 K z1 v27 e28⟩, tr, tr, tr, tr, ⟨⟨⟨rfl, rfl, rfl, rfl, tr⟩, tr⟩, ok_impl_rootTrack_1 K z2 v29 e30⟩, ⟨⟨rfl, rfl, rfl, tr⟩, ok_impl_share K v27 a3 v29 v31 e32⟩, tr, tr⟩, tr⟩ ?_
        refine thenQ_normal ?_
        refine AW.seq ?_
        refine AW.sA ⟨[(3, (vI a3)), (4, (vp 1 0)), (8, (vp 2 0)), (10, (vp 3 0)), (11, (vp 4 0)), (12, (vc (.flt .f32 v31.bits))), (90, (vB (a2 == (2 : Int))))], [(1, (.box [(.c (.fn 73 0 fun _ => .nilptr)), (.c (.fn 74 0 fun _ => .nilptr)), (.c (.fn 75 0 fun _ => .nilptr))])), (2, (.box [z11, z3, z3, z3])), (3, (.box [(cI (z1.At)), z14, z15, z16])), (4, (.box [(cI (z2.At)), z17, z18, z19]))]⟩ (T2 Tt) [] [3, 4, 8, 10, 11, 12, 90] [1, 2, 3, 4] ⟨tr, tr, tr⟩ ?_
        rcases ite2_cases h with ⟨b33, h⟩ | ⟨b33, h⟩
        · refine AW.cond_t rfl b33 ?_
          let z4 := (v31.mul v31).mul ((Fl.mk (k := .f32) 1077936128 (by decide)).sub ((Fl.mk (k := .f32) 1073741824 (by decide)).mul v31))
          refine AW.tA ⟨[(3, (vI a3)), (4, (vp 1 0)), (8, (vp 2 0)), (10, (vp 3 0)), (11, (vp 4 0)), (12, (vc (.flt .f32 z4.bits)))], [(1, (.box [(.c (.fn 73 0 fun _ => .nilptr)), (.c (.fn 74 0 fun _ => .nilptr)), (.c (.fn 75 0 fun _ => .nilptr))])), (2, (.box [z11, z3, z3, z3])), (3, (.box [(cI (z1.At)), z14, z15, z16])), (4, (.box [(cI (z2.At)), z17, z18, z19]))]⟩ (T4 (T4 Tt)) [] [3, 4, 8, 10, 11, 12] [1, 2, 3, 4] ⟨tr, tr, tr, tr, tr, tr, tr, tr, tr⟩ ?_
          refine AW.seq ?_
          obtain ⟨v34, e35, h⟩ := bind_some h
          obtain ⟨v36, e37, h⟩ := bind_some h
          let z27 := cs_RootKey v34
          let z32 : List CT := [.agg z24, .agg z25, .one (.flt .f32 z4.bits)]
          refine AW.dA ⟨[(8, (vp 2 0))], [(2, (.box [(cI v36.At), (cF v36.Place.X), (cF v36.Place.Y), (cF v36.Place.Z)]))]⟩ ((Tt ∧ T2 (T4 (((z8 ∧ z12 ∧ (((.flt .f32 z4.bits) : C) = (.flt .f32 z4.bits)) ∧ Tt) ∧ CallOK Try.prog 75 z32 [.agg z27]) ∧ Tt ∧ ((((eI v34.At) ∧ (eF v34.Place.X) ∧ (eF v34.Place.Y) ∧ (eF v34.Place.Z) ∧ Tt) ∧ (eI a3) ∧ Tt) ∧ CallOK Try.prog 74 [.agg z27, .one (.int .i64 a3)] [.agg (cs_RootKey v36)]) ∧ Tt))) ∧ (Tt ∧ Tt)) 10 [.no, .no, .no, .no, .no, .no, .no, .call z32 [.agg z27] [[.view, .view, .view, .view]], .no, .call [.agg z27, .one (.int .i64 a3)] [.agg (cs_RootKey v36)] [[.view, .view, .view, .view]]] [8] [2] ⟨⟨tr, tr, tr, tr, tr, tr, tr, ⟨⟨⟨rfl, rfl, rfl, rfl, tr⟩, ⟨rfl, rfl, rfl, rfl, tr⟩, rfl, tr⟩, ok_impl_rootTrack_3 K z1 z2 z4 v34 e35⟩, tr, ⟨⟨⟨rfl, rfl, rfl, rfl, tr⟩, rfl, tr⟩, ok_impl_rootTrack_2 K v34 a3 v36 e37⟩, tr⟩, ⟨tr, tr⟩⟩ ?_
          refine thenQ_normal ?_
          refine AW.ret ?_
          replace h := some_eq h
          subst h
          exact ⟨.inr rfl, retOK_of [(.agg [(cI v36.At), (cF v36.Place.X), (cF v36.Place.Y), (cF v36.Place.Z)])] (by kernel_rfl) ⟨⟨⟨rfl, tr⟩, ⟨rfl, tr⟩, ⟨rfl, tr⟩, ⟨rfl, tr⟩, tr⟩, tr⟩ (of_decide_eq_true (by kernel_rfl))⟩
        · refine AW.cond_f rfl b33 ?_
          refine AW.skip ?_
          refine thenQ_normal ?_
          refine AW.seq ?_
          obtain ⟨v38, e39, h⟩ := bind_some h
          obtain ⟨v40, e41, h⟩ := bind_some h
          let z28 := cs_RootKey v38
          let z31 : List CT := [.agg z24, .agg z25, .one (.flt .f32 v31.bits)]
          refine AW.dA ⟨[(8, (vp 2 0))], [(2, (.box [(cI v40.At), (cF v40.Place.X), (cF v40.Place.Y), (cF v40.Place.Z)]))]⟩ ((Tt ∧ T2 (T4 (((z8 ∧ z12 ∧ (eF v31) ∧ Tt) ∧ CallOK Try.prog 75 z31 [.agg z28]) ∧ Tt ∧ ((((eI v38.At) ∧ (eF v38.Place.X) ∧ (eF v38.Place.Y) ∧ (eF v38.Place.Z) ∧ Tt) ∧ (eI a3) ∧ Tt) ∧ CallOK Try.prog 74 [.agg z28, .one (.int .i64 a3)] [.agg (cs_RootKey v40)]) ∧ Tt))) ∧ (Tt ∧ Tt)) 10 [.no, .no, .no, .no, .no, .no, .no, .call z31 [.agg z28] [[.view, .view, .view, .view]], .no, .call [.agg z28, .one (.int .i64 a3)] [.agg (cs_RootKey v40)] [[.view, .view, .view, .view]]] [8] [2] ⟨⟨tr, tr, tr, tr, tr, tr, tr, ⟨⟨⟨rfl, rfl, rfl, rfl, tr⟩, ⟨rfl, rfl, rfl, rfl, tr⟩, rfl, tr⟩, ok_impl_rootTrack_3 K z1 z2 v31 v38 e39⟩, tr, ⟨⟨⟨rfl, rfl, rfl, rfl, tr⟩, rfl, tr⟩, ok_impl_rootTrack_2 K v38 a3 v40 e41⟩, tr⟩, ⟨tr, tr⟩⟩ ?_
          refine thenQ_normal ?_
          refine AW.ret ?_
          replace h := some_eq h
          subst h
          exact ⟨.inr rfl, retOK_of [(.agg [(cI v40.At), (cF v40.Place.X), (cF v40.Place.Y), (cF v40.Place.Z)])] (by kernel_rfl) ⟨⟨⟨rfl, tr⟩, ⟨rfl, tr⟩, ⟨rfl, tr⟩, ⟨rfl, tr⟩, tr⟩, tr⟩ (of_decide_eq_true (by kernel_rfl))⟩

/-! (*impl.Clip).root -/
def impl_Clip_root (K : Nat) (a0 : Clip) (a1 : Int) : Option (Vector) :=
  (impl_rootTrack K ).bind fun v1 => (impl_track_impl_RootKey_sample K a0.Roots a0.Kind a1).bind fun v3 => some v3.Place

theorem ok_impl_Clip_root (K : Nat) (a0 : Clip) (a1 : Int) (o : (Vector)) (h : impl_Clip_root K a0 a1 = some o) : CallOK Try.prog 58 [.one (pl 4 cs_Clip a0), .one (.int .i64 a1)] [.agg (cs_Vector o)] := by
  refine callOK_of_AW Try.func58 rfl (by kernel_rfl) (Nat.le_of_ble_eq_true (by kernel_rfl)) ?_
  intro w0
  unfold impl_Clip_root at h
  let z2 := cF (default : F32)
  refine AW.sA ⟨[(0, (vc (pl 4 cs_Clip a0))), (1, (vI a1)), (4, (vp 1 0))], [(1, (.box [z2, z2, z2]))]⟩ (Tt ∧ Tt) [.box 1] [0, 1, 4] [1] ⟨tr, tr⟩ ?_
  refine AW.seq ?_
  obtain ⟨v1, e2, h⟩ := bind_some h
  obtain ⟨v3, e4, h⟩ := bind_some h
  let z1 := sl 4 cs_RootKey a0.Roots
  refine AW.dA ⟨[(4, (vp 1 0))], [(1, (.box [(cF v3.Place.X), (cF v3.Place.Y), (cF v3.Place.Z)]))]⟩ ((((Tt) ∧ CallOK Try.prog 54 [] [.agg [(.fn 73 0 fun _ => .nilptr), (.fn 74 0 fun _ => .nilptr), (.fn 75 0 fun _ => .nilptr)]]) ∧ Tt ∧ T4 (T4 (((((Eqc (.fn 73 0 fun _ => .nilptr)) ∧ (Eqc (.fn 74 0 fun _ => .nilptr)) ∧ (Eqc (.fn 75 0 fun _ => .nilptr)) ∧ Tt) ∧ (Eqc z1) ∧ (eI a0.Kind) ∧ (eI a1) ∧ Tt) ∧ CallOK Try.prog 77 [.agg [(.fn 73 0 fun _ => .nilptr), (.fn 74 0 fun _ => .nilptr), (.fn 75 0 fun _ => .nilptr)], .one z1, .one (.int .i64 a0.Kind), .one (.int .i64 a1)] [.agg (cs_RootKey v3)]) ∧ Tt ∧ Tt))) ∧ (Tt ∧ Tt)) 12 [.call [] [.agg [(.fn 73 0 fun _ => .nilptr), (.fn 74 0 fun _ => .nilptr), (.fn 75 0 fun _ => .nilptr)]] [[.view, .view, .view]], .no, .no, .no, .no, .no, .no, .no, .no, .no, .call [.agg [(.fn 73 0 fun _ => .nilptr), (.fn 74 0 fun _ => .nilptr), (.fn 75 0 fun _ => .nilptr)], .one z1, .one (.int .i64 a0.Kind), .one (.int .i64 a1)] [.agg (cs_RootKey v3)] [[.view, .view, .view, .view]]] [4] [1] ⟨⟨⟨tr, ok_impl_rootTrack K v1 e2⟩, tr, tr, tr, tr, tr, tr, tr, tr, tr, ⟨⟨⟨rfl, rfl, rfl, tr⟩, rfl, rfl, rfl, tr⟩, ok_impl_track_impl_RootKey_sample K a0.Roots a0.Kind a1 v3 e4⟩, tr, tr⟩, ⟨tr, tr⟩⟩ ?_
  refine thenQ_normal ?_
  refine AW.ret ?_
  replace h := some_eq h
  subst h
  exact ⟨.inr rfl, retOK_of [(.agg [(cF v3.Place.X), (cF v3.Place.Y), (cF v3.Place.Z)])] (by kernel_rfl) ⟨⟨⟨rfl, tr⟩, ⟨rfl, tr⟩, ⟨rfl, tr⟩, tr⟩, tr⟩ (of_decide_eq_true (by kernel_rfl))⟩

/-! impl.turnTrack$2 -/
def impl_turnTrack_2 (_K : Nat) (a0 : Key) (a1 : Int) : Option (Key) :=
  some (Key.mk a1 a0.Turn)

theorem ok_impl_turnTrack_2 (K : Nat) (a0 : Key) (a1 : Int) (o : (Key)) (h : impl_turnTrack_2 K a0 a1 = some o) : CallOK Try.prog 70 [.agg (cs_Key a0), .one (.int .i64 a1)] [.agg (cs_Key o)] := by
  refine callOK_of_AW Try.func70 rfl (by kernel_rfl) (Nat.le_of_ble_eq_true (by kernel_rfl)) ?_
  intro w0
  unfold impl_turnTrack_2 at h
  refine AW.sC (T2 Tt) [.box 1, .box 2] [1, 2, 4] [1, 2] ⟨tr, tr, tr⟩ ?_
  refine AW.sC (Tt ∧ T2 Tt) [] [2, 4] [1, 2] ⟨tr, tr, tr, tr⟩ ?_
  refine AW.sA ⟨[(4, (vp 2 0))], [(2, (.box [(cI a1), (cF a0.Turn.W), (cF a0.Turn.X), (cF a0.Turn.Y), (cF a0.Turn.Z)]))]⟩ (T2 Tt) [] [4] [2] ⟨tr, tr, tr⟩ ?_
  refine AW.ret ?_
  replace h := some_eq h
  subst h
  exact ⟨.inr rfl, retOK_of [(.agg [(cI a1), (cF a0.Turn.W), (cF a0.Turn.X), (cF a0.Turn.Y), (cF a0.Turn.Z)])] (by kernel_rfl) ⟨⟨⟨rfl, tr⟩, ⟨rfl, tr⟩, ⟨rfl, tr⟩, ⟨rfl, tr⟩, ⟨rfl, tr⟩, tr⟩, tr⟩ (of_decide_eq_true (by kernel_rfl))⟩

/-! impl.InnerOfTurns -/
def impl_InnerOfTurns (_K : Nat) (a0 : Turn) (a1 : Turn) : Option (F32) :=
  some ((((a0.W.mul a1.W).add (a0.X.mul a1.X)).add (a0.Y.mul a1.Y)).add (a0.Z.mul a1.Z))

theorem ok_impl_InnerOfTurns (K : Nat) (a0 : Turn) (a1 : Turn) (o : (F32)) (h : impl_InnerOfTurns K a0 a1 = some o) : CallOK Try.prog 88 [.agg (cs_Turn a0), .agg (cs_Turn a1)] [.one (.flt .f32 o.bits)] := by
  refine callOK_of_AW Try.func88 rfl (by kernel_rfl) (Nat.le_of_ble_eq_true (by kernel_rfl)) ?_
  intro w0
  unfold impl_InnerOfTurns at h
  refine AW.sC (Tt ∧ T2 Tt) [.box 1, .box 2] [2, 3] [1, 2] ⟨tr, tr, tr, tr⟩ ?_
  let z1 := (((a0.W.mul a1.W).add (a0.X.mul a1.X)).add (a0.Y.mul a1.Y)).add (a0.Z.mul a1.Z)
  refine AW.sA ⟨[(4, (vc (.flt .f32 z1.bits)))], []⟩ (T4 (T4 (T4 (T4 (T4 (T4 Tt)))))) [] [4] [] ⟨tr, tr, tr, tr, tr, tr, tr, tr, tr, tr, tr, tr, tr, tr, tr, tr, tr, tr, tr, tr, tr, tr, tr, tr, tr⟩ ?_
  refine AW.ret ?_
  replace h := some_eq h
  subst h
  exact ⟨.inr rfl, retOK_of [(.one (cF z1))] (by kernel_rfl) ⟨⟨rfl, tr⟩, tr⟩ (of_decide_eq_true (by kernel_rfl))⟩

/-! (impl.Turn).opposite -/
def impl_Turn_opposite (_K : Nat) (a0 : Turn) : Option (Turn) :=
  some (Turn.mk (a0.W.neg) (a0.X.neg) (a0.Y.neg) (a0.Z.neg))

theorem ok_impl_Turn_opposite (K : Nat) (a0 : Turn) (o : (Turn)) (h : impl_Turn_opposite K a0 = some o) : CallOK Try.prog 89 [.agg (cs_Turn a0)] [.agg (cs_Turn o)] := by
  refine callOK_of_AW Try.func89 rfl (by kernel_rfl) (Nat.le_of_ble_eq_true (by kernel_rfl)) ?_
  intro w0
  unfold impl_Turn_opposite at h
  refine AW.sC (T2 Tt) [.box 1, .box 2] [1, 2] [1, 2] ⟨tr, tr, tr⟩ ?_
  refine AW.sA ⟨[(2, (vp 2 0))], [(2, (.box [(cF (a0.W.neg)), (cF (a0.X.neg)), (cF (a0.Y.neg)), (cF (a0.Z.neg))]))]⟩ (T2 (T4 (T4 (T4 Tt)))) [] [2] [2] ⟨tr, tr, tr, tr, tr, tr, tr, tr, tr, tr, tr, tr, tr, tr, tr⟩ ?_
  refine AW.ret ?_
  replace h := some_eq h
  subst h
  exact ⟨.inr rfl, retOK_of [(.agg [(cF (a0.W.neg)), (cF (a0.X.neg)), (cF (a0.Y.neg)), (cF (a0.Z.neg))])] (by kernel_rfl) ⟨⟨⟨rfl, tr⟩, ⟨rfl, tr⟩, ⟨rfl, tr⟩, ⟨rfl, tr⟩, tr⟩, tr⟩ (of_decide_eq_true (by kernel_rfl))⟩

/-! impl.between -/
def impl_between (_K : Nat) (a0 : F32) (a1 : F32) (a2 : F32) : Option (F32) :=
  some (a0.add (a2.mul (a1.sub a0)))

theorem ok_impl_between (K : Nat) (a0 : F32) (a1 : F32) (a2 : F32) (o : (F32)) (h : impl_between K a0 a1 a2 = some o) : CallOK Try.prog 91 [.one (.flt .f32 a0.bits), .one (.flt .f32 a1.bits), .one (.flt .f32 a2.bits)] [.one (.flt .f32 o.bits)] := by
  refine callOK_of_AW Try.func91 rfl (by kernel_rfl) (Nat.le_of_ble_eq_true (by kernel_rfl)) ?_
  intro w0
  unfold impl_between at h
  refine AW.sC (Tt ∧ Tt) [] [0, 1, 2] [] ⟨tr, tr⟩ ?_
  let z1 := a0.add (a2.mul (a1.sub a0))
  refine AW.sA ⟨[(6, (vc (.flt .f32 z1.bits)))], []⟩ (T4 (T4 Tt)) [] [6] [] ⟨tr, tr, tr, tr, tr, tr, tr, tr, tr⟩ ?_
  refine AW.ret ?_
  replace h := some_eq h
  subst h
  exact ⟨.inr rfl, retOK_of [(.one (cF z1))] (by kernel_rfl) ⟨⟨rfl, tr⟩, tr⟩ (of_decide_eq_true (by kernel_rfl))⟩

/-! impl.RootNumber -/
def impl_RootNumber (K : Nat) (a0 : F32) : Option (F32) :=
  (math_Sqrt K (Fl.cv .f32 .f64 a0)).bind fun v1 => chk ((convBits .f64 v1.bits .f32).isSome = true) (some (Fl.cv .f64 .f32 v1))

theorem ok_impl_RootNumber (K : Nat) (a0 : F32) (o : (F32)) (h : impl_RootNumber K a0 = some o) : CallOK Try.prog 102 [.one (.flt .f32 a0.bits)] [.one (.flt .f32 o.bits)] := by
  refine callOK_of_AW Try.func102 rfl (by kernel_rfl) (Nat.le_of_ble_eq_true (by kernel_rfl)) ?_
  intro w0
  unfold impl_RootNumber at h
  refine AW.sC (Tt ∧ Tt) [] [0] [] ⟨tr, tr⟩ ?_
  refine AW.seq ?_
  obtain ⟨v1, e2, h⟩ := bind_some h
  obtain ⟨c3, h⟩ := chk_some h
  let z1 := Fl.cv .f32 .f64 a0
  refine AW.tA ⟨[(2, (vc (.flt .f32 (Fl.cv .f64 .f32 v1).bits)))], []⟩ (Tt ∧ ((convBits .f32 a0.bits .f64).isSome = true) ∧ (((Eqc (.flt .f64 z1.bits)) ∧ Tt) ∧ CallOK Try.prog 97 [.one (.flt .f64 z1.bits)] [.one (.flt .f64 v1.bits)]) ∧ ((convBits .f64 v1.bits .f32).isSome = true) ∧ Tt ∧ Tt) [.no, .no, .call [.one (.flt .f64 z1.bits)] [.one (.flt .f64 v1.bits)] [[.view]]] [2] [] ⟨tr, cv_wide a0, ⟨⟨rfl, tr⟩, ok_math_Sqrt K z1 v1 e2⟩, c3, tr, tr⟩ ?_
  refine AW.ret ?_
  replace h := some_eq h
  subst h
  exact ⟨.inr rfl, retOK_of [(.one (cF (Fl.cv .f64 .f32 v1)))] (by kernel_rfl) ⟨⟨rfl, tr⟩, tr⟩ (of_decide_eq_true (by kernel_rfl))⟩

/-! impl.LengthOfTurn -/
def impl_LengthOfTurn (K : Nat) (a0 : Turn) : Option (F32) :=
  (impl_InnerOfTurns K a0 a0).bind fun v1 => (impl_RootNumber K v1).bind fun v3 => some v3

theorem ok_impl_LengthOfTurn (K : Nat) (a0 : Turn) (o : (F32)) (h : impl_LengthOfTurn K a0 = some o) : CallOK Try.prog 98 [.agg (cs_Turn a0)] [.one (.flt .f32 o.bits)] := by
  refine callOK_of_AW Try.func98 rfl (by kernel_rfl) (Nat.le_of_ble_eq_true (by kernel_rfl)) ?_
  intro w0
  unfold impl_LengthOfTurn at h
  refine AW.sC (T2 Tt) [.box 1] [1] [1] ⟨tr, tr, tr⟩ ?_
  refine AW.seq ?_
  obtain ⟨v1, e2, h⟩ := bind_some h
  obtain ⟨v3, e4, h⟩ := bind_some h
  let z1 : List CT := [.one (.flt .f32 v1.bits)]
  let z2 := (eF a0.W) ∧ (eF a0.X) ∧ (eF a0.Y) ∧ (eF a0.Z) ∧ Tt
  let z3 : List CT := [.agg (cs_Turn a0), .agg (cs_Turn a0)]
  refine AW.tA ⟨[(2, (vc (.flt .f32 v3.bits)))], []⟩ (T2 (((z2 ∧ z2 ∧ Tt) ∧ CallOK Try.prog 88 z3 z1) ∧ (((eF v1) ∧ Tt) ∧ CallOK Try.prog 102 z1 [.one (.flt .f32 v3.bits)]) ∧ Tt ∧ Tt)) [.no, .no, .call z3 z1 [[.view]], .call z1 [.one (.flt .f32 v3.bits)] [[.view]]] [2] [] ⟨tr, tr, ⟨⟨⟨rfl, rfl, rfl, rfl, tr⟩, ⟨rfl, rfl, rfl, rfl, tr⟩, tr⟩, ok_impl_InnerOfTurns K a0 a0 v1 e2⟩, ⟨⟨rfl, tr⟩, ok_impl_RootNumber K v1 v3 e4⟩, tr, tr⟩ ?_
  refine AW.ret ?_
  replace h := some_eq h
  subst h
  exact ⟨.inr rfl, retOK_of [(.one (cF v3))] (by kernel_rfl) ⟨⟨rfl, tr⟩, tr⟩ (of_decide_eq_true (by kernel_rfl))⟩

/-! impl.IsFinite -/
def impl_IsFinite (_K : Nat) (a0 : F32) : Option (Bool) :=
  some ((a0.sub a0).eq (Fl.mk (k := .f32) 0 (by decide)))

theorem ok_impl_IsFinite (K : Nat) (a0 : F32) (o : (Bool)) (h : impl_IsFinite K a0 = some o) : CallOK Try.prog 103 [.one (.flt .f32 a0.bits)] [.one (.bool o)] := by
  refine callOK_of_AW Try.func103 rfl (by kernel_rfl) (Nat.le_of_ble_eq_true (by kernel_rfl)) ?_
  intro w0
  unfold impl_IsFinite at h
  refine AW.sC (Tt ∧ Tt) [] [0] [] ⟨tr, tr⟩ ?_
  let z1 := (a0.sub a0).eq (Fl.mk (k := .f32) 0 (by decide))
  refine AW.sA ⟨[(2, (vB z1))], []⟩ (Tt ∧ T4 Tt) [] [2] [] ⟨tr, tr, tr, tr, tr, tr⟩ ?_
  refine AW.ret ?_
  replace h := some_eq h
  subst h
  exact ⟨.inr rfl, retOK_of [(.one (.c (.bool z1)))] (by kernel_rfl) ⟨⟨rfl, tr⟩, tr⟩ (of_decide_eq_true (by kernel_rfl))⟩

/-! impl.isLength -/
def impl_isLength (K : Nat) (a0 : F32) : Option (Bool) :=
  (impl_IsFinite K a0).bind fun v1 => (ite2 (v1) (some (a0.ne (Fl.mk (k := .f32) 0 (by decide)))) (some false)).bind fun j4 => some j4

theorem ok_impl_isLength (K : Nat) (a0 : F32) (o : (Bool)) (h : impl_isLength K a0 = some o) : CallOK Try.prog 99 [.one (.flt .f32 a0.bits)] [.one (.bool o)] := by
  refine callOK_of_AW Try.func99 rfl (by kernel_rfl) (Nat.le_of_ble_eq_true (by kernel_rfl)) ?_
  intro w0
  unfold impl_isLength at h
  refine AW.sA ⟨[(0, (vc (.flt .f32 a0.bits)))], []⟩ (Tt ∧ Tt) [] [0] [] ⟨tr, tr⟩ ?_
  refine AW.seq ?_
  obtain ⟨v1, e2, h⟩ := bind_some h
  obtain ⟨j4, e5, h⟩ := bind_some h
  refine AW.join1 (s2 := ⟨[(2, (vB j4))], []⟩) ?_ ?_
  · rcases ite2_cases e5 with ⟨b3, e5⟩ | ⟨b3, e5⟩
    · replace e5 := some_eq e5
      subst e5
      exact AW.rA ⟨[(2, (vB (a0.ne (Fl.mk (k := .f32) 0 (by decide)))))], []⟩ (Tt ∧ (((eF a0) ∧ Tt) ∧ CallOK Try.prog 103 [.one (.flt .f32 a0.bits)] [.one (.bool v1)]) ∧ (Tt ∧ v1 = true) ∧ T4 Tt) [.no, .call [.one (.flt .f32 a0.bits)] [.one (.bool v1)] [[.view]], .dec true] [2] [] ⟨tr, ⟨⟨rfl, tr⟩, ok_impl_IsFinite K a0 v1 e2⟩, ⟨tr, b3⟩, tr, tr, tr, tr, tr⟩ ⟨rfl, rfl⟩
    · replace e5 := some_eq e5
      subst e5
      exact AW.rA ⟨[(2, (vB false))], []⟩ (Tt ∧ (((eF a0) ∧ Tt) ∧ CallOK Try.prog 103 [.one (.flt .f32 a0.bits)] [.one (.bool v1)]) ∧ (Tt ∧ v1 = false) ∧ T4 Tt) [.no, .call [.one (.flt .f32 a0.bits)] [.one (.bool v1)] [[.view]], .dec false] [2] [] ⟨tr, ⟨⟨rfl, tr⟩, ok_impl_IsFinite K a0 v1 e2⟩, ⟨tr, b3⟩, tr, tr, tr, tr, tr⟩ ⟨rfl, rfl⟩
  refine thenQ_normal ?_
  refine AW.ret ?_
  replace h := some_eq h
  subst h
  exact ⟨.inr rfl, retOK_of [(.one (.c (.bool j4)))] (by kernel_rfl) ⟨⟨rfl, tr⟩, tr⟩ (of_decide_eq_true (by kernel_rfl))⟩

/-! impl.NoTurn -/
def impl_NoTurn (_K : Nat) : Option (Turn) :=
  some (Turn.mk (Fl.mk (k := .f32) 1065353216 (by decide)) (default : F32) (default : F32) (default : F32))

theorem ok_impl_NoTurn (K : Nat) (o : (Turn)) (h : impl_NoTurn K  = some o) : CallOK Try.prog 100 [] [.agg (cs_Turn o)] := by
  refine callOK_of_AW Try.func100 rfl (by kernel_rfl) (Nat.le_of_ble_eq_true (by kernel_rfl)) ?_
  intro w0
  unfold impl_NoTurn at h
  refine AW.sC (Tt ∧ Tt) [.box 1] [0] [1] ⟨tr, tr⟩ ?_
  let z1 := cF (default : F32)
  let z2 := cF (Fl.mk (k := .f32) 1065353216 (by decide))
  refine AW.sA ⟨[(0, (vp 1 0))], [(1, (.box [z2, z1, z1, z1]))]⟩ (T2 Tt) [] [0] [1] ⟨tr, tr, tr⟩ ?_
  refine AW.ret ?_
  replace h := some_eq h
  subst h
  exact ⟨.inr rfl, retOK_of [(.agg [z2, z1, z1, z1])] (by kernel_rfl) ⟨⟨⟨rfl, tr⟩, ⟨rfl, tr⟩, ⟨rfl, tr⟩, ⟨rfl, tr⟩, tr⟩, tr⟩ (of_decide_eq_true (by kernel_rfl))⟩

/-! impl.MendTurn -/
def impl_MendTurn (K : Nat) (a0 : Turn) : Option (Turn) :=
  (impl_LengthOfTurn K a0).bind fun v1 => (impl_isLength K v1).bind fun v3 => ite2 ((!v3)) ((impl_NoTurn K ).bind fun v6 => some v6) (some (Turn.mk (a0.W.div v1) (a0.X.div v1) (a0.Y.div v1) (a0.Z.div v1)))

theorem ok_impl_MendTurn (K : Nat) (a0 : Turn) (o : (Turn)) (h : impl_MendTurn K a0 = some o) : CallOK Try.prog 90 [.agg (cs_Turn a0)] [.agg (cs_Turn o)] := by
  refine callOK_of_AW Try.func90 rfl (by kernel_rfl) (Nat.le_of_ble_eq_true (by kernel_rfl)) ?_
  intro w0
  unfold impl_MendTurn at h
  refine AW.sC (T2 Tt) [.box 1, .box 2] [1, 2] [1, 2] ⟨tr, tr, tr⟩ ?_
  refine AW.seq ?_
  obtain ⟨v1, e2, h⟩ := bind_some h
  let z1 : List CT := [.one (.flt .f32 v1.bits)]
  refine AW.tC (Tt ∧ ((((eF a0.W) ∧ (eF a0.X) ∧ (eF a0.Y) ∧ (eF a0.Z) ∧ Tt) ∧ Tt) ∧ CallOK Try.prog 98 [.agg (cs_Turn a0)] z1) ∧ Tt ∧ Tt) [.no, .call [.agg (cs_Turn a0)] z1 [[.view]]] [1, 2, 3] [1, 2] ⟨tr, ⟨⟨⟨rfl, rfl, rfl, rfl, tr⟩, tr⟩, ok_impl_LengthOfTurn K a0 v1 e2⟩, tr, tr⟩ ?_
  refine AW.seq ?_
  refine AW.seq ?_
  obtain ⟨v3, e4, h⟩ := bind_some h
  let z2 := cF (default : F32)
  refine AW.tA ⟨[(1, (vp 1 0)), (2, (vp 2 0)), (3, (vc (.flt .f32 v1.bits))), (8, (vB (!v3)))], [(1, (.box [(cF a0.W), (cF a0.X), (cF a0.Y), (cF a0.Z)])), (2, (.box [z2, z2, z2, z2]))]⟩ (Tt ∧ (((eF v1) ∧ Tt) ∧ CallOK Try.prog 99 z1 [.one (.bool v3)]) ∧ Tt ∧ Tt) [.no, .call z1 [.one (.bool v3)] [[.view]]] [1, 2, 3, 8] [1, 2] ⟨tr, ⟨⟨rfl, tr⟩, ok_impl_isLength K v1 v3 e4⟩, tr, tr⟩ ?_
  rcases ite2_cases h with ⟨b5, h⟩ | ⟨b5, h⟩
  · refine AW.cond_t rfl b5 ?_
    refine AW.seq ?_
    obtain ⟨v6, e7, h⟩ := bind_some h
    refine AW.tA ⟨[(2, (vp 2 0))], [(2, (.box [(cF v6.W), (cF v6.X), (cF v6.Y), (cF v6.Z)]))]⟩ (((Tt) ∧ CallOK Try.prog 100 [] [.agg (cs_Turn v6)]) ∧ Tt ∧ Tt) [.call [] [.agg (cs_Turn v6)] [[.view, .view, .view, .view]]] [2] [2] ⟨⟨tr, ok_impl_NoTurn K v6 e7⟩, tr, tr⟩ ?_
    refine AW.ret ?_
    refine thenQ_ret ?_
    replace h := some_eq h
    subst h
    exact ⟨.inr rfl, retOK_of [(.agg [(cF v6.W), (cF v6.X), (cF v6.Y), (cF v6.Z)])] (by kernel_rfl) ⟨⟨⟨rfl, tr⟩, ⟨rfl, tr⟩, ⟨rfl, tr⟩, ⟨rfl, tr⟩, tr⟩, tr⟩ (of_decide_eq_true (by kernel_rfl))⟩
  · refine AW.cond_f rfl b5 ?_
    refine AW.skip ?_
    refine thenQ_normal ?_
    refine AW.sA ⟨[(2, (vp 2 0))], [(2, (.box [(cF (a0.W.div v1)), (cF (a0.X.div v1)), (cF (a0.Y.div v1)), (cF (a0.Z.div v1))]))]⟩ (T2 (T4 (T4 (T4 (T4 Tt))))) [] [2] [2] ⟨tr, tr, tr, tr, tr, tr, tr, tr, tr, tr, tr, tr, tr, tr, tr, tr, tr, tr, tr⟩ ?_
    refine AW.ret ?_
    replace h := some_eq h
    subst h
    exact ⟨.inr rfl, retOK_of [(.agg [(cF (a0.W.div v1)), (cF (a0.X.div v1)), (cF (a0.Y.div v1)), (cF (a0.Z.div v1))])] (by kernel_rfl) ⟨⟨⟨rfl, tr⟩, ⟨rfl, tr⟩, ⟨rfl, tr⟩, ⟨rfl, tr⟩, tr⟩, tr⟩ (of_decide_eq_true (by kernel_rfl))⟩

/-! impl.NearTurn -/
def impl_NearTurn (K : Nat) (a0 : Turn) (a1 : Turn) (a2 : F32) : Option (Turn) :=
  (impl_InnerOfTurns K a0 a1).bind fun v1 => ite2 ((v1.lt' (Fl.mk (k := .f32) 0 (by decide)))) ((impl_Turn_opposite K a1).bind fun v4 => (impl_between K a0.W v4.W a2).bind fun v6 => (impl_between K a0.X v4.X a2).bind fun v8 => (impl_between K a0.Y v4.Y a2).bind fun v10 => (impl_between K a0.Z v4.Z a2).bind fun v12 => (impl_MendTurn K (Turn.mk v6 v8 v10 v12)).bind fun v14 => some v14) ((impl_between K a0.W a1.W a2).bind fun v16 => (impl_between K a0.X a1.X a2).bind fun v18 => (impl_between K a0.Y a1.Y a2).bind fun v20 => (impl_between K a0.Z a1.Z a2).bind fun v22 => (impl_MendTurn K (Turn.mk v16 v18 v20 v22)).bind fun v24 => some v24)

theorem ok_impl_NearTurn (K : Nat) (a0 : Turn) (a1 : Turn) (a2 : F32) (o : (Turn)) (h : impl_NearTurn K a0 a1 a2 = some o) : CallOK Try.prog 72 [.agg (cs_Turn a0), .agg (cs_Turn a1), .one (.flt .f32 a2.bits)] [.agg (cs_Turn o)] := by
  refine callOK_of_AW Try.func72 rfl (by kernel_rfl) (Nat.le_of_ble_eq_true (by kernel_rfl)) ?_
  intro w0
  unfold impl_NearTurn at h
  refine AW.sC (Tt ∧ T2 Tt) [.box 1, .box 2, .box 3] [2, 3, 4, 6] [1, 2, 3] ⟨tr, tr, tr, tr⟩ ?_
  refine AW.seq ?_
  refine AW.seq ?_
  obtain ⟨v1, e2, h⟩ := bind_some h
  let z1 := cF (default : F32)
  let z10 := (eF a1.W) ∧ (eF a1.X) ∧ (eF a1.Y) ∧ (eF a1.Z) ∧ Tt
  let z13 : List CT := [.agg (cs_Turn a0), .agg (cs_Turn a1)]
  refine AW.tA ⟨[(2, (vc (.flt .f32 a2.bits))), (3, (vp 1 0)), (4, (vp 2 0)), (6, (vp 3 0)), (10, (vB (v1.lt' (Fl.mk (k := .f32) 0 (by decide)))))], [(1, (.box [(cF a0.W), (cF a0.X), (cF a0.Y), (cF a0.Z)])), (2, (.box [(cF a1.W), (cF a1.X), (cF a1.Y), (cF a1.Z)])), (3, (.box [z1, z1, z1, z1]))]⟩ (T2 (((((eF a0.W) ∧ (eF a0.X) ∧ (eF a0.Y) ∧ (eF a0.Z) ∧ Tt) ∧ z10 ∧ Tt) ∧ CallOK Try.prog 88 z13 [.one (.flt .f32 v1.bits)]) ∧ Tt ∧ Tt)) [.no, .no, .call z13 [.one (.flt .f32 v1.bits)] [[.view]]] [2, 3, 4, 6, 10] [1, 2, 3] ⟨tr, tr, ⟨⟨⟨rfl, rfl, rfl, rfl, tr⟩, ⟨rfl, rfl, rfl, rfl, tr⟩, tr⟩, ok_impl_InnerOfTurns K a0 a1 v1 e2⟩, tr, tr⟩ ?_
  rcases ite2_cases h with ⟨b3, h⟩ | ⟨b3, h⟩
  · refine AW.cond_t rfl b3 ?_
    obtain ⟨v4, e5, h⟩ := bind_some h
    refine AW.tA ⟨[(2, (vc (.flt .f32 a2.bits))), (3, (vp 1 0)), (4, (vp 2 0)), (6, (vp 3 0))], [(1, (.box [(cF a0.W), (cF a0.X), (cF a0.Y), (cF a0.Z)])), (2, (.box [(cF v4.W), (cF v4.X), (cF v4.Y), (cF v4.Z)])), (3, (.box [z1, z1, z1, z1]))]⟩ (Tt ∧ ((z10 ∧ Tt) ∧ CallOK Try.prog 89 [.agg (cs_Turn a1)] [.agg (cs_Turn v4)]) ∧ Tt ∧ Tt) [.no, .call [.agg (cs_Turn a1)] [.agg (cs_Turn v4)] [[.view, .view, .view, .view]]] [2, 3, 4, 6] [1, 2, 3] ⟨tr, ⟨⟨⟨rfl, rfl, rfl, rfl, tr⟩, tr⟩, ok_impl_Turn_opposite K a1 v4 e5⟩, tr, tr⟩ ?_
    refine AW.seq ?_
    obtain ⟨v6, e7, h⟩ := bind_some h
    obtain ⟨v8, e9, h⟩ := bind_some h
    obtain ⟨v10, e11, h⟩ := bind_some h
    obtain ⟨v12, e13, h⟩ := bind_some h
    obtain ⟨v14, e15, h⟩ := bind_some h
    let z2 : List CT := [.one (.flt .f32 a0.W.bits), .one (.flt .f32 v4.W.bits), .one (.flt .f32 a2.bits)]
    let z3 : List CT := [.one (.flt .f32 a0.X.bits), .one (.flt .f32 v4.X.bits), .one (.flt .f32 a2.bits)]
    let z4 : List CT := [.one (.flt .f32 a0.Y.bits), .one (.flt .f32 v4.Y.bits), .one (.flt .f32 a2.bits)]
    let z5 : List CT := [.one (.flt .f32 a0.Z.bits), .one (.flt .f32 v4.Z.bits), .one (.flt .f32 a2.bits)]
    let z12 := Turn.mk v6 v8 v10 v12
    refine AW.dA ⟨[(6, (vp 3 0))], [(3, (.box [(cF v14.W), (cF v14.X), (cF v14.Y), (cF v14.Z)]))]⟩ ((Tt ∧ T4 ((((eF a0.W) ∧ (eF v4.W) ∧ (eF a2) ∧ Tt) ∧ CallOK Try.prog 91 z2 [.one (.flt .f32 v6.bits)]) ∧ Tt ∧ T4 ((((eF a0.X) ∧ (eF v4.X) ∧ (eF a2) ∧ Tt) ∧ CallOK Try.prog 91 z3 [.one (.flt .f32 v8.bits)]) ∧ Tt ∧ T4 ((((eF a0.Y) ∧ (eF v4.Y) ∧ (eF a2) ∧ Tt) ∧ CallOK Try.prog 91 z4 [.one (.flt .f32 v10.bits)]) ∧ Tt ∧ T4 ((((eF a0.Z) ∧ (eF v4.Z) ∧ (eF a2) ∧ Tt) ∧ CallOK Try.prog 91 z5 [.one (.flt .f32 v12.bits)]) ∧ Tt ∧ ((((eF v6) ∧ (eF v8) ∧ (eF v10) ∧ (eF v12) ∧ Tt) ∧ Tt) ∧ CallOK Try.prog 90 [.agg (cs_Turn z12)] [.agg (cs_Turn v14)]) ∧ Tt))))) ∧ (Tt ∧ Tt)) 26 [.no, .no, .no, .no, .no, .call z2 [.one (.flt .f32 v6.bits)] [[.view]], .no, .no, .no, .no, .no, .call z3 [.one (.flt .f32 v8.bits)] [[.view]], .no, .no, .no, .no, .no, .call z4 [.one (.flt .f32 v10.bits)] [[.view]], .no, .no, .no, .no, .no, .call z5 [.one (.flt .f32 v12.bits)] [[.view]], .no, .call [.agg (cs_Turn z12)] [.agg (cs_Turn v14)] [[.view, .view, .view, .view]]] [6] [3] ⟨⟨tr, tr, tr, tr, tr, ⟨⟨rfl, rfl, rfl, tr⟩, ok_impl_between K a0.W v4.W a2 v6 e7⟩, tr, tr, tr, tr, tr, ⟨⟨rfl, rfl, rfl, tr⟩, ok_impl_between K a0.X v4.X a2 v8 e9⟩, tr, tr, tr, tr, tr, ⟨⟨rfl, rfl, rfl, tr⟩, ok_impl_between K a0.Y v4.Y a2 v10 e11⟩, tr, tr, tr, tr, tr, ⟨⟨rfl, rfl, rfl, tr⟩, ok_impl_between K a0.Z v4.Z a2 v12 e13⟩, tr, ⟨⟨⟨rfl, rfl, rfl, rfl, tr⟩, tr⟩, ok_impl_MendTurn K z12 v14 e15⟩, tr⟩, ⟨tr, tr⟩⟩ ?_
    refine thenQ_normal ?_
    refine AW.ret ?_
    replace h := some_eq h
    subst h
    exact ⟨.inr rfl, retOK_of [(.agg [(cF v14.W), (cF v14.X), (cF v14.Y), (cF v14.Z)])] (by kernel_rfl) ⟨⟨⟨rfl, tr⟩, ⟨rfl, tr⟩, ⟨rfl, tr⟩, ⟨rfl, tr⟩, tr⟩, tr⟩ (of_decide_eq_true (by kernel_rfl))⟩
  · refine AW.cond_f rfl b3 ?_
    refine AW.skip ?_
    refine thenQ_normal ?_
    refine AW.seq ?_
    obtain ⟨v16, e17, h⟩ := bind_some h
    obtain ⟨v18, e19, h⟩ := bind_some h
    obtain ⟨v20, e21, h⟩ := bind_some h
    obtain ⟨v22, e23, h⟩ := bind_some h
    obtain ⟨v24, e25, h⟩ := bind_some h
    let z6 : List CT := [.one (.flt .f32 a0.W.bits), .one (.flt .f32 a1.W.bits), .one (.flt .f32 a2.bits)]
    let z7 : List CT := [.one (.flt .f32 a0.X.bits), .one (.flt .f32 a1.X.bits), .one (.flt .f32 a2.bits)]
    let z8 : List CT := [.one (.flt .f32 a0.Y.bits), .one (.flt .f32 a1.Y.bits), .one (.flt .f32 a2.bits)]
    let z9 : List CT := [.one (.flt .f32 a0.Z.bits), .one (.flt .f32 a1.Z.bits), .one (.flt .f32 a2.bits)]
    let z11 := Turn.mk v16 v18 v20 v22
    refine AW.dA ⟨[(6, (vp 3 0))], [(3, (.box [(cF v24.W), (cF v24.X), (cF v24.Y), (cF v24.Z)]))]⟩ ((Tt ∧ T4 ((((eF a0.W) ∧ (eF a1.W) ∧ (eF a2) ∧ Tt) ∧ CallOK Try.prog 91 z6 [.one (.flt .f32 v16.bits)]) ∧ Tt ∧ T4 ((((eF a0.X) ∧ (eF a1.X) ∧ (eF a2) ∧ Tt) ∧ CallOK Try.prog 91 z7 [.one (.flt .f32 v18.bits)]) ∧ Tt ∧ T4 ((((eF a0.Y) ∧ (eF a1.Y) ∧ (eF a2) ∧ Tt) ∧ CallOK Try.prog 91 z8 [.one (.flt .f32 v20.bits)]) ∧ Tt ∧ T4 ((((eF a0.Z) ∧ (eF a1.Z) ∧ (eF a2) ∧ Tt) ∧ CallOK Try.prog 91 z9 [.one (.flt .f32 v22.bits)]) ∧ Tt ∧ ((((eF v16) ∧ (eF v18) ∧ (eF v20) ∧ (eF v22) ∧ Tt) ∧ Tt) ∧ CallOK Try.prog 90 [.agg (cs_Turn z11)] [.agg (cs_Turn v24)]) ∧ Tt))))) ∧ (Tt ∧ Tt)) 26 [.no, .no, .no, .no, .no, .call z6 [.one (.flt .f32 v16.bits)] [[.view]], .no, .no, .no, .no, .no, .call z7 [.one (.flt .f32 v18.bits)] [[.view]], .no, .no, .no, .no, .no, .call z8 [.one (.flt .f32 v20.bits)] [[.view]], .no, .no, .no, .no, .no, .call z9 [.one (.flt .f32 v22.bits)] [[.view]], .no, .call [.agg (cs_Turn z11)] [.agg (cs_Turn v24)] [[.view, .view, .view, .view]]] [6] [3] ⟨⟨tr, tr, tr, tr, tr, ⟨⟨rfl, rfl, rfl, tr⟩, ok_impl_between K a0.W a1.W a2 v16 e17⟩, tr, tr, tr, tr, tr, ⟨⟨rfl, rfl, rfl, tr⟩, ok_impl_between K a0.X a1.X a2 v18 e19⟩, tr, tr, tr, tr, tr, ⟨⟨rfl, rfl, rfl, tr⟩, ok_impl_between K a0.Y a1.Y a2 v20 e21⟩, tr, tr, tr, tr, tr, ⟨⟨rfl, rfl, rfl, tr⟩, ok_impl_between K a0.Z a1.Z a2 v22 e23⟩, tr, ⟨⟨⟨rfl, rfl, rfl, rfl, tr⟩, tr⟩, ok_impl_MendTurn K z11 v24 e25⟩, tr⟩, ⟨tr, tr⟩⟩ ?_
    refine thenQ_normal ?_
    refine AW.ret ?_
    replace h := some_eq h
    subst h
    exact ⟨.inr rfl, retOK_of [(.agg [(cF v24.W), (cF v24.X), (cF v24.Y), (cF v24.Z)])] (by kernel_rfl) ⟨⟨⟨rfl, tr⟩, ⟨rfl, tr⟩, ⟨rfl, tr⟩, ⟨rfl, tr⟩, tr⟩, tr⟩ (of_decide_eq_true (by kernel_rfl))⟩

/-! impl.turnTrack$3 -/
def impl_turnTrack_3 (K : Nat) (a0 : Key) (a1 : Key) (a2 : F32) : Option (Key) :=
  (impl_NearTurn K a0.Turn a1.Turn a2).bind fun v1 => some (Key.mk a0.At v1)

theorem ok_impl_turnTrack_3 (K : Nat) (a0 : Key) (a1 : Key) (a2 : F32) (o : (Key)) (h : impl_turnTrack_3 K a0 a1 a2 = some o) : CallOK Try.prog 71 [.agg (cs_Key a0), .agg (cs_Key a1), .one (.flt .f32 a2.bits)] [.agg (cs_Key o)] := by
  refine callOK_of_AW Try.func71 rfl (by kernel_rfl) (Nat.le_of_ble_eq_true (by kernel_rfl)) ?_
  intro w0
  unfold impl_turnTrack_3 at h
  refine AW.sC (Tt ∧ T2 Tt) [.box 1, .box 2, .box 3] [2, 3, 4, 6] [1, 2, 3] ⟨tr, tr, tr, tr⟩ ?_
  refine AW.seq ?_
  obtain ⟨v1, e2, h⟩ := bind_some h
  let z1 : List CT := [.agg (cs_Turn a0.Turn), .agg (cs_Turn a1.Turn), .one (.flt .f32 a2.bits)]
  refine AW.tC (Tt ∧ T4 (((((eF a0.Turn.W) ∧ (eF a0.Turn.X) ∧ (eF a0.Turn.Y) ∧ (eF a0.Turn.Z) ∧ Tt) ∧ ((eF a1.Turn.W) ∧ (eF a1.Turn.X) ∧ (eF a1.Turn.Y) ∧ (eF a1.Turn.Z) ∧ Tt) ∧ (eF a2) ∧ Tt) ∧ CallOK Try.prog 72 z1 [.agg (cs_Turn v1)]) ∧ T2 Tt)) [.no, .no, .no, .no, .no, .call z1 [.agg (cs_Turn v1)] [[.view, .view, .view, .view]]] [3, 6] [1, 3] ⟨tr, tr, tr, tr, tr, ⟨⟨⟨rfl, rfl, rfl, rfl, tr⟩, ⟨rfl, rfl, rfl, rfl, tr⟩, rfl, tr⟩, ok_impl_NearTurn K a0.Turn a1.Turn a2 v1 e2⟩, tr, tr, tr⟩ ?_
  refine AW.sA ⟨[(6, (vp 3 0))], [(3, (.box [(cI a0.At), (cF v1.W), (cF v1.X), (cF v1.Y), (cF v1.Z)]))]⟩ (T2 Tt) [] [6] [3] ⟨tr, tr, tr⟩ ?_
  refine AW.ret ?_
  replace h := some_eq h
  subst h
  exact ⟨.inr rfl, retOK_of [(.agg [(cI a0.At), (cF v1.W), (cF v1.X), (cF v1.Y), (cF v1.Z)])] (by kernel_rfl) ⟨⟨⟨rfl, tr⟩, ⟨rfl, tr⟩, ⟨rfl, tr⟩, ⟨rfl, tr⟩, ⟨rfl, tr⟩, tr⟩, tr⟩ (of_decide_eq_true (by kernel_rfl))⟩

/-! (impl.track[impl.Key]).sample -/
def impl_track_impl_Key_sample_l1 (K : Nat) (a1 : (List Key)) (a2 : Int) (a3 : Int) : Nat → Int → Option (Key)
  | 0, _ => none
  | k + 1, x2 => (ite2 ((decide (x2 < (a1.length : Int)))) (chk (0 ≤ x2 ∧ x2 < (a1.length : Int)) ((impl_turnTrack_1 K (a1.getD x2.toNat default)).bind fun v5 => some (decide (v5 ≤ a3)))) (some false)).bind fun j7 => ite2 (j7) (impl_track_impl_Key_sample_l1 K a1 a2 a3 k (IntKind.i64.wrap (x2 + (1 : Int)))) (ite2 ((x2 == (0 : Int))) (chk (0 ≤ (0 : Int) ∧ (0 : Int) < (a1.length : Int)) ((impl_turnTrack_2 K (a1.getD ((0 : Int).toNat) default) a3).bind fun v12 => some v12)) ((ite2 ((x2 == (a1.length : Int))) (some true) (chk (0 ≤ (IntKind.i64.wrap (x2 - (1 : Int))) ∧ (IntKind.i64.wrap (x2 - (1 : Int))) < (a1.length : Int)) ((impl_turnTrack_1 K (a1.getD ((IntKind.i64.wrap (x2 - (1 : Int))).toNat) default)).bind fun v16 => ite2 ((v16 == a3)) (some true) (some (a2 == (0 : Int)))))).bind fun j19 => ite2 (j19) (chk (0 ≤ (IntKind.i64.wrap (x2 - (1 : Int))) ∧ (IntKind.i64.wrap (x2 - (1 : Int))) < (a1.length : Int)) ((impl_turnTrack_2 K (a1.getD ((IntKind.i64.wrap (x2 - (1 : Int))).toNat) default) a3).bind fun v23 => some v23)) (chk (0 ≤ (IntKind.i64.wrap (x2 - (1 : Int))) ∧ (IntKind.i64.wrap (x2 - (1 : Int))) < (a1.length : Int)) (chk (0 ≤ x2 ∧ x2 < (a1.length : Int)) ((impl_turnTrack_1 K (a1.getD ((IntKind.i64.wrap (x2 - (1 : Int))).toNat) default)).bind fun v27 => (impl_turnTrack_1 K (a1.getD x2.toNat default)).bind fun v29 => (impl_share K v27 a3 v29).bind fun v31 => ite2 ((a2 == (2 : Int))) ((impl_turnTrack_3 K (a1.getD ((IntKind.i64.wrap (x2 - (1 : Int))).toNat) default) (a1.getD x2.toNat default) ((v31.mul v31).mul ((Fl.mk (k := .f32) 1077936128 (by decide)).sub ((Fl.mk (k := .f32) 1073741824 (by decide)).mul v31)))).bind fun v34 => (impl_turnTrack_2 K v34 a3).bind fun v36 => some v36) ((impl_turnTrack_3 K (a1.getD ((IntKind.i64.wrap (x2 - (1 : Int))).toNat) default) (a1.getD x2.toNat default) v31).bind fun v38 => (impl_turnTrack_2 K v38 a3).bind fun v40 => some v40))))))

def impl_track_impl_Key_sample (K : Nat) (a1 : (List Key)) (a2 : Int) (a3 : Int) : Option (Key) :=
  impl_track_impl_Key_sample_l1 K a1 a2 a3 K (0 : Int)

theorem ok_impl_track_impl_Key_sample (K : Nat) (a1 : (List Key)) (a2 : Int) (a3 : Int) (o : (Key)) (h : impl_track_impl_Key_sample K a1 a2 a3 = some o) : CallOK Try.prog 59 [.agg [(.fn 69 0 fun _ => .nilptr), (.fn 70 0 fun _ => .nilptr), (.fn 71 0 fun _ => .nilptr)], .one (sl 5 cs_Key a1), .one (.int .i64 a2), .one (.int .i64 a3)] [.agg (cs_Key o)] := by
  refine callOK_of_AW Try.func59 rfl (by kernel_rfl) (Nat.le_of_ble_eq_true (by kernel_rfl)) ?_
  intro w0
  unfold impl_track_impl_Key_sample at h
  refine AW.sC (T2 Tt) [.box 1, .box 2] [1, 2, 3, 4, 8] [1, 2] ⟨tr, tr, tr⟩ ?_
  let z3 := cF (default : F32)
  let z10 := vc (sl 5 cs_Key a1)
  let z12 := cI (0 : Int)
  refine AW.sA ⟨[(1, z10), (2, (vI a2)), (3, (vI a3)), (4, (vp 1 0)), (8, (vp 2 0)), (9, (vI (0 : Int)))], [(1, (.box [(.c (.fn 69 0 fun _ => .nilptr)), (.c (.fn 70 0 fun _ => .nilptr)), (.c (.fn 71 0 fun _ => .nilptr))])), (2, (.box [z12, z3, z3, z3, z3]))]⟩ (Tt ∧ Tt) [] [1, 2, 3, 4, 8, 9] [1, 2] ⟨tr, tr⟩ ?_
  refine AW.seq ?_
  refine AW.block ?_
  refine AW.loopQ (σ := Nat × Int) (fun p => ⟨[(1, z10), (2, (vI a2)), (3, (vI a3)), (4, (vp 1 0)), (8, (vp 2 0)), (9, (vI p.2))], [(1, (.box [(.c (.fn 69 0 fun _ => .nilptr)), (.c (.fn 70 0 fun _ => .nilptr)), (.c (.fn 71 0 fun _ => .nilptr))])), (2, (.box [z12, z3, z3, z3, z3]))]⟩) (fun p => impl_track_impl_Key_sample_l1 K a1 a2 a3 p.1 p.2 = some o) (fun p => p.1) (K, (0 : Int)) h ?_
  clear h
  rintro ⟨k, x2⟩ h
  replace h : impl_track_impl_Key_sample_l1 K a1 a2 a3 k x2 = some o := h
  show AW _ _ (⟨[(1, z10), (2, (vI a2)), (3, (vI a3)), (4, (vp 1 0)), (8, (vp 2 0)), (9, (vI x2))], [(1, (.box [(.c (.fn 69 0 fun _ => .nilptr)), (.c (.fn 70 0 fun _ => .nilptr)), (.c (.fn 71 0 fun _ => .nilptr))])), (2, (.box [z12, z3, z3, z3, z3]))]⟩ : St) _
  obtain _ | k := k
  · rw [impl_track_impl_Key_sample_l1] at h; cases h
  rw [impl_track_impl_Key_sample_l1] at h
  refine AW.seq ?_
  refine AW.seq ?_
  obtain ⟨j7, e8, h⟩ := bind_some h
  refine AW.join1 (s2 := ⟨[(1, z10), (2, (vI a2)), (3, (vI a3)), (4, (vp 1 0)), (8, (vp 2 0)), (9, (vI x2)), (27, (vB j7))], [(1, (.box [(.c (.fn 69 0 fun _ => .nilptr)), (.c (.fn 70 0 fun _ => .nilptr)), (.c (.fn 71 0 fun _ => .nilptr))])), (2, (.box [z12, z3, z3, z3, z3]))]⟩) ?_ ?_
  · rcases ite2_cases e8 with ⟨b3, e8⟩ | ⟨b3, e8⟩
    · obtain ⟨c4, e8⟩ := chk_some e8
      obtain ⟨v5, e6, e8⟩ := bind_some e8
      replace e8 := some_eq e8
      subst e8
      let z13 := a1.getD x2.toNat default
      exact AW.dA ⟨[(1, z10), (2, (vI a2)), (3, (vI a3)), (4, (vp 1 0)), (8, (vp 2 0)), (9, (vI x2)), (27, (vB (decide (v5 ≤ a3))))], [(1, (.box [(.c (.fn 69 0 fun _ => .nilptr)), (.c (.fn 70 0 fun _ => .nilptr)), (.c (.fn 71 0 fun _ => .nilptr))])), (2, (.box [z12, z3, z3, z3, z3]))]⟩ ((T4 ((Tt ∧ (decide (x2 < (a1.length : Int))) = true) ∧ T4 ((0 ≤ x2 ∧ x2 < (a1.length : Int)) ∧ Tt ∧ ((((eI (z13.At)) ∧ (eF ((z13.Turn).W)) ∧ (eF ((z13.Turn).X)) ∧ (eF ((z13.Turn).Y)) ∧ (eF ((z13.Turn).Z)) ∧ Tt) ∧ Tt) ∧ CallOK Try.prog 69 [.agg (cs_Key z13)] [.one (.int .i64 v5)]) ∧ Tt ∧ T2 Tt))) ∧ (Tt)) 15 [.no, .no, .no, .no, .dec true, .no, .no, .no, .no, .no, .no, .call [.agg (cs_Key z13)] [.one (.int .i64 v5)] [[.view]]] [1, 2, 3, 4, 8, 9, 27] [1, 2] ⟨⟨tr, tr, tr, tr, ⟨tr, b3⟩, tr, tr, tr, tr, c4, tr, ⟨⟨⟨rfl, rfl, rfl, rfl, rfl, tr⟩, tr⟩, ok_impl_turnTrack_1 K z13 v5 e6⟩, tr, tr, tr, tr⟩, tr⟩ ⟨rfl, rfl⟩
    · replace e8 := some_eq e8
      subst e8
      exact AW.dA ⟨[(1, z10), (2, (vI a2)), (3, (vI a3)), (4, (vp 1 0)), (8, (vp 2 0)), (9, (vI x2)), (27, (vB false))], [(1, (.box [(.c (.fn 69 0 fun _ => .nilptr)), (.c (.fn 70 0 fun _ => .nilptr)), (.c (.fn 71 0 fun _ => .nilptr))])), (2, (.box [z12, z3, z3, z3, z3]))]⟩ ((T4 ((Tt ∧ (decide (x2 < (a1.length : Int))) = false) ∧ T2 (T4 (T4 Tt)))) ∧ (Tt)) 15 [.no, .no, .no, .no, .dec false] [1, 2, 3, 4, 8, 9, 27] [1, 2] ⟨⟨tr, tr, tr, tr, ⟨tr, b3⟩, tr, tr, tr, tr, tr, tr, tr, tr, tr, tr, tr⟩, tr⟩ ⟨rfl, rfl⟩
  refine thenQ_normal ?_
  rcases ite2_cases h with ⟨b9, h⟩ | ⟨b9, h⟩
  · refine AW.cond_t rfl b9 ?_
    refine AW.skip ?_
    refine thenQ_normal ?_
    refine AW.block ?_
    let z29 := IntKind.i64.wrap (x2 + (1 : Int))
    refine AW.rA ⟨[(1, z10), (2, (vI a2)), (3, (vI a3)), (4, (vp 1 0)), (8, (vp 2 0)), (9, (vI z29))], [(1, (.box [(.c (.fn 69 0 fun _ => .nilptr)), (.c (.fn 70 0 fun _ => .nilptr)), (.c (.fn 71 0 fun _ => .nilptr))])), (2, (.box [z12, z3, z3, z3, z3]))]⟩ (Tt ∧ T2 Tt) [] [1, 2, 3, 4, 8, 9] [1, 2] ⟨tr, tr, tr, tr⟩ ?_
    refine blockQ_normal ?_
    exact loopQ_normal (k, z29) h (Nat.lt_succ_self k) (Sub.keep [1, 2, 3, 4, 8, 9] [1, 2] (by kernel_rfl) (by kernel_rfl))
  · refine AW.cond_f rfl b9 ?_
    refine AW.exit ?_
    refine thenQ_exit ?_
    refine loopQ_exit ?_
    refine blockQ_exit ?_
    refine thenQ_normal ?_
    refine AW.seq ?_
    refine AW.block ?_
    refine AW.sA ⟨[(1, z10), (2, (vI a2)), (3, (vI a3)), (4, (vp 1 0)), (8, (vp 2 0)), (9, (vI x2)), (30, (vB (x2 == (0 : Int))))], [(1, (.box [(.c (.fn 69 0 fun _ => .nilptr)), (.c (.fn 70 0 fun _ => .nilptr)), (.c (.fn 71 0 fun _ => .nilptr))])), (2, (.box [z12, z3, z3, z3, z3]))]⟩ (Tt ∧ T2 Tt) [] [1, 2, 3, 4, 8, 9, 30] [1, 2] ⟨tr, tr, tr, tr⟩ ?_
    rcases ite2_cases h with ⟨b10, h⟩ | ⟨b10, h⟩
    · refine AW.cond_t rfl b10 ?_
      refine AW.seq ?_
      obtain ⟨c11, h⟩ := chk_some h
      obtain ⟨v12, e13, h⟩ := bind_some h
      let z9 := a1.getD ((0 : Int).toNat) default
      refine AW.dA ⟨[(8, (vp 2 0))], [(2, (.box [(cI v12.At), (cF v12.Turn.W), (cF v12.Turn.X), (cF v12.Turn.Y), (cF v12.Turn.Z)]))]⟩ ((Tt ∧ T2 ((0 ≤ (0 : Int) ∧ (0 : Int) < (a1.length : Int)) ∧ T2 (((((eI (z9.At)) ∧ (((.flt .f32 ((z9.Turn).W).bits) : C) = (.flt .f32 ((z9.Turn).W).bits)) ∧ (((.flt .f32 ((z9.Turn).X).bits) : C) = (.flt .f32 ((z9.Turn).X).bits)) ∧ (((.flt .f32 ((z9.Turn).Y).bits) : C) = (.flt .f32 ((z9.Turn).Y).bits)) ∧ (((.flt .f32 ((z9.Turn).Z).bits) : C) = (.flt .f32 ((z9.Turn).Z).bits)) ∧ Tt) ∧ (eI a3) ∧ Tt) ∧ CallOK Try.prog 70 [.agg (cs_Key z9), .one (.int .i64 a3)] [.agg (cs_Key v12)]) ∧ Tt))) ∧ (Tt ∧ Tt)) 7 [.no, .no, .no, .no, .no, .no, .call [.agg (cs_Key z9), .one (.int .i64 a3)] [.agg (cs_Key v12)] [[.view, .view, .view, .view, .view]]] [8] [2] ⟨⟨tr, tr, tr, c11, tr, tr, ⟨⟨⟨rfl, rfl, rfl, rfl, rfl, tr⟩, rfl, tr⟩, ok_impl_turnTrack_2 K z9 a3 v12 e13⟩, tr⟩, ⟨tr, tr⟩⟩ ?_
      refine thenQ_normal ?_
      refine AW.ret ?_
      refine blockQ_ret ?_
      refine thenQ_ret ?_
      replace h := some_eq h
      subst h
      exact ⟨.inr rfl, retOK_of [(.agg [(cI v12.At), (cF v12.Turn.W), (cF v12.Turn.X), (cF v12.Turn.Y), (cF v12.Turn.Z)])] (by kernel_rfl) ⟨⟨⟨rfl, tr⟩, ⟨rfl, tr⟩, ⟨rfl, tr⟩, ⟨rfl, tr⟩, ⟨rfl, tr⟩, tr⟩, tr⟩ (of_decide_eq_true (by kernel_rfl))⟩
    · refine AW.cond_f rfl b10 ?_
      refine AW.seq ?_
      obtain ⟨j19, e20, h⟩ := bind_some h
      refine AW.join1 (s2 := ⟨[(1, z10), (2, (vI a2)), (3, (vI a3)), (4, (vp 1 0)), (8, (vp 2 0)), (9, (vI x2)), (40, (vB j19))], [(1, (.box [(.c (.fn 69 0 fun _ => .nilptr)), (.c (.fn 70 0 fun _ => .nilptr)), (.c (.fn 71 0 fun _ => .nilptr))])), (2, (.box [z12, z3, z3, z3, z3]))]⟩) ?_ ?_
      · rcases ite2_cases e20 with ⟨b14, e20⟩ | ⟨b14, e20⟩
        · replace e20 := some_eq e20
          subst e20
          exact AW.dA ⟨[(1, z10), (2, (vI a2)), (3, (vI a3)), (4, (vp 1 0)), (8, (vp 2 0)), (9, (vI x2)), (40, (vB true))], [(1, (.box [(.c (.fn 69 0 fun _ => .nilptr)), (.c (.fn 70 0 fun _ => .nilptr)), (.c (.fn 71 0 fun _ => .nilptr))])), (2, (.box [z12, z3, z3, z3, z3]))]⟩ ((T4 ((Tt ∧ (x2 == (a1.length : Int)) = true) ∧ T4 (T4 (T4 (T4 Tt))))) ∧ (Tt)) 21 [.no, .no, .no, .no, .dec true] [1, 2, 3, 4, 8, 9, 40] [1, 2] ⟨⟨tr, tr, tr, tr, ⟨tr, b14⟩, tr, tr, tr, tr, tr, tr, tr, tr, tr, tr, tr, tr, tr, tr, tr, tr, tr⟩, tr⟩ ⟨rfl, rfl⟩
        · obtain ⟨c15, e20⟩ := chk_some e20
          obtain ⟨v16, e17, e20⟩ := bind_some e20
          rcases ite2_cases e20 with ⟨b18, e20⟩ | ⟨b18, e20⟩
          · replace e20 := some_eq e20
            subst e20
            let z24 := IntKind.i64.wrap (x2 - (1 : Int))
            let z6 := a1.getD (z24.toNat) default
            exact AW.dA ⟨[(1, z10), (2, (vI a2)), (3, (vI a3)), (4, (vp 1 0)), (8, (vp 2 0)), (9, (vI x2)), (40, (vB true))], [(1, (.box [(.c (.fn 69 0 fun _ => .nilptr)), (.c (.fn 70 0 fun _ => .nilptr)), (.c (.fn 71 0 fun _ => .nilptr))])), (2, (.box [z12, z3, z3, z3, z3]))]⟩ ((T4 ((Tt ∧ (x2 == (a1.length : Int)) = false) ∧ Tt ∧ T4 ((0 ≤ z24 ∧ z24 < (a1.length : Int)) ∧ Tt ∧ ((((((.int .i64 (z6.At)) : C) = (.int .i64 (z6.At))) ∧ (((.flt .f32 ((z6.Turn).W).bits) : C) = (.flt .f32 ((z6.Turn).W).bits)) ∧ (((.flt .f32 ((z6.Turn).X).bits) : C) = (.flt .f32 ((z6.Turn).X).bits)) ∧ (((.flt .f32 ((z6.Turn).Y).bits) : C) = (.flt .f32 ((z6.Turn).Y).bits)) ∧ (((.flt .f32 ((z6.Turn).Z).bits) : C) = (.flt .f32 ((z6.Turn).Z).bits)) ∧ Tt) ∧ Tt) ∧ CallOK Try.prog 69 [.agg (cs_Key z6)] [.one (.int .i64 v16)]) ∧ Tt ∧ T2 ((Tt ∧ (v16 == a3) = true) ∧ T4 Tt)))) ∧ (Tt)) 21 [.no, .no, .no, .no, .dec false, .no, .no, .no, .no, .no, .no, .no, .call [.agg (cs_Key z6)] [.one (.int .i64 v16)] [[.view]], .no, .no, .no, .dec true] [1, 2, 3, 4, 8, 9, 40] [1, 2] ⟨⟨tr, tr, tr, tr, ⟨tr, b14⟩, tr, tr, tr, tr, tr, c15, tr, ⟨⟨⟨rfl, rfl, rfl, rfl, rfl, tr⟩, tr⟩, ok_impl_turnTrack_1 K z6 v16 e17⟩, tr, tr, tr, ⟨tr, b18⟩, tr, tr, tr, tr, tr⟩, tr⟩ ⟨rfl, rfl⟩
          · replace e20 := some_eq e20
            subst e20
            let z25 := IntKind.i64.wrap (x2 - (1 : Int))
            let z7 := a1.getD (z25.toNat) default
            exact AW.dA ⟨[(1, z10), (2, (vI a2)), (3, (vI a3)), (4, (vp 1 0)), (8, (vp 2 0)), (9, (vI x2)), (40, (vB (a2 == (0 : Int))))], [(1, (.box [(.c (.fn 69 0 fun _ => .nilptr)), (.c (.fn 70 0 fun _ => .nilptr)), (.c (.fn 71 0 fun _ => .nilptr))])), (2, (.box [z12, z3, z3, z3, z3]))]⟩ ((T4 ((Tt ∧ (x2 == (a1.length : Int)) = false) ∧ Tt ∧ T4 ((0 ≤ z25 ∧ z25 < (a1.length : Int)) ∧ Tt ∧ ((((((.int .i64 (z7.At)) : C) = (.int .i64 (z7.At))) ∧ (((.flt .f32 ((z7.Turn).W).bits) : C) = (.flt .f32 ((z7.Turn).W).bits)) ∧ (((.flt .f32 ((z7.Turn).X).bits) : C) = (.flt .f32 ((z7.Turn).X).bits)) ∧ (((.flt .f32 ((z7.Turn).Y).bits) : C) = (.flt .f32 ((z7.Turn).Y).bits)) ∧ (((.flt .f32 ((z7.Turn).Z).bits) : C) = (.flt .f32 ((z7.Turn).Z).bits)) ∧ Tt) ∧ Tt) ∧ CallOK Try.prog 69 [.agg (cs_Key z7)] [.one (.int .i64 v16)]) ∧ Tt ∧ T2 ((Tt ∧ (v16 == a3) = false) ∧ T4 Tt)))) ∧ (Tt)) 21 [.no, .no, .no, .no, .dec false, .no, .no, .no, .no, .no, .no, .no, .call [.agg (cs_Key z7)] [.one (.int .i64 v16)] [[.view]], .no, .no, .no, .dec false] [1, 2, 3, 4, 8, 9, 40] [1, 2] ⟨⟨tr, tr, tr, tr, ⟨tr, b14⟩, tr, tr, tr, tr, tr, c15, tr, ⟨⟨⟨rfl, rfl, rfl, rfl, rfl, tr⟩, tr⟩, ok_impl_turnTrack_1 K z7 v16 e17⟩, tr, tr, tr, ⟨tr, b18⟩, tr, tr, tr, tr, tr⟩, tr⟩ ⟨rfl, rfl⟩
      refine thenQ_normal ?_
      rcases ite2_cases h with ⟨b21, h⟩ | ⟨b21, h⟩
      · refine AW.cond_t rfl b21 ?_
        refine AW.seq ?_
        obtain ⟨c22, h⟩ := chk_some h
        obtain ⟨v23, e24, h⟩ := bind_some h
        let z22 := IntKind.i64.wrap (x2 - (1 : Int))
        let z5 := a1.getD (z22.toNat) default
        refine AW.dA ⟨[(8, (vp 2 0))], [(2, (.box [(cI v23.At), (cF v23.Turn.W), (cF v23.Turn.X), (cF v23.Turn.Y), (cF v23.Turn.Z)]))]⟩ ((Tt ∧ T4 ((0 ≤ z22 ∧ z22 < (a1.length : Int)) ∧ T2 (((((((.int .i64 (z5.At)) : C) = (.int .i64 (z5.At))) ∧ (((.flt .f32 ((z5.Turn).W).bits) : C) = (.flt .f32 ((z5.Turn).W).bits)) ∧ (((.flt .f32 ((z5.Turn).X).bits) : C) = (.flt .f32 ((z5.Turn).X).bits)) ∧ (((.flt .f32 ((z5.Turn).Y).bits) : C) = (.flt .f32 ((z5.Turn).Y).bits)) ∧ (((.flt .f32 ((z5.Turn).Z).bits) : C) = (.flt .f32 ((z5.Turn).Z).bits)) ∧ Tt) ∧ (eI a3) ∧ Tt) ∧ CallOK Try.prog 70 [.agg (cs_Key z5), .one (.int .i64 a3)] [.agg (cs_Key v23)]) ∧ Tt))) ∧ (Tt ∧ Tt)) 9 [.no, .no, .no, .no, .no, .no, .no, .no, .call [.agg (cs_Key z5), .one (.int .i64 a3)] [.agg (cs_Key v23)] [[.view, .view, .view, .view, .view]]] [8] [2] ⟨⟨tr, tr, tr, tr, tr, c22, tr, tr, ⟨⟨⟨rfl, rfl, rfl, rfl, rfl, tr⟩, rfl, tr⟩, ok_impl_turnTrack_2 K z5 a3 v23 e24⟩, tr⟩, ⟨tr, tr⟩⟩ ?_
        refine thenQ_normal ?_
        refine AW.ret ?_
        refine blockQ_ret ?_
        refine thenQ_ret ?_
        replace h := some_eq h
        subst h
        exact ⟨.inr rfl, retOK_of [(.agg [(cI v23.At), (cF v23.Turn.W), (cF v23.Turn.X), (cF v23.Turn.Y), (cF v23.Turn.Z)])] (by kernel_rfl) ⟨⟨⟨rfl, tr⟩, ⟨rfl, tr⟩, ⟨rfl, tr⟩, ⟨rfl, tr⟩, ⟨rfl, tr⟩, tr⟩, tr⟩ (of_decide_eq_true (by kernel_rfl))⟩
      · refine AW.cond_f rfl b21 ?_
        refine AW.skip ?_
        refine blockQ_normal ?_
        refine thenQ_normal ?_
        refine AW.seq ?_
        obtain ⟨c25, h⟩ := chk_some h
        obtain ⟨c26, h⟩ := chk_some h
        let z23 := IntKind.i64.wrap (x2 - (1 : Int))
        let z1 := a1.getD (z23.toNat) default
        let z2 := a1.getD x2.toNat default
        let z14 := cF ((z1.Turn).W)
        let z15 := cF ((z1.Turn).X)
        let z16 := cF ((z1.Turn).Y)
        let z17 := cF ((z1.Turn).Z)
        let z18 := cF ((z2.Turn).W)
        let z19 := cF ((z2.Turn).X)
        let z20 := cF ((z2.Turn).Y)
        let z21 := cF ((z2.Turn).Z)
        refine AW.heldA (by kernel_rfl) [0, 1, 2, 3, 4, 5, 6, 7, 8] [] 3 [74, 78] [.no, .no, .no, .no, .no, .no, .no, .no, .no, .box 3, .box 4] [10, 11] [3, 4] [2, 3, 4, 8, 10, 11] [1, 2, 3, 4] (s' := ⟨[(2, (vI a2)), (3, (vI a3)), (4, (vp 1 0)), (8, (vp 2 0)), (10, (vp 3 0)), (11, (vp 4 0))], [(1, (.box [(.c (.fn 69 0 fun _ => .nilptr)), (.c (.fn 70 0 fun _ => .nilptr)), (.c (.fn 71 0 fun _ => .nilptr))])), (2, (.box [z12, z3, z3, z3, z3])), (3, (.box [(cI (z1.At)), z14, z15, z16, z17])), (4, (.box [(cI (z2.At)), z18, z19, z20, z21]))]⟩) (ob := (Tt ∧ T2 ((0 ≤ z23 ∧ z23 < (a1.length : Int)) ∧ Tt ∧ T2 ((0 ≤ x2 ∧ x2 < (a1.length : Int)) ∧ Tt ∧ Tt))) ∧ (Zt45 ((⟨[(10, (vp 3 0)), (11, (vp 4 0))], [(3, (.box [(cI (z1.At)), z14, z15, z16, z17])), (4, (.box [(cI (z2.At)), z18, z19, z20, z21]))]⟩ : St) = ⟨[(10, (vp 3 0)), (11, (vp 4 0))], [(3, (.box [(cI (z1.At)), z14, z15, z16, z17])), (4, (.box [(cI (z2.At)), z18, z19, z20, z21]))]⟩)) ∧ (Tt)) (by kernel_rfl) ⟨⟨tr, tr, tr, c25, tr, tr, tr, c26, tr, tr⟩, (zt45 rfl), tr⟩ ?_
        refine thenQ_normal ?_
        refine AW.seq ?_
        obtain ⟨v27, e28, h⟩ := bind_some h
        obtain ⟨v29, e30, h⟩ := bind_some h
        obtain ⟨v31, e32, h⟩ := bind_some h
        let z4 := (((.int .i64 (z1.At)) : C) = (.int .i64 (z1.At))) ∧ (((.flt .f32 ((z1.Turn).W).bits) : C) = (.flt .f32 ((z1.Turn).W).bits)) ∧ (((.flt .f32 ((z1.Turn).X).bits) : C) = (.flt .f32 ((z1.Turn).X).bits)) ∧ (((.flt .f32 ((z1.Turn).Y).bits) : C) = (.flt .f32 ((z1.Turn).Y).bits)) ∧ (((.flt .f32 ((z1.Turn).Z).bits) : C) = (.flt .f32 ((z1.Turn).Z).bits)) ∧ Tt
        let z11 := (eI (z2.At)) ∧ (eF ((z2.Turn).W)) ∧ (eF ((z2.Turn).X)) ∧ (eF ((z2.Turn).Y)) ∧ (eF ((z2.Turn).Z)) ∧ Tt
        let z26 : List CT := [.one (.int .i64 v27), .one (.int .i64 a3), .one (.int .i64 v29)]
        refine AW.dA ⟨[(2, (vI a2)), (3, (vI a3)), (4, (vp 1 0)), (8, (vp 2 0)), (10, (vp 3 0)), (11, (vp 4 0)), (12, (vc (.flt .f32 v31.bits)))], [(1, (.box [(.c (.fn 69 0 fun _ => .nilptr)), (.c (.fn 70 0 fun _ => .nilptr)), (.c (.fn 71 0 fun _ => .nilptr))])), (2, (.box [z12, z3, z3, z3, z3])), (3, (.box [(cI (z1.At)), z14, z15, z16, z17])), (4, (.box [(cI (z2.At)), z18, z19, z20, z21]))]⟩ ((Tt ∧ T2 (((z4 ∧ Tt) ∧ CallOK Try.prog 69 [.agg (cs_Key z1)] [.one (.int .i64 v27)]) ∧ T4 (((z11 ∧ Tt) ∧ CallOK Try.prog 69 [.agg (cs_Key z2)] [.one (.int .i64 v29)]) ∧ (((eI v27) ∧ (eI a3) ∧ (eI v29) ∧ Tt) ∧ CallOK Try.prog 78 z26 [.one (.flt .f32 v31.bits)]) ∧ Tt ∧ Tt))) ∧ (Tt)) 11 [.no, .no, .no, .call [.agg (cs_Key z1)] [.one (.int .i64 v27)] [[.view]], .no, .no, .no, .no, .call [.agg (cs_Key z2)] [.one (.int .i64 v29)] [[.view]], .call z26 [.one (.flt .f32 v31.bits)] [[.view]]] [2, 3, 4, 8, 10, 11, 12] [1, 2, 3, 4] ⟨⟨tr, tr, tr, ⟨⟨⟨rfl, rfl, rfl, rfl, rfl, tr⟩, tr⟩, ok_impl_turnTrack_1 K z1 v27 e28⟩, tr, tr, tr, tr, ⟨⟨⟨rfl, rfl, rfl, rfl, rfl, tr⟩, tr⟩, ok_impl_turnTrack_1 K z2 v29 e30⟩, ⟨⟨rfl, rfl, rfl, tr⟩, ok_impl_share K v27 a3 v29 v31 e32⟩, tr, tr⟩, tr⟩ ?_
        refine thenQ_normal ?_
        refine AW.seq ?_
        refine AW.sA ⟨[(3, (vI a3)), (4, (vp 1 0)), (8, (vp 2 0)), (10, (vp 3 0)), (11, (vp 4 0)), (12, (vc (.flt .f32 v31.bits))), (90, (vB (a2 == (2 : Int))))], [(1, (.box [(.c (.fn 69 0 fun _ => .nilptr)), (.c (.fn 70 0 fun _ => .nilptr)), (.c (.fn 71 0 fun _ => .nilptr))])), (2, (.box [z12, z3, z3, z3, z3])), (3, (.box [(cI (z1.At)), z14, z15, z16, z17])), (4, (.box [(cI (z2.At)), z18, z19, z20, z21]))]⟩ (T2 Tt) [] [3, 4, 8, 10, 11, 12, 90] [1, 2, 3, 4] ⟨tr, tr, tr⟩ ?_
        rcases ite2_cases h with ⟨b33, h⟩ | ⟨b33, h⟩
        · refine AW.cond_t rfl b33 ?_
          let z8 := (v31.mul v31).mul ((Fl.mk (k := .f32) 1077936128 (by decide)).sub ((Fl.mk (k := .f32) 1073741824 (by decide)).mul v31))
          refine AW.tA ⟨[(3, (vI a3)), (4, (vp 1 0)), (8, (vp 2 0)), (10, (vp 3 0)), (11, (vp 4 0)), (12, (vc (.flt .f32 z8.bits)))], [(1, (.box [(.c (.fn 69 0 fun _ => .nilptr)), (.c (.fn 70 0 fun _ => .nilptr)), (.c (.fn 71 0 fun _ => .nilptr))])), (2, (.box [z12, z3, z3, z3, z3])), (3, (.box [(cI (z1.At)), z14, z15, z16, z17])), (4, (.box [(cI (z2.At)), z18, z19, z20, z21]))]⟩ (T4 (T4 Tt)) [] [3, 4, 8, 10, 11, 12] [1, 2, 3, 4] ⟨tr, tr, tr, tr, tr, tr, tr, tr, tr⟩ ?_
          refine AW.seq ?_
          obtain ⟨v34, e35, h⟩ := bind_some h
          obtain ⟨v36, e37, h⟩ := bind_some h
          let z28 : List CT := [.agg (cs_Key z1), .agg (cs_Key z2), .one (.flt .f32 z8.bits)]
          refine AW.dA ⟨[(8, (vp 2 0))], [(2, (.box [(cI v36.At), (cF v36.Turn.W), (cF v36.Turn.X), (cF v36.Turn.Y), (cF v36.Turn.Z)]))]⟩ ((Tt ∧ T2 (T4 (((z4 ∧ z11 ∧ (((.flt .f32 z8.bits) : C) = (.flt .f32 z8.bits)) ∧ Tt) ∧ CallOK Try.prog 71 z28 [.agg (cs_Key v34)]) ∧ Tt ∧ ((((eI v34.At) ∧ (eF v34.Turn.W) ∧ (eF v34.Turn.X) ∧ (eF v34.Turn.Y) ∧ (eF v34.Turn.Z) ∧ Tt) ∧ (eI a3) ∧ Tt) ∧ CallOK Try.prog 70 [.agg (cs_Key v34), .one (.int .i64 a3)] [.agg (cs_Key v36)]) ∧ Tt))) ∧ (Tt ∧ Tt)) 10 [.no, .no, .no, .no, .no, .no, .no, .call z28 [.agg (cs_Key v34)] [[.view, .view, .view, .view, .view]], .no, .call [.agg (cs_Key v34), .one (.int .i64 a3)] [.agg (cs_Key v36)] [[.view, .view, .view, .view, .view]]] [8] [2] ⟨⟨tr, tr, tr, tr, tr, tr, tr, ⟨⟨⟨rfl, rfl, rfl, rfl, rfl, tr⟩, ⟨rfl, rfl, rfl, rfl, rfl, tr⟩, rfl, tr⟩, ok_impl_turnTrack_3 K z1 z2 z8 v34 e35⟩, tr, ⟨⟨⟨rfl, rfl, rfl, rfl, rfl, tr⟩, rfl, tr⟩, ok_impl_turnTrack_2 K v34 a3 v36 e37⟩, tr⟩, ⟨tr, tr⟩⟩ ?_
          refine thenQ_normal ?_
          refine AW.ret ?_
          replace h := some_eq h
          subst h
          exact ⟨.inr rfl, retOK_of [(.agg [(cI v36.At), (cF v36.Turn.W), (cF v36.Turn.X), (cF v36.Turn.Y), (cF v36.Turn.Z)])] (by kernel_rfl) ⟨⟨⟨rfl, tr⟩, ⟨rfl, tr⟩, ⟨rfl, tr⟩, ⟨rfl, tr⟩, ⟨rfl, tr⟩, tr⟩, tr⟩ (of_decide_eq_true (by kernel_rfl))⟩
        · refine AW.cond_f rfl b33 ?_
          refine AW.skip ?_
          refine thenQ_normal ?_
          refine AW.seq ?_
          obtain ⟨v38, e39, h⟩ := bind_some h
          obtain ⟨v40, e41, h⟩ := bind_some h
          let z27 : List CT := [.agg (cs_Key z1), .agg (cs_Key z2), .one (.flt .f32 v31.bits)]
          refine AW.dA ⟨[(8, (vp 2 0))], [(2, (.box [(cI v40.At), (cF v40.Turn.W), (cF v40.Turn.X), (cF v40.Turn.Y), (cF v40.Turn.Z)]))]⟩ ((Tt ∧ T2 (T4 (((z4 ∧ z11 ∧ (eF v31) ∧ Tt) ∧ CallOK Try.prog 71 z27 [.agg (cs_Key v38)]) ∧ Tt ∧ ((((eI v38.At) ∧ (eF v38.Turn.W) ∧ (eF v38.Turn.X) ∧ (eF v38.Turn.Y) ∧ (eF v38.Turn.Z) ∧ Tt) ∧ (eI a3) ∧ Tt) ∧ CallOK Try.prog 70 [.agg (cs_Key v38), .one (.int .i64 a3)] [.agg (cs_Key v40)]) ∧ Tt))) ∧ (Tt ∧ Tt)) 10 [.no, .no, .no, .no, .no, .no, .no, .call z27 [.agg (cs_Key v38)] [[.view, .view, .view, .view, .view]], .no, .call [.agg (cs_Key v38), .one (.int .i64 a3)] [.agg (cs_Key v40)] [[.view, .view, .view, .view, .view]]] [8] [2] ⟨⟨tr, tr, tr, tr, tr, tr, tr, ⟨⟨⟨rfl, rfl, rfl, rfl, rfl, tr⟩, ⟨rfl, rfl, rfl, rfl, rfl, tr⟩, rfl, tr⟩, ok_impl_turnTrack_3 K z1 z2 v31 v38 e39⟩, tr, ⟨⟨⟨rfl, rfl, rfl, rfl, rfl, tr⟩, rfl, tr⟩, ok_impl_turnTrack_2 K v38 a3 v40 e41⟩, tr⟩, ⟨tr, tr⟩⟩ ?_
          refine thenQ_normal ?_
          refine AW.ret ?_
          replace h := some_eq h
          subst h
          exact ⟨.inr rfl, retOK_of [(.agg [(cI v40.At), (cF v40.Turn.W), (cF v40.Turn.X), (cF v40.Turn.Y), (cF v40.Turn.Z)])] (by kernel_rfl) ⟨⟨⟨rfl, tr⟩, ⟨rfl, tr⟩, ⟨rfl, tr⟩, ⟨rfl, tr⟩, ⟨rfl, tr⟩, tr⟩, tr⟩ (of_decide_eq_true (by kernel_rfl))⟩

/-! (*impl.Clip).sample -/
def impl_Clip_sample_l1 (K : Nat) (a0 : Clip) (a1 : Int) (v1 : (Vector)) : Nat → Int → (List Turn) → Option (Pose)
  | 0, _, _ => none
  | k + 1, x6, x7 => ite2 ((decide (x6 < (a0.Tracks.length : Int)))) (chk (0 ≤ x6 ∧ x6 < (a0.Tracks.length : Int)) ((impl_turnTrack K ).bind fun v10 => (impl_track_impl_Key_sample K (a0.Tracks.getD x6.toNat default) a0.Kind a1).bind fun v12 => chk (0 ≤ x6 ∧ x6 < (x7.length : Int)) (impl_Clip_sample_l1 K a0 a1 v1 k (IntKind.i64.wrap (x6 + (1 : Int))) (x7.set x6.toNat v12.Turn)))) (some (Pose.mk v1 x7))

def impl_Clip_sample (K : Nat) (a0 : Clip) (a1 : Int) : Option (Pose) :=
  (impl_Clip_root K a0 a1).bind fun v1 => chk (0 ≤ (a0.Tracks.length : Int) ∧ (a0.Tracks.length : Int).toNat * 16 ≤ 140737488355328) (impl_Clip_sample_l1 K a0 a1 v1 K (0 : Int) (List.replicate (a0.Tracks.length : Int).toNat (default : Turn)))

theorem ok_impl_Clip_sample (K : Nat) (a0 : Clip) (a1 : Int) (o : (Pose)) (h : impl_Clip_sample K a0 a1 = some o) : CallOK Try.prog 42 [.one (pl 4 cs_Clip a0), .one (.int .i64 a1)] [.agg (cs_Pose o)] := by
  refine callOK_of_AW Try.func42 rfl (by kernel_rfl) (Nat.le_of_ble_eq_true (by kernel_rfl)) ?_
  intro w0
  unfold impl_Clip_sample at h
  let z2 := cF (default : F32)
  let z5 := vc (pl 4 cs_Clip a0)
  refine AW.sA ⟨[(0, z5), (1, (vI a1)), (4, (vp 1 0))], [(1, (.box [z2, z2, z2, .nils]))]⟩ (Tt ∧ Tt) [.box 1] [0, 1, 4] [1] ⟨tr, tr⟩ ?_
  refine AW.seq ?_
  obtain ⟨v1, e2, h⟩ := bind_some h
  obtain ⟨c3, h⟩ := chk_some h
  let z3 := (a0.Tracks.length : Int)
  let z1 := List.replicate z3.toNat (default : Turn)
  let z8 : List CT := [.one (pl 4 cs_Clip a0), .one (.int .i64 a1)]
  refine AW.dA ⟨[(0, z5), (1, (vI a1)), (4, (vp 1 0)), (5, (vp 3 0))], [(1, (.box [z2, z2, z2, .nils])), (2, (.arr false z1.length 4 (gl cs_Turn z1))), (3, (.box [(cF v1.X), (cF v1.Y), (cF v1.Z), (.arr 2)]))]⟩ ((T2 ((((4 = 4 ∧ ∀ j, j < 4 → (cs_Clip a0).getD j .nilptr = (cs_Clip a0).getD j .nilptr) ∧ (eI a1) ∧ Tt) ∧ CallOK Try.prog 58 z8 [.agg (cs_Vector v1)]) ∧ Tt ∧ T4 ((0 ≤ z3 ∧ z3 = z3 ∧ ((z1.length : Nat) : Int) = z3 ∧ z1.length * 16 ≤ 140737488355328 ∧ ∀ i, i < z1.length → zeroRow (fun _ => none) [z2, z2, z2, z2] (gl cs_Turn z1 i)) ∧ T2 Tt))) ∧ (Tt ∧ Tt)) 11 [.no, .no, .call z8 [.agg (cs_Vector v1)] [[.view, .view, .view]], .no, .no, .no, .no, .no, .objA 2 z1.length (gl cs_Turn z1), .no, .box 3] [0, 1, 4, 5] [1, 2, 3] ⟨⟨tr, tr, ⟨⟨⟨rfl, fun j hj => rfl⟩, rfl, tr⟩, ok_impl_Clip_root K a0 a1 v1 e2⟩, tr, tr, tr, tr, tr, ⟨c3.1, rfl, len_rep c3.1, rep_bytes c3.2, fun i hi => gl_zero (cs := cs_Turn) (zs := [z2, z2, z2, z2]) (n := z3.toNat) ⟨⟨rfl, tr⟩, ⟨rfl, tr⟩, ⟨rfl, tr⟩, ⟨rfl, tr⟩, tr⟩ i (rep_lt hi)⟩, tr, tr, tr⟩, ⟨tr, tr⟩⟩ ?_
  refine thenQ_normal ?_
  refine AW.seq ?_
  let z4 := vc (sl 1 (csL 5 cs_Key) a0.Tracks)
  refine AW.sA ⟨[(0, z5), (1, (vI a1)), (4, (vp 1 0)), (5, (vp 3 0)), (21, z4), (22, (vI z3)), (23, (vI (0 : Int)))], [(1, (.box [z2, z2, z2, .nils])), (2, (.arr false z1.length 4 (gl cs_Turn z1))), (3, (.box [(cF v1.X), (cF v1.Y), (cF v1.Z), (.arr 2)]))]⟩ (T2 (T4 Tt)) [] [0, 1, 4, 5, 21, 22, 23] [1, 2, 3] ⟨tr, tr, tr, tr, tr, tr, tr⟩ ?_
  refine AW.block ?_
  refine AW.loopQ (σ := Nat × Int × (List Turn)) (fun p => ⟨[(0, z5), (1, (vI a1)), (4, (vp 1 0)), (5, (vp 3 0)), (21, z4), (22, (vI z3)), (23, (vI p.2.1))], [(1, (.box [z2, z2, z2, .nils])), (2, (.arr false p.2.2.length 4 (gl cs_Turn p.2.2))), (3, (.box [(cF v1.X), (cF v1.Y), (cF v1.Z), (.arr 2)]))]⟩) (fun p => impl_Clip_sample_l1 K a0 a1 v1 p.1 p.2.1 p.2.2 = some o) (fun p => p.1) (K, (0 : Int), z1) h ?_
  clear h
  rintro ⟨k, x6, x7⟩ h
  replace h : impl_Clip_sample_l1 K a0 a1 v1 k x6 x7 = some o := h
  let z7 := gl cs_Turn x7
  show AW _ _ (⟨[(0, z5), (1, (vI a1)), (4, (vp 1 0)), (5, (vp 3 0)), (21, z4), (22, (vI z3)), (23, (vI x6))], [(1, (.box [z2, z2, z2, .nils])), (2, (.arr false x7.length 4 z7)), (3, (.box [(cF v1.X), (cF v1.Y), (cF v1.Z), (.arr 2)]))]⟩ : St) _
  obtain _ | k := k
  · rw [impl_Clip_sample_l1] at h; cases h
  rw [impl_Clip_sample_l1] at h
  refine AW.sA ⟨[(0, z5), (1, (vI a1)), (4, (vp 1 0)), (5, (vp 3 0)), (21, z4), (22, (vI z3)), (23, (vI x6)), (24, (vB (decide (x6 < z3))))], [(1, (.box [z2, z2, z2, .nils])), (2, (.arr false x7.length 4 z7)), (3, (.box [(cF v1.X), (cF v1.Y), (cF v1.Z), (.arr 2)]))]⟩ (Tt ∧ Tt) [] [0, 1, 4, 5, 21, 22, 23, 24] [1, 2, 3] ⟨tr, tr⟩ ?_
  refine AW.seq ?_
  rcases ite2_cases h with ⟨b8, h⟩ | ⟨b8, h⟩
  · refine AW.cond_t rfl b8 ?_
    refine AW.skip ?_
    refine thenQ_normal ?_
    refine AW.seq ?_
    refine AW.block ?_
    refine AW.seq ?_
    obtain ⟨c9, h⟩ := chk_some h
    refine AW.tA ⟨[(0, z5), (1, (vI a1)), (4, (vp 1 0)), (5, (vp 3 0)), (6, (vI x6)), (7, (vc (sl 5 cs_Key (a0.Tracks.getD x6.toNat default)))), (21, z4), (22, (vI z3)), (23, (vI x6))], [(1, (.box [z2, z2, z2, .nils])), (2, (.arr false x7.length 4 z7)), (3, (.box [(cF v1.X), (cF v1.Y), (cF v1.Z), (.arr 2)]))]⟩ (Tt ∧ (0 ≤ x6 ∧ x6 < z3) ∧ Tt ∧ T2 Tt) [] [0, 1, 4, 5, 6, 7, 21, 22, 23] [1, 2, 3] ⟨tr, c9, tr, tr, tr, tr⟩ ?_
    obtain ⟨v10, e11, h⟩ := bind_some h
    obtain ⟨v12, e13, h⟩ := bind_some h
    obtain ⟨c14, h⟩ := chk_some h
    refine AW.dA ⟨[(0, (vc (pl 4 cs_Clip a0))), (1, (vI a1)), (4, (vp 1 0)), (5, (vp 3 0)), (21, (vc (sl 1 (csL 5 cs_Key) a0.Tracks))), (22, (vI (a0.Tracks.length : Int))), (23, (vI x6))], [(1, (.box [(cF (default : F32)), (cF (default : F32)), (cF (default : F32)), .nils])), (2, (.arr false (x7.set x6.toNat v12.Turn).length 4 (gl cs_Turn (x7.set x6.toNat v12.Turn)))), (3, (.box [(cF v1.X), (cF v1.Y), (cF v1.Z), (.arr 2)]))]⟩ ((Tt ∧ T2 (((Tt) ∧ CallOK Try.prog 52 [] [.agg [(.fn 69 0 fun _ => .nilptr), (.fn 70 0 fun _ => .nilptr), (.fn 71 0 fun _ => .nilptr)]]) ∧ T2 (T4 (((((Eqc (.fn 69 0 fun _ => .nilptr)) ∧ (Eqc (.fn 70 0 fun _ => .nilptr)) ∧ (Eqc (.fn 71 0 fun _ => .nilptr)) ∧ Tt) ∧ (Eqc (sl 5 cs_Key (a0.Tracks.getD x6.toNat default))) ∧ (eI a0.Kind) ∧ (eI a1) ∧ Tt) ∧ CallOK Try.prog 59 [.agg [(.fn 69 0 fun _ => .nilptr), (.fn 70 0 fun _ => .nilptr), (.fn 71 0 fun _ => .nilptr)], .one (sl 5 cs_Key (a0.Tracks.getD x6.toNat default)), .one (.int .i64 a0.Kind), .one (.int .i64 a1)] [.agg (cs_Key v12)]) ∧ Tt ∧ (0 ≤ x6 ∧ x6 < (x7.length : Int)) ∧ Tt)))) ∧ (((x7.set x6.toNat v12.Turn).length = x7.length ∧ SetOb x7.length 4 x6.toNat 0 4 (gl cs_Turn x7) (gl cs_Turn (x7.set x6.toNat v12.Turn)) ∧ ((List.range 4).map fun j => (cs_Turn v12.Turn).getD (0 + j) .nilptr) = ((List.range 4).map fun j => gl cs_Turn (x7.set x6.toNat v12.Turn) x6.toNat (0 + j)) ∧ ((((.flt .f32 v12.Turn.W.bits) : C) = (.flt .f32 v12.Turn.W.bits) ∧ Tt) ∧ (((.flt .f32 v12.Turn.X.bits) : C) = (.flt .f32 v12.Turn.X.bits) ∧ Tt) ∧ (((.flt .f32 v12.Turn.Y.bits) : C) = (.flt .f32 v12.Turn.Y.bits) ∧ Tt) ∧ (((.flt .f32 v12.Turn.Z.bits) : C) = (.flt .f32 v12.Turn.Z.bits) ∧ Tt) ∧ Tt) ∧ (false = true → ∀ j, j < 4 → isSeq (gl cs_Turn x7 x6.toNat (0 + j)) = false ∧ isSeq (gl cs_Turn (x7.set x6.toNat v12.Turn) x6.toNat (0 + j)) = false)) ∧ Tt)) 13 [.no, .no, .no, .call [] [.agg [(.fn 69 0 fun _ => .nilptr), (.fn 70 0 fun _ => .nilptr), (.fn 71 0 fun _ => .nilptr)]] [[.view, .view, .view]], .no, .no, .no, .no, .no, .no, .call [.agg [(.fn 69 0 fun _ => .nilptr), (.fn 70 0 fun _ => .nilptr), (.fn 71 0 fun _ => .nilptr)], .one (sl 5 cs_Key (a0.Tracks.getD x6.toNat default)), .one (.int .i64 a0.Kind), .one (.int .i64 a1)] [.agg (cs_Key v12)] [[.view, .view, .view, .view, .view]], .no, .no, .set (x7.set x6.toNat v12.Turn).length (gl cs_Turn (x7.set x6.toNat v12.Turn)) ((List.range 4).map fun j => (cs_Turn v12.Turn).getD (0 + j) .nilptr)] [0, 1, 4, 5, 21, 22, 23] [1, 2, 3] ⟨⟨tr, tr, tr, ⟨tr, ok_impl_turnTrack K v10 e11⟩, tr, tr, tr, tr, tr, tr, ⟨⟨⟨rfl, rfl, rfl, tr⟩, rfl, rfl, rfl, tr⟩, ok_impl_track_impl_Key_sample K (a0.Tracks.getD x6.toNat default) a0.Kind a1 v12 e13⟩, tr, c14, tr⟩, ⟨⟨List.length_set, gl_set, (gl_atp (lt_of_bound c14)).symm, ⟨⟨rfl, tr⟩, ⟨rfl, tr⟩, ⟨rfl, tr⟩, ⟨rfl, tr⟩, tr⟩, (fun h => nomatch h)⟩, tr⟩⟩ ?_
    refine blockQ_normal ?_
    refine thenQ_normal ?_
    let z6 := x7.set x6.toNat v12.Turn
    let z9 := IntKind.i64.wrap (x6 + (1 : Int))
    refine AW.rA ⟨[(0, z5), (1, (vI a1)), (4, (vp 1 0)), (5, (vp 3 0)), (21, z4), (22, (vI z3)), (23, (vI z9))], [(1, (.box [z2, z2, z2, .nils])), (2, (.arr false z6.length 4 (gl cs_Turn z6))), (3, (.box [(cF v1.X), (cF v1.Y), (cF v1.Z), (.arr 2)]))]⟩ (T2 Tt) [] [0, 1, 4, 5, 21, 22, 23] [1, 2, 3] ⟨tr, tr, tr⟩ ?_
    exact loopQ_normal (k, z9, z6) h (Nat.lt_succ_self k) (Sub.keep [0, 1, 4, 5, 21, 22, 23] [1, 2, 3] (by kernel_rfl) (by kernel_rfl))
  · refine AW.cond_f rfl b8 ?_
    refine AW.exit ?_
    refine thenQ_exit ?_
    refine loopQ_exit ?_
    refine blockQ_exit ?_
    refine thenQ_normal ?_
    refine AW.sA ⟨[(4, (vp 1 0))], [(1, (.box [(cF v1.X), (cF v1.Y), (cF v1.Z), (.arr 2)])), (2, (.arr false x7.length 4 z7))]⟩ (T2 Tt) [] [4] [1, 2] ⟨tr, tr, tr⟩ ?_
    refine AW.ret ?_
    replace h := some_eq h
    subst h
    exact ⟨.inr rfl, retOK_of [(.agg [(cF v1.X), (cF v1.Y), (cF v1.Z), (.arr 2)])] (by kernel_rfl) ⟨⟨⟨rfl, tr⟩, ⟨rfl, tr⟩, ⟨rfl, tr⟩, rfl, tr⟩, tr⟩ (of_decide_eq_true (by kernel_rfl))⟩

/-! impl.SampleClip -/
def impl_SampleClip (K : Nat) (a0 : Clip) (a1 : Int) : Option (Pose × Bool) :=
  (impl_hasTime K a0 a1).bind fun v1 => ite2 ((!v1)) (some ((Pose.mk (Vector.mk (default : F32) (default : F32) (default : F32)) ([] : (List Turn))), false)) ((impl_Clip_sample K a0 a1).bind fun v4 => some (v4, true))

theorem ok_impl_SampleClip (K : Nat) (a0 : Clip) (a1 : Int) (o : (Pose × Bool)) (h : impl_SampleClip K a0 a1 = some o) : CallOK Try.prog 17 [.agg (cs_Clip a0), .one (.int .i64 a1)] [.agg (cs_Pose o.1), .one (.bool o.2)] := by
  refine callOK_of_AW Try.func17 rfl (by kernel_rfl) (Nat.le_of_ble_eq_true (by kernel_rfl)) ?_
  intro w0
  unfold impl_SampleClip at h
  refine AW.sC (Tt ∧ T2 Tt) [.box 1, .box 2] [1, 2, 4] [1, 2] ⟨tr, tr, tr, tr⟩ ?_
  refine AW.seq ?_
  refine AW.seq ?_
  obtain ⟨v1, e2, h⟩ := bind_some h
  let z1 := cF (default : F32)
  let z2 := sl 1 (csL 5 cs_Key) a0.Tracks
  let z3 := sl 4 cs_RootKey a0.Roots
  let z5 : List CT := [.agg (cs_Clip a0), .one (.int .i64 a1)]
  refine AW.tA ⟨[(1, (vI a1)), (2, (vp 1 0)), (4, (vp 2 0)), (9, (vB (!v1)))], [(1, (.box [(cI a0.Length), (cI a0.Kind), (.c z2), (.c z3)])), (2, (.box [z1, z1, z1, .nils]))]⟩ (T2 (((((eI a0.Length) ∧ (eI a0.Kind) ∧ (Eqc z2) ∧ (Eqc z3) ∧ Tt) ∧ (eI a1) ∧ Tt) ∧ CallOK Try.prog 41 z5 [.one (.bool v1)]) ∧ Tt ∧ Tt)) [.no, .no, .call z5 [.one (.bool v1)] [[.view]]] [1, 2, 4, 9] [1, 2] ⟨tr, tr, ⟨⟨⟨rfl, rfl, rfl, rfl, tr⟩, rfl, tr⟩, ok_impl_hasTime K a0 a1 v1 e2⟩, tr, tr⟩ ?_
  rcases ite2_cases h with ⟨b3, h⟩ | ⟨b3, h⟩
  · refine AW.cond_t rfl b3 ?_
    refine AW.sA ⟨[(4, (vp 2 0)), (5, (vB false))], [(2, (.box [z1, z1, z1, .nils]))]⟩ (Tt ∧ T2 Tt) [] [4, 5] [2] ⟨tr, tr, tr, tr⟩ ?_
    refine AW.ret ?_
    refine thenQ_ret ?_
    replace h := some_eq h
    subst h
    exact ⟨.inr rfl, retOK_of [(.agg [z1, z1, z1, .nils]), (.one (.c (.bool false)))] (by kernel_rfl) ⟨⟨⟨rfl, tr⟩, ⟨rfl, tr⟩, ⟨rfl, tr⟩, rfl, tr⟩, ⟨rfl, tr⟩, tr⟩ (of_decide_eq_true (by kernel_rfl))⟩
  · refine AW.cond_f rfl b3 ?_
    refine AW.skip ?_
    refine thenQ_normal ?_
    refine AW.seq ?_
    obtain ⟨v4, e5, h⟩ := bind_some h
    let z4 : List CT := [.one (pl 4 cs_Clip a0), .one (.int .i64 a1)]
    refine AW.tA ⟨[(4, (vp 2 0)), (5, (vB true))], [(2, (.box [(cF v4.Root.X), (cF v4.Root.Y), (cF v4.Root.Z), (xL 3 4 cs_Turn v4.Turns)])), (3, (oL 4 cs_Turn v4.Turns))]⟩ (Tt ∧ (((0 = 0 ∧ (eI a0.Length) ∧ (eI a0.Kind) ∧ (Eqc z2) ∧ (Eqc z3) ∧ Tt) ∧ (eI a1) ∧ Tt) ∧ CallOK Try.prog 42 z4 [.agg (cs_Pose v4)]) ∧ T2 Tt) [.no, .call z4 [.agg (cs_Pose v4)] [[.view, .view, .view, .lst 3]]] [4, 5] [2, 3] ⟨tr, ⟨⟨⟨rfl, rfl, rfl, rfl, rfl, tr⟩, rfl, tr⟩, ok_impl_Clip_sample K a0 a1 v4 e5⟩, tr, tr, tr⟩ ?_
    refine AW.ret ?_
    replace h := some_eq h
    subst h
    exact ⟨.inr rfl, retOK_of [(.agg [(cF v4.Root.X), (cF v4.Root.Y), (cF v4.Root.Z), (xL 3 4 cs_Turn v4.Turns)]), (.one (.c (.bool true)))] (by kernel_rfl) ⟨⟨⟨rfl, tr⟩, ⟨rfl, tr⟩, ⟨rfl, tr⟩, rfl, tr⟩, ⟨rfl, tr⟩, tr⟩ (of_decide_eq_true (by kernel_rfl))⟩

/-! spec.SameTurn -/
def spec_SameTurn (K : Nat) (a0 : Turn) (a1 : Turn) : Option (Bool) :=
  (spec_l02Same K a0 a1).bind fun v1 => some v1

theorem ok_spec_SameTurn (K : Nat) (a0 : Turn) (a1 : Turn) (o : (Bool)) (h : spec_SameTurn K a0 a1 = some o) : CallOK Try.prog 18 [.agg (cs_Turn a0), .agg (cs_Turn a1)] [.one (.bool o)] := by
  refine callOK_of_AW Try.func18 rfl (by kernel_rfl) (Nat.le_of_ble_eq_true (by kernel_rfl)) ?_
  intro w0
  unfold spec_SameTurn at h
  refine AW.sC (Tt ∧ T2 Tt) [.box 1, .box 2] [2, 3] [1, 2] ⟨tr, tr, tr, tr⟩ ?_
  refine AW.seq ?_
  obtain ⟨v1, e2, h⟩ := bind_some h
  let z1 : List CT := [.agg (cs_Turn a0), .agg (cs_Turn a1)]
  refine AW.tA ⟨[(4, (vB v1))], []⟩ (T2 (((((eF a0.W) ∧ (eF a0.X) ∧ (eF a0.Y) ∧ (eF a0.Z) ∧ Tt) ∧ ((eF a1.W) ∧ (eF a1.X) ∧ (eF a1.Y) ∧ (eF a1.Z) ∧ Tt) ∧ Tt) ∧ CallOK Try.prog 43 z1 [.one (.bool v1)]) ∧ Tt ∧ Tt)) [.no, .no, .call z1 [.one (.bool v1)] [[.view]]] [4] [] ⟨tr, tr, ⟨⟨⟨rfl, rfl, rfl, rfl, tr⟩, ⟨rfl, rfl, rfl, rfl, tr⟩, tr⟩, ok_spec_l02Same K a0 a1 v1 e2⟩, tr, tr⟩ ?_
  refine AW.ret ?_
  replace h := some_eq h
  subst h
  exact ⟨.inr rfl, retOK_of [(.one (.c (.bool v1)))] (by kernel_rfl) ⟨⟨rfl, tr⟩, tr⟩ (of_decide_eq_true (by kernel_rfl))⟩

/-! laws.FnMirrored -/
def laws_FnMirrored_l6 (K : Nat) (v4 : (Skeleton)) (v6 : ((List Int))) (v45 : (Clip)) (v47 : (Clip × Bool)) (x77 : Int) : Nat → Int → Option ((Unit) ⊕ (Unit))
  | 0, _ => none
  | k + 1, x107 => ite2 ((decide (x107 < ((v45.Tracks.getD x77.toNat default).length : Int)))) (chk (0 ≤ x77 ∧ x77 < (v45.Tracks.length : Int)) (chk (0 ≤ x107 ∧ x107 < ((v45.Tracks.getD x77.toNat default).length : Int)) ((impl_SampleClip K v45 (((v45.Tracks.getD x77.toNat default).getD x107.toNat default).At)).bind fun v111 => (impl_SampleClip K v47.1 (((v45.Tracks.getD x77.toNat default).getD x107.toNat default).At)).bind fun v113 => (impl_MirrorPose K v4 v111.1 v6).bind fun v115 => (ite2 ((!v111.2)) (some true) (ite2 ((!v113.2)) (some true) (ite2 ((!v115.2)) (some true) (chk (0 ≤ x77 ∧ x77 < (v6.length : Int)) (chk (0 ≤ (v6.getD x77.toNat default) ∧ (v6.getD x77.toNat default) < (v113.1.Turns.length : Int)) (chk (0 ≤ (v6.getD x77.toNat default) ∧ (v6.getD x77.toNat default) < (v115.1.Turns.length : Int)) ((spec_SameTurn K (v113.1.Turns.getD ((v6.getD x77.toNat default).toNat) default) (v115.1.Turns.getD ((v6.getD x77.toNat default).toNat) default)).bind fun v123 => some (!v123)))))))).bind fun j125 => ite2 (j125) (some (.inr ())) (laws_FnMirrored_l6 K v4 v6 v45 v47 x77 k (IntKind.i64.wrap (x107 + (1 : Int))))))) (some (.inl ()))

def laws_FnMirrored_l5 (K : Nat) (v4 : (Skeleton)) (v6 : ((List Int))) (v45 : (Clip)) (v47 : (Clip × Bool)) : Nat → Int → Option (Bool)
  | 0, _ => none
  | k + 1, x77 => ite2 ((decide (x77 < (v45.Tracks.length : Int)))) (chk (0 ≤ x77 ∧ x77 < (v45.Tracks.length : Int)) ((laws_FnMirrored_l6 K v4 v6 v45 v47 x77 K (0 : Int)).bind (fun z0 => sumC z0 (fun j104 => laws_FnMirrored_l5 K v4 v6 v45 v47 k (IntKind.i64.wrap (x77 + (1 : Int)))) (fun j105 => some false)))) (some true)

def laws_FnMirrored_l2 (K : Nat) (v4 : (Skeleton)) (v6 : ((List Int))) (v45 : (Clip)) (v47 : (Clip × Bool)) : Nat → Int → Option (Bool)
  | 0, _ => none
  | k + 1, x59 => ite2 ((decide (x59 < (v45.Roots.length : Int)))) (chk (0 ≤ x59 ∧ x59 < (v45.Roots.length : Int)) ((impl_SampleClip K v45 ((v45.Roots.getD x59.toNat default).At)).bind fun v62 => (impl_SampleClip K v47.1 ((v45.Roots.getD x59.toNat default).At)).bind fun v64 => (impl_MirrorPose K v4 v62.1 v6).bind fun v66 => (ite2 ((!v62.2)) (some true) (ite2 ((!v64.2)) (some true) (ite2 ((!v66.2)) (some true) ((spec_SameVector K v64.1.Root v66.1.Root).bind fun v71 => some (!v71))))).bind fun j73 => ite2 (j73) (some false) (laws_FnMirrored_l2 K v4 v6 v45 v47 k (IntKind.i64.wrap (x59 + (1 : Int)))))) (laws_FnMirrored_l5 K v4 v6 v45 v47 K (0 : Int))

def laws_FnMirrored_l1 (K : Nat) (a1 : (List Int)) (v4 : (Skeleton)) (v6 : ((List Int))) (v16 : (Skeleton × Bool)) : Nat → Int → Option (Bool)
  | 0, _ => none
  | k + 1, x32 => ite2 ((decide (x32 < (v16.1.Bones.length : Int)))) (chk (0 ≤ x32 ∧ x32 < (v16.1.Bones.length : Int)) (chk (0 ≤ x32 ∧ x32 < (v4.Bones.length : Int)) ((ite2 ((((v16.1.Bones.getD x32.toNat default).Parent) != ((v4.Bones.getD x32.toNat default).Parent))) (some true) ((spec_SameVector K ((v16.1.Bones.getD x32.toNat default).Offset) ((v4.Bones.getD x32.toNat default).Offset)).bind fun v37 => some (!v37))).bind fun j39 => ite2 (j39) (some false) (laws_FnMirrored_l1 K a1 v4 v6 v16 k (IntKind.i64.wrap (x32 + (1 : Int))))))) (chk (0 ≤ (v6.length : Int) ∧ (v6.length : Int).toNat * 24 ≤ 140737488355328) ((laws_b10At K a1 (0 : Int) (3 : Int)).bind fun v43 => (spec_B10Like K a1 (Clip.mk (0 : Int) v43 (List.replicate (v6.length : Int).toNat (default : (List Key))) ([] : (List RootKey)))).bind fun v45 => (impl_MirrorClip K v4 v45 v6).bind fun v47 => (impl_MirrorClip K v4 v47.1 v6).bind fun v49 => (ite2 ((!v47.2)) (some true) (ite2 ((!v49.2)) (some true) ((laws_b10Clips K v49.1 v45).bind fun v53 => some (!v53)))).bind fun j55 => ite2 (j55) (some false) (laws_FnMirrored_l2 K v4 v6 v45 v47 K (0 : Int))))

def laws_FnMirrored (K : Nat) (a0 : (List Int)) (a1 : (List Int)) : Option (Bool) :=
  (laws_b10Long K a0 a1).bind fun v1 => ite2 (v1) (some true) ((spec_B10Pairs K a0).bind fun v4 => (spec_B10Pairing K a0).bind fun v6 => (spec_B10Pose K a1 (v6.length : Int)).bind fun v8 => (impl_MirrorPose K v4 v8 v6).bind fun v10 => (impl_MirrorPose K v4 v10.1 v6).bind fun v12 => (impl_MirrorSkeleton K v4 v6).bind fun v14 => (impl_MirrorSkeleton K v14.1 v6).bind fun v16 => (ite2 ((!v10.2)) (some true) (ite2 ((!v12.2)) (some true) (ite2 ((!v14.2)) (some true) (ite2 ((!v16.2)) (some true) ((impl_IsPairing K v4 v6).bind fun v22 => ite2 ((!v22)) (some true) ((impl_SamePose K v12.1 v8).bind fun v25 => ite2 ((!v25)) (some true) (some ((v16.1.Bones.length : Int) != (v4.Bones.length : Int))))))))).bind fun j28 => ite2 (j28) (some false) (laws_FnMirrored_l1 K a1 v4 v6 v16 K (0 : Int)))

theorem ok_laws_FnMirrored (K : Nat) (a0 : (List Int)) (a1 : (List Int)) (o : (Bool)) (h : laws_FnMirrored K a0 a1 = some o) : CallOK Try.prog 3 [.one (sl 1 (csI .u8) a0), .one (sl 1 (csI .u8) a1)] [.one (.bool o)] := by
  refine callOK_of_AW Try.func3 rfl (by kernel_rfl) (Nat.le_of_ble_eq_true (by kernel_rfl)) ?_
  intro w0
  unfold laws_FnMirrored at h
  refine AW.sC (Tt ∧ Tt) [] [0, 1] [] ⟨tr, tr⟩ ?_
  refine AW.seq ?_
  refine AW.seq ?_
  obtain ⟨v1, e2, h⟩ := bind_some h
  let z17 := sl 1 (csI .u8) a1
  let z38 := sl 1 (csI .u8) a0
  refine AW.tA ⟨[(0, (vc z38)), (1, (vc z17)), (43, (vB v1))], []⟩ (T2 ((((Eqc z38) ∧ (Eqc z17) ∧ Tt) ∧ CallOK Try.prog 4 [.one z38, .one z17] [.one (.bool v1)]) ∧ Tt)) [.no, .no, .call [.one z38, .one z17] [.one (.bool v1)] [[.view]]] [0, 1, 43] [] ⟨tr, tr, ⟨⟨rfl, rfl, tr⟩, ok_laws_b10Long K a0 a1 v1 e2⟩, tr⟩ ?_
  rcases ite2_cases h with ⟨b3, h⟩ | ⟨b3, h⟩
  · refine AW.cond_t rfl b3 ?_
    refine AW.sA ⟨[(4, (vB true))], []⟩ (Tt ∧ Tt) [] [4] [] ⟨tr, tr⟩ ?_
    refine AW.ret ?_
    refine thenQ_ret ?_
    replace h := some_eq h
    subst h
    exact ⟨.inr rfl, retOK_of [(.one (.c (.bool true)))] (by kernel_rfl) ⟨⟨rfl, tr⟩, tr⟩ (of_decide_eq_true (by kernel_rfl))⟩
  · refine AW.cond_f rfl b3 ?_
    refine AW.skip ?_
    refine thenQ_normal ?_
    refine AW.seq ?_
    obtain ⟨v4, e5, h⟩ := bind_some h
    let z29 := cs_Skeleton v4
    refine AW.tC (Tt ∧ (((Eqc z38) ∧ Tt) ∧ CallOK Try.prog 5 [.one z38] [.agg z29]) ∧ T2 Tt) [.no, .call [.one z38] [.agg z29] [[.lst 1]], .box 2] [0, 1, 5] [1, 2] ⟨tr, ⟨⟨rfl, tr⟩, ok_spec_B10Pairs K a0 v4 e5⟩, tr, tr, tr⟩ ?_
    refine AW.seq ?_
    obtain ⟨v6, e7, h⟩ := bind_some h
    let z15 := sl 1 (csI .i64) v6
    refine AW.tC (Tt ∧ (((Eqc z38) ∧ Tt) ∧ CallOK Try.prog 6 [.one z38] [.one z15]) ∧ Tt ∧ Tt) [.no, .call [.one z38] [.one z15] [[.lst 3]]] [1, 5, 6] [1, 2, 3] ⟨tr, ⟨⟨rfl, tr⟩, ok_spec_B10Pairing K a0 v6 e7⟩, tr, tr⟩ ?_
    refine AW.sC (Tt ∧ T2 Tt) [] [1, 5, 6, 7] [1, 2, 3] ⟨tr, tr, tr, tr⟩ ?_
    refine AW.seq ?_
    obtain ⟨v8, e9, h⟩ := bind_some h
    let z52 : List CT := [.one z17, .one (.int .i64 (v6.length : Int))]
    refine AW.tC (T2 ((((Eqc z17) ∧ (eI (v6.length : Int)) ∧ Tt) ∧ CallOK Try.prog 7 z52 [.agg (cs_Pose v8)]) ∧ T2 Tt)) [.no, .no, .call z52 [.agg (cs_Pose v8)] [[.view, .view, .view, .lst 4]], .box 5] [1, 5, 6, 7, 8] [1, 2, 3, 4, 5] ⟨tr, tr, ⟨⟨rfl, rfl, tr⟩, ok_spec_B10Pose K a1 (v6.length : Int) v8 e9⟩, tr, tr, tr⟩ ?_
    refine AW.seq ?_
    obtain ⟨v10, e11, h⟩ := bind_some h
    let z26 := (Eqc (sl 4 cs_Bone v4.Bones)) ∧ Tt
    let z37 := (eF v8.Root.X) ∧ (eF v8.Root.Y) ∧ (eF v8.Root.Z) ∧ (Eqc (sl 4 cs_Turn v8.Turns)) ∧ Tt
    let z50 := cs_Pose v10.1
    refine AW.tC (Tt ∧ T2 (((z26 ∧ z37 ∧ (Eqc z15) ∧ Tt) ∧ CallOK Try.prog 8 [.agg z29, .agg (cs_Pose v8), .one z15] [.agg z50, .one (.bool v10.2)]) ∧ T2 (T4 Tt))) [.no, .no, .no, .call [.agg z29, .agg (cs_Pose v8), .one z15] [.agg z50, .one (.bool v10.2)] [[.view, .view, .view, .lst 6], [.view]], .no, .no, .no, .box 7] [1, 5, 6, 7, 8, 9, 10] [1, 2, 3, 4, 5, 6, 7] ⟨tr, tr, tr, ⟨⟨⟨rfl, tr⟩, ⟨rfl, rfl, rfl, rfl, tr⟩, rfl, tr⟩, ok_impl_MirrorPose K v4 v8 v6 v10 e11⟩, tr, tr, tr, tr, tr, tr, tr⟩ ?_
    refine AW.seq ?_
    obtain ⟨v12, e13, h⟩ := bind_some h
    let z44 := cs_Pose v12.1
    refine AW.tC (Tt ∧ T2 (((z26 ∧ ((eF v10.1.Root.X) ∧ (eF v10.1.Root.Y) ∧ (eF v10.1.Root.Z) ∧ (Eqc (sl 4 cs_Turn v10.1.Turns)) ∧ Tt) ∧ (Eqc z15) ∧ Tt) ∧ CallOK Try.prog 8 [.agg z29, .agg z50, .one z15] [.agg z44, .one (.bool v12.2)]) ∧ T2 (T4 Tt))) [.no, .no, .no, .call [.agg z29, .agg z50, .one z15] [.agg z44, .one (.bool v12.2)] [[.view, .view, .view, .lst 8], [.view]], .no, .no, .no, .box 9] [1, 5, 6, 7, 8, 10, 11, 12] [1, 2, 3, 4, 5, 8, 9] ⟨tr, tr, tr, ⟨⟨⟨rfl, tr⟩, ⟨rfl, rfl, rfl, rfl, tr⟩, rfl, tr⟩, ok_impl_MirrorPose K v4 v10.1 v6 v12 e13⟩, tr, tr, tr, tr, tr, tr, tr⟩ ?_
    refine AW.seq ?_
    obtain ⟨v14, e15, h⟩ := bind_some h
    let z41 : List CT := [.agg z29, .one z15]
    let z47 := z26 ∧ (Eqc z15) ∧ Tt
    let z49 := cs_Skeleton v14.1
    refine AW.tC (T2 ((z47 ∧ CallOK Try.prog 9 z41 [.agg z49, .one (.bool v14.2)]) ∧ T2 (T4 Tt))) [.no, .no, .call z41 [.agg z49, .one (.bool v14.2)] [[.lst 10], [.view]], .no, .no, .no, .box 11] [1, 5, 6, 7, 8, 10, 11, 12, 13, 14] [1, 2, 3, 4, 5, 8, 9, 10, 11] ⟨tr, tr, ⟨⟨⟨rfl, tr⟩, rfl, tr⟩, ok_impl_MirrorSkeleton K v4 v6 v14 e15⟩, tr, tr, tr, tr, tr, tr, tr⟩ ?_
    refine AW.seq ?_
    obtain ⟨v16, e17, h⟩ := bind_some h
    let z2 := xL 1 4 cs_Bone v4.Bones
    let z3 := oL 4 cs_Bone v4.Bones
    let z4 := vL 3 1 (csI .i64) v6
    let z7 := oL 1 (csI .i64) v6
    let z20 := xL 12 4 cs_Bone v16.1.Bones
    let z24 := oL 4 cs_Bone v16.1.Bones
    let z25 := vI (v6.length : Int)
    let z53 : List CT := [.agg (cs_Skeleton v16.1), .one (.bool v16.2)]
    refine AW.tA ⟨[(1, (vc z17)), (5, (vp 2 0)), (6, z4), (7, z25), (8, (vp 5 0)), (10, (vB v10.2)), (11, (vp 9 0)), (12, (vB v12.2)), (14, (vB v14.2)), (15, (vp 13 0)), (16, (vB v16.2))], [(1, z3), (2, (.box [z2])), (3, z7), (4, (oL 4 cs_Turn v8.Turns)), (5, (.box [(cF v8.Root.X), (cF v8.Root.Y), (cF v8.Root.Z), (xL 4 4 cs_Turn v8.Turns)])), (8, (oL 4 cs_Turn v12.1.Turns)), (9, (.box [(cF v12.1.Root.X), (cF v12.1.Root.Y), (cF v12.1.Root.Z), (xL 8 4 cs_Turn v12.1.Turns)])), (12, z24), (13, (.box [z20]))]⟩ (T2 (((((Eqc (sl 4 cs_Bone v14.1.Bones)) ∧ Tt) ∧ (Eqc z15) ∧ Tt) ∧ CallOK Try.prog 9 [.agg z49, .one z15] z53) ∧ T2 (T4 Tt))) [.no, .no, .call [.agg z49, .one z15] z53 [[.lst 12], [.view]], .no, .no, .no, .box 13] [1, 5, 6, 7, 8, 10, 11, 12, 14, 15, 16] [1, 2, 3, 4, 5, 8, 9, 12, 13] ⟨tr, tr, ⟨⟨⟨rfl, tr⟩, rfl, tr⟩, ok_impl_MirrorSkeleton K v14.1 v6 v16 e17⟩, tr, tr, tr, tr, tr, tr, tr⟩ ?_
    refine AW.seq ?_
    refine AW.seq ?_
    obtain ⟨j28, e29, h⟩ := bind_some h
    refine AW.join1 (s2 := ⟨[(1, (vc z17)), (5, (vp 2 0)), (6, z4), (7, z25), (15, (vp 13 0)), (113, (vB j28))], [(1, z3), (2, (.box [z2])), (3, z7), (12, z24), (13, (.box [z20]))]⟩) ?_ ?_
    · rcases ite2_cases e29 with ⟨b18, e29⟩ | ⟨b18, e29⟩
      · replace e29 := some_eq e29
        subst e29
        exact AW.rA ⟨[(1, (vc z17)), (5, (vp 2 0)), (6, z4), (7, z25), (15, (vp 13 0)), (113, (vB true))], [(1, z3), (2, (.box [z2])), (3, z7), (12, z24), (13, (.box [z20]))]⟩ (T2 ((Tt ∧ (!v10.2) = true) ∧ T4 (T4 (T4 (T4 (T4 (T4 (T4 (T4 Tt))))))))) [.no, .no, .dec true] [1, 5, 6, 7, 15, 113] [1, 2, 3, 12, 13] ⟨tr, tr, ⟨tr, b18⟩, tr, tr, tr, tr, tr, tr, tr, tr, tr, tr, tr, tr, tr, tr, tr, tr, tr, tr, tr, tr, tr, tr, tr, tr, tr, tr, tr, tr, tr, tr, tr, tr, tr⟩ ⟨rfl, rfl⟩
      · rcases ite2_cases e29 with ⟨b19, e29⟩ | ⟨b19, e29⟩
        · replace e29 := some_eq e29
          subst e29
          exact AW.rA ⟨[(1, (vc z17)), (5, (vp 2 0)), (6, z4), (7, z25), (15, (vp 13 0)), (113, (vB true))], [(1, z3), (2, (.box [z2])), (3, z7), (12, z24), (13, (.box [z20]))]⟩ (T2 ((Tt ∧ (!v10.2) = false) ∧ Tt ∧ T2 ((Tt ∧ (!v12.2) = true) ∧ T4 (T4 (T4 (T4 (T4 (T4 (T4 Tt))))))))) [.no, .no, .dec false, .no, .no, .no, .dec true] [1, 5, 6, 7, 15, 113] [1, 2, 3, 12, 13] ⟨tr, tr, ⟨tr, b18⟩, tr, tr, tr, ⟨tr, b19⟩, tr, tr, tr, tr, tr, tr, tr, tr, tr, tr, tr, tr, tr, tr, tr, tr, tr, tr, tr, tr, tr, tr, tr, tr, tr, tr, tr, tr, tr⟩ ⟨rfl, rfl⟩
        · rcases ite2_cases e29 with ⟨b20, e29⟩ | ⟨b20, e29⟩
          · replace e29 := some_eq e29
            subst e29
            exact AW.rA ⟨[(1, (vc z17)), (5, (vp 2 0)), (6, z4), (7, z25), (15, (vp 13 0)), (113, (vB true))], [(1, z3), (2, (.box [z2])), (3, z7), (12, z24), (13, (.box [z20]))]⟩ (T2 ((Tt ∧ (!v10.2) = false) ∧ Tt ∧ T2 ((Tt ∧ (!v12.2) = false) ∧ Tt ∧ T2 ((Tt ∧ (!v14.2) = true) ∧ T4 (T4 (T4 (T4 (T4 (T4 Tt))))))))) [.no, .no, .dec false, .no, .no, .no, .dec false, .no, .no, .no, .dec true] [1, 5, 6, 7, 15, 113] [1, 2, 3, 12, 13] ⟨tr, tr, ⟨tr, b18⟩, tr, tr, tr, ⟨tr, b19⟩, tr, tr, tr, ⟨tr, b20⟩, tr, tr, tr, tr, tr, tr, tr, tr, tr, tr, tr, tr, tr, tr, tr, tr, tr, tr, tr, tr, tr, tr, tr, tr, tr⟩ ⟨rfl, rfl⟩
          · rcases ite2_cases e29 with ⟨b21, e29⟩ | ⟨b21, e29⟩
            · replace e29 := some_eq e29
              subst e29
              exact AW.rA ⟨[(1, (vc z17)), (5, (vp 2 0)), (6, z4), (7, z25), (15, (vp 13 0)), (113, (vB true))], [(1, z3), (2, (.box [z2])), (3, z7), (12, z24), (13, (.box [z20]))]⟩ (T2 ((Tt ∧ (!v10.2) = false) ∧ Tt ∧ T2 ((Tt ∧ (!v12.2) = false) ∧ Tt ∧ T2 ((Tt ∧ (!v14.2) = false) ∧ Tt ∧ T2 ((Tt ∧ (!v16.2) = true) ∧ T4 (T4 (T4 (T4 (T4 Tt))))))))) [.no, .no, .dec false, .no, .no, .no, .dec false, .no, .no, .no, .dec false, .no, .no, .no, .dec true] [1, 5, 6, 7, 15, 113] [1, 2, 3, 12, 13] ⟨tr, tr, ⟨tr, b18⟩, tr, tr, tr, ⟨tr, b19⟩, tr, tr, tr, ⟨tr, b20⟩, tr, tr, tr, ⟨tr, b21⟩, tr, tr, tr, tr, tr, tr, tr, tr, tr, tr, tr, tr, tr, tr, tr, tr, tr, tr, tr, tr, tr⟩ ⟨rfl, rfl⟩
            · obtain ⟨v22, e23, e29⟩ := bind_some e29
              rcases ite2_cases e29 with ⟨b24, e29⟩ | ⟨b24, e29⟩
              · replace e29 := some_eq e29
                subst e29
                exact AW.rA ⟨[(1, (vc z17)), (5, (vp 2 0)), (6, z4), (7, z25), (15, (vp 13 0)), (113, (vB true))], [(1, z3), (2, (.box [z2])), (3, z7), (12, z24), (13, (.box [z20]))]⟩ (T2 ((Tt ∧ (!v10.2) = false) ∧ Tt ∧ T2 ((Tt ∧ (!v12.2) = false) ∧ Tt ∧ T2 ((Tt ∧ (!v14.2) = false) ∧ Tt ∧ T2 ((Tt ∧ (!v16.2) = false) ∧ T2 ((z47 ∧ CallOK Try.prog 10 z41 [.one (.bool v22)]) ∧ T2 ((Tt ∧ (!v22) = true) ∧ T2 (T4 (T4 (T4 Tt)))))))))) [.no, .no, .dec false, .no, .no, .no, .dec false, .no, .no, .no, .dec false, .no, .no, .no, .dec false, .no, .no, .call z41 [.one (.bool v22)] [[.view]], .no, .no, .dec true] [1, 5, 6, 7, 15, 113] [1, 2, 3, 12, 13] ⟨tr, tr, ⟨tr, b18⟩, tr, tr, tr, ⟨tr, b19⟩, tr, tr, tr, ⟨tr, b20⟩, tr, tr, tr, ⟨tr, b21⟩, tr, tr, ⟨⟨⟨rfl, tr⟩, rfl, tr⟩, ok_impl_IsPairing K v4 v6 v22 e23⟩, tr, tr, ⟨tr, b24⟩, tr, tr, tr, tr, tr, tr, tr, tr, tr, tr, tr, tr, tr, tr, tr⟩ ⟨rfl, rfl⟩
              · obtain ⟨v25, e26, e29⟩ := bind_some e29
                rcases ite2_cases e29 with ⟨b27, e29⟩ | ⟨b27, e29⟩
                · replace e29 := some_eq e29
                  subst e29
                  exact AW.rA ⟨[(1, (vc z17)), (5, (vp 2 0)), (6, z4), (7, z25), (15, (vp 13 0)), (113, (vB true))], [(1, z3), (2, (.box [z2])), (3, z7), (12, z24), (13, (.box [z20]))]⟩ (T2 ((Tt ∧ (!v10.2) = false) ∧ Tt ∧ T2 ((Tt ∧ (!v12.2) = false) ∧ Tt ∧ T2 ((Tt ∧ (!v14.2) = false) ∧ Tt ∧ T2 ((Tt ∧ (!v16.2) = false) ∧ T2 ((z47 ∧ CallOK Try.prog 10 z41 [.one (.bool v22)]) ∧ T2 ((Tt ∧ (!v22) = false) ∧ T2 (((((eF v12.1.Root.X) ∧ (eF v12.1.Root.Y) ∧ (eF v12.1.Root.Z) ∧ (Eqc (sl 4 cs_Turn v12.1.Turns)) ∧ Tt) ∧ z37 ∧ Tt) ∧ CallOK Try.prog 11 [.agg z44, .agg (cs_Pose v8)] [.one (.bool v25)]) ∧ T2 ((Tt ∧ (!v25) = true) ∧ T4 (T4 Tt)))))))))) [.no, .no, .dec false, .no, .no, .no, .dec false, .no, .no, .no, .dec false, .no, .no, .no, .dec false, .no, .no, .call z41 [.one (.bool v22)] [[.view]], .no, .no, .dec false, .no, .no, .call [.agg z44, .agg (cs_Pose v8)] [.one (.bool v25)] [[.view]], .no, .no, .dec true] [1, 5, 6, 7, 15, 113] [1, 2, 3, 12, 13] ⟨tr, tr, ⟨tr, b18⟩, tr, tr, tr, ⟨tr, b19⟩, tr, tr, tr, ⟨tr, b20⟩, tr, tr, tr, ⟨tr, b21⟩, tr, tr, ⟨⟨⟨rfl, tr⟩, rfl, tr⟩, ok_impl_IsPairing K v4 v6 v22 e23⟩, tr, tr, ⟨tr, b24⟩, tr, tr, ⟨⟨⟨rfl, rfl, rfl, rfl, tr⟩, ⟨rfl, rfl, rfl, rfl, tr⟩, tr⟩, ok_impl_SamePose K v12.1 v8 v25 e26⟩, tr, tr, ⟨tr, b27⟩, tr, tr, tr, tr, tr, tr, tr, tr, tr⟩ ⟨rfl, rfl⟩
                · replace e29 := some_eq e29
                  subst e29
                  exact AW.rA ⟨[(1, (vc z17)), (5, (vp 2 0)), (6, z4), (7, z25), (15, (vp 13 0)), (113, (vB ((v16.1.Bones.length : Int) != (v4.Bones.length : Int))))], [(1, z3), (2, (.box [z2])), (3, z7), (12, z24), (13, (.box [z20]))]⟩ (T2 ((Tt ∧ (!v10.2) = false) ∧ Tt ∧ T2 ((Tt ∧ (!v12.2) = false) ∧ Tt ∧ T2 ((Tt ∧ (!v14.2) = false) ∧ Tt ∧ T2 ((Tt ∧ (!v16.2) = false) ∧ T2 ((z47 ∧ CallOK Try.prog 10 z41 [.one (.bool v22)]) ∧ T2 ((Tt ∧ (!v22) = false) ∧ T2 (((((eF v12.1.Root.X) ∧ (eF v12.1.Root.Y) ∧ (eF v12.1.Root.Z) ∧ (Eqc (sl 4 cs_Turn v12.1.Turns)) ∧ Tt) ∧ z37 ∧ Tt) ∧ CallOK Try.prog 11 [.agg z44, .agg (cs_Pose v8)] [.one (.bool v25)]) ∧ T2 ((Tt ∧ (!v25) = false) ∧ T4 (T4 Tt)))))))))) [.no, .no, .dec false, .no, .no, .no, .dec false, .no, .no, .no, .dec false, .no, .no, .no, .dec false, .no, .no, .call z41 [.one (.bool v22)] [[.view]], .no, .no, .dec false, .no, .no, .call [.agg z44, .agg (cs_Pose v8)] [.one (.bool v25)] [[.view]], .no, .no, .dec false] [1, 5, 6, 7, 15, 113] [1, 2, 3, 12, 13] ⟨tr, tr, ⟨tr, b18⟩, tr, tr, tr, ⟨tr, b19⟩, tr, tr, tr, ⟨tr, b20⟩, tr, tr, tr, ⟨tr, b21⟩, tr, tr, ⟨⟨⟨rfl, tr⟩, rfl, tr⟩, ok_impl_IsPairing K v4 v6 v22 e23⟩, tr, tr, ⟨tr, b24⟩, tr, tr, ⟨⟨⟨rfl, rfl, rfl, rfl, tr⟩, ⟨rfl, rfl, rfl, rfl, tr⟩, tr⟩, ok_impl_SamePose K v12.1 v8 v25 e26⟩, tr, tr, ⟨tr, b27⟩, tr, tr, tr, tr, tr, tr, tr, tr, tr⟩ ⟨rfl, rfl⟩
    refine thenQ_normal ?_
    rcases ite2_cases h with ⟨b30, h⟩ | ⟨b30, h⟩
    · refine AW.cond_t rfl b30 ?_
      refine AW.sA ⟨[(4, (vB false))], []⟩ (Tt ∧ Tt) [] [4] [] ⟨tr, tr⟩ ?_
      refine AW.ret ?_
      refine thenQ_ret ?_
      replace h := some_eq h
      subst h
      exact ⟨.inr rfl, retOK_of [(.one (.c (.bool false)))] (by kernel_rfl) ⟨⟨rfl, tr⟩, tr⟩ (of_decide_eq_true (by kernel_rfl))⟩
    · refine AW.cond_f rfl b30 ?_
      refine AW.skip ?_
      refine thenQ_normal ?_
      refine AW.seq ?_
      let z28 := (v16.1.Bones.length : Int)
      let z55 := vI (0 : Int)
      refine AW.sA ⟨[(1, (vc z17)), (5, (vp 2 0)), (6, z4), (7, z25), (15, (vp 13 0)), (116, (vI z28)), (117, z55)], [(1, z3), (2, (.box [z2])), (3, z7), (12, z24), (13, (.box [z20]))]⟩ (T4 Tt) [] [1, 5, 6, 7, 15, 116, 117] [1, 2, 3, 12, 13] ⟨tr, tr, tr, tr, tr⟩ ?_
      refine AW.block ?_
      refine AW.loopQ (σ := Nat × Int) (fun p => ⟨[(1, (vc z17)), (5, (vp 2 0)), (6, z4), (7, z25), (15, (vp 13 0)), (116, (vI z28)), (117, (vI p.2))], [(1, z3), (2, (.box [z2])), (3, z7), (12, z24), (13, (.box [z20]))]⟩) (fun p => laws_FnMirrored_l1 K a1 v4 v6 v16 p.1 p.2 = some o) (fun p => p.1) (K, (0 : Int)) h ?_
      clear h
      rintro ⟨k, x32⟩ h
      replace h : laws_FnMirrored_l1 K a1 v4 v6 v16 k x32 = some o := h
      show AW _ _ (⟨[(1, (vc z17)), (5, (vp 2 0)), (6, z4), (7, z25), (15, (vp 13 0)), (116, (vI z28)), (117, (vI x32))], [(1, z3), (2, (.box [z2])), (3, z7), (12, z24), (13, (.box [z20]))]⟩ : St) _
      obtain _ | k := k
      · rw [laws_FnMirrored_l1] at h; cases h
      rw [laws_FnMirrored_l1] at h
      refine AW.sA ⟨[(1, (vc z17)), (5, (vp 2 0)), (6, z4), (7, z25), (15, (vp 13 0)), (116, (vI z28)), (117, (vI x32)), (118, (vB (decide (x32 < z28))))], [(1, z3), (2, (.box [z2])), (3, z7), (12, z24), (13, (.box [z20]))]⟩ (Tt ∧ Tt) [] [1, 5, 6, 7, 15, 116, 117, 118] [1, 2, 3, 12, 13] ⟨tr, tr⟩ ?_
      refine AW.seq ?_
      rcases ite2_cases h with ⟨b33, h⟩ | ⟨b33, h⟩
      · refine AW.cond_t rfl b33 ?_
        refine AW.skip ?_
        refine thenQ_normal ?_
        refine AW.seq ?_
        refine AW.block ?_
        refine AW.sA ⟨[(1, (vc z17)), (5, (vp 2 0)), (6, z4), (7, z25), (15, (vp 13 0)), (17, (vI x32)), (116, (vI z28)), (117, (vI x32))], [(1, z3), (2, (.box [z2])), (3, z7), (12, z24), (13, (.box [z20]))]⟩ (T2 Tt) [] [1, 5, 6, 7, 15, 17, 116, 117] [1, 2, 3, 12, 13] ⟨tr, tr, tr⟩ ?_
        refine AW.seq ?_
        obtain ⟨c34, h⟩ := chk_some h
        obtain ⟨c35, h⟩ := chk_some h
        obtain ⟨j39, e40, h⟩ := bind_some h
        refine AW.join1 (s2 := ⟨[(1, (vc z17)), (5, (vp 2 0)), (6, z4), (7, z25), (15, (vp 13 0)), (116, (vI z28)), (117, (vI x32)), (148, (vB j39))], [(1, z3), (2, (.box [z2])), (3, z7), (12, z24), (13, (.box [z20]))]⟩) ?_ ?_
        · rcases ite2_cases e40 with ⟨b36, e40⟩ | ⟨b36, e40⟩
          · replace e40 := some_eq e40
            subst e40
            exact AW.dA ⟨[(1, (vc z17)), (5, (vp 2 0)), (6, z4), (7, z25), (15, (vp 13 0)), (116, (vI z28)), (117, (vI x32)), (148, (vB true))], [(1, z3), (2, (.box [z2])), (3, z7), (12, z24), (13, (.box [z20]))]⟩ ((Tt ∧ T2 ((0 ≤ x32 ∧ x32 < z28) ∧ Tt ∧ T4 ((0 ≤ x32 ∧ x32 < (v4.Bones.length : Int)) ∧ Tt ∧ T2 ((Tt ∧ (((v16.1.Bones.getD x32.toNat default).Parent) != ((v4.Bones.getD x32.toNat default).Parent)) = true) ∧ Tt ∧ T2 (T4 (T4 (T4 Tt))))))) ∧ (Tt)) 29 [.no, .no, .no, .no, .no, .no, .no, .no, .no, .no, .no, .no, .no, .dec true] [1, 5, 6, 7, 15, 116, 117, 148] [1, 2, 3, 12, 13] ⟨⟨tr, tr, tr, c34, tr, tr, tr, tr, tr, c35, tr, tr, tr, ⟨tr, b36⟩, tr, tr, tr, tr, tr, tr, tr, tr, tr, tr, tr, tr, tr, tr, tr, tr⟩, tr⟩ ⟨rfl, rfl⟩
          · obtain ⟨v37, e38, e40⟩ := bind_some e40
            replace e40 := some_eq e40
            subst e40
            let z34 := (v16.1.Bones.getD x32.toNat default).Offset
            let z36 := (v4.Bones.getD x32.toNat default).Offset
            let z56 := 0 ≤ x32 ∧ x32 < (v4.Bones.length : Int)
            exact AW.dA ⟨[(1, (vc z17)), (5, (vp 2 0)), (6, z4), (7, z25), (15, (vp 13 0)), (116, (vI z28)), (117, (vI x32)), (148, (vB (!v37)))], [(1, z3), (2, (.box [z2])), (3, z7), (12, z24), (13, (.box [z20]))]⟩ ((Tt ∧ T2 ((0 ≤ x32 ∧ x32 < z28) ∧ Tt ∧ T4 (z56 ∧ Tt ∧ T2 ((Tt ∧ (((v16.1.Bones.getD x32.toNat default).Parent) != ((v4.Bones.getD x32.toNat default).Parent)) = false) ∧ Tt ∧ T2 ((0 ≤ x32 ∧ x32 < z28) ∧ Tt ∧ T4 (z56 ∧ T2 (((((eF (z34.X)) ∧ (eF (z34.Y)) ∧ (eF (z34.Z)) ∧ Tt) ∧ ((eF (z36.X)) ∧ (eF (z36.Y)) ∧ (eF (z36.Z)) ∧ Tt) ∧ Tt) ∧ CallOK Try.prog 12 [.agg (cs_Vector z34), .agg (cs_Vector z36)] [.one (.bool v37)]) ∧ T2 Tt))))))) ∧ (Tt)) 29 [.no, .no, .no, .no, .no, .no, .no, .no, .no, .no, .no, .no, .no, .dec false, .no, .no, .no, .no, .no, .no, .no, .no, .no, .no, .no, .no, .call [.agg (cs_Vector z34), .agg (cs_Vector z36)] [.one (.bool v37)] [[.view]]] [1, 5, 6, 7, 15, 116, 117, 148] [1, 2, 3, 12, 13] ⟨⟨tr, tr, tr, c34, tr, tr, tr, tr, tr, c35, tr, tr, tr, ⟨tr, b36⟩, tr, tr, tr, c34, tr, tr, tr, tr, tr, c35, tr, tr, ⟨⟨⟨rfl, rfl, rfl, tr⟩, ⟨rfl, rfl, rfl, tr⟩, tr⟩, ok_spec_SameVector K z34 z36 v37 e38⟩, tr, tr, tr⟩, tr⟩ ⟨rfl, rfl⟩
        refine thenQ_normal ?_
        rcases ite2_cases h with ⟨b41, h⟩ | ⟨b41, h⟩
        · refine AW.cond_t rfl b41 ?_
          refine AW.sA ⟨[(4, (vB false))], []⟩ (Tt ∧ Tt) [] [4] [] ⟨tr, tr⟩ ?_
          refine AW.ret ?_
          refine blockQ_ret ?_
          refine thenQ_ret ?_
          refine loopQ_ret ?_
          refine blockQ_ret ?_
          refine thenQ_ret ?_
          replace h := some_eq h
          subst h
          exact ⟨.inr rfl, retOK_of [(.one (.c (.bool false)))] (by kernel_rfl) ⟨⟨rfl, tr⟩, tr⟩ (of_decide_eq_true (by kernel_rfl))⟩
        · refine AW.cond_f rfl b41 ?_
          refine AW.skip ?_
          refine blockQ_normal ?_
          refine thenQ_normal ?_
          let z59 := IntKind.i64.wrap (x32 + (1 : Int))
          refine AW.rA ⟨[(1, (vc z17)), (5, (vp 2 0)), (6, z4), (7, z25), (15, (vp 13 0)), (116, (vI z28)), (117, (vI z59))], [(1, z3), (2, (.box [z2])), (3, z7), (12, z24), (13, (.box [z20]))]⟩ (T2 Tt) [] [1, 5, 6, 7, 15, 116, 117] [1, 2, 3, 12, 13] ⟨tr, tr, tr⟩ ?_
          exact loopQ_normal (k, z59) h (Nat.lt_succ_self k) (Sub.keep [1, 5, 6, 7, 15, 116, 117] [1, 2, 3, 12, 13] (by kernel_rfl) (by kernel_rfl))
      · refine AW.cond_f rfl b33 ?_
        refine AW.exit ?_
        refine thenQ_exit ?_
        refine loopQ_exit ?_
        refine blockQ_exit ?_
        refine thenQ_normal ?_
        refine AW.seq ?_
        obtain ⟨c42, h⟩ := chk_some h
        obtain ⟨v43, e44, h⟩ := bind_some h
        let z1 := csL 5 cs_Key
        let z11 := List.replicate (v6.length : Int).toNat (default : (List Key))
        let z48 : List CT := [.one z17, .one (.int .i64 (0 : Int)), .one (.int .i64 (3 : Int))]
        refine AW.dA ⟨[(1, (vc z17)), (5, (vp 2 0)), (6, z4), (18, (vp 15 0))], [(1, z3), (2, (.box [z2])), (3, z7), (14, (.arr false z11.length 1 (gl z1 z11))), (15, (.box [(cI (0 : Int)), (cI v43), (.arr 14), .nils]))]⟩ ((Tt ∧ (0 ≤ (v6.length : Int) ∧ (v6.length : Int) = (v6.length : Int) ∧ ((z11.length : Nat) : Int) = (v6.length : Int) ∧ z11.length * 24 ≤ 140737488355328 ∧ ∀ i, i < z11.length → zeroRow (fun _ => none) [.nils] (gl z1 z11 i)) ∧ Tt ∧ (((Eqc z17) ∧ (eI (0 : Int)) ∧ (eI (3 : Int)) ∧ Tt) ∧ CallOK Try.prog 13 z48 [.one (.int .i64 v43)]) ∧ T2 Tt) ∧ (Tt ∧ Tt)) 6 [.no, .objA 14 z11.length (gl z1 z11), .no, .call z48 [.one (.int .i64 v43)] [[.view]], .no, .box 15] [1, 5, 6, 18] [1, 2, 3, 14, 15] ⟨⟨tr, ⟨c42.1, rfl, len_rep c42.1, rep_bytes c42.2, fun i hi => gl_zero (cs := z1) (zs := [.nils]) (n := (v6.length : Int).toNat) ⟨rfl, tr⟩ i (rep_lt hi)⟩, tr, ⟨⟨rfl, rfl, rfl, tr⟩, ok_laws_b10At K a1 (0 : Int) (3 : Int) v43 e44⟩, tr, tr, tr⟩, ⟨tr, tr⟩⟩ ?_
        refine thenQ_normal ?_
        refine AW.seq ?_
        obtain ⟨v45, e46, h⟩ := bind_some h
        let z45 : List CT := [.one z17, .agg (cs_Clip (Clip.mk (0 : Int) v43 z11 ([] : (List RootKey))))]
        refine AW.tC (T2 ((((Eqc z17) ∧ ((eI (0 : Int)) ∧ (eI v43) ∧ (Eqc (sl 1 z1 z11)) ∧ (0 = 0) ∧ Tt) ∧ Tt) ∧ CallOK Try.prog 14 z45 [.agg (cs_Clip v45)]) ∧ T2 Tt)) [.no, .no, .call z45 [.agg (cs_Clip v45)] [[.view, .view, .lst 16, .lst 17]], .box 18] [5, 6, 19] [1, 2, 3, 16, 17, 18] ⟨tr, tr, ⟨⟨rfl, ⟨rfl, rfl, rfl, rfl, tr⟩, tr⟩, ok_spec_B10Like K a1 (Clip.mk (0 : Int) v43 z11 ([] : (List RootKey))) v45 e46⟩, tr, tr, tr⟩ ?_
        refine AW.seq ?_
        obtain ⟨v47, e48, h⟩ := bind_some h
        let z27 := (eI v45.Length) ∧ (eI v45.Kind) ∧ (Eqc (sl 1 z1 v45.Tracks)) ∧ (Eqc (sl 4 cs_RootKey v45.Roots)) ∧ Tt
        let z42 := cs_Clip v47.1
        refine AW.tC (Tt ∧ T2 (((z26 ∧ z27 ∧ (Eqc z15) ∧ Tt) ∧ CallOK Try.prog 15 [.agg z29, .agg (cs_Clip v45), .one z15] [.agg z42, .one (.bool v47.2)]) ∧ T2 (T4 Tt))) [.no, .no, .no, .call [.agg z29, .agg (cs_Clip v45), .one z15] [.agg z42, .one (.bool v47.2)] [[.view, .view, .lst 19, .lst 20], [.view]], .no, .no, .no, .box 21] [5, 6, 19, 20, 21] [1, 2, 3, 16, 17, 18, 19, 20, 21] ⟨tr, tr, tr, ⟨⟨⟨rfl, tr⟩, ⟨rfl, rfl, rfl, rfl, tr⟩, rfl, tr⟩, ok_impl_MirrorClip K v4 v45 v6 v47 e48⟩, tr, tr, tr, tr, tr, tr, tr⟩ ?_
        refine AW.seq ?_
        obtain ⟨v49, e50, h⟩ := bind_some h
        let z5 := xL 20 4 cs_RootKey v47.1.Roots
        let z6 := xL 17 4 cs_RootKey v45.Roots
        let z8 := oL 4 cs_RootKey v47.1.Roots
        let z9 := oL 4 cs_RootKey v45.Roots
        let z10 := xL 19 1 z1 v47.1.Tracks
        let z12 := xL 16 1 z1 v45.Tracks
        let z14 := oL 1 z1 v47.1.Tracks
        let z16 := oL 1 z1 v45.Tracks
        let z18 := cI v47.1.Length
        let z22 := cI v45.Length
        let z23 := cI v47.1.Kind
        let z32 := (eI v47.1.Length) ∧ (eI v47.1.Kind) ∧ (Eqc (sl 1 z1 v47.1.Tracks)) ∧ (Eqc (sl 4 cs_RootKey v47.1.Roots)) ∧ Tt
        let z54 := cs_Clip v49.1
        refine AW.tA ⟨[(5, (vp 2 0)), (6, z4), (19, (vp 18 0)), (20, (vp 21 0)), (21, (vB v47.2)), (22, (vp 24 0)), (23, (vB v49.2))], [(1, z3), (2, (.box [z2])), (3, z7), (16, z16), (17, z9), (18, (.box [z22, (cI v45.Kind), z12, z6])), (19, z14), (20, z8), (21, (.box [z18, z23, z10, z5])), (22, (oL 1 z1 v49.1.Tracks)), (23, (oL 4 cs_RootKey v49.1.Roots)), (24, (.box [(cI v49.1.Length), (cI v49.1.Kind), (xL 22 1 z1 v49.1.Tracks), (xL 23 4 cs_RootKey v49.1.Roots)]))]⟩ (Tt ∧ T2 (((z26 ∧ z32 ∧ (Eqc z15) ∧ Tt) ∧ CallOK Try.prog 15 [.agg z29, .agg z42, .one z15] [.agg z54, .one (.bool v49.2)]) ∧ T2 (T4 Tt))) [.no, .no, .no, .call [.agg z29, .agg z42, .one z15] [.agg z54, .one (.bool v49.2)] [[.view, .view, .lst 22, .lst 23], [.view]], .no, .no, .no, .box 24] [5, 6, 19, 20, 21, 22, 23] [1, 2, 3, 16, 17, 18, 19, 20, 21, 22, 23, 24] ⟨tr, tr, tr, ⟨⟨⟨rfl, tr⟩, ⟨rfl, rfl, rfl, rfl, tr⟩, rfl, tr⟩, ok_impl_MirrorClip K v4 v47.1 v6 v49 e50⟩, tr, tr, tr, tr, tr, tr, tr⟩ ?_
        refine AW.seq ?_
        refine AW.seq ?_
        obtain ⟨j55, e56, h⟩ := bind_some h
        refine AW.join1 (s2 := ⟨[(5, (vp 2 0)), (6, z4), (19, (vp 18 0)), (20, (vp 21 0)), (183, (vB j55))], [(1, z3), (2, (.box [z2])), (3, z7), (16, z16), (17, z9), (18, (.box [z22, (cI v45.Kind), z12, z6])), (19, z14), (20, z8), (21, (.box [z18, z23, z10, z5]))]⟩) ?_ ?_
        · rcases ite2_cases e56 with ⟨b51, e56⟩ | ⟨b51, e56⟩
          · replace e56 := some_eq e56
            subst e56
            exact AW.rA ⟨[(5, (vp 2 0)), (6, z4), (19, (vp 18 0)), (20, (vp 21 0)), (183, (vB true))], [(1, z3), (2, (.box [z2])), (3, z7), (16, z16), (17, z9), (18, (.box [z22, (cI v45.Kind), z12, z6])), (19, z14), (20, z8), (21, (.box [z18, z23, z10, z5]))]⟩ (T2 ((Tt ∧ (!v47.2) = true) ∧ Tt ∧ T4 (T4 Tt))) [.no, .no, .dec true] [5, 6, 19, 20, 183] [1, 2, 3, 16, 17, 18, 19, 20, 21] ⟨tr, tr, ⟨tr, b51⟩, tr, tr, tr, tr, tr, tr, tr, tr, tr, tr⟩ ⟨rfl, rfl⟩
          · rcases ite2_cases e56 with ⟨b52, e56⟩ | ⟨b52, e56⟩
            · replace e56 := some_eq e56
              subst e56
              exact AW.rA ⟨[(5, (vp 2 0)), (6, z4), (19, (vp 18 0)), (20, (vp 21 0)), (183, (vB true))], [(1, z3), (2, (.box [z2])), (3, z7), (16, z16), (17, z9), (18, (.box [z22, (cI v45.Kind), z12, z6])), (19, z14), (20, z8), (21, (.box [z18, z23, z10, z5]))]⟩ (T2 ((Tt ∧ (!v47.2) = false) ∧ Tt ∧ T2 ((Tt ∧ (!v49.2) = true) ∧ Tt ∧ T4 Tt))) [.no, .no, .dec false, .no, .no, .no, .dec true] [5, 6, 19, 20, 183] [1, 2, 3, 16, 17, 18, 19, 20, 21] ⟨tr, tr, ⟨tr, b51⟩, tr, tr, tr, ⟨tr, b52⟩, tr, tr, tr, tr, tr, tr⟩ ⟨rfl, rfl⟩
            · obtain ⟨v53, e54, e56⟩ := bind_some e56
              replace e56 := some_eq e56
              subst e56
              exact AW.rA ⟨[(5, (vp 2 0)), (6, z4), (19, (vp 18 0)), (20, (vp 21 0)), (183, (vB (!v53)))], [(1, z3), (2, (.box [z2])), (3, z7), (16, z16), (17, z9), (18, (.box [z22, (cI v45.Kind), z12, z6])), (19, z14), (20, z8), (21, (.box [z18, z23, z10, z5]))]⟩ (T2 ((Tt ∧ (!v47.2) = false) ∧ Tt ∧ T2 ((Tt ∧ (!v49.2) = false) ∧ T2 (((((eI v49.1.Length) ∧ (eI v49.1.Kind) ∧ (Eqc (sl 1 z1 v49.1.Tracks)) ∧ (Eqc (sl 4 cs_RootKey v49.1.Roots)) ∧ Tt) ∧ z27 ∧ Tt) ∧ CallOK Try.prog 16 [.agg z54, .agg (cs_Clip v45)] [.one (.bool v53)]) ∧ T2 Tt)))) [.no, .no, .dec false, .no, .no, .no, .dec false, .no, .no, .call [.agg z54, .agg (cs_Clip v45)] [.one (.bool v53)] [[.view]]] [5, 6, 19, 20, 183] [1, 2, 3, 16, 17, 18, 19, 20, 21] ⟨tr, tr, ⟨tr, b51⟩, tr, tr, tr, ⟨tr, b52⟩, tr, tr, ⟨⟨⟨rfl, rfl, rfl, rfl, tr⟩, ⟨rfl, rfl, rfl, rfl, tr⟩, tr⟩, ok_laws_b10Clips K v49.1 v45 v53 e54⟩, tr, tr, tr⟩ ⟨rfl, rfl⟩
        refine thenQ_normal ?_
        rcases ite2_cases h with ⟨b57, h⟩ | ⟨b57, h⟩
        · refine AW.cond_t rfl b57 ?_
          refine AW.sA ⟨[(4, (vB false))], []⟩ (Tt ∧ Tt) [] [4] [] ⟨tr, tr⟩ ?_
          refine AW.ret ?_
          refine thenQ_ret ?_
          replace h := some_eq h
          subst h
          exact ⟨.inr rfl, retOK_of [(.one (.c (.bool false)))] (by kernel_rfl) ⟨⟨rfl, tr⟩, tr⟩ (of_decide_eq_true (by kernel_rfl))⟩
        · refine AW.cond_f rfl b57 ?_
          refine AW.skip ?_
          refine thenQ_normal ?_
          refine AW.seq ?_
          let z51 := (v45.Roots.length : Int)
          let z30 := vI z51
          refine AW.sA ⟨[(5, (vp 2 0)), (6, z4), (19, (vp 18 0)), (20, (vp 21 0)), (186, z30), (187, z55)], [(1, z3), (2, (.box [z2])), (3, z7), (16, z16), (17, z9), (18, (.box [z22, (cI v45.Kind), z12, z6])), (19, z14), (20, z8), (21, (.box [z18, z23, z10, z5]))]⟩ (T4 Tt) [] [5, 6, 19, 20, 186, 187] [1, 2, 3, 16, 17, 18, 19, 20, 21] ⟨tr, tr, tr, tr, tr⟩ ?_
          refine AW.block ?_
          refine AW.loopQ (σ := Nat × Int) (fun p => ⟨[(5, (vp 2 0)), (6, z4), (19, (vp 18 0)), (20, (vp 21 0)), (186, z30), (187, (vI p.2))], [(1, z3), (2, (.box [z2])), (3, z7), (16, z16), (17, z9), (18, (.box [z22, (cI v45.Kind), z12, z6])), (19, z14), (20, z8), (21, (.box [z18, z23, z10, z5]))]⟩) (fun p => laws_FnMirrored_l2 K v4 v6 v45 v47 p.1 p.2 = some o) (fun p => p.1) (K, (0 : Int)) h ?_
          clear h
          rintro ⟨k, x59⟩ h
          replace h : laws_FnMirrored_l2 K v4 v6 v45 v47 k x59 = some o := h
          show AW _ _ (⟨[(5, (vp 2 0)), (6, z4), (19, (vp 18 0)), (20, (vp 21 0)), (186, z30), (187, (vI x59))], [(1, z3), (2, (.box [z2])), (3, z7), (16, z16), (17, z9), (18, (.box [z22, (cI v45.Kind), z12, z6])), (19, z14), (20, z8), (21, (.box [z18, z23, z10, z5]))]⟩ : St) _
          obtain _ | k := k
          · rw [laws_FnMirrored_l2] at h; cases h
          rw [laws_FnMirrored_l2] at h
          refine AW.sA ⟨[(5, (vp 2 0)), (6, z4), (19, (vp 18 0)), (20, (vp 21 0)), (186, z30), (187, (vI x59)), (188, (vB (decide (x59 < z51))))], [(1, z3), (2, (.box [z2])), (3, z7), (16, z16), (17, z9), (18, (.box [z22, (cI v45.Kind), z12, z6])), (19, z14), (20, z8), (21, (.box [z18, z23, z10, z5]))]⟩ (Tt ∧ Tt) [] [5, 6, 19, 20, 186, 187, 188] [1, 2, 3, 16, 17, 18, 19, 20, 21] ⟨tr, tr⟩ ?_
          refine AW.seq ?_
          rcases ite2_cases h with ⟨b60, h⟩ | ⟨b60, h⟩
          · refine AW.cond_t rfl b60 ?_
            refine AW.skip ?_
            refine thenQ_normal ?_
            refine AW.seq ?_
            refine AW.block ?_
            refine AW.sC (T2 Tt) [] [5, 6, 19, 20, 24, 186, 187] [1, 2, 3, 16, 17, 18, 19, 20, 21] ⟨tr, tr, tr⟩ ?_
            refine AW.seq ?_
            obtain ⟨c61, h⟩ := chk_some h
            refine AW.tC (Tt ∧ T2 ((0 ≤ x59 ∧ x59 < z51) ∧ Tt ∧ T2 Tt)) [] [5, 6, 19, 20, 25, 186, 187] [1, 2, 3, 16, 17, 18, 19, 20, 21] ⟨tr, tr, tr, c61, tr, tr, tr, tr⟩ ?_
            refine AW.seq ?_
            obtain ⟨v62, e63, h⟩ := bind_some h
            let z31 := (v45.Roots.getD x59.toNat default).At
            let z58 := cs_Pose v62.1
            refine AW.tC (T2 (((z27 ∧ (eI z31) ∧ Tt) ∧ CallOK Try.prog 17 [.agg (cs_Clip v45), .one (.int .i64 z31)] [.agg z58, .one (.bool v62.2)]) ∧ T2 (T4 Tt))) [.no, .no, .call [.agg (cs_Clip v45), .one (.int .i64 z31)] [.agg z58, .one (.bool v62.2)] [[.view, .view, .view, .lst 37], [.view]], .no, .no, .no, .box 38] [5, 6, 19, 20, 25, 26, 27, 186, 187] [1, 2, 3, 16, 17, 18, 19, 20, 21, 37, 38] ⟨tr, tr, ⟨⟨⟨rfl, rfl, rfl, rfl, tr⟩, rfl, tr⟩, ok_impl_SampleClip K v45 z31 v62 e63⟩, tr, tr, tr, tr, tr, tr, tr⟩ ?_
            refine AW.seq ?_
            obtain ⟨v64, e65, h⟩ := bind_some h
            refine AW.tC (T2 (((z32 ∧ (eI z31) ∧ Tt) ∧ CallOK Try.prog 17 [.agg z42, .one (.int .i64 z31)] [.agg (cs_Pose v64.1), .one (.bool v64.2)]) ∧ T2 (T4 Tt))) [.no, .no, .call [.agg z42, .one (.int .i64 z31)] [.agg (cs_Pose v64.1), .one (.bool v64.2)] [[.view, .view, .view, .lst 39], [.view]], .no, .no, .no, .box 40] [5, 6, 19, 20, 26, 27, 28, 29, 186, 187] [1, 2, 3, 16, 17, 18, 19, 20, 21, 37, 38, 39, 40] ⟨tr, tr, ⟨⟨⟨rfl, rfl, rfl, rfl, tr⟩, rfl, tr⟩, ok_impl_SampleClip K v47.1 z31 v64 e65⟩, tr, tr, tr, tr, tr, tr, tr⟩ ?_
            refine AW.seq ?_
            obtain ⟨v66, e67, h⟩ := bind_some h
            refine AW.tA ⟨[(5, (vp 2 0)), (6, z4), (19, (vp 18 0)), (20, (vp 21 0)), (27, (vB v62.2)), (28, (vp 40 0)), (29, (vB v64.2)), (30, (vp 42 0)), (31, (vB v66.2)), (186, z30), (187, (vI x59))], [(1, z3), (2, (.box [z2])), (3, z7), (16, z16), (17, z9), (18, (.box [z22, (cI v45.Kind), z12, z6])), (19, z14), (20, z8), (21, (.box [z18, z23, z10, z5])), (39, (oL 4 cs_Turn v64.1.Turns)), (40, (.box [(cF v64.1.Root.X), (cF v64.1.Root.Y), (cF v64.1.Root.Z), (xL 39 4 cs_Turn v64.1.Turns)])), (41, (oL 4 cs_Turn v66.1.Turns)), (42, (.box [(cF v66.1.Root.X), (cF v66.1.Root.Y), (cF v66.1.Root.Z), (xL 41 4 cs_Turn v66.1.Turns)]))]⟩ (Tt ∧ T2 (((z26 ∧ ((eF v62.1.Root.X) ∧ (eF v62.1.Root.Y) ∧ (eF v62.1.Root.Z) ∧ (Eqc (sl 4 cs_Turn v62.1.Turns)) ∧ Tt) ∧ (Eqc z15) ∧ Tt) ∧ CallOK Try.prog 8 [.agg z29, .agg z58, .one z15] [.agg (cs_Pose v66.1), .one (.bool v66.2)]) ∧ T2 (T4 Tt))) [.no, .no, .no, .call [.agg z29, .agg z58, .one z15] [.agg (cs_Pose v66.1), .one (.bool v66.2)] [[.view, .view, .view, .lst 41], [.view]], .no, .no, .no, .box 42] [5, 6, 19, 20, 27, 28, 29, 30, 31, 186, 187] [1, 2, 3, 16, 17, 18, 19, 20, 21, 39, 40, 41, 42] ⟨tr, tr, tr, ⟨⟨⟨rfl, tr⟩, ⟨rfl, rfl, rfl, rfl, tr⟩, rfl, tr⟩, ok_impl_MirrorPose K v4 v62.1 v6 v66 e67⟩, tr, tr, tr, tr, tr, tr, tr⟩ ?_
            refine AW.seq ?_
            obtain ⟨j73, e74, h⟩ := bind_some h
            refine AW.join1 (s2 := ⟨[(5, (vp 2 0)), (6, z4), (19, (vp 18 0)), (20, (vp 21 0)), (186, z30), (187, (vI x59)), (232, (vB j73))], [(1, z3), (2, (.box [z2])), (3, z7), (16, z16), (17, z9), (18, (.box [z22, (cI v45.Kind), z12, z6])), (19, z14), (20, z8), (21, (.box [z18, z23, z10, z5]))]⟩) ?_ ?_
            · rcases ite2_cases e74 with ⟨b68, e74⟩ | ⟨b68, e74⟩
              · replace e74 := some_eq e74
                subst e74
                exact AW.rA ⟨[(5, (vp 2 0)), (6, z4), (19, (vp 18 0)), (20, (vp 21 0)), (186, z30), (187, (vI x59)), (232, (vB true))], [(1, z3), (2, (.box [z2])), (3, z7), (16, z16), (17, z9), (18, (.box [z22, (cI v45.Kind), z12, z6])), (19, z14), (20, z8), (21, (.box [z18, z23, z10, z5]))]⟩ (T2 ((Tt ∧ (!v62.2) = true) ∧ Tt ∧ T2 (T4 (T4 (T4 Tt))))) [.no, .no, .dec true] [5, 6, 19, 20, 186, 187, 232] [1, 2, 3, 16, 17, 18, 19, 20, 21] ⟨tr, tr, ⟨tr, b68⟩, tr, tr, tr, tr, tr, tr, tr, tr, tr, tr, tr, tr, tr, tr, tr, tr⟩ ⟨rfl, rfl⟩
              · rcases ite2_cases e74 with ⟨b69, e74⟩ | ⟨b69, e74⟩
                · replace e74 := some_eq e74
                  subst e74
                  exact AW.rA ⟨[(5, (vp 2 0)), (6, z4), (19, (vp 18 0)), (20, (vp 21 0)), (186, z30), (187, (vI x59)), (232, (vB true))], [(1, z3), (2, (.box [z2])), (3, z7), (16, z16), (17, z9), (18, (.box [z22, (cI v45.Kind), z12, z6])), (19, z14), (20, z8), (21, (.box [z18, z23, z10, z5]))]⟩ (T2 ((Tt ∧ (!v62.2) = false) ∧ Tt ∧ T2 ((Tt ∧ (!v64.2) = true) ∧ Tt ∧ T2 (T4 (T4 Tt))))) [.no, .no, .dec false, .no, .no, .no, .dec true] [5, 6, 19, 20, 186, 187, 232] [1, 2, 3, 16, 17, 18, 19, 20, 21] ⟨tr, tr, ⟨tr, b68⟩, tr, tr, tr, ⟨tr, b69⟩, tr, tr, tr, tr, tr, tr, tr, tr, tr, tr, tr, tr⟩ ⟨rfl, rfl⟩
                · rcases ite2_cases e74 with ⟨b70, e74⟩ | ⟨b70, e74⟩
                  · replace e74 := some_eq e74
                    subst e74
                    exact AW.rA ⟨[(5, (vp 2 0)), (6, z4), (19, (vp 18 0)), (20, (vp 21 0)), (186, z30), (187, (vI x59)), (232, (vB true))], [(1, z3), (2, (.box [z2])), (3, z7), (16, z16), (17, z9), (18, (.box [z22, (cI v45.Kind), z12, z6])), (19, z14), (20, z8), (21, (.box [z18, z23, z10, z5]))]⟩ (T2 ((Tt ∧ (!v62.2) = false) ∧ Tt ∧ T2 ((Tt ∧ (!v64.2) = false) ∧ Tt ∧ T2 ((Tt ∧ (!v66.2) = true) ∧ Tt ∧ T2 (T4 Tt))))) [.no, .no, .dec false, .no, .no, .no, .dec false, .no, .no, .no, .dec true] [5, 6, 19, 20, 186, 187, 232] [1, 2, 3, 16, 17, 18, 19, 20, 21] ⟨tr, tr, ⟨tr, b68⟩, tr, tr, tr, ⟨tr, b69⟩, tr, tr, tr, ⟨tr, b70⟩, tr, tr, tr, tr, tr, tr, tr, tr⟩ ⟨rfl, rfl⟩
                  · obtain ⟨v71, e72, e74⟩ := bind_some e74
                    replace e74 := some_eq e74
                    subst e74
                    let z57 : List CT := [.agg (cs_Vector v64.1.Root), .agg (cs_Vector v66.1.Root)]
                    exact AW.rA ⟨[(5, (vp 2 0)), (6, z4), (19, (vp 18 0)), (20, (vp 21 0)), (186, z30), (187, (vI x59)), (232, (vB (!v71)))], [(1, z3), (2, (.box [z2])), (3, z7), (16, z16), (17, z9), (18, (.box [z22, (cI v45.Kind), z12, z6])), (19, z14), (20, z8), (21, (.box [z18, z23, z10, z5]))]⟩ (T2 ((Tt ∧ (!v62.2) = false) ∧ Tt ∧ T2 ((Tt ∧ (!v64.2) = false) ∧ Tt ∧ T2 ((Tt ∧ (!v66.2) = false) ∧ T4 (((((eF v64.1.Root.X) ∧ (eF v64.1.Root.Y) ∧ (eF v64.1.Root.Z) ∧ Tt) ∧ ((eF v66.1.Root.X) ∧ (eF v66.1.Root.Y) ∧ (eF v66.1.Root.Z) ∧ Tt) ∧ Tt) ∧ CallOK Try.prog 12 z57 [.one (.bool v71)]) ∧ T2 Tt))))) [.no, .no, .dec false, .no, .no, .no, .dec false, .no, .no, .no, .dec false, .no, .no, .no, .no, .call z57 [.one (.bool v71)] [[.view]]] [5, 6, 19, 20, 186, 187, 232] [1, 2, 3, 16, 17, 18, 19, 20, 21] ⟨tr, tr, ⟨tr, b68⟩, tr, tr, tr, ⟨tr, b69⟩, tr, tr, tr, ⟨tr, b70⟩, tr, tr, tr, tr, ⟨⟨⟨rfl, rfl, rfl, tr⟩, ⟨rfl, rfl, rfl, tr⟩, tr⟩, ok_spec_SameVector K v64.1.Root v66.1.Root v71 e72⟩, tr, tr, tr⟩ ⟨rfl, rfl⟩
            refine thenQ_normal ?_
            rcases ite2_cases h with ⟨b75, h⟩ | ⟨b75, h⟩
            · refine AW.cond_t rfl b75 ?_
              refine AW.sA ⟨[(4, (vB false))], []⟩ (Tt ∧ Tt) [] [4] [] ⟨tr, tr⟩ ?_
              refine AW.ret ?_
              refine blockQ_ret ?_
              refine thenQ_ret ?_
              refine loopQ_ret ?_
              refine blockQ_ret ?_
              refine thenQ_ret ?_
              replace h := some_eq h
              subst h
              exact ⟨.inr rfl, retOK_of [(.one (.c (.bool false)))] (by kernel_rfl) ⟨⟨rfl, tr⟩, tr⟩ (of_decide_eq_true (by kernel_rfl))⟩
            · refine AW.cond_f rfl b75 ?_
              refine AW.skip ?_
              refine blockQ_normal ?_
              refine thenQ_normal ?_
              refine AW.rA ⟨[(5, (vp 2 0)), (6, z4), (19, (vp 18 0)), (20, (vp 21 0)), (186, z30), (187, (vI (IntKind.i64.wrap (x59 + (1 : Int)))))], [(1, z3), (2, (.box [z2])), (3, z7), (16, z16), (17, z9), (18, (.box [z22, (cI v45.Kind), z12, z6])), (19, z14), (20, z8), (21, (.box [z18, z23, z10, z5]))]⟩ (T2 Tt) [] [5, 6, 19, 20, 186, 187] [1, 2, 3, 16, 17, 18, 19, 20, 21] ⟨tr, tr, tr⟩ ?_
              exact loopQ_normal (k, (IntKind.i64.wrap (x59 + (1 : Int)))) h (Nat.lt_succ_self k) (Sub.keep [5, 6, 19, 20, 186, 187] [1, 2, 3, 16, 17, 18, 19, 20, 21] (by kernel_rfl) (by kernel_rfl))
          · refine AW.cond_f rfl b60 ?_
            refine AW.exit ?_
            refine thenQ_exit ?_
            refine loopQ_exit ?_
            refine blockQ_exit ?_
            refine thenQ_normal ?_
            refine AW.seq ?_
            let z46 := (v45.Tracks.length : Int)
            let z19 := vI z46
            refine AW.sA ⟨[(5, (vp 2 0)), (6, z4), (19, (vp 18 0)), (20, (vp 21 0)), (236, z19), (237, z55)], [(1, z3), (2, (.box [z2])), (3, z7), (16, z16), (17, z9), (18, (.box [z22, (cI v45.Kind), z12, z6])), (19, z14), (20, z8), (21, (.box [z18, z23, z10, z5]))]⟩ (T4 Tt) [] [5, 6, 19, 20, 236, 237] [1, 2, 3, 16, 17, 18, 19, 20, 21] ⟨tr, tr, tr, tr, tr⟩ ?_
            refine AW.block ?_
            refine AW.loopQ (σ := Nat × Int) (fun p => ⟨[(5, (vp 2 0)), (6, z4), (19, (vp 18 0)), (20, (vp 21 0)), (236, z19), (237, (vI p.2))], [(1, z3), (2, (.box [z2])), (3, z7), (16, z16), (17, z9), (18, (.box [z22, (cI v45.Kind), z12, z6])), (19, z14), (20, z8), (21, (.box [z18, z23, z10, z5]))]⟩) (fun p => laws_FnMirrored_l5 K v4 v6 v45 v47 p.1 p.2 = some o) (fun p => p.1) (K, (0 : Int)) h ?_
            clear h
            rintro ⟨k, x77⟩ h
            replace h : laws_FnMirrored_l5 K v4 v6 v45 v47 k x77 = some o := h
            show AW _ _ (⟨[(5, (vp 2 0)), (6, z4), (19, (vp 18 0)), (20, (vp 21 0)), (236, z19), (237, (vI x77))], [(1, z3), (2, (.box [z2])), (3, z7), (16, z16), (17, z9), (18, (.box [z22, (cI v45.Kind), z12, z6])), (19, z14), (20, z8), (21, (.box [z18, z23, z10, z5]))]⟩ : St) _
            obtain _ | k := k
            · rw [laws_FnMirrored_l5] at h; cases h
            rw [laws_FnMirrored_l5] at h
            refine AW.sA ⟨[(5, (vp 2 0)), (6, z4), (19, (vp 18 0)), (20, (vp 21 0)), (236, z19), (237, (vI x77)), (238, (vB (decide (x77 < z46))))], [(1, z3), (2, (.box [z2])), (3, z7), (16, z16), (17, z9), (18, (.box [z22, (cI v45.Kind), z12, z6])), (19, z14), (20, z8), (21, (.box [z18, z23, z10, z5]))]⟩ (Tt ∧ Tt) [] [5, 6, 19, 20, 236, 237, 238] [1, 2, 3, 16, 17, 18, 19, 20, 21] ⟨tr, tr⟩ ?_
            refine AW.seq ?_
            rcases ite2_cases h with ⟨b78, h⟩ | ⟨b78, h⟩
            · refine AW.cond_t rfl b78 ?_
              refine AW.skip ?_
              refine thenQ_normal ?_
              refine AW.seq ?_
              refine AW.block ?_
              refine AW.sC (T2 Tt) [] [5, 6, 19, 20, 32, 236, 237] [1, 2, 3, 16, 17, 18, 19, 20, 21] ⟨tr, tr, tr⟩ ?_
              refine AW.seq ?_
              obtain ⟨c79, h⟩ := chk_some h
              let z13 := v45.Tracks.getD x77.toNat default
              let z35 := vI (z13.length : Int)
              refine AW.tA ⟨[(5, (vp 2 0)), (6, z4), (19, (vp 18 0)), (20, (vp 21 0)), (32, (vI x77)), (236, z19), (237, (vI x77)), (245, z35), (246, z55)], [(1, z3), (2, (.box [z2])), (3, z7), (16, z16), (17, z9), (18, (.box [z22, (cI v45.Kind), z12, z6])), (19, z14), (20, z8), (21, (.box [z18, z23, z10, z5]))]⟩ (Tt ∧ T2 ((0 ≤ x77 ∧ x77 < z46) ∧ Tt ∧ T2 Tt)) [] [5, 6, 19, 20, 32, 236, 237, 245, 246] [1, 2, 3, 16, 17, 18, 19, 20, 21] ⟨tr, tr, tr, c79, tr, tr, tr, tr⟩ ?_
              obtain ⟨j103, e102, h⟩ := bind_some h
              refine AW.joinM (cx := ?cx) ((fun z0 => sumQ z0 (fun j104 => OnlyE ?cx .normal ⟨[(5, (vp 2 0)), (6, z4), (19, (vp 18 0)), (20, (vp 21 0)), (236, z19), (237, (vI x77))], [(1, z3), (2, (.box [z2])), (3, z7), (16, z16), (17, z9), (18, (.box [z22, (cI v45.Kind), z12, z6])), (19, z14), (20, z8), (21, (.box [z18, z23, z10, z5]))]⟩) (fun j105 => OnlyE ?cx .ret ⟨[(4, (vB false))], []⟩)) j103) ?_ ?_
              · replace h := e102
                refine AW.block ?_
                refine AW.loopQ (σ := Nat × Int) (fun p => ⟨[(5, (vp 2 0)), (6, z4), (19, (vp 18 0)), (20, (vp 21 0)), (32, (vI x77)), (236, z19), (237, (vI x77)), (245, z35), (246, (vI p.2))], [(1, z3), (2, (.box [z2])), (3, z7), (16, z16), (17, z9), (18, (.box [z22, (cI v45.Kind), z12, z6])), (19, z14), (20, z8), (21, (.box [z18, z23, z10, z5]))]⟩) (fun p => laws_FnMirrored_l6 K v4 v6 v45 v47 x77 p.1 p.2 = some j103) (fun p => p.1) (K, (0 : Int)) h ?_
                clear h
                rintro ⟨k, x107⟩ h
                replace h : laws_FnMirrored_l6 K v4 v6 v45 v47 x77 k x107 = some j103 := h
                show AW _ _ (⟨[(5, (vp 2 0)), (6, z4), (19, (vp 18 0)), (20, (vp 21 0)), (32, (vI x77)), (236, z19), (237, (vI x77)), (245, z35), (246, (vI x107))], [(1, z3), (2, (.box [z2])), (3, z7), (16, z16), (17, z9), (18, (.box [z22, (cI v45.Kind), z12, z6])), (19, z14), (20, z8), (21, (.box [z18, z23, z10, z5]))]⟩ : St) _
                obtain _ | k := k
                · rw [laws_FnMirrored_l6] at h; cases h
                rw [laws_FnMirrored_l6] at h
                refine AW.sA ⟨[(5, (vp 2 0)), (6, z4), (19, (vp 18 0)), (20, (vp 21 0)), (32, (vI x77)), (236, z19), (237, (vI x77)), (245, z35), (246, (vI x107)), (247, (vB (decide (x107 < (z13.length : Int)))))], [(1, z3), (2, (.box [z2])), (3, z7), (16, z16), (17, z9), (18, (.box [z22, (cI v45.Kind), z12, z6])), (19, z14), (20, z8), (21, (.box [z18, z23, z10, z5]))]⟩ (Tt ∧ Tt) [] [5, 6, 19, 20, 32, 236, 237, 245, 246, 247] [1, 2, 3, 16, 17, 18, 19, 20, 21] ⟨tr, tr⟩ ?_
                refine AW.seq ?_
                rcases ite2_cases h with ⟨b108, h⟩ | ⟨b108, h⟩
                · refine AW.cond_t rfl b108 ?_
                  refine AW.skip ?_
                  refine thenQ_normal ?_
                  refine AW.seq ?_
                  refine AW.block ?_
                  refine AW.sC (T2 Tt) [] [5, 6, 19, 20, 32, 33, 236, 237, 245, 246] [1, 2, 3, 16, 17, 18, 19, 20, 21] ⟨tr, tr, tr⟩ ?_
                  refine AW.seq ?_
                  obtain ⟨c109, h⟩ := chk_some h
                  obtain ⟨c110, h⟩ := chk_some h
                  refine AW.tC (Tt ∧ T2 ((0 ≤ x77 ∧ x77 < z46) ∧ T2 ((0 ≤ x107 ∧ x107 < (z13.length : Int)) ∧ Tt ∧ T2 Tt))) [] [5, 6, 19, 20, 32, 34, 236, 237, 245, 246] [1, 2, 3, 16, 17, 18, 19, 20, 21] ⟨tr, tr, tr, c109, tr, tr, c110, tr, tr, tr, tr⟩ ?_
                  refine AW.seq ?_
                  obtain ⟨v111, e112, h⟩ := bind_some h
                  let z33 := (z13.getD x107.toNat default).At
                  refine AW.tC (T2 (((z27 ∧ (eI z33) ∧ Tt) ∧ CallOK Try.prog 17 [.agg (cs_Clip v45), .one (.int .i64 z33)] [.agg (cs_Pose v111.1), .one (.bool v111.2)]) ∧ T2 (T4 Tt))) [.no, .no, .call [.agg (cs_Clip v45), .one (.int .i64 z33)] [.agg (cs_Pose v111.1), .one (.bool v111.2)] [[.view, .view, .view, .lst 145], [.view]], .no, .no, .no, .box 146] [5, 6, 19, 20, 32, 34, 35, 36, 236, 237, 245, 246] [1, 2, 3, 16, 17, 18, 19, 20, 21, 145, 146] ⟨tr, tr, ⟨⟨⟨rfl, rfl, rfl, rfl, tr⟩, rfl, tr⟩, ok_impl_SampleClip K v45 z33 v111 e112⟩, tr, tr, tr, tr, tr, tr, tr⟩ ?_
                  refine AW.seq ?_
                  obtain ⟨v113, e114, h⟩ := bind_some h
                  refine AW.tC (T2 (((z32 ∧ (eI z33) ∧ Tt) ∧ CallOK Try.prog 17 [.agg z42, .one (.int .i64 z33)] [.agg (cs_Pose v113.1), .one (.bool v113.2)]) ∧ T2 (T4 Tt))) [.no, .no, .call [.agg z42, .one (.int .i64 z33)] [.agg (cs_Pose v113.1), .one (.bool v113.2)] [[.view, .view, .view, .lst 147], [.view]], .no, .no, .no, .box 148] [5, 6, 19, 20, 32, 35, 36, 37, 38, 236, 237, 245, 246] [1, 2, 3, 16, 17, 18, 19, 20, 21, 145, 146, 147, 148] ⟨tr, tr, ⟨⟨⟨rfl, rfl, rfl, rfl, tr⟩, rfl, tr⟩, ok_impl_SampleClip K v47.1 z33 v113 e114⟩, tr, tr, tr, tr, tr, tr, tr⟩ ?_
                  refine AW.seq ?_
                  obtain ⟨v115, e116, h⟩ := bind_some h
                  refine AW.tA ⟨[(5, (vp 2 0)), (6, z4), (19, (vp 18 0)), (20, (vp 21 0)), (32, (vI x77)), (36, (vB v111.2)), (37, (vp 148 0)), (38, (vB v113.2)), (39, (vp 150 0)), (40, (vB v115.2)), (236, z19), (237, (vI x77)), (245, z35), (246, (vI x107))], [(1, z3), (2, (.box [z2])), (3, z7), (16, z16), (17, z9), (18, (.box [z22, (cI v45.Kind), z12, z6])), (19, z14), (20, z8), (21, (.box [z18, z23, z10, z5])), (147, (oL 4 cs_Turn v113.1.Turns)), (148, (.box [(cF v113.1.Root.X), (cF v113.1.Root.Y), (cF v113.1.Root.Z), (xL 147 4 cs_Turn v113.1.Turns)])), (149, (oL 4 cs_Turn v115.1.Turns)), (150, (.box [(cF v115.1.Root.X), (cF v115.1.Root.Y), (cF v115.1.Root.Z), (xL 149 4 cs_Turn v115.1.Turns)]))]⟩ (Tt ∧ T2 (((z26 ∧ ((eF v111.1.Root.X) ∧ (eF v111.1.Root.Y) ∧ (eF v111.1.Root.Z) ∧ (Eqc (sl 4 cs_Turn v111.1.Turns)) ∧ Tt) ∧ (Eqc z15) ∧ Tt) ∧ CallOK Try.prog 8 [.agg z29, .agg (cs_Pose v111.1), .one z15] [.agg (cs_Pose v115.1), .one (.bool v115.2)]) ∧ T2 (T4 Tt))) [.no, .no, .no, .call [.agg z29, .agg (cs_Pose v111.1), .one z15] [.agg (cs_Pose v115.1), .one (.bool v115.2)] [[.view, .view, .view, .lst 149], [.view]], .no, .no, .no, .box 150] [5, 6, 19, 20, 32, 36, 37, 38, 39, 40, 236, 237, 245, 246] [1, 2, 3, 16, 17, 18, 19, 20, 21, 147, 148, 149, 150] ⟨tr, tr, tr, ⟨⟨⟨rfl, tr⟩, ⟨rfl, rfl, rfl, rfl, tr⟩, rfl, tr⟩, ok_impl_MirrorPose K v4 v111.1 v6 v115 e116⟩, tr, tr, tr, tr, tr, tr, tr⟩ ?_
                  refine AW.seq ?_
                  obtain ⟨j125, e126, h⟩ := bind_some h
                  refine AW.join1 (s2 := ⟨[(5, (vp 2 0)), (6, z4), (19, (vp 18 0)), (20, (vp 21 0)), (32, (vI x77)), (236, z19), (237, (vI x77)), (245, z35), (246, (vI x107)), (306, (vB j125))], [(1, z3), (2, (.box [z2])), (3, z7), (16, z16), (17, z9), (18, (.box [z22, (cI v45.Kind), z12, z6])), (19, z14), (20, z8), (21, (.box [z18, z23, z10, z5]))]⟩) ?_ ?_
                  · rcases ite2_cases e126 with ⟨b117, e126⟩ | ⟨b117, e126⟩
                    · replace e126 := some_eq e126
                      subst e126
                      exact AW.dA ⟨[(5, (vp 2 0)), (6, z4), (19, (vp 18 0)), (20, (vp 21 0)), (32, (vI x77)), (236, z19), (237, (vI x77)), (245, z35), (246, (vI x107)), (306, (vB true))], [(1, z3), (2, (.box [z2])), (3, z7), (16, z16), (17, z9), (18, (.box [z22, (cI v45.Kind), z12, z6])), (19, z14), (20, z8), (21, (.box [z18, z23, z10, z5]))]⟩ ((T2 ((Tt ∧ (!v111.2) = true) ∧ Tt ∧ T2 (T4 (T4 (T4 (T4 (T4 (T4 Tt)))))))) ∧ (Tt)) 30 [.no, .no, .dec true] [5, 6, 19, 20, 32, 236, 237, 245, 246, 306] [1, 2, 3, 16, 17, 18, 19, 20, 21] ⟨⟨tr, tr, ⟨tr, b117⟩, tr, tr, tr, tr, tr, tr, tr, tr, tr, tr, tr, tr, tr, tr, tr, tr, tr, tr, tr, tr, tr, tr, tr, tr, tr, tr, tr, tr⟩, tr⟩ ⟨rfl, rfl⟩
                    · rcases ite2_cases e126 with ⟨b118, e126⟩ | ⟨b118, e126⟩
                      · replace e126 := some_eq e126
                        subst e126
                        exact AW.dA ⟨[(5, (vp 2 0)), (6, z4), (19, (vp 18 0)), (20, (vp 21 0)), (32, (vI x77)), (236, z19), (237, (vI x77)), (245, z35), (246, (vI x107)), (306, (vB true))], [(1, z3), (2, (.box [z2])), (3, z7), (16, z16), (17, z9), (18, (.box [z22, (cI v45.Kind), z12, z6])), (19, z14), (20, z8), (21, (.box [z18, z23, z10, z5]))]⟩ ((T2 ((Tt ∧ (!v111.2) = false) ∧ Tt ∧ T2 ((Tt ∧ (!v113.2) = true) ∧ Tt ∧ T2 (T4 (T4 (T4 (T4 (T4 Tt)))))))) ∧ (Tt)) 30 [.no, .no, .dec false, .no, .no, .no, .dec true] [5, 6, 19, 20, 32, 236, 237, 245, 246, 306] [1, 2, 3, 16, 17, 18, 19, 20, 21] ⟨⟨tr, tr, ⟨tr, b117⟩, tr, tr, tr, ⟨tr, b118⟩, tr, tr, tr, tr, tr, tr, tr, tr, tr, tr, tr, tr, tr, tr, tr, tr, tr, tr, tr, tr, tr, tr, tr, tr⟩, tr⟩ ⟨rfl, rfl⟩
                      · rcases ite2_cases e126 with ⟨b119, e126⟩ | ⟨b119, e126⟩
                        · replace e126 := some_eq e126
                          subst e126
                          exact AW.dA ⟨[(5, (vp 2 0)), (6, z4), (19, (vp 18 0)), (20, (vp 21 0)), (32, (vI x77)), (236, z19), (237, (vI x77)), (245, z35), (246, (vI x107)), (306, (vB true))], [(1, z3), (2, (.box [z2])), (3, z7), (16, z16), (17, z9), (18, (.box [z22, (cI v45.Kind), z12, z6])), (19, z14), (20, z8), (21, (.box [z18, z23, z10, z5]))]⟩ ((T2 ((Tt ∧ (!v111.2) = false) ∧ Tt ∧ T2 ((Tt ∧ (!v113.2) = false) ∧ Tt ∧ T2 ((Tt ∧ (!v115.2) = true) ∧ Tt ∧ T2 (T4 (T4 (T4 (T4 Tt)))))))) ∧ (Tt)) 30 [.no, .no, .dec false, .no, .no, .no, .dec false, .no, .no, .no, .dec true] [5, 6, 19, 20, 32, 236, 237, 245, 246, 306] [1, 2, 3, 16, 17, 18, 19, 20, 21] ⟨⟨tr, tr, ⟨tr, b117⟩, tr, tr, tr, ⟨tr, b118⟩, tr, tr, tr, ⟨tr, b119⟩, tr, tr, tr, tr, tr, tr, tr, tr, tr, tr, tr, tr, tr, tr, tr, tr, tr, tr, tr, tr⟩, tr⟩ ⟨rfl, rfl⟩
                        · obtain ⟨c120, e126⟩ := chk_some e126
                          obtain ⟨c121, e126⟩ := chk_some e126
                          obtain ⟨c122, e126⟩ := chk_some e126
                          obtain ⟨v123, e124, e126⟩ := bind_some e126
                          replace e126 := some_eq e126
                          subst e126
                          let z43 := v6.getD x77.toNat default
                          let z21 := z43.toNat
                          let z39 := v113.1.Turns.getD z21 default
                          let z40 := v115.1.Turns.getD z21 default
                          exact AW.dA ⟨[(5, (vp 2 0)), (6, z4), (19, (vp 18 0)), (20, (vp 21 0)), (32, (vI x77)), (236, z19), (237, (vI x77)), (245, z35), (246, (vI x107)), (306, (vB (!v123)))], [(1, z3), (2, (.box [z2])), (3, z7), (16, z16), (17, z9), (18, (.box [z22, (cI v45.Kind), z12, z6])), (19, z14), (20, z8), (21, (.box [z18, z23, z10, z5]))]⟩ ((T2 ((Tt ∧ (!v111.2) = false) ∧ Tt ∧ T2 ((Tt ∧ (!v113.2) = false) ∧ Tt ∧ T2 ((Tt ∧ (!v115.2) = false) ∧ T4 ((0 ≤ x77 ∧ x77 < (v6.length : Int)) ∧ Tt ∧ (0 ≤ z43 ∧ z43 < (v113.1.Turns.length : Int)) ∧ Tt ∧ T4 ((0 ≤ x77 ∧ x77 < (v6.length : Int)) ∧ Tt ∧ (0 ≤ z43 ∧ z43 < (v115.1.Turns.length : Int)) ∧ Tt ∧ ((((eF (z39.W)) ∧ (eF (z39.X)) ∧ (eF (z39.Y)) ∧ (eF (z39.Z)) ∧ Tt) ∧ ((eF (z40.W)) ∧ (eF (z40.X)) ∧ (eF (z40.Y)) ∧ (eF (z40.Z)) ∧ Tt) ∧ Tt) ∧ CallOK Try.prog 18 [.agg (cs_Turn z39), .agg (cs_Turn z40)] [.one (.bool v123)]) ∧ T2 Tt)))))) ∧ (Tt)) 30 [.no, .no, .dec false, .no, .no, .no, .dec false, .no, .no, .no, .dec false, .no, .no, .no, .no, .no, .no, .no, .no, .no, .no, .no, .no, .no, .no, .no, .no, .call [.agg (cs_Turn z39), .agg (cs_Turn z40)] [.one (.bool v123)] [[.view]]] [5, 6, 19, 20, 32, 236, 237, 245, 246, 306] [1, 2, 3, 16, 17, 18, 19, 20, 21] ⟨⟨tr, tr, ⟨tr, b117⟩, tr, tr, tr, ⟨tr, b118⟩, tr, tr, tr, ⟨tr, b119⟩, tr, tr, tr, tr, c120, tr, c121, tr, tr, tr, tr, tr, c120, tr, c122, tr, ⟨⟨⟨rfl, rfl, rfl, rfl, tr⟩, ⟨rfl, rfl, rfl, rfl, tr⟩, tr⟩, ok_spec_SameTurn K z39 z40 v123 e124⟩, tr, tr, tr⟩, tr⟩ ⟨rfl, rfl⟩
                  refine thenQ_normal ?_
                  rcases ite2_cases h with ⟨b127, h⟩ | ⟨b127, h⟩
                  · refine AW.cond_t rfl b127 ?_
                    refine AW.sA ⟨[(4, (vB false))], []⟩ (Tt ∧ Tt) [] [4] [] ⟨tr, tr⟩ ?_
                    refine AW.ret ?_
                    refine blockQ_ret ?_
                    refine thenQ_ret ?_
                    refine loopQ_ret ?_
                    refine blockQ_ret ?_
                    replace h := some_eq h
                    subst h
                    exact ⟨rfl, Sub.keep [4] [] (by kernel_rfl) (by kernel_rfl)⟩
                  · refine AW.cond_f rfl b127 ?_
                    refine AW.skip ?_
                    refine blockQ_normal ?_
                    refine thenQ_normal ?_
                    refine AW.rA ⟨[(5, (vp 2 0)), (6, z4), (19, (vp 18 0)), (20, (vp 21 0)), (32, (vI x77)), (236, z19), (237, (vI x77)), (245, z35), (246, (vI (IntKind.i64.wrap (x107 + (1 : Int)))))], [(1, z3), (2, (.box [z2])), (3, z7), (16, z16), (17, z9), (18, (.box [z22, (cI v45.Kind), z12, z6])), (19, z14), (20, z8), (21, (.box [z18, z23, z10, z5]))]⟩ (T2 Tt) [] [5, 6, 19, 20, 32, 236, 237, 245, 246] [1, 2, 3, 16, 17, 18, 19, 20, 21] ⟨tr, tr, tr⟩ ?_
                    exact loopQ_normal (k, (IntKind.i64.wrap (x107 + (1 : Int)))) h (Nat.lt_succ_self k) (Sub.keep [5, 6, 19, 20, 32, 236, 237, 245, 246] [1, 2, 3, 16, 17, 18, 19, 20, 21] (by kernel_rfl) (by kernel_rfl))
                · refine AW.cond_f rfl b108 ?_
                  refine AW.exit ?_
                  refine thenQ_exit ?_
                  refine loopQ_exit ?_
                  refine blockQ_exit ?_
                  replace h := some_eq h
                  subst h
                  exact ⟨rfl, Sub.keep [5, 6, 19, 20, 236, 237] [1, 2, 3, 16, 17, 18, 19, 20, 21] (by kernel_rfl) (by kernel_rfl)⟩
              clear e102
              intro ex1 st1 hq
              obtain j104 | j105 := j103
              · replace h := sumC_inl h
                obtain ⟨he, hs⟩ := hq
                subst he
                refine ⟨⟨[(5, (vp 2 0)), (6, z4), (19, (vp 18 0)), (20, (vp 21 0)), (236, z19), (237, (vI x77))], [(1, z3), (2, (.box [z2])), (3, z7), (16, z16), (17, z9), (18, (.box [z22, (cI v45.Kind), z12, z6])), (19, z14), (20, z8), (21, (.box [z18, z23, z10, z5]))]⟩, hs, ?_⟩
                clear hs st1
                refine blockQ_normal ?_
                refine thenQ_normal ?_
                refine AW.rA ⟨[(5, (vp 2 0)), (6, z4), (19, (vp 18 0)), (20, (vp 21 0)), (236, z19), (237, (vI (IntKind.i64.wrap (x77 + (1 : Int)))))], [(1, z3), (2, (.box [z2])), (3, z7), (16, z16), (17, z9), (18, (.box [z22, (cI v45.Kind), z12, z6])), (19, z14), (20, z8), (21, (.box [z18, z23, z10, z5]))]⟩ (T2 Tt) [] [5, 6, 19, 20, 236, 237] [1, 2, 3, 16, 17, 18, 19, 20, 21] ⟨tr, tr, tr⟩ ?_
                exact loopQ_normal (k, (IntKind.i64.wrap (x77 + (1 : Int)))) h (Nat.lt_succ_self k) (Sub.keep [5, 6, 19, 20, 236, 237] [1, 2, 3, 16, 17, 18, 19, 20, 21] (by kernel_rfl) (by kernel_rfl))
              · replace h := sumC_inr h
                obtain ⟨he, hs⟩ := hq
                subst he
                refine ⟨⟨[(4, (vB false))], []⟩, hs, ?_⟩
                clear hs st1
                refine blockQ_ret ?_
                refine thenQ_ret ?_
                refine loopQ_ret ?_
                refine blockQ_ret ?_
                refine thenQ_ret ?_
                replace h := some_eq h
                subst h
                exact ⟨.inr rfl, retOK_of [(.one (.c (.bool false)))] (by kernel_rfl) ⟨⟨rfl, tr⟩, tr⟩ (of_decide_eq_true (by kernel_rfl))⟩
            · refine AW.cond_f rfl b78 ?_
              refine AW.exit ?_
              refine thenQ_exit ?_
              refine loopQ_exit ?_
              refine blockQ_exit ?_
              refine thenQ_normal ?_
              refine AW.sA ⟨[(4, (vB true))], []⟩ (Tt ∧ Tt) [] [4] [] ⟨tr, tr⟩ ?_
              refine AW.ret ?_
              replace h := some_eq h
              subst h
              exact ⟨.inr rfl, retOK_of [(.one (.c (.bool true)))] (by kernel_rfl) ⟨⟨rfl, tr⟩, tr⟩ (of_decide_eq_true (by kernel_rfl))⟩

end
end Go.Fw
