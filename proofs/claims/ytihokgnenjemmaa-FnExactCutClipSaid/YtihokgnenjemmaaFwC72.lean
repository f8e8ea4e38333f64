/- Functions of the program: what each computes, and that it computes just that. -/
import Derived.Test.YtihokgnenjemmaaFwTy
import Derived.Test.YtihokgnenjemmaaFwH
import Derived.Test.YtihokgnenjemmaaFwV
import Derived.Test.YtihokgnenjemmaaFwC71
import Derived.Test.YtihokgnenjemmaaFwUB
import Derived.Test.YtihokgnenjemmaaProg
import Derived.KernelRfl
namespace Go.Fw
open Go Go.Proofs
noncomputable section
set_option maxRecDepth 10000

/-! (impl.track[impl.Key]).valid -/
def impl_track_impl_Key_valid_l1 (K : Nat) (a1 : (List Key)) (a2 : Int) : Nat → Int → Int → Option (Bool)
  | 0, _, _ => none
  | k + 1, x3, x4 => ite2 ((decide (x4 < (a1.length : Int)))) (chk (0 ≤ x4 ∧ x4 < (a1.length : Int)) ((impl_turnTrack_1 K (a1.getD x4.toNat default)).bind fun v7 => (ite2 ((decide (v7 ≤ x3))) (some true) (some (decide (v7 > a2)))).bind fun j10 => ite2 (j10) (some false) ((impl_turnTrack_1 K (a1.getD x4.toNat default)).bind fun v13 => impl_track_impl_Key_valid_l1 K a1 a2 k v13 (IntKind.i64.wrap (x4 + (1 : Int)))))) ((ite2 ((decide ((a1.length : Int) ≥ (1 : Int)))) (some (decide ((a1.length : Int) ≤ (12 : Int)))) (some false)).bind fun j16 => some j16)

def impl_track_impl_Key_valid (K : Nat) (a1 : (List Key)) (a2 : Int) : Option (Bool) :=
  impl_track_impl_Key_valid_l1 K a1 a2 K ((-1) : Int) (0 : Int)

theorem ok_impl_track_impl_Key_valid (K : Nat) (a1 : (List Key)) (a2 : Int) (o : (Bool)) (h : impl_track_impl_Key_valid K a1 a2 = some o) : CallOK Try.prog 139 [.agg [(.fn 146 0 fun _ => .nilptr), (.fn 147 0 fun _ => .nilptr), (.fn 148 0 fun _ => .nilptr)], .one (sl 5 cs_Key a1), .one (.int .i64 a2)] [.one (.bool o)] := by
  refine callOK_of_AW Try.func139 rfl (by kernel_rfl) (Nat.le_of_ble_eq_true (by kernel_rfl)) ?_
  intro w0
  unfold impl_track_impl_Key_valid at h
  refine AW.seq (AW.rA ⟨[(1, (vc (sl 5 cs_Key a1))), (2, (vc (.int .i64 a2))), (3, (vp 1 0))], [(1, (.box [(.c (.fn 146 0 fun _ => .nilptr)), (.c (.fn 147 0 fun _ => .nilptr)), (.c (.fn 148 0 fun _ => .nilptr))]))]⟩ (T2 Tt) [.box 1] [1, 2, 3] [1] ⟨tr, tr, tr⟩ (thenQ_normal ?_))
  refine AW.seq (AW.rA ⟨[(1, (vc (sl 5 cs_Key a1))), (2, (vc (.int .i64 a2))), (3, (vp 1 0)), (7, (vc (.int .i64 ((-1) : Int))))], [(1, (.box [(.c (.fn 146 0 fun _ => .nilptr)), (.c (.fn 147 0 fun _ => .nilptr)), (.c (.fn 148 0 fun _ => .nilptr))]))]⟩ (Tt ∧ Tt) [] [1, 2, 3, 7] [1] ⟨tr, tr⟩ (thenQ_normal ?_))
  refine AW.seq ?_
  refine AW.seq (AW.rA ⟨[(1, (vc (sl 5 cs_Key a1))), (2, (vc (.int .i64 a2))), (3, (vp 1 0)), (7, (vc (.int .i64 ((-1) : Int)))), (11, (vc (sl 5 cs_Key a1))), (12, (vc (.int .i64 (a1.length : Int)))), (13, (vc (.int .i64 (0 : Int))))], [(1, (.box [(.c (.fn 146 0 fun _ => .nilptr)), (.c (.fn 147 0 fun _ => .nilptr)), (.c (.fn 148 0 fun _ => .nilptr))]))]⟩ (Tt ∧ T2 Tt) [] [1, 2, 3, 7, 11, 12, 13] [1] ⟨tr, tr, tr, tr⟩ (thenQ_normal ?_))
  refine AW.block ?_
  refine AW.loopQ (σ := Nat × Int × Int) (fun p => ⟨[(1, (vc (sl 5 cs_Key a1))), (2, (vc (.int .i64 a2))), (3, (vp 1 0)), (7, (vc (.int .i64 p.2.1))), (11, (vc (sl 5 cs_Key a1))), (12, (vc (.int .i64 (a1.length : Int)))), (13, (vc (.int .i64 p.2.2)))], [(1, (.box [(.c (.fn 146 0 fun _ => .nilptr)), (.c (.fn 147 0 fun _ => .nilptr)), (.c (.fn 148 0 fun _ => .nilptr))]))]⟩) (fun p => impl_track_impl_Key_valid_l1 K a1 a2 p.1 p.2.1 p.2.2 = some o) (fun p => p.1) (K, ((-1) : Int), (0 : Int)) h ?_
  clear h
  rintro ⟨k, x3, x4⟩ h
  replace h : impl_track_impl_Key_valid_l1 K a1 a2 k x3 x4 = some o := h
  show AW _ _ (⟨[(1, (vc (sl 5 cs_Key a1))), (2, (vc (.int .i64 a2))), (3, (vp 1 0)), (7, (vc (.int .i64 x3))), (11, (vc (sl 5 cs_Key a1))), (12, (vc (.int .i64 (a1.length : Int)))), (13, (vc (.int .i64 x4)))], [(1, (.box [(.c (.fn 146 0 fun _ => .nilptr)), (.c (.fn 147 0 fun _ => .nilptr)), (.c (.fn 148 0 fun _ => .nilptr))]))]⟩ : St) _
  obtain _ | k := k
  · rw [impl_track_impl_Key_valid_l1] at h; cases h
  rw [impl_track_impl_Key_valid_l1] at h
  refine AW.seq (AW.rA ⟨[(1, (vc (sl 5 cs_Key a1))), (2, (vc (.int .i64 a2))), (3, (vp 1 0)), (7, (vc (.int .i64 x3))), (11, (vc (sl 5 cs_Key a1))), (12, (vc (.int .i64 (a1.length : Int)))), (13, (vc (.int .i64 x4))), (14, (vc (.bool (decide (x4 < (a1.length : Int))))))], [(1, (.box [(.c (.fn 146 0 fun _ => .nilptr)), (.c (.fn 147 0 fun _ => .nilptr)), (.c (.fn 148 0 fun _ => .nilptr))]))]⟩ (Tt ∧ Tt) [] [1, 2, 3, 7, 11, 12, 13, 14] [1] ⟨tr, tr⟩ (thenQ_normal ?_))
  refine AW.seq ?_
  rcases ite2_cases h with ⟨b5, h⟩ | ⟨b5, h⟩
  · refine AW.cond_t rfl b5 ?_
    refine AW.skip ?_
    refine thenQ_normal ?_
    refine AW.seq ?_
    refine AW.block ?_
    refine AW.seq ?_
    obtain ⟨c6, h⟩ := chk_some h
    refine AW.rA ⟨[(1, (vc (sl 5 cs_Key a1))), (2, (vc (.int .i64 a2))), (3, (vp 1 0)), (7, (vc (.int .i64 x3))), (9, (vp 4 0)), (11, (vc (sl 5 cs_Key a1))), (12, (vc (.int .i64 (a1.length : Int)))), (13, (vc (.int .i64 x4)))], [(1, (.box [(.c (.fn 146 0 fun _ => .nilptr)), (.c (.fn 147 0 fun _ => .nilptr)), (.c (.fn 148 0 fun _ => .nilptr))])), (4, (.box [(.c (.int .i64 ((a1.getD x4.toNat default).At))), (.c (.flt .f32 (((a1.getD x4.toNat default).Turn).W).bits)), (.c (.flt .f32 (((a1.getD x4.toNat default).Turn).X).bits)), (.c (.flt .f32 (((a1.getD x4.toNat default).Turn).Y).bits)), (.c (.flt .f32 (((a1.getD x4.toNat default).Turn).Z).bits))]))]⟩ ((0 ≤ x4 ∧ x4 < (a1.length : Int)) ∧ Tt ∧ T2 Tt) [.no, .no, .box 4] [1, 2, 3, 7, 9, 11, 12, 13] [1, 4] ⟨c6, tr, tr, tr, tr⟩ ?_
    refine thenQ_normal ?_
    refine AW.seq ?_
    refine AW.seq ?_
    obtain ⟨v7, e8, h⟩ := bind_some h
    refine AW.rA ⟨[(1, (vc (sl 5 cs_Key a1))), (2, (vc (.int .i64 a2))), (3, (vp 1 0)), (7, (vc (.int .i64 x3))), (9, (vp 4 0)), (10, (vc (.int .i64 v7))), (11, (vc (sl 5 cs_Key a1))), (12, (vc (.int .i64 (a1.length : Int)))), (13, (vc (.int .i64 x4)))], [(1, (.box [(.c (.fn 146 0 fun _ => .nilptr)), (.c (.fn 147 0 fun _ => .nilptr)), (.c (.fn 148 0 fun _ => .nilptr))])), (4, (.box [(.c (.int .i64 ((a1.getD x4.toNat default).At))), (.c (.flt .f32 (((a1.getD x4.toNat default).Turn).W).bits)), (.c (.flt .f32 (((a1.getD x4.toNat default).Turn).X).bits)), (.c (.flt .f32 (((a1.getD x4.toNat default).Turn).Y).bits)), (.c (.flt .f32 (((a1.getD x4.toNat default).Turn).Z).bits))]))]⟩ (Tt ∧ T2 (((((Eqc (.int .i64 ((a1.getD x4.toNat default).At))) ∧ (Eqc (.flt .f32 (((a1.getD x4.toNat default).Turn).W).bits)) ∧ (Eqc (.flt .f32 (((a1.getD x4.toNat default).Turn).X).bits)) ∧ (Eqc (.flt .f32 (((a1.getD x4.toNat default).Turn).Y).bits)) ∧ (Eqc (.flt .f32 (((a1.getD x4.toNat default).Turn).Z).bits)) ∧ Tt) ∧ Tt) ∧ CallOK Try.prog 146 [.agg (cs_Key (a1.getD x4.toNat default))] [.one (.int .i64 v7)]) ∧ Tt ∧ Tt)) [.no, .no, .no, .call [.agg (cs_Key (a1.getD x4.toNat default))] [.one (.int .i64 v7)] [[.view]]] [1, 2, 3, 7, 9, 10, 11, 12, 13] [1, 4] ⟨tr, tr, tr, ⟨⟨⟨rfl, rfl, rfl, rfl, rfl, tr⟩, tr⟩, ok_impl_turnTrack_1 K (a1.getD x4.toNat default) v7 e8⟩, tr, tr⟩ ?_
    refine thenQ_normal ?_
    refine AW.seq ?_
    obtain ⟨j10, e11, h⟩ := bind_some h
    refine AW.join1 (s2 := ⟨[(1, (vc (sl 5 cs_Key a1))), (2, (vc (.int .i64 a2))), (3, (vp 1 0)), (9, (vp 4 0)), (11, (vc (sl 5 cs_Key a1))), (12, (vc (.int .i64 (a1.length : Int)))), (13, (vc (.int .i64 x4))), (28, (vc (.bool j10)))], [(1, (.box [(.c (.fn 146 0 fun _ => .nilptr)), (.c (.fn 147 0 fun _ => .nilptr)), (.c (.fn 148 0 fun _ => .nilptr))])), (4, (.box [(.c (.int .i64 ((a1.getD x4.toNat default).At))), (.c (.flt .f32 (((a1.getD x4.toNat default).Turn).W).bits)), (.c (.flt .f32 (((a1.getD x4.toNat default).Turn).X).bits)), (.c (.flt .f32 (((a1.getD x4.toNat default).Turn).Y).bits)), (.c (.flt .f32 (((a1.getD x4.toNat default).Turn).Z).bits))]))]⟩) ?_ ?_
    · rcases ite2_cases e11 with ⟨b9, e11⟩ | ⟨b9, e11⟩
      · replace e11 := some_eq e11
        subst e11
        exact AW.rA ⟨[(1, (vc (sl 5 cs_Key a1))), (2, (vc (.int .i64 a2))), (3, (vp 1 0)), (9, (vp 4 0)), (11, (vc (sl 5 cs_Key a1))), (12, (vc (.int .i64 (a1.length : Int)))), (13, (vc (.int .i64 x4))), (28, (vc (.bool true)))], [(1, (.box [(.c (.fn 146 0 fun _ => .nilptr)), (.c (.fn 147 0 fun _ => .nilptr)), (.c (.fn 148 0 fun _ => .nilptr))])), (4, (.box [(.c (.int .i64 ((a1.getD x4.toNat default).At))), (.c (.flt .f32 (((a1.getD x4.toNat default).Turn).W).bits)), (.c (.flt .f32 (((a1.getD x4.toNat default).Turn).X).bits)), (.c (.flt .f32 (((a1.getD x4.toNat default).Turn).Y).bits)), (.c (.flt .f32 (((a1.getD x4.toNat default).Turn).Z).bits))]))]⟩ (Tt ∧ T2 ((Tt ∧ (decide (v7 ≤ x3)) = true) ∧ T4 Tt)) [.no, .no, .no, .dec true] [1, 2, 3, 9, 11, 12, 13, 28] [1, 4] ⟨tr, tr, tr, ⟨tr, b9⟩, tr, tr, tr, tr, tr⟩ ⟨rfl, rfl⟩
      · replace e11 := some_eq e11
        subst e11
        exact AW.rA ⟨[(1, (vc (sl 5 cs_Key a1))), (2, (vc (.int .i64 a2))), (3, (vp 1 0)), (9, (vp 4 0)), (11, (vc (sl 5 cs_Key a1))), (12, (vc (.int .i64 (a1.length : Int)))), (13, (vc (.int .i64 x4))), (28, (vc (.bool (decide (v7 > a2)))))], [(1, (.box [(.c (.fn 146 0 fun _ => .nilptr)), (.c (.fn 147 0 fun _ => .nilptr)), (.c (.fn 148 0 fun _ => .nilptr))])), (4, (.box [(.c (.int .i64 ((a1.getD x4.toNat default).At))), (.c (.flt .f32 (((a1.getD x4.toNat default).Turn).W).bits)), (.c (.flt .f32 (((a1.getD x4.toNat default).Turn).X).bits)), (.c (.flt .f32 (((a1.getD x4.toNat default).Turn).Y).bits)), (.c (.flt .f32 (((a1.getD x4.toNat default).Turn).Z).bits))]))]⟩ (Tt ∧ T2 ((Tt ∧ (decide (v7 ≤ x3)) = false) ∧ T4 Tt)) [.no, .no, .no, .dec false] [1, 2, 3, 9, 11, 12, 13, 28] [1, 4] ⟨tr, tr, tr, ⟨tr, b9⟩, tr, tr, tr, tr, tr⟩ ⟨rfl, rfl⟩
    refine thenQ_normal ?_
    rcases ite2_cases h with ⟨b12, h⟩ | ⟨b12, h⟩
    · refine AW.cond_t rfl b12 ?_
      refine AW.seq (AW.rA ⟨[(6, (vc (.bool false)))], []⟩ (Tt ∧ Tt) [] [6] [] ⟨tr, tr⟩ (thenQ_normal ?_))
      refine AW.ret ?_
      refine thenQ_ret ?_
      refine blockQ_ret ?_
      refine thenQ_ret ?_
      refine loopQ_ret ?_
      refine blockQ_ret ?_
      refine thenQ_ret ?_
      replace h := some_eq h
      subst h
      exact ⟨.inr rfl, retOK_of [(.one (.c (.bool false)))] (by kernel_rfl) ⟨⟨rfl, tr⟩, tr⟩ (of_decide_eq_true (by kernel_rfl))⟩
    · refine AW.cond_f rfl b12 ?_
      refine AW.skip ?_
      refine thenQ_normal ?_
      obtain ⟨v13, e14, h⟩ := bind_some h
      refine AW.rA ⟨[(1, (vc (sl 5 cs_Key a1))), (2, (vc (.int .i64 a2))), (3, (vp 1 0)), (7, (vc (.int .i64 v13))), (11, (vc (sl 5 cs_Key a1))), (12, (vc (.int .i64 (a1.length : Int)))), (13, (vc (.int .i64 x4)))], [(1, (.box [(.c (.fn 146 0 fun _ => .nilptr)), (.c (.fn 147 0 fun _ => .nilptr)), (.c (.fn 148 0 fun _ => .nilptr))]))]⟩ (Tt ∧ T2 (((((Eqc (.int .i64 ((a1.getD x4.toNat default).At))) ∧ (Eqc (.flt .f32 (((a1.getD x4.toNat default).Turn).W).bits)) ∧ (Eqc (.flt .f32 (((a1.getD x4.toNat default).Turn).X).bits)) ∧ (Eqc (.flt .f32 (((a1.getD x4.toNat default).Turn).Y).bits)) ∧ (Eqc (.flt .f32 (((a1.getD x4.toNat default).Turn).Z).bits)) ∧ Tt) ∧ Tt) ∧ CallOK Try.prog 146 [.agg (cs_Key (a1.getD x4.toNat default))] [.one (.int .i64 v13)]) ∧ Tt ∧ Tt)) [.no, .no, .no, .call [.agg (cs_Key (a1.getD x4.toNat default))] [.one (.int .i64 v13)] [[.view]]] [1, 2, 3, 7, 11, 12, 13] [1] ⟨tr, tr, tr, ⟨⟨⟨rfl, rfl, rfl, rfl, rfl, tr⟩, tr⟩, ok_impl_turnTrack_1 K (a1.getD x4.toNat default) v13 e14⟩, tr, tr⟩ ?_
      refine blockQ_normal ?_
      refine thenQ_normal ?_
      refine AW.rA ⟨[(1, (vc (sl 5 cs_Key a1))), (2, (vc (.int .i64 a2))), (3, (vp 1 0)), (7, (vc (.int .i64 v13))), (11, (vc (sl 5 cs_Key a1))), (12, (vc (.int .i64 (a1.length : Int)))), (13, (vc (.int .i64 (IntKind.i64.wrap (x4 + (1 : Int))))))], [(1, (.box [(.c (.fn 146 0 fun _ => .nilptr)), (.c (.fn 147 0 fun _ => .nilptr)), (.c (.fn 148 0 fun _ => .nilptr))]))]⟩ (T2 Tt) [] [1, 2, 3, 7, 11, 12, 13] [1] ⟨tr, tr, tr⟩ ?_
      exact loopQ_normal (k, v13, (IntKind.i64.wrap (x4 + (1 : Int)))) h (Nat.lt_succ_self k) (Sub.keep [1, 2, 3, 7, 11, 12, 13] [1] (by kernel_rfl) (by kernel_rfl))
  · refine AW.cond_f rfl b5 ?_
    refine AW.exit ?_
    refine thenQ_exit ?_
    refine loopQ_exit ?_
    refine blockQ_exit ?_
    refine thenQ_normal ?_
    refine AW.seq ?_
    obtain ⟨j16, e17, h⟩ := bind_some h
    refine AW.join1 (s2 := ⟨[(6, (vc (.bool j16)))], []⟩) ?_ ?_
    · rcases ite2_cases e17 with ⟨b15, e17⟩ | ⟨b15, e17⟩
      · replace e17 := some_eq e17
        subst e17
        exact AW.rA ⟨[(6, (vc (.bool (decide ((a1.length : Int) ≤ (12 : Int))))))], []⟩ (Tt ∧ T2 ((Tt ∧ (decide ((a1.length : Int) ≥ (1 : Int))) = true) ∧ Tt ∧ T4 Tt)) [.no, .no, .no, .dec true] [6] [] ⟨tr, tr, tr, ⟨tr, b15⟩, tr, tr, tr, tr, tr, tr⟩ ⟨rfl, rfl⟩
      · replace e17 := some_eq e17
        subst e17
        exact AW.rA ⟨[(6, (vc (.bool false)))], []⟩ (Tt ∧ T2 ((Tt ∧ (decide ((a1.length : Int) ≥ (1 : Int))) = false) ∧ Tt ∧ T4 Tt)) [.no, .no, .no, .dec false] [6] [] ⟨tr, tr, tr, ⟨tr, b15⟩, tr, tr, tr, tr, tr, tr⟩ ⟨rfl, rfl⟩
    refine thenQ_normal ?_
    refine AW.ret ?_
    replace h := some_eq h
    subst h
    exact ⟨.inr rfl, retOK_of [(.one (.c (.bool j16)))] (by kernel_rfl) ⟨⟨rfl, tr⟩, tr⟩ (of_decide_eq_true (by kernel_rfl))⟩

/-! impl.rootTrack -/
def impl_rootTrack (_K : Nat) : Option (Unit) :=
  some ()

theorem ok_impl_rootTrack (K : Nat) (o : (Unit)) (h : impl_rootTrack K  = some o) : CallOK Try.prog 79 [] [.agg [(.fn 150 0 fun _ => .nilptr), (.fn 151 0 fun _ => .nilptr), (.fn 152 0 fun _ => .nilptr)]] := by
  refine callOK_of_AW Try.func79 rfl (by kernel_rfl) (Nat.le_of_ble_eq_true (by kernel_rfl)) ?_
  intro w0
  unfold impl_rootTrack at h
  refine AW.seq (AW.rA ⟨[(0, (vp 1 0))], [(1, (.box [(.c .nilfn), (.c .nilfn), (.c .nilfn)]))]⟩ (Tt ∧ Tt) [.box 1] [0] [1] ⟨tr, tr⟩ (thenQ_normal ?_))
  refine AW.seq (AW.rA ⟨[(0, (vp 1 0))], [(1, (.box [(.c (.fn 150 0 fun _ => .nilptr)), (.c (.fn 151 0 fun _ => .nilptr)), (.c (.fn 152 0 fun _ => .nilptr))]))]⟩ (T2 Tt) [] [0] [1] ⟨tr, tr, tr⟩ (thenQ_normal ?_))
  refine AW.ret ?_
  replace h := some_eq h
  subst h
  exact ⟨.inr rfl, retOK_of [(.agg [(.c (.fn 150 0 fun _ => .nilptr)), (.c (.fn 151 0 fun _ => .nilptr)), (.c (.fn 152 0 fun _ => .nilptr))])] (by kernel_rfl) ⟨⟨⟨rfl, rfl⟩, ⟨rfl, rfl⟩, ⟨rfl, rfl⟩, tr⟩, tr⟩ (of_decide_eq_true (by kernel_rfl))⟩

/-! impl.rootTrack$1 -/
def impl_rootTrack_1 (_K : Nat) (a0 : RootKey) : Option (Int) :=
  some a0.At

theorem ok_impl_rootTrack_1 (K : Nat) (a0 : RootKey) (o : (Int)) (h : impl_rootTrack_1 K a0 = some o) : CallOK Try.prog 150 [.agg (cs_RootKey a0)] [.one (.int .i64 o)] := by
  refine callOK_of_AW Try.func150 rfl (by kernel_rfl) (Nat.le_of_ble_eq_true (by kernel_rfl)) ?_
  intro w0
  unfold impl_rootTrack_1 at h
  refine AW.seq (AW.rA ⟨[(1, (vp 1 0))], [(1, (.box [(.c (.int .i64 a0.At)), (.c (.flt .f32 a0.Place.X.bits)), (.c (.flt .f32 a0.Place.Y.bits)), (.c (.flt .f32 a0.Place.Z.bits))]))]⟩ (T2 Tt) [.box 1] [1] [1] ⟨tr, tr, tr⟩ (thenQ_normal ?_))
  refine AW.seq (AW.rA ⟨[(2, (vc (.int .i64 a0.At)))], []⟩ (Tt ∧ T2 Tt) [] [2] [] ⟨tr, tr, tr, tr⟩ (thenQ_normal ?_))
  refine AW.ret ?_
  replace h := some_eq h
  subst h
  exact ⟨.inr rfl, retOK_of [(.one (.c (.int .i64 a0.At)))] (by kernel_rfl) ⟨⟨rfl, tr⟩, tr⟩ (of_decide_eq_true (by kernel_rfl))⟩

/-! (impl.track[impl.RootKey]).valid -/
def impl_track_impl_RootKey_valid_l1 (K : Nat) (a1 : (List RootKey)) (a2 : Int) : Nat → Int → Int → Option (Bool)
  | 0, _, _ => none
  | k + 1, x3, x4 => ite2 ((decide (x4 < (a1.length : Int)))) (chk (0 ≤ x4 ∧ x4 < (a1.length : Int)) ((impl_rootTrack_1 K (a1.getD x4.toNat default)).bind fun v7 => (ite2 ((decide (v7 ≤ x3))) (some true) (some (decide (v7 > a2)))).bind fun j10 => ite2 (j10) (some false) ((impl_rootTrack_1 K (a1.getD x4.toNat default)).bind fun v13 => impl_track_impl_RootKey_valid_l1 K a1 a2 k v13 (IntKind.i64.wrap (x4 + (1 : Int)))))) ((ite2 ((decide ((a1.length : Int) ≥ (1 : Int)))) (some (decide ((a1.length : Int) ≤ (12 : Int)))) (some false)).bind fun j16 => some j16)

def impl_track_impl_RootKey_valid (K : Nat) (a1 : (List RootKey)) (a2 : Int) : Option (Bool) :=
  impl_track_impl_RootKey_valid_l1 K a1 a2 K ((-1) : Int) (0 : Int)

theorem ok_impl_track_impl_RootKey_valid (K : Nat) (a1 : (List RootKey)) (a2 : Int) (o : (Bool)) (h : impl_track_impl_RootKey_valid K a1 a2 = some o) : CallOK Try.prog 140 [.agg [(.fn 150 0 fun _ => .nilptr), (.fn 151 0 fun _ => .nilptr), (.fn 152 0 fun _ => .nilptr)], .one (sl 4 cs_RootKey a1), .one (.int .i64 a2)] [.one (.bool o)] := by
  refine callOK_of_AW Try.func140 rfl (by kernel_rfl) (Nat.le_of_ble_eq_true (by kernel_rfl)) ?_
  intro w0
  unfold impl_track_impl_RootKey_valid at h
  refine AW.seq (AW.rA ⟨[(1, (vc (sl 4 cs_RootKey a1))), (2, (vc (.int .i64 a2))), (3, (vp 1 0))], [(1, (.box [(.c (.fn 150 0 fun _ => .nilptr)), (.c (.fn 151 0 fun _ => .nilptr)), (.c (.fn 152 0 fun _ => .nilptr))]))]⟩ (T2 Tt) [.box 1] [1, 2, 3] [1] ⟨tr, tr, tr⟩ (thenQ_normal ?_))
  refine AW.seq (AW.rA ⟨[(1, (vc (sl 4 cs_RootKey a1))), (2, (vc (.int .i64 a2))), (3, (vp 1 0)), (7, (vc (.int .i64 ((-1) : Int))))], [(1, (.box [(.c (.fn 150 0 fun _ => .nilptr)), (.c (.fn 151 0 fun _ => .nilptr)), (.c (.fn 152 0 fun _ => .nilptr))]))]⟩ (Tt ∧ Tt) [] [1, 2, 3, 7] [1] ⟨tr, tr⟩ (thenQ_normal ?_))
  refine AW.seq ?_
  refine AW.seq (AW.rA ⟨[(1, (vc (sl 4 cs_RootKey a1))), (2, (vc (.int .i64 a2))), (3, (vp 1 0)), (7, (vc (.int .i64 ((-1) : Int)))), (11, (vc (sl 4 cs_RootKey a1))), (12, (vc (.int .i64 (a1.length : Int)))), (13, (vc (.int .i64 (0 : Int))))], [(1, (.box [(.c (.fn 150 0 fun _ => .nilptr)), (.c (.fn 151 0 fun _ => .nilptr)), (.c (.fn 152 0 fun _ => .nilptr))]))]⟩ (Tt ∧ T2 Tt) [] [1, 2, 3, 7, 11, 12, 13] [1] ⟨tr, tr, tr, tr⟩ (thenQ_normal ?_))
  refine AW.block ?_
  refine AW.loopQ (σ := Nat × Int × Int) (fun p => ⟨[(1, (vc (sl 4 cs_RootKey a1))), (2, (vc (.int .i64 a2))), (3, (vp 1 0)), (7, (vc (.int .i64 p.2.1))), (11, (vc (sl 4 cs_RootKey a1))), (12, (vc (.int .i64 (a1.length : Int)))), (13, (vc (.int .i64 p.2.2)))], [(1, (.box [(.c (.fn 150 0 fun _ => .nilptr)), (.c (.fn 151 0 fun _ => .nilptr)), (.c (.fn 152 0 fun _ => .nilptr))]))]⟩) (fun p => impl_track_impl_RootKey_valid_l1 K a1 a2 p.1 p.2.1 p.2.2 = some o) (fun p => p.1) (K, ((-1) : Int), (0 : Int)) h ?_
  clear h
  rintro ⟨k, x3, x4⟩ h
  replace h : impl_track_impl_RootKey_valid_l1 K a1 a2 k x3 x4 = some o := h
  show AW _ _ (⟨[(1, (vc (sl 4 cs_RootKey a1))), (2, (vc (.int .i64 a2))), (3, (vp 1 0)), (7, (vc (.int .i64 x3))), (11, (vc (sl 4 cs_RootKey a1))), (12, (vc (.int .i64 (a1.length : Int)))), (13, (vc (.int .i64 x4)))], [(1, (.box [(.c (.fn 150 0 fun _ => .nilptr)), (.c (.fn 151 0 fun _ => .nilptr)), (.c (.fn 152 0 fun _ => .nilptr))]))]⟩ : St) _
  obtain _ | k := k
  · rw [impl_track_impl_RootKey_valid_l1] at h; cases h
  rw [impl_track_impl_RootKey_valid_l1] at h
  refine AW.seq (AW.rA ⟨[(1, (vc (sl 4 cs_RootKey a1))), (2, (vc (.int .i64 a2))), (3, (vp 1 0)), (7, (vc (.int .i64 x3))), (11, (vc (sl 4 cs_RootKey a1))), (12, (vc (.int .i64 (a1.length : Int)))), (13, (vc (.int .i64 x4))), (14, (vc (.bool (decide (x4 < (a1.length : Int))))))], [(1, (.box [(.c (.fn 150 0 fun _ => .nilptr)), (.c (.fn 151 0 fun _ => .nilptr)), (.c (.fn 152 0 fun _ => .nilptr))]))]⟩ (Tt ∧ Tt) [] [1, 2, 3, 7, 11, 12, 13, 14] [1] ⟨tr, tr⟩ (thenQ_normal ?_))
  refine AW.seq ?_
  rcases ite2_cases h with ⟨b5, h⟩ | ⟨b5, h⟩
  · refine AW.cond_t rfl b5 ?_
    refine AW.skip ?_
    refine thenQ_normal ?_
    refine AW.seq ?_
    refine AW.block ?_
    refine AW.seq ?_
    obtain ⟨c6, h⟩ := chk_some h
    refine AW.rA ⟨[(1, (vc (sl 4 cs_RootKey a1))), (2, (vc (.int .i64 a2))), (3, (vp 1 0)), (7, (vc (.int .i64 x3))), (9, (vp 4 0)), (11, (vc (sl 4 cs_RootKey a1))), (12, (vc (.int .i64 (a1.length : Int)))), (13, (vc (.int .i64 x4)))], [(1, (.box [(.c (.fn 150 0 fun _ => .nilptr)), (.c (.fn 151 0 fun _ => .nilptr)), (.c (.fn 152 0 fun _ => .nilptr))])), (4, (.box [(.c (.int .i64 ((a1.getD x4.toNat default).At))), (.c (.flt .f32 (((a1.getD x4.toNat default).Place).X).bits)), (.c (.flt .f32 (((a1.getD x4.toNat default).Place).Y).bits)), (.c (.flt .f32 (((a1.getD x4.toNat default).Place).Z).bits))]))]⟩ ((0 ≤ x4 ∧ x4 < (a1.length : Int)) ∧ Tt ∧ T2 Tt) [.no, .no, .box 4] [1, 2, 3, 7, 9, 11, 12, 13] [1, 4] ⟨c6, tr, tr, tr, tr⟩ ?_
    refine thenQ_normal ?_
    refine AW.seq ?_
    refine AW.seq ?_
    obtain ⟨v7, e8, h⟩ := bind_some h
    refine AW.rA ⟨[(1, (vc (sl 4 cs_RootKey a1))), (2, (vc (.int .i64 a2))), (3, (vp 1 0)), (7, (vc (.int .i64 x3))), (9, (vp 4 0)), (10, (vc (.int .i64 v7))), (11, (vc (sl 4 cs_RootKey a1))), (12, (vc (.int .i64 (a1.length : Int)))), (13, (vc (.int .i64 x4)))], [(1, (.box [(.c (.fn 150 0 fun _ => .nilptr)), (.c (.fn 151 0 fun _ => .nilptr)), (.c (.fn 152 0 fun _ => .nilptr))])), (4, (.box [(.c (.int .i64 ((a1.getD x4.toNat default).At))), (.c (.flt .f32 (((a1.getD x4.toNat default).Place).X).bits)), (.c (.flt .f32 (((a1.getD x4.toNat default).Place).Y).bits)), (.c (.flt .f32 (((a1.getD x4.toNat default).Place).Z).bits))]))]⟩ (Tt ∧ T2 (((((Eqc (.int .i64 ((a1.getD x4.toNat default).At))) ∧ (Eqc (.flt .f32 (((a1.getD x4.toNat default).Place).X).bits)) ∧ (Eqc (.flt .f32 (((a1.getD x4.toNat default).Place).Y).bits)) ∧ (Eqc (.flt .f32 (((a1.getD x4.toNat default).Place).Z).bits)) ∧ Tt) ∧ Tt) ∧ CallOK Try.prog 150 [.agg (cs_RootKey (a1.getD x4.toNat default))] [.one (.int .i64 v7)]) ∧ Tt ∧ Tt)) [.no, .no, .no, .call [.agg (cs_RootKey (a1.getD x4.toNat default))] [.one (.int .i64 v7)] [[.view]]] [1, 2, 3, 7, 9, 10, 11, 12, 13] [1, 4] ⟨tr, tr, tr, ⟨⟨⟨rfl, rfl, rfl, rfl, tr⟩, tr⟩, ok_impl_rootTrack_1 K (a1.getD x4.toNat default) v7 e8⟩, tr, tr⟩ ?_
    refine thenQ_normal ?_
    refine AW.seq ?_
    obtain ⟨j10, e11, h⟩ := bind_some h
    refine AW.join1 (s2 := ⟨[(1, (vc (sl 4 cs_RootKey a1))), (2, (vc (.int .i64 a2))), (3, (vp 1 0)), (9, (vp 4 0)), (11, (vc (sl 4 cs_RootKey a1))), (12, (vc (.int .i64 (a1.length : Int)))), (13, (vc (.int .i64 x4))), (28, (vc (.bool j10)))], [(1, (.box [(.c (.fn 150 0 fun _ => .nilptr)), (.c (.fn 151 0 fun _ => .nilptr)), (.c (.fn 152 0 fun _ => .nilptr))])), (4, (.box [(.c (.int .i64 ((a1.getD x4.toNat default).At))), (.c (.flt .f32 (((a1.getD x4.toNat default).Place).X).bits)), (.c (.flt .f32 (((a1.getD x4.toNat default).Place).Y).bits)), (.c (.flt .f32 (((a1.getD x4.toNat default).Place).Z).bits))]))]⟩) ?_ ?_
    · rcases ite2_cases e11 with ⟨b9, e11⟩ | ⟨b9, e11⟩
      · replace e11 := some_eq e11
        subst e11
        exact AW.rA ⟨[(1, (vc (sl 4 cs_RootKey a1))), (2, (vc (.int .i64 a2))), (3, (vp 1 0)), (9, (vp 4 0)), (11, (vc (sl 4 cs_RootKey a1))), (12, (vc (.int .i64 (a1.length : Int)))), (13, (vc (.int .i64 x4))), (28, (vc (.bool true)))], [(1, (.box [(.c (.fn 150 0 fun _ => .nilptr)), (.c (.fn 151 0 fun _ => .nilptr)), (.c (.fn 152 0 fun _ => .nilptr))])), (4, (.box [(.c (.int .i64 ((a1.getD x4.toNat default).At))), (.c (.flt .f32 (((a1.getD x4.toNat default).Place).X).bits)), (.c (.flt .f32 (((a1.getD x4.toNat default).Place).Y).bits)), (.c (.flt .f32 (((a1.getD x4.toNat default).Place).Z).bits))]))]⟩ (Tt ∧ T2 ((Tt ∧ (decide (v7 ≤ x3)) = true) ∧ T4 Tt)) [.no, .no, .no, .dec true] [1, 2, 3, 9, 11, 12, 13, 28] [1, 4] ⟨tr, tr, tr, ⟨tr, b9⟩, tr, tr, tr, tr, tr⟩ ⟨rfl, rfl⟩
      · replace e11 := some_eq e11
        subst e11
        exact AW.rA ⟨[(1, (vc (sl 4 cs_RootKey a1))), (2, (vc (.int .i64 a2))), (3, (vp 1 0)), (9, (vp 4 0)), (11, (vc (sl 4 cs_RootKey a1))), (12, (vc (.int .i64 (a1.length : Int)))), (13, (vc (.int .i64 x4))), (28, (vc (.bool (decide (v7 > a2)))))], [(1, (.box [(.c (.fn 150 0 fun _ => .nilptr)), (.c (.fn 151 0 fun _ => .nilptr)), (.c (.fn 152 0 fun _ => .nilptr))])), (4, (.box [(.c (.int .i64 ((a1.getD x4.toNat default).At))), (.c (.flt .f32 (((a1.getD x4.toNat default).Place).X).bits)), (.c (.flt .f32 (((a1.getD x4.toNat default).Place).Y).bits)), (.c (.flt .f32 (((a1.getD x4.toNat default).Place).Z).bits))]))]⟩ (Tt ∧ T2 ((Tt ∧ (decide (v7 ≤ x3)) = false) ∧ T4 Tt)) [.no, .no, .no, .dec false] [1, 2, 3, 9, 11, 12, 13, 28] [1, 4] ⟨tr, tr, tr, ⟨tr, b9⟩, tr, tr, tr, tr, tr⟩ ⟨rfl, rfl⟩
    refine thenQ_normal ?_
    rcases ite2_cases h with ⟨b12, h⟩ | ⟨b12, h⟩
    · refine AW.cond_t rfl b12 ?_
      refine AW.seq (AW.rA ⟨[(6, (vc (.bool false)))], []⟩ (Tt ∧ Tt) [] [6] [] ⟨tr, tr⟩ (thenQ_normal ?_))
      refine AW.ret ?_
      refine thenQ_ret ?_
      refine blockQ_ret ?_
      refine thenQ_ret ?_
      refine loopQ_ret ?_
      refine blockQ_ret ?_
      refine thenQ_ret ?_
      replace h := some_eq h
      subst h
      exact ⟨.inr rfl, retOK_of [(.one (.c (.bool false)))] (by kernel_rfl) ⟨⟨rfl, tr⟩, tr⟩ (of_decide_eq_true (by kernel_rfl))⟩
    · refine AW.cond_f rfl b12 ?_
      refine AW.skip ?_
      refine thenQ_normal ?_
      obtain ⟨v13, e14, h⟩ := bind_some h
      refine AW.rA ⟨[(1, (vc (sl 4 cs_RootKey a1))), (2, (vc (.int .i64 a2))), (3, (vp 1 0)), (7, (vc (.int .i64 v13))), (11, (vc (sl 4 cs_RootKey a1))), (12, (vc (.int .i64 (a1.length : Int)))), (13, (vc (.int .i64 x4)))], [(1, (.box [(.c (.fn 150 0 fun _ => .nilptr)), (.c (.fn 151 0 fun _ => .nilptr)), (.c (.fn 152 0 fun _ => .nilptr))]))]⟩ (Tt ∧ T2 (((((Eqc (.int .i64 ((a1.getD x4.toNat default).At))) ∧ (Eqc (.flt .f32 (((a1.getD x4.toNat default).Place).X).bits)) ∧ (Eqc (.flt .f32 (((a1.getD x4.toNat default).Place).Y).bits)) ∧ (Eqc (.flt .f32 (((a1.getD x4.toNat default).Place).Z).bits)) ∧ Tt) ∧ Tt) ∧ CallOK Try.prog 150 [.agg (cs_RootKey (a1.getD x4.toNat default))] [.one (.int .i64 v13)]) ∧ Tt ∧ Tt)) [.no, .no, .no, .call [.agg (cs_RootKey (a1.getD x4.toNat default))] [.one (.int .i64 v13)] [[.view]]] [1, 2, 3, 7, 11, 12, 13] [1] ⟨tr, tr, tr, ⟨⟨⟨rfl, rfl, rfl, rfl, tr⟩, tr⟩, ok_impl_rootTrack_1 K (a1.getD x4.toNat default) v13 e14⟩, tr, tr⟩ ?_
      refine blockQ_normal ?_
      refine thenQ_normal ?_
      refine AW.rA ⟨[(1, (vc (sl 4 cs_RootKey a1))), (2, (vc (.int .i64 a2))), (3, (vp 1 0)), (7, (vc (.int .i64 v13))), (11, (vc (sl 4 cs_RootKey a1))), (12, (vc (.int .i64 (a1.length : Int)))), (13, (vc (.int .i64 (IntKind.i64.wrap (x4 + (1 : Int))))))], [(1, (.box [(.c (.fn 150 0 fun _ => .nilptr)), (.c (.fn 151 0 fun _ => .nilptr)), (.c (.fn 152 0 fun _ => .nilptr))]))]⟩ (T2 Tt) [] [1, 2, 3, 7, 11, 12, 13] [1] ⟨tr, tr, tr⟩ ?_
      exact loopQ_normal (k, v13, (IntKind.i64.wrap (x4 + (1 : Int)))) h (Nat.lt_succ_self k) (Sub.keep [1, 2, 3, 7, 11, 12, 13] [1] (by kernel_rfl) (by kernel_rfl))
  · refine AW.cond_f rfl b5 ?_
    refine AW.exit ?_
    refine thenQ_exit ?_
    refine loopQ_exit ?_
    refine blockQ_exit ?_
    refine thenQ_normal ?_
    refine AW.seq ?_
    obtain ⟨j16, e17, h⟩ := bind_some h
    refine AW.join1 (s2 := ⟨[(6, (vc (.bool j16)))], []⟩) ?_ ?_
    · rcases ite2_cases e17 with ⟨b15, e17⟩ | ⟨b15, e17⟩
      · replace e17 := some_eq e17
        subst e17
        exact AW.rA ⟨[(6, (vc (.bool (decide ((a1.length : Int) ≤ (12 : Int))))))], []⟩ (Tt ∧ T2 ((Tt ∧ (decide ((a1.length : Int) ≥ (1 : Int))) = true) ∧ Tt ∧ T4 Tt)) [.no, .no, .no, .dec true] [6] [] ⟨tr, tr, tr, ⟨tr, b15⟩, tr, tr, tr, tr, tr, tr⟩ ⟨rfl, rfl⟩
      · replace e17 := some_eq e17
        subst e17
        exact AW.rA ⟨[(6, (vc (.bool false)))], []⟩ (Tt ∧ T2 ((Tt ∧ (decide ((a1.length : Int) ≥ (1 : Int))) = false) ∧ Tt ∧ T4 Tt)) [.no, .no, .no, .dec false] [6] [] ⟨tr, tr, tr, ⟨tr, b15⟩, tr, tr, tr, tr, tr, tr⟩ ⟨rfl, rfl⟩
    refine thenQ_normal ?_
    refine AW.ret ?_
    replace h := some_eq h
    subst h
    exact ⟨.inr rfl, retOK_of [(.one (.c (.bool j16)))] (by kernel_rfl) ⟨⟨rfl, tr⟩, tr⟩ (of_decide_eq_true (by kernel_rfl))⟩

/-! impl.ValidClip -/
def impl_ValidClip_l1 (K : Nat) (a0 : Clip) : Nat → Int → Option (Bool)
  | 0, _ => none
  | k + 1, x10 => ite2 ((decide (x10 < (a0.Tracks.length : Int)))) (chk (0 ≤ x10 ∧ x10 < (a0.Tracks.length : Int)) ((impl_turnTrack K ).bind fun v13 => (impl_track_impl_Key_valid K (a0.Tracks.getD x10.toNat default) a0.Length).bind fun v15 => ite2 ((!v15)) (some false) (impl_ValidClip_l1 K a0 k (IntKind.i64.wrap (x10 + (1 : Int)))))) ((impl_rootTrack K ).bind fun v18 => (impl_track_impl_RootKey_valid K a0.Roots a0.Length).bind fun v20 => some v20)

def impl_ValidClip (K : Nat) (a0 : Clip) : Option (Bool) :=
  (ite2 ((decide (a0.Length < (1 : Int)))) (some true) (ite2 ((decide (a0.Length > (1000 : Int)))) (some true) (ite2 ((decide (a0.Kind < (0 : Int)))) (some true) (ite2 ((decide (a0.Kind > (2 : Int)))) (some true) (ite2 ((decide ((a0.Tracks.length : Int) < (1 : Int)))) (some true) (some (decide ((a0.Tracks.length : Int) > (12 : Int))))))))).bind fun j6 => ite2 (j6) (some false) (impl_ValidClip_l1 K a0 K (0 : Int))

theorem ok_impl_ValidClip (K : Nat) (a0 : Clip) (o : (Bool)) (h : impl_ValidClip K a0 = some o) : CallOK Try.prog 63 [.agg (cs_Clip a0)] [.one (.bool o)] := by
  refine callOK_of_AW Try.func63 rfl (by kernel_rfl) (Nat.le_of_ble_eq_true (by kernel_rfl)) ?_
  intro w0
  unfold impl_ValidClip at h
  refine AW.seq (AW.rA ⟨[(1, (vp 1 0))], [(1, (.box [(.c (.int .i64 a0.Length)), (.c (.int .i64 a0.Kind)), (.c (sl 1 (csL 5 cs_Key) a0.Tracks)), (.c (sl 4 cs_RootKey a0.Roots))]))]⟩ (T2 Tt) [.box 1] [1] [1] ⟨tr, tr, tr⟩ (thenQ_normal ?_))
  refine AW.seq ?_
  refine AW.seq ?_
  obtain ⟨j6, e7, h⟩ := bind_some h
  refine AW.join1 (s2 := ⟨[(1, (vp 1 0)), (34, (vc (.bool j6)))], [(1, (.box [(.c (.int .i64 a0.Length)), (.c (.int .i64 a0.Kind)), (.c (sl 1 (csL 5 cs_Key) a0.Tracks)), (.c (sl 4 cs_RootKey a0.Roots))]))]⟩) ?_ ?_
  · rcases ite2_cases e7 with ⟨b1, e7⟩ | ⟨b1, e7⟩
    · replace e7 := some_eq e7
      subst e7
      exact AW.rA ⟨[(1, (vp 1 0)), (34, (vc (.bool true)))], [(1, (.box [(.c (.int .i64 a0.Length)), (.c (.int .i64 a0.Kind)), (.c (sl 1 (csL 5 cs_Key) a0.Tracks)), (.c (sl 4 cs_RootKey a0.Roots))]))]⟩ (Tt ∧ T2 ((Tt ∧ (decide (a0.Length < (1 : Int))) = true) ∧ T2 (T4 (T4 (T4 (T4 (T4 (T4 Tt)))))))) [.no, .no, .no, .dec true] [1, 34] [1] ⟨tr, tr, tr, ⟨tr, b1⟩, tr, tr, tr, tr, tr, tr, tr, tr, tr, tr, tr, tr, tr, tr, tr, tr, tr, tr, tr, tr, tr, tr, tr, tr, tr, tr, tr⟩ ⟨rfl, rfl⟩
    · rcases ite2_cases e7 with ⟨b2, e7⟩ | ⟨b2, e7⟩
      · replace e7 := some_eq e7
        subst e7
        exact AW.rA ⟨[(1, (vp 1 0)), (34, (vc (.bool true)))], [(1, (.box [(.c (.int .i64 a0.Length)), (.c (.int .i64 a0.Kind)), (.c (sl 1 (csL 5 cs_Key) a0.Tracks)), (.c (sl 4 cs_RootKey a0.Roots))]))]⟩ (Tt ∧ T2 ((Tt ∧ (decide (a0.Length < (1 : Int))) = false) ∧ T4 ((Tt ∧ (decide (a0.Length > (1000 : Int))) = true) ∧ Tt ∧ T4 (T4 (T4 (T4 (T4 Tt))))))) [.no, .no, .no, .dec false, .no, .no, .no, .no, .dec true] [1, 34] [1] ⟨tr, tr, tr, ⟨tr, b1⟩, tr, tr, tr, tr, ⟨tr, b2⟩, tr, tr, tr, tr, tr, tr, tr, tr, tr, tr, tr, tr, tr, tr, tr, tr, tr, tr, tr, tr, tr, tr⟩ ⟨rfl, rfl⟩
      · rcases ite2_cases e7 with ⟨b3, e7⟩ | ⟨b3, e7⟩
        · replace e7 := some_eq e7
          subst e7
          exact AW.rA ⟨[(1, (vp 1 0)), (34, (vc (.bool true)))], [(1, (.box [(.c (.int .i64 a0.Length)), (.c (.int .i64 a0.Kind)), (.c (sl 1 (csL 5 cs_Key) a0.Tracks)), (.c (sl 4 cs_RootKey a0.Roots))]))]⟩ (Tt ∧ T2 ((Tt ∧ (decide (a0.Length < (1 : Int))) = false) ∧ T4 ((Tt ∧ (decide (a0.Length > (1000 : Int))) = false) ∧ T4 ((Tt ∧ (decide (a0.Kind < (0 : Int))) = true) ∧ T4 (T4 (T4 (T4 Tt))))))) [.no, .no, .no, .dec false, .no, .no, .no, .no, .dec false, .no, .no, .no, .no, .dec true] [1, 34] [1] ⟨tr, tr, tr, ⟨tr, b1⟩, tr, tr, tr, tr, ⟨tr, b2⟩, tr, tr, tr, tr, ⟨tr, b3⟩, tr, tr, tr, tr, tr, tr, tr, tr, tr, tr, tr, tr, tr, tr, tr, tr, tr⟩ ⟨rfl, rfl⟩
        · rcases ite2_cases e7 with ⟨b4, e7⟩ | ⟨b4, e7⟩
          · replace e7 := some_eq e7
            subst e7
            exact AW.rA ⟨[(1, (vp 1 0)), (34, (vc (.bool true)))], [(1, (.box [(.c (.int .i64 a0.Length)), (.c (.int .i64 a0.Kind)), (.c (sl 1 (csL 5 cs_Key) a0.Tracks)), (.c (sl 4 cs_RootKey a0.Roots))]))]⟩ (Tt ∧ T2 ((Tt ∧ (decide (a0.Length < (1 : Int))) = false) ∧ T4 ((Tt ∧ (decide (a0.Length > (1000 : Int))) = false) ∧ T4 ((Tt ∧ (decide (a0.Kind < (0 : Int))) = false) ∧ T4 ((Tt ∧ (decide (a0.Kind > (2 : Int))) = true) ∧ Tt ∧ T2 (T4 (T4 Tt))))))) [.no, .no, .no, .dec false, .no, .no, .no, .no, .dec false, .no, .no, .no, .no, .dec false, .no, .no, .no, .no, .dec true] [1, 34] [1] ⟨tr, tr, tr, ⟨tr, b1⟩, tr, tr, tr, tr, ⟨tr, b2⟩, tr, tr, tr, tr, ⟨tr, b3⟩, tr, tr, tr, tr, ⟨tr, b4⟩, tr, tr, tr, tr, tr, tr, tr, tr, tr, tr, tr, tr⟩ ⟨rfl, rfl⟩
          · rcases ite2_cases e7 with ⟨b5, e7⟩ | ⟨b5, e7⟩
            · replace e7 := some_eq e7
              subst e7
              exact AW.rA ⟨[(1, (vp 1 0)), (34, (vc (.bool true)))], [(1, (.box [(.c (.int .i64 a0.Length)), (.c (.int .i64 a0.Kind)), (.c (sl 1 (csL 5 cs_Key) a0.Tracks)), (.c (sl 4 cs_RootKey a0.Roots))]))]⟩ (Tt ∧ T2 ((Tt ∧ (decide (a0.Length < (1 : Int))) = false) ∧ T4 ((Tt ∧ (decide (a0.Length > (1000 : Int))) = false) ∧ T4 ((Tt ∧ (decide (a0.Kind < (0 : Int))) = false) ∧ T4 ((Tt ∧ (decide (a0.Kind > (2 : Int))) = false) ∧ Tt ∧ T4 ((Tt ∧ (decide ((a0.Tracks.length : Int) < (1 : Int))) = true) ∧ Tt ∧ T4 Tt)))))) [.no, .no, .no, .dec false, .no, .no, .no, .no, .dec false, .no, .no, .no, .no, .dec false, .no, .no, .no, .no, .dec false, .no, .no, .no, .no, .no, .dec true] [1, 34] [1] ⟨tr, tr, tr, ⟨tr, b1⟩, tr, tr, tr, tr, ⟨tr, b2⟩, tr, tr, tr, tr, ⟨tr, b3⟩, tr, tr, tr, tr, ⟨tr, b4⟩, tr, tr, tr, tr, tr, ⟨tr, b5⟩, tr, tr, tr, tr, tr, tr⟩ ⟨rfl, rfl⟩
            · replace e7 := some_eq e7
              subst e7
              exact AW.rA ⟨[(1, (vp 1 0)), (34, (vc (.bool (decide ((a0.Tracks.length : Int) > (12 : Int))))))], [(1, (.box [(.c (.int .i64 a0.Length)), (.c (.int .i64 a0.Kind)), (.c (sl 1 (csL 5 cs_Key) a0.Tracks)), (.c (sl 4 cs_RootKey a0.Roots))]))]⟩ (Tt ∧ T2 ((Tt ∧ (decide (a0.Length < (1 : Int))) = false) ∧ T4 ((Tt ∧ (decide (a0.Length > (1000 : Int))) = false) ∧ T4 ((Tt ∧ (decide (a0.Kind < (0 : Int))) = false) ∧ T4 ((Tt ∧ (decide (a0.Kind > (2 : Int))) = false) ∧ Tt ∧ T4 ((Tt ∧ (decide ((a0.Tracks.length : Int) < (1 : Int))) = false) ∧ Tt ∧ T4 Tt)))))) [.no, .no, .no, .dec false, .no, .no, .no, .no, .dec false, .no, .no, .no, .no, .dec false, .no, .no, .no, .no, .dec false, .no, .no, .no, .no, .no, .dec false] [1, 34] [1] ⟨tr, tr, tr, ⟨tr, b1⟩, tr, tr, tr, tr, ⟨tr, b2⟩, tr, tr, tr, tr, ⟨tr, b3⟩, tr, tr, tr, tr, ⟨tr, b4⟩, tr, tr, tr, tr, tr, ⟨tr, b5⟩, tr, tr, tr, tr, tr, tr⟩ ⟨rfl, rfl⟩
  refine thenQ_normal ?_
  rcases ite2_cases h with ⟨b8, h⟩ | ⟨b8, h⟩
  · refine AW.cond_t rfl b8 ?_
    refine AW.seq (AW.rA ⟨[(2, (vc (.bool false)))], []⟩ (Tt ∧ Tt) [] [2] [] ⟨tr, tr⟩ (thenQ_normal ?_))
    refine AW.ret ?_
    refine thenQ_ret ?_
    replace h := some_eq h
    subst h
    exact ⟨.inr rfl, retOK_of [(.one (.c (.bool false)))] (by kernel_rfl) ⟨⟨rfl, tr⟩, tr⟩ (of_decide_eq_true (by kernel_rfl))⟩
  · refine AW.cond_f rfl b8 ?_
    refine AW.skip ?_
    refine thenQ_normal ?_
    refine AW.seq ?_
    refine AW.seq (AW.rA ⟨[(1, (vp 1 0)), (36, (vc (sl 1 (csL 5 cs_Key) a0.Tracks))), (37, (vc (.int .i64 (a0.Tracks.length : Int)))), (38, (vc (.int .i64 (0 : Int))))], [(1, (.box [(.c (.int .i64 a0.Length)), (.c (.int .i64 a0.Kind)), (.c (sl 1 (csL 5 cs_Key) a0.Tracks)), (.c (sl 4 cs_RootKey a0.Roots))]))]⟩ (T4 Tt) [] [1, 36, 37, 38] [1] ⟨tr, tr, tr, tr, tr⟩ (thenQ_normal ?_))
    refine AW.block ?_
    refine AW.loopQ (σ := Nat × Int) (fun p => ⟨[(1, (vp 1 0)), (36, (vc (sl 1 (csL 5 cs_Key) a0.Tracks))), (37, (vc (.int .i64 (a0.Tracks.length : Int)))), (38, (vc (.int .i64 p.2)))], [(1, (.box [(.c (.int .i64 a0.Length)), (.c (.int .i64 a0.Kind)), (.c (sl 1 (csL 5 cs_Key) a0.Tracks)), (.c (sl 4 cs_RootKey a0.Roots))]))]⟩) (fun p => impl_ValidClip_l1 K a0 p.1 p.2 = some o) (fun p => p.1) (K, (0 : Int)) h ?_
    clear h
    rintro ⟨k, x10⟩ h
    replace h : impl_ValidClip_l1 K a0 k x10 = some o := h
    show AW _ _ (⟨[(1, (vp 1 0)), (36, (vc (sl 1 (csL 5 cs_Key) a0.Tracks))), (37, (vc (.int .i64 (a0.Tracks.length : Int)))), (38, (vc (.int .i64 x10)))], [(1, (.box [(.c (.int .i64 a0.Length)), (.c (.int .i64 a0.Kind)), (.c (sl 1 (csL 5 cs_Key) a0.Tracks)), (.c (sl 4 cs_RootKey a0.Roots))]))]⟩ : St) _
    obtain _ | k := k
    · rw [impl_ValidClip_l1] at h; cases h
    rw [impl_ValidClip_l1] at h
    refine AW.seq (AW.rA ⟨[(1, (vp 1 0)), (36, (vc (sl 1 (csL 5 cs_Key) a0.Tracks))), (37, (vc (.int .i64 (a0.Tracks.length : Int)))), (38, (vc (.int .i64 x10))), (39, (vc (.bool (decide (x10 < (a0.Tracks.length : Int))))))], [(1, (.box [(.c (.int .i64 a0.Length)), (.c (.int .i64 a0.Kind)), (.c (sl 1 (csL 5 cs_Key) a0.Tracks)), (.c (sl 4 cs_RootKey a0.Roots))]))]⟩ (Tt ∧ Tt) [] [1, 36, 37, 38, 39] [1] ⟨tr, tr⟩ (thenQ_normal ?_))
    refine AW.seq ?_
    rcases ite2_cases h with ⟨b11, h⟩ | ⟨b11, h⟩
    · refine AW.cond_t rfl b11 ?_
      refine AW.skip ?_
      refine thenQ_normal ?_
      refine AW.seq ?_
      refine AW.block ?_
      refine AW.seq ?_
      obtain ⟨c12, h⟩ := chk_some h
      refine AW.rA ⟨[(1, (vp 1 0)), (4, (vc (sl 5 cs_Key (a0.Tracks.getD x10.toNat default)))), (36, (vc (sl 1 (csL 5 cs_Key) a0.Tracks))), (37, (vc (.int .i64 (a0.Tracks.length : Int)))), (38, (vc (.int .i64 x10)))], [(1, (.box [(.c (.int .i64 a0.Length)), (.c (.int .i64 a0.Kind)), (.c (sl 1 (csL 5 cs_Key) a0.Tracks)), (.c (sl 4 cs_RootKey a0.Roots))]))]⟩ ((0 ≤ x10 ∧ x10 < (a0.Tracks.length : Int)) ∧ T2 Tt) [] [1, 4, 36, 37, 38] [1] ⟨c12, tr, tr, tr⟩ ?_
      refine thenQ_normal ?_
      refine AW.seq ?_
      obtain ⟨v13, e14, h⟩ := bind_some h
      obtain ⟨v15, e16, h⟩ := bind_some h
      refine AW.dA ⟨[(1, (vp 1 0)), (36, (vc (sl 1 (csL 5 cs_Key) a0.Tracks))), (37, (vc (.int .i64 (a0.Tracks.length : Int)))), (38, (vc (.int .i64 x10))), (47, (vc (.bool (!v15))))], [(1, (.box [(.c (.int .i64 a0.Length)), (.c (.int .i64 a0.Kind)), (.c (sl 1 (csL 5 cs_Key) a0.Tracks)), (.c (sl 4 cs_RootKey a0.Roots))]))]⟩ ((((Tt) ∧ CallOK Try.prog 76 [] [.agg [(.fn 146 0 fun _ => .nilptr), (.fn 147 0 fun _ => .nilptr), (.fn 148 0 fun _ => .nilptr)]]) ∧ Tt ∧ T2 (((((Eqc (.fn 146 0 fun _ => .nilptr)) ∧ (Eqc (.fn 147 0 fun _ => .nilptr)) ∧ (Eqc (.fn 148 0 fun _ => .nilptr)) ∧ Tt) ∧ (Eqc (sl 5 cs_Key (a0.Tracks.getD x10.toNat default))) ∧ (Eqc (.int .i64 a0.Length)) ∧ Tt) ∧ CallOK Try.prog 139 [.agg [(.fn 146 0 fun _ => .nilptr), (.fn 147 0 fun _ => .nilptr), (.fn 148 0 fun _ => .nilptr)], .one (sl 5 cs_Key (a0.Tracks.getD x10.toNat default)), .one (.int .i64 a0.Length)] [.one (.bool v15)]) ∧ Tt ∧ Tt)) ∧ (Tt)) 6 [.call [] [.agg [(.fn 146 0 fun _ => .nilptr), (.fn 147 0 fun _ => .nilptr), (.fn 148 0 fun _ => .nilptr)]] [[.view, .view, .view]], .no, .no, .no, .call [.agg [(.fn 146 0 fun _ => .nilptr), (.fn 147 0 fun _ => .nilptr), (.fn 148 0 fun _ => .nilptr)], .one (sl 5 cs_Key (a0.Tracks.getD x10.toNat default)), .one (.int .i64 a0.Length)] [.one (.bool v15)] [[.view]]] [1, 36, 37, 38, 47] [1] ⟨⟨⟨tr, ok_impl_turnTrack K v13 e14⟩, tr, tr, tr, ⟨⟨⟨rfl, rfl, rfl, tr⟩, rfl, rfl, tr⟩, ok_impl_track_impl_Key_valid K (a0.Tracks.getD x10.toNat default) a0.Length v15 e16⟩, tr, tr⟩, tr⟩ ?_
      refine thenQ_normal ?_
      rcases ite2_cases h with ⟨b17, h⟩ | ⟨b17, h⟩
      · refine AW.cond_t rfl b17 ?_
        refine AW.seq (AW.rA ⟨[(2, (vc (.bool false)))], []⟩ (Tt ∧ Tt) [] [2] [] ⟨tr, tr⟩ (thenQ_normal ?_))
        refine AW.ret ?_
        refine blockQ_ret ?_
        refine thenQ_ret ?_
        refine loopQ_ret ?_
        refine blockQ_ret ?_
        refine thenQ_ret ?_
        replace h := some_eq h
        subst h
        exact ⟨.inr rfl, retOK_of [(.one (.c (.bool false)))] (by kernel_rfl) ⟨⟨rfl, tr⟩, tr⟩ (of_decide_eq_true (by kernel_rfl))⟩
      · refine AW.cond_f rfl b17 ?_
        refine AW.skip ?_
        refine blockQ_normal ?_
        refine thenQ_normal ?_
        refine AW.rA ⟨[(1, (vp 1 0)), (36, (vc (sl 1 (csL 5 cs_Key) a0.Tracks))), (37, (vc (.int .i64 (a0.Tracks.length : Int)))), (38, (vc (.int .i64 (IntKind.i64.wrap (x10 + (1 : Int))))))], [(1, (.box [(.c (.int .i64 a0.Length)), (.c (.int .i64 a0.Kind)), (.c (sl 1 (csL 5 cs_Key) a0.Tracks)), (.c (sl 4 cs_RootKey a0.Roots))]))]⟩ (T2 Tt) [] [1, 36, 37, 38] [1] ⟨tr, tr, tr⟩ ?_
        exact loopQ_normal (k, (IntKind.i64.wrap (x10 + (1 : Int)))) h (Nat.lt_succ_self k) (Sub.keep [1, 36, 37, 38] [1] (by kernel_rfl) (by kernel_rfl))
    · refine AW.cond_f rfl b11 ?_
      refine AW.exit ?_
      refine thenQ_exit ?_
      refine loopQ_exit ?_
      refine blockQ_exit ?_
      refine thenQ_normal ?_
      refine AW.seq ?_
      obtain ⟨v18, e19, h⟩ := bind_some h
      obtain ⟨v20, e21, h⟩ := bind_some h
      refine AW.dA ⟨[(2, (vc (.bool v20)))], []⟩ ((((Tt) ∧ CallOK Try.prog 79 [] [.agg [(.fn 150 0 fun _ => .nilptr), (.fn 151 0 fun _ => .nilptr), (.fn 152 0 fun _ => .nilptr)]]) ∧ T4 (((((Eqc (.fn 150 0 fun _ => .nilptr)) ∧ (Eqc (.fn 151 0 fun _ => .nilptr)) ∧ (Eqc (.fn 152 0 fun _ => .nilptr)) ∧ Tt) ∧ (Eqc (sl 4 cs_RootKey a0.Roots)) ∧ (Eqc (.int .i64 a0.Length)) ∧ Tt) ∧ CallOK Try.prog 140 [.agg [(.fn 150 0 fun _ => .nilptr), (.fn 151 0 fun _ => .nilptr), (.fn 152 0 fun _ => .nilptr)], .one (sl 4 cs_RootKey a0.Roots), .one (.int .i64 a0.Length)] [.one (.bool v20)]) ∧ Tt ∧ Tt)) ∧ (Tt)) 7 [.call [] [.agg [(.fn 150 0 fun _ => .nilptr), (.fn 151 0 fun _ => .nilptr), (.fn 152 0 fun _ => .nilptr)]] [[.view, .view, .view]], .no, .no, .no, .no, .call [.agg [(.fn 150 0 fun _ => .nilptr), (.fn 151 0 fun _ => .nilptr), (.fn 152 0 fun _ => .nilptr)], .one (sl 4 cs_RootKey a0.Roots), .one (.int .i64 a0.Length)] [.one (.bool v20)] [[.view]]] [2] [] ⟨⟨⟨tr, ok_impl_rootTrack K v18 e19⟩, tr, tr, tr, tr, ⟨⟨⟨rfl, rfl, rfl, tr⟩, rfl, rfl, tr⟩, ok_impl_track_impl_RootKey_valid K a0.Roots a0.Length v20 e21⟩, tr, tr⟩, tr⟩ ?_
      refine thenQ_normal ?_
      refine AW.ret ?_
      replace h := some_eq h
      subst h
      exact ⟨.inr rfl, retOK_of [(.one (.c (.bool v20)))] (by kernel_rfl) ⟨⟨rfl, tr⟩, tr⟩ (of_decide_eq_true (by kernel_rfl))⟩

/-! impl.rootTrack$2 -/
def impl_rootTrack_2 (_K : Nat) (a0 : RootKey) (a1 : Int) : Option (RootKey) :=
  some (RootKey.mk a1 a0.Place)

theorem ok_impl_rootTrack_2 (K : Nat) (a0 : RootKey) (a1 : Int) (o : (RootKey)) (h : impl_rootTrack_2 K a0 a1 = some o) : CallOK Try.prog 151 [.agg (cs_RootKey a0), .one (.int .i64 a1)] [.agg (cs_RootKey o)] := by
  refine callOK_of_AW Try.func151 rfl (by kernel_rfl) (Nat.le_of_ble_eq_true (by kernel_rfl)) ?_
  intro w0
  unfold impl_rootTrack_2 at h
  refine AW.seq (AW.rA ⟨[(1, (vc (.int .i64 a1))), (2, (vp 1 0)), (4, (vp 2 0))], [(1, (.box [(.c (.int .i64 a0.At)), (.c (.flt .f32 a0.Place.X.bits)), (.c (.flt .f32 a0.Place.Y.bits)), (.c (.flt .f32 a0.Place.Z.bits))])), (2, (.box [(.c (.int .i64 (0 : Int))), (.c (.flt .f32 (default : F32).bits)), (.c (.flt .f32 (default : F32).bits)), (.c (.flt .f32 (default : F32).bits))]))]⟩ (T2 Tt) [.box 1, .box 2] [1, 2, 4] [1, 2] ⟨tr, tr, tr⟩ (thenQ_normal ?_))
  refine AW.seq (AW.rA ⟨[(2, (vp 1 0)), (4, (vp 2 0))], [(1, (.box [(.c (.int .i64 a1)), (.c (.flt .f32 a0.Place.X.bits)), (.c (.flt .f32 a0.Place.Y.bits)), (.c (.flt .f32 a0.Place.Z.bits))])), (2, (.box [(.c (.int .i64 (0 : Int))), (.c (.flt .f32 (default : F32).bits)), (.c (.flt .f32 (default : F32).bits)), (.c (.flt .f32 (default : F32).bits))]))]⟩ (Tt ∧ T2 Tt) [] [2, 4] [1, 2] ⟨tr, tr, tr, tr⟩ (thenQ_normal ?_))
  refine AW.seq (AW.rA ⟨[(4, (vp 2 0))], [(2, (.box [(.c (.int .i64 a1)), (.c (.flt .f32 a0.Place.X.bits)), (.c (.flt .f32 a0.Place.Y.bits)), (.c (.flt .f32 a0.Place.Z.bits))]))]⟩ (T2 Tt) [] [4] [2] ⟨tr, tr, tr⟩ (thenQ_normal ?_))
  refine AW.ret ?_
  replace h := some_eq h
  subst h
  exact ⟨.inr rfl, retOK_of [(.agg [(.c (.int .i64 a1)), (.c (.flt .f32 a0.Place.X.bits)), (.c (.flt .f32 a0.Place.Y.bits)), (.c (.flt .f32 a0.Place.Z.bits))])] (by kernel_rfl) ⟨⟨⟨rfl, tr⟩, ⟨rfl, tr⟩, ⟨rfl, tr⟩, ⟨rfl, tr⟩, tr⟩, tr⟩ (of_decide_eq_true (by kernel_rfl))⟩

/-! impl.share -/
def impl_share (_K : Nat) (a0 : Int) (a1 : Int) (a2 : Int) : Option (F32) :=
  some ((Fl.ofInt .f32 (IntKind.i64.wrap (a1 - a0))).div (Fl.ofInt .f32 (IntKind.i64.wrap (a2 - a0))))

theorem ok_impl_share (K : Nat) (a0 : Int) (a1 : Int) (a2 : Int) (o : (F32)) (h : impl_share K a0 a1 a2 = some o) : CallOK Try.prog 196 [.one (.int .i64 a0), .one (.int .i64 a1), .one (.int .i64 a2)] [.one (.flt .f32 o.bits)] := by
  refine callOK_of_AW Try.func196 rfl (by kernel_rfl) (Nat.le_of_ble_eq_true (by kernel_rfl)) ?_
  intro w0
  unfold impl_share at h
  refine AW.seq (AW.rA ⟨[(0, (vc (.int .i64 a0))), (1, (vc (.int .i64 a1))), (2, (vc (.int .i64 a2)))], []⟩ (Tt ∧ Tt) [] [0, 1, 2] [] ⟨tr, tr⟩ (thenQ_normal ?_))
  refine AW.seq (AW.rA ⟨[(6, (vc (.flt .f32 ((Fl.ofInt .f32 (IntKind.i64.wrap (a1 - a0))).div (Fl.ofInt .f32 (IntKind.i64.wrap (a2 - a0)))).bits)))], []⟩ (T2 (T4 (T4 Tt))) [] [6] [] ⟨tr, tr, tr, tr, tr, tr, tr, tr, tr, tr, tr⟩ (thenQ_normal ?_))
  refine AW.ret ?_
  replace h := some_eq h
  subst h
  exact ⟨.inr rfl, retOK_of [(.one (.c (.flt .f32 ((Fl.ofInt .f32 (IntKind.i64.wrap (a1 - a0))).div (Fl.ofInt .f32 (IntKind.i64.wrap (a2 - a0)))).bits)))] (by kernel_rfl) ⟨⟨rfl, tr⟩, tr⟩ (of_decide_eq_true (by kernel_rfl))⟩

/-! impl.LessVectors -/
def impl_LessVectors (_K : Nat) (a0 : Vector) (a1 : Vector) : Option (Vector) :=
  some (Vector.mk (a0.X.sub a1.X) (a0.Y.sub a1.Y) (a0.Z.sub a1.Z))

theorem ok_impl_LessVectors (K : Nat) (a0 : Vector) (a1 : Vector) (o : (Vector)) (h : impl_LessVectors K a0 a1 = some o) : CallOK Try.prog 188 [.agg (cs_Vector a0), .agg (cs_Vector a1)] [.agg (cs_Vector o)] := by
  refine callOK_of_AW Try.func188 rfl (by kernel_rfl) (Nat.le_of_ble_eq_true (by kernel_rfl)) ?_
  intro w0
  unfold impl_LessVectors at h
  refine AW.seq (AW.rA ⟨[(2, (vp 1 0)), (3, (vp 2 0)), (4, (vp 3 0))], [(1, (.box [(.c (.flt .f32 a0.X.bits)), (.c (.flt .f32 a0.Y.bits)), (.c (.flt .f32 a0.Z.bits))])), (2, (.box [(.c (.flt .f32 a1.X.bits)), (.c (.flt .f32 a1.Y.bits)), (.c (.flt .f32 a1.Z.bits))])), (3, (.box [(.c (.flt .f32 (default : F32).bits)), (.c (.flt .f32 (default : F32).bits)), (.c (.flt .f32 (default : F32).bits))]))]⟩ (Tt ∧ T2 Tt) [.box 1, .box 2, .box 3] [2, 3, 4] [1, 2, 3] ⟨tr, tr, tr, tr⟩ (thenQ_normal ?_))
  refine AW.seq (AW.rA ⟨[(4, (vp 3 0))], [(3, (.box [(.c (.flt .f32 (a0.X.sub a1.X).bits)), (.c (.flt .f32 (a0.Y.sub a1.Y).bits)), (.c (.flt .f32 (a0.Z.sub a1.Z).bits))]))]⟩ (Tt ∧ T4 (T4 (T4 (T4 Tt)))) [] [4] [3] ⟨tr, tr, tr, tr, tr, tr, tr, tr, tr, tr, tr, tr, tr, tr, tr, tr, tr, tr⟩ (thenQ_normal ?_))
  refine AW.ret ?_
  replace h := some_eq h
  subst h
  exact ⟨.inr rfl, retOK_of [(.agg [(.c (.flt .f32 (a0.X.sub a1.X).bits)), (.c (.flt .f32 (a0.Y.sub a1.Y).bits)), (.c (.flt .f32 (a0.Z.sub a1.Z).bits))])] (by kernel_rfl) ⟨⟨⟨rfl, tr⟩, ⟨rfl, tr⟩, ⟨rfl, tr⟩, tr⟩, tr⟩ (of_decide_eq_true (by kernel_rfl))⟩

/-! impl.ScaleVector -/
def impl_ScaleVector (_K : Nat) (a0 : Vector) (a1 : F32) : Option (Vector) :=
  some (Vector.mk (a0.X.mul a1) (a0.Y.mul a1) (a0.Z.mul a1))

theorem ok_impl_ScaleVector (K : Nat) (a0 : Vector) (a1 : F32) (o : (Vector)) (h : impl_ScaleVector K a0 a1 = some o) : CallOK Try.prog 129 [.agg (cs_Vector a0), .one (.flt .f32 a1.bits)] [.agg (cs_Vector o)] := by
  refine callOK_of_AW Try.func129 rfl (by kernel_rfl) (Nat.le_of_ble_eq_true (by kernel_rfl)) ?_
  intro w0
  unfold impl_ScaleVector at h
  refine AW.seq (AW.rA ⟨[(1, (vc (.flt .f32 a1.bits))), (2, (vp 1 0)), (4, (vp 2 0))], [(1, (.box [(.c (.flt .f32 a0.X.bits)), (.c (.flt .f32 a0.Y.bits)), (.c (.flt .f32 a0.Z.bits))])), (2, (.box [(.c (.flt .f32 (default : F32).bits)), (.c (.flt .f32 (default : F32).bits)), (.c (.flt .f32 (default : F32).bits))]))]⟩ (T2 Tt) [.box 1, .box 2] [1, 2, 4] [1, 2] ⟨tr, tr, tr⟩ (thenQ_normal ?_))
  refine AW.seq (AW.rA ⟨[(4, (vp 2 0))], [(2, (.box [(.c (.flt .f32 (a0.X.mul a1).bits)), (.c (.flt .f32 (a0.Y.mul a1).bits)), (.c (.flt .f32 (a0.Z.mul a1).bits))]))]⟩ (T2 (T4 (T4 (T4 Tt)))) [] [4] [2] ⟨tr, tr, tr, tr, tr, tr, tr, tr, tr, tr, tr, tr, tr, tr, tr⟩ (thenQ_normal ?_))
  refine AW.ret ?_
  replace h := some_eq h
  subst h
  exact ⟨.inr rfl, retOK_of [(.agg [(.c (.flt .f32 (a0.X.mul a1).bits)), (.c (.flt .f32 (a0.Y.mul a1).bits)), (.c (.flt .f32 (a0.Z.mul a1).bits))])] (by kernel_rfl) ⟨⟨⟨rfl, tr⟩, ⟨rfl, tr⟩, ⟨rfl, tr⟩, tr⟩, tr⟩ (of_decide_eq_true (by kernel_rfl))⟩

/-! impl.AddVectors -/
def impl_AddVectors (_K : Nat) (a0 : Vector) (a1 : Vector) : Option (Vector) :=
  some (Vector.mk (a0.X.add a1.X) (a0.Y.add a1.Y) (a0.Z.add a1.Z))

theorem ok_impl_AddVectors (K : Nat) (a0 : Vector) (a1 : Vector) (o : (Vector)) (h : impl_AddVectors K a0 a1 = some o) : CallOK Try.prog 128 [.agg (cs_Vector a0), .agg (cs_Vector a1)] [.agg (cs_Vector o)] := by
  refine callOK_of_AW Try.func128 rfl (by kernel_rfl) (Nat.le_of_ble_eq_true (by kernel_rfl)) ?_
  intro w0
  unfold impl_AddVectors at h
  refine AW.seq (AW.rA ⟨[(2, (vp 1 0)), (3, (vp 2 0)), (4, (vp 3 0))], [(1, (.box [(.c (.flt .f32 a0.X.bits)), (.c (.flt .f32 a0.Y.bits)), (.c (.flt .f32 a0.Z.bits))])), (2, (.box [(.c (.flt .f32 a1.X.bits)), (.c (.flt .f32 a1.Y.bits)), (.c (.flt .f32 a1.Z.bits))])), (3, (.box [(.c (.flt .f32 (default : F32).bits)), (.c (.flt .f32 (default : F32).bits)), (.c (.flt .f32 (default : F32).bits))]))]⟩ (Tt ∧ T2 Tt) [.box 1, .box 2, .box 3] [2, 3, 4] [1, 2, 3] ⟨tr, tr, tr, tr⟩ (thenQ_normal ?_))
  refine AW.seq (AW.rA ⟨[(4, (vp 3 0))], [(3, (.box [(.c (.flt .f32 (a0.X.add a1.X).bits)), (.c (.flt .f32 (a0.Y.add a1.Y).bits)), (.c (.flt .f32 (a0.Z.add a1.Z).bits))]))]⟩ (Tt ∧ T4 (T4 (T4 (T4 Tt)))) [] [4] [3] ⟨tr, tr, tr, tr, tr, tr, tr, tr, tr, tr, tr, tr, tr, tr, tr, tr, tr, tr⟩ (thenQ_normal ?_))
  refine AW.ret ?_
  replace h := some_eq h
  subst h
  exact ⟨.inr rfl, retOK_of [(.agg [(.c (.flt .f32 (a0.X.add a1.X).bits)), (.c (.flt .f32 (a0.Y.add a1.Y).bits)), (.c (.flt .f32 (a0.Z.add a1.Z).bits))])] (by kernel_rfl) ⟨⟨⟨rfl, tr⟩, ⟨rfl, tr⟩, ⟨rfl, tr⟩, tr⟩, tr⟩ (of_decide_eq_true (by kernel_rfl))⟩

/-! impl.BetweenVectors -/
def impl_BetweenVectors (K : Nat) (a0 : Vector) (a1 : Vector) (a2 : F32) : Option (Vector) :=
  (impl_LessVectors K a1 a0).bind fun v1 => (impl_ScaleVector K v1 a2).bind fun v3 => (impl_AddVectors K a0 v3).bind fun v5 => some v5

theorem ok_impl_BetweenVectors (K : Nat) (a0 : Vector) (a1 : Vector) (a2 : F32) (o : (Vector)) (h : impl_BetweenVectors K a0 a1 a2 = some o) : CallOK Try.prog 153 [.agg (cs_Vector a0), .agg (cs_Vector a1), .one (.flt .f32 a2.bits)] [.agg (cs_Vector o)] := by
  refine callOK_of_AW Try.func153 rfl (by kernel_rfl) (Nat.le_of_ble_eq_true (by kernel_rfl)) ?_
  intro w0
  unfold impl_BetweenVectors at h
  refine AW.seq (AW.rA ⟨[(2, (vc (.flt .f32 a2.bits))), (3, (vp 1 0)), (4, (vp 2 0)), (6, (vp 3 0))], [(1, (.box [(.c (.flt .f32 a0.X.bits)), (.c (.flt .f32 a0.Y.bits)), (.c (.flt .f32 a0.Z.bits))])), (2, (.box [(.c (.flt .f32 a1.X.bits)), (.c (.flt .f32 a1.Y.bits)), (.c (.flt .f32 a1.Z.bits))])), (3, (.box [(.c (.flt .f32 (default : F32).bits)), (.c (.flt .f32 (default : F32).bits)), (.c (.flt .f32 (default : F32).bits))]))]⟩ (Tt ∧ T2 Tt) [.box 1, .box 2, .box 3] [2, 3, 4, 6] [1, 2, 3] ⟨tr, tr, tr, tr⟩ (thenQ_normal ?_))
  refine AW.seq ?_
  obtain ⟨v1, e2, h⟩ := bind_some h
  obtain ⟨v3, e4, h⟩ := bind_some h
  obtain ⟨v5, e6, h⟩ := bind_some h
  refine AW.dA ⟨[(6, (vp 3 0))], [(3, (.box [(.c (.flt .f32 v5.X.bits)), (.c (.flt .f32 v5.Y.bits)), (.c (.flt .f32 v5.Z.bits))]))]⟩ ((Tt ∧ T2 (((((Eqc (.flt .f32 a1.X.bits)) ∧ (Eqc (.flt .f32 a1.Y.bits)) ∧ (Eqc (.flt .f32 a1.Z.bits)) ∧ Tt) ∧ ((Eqc (.flt .f32 a0.X.bits)) ∧ (Eqc (.flt .f32 a0.Y.bits)) ∧ (Eqc (.flt .f32 a0.Z.bits)) ∧ Tt) ∧ Tt) ∧ CallOK Try.prog 188 [.agg (cs_Vector a1), .agg (cs_Vector a0)] [.agg (cs_Vector v1)]) ∧ Tt ∧ ((((Eqc (.flt .f32 v1.X.bits)) ∧ (Eqc (.flt .f32 v1.Y.bits)) ∧ (Eqc (.flt .f32 v1.Z.bits)) ∧ Tt) ∧ (Eqc (.flt .f32 a2.bits)) ∧ Tt) ∧ CallOK Try.prog 129 [.agg (cs_Vector v1), .one (.flt .f32 a2.bits)] [.agg (cs_Vector v3)]) ∧ ((((Eqc (.flt .f32 a0.X.bits)) ∧ (Eqc (.flt .f32 a0.Y.bits)) ∧ (Eqc (.flt .f32 a0.Z.bits)) ∧ Tt) ∧ ((Eqc (.flt .f32 v3.X.bits)) ∧ (Eqc (.flt .f32 v3.Y.bits)) ∧ (Eqc (.flt .f32 v3.Z.bits)) ∧ Tt) ∧ Tt) ∧ CallOK Try.prog 128 [.agg (cs_Vector a0), .agg (cs_Vector v3)] [.agg (cs_Vector v5)]) ∧ Tt)) ∧ (Tt ∧ Tt)) 7 [.no, .no, .no, .call [.agg (cs_Vector a1), .agg (cs_Vector a0)] [.agg (cs_Vector v1)] [[.view, .view, .view]], .no, .call [.agg (cs_Vector v1), .one (.flt .f32 a2.bits)] [.agg (cs_Vector v3)] [[.view, .view, .view]], .call [.agg (cs_Vector a0), .agg (cs_Vector v3)] [.agg (cs_Vector v5)] [[.view, .view, .view]]] [6] [3] ⟨⟨tr, tr, tr, ⟨⟨⟨rfl, rfl, rfl, tr⟩, ⟨rfl, rfl, rfl, tr⟩, tr⟩, ok_impl_LessVectors K a1 a0 v1 e2⟩, tr, ⟨⟨⟨rfl, rfl, rfl, tr⟩, rfl, tr⟩, ok_impl_ScaleVector K v1 a2 v3 e4⟩, ⟨⟨⟨rfl, rfl, rfl, tr⟩, ⟨rfl, rfl, rfl, tr⟩, tr⟩, ok_impl_AddVectors K a0 v3 v5 e6⟩, tr⟩, ⟨tr, tr⟩⟩ ?_
  refine thenQ_normal ?_
  refine AW.ret ?_
  replace h := some_eq h
  subst h
  exact ⟨.inr rfl, retOK_of [(.agg [(.c (.flt .f32 v5.X.bits)), (.c (.flt .f32 v5.Y.bits)), (.c (.flt .f32 v5.Z.bits))])] (by kernel_rfl) ⟨⟨⟨rfl, tr⟩, ⟨rfl, tr⟩, ⟨rfl, tr⟩, tr⟩, tr⟩ (of_decide_eq_true (by kernel_rfl))⟩

/-! impl.rootTrack$3 -/
def impl_rootTrack_3 (K : Nat) (a0 : RootKey) (a1 : RootKey) (a2 : F32) : Option (RootKey) :=
  (impl_BetweenVectors K a0.Place a1.Place a2).bind fun v1 => some (RootKey.mk a0.At v1)

theorem ok_impl_rootTrack_3 (K : Nat) (a0 : RootKey) (a1 : RootKey) (a2 : F32) (o : (RootKey)) (h : impl_rootTrack_3 K a0 a1 a2 = some o) : CallOK Try.prog 152 [.agg (cs_RootKey a0), .agg (cs_RootKey a1), .one (.flt .f32 a2.bits)] [.agg (cs_RootKey o)] := by
  refine callOK_of_AW Try.func152 rfl (by kernel_rfl) (Nat.le_of_ble_eq_true (by kernel_rfl)) ?_
  intro w0
  unfold impl_rootTrack_3 at h
  refine AW.seq (AW.rA ⟨[(2, (vc (.flt .f32 a2.bits))), (3, (vp 1 0)), (4, (vp 2 0)), (6, (vp 3 0))], [(1, (.box [(.c (.int .i64 a0.At)), (.c (.flt .f32 a0.Place.X.bits)), (.c (.flt .f32 a0.Place.Y.bits)), (.c (.flt .f32 a0.Place.Z.bits))])), (2, (.box [(.c (.int .i64 a1.At)), (.c (.flt .f32 a1.Place.X.bits)), (.c (.flt .f32 a1.Place.Y.bits)), (.c (.flt .f32 a1.Place.Z.bits))])), (3, (.box [(.c (.int .i64 (0 : Int))), (.c (.flt .f32 (default : F32).bits)), (.c (.flt .f32 (default : F32).bits)), (.c (.flt .f32 (default : F32).bits))]))]⟩ (Tt ∧ T2 Tt) [.box 1, .box 2, .box 3] [2, 3, 4, 6] [1, 2, 3] ⟨tr, tr, tr, tr⟩ (thenQ_normal ?_))
  refine AW.seq ?_
  obtain ⟨v1, e2, h⟩ := bind_some h
  refine AW.rA ⟨[(3, (vp 1 0)), (6, (vp 3 0))], [(1, (.box [(.c (.int .i64 a0.At)), (.c (.flt .f32 v1.X.bits)), (.c (.flt .f32 v1.Y.bits)), (.c (.flt .f32 v1.Z.bits))])), (3, (.box [(.c (.int .i64 (0 : Int))), (.c (.flt .f32 (default : F32).bits)), (.c (.flt .f32 (default : F32).bits)), (.c (.flt .f32 (default : F32).bits))]))]⟩ (Tt ∧ T4 (((((Eqc (.flt .f32 a0.Place.X.bits)) ∧ (Eqc (.flt .f32 a0.Place.Y.bits)) ∧ (Eqc (.flt .f32 a0.Place.Z.bits)) ∧ Tt) ∧ ((Eqc (.flt .f32 a1.Place.X.bits)) ∧ (Eqc (.flt .f32 a1.Place.Y.bits)) ∧ (Eqc (.flt .f32 a1.Place.Z.bits)) ∧ Tt) ∧ (Eqc (.flt .f32 a2.bits)) ∧ Tt) ∧ CallOK Try.prog 153 [.agg (cs_Vector a0.Place), .agg (cs_Vector a1.Place), .one (.flt .f32 a2.bits)] [.agg (cs_Vector v1)]) ∧ T2 Tt)) [.no, .no, .no, .no, .no, .call [.agg (cs_Vector a0.Place), .agg (cs_Vector a1.Place), .one (.flt .f32 a2.bits)] [.agg (cs_Vector v1)] [[.view, .view, .view]]] [3, 6] [1, 3] ⟨tr, tr, tr, tr, tr, ⟨⟨⟨rfl, rfl, rfl, tr⟩, ⟨rfl, rfl, rfl, tr⟩, rfl, tr⟩, ok_impl_BetweenVectors K a0.Place a1.Place a2 v1 e2⟩, tr, tr, tr⟩ ?_
  refine thenQ_normal ?_
  refine AW.seq (AW.rA ⟨[(6, (vp 3 0))], [(3, (.box [(.c (.int .i64 a0.At)), (.c (.flt .f32 v1.X.bits)), (.c (.flt .f32 v1.Y.bits)), (.c (.flt .f32 v1.Z.bits))]))]⟩ (T2 Tt) [] [6] [3] ⟨tr, tr, tr⟩ (thenQ_normal ?_))
  refine AW.ret ?_
  replace h := some_eq h
  subst h
  exact ⟨.inr rfl, retOK_of [(.agg [(.c (.int .i64 a0.At)), (.c (.flt .f32 v1.X.bits)), (.c (.flt .f32 v1.Y.bits)), (.c (.flt .f32 v1.Z.bits))])] (by kernel_rfl) ⟨⟨⟨rfl, tr⟩, ⟨rfl, tr⟩, ⟨rfl, tr⟩, ⟨rfl, tr⟩, tr⟩, tr⟩ (of_decide_eq_true (by kernel_rfl))⟩

/-! (impl.track[impl.RootKey]).sample -/
def impl_track_impl_RootKey_sample_l1 (K : Nat) (a1 : (List RootKey)) (a2 : Int) (a3 : Int) : Nat → Int → Option (RootKey)
  | 0, _ => none
  | k + 1, x2 => (ite2 ((decide (x2 < (a1.length : Int)))) (chk (0 ≤ x2 ∧ x2 < (a1.length : Int)) ((impl_rootTrack_1 K (a1.getD x2.toNat default)).bind fun v5 => some (decide (v5 ≤ a3)))) (some false)).bind fun j7 => ite2 (j7) (impl_track_impl_RootKey_sample_l1 K a1 a2 a3 k (IntKind.i64.wrap (x2 + (1 : Int)))) (ite2 ((x2 == (0 : Int))) (chk (0 ≤ (0 : Int) ∧ (0 : Int) < (a1.length : Int)) ((impl_rootTrack_2 K (a1.getD ((0 : Int).toNat) default) a3).bind fun v12 => some v12)) ((ite2 ((x2 == (a1.length : Int))) (some true) (chk (0 ≤ (IntKind.i64.wrap (x2 - (1 : Int))) ∧ (IntKind.i64.wrap (x2 - (1 : Int))) < (a1.length : Int)) ((impl_rootTrack_1 K (a1.getD ((IntKind.i64.wrap (x2 - (1 : Int))).toNat) default)).bind fun v16 => ite2 ((v16 == a3)) (some true) (some (a2 == (0 : Int)))))).bind fun j19 => ite2 (j19) (chk (0 ≤ (IntKind.i64.wrap (x2 - (1 : Int))) ∧ (IntKind.i64.wrap (x2 - (1 : Int))) < (a1.length : Int)) ((impl_rootTrack_2 K (a1.getD ((IntKind.i64.wrap (x2 - (1 : Int))).toNat) default) a3).bind fun v23 => some v23)) (chk (0 ≤ (IntKind.i64.wrap (x2 - (1 : Int))) ∧ (IntKind.i64.wrap (x2 - (1 : Int))) < (a1.length : Int)) (chk (0 ≤ x2 ∧ x2 < (a1.length : Int)) ((impl_rootTrack_1 K (a1.getD ((IntKind.i64.wrap (x2 - (1 : Int))).toNat) default)).bind fun v27 => (impl_rootTrack_1 K (a1.getD x2.toNat default)).bind fun v29 => (impl_share K v27 a3 v29).bind fun v31 => ite2 ((a2 == (2 : Int))) ((impl_rootTrack_3 K (a1.getD ((IntKind.i64.wrap (x2 - (1 : Int))).toNat) default) (a1.getD x2.toNat default) ((v31.mul v31).mul ((Fl.mk (k := .f32) 1077936128 (by decide)).sub ((Fl.mk (k := .f32) 1073741824 (by decide)).mul v31)))).bind fun v34 => (impl_rootTrack_2 K v34 a3).bind fun v36 => some v36) ((impl_rootTrack_3 K (a1.getD ((IntKind.i64.wrap (x2 - (1 : Int))).toNat) default) (a1.getD x2.toNat default) v31).bind fun v38 => (impl_rootTrack_2 K v38 a3).bind fun v40 => some v40))))))

def impl_track_impl_RootKey_sample (K : Nat) (a1 : (List RootKey)) (a2 : Int) (a3 : Int) : Option (RootKey) :=
  impl_track_impl_RootKey_sample_l1 K a1 a2 a3 K (0 : Int)

theorem ok_impl_track_impl_RootKey_sample (K : Nat) (a1 : (List RootKey)) (a2 : Int) (a3 : Int) (o : (RootKey)) (h : impl_track_impl_RootKey_sample K a1 a2 a3 = some o) : CallOK Try.prog 161 [.agg [(.fn 150 0 fun _ => .nilptr), (.fn 151 0 fun _ => .nilptr), (.fn 152 0 fun _ => .nilptr)], .one (sl 4 cs_RootKey a1), .one (.int .i64 a2), .one (.int .i64 a3)] [.agg (cs_RootKey o)] := by
  refine callOK_of_AW Try.func161 rfl (by kernel_rfl) (Nat.le_of_ble_eq_true (by kernel_rfl)) ?_
  intro w0
  unfold impl_track_impl_RootKey_sample at h
  refine AW.seq (AW.rA ⟨[(1, (vc (sl 4 cs_RootKey a1))), (2, (vc (.int .i64 a2))), (3, (vc (.int .i64 a3))), (4, (vp 1 0)), (8, (vp 2 0))], [(1, (.box [(.c (.fn 150 0 fun _ => .nilptr)), (.c (.fn 151 0 fun _ => .nilptr)), (.c (.fn 152 0 fun _ => .nilptr))])), (2, (.box [(.c (.int .i64 (0 : Int))), (.c (.flt .f32 (default : F32).bits)), (.c (.flt .f32 (default : F32).bits)), (.c (.flt .f32 (default : F32).bits))]))]⟩ (T2 Tt) [.box 1, .box 2] [1, 2, 3, 4, 8] [1, 2] ⟨tr, tr, tr⟩ (thenQ_normal ?_))
  refine AW.seq (AW.rA ⟨[(1, (vc (sl 4 cs_RootKey a1))), (2, (vc (.int .i64 a2))), (3, (vc (.int .i64 a3))), (4, (vp 1 0)), (8, (vp 2 0)), (9, (vc (.int .i64 (0 : Int))))], [(1, (.box [(.c (.fn 150 0 fun _ => .nilptr)), (.c (.fn 151 0 fun _ => .nilptr)), (.c (.fn 152 0 fun _ => .nilptr))])), (2, (.box [(.c (.int .i64 (0 : Int))), (.c (.flt .f32 (default : F32).bits)), (.c (.flt .f32 (default : F32).bits)), (.c (.flt .f32 (default : F32).bits))]))]⟩ (Tt ∧ Tt) [] [1, 2, 3, 4, 8, 9] [1, 2] ⟨tr, tr⟩ (thenQ_normal ?_))
  refine AW.seq ?_
  refine AW.block ?_
  refine AW.loopQ (σ := Nat × Int) (fun p => ⟨[(1, (vc (sl 4 cs_RootKey a1))), (2, (vc (.int .i64 a2))), (3, (vc (.int .i64 a3))), (4, (vp 1 0)), (8, (vp 2 0)), (9, (vc (.int .i64 p.2)))], [(1, (.box [(.c (.fn 150 0 fun _ => .nilptr)), (.c (.fn 151 0 fun _ => .nilptr)), (.c (.fn 152 0 fun _ => .nilptr))])), (2, (.box [(.c (.int .i64 (0 : Int))), (.c (.flt .f32 (default : F32).bits)), (.c (.flt .f32 (default : F32).bits)), (.c (.flt .f32 (default : F32).bits))]))]⟩) (fun p => impl_track_impl_RootKey_sample_l1 K a1 a2 a3 p.1 p.2 = some o) (fun p => p.1) (K, (0 : Int)) h ?_
  clear h
  rintro ⟨k, x2⟩ h
  replace h : impl_track_impl_RootKey_sample_l1 K a1 a2 a3 k x2 = some o := h
  show AW _ _ (⟨[(1, (vc (sl 4 cs_RootKey a1))), (2, (vc (.int .i64 a2))), (3, (vc (.int .i64 a3))), (4, (vp 1 0)), (8, (vp 2 0)), (9, (vc (.int .i64 x2)))], [(1, (.box [(.c (.fn 150 0 fun _ => .nilptr)), (.c (.fn 151 0 fun _ => .nilptr)), (.c (.fn 152 0 fun _ => .nilptr))])), (2, (.box [(.c (.int .i64 (0 : Int))), (.c (.flt .f32 (default : F32).bits)), (.c (.flt .f32 (default : F32).bits)), (.c (.flt .f32 (default : F32).bits))]))]⟩ : St) _
  obtain _ | k := k
  · rw [impl_track_impl_RootKey_sample_l1] at h; cases h
  rw [impl_track_impl_RootKey_sample_l1] at h
  refine AW.seq ?_
  refine AW.seq ?_
  obtain ⟨j7, e8, h⟩ := bind_some h
  refine AW.join1 (s2 := ⟨[(1, (vc (sl 4 cs_RootKey a1))), (2, (vc (.int .i64 a2))), (3, (vc (.int .i64 a3))), (4, (vp 1 0)), (8, (vp 2 0)), (9, (vc (.int .i64 x2))), (27, (vc (.bool j7)))], [(1, (.box [(.c (.fn 150 0 fun _ => .nilptr)), (.c (.fn 151 0 fun _ => .nilptr)), (.c (.fn 152 0 fun _ => .nilptr))])), (2, (.box [(.c (.int .i64 (0 : Int))), (.c (.flt .f32 (default : F32).bits)), (.c (.flt .f32 (default : F32).bits)), (.c (.flt .f32 (default : F32).bits))]))]⟩) ?_ ?_
  · rcases ite2_cases e8 with ⟨b3, e8⟩ | ⟨b3, e8⟩
    · obtain ⟨c4, e8⟩ := chk_some e8
      obtain ⟨v5, e6, e8⟩ := bind_some e8
      replace e8 := some_eq e8
      subst e8
      exact AW.dA ⟨[(1, (vc (sl 4 cs_RootKey a1))), (2, (vc (.int .i64 a2))), (3, (vc (.int .i64 a3))), (4, (vp 1 0)), (8, (vp 2 0)), (9, (vc (.int .i64 x2))), (27, (vc (.bool (decide (v5 ≤ a3)))))], [(1, (.box [(.c (.fn 150 0 fun _ => .nilptr)), (.c (.fn 151 0 fun _ => .nilptr)), (.c (.fn 152 0 fun _ => .nilptr))])), (2, (.box [(.c (.int .i64 (0 : Int))), (.c (.flt .f32 (default : F32).bits)), (.c (.flt .f32 (default : F32).bits)), (.c (.flt .f32 (default : F32).bits))]))]⟩ ((T4 ((Tt ∧ (decide (x2 < (a1.length : Int))) = true) ∧ T4 ((0 ≤ x2 ∧ x2 < (a1.length : Int)) ∧ Tt ∧ ((((Eqc (.int .i64 ((a1.getD x2.toNat default).At))) ∧ (Eqc (.flt .f32 (((a1.getD x2.toNat default).Place).X).bits)) ∧ (Eqc (.flt .f32 (((a1.getD x2.toNat default).Place).Y).bits)) ∧ (Eqc (.flt .f32 (((a1.getD x2.toNat default).Place).Z).bits)) ∧ Tt) ∧ Tt) ∧ CallOK Try.prog 150 [.agg (cs_RootKey (a1.getD x2.toNat default))] [.one (.int .i64 v5)]) ∧ Tt ∧ T2 Tt))) ∧ (Tt)) 15 [.no, .no, .no, .no, .dec true, .no, .no, .no, .no, .no, .no, .call [.agg (cs_RootKey (a1.getD x2.toNat default))] [.one (.int .i64 v5)] [[.view]]] [1, 2, 3, 4, 8, 9, 27] [1, 2] ⟨⟨tr, tr, tr, tr, ⟨tr, b3⟩, tr, tr, tr, tr, c4, tr, ⟨⟨⟨rfl, rfl, rfl, rfl, tr⟩, tr⟩, ok_impl_rootTrack_1 K (a1.getD x2.toNat default) v5 e6⟩, tr, tr, tr, tr⟩, tr⟩ ⟨rfl, rfl⟩
    · replace e8 := some_eq e8
      subst e8
      exact AW.dA ⟨[(1, (vc (sl 4 cs_RootKey a1))), (2, (vc (.int .i64 a2))), (3, (vc (.int .i64 a3))), (4, (vp 1 0)), (8, (vp 2 0)), (9, (vc (.int .i64 x2))), (27, (vc (.bool false)))], [(1, (.box [(.c (.fn 150 0 fun _ => .nilptr)), (.c (.fn 151 0 fun _ => .nilptr)), (.c (.fn 152 0 fun _ => .nilptr))])), (2, (.box [(.c (.int .i64 (0 : Int))), (.c (.flt .f32 (default : F32).bits)), (.c (.flt .f32 (default : F32).bits)), (.c (.flt .f32 (default : F32).bits))]))]⟩ ((T4 ((Tt ∧ (decide (x2 < (a1.length : Int))) = false) ∧ T2 (T4 (T4 Tt)))) ∧ (Tt)) 15 [.no, .no, .no, .no, .dec false] [1, 2, 3, 4, 8, 9, 27] [1, 2] ⟨⟨tr, tr, tr, tr, ⟨tr, b3⟩, tr, tr, tr, tr, tr, tr, tr, tr, tr, tr, tr⟩, tr⟩ ⟨rfl, rfl⟩
  refine thenQ_normal ?_
  rcases ite2_cases h with ⟨b9, h⟩ | ⟨b9, h⟩
  · refine AW.cond_t rfl b9 ?_
    refine AW.skip ?_
    refine thenQ_normal ?_
    refine AW.block ?_
    refine AW.rA ⟨[(1, (vc (sl 4 cs_RootKey a1))), (2, (vc (.int .i64 a2))), (3, (vc (.int .i64 a3))), (4, (vp 1 0)), (8, (vp 2 0)), (9, (vc (.int .i64 (IntKind.i64.wrap (x2 + (1 : Int))))))], [(1, (.box [(.c (.fn 150 0 fun _ => .nilptr)), (.c (.fn 151 0 fun _ => .nilptr)), (.c (.fn 152 0 fun _ => .nilptr))])), (2, (.box [(.c (.int .i64 (0 : Int))), (.c (.flt .f32 (default : F32).bits)), (.c (.flt .f32 (default : F32).bits)), (.c (.flt .f32 (default : F32).bits))]))]⟩ (Tt ∧ T2 Tt) [] [1, 2, 3, 4, 8, 9] [1, 2] ⟨tr, tr, tr, tr⟩ ?_
    refine blockQ_normal ?_
    exact loopQ_normal (k, (IntKind.i64.wrap (x2 + (1 : Int)))) h (Nat.lt_succ_self k) (Sub.keep [1, 2, 3, 4, 8, 9] [1, 2] (by kernel_rfl) (by kernel_rfl))
  · refine AW.cond_f rfl b9 ?_
    refine AW.exit ?_
    refine thenQ_exit ?_
    refine loopQ_exit ?_
    refine blockQ_exit ?_
    refine thenQ_normal ?_
    refine AW.seq ?_
    refine AW.block ?_
    refine AW.seq (AW.rA ⟨[(1, (vc (sl 4 cs_RootKey a1))), (2, (vc (.int .i64 a2))), (3, (vc (.int .i64 a3))), (4, (vp 1 0)), (8, (vp 2 0)), (9, (vc (.int .i64 x2))), (30, (vc (.bool (x2 == (0 : Int)))))], [(1, (.box [(.c (.fn 150 0 fun _ => .nilptr)), (.c (.fn 151 0 fun _ => .nilptr)), (.c (.fn 152 0 fun _ => .nilptr))])), (2, (.box [(.c (.int .i64 (0 : Int))), (.c (.flt .f32 (default : F32).bits)), (.c (.flt .f32 (default : F32).bits)), (.c (.flt .f32 (default : F32).bits))]))]⟩ (Tt ∧ T2 Tt) [] [1, 2, 3, 4, 8, 9, 30] [1, 2] ⟨tr, tr, tr, tr⟩ (thenQ_normal ?_))
    rcases ite2_cases h with ⟨b10, h⟩ | ⟨b10, h⟩
    · refine AW.cond_t rfl b10 ?_
      refine AW.seq ?_
      obtain ⟨c11, h⟩ := chk_some h
      obtain ⟨v12, e13, h⟩ := bind_some h
      refine AW.dA ⟨[(8, (vp 2 0))], [(2, (.box [(.c (.int .i64 v12.At)), (.c (.flt .f32 v12.Place.X.bits)), (.c (.flt .f32 v12.Place.Y.bits)), (.c (.flt .f32 v12.Place.Z.bits))]))]⟩ ((Tt ∧ T2 ((0 ≤ (0 : Int) ∧ (0 : Int) < (a1.length : Int)) ∧ T2 (((((Eqc (.int .i64 ((a1.getD ((0 : Int).toNat) default).At))) ∧ (((.flt .f32 (((a1.getD ((0 : Int).toNat) default).Place).X).bits) : C) = (.flt .f32 (((a1.getD ((0 : Int).toNat) default).Place).X).bits)) ∧ (((.flt .f32 (((a1.getD ((0 : Int).toNat) default).Place).Y).bits) : C) = (.flt .f32 (((a1.getD ((0 : Int).toNat) default).Place).Y).bits)) ∧ (((.flt .f32 (((a1.getD ((0 : Int).toNat) default).Place).Z).bits) : C) = (.flt .f32 (((a1.getD ((0 : Int).toNat) default).Place).Z).bits)) ∧ Tt) ∧ (Eqc (.int .i64 a3)) ∧ Tt) ∧ CallOK Try.prog 151 [.agg (cs_RootKey (a1.getD ((0 : Int).toNat) default)), .one (.int .i64 a3)] [.agg (cs_RootKey v12)]) ∧ Tt))) ∧ (Tt ∧ Tt)) 7 [.no, .no, .no, .no, .no, .no, .call [.agg (cs_RootKey (a1.getD ((0 : Int).toNat) default)), .one (.int .i64 a3)] [.agg (cs_RootKey v12)] [[.view, .view, .view, .view]]] [8] [2] ⟨⟨tr, tr, tr, c11, tr, tr, ⟨⟨⟨rfl, rfl, rfl, rfl, tr⟩, rfl, tr⟩, ok_impl_rootTrack_2 K (a1.getD ((0 : Int).toNat) default) a3 v12 e13⟩, tr⟩, ⟨tr, tr⟩⟩ ?_
      refine thenQ_normal ?_
      refine AW.ret ?_
      refine blockQ_ret ?_
      refine thenQ_ret ?_
      replace h := some_eq h
      subst h
      exact ⟨.inr rfl, retOK_of [(.agg [(.c (.int .i64 v12.At)), (.c (.flt .f32 v12.Place.X.bits)), (.c (.flt .f32 v12.Place.Y.bits)), (.c (.flt .f32 v12.Place.Z.bits))])] (by kernel_rfl) ⟨⟨⟨rfl, tr⟩, ⟨rfl, tr⟩, ⟨rfl, tr⟩, ⟨rfl, tr⟩, tr⟩, tr⟩ (of_decide_eq_true (by kernel_rfl))⟩
    · refine AW.cond_f rfl b10 ?_
      refine AW.seq ?_
      obtain ⟨j19, e20, h⟩ := bind_some h
      refine AW.join1 (s2 := ⟨[(1, (vc (sl 4 cs_RootKey a1))), (2, (vc (.int .i64 a2))), (3, (vc (.int .i64 a3))), (4, (vp 1 0)), (8, (vp 2 0)), (9, (vc (.int .i64 x2))), (40, (vc (.bool j19)))], [(1, (.box [(.c (.fn 150 0 fun _ => .nilptr)), (.c (.fn 151 0 fun _ => .nilptr)), (.c (.fn 152 0 fun _ => .nilptr))])), (2, (.box [(.c (.int .i64 (0 : Int))), (.c (.flt .f32 (default : F32).bits)), (.c (.flt .f32 (default : F32).bits)), (.c (.flt .f32 (default : F32).bits))]))]⟩) ?_ ?_
      · rcases ite2_cases e20 with ⟨b14, e20⟩ | ⟨b14, e20⟩
        · replace e20 := some_eq e20
          subst e20
          exact AW.dA ⟨[(1, (vc (sl 4 cs_RootKey a1))), (2, (vc (.int .i64 a2))), (3, (vc (.int .i64 a3))), (4, (vp 1 0)), (8, (vp 2 0)), (9, (vc (.int .i64 x2))), (40, (vc (.bool true)))], [(1, (.box [(.c (.fn 150 0 fun _ => .nilptr)), (.c (.fn 151 0 fun _ => .nilptr)), (.c (.fn 152 0 fun _ => .nilptr))])), (2, (.box [(.c (.int .i64 (0 : Int))), (.c (.flt .f32 (default : F32).bits)), (.c (.flt .f32 (default : F32).bits)), (.c (.flt .f32 (default : F32).bits))]))]⟩ ((T4 ((Tt ∧ (x2 == (a1.length : Int)) = true) ∧ T4 (T4 (T4 (T4 Tt))))) ∧ (Tt)) 21 [.no, .no, .no, .no, .dec true] [1, 2, 3, 4, 8, 9, 40] [1, 2] ⟨⟨tr, tr, tr, tr, ⟨tr, b14⟩, tr, tr, tr, tr, tr, tr, tr, tr, tr, tr, tr, tr, tr, tr, tr, tr, tr⟩, tr⟩ ⟨rfl, rfl⟩
        · obtain ⟨c15, e20⟩ := chk_some e20
          obtain ⟨v16, e17, e20⟩ := bind_some e20
          rcases ite2_cases e20 with ⟨b18, e20⟩ | ⟨b18, e20⟩
          · replace e20 := some_eq e20
            subst e20
            exact AW.dA ⟨[(1, (vc (sl 4 cs_RootKey a1))), (2, (vc (.int .i64 a2))), (3, (vc (.int .i64 a3))), (4, (vp 1 0)), (8, (vp 2 0)), (9, (vc (.int .i64 x2))), (40, (vc (.bool true)))], [(1, (.box [(.c (.fn 150 0 fun _ => .nilptr)), (.c (.fn 151 0 fun _ => .nilptr)), (.c (.fn 152 0 fun _ => .nilptr))])), (2, (.box [(.c (.int .i64 (0 : Int))), (.c (.flt .f32 (default : F32).bits)), (.c (.flt .f32 (default : F32).bits)), (.c (.flt .f32 (default : F32).bits))]))]⟩ ((T4 ((Tt ∧ (x2 == (a1.length : Int)) = false) ∧ Tt ∧ T4 ((0 ≤ (IntKind.i64.wrap (x2 - (1 : Int))) ∧ (IntKind.i64.wrap (x2 - (1 : Int))) < (a1.length : Int)) ∧ Tt ∧ ((((((.int .i64 ((a1.getD ((IntKind.i64.wrap (x2 - (1 : Int))).toNat) default).At)) : C) = (.int .i64 ((a1.getD ((IntKind.i64.wrap (x2 - (1 : Int))).toNat) default).At))) ∧ (((.flt .f32 (((a1.getD ((IntKind.i64.wrap (x2 - (1 : Int))).toNat) default).Place).X).bits) : C) = (.flt .f32 (((a1.getD ((IntKind.i64.wrap (x2 - (1 : Int))).toNat) default).Place).X).bits)) ∧ (((.flt .f32 (((a1.getD ((IntKind.i64.wrap (x2 - (1 : Int))).toNat) default).Place).Y).bits) : C) = (.flt .f32 (((a1.getD ((IntKind.i64.wrap (x2 - (1 : Int))).toNat) default).Place).Y).bits)) ∧ (((.flt .f32 (((a1.getD ((IntKind.i64.wrap (x2 - (1 : Int))).toNat) default).Place).Z).bits) : C) = (.flt .f32 (((a1.getD ((IntKind.i64.wrap (x2 - (1 : Int))).toNat) default).Place).Z).bits)) ∧ Tt) ∧ Tt) ∧ CallOK Try.prog 150 [.agg (cs_RootKey (a1.getD ((IntKind.i64.wrap (x2 - (1 : Int))).toNat) default))] [.one (.int .i64 v16)]) ∧ Tt ∧ T2 ((Tt ∧ (v16 == a3) = true) ∧ T4 Tt)))) ∧ (Tt)) 21 [.no, .no, .no, .no, .dec false, .no, .no, .no, .no, .no, .no, .no, .call [.agg (cs_RootKey (a1.getD ((IntKind.i64.wrap (x2 - (1 : Int))).toNat) default))] [.one (.int .i64 v16)] [[.view]], .no, .no, .no, .dec true] [1, 2, 3, 4, 8, 9, 40] [1, 2] ⟨⟨tr, tr, tr, tr, ⟨tr, b14⟩, tr, tr, tr, tr, tr, c15, tr, ⟨⟨⟨rfl, rfl, rfl, rfl, tr⟩, tr⟩, ok_impl_rootTrack_1 K (a1.getD ((IntKind.i64.wrap (x2 - (1 : Int))).toNat) default) v16 e17⟩, tr, tr, tr, ⟨tr, b18⟩, tr, tr, tr, tr, tr⟩, tr⟩ ⟨rfl, rfl⟩
          · replace e20 := some_eq e20
            subst e20
            exact AW.dA ⟨[(1, (vc (sl 4 cs_RootKey a1))), (2, (vc (.int .i64 a2))), (3, (vc (.int .i64 a3))), (4, (vp 1 0)), (8, (vp 2 0)), (9, (vc (.int .i64 x2))), (40, (vc (.bool (a2 == (0 : Int)))))], [(1, (.box [(.c (.fn 150 0 fun _ => .nilptr)), (.c (.fn 151 0 fun _ => .nilptr)), (.c (.fn 152 0 fun _ => .nilptr))])), (2, (.box [(.c (.int .i64 (0 : Int))), (.c (.flt .f32 (default : F32).bits)), (.c (.flt .f32 (default : F32).bits)), (.c (.flt .f32 (default : F32).bits))]))]⟩ ((T4 ((Tt ∧ (x2 == (a1.length : Int)) = false) ∧ Tt ∧ T4 ((0 ≤ (IntKind.i64.wrap (x2 - (1 : Int))) ∧ (IntKind.i64.wrap (x2 - (1 : Int))) < (a1.length : Int)) ∧ Tt ∧ ((((((.int .i64 ((a1.getD ((IntKind.i64.wrap (x2 - (1 : Int))).toNat) default).At)) : C) = (.int .i64 ((a1.getD ((IntKind.i64.wrap (x2 - (1 : Int))).toNat) default).At))) ∧ (((.flt .f32 (((a1.getD ((IntKind.i64.wrap (x2 - (1 : Int))).toNat) default).Place).X).bits) : C) = (.flt .f32 (((a1.getD ((IntKind.i64.wrap (x2 - (1 : Int))).toNat) default).Place).X).bits)) ∧ (((.flt .f32 (((a1.getD ((IntKind.i64.wrap (x2 - (1 : Int))).toNat) default).Place).Y).bits) : C) = (.flt .f32 (((a1.getD ((IntKind.i64.wrap (x2 - (1 : Int))).toNat) default).Place).Y).bits)) ∧ (((.flt .f32 (((a1.getD ((IntKind.i64.wrap (x2 - (1 : Int))).toNat) default).Place).Z).bits) : C) = (.flt .f32 (((a1.getD ((IntKind.i64.wrap (x2 - (1 : Int))).toNat) default).Place).Z).bits)) ∧ Tt) ∧ Tt) ∧ CallOK Try.prog 150 [.agg (cs_RootKey (a1.getD ((IntKind.i64.wrap (x2 - (1 : Int))).toNat) default))] [.one (.int .i64 v16)]) ∧ Tt ∧ T2 ((Tt ∧ (v16 == a3) = false) ∧ T4 Tt)))) ∧ (Tt)) 21 [.no, .no, .no, .no, .dec false, .no, .no, .no, .no, .no, .no, .no, .call [.agg (cs_RootKey (a1.getD ((IntKind.i64.wrap (x2 - (1 : Int))).toNat) default))] [.one (.int .i64 v16)] [[.view]], .no, .no, .no, .dec false] [1, 2, 3, 4, 8, 9, 40] [1, 2] ⟨⟨tr, tr, tr, tr, ⟨tr, b14⟩, tr, tr, tr, tr, tr, c15, tr, ⟨⟨⟨rfl, rfl, rfl, rfl, tr⟩, tr⟩, ok_impl_rootTrack_1 K (a1.getD ((IntKind.i64.wrap (x2 - (1 : Int))).toNat) default) v16 e17⟩, tr, tr, tr, ⟨tr, b18⟩, tr, tr, tr, tr, tr⟩, tr⟩ ⟨rfl, rfl⟩
      refine thenQ_normal ?_
      rcases ite2_cases h with ⟨b21, h⟩ | ⟨b21, h⟩
      · refine AW.cond_t rfl b21 ?_
        refine AW.seq ?_
        obtain ⟨c22, h⟩ := chk_some h
        obtain ⟨v23, e24, h⟩ := bind_some h
        refine AW.dA ⟨[(8, (vp 2 0))], [(2, (.box [(.c (.int .i64 v23.At)), (.c (.flt .f32 v23.Place.X.bits)), (.c (.flt .f32 v23.Place.Y.bits)), (.c (.flt .f32 v23.Place.Z.bits))]))]⟩ ((Tt ∧ T4 ((0 ≤ (IntKind.i64.wrap (x2 - (1 : Int))) ∧ (IntKind.i64.wrap (x2 - (1 : Int))) < (a1.length : Int)) ∧ T2 (((((((.int .i64 ((a1.getD ((IntKind.i64.wrap (x2 - (1 : Int))).toNat) default).At)) : C) = (.int .i64 ((a1.getD ((IntKind.i64.wrap (x2 - (1 : Int))).toNat) default).At))) ∧ (((.flt .f32 (((a1.getD ((IntKind.i64.wrap (x2 - (1 : Int))).toNat) default).Place).X).bits) : C) = (.flt .f32 (((a1.getD ((IntKind.i64.wrap (x2 - (1 : Int))).toNat) default).Place).X).bits)) ∧ (((.flt .f32 (((a1.getD ((IntKind.i64.wrap (x2 - (1 : Int))).toNat) default).Place).Y).bits) : C) = (.flt .f32 (((a1.getD ((IntKind.i64.wrap (x2 - (1 : Int))).toNat) default).Place).Y).bits)) ∧ (((.flt .f32 (((a1.getD ((IntKind.i64.wrap (x2 - (1 : Int))).toNat) default).Place).Z).bits) : C) = (.flt .f32 (((a1.getD ((IntKind.i64.wrap (x2 - (1 : Int))).toNat) default).Place).Z).bits)) ∧ Tt) ∧ (Eqc (.int .i64 a3)) ∧ Tt) ∧ CallOK Try.prog 151 [.agg (cs_RootKey (a1.getD ((IntKind.i64.wrap (x2 - (1 : Int))).toNat) default)), .one (.int .i64 a3)] [.agg (cs_RootKey v23)]) ∧ Tt))) ∧ (Tt ∧ Tt)) 9 [.no, .no, .no, .no, .no, .no, .no, .no, .call [.agg (cs_RootKey (a1.getD ((IntKind.i64.wrap (x2 - (1 : Int))).toNat) default)), .one (.int .i64 a3)] [.agg (cs_RootKey v23)] [[.view, .view, .view, .view]]] [8] [2] ⟨⟨tr, tr, tr, tr, tr, c22, tr, tr, ⟨⟨⟨rfl, rfl, rfl, rfl, tr⟩, rfl, tr⟩, ok_impl_rootTrack_2 K (a1.getD ((IntKind.i64.wrap (x2 - (1 : Int))).toNat) default) a3 v23 e24⟩, tr⟩, ⟨tr, tr⟩⟩ ?_
        refine thenQ_normal ?_
        refine AW.ret ?_
        refine blockQ_ret ?_
        refine thenQ_ret ?_
        replace h := some_eq h
        subst h
        exact ⟨.inr rfl, retOK_of [(.agg [(.c (.int .i64 v23.At)), (.c (.flt .f32 v23.Place.X.bits)), (.c (.flt .f32 v23.Place.Y.bits)), (.c (.flt .f32 v23.Place.Z.bits))])] (by kernel_rfl) ⟨⟨⟨rfl, tr⟩, ⟨rfl, tr⟩, ⟨rfl, tr⟩, ⟨rfl, tr⟩, tr⟩, tr⟩ (of_decide_eq_true (by kernel_rfl))⟩
      · refine AW.cond_f rfl b21 ?_
        refine AW.skip ?_
        refine blockQ_normal ?_
        refine thenQ_normal ?_
        refine AW.seq ?_
        obtain ⟨c25, h⟩ := chk_some h
        obtain ⟨c26, h⟩ := chk_some h
        refine AW.firstA (by kernel_rfl) [0, 1, 2, 5, 6] [.no, .no, .no, .no, .no, .no, .no, .no, .no, .box 3, .box 4] [2, 3, 4, 8, 10, 11] [1, 2, 3, 4] (s' := ⟨[(2, (vc (.int .i64 a2))), (3, (vc (.int .i64 a3))), (4, (vp 1 0)), (8, (vp 2 0)), (10, (vp 3 0)), (11, (vp 4 0))], [(1, (.box [(.c (.fn 150 0 fun _ => .nilptr)), (.c (.fn 151 0 fun _ => .nilptr)), (.c (.fn 152 0 fun _ => .nilptr))])), (2, (.box [(.c (.int .i64 (0 : Int))), (.c (.flt .f32 (default : F32).bits)), (.c (.flt .f32 (default : F32).bits)), (.c (.flt .f32 (default : F32).bits))])), (3, (.box [(.c (.int .i64 ((a1.getD ((IntKind.i64.wrap (x2 - (1 : Int))).toNat) default).At))), (.c (.flt .f32 (((a1.getD ((IntKind.i64.wrap (x2 - (1 : Int))).toNat) default).Place).X).bits)), (.c (.flt .f32 (((a1.getD ((IntKind.i64.wrap (x2 - (1 : Int))).toNat) default).Place).Y).bits)), (.c (.flt .f32 (((a1.getD ((IntKind.i64.wrap (x2 - (1 : Int))).toNat) default).Place).Z).bits))])), (4, (.box [(.c (.int .i64 ((a1.getD x2.toNat default).At))), (.c (.flt .f32 (((a1.getD x2.toNat default).Place).X).bits)), (.c (.flt .f32 (((a1.getD x2.toNat default).Place).Y).bits)), (.c (.flt .f32 (((a1.getD x2.toNat default).Place).Z).bits))]))]⟩) (ob := ((fun (E O3 O7 : Prop) => ((O3 ∧ ((Tt ∧ ((O7 ∧ ((Tt ∧ ((Tt ∧ (Tt ∧ (Tt ∧ (Tt ∧ Tt)))) ∧ (Tt ∧ (Tt ∧ (Tt ∧ (Tt ∧ Tt)))) ∧ E)) ∧ ((Tt ∧ ((Tt ∧ (Tt ∧ (Tt ∧ (Tt ∧ Tt)))) ∧ (Tt ∧ ((Tt ∧ (Tt ∧ (Tt ∧ Tt))) ∧ (Tt ∧ (Tt ∧ (Tt ∧ Tt))) ∧ E)) ∧ E)) ∧ (Tt ∧ ((Tt ∧ (Tt ∧ (Tt ∧ (Tt ∧ Tt)))) ∧ (Tt ∧ ((Tt ∧ (Tt ∧ (Tt ∧ Tt))) ∧ (Tt ∧ (Tt ∧ (Tt ∧ Tt))) ∧ E)) ∧ E)) ∧ E) ∧ E)) ∧ ((Tt ∧ ((O7 ∧ ((Tt ∧ (Tt ∧ (Tt ∧ (Tt ∧ Tt)))) ∧ (Tt ∧ ((Tt ∧ (Tt ∧ (Tt ∧ Tt))) ∧ (Tt ∧ (Tt ∧ (Tt ∧ Tt))) ∧ E)) ∧ E)) ∧ (Tt ∧ ((O7 ∧ ((Tt ∧ (Tt ∧ (Tt ∧ Tt))) ∧ (Tt ∧ (Tt ∧ (Tt ∧ Tt))) ∧ E)) ∧ (Tt ∧ (O7 ∧ (Tt ∧ (Tt ∧ Tt)))) ∧ E)) ∧ E)) ∧ (Tt ∧ ((O7 ∧ ((Tt ∧ (Tt ∧ (Tt ∧ (Tt ∧ Tt)))) ∧ (Tt ∧ ((Tt ∧ (Tt ∧ (Tt ∧ Tt))) ∧ (Tt ∧ (Tt ∧ (Tt ∧ Tt))) ∧ E)) ∧ E)) ∧ (Tt ∧ ((O7 ∧ ((Tt ∧ (Tt ∧ (Tt ∧ Tt))) ∧ (Tt ∧ (Tt ∧ (Tt ∧ Tt))) ∧ E)) ∧ (Tt ∧ (O7 ∧ (Tt ∧ (Tt ∧ Tt)))) ∧ E)) ∧ E)) ∧ E) ∧ E)) ∧ ((O7 ∧ ((Tt ∧ ((Tt ∧ ((Tt ∧ (Tt ∧ (Tt ∧ (Tt ∧ Tt)))) ∧ (Tt ∧ (Tt ∧ (Tt ∧ (Tt ∧ Tt)))) ∧ E)) ∧ ((Tt ∧ ((Tt ∧ (Tt ∧ (Tt ∧ (Tt ∧ Tt)))) ∧ (Tt ∧ ((Tt ∧ (Tt ∧ (Tt ∧ Tt))) ∧ (Tt ∧ (Tt ∧ (Tt ∧ Tt))) ∧ E)) ∧ E)) ∧ (Tt ∧ ((Tt ∧ (Tt ∧ (Tt ∧ (Tt ∧ Tt)))) ∧ (Tt ∧ ((Tt ∧ (Tt ∧ (Tt ∧ Tt))) ∧ (Tt ∧ (Tt ∧ (Tt ∧ Tt))) ∧ E)) ∧ E)) ∧ E) ∧ E)) ∧ ((Tt ∧ ((Tt ∧ ((Tt ∧ (Tt ∧ (Tt ∧ (Tt ∧ Tt)))) ∧ (Tt ∧ (Tt ∧ (Tt ∧ (Tt ∧ Tt)))) ∧ E)) ∧ ((Tt ∧ ((Tt ∧ (Tt ∧ (Tt ∧ (Tt ∧ Tt)))) ∧ (Tt ∧ (Tt ∧ (Tt ∧ (Tt ∧ Tt)))) ∧ E)) ∧ (Tt ∧ ((Tt ∧ (Tt ∧ (Tt ∧ (Tt ∧ Tt)))) ∧ (Tt ∧ (Tt ∧ (Tt ∧ (Tt ∧ Tt)))) ∧ E)) ∧ E) ∧ E)) ∧ ((Tt ∧ ((Tt ∧ ((Tt ∧ (Tt ∧ (Tt ∧ (Tt ∧ Tt)))) ∧ (Tt ∧ ((Tt ∧ (Tt ∧ (Tt ∧ Tt))) ∧ (Tt ∧ (Tt ∧ (Tt ∧ Tt))) ∧ E)) ∧ E)) ∧ ((Tt ∧ ((Tt ∧ (Tt ∧ (Tt ∧ (Tt ∧ Tt)))) ∧ (Tt ∧ (Tt ∧ (Tt ∧ (Tt ∧ Tt)))) ∧ E)) ∧ (Tt ∧ ((Tt ∧ ((Tt ∧ (Tt ∧ (Tt ∧ Tt))) ∧ (Tt ∧ (Tt ∧ (Tt ∧ Tt))) ∧ E)) ∧ (Tt ∧ (Tt ∧ (Tt ∧ (Tt ∧ Tt)))) ∧ E)) ∧ E) ∧ E)) ∧ (Tt ∧ ((Tt ∧ ((Tt ∧ (Tt ∧ (Tt ∧ (Tt ∧ Tt)))) ∧ (Tt ∧ ((Tt ∧ (Tt ∧ (Tt ∧ Tt))) ∧ (Tt ∧ (Tt ∧ (Tt ∧ Tt))) ∧ E)) ∧ E)) ∧ ((Tt ∧ ((Tt ∧ (Tt ∧ (Tt ∧ (Tt ∧ Tt)))) ∧ (Tt ∧ (Tt ∧ (Tt ∧ (Tt ∧ Tt)))) ∧ E)) ∧ (Tt ∧ ((Tt ∧ ((Tt ∧ (Tt ∧ (Tt ∧ Tt))) ∧ (Tt ∧ (Tt ∧ (Tt ∧ Tt))) ∧ E)) ∧ (Tt ∧ (Tt ∧ (Tt ∧ (Tt ∧ Tt)))) ∧ E)) ∧ E) ∧ E)) ∧ E) ∧ E) ∧ E)) ∧ ((Tt ∧ ((Tt ∧ ((O7 ∧ ((Tt ∧ (Tt ∧ (Tt ∧ (Tt ∧ Tt)))) ∧ (Tt ∧ ((Tt ∧ (Tt ∧ (Tt ∧ Tt))) ∧ (Tt ∧ (Tt ∧ (Tt ∧ Tt))) ∧ E)) ∧ E)) ∧ (Tt ∧ ((O7 ∧ ((Tt ∧ (Tt ∧ (Tt ∧ Tt))) ∧ (Tt ∧ (Tt ∧ (Tt ∧ Tt))) ∧ E)) ∧ (Tt ∧ (O7 ∧ (Tt ∧ (Tt ∧ Tt)))) ∧ E)) ∧ E)) ∧ ((O7 ∧ ((Tt ∧ ((Tt ∧ (Tt ∧ (Tt ∧ (Tt ∧ Tt)))) ∧ (Tt ∧ ((Tt ∧ (Tt ∧ (Tt ∧ Tt))) ∧ (Tt ∧ (Tt ∧ (Tt ∧ Tt))) ∧ E)) ∧ E)) ∧ ((Tt ∧ ((Tt ∧ (Tt ∧ (Tt ∧ (Tt ∧ Tt)))) ∧ (Tt ∧ (Tt ∧ (Tt ∧ (Tt ∧ Tt)))) ∧ E)) ∧ (Tt ∧ ((Tt ∧ ((Tt ∧ (Tt ∧ (Tt ∧ Tt))) ∧ (Tt ∧ (Tt ∧ (Tt ∧ Tt))) ∧ E)) ∧ (Tt ∧ (Tt ∧ (Tt ∧ (Tt ∧ Tt)))) ∧ E)) ∧ E) ∧ E)) ∧ (Tt ∧ ((Tt ∧ ((O7 ∧ ((Tt ∧ (Tt ∧ (Tt ∧ Tt))) ∧ (Tt ∧ (Tt ∧ (Tt ∧ Tt))) ∧ E)) ∧ (Tt ∧ (O7 ∧ (Tt ∧ (Tt ∧ Tt)))) ∧ E)) ∧ (O7 ∧ ((Tt ∧ ((Tt ∧ (Tt ∧ (Tt ∧ Tt))) ∧ (Tt ∧ (Tt ∧ (Tt ∧ Tt))) ∧ E)) ∧ (Tt ∧ (Tt ∧ (Tt ∧ (Tt ∧ Tt)))) ∧ E)) ∧ E)) ∧ E) ∧ E)) ∧ (Tt ∧ ((Tt ∧ ((O7 ∧ ((Tt ∧ (Tt ∧ (Tt ∧ (Tt ∧ Tt)))) ∧ (Tt ∧ ((Tt ∧ (Tt ∧ (Tt ∧ Tt))) ∧ (Tt ∧ (Tt ∧ (Tt ∧ Tt))) ∧ E)) ∧ E)) ∧ (Tt ∧ ((O7 ∧ ((Tt ∧ (Tt ∧ (Tt ∧ Tt))) ∧ (Tt ∧ (Tt ∧ (Tt ∧ Tt))) ∧ E)) ∧ (Tt ∧ (O7 ∧ (Tt ∧ (Tt ∧ Tt)))) ∧ E)) ∧ E)) ∧ ((O7 ∧ ((Tt ∧ ((Tt ∧ (Tt ∧ (Tt ∧ (Tt ∧ Tt)))) ∧ (Tt ∧ ((Tt ∧ (Tt ∧ (Tt ∧ Tt))) ∧ (Tt ∧ (Tt ∧ (Tt ∧ Tt))) ∧ E)) ∧ E)) ∧ ((Tt ∧ ((Tt ∧ (Tt ∧ (Tt ∧ (Tt ∧ Tt)))) ∧ (Tt ∧ (Tt ∧ (Tt ∧ (Tt ∧ Tt)))) ∧ E)) ∧ (Tt ∧ ((Tt ∧ ((Tt ∧ (Tt ∧ (Tt ∧ Tt))) ∧ (Tt ∧ (Tt ∧ (Tt ∧ Tt))) ∧ E)) ∧ (Tt ∧ (Tt ∧ (Tt ∧ (Tt ∧ Tt)))) ∧ E)) ∧ E) ∧ E)) ∧ (Tt ∧ ((Tt ∧ ((O7 ∧ ((Tt ∧ (Tt ∧ (Tt ∧ Tt))) ∧ (Tt ∧ (Tt ∧ (Tt ∧ Tt))) ∧ E)) ∧ (Tt ∧ (O7 ∧ (Tt ∧ (Tt ∧ Tt)))) ∧ E)) ∧ (O7 ∧ ((Tt ∧ ((Tt ∧ (Tt ∧ (Tt ∧ Tt))) ∧ (Tt ∧ (Tt ∧ (Tt ∧ Tt))) ∧ E)) ∧ (Tt ∧ (Tt ∧ (Tt ∧ (Tt ∧ Tt)))) ∧ E)) ∧ E)) ∧ E) ∧ E)) ∧ E) ∧ E) ∧ E)) ∧ ((O7 ∧ ((O3 ∧ ((Tt ∧ ((Tt ∧ ((Tt ∧ (Tt ∧ (Tt ∧ (Tt ∧ Tt)))) ∧ (Tt ∧ (Tt ∧ (Tt ∧ (Tt ∧ Tt)))) ∧ E)) ∧ ((Tt ∧ ((Tt ∧ (Tt ∧ (Tt ∧ (Tt ∧ Tt)))) ∧ (Tt ∧ ((Tt ∧ (Tt ∧ (Tt ∧ Tt))) ∧ (Tt ∧ (Tt ∧ (Tt ∧ Tt))) ∧ E)) ∧ E)) ∧ (Tt ∧ ((Tt ∧ (Tt ∧ (Tt ∧ (Tt ∧ Tt)))) ∧ (Tt ∧ ((Tt ∧ (Tt ∧ (Tt ∧ Tt))) ∧ (Tt ∧ (Tt ∧ (Tt ∧ Tt))) ∧ E)) ∧ E)) ∧ E) ∧ E)) ∧ ((Tt ∧ ((Tt ∧ ((Tt ∧ (Tt ∧ (Tt ∧ (Tt ∧ Tt)))) ∧ (Tt ∧ (Tt ∧ (Tt ∧ (Tt ∧ Tt)))) ∧ E)) ∧ ((Tt ∧ ((Tt ∧ (Tt ∧ (Tt ∧ (Tt ∧ Tt)))) ∧ (Tt ∧ (Tt ∧ (Tt ∧ (Tt ∧ Tt)))) ∧ E)) ∧ (Tt ∧ ((Tt ∧ (Tt ∧ (Tt ∧ (Tt ∧ Tt)))) ∧ (Tt ∧ (Tt ∧ (Tt ∧ (Tt ∧ Tt)))) ∧ E)) ∧ E) ∧ E)) ∧ ((Tt ∧ ((Tt ∧ ((Tt ∧ (Tt ∧ (Tt ∧ (Tt ∧ Tt)))) ∧ (Tt ∧ ((Tt ∧ (Tt ∧ (Tt ∧ Tt))) ∧ (Tt ∧ (Tt ∧ (Tt ∧ Tt))) ∧ E)) ∧ E)) ∧ ((Tt ∧ ((Tt ∧ (Tt ∧ (Tt ∧ (Tt ∧ Tt)))) ∧ (Tt ∧ (Tt ∧ (Tt ∧ (Tt ∧ Tt)))) ∧ E)) ∧ (Tt ∧ ((Tt ∧ ((Tt ∧ (Tt ∧ (Tt ∧ Tt))) ∧ (Tt ∧ (Tt ∧ (Tt ∧ Tt))) ∧ E)) ∧ (Tt ∧ (Tt ∧ (Tt ∧ (Tt ∧ Tt)))) ∧ E)) ∧ E) ∧ E)) ∧ (Tt ∧ ((Tt ∧ ((Tt ∧ (Tt ∧ (Tt ∧ (Tt ∧ Tt)))) ∧ (Tt ∧ ((Tt ∧ (Tt ∧ (Tt ∧ Tt))) ∧ (Tt ∧ (Tt ∧ (Tt ∧ Tt))) ∧ E)) ∧ E)) ∧ ((Tt ∧ ((Tt ∧ (Tt ∧ (Tt ∧ (Tt ∧ Tt)))) ∧ (Tt ∧ (Tt ∧ (Tt ∧ (Tt ∧ Tt)))) ∧ E)) ∧ (Tt ∧ ((Tt ∧ ((Tt ∧ (Tt ∧ (Tt ∧ Tt))) ∧ (Tt ∧ (Tt ∧ (Tt ∧ Tt))) ∧ E)) ∧ (Tt ∧ (Tt ∧ (Tt ∧ (Tt ∧ Tt)))) ∧ E)) ∧ E) ∧ E)) ∧ E) ∧ E) ∧ E)) ∧ ((Tt ∧ ((O3 ∧ ((Tt ∧ ((Tt ∧ (Tt ∧ (Tt ∧ (Tt ∧ Tt)))) ∧ (Tt ∧ (Tt ∧ (Tt ∧ (Tt ∧ Tt)))) ∧ E)) ∧ ((Tt ∧ ((Tt ∧ (Tt ∧ (Tt ∧ (Tt ∧ Tt)))) ∧ (Tt ∧ (Tt ∧ (Tt ∧ (Tt ∧ Tt)))) ∧ E)) ∧ (Tt ∧ ((Tt ∧ (Tt ∧ (Tt ∧ (Tt ∧ Tt)))) ∧ (Tt ∧ (Tt ∧ (Tt ∧ (Tt ∧ Tt)))) ∧ E)) ∧ E) ∧ E)) ∧ ((Tt ∧ ((O3 ∧ ((Tt ∧ (Tt ∧ (Tt ∧ (Tt ∧ Tt)))) ∧ (Tt ∧ (Tt ∧ (Tt ∧ (Tt ∧ Tt)))) ∧ E)) ∧ (Tt ∧ (O3 ∧ (Tt ∧ (Tt ∧ (Tt ∧ Tt))))) ∧ E)) ∧ (Tt ∧ ((O3 ∧ ((Tt ∧ (Tt ∧ (Tt ∧ (Tt ∧ Tt)))) ∧ (Tt ∧ (Tt ∧ (Tt ∧ (Tt ∧ Tt)))) ∧ E)) ∧ (Tt ∧ (O3 ∧ (Tt ∧ (Tt ∧ (Tt ∧ Tt))))) ∧ E)) ∧ E) ∧ E)) ∧ ((Tt ∧ ((O3 ∧ ((Tt ∧ ((Tt ∧ (Tt ∧ (Tt ∧ (Tt ∧ Tt)))) ∧ (Tt ∧ ((Tt ∧ (Tt ∧ (Tt ∧ Tt))) ∧ (Tt ∧ (Tt ∧ (Tt ∧ Tt))) ∧ E)) ∧ E)) ∧ ((Tt ∧ ((Tt ∧ (Tt ∧ (Tt ∧ (Tt ∧ Tt)))) ∧ (Tt ∧ (Tt ∧ (Tt ∧ (Tt ∧ Tt)))) ∧ E)) ∧ (Tt ∧ ((Tt ∧ ((Tt ∧ (Tt ∧ (Tt ∧ Tt))) ∧ (Tt ∧ (Tt ∧ (Tt ∧ Tt))) ∧ E)) ∧ (Tt ∧ (Tt ∧ (Tt ∧ (Tt ∧ Tt)))) ∧ E)) ∧ E) ∧ E)) ∧ ((Tt ∧ ((O3 ∧ ((Tt ∧ (Tt ∧ (Tt ∧ (Tt ∧ Tt)))) ∧ (Tt ∧ (Tt ∧ (Tt ∧ (Tt ∧ Tt)))) ∧ E)) ∧ (Tt ∧ (O3 ∧ (Tt ∧ (Tt ∧ (Tt ∧ Tt))))) ∧ E)) ∧ (Tt ∧ ((O3 ∧ ((Tt ∧ ((Tt ∧ (Tt ∧ (Tt ∧ Tt))) ∧ (Tt ∧ (Tt ∧ (Tt ∧ Tt))) ∧ E)) ∧ (Tt ∧ (Tt ∧ (Tt ∧ (Tt ∧ Tt)))) ∧ E)) ∧ (Tt ∧ (O3 ∧ (Tt ∧ (Tt ∧ (Tt ∧ Tt))))) ∧ E)) ∧ E) ∧ E)) ∧ (Tt ∧ ((O3 ∧ ((Tt ∧ ((Tt ∧ (Tt ∧ (Tt ∧ (Tt ∧ Tt)))) ∧ (Tt ∧ ((Tt ∧ (Tt ∧ (Tt ∧ Tt))) ∧ (Tt ∧ (Tt ∧ (Tt ∧ Tt))) ∧ E)) ∧ E)) ∧ ((Tt ∧ ((Tt ∧ (Tt ∧ (Tt ∧ (Tt ∧ Tt)))) ∧ (Tt ∧ (Tt ∧ (Tt ∧ (Tt ∧ Tt)))) ∧ E)) ∧ (Tt ∧ ((Tt ∧ ((Tt ∧ (Tt ∧ (Tt ∧ Tt))) ∧ (Tt ∧ (Tt ∧ (Tt ∧ Tt))) ∧ E)) ∧ (Tt ∧ (Tt ∧ (Tt ∧ (Tt ∧ Tt)))) ∧ E)) ∧ E) ∧ E)) ∧ ((Tt ∧ ((O3 ∧ ((Tt ∧ (Tt ∧ (Tt ∧ (Tt ∧ Tt)))) ∧ (Tt ∧ (Tt ∧ (Tt ∧ (Tt ∧ Tt)))) ∧ E)) ∧ (Tt ∧ (O3 ∧ (Tt ∧ (Tt ∧ (Tt ∧ Tt))))) ∧ E)) ∧ (Tt ∧ ((O3 ∧ ((Tt ∧ ((Tt ∧ (Tt ∧ (Tt ∧ Tt))) ∧ (Tt ∧ (Tt ∧ (Tt ∧ Tt))) ∧ E)) ∧ (Tt ∧ (Tt ∧ (Tt ∧ (Tt ∧ Tt)))) ∧ E)) ∧ (Tt ∧ (O3 ∧ (Tt ∧ (Tt ∧ (Tt ∧ Tt))))) ∧ E)) ∧ E) ∧ E)) ∧ E) ∧ E) ∧ E)) ∧ ((Tt ∧ ((O3 ∧ ((Tt ∧ ((O7 ∧ ((Tt ∧ (Tt ∧ (Tt ∧ (Tt ∧ Tt)))) ∧ (Tt ∧ ((Tt ∧ (Tt ∧ (Tt ∧ Tt))) ∧ (Tt ∧ (Tt ∧ (Tt ∧ Tt))) ∧ E)) ∧ E)) ∧ (Tt ∧ ((O7 ∧ ((Tt ∧ (Tt ∧ (Tt ∧ Tt))) ∧ (Tt ∧ (Tt ∧ (Tt ∧ Tt))) ∧ E)) ∧ (Tt ∧ (O7 ∧ (Tt ∧ (Tt ∧ Tt)))) ∧ E)) ∧ E)) ∧ ((O7 ∧ ((Tt ∧ ((Tt ∧ (Tt ∧ (Tt ∧ (Tt ∧ Tt)))) ∧ (Tt ∧ ((Tt ∧ (Tt ∧ (Tt ∧ Tt))) ∧ (Tt ∧ (Tt ∧ (Tt ∧ Tt))) ∧ E)) ∧ E)) ∧ ((Tt ∧ ((Tt ∧ (Tt ∧ (Tt ∧ (Tt ∧ Tt)))) ∧ (Tt ∧ (Tt ∧ (Tt ∧ (Tt ∧ Tt)))) ∧ E)) ∧ (Tt ∧ ((Tt ∧ ((Tt ∧ (Tt ∧ (Tt ∧ Tt))) ∧ (Tt ∧ (Tt ∧ (Tt ∧ Tt))) ∧ E)) ∧ (Tt ∧ (Tt ∧ (Tt ∧ (Tt ∧ Tt)))) ∧ E)) ∧ E) ∧ E)) ∧ (Tt ∧ ((Tt ∧ ((O7 ∧ ((Tt ∧ (Tt ∧ (Tt ∧ Tt))) ∧ (Tt ∧ (Tt ∧ (Tt ∧ Tt))) ∧ E)) ∧ (Tt ∧ (O7 ∧ (Tt ∧ (Tt ∧ Tt)))) ∧ E)) ∧ (O7 ∧ ((Tt ∧ ((Tt ∧ (Tt ∧ (Tt ∧ Tt))) ∧ (Tt ∧ (Tt ∧ (Tt ∧ Tt))) ∧ E)) ∧ (Tt ∧ (Tt ∧ (Tt ∧ (Tt ∧ Tt)))) ∧ E)) ∧ E)) ∧ E) ∧ E)) ∧ ((O7 ∧ ((O3 ∧ ((Tt ∧ ((Tt ∧ (Tt ∧ (Tt ∧ (Tt ∧ Tt)))) ∧ (Tt ∧ ((Tt ∧ (Tt ∧ (Tt ∧ Tt))) ∧ (Tt ∧ (Tt ∧ (Tt ∧ Tt))) ∧ E)) ∧ E)) ∧ ((Tt ∧ ((Tt ∧ (Tt ∧ (Tt ∧ (Tt ∧ Tt)))) ∧ (Tt ∧ (Tt ∧ (Tt ∧ (Tt ∧ Tt)))) ∧ E)) ∧ (Tt ∧ ((Tt ∧ ((Tt ∧ (Tt ∧ (Tt ∧ Tt))) ∧ (Tt ∧ (Tt ∧ (Tt ∧ Tt))) ∧ E)) ∧ (Tt ∧ (Tt ∧ (Tt ∧ (Tt ∧ Tt)))) ∧ E)) ∧ E) ∧ E)) ∧ ((Tt ∧ ((O3 ∧ ((Tt ∧ (Tt ∧ (Tt ∧ (Tt ∧ Tt)))) ∧ (Tt ∧ (Tt ∧ (Tt ∧ (Tt ∧ Tt)))) ∧ E)) ∧ (Tt ∧ (O3 ∧ (Tt ∧ (Tt ∧ (Tt ∧ Tt))))) ∧ E)) ∧ (Tt ∧ ((O3 ∧ ((Tt ∧ ((Tt ∧ (Tt ∧ (Tt ∧ Tt))) ∧ (Tt ∧ (Tt ∧ (Tt ∧ Tt))) ∧ E)) ∧ (Tt ∧ (Tt ∧ (Tt ∧ (Tt ∧ Tt)))) ∧ E)) ∧ (Tt ∧ (O3 ∧ (Tt ∧ (Tt ∧ (Tt ∧ Tt))))) ∧ E)) ∧ E) ∧ E)) ∧ (Tt ∧ ((O3 ∧ ((Tt ∧ ((O7 ∧ ((Tt ∧ (Tt ∧ (Tt ∧ Tt))) ∧ (Tt ∧ (Tt ∧ (Tt ∧ Tt))) ∧ E)) ∧ (Tt ∧ (O7 ∧ (Tt ∧ (Tt ∧ Tt)))) ∧ E)) ∧ (O7 ∧ ((Tt ∧ ((Tt ∧ (Tt ∧ (Tt ∧ Tt))) ∧ (Tt ∧ (Tt ∧ (Tt ∧ Tt))) ∧ E)) ∧ (Tt ∧ (Tt ∧ (Tt ∧ (Tt ∧ Tt)))) ∧ E)) ∧ E)) ∧ (O7 ∧ ((O3 ∧ ((Tt ∧ ((Tt ∧ (Tt ∧ (Tt ∧ Tt))) ∧ (Tt ∧ (Tt ∧ (Tt ∧ Tt))) ∧ E)) ∧ (Tt ∧ (Tt ∧ (Tt ∧ (Tt ∧ Tt)))) ∧ E)) ∧ (Tt ∧ (O3 ∧ (Tt ∧ (Tt ∧ (Tt ∧ Tt))))) ∧ E)) ∧ E)) ∧ E) ∧ E)) ∧ (Tt ∧ ((O3 ∧ ((Tt ∧ ((O7 ∧ ((Tt ∧ (Tt ∧ (Tt ∧ (Tt ∧ Tt)))) ∧ (Tt ∧ ((Tt ∧ (Tt ∧ (Tt ∧ Tt))) ∧ (Tt ∧ (Tt ∧ (Tt ∧ Tt))) ∧ E)) ∧ E)) ∧ (Tt ∧ ((O7 ∧ ((Tt ∧ (Tt ∧ (Tt ∧ Tt))) ∧ (Tt ∧ (Tt ∧ (Tt ∧ Tt))) ∧ E)) ∧ (Tt ∧ (O7 ∧ (Tt ∧ (Tt ∧ Tt)))) ∧ E)) ∧ E)) ∧ ((O7 ∧ ((Tt ∧ ((Tt ∧ (Tt ∧ (Tt ∧ (Tt ∧ Tt)))) ∧ (Tt ∧ ((Tt ∧ (Tt ∧ (Tt ∧ Tt))) ∧ (Tt ∧ (Tt ∧ (Tt ∧ Tt))) ∧ E)) ∧ E)) ∧ ((Tt ∧ ((Tt ∧ (Tt ∧ (Tt ∧ (Tt ∧ Tt)))) ∧ (Tt ∧ (Tt ∧ (Tt ∧ (Tt ∧ Tt)))) ∧ E)) ∧ (Tt ∧ ((Tt ∧ ((Tt ∧ (Tt ∧ (Tt ∧ Tt))) ∧ (Tt ∧ (Tt ∧ (Tt ∧ Tt))) ∧ E)) ∧ (Tt ∧ (Tt ∧ (Tt ∧ (Tt ∧ Tt)))) ∧ E)) ∧ E) ∧ E)) ∧ (Tt ∧ ((Tt ∧ ((O7 ∧ ((Tt ∧ (Tt ∧ (Tt ∧ Tt))) ∧ (Tt ∧ (Tt ∧ (Tt ∧ Tt))) ∧ E)) ∧ (Tt ∧ (O7 ∧ (Tt ∧ (Tt ∧ Tt)))) ∧ E)) ∧ (O7 ∧ ((Tt ∧ ((Tt ∧ (Tt ∧ (Tt ∧ Tt))) ∧ (Tt ∧ (Tt ∧ (Tt ∧ Tt))) ∧ E)) ∧ (Tt ∧ (Tt ∧ (Tt ∧ (Tt ∧ Tt)))) ∧ E)) ∧ E)) ∧ E) ∧ E)) ∧ ((O7 ∧ ((O3 ∧ ((Tt ∧ ((Tt ∧ (Tt ∧ (Tt ∧ (Tt ∧ Tt)))) ∧ (Tt ∧ ((Tt ∧ (Tt ∧ (Tt ∧ Tt))) ∧ (Tt ∧ (Tt ∧ (Tt ∧ Tt))) ∧ E)) ∧ E)) ∧ ((Tt ∧ ((Tt ∧ (Tt ∧ (Tt ∧ (Tt ∧ Tt)))) ∧ (Tt ∧ (Tt ∧ (Tt ∧ (Tt ∧ Tt)))) ∧ E)) ∧ (Tt ∧ ((Tt ∧ ((Tt ∧ (Tt ∧ (Tt ∧ Tt))) ∧ (Tt ∧ (Tt ∧ (Tt ∧ Tt))) ∧ E)) ∧ (Tt ∧ (Tt ∧ (Tt ∧ (Tt ∧ Tt)))) ∧ E)) ∧ E) ∧ E)) ∧ ((Tt ∧ ((O3 ∧ ((Tt ∧ (Tt ∧ (Tt ∧ (Tt ∧ Tt)))) ∧ (Tt ∧ (Tt ∧ (Tt ∧ (Tt ∧ Tt)))) ∧ E)) ∧ (Tt ∧ (O3 ∧ (Tt ∧ (Tt ∧ (Tt ∧ Tt))))) ∧ E)) ∧ (Tt ∧ ((O3 ∧ ((Tt ∧ ((Tt ∧ (Tt ∧ (Tt ∧ Tt))) ∧ (Tt ∧ (Tt ∧ (Tt ∧ Tt))) ∧ E)) ∧ (Tt ∧ (Tt ∧ (Tt ∧ (Tt ∧ Tt)))) ∧ E)) ∧ (Tt ∧ (O3 ∧ (Tt ∧ (Tt ∧ (Tt ∧ Tt))))) ∧ E)) ∧ E) ∧ E)) ∧ (Tt ∧ ((O3 ∧ ((Tt ∧ ((O7 ∧ ((Tt ∧ (Tt ∧ (Tt ∧ Tt))) ∧ (Tt ∧ (Tt ∧ (Tt ∧ Tt))) ∧ E)) ∧ (Tt ∧ (O7 ∧ (Tt ∧ (Tt ∧ Tt)))) ∧ E)) ∧ (O7 ∧ ((Tt ∧ ((Tt ∧ (Tt ∧ (Tt ∧ Tt))) ∧ (Tt ∧ (Tt ∧ (Tt ∧ Tt))) ∧ E)) ∧ (Tt ∧ (Tt ∧ (Tt ∧ (Tt ∧ Tt)))) ∧ E)) ∧ E)) ∧ (O7 ∧ ((O3 ∧ ((Tt ∧ ((Tt ∧ (Tt ∧ (Tt ∧ Tt))) ∧ (Tt ∧ (Tt ∧ (Tt ∧ Tt))) ∧ E)) ∧ (Tt ∧ (Tt ∧ (Tt ∧ (Tt ∧ Tt)))) ∧ E)) ∧ (Tt ∧ (O3 ∧ (Tt ∧ (Tt ∧ (Tt ∧ Tt))))) ∧ E)) ∧ E)) ∧ E) ∧ E)) ∧ E) ∧ E) ∧ E)) ((⟨[(2, (vc (.int .i64 a2))), (3, (vc (.int .i64 a3))), (4, (vp 1 0)), (8, (vp 2 0)), (10, (vp 3 0)), (11, (vp 4 0))], [(1, (.box [(.c (.fn 150 0 fun _ => .nilptr)), (.c (.fn 151 0 fun _ => .nilptr)), (.c (.fn 152 0 fun _ => .nilptr))])), (2, (.box [(.c (.int .i64 (0 : Int))), (.c (.flt .f32 (default : F32).bits)), (.c (.flt .f32 (default : F32).bits)), (.c (.flt .f32 (default : F32).bits))])), (3, (.box [(.c (.int .i64 ((a1.getD ((IntKind.i64.wrap (x2 - (1 : Int))).toNat) default).At))), (.c (.flt .f32 (((a1.getD ((IntKind.i64.wrap (x2 - (1 : Int))).toNat) default).Place).X).bits)), (.c (.flt .f32 (((a1.getD ((IntKind.i64.wrap (x2 - (1 : Int))).toNat) default).Place).Y).bits)), (.c (.flt .f32 (((a1.getD ((IntKind.i64.wrap (x2 - (1 : Int))).toNat) default).Place).Z).bits))])), (4, (.box [(.c (.int .i64 ((a1.getD x2.toNat default).At))), (.c (.flt .f32 (((a1.getD x2.toNat default).Place).X).bits)), (.c (.flt .f32 (((a1.getD x2.toNat default).Place).Y).bits)), (.c (.flt .f32 (((a1.getD x2.toNat default).Place).Z).bits))]))]⟩ : St) = ⟨[(2, (vc (.int .i64 a2))), (3, (vc (.int .i64 a3))), (4, (vp 1 0)), (8, (vp 2 0)), (10, (vp 3 0)), (11, (vp 4 0))], [(1, (.box [(.c (.fn 150 0 fun _ => .nilptr)), (.c (.fn 151 0 fun _ => .nilptr)), (.c (.fn 152 0 fun _ => .nilptr))])), (2, (.box [(.c (.int .i64 (0 : Int))), (.c (.flt .f32 (default : F32).bits)), (.c (.flt .f32 (default : F32).bits)), (.c (.flt .f32 (default : F32).bits))])), (3, (.box [(.c (.int .i64 ((a1.getD ((IntKind.i64.wrap (x2 - (1 : Int))).toNat) default).At))), (.c (.flt .f32 (((a1.getD ((IntKind.i64.wrap (x2 - (1 : Int))).toNat) default).Place).X).bits)), (.c (.flt .f32 (((a1.getD ((IntKind.i64.wrap (x2 - (1 : Int))).toNat) default).Place).Y).bits)), (.c (.flt .f32 (((a1.getD ((IntKind.i64.wrap (x2 - (1 : Int))).toNat) default).Place).Z).bits))])), (4, (.box [(.c (.int .i64 ((a1.getD x2.toNat default).At))), (.c (.flt .f32 (((a1.getD x2.toNat default).Place).X).bits)), (.c (.flt .f32 (((a1.getD x2.toNat default).Place).Y).bits)), (.c (.flt .f32 (((a1.getD x2.toNat default).Place).Z).bits))]))]⟩) ((0 ≤ (IntKind.i64.wrap (x2 - (1 : Int))) ∧ (IntKind.i64.wrap (x2 - (1 : Int))) < (a1.length : Int))) ((0 ≤ x2 ∧ x2 < (a1.length : Int))))) (by kernel_rfl) ⟨⟨c25, ⟨⟨tr, ⟨⟨c26, ⟨⟨tr, ⟨⟨tr, ⟨tr, ⟨tr, ⟨tr, tr⟩⟩⟩⟩, ⟨tr, ⟨tr, ⟨tr, ⟨tr, tr⟩⟩⟩⟩, rfl⟩⟩, ⟨⟨tr, ⟨⟨tr, ⟨tr, ⟨tr, ⟨tr, tr⟩⟩⟩⟩, ⟨tr, ⟨⟨tr, ⟨tr, ⟨tr, tr⟩⟩⟩, ⟨tr, ⟨tr, ⟨tr, tr⟩⟩⟩, rfl⟩⟩, rfl⟩⟩, ⟨tr, ⟨⟨tr, ⟨tr, ⟨tr, ⟨tr, tr⟩⟩⟩⟩, ⟨tr, ⟨⟨tr, ⟨tr, ⟨tr, tr⟩⟩⟩, ⟨tr, ⟨tr, ⟨tr, tr⟩⟩⟩, rfl⟩⟩, rfl⟩⟩, rfl⟩, rfl⟩⟩, ⟨⟨tr, ⟨⟨c26, ⟨⟨tr, ⟨tr, ⟨tr, ⟨tr, tr⟩⟩⟩⟩, ⟨tr, ⟨⟨tr, ⟨tr, ⟨tr, tr⟩⟩⟩, ⟨tr, ⟨tr, ⟨tr, tr⟩⟩⟩, rfl⟩⟩, rfl⟩⟩, ⟨tr, ⟨⟨c26, ⟨⟨tr, ⟨tr, ⟨tr, tr⟩⟩⟩, ⟨tr, ⟨tr, ⟨tr, tr⟩⟩⟩, rfl⟩⟩, ⟨tr, ⟨c26, ⟨tr, ⟨tr, tr⟩⟩⟩⟩, rfl⟩⟩, rfl⟩⟩, ⟨tr, ⟨⟨c26, ⟨⟨tr, ⟨tr, ⟨tr, ⟨tr, tr⟩⟩⟩⟩, ⟨tr, ⟨⟨tr, ⟨tr, ⟨tr, tr⟩⟩⟩, ⟨tr, ⟨tr, ⟨tr, tr⟩⟩⟩, rfl⟩⟩, rfl⟩⟩, ⟨tr, ⟨⟨c26, ⟨⟨tr, ⟨tr, ⟨tr, tr⟩⟩⟩, ⟨tr, ⟨tr, ⟨tr, tr⟩⟩⟩, rfl⟩⟩, ⟨tr, ⟨c26, ⟨tr, ⟨tr, tr⟩⟩⟩⟩, rfl⟩⟩, rfl⟩⟩, rfl⟩, rfl⟩⟩, ⟨⟨c26, ⟨⟨tr, ⟨⟨tr, ⟨⟨tr, ⟨tr, ⟨tr, ⟨tr, tr⟩⟩⟩⟩, ⟨tr, ⟨tr, ⟨tr, ⟨tr, tr⟩⟩⟩⟩, rfl⟩⟩, ⟨⟨tr, ⟨⟨tr, ⟨tr, ⟨tr, ⟨tr, tr⟩⟩⟩⟩, ⟨tr, ⟨⟨tr, ⟨tr, ⟨tr, tr⟩⟩⟩, ⟨tr, ⟨tr, ⟨tr, tr⟩⟩⟩, rfl⟩⟩, rfl⟩⟩, ⟨tr, ⟨⟨tr, ⟨tr, ⟨tr, ⟨tr, tr⟩⟩⟩⟩, ⟨tr, ⟨⟨tr, ⟨tr, ⟨tr, tr⟩⟩⟩, ⟨tr, ⟨tr, ⟨tr, tr⟩⟩⟩, rfl⟩⟩, rfl⟩⟩, rfl⟩, rfl⟩⟩, ⟨⟨tr, ⟨⟨tr, ⟨⟨tr, ⟨tr, ⟨tr, ⟨tr, tr⟩⟩⟩⟩, ⟨tr, ⟨tr, ⟨tr, ⟨tr, tr⟩⟩⟩⟩, rfl⟩⟩, ⟨⟨tr, ⟨⟨tr, ⟨tr, ⟨tr, ⟨tr, tr⟩⟩⟩⟩, ⟨tr, ⟨tr, ⟨tr, ⟨tr, tr⟩⟩⟩⟩, rfl⟩⟩, ⟨tr, ⟨⟨tr, ⟨tr, ⟨tr, ⟨tr, tr⟩⟩⟩⟩, ⟨tr, ⟨tr, ⟨tr, ⟨tr, tr⟩⟩⟩⟩, rfl⟩⟩, rfl⟩, rfl⟩⟩, ⟨⟨tr, ⟨⟨tr, ⟨⟨tr, ⟨tr, ⟨tr, ⟨tr, tr⟩⟩⟩⟩, ⟨tr, ⟨⟨tr, ⟨tr, ⟨tr, tr⟩⟩⟩, ⟨tr, ⟨tr, ⟨tr, tr⟩⟩⟩, rfl⟩⟩, rfl⟩⟩, ⟨⟨tr, ⟨⟨tr, ⟨tr, ⟨tr, ⟨tr, tr⟩⟩⟩⟩, ⟨tr, ⟨tr, ⟨tr, ⟨tr, tr⟩⟩⟩⟩, rfl⟩⟩, ⟨tr, ⟨⟨tr, ⟨⟨tr, ⟨tr, ⟨tr, tr⟩⟩⟩, ⟨tr, ⟨tr, ⟨tr, tr⟩⟩⟩, rfl⟩⟩, ⟨tr, ⟨tr, ⟨tr, ⟨tr, tr⟩⟩⟩⟩, rfl⟩⟩, rfl⟩, rfl⟩⟩, ⟨tr, ⟨⟨tr, ⟨⟨tr, ⟨tr, ⟨tr, ⟨tr, tr⟩⟩⟩⟩, ⟨tr, ⟨⟨tr, ⟨tr, ⟨tr, tr⟩⟩⟩, ⟨tr, ⟨tr, ⟨tr, tr⟩⟩⟩, rfl⟩⟩, rfl⟩⟩, ⟨⟨tr, ⟨⟨tr, ⟨tr, ⟨tr, ⟨tr, tr⟩⟩⟩⟩, ⟨tr, ⟨tr, ⟨tr, ⟨tr, tr⟩⟩⟩⟩, rfl⟩⟩, ⟨tr, ⟨⟨tr, ⟨⟨tr, ⟨tr, ⟨tr, tr⟩⟩⟩, ⟨tr, ⟨tr, ⟨tr, tr⟩⟩⟩, rfl⟩⟩, ⟨tr, ⟨tr, ⟨tr, ⟨tr, tr⟩⟩⟩⟩, rfl⟩⟩, rfl⟩, rfl⟩⟩, rfl⟩, rfl⟩, rfl⟩⟩, ⟨⟨tr, ⟨⟨tr, ⟨⟨c26, ⟨⟨tr, ⟨tr, ⟨tr, ⟨tr, tr⟩⟩⟩⟩, ⟨tr, ⟨⟨tr, ⟨tr, ⟨tr, tr⟩⟩⟩, ⟨tr, ⟨tr, ⟨tr, tr⟩⟩⟩, rfl⟩⟩, rfl⟩⟩, ⟨tr, ⟨⟨c26, ⟨⟨tr, ⟨tr, ⟨tr, tr⟩⟩⟩, ⟨tr, ⟨tr, ⟨tr, tr⟩⟩⟩, rfl⟩⟩, ⟨tr, ⟨c26, ⟨tr, ⟨tr, tr⟩⟩⟩⟩, rfl⟩⟩, rfl⟩⟩, ⟨⟨c26, ⟨⟨tr, ⟨⟨tr, ⟨tr, ⟨tr, ⟨tr, tr⟩⟩⟩⟩, ⟨tr, ⟨⟨tr, ⟨tr, ⟨tr, tr⟩⟩⟩, ⟨tr, ⟨tr, ⟨tr, tr⟩⟩⟩, rfl⟩⟩, rfl⟩⟩, ⟨⟨tr, ⟨⟨tr, ⟨tr, ⟨tr, ⟨tr, tr⟩⟩⟩⟩, ⟨tr, ⟨tr, ⟨tr, ⟨tr, tr⟩⟩⟩⟩, rfl⟩⟩, ⟨tr, ⟨⟨tr, ⟨⟨tr, ⟨tr, ⟨tr, tr⟩⟩⟩, ⟨tr, ⟨tr, ⟨tr, tr⟩⟩⟩, rfl⟩⟩, ⟨tr, ⟨tr, ⟨tr, ⟨tr, tr⟩⟩⟩⟩, rfl⟩⟩, rfl⟩, rfl⟩⟩, ⟨tr, ⟨⟨tr, ⟨⟨c26, ⟨⟨tr, ⟨tr, ⟨tr, tr⟩⟩⟩, ⟨tr, ⟨tr, ⟨tr, tr⟩⟩⟩, rfl⟩⟩, ⟨tr, ⟨c26, ⟨tr, ⟨tr, tr⟩⟩⟩⟩, rfl⟩⟩, ⟨c26, ⟨⟨tr, ⟨⟨tr, ⟨tr, ⟨tr, tr⟩⟩⟩, ⟨tr, ⟨tr, ⟨tr, tr⟩⟩⟩, rfl⟩⟩, ⟨tr, ⟨tr, ⟨tr, ⟨tr, tr⟩⟩⟩⟩, rfl⟩⟩, rfl⟩⟩, rfl⟩, rfl⟩⟩, ⟨tr, ⟨⟨tr, ⟨⟨c26, ⟨⟨tr, ⟨tr, ⟨tr, ⟨tr, tr⟩⟩⟩⟩, ⟨tr, ⟨⟨tr, ⟨tr, ⟨tr, tr⟩⟩⟩, ⟨tr, ⟨tr, ⟨tr, tr⟩⟩⟩, rfl⟩⟩, rfl⟩⟩, ⟨tr, ⟨⟨c26, ⟨⟨tr, ⟨tr, ⟨tr, tr⟩⟩⟩, ⟨tr, ⟨tr, ⟨tr, tr⟩⟩⟩, rfl⟩⟩, ⟨tr, ⟨c26, ⟨tr, ⟨tr, tr⟩⟩⟩⟩, rfl⟩⟩, rfl⟩⟩, ⟨⟨c26, ⟨⟨tr, ⟨⟨tr, ⟨tr, ⟨tr, ⟨tr, tr⟩⟩⟩⟩, ⟨tr, ⟨⟨tr, ⟨tr, ⟨tr, tr⟩⟩⟩, ⟨tr, ⟨tr, ⟨tr, tr⟩⟩⟩, rfl⟩⟩, rfl⟩⟩, ⟨⟨tr, ⟨⟨tr, ⟨tr, ⟨tr, ⟨tr, tr⟩⟩⟩⟩, ⟨tr, ⟨tr, ⟨tr, ⟨tr, tr⟩⟩⟩⟩, rfl⟩⟩, ⟨tr, ⟨⟨tr, ⟨⟨tr, ⟨tr, ⟨tr, tr⟩⟩⟩, ⟨tr, ⟨tr, ⟨tr, tr⟩⟩⟩, rfl⟩⟩, ⟨tr, ⟨tr, ⟨tr, ⟨tr, tr⟩⟩⟩⟩, rfl⟩⟩, rfl⟩, rfl⟩⟩, ⟨tr, ⟨⟨tr, ⟨⟨c26, ⟨⟨tr, ⟨tr, ⟨tr, tr⟩⟩⟩, ⟨tr, ⟨tr, ⟨tr, tr⟩⟩⟩, rfl⟩⟩, ⟨tr, ⟨c26, ⟨tr, ⟨tr, tr⟩⟩⟩⟩, rfl⟩⟩, ⟨c26, ⟨⟨tr, ⟨⟨tr, ⟨tr, ⟨tr, tr⟩⟩⟩, ⟨tr, ⟨tr, ⟨tr, tr⟩⟩⟩, rfl⟩⟩, ⟨tr, ⟨tr, ⟨tr, ⟨tr, tr⟩⟩⟩⟩, rfl⟩⟩, rfl⟩⟩, rfl⟩, rfl⟩⟩, rfl⟩, rfl⟩, rfl⟩⟩, ⟨⟨c26, ⟨⟨c25, ⟨⟨tr, ⟨⟨tr, ⟨⟨tr, ⟨tr, ⟨tr, ⟨tr, tr⟩⟩⟩⟩, ⟨tr, ⟨tr, ⟨tr, ⟨tr, tr⟩⟩⟩⟩, rfl⟩⟩, ⟨⟨tr, ⟨⟨tr, ⟨tr, ⟨tr, ⟨tr, tr⟩⟩⟩⟩, ⟨tr, ⟨⟨tr, ⟨tr, ⟨tr, tr⟩⟩⟩, ⟨tr, ⟨tr, ⟨tr, tr⟩⟩⟩, rfl⟩⟩, rfl⟩⟩, ⟨tr, ⟨⟨tr, ⟨tr, ⟨tr, ⟨tr, tr⟩⟩⟩⟩, ⟨tr, ⟨⟨tr, ⟨tr, ⟨tr, tr⟩⟩⟩, ⟨tr, ⟨tr, ⟨tr, tr⟩⟩⟩, rfl⟩⟩, rfl⟩⟩, rfl⟩, rfl⟩⟩, ⟨⟨tr, ⟨⟨tr, ⟨⟨tr, ⟨tr, ⟨tr, ⟨tr, tr⟩⟩⟩⟩, ⟨tr, ⟨tr, ⟨tr, ⟨tr, tr⟩⟩⟩⟩, rfl⟩⟩, ⟨⟨tr, ⟨⟨tr, ⟨tr, ⟨tr, ⟨tr, tr⟩⟩⟩⟩, ⟨tr, ⟨tr, ⟨tr, ⟨tr, tr⟩⟩⟩⟩, rfl⟩⟩, ⟨tr, ⟨⟨tr, ⟨tr, ⟨tr, ⟨tr, tr⟩⟩⟩⟩, ⟨tr, ⟨tr, ⟨tr, ⟨tr, tr⟩⟩⟩⟩, rfl⟩⟩, rfl⟩, rfl⟩⟩, ⟨⟨tr, ⟨⟨tr, ⟨⟨tr, ⟨tr, ⟨tr, ⟨tr, tr⟩⟩⟩⟩, ⟨tr, ⟨⟨tr, ⟨tr, ⟨tr, tr⟩⟩⟩, ⟨tr, ⟨tr, ⟨tr, tr⟩⟩⟩, rfl⟩⟩, rfl⟩⟩, ⟨⟨tr, ⟨⟨tr, ⟨tr, ⟨tr, ⟨tr, tr⟩⟩⟩⟩, ⟨tr, ⟨tr, ⟨tr, ⟨tr, tr⟩⟩⟩⟩, rfl⟩⟩, ⟨tr, ⟨⟨tr, ⟨⟨tr, ⟨tr, ⟨tr, tr⟩⟩⟩, ⟨tr, ⟨tr, ⟨tr, tr⟩⟩⟩, rfl⟩⟩, ⟨tr, ⟨tr, ⟨tr, ⟨tr, tr⟩⟩⟩⟩, rfl⟩⟩, rfl⟩, rfl⟩⟩, ⟨tr, ⟨⟨tr, ⟨⟨tr, ⟨tr, ⟨tr, ⟨tr, tr⟩⟩⟩⟩, ⟨tr, ⟨⟨tr, ⟨tr, ⟨tr, tr⟩⟩⟩, ⟨tr, ⟨tr, ⟨tr, tr⟩⟩⟩, rfl⟩⟩, rfl⟩⟩, ⟨⟨tr, ⟨⟨tr, ⟨tr, ⟨tr, ⟨tr, tr⟩⟩⟩⟩, ⟨tr, ⟨tr, ⟨tr, ⟨tr, tr⟩⟩⟩⟩, rfl⟩⟩, ⟨tr, ⟨⟨tr, ⟨⟨tr, ⟨tr, ⟨tr, tr⟩⟩⟩, ⟨tr, ⟨tr, ⟨tr, tr⟩⟩⟩, rfl⟩⟩, ⟨tr, ⟨tr, ⟨tr, ⟨tr, tr⟩⟩⟩⟩, rfl⟩⟩, rfl⟩, rfl⟩⟩, rfl⟩, rfl⟩, rfl⟩⟩, ⟨⟨tr, ⟨⟨c25, ⟨⟨tr, ⟨⟨tr, ⟨tr, ⟨tr, ⟨tr, tr⟩⟩⟩⟩, ⟨tr, ⟨tr, ⟨tr, ⟨tr, tr⟩⟩⟩⟩, rfl⟩⟩, ⟨⟨tr, ⟨⟨tr, ⟨tr, ⟨tr, ⟨tr, tr⟩⟩⟩⟩, ⟨tr, ⟨tr, ⟨tr, ⟨tr, tr⟩⟩⟩⟩, rfl⟩⟩, ⟨tr, ⟨⟨tr, ⟨tr, ⟨tr, ⟨tr, tr⟩⟩⟩⟩, ⟨tr, ⟨tr, ⟨tr, ⟨tr, tr⟩⟩⟩⟩, rfl⟩⟩, rfl⟩, rfl⟩⟩, ⟨⟨tr, ⟨⟨c25, ⟨⟨tr, ⟨tr, ⟨tr, ⟨tr, tr⟩⟩⟩⟩, ⟨tr, ⟨tr, ⟨tr, ⟨tr, tr⟩⟩⟩⟩, rfl⟩⟩, ⟨tr, ⟨c25, ⟨tr, ⟨tr, ⟨tr, tr⟩⟩⟩⟩⟩, rfl⟩⟩, ⟨tr, ⟨⟨c25, ⟨⟨tr, ⟨tr, ⟨tr, ⟨tr, tr⟩⟩⟩⟩, ⟨tr, ⟨tr, ⟨tr, ⟨tr, tr⟩⟩⟩⟩, rfl⟩⟩, ⟨tr, ⟨c25, ⟨tr, ⟨tr, ⟨tr, tr⟩⟩⟩⟩⟩, rfl⟩⟩, rfl⟩, rfl⟩⟩, ⟨⟨tr, ⟨⟨c25, ⟨⟨tr, ⟨⟨tr, ⟨tr, ⟨tr, ⟨tr, tr⟩⟩⟩⟩, ⟨tr, ⟨⟨tr, ⟨tr, ⟨tr, tr⟩⟩⟩, ⟨tr, ⟨tr, ⟨tr, tr⟩⟩⟩, rfl⟩⟩, rfl⟩⟩, ⟨⟨tr, ⟨⟨tr, ⟨tr, ⟨tr, ⟨tr, tr⟩⟩⟩⟩, ⟨tr, ⟨tr, ⟨tr, ⟨tr, tr⟩⟩⟩⟩, rfl⟩⟩, ⟨tr, ⟨⟨tr, ⟨⟨tr, ⟨tr, ⟨tr, tr⟩⟩⟩, ⟨tr, ⟨tr, ⟨tr, tr⟩⟩⟩, rfl⟩⟩, ⟨tr, ⟨tr, ⟨tr, ⟨tr, tr⟩⟩⟩⟩, rfl⟩⟩, rfl⟩, rfl⟩⟩, ⟨⟨tr, ⟨⟨c25, ⟨⟨tr, ⟨tr, ⟨tr, ⟨tr, tr⟩⟩⟩⟩, ⟨tr, ⟨tr, ⟨tr, ⟨tr, tr⟩⟩⟩⟩, rfl⟩⟩, ⟨tr, ⟨c25, ⟨tr, ⟨tr, ⟨tr, tr⟩⟩⟩⟩⟩, rfl⟩⟩, ⟨tr, ⟨⟨c25, ⟨⟨tr, ⟨⟨tr, ⟨tr, ⟨tr, tr⟩⟩⟩, ⟨tr, ⟨tr, ⟨tr, tr⟩⟩⟩, rfl⟩⟩, ⟨tr, ⟨tr, ⟨tr, ⟨tr, tr⟩⟩⟩⟩, rfl⟩⟩, ⟨tr, ⟨c25, ⟨tr, ⟨tr, ⟨tr, tr⟩⟩⟩⟩⟩, rfl⟩⟩, rfl⟩, rfl⟩⟩, ⟨tr, ⟨⟨c25, ⟨⟨tr, ⟨⟨tr, ⟨tr, ⟨tr, ⟨tr, tr⟩⟩⟩⟩, ⟨tr, ⟨⟨tr, ⟨tr, ⟨tr, tr⟩⟩⟩, ⟨tr, ⟨tr, ⟨tr, tr⟩⟩⟩, rfl⟩⟩, rfl⟩⟩, ⟨⟨tr, ⟨⟨tr, ⟨tr, ⟨tr, ⟨tr, tr⟩⟩⟩⟩, ⟨tr, ⟨tr, ⟨tr, ⟨tr, tr⟩⟩⟩⟩, rfl⟩⟩, ⟨tr, ⟨⟨tr, ⟨⟨tr, ⟨tr, ⟨tr, tr⟩⟩⟩, ⟨tr, ⟨tr, ⟨tr, tr⟩⟩⟩, rfl⟩⟩, ⟨tr, ⟨tr, ⟨tr, ⟨tr, tr⟩⟩⟩⟩, rfl⟩⟩, rfl⟩, rfl⟩⟩, ⟨⟨tr, ⟨⟨c25, ⟨⟨tr, ⟨tr, ⟨tr, ⟨tr, tr⟩⟩⟩⟩, ⟨tr, ⟨tr, ⟨tr, ⟨tr, tr⟩⟩⟩⟩, rfl⟩⟩, ⟨tr, ⟨c25, ⟨tr, ⟨tr, ⟨tr, tr⟩⟩⟩⟩⟩, rfl⟩⟩, ⟨tr, ⟨⟨c25, ⟨⟨tr, ⟨⟨tr, ⟨tr, ⟨tr, tr⟩⟩⟩, ⟨tr, ⟨tr, ⟨tr, tr⟩⟩⟩, rfl⟩⟩, ⟨tr, ⟨tr, ⟨tr, ⟨tr, tr⟩⟩⟩⟩, rfl⟩⟩, ⟨tr, ⟨c25, ⟨tr, ⟨tr, ⟨tr, tr⟩⟩⟩⟩⟩, rfl⟩⟩, rfl⟩, rfl⟩⟩, rfl⟩, rfl⟩, rfl⟩⟩, ⟨⟨tr, ⟨⟨c25, ⟨⟨tr, ⟨⟨c26, ⟨⟨tr, ⟨tr, ⟨tr, ⟨tr, tr⟩⟩⟩⟩, ⟨tr, ⟨⟨tr, ⟨tr, ⟨tr, tr⟩⟩⟩, ⟨tr, ⟨tr, ⟨tr, tr⟩⟩⟩, rfl⟩⟩, rfl⟩⟩, ⟨tr, ⟨⟨c26, ⟨⟨tr, ⟨tr, ⟨tr, tr⟩⟩⟩, ⟨tr, ⟨tr, ⟨tr, tr⟩⟩⟩, rfl⟩⟩, ⟨tr, ⟨c26, ⟨tr, ⟨tr, tr⟩⟩⟩⟩, rfl⟩⟩, rfl⟩⟩, ⟨⟨c26, ⟨⟨tr, ⟨⟨tr, ⟨tr, ⟨tr, ⟨tr, tr⟩⟩⟩⟩, ⟨tr, ⟨⟨tr, ⟨tr, ⟨tr, tr⟩⟩⟩, ⟨tr, ⟨tr, ⟨tr, tr⟩⟩⟩, rfl⟩⟩, rfl⟩⟩, ⟨⟨tr, ⟨⟨tr, ⟨tr, ⟨tr, ⟨tr, tr⟩⟩⟩⟩, ⟨tr, ⟨tr, ⟨tr, ⟨tr, tr⟩⟩⟩⟩, rfl⟩⟩, ⟨tr, ⟨⟨tr, ⟨⟨tr, ⟨tr, ⟨tr, tr⟩⟩⟩, ⟨tr, ⟨tr, ⟨tr, tr⟩⟩⟩, rfl⟩⟩, ⟨tr, ⟨tr, ⟨tr, ⟨tr, tr⟩⟩⟩⟩, rfl⟩⟩, rfl⟩, rfl⟩⟩, ⟨tr, ⟨⟨tr, ⟨⟨c26, ⟨⟨tr, ⟨tr, ⟨tr, tr⟩⟩⟩, ⟨tr, ⟨tr, ⟨tr, tr⟩⟩⟩, rfl⟩⟩, ⟨tr, ⟨c26, ⟨tr, ⟨tr, tr⟩⟩⟩⟩, rfl⟩⟩, ⟨c26, ⟨⟨tr, ⟨⟨tr, ⟨tr, ⟨tr, tr⟩⟩⟩, ⟨tr, ⟨tr, ⟨tr, tr⟩⟩⟩, rfl⟩⟩, ⟨tr, ⟨tr, ⟨tr, ⟨tr, tr⟩⟩⟩⟩, rfl⟩⟩, rfl⟩⟩, rfl⟩, rfl⟩⟩, ⟨⟨c26, ⟨⟨c25, ⟨⟨tr, ⟨⟨tr, ⟨tr, ⟨tr, ⟨tr, tr⟩⟩⟩⟩, ⟨tr, ⟨⟨tr, ⟨tr, ⟨tr, tr⟩⟩⟩, ⟨tr, ⟨tr, ⟨tr, tr⟩⟩⟩, rfl⟩⟩, rfl⟩⟩, ⟨⟨tr, ⟨⟨tr, ⟨tr, ⟨tr, ⟨tr, tr⟩⟩⟩⟩, ⟨tr, ⟨tr, ⟨tr, ⟨tr, tr⟩⟩⟩⟩, rfl⟩⟩, ⟨tr, ⟨⟨tr, ⟨⟨tr, ⟨tr, ⟨tr, tr⟩⟩⟩, ⟨tr, ⟨tr, ⟨tr, tr⟩⟩⟩, rfl⟩⟩, ⟨tr, ⟨tr, ⟨tr, ⟨tr, tr⟩⟩⟩⟩, rfl⟩⟩, rfl⟩, rfl⟩⟩, ⟨⟨tr, ⟨⟨c25, ⟨⟨tr, ⟨tr, ⟨tr, ⟨tr, tr⟩⟩⟩⟩, ⟨tr, ⟨tr, ⟨tr, ⟨tr, tr⟩⟩⟩⟩, rfl⟩⟩, ⟨tr, ⟨c25, ⟨tr, ⟨tr, ⟨tr, tr⟩⟩⟩⟩⟩, rfl⟩⟩, ⟨tr, ⟨⟨c25, ⟨⟨tr, ⟨⟨tr, ⟨tr, ⟨tr, tr⟩⟩⟩, ⟨tr, ⟨tr, ⟨tr, tr⟩⟩⟩, rfl⟩⟩, ⟨tr, ⟨tr, ⟨tr, ⟨tr, tr⟩⟩⟩⟩, rfl⟩⟩, ⟨tr, ⟨c25, ⟨tr, ⟨tr, ⟨tr, tr⟩⟩⟩⟩⟩, rfl⟩⟩, rfl⟩, rfl⟩⟩, ⟨tr, ⟨⟨c25, ⟨⟨tr, ⟨⟨c26, ⟨⟨tr, ⟨tr, ⟨tr, tr⟩⟩⟩, ⟨tr, ⟨tr, ⟨tr, tr⟩⟩⟩, rfl⟩⟩, ⟨tr, ⟨c26, ⟨tr, ⟨tr, tr⟩⟩⟩⟩, rfl⟩⟩, ⟨c26, ⟨⟨tr, ⟨⟨tr, ⟨tr, ⟨tr, tr⟩⟩⟩, ⟨tr, ⟨tr, ⟨tr, tr⟩⟩⟩, rfl⟩⟩, ⟨tr, ⟨tr, ⟨tr, ⟨tr, tr⟩⟩⟩⟩, rfl⟩⟩, rfl⟩⟩, ⟨c26, ⟨⟨c25, ⟨⟨tr, ⟨⟨tr, ⟨tr, ⟨tr, tr⟩⟩⟩, ⟨tr, ⟨tr, ⟨tr, tr⟩⟩⟩, rfl⟩⟩, ⟨tr, ⟨tr, ⟨tr, ⟨tr, tr⟩⟩⟩⟩, rfl⟩⟩, ⟨tr, ⟨c25, ⟨tr, ⟨tr, ⟨tr, tr⟩⟩⟩⟩⟩, rfl⟩⟩, rfl⟩⟩, rfl⟩, rfl⟩⟩, ⟨tr, ⟨⟨c25, ⟨⟨tr, ⟨⟨c26, ⟨⟨tr, ⟨tr, ⟨tr, ⟨tr, tr⟩⟩⟩⟩, ⟨tr, ⟨⟨tr, ⟨tr, ⟨tr, tr⟩⟩⟩, ⟨tr, ⟨tr, ⟨tr, tr⟩⟩⟩, rfl⟩⟩, rfl⟩⟩, ⟨tr, ⟨⟨c26, ⟨⟨tr, ⟨tr, ⟨tr, tr⟩⟩⟩, ⟨tr, ⟨tr, ⟨tr, tr⟩⟩⟩, rfl⟩⟩, ⟨tr, ⟨c26, ⟨tr, ⟨tr, tr⟩⟩⟩⟩, rfl⟩⟩, rfl⟩⟩, ⟨⟨c26, ⟨⟨tr, ⟨⟨tr, ⟨tr, ⟨tr, ⟨tr, tr⟩⟩⟩⟩, ⟨tr, ⟨⟨tr, ⟨tr, ⟨tr, tr⟩⟩⟩, ⟨tr, ⟨tr, ⟨tr, tr⟩⟩⟩, rfl⟩⟩, rfl⟩⟩, ⟨⟨tr, ⟨⟨tr, ⟨tr, ⟨tr, ⟨tr, tr⟩⟩⟩⟩, ⟨tr, ⟨tr, ⟨tr, ⟨tr, tr⟩⟩⟩⟩, rfl⟩⟩, ⟨tr, ⟨⟨tr, ⟨⟨tr, ⟨tr, ⟨tr, tr⟩⟩⟩, ⟨tr, ⟨tr, ⟨tr, tr⟩⟩⟩, rfl⟩⟩, ⟨tr, ⟨tr, ⟨tr, ⟨tr, tr⟩⟩⟩⟩, rfl⟩⟩, rfl⟩, rfl⟩⟩, ⟨tr, ⟨⟨tr, ⟨⟨c26, ⟨⟨tr, ⟨tr, ⟨tr, tr⟩⟩⟩, ⟨tr, ⟨tr, ⟨tr, tr⟩⟩⟩, rfl⟩⟩, ⟨tr, ⟨c26, ⟨tr, ⟨tr, tr⟩⟩⟩⟩, rfl⟩⟩, ⟨c26, ⟨⟨tr, ⟨⟨tr, ⟨tr, ⟨tr, tr⟩⟩⟩, ⟨tr, ⟨tr, ⟨tr, tr⟩⟩⟩, rfl⟩⟩, ⟨tr, ⟨tr, ⟨tr, ⟨tr, tr⟩⟩⟩⟩, rfl⟩⟩, rfl⟩⟩, rfl⟩, rfl⟩⟩, ⟨⟨c26, ⟨⟨c25, ⟨⟨tr, ⟨⟨tr, ⟨tr, ⟨tr, ⟨tr, tr⟩⟩⟩⟩, ⟨tr, ⟨⟨tr, ⟨tr, ⟨tr, tr⟩⟩⟩, ⟨tr, ⟨tr, ⟨tr, tr⟩⟩⟩, rfl⟩⟩, rfl⟩⟩, ⟨⟨tr, ⟨⟨tr, ⟨tr, ⟨tr, ⟨tr, tr⟩⟩⟩⟩, ⟨tr, ⟨tr, ⟨tr, ⟨tr, tr⟩⟩⟩⟩, rfl⟩⟩, ⟨tr, ⟨⟨tr, ⟨⟨tr, ⟨tr, ⟨tr, tr⟩⟩⟩, ⟨tr, ⟨tr, ⟨tr, tr⟩⟩⟩, rfl⟩⟩, ⟨tr, ⟨tr, ⟨tr, ⟨tr, tr⟩⟩⟩⟩, rfl⟩⟩, rfl⟩, rfl⟩⟩, ⟨⟨tr, ⟨⟨c25, ⟨⟨tr, ⟨tr, ⟨tr, ⟨tr, tr⟩⟩⟩⟩, ⟨tr, ⟨tr, ⟨tr, ⟨tr, tr⟩⟩⟩⟩, rfl⟩⟩, ⟨tr, ⟨c25, ⟨tr, ⟨tr, ⟨tr, tr⟩⟩⟩⟩⟩, rfl⟩⟩, ⟨tr, ⟨⟨c25, ⟨⟨tr, ⟨⟨tr, ⟨tr, ⟨tr, tr⟩⟩⟩, ⟨tr, ⟨tr, ⟨tr, tr⟩⟩⟩, rfl⟩⟩, ⟨tr, ⟨tr, ⟨tr, ⟨tr, tr⟩⟩⟩⟩, rfl⟩⟩, ⟨tr, ⟨c25, ⟨tr, ⟨tr, ⟨tr, tr⟩⟩⟩⟩⟩, rfl⟩⟩, rfl⟩, rfl⟩⟩, ⟨tr, ⟨⟨c25, ⟨⟨tr, ⟨⟨c26, ⟨⟨tr, ⟨tr, ⟨tr, tr⟩⟩⟩, ⟨tr, ⟨tr, ⟨tr, tr⟩⟩⟩, rfl⟩⟩, ⟨tr, ⟨c26, ⟨tr, ⟨tr, tr⟩⟩⟩⟩, rfl⟩⟩, ⟨c26, ⟨⟨tr, ⟨⟨tr, ⟨tr, ⟨tr, tr⟩⟩⟩, ⟨tr, ⟨tr, ⟨tr, tr⟩⟩⟩, rfl⟩⟩, ⟨tr, ⟨tr, ⟨tr, ⟨tr, tr⟩⟩⟩⟩, rfl⟩⟩, rfl⟩⟩, ⟨c26, ⟨⟨c25, ⟨⟨tr, ⟨⟨tr, ⟨tr, ⟨tr, tr⟩⟩⟩, ⟨tr, ⟨tr, ⟨tr, tr⟩⟩⟩, rfl⟩⟩, ⟨tr, ⟨tr, ⟨tr, ⟨tr, tr⟩⟩⟩⟩, rfl⟩⟩, ⟨tr, ⟨c25, ⟨tr, ⟨tr, ⟨tr, tr⟩⟩⟩⟩⟩, rfl⟩⟩, rfl⟩⟩, rfl⟩, rfl⟩⟩, rfl⟩, rfl⟩, rfl⟩ ?_
        refine thenQ_normal ?_
        refine AW.seq ?_
        obtain ⟨v27, e28, h⟩ := bind_some h
        obtain ⟨v29, e30, h⟩ := bind_some h
        obtain ⟨v31, e32, h⟩ := bind_some h
        refine AW.dA ⟨[(2, (vc (.int .i64 a2))), (3, (vc (.int .i64 a3))), (4, (vp 1 0)), (8, (vp 2 0)), (10, (vp 3 0)), (11, (vp 4 0)), (12, (vc (.flt .f32 v31.bits)))], [(1, (.box [(.c (.fn 150 0 fun _ => .nilptr)), (.c (.fn 151 0 fun _ => .nilptr)), (.c (.fn 152 0 fun _ => .nilptr))])), (2, (.box [(.c (.int .i64 (0 : Int))), (.c (.flt .f32 (default : F32).bits)), (.c (.flt .f32 (default : F32).bits)), (.c (.flt .f32 (default : F32).bits))])), (3, (.box [(.c (.int .i64 ((a1.getD ((IntKind.i64.wrap (x2 - (1 : Int))).toNat) default).At))), (.c (.flt .f32 (((a1.getD ((IntKind.i64.wrap (x2 - (1 : Int))).toNat) default).Place).X).bits)), (.c (.flt .f32 (((a1.getD ((IntKind.i64.wrap (x2 - (1 : Int))).toNat) default).Place).Y).bits)), (.c (.flt .f32 (((a1.getD ((IntKind.i64.wrap (x2 - (1 : Int))).toNat) default).Place).Z).bits))])), (4, (.box [(.c (.int .i64 ((a1.getD x2.toNat default).At))), (.c (.flt .f32 (((a1.getD x2.toNat default).Place).X).bits)), (.c (.flt .f32 (((a1.getD x2.toNat default).Place).Y).bits)), (.c (.flt .f32 (((a1.getD x2.toNat default).Place).Z).bits))]))]⟩ ((Tt ∧ T2 (((((((.int .i64 ((a1.getD ((IntKind.i64.wrap (x2 - (1 : Int))).toNat) default).At)) : C) = (.int .i64 ((a1.getD ((IntKind.i64.wrap (x2 - (1 : Int))).toNat) default).At))) ∧ (((.flt .f32 (((a1.getD ((IntKind.i64.wrap (x2 - (1 : Int))).toNat) default).Place).X).bits) : C) = (.flt .f32 (((a1.getD ((IntKind.i64.wrap (x2 - (1 : Int))).toNat) default).Place).X).bits)) ∧ (((.flt .f32 (((a1.getD ((IntKind.i64.wrap (x2 - (1 : Int))).toNat) default).Place).Y).bits) : C) = (.flt .f32 (((a1.getD ((IntKind.i64.wrap (x2 - (1 : Int))).toNat) default).Place).Y).bits)) ∧ (((.flt .f32 (((a1.getD ((IntKind.i64.wrap (x2 - (1 : Int))).toNat) default).Place).Z).bits) : C) = (.flt .f32 (((a1.getD ((IntKind.i64.wrap (x2 - (1 : Int))).toNat) default).Place).Z).bits)) ∧ Tt) ∧ Tt) ∧ CallOK Try.prog 150 [.agg (cs_RootKey (a1.getD ((IntKind.i64.wrap (x2 - (1 : Int))).toNat) default))] [.one (.int .i64 v27)]) ∧ T4 (((((Eqc (.int .i64 ((a1.getD x2.toNat default).At))) ∧ (Eqc (.flt .f32 (((a1.getD x2.toNat default).Place).X).bits)) ∧ (Eqc (.flt .f32 (((a1.getD x2.toNat default).Place).Y).bits)) ∧ (Eqc (.flt .f32 (((a1.getD x2.toNat default).Place).Z).bits)) ∧ Tt) ∧ Tt) ∧ CallOK Try.prog 150 [.agg (cs_RootKey (a1.getD x2.toNat default))] [.one (.int .i64 v29)]) ∧ (((Eqc (.int .i64 v27)) ∧ (Eqc (.int .i64 a3)) ∧ (Eqc (.int .i64 v29)) ∧ Tt) ∧ CallOK Try.prog 196 [.one (.int .i64 v27), .one (.int .i64 a3), .one (.int .i64 v29)] [.one (.flt .f32 v31.bits)]) ∧ Tt ∧ Tt))) ∧ (Tt)) 11 [.no, .no, .no, .call [.agg (cs_RootKey (a1.getD ((IntKind.i64.wrap (x2 - (1 : Int))).toNat) default))] [.one (.int .i64 v27)] [[.view]], .no, .no, .no, .no, .call [.agg (cs_RootKey (a1.getD x2.toNat default))] [.one (.int .i64 v29)] [[.view]], .call [.one (.int .i64 v27), .one (.int .i64 a3), .one (.int .i64 v29)] [.one (.flt .f32 v31.bits)] [[.view]]] [2, 3, 4, 8, 10, 11, 12] [1, 2, 3, 4] ⟨⟨tr, tr, tr, ⟨⟨⟨rfl, rfl, rfl, rfl, tr⟩, tr⟩, ok_impl_rootTrack_1 K (a1.getD ((IntKind.i64.wrap (x2 - (1 : Int))).toNat) default) v27 e28⟩, tr, tr, tr, tr, ⟨⟨⟨rfl, rfl, rfl, rfl, tr⟩, tr⟩, ok_impl_rootTrack_1 K (a1.getD x2.toNat default) v29 e30⟩, ⟨⟨rfl, rfl, rfl, tr⟩, ok_impl_share K v27 a3 v29 v31 e32⟩, tr, tr⟩, tr⟩ ?_
        refine thenQ_normal ?_
        refine AW.seq ?_
        refine AW.seq (AW.rA ⟨[(3, (vc (.int .i64 a3))), (4, (vp 1 0)), (8, (vp 2 0)), (10, (vp 3 0)), (11, (vp 4 0)), (12, (vc (.flt .f32 v31.bits))), (90, (vc (.bool (a2 == (2 : Int)))))], [(1, (.box [(.c (.fn 150 0 fun _ => .nilptr)), (.c (.fn 151 0 fun _ => .nilptr)), (.c (.fn 152 0 fun _ => .nilptr))])), (2, (.box [(.c (.int .i64 (0 : Int))), (.c (.flt .f32 (default : F32).bits)), (.c (.flt .f32 (default : F32).bits)), (.c (.flt .f32 (default : F32).bits))])), (3, (.box [(.c (.int .i64 ((a1.getD ((IntKind.i64.wrap (x2 - (1 : Int))).toNat) default).At))), (.c (.flt .f32 (((a1.getD ((IntKind.i64.wrap (x2 - (1 : Int))).toNat) default).Place).X).bits)), (.c (.flt .f32 (((a1.getD ((IntKind.i64.wrap (x2 - (1 : Int))).toNat) default).Place).Y).bits)), (.c (.flt .f32 (((a1.getD ((IntKind.i64.wrap (x2 - (1 : Int))).toNat) default).Place).Z).bits))])), (4, (.box [(.c (.int .i64 ((a1.getD x2.toNat default).At))), (.c (.flt .f32 (((a1.getD x2.toNat default).Place).X).bits)), (.c (.flt .f32 (((a1.getD x2.toNat default).Place).Y).bits)), (.c (.flt .f32 (((a1.getD x2.toNat default).Place).Z).bits))]))]⟩ (T2 Tt) [] [3, 4, 8, 10, 11, 12, 90] [1, 2, 3, 4] ⟨tr, tr, tr⟩ (thenQ_normal ?_))
        rcases ite2_cases h with ⟨b33, h⟩ | ⟨b33, h⟩
        · refine AW.cond_t rfl b33 ?_
          refine AW.rA ⟨[(3, (vc (.int .i64 a3))), (4, (vp 1 0)), (8, (vp 2 0)), (10, (vp 3 0)), (11, (vp 4 0)), (12, (vc (.flt .f32 ((v31.mul v31).mul ((Fl.mk (k := .f32) 1077936128 (by decide)).sub ((Fl.mk (k := .f32) 1073741824 (by decide)).mul v31))).bits)))], [(1, (.box [(.c (.fn 150 0 fun _ => .nilptr)), (.c (.fn 151 0 fun _ => .nilptr)), (.c (.fn 152 0 fun _ => .nilptr))])), (2, (.box [(.c (.int .i64 (0 : Int))), (.c (.flt .f32 (default : F32).bits)), (.c (.flt .f32 (default : F32).bits)), (.c (.flt .f32 (default : F32).bits))])), (3, (.box [(.c (.int .i64 ((a1.getD ((IntKind.i64.wrap (x2 - (1 : Int))).toNat) default).At))), (.c (.flt .f32 (((a1.getD ((IntKind.i64.wrap (x2 - (1 : Int))).toNat) default).Place).X).bits)), (.c (.flt .f32 (((a1.getD ((IntKind.i64.wrap (x2 - (1 : Int))).toNat) default).Place).Y).bits)), (.c (.flt .f32 (((a1.getD ((IntKind.i64.wrap (x2 - (1 : Int))).toNat) default).Place).Z).bits))])), (4, (.box [(.c (.int .i64 ((a1.getD x2.toNat default).At))), (.c (.flt .f32 (((a1.getD x2.toNat default).Place).X).bits)), (.c (.flt .f32 (((a1.getD x2.toNat default).Place).Y).bits)), (.c (.flt .f32 (((a1.getD x2.toNat default).Place).Z).bits))]))]⟩ (T4 (T4 Tt)) [] [3, 4, 8, 10, 11, 12] [1, 2, 3, 4] ⟨tr, tr, tr, tr, tr, tr, tr, tr, tr⟩ ?_
          refine thenQ_normal ?_
          refine AW.seq ?_
          obtain ⟨v34, e35, h⟩ := bind_some h
          obtain ⟨v36, e37, h⟩ := bind_some h
          refine AW.dA ⟨[(8, (vp 2 0))], [(2, (.box [(.c (.int .i64 v36.At)), (.c (.flt .f32 v36.Place.X.bits)), (.c (.flt .f32 v36.Place.Y.bits)), (.c (.flt .f32 v36.Place.Z.bits))]))]⟩ ((Tt ∧ T2 (T4 (((((((.int .i64 ((a1.getD ((IntKind.i64.wrap (x2 - (1 : Int))).toNat) default).At)) : C) = (.int .i64 ((a1.getD ((IntKind.i64.wrap (x2 - (1 : Int))).toNat) default).At))) ∧ (((.flt .f32 (((a1.getD ((IntKind.i64.wrap (x2 - (1 : Int))).toNat) default).Place).X).bits) : C) = (.flt .f32 (((a1.getD ((IntKind.i64.wrap (x2 - (1 : Int))).toNat) default).Place).X).bits)) ∧ (((.flt .f32 (((a1.getD ((IntKind.i64.wrap (x2 - (1 : Int))).toNat) default).Place).Y).bits) : C) = (.flt .f32 (((a1.getD ((IntKind.i64.wrap (x2 - (1 : Int))).toNat) default).Place).Y).bits)) ∧ (((.flt .f32 (((a1.getD ((IntKind.i64.wrap (x2 - (1 : Int))).toNat) default).Place).Z).bits) : C) = (.flt .f32 (((a1.getD ((IntKind.i64.wrap (x2 - (1 : Int))).toNat) default).Place).Z).bits)) ∧ Tt) ∧ ((Eqc (.int .i64 ((a1.getD x2.toNat default).At))) ∧ (Eqc (.flt .f32 (((a1.getD x2.toNat default).Place).X).bits)) ∧ (Eqc (.flt .f32 (((a1.getD x2.toNat default).Place).Y).bits)) ∧ (Eqc (.flt .f32 (((a1.getD x2.toNat default).Place).Z).bits)) ∧ Tt) ∧ (((.flt .f32 ((v31.mul v31).mul ((Fl.mk (k := .f32) 1077936128 (by decide)).sub ((Fl.mk (k := .f32) 1073741824 (by decide)).mul v31))).bits) : C) = (.flt .f32 ((v31.mul v31).mul ((Fl.mk (k := .f32) 1077936128 (by decide)).sub ((Fl.mk (k := .f32) 1073741824 (by decide)).mul v31))).bits)) ∧ Tt) ∧ CallOK Try.prog 152 [.agg (cs_RootKey (a1.getD ((IntKind.i64.wrap (x2 - (1 : Int))).toNat) default)), .agg (cs_RootKey (a1.getD x2.toNat default)), .one (.flt .f32 ((v31.mul v31).mul ((Fl.mk (k := .f32) 1077936128 (by decide)).sub ((Fl.mk (k := .f32) 1073741824 (by decide)).mul v31))).bits)] [.agg (cs_RootKey v34)]) ∧ Tt ∧ ((((Eqc (.int .i64 v34.At)) ∧ (Eqc (.flt .f32 v34.Place.X.bits)) ∧ (Eqc (.flt .f32 v34.Place.Y.bits)) ∧ (Eqc (.flt .f32 v34.Place.Z.bits)) ∧ Tt) ∧ (Eqc (.int .i64 a3)) ∧ Tt) ∧ CallOK Try.prog 151 [.agg (cs_RootKey v34), .one (.int .i64 a3)] [.agg (cs_RootKey v36)]) ∧ Tt))) ∧ (Tt ∧ Tt)) 10 [.no, .no, .no, .no, .no, .no, .no, .call [.agg (cs_RootKey (a1.getD ((IntKind.i64.wrap (x2 - (1 : Int))).toNat) default)), .agg (cs_RootKey (a1.getD x2.toNat default)), .one (.flt .f32 ((v31.mul v31).mul ((Fl.mk (k := .f32) 1077936128 (by decide)).sub ((Fl.mk (k := .f32) 1073741824 (by decide)).mul v31))).bits)] [.agg (cs_RootKey v34)] [[.view, .view, .view, .view]], .no, .call [.agg (cs_RootKey v34), .one (.int .i64 a3)] [.agg (cs_RootKey v36)] [[.view, .view, .view, .view]]] [8] [2] ⟨⟨tr, tr, tr, tr, tr, tr, tr, ⟨⟨⟨rfl, rfl, rfl, rfl, tr⟩, ⟨rfl, rfl, rfl, rfl, tr⟩, rfl, tr⟩, ok_impl_rootTrack_3 K (a1.getD ((IntKind.i64.wrap (x2 - (1 : Int))).toNat) default) (a1.getD x2.toNat default) ((v31.mul v31).mul ((Fl.mk (k := .f32) 1077936128 (by decide)).sub ((Fl.mk (k := .f32) 1073741824 (by decide)).mul v31))) v34 e35⟩, tr, ⟨⟨⟨rfl, rfl, rfl, rfl, tr⟩, rfl, tr⟩, ok_impl_rootTrack_2 K v34 a3 v36 e37⟩, tr⟩, ⟨tr, tr⟩⟩ ?_
          refine thenQ_normal ?_
          refine AW.ret ?_
          replace h := some_eq h
          subst h
          exact ⟨.inr rfl, retOK_of [(.agg [(.c (.int .i64 v36.At)), (.c (.flt .f32 v36.Place.X.bits)), (.c (.flt .f32 v36.Place.Y.bits)), (.c (.flt .f32 v36.Place.Z.bits))])] (by kernel_rfl) ⟨⟨⟨rfl, tr⟩, ⟨rfl, tr⟩, ⟨rfl, tr⟩, ⟨rfl, tr⟩, tr⟩, tr⟩ (of_decide_eq_true (by kernel_rfl))⟩
        · refine AW.cond_f rfl b33 ?_
          refine AW.skip ?_
          refine thenQ_normal ?_
          refine AW.seq ?_
          obtain ⟨v38, e39, h⟩ := bind_some h
          obtain ⟨v40, e41, h⟩ := bind_some h
          refine AW.dA ⟨[(8, (vp 2 0))], [(2, (.box [(.c (.int .i64 v40.At)), (.c (.flt .f32 v40.Place.X.bits)), (.c (.flt .f32 v40.Place.Y.bits)), (.c (.flt .f32 v40.Place.Z.bits))]))]⟩ ((Tt ∧ T2 (T4 (((((((.int .i64 ((a1.getD ((IntKind.i64.wrap (x2 - (1 : Int))).toNat) default).At)) : C) = (.int .i64 ((a1.getD ((IntKind.i64.wrap (x2 - (1 : Int))).toNat) default).At))) ∧ (((.flt .f32 (((a1.getD ((IntKind.i64.wrap (x2 - (1 : Int))).toNat) default).Place).X).bits) : C) = (.flt .f32 (((a1.getD ((IntKind.i64.wrap (x2 - (1 : Int))).toNat) default).Place).X).bits)) ∧ (((.flt .f32 (((a1.getD ((IntKind.i64.wrap (x2 - (1 : Int))).toNat) default).Place).Y).bits) : C) = (.flt .f32 (((a1.getD ((IntKind.i64.wrap (x2 - (1 : Int))).toNat) default).Place).Y).bits)) ∧ (((.flt .f32 (((a1.getD ((IntKind.i64.wrap (x2 - (1 : Int))).toNat) default).Place).Z).bits) : C) = (.flt .f32 (((a1.getD ((IntKind.i64.wrap (x2 - (1 : Int))).toNat) default).Place).Z).bits)) ∧ Tt) ∧ ((Eqc (.int .i64 ((a1.getD x2.toNat default).At))) ∧ (Eqc (.flt .f32 (((a1.getD x2.toNat default).Place).X).bits)) ∧ (Eqc (.flt .f32 (((a1.getD x2.toNat default).Place).Y).bits)) ∧ (Eqc (.flt .f32 (((a1.getD x2.toNat default).Place).Z).bits)) ∧ Tt) ∧ (Eqc (.flt .f32 v31.bits)) ∧ Tt) ∧ CallOK Try.prog 152 [.agg (cs_RootKey (a1.getD ((IntKind.i64.wrap (x2 - (1 : Int))).toNat) default)), .agg (cs_RootKey (a1.getD x2.toNat default)), .one (.flt .f32 v31.bits)] [.agg (cs_RootKey v38)]) ∧ Tt ∧ ((((Eqc (.int .i64 v38.At)) ∧ (Eqc (.flt .f32 v38.Place.X.bits)) ∧ (Eqc (.flt .f32 v38.Place.Y.bits)) ∧ (Eqc (.flt .f32 v38.Place.Z.bits)) ∧ Tt) ∧ (Eqc (.int .i64 a3)) ∧ Tt) ∧ CallOK Try.prog 151 [.agg (cs_RootKey v38), .one (.int .i64 a3)] [.agg (cs_RootKey v40)]) ∧ Tt))) ∧ (Tt ∧ Tt)) 10 [.no, .no, .no, .no, .no, .no, .no, .call [.agg (cs_RootKey (a1.getD ((IntKind.i64.wrap (x2 - (1 : Int))).toNat) default)), .agg (cs_RootKey (a1.getD x2.toNat default)), .one (.flt .f32 v31.bits)] [.agg (cs_RootKey v38)] [[.view, .view, .view, .view]], .no, .call [.agg (cs_RootKey v38), .one (.int .i64 a3)] [.agg (cs_RootKey v40)] [[.view, .view, .view, .view]]] [8] [2] ⟨⟨tr, tr, tr, tr, tr, tr, tr, ⟨⟨⟨rfl, rfl, rfl, rfl, tr⟩, ⟨rfl, rfl, rfl, rfl, tr⟩, rfl, tr⟩, ok_impl_rootTrack_3 K (a1.getD ((IntKind.i64.wrap (x2 - (1 : Int))).toNat) default) (a1.getD x2.toNat default) v31 v38 e39⟩, tr, ⟨⟨⟨rfl, rfl, rfl, rfl, tr⟩, rfl, tr⟩, ok_impl_rootTrack_2 K v38 a3 v40 e41⟩, tr⟩, ⟨tr, tr⟩⟩ ?_
          refine thenQ_normal ?_
          refine AW.ret ?_
          replace h := some_eq h
          subst h
          exact ⟨.inr rfl, retOK_of [(.agg [(.c (.int .i64 v40.At)), (.c (.flt .f32 v40.Place.X.bits)), (.c (.flt .f32 v40.Place.Y.bits)), (.c (.flt .f32 v40.Place.Z.bits))])] (by kernel_rfl) ⟨⟨⟨rfl, tr⟩, ⟨rfl, tr⟩, ⟨rfl, tr⟩, ⟨rfl, tr⟩, tr⟩, tr⟩ (of_decide_eq_true (by kernel_rfl))⟩

/-! (impl.track[impl.RootKey]).cut -/
def impl_track_impl_RootKey_cut_l1 (K : Nat) (a1 : (List RootKey)) (a2 : Int) (a3 : Int) (a4 : Int) : Nat → Int → (List RootKey) → Option ((List RootKey))
  | 0, _, _ => none
  | k + 1, x7, x8 => ite2 ((decide (x7 < (a1.length : Int)))) (chk (0 ≤ x7 ∧ x7 < (a1.length : Int)) ((impl_rootTrack_1 K (a1.getD x7.toNat default)).bind fun v11 => (ite2 ((decide (v11 > a3))) (some (decide (v11 < a4))) (some false)).bind fun j14 => ite2 (j14) ((impl_rootTrack_2 K (a1.getD x7.toNat default) (IntKind.i64.wrap (v11 - a3))).bind fun v17 => chk ((x8.length + ([v17]).length) * 24 ≤ 140737488355328) (impl_track_impl_RootKey_cut_l1 K a1 a2 a3 a4 k (IntKind.i64.wrap (x7 + (1 : Int))) (x8 ++ ([v17])))) (impl_track_impl_RootKey_cut_l1 K a1 a2 a3 a4 k (IntKind.i64.wrap (x7 + (1 : Int))) x8))) ((impl_track_impl_RootKey_sample K a1 a2 a4).bind fun v20 => (impl_rootTrack_2 K v20 (IntKind.i64.wrap (a4 - a3))).bind fun v22 => chk ((x8.length + ([v22]).length) * 24 ≤ 140737488355328) (some (x8 ++ ([v22]))))

def impl_track_impl_RootKey_cut (K : Nat) (a1 : (List RootKey)) (a2 : Int) (a3 : Int) (a4 : Int) : Option ((List RootKey)) :=
  (impl_track_impl_RootKey_sample K a1 a2 a3).bind fun v1 => (impl_rootTrack_2 K v1 (0 : Int)).bind fun v3 => impl_track_impl_RootKey_cut_l1 K a1 a2 a3 a4 K (0 : Int) ([v3])

theorem ok_impl_track_impl_RootKey_cut (K : Nat) (a1 : (List RootKey)) (a2 : Int) (a3 : Int) (a4 : Int) (o : ((List RootKey))) (h : impl_track_impl_RootKey_cut K a1 a2 a3 a4 = some o) : CallOK Try.prog 94 [.agg [(.fn 150 0 fun _ => .nilptr), (.fn 151 0 fun _ => .nilptr), (.fn 152 0 fun _ => .nilptr)], .one (sl 4 cs_RootKey a1), .one (.int .i64 a2), .one (.int .i64 a3), .one (.int .i64 a4)] [.one (sl 4 cs_RootKey o)] := by
  refine callOK_of_AW Try.func94 rfl (by kernel_rfl) (Nat.le_of_ble_eq_true (by kernel_rfl)) ?_
  intro w0
  unfold impl_track_impl_RootKey_cut at h
  refine AW.seq (AW.rA ⟨[(1, (vc (sl 4 cs_RootKey a1))), (2, (vc (.int .i64 a2))), (3, (vc (.int .i64 a3))), (4, (vc (.int .i64 a4))), (5, (vp 1 0))], [(1, (.box [(.c (.fn 150 0 fun _ => .nilptr)), (.c (.fn 151 0 fun _ => .nilptr)), (.c (.fn 152 0 fun _ => .nilptr))]))]⟩ (T2 Tt) [.box 1] [1, 2, 3, 4, 5] [1] ⟨tr, tr, tr⟩ (thenQ_normal ?_))
  refine AW.seq ?_
  obtain ⟨v1, e2, h⟩ := bind_some h
  obtain ⟨v3, e4, h⟩ := bind_some h
  refine AW.dA ⟨[(1, (vc (sl 4 cs_RootKey a1))), (2, (vc (.int .i64 a2))), (3, (vc (.int .i64 a3))), (4, (vc (.int .i64 a4))), (5, (vp 1 0)), (11, (.v (.one (.lst 2 ([v3]).length 4 (gl cs_RootKey ([v3]))))))], [(1, (.box [(.c (.fn 150 0 fun _ => .nilptr)), (.c (.fn 151 0 fun _ => .nilptr)), (.c (.fn 152 0 fun _ => .nilptr))])), (2, (.lst ([v3]).length 4 (gl cs_RootKey ([v3]))))]⟩ ((T2 (T4 (((((Eqc (.fn 150 0 fun _ => .nilptr)) ∧ (Eqc (.fn 151 0 fun _ => .nilptr)) ∧ (Eqc (.fn 152 0 fun _ => .nilptr)) ∧ Tt) ∧ (Eqc (sl 4 cs_RootKey a1)) ∧ (Eqc (.int .i64 a2)) ∧ (Eqc (.int .i64 a3)) ∧ Tt) ∧ CallOK Try.prog 161 [.agg [(.fn 150 0 fun _ => .nilptr), (.fn 151 0 fun _ => .nilptr), (.fn 152 0 fun _ => .nilptr)], .one (sl 4 cs_RootKey a1), .one (.int .i64 a2), .one (.int .i64 a3)] [.agg (cs_RootKey v1)]) ∧ ((((Eqc (.int .i64 v1.At)) ∧ (Eqc (.flt .f32 v1.Place.X.bits)) ∧ (Eqc (.flt .f32 v1.Place.Y.bits)) ∧ (Eqc (.flt .f32 v1.Place.Z.bits)) ∧ Tt) ∧ (Eqc (.int .i64 (0 : Int))) ∧ Tt) ∧ CallOK Try.prog 151 [.agg (cs_RootKey v1), .one (.int .i64 (0 : Int))] [.agg (cs_RootKey v3)]) ∧ (([v3]).length = 1 ∧ (((.int .i64 v3.At) : C) = (.int .i64 v3.At) ∧ Tt) ∧ (((.flt .f32 v3.Place.X.bits) : C) = (.flt .f32 v3.Place.X.bits) ∧ Tt) ∧ (((.flt .f32 v3.Place.Y.bits) : C) = (.flt .f32 v3.Place.Y.bits) ∧ Tt) ∧ (((.flt .f32 v3.Place.Z.bits) : C) = (.flt .f32 v3.Place.Z.bits) ∧ Tt) ∧ Tt) ∧ Tt ∧ Tt))) ∧ (Tt)) 10 [.no, .no, .no, .no, .no, .no, .call [.agg [(.fn 150 0 fun _ => .nilptr), (.fn 151 0 fun _ => .nilptr), (.fn 152 0 fun _ => .nilptr)], .one (sl 4 cs_RootKey a1), .one (.int .i64 a2), .one (.int .i64 a3)] [.agg (cs_RootKey v1)] [[.view, .view, .view, .view]], .call [.agg (cs_RootKey v1), .one (.int .i64 (0 : Int))] [.agg (cs_RootKey v3)] [[.view, .view, .view, .view]], .obj 2 ([v3]).length (gl cs_RootKey ([v3]))] [1, 2, 3, 4, 5, 11] [1, 2] ⟨⟨tr, tr, tr, tr, tr, tr, ⟨⟨⟨rfl, rfl, rfl, tr⟩, rfl, rfl, rfl, tr⟩, ok_impl_track_impl_RootKey_sample K a1 a2 a3 v1 e2⟩, ⟨⟨⟨rfl, rfl, rfl, rfl, tr⟩, rfl, tr⟩, ok_impl_rootTrack_2 K v1 (0 : Int) v3 e4⟩, ⟨rfl, ⟨⟨rfl, tr⟩, ⟨rfl, tr⟩, ⟨rfl, tr⟩, ⟨rfl, tr⟩, tr⟩⟩, tr, tr⟩, tr⟩ ?_
  refine thenQ_normal ?_
  refine AW.seq ?_
  refine AW.seq (AW.rA ⟨[(1, (vc (sl 4 cs_RootKey a1))), (2, (vc (.int .i64 a2))), (3, (vc (.int .i64 a3))), (4, (vc (.int .i64 a4))), (5, (vp 1 0)), (11, (.v (.one (.lst 2 ([v3]).length 4 (gl cs_RootKey ([v3])))))), (24, (vc (sl 4 cs_RootKey a1))), (25, (vc (.int .i64 (a1.length : Int)))), (26, (vc (.int .i64 (0 : Int))))], [(1, (.box [(.c (.fn 150 0 fun _ => .nilptr)), (.c (.fn 151 0 fun _ => .nilptr)), (.c (.fn 152 0 fun _ => .nilptr))])), (2, (.lst ([v3]).length 4 (gl cs_RootKey ([v3]))))]⟩ (Tt ∧ T2 Tt) [] [1, 2, 3, 4, 5, 11, 24, 25, 26] [1, 2] ⟨tr, tr, tr, tr⟩ (thenQ_normal ?_))
  refine AW.block ?_
  refine AW.loopQ (σ := Nat × Int × (List RootKey)) (fun p => ⟨[(1, (vc (sl 4 cs_RootKey a1))), (2, (vc (.int .i64 a2))), (3, (vc (.int .i64 a3))), (4, (vc (.int .i64 a4))), (5, (vp 1 0)), (11, (.v (.one (.lst 2 p.2.2.length 4 (gl cs_RootKey p.2.2))))), (24, (vc (sl 4 cs_RootKey a1))), (25, (vc (.int .i64 (a1.length : Int)))), (26, (vc (.int .i64 p.2.1)))], [(1, (.box [(.c (.fn 150 0 fun _ => .nilptr)), (.c (.fn 151 0 fun _ => .nilptr)), (.c (.fn 152 0 fun _ => .nilptr))])), (2, (.lst p.2.2.length 4 (gl cs_RootKey p.2.2)))]⟩) (fun p => impl_track_impl_RootKey_cut_l1 K a1 a2 a3 a4 p.1 p.2.1 p.2.2 = some o) (fun p => p.1) (K, (0 : Int), [v3]) h ?_
  clear h
  rintro ⟨k, x7, x8⟩ h
  replace h : impl_track_impl_RootKey_cut_l1 K a1 a2 a3 a4 k x7 x8 = some o := h
  show AW _ _ (⟨[(1, (vc (sl 4 cs_RootKey a1))), (2, (vc (.int .i64 a2))), (3, (vc (.int .i64 a3))), (4, (vc (.int .i64 a4))), (5, (vp 1 0)), (11, (.v (.one (.lst 2 x8.length 4 (gl cs_RootKey x8))))), (24, (vc (sl 4 cs_RootKey a1))), (25, (vc (.int .i64 (a1.length : Int)))), (26, (vc (.int .i64 x7)))], [(1, (.box [(.c (.fn 150 0 fun _ => .nilptr)), (.c (.fn 151 0 fun _ => .nilptr)), (.c (.fn 152 0 fun _ => .nilptr))])), (2, (.lst x8.length 4 (gl cs_RootKey x8)))]⟩ : St) _
  obtain _ | k := k
  · rw [impl_track_impl_RootKey_cut_l1] at h; cases h
  rw [impl_track_impl_RootKey_cut_l1] at h
  refine AW.seq (AW.rA ⟨[(1, (vc (sl 4 cs_RootKey a1))), (2, (vc (.int .i64 a2))), (3, (vc (.int .i64 a3))), (4, (vc (.int .i64 a4))), (5, (vp 1 0)), (11, (.v (.one (.lst 2 x8.length 4 (gl cs_RootKey x8))))), (24, (vc (sl 4 cs_RootKey a1))), (25, (vc (.int .i64 (a1.length : Int)))), (26, (vc (.int .i64 x7))), (27, (vc (.bool (decide (x7 < (a1.length : Int))))))], [(1, (.box [(.c (.fn 150 0 fun _ => .nilptr)), (.c (.fn 151 0 fun _ => .nilptr)), (.c (.fn 152 0 fun _ => .nilptr))])), (2, (.lst x8.length 4 (gl cs_RootKey x8)))]⟩ (Tt ∧ Tt) [] [1, 2, 3, 4, 5, 11, 24, 25, 26, 27] [1, 2] ⟨tr, tr⟩ (thenQ_normal ?_))
  refine AW.seq ?_
  rcases ite2_cases h with ⟨b9, h⟩ | ⟨b9, h⟩
  · refine AW.cond_t rfl b9 ?_
    refine AW.skip ?_
    refine thenQ_normal ?_
    refine AW.seq ?_
    refine AW.block ?_
    refine AW.seq ?_
    obtain ⟨c10, h⟩ := chk_some h
    refine AW.rA ⟨[(1, (vc (sl 4 cs_RootKey a1))), (2, (vc (.int .i64 a2))), (3, (vc (.int .i64 a3))), (4, (vc (.int .i64 a4))), (5, (vp 1 0)), (11, (.v (.one (.lst 2 x8.length 4 (gl cs_RootKey x8))))), (13, (vp 9 0)), (24, (vc (sl 4 cs_RootKey a1))), (25, (vc (.int .i64 (a1.length : Int)))), (26, (vc (.int .i64 x7)))], [(1, (.box [(.c (.fn 150 0 fun _ => .nilptr)), (.c (.fn 151 0 fun _ => .nilptr)), (.c (.fn 152 0 fun _ => .nilptr))])), (2, (.lst x8.length 4 (gl cs_RootKey x8))), (9, (.box [(.c (.int .i64 ((a1.getD x7.toNat default).At))), (.c (.flt .f32 (((a1.getD x7.toNat default).Place).X).bits)), (.c (.flt .f32 (((a1.getD x7.toNat default).Place).Y).bits)), (.c (.flt .f32 (((a1.getD x7.toNat default).Place).Z).bits))]))]⟩ ((0 ≤ x7 ∧ x7 < (a1.length : Int)) ∧ Tt ∧ T2 Tt) [.no, .no, .box 9] [1, 2, 3, 4, 5, 11, 13, 24, 25, 26] [1, 2, 9] ⟨c10, tr, tr, tr, tr⟩ ?_
    refine thenQ_normal ?_
    refine AW.seq ?_
    obtain ⟨v11, e12, h⟩ := bind_some h
    refine AW.rA ⟨[(1, (vc (sl 4 cs_RootKey a1))), (2, (vc (.int .i64 a2))), (3, (vc (.int .i64 a3))), (4, (vc (.int .i64 a4))), (5, (vp 1 0)), (11, (.v (.one (.lst 2 x8.length 4 (gl cs_RootKey x8))))), (13, (vp 9 0)), (14, (vc (.int .i64 v11))), (24, (vc (sl 4 cs_RootKey a1))), (25, (vc (.int .i64 (a1.length : Int)))), (26, (vc (.int .i64 x7)))], [(1, (.box [(.c (.fn 150 0 fun _ => .nilptr)), (.c (.fn 151 0 fun _ => .nilptr)), (.c (.fn 152 0 fun _ => .nilptr))])), (2, (.lst x8.length 4 (gl cs_RootKey x8))), (9, (.box [(.c (.int .i64 ((a1.getD x7.toNat default).At))), (.c (.flt .f32 (((a1.getD x7.toNat default).Place).X).bits)), (.c (.flt .f32 (((a1.getD x7.toNat default).Place).Y).bits)), (.c (.flt .f32 (((a1.getD x7.toNat default).Place).Z).bits))]))]⟩ (Tt ∧ T2 (((((Eqc (.int .i64 ((a1.getD x7.toNat default).At))) ∧ (Eqc (.flt .f32 (((a1.getD x7.toNat default).Place).X).bits)) ∧ (Eqc (.flt .f32 (((a1.getD x7.toNat default).Place).Y).bits)) ∧ (Eqc (.flt .f32 (((a1.getD x7.toNat default).Place).Z).bits)) ∧ Tt) ∧ Tt) ∧ CallOK Try.prog 150 [.agg (cs_RootKey (a1.getD x7.toNat default))] [.one (.int .i64 v11)]) ∧ Tt ∧ Tt)) [.no, .no, .no, .call [.agg (cs_RootKey (a1.getD x7.toNat default))] [.one (.int .i64 v11)] [[.view]]] [1, 2, 3, 4, 5, 11, 13, 14, 24, 25, 26] [1, 2, 9] ⟨tr, tr, tr, ⟨⟨⟨rfl, rfl, rfl, rfl, tr⟩, tr⟩, ok_impl_rootTrack_1 K (a1.getD x7.toNat default) v11 e12⟩, tr, tr⟩ ?_
    refine thenQ_normal ?_
    refine AW.seq ?_
    obtain ⟨j14, e15, h⟩ := bind_some h
    refine AW.join1 (s2 := ⟨[(1, (vc (sl 4 cs_RootKey a1))), (2, (vc (.int .i64 a2))), (3, (vc (.int .i64 a3))), (4, (vc (.int .i64 a4))), (5, (vp 1 0)), (11, (.v (.one (.lst 2 x8.length 4 (gl cs_RootKey x8))))), (13, (vp 9 0)), (14, (vc (.int .i64 v11))), (24, (vc (sl 4 cs_RootKey a1))), (25, (vc (.int .i64 (a1.length : Int)))), (26, (vc (.int .i64 x7))), (41, (vc (.bool j14)))], [(1, (.box [(.c (.fn 150 0 fun _ => .nilptr)), (.c (.fn 151 0 fun _ => .nilptr)), (.c (.fn 152 0 fun _ => .nilptr))])), (2, (.lst x8.length 4 (gl cs_RootKey x8))), (9, (.box [(.c (.int .i64 ((a1.getD x7.toNat default).At))), (.c (.flt .f32 (((a1.getD x7.toNat default).Place).X).bits)), (.c (.flt .f32 (((a1.getD x7.toNat default).Place).Y).bits)), (.c (.flt .f32 (((a1.getD x7.toNat default).Place).Z).bits))]))]⟩) ?_ ?_
    · rcases ite2_cases e15 with ⟨b13, e15⟩ | ⟨b13, e15⟩
      · replace e15 := some_eq e15
        subst e15
        exact AW.rA ⟨[(1, (vc (sl 4 cs_RootKey a1))), (2, (vc (.int .i64 a2))), (3, (vc (.int .i64 a3))), (4, (vc (.int .i64 a4))), (5, (vp 1 0)), (11, (.v (.one (.lst 2 x8.length 4 (gl cs_RootKey x8))))), (13, (vp 9 0)), (14, (vc (.int .i64 v11))), (24, (vc (sl 4 cs_RootKey a1))), (25, (vc (.int .i64 (a1.length : Int)))), (26, (vc (.int .i64 x7))), (41, (vc (.bool (decide (v11 < a4)))))], [(1, (.box [(.c (.fn 150 0 fun _ => .nilptr)), (.c (.fn 151 0 fun _ => .nilptr)), (.c (.fn 152 0 fun _ => .nilptr))])), (2, (.lst x8.length 4 (gl cs_RootKey x8))), (9, (.box [(.c (.int .i64 ((a1.getD x7.toNat default).At))), (.c (.flt .f32 (((a1.getD x7.toNat default).Place).X).bits)), (.c (.flt .f32 (((a1.getD x7.toNat default).Place).Y).bits)), (.c (.flt .f32 (((a1.getD x7.toNat default).Place).Z).bits))]))]⟩ (Tt ∧ T2 ((Tt ∧ (decide (v11 > a3)) = true) ∧ T4 Tt)) [.no, .no, .no, .dec true] [1, 2, 3, 4, 5, 11, 13, 14, 24, 25, 26, 41] [1, 2, 9] ⟨tr, tr, tr, ⟨tr, b13⟩, tr, tr, tr, tr, tr⟩ ⟨rfl, rfl⟩
      · replace e15 := some_eq e15
        subst e15
        exact AW.rA ⟨[(1, (vc (sl 4 cs_RootKey a1))), (2, (vc (.int .i64 a2))), (3, (vc (.int .i64 a3))), (4, (vc (.int .i64 a4))), (5, (vp 1 0)), (11, (.v (.one (.lst 2 x8.length 4 (gl cs_RootKey x8))))), (13, (vp 9 0)), (14, (vc (.int .i64 v11))), (24, (vc (sl 4 cs_RootKey a1))), (25, (vc (.int .i64 (a1.length : Int)))), (26, (vc (.int .i64 x7))), (41, (vc (.bool false)))], [(1, (.box [(.c (.fn 150 0 fun _ => .nilptr)), (.c (.fn 151 0 fun _ => .nilptr)), (.c (.fn 152 0 fun _ => .nilptr))])), (2, (.lst x8.length 4 (gl cs_RootKey x8))), (9, (.box [(.c (.int .i64 ((a1.getD x7.toNat default).At))), (.c (.flt .f32 (((a1.getD x7.toNat default).Place).X).bits)), (.c (.flt .f32 (((a1.getD x7.toNat default).Place).Y).bits)), (.c (.flt .f32 (((a1.getD x7.toNat default).Place).Z).bits))]))]⟩ (Tt ∧ T2 ((Tt ∧ (decide (v11 > a3)) = false) ∧ T4 Tt)) [.no, .no, .no, .dec false] [1, 2, 3, 4, 5, 11, 13, 14, 24, 25, 26, 41] [1, 2, 9] ⟨tr, tr, tr, ⟨tr, b13⟩, tr, tr, tr, tr, tr⟩ ⟨rfl, rfl⟩
    refine thenQ_normal ?_
    rcases ite2_cases h with ⟨b16, h⟩ | ⟨b16, h⟩
    · refine AW.cond_t rfl b16 ?_
      obtain ⟨v17, e18, h⟩ := bind_some h
      obtain ⟨c19, h⟩ := chk_some h
      refine AW.rA ⟨[(1, (vc (sl 4 cs_RootKey a1))), (2, (vc (.int .i64 a2))), (3, (vc (.int .i64 a3))), (4, (vc (.int .i64 a4))), (5, (vp 1 0)), (11, (.v (.one (.lst 11 (x8 ++ ([v17])).length 4 (gl cs_RootKey (x8 ++ ([v17]))))))), (24, (vc (sl 4 cs_RootKey a1))), (25, (vc (.int .i64 (a1.length : Int)))), (26, (vc (.int .i64 x7)))], [(1, (.box [(.c (.fn 150 0 fun _ => .nilptr)), (.c (.fn 151 0 fun _ => .nilptr)), (.c (.fn 152 0 fun _ => .nilptr))])), (11, (.lst (x8 ++ ([v17])).length 4 (gl cs_RootKey (x8 ++ ([v17])))))]⟩ (Tt ∧ T2 (T4 (((((Eqc (.int .i64 ((a1.getD x7.toNat default).At))) ∧ (Eqc (.flt .f32 (((a1.getD x7.toNat default).Place).X).bits)) ∧ (Eqc (.flt .f32 (((a1.getD x7.toNat default).Place).Y).bits)) ∧ (Eqc (.flt .f32 (((a1.getD x7.toNat default).Place).Z).bits)) ∧ Tt) ∧ (Eqc (.int .i64 (IntKind.i64.wrap (v11 - a3)))) ∧ Tt) ∧ CallOK Try.prog 151 [.agg (cs_RootKey (a1.getD x7.toNat default)), .one (.int .i64 (IntKind.i64.wrap (v11 - a3)))] [.agg (cs_RootKey v17)]) ∧ (([v17]).length = 1 ∧ (((.int .i64 v17.At) : C) = (.int .i64 v17.At) ∧ Tt) ∧ (((.flt .f32 v17.Place.X.bits) : C) = (.flt .f32 v17.Place.X.bits) ∧ Tt) ∧ (((.flt .f32 v17.Place.Y.bits) : C) = (.flt .f32 v17.Place.Y.bits) ∧ Tt) ∧ (((.flt .f32 v17.Place.Z.bits) : C) = (.flt .f32 v17.Place.Z.bits) ∧ Tt) ∧ Tt) ∧ ((x8 ++ ([v17])).length = x8.length + ([v17]).length ∧ AppOb (x8.length) (([v17]).length) 4 (gl cs_RootKey x8) (gl cs_RootKey ([v17])) (gl cs_RootKey (x8 ++ ([v17]))) ∧ (∀ i j, i < ([v17]).length → j < 4 → scalarC (gl cs_RootKey ([v17]) i j)) ∧ (x8.length + ([v17]).length) * 24 ≤ 140737488355328) ∧ Tt ∧ Tt))) [.no, .no, .no, .no, .no, .no, .no, .call [.agg (cs_RootKey (a1.getD x7.toNat default)), .one (.int .i64 (IntKind.i64.wrap (v11 - a3)))] [.agg (cs_RootKey v17)] [[.view, .view, .view, .view]], .obj 10 ([v17]).length (gl cs_RootKey ([v17])), .objK 11 (x8 ++ ([v17])).length (gl cs_RootKey (x8 ++ ([v17])))] [1, 2, 3, 4, 5, 11, 24, 25, 26] [1, 11] ⟨tr, tr, tr, tr, tr, tr, tr, ⟨⟨⟨rfl, rfl, rfl, rfl, tr⟩, rfl, tr⟩, ok_impl_rootTrack_2 K (a1.getD x7.toNat default) (IntKind.i64.wrap (v11 - a3)) v17 e18⟩, ⟨rfl, ⟨⟨rfl, tr⟩, ⟨rfl, tr⟩, ⟨rfl, tr⟩, ⟨rfl, tr⟩, tr⟩⟩, ⟨List.length_append, gl_append, gl_scalar sc_RootKey _, c19⟩, tr, tr⟩ ?_
      refine blockQ_normal ?_
      refine thenQ_normal ?_
      refine AW.rA ⟨[(1, (vc (sl 4 cs_RootKey a1))), (2, (vc (.int .i64 a2))), (3, (vc (.int .i64 a3))), (4, (vc (.int .i64 a4))), (5, (vp 1 0)), (11, (.v (.one (.lst 11 (x8 ++ ([v17])).length 4 (gl cs_RootKey (x8 ++ ([v17]))))))), (24, (vc (sl 4 cs_RootKey a1))), (25, (vc (.int .i64 (a1.length : Int)))), (26, (vc (.int .i64 (IntKind.i64.wrap (x7 + (1 : Int))))))], [(1, (.box [(.c (.fn 150 0 fun _ => .nilptr)), (.c (.fn 151 0 fun _ => .nilptr)), (.c (.fn 152 0 fun _ => .nilptr))])), (11, (.lst (x8 ++ ([v17])).length 4 (gl cs_RootKey (x8 ++ ([v17])))))]⟩ (T2 Tt) [] [1, 2, 3, 4, 5, 11, 24, 25, 26] [1, 11] ⟨tr, tr, tr⟩ ?_
      exact loopQ_normal (k, (IntKind.i64.wrap (x7 + (1 : Int))), (x8 ++ ([v17]))) h (Nat.lt_succ_self k) (Sub.trans (Sub.swap 2 11 _ (by kernel_rfl) (by kernel_rfl)) (Sub.keep [1, 2, 3, 4, 5, 11, 24, 25, 26] [1, 2] (by kernel_rfl) (by kernel_rfl)))
    · refine AW.cond_f rfl b16 ?_
      refine AW.skip ?_
      refine blockQ_normal ?_
      refine thenQ_normal ?_
      refine AW.rA ⟨[(1, (vc (sl 4 cs_RootKey a1))), (2, (vc (.int .i64 a2))), (3, (vc (.int .i64 a3))), (4, (vc (.int .i64 a4))), (5, (vp 1 0)), (11, (.v (.one (.lst 2 x8.length 4 (gl cs_RootKey x8))))), (24, (vc (sl 4 cs_RootKey a1))), (25, (vc (.int .i64 (a1.length : Int)))), (26, (vc (.int .i64 (IntKind.i64.wrap (x7 + (1 : Int))))))], [(1, (.box [(.c (.fn 150 0 fun _ => .nilptr)), (.c (.fn 151 0 fun _ => .nilptr)), (.c (.fn 152 0 fun _ => .nilptr))])), (2, (.lst x8.length 4 (gl cs_RootKey x8)))]⟩ (T2 Tt) [] [1, 2, 3, 4, 5, 11, 24, 25, 26] [1, 2] ⟨tr, tr, tr⟩ ?_
      exact loopQ_normal (k, (IntKind.i64.wrap (x7 + (1 : Int))), x8) h (Nat.lt_succ_self k) (Sub.keep [1, 2, 3, 4, 5, 11, 24, 25, 26] [1, 2] (by kernel_rfl) (by kernel_rfl))
  · refine AW.cond_f rfl b9 ?_
    refine AW.exit ?_
    refine thenQ_exit ?_
    refine loopQ_exit ?_
    refine blockQ_exit ?_
    refine thenQ_normal ?_
    refine AW.seq ?_
    obtain ⟨v20, e21, h⟩ := bind_some h
    obtain ⟨v22, e23, h⟩ := bind_some h
    obtain ⟨c24, h⟩ := chk_some h
    refine AW.dA ⟨[(10, (.v (.one (.lst 13 (x8 ++ ([v22])).length 4 (gl cs_RootKey (x8 ++ ([v22])))))))], [(13, (.lst (x8 ++ ([v22])).length 4 (gl cs_RootKey (x8 ++ ([v22])))))]⟩ ((Tt ∧ T2 (T4 (((((Eqc (.fn 150 0 fun _ => .nilptr)) ∧ (Eqc (.fn 151 0 fun _ => .nilptr)) ∧ (Eqc (.fn 152 0 fun _ => .nilptr)) ∧ Tt) ∧ (Eqc (sl 4 cs_RootKey a1)) ∧ (Eqc (.int .i64 a2)) ∧ (Eqc (.int .i64 a4)) ∧ Tt) ∧ CallOK Try.prog 161 [.agg [(.fn 150 0 fun _ => .nilptr), (.fn 151 0 fun _ => .nilptr), (.fn 152 0 fun _ => .nilptr)], .one (sl 4 cs_RootKey a1), .one (.int .i64 a2), .one (.int .i64 a4)] [.agg (cs_RootKey v20)]) ∧ Tt ∧ T2 (((((Eqc (.int .i64 v20.At)) ∧ (Eqc (.flt .f32 v20.Place.X.bits)) ∧ (Eqc (.flt .f32 v20.Place.Y.bits)) ∧ (Eqc (.flt .f32 v20.Place.Z.bits)) ∧ Tt) ∧ (Eqc (.int .i64 (IntKind.i64.wrap (a4 - a3)))) ∧ Tt) ∧ CallOK Try.prog 151 [.agg (cs_RootKey v20), .one (.int .i64 (IntKind.i64.wrap (a4 - a3)))] [.agg (cs_RootKey v22)]) ∧ (([v22]).length = 1 ∧ (((.int .i64 v22.At) : C) = (.int .i64 v22.At) ∧ Tt) ∧ (((.flt .f32 v22.Place.X.bits) : C) = (.flt .f32 v22.Place.X.bits) ∧ Tt) ∧ (((.flt .f32 v22.Place.Y.bits) : C) = (.flt .f32 v22.Place.Y.bits) ∧ Tt) ∧ (((.flt .f32 v22.Place.Z.bits) : C) = (.flt .f32 v22.Place.Z.bits) ∧ Tt) ∧ Tt) ∧ ((x8 ++ ([v22])).length = x8.length + ([v22]).length ∧ AppOb (x8.length) (([v22]).length) 4 (gl cs_RootKey x8) (gl cs_RootKey ([v22])) (gl cs_RootKey (x8 ++ ([v22]))) ∧ (∀ i j, i < ([v22]).length → j < 4 → scalarC (gl cs_RootKey ([v22]) i j)) ∧ (x8.length + ([v22]).length) * 24 ≤ 140737488355328) ∧ Tt ∧ Tt)))) ∧ (Tt)) 15 [.no, .no, .no, .no, .no, .no, .no, .call [.agg [(.fn 150 0 fun _ => .nilptr), (.fn 151 0 fun _ => .nilptr), (.fn 152 0 fun _ => .nilptr)], .one (sl 4 cs_RootKey a1), .one (.int .i64 a2), .one (.int .i64 a4)] [.agg (cs_RootKey v20)] [[.view, .view, .view, .view]], .no, .no, .no, .call [.agg (cs_RootKey v20), .one (.int .i64 (IntKind.i64.wrap (a4 - a3)))] [.agg (cs_RootKey v22)] [[.view, .view, .view, .view]], .obj 12 ([v22]).length (gl cs_RootKey ([v22])), .objK 13 (x8 ++ ([v22])).length (gl cs_RootKey (x8 ++ ([v22])))] [10] [13] ⟨⟨tr, tr, tr, tr, tr, tr, tr, ⟨⟨⟨rfl, rfl, rfl, tr⟩, rfl, rfl, rfl, tr⟩, ok_impl_track_impl_RootKey_sample K a1 a2 a4 v20 e21⟩, tr, tr, tr, ⟨⟨⟨rfl, rfl, rfl, rfl, tr⟩, rfl, tr⟩, ok_impl_rootTrack_2 K v20 (IntKind.i64.wrap (a4 - a3)) v22 e23⟩, ⟨rfl, ⟨⟨rfl, tr⟩, ⟨rfl, tr⟩, ⟨rfl, tr⟩, ⟨rfl, tr⟩, tr⟩⟩, ⟨List.length_append, gl_append, gl_scalar sc_RootKey _, c24⟩, tr, tr⟩, tr⟩ ?_
    refine thenQ_normal ?_
    refine AW.ret ?_
    replace h := some_eq h
    subst h
    exact ⟨.inr rfl, retOK_of [(.one (.lst 13 (x8 ++ ([v22])).length 4 (gl cs_RootKey (x8 ++ ([v22])))))] (by kernel_rfl) ⟨rfl, tr⟩ (of_decide_eq_true (by kernel_rfl))⟩

/-! impl.CutClip$2 -/
def impl_CutClip_2 (K : Nat) (a0 : (List RootKey)) (a1 : Clip) (a2 : Int) (a3 : Int) : Option ((List RootKey)) :=
  (impl_rootTrack K ).bind fun v1 => (impl_track_impl_RootKey_cut K a0 a1.Kind a2 a3).bind fun v3 => some v3

theorem ok_impl_CutClip_2 (K : Nat) (a0 : (List RootKey)) (a1 : Clip) (a2 : Int) (a3 : Int) (o : ((List RootKey))) (h : impl_CutClip_2 K a0 a1 a2 a3 = some o) : CallOK Try.prog 93 [.one (sl 4 cs_RootKey a0), .one (pl 4 cs_Clip a1), .one (pl 1 (csI .i64) a2), .one (pl 1 (csI .i64) a3)] [.one (sl 4 cs_RootKey o)] := by
  refine callOK_of_AW Try.func93 rfl (by kernel_rfl) (Nat.le_of_ble_eq_true (by kernel_rfl)) ?_
  intro w0
  unfold impl_CutClip_2 at h
  refine AW.seq (AW.rA ⟨[(0, (vc (sl 4 cs_RootKey a0))), (1, (vc (pl 4 cs_Clip a1))), (2, (vc (pl 1 (csI .i64) a2))), (3, (vc (pl 1 (csI .i64) a3)))], []⟩ (Tt ∧ Tt) [] [0, 1, 2, 3] [] ⟨tr, tr⟩ (thenQ_normal ?_))
  refine AW.seq ?_
  obtain ⟨v1, e2, h⟩ := bind_some h
  obtain ⟨v3, e4, h⟩ := bind_some h
  refine AW.dA ⟨[(5, (.v (.one (.lst 1 v3.length 4 (gl cs_RootKey v3)))))], [(1, (.lst v3.length 4 (gl cs_RootKey v3)))]⟩ ((((Tt) ∧ CallOK Try.prog 79 [] [.agg [(.fn 150 0 fun _ => .nilptr), (.fn 151 0 fun _ => .nilptr), (.fn 152 0 fun _ => .nilptr)]]) ∧ Tt ∧ T4 (((((Eqc (.fn 150 0 fun _ => .nilptr)) ∧ (Eqc (.fn 151 0 fun _ => .nilptr)) ∧ (Eqc (.fn 152 0 fun _ => .nilptr)) ∧ Tt) ∧ (Eqc (sl 4 cs_RootKey a0)) ∧ (Eqc (.int .i64 a1.Kind)) ∧ (Eqc (.int .i64 a2)) ∧ (Eqc (.int .i64 a3)) ∧ Tt) ∧ CallOK Try.prog 94 [.agg [(.fn 150 0 fun _ => .nilptr), (.fn 151 0 fun _ => .nilptr), (.fn 152 0 fun _ => .nilptr)], .one (sl 4 cs_RootKey a0), .one (.int .i64 a1.Kind), .one (.int .i64 a2), .one (.int .i64 a3)] [.one (sl 4 cs_RootKey v3)]) ∧ Tt ∧ Tt)) ∧ (Tt)) 8 [.call [] [.agg [(.fn 150 0 fun _ => .nilptr), (.fn 151 0 fun _ => .nilptr), (.fn 152 0 fun _ => .nilptr)]] [[.view, .view, .view]], .no, .no, .no, .no, .no, .call [.agg [(.fn 150 0 fun _ => .nilptr), (.fn 151 0 fun _ => .nilptr), (.fn 152 0 fun _ => .nilptr)], .one (sl 4 cs_RootKey a0), .one (.int .i64 a1.Kind), .one (.int .i64 a2), .one (.int .i64 a3)] [.one (sl 4 cs_RootKey v3)] [[.lst 1]]] [5] [1] ⟨⟨⟨tr, ok_impl_rootTrack K v1 e2⟩, tr, tr, tr, tr, tr, ⟨⟨⟨rfl, rfl, rfl, tr⟩, rfl, rfl, rfl, rfl, tr⟩, ok_impl_track_impl_RootKey_cut K a0 a1.Kind a2 a3 v3 e4⟩, tr, tr⟩, tr⟩ ?_
  refine thenQ_normal ?_
  refine AW.ret ?_
  replace h := some_eq h
  subst h
  exact ⟨.inr rfl, retOK_of [(.one (.lst 1 v3.length 4 (gl cs_RootKey v3)))] (by kernel_rfl) ⟨rfl, tr⟩ (of_decide_eq_true (by kernel_rfl))⟩

/-! impl.turnTrack$2 -/
def impl_turnTrack_2 (_K : Nat) (a0 : Key) (a1 : Int) : Option (Key) :=
  some (Key.mk a1 a0.Turn)

theorem ok_impl_turnTrack_2 (K : Nat) (a0 : Key) (a1 : Int) (o : (Key)) (h : impl_turnTrack_2 K a0 a1 = some o) : CallOK Try.prog 147 [.agg (cs_Key a0), .one (.int .i64 a1)] [.agg (cs_Key o)] := by
  refine callOK_of_AW Try.func147 rfl (by kernel_rfl) (Nat.le_of_ble_eq_true (by kernel_rfl)) ?_
  intro w0
  unfold impl_turnTrack_2 at h
  refine AW.seq (AW.rA ⟨[(1, (vc (.int .i64 a1))), (2, (vp 1 0)), (4, (vp 2 0))], [(1, (.box [(.c (.int .i64 a0.At)), (.c (.flt .f32 a0.Turn.W.bits)), (.c (.flt .f32 a0.Turn.X.bits)), (.c (.flt .f32 a0.Turn.Y.bits)), (.c (.flt .f32 a0.Turn.Z.bits))])), (2, (.box [(.c (.int .i64 (0 : Int))), (.c (.flt .f32 (default : F32).bits)), (.c (.flt .f32 (default : F32).bits)), (.c (.flt .f32 (default : F32).bits)), (.c (.flt .f32 (default : F32).bits))]))]⟩ (T2 Tt) [.box 1, .box 2] [1, 2, 4] [1, 2] ⟨tr, tr, tr⟩ (thenQ_normal ?_))
  refine AW.seq (AW.rA ⟨[(2, (vp 1 0)), (4, (vp 2 0))], [(1, (.box [(.c (.int .i64 a1)), (.c (.flt .f32 a0.Turn.W.bits)), (.c (.flt .f32 a0.Turn.X.bits)), (.c (.flt .f32 a0.Turn.Y.bits)), (.c (.flt .f32 a0.Turn.Z.bits))])), (2, (.box [(.c (.int .i64 (0 : Int))), (.c (.flt .f32 (default : F32).bits)), (.c (.flt .f32 (default : F32).bits)), (.c (.flt .f32 (default : F32).bits)), (.c (.flt .f32 (default : F32).bits))]))]⟩ (Tt ∧ T2 Tt) [] [2, 4] [1, 2] ⟨tr, tr, tr, tr⟩ (thenQ_normal ?_))
  refine AW.seq (AW.rA ⟨[(4, (vp 2 0))], [(2, (.box [(.c (.int .i64 a1)), (.c (.flt .f32 a0.Turn.W.bits)), (.c (.flt .f32 a0.Turn.X.bits)), (.c (.flt .f32 a0.Turn.Y.bits)), (.c (.flt .f32 a0.Turn.Z.bits))]))]⟩ (T2 Tt) [] [4] [2] ⟨tr, tr, tr⟩ (thenQ_normal ?_))
  refine AW.ret ?_
  replace h := some_eq h
  subst h
  exact ⟨.inr rfl, retOK_of [(.agg [(.c (.int .i64 a1)), (.c (.flt .f32 a0.Turn.W.bits)), (.c (.flt .f32 a0.Turn.X.bits)), (.c (.flt .f32 a0.Turn.Y.bits)), (.c (.flt .f32 a0.Turn.Z.bits))])] (by kernel_rfl) ⟨⟨⟨rfl, tr⟩, ⟨rfl, tr⟩, ⟨rfl, tr⟩, ⟨rfl, tr⟩, ⟨rfl, tr⟩, tr⟩, tr⟩ (of_decide_eq_true (by kernel_rfl))⟩

/-! impl.InnerOfTurns -/
def impl_InnerOfTurns (_K : Nat) (a0 : Turn) (a1 : Turn) : Option (F32) :=
  some ((((a0.W.mul a1.W).add (a0.X.mul a1.X)).add (a0.Y.mul a1.Y)).add (a0.Z.mul a1.Z))

theorem ok_impl_InnerOfTurns (K : Nat) (a0 : Turn) (a1 : Turn) (o : (F32)) (h : impl_InnerOfTurns K a0 a1 = some o) : CallOK Try.prog 177 [.agg (cs_Turn a0), .agg (cs_Turn a1)] [.one (.flt .f32 o.bits)] := by
  refine callOK_of_AW Try.func177 rfl (by kernel_rfl) (Nat.le_of_ble_eq_true (by kernel_rfl)) ?_
  intro w0
  unfold impl_InnerOfTurns at h
  refine AW.seq (AW.rA ⟨[(2, (vp 1 0)), (3, (vp 2 0))], [(1, (.box [(.c (.flt .f32 a0.W.bits)), (.c (.flt .f32 a0.X.bits)), (.c (.flt .f32 a0.Y.bits)), (.c (.flt .f32 a0.Z.bits))])), (2, (.box [(.c (.flt .f32 a1.W.bits)), (.c (.flt .f32 a1.X.bits)), (.c (.flt .f32 a1.Y.bits)), (.c (.flt .f32 a1.Z.bits))]))]⟩ (Tt ∧ T2 Tt) [.box 1, .box 2] [2, 3] [1, 2] ⟨tr, tr, tr, tr⟩ (thenQ_normal ?_))
  refine AW.seq (AW.rA ⟨[(4, (vc (.flt .f32 ((((a0.W.mul a1.W).add (a0.X.mul a1.X)).add (a0.Y.mul a1.Y)).add (a0.Z.mul a1.Z)).bits)))], []⟩ (T4 (T4 (T4 (T4 (T4 (T4 Tt)))))) [] [4] [] ⟨tr, tr, tr, tr, tr, tr, tr, tr, tr, tr, tr, tr, tr, tr, tr, tr, tr, tr, tr, tr, tr, tr, tr, tr, tr⟩ (thenQ_normal ?_))
  refine AW.ret ?_
  replace h := some_eq h
  subst h
  exact ⟨.inr rfl, retOK_of [(.one (.c (.flt .f32 ((((a0.W.mul a1.W).add (a0.X.mul a1.X)).add (a0.Y.mul a1.Y)).add (a0.Z.mul a1.Z)).bits)))] (by kernel_rfl) ⟨⟨rfl, tr⟩, tr⟩ (of_decide_eq_true (by kernel_rfl))⟩

/-! (impl.Turn).opposite -/
def impl_Turn_opposite (_K : Nat) (a0 : Turn) : Option (Turn) :=
  some (Turn.mk (a0.W.neg) (a0.X.neg) (a0.Y.neg) (a0.Z.neg))

theorem ok_impl_Turn_opposite (K : Nat) (a0 : Turn) (o : (Turn)) (h : impl_Turn_opposite K a0 = some o) : CallOK Try.prog 178 [.agg (cs_Turn a0)] [.agg (cs_Turn o)] := by
  refine callOK_of_AW Try.func178 rfl (by kernel_rfl) (Nat.le_of_ble_eq_true (by kernel_rfl)) ?_
  intro w0
  unfold impl_Turn_opposite at h
  refine AW.seq (AW.rA ⟨[(1, (vp 1 0)), (2, (vp 2 0))], [(1, (.box [(.c (.flt .f32 a0.W.bits)), (.c (.flt .f32 a0.X.bits)), (.c (.flt .f32 a0.Y.bits)), (.c (.flt .f32 a0.Z.bits))])), (2, (.box [(.c (.flt .f32 (default : F32).bits)), (.c (.flt .f32 (default : F32).bits)), (.c (.flt .f32 (default : F32).bits)), (.c (.flt .f32 (default : F32).bits))]))]⟩ (T2 Tt) [.box 1, .box 2] [1, 2] [1, 2] ⟨tr, tr, tr⟩ (thenQ_normal ?_))
  refine AW.seq (AW.rA ⟨[(2, (vp 2 0))], [(2, (.box [(.c (.flt .f32 (a0.W.neg).bits)), (.c (.flt .f32 (a0.X.neg).bits)), (.c (.flt .f32 (a0.Y.neg).bits)), (.c (.flt .f32 (a0.Z.neg).bits))]))]⟩ (T2 (T4 (T4 (T4 Tt)))) [] [2] [2] ⟨tr, tr, tr, tr, tr, tr, tr, tr, tr, tr, tr, tr, tr, tr, tr⟩ (thenQ_normal ?_))
  refine AW.ret ?_
  replace h := some_eq h
  subst h
  exact ⟨.inr rfl, retOK_of [(.agg [(.c (.flt .f32 (a0.W.neg).bits)), (.c (.flt .f32 (a0.X.neg).bits)), (.c (.flt .f32 (a0.Y.neg).bits)), (.c (.flt .f32 (a0.Z.neg).bits))])] (by kernel_rfl) ⟨⟨⟨rfl, tr⟩, ⟨rfl, tr⟩, ⟨rfl, tr⟩, ⟨rfl, tr⟩, tr⟩, tr⟩ (of_decide_eq_true (by kernel_rfl))⟩

/-! impl.between -/
def impl_between (_K : Nat) (a0 : F32) (a1 : F32) (a2 : F32) : Option (F32) :=
  some (a0.add (a2.mul (a1.sub a0)))

theorem ok_impl_between (K : Nat) (a0 : F32) (a1 : F32) (a2 : F32) (o : (F32)) (h : impl_between K a0 a1 a2 = some o) : CallOK Try.prog 187 [.one (.flt .f32 a0.bits), .one (.flt .f32 a1.bits), .one (.flt .f32 a2.bits)] [.one (.flt .f32 o.bits)] := by
  refine callOK_of_AW Try.func187 rfl (by kernel_rfl) (Nat.le_of_ble_eq_true (by kernel_rfl)) ?_
  intro w0
  unfold impl_between at h
  refine AW.seq (AW.rA ⟨[(0, (vc (.flt .f32 a0.bits))), (1, (vc (.flt .f32 a1.bits))), (2, (vc (.flt .f32 a2.bits)))], []⟩ (Tt ∧ Tt) [] [0, 1, 2] [] ⟨tr, tr⟩ (thenQ_normal ?_))
  refine AW.seq (AW.rA ⟨[(6, (vc (.flt .f32 (a0.add (a2.mul (a1.sub a0))).bits)))], []⟩ (T4 (T4 Tt)) [] [6] [] ⟨tr, tr, tr, tr, tr, tr, tr, tr, tr⟩ (thenQ_normal ?_))
  refine AW.ret ?_
  replace h := some_eq h
  subst h
  exact ⟨.inr rfl, retOK_of [(.one (.c (.flt .f32 (a0.add (a2.mul (a1.sub a0))).bits)))] (by kernel_rfl) ⟨⟨rfl, tr⟩, tr⟩ (of_decide_eq_true (by kernel_rfl))⟩

/-! impl.RootNumber -/
def impl_RootNumber (K : Nat) (a0 : F32) : Option (F32) :=
  (math_Sqrt K (Fl.cv .f32 .f64 a0)).bind fun v1 => chk ((convBits .f64 v1.bits .f32).isSome = true) (some (Fl.cv .f64 .f32 v1))

theorem ok_impl_RootNumber (K : Nat) (a0 : F32) (o : (F32)) (h : impl_RootNumber K a0 = some o) : CallOK Try.prog 217 [.one (.flt .f32 a0.bits)] [.one (.flt .f32 o.bits)] := by
  refine callOK_of_AW Try.func217 rfl (by kernel_rfl) (Nat.le_of_ble_eq_true (by kernel_rfl)) ?_
  intro w0
  unfold impl_RootNumber at h
  refine AW.seq (AW.rA ⟨[(0, (vc (.flt .f32 a0.bits)))], []⟩ (Tt ∧ Tt) [] [0] [] ⟨tr, tr⟩ (thenQ_normal ?_))
  refine AW.seq ?_
  obtain ⟨v1, e2, h⟩ := bind_some h
  obtain ⟨c3, h⟩ := chk_some h
  refine AW.rA ⟨[(2, (vc (.flt .f32 (Fl.cv .f64 .f32 v1).bits)))], []⟩ (Tt ∧ ((convBits .f32 a0.bits .f64).isSome = true) ∧ (((Eqc (.flt .f64 (Fl.cv .f32 .f64 a0).bits)) ∧ Tt) ∧ CallOK Try.prog 208 [.one (.flt .f64 (Fl.cv .f32 .f64 a0).bits)] [.one (.flt .f64 v1.bits)]) ∧ ((convBits .f64 v1.bits .f32).isSome = true) ∧ Tt ∧ Tt) [.no, .no, .call [.one (.flt .f64 (Fl.cv .f32 .f64 a0).bits)] [.one (.flt .f64 v1.bits)] [[.view]]] [2] [] ⟨tr, cv_wide a0, ⟨⟨rfl, tr⟩, ok_math_Sqrt K (Fl.cv .f32 .f64 a0) v1 e2⟩, c3, tr, tr⟩ ?_
  refine thenQ_normal ?_
  refine AW.ret ?_
  replace h := some_eq h
  subst h
  exact ⟨.inr rfl, retOK_of [(.one (.c (.flt .f32 (Fl.cv .f64 .f32 v1).bits)))] (by kernel_rfl) ⟨⟨rfl, tr⟩, tr⟩ (of_decide_eq_true (by kernel_rfl))⟩

/-! impl.LengthOfTurn -/
def impl_LengthOfTurn (K : Nat) (a0 : Turn) : Option (F32) :=
  (impl_InnerOfTurns K a0 a0).bind fun v1 => (impl_RootNumber K v1).bind fun v3 => some v3

theorem ok_impl_LengthOfTurn (K : Nat) (a0 : Turn) (o : (F32)) (h : impl_LengthOfTurn K a0 = some o) : CallOK Try.prog 204 [.agg (cs_Turn a0)] [.one (.flt .f32 o.bits)] := by
  refine callOK_of_AW Try.func204 rfl (by kernel_rfl) (Nat.le_of_ble_eq_true (by kernel_rfl)) ?_
  intro w0
  unfold impl_LengthOfTurn at h
  refine AW.seq (AW.rA ⟨[(1, (vp 1 0))], [(1, (.box [(.c (.flt .f32 a0.W.bits)), (.c (.flt .f32 a0.X.bits)), (.c (.flt .f32 a0.Y.bits)), (.c (.flt .f32 a0.Z.bits))]))]⟩ (T2 Tt) [.box 1] [1] [1] ⟨tr, tr, tr⟩ (thenQ_normal ?_))
  refine AW.seq ?_
  obtain ⟨v1, e2, h⟩ := bind_some h
  obtain ⟨v3, e4, h⟩ := bind_some h
  refine AW.rA ⟨[(2, (vc (.flt .f32 v3.bits)))], []⟩ (T2 (((((Eqc (.flt .f32 a0.W.bits)) ∧ (Eqc (.flt .f32 a0.X.bits)) ∧ (Eqc (.flt .f32 a0.Y.bits)) ∧ (Eqc (.flt .f32 a0.Z.bits)) ∧ Tt) ∧ ((Eqc (.flt .f32 a0.W.bits)) ∧ (Eqc (.flt .f32 a0.X.bits)) ∧ (Eqc (.flt .f32 a0.Y.bits)) ∧ (Eqc (.flt .f32 a0.Z.bits)) ∧ Tt) ∧ Tt) ∧ CallOK Try.prog 177 [.agg (cs_Turn a0), .agg (cs_Turn a0)] [.one (.flt .f32 v1.bits)]) ∧ (((Eqc (.flt .f32 v1.bits)) ∧ Tt) ∧ CallOK Try.prog 217 [.one (.flt .f32 v1.bits)] [.one (.flt .f32 v3.bits)]) ∧ Tt ∧ Tt)) [.no, .no, .call [.agg (cs_Turn a0), .agg (cs_Turn a0)] [.one (.flt .f32 v1.bits)] [[.view]], .call [.one (.flt .f32 v1.bits)] [.one (.flt .f32 v3.bits)] [[.view]]] [2] [] ⟨tr, tr, ⟨⟨⟨rfl, rfl, rfl, rfl, tr⟩, ⟨rfl, rfl, rfl, rfl, tr⟩, tr⟩, ok_impl_InnerOfTurns K a0 a0 v1 e2⟩, ⟨⟨rfl, tr⟩, ok_impl_RootNumber K v1 v3 e4⟩, tr, tr⟩ ?_
  refine thenQ_normal ?_
  refine AW.ret ?_
  replace h := some_eq h
  subst h
  exact ⟨.inr rfl, retOK_of [(.one (.c (.flt .f32 v3.bits)))] (by kernel_rfl) ⟨⟨rfl, tr⟩, tr⟩ (of_decide_eq_true (by kernel_rfl))⟩

/-! impl.IsFinite -/
def impl_IsFinite (_K : Nat) (a0 : F32) : Option (Bool) :=
  some ((a0.sub a0).eq (Fl.mk (k := .f32) 0 (by decide)))

theorem ok_impl_IsFinite (K : Nat) (a0 : F32) (o : (Bool)) (h : impl_IsFinite K a0 = some o) : CallOK Try.prog 130 [.one (.flt .f32 a0.bits)] [.one (.bool o)] := by
  refine callOK_of_AW Try.func130 rfl (by kernel_rfl) (Nat.le_of_ble_eq_true (by kernel_rfl)) ?_
  intro w0
  unfold impl_IsFinite at h
  refine AW.seq (AW.rA ⟨[(0, (vc (.flt .f32 a0.bits)))], []⟩ (Tt ∧ Tt) [] [0] [] ⟨tr, tr⟩ (thenQ_normal ?_))
  refine AW.seq (AW.rA ⟨[(2, (vc (.bool ((a0.sub a0).eq (Fl.mk (k := .f32) 0 (by decide))))))], []⟩ (Tt ∧ T4 Tt) [] [2] [] ⟨tr, tr, tr, tr, tr, tr⟩ (thenQ_normal ?_))
  refine AW.ret ?_
  replace h := some_eq h
  subst h
  exact ⟨.inr rfl, retOK_of [(.one (.c (.bool ((a0.sub a0).eq (Fl.mk (k := .f32) 0 (by decide))))))] (by kernel_rfl) ⟨⟨rfl, tr⟩, tr⟩ (of_decide_eq_true (by kernel_rfl))⟩

/-! impl.isLength -/
def impl_isLength (K : Nat) (a0 : F32) : Option (Bool) :=
  (impl_IsFinite K a0).bind fun v1 => (ite2 (v1) (some (a0.ne (Fl.mk (k := .f32) 0 (by decide)))) (some false)).bind fun j4 => some j4

theorem ok_impl_isLength (K : Nat) (a0 : F32) (o : (Bool)) (h : impl_isLength K a0 = some o) : CallOK Try.prog 205 [.one (.flt .f32 a0.bits)] [.one (.bool o)] := by
  refine callOK_of_AW Try.func205 rfl (by kernel_rfl) (Nat.le_of_ble_eq_true (by kernel_rfl)) ?_
  intro w0
  unfold impl_isLength at h
  refine AW.seq (AW.rA ⟨[(0, (vc (.flt .f32 a0.bits)))], []⟩ (Tt ∧ Tt) [] [0] [] ⟨tr, tr⟩ (thenQ_normal ?_))
  refine AW.seq ?_
  obtain ⟨v1, e2, h⟩ := bind_some h
  obtain ⟨j4, e5, h⟩ := bind_some h
  refine AW.join1 (s2 := ⟨[(2, (vc (.bool j4)))], []⟩) ?_ ?_
  · rcases ite2_cases e5 with ⟨b3, e5⟩ | ⟨b3, e5⟩
    · replace e5 := some_eq e5
      subst e5
      exact AW.rA ⟨[(2, (vc (.bool (a0.ne (Fl.mk (k := .f32) 0 (by decide))))))], []⟩ (Tt ∧ (((Eqc (.flt .f32 a0.bits)) ∧ Tt) ∧ CallOK Try.prog 130 [.one (.flt .f32 a0.bits)] [.one (.bool v1)]) ∧ (Tt ∧ v1 = true) ∧ T4 Tt) [.no, .call [.one (.flt .f32 a0.bits)] [.one (.bool v1)] [[.view]], .dec true] [2] [] ⟨tr, ⟨⟨rfl, tr⟩, ok_impl_IsFinite K a0 v1 e2⟩, ⟨tr, b3⟩, tr, tr, tr, tr, tr⟩ ⟨rfl, rfl⟩
    · replace e5 := some_eq e5
      subst e5
      exact AW.rA ⟨[(2, (vc (.bool false)))], []⟩ (Tt ∧ (((Eqc (.flt .f32 a0.bits)) ∧ Tt) ∧ CallOK Try.prog 130 [.one (.flt .f32 a0.bits)] [.one (.bool v1)]) ∧ (Tt ∧ v1 = false) ∧ T4 Tt) [.no, .call [.one (.flt .f32 a0.bits)] [.one (.bool v1)] [[.view]], .dec false] [2] [] ⟨tr, ⟨⟨rfl, tr⟩, ok_impl_IsFinite K a0 v1 e2⟩, ⟨tr, b3⟩, tr, tr, tr, tr, tr⟩ ⟨rfl, rfl⟩
  refine thenQ_normal ?_
  refine AW.ret ?_
  replace h := some_eq h
  subst h
  exact ⟨.inr rfl, retOK_of [(.one (.c (.bool j4)))] (by kernel_rfl) ⟨⟨rfl, tr⟩, tr⟩ (of_decide_eq_true (by kernel_rfl))⟩

/-! impl.NoTurn -/
def impl_NoTurn (_K : Nat) : Option (Turn) :=
  some (Turn.mk (Fl.mk (k := .f32) 1065353216 (by decide)) (default : F32) (default : F32) (default : F32))

theorem ok_impl_NoTurn (K : Nat) (o : (Turn)) (h : impl_NoTurn K  = some o) : CallOK Try.prog 206 [] [.agg (cs_Turn o)] := by
  refine callOK_of_AW Try.func206 rfl (by kernel_rfl) (Nat.le_of_ble_eq_true (by kernel_rfl)) ?_
  intro w0
  unfold impl_NoTurn at h
  refine AW.seq (AW.rA ⟨[(0, (vp 1 0))], [(1, (.box [(.c (.flt .f32 (default : F32).bits)), (.c (.flt .f32 (default : F32).bits)), (.c (.flt .f32 (default : F32).bits)), (.c (.flt .f32 (default : F32).bits))]))]⟩ (Tt ∧ Tt) [.box 1] [0] [1] ⟨tr, tr⟩ (thenQ_normal ?_))
  refine AW.seq (AW.rA ⟨[(0, (vp 1 0))], [(1, (.box [(.c (.flt .f32 (Fl.mk (k := .f32) 1065353216 (by decide)).bits)), (.c (.flt .f32 (default : F32).bits)), (.c (.flt .f32 (default : F32).bits)), (.c (.flt .f32 (default : F32).bits))]))]⟩ (T2 Tt) [] [0] [1] ⟨tr, tr, tr⟩ (thenQ_normal ?_))
  refine AW.ret ?_
  replace h := some_eq h
  subst h
  exact ⟨.inr rfl, retOK_of [(.agg [(.c (.flt .f32 (Fl.mk (k := .f32) 1065353216 (by decide)).bits)), (.c (.flt .f32 (default : F32).bits)), (.c (.flt .f32 (default : F32).bits)), (.c (.flt .f32 (default : F32).bits))])] (by kernel_rfl) ⟨⟨⟨rfl, tr⟩, ⟨rfl, tr⟩, ⟨rfl, tr⟩, ⟨rfl, tr⟩, tr⟩, tr⟩ (of_decide_eq_true (by kernel_rfl))⟩

/-! impl.MendTurn -/
def impl_MendTurn (K : Nat) (a0 : Turn) : Option (Turn) :=
  (impl_LengthOfTurn K a0).bind fun v1 => (impl_isLength K v1).bind fun v3 => ite2 ((!v3)) ((impl_NoTurn K ).bind fun v6 => some v6) (some (Turn.mk (a0.W.div v1) (a0.X.div v1) (a0.Y.div v1) (a0.Z.div v1)))

theorem ok_impl_MendTurn (K : Nat) (a0 : Turn) (o : (Turn)) (h : impl_MendTurn K a0 = some o) : CallOK Try.prog 179 [.agg (cs_Turn a0)] [.agg (cs_Turn o)] := by
  refine callOK_of_AW Try.func179 rfl (by kernel_rfl) (Nat.le_of_ble_eq_true (by kernel_rfl)) ?_
  intro w0
  unfold impl_MendTurn at h
  refine AW.seq (AW.rA ⟨[(1, (vp 1 0)), (2, (vp 2 0))], [(1, (.box [(.c (.flt .f32 a0.W.bits)), (.c (.flt .f32 a0.X.bits)), (.c (.flt .f32 a0.Y.bits)), (.c (.flt .f32 a0.Z.bits))])), (2, (.box [(.c (.flt .f32 (default : F32).bits)), (.c (.flt .f32 (default : F32).bits)), (.c (.flt .f32 (default : F32).bits)), (.c (.flt .f32 (default : F32).bits))]))]⟩ (T2 Tt) [.box 1, .box 2] [1, 2] [1, 2] ⟨tr, tr, tr⟩ (thenQ_normal ?_))
  refine AW.seq ?_
  obtain ⟨v1, e2, h⟩ := bind_some h
  refine AW.rA ⟨[(1, (vp 1 0)), (2, (vp 2 0)), (3, (vc (.flt .f32 v1.bits)))], [(1, (.box [(.c (.flt .f32 a0.W.bits)), (.c (.flt .f32 a0.X.bits)), (.c (.flt .f32 a0.Y.bits)), (.c (.flt .f32 a0.Z.bits))])), (2, (.box [(.c (.flt .f32 (default : F32).bits)), (.c (.flt .f32 (default : F32).bits)), (.c (.flt .f32 (default : F32).bits)), (.c (.flt .f32 (default : F32).bits))]))]⟩ (Tt ∧ ((((Eqc (.flt .f32 a0.W.bits)) ∧ (Eqc (.flt .f32 a0.X.bits)) ∧ (Eqc (.flt .f32 a0.Y.bits)) ∧ (Eqc (.flt .f32 a0.Z.bits)) ∧ Tt) ∧ Tt) ∧ CallOK Try.prog 204 [.agg (cs_Turn a0)] [.one (.flt .f32 v1.bits)]) ∧ Tt ∧ Tt) [.no, .call [.agg (cs_Turn a0)] [.one (.flt .f32 v1.bits)] [[.view]]] [1, 2, 3] [1, 2] ⟨tr, ⟨⟨⟨rfl, rfl, rfl, rfl, tr⟩, tr⟩, ok_impl_LengthOfTurn K a0 v1 e2⟩, tr, tr⟩ ?_
  refine thenQ_normal ?_
  refine AW.seq ?_
  refine AW.seq ?_
  obtain ⟨v3, e4, h⟩ := bind_some h
  refine AW.rA ⟨[(1, (vp 1 0)), (2, (vp 2 0)), (3, (vc (.flt .f32 v1.bits))), (8, (vc (.bool (!v3))))], [(1, (.box [(.c (.flt .f32 a0.W.bits)), (.c (.flt .f32 a0.X.bits)), (.c (.flt .f32 a0.Y.bits)), (.c (.flt .f32 a0.Z.bits))])), (2, (.box [(.c (.flt .f32 (default : F32).bits)), (.c (.flt .f32 (default : F32).bits)), (.c (.flt .f32 (default : F32).bits)), (.c (.flt .f32 (default : F32).bits))]))]⟩ (Tt ∧ (((Eqc (.flt .f32 v1.bits)) ∧ Tt) ∧ CallOK Try.prog 205 [.one (.flt .f32 v1.bits)] [.one (.bool v3)]) ∧ Tt ∧ Tt) [.no, .call [.one (.flt .f32 v1.bits)] [.one (.bool v3)] [[.view]]] [1, 2, 3, 8] [1, 2] ⟨tr, ⟨⟨rfl, tr⟩, ok_impl_isLength K v1 v3 e4⟩, tr, tr⟩ ?_
  refine thenQ_normal ?_
  rcases ite2_cases h with ⟨b5, h⟩ | ⟨b5, h⟩
  · refine AW.cond_t rfl b5 ?_
    refine AW.seq ?_
    obtain ⟨v6, e7, h⟩ := bind_some h
    refine AW.rA ⟨[(2, (vp 2 0))], [(2, (.box [(.c (.flt .f32 v6.W.bits)), (.c (.flt .f32 v6.X.bits)), (.c (.flt .f32 v6.Y.bits)), (.c (.flt .f32 v6.Z.bits))]))]⟩ (((Tt) ∧ CallOK Try.prog 206 [] [.agg (cs_Turn v6)]) ∧ Tt ∧ Tt) [.call [] [.agg (cs_Turn v6)] [[.view, .view, .view, .view]]] [2] [2] ⟨⟨tr, ok_impl_NoTurn K v6 e7⟩, tr, tr⟩ ?_
    refine thenQ_normal ?_
    refine AW.ret ?_
    refine thenQ_ret ?_
    replace h := some_eq h
    subst h
    exact ⟨.inr rfl, retOK_of [(.agg [(.c (.flt .f32 v6.W.bits)), (.c (.flt .f32 v6.X.bits)), (.c (.flt .f32 v6.Y.bits)), (.c (.flt .f32 v6.Z.bits))])] (by kernel_rfl) ⟨⟨⟨rfl, tr⟩, ⟨rfl, tr⟩, ⟨rfl, tr⟩, ⟨rfl, tr⟩, tr⟩, tr⟩ (of_decide_eq_true (by kernel_rfl))⟩
  · refine AW.cond_f rfl b5 ?_
    refine AW.skip ?_
    refine thenQ_normal ?_
    refine AW.seq (AW.rA ⟨[(2, (vp 2 0))], [(2, (.box [(.c (.flt .f32 (a0.W.div v1).bits)), (.c (.flt .f32 (a0.X.div v1).bits)), (.c (.flt .f32 (a0.Y.div v1).bits)), (.c (.flt .f32 (a0.Z.div v1).bits))]))]⟩ (T2 (T4 (T4 (T4 (T4 Tt))))) [] [2] [2] ⟨tr, tr, tr, tr, tr, tr, tr, tr, tr, tr, tr, tr, tr, tr, tr, tr, tr, tr, tr⟩ (thenQ_normal ?_))
    refine AW.ret ?_
    replace h := some_eq h
    subst h
    exact ⟨.inr rfl, retOK_of [(.agg [(.c (.flt .f32 (a0.W.div v1).bits)), (.c (.flt .f32 (a0.X.div v1).bits)), (.c (.flt .f32 (a0.Y.div v1).bits)), (.c (.flt .f32 (a0.Z.div v1).bits))])] (by kernel_rfl) ⟨⟨⟨rfl, tr⟩, ⟨rfl, tr⟩, ⟨rfl, tr⟩, ⟨rfl, tr⟩, tr⟩, tr⟩ (of_decide_eq_true (by kernel_rfl))⟩

/-! impl.NearTurn -/
def impl_NearTurn (K : Nat) (a0 : Turn) (a1 : Turn) (a2 : F32) : Option (Turn) :=
  (impl_InnerOfTurns K a0 a1).bind fun v1 => ite2 ((v1.lt' (Fl.mk (k := .f32) 0 (by decide)))) ((impl_Turn_opposite K a1).bind fun v4 => (impl_between K a0.W v4.W a2).bind fun v6 => (impl_between K a0.X v4.X a2).bind fun v8 => (impl_between K a0.Y v4.Y a2).bind fun v10 => (impl_between K a0.Z v4.Z a2).bind fun v12 => (impl_MendTurn K (Turn.mk v6 v8 v10 v12)).bind fun v14 => some v14) ((impl_between K a0.W a1.W a2).bind fun v16 => (impl_between K a0.X a1.X a2).bind fun v18 => (impl_between K a0.Y a1.Y a2).bind fun v20 => (impl_between K a0.Z a1.Z a2).bind fun v22 => (impl_MendTurn K (Turn.mk v16 v18 v20 v22)).bind fun v24 => some v24)

theorem ok_impl_NearTurn (K : Nat) (a0 : Turn) (a1 : Turn) (a2 : F32) (o : (Turn)) (h : impl_NearTurn K a0 a1 a2 = some o) : CallOK Try.prog 149 [.agg (cs_Turn a0), .agg (cs_Turn a1), .one (.flt .f32 a2.bits)] [.agg (cs_Turn o)] := by
  refine callOK_of_AW Try.func149 rfl (by kernel_rfl) (Nat.le_of_ble_eq_true (by kernel_rfl)) ?_
  intro w0
  unfold impl_NearTurn at h
  refine AW.seq (AW.rA ⟨[(2, (vc (.flt .f32 a2.bits))), (3, (vp 1 0)), (4, (vp 2 0)), (6, (vp 3 0))], [(1, (.box [(.c (.flt .f32 a0.W.bits)), (.c (.flt .f32 a0.X.bits)), (.c (.flt .f32 a0.Y.bits)), (.c (.flt .f32 a0.Z.bits))])), (2, (.box [(.c (.flt .f32 a1.W.bits)), (.c (.flt .f32 a1.X.bits)), (.c (.flt .f32 a1.Y.bits)), (.c (.flt .f32 a1.Z.bits))])), (3, (.box [(.c (.flt .f32 (default : F32).bits)), (.c (.flt .f32 (default : F32).bits)), (.c (.flt .f32 (default : F32).bits)), (.c (.flt .f32 (default : F32).bits))]))]⟩ (Tt ∧ T2 Tt) [.box 1, .box 2, .box 3] [2, 3, 4, 6] [1, 2, 3] ⟨tr, tr, tr, tr⟩ (thenQ_normal ?_))
  refine AW.seq ?_
  refine AW.seq ?_
  obtain ⟨v1, e2, h⟩ := bind_some h
  refine AW.rA ⟨[(2, (vc (.flt .f32 a2.bits))), (3, (vp 1 0)), (4, (vp 2 0)), (6, (vp 3 0)), (10, (vc (.bool (v1.lt' (Fl.mk (k := .f32) 0 (by decide))))))], [(1, (.box [(.c (.flt .f32 a0.W.bits)), (.c (.flt .f32 a0.X.bits)), (.c (.flt .f32 a0.Y.bits)), (.c (.flt .f32 a0.Z.bits))])), (2, (.box [(.c (.flt .f32 a1.W.bits)), (.c (.flt .f32 a1.X.bits)), (.c (.flt .f32 a1.Y.bits)), (.c (.flt .f32 a1.Z.bits))])), (3, (.box [(.c (.flt .f32 (default : F32).bits)), (.c (.flt .f32 (default : F32).bits)), (.c (.flt .f32 (default : F32).bits)), (.c (.flt .f32 (default : F32).bits))]))]⟩ (T2 (((((Eqc (.flt .f32 a0.W.bits)) ∧ (Eqc (.flt .f32 a0.X.bits)) ∧ (Eqc (.flt .f32 a0.Y.bits)) ∧ (Eqc (.flt .f32 a0.Z.bits)) ∧ Tt) ∧ ((Eqc (.flt .f32 a1.W.bits)) ∧ (Eqc (.flt .f32 a1.X.bits)) ∧ (Eqc (.flt .f32 a1.Y.bits)) ∧ (Eqc (.flt .f32 a1.Z.bits)) ∧ Tt) ∧ Tt) ∧ CallOK Try.prog 177 [.agg (cs_Turn a0), .agg (cs_Turn a1)] [.one (.flt .f32 v1.bits)]) ∧ Tt ∧ Tt)) [.no, .no, .call [.agg (cs_Turn a0), .agg (cs_Turn a1)] [.one (.flt .f32 v1.bits)] [[.view]]] [2, 3, 4, 6, 10] [1, 2, 3] ⟨tr, tr, ⟨⟨⟨rfl, rfl, rfl, rfl, tr⟩, ⟨rfl, rfl, rfl, rfl, tr⟩, tr⟩, ok_impl_InnerOfTurns K a0 a1 v1 e2⟩, tr, tr⟩ ?_
  refine thenQ_normal ?_
  rcases ite2_cases h with ⟨b3, h⟩ | ⟨b3, h⟩
  · refine AW.cond_t rfl b3 ?_
    obtain ⟨v4, e5, h⟩ := bind_some h
    refine AW.rA ⟨[(2, (vc (.flt .f32 a2.bits))), (3, (vp 1 0)), (4, (vp 2 0)), (6, (vp 3 0))], [(1, (.box [(.c (.flt .f32 a0.W.bits)), (.c (.flt .f32 a0.X.bits)), (.c (.flt .f32 a0.Y.bits)), (.c (.flt .f32 a0.Z.bits))])), (2, (.box [(.c (.flt .f32 v4.W.bits)), (.c (.flt .f32 v4.X.bits)), (.c (.flt .f32 v4.Y.bits)), (.c (.flt .f32 v4.Z.bits))])), (3, (.box [(.c (.flt .f32 (default : F32).bits)), (.c (.flt .f32 (default : F32).bits)), (.c (.flt .f32 (default : F32).bits)), (.c (.flt .f32 (default : F32).bits))]))]⟩ (Tt ∧ ((((Eqc (.flt .f32 a1.W.bits)) ∧ (Eqc (.flt .f32 a1.X.bits)) ∧ (Eqc (.flt .f32 a1.Y.bits)) ∧ (Eqc (.flt .f32 a1.Z.bits)) ∧ Tt) ∧ Tt) ∧ CallOK Try.prog 178 [.agg (cs_Turn a1)] [.agg (cs_Turn v4)]) ∧ Tt ∧ Tt) [.no, .call [.agg (cs_Turn a1)] [.agg (cs_Turn v4)] [[.view, .view, .view, .view]]] [2, 3, 4, 6] [1, 2, 3] ⟨tr, ⟨⟨⟨rfl, rfl, rfl, rfl, tr⟩, tr⟩, ok_impl_Turn_opposite K a1 v4 e5⟩, tr, tr⟩ ?_
    refine thenQ_normal ?_
    refine AW.seq ?_
    obtain ⟨v6, e7, h⟩ := bind_some h
    obtain ⟨v8, e9, h⟩ := bind_some h
    obtain ⟨v10, e11, h⟩ := bind_some h
    obtain ⟨v12, e13, h⟩ := bind_some h
    obtain ⟨v14, e15, h⟩ := bind_some h
    refine AW.dA ⟨[(6, (vp 3 0))], [(3, (.box [(.c (.flt .f32 v14.W.bits)), (.c (.flt .f32 v14.X.bits)), (.c (.flt .f32 v14.Y.bits)), (.c (.flt .f32 v14.Z.bits))]))]⟩ ((Tt ∧ T4 ((((Eqc (.flt .f32 a0.W.bits)) ∧ (Eqc (.flt .f32 v4.W.bits)) ∧ (Eqc (.flt .f32 a2.bits)) ∧ Tt) ∧ CallOK Try.prog 187 [.one (.flt .f32 a0.W.bits), .one (.flt .f32 v4.W.bits), .one (.flt .f32 a2.bits)] [.one (.flt .f32 v6.bits)]) ∧ Tt ∧ T4 ((((Eqc (.flt .f32 a0.X.bits)) ∧ (Eqc (.flt .f32 v4.X.bits)) ∧ (Eqc (.flt .f32 a2.bits)) ∧ Tt) ∧ CallOK Try.prog 187 [.one (.flt .f32 a0.X.bits), .one (.flt .f32 v4.X.bits), .one (.flt .f32 a2.bits)] [.one (.flt .f32 v8.bits)]) ∧ Tt ∧ T4 ((((Eqc (.flt .f32 a0.Y.bits)) ∧ (Eqc (.flt .f32 v4.Y.bits)) ∧ (Eqc (.flt .f32 a2.bits)) ∧ Tt) ∧ CallOK Try.prog 187 [.one (.flt .f32 a0.Y.bits), .one (.flt .f32 v4.Y.bits), .one (.flt .f32 a2.bits)] [.one (.flt .f32 v10.bits)]) ∧ Tt ∧ T4 ((((Eqc (.flt .f32 a0.Z.bits)) ∧ (Eqc (.flt .f32 v4.Z.bits)) ∧ (Eqc (.flt .f32 a2.bits)) ∧ Tt) ∧ CallOK Try.prog 187 [.one (.flt .f32 a0.Z.bits), .one (.flt .f32 v4.Z.bits), .one (.flt .f32 a2.bits)] [.one (.flt .f32 v12.bits)]) ∧ Tt ∧ ((((Eqc (.flt .f32 v6.bits)) ∧ (Eqc (.flt .f32 v8.bits)) ∧ (Eqc (.flt .f32 v10.bits)) ∧ (Eqc (.flt .f32 v12.bits)) ∧ Tt) ∧ Tt) ∧ CallOK Try.prog 179 [.agg (cs_Turn (Turn.mk v6 v8 v10 v12))] [.agg (cs_Turn v14)]) ∧ Tt))))) ∧ (Tt ∧ Tt)) 26 [.no, .no, .no, .no, .no, .call [.one (.flt .f32 a0.W.bits), .one (.flt .f32 v4.W.bits), .one (.flt .f32 a2.bits)] [.one (.flt .f32 v6.bits)] [[.view]], .no, .no, .no, .no, .no, .call [.one (.flt .f32 a0.X.bits), .one (.flt .f32 v4.X.bits), .one (.flt .f32 a2.bits)] [.one (.flt .f32 v8.bits)] [[.view]], .no, .no, .no, .no, .no, .call [.one (.flt .f32 a0.Y.bits), .one (.flt .f32 v4.Y.bits), .one (.flt .f32 a2.bits)] [.one (.flt .f32 v10.bits)] [[.view]], .no, .no, .no, .no, .no, .call [.one (.flt .f32 a0.Z.bits), .one (.flt .f32 v4.Z.bits), .one (.flt .f32 a2.bits)] [.one (.flt .f32 v12.bits)] [[.view]], .no, .call [.agg (cs_Turn (Turn.mk v6 v8 v10 v12))] [.agg (cs_Turn v14)] [[.view, .view, .view, .view]]] [6] [3] ⟨⟨tr, tr, tr, tr, tr, ⟨⟨rfl, rfl, rfl, tr⟩, ok_impl_between K a0.W v4.W a2 v6 e7⟩, tr, tr, tr, tr, tr, ⟨⟨rfl, rfl, rfl, tr⟩, ok_impl_between K a0.X v4.X a2 v8 e9⟩, tr, tr, tr, tr, tr, ⟨⟨rfl, rfl, rfl, tr⟩, ok_impl_between K a0.Y v4.Y a2 v10 e11⟩, tr, tr, tr, tr, tr, ⟨⟨rfl, rfl, rfl, tr⟩, ok_impl_between K a0.Z v4.Z a2 v12 e13⟩, tr, ⟨⟨⟨rfl, rfl, rfl, rfl, tr⟩, tr⟩, ok_impl_MendTurn K (Turn.mk v6 v8 v10 v12) v14 e15⟩, tr⟩, ⟨tr, tr⟩⟩ ?_
    refine thenQ_normal ?_
    refine AW.ret ?_
    replace h := some_eq h
    subst h
    exact ⟨.inr rfl, retOK_of [(.agg [(.c (.flt .f32 v14.W.bits)), (.c (.flt .f32 v14.X.bits)), (.c (.flt .f32 v14.Y.bits)), (.c (.flt .f32 v14.Z.bits))])] (by kernel_rfl) ⟨⟨⟨rfl, tr⟩, ⟨rfl, tr⟩, ⟨rfl, tr⟩, ⟨rfl, tr⟩, tr⟩, tr⟩ (of_decide_eq_true (by kernel_rfl))⟩
  · refine AW.cond_f rfl b3 ?_
    refine AW.skip ?_
    refine thenQ_normal ?_
    refine AW.seq ?_
    obtain ⟨v16, e17, h⟩ := bind_some h
    obtain ⟨v18, e19, h⟩ := bind_some h
    obtain ⟨v20, e21, h⟩ := bind_some h
    obtain ⟨v22, e23, h⟩ := bind_some h
    obtain ⟨v24, e25, h⟩ := bind_some h
    refine AW.dA ⟨[(6, (vp 3 0))], [(3, (.box [(.c (.flt .f32 v24.W.bits)), (.c (.flt .f32 v24.X.bits)), (.c (.flt .f32 v24.Y.bits)), (.c (.flt .f32 v24.Z.bits))]))]⟩ ((Tt ∧ T4 ((((Eqc (.flt .f32 a0.W.bits)) ∧ (Eqc (.flt .f32 a1.W.bits)) ∧ (Eqc (.flt .f32 a2.bits)) ∧ Tt) ∧ CallOK Try.prog 187 [.one (.flt .f32 a0.W.bits), .one (.flt .f32 a1.W.bits), .one (.flt .f32 a2.bits)] [.one (.flt .f32 v16.bits)]) ∧ Tt ∧ T4 ((((Eqc (.flt .f32 a0.X.bits)) ∧ (Eqc (.flt .f32 a1.X.bits)) ∧ (Eqc (.flt .f32 a2.bits)) ∧ Tt) ∧ CallOK Try.prog 187 [.one (.flt .f32 a0.X.bits), .one (.flt .f32 a1.X.bits), .one (.flt .f32 a2.bits)] [.one (.flt .f32 v18.bits)]) ∧ Tt ∧ T4 ((((Eqc (.flt .f32 a0.Y.bits)) ∧ (Eqc (.flt .f32 a1.Y.bits)) ∧ (Eqc (.flt .f32 a2.bits)) ∧ Tt) ∧ CallOK Try.prog 187 [.one (.flt .f32 a0.Y.bits), .one (.flt .f32 a1.Y.bits), .one (.flt .f32 a2.bits)] [.one (.flt .f32 v20.bits)]) ∧ Tt ∧ T4 ((((Eqc (.flt .f32 a0.Z.bits)) ∧ (Eqc (.flt .f32 a1.Z.bits)) ∧ (Eqc (.flt .f32 a2.bits)) ∧ Tt) ∧ CallOK Try.prog 187 [.one (.flt .f32 a0.Z.bits), .one (.flt .f32 a1.Z.bits), .one (.flt .f32 a2.bits)] [.one (.flt .f32 v22.bits)]) ∧ Tt ∧ ((((Eqc (.flt .f32 v16.bits)) ∧ (Eqc (.flt .f32 v18.bits)) ∧ (Eqc (.flt .f32 v20.bits)) ∧ (Eqc (.flt .f32 v22.bits)) ∧ Tt) ∧ Tt) ∧ CallOK Try.prog 179 [.agg (cs_Turn (Turn.mk v16 v18 v20 v22))] [.agg (cs_Turn v24)]) ∧ Tt))))) ∧ (Tt ∧ Tt)) 26 [.no, .no, .no, .no, .no, .call [.one (.flt .f32 a0.W.bits), .one (.flt .f32 a1.W.bits), .one (.flt .f32 a2.bits)] [.one (.flt .f32 v16.bits)] [[.view]], .no, .no, .no, .no, .no, .call [.one (.flt .f32 a0.X.bits), .one (.flt .f32 a1.X.bits), .one (.flt .f32 a2.bits)] [.one (.flt .f32 v18.bits)] [[.view]], .no, .no, .no, .no, .no, .call [.one (.flt .f32 a0.Y.bits), .one (.flt .f32 a1.Y.bits), .one (.flt .f32 a2.bits)] [.one (.flt .f32 v20.bits)] [[.view]], .no, .no, .no, .no, .no, .call [.one (.flt .f32 a0.Z.bits), .one (.flt .f32 a1.Z.bits), .one (.flt .f32 a2.bits)] [.one (.flt .f32 v22.bits)] [[.view]], .no, .call [.agg (cs_Turn (Turn.mk v16 v18 v20 v22))] [.agg (cs_Turn v24)] [[.view, .view, .view, .view]]] [6] [3] ⟨⟨tr, tr, tr, tr, tr, ⟨⟨rfl, rfl, rfl, tr⟩, ok_impl_between K a0.W a1.W a2 v16 e17⟩, tr, tr, tr, tr, tr, ⟨⟨rfl, rfl, rfl, tr⟩, ok_impl_between K a0.X a1.X a2 v18 e19⟩, tr, tr, tr, tr, tr, ⟨⟨rfl, rfl, rfl, tr⟩, ok_impl_between K a0.Y a1.Y a2 v20 e21⟩, tr, tr, tr, tr, tr, ⟨⟨rfl, rfl, rfl, tr⟩, ok_impl_between K a0.Z a1.Z a2 v22 e23⟩, tr, ⟨⟨⟨rfl, rfl, rfl, rfl, tr⟩, tr⟩, ok_impl_MendTurn K (Turn.mk v16 v18 v20 v22) v24 e25⟩, tr⟩, ⟨tr, tr⟩⟩ ?_
    refine thenQ_normal ?_
    refine AW.ret ?_
    replace h := some_eq h
    subst h
    exact ⟨.inr rfl, retOK_of [(.agg [(.c (.flt .f32 v24.W.bits)), (.c (.flt .f32 v24.X.bits)), (.c (.flt .f32 v24.Y.bits)), (.c (.flt .f32 v24.Z.bits))])] (by kernel_rfl) ⟨⟨⟨rfl, tr⟩, ⟨rfl, tr⟩, ⟨rfl, tr⟩, ⟨rfl, tr⟩, tr⟩, tr⟩ (of_decide_eq_true (by kernel_rfl))⟩

/-! impl.turnTrack$3 -/
def impl_turnTrack_3 (K : Nat) (a0 : Key) (a1 : Key) (a2 : F32) : Option (Key) :=
  (impl_NearTurn K a0.Turn a1.Turn a2).bind fun v1 => some (Key.mk a0.At v1)

theorem ok_impl_turnTrack_3 (K : Nat) (a0 : Key) (a1 : Key) (a2 : F32) (o : (Key)) (h : impl_turnTrack_3 K a0 a1 a2 = some o) : CallOK Try.prog 148 [.agg (cs_Key a0), .agg (cs_Key a1), .one (.flt .f32 a2.bits)] [.agg (cs_Key o)] := by
  refine callOK_of_AW Try.func148 rfl (by kernel_rfl) (Nat.le_of_ble_eq_true (by kernel_rfl)) ?_
  intro w0
  unfold impl_turnTrack_3 at h
  refine AW.seq (AW.rA ⟨[(2, (vc (.flt .f32 a2.bits))), (3, (vp 1 0)), (4, (vp 2 0)), (6, (vp 3 0))], [(1, (.box [(.c (.int .i64 a0.At)), (.c (.flt .f32 a0.Turn.W.bits)), (.c (.flt .f32 a0.Turn.X.bits)), (.c (.flt .f32 a0.Turn.Y.bits)), (.c (.flt .f32 a0.Turn.Z.bits))])), (2, (.box [(.c (.int .i64 a1.At)), (.c (.flt .f32 a1.Turn.W.bits)), (.c (.flt .f32 a1.Turn.X.bits)), (.c (.flt .f32 a1.Turn.Y.bits)), (.c (.flt .f32 a1.Turn.Z.bits))])), (3, (.box [(.c (.int .i64 (0 : Int))), (.c (.flt .f32 (default : F32).bits)), (.c (.flt .f32 (default : F32).bits)), (.c (.flt .f32 (default : F32).bits)), (.c (.flt .f32 (default : F32).bits))]))]⟩ (Tt ∧ T2 Tt) [.box 1, .box 2, .box 3] [2, 3, 4, 6] [1, 2, 3] ⟨tr, tr, tr, tr⟩ (thenQ_normal ?_))
  refine AW.seq ?_
  obtain ⟨v1, e2, h⟩ := bind_some h
  refine AW.rA ⟨[(3, (vp 1 0)), (6, (vp 3 0))], [(1, (.box [(.c (.int .i64 a0.At)), (.c (.flt .f32 v1.W.bits)), (.c (.flt .f32 v1.X.bits)), (.c (.flt .f32 v1.Y.bits)), (.c (.flt .f32 v1.Z.bits))])), (3, (.box [(.c (.int .i64 (0 : Int))), (.c (.flt .f32 (default : F32).bits)), (.c (.flt .f32 (default : F32).bits)), (.c (.flt .f32 (default : F32).bits)), (.c (.flt .f32 (default : F32).bits))]))]⟩ (Tt ∧ T4 (((((Eqc (.flt .f32 a0.Turn.W.bits)) ∧ (Eqc (.flt .f32 a0.Turn.X.bits)) ∧ (Eqc (.flt .f32 a0.Turn.Y.bits)) ∧ (Eqc (.flt .f32 a0.Turn.Z.bits)) ∧ Tt) ∧ ((Eqc (.flt .f32 a1.Turn.W.bits)) ∧ (Eqc (.flt .f32 a1.Turn.X.bits)) ∧ (Eqc (.flt .f32 a1.Turn.Y.bits)) ∧ (Eqc (.flt .f32 a1.Turn.Z.bits)) ∧ Tt) ∧ (Eqc (.flt .f32 a2.bits)) ∧ Tt) ∧ CallOK Try.prog 149 [.agg (cs_Turn a0.Turn), .agg (cs_Turn a1.Turn), .one (.flt .f32 a2.bits)] [.agg (cs_Turn v1)]) ∧ T2 Tt)) [.no, .no, .no, .no, .no, .call [.agg (cs_Turn a0.Turn), .agg (cs_Turn a1.Turn), .one (.flt .f32 a2.bits)] [.agg (cs_Turn v1)] [[.view, .view, .view, .view]]] [3, 6] [1, 3] ⟨tr, tr, tr, tr, tr, ⟨⟨⟨rfl, rfl, rfl, rfl, tr⟩, ⟨rfl, rfl, rfl, rfl, tr⟩, rfl, tr⟩, ok_impl_NearTurn K a0.Turn a1.Turn a2 v1 e2⟩, tr, tr, tr⟩ ?_
  refine thenQ_normal ?_
  refine AW.seq (AW.rA ⟨[(6, (vp 3 0))], [(3, (.box [(.c (.int .i64 a0.At)), (.c (.flt .f32 v1.W.bits)), (.c (.flt .f32 v1.X.bits)), (.c (.flt .f32 v1.Y.bits)), (.c (.flt .f32 v1.Z.bits))]))]⟩ (T2 Tt) [] [6] [3] ⟨tr, tr, tr⟩ (thenQ_normal ?_))
  refine AW.ret ?_
  replace h := some_eq h
  subst h
  exact ⟨.inr rfl, retOK_of [(.agg [(.c (.int .i64 a0.At)), (.c (.flt .f32 v1.W.bits)), (.c (.flt .f32 v1.X.bits)), (.c (.flt .f32 v1.Y.bits)), (.c (.flt .f32 v1.Z.bits))])] (by kernel_rfl) ⟨⟨⟨rfl, tr⟩, ⟨rfl, tr⟩, ⟨rfl, tr⟩, ⟨rfl, tr⟩, ⟨rfl, tr⟩, tr⟩, tr⟩ (of_decide_eq_true (by kernel_rfl))⟩

end
end Go.Fw
