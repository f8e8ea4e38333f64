/- Functions of the program: what each computes, and that it computes just that. -/
import Derived.Test.YtihokgnenjemmaaFwTy
import Derived.Test.YtihokgnenjemmaaFwH
import Derived.Test.YtihokgnenjemmaaFwV
import Derived.Test.YtihokgnenjemmaaFwC61
import Derived.Test.YtihokgnenjemmaaFwUB
import Derived.Test.YtihokgnenjemmaaProg
import Derived.KernelRfl
namespace Go.Fw
open Go Go.Proofs
noncomputable section
set_option maxRecDepth 10000

/-! impl.ValidClip -/
def impl_ValidClip_l1 (K : Nat) (a0 : Clip) : Nat → Int → Option (Bool)
  | 0, _ => none
  | k + 1, x10 => ite2 ((decide (x10 < (a0.Tracks.length : Int)))) (chk (0 ≤ x10 ∧ x10 < (a0.Tracks.length : Int)) ((impl_turnTrack K ).bind fun v13 => (impl_track_impl_Key_valid K (a0.Tracks.getD x10.toNat default) a0.Length).bind fun v15 => ite2 ((!v15)) (some false) (impl_ValidClip_l1 K a0 k (IntKind.i64.wrap (x10 + (1 : Int)))))) ((impl_rootTrack K ).bind fun v18 => (impl_track_impl_RootKey_valid K a0.Roots a0.Length).bind fun v20 => some v20)

def impl_ValidClip (K : Nat) (a0 : Clip) : Option (Bool) :=
  (ite2 ((decide (a0.Length < (1 : Int)))) (some true) (ite2 ((decide (a0.Length > (1000 : Int)))) (some true) (ite2 ((decide (a0.Kind < (0 : Int)))) (some true) (ite2 ((decide (a0.Kind > (2 : Int)))) (some true) (ite2 ((decide ((a0.Tracks.length : Int) < (1 : Int)))) (some true) (some (decide ((a0.Tracks.length : Int) > (12 : Int))))))))).bind fun j6 => ite2 (j6) (some false) (impl_ValidClip_l1 K a0 K (0 : Int))

theorem ok_impl_ValidClip (K : Nat) (a0 : Clip) (o : (Bool)) (h : impl_ValidClip K a0 = some o) : CallOK Try.prog 63 [.agg (cs_Clip a0)] [.one (.bool o)] := by
  refine callOK_of_AW Try.func63 rfl (by kernel_rfl) (Nat.le_of_ble_eq_true (by kernel_rfl)) ?_
  intro w0
  unfold impl_ValidClip at h
  refine AW.seq (AW.rA ⟨[(1, (vp 1 0))], [(1, (.box [(.c (.int .i64 a0.Length)), (.c (.int .i64 a0.Kind)), (.c (sl 1 (csL 5 cs_Key) a0.Tracks)), (.c (sl 4 cs_RootKey a0.Roots))]))]⟩ (T2 Tt) [.box 1] [1] [1] ⟨tr, tr, tr⟩ (thenQ_normal ?_))
  refine AW.seq ?_
  refine AW.seq ?_
  obtain ⟨j6, e7, h⟩ := bind_some h
  refine AW.join1 (s2 := ⟨[(1, (vp 1 0)), (34, (vc (.bool j6)))], [(1, (.box [(.c (.int .i64 a0.Length)), (.c (.int .i64 a0.Kind)), (.c (sl 1 (csL 5 cs_Key) a0.Tracks)), (.c (sl 4 cs_RootKey a0.Roots))]))]⟩) ?_ ?_
  · rcases ite2_cases e7 with ⟨b1, e7⟩ | ⟨b1, e7⟩
    · replace e7 := some_eq e7
      subst e7
      exact AW.rA ⟨[(1, (vp 1 0)), (34, (vc (.bool true)))], [(1, (.box [(.c (.int .i64 a0.Length)), (.c (.int .i64 a0.Kind)), (.c (sl 1 (csL 5 cs_Key) a0.Tracks)), (.c (sl 4 cs_RootKey a0.Roots))]))]⟩ (Tt ∧ T2 ((Tt ∧ (decide (a0.Length < (1 : Int))) = true) ∧ T2 (T4 (T4 (T4 (T4 (T4 (T4 Tt)))))))) [.no, .no, .no, .dec true] [1, 34] [1] ⟨tr, tr, tr, ⟨tr, b1⟩, tr, tr, tr, tr, tr, tr, tr, tr, tr, tr, tr, tr, tr, tr, tr, tr, tr, tr, tr, tr, tr, tr, tr, tr, tr, tr, tr⟩ ⟨rfl, rfl⟩
    · rcases ite2_cases e7 with ⟨b2, e7⟩ | ⟨b2, e7⟩
      · replace e7 := some_eq e7
        subst e7
        exact AW.rA ⟨[(1, (vp 1 0)), (34, (vc (.bool true)))], [(1, (.box [(.c (.int .i64 a0.Length)), (.c (.int .i64 a0.Kind)), (.c (sl 1 (csL 5 cs_Key) a0.Tracks)), (.c (sl 4 cs_RootKey a0.Roots))]))]⟩ (Tt ∧ T2 ((Tt ∧ (decide (a0.Length < (1 : Int))) = false) ∧ T4 ((Tt ∧ (decide (a0.Length > (1000 : Int))) = true) ∧ Tt ∧ T4 (T4 (T4 (T4 (T4 Tt))))))) [.no, .no, .no, .dec false, .no, .no, .no, .no, .dec true] [1, 34] [1] ⟨tr, tr, tr, ⟨tr, b1⟩, tr, tr, tr, tr, ⟨tr, b2⟩, tr, tr, tr, tr, tr, tr, tr, tr, tr, tr, tr, tr, tr, tr, tr, tr, tr, tr, tr, tr, tr, tr⟩ ⟨rfl, rfl⟩
      · rcases ite2_cases e7 with ⟨b3, e7⟩ | ⟨b3, e7⟩
        · replace e7 := some_eq e7
          subst e7
          exact AW.rA ⟨[(1, (vp 1 0)), (34, (vc (.bool true)))], [(1, (.box [(.c (.int .i64 a0.Length)), (.c (.int .i64 a0.Kind)), (.c (sl 1 (csL 5 cs_Key) a0.Tracks)), (.c (sl 4 cs_RootKey a0.Roots))]))]⟩ (Tt ∧ T2 ((Tt ∧ (decide (a0.Length < (1 : Int))) = false) ∧ T4 ((Tt ∧ (decide (a0.Length > (1000 : Int))) = false) ∧ T4 ((Tt ∧ (decide (a0.Kind < (0 : Int))) = true) ∧ T4 (T4 (T4 (T4 Tt))))))) [.no, .no, .no, .dec false, .no, .no, .no, .no, .dec false, .no, .no, .no, .no, .dec true] [1, 34] [1] ⟨tr, tr, tr, ⟨tr, b1⟩, tr, tr, tr, tr, ⟨tr, b2⟩, tr, tr, tr, tr, ⟨tr, b3⟩, tr, tr, tr, tr, tr, tr, tr, tr, tr, tr, tr, tr, tr, tr, tr, tr, tr⟩ ⟨rfl, rfl⟩
        · rcases ite2_cases e7 with ⟨b4, e7⟩ | ⟨b4, e7⟩
          · replace e7 := some_eq e7
            subst e7
            exact AW.rA ⟨[(1, (vp 1 0)), (34, (vc (.bool true)))], [(1, (.box [(.c (.int .i64 a0.Length)), (.c (.int .i64 a0.Kind)), (.c (sl 1 (csL 5 cs_Key) a0.Tracks)), (.c (sl 4 cs_RootKey a0.Roots))]))]⟩ (Tt ∧ T2 ((Tt ∧ (decide (a0.Length < (1 : Int))) = false) ∧ T4 ((Tt ∧ (decide (a0.Length > (1000 : Int))) = false) ∧ T4 ((Tt ∧ (decide (a0.Kind < (0 : Int))) = false) ∧ T4 ((Tt ∧ (decide (a0.Kind > (2 : Int))) = true) ∧ Tt ∧ T2 (T4 (T4 Tt))))))) [.no, .no, .no, .dec false, .no, .no, .no, .no, .dec false, .no, .no, .no, .no, .dec false, .no, .no, .no, .no, .dec true] [1, 34] [1] ⟨tr, tr, tr, ⟨tr, b1⟩, tr, tr, tr, tr, ⟨tr, b2⟩, tr, tr, tr, tr, ⟨tr, b3⟩, tr, tr, tr, tr, ⟨tr, b4⟩, tr, tr, tr, tr, tr, tr, tr, tr, tr, tr, tr, tr⟩ ⟨rfl, rfl⟩
          · rcases ite2_cases e7 with ⟨b5, e7⟩ | ⟨b5, e7⟩
            · replace e7 := some_eq e7
              subst e7
              exact AW.rA ⟨[(1, (vp 1 0)), (34, (vc (.bool true)))], [(1, (.box [(.c (.int .i64 a0.Length)), (.c (.int .i64 a0.Kind)), (.c (sl 1 (csL 5 cs_Key) a0.Tracks)), (.c (sl 4 cs_RootKey a0.Roots))]))]⟩ (Tt ∧ T2 ((Tt ∧ (decide (a0.Length < (1 : Int))) = false) ∧ T4 ((Tt ∧ (decide (a0.Length > (1000 : Int))) = false) ∧ T4 ((Tt ∧ (decide (a0.Kind < (0 : Int))) = false) ∧ T4 ((Tt ∧ (decide (a0.Kind > (2 : Int))) = false) ∧ Tt ∧ T4 ((Tt ∧ (decide ((a0.Tracks.length : Int) < (1 : Int))) = true) ∧ Tt ∧ T4 Tt)))))) [.no, .no, .no, .dec false, .no, .no, .no, .no, .dec false, .no, .no, .no, .no, .dec false, .no, .no, .no, .no, .dec false, .no, .no, .no, .no, .no, .dec true] [1, 34] [1] ⟨tr, tr, tr, ⟨tr, b1⟩, tr, tr, tr, tr, ⟨tr, b2⟩, tr, tr, tr, tr, ⟨tr, b3⟩, tr, tr, tr, tr, ⟨tr, b4⟩, tr, tr, tr, tr, tr, ⟨tr, b5⟩, tr, tr, tr, tr, tr, tr⟩ ⟨rfl, rfl⟩
            · replace e7 := some_eq e7
              subst e7
              exact AW.rA ⟨[(1, (vp 1 0)), (34, (vc (.bool (decide ((a0.Tracks.length : Int) > (12 : Int))))))], [(1, (.box [(.c (.int .i64 a0.Length)), (.c (.int .i64 a0.Kind)), (.c (sl 1 (csL 5 cs_Key) a0.Tracks)), (.c (sl 4 cs_RootKey a0.Roots))]))]⟩ (Tt ∧ T2 ((Tt ∧ (decide (a0.Length < (1 : Int))) = false) ∧ T4 ((Tt ∧ (decide (a0.Length > (1000 : Int))) = false) ∧ T4 ((Tt ∧ (decide (a0.Kind < (0 : Int))) = false) ∧ T4 ((Tt ∧ (decide (a0.Kind > (2 : Int))) = false) ∧ Tt ∧ T4 ((Tt ∧ (decide ((a0.Tracks.length : Int) < (1 : Int))) = false) ∧ Tt ∧ T4 Tt)))))) [.no, .no, .no, .dec false, .no, .no, .no, .no, .dec false, .no, .no, .no, .no, .dec false, .no, .no, .no, .no, .dec false, .no, .no, .no, .no, .no, .dec false] [1, 34] [1] ⟨tr, tr, tr, ⟨tr, b1⟩, tr, tr, tr, tr, ⟨tr, b2⟩, tr, tr, tr, tr, ⟨tr, b3⟩, tr, tr, tr, tr, ⟨tr, b4⟩, tr, tr, tr, tr, tr, ⟨tr, b5⟩, tr, tr, tr, tr, tr, tr⟩ ⟨rfl, rfl⟩
  refine thenQ_normal ?_
  rcases ite2_cases h with ⟨b8, h⟩ | ⟨b8, h⟩
  · refine AW.cond_t rfl b8 ?_
    refine AW.seq (AW.rA ⟨[(2, (vc (.bool false)))], []⟩ (Tt ∧ Tt) [] [2] [] ⟨tr, tr⟩ (thenQ_normal ?_))
    refine AW.ret ?_
    refine thenQ_ret ?_
    replace h := some_eq h
    subst h
    exact ⟨.inr rfl, retOK_of [(.one (.c (.bool false)))] (by kernel_rfl) ⟨⟨rfl, tr⟩, tr⟩ (of_decide_eq_true (by kernel_rfl))⟩
  · refine AW.cond_f rfl b8 ?_
    refine AW.skip ?_
    refine thenQ_normal ?_
    refine AW.seq ?_
    refine AW.seq (AW.rA ⟨[(1, (vp 1 0)), (36, (vc (sl 1 (csL 5 cs_Key) a0.Tracks))), (37, (vc (.int .i64 (a0.Tracks.length : Int)))), (38, (vc (.int .i64 (0 : Int))))], [(1, (.box [(.c (.int .i64 a0.Length)), (.c (.int .i64 a0.Kind)), (.c (sl 1 (csL 5 cs_Key) a0.Tracks)), (.c (sl 4 cs_RootKey a0.Roots))]))]⟩ (T4 Tt) [] [1, 36, 37, 38] [1] ⟨tr, tr, tr, tr, tr⟩ (thenQ_normal ?_))
    refine AW.block ?_
    refine AW.loopQ (σ := Nat × Int) (fun p => ⟨[(1, (vp 1 0)), (36, (vc (sl 1 (csL 5 cs_Key) a0.Tracks))), (37, (vc (.int .i64 (a0.Tracks.length : Int)))), (38, (vc (.int .i64 p.2)))], [(1, (.box [(.c (.int .i64 a0.Length)), (.c (.int .i64 a0.Kind)), (.c (sl 1 (csL 5 cs_Key) a0.Tracks)), (.c (sl 4 cs_RootKey a0.Roots))]))]⟩) (fun p => impl_ValidClip_l1 K a0 p.1 p.2 = some o) (fun p => p.1) (K, (0 : Int)) h ?_
    clear h
    rintro ⟨k, x10⟩ h
    replace h : impl_ValidClip_l1 K a0 k x10 = some o := h
    show AW _ _ (⟨[(1, (vp 1 0)), (36, (vc (sl 1 (csL 5 cs_Key) a0.Tracks))), (37, (vc (.int .i64 (a0.Tracks.length : Int)))), (38, (vc (.int .i64 x10)))], [(1, (.box [(.c (.int .i64 a0.Length)), (.c (.int .i64 a0.Kind)), (.c (sl 1 (csL 5 cs_Key) a0.Tracks)), (.c (sl 4 cs_RootKey a0.Roots))]))]⟩ : St) _
    obtain _ | k := k
    · rw [impl_ValidClip_l1] at h; cases h
    rw [impl_ValidClip_l1] at h
    refine AW.seq (AW.rA ⟨[(1, (vp 1 0)), (36, (vc (sl 1 (csL 5 cs_Key) a0.Tracks))), (37, (vc (.int .i64 (a0.Tracks.length : Int)))), (38, (vc (.int .i64 x10))), (39, (vc (.bool (decide (x10 < (a0.Tracks.length : Int))))))], [(1, (.box [(.c (.int .i64 a0.Length)), (.c (.int .i64 a0.Kind)), (.c (sl 1 (csL 5 cs_Key) a0.Tracks)), (.c (sl 4 cs_RootKey a0.Roots))]))]⟩ (Tt ∧ Tt) [] [1, 36, 37, 38, 39] [1] ⟨tr, tr⟩ (thenQ_normal ?_))
    refine AW.seq ?_
    rcases ite2_cases h with ⟨b11, h⟩ | ⟨b11, h⟩
    · refine AW.cond_t rfl b11 ?_
      refine AW.skip ?_
      refine thenQ_normal ?_
      refine AW.seq ?_
      refine AW.block ?_
      refine AW.seq ?_
      obtain ⟨c12, h⟩ := chk_some h
      refine AW.rA ⟨[(1, (vp 1 0)), (4, (vc (sl 5 cs_Key (a0.Tracks.getD x10.toNat default)))), (36, (vc (sl 1 (csL 5 cs_Key) a0.Tracks))), (37, (vc (.int .i64 (a0.Tracks.length : Int)))), (38, (vc (.int .i64 x10)))], [(1, (.box [(.c (.int .i64 a0.Length)), (.c (.int .i64 a0.Kind)), (.c (sl 1 (csL 5 cs_Key) a0.Tracks)), (.c (sl 4 cs_RootKey a0.Roots))]))]⟩ ((0 ≤ x10 ∧ x10 < (a0.Tracks.length : Int)) ∧ T2 Tt) [] [1, 4, 36, 37, 38] [1] ⟨c12, tr, tr, tr⟩ ?_
      refine thenQ_normal ?_
      refine AW.seq ?_
      obtain ⟨v13, e14, h⟩ := bind_some h
      obtain ⟨v15, e16, h⟩ := bind_some h
      refine AW.dA ⟨[(1, (vp 1 0)), (36, (vc (sl 1 (csL 5 cs_Key) a0.Tracks))), (37, (vc (.int .i64 (a0.Tracks.length : Int)))), (38, (vc (.int .i64 x10))), (47, (vc (.bool (!v15))))], [(1, (.box [(.c (.int .i64 a0.Length)), (.c (.int .i64 a0.Kind)), (.c (sl 1 (csL 5 cs_Key) a0.Tracks)), (.c (sl 4 cs_RootKey a0.Roots))]))]⟩ ((((Tt) ∧ CallOK Try.prog 76 [] [.agg [(.fn 146 0 fun _ => .nilptr), (.fn 147 0 fun _ => .nilptr), (.fn 148 0 fun _ => .nilptr)]]) ∧ Tt ∧ T2 (((((Eqc (.fn 146 0 fun _ => .nilptr)) ∧ (Eqc (.fn 147 0 fun _ => .nilptr)) ∧ (Eqc (.fn 148 0 fun _ => .nilptr)) ∧ Tt) ∧ (Eqc (sl 5 cs_Key (a0.Tracks.getD x10.toNat default))) ∧ (Eqc (.int .i64 a0.Length)) ∧ Tt) ∧ CallOK Try.prog 139 [.agg [(.fn 146 0 fun _ => .nilptr), (.fn 147 0 fun _ => .nilptr), (.fn 148 0 fun _ => .nilptr)], .one (sl 5 cs_Key (a0.Tracks.getD x10.toNat default)), .one (.int .i64 a0.Length)] [.one (.bool v15)]) ∧ Tt ∧ Tt)) ∧ (Tt)) 6 [.call [] [.agg [(.fn 146 0 fun _ => .nilptr), (.fn 147 0 fun _ => .nilptr), (.fn 148 0 fun _ => .nilptr)]] [[.view, .view, .view]], .no, .no, .no, .call [.agg [(.fn 146 0 fun _ => .nilptr), (.fn 147 0 fun _ => .nilptr), (.fn 148 0 fun _ => .nilptr)], .one (sl 5 cs_Key (a0.Tracks.getD x10.toNat default)), .one (.int .i64 a0.Length)] [.one (.bool v15)] [[.view]]] [1, 36, 37, 38, 47] [1] ⟨⟨⟨tr, ok_impl_turnTrack K v13 e14⟩, tr, tr, tr, ⟨⟨⟨rfl, rfl, rfl, tr⟩, rfl, rfl, tr⟩, ok_impl_track_impl_Key_valid K (a0.Tracks.getD x10.toNat default) a0.Length v15 e16⟩, tr, tr⟩, tr⟩ ?_
      refine thenQ_normal ?_
      rcases ite2_cases h with ⟨b17, h⟩ | ⟨b17, h⟩
      · refine AW.cond_t rfl b17 ?_
        refine AW.seq (AW.rA ⟨[(2, (vc (.bool false)))], []⟩ (Tt ∧ Tt) [] [2] [] ⟨tr, tr⟩ (thenQ_normal ?_))
        refine AW.ret ?_
        refine blockQ_ret ?_
        refine thenQ_ret ?_
        refine loopQ_ret ?_
        refine blockQ_ret ?_
        refine thenQ_ret ?_
        replace h := some_eq h
        subst h
        exact ⟨.inr rfl, retOK_of [(.one (.c (.bool false)))] (by kernel_rfl) ⟨⟨rfl, tr⟩, tr⟩ (of_decide_eq_true (by kernel_rfl))⟩
      · refine AW.cond_f rfl b17 ?_
        refine AW.skip ?_
        refine blockQ_normal ?_
        refine thenQ_normal ?_
        refine AW.rA ⟨[(1, (vp 1 0)), (36, (vc (sl 1 (csL 5 cs_Key) a0.Tracks))), (37, (vc (.int .i64 (a0.Tracks.length : Int)))), (38, (vc (.int .i64 (IntKind.i64.wrap (x10 + (1 : Int))))))], [(1, (.box [(.c (.int .i64 a0.Length)), (.c (.int .i64 a0.Kind)), (.c (sl 1 (csL 5 cs_Key) a0.Tracks)), (.c (sl 4 cs_RootKey a0.Roots))]))]⟩ (T2 Tt) [] [1, 36, 37, 38] [1] ⟨tr, tr, tr⟩ ?_
        exact loopQ_normal (k, (IntKind.i64.wrap (x10 + (1 : Int)))) h (Nat.lt_succ_self k) (Sub.keep [1, 36, 37, 38] [1] (by kernel_rfl) (by kernel_rfl))
    · refine AW.cond_f rfl b11 ?_
      refine AW.exit ?_
      refine thenQ_exit ?_
      refine loopQ_exit ?_
      refine blockQ_exit ?_
      refine thenQ_normal ?_
      refine AW.seq ?_
      obtain ⟨v18, e19, h⟩ := bind_some h
      obtain ⟨v20, e21, h⟩ := bind_some h
      refine AW.dA ⟨[(2, (vc (.bool v20)))], []⟩ ((((Tt) ∧ CallOK Try.prog 79 [] [.agg [(.fn 150 0 fun _ => .nilptr), (.fn 151 0 fun _ => .nilptr), (.fn 152 0 fun _ => .nilptr)]]) ∧ T4 (((((Eqc (.fn 150 0 fun _ => .nilptr)) ∧ (Eqc (.fn 151 0 fun _ => .nilptr)) ∧ (Eqc (.fn 152 0 fun _ => .nilptr)) ∧ Tt) ∧ (Eqc (sl 4 cs_RootKey a0.Roots)) ∧ (Eqc (.int .i64 a0.Length)) ∧ Tt) ∧ CallOK Try.prog 140 [.agg [(.fn 150 0 fun _ => .nilptr), (.fn 151 0 fun _ => .nilptr), (.fn 152 0 fun _ => .nilptr)], .one (sl 4 cs_RootKey a0.Roots), .one (.int .i64 a0.Length)] [.one (.bool v20)]) ∧ Tt ∧ Tt)) ∧ (Tt)) 7 [.call [] [.agg [(.fn 150 0 fun _ => .nilptr), (.fn 151 0 fun _ => .nilptr), (.fn 152 0 fun _ => .nilptr)]] [[.view, .view, .view]], .no, .no, .no, .no, .call [.agg [(.fn 150 0 fun _ => .nilptr), (.fn 151 0 fun _ => .nilptr), (.fn 152 0 fun _ => .nilptr)], .one (sl 4 cs_RootKey a0.Roots), .one (.int .i64 a0.Length)] [.one (.bool v20)] [[.view]]] [2] [] ⟨⟨⟨tr, ok_impl_rootTrack K v18 e19⟩, tr, tr, tr, tr, ⟨⟨⟨rfl, rfl, rfl, tr⟩, rfl, rfl, tr⟩, ok_impl_track_impl_RootKey_valid K a0.Roots a0.Length v20 e21⟩, tr, tr⟩, tr⟩ ?_
      refine thenQ_normal ?_
      refine AW.ret ?_
      replace h := some_eq h
      subst h
      exact ⟨.inr rfl, retOK_of [(.one (.c (.bool v20)))] (by kernel_rfl) ⟨⟨rfl, tr⟩, tr⟩ (of_decide_eq_true (by kernel_rfl))⟩

/-! slices.Clone[[]impl.RootKey,impl.RootKey] -/
def slices_Clone_impl_RootKey_impl_RootKey (_K : Nat) (a0 : (List RootKey)) : Option ((List RootKey)) :=
  chk ((([] : List RootKey).length + a0.length) * 24 ≤ 140737488355328) (some (([] : List RootKey) ++ a0))

theorem ok_slices_Clone_impl_RootKey_impl_RootKey (K : Nat) (a0 : (List RootKey)) (o : ((List RootKey))) (h : slices_Clone_impl_RootKey_impl_RootKey K a0 = some o) : CallOK Try.prog 103 [.one (sl 4 cs_RootKey a0)] [.one (sl 4 cs_RootKey o)] := by
  refine callOK_of_AW Try.func103 rfl (by kernel_rfl) (Nat.le_of_ble_eq_true (by kernel_rfl)) ?_
  intro w0
  unfold slices_Clone_impl_RootKey_impl_RootKey at h
  refine AW.seq (AW.rA ⟨[(0, (vc (sl 4 cs_RootKey a0)))], []⟩ (Tt ∧ Tt) [] [0] [] ⟨tr, tr⟩ (thenQ_normal ?_))
  refine AW.seq ?_
  refine AW.seq ?_
  refine AW.nilA (d := 4) (n := a0.length) 1 [.no] [0] [] (s' := ⟨[(0, (vc (sl 4 cs_RootKey a0)))], []⟩) (ob := Tt ∧ Tt) (by kernel_rfl) ⟨tr, tr⟩ ?_
  intro b2 b1
  cases b2
  · refine thenQ_normal ?_
    refine AW.cond_f (b := false) rfl rfl ?_
    refine AW.skip ?_
    refine thenQ_normal ?_
    refine AW.seq ?_
    obtain ⟨c3, h⟩ := chk_some h
    refine AW.rA ⟨[(2, (.v (.one (.lst 2 (([] : List RootKey) ++ a0).length 4 (gl cs_RootKey (([] : List RootKey) ++ a0))))))], [(2, (.lst (([] : List RootKey) ++ a0).length 4 (gl cs_RootKey (([] : List RootKey) ++ a0))))]⟩ ((([] : List RootKey).length = 0 ∧ Tt) ∧ Tt ∧ ((([] : List RootKey) ++ a0).length = ([] : List RootKey).length + a0.length ∧ AppOb (([] : List RootKey).length) (a0.length) 4 (gl cs_RootKey ([] : List RootKey)) (gl cs_RootKey a0) (gl cs_RootKey (([] : List RootKey) ++ a0)) ∧ (∀ i j, i < a0.length → j < 4 → scalarC (gl cs_RootKey a0 i j)) ∧ (([] : List RootKey).length + a0.length) * 24 ≤ 140737488355328) ∧ Tt ∧ Tt) [.obj 1 ([] : List RootKey).length (gl cs_RootKey ([] : List RootKey)), .no, .obj 2 (([] : List RootKey) ++ a0).length (gl cs_RootKey (([] : List RootKey) ++ a0))] [2] [2] ⟨⟨rfl, tr⟩, tr, ⟨List.length_append, gl_append, gl_scalar sc_RootKey _, c3⟩, tr, tr⟩ ?_
    refine thenQ_normal ?_
    refine AW.ret ?_
    replace h := some_eq h
    subst h
    exact ⟨.inr rfl, retOK_of [(.one (.lst 2 (([] : List RootKey) ++ a0).length 4 (gl cs_RootKey (([] : List RootKey) ++ a0))))] (by kernel_rfl) ⟨rfl, tr⟩ (of_decide_eq_true (by kernel_rfl))⟩
  · obtain rfl := List.eq_nil_of_length_eq_zero (b1 rfl)
    replace h : some ([] : (List RootKey)) = some o := by simpa [chk] using h
    refine thenQ_normal ?_
    refine AW.cond_t (b := true) rfl rfl ?_
    refine AW.seq (AW.rA ⟨[(2, (.v (.one .nils)))], []⟩ (Tt ∧ Tt) [] [2] [] ⟨tr, tr⟩ (thenQ_normal ?_))
    refine AW.ret ?_
    refine thenQ_ret ?_
    replace h := some_eq h
    subst h
    exact ⟨.inr rfl, retOK_of [(.one .nils)] (by kernel_rfl) ⟨rfl, tr⟩ (of_decide_eq_true (by kernel_rfl))⟩

/-! impl.rootTrack$2 -/
def impl_rootTrack_2 (_K : Nat) (a0 : RootKey) (a1 : Int) : Option (RootKey) :=
  some (RootKey.mk a1 a0.Place)

theorem ok_impl_rootTrack_2 (K : Nat) (a0 : RootKey) (a1 : Int) (o : (RootKey)) (h : impl_rootTrack_2 K a0 a1 = some o) : CallOK Try.prog 151 [.agg (cs_RootKey a0), .one (.int .i64 a1)] [.agg (cs_RootKey o)] := by
  refine callOK_of_AW Try.func151 rfl (by kernel_rfl) (Nat.le_of_ble_eq_true (by kernel_rfl)) ?_
  intro w0
  unfold impl_rootTrack_2 at h
  refine AW.seq (AW.rA ⟨[(1, (vc (.int .i64 a1))), (2, (vp 1 0)), (4, (vp 2 0))], [(1, (.box [(.c (.int .i64 a0.At)), (.c (.flt .f32 a0.Place.X.bits)), (.c (.flt .f32 a0.Place.Y.bits)), (.c (.flt .f32 a0.Place.Z.bits))])), (2, (.box [(.c (.int .i64 (0 : Int))), (.c (.flt .f32 (default : F32).bits)), (.c (.flt .f32 (default : F32).bits)), (.c (.flt .f32 (default : F32).bits))]))]⟩ (T2 Tt) [.box 1, .box 2] [1, 2, 4] [1, 2] ⟨tr, tr, tr⟩ (thenQ_normal ?_))
  refine AW.seq (AW.rA ⟨[(2, (vp 1 0)), (4, (vp 2 0))], [(1, (.box [(.c (.int .i64 a1)), (.c (.flt .f32 a0.Place.X.bits)), (.c (.flt .f32 a0.Place.Y.bits)), (.c (.flt .f32 a0.Place.Z.bits))])), (2, (.box [(.c (.int .i64 (0 : Int))), (.c (.flt .f32 (default : F32).bits)), (.c (.flt .f32 (default : F32).bits)), (.c (.flt .f32 (default : F32).bits))]))]⟩ (Tt ∧ T2 Tt) [] [2, 4] [1, 2] ⟨tr, tr, tr, tr⟩ (thenQ_normal ?_))
  refine AW.seq (AW.rA ⟨[(4, (vp 2 0))], [(2, (.box [(.c (.int .i64 a1)), (.c (.flt .f32 a0.Place.X.bits)), (.c (.flt .f32 a0.Place.Y.bits)), (.c (.flt .f32 a0.Place.Z.bits))]))]⟩ (T2 Tt) [] [4] [2] ⟨tr, tr, tr⟩ (thenQ_normal ?_))
  refine AW.ret ?_
  replace h := some_eq h
  subst h
  exact ⟨.inr rfl, retOK_of [(.agg [(.c (.int .i64 a1)), (.c (.flt .f32 a0.Place.X.bits)), (.c (.flt .f32 a0.Place.Y.bits)), (.c (.flt .f32 a0.Place.Z.bits))])] (by kernel_rfl) ⟨⟨⟨rfl, tr⟩, ⟨rfl, tr⟩, ⟨rfl, tr⟩, ⟨rfl, tr⟩, tr⟩, tr⟩ (of_decide_eq_true (by kernel_rfl))⟩

/-! (impl.track[impl.RootKey]).join -/
def impl_track_impl_RootKey_join_l1 (K : Nat) (a2 : (List RootKey)) (a3 : Int) : Nat → Int → (List RootKey) → Option ((List RootKey))
  | 0, _, _ => none
  | k + 1, x16, x17 => ite2 ((decide (x16 < (a2.length : Int)))) (chk (0 ≤ x16 ∧ x16 < (a2.length : Int)) ((impl_rootTrack_1 K (a2.getD x16.toNat default)).bind fun v20 => (impl_rootTrack_2 K (a2.getD x16.toNat default) (IntKind.i64.wrap (v20 + a3))).bind fun v22 => chk ((x17.length + ([v22]).length) * 24 ≤ 140737488355328) (impl_track_impl_RootKey_join_l1 K a2 a3 k (IntKind.i64.wrap (x16 + (1 : Int))) (x17 ++ ([v22]))))) (some x17)

def impl_track_impl_RootKey_join_l2 (K : Nat) (a2 : (List RootKey)) (a3 : Int) : Nat → Int → (List RootKey) → Option ((List RootKey))
  | 0, _, _ => none
  | k + 1, x29, x30 => ite2 ((decide (x29 < (a2.length : Int)))) (chk (0 ≤ x29 ∧ x29 < (a2.length : Int)) ((impl_rootTrack_1 K (a2.getD x29.toNat default)).bind fun v33 => (impl_rootTrack_2 K (a2.getD x29.toNat default) (IntKind.i64.wrap (v33 + a3))).bind fun v35 => chk ((x30.length + ([v35]).length) * 24 ≤ 140737488355328) (impl_track_impl_RootKey_join_l2 K a2 a3 k (IntKind.i64.wrap (x29 + (1 : Int))) (x30 ++ ([v35]))))) (some x30)

def impl_track_impl_RootKey_join (K : Nat) (a1 : (List RootKey)) (a2 : (List RootKey)) (a3 : Int) : Option ((List RootKey)) :=
  chk (0 ≤ (IntKind.i64.wrap ((a1.length : Int) - (1 : Int))) ∧ (IntKind.i64.wrap ((a1.length : Int) - (1 : Int))) < (a1.length : Int)) ((impl_rootTrack_1 K (a1.getD ((IntKind.i64.wrap ((a1.length : Int) - (1 : Int))).toNat) default)).bind fun v2 => (ite2 ((v2 == a3)) (chk (0 ≤ (0 : Int) ∧ (0 : Int) < (a2.length : Int)) ((impl_rootTrack_1 K (a2.getD ((0 : Int).toNat) default)).bind fun v6 => some (v6 == (0 : Int)))) (some false)).bind fun j8 => ite2 (j8) (chk (0 ≤ (0 : Int) ∧ (0 : Int) ≤ (IntKind.i64.wrap ((a1.length : Int) - (1 : Int))) ∧ (IntKind.i64.wrap ((a1.length : Int) - (1 : Int))) ≤ (a1.length : Int)) ((slices_Clone_impl_RootKey_impl_RootKey K ((a1.drop (0 : Int).toNat).take ((IntKind.i64.wrap ((a1.length : Int) - (1 : Int))).toNat - (0 : Int).toNat))).bind fun v12 => impl_track_impl_RootKey_join_l1 K a2 a3 K (0 : Int) v12)) ((slices_Clone_impl_RootKey_impl_RootKey K a1).bind fun v25 => impl_track_impl_RootKey_join_l2 K a2 a3 K (0 : Int) v25))

theorem ok_impl_track_impl_RootKey_join (K : Nat) (a1 : (List RootKey)) (a2 : (List RootKey)) (a3 : Int) (o : ((List RootKey))) (h : impl_track_impl_RootKey_join K a1 a2 a3 = some o) : CallOK Try.prog 88 [.agg [(.fn 150 0 fun _ => .nilptr), (.fn 151 0 fun _ => .nilptr), (.fn 152 0 fun _ => .nilptr)], .one (sl 4 cs_RootKey a1), .one (sl 4 cs_RootKey a2), .one (.int .i64 a3)] [.one (sl 4 cs_RootKey o)] := by
  refine callOK_of_AW Try.func88 rfl (by kernel_rfl) (Nat.le_of_ble_eq_true (by kernel_rfl)) ?_
  intro w0
  unfold impl_track_impl_RootKey_join at h
  refine AW.seq (AW.rA ⟨[(1, (vc (sl 4 cs_RootKey a1))), (2, (vc (sl 4 cs_RootKey a2))), (3, (vc (.int .i64 a3))), (4, (vp 1 0))], [(1, (.box [(.c (.fn 150 0 fun _ => .nilptr)), (.c (.fn 151 0 fun _ => .nilptr)), (.c (.fn 152 0 fun _ => .nilptr))]))]⟩ (T2 Tt) [.box 1] [1, 2, 3, 4] [1] ⟨tr, tr, tr⟩ (thenQ_normal ?_))
  refine AW.seq ?_
  refine AW.seq ?_
  obtain ⟨c1, h⟩ := chk_some h
  obtain ⟨v2, e3, h⟩ := bind_some h
  obtain ⟨j8, e9, h⟩ := bind_some h
  refine AW.join1 (s2 := ⟨[(1, (vc (sl 4 cs_RootKey a1))), (2, (vc (sl 4 cs_RootKey a2))), (3, (vc (.int .i64 a3))), (4, (vp 1 0)), (31, (vc (.bool j8)))], [(1, (.box [(.c (.fn 150 0 fun _ => .nilptr)), (.c (.fn 151 0 fun _ => .nilptr)), (.c (.fn 152 0 fun _ => .nilptr))]))]⟩) ?_ ?_
  · rcases ite2_cases e9 with ⟨b4, e9⟩ | ⟨b4, e9⟩
    · obtain ⟨c5, e9⟩ := chk_some e9
      obtain ⟨v6, e7, e9⟩ := bind_some e9
      replace e9 := some_eq e9
      subst e9
      exact AW.dA ⟨[(1, (vc (sl 4 cs_RootKey a1))), (2, (vc (sl 4 cs_RootKey a2))), (3, (vc (.int .i64 a3))), (4, (vp 1 0)), (31, (vc (.bool (v6 == (0 : Int)))))], [(1, (.box [(.c (.fn 150 0 fun _ => .nilptr)), (.c (.fn 151 0 fun _ => .nilptr)), (.c (.fn 152 0 fun _ => .nilptr))]))]⟩ ((T2 (T4 ((0 ≤ (IntKind.i64.wrap ((a1.length : Int) - (1 : Int))) ∧ (IntKind.i64.wrap ((a1.length : Int) - (1 : Int))) < (a1.length : Int)) ∧ Tt ∧ ((((((.int .i64 ((a1.getD ((IntKind.i64.wrap ((a1.length : Int) - (1 : Int))).toNat) default).At)) : C) = (.int .i64 ((a1.getD ((IntKind.i64.wrap ((a1.length : Int) - (1 : Int))).toNat) default).At))) ∧ (((.flt .f32 (((a1.getD ((IntKind.i64.wrap ((a1.length : Int) - (1 : Int))).toNat) default).Place).X).bits) : C) = (.flt .f32 (((a1.getD ((IntKind.i64.wrap ((a1.length : Int) - (1 : Int))).toNat) default).Place).X).bits)) ∧ (((.flt .f32 (((a1.getD ((IntKind.i64.wrap ((a1.length : Int) - (1 : Int))).toNat) default).Place).Y).bits) : C) = (.flt .f32 (((a1.getD ((IntKind.i64.wrap ((a1.length : Int) - (1 : Int))).toNat) default).Place).Y).bits)) ∧ (((.flt .f32 (((a1.getD ((IntKind.i64.wrap ((a1.length : Int) - (1 : Int))).toNat) default).Place).Z).bits) : C) = (.flt .f32 (((a1.getD ((IntKind.i64.wrap ((a1.length : Int) - (1 : Int))).toNat) default).Place).Z).bits)) ∧ Tt) ∧ Tt) ∧ CallOK Try.prog 150 [.agg (cs_RootKey (a1.getD ((IntKind.i64.wrap ((a1.length : Int) - (1 : Int))).toNat) default))] [.one (.int .i64 v2)]) ∧ T2 ((Tt ∧ (v2 == a3) = true) ∧ Tt ∧ T2 ((0 ≤ (0 : Int) ∧ (0 : Int) < (a2.length : Int)) ∧ Tt ∧ ((((Eqc (.int .i64 ((a2.getD ((0 : Int).toNat) default).At))) ∧ (((.flt .f32 (((a2.getD ((0 : Int).toNat) default).Place).X).bits) : C) = (.flt .f32 (((a2.getD ((0 : Int).toNat) default).Place).X).bits)) ∧ (((.flt .f32 (((a2.getD ((0 : Int).toNat) default).Place).Y).bits) : C) = (.flt .f32 (((a2.getD ((0 : Int).toNat) default).Place).Y).bits)) ∧ (((.flt .f32 (((a2.getD ((0 : Int).toNat) default).Place).Z).bits) : C) = (.flt .f32 (((a2.getD ((0 : Int).toNat) default).Place).Z).bits)) ∧ Tt) ∧ Tt) ∧ CallOK Try.prog 150 [.agg (cs_RootKey (a2.getD ((0 : Int).toNat) default))] [.one (.int .i64 v6)]) ∧ T2 Tt))))) ∧ (Tt)) 20 [.no, .no, .no, .no, .no, .no, .no, .no, .call [.agg (cs_RootKey (a1.getD ((IntKind.i64.wrap ((a1.length : Int) - (1 : Int))).toNat) default))] [.one (.int .i64 v2)] [[.view]], .no, .no, .dec true, .no, .no, .no, .no, .no, .call [.agg (cs_RootKey (a2.getD ((0 : Int).toNat) default))] [.one (.int .i64 v6)] [[.view]]] [1, 2, 3, 4, 31] [1] ⟨⟨tr, tr, tr, tr, tr, tr, c1, tr, ⟨⟨⟨rfl, rfl, rfl, rfl, tr⟩, tr⟩, ok_impl_rootTrack_1 K (a1.getD ((IntKind.i64.wrap ((a1.length : Int) - (1 : Int))).toNat) default) v2 e3⟩, tr, tr, ⟨tr, b4⟩, tr, tr, tr, c5, tr, ⟨⟨⟨rfl, rfl, rfl, rfl, tr⟩, tr⟩, ok_impl_rootTrack_1 K (a2.getD ((0 : Int).toNat) default) v6 e7⟩, tr, tr, tr⟩, tr⟩ ⟨rfl, rfl⟩
    · replace e9 := some_eq e9
      subst e9
      exact AW.dA ⟨[(1, (vc (sl 4 cs_RootKey a1))), (2, (vc (sl 4 cs_RootKey a2))), (3, (vc (.int .i64 a3))), (4, (vp 1 0)), (31, (vc (.bool false)))], [(1, (.box [(.c (.fn 150 0 fun _ => .nilptr)), (.c (.fn 151 0 fun _ => .nilptr)), (.c (.fn 152 0 fun _ => .nilptr))]))]⟩ ((T2 (T4 ((0 ≤ (IntKind.i64.wrap ((a1.length : Int) - (1 : Int))) ∧ (IntKind.i64.wrap ((a1.length : Int) - (1 : Int))) < (a1.length : Int)) ∧ Tt ∧ ((((((.int .i64 ((a1.getD ((IntKind.i64.wrap ((a1.length : Int) - (1 : Int))).toNat) default).At)) : C) = (.int .i64 ((a1.getD ((IntKind.i64.wrap ((a1.length : Int) - (1 : Int))).toNat) default).At))) ∧ (((.flt .f32 (((a1.getD ((IntKind.i64.wrap ((a1.length : Int) - (1 : Int))).toNat) default).Place).X).bits) : C) = (.flt .f32 (((a1.getD ((IntKind.i64.wrap ((a1.length : Int) - (1 : Int))).toNat) default).Place).X).bits)) ∧ (((.flt .f32 (((a1.getD ((IntKind.i64.wrap ((a1.length : Int) - (1 : Int))).toNat) default).Place).Y).bits) : C) = (.flt .f32 (((a1.getD ((IntKind.i64.wrap ((a1.length : Int) - (1 : Int))).toNat) default).Place).Y).bits)) ∧ (((.flt .f32 (((a1.getD ((IntKind.i64.wrap ((a1.length : Int) - (1 : Int))).toNat) default).Place).Z).bits) : C) = (.flt .f32 (((a1.getD ((IntKind.i64.wrap ((a1.length : Int) - (1 : Int))).toNat) default).Place).Z).bits)) ∧ Tt) ∧ Tt) ∧ CallOK Try.prog 150 [.agg (cs_RootKey (a1.getD ((IntKind.i64.wrap ((a1.length : Int) - (1 : Int))).toNat) default))] [.one (.int .i64 v2)]) ∧ T2 ((Tt ∧ (v2 == a3) = false) ∧ T4 (T4 Tt))))) ∧ (Tt)) 20 [.no, .no, .no, .no, .no, .no, .no, .no, .call [.agg (cs_RootKey (a1.getD ((IntKind.i64.wrap ((a1.length : Int) - (1 : Int))).toNat) default))] [.one (.int .i64 v2)] [[.view]], .no, .no, .dec false] [1, 2, 3, 4, 31] [1] ⟨⟨tr, tr, tr, tr, tr, tr, c1, tr, ⟨⟨⟨rfl, rfl, rfl, rfl, tr⟩, tr⟩, ok_impl_rootTrack_1 K (a1.getD ((IntKind.i64.wrap ((a1.length : Int) - (1 : Int))).toNat) default) v2 e3⟩, tr, tr, ⟨tr, b4⟩, tr, tr, tr, tr, tr, tr, tr, tr, tr⟩, tr⟩ ⟨rfl, rfl⟩
  refine thenQ_normal ?_
  rcases ite2_cases h with ⟨b10, h⟩ | ⟨b10, h⟩
  · refine AW.cond_t rfl b10 ?_
    obtain ⟨c11, h⟩ := chk_some h
    refine AW.rA ⟨[(1, (vc (sl 4 cs_RootKey ((a1.drop (0 : Int).toNat).take ((IntKind.i64.wrap ((a1.length : Int) - (1 : Int))).toNat - (0 : Int).toNat))))), (2, (vc (sl 4 cs_RootKey a2))), (3, (vc (.int .i64 a3))), (4, (vp 1 0))], [(1, (.box [(.c (.fn 150 0 fun _ => .nilptr)), (.c (.fn 151 0 fun _ => .nilptr)), (.c (.fn 152 0 fun _ => .nilptr))]))]⟩ (T4 ((0 ≤ (0 : Int) ∧ (0 : Int) ≤ (IntKind.i64.wrap ((a1.length : Int) - (1 : Int))) ∧ (IntKind.i64.wrap ((a1.length : Int) - (1 : Int))) ≤ (a1.length : Int) ∧ ((((a1.drop (0 : Int).toNat).take ((IntKind.i64.wrap ((a1.length : Int) - (1 : Int))).toNat - (0 : Int).toNat)).length : Nat) : Int) = (IntKind.i64.wrap ((a1.length : Int) - (1 : Int))) - (0 : Int) ∧ ∀ i j, i < ((a1.drop (0 : Int).toNat).take ((IntKind.i64.wrap ((a1.length : Int) - (1 : Int))).toNat - (0 : Int).toNat)).length → j < 4 → gl cs_RootKey ((a1.drop (0 : Int).toNat).take ((IntKind.i64.wrap ((a1.length : Int) - (1 : Int))).toNat - (0 : Int).toNat)) i j = gl cs_RootKey a1 ((0 : Int).toNat + i) j) ∧ Tt ∧ Tt)) [.no, .no, .no, .no, .seq ((a1.drop (0 : Int).toNat).take ((IntKind.i64.wrap ((a1.length : Int) - (1 : Int))).toNat - (0 : Int).toNat)).length (gl cs_RootKey ((a1.drop (0 : Int).toNat).take ((IntKind.i64.wrap ((a1.length : Int) - (1 : Int))).toNat - (0 : Int).toNat)))] [1, 2, 3, 4] [1] ⟨tr, tr, tr, tr, ⟨c11.1, c11.2.1, c11.2.2, (gl_drop (sz := 4) (cs := cs_RootKey) c11.1 c11.2.1 c11.2.2).1, (gl_drop c11.1 c11.2.1 c11.2.2).2⟩, tr, tr⟩ ?_
    refine thenQ_normal ?_
    refine AW.seq ?_
    obtain ⟨v12, e13, h⟩ := bind_some h
    refine AW.rA ⟨[(2, (vc (sl 4 cs_RootKey a2))), (3, (vc (.int .i64 a3))), (4, (vp 1 0)), (9, (.v (.one (.lst 2 v12.length 4 (gl cs_RootKey v12)))))], [(1, (.box [(.c (.fn 150 0 fun _ => .nilptr)), (.c (.fn 151 0 fun _ => .nilptr)), (.c (.fn 152 0 fun _ => .nilptr))])), (2, (.lst v12.length 4 (gl cs_RootKey v12)))]⟩ (Tt ∧ (((((sl 4 cs_RootKey ((a1.drop (0 : Int).toNat).take ((IntKind.i64.wrap ((a1.length : Int) - (1 : Int))).toNat - (0 : Int).toNat))) : C) = (sl 4 cs_RootKey ((a1.drop (0 : Int).toNat).take ((IntKind.i64.wrap ((a1.length : Int) - (1 : Int))).toNat - (0 : Int).toNat)))) ∧ Tt) ∧ CallOK Try.prog 103 [.one (sl 4 cs_RootKey ((a1.drop (0 : Int).toNat).take ((IntKind.i64.wrap ((a1.length : Int) - (1 : Int))).toNat - (0 : Int).toNat)))] [.one (sl 4 cs_RootKey v12)]) ∧ Tt ∧ Tt) [.no, .call [.one (sl 4 cs_RootKey ((a1.drop (0 : Int).toNat).take ((IntKind.i64.wrap ((a1.length : Int) - (1 : Int))).toNat - (0 : Int).toNat)))] [.one (sl 4 cs_RootKey v12)] [[.lst 2]]] [2, 3, 4, 9] [1, 2] ⟨tr, ⟨⟨rfl, tr⟩, ok_slices_Clone_impl_RootKey_impl_RootKey K ((a1.drop (0 : Int).toNat).take ((IntKind.i64.wrap ((a1.length : Int) - (1 : Int))).toNat - (0 : Int).toNat)) v12 e13⟩, tr, tr⟩ ?_
    refine thenQ_normal ?_
    refine AW.seq ?_
    refine AW.seq (AW.rA ⟨[(3, (vc (.int .i64 a3))), (4, (vp 1 0)), (9, (.v (.one (.lst 2 v12.length 4 (gl cs_RootKey v12))))), (39, (vc (sl 4 cs_RootKey a2))), (40, (vc (.int .i64 (a2.length : Int)))), (41, (vc (.int .i64 (0 : Int))))], [(1, (.box [(.c (.fn 150 0 fun _ => .nilptr)), (.c (.fn 151 0 fun _ => .nilptr)), (.c (.fn 152 0 fun _ => .nilptr))])), (2, (.lst v12.length 4 (gl cs_RootKey v12)))]⟩ (Tt ∧ T2 Tt) [] [3, 4, 9, 39, 40, 41] [1, 2] ⟨tr, tr, tr, tr⟩ (thenQ_normal ?_))
    refine AW.block ?_
    refine AW.loopQ (σ := Nat × Int × (List RootKey)) (fun p => ⟨[(3, (vc (.int .i64 a3))), (4, (vp 1 0)), (9, (.v (.one (.lst 2 p.2.2.length 4 (gl cs_RootKey p.2.2))))), (39, (vc (sl 4 cs_RootKey a2))), (40, (vc (.int .i64 (a2.length : Int)))), (41, (vc (.int .i64 p.2.1)))], [(1, (.box [(.c (.fn 150 0 fun _ => .nilptr)), (.c (.fn 151 0 fun _ => .nilptr)), (.c (.fn 152 0 fun _ => .nilptr))])), (2, (.lst p.2.2.length 4 (gl cs_RootKey p.2.2)))]⟩) (fun p => impl_track_impl_RootKey_join_l1 K a2 a3 p.1 p.2.1 p.2.2 = some o) (fun p => p.1) (K, (0 : Int), v12) h ?_
    clear h
    rintro ⟨k, x16, x17⟩ h
    replace h : impl_track_impl_RootKey_join_l1 K a2 a3 k x16 x17 = some o := h
    show AW _ _ (⟨[(3, (vc (.int .i64 a3))), (4, (vp 1 0)), (9, (.v (.one (.lst 2 x17.length 4 (gl cs_RootKey x17))))), (39, (vc (sl 4 cs_RootKey a2))), (40, (vc (.int .i64 (a2.length : Int)))), (41, (vc (.int .i64 x16)))], [(1, (.box [(.c (.fn 150 0 fun _ => .nilptr)), (.c (.fn 151 0 fun _ => .nilptr)), (.c (.fn 152 0 fun _ => .nilptr))])), (2, (.lst x17.length 4 (gl cs_RootKey x17)))]⟩ : St) _
    obtain _ | k := k
    · rw [impl_track_impl_RootKey_join_l1] at h; cases h
    rw [impl_track_impl_RootKey_join_l1] at h
    refine AW.seq (AW.rA ⟨[(3, (vc (.int .i64 a3))), (4, (vp 1 0)), (9, (.v (.one (.lst 2 x17.length 4 (gl cs_RootKey x17))))), (39, (vc (sl 4 cs_RootKey a2))), (40, (vc (.int .i64 (a2.length : Int)))), (41, (vc (.int .i64 x16))), (42, (vc (.bool (decide (x16 < (a2.length : Int))))))], [(1, (.box [(.c (.fn 150 0 fun _ => .nilptr)), (.c (.fn 151 0 fun _ => .nilptr)), (.c (.fn 152 0 fun _ => .nilptr))])), (2, (.lst x17.length 4 (gl cs_RootKey x17)))]⟩ (Tt ∧ Tt) [] [3, 4, 9, 39, 40, 41, 42] [1, 2] ⟨tr, tr⟩ (thenQ_normal ?_))
    refine AW.seq ?_
    rcases ite2_cases h with ⟨b18, h⟩ | ⟨b18, h⟩
    · refine AW.cond_t rfl b18 ?_
      refine AW.skip ?_
      refine thenQ_normal ?_
      refine AW.seq ?_
      refine AW.block ?_
      refine AW.seq ?_
      obtain ⟨c19, h⟩ := chk_some h
      refine AW.rA ⟨[(3, (vc (.int .i64 a3))), (4, (vp 1 0)), (9, (.v (.one (.lst 2 x17.length 4 (gl cs_RootKey x17))))), (11, (vp 9 0)), (39, (vc (sl 4 cs_RootKey a2))), (40, (vc (.int .i64 (a2.length : Int)))), (41, (vc (.int .i64 x16)))], [(1, (.box [(.c (.fn 150 0 fun _ => .nilptr)), (.c (.fn 151 0 fun _ => .nilptr)), (.c (.fn 152 0 fun _ => .nilptr))])), (2, (.lst x17.length 4 (gl cs_RootKey x17))), (9, (.box [(.c (.int .i64 ((a2.getD x16.toNat default).At))), (.c (.flt .f32 (((a2.getD x16.toNat default).Place).X).bits)), (.c (.flt .f32 (((a2.getD x16.toNat default).Place).Y).bits)), (.c (.flt .f32 (((a2.getD x16.toNat default).Place).Z).bits))]))]⟩ ((0 ≤ x16 ∧ x16 < (a2.length : Int)) ∧ Tt ∧ T2 Tt) [.no, .no, .box 9] [3, 4, 9, 11, 39, 40, 41] [1, 2, 9] ⟨c19, tr, tr, tr, tr⟩ ?_
      refine thenQ_normal ?_
      obtain ⟨v20, e21, h⟩ := bind_some h
      obtain ⟨v22, e23, h⟩ := bind_some h
      obtain ⟨c24, h⟩ := chk_some h
      refine AW.dA ⟨[(3, (vc (.int .i64 a3))), (4, (vp 1 0)), (9, (.v (.one (.lst 11 (x17 ++ ([v22])).length 4 (gl cs_RootKey (x17 ++ ([v22]))))))), (39, (vc (sl 4 cs_RootKey a2))), (40, (vc (.int .i64 (a2.length : Int)))), (41, (vc (.int .i64 x16)))], [(1, (.box [(.c (.fn 150 0 fun _ => .nilptr)), (.c (.fn 151 0 fun _ => .nilptr)), (.c (.fn 152 0 fun _ => .nilptr))])), (11, (.lst (x17 ++ ([v22])).length 4 (gl cs_RootKey (x17 ++ ([v22])))))]⟩ ((Tt ∧ T2 (T4 (((((Eqc (.int .i64 ((a2.getD x16.toNat default).At))) ∧ (Eqc (.flt .f32 (((a2.getD x16.toNat default).Place).X).bits)) ∧ (Eqc (.flt .f32 (((a2.getD x16.toNat default).Place).Y).bits)) ∧ (Eqc (.flt .f32 (((a2.getD x16.toNat default).Place).Z).bits)) ∧ Tt) ∧ Tt) ∧ CallOK Try.prog 150 [.agg (cs_RootKey (a2.getD x16.toNat default))] [.one (.int .i64 v20)]) ∧ T2 (((((Eqc (.int .i64 ((a2.getD x16.toNat default).At))) ∧ (Eqc (.flt .f32 (((a2.getD x16.toNat default).Place).X).bits)) ∧ (Eqc (.flt .f32 (((a2.getD x16.toNat default).Place).Y).bits)) ∧ (Eqc (.flt .f32 (((a2.getD x16.toNat default).Place).Z).bits)) ∧ Tt) ∧ (Eqc (.int .i64 (IntKind.i64.wrap (v20 + a3)))) ∧ Tt) ∧ CallOK Try.prog 151 [.agg (cs_RootKey (a2.getD x16.toNat default)), .one (.int .i64 (IntKind.i64.wrap (v20 + a3)))] [.agg (cs_RootKey v22)]) ∧ (([v22]).length = 1 ∧ (((.int .i64 v22.At) : C) = (.int .i64 v22.At) ∧ Tt) ∧ (((.flt .f32 v22.Place.X.bits) : C) = (.flt .f32 v22.Place.X.bits) ∧ Tt) ∧ (((.flt .f32 v22.Place.Y.bits) : C) = (.flt .f32 v22.Place.Y.bits) ∧ Tt) ∧ (((.flt .f32 v22.Place.Z.bits) : C) = (.flt .f32 v22.Place.Z.bits) ∧ Tt) ∧ Tt) ∧ ((x17 ++ ([v22])).length = x17.length + ([v22]).length ∧ AppOb (x17.length) (([v22]).length) 4 (gl cs_RootKey x17) (gl cs_RootKey ([v22])) (gl cs_RootKey (x17 ++ ([v22]))) ∧ (∀ i j, i < ([v22]).length → j < 4 → scalarC (gl cs_RootKey ([v22]) i j)) ∧ (x17.length + ([v22]).length) * 24 ≤ 140737488355328) ∧ Tt)))) ∧ (Tt ∧ Tt)) 13 [.no, .no, .no, .no, .no, .no, .no, .call [.agg (cs_RootKey (a2.getD x16.toNat default))] [.one (.int .i64 v20)] [[.view]], .no, .no, .call [.agg (cs_RootKey (a2.getD x16.toNat default)), .one (.int .i64 (IntKind.i64.wrap (v20 + a3)))] [.agg (cs_RootKey v22)] [[.view, .view, .view, .view]], .obj 10 ([v22]).length (gl cs_RootKey ([v22])), .objK 11 (x17 ++ ([v22])).length (gl cs_RootKey (x17 ++ ([v22])))] [3, 4, 9, 39, 40, 41] [1, 11] ⟨⟨tr, tr, tr, tr, tr, tr, tr, ⟨⟨⟨rfl, rfl, rfl, rfl, tr⟩, tr⟩, ok_impl_rootTrack_1 K (a2.getD x16.toNat default) v20 e21⟩, tr, tr, ⟨⟨⟨rfl, rfl, rfl, rfl, tr⟩, rfl, tr⟩, ok_impl_rootTrack_2 K (a2.getD x16.toNat default) (IntKind.i64.wrap (v20 + a3)) v22 e23⟩, ⟨rfl, ⟨⟨rfl, tr⟩, ⟨rfl, tr⟩, ⟨rfl, tr⟩, ⟨rfl, tr⟩, tr⟩⟩, ⟨List.length_append, gl_append, gl_scalar sc_RootKey _, c24⟩, tr⟩, ⟨tr, tr⟩⟩ ?_
      refine blockQ_normal ?_
      refine thenQ_normal ?_
      refine AW.rA ⟨[(3, (vc (.int .i64 a3))), (4, (vp 1 0)), (9, (.v (.one (.lst 11 (x17 ++ ([v22])).length 4 (gl cs_RootKey (x17 ++ ([v22]))))))), (39, (vc (sl 4 cs_RootKey a2))), (40, (vc (.int .i64 (a2.length : Int)))), (41, (vc (.int .i64 (IntKind.i64.wrap (x16 + (1 : Int))))))], [(1, (.box [(.c (.fn 150 0 fun _ => .nilptr)), (.c (.fn 151 0 fun _ => .nilptr)), (.c (.fn 152 0 fun _ => .nilptr))])), (11, (.lst (x17 ++ ([v22])).length 4 (gl cs_RootKey (x17 ++ ([v22])))))]⟩ (T2 Tt) [] [3, 4, 9, 39, 40, 41] [1, 11] ⟨tr, tr, tr⟩ ?_
      exact loopQ_normal (k, (IntKind.i64.wrap (x16 + (1 : Int))), (x17 ++ ([v22]))) h (Nat.lt_succ_self k) (Sub.trans (Sub.swap 2 11 _ (by kernel_rfl) (by kernel_rfl)) (Sub.keep [3, 4, 9, 39, 40, 41] [1, 2] (by kernel_rfl) (by kernel_rfl)))
    · refine AW.cond_f rfl b18 ?_
      refine AW.exit ?_
      refine thenQ_exit ?_
      refine loopQ_exit ?_
      refine blockQ_exit ?_
      refine thenQ_normal ?_
      refine AW.seq (AW.rA ⟨[(8, (.v (.one (.lst 2 x17.length 4 (gl cs_RootKey x17)))))], [(2, (.lst x17.length 4 (gl cs_RootKey x17)))]⟩ (T2 Tt) [] [8] [2] ⟨tr, tr, tr⟩ (thenQ_normal ?_))
      refine AW.ret ?_
      replace h := some_eq h
      subst h
      exact ⟨.inr rfl, retOK_of [(.one (.lst 2 x17.length 4 (gl cs_RootKey x17)))] (by kernel_rfl) ⟨rfl, tr⟩ (of_decide_eq_true (by kernel_rfl))⟩
  · refine AW.cond_f rfl b10 ?_
    refine AW.skip ?_
    refine thenQ_normal ?_
    refine AW.seq ?_
    obtain ⟨v25, e26, h⟩ := bind_some h
    refine AW.rA ⟨[(2, (vc (sl 4 cs_RootKey a2))), (3, (vc (.int .i64 a3))), (4, (vp 1 0)), (9, (.v (.one (.lst 12 v25.length 4 (gl cs_RootKey v25)))))], [(1, (.box [(.c (.fn 150 0 fun _ => .nilptr)), (.c (.fn 151 0 fun _ => .nilptr)), (.c (.fn 152 0 fun _ => .nilptr))])), (12, (.lst v25.length 4 (gl cs_RootKey v25)))]⟩ (Tt ∧ (((Eqc (sl 4 cs_RootKey a1)) ∧ Tt) ∧ CallOK Try.prog 103 [.one (sl 4 cs_RootKey a1)] [.one (sl 4 cs_RootKey v25)]) ∧ Tt ∧ Tt) [.no, .call [.one (sl 4 cs_RootKey a1)] [.one (sl 4 cs_RootKey v25)] [[.lst 12]]] [2, 3, 4, 9] [1, 12] ⟨tr, ⟨⟨rfl, tr⟩, ok_slices_Clone_impl_RootKey_impl_RootKey K a1 v25 e26⟩, tr, tr⟩ ?_
    refine thenQ_normal ?_
    refine AW.seq ?_
    refine AW.seq (AW.rA ⟨[(3, (vc (.int .i64 a3))), (4, (vp 1 0)), (9, (.v (.one (.lst 12 v25.length 4 (gl cs_RootKey v25))))), (39, (vc (sl 4 cs_RootKey a2))), (40, (vc (.int .i64 (a2.length : Int)))), (41, (vc (.int .i64 (0 : Int))))], [(1, (.box [(.c (.fn 150 0 fun _ => .nilptr)), (.c (.fn 151 0 fun _ => .nilptr)), (.c (.fn 152 0 fun _ => .nilptr))])), (12, (.lst v25.length 4 (gl cs_RootKey v25)))]⟩ (Tt ∧ T2 Tt) [] [3, 4, 9, 39, 40, 41] [1, 12] ⟨tr, tr, tr, tr⟩ (thenQ_normal ?_))
    refine AW.block ?_
    refine AW.loopQ (σ := Nat × Int × (List RootKey)) (fun p => ⟨[(3, (vc (.int .i64 a3))), (4, (vp 1 0)), (9, (.v (.one (.lst 12 p.2.2.length 4 (gl cs_RootKey p.2.2))))), (39, (vc (sl 4 cs_RootKey a2))), (40, (vc (.int .i64 (a2.length : Int)))), (41, (vc (.int .i64 p.2.1)))], [(1, (.box [(.c (.fn 150 0 fun _ => .nilptr)), (.c (.fn 151 0 fun _ => .nilptr)), (.c (.fn 152 0 fun _ => .nilptr))])), (12, (.lst p.2.2.length 4 (gl cs_RootKey p.2.2)))]⟩) (fun p => impl_track_impl_RootKey_join_l2 K a2 a3 p.1 p.2.1 p.2.2 = some o) (fun p => p.1) (K, (0 : Int), v25) h ?_
    clear h
    rintro ⟨k, x29, x30⟩ h
    replace h : impl_track_impl_RootKey_join_l2 K a2 a3 k x29 x30 = some o := h
    show AW _ _ (⟨[(3, (vc (.int .i64 a3))), (4, (vp 1 0)), (9, (.v (.one (.lst 12 x30.length 4 (gl cs_RootKey x30))))), (39, (vc (sl 4 cs_RootKey a2))), (40, (vc (.int .i64 (a2.length : Int)))), (41, (vc (.int .i64 x29)))], [(1, (.box [(.c (.fn 150 0 fun _ => .nilptr)), (.c (.fn 151 0 fun _ => .nilptr)), (.c (.fn 152 0 fun _ => .nilptr))])), (12, (.lst x30.length 4 (gl cs_RootKey x30)))]⟩ : St) _
    obtain _ | k := k
    · rw [impl_track_impl_RootKey_join_l2] at h; cases h
    rw [impl_track_impl_RootKey_join_l2] at h
    refine AW.seq (AW.rA ⟨[(3, (vc (.int .i64 a3))), (4, (vp 1 0)), (9, (.v (.one (.lst 12 x30.length 4 (gl cs_RootKey x30))))), (39, (vc (sl 4 cs_RootKey a2))), (40, (vc (.int .i64 (a2.length : Int)))), (41, (vc (.int .i64 x29))), (42, (vc (.bool (decide (x29 < (a2.length : Int))))))], [(1, (.box [(.c (.fn 150 0 fun _ => .nilptr)), (.c (.fn 151 0 fun _ => .nilptr)), (.c (.fn 152 0 fun _ => .nilptr))])), (12, (.lst x30.length 4 (gl cs_RootKey x30)))]⟩ (Tt ∧ Tt) [] [3, 4, 9, 39, 40, 41, 42] [1, 12] ⟨tr, tr⟩ (thenQ_normal ?_))
    refine AW.seq ?_
    rcases ite2_cases h with ⟨b31, h⟩ | ⟨b31, h⟩
    · refine AW.cond_t rfl b31 ?_
      refine AW.skip ?_
      refine thenQ_normal ?_
      refine AW.seq ?_
      refine AW.block ?_
      refine AW.seq ?_
      obtain ⟨c32, h⟩ := chk_some h
      refine AW.rA ⟨[(3, (vc (.int .i64 a3))), (4, (vp 1 0)), (9, (.v (.one (.lst 12 x30.length 4 (gl cs_RootKey x30))))), (11, (vp 19 0)), (39, (vc (sl 4 cs_RootKey a2))), (40, (vc (.int .i64 (a2.length : Int)))), (41, (vc (.int .i64 x29)))], [(1, (.box [(.c (.fn 150 0 fun _ => .nilptr)), (.c (.fn 151 0 fun _ => .nilptr)), (.c (.fn 152 0 fun _ => .nilptr))])), (12, (.lst x30.length 4 (gl cs_RootKey x30))), (19, (.box [(.c (.int .i64 ((a2.getD x29.toNat default).At))), (.c (.flt .f32 (((a2.getD x29.toNat default).Place).X).bits)), (.c (.flt .f32 (((a2.getD x29.toNat default).Place).Y).bits)), (.c (.flt .f32 (((a2.getD x29.toNat default).Place).Z).bits))]))]⟩ ((0 ≤ x29 ∧ x29 < (a2.length : Int)) ∧ Tt ∧ T2 Tt) [.no, .no, .box 19] [3, 4, 9, 11, 39, 40, 41] [1, 12, 19] ⟨c32, tr, tr, tr, tr⟩ ?_
      refine thenQ_normal ?_
      obtain ⟨v33, e34, h⟩ := bind_some h
      obtain ⟨v35, e36, h⟩ := bind_some h
      obtain ⟨c37, h⟩ := chk_some h
      refine AW.dA ⟨[(3, (vc (.int .i64 a3))), (4, (vp 1 0)), (9, (.v (.one (.lst 21 (x30 ++ ([v35])).length 4 (gl cs_RootKey (x30 ++ ([v35]))))))), (39, (vc (sl 4 cs_RootKey a2))), (40, (vc (.int .i64 (a2.length : Int)))), (41, (vc (.int .i64 x29)))], [(1, (.box [(.c (.fn 150 0 fun _ => .nilptr)), (.c (.fn 151 0 fun _ => .nilptr)), (.c (.fn 152 0 fun _ => .nilptr))])), (21, (.lst (x30 ++ ([v35])).length 4 (gl cs_RootKey (x30 ++ ([v35])))))]⟩ ((Tt ∧ T2 (T4 (((((Eqc (.int .i64 ((a2.getD x29.toNat default).At))) ∧ (Eqc (.flt .f32 (((a2.getD x29.toNat default).Place).X).bits)) ∧ (Eqc (.flt .f32 (((a2.getD x29.toNat default).Place).Y).bits)) ∧ (Eqc (.flt .f32 (((a2.getD x29.toNat default).Place).Z).bits)) ∧ Tt) ∧ Tt) ∧ CallOK Try.prog 150 [.agg (cs_RootKey (a2.getD x29.toNat default))] [.one (.int .i64 v33)]) ∧ T2 (((((Eqc (.int .i64 ((a2.getD x29.toNat default).At))) ∧ (Eqc (.flt .f32 (((a2.getD x29.toNat default).Place).X).bits)) ∧ (Eqc (.flt .f32 (((a2.getD x29.toNat default).Place).Y).bits)) ∧ (Eqc (.flt .f32 (((a2.getD x29.toNat default).Place).Z).bits)) ∧ Tt) ∧ (Eqc (.int .i64 (IntKind.i64.wrap (v33 + a3)))) ∧ Tt) ∧ CallOK Try.prog 151 [.agg (cs_RootKey (a2.getD x29.toNat default)), .one (.int .i64 (IntKind.i64.wrap (v33 + a3)))] [.agg (cs_RootKey v35)]) ∧ (([v35]).length = 1 ∧ (((.int .i64 v35.At) : C) = (.int .i64 v35.At) ∧ Tt) ∧ (((.flt .f32 v35.Place.X.bits) : C) = (.flt .f32 v35.Place.X.bits) ∧ Tt) ∧ (((.flt .f32 v35.Place.Y.bits) : C) = (.flt .f32 v35.Place.Y.bits) ∧ Tt) ∧ (((.flt .f32 v35.Place.Z.bits) : C) = (.flt .f32 v35.Place.Z.bits) ∧ Tt) ∧ Tt) ∧ ((x30 ++ ([v35])).length = x30.length + ([v35]).length ∧ AppOb (x30.length) (([v35]).length) 4 (gl cs_RootKey x30) (gl cs_RootKey ([v35])) (gl cs_RootKey (x30 ++ ([v35]))) ∧ (∀ i j, i < ([v35]).length → j < 4 → scalarC (gl cs_RootKey ([v35]) i j)) ∧ (x30.length + ([v35]).length) * 24 ≤ 140737488355328) ∧ Tt)))) ∧ (Tt ∧ Tt)) 13 [.no, .no, .no, .no, .no, .no, .no, .call [.agg (cs_RootKey (a2.getD x29.toNat default))] [.one (.int .i64 v33)] [[.view]], .no, .no, .call [.agg (cs_RootKey (a2.getD x29.toNat default)), .one (.int .i64 (IntKind.i64.wrap (v33 + a3)))] [.agg (cs_RootKey v35)] [[.view, .view, .view, .view]], .obj 20 ([v35]).length (gl cs_RootKey ([v35])), .objK 21 (x30 ++ ([v35])).length (gl cs_RootKey (x30 ++ ([v35])))] [3, 4, 9, 39, 40, 41] [1, 21] ⟨⟨tr, tr, tr, tr, tr, tr, tr, ⟨⟨⟨rfl, rfl, rfl, rfl, tr⟩, tr⟩, ok_impl_rootTrack_1 K (a2.getD x29.toNat default) v33 e34⟩, tr, tr, ⟨⟨⟨rfl, rfl, rfl, rfl, tr⟩, rfl, tr⟩, ok_impl_rootTrack_2 K (a2.getD x29.toNat default) (IntKind.i64.wrap (v33 + a3)) v35 e36⟩, ⟨rfl, ⟨⟨rfl, tr⟩, ⟨rfl, tr⟩, ⟨rfl, tr⟩, ⟨rfl, tr⟩, tr⟩⟩, ⟨List.length_append, gl_append, gl_scalar sc_RootKey _, c37⟩, tr⟩, ⟨tr, tr⟩⟩ ?_
      refine blockQ_normal ?_
      refine thenQ_normal ?_
      refine AW.rA ⟨[(3, (vc (.int .i64 a3))), (4, (vp 1 0)), (9, (.v (.one (.lst 21 (x30 ++ ([v35])).length 4 (gl cs_RootKey (x30 ++ ([v35]))))))), (39, (vc (sl 4 cs_RootKey a2))), (40, (vc (.int .i64 (a2.length : Int)))), (41, (vc (.int .i64 (IntKind.i64.wrap (x29 + (1 : Int))))))], [(1, (.box [(.c (.fn 150 0 fun _ => .nilptr)), (.c (.fn 151 0 fun _ => .nilptr)), (.c (.fn 152 0 fun _ => .nilptr))])), (21, (.lst (x30 ++ ([v35])).length 4 (gl cs_RootKey (x30 ++ ([v35])))))]⟩ (T2 Tt) [] [3, 4, 9, 39, 40, 41] [1, 21] ⟨tr, tr, tr⟩ ?_
      exact loopQ_normal (k, (IntKind.i64.wrap (x29 + (1 : Int))), (x30 ++ ([v35]))) h (Nat.lt_succ_self k) (Sub.trans (Sub.swap 12 21 _ (by kernel_rfl) (by kernel_rfl)) (Sub.keep [3, 4, 9, 39, 40, 41] [1, 12] (by kernel_rfl) (by kernel_rfl)))
    · refine AW.cond_f rfl b31 ?_
      refine AW.exit ?_
      refine thenQ_exit ?_
      refine loopQ_exit ?_
      refine blockQ_exit ?_
      refine thenQ_normal ?_
      refine AW.seq (AW.rA ⟨[(8, (.v (.one (.lst 12 x30.length 4 (gl cs_RootKey x30)))))], [(12, (.lst x30.length 4 (gl cs_RootKey x30)))]⟩ (T2 Tt) [] [8] [12] ⟨tr, tr, tr⟩ (thenQ_normal ?_))
      refine AW.ret ?_
      replace h := some_eq h
      subst h
      exact ⟨.inr rfl, retOK_of [(.one (.lst 12 x30.length 4 (gl cs_RootKey x30)))] (by kernel_rfl) ⟨rfl, tr⟩ (of_decide_eq_true (by kernel_rfl))⟩

/-! impl.JoinClips$2 -/
def impl_JoinClips_2 (K : Nat) (a0 : (List RootKey)) (a1 : Clip) (a2 : Clip) : Option ((List RootKey)) :=
  (impl_rootTrack K ).bind fun v1 => (impl_track_impl_RootKey_join K a0 a1.Roots a2.Length).bind fun v3 => some v3

theorem ok_impl_JoinClips_2 (K : Nat) (a0 : (List RootKey)) (a1 : Clip) (a2 : Clip) (o : ((List RootKey))) (h : impl_JoinClips_2 K a0 a1 a2 = some o) : CallOK Try.prog 87 [.one (sl 4 cs_RootKey a0), .one (pl 4 cs_Clip a1), .one (pl 4 cs_Clip a2)] [.one (sl 4 cs_RootKey o)] := by
  refine callOK_of_AW Try.func87 rfl (by kernel_rfl) (Nat.le_of_ble_eq_true (by kernel_rfl)) ?_
  intro w0
  unfold impl_JoinClips_2 at h
  refine AW.seq (AW.rA ⟨[(0, (vc (sl 4 cs_RootKey a0))), (1, (vc (pl 4 cs_Clip a1))), (2, (vc (pl 4 cs_Clip a2)))], []⟩ (Tt ∧ Tt) [] [0, 1, 2] [] ⟨tr, tr⟩ (thenQ_normal ?_))
  refine AW.seq ?_
  obtain ⟨v1, e2, h⟩ := bind_some h
  obtain ⟨v3, e4, h⟩ := bind_some h
  refine AW.dA ⟨[(4, (.v (.one (.lst 1 v3.length 4 (gl cs_RootKey v3)))))], [(1, (.lst v3.length 4 (gl cs_RootKey v3)))]⟩ ((((Tt) ∧ CallOK Try.prog 79 [] [.agg [(.fn 150 0 fun _ => .nilptr), (.fn 151 0 fun _ => .nilptr), (.fn 152 0 fun _ => .nilptr)]]) ∧ Tt ∧ T4 (((((Eqc (.fn 150 0 fun _ => .nilptr)) ∧ (Eqc (.fn 151 0 fun _ => .nilptr)) ∧ (Eqc (.fn 152 0 fun _ => .nilptr)) ∧ Tt) ∧ (Eqc (sl 4 cs_RootKey a0)) ∧ (Eqc (sl 4 cs_RootKey a1.Roots)) ∧ (Eqc (.int .i64 a2.Length)) ∧ Tt) ∧ CallOK Try.prog 88 [.agg [(.fn 150 0 fun _ => .nilptr), (.fn 151 0 fun _ => .nilptr), (.fn 152 0 fun _ => .nilptr)], .one (sl 4 cs_RootKey a0), .one (sl 4 cs_RootKey a1.Roots), .one (.int .i64 a2.Length)] [.one (sl 4 cs_RootKey v3)]) ∧ Tt ∧ Tt)) ∧ (Tt)) 8 [.call [] [.agg [(.fn 150 0 fun _ => .nilptr), (.fn 151 0 fun _ => .nilptr), (.fn 152 0 fun _ => .nilptr)]] [[.view, .view, .view]], .no, .no, .no, .no, .no, .call [.agg [(.fn 150 0 fun _ => .nilptr), (.fn 151 0 fun _ => .nilptr), (.fn 152 0 fun _ => .nilptr)], .one (sl 4 cs_RootKey a0), .one (sl 4 cs_RootKey a1.Roots), .one (.int .i64 a2.Length)] [.one (sl 4 cs_RootKey v3)] [[.lst 1]]] [4] [1] ⟨⟨⟨tr, ok_impl_rootTrack K v1 e2⟩, tr, tr, tr, tr, tr, ⟨⟨⟨rfl, rfl, rfl, tr⟩, rfl, rfl, rfl, tr⟩, ok_impl_track_impl_RootKey_join K a0 a1.Roots a2.Length v3 e4⟩, tr, tr⟩, tr⟩ ?_
  refine thenQ_normal ?_
  refine AW.ret ?_
  replace h := some_eq h
  subst h
  exact ⟨.inr rfl, retOK_of [(.one (.lst 1 v3.length 4 (gl cs_RootKey v3)))] (by kernel_rfl) ⟨rfl, tr⟩ (of_decide_eq_true (by kernel_rfl))⟩

/-! slices.Clone[[]impl.Key,impl.Key] -/
def slices_Clone_impl_Key_impl_Key (_K : Nat) (a0 : (List Key)) : Option ((List Key)) :=
  chk ((([] : List Key).length + a0.length) * 24 ≤ 140737488355328) (some (([] : List Key) ++ a0))

theorem ok_slices_Clone_impl_Key_impl_Key (K : Nat) (a0 : (List Key)) (o : ((List Key))) (h : slices_Clone_impl_Key_impl_Key K a0 = some o) : CallOK Try.prog 66 [.one (sl 5 cs_Key a0)] [.one (sl 5 cs_Key o)] := by
  refine callOK_of_AW Try.func66 rfl (by kernel_rfl) (Nat.le_of_ble_eq_true (by kernel_rfl)) ?_
  intro w0
  unfold slices_Clone_impl_Key_impl_Key at h
  refine AW.seq (AW.rA ⟨[(0, (vc (sl 5 cs_Key a0)))], []⟩ (Tt ∧ Tt) [] [0] [] ⟨tr, tr⟩ (thenQ_normal ?_))
  refine AW.seq ?_
  refine AW.seq ?_
  refine AW.nilA (d := 4) (n := a0.length) 1 [.no] [0] [] (s' := ⟨[(0, (vc (sl 5 cs_Key a0)))], []⟩) (ob := Tt ∧ Tt) (by kernel_rfl) ⟨tr, tr⟩ ?_
  intro b2 b1
  cases b2
  · refine thenQ_normal ?_
    refine AW.cond_f (b := false) rfl rfl ?_
    refine AW.skip ?_
    refine thenQ_normal ?_
    refine AW.seq ?_
    obtain ⟨c3, h⟩ := chk_some h
    refine AW.rA ⟨[(2, (.v (.one (.lst 2 (([] : List Key) ++ a0).length 5 (gl cs_Key (([] : List Key) ++ a0))))))], [(2, (.lst (([] : List Key) ++ a0).length 5 (gl cs_Key (([] : List Key) ++ a0))))]⟩ ((([] : List Key).length = 0 ∧ Tt) ∧ Tt ∧ ((([] : List Key) ++ a0).length = ([] : List Key).length + a0.length ∧ AppOb (([] : List Key).length) (a0.length) 5 (gl cs_Key ([] : List Key)) (gl cs_Key a0) (gl cs_Key (([] : List Key) ++ a0)) ∧ (∀ i j, i < a0.length → j < 5 → scalarC (gl cs_Key a0 i j)) ∧ (([] : List Key).length + a0.length) * 24 ≤ 140737488355328) ∧ Tt ∧ Tt) [.obj 1 ([] : List Key).length (gl cs_Key ([] : List Key)), .no, .obj 2 (([] : List Key) ++ a0).length (gl cs_Key (([] : List Key) ++ a0))] [2] [2] ⟨⟨rfl, tr⟩, tr, ⟨List.length_append, gl_append, gl_scalar sc_Key _, c3⟩, tr, tr⟩ ?_
    refine thenQ_normal ?_
    refine AW.ret ?_
    replace h := some_eq h
    subst h
    exact ⟨.inr rfl, retOK_of [(.one (.lst 2 (([] : List Key) ++ a0).length 5 (gl cs_Key (([] : List Key) ++ a0))))] (by kernel_rfl) ⟨rfl, tr⟩ (of_decide_eq_true (by kernel_rfl))⟩
  · obtain rfl := List.eq_nil_of_length_eq_zero (b1 rfl)
    replace h : some ([] : (List Key)) = some o := by simpa [chk] using h
    refine thenQ_normal ?_
    refine AW.cond_t (b := true) rfl rfl ?_
    refine AW.seq (AW.rA ⟨[(2, (.v (.one .nils)))], []⟩ (Tt ∧ Tt) [] [2] [] ⟨tr, tr⟩ (thenQ_normal ?_))
    refine AW.ret ?_
    refine thenQ_ret ?_
    replace h := some_eq h
    subst h
    exact ⟨.inr rfl, retOK_of [(.one .nils)] (by kernel_rfl) ⟨rfl, tr⟩ (of_decide_eq_true (by kernel_rfl))⟩

/-! impl.turnTrack$2 -/
def impl_turnTrack_2 (_K : Nat) (a0 : Key) (a1 : Int) : Option (Key) :=
  some (Key.mk a1 a0.Turn)

theorem ok_impl_turnTrack_2 (K : Nat) (a0 : Key) (a1 : Int) (o : (Key)) (h : impl_turnTrack_2 K a0 a1 = some o) : CallOK Try.prog 147 [.agg (cs_Key a0), .one (.int .i64 a1)] [.agg (cs_Key o)] := by
  refine callOK_of_AW Try.func147 rfl (by kernel_rfl) (Nat.le_of_ble_eq_true (by kernel_rfl)) ?_
  intro w0
  unfold impl_turnTrack_2 at h
  refine AW.seq (AW.rA ⟨[(1, (vc (.int .i64 a1))), (2, (vp 1 0)), (4, (vp 2 0))], [(1, (.box [(.c (.int .i64 a0.At)), (.c (.flt .f32 a0.Turn.W.bits)), (.c (.flt .f32 a0.Turn.X.bits)), (.c (.flt .f32 a0.Turn.Y.bits)), (.c (.flt .f32 a0.Turn.Z.bits))])), (2, (.box [(.c (.int .i64 (0 : Int))), (.c (.flt .f32 (default : F32).bits)), (.c (.flt .f32 (default : F32).bits)), (.c (.flt .f32 (default : F32).bits)), (.c (.flt .f32 (default : F32).bits))]))]⟩ (T2 Tt) [.box 1, .box 2] [1, 2, 4] [1, 2] ⟨tr, tr, tr⟩ (thenQ_normal ?_))
  refine AW.seq (AW.rA ⟨[(2, (vp 1 0)), (4, (vp 2 0))], [(1, (.box [(.c (.int .i64 a1)), (.c (.flt .f32 a0.Turn.W.bits)), (.c (.flt .f32 a0.Turn.X.bits)), (.c (.flt .f32 a0.Turn.Y.bits)), (.c (.flt .f32 a0.Turn.Z.bits))])), (2, (.box [(.c (.int .i64 (0 : Int))), (.c (.flt .f32 (default : F32).bits)), (.c (.flt .f32 (default : F32).bits)), (.c (.flt .f32 (default : F32).bits)), (.c (.flt .f32 (default : F32).bits))]))]⟩ (Tt ∧ T2 Tt) [] [2, 4] [1, 2] ⟨tr, tr, tr, tr⟩ (thenQ_normal ?_))
  refine AW.seq (AW.rA ⟨[(4, (vp 2 0))], [(2, (.box [(.c (.int .i64 a1)), (.c (.flt .f32 a0.Turn.W.bits)), (.c (.flt .f32 a0.Turn.X.bits)), (.c (.flt .f32 a0.Turn.Y.bits)), (.c (.flt .f32 a0.Turn.Z.bits))]))]⟩ (T2 Tt) [] [4] [2] ⟨tr, tr, tr⟩ (thenQ_normal ?_))
  refine AW.ret ?_
  replace h := some_eq h
  subst h
  exact ⟨.inr rfl, retOK_of [(.agg [(.c (.int .i64 a1)), (.c (.flt .f32 a0.Turn.W.bits)), (.c (.flt .f32 a0.Turn.X.bits)), (.c (.flt .f32 a0.Turn.Y.bits)), (.c (.flt .f32 a0.Turn.Z.bits))])] (by kernel_rfl) ⟨⟨⟨rfl, tr⟩, ⟨rfl, tr⟩, ⟨rfl, tr⟩, ⟨rfl, tr⟩, ⟨rfl, tr⟩, tr⟩, tr⟩ (of_decide_eq_true (by kernel_rfl))⟩

/-! (impl.track[impl.Key]).join -/
def impl_track_impl_Key_join_l1 (K : Nat) (a2 : (List Key)) (a3 : Int) : Nat → Int → (List Key) → Option ((List Key))
  | 0, _, _ => none
  | k + 1, x16, x17 => ite2 ((decide (x16 < (a2.length : Int)))) (chk (0 ≤ x16 ∧ x16 < (a2.length : Int)) ((impl_turnTrack_1 K (a2.getD x16.toNat default)).bind fun v20 => (impl_turnTrack_2 K (a2.getD x16.toNat default) (IntKind.i64.wrap (v20 + a3))).bind fun v22 => chk ((x17.length + ([v22]).length) * 24 ≤ 140737488355328) (impl_track_impl_Key_join_l1 K a2 a3 k (IntKind.i64.wrap (x16 + (1 : Int))) (x17 ++ ([v22]))))) (some x17)

def impl_track_impl_Key_join_l2 (K : Nat) (a2 : (List Key)) (a3 : Int) : Nat → Int → (List Key) → Option ((List Key))
  | 0, _, _ => none
  | k + 1, x29, x30 => ite2 ((decide (x29 < (a2.length : Int)))) (chk (0 ≤ x29 ∧ x29 < (a2.length : Int)) ((impl_turnTrack_1 K (a2.getD x29.toNat default)).bind fun v33 => (impl_turnTrack_2 K (a2.getD x29.toNat default) (IntKind.i64.wrap (v33 + a3))).bind fun v35 => chk ((x30.length + ([v35]).length) * 24 ≤ 140737488355328) (impl_track_impl_Key_join_l2 K a2 a3 k (IntKind.i64.wrap (x29 + (1 : Int))) (x30 ++ ([v35]))))) (some x30)

def impl_track_impl_Key_join (K : Nat) (a1 : (List Key)) (a2 : (List Key)) (a3 : Int) : Option ((List Key)) :=
  chk (0 ≤ (IntKind.i64.wrap ((a1.length : Int) - (1 : Int))) ∧ (IntKind.i64.wrap ((a1.length : Int) - (1 : Int))) < (a1.length : Int)) ((impl_turnTrack_1 K (a1.getD ((IntKind.i64.wrap ((a1.length : Int) - (1 : Int))).toNat) default)).bind fun v2 => (ite2 ((v2 == a3)) (chk (0 ≤ (0 : Int) ∧ (0 : Int) < (a2.length : Int)) ((impl_turnTrack_1 K (a2.getD ((0 : Int).toNat) default)).bind fun v6 => some (v6 == (0 : Int)))) (some false)).bind fun j8 => ite2 (j8) (chk (0 ≤ (0 : Int) ∧ (0 : Int) ≤ (IntKind.i64.wrap ((a1.length : Int) - (1 : Int))) ∧ (IntKind.i64.wrap ((a1.length : Int) - (1 : Int))) ≤ (a1.length : Int)) ((slices_Clone_impl_Key_impl_Key K ((a1.drop (0 : Int).toNat).take ((IntKind.i64.wrap ((a1.length : Int) - (1 : Int))).toNat - (0 : Int).toNat))).bind fun v12 => impl_track_impl_Key_join_l1 K a2 a3 K (0 : Int) v12)) ((slices_Clone_impl_Key_impl_Key K a1).bind fun v25 => impl_track_impl_Key_join_l2 K a2 a3 K (0 : Int) v25))

theorem ok_impl_track_impl_Key_join (K : Nat) (a1 : (List Key)) (a2 : (List Key)) (a3 : Int) (o : ((List Key))) (h : impl_track_impl_Key_join K a1 a2 a3 = some o) : CallOK Try.prog 86 [.agg [(.fn 146 0 fun _ => .nilptr), (.fn 147 0 fun _ => .nilptr), (.fn 148 0 fun _ => .nilptr)], .one (sl 5 cs_Key a1), .one (sl 5 cs_Key a2), .one (.int .i64 a3)] [.one (sl 5 cs_Key o)] := by
  refine callOK_of_AW Try.func86 rfl (by kernel_rfl) (Nat.le_of_ble_eq_true (by kernel_rfl)) ?_
  intro w0
  unfold impl_track_impl_Key_join at h
  refine AW.seq (AW.rA ⟨[(1, (vc (sl 5 cs_Key a1))), (2, (vc (sl 5 cs_Key a2))), (3, (vc (.int .i64 a3))), (4, (vp 1 0))], [(1, (.box [(.c (.fn 146 0 fun _ => .nilptr)), (.c (.fn 147 0 fun _ => .nilptr)), (.c (.fn 148 0 fun _ => .nilptr))]))]⟩ (T2 Tt) [.box 1] [1, 2, 3, 4] [1] ⟨tr, tr, tr⟩ (thenQ_normal ?_))
  refine AW.seq ?_
  refine AW.seq ?_
  obtain ⟨c1, h⟩ := chk_some h
  obtain ⟨v2, e3, h⟩ := bind_some h
  obtain ⟨j8, e9, h⟩ := bind_some h
  refine AW.join1 (s2 := ⟨[(1, (vc (sl 5 cs_Key a1))), (2, (vc (sl 5 cs_Key a2))), (3, (vc (.int .i64 a3))), (4, (vp 1 0)), (31, (vc (.bool j8)))], [(1, (.box [(.c (.fn 146 0 fun _ => .nilptr)), (.c (.fn 147 0 fun _ => .nilptr)), (.c (.fn 148 0 fun _ => .nilptr))]))]⟩) ?_ ?_
  · rcases ite2_cases e9 with ⟨b4, e9⟩ | ⟨b4, e9⟩
    · obtain ⟨c5, e9⟩ := chk_some e9
      obtain ⟨v6, e7, e9⟩ := bind_some e9
      replace e9 := some_eq e9
      subst e9
      exact AW.dA ⟨[(1, (vc (sl 5 cs_Key a1))), (2, (vc (sl 5 cs_Key a2))), (3, (vc (.int .i64 a3))), (4, (vp 1 0)), (31, (vc (.bool (v6 == (0 : Int)))))], [(1, (.box [(.c (.fn 146 0 fun _ => .nilptr)), (.c (.fn 147 0 fun _ => .nilptr)), (.c (.fn 148 0 fun _ => .nilptr))]))]⟩ ((T2 (T4 ((0 ≤ (IntKind.i64.wrap ((a1.length : Int) - (1 : Int))) ∧ (IntKind.i64.wrap ((a1.length : Int) - (1 : Int))) < (a1.length : Int)) ∧ Tt ∧ ((((((.int .i64 ((a1.getD ((IntKind.i64.wrap ((a1.length : Int) - (1 : Int))).toNat) default).At)) : C) = (.int .i64 ((a1.getD ((IntKind.i64.wrap ((a1.length : Int) - (1 : Int))).toNat) default).At))) ∧ (((.flt .f32 (((a1.getD ((IntKind.i64.wrap ((a1.length : Int) - (1 : Int))).toNat) default).Turn).W).bits) : C) = (.flt .f32 (((a1.getD ((IntKind.i64.wrap ((a1.length : Int) - (1 : Int))).toNat) default).Turn).W).bits)) ∧ (((.flt .f32 (((a1.getD ((IntKind.i64.wrap ((a1.length : Int) - (1 : Int))).toNat) default).Turn).X).bits) : C) = (.flt .f32 (((a1.getD ((IntKind.i64.wrap ((a1.length : Int) - (1 : Int))).toNat) default).Turn).X).bits)) ∧ (((.flt .f32 (((a1.getD ((IntKind.i64.wrap ((a1.length : Int) - (1 : Int))).toNat) default).Turn).Y).bits) : C) = (.flt .f32 (((a1.getD ((IntKind.i64.wrap ((a1.length : Int) - (1 : Int))).toNat) default).Turn).Y).bits)) ∧ (((.flt .f32 (((a1.getD ((IntKind.i64.wrap ((a1.length : Int) - (1 : Int))).toNat) default).Turn).Z).bits) : C) = (.flt .f32 (((a1.getD ((IntKind.i64.wrap ((a1.length : Int) - (1 : Int))).toNat) default).Turn).Z).bits)) ∧ Tt) ∧ Tt) ∧ CallOK Try.prog 146 [.agg (cs_Key (a1.getD ((IntKind.i64.wrap ((a1.length : Int) - (1 : Int))).toNat) default))] [.one (.int .i64 v2)]) ∧ T2 ((Tt ∧ (v2 == a3) = true) ∧ Tt ∧ T2 ((0 ≤ (0 : Int) ∧ (0 : Int) < (a2.length : Int)) ∧ Tt ∧ ((((Eqc (.int .i64 ((a2.getD ((0 : Int).toNat) default).At))) ∧ (((.flt .f32 (((a2.getD ((0 : Int).toNat) default).Turn).W).bits) : C) = (.flt .f32 (((a2.getD ((0 : Int).toNat) default).Turn).W).bits)) ∧ (((.flt .f32 (((a2.getD ((0 : Int).toNat) default).Turn).X).bits) : C) = (.flt .f32 (((a2.getD ((0 : Int).toNat) default).Turn).X).bits)) ∧ (((.flt .f32 (((a2.getD ((0 : Int).toNat) default).Turn).Y).bits) : C) = (.flt .f32 (((a2.getD ((0 : Int).toNat) default).Turn).Y).bits)) ∧ (((.flt .f32 (((a2.getD ((0 : Int).toNat) default).Turn).Z).bits) : C) = (.flt .f32 (((a2.getD ((0 : Int).toNat) default).Turn).Z).bits)) ∧ Tt) ∧ Tt) ∧ CallOK Try.prog 146 [.agg (cs_Key (a2.getD ((0 : Int).toNat) default))] [.one (.int .i64 v6)]) ∧ T2 Tt))))) ∧ (Tt)) 20 [.no, .no, .no, .no, .no, .no, .no, .no, .call [.agg (cs_Key (a1.getD ((IntKind.i64.wrap ((a1.length : Int) - (1 : Int))).toNat) default))] [.one (.int .i64 v2)] [[.view]], .no, .no, .dec true, .no, .no, .no, .no, .no, .call [.agg (cs_Key (a2.getD ((0 : Int).toNat) default))] [.one (.int .i64 v6)] [[.view]]] [1, 2, 3, 4, 31] [1] ⟨⟨tr, tr, tr, tr, tr, tr, c1, tr, ⟨⟨⟨rfl, rfl, rfl, rfl, rfl, tr⟩, tr⟩, ok_impl_turnTrack_1 K (a1.getD ((IntKind.i64.wrap ((a1.length : Int) - (1 : Int))).toNat) default) v2 e3⟩, tr, tr, ⟨tr, b4⟩, tr, tr, tr, c5, tr, ⟨⟨⟨rfl, rfl, rfl, rfl, rfl, tr⟩, tr⟩, ok_impl_turnTrack_1 K (a2.getD ((0 : Int).toNat) default) v6 e7⟩, tr, tr, tr⟩, tr⟩ ⟨rfl, rfl⟩
    · replace e9 := some_eq e9
      subst e9
      exact AW.dA ⟨[(1, (vc (sl 5 cs_Key a1))), (2, (vc (sl 5 cs_Key a2))), (3, (vc (.int .i64 a3))), (4, (vp 1 0)), (31, (vc (.bool false)))], [(1, (.box [(.c (.fn 146 0 fun _ => .nilptr)), (.c (.fn 147 0 fun _ => .nilptr)), (.c (.fn 148 0 fun _ => .nilptr))]))]⟩ ((T2 (T4 ((0 ≤ (IntKind.i64.wrap ((a1.length : Int) - (1 : Int))) ∧ (IntKind.i64.wrap ((a1.length : Int) - (1 : Int))) < (a1.length : Int)) ∧ Tt ∧ ((((((.int .i64 ((a1.getD ((IntKind.i64.wrap ((a1.length : Int) - (1 : Int))).toNat) default).At)) : C) = (.int .i64 ((a1.getD ((IntKind.i64.wrap ((a1.length : Int) - (1 : Int))).toNat) default).At))) ∧ (((.flt .f32 (((a1.getD ((IntKind.i64.wrap ((a1.length : Int) - (1 : Int))).toNat) default).Turn).W).bits) : C) = (.flt .f32 (((a1.getD ((IntKind.i64.wrap ((a1.length : Int) - (1 : Int))).toNat) default).Turn).W).bits)) ∧ (((.flt .f32 (((a1.getD ((IntKind.i64.wrap ((a1.length : Int) - (1 : Int))).toNat) default).Turn).X).bits) : C) = (.flt .f32 (((a1.getD ((IntKind.i64.wrap ((a1.length : Int) - (1 : Int))).toNat) default).Turn).X).bits)) ∧ (((.flt .f32 (((a1.getD ((IntKind.i64.wrap ((a1.length : Int) - (1 : Int))).toNat) default).Turn).Y).bits) : C) = (.flt .f32 (((a1.getD ((IntKind.i64.wrap ((a1.length : Int) - (1 : Int))).toNat) default).Turn).Y).bits)) ∧ (((.flt .f32 (((a1.getD ((IntKind.i64.wrap ((a1.length : Int) - (1 : Int))).toNat) default).Turn).Z).bits) : C) = (.flt .f32 (((a1.getD ((IntKind.i64.wrap ((a1.length : Int) - (1 : Int))).toNat) default).Turn).Z).bits)) ∧ Tt) ∧ Tt) ∧ CallOK Try.prog 146 [.agg (cs_Key (a1.getD ((IntKind.i64.wrap ((a1.length : Int) - (1 : Int))).toNat) default))] [.one (.int .i64 v2)]) ∧ T2 ((Tt ∧ (v2 == a3) = false) ∧ T4 (T4 Tt))))) ∧ (Tt)) 20 [.no, .no, .no, .no, .no, .no, .no, .no, .call [.agg (cs_Key (a1.getD ((IntKind.i64.wrap ((a1.length : Int) - (1 : Int))).toNat) default))] [.one (.int .i64 v2)] [[.view]], .no, .no, .dec false] [1, 2, 3, 4, 31] [1] ⟨⟨tr, tr, tr, tr, tr, tr, c1, tr, ⟨⟨⟨rfl, rfl, rfl, rfl, rfl, tr⟩, tr⟩, ok_impl_turnTrack_1 K (a1.getD ((IntKind.i64.wrap ((a1.length : Int) - (1 : Int))).toNat) default) v2 e3⟩, tr, tr, ⟨tr, b4⟩, tr, tr, tr, tr, tr, tr, tr, tr, tr⟩, tr⟩ ⟨rfl, rfl⟩
  refine thenQ_normal ?_
  rcases ite2_cases h with ⟨b10, h⟩ | ⟨b10, h⟩
  · refine AW.cond_t rfl b10 ?_
    obtain ⟨c11, h⟩ := chk_some h
    refine AW.rA ⟨[(1, (vc (sl 5 cs_Key ((a1.drop (0 : Int).toNat).take ((IntKind.i64.wrap ((a1.length : Int) - (1 : Int))).toNat - (0 : Int).toNat))))), (2, (vc (sl 5 cs_Key a2))), (3, (vc (.int .i64 a3))), (4, (vp 1 0))], [(1, (.box [(.c (.fn 146 0 fun _ => .nilptr)), (.c (.fn 147 0 fun _ => .nilptr)), (.c (.fn 148 0 fun _ => .nilptr))]))]⟩ (T4 ((0 ≤ (0 : Int) ∧ (0 : Int) ≤ (IntKind.i64.wrap ((a1.length : Int) - (1 : Int))) ∧ (IntKind.i64.wrap ((a1.length : Int) - (1 : Int))) ≤ (a1.length : Int) ∧ ((((a1.drop (0 : Int).toNat).take ((IntKind.i64.wrap ((a1.length : Int) - (1 : Int))).toNat - (0 : Int).toNat)).length : Nat) : Int) = (IntKind.i64.wrap ((a1.length : Int) - (1 : Int))) - (0 : Int) ∧ ∀ i j, i < ((a1.drop (0 : Int).toNat).take ((IntKind.i64.wrap ((a1.length : Int) - (1 : Int))).toNat - (0 : Int).toNat)).length → j < 5 → gl cs_Key ((a1.drop (0 : Int).toNat).take ((IntKind.i64.wrap ((a1.length : Int) - (1 : Int))).toNat - (0 : Int).toNat)) i j = gl cs_Key a1 ((0 : Int).toNat + i) j) ∧ Tt ∧ Tt)) [.no, .no, .no, .no, .seq ((a1.drop (0 : Int).toNat).take ((IntKind.i64.wrap ((a1.length : Int) - (1 : Int))).toNat - (0 : Int).toNat)).length (gl cs_Key ((a1.drop (0 : Int).toNat).take ((IntKind.i64.wrap ((a1.length : Int) - (1 : Int))).toNat - (0 : Int).toNat)))] [1, 2, 3, 4] [1] ⟨tr, tr, tr, tr, ⟨c11.1, c11.2.1, c11.2.2, (gl_drop (sz := 5) (cs := cs_Key) c11.1 c11.2.1 c11.2.2).1, (gl_drop c11.1 c11.2.1 c11.2.2).2⟩, tr, tr⟩ ?_
    refine thenQ_normal ?_
    refine AW.seq ?_
    obtain ⟨v12, e13, h⟩ := bind_some h
    refine AW.rA ⟨[(2, (vc (sl 5 cs_Key a2))), (3, (vc (.int .i64 a3))), (4, (vp 1 0)), (9, (.v (.one (.lst 2 v12.length 5 (gl cs_Key v12)))))], [(1, (.box [(.c (.fn 146 0 fun _ => .nilptr)), (.c (.fn 147 0 fun _ => .nilptr)), (.c (.fn 148 0 fun _ => .nilptr))])), (2, (.lst v12.length 5 (gl cs_Key v12)))]⟩ (Tt ∧ (((((sl 5 cs_Key ((a1.drop (0 : Int).toNat).take ((IntKind.i64.wrap ((a1.length : Int) - (1 : Int))).toNat - (0 : Int).toNat))) : C) = (sl 5 cs_Key ((a1.drop (0 : Int).toNat).take ((IntKind.i64.wrap ((a1.length : Int) - (1 : Int))).toNat - (0 : Int).toNat)))) ∧ Tt) ∧ CallOK Try.prog 66 [.one (sl 5 cs_Key ((a1.drop (0 : Int).toNat).take ((IntKind.i64.wrap ((a1.length : Int) - (1 : Int))).toNat - (0 : Int).toNat)))] [.one (sl 5 cs_Key v12)]) ∧ Tt ∧ Tt) [.no, .call [.one (sl 5 cs_Key ((a1.drop (0 : Int).toNat).take ((IntKind.i64.wrap ((a1.length : Int) - (1 : Int))).toNat - (0 : Int).toNat)))] [.one (sl 5 cs_Key v12)] [[.lst 2]]] [2, 3, 4, 9] [1, 2] ⟨tr, ⟨⟨rfl, tr⟩, ok_slices_Clone_impl_Key_impl_Key K ((a1.drop (0 : Int).toNat).take ((IntKind.i64.wrap ((a1.length : Int) - (1 : Int))).toNat - (0 : Int).toNat)) v12 e13⟩, tr, tr⟩ ?_
    refine thenQ_normal ?_
    refine AW.seq ?_
    refine AW.seq (AW.rA ⟨[(3, (vc (.int .i64 a3))), (4, (vp 1 0)), (9, (.v (.one (.lst 2 v12.length 5 (gl cs_Key v12))))), (39, (vc (sl 5 cs_Key a2))), (40, (vc (.int .i64 (a2.length : Int)))), (41, (vc (.int .i64 (0 : Int))))], [(1, (.box [(.c (.fn 146 0 fun _ => .nilptr)), (.c (.fn 147 0 fun _ => .nilptr)), (.c (.fn 148 0 fun _ => .nilptr))])), (2, (.lst v12.length 5 (gl cs_Key v12)))]⟩ (Tt ∧ T2 Tt) [] [3, 4, 9, 39, 40, 41] [1, 2] ⟨tr, tr, tr, tr⟩ (thenQ_normal ?_))
    refine AW.block ?_
    refine AW.loopQ (σ := Nat × Int × (List Key)) (fun p => ⟨[(3, (vc (.int .i64 a3))), (4, (vp 1 0)), (9, (.v (.one (.lst 2 p.2.2.length 5 (gl cs_Key p.2.2))))), (39, (vc (sl 5 cs_Key a2))), (40, (vc (.int .i64 (a2.length : Int)))), (41, (vc (.int .i64 p.2.1)))], [(1, (.box [(.c (.fn 146 0 fun _ => .nilptr)), (.c (.fn 147 0 fun _ => .nilptr)), (.c (.fn 148 0 fun _ => .nilptr))])), (2, (.lst p.2.2.length 5 (gl cs_Key p.2.2)))]⟩) (fun p => impl_track_impl_Key_join_l1 K a2 a3 p.1 p.2.1 p.2.2 = some o) (fun p => p.1) (K, (0 : Int), v12) h ?_
    clear h
    rintro ⟨k, x16, x17⟩ h
    replace h : impl_track_impl_Key_join_l1 K a2 a3 k x16 x17 = some o := h
    show AW _ _ (⟨[(3, (vc (.int .i64 a3))), (4, (vp 1 0)), (9, (.v (.one (.lst 2 x17.length 5 (gl cs_Key x17))))), (39, (vc (sl 5 cs_Key a2))), (40, (vc (.int .i64 (a2.length : Int)))), (41, (vc (.int .i64 x16)))], [(1, (.box [(.c (.fn 146 0 fun _ => .nilptr)), (.c (.fn 147 0 fun _ => .nilptr)), (.c (.fn 148 0 fun _ => .nilptr))])), (2, (.lst x17.length 5 (gl cs_Key x17)))]⟩ : St) _
    obtain _ | k := k
    · rw [impl_track_impl_Key_join_l1] at h; cases h
    rw [impl_track_impl_Key_join_l1] at h
    refine AW.seq (AW.rA ⟨[(3, (vc (.int .i64 a3))), (4, (vp 1 0)), (9, (.v (.one (.lst 2 x17.length 5 (gl cs_Key x17))))), (39, (vc (sl 5 cs_Key a2))), (40, (vc (.int .i64 (a2.length : Int)))), (41, (vc (.int .i64 x16))), (42, (vc (.bool (decide (x16 < (a2.length : Int))))))], [(1, (.box [(.c (.fn 146 0 fun _ => .nilptr)), (.c (.fn 147 0 fun _ => .nilptr)), (.c (.fn 148 0 fun _ => .nilptr))])), (2, (.lst x17.length 5 (gl cs_Key x17)))]⟩ (Tt ∧ Tt) [] [3, 4, 9, 39, 40, 41, 42] [1, 2] ⟨tr, tr⟩ (thenQ_normal ?_))
    refine AW.seq ?_
    rcases ite2_cases h with ⟨b18, h⟩ | ⟨b18, h⟩
    · refine AW.cond_t rfl b18 ?_
      refine AW.skip ?_
      refine thenQ_normal ?_
      refine AW.seq ?_
      refine AW.block ?_
      refine AW.seq ?_
      obtain ⟨c19, h⟩ := chk_some h
      refine AW.rA ⟨[(3, (vc (.int .i64 a3))), (4, (vp 1 0)), (9, (.v (.one (.lst 2 x17.length 5 (gl cs_Key x17))))), (11, (vp 9 0)), (39, (vc (sl 5 cs_Key a2))), (40, (vc (.int .i64 (a2.length : Int)))), (41, (vc (.int .i64 x16)))], [(1, (.box [(.c (.fn 146 0 fun _ => .nilptr)), (.c (.fn 147 0 fun _ => .nilptr)), (.c (.fn 148 0 fun _ => .nilptr))])), (2, (.lst x17.length 5 (gl cs_Key x17))), (9, (.box [(.c (.int .i64 ((a2.getD x16.toNat default).At))), (.c (.flt .f32 (((a2.getD x16.toNat default).Turn).W).bits)), (.c (.flt .f32 (((a2.getD x16.toNat default).Turn).X).bits)), (.c (.flt .f32 (((a2.getD x16.toNat default).Turn).Y).bits)), (.c (.flt .f32 (((a2.getD x16.toNat default).Turn).Z).bits))]))]⟩ ((0 ≤ x16 ∧ x16 < (a2.length : Int)) ∧ Tt ∧ T2 Tt) [.no, .no, .box 9] [3, 4, 9, 11, 39, 40, 41] [1, 2, 9] ⟨c19, tr, tr, tr, tr⟩ ?_
      refine thenQ_normal ?_
      obtain ⟨v20, e21, h⟩ := bind_some h
      obtain ⟨v22, e23, h⟩ := bind_some h
      obtain ⟨c24, h⟩ := chk_some h
      refine AW.dA ⟨[(3, (vc (.int .i64 a3))), (4, (vp 1 0)), (9, (.v (.one (.lst 11 (x17 ++ ([v22])).length 5 (gl cs_Key (x17 ++ ([v22]))))))), (39, (vc (sl 5 cs_Key a2))), (40, (vc (.int .i64 (a2.length : Int)))), (41, (vc (.int .i64 x16)))], [(1, (.box [(.c (.fn 146 0 fun _ => .nilptr)), (.c (.fn 147 0 fun _ => .nilptr)), (.c (.fn 148 0 fun _ => .nilptr))])), (11, (.lst (x17 ++ ([v22])).length 5 (gl cs_Key (x17 ++ ([v22])))))]⟩ ((Tt ∧ T2 (T4 (((((Eqc (.int .i64 ((a2.getD x16.toNat default).At))) ∧ (Eqc (.flt .f32 (((a2.getD x16.toNat default).Turn).W).bits)) ∧ (Eqc (.flt .f32 (((a2.getD x16.toNat default).Turn).X).bits)) ∧ (Eqc (.flt .f32 (((a2.getD x16.toNat default).Turn).Y).bits)) ∧ (Eqc (.flt .f32 (((a2.getD x16.toNat default).Turn).Z).bits)) ∧ Tt) ∧ Tt) ∧ CallOK Try.prog 146 [.agg (cs_Key (a2.getD x16.toNat default))] [.one (.int .i64 v20)]) ∧ T2 (((((Eqc (.int .i64 ((a2.getD x16.toNat default).At))) ∧ (Eqc (.flt .f32 (((a2.getD x16.toNat default).Turn).W).bits)) ∧ (Eqc (.flt .f32 (((a2.getD x16.toNat default).Turn).X).bits)) ∧ (Eqc (.flt .f32 (((a2.getD x16.toNat default).Turn).Y).bits)) ∧ (Eqc (.flt .f32 (((a2.getD x16.toNat default).Turn).Z).bits)) ∧ Tt) ∧ (Eqc (.int .i64 (IntKind.i64.wrap (v20 + a3)))) ∧ Tt) ∧ CallOK Try.prog 147 [.agg (cs_Key (a2.getD x16.toNat default)), .one (.int .i64 (IntKind.i64.wrap (v20 + a3)))] [.agg (cs_Key v22)]) ∧ (([v22]).length = 1 ∧ (((.int .i64 v22.At) : C) = (.int .i64 v22.At) ∧ Tt) ∧ (((.flt .f32 v22.Turn.W.bits) : C) = (.flt .f32 v22.Turn.W.bits) ∧ Tt) ∧ (((.flt .f32 v22.Turn.X.bits) : C) = (.flt .f32 v22.Turn.X.bits) ∧ Tt) ∧ (((.flt .f32 v22.Turn.Y.bits) : C) = (.flt .f32 v22.Turn.Y.bits) ∧ Tt) ∧ (((.flt .f32 v22.Turn.Z.bits) : C) = (.flt .f32 v22.Turn.Z.bits) ∧ Tt) ∧ Tt) ∧ ((x17 ++ ([v22])).length = x17.length + ([v22]).length ∧ AppOb (x17.length) (([v22]).length) 5 (gl cs_Key x17) (gl cs_Key ([v22])) (gl cs_Key (x17 ++ ([v22]))) ∧ (∀ i j, i < ([v22]).length → j < 5 → scalarC (gl cs_Key ([v22]) i j)) ∧ (x17.length + ([v22]).length) * 24 ≤ 140737488355328) ∧ Tt)))) ∧ (Tt ∧ Tt)) 13 [.no, .no, .no, .no, .no, .no, .no, .call [.agg (cs_Key (a2.getD x16.toNat default))] [.one (.int .i64 v20)] [[.view]], .no, .no, .call [.agg (cs_Key (a2.getD x16.toNat default)), .one (.int .i64 (IntKind.i64.wrap (v20 + a3)))] [.agg (cs_Key v22)] [[.view, .view, .view, .view, .view]], .obj 10 ([v22]).length (gl cs_Key ([v22])), .objK 11 (x17 ++ ([v22])).length (gl cs_Key (x17 ++ ([v22])))] [3, 4, 9, 39, 40, 41] [1, 11] ⟨⟨tr, tr, tr, tr, tr, tr, tr, ⟨⟨⟨rfl, rfl, rfl, rfl, rfl, tr⟩, tr⟩, ok_impl_turnTrack_1 K (a2.getD x16.toNat default) v20 e21⟩, tr, tr, ⟨⟨⟨rfl, rfl, rfl, rfl, rfl, tr⟩, rfl, tr⟩, ok_impl_turnTrack_2 K (a2.getD x16.toNat default) (IntKind.i64.wrap (v20 + a3)) v22 e23⟩, ⟨rfl, ⟨⟨rfl, tr⟩, ⟨rfl, tr⟩, ⟨rfl, tr⟩, ⟨rfl, tr⟩, ⟨rfl, tr⟩, tr⟩⟩, ⟨List.length_append, gl_append, gl_scalar sc_Key _, c24⟩, tr⟩, ⟨tr, tr⟩⟩ ?_
      refine blockQ_normal ?_
      refine thenQ_normal ?_
      refine AW.rA ⟨[(3, (vc (.int .i64 a3))), (4, (vp 1 0)), (9, (.v (.one (.lst 11 (x17 ++ ([v22])).length 5 (gl cs_Key (x17 ++ ([v22]))))))), (39, (vc (sl 5 cs_Key a2))), (40, (vc (.int .i64 (a2.length : Int)))), (41, (vc (.int .i64 (IntKind.i64.wrap (x16 + (1 : Int))))))], [(1, (.box [(.c (.fn 146 0 fun _ => .nilptr)), (.c (.fn 147 0 fun _ => .nilptr)), (.c (.fn 148 0 fun _ => .nilptr))])), (11, (.lst (x17 ++ ([v22])).length 5 (gl cs_Key (x17 ++ ([v22])))))]⟩ (T2 Tt) [] [3, 4, 9, 39, 40, 41] [1, 11] ⟨tr, tr, tr⟩ ?_
      exact loopQ_normal (k, (IntKind.i64.wrap (x16 + (1 : Int))), (x17 ++ ([v22]))) h (Nat.lt_succ_self k) (Sub.trans (Sub.swap 2 11 _ (by kernel_rfl) (by kernel_rfl)) (Sub.keep [3, 4, 9, 39, 40, 41] [1, 2] (by kernel_rfl) (by kernel_rfl)))
    · refine AW.cond_f rfl b18 ?_
      refine AW.exit ?_
      refine thenQ_exit ?_
      refine loopQ_exit ?_
      refine blockQ_exit ?_
      refine thenQ_normal ?_
      refine AW.seq (AW.rA ⟨[(8, (.v (.one (.lst 2 x17.length 5 (gl cs_Key x17)))))], [(2, (.lst x17.length 5 (gl cs_Key x17)))]⟩ (T2 Tt) [] [8] [2] ⟨tr, tr, tr⟩ (thenQ_normal ?_))
      refine AW.ret ?_
      replace h := some_eq h
      subst h
      exact ⟨.inr rfl, retOK_of [(.one (.lst 2 x17.length 5 (gl cs_Key x17)))] (by kernel_rfl) ⟨rfl, tr⟩ (of_decide_eq_true (by kernel_rfl))⟩
  · refine AW.cond_f rfl b10 ?_
    refine AW.skip ?_
    refine thenQ_normal ?_
    refine AW.seq ?_
    obtain ⟨v25, e26, h⟩ := bind_some h
    refine AW.rA ⟨[(2, (vc (sl 5 cs_Key a2))), (3, (vc (.int .i64 a3))), (4, (vp 1 0)), (9, (.v (.one (.lst 12 v25.length 5 (gl cs_Key v25)))))], [(1, (.box [(.c (.fn 146 0 fun _ => .nilptr)), (.c (.fn 147 0 fun _ => .nilptr)), (.c (.fn 148 0 fun _ => .nilptr))])), (12, (.lst v25.length 5 (gl cs_Key v25)))]⟩ (Tt ∧ (((Eqc (sl 5 cs_Key a1)) ∧ Tt) ∧ CallOK Try.prog 66 [.one (sl 5 cs_Key a1)] [.one (sl 5 cs_Key v25)]) ∧ Tt ∧ Tt) [.no, .call [.one (sl 5 cs_Key a1)] [.one (sl 5 cs_Key v25)] [[.lst 12]]] [2, 3, 4, 9] [1, 12] ⟨tr, ⟨⟨rfl, tr⟩, ok_slices_Clone_impl_Key_impl_Key K a1 v25 e26⟩, tr, tr⟩ ?_
    refine thenQ_normal ?_
    refine AW.seq ?_
    refine AW.seq (AW.rA ⟨[(3, (vc (.int .i64 a3))), (4, (vp 1 0)), (9, (.v (.one (.lst 12 v25.length 5 (gl cs_Key v25))))), (39, (vc (sl 5 cs_Key a2))), (40, (vc (.int .i64 (a2.length : Int)))), (41, (vc (.int .i64 (0 : Int))))], [(1, (.box [(.c (.fn 146 0 fun _ => .nilptr)), (.c (.fn 147 0 fun _ => .nilptr)), (.c (.fn 148 0 fun _ => .nilptr))])), (12, (.lst v25.length 5 (gl cs_Key v25)))]⟩ (Tt ∧ T2 Tt) [] [3, 4, 9, 39, 40, 41] [1, 12] ⟨tr, tr, tr, tr⟩ (thenQ_normal ?_))
    refine AW.block ?_
    refine AW.loopQ (σ := Nat × Int × (List Key)) (fun p => ⟨[(3, (vc (.int .i64 a3))), (4, (vp 1 0)), (9, (.v (.one (.lst 12 p.2.2.length 5 (gl cs_Key p.2.2))))), (39, (vc (sl 5 cs_Key a2))), (40, (vc (.int .i64 (a2.length : Int)))), (41, (vc (.int .i64 p.2.1)))], [(1, (.box [(.c (.fn 146 0 fun _ => .nilptr)), (.c (.fn 147 0 fun _ => .nilptr)), (.c (.fn 148 0 fun _ => .nilptr))])), (12, (.lst p.2.2.length 5 (gl cs_Key p.2.2)))]⟩) (fun p => impl_track_impl_Key_join_l2 K a2 a3 p.1 p.2.1 p.2.2 = some o) (fun p => p.1) (K, (0 : Int), v25) h ?_
    clear h
    rintro ⟨k, x29, x30⟩ h
    replace h : impl_track_impl_Key_join_l2 K a2 a3 k x29 x30 = some o := h
    show AW _ _ (⟨[(3, (vc (.int .i64 a3))), (4, (vp 1 0)), (9, (.v (.one (.lst 12 x30.length 5 (gl cs_Key x30))))), (39, (vc (sl 5 cs_Key a2))), (40, (vc (.int .i64 (a2.length : Int)))), (41, (vc (.int .i64 x29)))], [(1, (.box [(.c (.fn 146 0 fun _ => .nilptr)), (.c (.fn 147 0 fun _ => .nilptr)), (.c (.fn 148 0 fun _ => .nilptr))])), (12, (.lst x30.length 5 (gl cs_Key x30)))]⟩ : St) _
    obtain _ | k := k
    · rw [impl_track_impl_Key_join_l2] at h; cases h
    rw [impl_track_impl_Key_join_l2] at h
    refine AW.seq (AW.rA ⟨[(3, (vc (.int .i64 a3))), (4, (vp 1 0)), (9, (.v (.one (.lst 12 x30.length 5 (gl cs_Key x30))))), (39, (vc (sl 5 cs_Key a2))), (40, (vc (.int .i64 (a2.length : Int)))), (41, (vc (.int .i64 x29))), (42, (vc (.bool (decide (x29 < (a2.length : Int))))))], [(1, (.box [(.c (.fn 146 0 fun _ => .nilptr)), (.c (.fn 147 0 fun _ => .nilptr)), (.c (.fn 148 0 fun _ => .nilptr))])), (12, (.lst x30.length 5 (gl cs_Key x30)))]⟩ (Tt ∧ Tt) [] [3, 4, 9, 39, 40, 41, 42] [1, 12] ⟨tr, tr⟩ (thenQ_normal ?_))
    refine AW.seq ?_
    rcases ite2_cases h with ⟨b31, h⟩ | ⟨b31, h⟩
    · refine AW.cond_t rfl b31 ?_
      refine AW.skip ?_
      refine thenQ_normal ?_
      refine AW.seq ?_
      refine AW.block ?_
      refine AW.seq ?_
      obtain ⟨c32, h⟩ := chk_some h
      refine AW.rA ⟨[(3, (vc (.int .i64 a3))), (4, (vp 1 0)), (9, (.v (.one (.lst 12 x30.length 5 (gl cs_Key x30))))), (11, (vp 19 0)), (39, (vc (sl 5 cs_Key a2))), (40, (vc (.int .i64 (a2.length : Int)))), (41, (vc (.int .i64 x29)))], [(1, (.box [(.c (.fn 146 0 fun _ => .nilptr)), (.c (.fn 147 0 fun _ => .nilptr)), (.c (.fn 148 0 fun _ => .nilptr))])), (12, (.lst x30.length 5 (gl cs_Key x30))), (19, (.box [(.c (.int .i64 ((a2.getD x29.toNat default).At))), (.c (.flt .f32 (((a2.getD x29.toNat default).Turn).W).bits)), (.c (.flt .f32 (((a2.getD x29.toNat default).Turn).X).bits)), (.c (.flt .f32 (((a2.getD x29.toNat default).Turn).Y).bits)), (.c (.flt .f32 (((a2.getD x29.toNat default).Turn).Z).bits))]))]⟩ ((0 ≤ x29 ∧ x29 < (a2.length : Int)) ∧ Tt ∧ T2 Tt) [.no, .no, .box 19] [3, 4, 9, 11, 39, 40, 41] [1, 12, 19] ⟨c32, tr, tr, tr, tr⟩ ?_
      refine thenQ_normal ?_
      obtain ⟨v33, e34, h⟩ := bind_some h
      obtain ⟨v35, e36, h⟩ := bind_some h
      obtain ⟨c37, h⟩ := chk_some h
      refine AW.dA ⟨[(3, (vc (.int .i64 a3))), (4, (vp 1 0)), (9, (.v (.one (.lst 21 (x30 ++ ([v35])).length 5 (gl cs_Key (x30 ++ ([v35]))))))), (39, (vc (sl 5 cs_Key a2))), (40, (vc (.int .i64 (a2.length : Int)))), (41, (vc (.int .i64 x29)))], [(1, (.box [(.c (.fn 146 0 fun _ => .nilptr)), (.c (.fn 147 0 fun _ => .nilptr)), (.c (.fn 148 0 fun _ => .nilptr))])), (21, (.lst (x30 ++ ([v35])).length 5 (gl cs_Key (x30 ++ ([v35])))))]⟩ ((Tt ∧ T2 (T4 (((((Eqc (.int .i64 ((a2.getD x29.toNat default).At))) ∧ (Eqc (.flt .f32 (((a2.getD x29.toNat default).Turn).W).bits)) ∧ (Eqc (.flt .f32 (((a2.getD x29.toNat default).Turn).X).bits)) ∧ (Eqc (.flt .f32 (((a2.getD x29.toNat default).Turn).Y).bits)) ∧ (Eqc (.flt .f32 (((a2.getD x29.toNat default).Turn).Z).bits)) ∧ Tt) ∧ Tt) ∧ CallOK Try.prog 146 [.agg (cs_Key (a2.getD x29.toNat default))] [.one (.int .i64 v33)]) ∧ T2 (((((Eqc (.int .i64 ((a2.getD x29.toNat default).At))) ∧ (Eqc (.flt .f32 (((a2.getD x29.toNat default).Turn).W).bits)) ∧ (Eqc (.flt .f32 (((a2.getD x29.toNat default).Turn).X).bits)) ∧ (Eqc (.flt .f32 (((a2.getD x29.toNat default).Turn).Y).bits)) ∧ (Eqc (.flt .f32 (((a2.getD x29.toNat default).Turn).Z).bits)) ∧ Tt) ∧ (Eqc (.int .i64 (IntKind.i64.wrap (v33 + a3)))) ∧ Tt) ∧ CallOK Try.prog 147 [.agg (cs_Key (a2.getD x29.toNat default)), .one (.int .i64 (IntKind.i64.wrap (v33 + a3)))] [.agg (cs_Key v35)]) ∧ (([v35]).length = 1 ∧ (((.int .i64 v35.At) : C) = (.int .i64 v35.At) ∧ Tt) ∧ (((.flt .f32 v35.Turn.W.bits) : C) = (.flt .f32 v35.Turn.W.bits) ∧ Tt) ∧ (((.flt .f32 v35.Turn.X.bits) : C) = (.flt .f32 v35.Turn.X.bits) ∧ Tt) ∧ (((.flt .f32 v35.Turn.Y.bits) : C) = (.flt .f32 v35.Turn.Y.bits) ∧ Tt) ∧ (((.flt .f32 v35.Turn.Z.bits) : C) = (.flt .f32 v35.Turn.Z.bits) ∧ Tt) ∧ Tt) ∧ ((x30 ++ ([v35])).length = x30.length + ([v35]).length ∧ AppOb (x30.length) (([v35]).length) 5 (gl cs_Key x30) (gl cs_Key ([v35])) (gl cs_Key (x30 ++ ([v35]))) ∧ (∀ i j, i < ([v35]).length → j < 5 → scalarC (gl cs_Key ([v35]) i j)) ∧ (x30.length + ([v35]).length) * 24 ≤ 140737488355328) ∧ Tt)))) ∧ (Tt ∧ Tt)) 13 [.no, .no, .no, .no, .no, .no, .no, .call [.agg (cs_Key (a2.getD x29.toNat default))] [.one (.int .i64 v33)] [[.view]], .no, .no, .call [.agg (cs_Key (a2.getD x29.toNat default)), .one (.int .i64 (IntKind.i64.wrap (v33 + a3)))] [.agg (cs_Key v35)] [[.view, .view, .view, .view, .view]], .obj 20 ([v35]).length (gl cs_Key ([v35])), .objK 21 (x30 ++ ([v35])).length (gl cs_Key (x30 ++ ([v35])))] [3, 4, 9, 39, 40, 41] [1, 21] ⟨⟨tr, tr, tr, tr, tr, tr, tr, ⟨⟨⟨rfl, rfl, rfl, rfl, rfl, tr⟩, tr⟩, ok_impl_turnTrack_1 K (a2.getD x29.toNat default) v33 e34⟩, tr, tr, ⟨⟨⟨rfl, rfl, rfl, rfl, rfl, tr⟩, rfl, tr⟩, ok_impl_turnTrack_2 K (a2.getD x29.toNat default) (IntKind.i64.wrap (v33 + a3)) v35 e36⟩, ⟨rfl, ⟨⟨rfl, tr⟩, ⟨rfl, tr⟩, ⟨rfl, tr⟩, ⟨rfl, tr⟩, ⟨rfl, tr⟩, tr⟩⟩, ⟨List.length_append, gl_append, gl_scalar sc_Key _, c37⟩, tr⟩, ⟨tr, tr⟩⟩ ?_
      refine blockQ_normal ?_
      refine thenQ_normal ?_
      refine AW.rA ⟨[(3, (vc (.int .i64 a3))), (4, (vp 1 0)), (9, (.v (.one (.lst 21 (x30 ++ ([v35])).length 5 (gl cs_Key (x30 ++ ([v35]))))))), (39, (vc (sl 5 cs_Key a2))), (40, (vc (.int .i64 (a2.length : Int)))), (41, (vc (.int .i64 (IntKind.i64.wrap (x29 + (1 : Int))))))], [(1, (.box [(.c (.fn 146 0 fun _ => .nilptr)), (.c (.fn 147 0 fun _ => .nilptr)), (.c (.fn 148 0 fun _ => .nilptr))])), (21, (.lst (x30 ++ ([v35])).length 5 (gl cs_Key (x30 ++ ([v35])))))]⟩ (T2 Tt) [] [3, 4, 9, 39, 40, 41] [1, 21] ⟨tr, tr, tr⟩ ?_
      exact loopQ_normal (k, (IntKind.i64.wrap (x29 + (1 : Int))), (x30 ++ ([v35]))) h (Nat.lt_succ_self k) (Sub.trans (Sub.swap 12 21 _ (by kernel_rfl) (by kernel_rfl)) (Sub.keep [3, 4, 9, 39, 40, 41] [1, 12] (by kernel_rfl) (by kernel_rfl)))
    · refine AW.cond_f rfl b31 ?_
      refine AW.exit ?_
      refine thenQ_exit ?_
      refine loopQ_exit ?_
      refine blockQ_exit ?_
      refine thenQ_normal ?_
      refine AW.seq (AW.rA ⟨[(8, (.v (.one (.lst 12 x30.length 5 (gl cs_Key x30)))))], [(12, (.lst x30.length 5 (gl cs_Key x30)))]⟩ (T2 Tt) [] [8] [12] ⟨tr, tr, tr⟩ (thenQ_normal ?_))
      refine AW.ret ?_
      replace h := some_eq h
      subst h
      exact ⟨.inr rfl, retOK_of [(.one (.lst 12 x30.length 5 (gl cs_Key x30)))] (by kernel_rfl) ⟨rfl, tr⟩ (of_decide_eq_true (by kernel_rfl))⟩

/-! impl.JoinClips$1 -/
def impl_JoinClips_1 (K : Nat) (a0 : Int) (a1 : (List Key)) (a2 : Clip) (a3 : Clip) : Option ((List Key)) :=
  (impl_turnTrack K ).bind fun v1 => chk (0 ≤ a0 ∧ a0 < (a2.Tracks.length : Int)) ((impl_track_impl_Key_join K a1 (a2.Tracks.getD a0.toNat default) a3.Length).bind fun v4 => some v4)

theorem ok_impl_JoinClips_1 (K : Nat) (a0 : Int) (a1 : (List Key)) (a2 : Clip) (a3 : Clip) (o : ((List Key))) (h : impl_JoinClips_1 K a0 a1 a2 a3 = some o) : CallOK Try.prog 85 [.one (.int .i64 a0), .one (sl 5 cs_Key a1), .one (pl 4 cs_Clip a2), .one (pl 4 cs_Clip a3)] [.one (sl 5 cs_Key o)] := by
  refine callOK_of_AW Try.func85 rfl (by kernel_rfl) (Nat.le_of_ble_eq_true (by kernel_rfl)) ?_
  intro w0
  unfold impl_JoinClips_1 at h
  refine AW.seq (AW.rA ⟨[(0, (vc (.int .i64 a0))), (1, (vc (sl 5 cs_Key a1))), (2, (vc (pl 4 cs_Clip a2))), (3, (vc (pl 4 cs_Clip a3)))], []⟩ (Tt ∧ Tt) [] [0, 1, 2, 3] [] ⟨tr, tr⟩ (thenQ_normal ?_))
  refine AW.seq ?_
  obtain ⟨v1, e2, h⟩ := bind_some h
  obtain ⟨c3, h⟩ := chk_some h
  obtain ⟨v4, e5, h⟩ := bind_some h
  refine AW.dA ⟨[(6, (.v (.one (.lst 1 v4.length 5 (gl cs_Key v4)))))], [(1, (.lst v4.length 5 (gl cs_Key v4)))]⟩ ((((Tt) ∧ CallOK Try.prog 76 [] [.agg [(.fn 146 0 fun _ => .nilptr), (.fn 147 0 fun _ => .nilptr), (.fn 148 0 fun _ => .nilptr)]]) ∧ T4 ((0 ≤ a0 ∧ a0 < (a2.Tracks.length : Int)) ∧ Tt ∧ T2 (((((Eqc (.fn 146 0 fun _ => .nilptr)) ∧ (Eqc (.fn 147 0 fun _ => .nilptr)) ∧ (Eqc (.fn 148 0 fun _ => .nilptr)) ∧ Tt) ∧ (Eqc (sl 5 cs_Key a1)) ∧ (Eqc (sl 5 cs_Key (a2.Tracks.getD a0.toNat default))) ∧ (Eqc (.int .i64 a3.Length)) ∧ Tt) ∧ CallOK Try.prog 86 [.agg [(.fn 146 0 fun _ => .nilptr), (.fn 147 0 fun _ => .nilptr), (.fn 148 0 fun _ => .nilptr)], .one (sl 5 cs_Key a1), .one (sl 5 cs_Key (a2.Tracks.getD a0.toNat default)), .one (.int .i64 a3.Length)] [.one (sl 5 cs_Key v4)]) ∧ Tt ∧ Tt))) ∧ (Tt)) 11 [.call [] [.agg [(.fn 146 0 fun _ => .nilptr), (.fn 147 0 fun _ => .nilptr), (.fn 148 0 fun _ => .nilptr)]] [[.view, .view, .view]], .no, .no, .no, .no, .no, .no, .no, .no, .call [.agg [(.fn 146 0 fun _ => .nilptr), (.fn 147 0 fun _ => .nilptr), (.fn 148 0 fun _ => .nilptr)], .one (sl 5 cs_Key a1), .one (sl 5 cs_Key (a2.Tracks.getD a0.toNat default)), .one (.int .i64 a3.Length)] [.one (sl 5 cs_Key v4)] [[.lst 1]]] [6] [1] ⟨⟨⟨tr, ok_impl_turnTrack K v1 e2⟩, tr, tr, tr, tr, c3, tr, tr, tr, ⟨⟨⟨rfl, rfl, rfl, tr⟩, rfl, rfl, rfl, tr⟩, ok_impl_track_impl_Key_join K a1 (a2.Tracks.getD a0.toNat default) a3.Length v4 e5⟩, tr, tr⟩, tr⟩ ?_
  refine thenQ_normal ?_
  refine AW.ret ?_
  replace h := some_eq h
  subst h
  exact ⟨.inr rfl, retOK_of [(.one (.lst 1 v4.length 5 (gl cs_Key v4)))] (by kernel_rfl) ⟨rfl, tr⟩ (of_decide_eq_true (by kernel_rfl))⟩

/-! impl.validClip -/
def impl_validClip (K : Nat) (a0 : Clip) : Option (Clip × Bool) :=
  (impl_ValidClip K a0).bind fun v1 => ite2 ((!v1)) (some ((Clip.mk (0 : Int) (0 : Int) ([] : (List (List Key))) ([] : (List RootKey))), false)) (some (a0, true))

theorem ok_impl_validClip (K : Nat) (a0 : Clip) (o : (Clip × Bool)) (h : impl_validClip K a0 = some o) : MutOK Try.prog 141 [(.agg [(.ro (.int .i64 a0.Length)), (.ro (.int .i64 a0.Kind)), (.mv (sl 1 (csL 5 cs_Key) a0.Tracks)), (.mv (sl 4 cs_RootKey a0.Roots))])] [.agg (cs_Clip o.1), .one (.bool o.2)] := by
  refine mutOK_of_AW 2 Try.func141 rfl (by kernel_rfl) (Nat.le_of_ble_eq_true (by kernel_rfl)) (by kernel_rfl) (by kernel_rfl) ?_
  intro w0 K0 v0 s0
  unfold impl_validClip at h
  refine AW.seq (AW.rA ⟨[(0, (.v (.agg [(.c (.int .i64 a0.Length)), (.c (.int .i64 a0.Kind)), (.arr 0), (.arr 1)]))), (1, (vp 2 0)), (2, (vp 3 0))], [(0, (.arr true a0.Tracks.length 1 (gl (csL 5 cs_Key) a0.Tracks))), (1, (.arr true a0.Roots.length 4 (gl cs_RootKey a0.Roots))), (2, (.box [(.c (.int .i64 a0.Length)), (.c (.int .i64 a0.Kind)), (.arr 0), (.arr 1)])), (3, (.box [(.c (.int .i64 (0 : Int))), (.c (.int .i64 (0 : Int))), .nils, .nils]))]⟩ (Tt ∧ T2 Tt) [.box 2, .box 3] [0, 1, 2] [0, 1, 2, 3] ⟨tr, tr, tr, tr⟩ (thenQ_normal ?_))
  refine AW.seq ?_
  refine AW.seq ?_
  obtain ⟨v1, e2, h⟩ := bind_some h
  refine AW.rA ⟨[(0, (.v (.agg [(.c (.int .i64 a0.Length)), (.c (.int .i64 a0.Kind)), (.arr 0), (.arr 1)]))), (1, (vp 2 0)), (2, (vp 3 0)), (6, (vc (.bool (!v1))))], [(0, (.arr true a0.Tracks.length 1 (gl (csL 5 cs_Key) a0.Tracks))), (1, (.arr true a0.Roots.length 4 (gl cs_RootKey a0.Roots))), (2, (.box [(.c (.int .i64 a0.Length)), (.c (.int .i64 a0.Kind)), (.arr 0), (.arr 1)])), (3, (.box [(.c (.int .i64 (0 : Int))), (.c (.int .i64 (0 : Int))), .nils, .nils]))]⟩ (Tt ∧ ((((Eqc (.int .i64 a0.Length)) ∧ (Eqc (.int .i64 a0.Kind)) ∧ (Eqc (sl 1 (csL 5 cs_Key) a0.Tracks)) ∧ (Eqc (sl 4 cs_RootKey a0.Roots)) ∧ Tt) ∧ Tt) ∧ CallOK Try.prog 63 [.agg (cs_Clip a0)] [.one (.bool v1)]) ∧ Tt ∧ Tt) [.no, .call [.agg (cs_Clip a0)] [.one (.bool v1)] [[.view]]] [0, 1, 2, 6] [0, 1, 2, 3] ⟨tr, ⟨⟨⟨rfl, rfl, rfl, rfl, tr⟩, tr⟩, ok_impl_ValidClip K a0 v1 e2⟩, tr, tr⟩ ?_
  refine thenQ_normal ?_
  rcases ite2_cases h with ⟨b3, h⟩ | ⟨b3, h⟩
  · refine AW.cond_t rfl b3 ?_
    refine AW.seq (AW.rA ⟨[(0, (.v (.agg [(.c (.int .i64 a0.Length)), (.c (.int .i64 a0.Kind)), (.arr 0), (.arr 1)]))), (2, (vp 3 0)), (3, (vc (.bool false)))], [(0, (.arr true a0.Tracks.length 1 (gl (csL 5 cs_Key) a0.Tracks))), (1, (.arr true a0.Roots.length 4 (gl cs_RootKey a0.Roots))), (3, (.box [(.c (.int .i64 (0 : Int))), (.c (.int .i64 (0 : Int))), .nils, .nils]))]⟩ (Tt ∧ T2 Tt) [] [0, 2, 3] [0, 1, 3] ⟨tr, tr, tr, tr⟩ (thenQ_normal ?_))
    refine AW.ret ?_
    refine thenQ_ret ?_
    replace h := some_eq h
    subst h
    exact ⟨.inr rfl, retOK_of [(.agg [(.c (.int .i64 (0 : Int))), (.c (.int .i64 (0 : Int))), .nils, .nils]), (.one (.c (.bool false)))] (by kernel_rfl) ⟨⟨⟨rfl, tr⟩, ⟨rfl, tr⟩, rfl, rfl, tr⟩, ⟨rfl, tr⟩, tr⟩ (of_decide_eq_true (by kernel_rfl)), by kernel_rfl, ⟨⟨tr, tr, tr, tr, tr⟩, tr⟩⟩
  · refine AW.cond_f rfl b3 ?_
    refine AW.skip ?_
    refine thenQ_normal ?_
    refine AW.seq (AW.rA ⟨[(0, (.v (.agg [(.c (.int .i64 a0.Length)), (.c (.int .i64 a0.Kind)), (.arr 0), (.arr 1)]))), (2, (vp 3 0)), (3, (vc (.bool true)))], [(0, (.arr true a0.Tracks.length 1 (gl (csL 5 cs_Key) a0.Tracks))), (1, (.arr true a0.Roots.length 4 (gl cs_RootKey a0.Roots))), (3, (.box [(.c (.int .i64 a0.Length)), (.c (.int .i64 a0.Kind)), (.arr 0), (.arr 1)]))]⟩ (Tt ∧ T2 Tt) [] [0, 2, 3] [0, 1, 3] ⟨tr, tr, tr, tr⟩ (thenQ_normal ?_))
    refine AW.ret ?_
    replace h := some_eq h
    subst h
    exact ⟨.inr rfl, retOK_of [(.agg [(.c (.int .i64 a0.Length)), (.c (.int .i64 a0.Kind)), (.arr 0), (.arr 1)]), (.one (.c (.bool true)))] (by kernel_rfl) ⟨⟨⟨rfl, tr⟩, ⟨rfl, tr⟩, rfl, rfl, tr⟩, ⟨rfl, tr⟩, tr⟩ (of_decide_eq_true (by kernel_rfl)), by kernel_rfl, ⟨⟨tr, tr, tr, tr, tr⟩, tr⟩⟩

/-! (impl.Clip).changed -/
def impl_Clip_changed_l1 (K : Nat) (a0 : Clip) (a1 : Int) (a2_0_0 : Clip) (a2_0_1 : Clip) (v1 : ((List RootKey))) : Nat → Int → (List (List Key)) → Option (Clip × Bool)
  | 0, _, _ => none
  | k + 1, x5, x6 => ite2 ((decide (x5 < (a0.Tracks.length : Int)))) (chk (0 ≤ x5 ∧ x5 < (a0.Tracks.length : Int)) ((impl_JoinClips_1 K x5 (a0.Tracks.getD x5.toNat default) a2_0_0 a2_0_1).bind fun v9 => chk ((x6.length + ([v9]).length) * 24 ≤ 140737488355328) (impl_Clip_changed_l1 K a0 a1 a2_0_0 a2_0_1 v1 k (IntKind.i64.wrap (x5 + (1 : Int))) (x6 ++ ([v9]))))) ((impl_validClip K (Clip.mk a1 a0.Kind x6 v1)).bind fun v12 => some (v12.1, v12.2))

def impl_Clip_changed (K : Nat) (a0 : Clip) (a1 : Int) (a2_0_0 : Clip) (a2_0_1 : Clip) (a3_0_0 : Clip) (a3_0_1 : Clip) : Option (Clip × Bool) :=
  (impl_JoinClips_2 K a0.Roots a3_0_0 a3_0_1).bind fun v1 => impl_Clip_changed_l1 K a0 a1 a2_0_0 a2_0_1 v1 K (0 : Int) ([] : (List (List Key)))

theorem ok_impl_Clip_changed (K : Nat) (a0 : Clip) (a1 : Int) (a2_0_0 : Clip) (a2_0_1 : Clip) (a3_0_0 : Clip) (a3_0_1 : Clip) (o : (Clip × Bool)) (h : impl_Clip_changed K a0 a1 a2_0_0 a2_0_1 a3_0_0 a3_0_1 = some o) : CallOK Try.prog 64 [.agg (cs_Clip a0), .one (.int .i64 a1), .one (.fn 85 2 fun j => [(pl 4 cs_Clip a2_0_0), (pl 4 cs_Clip a2_0_1)].getD j .nilptr), .one (.fn 87 2 fun j => [(pl 4 cs_Clip a3_0_0), (pl 4 cs_Clip a3_0_1)].getD j .nilptr)] [.agg (cs_Clip o.1), .one (.bool o.2)] := by
  refine callOK_of_AW Try.func64 rfl (by kernel_rfl) (Nat.le_of_ble_eq_true (by kernel_rfl)) ?_
  intro w0
  unfold impl_Clip_changed at h
  refine AW.seq (AW.rA ⟨[(1, (vc (.int .i64 a1))), (2, (vc (.fn 85 2 fun j => [(pl 4 cs_Clip a2_0_0), (pl 4 cs_Clip a2_0_1)].getD j .nilptr))), (3, (vc (.fn 87 2 fun j => [(pl 4 cs_Clip a3_0_0), (pl 4 cs_Clip a3_0_1)].getD j .nilptr))), (4, (vp 1 0)), (8, (vp 2 0))], [(1, (.box [(.c (.int .i64 a0.Length)), (.c (.int .i64 a0.Kind)), (.c (sl 1 (csL 5 cs_Key) a0.Tracks)), (.c (sl 4 cs_RootKey a0.Roots))])), (2, (.box [(.c (.int .i64 (0 : Int))), (.c (.int .i64 (0 : Int))), .nils, .nils]))]⟩ (Tt ∧ T2 Tt) [.box 1, .box 2] [1, 2, 3, 4, 8] [1, 2] ⟨tr, tr, tr, tr⟩ (thenQ_normal ?_))
  refine AW.seq ?_
  obtain ⟨v1, e2, h⟩ := bind_some h
  refine AW.dA ⟨[(2, (vc (.fn 85 2 fun j => [(pl 4 cs_Clip a2_0_0), (pl 4 cs_Clip a2_0_1)].getD j .nilptr))), (4, (vp 1 0)), (8, (vp 2 0)), (10, (vp 4 0))], [(1, (.box [(.c (.int .i64 a0.Length)), (.c (.int .i64 a0.Kind)), (.c (sl 1 (csL 5 cs_Key) a0.Tracks)), (.c (sl 4 cs_RootKey a0.Roots))])), (2, (.box [(.c (.int .i64 (0 : Int))), (.c (.int .i64 (0 : Int))), .nils, .nils])), (3, (.lst v1.length 4 (gl cs_RootKey v1))), (4, (.box [(.c (.int .i64 a1)), (.c (.int .i64 a0.Kind)), .nils, (.lst 3 v1.length 4 (gl cs_RootKey v1))]))]⟩ ((T2 (T4 ((((Eqc (sl 4 cs_RootKey a0.Roots)) ∧ (4 = 4 ∧ ∀ j, j < 4 → (cs_Clip a3_0_0).getD j .nilptr = (cs_Clip a3_0_0).getD j .nilptr) ∧ (4 = 4 ∧ ∀ j, j < 4 → (cs_Clip a3_0_1).getD j .nilptr = (cs_Clip a3_0_1).getD j .nilptr) ∧ Tt) ∧ CallOK Try.prog 87 [.one (sl 4 cs_RootKey a0.Roots), .one (pl 4 cs_Clip a3_0_0), .one (pl 4 cs_Clip a3_0_1)] [.one (sl 4 cs_RootKey v1)]) ∧ T2 Tt))) ∧ (Tt ∧ Tt)) 9 [.no, .no, .no, .no, .no, .no, .call [.one (sl 4 cs_RootKey a0.Roots), .one (pl 4 cs_Clip a3_0_0), .one (pl 4 cs_Clip a3_0_1)] [.one (sl 4 cs_RootKey v1)] [[.lst 3]], .no, .box 4] [2, 4, 8, 10] [1, 2, 3, 4] ⟨⟨tr, tr, tr, tr, tr, tr, ⟨⟨rfl, ⟨rfl, fun j hj => rfl⟩, ⟨rfl, fun j hj => rfl⟩, tr⟩, ok_impl_JoinClips_2 K a0.Roots a3_0_0 a3_0_1 v1 e2⟩, tr, tr, tr⟩, ⟨tr, tr⟩⟩ ?_
  refine thenQ_normal ?_
  refine AW.seq ?_
  refine AW.seq (AW.rA ⟨[(2, (vc (.fn 85 2 fun j => [(pl 4 cs_Clip a2_0_0), (pl 4 cs_Clip a2_0_1)].getD j .nilptr))), (8, (vp 2 0)), (10, (vp 4 0)), (22, (vc (sl 1 (csL 5 cs_Key) a0.Tracks))), (23, (vc (.int .i64 (a0.Tracks.length : Int)))), (24, (vc (.int .i64 (0 : Int))))], [(2, (.box [(.c (.int .i64 (0 : Int))), (.c (.int .i64 (0 : Int))), .nils, .nils])), (3, (.lst v1.length 4 (gl cs_RootKey v1))), (4, (.box [(.c (.int .i64 a1)), (.c (.int .i64 a0.Kind)), .nils, (.lst 3 v1.length 4 (gl cs_RootKey v1))]))]⟩ (T4 Tt) [] [2, 8, 10, 22, 23, 24] [2, 3, 4] ⟨tr, tr, tr, tr, tr⟩ (thenQ_normal ?_))
  refine AW.block ?_
  refine AW.weak (s' := ⟨[(2, (vc (.fn 85 2 fun j => [(pl 4 cs_Clip a2_0_0), (pl 4 cs_Clip a2_0_1)].getD j .nilptr))), (8, (vp 2 0)), (10, (vp 4 0)), (22, (vc (sl 1 (csL 5 cs_Key) a0.Tracks))), (23, (vc (.int .i64 (a0.Tracks.length : Int)))), (24, (vc (.int .i64 (0 : Int))))], [(2, (.box [(.c (.int .i64 (0 : Int))), (.c (.int .i64 (0 : Int))), .nils, .nils])), (3, (.lst v1.length 4 (gl cs_RootKey v1))), (4, (.box [(.c (.int .i64 a1)), (.c (.int .i64 a0.Kind)), (.lst 8 ([] : (List (List Key))).length 1 (gl (csL 5 cs_Key) ([] : (List (List Key))))), (.lst 3 v1.length 4 (gl cs_RootKey v1))])), (8, (.lst ([] : (List (List Key))).length 1 (gl (csL 5 cs_Key) ([] : (List (List Key))))))]⟩) (Sub.trans (Sub.unnil 8 1 (gl (csL 5 cs_Key) ([] : (List (List Key)))) [] [(4, 2)] _ (by kernel_rfl) (by kernel_rfl)) (Sub.keep [2, 8, 10, 22, 23, 24] [2, 3, 4, 8] (by kernel_rfl) (by kernel_rfl))) ?_
  refine AW.loopQ (σ := Nat × Int × (List (List Key))) (fun p => ⟨[(2, (vc (.fn 85 2 fun j => [(pl 4 cs_Clip a2_0_0), (pl 4 cs_Clip a2_0_1)].getD j .nilptr))), (8, (vp 2 0)), (10, (vp 4 0)), (22, (vc (sl 1 (csL 5 cs_Key) a0.Tracks))), (23, (vc (.int .i64 (a0.Tracks.length : Int)))), (24, (vc (.int .i64 p.2.1)))], [(2, (.box [(.c (.int .i64 (0 : Int))), (.c (.int .i64 (0 : Int))), .nils, .nils])), (3, (.lst v1.length 4 (gl cs_RootKey v1))), (4, (.box [(.c (.int .i64 a1)), (.c (.int .i64 a0.Kind)), (.lst 8 p.2.2.length 1 (gl (csL 5 cs_Key) p.2.2)), (.lst 3 v1.length 4 (gl cs_RootKey v1))])), (8, (.lst p.2.2.length 1 (gl (csL 5 cs_Key) p.2.2)))]⟩) (fun p => impl_Clip_changed_l1 K a0 a1 a2_0_0 a2_0_1 v1 p.1 p.2.1 p.2.2 = some o) (fun p => p.1) (K, (0 : Int), ([] : (List (List Key)))) h ?_
  clear h
  rintro ⟨k, x5, x6⟩ h
  replace h : impl_Clip_changed_l1 K a0 a1 a2_0_0 a2_0_1 v1 k x5 x6 = some o := h
  show AW _ _ (⟨[(2, (vc (.fn 85 2 fun j => [(pl 4 cs_Clip a2_0_0), (pl 4 cs_Clip a2_0_1)].getD j .nilptr))), (8, (vp 2 0)), (10, (vp 4 0)), (22, (vc (sl 1 (csL 5 cs_Key) a0.Tracks))), (23, (vc (.int .i64 (a0.Tracks.length : Int)))), (24, (vc (.int .i64 x5)))], [(2, (.box [(.c (.int .i64 (0 : Int))), (.c (.int .i64 (0 : Int))), .nils, .nils])), (3, (.lst v1.length 4 (gl cs_RootKey v1))), (4, (.box [(.c (.int .i64 a1)), (.c (.int .i64 a0.Kind)), (.lst 8 x6.length 1 (gl (csL 5 cs_Key) x6)), (.lst 3 v1.length 4 (gl cs_RootKey v1))])), (8, (.lst x6.length 1 (gl (csL 5 cs_Key) x6)))]⟩ : St) _
  obtain _ | k := k
  · rw [impl_Clip_changed_l1] at h; cases h
  rw [impl_Clip_changed_l1] at h
  refine AW.seq (AW.rA ⟨[(2, (vc (.fn 85 2 fun j => [(pl 4 cs_Clip a2_0_0), (pl 4 cs_Clip a2_0_1)].getD j .nilptr))), (8, (vp 2 0)), (10, (vp 4 0)), (22, (vc (sl 1 (csL 5 cs_Key) a0.Tracks))), (23, (vc (.int .i64 (a0.Tracks.length : Int)))), (24, (vc (.int .i64 x5))), (25, (vc (.bool (decide (x5 < (a0.Tracks.length : Int))))))], [(2, (.box [(.c (.int .i64 (0 : Int))), (.c (.int .i64 (0 : Int))), .nils, .nils])), (3, (.lst v1.length 4 (gl cs_RootKey v1))), (4, (.box [(.c (.int .i64 a1)), (.c (.int .i64 a0.Kind)), (.lst 8 x6.length 1 (gl (csL 5 cs_Key) x6)), (.lst 3 v1.length 4 (gl cs_RootKey v1))])), (8, (.lst x6.length 1 (gl (csL 5 cs_Key) x6)))]⟩ (Tt ∧ Tt) [] [2, 8, 10, 22, 23, 24, 25] [2, 3, 4, 8] ⟨tr, tr⟩ (thenQ_normal ?_))
  refine AW.seq ?_
  rcases ite2_cases h with ⟨b7, h⟩ | ⟨b7, h⟩
  · refine AW.cond_t rfl b7 ?_
    refine AW.skip ?_
    refine thenQ_normal ?_
    refine AW.seq ?_
    refine AW.block ?_
    refine AW.seq ?_
    obtain ⟨c8, h⟩ := chk_some h
    refine AW.rA ⟨[(2, (vc (.fn 85 2 fun j => [(pl 4 cs_Clip a2_0_0), (pl 4 cs_Clip a2_0_1)].getD j .nilptr))), (8, (vp 2 0)), (10, (vp 4 0)), (11, (vc (.int .i64 x5))), (12, (vc (sl 5 cs_Key (a0.Tracks.getD x5.toNat default)))), (22, (vc (sl 1 (csL 5 cs_Key) a0.Tracks))), (23, (vc (.int .i64 (a0.Tracks.length : Int)))), (24, (vc (.int .i64 x5)))], [(2, (.box [(.c (.int .i64 (0 : Int))), (.c (.int .i64 (0 : Int))), .nils, .nils])), (3, (.lst v1.length 4 (gl cs_RootKey v1))), (4, (.box [(.c (.int .i64 a1)), (.c (.int .i64 a0.Kind)), (.lst 8 x6.length 1 (gl (csL 5 cs_Key) x6)), (.lst 3 v1.length 4 (gl cs_RootKey v1))])), (8, (.lst x6.length 1 (gl (csL 5 cs_Key) x6)))]⟩ (Tt ∧ (0 ≤ x5 ∧ x5 < (a0.Tracks.length : Int)) ∧ Tt ∧ T2 Tt) [] [2, 8, 10, 11, 12, 22, 23, 24] [2, 3, 4, 8] ⟨tr, c8, tr, tr, tr, tr⟩ ?_
    refine thenQ_normal ?_
    obtain ⟨v9, e10, h⟩ := bind_some h
    obtain ⟨c11, h⟩ := chk_some h
    refine AW.dA ⟨[(2, (vc (.fn 85 2 fun j => [(pl 4 cs_Clip a2_0_0), (pl 4 cs_Clip a2_0_1)].getD j .nilptr))), (8, (vp 2 0)), (10, (vp 4 0)), (22, (vc (sl 1 (csL 5 cs_Key) a0.Tracks))), (23, (vc (.int .i64 (a0.Tracks.length : Int)))), (24, (vc (.int .i64 x5)))], [(2, (.box [(.c (.int .i64 (0 : Int))), (.c (.int .i64 (0 : Int))), .nils, .nils])), (3, (.lst v1.length 4 (gl cs_RootKey v1))), (4, (.box [(.c (.int .i64 a1)), (.c (.int .i64 a0.Kind)), (.lst 17 (x6 ++ ([v9])).length 1 (gl (csL 5 cs_Key) (x6 ++ ([v9])))), (.lst 3 v1.length 4 (gl cs_RootKey v1))])), (17, (.lst (x6 ++ ([v9])).length 1 (gl (csL 5 cs_Key) (x6 ++ ([v9])))))]⟩ ((Tt ∧ T4 ((((Eqc (.int .i64 x5)) ∧ (Eqc (sl 5 cs_Key (a0.Tracks.getD x5.toNat default))) ∧ (4 = 4 ∧ ∀ j, j < 4 → (cs_Clip a2_0_0).getD j .nilptr = (cs_Clip a2_0_0).getD j .nilptr) ∧ (4 = 4 ∧ ∀ j, j < 4 → (cs_Clip a2_0_1).getD j .nilptr = (cs_Clip a2_0_1).getD j .nilptr) ∧ Tt) ∧ CallOK Try.prog 85 [.one (.int .i64 x5), .one (sl 5 cs_Key (a0.Tracks.getD x5.toNat default)), .one (pl 4 cs_Clip a2_0_0), .one (pl 4 cs_Clip a2_0_1)] [.one (sl 5 cs_Key v9)]) ∧ (([v9]).length = 1 ∧ (Eqc (sl 5 cs_Key v9)) ∧ Tt) ∧ ((x6 ++ ([v9])).length = x6.length + ([v9]).length ∧ AppOb (x6.length) (([v9]).length) 1 (gl (csL 5 cs_Key) x6) (gl (csL 5 cs_Key) ([v9])) (gl (csL 5 cs_Key) (x6 ++ ([v9]))) ∧ Tt ∧ (x6.length + ([v9]).length) * 24 ≤ 140737488355328) ∧ Tt ∧ Tt)) ∧ (Tt ∧ Tt)) 9 [.no, .no, .no, .no, .no, .call [.one (.int .i64 x5), .one (sl 5 cs_Key (a0.Tracks.getD x5.toNat default)), .one (pl 4 cs_Clip a2_0_0), .one (pl 4 cs_Clip a2_0_1)] [.one (sl 5 cs_Key v9)] [[.lst 15]], .obj 16 ([v9]).length (gl (csL 5 cs_Key) ([v9])), .obj 17 (x6 ++ ([v9])).length (gl (csL 5 cs_Key) (x6 ++ ([v9])))] [2, 8, 10, 22, 23, 24] [2, 3, 4, 17] ⟨⟨tr, tr, tr, tr, tr, ⟨⟨rfl, rfl, ⟨rfl, fun j hj => rfl⟩, ⟨rfl, fun j hj => rfl⟩, tr⟩, ok_impl_JoinClips_1 K x5 (a0.Tracks.getD x5.toNat default) a2_0_0 a2_0_1 v9 e10⟩, ⟨rfl, ⟨rfl, tr⟩⟩, ⟨List.length_append, gl_append, tr, c11⟩, tr, tr⟩, ⟨tr, tr⟩⟩ ?_
    refine blockQ_normal ?_
    refine thenQ_normal ?_
    refine AW.rA ⟨[(2, (vc (.fn 85 2 fun j => [(pl 4 cs_Clip a2_0_0), (pl 4 cs_Clip a2_0_1)].getD j .nilptr))), (8, (vp 2 0)), (10, (vp 4 0)), (22, (vc (sl 1 (csL 5 cs_Key) a0.Tracks))), (23, (vc (.int .i64 (a0.Tracks.length : Int)))), (24, (vc (.int .i64 (IntKind.i64.wrap (x5 + (1 : Int))))))], [(2, (.box [(.c (.int .i64 (0 : Int))), (.c (.int .i64 (0 : Int))), .nils, .nils])), (3, (.lst v1.length 4 (gl cs_RootKey v1))), (4, (.box [(.c (.int .i64 a1)), (.c (.int .i64 a0.Kind)), (.lst 17 (x6 ++ ([v9])).length 1 (gl (csL 5 cs_Key) (x6 ++ ([v9])))), (.lst 3 v1.length 4 (gl cs_RootKey v1))])), (17, (.lst (x6 ++ ([v9])).length 1 (gl (csL 5 cs_Key) (x6 ++ ([v9])))))]⟩ (T2 Tt) [] [2, 8, 10, 22, 23, 24] [2, 3, 4, 17] ⟨tr, tr, tr⟩ ?_
    exact loopQ_normal (k, (IntKind.i64.wrap (x5 + (1 : Int))), (x6 ++ ([v9]))) h (Nat.lt_succ_self k) (Sub.trans (Sub.swap 8 17 _ (by kernel_rfl) (by kernel_rfl)) (Sub.keep [2, 8, 10, 22, 23, 24] [2, 3, 4, 8] (by kernel_rfl) (by kernel_rfl)))
  · refine AW.cond_f rfl b7 ?_
    refine AW.exit ?_
    refine thenQ_exit ?_
    refine loopQ_exit ?_
    refine blockQ_exit ?_
    refine thenQ_normal ?_
    refine AW.seq ?_
    refine AW.weak (s' := ⟨[(8, (vp 2 0)), (10, (vp 4 0))], [(2, (.box [(.c (.int .i64 (0 : Int))), (.c (.int .i64 (0 : Int))), .nils, .nils])), (3, (.lst v1.length 4 (gl cs_RootKey v1))), (4, (.box [(.c (.int .i64 a1)), (.c (.int .i64 a0.Kind)), (.lst 8 x6.length 1 (gl (csL 5 cs_Key) x6)), (.lst 3 v1.length 4 (gl cs_RootKey v1))])), (8, (.lst x6.length 1 (gl (csL 5 cs_Key) x6)))]⟩) (Sub.keep [8, 10] [2, 3, 4, 8] (by kernel_rfl) (by kernel_rfl)) ?_
    refine AW.weak (s' := ⟨[(8, (vp 2 0)), (10, (vp 4 0))], [(2, (.box [(.c (.int .i64 (0 : Int))), (.c (.int .i64 (0 : Int))), .nils, .nils])), (3, (.arr true v1.length 4 (gl cs_RootKey v1))), (4, (.box [(.c (.int .i64 a1)), (.c (.int .i64 a0.Kind)), (.arr 8), (.arr 3)])), (8, (.arr true x6.length 1 (gl (csL 5 cs_Key) x6)))]⟩) (Sub.lstOwn [3, 8] (by kernel_rfl)) ?_
    obtain ⟨v12, e13, h⟩ := bind_some h
    refine AW.splitA 1 [.no] [8, 39] [2, 3, 8] [.callM [(.agg [(.ro (.int .i64 a1)), (.ro (.int .i64 a0.Kind)), (.mv (sl 1 (csL 5 cs_Key) x6)), (.mv (sl 4 cs_RootKey v1))])] [.agg (cs_Clip v12.1), .one (.bool v12.2)] [[.view, .view, .lst 18, .lst 19], [.view]] none] [8, 9] [2, 18, 19] (s' := ⟨[(8, (vp 2 0)), (9, (vc (.bool v12.2)))], [(2, (.box [(.c (.int .i64 v12.1.Length)), (.c (.int .i64 v12.1.Kind)), (.lst 18 v12.1.Tracks.length 1 (gl (csL 5 cs_Key) v12.1.Tracks)), (.lst 19 v12.1.Roots.length 4 (gl cs_RootKey v12.1.Roots))])), (18, (.lst v12.1.Tracks.length 1 (gl (csL 5 cs_Key) v12.1.Tracks))), (19, (.lst v12.1.Roots.length 4 (gl cs_RootKey v12.1.Roots)))]⟩) (ob := (Tt ∧ Tt) ∧ (((((Eqc (.int .i64 a1)) ∧ (Eqc (.int .i64 a0.Kind)) ∧ (Eqc (sl 1 (csL 5 cs_Key) x6)) ∧ (Eqc (sl 4 cs_RootKey v1)) ∧ Tt) ∧ Tt) ∧ MutOK Try.prog 141 [(.agg [(.ro (.int .i64 a1)), (.ro (.int .i64 a0.Kind)), (.mv (sl 1 (csL 5 cs_Key) x6)), (.mv (sl 4 cs_RootKey v1))])] [.agg (cs_Clip v12.1), .one (.bool v12.2)]) ∧ T4 Tt)) (by kernel_rfl) ⟨⟨tr, tr⟩, ⟨⟨⟨⟨rfl, rfl, rfl, rfl, tr⟩, tr⟩, ok_impl_validClip K (Clip.mk a1 a0.Kind x6 v1) v12 e13⟩, tr, tr, tr, tr, tr⟩⟩ ?_
    refine thenQ_normal ?_
    refine AW.ret ?_
    replace h := some_eq h
    subst h
    exact ⟨.inr rfl, retOK_of [(.agg [(.c (.int .i64 v12.1.Length)), (.c (.int .i64 v12.1.Kind)), (.lst 18 v12.1.Tracks.length 1 (gl (csL 5 cs_Key) v12.1.Tracks)), (.lst 19 v12.1.Roots.length 4 (gl cs_RootKey v12.1.Roots))]), (.one (.c (.bool v12.2)))] (by kernel_rfl) ⟨⟨⟨rfl, tr⟩, ⟨rfl, tr⟩, rfl, rfl, tr⟩, ⟨rfl, tr⟩, tr⟩ (of_decide_eq_true (by kernel_rfl))⟩

/-! impl.JoinClips -/
def impl_JoinClips (K : Nat) (a0 : Clip) (a1 : Clip) : Option (Clip × Bool) :=
  (impl_ValidClip K a0).bind fun v1 => (ite2 ((!v1)) (some true) ((impl_ValidClip K a1).bind fun v4 => ite2 ((!v4)) (some true) (ite2 ((a0.Kind != a1.Kind)) (some true) (some ((a0.Tracks.length : Int) != (a1.Tracks.length : Int)))))).bind fun j8 => ite2 (j8) (some ((Clip.mk (0 : Int) (0 : Int) ([] : (List (List Key))) ([] : (List RootKey))), false)) ((impl_Clip_changed K a0 (IntKind.i64.wrap (a0.Length + a1.Length)) a1 a0 a1 a0).bind fun v11 => some (v11.1, v11.2))

theorem ok_impl_JoinClips (K : Nat) (a0 : Clip) (a1 : Clip) (o : (Clip × Bool)) (h : impl_JoinClips K a0 a1 = some o) : CallOK Try.prog 23 [.agg (cs_Clip a0), .agg (cs_Clip a1)] [.agg (cs_Clip o.1), .one (.bool o.2)] := by
  refine callOK_of_AW Try.func23 rfl (by kernel_rfl) (Nat.le_of_ble_eq_true (by kernel_rfl)) ?_
  intro w0
  unfold impl_JoinClips at h
  refine AW.seq (AW.rA ⟨[(2, (vp 1 0)), (3, (vp 2 0)), (4, (vp 3 0))], [(1, (.box [(.c (.int .i64 a0.Length)), (.c (.int .i64 a0.Kind)), (.c (sl 1 (csL 5 cs_Key) a0.Tracks)), (.c (sl 4 cs_RootKey a0.Roots))])), (2, (.box [(.c (.int .i64 a1.Length)), (.c (.int .i64 a1.Kind)), (.c (sl 1 (csL 5 cs_Key) a1.Tracks)), (.c (sl 4 cs_RootKey a1.Roots))])), (3, (.box [(.c (.int .i64 (0 : Int))), (.c (.int .i64 (0 : Int))), .nils, .nils]))]⟩ (T4 Tt) [.box 1, .box 2, .box 3] [2, 3, 4] [1, 2, 3] ⟨tr, tr, tr, tr, tr⟩ (thenQ_normal ?_))
  refine AW.seq ?_
  refine AW.seq ?_
  obtain ⟨v1, e2, h⟩ := bind_some h
  obtain ⟨j8, e9, h⟩ := bind_some h
  refine AW.join1 (s2 := ⟨[(2, (vp 1 0)), (3, (vp 2 0)), (4, (vp 3 0)), (29, (vc (.bool j8)))], [(1, (.box [(.c (.int .i64 a0.Length)), (.c (.int .i64 a0.Kind)), (.c (sl 1 (csL 5 cs_Key) a0.Tracks)), (.c (sl 4 cs_RootKey a0.Roots))])), (2, (.box [(.c (.int .i64 a1.Length)), (.c (.int .i64 a1.Kind)), (.c (sl 1 (csL 5 cs_Key) a1.Tracks)), (.c (sl 4 cs_RootKey a1.Roots))])), (3, (.box [(.c (.int .i64 (0 : Int))), (.c (.int .i64 (0 : Int))), .nils, .nils]))]⟩) ?_ ?_
  · rcases ite2_cases e9 with ⟨b3, e9⟩ | ⟨b3, e9⟩
    · replace e9 := some_eq e9
      subst e9
      exact AW.rA ⟨[(2, (vp 1 0)), (3, (vp 2 0)), (4, (vp 3 0)), (29, (vc (.bool true)))], [(1, (.box [(.c (.int .i64 a0.Length)), (.c (.int .i64 a0.Kind)), (.c (sl 1 (csL 5 cs_Key) a0.Tracks)), (.c (sl 4 cs_RootKey a0.Roots))])), (2, (.box [(.c (.int .i64 a1.Length)), (.c (.int .i64 a1.Kind)), (.c (sl 1 (csL 5 cs_Key) a1.Tracks)), (.c (sl 4 cs_RootKey a1.Roots))])), (3, (.box [(.c (.int .i64 (0 : Int))), (.c (.int .i64 (0 : Int))), .nils, .nils]))]⟩ (Tt ∧ ((((Eqc (.int .i64 a0.Length)) ∧ (Eqc (.int .i64 a0.Kind)) ∧ (Eqc (sl 1 (csL 5 cs_Key) a0.Tracks)) ∧ (Eqc (sl 4 cs_RootKey a0.Roots)) ∧ Tt) ∧ Tt) ∧ CallOK Try.prog 63 [.agg (cs_Clip a0)] [.one (.bool v1)]) ∧ Tt ∧ (Tt ∧ (!v1) = true) ∧ T4 (T4 (T4 (T4 (T4 Tt))))) [.no, .call [.agg (cs_Clip a0)] [.one (.bool v1)] [[.view]], .no, .dec true] [2, 3, 4, 29] [1, 2, 3] ⟨tr, ⟨⟨⟨rfl, rfl, rfl, rfl, tr⟩, tr⟩, ok_impl_ValidClip K a0 v1 e2⟩, tr, ⟨tr, b3⟩, tr, tr, tr, tr, tr, tr, tr, tr, tr, tr, tr, tr, tr, tr, tr, tr, tr, tr, tr, tr, tr⟩ ⟨rfl, rfl⟩
    · obtain ⟨v4, e5, e9⟩ := bind_some e9
      rcases ite2_cases e9 with ⟨b6, e9⟩ | ⟨b6, e9⟩
      · replace e9 := some_eq e9
        subst e9
        exact AW.rA ⟨[(2, (vp 1 0)), (3, (vp 2 0)), (4, (vp 3 0)), (29, (vc (.bool true)))], [(1, (.box [(.c (.int .i64 a0.Length)), (.c (.int .i64 a0.Kind)), (.c (sl 1 (csL 5 cs_Key) a0.Tracks)), (.c (sl 4 cs_RootKey a0.Roots))])), (2, (.box [(.c (.int .i64 a1.Length)), (.c (.int .i64 a1.Kind)), (.c (sl 1 (csL 5 cs_Key) a1.Tracks)), (.c (sl 4 cs_RootKey a1.Roots))])), (3, (.box [(.c (.int .i64 (0 : Int))), (.c (.int .i64 (0 : Int))), .nils, .nils]))]⟩ (Tt ∧ ((((Eqc (.int .i64 a0.Length)) ∧ (Eqc (.int .i64 a0.Kind)) ∧ (Eqc (sl 1 (csL 5 cs_Key) a0.Tracks)) ∧ (Eqc (sl 4 cs_RootKey a0.Roots)) ∧ Tt) ∧ Tt) ∧ CallOK Try.prog 63 [.agg (cs_Clip a0)] [.one (.bool v1)]) ∧ Tt ∧ (Tt ∧ (!v1) = false) ∧ Tt ∧ ((((Eqc (.int .i64 a1.Length)) ∧ (Eqc (.int .i64 a1.Kind)) ∧ (Eqc (sl 1 (csL 5 cs_Key) a1.Tracks)) ∧ (Eqc (sl 4 cs_RootKey a1.Roots)) ∧ Tt) ∧ Tt) ∧ CallOK Try.prog 63 [.agg (cs_Clip a1)] [.one (.bool v4)]) ∧ T2 ((Tt ∧ (!v4) = true) ∧ Tt ∧ T2 (T4 (T4 (T4 Tt))))) [.no, .call [.agg (cs_Clip a0)] [.one (.bool v1)] [[.view]], .no, .dec false, .no, .call [.agg (cs_Clip a1)] [.one (.bool v4)] [[.view]], .no, .no, .dec true] [2, 3, 4, 29] [1, 2, 3] ⟨tr, ⟨⟨⟨rfl, rfl, rfl, rfl, tr⟩, tr⟩, ok_impl_ValidClip K a0 v1 e2⟩, tr, ⟨tr, b3⟩, tr, ⟨⟨⟨rfl, rfl, rfl, rfl, tr⟩, tr⟩, ok_impl_ValidClip K a1 v4 e5⟩, tr, tr, ⟨tr, b6⟩, tr, tr, tr, tr, tr, tr, tr, tr, tr, tr, tr, tr, tr, tr, tr, tr⟩ ⟨rfl, rfl⟩
      · rcases ite2_cases e9 with ⟨b7, e9⟩ | ⟨b7, e9⟩
        · replace e9 := some_eq e9
          subst e9
          exact AW.rA ⟨[(2, (vp 1 0)), (3, (vp 2 0)), (4, (vp 3 0)), (29, (vc (.bool true)))], [(1, (.box [(.c (.int .i64 a0.Length)), (.c (.int .i64 a0.Kind)), (.c (sl 1 (csL 5 cs_Key) a0.Tracks)), (.c (sl 4 cs_RootKey a0.Roots))])), (2, (.box [(.c (.int .i64 a1.Length)), (.c (.int .i64 a1.Kind)), (.c (sl 1 (csL 5 cs_Key) a1.Tracks)), (.c (sl 4 cs_RootKey a1.Roots))])), (3, (.box [(.c (.int .i64 (0 : Int))), (.c (.int .i64 (0 : Int))), .nils, .nils]))]⟩ (Tt ∧ ((((Eqc (.int .i64 a0.Length)) ∧ (Eqc (.int .i64 a0.Kind)) ∧ (Eqc (sl 1 (csL 5 cs_Key) a0.Tracks)) ∧ (Eqc (sl 4 cs_RootKey a0.Roots)) ∧ Tt) ∧ Tt) ∧ CallOK Try.prog 63 [.agg (cs_Clip a0)] [.one (.bool v1)]) ∧ Tt ∧ (Tt ∧ (!v1) = false) ∧ Tt ∧ ((((Eqc (.int .i64 a1.Length)) ∧ (Eqc (.int .i64 a1.Kind)) ∧ (Eqc (sl 1 (csL 5 cs_Key) a1.Tracks)) ∧ (Eqc (sl 4 cs_RootKey a1.Roots)) ∧ Tt) ∧ Tt) ∧ CallOK Try.prog 63 [.agg (cs_Clip a1)] [.one (.bool v4)]) ∧ T2 ((Tt ∧ (!v4) = false) ∧ T2 (T4 ((Tt ∧ (a0.Kind != a1.Kind) = true) ∧ T4 (T4 Tt))))) [.no, .call [.agg (cs_Clip a0)] [.one (.bool v1)] [[.view]], .no, .dec false, .no, .call [.agg (cs_Clip a1)] [.one (.bool v4)] [[.view]], .no, .no, .dec false, .no, .no, .no, .no, .no, .no, .dec true] [2, 3, 4, 29] [1, 2, 3] ⟨tr, ⟨⟨⟨rfl, rfl, rfl, rfl, tr⟩, tr⟩, ok_impl_ValidClip K a0 v1 e2⟩, tr, ⟨tr, b3⟩, tr, ⟨⟨⟨rfl, rfl, rfl, rfl, tr⟩, tr⟩, ok_impl_ValidClip K a1 v4 e5⟩, tr, tr, ⟨tr, b6⟩, tr, tr, tr, tr, tr, tr, ⟨tr, b7⟩, tr, tr, tr, tr, tr, tr, tr, tr, tr⟩ ⟨rfl, rfl⟩
        · replace e9 := some_eq e9
          subst e9
          exact AW.rA ⟨[(2, (vp 1 0)), (3, (vp 2 0)), (4, (vp 3 0)), (29, (vc (.bool ((a0.Tracks.length : Int) != (a1.Tracks.length : Int)))))], [(1, (.box [(.c (.int .i64 a0.Length)), (.c (.int .i64 a0.Kind)), (.c (sl 1 (csL 5 cs_Key) a0.Tracks)), (.c (sl 4 cs_RootKey a0.Roots))])), (2, (.box [(.c (.int .i64 a1.Length)), (.c (.int .i64 a1.Kind)), (.c (sl 1 (csL 5 cs_Key) a1.Tracks)), (.c (sl 4 cs_RootKey a1.Roots))])), (3, (.box [(.c (.int .i64 (0 : Int))), (.c (.int .i64 (0 : Int))), .nils, .nils]))]⟩ (Tt ∧ ((((Eqc (.int .i64 a0.Length)) ∧ (Eqc (.int .i64 a0.Kind)) ∧ (Eqc (sl 1 (csL 5 cs_Key) a0.Tracks)) ∧ (Eqc (sl 4 cs_RootKey a0.Roots)) ∧ Tt) ∧ Tt) ∧ CallOK Try.prog 63 [.agg (cs_Clip a0)] [.one (.bool v1)]) ∧ Tt ∧ (Tt ∧ (!v1) = false) ∧ Tt ∧ ((((Eqc (.int .i64 a1.Length)) ∧ (Eqc (.int .i64 a1.Kind)) ∧ (Eqc (sl 1 (csL 5 cs_Key) a1.Tracks)) ∧ (Eqc (sl 4 cs_RootKey a1.Roots)) ∧ Tt) ∧ Tt) ∧ CallOK Try.prog 63 [.agg (cs_Clip a1)] [.one (.bool v4)]) ∧ T2 ((Tt ∧ (!v4) = false) ∧ T2 (T4 ((Tt ∧ (a0.Kind != a1.Kind) = false) ∧ T4 (T4 Tt))))) [.no, .call [.agg (cs_Clip a0)] [.one (.bool v1)] [[.view]], .no, .dec false, .no, .call [.agg (cs_Clip a1)] [.one (.bool v4)] [[.view]], .no, .no, .dec false, .no, .no, .no, .no, .no, .no, .dec false] [2, 3, 4, 29] [1, 2, 3] ⟨tr, ⟨⟨⟨rfl, rfl, rfl, rfl, tr⟩, tr⟩, ok_impl_ValidClip K a0 v1 e2⟩, tr, ⟨tr, b3⟩, tr, ⟨⟨⟨rfl, rfl, rfl, rfl, tr⟩, tr⟩, ok_impl_ValidClip K a1 v4 e5⟩, tr, tr, ⟨tr, b6⟩, tr, tr, tr, tr, tr, tr, ⟨tr, b7⟩, tr, tr, tr, tr, tr, tr, tr, tr, tr⟩ ⟨rfl, rfl⟩
  refine thenQ_normal ?_
  rcases ite2_cases h with ⟨b10, h⟩ | ⟨b10, h⟩
  · refine AW.cond_t rfl b10 ?_
    refine AW.seq (AW.rA ⟨[(4, (vp 3 0)), (5, (vc (.bool false)))], [(3, (.box [(.c (.int .i64 (0 : Int))), (.c (.int .i64 (0 : Int))), .nils, .nils]))]⟩ (Tt ∧ T2 Tt) [] [4, 5] [3] ⟨tr, tr, tr, tr⟩ (thenQ_normal ?_))
    refine AW.ret ?_
    refine thenQ_ret ?_
    replace h := some_eq h
    subst h
    exact ⟨.inr rfl, retOK_of [(.agg [(.c (.int .i64 (0 : Int))), (.c (.int .i64 (0 : Int))), .nils, .nils]), (.one (.c (.bool false)))] (by kernel_rfl) ⟨⟨⟨rfl, tr⟩, ⟨rfl, tr⟩, rfl, rfl, tr⟩, ⟨rfl, tr⟩, tr⟩ (of_decide_eq_true (by kernel_rfl))⟩
  · refine AW.cond_f rfl b10 ?_
    refine AW.skip ?_
    refine thenQ_normal ?_
    refine AW.seq ?_
    obtain ⟨v11, e12, h⟩ := bind_some h
    refine AW.rA ⟨[(4, (vp 3 0)), (5, (vc (.bool v11.2)))], [(3, (.box [(.c (.int .i64 v11.1.Length)), (.c (.int .i64 v11.1.Kind)), (.lst 4 v11.1.Tracks.length 1 (gl (csL 5 cs_Key) v11.1.Tracks)), (.lst 5 v11.1.Roots.length 4 (gl cs_RootKey v11.1.Roots))])), (4, (.lst v11.1.Tracks.length 1 (gl (csL 5 cs_Key) v11.1.Tracks))), (5, (.lst v11.1.Roots.length 4 (gl cs_RootKey v11.1.Roots)))]⟩ (T4 (T4 (((((Eqc (.int .i64 a0.Length)) ∧ (Eqc (.int .i64 a0.Kind)) ∧ (Eqc (sl 1 (csL 5 cs_Key) a0.Tracks)) ∧ (Eqc (sl 4 cs_RootKey a0.Roots)) ∧ Tt) ∧ (Eqc (.int .i64 (IntKind.i64.wrap (a0.Length + a1.Length)))) ∧ (85 = 85 ∧ 2 = 2 ∧ ((Eqc (.int .i64 a1.Length)) ∧ (Eqc (.int .i64 a1.Kind)) ∧ (Eqc (sl 1 (csL 5 cs_Key) a1.Tracks)) ∧ (Eqc (sl 4 cs_RootKey a1.Roots)) ∧ Tt) ∧ ((Eqc (.int .i64 a0.Length)) ∧ (Eqc (.int .i64 a0.Kind)) ∧ (Eqc (sl 1 (csL 5 cs_Key) a0.Tracks)) ∧ (Eqc (sl 4 cs_RootKey a0.Roots)) ∧ Tt) ∧ Tt) ∧ (87 = 87 ∧ 2 = 2 ∧ ((Eqc (.int .i64 a1.Length)) ∧ (Eqc (.int .i64 a1.Kind)) ∧ (Eqc (sl 1 (csL 5 cs_Key) a1.Tracks)) ∧ (Eqc (sl 4 cs_RootKey a1.Roots)) ∧ Tt) ∧ ((Eqc (.int .i64 a0.Length)) ∧ (Eqc (.int .i64 a0.Kind)) ∧ (Eqc (sl 1 (csL 5 cs_Key) a0.Tracks)) ∧ (Eqc (sl 4 cs_RootKey a0.Roots)) ∧ Tt) ∧ Tt) ∧ Tt) ∧ CallOK Try.prog 64 [.agg (cs_Clip a0), .one (.int .i64 (IntKind.i64.wrap (a0.Length + a1.Length))), .one (.fn 85 2 fun j => [(pl 4 cs_Clip a1), (pl 4 cs_Clip a0)].getD j .nilptr), .one (.fn 87 2 fun j => [(pl 4 cs_Clip a1), (pl 4 cs_Clip a0)].getD j .nilptr)] [.agg (cs_Clip v11.1), .one (.bool v11.2)]) ∧ T4 Tt))) [.no, .no, .no, .no, .no, .no, .no, .no, .call [.agg (cs_Clip a0), .one (.int .i64 (IntKind.i64.wrap (a0.Length + a1.Length))), .one (.fn 85 2 fun j => [(pl 4 cs_Clip a1), (pl 4 cs_Clip a0)].getD j .nilptr), .one (.fn 87 2 fun j => [(pl 4 cs_Clip a1), (pl 4 cs_Clip a0)].getD j .nilptr)] [.agg (cs_Clip v11.1), .one (.bool v11.2)] [[.view, .view, .lst 4, .lst 5], [.view]]] [4, 5] [3, 4, 5] ⟨tr, tr, tr, tr, tr, tr, tr, tr, ⟨⟨⟨rfl, rfl, rfl, rfl, tr⟩, rfl, ⟨rfl, rfl, ⟨⟨rfl, rfl, rfl, rfl, tr⟩, ⟨rfl, rfl, rfl, rfl, tr⟩, tr⟩⟩, ⟨rfl, rfl, ⟨⟨rfl, rfl, rfl, rfl, tr⟩, ⟨rfl, rfl, rfl, rfl, tr⟩, tr⟩⟩, tr⟩, ok_impl_Clip_changed K a0 (IntKind.i64.wrap (a0.Length + a1.Length)) a1 a0 a1 a0 v11 e12⟩, tr, tr, tr, tr, tr⟩ ?_
    refine thenQ_normal ?_
    refine AW.ret ?_
    replace h := some_eq h
    subst h
    exact ⟨.inr rfl, retOK_of [(.agg [(.c (.int .i64 v11.1.Length)), (.c (.int .i64 v11.1.Kind)), (.lst 4 v11.1.Tracks.length 1 (gl (csL 5 cs_Key) v11.1.Tracks)), (.lst 5 v11.1.Roots.length 4 (gl cs_RootKey v11.1.Roots))]), (.one (.c (.bool v11.2)))] (by kernel_rfl) ⟨⟨⟨rfl, tr⟩, ⟨rfl, tr⟩, rfl, rfl, tr⟩, ⟨rfl, tr⟩, tr⟩ (of_decide_eq_true (by kernel_rfl))⟩

/-! laws.sameFloat -/
def laws_sameFloat (_K : Nat) (a0 : F64) (a1 : F64) : Option (Bool) :=
  (ite2 ((a0.ne a0)) (some true) (some (a1.ne a1))).bind fun j2 => ite2 (j2) ((ite2 ((a0.ne a0)) (some (a1.ne a1)) (some false)).bind fun j6 => some j6) ((ite2 ((a0.eq (Fl.mk (k := .f64) 0 (by decide)))) (some (a1.eq (Fl.mk (k := .f64) 0 (by decide)))) (some false)).bind fun j9 => ite2 (j9) (some ((((Fl.mk (k := .f64) 4607182418800017408 (by decide)).div a0).gt (Fl.mk (k := .f64) 0 (by decide))) == (((Fl.mk (k := .f64) 4607182418800017408 (by decide)).div a1).gt (Fl.mk (k := .f64) 0 (by decide))))) (some (a0.eq a1)))

theorem ok_laws_sameFloat (K : Nat) (a0 : F64) (a1 : F64) (o : (Bool)) (h : laws_sameFloat K a0 a1 = some o) : CallOK Try.prog 211 [.one (.flt .f64 a0.bits), .one (.flt .f64 a1.bits)] [.one (.bool o)] := by
  refine callOK_of_AW Try.func211 rfl (by kernel_rfl) (Nat.le_of_ble_eq_true (by kernel_rfl)) ?_
  intro w0
  unfold laws_sameFloat at h
  refine AW.seq (AW.rA ⟨[(0, (vc (.flt .f64 a0.bits))), (1, (vc (.flt .f64 a1.bits)))], []⟩ (Tt ∧ Tt) [] [0, 1] [] ⟨tr, tr⟩ (thenQ_normal ?_))
  refine AW.seq ?_
  refine AW.seq ?_
  obtain ⟨j2, e3, h⟩ := bind_some h
  refine AW.join1 (s2 := ⟨[(0, (vc (.flt .f64 a0.bits))), (1, (vc (.flt .f64 a1.bits))), (12, (vc (.bool j2)))], []⟩) ?_ ?_
  · rcases ite2_cases e3 with ⟨b1, e3⟩ | ⟨b1, e3⟩
    · replace e3 := some_eq e3
      subst e3
      exact AW.rA ⟨[(0, (vc (.flt .f64 a0.bits))), (1, (vc (.flt .f64 a1.bits))), (12, (vc (.bool true)))], []⟩ (Tt ∧ T2 ((Tt ∧ (a0.ne a0) = true) ∧ T4 Tt)) [.no, .no, .no, .dec true] [0, 1, 12] [] ⟨tr, tr, tr, ⟨tr, b1⟩, tr, tr, tr, tr, tr⟩ ⟨rfl, rfl⟩
    · replace e3 := some_eq e3
      subst e3
      exact AW.rA ⟨[(0, (vc (.flt .f64 a0.bits))), (1, (vc (.flt .f64 a1.bits))), (12, (vc (.bool (a1.ne a1))))], []⟩ (Tt ∧ T2 ((Tt ∧ (a0.ne a0) = false) ∧ T4 Tt)) [.no, .no, .no, .dec false] [0, 1, 12] [] ⟨tr, tr, tr, ⟨tr, b1⟩, tr, tr, tr, tr, tr⟩ ⟨rfl, rfl⟩
  refine thenQ_normal ?_
  rcases ite2_cases h with ⟨b4, h⟩ | ⟨b4, h⟩
  · refine AW.cond_t rfl b4 ?_
    refine AW.seq ?_
    obtain ⟨j6, e7, h⟩ := bind_some h
    refine AW.join1 (s2 := ⟨[(4, (vc (.bool j6)))], []⟩) ?_ ?_
    · rcases ite2_cases e7 with ⟨b5, e7⟩ | ⟨b5, e7⟩
      · replace e7 := some_eq e7
        subst e7
        exact AW.rA ⟨[(4, (vc (.bool (a1.ne a1))))], []⟩ (Tt ∧ T2 ((Tt ∧ (a0.ne a0) = true) ∧ Tt ∧ T4 Tt)) [.no, .no, .no, .dec true] [4] [] ⟨tr, tr, tr, ⟨tr, b5⟩, tr, tr, tr, tr, tr, tr⟩ ⟨rfl, rfl⟩
      · replace e7 := some_eq e7
        subst e7
        exact AW.rA ⟨[(4, (vc (.bool false)))], []⟩ (Tt ∧ T2 ((Tt ∧ (a0.ne a0) = false) ∧ Tt ∧ T4 Tt)) [.no, .no, .no, .dec false] [4] [] ⟨tr, tr, tr, ⟨tr, b5⟩, tr, tr, tr, tr, tr, tr⟩ ⟨rfl, rfl⟩
    refine thenQ_normal ?_
    refine AW.ret ?_
    refine thenQ_ret ?_
    replace h := some_eq h
    subst h
    exact ⟨.inr rfl, retOK_of [(.one (.c (.bool j6)))] (by kernel_rfl) ⟨⟨rfl, tr⟩, tr⟩ (of_decide_eq_true (by kernel_rfl))⟩
  · refine AW.cond_f rfl b4 ?_
    refine AW.skip ?_
    refine thenQ_normal ?_
    refine AW.seq ?_
    refine AW.seq ?_
    obtain ⟨j9, e10, h⟩ := bind_some h
    refine AW.join1 (s2 := ⟨[(0, (vc (.flt .f64 a0.bits))), (1, (vc (.flt .f64 a1.bits))), (26, (vc (.bool j9)))], []⟩) ?_ ?_
    · rcases ite2_cases e10 with ⟨b8, e10⟩ | ⟨b8, e10⟩
      · replace e10 := some_eq e10
        subst e10
        exact AW.rA ⟨[(0, (vc (.flt .f64 a0.bits))), (1, (vc (.flt .f64 a1.bits))), (26, (vc (.bool (a1.eq (Fl.mk (k := .f64) 0 (by decide))))))], []⟩ (T2 ((Tt ∧ (a0.eq (Fl.mk (k := .f64) 0 (by decide))) = true) ∧ Tt ∧ T2 Tt)) [.no, .no, .dec true] [0, 1, 26] [] ⟨tr, tr, ⟨tr, b8⟩, tr, tr, tr, tr⟩ ⟨rfl, rfl⟩
      · replace e10 := some_eq e10
        subst e10
        exact AW.rA ⟨[(0, (vc (.flt .f64 a0.bits))), (1, (vc (.flt .f64 a1.bits))), (26, (vc (.bool false)))], []⟩ (T2 ((Tt ∧ (a0.eq (Fl.mk (k := .f64) 0 (by decide))) = false) ∧ Tt ∧ T2 Tt)) [.no, .no, .dec false] [0, 1, 26] [] ⟨tr, tr, ⟨tr, b8⟩, tr, tr, tr, tr⟩ ⟨rfl, rfl⟩
    refine thenQ_normal ?_
    rcases ite2_cases h with ⟨b11, h⟩ | ⟨b11, h⟩
    · refine AW.cond_t rfl b11 ?_
      refine AW.seq (AW.rA ⟨[(4, (vc (.bool ((((Fl.mk (k := .f64) 4607182418800017408 (by decide)).div a0).gt (Fl.mk (k := .f64) 0 (by decide))) == (((Fl.mk (k := .f64) 4607182418800017408 (by decide)).div a1).gt (Fl.mk (k := .f64) 0 (by decide)))))))], []⟩ (T4 (T4 Tt)) [] [4] [] ⟨tr, tr, tr, tr, tr, tr, tr, tr, tr⟩ (thenQ_normal ?_))
      refine AW.ret ?_
      refine thenQ_ret ?_
      replace h := some_eq h
      subst h
      exact ⟨.inr rfl, retOK_of [(.one (.c (.bool ((((Fl.mk (k := .f64) 4607182418800017408 (by decide)).div a0).gt (Fl.mk (k := .f64) 0 (by decide))) == (((Fl.mk (k := .f64) 4607182418800017408 (by decide)).div a1).gt (Fl.mk (k := .f64) 0 (by decide)))))))] (by kernel_rfl) ⟨⟨rfl, tr⟩, tr⟩ (of_decide_eq_true (by kernel_rfl))⟩
    · refine AW.cond_f rfl b11 ?_
      refine AW.skip ?_
      refine thenQ_normal ?_
      refine AW.seq (AW.rA ⟨[(4, (vc (.bool (a0.eq a1))))], []⟩ (T4 Tt) [] [4] [] ⟨tr, tr, tr, tr, tr⟩ (thenQ_normal ?_))
      refine AW.ret ?_
      replace h := some_eq h
      subst h
      exact ⟨.inr rfl, retOK_of [(.one (.c (.bool (a0.eq a1))))] (by kernel_rfl) ⟨⟨rfl, tr⟩, tr⟩ (of_decide_eq_true (by kernel_rfl))⟩

/-! laws.eqTurn -/
def laws_eqTurn (K : Nat) (a0 : Turn) (a1 : Turn) : Option (Bool) :=
  (laws_sameFloat K (Fl.cv .f32 .f64 a0.W) (Fl.cv .f32 .f64 a1.W)).bind fun v1 => ite2 ((!v1)) (some false) ((laws_sameFloat K (Fl.cv .f32 .f64 a0.X) (Fl.cv .f32 .f64 a1.X)).bind fun v4 => ite2 ((!v4)) (some false) ((laws_sameFloat K (Fl.cv .f32 .f64 a0.Y) (Fl.cv .f32 .f64 a1.Y)).bind fun v7 => ite2 ((!v7)) (some false) ((laws_sameFloat K (Fl.cv .f32 .f64 a0.Z) (Fl.cv .f32 .f64 a1.Z)).bind fun v10 => ite2 ((!v10)) (some false) (some true))))

theorem ok_laws_eqTurn (K : Nat) (a0 : Turn) (a1 : Turn) (o : (Bool)) (h : laws_eqTurn K a0 a1 = some o) : CallOK Try.prog 210 [.agg (cs_Turn a0), .agg (cs_Turn a1)] [.one (.bool o)] := by
  refine callOK_of_AW Try.func210 rfl (by kernel_rfl) (Nat.le_of_ble_eq_true (by kernel_rfl)) ?_
  intro w0
  unfold laws_eqTurn at h
  refine AW.seq (AW.rA ⟨[(2, (vp 1 0)), (3, (vp 2 0))], [(1, (.box [(.c (.flt .f32 a0.W.bits)), (.c (.flt .f32 a0.X.bits)), (.c (.flt .f32 a0.Y.bits)), (.c (.flt .f32 a0.Z.bits))])), (2, (.box [(.c (.flt .f32 a1.W.bits)), (.c (.flt .f32 a1.X.bits)), (.c (.flt .f32 a1.Y.bits)), (.c (.flt .f32 a1.Z.bits))]))]⟩ (Tt ∧ T2 Tt) [.box 1, .box 2] [2, 3] [1, 2] ⟨tr, tr, tr, tr⟩ (thenQ_normal ?_))
  refine AW.seq ?_
  refine AW.seq ?_
  obtain ⟨v1, e2, h⟩ := bind_some h
  refine AW.rA ⟨[(2, (vp 1 0)), (3, (vp 2 0)), (12, (vc (.bool (!v1))))], [(1, (.box [(.c (.flt .f32 a0.W.bits)), (.c (.flt .f32 a0.X.bits)), (.c (.flt .f32 a0.Y.bits)), (.c (.flt .f32 a0.Z.bits))])), (2, (.box [(.c (.flt .f32 a1.W.bits)), (.c (.flt .f32 a1.X.bits)), (.c (.flt .f32 a1.Y.bits)), (.c (.flt .f32 a1.Z.bits))]))]⟩ (T2 (((convBits .f32 a0.W.bits .f64).isSome = true) ∧ T2 (((convBits .f32 a1.W.bits .f64).isSome = true) ∧ (((Eqc (.flt .f64 (Fl.cv .f32 .f64 a0.W).bits)) ∧ (Eqc (.flt .f64 (Fl.cv .f32 .f64 a1.W).bits)) ∧ Tt) ∧ CallOK Try.prog 211 [.one (.flt .f64 (Fl.cv .f32 .f64 a0.W).bits), .one (.flt .f64 (Fl.cv .f32 .f64 a1.W).bits)] [.one (.bool v1)]) ∧ Tt ∧ Tt))) [.no, .no, .no, .no, .no, .no, .call [.one (.flt .f64 (Fl.cv .f32 .f64 a0.W).bits), .one (.flt .f64 (Fl.cv .f32 .f64 a1.W).bits)] [.one (.bool v1)] [[.view]]] [2, 3, 12] [1, 2] ⟨tr, tr, cv_wide a0.W, tr, tr, cv_wide a1.W, ⟨⟨rfl, rfl, tr⟩, ok_laws_sameFloat K (Fl.cv .f32 .f64 a0.W) (Fl.cv .f32 .f64 a1.W) v1 e2⟩, tr, tr⟩ ?_
  refine thenQ_normal ?_
  rcases ite2_cases h with ⟨b3, h⟩ | ⟨b3, h⟩
  · refine AW.cond_t rfl b3 ?_
    refine AW.seq (AW.rA ⟨[(4, (vc (.bool false)))], []⟩ (Tt ∧ Tt) [] [4] [] ⟨tr, tr⟩ (thenQ_normal ?_))
    refine AW.ret ?_
    refine thenQ_ret ?_
    replace h := some_eq h
    subst h
    exact ⟨.inr rfl, retOK_of [(.one (.c (.bool false)))] (by kernel_rfl) ⟨⟨rfl, tr⟩, tr⟩ (of_decide_eq_true (by kernel_rfl))⟩
  · refine AW.cond_f rfl b3 ?_
    refine AW.skip ?_
    refine thenQ_normal ?_
    refine AW.seq ?_
    refine AW.seq ?_
    obtain ⟨v4, e5, h⟩ := bind_some h
    refine AW.rA ⟨[(2, (vp 1 0)), (3, (vp 2 0)), (20, (vc (.bool (!v4))))], [(1, (.box [(.c (.flt .f32 a0.W.bits)), (.c (.flt .f32 a0.X.bits)), (.c (.flt .f32 a0.Y.bits)), (.c (.flt .f32 a0.Z.bits))])), (2, (.box [(.c (.flt .f32 a1.W.bits)), (.c (.flt .f32 a1.X.bits)), (.c (.flt .f32 a1.Y.bits)), (.c (.flt .f32 a1.Z.bits))]))]⟩ (T2 (((convBits .f32 a0.X.bits .f64).isSome = true) ∧ T2 (((convBits .f32 a1.X.bits .f64).isSome = true) ∧ (((Eqc (.flt .f64 (Fl.cv .f32 .f64 a0.X).bits)) ∧ (Eqc (.flt .f64 (Fl.cv .f32 .f64 a1.X).bits)) ∧ Tt) ∧ CallOK Try.prog 211 [.one (.flt .f64 (Fl.cv .f32 .f64 a0.X).bits), .one (.flt .f64 (Fl.cv .f32 .f64 a1.X).bits)] [.one (.bool v4)]) ∧ Tt ∧ Tt))) [.no, .no, .no, .no, .no, .no, .call [.one (.flt .f64 (Fl.cv .f32 .f64 a0.X).bits), .one (.flt .f64 (Fl.cv .f32 .f64 a1.X).bits)] [.one (.bool v4)] [[.view]]] [2, 3, 20] [1, 2] ⟨tr, tr, cv_wide a0.X, tr, tr, cv_wide a1.X, ⟨⟨rfl, rfl, tr⟩, ok_laws_sameFloat K (Fl.cv .f32 .f64 a0.X) (Fl.cv .f32 .f64 a1.X) v4 e5⟩, tr, tr⟩ ?_
    refine thenQ_normal ?_
    rcases ite2_cases h with ⟨b6, h⟩ | ⟨b6, h⟩
    · refine AW.cond_t rfl b6 ?_
      refine AW.seq (AW.rA ⟨[(4, (vc (.bool false)))], []⟩ (Tt ∧ Tt) [] [4] [] ⟨tr, tr⟩ (thenQ_normal ?_))
      refine AW.ret ?_
      refine thenQ_ret ?_
      replace h := some_eq h
      subst h
      exact ⟨.inr rfl, retOK_of [(.one (.c (.bool false)))] (by kernel_rfl) ⟨⟨rfl, tr⟩, tr⟩ (of_decide_eq_true (by kernel_rfl))⟩
    · refine AW.cond_f rfl b6 ?_
      refine AW.skip ?_
      refine thenQ_normal ?_
      refine AW.seq ?_
      refine AW.seq ?_
      obtain ⟨v7, e8, h⟩ := bind_some h
      refine AW.rA ⟨[(2, (vp 1 0)), (3, (vp 2 0)), (28, (vc (.bool (!v7))))], [(1, (.box [(.c (.flt .f32 a0.W.bits)), (.c (.flt .f32 a0.X.bits)), (.c (.flt .f32 a0.Y.bits)), (.c (.flt .f32 a0.Z.bits))])), (2, (.box [(.c (.flt .f32 a1.W.bits)), (.c (.flt .f32 a1.X.bits)), (.c (.flt .f32 a1.Y.bits)), (.c (.flt .f32 a1.Z.bits))]))]⟩ (T2 (((convBits .f32 a0.Y.bits .f64).isSome = true) ∧ T2 (((convBits .f32 a1.Y.bits .f64).isSome = true) ∧ (((Eqc (.flt .f64 (Fl.cv .f32 .f64 a0.Y).bits)) ∧ (Eqc (.flt .f64 (Fl.cv .f32 .f64 a1.Y).bits)) ∧ Tt) ∧ CallOK Try.prog 211 [.one (.flt .f64 (Fl.cv .f32 .f64 a0.Y).bits), .one (.flt .f64 (Fl.cv .f32 .f64 a1.Y).bits)] [.one (.bool v7)]) ∧ Tt ∧ Tt))) [.no, .no, .no, .no, .no, .no, .call [.one (.flt .f64 (Fl.cv .f32 .f64 a0.Y).bits), .one (.flt .f64 (Fl.cv .f32 .f64 a1.Y).bits)] [.one (.bool v7)] [[.view]]] [2, 3, 28] [1, 2] ⟨tr, tr, cv_wide a0.Y, tr, tr, cv_wide a1.Y, ⟨⟨rfl, rfl, tr⟩, ok_laws_sameFloat K (Fl.cv .f32 .f64 a0.Y) (Fl.cv .f32 .f64 a1.Y) v7 e8⟩, tr, tr⟩ ?_
      refine thenQ_normal ?_
      rcases ite2_cases h with ⟨b9, h⟩ | ⟨b9, h⟩
      · refine AW.cond_t rfl b9 ?_
        refine AW.seq (AW.rA ⟨[(4, (vc (.bool false)))], []⟩ (Tt ∧ Tt) [] [4] [] ⟨tr, tr⟩ (thenQ_normal ?_))
        refine AW.ret ?_
        refine thenQ_ret ?_
        replace h := some_eq h
        subst h
        exact ⟨.inr rfl, retOK_of [(.one (.c (.bool false)))] (by kernel_rfl) ⟨⟨rfl, tr⟩, tr⟩ (of_decide_eq_true (by kernel_rfl))⟩
      · refine AW.cond_f rfl b9 ?_
        refine AW.skip ?_
        refine thenQ_normal ?_
        refine AW.seq ?_
        refine AW.seq ?_
        obtain ⟨v10, e11, h⟩ := bind_some h
        refine AW.rA ⟨[(36, (vc (.bool (!v10))))], []⟩ (T2 (((convBits .f32 a0.Z.bits .f64).isSome = true) ∧ T2 (((convBits .f32 a1.Z.bits .f64).isSome = true) ∧ (((Eqc (.flt .f64 (Fl.cv .f32 .f64 a0.Z).bits)) ∧ (Eqc (.flt .f64 (Fl.cv .f32 .f64 a1.Z).bits)) ∧ Tt) ∧ CallOK Try.prog 211 [.one (.flt .f64 (Fl.cv .f32 .f64 a0.Z).bits), .one (.flt .f64 (Fl.cv .f32 .f64 a1.Z).bits)] [.one (.bool v10)]) ∧ Tt ∧ Tt))) [.no, .no, .no, .no, .no, .no, .call [.one (.flt .f64 (Fl.cv .f32 .f64 a0.Z).bits), .one (.flt .f64 (Fl.cv .f32 .f64 a1.Z).bits)] [.one (.bool v10)] [[.view]]] [36] [] ⟨tr, tr, cv_wide a0.Z, tr, tr, cv_wide a1.Z, ⟨⟨rfl, rfl, tr⟩, ok_laws_sameFloat K (Fl.cv .f32 .f64 a0.Z) (Fl.cv .f32 .f64 a1.Z) v10 e11⟩, tr, tr⟩ ?_
        refine thenQ_normal ?_
        rcases ite2_cases h with ⟨b12, h⟩ | ⟨b12, h⟩
        · refine AW.cond_t rfl b12 ?_
          refine AW.seq (AW.rA ⟨[(4, (vc (.bool false)))], []⟩ (Tt ∧ Tt) [] [4] [] ⟨tr, tr⟩ (thenQ_normal ?_))
          refine AW.ret ?_
          refine thenQ_ret ?_
          replace h := some_eq h
          subst h
          exact ⟨.inr rfl, retOK_of [(.one (.c (.bool false)))] (by kernel_rfl) ⟨⟨rfl, tr⟩, tr⟩ (of_decide_eq_true (by kernel_rfl))⟩
        · refine AW.cond_f rfl b12 ?_
          refine AW.skip ?_
          refine thenQ_normal ?_
          refine AW.seq (AW.rA ⟨[(4, (vc (.bool true)))], []⟩ (Tt ∧ Tt) [] [4] [] ⟨tr, tr⟩ (thenQ_normal ?_))
          refine AW.ret ?_
          replace h := some_eq h
          subst h
          exact ⟨.inr rfl, retOK_of [(.one (.c (.bool true)))] (by kernel_rfl) ⟨⟨rfl, tr⟩, tr⟩ (of_decide_eq_true (by kernel_rfl))⟩

/-! laws.eqKey -/
def laws_eqKey (K : Nat) (a0 : Key) (a1 : Key) : Option (Bool) :=
  ite2 ((a0.At != a1.At)) (some false) ((laws_eqTurn K a0.Turn a1.Turn).bind fun v2 => ite2 ((!v2)) (some false) (some true))

theorem ok_laws_eqKey (K : Nat) (a0 : Key) (a1 : Key) (o : (Bool)) (h : laws_eqKey K a0 a1 = some o) : CallOK Try.prog 185 [.agg (cs_Key a0), .agg (cs_Key a1)] [.one (.bool o)] := by
  refine callOK_of_AW Try.func185 rfl (by kernel_rfl) (Nat.le_of_ble_eq_true (by kernel_rfl)) ?_
  intro w0
  unfold laws_eqKey at h
  refine AW.seq (AW.rA ⟨[(2, (vp 1 0)), (3, (vp 2 0))], [(1, (.box [(.c (.int .i64 a0.At)), (.c (.flt .f32 a0.Turn.W.bits)), (.c (.flt .f32 a0.Turn.X.bits)), (.c (.flt .f32 a0.Turn.Y.bits)), (.c (.flt .f32 a0.Turn.Z.bits))])), (2, (.box [(.c (.int .i64 a1.At)), (.c (.flt .f32 a1.Turn.W.bits)), (.c (.flt .f32 a1.Turn.X.bits)), (.c (.flt .f32 a1.Turn.Y.bits)), (.c (.flt .f32 a1.Turn.Z.bits))]))]⟩ (Tt ∧ T2 Tt) [.box 1, .box 2] [2, 3] [1, 2] ⟨tr, tr, tr, tr⟩ (thenQ_normal ?_))
  refine AW.seq ?_
  refine AW.seq (AW.rA ⟨[(2, (vp 1 0)), (3, (vp 2 0)), (9, (vc (.bool (a0.At != a1.At))))], [(1, (.box [(.c (.int .i64 a0.At)), (.c (.flt .f32 a0.Turn.W.bits)), (.c (.flt .f32 a0.Turn.X.bits)), (.c (.flt .f32 a0.Turn.Y.bits)), (.c (.flt .f32 a0.Turn.Z.bits))])), (2, (.box [(.c (.int .i64 a1.At)), (.c (.flt .f32 a1.Turn.W.bits)), (.c (.flt .f32 a1.Turn.X.bits)), (.c (.flt .f32 a1.Turn.Y.bits)), (.c (.flt .f32 a1.Turn.Z.bits))]))]⟩ (Tt ∧ T4 Tt) [] [2, 3, 9] [1, 2] ⟨tr, tr, tr, tr, tr, tr⟩ (thenQ_normal ?_))
  rcases ite2_cases h with ⟨b1, h⟩ | ⟨b1, h⟩
  · refine AW.cond_t rfl b1 ?_
    refine AW.seq (AW.rA ⟨[(4, (vc (.bool false)))], []⟩ (Tt ∧ Tt) [] [4] [] ⟨tr, tr⟩ (thenQ_normal ?_))
    refine AW.ret ?_
    refine thenQ_ret ?_
    replace h := some_eq h
    subst h
    exact ⟨.inr rfl, retOK_of [(.one (.c (.bool false)))] (by kernel_rfl) ⟨⟨rfl, tr⟩, tr⟩ (of_decide_eq_true (by kernel_rfl))⟩
  · refine AW.cond_f rfl b1 ?_
    refine AW.skip ?_
    refine thenQ_normal ?_
    refine AW.seq ?_
    refine AW.seq ?_
    obtain ⟨v2, e3, h⟩ := bind_some h
    refine AW.rA ⟨[(15, (vc (.bool (!v2))))], []⟩ (T4 (((((Eqc (.flt .f32 a0.Turn.W.bits)) ∧ (Eqc (.flt .f32 a0.Turn.X.bits)) ∧ (Eqc (.flt .f32 a0.Turn.Y.bits)) ∧ (Eqc (.flt .f32 a0.Turn.Z.bits)) ∧ Tt) ∧ ((Eqc (.flt .f32 a1.Turn.W.bits)) ∧ (Eqc (.flt .f32 a1.Turn.X.bits)) ∧ (Eqc (.flt .f32 a1.Turn.Y.bits)) ∧ (Eqc (.flt .f32 a1.Turn.Z.bits)) ∧ Tt) ∧ Tt) ∧ CallOK Try.prog 210 [.agg (cs_Turn a0.Turn), .agg (cs_Turn a1.Turn)] [.one (.bool v2)]) ∧ Tt ∧ Tt)) [.no, .no, .no, .no, .call [.agg (cs_Turn a0.Turn), .agg (cs_Turn a1.Turn)] [.one (.bool v2)] [[.view]]] [15] [] ⟨tr, tr, tr, tr, ⟨⟨⟨rfl, rfl, rfl, rfl, tr⟩, ⟨rfl, rfl, rfl, rfl, tr⟩, tr⟩, ok_laws_eqTurn K a0.Turn a1.Turn v2 e3⟩, tr, tr⟩ ?_
    refine thenQ_normal ?_
    rcases ite2_cases h with ⟨b4, h⟩ | ⟨b4, h⟩
    · refine AW.cond_t rfl b4 ?_
      refine AW.seq (AW.rA ⟨[(4, (vc (.bool false)))], []⟩ (Tt ∧ Tt) [] [4] [] ⟨tr, tr⟩ (thenQ_normal ?_))
      refine AW.ret ?_
      refine thenQ_ret ?_
      replace h := some_eq h
      subst h
      exact ⟨.inr rfl, retOK_of [(.one (.c (.bool false)))] (by kernel_rfl) ⟨⟨rfl, tr⟩, tr⟩ (of_decide_eq_true (by kernel_rfl))⟩
    · refine AW.cond_f rfl b4 ?_
      refine AW.skip ?_
      refine thenQ_normal ?_
      refine AW.seq (AW.rA ⟨[(4, (vc (.bool true)))], []⟩ (Tt ∧ Tt) [] [4] [] ⟨tr, tr⟩ (thenQ_normal ?_))
      refine AW.ret ?_
      replace h := some_eq h
      subst h
      exact ⟨.inr rfl, retOK_of [(.one (.c (.bool true)))] (by kernel_rfl) ⟨⟨rfl, tr⟩, tr⟩ (of_decide_eq_true (by kernel_rfl))⟩

/-! laws.eqKeyS -/
def laws_eqKeyS_l1 (K : Nat) (a0 : (List Key)) (a1 : (List Key)) : Nat → Int → Option (Bool)
  | 0, _ => none
  | k + 1, x3 => ite2 ((decide (x3 < (a0.length : Int)))) (chk (0 ≤ x3 ∧ x3 < (a0.length : Int)) (chk (0 ≤ x3 ∧ x3 < (a1.length : Int)) ((laws_eqKey K (a0.getD x3.toNat default) (a1.getD x3.toNat default)).bind fun v7 => ite2 ((!v7)) (some false) (laws_eqKeyS_l1 K a0 a1 k (IntKind.i64.wrap (x3 + (1 : Int))))))) (some true)

def laws_eqKeyS (K : Nat) (a0 : (List Key)) (a1 : (List Key)) : Option (Bool) :=
  ite2 (((a0.length : Int) != (a1.length : Int))) (some false) (laws_eqKeyS_l1 K a0 a1 K (0 : Int))

theorem ok_laws_eqKeyS (K : Nat) (a0 : (List Key)) (a1 : (List Key)) (o : (Bool)) (h : laws_eqKeyS K a0 a1 = some o) : CallOK Try.prog 142 [.one (sl 5 cs_Key a0), .one (sl 5 cs_Key a1)] [.one (.bool o)] := by
  refine callOK_of_AW Try.func142 rfl (by kernel_rfl) (Nat.le_of_ble_eq_true (by kernel_rfl)) ?_
  intro w0
  unfold laws_eqKeyS at h
  refine AW.seq (AW.rA ⟨[(0, (vc (sl 5 cs_Key a0))), (1, (vc (sl 5 cs_Key a1)))], []⟩ (Tt ∧ Tt) [] [0, 1] [] ⟨tr, tr⟩ (thenQ_normal ?_))
  refine AW.seq ?_
  refine AW.seq (AW.rA ⟨[(0, (vc (sl 5 cs_Key a0))), (1, (vc (sl 5 cs_Key a1))), (10, (vc (.bool ((a0.length : Int) != (a1.length : Int)))))], []⟩ (Tt ∧ T4 Tt) [] [0, 1, 10] [] ⟨tr, tr, tr, tr, tr, tr⟩ (thenQ_normal ?_))
  rcases ite2_cases h with ⟨b1, h⟩ | ⟨b1, h⟩
  · refine AW.cond_t rfl b1 ?_
    refine AW.seq (AW.rA ⟨[(4, (vc (.bool false)))], []⟩ (Tt ∧ Tt) [] [4] [] ⟨tr, tr⟩ (thenQ_normal ?_))
    refine AW.ret ?_
    refine thenQ_ret ?_
    replace h := some_eq h
    subst h
    exact ⟨.inr rfl, retOK_of [(.one (.c (.bool false)))] (by kernel_rfl) ⟨⟨rfl, tr⟩, tr⟩ (of_decide_eq_true (by kernel_rfl))⟩
  · refine AW.cond_f rfl b1 ?_
    refine AW.skip ?_
    refine thenQ_normal ?_
    refine AW.seq ?_
    refine AW.seq (AW.rA ⟨[(0, (vc (sl 5 cs_Key a0))), (1, (vc (sl 5 cs_Key a1))), (5, (vc (.int .i64 (0 : Int))))], []⟩ (Tt ∧ Tt) [] [0, 1, 5] [] ⟨tr, tr⟩ (thenQ_normal ?_))
    refine AW.block ?_
    refine AW.loopQ (σ := Nat × Int) (fun p => ⟨[(0, (vc (sl 5 cs_Key a0))), (1, (vc (sl 5 cs_Key a1))), (5, (vc (.int .i64 p.2)))], []⟩) (fun p => laws_eqKeyS_l1 K a0 a1 p.1 p.2 = some o) (fun p => p.1) (K, (0 : Int)) h ?_
    clear h
    rintro ⟨k, x3⟩ h
    replace h : laws_eqKeyS_l1 K a0 a1 k x3 = some o := h
    show AW _ _ (⟨[(0, (vc (sl 5 cs_Key a0))), (1, (vc (sl 5 cs_Key a1))), (5, (vc (.int .i64 x3)))], []⟩ : St) _
    obtain _ | k := k
    · rw [laws_eqKeyS_l1] at h; cases h
    rw [laws_eqKeyS_l1] at h
    refine AW.seq ?_
    refine AW.seq (AW.rA ⟨[(0, (vc (sl 5 cs_Key a0))), (1, (vc (sl 5 cs_Key a1))), (5, (vc (.int .i64 x3))), (14, (vc (.bool (decide (x3 < (a0.length : Int))))))], []⟩ (T4 Tt) [] [0, 1, 5, 14] [] ⟨tr, tr, tr, tr, tr⟩ (thenQ_normal ?_))
    rcases ite2_cases h with ⟨b4, h⟩ | ⟨b4, h⟩
    · refine AW.cond_t rfl b4 ?_
      refine AW.skip ?_
      refine thenQ_normal ?_
      refine AW.seq ?_
      refine AW.block ?_
      refine AW.seq ?_
      obtain ⟨c5, h⟩ := chk_some h
      obtain ⟨c6, h⟩ := chk_some h
      obtain ⟨v7, e8, h⟩ := bind_some h
      refine AW.dA ⟨[(0, (vc (sl 5 cs_Key a0))), (1, (vc (sl 5 cs_Key a1))), (5, (vc (.int .i64 x3))), (26, (vc (.bool (!v7))))], []⟩ ((T2 ((0 ≤ x3 ∧ x3 < (a0.length : Int)) ∧ Tt ∧ T2 ((0 ≤ x3 ∧ x3 < (a1.length : Int)) ∧ Tt ∧ ((((Eqc (.int .i64 ((a0.getD x3.toNat default).At))) ∧ (Eqc (.flt .f32 (((a0.getD x3.toNat default).Turn).W).bits)) ∧ (Eqc (.flt .f32 (((a0.getD x3.toNat default).Turn).X).bits)) ∧ (Eqc (.flt .f32 (((a0.getD x3.toNat default).Turn).Y).bits)) ∧ (Eqc (.flt .f32 (((a0.getD x3.toNat default).Turn).Z).bits)) ∧ Tt) ∧ ((Eqc (.int .i64 ((a1.getD x3.toNat default).At))) ∧ (Eqc (.flt .f32 (((a1.getD x3.toNat default).Turn).W).bits)) ∧ (Eqc (.flt .f32 (((a1.getD x3.toNat default).Turn).X).bits)) ∧ (Eqc (.flt .f32 (((a1.getD x3.toNat default).Turn).Y).bits)) ∧ (Eqc (.flt .f32 (((a1.getD x3.toNat default).Turn).Z).bits)) ∧ Tt) ∧ Tt) ∧ CallOK Try.prog 185 [.agg (cs_Key (a0.getD x3.toNat default)), .agg (cs_Key (a1.getD x3.toNat default))] [.one (.bool v7)]) ∧ Tt ∧ Tt))) ∧ (Tt)) 10 [.no, .no, .no, .no, .no, .no, .no, .no, .call [.agg (cs_Key (a0.getD x3.toNat default)), .agg (cs_Key (a1.getD x3.toNat default))] [.one (.bool v7)] [[.view]]] [0, 1, 5, 26] [] ⟨⟨tr, tr, c5, tr, tr, tr, c6, tr, ⟨⟨⟨rfl, rfl, rfl, rfl, rfl, tr⟩, ⟨rfl, rfl, rfl, rfl, rfl, tr⟩, tr⟩, ok_laws_eqKey K (a0.getD x3.toNat default) (a1.getD x3.toNat default) v7 e8⟩, tr, tr⟩, tr⟩ ?_
      refine thenQ_normal ?_
      rcases ite2_cases h with ⟨b9, h⟩ | ⟨b9, h⟩
      · refine AW.cond_t rfl b9 ?_
        refine AW.seq (AW.rA ⟨[(4, (vc (.bool false)))], []⟩ (Tt ∧ Tt) [] [4] [] ⟨tr, tr⟩ (thenQ_normal ?_))
        refine AW.ret ?_
        refine blockQ_ret ?_
        refine thenQ_ret ?_
        refine loopQ_ret ?_
        refine blockQ_ret ?_
        refine thenQ_ret ?_
        replace h := some_eq h
        subst h
        exact ⟨.inr rfl, retOK_of [(.one (.c (.bool false)))] (by kernel_rfl) ⟨⟨rfl, tr⟩, tr⟩ (of_decide_eq_true (by kernel_rfl))⟩
      · refine AW.cond_f rfl b9 ?_
        refine AW.skip ?_
        refine blockQ_normal ?_
        refine thenQ_normal ?_
        refine AW.rA ⟨[(0, (vc (sl 5 cs_Key a0))), (1, (vc (sl 5 cs_Key a1))), (5, (vc (.int .i64 (IntKind.i64.wrap (x3 + (1 : Int))))))], []⟩ (Tt ∧ T2 Tt) [] [0, 1, 5] [] ⟨tr, tr, tr, tr⟩ ?_
        exact loopQ_normal (k, (IntKind.i64.wrap (x3 + (1 : Int)))) h (Nat.lt_succ_self k) (Sub.keep [0, 1, 5] [] (by kernel_rfl) (by kernel_rfl))
    · refine AW.cond_f rfl b4 ?_
      refine AW.exit ?_
      refine thenQ_exit ?_
      refine loopQ_exit ?_
      refine blockQ_exit ?_
      refine thenQ_normal ?_
      refine AW.seq (AW.rA ⟨[(4, (vc (.bool true)))], []⟩ (Tt ∧ Tt) [] [4] [] ⟨tr, tr⟩ (thenQ_normal ?_))
      refine AW.ret ?_
      replace h := some_eq h
      subst h
      exact ⟨.inr rfl, retOK_of [(.one (.c (.bool true)))] (by kernel_rfl) ⟨⟨rfl, tr⟩, tr⟩ (of_decide_eq_true (by kernel_rfl))⟩

/-! laws.eqKeySS -/
def laws_eqKeySS_l1 (K : Nat) (a0 : (List (List Key))) (a1 : (List (List Key))) : Nat → Int → Option (Bool)
  | 0, _ => none
  | k + 1, x3 => ite2 ((decide (x3 < (a0.length : Int)))) (chk (0 ≤ x3 ∧ x3 < (a0.length : Int)) (chk (0 ≤ x3 ∧ x3 < (a1.length : Int)) ((laws_eqKeyS K (a0.getD x3.toNat default) (a1.getD x3.toNat default)).bind fun v7 => ite2 ((!v7)) (some false) (laws_eqKeySS_l1 K a0 a1 k (IntKind.i64.wrap (x3 + (1 : Int))))))) (some true)

def laws_eqKeySS (K : Nat) (a0 : (List (List Key))) (a1 : (List (List Key))) : Option (Bool) :=
  ite2 (((a0.length : Int) != (a1.length : Int))) (some false) (laws_eqKeySS_l1 K a0 a1 K (0 : Int))

theorem ok_laws_eqKeySS (K : Nat) (a0 : (List (List Key))) (a1 : (List (List Key))) (o : (Bool)) (h : laws_eqKeySS K a0 a1 = some o) : CallOK Try.prog 68 [.one (sl 1 (csL 5 cs_Key) a0), .one (sl 1 (csL 5 cs_Key) a1)] [.one (.bool o)] := by
  refine callOK_of_AW Try.func68 rfl (by kernel_rfl) (Nat.le_of_ble_eq_true (by kernel_rfl)) ?_
  intro w0
  unfold laws_eqKeySS at h
  refine AW.seq (AW.rA ⟨[(0, (vc (sl 1 (csL 5 cs_Key) a0))), (1, (vc (sl 1 (csL 5 cs_Key) a1)))], []⟩ (Tt ∧ Tt) [] [0, 1] [] ⟨tr, tr⟩ (thenQ_normal ?_))
  refine AW.seq ?_
  refine AW.seq (AW.rA ⟨[(0, (vc (sl 1 (csL 5 cs_Key) a0))), (1, (vc (sl 1 (csL 5 cs_Key) a1))), (10, (vc (.bool ((a0.length : Int) != (a1.length : Int)))))], []⟩ (Tt ∧ T4 Tt) [] [0, 1, 10] [] ⟨tr, tr, tr, tr, tr, tr⟩ (thenQ_normal ?_))
  rcases ite2_cases h with ⟨b1, h⟩ | ⟨b1, h⟩
  · refine AW.cond_t rfl b1 ?_
    refine AW.seq (AW.rA ⟨[(4, (vc (.bool false)))], []⟩ (Tt ∧ Tt) [] [4] [] ⟨tr, tr⟩ (thenQ_normal ?_))
    refine AW.ret ?_
    refine thenQ_ret ?_
    replace h := some_eq h
    subst h
    exact ⟨.inr rfl, retOK_of [(.one (.c (.bool false)))] (by kernel_rfl) ⟨⟨rfl, tr⟩, tr⟩ (of_decide_eq_true (by kernel_rfl))⟩
  · refine AW.cond_f rfl b1 ?_
    refine AW.skip ?_
    refine thenQ_normal ?_
    refine AW.seq ?_
    refine AW.seq (AW.rA ⟨[(0, (vc (sl 1 (csL 5 cs_Key) a0))), (1, (vc (sl 1 (csL 5 cs_Key) a1))), (5, (vc (.int .i64 (0 : Int))))], []⟩ (Tt ∧ Tt) [] [0, 1, 5] [] ⟨tr, tr⟩ (thenQ_normal ?_))
    refine AW.block ?_
    refine AW.loopQ (σ := Nat × Int) (fun p => ⟨[(0, (vc (sl 1 (csL 5 cs_Key) a0))), (1, (vc (sl 1 (csL 5 cs_Key) a1))), (5, (vc (.int .i64 p.2)))], []⟩) (fun p => laws_eqKeySS_l1 K a0 a1 p.1 p.2 = some o) (fun p => p.1) (K, (0 : Int)) h ?_
    clear h
    rintro ⟨k, x3⟩ h
    replace h : laws_eqKeySS_l1 K a0 a1 k x3 = some o := h
    show AW _ _ (⟨[(0, (vc (sl 1 (csL 5 cs_Key) a0))), (1, (vc (sl 1 (csL 5 cs_Key) a1))), (5, (vc (.int .i64 x3)))], []⟩ : St) _
    obtain _ | k := k
    · rw [laws_eqKeySS_l1] at h; cases h
    rw [laws_eqKeySS_l1] at h
    refine AW.seq ?_
    refine AW.seq (AW.rA ⟨[(0, (vc (sl 1 (csL 5 cs_Key) a0))), (1, (vc (sl 1 (csL 5 cs_Key) a1))), (5, (vc (.int .i64 x3))), (14, (vc (.bool (decide (x3 < (a0.length : Int))))))], []⟩ (T4 Tt) [] [0, 1, 5, 14] [] ⟨tr, tr, tr, tr, tr⟩ (thenQ_normal ?_))
    rcases ite2_cases h with ⟨b4, h⟩ | ⟨b4, h⟩
    · refine AW.cond_t rfl b4 ?_
      refine AW.skip ?_
      refine thenQ_normal ?_
      refine AW.seq ?_
      refine AW.block ?_
      refine AW.seq ?_
      obtain ⟨c5, h⟩ := chk_some h
      obtain ⟨c6, h⟩ := chk_some h
      obtain ⟨v7, e8, h⟩ := bind_some h
      refine AW.dA ⟨[(0, (vc (sl 1 (csL 5 cs_Key) a0))), (1, (vc (sl 1 (csL 5 cs_Key) a1))), (5, (vc (.int .i64 x3))), (26, (vc (.bool (!v7))))], []⟩ ((T2 ((0 ≤ x3 ∧ x3 < (a0.length : Int)) ∧ Tt ∧ T2 ((0 ≤ x3 ∧ x3 < (a1.length : Int)) ∧ Tt ∧ (((Eqc (sl 5 cs_Key (a0.getD x3.toNat default))) ∧ (Eqc (sl 5 cs_Key (a1.getD x3.toNat default))) ∧ Tt) ∧ CallOK Try.prog 142 [.one (sl 5 cs_Key (a0.getD x3.toNat default)), .one (sl 5 cs_Key (a1.getD x3.toNat default))] [.one (.bool v7)]) ∧ Tt ∧ Tt))) ∧ (Tt)) 10 [.no, .no, .no, .no, .no, .no, .no, .no, .call [.one (sl 5 cs_Key (a0.getD x3.toNat default)), .one (sl 5 cs_Key (a1.getD x3.toNat default))] [.one (.bool v7)] [[.view]]] [0, 1, 5, 26] [] ⟨⟨tr, tr, c5, tr, tr, tr, c6, tr, ⟨⟨rfl, rfl, tr⟩, ok_laws_eqKeyS K (a0.getD x3.toNat default) (a1.getD x3.toNat default) v7 e8⟩, tr, tr⟩, tr⟩ ?_
      refine thenQ_normal ?_
      rcases ite2_cases h with ⟨b9, h⟩ | ⟨b9, h⟩
      · refine AW.cond_t rfl b9 ?_
        refine AW.seq (AW.rA ⟨[(4, (vc (.bool false)))], []⟩ (Tt ∧ Tt) [] [4] [] ⟨tr, tr⟩ (thenQ_normal ?_))
        refine AW.ret ?_
        refine blockQ_ret ?_
        refine thenQ_ret ?_
        refine loopQ_ret ?_
        refine blockQ_ret ?_
        refine thenQ_ret ?_
        replace h := some_eq h
        subst h
        exact ⟨.inr rfl, retOK_of [(.one (.c (.bool false)))] (by kernel_rfl) ⟨⟨rfl, tr⟩, tr⟩ (of_decide_eq_true (by kernel_rfl))⟩
      · refine AW.cond_f rfl b9 ?_
        refine AW.skip ?_
        refine blockQ_normal ?_
        refine thenQ_normal ?_
        refine AW.rA ⟨[(0, (vc (sl 1 (csL 5 cs_Key) a0))), (1, (vc (sl 1 (csL 5 cs_Key) a1))), (5, (vc (.int .i64 (IntKind.i64.wrap (x3 + (1 : Int))))))], []⟩ (Tt ∧ T2 Tt) [] [0, 1, 5] [] ⟨tr, tr, tr, tr⟩ ?_
        exact loopQ_normal (k, (IntKind.i64.wrap (x3 + (1 : Int)))) h (Nat.lt_succ_self k) (Sub.keep [0, 1, 5] [] (by kernel_rfl) (by kernel_rfl))
    · refine AW.cond_f rfl b4 ?_
      refine AW.exit ?_
      refine thenQ_exit ?_
      refine loopQ_exit ?_
      refine blockQ_exit ?_
      refine thenQ_normal ?_
      refine AW.seq (AW.rA ⟨[(4, (vc (.bool true)))], []⟩ (Tt ∧ Tt) [] [4] [] ⟨tr, tr⟩ (thenQ_normal ?_))
      refine AW.ret ?_
      replace h := some_eq h
      subst h
      exact ⟨.inr rfl, retOK_of [(.one (.c (.bool true)))] (by kernel_rfl) ⟨⟨rfl, tr⟩, tr⟩ (of_decide_eq_true (by kernel_rfl))⟩

/-! laws.eqVector -/
def laws_eqVector (K : Nat) (a0 : Vector) (a1 : Vector) : Option (Bool) :=
  (laws_sameFloat K (Fl.cv .f32 .f64 a0.X) (Fl.cv .f32 .f64 a1.X)).bind fun v1 => ite2 ((!v1)) (some false) ((laws_sameFloat K (Fl.cv .f32 .f64 a0.Y) (Fl.cv .f32 .f64 a1.Y)).bind fun v4 => ite2 ((!v4)) (some false) ((laws_sameFloat K (Fl.cv .f32 .f64 a0.Z) (Fl.cv .f32 .f64 a1.Z)).bind fun v7 => ite2 ((!v7)) (some false) (some true)))

theorem ok_laws_eqVector (K : Nat) (a0 : Vector) (a1 : Vector) (o : (Bool)) (h : laws_eqVector K a0 a1 = some o) : CallOK Try.prog 186 [.agg (cs_Vector a0), .agg (cs_Vector a1)] [.one (.bool o)] := by
  refine callOK_of_AW Try.func186 rfl (by kernel_rfl) (Nat.le_of_ble_eq_true (by kernel_rfl)) ?_
  intro w0
  unfold laws_eqVector at h
  refine AW.seq (AW.rA ⟨[(2, (vp 1 0)), (3, (vp 2 0))], [(1, (.box [(.c (.flt .f32 a0.X.bits)), (.c (.flt .f32 a0.Y.bits)), (.c (.flt .f32 a0.Z.bits))])), (2, (.box [(.c (.flt .f32 a1.X.bits)), (.c (.flt .f32 a1.Y.bits)), (.c (.flt .f32 a1.Z.bits))]))]⟩ (Tt ∧ T2 Tt) [.box 1, .box 2] [2, 3] [1, 2] ⟨tr, tr, tr, tr⟩ (thenQ_normal ?_))
  refine AW.seq ?_
  refine AW.seq ?_
  obtain ⟨v1, e2, h⟩ := bind_some h
  refine AW.rA ⟨[(2, (vp 1 0)), (3, (vp 2 0)), (12, (vc (.bool (!v1))))], [(1, (.box [(.c (.flt .f32 a0.X.bits)), (.c (.flt .f32 a0.Y.bits)), (.c (.flt .f32 a0.Z.bits))])), (2, (.box [(.c (.flt .f32 a1.X.bits)), (.c (.flt .f32 a1.Y.bits)), (.c (.flt .f32 a1.Z.bits))]))]⟩ (T2 (((convBits .f32 a0.X.bits .f64).isSome = true) ∧ T2 (((convBits .f32 a1.X.bits .f64).isSome = true) ∧ (((Eqc (.flt .f64 (Fl.cv .f32 .f64 a0.X).bits)) ∧ (Eqc (.flt .f64 (Fl.cv .f32 .f64 a1.X).bits)) ∧ Tt) ∧ CallOK Try.prog 211 [.one (.flt .f64 (Fl.cv .f32 .f64 a0.X).bits), .one (.flt .f64 (Fl.cv .f32 .f64 a1.X).bits)] [.one (.bool v1)]) ∧ Tt ∧ Tt))) [.no, .no, .no, .no, .no, .no, .call [.one (.flt .f64 (Fl.cv .f32 .f64 a0.X).bits), .one (.flt .f64 (Fl.cv .f32 .f64 a1.X).bits)] [.one (.bool v1)] [[.view]]] [2, 3, 12] [1, 2] ⟨tr, tr, cv_wide a0.X, tr, tr, cv_wide a1.X, ⟨⟨rfl, rfl, tr⟩, ok_laws_sameFloat K (Fl.cv .f32 .f64 a0.X) (Fl.cv .f32 .f64 a1.X) v1 e2⟩, tr, tr⟩ ?_
  refine thenQ_normal ?_
  rcases ite2_cases h with ⟨b3, h⟩ | ⟨b3, h⟩
  · refine AW.cond_t rfl b3 ?_
    refine AW.seq (AW.rA ⟨[(4, (vc (.bool false)))], []⟩ (Tt ∧ Tt) [] [4] [] ⟨tr, tr⟩ (thenQ_normal ?_))
    refine AW.ret ?_
    refine thenQ_ret ?_
    replace h := some_eq h
    subst h
    exact ⟨.inr rfl, retOK_of [(.one (.c (.bool false)))] (by kernel_rfl) ⟨⟨rfl, tr⟩, tr⟩ (of_decide_eq_true (by kernel_rfl))⟩
  · refine AW.cond_f rfl b3 ?_
    refine AW.skip ?_
    refine thenQ_normal ?_
    refine AW.seq ?_
    refine AW.seq ?_
    obtain ⟨v4, e5, h⟩ := bind_some h
    refine AW.rA ⟨[(2, (vp 1 0)), (3, (vp 2 0)), (20, (vc (.bool (!v4))))], [(1, (.box [(.c (.flt .f32 a0.X.bits)), (.c (.flt .f32 a0.Y.bits)), (.c (.flt .f32 a0.Z.bits))])), (2, (.box [(.c (.flt .f32 a1.X.bits)), (.c (.flt .f32 a1.Y.bits)), (.c (.flt .f32 a1.Z.bits))]))]⟩ (T2 (((convBits .f32 a0.Y.bits .f64).isSome = true) ∧ T2 (((convBits .f32 a1.Y.bits .f64).isSome = true) ∧ (((Eqc (.flt .f64 (Fl.cv .f32 .f64 a0.Y).bits)) ∧ (Eqc (.flt .f64 (Fl.cv .f32 .f64 a1.Y).bits)) ∧ Tt) ∧ CallOK Try.prog 211 [.one (.flt .f64 (Fl.cv .f32 .f64 a0.Y).bits), .one (.flt .f64 (Fl.cv .f32 .f64 a1.Y).bits)] [.one (.bool v4)]) ∧ Tt ∧ Tt))) [.no, .no, .no, .no, .no, .no, .call [.one (.flt .f64 (Fl.cv .f32 .f64 a0.Y).bits), .one (.flt .f64 (Fl.cv .f32 .f64 a1.Y).bits)] [.one (.bool v4)] [[.view]]] [2, 3, 20] [1, 2] ⟨tr, tr, cv_wide a0.Y, tr, tr, cv_wide a1.Y, ⟨⟨rfl, rfl, tr⟩, ok_laws_sameFloat K (Fl.cv .f32 .f64 a0.Y) (Fl.cv .f32 .f64 a1.Y) v4 e5⟩, tr, tr⟩ ?_
    refine thenQ_normal ?_
    rcases ite2_cases h with ⟨b6, h⟩ | ⟨b6, h⟩
    · refine AW.cond_t rfl b6 ?_
      refine AW.seq (AW.rA ⟨[(4, (vc (.bool false)))], []⟩ (Tt ∧ Tt) [] [4] [] ⟨tr, tr⟩ (thenQ_normal ?_))
      refine AW.ret ?_
      refine thenQ_ret ?_
      replace h := some_eq h
      subst h
      exact ⟨.inr rfl, retOK_of [(.one (.c (.bool false)))] (by kernel_rfl) ⟨⟨rfl, tr⟩, tr⟩ (of_decide_eq_true (by kernel_rfl))⟩
    · refine AW.cond_f rfl b6 ?_
      refine AW.skip ?_
      refine thenQ_normal ?_
      refine AW.seq ?_
      refine AW.seq ?_
      obtain ⟨v7, e8, h⟩ := bind_some h
      refine AW.rA ⟨[(28, (vc (.bool (!v7))))], []⟩ (T2 (((convBits .f32 a0.Z.bits .f64).isSome = true) ∧ T2 (((convBits .f32 a1.Z.bits .f64).isSome = true) ∧ (((Eqc (.flt .f64 (Fl.cv .f32 .f64 a0.Z).bits)) ∧ (Eqc (.flt .f64 (Fl.cv .f32 .f64 a1.Z).bits)) ∧ Tt) ∧ CallOK Try.prog 211 [.one (.flt .f64 (Fl.cv .f32 .f64 a0.Z).bits), .one (.flt .f64 (Fl.cv .f32 .f64 a1.Z).bits)] [.one (.bool v7)]) ∧ Tt ∧ Tt))) [.no, .no, .no, .no, .no, .no, .call [.one (.flt .f64 (Fl.cv .f32 .f64 a0.Z).bits), .one (.flt .f64 (Fl.cv .f32 .f64 a1.Z).bits)] [.one (.bool v7)] [[.view]]] [28] [] ⟨tr, tr, cv_wide a0.Z, tr, tr, cv_wide a1.Z, ⟨⟨rfl, rfl, tr⟩, ok_laws_sameFloat K (Fl.cv .f32 .f64 a0.Z) (Fl.cv .f32 .f64 a1.Z) v7 e8⟩, tr, tr⟩ ?_
      refine thenQ_normal ?_
      rcases ite2_cases h with ⟨b9, h⟩ | ⟨b9, h⟩
      · refine AW.cond_t rfl b9 ?_
        refine AW.seq (AW.rA ⟨[(4, (vc (.bool false)))], []⟩ (Tt ∧ Tt) [] [4] [] ⟨tr, tr⟩ (thenQ_normal ?_))
        refine AW.ret ?_
        refine thenQ_ret ?_
        replace h := some_eq h
        subst h
        exact ⟨.inr rfl, retOK_of [(.one (.c (.bool false)))] (by kernel_rfl) ⟨⟨rfl, tr⟩, tr⟩ (of_decide_eq_true (by kernel_rfl))⟩
      · refine AW.cond_f rfl b9 ?_
        refine AW.skip ?_
        refine thenQ_normal ?_
        refine AW.seq (AW.rA ⟨[(4, (vc (.bool true)))], []⟩ (Tt ∧ Tt) [] [4] [] ⟨tr, tr⟩ (thenQ_normal ?_))
        refine AW.ret ?_
        replace h := some_eq h
        subst h
        exact ⟨.inr rfl, retOK_of [(.one (.c (.bool true)))] (by kernel_rfl) ⟨⟨rfl, tr⟩, tr⟩ (of_decide_eq_true (by kernel_rfl))⟩

/-! laws.eqRootKey -/
def laws_eqRootKey (K : Nat) (a0 : RootKey) (a1 : RootKey) : Option (Bool) :=
  ite2 ((a0.At != a1.At)) (some false) ((laws_eqVector K a0.Place a1.Place).bind fun v2 => ite2 ((!v2)) (some false) (some true))

theorem ok_laws_eqRootKey (K : Nat) (a0 : RootKey) (a1 : RootKey) (o : (Bool)) (h : laws_eqRootKey K a0 a1 = some o) : CallOK Try.prog 143 [.agg (cs_RootKey a0), .agg (cs_RootKey a1)] [.one (.bool o)] := by
  refine callOK_of_AW Try.func143 rfl (by kernel_rfl) (Nat.le_of_ble_eq_true (by kernel_rfl)) ?_
  intro w0
  unfold laws_eqRootKey at h
  refine AW.seq (AW.rA ⟨[(2, (vp 1 0)), (3, (vp 2 0))], [(1, (.box [(.c (.int .i64 a0.At)), (.c (.flt .f32 a0.Place.X.bits)), (.c (.flt .f32 a0.Place.Y.bits)), (.c (.flt .f32 a0.Place.Z.bits))])), (2, (.box [(.c (.int .i64 a1.At)), (.c (.flt .f32 a1.Place.X.bits)), (.c (.flt .f32 a1.Place.Y.bits)), (.c (.flt .f32 a1.Place.Z.bits))]))]⟩ (Tt ∧ T2 Tt) [.box 1, .box 2] [2, 3] [1, 2] ⟨tr, tr, tr, tr⟩ (thenQ_normal ?_))
  refine AW.seq ?_
  refine AW.seq (AW.rA ⟨[(2, (vp 1 0)), (3, (vp 2 0)), (9, (vc (.bool (a0.At != a1.At))))], [(1, (.box [(.c (.int .i64 a0.At)), (.c (.flt .f32 a0.Place.X.bits)), (.c (.flt .f32 a0.Place.Y.bits)), (.c (.flt .f32 a0.Place.Z.bits))])), (2, (.box [(.c (.int .i64 a1.At)), (.c (.flt .f32 a1.Place.X.bits)), (.c (.flt .f32 a1.Place.Y.bits)), (.c (.flt .f32 a1.Place.Z.bits))]))]⟩ (Tt ∧ T4 Tt) [] [2, 3, 9] [1, 2] ⟨tr, tr, tr, tr, tr, tr⟩ (thenQ_normal ?_))
  rcases ite2_cases h with ⟨b1, h⟩ | ⟨b1, h⟩
  · refine AW.cond_t rfl b1 ?_
    refine AW.seq (AW.rA ⟨[(4, (vc (.bool false)))], []⟩ (Tt ∧ Tt) [] [4] [] ⟨tr, tr⟩ (thenQ_normal ?_))
    refine AW.ret ?_
    refine thenQ_ret ?_
    replace h := some_eq h
    subst h
    exact ⟨.inr rfl, retOK_of [(.one (.c (.bool false)))] (by kernel_rfl) ⟨⟨rfl, tr⟩, tr⟩ (of_decide_eq_true (by kernel_rfl))⟩
  · refine AW.cond_f rfl b1 ?_
    refine AW.skip ?_
    refine thenQ_normal ?_
    refine AW.seq ?_
    refine AW.seq ?_
    obtain ⟨v2, e3, h⟩ := bind_some h
    refine AW.rA ⟨[(15, (vc (.bool (!v2))))], []⟩ (T4 (((((Eqc (.flt .f32 a0.Place.X.bits)) ∧ (Eqc (.flt .f32 a0.Place.Y.bits)) ∧ (Eqc (.flt .f32 a0.Place.Z.bits)) ∧ Tt) ∧ ((Eqc (.flt .f32 a1.Place.X.bits)) ∧ (Eqc (.flt .f32 a1.Place.Y.bits)) ∧ (Eqc (.flt .f32 a1.Place.Z.bits)) ∧ Tt) ∧ Tt) ∧ CallOK Try.prog 186 [.agg (cs_Vector a0.Place), .agg (cs_Vector a1.Place)] [.one (.bool v2)]) ∧ Tt ∧ Tt)) [.no, .no, .no, .no, .call [.agg (cs_Vector a0.Place), .agg (cs_Vector a1.Place)] [.one (.bool v2)] [[.view]]] [15] [] ⟨tr, tr, tr, tr, ⟨⟨⟨rfl, rfl, rfl, tr⟩, ⟨rfl, rfl, rfl, tr⟩, tr⟩, ok_laws_eqVector K a0.Place a1.Place v2 e3⟩, tr, tr⟩ ?_
    refine thenQ_normal ?_
    rcases ite2_cases h with ⟨b4, h⟩ | ⟨b4, h⟩
    · refine AW.cond_t rfl b4 ?_
      refine AW.seq (AW.rA ⟨[(4, (vc (.bool false)))], []⟩ (Tt ∧ Tt) [] [4] [] ⟨tr, tr⟩ (thenQ_normal ?_))
      refine AW.ret ?_
      refine thenQ_ret ?_
      replace h := some_eq h
      subst h
      exact ⟨.inr rfl, retOK_of [(.one (.c (.bool false)))] (by kernel_rfl) ⟨⟨rfl, tr⟩, tr⟩ (of_decide_eq_true (by kernel_rfl))⟩
    · refine AW.cond_f rfl b4 ?_
      refine AW.skip ?_
      refine thenQ_normal ?_
      refine AW.seq (AW.rA ⟨[(4, (vc (.bool true)))], []⟩ (Tt ∧ Tt) [] [4] [] ⟨tr, tr⟩ (thenQ_normal ?_))
      refine AW.ret ?_
      replace h := some_eq h
      subst h
      exact ⟨.inr rfl, retOK_of [(.one (.c (.bool true)))] (by kernel_rfl) ⟨⟨rfl, tr⟩, tr⟩ (of_decide_eq_true (by kernel_rfl))⟩

/-! laws.eqRootKeyS -/
def laws_eqRootKeyS_l1 (K : Nat) (a0 : (List RootKey)) (a1 : (List RootKey)) : Nat → Int → Option (Bool)
  | 0, _ => none
  | k + 1, x3 => ite2 ((decide (x3 < (a0.length : Int)))) (chk (0 ≤ x3 ∧ x3 < (a0.length : Int)) (chk (0 ≤ x3 ∧ x3 < (a1.length : Int)) ((laws_eqRootKey K (a0.getD x3.toNat default) (a1.getD x3.toNat default)).bind fun v7 => ite2 ((!v7)) (some false) (laws_eqRootKeyS_l1 K a0 a1 k (IntKind.i64.wrap (x3 + (1 : Int))))))) (some true)

def laws_eqRootKeyS (K : Nat) (a0 : (List RootKey)) (a1 : (List RootKey)) : Option (Bool) :=
  ite2 (((a0.length : Int) != (a1.length : Int))) (some false) (laws_eqRootKeyS_l1 K a0 a1 K (0 : Int))

theorem ok_laws_eqRootKeyS (K : Nat) (a0 : (List RootKey)) (a1 : (List RootKey)) (o : (Bool)) (h : laws_eqRootKeyS K a0 a1 = some o) : CallOK Try.prog 69 [.one (sl 4 cs_RootKey a0), .one (sl 4 cs_RootKey a1)] [.one (.bool o)] := by
  refine callOK_of_AW Try.func69 rfl (by kernel_rfl) (Nat.le_of_ble_eq_true (by kernel_rfl)) ?_
  intro w0
  unfold laws_eqRootKeyS at h
  refine AW.seq (AW.rA ⟨[(0, (vc (sl 4 cs_RootKey a0))), (1, (vc (sl 4 cs_RootKey a1)))], []⟩ (Tt ∧ Tt) [] [0, 1] [] ⟨tr, tr⟩ (thenQ_normal ?_))
  refine AW.seq ?_
  refine AW.seq (AW.rA ⟨[(0, (vc (sl 4 cs_RootKey a0))), (1, (vc (sl 4 cs_RootKey a1))), (10, (vc (.bool ((a0.length : Int) != (a1.length : Int)))))], []⟩ (Tt ∧ T4 Tt) [] [0, 1, 10] [] ⟨tr, tr, tr, tr, tr, tr⟩ (thenQ_normal ?_))
  rcases ite2_cases h with ⟨b1, h⟩ | ⟨b1, h⟩
  · refine AW.cond_t rfl b1 ?_
    refine AW.seq (AW.rA ⟨[(4, (vc (.bool false)))], []⟩ (Tt ∧ Tt) [] [4] [] ⟨tr, tr⟩ (thenQ_normal ?_))
    refine AW.ret ?_
    refine thenQ_ret ?_
    replace h := some_eq h
    subst h
    exact ⟨.inr rfl, retOK_of [(.one (.c (.bool false)))] (by kernel_rfl) ⟨⟨rfl, tr⟩, tr⟩ (of_decide_eq_true (by kernel_rfl))⟩
  · refine AW.cond_f rfl b1 ?_
    refine AW.skip ?_
    refine thenQ_normal ?_
    refine AW.seq ?_
    refine AW.seq (AW.rA ⟨[(0, (vc (sl 4 cs_RootKey a0))), (1, (vc (sl 4 cs_RootKey a1))), (5, (vc (.int .i64 (0 : Int))))], []⟩ (Tt ∧ Tt) [] [0, 1, 5] [] ⟨tr, tr⟩ (thenQ_normal ?_))
    refine AW.block ?_
    refine AW.loopQ (σ := Nat × Int) (fun p => ⟨[(0, (vc (sl 4 cs_RootKey a0))), (1, (vc (sl 4 cs_RootKey a1))), (5, (vc (.int .i64 p.2)))], []⟩) (fun p => laws_eqRootKeyS_l1 K a0 a1 p.1 p.2 = some o) (fun p => p.1) (K, (0 : Int)) h ?_
    clear h
    rintro ⟨k, x3⟩ h
    replace h : laws_eqRootKeyS_l1 K a0 a1 k x3 = some o := h
    show AW _ _ (⟨[(0, (vc (sl 4 cs_RootKey a0))), (1, (vc (sl 4 cs_RootKey a1))), (5, (vc (.int .i64 x3)))], []⟩ : St) _
    obtain _ | k := k
    · rw [laws_eqRootKeyS_l1] at h; cases h
    rw [laws_eqRootKeyS_l1] at h
    refine AW.seq ?_
    refine AW.seq (AW.rA ⟨[(0, (vc (sl 4 cs_RootKey a0))), (1, (vc (sl 4 cs_RootKey a1))), (5, (vc (.int .i64 x3))), (14, (vc (.bool (decide (x3 < (a0.length : Int))))))], []⟩ (T4 Tt) [] [0, 1, 5, 14] [] ⟨tr, tr, tr, tr, tr⟩ (thenQ_normal ?_))
    rcases ite2_cases h with ⟨b4, h⟩ | ⟨b4, h⟩
    · refine AW.cond_t rfl b4 ?_
      refine AW.skip ?_
      refine thenQ_normal ?_
      refine AW.seq ?_
      refine AW.block ?_
      refine AW.seq ?_
      obtain ⟨c5, h⟩ := chk_some h
      obtain ⟨c6, h⟩ := chk_some h
      obtain ⟨v7, e8, h⟩ := bind_some h
      refine AW.dA ⟨[(0, (vc (sl 4 cs_RootKey a0))), (1, (vc (sl 4 cs_RootKey a1))), (5, (vc (.int .i64 x3))), (26, (vc (.bool (!v7))))], []⟩ ((T2 ((0 ≤ x3 ∧ x3 < (a0.length : Int)) ∧ Tt ∧ T2 ((0 ≤ x3 ∧ x3 < (a1.length : Int)) ∧ Tt ∧ ((((Eqc (.int .i64 ((a0.getD x3.toNat default).At))) ∧ (Eqc (.flt .f32 (((a0.getD x3.toNat default).Place).X).bits)) ∧ (Eqc (.flt .f32 (((a0.getD x3.toNat default).Place).Y).bits)) ∧ (Eqc (.flt .f32 (((a0.getD x3.toNat default).Place).Z).bits)) ∧ Tt) ∧ ((Eqc (.int .i64 ((a1.getD x3.toNat default).At))) ∧ (Eqc (.flt .f32 (((a1.getD x3.toNat default).Place).X).bits)) ∧ (Eqc (.flt .f32 (((a1.getD x3.toNat default).Place).Y).bits)) ∧ (Eqc (.flt .f32 (((a1.getD x3.toNat default).Place).Z).bits)) ∧ Tt) ∧ Tt) ∧ CallOK Try.prog 143 [.agg (cs_RootKey (a0.getD x3.toNat default)), .agg (cs_RootKey (a1.getD x3.toNat default))] [.one (.bool v7)]) ∧ Tt ∧ Tt))) ∧ (Tt)) 10 [.no, .no, .no, .no, .no, .no, .no, .no, .call [.agg (cs_RootKey (a0.getD x3.toNat default)), .agg (cs_RootKey (a1.getD x3.toNat default))] [.one (.bool v7)] [[.view]]] [0, 1, 5, 26] [] ⟨⟨tr, tr, c5, tr, tr, tr, c6, tr, ⟨⟨⟨rfl, rfl, rfl, rfl, tr⟩, ⟨rfl, rfl, rfl, rfl, tr⟩, tr⟩, ok_laws_eqRootKey K (a0.getD x3.toNat default) (a1.getD x3.toNat default) v7 e8⟩, tr, tr⟩, tr⟩ ?_
      refine thenQ_normal ?_
      rcases ite2_cases h with ⟨b9, h⟩ | ⟨b9, h⟩
      · refine AW.cond_t rfl b9 ?_
        refine AW.seq (AW.rA ⟨[(4, (vc (.bool false)))], []⟩ (Tt ∧ Tt) [] [4] [] ⟨tr, tr⟩ (thenQ_normal ?_))
        refine AW.ret ?_
        refine blockQ_ret ?_
        refine thenQ_ret ?_
        refine loopQ_ret ?_
        refine blockQ_ret ?_
        refine thenQ_ret ?_
        replace h := some_eq h
        subst h
        exact ⟨.inr rfl, retOK_of [(.one (.c (.bool false)))] (by kernel_rfl) ⟨⟨rfl, tr⟩, tr⟩ (of_decide_eq_true (by kernel_rfl))⟩
      · refine AW.cond_f rfl b9 ?_
        refine AW.skip ?_
        refine blockQ_normal ?_
        refine thenQ_normal ?_
        refine AW.rA ⟨[(0, (vc (sl 4 cs_RootKey a0))), (1, (vc (sl 4 cs_RootKey a1))), (5, (vc (.int .i64 (IntKind.i64.wrap (x3 + (1 : Int))))))], []⟩ (Tt ∧ T2 Tt) [] [0, 1, 5] [] ⟨tr, tr, tr, tr⟩ ?_
        exact loopQ_normal (k, (IntKind.i64.wrap (x3 + (1 : Int)))) h (Nat.lt_succ_self k) (Sub.keep [0, 1, 5] [] (by kernel_rfl) (by kernel_rfl))
    · refine AW.cond_f rfl b4 ?_
      refine AW.exit ?_
      refine thenQ_exit ?_
      refine loopQ_exit ?_
      refine blockQ_exit ?_
      refine thenQ_normal ?_
      refine AW.seq (AW.rA ⟨[(4, (vc (.bool true)))], []⟩ (Tt ∧ Tt) [] [4] [] ⟨tr, tr⟩ (thenQ_normal ?_))
      refine AW.ret ?_
      replace h := some_eq h
      subst h
      exact ⟨.inr rfl, retOK_of [(.one (.c (.bool true)))] (by kernel_rfl) ⟨⟨rfl, tr⟩, tr⟩ (of_decide_eq_true (by kernel_rfl))⟩

/-! laws.eqClip -/
def laws_eqClip (K : Nat) (a0 : Clip) (a1 : Clip) : Option (Bool) :=
  ite2 ((a0.Length != a1.Length)) (some false) (ite2 ((a0.Kind != a1.Kind)) (some false) ((laws_eqKeySS K a0.Tracks a1.Tracks).bind fun v3 => ite2 ((!v3)) (some false) ((laws_eqRootKeyS K a0.Roots a1.Roots).bind fun v6 => ite2 ((!v6)) (some false) (some true))))

theorem ok_laws_eqClip (K : Nat) (a0 : Clip) (a1 : Clip) (o : (Bool)) (h : laws_eqClip K a0 a1 = some o) : CallOK Try.prog 15 [.agg (cs_Clip a0), .agg (cs_Clip a1)] [.one (.bool o)] := by
  refine callOK_of_AW Try.func15 rfl (by kernel_rfl) (Nat.le_of_ble_eq_true (by kernel_rfl)) ?_
  intro w0
  unfold laws_eqClip at h
  refine AW.seq (AW.rA ⟨[(2, (vp 1 0)), (3, (vp 2 0))], [(1, (.box [(.c (.int .i64 a0.Length)), (.c (.int .i64 a0.Kind)), (.c (sl 1 (csL 5 cs_Key) a0.Tracks)), (.c (sl 4 cs_RootKey a0.Roots))])), (2, (.box [(.c (.int .i64 a1.Length)), (.c (.int .i64 a1.Kind)), (.c (sl 1 (csL 5 cs_Key) a1.Tracks)), (.c (sl 4 cs_RootKey a1.Roots))]))]⟩ (Tt ∧ T2 Tt) [.box 1, .box 2] [2, 3] [1, 2] ⟨tr, tr, tr, tr⟩ (thenQ_normal ?_))
  refine AW.seq ?_
  refine AW.seq (AW.rA ⟨[(2, (vp 1 0)), (3, (vp 2 0)), (9, (vc (.bool (a0.Length != a1.Length))))], [(1, (.box [(.c (.int .i64 a0.Length)), (.c (.int .i64 a0.Kind)), (.c (sl 1 (csL 5 cs_Key) a0.Tracks)), (.c (sl 4 cs_RootKey a0.Roots))])), (2, (.box [(.c (.int .i64 a1.Length)), (.c (.int .i64 a1.Kind)), (.c (sl 1 (csL 5 cs_Key) a1.Tracks)), (.c (sl 4 cs_RootKey a1.Roots))]))]⟩ (Tt ∧ T4 Tt) [] [2, 3, 9] [1, 2] ⟨tr, tr, tr, tr, tr, tr⟩ (thenQ_normal ?_))
  rcases ite2_cases h with ⟨b1, h⟩ | ⟨b1, h⟩
  · refine AW.cond_t rfl b1 ?_
    refine AW.seq (AW.rA ⟨[(4, (vc (.bool false)))], []⟩ (Tt ∧ Tt) [] [4] [] ⟨tr, tr⟩ (thenQ_normal ?_))
    refine AW.ret ?_
    refine thenQ_ret ?_
    replace h := some_eq h
    subst h
    exact ⟨.inr rfl, retOK_of [(.one (.c (.bool false)))] (by kernel_rfl) ⟨⟨rfl, tr⟩, tr⟩ (of_decide_eq_true (by kernel_rfl))⟩
  · refine AW.cond_f rfl b1 ?_
    refine AW.skip ?_
    refine thenQ_normal ?_
    refine AW.seq ?_
    refine AW.seq (AW.rA ⟨[(2, (vp 1 0)), (3, (vp 2 0)), (14, (vc (.bool (a0.Kind != a1.Kind))))], [(1, (.box [(.c (.int .i64 a0.Length)), (.c (.int .i64 a0.Kind)), (.c (sl 1 (csL 5 cs_Key) a0.Tracks)), (.c (sl 4 cs_RootKey a0.Roots))])), (2, (.box [(.c (.int .i64 a1.Length)), (.c (.int .i64 a1.Kind)), (.c (sl 1 (csL 5 cs_Key) a1.Tracks)), (.c (sl 4 cs_RootKey a1.Roots))]))]⟩ (Tt ∧ T4 Tt) [] [2, 3, 14] [1, 2] ⟨tr, tr, tr, tr, tr, tr⟩ (thenQ_normal ?_))
    rcases ite2_cases h with ⟨b2, h⟩ | ⟨b2, h⟩
    · refine AW.cond_t rfl b2 ?_
      refine AW.seq (AW.rA ⟨[(4, (vc (.bool false)))], []⟩ (Tt ∧ Tt) [] [4] [] ⟨tr, tr⟩ (thenQ_normal ?_))
      refine AW.ret ?_
      refine thenQ_ret ?_
      replace h := some_eq h
      subst h
      exact ⟨.inr rfl, retOK_of [(.one (.c (.bool false)))] (by kernel_rfl) ⟨⟨rfl, tr⟩, tr⟩ (of_decide_eq_true (by kernel_rfl))⟩
    · refine AW.cond_f rfl b2 ?_
      refine AW.skip ?_
      refine thenQ_normal ?_
      refine AW.seq ?_
      refine AW.seq ?_
      obtain ⟨v3, e4, h⟩ := bind_some h
      refine AW.rA ⟨[(2, (vp 1 0)), (3, (vp 2 0)), (20, (vc (.bool (!v3))))], [(1, (.box [(.c (.int .i64 a0.Length)), (.c (.int .i64 a0.Kind)), (.c (sl 1 (csL 5 cs_Key) a0.Tracks)), (.c (sl 4 cs_RootKey a0.Roots))])), (2, (.box [(.c (.int .i64 a1.Length)), (.c (.int .i64 a1.Kind)), (.c (sl 1 (csL 5 cs_Key) a1.Tracks)), (.c (sl 4 cs_RootKey a1.Roots))]))]⟩ (T4 ((((Eqc (sl 1 (csL 5 cs_Key) a0.Tracks)) ∧ (Eqc (sl 1 (csL 5 cs_Key) a1.Tracks)) ∧ Tt) ∧ CallOK Try.prog 68 [.one (sl 1 (csL 5 cs_Key) a0.Tracks), .one (sl 1 (csL 5 cs_Key) a1.Tracks)] [.one (.bool v3)]) ∧ Tt ∧ Tt)) [.no, .no, .no, .no, .call [.one (sl 1 (csL 5 cs_Key) a0.Tracks), .one (sl 1 (csL 5 cs_Key) a1.Tracks)] [.one (.bool v3)] [[.view]]] [2, 3, 20] [1, 2] ⟨tr, tr, tr, tr, ⟨⟨rfl, rfl, tr⟩, ok_laws_eqKeySS K a0.Tracks a1.Tracks v3 e4⟩, tr, tr⟩ ?_
      refine thenQ_normal ?_
      rcases ite2_cases h with ⟨b5, h⟩ | ⟨b5, h⟩
      · refine AW.cond_t rfl b5 ?_
        refine AW.seq (AW.rA ⟨[(4, (vc (.bool false)))], []⟩ (Tt ∧ Tt) [] [4] [] ⟨tr, tr⟩ (thenQ_normal ?_))
        refine AW.ret ?_
        refine thenQ_ret ?_
        replace h := some_eq h
        subst h
        exact ⟨.inr rfl, retOK_of [(.one (.c (.bool false)))] (by kernel_rfl) ⟨⟨rfl, tr⟩, tr⟩ (of_decide_eq_true (by kernel_rfl))⟩
      · refine AW.cond_f rfl b5 ?_
        refine AW.skip ?_
        refine thenQ_normal ?_
        refine AW.seq ?_
        refine AW.seq ?_
        obtain ⟨v6, e7, h⟩ := bind_some h
        refine AW.rA ⟨[(26, (vc (.bool (!v6))))], []⟩ (T4 ((((Eqc (sl 4 cs_RootKey a0.Roots)) ∧ (Eqc (sl 4 cs_RootKey a1.Roots)) ∧ Tt) ∧ CallOK Try.prog 69 [.one (sl 4 cs_RootKey a0.Roots), .one (sl 4 cs_RootKey a1.Roots)] [.one (.bool v6)]) ∧ Tt ∧ Tt)) [.no, .no, .no, .no, .call [.one (sl 4 cs_RootKey a0.Roots), .one (sl 4 cs_RootKey a1.Roots)] [.one (.bool v6)] [[.view]]] [26] [] ⟨tr, tr, tr, tr, ⟨⟨rfl, rfl, tr⟩, ok_laws_eqRootKeyS K a0.Roots a1.Roots v6 e7⟩, tr, tr⟩ ?_
        refine thenQ_normal ?_
        rcases ite2_cases h with ⟨b8, h⟩ | ⟨b8, h⟩
        · refine AW.cond_t rfl b8 ?_
          refine AW.seq (AW.rA ⟨[(4, (vc (.bool false)))], []⟩ (Tt ∧ Tt) [] [4] [] ⟨tr, tr⟩ (thenQ_normal ?_))
          refine AW.ret ?_
          refine thenQ_ret ?_
          replace h := some_eq h
          subst h
          exact ⟨.inr rfl, retOK_of [(.one (.c (.bool false)))] (by kernel_rfl) ⟨⟨rfl, tr⟩, tr⟩ (of_decide_eq_true (by kernel_rfl))⟩
        · refine AW.cond_f rfl b8 ?_
          refine AW.skip ?_
          refine thenQ_normal ?_
          refine AW.seq (AW.rA ⟨[(4, (vc (.bool true)))], []⟩ (Tt ∧ Tt) [] [4] [] ⟨tr, tr⟩ (thenQ_normal ?_))
          refine AW.ret ?_
          replace h := some_eq h
          subst h
          exact ⟨.inr rfl, retOK_of [(.one (.c (.bool true)))] (by kernel_rfl) ⟨⟨rfl, tr⟩, tr⟩ (of_decide_eq_true (by kernel_rfl))⟩

/-! laws.markKeyS -/
def laws_markKeyS_l1 (K : Nat) (a0 : (List Key)) : Nat → Int → Int → (List Key) → Option (Int × (List Key))
  | 0, _, _, _ => none
  | k + 1, x4, x5, x6 => ite2 ((decide (x5 < (x6.length : Int)))) (chk (0 ≤ x5 ∧ x5 < (x6.length : Int)) ((some (x6.set x5.toNat (Key.mk x4 ((x6.getD x5.toNat default).Turn)))).bind fun y9 => chk (0 ≤ x5 ∧ x5 < (y9.length : Int)) ((some (y9.set x5.toNat (Key.mk ((y9.getD x5.toNat default).At) (Turn.mk (Fl.ofInt .f32 (IntKind.i64.wrap (x4 + (1 : Int)))) (((y9.getD x5.toNat default).Turn).X) (((y9.getD x5.toNat default).Turn).Y) (((y9.getD x5.toNat default).Turn).Z))))).bind fun y12 => chk (0 ≤ x5 ∧ x5 < (y12.length : Int)) ((some (y12.set x5.toNat (Key.mk ((y12.getD x5.toNat default).At) (Turn.mk (((y12.getD x5.toNat default).Turn).W) (Fl.ofInt .f32 (IntKind.i64.wrap ((IntKind.i64.wrap (x4 + (1 : Int))) + (1 : Int)))) (((y12.getD x5.toNat default).Turn).Y) (((y12.getD x5.toNat default).Turn).Z))))).bind fun y15 => chk (0 ≤ x5 ∧ x5 < (y15.length : Int)) ((some (y15.set x5.toNat (Key.mk ((y15.getD x5.toNat default).At) (Turn.mk (((y15.getD x5.toNat default).Turn).W) (((y15.getD x5.toNat default).Turn).X) (Fl.ofInt .f32 (IntKind.i64.wrap ((IntKind.i64.wrap ((IntKind.i64.wrap (x4 + (1 : Int))) + (1 : Int))) + (1 : Int)))) (((y15.getD x5.toNat default).Turn).Z))))).bind fun y18 => chk (0 ≤ x5 ∧ x5 < (y18.length : Int)) ((some (y18.set x5.toNat (Key.mk ((y18.getD x5.toNat default).At) (Turn.mk (((y18.getD x5.toNat default).Turn).W) (((y18.getD x5.toNat default).Turn).X) (((y18.getD x5.toNat default).Turn).Y) (Fl.ofInt .f32 (IntKind.i64.wrap ((IntKind.i64.wrap ((IntKind.i64.wrap ((IntKind.i64.wrap (x4 + (1 : Int))) + (1 : Int))) + (1 : Int))) + (1 : Int)))))))).bind fun y21 => laws_markKeyS_l1 K a0 k (IntKind.i64.wrap ((IntKind.i64.wrap ((IntKind.i64.wrap ((IntKind.i64.wrap ((IntKind.i64.wrap (x4 + (1 : Int))) + (1 : Int))) + (1 : Int))) + (1 : Int))) + (1 : Int))) (IntKind.i64.wrap (x5 + (1 : Int))) y21)))))) (chk (x6.length = a0.length) (some (x4, x6)))

def laws_markKeyS (K : Nat) (a0 : (List Key)) (a1 : Int) : Option (Int × (List Key)) :=
  laws_markKeyS_l1 K a0 K a1 (0 : Int) a0

theorem ok_laws_markKeyS (K : Nat) (a0 : (List Key)) (a1 : Int) (o : (Int × (List Key))) (h : laws_markKeyS K a0 a1 = some o) : MutOK Try.prog 144 [(.one (.mu (sl 5 cs_Key a0) (sl 5 cs_Key o.2))), (.one (.ro (.int .i64 a1)))] [.one (.int .i64 o.1)] := by
  refine mutOK_of_AW 1 Try.func144 rfl (by kernel_rfl) (Nat.le_of_ble_eq_true (by kernel_rfl)) (by kernel_rfl) (by kernel_rfl) ?_
  intro w0 K0 v0 s0
  unfold laws_markKeyS at h
  refine AW.seq (AW.rA ⟨[(0, (.v (.one (.arr 0)))), (1, (vc (.int .i64 a1)))], [(0, (.arr true a0.length 5 (gl cs_Key a0)))]⟩ (Tt ∧ Tt) [] [0, 1] [0] ⟨tr, tr⟩ (thenQ_normal ?_))
  refine AW.seq ?_
  refine AW.seq (AW.rA ⟨[(0, (.v (.one (.arr 0)))), (1, (vc (.int .i64 a1))), (5, (vc (.int .i64 (0 : Int))))], [(0, (.arr true a0.length 5 (gl cs_Key a0)))]⟩ (Tt ∧ Tt) [] [0, 1, 5] [0] ⟨tr, tr⟩ (thenQ_normal ?_))
  refine AW.block ?_
  refine AW.loopQ (σ := Nat × Int × Int × (List Key)) (fun p => ⟨[(0, (.v (.one (.arr 0)))), (1, (vc (.int .i64 p.2.1))), (5, (vc (.int .i64 p.2.2.1)))], [(0, (.arr true p.2.2.2.length 5 (gl cs_Key p.2.2.2)))]⟩) (fun p => laws_markKeyS_l1 K a0 p.1 p.2.1 p.2.2.1 p.2.2.2 = some o) (fun p => p.1) (K, a1, (0 : Int), a0) h ?_
  clear h
  rintro ⟨k, x4, x5, x6⟩ h
  replace h : laws_markKeyS_l1 K a0 k x4 x5 x6 = some o := h
  show AW _ _ (⟨[(0, (.v (.one (.arr 0)))), (1, (vc (.int .i64 x4))), (5, (vc (.int .i64 x5)))], [(0, (.arr true x6.length 5 (gl cs_Key x6)))]⟩ : St) _
  obtain _ | k := k
  · rw [laws_markKeyS_l1] at h; cases h
  rw [laws_markKeyS_l1] at h
  refine AW.seq ?_
  refine AW.seq (AW.rA ⟨[(0, (.v (.one (.arr 0)))), (1, (vc (.int .i64 x4))), (5, (vc (.int .i64 x5))), (9, (vc (.bool (decide (x5 < (x6.length : Int))))))], [(0, (.arr true x6.length 5 (gl cs_Key x6)))]⟩ (T4 Tt) [] [0, 1, 5, 9] [0] ⟨tr, tr, tr, tr, tr⟩ (thenQ_normal ?_))
  rcases ite2_cases h with ⟨b7, h⟩ | ⟨b7, h⟩
  · refine AW.cond_t rfl b7 ?_
    refine AW.skip ?_
    refine thenQ_normal ?_
    refine AW.seq ?_
    refine AW.block ?_
    refine AW.seq ?_
    obtain ⟨c8, h⟩ := chk_some h
    obtain ⟨y9, e10, h⟩ := bind_some h
    refine AW.rA ⟨[(0, (.v (.one (.arr 0)))), (1, (vc (.int .i64 x4))), (5, (vc (.int .i64 x5)))], [(0, (.arr true y9.length 5 (gl cs_Key y9)))]⟩ (Tt ∧ T2 ((0 ≤ x5 ∧ x5 < (x6.length : Int)) ∧ Tt ∧ (y9.length = x6.length ∧ SetOb x6.length 5 x5.toNat 0 1 (gl cs_Key x6) (gl cs_Key y9) ∧ ((List.range 1).map fun j => (cs_Key (Key.mk x4 ((x6.getD x5.toNat default).Turn))).getD (0 + j) .nilptr) = ((List.range 1).map fun j => gl cs_Key y9 x5.toNat (0 + j)) ∧ ((((.int .i64 x4) : C) = (.int .i64 x4) ∧ Tt) ∧ Tt) ∧ (true = true → ∀ j, j < 1 → isSeq (gl cs_Key x6 x5.toNat (0 + j)) = false ∧ isSeq (gl cs_Key y9 x5.toNat (0 + j)) = false)) ∧ Tt)) [.no, .no, .no, .no, .no, .set y9.length (gl cs_Key y9) ((List.range 1).map fun j => (cs_Key (Key.mk x4 ((x6.getD x5.toNat default).Turn))).getD (0 + j) .nilptr)] [0, 1, 5] [0] ⟨tr, tr, tr, c8, tr, (letP (some_eq e10) (fun z => (z.length = x6.length ∧ SetOb x6.length 5 x5.toNat 0 1 (gl cs_Key x6) (gl cs_Key z) ∧ ((List.range 1).map fun j => (cs_Key (Key.mk x4 ((x6.getD x5.toNat default).Turn))).getD (0 + j) .nilptr) = ((List.range 1).map fun j => gl cs_Key z x5.toNat (0 + j)) ∧ ((((.int .i64 x4) : C) = (.int .i64 x4) ∧ Tt) ∧ Tt) ∧ (true = true → ∀ j, j < 1 → isSeq (gl cs_Key x6 x5.toNat (0 + j)) = false ∧ isSeq (gl cs_Key z x5.toNat (0 + j)) = false))) ⟨List.length_set, gl_setp (fun j hj hn => match j, hj, hn with | 0, _, hn => absurd ⟨by decide, by decide⟩ hn | 1, _, _ => rfl | 2, _, _ => rfl | 3, _, _ => rfl | 4, _, _ => rfl) (lt_of_bound c8), (gl_atp (lt_of_bound c8)).symm, ⟨⟨rfl, tr⟩, tr⟩, (fun _ j hj => match j, hj with | 0, _ => ⟨rfl, rfl⟩)⟩), tr⟩ ?_
    refine thenQ_normal ?_
    refine AW.seq (AW.rA ⟨[(0, (.v (.one (.arr 0)))), (1, (vc (.int .i64 (IntKind.i64.wrap (x4 + (1 : Int)))))), (5, (vc (.int .i64 x5)))], [(0, (.arr true y9.length 5 (gl cs_Key y9)))]⟩ (Tt ∧ T2 Tt) [] [0, 1, 5] [0] ⟨tr, tr, tr, tr⟩ (thenQ_normal ?_))
    refine AW.seq ?_
    obtain ⟨c11, h⟩ := chk_some h
    obtain ⟨y12, e13, h⟩ := bind_some h
    refine AW.rA ⟨[(0, (.v (.one (.arr 0)))), (1, (vc (.int .i64 (IntKind.i64.wrap (x4 + (1 : Int)))))), (5, (vc (.int .i64 x5)))], [(0, (.arr true y12.length 5 (gl cs_Key y12)))]⟩ (T4 ((0 ≤ x5 ∧ x5 < (y9.length : Int)) ∧ T2 ((y12.length = y9.length ∧ SetOb y9.length 5 x5.toNat 1 1 (gl cs_Key y9) (gl cs_Key y12) ∧ ((List.range 1).map fun j => (cs_Key (Key.mk ((y9.getD x5.toNat default).At) (Turn.mk (Fl.ofInt .f32 (IntKind.i64.wrap (x4 + (1 : Int)))) (((y9.getD x5.toNat default).Turn).X) (((y9.getD x5.toNat default).Turn).Y) (((y9.getD x5.toNat default).Turn).Z)))).getD (1 + j) .nilptr) = ((List.range 1).map fun j => gl cs_Key y12 x5.toNat (1 + j)) ∧ ((((.flt .f32 (Fl.ofInt .f32 (IntKind.i64.wrap (x4 + (1 : Int)))).bits) : C) = (.flt .f32 (Fl.ofInt .f32 (IntKind.i64.wrap (x4 + (1 : Int)))).bits) ∧ Tt) ∧ Tt) ∧ (true = true → ∀ j, j < 1 → isSeq (gl cs_Key y9 x5.toNat (1 + j)) = false ∧ isSeq (gl cs_Key y12 x5.toNat (1 + j)) = false)) ∧ Tt))) [.no, .no, .no, .no, .no, .no, .no, .set y12.length (gl cs_Key y12) ((List.range 1).map fun j => (cs_Key (Key.mk ((y9.getD x5.toNat default).At) (Turn.mk (Fl.ofInt .f32 (IntKind.i64.wrap (x4 + (1 : Int)))) (((y9.getD x5.toNat default).Turn).X) (((y9.getD x5.toNat default).Turn).Y) (((y9.getD x5.toNat default).Turn).Z)))).getD (1 + j) .nilptr)] [0, 1, 5] [0] ⟨tr, tr, tr, tr, c11, tr, tr, (letP (some_eq e13) (fun z => (z.length = y9.length ∧ SetOb y9.length 5 x5.toNat 1 1 (gl cs_Key y9) (gl cs_Key z) ∧ ((List.range 1).map fun j => (cs_Key (Key.mk ((y9.getD x5.toNat default).At) (Turn.mk (Fl.ofInt .f32 (IntKind.i64.wrap (x4 + (1 : Int)))) (((y9.getD x5.toNat default).Turn).X) (((y9.getD x5.toNat default).Turn).Y) (((y9.getD x5.toNat default).Turn).Z)))).getD (1 + j) .nilptr) = ((List.range 1).map fun j => gl cs_Key z x5.toNat (1 + j)) ∧ ((((.flt .f32 (Fl.ofInt .f32 (IntKind.i64.wrap (x4 + (1 : Int)))).bits) : C) = (.flt .f32 (Fl.ofInt .f32 (IntKind.i64.wrap (x4 + (1 : Int)))).bits) ∧ Tt) ∧ Tt) ∧ (true = true → ∀ j, j < 1 → isSeq (gl cs_Key y9 x5.toNat (1 + j)) = false ∧ isSeq (gl cs_Key z x5.toNat (1 + j)) = false))) ⟨List.length_set, gl_setp (fun j hj hn => match j, hj, hn with | 0, _, _ => rfl | 1, _, hn => absurd ⟨by decide, by decide⟩ hn | 2, _, _ => rfl | 3, _, _ => rfl | 4, _, _ => rfl) (lt_of_bound c11), (gl_atp (lt_of_bound c11)).symm, ⟨⟨rfl, tr⟩, tr⟩, (fun _ j hj => match j, hj with | 0, _ => ⟨rfl, rfl⟩)⟩), tr⟩ ?_
    refine thenQ_normal ?_
    refine AW.seq (AW.rA ⟨[(0, (.v (.one (.arr 0)))), (1, (vc (.int .i64 (IntKind.i64.wrap ((IntKind.i64.wrap (x4 + (1 : Int))) + (1 : Int)))))), (5, (vc (.int .i64 x5)))], [(0, (.arr true y12.length 5 (gl cs_Key y12)))]⟩ (Tt ∧ T2 Tt) [] [0, 1, 5] [0] ⟨tr, tr, tr, tr⟩ (thenQ_normal ?_))
    refine AW.seq ?_
    obtain ⟨c14, h⟩ := chk_some h
    obtain ⟨y15, e16, h⟩ := bind_some h
    refine AW.rA ⟨[(0, (.v (.one (.arr 0)))), (1, (vc (.int .i64 (IntKind.i64.wrap ((IntKind.i64.wrap (x4 + (1 : Int))) + (1 : Int)))))), (5, (vc (.int .i64 x5)))], [(0, (.arr true y15.length 5 (gl cs_Key y15)))]⟩ (T4 ((0 ≤ x5 ∧ x5 < (y12.length : Int)) ∧ T2 ((y15.length = y12.length ∧ SetOb y12.length 5 x5.toNat 2 1 (gl cs_Key y12) (gl cs_Key y15) ∧ ((List.range 1).map fun j => (cs_Key (Key.mk ((y12.getD x5.toNat default).At) (Turn.mk (((y12.getD x5.toNat default).Turn).W) (Fl.ofInt .f32 (IntKind.i64.wrap ((IntKind.i64.wrap (x4 + (1 : Int))) + (1 : Int)))) (((y12.getD x5.toNat default).Turn).Y) (((y12.getD x5.toNat default).Turn).Z)))).getD (2 + j) .nilptr) = ((List.range 1).map fun j => gl cs_Key y15 x5.toNat (2 + j)) ∧ ((((.flt .f32 (Fl.ofInt .f32 (IntKind.i64.wrap ((IntKind.i64.wrap (x4 + (1 : Int))) + (1 : Int)))).bits) : C) = (.flt .f32 (Fl.ofInt .f32 (IntKind.i64.wrap ((IntKind.i64.wrap (x4 + (1 : Int))) + (1 : Int)))).bits) ∧ Tt) ∧ Tt) ∧ (true = true → ∀ j, j < 1 → isSeq (gl cs_Key y12 x5.toNat (2 + j)) = false ∧ isSeq (gl cs_Key y15 x5.toNat (2 + j)) = false)) ∧ Tt))) [.no, .no, .no, .no, .no, .no, .no, .set y15.length (gl cs_Key y15) ((List.range 1).map fun j => (cs_Key (Key.mk ((y12.getD x5.toNat default).At) (Turn.mk (((y12.getD x5.toNat default).Turn).W) (Fl.ofInt .f32 (IntKind.i64.wrap ((IntKind.i64.wrap (x4 + (1 : Int))) + (1 : Int)))) (((y12.getD x5.toNat default).Turn).Y) (((y12.getD x5.toNat default).Turn).Z)))).getD (2 + j) .nilptr)] [0, 1, 5] [0] ⟨tr, tr, tr, tr, c14, tr, tr, (letP (some_eq e16) (fun z => (z.length = y12.length ∧ SetOb y12.length 5 x5.toNat 2 1 (gl cs_Key y12) (gl cs_Key z) ∧ ((List.range 1).map fun j => (cs_Key (Key.mk ((y12.getD x5.toNat default).At) (Turn.mk (((y12.getD x5.toNat default).Turn).W) (Fl.ofInt .f32 (IntKind.i64.wrap ((IntKind.i64.wrap (x4 + (1 : Int))) + (1 : Int)))) (((y12.getD x5.toNat default).Turn).Y) (((y12.getD x5.toNat default).Turn).Z)))).getD (2 + j) .nilptr) = ((List.range 1).map fun j => gl cs_Key z x5.toNat (2 + j)) ∧ ((((.flt .f32 (Fl.ofInt .f32 (IntKind.i64.wrap ((IntKind.i64.wrap (x4 + (1 : Int))) + (1 : Int)))).bits) : C) = (.flt .f32 (Fl.ofInt .f32 (IntKind.i64.wrap ((IntKind.i64.wrap (x4 + (1 : Int))) + (1 : Int)))).bits) ∧ Tt) ∧ Tt) ∧ (true = true → ∀ j, j < 1 → isSeq (gl cs_Key y12 x5.toNat (2 + j)) = false ∧ isSeq (gl cs_Key z x5.toNat (2 + j)) = false))) ⟨List.length_set, gl_setp (fun j hj hn => match j, hj, hn with | 0, _, _ => rfl | 1, _, _ => rfl | 2, _, hn => absurd ⟨by decide, by decide⟩ hn | 3, _, _ => rfl | 4, _, _ => rfl) (lt_of_bound c14), (gl_atp (lt_of_bound c14)).symm, ⟨⟨rfl, tr⟩, tr⟩, (fun _ j hj => match j, hj with | 0, _ => ⟨rfl, rfl⟩)⟩), tr⟩ ?_
    refine thenQ_normal ?_
    refine AW.seq (AW.rA ⟨[(0, (.v (.one (.arr 0)))), (1, (vc (.int .i64 (IntKind.i64.wrap ((IntKind.i64.wrap ((IntKind.i64.wrap (x4 + (1 : Int))) + (1 : Int))) + (1 : Int)))))), (5, (vc (.int .i64 x5)))], [(0, (.arr true y15.length 5 (gl cs_Key y15)))]⟩ (Tt ∧ T2 Tt) [] [0, 1, 5] [0] ⟨tr, tr, tr, tr⟩ (thenQ_normal ?_))
    refine AW.seq ?_
    obtain ⟨c17, h⟩ := chk_some h
    obtain ⟨y18, e19, h⟩ := bind_some h
    refine AW.rA ⟨[(0, (.v (.one (.arr 0)))), (1, (vc (.int .i64 (IntKind.i64.wrap ((IntKind.i64.wrap ((IntKind.i64.wrap (x4 + (1 : Int))) + (1 : Int))) + (1 : Int)))))), (5, (vc (.int .i64 x5)))], [(0, (.arr true y18.length 5 (gl cs_Key y18)))]⟩ (T4 ((0 ≤ x5 ∧ x5 < (y15.length : Int)) ∧ T2 ((y18.length = y15.length ∧ SetOb y15.length 5 x5.toNat 3 1 (gl cs_Key y15) (gl cs_Key y18) ∧ ((List.range 1).map fun j => (cs_Key (Key.mk ((y15.getD x5.toNat default).At) (Turn.mk (((y15.getD x5.toNat default).Turn).W) (((y15.getD x5.toNat default).Turn).X) (Fl.ofInt .f32 (IntKind.i64.wrap ((IntKind.i64.wrap ((IntKind.i64.wrap (x4 + (1 : Int))) + (1 : Int))) + (1 : Int)))) (((y15.getD x5.toNat default).Turn).Z)))).getD (3 + j) .nilptr) = ((List.range 1).map fun j => gl cs_Key y18 x5.toNat (3 + j)) ∧ ((((.flt .f32 (Fl.ofInt .f32 (IntKind.i64.wrap ((IntKind.i64.wrap ((IntKind.i64.wrap (x4 + (1 : Int))) + (1 : Int))) + (1 : Int)))).bits) : C) = (.flt .f32 (Fl.ofInt .f32 (IntKind.i64.wrap ((IntKind.i64.wrap ((IntKind.i64.wrap (x4 + (1 : Int))) + (1 : Int))) + (1 : Int)))).bits) ∧ Tt) ∧ Tt) ∧ (true = true → ∀ j, j < 1 → isSeq (gl cs_Key y15 x5.toNat (3 + j)) = false ∧ isSeq (gl cs_Key y18 x5.toNat (3 + j)) = false)) ∧ Tt))) [.no, .no, .no, .no, .no, .no, .no, .set y18.length (gl cs_Key y18) ((List.range 1).map fun j => (cs_Key (Key.mk ((y15.getD x5.toNat default).At) (Turn.mk (((y15.getD x5.toNat default).Turn).W) (((y15.getD x5.toNat default).Turn).X) (Fl.ofInt .f32 (IntKind.i64.wrap ((IntKind.i64.wrap ((IntKind.i64.wrap (x4 + (1 : Int))) + (1 : Int))) + (1 : Int)))) (((y15.getD x5.toNat default).Turn).Z)))).getD (3 + j) .nilptr)] [0, 1, 5] [0] ⟨tr, tr, tr, tr, c17, tr, tr, (letP (some_eq e19) (fun z => (z.length = y15.length ∧ SetOb y15.length 5 x5.toNat 3 1 (gl cs_Key y15) (gl cs_Key z) ∧ ((List.range 1).map fun j => (cs_Key (Key.mk ((y15.getD x5.toNat default).At) (Turn.mk (((y15.getD x5.toNat default).Turn).W) (((y15.getD x5.toNat default).Turn).X) (Fl.ofInt .f32 (IntKind.i64.wrap ((IntKind.i64.wrap ((IntKind.i64.wrap (x4 + (1 : Int))) + (1 : Int))) + (1 : Int)))) (((y15.getD x5.toNat default).Turn).Z)))).getD (3 + j) .nilptr) = ((List.range 1).map fun j => gl cs_Key z x5.toNat (3 + j)) ∧ ((((.flt .f32 (Fl.ofInt .f32 (IntKind.i64.wrap ((IntKind.i64.wrap ((IntKind.i64.wrap (x4 + (1 : Int))) + (1 : Int))) + (1 : Int)))).bits) : C) = (.flt .f32 (Fl.ofInt .f32 (IntKind.i64.wrap ((IntKind.i64.wrap ((IntKind.i64.wrap (x4 + (1 : Int))) + (1 : Int))) + (1 : Int)))).bits) ∧ Tt) ∧ Tt) ∧ (true = true → ∀ j, j < 1 → isSeq (gl cs_Key y15 x5.toNat (3 + j)) = false ∧ isSeq (gl cs_Key z x5.toNat (3 + j)) = false))) ⟨List.length_set, gl_setp (fun j hj hn => match j, hj, hn with | 0, _, _ => rfl | 1, _, _ => rfl | 2, _, _ => rfl | 3, _, hn => absurd ⟨by decide, by decide⟩ hn | 4, _, _ => rfl) (lt_of_bound c17), (gl_atp (lt_of_bound c17)).symm, ⟨⟨rfl, tr⟩, tr⟩, (fun _ j hj => match j, hj with | 0, _ => ⟨rfl, rfl⟩)⟩), tr⟩ ?_
    refine thenQ_normal ?_
    refine AW.seq (AW.rA ⟨[(0, (.v (.one (.arr 0)))), (1, (vc (.int .i64 (IntKind.i64.wrap ((IntKind.i64.wrap ((IntKind.i64.wrap ((IntKind.i64.wrap (x4 + (1 : Int))) + (1 : Int))) + (1 : Int))) + (1 : Int)))))), (5, (vc (.int .i64 x5)))], [(0, (.arr true y18.length 5 (gl cs_Key y18)))]⟩ (Tt ∧ T2 Tt) [] [0, 1, 5] [0] ⟨tr, tr, tr, tr⟩ (thenQ_normal ?_))
    refine AW.seq ?_
    obtain ⟨c20, h⟩ := chk_some h
    obtain ⟨y21, e22, h⟩ := bind_some h
    refine AW.rA ⟨[(0, (.v (.one (.arr 0)))), (1, (vc (.int .i64 (IntKind.i64.wrap ((IntKind.i64.wrap ((IntKind.i64.wrap ((IntKind.i64.wrap (x4 + (1 : Int))) + (1 : Int))) + (1 : Int))) + (1 : Int)))))), (5, (vc (.int .i64 x5)))], [(0, (.arr true y21.length 5 (gl cs_Key y21)))]⟩ (T4 ((0 ≤ x5 ∧ x5 < (y18.length : Int)) ∧ T2 ((y21.length = y18.length ∧ SetOb y18.length 5 x5.toNat 4 1 (gl cs_Key y18) (gl cs_Key y21) ∧ ((List.range 1).map fun j => (cs_Key (Key.mk ((y18.getD x5.toNat default).At) (Turn.mk (((y18.getD x5.toNat default).Turn).W) (((y18.getD x5.toNat default).Turn).X) (((y18.getD x5.toNat default).Turn).Y) (Fl.ofInt .f32 (IntKind.i64.wrap ((IntKind.i64.wrap ((IntKind.i64.wrap ((IntKind.i64.wrap (x4 + (1 : Int))) + (1 : Int))) + (1 : Int))) + (1 : Int))))))).getD (4 + j) .nilptr) = ((List.range 1).map fun j => gl cs_Key y21 x5.toNat (4 + j)) ∧ ((((.flt .f32 (Fl.ofInt .f32 (IntKind.i64.wrap ((IntKind.i64.wrap ((IntKind.i64.wrap ((IntKind.i64.wrap (x4 + (1 : Int))) + (1 : Int))) + (1 : Int))) + (1 : Int)))).bits) : C) = (.flt .f32 (Fl.ofInt .f32 (IntKind.i64.wrap ((IntKind.i64.wrap ((IntKind.i64.wrap ((IntKind.i64.wrap (x4 + (1 : Int))) + (1 : Int))) + (1 : Int))) + (1 : Int)))).bits) ∧ Tt) ∧ Tt) ∧ (true = true → ∀ j, j < 1 → isSeq (gl cs_Key y18 x5.toNat (4 + j)) = false ∧ isSeq (gl cs_Key y21 x5.toNat (4 + j)) = false)) ∧ Tt))) [.no, .no, .no, .no, .no, .no, .no, .set y21.length (gl cs_Key y21) ((List.range 1).map fun j => (cs_Key (Key.mk ((y18.getD x5.toNat default).At) (Turn.mk (((y18.getD x5.toNat default).Turn).W) (((y18.getD x5.toNat default).Turn).X) (((y18.getD x5.toNat default).Turn).Y) (Fl.ofInt .f32 (IntKind.i64.wrap ((IntKind.i64.wrap ((IntKind.i64.wrap ((IntKind.i64.wrap (x4 + (1 : Int))) + (1 : Int))) + (1 : Int))) + (1 : Int))))))).getD (4 + j) .nilptr)] [0, 1, 5] [0] ⟨tr, tr, tr, tr, c20, tr, tr, (letP (some_eq e22) (fun z => (z.length = y18.length ∧ SetOb y18.length 5 x5.toNat 4 1 (gl cs_Key y18) (gl cs_Key z) ∧ ((List.range 1).map fun j => (cs_Key (Key.mk ((y18.getD x5.toNat default).At) (Turn.mk (((y18.getD x5.toNat default).Turn).W) (((y18.getD x5.toNat default).Turn).X) (((y18.getD x5.toNat default).Turn).Y) (Fl.ofInt .f32 (IntKind.i64.wrap ((IntKind.i64.wrap ((IntKind.i64.wrap ((IntKind.i64.wrap (x4 + (1 : Int))) + (1 : Int))) + (1 : Int))) + (1 : Int))))))).getD (4 + j) .nilptr) = ((List.range 1).map fun j => gl cs_Key z x5.toNat (4 + j)) ∧ ((((.flt .f32 (Fl.ofInt .f32 (IntKind.i64.wrap ((IntKind.i64.wrap ((IntKind.i64.wrap ((IntKind.i64.wrap (x4 + (1 : Int))) + (1 : Int))) + (1 : Int))) + (1 : Int)))).bits) : C) = (.flt .f32 (Fl.ofInt .f32 (IntKind.i64.wrap ((IntKind.i64.wrap ((IntKind.i64.wrap ((IntKind.i64.wrap (x4 + (1 : Int))) + (1 : Int))) + (1 : Int))) + (1 : Int)))).bits) ∧ Tt) ∧ Tt) ∧ (true = true → ∀ j, j < 1 → isSeq (gl cs_Key y18 x5.toNat (4 + j)) = false ∧ isSeq (gl cs_Key z x5.toNat (4 + j)) = false))) ⟨List.length_set, gl_setp (fun j hj hn => match j, hj, hn with | 0, _, _ => rfl | 1, _, _ => rfl | 2, _, _ => rfl | 3, _, _ => rfl | 4, _, hn => absurd ⟨by decide, by decide⟩ hn) (lt_of_bound c20), (gl_atp (lt_of_bound c20)).symm, ⟨⟨rfl, tr⟩, tr⟩, (fun _ j hj => match j, hj with | 0, _ => ⟨rfl, rfl⟩)⟩), tr⟩ ?_
    refine thenQ_normal ?_
    refine AW.rA ⟨[(0, (.v (.one (.arr 0)))), (1, (vc (.int .i64 (IntKind.i64.wrap ((IntKind.i64.wrap ((IntKind.i64.wrap ((IntKind.i64.wrap ((IntKind.i64.wrap (x4 + (1 : Int))) + (1 : Int))) + (1 : Int))) + (1 : Int))) + (1 : Int)))))), (5, (vc (.int .i64 x5)))], [(0, (.arr true y21.length 5 (gl cs_Key y21)))]⟩ (Tt ∧ T2 Tt) [] [0, 1, 5] [0] ⟨tr, tr, tr, tr⟩ ?_
    refine blockQ_normal ?_
    refine thenQ_normal ?_
    refine AW.rA ⟨[(0, (.v (.one (.arr 0)))), (1, (vc (.int .i64 (IntKind.i64.wrap ((IntKind.i64.wrap ((IntKind.i64.wrap ((IntKind.i64.wrap ((IntKind.i64.wrap (x4 + (1 : Int))) + (1 : Int))) + (1 : Int))) + (1 : Int))) + (1 : Int)))))), (5, (vc (.int .i64 (IntKind.i64.wrap (x5 + (1 : Int))))))], [(0, (.arr true y21.length 5 (gl cs_Key y21)))]⟩ (Tt ∧ T2 Tt) [] [0, 1, 5] [0] ⟨tr, tr, tr, tr⟩ ?_
    exact loopQ_normal (k, (IntKind.i64.wrap ((IntKind.i64.wrap ((IntKind.i64.wrap ((IntKind.i64.wrap ((IntKind.i64.wrap (x4 + (1 : Int))) + (1 : Int))) + (1 : Int))) + (1 : Int))) + (1 : Int))), (IntKind.i64.wrap (x5 + (1 : Int))), y21) h (Nat.lt_succ_self k) (Sub.keep [0, 1, 5] [0] (by kernel_rfl) (by kernel_rfl))
  · refine AW.cond_f rfl b7 ?_
    refine AW.exit ?_
    refine thenQ_exit ?_
    refine loopQ_exit ?_
    refine blockQ_exit ?_
    refine thenQ_normal ?_
    refine AW.seq (AW.rA ⟨[(0, (.v (.one (.arr 0)))), (1, (vc (.int .i64 x4))), (4, (vc (.int .i64 x4)))], [(0, (.arr true x6.length 5 (gl cs_Key x6)))]⟩ (T2 Tt) [] [0, 1, 4] [0] ⟨tr, tr, tr⟩ (thenQ_normal ?_))
    refine AW.ret ?_
    obtain ⟨c23, h⟩ := chk_some h
    replace h := some_eq h
    subst h
    exact ⟨.inr rfl, retOK_of [(.one (.c (.int .i64 x4)))] (by kernel_rfl) ⟨⟨rfl, tr⟩, tr⟩ (of_decide_eq_true (by kernel_rfl)), by kernel_rfl, ⟨⟨c23, rfl, rfl⟩, tr, tr⟩⟩

/-! laws.markKeySS -/
def laws_markKeySS_l1 (K : Nat) (a0 : (List (List Key))) : Nat → Int → Int → (List (List Key)) → Option (Int × (List (List Key)))
  | 0, _, _, _ => none
  | k + 1, x4, x5, x6 => ite2 ((decide (x5 < (x6.length : Int)))) (chk (0 ≤ x5 ∧ x5 < (x6.length : Int)) ((laws_markKeyS K (x6.getD x5.toNat default) x4).bind fun v9 => laws_markKeySS_l1 K a0 k v9.1 (IntKind.i64.wrap (x5 + (1 : Int))) (x6.set x5.toNat v9.2))) (chk (x6.length = a0.length) (some (x4, x6)))

def laws_markKeySS (K : Nat) (a0 : (List (List Key))) (a1 : Int) : Option (Int × (List (List Key))) :=
  laws_markKeySS_l1 K a0 K a1 (0 : Int) a0

theorem ok_laws_markKeySS (K : Nat) (a0 : (List (List Key))) (a1 : Int) (o : (Int × (List (List Key)))) (h : laws_markKeySS K a0 a1 = some o) : MutOK Try.prog 70 [(.one (.mu (sl 1 (csL 5 cs_Key) a0) (sl 1 (csL 5 cs_Key) o.2))), (.one (.ro (.int .i64 a1)))] [.one (.int .i64 o.1)] := by
  refine mutOK_of_AW 1 Try.func70 rfl (by kernel_rfl) (Nat.le_of_ble_eq_true (by kernel_rfl)) (by kernel_rfl) (by kernel_rfl) ?_
  intro w0 K0 v0 s0
  unfold laws_markKeySS at h
  refine AW.seq (AW.rA ⟨[(0, (.v (.one (.arr 0)))), (1, (vc (.int .i64 a1)))], [(0, (.arr true a0.length 1 (gl (csL 5 cs_Key) a0)))]⟩ (Tt ∧ Tt) [] [0, 1] [0] ⟨tr, tr⟩ (thenQ_normal ?_))
  refine AW.seq ?_
  refine AW.seq (AW.rA ⟨[(0, (.v (.one (.arr 0)))), (1, (vc (.int .i64 a1))), (5, (vc (.int .i64 (0 : Int))))], [(0, (.arr true a0.length 1 (gl (csL 5 cs_Key) a0)))]⟩ (Tt ∧ Tt) [] [0, 1, 5] [0] ⟨tr, tr⟩ (thenQ_normal ?_))
  refine AW.block ?_
  refine AW.loopQ (σ := Nat × Int × Int × (List (List Key))) (fun p => ⟨[(0, (.v (.one (.arr 0)))), (1, (vc (.int .i64 p.2.1))), (5, (vc (.int .i64 p.2.2.1)))], [(0, (.arr true p.2.2.2.length 1 (gl (csL 5 cs_Key) p.2.2.2)))]⟩) (fun p => laws_markKeySS_l1 K a0 p.1 p.2.1 p.2.2.1 p.2.2.2 = some o) (fun p => p.1) (K, a1, (0 : Int), a0) h ?_
  clear h
  rintro ⟨k, x4, x5, x6⟩ h
  replace h : laws_markKeySS_l1 K a0 k x4 x5 x6 = some o := h
  show AW _ _ (⟨[(0, (.v (.one (.arr 0)))), (1, (vc (.int .i64 x4))), (5, (vc (.int .i64 x5)))], [(0, (.arr true x6.length 1 (gl (csL 5 cs_Key) x6)))]⟩ : St) _
  obtain _ | k := k
  · rw [laws_markKeySS_l1] at h; cases h
  rw [laws_markKeySS_l1] at h
  refine AW.seq ?_
  refine AW.seq (AW.rA ⟨[(0, (.v (.one (.arr 0)))), (1, (vc (.int .i64 x4))), (5, (vc (.int .i64 x5))), (9, (vc (.bool (decide (x5 < (x6.length : Int))))))], [(0, (.arr true x6.length 1 (gl (csL 5 cs_Key) x6)))]⟩ (T4 Tt) [] [0, 1, 5, 9] [0] ⟨tr, tr, tr, tr, tr⟩ (thenQ_normal ?_))
  rcases ite2_cases h with ⟨b7, h⟩ | ⟨b7, h⟩
  · refine AW.cond_t rfl b7 ?_
    refine AW.skip ?_
    refine thenQ_normal ?_
    refine AW.seq ?_
    refine AW.block ?_
    obtain ⟨c8, h⟩ := chk_some h
    obtain ⟨v9, e10, h⟩ := bind_some h
    refine AW.rA ⟨[(0, (.v (.one (.arr 0)))), (1, (vc (.int .i64 v9.1))), (5, (vc (.int .i64 x5)))], [(0, (.arr true (x6.set x5.toNat v9.2).length 1 (gl (csL 5 cs_Key) (x6.set x5.toNat v9.2))))]⟩ (T2 ((0 ≤ x5 ∧ x5 < (x6.length : Int)) ∧ T2 (((((x6.set x5.toNat v9.2).length = x6.length ∧ ((sl 5 cs_Key (x6.getD x5.toNat default)) : C) = gl (csL 5 cs_Key) x6 x5.toNat 0 ∧ gl (csL 5 cs_Key) (x6.set x5.toNat v9.2) x5.toNat 0 = ((sl 5 cs_Key v9.2) : C) ∧ isSeq (sl 5 cs_Key v9.2) = true ∧ SetOb x6.length 1 x5.toNat 0 1 (gl (csL 5 cs_Key) x6) (gl (csL 5 cs_Key) (x6.set x5.toNat v9.2))) ∧ (Eqc (.int .i64 x4)) ∧ Tt) ∧ MutOK Try.prog 144 [(.one (.mu (sl 5 cs_Key (x6.getD x5.toNat default)) (sl 5 cs_Key v9.2))), .one (.ro (.int .i64 x4))] [.one (.int .i64 v9.1)]) ∧ Tt ∧ Tt))) [.no, .no, .no, .no, .no, .callM [(.one (.mu (sl 5 cs_Key (x6.getD x5.toNat default)) (sl 5 cs_Key v9.2))), .one (.ro (.int .i64 x4))] [.one (.int .i64 v9.1)] [[.view]] (some ((x6.set x5.toNat v9.2).length, gl (csL 5 cs_Key) (x6.set x5.toNat v9.2)))] [0, 1, 5] [0] ⟨tr, tr, c8, tr, tr, ⟨⟨⟨List.length_set, rfl, gl_cell (lt_of_bound c8) rfl, rfl, gl_setp (fun j hj hn => match j, hj, hn with | 0, _, hn => absurd ⟨by decide, by decide⟩ hn) (lt_of_bound c8)⟩, rfl, tr⟩, ok_laws_markKeyS K (x6.getD x5.toNat default) x4 v9 e10⟩, tr, tr⟩ ?_
    refine blockQ_normal ?_
    refine thenQ_normal ?_
    refine AW.rA ⟨[(0, (.v (.one (.arr 0)))), (1, (vc (.int .i64 v9.1))), (5, (vc (.int .i64 (IntKind.i64.wrap (x5 + (1 : Int))))))], [(0, (.arr true (x6.set x5.toNat v9.2).length 1 (gl (csL 5 cs_Key) (x6.set x5.toNat v9.2))))]⟩ (Tt ∧ T2 Tt) [] [0, 1, 5] [0] ⟨tr, tr, tr, tr⟩ ?_
    exact loopQ_normal (k, v9.1, (IntKind.i64.wrap (x5 + (1 : Int))), (x6.set x5.toNat v9.2)) h (Nat.lt_succ_self k) (Sub.keep [0, 1, 5] [0] (by kernel_rfl) (by kernel_rfl))
  · refine AW.cond_f rfl b7 ?_
    refine AW.exit ?_
    refine thenQ_exit ?_
    refine loopQ_exit ?_
    refine blockQ_exit ?_
    refine thenQ_normal ?_
    refine AW.seq (AW.rA ⟨[(0, (.v (.one (.arr 0)))), (1, (vc (.int .i64 x4))), (4, (vc (.int .i64 x4)))], [(0, (.arr true x6.length 1 (gl (csL 5 cs_Key) x6)))]⟩ (T2 Tt) [] [0, 1, 4] [0] ⟨tr, tr, tr⟩ (thenQ_normal ?_))
    refine AW.ret ?_
    obtain ⟨c11, h⟩ := chk_some h
    replace h := some_eq h
    subst h
    exact ⟨.inr rfl, retOK_of [(.one (.c (.int .i64 x4)))] (by kernel_rfl) ⟨⟨rfl, tr⟩, tr⟩ (of_decide_eq_true (by kernel_rfl)), by kernel_rfl, ⟨⟨c11, rfl, rfl⟩, tr, tr⟩⟩

/-! laws.markRootKeyS -/
def laws_markRootKeyS_l1 (K : Nat) (a0 : (List RootKey)) : Nat → Int → Int → (List RootKey) → Option (Int × (List RootKey))
  | 0, _, _, _ => none
  | k + 1, x4, x5, x6 => ite2 ((decide (x5 < (x6.length : Int)))) (chk (0 ≤ x5 ∧ x5 < (x6.length : Int)) ((some (x6.set x5.toNat (RootKey.mk x4 ((x6.getD x5.toNat default).Place)))).bind fun y9 => chk (0 ≤ x5 ∧ x5 < (y9.length : Int)) ((some (y9.set x5.toNat (RootKey.mk ((y9.getD x5.toNat default).At) (Vector.mk (Fl.ofInt .f32 (IntKind.i64.wrap (x4 + (1 : Int)))) (((y9.getD x5.toNat default).Place).Y) (((y9.getD x5.toNat default).Place).Z))))).bind fun y12 => chk (0 ≤ x5 ∧ x5 < (y12.length : Int)) ((some (y12.set x5.toNat (RootKey.mk ((y12.getD x5.toNat default).At) (Vector.mk (((y12.getD x5.toNat default).Place).X) (Fl.ofInt .f32 (IntKind.i64.wrap ((IntKind.i64.wrap (x4 + (1 : Int))) + (1 : Int)))) (((y12.getD x5.toNat default).Place).Z))))).bind fun y15 => chk (0 ≤ x5 ∧ x5 < (y15.length : Int)) ((some (y15.set x5.toNat (RootKey.mk ((y15.getD x5.toNat default).At) (Vector.mk (((y15.getD x5.toNat default).Place).X) (((y15.getD x5.toNat default).Place).Y) (Fl.ofInt .f32 (IntKind.i64.wrap ((IntKind.i64.wrap ((IntKind.i64.wrap (x4 + (1 : Int))) + (1 : Int))) + (1 : Int)))))))).bind fun y18 => laws_markRootKeyS_l1 K a0 k (IntKind.i64.wrap ((IntKind.i64.wrap ((IntKind.i64.wrap ((IntKind.i64.wrap (x4 + (1 : Int))) + (1 : Int))) + (1 : Int))) + (1 : Int))) (IntKind.i64.wrap (x5 + (1 : Int))) y18))))) (chk (x6.length = a0.length) (some (x4, x6)))

def laws_markRootKeyS (K : Nat) (a0 : (List RootKey)) (a1 : Int) : Option (Int × (List RootKey)) :=
  laws_markRootKeyS_l1 K a0 K a1 (0 : Int) a0

theorem ok_laws_markRootKeyS (K : Nat) (a0 : (List RootKey)) (a1 : Int) (o : (Int × (List RootKey))) (h : laws_markRootKeyS K a0 a1 = some o) : MutOK Try.prog 71 [(.one (.mu (sl 4 cs_RootKey a0) (sl 4 cs_RootKey o.2))), (.one (.ro (.int .i64 a1)))] [.one (.int .i64 o.1)] := by
  refine mutOK_of_AW 1 Try.func71 rfl (by kernel_rfl) (Nat.le_of_ble_eq_true (by kernel_rfl)) (by kernel_rfl) (by kernel_rfl) ?_
  intro w0 K0 v0 s0
  unfold laws_markRootKeyS at h
  refine AW.seq (AW.rA ⟨[(0, (.v (.one (.arr 0)))), (1, (vc (.int .i64 a1)))], [(0, (.arr true a0.length 4 (gl cs_RootKey a0)))]⟩ (Tt ∧ Tt) [] [0, 1] [0] ⟨tr, tr⟩ (thenQ_normal ?_))
  refine AW.seq ?_
  refine AW.seq (AW.rA ⟨[(0, (.v (.one (.arr 0)))), (1, (vc (.int .i64 a1))), (5, (vc (.int .i64 (0 : Int))))], [(0, (.arr true a0.length 4 (gl cs_RootKey a0)))]⟩ (Tt ∧ Tt) [] [0, 1, 5] [0] ⟨tr, tr⟩ (thenQ_normal ?_))
  refine AW.block ?_
  refine AW.loopQ (σ := Nat × Int × Int × (List RootKey)) (fun p => ⟨[(0, (.v (.one (.arr 0)))), (1, (vc (.int .i64 p.2.1))), (5, (vc (.int .i64 p.2.2.1)))], [(0, (.arr true p.2.2.2.length 4 (gl cs_RootKey p.2.2.2)))]⟩) (fun p => laws_markRootKeyS_l1 K a0 p.1 p.2.1 p.2.2.1 p.2.2.2 = some o) (fun p => p.1) (K, a1, (0 : Int), a0) h ?_
  clear h
  rintro ⟨k, x4, x5, x6⟩ h
  replace h : laws_markRootKeyS_l1 K a0 k x4 x5 x6 = some o := h
  show AW _ _ (⟨[(0, (.v (.one (.arr 0)))), (1, (vc (.int .i64 x4))), (5, (vc (.int .i64 x5)))], [(0, (.arr true x6.length 4 (gl cs_RootKey x6)))]⟩ : St) _
  obtain _ | k := k
  · rw [laws_markRootKeyS_l1] at h; cases h
  rw [laws_markRootKeyS_l1] at h
  refine AW.seq ?_
  refine AW.seq (AW.rA ⟨[(0, (.v (.one (.arr 0)))), (1, (vc (.int .i64 x4))), (5, (vc (.int .i64 x5))), (9, (vc (.bool (decide (x5 < (x6.length : Int))))))], [(0, (.arr true x6.length 4 (gl cs_RootKey x6)))]⟩ (T4 Tt) [] [0, 1, 5, 9] [0] ⟨tr, tr, tr, tr, tr⟩ (thenQ_normal ?_))
  rcases ite2_cases h with ⟨b7, h⟩ | ⟨b7, h⟩
  · refine AW.cond_t rfl b7 ?_
    refine AW.skip ?_
    refine thenQ_normal ?_
    refine AW.seq ?_
    refine AW.block ?_
    refine AW.seq ?_
    obtain ⟨c8, h⟩ := chk_some h
    obtain ⟨y9, e10, h⟩ := bind_some h
    refine AW.rA ⟨[(0, (.v (.one (.arr 0)))), (1, (vc (.int .i64 x4))), (5, (vc (.int .i64 x5)))], [(0, (.arr true y9.length 4 (gl cs_RootKey y9)))]⟩ (Tt ∧ T2 ((0 ≤ x5 ∧ x5 < (x6.length : Int)) ∧ Tt ∧ (y9.length = x6.length ∧ SetOb x6.length 4 x5.toNat 0 1 (gl cs_RootKey x6) (gl cs_RootKey y9) ∧ ((List.range 1).map fun j => (cs_RootKey (RootKey.mk x4 ((x6.getD x5.toNat default).Place))).getD (0 + j) .nilptr) = ((List.range 1).map fun j => gl cs_RootKey y9 x5.toNat (0 + j)) ∧ ((((.int .i64 x4) : C) = (.int .i64 x4) ∧ Tt) ∧ Tt) ∧ (true = true → ∀ j, j < 1 → isSeq (gl cs_RootKey x6 x5.toNat (0 + j)) = false ∧ isSeq (gl cs_RootKey y9 x5.toNat (0 + j)) = false)) ∧ Tt)) [.no, .no, .no, .no, .no, .set y9.length (gl cs_RootKey y9) ((List.range 1).map fun j => (cs_RootKey (RootKey.mk x4 ((x6.getD x5.toNat default).Place))).getD (0 + j) .nilptr)] [0, 1, 5] [0] ⟨tr, tr, tr, c8, tr, (letP (some_eq e10) (fun z => (z.length = x6.length ∧ SetOb x6.length 4 x5.toNat 0 1 (gl cs_RootKey x6) (gl cs_RootKey z) ∧ ((List.range 1).map fun j => (cs_RootKey (RootKey.mk x4 ((x6.getD x5.toNat default).Place))).getD (0 + j) .nilptr) = ((List.range 1).map fun j => gl cs_RootKey z x5.toNat (0 + j)) ∧ ((((.int .i64 x4) : C) = (.int .i64 x4) ∧ Tt) ∧ Tt) ∧ (true = true → ∀ j, j < 1 → isSeq (gl cs_RootKey x6 x5.toNat (0 + j)) = false ∧ isSeq (gl cs_RootKey z x5.toNat (0 + j)) = false))) ⟨List.length_set, gl_setp (fun j hj hn => match j, hj, hn with | 0, _, hn => absurd ⟨by decide, by decide⟩ hn | 1, _, _ => rfl | 2, _, _ => rfl | 3, _, _ => rfl) (lt_of_bound c8), (gl_atp (lt_of_bound c8)).symm, ⟨⟨rfl, tr⟩, tr⟩, (fun _ j hj => match j, hj with | 0, _ => ⟨rfl, rfl⟩)⟩), tr⟩ ?_
    refine thenQ_normal ?_
    refine AW.seq (AW.rA ⟨[(0, (.v (.one (.arr 0)))), (1, (vc (.int .i64 (IntKind.i64.wrap (x4 + (1 : Int)))))), (5, (vc (.int .i64 x5)))], [(0, (.arr true y9.length 4 (gl cs_RootKey y9)))]⟩ (Tt ∧ T2 Tt) [] [0, 1, 5] [0] ⟨tr, tr, tr, tr⟩ (thenQ_normal ?_))
    refine AW.seq ?_
    obtain ⟨c11, h⟩ := chk_some h
    obtain ⟨y12, e13, h⟩ := bind_some h
    refine AW.rA ⟨[(0, (.v (.one (.arr 0)))), (1, (vc (.int .i64 (IntKind.i64.wrap (x4 + (1 : Int)))))), (5, (vc (.int .i64 x5)))], [(0, (.arr true y12.length 4 (gl cs_RootKey y12)))]⟩ (T4 ((0 ≤ x5 ∧ x5 < (y9.length : Int)) ∧ T2 ((y12.length = y9.length ∧ SetOb y9.length 4 x5.toNat 1 1 (gl cs_RootKey y9) (gl cs_RootKey y12) ∧ ((List.range 1).map fun j => (cs_RootKey (RootKey.mk ((y9.getD x5.toNat default).At) (Vector.mk (Fl.ofInt .f32 (IntKind.i64.wrap (x4 + (1 : Int)))) (((y9.getD x5.toNat default).Place).Y) (((y9.getD x5.toNat default).Place).Z)))).getD (1 + j) .nilptr) = ((List.range 1).map fun j => gl cs_RootKey y12 x5.toNat (1 + j)) ∧ ((((.flt .f32 (Fl.ofInt .f32 (IntKind.i64.wrap (x4 + (1 : Int)))).bits) : C) = (.flt .f32 (Fl.ofInt .f32 (IntKind.i64.wrap (x4 + (1 : Int)))).bits) ∧ Tt) ∧ Tt) ∧ (true = true → ∀ j, j < 1 → isSeq (gl cs_RootKey y9 x5.toNat (1 + j)) = false ∧ isSeq (gl cs_RootKey y12 x5.toNat (1 + j)) = false)) ∧ Tt))) [.no, .no, .no, .no, .no, .no, .no, .set y12.length (gl cs_RootKey y12) ((List.range 1).map fun j => (cs_RootKey (RootKey.mk ((y9.getD x5.toNat default).At) (Vector.mk (Fl.ofInt .f32 (IntKind.i64.wrap (x4 + (1 : Int)))) (((y9.getD x5.toNat default).Place).Y) (((y9.getD x5.toNat default).Place).Z)))).getD (1 + j) .nilptr)] [0, 1, 5] [0] ⟨tr, tr, tr, tr, c11, tr, tr, (letP (some_eq e13) (fun z => (z.length = y9.length ∧ SetOb y9.length 4 x5.toNat 1 1 (gl cs_RootKey y9) (gl cs_RootKey z) ∧ ((List.range 1).map fun j => (cs_RootKey (RootKey.mk ((y9.getD x5.toNat default).At) (Vector.mk (Fl.ofInt .f32 (IntKind.i64.wrap (x4 + (1 : Int)))) (((y9.getD x5.toNat default).Place).Y) (((y9.getD x5.toNat default).Place).Z)))).getD (1 + j) .nilptr) = ((List.range 1).map fun j => gl cs_RootKey z x5.toNat (1 + j)) ∧ ((((.flt .f32 (Fl.ofInt .f32 (IntKind.i64.wrap (x4 + (1 : Int)))).bits) : C) = (.flt .f32 (Fl.ofInt .f32 (IntKind.i64.wrap (x4 + (1 : Int)))).bits) ∧ Tt) ∧ Tt) ∧ (true = true → ∀ j, j < 1 → isSeq (gl cs_RootKey y9 x5.toNat (1 + j)) = false ∧ isSeq (gl cs_RootKey z x5.toNat (1 + j)) = false))) ⟨List.length_set, gl_setp (fun j hj hn => match j, hj, hn with | 0, _, _ => rfl | 1, _, hn => absurd ⟨by decide, by decide⟩ hn | 2, _, _ => rfl | 3, _, _ => rfl) (lt_of_bound c11), (gl_atp (lt_of_bound c11)).symm, ⟨⟨rfl, tr⟩, tr⟩, (fun _ j hj => match j, hj with | 0, _ => ⟨rfl, rfl⟩)⟩), tr⟩ ?_
    refine thenQ_normal ?_
    refine AW.seq (AW.rA ⟨[(0, (.v (.one (.arr 0)))), (1, (vc (.int .i64 (IntKind.i64.wrap ((IntKind.i64.wrap (x4 + (1 : Int))) + (1 : Int)))))), (5, (vc (.int .i64 x5)))], [(0, (.arr true y12.length 4 (gl cs_RootKey y12)))]⟩ (Tt ∧ T2 Tt) [] [0, 1, 5] [0] ⟨tr, tr, tr, tr⟩ (thenQ_normal ?_))
    refine AW.seq ?_
    obtain ⟨c14, h⟩ := chk_some h
    obtain ⟨y15, e16, h⟩ := bind_some h
    refine AW.rA ⟨[(0, (.v (.one (.arr 0)))), (1, (vc (.int .i64 (IntKind.i64.wrap ((IntKind.i64.wrap (x4 + (1 : Int))) + (1 : Int)))))), (5, (vc (.int .i64 x5)))], [(0, (.arr true y15.length 4 (gl cs_RootKey y15)))]⟩ (T4 ((0 ≤ x5 ∧ x5 < (y12.length : Int)) ∧ T2 ((y15.length = y12.length ∧ SetOb y12.length 4 x5.toNat 2 1 (gl cs_RootKey y12) (gl cs_RootKey y15) ∧ ((List.range 1).map fun j => (cs_RootKey (RootKey.mk ((y12.getD x5.toNat default).At) (Vector.mk (((y12.getD x5.toNat default).Place).X) (Fl.ofInt .f32 (IntKind.i64.wrap ((IntKind.i64.wrap (x4 + (1 : Int))) + (1 : Int)))) (((y12.getD x5.toNat default).Place).Z)))).getD (2 + j) .nilptr) = ((List.range 1).map fun j => gl cs_RootKey y15 x5.toNat (2 + j)) ∧ ((((.flt .f32 (Fl.ofInt .f32 (IntKind.i64.wrap ((IntKind.i64.wrap (x4 + (1 : Int))) + (1 : Int)))).bits) : C) = (.flt .f32 (Fl.ofInt .f32 (IntKind.i64.wrap ((IntKind.i64.wrap (x4 + (1 : Int))) + (1 : Int)))).bits) ∧ Tt) ∧ Tt) ∧ (true = true → ∀ j, j < 1 → isSeq (gl cs_RootKey y12 x5.toNat (2 + j)) = false ∧ isSeq (gl cs_RootKey y15 x5.toNat (2 + j)) = false)) ∧ Tt))) [.no, .no, .no, .no, .no, .no, .no, .set y15.length (gl cs_RootKey y15) ((List.range 1).map fun j => (cs_RootKey (RootKey.mk ((y12.getD x5.toNat default).At) (Vector.mk (((y12.getD x5.toNat default).Place).X) (Fl.ofInt .f32 (IntKind.i64.wrap ((IntKind.i64.wrap (x4 + (1 : Int))) + (1 : Int)))) (((y12.getD x5.toNat default).Place).Z)))).getD (2 + j) .nilptr)] [0, 1, 5] [0] ⟨tr, tr, tr, tr, c14, tr, tr, (letP (some_eq e16) (fun z => (z.length = y12.length ∧ SetOb y12.length 4 x5.toNat 2 1 (gl cs_RootKey y12) (gl cs_RootKey z) ∧ ((List.range 1).map fun j => (cs_RootKey (RootKey.mk ((y12.getD x5.toNat default).At) (Vector.mk (((y12.getD x5.toNat default).Place).X) (Fl.ofInt .f32 (IntKind.i64.wrap ((IntKind.i64.wrap (x4 + (1 : Int))) + (1 : Int)))) (((y12.getD x5.toNat default).Place).Z)))).getD (2 + j) .nilptr) = ((List.range 1).map fun j => gl cs_RootKey z x5.toNat (2 + j)) ∧ ((((.flt .f32 (Fl.ofInt .f32 (IntKind.i64.wrap ((IntKind.i64.wrap (x4 + (1 : Int))) + (1 : Int)))).bits) : C) = (.flt .f32 (Fl.ofInt .f32 (IntKind.i64.wrap ((IntKind.i64.wrap (x4 + (1 : Int))) + (1 : Int)))).bits) ∧ Tt) ∧ Tt) ∧ (true = true → ∀ j, j < 1 → isSeq (gl cs_RootKey y12 x5.toNat (2 + j)) = false ∧ isSeq (gl cs_RootKey z x5.toNat (2 + j)) = false))) ⟨List.length_set, gl_setp (fun j hj hn => match j, hj, hn with | 0, _, _ => rfl | 1, _, _ => rfl | 2, _, hn => absurd ⟨by decide, by decide⟩ hn | 3, _, _ => rfl) (lt_of_bound c14), (gl_atp (lt_of_bound c14)).symm, ⟨⟨rfl, tr⟩, tr⟩, (fun _ j hj => match j, hj with | 0, _ => ⟨rfl, rfl⟩)⟩), tr⟩ ?_
    refine thenQ_normal ?_
    refine AW.seq (AW.rA ⟨[(0, (.v (.one (.arr 0)))), (1, (vc (.int .i64 (IntKind.i64.wrap ((IntKind.i64.wrap ((IntKind.i64.wrap (x4 + (1 : Int))) + (1 : Int))) + (1 : Int)))))), (5, (vc (.int .i64 x5)))], [(0, (.arr true y15.length 4 (gl cs_RootKey y15)))]⟩ (Tt ∧ T2 Tt) [] [0, 1, 5] [0] ⟨tr, tr, tr, tr⟩ (thenQ_normal ?_))
    refine AW.seq ?_
    obtain ⟨c17, h⟩ := chk_some h
    obtain ⟨y18, e19, h⟩ := bind_some h
    refine AW.rA ⟨[(0, (.v (.one (.arr 0)))), (1, (vc (.int .i64 (IntKind.i64.wrap ((IntKind.i64.wrap ((IntKind.i64.wrap (x4 + (1 : Int))) + (1 : Int))) + (1 : Int)))))), (5, (vc (.int .i64 x5)))], [(0, (.arr true y18.length 4 (gl cs_RootKey y18)))]⟩ (T4 ((0 ≤ x5 ∧ x5 < (y15.length : Int)) ∧ T2 ((y18.length = y15.length ∧ SetOb y15.length 4 x5.toNat 3 1 (gl cs_RootKey y15) (gl cs_RootKey y18) ∧ ((List.range 1).map fun j => (cs_RootKey (RootKey.mk ((y15.getD x5.toNat default).At) (Vector.mk (((y15.getD x5.toNat default).Place).X) (((y15.getD x5.toNat default).Place).Y) (Fl.ofInt .f32 (IntKind.i64.wrap ((IntKind.i64.wrap ((IntKind.i64.wrap (x4 + (1 : Int))) + (1 : Int))) + (1 : Int))))))).getD (3 + j) .nilptr) = ((List.range 1).map fun j => gl cs_RootKey y18 x5.toNat (3 + j)) ∧ ((((.flt .f32 (Fl.ofInt .f32 (IntKind.i64.wrap ((IntKind.i64.wrap ((IntKind.i64.wrap (x4 + (1 : Int))) + (1 : Int))) + (1 : Int)))).bits) : C) = (.flt .f32 (Fl.ofInt .f32 (IntKind.i64.wrap ((IntKind.i64.wrap ((IntKind.i64.wrap (x4 + (1 : Int))) + (1 : Int))) + (1 : Int)))).bits) ∧ Tt) ∧ Tt) ∧ (true = true → ∀ j, j < 1 → isSeq (gl cs_RootKey y15 x5.toNat (3 + j)) = false ∧ isSeq (gl cs_RootKey y18 x5.toNat (3 + j)) = false)) ∧ Tt))) [.no, .no, .no, .no, .no, .no, .no, .set y18.length (gl cs_RootKey y18) ((List.range 1).map fun j => (cs_RootKey (RootKey.mk ((y15.getD x5.toNat default).At) (Vector.mk (((y15.getD x5.toNat default).Place).X) (((y15.getD x5.toNat default).Place).Y) (Fl.ofInt .f32 (IntKind.i64.wrap ((IntKind.i64.wrap ((IntKind.i64.wrap (x4 + (1 : Int))) + (1 : Int))) + (1 : Int))))))).getD (3 + j) .nilptr)] [0, 1, 5] [0] ⟨tr, tr, tr, tr, c17, tr, tr, (letP (some_eq e19) (fun z => (z.length = y15.length ∧ SetOb y15.length 4 x5.toNat 3 1 (gl cs_RootKey y15) (gl cs_RootKey z) ∧ ((List.range 1).map fun j => (cs_RootKey (RootKey.mk ((y15.getD x5.toNat default).At) (Vector.mk (((y15.getD x5.toNat default).Place).X) (((y15.getD x5.toNat default).Place).Y) (Fl.ofInt .f32 (IntKind.i64.wrap ((IntKind.i64.wrap ((IntKind.i64.wrap (x4 + (1 : Int))) + (1 : Int))) + (1 : Int))))))).getD (3 + j) .nilptr) = ((List.range 1).map fun j => gl cs_RootKey z x5.toNat (3 + j)) ∧ ((((.flt .f32 (Fl.ofInt .f32 (IntKind.i64.wrap ((IntKind.i64.wrap ((IntKind.i64.wrap (x4 + (1 : Int))) + (1 : Int))) + (1 : Int)))).bits) : C) = (.flt .f32 (Fl.ofInt .f32 (IntKind.i64.wrap ((IntKind.i64.wrap ((IntKind.i64.wrap (x4 + (1 : Int))) + (1 : Int))) + (1 : Int)))).bits) ∧ Tt) ∧ Tt) ∧ (true = true → ∀ j, j < 1 → isSeq (gl cs_RootKey y15 x5.toNat (3 + j)) = false ∧ isSeq (gl cs_RootKey z x5.toNat (3 + j)) = false))) ⟨List.length_set, gl_setp (fun j hj hn => match j, hj, hn with | 0, _, _ => rfl | 1, _, _ => rfl | 2, _, _ => rfl | 3, _, hn => absurd ⟨by decide, by decide⟩ hn) (lt_of_bound c17), (gl_atp (lt_of_bound c17)).symm, ⟨⟨rfl, tr⟩, tr⟩, (fun _ j hj => match j, hj with | 0, _ => ⟨rfl, rfl⟩)⟩), tr⟩ ?_
    refine thenQ_normal ?_
    refine AW.rA ⟨[(0, (.v (.one (.arr 0)))), (1, (vc (.int .i64 (IntKind.i64.wrap ((IntKind.i64.wrap ((IntKind.i64.wrap ((IntKind.i64.wrap (x4 + (1 : Int))) + (1 : Int))) + (1 : Int))) + (1 : Int)))))), (5, (vc (.int .i64 x5)))], [(0, (.arr true y18.length 4 (gl cs_RootKey y18)))]⟩ (Tt ∧ T2 Tt) [] [0, 1, 5] [0] ⟨tr, tr, tr, tr⟩ ?_
    refine blockQ_normal ?_
    refine thenQ_normal ?_
    refine AW.rA ⟨[(0, (.v (.one (.arr 0)))), (1, (vc (.int .i64 (IntKind.i64.wrap ((IntKind.i64.wrap ((IntKind.i64.wrap ((IntKind.i64.wrap (x4 + (1 : Int))) + (1 : Int))) + (1 : Int))) + (1 : Int)))))), (5, (vc (.int .i64 (IntKind.i64.wrap (x5 + (1 : Int))))))], [(0, (.arr true y18.length 4 (gl cs_RootKey y18)))]⟩ (Tt ∧ T2 Tt) [] [0, 1, 5] [0] ⟨tr, tr, tr, tr⟩ ?_
    exact loopQ_normal (k, (IntKind.i64.wrap ((IntKind.i64.wrap ((IntKind.i64.wrap ((IntKind.i64.wrap (x4 + (1 : Int))) + (1 : Int))) + (1 : Int))) + (1 : Int))), (IntKind.i64.wrap (x5 + (1 : Int))), y18) h (Nat.lt_succ_self k) (Sub.keep [0, 1, 5] [0] (by kernel_rfl) (by kernel_rfl))
  · refine AW.cond_f rfl b7 ?_
    refine AW.exit ?_
    refine thenQ_exit ?_
    refine loopQ_exit ?_
    refine blockQ_exit ?_
    refine thenQ_normal ?_
    refine AW.seq (AW.rA ⟨[(0, (.v (.one (.arr 0)))), (1, (vc (.int .i64 x4))), (4, (vc (.int .i64 x4)))], [(0, (.arr true x6.length 4 (gl cs_RootKey x6)))]⟩ (T2 Tt) [] [0, 1, 4] [0] ⟨tr, tr, tr⟩ (thenQ_normal ?_))
    refine AW.ret ?_
    obtain ⟨c20, h⟩ := chk_some h
    replace h := some_eq h
    subst h
    exact ⟨.inr rfl, retOK_of [(.one (.c (.int .i64 x4)))] (by kernel_rfl) ⟨⟨rfl, tr⟩, tr⟩ (of_decide_eq_true (by kernel_rfl)), by kernel_rfl, ⟨⟨c20, rfl, rfl⟩, tr, tr⟩⟩

/-! laws.markClip -/
def laws_markClip (K : Nat) (a0 : Clip) (a1 : Int) : Option (Int × (List (List Key)) × (List RootKey)) :=
  (laws_markKeySS K a0.Tracks a1).bind fun v1 => chk (v1.2.length = a0.Tracks.length) ((laws_markRootKeyS K a0.Roots v1.1).bind fun v4 => chk (v4.2.length = a0.Roots.length) (chk (v1.2.length = a0.Tracks.length) (chk (v4.2.length = a0.Roots.length) (some (v4.1, v1.2, v4.2)))))

theorem ok_laws_markClip (K : Nat) (a0 : Clip) (a1 : Int) (o : (Int × (List (List Key)) × (List RootKey))) (h : laws_markClip K a0 a1 = some o) : MutOK Try.prog 16 [(.agg [(.ro (.int .i64 a0.Length)), (.ro (.int .i64 a0.Kind)), (.mu (sl 1 (csL 5 cs_Key) a0.Tracks) (sl 1 (csL 5 cs_Key) o.2.1)), (.mu (sl 4 cs_RootKey a0.Roots) (sl 4 cs_RootKey o.2.2))]), (.one (.ro (.int .i64 a1)))] [.one (.int .i64 o.1)] := by
  refine mutOK_of_AW 2 Try.func16 rfl (by kernel_rfl) (Nat.le_of_ble_eq_true (by kernel_rfl)) (by kernel_rfl) (by kernel_rfl) ?_
  intro w0 K0 v0 s0
  unfold laws_markClip at h
  refine AW.seq (AW.rA ⟨[(0, (.v (.agg [(.c (.int .i64 a0.Length)), (.c (.int .i64 a0.Kind)), (.arr 0), (.arr 1)]))), (1, (vc (.int .i64 a1))), (2, (vp 2 0))], [(0, (.arr true a0.Tracks.length 1 (gl (csL 5 cs_Key) a0.Tracks))), (1, (.arr true a0.Roots.length 4 (gl cs_RootKey a0.Roots))), (2, (.box [(.c (.int .i64 a0.Length)), (.c (.int .i64 a0.Kind)), (.arr 0), (.arr 1)]))]⟩ (T2 Tt) [.box 2] [0, 1, 2] [0, 1, 2] ⟨tr, tr, tr⟩ (thenQ_normal ?_))
  refine AW.seq ?_
  obtain ⟨v1, e2, h⟩ := bind_some h
  obtain ⟨c3, h⟩ := chk_some h
  refine AW.rA ⟨[(0, (.v (.agg [(.c (.int .i64 a0.Length)), (.c (.int .i64 a0.Kind)), (.arr 0), (.arr 1)]))), (1, (vc (.int .i64 v1.1))), (2, (vp 2 0))], [(0, (.arr true v1.2.length 1 (gl (csL 5 cs_Key) v1.2))), (1, (.arr true a0.Roots.length 4 (gl cs_RootKey a0.Roots))), (2, (.box [(.c (.int .i64 a0.Length)), (.c (.int .i64 a0.Kind)), (.arr 0), (.arr 1)]))]⟩ (Tt ∧ T2 ((((((sl 1 (csL 5 cs_Key) a0.Tracks) : C) = (sl 1 (csL 5 cs_Key) a0.Tracks) ∧ v1.2.length = a0.Tracks.length ∧ 1 = 1 ∧ ∀ i j, i < a0.Tracks.length → j < 1 → isSeq (gl (csL 5 cs_Key) v1.2 i j) = isSeq (gl (csL 5 cs_Key) a0.Tracks i j)) ∧ (Eqc (.int .i64 a1)) ∧ Tt) ∧ MutOK Try.prog 70 [(.one (.mu (sl 1 (csL 5 cs_Key) a0.Tracks) (sl 1 (csL 5 cs_Key) v1.2))), .one (.ro (.int .i64 a1))] [.one (.int .i64 v1.1)]) ∧ Tt ∧ Tt)) [.no, .no, .no, .callM [(.one (.mu (sl 1 (csL 5 cs_Key) a0.Tracks) (sl 1 (csL 5 cs_Key) v1.2))), .one (.ro (.int .i64 a1))] [.one (.int .i64 v1.1)] [[.view]] none] [0, 1, 2] [0, 1, 2] ⟨tr, tr, tr, ⟨⟨⟨rfl, c3, rfl, gl_seq (sq_slice)⟩, rfl, tr⟩, ok_laws_markKeySS K a0.Tracks a1 v1 e2⟩, tr, tr⟩ ?_
  refine thenQ_normal ?_
  refine AW.seq ?_
  obtain ⟨v4, e5, h⟩ := bind_some h
  obtain ⟨c6, h⟩ := chk_some h
  refine AW.rA ⟨[(0, (.v (.agg [(.c (.int .i64 a0.Length)), (.c (.int .i64 a0.Kind)), (.arr 0), (.arr 1)]))), (1, (vc (.int .i64 v4.1)))], [(0, (.arr true v1.2.length 1 (gl (csL 5 cs_Key) v1.2))), (1, (.arr true v4.2.length 4 (gl cs_RootKey v4.2)))]⟩ (Tt ∧ T2 ((((((sl 4 cs_RootKey a0.Roots) : C) = (sl 4 cs_RootKey a0.Roots) ∧ v4.2.length = a0.Roots.length ∧ 4 = 4 ∧ ∀ i j, i < a0.Roots.length → j < 4 → isSeq (gl cs_RootKey v4.2 i j) = isSeq (gl cs_RootKey a0.Roots i j)) ∧ (Eqc (.int .i64 v1.1)) ∧ Tt) ∧ MutOK Try.prog 71 [(.one (.mu (sl 4 cs_RootKey a0.Roots) (sl 4 cs_RootKey v4.2))), .one (.ro (.int .i64 v1.1))] [.one (.int .i64 v4.1)]) ∧ Tt ∧ Tt)) [.no, .no, .no, .callM [(.one (.mu (sl 4 cs_RootKey a0.Roots) (sl 4 cs_RootKey v4.2))), .one (.ro (.int .i64 v1.1))] [.one (.int .i64 v4.1)] [[.view]] none] [0, 1] [0, 1] ⟨tr, tr, tr, ⟨⟨⟨rfl, c6, rfl, gl_seq sq_RootKey⟩, rfl, tr⟩, ok_laws_markRootKeyS K a0.Roots v1.1 v4 e5⟩, tr, tr⟩ ?_
  refine thenQ_normal ?_
  refine AW.seq (AW.rA ⟨[(0, (.v (.agg [(.c (.int .i64 a0.Length)), (.c (.int .i64 a0.Kind)), (.arr 0), (.arr 1)]))), (1, (vc (.int .i64 v4.1))), (4, (vc (.int .i64 v4.1)))], [(0, (.arr true v1.2.length 1 (gl (csL 5 cs_Key) v1.2))), (1, (.arr true v4.2.length 4 (gl cs_RootKey v4.2)))]⟩ (T2 Tt) [] [0, 1, 4] [0, 1] ⟨tr, tr, tr⟩ (thenQ_normal ?_))
  refine AW.ret ?_
  obtain ⟨c7, h⟩ := chk_some h
  obtain ⟨c8, h⟩ := chk_some h
  replace h := some_eq h
  subst h
  exact ⟨.inr rfl, retOK_of [(.one (.c (.int .i64 v4.1)))] (by kernel_rfl) ⟨⟨rfl, tr⟩, tr⟩ (of_decide_eq_true (by kernel_rfl)), by kernel_rfl, ⟨⟨tr, tr, ⟨c7, rfl, rfl⟩, ⟨c8, rfl, rfl⟩, tr⟩, tr, tr⟩⟩

/-! laws.heldKeyS -/
def laws_heldKeyS_l1 (K : Nat) (a0 : (List Key)) : Nat → Int → Int → Option (Int)
  | 0, _, _ => none
  | k + 1, x3, x4 => ite2 ((decide (x4 < (a0.length : Int)))) (chk (0 ≤ x4 ∧ x4 < (a0.length : Int)) (ite2 ((((a0.getD x4.toNat default).At) != x3)) (some ((-1) : Int)) (ite2 (((((a0.getD x4.toNat default).Turn).W).ne (Fl.ofInt .f32 (IntKind.i64.wrap (x3 + (1 : Int)))))) (some ((-1) : Int)) (ite2 (((((a0.getD x4.toNat default).Turn).X).ne (Fl.ofInt .f32 (IntKind.i64.wrap ((IntKind.i64.wrap (x3 + (1 : Int))) + (1 : Int)))))) (some ((-1) : Int)) (ite2 (((((a0.getD x4.toNat default).Turn).Y).ne (Fl.ofInt .f32 (IntKind.i64.wrap ((IntKind.i64.wrap ((IntKind.i64.wrap (x3 + (1 : Int))) + (1 : Int))) + (1 : Int)))))) (some ((-1) : Int)) (ite2 (((((a0.getD x4.toNat default).Turn).Z).ne (Fl.ofInt .f32 (IntKind.i64.wrap ((IntKind.i64.wrap ((IntKind.i64.wrap ((IntKind.i64.wrap (x3 + (1 : Int))) + (1 : Int))) + (1 : Int))) + (1 : Int)))))) (some ((-1) : Int)) (laws_heldKeyS_l1 K a0 k (IntKind.i64.wrap ((IntKind.i64.wrap ((IntKind.i64.wrap ((IntKind.i64.wrap ((IntKind.i64.wrap (x3 + (1 : Int))) + (1 : Int))) + (1 : Int))) + (1 : Int))) + (1 : Int))) (IntKind.i64.wrap (x4 + (1 : Int)))))))))) (some x3)

def laws_heldKeyS (K : Nat) (a0 : (List Key)) (a1 : Int) : Option (Int) :=
  laws_heldKeyS_l1 K a0 K a1 (0 : Int)

theorem ok_laws_heldKeyS (K : Nat) (a0 : (List Key)) (a1 : Int) (o : (Int)) (h : laws_heldKeyS K a0 a1 = some o) : CallOK Try.prog 145 [.one (sl 5 cs_Key a0), .one (.int .i64 a1)] [.one (.int .i64 o)] := by
  refine callOK_of_AW Try.func145 rfl (by kernel_rfl) (Nat.le_of_ble_eq_true (by kernel_rfl)) ?_
  intro w0
  unfold laws_heldKeyS at h
  refine AW.seq (AW.rA ⟨[(0, (vc (sl 5 cs_Key a0))), (1, (vc (.int .i64 a1)))], []⟩ (Tt ∧ Tt) [] [0, 1] [] ⟨tr, tr⟩ (thenQ_normal ?_))
  refine AW.seq ?_
  refine AW.seq (AW.rA ⟨[(0, (vc (sl 5 cs_Key a0))), (1, (vc (.int .i64 a1))), (5, (vc (.int .i64 (0 : Int))))], []⟩ (Tt ∧ Tt) [] [0, 1, 5] [] ⟨tr, tr⟩ (thenQ_normal ?_))
  refine AW.block ?_
  refine AW.loopQ (σ := Nat × Int × Int) (fun p => ⟨[(0, (vc (sl 5 cs_Key a0))), (1, (vc (.int .i64 p.2.1))), (5, (vc (.int .i64 p.2.2)))], []⟩) (fun p => laws_heldKeyS_l1 K a0 p.1 p.2.1 p.2.2 = some o) (fun p => p.1) (K, a1, (0 : Int)) h ?_
  clear h
  rintro ⟨k, x3, x4⟩ h
  replace h : laws_heldKeyS_l1 K a0 k x3 x4 = some o := h
  show AW _ _ (⟨[(0, (vc (sl 5 cs_Key a0))), (1, (vc (.int .i64 x3))), (5, (vc (.int .i64 x4)))], []⟩ : St) _
  obtain _ | k := k
  · rw [laws_heldKeyS_l1] at h; cases h
  rw [laws_heldKeyS_l1] at h
  refine AW.seq ?_
  refine AW.seq (AW.rA ⟨[(0, (vc (sl 5 cs_Key a0))), (1, (vc (.int .i64 x3))), (5, (vc (.int .i64 x4))), (9, (vc (.bool (decide (x4 < (a0.length : Int))))))], []⟩ (T4 Tt) [] [0, 1, 5, 9] [] ⟨tr, tr, tr, tr, tr⟩ (thenQ_normal ?_))
  rcases ite2_cases h with ⟨b5, h⟩ | ⟨b5, h⟩
  · refine AW.cond_t rfl b5 ?_
    refine AW.skip ?_
    refine thenQ_normal ?_
    refine AW.seq ?_
    refine AW.block ?_
    refine AW.seq ?_
    refine AW.seq ?_
    obtain ⟨c6, h⟩ := chk_some h
    refine AW.rA ⟨[(0, (vc (sl 5 cs_Key a0))), (1, (vc (.int .i64 x3))), (5, (vc (.int .i64 x4))), (18, (vc (.bool (((a0.getD x4.toNat default).At) != x3))))], []⟩ (T2 ((0 ≤ x4 ∧ x4 < (a0.length : Int)) ∧ T4 Tt)) [] [0, 1, 5, 18] [] ⟨tr, tr, c6, tr, tr, tr, tr, tr⟩ ?_
    refine thenQ_normal ?_
    rcases ite2_cases h with ⟨b7, h⟩ | ⟨b7, h⟩
    · refine AW.cond_t rfl b7 ?_
      refine AW.seq (AW.rA ⟨[(4, (vc (.int .i64 ((-1) : Int))))], []⟩ (Tt ∧ Tt) [] [4] [] ⟨tr, tr⟩ (thenQ_normal ?_))
      refine AW.ret ?_
      refine thenQ_ret ?_
      refine blockQ_ret ?_
      refine thenQ_ret ?_
      refine loopQ_ret ?_
      refine blockQ_ret ?_
      refine thenQ_ret ?_
      replace h := some_eq h
      subst h
      exact ⟨.inr rfl, retOK_of [(.one (.c (.int .i64 ((-1) : Int))))] (by kernel_rfl) ⟨⟨rfl, tr⟩, tr⟩ (of_decide_eq_true (by kernel_rfl))⟩
    · refine AW.cond_f rfl b7 ?_
      refine AW.skip ?_
      refine thenQ_normal ?_
      refine AW.seq (AW.rA ⟨[(0, (vc (sl 5 cs_Key a0))), (1, (vc (.int .i64 (IntKind.i64.wrap (x3 + (1 : Int)))))), (5, (vc (.int .i64 x4)))], []⟩ (Tt ∧ T2 Tt) [] [0, 1, 5] [] ⟨tr, tr, tr, tr⟩ (thenQ_normal ?_))
      refine AW.seq ?_
      refine AW.seq (AW.rA ⟨[(0, (vc (sl 5 cs_Key a0))), (1, (vc (.int .i64 (IntKind.i64.wrap (x3 + (1 : Int)))))), (5, (vc (.int .i64 x4))), (29, (vc (.bool ((((a0.getD x4.toNat default).Turn).W).ne (Fl.ofInt .f32 (IntKind.i64.wrap (x3 + (1 : Int))))))))], []⟩ (T2 ((0 ≤ x4 ∧ x4 < (a0.length : Int)) ∧ T2 (T4 Tt))) [] [0, 1, 5, 29] [] ⟨tr, tr, c6, tr, tr, tr, tr, tr, tr, tr⟩ (thenQ_normal ?_))
      rcases ite2_cases h with ⟨b8, h⟩ | ⟨b8, h⟩
      · refine AW.cond_t rfl b8 ?_
        refine AW.seq (AW.rA ⟨[(4, (vc (.int .i64 ((-1) : Int))))], []⟩ (Tt ∧ Tt) [] [4] [] ⟨tr, tr⟩ (thenQ_normal ?_))
        refine AW.ret ?_
        refine thenQ_ret ?_
        refine blockQ_ret ?_
        refine thenQ_ret ?_
        refine loopQ_ret ?_
        refine blockQ_ret ?_
        refine thenQ_ret ?_
        replace h := some_eq h
        subst h
        exact ⟨.inr rfl, retOK_of [(.one (.c (.int .i64 ((-1) : Int))))] (by kernel_rfl) ⟨⟨rfl, tr⟩, tr⟩ (of_decide_eq_true (by kernel_rfl))⟩
      · refine AW.cond_f rfl b8 ?_
        refine AW.skip ?_
        refine thenQ_normal ?_
        refine AW.seq (AW.rA ⟨[(0, (vc (sl 5 cs_Key a0))), (1, (vc (.int .i64 (IntKind.i64.wrap ((IntKind.i64.wrap (x3 + (1 : Int))) + (1 : Int)))))), (5, (vc (.int .i64 x4)))], []⟩ (Tt ∧ T2 Tt) [] [0, 1, 5] [] ⟨tr, tr, tr, tr⟩ (thenQ_normal ?_))
        refine AW.seq ?_
        refine AW.seq (AW.rA ⟨[(0, (vc (sl 5 cs_Key a0))), (1, (vc (.int .i64 (IntKind.i64.wrap ((IntKind.i64.wrap (x3 + (1 : Int))) + (1 : Int)))))), (5, (vc (.int .i64 x4))), (40, (vc (.bool ((((a0.getD x4.toNat default).Turn).X).ne (Fl.ofInt .f32 (IntKind.i64.wrap ((IntKind.i64.wrap (x3 + (1 : Int))) + (1 : Int))))))))], []⟩ (T2 ((0 ≤ x4 ∧ x4 < (a0.length : Int)) ∧ T2 (T4 Tt))) [] [0, 1, 5, 40] [] ⟨tr, tr, c6, tr, tr, tr, tr, tr, tr, tr⟩ (thenQ_normal ?_))
        rcases ite2_cases h with ⟨b9, h⟩ | ⟨b9, h⟩
        · refine AW.cond_t rfl b9 ?_
          refine AW.seq (AW.rA ⟨[(4, (vc (.int .i64 ((-1) : Int))))], []⟩ (Tt ∧ Tt) [] [4] [] ⟨tr, tr⟩ (thenQ_normal ?_))
          refine AW.ret ?_
          refine thenQ_ret ?_
          refine blockQ_ret ?_
          refine thenQ_ret ?_
          refine loopQ_ret ?_
          refine blockQ_ret ?_
          refine thenQ_ret ?_
          replace h := some_eq h
          subst h
          exact ⟨.inr rfl, retOK_of [(.one (.c (.int .i64 ((-1) : Int))))] (by kernel_rfl) ⟨⟨rfl, tr⟩, tr⟩ (of_decide_eq_true (by kernel_rfl))⟩
        · refine AW.cond_f rfl b9 ?_
          refine AW.skip ?_
          refine thenQ_normal ?_
          refine AW.seq (AW.rA ⟨[(0, (vc (sl 5 cs_Key a0))), (1, (vc (.int .i64 (IntKind.i64.wrap ((IntKind.i64.wrap ((IntKind.i64.wrap (x3 + (1 : Int))) + (1 : Int))) + (1 : Int)))))), (5, (vc (.int .i64 x4)))], []⟩ (Tt ∧ T2 Tt) [] [0, 1, 5] [] ⟨tr, tr, tr, tr⟩ (thenQ_normal ?_))
          refine AW.seq ?_
          refine AW.seq (AW.rA ⟨[(0, (vc (sl 5 cs_Key a0))), (1, (vc (.int .i64 (IntKind.i64.wrap ((IntKind.i64.wrap ((IntKind.i64.wrap (x3 + (1 : Int))) + (1 : Int))) + (1 : Int)))))), (5, (vc (.int .i64 x4))), (51, (vc (.bool ((((a0.getD x4.toNat default).Turn).Y).ne (Fl.ofInt .f32 (IntKind.i64.wrap ((IntKind.i64.wrap ((IntKind.i64.wrap (x3 + (1 : Int))) + (1 : Int))) + (1 : Int))))))))], []⟩ (T2 ((0 ≤ x4 ∧ x4 < (a0.length : Int)) ∧ T2 (T4 Tt))) [] [0, 1, 5, 51] [] ⟨tr, tr, c6, tr, tr, tr, tr, tr, tr, tr⟩ (thenQ_normal ?_))
          rcases ite2_cases h with ⟨b10, h⟩ | ⟨b10, h⟩
          · refine AW.cond_t rfl b10 ?_
            refine AW.seq (AW.rA ⟨[(4, (vc (.int .i64 ((-1) : Int))))], []⟩ (Tt ∧ Tt) [] [4] [] ⟨tr, tr⟩ (thenQ_normal ?_))
            refine AW.ret ?_
            refine thenQ_ret ?_
            refine blockQ_ret ?_
            refine thenQ_ret ?_
            refine loopQ_ret ?_
            refine blockQ_ret ?_
            refine thenQ_ret ?_
            replace h := some_eq h
            subst h
            exact ⟨.inr rfl, retOK_of [(.one (.c (.int .i64 ((-1) : Int))))] (by kernel_rfl) ⟨⟨rfl, tr⟩, tr⟩ (of_decide_eq_true (by kernel_rfl))⟩
          · refine AW.cond_f rfl b10 ?_
            refine AW.skip ?_
            refine thenQ_normal ?_
            refine AW.seq (AW.rA ⟨[(0, (vc (sl 5 cs_Key a0))), (1, (vc (.int .i64 (IntKind.i64.wrap ((IntKind.i64.wrap ((IntKind.i64.wrap ((IntKind.i64.wrap (x3 + (1 : Int))) + (1 : Int))) + (1 : Int))) + (1 : Int)))))), (5, (vc (.int .i64 x4)))], []⟩ (Tt ∧ T2 Tt) [] [0, 1, 5] [] ⟨tr, tr, tr, tr⟩ (thenQ_normal ?_))
            refine AW.seq ?_
            refine AW.seq (AW.rA ⟨[(0, (vc (sl 5 cs_Key a0))), (1, (vc (.int .i64 (IntKind.i64.wrap ((IntKind.i64.wrap ((IntKind.i64.wrap ((IntKind.i64.wrap (x3 + (1 : Int))) + (1 : Int))) + (1 : Int))) + (1 : Int)))))), (5, (vc (.int .i64 x4))), (62, (vc (.bool ((((a0.getD x4.toNat default).Turn).Z).ne (Fl.ofInt .f32 (IntKind.i64.wrap ((IntKind.i64.wrap ((IntKind.i64.wrap ((IntKind.i64.wrap (x3 + (1 : Int))) + (1 : Int))) + (1 : Int))) + (1 : Int))))))))], []⟩ (T2 ((0 ≤ x4 ∧ x4 < (a0.length : Int)) ∧ T2 (T4 Tt))) [] [0, 1, 5, 62] [] ⟨tr, tr, c6, tr, tr, tr, tr, tr, tr, tr⟩ (thenQ_normal ?_))
            rcases ite2_cases h with ⟨b11, h⟩ | ⟨b11, h⟩
            · refine AW.cond_t rfl b11 ?_
              refine AW.seq (AW.rA ⟨[(4, (vc (.int .i64 ((-1) : Int))))], []⟩ (Tt ∧ Tt) [] [4] [] ⟨tr, tr⟩ (thenQ_normal ?_))
              refine AW.ret ?_
              refine thenQ_ret ?_
              refine blockQ_ret ?_
              refine thenQ_ret ?_
              refine loopQ_ret ?_
              refine blockQ_ret ?_
              refine thenQ_ret ?_
              replace h := some_eq h
              subst h
              exact ⟨.inr rfl, retOK_of [(.one (.c (.int .i64 ((-1) : Int))))] (by kernel_rfl) ⟨⟨rfl, tr⟩, tr⟩ (of_decide_eq_true (by kernel_rfl))⟩
            · refine AW.cond_f rfl b11 ?_
              refine AW.skip ?_
              refine thenQ_normal ?_
              refine AW.rA ⟨[(0, (vc (sl 5 cs_Key a0))), (1, (vc (.int .i64 (IntKind.i64.wrap ((IntKind.i64.wrap ((IntKind.i64.wrap ((IntKind.i64.wrap ((IntKind.i64.wrap (x3 + (1 : Int))) + (1 : Int))) + (1 : Int))) + (1 : Int))) + (1 : Int)))))), (5, (vc (.int .i64 x4)))], []⟩ (Tt ∧ T2 Tt) [] [0, 1, 5] [] ⟨tr, tr, tr, tr⟩ ?_
              refine blockQ_normal ?_
              refine thenQ_normal ?_
              refine AW.rA ⟨[(0, (vc (sl 5 cs_Key a0))), (1, (vc (.int .i64 (IntKind.i64.wrap ((IntKind.i64.wrap ((IntKind.i64.wrap ((IntKind.i64.wrap ((IntKind.i64.wrap (x3 + (1 : Int))) + (1 : Int))) + (1 : Int))) + (1 : Int))) + (1 : Int)))))), (5, (vc (.int .i64 (IntKind.i64.wrap (x4 + (1 : Int))))))], []⟩ (Tt ∧ T2 Tt) [] [0, 1, 5] [] ⟨tr, tr, tr, tr⟩ ?_
              exact loopQ_normal (k, (IntKind.i64.wrap ((IntKind.i64.wrap ((IntKind.i64.wrap ((IntKind.i64.wrap ((IntKind.i64.wrap (x3 + (1 : Int))) + (1 : Int))) + (1 : Int))) + (1 : Int))) + (1 : Int))), (IntKind.i64.wrap (x4 + (1 : Int)))) h (Nat.lt_succ_self k) (Sub.keep [0, 1, 5] [] (by kernel_rfl) (by kernel_rfl))
  · refine AW.cond_f rfl b5 ?_
    refine AW.exit ?_
    refine thenQ_exit ?_
    refine loopQ_exit ?_
    refine blockQ_exit ?_
    refine thenQ_normal ?_
    refine AW.seq (AW.rA ⟨[(4, (vc (.int .i64 x3)))], []⟩ (T2 Tt) [] [4] [] ⟨tr, tr, tr⟩ (thenQ_normal ?_))
    refine AW.ret ?_
    replace h := some_eq h
    subst h
    exact ⟨.inr rfl, retOK_of [(.one (.c (.int .i64 x3)))] (by kernel_rfl) ⟨⟨rfl, tr⟩, tr⟩ (of_decide_eq_true (by kernel_rfl))⟩

/-! laws.heldKeySS -/
def laws_heldKeySS_l1 (K : Nat) (a0 : (List (List Key))) : Nat → Int → Int → Option (Int)
  | 0, _, _ => none
  | k + 1, x3, x4 => ite2 ((decide (x4 < (a0.length : Int)))) (chk (0 ≤ x4 ∧ x4 < (a0.length : Int)) ((laws_heldKeyS K (a0.getD x4.toNat default) x3).bind fun v7 => ite2 ((decide (v7 < (0 : Int)))) (some ((-1) : Int)) (laws_heldKeySS_l1 K a0 k v7 (IntKind.i64.wrap (x4 + (1 : Int)))))) (some x3)

def laws_heldKeySS (K : Nat) (a0 : (List (List Key))) (a1 : Int) : Option (Int) :=
  laws_heldKeySS_l1 K a0 K a1 (0 : Int)

theorem ok_laws_heldKeySS (K : Nat) (a0 : (List (List Key))) (a1 : Int) (o : (Int)) (h : laws_heldKeySS K a0 a1 = some o) : CallOK Try.prog 72 [.one (sl 1 (csL 5 cs_Key) a0), .one (.int .i64 a1)] [.one (.int .i64 o)] := by
  refine callOK_of_AW Try.func72 rfl (by kernel_rfl) (Nat.le_of_ble_eq_true (by kernel_rfl)) ?_
  intro w0
  unfold laws_heldKeySS at h
  refine AW.seq (AW.rA ⟨[(0, (vc (sl 1 (csL 5 cs_Key) a0))), (1, (vc (.int .i64 a1)))], []⟩ (Tt ∧ Tt) [] [0, 1] [] ⟨tr, tr⟩ (thenQ_normal ?_))
  refine AW.seq ?_
  refine AW.seq (AW.rA ⟨[(0, (vc (sl 1 (csL 5 cs_Key) a0))), (1, (vc (.int .i64 a1))), (5, (vc (.int .i64 (0 : Int))))], []⟩ (Tt ∧ Tt) [] [0, 1, 5] [] ⟨tr, tr⟩ (thenQ_normal ?_))
  refine AW.block ?_
  refine AW.loopQ (σ := Nat × Int × Int) (fun p => ⟨[(0, (vc (sl 1 (csL 5 cs_Key) a0))), (1, (vc (.int .i64 p.2.1))), (5, (vc (.int .i64 p.2.2)))], []⟩) (fun p => laws_heldKeySS_l1 K a0 p.1 p.2.1 p.2.2 = some o) (fun p => p.1) (K, a1, (0 : Int)) h ?_
  clear h
  rintro ⟨k, x3, x4⟩ h
  replace h : laws_heldKeySS_l1 K a0 k x3 x4 = some o := h
  show AW _ _ (⟨[(0, (vc (sl 1 (csL 5 cs_Key) a0))), (1, (vc (.int .i64 x3))), (5, (vc (.int .i64 x4)))], []⟩ : St) _
  obtain _ | k := k
  · rw [laws_heldKeySS_l1] at h; cases h
  rw [laws_heldKeySS_l1] at h
  refine AW.seq ?_
  refine AW.seq (AW.rA ⟨[(0, (vc (sl 1 (csL 5 cs_Key) a0))), (1, (vc (.int .i64 x3))), (5, (vc (.int .i64 x4))), (9, (vc (.bool (decide (x4 < (a0.length : Int))))))], []⟩ (T4 Tt) [] [0, 1, 5, 9] [] ⟨tr, tr, tr, tr, tr⟩ (thenQ_normal ?_))
  rcases ite2_cases h with ⟨b5, h⟩ | ⟨b5, h⟩
  · refine AW.cond_t rfl b5 ?_
    refine AW.skip ?_
    refine thenQ_normal ?_
    refine AW.seq ?_
    refine AW.block ?_
    refine AW.seq ?_
    obtain ⟨c6, h⟩ := chk_some h
    obtain ⟨v7, e8, h⟩ := bind_some h
    refine AW.rA ⟨[(0, (vc (sl 1 (csL 5 cs_Key) a0))), (1, (vc (.int .i64 v7))), (5, (vc (.int .i64 x4)))], []⟩ (T2 ((0 ≤ x4 ∧ x4 < (a0.length : Int)) ∧ T2 ((((Eqc (sl 5 cs_Key (a0.getD x4.toNat default))) ∧ (Eqc (.int .i64 x3)) ∧ Tt) ∧ CallOK Try.prog 145 [.one (sl 5 cs_Key (a0.getD x4.toNat default)), .one (.int .i64 x3)] [.one (.int .i64 v7)]) ∧ Tt ∧ Tt))) [.no, .no, .no, .no, .no, .call [.one (sl 5 cs_Key (a0.getD x4.toNat default)), .one (.int .i64 x3)] [.one (.int .i64 v7)] [[.view]]] [0, 1, 5] [] ⟨tr, tr, c6, tr, tr, ⟨⟨rfl, rfl, tr⟩, ok_laws_heldKeyS K (a0.getD x4.toNat default) x3 v7 e8⟩, tr, tr⟩ ?_
    refine thenQ_normal ?_
    refine AW.seq (AW.rA ⟨[(0, (vc (sl 1 (csL 5 cs_Key) a0))), (1, (vc (.int .i64 v7))), (5, (vc (.int .i64 x4))), (19, (vc (.bool (decide (v7 < (0 : Int))))))], []⟩ (T2 Tt) [] [0, 1, 5, 19] [] ⟨tr, tr, tr⟩ (thenQ_normal ?_))
    rcases ite2_cases h with ⟨b9, h⟩ | ⟨b9, h⟩
    · refine AW.cond_t rfl b9 ?_
      refine AW.seq (AW.rA ⟨[(4, (vc (.int .i64 ((-1) : Int))))], []⟩ (Tt ∧ Tt) [] [4] [] ⟨tr, tr⟩ (thenQ_normal ?_))
      refine AW.ret ?_
      refine blockQ_ret ?_
      refine thenQ_ret ?_
      refine loopQ_ret ?_
      refine blockQ_ret ?_
      refine thenQ_ret ?_
      replace h := some_eq h
      subst h
      exact ⟨.inr rfl, retOK_of [(.one (.c (.int .i64 ((-1) : Int))))] (by kernel_rfl) ⟨⟨rfl, tr⟩, tr⟩ (of_decide_eq_true (by kernel_rfl))⟩
    · refine AW.cond_f rfl b9 ?_
      refine AW.skip ?_
      refine blockQ_normal ?_
      refine thenQ_normal ?_
      refine AW.rA ⟨[(0, (vc (sl 1 (csL 5 cs_Key) a0))), (1, (vc (.int .i64 v7))), (5, (vc (.int .i64 (IntKind.i64.wrap (x4 + (1 : Int))))))], []⟩ (Tt ∧ T2 Tt) [] [0, 1, 5] [] ⟨tr, tr, tr, tr⟩ ?_
      exact loopQ_normal (k, v7, (IntKind.i64.wrap (x4 + (1 : Int)))) h (Nat.lt_succ_self k) (Sub.keep [0, 1, 5] [] (by kernel_rfl) (by kernel_rfl))
  · refine AW.cond_f rfl b5 ?_
    refine AW.exit ?_
    refine thenQ_exit ?_
    refine loopQ_exit ?_
    refine blockQ_exit ?_
    refine thenQ_normal ?_
    refine AW.seq (AW.rA ⟨[(4, (vc (.int .i64 x3)))], []⟩ (T2 Tt) [] [4] [] ⟨tr, tr, tr⟩ (thenQ_normal ?_))
    refine AW.ret ?_
    replace h := some_eq h
    subst h
    exact ⟨.inr rfl, retOK_of [(.one (.c (.int .i64 x3)))] (by kernel_rfl) ⟨⟨rfl, tr⟩, tr⟩ (of_decide_eq_true (by kernel_rfl))⟩

end
end Go.Fw
