/- Functions of the program: what each computes, and that it computes just that. -/
import Derived.Test.YtihokgnenjemmaaFwTy
import Derived.Test.YtihokgnenjemmaaFwH
import Derived.Test.YtihokgnenjemmaaFwV
import Derived.Test.YtihokgnenjemmaaFwC41
import Derived.Test.YtihokgnenjemmaaFwUB
import Derived.Test.YtihokgnenjemmaaProg
import Derived.KernelRfl
namespace Go.Fw
open Go Go.Proofs
noncomputable section
set_option maxRecDepth 10000

/-! (impl.track[impl.Key]).stretch -/
def impl_track_impl_Key_stretch_l1 (K : Nat) (a1 : (List Key)) (a2 : Int) : Nat → Int → (List Key) → Option ((List Key))
  | 0, _, _ => none
  | k + 1, x3, x4 => ite2 ((decide (x3 < (a1.length : Int)))) (chk (0 ≤ x3 ∧ x3 < (a1.length : Int)) ((impl_turnTrack_1 K (a1.getD x3.toNat default)).bind fun v7 => (impl_turnTrack_2 K (a1.getD x3.toNat default) (IntKind.i64.wrap (v7 * a2))).bind fun v9 => chk ((x4.length + ([v9]).length) * 24 ≤ 140737488355328) (impl_track_impl_Key_stretch_l1 K a1 a2 k (IntKind.i64.wrap (x3 + (1 : Int))) (x4 ++ ([v9]))))) (some x4)

def impl_track_impl_Key_stretch (K : Nat) (a1 : (List Key)) (a2 : Int) : Option ((List Key)) :=
  impl_track_impl_Key_stretch_l1 K a1 a2 K (0 : Int) ([] : (List Key))

theorem ok_impl_track_impl_Key_stretch (K : Nat) (a1 : (List Key)) (a2 : Int) (o : ((List Key))) (h : impl_track_impl_Key_stretch K a1 a2 = some o) : CallOK Try.prog 77 [.agg [(.fn 146 0 fun _ => .nilptr), (.fn 147 0 fun _ => .nilptr), (.fn 148 0 fun _ => .nilptr)], .one (sl 5 cs_Key a1), .one (.int .i64 a2)] [.one (sl 5 cs_Key o)] := by
  refine callOK_of_AW Try.func77 rfl (by kernel_rfl) (Nat.le_of_ble_eq_true (by kernel_rfl)) ?_
  intro w0
  unfold impl_track_impl_Key_stretch at h
  refine AW.seq ?_
  refine AW.regionA [.box 1] [1, 2, 3] [1] (s' := ⟨[(1, (.v (.one (.c (sl 5 cs_Key a1))))), (2, (.v (.one (.c (.int .i64 a2))))), (3, (.v (.one (.ptr 1 0))))], [(1, (.box [(.c (.fn 146 0 fun _ => .nilptr)), (.c (.fn 147 0 fun _ => .nilptr)), (.c (.fn 148 0 fun _ => .nilptr))]))]⟩) (ob := True ∧ True ∧ True) (by kernel_rfl) ⟨trivial, trivial, trivial⟩ ?_
  refine thenQ_normal ?_
  refine AW.seq ?_
  refine AW.regionA [] [1, 2, 3, 7] [1] (s' := ⟨[(1, (.v (.one (.c (sl 5 cs_Key a1))))), (2, (.v (.one (.c (.int .i64 a2))))), (3, (.v (.one (.ptr 1 0)))), (7, (.v (.one .nils)))], [(1, (.box [(.c (.fn 146 0 fun _ => .nilptr)), (.c (.fn 147 0 fun _ => .nilptr)), (.c (.fn 148 0 fun _ => .nilptr))]))]⟩) (ob := True ∧ True) (by kernel_rfl) ⟨trivial, trivial⟩ ?_
  refine thenQ_normal ?_
  refine AW.seq ?_
  refine AW.seq ?_
  refine AW.regionA [] [2, 3, 7, 10, 11, 12] [1] (s' := ⟨[(2, (.v (.one (.c (.int .i64 a2))))), (3, (.v (.one (.ptr 1 0)))), (7, (.v (.one .nils))), (10, (.v (.one (.c (sl 5 cs_Key a1))))), (11, (.v (.one (.c (.int .i64 (a1.length : Int)))))), (12, (.v (.one (.c (.int .i64 (0 : Int))))))], [(1, (.box [(.c (.fn 146 0 fun _ => .nilptr)), (.c (.fn 147 0 fun _ => .nilptr)), (.c (.fn 148 0 fun _ => .nilptr))]))]⟩) (ob := True ∧ True ∧ True ∧ True) (by kernel_rfl) ⟨trivial, trivial, trivial, trivial⟩ ?_
  refine thenQ_normal ?_
  refine AW.block ?_
  refine AW.weak (s' := ⟨[(2, (.v (.one (.c (.int .i64 a2))))), (3, (.v (.one (.ptr 1 0)))), (7, (.v (.one (.lst 5 ([] : (List Key)).length 5 (gl cs_Key ([] : (List Key))))))), (10, (.v (.one (.c (sl 5 cs_Key a1))))), (11, (.v (.one (.c (.int .i64 (a1.length : Int)))))), (12, (.v (.one (.c (.int .i64 (0 : Int))))))], [(1, (.box [(.c (.fn 146 0 fun _ => .nilptr)), (.c (.fn 147 0 fun _ => .nilptr)), (.c (.fn 148 0 fun _ => .nilptr))])), (5, (.lst ([] : (List Key)).length 5 (gl cs_Key ([] : (List Key)))))]⟩) (Sub.trans (Sub.unnil 5 5 (gl cs_Key ([] : (List Key))) [7] [] _ (by kernel_rfl) (by kernel_rfl)) (Sub.keep [2, 3, 7, 10, 11, 12] [1, 5] (by kernel_rfl) (by kernel_rfl))) ?_
  refine AW.loopQ (σ := Nat × Int × (List Key)) (fun p => ⟨[(2, (.v (.one (.c (.int .i64 a2))))), (3, (.v (.one (.ptr 1 0)))), (7, (.v (.one (.lst 5 p.2.2.length 5 (gl cs_Key p.2.2))))), (10, (.v (.one (.c (sl 5 cs_Key a1))))), (11, (.v (.one (.c (.int .i64 (a1.length : Int)))))), (12, (.v (.one (.c (.int .i64 p.2.1)))))], [(1, (.box [(.c (.fn 146 0 fun _ => .nilptr)), (.c (.fn 147 0 fun _ => .nilptr)), (.c (.fn 148 0 fun _ => .nilptr))])), (5, (.lst p.2.2.length 5 (gl cs_Key p.2.2)))]⟩) (fun p => impl_track_impl_Key_stretch_l1 K a1 a2 p.1 p.2.1 p.2.2 = some o) (fun p => p.1) (K, (0 : Int), ([] : (List Key))) h ?_
  clear h
  rintro ⟨k, x3, x4⟩ h
  replace h : impl_track_impl_Key_stretch_l1 K a1 a2 k x3 x4 = some o := h
  show AW _ _ (⟨[(2, (.v (.one (.c (.int .i64 a2))))), (3, (.v (.one (.ptr 1 0)))), (7, (.v (.one (.lst 5 x4.length 5 (gl cs_Key x4))))), (10, (.v (.one (.c (sl 5 cs_Key a1))))), (11, (.v (.one (.c (.int .i64 (a1.length : Int)))))), (12, (.v (.one (.c (.int .i64 x3)))))], [(1, (.box [(.c (.fn 146 0 fun _ => .nilptr)), (.c (.fn 147 0 fun _ => .nilptr)), (.c (.fn 148 0 fun _ => .nilptr))])), (5, (.lst x4.length 5 (gl cs_Key x4)))]⟩ : St) _
  obtain _ | k := k
  · rw [impl_track_impl_Key_stretch_l1] at h; cases h
  rw [impl_track_impl_Key_stretch_l1] at h
  refine AW.seq ?_
  refine AW.regionA [] [2, 3, 7, 10, 11, 12, 13] [1, 5] (s' := ⟨[(2, (.v (.one (.c (.int .i64 a2))))), (3, (.v (.one (.ptr 1 0)))), (7, (.v (.one (.lst 5 x4.length 5 (gl cs_Key x4))))), (10, (.v (.one (.c (sl 5 cs_Key a1))))), (11, (.v (.one (.c (.int .i64 (a1.length : Int)))))), (12, (.v (.one (.c (.int .i64 x3))))), (13, (.v (.one (.c (.bool (decide (x3 < (a1.length : Int))))))))], [(1, (.box [(.c (.fn 146 0 fun _ => .nilptr)), (.c (.fn 147 0 fun _ => .nilptr)), (.c (.fn 148 0 fun _ => .nilptr))])), (5, (.lst x4.length 5 (gl cs_Key x4)))]⟩) (ob := True ∧ True) (by kernel_rfl) ⟨trivial, trivial⟩ ?_
  refine thenQ_normal ?_
  refine AW.seq ?_
  rcases ite2_cases h with ⟨b5, h⟩ | ⟨b5, h⟩
  · refine AW.cond_t rfl b5 ?_
    refine AW.skip ?_
    refine thenQ_normal ?_
    refine AW.seq ?_
    refine AW.block ?_
    refine AW.seq ?_
    obtain ⟨c6, h⟩ := chk_some h
    refine AW.regionA [.no, .no, .box 12] [2, 3, 7, 9, 10, 11, 12] [1, 5, 12] (s' := ⟨[(2, (.v (.one (.c (.int .i64 a2))))), (3, (.v (.one (.ptr 1 0)))), (7, (.v (.one (.lst 5 x4.length 5 (gl cs_Key x4))))), (9, (.v (.one (.ptr 12 0)))), (10, (.v (.one (.c (sl 5 cs_Key a1))))), (11, (.v (.one (.c (.int .i64 (a1.length : Int)))))), (12, (.v (.one (.c (.int .i64 x3)))))], [(1, (.box [(.c (.fn 146 0 fun _ => .nilptr)), (.c (.fn 147 0 fun _ => .nilptr)), (.c (.fn 148 0 fun _ => .nilptr))])), (5, (.lst x4.length 5 (gl cs_Key x4))), (12, (.box [(.c (.int .i64 ((a1.getD x3.toNat default).At))), (.c (.flt .f32 (((a1.getD x3.toNat default).Turn).W).bits)), (.c (.flt .f32 (((a1.getD x3.toNat default).Turn).X).bits)), (.c (.flt .f32 (((a1.getD x3.toNat default).Turn).Y).bits)), (.c (.flt .f32 (((a1.getD x3.toNat default).Turn).Z).bits))]))]⟩) (ob := (0 ≤ x3 ∧ x3 < (a1.length : Int)) ∧ True ∧ True ∧ True ∧ True) (by kernel_rfl) ⟨c6, trivial, trivial, trivial, trivial⟩ ?_
    refine thenQ_normal ?_
    obtain ⟨v7, e8, h⟩ := bind_some h
    obtain ⟨v9, e10, h⟩ := bind_some h
    obtain ⟨c11, h⟩ := chk_some h
    refine AW.drawnA (by kernel_rfl) 13 [.no, .no, .no, .no, .no, .no, .no, .call [.agg (cs_Key (a1.getD x3.toNat default))] [.one (.int .i64 v7)] [[.view]], .no, .no, .call [.agg (cs_Key (a1.getD x3.toNat default)), .one (.int .i64 (IntKind.i64.wrap (v7 * a2)))] [.agg (cs_Key v9)] [[.view, .view, .view, .view, .view]], .obj 13 ([v9]).length (gl cs_Key ([v9])), .objK 14 (x4 ++ ([v9])).length (gl cs_Key (x4 ++ ([v9])))] [2, 3, 7, 10, 11, 12] [1, 14] (s' := ⟨[(2, (.v (.one (.c (.int .i64 a2))))), (3, (.v (.one (.ptr 1 0)))), (7, (.v (.one (.lst 14 (x4 ++ ([v9])).length 5 (gl cs_Key (x4 ++ ([v9]))))))), (10, (.v (.one (.c (sl 5 cs_Key a1))))), (11, (.v (.one (.c (.int .i64 (a1.length : Int)))))), (12, (.v (.one (.c (.int .i64 x3)))))], [(1, (.box [(.c (.fn 146 0 fun _ => .nilptr)), (.c (.fn 147 0 fun _ => .nilptr)), (.c (.fn 148 0 fun _ => .nilptr))])), (14, (.lst (x4 ++ ([v9])).length 5 (gl cs_Key (x4 ++ ([v9])))))]⟩) (ob := (True ∧ True ∧ True ∧ True ∧ True ∧ True ∧ True ∧ ((((((.int .i64 ((a1.getD x3.toNat default).At)) : C) = (.int .i64 ((a1.getD x3.toNat default).At))) ∧ (((.flt .f32 (((a1.getD x3.toNat default).Turn).W).bits) : C) = (.flt .f32 (((a1.getD x3.toNat default).Turn).W).bits)) ∧ (((.flt .f32 (((a1.getD x3.toNat default).Turn).X).bits) : C) = (.flt .f32 (((a1.getD x3.toNat default).Turn).X).bits)) ∧ (((.flt .f32 (((a1.getD x3.toNat default).Turn).Y).bits) : C) = (.flt .f32 (((a1.getD x3.toNat default).Turn).Y).bits)) ∧ (((.flt .f32 (((a1.getD x3.toNat default).Turn).Z).bits) : C) = (.flt .f32 (((a1.getD x3.toNat default).Turn).Z).bits)) ∧ True) ∧ True) ∧ CallOK Try.prog 146 [.agg (cs_Key (a1.getD x3.toNat default))] [.one (.int .i64 v7)]) ∧ True ∧ True ∧ ((((((.int .i64 ((a1.getD x3.toNat default).At)) : C) = (.int .i64 ((a1.getD x3.toNat default).At))) ∧ (((.flt .f32 (((a1.getD x3.toNat default).Turn).W).bits) : C) = (.flt .f32 (((a1.getD x3.toNat default).Turn).W).bits)) ∧ (((.flt .f32 (((a1.getD x3.toNat default).Turn).X).bits) : C) = (.flt .f32 (((a1.getD x3.toNat default).Turn).X).bits)) ∧ (((.flt .f32 (((a1.getD x3.toNat default).Turn).Y).bits) : C) = (.flt .f32 (((a1.getD x3.toNat default).Turn).Y).bits)) ∧ (((.flt .f32 (((a1.getD x3.toNat default).Turn).Z).bits) : C) = (.flt .f32 (((a1.getD x3.toNat default).Turn).Z).bits)) ∧ True) ∧ (((.int .i64 (IntKind.i64.wrap (v7 * a2))) : C) = (.int .i64 (IntKind.i64.wrap (v7 * a2)))) ∧ True) ∧ CallOK Try.prog 147 [.agg (cs_Key (a1.getD x3.toNat default)), .one (.int .i64 (IntKind.i64.wrap (v7 * a2)))] [.agg (cs_Key v9)]) ∧ (([v9]).length = 1 ∧ (((.int .i64 v9.At) : C) = (.int .i64 v9.At) ∧ True) ∧ (((.flt .f32 v9.Turn.W.bits) : C) = (.flt .f32 v9.Turn.W.bits) ∧ True) ∧ (((.flt .f32 v9.Turn.X.bits) : C) = (.flt .f32 v9.Turn.X.bits) ∧ True) ∧ (((.flt .f32 v9.Turn.Y.bits) : C) = (.flt .f32 v9.Turn.Y.bits) ∧ True) ∧ (((.flt .f32 v9.Turn.Z.bits) : C) = (.flt .f32 v9.Turn.Z.bits) ∧ True) ∧ True) ∧ ((x4 ++ ([v9])).length = x4.length + ([v9]).length ∧ AppOb (x4.length) (([v9]).length) 5 (gl cs_Key x4) (gl cs_Key ([v9])) (gl cs_Key (x4 ++ ([v9]))) ∧ (∀ i j, i < ([v9]).length → j < 5 → scalarC (gl cs_Key ([v9]) i j)) ∧ (x4.length + ([v9]).length) * 24 ≤ 140737488355328) ∧ True) ∧ (True ∧ True)) (by kernel_rfl) ⟨⟨trivial, trivial, trivial, trivial, trivial, trivial, trivial, ⟨⟨⟨rfl, rfl, rfl, rfl, rfl, trivial⟩, trivial⟩, ok_impl_turnTrack_1 K (a1.getD x3.toNat default) v7 e8⟩, trivial, trivial, ⟨⟨⟨rfl, rfl, rfl, rfl, rfl, trivial⟩, rfl, trivial⟩, ok_impl_turnTrack_2 K (a1.getD x3.toNat default) (IntKind.i64.wrap (v7 * a2)) v9 e10⟩, ⟨rfl, ⟨⟨rfl, trivial⟩, ⟨rfl, trivial⟩, ⟨rfl, trivial⟩, ⟨rfl, trivial⟩, ⟨rfl, trivial⟩, trivial⟩⟩, ⟨List.length_append, gl_append, gl_scalar sc_Key _, c11⟩, trivial⟩, ⟨trivial, trivial⟩⟩ ?_
    refine blockQ_normal ?_
    refine thenQ_normal ?_
    refine AW.regionA [] [2, 3, 7, 10, 11, 12] [1, 14] (s' := ⟨[(2, (.v (.one (.c (.int .i64 a2))))), (3, (.v (.one (.ptr 1 0)))), (7, (.v (.one (.lst 14 (x4 ++ ([v9])).length 5 (gl cs_Key (x4 ++ ([v9]))))))), (10, (.v (.one (.c (sl 5 cs_Key a1))))), (11, (.v (.one (.c (.int .i64 (a1.length : Int)))))), (12, (.v (.one (.c (.int .i64 (IntKind.i64.wrap (x3 + (1 : Int))))))))], [(1, (.box [(.c (.fn 146 0 fun _ => .nilptr)), (.c (.fn 147 0 fun _ => .nilptr)), (.c (.fn 148 0 fun _ => .nilptr))])), (14, (.lst (x4 ++ ([v9])).length 5 (gl cs_Key (x4 ++ ([v9])))))]⟩) (ob := True ∧ True ∧ True) (by kernel_rfl) ⟨trivial, trivial, trivial⟩ ?_
    exact loopQ_normal (k, (IntKind.i64.wrap (x3 + (1 : Int))), (x4 ++ ([v9]))) h (Nat.lt_succ_self k) (Sub.trans (Sub.swap 5 14 _ (by kernel_rfl) (by kernel_rfl)) (Sub.keep [2, 3, 7, 10, 11, 12] [1, 5] (by kernel_rfl) (by kernel_rfl)))
  · refine AW.cond_f rfl b5 ?_
    refine AW.exit ?_
    refine thenQ_exit ?_
    refine loopQ_exit ?_
    refine blockQ_exit ?_
    refine thenQ_normal ?_
    refine AW.seq ?_
    refine AW.regionA [] [6] [5] (s' := ⟨[(6, (.v (.one (.lst 5 x4.length 5 (gl cs_Key x4)))))], [(5, (.lst x4.length 5 (gl cs_Key x4)))]⟩) (ob := True ∧ True ∧ True) (by kernel_rfl) ⟨trivial, trivial, trivial⟩ ?_
    refine thenQ_normal ?_
    refine AW.ret ?_
    replace h := some_eq h
    subst h
    exact ⟨.inr rfl, retOK_of [(.one (.lst 5 x4.length 5 (gl cs_Key x4)))] (by kernel_rfl) ⟨rfl, trivial⟩ (of_decide_eq_true (by kernel_rfl))⟩

/-! impl.StretchClip$1 -/
def impl_StretchClip_1 (K : Nat) (a0 : Int) (a1 : (List Key)) (a2 : Int) : Option ((List Key)) :=
  (impl_turnTrack K ).bind fun v1 => (impl_track_impl_Key_stretch K a1 a2).bind fun v3 => some v3

theorem ok_impl_StretchClip_1 (K : Nat) (a0 : Int) (a1 : (List Key)) (a2 : Int) (o : ((List Key))) (h : impl_StretchClip_1 K a0 a1 a2 = some o) : CallOK Try.prog 75 [.one (.int .i64 a0), .one (sl 5 cs_Key a1), .one (pl 1 (csI .i64) a2)] [.one (sl 5 cs_Key o)] := by
  refine callOK_of_AW Try.func75 rfl (by kernel_rfl) (Nat.le_of_ble_eq_true (by kernel_rfl)) ?_
  intro w0
  unfold impl_StretchClip_1 at h
  refine AW.seq ?_
  refine AW.regionA [] [1, 2] [] (s' := ⟨[(1, (.v (.one (.c (sl 5 cs_Key a1))))), (2, (.v (.one (.c (pl 1 (csI .i64) a2)))))], []⟩) (ob := True ∧ True) (by kernel_rfl) ⟨trivial, trivial⟩ ?_
  refine thenQ_normal ?_
  refine AW.seq ?_
  obtain ⟨v1, e2, h⟩ := bind_some h
  obtain ⟨v3, e4, h⟩ := bind_some h
  refine AW.drawnA (by kernel_rfl) 5 [.call [] [.agg [(.fn 146 0 fun _ => .nilptr), (.fn 147 0 fun _ => .nilptr), (.fn 148 0 fun _ => .nilptr)]] [[.view, .view, .view]], .no, .no, .call [.agg [(.fn 146 0 fun _ => .nilptr), (.fn 147 0 fun _ => .nilptr), (.fn 148 0 fun _ => .nilptr)], .one (sl 5 cs_Key a1), .one (.int .i64 a2)] [.one (sl 5 cs_Key v3)] [[.lst 1]]] [5] [1] (s' := ⟨[(5, (.v (.one (.lst 1 v3.length 5 (gl cs_Key v3)))))], [(1, (.lst v3.length 5 (gl cs_Key v3)))]⟩) (ob := (((True) ∧ CallOK Try.prog 76 [] [.agg [(.fn 146 0 fun _ => .nilptr), (.fn 147 0 fun _ => .nilptr), (.fn 148 0 fun _ => .nilptr)]]) ∧ True ∧ True ∧ ((((((.fn 146 0 fun _ => .nilptr) : C) = (.fn 146 0 fun _ => .nilptr)) ∧ (((.fn 147 0 fun _ => .nilptr) : C) = (.fn 147 0 fun _ => .nilptr)) ∧ (((.fn 148 0 fun _ => .nilptr) : C) = (.fn 148 0 fun _ => .nilptr)) ∧ True) ∧ (((sl 5 cs_Key a1) : C) = (sl 5 cs_Key a1)) ∧ (((.int .i64 a2) : C) = (.int .i64 a2)) ∧ True) ∧ CallOK Try.prog 77 [.agg [(.fn 146 0 fun _ => .nilptr), (.fn 147 0 fun _ => .nilptr), (.fn 148 0 fun _ => .nilptr)], .one (sl 5 cs_Key a1), .one (.int .i64 a2)] [.one (sl 5 cs_Key v3)]) ∧ True ∧ True) ∧ (True)) (by kernel_rfl) ⟨⟨⟨trivial, ok_impl_turnTrack K v1 e2⟩, trivial, trivial, ⟨⟨⟨rfl, rfl, rfl, trivial⟩, rfl, rfl, trivial⟩, ok_impl_track_impl_Key_stretch K a1 a2 v3 e4⟩, trivial, trivial⟩, trivial⟩ ?_
  refine thenQ_normal ?_
  refine AW.ret ?_
  replace h := some_eq h
  subst h
  exact ⟨.inr rfl, retOK_of [(.one (.lst 1 v3.length 5 (gl cs_Key v3)))] (by kernel_rfl) ⟨rfl, trivial⟩ (of_decide_eq_true (by kernel_rfl))⟩

/-! impl.validClip -/
def impl_validClip (K : Nat) (a0 : Clip) : Option (Clip × Bool) :=
  (impl_ValidClip K a0).bind fun v1 => ite2 ((!v1)) (some ((Clip.mk (0 : Int) (0 : Int) ([] : (List (List Key))) ([] : (List RootKey))), false)) (some (a0, true))

theorem ok_impl_validClip (K : Nat) (a0 : Clip) (o : (Clip × Bool)) (h : impl_validClip K a0 = some o) : MutOK Try.prog 141 [(.agg [(.ro (.int .i64 a0.Length)), (.ro (.int .i64 a0.Kind)), (.mv (sl 1 (csL 5 cs_Key) a0.Tracks)), (.mv (sl 4 cs_RootKey a0.Roots))])] [.agg (cs_Clip o.1), .one (.bool o.2)] := by
  refine mutOK_of_AW 2 Try.func141 rfl (by kernel_rfl) (Nat.le_of_ble_eq_true (by kernel_rfl)) (by kernel_rfl) (by kernel_rfl) ?_
  intro w0 K0 v0 s0
  unfold impl_validClip at h
  refine AW.seq ?_
  refine AW.regionA [.box 2, .box 3] [0, 1, 2] [0, 1, 2, 3] (s' := ⟨[(0, (.v (.agg [(.c (.int .i64 a0.Length)), (.c (.int .i64 a0.Kind)), (.arr 0), (.arr 1)]))), (1, (.v (.one (.ptr 2 0)))), (2, (.v (.one (.ptr 3 0))))], [(0, (.arr true a0.Tracks.length 1 (gl (csL 5 cs_Key) a0.Tracks))), (1, (.arr true a0.Roots.length 4 (gl cs_RootKey a0.Roots))), (2, (.box [(.c (.int .i64 a0.Length)), (.c (.int .i64 a0.Kind)), (.arr 0), (.arr 1)])), (3, (.box [(.c (.int .i64 (0 : Int))), (.c (.int .i64 (0 : Int))), .nils, .nils]))]⟩) (ob := True ∧ True ∧ True ∧ True) (by kernel_rfl) ⟨trivial, trivial, trivial, trivial⟩ ?_
  refine thenQ_normal ?_
  refine AW.seq ?_
  refine AW.seq ?_
  obtain ⟨v1, e2, h⟩ := bind_some h
  refine AW.regionA [.no, .call [.agg (cs_Clip a0)] [.one (.bool v1)] [[.view]]] [0, 1, 2, 6] [0, 1, 2, 3] (s' := ⟨[(0, (.v (.agg [(.c (.int .i64 a0.Length)), (.c (.int .i64 a0.Kind)), (.arr 0), (.arr 1)]))), (1, (.v (.one (.ptr 2 0)))), (2, (.v (.one (.ptr 3 0)))), (6, (.v (.one (.c (.bool (!v1))))))], [(0, (.arr true a0.Tracks.length 1 (gl (csL 5 cs_Key) a0.Tracks))), (1, (.arr true a0.Roots.length 4 (gl cs_RootKey a0.Roots))), (2, (.box [(.c (.int .i64 a0.Length)), (.c (.int .i64 a0.Kind)), (.arr 0), (.arr 1)])), (3, (.box [(.c (.int .i64 (0 : Int))), (.c (.int .i64 (0 : Int))), .nils, .nils]))]⟩) (ob := True ∧ ((((((.int .i64 a0.Length) : C) = (.int .i64 a0.Length)) ∧ (((.int .i64 a0.Kind) : C) = (.int .i64 a0.Kind)) ∧ (((sl 1 (csL 5 cs_Key) a0.Tracks) : C) = (sl 1 (csL 5 cs_Key) a0.Tracks)) ∧ (((sl 4 cs_RootKey a0.Roots) : C) = (sl 4 cs_RootKey a0.Roots)) ∧ True) ∧ True) ∧ CallOK Try.prog 63 [.agg (cs_Clip a0)] [.one (.bool v1)]) ∧ True ∧ True) (by kernel_rfl) ⟨trivial, ⟨⟨⟨rfl, rfl, rfl, rfl, trivial⟩, trivial⟩, ok_impl_ValidClip K a0 v1 e2⟩, trivial, trivial⟩ ?_
  refine thenQ_normal ?_
  rcases ite2_cases h with ⟨b3, h⟩ | ⟨b3, h⟩
  · refine AW.cond_t rfl b3 ?_
    refine AW.seq ?_
    refine AW.regionA [] [0, 2, 3] [0, 1, 3] (s' := ⟨[(0, (.v (.agg [(.c (.int .i64 a0.Length)), (.c (.int .i64 a0.Kind)), (.arr 0), (.arr 1)]))), (2, (.v (.one (.ptr 3 0)))), (3, (.v (.one (.c (.bool false)))))], [(0, (.arr true a0.Tracks.length 1 (gl (csL 5 cs_Key) a0.Tracks))), (1, (.arr true a0.Roots.length 4 (gl cs_RootKey a0.Roots))), (3, (.box [(.c (.int .i64 (0 : Int))), (.c (.int .i64 (0 : Int))), .nils, .nils]))]⟩) (ob := True ∧ True ∧ True ∧ True) (by kernel_rfl) ⟨trivial, trivial, trivial, trivial⟩ ?_
    refine thenQ_normal ?_
    refine AW.ret ?_
    refine thenQ_ret ?_
    replace h := some_eq h
    subst h
    exact ⟨.inr rfl, retOK_of [(.agg [(.c (.int .i64 (0 : Int))), (.c (.int .i64 (0 : Int))), .nils, .nils]), (.one (.c (.bool false)))] (by kernel_rfl) ⟨⟨⟨rfl, trivial⟩, ⟨rfl, trivial⟩, rfl, rfl, trivial⟩, ⟨rfl, trivial⟩, trivial⟩ (of_decide_eq_true (by kernel_rfl)), by kernel_rfl, ⟨⟨trivial, trivial, trivial, trivial, trivial⟩, trivial⟩⟩
  · refine AW.cond_f rfl b3 ?_
    refine AW.skip ?_
    refine thenQ_normal ?_
    refine AW.seq ?_
    refine AW.regionA [] [0, 2, 3] [0, 1, 3] (s' := ⟨[(0, (.v (.agg [(.c (.int .i64 a0.Length)), (.c (.int .i64 a0.Kind)), (.arr 0), (.arr 1)]))), (2, (.v (.one (.ptr 3 0)))), (3, (.v (.one (.c (.bool true)))))], [(0, (.arr true a0.Tracks.length 1 (gl (csL 5 cs_Key) a0.Tracks))), (1, (.arr true a0.Roots.length 4 (gl cs_RootKey a0.Roots))), (3, (.box [(.c (.int .i64 a0.Length)), (.c (.int .i64 a0.Kind)), (.arr 0), (.arr 1)]))]⟩) (ob := True ∧ True ∧ True ∧ True) (by kernel_rfl) ⟨trivial, trivial, trivial, trivial⟩ ?_
    refine thenQ_normal ?_
    refine AW.ret ?_
    replace h := some_eq h
    subst h
    exact ⟨.inr rfl, retOK_of [(.agg [(.c (.int .i64 a0.Length)), (.c (.int .i64 a0.Kind)), (.arr 0), (.arr 1)]), (.one (.c (.bool true)))] (by kernel_rfl) ⟨⟨⟨rfl, trivial⟩, ⟨rfl, trivial⟩, rfl, rfl, trivial⟩, ⟨rfl, trivial⟩, trivial⟩ (of_decide_eq_true (by kernel_rfl)), by kernel_rfl, ⟨⟨trivial, trivial, trivial, trivial, trivial⟩, trivial⟩⟩

/-! (impl.Clip).changed -/
def impl_Clip_changed_l1 (K : Nat) (a0 : Clip) (a1 : Int) (a2_0_0 : Int) (v1 : ((List RootKey))) : Nat → Int → (List (List Key)) → Option (Clip × Bool)
  | 0, _, _ => none
  | k + 1, x5, x6 => ite2 ((decide (x5 < (a0.Tracks.length : Int)))) (chk (0 ≤ x5 ∧ x5 < (a0.Tracks.length : Int)) ((impl_StretchClip_1 K x5 (a0.Tracks.getD x5.toNat default) a2_0_0).bind fun v9 => chk ((x6.length + ([v9]).length) * 24 ≤ 140737488355328) (impl_Clip_changed_l1 K a0 a1 a2_0_0 v1 k (IntKind.i64.wrap (x5 + (1 : Int))) (x6 ++ ([v9]))))) ((impl_validClip K (Clip.mk a1 a0.Kind x6 v1)).bind fun v12 => some (v12.1, v12.2))

def impl_Clip_changed (K : Nat) (a0 : Clip) (a1 : Int) (a2_0_0 : Int) (a3_0_0 : Int) : Option (Clip × Bool) :=
  (impl_StretchClip_2 K a0.Roots a3_0_0).bind fun v1 => impl_Clip_changed_l1 K a0 a1 a2_0_0 v1 K (0 : Int) ([] : (List (List Key)))

theorem ok_impl_Clip_changed (K : Nat) (a0 : Clip) (a1 : Int) (a2_0_0 : Int) (a3_0_0 : Int) (o : (Clip × Bool)) (h : impl_Clip_changed K a0 a1 a2_0_0 a3_0_0 = some o) : CallOK Try.prog 64 [.agg (cs_Clip a0), .one (.int .i64 a1), .one (.fn 75 1 fun j => [(pl 1 (csI .i64) a2_0_0)].getD j .nilptr), .one (.fn 78 1 fun j => [(pl 1 (csI .i64) a3_0_0)].getD j .nilptr)] [.agg (cs_Clip o.1), .one (.bool o.2)] := by
  refine callOK_of_AW Try.func64 rfl (by kernel_rfl) (Nat.le_of_ble_eq_true (by kernel_rfl)) ?_
  intro w0
  unfold impl_Clip_changed at h
  refine AW.seq ?_
  refine AW.regionA [.box 1, .box 2] [1, 2, 3, 4, 8] [1, 2] (s' := ⟨[(1, (.v (.one (.c (.int .i64 a1))))), (2, (.v (.one (.c (.fn 75 1 fun j => [(pl 1 (csI .i64) a2_0_0)].getD j .nilptr))))), (3, (.v (.one (.c (.fn 78 1 fun j => [(pl 1 (csI .i64) a3_0_0)].getD j .nilptr))))), (4, (.v (.one (.ptr 1 0)))), (8, (.v (.one (.ptr 2 0))))], [(1, (.box [(.c (.int .i64 a0.Length)), (.c (.int .i64 a0.Kind)), (.c (sl 1 (csL 5 cs_Key) a0.Tracks)), (.c (sl 4 cs_RootKey a0.Roots))])), (2, (.box [(.c (.int .i64 (0 : Int))), (.c (.int .i64 (0 : Int))), .nils, .nils]))]⟩) (ob := True ∧ True ∧ True ∧ True) (by kernel_rfl) ⟨trivial, trivial, trivial, trivial⟩ ?_
  refine thenQ_normal ?_
  refine AW.seq ?_
  obtain ⟨v1, e2, h⟩ := bind_some h
  refine AW.drawnA (by kernel_rfl) 9 [.no, .no, .no, .no, .no, .no, .call [.one (sl 4 cs_RootKey a0.Roots), .one (pl 1 (csI .i64) a3_0_0)] [.one (sl 4 cs_RootKey v1)] [[.lst 3]], .no, .box 4] [2, 4, 8, 10] [1, 2, 3, 4] (s' := ⟨[(2, (.v (.one (.c (.fn 75 1 fun j => [(pl 1 (csI .i64) a2_0_0)].getD j .nilptr))))), (4, (.v (.one (.ptr 1 0)))), (8, (.v (.one (.ptr 2 0)))), (10, (.v (.one (.ptr 4 0))))], [(1, (.box [(.c (.int .i64 a0.Length)), (.c (.int .i64 a0.Kind)), (.c (sl 1 (csL 5 cs_Key) a0.Tracks)), (.c (sl 4 cs_RootKey a0.Roots))])), (2, (.box [(.c (.int .i64 (0 : Int))), (.c (.int .i64 (0 : Int))), .nils, .nils])), (3, (.lst v1.length 4 (gl cs_RootKey v1))), (4, (.box [(.c (.int .i64 a1)), (.c (.int .i64 a0.Kind)), .nils, (.lst 3 v1.length 4 (gl cs_RootKey v1))]))]⟩) (ob := (True ∧ True ∧ True ∧ True ∧ True ∧ True ∧ (((((sl 4 cs_RootKey a0.Roots) : C) = (sl 4 cs_RootKey a0.Roots)) ∧ (1 = 1 ∧ ∀ j, j < 1 → ((csI .i64) a3_0_0).getD j .nilptr = ((csI .i64) a3_0_0).getD j .nilptr) ∧ True) ∧ CallOK Try.prog 78 [.one (sl 4 cs_RootKey a0.Roots), .one (pl 1 (csI .i64) a3_0_0)] [.one (sl 4 cs_RootKey v1)]) ∧ True ∧ True ∧ True) ∧ (True ∧ True)) (by kernel_rfl) ⟨⟨trivial, trivial, trivial, trivial, trivial, trivial, ⟨⟨rfl, ⟨rfl, fun j hj => rfl⟩, trivial⟩, ok_impl_StretchClip_2 K a0.Roots a3_0_0 v1 e2⟩, trivial, trivial, trivial⟩, ⟨trivial, trivial⟩⟩ ?_
  refine thenQ_normal ?_
  refine AW.seq ?_
  refine AW.seq ?_
  refine AW.regionA [] [2, 8, 10, 22, 23, 24] [2, 3, 4] (s' := ⟨[(2, (.v (.one (.c (.fn 75 1 fun j => [(pl 1 (csI .i64) a2_0_0)].getD j .nilptr))))), (8, (.v (.one (.ptr 2 0)))), (10, (.v (.one (.ptr 4 0)))), (22, (.v (.one (.c (sl 1 (csL 5 cs_Key) a0.Tracks))))), (23, (.v (.one (.c (.int .i64 (a0.Tracks.length : Int)))))), (24, (.v (.one (.c (.int .i64 (0 : Int))))))], [(2, (.box [(.c (.int .i64 (0 : Int))), (.c (.int .i64 (0 : Int))), .nils, .nils])), (3, (.lst v1.length 4 (gl cs_RootKey v1))), (4, (.box [(.c (.int .i64 a1)), (.c (.int .i64 a0.Kind)), .nils, (.lst 3 v1.length 4 (gl cs_RootKey v1))]))]⟩) (ob := True ∧ True ∧ True ∧ True ∧ True) (by kernel_rfl) ⟨trivial, trivial, trivial, trivial, trivial⟩ ?_
  refine thenQ_normal ?_
  refine AW.block ?_
  refine AW.weak (s' := ⟨[(2, (.v (.one (.c (.fn 75 1 fun j => [(pl 1 (csI .i64) a2_0_0)].getD j .nilptr))))), (8, (.v (.one (.ptr 2 0)))), (10, (.v (.one (.ptr 4 0)))), (22, (.v (.one (.c (sl 1 (csL 5 cs_Key) a0.Tracks))))), (23, (.v (.one (.c (.int .i64 (a0.Tracks.length : Int)))))), (24, (.v (.one (.c (.int .i64 (0 : Int))))))], [(2, (.box [(.c (.int .i64 (0 : Int))), (.c (.int .i64 (0 : Int))), .nils, .nils])), (3, (.lst v1.length 4 (gl cs_RootKey v1))), (4, (.box [(.c (.int .i64 a1)), (.c (.int .i64 a0.Kind)), (.lst 8 ([] : (List (List Key))).length 1 (gl (csL 5 cs_Key) ([] : (List (List Key))))), (.lst 3 v1.length 4 (gl cs_RootKey v1))])), (8, (.lst ([] : (List (List Key))).length 1 (gl (csL 5 cs_Key) ([] : (List (List Key))))))]⟩) (Sub.trans (Sub.unnil 8 1 (gl (csL 5 cs_Key) ([] : (List (List Key)))) [] [(4, 2)] _ (by kernel_rfl) (by kernel_rfl)) (Sub.keep [2, 8, 10, 22, 23, 24] [2, 3, 4, 8] (by kernel_rfl) (by kernel_rfl))) ?_
  refine AW.loopQ (σ := Nat × Int × (List (List Key))) (fun p => ⟨[(2, (.v (.one (.c (.fn 75 1 fun j => [(pl 1 (csI .i64) a2_0_0)].getD j .nilptr))))), (8, (.v (.one (.ptr 2 0)))), (10, (.v (.one (.ptr 4 0)))), (22, (.v (.one (.c (sl 1 (csL 5 cs_Key) a0.Tracks))))), (23, (.v (.one (.c (.int .i64 (a0.Tracks.length : Int)))))), (24, (.v (.one (.c (.int .i64 p.2.1)))))], [(2, (.box [(.c (.int .i64 (0 : Int))), (.c (.int .i64 (0 : Int))), .nils, .nils])), (3, (.lst v1.length 4 (gl cs_RootKey v1))), (4, (.box [(.c (.int .i64 a1)), (.c (.int .i64 a0.Kind)), (.lst 8 p.2.2.length 1 (gl (csL 5 cs_Key) p.2.2)), (.lst 3 v1.length 4 (gl cs_RootKey v1))])), (8, (.lst p.2.2.length 1 (gl (csL 5 cs_Key) p.2.2)))]⟩) (fun p => impl_Clip_changed_l1 K a0 a1 a2_0_0 v1 p.1 p.2.1 p.2.2 = some o) (fun p => p.1) (K, (0 : Int), ([] : (List (List Key)))) h ?_
  clear h
  rintro ⟨k, x5, x6⟩ h
  replace h : impl_Clip_changed_l1 K a0 a1 a2_0_0 v1 k x5 x6 = some o := h
  show AW _ _ (⟨[(2, (.v (.one (.c (.fn 75 1 fun j => [(pl 1 (csI .i64) a2_0_0)].getD j .nilptr))))), (8, (.v (.one (.ptr 2 0)))), (10, (.v (.one (.ptr 4 0)))), (22, (.v (.one (.c (sl 1 (csL 5 cs_Key) a0.Tracks))))), (23, (.v (.one (.c (.int .i64 (a0.Tracks.length : Int)))))), (24, (.v (.one (.c (.int .i64 x5)))))], [(2, (.box [(.c (.int .i64 (0 : Int))), (.c (.int .i64 (0 : Int))), .nils, .nils])), (3, (.lst v1.length 4 (gl cs_RootKey v1))), (4, (.box [(.c (.int .i64 a1)), (.c (.int .i64 a0.Kind)), (.lst 8 x6.length 1 (gl (csL 5 cs_Key) x6)), (.lst 3 v1.length 4 (gl cs_RootKey v1))])), (8, (.lst x6.length 1 (gl (csL 5 cs_Key) x6)))]⟩ : St) _
  obtain _ | k := k
  · rw [impl_Clip_changed_l1] at h; cases h
  rw [impl_Clip_changed_l1] at h
  refine AW.seq ?_
  refine AW.regionA [] [2, 8, 10, 22, 23, 24, 25] [2, 3, 4, 8] (s' := ⟨[(2, (.v (.one (.c (.fn 75 1 fun j => [(pl 1 (csI .i64) a2_0_0)].getD j .nilptr))))), (8, (.v (.one (.ptr 2 0)))), (10, (.v (.one (.ptr 4 0)))), (22, (.v (.one (.c (sl 1 (csL 5 cs_Key) a0.Tracks))))), (23, (.v (.one (.c (.int .i64 (a0.Tracks.length : Int)))))), (24, (.v (.one (.c (.int .i64 x5))))), (25, (.v (.one (.c (.bool (decide (x5 < (a0.Tracks.length : Int))))))))], [(2, (.box [(.c (.int .i64 (0 : Int))), (.c (.int .i64 (0 : Int))), .nils, .nils])), (3, (.lst v1.length 4 (gl cs_RootKey v1))), (4, (.box [(.c (.int .i64 a1)), (.c (.int .i64 a0.Kind)), (.lst 8 x6.length 1 (gl (csL 5 cs_Key) x6)), (.lst 3 v1.length 4 (gl cs_RootKey v1))])), (8, (.lst x6.length 1 (gl (csL 5 cs_Key) x6)))]⟩) (ob := True ∧ True) (by kernel_rfl) ⟨trivial, trivial⟩ ?_
  refine thenQ_normal ?_
  refine AW.seq ?_
  rcases ite2_cases h with ⟨b7, h⟩ | ⟨b7, h⟩
  · refine AW.cond_t rfl b7 ?_
    refine AW.skip ?_
    refine thenQ_normal ?_
    refine AW.seq ?_
    refine AW.block ?_
    refine AW.seq ?_
    obtain ⟨c8, h⟩ := chk_some h
    refine AW.regionA [] [2, 8, 10, 11, 12, 22, 23, 24] [2, 3, 4, 8] (s' := ⟨[(2, (.v (.one (.c (.fn 75 1 fun j => [(pl 1 (csI .i64) a2_0_0)].getD j .nilptr))))), (8, (.v (.one (.ptr 2 0)))), (10, (.v (.one (.ptr 4 0)))), (11, (.v (.one (.c (.int .i64 x5))))), (12, (.v (.one (.c (sl 5 cs_Key (a0.Tracks.getD x5.toNat default)))))), (22, (.v (.one (.c (sl 1 (csL 5 cs_Key) a0.Tracks))))), (23, (.v (.one (.c (.int .i64 (a0.Tracks.length : Int)))))), (24, (.v (.one (.c (.int .i64 x5)))))], [(2, (.box [(.c (.int .i64 (0 : Int))), (.c (.int .i64 (0 : Int))), .nils, .nils])), (3, (.lst v1.length 4 (gl cs_RootKey v1))), (4, (.box [(.c (.int .i64 a1)), (.c (.int .i64 a0.Kind)), (.lst 8 x6.length 1 (gl (csL 5 cs_Key) x6)), (.lst 3 v1.length 4 (gl cs_RootKey v1))])), (8, (.lst x6.length 1 (gl (csL 5 cs_Key) x6)))]⟩) (ob := True ∧ (0 ≤ x5 ∧ x5 < (a0.Tracks.length : Int)) ∧ True ∧ True ∧ True ∧ True) (by kernel_rfl) ⟨trivial, c8, trivial, trivial, trivial, trivial⟩ ?_
    refine thenQ_normal ?_
    obtain ⟨v9, e10, h⟩ := bind_some h
    obtain ⟨c11, h⟩ := chk_some h
    refine AW.drawnA (by kernel_rfl) 9 [.no, .no, .no, .no, .no, .call [.one (.int .i64 x5), .one (sl 5 cs_Key (a0.Tracks.getD x5.toNat default)), .one (pl 1 (csI .i64) a2_0_0)] [.one (sl 5 cs_Key v9)] [[.lst 15]], .obj 16 ([v9]).length (gl (csL 5 cs_Key) ([v9])), .obj 17 (x6 ++ ([v9])).length (gl (csL 5 cs_Key) (x6 ++ ([v9])))] [2, 8, 10, 22, 23, 24] [2, 3, 4, 17] (s' := ⟨[(2, (.v (.one (.c (.fn 75 1 fun j => [(pl 1 (csI .i64) a2_0_0)].getD j .nilptr))))), (8, (.v (.one (.ptr 2 0)))), (10, (.v (.one (.ptr 4 0)))), (22, (.v (.one (.c (sl 1 (csL 5 cs_Key) a0.Tracks))))), (23, (.v (.one (.c (.int .i64 (a0.Tracks.length : Int)))))), (24, (.v (.one (.c (.int .i64 x5)))))], [(2, (.box [(.c (.int .i64 (0 : Int))), (.c (.int .i64 (0 : Int))), .nils, .nils])), (3, (.lst v1.length 4 (gl cs_RootKey v1))), (4, (.box [(.c (.int .i64 a1)), (.c (.int .i64 a0.Kind)), (.lst 17 (x6 ++ ([v9])).length 1 (gl (csL 5 cs_Key) (x6 ++ ([v9])))), (.lst 3 v1.length 4 (gl cs_RootKey v1))])), (17, (.lst (x6 ++ ([v9])).length 1 (gl (csL 5 cs_Key) (x6 ++ ([v9])))))]⟩) (ob := (True ∧ True ∧ True ∧ True ∧ True ∧ (((((.int .i64 x5) : C) = (.int .i64 x5)) ∧ (((sl 5 cs_Key (a0.Tracks.getD x5.toNat default)) : C) = (sl 5 cs_Key (a0.Tracks.getD x5.toNat default))) ∧ (1 = 1 ∧ ∀ j, j < 1 → ((csI .i64) a2_0_0).getD j .nilptr = ((csI .i64) a2_0_0).getD j .nilptr) ∧ True) ∧ CallOK Try.prog 75 [.one (.int .i64 x5), .one (sl 5 cs_Key (a0.Tracks.getD x5.toNat default)), .one (pl 1 (csI .i64) a2_0_0)] [.one (sl 5 cs_Key v9)]) ∧ (([v9]).length = 1 ∧ (((sl 5 cs_Key v9) : C) = (sl 5 cs_Key v9)) ∧ True) ∧ ((x6 ++ ([v9])).length = x6.length + ([v9]).length ∧ AppOb (x6.length) (([v9]).length) 1 (gl (csL 5 cs_Key) x6) (gl (csL 5 cs_Key) ([v9])) (gl (csL 5 cs_Key) (x6 ++ ([v9]))) ∧ True ∧ (x6.length + ([v9]).length) * 24 ≤ 140737488355328) ∧ True ∧ True) ∧ (True ∧ True)) (by kernel_rfl) ⟨⟨trivial, trivial, trivial, trivial, trivial, ⟨⟨rfl, rfl, ⟨rfl, fun j hj => rfl⟩, trivial⟩, ok_impl_StretchClip_1 K x5 (a0.Tracks.getD x5.toNat default) a2_0_0 v9 e10⟩, ⟨rfl, ⟨rfl, trivial⟩⟩, ⟨List.length_append, gl_append, trivial, c11⟩, trivial, trivial⟩, ⟨trivial, trivial⟩⟩ ?_
    refine blockQ_normal ?_
    refine thenQ_normal ?_
    refine AW.regionA [] [2, 8, 10, 22, 23, 24] [2, 3, 4, 17] (s' := ⟨[(2, (.v (.one (.c (.fn 75 1 fun j => [(pl 1 (csI .i64) a2_0_0)].getD j .nilptr))))), (8, (.v (.one (.ptr 2 0)))), (10, (.v (.one (.ptr 4 0)))), (22, (.v (.one (.c (sl 1 (csL 5 cs_Key) a0.Tracks))))), (23, (.v (.one (.c (.int .i64 (a0.Tracks.length : Int)))))), (24, (.v (.one (.c (.int .i64 (IntKind.i64.wrap (x5 + (1 : Int))))))))], [(2, (.box [(.c (.int .i64 (0 : Int))), (.c (.int .i64 (0 : Int))), .nils, .nils])), (3, (.lst v1.length 4 (gl cs_RootKey v1))), (4, (.box [(.c (.int .i64 a1)), (.c (.int .i64 a0.Kind)), (.lst 17 (x6 ++ ([v9])).length 1 (gl (csL 5 cs_Key) (x6 ++ ([v9])))), (.lst 3 v1.length 4 (gl cs_RootKey v1))])), (17, (.lst (x6 ++ ([v9])).length 1 (gl (csL 5 cs_Key) (x6 ++ ([v9])))))]⟩) (ob := True ∧ True ∧ True) (by kernel_rfl) ⟨trivial, trivial, trivial⟩ ?_
    exact loopQ_normal (k, (IntKind.i64.wrap (x5 + (1 : Int))), (x6 ++ ([v9]))) h (Nat.lt_succ_self k) (Sub.trans (Sub.swap 8 17 _ (by kernel_rfl) (by kernel_rfl)) (Sub.keep [2, 8, 10, 22, 23, 24] [2, 3, 4, 8] (by kernel_rfl) (by kernel_rfl)))
  · refine AW.cond_f rfl b7 ?_
    refine AW.exit ?_
    refine thenQ_exit ?_
    refine loopQ_exit ?_
    refine blockQ_exit ?_
    refine thenQ_normal ?_
    refine AW.seq ?_
    refine AW.weak (s' := ⟨[(8, (.v (.one (.ptr 2 0)))), (10, (.v (.one (.ptr 4 0))))], [(2, (.box [(.c (.int .i64 (0 : Int))), (.c (.int .i64 (0 : Int))), .nils, .nils])), (3, (.lst v1.length 4 (gl cs_RootKey v1))), (4, (.box [(.c (.int .i64 a1)), (.c (.int .i64 a0.Kind)), (.lst 8 x6.length 1 (gl (csL 5 cs_Key) x6)), (.lst 3 v1.length 4 (gl cs_RootKey v1))])), (8, (.lst x6.length 1 (gl (csL 5 cs_Key) x6)))]⟩) (Sub.keep [8, 10] [2, 3, 4, 8] (by kernel_rfl) (by kernel_rfl)) ?_
    refine AW.weak (s' := ⟨[(8, (.v (.one (.ptr 2 0)))), (10, (.v (.one (.ptr 4 0))))], [(2, (.box [(.c (.int .i64 (0 : Int))), (.c (.int .i64 (0 : Int))), .nils, .nils])), (3, (.arr true v1.length 4 (gl cs_RootKey v1))), (4, (.box [(.c (.int .i64 a1)), (.c (.int .i64 a0.Kind)), (.arr 8), (.arr 3)])), (8, (.arr true x6.length 1 (gl (csL 5 cs_Key) x6)))]⟩) (Sub.lstOwn [3, 8] (by kernel_rfl)) ?_
    obtain ⟨v12, e13, h⟩ := bind_some h
    refine AW.splitA 1 [.no] [8, 39] [2, 3, 8] [.callM [(.agg [(.ro (.int .i64 a1)), (.ro (.int .i64 a0.Kind)), (.mv (sl 1 (csL 5 cs_Key) x6)), (.mv (sl 4 cs_RootKey v1))])] [.agg (cs_Clip v12.1), .one (.bool v12.2)] [[.view, .view, .lst 18, .lst 19], [.view]] none] [8, 9] [2, 18, 19] (s' := ⟨[(8, (.v (.one (.ptr 2 0)))), (9, (.v (.one (.c (.bool v12.2)))))], [(2, (.box [(.c (.int .i64 v12.1.Length)), (.c (.int .i64 v12.1.Kind)), (.lst 18 v12.1.Tracks.length 1 (gl (csL 5 cs_Key) v12.1.Tracks)), (.lst 19 v12.1.Roots.length 4 (gl cs_RootKey v12.1.Roots))])), (18, (.lst v12.1.Tracks.length 1 (gl (csL 5 cs_Key) v12.1.Tracks))), (19, (.lst v12.1.Roots.length 4 (gl cs_RootKey v12.1.Roots)))]⟩) (ob := (True ∧ True) ∧ (((((((.int .i64 a1) : C) = (.int .i64 a1)) ∧ (((.int .i64 a0.Kind) : C) = (.int .i64 a0.Kind)) ∧ (((sl 1 (csL 5 cs_Key) x6) : C) = (sl 1 (csL 5 cs_Key) x6)) ∧ (((sl 4 cs_RootKey v1) : C) = (sl 4 cs_RootKey v1)) ∧ True) ∧ True) ∧ MutOK Try.prog 141 [(.agg [(.ro (.int .i64 a1)), (.ro (.int .i64 a0.Kind)), (.mv (sl 1 (csL 5 cs_Key) x6)), (.mv (sl 4 cs_RootKey v1))])] [.agg (cs_Clip v12.1), .one (.bool v12.2)]) ∧ True ∧ True ∧ True ∧ True ∧ True)) (by kernel_rfl) ⟨⟨trivial, trivial⟩, ⟨⟨⟨⟨rfl, rfl, rfl, rfl, trivial⟩, trivial⟩, ok_impl_validClip K (Clip.mk a1 a0.Kind x6 v1) v12 e13⟩, trivial, trivial, trivial, trivial, trivial⟩⟩ ?_
    refine thenQ_normal ?_
    refine AW.ret ?_
    replace h := some_eq h
    subst h
    exact ⟨.inr rfl, retOK_of [(.agg [(.c (.int .i64 v12.1.Length)), (.c (.int .i64 v12.1.Kind)), (.lst 18 v12.1.Tracks.length 1 (gl (csL 5 cs_Key) v12.1.Tracks)), (.lst 19 v12.1.Roots.length 4 (gl cs_RootKey v12.1.Roots))]), (.one (.c (.bool v12.2)))] (by kernel_rfl) ⟨⟨⟨rfl, trivial⟩, ⟨rfl, trivial⟩, rfl, rfl, trivial⟩, ⟨rfl, trivial⟩, trivial⟩ (of_decide_eq_true (by kernel_rfl))⟩

/-! impl.StretchClip -/
def impl_StretchClip (K : Nat) (a0 : Clip) (a1 : Int) : Option (Clip × Bool) :=
  (impl_ValidClip K a0).bind fun v1 => (ite2 ((!v1)) (some true) (ite2 ((decide (a1 < (1 : Int)))) (some true) (some (decide (a1 > (100 : Int)))))).bind fun j5 => ite2 (j5) (some ((Clip.mk (0 : Int) (0 : Int) ([] : (List (List Key))) ([] : (List RootKey))), false)) ((impl_Clip_changed K a0 (IntKind.i64.wrap (a0.Length * a1)) a1 a1).bind fun v8 => some (v8.1, v8.2))

theorem ok_impl_StretchClip (K : Nat) (a0 : Clip) (a1 : Int) (o : (Clip × Bool)) (h : impl_StretchClip K a0 a1 = some o) : CallOK Try.prog 19 [.agg (cs_Clip a0), .one (.int .i64 a1)] [.agg (cs_Clip o.1), .one (.bool o.2)] := by
  refine callOK_of_AW Try.func19 rfl (by kernel_rfl) (Nat.le_of_ble_eq_true (by kernel_rfl)) ?_
  intro w0
  unfold impl_StretchClip at h
  refine AW.seq ?_
  refine AW.regionA [.box 1, .box 2, .box 3] [2, 3, 4] [1, 2, 3] (s' := ⟨[(2, (.v (.one (.ptr 1 0)))), (3, (.v (.one (.ptr 2 0)))), (4, (.v (.one (.ptr 3 0))))], [(1, (.box [(.c (.int .i64 a0.Length)), (.c (.int .i64 a0.Kind)), (.c (sl 1 (csL 5 cs_Key) a0.Tracks)), (.c (sl 4 cs_RootKey a0.Roots))])), (2, (.box [(.c (.int .i64 a1))])), (3, (.box [(.c (.int .i64 (0 : Int))), (.c (.int .i64 (0 : Int))), .nils, .nils]))]⟩) (ob := True ∧ True ∧ True ∧ True ∧ True) (by kernel_rfl) ⟨trivial, trivial, trivial, trivial, trivial⟩ ?_
  refine thenQ_normal ?_
  refine AW.seq ?_
  refine AW.seq ?_
  obtain ⟨v1, e2, h⟩ := bind_some h
  obtain ⟨j5, e6, h⟩ := bind_some h
  refine AW.join1 (s2 := ⟨[(2, (.v (.one (.ptr 1 0)))), (3, (.v (.one (.ptr 2 0)))), (4, (.v (.one (.ptr 3 0)))), (16, (.v (.one (.c (.bool j5)))))], [(1, (.box [(.c (.int .i64 a0.Length)), (.c (.int .i64 a0.Kind)), (.c (sl 1 (csL 5 cs_Key) a0.Tracks)), (.c (sl 4 cs_RootKey a0.Roots))])), (2, (.box [(.c (.int .i64 a1))])), (3, (.box [(.c (.int .i64 (0 : Int))), (.c (.int .i64 (0 : Int))), .nils, .nils]))]⟩) ?_ ?_
  · rcases ite2_cases e6 with ⟨b3, e6⟩ | ⟨b3, e6⟩
    · replace e6 := some_eq e6
      subst e6
      exact AW.regionA [.no, .call [.agg (cs_Clip a0)] [.one (.bool v1)] [[.view]], .no, .dec true] [2, 3, 4, 16] [1, 2, 3] (s' := ⟨[(2, (.v (.one (.ptr 1 0)))), (3, (.v (.one (.ptr 2 0)))), (4, (.v (.one (.ptr 3 0)))), (16, (.v (.one (.c (.bool true)))))], [(1, (.box [(.c (.int .i64 a0.Length)), (.c (.int .i64 a0.Kind)), (.c (sl 1 (csL 5 cs_Key) a0.Tracks)), (.c (sl 4 cs_RootKey a0.Roots))])), (2, (.box [(.c (.int .i64 a1))])), (3, (.box [(.c (.int .i64 (0 : Int))), (.c (.int .i64 (0 : Int))), .nils, .nils]))]⟩) (ob := True ∧ ((((((.int .i64 a0.Length) : C) = (.int .i64 a0.Length)) ∧ (((.int .i64 a0.Kind) : C) = (.int .i64 a0.Kind)) ∧ (((sl 1 (csL 5 cs_Key) a0.Tracks) : C) = (sl 1 (csL 5 cs_Key) a0.Tracks)) ∧ (((sl 4 cs_RootKey a0.Roots) : C) = (sl 4 cs_RootKey a0.Roots)) ∧ True) ∧ True) ∧ CallOK Try.prog 63 [.agg (cs_Clip a0)] [.one (.bool v1)]) ∧ True ∧ (True ∧ (!v1) = true) ∧ True ∧ True ∧ True ∧ True ∧ True ∧ True ∧ True ∧ True) (by kernel_rfl) ⟨trivial, ⟨⟨⟨rfl, rfl, rfl, rfl, trivial⟩, trivial⟩, ok_impl_ValidClip K a0 v1 e2⟩, trivial, ⟨trivial, b3⟩, trivial, trivial, trivial, trivial, trivial, trivial, trivial, trivial⟩ ⟨rfl, rfl⟩
    · rcases ite2_cases e6 with ⟨b4, e6⟩ | ⟨b4, e6⟩
      · replace e6 := some_eq e6
        subst e6
        exact AW.regionA [.no, .call [.agg (cs_Clip a0)] [.one (.bool v1)] [[.view]], .no, .dec false, .no, .no, .no, .dec true] [2, 3, 4, 16] [1, 2, 3] (s' := ⟨[(2, (.v (.one (.ptr 1 0)))), (3, (.v (.one (.ptr 2 0)))), (4, (.v (.one (.ptr 3 0)))), (16, (.v (.one (.c (.bool true)))))], [(1, (.box [(.c (.int .i64 a0.Length)), (.c (.int .i64 a0.Kind)), (.c (sl 1 (csL 5 cs_Key) a0.Tracks)), (.c (sl 4 cs_RootKey a0.Roots))])), (2, (.box [(.c (.int .i64 a1))])), (3, (.box [(.c (.int .i64 (0 : Int))), (.c (.int .i64 (0 : Int))), .nils, .nils]))]⟩) (ob := True ∧ ((((((.int .i64 a0.Length) : C) = (.int .i64 a0.Length)) ∧ (((.int .i64 a0.Kind) : C) = (.int .i64 a0.Kind)) ∧ (((sl 1 (csL 5 cs_Key) a0.Tracks) : C) = (sl 1 (csL 5 cs_Key) a0.Tracks)) ∧ (((sl 4 cs_RootKey a0.Roots) : C) = (sl 4 cs_RootKey a0.Roots)) ∧ True) ∧ True) ∧ CallOK Try.prog 63 [.agg (cs_Clip a0)] [.one (.bool v1)]) ∧ True ∧ (True ∧ (!v1) = false) ∧ True ∧ True ∧ True ∧ (True ∧ (decide (a1 < (1 : Int))) = true) ∧ True ∧ True ∧ True ∧ True) (by kernel_rfl) ⟨trivial, ⟨⟨⟨rfl, rfl, rfl, rfl, trivial⟩, trivial⟩, ok_impl_ValidClip K a0 v1 e2⟩, trivial, ⟨trivial, b3⟩, trivial, trivial, trivial, ⟨trivial, b4⟩, trivial, trivial, trivial, trivial⟩ ⟨rfl, rfl⟩
      · replace e6 := some_eq e6
        subst e6
        exact AW.regionA [.no, .call [.agg (cs_Clip a0)] [.one (.bool v1)] [[.view]], .no, .dec false, .no, .no, .no, .dec false] [2, 3, 4, 16] [1, 2, 3] (s' := ⟨[(2, (.v (.one (.ptr 1 0)))), (3, (.v (.one (.ptr 2 0)))), (4, (.v (.one (.ptr 3 0)))), (16, (.v (.one (.c (.bool (decide (a1 > (100 : Int))))))))], [(1, (.box [(.c (.int .i64 a0.Length)), (.c (.int .i64 a0.Kind)), (.c (sl 1 (csL 5 cs_Key) a0.Tracks)), (.c (sl 4 cs_RootKey a0.Roots))])), (2, (.box [(.c (.int .i64 a1))])), (3, (.box [(.c (.int .i64 (0 : Int))), (.c (.int .i64 (0 : Int))), .nils, .nils]))]⟩) (ob := True ∧ ((((((.int .i64 a0.Length) : C) = (.int .i64 a0.Length)) ∧ (((.int .i64 a0.Kind) : C) = (.int .i64 a0.Kind)) ∧ (((sl 1 (csL 5 cs_Key) a0.Tracks) : C) = (sl 1 (csL 5 cs_Key) a0.Tracks)) ∧ (((sl 4 cs_RootKey a0.Roots) : C) = (sl 4 cs_RootKey a0.Roots)) ∧ True) ∧ True) ∧ CallOK Try.prog 63 [.agg (cs_Clip a0)] [.one (.bool v1)]) ∧ True ∧ (True ∧ (!v1) = false) ∧ True ∧ True ∧ True ∧ (True ∧ (decide (a1 < (1 : Int))) = false) ∧ True ∧ True ∧ True ∧ True) (by kernel_rfl) ⟨trivial, ⟨⟨⟨rfl, rfl, rfl, rfl, trivial⟩, trivial⟩, ok_impl_ValidClip K a0 v1 e2⟩, trivial, ⟨trivial, b3⟩, trivial, trivial, trivial, ⟨trivial, b4⟩, trivial, trivial, trivial, trivial⟩ ⟨rfl, rfl⟩
  refine thenQ_normal ?_
  rcases ite2_cases h with ⟨b7, h⟩ | ⟨b7, h⟩
  · refine AW.cond_t rfl b7 ?_
    refine AW.seq ?_
    refine AW.regionA [] [4, 5] [3] (s' := ⟨[(4, (.v (.one (.ptr 3 0)))), (5, (.v (.one (.c (.bool false)))))], [(3, (.box [(.c (.int .i64 (0 : Int))), (.c (.int .i64 (0 : Int))), .nils, .nils]))]⟩) (ob := True ∧ True ∧ True ∧ True) (by kernel_rfl) ⟨trivial, trivial, trivial, trivial⟩ ?_
    refine thenQ_normal ?_
    refine AW.ret ?_
    refine thenQ_ret ?_
    replace h := some_eq h
    subst h
    exact ⟨.inr rfl, retOK_of [(.agg [(.c (.int .i64 (0 : Int))), (.c (.int .i64 (0 : Int))), .nils, .nils]), (.one (.c (.bool false)))] (by kernel_rfl) ⟨⟨⟨rfl, trivial⟩, ⟨rfl, trivial⟩, rfl, rfl, trivial⟩, ⟨rfl, trivial⟩, trivial⟩ (of_decide_eq_true (by kernel_rfl))⟩
  · refine AW.cond_f rfl b7 ?_
    refine AW.skip ?_
    refine thenQ_normal ?_
    refine AW.seq ?_
    obtain ⟨v8, e9, h⟩ := bind_some h
    refine AW.regionA [.no, .no, .no, .no, .no, .no, .no, .call [.agg (cs_Clip a0), .one (.int .i64 (IntKind.i64.wrap (a0.Length * a1))), .one (.fn 75 1 fun j => [(pl 1 (csI .i64) a1)].getD j .nilptr), .one (.fn 78 1 fun j => [(pl 1 (csI .i64) a1)].getD j .nilptr)] [.agg (cs_Clip v8.1), .one (.bool v8.2)] [[.view, .view, .lst 4, .lst 5], [.view]]] [4, 5] [3, 4, 5] (s' := ⟨[(4, (.v (.one (.ptr 3 0)))), (5, (.v (.one (.c (.bool v8.2)))))], [(3, (.box [(.c (.int .i64 v8.1.Length)), (.c (.int .i64 v8.1.Kind)), (.lst 4 v8.1.Tracks.length 1 (gl (csL 5 cs_Key) v8.1.Tracks)), (.lst 5 v8.1.Roots.length 4 (gl cs_RootKey v8.1.Roots))])), (4, (.lst v8.1.Tracks.length 1 (gl (csL 5 cs_Key) v8.1.Tracks))), (5, (.lst v8.1.Roots.length 4 (gl cs_RootKey v8.1.Roots)))]⟩) (ob := True ∧ True ∧ True ∧ True ∧ True ∧ True ∧ True ∧ ((((((.int .i64 a0.Length) : C) = (.int .i64 a0.Length)) ∧ (((.int .i64 a0.Kind) : C) = (.int .i64 a0.Kind)) ∧ (((sl 1 (csL 5 cs_Key) a0.Tracks) : C) = (sl 1 (csL 5 cs_Key) a0.Tracks)) ∧ (((sl 4 cs_RootKey a0.Roots) : C) = (sl 4 cs_RootKey a0.Roots)) ∧ True) ∧ (((.int .i64 (IntKind.i64.wrap (a0.Length * a1))) : C) = (.int .i64 (IntKind.i64.wrap (a0.Length * a1)))) ∧ (75 = 75 ∧ 1 = 1 ∧ ((((.int .i64 a1) : C) = (.int .i64 a1)) ∧ True) ∧ True) ∧ (78 = 78 ∧ 1 = 1 ∧ ((((.int .i64 a1) : C) = (.int .i64 a1)) ∧ True) ∧ True) ∧ True) ∧ CallOK Try.prog 64 [.agg (cs_Clip a0), .one (.int .i64 (IntKind.i64.wrap (a0.Length * a1))), .one (.fn 75 1 fun j => [(pl 1 (csI .i64) a1)].getD j .nilptr), .one (.fn 78 1 fun j => [(pl 1 (csI .i64) a1)].getD j .nilptr)] [.agg (cs_Clip v8.1), .one (.bool v8.2)]) ∧ True ∧ True ∧ True ∧ True ∧ True) (by kernel_rfl) ⟨trivial, trivial, trivial, trivial, trivial, trivial, trivial, ⟨⟨⟨rfl, rfl, rfl, rfl, trivial⟩, rfl, ⟨rfl, rfl, ⟨⟨rfl, trivial⟩, trivial⟩⟩, ⟨rfl, rfl, ⟨⟨rfl, trivial⟩, trivial⟩⟩, trivial⟩, ok_impl_Clip_changed K a0 (IntKind.i64.wrap (a0.Length * a1)) a1 a1 v8 e9⟩, trivial, trivial, trivial, trivial, trivial⟩ ?_
    refine thenQ_normal ?_
    refine AW.ret ?_
    replace h := some_eq h
    subst h
    exact ⟨.inr rfl, retOK_of [(.agg [(.c (.int .i64 v8.1.Length)), (.c (.int .i64 v8.1.Kind)), (.lst 4 v8.1.Tracks.length 1 (gl (csL 5 cs_Key) v8.1.Tracks)), (.lst 5 v8.1.Roots.length 4 (gl cs_RootKey v8.1.Roots))]), (.one (.c (.bool v8.2)))] (by kernel_rfl) ⟨⟨⟨rfl, trivial⟩, ⟨rfl, trivial⟩, rfl, rfl, trivial⟩, ⟨rfl, trivial⟩, trivial⟩ (of_decide_eq_true (by kernel_rfl))⟩

/-! laws.sameFloat -/
def laws_sameFloat (_K : Nat) (a0 : F64) (a1 : F64) : Option (Bool) :=
  (ite2 ((a0.ne a0)) (some true) (some (a1.ne a1))).bind fun j2 => ite2 (j2) ((ite2 ((a0.ne a0)) (some (a1.ne a1)) (some false)).bind fun j6 => some j6) ((ite2 ((a0.eq (Fl.mk (k := .f64) 0 (by decide)))) (some (a1.eq (Fl.mk (k := .f64) 0 (by decide)))) (some false)).bind fun j9 => ite2 (j9) (some ((((Fl.mk (k := .f64) 4607182418800017408 (by decide)).div a0).gt (Fl.mk (k := .f64) 0 (by decide))) == (((Fl.mk (k := .f64) 4607182418800017408 (by decide)).div a1).gt (Fl.mk (k := .f64) 0 (by decide))))) (some (a0.eq a1)))

theorem ok_laws_sameFloat (K : Nat) (a0 : F64) (a1 : F64) (o : (Bool)) (h : laws_sameFloat K a0 a1 = some o) : CallOK Try.prog 211 [.one (.flt .f64 a0.bits), .one (.flt .f64 a1.bits)] [.one (.bool o)] := by
  refine callOK_of_AW Try.func211 rfl (by kernel_rfl) (Nat.le_of_ble_eq_true (by kernel_rfl)) ?_
  intro w0
  unfold laws_sameFloat at h
  refine AW.seq ?_
  refine AW.regionA [] [0, 1] [] (s' := ⟨[(0, (.v (.one (.c (.flt .f64 a0.bits))))), (1, (.v (.one (.c (.flt .f64 a1.bits)))))], []⟩) (ob := True ∧ True) (by kernel_rfl) ⟨trivial, trivial⟩ ?_
  refine thenQ_normal ?_
  refine AW.seq ?_
  refine AW.seq ?_
  obtain ⟨j2, e3, h⟩ := bind_some h
  refine AW.join1 (s2 := ⟨[(0, (.v (.one (.c (.flt .f64 a0.bits))))), (1, (.v (.one (.c (.flt .f64 a1.bits))))), (12, (.v (.one (.c (.bool j2)))))], []⟩) ?_ ?_
  · rcases ite2_cases e3 with ⟨b1, e3⟩ | ⟨b1, e3⟩
    · replace e3 := some_eq e3
      subst e3
      exact AW.regionA [.no, .no, .no, .dec true] [0, 1, 12] [] (s' := ⟨[(0, (.v (.one (.c (.flt .f64 a0.bits))))), (1, (.v (.one (.c (.flt .f64 a1.bits))))), (12, (.v (.one (.c (.bool true)))))], []⟩) (ob := True ∧ True ∧ True ∧ (True ∧ (a0.ne a0) = true) ∧ True ∧ True ∧ True ∧ True ∧ True) (by kernel_rfl) ⟨trivial, trivial, trivial, ⟨trivial, b1⟩, trivial, trivial, trivial, trivial, trivial⟩ ⟨rfl, rfl⟩
    · replace e3 := some_eq e3
      subst e3
      exact AW.regionA [.no, .no, .no, .dec false] [0, 1, 12] [] (s' := ⟨[(0, (.v (.one (.c (.flt .f64 a0.bits))))), (1, (.v (.one (.c (.flt .f64 a1.bits))))), (12, (.v (.one (.c (.bool (a1.ne a1))))))], []⟩) (ob := True ∧ True ∧ True ∧ (True ∧ (a0.ne a0) = false) ∧ True ∧ True ∧ True ∧ True ∧ True) (by kernel_rfl) ⟨trivial, trivial, trivial, ⟨trivial, b1⟩, trivial, trivial, trivial, trivial, trivial⟩ ⟨rfl, rfl⟩
  refine thenQ_normal ?_
  rcases ite2_cases h with ⟨b4, h⟩ | ⟨b4, h⟩
  · refine AW.cond_t rfl b4 ?_
    refine AW.seq ?_
    obtain ⟨j6, e7, h⟩ := bind_some h
    refine AW.join1 (s2 := ⟨[(4, (.v (.one (.c (.bool j6)))))], []⟩) ?_ ?_
    · rcases ite2_cases e7 with ⟨b5, e7⟩ | ⟨b5, e7⟩
      · replace e7 := some_eq e7
        subst e7
        exact AW.regionA [.no, .no, .no, .dec true] [4] [] (s' := ⟨[(4, (.v (.one (.c (.bool (a1.ne a1))))))], []⟩) (ob := True ∧ True ∧ True ∧ (True ∧ (a0.ne a0) = true) ∧ True ∧ True ∧ True ∧ True ∧ True ∧ True) (by kernel_rfl) ⟨trivial, trivial, trivial, ⟨trivial, b5⟩, trivial, trivial, trivial, trivial, trivial, trivial⟩ ⟨rfl, rfl⟩
      · replace e7 := some_eq e7
        subst e7
        exact AW.regionA [.no, .no, .no, .dec false] [4] [] (s' := ⟨[(4, (.v (.one (.c (.bool false)))))], []⟩) (ob := True ∧ True ∧ True ∧ (True ∧ (a0.ne a0) = false) ∧ True ∧ True ∧ True ∧ True ∧ True ∧ True) (by kernel_rfl) ⟨trivial, trivial, trivial, ⟨trivial, b5⟩, trivial, trivial, trivial, trivial, trivial, trivial⟩ ⟨rfl, rfl⟩
    refine thenQ_normal ?_
    refine AW.ret ?_
    refine thenQ_ret ?_
    replace h := some_eq h
    subst h
    exact ⟨.inr rfl, retOK_of [(.one (.c (.bool j6)))] (by kernel_rfl) ⟨⟨rfl, trivial⟩, trivial⟩ (of_decide_eq_true (by kernel_rfl))⟩
  · refine AW.cond_f rfl b4 ?_
    refine AW.skip ?_
    refine thenQ_normal ?_
    refine AW.seq ?_
    refine AW.seq ?_
    obtain ⟨j9, e10, h⟩ := bind_some h
    refine AW.join1 (s2 := ⟨[(0, (.v (.one (.c (.flt .f64 a0.bits))))), (1, (.v (.one (.c (.flt .f64 a1.bits))))), (26, (.v (.one (.c (.bool j9)))))], []⟩) ?_ ?_
    · rcases ite2_cases e10 with ⟨b8, e10⟩ | ⟨b8, e10⟩
      · replace e10 := some_eq e10
        subst e10
        exact AW.regionA [.no, .no, .dec true] [0, 1, 26] [] (s' := ⟨[(0, (.v (.one (.c (.flt .f64 a0.bits))))), (1, (.v (.one (.c (.flt .f64 a1.bits))))), (26, (.v (.one (.c (.bool (a1.eq (Fl.mk (k := .f64) 0 (by decide))))))))], []⟩) (ob := True ∧ True ∧ (True ∧ (a0.eq (Fl.mk (k := .f64) 0 (by decide))) = true) ∧ True ∧ True ∧ True ∧ True) (by kernel_rfl) ⟨trivial, trivial, ⟨trivial, b8⟩, trivial, trivial, trivial, trivial⟩ ⟨rfl, rfl⟩
      · replace e10 := some_eq e10
        subst e10
        exact AW.regionA [.no, .no, .dec false] [0, 1, 26] [] (s' := ⟨[(0, (.v (.one (.c (.flt .f64 a0.bits))))), (1, (.v (.one (.c (.flt .f64 a1.bits))))), (26, (.v (.one (.c (.bool false)))))], []⟩) (ob := True ∧ True ∧ (True ∧ (a0.eq (Fl.mk (k := .f64) 0 (by decide))) = false) ∧ True ∧ True ∧ True ∧ True) (by kernel_rfl) ⟨trivial, trivial, ⟨trivial, b8⟩, trivial, trivial, trivial, trivial⟩ ⟨rfl, rfl⟩
    refine thenQ_normal ?_
    rcases ite2_cases h with ⟨b11, h⟩ | ⟨b11, h⟩
    · refine AW.cond_t rfl b11 ?_
      refine AW.seq ?_
      refine AW.regionA [] [4] [] (s' := ⟨[(4, (.v (.one (.c (.bool ((((Fl.mk (k := .f64) 4607182418800017408 (by decide)).div a0).gt (Fl.mk (k := .f64) 0 (by decide))) == (((Fl.mk (k := .f64) 4607182418800017408 (by decide)).div a1).gt (Fl.mk (k := .f64) 0 (by decide)))))))))], []⟩) (ob := True ∧ True ∧ True ∧ True ∧ True ∧ True ∧ True ∧ True ∧ True) (by kernel_rfl) ⟨trivial, trivial, trivial, trivial, trivial, trivial, trivial, trivial, trivial⟩ ?_
      refine thenQ_normal ?_
      refine AW.ret ?_
      refine thenQ_ret ?_
      replace h := some_eq h
      subst h
      exact ⟨.inr rfl, retOK_of [(.one (.c (.bool ((((Fl.mk (k := .f64) 4607182418800017408 (by decide)).div a0).gt (Fl.mk (k := .f64) 0 (by decide))) == (((Fl.mk (k := .f64) 4607182418800017408 (by decide)).div a1).gt (Fl.mk (k := .f64) 0 (by decide)))))))] (by kernel_rfl) ⟨⟨rfl, trivial⟩, trivial⟩ (of_decide_eq_true (by kernel_rfl))⟩
    · refine AW.cond_f rfl b11 ?_
      refine AW.skip ?_
      refine thenQ_normal ?_
      refine AW.seq ?_
      refine AW.regionA [] [4] [] (s' := ⟨[(4, (.v (.one (.c (.bool (a0.eq a1))))))], []⟩) (ob := True ∧ True ∧ True ∧ True ∧ True) (by kernel_rfl) ⟨trivial, trivial, trivial, trivial, trivial⟩ ?_
      refine thenQ_normal ?_
      refine AW.ret ?_
      replace h := some_eq h
      subst h
      exact ⟨.inr rfl, retOK_of [(.one (.c (.bool (a0.eq a1))))] (by kernel_rfl) ⟨⟨rfl, trivial⟩, trivial⟩ (of_decide_eq_true (by kernel_rfl))⟩

/-! laws.eqTurn -/
def laws_eqTurn (K : Nat) (a0 : Turn) (a1 : Turn) : Option (Bool) :=
  (laws_sameFloat K (Fl.cv .f32 .f64 a0.W) (Fl.cv .f32 .f64 a1.W)).bind fun v1 => ite2 ((!v1)) (some false) ((laws_sameFloat K (Fl.cv .f32 .f64 a0.X) (Fl.cv .f32 .f64 a1.X)).bind fun v4 => ite2 ((!v4)) (some false) ((laws_sameFloat K (Fl.cv .f32 .f64 a0.Y) (Fl.cv .f32 .f64 a1.Y)).bind fun v7 => ite2 ((!v7)) (some false) ((laws_sameFloat K (Fl.cv .f32 .f64 a0.Z) (Fl.cv .f32 .f64 a1.Z)).bind fun v10 => ite2 ((!v10)) (some false) (some true))))

theorem ok_laws_eqTurn (K : Nat) (a0 : Turn) (a1 : Turn) (o : (Bool)) (h : laws_eqTurn K a0 a1 = some o) : CallOK Try.prog 210 [.agg (cs_Turn a0), .agg (cs_Turn a1)] [.one (.bool o)] := by
  refine callOK_of_AW Try.func210 rfl (by kernel_rfl) (Nat.le_of_ble_eq_true (by kernel_rfl)) ?_
  intro w0
  unfold laws_eqTurn at h
  refine AW.seq ?_
  refine AW.regionA [.box 1, .box 2] [2, 3] [1, 2] (s' := ⟨[(2, (.v (.one (.ptr 1 0)))), (3, (.v (.one (.ptr 2 0))))], [(1, (.box [(.c (.flt .f32 a0.W.bits)), (.c (.flt .f32 a0.X.bits)), (.c (.flt .f32 a0.Y.bits)), (.c (.flt .f32 a0.Z.bits))])), (2, (.box [(.c (.flt .f32 a1.W.bits)), (.c (.flt .f32 a1.X.bits)), (.c (.flt .f32 a1.Y.bits)), (.c (.flt .f32 a1.Z.bits))]))]⟩) (ob := True ∧ True ∧ True ∧ True) (by kernel_rfl) ⟨trivial, trivial, trivial, trivial⟩ ?_
  refine thenQ_normal ?_
  refine AW.seq ?_
  refine AW.seq ?_
  obtain ⟨v1, e2, h⟩ := bind_some h
  refine AW.regionA [.no, .no, .no, .no, .no, .no, .call [.one (.flt .f64 (Fl.cv .f32 .f64 a0.W).bits), .one (.flt .f64 (Fl.cv .f32 .f64 a1.W).bits)] [.one (.bool v1)] [[.view]]] [2, 3, 12] [1, 2] (s' := ⟨[(2, (.v (.one (.ptr 1 0)))), (3, (.v (.one (.ptr 2 0)))), (12, (.v (.one (.c (.bool (!v1))))))], [(1, (.box [(.c (.flt .f32 a0.W.bits)), (.c (.flt .f32 a0.X.bits)), (.c (.flt .f32 a0.Y.bits)), (.c (.flt .f32 a0.Z.bits))])), (2, (.box [(.c (.flt .f32 a1.W.bits)), (.c (.flt .f32 a1.X.bits)), (.c (.flt .f32 a1.Y.bits)), (.c (.flt .f32 a1.Z.bits))]))]⟩) (ob := True ∧ True ∧ ((convBits .f32 a0.W.bits .f64).isSome = true) ∧ True ∧ True ∧ ((convBits .f32 a1.W.bits .f64).isSome = true) ∧ (((((.flt .f64 (Fl.cv .f32 .f64 a0.W).bits) : C) = (.flt .f64 (Fl.cv .f32 .f64 a0.W).bits)) ∧ (((.flt .f64 (Fl.cv .f32 .f64 a1.W).bits) : C) = (.flt .f64 (Fl.cv .f32 .f64 a1.W).bits)) ∧ True) ∧ CallOK Try.prog 211 [.one (.flt .f64 (Fl.cv .f32 .f64 a0.W).bits), .one (.flt .f64 (Fl.cv .f32 .f64 a1.W).bits)] [.one (.bool v1)]) ∧ True ∧ True) (by kernel_rfl) ⟨trivial, trivial, cv_wide a0.W, trivial, trivial, cv_wide a1.W, ⟨⟨rfl, rfl, trivial⟩, ok_laws_sameFloat K (Fl.cv .f32 .f64 a0.W) (Fl.cv .f32 .f64 a1.W) v1 e2⟩, trivial, trivial⟩ ?_
  refine thenQ_normal ?_
  rcases ite2_cases h with ⟨b3, h⟩ | ⟨b3, h⟩
  · refine AW.cond_t rfl b3 ?_
    refine AW.seq ?_
    refine AW.regionA [] [4] [] (s' := ⟨[(4, (.v (.one (.c (.bool false)))))], []⟩) (ob := True ∧ True) (by kernel_rfl) ⟨trivial, trivial⟩ ?_
    refine thenQ_normal ?_
    refine AW.ret ?_
    refine thenQ_ret ?_
    replace h := some_eq h
    subst h
    exact ⟨.inr rfl, retOK_of [(.one (.c (.bool false)))] (by kernel_rfl) ⟨⟨rfl, trivial⟩, trivial⟩ (of_decide_eq_true (by kernel_rfl))⟩
  · refine AW.cond_f rfl b3 ?_
    refine AW.skip ?_
    refine thenQ_normal ?_
    refine AW.seq ?_
    refine AW.seq ?_
    obtain ⟨v4, e5, h⟩ := bind_some h
    refine AW.regionA [.no, .no, .no, .no, .no, .no, .call [.one (.flt .f64 (Fl.cv .f32 .f64 a0.X).bits), .one (.flt .f64 (Fl.cv .f32 .f64 a1.X).bits)] [.one (.bool v4)] [[.view]]] [2, 3, 20] [1, 2] (s' := ⟨[(2, (.v (.one (.ptr 1 0)))), (3, (.v (.one (.ptr 2 0)))), (20, (.v (.one (.c (.bool (!v4))))))], [(1, (.box [(.c (.flt .f32 a0.W.bits)), (.c (.flt .f32 a0.X.bits)), (.c (.flt .f32 a0.Y.bits)), (.c (.flt .f32 a0.Z.bits))])), (2, (.box [(.c (.flt .f32 a1.W.bits)), (.c (.flt .f32 a1.X.bits)), (.c (.flt .f32 a1.Y.bits)), (.c (.flt .f32 a1.Z.bits))]))]⟩) (ob := True ∧ True ∧ ((convBits .f32 a0.X.bits .f64).isSome = true) ∧ True ∧ True ∧ ((convBits .f32 a1.X.bits .f64).isSome = true) ∧ (((((.flt .f64 (Fl.cv .f32 .f64 a0.X).bits) : C) = (.flt .f64 (Fl.cv .f32 .f64 a0.X).bits)) ∧ (((.flt .f64 (Fl.cv .f32 .f64 a1.X).bits) : C) = (.flt .f64 (Fl.cv .f32 .f64 a1.X).bits)) ∧ True) ∧ CallOK Try.prog 211 [.one (.flt .f64 (Fl.cv .f32 .f64 a0.X).bits), .one (.flt .f64 (Fl.cv .f32 .f64 a1.X).bits)] [.one (.bool v4)]) ∧ True ∧ True) (by kernel_rfl) ⟨trivial, trivial, cv_wide a0.X, trivial, trivial, cv_wide a1.X, ⟨⟨rfl, rfl, trivial⟩, ok_laws_sameFloat K (Fl.cv .f32 .f64 a0.X) (Fl.cv .f32 .f64 a1.X) v4 e5⟩, trivial, trivial⟩ ?_
    refine thenQ_normal ?_
    rcases ite2_cases h with ⟨b6, h⟩ | ⟨b6, h⟩
    · refine AW.cond_t rfl b6 ?_
      refine AW.seq ?_
      refine AW.regionA [] [4] [] (s' := ⟨[(4, (.v (.one (.c (.bool false)))))], []⟩) (ob := True ∧ True) (by kernel_rfl) ⟨trivial, trivial⟩ ?_
      refine thenQ_normal ?_
      refine AW.ret ?_
      refine thenQ_ret ?_
      replace h := some_eq h
      subst h
      exact ⟨.inr rfl, retOK_of [(.one (.c (.bool false)))] (by kernel_rfl) ⟨⟨rfl, trivial⟩, trivial⟩ (of_decide_eq_true (by kernel_rfl))⟩
    · refine AW.cond_f rfl b6 ?_
      refine AW.skip ?_
      refine thenQ_normal ?_
      refine AW.seq ?_
      refine AW.seq ?_
      obtain ⟨v7, e8, h⟩ := bind_some h
      refine AW.regionA [.no, .no, .no, .no, .no, .no, .call [.one (.flt .f64 (Fl.cv .f32 .f64 a0.Y).bits), .one (.flt .f64 (Fl.cv .f32 .f64 a1.Y).bits)] [.one (.bool v7)] [[.view]]] [2, 3, 28] [1, 2] (s' := ⟨[(2, (.v (.one (.ptr 1 0)))), (3, (.v (.one (.ptr 2 0)))), (28, (.v (.one (.c (.bool (!v7))))))], [(1, (.box [(.c (.flt .f32 a0.W.bits)), (.c (.flt .f32 a0.X.bits)), (.c (.flt .f32 a0.Y.bits)), (.c (.flt .f32 a0.Z.bits))])), (2, (.box [(.c (.flt .f32 a1.W.bits)), (.c (.flt .f32 a1.X.bits)), (.c (.flt .f32 a1.Y.bits)), (.c (.flt .f32 a1.Z.bits))]))]⟩) (ob := True ∧ True ∧ ((convBits .f32 a0.Y.bits .f64).isSome = true) ∧ True ∧ True ∧ ((convBits .f32 a1.Y.bits .f64).isSome = true) ∧ (((((.flt .f64 (Fl.cv .f32 .f64 a0.Y).bits) : C) = (.flt .f64 (Fl.cv .f32 .f64 a0.Y).bits)) ∧ (((.flt .f64 (Fl.cv .f32 .f64 a1.Y).bits) : C) = (.flt .f64 (Fl.cv .f32 .f64 a1.Y).bits)) ∧ True) ∧ CallOK Try.prog 211 [.one (.flt .f64 (Fl.cv .f32 .f64 a0.Y).bits), .one (.flt .f64 (Fl.cv .f32 .f64 a1.Y).bits)] [.one (.bool v7)]) ∧ True ∧ True) (by kernel_rfl) ⟨trivial, trivial, cv_wide a0.Y, trivial, trivial, cv_wide a1.Y, ⟨⟨rfl, rfl, trivial⟩, ok_laws_sameFloat K (Fl.cv .f32 .f64 a0.Y) (Fl.cv .f32 .f64 a1.Y) v7 e8⟩, trivial, trivial⟩ ?_
      refine thenQ_normal ?_
      rcases ite2_cases h with ⟨b9, h⟩ | ⟨b9, h⟩
      · refine AW.cond_t rfl b9 ?_
        refine AW.seq ?_
        refine AW.regionA [] [4] [] (s' := ⟨[(4, (.v (.one (.c (.bool false)))))], []⟩) (ob := True ∧ True) (by kernel_rfl) ⟨trivial, trivial⟩ ?_
        refine thenQ_normal ?_
        refine AW.ret ?_
        refine thenQ_ret ?_
        replace h := some_eq h
        subst h
        exact ⟨.inr rfl, retOK_of [(.one (.c (.bool false)))] (by kernel_rfl) ⟨⟨rfl, trivial⟩, trivial⟩ (of_decide_eq_true (by kernel_rfl))⟩
      · refine AW.cond_f rfl b9 ?_
        refine AW.skip ?_
        refine thenQ_normal ?_
        refine AW.seq ?_
        refine AW.seq ?_
        obtain ⟨v10, e11, h⟩ := bind_some h
        refine AW.regionA [.no, .no, .no, .no, .no, .no, .call [.one (.flt .f64 (Fl.cv .f32 .f64 a0.Z).bits), .one (.flt .f64 (Fl.cv .f32 .f64 a1.Z).bits)] [.one (.bool v10)] [[.view]]] [36] [] (s' := ⟨[(36, (.v (.one (.c (.bool (!v10))))))], []⟩) (ob := True ∧ True ∧ ((convBits .f32 a0.Z.bits .f64).isSome = true) ∧ True ∧ True ∧ ((convBits .f32 a1.Z.bits .f64).isSome = true) ∧ (((((.flt .f64 (Fl.cv .f32 .f64 a0.Z).bits) : C) = (.flt .f64 (Fl.cv .f32 .f64 a0.Z).bits)) ∧ (((.flt .f64 (Fl.cv .f32 .f64 a1.Z).bits) : C) = (.flt .f64 (Fl.cv .f32 .f64 a1.Z).bits)) ∧ True) ∧ CallOK Try.prog 211 [.one (.flt .f64 (Fl.cv .f32 .f64 a0.Z).bits), .one (.flt .f64 (Fl.cv .f32 .f64 a1.Z).bits)] [.one (.bool v10)]) ∧ True ∧ True) (by kernel_rfl) ⟨trivial, trivial, cv_wide a0.Z, trivial, trivial, cv_wide a1.Z, ⟨⟨rfl, rfl, trivial⟩, ok_laws_sameFloat K (Fl.cv .f32 .f64 a0.Z) (Fl.cv .f32 .f64 a1.Z) v10 e11⟩, trivial, trivial⟩ ?_
        refine thenQ_normal ?_
        rcases ite2_cases h with ⟨b12, h⟩ | ⟨b12, h⟩
        · refine AW.cond_t rfl b12 ?_
          refine AW.seq ?_
          refine AW.regionA [] [4] [] (s' := ⟨[(4, (.v (.one (.c (.bool false)))))], []⟩) (ob := True ∧ True) (by kernel_rfl) ⟨trivial, trivial⟩ ?_
          refine thenQ_normal ?_
          refine AW.ret ?_
          refine thenQ_ret ?_
          replace h := some_eq h
          subst h
          exact ⟨.inr rfl, retOK_of [(.one (.c (.bool false)))] (by kernel_rfl) ⟨⟨rfl, trivial⟩, trivial⟩ (of_decide_eq_true (by kernel_rfl))⟩
        · refine AW.cond_f rfl b12 ?_
          refine AW.skip ?_
          refine thenQ_normal ?_
          refine AW.seq ?_
          refine AW.regionA [] [4] [] (s' := ⟨[(4, (.v (.one (.c (.bool true)))))], []⟩) (ob := True ∧ True) (by kernel_rfl) ⟨trivial, trivial⟩ ?_
          refine thenQ_normal ?_
          refine AW.ret ?_
          replace h := some_eq h
          subst h
          exact ⟨.inr rfl, retOK_of [(.one (.c (.bool true)))] (by kernel_rfl) ⟨⟨rfl, trivial⟩, trivial⟩ (of_decide_eq_true (by kernel_rfl))⟩

/-! laws.eqKey -/
def laws_eqKey (K : Nat) (a0 : Key) (a1 : Key) : Option (Bool) :=
  ite2 ((a0.At != a1.At)) (some false) ((laws_eqTurn K a0.Turn a1.Turn).bind fun v2 => ite2 ((!v2)) (some false) (some true))

theorem ok_laws_eqKey (K : Nat) (a0 : Key) (a1 : Key) (o : (Bool)) (h : laws_eqKey K a0 a1 = some o) : CallOK Try.prog 185 [.agg (cs_Key a0), .agg (cs_Key a1)] [.one (.bool o)] := by
  refine callOK_of_AW Try.func185 rfl (by kernel_rfl) (Nat.le_of_ble_eq_true (by kernel_rfl)) ?_
  intro w0
  unfold laws_eqKey at h
  refine AW.seq ?_
  refine AW.regionA [.box 1, .box 2] [2, 3] [1, 2] (s' := ⟨[(2, (.v (.one (.ptr 1 0)))), (3, (.v (.one (.ptr 2 0))))], [(1, (.box [(.c (.int .i64 a0.At)), (.c (.flt .f32 a0.Turn.W.bits)), (.c (.flt .f32 a0.Turn.X.bits)), (.c (.flt .f32 a0.Turn.Y.bits)), (.c (.flt .f32 a0.Turn.Z.bits))])), (2, (.box [(.c (.int .i64 a1.At)), (.c (.flt .f32 a1.Turn.W.bits)), (.c (.flt .f32 a1.Turn.X.bits)), (.c (.flt .f32 a1.Turn.Y.bits)), (.c (.flt .f32 a1.Turn.Z.bits))]))]⟩) (ob := True ∧ True ∧ True ∧ True) (by kernel_rfl) ⟨trivial, trivial, trivial, trivial⟩ ?_
  refine thenQ_normal ?_
  refine AW.seq ?_
  refine AW.seq ?_
  refine AW.regionA [] [2, 3, 9] [1, 2] (s' := ⟨[(2, (.v (.one (.ptr 1 0)))), (3, (.v (.one (.ptr 2 0)))), (9, (.v (.one (.c (.bool (a0.At != a1.At))))))], [(1, (.box [(.c (.int .i64 a0.At)), (.c (.flt .f32 a0.Turn.W.bits)), (.c (.flt .f32 a0.Turn.X.bits)), (.c (.flt .f32 a0.Turn.Y.bits)), (.c (.flt .f32 a0.Turn.Z.bits))])), (2, (.box [(.c (.int .i64 a1.At)), (.c (.flt .f32 a1.Turn.W.bits)), (.c (.flt .f32 a1.Turn.X.bits)), (.c (.flt .f32 a1.Turn.Y.bits)), (.c (.flt .f32 a1.Turn.Z.bits))]))]⟩) (ob := True ∧ True ∧ True ∧ True ∧ True ∧ True) (by kernel_rfl) ⟨trivial, trivial, trivial, trivial, trivial, trivial⟩ ?_
  refine thenQ_normal ?_
  rcases ite2_cases h with ⟨b1, h⟩ | ⟨b1, h⟩
  · refine AW.cond_t rfl b1 ?_
    refine AW.seq ?_
    refine AW.regionA [] [4] [] (s' := ⟨[(4, (.v (.one (.c (.bool false)))))], []⟩) (ob := True ∧ True) (by kernel_rfl) ⟨trivial, trivial⟩ ?_
    refine thenQ_normal ?_
    refine AW.ret ?_
    refine thenQ_ret ?_
    replace h := some_eq h
    subst h
    exact ⟨.inr rfl, retOK_of [(.one (.c (.bool false)))] (by kernel_rfl) ⟨⟨rfl, trivial⟩, trivial⟩ (of_decide_eq_true (by kernel_rfl))⟩
  · refine AW.cond_f rfl b1 ?_
    refine AW.skip ?_
    refine thenQ_normal ?_
    refine AW.seq ?_
    refine AW.seq ?_
    obtain ⟨v2, e3, h⟩ := bind_some h
    refine AW.regionA [.no, .no, .no, .no, .call [.agg (cs_Turn a0.Turn), .agg (cs_Turn a1.Turn)] [.one (.bool v2)] [[.view]]] [15] [] (s' := ⟨[(15, (.v (.one (.c (.bool (!v2))))))], []⟩) (ob := True ∧ True ∧ True ∧ True ∧ ((((((.flt .f32 a0.Turn.W.bits) : C) = (.flt .f32 a0.Turn.W.bits)) ∧ (((.flt .f32 a0.Turn.X.bits) : C) = (.flt .f32 a0.Turn.X.bits)) ∧ (((.flt .f32 a0.Turn.Y.bits) : C) = (.flt .f32 a0.Turn.Y.bits)) ∧ (((.flt .f32 a0.Turn.Z.bits) : C) = (.flt .f32 a0.Turn.Z.bits)) ∧ True) ∧ ((((.flt .f32 a1.Turn.W.bits) : C) = (.flt .f32 a1.Turn.W.bits)) ∧ (((.flt .f32 a1.Turn.X.bits) : C) = (.flt .f32 a1.Turn.X.bits)) ∧ (((.flt .f32 a1.Turn.Y.bits) : C) = (.flt .f32 a1.Turn.Y.bits)) ∧ (((.flt .f32 a1.Turn.Z.bits) : C) = (.flt .f32 a1.Turn.Z.bits)) ∧ True) ∧ True) ∧ CallOK Try.prog 210 [.agg (cs_Turn a0.Turn), .agg (cs_Turn a1.Turn)] [.one (.bool v2)]) ∧ True ∧ True) (by kernel_rfl) ⟨trivial, trivial, trivial, trivial, ⟨⟨⟨rfl, rfl, rfl, rfl, trivial⟩, ⟨rfl, rfl, rfl, rfl, trivial⟩, trivial⟩, ok_laws_eqTurn K a0.Turn a1.Turn v2 e3⟩, trivial, trivial⟩ ?_
    refine thenQ_normal ?_
    rcases ite2_cases h with ⟨b4, h⟩ | ⟨b4, h⟩
    · refine AW.cond_t rfl b4 ?_
      refine AW.seq ?_
      refine AW.regionA [] [4] [] (s' := ⟨[(4, (.v (.one (.c (.bool false)))))], []⟩) (ob := True ∧ True) (by kernel_rfl) ⟨trivial, trivial⟩ ?_
      refine thenQ_normal ?_
      refine AW.ret ?_
      refine thenQ_ret ?_
      replace h := some_eq h
      subst h
      exact ⟨.inr rfl, retOK_of [(.one (.c (.bool false)))] (by kernel_rfl) ⟨⟨rfl, trivial⟩, trivial⟩ (of_decide_eq_true (by kernel_rfl))⟩
    · refine AW.cond_f rfl b4 ?_
      refine AW.skip ?_
      refine thenQ_normal ?_
      refine AW.seq ?_
      refine AW.regionA [] [4] [] (s' := ⟨[(4, (.v (.one (.c (.bool true)))))], []⟩) (ob := True ∧ True) (by kernel_rfl) ⟨trivial, trivial⟩ ?_
      refine thenQ_normal ?_
      refine AW.ret ?_
      replace h := some_eq h
      subst h
      exact ⟨.inr rfl, retOK_of [(.one (.c (.bool true)))] (by kernel_rfl) ⟨⟨rfl, trivial⟩, trivial⟩ (of_decide_eq_true (by kernel_rfl))⟩

/-! laws.eqKeyS -/
def laws_eqKeyS_l1 (K : Nat) (a0 : (List Key)) (a1 : (List Key)) : Nat → Int → Option (Bool)
  | 0, _ => none
  | k + 1, x3 => ite2 ((decide (x3 < (a0.length : Int)))) (chk (0 ≤ x3 ∧ x3 < (a0.length : Int)) (chk (0 ≤ x3 ∧ x3 < (a1.length : Int)) ((laws_eqKey K (a0.getD x3.toNat default) (a1.getD x3.toNat default)).bind fun v7 => ite2 ((!v7)) (some false) (laws_eqKeyS_l1 K a0 a1 k (IntKind.i64.wrap (x3 + (1 : Int))))))) (some true)

def laws_eqKeyS (K : Nat) (a0 : (List Key)) (a1 : (List Key)) : Option (Bool) :=
  ite2 (((a0.length : Int) != (a1.length : Int))) (some false) (laws_eqKeyS_l1 K a0 a1 K (0 : Int))

theorem ok_laws_eqKeyS (K : Nat) (a0 : (List Key)) (a1 : (List Key)) (o : (Bool)) (h : laws_eqKeyS K a0 a1 = some o) : CallOK Try.prog 142 [.one (sl 5 cs_Key a0), .one (sl 5 cs_Key a1)] [.one (.bool o)] := by
  refine callOK_of_AW Try.func142 rfl (by kernel_rfl) (Nat.le_of_ble_eq_true (by kernel_rfl)) ?_
  intro w0
  unfold laws_eqKeyS at h
  refine AW.seq ?_
  refine AW.regionA [] [0, 1] [] (s' := ⟨[(0, (.v (.one (.c (sl 5 cs_Key a0))))), (1, (.v (.one (.c (sl 5 cs_Key a1)))))], []⟩) (ob := True ∧ True) (by kernel_rfl) ⟨trivial, trivial⟩ ?_
  refine thenQ_normal ?_
  refine AW.seq ?_
  refine AW.seq ?_
  refine AW.regionA [] [0, 1, 10] [] (s' := ⟨[(0, (.v (.one (.c (sl 5 cs_Key a0))))), (1, (.v (.one (.c (sl 5 cs_Key a1))))), (10, (.v (.one (.c (.bool ((a0.length : Int) != (a1.length : Int)))))))], []⟩) (ob := True ∧ True ∧ True ∧ True ∧ True ∧ True) (by kernel_rfl) ⟨trivial, trivial, trivial, trivial, trivial, trivial⟩ ?_
  refine thenQ_normal ?_
  rcases ite2_cases h with ⟨b1, h⟩ | ⟨b1, h⟩
  · refine AW.cond_t rfl b1 ?_
    refine AW.seq ?_
    refine AW.regionA [] [4] [] (s' := ⟨[(4, (.v (.one (.c (.bool false)))))], []⟩) (ob := True ∧ True) (by kernel_rfl) ⟨trivial, trivial⟩ ?_
    refine thenQ_normal ?_
    refine AW.ret ?_
    refine thenQ_ret ?_
    replace h := some_eq h
    subst h
    exact ⟨.inr rfl, retOK_of [(.one (.c (.bool false)))] (by kernel_rfl) ⟨⟨rfl, trivial⟩, trivial⟩ (of_decide_eq_true (by kernel_rfl))⟩
  · refine AW.cond_f rfl b1 ?_
    refine AW.skip ?_
    refine thenQ_normal ?_
    refine AW.seq ?_
    refine AW.seq ?_
    refine AW.regionA [] [0, 1, 5] [] (s' := ⟨[(0, (.v (.one (.c (sl 5 cs_Key a0))))), (1, (.v (.one (.c (sl 5 cs_Key a1))))), (5, (.v (.one (.c (.int .i64 (0 : Int))))))], []⟩) (ob := True ∧ True) (by kernel_rfl) ⟨trivial, trivial⟩ ?_
    refine thenQ_normal ?_
    refine AW.block ?_
    refine AW.loopQ (σ := Nat × Int) (fun p => ⟨[(0, (.v (.one (.c (sl 5 cs_Key a0))))), (1, (.v (.one (.c (sl 5 cs_Key a1))))), (5, (.v (.one (.c (.int .i64 p.2)))))], []⟩) (fun p => laws_eqKeyS_l1 K a0 a1 p.1 p.2 = some o) (fun p => p.1) (K, (0 : Int)) h ?_
    clear h
    rintro ⟨k, x3⟩ h
    replace h : laws_eqKeyS_l1 K a0 a1 k x3 = some o := h
    show AW _ _ (⟨[(0, (.v (.one (.c (sl 5 cs_Key a0))))), (1, (.v (.one (.c (sl 5 cs_Key a1))))), (5, (.v (.one (.c (.int .i64 x3)))))], []⟩ : St) _
    obtain _ | k := k
    · rw [laws_eqKeyS_l1] at h; cases h
    rw [laws_eqKeyS_l1] at h
    refine AW.seq ?_
    refine AW.seq ?_
    refine AW.regionA [] [0, 1, 5, 14] [] (s' := ⟨[(0, (.v (.one (.c (sl 5 cs_Key a0))))), (1, (.v (.one (.c (sl 5 cs_Key a1))))), (5, (.v (.one (.c (.int .i64 x3))))), (14, (.v (.one (.c (.bool (decide (x3 < (a0.length : Int))))))))], []⟩) (ob := True ∧ True ∧ True ∧ True ∧ True) (by kernel_rfl) ⟨trivial, trivial, trivial, trivial, trivial⟩ ?_
    refine thenQ_normal ?_
    rcases ite2_cases h with ⟨b4, h⟩ | ⟨b4, h⟩
    · refine AW.cond_t rfl b4 ?_
      refine AW.skip ?_
      refine thenQ_normal ?_
      refine AW.seq ?_
      refine AW.block ?_
      refine AW.seq ?_
      obtain ⟨c5, h⟩ := chk_some h
      obtain ⟨c6, h⟩ := chk_some h
      obtain ⟨v7, e8, h⟩ := bind_some h
      refine AW.drawnA (by kernel_rfl) 10 [.no, .no, .no, .no, .no, .no, .no, .no, .call [.agg (cs_Key (a0.getD x3.toNat default)), .agg (cs_Key (a1.getD x3.toNat default))] [.one (.bool v7)] [[.view]]] [0, 1, 5, 26] [] (s' := ⟨[(0, (.v (.one (.c (sl 5 cs_Key a0))))), (1, (.v (.one (.c (sl 5 cs_Key a1))))), (5, (.v (.one (.c (.int .i64 x3))))), (26, (.v (.one (.c (.bool (!v7))))))], []⟩) (ob := (True ∧ True ∧ (0 ≤ x3 ∧ x3 < (a0.length : Int)) ∧ True ∧ True ∧ True ∧ (0 ≤ x3 ∧ x3 < (a1.length : Int)) ∧ True ∧ ((((((.int .i64 ((a0.getD x3.toNat default).At)) : C) = (.int .i64 ((a0.getD x3.toNat default).At))) ∧ (((.flt .f32 (((a0.getD x3.toNat default).Turn).W).bits) : C) = (.flt .f32 (((a0.getD x3.toNat default).Turn).W).bits)) ∧ (((.flt .f32 (((a0.getD x3.toNat default).Turn).X).bits) : C) = (.flt .f32 (((a0.getD x3.toNat default).Turn).X).bits)) ∧ (((.flt .f32 (((a0.getD x3.toNat default).Turn).Y).bits) : C) = (.flt .f32 (((a0.getD x3.toNat default).Turn).Y).bits)) ∧ (((.flt .f32 (((a0.getD x3.toNat default).Turn).Z).bits) : C) = (.flt .f32 (((a0.getD x3.toNat default).Turn).Z).bits)) ∧ True) ∧ ((((.int .i64 ((a1.getD x3.toNat default).At)) : C) = (.int .i64 ((a1.getD x3.toNat default).At))) ∧ (((.flt .f32 (((a1.getD x3.toNat default).Turn).W).bits) : C) = (.flt .f32 (((a1.getD x3.toNat default).Turn).W).bits)) ∧ (((.flt .f32 (((a1.getD x3.toNat default).Turn).X).bits) : C) = (.flt .f32 (((a1.getD x3.toNat default).Turn).X).bits)) ∧ (((.flt .f32 (((a1.getD x3.toNat default).Turn).Y).bits) : C) = (.flt .f32 (((a1.getD x3.toNat default).Turn).Y).bits)) ∧ (((.flt .f32 (((a1.getD x3.toNat default).Turn).Z).bits) : C) = (.flt .f32 (((a1.getD x3.toNat default).Turn).Z).bits)) ∧ True) ∧ True) ∧ CallOK Try.prog 185 [.agg (cs_Key (a0.getD x3.toNat default)), .agg (cs_Key (a1.getD x3.toNat default))] [.one (.bool v7)]) ∧ True ∧ True) ∧ (True)) (by kernel_rfl) ⟨⟨trivial, trivial, c5, trivial, trivial, trivial, c6, trivial, ⟨⟨⟨rfl, rfl, rfl, rfl, rfl, trivial⟩, ⟨rfl, rfl, rfl, rfl, rfl, trivial⟩, trivial⟩, ok_laws_eqKey K (a0.getD x3.toNat default) (a1.getD x3.toNat default) v7 e8⟩, trivial, trivial⟩, trivial⟩ ?_
      refine thenQ_normal ?_
      rcases ite2_cases h with ⟨b9, h⟩ | ⟨b9, h⟩
      · refine AW.cond_t rfl b9 ?_
        refine AW.seq ?_
        refine AW.regionA [] [4] [] (s' := ⟨[(4, (.v (.one (.c (.bool false)))))], []⟩) (ob := True ∧ True) (by kernel_rfl) ⟨trivial, trivial⟩ ?_
        refine thenQ_normal ?_
        refine AW.ret ?_
        refine blockQ_ret ?_
        refine thenQ_ret ?_
        refine loopQ_ret ?_
        refine blockQ_ret ?_
        refine thenQ_ret ?_
        replace h := some_eq h
        subst h
        exact ⟨.inr rfl, retOK_of [(.one (.c (.bool false)))] (by kernel_rfl) ⟨⟨rfl, trivial⟩, trivial⟩ (of_decide_eq_true (by kernel_rfl))⟩
      · refine AW.cond_f rfl b9 ?_
        refine AW.skip ?_
        refine blockQ_normal ?_
        refine thenQ_normal ?_
        refine AW.regionA [] [0, 1, 5] [] (s' := ⟨[(0, (.v (.one (.c (sl 5 cs_Key a0))))), (1, (.v (.one (.c (sl 5 cs_Key a1))))), (5, (.v (.one (.c (.int .i64 (IntKind.i64.wrap (x3 + (1 : Int))))))))], []⟩) (ob := True ∧ True ∧ True ∧ True) (by kernel_rfl) ⟨trivial, trivial, trivial, trivial⟩ ?_
        exact loopQ_normal (k, (IntKind.i64.wrap (x3 + (1 : Int)))) h (Nat.lt_succ_self k) (Sub.keep [0, 1, 5] [] (by kernel_rfl) (by kernel_rfl))
    · refine AW.cond_f rfl b4 ?_
      refine AW.exit ?_
      refine thenQ_exit ?_
      refine loopQ_exit ?_
      refine blockQ_exit ?_
      refine thenQ_normal ?_
      refine AW.seq ?_
      refine AW.regionA [] [4] [] (s' := ⟨[(4, (.v (.one (.c (.bool true)))))], []⟩) (ob := True ∧ True) (by kernel_rfl) ⟨trivial, trivial⟩ ?_
      refine thenQ_normal ?_
      refine AW.ret ?_
      replace h := some_eq h
      subst h
      exact ⟨.inr rfl, retOK_of [(.one (.c (.bool true)))] (by kernel_rfl) ⟨⟨rfl, trivial⟩, trivial⟩ (of_decide_eq_true (by kernel_rfl))⟩

/-! laws.eqKeySS -/
def laws_eqKeySS_l1 (K : Nat) (a0 : (List (List Key))) (a1 : (List (List Key))) : Nat → Int → Option (Bool)
  | 0, _ => none
  | k + 1, x3 => ite2 ((decide (x3 < (a0.length : Int)))) (chk (0 ≤ x3 ∧ x3 < (a0.length : Int)) (chk (0 ≤ x3 ∧ x3 < (a1.length : Int)) ((laws_eqKeyS K (a0.getD x3.toNat default) (a1.getD x3.toNat default)).bind fun v7 => ite2 ((!v7)) (some false) (laws_eqKeySS_l1 K a0 a1 k (IntKind.i64.wrap (x3 + (1 : Int))))))) (some true)

def laws_eqKeySS (K : Nat) (a0 : (List (List Key))) (a1 : (List (List Key))) : Option (Bool) :=
  ite2 (((a0.length : Int) != (a1.length : Int))) (some false) (laws_eqKeySS_l1 K a0 a1 K (0 : Int))

theorem ok_laws_eqKeySS (K : Nat) (a0 : (List (List Key))) (a1 : (List (List Key))) (o : (Bool)) (h : laws_eqKeySS K a0 a1 = some o) : CallOK Try.prog 68 [.one (sl 1 (csL 5 cs_Key) a0), .one (sl 1 (csL 5 cs_Key) a1)] [.one (.bool o)] := by
  refine callOK_of_AW Try.func68 rfl (by kernel_rfl) (Nat.le_of_ble_eq_true (by kernel_rfl)) ?_
  intro w0
  unfold laws_eqKeySS at h
  refine AW.seq ?_
  refine AW.regionA [] [0, 1] [] (s' := ⟨[(0, (.v (.one (.c (sl 1 (csL 5 cs_Key) a0))))), (1, (.v (.one (.c (sl 1 (csL 5 cs_Key) a1)))))], []⟩) (ob := True ∧ True) (by kernel_rfl) ⟨trivial, trivial⟩ ?_
  refine thenQ_normal ?_
  refine AW.seq ?_
  refine AW.seq ?_
  refine AW.regionA [] [0, 1, 10] [] (s' := ⟨[(0, (.v (.one (.c (sl 1 (csL 5 cs_Key) a0))))), (1, (.v (.one (.c (sl 1 (csL 5 cs_Key) a1))))), (10, (.v (.one (.c (.bool ((a0.length : Int) != (a1.length : Int)))))))], []⟩) (ob := True ∧ True ∧ True ∧ True ∧ True ∧ True) (by kernel_rfl) ⟨trivial, trivial, trivial, trivial, trivial, trivial⟩ ?_
  refine thenQ_normal ?_
  rcases ite2_cases h with ⟨b1, h⟩ | ⟨b1, h⟩
  · refine AW.cond_t rfl b1 ?_
    refine AW.seq ?_
    refine AW.regionA [] [4] [] (s' := ⟨[(4, (.v (.one (.c (.bool false)))))], []⟩) (ob := True ∧ True) (by kernel_rfl) ⟨trivial, trivial⟩ ?_
    refine thenQ_normal ?_
    refine AW.ret ?_
    refine thenQ_ret ?_
    replace h := some_eq h
    subst h
    exact ⟨.inr rfl, retOK_of [(.one (.c (.bool false)))] (by kernel_rfl) ⟨⟨rfl, trivial⟩, trivial⟩ (of_decide_eq_true (by kernel_rfl))⟩
  · refine AW.cond_f rfl b1 ?_
    refine AW.skip ?_
    refine thenQ_normal ?_
    refine AW.seq ?_
    refine AW.seq ?_
    refine AW.regionA [] [0, 1, 5] [] (s' := ⟨[(0, (.v (.one (.c (sl 1 (csL 5 cs_Key) a0))))), (1, (.v (.one (.c (sl 1 (csL 5 cs_Key) a1))))), (5, (.v (.one (.c (.int .i64 (0 : Int))))))], []⟩) (ob := True ∧ True) (by kernel_rfl) ⟨trivial, trivial⟩ ?_
    refine thenQ_normal ?_
    refine AW.block ?_
    refine AW.loopQ (σ := Nat × Int) (fun p => ⟨[(0, (.v (.one (.c (sl 1 (csL 5 cs_Key) a0))))), (1, (.v (.one (.c (sl 1 (csL 5 cs_Key) a1))))), (5, (.v (.one (.c (.int .i64 p.2)))))], []⟩) (fun p => laws_eqKeySS_l1 K a0 a1 p.1 p.2 = some o) (fun p => p.1) (K, (0 : Int)) h ?_
    clear h
    rintro ⟨k, x3⟩ h
    replace h : laws_eqKeySS_l1 K a0 a1 k x3 = some o := h
    show AW _ _ (⟨[(0, (.v (.one (.c (sl 1 (csL 5 cs_Key) a0))))), (1, (.v (.one (.c (sl 1 (csL 5 cs_Key) a1))))), (5, (.v (.one (.c (.int .i64 x3)))))], []⟩ : St) _
    obtain _ | k := k
    · rw [laws_eqKeySS_l1] at h; cases h
    rw [laws_eqKeySS_l1] at h
    refine AW.seq ?_
    refine AW.seq ?_
    refine AW.regionA [] [0, 1, 5, 14] [] (s' := ⟨[(0, (.v (.one (.c (sl 1 (csL 5 cs_Key) a0))))), (1, (.v (.one (.c (sl 1 (csL 5 cs_Key) a1))))), (5, (.v (.one (.c (.int .i64 x3))))), (14, (.v (.one (.c (.bool (decide (x3 < (a0.length : Int))))))))], []⟩) (ob := True ∧ True ∧ True ∧ True ∧ True) (by kernel_rfl) ⟨trivial, trivial, trivial, trivial, trivial⟩ ?_
    refine thenQ_normal ?_
    rcases ite2_cases h with ⟨b4, h⟩ | ⟨b4, h⟩
    · refine AW.cond_t rfl b4 ?_
      refine AW.skip ?_
      refine thenQ_normal ?_
      refine AW.seq ?_
      refine AW.block ?_
      refine AW.seq ?_
      obtain ⟨c5, h⟩ := chk_some h
      obtain ⟨c6, h⟩ := chk_some h
      obtain ⟨v7, e8, h⟩ := bind_some h
      refine AW.drawnA (by kernel_rfl) 10 [.no, .no, .no, .no, .no, .no, .no, .no, .call [.one (sl 5 cs_Key (a0.getD x3.toNat default)), .one (sl 5 cs_Key (a1.getD x3.toNat default))] [.one (.bool v7)] [[.view]]] [0, 1, 5, 26] [] (s' := ⟨[(0, (.v (.one (.c (sl 1 (csL 5 cs_Key) a0))))), (1, (.v (.one (.c (sl 1 (csL 5 cs_Key) a1))))), (5, (.v (.one (.c (.int .i64 x3))))), (26, (.v (.one (.c (.bool (!v7))))))], []⟩) (ob := (True ∧ True ∧ (0 ≤ x3 ∧ x3 < (a0.length : Int)) ∧ True ∧ True ∧ True ∧ (0 ≤ x3 ∧ x3 < (a1.length : Int)) ∧ True ∧ (((((sl 5 cs_Key (a0.getD x3.toNat default)) : C) = (sl 5 cs_Key (a0.getD x3.toNat default))) ∧ (((sl 5 cs_Key (a1.getD x3.toNat default)) : C) = (sl 5 cs_Key (a1.getD x3.toNat default))) ∧ True) ∧ CallOK Try.prog 142 [.one (sl 5 cs_Key (a0.getD x3.toNat default)), .one (sl 5 cs_Key (a1.getD x3.toNat default))] [.one (.bool v7)]) ∧ True ∧ True) ∧ (True)) (by kernel_rfl) ⟨⟨trivial, trivial, c5, trivial, trivial, trivial, c6, trivial, ⟨⟨rfl, rfl, trivial⟩, ok_laws_eqKeyS K (a0.getD x3.toNat default) (a1.getD x3.toNat default) v7 e8⟩, trivial, trivial⟩, trivial⟩ ?_
      refine thenQ_normal ?_
      rcases ite2_cases h with ⟨b9, h⟩ | ⟨b9, h⟩
      · refine AW.cond_t rfl b9 ?_
        refine AW.seq ?_
        refine AW.regionA [] [4] [] (s' := ⟨[(4, (.v (.one (.c (.bool false)))))], []⟩) (ob := True ∧ True) (by kernel_rfl) ⟨trivial, trivial⟩ ?_
        refine thenQ_normal ?_
        refine AW.ret ?_
        refine blockQ_ret ?_
        refine thenQ_ret ?_
        refine loopQ_ret ?_
        refine blockQ_ret ?_
        refine thenQ_ret ?_
        replace h := some_eq h
        subst h
        exact ⟨.inr rfl, retOK_of [(.one (.c (.bool false)))] (by kernel_rfl) ⟨⟨rfl, trivial⟩, trivial⟩ (of_decide_eq_true (by kernel_rfl))⟩
      · refine AW.cond_f rfl b9 ?_
        refine AW.skip ?_
        refine blockQ_normal ?_
        refine thenQ_normal ?_
        refine AW.regionA [] [0, 1, 5] [] (s' := ⟨[(0, (.v (.one (.c (sl 1 (csL 5 cs_Key) a0))))), (1, (.v (.one (.c (sl 1 (csL 5 cs_Key) a1))))), (5, (.v (.one (.c (.int .i64 (IntKind.i64.wrap (x3 + (1 : Int))))))))], []⟩) (ob := True ∧ True ∧ True ∧ True) (by kernel_rfl) ⟨trivial, trivial, trivial, trivial⟩ ?_
        exact loopQ_normal (k, (IntKind.i64.wrap (x3 + (1 : Int)))) h (Nat.lt_succ_self k) (Sub.keep [0, 1, 5] [] (by kernel_rfl) (by kernel_rfl))
    · refine AW.cond_f rfl b4 ?_
      refine AW.exit ?_
      refine thenQ_exit ?_
      refine loopQ_exit ?_
      refine blockQ_exit ?_
      refine thenQ_normal ?_
      refine AW.seq ?_
      refine AW.regionA [] [4] [] (s' := ⟨[(4, (.v (.one (.c (.bool true)))))], []⟩) (ob := True ∧ True) (by kernel_rfl) ⟨trivial, trivial⟩ ?_
      refine thenQ_normal ?_
      refine AW.ret ?_
      replace h := some_eq h
      subst h
      exact ⟨.inr rfl, retOK_of [(.one (.c (.bool true)))] (by kernel_rfl) ⟨⟨rfl, trivial⟩, trivial⟩ (of_decide_eq_true (by kernel_rfl))⟩

/-! laws.eqVector -/
def laws_eqVector (K : Nat) (a0 : Vector) (a1 : Vector) : Option (Bool) :=
  (laws_sameFloat K (Fl.cv .f32 .f64 a0.X) (Fl.cv .f32 .f64 a1.X)).bind fun v1 => ite2 ((!v1)) (some false) ((laws_sameFloat K (Fl.cv .f32 .f64 a0.Y) (Fl.cv .f32 .f64 a1.Y)).bind fun v4 => ite2 ((!v4)) (some false) ((laws_sameFloat K (Fl.cv .f32 .f64 a0.Z) (Fl.cv .f32 .f64 a1.Z)).bind fun v7 => ite2 ((!v7)) (some false) (some true)))

theorem ok_laws_eqVector (K : Nat) (a0 : Vector) (a1 : Vector) (o : (Bool)) (h : laws_eqVector K a0 a1 = some o) : CallOK Try.prog 186 [.agg (cs_Vector a0), .agg (cs_Vector a1)] [.one (.bool o)] := by
  refine callOK_of_AW Try.func186 rfl (by kernel_rfl) (Nat.le_of_ble_eq_true (by kernel_rfl)) ?_
  intro w0
  unfold laws_eqVector at h
  refine AW.seq ?_
  refine AW.regionA [.box 1, .box 2] [2, 3] [1, 2] (s' := ⟨[(2, (.v (.one (.ptr 1 0)))), (3, (.v (.one (.ptr 2 0))))], [(1, (.box [(.c (.flt .f32 a0.X.bits)), (.c (.flt .f32 a0.Y.bits)), (.c (.flt .f32 a0.Z.bits))])), (2, (.box [(.c (.flt .f32 a1.X.bits)), (.c (.flt .f32 a1.Y.bits)), (.c (.flt .f32 a1.Z.bits))]))]⟩) (ob := True ∧ True ∧ True ∧ True) (by kernel_rfl) ⟨trivial, trivial, trivial, trivial⟩ ?_
  refine thenQ_normal ?_
  refine AW.seq ?_
  refine AW.seq ?_
  obtain ⟨v1, e2, h⟩ := bind_some h
  refine AW.regionA [.no, .no, .no, .no, .no, .no, .call [.one (.flt .f64 (Fl.cv .f32 .f64 a0.X).bits), .one (.flt .f64 (Fl.cv .f32 .f64 a1.X).bits)] [.one (.bool v1)] [[.view]]] [2, 3, 12] [1, 2] (s' := ⟨[(2, (.v (.one (.ptr 1 0)))), (3, (.v (.one (.ptr 2 0)))), (12, (.v (.one (.c (.bool (!v1))))))], [(1, (.box [(.c (.flt .f32 a0.X.bits)), (.c (.flt .f32 a0.Y.bits)), (.c (.flt .f32 a0.Z.bits))])), (2, (.box [(.c (.flt .f32 a1.X.bits)), (.c (.flt .f32 a1.Y.bits)), (.c (.flt .f32 a1.Z.bits))]))]⟩) (ob := True ∧ True ∧ ((convBits .f32 a0.X.bits .f64).isSome = true) ∧ True ∧ True ∧ ((convBits .f32 a1.X.bits .f64).isSome = true) ∧ (((((.flt .f64 (Fl.cv .f32 .f64 a0.X).bits) : C) = (.flt .f64 (Fl.cv .f32 .f64 a0.X).bits)) ∧ (((.flt .f64 (Fl.cv .f32 .f64 a1.X).bits) : C) = (.flt .f64 (Fl.cv .f32 .f64 a1.X).bits)) ∧ True) ∧ CallOK Try.prog 211 [.one (.flt .f64 (Fl.cv .f32 .f64 a0.X).bits), .one (.flt .f64 (Fl.cv .f32 .f64 a1.X).bits)] [.one (.bool v1)]) ∧ True ∧ True) (by kernel_rfl) ⟨trivial, trivial, cv_wide a0.X, trivial, trivial, cv_wide a1.X, ⟨⟨rfl, rfl, trivial⟩, ok_laws_sameFloat K (Fl.cv .f32 .f64 a0.X) (Fl.cv .f32 .f64 a1.X) v1 e2⟩, trivial, trivial⟩ ?_
  refine thenQ_normal ?_
  rcases ite2_cases h with ⟨b3, h⟩ | ⟨b3, h⟩
  · refine AW.cond_t rfl b3 ?_
    refine AW.seq ?_
    refine AW.regionA [] [4] [] (s' := ⟨[(4, (.v (.one (.c (.bool false)))))], []⟩) (ob := True ∧ True) (by kernel_rfl) ⟨trivial, trivial⟩ ?_
    refine thenQ_normal ?_
    refine AW.ret ?_
    refine thenQ_ret ?_
    replace h := some_eq h
    subst h
    exact ⟨.inr rfl, retOK_of [(.one (.c (.bool false)))] (by kernel_rfl) ⟨⟨rfl, trivial⟩, trivial⟩ (of_decide_eq_true (by kernel_rfl))⟩
  · refine AW.cond_f rfl b3 ?_
    refine AW.skip ?_
    refine thenQ_normal ?_
    refine AW.seq ?_
    refine AW.seq ?_
    obtain ⟨v4, e5, h⟩ := bind_some h
    refine AW.regionA [.no, .no, .no, .no, .no, .no, .call [.one (.flt .f64 (Fl.cv .f32 .f64 a0.Y).bits), .one (.flt .f64 (Fl.cv .f32 .f64 a1.Y).bits)] [.one (.bool v4)] [[.view]]] [2, 3, 20] [1, 2] (s' := ⟨[(2, (.v (.one (.ptr 1 0)))), (3, (.v (.one (.ptr 2 0)))), (20, (.v (.one (.c (.bool (!v4))))))], [(1, (.box [(.c (.flt .f32 a0.X.bits)), (.c (.flt .f32 a0.Y.bits)), (.c (.flt .f32 a0.Z.bits))])), (2, (.box [(.c (.flt .f32 a1.X.bits)), (.c (.flt .f32 a1.Y.bits)), (.c (.flt .f32 a1.Z.bits))]))]⟩) (ob := True ∧ True ∧ ((convBits .f32 a0.Y.bits .f64).isSome = true) ∧ True ∧ True ∧ ((convBits .f32 a1.Y.bits .f64).isSome = true) ∧ (((((.flt .f64 (Fl.cv .f32 .f64 a0.Y).bits) : C) = (.flt .f64 (Fl.cv .f32 .f64 a0.Y).bits)) ∧ (((.flt .f64 (Fl.cv .f32 .f64 a1.Y).bits) : C) = (.flt .f64 (Fl.cv .f32 .f64 a1.Y).bits)) ∧ True) ∧ CallOK Try.prog 211 [.one (.flt .f64 (Fl.cv .f32 .f64 a0.Y).bits), .one (.flt .f64 (Fl.cv .f32 .f64 a1.Y).bits)] [.one (.bool v4)]) ∧ True ∧ True) (by kernel_rfl) ⟨trivial, trivial, cv_wide a0.Y, trivial, trivial, cv_wide a1.Y, ⟨⟨rfl, rfl, trivial⟩, ok_laws_sameFloat K (Fl.cv .f32 .f64 a0.Y) (Fl.cv .f32 .f64 a1.Y) v4 e5⟩, trivial, trivial⟩ ?_
    refine thenQ_normal ?_
    rcases ite2_cases h with ⟨b6, h⟩ | ⟨b6, h⟩
    · refine AW.cond_t rfl b6 ?_
      refine AW.seq ?_
      refine AW.regionA [] [4] [] (s' := ⟨[(4, (.v (.one (.c (.bool false)))))], []⟩) (ob := True ∧ True) (by kernel_rfl) ⟨trivial, trivial⟩ ?_
      refine thenQ_normal ?_
      refine AW.ret ?_
      refine thenQ_ret ?_
      replace h := some_eq h
      subst h
      exact ⟨.inr rfl, retOK_of [(.one (.c (.bool false)))] (by kernel_rfl) ⟨⟨rfl, trivial⟩, trivial⟩ (of_decide_eq_true (by kernel_rfl))⟩
    · refine AW.cond_f rfl b6 ?_
      refine AW.skip ?_
      refine thenQ_normal ?_
      refine AW.seq ?_
      refine AW.seq ?_
      obtain ⟨v7, e8, h⟩ := bind_some h
      refine AW.regionA [.no, .no, .no, .no, .no, .no, .call [.one (.flt .f64 (Fl.cv .f32 .f64 a0.Z).bits), .one (.flt .f64 (Fl.cv .f32 .f64 a1.Z).bits)] [.one (.bool v7)] [[.view]]] [28] [] (s' := ⟨[(28, (.v (.one (.c (.bool (!v7))))))], []⟩) (ob := True ∧ True ∧ ((convBits .f32 a0.Z.bits .f64).isSome = true) ∧ True ∧ True ∧ ((convBits .f32 a1.Z.bits .f64).isSome = true) ∧ (((((.flt .f64 (Fl.cv .f32 .f64 a0.Z).bits) : C) = (.flt .f64 (Fl.cv .f32 .f64 a0.Z).bits)) ∧ (((.flt .f64 (Fl.cv .f32 .f64 a1.Z).bits) : C) = (.flt .f64 (Fl.cv .f32 .f64 a1.Z).bits)) ∧ True) ∧ CallOK Try.prog 211 [.one (.flt .f64 (Fl.cv .f32 .f64 a0.Z).bits), .one (.flt .f64 (Fl.cv .f32 .f64 a1.Z).bits)] [.one (.bool v7)]) ∧ True ∧ True) (by kernel_rfl) ⟨trivial, trivial, cv_wide a0.Z, trivial, trivial, cv_wide a1.Z, ⟨⟨rfl, rfl, trivial⟩, ok_laws_sameFloat K (Fl.cv .f32 .f64 a0.Z) (Fl.cv .f32 .f64 a1.Z) v7 e8⟩, trivial, trivial⟩ ?_
      refine thenQ_normal ?_
      rcases ite2_cases h with ⟨b9, h⟩ | ⟨b9, h⟩
      · refine AW.cond_t rfl b9 ?_
        refine AW.seq ?_
        refine AW.regionA [] [4] [] (s' := ⟨[(4, (.v (.one (.c (.bool false)))))], []⟩) (ob := True ∧ True) (by kernel_rfl) ⟨trivial, trivial⟩ ?_
        refine thenQ_normal ?_
        refine AW.ret ?_
        refine thenQ_ret ?_
        replace h := some_eq h
        subst h
        exact ⟨.inr rfl, retOK_of [(.one (.c (.bool false)))] (by kernel_rfl) ⟨⟨rfl, trivial⟩, trivial⟩ (of_decide_eq_true (by kernel_rfl))⟩
      · refine AW.cond_f rfl b9 ?_
        refine AW.skip ?_
        refine thenQ_normal ?_
        refine AW.seq ?_
        refine AW.regionA [] [4] [] (s' := ⟨[(4, (.v (.one (.c (.bool true)))))], []⟩) (ob := True ∧ True) (by kernel_rfl) ⟨trivial, trivial⟩ ?_
        refine thenQ_normal ?_
        refine AW.ret ?_
        replace h := some_eq h
        subst h
        exact ⟨.inr rfl, retOK_of [(.one (.c (.bool true)))] (by kernel_rfl) ⟨⟨rfl, trivial⟩, trivial⟩ (of_decide_eq_true (by kernel_rfl))⟩

/-! laws.eqRootKey -/
def laws_eqRootKey (K : Nat) (a0 : RootKey) (a1 : RootKey) : Option (Bool) :=
  ite2 ((a0.At != a1.At)) (some false) ((laws_eqVector K a0.Place a1.Place).bind fun v2 => ite2 ((!v2)) (some false) (some true))

theorem ok_laws_eqRootKey (K : Nat) (a0 : RootKey) (a1 : RootKey) (o : (Bool)) (h : laws_eqRootKey K a0 a1 = some o) : CallOK Try.prog 143 [.agg (cs_RootKey a0), .agg (cs_RootKey a1)] [.one (.bool o)] := by
  refine callOK_of_AW Try.func143 rfl (by kernel_rfl) (Nat.le_of_ble_eq_true (by kernel_rfl)) ?_
  intro w0
  unfold laws_eqRootKey at h
  refine AW.seq ?_
  refine AW.regionA [.box 1, .box 2] [2, 3] [1, 2] (s' := ⟨[(2, (.v (.one (.ptr 1 0)))), (3, (.v (.one (.ptr 2 0))))], [(1, (.box [(.c (.int .i64 a0.At)), (.c (.flt .f32 a0.Place.X.bits)), (.c (.flt .f32 a0.Place.Y.bits)), (.c (.flt .f32 a0.Place.Z.bits))])), (2, (.box [(.c (.int .i64 a1.At)), (.c (.flt .f32 a1.Place.X.bits)), (.c (.flt .f32 a1.Place.Y.bits)), (.c (.flt .f32 a1.Place.Z.bits))]))]⟩) (ob := True ∧ True ∧ True ∧ True) (by kernel_rfl) ⟨trivial, trivial, trivial, trivial⟩ ?_
  refine thenQ_normal ?_
  refine AW.seq ?_
  refine AW.seq ?_
  refine AW.regionA [] [2, 3, 9] [1, 2] (s' := ⟨[(2, (.v (.one (.ptr 1 0)))), (3, (.v (.one (.ptr 2 0)))), (9, (.v (.one (.c (.bool (a0.At != a1.At))))))], [(1, (.box [(.c (.int .i64 a0.At)), (.c (.flt .f32 a0.Place.X.bits)), (.c (.flt .f32 a0.Place.Y.bits)), (.c (.flt .f32 a0.Place.Z.bits))])), (2, (.box [(.c (.int .i64 a1.At)), (.c (.flt .f32 a1.Place.X.bits)), (.c (.flt .f32 a1.Place.Y.bits)), (.c (.flt .f32 a1.Place.Z.bits))]))]⟩) (ob := True ∧ True ∧ True ∧ True ∧ True ∧ True) (by kernel_rfl) ⟨trivial, trivial, trivial, trivial, trivial, trivial⟩ ?_
  refine thenQ_normal ?_
  rcases ite2_cases h with ⟨b1, h⟩ | ⟨b1, h⟩
  · refine AW.cond_t rfl b1 ?_
    refine AW.seq ?_
    refine AW.regionA [] [4] [] (s' := ⟨[(4, (.v (.one (.c (.bool false)))))], []⟩) (ob := True ∧ True) (by kernel_rfl) ⟨trivial, trivial⟩ ?_
    refine thenQ_normal ?_
    refine AW.ret ?_
    refine thenQ_ret ?_
    replace h := some_eq h
    subst h
    exact ⟨.inr rfl, retOK_of [(.one (.c (.bool false)))] (by kernel_rfl) ⟨⟨rfl, trivial⟩, trivial⟩ (of_decide_eq_true (by kernel_rfl))⟩
  · refine AW.cond_f rfl b1 ?_
    refine AW.skip ?_
    refine thenQ_normal ?_
    refine AW.seq ?_
    refine AW.seq ?_
    obtain ⟨v2, e3, h⟩ := bind_some h
    refine AW.regionA [.no, .no, .no, .no, .call [.agg (cs_Vector a0.Place), .agg (cs_Vector a1.Place)] [.one (.bool v2)] [[.view]]] [15] [] (s' := ⟨[(15, (.v (.one (.c (.bool (!v2))))))], []⟩) (ob := True ∧ True ∧ True ∧ True ∧ ((((((.flt .f32 a0.Place.X.bits) : C) = (.flt .f32 a0.Place.X.bits)) ∧ (((.flt .f32 a0.Place.Y.bits) : C) = (.flt .f32 a0.Place.Y.bits)) ∧ (((.flt .f32 a0.Place.Z.bits) : C) = (.flt .f32 a0.Place.Z.bits)) ∧ True) ∧ ((((.flt .f32 a1.Place.X.bits) : C) = (.flt .f32 a1.Place.X.bits)) ∧ (((.flt .f32 a1.Place.Y.bits) : C) = (.flt .f32 a1.Place.Y.bits)) ∧ (((.flt .f32 a1.Place.Z.bits) : C) = (.flt .f32 a1.Place.Z.bits)) ∧ True) ∧ True) ∧ CallOK Try.prog 186 [.agg (cs_Vector a0.Place), .agg (cs_Vector a1.Place)] [.one (.bool v2)]) ∧ True ∧ True) (by kernel_rfl) ⟨trivial, trivial, trivial, trivial, ⟨⟨⟨rfl, rfl, rfl, trivial⟩, ⟨rfl, rfl, rfl, trivial⟩, trivial⟩, ok_laws_eqVector K a0.Place a1.Place v2 e3⟩, trivial, trivial⟩ ?_
    refine thenQ_normal ?_
    rcases ite2_cases h with ⟨b4, h⟩ | ⟨b4, h⟩
    · refine AW.cond_t rfl b4 ?_
      refine AW.seq ?_
      refine AW.regionA [] [4] [] (s' := ⟨[(4, (.v (.one (.c (.bool false)))))], []⟩) (ob := True ∧ True) (by kernel_rfl) ⟨trivial, trivial⟩ ?_
      refine thenQ_normal ?_
      refine AW.ret ?_
      refine thenQ_ret ?_
      replace h := some_eq h
      subst h
      exact ⟨.inr rfl, retOK_of [(.one (.c (.bool false)))] (by kernel_rfl) ⟨⟨rfl, trivial⟩, trivial⟩ (of_decide_eq_true (by kernel_rfl))⟩
    · refine AW.cond_f rfl b4 ?_
      refine AW.skip ?_
      refine thenQ_normal ?_
      refine AW.seq ?_
      refine AW.regionA [] [4] [] (s' := ⟨[(4, (.v (.one (.c (.bool true)))))], []⟩) (ob := True ∧ True) (by kernel_rfl) ⟨trivial, trivial⟩ ?_
      refine thenQ_normal ?_
      refine AW.ret ?_
      replace h := some_eq h
      subst h
      exact ⟨.inr rfl, retOK_of [(.one (.c (.bool true)))] (by kernel_rfl) ⟨⟨rfl, trivial⟩, trivial⟩ (of_decide_eq_true (by kernel_rfl))⟩

/-! laws.eqRootKeyS -/
def laws_eqRootKeyS_l1 (K : Nat) (a0 : (List RootKey)) (a1 : (List RootKey)) : Nat → Int → Option (Bool)
  | 0, _ => none
  | k + 1, x3 => ite2 ((decide (x3 < (a0.length : Int)))) (chk (0 ≤ x3 ∧ x3 < (a0.length : Int)) (chk (0 ≤ x3 ∧ x3 < (a1.length : Int)) ((laws_eqRootKey K (a0.getD x3.toNat default) (a1.getD x3.toNat default)).bind fun v7 => ite2 ((!v7)) (some false) (laws_eqRootKeyS_l1 K a0 a1 k (IntKind.i64.wrap (x3 + (1 : Int))))))) (some true)

def laws_eqRootKeyS (K : Nat) (a0 : (List RootKey)) (a1 : (List RootKey)) : Option (Bool) :=
  ite2 (((a0.length : Int) != (a1.length : Int))) (some false) (laws_eqRootKeyS_l1 K a0 a1 K (0 : Int))

theorem ok_laws_eqRootKeyS (K : Nat) (a0 : (List RootKey)) (a1 : (List RootKey)) (o : (Bool)) (h : laws_eqRootKeyS K a0 a1 = some o) : CallOK Try.prog 69 [.one (sl 4 cs_RootKey a0), .one (sl 4 cs_RootKey a1)] [.one (.bool o)] := by
  refine callOK_of_AW Try.func69 rfl (by kernel_rfl) (Nat.le_of_ble_eq_true (by kernel_rfl)) ?_
  intro w0
  unfold laws_eqRootKeyS at h
  refine AW.seq ?_
  refine AW.regionA [] [0, 1] [] (s' := ⟨[(0, (.v (.one (.c (sl 4 cs_RootKey a0))))), (1, (.v (.one (.c (sl 4 cs_RootKey a1)))))], []⟩) (ob := True ∧ True) (by kernel_rfl) ⟨trivial, trivial⟩ ?_
  refine thenQ_normal ?_
  refine AW.seq ?_
  refine AW.seq ?_
  refine AW.regionA [] [0, 1, 10] [] (s' := ⟨[(0, (.v (.one (.c (sl 4 cs_RootKey a0))))), (1, (.v (.one (.c (sl 4 cs_RootKey a1))))), (10, (.v (.one (.c (.bool ((a0.length : Int) != (a1.length : Int)))))))], []⟩) (ob := True ∧ True ∧ True ∧ True ∧ True ∧ True) (by kernel_rfl) ⟨trivial, trivial, trivial, trivial, trivial, trivial⟩ ?_
  refine thenQ_normal ?_
  rcases ite2_cases h with ⟨b1, h⟩ | ⟨b1, h⟩
  · refine AW.cond_t rfl b1 ?_
    refine AW.seq ?_
    refine AW.regionA [] [4] [] (s' := ⟨[(4, (.v (.one (.c (.bool false)))))], []⟩) (ob := True ∧ True) (by kernel_rfl) ⟨trivial, trivial⟩ ?_
    refine thenQ_normal ?_
    refine AW.ret ?_
    refine thenQ_ret ?_
    replace h := some_eq h
    subst h
    exact ⟨.inr rfl, retOK_of [(.one (.c (.bool false)))] (by kernel_rfl) ⟨⟨rfl, trivial⟩, trivial⟩ (of_decide_eq_true (by kernel_rfl))⟩
  · refine AW.cond_f rfl b1 ?_
    refine AW.skip ?_
    refine thenQ_normal ?_
    refine AW.seq ?_
    refine AW.seq ?_
    refine AW.regionA [] [0, 1, 5] [] (s' := ⟨[(0, (.v (.one (.c (sl 4 cs_RootKey a0))))), (1, (.v (.one (.c (sl 4 cs_RootKey a1))))), (5, (.v (.one (.c (.int .i64 (0 : Int))))))], []⟩) (ob := True ∧ True) (by kernel_rfl) ⟨trivial, trivial⟩ ?_
    refine thenQ_normal ?_
    refine AW.block ?_
    refine AW.loopQ (σ := Nat × Int) (fun p => ⟨[(0, (.v (.one (.c (sl 4 cs_RootKey a0))))), (1, (.v (.one (.c (sl 4 cs_RootKey a1))))), (5, (.v (.one (.c (.int .i64 p.2)))))], []⟩) (fun p => laws_eqRootKeyS_l1 K a0 a1 p.1 p.2 = some o) (fun p => p.1) (K, (0 : Int)) h ?_
    clear h
    rintro ⟨k, x3⟩ h
    replace h : laws_eqRootKeyS_l1 K a0 a1 k x3 = some o := h
    show AW _ _ (⟨[(0, (.v (.one (.c (sl 4 cs_RootKey a0))))), (1, (.v (.one (.c (sl 4 cs_RootKey a1))))), (5, (.v (.one (.c (.int .i64 x3)))))], []⟩ : St) _
    obtain _ | k := k
    · rw [laws_eqRootKeyS_l1] at h; cases h
    rw [laws_eqRootKeyS_l1] at h
    refine AW.seq ?_
    refine AW.seq ?_
    refine AW.regionA [] [0, 1, 5, 14] [] (s' := ⟨[(0, (.v (.one (.c (sl 4 cs_RootKey a0))))), (1, (.v (.one (.c (sl 4 cs_RootKey a1))))), (5, (.v (.one (.c (.int .i64 x3))))), (14, (.v (.one (.c (.bool (decide (x3 < (a0.length : Int))))))))], []⟩) (ob := True ∧ True ∧ True ∧ True ∧ True) (by kernel_rfl) ⟨trivial, trivial, trivial, trivial, trivial⟩ ?_
    refine thenQ_normal ?_
    rcases ite2_cases h with ⟨b4, h⟩ | ⟨b4, h⟩
    · refine AW.cond_t rfl b4 ?_
      refine AW.skip ?_
      refine thenQ_normal ?_
      refine AW.seq ?_
      refine AW.block ?_
      refine AW.seq ?_
      obtain ⟨c5, h⟩ := chk_some h
      obtain ⟨c6, h⟩ := chk_some h
      obtain ⟨v7, e8, h⟩ := bind_some h
      refine AW.drawnA (by kernel_rfl) 10 [.no, .no, .no, .no, .no, .no, .no, .no, .call [.agg (cs_RootKey (a0.getD x3.toNat default)), .agg (cs_RootKey (a1.getD x3.toNat default))] [.one (.bool v7)] [[.view]]] [0, 1, 5, 26] [] (s' := ⟨[(0, (.v (.one (.c (sl 4 cs_RootKey a0))))), (1, (.v (.one (.c (sl 4 cs_RootKey a1))))), (5, (.v (.one (.c (.int .i64 x3))))), (26, (.v (.one (.c (.bool (!v7))))))], []⟩) (ob := (True ∧ True ∧ (0 ≤ x3 ∧ x3 < (a0.length : Int)) ∧ True ∧ True ∧ True ∧ (0 ≤ x3 ∧ x3 < (a1.length : Int)) ∧ True ∧ ((((((.int .i64 ((a0.getD x3.toNat default).At)) : C) = (.int .i64 ((a0.getD x3.toNat default).At))) ∧ (((.flt .f32 (((a0.getD x3.toNat default).Place).X).bits) : C) = (.flt .f32 (((a0.getD x3.toNat default).Place).X).bits)) ∧ (((.flt .f32 (((a0.getD x3.toNat default).Place).Y).bits) : C) = (.flt .f32 (((a0.getD x3.toNat default).Place).Y).bits)) ∧ (((.flt .f32 (((a0.getD x3.toNat default).Place).Z).bits) : C) = (.flt .f32 (((a0.getD x3.toNat default).Place).Z).bits)) ∧ True) ∧ ((((.int .i64 ((a1.getD x3.toNat default).At)) : C) = (.int .i64 ((a1.getD x3.toNat default).At))) ∧ (((.flt .f32 (((a1.getD x3.toNat default).Place).X).bits) : C) = (.flt .f32 (((a1.getD x3.toNat default).Place).X).bits)) ∧ (((.flt .f32 (((a1.getD x3.toNat default).Place).Y).bits) : C) = (.flt .f32 (((a1.getD x3.toNat default).Place).Y).bits)) ∧ (((.flt .f32 (((a1.getD x3.toNat default).Place).Z).bits) : C) = (.flt .f32 (((a1.getD x3.toNat default).Place).Z).bits)) ∧ True) ∧ True) ∧ CallOK Try.prog 143 [.agg (cs_RootKey (a0.getD x3.toNat default)), .agg (cs_RootKey (a1.getD x3.toNat default))] [.one (.bool v7)]) ∧ True ∧ True) ∧ (True)) (by kernel_rfl) ⟨⟨trivial, trivial, c5, trivial, trivial, trivial, c6, trivial, ⟨⟨⟨rfl, rfl, rfl, rfl, trivial⟩, ⟨rfl, rfl, rfl, rfl, trivial⟩, trivial⟩, ok_laws_eqRootKey K (a0.getD x3.toNat default) (a1.getD x3.toNat default) v7 e8⟩, trivial, trivial⟩, trivial⟩ ?_
      refine thenQ_normal ?_
      rcases ite2_cases h with ⟨b9, h⟩ | ⟨b9, h⟩
      · refine AW.cond_t rfl b9 ?_
        refine AW.seq ?_
        refine AW.regionA [] [4] [] (s' := ⟨[(4, (.v (.one (.c (.bool false)))))], []⟩) (ob := True ∧ True) (by kernel_rfl) ⟨trivial, trivial⟩ ?_
        refine thenQ_normal ?_
        refine AW.ret ?_
        refine blockQ_ret ?_
        refine thenQ_ret ?_
        refine loopQ_ret ?_
        refine blockQ_ret ?_
        refine thenQ_ret ?_
        replace h := some_eq h
        subst h
        exact ⟨.inr rfl, retOK_of [(.one (.c (.bool false)))] (by kernel_rfl) ⟨⟨rfl, trivial⟩, trivial⟩ (of_decide_eq_true (by kernel_rfl))⟩
      · refine AW.cond_f rfl b9 ?_
        refine AW.skip ?_
        refine blockQ_normal ?_
        refine thenQ_normal ?_
        refine AW.regionA [] [0, 1, 5] [] (s' := ⟨[(0, (.v (.one (.c (sl 4 cs_RootKey a0))))), (1, (.v (.one (.c (sl 4 cs_RootKey a1))))), (5, (.v (.one (.c (.int .i64 (IntKind.i64.wrap (x3 + (1 : Int))))))))], []⟩) (ob := True ∧ True ∧ True ∧ True) (by kernel_rfl) ⟨trivial, trivial, trivial, trivial⟩ ?_
        exact loopQ_normal (k, (IntKind.i64.wrap (x3 + (1 : Int)))) h (Nat.lt_succ_self k) (Sub.keep [0, 1, 5] [] (by kernel_rfl) (by kernel_rfl))
    · refine AW.cond_f rfl b4 ?_
      refine AW.exit ?_
      refine thenQ_exit ?_
      refine loopQ_exit ?_
      refine blockQ_exit ?_
      refine thenQ_normal ?_
      refine AW.seq ?_
      refine AW.regionA [] [4] [] (s' := ⟨[(4, (.v (.one (.c (.bool true)))))], []⟩) (ob := True ∧ True) (by kernel_rfl) ⟨trivial, trivial⟩ ?_
      refine thenQ_normal ?_
      refine AW.ret ?_
      replace h := some_eq h
      subst h
      exact ⟨.inr rfl, retOK_of [(.one (.c (.bool true)))] (by kernel_rfl) ⟨⟨rfl, trivial⟩, trivial⟩ (of_decide_eq_true (by kernel_rfl))⟩

/-! laws.eqClip -/
def laws_eqClip (K : Nat) (a0 : Clip) (a1 : Clip) : Option (Bool) :=
  ite2 ((a0.Length != a1.Length)) (some false) (ite2 ((a0.Kind != a1.Kind)) (some false) ((laws_eqKeySS K a0.Tracks a1.Tracks).bind fun v3 => ite2 ((!v3)) (some false) ((laws_eqRootKeyS K a0.Roots a1.Roots).bind fun v6 => ite2 ((!v6)) (some false) (some true))))

theorem ok_laws_eqClip (K : Nat) (a0 : Clip) (a1 : Clip) (o : (Bool)) (h : laws_eqClip K a0 a1 = some o) : CallOK Try.prog 15 [.agg (cs_Clip a0), .agg (cs_Clip a1)] [.one (.bool o)] := by
  refine callOK_of_AW Try.func15 rfl (by kernel_rfl) (Nat.le_of_ble_eq_true (by kernel_rfl)) ?_
  intro w0
  unfold laws_eqClip at h
  refine AW.seq ?_
  refine AW.regionA [.box 1, .box 2] [2, 3] [1, 2] (s' := ⟨[(2, (.v (.one (.ptr 1 0)))), (3, (.v (.one (.ptr 2 0))))], [(1, (.box [(.c (.int .i64 a0.Length)), (.c (.int .i64 a0.Kind)), (.c (sl 1 (csL 5 cs_Key) a0.Tracks)), (.c (sl 4 cs_RootKey a0.Roots))])), (2, (.box [(.c (.int .i64 a1.Length)), (.c (.int .i64 a1.Kind)), (.c (sl 1 (csL 5 cs_Key) a1.Tracks)), (.c (sl 4 cs_RootKey a1.Roots))]))]⟩) (ob := True ∧ True ∧ True ∧ True) (by kernel_rfl) ⟨trivial, trivial, trivial, trivial⟩ ?_
  refine thenQ_normal ?_
  refine AW.seq ?_
  refine AW.seq ?_
  refine AW.regionA [] [2, 3, 9] [1, 2] (s' := ⟨[(2, (.v (.one (.ptr 1 0)))), (3, (.v (.one (.ptr 2 0)))), (9, (.v (.one (.c (.bool (a0.Length != a1.Length))))))], [(1, (.box [(.c (.int .i64 a0.Length)), (.c (.int .i64 a0.Kind)), (.c (sl 1 (csL 5 cs_Key) a0.Tracks)), (.c (sl 4 cs_RootKey a0.Roots))])), (2, (.box [(.c (.int .i64 a1.Length)), (.c (.int .i64 a1.Kind)), (.c (sl 1 (csL 5 cs_Key) a1.Tracks)), (.c (sl 4 cs_RootKey a1.Roots))]))]⟩) (ob := True ∧ True ∧ True ∧ True ∧ True ∧ True) (by kernel_rfl) ⟨trivial, trivial, trivial, trivial, trivial, trivial⟩ ?_
  refine thenQ_normal ?_
  rcases ite2_cases h with ⟨b1, h⟩ | ⟨b1, h⟩
  · refine AW.cond_t rfl b1 ?_
    refine AW.seq ?_
    refine AW.regionA [] [4] [] (s' := ⟨[(4, (.v (.one (.c (.bool false)))))], []⟩) (ob := True ∧ True) (by kernel_rfl) ⟨trivial, trivial⟩ ?_
    refine thenQ_normal ?_
    refine AW.ret ?_
    refine thenQ_ret ?_
    replace h := some_eq h
    subst h
    exact ⟨.inr rfl, retOK_of [(.one (.c (.bool false)))] (by kernel_rfl) ⟨⟨rfl, trivial⟩, trivial⟩ (of_decide_eq_true (by kernel_rfl))⟩
  · refine AW.cond_f rfl b1 ?_
    refine AW.skip ?_
    refine thenQ_normal ?_
    refine AW.seq ?_
    refine AW.seq ?_
    refine AW.regionA [] [2, 3, 14] [1, 2] (s' := ⟨[(2, (.v (.one (.ptr 1 0)))), (3, (.v (.one (.ptr 2 0)))), (14, (.v (.one (.c (.bool (a0.Kind != a1.Kind))))))], [(1, (.box [(.c (.int .i64 a0.Length)), (.c (.int .i64 a0.Kind)), (.c (sl 1 (csL 5 cs_Key) a0.Tracks)), (.c (sl 4 cs_RootKey a0.Roots))])), (2, (.box [(.c (.int .i64 a1.Length)), (.c (.int .i64 a1.Kind)), (.c (sl 1 (csL 5 cs_Key) a1.Tracks)), (.c (sl 4 cs_RootKey a1.Roots))]))]⟩) (ob := True ∧ True ∧ True ∧ True ∧ True ∧ True) (by kernel_rfl) ⟨trivial, trivial, trivial, trivial, trivial, trivial⟩ ?_
    refine thenQ_normal ?_
    rcases ite2_cases h with ⟨b2, h⟩ | ⟨b2, h⟩
    · refine AW.cond_t rfl b2 ?_
      refine AW.seq ?_
      refine AW.regionA [] [4] [] (s' := ⟨[(4, (.v (.one (.c (.bool false)))))], []⟩) (ob := True ∧ True) (by kernel_rfl) ⟨trivial, trivial⟩ ?_
      refine thenQ_normal ?_
      refine AW.ret ?_
      refine thenQ_ret ?_
      replace h := some_eq h
      subst h
      exact ⟨.inr rfl, retOK_of [(.one (.c (.bool false)))] (by kernel_rfl) ⟨⟨rfl, trivial⟩, trivial⟩ (of_decide_eq_true (by kernel_rfl))⟩
    · refine AW.cond_f rfl b2 ?_
      refine AW.skip ?_
      refine thenQ_normal ?_
      refine AW.seq ?_
      refine AW.seq ?_
      obtain ⟨v3, e4, h⟩ := bind_some h
      refine AW.regionA [.no, .no, .no, .no, .call [.one (sl 1 (csL 5 cs_Key) a0.Tracks), .one (sl 1 (csL 5 cs_Key) a1.Tracks)] [.one (.bool v3)] [[.view]]] [2, 3, 20] [1, 2] (s' := ⟨[(2, (.v (.one (.ptr 1 0)))), (3, (.v (.one (.ptr 2 0)))), (20, (.v (.one (.c (.bool (!v3))))))], [(1, (.box [(.c (.int .i64 a0.Length)), (.c (.int .i64 a0.Kind)), (.c (sl 1 (csL 5 cs_Key) a0.Tracks)), (.c (sl 4 cs_RootKey a0.Roots))])), (2, (.box [(.c (.int .i64 a1.Length)), (.c (.int .i64 a1.Kind)), (.c (sl 1 (csL 5 cs_Key) a1.Tracks)), (.c (sl 4 cs_RootKey a1.Roots))]))]⟩) (ob := True ∧ True ∧ True ∧ True ∧ (((((sl 1 (csL 5 cs_Key) a0.Tracks) : C) = (sl 1 (csL 5 cs_Key) a0.Tracks)) ∧ (((sl 1 (csL 5 cs_Key) a1.Tracks) : C) = (sl 1 (csL 5 cs_Key) a1.Tracks)) ∧ True) ∧ CallOK Try.prog 68 [.one (sl 1 (csL 5 cs_Key) a0.Tracks), .one (sl 1 (csL 5 cs_Key) a1.Tracks)] [.one (.bool v3)]) ∧ True ∧ True) (by kernel_rfl) ⟨trivial, trivial, trivial, trivial, ⟨⟨rfl, rfl, trivial⟩, ok_laws_eqKeySS K a0.Tracks a1.Tracks v3 e4⟩, trivial, trivial⟩ ?_
      refine thenQ_normal ?_
      rcases ite2_cases h with ⟨b5, h⟩ | ⟨b5, h⟩
      · refine AW.cond_t rfl b5 ?_
        refine AW.seq ?_
        refine AW.regionA [] [4] [] (s' := ⟨[(4, (.v (.one (.c (.bool false)))))], []⟩) (ob := True ∧ True) (by kernel_rfl) ⟨trivial, trivial⟩ ?_
        refine thenQ_normal ?_
        refine AW.ret ?_
        refine thenQ_ret ?_
        replace h := some_eq h
        subst h
        exact ⟨.inr rfl, retOK_of [(.one (.c (.bool false)))] (by kernel_rfl) ⟨⟨rfl, trivial⟩, trivial⟩ (of_decide_eq_true (by kernel_rfl))⟩
      · refine AW.cond_f rfl b5 ?_
        refine AW.skip ?_
        refine thenQ_normal ?_
        refine AW.seq ?_
        refine AW.seq ?_
        obtain ⟨v6, e7, h⟩ := bind_some h
        refine AW.regionA [.no, .no, .no, .no, .call [.one (sl 4 cs_RootKey a0.Roots), .one (sl 4 cs_RootKey a1.Roots)] [.one (.bool v6)] [[.view]]] [26] [] (s' := ⟨[(26, (.v (.one (.c (.bool (!v6))))))], []⟩) (ob := True ∧ True ∧ True ∧ True ∧ (((((sl 4 cs_RootKey a0.Roots) : C) = (sl 4 cs_RootKey a0.Roots)) ∧ (((sl 4 cs_RootKey a1.Roots) : C) = (sl 4 cs_RootKey a1.Roots)) ∧ True) ∧ CallOK Try.prog 69 [.one (sl 4 cs_RootKey a0.Roots), .one (sl 4 cs_RootKey a1.Roots)] [.one (.bool v6)]) ∧ True ∧ True) (by kernel_rfl) ⟨trivial, trivial, trivial, trivial, ⟨⟨rfl, rfl, trivial⟩, ok_laws_eqRootKeyS K a0.Roots a1.Roots v6 e7⟩, trivial, trivial⟩ ?_
        refine thenQ_normal ?_
        rcases ite2_cases h with ⟨b8, h⟩ | ⟨b8, h⟩
        · refine AW.cond_t rfl b8 ?_
          refine AW.seq ?_
          refine AW.regionA [] [4] [] (s' := ⟨[(4, (.v (.one (.c (.bool false)))))], []⟩) (ob := True ∧ True) (by kernel_rfl) ⟨trivial, trivial⟩ ?_
          refine thenQ_normal ?_
          refine AW.ret ?_
          refine thenQ_ret ?_
          replace h := some_eq h
          subst h
          exact ⟨.inr rfl, retOK_of [(.one (.c (.bool false)))] (by kernel_rfl) ⟨⟨rfl, trivial⟩, trivial⟩ (of_decide_eq_true (by kernel_rfl))⟩
        · refine AW.cond_f rfl b8 ?_
          refine AW.skip ?_
          refine thenQ_normal ?_
          refine AW.seq ?_
          refine AW.regionA [] [4] [] (s' := ⟨[(4, (.v (.one (.c (.bool true)))))], []⟩) (ob := True ∧ True) (by kernel_rfl) ⟨trivial, trivial⟩ ?_
          refine thenQ_normal ?_
          refine AW.ret ?_
          replace h := some_eq h
          subst h
          exact ⟨.inr rfl, retOK_of [(.one (.c (.bool true)))] (by kernel_rfl) ⟨⟨rfl, trivial⟩, trivial⟩ (of_decide_eq_true (by kernel_rfl))⟩

/-! laws.markKeyS -/
def laws_markKeyS_l1 (K : Nat) (a0 : (List Key)) : Nat → Int → Int → (List Key) → Option (Int × (List Key))
  | 0, _, _, _ => none
  | k + 1, x4, x5, x6 => ite2 ((decide (x5 < (x6.length : Int)))) (chk (0 ≤ x5 ∧ x5 < (x6.length : Int)) ((some (x6.set x5.toNat (Key.mk x4 ((x6.getD x5.toNat default).Turn)))).bind fun y9 => chk (0 ≤ x5 ∧ x5 < (y9.length : Int)) ((some (y9.set x5.toNat (Key.mk ((y9.getD x5.toNat default).At) (Turn.mk (Fl.ofInt .f32 (IntKind.i64.wrap (x4 + (1 : Int)))) (((y9.getD x5.toNat default).Turn).X) (((y9.getD x5.toNat default).Turn).Y) (((y9.getD x5.toNat default).Turn).Z))))).bind fun y12 => chk (0 ≤ x5 ∧ x5 < (y12.length : Int)) ((some (y12.set x5.toNat (Key.mk ((y12.getD x5.toNat default).At) (Turn.mk (((y12.getD x5.toNat default).Turn).W) (Fl.ofInt .f32 (IntKind.i64.wrap ((IntKind.i64.wrap (x4 + (1 : Int))) + (1 : Int)))) (((y12.getD x5.toNat default).Turn).Y) (((y12.getD x5.toNat default).Turn).Z))))).bind fun y15 => chk (0 ≤ x5 ∧ x5 < (y15.length : Int)) ((some (y15.set x5.toNat (Key.mk ((y15.getD x5.toNat default).At) (Turn.mk (((y15.getD x5.toNat default).Turn).W) (((y15.getD x5.toNat default).Turn).X) (Fl.ofInt .f32 (IntKind.i64.wrap ((IntKind.i64.wrap ((IntKind.i64.wrap (x4 + (1 : Int))) + (1 : Int))) + (1 : Int)))) (((y15.getD x5.toNat default).Turn).Z))))).bind fun y18 => chk (0 ≤ x5 ∧ x5 < (y18.length : Int)) ((some (y18.set x5.toNat (Key.mk ((y18.getD x5.toNat default).At) (Turn.mk (((y18.getD x5.toNat default).Turn).W) (((y18.getD x5.toNat default).Turn).X) (((y18.getD x5.toNat default).Turn).Y) (Fl.ofInt .f32 (IntKind.i64.wrap ((IntKind.i64.wrap ((IntKind.i64.wrap ((IntKind.i64.wrap (x4 + (1 : Int))) + (1 : Int))) + (1 : Int))) + (1 : Int)))))))).bind fun y21 => laws_markKeyS_l1 K a0 k (IntKind.i64.wrap ((IntKind.i64.wrap ((IntKind.i64.wrap ((IntKind.i64.wrap ((IntKind.i64.wrap (x4 + (1 : Int))) + (1 : Int))) + (1 : Int))) + (1 : Int))) + (1 : Int))) (IntKind.i64.wrap (x5 + (1 : Int))) y21)))))) (chk (x6.length = a0.length) (some (x4, x6)))

def laws_markKeyS (K : Nat) (a0 : (List Key)) (a1 : Int) : Option (Int × (List Key)) :=
  laws_markKeyS_l1 K a0 K a1 (0 : Int) a0

theorem ok_laws_markKeyS (K : Nat) (a0 : (List Key)) (a1 : Int) (o : (Int × (List Key))) (h : laws_markKeyS K a0 a1 = some o) : MutOK Try.prog 144 [(.one (.mu (sl 5 cs_Key a0) (sl 5 cs_Key o.2))), (.one (.ro (.int .i64 a1)))] [.one (.int .i64 o.1)] := by
  refine mutOK_of_AW 1 Try.func144 rfl (by kernel_rfl) (Nat.le_of_ble_eq_true (by kernel_rfl)) (by kernel_rfl) (by kernel_rfl) ?_
  intro w0 K0 v0 s0
  unfold laws_markKeyS at h
  refine AW.seq ?_
  refine AW.regionA [] [0, 1] [0] (s' := ⟨[(0, (.v (.one (.arr 0)))), (1, (.v (.one (.c (.int .i64 a1)))))], [(0, (.arr true a0.length 5 (gl cs_Key a0)))]⟩) (ob := True ∧ True) (by kernel_rfl) ⟨trivial, trivial⟩ ?_
  refine thenQ_normal ?_
  refine AW.seq ?_
  refine AW.seq ?_
  refine AW.regionA [] [0, 1, 5] [0] (s' := ⟨[(0, (.v (.one (.arr 0)))), (1, (.v (.one (.c (.int .i64 a1))))), (5, (.v (.one (.c (.int .i64 (0 : Int))))))], [(0, (.arr true a0.length 5 (gl cs_Key a0)))]⟩) (ob := True ∧ True) (by kernel_rfl) ⟨trivial, trivial⟩ ?_
  refine thenQ_normal ?_
  refine AW.block ?_
  refine AW.loopQ (σ := Nat × Int × Int × (List Key)) (fun p => ⟨[(0, (.v (.one (.arr 0)))), (1, (.v (.one (.c (.int .i64 p.2.1))))), (5, (.v (.one (.c (.int .i64 p.2.2.1)))))], [(0, (.arr true p.2.2.2.length 5 (gl cs_Key p.2.2.2)))]⟩) (fun p => laws_markKeyS_l1 K a0 p.1 p.2.1 p.2.2.1 p.2.2.2 = some o) (fun p => p.1) (K, a1, (0 : Int), a0) h ?_
  clear h
  rintro ⟨k, x4, x5, x6⟩ h
  replace h : laws_markKeyS_l1 K a0 k x4 x5 x6 = some o := h
  show AW _ _ (⟨[(0, (.v (.one (.arr 0)))), (1, (.v (.one (.c (.int .i64 x4))))), (5, (.v (.one (.c (.int .i64 x5)))))], [(0, (.arr true x6.length 5 (gl cs_Key x6)))]⟩ : St) _
  obtain _ | k := k
  · rw [laws_markKeyS_l1] at h; cases h
  rw [laws_markKeyS_l1] at h
  refine AW.seq ?_
  refine AW.seq ?_
  refine AW.regionA [] [0, 1, 5, 9] [0] (s' := ⟨[(0, (.v (.one (.arr 0)))), (1, (.v (.one (.c (.int .i64 x4))))), (5, (.v (.one (.c (.int .i64 x5))))), (9, (.v (.one (.c (.bool (decide (x5 < (x6.length : Int))))))))], [(0, (.arr true x6.length 5 (gl cs_Key x6)))]⟩) (ob := True ∧ True ∧ True ∧ True ∧ True) (by kernel_rfl) ⟨trivial, trivial, trivial, trivial, trivial⟩ ?_
  refine thenQ_normal ?_
  rcases ite2_cases h with ⟨b7, h⟩ | ⟨b7, h⟩
  · refine AW.cond_t rfl b7 ?_
    refine AW.skip ?_
    refine thenQ_normal ?_
    refine AW.seq ?_
    refine AW.block ?_
    refine AW.seq ?_
    obtain ⟨c8, h⟩ := chk_some h
    obtain ⟨y9, e10, h⟩ := bind_some h
    refine AW.regionA [.no, .no, .no, .no, .no, .set y9.length (gl cs_Key y9) ((List.range 1).map fun j => (cs_Key (Key.mk x4 ((x6.getD x5.toNat default).Turn))).getD (0 + j) .nilptr)] [0, 1, 5] [0] (s' := ⟨[(0, (.v (.one (.arr 0)))), (1, (.v (.one (.c (.int .i64 x4))))), (5, (.v (.one (.c (.int .i64 x5)))))], [(0, (.arr true y9.length 5 (gl cs_Key y9)))]⟩) (ob := True ∧ True ∧ True ∧ (0 ≤ x5 ∧ x5 < (x6.length : Int)) ∧ True ∧ (y9.length = x6.length ∧ SetOb x6.length 5 x5.toNat 0 1 (gl cs_Key x6) (gl cs_Key y9) ∧ ((List.range 1).map fun j => (cs_Key (Key.mk x4 ((x6.getD x5.toNat default).Turn))).getD (0 + j) .nilptr) = ((List.range 1).map fun j => gl cs_Key y9 x5.toNat (0 + j)) ∧ ((((.int .i64 x4) : C) = (.int .i64 x4) ∧ True) ∧ True) ∧ (true = true → ∀ j, j < 1 → isSeq (gl cs_Key x6 x5.toNat (0 + j)) = false ∧ isSeq (gl cs_Key y9 x5.toNat (0 + j)) = false)) ∧ True) (by kernel_rfl) ⟨trivial, trivial, trivial, c8, trivial, (letP (some_eq e10) (fun z => (z.length = x6.length ∧ SetOb x6.length 5 x5.toNat 0 1 (gl cs_Key x6) (gl cs_Key z) ∧ ((List.range 1).map fun j => (cs_Key (Key.mk x4 ((x6.getD x5.toNat default).Turn))).getD (0 + j) .nilptr) = ((List.range 1).map fun j => gl cs_Key z x5.toNat (0 + j)) ∧ ((((.int .i64 x4) : C) = (.int .i64 x4) ∧ True) ∧ True) ∧ (true = true → ∀ j, j < 1 → isSeq (gl cs_Key x6 x5.toNat (0 + j)) = false ∧ isSeq (gl cs_Key z x5.toNat (0 + j)) = false))) ⟨List.length_set, gl_setp (fun j hj hn => match j, hj, hn with | 0, _, hn => absurd ⟨by decide, by decide⟩ hn | 1, _, _ => rfl | 2, _, _ => rfl | 3, _, _ => rfl | 4, _, _ => rfl) (lt_of_bound c8), (gl_atp (lt_of_bound c8)).symm, ⟨⟨rfl, trivial⟩, trivial⟩, (fun _ j hj => match j, hj with | 0, _ => ⟨rfl, rfl⟩)⟩), trivial⟩ ?_
    refine thenQ_normal ?_
    refine AW.seq ?_
    refine AW.regionA [] [0, 1, 5] [0] (s' := ⟨[(0, (.v (.one (.arr 0)))), (1, (.v (.one (.c (.int .i64 (IntKind.i64.wrap (x4 + (1 : Int)))))))), (5, (.v (.one (.c (.int .i64 x5)))))], [(0, (.arr true y9.length 5 (gl cs_Key y9)))]⟩) (ob := True ∧ True ∧ True ∧ True) (by kernel_rfl) ⟨trivial, trivial, trivial, trivial⟩ ?_
    refine thenQ_normal ?_
    refine AW.seq ?_
    obtain ⟨c11, h⟩ := chk_some h
    obtain ⟨y12, e13, h⟩ := bind_some h
    refine AW.regionA [.no, .no, .no, .no, .no, .no, .no, .set y12.length (gl cs_Key y12) ((List.range 1).map fun j => (cs_Key (Key.mk ((y9.getD x5.toNat default).At) (Turn.mk (Fl.ofInt .f32 (IntKind.i64.wrap (x4 + (1 : Int)))) (((y9.getD x5.toNat default).Turn).X) (((y9.getD x5.toNat default).Turn).Y) (((y9.getD x5.toNat default).Turn).Z)))).getD (1 + j) .nilptr)] [0, 1, 5] [0] (s' := ⟨[(0, (.v (.one (.arr 0)))), (1, (.v (.one (.c (.int .i64 (IntKind.i64.wrap (x4 + (1 : Int)))))))), (5, (.v (.one (.c (.int .i64 x5)))))], [(0, (.arr true y12.length 5 (gl cs_Key y12)))]⟩) (ob := True ∧ True ∧ True ∧ True ∧ (0 ≤ x5 ∧ x5 < (y9.length : Int)) ∧ True ∧ True ∧ (y12.length = y9.length ∧ SetOb y9.length 5 x5.toNat 1 1 (gl cs_Key y9) (gl cs_Key y12) ∧ ((List.range 1).map fun j => (cs_Key (Key.mk ((y9.getD x5.toNat default).At) (Turn.mk (Fl.ofInt .f32 (IntKind.i64.wrap (x4 + (1 : Int)))) (((y9.getD x5.toNat default).Turn).X) (((y9.getD x5.toNat default).Turn).Y) (((y9.getD x5.toNat default).Turn).Z)))).getD (1 + j) .nilptr) = ((List.range 1).map fun j => gl cs_Key y12 x5.toNat (1 + j)) ∧ ((((.flt .f32 (Fl.ofInt .f32 (IntKind.i64.wrap (x4 + (1 : Int)))).bits) : C) = (.flt .f32 (Fl.ofInt .f32 (IntKind.i64.wrap (x4 + (1 : Int)))).bits) ∧ True) ∧ True) ∧ (true = true → ∀ j, j < 1 → isSeq (gl cs_Key y9 x5.toNat (1 + j)) = false ∧ isSeq (gl cs_Key y12 x5.toNat (1 + j)) = false)) ∧ True) (by kernel_rfl) ⟨trivial, trivial, trivial, trivial, c11, trivial, trivial, (letP (some_eq e13) (fun z => (z.length = y9.length ∧ SetOb y9.length 5 x5.toNat 1 1 (gl cs_Key y9) (gl cs_Key z) ∧ ((List.range 1).map fun j => (cs_Key (Key.mk ((y9.getD x5.toNat default).At) (Turn.mk (Fl.ofInt .f32 (IntKind.i64.wrap (x4 + (1 : Int)))) (((y9.getD x5.toNat default).Turn).X) (((y9.getD x5.toNat default).Turn).Y) (((y9.getD x5.toNat default).Turn).Z)))).getD (1 + j) .nilptr) = ((List.range 1).map fun j => gl cs_Key z x5.toNat (1 + j)) ∧ ((((.flt .f32 (Fl.ofInt .f32 (IntKind.i64.wrap (x4 + (1 : Int)))).bits) : C) = (.flt .f32 (Fl.ofInt .f32 (IntKind.i64.wrap (x4 + (1 : Int)))).bits) ∧ True) ∧ True) ∧ (true = true → ∀ j, j < 1 → isSeq (gl cs_Key y9 x5.toNat (1 + j)) = false ∧ isSeq (gl cs_Key z x5.toNat (1 + j)) = false))) ⟨List.length_set, gl_setp (fun j hj hn => match j, hj, hn with | 0, _, _ => rfl | 1, _, hn => absurd ⟨by decide, by decide⟩ hn | 2, _, _ => rfl | 3, _, _ => rfl | 4, _, _ => rfl) (lt_of_bound c11), (gl_atp (lt_of_bound c11)).symm, ⟨⟨rfl, trivial⟩, trivial⟩, (fun _ j hj => match j, hj with | 0, _ => ⟨rfl, rfl⟩)⟩), trivial⟩ ?_
    refine thenQ_normal ?_
    refine AW.seq ?_
    refine AW.regionA [] [0, 1, 5] [0] (s' := ⟨[(0, (.v (.one (.arr 0)))), (1, (.v (.one (.c (.int .i64 (IntKind.i64.wrap ((IntKind.i64.wrap (x4 + (1 : Int))) + (1 : Int)))))))), (5, (.v (.one (.c (.int .i64 x5)))))], [(0, (.arr true y12.length 5 (gl cs_Key y12)))]⟩) (ob := True ∧ True ∧ True ∧ True) (by kernel_rfl) ⟨trivial, trivial, trivial, trivial⟩ ?_
    refine thenQ_normal ?_
    refine AW.seq ?_
    obtain ⟨c14, h⟩ := chk_some h
    obtain ⟨y15, e16, h⟩ := bind_some h
    refine AW.regionA [.no, .no, .no, .no, .no, .no, .no, .set y15.length (gl cs_Key y15) ((List.range 1).map fun j => (cs_Key (Key.mk ((y12.getD x5.toNat default).At) (Turn.mk (((y12.getD x5.toNat default).Turn).W) (Fl.ofInt .f32 (IntKind.i64.wrap ((IntKind.i64.wrap (x4 + (1 : Int))) + (1 : Int)))) (((y12.getD x5.toNat default).Turn).Y) (((y12.getD x5.toNat default).Turn).Z)))).getD (2 + j) .nilptr)] [0, 1, 5] [0] (s' := ⟨[(0, (.v (.one (.arr 0)))), (1, (.v (.one (.c (.int .i64 (IntKind.i64.wrap ((IntKind.i64.wrap (x4 + (1 : Int))) + (1 : Int)))))))), (5, (.v (.one (.c (.int .i64 x5)))))], [(0, (.arr true y15.length 5 (gl cs_Key y15)))]⟩) (ob := True ∧ True ∧ True ∧ True ∧ (0 ≤ x5 ∧ x5 < (y12.length : Int)) ∧ True ∧ True ∧ (y15.length = y12.length ∧ SetOb y12.length 5 x5.toNat 2 1 (gl cs_Key y12) (gl cs_Key y15) ∧ ((List.range 1).map fun j => (cs_Key (Key.mk ((y12.getD x5.toNat default).At) (Turn.mk (((y12.getD x5.toNat default).Turn).W) (Fl.ofInt .f32 (IntKind.i64.wrap ((IntKind.i64.wrap (x4 + (1 : Int))) + (1 : Int)))) (((y12.getD x5.toNat default).Turn).Y) (((y12.getD x5.toNat default).Turn).Z)))).getD (2 + j) .nilptr) = ((List.range 1).map fun j => gl cs_Key y15 x5.toNat (2 + j)) ∧ ((((.flt .f32 (Fl.ofInt .f32 (IntKind.i64.wrap ((IntKind.i64.wrap (x4 + (1 : Int))) + (1 : Int)))).bits) : C) = (.flt .f32 (Fl.ofInt .f32 (IntKind.i64.wrap ((IntKind.i64.wrap (x4 + (1 : Int))) + (1 : Int)))).bits) ∧ True) ∧ True) ∧ (true = true → ∀ j, j < 1 → isSeq (gl cs_Key y12 x5.toNat (2 + j)) = false ∧ isSeq (gl cs_Key y15 x5.toNat (2 + j)) = false)) ∧ True) (by kernel_rfl) ⟨trivial, trivial, trivial, trivial, c14, trivial, trivial, (letP (some_eq e16) (fun z => (z.length = y12.length ∧ SetOb y12.length 5 x5.toNat 2 1 (gl cs_Key y12) (gl cs_Key z) ∧ ((List.range 1).map fun j => (cs_Key (Key.mk ((y12.getD x5.toNat default).At) (Turn.mk (((y12.getD x5.toNat default).Turn).W) (Fl.ofInt .f32 (IntKind.i64.wrap ((IntKind.i64.wrap (x4 + (1 : Int))) + (1 : Int)))) (((y12.getD x5.toNat default).Turn).Y) (((y12.getD x5.toNat default).Turn).Z)))).getD (2 + j) .nilptr) = ((List.range 1).map fun j => gl cs_Key z x5.toNat (2 + j)) ∧ ((((.flt .f32 (Fl.ofInt .f32 (IntKind.i64.wrap ((IntKind.i64.wrap (x4 + (1 : Int))) + (1 : Int)))).bits) : C) = (.flt .f32 (Fl.ofInt .f32 (IntKind.i64.wrap ((IntKind.i64.wrap (x4 + (1 : Int))) + (1 : Int)))).bits) ∧ True) ∧ True) ∧ (true = true → ∀ j, j < 1 → isSeq (gl cs_Key y12 x5.toNat (2 + j)) = false ∧ isSeq (gl cs_Key z x5.toNat (2 + j)) = false))) ⟨List.length_set, gl_setp (fun j hj hn => match j, hj, hn with | 0, _, _ => rfl | 1, _, _ => rfl | 2, _, hn => absurd ⟨by decide, by decide⟩ hn | 3, _, _ => rfl | 4, _, _ => rfl) (lt_of_bound c14), (gl_atp (lt_of_bound c14)).symm, ⟨⟨rfl, trivial⟩, trivial⟩, (fun _ j hj => match j, hj with | 0, _ => ⟨rfl, rfl⟩)⟩), trivial⟩ ?_
    refine thenQ_normal ?_
    refine AW.seq ?_
    refine AW.regionA [] [0, 1, 5] [0] (s' := ⟨[(0, (.v (.one (.arr 0)))), (1, (.v (.one (.c (.int .i64 (IntKind.i64.wrap ((IntKind.i64.wrap ((IntKind.i64.wrap (x4 + (1 : Int))) + (1 : Int))) + (1 : Int)))))))), (5, (.v (.one (.c (.int .i64 x5)))))], [(0, (.arr true y15.length 5 (gl cs_Key y15)))]⟩) (ob := True ∧ True ∧ True ∧ True) (by kernel_rfl) ⟨trivial, trivial, trivial, trivial⟩ ?_
    refine thenQ_normal ?_
    refine AW.seq ?_
    obtain ⟨c17, h⟩ := chk_some h
    obtain ⟨y18, e19, h⟩ := bind_some h
    refine AW.regionA [.no, .no, .no, .no, .no, .no, .no, .set y18.length (gl cs_Key y18) ((List.range 1).map fun j => (cs_Key (Key.mk ((y15.getD x5.toNat default).At) (Turn.mk (((y15.getD x5.toNat default).Turn).W) (((y15.getD x5.toNat default).Turn).X) (Fl.ofInt .f32 (IntKind.i64.wrap ((IntKind.i64.wrap ((IntKind.i64.wrap (x4 + (1 : Int))) + (1 : Int))) + (1 : Int)))) (((y15.getD x5.toNat default).Turn).Z)))).getD (3 + j) .nilptr)] [0, 1, 5] [0] (s' := ⟨[(0, (.v (.one (.arr 0)))), (1, (.v (.one (.c (.int .i64 (IntKind.i64.wrap ((IntKind.i64.wrap ((IntKind.i64.wrap (x4 + (1 : Int))) + (1 : Int))) + (1 : Int)))))))), (5, (.v (.one (.c (.int .i64 x5)))))], [(0, (.arr true y18.length 5 (gl cs_Key y18)))]⟩) (ob := True ∧ True ∧ True ∧ True ∧ (0 ≤ x5 ∧ x5 < (y15.length : Int)) ∧ True ∧ True ∧ (y18.length = y15.length ∧ SetOb y15.length 5 x5.toNat 3 1 (gl cs_Key y15) (gl cs_Key y18) ∧ ((List.range 1).map fun j => (cs_Key (Key.mk ((y15.getD x5.toNat default).At) (Turn.mk (((y15.getD x5.toNat default).Turn).W) (((y15.getD x5.toNat default).Turn).X) (Fl.ofInt .f32 (IntKind.i64.wrap ((IntKind.i64.wrap ((IntKind.i64.wrap (x4 + (1 : Int))) + (1 : Int))) + (1 : Int)))) (((y15.getD x5.toNat default).Turn).Z)))).getD (3 + j) .nilptr) = ((List.range 1).map fun j => gl cs_Key y18 x5.toNat (3 + j)) ∧ ((((.flt .f32 (Fl.ofInt .f32 (IntKind.i64.wrap ((IntKind.i64.wrap ((IntKind.i64.wrap (x4 + (1 : Int))) + (1 : Int))) + (1 : Int)))).bits) : C) = (.flt .f32 (Fl.ofInt .f32 (IntKind.i64.wrap ((IntKind.i64.wrap ((IntKind.i64.wrap (x4 + (1 : Int))) + (1 : Int))) + (1 : Int)))).bits) ∧ True) ∧ True) ∧ (true = true → ∀ j, j < 1 → isSeq (gl cs_Key y15 x5.toNat (3 + j)) = false ∧ isSeq (gl cs_Key y18 x5.toNat (3 + j)) = false)) ∧ True) (by kernel_rfl) ⟨trivial, trivial, trivial, trivial, c17, trivial, trivial, (letP (some_eq e19) (fun z => (z.length = y15.length ∧ SetOb y15.length 5 x5.toNat 3 1 (gl cs_Key y15) (gl cs_Key z) ∧ ((List.range 1).map fun j => (cs_Key (Key.mk ((y15.getD x5.toNat default).At) (Turn.mk (((y15.getD x5.toNat default).Turn).W) (((y15.getD x5.toNat default).Turn).X) (Fl.ofInt .f32 (IntKind.i64.wrap ((IntKind.i64.wrap ((IntKind.i64.wrap (x4 + (1 : Int))) + (1 : Int))) + (1 : Int)))) (((y15.getD x5.toNat default).Turn).Z)))).getD (3 + j) .nilptr) = ((List.range 1).map fun j => gl cs_Key z x5.toNat (3 + j)) ∧ ((((.flt .f32 (Fl.ofInt .f32 (IntKind.i64.wrap ((IntKind.i64.wrap ((IntKind.i64.wrap (x4 + (1 : Int))) + (1 : Int))) + (1 : Int)))).bits) : C) = (.flt .f32 (Fl.ofInt .f32 (IntKind.i64.wrap ((IntKind.i64.wrap ((IntKind.i64.wrap (x4 + (1 : Int))) + (1 : Int))) + (1 : Int)))).bits) ∧ True) ∧ True) ∧ (true = true → ∀ j, j < 1 → isSeq (gl cs_Key y15 x5.toNat (3 + j)) = false ∧ isSeq (gl cs_Key z x5.toNat (3 + j)) = false))) ⟨List.length_set, gl_setp (fun j hj hn => match j, hj, hn with | 0, _, _ => rfl | 1, _, _ => rfl | 2, _, _ => rfl | 3, _, hn => absurd ⟨by decide, by decide⟩ hn | 4, _, _ => rfl) (lt_of_bound c17), (gl_atp (lt_of_bound c17)).symm, ⟨⟨rfl, trivial⟩, trivial⟩, (fun _ j hj => match j, hj with | 0, _ => ⟨rfl, rfl⟩)⟩), trivial⟩ ?_
    refine thenQ_normal ?_
    refine AW.seq ?_
    refine AW.regionA [] [0, 1, 5] [0] (s' := ⟨[(0, (.v (.one (.arr 0)))), (1, (.v (.one (.c (.int .i64 (IntKind.i64.wrap ((IntKind.i64.wrap ((IntKind.i64.wrap ((IntKind.i64.wrap (x4 + (1 : Int))) + (1 : Int))) + (1 : Int))) + (1 : Int)))))))), (5, (.v (.one (.c (.int .i64 x5)))))], [(0, (.arr true y18.length 5 (gl cs_Key y18)))]⟩) (ob := True ∧ True ∧ True ∧ True) (by kernel_rfl) ⟨trivial, trivial, trivial, trivial⟩ ?_
    refine thenQ_normal ?_
    refine AW.seq ?_
    obtain ⟨c20, h⟩ := chk_some h
    obtain ⟨y21, e22, h⟩ := bind_some h
    refine AW.regionA [.no, .no, .no, .no, .no, .no, .no, .set y21.length (gl cs_Key y21) ((List.range 1).map fun j => (cs_Key (Key.mk ((y18.getD x5.toNat default).At) (Turn.mk (((y18.getD x5.toNat default).Turn).W) (((y18.getD x5.toNat default).Turn).X) (((y18.getD x5.toNat default).Turn).Y) (Fl.ofInt .f32 (IntKind.i64.wrap ((IntKind.i64.wrap ((IntKind.i64.wrap ((IntKind.i64.wrap (x4 + (1 : Int))) + (1 : Int))) + (1 : Int))) + (1 : Int))))))).getD (4 + j) .nilptr)] [0, 1, 5] [0] (s' := ⟨[(0, (.v (.one (.arr 0)))), (1, (.v (.one (.c (.int .i64 (IntKind.i64.wrap ((IntKind.i64.wrap ((IntKind.i64.wrap ((IntKind.i64.wrap (x4 + (1 : Int))) + (1 : Int))) + (1 : Int))) + (1 : Int)))))))), (5, (.v (.one (.c (.int .i64 x5)))))], [(0, (.arr true y21.length 5 (gl cs_Key y21)))]⟩) (ob := True ∧ True ∧ True ∧ True ∧ (0 ≤ x5 ∧ x5 < (y18.length : Int)) ∧ True ∧ True ∧ (y21.length = y18.length ∧ SetOb y18.length 5 x5.toNat 4 1 (gl cs_Key y18) (gl cs_Key y21) ∧ ((List.range 1).map fun j => (cs_Key (Key.mk ((y18.getD x5.toNat default).At) (Turn.mk (((y18.getD x5.toNat default).Turn).W) (((y18.getD x5.toNat default).Turn).X) (((y18.getD x5.toNat default).Turn).Y) (Fl.ofInt .f32 (IntKind.i64.wrap ((IntKind.i64.wrap ((IntKind.i64.wrap ((IntKind.i64.wrap (x4 + (1 : Int))) + (1 : Int))) + (1 : Int))) + (1 : Int))))))).getD (4 + j) .nilptr) = ((List.range 1).map fun j => gl cs_Key y21 x5.toNat (4 + j)) ∧ ((((.flt .f32 (Fl.ofInt .f32 (IntKind.i64.wrap ((IntKind.i64.wrap ((IntKind.i64.wrap ((IntKind.i64.wrap (x4 + (1 : Int))) + (1 : Int))) + (1 : Int))) + (1 : Int)))).bits) : C) = (.flt .f32 (Fl.ofInt .f32 (IntKind.i64.wrap ((IntKind.i64.wrap ((IntKind.i64.wrap ((IntKind.i64.wrap (x4 + (1 : Int))) + (1 : Int))) + (1 : Int))) + (1 : Int)))).bits) ∧ True) ∧ True) ∧ (true = true → ∀ j, j < 1 → isSeq (gl cs_Key y18 x5.toNat (4 + j)) = false ∧ isSeq (gl cs_Key y21 x5.toNat (4 + j)) = false)) ∧ True) (by kernel_rfl) ⟨trivial, trivial, trivial, trivial, c20, trivial, trivial, (letP (some_eq e22) (fun z => (z.length = y18.length ∧ SetOb y18.length 5 x5.toNat 4 1 (gl cs_Key y18) (gl cs_Key z) ∧ ((List.range 1).map fun j => (cs_Key (Key.mk ((y18.getD x5.toNat default).At) (Turn.mk (((y18.getD x5.toNat default).Turn).W) (((y18.getD x5.toNat default).Turn).X) (((y18.getD x5.toNat default).Turn).Y) (Fl.ofInt .f32 (IntKind.i64.wrap ((IntKind.i64.wrap ((IntKind.i64.wrap ((IntKind.i64.wrap (x4 + (1 : Int))) + (1 : Int))) + (1 : Int))) + (1 : Int))))))).getD (4 + j) .nilptr) = ((List.range 1).map fun j => gl cs_Key z x5.toNat (4 + j)) ∧ ((((.flt .f32 (Fl.ofInt .f32 (IntKind.i64.wrap ((IntKind.i64.wrap ((IntKind.i64.wrap ((IntKind.i64.wrap (x4 + (1 : Int))) + (1 : Int))) + (1 : Int))) + (1 : Int)))).bits) : C) = (.flt .f32 (Fl.ofInt .f32 (IntKind.i64.wrap ((IntKind.i64.wrap ((IntKind.i64.wrap ((IntKind.i64.wrap (x4 + (1 : Int))) + (1 : Int))) + (1 : Int))) + (1 : Int)))).bits) ∧ True) ∧ True) ∧ (true = true → ∀ j, j < 1 → isSeq (gl cs_Key y18 x5.toNat (4 + j)) = false ∧ isSeq (gl cs_Key z x5.toNat (4 + j)) = false))) ⟨List.length_set, gl_setp (fun j hj hn => match j, hj, hn with | 0, _, _ => rfl | 1, _, _ => rfl | 2, _, _ => rfl | 3, _, _ => rfl | 4, _, hn => absurd ⟨by decide, by decide⟩ hn) (lt_of_bound c20), (gl_atp (lt_of_bound c20)).symm, ⟨⟨rfl, trivial⟩, trivial⟩, (fun _ j hj => match j, hj with | 0, _ => ⟨rfl, rfl⟩)⟩), trivial⟩ ?_
    refine thenQ_normal ?_
    refine AW.regionA [] [0, 1, 5] [0] (s' := ⟨[(0, (.v (.one (.arr 0)))), (1, (.v (.one (.c (.int .i64 (IntKind.i64.wrap ((IntKind.i64.wrap ((IntKind.i64.wrap ((IntKind.i64.wrap ((IntKind.i64.wrap (x4 + (1 : Int))) + (1 : Int))) + (1 : Int))) + (1 : Int))) + (1 : Int)))))))), (5, (.v (.one (.c (.int .i64 x5)))))], [(0, (.arr true y21.length 5 (gl cs_Key y21)))]⟩) (ob := True ∧ True ∧ True ∧ True) (by kernel_rfl) ⟨trivial, trivial, trivial, trivial⟩ ?_
    refine blockQ_normal ?_
    refine thenQ_normal ?_
    refine AW.regionA [] [0, 1, 5] [0] (s' := ⟨[(0, (.v (.one (.arr 0)))), (1, (.v (.one (.c (.int .i64 (IntKind.i64.wrap ((IntKind.i64.wrap ((IntKind.i64.wrap ((IntKind.i64.wrap ((IntKind.i64.wrap (x4 + (1 : Int))) + (1 : Int))) + (1 : Int))) + (1 : Int))) + (1 : Int)))))))), (5, (.v (.one (.c (.int .i64 (IntKind.i64.wrap (x5 + (1 : Int))))))))], [(0, (.arr true y21.length 5 (gl cs_Key y21)))]⟩) (ob := True ∧ True ∧ True ∧ True) (by kernel_rfl) ⟨trivial, trivial, trivial, trivial⟩ ?_
    exact loopQ_normal (k, (IntKind.i64.wrap ((IntKind.i64.wrap ((IntKind.i64.wrap ((IntKind.i64.wrap ((IntKind.i64.wrap (x4 + (1 : Int))) + (1 : Int))) + (1 : Int))) + (1 : Int))) + (1 : Int))), (IntKind.i64.wrap (x5 + (1 : Int))), y21) h (Nat.lt_succ_self k) (Sub.keep [0, 1, 5] [0] (by kernel_rfl) (by kernel_rfl))
  · refine AW.cond_f rfl b7 ?_
    refine AW.exit ?_
    refine thenQ_exit ?_
    refine loopQ_exit ?_
    refine blockQ_exit ?_
    refine thenQ_normal ?_
    refine AW.seq ?_
    refine AW.regionA [] [0, 1, 4] [0] (s' := ⟨[(0, (.v (.one (.arr 0)))), (1, (.v (.one (.c (.int .i64 x4))))), (4, (.v (.one (.c (.int .i64 x4)))))], [(0, (.arr true x6.length 5 (gl cs_Key x6)))]⟩) (ob := True ∧ True ∧ True) (by kernel_rfl) ⟨trivial, trivial, trivial⟩ ?_
    refine thenQ_normal ?_
    refine AW.ret ?_
    obtain ⟨c23, h⟩ := chk_some h
    replace h := some_eq h
    subst h
    exact ⟨.inr rfl, retOK_of [(.one (.c (.int .i64 x4)))] (by kernel_rfl) ⟨⟨rfl, trivial⟩, trivial⟩ (of_decide_eq_true (by kernel_rfl)), by kernel_rfl, ⟨⟨c23, rfl, rfl⟩, trivial, trivial⟩⟩

/-! laws.markKeySS -/
def laws_markKeySS_l1 (K : Nat) (a0 : (List (List Key))) : Nat → Int → Int → (List (List Key)) → Option (Int × (List (List Key)))
  | 0, _, _, _ => none
  | k + 1, x4, x5, x6 => ite2 ((decide (x5 < (x6.length : Int)))) (chk (0 ≤ x5 ∧ x5 < (x6.length : Int)) ((laws_markKeyS K (x6.getD x5.toNat default) x4).bind fun v9 => laws_markKeySS_l1 K a0 k v9.1 (IntKind.i64.wrap (x5 + (1 : Int))) (x6.set x5.toNat v9.2))) (chk (x6.length = a0.length) (some (x4, x6)))

def laws_markKeySS (K : Nat) (a0 : (List (List Key))) (a1 : Int) : Option (Int × (List (List Key))) :=
  laws_markKeySS_l1 K a0 K a1 (0 : Int) a0

theorem ok_laws_markKeySS (K : Nat) (a0 : (List (List Key))) (a1 : Int) (o : (Int × (List (List Key)))) (h : laws_markKeySS K a0 a1 = some o) : MutOK Try.prog 70 [(.one (.mu (sl 1 (csL 5 cs_Key) a0) (sl 1 (csL 5 cs_Key) o.2))), (.one (.ro (.int .i64 a1)))] [.one (.int .i64 o.1)] := by
  refine mutOK_of_AW 1 Try.func70 rfl (by kernel_rfl) (Nat.le_of_ble_eq_true (by kernel_rfl)) (by kernel_rfl) (by kernel_rfl) ?_
  intro w0 K0 v0 s0
  unfold laws_markKeySS at h
  refine AW.seq ?_
  refine AW.regionA [] [0, 1] [0] (s' := ⟨[(0, (.v (.one (.arr 0)))), (1, (.v (.one (.c (.int .i64 a1)))))], [(0, (.arr true a0.length 1 (gl (csL 5 cs_Key) a0)))]⟩) (ob := True ∧ True) (by kernel_rfl) ⟨trivial, trivial⟩ ?_
  refine thenQ_normal ?_
  refine AW.seq ?_
  refine AW.seq ?_
  refine AW.regionA [] [0, 1, 5] [0] (s' := ⟨[(0, (.v (.one (.arr 0)))), (1, (.v (.one (.c (.int .i64 a1))))), (5, (.v (.one (.c (.int .i64 (0 : Int))))))], [(0, (.arr true a0.length 1 (gl (csL 5 cs_Key) a0)))]⟩) (ob := True ∧ True) (by kernel_rfl) ⟨trivial, trivial⟩ ?_
  refine thenQ_normal ?_
  refine AW.block ?_
  refine AW.loopQ (σ := Nat × Int × Int × (List (List Key))) (fun p => ⟨[(0, (.v (.one (.arr 0)))), (1, (.v (.one (.c (.int .i64 p.2.1))))), (5, (.v (.one (.c (.int .i64 p.2.2.1)))))], [(0, (.arr true p.2.2.2.length 1 (gl (csL 5 cs_Key) p.2.2.2)))]⟩) (fun p => laws_markKeySS_l1 K a0 p.1 p.2.1 p.2.2.1 p.2.2.2 = some o) (fun p => p.1) (K, a1, (0 : Int), a0) h ?_
  clear h
  rintro ⟨k, x4, x5, x6⟩ h
  replace h : laws_markKeySS_l1 K a0 k x4 x5 x6 = some o := h
  show AW _ _ (⟨[(0, (.v (.one (.arr 0)))), (1, (.v (.one (.c (.int .i64 x4))))), (5, (.v (.one (.c (.int .i64 x5)))))], [(0, (.arr true x6.length 1 (gl (csL 5 cs_Key) x6)))]⟩ : St) _
  obtain _ | k := k
  · rw [laws_markKeySS_l1] at h; cases h
  rw [laws_markKeySS_l1] at h
  refine AW.seq ?_
  refine AW.seq ?_
  refine AW.regionA [] [0, 1, 5, 9] [0] (s' := ⟨[(0, (.v (.one (.arr 0)))), (1, (.v (.one (.c (.int .i64 x4))))), (5, (.v (.one (.c (.int .i64 x5))))), (9, (.v (.one (.c (.bool (decide (x5 < (x6.length : Int))))))))], [(0, (.arr true x6.length 1 (gl (csL 5 cs_Key) x6)))]⟩) (ob := True ∧ True ∧ True ∧ True ∧ True) (by kernel_rfl) ⟨trivial, trivial, trivial, trivial, trivial⟩ ?_
  refine thenQ_normal ?_
  rcases ite2_cases h with ⟨b7, h⟩ | ⟨b7, h⟩
  · refine AW.cond_t rfl b7 ?_
    refine AW.skip ?_
    refine thenQ_normal ?_
    refine AW.seq ?_
    refine AW.block ?_
    obtain ⟨c8, h⟩ := chk_some h
    obtain ⟨v9, e10, h⟩ := bind_some h
    refine AW.regionA [.no, .no, .no, .no, .no, .callM [(.one (.mu (sl 5 cs_Key (x6.getD x5.toNat default)) (sl 5 cs_Key v9.2))), .one (.ro (.int .i64 x4))] [.one (.int .i64 v9.1)] [[.view]] (some ((x6.set x5.toNat v9.2).length, gl (csL 5 cs_Key) (x6.set x5.toNat v9.2)))] [0, 1, 5] [0] (s' := ⟨[(0, (.v (.one (.arr 0)))), (1, (.v (.one (.c (.int .i64 v9.1))))), (5, (.v (.one (.c (.int .i64 x5)))))], [(0, (.arr true (x6.set x5.toNat v9.2).length 1 (gl (csL 5 cs_Key) (x6.set x5.toNat v9.2))))]⟩) (ob := True ∧ True ∧ (0 ≤ x5 ∧ x5 < (x6.length : Int)) ∧ True ∧ True ∧ ((((x6.set x5.toNat v9.2).length = x6.length ∧ ((sl 5 cs_Key (x6.getD x5.toNat default)) : C) = gl (csL 5 cs_Key) x6 x5.toNat 0 ∧ gl (csL 5 cs_Key) (x6.set x5.toNat v9.2) x5.toNat 0 = ((sl 5 cs_Key v9.2) : C) ∧ isSeq (sl 5 cs_Key v9.2) = true ∧ SetOb x6.length 1 x5.toNat 0 1 (gl (csL 5 cs_Key) x6) (gl (csL 5 cs_Key) (x6.set x5.toNat v9.2))) ∧ (((.int .i64 x4) : C) = (.int .i64 x4)) ∧ True) ∧ MutOK Try.prog 144 [(.one (.mu (sl 5 cs_Key (x6.getD x5.toNat default)) (sl 5 cs_Key v9.2))), .one (.ro (.int .i64 x4))] [.one (.int .i64 v9.1)]) ∧ True ∧ True) (by kernel_rfl) ⟨trivial, trivial, c8, trivial, trivial, ⟨⟨⟨List.length_set, rfl, gl_cell (lt_of_bound c8) rfl, rfl, gl_setp (fun j hj hn => match j, hj, hn with | 0, _, hn => absurd ⟨by decide, by decide⟩ hn) (lt_of_bound c8)⟩, rfl, trivial⟩, ok_laws_markKeyS K (x6.getD x5.toNat default) x4 v9 e10⟩, trivial, trivial⟩ ?_
    refine blockQ_normal ?_
    refine thenQ_normal ?_
    refine AW.regionA [] [0, 1, 5] [0] (s' := ⟨[(0, (.v (.one (.arr 0)))), (1, (.v (.one (.c (.int .i64 v9.1))))), (5, (.v (.one (.c (.int .i64 (IntKind.i64.wrap (x5 + (1 : Int))))))))], [(0, (.arr true (x6.set x5.toNat v9.2).length 1 (gl (csL 5 cs_Key) (x6.set x5.toNat v9.2))))]⟩) (ob := True ∧ True ∧ True ∧ True) (by kernel_rfl) ⟨trivial, trivial, trivial, trivial⟩ ?_
    exact loopQ_normal (k, v9.1, (IntKind.i64.wrap (x5 + (1 : Int))), (x6.set x5.toNat v9.2)) h (Nat.lt_succ_self k) (Sub.keep [0, 1, 5] [0] (by kernel_rfl) (by kernel_rfl))
  · refine AW.cond_f rfl b7 ?_
    refine AW.exit ?_
    refine thenQ_exit ?_
    refine loopQ_exit ?_
    refine blockQ_exit ?_
    refine thenQ_normal ?_
    refine AW.seq ?_
    refine AW.regionA [] [0, 1, 4] [0] (s' := ⟨[(0, (.v (.one (.arr 0)))), (1, (.v (.one (.c (.int .i64 x4))))), (4, (.v (.one (.c (.int .i64 x4)))))], [(0, (.arr true x6.length 1 (gl (csL 5 cs_Key) x6)))]⟩) (ob := True ∧ True ∧ True) (by kernel_rfl) ⟨trivial, trivial, trivial⟩ ?_
    refine thenQ_normal ?_
    refine AW.ret ?_
    obtain ⟨c11, h⟩ := chk_some h
    replace h := some_eq h
    subst h
    exact ⟨.inr rfl, retOK_of [(.one (.c (.int .i64 x4)))] (by kernel_rfl) ⟨⟨rfl, trivial⟩, trivial⟩ (of_decide_eq_true (by kernel_rfl)), by kernel_rfl, ⟨⟨c11, rfl, rfl⟩, trivial, trivial⟩⟩

/-! laws.markRootKeyS -/
def laws_markRootKeyS_l1 (K : Nat) (a0 : (List RootKey)) : Nat → Int → Int → (List RootKey) → Option (Int × (List RootKey))
  | 0, _, _, _ => none
  | k + 1, x4, x5, x6 => ite2 ((decide (x5 < (x6.length : Int)))) (chk (0 ≤ x5 ∧ x5 < (x6.length : Int)) ((some (x6.set x5.toNat (RootKey.mk x4 ((x6.getD x5.toNat default).Place)))).bind fun y9 => chk (0 ≤ x5 ∧ x5 < (y9.length : Int)) ((some (y9.set x5.toNat (RootKey.mk ((y9.getD x5.toNat default).At) (Vector.mk (Fl.ofInt .f32 (IntKind.i64.wrap (x4 + (1 : Int)))) (((y9.getD x5.toNat default).Place).Y) (((y9.getD x5.toNat default).Place).Z))))).bind fun y12 => chk (0 ≤ x5 ∧ x5 < (y12.length : Int)) ((some (y12.set x5.toNat (RootKey.mk ((y12.getD x5.toNat default).At) (Vector.mk (((y12.getD x5.toNat default).Place).X) (Fl.ofInt .f32 (IntKind.i64.wrap ((IntKind.i64.wrap (x4 + (1 : Int))) + (1 : Int)))) (((y12.getD x5.toNat default).Place).Z))))).bind fun y15 => chk (0 ≤ x5 ∧ x5 < (y15.length : Int)) ((some (y15.set x5.toNat (RootKey.mk ((y15.getD x5.toNat default).At) (Vector.mk (((y15.getD x5.toNat default).Place).X) (((y15.getD x5.toNat default).Place).Y) (Fl.ofInt .f32 (IntKind.i64.wrap ((IntKind.i64.wrap ((IntKind.i64.wrap (x4 + (1 : Int))) + (1 : Int))) + (1 : Int)))))))).bind fun y18 => laws_markRootKeyS_l1 K a0 k (IntKind.i64.wrap ((IntKind.i64.wrap ((IntKind.i64.wrap ((IntKind.i64.wrap (x4 + (1 : Int))) + (1 : Int))) + (1 : Int))) + (1 : Int))) (IntKind.i64.wrap (x5 + (1 : Int))) y18))))) (chk (x6.length = a0.length) (some (x4, x6)))

def laws_markRootKeyS (K : Nat) (a0 : (List RootKey)) (a1 : Int) : Option (Int × (List RootKey)) :=
  laws_markRootKeyS_l1 K a0 K a1 (0 : Int) a0

theorem ok_laws_markRootKeyS (K : Nat) (a0 : (List RootKey)) (a1 : Int) (o : (Int × (List RootKey))) (h : laws_markRootKeyS K a0 a1 = some o) : MutOK Try.prog 71 [(.one (.mu (sl 4 cs_RootKey a0) (sl 4 cs_RootKey o.2))), (.one (.ro (.int .i64 a1)))] [.one (.int .i64 o.1)] := by
  refine mutOK_of_AW 1 Try.func71 rfl (by kernel_rfl) (Nat.le_of_ble_eq_true (by kernel_rfl)) (by kernel_rfl) (by kernel_rfl) ?_
  intro w0 K0 v0 s0
  unfold laws_markRootKeyS at h
  refine AW.seq ?_
  refine AW.regionA [] [0, 1] [0] (s' := ⟨[(0, (.v (.one (.arr 0)))), (1, (.v (.one (.c (.int .i64 a1)))))], [(0, (.arr true a0.length 4 (gl cs_RootKey a0)))]⟩) (ob := True ∧ True) (by kernel_rfl) ⟨trivial, trivial⟩ ?_
  refine thenQ_normal ?_
  refine AW.seq ?_
  refine AW.seq ?_
  refine AW.regionA [] [0, 1, 5] [0] (s' := ⟨[(0, (.v (.one (.arr 0)))), (1, (.v (.one (.c (.int .i64 a1))))), (5, (.v (.one (.c (.int .i64 (0 : Int))))))], [(0, (.arr true a0.length 4 (gl cs_RootKey a0)))]⟩) (ob := True ∧ True) (by kernel_rfl) ⟨trivial, trivial⟩ ?_
  refine thenQ_normal ?_
  refine AW.block ?_
  refine AW.loopQ (σ := Nat × Int × Int × (List RootKey)) (fun p => ⟨[(0, (.v (.one (.arr 0)))), (1, (.v (.one (.c (.int .i64 p.2.1))))), (5, (.v (.one (.c (.int .i64 p.2.2.1)))))], [(0, (.arr true p.2.2.2.length 4 (gl cs_RootKey p.2.2.2)))]⟩) (fun p => laws_markRootKeyS_l1 K a0 p.1 p.2.1 p.2.2.1 p.2.2.2 = some o) (fun p => p.1) (K, a1, (0 : Int), a0) h ?_
  clear h
  rintro ⟨k, x4, x5, x6⟩ h
  replace h : laws_markRootKeyS_l1 K a0 k x4 x5 x6 = some o := h
  show AW _ _ (⟨[(0, (.v (.one (.arr 0)))), (1, (.v (.one (.c (.int .i64 x4))))), (5, (.v (.one (.c (.int .i64 x5)))))], [(0, (.arr true x6.length 4 (gl cs_RootKey x6)))]⟩ : St) _
  obtain _ | k := k
  · rw [laws_markRootKeyS_l1] at h; cases h
  rw [laws_markRootKeyS_l1] at h
  refine AW.seq ?_
  refine AW.seq ?_
  refine AW.regionA [] [0, 1, 5, 9] [0] (s' := ⟨[(0, (.v (.one (.arr 0)))), (1, (.v (.one (.c (.int .i64 x4))))), (5, (.v (.one (.c (.int .i64 x5))))), (9, (.v (.one (.c (.bool (decide (x5 < (x6.length : Int))))))))], [(0, (.arr true x6.length 4 (gl cs_RootKey x6)))]⟩) (ob := True ∧ True ∧ True ∧ True ∧ True) (by kernel_rfl) ⟨trivial, trivial, trivial, trivial, trivial⟩ ?_
  refine thenQ_normal ?_
  rcases ite2_cases h with ⟨b7, h⟩ | ⟨b7, h⟩
  · refine AW.cond_t rfl b7 ?_
    refine AW.skip ?_
    refine thenQ_normal ?_
    refine AW.seq ?_
    refine AW.block ?_
    refine AW.seq ?_
    obtain ⟨c8, h⟩ := chk_some h
    obtain ⟨y9, e10, h⟩ := bind_some h
    refine AW.regionA [.no, .no, .no, .no, .no, .set y9.length (gl cs_RootKey y9) ((List.range 1).map fun j => (cs_RootKey (RootKey.mk x4 ((x6.getD x5.toNat default).Place))).getD (0 + j) .nilptr)] [0, 1, 5] [0] (s' := ⟨[(0, (.v (.one (.arr 0)))), (1, (.v (.one (.c (.int .i64 x4))))), (5, (.v (.one (.c (.int .i64 x5)))))], [(0, (.arr true y9.length 4 (gl cs_RootKey y9)))]⟩) (ob := True ∧ True ∧ True ∧ (0 ≤ x5 ∧ x5 < (x6.length : Int)) ∧ True ∧ (y9.length = x6.length ∧ SetOb x6.length 4 x5.toNat 0 1 (gl cs_RootKey x6) (gl cs_RootKey y9) ∧ ((List.range 1).map fun j => (cs_RootKey (RootKey.mk x4 ((x6.getD x5.toNat default).Place))).getD (0 + j) .nilptr) = ((List.range 1).map fun j => gl cs_RootKey y9 x5.toNat (0 + j)) ∧ ((((.int .i64 x4) : C) = (.int .i64 x4) ∧ True) ∧ True) ∧ (true = true → ∀ j, j < 1 → isSeq (gl cs_RootKey x6 x5.toNat (0 + j)) = false ∧ isSeq (gl cs_RootKey y9 x5.toNat (0 + j)) = false)) ∧ True) (by kernel_rfl) ⟨trivial, trivial, trivial, c8, trivial, (letP (some_eq e10) (fun z => (z.length = x6.length ∧ SetOb x6.length 4 x5.toNat 0 1 (gl cs_RootKey x6) (gl cs_RootKey z) ∧ ((List.range 1).map fun j => (cs_RootKey (RootKey.mk x4 ((x6.getD x5.toNat default).Place))).getD (0 + j) .nilptr) = ((List.range 1).map fun j => gl cs_RootKey z x5.toNat (0 + j)) ∧ ((((.int .i64 x4) : C) = (.int .i64 x4) ∧ True) ∧ True) ∧ (true = true → ∀ j, j < 1 → isSeq (gl cs_RootKey x6 x5.toNat (0 + j)) = false ∧ isSeq (gl cs_RootKey z x5.toNat (0 + j)) = false))) ⟨List.length_set, gl_setp (fun j hj hn => match j, hj, hn with | 0, _, hn => absurd ⟨by decide, by decide⟩ hn | 1, _, _ => rfl | 2, _, _ => rfl | 3, _, _ => rfl) (lt_of_bound c8), (gl_atp (lt_of_bound c8)).symm, ⟨⟨rfl, trivial⟩, trivial⟩, (fun _ j hj => match j, hj with | 0, _ => ⟨rfl, rfl⟩)⟩), trivial⟩ ?_
    refine thenQ_normal ?_
    refine AW.seq ?_
    refine AW.regionA [] [0, 1, 5] [0] (s' := ⟨[(0, (.v (.one (.arr 0)))), (1, (.v (.one (.c (.int .i64 (IntKind.i64.wrap (x4 + (1 : Int)))))))), (5, (.v (.one (.c (.int .i64 x5)))))], [(0, (.arr true y9.length 4 (gl cs_RootKey y9)))]⟩) (ob := True ∧ True ∧ True ∧ True) (by kernel_rfl) ⟨trivial, trivial, trivial, trivial⟩ ?_
    refine thenQ_normal ?_
    refine AW.seq ?_
    obtain ⟨c11, h⟩ := chk_some h
    obtain ⟨y12, e13, h⟩ := bind_some h
    refine AW.regionA [.no, .no, .no, .no, .no, .no, .no, .set y12.length (gl cs_RootKey y12) ((List.range 1).map fun j => (cs_RootKey (RootKey.mk ((y9.getD x5.toNat default).At) (Vector.mk (Fl.ofInt .f32 (IntKind.i64.wrap (x4 + (1 : Int)))) (((y9.getD x5.toNat default).Place).Y) (((y9.getD x5.toNat default).Place).Z)))).getD (1 + j) .nilptr)] [0, 1, 5] [0] (s' := ⟨[(0, (.v (.one (.arr 0)))), (1, (.v (.one (.c (.int .i64 (IntKind.i64.wrap (x4 + (1 : Int)))))))), (5, (.v (.one (.c (.int .i64 x5)))))], [(0, (.arr true y12.length 4 (gl cs_RootKey y12)))]⟩) (ob := True ∧ True ∧ True ∧ True ∧ (0 ≤ x5 ∧ x5 < (y9.length : Int)) ∧ True ∧ True ∧ (y12.length = y9.length ∧ SetOb y9.length 4 x5.toNat 1 1 (gl cs_RootKey y9) (gl cs_RootKey y12) ∧ ((List.range 1).map fun j => (cs_RootKey (RootKey.mk ((y9.getD x5.toNat default).At) (Vector.mk (Fl.ofInt .f32 (IntKind.i64.wrap (x4 + (1 : Int)))) (((y9.getD x5.toNat default).Place).Y) (((y9.getD x5.toNat default).Place).Z)))).getD (1 + j) .nilptr) = ((List.range 1).map fun j => gl cs_RootKey y12 x5.toNat (1 + j)) ∧ ((((.flt .f32 (Fl.ofInt .f32 (IntKind.i64.wrap (x4 + (1 : Int)))).bits) : C) = (.flt .f32 (Fl.ofInt .f32 (IntKind.i64.wrap (x4 + (1 : Int)))).bits) ∧ True) ∧ True) ∧ (true = true → ∀ j, j < 1 → isSeq (gl cs_RootKey y9 x5.toNat (1 + j)) = false ∧ isSeq (gl cs_RootKey y12 x5.toNat (1 + j)) = false)) ∧ True) (by kernel_rfl) ⟨trivial, trivial, trivial, trivial, c11, trivial, trivial, (letP (some_eq e13) (fun z => (z.length = y9.length ∧ SetOb y9.length 4 x5.toNat 1 1 (gl cs_RootKey y9) (gl cs_RootKey z) ∧ ((List.range 1).map fun j => (cs_RootKey (RootKey.mk ((y9.getD x5.toNat default).At) (Vector.mk (Fl.ofInt .f32 (IntKind.i64.wrap (x4 + (1 : Int)))) (((y9.getD x5.toNat default).Place).Y) (((y9.getD x5.toNat default).Place).Z)))).getD (1 + j) .nilptr) = ((List.range 1).map fun j => gl cs_RootKey z x5.toNat (1 + j)) ∧ ((((.flt .f32 (Fl.ofInt .f32 (IntKind.i64.wrap (x4 + (1 : Int)))).bits) : C) = (.flt .f32 (Fl.ofInt .f32 (IntKind.i64.wrap (x4 + (1 : Int)))).bits) ∧ True) ∧ True) ∧ (true = true → ∀ j, j < 1 → isSeq (gl cs_RootKey y9 x5.toNat (1 + j)) = false ∧ isSeq (gl cs_RootKey z x5.toNat (1 + j)) = false))) ⟨List.length_set, gl_setp (fun j hj hn => match j, hj, hn with | 0, _, _ => rfl | 1, _, hn => absurd ⟨by decide, by decide⟩ hn | 2, _, _ => rfl | 3, _, _ => rfl) (lt_of_bound c11), (gl_atp (lt_of_bound c11)).symm, ⟨⟨rfl, trivial⟩, trivial⟩, (fun _ j hj => match j, hj with | 0, _ => ⟨rfl, rfl⟩)⟩), trivial⟩ ?_
    refine thenQ_normal ?_
    refine AW.seq ?_
    refine AW.regionA [] [0, 1, 5] [0] (s' := ⟨[(0, (.v (.one (.arr 0)))), (1, (.v (.one (.c (.int .i64 (IntKind.i64.wrap ((IntKind.i64.wrap (x4 + (1 : Int))) + (1 : Int)))))))), (5, (.v (.one (.c (.int .i64 x5)))))], [(0, (.arr true y12.length 4 (gl cs_RootKey y12)))]⟩) (ob := True ∧ True ∧ True ∧ True) (by kernel_rfl) ⟨trivial, trivial, trivial, trivial⟩ ?_
    refine thenQ_normal ?_
    refine AW.seq ?_
    obtain ⟨c14, h⟩ := chk_some h
    obtain ⟨y15, e16, h⟩ := bind_some h
    refine AW.regionA [.no, .no, .no, .no, .no, .no, .no, .set y15.length (gl cs_RootKey y15) ((List.range 1).map fun j => (cs_RootKey (RootKey.mk ((y12.getD x5.toNat default).At) (Vector.mk (((y12.getD x5.toNat default).Place).X) (Fl.ofInt .f32 (IntKind.i64.wrap ((IntKind.i64.wrap (x4 + (1 : Int))) + (1 : Int)))) (((y12.getD x5.toNat default).Place).Z)))).getD (2 + j) .nilptr)] [0, 1, 5] [0] (s' := ⟨[(0, (.v (.one (.arr 0)))), (1, (.v (.one (.c (.int .i64 (IntKind.i64.wrap ((IntKind.i64.wrap (x4 + (1 : Int))) + (1 : Int)))))))), (5, (.v (.one (.c (.int .i64 x5)))))], [(0, (.arr true y15.length 4 (gl cs_RootKey y15)))]⟩) (ob := True ∧ True ∧ True ∧ True ∧ (0 ≤ x5 ∧ x5 < (y12.length : Int)) ∧ True ∧ True ∧ (y15.length = y12.length ∧ SetOb y12.length 4 x5.toNat 2 1 (gl cs_RootKey y12) (gl cs_RootKey y15) ∧ ((List.range 1).map fun j => (cs_RootKey (RootKey.mk ((y12.getD x5.toNat default).At) (Vector.mk (((y12.getD x5.toNat default).Place).X) (Fl.ofInt .f32 (IntKind.i64.wrap ((IntKind.i64.wrap (x4 + (1 : Int))) + (1 : Int)))) (((y12.getD x5.toNat default).Place).Z)))).getD (2 + j) .nilptr) = ((List.range 1).map fun j => gl cs_RootKey y15 x5.toNat (2 + j)) ∧ ((((.flt .f32 (Fl.ofInt .f32 (IntKind.i64.wrap ((IntKind.i64.wrap (x4 + (1 : Int))) + (1 : Int)))).bits) : C) = (.flt .f32 (Fl.ofInt .f32 (IntKind.i64.wrap ((IntKind.i64.wrap (x4 + (1 : Int))) + (1 : Int)))).bits) ∧ True) ∧ True) ∧ (true = true → ∀ j, j < 1 → isSeq (gl cs_RootKey y12 x5.toNat (2 + j)) = false ∧ isSeq (gl cs_RootKey y15 x5.toNat (2 + j)) = false)) ∧ True) (by kernel_rfl) ⟨trivial, trivial, trivial, trivial, c14, trivial, trivial, (letP (some_eq e16) (fun z => (z.length = y12.length ∧ SetOb y12.length 4 x5.toNat 2 1 (gl cs_RootKey y12) (gl cs_RootKey z) ∧ ((List.range 1).map fun j => (cs_RootKey (RootKey.mk ((y12.getD x5.toNat default).At) (Vector.mk (((y12.getD x5.toNat default).Place).X) (Fl.ofInt .f32 (IntKind.i64.wrap ((IntKind.i64.wrap (x4 + (1 : Int))) + (1 : Int)))) (((y12.getD x5.toNat default).Place).Z)))).getD (2 + j) .nilptr) = ((List.range 1).map fun j => gl cs_RootKey z x5.toNat (2 + j)) ∧ ((((.flt .f32 (Fl.ofInt .f32 (IntKind.i64.wrap ((IntKind.i64.wrap (x4 + (1 : Int))) + (1 : Int)))).bits) : C) = (.flt .f32 (Fl.ofInt .f32 (IntKind.i64.wrap ((IntKind.i64.wrap (x4 + (1 : Int))) + (1 : Int)))).bits) ∧ True) ∧ True) ∧ (true = true → ∀ j, j < 1 → isSeq (gl cs_RootKey y12 x5.toNat (2 + j)) = false ∧ isSeq (gl cs_RootKey z x5.toNat (2 + j)) = false))) ⟨List.length_set, gl_setp (fun j hj hn => match j, hj, hn with | 0, _, _ => rfl | 1, _, _ => rfl | 2, _, hn => absurd ⟨by decide, by decide⟩ hn | 3, _, _ => rfl) (lt_of_bound c14), (gl_atp (lt_of_bound c14)).symm, ⟨⟨rfl, trivial⟩, trivial⟩, (fun _ j hj => match j, hj with | 0, _ => ⟨rfl, rfl⟩)⟩), trivial⟩ ?_
    refine thenQ_normal ?_
    refine AW.seq ?_
    refine AW.regionA [] [0, 1, 5] [0] (s' := ⟨[(0, (.v (.one (.arr 0)))), (1, (.v (.one (.c (.int .i64 (IntKind.i64.wrap ((IntKind.i64.wrap ((IntKind.i64.wrap (x4 + (1 : Int))) + (1 : Int))) + (1 : Int)))))))), (5, (.v (.one (.c (.int .i64 x5)))))], [(0, (.arr true y15.length 4 (gl cs_RootKey y15)))]⟩) (ob := True ∧ True ∧ True ∧ True) (by kernel_rfl) ⟨trivial, trivial, trivial, trivial⟩ ?_
    refine thenQ_normal ?_
    refine AW.seq ?_
    obtain ⟨c17, h⟩ := chk_some h
    obtain ⟨y18, e19, h⟩ := bind_some h
    refine AW.regionA [.no, .no, .no, .no, .no, .no, .no, .set y18.length (gl cs_RootKey y18) ((List.range 1).map fun j => (cs_RootKey (RootKey.mk ((y15.getD x5.toNat default).At) (Vector.mk (((y15.getD x5.toNat default).Place).X) (((y15.getD x5.toNat default).Place).Y) (Fl.ofInt .f32 (IntKind.i64.wrap ((IntKind.i64.wrap ((IntKind.i64.wrap (x4 + (1 : Int))) + (1 : Int))) + (1 : Int))))))).getD (3 + j) .nilptr)] [0, 1, 5] [0] (s' := ⟨[(0, (.v (.one (.arr 0)))), (1, (.v (.one (.c (.int .i64 (IntKind.i64.wrap ((IntKind.i64.wrap ((IntKind.i64.wrap (x4 + (1 : Int))) + (1 : Int))) + (1 : Int)))))))), (5, (.v (.one (.c (.int .i64 x5)))))], [(0, (.arr true y18.length 4 (gl cs_RootKey y18)))]⟩) (ob := True ∧ True ∧ True ∧ True ∧ (0 ≤ x5 ∧ x5 < (y15.length : Int)) ∧ True ∧ True ∧ (y18.length = y15.length ∧ SetOb y15.length 4 x5.toNat 3 1 (gl cs_RootKey y15) (gl cs_RootKey y18) ∧ ((List.range 1).map fun j => (cs_RootKey (RootKey.mk ((y15.getD x5.toNat default).At) (Vector.mk (((y15.getD x5.toNat default).Place).X) (((y15.getD x5.toNat default).Place).Y) (Fl.ofInt .f32 (IntKind.i64.wrap ((IntKind.i64.wrap ((IntKind.i64.wrap (x4 + (1 : Int))) + (1 : Int))) + (1 : Int))))))).getD (3 + j) .nilptr) = ((List.range 1).map fun j => gl cs_RootKey y18 x5.toNat (3 + j)) ∧ ((((.flt .f32 (Fl.ofInt .f32 (IntKind.i64.wrap ((IntKind.i64.wrap ((IntKind.i64.wrap (x4 + (1 : Int))) + (1 : Int))) + (1 : Int)))).bits) : C) = (.flt .f32 (Fl.ofInt .f32 (IntKind.i64.wrap ((IntKind.i64.wrap ((IntKind.i64.wrap (x4 + (1 : Int))) + (1 : Int))) + (1 : Int)))).bits) ∧ True) ∧ True) ∧ (true = true → ∀ j, j < 1 → isSeq (gl cs_RootKey y15 x5.toNat (3 + j)) = false ∧ isSeq (gl cs_RootKey y18 x5.toNat (3 + j)) = false)) ∧ True) (by kernel_rfl) ⟨trivial, trivial, trivial, trivial, c17, trivial, trivial, (letP (some_eq e19) (fun z => (z.length = y15.length ∧ SetOb y15.length 4 x5.toNat 3 1 (gl cs_RootKey y15) (gl cs_RootKey z) ∧ ((List.range 1).map fun j => (cs_RootKey (RootKey.mk ((y15.getD x5.toNat default).At) (Vector.mk (((y15.getD x5.toNat default).Place).X) (((y15.getD x5.toNat default).Place).Y) (Fl.ofInt .f32 (IntKind.i64.wrap ((IntKind.i64.wrap ((IntKind.i64.wrap (x4 + (1 : Int))) + (1 : Int))) + (1 : Int))))))).getD (3 + j) .nilptr) = ((List.range 1).map fun j => gl cs_RootKey z x5.toNat (3 + j)) ∧ ((((.flt .f32 (Fl.ofInt .f32 (IntKind.i64.wrap ((IntKind.i64.wrap ((IntKind.i64.wrap (x4 + (1 : Int))) + (1 : Int))) + (1 : Int)))).bits) : C) = (.flt .f32 (Fl.ofInt .f32 (IntKind.i64.wrap ((IntKind.i64.wrap ((IntKind.i64.wrap (x4 + (1 : Int))) + (1 : Int))) + (1 : Int)))).bits) ∧ True) ∧ True) ∧ (true = true → ∀ j, j < 1 → isSeq (gl cs_RootKey y15 x5.toNat (3 + j)) = false ∧ isSeq (gl cs_RootKey z x5.toNat (3 + j)) = false))) ⟨List.length_set, gl_setp (fun j hj hn => match j, hj, hn with | 0, _, _ => rfl | 1, _, _ => rfl | 2, _, _ => rfl | 3, _, hn => absurd ⟨by decide, by decide⟩ hn) (lt_of_bound c17), (gl_atp (lt_of_bound c17)).symm, ⟨⟨rfl, trivial⟩, trivial⟩, (fun _ j hj => match j, hj with | 0, _ => ⟨rfl, rfl⟩)⟩), trivial⟩ ?_
    refine thenQ_normal ?_
    refine AW.regionA [] [0, 1, 5] [0] (s' := ⟨[(0, (.v (.one (.arr 0)))), (1, (.v (.one (.c (.int .i64 (IntKind.i64.wrap ((IntKind.i64.wrap ((IntKind.i64.wrap ((IntKind.i64.wrap (x4 + (1 : Int))) + (1 : Int))) + (1 : Int))) + (1 : Int)))))))), (5, (.v (.one (.c (.int .i64 x5)))))], [(0, (.arr true y18.length 4 (gl cs_RootKey y18)))]⟩) (ob := True ∧ True ∧ True ∧ True) (by kernel_rfl) ⟨trivial, trivial, trivial, trivial⟩ ?_
    refine blockQ_normal ?_
    refine thenQ_normal ?_
    refine AW.regionA [] [0, 1, 5] [0] (s' := ⟨[(0, (.v (.one (.arr 0)))), (1, (.v (.one (.c (.int .i64 (IntKind.i64.wrap ((IntKind.i64.wrap ((IntKind.i64.wrap ((IntKind.i64.wrap (x4 + (1 : Int))) + (1 : Int))) + (1 : Int))) + (1 : Int)))))))), (5, (.v (.one (.c (.int .i64 (IntKind.i64.wrap (x5 + (1 : Int))))))))], [(0, (.arr true y18.length 4 (gl cs_RootKey y18)))]⟩) (ob := True ∧ True ∧ True ∧ True) (by kernel_rfl) ⟨trivial, trivial, trivial, trivial⟩ ?_
    exact loopQ_normal (k, (IntKind.i64.wrap ((IntKind.i64.wrap ((IntKind.i64.wrap ((IntKind.i64.wrap (x4 + (1 : Int))) + (1 : Int))) + (1 : Int))) + (1 : Int))), (IntKind.i64.wrap (x5 + (1 : Int))), y18) h (Nat.lt_succ_self k) (Sub.keep [0, 1, 5] [0] (by kernel_rfl) (by kernel_rfl))
  · refine AW.cond_f rfl b7 ?_
    refine AW.exit ?_
    refine thenQ_exit ?_
    refine loopQ_exit ?_
    refine blockQ_exit ?_
    refine thenQ_normal ?_
    refine AW.seq ?_
    refine AW.regionA [] [0, 1, 4] [0] (s' := ⟨[(0, (.v (.one (.arr 0)))), (1, (.v (.one (.c (.int .i64 x4))))), (4, (.v (.one (.c (.int .i64 x4)))))], [(0, (.arr true x6.length 4 (gl cs_RootKey x6)))]⟩) (ob := True ∧ True ∧ True) (by kernel_rfl) ⟨trivial, trivial, trivial⟩ ?_
    refine thenQ_normal ?_
    refine AW.ret ?_
    obtain ⟨c20, h⟩ := chk_some h
    replace h := some_eq h
    subst h
    exact ⟨.inr rfl, retOK_of [(.one (.c (.int .i64 x4)))] (by kernel_rfl) ⟨⟨rfl, trivial⟩, trivial⟩ (of_decide_eq_true (by kernel_rfl)), by kernel_rfl, ⟨⟨c20, rfl, rfl⟩, trivial, trivial⟩⟩

/-! laws.markClip -/
def laws_markClip (K : Nat) (a0 : Clip) (a1 : Int) : Option (Int × (List (List Key)) × (List RootKey)) :=
  (laws_markKeySS K a0.Tracks a1).bind fun v1 => chk (v1.2.length = a0.Tracks.length) ((laws_markRootKeyS K a0.Roots v1.1).bind fun v4 => chk (v4.2.length = a0.Roots.length) (chk (v1.2.length = a0.Tracks.length) (chk (v4.2.length = a0.Roots.length) (some (v4.1, v1.2, v4.2)))))

theorem ok_laws_markClip (K : Nat) (a0 : Clip) (a1 : Int) (o : (Int × (List (List Key)) × (List RootKey))) (h : laws_markClip K a0 a1 = some o) : MutOK Try.prog 16 [(.agg [(.ro (.int .i64 a0.Length)), (.ro (.int .i64 a0.Kind)), (.mu (sl 1 (csL 5 cs_Key) a0.Tracks) (sl 1 (csL 5 cs_Key) o.2.1)), (.mu (sl 4 cs_RootKey a0.Roots) (sl 4 cs_RootKey o.2.2))]), (.one (.ro (.int .i64 a1)))] [.one (.int .i64 o.1)] := by
  refine mutOK_of_AW 2 Try.func16 rfl (by kernel_rfl) (Nat.le_of_ble_eq_true (by kernel_rfl)) (by kernel_rfl) (by kernel_rfl) ?_
  intro w0 K0 v0 s0
  unfold laws_markClip at h
  refine AW.seq ?_
  refine AW.regionA [.box 2] [0, 1, 2] [0, 1, 2] (s' := ⟨[(0, (.v (.agg [(.c (.int .i64 a0.Length)), (.c (.int .i64 a0.Kind)), (.arr 0), (.arr 1)]))), (1, (.v (.one (.c (.int .i64 a1))))), (2, (.v (.one (.ptr 2 0))))], [(0, (.arr true a0.Tracks.length 1 (gl (csL 5 cs_Key) a0.Tracks))), (1, (.arr true a0.Roots.length 4 (gl cs_RootKey a0.Roots))), (2, (.box [(.c (.int .i64 a0.Length)), (.c (.int .i64 a0.Kind)), (.arr 0), (.arr 1)]))]⟩) (ob := True ∧ True ∧ True) (by kernel_rfl) ⟨trivial, trivial, trivial⟩ ?_
  refine thenQ_normal ?_
  refine AW.seq ?_
  obtain ⟨v1, e2, h⟩ := bind_some h
  obtain ⟨c3, h⟩ := chk_some h
  refine AW.regionA [.no, .no, .no, .callM [(.one (.mu (sl 1 (csL 5 cs_Key) a0.Tracks) (sl 1 (csL 5 cs_Key) v1.2))), .one (.ro (.int .i64 a1))] [.one (.int .i64 v1.1)] [[.view]] none] [0, 1, 2] [0, 1, 2] (s' := ⟨[(0, (.v (.agg [(.c (.int .i64 a0.Length)), (.c (.int .i64 a0.Kind)), (.arr 0), (.arr 1)]))), (1, (.v (.one (.c (.int .i64 v1.1))))), (2, (.v (.one (.ptr 2 0))))], [(0, (.arr true v1.2.length 1 (gl (csL 5 cs_Key) v1.2))), (1, (.arr true a0.Roots.length 4 (gl cs_RootKey a0.Roots))), (2, (.box [(.c (.int .i64 a0.Length)), (.c (.int .i64 a0.Kind)), (.arr 0), (.arr 1)]))]⟩) (ob := True ∧ True ∧ True ∧ (((((sl 1 (csL 5 cs_Key) a0.Tracks) : C) = (sl 1 (csL 5 cs_Key) a0.Tracks) ∧ v1.2.length = a0.Tracks.length ∧ 1 = 1 ∧ ∀ i j, i < a0.Tracks.length → j < 1 → isSeq (gl (csL 5 cs_Key) v1.2 i j) = isSeq (gl (csL 5 cs_Key) a0.Tracks i j)) ∧ (((.int .i64 a1) : C) = (.int .i64 a1)) ∧ True) ∧ MutOK Try.prog 70 [(.one (.mu (sl 1 (csL 5 cs_Key) a0.Tracks) (sl 1 (csL 5 cs_Key) v1.2))), .one (.ro (.int .i64 a1))] [.one (.int .i64 v1.1)]) ∧ True ∧ True) (by kernel_rfl) ⟨trivial, trivial, trivial, ⟨⟨⟨rfl, c3, rfl, gl_seq (sq_slice)⟩, rfl, trivial⟩, ok_laws_markKeySS K a0.Tracks a1 v1 e2⟩, trivial, trivial⟩ ?_
  refine thenQ_normal ?_
  refine AW.seq ?_
  obtain ⟨v4, e5, h⟩ := bind_some h
  obtain ⟨c6, h⟩ := chk_some h
  refine AW.regionA [.no, .no, .no, .callM [(.one (.mu (sl 4 cs_RootKey a0.Roots) (sl 4 cs_RootKey v4.2))), .one (.ro (.int .i64 v1.1))] [.one (.int .i64 v4.1)] [[.view]] none] [0, 1] [0, 1] (s' := ⟨[(0, (.v (.agg [(.c (.int .i64 a0.Length)), (.c (.int .i64 a0.Kind)), (.arr 0), (.arr 1)]))), (1, (.v (.one (.c (.int .i64 v4.1)))))], [(0, (.arr true v1.2.length 1 (gl (csL 5 cs_Key) v1.2))), (1, (.arr true v4.2.length 4 (gl cs_RootKey v4.2)))]⟩) (ob := True ∧ True ∧ True ∧ (((((sl 4 cs_RootKey a0.Roots) : C) = (sl 4 cs_RootKey a0.Roots) ∧ v4.2.length = a0.Roots.length ∧ 4 = 4 ∧ ∀ i j, i < a0.Roots.length → j < 4 → isSeq (gl cs_RootKey v4.2 i j) = isSeq (gl cs_RootKey a0.Roots i j)) ∧ (((.int .i64 v1.1) : C) = (.int .i64 v1.1)) ∧ True) ∧ MutOK Try.prog 71 [(.one (.mu (sl 4 cs_RootKey a0.Roots) (sl 4 cs_RootKey v4.2))), .one (.ro (.int .i64 v1.1))] [.one (.int .i64 v4.1)]) ∧ True ∧ True) (by kernel_rfl) ⟨trivial, trivial, trivial, ⟨⟨⟨rfl, c6, rfl, gl_seq sq_RootKey⟩, rfl, trivial⟩, ok_laws_markRootKeyS K a0.Roots v1.1 v4 e5⟩, trivial, trivial⟩ ?_
  refine thenQ_normal ?_
  refine AW.seq ?_
  refine AW.regionA [] [0, 1, 4] [0, 1] (s' := ⟨[(0, (.v (.agg [(.c (.int .i64 a0.Length)), (.c (.int .i64 a0.Kind)), (.arr 0), (.arr 1)]))), (1, (.v (.one (.c (.int .i64 v4.1))))), (4, (.v (.one (.c (.int .i64 v4.1)))))], [(0, (.arr true v1.2.length 1 (gl (csL 5 cs_Key) v1.2))), (1, (.arr true v4.2.length 4 (gl cs_RootKey v4.2)))]⟩) (ob := True ∧ True ∧ True) (by kernel_rfl) ⟨trivial, trivial, trivial⟩ ?_
  refine thenQ_normal ?_
  refine AW.ret ?_
  obtain ⟨c7, h⟩ := chk_some h
  obtain ⟨c8, h⟩ := chk_some h
  replace h := some_eq h
  subst h
  exact ⟨.inr rfl, retOK_of [(.one (.c (.int .i64 v4.1)))] (by kernel_rfl) ⟨⟨rfl, trivial⟩, trivial⟩ (of_decide_eq_true (by kernel_rfl)), by kernel_rfl, ⟨⟨trivial, trivial, ⟨c7, rfl, rfl⟩, ⟨c8, rfl, rfl⟩, trivial⟩, trivial, trivial⟩⟩

/-! laws.heldKeyS -/
def laws_heldKeyS_l1 (K : Nat) (a0 : (List Key)) : Nat → Int → Int → Option (Int)
  | 0, _, _ => none
  | k + 1, x3, x4 => ite2 ((decide (x4 < (a0.length : Int)))) (chk (0 ≤ x4 ∧ x4 < (a0.length : Int)) (ite2 ((((a0.getD x4.toNat default).At) != x3)) (some ((-1) : Int)) (ite2 (((((a0.getD x4.toNat default).Turn).W).ne (Fl.ofInt .f32 (IntKind.i64.wrap (x3 + (1 : Int)))))) (some ((-1) : Int)) (ite2 (((((a0.getD x4.toNat default).Turn).X).ne (Fl.ofInt .f32 (IntKind.i64.wrap ((IntKind.i64.wrap (x3 + (1 : Int))) + (1 : Int)))))) (some ((-1) : Int)) (ite2 (((((a0.getD x4.toNat default).Turn).Y).ne (Fl.ofInt .f32 (IntKind.i64.wrap ((IntKind.i64.wrap ((IntKind.i64.wrap (x3 + (1 : Int))) + (1 : Int))) + (1 : Int)))))) (some ((-1) : Int)) (ite2 (((((a0.getD x4.toNat default).Turn).Z).ne (Fl.ofInt .f32 (IntKind.i64.wrap ((IntKind.i64.wrap ((IntKind.i64.wrap ((IntKind.i64.wrap (x3 + (1 : Int))) + (1 : Int))) + (1 : Int))) + (1 : Int)))))) (some ((-1) : Int)) (laws_heldKeyS_l1 K a0 k (IntKind.i64.wrap ((IntKind.i64.wrap ((IntKind.i64.wrap ((IntKind.i64.wrap ((IntKind.i64.wrap (x3 + (1 : Int))) + (1 : Int))) + (1 : Int))) + (1 : Int))) + (1 : Int))) (IntKind.i64.wrap (x4 + (1 : Int)))))))))) (some x3)

def laws_heldKeyS (K : Nat) (a0 : (List Key)) (a1 : Int) : Option (Int) :=
  laws_heldKeyS_l1 K a0 K a1 (0 : Int)

theorem ok_laws_heldKeyS (K : Nat) (a0 : (List Key)) (a1 : Int) (o : (Int)) (h : laws_heldKeyS K a0 a1 = some o) : CallOK Try.prog 145 [.one (sl 5 cs_Key a0), .one (.int .i64 a1)] [.one (.int .i64 o)] := by
  refine callOK_of_AW Try.func145 rfl (by kernel_rfl) (Nat.le_of_ble_eq_true (by kernel_rfl)) ?_
  intro w0
  unfold laws_heldKeyS at h
  refine AW.seq ?_
  refine AW.regionA [] [0, 1] [] (s' := ⟨[(0, (.v (.one (.c (sl 5 cs_Key a0))))), (1, (.v (.one (.c (.int .i64 a1)))))], []⟩) (ob := True ∧ True) (by kernel_rfl) ⟨trivial, trivial⟩ ?_
  refine thenQ_normal ?_
  refine AW.seq ?_
  refine AW.seq ?_
  refine AW.regionA [] [0, 1, 5] [] (s' := ⟨[(0, (.v (.one (.c (sl 5 cs_Key a0))))), (1, (.v (.one (.c (.int .i64 a1))))), (5, (.v (.one (.c (.int .i64 (0 : Int))))))], []⟩) (ob := True ∧ True) (by kernel_rfl) ⟨trivial, trivial⟩ ?_
  refine thenQ_normal ?_
  refine AW.block ?_
  refine AW.loopQ (σ := Nat × Int × Int) (fun p => ⟨[(0, (.v (.one (.c (sl 5 cs_Key a0))))), (1, (.v (.one (.c (.int .i64 p.2.1))))), (5, (.v (.one (.c (.int .i64 p.2.2)))))], []⟩) (fun p => laws_heldKeyS_l1 K a0 p.1 p.2.1 p.2.2 = some o) (fun p => p.1) (K, a1, (0 : Int)) h ?_
  clear h
  rintro ⟨k, x3, x4⟩ h
  replace h : laws_heldKeyS_l1 K a0 k x3 x4 = some o := h
  show AW _ _ (⟨[(0, (.v (.one (.c (sl 5 cs_Key a0))))), (1, (.v (.one (.c (.int .i64 x3))))), (5, (.v (.one (.c (.int .i64 x4)))))], []⟩ : St) _
  obtain _ | k := k
  · rw [laws_heldKeyS_l1] at h; cases h
  rw [laws_heldKeyS_l1] at h
  refine AW.seq ?_
  refine AW.seq ?_
  refine AW.regionA [] [0, 1, 5, 9] [] (s' := ⟨[(0, (.v (.one (.c (sl 5 cs_Key a0))))), (1, (.v (.one (.c (.int .i64 x3))))), (5, (.v (.one (.c (.int .i64 x4))))), (9, (.v (.one (.c (.bool (decide (x4 < (a0.length : Int))))))))], []⟩) (ob := True ∧ True ∧ True ∧ True ∧ True) (by kernel_rfl) ⟨trivial, trivial, trivial, trivial, trivial⟩ ?_
  refine thenQ_normal ?_
  rcases ite2_cases h with ⟨b5, h⟩ | ⟨b5, h⟩
  · refine AW.cond_t rfl b5 ?_
    refine AW.skip ?_
    refine thenQ_normal ?_
    refine AW.seq ?_
    refine AW.block ?_
    refine AW.seq ?_
    refine AW.seq ?_
    obtain ⟨c6, h⟩ := chk_some h
    refine AW.regionA [] [0, 1, 5, 18] [] (s' := ⟨[(0, (.v (.one (.c (sl 5 cs_Key a0))))), (1, (.v (.one (.c (.int .i64 x3))))), (5, (.v (.one (.c (.int .i64 x4))))), (18, (.v (.one (.c (.bool (((a0.getD x4.toNat default).At) != x3))))))], []⟩) (ob := True ∧ True ∧ (0 ≤ x4 ∧ x4 < (a0.length : Int)) ∧ True ∧ True ∧ True ∧ True ∧ True) (by kernel_rfl) ⟨trivial, trivial, c6, trivial, trivial, trivial, trivial, trivial⟩ ?_
    refine thenQ_normal ?_
    rcases ite2_cases h with ⟨b7, h⟩ | ⟨b7, h⟩
    · refine AW.cond_t rfl b7 ?_
      refine AW.seq ?_
      refine AW.regionA [] [4] [] (s' := ⟨[(4, (.v (.one (.c (.int .i64 ((-1) : Int))))))], []⟩) (ob := True ∧ True) (by kernel_rfl) ⟨trivial, trivial⟩ ?_
      refine thenQ_normal ?_
      refine AW.ret ?_
      refine thenQ_ret ?_
      refine blockQ_ret ?_
      refine thenQ_ret ?_
      refine loopQ_ret ?_
      refine blockQ_ret ?_
      refine thenQ_ret ?_
      replace h := some_eq h
      subst h
      exact ⟨.inr rfl, retOK_of [(.one (.c (.int .i64 ((-1) : Int))))] (by kernel_rfl) ⟨⟨rfl, trivial⟩, trivial⟩ (of_decide_eq_true (by kernel_rfl))⟩
    · refine AW.cond_f rfl b7 ?_
      refine AW.skip ?_
      refine thenQ_normal ?_
      refine AW.seq ?_
      refine AW.regionA [] [0, 1, 5] [] (s' := ⟨[(0, (.v (.one (.c (sl 5 cs_Key a0))))), (1, (.v (.one (.c (.int .i64 (IntKind.i64.wrap (x3 + (1 : Int)))))))), (5, (.v (.one (.c (.int .i64 x4)))))], []⟩) (ob := True ∧ True ∧ True ∧ True) (by kernel_rfl) ⟨trivial, trivial, trivial, trivial⟩ ?_
      refine thenQ_normal ?_
      refine AW.seq ?_
      refine AW.seq ?_
      refine AW.regionA [] [0, 1, 5, 29] [] (s' := ⟨[(0, (.v (.one (.c (sl 5 cs_Key a0))))), (1, (.v (.one (.c (.int .i64 (IntKind.i64.wrap (x3 + (1 : Int)))))))), (5, (.v (.one (.c (.int .i64 x4))))), (29, (.v (.one (.c (.bool ((((a0.getD x4.toNat default).Turn).W).ne (Fl.ofInt .f32 (IntKind.i64.wrap (x3 + (1 : Int))))))))))], []⟩) (ob := True ∧ True ∧ (0 ≤ x4 ∧ x4 < (a0.length : Int)) ∧ True ∧ True ∧ True ∧ True ∧ True ∧ True ∧ True) (by kernel_rfl) ⟨trivial, trivial, c6, trivial, trivial, trivial, trivial, trivial, trivial, trivial⟩ ?_
      refine thenQ_normal ?_
      rcases ite2_cases h with ⟨b8, h⟩ | ⟨b8, h⟩
      · refine AW.cond_t rfl b8 ?_
        refine AW.seq ?_
        refine AW.regionA [] [4] [] (s' := ⟨[(4, (.v (.one (.c (.int .i64 ((-1) : Int))))))], []⟩) (ob := True ∧ True) (by kernel_rfl) ⟨trivial, trivial⟩ ?_
        refine thenQ_normal ?_
        refine AW.ret ?_
        refine thenQ_ret ?_
        refine blockQ_ret ?_
        refine thenQ_ret ?_
        refine loopQ_ret ?_
        refine blockQ_ret ?_
        refine thenQ_ret ?_
        replace h := some_eq h
        subst h
        exact ⟨.inr rfl, retOK_of [(.one (.c (.int .i64 ((-1) : Int))))] (by kernel_rfl) ⟨⟨rfl, trivial⟩, trivial⟩ (of_decide_eq_true (by kernel_rfl))⟩
      · refine AW.cond_f rfl b8 ?_
        refine AW.skip ?_
        refine thenQ_normal ?_
        refine AW.seq ?_
        refine AW.regionA [] [0, 1, 5] [] (s' := ⟨[(0, (.v (.one (.c (sl 5 cs_Key a0))))), (1, (.v (.one (.c (.int .i64 (IntKind.i64.wrap ((IntKind.i64.wrap (x3 + (1 : Int))) + (1 : Int)))))))), (5, (.v (.one (.c (.int .i64 x4)))))], []⟩) (ob := True ∧ True ∧ True ∧ True) (by kernel_rfl) ⟨trivial, trivial, trivial, trivial⟩ ?_
        refine thenQ_normal ?_
        refine AW.seq ?_
        refine AW.seq ?_
        refine AW.regionA [] [0, 1, 5, 40] [] (s' := ⟨[(0, (.v (.one (.c (sl 5 cs_Key a0))))), (1, (.v (.one (.c (.int .i64 (IntKind.i64.wrap ((IntKind.i64.wrap (x3 + (1 : Int))) + (1 : Int)))))))), (5, (.v (.one (.c (.int .i64 x4))))), (40, (.v (.one (.c (.bool ((((a0.getD x4.toNat default).Turn).X).ne (Fl.ofInt .f32 (IntKind.i64.wrap ((IntKind.i64.wrap (x3 + (1 : Int))) + (1 : Int))))))))))], []⟩) (ob := True ∧ True ∧ (0 ≤ x4 ∧ x4 < (a0.length : Int)) ∧ True ∧ True ∧ True ∧ True ∧ True ∧ True ∧ True) (by kernel_rfl) ⟨trivial, trivial, c6, trivial, trivial, trivial, trivial, trivial, trivial, trivial⟩ ?_
        refine thenQ_normal ?_
        rcases ite2_cases h with ⟨b9, h⟩ | ⟨b9, h⟩
        · refine AW.cond_t rfl b9 ?_
          refine AW.seq ?_
          refine AW.regionA [] [4] [] (s' := ⟨[(4, (.v (.one (.c (.int .i64 ((-1) : Int))))))], []⟩) (ob := True ∧ True) (by kernel_rfl) ⟨trivial, trivial⟩ ?_
          refine thenQ_normal ?_
          refine AW.ret ?_
          refine thenQ_ret ?_
          refine blockQ_ret ?_
          refine thenQ_ret ?_
          refine loopQ_ret ?_
          refine blockQ_ret ?_
          refine thenQ_ret ?_
          replace h := some_eq h
          subst h
          exact ⟨.inr rfl, retOK_of [(.one (.c (.int .i64 ((-1) : Int))))] (by kernel_rfl) ⟨⟨rfl, trivial⟩, trivial⟩ (of_decide_eq_true (by kernel_rfl))⟩
        · refine AW.cond_f rfl b9 ?_
          refine AW.skip ?_
          refine thenQ_normal ?_
          refine AW.seq ?_
          refine AW.regionA [] [0, 1, 5] [] (s' := ⟨[(0, (.v (.one (.c (sl 5 cs_Key a0))))), (1, (.v (.one (.c (.int .i64 (IntKind.i64.wrap ((IntKind.i64.wrap ((IntKind.i64.wrap (x3 + (1 : Int))) + (1 : Int))) + (1 : Int)))))))), (5, (.v (.one (.c (.int .i64 x4)))))], []⟩) (ob := True ∧ True ∧ True ∧ True) (by kernel_rfl) ⟨trivial, trivial, trivial, trivial⟩ ?_
          refine thenQ_normal ?_
          refine AW.seq ?_
          refine AW.seq ?_
          refine AW.regionA [] [0, 1, 5, 51] [] (s' := ⟨[(0, (.v (.one (.c (sl 5 cs_Key a0))))), (1, (.v (.one (.c (.int .i64 (IntKind.i64.wrap ((IntKind.i64.wrap ((IntKind.i64.wrap (x3 + (1 : Int))) + (1 : Int))) + (1 : Int)))))))), (5, (.v (.one (.c (.int .i64 x4))))), (51, (.v (.one (.c (.bool ((((a0.getD x4.toNat default).Turn).Y).ne (Fl.ofInt .f32 (IntKind.i64.wrap ((IntKind.i64.wrap ((IntKind.i64.wrap (x3 + (1 : Int))) + (1 : Int))) + (1 : Int))))))))))], []⟩) (ob := True ∧ True ∧ (0 ≤ x4 ∧ x4 < (a0.length : Int)) ∧ True ∧ True ∧ True ∧ True ∧ True ∧ True ∧ True) (by kernel_rfl) ⟨trivial, trivial, c6, trivial, trivial, trivial, trivial, trivial, trivial, trivial⟩ ?_
          refine thenQ_normal ?_
          rcases ite2_cases h with ⟨b10, h⟩ | ⟨b10, h⟩
          · refine AW.cond_t rfl b10 ?_
            refine AW.seq ?_
            refine AW.regionA [] [4] [] (s' := ⟨[(4, (.v (.one (.c (.int .i64 ((-1) : Int))))))], []⟩) (ob := True ∧ True) (by kernel_rfl) ⟨trivial, trivial⟩ ?_
            refine thenQ_normal ?_
            refine AW.ret ?_
            refine thenQ_ret ?_
            refine blockQ_ret ?_
            refine thenQ_ret ?_
            refine loopQ_ret ?_
            refine blockQ_ret ?_
            refine thenQ_ret ?_
            replace h := some_eq h
            subst h
            exact ⟨.inr rfl, retOK_of [(.one (.c (.int .i64 ((-1) : Int))))] (by kernel_rfl) ⟨⟨rfl, trivial⟩, trivial⟩ (of_decide_eq_true (by kernel_rfl))⟩
          · refine AW.cond_f rfl b10 ?_
            refine AW.skip ?_
            refine thenQ_normal ?_
            refine AW.seq ?_
            refine AW.regionA [] [0, 1, 5] [] (s' := ⟨[(0, (.v (.one (.c (sl 5 cs_Key a0))))), (1, (.v (.one (.c (.int .i64 (IntKind.i64.wrap ((IntKind.i64.wrap ((IntKind.i64.wrap ((IntKind.i64.wrap (x3 + (1 : Int))) + (1 : Int))) + (1 : Int))) + (1 : Int)))))))), (5, (.v (.one (.c (.int .i64 x4)))))], []⟩) (ob := True ∧ True ∧ True ∧ True) (by kernel_rfl) ⟨trivial, trivial, trivial, trivial⟩ ?_
            refine thenQ_normal ?_
            refine AW.seq ?_
            refine AW.seq ?_
            refine AW.regionA [] [0, 1, 5, 62] [] (s' := ⟨[(0, (.v (.one (.c (sl 5 cs_Key a0))))), (1, (.v (.one (.c (.int .i64 (IntKind.i64.wrap ((IntKind.i64.wrap ((IntKind.i64.wrap ((IntKind.i64.wrap (x3 + (1 : Int))) + (1 : Int))) + (1 : Int))) + (1 : Int)))))))), (5, (.v (.one (.c (.int .i64 x4))))), (62, (.v (.one (.c (.bool ((((a0.getD x4.toNat default).Turn).Z).ne (Fl.ofInt .f32 (IntKind.i64.wrap ((IntKind.i64.wrap ((IntKind.i64.wrap ((IntKind.i64.wrap (x3 + (1 : Int))) + (1 : Int))) + (1 : Int))) + (1 : Int))))))))))], []⟩) (ob := True ∧ True ∧ (0 ≤ x4 ∧ x4 < (a0.length : Int)) ∧ True ∧ True ∧ True ∧ True ∧ True ∧ True ∧ True) (by kernel_rfl) ⟨trivial, trivial, c6, trivial, trivial, trivial, trivial, trivial, trivial, trivial⟩ ?_
            refine thenQ_normal ?_
            rcases ite2_cases h with ⟨b11, h⟩ | ⟨b11, h⟩
            · refine AW.cond_t rfl b11 ?_
              refine AW.seq ?_
              refine AW.regionA [] [4] [] (s' := ⟨[(4, (.v (.one (.c (.int .i64 ((-1) : Int))))))], []⟩) (ob := True ∧ True) (by kernel_rfl) ⟨trivial, trivial⟩ ?_
              refine thenQ_normal ?_
              refine AW.ret ?_
              refine thenQ_ret ?_
              refine blockQ_ret ?_
              refine thenQ_ret ?_
              refine loopQ_ret ?_
              refine blockQ_ret ?_
              refine thenQ_ret ?_
              replace h := some_eq h
              subst h
              exact ⟨.inr rfl, retOK_of [(.one (.c (.int .i64 ((-1) : Int))))] (by kernel_rfl) ⟨⟨rfl, trivial⟩, trivial⟩ (of_decide_eq_true (by kernel_rfl))⟩
            · refine AW.cond_f rfl b11 ?_
              refine AW.skip ?_
              refine thenQ_normal ?_
              refine AW.regionA [] [0, 1, 5] [] (s' := ⟨[(0, (.v (.one (.c (sl 5 cs_Key a0))))), (1, (.v (.one (.c (.int .i64 (IntKind.i64.wrap ((IntKind.i64.wrap ((IntKind.i64.wrap ((IntKind.i64.wrap ((IntKind.i64.wrap (x3 + (1 : Int))) + (1 : Int))) + (1 : Int))) + (1 : Int))) + (1 : Int)))))))), (5, (.v (.one (.c (.int .i64 x4)))))], []⟩) (ob := True ∧ True ∧ True ∧ True) (by kernel_rfl) ⟨trivial, trivial, trivial, trivial⟩ ?_
              refine blockQ_normal ?_
              refine thenQ_normal ?_
              refine AW.regionA [] [0, 1, 5] [] (s' := ⟨[(0, (.v (.one (.c (sl 5 cs_Key a0))))), (1, (.v (.one (.c (.int .i64 (IntKind.i64.wrap ((IntKind.i64.wrap ((IntKind.i64.wrap ((IntKind.i64.wrap ((IntKind.i64.wrap (x3 + (1 : Int))) + (1 : Int))) + (1 : Int))) + (1 : Int))) + (1 : Int)))))))), (5, (.v (.one (.c (.int .i64 (IntKind.i64.wrap (x4 + (1 : Int))))))))], []⟩) (ob := True ∧ True ∧ True ∧ True) (by kernel_rfl) ⟨trivial, trivial, trivial, trivial⟩ ?_
              exact loopQ_normal (k, (IntKind.i64.wrap ((IntKind.i64.wrap ((IntKind.i64.wrap ((IntKind.i64.wrap ((IntKind.i64.wrap (x3 + (1 : Int))) + (1 : Int))) + (1 : Int))) + (1 : Int))) + (1 : Int))), (IntKind.i64.wrap (x4 + (1 : Int)))) h (Nat.lt_succ_self k) (Sub.keep [0, 1, 5] [] (by kernel_rfl) (by kernel_rfl))
  · refine AW.cond_f rfl b5 ?_
    refine AW.exit ?_
    refine thenQ_exit ?_
    refine loopQ_exit ?_
    refine blockQ_exit ?_
    refine thenQ_normal ?_
    refine AW.seq ?_
    refine AW.regionA [] [4] [] (s' := ⟨[(4, (.v (.one (.c (.int .i64 x3)))))], []⟩) (ob := True ∧ True ∧ True) (by kernel_rfl) ⟨trivial, trivial, trivial⟩ ?_
    refine thenQ_normal ?_
    refine AW.ret ?_
    replace h := some_eq h
    subst h
    exact ⟨.inr rfl, retOK_of [(.one (.c (.int .i64 x3)))] (by kernel_rfl) ⟨⟨rfl, trivial⟩, trivial⟩ (of_decide_eq_true (by kernel_rfl))⟩

/-! laws.heldKeySS -/
def laws_heldKeySS_l1 (K : Nat) (a0 : (List (List Key))) : Nat → Int → Int → Option (Int)
  | 0, _, _ => none
  | k + 1, x3, x4 => ite2 ((decide (x4 < (a0.length : Int)))) (chk (0 ≤ x4 ∧ x4 < (a0.length : Int)) ((laws_heldKeyS K (a0.getD x4.toNat default) x3).bind fun v7 => ite2 ((decide (v7 < (0 : Int)))) (some ((-1) : Int)) (laws_heldKeySS_l1 K a0 k v7 (IntKind.i64.wrap (x4 + (1 : Int)))))) (some x3)

def laws_heldKeySS (K : Nat) (a0 : (List (List Key))) (a1 : Int) : Option (Int) :=
  laws_heldKeySS_l1 K a0 K a1 (0 : Int)

theorem ok_laws_heldKeySS (K : Nat) (a0 : (List (List Key))) (a1 : Int) (o : (Int)) (h : laws_heldKeySS K a0 a1 = some o) : CallOK Try.prog 72 [.one (sl 1 (csL 5 cs_Key) a0), .one (.int .i64 a1)] [.one (.int .i64 o)] := by
  refine callOK_of_AW Try.func72 rfl (by kernel_rfl) (Nat.le_of_ble_eq_true (by kernel_rfl)) ?_
  intro w0
  unfold laws_heldKeySS at h
  refine AW.seq ?_
  refine AW.regionA [] [0, 1] [] (s' := ⟨[(0, (.v (.one (.c (sl 1 (csL 5 cs_Key) a0))))), (1, (.v (.one (.c (.int .i64 a1)))))], []⟩) (ob := True ∧ True) (by kernel_rfl) ⟨trivial, trivial⟩ ?_
  refine thenQ_normal ?_
  refine AW.seq ?_
  refine AW.seq ?_
  refine AW.regionA [] [0, 1, 5] [] (s' := ⟨[(0, (.v (.one (.c (sl 1 (csL 5 cs_Key) a0))))), (1, (.v (.one (.c (.int .i64 a1))))), (5, (.v (.one (.c (.int .i64 (0 : Int))))))], []⟩) (ob := True ∧ True) (by kernel_rfl) ⟨trivial, trivial⟩ ?_
  refine thenQ_normal ?_
  refine AW.block ?_
  refine AW.loopQ (σ := Nat × Int × Int) (fun p => ⟨[(0, (.v (.one (.c (sl 1 (csL 5 cs_Key) a0))))), (1, (.v (.one (.c (.int .i64 p.2.1))))), (5, (.v (.one (.c (.int .i64 p.2.2)))))], []⟩) (fun p => laws_heldKeySS_l1 K a0 p.1 p.2.1 p.2.2 = some o) (fun p => p.1) (K, a1, (0 : Int)) h ?_
  clear h
  rintro ⟨k, x3, x4⟩ h
  replace h : laws_heldKeySS_l1 K a0 k x3 x4 = some o := h
  show AW _ _ (⟨[(0, (.v (.one (.c (sl 1 (csL 5 cs_Key) a0))))), (1, (.v (.one (.c (.int .i64 x3))))), (5, (.v (.one (.c (.int .i64 x4)))))], []⟩ : St) _
  obtain _ | k := k
  · rw [laws_heldKeySS_l1] at h; cases h
  rw [laws_heldKeySS_l1] at h
  refine AW.seq ?_
  refine AW.seq ?_
  refine AW.regionA [] [0, 1, 5, 9] [] (s' := ⟨[(0, (.v (.one (.c (sl 1 (csL 5 cs_Key) a0))))), (1, (.v (.one (.c (.int .i64 x3))))), (5, (.v (.one (.c (.int .i64 x4))))), (9, (.v (.one (.c (.bool (decide (x4 < (a0.length : Int))))))))], []⟩) (ob := True ∧ True ∧ True ∧ True ∧ True) (by kernel_rfl) ⟨trivial, trivial, trivial, trivial, trivial⟩ ?_
  refine thenQ_normal ?_
  rcases ite2_cases h with ⟨b5, h⟩ | ⟨b5, h⟩
  · refine AW.cond_t rfl b5 ?_
    refine AW.skip ?_
    refine thenQ_normal ?_
    refine AW.seq ?_
    refine AW.block ?_
    refine AW.seq ?_
    obtain ⟨c6, h⟩ := chk_some h
    obtain ⟨v7, e8, h⟩ := bind_some h
    refine AW.regionA [.no, .no, .no, .no, .no, .call [.one (sl 5 cs_Key (a0.getD x4.toNat default)), .one (.int .i64 x3)] [.one (.int .i64 v7)] [[.view]]] [0, 1, 5] [] (s' := ⟨[(0, (.v (.one (.c (sl 1 (csL 5 cs_Key) a0))))), (1, (.v (.one (.c (.int .i64 v7))))), (5, (.v (.one (.c (.int .i64 x4)))))], []⟩) (ob := True ∧ True ∧ (0 ≤ x4 ∧ x4 < (a0.length : Int)) ∧ True ∧ True ∧ (((((sl 5 cs_Key (a0.getD x4.toNat default)) : C) = (sl 5 cs_Key (a0.getD x4.toNat default))) ∧ (((.int .i64 x3) : C) = (.int .i64 x3)) ∧ True) ∧ CallOK Try.prog 145 [.one (sl 5 cs_Key (a0.getD x4.toNat default)), .one (.int .i64 x3)] [.one (.int .i64 v7)]) ∧ True ∧ True) (by kernel_rfl) ⟨trivial, trivial, c6, trivial, trivial, ⟨⟨rfl, rfl, trivial⟩, ok_laws_heldKeyS K (a0.getD x4.toNat default) x3 v7 e8⟩, trivial, trivial⟩ ?_
    refine thenQ_normal ?_
    refine AW.seq ?_
    refine AW.regionA [] [0, 1, 5, 19] [] (s' := ⟨[(0, (.v (.one (.c (sl 1 (csL 5 cs_Key) a0))))), (1, (.v (.one (.c (.int .i64 v7))))), (5, (.v (.one (.c (.int .i64 x4))))), (19, (.v (.one (.c (.bool (decide (v7 < (0 : Int))))))))], []⟩) (ob := True ∧ True ∧ True) (by kernel_rfl) ⟨trivial, trivial, trivial⟩ ?_
    refine thenQ_normal ?_
    rcases ite2_cases h with ⟨b9, h⟩ | ⟨b9, h⟩
    · refine AW.cond_t rfl b9 ?_
      refine AW.seq ?_
      refine AW.regionA [] [4] [] (s' := ⟨[(4, (.v (.one (.c (.int .i64 ((-1) : Int))))))], []⟩) (ob := True ∧ True) (by kernel_rfl) ⟨trivial, trivial⟩ ?_
      refine thenQ_normal ?_
      refine AW.ret ?_
      refine blockQ_ret ?_
      refine thenQ_ret ?_
      refine loopQ_ret ?_
      refine blockQ_ret ?_
      refine thenQ_ret ?_
      replace h := some_eq h
      subst h
      exact ⟨.inr rfl, retOK_of [(.one (.c (.int .i64 ((-1) : Int))))] (by kernel_rfl) ⟨⟨rfl, trivial⟩, trivial⟩ (of_decide_eq_true (by kernel_rfl))⟩
    · refine AW.cond_f rfl b9 ?_
      refine AW.skip ?_
      refine blockQ_normal ?_
      refine thenQ_normal ?_
      refine AW.regionA [] [0, 1, 5] [] (s' := ⟨[(0, (.v (.one (.c (sl 1 (csL 5 cs_Key) a0))))), (1, (.v (.one (.c (.int .i64 v7))))), (5, (.v (.one (.c (.int .i64 (IntKind.i64.wrap (x4 + (1 : Int))))))))], []⟩) (ob := True ∧ True ∧ True ∧ True) (by kernel_rfl) ⟨trivial, trivial, trivial, trivial⟩ ?_
      exact loopQ_normal (k, v7, (IntKind.i64.wrap (x4 + (1 : Int)))) h (Nat.lt_succ_self k) (Sub.keep [0, 1, 5] [] (by kernel_rfl) (by kernel_rfl))
  · refine AW.cond_f rfl b5 ?_
    refine AW.exit ?_
    refine thenQ_exit ?_
    refine loopQ_exit ?_
    refine blockQ_exit ?_
    refine thenQ_normal ?_
    refine AW.seq ?_
    refine AW.regionA [] [4] [] (s' := ⟨[(4, (.v (.one (.c (.int .i64 x3)))))], []⟩) (ob := True ∧ True ∧ True) (by kernel_rfl) ⟨trivial, trivial, trivial⟩ ?_
    refine thenQ_normal ?_
    refine AW.ret ?_
    replace h := some_eq h
    subst h
    exact ⟨.inr rfl, retOK_of [(.one (.c (.int .i64 x3)))] (by kernel_rfl) ⟨⟨rfl, trivial⟩, trivial⟩ (of_decide_eq_true (by kernel_rfl))⟩

/-! laws.heldRootKeyS -/
def laws_heldRootKeyS_l1 (K : Nat) (a0 : (List RootKey)) : Nat → Int → Int → Option (Int)
  | 0, _, _ => none
  | k + 1, x3, x4 => ite2 ((decide (x4 < (a0.length : Int)))) (chk (0 ≤ x4 ∧ x4 < (a0.length : Int)) (ite2 ((((a0.getD x4.toNat default).At) != x3)) (some ((-1) : Int)) (ite2 (((((a0.getD x4.toNat default).Place).X).ne (Fl.ofInt .f32 (IntKind.i64.wrap (x3 + (1 : Int)))))) (some ((-1) : Int)) (ite2 (((((a0.getD x4.toNat default).Place).Y).ne (Fl.ofInt .f32 (IntKind.i64.wrap ((IntKind.i64.wrap (x3 + (1 : Int))) + (1 : Int)))))) (some ((-1) : Int)) (ite2 (((((a0.getD x4.toNat default).Place).Z).ne (Fl.ofInt .f32 (IntKind.i64.wrap ((IntKind.i64.wrap ((IntKind.i64.wrap (x3 + (1 : Int))) + (1 : Int))) + (1 : Int)))))) (some ((-1) : Int)) (laws_heldRootKeyS_l1 K a0 k (IntKind.i64.wrap ((IntKind.i64.wrap ((IntKind.i64.wrap ((IntKind.i64.wrap (x3 + (1 : Int))) + (1 : Int))) + (1 : Int))) + (1 : Int))) (IntKind.i64.wrap (x4 + (1 : Int))))))))) (some x3)

def laws_heldRootKeyS (K : Nat) (a0 : (List RootKey)) (a1 : Int) : Option (Int) :=
  laws_heldRootKeyS_l1 K a0 K a1 (0 : Int)

theorem ok_laws_heldRootKeyS (K : Nat) (a0 : (List RootKey)) (a1 : Int) (o : (Int)) (h : laws_heldRootKeyS K a0 a1 = some o) : CallOK Try.prog 73 [.one (sl 4 cs_RootKey a0), .one (.int .i64 a1)] [.one (.int .i64 o)] := by
  refine callOK_of_AW Try.func73 rfl (by kernel_rfl) (Nat.le_of_ble_eq_true (by kernel_rfl)) ?_
  intro w0
  unfold laws_heldRootKeyS at h
  refine AW.seq ?_
  refine AW.regionA [] [0, 1] [] (s' := ⟨[(0, (.v (.one (.c (sl 4 cs_RootKey a0))))), (1, (.v (.one (.c (.int .i64 a1)))))], []⟩) (ob := True ∧ True) (by kernel_rfl) ⟨trivial, trivial⟩ ?_
  refine thenQ_normal ?_
  refine AW.seq ?_
  refine AW.seq ?_
  refine AW.regionA [] [0, 1, 5] [] (s' := ⟨[(0, (.v (.one (.c (sl 4 cs_RootKey a0))))), (1, (.v (.one (.c (.int .i64 a1))))), (5, (.v (.one (.c (.int .i64 (0 : Int))))))], []⟩) (ob := True ∧ True) (by kernel_rfl) ⟨trivial, trivial⟩ ?_
  refine thenQ_normal ?_
  refine AW.block ?_
  refine AW.loopQ (σ := Nat × Int × Int) (fun p => ⟨[(0, (.v (.one (.c (sl 4 cs_RootKey a0))))), (1, (.v (.one (.c (.int .i64 p.2.1))))), (5, (.v (.one (.c (.int .i64 p.2.2)))))], []⟩) (fun p => laws_heldRootKeyS_l1 K a0 p.1 p.2.1 p.2.2 = some o) (fun p => p.1) (K, a1, (0 : Int)) h ?_
  clear h
  rintro ⟨k, x3, x4⟩ h
  replace h : laws_heldRootKeyS_l1 K a0 k x3 x4 = some o := h
  show AW _ _ (⟨[(0, (.v (.one (.c (sl 4 cs_RootKey a0))))), (1, (.v (.one (.c (.int .i64 x3))))), (5, (.v (.one (.c (.int .i64 x4)))))], []⟩ : St) _
  obtain _ | k := k
  · rw [laws_heldRootKeyS_l1] at h; cases h
  rw [laws_heldRootKeyS_l1] at h
  refine AW.seq ?_
  refine AW.seq ?_
  refine AW.regionA [] [0, 1, 5, 9] [] (s' := ⟨[(0, (.v (.one (.c (sl 4 cs_RootKey a0))))), (1, (.v (.one (.c (.int .i64 x3))))), (5, (.v (.one (.c (.int .i64 x4))))), (9, (.v (.one (.c (.bool (decide (x4 < (a0.length : Int))))))))], []⟩) (ob := True ∧ True ∧ True ∧ True ∧ True) (by kernel_rfl) ⟨trivial, trivial, trivial, trivial, trivial⟩ ?_
  refine thenQ_normal ?_
  rcases ite2_cases h with ⟨b5, h⟩ | ⟨b5, h⟩
  · refine AW.cond_t rfl b5 ?_
    refine AW.skip ?_
    refine thenQ_normal ?_
    refine AW.seq ?_
    refine AW.block ?_
    refine AW.seq ?_
    refine AW.seq ?_
    obtain ⟨c6, h⟩ := chk_some h
    refine AW.regionA [] [0, 1, 5, 18] [] (s' := ⟨[(0, (.v (.one (.c (sl 4 cs_RootKey a0))))), (1, (.v (.one (.c (.int .i64 x3))))), (5, (.v (.one (.c (.int .i64 x4))))), (18, (.v (.one (.c (.bool (((a0.getD x4.toNat default).At) != x3))))))], []⟩) (ob := True ∧ True ∧ (0 ≤ x4 ∧ x4 < (a0.length : Int)) ∧ True ∧ True ∧ True ∧ True ∧ True) (by kernel_rfl) ⟨trivial, trivial, c6, trivial, trivial, trivial, trivial, trivial⟩ ?_
    refine thenQ_normal ?_
    rcases ite2_cases h with ⟨b7, h⟩ | ⟨b7, h⟩
    · refine AW.cond_t rfl b7 ?_
      refine AW.seq ?_
      refine AW.regionA [] [4] [] (s' := ⟨[(4, (.v (.one (.c (.int .i64 ((-1) : Int))))))], []⟩) (ob := True ∧ True) (by kernel_rfl) ⟨trivial, trivial⟩ ?_
      refine thenQ_normal ?_
      refine AW.ret ?_
      refine thenQ_ret ?_
      refine blockQ_ret ?_
      refine thenQ_ret ?_
      refine loopQ_ret ?_
      refine blockQ_ret ?_
      refine thenQ_ret ?_
      replace h := some_eq h
      subst h
      exact ⟨.inr rfl, retOK_of [(.one (.c (.int .i64 ((-1) : Int))))] (by kernel_rfl) ⟨⟨rfl, trivial⟩, trivial⟩ (of_decide_eq_true (by kernel_rfl))⟩
    · refine AW.cond_f rfl b7 ?_
      refine AW.skip ?_
      refine thenQ_normal ?_
      refine AW.seq ?_
      refine AW.regionA [] [0, 1, 5] [] (s' := ⟨[(0, (.v (.one (.c (sl 4 cs_RootKey a0))))), (1, (.v (.one (.c (.int .i64 (IntKind.i64.wrap (x3 + (1 : Int)))))))), (5, (.v (.one (.c (.int .i64 x4)))))], []⟩) (ob := True ∧ True ∧ True ∧ True) (by kernel_rfl) ⟨trivial, trivial, trivial, trivial⟩ ?_
      refine thenQ_normal ?_
      refine AW.seq ?_
      refine AW.seq ?_
      refine AW.regionA [] [0, 1, 5, 29] [] (s' := ⟨[(0, (.v (.one (.c (sl 4 cs_RootKey a0))))), (1, (.v (.one (.c (.int .i64 (IntKind.i64.wrap (x3 + (1 : Int)))))))), (5, (.v (.one (.c (.int .i64 x4))))), (29, (.v (.one (.c (.bool ((((a0.getD x4.toNat default).Place).X).ne (Fl.ofInt .f32 (IntKind.i64.wrap (x3 + (1 : Int))))))))))], []⟩) (ob := True ∧ True ∧ (0 ≤ x4 ∧ x4 < (a0.length : Int)) ∧ True ∧ True ∧ True ∧ True ∧ True ∧ True ∧ True) (by kernel_rfl) ⟨trivial, trivial, c6, trivial, trivial, trivial, trivial, trivial, trivial, trivial⟩ ?_
      refine thenQ_normal ?_
      rcases ite2_cases h with ⟨b8, h⟩ | ⟨b8, h⟩
      · refine AW.cond_t rfl b8 ?_
        refine AW.seq ?_
        refine AW.regionA [] [4] [] (s' := ⟨[(4, (.v (.one (.c (.int .i64 ((-1) : Int))))))], []⟩) (ob := True ∧ True) (by kernel_rfl) ⟨trivial, trivial⟩ ?_
        refine thenQ_normal ?_
        refine AW.ret ?_
        refine thenQ_ret ?_
        refine blockQ_ret ?_
        refine thenQ_ret ?_
        refine loopQ_ret ?_
        refine blockQ_ret ?_
        refine thenQ_ret ?_
        replace h := some_eq h
        subst h
        exact ⟨.inr rfl, retOK_of [(.one (.c (.int .i64 ((-1) : Int))))] (by kernel_rfl) ⟨⟨rfl, trivial⟩, trivial⟩ (of_decide_eq_true (by kernel_rfl))⟩
      · refine AW.cond_f rfl b8 ?_
        refine AW.skip ?_
        refine thenQ_normal ?_
        refine AW.seq ?_
        refine AW.regionA [] [0, 1, 5] [] (s' := ⟨[(0, (.v (.one (.c (sl 4 cs_RootKey a0))))), (1, (.v (.one (.c (.int .i64 (IntKind.i64.wrap ((IntKind.i64.wrap (x3 + (1 : Int))) + (1 : Int)))))))), (5, (.v (.one (.c (.int .i64 x4)))))], []⟩) (ob := True ∧ True ∧ True ∧ True) (by kernel_rfl) ⟨trivial, trivial, trivial, trivial⟩ ?_
        refine thenQ_normal ?_
        refine AW.seq ?_
        refine AW.seq ?_
        refine AW.regionA [] [0, 1, 5, 40] [] (s' := ⟨[(0, (.v (.one (.c (sl 4 cs_RootKey a0))))), (1, (.v (.one (.c (.int .i64 (IntKind.i64.wrap ((IntKind.i64.wrap (x3 + (1 : Int))) + (1 : Int)))))))), (5, (.v (.one (.c (.int .i64 x4))))), (40, (.v (.one (.c (.bool ((((a0.getD x4.toNat default).Place).Y).ne (Fl.ofInt .f32 (IntKind.i64.wrap ((IntKind.i64.wrap (x3 + (1 : Int))) + (1 : Int))))))))))], []⟩) (ob := True ∧ True ∧ (0 ≤ x4 ∧ x4 < (a0.length : Int)) ∧ True ∧ True ∧ True ∧ True ∧ True ∧ True ∧ True) (by kernel_rfl) ⟨trivial, trivial, c6, trivial, trivial, trivial, trivial, trivial, trivial, trivial⟩ ?_
        refine thenQ_normal ?_
        rcases ite2_cases h with ⟨b9, h⟩ | ⟨b9, h⟩
        · refine AW.cond_t rfl b9 ?_
          refine AW.seq ?_
          refine AW.regionA [] [4] [] (s' := ⟨[(4, (.v (.one (.c (.int .i64 ((-1) : Int))))))], []⟩) (ob := True ∧ True) (by kernel_rfl) ⟨trivial, trivial⟩ ?_
          refine thenQ_normal ?_
          refine AW.ret ?_
          refine thenQ_ret ?_
          refine blockQ_ret ?_
          refine thenQ_ret ?_
          refine loopQ_ret ?_
          refine blockQ_ret ?_
          refine thenQ_ret ?_
          replace h := some_eq h
          subst h
          exact ⟨.inr rfl, retOK_of [(.one (.c (.int .i64 ((-1) : Int))))] (by kernel_rfl) ⟨⟨rfl, trivial⟩, trivial⟩ (of_decide_eq_true (by kernel_rfl))⟩
        · refine AW.cond_f rfl b9 ?_
          refine AW.skip ?_
          refine thenQ_normal ?_
          refine AW.seq ?_
          refine AW.regionA [] [0, 1, 5] [] (s' := ⟨[(0, (.v (.one (.c (sl 4 cs_RootKey a0))))), (1, (.v (.one (.c (.int .i64 (IntKind.i64.wrap ((IntKind.i64.wrap ((IntKind.i64.wrap (x3 + (1 : Int))) + (1 : Int))) + (1 : Int)))))))), (5, (.v (.one (.c (.int .i64 x4)))))], []⟩) (ob := True ∧ True ∧ True ∧ True) (by kernel_rfl) ⟨trivial, trivial, trivial, trivial⟩ ?_
          refine thenQ_normal ?_
          refine AW.seq ?_
          refine AW.seq ?_
          refine AW.regionA [] [0, 1, 5, 51] [] (s' := ⟨[(0, (.v (.one (.c (sl 4 cs_RootKey a0))))), (1, (.v (.one (.c (.int .i64 (IntKind.i64.wrap ((IntKind.i64.wrap ((IntKind.i64.wrap (x3 + (1 : Int))) + (1 : Int))) + (1 : Int)))))))), (5, (.v (.one (.c (.int .i64 x4))))), (51, (.v (.one (.c (.bool ((((a0.getD x4.toNat default).Place).Z).ne (Fl.ofInt .f32 (IntKind.i64.wrap ((IntKind.i64.wrap ((IntKind.i64.wrap (x3 + (1 : Int))) + (1 : Int))) + (1 : Int))))))))))], []⟩) (ob := True ∧ True ∧ (0 ≤ x4 ∧ x4 < (a0.length : Int)) ∧ True ∧ True ∧ True ∧ True ∧ True ∧ True ∧ True) (by kernel_rfl) ⟨trivial, trivial, c6, trivial, trivial, trivial, trivial, trivial, trivial, trivial⟩ ?_
          refine thenQ_normal ?_
          rcases ite2_cases h with ⟨b10, h⟩ | ⟨b10, h⟩
          · refine AW.cond_t rfl b10 ?_
            refine AW.seq ?_
            refine AW.regionA [] [4] [] (s' := ⟨[(4, (.v (.one (.c (.int .i64 ((-1) : Int))))))], []⟩) (ob := True ∧ True) (by kernel_rfl) ⟨trivial, trivial⟩ ?_
            refine thenQ_normal ?_
            refine AW.ret ?_
            refine thenQ_ret ?_
            refine blockQ_ret ?_
            refine thenQ_ret ?_
            refine loopQ_ret ?_
            refine blockQ_ret ?_
            refine thenQ_ret ?_
            replace h := some_eq h
            subst h
            exact ⟨.inr rfl, retOK_of [(.one (.c (.int .i64 ((-1) : Int))))] (by kernel_rfl) ⟨⟨rfl, trivial⟩, trivial⟩ (of_decide_eq_true (by kernel_rfl))⟩
          · refine AW.cond_f rfl b10 ?_
            refine AW.skip ?_
            refine thenQ_normal ?_
            refine AW.regionA [] [0, 1, 5] [] (s' := ⟨[(0, (.v (.one (.c (sl 4 cs_RootKey a0))))), (1, (.v (.one (.c (.int .i64 (IntKind.i64.wrap ((IntKind.i64.wrap ((IntKind.i64.wrap ((IntKind.i64.wrap (x3 + (1 : Int))) + (1 : Int))) + (1 : Int))) + (1 : Int)))))))), (5, (.v (.one (.c (.int .i64 x4)))))], []⟩) (ob := True ∧ True ∧ True ∧ True) (by kernel_rfl) ⟨trivial, trivial, trivial, trivial⟩ ?_
            refine blockQ_normal ?_
            refine thenQ_normal ?_
            refine AW.regionA [] [0, 1, 5] [] (s' := ⟨[(0, (.v (.one (.c (sl 4 cs_RootKey a0))))), (1, (.v (.one (.c (.int .i64 (IntKind.i64.wrap ((IntKind.i64.wrap ((IntKind.i64.wrap ((IntKind.i64.wrap (x3 + (1 : Int))) + (1 : Int))) + (1 : Int))) + (1 : Int)))))))), (5, (.v (.one (.c (.int .i64 (IntKind.i64.wrap (x4 + (1 : Int))))))))], []⟩) (ob := True ∧ True ∧ True ∧ True) (by kernel_rfl) ⟨trivial, trivial, trivial, trivial⟩ ?_
            exact loopQ_normal (k, (IntKind.i64.wrap ((IntKind.i64.wrap ((IntKind.i64.wrap ((IntKind.i64.wrap (x3 + (1 : Int))) + (1 : Int))) + (1 : Int))) + (1 : Int))), (IntKind.i64.wrap (x4 + (1 : Int)))) h (Nat.lt_succ_self k) (Sub.keep [0, 1, 5] [] (by kernel_rfl) (by kernel_rfl))
  · refine AW.cond_f rfl b5 ?_
    refine AW.exit ?_
    refine thenQ_exit ?_
    refine loopQ_exit ?_
    refine blockQ_exit ?_
    refine thenQ_normal ?_
    refine AW.seq ?_
    refine AW.regionA [] [4] [] (s' := ⟨[(4, (.v (.one (.c (.int .i64 x3)))))], []⟩) (ob := True ∧ True ∧ True) (by kernel_rfl) ⟨trivial, trivial, trivial⟩ ?_
    refine thenQ_normal ?_
    refine AW.ret ?_
    replace h := some_eq h
    subst h
    exact ⟨.inr rfl, retOK_of [(.one (.c (.int .i64 x3)))] (by kernel_rfl) ⟨⟨rfl, trivial⟩, trivial⟩ (of_decide_eq_true (by kernel_rfl))⟩

/-! laws.heldClip -/
def laws_heldClip (K : Nat) (a0 : Clip) (a1 : Int) : Option (Int) :=
  (laws_heldKeySS K a0.Tracks a1).bind fun v1 => ite2 ((decide (v1 < (0 : Int)))) (some ((-1) : Int)) ((laws_heldRootKeyS K a0.Roots v1).bind fun v4 => ite2 ((decide (v4 < (0 : Int)))) (some ((-1) : Int)) (some v4))

theorem ok_laws_heldClip (K : Nat) (a0 : Clip) (a1 : Int) (o : (Int)) (h : laws_heldClip K a0 a1 = some o) : CallOK Try.prog 17 [.agg (cs_Clip a0), .one (.int .i64 a1)] [.one (.int .i64 o)] := by
  refine callOK_of_AW Try.func17 rfl (by kernel_rfl) (Nat.le_of_ble_eq_true (by kernel_rfl)) ?_
  intro w0
  unfold laws_heldClip at h
  refine AW.seq ?_
  refine AW.regionA [.box 1] [1, 2] [1] (s' := ⟨[(1, (.v (.one (.c (.int .i64 a1))))), (2, (.v (.one (.ptr 1 0))))], [(1, (.box [(.c (.int .i64 a0.Length)), (.c (.int .i64 a0.Kind)), (.c (sl 1 (csL 5 cs_Key) a0.Tracks)), (.c (sl 4 cs_RootKey a0.Roots))]))]⟩) (ob := True ∧ True ∧ True) (by kernel_rfl) ⟨trivial, trivial, trivial⟩ ?_
  refine thenQ_normal ?_
  refine AW.seq ?_
  obtain ⟨v1, e2, h⟩ := bind_some h
  refine AW.regionA [.no, .no, .no, .call [.one (sl 1 (csL 5 cs_Key) a0.Tracks), .one (.int .i64 a1)] [.one (.int .i64 v1)] [[.view]]] [1, 2] [1] (s' := ⟨[(1, (.v (.one (.c (.int .i64 v1))))), (2, (.v (.one (.ptr 1 0))))], [(1, (.box [(.c (.int .i64 a0.Length)), (.c (.int .i64 a0.Kind)), (.c (sl 1 (csL 5 cs_Key) a0.Tracks)), (.c (sl 4 cs_RootKey a0.Roots))]))]⟩) (ob := True ∧ True ∧ True ∧ (((((sl 1 (csL 5 cs_Key) a0.Tracks) : C) = (sl 1 (csL 5 cs_Key) a0.Tracks)) ∧ (((.int .i64 a1) : C) = (.int .i64 a1)) ∧ True) ∧ CallOK Try.prog 72 [.one (sl 1 (csL 5 cs_Key) a0.Tracks), .one (.int .i64 a1)] [.one (.int .i64 v1)]) ∧ True ∧ True) (by kernel_rfl) ⟨trivial, trivial, trivial, ⟨⟨rfl, rfl, trivial⟩, ok_laws_heldKeySS K a0.Tracks a1 v1 e2⟩, trivial, trivial⟩ ?_
  refine thenQ_normal ?_
  refine AW.seq ?_
  refine AW.seq ?_
  refine AW.regionA [] [1, 2, 10] [1] (s' := ⟨[(1, (.v (.one (.c (.int .i64 v1))))), (2, (.v (.one (.ptr 1 0)))), (10, (.v (.one (.c (.bool (decide (v1 < (0 : Int))))))))], [(1, (.box [(.c (.int .i64 a0.Length)), (.c (.int .i64 a0.Kind)), (.c (sl 1 (csL 5 cs_Key) a0.Tracks)), (.c (sl 4 cs_RootKey a0.Roots))]))]⟩) (ob := True ∧ True ∧ True) (by kernel_rfl) ⟨trivial, trivial, trivial⟩ ?_
  refine thenQ_normal ?_
  rcases ite2_cases h with ⟨b3, h⟩ | ⟨b3, h⟩
  · refine AW.cond_t rfl b3 ?_
    refine AW.seq ?_
    refine AW.regionA [] [4] [] (s' := ⟨[(4, (.v (.one (.c (.int .i64 ((-1) : Int))))))], []⟩) (ob := True ∧ True) (by kernel_rfl) ⟨trivial, trivial⟩ ?_
    refine thenQ_normal ?_
    refine AW.ret ?_
    refine thenQ_ret ?_
    replace h := some_eq h
    subst h
    exact ⟨.inr rfl, retOK_of [(.one (.c (.int .i64 ((-1) : Int))))] (by kernel_rfl) ⟨⟨rfl, trivial⟩, trivial⟩ (of_decide_eq_true (by kernel_rfl))⟩
  · refine AW.cond_f rfl b3 ?_
    refine AW.skip ?_
    refine thenQ_normal ?_
    refine AW.seq ?_
    obtain ⟨v4, e5, h⟩ := bind_some h
    refine AW.regionA [.no, .no, .no, .call [.one (sl 4 cs_RootKey a0.Roots), .one (.int .i64 v1)] [.one (.int .i64 v4)] [[.view]]] [1] [] (s' := ⟨[(1, (.v (.one (.c (.int .i64 v4)))))], []⟩) (ob := True ∧ True ∧ True ∧ (((((sl 4 cs_RootKey a0.Roots) : C) = (sl 4 cs_RootKey a0.Roots)) ∧ (((.int .i64 v1) : C) = (.int .i64 v1)) ∧ True) ∧ CallOK Try.prog 73 [.one (sl 4 cs_RootKey a0.Roots), .one (.int .i64 v1)] [.one (.int .i64 v4)]) ∧ True ∧ True) (by kernel_rfl) ⟨trivial, trivial, trivial, ⟨⟨rfl, rfl, trivial⟩, ok_laws_heldRootKeyS K a0.Roots v1 v4 e5⟩, trivial, trivial⟩ ?_
    refine thenQ_normal ?_
    refine AW.seq ?_
    refine AW.seq ?_
    refine AW.regionA [] [1, 16] [] (s' := ⟨[(1, (.v (.one (.c (.int .i64 v4))))), (16, (.v (.one (.c (.bool (decide (v4 < (0 : Int))))))))], []⟩) (ob := True ∧ True ∧ True) (by kernel_rfl) ⟨trivial, trivial, trivial⟩ ?_
    refine thenQ_normal ?_
    rcases ite2_cases h with ⟨b6, h⟩ | ⟨b6, h⟩
    · refine AW.cond_t rfl b6 ?_
      refine AW.seq ?_
      refine AW.regionA [] [4] [] (s' := ⟨[(4, (.v (.one (.c (.int .i64 ((-1) : Int))))))], []⟩) (ob := True ∧ True) (by kernel_rfl) ⟨trivial, trivial⟩ ?_
      refine thenQ_normal ?_
      refine AW.ret ?_
      refine thenQ_ret ?_
      replace h := some_eq h
      subst h
      exact ⟨.inr rfl, retOK_of [(.one (.c (.int .i64 ((-1) : Int))))] (by kernel_rfl) ⟨⟨rfl, trivial⟩, trivial⟩ (of_decide_eq_true (by kernel_rfl))⟩
    · refine AW.cond_f rfl b6 ?_
      refine AW.skip ?_
      refine thenQ_normal ?_
      refine AW.seq ?_
      refine AW.regionA [] [4] [] (s' := ⟨[(4, (.v (.one (.c (.int .i64 v4)))))], []⟩) (ob := True ∧ True ∧ True) (by kernel_rfl) ⟨trivial, trivial, trivial⟩ ?_
      refine thenQ_normal ?_
      refine AW.ret ?_
      replace h := some_eq h
      subst h
      exact ⟨.inr rfl, retOK_of [(.one (.c (.int .i64 v4)))] (by kernel_rfl) ⟨⟨rfl, trivial⟩, trivial⟩ (of_decide_eq_true (by kernel_rfl))⟩

end
end Go.Fw
