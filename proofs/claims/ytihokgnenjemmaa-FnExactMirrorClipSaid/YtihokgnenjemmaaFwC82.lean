/- Functions of the program: what each computes, and that it computes just that. -/
import Derived.Test.YtihokgnenjemmaaFwTy
import Derived.Test.YtihokgnenjemmaaFwH
import Derived.Test.YtihokgnenjemmaaFwV
import Derived.Test.YtihokgnenjemmaaFwC81
import Derived.Test.YtihokgnenjemmaaFwUB
import Derived.Test.YtihokgnenjemmaaProg
import Derived.KernelRfl
namespace Go.Fw
open Go Go.Proofs
noncomputable section
set_option maxRecDepth 10000

/-! (impl.track[impl.Key]).valid -/
def impl_track_impl_Key_valid_l1 (K : Nat) (a1 : (List Key)) (a2 : Int) : Nat → Int → Int → Option (Bool)
  | 0, _, _ => none
  | k + 1, x3, x4 => ite2 ((decide (x4 < (a1.length : Int)))) (chk (0 ≤ x4 ∧ x4 < (a1.length : Int)) ((impl_turnTrack_1 K (a1.getD x4.toNat default)).bind fun v7 => (ite2 ((decide (v7 ≤ x3))) (some true) (some (decide (v7 > a2)))).bind fun j10 => ite2 (j10) (some false) ((impl_turnTrack_1 K (a1.getD x4.toNat default)).bind fun v13 => impl_track_impl_Key_valid_l1 K a1 a2 k v13 (IntKind.i64.wrap (x4 + (1 : Int)))))) ((ite2 ((decide ((a1.length : Int) ≥ (1 : Int)))) (some (decide ((a1.length : Int) ≤ (12 : Int)))) (some false)).bind fun j16 => some j16)

def impl_track_impl_Key_valid (K : Nat) (a1 : (List Key)) (a2 : Int) : Option (Bool) :=
  impl_track_impl_Key_valid_l1 K a1 a2 K ((-1) : Int) (0 : Int)

theorem ok_impl_track_impl_Key_valid (K : Nat) (a1 : (List Key)) (a2 : Int) (o : (Bool)) (h : impl_track_impl_Key_valid K a1 a2 = some o) : CallOK Try.prog 139 [.agg [(.fn 146 0 fun _ => .nilptr), (.fn 147 0 fun _ => .nilptr), (.fn 148 0 fun _ => .nilptr)], .one (sl 5 cs_Key a1), .one (.int .i64 a2)] [.one (.bool o)] := by
  refine callOK_of_AW Try.func139 rfl (by kernel_rfl) (Nat.le_of_ble_eq_true (by kernel_rfl)) ?_
  intro w0
  unfold impl_track_impl_Key_valid at h
  refine AW.seq ?_
  refine AW.regionA [.box 1] [1, 2, 3] [1] (s' := ⟨[(1, (.v (.one (.c (sl 5 cs_Key a1))))), (2, (.v (.one (.c (.int .i64 a2))))), (3, (.v (.one (.ptr 1 0))))], [(1, (.box [(.c (.fn 146 0 fun _ => .nilptr)), (.c (.fn 147 0 fun _ => .nilptr)), (.c (.fn 148 0 fun _ => .nilptr))]))]⟩) (ob := True ∧ True ∧ True) (by kernel_rfl) ⟨trivial, trivial, trivial⟩ ?_
  refine thenQ_normal ?_
  refine AW.seq ?_
  refine AW.regionA [] [1, 2, 3, 7] [1] (s' := ⟨[(1, (.v (.one (.c (sl 5 cs_Key a1))))), (2, (.v (.one (.c (.int .i64 a2))))), (3, (.v (.one (.ptr 1 0)))), (7, (.v (.one (.c (.int .i64 ((-1) : Int))))))], [(1, (.box [(.c (.fn 146 0 fun _ => .nilptr)), (.c (.fn 147 0 fun _ => .nilptr)), (.c (.fn 148 0 fun _ => .nilptr))]))]⟩) (ob := True ∧ True) (by kernel_rfl) ⟨trivial, trivial⟩ ?_
  refine thenQ_normal ?_
  refine AW.seq ?_
  refine AW.seq ?_
  refine AW.regionA [] [1, 2, 3, 7, 11, 12, 13] [1] (s' := ⟨[(1, (.v (.one (.c (sl 5 cs_Key a1))))), (2, (.v (.one (.c (.int .i64 a2))))), (3, (.v (.one (.ptr 1 0)))), (7, (.v (.one (.c (.int .i64 ((-1) : Int)))))), (11, (.v (.one (.c (sl 5 cs_Key a1))))), (12, (.v (.one (.c (.int .i64 (a1.length : Int)))))), (13, (.v (.one (.c (.int .i64 (0 : Int))))))], [(1, (.box [(.c (.fn 146 0 fun _ => .nilptr)), (.c (.fn 147 0 fun _ => .nilptr)), (.c (.fn 148 0 fun _ => .nilptr))]))]⟩) (ob := True ∧ True ∧ True ∧ True) (by kernel_rfl) ⟨trivial, trivial, trivial, trivial⟩ ?_
  refine thenQ_normal ?_
  refine AW.block ?_
  refine AW.loopQ (σ := Nat × Int × Int) (fun p => ⟨[(1, (.v (.one (.c (sl 5 cs_Key a1))))), (2, (.v (.one (.c (.int .i64 a2))))), (3, (.v (.one (.ptr 1 0)))), (7, (.v (.one (.c (.int .i64 p.2.1))))), (11, (.v (.one (.c (sl 5 cs_Key a1))))), (12, (.v (.one (.c (.int .i64 (a1.length : Int)))))), (13, (.v (.one (.c (.int .i64 p.2.2)))))], [(1, (.box [(.c (.fn 146 0 fun _ => .nilptr)), (.c (.fn 147 0 fun _ => .nilptr)), (.c (.fn 148 0 fun _ => .nilptr))]))]⟩) (fun p => impl_track_impl_Key_valid_l1 K a1 a2 p.1 p.2.1 p.2.2 = some o) (fun p => p.1) (K, ((-1) : Int), (0 : Int)) h ?_
  clear h
  rintro ⟨k, x3, x4⟩ h
  replace h : impl_track_impl_Key_valid_l1 K a1 a2 k x3 x4 = some o := h
  show AW _ _ (⟨[(1, (.v (.one (.c (sl 5 cs_Key a1))))), (2, (.v (.one (.c (.int .i64 a2))))), (3, (.v (.one (.ptr 1 0)))), (7, (.v (.one (.c (.int .i64 x3))))), (11, (.v (.one (.c (sl 5 cs_Key a1))))), (12, (.v (.one (.c (.int .i64 (a1.length : Int)))))), (13, (.v (.one (.c (.int .i64 x4)))))], [(1, (.box [(.c (.fn 146 0 fun _ => .nilptr)), (.c (.fn 147 0 fun _ => .nilptr)), (.c (.fn 148 0 fun _ => .nilptr))]))]⟩ : St) _
  obtain _ | k := k
  · rw [impl_track_impl_Key_valid_l1] at h; cases h
  rw [impl_track_impl_Key_valid_l1] at h
  refine AW.seq ?_
  refine AW.regionA [] [1, 2, 3, 7, 11, 12, 13, 14] [1] (s' := ⟨[(1, (.v (.one (.c (sl 5 cs_Key a1))))), (2, (.v (.one (.c (.int .i64 a2))))), (3, (.v (.one (.ptr 1 0)))), (7, (.v (.one (.c (.int .i64 x3))))), (11, (.v (.one (.c (sl 5 cs_Key a1))))), (12, (.v (.one (.c (.int .i64 (a1.length : Int)))))), (13, (.v (.one (.c (.int .i64 x4))))), (14, (.v (.one (.c (.bool (decide (x4 < (a1.length : Int))))))))], [(1, (.box [(.c (.fn 146 0 fun _ => .nilptr)), (.c (.fn 147 0 fun _ => .nilptr)), (.c (.fn 148 0 fun _ => .nilptr))]))]⟩) (ob := True ∧ True) (by kernel_rfl) ⟨trivial, trivial⟩ ?_
  refine thenQ_normal ?_
  refine AW.seq ?_
  rcases ite2_cases h with ⟨b5, h⟩ | ⟨b5, h⟩
  · refine AW.cond_t rfl b5 ?_
    refine AW.skip ?_
    refine thenQ_normal ?_
    refine AW.seq ?_
    refine AW.block ?_
    refine AW.seq ?_
    obtain ⟨c6, h⟩ := chk_some h
    refine AW.regionA [.no, .no, .box 4] [1, 2, 3, 7, 9, 11, 12, 13] [1, 4] (s' := ⟨[(1, (.v (.one (.c (sl 5 cs_Key a1))))), (2, (.v (.one (.c (.int .i64 a2))))), (3, (.v (.one (.ptr 1 0)))), (7, (.v (.one (.c (.int .i64 x3))))), (9, (.v (.one (.ptr 4 0)))), (11, (.v (.one (.c (sl 5 cs_Key a1))))), (12, (.v (.one (.c (.int .i64 (a1.length : Int)))))), (13, (.v (.one (.c (.int .i64 x4)))))], [(1, (.box [(.c (.fn 146 0 fun _ => .nilptr)), (.c (.fn 147 0 fun _ => .nilptr)), (.c (.fn 148 0 fun _ => .nilptr))])), (4, (.box [(.c (.int .i64 ((a1.getD x4.toNat default).At))), (.c (.flt .f32 (((a1.getD x4.toNat default).Turn).W).bits)), (.c (.flt .f32 (((a1.getD x4.toNat default).Turn).X).bits)), (.c (.flt .f32 (((a1.getD x4.toNat default).Turn).Y).bits)), (.c (.flt .f32 (((a1.getD x4.toNat default).Turn).Z).bits))]))]⟩) (ob := (0 ≤ x4 ∧ x4 < (a1.length : Int)) ∧ True ∧ True ∧ True ∧ True) (by kernel_rfl) ⟨c6, trivial, trivial, trivial, trivial⟩ ?_
    refine thenQ_normal ?_
    refine AW.seq ?_
    refine AW.seq ?_
    obtain ⟨v7, e8, h⟩ := bind_some h
    refine AW.regionA [.no, .no, .no, .call [.agg (cs_Key (a1.getD x4.toNat default))] [.one (.int .i64 v7)] [[.view]]] [1, 2, 3, 7, 9, 10, 11, 12, 13] [1, 4] (s' := ⟨[(1, (.v (.one (.c (sl 5 cs_Key a1))))), (2, (.v (.one (.c (.int .i64 a2))))), (3, (.v (.one (.ptr 1 0)))), (7, (.v (.one (.c (.int .i64 x3))))), (9, (.v (.one (.ptr 4 0)))), (10, (.v (.one (.c (.int .i64 v7))))), (11, (.v (.one (.c (sl 5 cs_Key a1))))), (12, (.v (.one (.c (.int .i64 (a1.length : Int)))))), (13, (.v (.one (.c (.int .i64 x4)))))], [(1, (.box [(.c (.fn 146 0 fun _ => .nilptr)), (.c (.fn 147 0 fun _ => .nilptr)), (.c (.fn 148 0 fun _ => .nilptr))])), (4, (.box [(.c (.int .i64 ((a1.getD x4.toNat default).At))), (.c (.flt .f32 (((a1.getD x4.toNat default).Turn).W).bits)), (.c (.flt .f32 (((a1.getD x4.toNat default).Turn).X).bits)), (.c (.flt .f32 (((a1.getD x4.toNat default).Turn).Y).bits)), (.c (.flt .f32 (((a1.getD x4.toNat default).Turn).Z).bits))]))]⟩) (ob := True ∧ True ∧ True ∧ ((((((.int .i64 ((a1.getD x4.toNat default).At)) : C) = (.int .i64 ((a1.getD x4.toNat default).At))) ∧ (((.flt .f32 (((a1.getD x4.toNat default).Turn).W).bits) : C) = (.flt .f32 (((a1.getD x4.toNat default).Turn).W).bits)) ∧ (((.flt .f32 (((a1.getD x4.toNat default).Turn).X).bits) : C) = (.flt .f32 (((a1.getD x4.toNat default).Turn).X).bits)) ∧ (((.flt .f32 (((a1.getD x4.toNat default).Turn).Y).bits) : C) = (.flt .f32 (((a1.getD x4.toNat default).Turn).Y).bits)) ∧ (((.flt .f32 (((a1.getD x4.toNat default).Turn).Z).bits) : C) = (.flt .f32 (((a1.getD x4.toNat default).Turn).Z).bits)) ∧ True) ∧ True) ∧ CallOK Try.prog 146 [.agg (cs_Key (a1.getD x4.toNat default))] [.one (.int .i64 v7)]) ∧ True ∧ True) (by kernel_rfl) ⟨trivial, trivial, trivial, ⟨⟨⟨rfl, rfl, rfl, rfl, rfl, trivial⟩, trivial⟩, ok_impl_turnTrack_1 K (a1.getD x4.toNat default) v7 e8⟩, trivial, trivial⟩ ?_
    refine thenQ_normal ?_
    refine AW.seq ?_
    obtain ⟨j10, e11, h⟩ := bind_some h
    refine AW.join1 (s2 := ⟨[(1, (.v (.one (.c (sl 5 cs_Key a1))))), (2, (.v (.one (.c (.int .i64 a2))))), (3, (.v (.one (.ptr 1 0)))), (9, (.v (.one (.ptr 4 0)))), (11, (.v (.one (.c (sl 5 cs_Key a1))))), (12, (.v (.one (.c (.int .i64 (a1.length : Int)))))), (13, (.v (.one (.c (.int .i64 x4))))), (28, (.v (.one (.c (.bool j10)))))], [(1, (.box [(.c (.fn 146 0 fun _ => .nilptr)), (.c (.fn 147 0 fun _ => .nilptr)), (.c (.fn 148 0 fun _ => .nilptr))])), (4, (.box [(.c (.int .i64 ((a1.getD x4.toNat default).At))), (.c (.flt .f32 (((a1.getD x4.toNat default).Turn).W).bits)), (.c (.flt .f32 (((a1.getD x4.toNat default).Turn).X).bits)), (.c (.flt .f32 (((a1.getD x4.toNat default).Turn).Y).bits)), (.c (.flt .f32 (((a1.getD x4.toNat default).Turn).Z).bits))]))]⟩) ?_ ?_
    · rcases ite2_cases e11 with ⟨b9, e11⟩ | ⟨b9, e11⟩
      · replace e11 := some_eq e11
        subst e11
        exact AW.regionA [.no, .no, .no, .dec true] [1, 2, 3, 9, 11, 12, 13, 28] [1, 4] (s' := ⟨[(1, (.v (.one (.c (sl 5 cs_Key a1))))), (2, (.v (.one (.c (.int .i64 a2))))), (3, (.v (.one (.ptr 1 0)))), (9, (.v (.one (.ptr 4 0)))), (11, (.v (.one (.c (sl 5 cs_Key a1))))), (12, (.v (.one (.c (.int .i64 (a1.length : Int)))))), (13, (.v (.one (.c (.int .i64 x4))))), (28, (.v (.one (.c (.bool true)))))], [(1, (.box [(.c (.fn 146 0 fun _ => .nilptr)), (.c (.fn 147 0 fun _ => .nilptr)), (.c (.fn 148 0 fun _ => .nilptr))])), (4, (.box [(.c (.int .i64 ((a1.getD x4.toNat default).At))), (.c (.flt .f32 (((a1.getD x4.toNat default).Turn).W).bits)), (.c (.flt .f32 (((a1.getD x4.toNat default).Turn).X).bits)), (.c (.flt .f32 (((a1.getD x4.toNat default).Turn).Y).bits)), (.c (.flt .f32 (((a1.getD x4.toNat default).Turn).Z).bits))]))]⟩) (ob := True ∧ True ∧ True ∧ (True ∧ (decide (v7 ≤ x3)) = true) ∧ True ∧ True ∧ True ∧ True ∧ True) (by kernel_rfl) ⟨trivial, trivial, trivial, ⟨trivial, b9⟩, trivial, trivial, trivial, trivial, trivial⟩ ⟨rfl, rfl⟩
      · replace e11 := some_eq e11
        subst e11
        exact AW.regionA [.no, .no, .no, .dec false] [1, 2, 3, 9, 11, 12, 13, 28] [1, 4] (s' := ⟨[(1, (.v (.one (.c (sl 5 cs_Key a1))))), (2, (.v (.one (.c (.int .i64 a2))))), (3, (.v (.one (.ptr 1 0)))), (9, (.v (.one (.ptr 4 0)))), (11, (.v (.one (.c (sl 5 cs_Key a1))))), (12, (.v (.one (.c (.int .i64 (a1.length : Int)))))), (13, (.v (.one (.c (.int .i64 x4))))), (28, (.v (.one (.c (.bool (decide (v7 > a2)))))))], [(1, (.box [(.c (.fn 146 0 fun _ => .nilptr)), (.c (.fn 147 0 fun _ => .nilptr)), (.c (.fn 148 0 fun _ => .nilptr))])), (4, (.box [(.c (.int .i64 ((a1.getD x4.toNat default).At))), (.c (.flt .f32 (((a1.getD x4.toNat default).Turn).W).bits)), (.c (.flt .f32 (((a1.getD x4.toNat default).Turn).X).bits)), (.c (.flt .f32 (((a1.getD x4.toNat default).Turn).Y).bits)), (.c (.flt .f32 (((a1.getD x4.toNat default).Turn).Z).bits))]))]⟩) (ob := True ∧ True ∧ True ∧ (True ∧ (decide (v7 ≤ x3)) = false) ∧ True ∧ True ∧ True ∧ True ∧ True) (by kernel_rfl) ⟨trivial, trivial, trivial, ⟨trivial, b9⟩, trivial, trivial, trivial, trivial, trivial⟩ ⟨rfl, rfl⟩
    refine thenQ_normal ?_
    rcases ite2_cases h with ⟨b12, h⟩ | ⟨b12, h⟩
    · refine AW.cond_t rfl b12 ?_
      refine AW.seq ?_
      refine AW.regionA [] [6] [] (s' := ⟨[(6, (.v (.one (.c (.bool false)))))], []⟩) (ob := True ∧ True) (by kernel_rfl) ⟨trivial, trivial⟩ ?_
      refine thenQ_normal ?_
      refine AW.ret ?_
      refine thenQ_ret ?_
      refine blockQ_ret ?_
      refine thenQ_ret ?_
      refine loopQ_ret ?_
      refine blockQ_ret ?_
      refine thenQ_ret ?_
      replace h := some_eq h
      subst h
      exact ⟨.inr rfl, retOK_of [(.one (.c (.bool false)))] (by kernel_rfl) ⟨⟨rfl, trivial⟩, trivial⟩ (of_decide_eq_true (by kernel_rfl))⟩
    · refine AW.cond_f rfl b12 ?_
      refine AW.skip ?_
      refine thenQ_normal ?_
      obtain ⟨v13, e14, h⟩ := bind_some h
      refine AW.regionA [.no, .no, .no, .call [.agg (cs_Key (a1.getD x4.toNat default))] [.one (.int .i64 v13)] [[.view]]] [1, 2, 3, 7, 11, 12, 13] [1] (s' := ⟨[(1, (.v (.one (.c (sl 5 cs_Key a1))))), (2, (.v (.one (.c (.int .i64 a2))))), (3, (.v (.one (.ptr 1 0)))), (7, (.v (.one (.c (.int .i64 v13))))), (11, (.v (.one (.c (sl 5 cs_Key a1))))), (12, (.v (.one (.c (.int .i64 (a1.length : Int)))))), (13, (.v (.one (.c (.int .i64 x4)))))], [(1, (.box [(.c (.fn 146 0 fun _ => .nilptr)), (.c (.fn 147 0 fun _ => .nilptr)), (.c (.fn 148 0 fun _ => .nilptr))]))]⟩) (ob := True ∧ True ∧ True ∧ ((((((.int .i64 ((a1.getD x4.toNat default).At)) : C) = (.int .i64 ((a1.getD x4.toNat default).At))) ∧ (((.flt .f32 (((a1.getD x4.toNat default).Turn).W).bits) : C) = (.flt .f32 (((a1.getD x4.toNat default).Turn).W).bits)) ∧ (((.flt .f32 (((a1.getD x4.toNat default).Turn).X).bits) : C) = (.flt .f32 (((a1.getD x4.toNat default).Turn).X).bits)) ∧ (((.flt .f32 (((a1.getD x4.toNat default).Turn).Y).bits) : C) = (.flt .f32 (((a1.getD x4.toNat default).Turn).Y).bits)) ∧ (((.flt .f32 (((a1.getD x4.toNat default).Turn).Z).bits) : C) = (.flt .f32 (((a1.getD x4.toNat default).Turn).Z).bits)) ∧ True) ∧ True) ∧ CallOK Try.prog 146 [.agg (cs_Key (a1.getD x4.toNat default))] [.one (.int .i64 v13)]) ∧ True ∧ True) (by kernel_rfl) ⟨trivial, trivial, trivial, ⟨⟨⟨rfl, rfl, rfl, rfl, rfl, trivial⟩, trivial⟩, ok_impl_turnTrack_1 K (a1.getD x4.toNat default) v13 e14⟩, trivial, trivial⟩ ?_
      refine blockQ_normal ?_
      refine thenQ_normal ?_
      refine AW.regionA [] [1, 2, 3, 7, 11, 12, 13] [1] (s' := ⟨[(1, (.v (.one (.c (sl 5 cs_Key a1))))), (2, (.v (.one (.c (.int .i64 a2))))), (3, (.v (.one (.ptr 1 0)))), (7, (.v (.one (.c (.int .i64 v13))))), (11, (.v (.one (.c (sl 5 cs_Key a1))))), (12, (.v (.one (.c (.int .i64 (a1.length : Int)))))), (13, (.v (.one (.c (.int .i64 (IntKind.i64.wrap (x4 + (1 : Int))))))))], [(1, (.box [(.c (.fn 146 0 fun _ => .nilptr)), (.c (.fn 147 0 fun _ => .nilptr)), (.c (.fn 148 0 fun _ => .nilptr))]))]⟩) (ob := True ∧ True ∧ True) (by kernel_rfl) ⟨trivial, trivial, trivial⟩ ?_
      exact loopQ_normal (k, v13, (IntKind.i64.wrap (x4 + (1 : Int)))) h (Nat.lt_succ_self k) (Sub.keep [1, 2, 3, 7, 11, 12, 13] [1] (by kernel_rfl) (by kernel_rfl))
  · refine AW.cond_f rfl b5 ?_
    refine AW.exit ?_
    refine thenQ_exit ?_
    refine loopQ_exit ?_
    refine blockQ_exit ?_
    refine thenQ_normal ?_
    refine AW.seq ?_
    obtain ⟨j16, e17, h⟩ := bind_some h
    refine AW.join1 (s2 := ⟨[(6, (.v (.one (.c (.bool j16)))))], []⟩) ?_ ?_
    · rcases ite2_cases e17 with ⟨b15, e17⟩ | ⟨b15, e17⟩
      · replace e17 := some_eq e17
        subst e17
        exact AW.regionA [.no, .no, .no, .dec true] [6] [] (s' := ⟨[(6, (.v (.one (.c (.bool (decide ((a1.length : Int) ≤ (12 : Int))))))))], []⟩) (ob := True ∧ True ∧ True ∧ (True ∧ (decide ((a1.length : Int) ≥ (1 : Int))) = true) ∧ True ∧ True ∧ True ∧ True ∧ True ∧ True) (by kernel_rfl) ⟨trivial, trivial, trivial, ⟨trivial, b15⟩, trivial, trivial, trivial, trivial, trivial, trivial⟩ ⟨rfl, rfl⟩
      · replace e17 := some_eq e17
        subst e17
        exact AW.regionA [.no, .no, .no, .dec false] [6] [] (s' := ⟨[(6, (.v (.one (.c (.bool false)))))], []⟩) (ob := True ∧ True ∧ True ∧ (True ∧ (decide ((a1.length : Int) ≥ (1 : Int))) = false) ∧ True ∧ True ∧ True ∧ True ∧ True ∧ True) (by kernel_rfl) ⟨trivial, trivial, trivial, ⟨trivial, b15⟩, trivial, trivial, trivial, trivial, trivial, trivial⟩ ⟨rfl, rfl⟩
    refine thenQ_normal ?_
    refine AW.ret ?_
    replace h := some_eq h
    subst h
    exact ⟨.inr rfl, retOK_of [(.one (.c (.bool j16)))] (by kernel_rfl) ⟨⟨rfl, trivial⟩, trivial⟩ (of_decide_eq_true (by kernel_rfl))⟩

/-! impl.rootTrack -/
def impl_rootTrack (_K : Nat) : Option (Unit) :=
  some ()

theorem ok_impl_rootTrack (K : Nat) (o : (Unit)) (h : impl_rootTrack K  = some o) : CallOK Try.prog 79 [] [.agg [(.fn 150 0 fun _ => .nilptr), (.fn 151 0 fun _ => .nilptr), (.fn 152 0 fun _ => .nilptr)]] := by
  refine callOK_of_AW Try.func79 rfl (by kernel_rfl) (Nat.le_of_ble_eq_true (by kernel_rfl)) ?_
  intro w0
  unfold impl_rootTrack at h
  refine AW.seq ?_
  refine AW.regionA [.box 1] [0] [1] (s' := ⟨[(0, (.v (.one (.ptr 1 0))))], [(1, (.box [(.c .nilfn), (.c .nilfn), (.c .nilfn)]))]⟩) (ob := True ∧ True) (by kernel_rfl) ⟨trivial, trivial⟩ ?_
  refine thenQ_normal ?_
  refine AW.seq ?_
  refine AW.regionA [] [0] [1] (s' := ⟨[(0, (.v (.one (.ptr 1 0))))], [(1, (.box [(.c (.fn 150 0 fun _ => .nilptr)), (.c (.fn 151 0 fun _ => .nilptr)), (.c (.fn 152 0 fun _ => .nilptr))]))]⟩) (ob := True ∧ True ∧ True) (by kernel_rfl) ⟨trivial, trivial, trivial⟩ ?_
  refine thenQ_normal ?_
  refine AW.ret ?_
  replace h := some_eq h
  subst h
  exact ⟨.inr rfl, retOK_of [(.agg [(.c (.fn 150 0 fun _ => .nilptr)), (.c (.fn 151 0 fun _ => .nilptr)), (.c (.fn 152 0 fun _ => .nilptr))])] (by kernel_rfl) ⟨⟨⟨rfl, rfl⟩, ⟨rfl, rfl⟩, ⟨rfl, rfl⟩, trivial⟩, trivial⟩ (of_decide_eq_true (by kernel_rfl))⟩

/-! impl.rootTrack$1 -/
def impl_rootTrack_1 (_K : Nat) (a0 : RootKey) : Option (Int) :=
  some a0.At

theorem ok_impl_rootTrack_1 (K : Nat) (a0 : RootKey) (o : (Int)) (h : impl_rootTrack_1 K a0 = some o) : CallOK Try.prog 150 [.agg (cs_RootKey a0)] [.one (.int .i64 o)] := by
  refine callOK_of_AW Try.func150 rfl (by kernel_rfl) (Nat.le_of_ble_eq_true (by kernel_rfl)) ?_
  intro w0
  unfold impl_rootTrack_1 at h
  refine AW.seq ?_
  refine AW.regionA [.box 1] [1] [1] (s' := ⟨[(1, (.v (.one (.ptr 1 0))))], [(1, (.box [(.c (.int .i64 a0.At)), (.c (.flt .f32 a0.Place.X.bits)), (.c (.flt .f32 a0.Place.Y.bits)), (.c (.flt .f32 a0.Place.Z.bits))]))]⟩) (ob := True ∧ True ∧ True) (by kernel_rfl) ⟨trivial, trivial, trivial⟩ ?_
  refine thenQ_normal ?_
  refine AW.seq ?_
  refine AW.regionA [] [2] [] (s' := ⟨[(2, (.v (.one (.c (.int .i64 a0.At)))))], []⟩) (ob := True ∧ True ∧ True ∧ True) (by kernel_rfl) ⟨trivial, trivial, trivial, trivial⟩ ?_
  refine thenQ_normal ?_
  refine AW.ret ?_
  replace h := some_eq h
  subst h
  exact ⟨.inr rfl, retOK_of [(.one (.c (.int .i64 a0.At)))] (by kernel_rfl) ⟨⟨rfl, trivial⟩, trivial⟩ (of_decide_eq_true (by kernel_rfl))⟩

/-! (impl.track[impl.RootKey]).valid -/
def impl_track_impl_RootKey_valid_l1 (K : Nat) (a1 : (List RootKey)) (a2 : Int) : Nat → Int → Int → Option (Bool)
  | 0, _, _ => none
  | k + 1, x3, x4 => ite2 ((decide (x4 < (a1.length : Int)))) (chk (0 ≤ x4 ∧ x4 < (a1.length : Int)) ((impl_rootTrack_1 K (a1.getD x4.toNat default)).bind fun v7 => (ite2 ((decide (v7 ≤ x3))) (some true) (some (decide (v7 > a2)))).bind fun j10 => ite2 (j10) (some false) ((impl_rootTrack_1 K (a1.getD x4.toNat default)).bind fun v13 => impl_track_impl_RootKey_valid_l1 K a1 a2 k v13 (IntKind.i64.wrap (x4 + (1 : Int)))))) ((ite2 ((decide ((a1.length : Int) ≥ (1 : Int)))) (some (decide ((a1.length : Int) ≤ (12 : Int)))) (some false)).bind fun j16 => some j16)

def impl_track_impl_RootKey_valid (K : Nat) (a1 : (List RootKey)) (a2 : Int) : Option (Bool) :=
  impl_track_impl_RootKey_valid_l1 K a1 a2 K ((-1) : Int) (0 : Int)

theorem ok_impl_track_impl_RootKey_valid (K : Nat) (a1 : (List RootKey)) (a2 : Int) (o : (Bool)) (h : impl_track_impl_RootKey_valid K a1 a2 = some o) : CallOK Try.prog 140 [.agg [(.fn 150 0 fun _ => .nilptr), (.fn 151 0 fun _ => .nilptr), (.fn 152 0 fun _ => .nilptr)], .one (sl 4 cs_RootKey a1), .one (.int .i64 a2)] [.one (.bool o)] := by
  refine callOK_of_AW Try.func140 rfl (by kernel_rfl) (Nat.le_of_ble_eq_true (by kernel_rfl)) ?_
  intro w0
  unfold impl_track_impl_RootKey_valid at h
  refine AW.seq ?_
  refine AW.regionA [.box 1] [1, 2, 3] [1] (s' := ⟨[(1, (.v (.one (.c (sl 4 cs_RootKey a1))))), (2, (.v (.one (.c (.int .i64 a2))))), (3, (.v (.one (.ptr 1 0))))], [(1, (.box [(.c (.fn 150 0 fun _ => .nilptr)), (.c (.fn 151 0 fun _ => .nilptr)), (.c (.fn 152 0 fun _ => .nilptr))]))]⟩) (ob := True ∧ True ∧ True) (by kernel_rfl) ⟨trivial, trivial, trivial⟩ ?_
  refine thenQ_normal ?_
  refine AW.seq ?_
  refine AW.regionA [] [1, 2, 3, 7] [1] (s' := ⟨[(1, (.v (.one (.c (sl 4 cs_RootKey a1))))), (2, (.v (.one (.c (.int .i64 a2))))), (3, (.v (.one (.ptr 1 0)))), (7, (.v (.one (.c (.int .i64 ((-1) : Int))))))], [(1, (.box [(.c (.fn 150 0 fun _ => .nilptr)), (.c (.fn 151 0 fun _ => .nilptr)), (.c (.fn 152 0 fun _ => .nilptr))]))]⟩) (ob := True ∧ True) (by kernel_rfl) ⟨trivial, trivial⟩ ?_
  refine thenQ_normal ?_
  refine AW.seq ?_
  refine AW.seq ?_
  refine AW.regionA [] [1, 2, 3, 7, 11, 12, 13] [1] (s' := ⟨[(1, (.v (.one (.c (sl 4 cs_RootKey a1))))), (2, (.v (.one (.c (.int .i64 a2))))), (3, (.v (.one (.ptr 1 0)))), (7, (.v (.one (.c (.int .i64 ((-1) : Int)))))), (11, (.v (.one (.c (sl 4 cs_RootKey a1))))), (12, (.v (.one (.c (.int .i64 (a1.length : Int)))))), (13, (.v (.one (.c (.int .i64 (0 : Int))))))], [(1, (.box [(.c (.fn 150 0 fun _ => .nilptr)), (.c (.fn 151 0 fun _ => .nilptr)), (.c (.fn 152 0 fun _ => .nilptr))]))]⟩) (ob := True ∧ True ∧ True ∧ True) (by kernel_rfl) ⟨trivial, trivial, trivial, trivial⟩ ?_
  refine thenQ_normal ?_
  refine AW.block ?_
  refine AW.loopQ (σ := Nat × Int × Int) (fun p => ⟨[(1, (.v (.one (.c (sl 4 cs_RootKey a1))))), (2, (.v (.one (.c (.int .i64 a2))))), (3, (.v (.one (.ptr 1 0)))), (7, (.v (.one (.c (.int .i64 p.2.1))))), (11, (.v (.one (.c (sl 4 cs_RootKey a1))))), (12, (.v (.one (.c (.int .i64 (a1.length : Int)))))), (13, (.v (.one (.c (.int .i64 p.2.2)))))], [(1, (.box [(.c (.fn 150 0 fun _ => .nilptr)), (.c (.fn 151 0 fun _ => .nilptr)), (.c (.fn 152 0 fun _ => .nilptr))]))]⟩) (fun p => impl_track_impl_RootKey_valid_l1 K a1 a2 p.1 p.2.1 p.2.2 = some o) (fun p => p.1) (K, ((-1) : Int), (0 : Int)) h ?_
  clear h
  rintro ⟨k, x3, x4⟩ h
  replace h : impl_track_impl_RootKey_valid_l1 K a1 a2 k x3 x4 = some o := h
  show AW _ _ (⟨[(1, (.v (.one (.c (sl 4 cs_RootKey a1))))), (2, (.v (.one (.c (.int .i64 a2))))), (3, (.v (.one (.ptr 1 0)))), (7, (.v (.one (.c (.int .i64 x3))))), (11, (.v (.one (.c (sl 4 cs_RootKey a1))))), (12, (.v (.one (.c (.int .i64 (a1.length : Int)))))), (13, (.v (.one (.c (.int .i64 x4)))))], [(1, (.box [(.c (.fn 150 0 fun _ => .nilptr)), (.c (.fn 151 0 fun _ => .nilptr)), (.c (.fn 152 0 fun _ => .nilptr))]))]⟩ : St) _
  obtain _ | k := k
  · rw [impl_track_impl_RootKey_valid_l1] at h; cases h
  rw [impl_track_impl_RootKey_valid_l1] at h
  refine AW.seq ?_
  refine AW.regionA [] [1, 2, 3, 7, 11, 12, 13, 14] [1] (s' := ⟨[(1, (.v (.one (.c (sl 4 cs_RootKey a1))))), (2, (.v (.one (.c (.int .i64 a2))))), (3, (.v (.one (.ptr 1 0)))), (7, (.v (.one (.c (.int .i64 x3))))), (11, (.v (.one (.c (sl 4 cs_RootKey a1))))), (12, (.v (.one (.c (.int .i64 (a1.length : Int)))))), (13, (.v (.one (.c (.int .i64 x4))))), (14, (.v (.one (.c (.bool (decide (x4 < (a1.length : Int))))))))], [(1, (.box [(.c (.fn 150 0 fun _ => .nilptr)), (.c (.fn 151 0 fun _ => .nilptr)), (.c (.fn 152 0 fun _ => .nilptr))]))]⟩) (ob := True ∧ True) (by kernel_rfl) ⟨trivial, trivial⟩ ?_
  refine thenQ_normal ?_
  refine AW.seq ?_
  rcases ite2_cases h with ⟨b5, h⟩ | ⟨b5, h⟩
  · refine AW.cond_t rfl b5 ?_
    refine AW.skip ?_
    refine thenQ_normal ?_
    refine AW.seq ?_
    refine AW.block ?_
    refine AW.seq ?_
    obtain ⟨c6, h⟩ := chk_some h
    refine AW.regionA [.no, .no, .box 4] [1, 2, 3, 7, 9, 11, 12, 13] [1, 4] (s' := ⟨[(1, (.v (.one (.c (sl 4 cs_RootKey a1))))), (2, (.v (.one (.c (.int .i64 a2))))), (3, (.v (.one (.ptr 1 0)))), (7, (.v (.one (.c (.int .i64 x3))))), (9, (.v (.one (.ptr 4 0)))), (11, (.v (.one (.c (sl 4 cs_RootKey a1))))), (12, (.v (.one (.c (.int .i64 (a1.length : Int)))))), (13, (.v (.one (.c (.int .i64 x4)))))], [(1, (.box [(.c (.fn 150 0 fun _ => .nilptr)), (.c (.fn 151 0 fun _ => .nilptr)), (.c (.fn 152 0 fun _ => .nilptr))])), (4, (.box [(.c (.int .i64 ((a1.getD x4.toNat default).At))), (.c (.flt .f32 (((a1.getD x4.toNat default).Place).X).bits)), (.c (.flt .f32 (((a1.getD x4.toNat default).Place).Y).bits)), (.c (.flt .f32 (((a1.getD x4.toNat default).Place).Z).bits))]))]⟩) (ob := (0 ≤ x4 ∧ x4 < (a1.length : Int)) ∧ True ∧ True ∧ True ∧ True) (by kernel_rfl) ⟨c6, trivial, trivial, trivial, trivial⟩ ?_
    refine thenQ_normal ?_
    refine AW.seq ?_
    refine AW.seq ?_
    obtain ⟨v7, e8, h⟩ := bind_some h
    refine AW.regionA [.no, .no, .no, .call [.agg (cs_RootKey (a1.getD x4.toNat default))] [.one (.int .i64 v7)] [[.view]]] [1, 2, 3, 7, 9, 10, 11, 12, 13] [1, 4] (s' := ⟨[(1, (.v (.one (.c (sl 4 cs_RootKey a1))))), (2, (.v (.one (.c (.int .i64 a2))))), (3, (.v (.one (.ptr 1 0)))), (7, (.v (.one (.c (.int .i64 x3))))), (9, (.v (.one (.ptr 4 0)))), (10, (.v (.one (.c (.int .i64 v7))))), (11, (.v (.one (.c (sl 4 cs_RootKey a1))))), (12, (.v (.one (.c (.int .i64 (a1.length : Int)))))), (13, (.v (.one (.c (.int .i64 x4)))))], [(1, (.box [(.c (.fn 150 0 fun _ => .nilptr)), (.c (.fn 151 0 fun _ => .nilptr)), (.c (.fn 152 0 fun _ => .nilptr))])), (4, (.box [(.c (.int .i64 ((a1.getD x4.toNat default).At))), (.c (.flt .f32 (((a1.getD x4.toNat default).Place).X).bits)), (.c (.flt .f32 (((a1.getD x4.toNat default).Place).Y).bits)), (.c (.flt .f32 (((a1.getD x4.toNat default).Place).Z).bits))]))]⟩) (ob := True ∧ True ∧ True ∧ ((((((.int .i64 ((a1.getD x4.toNat default).At)) : C) = (.int .i64 ((a1.getD x4.toNat default).At))) ∧ (((.flt .f32 (((a1.getD x4.toNat default).Place).X).bits) : C) = (.flt .f32 (((a1.getD x4.toNat default).Place).X).bits)) ∧ (((.flt .f32 (((a1.getD x4.toNat default).Place).Y).bits) : C) = (.flt .f32 (((a1.getD x4.toNat default).Place).Y).bits)) ∧ (((.flt .f32 (((a1.getD x4.toNat default).Place).Z).bits) : C) = (.flt .f32 (((a1.getD x4.toNat default).Place).Z).bits)) ∧ True) ∧ True) ∧ CallOK Try.prog 150 [.agg (cs_RootKey (a1.getD x4.toNat default))] [.one (.int .i64 v7)]) ∧ True ∧ True) (by kernel_rfl) ⟨trivial, trivial, trivial, ⟨⟨⟨rfl, rfl, rfl, rfl, trivial⟩, trivial⟩, ok_impl_rootTrack_1 K (a1.getD x4.toNat default) v7 e8⟩, trivial, trivial⟩ ?_
    refine thenQ_normal ?_
    refine AW.seq ?_
    obtain ⟨j10, e11, h⟩ := bind_some h
    refine AW.join1 (s2 := ⟨[(1, (.v (.one (.c (sl 4 cs_RootKey a1))))), (2, (.v (.one (.c (.int .i64 a2))))), (3, (.v (.one (.ptr 1 0)))), (9, (.v (.one (.ptr 4 0)))), (11, (.v (.one (.c (sl 4 cs_RootKey a1))))), (12, (.v (.one (.c (.int .i64 (a1.length : Int)))))), (13, (.v (.one (.c (.int .i64 x4))))), (28, (.v (.one (.c (.bool j10)))))], [(1, (.box [(.c (.fn 150 0 fun _ => .nilptr)), (.c (.fn 151 0 fun _ => .nilptr)), (.c (.fn 152 0 fun _ => .nilptr))])), (4, (.box [(.c (.int .i64 ((a1.getD x4.toNat default).At))), (.c (.flt .f32 (((a1.getD x4.toNat default).Place).X).bits)), (.c (.flt .f32 (((a1.getD x4.toNat default).Place).Y).bits)), (.c (.flt .f32 (((a1.getD x4.toNat default).Place).Z).bits))]))]⟩) ?_ ?_
    · rcases ite2_cases e11 with ⟨b9, e11⟩ | ⟨b9, e11⟩
      · replace e11 := some_eq e11
        subst e11
        exact AW.regionA [.no, .no, .no, .dec true] [1, 2, 3, 9, 11, 12, 13, 28] [1, 4] (s' := ⟨[(1, (.v (.one (.c (sl 4 cs_RootKey a1))))), (2, (.v (.one (.c (.int .i64 a2))))), (3, (.v (.one (.ptr 1 0)))), (9, (.v (.one (.ptr 4 0)))), (11, (.v (.one (.c (sl 4 cs_RootKey a1))))), (12, (.v (.one (.c (.int .i64 (a1.length : Int)))))), (13, (.v (.one (.c (.int .i64 x4))))), (28, (.v (.one (.c (.bool true)))))], [(1, (.box [(.c (.fn 150 0 fun _ => .nilptr)), (.c (.fn 151 0 fun _ => .nilptr)), (.c (.fn 152 0 fun _ => .nilptr))])), (4, (.box [(.c (.int .i64 ((a1.getD x4.toNat default).At))), (.c (.flt .f32 (((a1.getD x4.toNat default).Place).X).bits)), (.c (.flt .f32 (((a1.getD x4.toNat default).Place).Y).bits)), (.c (.flt .f32 (((a1.getD x4.toNat default).Place).Z).bits))]))]⟩) (ob := True ∧ True ∧ True ∧ (True ∧ (decide (v7 ≤ x3)) = true) ∧ True ∧ True ∧ True ∧ True ∧ True) (by kernel_rfl) ⟨trivial, trivial, trivial, ⟨trivial, b9⟩, trivial, trivial, trivial, trivial, trivial⟩ ⟨rfl, rfl⟩
      · replace e11 := some_eq e11
        subst e11
        exact AW.regionA [.no, .no, .no, .dec false] [1, 2, 3, 9, 11, 12, 13, 28] [1, 4] (s' := ⟨[(1, (.v (.one (.c (sl 4 cs_RootKey a1))))), (2, (.v (.one (.c (.int .i64 a2))))), (3, (.v (.one (.ptr 1 0)))), (9, (.v (.one (.ptr 4 0)))), (11, (.v (.one (.c (sl 4 cs_RootKey a1))))), (12, (.v (.one (.c (.int .i64 (a1.length : Int)))))), (13, (.v (.one (.c (.int .i64 x4))))), (28, (.v (.one (.c (.bool (decide (v7 > a2)))))))], [(1, (.box [(.c (.fn 150 0 fun _ => .nilptr)), (.c (.fn 151 0 fun _ => .nilptr)), (.c (.fn 152 0 fun _ => .nilptr))])), (4, (.box [(.c (.int .i64 ((a1.getD x4.toNat default).At))), (.c (.flt .f32 (((a1.getD x4.toNat default).Place).X).bits)), (.c (.flt .f32 (((a1.getD x4.toNat default).Place).Y).bits)), (.c (.flt .f32 (((a1.getD x4.toNat default).Place).Z).bits))]))]⟩) (ob := True ∧ True ∧ True ∧ (True ∧ (decide (v7 ≤ x3)) = false) ∧ True ∧ True ∧ True ∧ True ∧ True) (by kernel_rfl) ⟨trivial, trivial, trivial, ⟨trivial, b9⟩, trivial, trivial, trivial, trivial, trivial⟩ ⟨rfl, rfl⟩
    refine thenQ_normal ?_
    rcases ite2_cases h with ⟨b12, h⟩ | ⟨b12, h⟩
    · refine AW.cond_t rfl b12 ?_
      refine AW.seq ?_
      refine AW.regionA [] [6] [] (s' := ⟨[(6, (.v (.one (.c (.bool false)))))], []⟩) (ob := True ∧ True) (by kernel_rfl) ⟨trivial, trivial⟩ ?_
      refine thenQ_normal ?_
      refine AW.ret ?_
      refine thenQ_ret ?_
      refine blockQ_ret ?_
      refine thenQ_ret ?_
      refine loopQ_ret ?_
      refine blockQ_ret ?_
      refine thenQ_ret ?_
      replace h := some_eq h
      subst h
      exact ⟨.inr rfl, retOK_of [(.one (.c (.bool false)))] (by kernel_rfl) ⟨⟨rfl, trivial⟩, trivial⟩ (of_decide_eq_true (by kernel_rfl))⟩
    · refine AW.cond_f rfl b12 ?_
      refine AW.skip ?_
      refine thenQ_normal ?_
      obtain ⟨v13, e14, h⟩ := bind_some h
      refine AW.regionA [.no, .no, .no, .call [.agg (cs_RootKey (a1.getD x4.toNat default))] [.one (.int .i64 v13)] [[.view]]] [1, 2, 3, 7, 11, 12, 13] [1] (s' := ⟨[(1, (.v (.one (.c (sl 4 cs_RootKey a1))))), (2, (.v (.one (.c (.int .i64 a2))))), (3, (.v (.one (.ptr 1 0)))), (7, (.v (.one (.c (.int .i64 v13))))), (11, (.v (.one (.c (sl 4 cs_RootKey a1))))), (12, (.v (.one (.c (.int .i64 (a1.length : Int)))))), (13, (.v (.one (.c (.int .i64 x4)))))], [(1, (.box [(.c (.fn 150 0 fun _ => .nilptr)), (.c (.fn 151 0 fun _ => .nilptr)), (.c (.fn 152 0 fun _ => .nilptr))]))]⟩) (ob := True ∧ True ∧ True ∧ ((((((.int .i64 ((a1.getD x4.toNat default).At)) : C) = (.int .i64 ((a1.getD x4.toNat default).At))) ∧ (((.flt .f32 (((a1.getD x4.toNat default).Place).X).bits) : C) = (.flt .f32 (((a1.getD x4.toNat default).Place).X).bits)) ∧ (((.flt .f32 (((a1.getD x4.toNat default).Place).Y).bits) : C) = (.flt .f32 (((a1.getD x4.toNat default).Place).Y).bits)) ∧ (((.flt .f32 (((a1.getD x4.toNat default).Place).Z).bits) : C) = (.flt .f32 (((a1.getD x4.toNat default).Place).Z).bits)) ∧ True) ∧ True) ∧ CallOK Try.prog 150 [.agg (cs_RootKey (a1.getD x4.toNat default))] [.one (.int .i64 v13)]) ∧ True ∧ True) (by kernel_rfl) ⟨trivial, trivial, trivial, ⟨⟨⟨rfl, rfl, rfl, rfl, trivial⟩, trivial⟩, ok_impl_rootTrack_1 K (a1.getD x4.toNat default) v13 e14⟩, trivial, trivial⟩ ?_
      refine blockQ_normal ?_
      refine thenQ_normal ?_
      refine AW.regionA [] [1, 2, 3, 7, 11, 12, 13] [1] (s' := ⟨[(1, (.v (.one (.c (sl 4 cs_RootKey a1))))), (2, (.v (.one (.c (.int .i64 a2))))), (3, (.v (.one (.ptr 1 0)))), (7, (.v (.one (.c (.int .i64 v13))))), (11, (.v (.one (.c (sl 4 cs_RootKey a1))))), (12, (.v (.one (.c (.int .i64 (a1.length : Int)))))), (13, (.v (.one (.c (.int .i64 (IntKind.i64.wrap (x4 + (1 : Int))))))))], [(1, (.box [(.c (.fn 150 0 fun _ => .nilptr)), (.c (.fn 151 0 fun _ => .nilptr)), (.c (.fn 152 0 fun _ => .nilptr))]))]⟩) (ob := True ∧ True ∧ True) (by kernel_rfl) ⟨trivial, trivial, trivial⟩ ?_
      exact loopQ_normal (k, v13, (IntKind.i64.wrap (x4 + (1 : Int)))) h (Nat.lt_succ_self k) (Sub.keep [1, 2, 3, 7, 11, 12, 13] [1] (by kernel_rfl) (by kernel_rfl))
  · refine AW.cond_f rfl b5 ?_
    refine AW.exit ?_
    refine thenQ_exit ?_
    refine loopQ_exit ?_
    refine blockQ_exit ?_
    refine thenQ_normal ?_
    refine AW.seq ?_
    obtain ⟨j16, e17, h⟩ := bind_some h
    refine AW.join1 (s2 := ⟨[(6, (.v (.one (.c (.bool j16)))))], []⟩) ?_ ?_
    · rcases ite2_cases e17 with ⟨b15, e17⟩ | ⟨b15, e17⟩
      · replace e17 := some_eq e17
        subst e17
        exact AW.regionA [.no, .no, .no, .dec true] [6] [] (s' := ⟨[(6, (.v (.one (.c (.bool (decide ((a1.length : Int) ≤ (12 : Int))))))))], []⟩) (ob := True ∧ True ∧ True ∧ (True ∧ (decide ((a1.length : Int) ≥ (1 : Int))) = true) ∧ True ∧ True ∧ True ∧ True ∧ True ∧ True) (by kernel_rfl) ⟨trivial, trivial, trivial, ⟨trivial, b15⟩, trivial, trivial, trivial, trivial, trivial, trivial⟩ ⟨rfl, rfl⟩
      · replace e17 := some_eq e17
        subst e17
        exact AW.regionA [.no, .no, .no, .dec false] [6] [] (s' := ⟨[(6, (.v (.one (.c (.bool false)))))], []⟩) (ob := True ∧ True ∧ True ∧ (True ∧ (decide ((a1.length : Int) ≥ (1 : Int))) = false) ∧ True ∧ True ∧ True ∧ True ∧ True ∧ True) (by kernel_rfl) ⟨trivial, trivial, trivial, ⟨trivial, b15⟩, trivial, trivial, trivial, trivial, trivial, trivial⟩ ⟨rfl, rfl⟩
    refine thenQ_normal ?_
    refine AW.ret ?_
    replace h := some_eq h
    subst h
    exact ⟨.inr rfl, retOK_of [(.one (.c (.bool j16)))] (by kernel_rfl) ⟨⟨rfl, trivial⟩, trivial⟩ (of_decide_eq_true (by kernel_rfl))⟩

/-! impl.ValidClip -/
def impl_ValidClip_l1 (K : Nat) (a0 : Clip) : Nat → Int → Option (Bool)
  | 0, _ => none
  | k + 1, x10 => ite2 ((decide (x10 < (a0.Tracks.length : Int)))) (chk (0 ≤ x10 ∧ x10 < (a0.Tracks.length : Int)) ((impl_turnTrack K ).bind fun v13 => (impl_track_impl_Key_valid K (a0.Tracks.getD x10.toNat default) a0.Length).bind fun v15 => ite2 ((!v15)) (some false) (impl_ValidClip_l1 K a0 k (IntKind.i64.wrap (x10 + (1 : Int)))))) ((impl_rootTrack K ).bind fun v18 => (impl_track_impl_RootKey_valid K a0.Roots a0.Length).bind fun v20 => some v20)

def impl_ValidClip (K : Nat) (a0 : Clip) : Option (Bool) :=
  (ite2 ((decide (a0.Length < (1 : Int)))) (some true) (ite2 ((decide (a0.Length > (1000 : Int)))) (some true) (ite2 ((decide (a0.Kind < (0 : Int)))) (some true) (ite2 ((decide (a0.Kind > (2 : Int)))) (some true) (ite2 ((decide ((a0.Tracks.length : Int) < (1 : Int)))) (some true) (some (decide ((a0.Tracks.length : Int) > (12 : Int))))))))).bind fun j6 => ite2 (j6) (some false) (impl_ValidClip_l1 K a0 K (0 : Int))

theorem ok_impl_ValidClip (K : Nat) (a0 : Clip) (o : (Bool)) (h : impl_ValidClip K a0 = some o) : CallOK Try.prog 63 [.agg (cs_Clip a0)] [.one (.bool o)] := by
  refine callOK_of_AW Try.func63 rfl (by kernel_rfl) (Nat.le_of_ble_eq_true (by kernel_rfl)) ?_
  intro w0
  unfold impl_ValidClip at h
  refine AW.seq ?_
  refine AW.regionA [.box 1] [1] [1] (s' := ⟨[(1, (.v (.one (.ptr 1 0))))], [(1, (.box [(.c (.int .i64 a0.Length)), (.c (.int .i64 a0.Kind)), (.c (sl 1 (csL 5 cs_Key) a0.Tracks)), (.c (sl 4 cs_RootKey a0.Roots))]))]⟩) (ob := True ∧ True ∧ True) (by kernel_rfl) ⟨trivial, trivial, trivial⟩ ?_
  refine thenQ_normal ?_
  refine AW.seq ?_
  refine AW.seq ?_
  obtain ⟨j6, e7, h⟩ := bind_some h
  refine AW.join1 (s2 := ⟨[(1, (.v (.one (.ptr 1 0)))), (34, (.v (.one (.c (.bool j6)))))], [(1, (.box [(.c (.int .i64 a0.Length)), (.c (.int .i64 a0.Kind)), (.c (sl 1 (csL 5 cs_Key) a0.Tracks)), (.c (sl 4 cs_RootKey a0.Roots))]))]⟩) ?_ ?_
  · rcases ite2_cases e7 with ⟨b1, e7⟩ | ⟨b1, e7⟩
    · replace e7 := some_eq e7
      subst e7
      exact AW.regionA [.no, .no, .no, .dec true] [1, 34] [1] (s' := ⟨[(1, (.v (.one (.ptr 1 0)))), (34, (.v (.one (.c (.bool true)))))], [(1, (.box [(.c (.int .i64 a0.Length)), (.c (.int .i64 a0.Kind)), (.c (sl 1 (csL 5 cs_Key) a0.Tracks)), (.c (sl 4 cs_RootKey a0.Roots))]))]⟩) (ob := True ∧ True ∧ True ∧ (True ∧ (decide (a0.Length < (1 : Int))) = true) ∧ True ∧ True ∧ True ∧ True ∧ True ∧ True ∧ True ∧ True ∧ True ∧ True ∧ True ∧ True ∧ True ∧ True ∧ True ∧ True ∧ True ∧ True ∧ True ∧ True ∧ True ∧ True ∧ True ∧ True ∧ True ∧ True ∧ True) (by kernel_rfl) ⟨trivial, trivial, trivial, ⟨trivial, b1⟩, trivial, trivial, trivial, trivial, trivial, trivial, trivial, trivial, trivial, trivial, trivial, trivial, trivial, trivial, trivial, trivial, trivial, trivial, trivial, trivial, trivial, trivial, trivial, trivial, trivial, trivial, trivial⟩ ⟨rfl, rfl⟩
    · rcases ite2_cases e7 with ⟨b2, e7⟩ | ⟨b2, e7⟩
      · replace e7 := some_eq e7
        subst e7
        exact AW.regionA [.no, .no, .no, .dec false, .no, .no, .no, .no, .dec true] [1, 34] [1] (s' := ⟨[(1, (.v (.one (.ptr 1 0)))), (34, (.v (.one (.c (.bool true)))))], [(1, (.box [(.c (.int .i64 a0.Length)), (.c (.int .i64 a0.Kind)), (.c (sl 1 (csL 5 cs_Key) a0.Tracks)), (.c (sl 4 cs_RootKey a0.Roots))]))]⟩) (ob := True ∧ True ∧ True ∧ (True ∧ (decide (a0.Length < (1 : Int))) = false) ∧ True ∧ True ∧ True ∧ True ∧ (True ∧ (decide (a0.Length > (1000 : Int))) = true) ∧ True ∧ True ∧ True ∧ True ∧ True ∧ True ∧ True ∧ True ∧ True ∧ True ∧ True ∧ True ∧ True ∧ True ∧ True ∧ True ∧ True ∧ True ∧ True ∧ True ∧ True ∧ True) (by kernel_rfl) ⟨trivial, trivial, trivial, ⟨trivial, b1⟩, trivial, trivial, trivial, trivial, ⟨trivial, b2⟩, trivial, trivial, trivial, trivial, trivial, trivial, trivial, trivial, trivial, trivial, trivial, trivial, trivial, trivial, trivial, trivial, trivial, trivial, trivial, trivial, trivial, trivial⟩ ⟨rfl, rfl⟩
      · rcases ite2_cases e7 with ⟨b3, e7⟩ | ⟨b3, e7⟩
        · replace e7 := some_eq e7
          subst e7
          exact AW.regionA [.no, .no, .no, .dec false, .no, .no, .no, .no, .dec false, .no, .no, .no, .no, .dec true] [1, 34] [1] (s' := ⟨[(1, (.v (.one (.ptr 1 0)))), (34, (.v (.one (.c (.bool true)))))], [(1, (.box [(.c (.int .i64 a0.Length)), (.c (.int .i64 a0.Kind)), (.c (sl 1 (csL 5 cs_Key) a0.Tracks)), (.c (sl 4 cs_RootKey a0.Roots))]))]⟩) (ob := True ∧ True ∧ True ∧ (True ∧ (decide (a0.Length < (1 : Int))) = false) ∧ True ∧ True ∧ True ∧ True ∧ (True ∧ (decide (a0.Length > (1000 : Int))) = false) ∧ True ∧ True ∧ True ∧ True ∧ (True ∧ (decide (a0.Kind < (0 : Int))) = true) ∧ True ∧ True ∧ True ∧ True ∧ True ∧ True ∧ True ∧ True ∧ True ∧ True ∧ True ∧ True ∧ True ∧ True ∧ True ∧ True ∧ True) (by kernel_rfl) ⟨trivial, trivial, trivial, ⟨trivial, b1⟩, trivial, trivial, trivial, trivial, ⟨trivial, b2⟩, trivial, trivial, trivial, trivial, ⟨trivial, b3⟩, trivial, trivial, trivial, trivial, trivial, trivial, trivial, trivial, trivial, trivial, trivial, trivial, trivial, trivial, trivial, trivial, trivial⟩ ⟨rfl, rfl⟩
        · rcases ite2_cases e7 with ⟨b4, e7⟩ | ⟨b4, e7⟩
          · replace e7 := some_eq e7
            subst e7
            exact AW.regionA [.no, .no, .no, .dec false, .no, .no, .no, .no, .dec false, .no, .no, .no, .no, .dec false, .no, .no, .no, .no, .dec true] [1, 34] [1] (s' := ⟨[(1, (.v (.one (.ptr 1 0)))), (34, (.v (.one (.c (.bool true)))))], [(1, (.box [(.c (.int .i64 a0.Length)), (.c (.int .i64 a0.Kind)), (.c (sl 1 (csL 5 cs_Key) a0.Tracks)), (.c (sl 4 cs_RootKey a0.Roots))]))]⟩) (ob := True ∧ True ∧ True ∧ (True ∧ (decide (a0.Length < (1 : Int))) = false) ∧ True ∧ True ∧ True ∧ True ∧ (True ∧ (decide (a0.Length > (1000 : Int))) = false) ∧ True ∧ True ∧ True ∧ True ∧ (True ∧ (decide (a0.Kind < (0 : Int))) = false) ∧ True ∧ True ∧ True ∧ True ∧ (True ∧ (decide (a0.Kind > (2 : Int))) = true) ∧ True ∧ True ∧ True ∧ True ∧ True ∧ True ∧ True ∧ True ∧ True ∧ True ∧ True ∧ True) (by kernel_rfl) ⟨trivial, trivial, trivial, ⟨trivial, b1⟩, trivial, trivial, trivial, trivial, ⟨trivial, b2⟩, trivial, trivial, trivial, trivial, ⟨trivial, b3⟩, trivial, trivial, trivial, trivial, ⟨trivial, b4⟩, trivial, trivial, trivial, trivial, trivial, trivial, trivial, trivial, trivial, trivial, trivial, trivial⟩ ⟨rfl, rfl⟩
          · rcases ite2_cases e7 with ⟨b5, e7⟩ | ⟨b5, e7⟩
            · replace e7 := some_eq e7
              subst e7
              exact AW.regionA [.no, .no, .no, .dec false, .no, .no, .no, .no, .dec false, .no, .no, .no, .no, .dec false, .no, .no, .no, .no, .dec false, .no, .no, .no, .no, .no, .dec true] [1, 34] [1] (s' := ⟨[(1, (.v (.one (.ptr 1 0)))), (34, (.v (.one (.c (.bool true)))))], [(1, (.box [(.c (.int .i64 a0.Length)), (.c (.int .i64 a0.Kind)), (.c (sl 1 (csL 5 cs_Key) a0.Tracks)), (.c (sl 4 cs_RootKey a0.Roots))]))]⟩) (ob := True ∧ True ∧ True ∧ (True ∧ (decide (a0.Length < (1 : Int))) = false) ∧ True ∧ True ∧ True ∧ True ∧ (True ∧ (decide (a0.Length > (1000 : Int))) = false) ∧ True ∧ True ∧ True ∧ True ∧ (True ∧ (decide (a0.Kind < (0 : Int))) = false) ∧ True ∧ True ∧ True ∧ True ∧ (True ∧ (decide (a0.Kind > (2 : Int))) = false) ∧ True ∧ True ∧ True ∧ True ∧ True ∧ (True ∧ (decide ((a0.Tracks.length : Int) < (1 : Int))) = true) ∧ True ∧ True ∧ True ∧ True ∧ True ∧ True) (by kernel_rfl) ⟨trivial, trivial, trivial, ⟨trivial, b1⟩, trivial, trivial, trivial, trivial, ⟨trivial, b2⟩, trivial, trivial, trivial, trivial, ⟨trivial, b3⟩, trivial, trivial, trivial, trivial, ⟨trivial, b4⟩, trivial, trivial, trivial, trivial, trivial, ⟨trivial, b5⟩, trivial, trivial, trivial, trivial, trivial, trivial⟩ ⟨rfl, rfl⟩
            · replace e7 := some_eq e7
              subst e7
              exact AW.regionA [.no, .no, .no, .dec false, .no, .no, .no, .no, .dec false, .no, .no, .no, .no, .dec false, .no, .no, .no, .no, .dec false, .no, .no, .no, .no, .no, .dec false] [1, 34] [1] (s' := ⟨[(1, (.v (.one (.ptr 1 0)))), (34, (.v (.one (.c (.bool (decide ((a0.Tracks.length : Int) > (12 : Int))))))))], [(1, (.box [(.c (.int .i64 a0.Length)), (.c (.int .i64 a0.Kind)), (.c (sl 1 (csL 5 cs_Key) a0.Tracks)), (.c (sl 4 cs_RootKey a0.Roots))]))]⟩) (ob := True ∧ True ∧ True ∧ (True ∧ (decide (a0.Length < (1 : Int))) = false) ∧ True ∧ True ∧ True ∧ True ∧ (True ∧ (decide (a0.Length > (1000 : Int))) = false) ∧ True ∧ True ∧ True ∧ True ∧ (True ∧ (decide (a0.Kind < (0 : Int))) = false) ∧ True ∧ True ∧ True ∧ True ∧ (True ∧ (decide (a0.Kind > (2 : Int))) = false) ∧ True ∧ True ∧ True ∧ True ∧ True ∧ (True ∧ (decide ((a0.Tracks.length : Int) < (1 : Int))) = false) ∧ True ∧ True ∧ True ∧ True ∧ True ∧ True) (by kernel_rfl) ⟨trivial, trivial, trivial, ⟨trivial, b1⟩, trivial, trivial, trivial, trivial, ⟨trivial, b2⟩, trivial, trivial, trivial, trivial, ⟨trivial, b3⟩, trivial, trivial, trivial, trivial, ⟨trivial, b4⟩, trivial, trivial, trivial, trivial, trivial, ⟨trivial, b5⟩, trivial, trivial, trivial, trivial, trivial, trivial⟩ ⟨rfl, rfl⟩
  refine thenQ_normal ?_
  rcases ite2_cases h with ⟨b8, h⟩ | ⟨b8, h⟩
  · refine AW.cond_t rfl b8 ?_
    refine AW.seq ?_
    refine AW.regionA [] [2] [] (s' := ⟨[(2, (.v (.one (.c (.bool false)))))], []⟩) (ob := True ∧ True) (by kernel_rfl) ⟨trivial, trivial⟩ ?_
    refine thenQ_normal ?_
    refine AW.ret ?_
    refine thenQ_ret ?_
    replace h := some_eq h
    subst h
    exact ⟨.inr rfl, retOK_of [(.one (.c (.bool false)))] (by kernel_rfl) ⟨⟨rfl, trivial⟩, trivial⟩ (of_decide_eq_true (by kernel_rfl))⟩
  · refine AW.cond_f rfl b8 ?_
    refine AW.skip ?_
    refine thenQ_normal ?_
    refine AW.seq ?_
    refine AW.seq ?_
    refine AW.regionA [] [1, 36, 37, 38] [1] (s' := ⟨[(1, (.v (.one (.ptr 1 0)))), (36, (.v (.one (.c (sl 1 (csL 5 cs_Key) a0.Tracks))))), (37, (.v (.one (.c (.int .i64 (a0.Tracks.length : Int)))))), (38, (.v (.one (.c (.int .i64 (0 : Int))))))], [(1, (.box [(.c (.int .i64 a0.Length)), (.c (.int .i64 a0.Kind)), (.c (sl 1 (csL 5 cs_Key) a0.Tracks)), (.c (sl 4 cs_RootKey a0.Roots))]))]⟩) (ob := True ∧ True ∧ True ∧ True ∧ True) (by kernel_rfl) ⟨trivial, trivial, trivial, trivial, trivial⟩ ?_
    refine thenQ_normal ?_
    refine AW.block ?_
    refine AW.loopQ (σ := Nat × Int) (fun p => ⟨[(1, (.v (.one (.ptr 1 0)))), (36, (.v (.one (.c (sl 1 (csL 5 cs_Key) a0.Tracks))))), (37, (.v (.one (.c (.int .i64 (a0.Tracks.length : Int)))))), (38, (.v (.one (.c (.int .i64 p.2)))))], [(1, (.box [(.c (.int .i64 a0.Length)), (.c (.int .i64 a0.Kind)), (.c (sl 1 (csL 5 cs_Key) a0.Tracks)), (.c (sl 4 cs_RootKey a0.Roots))]))]⟩) (fun p => impl_ValidClip_l1 K a0 p.1 p.2 = some o) (fun p => p.1) (K, (0 : Int)) h ?_
    clear h
    rintro ⟨k, x10⟩ h
    replace h : impl_ValidClip_l1 K a0 k x10 = some o := h
    show AW _ _ (⟨[(1, (.v (.one (.ptr 1 0)))), (36, (.v (.one (.c (sl 1 (csL 5 cs_Key) a0.Tracks))))), (37, (.v (.one (.c (.int .i64 (a0.Tracks.length : Int)))))), (38, (.v (.one (.c (.int .i64 x10)))))], [(1, (.box [(.c (.int .i64 a0.Length)), (.c (.int .i64 a0.Kind)), (.c (sl 1 (csL 5 cs_Key) a0.Tracks)), (.c (sl 4 cs_RootKey a0.Roots))]))]⟩ : St) _
    obtain _ | k := k
    · rw [impl_ValidClip_l1] at h; cases h
    rw [impl_ValidClip_l1] at h
    refine AW.seq ?_
    refine AW.regionA [] [1, 36, 37, 38, 39] [1] (s' := ⟨[(1, (.v (.one (.ptr 1 0)))), (36, (.v (.one (.c (sl 1 (csL 5 cs_Key) a0.Tracks))))), (37, (.v (.one (.c (.int .i64 (a0.Tracks.length : Int)))))), (38, (.v (.one (.c (.int .i64 x10))))), (39, (.v (.one (.c (.bool (decide (x10 < (a0.Tracks.length : Int))))))))], [(1, (.box [(.c (.int .i64 a0.Length)), (.c (.int .i64 a0.Kind)), (.c (sl 1 (csL 5 cs_Key) a0.Tracks)), (.c (sl 4 cs_RootKey a0.Roots))]))]⟩) (ob := True ∧ True) (by kernel_rfl) ⟨trivial, trivial⟩ ?_
    refine thenQ_normal ?_
    refine AW.seq ?_
    rcases ite2_cases h with ⟨b11, h⟩ | ⟨b11, h⟩
    · refine AW.cond_t rfl b11 ?_
      refine AW.skip ?_
      refine thenQ_normal ?_
      refine AW.seq ?_
      refine AW.block ?_
      refine AW.seq ?_
      obtain ⟨c12, h⟩ := chk_some h
      refine AW.regionA [] [1, 4, 36, 37, 38] [1] (s' := ⟨[(1, (.v (.one (.ptr 1 0)))), (4, (.v (.one (.c (sl 5 cs_Key (a0.Tracks.getD x10.toNat default)))))), (36, (.v (.one (.c (sl 1 (csL 5 cs_Key) a0.Tracks))))), (37, (.v (.one (.c (.int .i64 (a0.Tracks.length : Int)))))), (38, (.v (.one (.c (.int .i64 x10)))))], [(1, (.box [(.c (.int .i64 a0.Length)), (.c (.int .i64 a0.Kind)), (.c (sl 1 (csL 5 cs_Key) a0.Tracks)), (.c (sl 4 cs_RootKey a0.Roots))]))]⟩) (ob := (0 ≤ x10 ∧ x10 < (a0.Tracks.length : Int)) ∧ True ∧ True ∧ True) (by kernel_rfl) ⟨c12, trivial, trivial, trivial⟩ ?_
      refine thenQ_normal ?_
      refine AW.seq ?_
      obtain ⟨v13, e14, h⟩ := bind_some h
      obtain ⟨v15, e16, h⟩ := bind_some h
      refine AW.drawnA (by kernel_rfl) 6 [.call [] [.agg [(.fn 146 0 fun _ => .nilptr), (.fn 147 0 fun _ => .nilptr), (.fn 148 0 fun _ => .nilptr)]] [[.view, .view, .view]], .no, .no, .no, .call [.agg [(.fn 146 0 fun _ => .nilptr), (.fn 147 0 fun _ => .nilptr), (.fn 148 0 fun _ => .nilptr)], .one (sl 5 cs_Key (a0.Tracks.getD x10.toNat default)), .one (.int .i64 a0.Length)] [.one (.bool v15)] [[.view]]] [1, 36, 37, 38, 47] [1] (s' := ⟨[(1, (.v (.one (.ptr 1 0)))), (36, (.v (.one (.c (sl 1 (csL 5 cs_Key) a0.Tracks))))), (37, (.v (.one (.c (.int .i64 (a0.Tracks.length : Int)))))), (38, (.v (.one (.c (.int .i64 x10))))), (47, (.v (.one (.c (.bool (!v15))))))], [(1, (.box [(.c (.int .i64 a0.Length)), (.c (.int .i64 a0.Kind)), (.c (sl 1 (csL 5 cs_Key) a0.Tracks)), (.c (sl 4 cs_RootKey a0.Roots))]))]⟩) (ob := (((True) ∧ CallOK Try.prog 76 [] [.agg [(.fn 146 0 fun _ => .nilptr), (.fn 147 0 fun _ => .nilptr), (.fn 148 0 fun _ => .nilptr)]]) ∧ True ∧ True ∧ True ∧ ((((((.fn 146 0 fun _ => .nilptr) : C) = (.fn 146 0 fun _ => .nilptr)) ∧ (((.fn 147 0 fun _ => .nilptr) : C) = (.fn 147 0 fun _ => .nilptr)) ∧ (((.fn 148 0 fun _ => .nilptr) : C) = (.fn 148 0 fun _ => .nilptr)) ∧ True) ∧ (((sl 5 cs_Key (a0.Tracks.getD x10.toNat default)) : C) = (sl 5 cs_Key (a0.Tracks.getD x10.toNat default))) ∧ (((.int .i64 a0.Length) : C) = (.int .i64 a0.Length)) ∧ True) ∧ CallOK Try.prog 139 [.agg [(.fn 146 0 fun _ => .nilptr), (.fn 147 0 fun _ => .nilptr), (.fn 148 0 fun _ => .nilptr)], .one (sl 5 cs_Key (a0.Tracks.getD x10.toNat default)), .one (.int .i64 a0.Length)] [.one (.bool v15)]) ∧ True ∧ True) ∧ (True)) (by kernel_rfl) ⟨⟨⟨trivial, ok_impl_turnTrack K v13 e14⟩, trivial, trivial, trivial, ⟨⟨⟨rfl, rfl, rfl, trivial⟩, rfl, rfl, trivial⟩, ok_impl_track_impl_Key_valid K (a0.Tracks.getD x10.toNat default) a0.Length v15 e16⟩, trivial, trivial⟩, trivial⟩ ?_
      refine thenQ_normal ?_
      rcases ite2_cases h with ⟨b17, h⟩ | ⟨b17, h⟩
      · refine AW.cond_t rfl b17 ?_
        refine AW.seq ?_
        refine AW.regionA [] [2] [] (s' := ⟨[(2, (.v (.one (.c (.bool false)))))], []⟩) (ob := True ∧ True) (by kernel_rfl) ⟨trivial, trivial⟩ ?_
        refine thenQ_normal ?_
        refine AW.ret ?_
        refine blockQ_ret ?_
        refine thenQ_ret ?_
        refine loopQ_ret ?_
        refine blockQ_ret ?_
        refine thenQ_ret ?_
        replace h := some_eq h
        subst h
        exact ⟨.inr rfl, retOK_of [(.one (.c (.bool false)))] (by kernel_rfl) ⟨⟨rfl, trivial⟩, trivial⟩ (of_decide_eq_true (by kernel_rfl))⟩
      · refine AW.cond_f rfl b17 ?_
        refine AW.skip ?_
        refine blockQ_normal ?_
        refine thenQ_normal ?_
        refine AW.regionA [] [1, 36, 37, 38] [1] (s' := ⟨[(1, (.v (.one (.ptr 1 0)))), (36, (.v (.one (.c (sl 1 (csL 5 cs_Key) a0.Tracks))))), (37, (.v (.one (.c (.int .i64 (a0.Tracks.length : Int)))))), (38, (.v (.one (.c (.int .i64 (IntKind.i64.wrap (x10 + (1 : Int))))))))], [(1, (.box [(.c (.int .i64 a0.Length)), (.c (.int .i64 a0.Kind)), (.c (sl 1 (csL 5 cs_Key) a0.Tracks)), (.c (sl 4 cs_RootKey a0.Roots))]))]⟩) (ob := True ∧ True ∧ True) (by kernel_rfl) ⟨trivial, trivial, trivial⟩ ?_
        exact loopQ_normal (k, (IntKind.i64.wrap (x10 + (1 : Int)))) h (Nat.lt_succ_self k) (Sub.keep [1, 36, 37, 38] [1] (by kernel_rfl) (by kernel_rfl))
    · refine AW.cond_f rfl b11 ?_
      refine AW.exit ?_
      refine thenQ_exit ?_
      refine loopQ_exit ?_
      refine blockQ_exit ?_
      refine thenQ_normal ?_
      refine AW.seq ?_
      obtain ⟨v18, e19, h⟩ := bind_some h
      obtain ⟨v20, e21, h⟩ := bind_some h
      refine AW.drawnA (by kernel_rfl) 7 [.call [] [.agg [(.fn 150 0 fun _ => .nilptr), (.fn 151 0 fun _ => .nilptr), (.fn 152 0 fun _ => .nilptr)]] [[.view, .view, .view]], .no, .no, .no, .no, .call [.agg [(.fn 150 0 fun _ => .nilptr), (.fn 151 0 fun _ => .nilptr), (.fn 152 0 fun _ => .nilptr)], .one (sl 4 cs_RootKey a0.Roots), .one (.int .i64 a0.Length)] [.one (.bool v20)] [[.view]]] [2] [] (s' := ⟨[(2, (.v (.one (.c (.bool v20)))))], []⟩) (ob := (((True) ∧ CallOK Try.prog 79 [] [.agg [(.fn 150 0 fun _ => .nilptr), (.fn 151 0 fun _ => .nilptr), (.fn 152 0 fun _ => .nilptr)]]) ∧ True ∧ True ∧ True ∧ True ∧ ((((((.fn 150 0 fun _ => .nilptr) : C) = (.fn 150 0 fun _ => .nilptr)) ∧ (((.fn 151 0 fun _ => .nilptr) : C) = (.fn 151 0 fun _ => .nilptr)) ∧ (((.fn 152 0 fun _ => .nilptr) : C) = (.fn 152 0 fun _ => .nilptr)) ∧ True) ∧ (((sl 4 cs_RootKey a0.Roots) : C) = (sl 4 cs_RootKey a0.Roots)) ∧ (((.int .i64 a0.Length) : C) = (.int .i64 a0.Length)) ∧ True) ∧ CallOK Try.prog 140 [.agg [(.fn 150 0 fun _ => .nilptr), (.fn 151 0 fun _ => .nilptr), (.fn 152 0 fun _ => .nilptr)], .one (sl 4 cs_RootKey a0.Roots), .one (.int .i64 a0.Length)] [.one (.bool v20)]) ∧ True ∧ True) ∧ (True)) (by kernel_rfl) ⟨⟨⟨trivial, ok_impl_rootTrack K v18 e19⟩, trivial, trivial, trivial, trivial, ⟨⟨⟨rfl, rfl, rfl, trivial⟩, rfl, rfl, trivial⟩, ok_impl_track_impl_RootKey_valid K a0.Roots a0.Length v20 e21⟩, trivial, trivial⟩, trivial⟩ ?_
      refine thenQ_normal ?_
      refine AW.ret ?_
      replace h := some_eq h
      subst h
      exact ⟨.inr rfl, retOK_of [(.one (.c (.bool v20)))] (by kernel_rfl) ⟨⟨rfl, trivial⟩, trivial⟩ (of_decide_eq_true (by kernel_rfl))⟩

/-! impl.ValidSkeleton -/
def impl_ValidSkeleton_l1 (K : Nat) (a0 : Skeleton) : Nat → Int → Option (Bool)
  | 0, _ => none
  | k + 1, x9 => ite2 ((decide (x9 < (((a0.Bones.drop (1 : Int).toNat).take ((a0.Bones.length : Int).toNat - (1 : Int).toNat)).length : Int)))) (chk (0 ≤ x9 ∧ x9 < (((a0.Bones.drop (1 : Int).toNat).take ((a0.Bones.length : Int).toNat - (1 : Int).toNat)).length : Int)) ((ite2 ((decide (((((a0.Bones.drop (1 : Int).toNat).take ((a0.Bones.length : Int).toNat - (1 : Int).toNat)).getD x9.toNat default).Parent) < (0 : Int)))) (some true) (some (decide (((((a0.Bones.drop (1 : Int).toNat).take ((a0.Bones.length : Int).toNat - (1 : Int).toNat)).getD x9.toNat default).Parent) > x9)))).bind fun j13 => ite2 (j13) (some false) (impl_ValidSkeleton_l1 K a0 k (IntKind.i64.wrap (x9 + (1 : Int)))))) (some true)

def impl_ValidSkeleton (K : Nat) (a0 : Skeleton) : Option (Bool) :=
  (ite2 ((decide ((a0.Bones.length : Int) < (1 : Int)))) (some true) (ite2 ((decide ((a0.Bones.length : Int) > (12 : Int)))) (some true) (chk (0 ≤ (0 : Int) ∧ (0 : Int) < (a0.Bones.length : Int)) (some (((a0.Bones.getD ((0 : Int).toNat) default).Parent) != ((-1) : Int)))))).bind fun j4 => ite2 (j4) (some false) (chk (0 ≤ (1 : Int) ∧ (1 : Int) ≤ (a0.Bones.length : Int) ∧ (a0.Bones.length : Int) ≤ (a0.Bones.length : Int)) (impl_ValidSkeleton_l1 K a0 K (0 : Int)))

theorem ok_impl_ValidSkeleton (K : Nat) (a0 : Skeleton) (o : (Bool)) (h : impl_ValidSkeleton K a0 = some o) : CallOK Try.prog 112 [.agg (cs_Skeleton a0)] [.one (.bool o)] := by
  refine callOK_of_AW Try.func112 rfl (by kernel_rfl) (Nat.le_of_ble_eq_true (by kernel_rfl)) ?_
  intro w0
  unfold impl_ValidSkeleton at h
  refine AW.seq ?_
  refine AW.regionA [.box 1] [1] [1] (s' := ⟨[(1, (.v (.one (.ptr 1 0))))], [(1, (.box [(.c (sl 4 cs_Bone a0.Bones))]))]⟩) (ob := True ∧ True ∧ True) (by kernel_rfl) ⟨trivial, trivial, trivial⟩ ?_
  refine thenQ_normal ?_
  refine AW.seq ?_
  refine AW.seq ?_
  obtain ⟨j4, e5, h⟩ := bind_some h
  refine AW.join1 (s2 := ⟨[(1, (.v (.one (.ptr 1 0)))), (22, (.v (.one (.c (.bool j4)))))], [(1, (.box [(.c (sl 4 cs_Bone a0.Bones))]))]⟩) ?_ ?_
  · rcases ite2_cases e5 with ⟨b1, e5⟩ | ⟨b1, e5⟩
    · replace e5 := some_eq e5
      subst e5
      exact AW.regionA [.no, .no, .no, .no, .dec true] [1, 22] [1] (s' := ⟨[(1, (.v (.one (.ptr 1 0)))), (22, (.v (.one (.c (.bool true)))))], [(1, (.box [(.c (sl 4 cs_Bone a0.Bones))]))]⟩) (ob := True ∧ True ∧ True ∧ True ∧ (True ∧ (decide ((a0.Bones.length : Int) < (1 : Int))) = true) ∧ True ∧ True ∧ True ∧ True ∧ True ∧ True ∧ True ∧ True ∧ True ∧ True ∧ True ∧ True ∧ True ∧ True) (by kernel_rfl) ⟨trivial, trivial, trivial, trivial, ⟨trivial, b1⟩, trivial, trivial, trivial, trivial, trivial, trivial, trivial, trivial, trivial, trivial, trivial, trivial, trivial, trivial⟩ ⟨rfl, rfl⟩
    · rcases ite2_cases e5 with ⟨b2, e5⟩ | ⟨b2, e5⟩
      · replace e5 := some_eq e5
        subst e5
        exact AW.regionA [.no, .no, .no, .no, .dec false, .no, .no, .no, .no, .no, .dec true] [1, 22] [1] (s' := ⟨[(1, (.v (.one (.ptr 1 0)))), (22, (.v (.one (.c (.bool true)))))], [(1, (.box [(.c (sl 4 cs_Bone a0.Bones))]))]⟩) (ob := True ∧ True ∧ True ∧ True ∧ (True ∧ (decide ((a0.Bones.length : Int) < (1 : Int))) = false) ∧ True ∧ True ∧ True ∧ True ∧ True ∧ (True ∧ (decide ((a0.Bones.length : Int) > (12 : Int))) = true) ∧ True ∧ True ∧ True ∧ True ∧ True ∧ True ∧ True ∧ True) (by kernel_rfl) ⟨trivial, trivial, trivial, trivial, ⟨trivial, b1⟩, trivial, trivial, trivial, trivial, trivial, ⟨trivial, b2⟩, trivial, trivial, trivial, trivial, trivial, trivial, trivial, trivial⟩ ⟨rfl, rfl⟩
      · obtain ⟨c3, e5⟩ := chk_some e5
        replace e5 := some_eq e5
        subst e5
        exact AW.regionA [.no, .no, .no, .no, .dec false, .no, .no, .no, .no, .no, .dec false] [1, 22] [1] (s' := ⟨[(1, (.v (.one (.ptr 1 0)))), (22, (.v (.one (.c (.bool (((a0.Bones.getD ((0 : Int).toNat) default).Parent) != ((-1) : Int)))))))], [(1, (.box [(.c (sl 4 cs_Bone a0.Bones))]))]⟩) (ob := True ∧ True ∧ True ∧ True ∧ (True ∧ (decide ((a0.Bones.length : Int) < (1 : Int))) = false) ∧ True ∧ True ∧ True ∧ True ∧ True ∧ (True ∧ (decide ((a0.Bones.length : Int) > (12 : Int))) = false) ∧ True ∧ True ∧ (0 ≤ (0 : Int) ∧ (0 : Int) < (a0.Bones.length : Int)) ∧ True ∧ True ∧ True ∧ True ∧ True) (by kernel_rfl) ⟨trivial, trivial, trivial, trivial, ⟨trivial, b1⟩, trivial, trivial, trivial, trivial, trivial, ⟨trivial, b2⟩, trivial, trivial, c3, trivial, trivial, trivial, trivial, trivial⟩ ⟨rfl, rfl⟩
  refine thenQ_normal ?_
  rcases ite2_cases h with ⟨b6, h⟩ | ⟨b6, h⟩
  · refine AW.cond_t rfl b6 ?_
    refine AW.seq ?_
    refine AW.regionA [] [2] [] (s' := ⟨[(2, (.v (.one (.c (.bool false)))))], []⟩) (ob := True ∧ True) (by kernel_rfl) ⟨trivial, trivial⟩ ?_
    refine thenQ_normal ?_
    refine AW.ret ?_
    refine thenQ_ret ?_
    replace h := some_eq h
    subst h
    exact ⟨.inr rfl, retOK_of [(.one (.c (.bool false)))] (by kernel_rfl) ⟨⟨rfl, trivial⟩, trivial⟩ (of_decide_eq_true (by kernel_rfl))⟩
  · refine AW.cond_f rfl b6 ?_
    refine AW.skip ?_
    refine thenQ_normal ?_
    refine AW.seq ?_
    refine AW.seq ?_
    obtain ⟨c7, h⟩ := chk_some h
    refine AW.regionA [.no, .no, .seq ((a0.Bones.drop (1 : Int).toNat).take ((a0.Bones.length : Int).toNat - (1 : Int).toNat)).length (gl cs_Bone ((a0.Bones.drop (1 : Int).toNat).take ((a0.Bones.length : Int).toNat - (1 : Int).toNat)))] [25, 26, 27] [] (s' := ⟨[(25, (.v (.one (.c (sl 4 cs_Bone ((a0.Bones.drop (1 : Int).toNat).take ((a0.Bones.length : Int).toNat - (1 : Int).toNat))))))), (26, (.v (.one (.c (.int .i64 (((a0.Bones.drop (1 : Int).toNat).take ((a0.Bones.length : Int).toNat - (1 : Int).toNat)).length : Int)))))), (27, (.v (.one (.c (.int .i64 (0 : Int))))))], []⟩) (ob := True ∧ True ∧ (0 ≤ (1 : Int) ∧ (1 : Int) ≤ (a0.Bones.length : Int) ∧ (a0.Bones.length : Int) ≤ (a0.Bones.length : Int) ∧ ((((a0.Bones.drop (1 : Int).toNat).take ((a0.Bones.length : Int).toNat - (1 : Int).toNat)).length : Nat) : Int) = (a0.Bones.length : Int) - (1 : Int) ∧ ∀ i j, i < ((a0.Bones.drop (1 : Int).toNat).take ((a0.Bones.length : Int).toNat - (1 : Int).toNat)).length → j < 4 → gl cs_Bone ((a0.Bones.drop (1 : Int).toNat).take ((a0.Bones.length : Int).toNat - (1 : Int).toNat)) i j = gl cs_Bone a0.Bones ((1 : Int).toNat + i) j) ∧ True ∧ True ∧ True) (by kernel_rfl) ⟨trivial, trivial, ⟨c7.1, c7.2.1, c7.2.2, (gl_drop (sz := 4) (cs := cs_Bone) c7.1 c7.2.1 c7.2.2).1, (gl_drop c7.1 c7.2.1 c7.2.2).2⟩, trivial, trivial, trivial⟩ ?_
    refine thenQ_normal ?_
    refine AW.block ?_
    refine AW.loopQ (σ := Nat × Int) (fun p => ⟨[(25, (.v (.one (.c (sl 4 cs_Bone ((a0.Bones.drop (1 : Int).toNat).take ((a0.Bones.length : Int).toNat - (1 : Int).toNat))))))), (26, (.v (.one (.c (.int .i64 (((a0.Bones.drop (1 : Int).toNat).take ((a0.Bones.length : Int).toNat - (1 : Int).toNat)).length : Int)))))), (27, (.v (.one (.c (.int .i64 p.2)))))], []⟩) (fun p => impl_ValidSkeleton_l1 K a0 p.1 p.2 = some o) (fun p => p.1) (K, (0 : Int)) h ?_
    clear h
    rintro ⟨k, x9⟩ h
    replace h : impl_ValidSkeleton_l1 K a0 k x9 = some o := h
    show AW _ _ (⟨[(25, (.v (.one (.c (sl 4 cs_Bone ((a0.Bones.drop (1 : Int).toNat).take ((a0.Bones.length : Int).toNat - (1 : Int).toNat))))))), (26, (.v (.one (.c (.int .i64 (((a0.Bones.drop (1 : Int).toNat).take ((a0.Bones.length : Int).toNat - (1 : Int).toNat)).length : Int)))))), (27, (.v (.one (.c (.int .i64 x9)))))], []⟩ : St) _
    obtain _ | k := k
    · rw [impl_ValidSkeleton_l1] at h; cases h
    rw [impl_ValidSkeleton_l1] at h
    refine AW.seq ?_
    refine AW.regionA [] [25, 26, 27, 28] [] (s' := ⟨[(25, (.v (.one (.c (sl 4 cs_Bone ((a0.Bones.drop (1 : Int).toNat).take ((a0.Bones.length : Int).toNat - (1 : Int).toNat))))))), (26, (.v (.one (.c (.int .i64 (((a0.Bones.drop (1 : Int).toNat).take ((a0.Bones.length : Int).toNat - (1 : Int).toNat)).length : Int)))))), (27, (.v (.one (.c (.int .i64 x9))))), (28, (.v (.one (.c (.bool (decide (x9 < (((a0.Bones.drop (1 : Int).toNat).take ((a0.Bones.length : Int).toNat - (1 : Int).toNat)).length : Int))))))))], []⟩) (ob := True ∧ True) (by kernel_rfl) ⟨trivial, trivial⟩ ?_
    refine thenQ_normal ?_
    refine AW.seq ?_
    rcases ite2_cases h with ⟨b10, h⟩ | ⟨b10, h⟩
    · refine AW.cond_t rfl b10 ?_
      refine AW.skip ?_
      refine thenQ_normal ?_
      refine AW.seq ?_
      refine AW.block ?_
      refine AW.seq ?_
      obtain ⟨c11, h⟩ := chk_some h
      refine AW.regionA [.no, .no, .no, .box 4] [3, 4, 25, 26, 27] [4] (s' := ⟨[(3, (.v (.one (.c (.int .i64 x9))))), (4, (.v (.one (.ptr 4 0)))), (25, (.v (.one (.c (sl 4 cs_Bone ((a0.Bones.drop (1 : Int).toNat).take ((a0.Bones.length : Int).toNat - (1 : Int).toNat))))))), (26, (.v (.one (.c (.int .i64 (((a0.Bones.drop (1 : Int).toNat).take ((a0.Bones.length : Int).toNat - (1 : Int).toNat)).length : Int)))))), (27, (.v (.one (.c (.int .i64 x9)))))], [(4, (.box [(.c (.int .i64 ((((a0.Bones.drop (1 : Int).toNat).take ((a0.Bones.length : Int).toNat - (1 : Int).toNat)).getD x9.toNat default).Parent))), (.c (.flt .f32 (((((a0.Bones.drop (1 : Int).toNat).take ((a0.Bones.length : Int).toNat - (1 : Int).toNat)).getD x9.toNat default).Offset).X).bits)), (.c (.flt .f32 (((((a0.Bones.drop (1 : Int).toNat).take ((a0.Bones.length : Int).toNat - (1 : Int).toNat)).getD x9.toNat default).Offset).Y).bits)), (.c (.flt .f32 (((((a0.Bones.drop (1 : Int).toNat).take ((a0.Bones.length : Int).toNat - (1 : Int).toNat)).getD x9.toNat default).Offset).Z).bits))]))]⟩) (ob := True ∧ (0 ≤ x9 ∧ x9 < (((a0.Bones.drop (1 : Int).toNat).take ((a0.Bones.length : Int).toNat - (1 : Int).toNat)).length : Int)) ∧ True ∧ True ∧ True ∧ True ∧ True) (by kernel_rfl) ⟨trivial, c11, trivial, trivial, trivial, trivial, trivial⟩ ?_
      refine thenQ_normal ?_
      refine AW.seq ?_
      obtain ⟨j13, e14, h⟩ := bind_some h
      refine AW.join1 (s2 := ⟨[(25, (.v (.one (.c (sl 4 cs_Bone ((a0.Bones.drop (1 : Int).toNat).take ((a0.Bones.length : Int).toNat - (1 : Int).toNat))))))), (26, (.v (.one (.c (.int .i64 (((a0.Bones.drop (1 : Int).toNat).take ((a0.Bones.length : Int).toNat - (1 : Int).toNat)).length : Int)))))), (27, (.v (.one (.c (.int .i64 x9))))), (40, (.v (.one (.c (.bool j13)))))], []⟩) ?_ ?_
      · rcases ite2_cases e14 with ⟨b12, e14⟩ | ⟨b12, e14⟩
        · replace e14 := some_eq e14
          subst e14
          exact AW.regionA [.no, .no, .no, .dec true] [25, 26, 27, 40] [] (s' := ⟨[(25, (.v (.one (.c (sl 4 cs_Bone ((a0.Bones.drop (1 : Int).toNat).take ((a0.Bones.length : Int).toNat - (1 : Int).toNat))))))), (26, (.v (.one (.c (.int .i64 (((a0.Bones.drop (1 : Int).toNat).take ((a0.Bones.length : Int).toNat - (1 : Int).toNat)).length : Int)))))), (27, (.v (.one (.c (.int .i64 x9))))), (40, (.v (.one (.c (.bool true)))))], []⟩) (ob := True ∧ True ∧ True ∧ (True ∧ (decide (((((a0.Bones.drop (1 : Int).toNat).take ((a0.Bones.length : Int).toNat - (1 : Int).toNat)).getD x9.toNat default).Parent) < (0 : Int))) = true) ∧ True ∧ True ∧ True ∧ True ∧ True ∧ True) (by kernel_rfl) ⟨trivial, trivial, trivial, ⟨trivial, b12⟩, trivial, trivial, trivial, trivial, trivial, trivial⟩ ⟨rfl, rfl⟩
        · replace e14 := some_eq e14
          subst e14
          exact AW.regionA [.no, .no, .no, .dec false] [25, 26, 27, 40] [] (s' := ⟨[(25, (.v (.one (.c (sl 4 cs_Bone ((a0.Bones.drop (1 : Int).toNat).take ((a0.Bones.length : Int).toNat - (1 : Int).toNat))))))), (26, (.v (.one (.c (.int .i64 (((a0.Bones.drop (1 : Int).toNat).take ((a0.Bones.length : Int).toNat - (1 : Int).toNat)).length : Int)))))), (27, (.v (.one (.c (.int .i64 x9))))), (40, (.v (.one (.c (.bool (decide (((((a0.Bones.drop (1 : Int).toNat).take ((a0.Bones.length : Int).toNat - (1 : Int).toNat)).getD x9.toNat default).Parent) > x9)))))))], []⟩) (ob := True ∧ True ∧ True ∧ (True ∧ (decide (((((a0.Bones.drop (1 : Int).toNat).take ((a0.Bones.length : Int).toNat - (1 : Int).toNat)).getD x9.toNat default).Parent) < (0 : Int))) = false) ∧ True ∧ True ∧ True ∧ True ∧ True ∧ True) (by kernel_rfl) ⟨trivial, trivial, trivial, ⟨trivial, b12⟩, trivial, trivial, trivial, trivial, trivial, trivial⟩ ⟨rfl, rfl⟩
      refine thenQ_normal ?_
      rcases ite2_cases h with ⟨b15, h⟩ | ⟨b15, h⟩
      · refine AW.cond_t rfl b15 ?_
        refine AW.seq ?_
        refine AW.regionA [] [2] [] (s' := ⟨[(2, (.v (.one (.c (.bool false)))))], []⟩) (ob := True ∧ True) (by kernel_rfl) ⟨trivial, trivial⟩ ?_
        refine thenQ_normal ?_
        refine AW.ret ?_
        refine blockQ_ret ?_
        refine thenQ_ret ?_
        refine loopQ_ret ?_
        refine blockQ_ret ?_
        refine thenQ_ret ?_
        replace h := some_eq h
        subst h
        exact ⟨.inr rfl, retOK_of [(.one (.c (.bool false)))] (by kernel_rfl) ⟨⟨rfl, trivial⟩, trivial⟩ (of_decide_eq_true (by kernel_rfl))⟩
      · refine AW.cond_f rfl b15 ?_
        refine AW.skip ?_
        refine blockQ_normal ?_
        refine thenQ_normal ?_
        refine AW.regionA [] [25, 26, 27] [] (s' := ⟨[(25, (.v (.one (.c (sl 4 cs_Bone ((a0.Bones.drop (1 : Int).toNat).take ((a0.Bones.length : Int).toNat - (1 : Int).toNat))))))), (26, (.v (.one (.c (.int .i64 (((a0.Bones.drop (1 : Int).toNat).take ((a0.Bones.length : Int).toNat - (1 : Int).toNat)).length : Int)))))), (27, (.v (.one (.c (.int .i64 (IntKind.i64.wrap (x9 + (1 : Int))))))))], []⟩) (ob := True ∧ True ∧ True) (by kernel_rfl) ⟨trivial, trivial, trivial⟩ ?_
        exact loopQ_normal (k, (IntKind.i64.wrap (x9 + (1 : Int)))) h (Nat.lt_succ_self k) (Sub.keep [25, 26, 27] [] (by kernel_rfl) (by kernel_rfl))
    · refine AW.cond_f rfl b10 ?_
      refine AW.exit ?_
      refine thenQ_exit ?_
      refine loopQ_exit ?_
      refine blockQ_exit ?_
      refine thenQ_normal ?_
      refine AW.seq ?_
      refine AW.regionA [] [2] [] (s' := ⟨[(2, (.v (.one (.c (.bool true)))))], []⟩) (ob := True ∧ True) (by kernel_rfl) ⟨trivial, trivial⟩ ?_
      refine thenQ_normal ?_
      refine AW.ret ?_
      replace h := some_eq h
      subst h
      exact ⟨.inr rfl, retOK_of [(.one (.c (.bool true)))] (by kernel_rfl) ⟨⟨rfl, trivial⟩, trivial⟩ (of_decide_eq_true (by kernel_rfl))⟩

/-! impl.IsPairing$1 -/
def impl_IsPairing_1 (_K : Nat) (a0 : Int) (a1 : Int) : Option (Bool) :=
  (ite2 ((decide (a0 < (0 : Int)))) (some true) (some (decide (a0 ≥ a1)))).bind fun j2 => some j2

theorem ok_impl_IsPairing_1 (K : Nat) (a0 : Int) (a1 : Int) (o : (Bool)) (h : impl_IsPairing_1 K a0 a1 = some o) : CallOK Try.prog 114 [.one (.int .i64 a0), .one (pl 1 (csI .i64) a1)] [.one (.bool o)] := by
  refine callOK_of_AW Try.func114 rfl (by kernel_rfl) (Nat.le_of_ble_eq_true (by kernel_rfl)) ?_
  intro w0
  unfold impl_IsPairing_1 at h
  refine AW.seq ?_
  refine AW.regionA [] [0, 1] [] (s' := ⟨[(0, (.v (.one (.c (.int .i64 a0))))), (1, (.v (.one (.c (pl 1 (csI .i64) a1)))))], []⟩) (ob := True ∧ True) (by kernel_rfl) ⟨trivial, trivial⟩ ?_
  refine thenQ_normal ?_
  refine AW.seq ?_
  obtain ⟨j2, e3, h⟩ := bind_some h
  refine AW.join1 (s2 := ⟨[(3, (.v (.one (.c (.bool j2)))))], []⟩) ?_ ?_
  · rcases ite2_cases e3 with ⟨b1, e3⟩ | ⟨b1, e3⟩
    · replace e3 := some_eq e3
      subst e3
      exact AW.regionA [.no, .no, .dec true] [3] [] (s' := ⟨[(3, (.v (.one (.c (.bool true)))))], []⟩) (ob := True ∧ True ∧ (True ∧ (decide (a0 < (0 : Int))) = true) ∧ True ∧ True ∧ True ∧ True ∧ True ∧ True) (by kernel_rfl) ⟨trivial, trivial, ⟨trivial, b1⟩, trivial, trivial, trivial, trivial, trivial, trivial⟩ ⟨rfl, rfl⟩
    · replace e3 := some_eq e3
      subst e3
      exact AW.regionA [.no, .no, .dec false] [3] [] (s' := ⟨[(3, (.v (.one (.c (.bool (decide (a0 ≥ a1)))))))], []⟩) (ob := True ∧ True ∧ (True ∧ (decide (a0 < (0 : Int))) = false) ∧ True ∧ True ∧ True ∧ True ∧ True ∧ True) (by kernel_rfl) ⟨trivial, trivial, ⟨trivial, b1⟩, trivial, trivial, trivial, trivial, trivial, trivial⟩ ⟨rfl, rfl⟩
  refine thenQ_normal ?_
  refine AW.ret ?_
  replace h := some_eq h
  subst h
  exact ⟨.inr rfl, retOK_of [(.one (.c (.bool j2)))] (by kernel_rfl) ⟨⟨rfl, trivial⟩, trivial⟩ (of_decide_eq_true (by kernel_rfl))⟩

/-! slices.IndexFunc[[]int64,int64] -/
def slices_IndexFunc_int64_int64_l1 (K : Nat) (a0 : (List Int)) (a1_0_0 : Int) : Nat → Int → Option (Int)
  | 0, _ => none
  | k + 1, x2 => ite2 ((decide (x2 < (a0.length : Int)))) (chk (0 ≤ x2 ∧ x2 < (a0.length : Int)) ((impl_IsPairing_1 K (a0.getD x2.toNat default) a1_0_0).bind fun v5 => ite2 (v5) (some x2) (slices_IndexFunc_int64_int64_l1 K a0 a1_0_0 k (IntKind.i64.wrap (x2 + (1 : Int)))))) (some ((-1) : Int))

def slices_IndexFunc_int64_int64 (K : Nat) (a0 : (List Int)) (a1_0_0 : Int) : Option (Int) :=
  slices_IndexFunc_int64_int64_l1 K a0 a1_0_0 K (0 : Int)

theorem ok_slices_IndexFunc_int64_int64 (K : Nat) (a0 : (List Int)) (a1_0_0 : Int) (o : (Int)) (h : slices_IndexFunc_int64_int64 K a0 a1_0_0 = some o) : CallOK Try.prog 167 [.one (sl 1 (csI .i64) a0), .one (.fn 114 1 fun j => [(pl 1 (csI .i64) a1_0_0)].getD j .nilptr)] [.one (.int .i64 o)] := by
  refine callOK_of_AW Try.func167 rfl (by kernel_rfl) (Nat.le_of_ble_eq_true (by kernel_rfl)) ?_
  intro w0
  unfold slices_IndexFunc_int64_int64 at h
  refine AW.seq ?_
  refine AW.regionA [] [0, 1] [] (s' := ⟨[(0, (.v (.one (.c (sl 1 (csI .i64) a0))))), (1, (.v (.one (.c (.fn 114 1 fun j => [(pl 1 (csI .i64) a1_0_0)].getD j .nilptr)))))], []⟩) (ob := True ∧ True) (by kernel_rfl) ⟨trivial, trivial⟩ ?_
  refine thenQ_normal ?_
  refine AW.seq ?_
  refine AW.seq ?_
  refine AW.regionA [] [0, 1, 7, 8] [] (s' := ⟨[(0, (.v (.one (.c (sl 1 (csI .i64) a0))))), (1, (.v (.one (.c (.fn 114 1 fun j => [(pl 1 (csI .i64) a1_0_0)].getD j .nilptr))))), (7, (.v (.one (.c (.int .i64 (a0.length : Int)))))), (8, (.v (.one (.c (.int .i64 (0 : Int))))))], []⟩) (ob := True ∧ True ∧ True ∧ True) (by kernel_rfl) ⟨trivial, trivial, trivial, trivial⟩ ?_
  refine thenQ_normal ?_
  refine AW.block ?_
  refine AW.loopQ (σ := Nat × Int) (fun p => ⟨[(0, (.v (.one (.c (sl 1 (csI .i64) a0))))), (1, (.v (.one (.c (.fn 114 1 fun j => [(pl 1 (csI .i64) a1_0_0)].getD j .nilptr))))), (7, (.v (.one (.c (.int .i64 (a0.length : Int)))))), (8, (.v (.one (.c (.int .i64 p.2)))))], []⟩) (fun p => slices_IndexFunc_int64_int64_l1 K a0 a1_0_0 p.1 p.2 = some o) (fun p => p.1) (K, (0 : Int)) h ?_
  clear h
  rintro ⟨k, x2⟩ h
  replace h : slices_IndexFunc_int64_int64_l1 K a0 a1_0_0 k x2 = some o := h
  show AW _ _ (⟨[(0, (.v (.one (.c (sl 1 (csI .i64) a0))))), (1, (.v (.one (.c (.fn 114 1 fun j => [(pl 1 (csI .i64) a1_0_0)].getD j .nilptr))))), (7, (.v (.one (.c (.int .i64 (a0.length : Int)))))), (8, (.v (.one (.c (.int .i64 x2)))))], []⟩ : St) _
  obtain _ | k := k
  · rw [slices_IndexFunc_int64_int64_l1] at h; cases h
  rw [slices_IndexFunc_int64_int64_l1] at h
  refine AW.seq ?_
  refine AW.regionA [] [0, 1, 7, 8, 9] [] (s' := ⟨[(0, (.v (.one (.c (sl 1 (csI .i64) a0))))), (1, (.v (.one (.c (.fn 114 1 fun j => [(pl 1 (csI .i64) a1_0_0)].getD j .nilptr))))), (7, (.v (.one (.c (.int .i64 (a0.length : Int)))))), (8, (.v (.one (.c (.int .i64 x2))))), (9, (.v (.one (.c (.bool (decide (x2 < (a0.length : Int))))))))], []⟩) (ob := True ∧ True) (by kernel_rfl) ⟨trivial, trivial⟩ ?_
  refine thenQ_normal ?_
  refine AW.seq ?_
  rcases ite2_cases h with ⟨b3, h⟩ | ⟨b3, h⟩
  · refine AW.cond_t rfl b3 ?_
    refine AW.skip ?_
    refine thenQ_normal ?_
    refine AW.seq ?_
    refine AW.block ?_
    refine AW.seq ?_
    refine AW.regionA [] [0, 1, 5, 7, 8] [] (s' := ⟨[(0, (.v (.one (.c (sl 1 (csI .i64) a0))))), (1, (.v (.one (.c (.fn 114 1 fun j => [(pl 1 (csI .i64) a1_0_0)].getD j .nilptr))))), (5, (.v (.one (.c (.int .i64 x2))))), (7, (.v (.one (.c (.int .i64 (a0.length : Int)))))), (8, (.v (.one (.c (.int .i64 x2)))))], []⟩) (ob := True ∧ True ∧ True) (by kernel_rfl) ⟨trivial, trivial, trivial⟩ ?_
    refine thenQ_normal ?_
    refine AW.seq ?_
    obtain ⟨c4, h⟩ := chk_some h
    obtain ⟨v5, e6, h⟩ := bind_some h
    refine AW.regionA [.no, .no, .no, .no, .no, .call [.one (.int .i64 (a0.getD x2.toNat default)), .one (pl 1 (csI .i64) a1_0_0)] [.one (.bool v5)] [[.view]]] [0, 1, 5, 7, 8, 16] [] (s' := ⟨[(0, (.v (.one (.c (sl 1 (csI .i64) a0))))), (1, (.v (.one (.c (.fn 114 1 fun j => [(pl 1 (csI .i64) a1_0_0)].getD j .nilptr))))), (5, (.v (.one (.c (.int .i64 x2))))), (7, (.v (.one (.c (.int .i64 (a0.length : Int)))))), (8, (.v (.one (.c (.int .i64 x2))))), (16, (.v (.one (.c (.bool v5)))))], []⟩) (ob := True ∧ True ∧ True ∧ (0 ≤ x2 ∧ x2 < (a0.length : Int)) ∧ True ∧ (((((.int .i64 (a0.getD x2.toNat default)) : C) = (.int .i64 (a0.getD x2.toNat default))) ∧ (1 = 1 ∧ ∀ j, j < 1 → ((csI .i64) a1_0_0).getD j .nilptr = ((csI .i64) a1_0_0).getD j .nilptr) ∧ True) ∧ CallOK Try.prog 114 [.one (.int .i64 (a0.getD x2.toNat default)), .one (pl 1 (csI .i64) a1_0_0)] [.one (.bool v5)]) ∧ True) (by kernel_rfl) ⟨trivial, trivial, trivial, c4, trivial, ⟨⟨rfl, ⟨rfl, fun j hj => rfl⟩, trivial⟩, ok_impl_IsPairing_1 K (a0.getD x2.toNat default) a1_0_0 v5 e6⟩, trivial⟩ ?_
    refine thenQ_normal ?_
    rcases ite2_cases h with ⟨b7, h⟩ | ⟨b7, h⟩
    · refine AW.cond_t rfl b7 ?_
      refine AW.seq ?_
      refine AW.regionA [] [4] [] (s' := ⟨[(4, (.v (.one (.c (.int .i64 x2)))))], []⟩) (ob := True ∧ True ∧ True) (by kernel_rfl) ⟨trivial, trivial, trivial⟩ ?_
      refine thenQ_normal ?_
      refine AW.ret ?_
      refine blockQ_ret ?_
      refine thenQ_ret ?_
      refine loopQ_ret ?_
      refine blockQ_ret ?_
      refine thenQ_ret ?_
      replace h := some_eq h
      subst h
      exact ⟨.inr rfl, retOK_of [(.one (.c (.int .i64 x2)))] (by kernel_rfl) ⟨⟨rfl, trivial⟩, trivial⟩ (of_decide_eq_true (by kernel_rfl))⟩
    · refine AW.cond_f rfl b7 ?_
      refine AW.skip ?_
      refine blockQ_normal ?_
      refine thenQ_normal ?_
      refine AW.regionA [] [0, 1, 7, 8] [] (s' := ⟨[(0, (.v (.one (.c (sl 1 (csI .i64) a0))))), (1, (.v (.one (.c (.fn 114 1 fun j => [(pl 1 (csI .i64) a1_0_0)].getD j .nilptr))))), (7, (.v (.one (.c (.int .i64 (a0.length : Int)))))), (8, (.v (.one (.c (.int .i64 (IntKind.i64.wrap (x2 + (1 : Int))))))))], []⟩) (ob := True ∧ True ∧ True) (by kernel_rfl) ⟨trivial, trivial, trivial⟩ ?_
      exact loopQ_normal (k, (IntKind.i64.wrap (x2 + (1 : Int)))) h (Nat.lt_succ_self k) (Sub.keep [0, 1, 7, 8] [] (by kernel_rfl) (by kernel_rfl))
  · refine AW.cond_f rfl b3 ?_
    refine AW.exit ?_
    refine thenQ_exit ?_
    refine loopQ_exit ?_
    refine blockQ_exit ?_
    refine thenQ_normal ?_
    refine AW.seq ?_
    refine AW.regionA [] [4] [] (s' := ⟨[(4, (.v (.one (.c (.int .i64 ((-1) : Int))))))], []⟩) (ob := True ∧ True) (by kernel_rfl) ⟨trivial, trivial⟩ ?_
    refine thenQ_normal ?_
    refine AW.ret ?_
    replace h := some_eq h
    subst h
    exact ⟨.inr rfl, retOK_of [(.one (.c (.int .i64 ((-1) : Int))))] (by kernel_rfl) ⟨⟨rfl, trivial⟩, trivial⟩ (of_decide_eq_true (by kernel_rfl))⟩

/-! slices.ContainsFunc[[]int64,int64] -/
def slices_ContainsFunc_int64_int64 (K : Nat) (a0 : (List Int)) (a1_0_0 : Int) : Option (Bool) :=
  (slices_IndexFunc_int64_int64 K a0 a1_0_0).bind fun v1 => some (decide (v1 ≥ (0 : Int)))

theorem ok_slices_ContainsFunc_int64_int64 (K : Nat) (a0 : (List Int)) (a1_0_0 : Int) (o : (Bool)) (h : slices_ContainsFunc_int64_int64 K a0 a1_0_0 = some o) : CallOK Try.prog 113 [.one (sl 1 (csI .i64) a0), .one (.fn 114 1 fun j => [(pl 1 (csI .i64) a1_0_0)].getD j .nilptr)] [.one (.bool o)] := by
  refine callOK_of_AW Try.func113 rfl (by kernel_rfl) (Nat.le_of_ble_eq_true (by kernel_rfl)) ?_
  intro w0
  unfold slices_ContainsFunc_int64_int64 at h
  refine AW.seq ?_
  refine AW.regionA [] [0, 1] [] (s' := ⟨[(0, (.v (.one (.c (sl 1 (csI .i64) a0))))), (1, (.v (.one (.c (.fn 114 1 fun j => [(pl 1 (csI .i64) a1_0_0)].getD j .nilptr)))))], []⟩) (ob := True ∧ True) (by kernel_rfl) ⟨trivial, trivial⟩ ?_
  refine thenQ_normal ?_
  refine AW.seq ?_
  obtain ⟨v1, e2, h⟩ := bind_some h
  refine AW.regionA [.no, .no, .call [.one (sl 1 (csI .i64) a0), .one (.fn 114 1 fun j => [(pl 1 (csI .i64) a1_0_0)].getD j .nilptr)] [.one (.int .i64 v1)] [[.view]]] [4] [] (s' := ⟨[(4, (.v (.one (.c (.bool (decide (v1 ≥ (0 : Int))))))))], []⟩) (ob := True ∧ True ∧ (((((sl 1 (csI .i64) a0) : C) = (sl 1 (csI .i64) a0)) ∧ (((.fn 114 1 fun j => [(pl 1 (csI .i64) a1_0_0)].getD j .nilptr) : C) = (.fn 114 1 fun j => [(pl 1 (csI .i64) a1_0_0)].getD j .nilptr)) ∧ True) ∧ CallOK Try.prog 167 [.one (sl 1 (csI .i64) a0), .one (.fn 114 1 fun j => [(pl 1 (csI .i64) a1_0_0)].getD j .nilptr)] [.one (.int .i64 v1)]) ∧ True ∧ True ∧ True) (by kernel_rfl) ⟨trivial, trivial, ⟨⟨rfl, rfl, trivial⟩, ok_slices_IndexFunc_int64_int64 K a0 a1_0_0 v1 e2⟩, trivial, trivial, trivial⟩ ?_
  refine thenQ_normal ?_
  refine AW.ret ?_
  replace h := some_eq h
  subst h
  exact ⟨.inr rfl, retOK_of [(.one (.c (.bool (decide (v1 ≥ (0 : Int))))))] (by kernel_rfl) ⟨⟨rfl, trivial⟩, trivial⟩ (of_decide_eq_true (by kernel_rfl))⟩

/-! impl.IsPairing -/
def impl_IsPairing_l1 (K : Nat) (a0 : Skeleton) (a1 : (List Int)) : Nat → Int → Option (Bool)
  | 0, _ => none
  | k + 1, x11 => ite2 ((decide (x11 < (a1.length : Int)))) (chk (0 ≤ x11 ∧ x11 < (a1.length : Int)) (chk (0 ≤ (a1.getD x11.toNat default) ∧ (a1.getD x11.toNat default) < (a1.length : Int)) ((ite2 (((a1.getD ((a1.getD x11.toNat default).toNat) default) != x11)) (some true) (ite2 ((decide (x11 > (0 : Int)))) (chk (0 ≤ (a1.getD x11.toNat default) ∧ (a1.getD x11.toNat default) < (a0.Bones.length : Int)) (chk (0 ≤ x11 ∧ x11 < (a0.Bones.length : Int)) (chk (0 ≤ ((a0.Bones.getD x11.toNat default).Parent) ∧ ((a0.Bones.getD x11.toNat default).Parent) < (a1.length : Int)) (some (((a0.Bones.getD ((a1.getD x11.toNat default).toNat) default).Parent) != (a1.getD (((a0.Bones.getD x11.toNat default).Parent).toNat) default)))))) (some false))).bind fun j20 => ite2 (j20) (some false) (impl_IsPairing_l1 K a0 a1 k (IntKind.i64.wrap (x11 + (1 : Int))))))) (some true)

def impl_IsPairing (K : Nat) (a0 : Skeleton) (a1 : (List Int)) : Option (Bool) :=
  (impl_ValidSkeleton K a0).bind fun v1 => (ite2 ((!v1)) (some true) (some ((a1.length : Int) != (a0.Bones.length : Int)))).bind fun j4 => ite2 (j4) (some false) ((slices_ContainsFunc_int64_int64 K a1 (a0.Bones.length : Int)).bind fun v7 => ite2 (v7) (some false) (impl_IsPairing_l1 K a0 a1 K (0 : Int)))

theorem ok_impl_IsPairing (K : Nat) (a0 : Skeleton) (a1 : (List Int)) (o : (Bool)) (h : impl_IsPairing K a0 a1 = some o) : CallOK Try.prog 41 [.agg (cs_Skeleton a0), .one (sl 1 (csI .i64) a1)] [.one (.bool o)] := by
  refine callOK_of_AW Try.func41 rfl (by kernel_rfl) (Nat.le_of_ble_eq_true (by kernel_rfl)) ?_
  intro w0
  unfold impl_IsPairing at h
  refine AW.seq ?_
  refine AW.regionA [.box 1] [1, 2] [1] (s' := ⟨[(1, (.v (.one (.c (sl 1 (csI .i64) a1))))), (2, (.v (.one (.ptr 1 0))))], [(1, (.box [(.c (sl 4 cs_Bone a0.Bones))]))]⟩) (ob := True ∧ True ∧ True) (by kernel_rfl) ⟨trivial, trivial, trivial⟩ ?_
  refine thenQ_normal ?_
  refine AW.seq ?_
  refine AW.regionA [.no, .no, .no, .box 2] [1, 2, 5] [1, 2] (s' := ⟨[(1, (.v (.one (.c (sl 1 (csI .i64) a1))))), (2, (.v (.one (.ptr 1 0)))), (5, (.v (.one (.ptr 2 0))))], [(1, (.box [(.c (sl 4 cs_Bone a0.Bones))])), (2, (.box [(.c (.int .i64 (a0.Bones.length : Int)))]))]⟩) (ob := True ∧ True ∧ True ∧ True ∧ True ∧ True) (by kernel_rfl) ⟨trivial, trivial, trivial, trivial, trivial, trivial⟩ ?_
  refine thenQ_normal ?_
  refine AW.seq ?_
  refine AW.seq ?_
  obtain ⟨v1, e2, h⟩ := bind_some h
  obtain ⟨j4, e5, h⟩ := bind_some h
  refine AW.join1 (s2 := ⟨[(1, (.v (.one (.c (sl 1 (csI .i64) a1))))), (2, (.v (.one (.ptr 1 0)))), (5, (.v (.one (.ptr 2 0)))), (19, (.v (.one (.c (.bool j4)))))], [(1, (.box [(.c (sl 4 cs_Bone a0.Bones))])), (2, (.box [(.c (.int .i64 (a0.Bones.length : Int)))]))]⟩) ?_ ?_
  · rcases ite2_cases e5 with ⟨b3, e5⟩ | ⟨b3, e5⟩
    · replace e5 := some_eq e5
      subst e5
      exact AW.regionA [.no, .call [.agg (cs_Skeleton a0)] [.one (.bool v1)] [[.view]], .no, .dec true] [1, 2, 5, 19] [1, 2] (s' := ⟨[(1, (.v (.one (.c (sl 1 (csI .i64) a1))))), (2, (.v (.one (.ptr 1 0)))), (5, (.v (.one (.ptr 2 0)))), (19, (.v (.one (.c (.bool true)))))], [(1, (.box [(.c (sl 4 cs_Bone a0.Bones))])), (2, (.box [(.c (.int .i64 (a0.Bones.length : Int)))]))]⟩) (ob := True ∧ ((((((sl 4 cs_Bone a0.Bones) : C) = (sl 4 cs_Bone a0.Bones)) ∧ True) ∧ True) ∧ CallOK Try.prog 112 [.agg (cs_Skeleton a0)] [.one (.bool v1)]) ∧ True ∧ (True ∧ (!v1) = true) ∧ True ∧ True ∧ True ∧ True ∧ True ∧ True) (by kernel_rfl) ⟨trivial, ⟨⟨⟨rfl, trivial⟩, trivial⟩, ok_impl_ValidSkeleton K a0 v1 e2⟩, trivial, ⟨trivial, b3⟩, trivial, trivial, trivial, trivial, trivial, trivial⟩ ⟨rfl, rfl⟩
    · replace e5 := some_eq e5
      subst e5
      exact AW.regionA [.no, .call [.agg (cs_Skeleton a0)] [.one (.bool v1)] [[.view]], .no, .dec false] [1, 2, 5, 19] [1, 2] (s' := ⟨[(1, (.v (.one (.c (sl 1 (csI .i64) a1))))), (2, (.v (.one (.ptr 1 0)))), (5, (.v (.one (.ptr 2 0)))), (19, (.v (.one (.c (.bool ((a1.length : Int) != (a0.Bones.length : Int)))))))], [(1, (.box [(.c (sl 4 cs_Bone a0.Bones))])), (2, (.box [(.c (.int .i64 (a0.Bones.length : Int)))]))]⟩) (ob := True ∧ ((((((sl 4 cs_Bone a0.Bones) : C) = (sl 4 cs_Bone a0.Bones)) ∧ True) ∧ True) ∧ CallOK Try.prog 112 [.agg (cs_Skeleton a0)] [.one (.bool v1)]) ∧ True ∧ (True ∧ (!v1) = false) ∧ True ∧ True ∧ True ∧ True ∧ True ∧ True) (by kernel_rfl) ⟨trivial, ⟨⟨⟨rfl, trivial⟩, trivial⟩, ok_impl_ValidSkeleton K a0 v1 e2⟩, trivial, ⟨trivial, b3⟩, trivial, trivial, trivial, trivial, trivial, trivial⟩ ⟨rfl, rfl⟩
  refine thenQ_normal ?_
  rcases ite2_cases h with ⟨b6, h⟩ | ⟨b6, h⟩
  · refine AW.cond_t rfl b6 ?_
    refine AW.seq ?_
    refine AW.regionA [] [4] [] (s' := ⟨[(4, (.v (.one (.c (.bool false)))))], []⟩) (ob := True ∧ True) (by kernel_rfl) ⟨trivial, trivial⟩ ?_
    refine thenQ_normal ?_
    refine AW.ret ?_
    refine thenQ_ret ?_
    replace h := some_eq h
    subst h
    exact ⟨.inr rfl, retOK_of [(.one (.c (.bool false)))] (by kernel_rfl) ⟨⟨rfl, trivial⟩, trivial⟩ (of_decide_eq_true (by kernel_rfl))⟩
  · refine AW.cond_f rfl b6 ?_
    refine AW.skip ?_
    refine thenQ_normal ?_
    refine AW.seq ?_
    refine AW.seq ?_
    obtain ⟨v7, e8, h⟩ := bind_some h
    refine AW.regionA [.no, .no, .call [.one (sl 1 (csI .i64) a1), .one (.fn 114 1 fun j => [(pl 1 (csI .i64) (a0.Bones.length : Int))].getD j .nilptr)] [.one (.bool v7)] [[.view]]] [1, 2, 22] [1] (s' := ⟨[(1, (.v (.one (.c (sl 1 (csI .i64) a1))))), (2, (.v (.one (.ptr 1 0)))), (22, (.v (.one (.c (.bool v7)))))], [(1, (.box [(.c (sl 4 cs_Bone a0.Bones))]))]⟩) (ob := True ∧ True ∧ (((((sl 1 (csI .i64) a1) : C) = (sl 1 (csI .i64) a1)) ∧ (114 = 114 ∧ 1 = 1 ∧ ((((.int .i64 (a0.Bones.length : Int)) : C) = (.int .i64 (a0.Bones.length : Int))) ∧ True) ∧ True) ∧ True) ∧ CallOK Try.prog 113 [.one (sl 1 (csI .i64) a1), .one (.fn 114 1 fun j => [(pl 1 (csI .i64) (a0.Bones.length : Int))].getD j .nilptr)] [.one (.bool v7)]) ∧ True) (by kernel_rfl) ⟨trivial, trivial, ⟨⟨rfl, ⟨rfl, rfl, ⟨⟨rfl, trivial⟩, trivial⟩⟩, trivial⟩, ok_slices_ContainsFunc_int64_int64 K a1 (a0.Bones.length : Int) v7 e8⟩, trivial⟩ ?_
    refine thenQ_normal ?_
    rcases ite2_cases h with ⟨b9, h⟩ | ⟨b9, h⟩
    · refine AW.cond_t rfl b9 ?_
      refine AW.seq ?_
      refine AW.regionA [] [4] [] (s' := ⟨[(4, (.v (.one (.c (.bool false)))))], []⟩) (ob := True ∧ True) (by kernel_rfl) ⟨trivial, trivial⟩ ?_
      refine thenQ_normal ?_
      refine AW.ret ?_
      refine thenQ_ret ?_
      replace h := some_eq h
      subst h
      exact ⟨.inr rfl, retOK_of [(.one (.c (.bool false)))] (by kernel_rfl) ⟨⟨rfl, trivial⟩, trivial⟩ (of_decide_eq_true (by kernel_rfl))⟩
    · refine AW.cond_f rfl b9 ?_
      refine AW.skip ?_
      refine thenQ_normal ?_
      refine AW.seq ?_
      refine AW.seq ?_
      refine AW.regionA [] [1, 2, 23, 24, 25] [1] (s' := ⟨[(1, (.v (.one (.c (sl 1 (csI .i64) a1))))), (2, (.v (.one (.ptr 1 0)))), (23, (.v (.one (.c (sl 1 (csI .i64) a1))))), (24, (.v (.one (.c (.int .i64 (a1.length : Int)))))), (25, (.v (.one (.c (.int .i64 (0 : Int))))))], [(1, (.box [(.c (sl 4 cs_Bone a0.Bones))]))]⟩) (ob := True ∧ True ∧ True ∧ True) (by kernel_rfl) ⟨trivial, trivial, trivial, trivial⟩ ?_
      refine thenQ_normal ?_
      refine AW.block ?_
      refine AW.loopQ (σ := Nat × Int) (fun p => ⟨[(1, (.v (.one (.c (sl 1 (csI .i64) a1))))), (2, (.v (.one (.ptr 1 0)))), (23, (.v (.one (.c (sl 1 (csI .i64) a1))))), (24, (.v (.one (.c (.int .i64 (a1.length : Int)))))), (25, (.v (.one (.c (.int .i64 p.2)))))], [(1, (.box [(.c (sl 4 cs_Bone a0.Bones))]))]⟩) (fun p => impl_IsPairing_l1 K a0 a1 p.1 p.2 = some o) (fun p => p.1) (K, (0 : Int)) h ?_
      clear h
      rintro ⟨k, x11⟩ h
      replace h : impl_IsPairing_l1 K a0 a1 k x11 = some o := h
      show AW _ _ (⟨[(1, (.v (.one (.c (sl 1 (csI .i64) a1))))), (2, (.v (.one (.ptr 1 0)))), (23, (.v (.one (.c (sl 1 (csI .i64) a1))))), (24, (.v (.one (.c (.int .i64 (a1.length : Int)))))), (25, (.v (.one (.c (.int .i64 x11)))))], [(1, (.box [(.c (sl 4 cs_Bone a0.Bones))]))]⟩ : St) _
      obtain _ | k := k
      · rw [impl_IsPairing_l1] at h; cases h
      rw [impl_IsPairing_l1] at h
      refine AW.seq ?_
      refine AW.regionA [] [1, 2, 23, 24, 25, 26] [1] (s' := ⟨[(1, (.v (.one (.c (sl 1 (csI .i64) a1))))), (2, (.v (.one (.ptr 1 0)))), (23, (.v (.one (.c (sl 1 (csI .i64) a1))))), (24, (.v (.one (.c (.int .i64 (a1.length : Int)))))), (25, (.v (.one (.c (.int .i64 x11))))), (26, (.v (.one (.c (.bool (decide (x11 < (a1.length : Int))))))))], [(1, (.box [(.c (sl 4 cs_Bone a0.Bones))]))]⟩) (ob := True ∧ True) (by kernel_rfl) ⟨trivial, trivial⟩ ?_
      refine thenQ_normal ?_
      refine AW.seq ?_
      rcases ite2_cases h with ⟨b12, h⟩ | ⟨b12, h⟩
      · refine AW.cond_t rfl b12 ?_
        refine AW.skip ?_
        refine thenQ_normal ?_
        refine AW.seq ?_
        refine AW.block ?_
        refine AW.seq ?_
        obtain ⟨c13, h⟩ := chk_some h
        refine AW.regionA [] [1, 2, 6, 7, 23, 24, 25] [1] (s' := ⟨[(1, (.v (.one (.c (sl 1 (csI .i64) a1))))), (2, (.v (.one (.ptr 1 0)))), (6, (.v (.one (.c (.int .i64 x11))))), (7, (.v (.one (.c (.int .i64 (a1.getD x11.toNat default)))))), (23, (.v (.one (.c (sl 1 (csI .i64) a1))))), (24, (.v (.one (.c (.int .i64 (a1.length : Int)))))), (25, (.v (.one (.c (.int .i64 x11)))))], [(1, (.box [(.c (sl 4 cs_Bone a0.Bones))]))]⟩) (ob := True ∧ (0 ≤ x11 ∧ x11 < (a1.length : Int)) ∧ True ∧ True ∧ True ∧ True) (by kernel_rfl) ⟨trivial, c13, trivial, trivial, trivial, trivial⟩ ?_
        refine thenQ_normal ?_
        refine AW.seq ?_
        obtain ⟨c14, h⟩ := chk_some h
        obtain ⟨j20, e21, h⟩ := bind_some h
        refine AW.join1 (s2 := ⟨[(1, (.v (.one (.c (sl 1 (csI .i64) a1))))), (2, (.v (.one (.ptr 1 0)))), (23, (.v (.one (.c (sl 1 (csI .i64) a1))))), (24, (.v (.one (.c (.int .i64 (a1.length : Int)))))), (25, (.v (.one (.c (.int .i64 x11))))), (57, (.v (.one (.c (.bool j20)))))], [(1, (.box [(.c (sl 4 cs_Bone a0.Bones))]))]⟩) ?_ ?_
        · rcases ite2_cases e21 with ⟨b15, e21⟩ | ⟨b15, e21⟩
          · replace e21 := some_eq e21
            subst e21
            exact AW.drawnA (by kernel_rfl) 28 [.no, .no, .no, .no, .no, .no, .dec true] [1, 2, 23, 24, 25, 57] [1] (s' := ⟨[(1, (.v (.one (.c (sl 1 (csI .i64) a1))))), (2, (.v (.one (.ptr 1 0)))), (23, (.v (.one (.c (sl 1 (csI .i64) a1))))), (24, (.v (.one (.c (.int .i64 (a1.length : Int)))))), (25, (.v (.one (.c (.int .i64 x11))))), (57, (.v (.one (.c (.bool true)))))], [(1, (.box [(.c (sl 4 cs_Bone a0.Bones))]))]⟩) (ob := (True ∧ True ∧ (0 ≤ (a1.getD x11.toNat default) ∧ (a1.getD x11.toNat default) < (a1.length : Int)) ∧ True ∧ True ∧ True ∧ (True ∧ ((a1.getD ((a1.getD x11.toNat default).toNat) default) != x11) = true) ∧ True ∧ True ∧ True ∧ True ∧ True ∧ True ∧ True ∧ True ∧ True ∧ True ∧ True ∧ True ∧ True ∧ True ∧ True ∧ True ∧ True ∧ True ∧ True ∧ True ∧ True ∧ True) ∧ (True)) (by kernel_rfl) ⟨⟨trivial, trivial, c14, trivial, trivial, trivial, ⟨trivial, b15⟩, trivial, trivial, trivial, trivial, trivial, trivial, trivial, trivial, trivial, trivial, trivial, trivial, trivial, trivial, trivial, trivial, trivial, trivial, trivial, trivial, trivial, trivial⟩, trivial⟩ ⟨rfl, rfl⟩
          · rcases ite2_cases e21 with ⟨b16, e21⟩ | ⟨b16, e21⟩
            · obtain ⟨c17, e21⟩ := chk_some e21
              obtain ⟨c18, e21⟩ := chk_some e21
              obtain ⟨c19, e21⟩ := chk_some e21
              replace e21 := some_eq e21
              subst e21
              exact AW.drawnA (by kernel_rfl) 28 [.no, .no, .no, .no, .no, .no, .dec false, .no, .no, .dec true] [1, 2, 23, 24, 25, 57] [1] (s' := ⟨[(1, (.v (.one (.c (sl 1 (csI .i64) a1))))), (2, (.v (.one (.ptr 1 0)))), (23, (.v (.one (.c (sl 1 (csI .i64) a1))))), (24, (.v (.one (.c (.int .i64 (a1.length : Int)))))), (25, (.v (.one (.c (.int .i64 x11))))), (57, (.v (.one (.c (.bool (((a0.Bones.getD ((a1.getD x11.toNat default).toNat) default).Parent) != (a1.getD (((a0.Bones.getD x11.toNat default).Parent).toNat) default)))))))], [(1, (.box [(.c (sl 4 cs_Bone a0.Bones))]))]⟩) (ob := (True ∧ True ∧ (0 ≤ (a1.getD x11.toNat default) ∧ (a1.getD x11.toNat default) < (a1.length : Int)) ∧ True ∧ True ∧ True ∧ (True ∧ ((a1.getD ((a1.getD x11.toNat default).toNat) default) != x11) = false) ∧ True ∧ True ∧ (True ∧ (decide (x11 > (0 : Int))) = true) ∧ True ∧ True ∧ True ∧ (0 ≤ (a1.getD x11.toNat default) ∧ (a1.getD x11.toNat default) < (a0.Bones.length : Int)) ∧ True ∧ True ∧ True ∧ True ∧ True ∧ True ∧ (0 ≤ x11 ∧ x11 < (a0.Bones.length : Int)) ∧ True ∧ True ∧ (0 ≤ ((a0.Bones.getD x11.toNat default).Parent) ∧ ((a0.Bones.getD x11.toNat default).Parent) < (a1.length : Int)) ∧ True ∧ True ∧ True ∧ True ∧ True) ∧ (True)) (by kernel_rfl) ⟨⟨trivial, trivial, c14, trivial, trivial, trivial, ⟨trivial, b15⟩, trivial, trivial, ⟨trivial, b16⟩, trivial, trivial, trivial, c17, trivial, trivial, trivial, trivial, trivial, trivial, c18, trivial, trivial, c19, trivial, trivial, trivial, trivial, trivial⟩, trivial⟩ ⟨rfl, rfl⟩
            · replace e21 := some_eq e21
              subst e21
              exact AW.drawnA (by kernel_rfl) 28 [.no, .no, .no, .no, .no, .no, .dec false, .no, .no, .dec false] [1, 2, 23, 24, 25, 57] [1] (s' := ⟨[(1, (.v (.one (.c (sl 1 (csI .i64) a1))))), (2, (.v (.one (.ptr 1 0)))), (23, (.v (.one (.c (sl 1 (csI .i64) a1))))), (24, (.v (.one (.c (.int .i64 (a1.length : Int)))))), (25, (.v (.one (.c (.int .i64 x11))))), (57, (.v (.one (.c (.bool false)))))], [(1, (.box [(.c (sl 4 cs_Bone a0.Bones))]))]⟩) (ob := (True ∧ True ∧ (0 ≤ (a1.getD x11.toNat default) ∧ (a1.getD x11.toNat default) < (a1.length : Int)) ∧ True ∧ True ∧ True ∧ (True ∧ ((a1.getD ((a1.getD x11.toNat default).toNat) default) != x11) = false) ∧ True ∧ True ∧ (True ∧ (decide (x11 > (0 : Int))) = false) ∧ True ∧ True ∧ True ∧ True ∧ True ∧ True ∧ True ∧ True ∧ True ∧ True ∧ True ∧ True ∧ True ∧ True ∧ True ∧ True ∧ True ∧ True ∧ True) ∧ (True)) (by kernel_rfl) ⟨⟨trivial, trivial, c14, trivial, trivial, trivial, ⟨trivial, b15⟩, trivial, trivial, ⟨trivial, b16⟩, trivial, trivial, trivial, trivial, trivial, trivial, trivial, trivial, trivial, trivial, trivial, trivial, trivial, trivial, trivial, trivial, trivial, trivial, trivial⟩, trivial⟩ ⟨rfl, rfl⟩
        refine thenQ_normal ?_
        rcases ite2_cases h with ⟨b22, h⟩ | ⟨b22, h⟩
        · refine AW.cond_t rfl b22 ?_
          refine AW.seq ?_
          refine AW.regionA [] [4] [] (s' := ⟨[(4, (.v (.one (.c (.bool false)))))], []⟩) (ob := True ∧ True) (by kernel_rfl) ⟨trivial, trivial⟩ ?_
          refine thenQ_normal ?_
          refine AW.ret ?_
          refine blockQ_ret ?_
          refine thenQ_ret ?_
          refine loopQ_ret ?_
          refine blockQ_ret ?_
          refine thenQ_ret ?_
          replace h := some_eq h
          subst h
          exact ⟨.inr rfl, retOK_of [(.one (.c (.bool false)))] (by kernel_rfl) ⟨⟨rfl, trivial⟩, trivial⟩ (of_decide_eq_true (by kernel_rfl))⟩
        · refine AW.cond_f rfl b22 ?_
          refine AW.skip ?_
          refine blockQ_normal ?_
          refine thenQ_normal ?_
          refine AW.regionA [] [1, 2, 23, 24, 25] [1] (s' := ⟨[(1, (.v (.one (.c (sl 1 (csI .i64) a1))))), (2, (.v (.one (.ptr 1 0)))), (23, (.v (.one (.c (sl 1 (csI .i64) a1))))), (24, (.v (.one (.c (.int .i64 (a1.length : Int)))))), (25, (.v (.one (.c (.int .i64 (IntKind.i64.wrap (x11 + (1 : Int))))))))], [(1, (.box [(.c (sl 4 cs_Bone a0.Bones))]))]⟩) (ob := True ∧ True ∧ True) (by kernel_rfl) ⟨trivial, trivial, trivial⟩ ?_
          exact loopQ_normal (k, (IntKind.i64.wrap (x11 + (1 : Int)))) h (Nat.lt_succ_self k) (Sub.keep [1, 2, 23, 24, 25] [1] (by kernel_rfl) (by kernel_rfl))
      · refine AW.cond_f rfl b12 ?_
        refine AW.exit ?_
        refine thenQ_exit ?_
        refine loopQ_exit ?_
        refine blockQ_exit ?_
        refine thenQ_normal ?_
        refine AW.seq ?_
        refine AW.regionA [] [4] [] (s' := ⟨[(4, (.v (.one (.c (.bool true)))))], []⟩) (ob := True ∧ True) (by kernel_rfl) ⟨trivial, trivial⟩ ?_
        refine thenQ_normal ?_
        refine AW.ret ?_
        replace h := some_eq h
        subst h
        exact ⟨.inr rfl, retOK_of [(.one (.c (.bool true)))] (by kernel_rfl) ⟨⟨rfl, trivial⟩, trivial⟩ (of_decide_eq_true (by kernel_rfl))⟩

/-! slices.Clone[[]impl.RootKey,impl.RootKey] -/
def slices_Clone_impl_RootKey_impl_RootKey (_K : Nat) (a0 : (List RootKey)) : Option ((List RootKey)) :=
  chk ((([] : List RootKey).length + a0.length) * 24 ≤ 140737488355328) (some (([] : List RootKey) ++ a0))

theorem ok_slices_Clone_impl_RootKey_impl_RootKey (K : Nat) (a0 : (List RootKey)) (o : ((List RootKey))) (h : slices_Clone_impl_RootKey_impl_RootKey K a0 = some o) : CallOK Try.prog 103 [.one (sl 4 cs_RootKey a0)] [.one (sl 4 cs_RootKey o)] := by
  refine callOK_of_AW Try.func103 rfl (by kernel_rfl) (Nat.le_of_ble_eq_true (by kernel_rfl)) ?_
  intro w0
  unfold slices_Clone_impl_RootKey_impl_RootKey at h
  refine AW.seq ?_
  refine AW.regionA [] [0] [] (s' := ⟨[(0, (.v (.one (.c (sl 4 cs_RootKey a0)))))], []⟩) (ob := True ∧ True) (by kernel_rfl) ⟨trivial, trivial⟩ ?_
  refine thenQ_normal ?_
  refine AW.seq ?_
  refine AW.seq ?_
  refine AW.nilA (d := 4) (n := a0.length) 1 [.no] [0] [] (s' := ⟨[(0, (.v (.one (.c (sl 4 cs_RootKey a0)))))], []⟩) (ob := True ∧ True) (by kernel_rfl) ⟨trivial, trivial⟩ ?_
  intro b2 b1
  cases b2
  · refine thenQ_normal ?_
    refine AW.cond_f (b := false) rfl rfl ?_
    refine AW.skip ?_
    refine thenQ_normal ?_
    refine AW.seq ?_
    obtain ⟨c3, h⟩ := chk_some h
    refine AW.regionA [.obj 1 ([] : List RootKey).length (gl cs_RootKey ([] : List RootKey)), .no, .obj 2 (([] : List RootKey) ++ a0).length (gl cs_RootKey (([] : List RootKey) ++ a0))] [2] [2] (s' := ⟨[(2, (.v (.one (.lst 2 (([] : List RootKey) ++ a0).length 4 (gl cs_RootKey (([] : List RootKey) ++ a0))))))], [(2, (.lst (([] : List RootKey) ++ a0).length 4 (gl cs_RootKey (([] : List RootKey) ++ a0))))]⟩) (ob := (([] : List RootKey).length = 0 ∧ True) ∧ True ∧ ((([] : List RootKey) ++ a0).length = ([] : List RootKey).length + a0.length ∧ AppOb (([] : List RootKey).length) (a0.length) 4 (gl cs_RootKey ([] : List RootKey)) (gl cs_RootKey a0) (gl cs_RootKey (([] : List RootKey) ++ a0)) ∧ (∀ i j, i < a0.length → j < 4 → scalarC (gl cs_RootKey a0 i j)) ∧ (([] : List RootKey).length + a0.length) * 24 ≤ 140737488355328) ∧ True ∧ True) (by kernel_rfl) ⟨⟨rfl, trivial⟩, trivial, ⟨List.length_append, gl_append, gl_scalar sc_RootKey _, c3⟩, trivial, trivial⟩ ?_
    refine thenQ_normal ?_
    refine AW.ret ?_
    replace h := some_eq h
    subst h
    exact ⟨.inr rfl, retOK_of [(.one (.lst 2 (([] : List RootKey) ++ a0).length 4 (gl cs_RootKey (([] : List RootKey) ++ a0))))] (by kernel_rfl) ⟨rfl, trivial⟩ (of_decide_eq_true (by kernel_rfl))⟩
  · obtain rfl := List.eq_nil_of_length_eq_zero (b1 rfl)
    replace h : some ([] : (List RootKey)) = some o := by simpa [chk] using h
    refine thenQ_normal ?_
    refine AW.cond_t (b := true) rfl rfl ?_
    refine AW.seq ?_
    refine AW.regionA [] [2] [] (s' := ⟨[(2, (.v (.one .nils)))], []⟩) (ob := True ∧ True) (by kernel_rfl) ⟨trivial, trivial⟩ ?_
    refine thenQ_normal ?_
    refine AW.ret ?_
    refine thenQ_ret ?_
    replace h := some_eq h
    subst h
    exact ⟨.inr rfl, retOK_of [(.one .nils)] (by kernel_rfl) ⟨rfl, trivial⟩ (of_decide_eq_true (by kernel_rfl))⟩

/-! (impl.Vector).mirrored -/
def impl_Vector_mirrored (_K : Nat) (a0 : Vector) : Option (Vector) :=
  some (Vector.mk (a0.X.neg) a0.Y a0.Z)

theorem ok_impl_Vector_mirrored (K : Nat) (a0 : Vector) (o : (Vector)) (h : impl_Vector_mirrored K a0 = some o) : CallOK Try.prog 104 [.agg (cs_Vector a0)] [.agg (cs_Vector o)] := by
  refine callOK_of_AW Try.func104 rfl (by kernel_rfl) (Nat.le_of_ble_eq_true (by kernel_rfl)) ?_
  intro w0
  unfold impl_Vector_mirrored at h
  refine AW.seq ?_
  refine AW.regionA [.box 1, .box 2] [1, 2] [1, 2] (s' := ⟨[(1, (.v (.one (.ptr 1 0)))), (2, (.v (.one (.ptr 2 0))))], [(1, (.box [(.c (.flt .f32 a0.X.bits)), (.c (.flt .f32 a0.Y.bits)), (.c (.flt .f32 a0.Z.bits))])), (2, (.box [(.c (.flt .f32 (default : F32).bits)), (.c (.flt .f32 (default : F32).bits)), (.c (.flt .f32 (default : F32).bits))]))]⟩) (ob := True ∧ True ∧ True) (by kernel_rfl) ⟨trivial, trivial, trivial⟩ ?_
  refine thenQ_normal ?_
  refine AW.seq ?_
  refine AW.regionA [] [2] [2] (s' := ⟨[(2, (.v (.one (.ptr 2 0))))], [(2, (.box [(.c (.flt .f32 (a0.X.neg).bits)), (.c (.flt .f32 a0.Y.bits)), (.c (.flt .f32 a0.Z.bits))]))]⟩) (ob := True ∧ True ∧ True ∧ True ∧ True ∧ True ∧ True ∧ True ∧ True ∧ True) (by kernel_rfl) ⟨trivial, trivial, trivial, trivial, trivial, trivial, trivial, trivial, trivial, trivial⟩ ?_
  refine thenQ_normal ?_
  refine AW.ret ?_
  replace h := some_eq h
  subst h
  exact ⟨.inr rfl, retOK_of [(.agg [(.c (.flt .f32 (a0.X.neg).bits)), (.c (.flt .f32 a0.Y.bits)), (.c (.flt .f32 a0.Z.bits))])] (by kernel_rfl) ⟨⟨⟨rfl, trivial⟩, ⟨rfl, trivial⟩, ⟨rfl, trivial⟩, trivial⟩, trivial⟩ (of_decide_eq_true (by kernel_rfl))⟩

/-! impl.MirrorClip$2 -/
def impl_MirrorClip_2_l1 (K : Nat) (v1 : ((List RootKey))) : Nat → Int → (List RootKey) → Option ((List RootKey))
  | 0, _, _ => none
  | k + 1, x5, x6 => ite2 ((decide (x5 < (v1.length : Int)))) (chk (0 ≤ x5 ∧ x5 < (x6.length : Int)) ((impl_Vector_mirrored K ((x6.getD x5.toNat default).Place)).bind fun v9 => (some (x6.set x5.toNat (RootKey.mk ((x6.getD x5.toNat default).At) v9))).bind fun y11 => impl_MirrorClip_2_l1 K v1 k (IntKind.i64.wrap (x5 + (1 : Int))) y11)) (some x6)

def impl_MirrorClip_2 (K : Nat) (a0 : (List RootKey)) : Option ((List RootKey)) :=
  (slices_Clone_impl_RootKey_impl_RootKey K a0).bind fun v1 => impl_MirrorClip_2_l1 K v1 K (0 : Int) v1

theorem ok_impl_MirrorClip_2 (K : Nat) (a0 : (List RootKey)) (o : ((List RootKey))) (h : impl_MirrorClip_2 K a0 = some o) : CallOK Try.prog 102 [.one (sl 4 cs_RootKey a0)] [.one (sl 4 cs_RootKey o)] := by
  refine callOK_of_AW Try.func102 rfl (by kernel_rfl) (Nat.le_of_ble_eq_true (by kernel_rfl)) ?_
  intro w0
  unfold impl_MirrorClip_2 at h
  refine AW.seq ?_
  refine AW.regionA [] [0] [] (s' := ⟨[(0, (.v (.one (.c (sl 4 cs_RootKey a0)))))], []⟩) (ob := True ∧ True) (by kernel_rfl) ⟨trivial, trivial⟩ ?_
  refine thenQ_normal ?_
  refine AW.seq ?_
  obtain ⟨v1, e2, h⟩ := bind_some h
  refine AW.regionA [.no, .call [.one (sl 4 cs_RootKey a0)] [.one (sl 4 cs_RootKey v1)] [[.own 1]]] [3] [1] (s' := ⟨[(3, (.v (.one (.arr 1))))], [(1, (.arr true v1.length 4 (gl cs_RootKey v1)))]⟩) (ob := True ∧ (((((sl 4 cs_RootKey a0) : C) = (sl 4 cs_RootKey a0)) ∧ True) ∧ CallOK Try.prog 103 [.one (sl 4 cs_RootKey a0)] [.one (sl 4 cs_RootKey v1)]) ∧ True ∧ True) (by kernel_rfl) ⟨trivial, ⟨⟨rfl, trivial⟩, ok_slices_Clone_impl_RootKey_impl_RootKey K a0 v1 e2⟩, trivial, trivial⟩ ?_
  refine thenQ_normal ?_
  refine AW.seq ?_
  refine AW.seq ?_
  refine AW.regionA [] [3, 8, 9] [1] (s' := ⟨[(3, (.v (.one (.arr 1)))), (8, (.v (.one (.c (.int .i64 (v1.length : Int)))))), (9, (.v (.one (.c (.int .i64 (0 : Int))))))], [(1, (.arr true v1.length 4 (gl cs_RootKey v1)))]⟩) (ob := True ∧ True ∧ True ∧ True) (by kernel_rfl) ⟨trivial, trivial, trivial, trivial⟩ ?_
  refine thenQ_normal ?_
  refine AW.block ?_
  refine AW.loopQ (σ := Nat × Int × (List RootKey)) (fun p => ⟨[(3, (.v (.one (.arr 1)))), (8, (.v (.one (.c (.int .i64 (v1.length : Int)))))), (9, (.v (.one (.c (.int .i64 p.2.1)))))], [(1, (.arr true p.2.2.length 4 (gl cs_RootKey p.2.2)))]⟩) (fun p => impl_MirrorClip_2_l1 K v1 p.1 p.2.1 p.2.2 = some o) (fun p => p.1) (K, (0 : Int), v1) h ?_
  clear h
  rintro ⟨k, x5, x6⟩ h
  replace h : impl_MirrorClip_2_l1 K v1 k x5 x6 = some o := h
  show AW _ _ (⟨[(3, (.v (.one (.arr 1)))), (8, (.v (.one (.c (.int .i64 (v1.length : Int)))))), (9, (.v (.one (.c (.int .i64 x5)))))], [(1, (.arr true x6.length 4 (gl cs_RootKey x6)))]⟩ : St) _
  obtain _ | k := k
  · rw [impl_MirrorClip_2_l1] at h; cases h
  rw [impl_MirrorClip_2_l1] at h
  refine AW.seq ?_
  refine AW.regionA [] [3, 8, 9, 10] [1] (s' := ⟨[(3, (.v (.one (.arr 1)))), (8, (.v (.one (.c (.int .i64 (v1.length : Int)))))), (9, (.v (.one (.c (.int .i64 x5))))), (10, (.v (.one (.c (.bool (decide (x5 < (v1.length : Int))))))))], [(1, (.arr true x6.length 4 (gl cs_RootKey x6)))]⟩) (ob := True ∧ True) (by kernel_rfl) ⟨trivial, trivial⟩ ?_
  refine thenQ_normal ?_
  refine AW.seq ?_
  rcases ite2_cases h with ⟨b7, h⟩ | ⟨b7, h⟩
  · refine AW.cond_t rfl b7 ?_
    refine AW.skip ?_
    refine thenQ_normal ?_
    refine AW.seq ?_
    refine AW.block ?_
    refine AW.seq ?_
    refine AW.regionA [] [3, 4, 8, 9] [1] (s' := ⟨[(3, (.v (.one (.arr 1)))), (4, (.v (.one (.c (.int .i64 x5))))), (8, (.v (.one (.c (.int .i64 (v1.length : Int)))))), (9, (.v (.one (.c (.int .i64 x5)))))], [(1, (.arr true x6.length 4 (gl cs_RootKey x6)))]⟩) (ob := True ∧ True ∧ True) (by kernel_rfl) ⟨trivial, trivial, trivial⟩ ?_
    refine thenQ_normal ?_
    obtain ⟨c8, h⟩ := chk_some h
    obtain ⟨v9, e10, h⟩ := bind_some h
    obtain ⟨y11, e12, h⟩ := bind_some h
    refine AW.regionA [.no, .no, .no, .no, .no, .no, .no, .call [.agg (cs_Vector ((x6.getD x5.toNat default).Place))] [.agg (cs_Vector v9)] [[.view, .view, .view]], .no, .no, .set y11.length (gl cs_RootKey y11) ((List.range 3).map fun j => (cs_RootKey (RootKey.mk ((x6.getD x5.toNat default).At) v9)).getD (1 + j) .nilptr)] [3, 8, 9] [1] (s' := ⟨[(3, (.v (.one (.arr 1)))), (8, (.v (.one (.c (.int .i64 (v1.length : Int)))))), (9, (.v (.one (.c (.int .i64 x5)))))], [(1, (.arr true y11.length 4 (gl cs_RootKey y11)))]⟩) (ob := True ∧ True ∧ True ∧ True ∧ (0 ≤ x5 ∧ x5 < (x6.length : Int)) ∧ True ∧ True ∧ ((((((.flt .f32 (((x6.getD x5.toNat default).Place).X).bits) : C) = (.flt .f32 (((x6.getD x5.toNat default).Place).X).bits)) ∧ (((.flt .f32 (((x6.getD x5.toNat default).Place).Y).bits) : C) = (.flt .f32 (((x6.getD x5.toNat default).Place).Y).bits)) ∧ (((.flt .f32 (((x6.getD x5.toNat default).Place).Z).bits) : C) = (.flt .f32 (((x6.getD x5.toNat default).Place).Z).bits)) ∧ True) ∧ True) ∧ CallOK Try.prog 104 [.agg (cs_Vector ((x6.getD x5.toNat default).Place))] [.agg (cs_Vector v9)]) ∧ (0 ≤ x5 ∧ x5 < (x6.length : Int)) ∧ True ∧ (y11.length = x6.length ∧ SetOb x6.length 4 x5.toNat 1 3 (gl cs_RootKey x6) (gl cs_RootKey y11) ∧ ((List.range 3).map fun j => (cs_RootKey (RootKey.mk ((x6.getD x5.toNat default).At) v9)).getD (1 + j) .nilptr) = ((List.range 3).map fun j => gl cs_RootKey y11 x5.toNat (1 + j)) ∧ ((((.flt .f32 v9.X.bits) : C) = (.flt .f32 v9.X.bits) ∧ True) ∧ (((.flt .f32 v9.Y.bits) : C) = (.flt .f32 v9.Y.bits) ∧ True) ∧ (((.flt .f32 v9.Z.bits) : C) = (.flt .f32 v9.Z.bits) ∧ True) ∧ True) ∧ (true = true → ∀ j, j < 3 → isSeq (gl cs_RootKey x6 x5.toNat (1 + j)) = false ∧ isSeq (gl cs_RootKey y11 x5.toNat (1 + j)) = false)) ∧ True) (by kernel_rfl) ⟨trivial, trivial, trivial, trivial, c8, trivial, trivial, ⟨⟨⟨rfl, rfl, rfl, trivial⟩, trivial⟩, ok_impl_Vector_mirrored K ((x6.getD x5.toNat default).Place) v9 e10⟩, c8, trivial, (letP (some_eq e12) (fun z => (z.length = x6.length ∧ SetOb x6.length 4 x5.toNat 1 3 (gl cs_RootKey x6) (gl cs_RootKey z) ∧ ((List.range 3).map fun j => (cs_RootKey (RootKey.mk ((x6.getD x5.toNat default).At) v9)).getD (1 + j) .nilptr) = ((List.range 3).map fun j => gl cs_RootKey z x5.toNat (1 + j)) ∧ ((((.flt .f32 v9.X.bits) : C) = (.flt .f32 v9.X.bits) ∧ True) ∧ (((.flt .f32 v9.Y.bits) : C) = (.flt .f32 v9.Y.bits) ∧ True) ∧ (((.flt .f32 v9.Z.bits) : C) = (.flt .f32 v9.Z.bits) ∧ True) ∧ True) ∧ (true = true → ∀ j, j < 3 → isSeq (gl cs_RootKey x6 x5.toNat (1 + j)) = false ∧ isSeq (gl cs_RootKey z x5.toNat (1 + j)) = false))) ⟨List.length_set, gl_setp (fun j hj hn => match j, hj, hn with | 0, _, _ => rfl | 1, _, hn => absurd ⟨by decide, by decide⟩ hn | 2, _, hn => absurd ⟨by decide, by decide⟩ hn | 3, _, hn => absurd ⟨by decide, by decide⟩ hn) (lt_of_bound c8), (gl_atp (lt_of_bound c8)).symm, ⟨⟨rfl, trivial⟩, ⟨rfl, trivial⟩, ⟨rfl, trivial⟩, trivial⟩, (fun _ j hj => match j, hj with | 0, _ => ⟨rfl, rfl⟩ | 1, _ => ⟨rfl, rfl⟩ | 2, _ => ⟨rfl, rfl⟩)⟩), trivial⟩ ?_
    refine blockQ_normal ?_
    refine thenQ_normal ?_
    refine AW.regionA [] [3, 8, 9] [1] (s' := ⟨[(3, (.v (.one (.arr 1)))), (8, (.v (.one (.c (.int .i64 (v1.length : Int)))))), (9, (.v (.one (.c (.int .i64 (IntKind.i64.wrap (x5 + (1 : Int))))))))], [(1, (.arr true y11.length 4 (gl cs_RootKey y11)))]⟩) (ob := True ∧ True ∧ True) (by kernel_rfl) ⟨trivial, trivial, trivial⟩ ?_
    exact loopQ_normal (k, (IntKind.i64.wrap (x5 + (1 : Int))), y11) h (Nat.lt_succ_self k) (Sub.keep [3, 8, 9] [1] (by kernel_rfl) (by kernel_rfl))
  · refine AW.cond_f rfl b7 ?_
    refine AW.exit ?_
    refine thenQ_exit ?_
    refine loopQ_exit ?_
    refine blockQ_exit ?_
    refine thenQ_normal ?_
    refine AW.seq ?_
    refine AW.regionA [] [2] [1] (s' := ⟨[(2, (.v (.one (.arr 1))))], [(1, (.arr true x6.length 4 (gl cs_RootKey x6)))]⟩) (ob := True ∧ True ∧ True) (by kernel_rfl) ⟨trivial, trivial, trivial⟩ ?_
    refine thenQ_normal ?_
    refine AW.ret ?_
    replace h := some_eq h
    subst h
    exact ⟨.inr rfl, retOK_of [(.one (.arr 1))] (by kernel_rfl) ⟨rfl, trivial⟩ (of_decide_eq_true (by kernel_rfl))⟩

/-! slices.Clone[[]impl.Key,impl.Key] -/
def slices_Clone_impl_Key_impl_Key (_K : Nat) (a0 : (List Key)) : Option ((List Key)) :=
  chk ((([] : List Key).length + a0.length) * 24 ≤ 140737488355328) (some (([] : List Key) ++ a0))

theorem ok_slices_Clone_impl_Key_impl_Key (K : Nat) (a0 : (List Key)) (o : ((List Key))) (h : slices_Clone_impl_Key_impl_Key K a0 = some o) : CallOK Try.prog 66 [.one (sl 5 cs_Key a0)] [.one (sl 5 cs_Key o)] := by
  refine callOK_of_AW Try.func66 rfl (by kernel_rfl) (Nat.le_of_ble_eq_true (by kernel_rfl)) ?_
  intro w0
  unfold slices_Clone_impl_Key_impl_Key at h
  refine AW.seq ?_
  refine AW.regionA [] [0] [] (s' := ⟨[(0, (.v (.one (.c (sl 5 cs_Key a0)))))], []⟩) (ob := True ∧ True) (by kernel_rfl) ⟨trivial, trivial⟩ ?_
  refine thenQ_normal ?_
  refine AW.seq ?_
  refine AW.seq ?_
  refine AW.nilA (d := 4) (n := a0.length) 1 [.no] [0] [] (s' := ⟨[(0, (.v (.one (.c (sl 5 cs_Key a0)))))], []⟩) (ob := True ∧ True) (by kernel_rfl) ⟨trivial, trivial⟩ ?_
  intro b2 b1
  cases b2
  · refine thenQ_normal ?_
    refine AW.cond_f (b := false) rfl rfl ?_
    refine AW.skip ?_
    refine thenQ_normal ?_
    refine AW.seq ?_
    obtain ⟨c3, h⟩ := chk_some h
    refine AW.regionA [.obj 1 ([] : List Key).length (gl cs_Key ([] : List Key)), .no, .obj 2 (([] : List Key) ++ a0).length (gl cs_Key (([] : List Key) ++ a0))] [2] [2] (s' := ⟨[(2, (.v (.one (.lst 2 (([] : List Key) ++ a0).length 5 (gl cs_Key (([] : List Key) ++ a0))))))], [(2, (.lst (([] : List Key) ++ a0).length 5 (gl cs_Key (([] : List Key) ++ a0))))]⟩) (ob := (([] : List Key).length = 0 ∧ True) ∧ True ∧ ((([] : List Key) ++ a0).length = ([] : List Key).length + a0.length ∧ AppOb (([] : List Key).length) (a0.length) 5 (gl cs_Key ([] : List Key)) (gl cs_Key a0) (gl cs_Key (([] : List Key) ++ a0)) ∧ (∀ i j, i < a0.length → j < 5 → scalarC (gl cs_Key a0 i j)) ∧ (([] : List Key).length + a0.length) * 24 ≤ 140737488355328) ∧ True ∧ True) (by kernel_rfl) ⟨⟨rfl, trivial⟩, trivial, ⟨List.length_append, gl_append, gl_scalar sc_Key _, c3⟩, trivial, trivial⟩ ?_
    refine thenQ_normal ?_
    refine AW.ret ?_
    replace h := some_eq h
    subst h
    exact ⟨.inr rfl, retOK_of [(.one (.lst 2 (([] : List Key) ++ a0).length 5 (gl cs_Key (([] : List Key) ++ a0))))] (by kernel_rfl) ⟨rfl, trivial⟩ (of_decide_eq_true (by kernel_rfl))⟩
  · obtain rfl := List.eq_nil_of_length_eq_zero (b1 rfl)
    replace h : some ([] : (List Key)) = some o := by simpa [chk] using h
    refine thenQ_normal ?_
    refine AW.cond_t (b := true) rfl rfl ?_
    refine AW.seq ?_
    refine AW.regionA [] [2] [] (s' := ⟨[(2, (.v (.one .nils)))], []⟩) (ob := True ∧ True) (by kernel_rfl) ⟨trivial, trivial⟩ ?_
    refine thenQ_normal ?_
    refine AW.ret ?_
    refine thenQ_ret ?_
    replace h := some_eq h
    subst h
    exact ⟨.inr rfl, retOK_of [(.one .nils)] (by kernel_rfl) ⟨rfl, trivial⟩ (of_decide_eq_true (by kernel_rfl))⟩

/-! (impl.Turn).mirrored -/
def impl_Turn_mirrored (_K : Nat) (a0 : Turn) : Option (Turn) :=
  some (Turn.mk a0.W a0.X (a0.Y.neg) (a0.Z.neg))

theorem ok_impl_Turn_mirrored (K : Nat) (a0 : Turn) (o : (Turn)) (h : impl_Turn_mirrored K a0 = some o) : CallOK Try.prog 101 [.agg (cs_Turn a0)] [.agg (cs_Turn o)] := by
  refine callOK_of_AW Try.func101 rfl (by kernel_rfl) (Nat.le_of_ble_eq_true (by kernel_rfl)) ?_
  intro w0
  unfold impl_Turn_mirrored at h
  refine AW.seq ?_
  refine AW.regionA [.box 1, .box 2] [1, 2] [1, 2] (s' := ⟨[(1, (.v (.one (.ptr 1 0)))), (2, (.v (.one (.ptr 2 0))))], [(1, (.box [(.c (.flt .f32 a0.W.bits)), (.c (.flt .f32 a0.X.bits)), (.c (.flt .f32 a0.Y.bits)), (.c (.flt .f32 a0.Z.bits))])), (2, (.box [(.c (.flt .f32 (default : F32).bits)), (.c (.flt .f32 (default : F32).bits)), (.c (.flt .f32 (default : F32).bits)), (.c (.flt .f32 (default : F32).bits))]))]⟩) (ob := True ∧ True ∧ True) (by kernel_rfl) ⟨trivial, trivial, trivial⟩ ?_
  refine thenQ_normal ?_
  refine AW.seq ?_
  refine AW.regionA [] [2] [2] (s' := ⟨[(2, (.v (.one (.ptr 2 0))))], [(2, (.box [(.c (.flt .f32 a0.W.bits)), (.c (.flt .f32 a0.X.bits)), (.c (.flt .f32 (a0.Y.neg).bits)), (.c (.flt .f32 (a0.Z.neg).bits))]))]⟩) (ob := True ∧ True ∧ True ∧ True ∧ True ∧ True ∧ True ∧ True ∧ True ∧ True ∧ True ∧ True ∧ True) (by kernel_rfl) ⟨trivial, trivial, trivial, trivial, trivial, trivial, trivial, trivial, trivial, trivial, trivial, trivial, trivial⟩ ?_
  refine thenQ_normal ?_
  refine AW.ret ?_
  replace h := some_eq h
  subst h
  exact ⟨.inr rfl, retOK_of [(.agg [(.c (.flt .f32 a0.W.bits)), (.c (.flt .f32 a0.X.bits)), (.c (.flt .f32 (a0.Y.neg).bits)), (.c (.flt .f32 (a0.Z.neg).bits))])] (by kernel_rfl) ⟨⟨⟨rfl, trivial⟩, ⟨rfl, trivial⟩, ⟨rfl, trivial⟩, ⟨rfl, trivial⟩, trivial⟩, trivial⟩ (of_decide_eq_true (by kernel_rfl))⟩

/-! impl.MirrorClip$1 -/
def impl_MirrorClip_1_l1 (K : Nat) (v3 : ((List Key))) : Nat → Int → (List Key) → Option ((List Key))
  | 0, _, _ => none
  | k + 1, x7, x8 => ite2 ((decide (x7 < (v3.length : Int)))) (chk (0 ≤ x7 ∧ x7 < (x8.length : Int)) ((impl_Turn_mirrored K ((x8.getD x7.toNat default).Turn)).bind fun v11 => (some (x8.set x7.toNat (Key.mk ((x8.getD x7.toNat default).At) v11))).bind fun y13 => impl_MirrorClip_1_l1 K v3 k (IntKind.i64.wrap (x7 + (1 : Int))) y13)) (some x8)

def impl_MirrorClip_1 (K : Nat) (a0 : Int) (a1 : (List Key)) (a2 : Clip) (a3 : (List Int)) : Option ((List Key)) :=
  chk (0 ≤ a0 ∧ a0 < (a3.length : Int)) (chk (0 ≤ (a3.getD a0.toNat default) ∧ (a3.getD a0.toNat default) < (a2.Tracks.length : Int)) ((slices_Clone_impl_Key_impl_Key K (a2.Tracks.getD ((a3.getD a0.toNat default).toNat) default)).bind fun v3 => impl_MirrorClip_1_l1 K v3 K (0 : Int) v3))

theorem ok_impl_MirrorClip_1 (K : Nat) (a0 : Int) (a1 : (List Key)) (a2 : Clip) (a3 : (List Int)) (o : ((List Key))) (h : impl_MirrorClip_1 K a0 a1 a2 a3 = some o) : CallOK Try.prog 100 [.one (.int .i64 a0), .one (sl 5 cs_Key a1), .one (pl 4 cs_Clip a2), .one (pl 1 (csL 1 (csI .i64)) a3)] [.one (sl 5 cs_Key o)] := by
  refine callOK_of_AW Try.func100 rfl (by kernel_rfl) (Nat.le_of_ble_eq_true (by kernel_rfl)) ?_
  intro w0
  unfold impl_MirrorClip_1 at h
  refine AW.seq ?_
  refine AW.regionA [] [0, 2, 3] [] (s' := ⟨[(0, (.v (.one (.c (.int .i64 a0))))), (2, (.v (.one (.c (pl 4 cs_Clip a2))))), (3, (.v (.one (.c (pl 1 (csL 1 (csI .i64)) a3)))))], []⟩) (ob := True ∧ True) (by kernel_rfl) ⟨trivial, trivial⟩ ?_
  refine thenQ_normal ?_
  refine AW.seq ?_
  obtain ⟨c1, h⟩ := chk_some h
  obtain ⟨c2, h⟩ := chk_some h
  obtain ⟨v3, e4, h⟩ := bind_some h
  refine AW.drawnA (by kernel_rfl) 10 [.no, .no, .no, .no, .no, .no, .no, .no, .call [.one (sl 5 cs_Key (a2.Tracks.getD ((a3.getD a0.toNat default).toNat) default))] [.one (sl 5 cs_Key v3)] [[.own 1]]] [7] [1] (s' := ⟨[(7, (.v (.one (.arr 1))))], [(1, (.arr true v3.length 5 (gl cs_Key v3)))]⟩) (ob := (True ∧ True ∧ True ∧ True ∧ (0 ≤ a0 ∧ a0 < (a3.length : Int)) ∧ True ∧ (0 ≤ (a3.getD a0.toNat default) ∧ (a3.getD a0.toNat default) < (a2.Tracks.length : Int)) ∧ True ∧ (((((sl 5 cs_Key (a2.Tracks.getD ((a3.getD a0.toNat default).toNat) default)) : C) = (sl 5 cs_Key (a2.Tracks.getD ((a3.getD a0.toNat default).toNat) default))) ∧ True) ∧ CallOK Try.prog 66 [.one (sl 5 cs_Key (a2.Tracks.getD ((a3.getD a0.toNat default).toNat) default))] [.one (sl 5 cs_Key v3)]) ∧ True ∧ True) ∧ (True)) (by kernel_rfl) ⟨⟨trivial, trivial, trivial, trivial, c1, trivial, c2, trivial, ⟨⟨rfl, trivial⟩, ok_slices_Clone_impl_Key_impl_Key K (a2.Tracks.getD ((a3.getD a0.toNat default).toNat) default) v3 e4⟩, trivial, trivial⟩, trivial⟩ ?_
  refine thenQ_normal ?_
  refine AW.seq ?_
  refine AW.seq ?_
  refine AW.regionA [] [7, 19, 20] [1] (s' := ⟨[(7, (.v (.one (.arr 1)))), (19, (.v (.one (.c (.int .i64 (v3.length : Int)))))), (20, (.v (.one (.c (.int .i64 (0 : Int))))))], [(1, (.arr true v3.length 5 (gl cs_Key v3)))]⟩) (ob := True ∧ True ∧ True ∧ True) (by kernel_rfl) ⟨trivial, trivial, trivial, trivial⟩ ?_
  refine thenQ_normal ?_
  refine AW.block ?_
  refine AW.loopQ (σ := Nat × Int × (List Key)) (fun p => ⟨[(7, (.v (.one (.arr 1)))), (19, (.v (.one (.c (.int .i64 (v3.length : Int)))))), (20, (.v (.one (.c (.int .i64 p.2.1)))))], [(1, (.arr true p.2.2.length 5 (gl cs_Key p.2.2)))]⟩) (fun p => impl_MirrorClip_1_l1 K v3 p.1 p.2.1 p.2.2 = some o) (fun p => p.1) (K, (0 : Int), v3) h ?_
  clear h
  rintro ⟨k, x7, x8⟩ h
  replace h : impl_MirrorClip_1_l1 K v3 k x7 x8 = some o := h
  show AW _ _ (⟨[(7, (.v (.one (.arr 1)))), (19, (.v (.one (.c (.int .i64 (v3.length : Int)))))), (20, (.v (.one (.c (.int .i64 x7)))))], [(1, (.arr true x8.length 5 (gl cs_Key x8)))]⟩ : St) _
  obtain _ | k := k
  · rw [impl_MirrorClip_1_l1] at h; cases h
  rw [impl_MirrorClip_1_l1] at h
  refine AW.seq ?_
  refine AW.regionA [] [7, 19, 20, 21] [1] (s' := ⟨[(7, (.v (.one (.arr 1)))), (19, (.v (.one (.c (.int .i64 (v3.length : Int)))))), (20, (.v (.one (.c (.int .i64 x7))))), (21, (.v (.one (.c (.bool (decide (x7 < (v3.length : Int))))))))], [(1, (.arr true x8.length 5 (gl cs_Key x8)))]⟩) (ob := True ∧ True) (by kernel_rfl) ⟨trivial, trivial⟩ ?_
  refine thenQ_normal ?_
  refine AW.seq ?_
  rcases ite2_cases h with ⟨b9, h⟩ | ⟨b9, h⟩
  · refine AW.cond_t rfl b9 ?_
    refine AW.skip ?_
    refine thenQ_normal ?_
    refine AW.seq ?_
    refine AW.block ?_
    refine AW.seq ?_
    refine AW.regionA [] [7, 8, 19, 20] [1] (s' := ⟨[(7, (.v (.one (.arr 1)))), (8, (.v (.one (.c (.int .i64 x7))))), (19, (.v (.one (.c (.int .i64 (v3.length : Int)))))), (20, (.v (.one (.c (.int .i64 x7)))))], [(1, (.arr true x8.length 5 (gl cs_Key x8)))]⟩) (ob := True ∧ True ∧ True) (by kernel_rfl) ⟨trivial, trivial, trivial⟩ ?_
    refine thenQ_normal ?_
    obtain ⟨c10, h⟩ := chk_some h
    obtain ⟨v11, e12, h⟩ := bind_some h
    obtain ⟨y13, e14, h⟩ := bind_some h
    refine AW.regionA [.no, .no, .no, .no, .no, .no, .no, .call [.agg (cs_Turn ((x8.getD x7.toNat default).Turn))] [.agg (cs_Turn v11)] [[.view, .view, .view, .view]], .no, .no, .set y13.length (gl cs_Key y13) ((List.range 4).map fun j => (cs_Key (Key.mk ((x8.getD x7.toNat default).At) v11)).getD (1 + j) .nilptr)] [7, 19, 20] [1] (s' := ⟨[(7, (.v (.one (.arr 1)))), (19, (.v (.one (.c (.int .i64 (v3.length : Int)))))), (20, (.v (.one (.c (.int .i64 x7)))))], [(1, (.arr true y13.length 5 (gl cs_Key y13)))]⟩) (ob := True ∧ True ∧ True ∧ True ∧ (0 ≤ x7 ∧ x7 < (x8.length : Int)) ∧ True ∧ True ∧ ((((((.flt .f32 (((x8.getD x7.toNat default).Turn).W).bits) : C) = (.flt .f32 (((x8.getD x7.toNat default).Turn).W).bits)) ∧ (((.flt .f32 (((x8.getD x7.toNat default).Turn).X).bits) : C) = (.flt .f32 (((x8.getD x7.toNat default).Turn).X).bits)) ∧ (((.flt .f32 (((x8.getD x7.toNat default).Turn).Y).bits) : C) = (.flt .f32 (((x8.getD x7.toNat default).Turn).Y).bits)) ∧ (((.flt .f32 (((x8.getD x7.toNat default).Turn).Z).bits) : C) = (.flt .f32 (((x8.getD x7.toNat default).Turn).Z).bits)) ∧ True) ∧ True) ∧ CallOK Try.prog 101 [.agg (cs_Turn ((x8.getD x7.toNat default).Turn))] [.agg (cs_Turn v11)]) ∧ (0 ≤ x7 ∧ x7 < (x8.length : Int)) ∧ True ∧ (y13.length = x8.length ∧ SetOb x8.length 5 x7.toNat 1 4 (gl cs_Key x8) (gl cs_Key y13) ∧ ((List.range 4).map fun j => (cs_Key (Key.mk ((x8.getD x7.toNat default).At) v11)).getD (1 + j) .nilptr) = ((List.range 4).map fun j => gl cs_Key y13 x7.toNat (1 + j)) ∧ ((((.flt .f32 v11.W.bits) : C) = (.flt .f32 v11.W.bits) ∧ True) ∧ (((.flt .f32 v11.X.bits) : C) = (.flt .f32 v11.X.bits) ∧ True) ∧ (((.flt .f32 v11.Y.bits) : C) = (.flt .f32 v11.Y.bits) ∧ True) ∧ (((.flt .f32 v11.Z.bits) : C) = (.flt .f32 v11.Z.bits) ∧ True) ∧ True) ∧ (true = true → ∀ j, j < 4 → isSeq (gl cs_Key x8 x7.toNat (1 + j)) = false ∧ isSeq (gl cs_Key y13 x7.toNat (1 + j)) = false)) ∧ True) (by kernel_rfl) ⟨trivial, trivial, trivial, trivial, c10, trivial, trivial, ⟨⟨⟨rfl, rfl, rfl, rfl, trivial⟩, trivial⟩, ok_impl_Turn_mirrored K ((x8.getD x7.toNat default).Turn) v11 e12⟩, c10, trivial, (letP (some_eq e14) (fun z => (z.length = x8.length ∧ SetOb x8.length 5 x7.toNat 1 4 (gl cs_Key x8) (gl cs_Key z) ∧ ((List.range 4).map fun j => (cs_Key (Key.mk ((x8.getD x7.toNat default).At) v11)).getD (1 + j) .nilptr) = ((List.range 4).map fun j => gl cs_Key z x7.toNat (1 + j)) ∧ ((((.flt .f32 v11.W.bits) : C) = (.flt .f32 v11.W.bits) ∧ True) ∧ (((.flt .f32 v11.X.bits) : C) = (.flt .f32 v11.X.bits) ∧ True) ∧ (((.flt .f32 v11.Y.bits) : C) = (.flt .f32 v11.Y.bits) ∧ True) ∧ (((.flt .f32 v11.Z.bits) : C) = (.flt .f32 v11.Z.bits) ∧ True) ∧ True) ∧ (true = true → ∀ j, j < 4 → isSeq (gl cs_Key x8 x7.toNat (1 + j)) = false ∧ isSeq (gl cs_Key z x7.toNat (1 + j)) = false))) ⟨List.length_set, gl_setp (fun j hj hn => match j, hj, hn with | 0, _, _ => rfl | 1, _, hn => absurd ⟨by decide, by decide⟩ hn | 2, _, hn => absurd ⟨by decide, by decide⟩ hn | 3, _, hn => absurd ⟨by decide, by decide⟩ hn | 4, _, hn => absurd ⟨by decide, by decide⟩ hn) (lt_of_bound c10), (gl_atp (lt_of_bound c10)).symm, ⟨⟨rfl, trivial⟩, ⟨rfl, trivial⟩, ⟨rfl, trivial⟩, ⟨rfl, trivial⟩, trivial⟩, (fun _ j hj => match j, hj with | 0, _ => ⟨rfl, rfl⟩ | 1, _ => ⟨rfl, rfl⟩ | 2, _ => ⟨rfl, rfl⟩ | 3, _ => ⟨rfl, rfl⟩)⟩), trivial⟩ ?_
    refine blockQ_normal ?_
    refine thenQ_normal ?_
    refine AW.regionA [] [7, 19, 20] [1] (s' := ⟨[(7, (.v (.one (.arr 1)))), (19, (.v (.one (.c (.int .i64 (v3.length : Int)))))), (20, (.v (.one (.c (.int .i64 (IntKind.i64.wrap (x7 + (1 : Int))))))))], [(1, (.arr true y13.length 5 (gl cs_Key y13)))]⟩) (ob := True ∧ True ∧ True) (by kernel_rfl) ⟨trivial, trivial, trivial⟩ ?_
    exact loopQ_normal (k, (IntKind.i64.wrap (x7 + (1 : Int))), y13) h (Nat.lt_succ_self k) (Sub.keep [7, 19, 20] [1] (by kernel_rfl) (by kernel_rfl))
  · refine AW.cond_f rfl b9 ?_
    refine AW.exit ?_
    refine thenQ_exit ?_
    refine loopQ_exit ?_
    refine blockQ_exit ?_
    refine thenQ_normal ?_
    refine AW.seq ?_
    refine AW.regionA [] [6] [1] (s' := ⟨[(6, (.v (.one (.arr 1))))], [(1, (.arr true x8.length 5 (gl cs_Key x8)))]⟩) (ob := True ∧ True ∧ True) (by kernel_rfl) ⟨trivial, trivial, trivial⟩ ?_
    refine thenQ_normal ?_
    refine AW.ret ?_
    replace h := some_eq h
    subst h
    exact ⟨.inr rfl, retOK_of [(.one (.arr 1))] (by kernel_rfl) ⟨rfl, trivial⟩ (of_decide_eq_true (by kernel_rfl))⟩

/-! impl.validClip -/
def impl_validClip (K : Nat) (a0 : Clip) : Option (Clip × Bool) :=
  (impl_ValidClip K a0).bind fun v1 => ite2 ((!v1)) (some ((Clip.mk (0 : Int) (0 : Int) ([] : (List (List Key))) ([] : (List RootKey))), false)) (some (a0, true))

theorem ok_impl_validClip (K : Nat) (a0 : Clip) (o : (Clip × Bool)) (h : impl_validClip K a0 = some o) : MutOK Try.prog 141 [(.agg [(.ro (.int .i64 a0.Length)), (.ro (.int .i64 a0.Kind)), (.mv (sl 1 (csL 5 cs_Key) a0.Tracks)), (.mv (sl 4 cs_RootKey a0.Roots))])] [.agg (cs_Clip o.1), .one (.bool o.2)] := by
  refine mutOK_of_AW 2 Try.func141 rfl (by kernel_rfl) (Nat.le_of_ble_eq_true (by kernel_rfl)) (by kernel_rfl) (by kernel_rfl) ?_
  intro w0 K0 v0 s0
  unfold impl_validClip at h
  refine AW.seq ?_
  refine AW.regionA [.box 2, .box 3] [0, 1, 2] [0, 1, 2, 3] (s' := ⟨[(0, (.v (.agg [(.c (.int .i64 a0.Length)), (.c (.int .i64 a0.Kind)), (.arr 0), (.arr 1)]))), (1, (.v (.one (.ptr 2 0)))), (2, (.v (.one (.ptr 3 0))))], [(0, (.arr true a0.Tracks.length 1 (gl (csL 5 cs_Key) a0.Tracks))), (1, (.arr true a0.Roots.length 4 (gl cs_RootKey a0.Roots))), (2, (.box [(.c (.int .i64 a0.Length)), (.c (.int .i64 a0.Kind)), (.arr 0), (.arr 1)])), (3, (.box [(.c (.int .i64 (0 : Int))), (.c (.int .i64 (0 : Int))), .nils, .nils]))]⟩) (ob := True ∧ True ∧ True ∧ True) (by kernel_rfl) ⟨trivial, trivial, trivial, trivial⟩ ?_
  refine thenQ_normal ?_
  refine AW.seq ?_
  refine AW.seq ?_
  obtain ⟨v1, e2, h⟩ := bind_some h
  refine AW.regionA [.no, .call [.agg (cs_Clip a0)] [.one (.bool v1)] [[.view]]] [0, 1, 2, 6] [0, 1, 2, 3] (s' := ⟨[(0, (.v (.agg [(.c (.int .i64 a0.Length)), (.c (.int .i64 a0.Kind)), (.arr 0), (.arr 1)]))), (1, (.v (.one (.ptr 2 0)))), (2, (.v (.one (.ptr 3 0)))), (6, (.v (.one (.c (.bool (!v1))))))], [(0, (.arr true a0.Tracks.length 1 (gl (csL 5 cs_Key) a0.Tracks))), (1, (.arr true a0.Roots.length 4 (gl cs_RootKey a0.Roots))), (2, (.box [(.c (.int .i64 a0.Length)), (.c (.int .i64 a0.Kind)), (.arr 0), (.arr 1)])), (3, (.box [(.c (.int .i64 (0 : Int))), (.c (.int .i64 (0 : Int))), .nils, .nils]))]⟩) (ob := True ∧ ((((((.int .i64 a0.Length) : C) = (.int .i64 a0.Length)) ∧ (((.int .i64 a0.Kind) : C) = (.int .i64 a0.Kind)) ∧ (((sl 1 (csL 5 cs_Key) a0.Tracks) : C) = (sl 1 (csL 5 cs_Key) a0.Tracks)) ∧ (((sl 4 cs_RootKey a0.Roots) : C) = (sl 4 cs_RootKey a0.Roots)) ∧ True) ∧ True) ∧ CallOK Try.prog 63 [.agg (cs_Clip a0)] [.one (.bool v1)]) ∧ True ∧ True) (by kernel_rfl) ⟨trivial, ⟨⟨⟨rfl, rfl, rfl, rfl, trivial⟩, trivial⟩, ok_impl_ValidClip K a0 v1 e2⟩, trivial, trivial⟩ ?_
  refine thenQ_normal ?_
  rcases ite2_cases h with ⟨b3, h⟩ | ⟨b3, h⟩
  · refine AW.cond_t rfl b3 ?_
    refine AW.seq ?_
    refine AW.regionA [] [0, 2, 3] [0, 1, 3] (s' := ⟨[(0, (.v (.agg [(.c (.int .i64 a0.Length)), (.c (.int .i64 a0.Kind)), (.arr 0), (.arr 1)]))), (2, (.v (.one (.ptr 3 0)))), (3, (.v (.one (.c (.bool false)))))], [(0, (.arr true a0.Tracks.length 1 (gl (csL 5 cs_Key) a0.Tracks))), (1, (.arr true a0.Roots.length 4 (gl cs_RootKey a0.Roots))), (3, (.box [(.c (.int .i64 (0 : Int))), (.c (.int .i64 (0 : Int))), .nils, .nils]))]⟩) (ob := True ∧ True ∧ True ∧ True) (by kernel_rfl) ⟨trivial, trivial, trivial, trivial⟩ ?_
    refine thenQ_normal ?_
    refine AW.ret ?_
    refine thenQ_ret ?_
    replace h := some_eq h
    subst h
    exact ⟨.inr rfl, retOK_of [(.agg [(.c (.int .i64 (0 : Int))), (.c (.int .i64 (0 : Int))), .nils, .nils]), (.one (.c (.bool false)))] (by kernel_rfl) ⟨⟨⟨rfl, trivial⟩, ⟨rfl, trivial⟩, rfl, rfl, trivial⟩, ⟨rfl, trivial⟩, trivial⟩ (of_decide_eq_true (by kernel_rfl)), by kernel_rfl, ⟨⟨trivial, trivial, trivial, trivial, trivial⟩, trivial⟩⟩
  · refine AW.cond_f rfl b3 ?_
    refine AW.skip ?_
    refine thenQ_normal ?_
    refine AW.seq ?_
    refine AW.regionA [] [0, 2, 3] [0, 1, 3] (s' := ⟨[(0, (.v (.agg [(.c (.int .i64 a0.Length)), (.c (.int .i64 a0.Kind)), (.arr 0), (.arr 1)]))), (2, (.v (.one (.ptr 3 0)))), (3, (.v (.one (.c (.bool true)))))], [(0, (.arr true a0.Tracks.length 1 (gl (csL 5 cs_Key) a0.Tracks))), (1, (.arr true a0.Roots.length 4 (gl cs_RootKey a0.Roots))), (3, (.box [(.c (.int .i64 a0.Length)), (.c (.int .i64 a0.Kind)), (.arr 0), (.arr 1)]))]⟩) (ob := True ∧ True ∧ True ∧ True) (by kernel_rfl) ⟨trivial, trivial, trivial, trivial⟩ ?_
    refine thenQ_normal ?_
    refine AW.ret ?_
    replace h := some_eq h
    subst h
    exact ⟨.inr rfl, retOK_of [(.agg [(.c (.int .i64 a0.Length)), (.c (.int .i64 a0.Kind)), (.arr 0), (.arr 1)]), (.one (.c (.bool true)))] (by kernel_rfl) ⟨⟨⟨rfl, trivial⟩, ⟨rfl, trivial⟩, rfl, rfl, trivial⟩, ⟨rfl, trivial⟩, trivial⟩ (of_decide_eq_true (by kernel_rfl)), by kernel_rfl, ⟨⟨trivial, trivial, trivial, trivial, trivial⟩, trivial⟩⟩

/-! (impl.Clip).changed -/
def impl_Clip_changed_l1 (K : Nat) (a0 : Clip) (a1 : Int) (a2_0_0 : Clip) (a2_0_1 : (List Int)) (v1 : ((List RootKey))) : Nat → Int → (List (List Key)) → Option (Clip × Bool)
  | 0, _, _ => none
  | k + 1, x5, x6 => ite2 ((decide (x5 < (a0.Tracks.length : Int)))) (chk (0 ≤ x5 ∧ x5 < (a0.Tracks.length : Int)) ((impl_MirrorClip_1 K x5 (a0.Tracks.getD x5.toNat default) a2_0_0 a2_0_1).bind fun v9 => chk ((x6.length + ([v9]).length) * 24 ≤ 140737488355328) (impl_Clip_changed_l1 K a0 a1 a2_0_0 a2_0_1 v1 k (IntKind.i64.wrap (x5 + (1 : Int))) (x6 ++ ([v9]))))) ((impl_validClip K (Clip.mk a1 a0.Kind x6 v1)).bind fun v12 => some (v12.1, v12.2))

def impl_Clip_changed (K : Nat) (a0 : Clip) (a1 : Int) (a2_0_0 : Clip) (a2_0_1 : (List Int)) : Option (Clip × Bool) :=
  (impl_MirrorClip_2 K a0.Roots).bind fun v1 => impl_Clip_changed_l1 K a0 a1 a2_0_0 a2_0_1 v1 K (0 : Int) ([] : (List (List Key)))

theorem ok_impl_Clip_changed (K : Nat) (a0 : Clip) (a1 : Int) (a2_0_0 : Clip) (a2_0_1 : (List Int)) (o : (Clip × Bool)) (h : impl_Clip_changed K a0 a1 a2_0_0 a2_0_1 = some o) : CallOK Try.prog 64 [.agg (cs_Clip a0), .one (.int .i64 a1), .one (.fn 100 2 fun j => [(pl 4 cs_Clip a2_0_0), (pl 1 (csL 1 (csI .i64)) a2_0_1)].getD j .nilptr), .one (.fn 102 0 fun _ => .nilptr)] [.agg (cs_Clip o.1), .one (.bool o.2)] := by
  refine callOK_of_AW Try.func64 rfl (by kernel_rfl) (Nat.le_of_ble_eq_true (by kernel_rfl)) ?_
  intro w0
  unfold impl_Clip_changed at h
  refine AW.seq ?_
  refine AW.regionA [.box 1, .box 2] [1, 2, 3, 4, 8] [1, 2] (s' := ⟨[(1, (.v (.one (.c (.int .i64 a1))))), (2, (.v (.one (.c (.fn 100 2 fun j => [(pl 4 cs_Clip a2_0_0), (pl 1 (csL 1 (csI .i64)) a2_0_1)].getD j .nilptr))))), (3, (.v (.one (.c (.fn 102 0 fun _ => .nilptr))))), (4, (.v (.one (.ptr 1 0)))), (8, (.v (.one (.ptr 2 0))))], [(1, (.box [(.c (.int .i64 a0.Length)), (.c (.int .i64 a0.Kind)), (.c (sl 1 (csL 5 cs_Key) a0.Tracks)), (.c (sl 4 cs_RootKey a0.Roots))])), (2, (.box [(.c (.int .i64 (0 : Int))), (.c (.int .i64 (0 : Int))), .nils, .nils]))]⟩) (ob := True ∧ True ∧ True ∧ True) (by kernel_rfl) ⟨trivial, trivial, trivial, trivial⟩ ?_
  refine thenQ_normal ?_
  refine AW.seq ?_
  obtain ⟨v1, e2, h⟩ := bind_some h
  refine AW.drawnA (by kernel_rfl) 9 [.no, .no, .no, .no, .no, .no, .call [.one (sl 4 cs_RootKey a0.Roots)] [.one (sl 4 cs_RootKey v1)] [[.lst 3]], .no, .box 4] [2, 4, 8, 10] [1, 2, 3, 4] (s' := ⟨[(2, (.v (.one (.c (.fn 100 2 fun j => [(pl 4 cs_Clip a2_0_0), (pl 1 (csL 1 (csI .i64)) a2_0_1)].getD j .nilptr))))), (4, (.v (.one (.ptr 1 0)))), (8, (.v (.one (.ptr 2 0)))), (10, (.v (.one (.ptr 4 0))))], [(1, (.box [(.c (.int .i64 a0.Length)), (.c (.int .i64 a0.Kind)), (.c (sl 1 (csL 5 cs_Key) a0.Tracks)), (.c (sl 4 cs_RootKey a0.Roots))])), (2, (.box [(.c (.int .i64 (0 : Int))), (.c (.int .i64 (0 : Int))), .nils, .nils])), (3, (.lst v1.length 4 (gl cs_RootKey v1))), (4, (.box [(.c (.int .i64 a1)), (.c (.int .i64 a0.Kind)), .nils, (.lst 3 v1.length 4 (gl cs_RootKey v1))]))]⟩) (ob := (True ∧ True ∧ True ∧ True ∧ True ∧ True ∧ (((((sl 4 cs_RootKey a0.Roots) : C) = (sl 4 cs_RootKey a0.Roots)) ∧ True) ∧ CallOK Try.prog 102 [.one (sl 4 cs_RootKey a0.Roots)] [.one (sl 4 cs_RootKey v1)]) ∧ True ∧ True ∧ True) ∧ (True ∧ True)) (by kernel_rfl) ⟨⟨trivial, trivial, trivial, trivial, trivial, trivial, ⟨⟨rfl, trivial⟩, ok_impl_MirrorClip_2 K a0.Roots v1 e2⟩, trivial, trivial, trivial⟩, ⟨trivial, trivial⟩⟩ ?_
  refine thenQ_normal ?_
  refine AW.seq ?_
  refine AW.seq ?_
  refine AW.regionA [] [2, 8, 10, 22, 23, 24] [2, 3, 4] (s' := ⟨[(2, (.v (.one (.c (.fn 100 2 fun j => [(pl 4 cs_Clip a2_0_0), (pl 1 (csL 1 (csI .i64)) a2_0_1)].getD j .nilptr))))), (8, (.v (.one (.ptr 2 0)))), (10, (.v (.one (.ptr 4 0)))), (22, (.v (.one (.c (sl 1 (csL 5 cs_Key) a0.Tracks))))), (23, (.v (.one (.c (.int .i64 (a0.Tracks.length : Int)))))), (24, (.v (.one (.c (.int .i64 (0 : Int))))))], [(2, (.box [(.c (.int .i64 (0 : Int))), (.c (.int .i64 (0 : Int))), .nils, .nils])), (3, (.lst v1.length 4 (gl cs_RootKey v1))), (4, (.box [(.c (.int .i64 a1)), (.c (.int .i64 a0.Kind)), .nils, (.lst 3 v1.length 4 (gl cs_RootKey v1))]))]⟩) (ob := True ∧ True ∧ True ∧ True ∧ True) (by kernel_rfl) ⟨trivial, trivial, trivial, trivial, trivial⟩ ?_
  refine thenQ_normal ?_
  refine AW.block ?_
  refine AW.weak (s' := ⟨[(2, (.v (.one (.c (.fn 100 2 fun j => [(pl 4 cs_Clip a2_0_0), (pl 1 (csL 1 (csI .i64)) a2_0_1)].getD j .nilptr))))), (8, (.v (.one (.ptr 2 0)))), (10, (.v (.one (.ptr 4 0)))), (22, (.v (.one (.c (sl 1 (csL 5 cs_Key) a0.Tracks))))), (23, (.v (.one (.c (.int .i64 (a0.Tracks.length : Int)))))), (24, (.v (.one (.c (.int .i64 (0 : Int))))))], [(2, (.box [(.c (.int .i64 (0 : Int))), (.c (.int .i64 (0 : Int))), .nils, .nils])), (3, (.lst v1.length 4 (gl cs_RootKey v1))), (4, (.box [(.c (.int .i64 a1)), (.c (.int .i64 a0.Kind)), (.lst 8 ([] : (List (List Key))).length 1 (gl (csL 5 cs_Key) ([] : (List (List Key))))), (.lst 3 v1.length 4 (gl cs_RootKey v1))])), (8, (.lst ([] : (List (List Key))).length 1 (gl (csL 5 cs_Key) ([] : (List (List Key))))))]⟩) (Sub.trans (Sub.unnil 8 1 (gl (csL 5 cs_Key) ([] : (List (List Key)))) [] [(4, 2)] _ (by kernel_rfl) (by kernel_rfl)) (Sub.keep [2, 8, 10, 22, 23, 24] [2, 3, 4, 8] (by kernel_rfl) (by kernel_rfl))) ?_
  refine AW.loopQ (σ := Nat × Int × (List (List Key))) (fun p => ⟨[(2, (.v (.one (.c (.fn 100 2 fun j => [(pl 4 cs_Clip a2_0_0), (pl 1 (csL 1 (csI .i64)) a2_0_1)].getD j .nilptr))))), (8, (.v (.one (.ptr 2 0)))), (10, (.v (.one (.ptr 4 0)))), (22, (.v (.one (.c (sl 1 (csL 5 cs_Key) a0.Tracks))))), (23, (.v (.one (.c (.int .i64 (a0.Tracks.length : Int)))))), (24, (.v (.one (.c (.int .i64 p.2.1)))))], [(2, (.box [(.c (.int .i64 (0 : Int))), (.c (.int .i64 (0 : Int))), .nils, .nils])), (3, (.lst v1.length 4 (gl cs_RootKey v1))), (4, (.box [(.c (.int .i64 a1)), (.c (.int .i64 a0.Kind)), (.lst 8 p.2.2.length 1 (gl (csL 5 cs_Key) p.2.2)), (.lst 3 v1.length 4 (gl cs_RootKey v1))])), (8, (.lst p.2.2.length 1 (gl (csL 5 cs_Key) p.2.2)))]⟩) (fun p => impl_Clip_changed_l1 K a0 a1 a2_0_0 a2_0_1 v1 p.1 p.2.1 p.2.2 = some o) (fun p => p.1) (K, (0 : Int), ([] : (List (List Key)))) h ?_
  clear h
  rintro ⟨k, x5, x6⟩ h
  replace h : impl_Clip_changed_l1 K a0 a1 a2_0_0 a2_0_1 v1 k x5 x6 = some o := h
  show AW _ _ (⟨[(2, (.v (.one (.c (.fn 100 2 fun j => [(pl 4 cs_Clip a2_0_0), (pl 1 (csL 1 (csI .i64)) a2_0_1)].getD j .nilptr))))), (8, (.v (.one (.ptr 2 0)))), (10, (.v (.one (.ptr 4 0)))), (22, (.v (.one (.c (sl 1 (csL 5 cs_Key) a0.Tracks))))), (23, (.v (.one (.c (.int .i64 (a0.Tracks.length : Int)))))), (24, (.v (.one (.c (.int .i64 x5)))))], [(2, (.box [(.c (.int .i64 (0 : Int))), (.c (.int .i64 (0 : Int))), .nils, .nils])), (3, (.lst v1.length 4 (gl cs_RootKey v1))), (4, (.box [(.c (.int .i64 a1)), (.c (.int .i64 a0.Kind)), (.lst 8 x6.length 1 (gl (csL 5 cs_Key) x6)), (.lst 3 v1.length 4 (gl cs_RootKey v1))])), (8, (.lst x6.length 1 (gl (csL 5 cs_Key) x6)))]⟩ : St) _
  obtain _ | k := k
  · rw [impl_Clip_changed_l1] at h; cases h
  rw [impl_Clip_changed_l1] at h
  refine AW.seq ?_
  refine AW.regionA [] [2, 8, 10, 22, 23, 24, 25] [2, 3, 4, 8] (s' := ⟨[(2, (.v (.one (.c (.fn 100 2 fun j => [(pl 4 cs_Clip a2_0_0), (pl 1 (csL 1 (csI .i64)) a2_0_1)].getD j .nilptr))))), (8, (.v (.one (.ptr 2 0)))), (10, (.v (.one (.ptr 4 0)))), (22, (.v (.one (.c (sl 1 (csL 5 cs_Key) a0.Tracks))))), (23, (.v (.one (.c (.int .i64 (a0.Tracks.length : Int)))))), (24, (.v (.one (.c (.int .i64 x5))))), (25, (.v (.one (.c (.bool (decide (x5 < (a0.Tracks.length : Int))))))))], [(2, (.box [(.c (.int .i64 (0 : Int))), (.c (.int .i64 (0 : Int))), .nils, .nils])), (3, (.lst v1.length 4 (gl cs_RootKey v1))), (4, (.box [(.c (.int .i64 a1)), (.c (.int .i64 a0.Kind)), (.lst 8 x6.length 1 (gl (csL 5 cs_Key) x6)), (.lst 3 v1.length 4 (gl cs_RootKey v1))])), (8, (.lst x6.length 1 (gl (csL 5 cs_Key) x6)))]⟩) (ob := True ∧ True) (by kernel_rfl) ⟨trivial, trivial⟩ ?_
  refine thenQ_normal ?_
  refine AW.seq ?_
  rcases ite2_cases h with ⟨b7, h⟩ | ⟨b7, h⟩
  · refine AW.cond_t rfl b7 ?_
    refine AW.skip ?_
    refine thenQ_normal ?_
    refine AW.seq ?_
    refine AW.block ?_
    refine AW.seq ?_
    obtain ⟨c8, h⟩ := chk_some h
    refine AW.regionA [] [2, 8, 10, 11, 12, 22, 23, 24] [2, 3, 4, 8] (s' := ⟨[(2, (.v (.one (.c (.fn 100 2 fun j => [(pl 4 cs_Clip a2_0_0), (pl 1 (csL 1 (csI .i64)) a2_0_1)].getD j .nilptr))))), (8, (.v (.one (.ptr 2 0)))), (10, (.v (.one (.ptr 4 0)))), (11, (.v (.one (.c (.int .i64 x5))))), (12, (.v (.one (.c (sl 5 cs_Key (a0.Tracks.getD x5.toNat default)))))), (22, (.v (.one (.c (sl 1 (csL 5 cs_Key) a0.Tracks))))), (23, (.v (.one (.c (.int .i64 (a0.Tracks.length : Int)))))), (24, (.v (.one (.c (.int .i64 x5)))))], [(2, (.box [(.c (.int .i64 (0 : Int))), (.c (.int .i64 (0 : Int))), .nils, .nils])), (3, (.lst v1.length 4 (gl cs_RootKey v1))), (4, (.box [(.c (.int .i64 a1)), (.c (.int .i64 a0.Kind)), (.lst 8 x6.length 1 (gl (csL 5 cs_Key) x6)), (.lst 3 v1.length 4 (gl cs_RootKey v1))])), (8, (.lst x6.length 1 (gl (csL 5 cs_Key) x6)))]⟩) (ob := True ∧ (0 ≤ x5 ∧ x5 < (a0.Tracks.length : Int)) ∧ True ∧ True ∧ True ∧ True) (by kernel_rfl) ⟨trivial, c8, trivial, trivial, trivial, trivial⟩ ?_
    refine thenQ_normal ?_
    obtain ⟨v9, e10, h⟩ := bind_some h
    obtain ⟨c11, h⟩ := chk_some h
    refine AW.drawnA (by kernel_rfl) 9 [.no, .no, .no, .no, .no, .call [.one (.int .i64 x5), .one (sl 5 cs_Key (a0.Tracks.getD x5.toNat default)), .one (pl 4 cs_Clip a2_0_0), .one (pl 1 (csL 1 (csI .i64)) a2_0_1)] [.one (sl 5 cs_Key v9)] [[.lst 15]], .obj 16 ([v9]).length (gl (csL 5 cs_Key) ([v9])), .obj 17 (x6 ++ ([v9])).length (gl (csL 5 cs_Key) (x6 ++ ([v9])))] [2, 8, 10, 22, 23, 24] [2, 3, 4, 17] (s' := ⟨[(2, (.v (.one (.c (.fn 100 2 fun j => [(pl 4 cs_Clip a2_0_0), (pl 1 (csL 1 (csI .i64)) a2_0_1)].getD j .nilptr))))), (8, (.v (.one (.ptr 2 0)))), (10, (.v (.one (.ptr 4 0)))), (22, (.v (.one (.c (sl 1 (csL 5 cs_Key) a0.Tracks))))), (23, (.v (.one (.c (.int .i64 (a0.Tracks.length : Int)))))), (24, (.v (.one (.c (.int .i64 x5)))))], [(2, (.box [(.c (.int .i64 (0 : Int))), (.c (.int .i64 (0 : Int))), .nils, .nils])), (3, (.lst v1.length 4 (gl cs_RootKey v1))), (4, (.box [(.c (.int .i64 a1)), (.c (.int .i64 a0.Kind)), (.lst 17 (x6 ++ ([v9])).length 1 (gl (csL 5 cs_Key) (x6 ++ ([v9])))), (.lst 3 v1.length 4 (gl cs_RootKey v1))])), (17, (.lst (x6 ++ ([v9])).length 1 (gl (csL 5 cs_Key) (x6 ++ ([v9])))))]⟩) (ob := (True ∧ True ∧ True ∧ True ∧ True ∧ (((((.int .i64 x5) : C) = (.int .i64 x5)) ∧ (((sl 5 cs_Key (a0.Tracks.getD x5.toNat default)) : C) = (sl 5 cs_Key (a0.Tracks.getD x5.toNat default))) ∧ (4 = 4 ∧ ∀ j, j < 4 → (cs_Clip a2_0_0).getD j .nilptr = (cs_Clip a2_0_0).getD j .nilptr) ∧ (1 = 1 ∧ ∀ j, j < 1 → ((csL 1 (csI .i64)) a2_0_1).getD j .nilptr = ((csL 1 (csI .i64)) a2_0_1).getD j .nilptr) ∧ True) ∧ CallOK Try.prog 100 [.one (.int .i64 x5), .one (sl 5 cs_Key (a0.Tracks.getD x5.toNat default)), .one (pl 4 cs_Clip a2_0_0), .one (pl 1 (csL 1 (csI .i64)) a2_0_1)] [.one (sl 5 cs_Key v9)]) ∧ (([v9]).length = 1 ∧ (((sl 5 cs_Key v9) : C) = (sl 5 cs_Key v9)) ∧ True) ∧ ((x6 ++ ([v9])).length = x6.length + ([v9]).length ∧ AppOb (x6.length) (([v9]).length) 1 (gl (csL 5 cs_Key) x6) (gl (csL 5 cs_Key) ([v9])) (gl (csL 5 cs_Key) (x6 ++ ([v9]))) ∧ True ∧ (x6.length + ([v9]).length) * 24 ≤ 140737488355328) ∧ True ∧ True) ∧ (True ∧ True)) (by kernel_rfl) ⟨⟨trivial, trivial, trivial, trivial, trivial, ⟨⟨rfl, rfl, ⟨rfl, fun j hj => rfl⟩, ⟨rfl, fun j hj => rfl⟩, trivial⟩, ok_impl_MirrorClip_1 K x5 (a0.Tracks.getD x5.toNat default) a2_0_0 a2_0_1 v9 e10⟩, ⟨rfl, ⟨rfl, trivial⟩⟩, ⟨List.length_append, gl_append, trivial, c11⟩, trivial, trivial⟩, ⟨trivial, trivial⟩⟩ ?_
    refine blockQ_normal ?_
    refine thenQ_normal ?_
    refine AW.regionA [] [2, 8, 10, 22, 23, 24] [2, 3, 4, 17] (s' := ⟨[(2, (.v (.one (.c (.fn 100 2 fun j => [(pl 4 cs_Clip a2_0_0), (pl 1 (csL 1 (csI .i64)) a2_0_1)].getD j .nilptr))))), (8, (.v (.one (.ptr 2 0)))), (10, (.v (.one (.ptr 4 0)))), (22, (.v (.one (.c (sl 1 (csL 5 cs_Key) a0.Tracks))))), (23, (.v (.one (.c (.int .i64 (a0.Tracks.length : Int)))))), (24, (.v (.one (.c (.int .i64 (IntKind.i64.wrap (x5 + (1 : Int))))))))], [(2, (.box [(.c (.int .i64 (0 : Int))), (.c (.int .i64 (0 : Int))), .nils, .nils])), (3, (.lst v1.length 4 (gl cs_RootKey v1))), (4, (.box [(.c (.int .i64 a1)), (.c (.int .i64 a0.Kind)), (.lst 17 (x6 ++ ([v9])).length 1 (gl (csL 5 cs_Key) (x6 ++ ([v9])))), (.lst 3 v1.length 4 (gl cs_RootKey v1))])), (17, (.lst (x6 ++ ([v9])).length 1 (gl (csL 5 cs_Key) (x6 ++ ([v9])))))]⟩) (ob := True ∧ True ∧ True) (by kernel_rfl) ⟨trivial, trivial, trivial⟩ ?_
    exact loopQ_normal (k, (IntKind.i64.wrap (x5 + (1 : Int))), (x6 ++ ([v9]))) h (Nat.lt_succ_self k) (Sub.trans (Sub.swap 8 17 _ (by kernel_rfl) (by kernel_rfl)) (Sub.keep [2, 8, 10, 22, 23, 24] [2, 3, 4, 8] (by kernel_rfl) (by kernel_rfl)))
  · refine AW.cond_f rfl b7 ?_
    refine AW.exit ?_
    refine thenQ_exit ?_
    refine loopQ_exit ?_
    refine blockQ_exit ?_
    refine thenQ_normal ?_
    refine AW.seq ?_
    refine AW.weak (s' := ⟨[(8, (.v (.one (.ptr 2 0)))), (10, (.v (.one (.ptr 4 0))))], [(2, (.box [(.c (.int .i64 (0 : Int))), (.c (.int .i64 (0 : Int))), .nils, .nils])), (3, (.lst v1.length 4 (gl cs_RootKey v1))), (4, (.box [(.c (.int .i64 a1)), (.c (.int .i64 a0.Kind)), (.lst 8 x6.length 1 (gl (csL 5 cs_Key) x6)), (.lst 3 v1.length 4 (gl cs_RootKey v1))])), (8, (.lst x6.length 1 (gl (csL 5 cs_Key) x6)))]⟩) (Sub.keep [8, 10] [2, 3, 4, 8] (by kernel_rfl) (by kernel_rfl)) ?_
    refine AW.weak (s' := ⟨[(8, (.v (.one (.ptr 2 0)))), (10, (.v (.one (.ptr 4 0))))], [(2, (.box [(.c (.int .i64 (0 : Int))), (.c (.int .i64 (0 : Int))), .nils, .nils])), (3, (.arr true v1.length 4 (gl cs_RootKey v1))), (4, (.box [(.c (.int .i64 a1)), (.c (.int .i64 a0.Kind)), (.arr 8), (.arr 3)])), (8, (.arr true x6.length 1 (gl (csL 5 cs_Key) x6)))]⟩) (Sub.lstOwn [3, 8] (by kernel_rfl)) ?_
    obtain ⟨v12, e13, h⟩ := bind_some h
    refine AW.splitA 1 [.no] [8, 39] [2, 3, 8] [.callM [(.agg [(.ro (.int .i64 a1)), (.ro (.int .i64 a0.Kind)), (.mv (sl 1 (csL 5 cs_Key) x6)), (.mv (sl 4 cs_RootKey v1))])] [.agg (cs_Clip v12.1), .one (.bool v12.2)] [[.view, .view, .lst 18, .lst 19], [.view]] none] [8, 9] [2, 18, 19] (s' := ⟨[(8, (.v (.one (.ptr 2 0)))), (9, (.v (.one (.c (.bool v12.2)))))], [(2, (.box [(.c (.int .i64 v12.1.Length)), (.c (.int .i64 v12.1.Kind)), (.lst 18 v12.1.Tracks.length 1 (gl (csL 5 cs_Key) v12.1.Tracks)), (.lst 19 v12.1.Roots.length 4 (gl cs_RootKey v12.1.Roots))])), (18, (.lst v12.1.Tracks.length 1 (gl (csL 5 cs_Key) v12.1.Tracks))), (19, (.lst v12.1.Roots.length 4 (gl cs_RootKey v12.1.Roots)))]⟩) (ob := (True ∧ True) ∧ (((((((.int .i64 a1) : C) = (.int .i64 a1)) ∧ (((.int .i64 a0.Kind) : C) = (.int .i64 a0.Kind)) ∧ (((sl 1 (csL 5 cs_Key) x6) : C) = (sl 1 (csL 5 cs_Key) x6)) ∧ (((sl 4 cs_RootKey v1) : C) = (sl 4 cs_RootKey v1)) ∧ True) ∧ True) ∧ MutOK Try.prog 141 [(.agg [(.ro (.int .i64 a1)), (.ro (.int .i64 a0.Kind)), (.mv (sl 1 (csL 5 cs_Key) x6)), (.mv (sl 4 cs_RootKey v1))])] [.agg (cs_Clip v12.1), .one (.bool v12.2)]) ∧ True ∧ True ∧ True ∧ True ∧ True)) (by kernel_rfl) ⟨⟨trivial, trivial⟩, ⟨⟨⟨⟨rfl, rfl, rfl, rfl, trivial⟩, trivial⟩, ok_impl_validClip K (Clip.mk a1 a0.Kind x6 v1) v12 e13⟩, trivial, trivial, trivial, trivial, trivial⟩⟩ ?_
    refine thenQ_normal ?_
    refine AW.ret ?_
    replace h := some_eq h
    subst h
    exact ⟨.inr rfl, retOK_of [(.agg [(.c (.int .i64 v12.1.Length)), (.c (.int .i64 v12.1.Kind)), (.lst 18 v12.1.Tracks.length 1 (gl (csL 5 cs_Key) v12.1.Tracks)), (.lst 19 v12.1.Roots.length 4 (gl cs_RootKey v12.1.Roots))]), (.one (.c (.bool v12.2)))] (by kernel_rfl) ⟨⟨⟨rfl, trivial⟩, ⟨rfl, trivial⟩, rfl, rfl, trivial⟩, ⟨rfl, trivial⟩, trivial⟩ (of_decide_eq_true (by kernel_rfl))⟩

/-! impl.MirrorClip -/
def impl_MirrorClip (K : Nat) (a0 : Skeleton) (a1 : Clip) (a2 : (List Int)) : Option (Clip × Bool) :=
  (impl_ValidClip K a1).bind fun v1 => (ite2 ((!v1)) (some true) ((impl_IsPairing K a0 a2).bind fun v4 => ite2 ((!v4)) (some true) (some ((a1.Tracks.length : Int) != (a0.Bones.length : Int))))).bind fun j7 => ite2 (j7) (some ((Clip.mk (0 : Int) (0 : Int) ([] : (List (List Key))) ([] : (List RootKey))), false)) ((impl_Clip_changed K a1 a1.Length a1 a2).bind fun v10 => some (v10.1, v10.2))

theorem ok_impl_MirrorClip (K : Nat) (a0 : Skeleton) (a1 : Clip) (a2 : (List Int)) (o : (Clip × Bool)) (h : impl_MirrorClip K a0 a1 a2 = some o) : CallOK Try.prog 30 [.agg (cs_Skeleton a0), .agg (cs_Clip a1), .one (sl 1 (csI .i64) a2)] [.agg (cs_Clip o.1), .one (.bool o.2)] := by
  refine callOK_of_AW Try.func30 rfl (by kernel_rfl) (Nat.le_of_ble_eq_true (by kernel_rfl)) ?_
  intro w0
  unfold impl_MirrorClip at h
  refine AW.seq ?_
  refine AW.regionA [.box 1, .box 2, .box 3, .box 4] [3, 4, 5, 6] [1, 2, 3, 4] (s' := ⟨[(3, (.v (.one (.ptr 1 0)))), (4, (.v (.one (.ptr 2 0)))), (5, (.v (.one (.ptr 3 0)))), (6, (.v (.one (.ptr 4 0))))], [(1, (.box [(.c (sl 4 cs_Bone a0.Bones))])), (2, (.box [(.c (.int .i64 a1.Length)), (.c (.int .i64 a1.Kind)), (.c (sl 1 (csL 5 cs_Key) a1.Tracks)), (.c (sl 4 cs_RootKey a1.Roots))])), (3, (.box [(.c (sl 1 (csI .i64) a2))])), (4, (.box [(.c (.int .i64 (0 : Int))), (.c (.int .i64 (0 : Int))), .nils, .nils]))]⟩) (ob := True ∧ True ∧ True ∧ True ∧ True ∧ True) (by kernel_rfl) ⟨trivial, trivial, trivial, trivial, trivial, trivial⟩ ?_
  refine thenQ_normal ?_
  refine AW.seq ?_
  refine AW.seq ?_
  obtain ⟨v1, e2, h⟩ := bind_some h
  obtain ⟨j7, e8, h⟩ := bind_some h
  refine AW.join1 (s2 := ⟨[(4, (.v (.one (.ptr 2 0)))), (5, (.v (.one (.ptr 3 0)))), (6, (.v (.one (.ptr 4 0)))), (25, (.v (.one (.c (.bool j7)))))], [(2, (.box [(.c (.int .i64 a1.Length)), (.c (.int .i64 a1.Kind)), (.c (sl 1 (csL 5 cs_Key) a1.Tracks)), (.c (sl 4 cs_RootKey a1.Roots))])), (3, (.box [(.c (sl 1 (csI .i64) a2))])), (4, (.box [(.c (.int .i64 (0 : Int))), (.c (.int .i64 (0 : Int))), .nils, .nils]))]⟩) ?_ ?_
  · rcases ite2_cases e8 with ⟨b3, e8⟩ | ⟨b3, e8⟩
    · replace e8 := some_eq e8
      subst e8
      exact AW.regionA [.no, .call [.agg (cs_Clip a1)] [.one (.bool v1)] [[.view]], .no, .dec true] [4, 5, 6, 25] [2, 3, 4] (s' := ⟨[(4, (.v (.one (.ptr 2 0)))), (5, (.v (.one (.ptr 3 0)))), (6, (.v (.one (.ptr 4 0)))), (25, (.v (.one (.c (.bool true)))))], [(2, (.box [(.c (.int .i64 a1.Length)), (.c (.int .i64 a1.Kind)), (.c (sl 1 (csL 5 cs_Key) a1.Tracks)), (.c (sl 4 cs_RootKey a1.Roots))])), (3, (.box [(.c (sl 1 (csI .i64) a2))])), (4, (.box [(.c (.int .i64 (0 : Int))), (.c (.int .i64 (0 : Int))), .nils, .nils]))]⟩) (ob := True ∧ ((((((.int .i64 a1.Length) : C) = (.int .i64 a1.Length)) ∧ (((.int .i64 a1.Kind) : C) = (.int .i64 a1.Kind)) ∧ (((sl 1 (csL 5 cs_Key) a1.Tracks) : C) = (sl 1 (csL 5 cs_Key) a1.Tracks)) ∧ (((sl 4 cs_RootKey a1.Roots) : C) = (sl 4 cs_RootKey a1.Roots)) ∧ True) ∧ True) ∧ CallOK Try.prog 63 [.agg (cs_Clip a1)] [.one (.bool v1)]) ∧ True ∧ (True ∧ (!v1) = true) ∧ True ∧ True ∧ True ∧ True ∧ True ∧ True ∧ True ∧ True ∧ True ∧ True ∧ True ∧ True ∧ True ∧ True ∧ True) (by kernel_rfl) ⟨trivial, ⟨⟨⟨rfl, rfl, rfl, rfl, trivial⟩, trivial⟩, ok_impl_ValidClip K a1 v1 e2⟩, trivial, ⟨trivial, b3⟩, trivial, trivial, trivial, trivial, trivial, trivial, trivial, trivial, trivial, trivial, trivial, trivial, trivial, trivial, trivial⟩ ⟨rfl, rfl⟩
    · obtain ⟨v4, e5, e8⟩ := bind_some e8
      rcases ite2_cases e8 with ⟨b6, e8⟩ | ⟨b6, e8⟩
      · replace e8 := some_eq e8
        subst e8
        exact AW.regionA [.no, .call [.agg (cs_Clip a1)] [.one (.bool v1)] [[.view]], .no, .dec false, .no, .no, .call [.agg (cs_Skeleton a0), .one (sl 1 (csI .i64) a2)] [.one (.bool v4)] [[.view]], .no, .no, .dec true] [4, 5, 6, 25] [2, 3, 4] (s' := ⟨[(4, (.v (.one (.ptr 2 0)))), (5, (.v (.one (.ptr 3 0)))), (6, (.v (.one (.ptr 4 0)))), (25, (.v (.one (.c (.bool true)))))], [(2, (.box [(.c (.int .i64 a1.Length)), (.c (.int .i64 a1.Kind)), (.c (sl 1 (csL 5 cs_Key) a1.Tracks)), (.c (sl 4 cs_RootKey a1.Roots))])), (3, (.box [(.c (sl 1 (csI .i64) a2))])), (4, (.box [(.c (.int .i64 (0 : Int))), (.c (.int .i64 (0 : Int))), .nils, .nils]))]⟩) (ob := True ∧ ((((((.int .i64 a1.Length) : C) = (.int .i64 a1.Length)) ∧ (((.int .i64 a1.Kind) : C) = (.int .i64 a1.Kind)) ∧ (((sl 1 (csL 5 cs_Key) a1.Tracks) : C) = (sl 1 (csL 5 cs_Key) a1.Tracks)) ∧ (((sl 4 cs_RootKey a1.Roots) : C) = (sl 4 cs_RootKey a1.Roots)) ∧ True) ∧ True) ∧ CallOK Try.prog 63 [.agg (cs_Clip a1)] [.one (.bool v1)]) ∧ True ∧ (True ∧ (!v1) = false) ∧ True ∧ True ∧ ((((((sl 4 cs_Bone a0.Bones) : C) = (sl 4 cs_Bone a0.Bones)) ∧ True) ∧ (((sl 1 (csI .i64) a2) : C) = (sl 1 (csI .i64) a2)) ∧ True) ∧ CallOK Try.prog 41 [.agg (cs_Skeleton a0), .one (sl 1 (csI .i64) a2)] [.one (.bool v4)]) ∧ True ∧ True ∧ (True ∧ (!v4) = true) ∧ True ∧ True ∧ True ∧ True ∧ True ∧ True ∧ True ∧ True ∧ True) (by kernel_rfl) ⟨trivial, ⟨⟨⟨rfl, rfl, rfl, rfl, trivial⟩, trivial⟩, ok_impl_ValidClip K a1 v1 e2⟩, trivial, ⟨trivial, b3⟩, trivial, trivial, ⟨⟨⟨rfl, trivial⟩, rfl, trivial⟩, ok_impl_IsPairing K a0 a2 v4 e5⟩, trivial, trivial, ⟨trivial, b6⟩, trivial, trivial, trivial, trivial, trivial, trivial, trivial, trivial, trivial⟩ ⟨rfl, rfl⟩
      · replace e8 := some_eq e8
        subst e8
        exact AW.regionA [.no, .call [.agg (cs_Clip a1)] [.one (.bool v1)] [[.view]], .no, .dec false, .no, .no, .call [.agg (cs_Skeleton a0), .one (sl 1 (csI .i64) a2)] [.one (.bool v4)] [[.view]], .no, .no, .dec false] [4, 5, 6, 25] [2, 3, 4] (s' := ⟨[(4, (.v (.one (.ptr 2 0)))), (5, (.v (.one (.ptr 3 0)))), (6, (.v (.one (.ptr 4 0)))), (25, (.v (.one (.c (.bool ((a1.Tracks.length : Int) != (a0.Bones.length : Int)))))))], [(2, (.box [(.c (.int .i64 a1.Length)), (.c (.int .i64 a1.Kind)), (.c (sl 1 (csL 5 cs_Key) a1.Tracks)), (.c (sl 4 cs_RootKey a1.Roots))])), (3, (.box [(.c (sl 1 (csI .i64) a2))])), (4, (.box [(.c (.int .i64 (0 : Int))), (.c (.int .i64 (0 : Int))), .nils, .nils]))]⟩) (ob := True ∧ ((((((.int .i64 a1.Length) : C) = (.int .i64 a1.Length)) ∧ (((.int .i64 a1.Kind) : C) = (.int .i64 a1.Kind)) ∧ (((sl 1 (csL 5 cs_Key) a1.Tracks) : C) = (sl 1 (csL 5 cs_Key) a1.Tracks)) ∧ (((sl 4 cs_RootKey a1.Roots) : C) = (sl 4 cs_RootKey a1.Roots)) ∧ True) ∧ True) ∧ CallOK Try.prog 63 [.agg (cs_Clip a1)] [.one (.bool v1)]) ∧ True ∧ (True ∧ (!v1) = false) ∧ True ∧ True ∧ ((((((sl 4 cs_Bone a0.Bones) : C) = (sl 4 cs_Bone a0.Bones)) ∧ True) ∧ (((sl 1 (csI .i64) a2) : C) = (sl 1 (csI .i64) a2)) ∧ True) ∧ CallOK Try.prog 41 [.agg (cs_Skeleton a0), .one (sl 1 (csI .i64) a2)] [.one (.bool v4)]) ∧ True ∧ True ∧ (True ∧ (!v4) = false) ∧ True ∧ True ∧ True ∧ True ∧ True ∧ True ∧ True ∧ True ∧ True) (by kernel_rfl) ⟨trivial, ⟨⟨⟨rfl, rfl, rfl, rfl, trivial⟩, trivial⟩, ok_impl_ValidClip K a1 v1 e2⟩, trivial, ⟨trivial, b3⟩, trivial, trivial, ⟨⟨⟨rfl, trivial⟩, rfl, trivial⟩, ok_impl_IsPairing K a0 a2 v4 e5⟩, trivial, trivial, ⟨trivial, b6⟩, trivial, trivial, trivial, trivial, trivial, trivial, trivial, trivial, trivial⟩ ⟨rfl, rfl⟩
  refine thenQ_normal ?_
  rcases ite2_cases h with ⟨b9, h⟩ | ⟨b9, h⟩
  · refine AW.cond_t rfl b9 ?_
    refine AW.seq ?_
    refine AW.regionA [] [6, 7] [4] (s' := ⟨[(6, (.v (.one (.ptr 4 0)))), (7, (.v (.one (.c (.bool false)))))], [(4, (.box [(.c (.int .i64 (0 : Int))), (.c (.int .i64 (0 : Int))), .nils, .nils]))]⟩) (ob := True ∧ True ∧ True ∧ True) (by kernel_rfl) ⟨trivial, trivial, trivial, trivial⟩ ?_
    refine thenQ_normal ?_
    refine AW.ret ?_
    refine thenQ_ret ?_
    replace h := some_eq h
    subst h
    exact ⟨.inr rfl, retOK_of [(.agg [(.c (.int .i64 (0 : Int))), (.c (.int .i64 (0 : Int))), .nils, .nils]), (.one (.c (.bool false)))] (by kernel_rfl) ⟨⟨⟨rfl, trivial⟩, ⟨rfl, trivial⟩, rfl, rfl, trivial⟩, ⟨rfl, trivial⟩, trivial⟩ (of_decide_eq_true (by kernel_rfl))⟩
  · refine AW.cond_f rfl b9 ?_
    refine AW.skip ?_
    refine thenQ_normal ?_
    refine AW.seq ?_
    obtain ⟨v10, e11, h⟩ := bind_some h
    refine AW.regionA [.no, .no, .no, .no, .call [.agg (cs_Clip a1), .one (.int .i64 a1.Length), .one (.fn 100 2 fun j => [(pl 4 cs_Clip a1), (pl 1 (csL 1 (csI .i64)) a2)].getD j .nilptr), .one (.fn 102 0 fun _ => .nilptr)] [.agg (cs_Clip v10.1), .one (.bool v10.2)] [[.view, .view, .lst 5, .lst 6], [.view]]] [6, 7] [4, 5, 6] (s' := ⟨[(6, (.v (.one (.ptr 4 0)))), (7, (.v (.one (.c (.bool v10.2)))))], [(4, (.box [(.c (.int .i64 v10.1.Length)), (.c (.int .i64 v10.1.Kind)), (.lst 5 v10.1.Tracks.length 1 (gl (csL 5 cs_Key) v10.1.Tracks)), (.lst 6 v10.1.Roots.length 4 (gl cs_RootKey v10.1.Roots))])), (5, (.lst v10.1.Tracks.length 1 (gl (csL 5 cs_Key) v10.1.Tracks))), (6, (.lst v10.1.Roots.length 4 (gl cs_RootKey v10.1.Roots)))]⟩) (ob := True ∧ True ∧ True ∧ True ∧ ((((((.int .i64 a1.Length) : C) = (.int .i64 a1.Length)) ∧ (((.int .i64 a1.Kind) : C) = (.int .i64 a1.Kind)) ∧ (((sl 1 (csL 5 cs_Key) a1.Tracks) : C) = (sl 1 (csL 5 cs_Key) a1.Tracks)) ∧ (((sl 4 cs_RootKey a1.Roots) : C) = (sl 4 cs_RootKey a1.Roots)) ∧ True) ∧ (((.int .i64 a1.Length) : C) = (.int .i64 a1.Length)) ∧ (100 = 100 ∧ 2 = 2 ∧ ((((.int .i64 a1.Length) : C) = (.int .i64 a1.Length)) ∧ (((.int .i64 a1.Kind) : C) = (.int .i64 a1.Kind)) ∧ (((sl 1 (csL 5 cs_Key) a1.Tracks) : C) = (sl 1 (csL 5 cs_Key) a1.Tracks)) ∧ (((sl 4 cs_RootKey a1.Roots) : C) = (sl 4 cs_RootKey a1.Roots)) ∧ True) ∧ ((((sl 1 (csI .i64) a2) : C) = (sl 1 (csI .i64) a2)) ∧ True) ∧ True) ∧ (((.fn 102 0 fun _ => .nilptr) : C) = (.fn 102 0 fun _ => .nilptr)) ∧ True) ∧ CallOK Try.prog 64 [.agg (cs_Clip a1), .one (.int .i64 a1.Length), .one (.fn 100 2 fun j => [(pl 4 cs_Clip a1), (pl 1 (csL 1 (csI .i64)) a2)].getD j .nilptr), .one (.fn 102 0 fun _ => .nilptr)] [.agg (cs_Clip v10.1), .one (.bool v10.2)]) ∧ True ∧ True ∧ True ∧ True ∧ True) (by kernel_rfl) ⟨trivial, trivial, trivial, trivial, ⟨⟨⟨rfl, rfl, rfl, rfl, trivial⟩, rfl, ⟨rfl, rfl, ⟨⟨rfl, rfl, rfl, rfl, trivial⟩, ⟨rfl, trivial⟩, trivial⟩⟩, rfl, trivial⟩, ok_impl_Clip_changed K a1 a1.Length a1 a2 v10 e11⟩, trivial, trivial, trivial, trivial, trivial⟩ ?_
    refine thenQ_normal ?_
    refine AW.ret ?_
    replace h := some_eq h
    subst h
    exact ⟨.inr rfl, retOK_of [(.agg [(.c (.int .i64 v10.1.Length)), (.c (.int .i64 v10.1.Kind)), (.lst 5 v10.1.Tracks.length 1 (gl (csL 5 cs_Key) v10.1.Tracks)), (.lst 6 v10.1.Roots.length 4 (gl cs_RootKey v10.1.Roots))]), (.one (.c (.bool v10.2)))] (by kernel_rfl) ⟨⟨⟨rfl, trivial⟩, ⟨rfl, trivial⟩, rfl, rfl, trivial⟩, ⟨rfl, trivial⟩, trivial⟩ (of_decide_eq_true (by kernel_rfl))⟩

/-! laws.sameFloat -/
def laws_sameFloat (_K : Nat) (a0 : F64) (a1 : F64) : Option (Bool) :=
  (ite2 ((a0.ne a0)) (some true) (some (a1.ne a1))).bind fun j2 => ite2 (j2) ((ite2 ((a0.ne a0)) (some (a1.ne a1)) (some false)).bind fun j6 => some j6) ((ite2 ((a0.eq (Fl.mk (k := .f64) 0 (by decide)))) (some (a1.eq (Fl.mk (k := .f64) 0 (by decide)))) (some false)).bind fun j9 => ite2 (j9) (some ((((Fl.mk (k := .f64) 4607182418800017408 (by decide)).div a0).gt (Fl.mk (k := .f64) 0 (by decide))) == (((Fl.mk (k := .f64) 4607182418800017408 (by decide)).div a1).gt (Fl.mk (k := .f64) 0 (by decide))))) (some (a0.eq a1)))

theorem ok_laws_sameFloat (K : Nat) (a0 : F64) (a1 : F64) (o : (Bool)) (h : laws_sameFloat K a0 a1 = some o) : CallOK Try.prog 211 [.one (.flt .f64 a0.bits), .one (.flt .f64 a1.bits)] [.one (.bool o)] := by
  refine callOK_of_AW Try.func211 rfl (by kernel_rfl) (Nat.le_of_ble_eq_true (by kernel_rfl)) ?_
  intro w0
  unfold laws_sameFloat at h
  refine AW.seq ?_
  refine AW.regionA [] [0, 1] [] (s' := ⟨[(0, (.v (.one (.c (.flt .f64 a0.bits))))), (1, (.v (.one (.c (.flt .f64 a1.bits)))))], []⟩) (ob := True ∧ True) (by kernel_rfl) ⟨trivial, trivial⟩ ?_
  refine thenQ_normal ?_
  refine AW.seq ?_
  refine AW.seq ?_
  obtain ⟨j2, e3, h⟩ := bind_some h
  refine AW.join1 (s2 := ⟨[(0, (.v (.one (.c (.flt .f64 a0.bits))))), (1, (.v (.one (.c (.flt .f64 a1.bits))))), (12, (.v (.one (.c (.bool j2)))))], []⟩) ?_ ?_
  · rcases ite2_cases e3 with ⟨b1, e3⟩ | ⟨b1, e3⟩
    · replace e3 := some_eq e3
      subst e3
      exact AW.regionA [.no, .no, .no, .dec true] [0, 1, 12] [] (s' := ⟨[(0, (.v (.one (.c (.flt .f64 a0.bits))))), (1, (.v (.one (.c (.flt .f64 a1.bits))))), (12, (.v (.one (.c (.bool true)))))], []⟩) (ob := True ∧ True ∧ True ∧ (True ∧ (a0.ne a0) = true) ∧ True ∧ True ∧ True ∧ True ∧ True) (by kernel_rfl) ⟨trivial, trivial, trivial, ⟨trivial, b1⟩, trivial, trivial, trivial, trivial, trivial⟩ ⟨rfl, rfl⟩
    · replace e3 := some_eq e3
      subst e3
      exact AW.regionA [.no, .no, .no, .dec false] [0, 1, 12] [] (s' := ⟨[(0, (.v (.one (.c (.flt .f64 a0.bits))))), (1, (.v (.one (.c (.flt .f64 a1.bits))))), (12, (.v (.one (.c (.bool (a1.ne a1))))))], []⟩) (ob := True ∧ True ∧ True ∧ (True ∧ (a0.ne a0) = false) ∧ True ∧ True ∧ True ∧ True ∧ True) (by kernel_rfl) ⟨trivial, trivial, trivial, ⟨trivial, b1⟩, trivial, trivial, trivial, trivial, trivial⟩ ⟨rfl, rfl⟩
  refine thenQ_normal ?_
  rcases ite2_cases h with ⟨b4, h⟩ | ⟨b4, h⟩
  · refine AW.cond_t rfl b4 ?_
    refine AW.seq ?_
    obtain ⟨j6, e7, h⟩ := bind_some h
    refine AW.join1 (s2 := ⟨[(4, (.v (.one (.c (.bool j6)))))], []⟩) ?_ ?_
    · rcases ite2_cases e7 with ⟨b5, e7⟩ | ⟨b5, e7⟩
      · replace e7 := some_eq e7
        subst e7
        exact AW.regionA [.no, .no, .no, .dec true] [4] [] (s' := ⟨[(4, (.v (.one (.c (.bool (a1.ne a1))))))], []⟩) (ob := True ∧ True ∧ True ∧ (True ∧ (a0.ne a0) = true) ∧ True ∧ True ∧ True ∧ True ∧ True ∧ True) (by kernel_rfl) ⟨trivial, trivial, trivial, ⟨trivial, b5⟩, trivial, trivial, trivial, trivial, trivial, trivial⟩ ⟨rfl, rfl⟩
      · replace e7 := some_eq e7
        subst e7
        exact AW.regionA [.no, .no, .no, .dec false] [4] [] (s' := ⟨[(4, (.v (.one (.c (.bool false)))))], []⟩) (ob := True ∧ True ∧ True ∧ (True ∧ (a0.ne a0) = false) ∧ True ∧ True ∧ True ∧ True ∧ True ∧ True) (by kernel_rfl) ⟨trivial, trivial, trivial, ⟨trivial, b5⟩, trivial, trivial, trivial, trivial, trivial, trivial⟩ ⟨rfl, rfl⟩
    refine thenQ_normal ?_
    refine AW.ret ?_
    refine thenQ_ret ?_
    replace h := some_eq h
    subst h
    exact ⟨.inr rfl, retOK_of [(.one (.c (.bool j6)))] (by kernel_rfl) ⟨⟨rfl, trivial⟩, trivial⟩ (of_decide_eq_true (by kernel_rfl))⟩
  · refine AW.cond_f rfl b4 ?_
    refine AW.skip ?_
    refine thenQ_normal ?_
    refine AW.seq ?_
    refine AW.seq ?_
    obtain ⟨j9, e10, h⟩ := bind_some h
    refine AW.join1 (s2 := ⟨[(0, (.v (.one (.c (.flt .f64 a0.bits))))), (1, (.v (.one (.c (.flt .f64 a1.bits))))), (26, (.v (.one (.c (.bool j9)))))], []⟩) ?_ ?_
    · rcases ite2_cases e10 with ⟨b8, e10⟩ | ⟨b8, e10⟩
      · replace e10 := some_eq e10
        subst e10
        exact AW.regionA [.no, .no, .dec true] [0, 1, 26] [] (s' := ⟨[(0, (.v (.one (.c (.flt .f64 a0.bits))))), (1, (.v (.one (.c (.flt .f64 a1.bits))))), (26, (.v (.one (.c (.bool (a1.eq (Fl.mk (k := .f64) 0 (by decide))))))))], []⟩) (ob := True ∧ True ∧ (True ∧ (a0.eq (Fl.mk (k := .f64) 0 (by decide))) = true) ∧ True ∧ True ∧ True ∧ True) (by kernel_rfl) ⟨trivial, trivial, ⟨trivial, b8⟩, trivial, trivial, trivial, trivial⟩ ⟨rfl, rfl⟩
      · replace e10 := some_eq e10
        subst e10
        exact AW.regionA [.no, .no, .dec false] [0, 1, 26] [] (s' := ⟨[(0, (.v (.one (.c (.flt .f64 a0.bits))))), (1, (.v (.one (.c (.flt .f64 a1.bits))))), (26, (.v (.one (.c (.bool false)))))], []⟩) (ob := True ∧ True ∧ (True ∧ (a0.eq (Fl.mk (k := .f64) 0 (by decide))) = false) ∧ True ∧ True ∧ True ∧ True) (by kernel_rfl) ⟨trivial, trivial, ⟨trivial, b8⟩, trivial, trivial, trivial, trivial⟩ ⟨rfl, rfl⟩
    refine thenQ_normal ?_
    rcases ite2_cases h with ⟨b11, h⟩ | ⟨b11, h⟩
    · refine AW.cond_t rfl b11 ?_
      refine AW.seq ?_
      refine AW.regionA [] [4] [] (s' := ⟨[(4, (.v (.one (.c (.bool ((((Fl.mk (k := .f64) 4607182418800017408 (by decide)).div a0).gt (Fl.mk (k := .f64) 0 (by decide))) == (((Fl.mk (k := .f64) 4607182418800017408 (by decide)).div a1).gt (Fl.mk (k := .f64) 0 (by decide)))))))))], []⟩) (ob := True ∧ True ∧ True ∧ True ∧ True ∧ True ∧ True ∧ True ∧ True) (by kernel_rfl) ⟨trivial, trivial, trivial, trivial, trivial, trivial, trivial, trivial, trivial⟩ ?_
      refine thenQ_normal ?_
      refine AW.ret ?_
      refine thenQ_ret ?_
      replace h := some_eq h
      subst h
      exact ⟨.inr rfl, retOK_of [(.one (.c (.bool ((((Fl.mk (k := .f64) 4607182418800017408 (by decide)).div a0).gt (Fl.mk (k := .f64) 0 (by decide))) == (((Fl.mk (k := .f64) 4607182418800017408 (by decide)).div a1).gt (Fl.mk (k := .f64) 0 (by decide)))))))] (by kernel_rfl) ⟨⟨rfl, trivial⟩, trivial⟩ (of_decide_eq_true (by kernel_rfl))⟩
    · refine AW.cond_f rfl b11 ?_
      refine AW.skip ?_
      refine thenQ_normal ?_
      refine AW.seq ?_
      refine AW.regionA [] [4] [] (s' := ⟨[(4, (.v (.one (.c (.bool (a0.eq a1))))))], []⟩) (ob := True ∧ True ∧ True ∧ True ∧ True) (by kernel_rfl) ⟨trivial, trivial, trivial, trivial, trivial⟩ ?_
      refine thenQ_normal ?_
      refine AW.ret ?_
      replace h := some_eq h
      subst h
      exact ⟨.inr rfl, retOK_of [(.one (.c (.bool (a0.eq a1))))] (by kernel_rfl) ⟨⟨rfl, trivial⟩, trivial⟩ (of_decide_eq_true (by kernel_rfl))⟩

/-! laws.eqTurn -/
def laws_eqTurn (K : Nat) (a0 : Turn) (a1 : Turn) : Option (Bool) :=
  (laws_sameFloat K (Fl.cv .f32 .f64 a0.W) (Fl.cv .f32 .f64 a1.W)).bind fun v1 => ite2 ((!v1)) (some false) ((laws_sameFloat K (Fl.cv .f32 .f64 a0.X) (Fl.cv .f32 .f64 a1.X)).bind fun v4 => ite2 ((!v4)) (some false) ((laws_sameFloat K (Fl.cv .f32 .f64 a0.Y) (Fl.cv .f32 .f64 a1.Y)).bind fun v7 => ite2 ((!v7)) (some false) ((laws_sameFloat K (Fl.cv .f32 .f64 a0.Z) (Fl.cv .f32 .f64 a1.Z)).bind fun v10 => ite2 ((!v10)) (some false) (some true))))

theorem ok_laws_eqTurn (K : Nat) (a0 : Turn) (a1 : Turn) (o : (Bool)) (h : laws_eqTurn K a0 a1 = some o) : CallOK Try.prog 210 [.agg (cs_Turn a0), .agg (cs_Turn a1)] [.one (.bool o)] := by
  refine callOK_of_AW Try.func210 rfl (by kernel_rfl) (Nat.le_of_ble_eq_true (by kernel_rfl)) ?_
  intro w0
  unfold laws_eqTurn at h
  refine AW.seq ?_
  refine AW.regionA [.box 1, .box 2] [2, 3] [1, 2] (s' := ⟨[(2, (.v (.one (.ptr 1 0)))), (3, (.v (.one (.ptr 2 0))))], [(1, (.box [(.c (.flt .f32 a0.W.bits)), (.c (.flt .f32 a0.X.bits)), (.c (.flt .f32 a0.Y.bits)), (.c (.flt .f32 a0.Z.bits))])), (2, (.box [(.c (.flt .f32 a1.W.bits)), (.c (.flt .f32 a1.X.bits)), (.c (.flt .f32 a1.Y.bits)), (.c (.flt .f32 a1.Z.bits))]))]⟩) (ob := True ∧ True ∧ True ∧ True) (by kernel_rfl) ⟨trivial, trivial, trivial, trivial⟩ ?_
  refine thenQ_normal ?_
  refine AW.seq ?_
  refine AW.seq ?_
  obtain ⟨v1, e2, h⟩ := bind_some h
  refine AW.regionA [.no, .no, .no, .no, .no, .no, .call [.one (.flt .f64 (Fl.cv .f32 .f64 a0.W).bits), .one (.flt .f64 (Fl.cv .f32 .f64 a1.W).bits)] [.one (.bool v1)] [[.view]]] [2, 3, 12] [1, 2] (s' := ⟨[(2, (.v (.one (.ptr 1 0)))), (3, (.v (.one (.ptr 2 0)))), (12, (.v (.one (.c (.bool (!v1))))))], [(1, (.box [(.c (.flt .f32 a0.W.bits)), (.c (.flt .f32 a0.X.bits)), (.c (.flt .f32 a0.Y.bits)), (.c (.flt .f32 a0.Z.bits))])), (2, (.box [(.c (.flt .f32 a1.W.bits)), (.c (.flt .f32 a1.X.bits)), (.c (.flt .f32 a1.Y.bits)), (.c (.flt .f32 a1.Z.bits))]))]⟩) (ob := True ∧ True ∧ ((convBits .f32 a0.W.bits .f64).isSome = true) ∧ True ∧ True ∧ ((convBits .f32 a1.W.bits .f64).isSome = true) ∧ (((((.flt .f64 (Fl.cv .f32 .f64 a0.W).bits) : C) = (.flt .f64 (Fl.cv .f32 .f64 a0.W).bits)) ∧ (((.flt .f64 (Fl.cv .f32 .f64 a1.W).bits) : C) = (.flt .f64 (Fl.cv .f32 .f64 a1.W).bits)) ∧ True) ∧ CallOK Try.prog 211 [.one (.flt .f64 (Fl.cv .f32 .f64 a0.W).bits), .one (.flt .f64 (Fl.cv .f32 .f64 a1.W).bits)] [.one (.bool v1)]) ∧ True ∧ True) (by kernel_rfl) ⟨trivial, trivial, cv_wide a0.W, trivial, trivial, cv_wide a1.W, ⟨⟨rfl, rfl, trivial⟩, ok_laws_sameFloat K (Fl.cv .f32 .f64 a0.W) (Fl.cv .f32 .f64 a1.W) v1 e2⟩, trivial, trivial⟩ ?_
  refine thenQ_normal ?_
  rcases ite2_cases h with ⟨b3, h⟩ | ⟨b3, h⟩
  · refine AW.cond_t rfl b3 ?_
    refine AW.seq ?_
    refine AW.regionA [] [4] [] (s' := ⟨[(4, (.v (.one (.c (.bool false)))))], []⟩) (ob := True ∧ True) (by kernel_rfl) ⟨trivial, trivial⟩ ?_
    refine thenQ_normal ?_
    refine AW.ret ?_
    refine thenQ_ret ?_
    replace h := some_eq h
    subst h
    exact ⟨.inr rfl, retOK_of [(.one (.c (.bool false)))] (by kernel_rfl) ⟨⟨rfl, trivial⟩, trivial⟩ (of_decide_eq_true (by kernel_rfl))⟩
  · refine AW.cond_f rfl b3 ?_
    refine AW.skip ?_
    refine thenQ_normal ?_
    refine AW.seq ?_
    refine AW.seq ?_
    obtain ⟨v4, e5, h⟩ := bind_some h
    refine AW.regionA [.no, .no, .no, .no, .no, .no, .call [.one (.flt .f64 (Fl.cv .f32 .f64 a0.X).bits), .one (.flt .f64 (Fl.cv .f32 .f64 a1.X).bits)] [.one (.bool v4)] [[.view]]] [2, 3, 20] [1, 2] (s' := ⟨[(2, (.v (.one (.ptr 1 0)))), (3, (.v (.one (.ptr 2 0)))), (20, (.v (.one (.c (.bool (!v4))))))], [(1, (.box [(.c (.flt .f32 a0.W.bits)), (.c (.flt .f32 a0.X.bits)), (.c (.flt .f32 a0.Y.bits)), (.c (.flt .f32 a0.Z.bits))])), (2, (.box [(.c (.flt .f32 a1.W.bits)), (.c (.flt .f32 a1.X.bits)), (.c (.flt .f32 a1.Y.bits)), (.c (.flt .f32 a1.Z.bits))]))]⟩) (ob := True ∧ True ∧ ((convBits .f32 a0.X.bits .f64).isSome = true) ∧ True ∧ True ∧ ((convBits .f32 a1.X.bits .f64).isSome = true) ∧ (((((.flt .f64 (Fl.cv .f32 .f64 a0.X).bits) : C) = (.flt .f64 (Fl.cv .f32 .f64 a0.X).bits)) ∧ (((.flt .f64 (Fl.cv .f32 .f64 a1.X).bits) : C) = (.flt .f64 (Fl.cv .f32 .f64 a1.X).bits)) ∧ True) ∧ CallOK Try.prog 211 [.one (.flt .f64 (Fl.cv .f32 .f64 a0.X).bits), .one (.flt .f64 (Fl.cv .f32 .f64 a1.X).bits)] [.one (.bool v4)]) ∧ True ∧ True) (by kernel_rfl) ⟨trivial, trivial, cv_wide a0.X, trivial, trivial, cv_wide a1.X, ⟨⟨rfl, rfl, trivial⟩, ok_laws_sameFloat K (Fl.cv .f32 .f64 a0.X) (Fl.cv .f32 .f64 a1.X) v4 e5⟩, trivial, trivial⟩ ?_
    refine thenQ_normal ?_
    rcases ite2_cases h with ⟨b6, h⟩ | ⟨b6, h⟩
    · refine AW.cond_t rfl b6 ?_
      refine AW.seq ?_
      refine AW.regionA [] [4] [] (s' := ⟨[(4, (.v (.one (.c (.bool false)))))], []⟩) (ob := True ∧ True) (by kernel_rfl) ⟨trivial, trivial⟩ ?_
      refine thenQ_normal ?_
      refine AW.ret ?_
      refine thenQ_ret ?_
      replace h := some_eq h
      subst h
      exact ⟨.inr rfl, retOK_of [(.one (.c (.bool false)))] (by kernel_rfl) ⟨⟨rfl, trivial⟩, trivial⟩ (of_decide_eq_true (by kernel_rfl))⟩
    · refine AW.cond_f rfl b6 ?_
      refine AW.skip ?_
      refine thenQ_normal ?_
      refine AW.seq ?_
      refine AW.seq ?_
      obtain ⟨v7, e8, h⟩ := bind_some h
      refine AW.regionA [.no, .no, .no, .no, .no, .no, .call [.one (.flt .f64 (Fl.cv .f32 .f64 a0.Y).bits), .one (.flt .f64 (Fl.cv .f32 .f64 a1.Y).bits)] [.one (.bool v7)] [[.view]]] [2, 3, 28] [1, 2] (s' := ⟨[(2, (.v (.one (.ptr 1 0)))), (3, (.v (.one (.ptr 2 0)))), (28, (.v (.one (.c (.bool (!v7))))))], [(1, (.box [(.c (.flt .f32 a0.W.bits)), (.c (.flt .f32 a0.X.bits)), (.c (.flt .f32 a0.Y.bits)), (.c (.flt .f32 a0.Z.bits))])), (2, (.box [(.c (.flt .f32 a1.W.bits)), (.c (.flt .f32 a1.X.bits)), (.c (.flt .f32 a1.Y.bits)), (.c (.flt .f32 a1.Z.bits))]))]⟩) (ob := True ∧ True ∧ ((convBits .f32 a0.Y.bits .f64).isSome = true) ∧ True ∧ True ∧ ((convBits .f32 a1.Y.bits .f64).isSome = true) ∧ (((((.flt .f64 (Fl.cv .f32 .f64 a0.Y).bits) : C) = (.flt .f64 (Fl.cv .f32 .f64 a0.Y).bits)) ∧ (((.flt .f64 (Fl.cv .f32 .f64 a1.Y).bits) : C) = (.flt .f64 (Fl.cv .f32 .f64 a1.Y).bits)) ∧ True) ∧ CallOK Try.prog 211 [.one (.flt .f64 (Fl.cv .f32 .f64 a0.Y).bits), .one (.flt .f64 (Fl.cv .f32 .f64 a1.Y).bits)] [.one (.bool v7)]) ∧ True ∧ True) (by kernel_rfl) ⟨trivial, trivial, cv_wide a0.Y, trivial, trivial, cv_wide a1.Y, ⟨⟨rfl, rfl, trivial⟩, ok_laws_sameFloat K (Fl.cv .f32 .f64 a0.Y) (Fl.cv .f32 .f64 a1.Y) v7 e8⟩, trivial, trivial⟩ ?_
      refine thenQ_normal ?_
      rcases ite2_cases h with ⟨b9, h⟩ | ⟨b9, h⟩
      · refine AW.cond_t rfl b9 ?_
        refine AW.seq ?_
        refine AW.regionA [] [4] [] (s' := ⟨[(4, (.v (.one (.c (.bool false)))))], []⟩) (ob := True ∧ True) (by kernel_rfl) ⟨trivial, trivial⟩ ?_
        refine thenQ_normal ?_
        refine AW.ret ?_
        refine thenQ_ret ?_
        replace h := some_eq h
        subst h
        exact ⟨.inr rfl, retOK_of [(.one (.c (.bool false)))] (by kernel_rfl) ⟨⟨rfl, trivial⟩, trivial⟩ (of_decide_eq_true (by kernel_rfl))⟩
      · refine AW.cond_f rfl b9 ?_
        refine AW.skip ?_
        refine thenQ_normal ?_
        refine AW.seq ?_
        refine AW.seq ?_
        obtain ⟨v10, e11, h⟩ := bind_some h
        refine AW.regionA [.no, .no, .no, .no, .no, .no, .call [.one (.flt .f64 (Fl.cv .f32 .f64 a0.Z).bits), .one (.flt .f64 (Fl.cv .f32 .f64 a1.Z).bits)] [.one (.bool v10)] [[.view]]] [36] [] (s' := ⟨[(36, (.v (.one (.c (.bool (!v10))))))], []⟩) (ob := True ∧ True ∧ ((convBits .f32 a0.Z.bits .f64).isSome = true) ∧ True ∧ True ∧ ((convBits .f32 a1.Z.bits .f64).isSome = true) ∧ (((((.flt .f64 (Fl.cv .f32 .f64 a0.Z).bits) : C) = (.flt .f64 (Fl.cv .f32 .f64 a0.Z).bits)) ∧ (((.flt .f64 (Fl.cv .f32 .f64 a1.Z).bits) : C) = (.flt .f64 (Fl.cv .f32 .f64 a1.Z).bits)) ∧ True) ∧ CallOK Try.prog 211 [.one (.flt .f64 (Fl.cv .f32 .f64 a0.Z).bits), .one (.flt .f64 (Fl.cv .f32 .f64 a1.Z).bits)] [.one (.bool v10)]) ∧ True ∧ True) (by kernel_rfl) ⟨trivial, trivial, cv_wide a0.Z, trivial, trivial, cv_wide a1.Z, ⟨⟨rfl, rfl, trivial⟩, ok_laws_sameFloat K (Fl.cv .f32 .f64 a0.Z) (Fl.cv .f32 .f64 a1.Z) v10 e11⟩, trivial, trivial⟩ ?_
        refine thenQ_normal ?_
        rcases ite2_cases h with ⟨b12, h⟩ | ⟨b12, h⟩
        · refine AW.cond_t rfl b12 ?_
          refine AW.seq ?_
          refine AW.regionA [] [4] [] (s' := ⟨[(4, (.v (.one (.c (.bool false)))))], []⟩) (ob := True ∧ True) (by kernel_rfl) ⟨trivial, trivial⟩ ?_
          refine thenQ_normal ?_
          refine AW.ret ?_
          refine thenQ_ret ?_
          replace h := some_eq h
          subst h
          exact ⟨.inr rfl, retOK_of [(.one (.c (.bool false)))] (by kernel_rfl) ⟨⟨rfl, trivial⟩, trivial⟩ (of_decide_eq_true (by kernel_rfl))⟩
        · refine AW.cond_f rfl b12 ?_
          refine AW.skip ?_
          refine thenQ_normal ?_
          refine AW.seq ?_
          refine AW.regionA [] [4] [] (s' := ⟨[(4, (.v (.one (.c (.bool true)))))], []⟩) (ob := True ∧ True) (by kernel_rfl) ⟨trivial, trivial⟩ ?_
          refine thenQ_normal ?_
          refine AW.ret ?_
          replace h := some_eq h
          subst h
          exact ⟨.inr rfl, retOK_of [(.one (.c (.bool true)))] (by kernel_rfl) ⟨⟨rfl, trivial⟩, trivial⟩ (of_decide_eq_true (by kernel_rfl))⟩

/-! laws.eqKey -/
def laws_eqKey (K : Nat) (a0 : Key) (a1 : Key) : Option (Bool) :=
  ite2 ((a0.At != a1.At)) (some false) ((laws_eqTurn K a0.Turn a1.Turn).bind fun v2 => ite2 ((!v2)) (some false) (some true))

theorem ok_laws_eqKey (K : Nat) (a0 : Key) (a1 : Key) (o : (Bool)) (h : laws_eqKey K a0 a1 = some o) : CallOK Try.prog 185 [.agg (cs_Key a0), .agg (cs_Key a1)] [.one (.bool o)] := by
  refine callOK_of_AW Try.func185 rfl (by kernel_rfl) (Nat.le_of_ble_eq_true (by kernel_rfl)) ?_
  intro w0
  unfold laws_eqKey at h
  refine AW.seq ?_
  refine AW.regionA [.box 1, .box 2] [2, 3] [1, 2] (s' := ⟨[(2, (.v (.one (.ptr 1 0)))), (3, (.v (.one (.ptr 2 0))))], [(1, (.box [(.c (.int .i64 a0.At)), (.c (.flt .f32 a0.Turn.W.bits)), (.c (.flt .f32 a0.Turn.X.bits)), (.c (.flt .f32 a0.Turn.Y.bits)), (.c (.flt .f32 a0.Turn.Z.bits))])), (2, (.box [(.c (.int .i64 a1.At)), (.c (.flt .f32 a1.Turn.W.bits)), (.c (.flt .f32 a1.Turn.X.bits)), (.c (.flt .f32 a1.Turn.Y.bits)), (.c (.flt .f32 a1.Turn.Z.bits))]))]⟩) (ob := True ∧ True ∧ True ∧ True) (by kernel_rfl) ⟨trivial, trivial, trivial, trivial⟩ ?_
  refine thenQ_normal ?_
  refine AW.seq ?_
  refine AW.seq ?_
  refine AW.regionA [] [2, 3, 9] [1, 2] (s' := ⟨[(2, (.v (.one (.ptr 1 0)))), (3, (.v (.one (.ptr 2 0)))), (9, (.v (.one (.c (.bool (a0.At != a1.At))))))], [(1, (.box [(.c (.int .i64 a0.At)), (.c (.flt .f32 a0.Turn.W.bits)), (.c (.flt .f32 a0.Turn.X.bits)), (.c (.flt .f32 a0.Turn.Y.bits)), (.c (.flt .f32 a0.Turn.Z.bits))])), (2, (.box [(.c (.int .i64 a1.At)), (.c (.flt .f32 a1.Turn.W.bits)), (.c (.flt .f32 a1.Turn.X.bits)), (.c (.flt .f32 a1.Turn.Y.bits)), (.c (.flt .f32 a1.Turn.Z.bits))]))]⟩) (ob := True ∧ True ∧ True ∧ True ∧ True ∧ True) (by kernel_rfl) ⟨trivial, trivial, trivial, trivial, trivial, trivial⟩ ?_
  refine thenQ_normal ?_
  rcases ite2_cases h with ⟨b1, h⟩ | ⟨b1, h⟩
  · refine AW.cond_t rfl b1 ?_
    refine AW.seq ?_
    refine AW.regionA [] [4] [] (s' := ⟨[(4, (.v (.one (.c (.bool false)))))], []⟩) (ob := True ∧ True) (by kernel_rfl) ⟨trivial, trivial⟩ ?_
    refine thenQ_normal ?_
    refine AW.ret ?_
    refine thenQ_ret ?_
    replace h := some_eq h
    subst h
    exact ⟨.inr rfl, retOK_of [(.one (.c (.bool false)))] (by kernel_rfl) ⟨⟨rfl, trivial⟩, trivial⟩ (of_decide_eq_true (by kernel_rfl))⟩
  · refine AW.cond_f rfl b1 ?_
    refine AW.skip ?_
    refine thenQ_normal ?_
    refine AW.seq ?_
    refine AW.seq ?_
    obtain ⟨v2, e3, h⟩ := bind_some h
    refine AW.regionA [.no, .no, .no, .no, .call [.agg (cs_Turn a0.Turn), .agg (cs_Turn a1.Turn)] [.one (.bool v2)] [[.view]]] [15] [] (s' := ⟨[(15, (.v (.one (.c (.bool (!v2))))))], []⟩) (ob := True ∧ True ∧ True ∧ True ∧ ((((((.flt .f32 a0.Turn.W.bits) : C) = (.flt .f32 a0.Turn.W.bits)) ∧ (((.flt .f32 a0.Turn.X.bits) : C) = (.flt .f32 a0.Turn.X.bits)) ∧ (((.flt .f32 a0.Turn.Y.bits) : C) = (.flt .f32 a0.Turn.Y.bits)) ∧ (((.flt .f32 a0.Turn.Z.bits) : C) = (.flt .f32 a0.Turn.Z.bits)) ∧ True) ∧ ((((.flt .f32 a1.Turn.W.bits) : C) = (.flt .f32 a1.Turn.W.bits)) ∧ (((.flt .f32 a1.Turn.X.bits) : C) = (.flt .f32 a1.Turn.X.bits)) ∧ (((.flt .f32 a1.Turn.Y.bits) : C) = (.flt .f32 a1.Turn.Y.bits)) ∧ (((.flt .f32 a1.Turn.Z.bits) : C) = (.flt .f32 a1.Turn.Z.bits)) ∧ True) ∧ True) ∧ CallOK Try.prog 210 [.agg (cs_Turn a0.Turn), .agg (cs_Turn a1.Turn)] [.one (.bool v2)]) ∧ True ∧ True) (by kernel_rfl) ⟨trivial, trivial, trivial, trivial, ⟨⟨⟨rfl, rfl, rfl, rfl, trivial⟩, ⟨rfl, rfl, rfl, rfl, trivial⟩, trivial⟩, ok_laws_eqTurn K a0.Turn a1.Turn v2 e3⟩, trivial, trivial⟩ ?_
    refine thenQ_normal ?_
    rcases ite2_cases h with ⟨b4, h⟩ | ⟨b4, h⟩
    · refine AW.cond_t rfl b4 ?_
      refine AW.seq ?_
      refine AW.regionA [] [4] [] (s' := ⟨[(4, (.v (.one (.c (.bool false)))))], []⟩) (ob := True ∧ True) (by kernel_rfl) ⟨trivial, trivial⟩ ?_
      refine thenQ_normal ?_
      refine AW.ret ?_
      refine thenQ_ret ?_
      replace h := some_eq h
      subst h
      exact ⟨.inr rfl, retOK_of [(.one (.c (.bool false)))] (by kernel_rfl) ⟨⟨rfl, trivial⟩, trivial⟩ (of_decide_eq_true (by kernel_rfl))⟩
    · refine AW.cond_f rfl b4 ?_
      refine AW.skip ?_
      refine thenQ_normal ?_
      refine AW.seq ?_
      refine AW.regionA [] [4] [] (s' := ⟨[(4, (.v (.one (.c (.bool true)))))], []⟩) (ob := True ∧ True) (by kernel_rfl) ⟨trivial, trivial⟩ ?_
      refine thenQ_normal ?_
      refine AW.ret ?_
      replace h := some_eq h
      subst h
      exact ⟨.inr rfl, retOK_of [(.one (.c (.bool true)))] (by kernel_rfl) ⟨⟨rfl, trivial⟩, trivial⟩ (of_decide_eq_true (by kernel_rfl))⟩

/-! laws.eqKeyS -/
def laws_eqKeyS_l1 (K : Nat) (a0 : (List Key)) (a1 : (List Key)) : Nat → Int → Option (Bool)
  | 0, _ => none
  | k + 1, x3 => ite2 ((decide (x3 < (a0.length : Int)))) (chk (0 ≤ x3 ∧ x3 < (a0.length : Int)) (chk (0 ≤ x3 ∧ x3 < (a1.length : Int)) ((laws_eqKey K (a0.getD x3.toNat default) (a1.getD x3.toNat default)).bind fun v7 => ite2 ((!v7)) (some false) (laws_eqKeyS_l1 K a0 a1 k (IntKind.i64.wrap (x3 + (1 : Int))))))) (some true)

def laws_eqKeyS (K : Nat) (a0 : (List Key)) (a1 : (List Key)) : Option (Bool) :=
  ite2 (((a0.length : Int) != (a1.length : Int))) (some false) (laws_eqKeyS_l1 K a0 a1 K (0 : Int))

theorem ok_laws_eqKeyS (K : Nat) (a0 : (List Key)) (a1 : (List Key)) (o : (Bool)) (h : laws_eqKeyS K a0 a1 = some o) : CallOK Try.prog 142 [.one (sl 5 cs_Key a0), .one (sl 5 cs_Key a1)] [.one (.bool o)] := by
  refine callOK_of_AW Try.func142 rfl (by kernel_rfl) (Nat.le_of_ble_eq_true (by kernel_rfl)) ?_
  intro w0
  unfold laws_eqKeyS at h
  refine AW.seq ?_
  refine AW.regionA [] [0, 1] [] (s' := ⟨[(0, (.v (.one (.c (sl 5 cs_Key a0))))), (1, (.v (.one (.c (sl 5 cs_Key a1)))))], []⟩) (ob := True ∧ True) (by kernel_rfl) ⟨trivial, trivial⟩ ?_
  refine thenQ_normal ?_
  refine AW.seq ?_
  refine AW.seq ?_
  refine AW.regionA [] [0, 1, 10] [] (s' := ⟨[(0, (.v (.one (.c (sl 5 cs_Key a0))))), (1, (.v (.one (.c (sl 5 cs_Key a1))))), (10, (.v (.one (.c (.bool ((a0.length : Int) != (a1.length : Int)))))))], []⟩) (ob := True ∧ True ∧ True ∧ True ∧ True ∧ True) (by kernel_rfl) ⟨trivial, trivial, trivial, trivial, trivial, trivial⟩ ?_
  refine thenQ_normal ?_
  rcases ite2_cases h with ⟨b1, h⟩ | ⟨b1, h⟩
  · refine AW.cond_t rfl b1 ?_
    refine AW.seq ?_
    refine AW.regionA [] [4] [] (s' := ⟨[(4, (.v (.one (.c (.bool false)))))], []⟩) (ob := True ∧ True) (by kernel_rfl) ⟨trivial, trivial⟩ ?_
    refine thenQ_normal ?_
    refine AW.ret ?_
    refine thenQ_ret ?_
    replace h := some_eq h
    subst h
    exact ⟨.inr rfl, retOK_of [(.one (.c (.bool false)))] (by kernel_rfl) ⟨⟨rfl, trivial⟩, trivial⟩ (of_decide_eq_true (by kernel_rfl))⟩
  · refine AW.cond_f rfl b1 ?_
    refine AW.skip ?_
    refine thenQ_normal ?_
    refine AW.seq ?_
    refine AW.seq ?_
    refine AW.regionA [] [0, 1, 5] [] (s' := ⟨[(0, (.v (.one (.c (sl 5 cs_Key a0))))), (1, (.v (.one (.c (sl 5 cs_Key a1))))), (5, (.v (.one (.c (.int .i64 (0 : Int))))))], []⟩) (ob := True ∧ True) (by kernel_rfl) ⟨trivial, trivial⟩ ?_
    refine thenQ_normal ?_
    refine AW.block ?_
    refine AW.loopQ (σ := Nat × Int) (fun p => ⟨[(0, (.v (.one (.c (sl 5 cs_Key a0))))), (1, (.v (.one (.c (sl 5 cs_Key a1))))), (5, (.v (.one (.c (.int .i64 p.2)))))], []⟩) (fun p => laws_eqKeyS_l1 K a0 a1 p.1 p.2 = some o) (fun p => p.1) (K, (0 : Int)) h ?_
    clear h
    rintro ⟨k, x3⟩ h
    replace h : laws_eqKeyS_l1 K a0 a1 k x3 = some o := h
    show AW _ _ (⟨[(0, (.v (.one (.c (sl 5 cs_Key a0))))), (1, (.v (.one (.c (sl 5 cs_Key a1))))), (5, (.v (.one (.c (.int .i64 x3)))))], []⟩ : St) _
    obtain _ | k := k
    · rw [laws_eqKeyS_l1] at h; cases h
    rw [laws_eqKeyS_l1] at h
    refine AW.seq ?_
    refine AW.seq ?_
    refine AW.regionA [] [0, 1, 5, 14] [] (s' := ⟨[(0, (.v (.one (.c (sl 5 cs_Key a0))))), (1, (.v (.one (.c (sl 5 cs_Key a1))))), (5, (.v (.one (.c (.int .i64 x3))))), (14, (.v (.one (.c (.bool (decide (x3 < (a0.length : Int))))))))], []⟩) (ob := True ∧ True ∧ True ∧ True ∧ True) (by kernel_rfl) ⟨trivial, trivial, trivial, trivial, trivial⟩ ?_
    refine thenQ_normal ?_
    rcases ite2_cases h with ⟨b4, h⟩ | ⟨b4, h⟩
    · refine AW.cond_t rfl b4 ?_
      refine AW.skip ?_
      refine thenQ_normal ?_
      refine AW.seq ?_
      refine AW.block ?_
      refine AW.seq ?_
      obtain ⟨c5, h⟩ := chk_some h
      obtain ⟨c6, h⟩ := chk_some h
      obtain ⟨v7, e8, h⟩ := bind_some h
      refine AW.drawnA (by kernel_rfl) 10 [.no, .no, .no, .no, .no, .no, .no, .no, .call [.agg (cs_Key (a0.getD x3.toNat default)), .agg (cs_Key (a1.getD x3.toNat default))] [.one (.bool v7)] [[.view]]] [0, 1, 5, 26] [] (s' := ⟨[(0, (.v (.one (.c (sl 5 cs_Key a0))))), (1, (.v (.one (.c (sl 5 cs_Key a1))))), (5, (.v (.one (.c (.int .i64 x3))))), (26, (.v (.one (.c (.bool (!v7))))))], []⟩) (ob := (True ∧ True ∧ (0 ≤ x3 ∧ x3 < (a0.length : Int)) ∧ True ∧ True ∧ True ∧ (0 ≤ x3 ∧ x3 < (a1.length : Int)) ∧ True ∧ ((((((.int .i64 ((a0.getD x3.toNat default).At)) : C) = (.int .i64 ((a0.getD x3.toNat default).At))) ∧ (((.flt .f32 (((a0.getD x3.toNat default).Turn).W).bits) : C) = (.flt .f32 (((a0.getD x3.toNat default).Turn).W).bits)) ∧ (((.flt .f32 (((a0.getD x3.toNat default).Turn).X).bits) : C) = (.flt .f32 (((a0.getD x3.toNat default).Turn).X).bits)) ∧ (((.flt .f32 (((a0.getD x3.toNat default).Turn).Y).bits) : C) = (.flt .f32 (((a0.getD x3.toNat default).Turn).Y).bits)) ∧ (((.flt .f32 (((a0.getD x3.toNat default).Turn).Z).bits) : C) = (.flt .f32 (((a0.getD x3.toNat default).Turn).Z).bits)) ∧ True) ∧ ((((.int .i64 ((a1.getD x3.toNat default).At)) : C) = (.int .i64 ((a1.getD x3.toNat default).At))) ∧ (((.flt .f32 (((a1.getD x3.toNat default).Turn).W).bits) : C) = (.flt .f32 (((a1.getD x3.toNat default).Turn).W).bits)) ∧ (((.flt .f32 (((a1.getD x3.toNat default).Turn).X).bits) : C) = (.flt .f32 (((a1.getD x3.toNat default).Turn).X).bits)) ∧ (((.flt .f32 (((a1.getD x3.toNat default).Turn).Y).bits) : C) = (.flt .f32 (((a1.getD x3.toNat default).Turn).Y).bits)) ∧ (((.flt .f32 (((a1.getD x3.toNat default).Turn).Z).bits) : C) = (.flt .f32 (((a1.getD x3.toNat default).Turn).Z).bits)) ∧ True) ∧ True) ∧ CallOK Try.prog 185 [.agg (cs_Key (a0.getD x3.toNat default)), .agg (cs_Key (a1.getD x3.toNat default))] [.one (.bool v7)]) ∧ True ∧ True) ∧ (True)) (by kernel_rfl) ⟨⟨trivial, trivial, c5, trivial, trivial, trivial, c6, trivial, ⟨⟨⟨rfl, rfl, rfl, rfl, rfl, trivial⟩, ⟨rfl, rfl, rfl, rfl, rfl, trivial⟩, trivial⟩, ok_laws_eqKey K (a0.getD x3.toNat default) (a1.getD x3.toNat default) v7 e8⟩, trivial, trivial⟩, trivial⟩ ?_
      refine thenQ_normal ?_
      rcases ite2_cases h with ⟨b9, h⟩ | ⟨b9, h⟩
      · refine AW.cond_t rfl b9 ?_
        refine AW.seq ?_
        refine AW.regionA [] [4] [] (s' := ⟨[(4, (.v (.one (.c (.bool false)))))], []⟩) (ob := True ∧ True) (by kernel_rfl) ⟨trivial, trivial⟩ ?_
        refine thenQ_normal ?_
        refine AW.ret ?_
        refine blockQ_ret ?_
        refine thenQ_ret ?_
        refine loopQ_ret ?_
        refine blockQ_ret ?_
        refine thenQ_ret ?_
        replace h := some_eq h
        subst h
        exact ⟨.inr rfl, retOK_of [(.one (.c (.bool false)))] (by kernel_rfl) ⟨⟨rfl, trivial⟩, trivial⟩ (of_decide_eq_true (by kernel_rfl))⟩
      · refine AW.cond_f rfl b9 ?_
        refine AW.skip ?_
        refine blockQ_normal ?_
        refine thenQ_normal ?_
        refine AW.regionA [] [0, 1, 5] [] (s' := ⟨[(0, (.v (.one (.c (sl 5 cs_Key a0))))), (1, (.v (.one (.c (sl 5 cs_Key a1))))), (5, (.v (.one (.c (.int .i64 (IntKind.i64.wrap (x3 + (1 : Int))))))))], []⟩) (ob := True ∧ True ∧ True ∧ True) (by kernel_rfl) ⟨trivial, trivial, trivial, trivial⟩ ?_
        exact loopQ_normal (k, (IntKind.i64.wrap (x3 + (1 : Int)))) h (Nat.lt_succ_self k) (Sub.keep [0, 1, 5] [] (by kernel_rfl) (by kernel_rfl))
    · refine AW.cond_f rfl b4 ?_
      refine AW.exit ?_
      refine thenQ_exit ?_
      refine loopQ_exit ?_
      refine blockQ_exit ?_
      refine thenQ_normal ?_
      refine AW.seq ?_
      refine AW.regionA [] [4] [] (s' := ⟨[(4, (.v (.one (.c (.bool true)))))], []⟩) (ob := True ∧ True) (by kernel_rfl) ⟨trivial, trivial⟩ ?_
      refine thenQ_normal ?_
      refine AW.ret ?_
      replace h := some_eq h
      subst h
      exact ⟨.inr rfl, retOK_of [(.one (.c (.bool true)))] (by kernel_rfl) ⟨⟨rfl, trivial⟩, trivial⟩ (of_decide_eq_true (by kernel_rfl))⟩

/-! laws.eqKeySS -/
def laws_eqKeySS_l1 (K : Nat) (a0 : (List (List Key))) (a1 : (List (List Key))) : Nat → Int → Option (Bool)
  | 0, _ => none
  | k + 1, x3 => ite2 ((decide (x3 < (a0.length : Int)))) (chk (0 ≤ x3 ∧ x3 < (a0.length : Int)) (chk (0 ≤ x3 ∧ x3 < (a1.length : Int)) ((laws_eqKeyS K (a0.getD x3.toNat default) (a1.getD x3.toNat default)).bind fun v7 => ite2 ((!v7)) (some false) (laws_eqKeySS_l1 K a0 a1 k (IntKind.i64.wrap (x3 + (1 : Int))))))) (some true)

def laws_eqKeySS (K : Nat) (a0 : (List (List Key))) (a1 : (List (List Key))) : Option (Bool) :=
  ite2 (((a0.length : Int) != (a1.length : Int))) (some false) (laws_eqKeySS_l1 K a0 a1 K (0 : Int))

theorem ok_laws_eqKeySS (K : Nat) (a0 : (List (List Key))) (a1 : (List (List Key))) (o : (Bool)) (h : laws_eqKeySS K a0 a1 = some o) : CallOK Try.prog 68 [.one (sl 1 (csL 5 cs_Key) a0), .one (sl 1 (csL 5 cs_Key) a1)] [.one (.bool o)] := by
  refine callOK_of_AW Try.func68 rfl (by kernel_rfl) (Nat.le_of_ble_eq_true (by kernel_rfl)) ?_
  intro w0
  unfold laws_eqKeySS at h
  refine AW.seq ?_
  refine AW.regionA [] [0, 1] [] (s' := ⟨[(0, (.v (.one (.c (sl 1 (csL 5 cs_Key) a0))))), (1, (.v (.one (.c (sl 1 (csL 5 cs_Key) a1)))))], []⟩) (ob := True ∧ True) (by kernel_rfl) ⟨trivial, trivial⟩ ?_
  refine thenQ_normal ?_
  refine AW.seq ?_
  refine AW.seq ?_
  refine AW.regionA [] [0, 1, 10] [] (s' := ⟨[(0, (.v (.one (.c (sl 1 (csL 5 cs_Key) a0))))), (1, (.v (.one (.c (sl 1 (csL 5 cs_Key) a1))))), (10, (.v (.one (.c (.bool ((a0.length : Int) != (a1.length : Int)))))))], []⟩) (ob := True ∧ True ∧ True ∧ True ∧ True ∧ True) (by kernel_rfl) ⟨trivial, trivial, trivial, trivial, trivial, trivial⟩ ?_
  refine thenQ_normal ?_
  rcases ite2_cases h with ⟨b1, h⟩ | ⟨b1, h⟩
  · refine AW.cond_t rfl b1 ?_
    refine AW.seq ?_
    refine AW.regionA [] [4] [] (s' := ⟨[(4, (.v (.one (.c (.bool false)))))], []⟩) (ob := True ∧ True) (by kernel_rfl) ⟨trivial, trivial⟩ ?_
    refine thenQ_normal ?_
    refine AW.ret ?_
    refine thenQ_ret ?_
    replace h := some_eq h
    subst h
    exact ⟨.inr rfl, retOK_of [(.one (.c (.bool false)))] (by kernel_rfl) ⟨⟨rfl, trivial⟩, trivial⟩ (of_decide_eq_true (by kernel_rfl))⟩
  · refine AW.cond_f rfl b1 ?_
    refine AW.skip ?_
    refine thenQ_normal ?_
    refine AW.seq ?_
    refine AW.seq ?_
    refine AW.regionA [] [0, 1, 5] [] (s' := ⟨[(0, (.v (.one (.c (sl 1 (csL 5 cs_Key) a0))))), (1, (.v (.one (.c (sl 1 (csL 5 cs_Key) a1))))), (5, (.v (.one (.c (.int .i64 (0 : Int))))))], []⟩) (ob := True ∧ True) (by kernel_rfl) ⟨trivial, trivial⟩ ?_
    refine thenQ_normal ?_
    refine AW.block ?_
    refine AW.loopQ (σ := Nat × Int) (fun p => ⟨[(0, (.v (.one (.c (sl 1 (csL 5 cs_Key) a0))))), (1, (.v (.one (.c (sl 1 (csL 5 cs_Key) a1))))), (5, (.v (.one (.c (.int .i64 p.2)))))], []⟩) (fun p => laws_eqKeySS_l1 K a0 a1 p.1 p.2 = some o) (fun p => p.1) (K, (0 : Int)) h ?_
    clear h
    rintro ⟨k, x3⟩ h
    replace h : laws_eqKeySS_l1 K a0 a1 k x3 = some o := h
    show AW _ _ (⟨[(0, (.v (.one (.c (sl 1 (csL 5 cs_Key) a0))))), (1, (.v (.one (.c (sl 1 (csL 5 cs_Key) a1))))), (5, (.v (.one (.c (.int .i64 x3)))))], []⟩ : St) _
    obtain _ | k := k
    · rw [laws_eqKeySS_l1] at h; cases h
    rw [laws_eqKeySS_l1] at h
    refine AW.seq ?_
    refine AW.seq ?_
    refine AW.regionA [] [0, 1, 5, 14] [] (s' := ⟨[(0, (.v (.one (.c (sl 1 (csL 5 cs_Key) a0))))), (1, (.v (.one (.c (sl 1 (csL 5 cs_Key) a1))))), (5, (.v (.one (.c (.int .i64 x3))))), (14, (.v (.one (.c (.bool (decide (x3 < (a0.length : Int))))))))], []⟩) (ob := True ∧ True ∧ True ∧ True ∧ True) (by kernel_rfl) ⟨trivial, trivial, trivial, trivial, trivial⟩ ?_
    refine thenQ_normal ?_
    rcases ite2_cases h with ⟨b4, h⟩ | ⟨b4, h⟩
    · refine AW.cond_t rfl b4 ?_
      refine AW.skip ?_
      refine thenQ_normal ?_
      refine AW.seq ?_
      refine AW.block ?_
      refine AW.seq ?_
      obtain ⟨c5, h⟩ := chk_some h
      obtain ⟨c6, h⟩ := chk_some h
      obtain ⟨v7, e8, h⟩ := bind_some h
      refine AW.drawnA (by kernel_rfl) 10 [.no, .no, .no, .no, .no, .no, .no, .no, .call [.one (sl 5 cs_Key (a0.getD x3.toNat default)), .one (sl 5 cs_Key (a1.getD x3.toNat default))] [.one (.bool v7)] [[.view]]] [0, 1, 5, 26] [] (s' := ⟨[(0, (.v (.one (.c (sl 1 (csL 5 cs_Key) a0))))), (1, (.v (.one (.c (sl 1 (csL 5 cs_Key) a1))))), (5, (.v (.one (.c (.int .i64 x3))))), (26, (.v (.one (.c (.bool (!v7))))))], []⟩) (ob := (True ∧ True ∧ (0 ≤ x3 ∧ x3 < (a0.length : Int)) ∧ True ∧ True ∧ True ∧ (0 ≤ x3 ∧ x3 < (a1.length : Int)) ∧ True ∧ (((((sl 5 cs_Key (a0.getD x3.toNat default)) : C) = (sl 5 cs_Key (a0.getD x3.toNat default))) ∧ (((sl 5 cs_Key (a1.getD x3.toNat default)) : C) = (sl 5 cs_Key (a1.getD x3.toNat default))) ∧ True) ∧ CallOK Try.prog 142 [.one (sl 5 cs_Key (a0.getD x3.toNat default)), .one (sl 5 cs_Key (a1.getD x3.toNat default))] [.one (.bool v7)]) ∧ True ∧ True) ∧ (True)) (by kernel_rfl) ⟨⟨trivial, trivial, c5, trivial, trivial, trivial, c6, trivial, ⟨⟨rfl, rfl, trivial⟩, ok_laws_eqKeyS K (a0.getD x3.toNat default) (a1.getD x3.toNat default) v7 e8⟩, trivial, trivial⟩, trivial⟩ ?_
      refine thenQ_normal ?_
      rcases ite2_cases h with ⟨b9, h⟩ | ⟨b9, h⟩
      · refine AW.cond_t rfl b9 ?_
        refine AW.seq ?_
        refine AW.regionA [] [4] [] (s' := ⟨[(4, (.v (.one (.c (.bool false)))))], []⟩) (ob := True ∧ True) (by kernel_rfl) ⟨trivial, trivial⟩ ?_
        refine thenQ_normal ?_
        refine AW.ret ?_
        refine blockQ_ret ?_
        refine thenQ_ret ?_
        refine loopQ_ret ?_
        refine blockQ_ret ?_
        refine thenQ_ret ?_
        replace h := some_eq h
        subst h
        exact ⟨.inr rfl, retOK_of [(.one (.c (.bool false)))] (by kernel_rfl) ⟨⟨rfl, trivial⟩, trivial⟩ (of_decide_eq_true (by kernel_rfl))⟩
      · refine AW.cond_f rfl b9 ?_
        refine AW.skip ?_
        refine blockQ_normal ?_
        refine thenQ_normal ?_
        refine AW.regionA [] [0, 1, 5] [] (s' := ⟨[(0, (.v (.one (.c (sl 1 (csL 5 cs_Key) a0))))), (1, (.v (.one (.c (sl 1 (csL 5 cs_Key) a1))))), (5, (.v (.one (.c (.int .i64 (IntKind.i64.wrap (x3 + (1 : Int))))))))], []⟩) (ob := True ∧ True ∧ True ∧ True) (by kernel_rfl) ⟨trivial, trivial, trivial, trivial⟩ ?_
        exact loopQ_normal (k, (IntKind.i64.wrap (x3 + (1 : Int)))) h (Nat.lt_succ_self k) (Sub.keep [0, 1, 5] [] (by kernel_rfl) (by kernel_rfl))
    · refine AW.cond_f rfl b4 ?_
      refine AW.exit ?_
      refine thenQ_exit ?_
      refine loopQ_exit ?_
      refine blockQ_exit ?_
      refine thenQ_normal ?_
      refine AW.seq ?_
      refine AW.regionA [] [4] [] (s' := ⟨[(4, (.v (.one (.c (.bool true)))))], []⟩) (ob := True ∧ True) (by kernel_rfl) ⟨trivial, trivial⟩ ?_
      refine thenQ_normal ?_
      refine AW.ret ?_
      replace h := some_eq h
      subst h
      exact ⟨.inr rfl, retOK_of [(.one (.c (.bool true)))] (by kernel_rfl) ⟨⟨rfl, trivial⟩, trivial⟩ (of_decide_eq_true (by kernel_rfl))⟩

/-! laws.eqVector -/
def laws_eqVector (K : Nat) (a0 : Vector) (a1 : Vector) : Option (Bool) :=
  (laws_sameFloat K (Fl.cv .f32 .f64 a0.X) (Fl.cv .f32 .f64 a1.X)).bind fun v1 => ite2 ((!v1)) (some false) ((laws_sameFloat K (Fl.cv .f32 .f64 a0.Y) (Fl.cv .f32 .f64 a1.Y)).bind fun v4 => ite2 ((!v4)) (some false) ((laws_sameFloat K (Fl.cv .f32 .f64 a0.Z) (Fl.cv .f32 .f64 a1.Z)).bind fun v7 => ite2 ((!v7)) (some false) (some true)))

theorem ok_laws_eqVector (K : Nat) (a0 : Vector) (a1 : Vector) (o : (Bool)) (h : laws_eqVector K a0 a1 = some o) : CallOK Try.prog 186 [.agg (cs_Vector a0), .agg (cs_Vector a1)] [.one (.bool o)] := by
  refine callOK_of_AW Try.func186 rfl (by kernel_rfl) (Nat.le_of_ble_eq_true (by kernel_rfl)) ?_
  intro w0
  unfold laws_eqVector at h
  refine AW.seq ?_
  refine AW.regionA [.box 1, .box 2] [2, 3] [1, 2] (s' := ⟨[(2, (.v (.one (.ptr 1 0)))), (3, (.v (.one (.ptr 2 0))))], [(1, (.box [(.c (.flt .f32 a0.X.bits)), (.c (.flt .f32 a0.Y.bits)), (.c (.flt .f32 a0.Z.bits))])), (2, (.box [(.c (.flt .f32 a1.X.bits)), (.c (.flt .f32 a1.Y.bits)), (.c (.flt .f32 a1.Z.bits))]))]⟩) (ob := True ∧ True ∧ True ∧ True) (by kernel_rfl) ⟨trivial, trivial, trivial, trivial⟩ ?_
  refine thenQ_normal ?_
  refine AW.seq ?_
  refine AW.seq ?_
  obtain ⟨v1, e2, h⟩ := bind_some h
  refine AW.regionA [.no, .no, .no, .no, .no, .no, .call [.one (.flt .f64 (Fl.cv .f32 .f64 a0.X).bits), .one (.flt .f64 (Fl.cv .f32 .f64 a1.X).bits)] [.one (.bool v1)] [[.view]]] [2, 3, 12] [1, 2] (s' := ⟨[(2, (.v (.one (.ptr 1 0)))), (3, (.v (.one (.ptr 2 0)))), (12, (.v (.one (.c (.bool (!v1))))))], [(1, (.box [(.c (.flt .f32 a0.X.bits)), (.c (.flt .f32 a0.Y.bits)), (.c (.flt .f32 a0.Z.bits))])), (2, (.box [(.c (.flt .f32 a1.X.bits)), (.c (.flt .f32 a1.Y.bits)), (.c (.flt .f32 a1.Z.bits))]))]⟩) (ob := True ∧ True ∧ ((convBits .f32 a0.X.bits .f64).isSome = true) ∧ True ∧ True ∧ ((convBits .f32 a1.X.bits .f64).isSome = true) ∧ (((((.flt .f64 (Fl.cv .f32 .f64 a0.X).bits) : C) = (.flt .f64 (Fl.cv .f32 .f64 a0.X).bits)) ∧ (((.flt .f64 (Fl.cv .f32 .f64 a1.X).bits) : C) = (.flt .f64 (Fl.cv .f32 .f64 a1.X).bits)) ∧ True) ∧ CallOK Try.prog 211 [.one (.flt .f64 (Fl.cv .f32 .f64 a0.X).bits), .one (.flt .f64 (Fl.cv .f32 .f64 a1.X).bits)] [.one (.bool v1)]) ∧ True ∧ True) (by kernel_rfl) ⟨trivial, trivial, cv_wide a0.X, trivial, trivial, cv_wide a1.X, ⟨⟨rfl, rfl, trivial⟩, ok_laws_sameFloat K (Fl.cv .f32 .f64 a0.X) (Fl.cv .f32 .f64 a1.X) v1 e2⟩, trivial, trivial⟩ ?_
  refine thenQ_normal ?_
  rcases ite2_cases h with ⟨b3, h⟩ | ⟨b3, h⟩
  · refine AW.cond_t rfl b3 ?_
    refine AW.seq ?_
    refine AW.regionA [] [4] [] (s' := ⟨[(4, (.v (.one (.c (.bool false)))))], []⟩) (ob := True ∧ True) (by kernel_rfl) ⟨trivial, trivial⟩ ?_
    refine thenQ_normal ?_
    refine AW.ret ?_
    refine thenQ_ret ?_
    replace h := some_eq h
    subst h
    exact ⟨.inr rfl, retOK_of [(.one (.c (.bool false)))] (by kernel_rfl) ⟨⟨rfl, trivial⟩, trivial⟩ (of_decide_eq_true (by kernel_rfl))⟩
  · refine AW.cond_f rfl b3 ?_
    refine AW.skip ?_
    refine thenQ_normal ?_
    refine AW.seq ?_
    refine AW.seq ?_
    obtain ⟨v4, e5, h⟩ := bind_some h
    refine AW.regionA [.no, .no, .no, .no, .no, .no, .call [.one (.flt .f64 (Fl.cv .f32 .f64 a0.Y).bits), .one (.flt .f64 (Fl.cv .f32 .f64 a1.Y).bits)] [.one (.bool v4)] [[.view]]] [2, 3, 20] [1, 2] (s' := ⟨[(2, (.v (.one (.ptr 1 0)))), (3, (.v (.one (.ptr 2 0)))), (20, (.v (.one (.c (.bool (!v4))))))], [(1, (.box [(.c (.flt .f32 a0.X.bits)), (.c (.flt .f32 a0.Y.bits)), (.c (.flt .f32 a0.Z.bits))])), (2, (.box [(.c (.flt .f32 a1.X.bits)), (.c (.flt .f32 a1.Y.bits)), (.c (.flt .f32 a1.Z.bits))]))]⟩) (ob := True ∧ True ∧ ((convBits .f32 a0.Y.bits .f64).isSome = true) ∧ True ∧ True ∧ ((convBits .f32 a1.Y.bits .f64).isSome = true) ∧ (((((.flt .f64 (Fl.cv .f32 .f64 a0.Y).bits) : C) = (.flt .f64 (Fl.cv .f32 .f64 a0.Y).bits)) ∧ (((.flt .f64 (Fl.cv .f32 .f64 a1.Y).bits) : C) = (.flt .f64 (Fl.cv .f32 .f64 a1.Y).bits)) ∧ True) ∧ CallOK Try.prog 211 [.one (.flt .f64 (Fl.cv .f32 .f64 a0.Y).bits), .one (.flt .f64 (Fl.cv .f32 .f64 a1.Y).bits)] [.one (.bool v4)]) ∧ True ∧ True) (by kernel_rfl) ⟨trivial, trivial, cv_wide a0.Y, trivial, trivial, cv_wide a1.Y, ⟨⟨rfl, rfl, trivial⟩, ok_laws_sameFloat K (Fl.cv .f32 .f64 a0.Y) (Fl.cv .f32 .f64 a1.Y) v4 e5⟩, trivial, trivial⟩ ?_
    refine thenQ_normal ?_
    rcases ite2_cases h with ⟨b6, h⟩ | ⟨b6, h⟩
    · refine AW.cond_t rfl b6 ?_
      refine AW.seq ?_
      refine AW.regionA [] [4] [] (s' := ⟨[(4, (.v (.one (.c (.bool false)))))], []⟩) (ob := True ∧ True) (by kernel_rfl) ⟨trivial, trivial⟩ ?_
      refine thenQ_normal ?_
      refine AW.ret ?_
      refine thenQ_ret ?_
      replace h := some_eq h
      subst h
      exact ⟨.inr rfl, retOK_of [(.one (.c (.bool false)))] (by kernel_rfl) ⟨⟨rfl, trivial⟩, trivial⟩ (of_decide_eq_true (by kernel_rfl))⟩
    · refine AW.cond_f rfl b6 ?_
      refine AW.skip ?_
      refine thenQ_normal ?_
      refine AW.seq ?_
      refine AW.seq ?_
      obtain ⟨v7, e8, h⟩ := bind_some h
      refine AW.regionA [.no, .no, .no, .no, .no, .no, .call [.one (.flt .f64 (Fl.cv .f32 .f64 a0.Z).bits), .one (.flt .f64 (Fl.cv .f32 .f64 a1.Z).bits)] [.one (.bool v7)] [[.view]]] [28] [] (s' := ⟨[(28, (.v (.one (.c (.bool (!v7))))))], []⟩) (ob := True ∧ True ∧ ((convBits .f32 a0.Z.bits .f64).isSome = true) ∧ True ∧ True ∧ ((convBits .f32 a1.Z.bits .f64).isSome = true) ∧ (((((.flt .f64 (Fl.cv .f32 .f64 a0.Z).bits) : C) = (.flt .f64 (Fl.cv .f32 .f64 a0.Z).bits)) ∧ (((.flt .f64 (Fl.cv .f32 .f64 a1.Z).bits) : C) = (.flt .f64 (Fl.cv .f32 .f64 a1.Z).bits)) ∧ True) ∧ CallOK Try.prog 211 [.one (.flt .f64 (Fl.cv .f32 .f64 a0.Z).bits), .one (.flt .f64 (Fl.cv .f32 .f64 a1.Z).bits)] [.one (.bool v7)]) ∧ True ∧ True) (by kernel_rfl) ⟨trivial, trivial, cv_wide a0.Z, trivial, trivial, cv_wide a1.Z, ⟨⟨rfl, rfl, trivial⟩, ok_laws_sameFloat K (Fl.cv .f32 .f64 a0.Z) (Fl.cv .f32 .f64 a1.Z) v7 e8⟩, trivial, trivial⟩ ?_
      refine thenQ_normal ?_
      rcases ite2_cases h with ⟨b9, h⟩ | ⟨b9, h⟩
      · refine AW.cond_t rfl b9 ?_
        refine AW.seq ?_
        refine AW.regionA [] [4] [] (s' := ⟨[(4, (.v (.one (.c (.bool false)))))], []⟩) (ob := True ∧ True) (by kernel_rfl) ⟨trivial, trivial⟩ ?_
        refine thenQ_normal ?_
        refine AW.ret ?_
        refine thenQ_ret ?_
        replace h := some_eq h
        subst h
        exact ⟨.inr rfl, retOK_of [(.one (.c (.bool false)))] (by kernel_rfl) ⟨⟨rfl, trivial⟩, trivial⟩ (of_decide_eq_true (by kernel_rfl))⟩
      · refine AW.cond_f rfl b9 ?_
        refine AW.skip ?_
        refine thenQ_normal ?_
        refine AW.seq ?_
        refine AW.regionA [] [4] [] (s' := ⟨[(4, (.v (.one (.c (.bool true)))))], []⟩) (ob := True ∧ True) (by kernel_rfl) ⟨trivial, trivial⟩ ?_
        refine thenQ_normal ?_
        refine AW.ret ?_
        replace h := some_eq h
        subst h
        exact ⟨.inr rfl, retOK_of [(.one (.c (.bool true)))] (by kernel_rfl) ⟨⟨rfl, trivial⟩, trivial⟩ (of_decide_eq_true (by kernel_rfl))⟩

/-! laws.eqRootKey -/
def laws_eqRootKey (K : Nat) (a0 : RootKey) (a1 : RootKey) : Option (Bool) :=
  ite2 ((a0.At != a1.At)) (some false) ((laws_eqVector K a0.Place a1.Place).bind fun v2 => ite2 ((!v2)) (some false) (some true))

theorem ok_laws_eqRootKey (K : Nat) (a0 : RootKey) (a1 : RootKey) (o : (Bool)) (h : laws_eqRootKey K a0 a1 = some o) : CallOK Try.prog 143 [.agg (cs_RootKey a0), .agg (cs_RootKey a1)] [.one (.bool o)] := by
  refine callOK_of_AW Try.func143 rfl (by kernel_rfl) (Nat.le_of_ble_eq_true (by kernel_rfl)) ?_
  intro w0
  unfold laws_eqRootKey at h
  refine AW.seq ?_
  refine AW.regionA [.box 1, .box 2] [2, 3] [1, 2] (s' := ⟨[(2, (.v (.one (.ptr 1 0)))), (3, (.v (.one (.ptr 2 0))))], [(1, (.box [(.c (.int .i64 a0.At)), (.c (.flt .f32 a0.Place.X.bits)), (.c (.flt .f32 a0.Place.Y.bits)), (.c (.flt .f32 a0.Place.Z.bits))])), (2, (.box [(.c (.int .i64 a1.At)), (.c (.flt .f32 a1.Place.X.bits)), (.c (.flt .f32 a1.Place.Y.bits)), (.c (.flt .f32 a1.Place.Z.bits))]))]⟩) (ob := True ∧ True ∧ True ∧ True) (by kernel_rfl) ⟨trivial, trivial, trivial, trivial⟩ ?_
  refine thenQ_normal ?_
  refine AW.seq ?_
  refine AW.seq ?_
  refine AW.regionA [] [2, 3, 9] [1, 2] (s' := ⟨[(2, (.v (.one (.ptr 1 0)))), (3, (.v (.one (.ptr 2 0)))), (9, (.v (.one (.c (.bool (a0.At != a1.At))))))], [(1, (.box [(.c (.int .i64 a0.At)), (.c (.flt .f32 a0.Place.X.bits)), (.c (.flt .f32 a0.Place.Y.bits)), (.c (.flt .f32 a0.Place.Z.bits))])), (2, (.box [(.c (.int .i64 a1.At)), (.c (.flt .f32 a1.Place.X.bits)), (.c (.flt .f32 a1.Place.Y.bits)), (.c (.flt .f32 a1.Place.Z.bits))]))]⟩) (ob := True ∧ True ∧ True ∧ True ∧ True ∧ True) (by kernel_rfl) ⟨trivial, trivial, trivial, trivial, trivial, trivial⟩ ?_
  refine thenQ_normal ?_
  rcases ite2_cases h with ⟨b1, h⟩ | ⟨b1, h⟩
  · refine AW.cond_t rfl b1 ?_
    refine AW.seq ?_
    refine AW.regionA [] [4] [] (s' := ⟨[(4, (.v (.one (.c (.bool false)))))], []⟩) (ob := True ∧ True) (by kernel_rfl) ⟨trivial, trivial⟩ ?_
    refine thenQ_normal ?_
    refine AW.ret ?_
    refine thenQ_ret ?_
    replace h := some_eq h
    subst h
    exact ⟨.inr rfl, retOK_of [(.one (.c (.bool false)))] (by kernel_rfl) ⟨⟨rfl, trivial⟩, trivial⟩ (of_decide_eq_true (by kernel_rfl))⟩
  · refine AW.cond_f rfl b1 ?_
    refine AW.skip ?_
    refine thenQ_normal ?_
    refine AW.seq ?_
    refine AW.seq ?_
    obtain ⟨v2, e3, h⟩ := bind_some h
    refine AW.regionA [.no, .no, .no, .no, .call [.agg (cs_Vector a0.Place), .agg (cs_Vector a1.Place)] [.one (.bool v2)] [[.view]]] [15] [] (s' := ⟨[(15, (.v (.one (.c (.bool (!v2))))))], []⟩) (ob := True ∧ True ∧ True ∧ True ∧ ((((((.flt .f32 a0.Place.X.bits) : C) = (.flt .f32 a0.Place.X.bits)) ∧ (((.flt .f32 a0.Place.Y.bits) : C) = (.flt .f32 a0.Place.Y.bits)) ∧ (((.flt .f32 a0.Place.Z.bits) : C) = (.flt .f32 a0.Place.Z.bits)) ∧ True) ∧ ((((.flt .f32 a1.Place.X.bits) : C) = (.flt .f32 a1.Place.X.bits)) ∧ (((.flt .f32 a1.Place.Y.bits) : C) = (.flt .f32 a1.Place.Y.bits)) ∧ (((.flt .f32 a1.Place.Z.bits) : C) = (.flt .f32 a1.Place.Z.bits)) ∧ True) ∧ True) ∧ CallOK Try.prog 186 [.agg (cs_Vector a0.Place), .agg (cs_Vector a1.Place)] [.one (.bool v2)]) ∧ True ∧ True) (by kernel_rfl) ⟨trivial, trivial, trivial, trivial, ⟨⟨⟨rfl, rfl, rfl, trivial⟩, ⟨rfl, rfl, rfl, trivial⟩, trivial⟩, ok_laws_eqVector K a0.Place a1.Place v2 e3⟩, trivial, trivial⟩ ?_
    refine thenQ_normal ?_
    rcases ite2_cases h with ⟨b4, h⟩ | ⟨b4, h⟩
    · refine AW.cond_t rfl b4 ?_
      refine AW.seq ?_
      refine AW.regionA [] [4] [] (s' := ⟨[(4, (.v (.one (.c (.bool false)))))], []⟩) (ob := True ∧ True) (by kernel_rfl) ⟨trivial, trivial⟩ ?_
      refine thenQ_normal ?_
      refine AW.ret ?_
      refine thenQ_ret ?_
      replace h := some_eq h
      subst h
      exact ⟨.inr rfl, retOK_of [(.one (.c (.bool false)))] (by kernel_rfl) ⟨⟨rfl, trivial⟩, trivial⟩ (of_decide_eq_true (by kernel_rfl))⟩
    · refine AW.cond_f rfl b4 ?_
      refine AW.skip ?_
      refine thenQ_normal ?_
      refine AW.seq ?_
      refine AW.regionA [] [4] [] (s' := ⟨[(4, (.v (.one (.c (.bool true)))))], []⟩) (ob := True ∧ True) (by kernel_rfl) ⟨trivial, trivial⟩ ?_
      refine thenQ_normal ?_
      refine AW.ret ?_
      replace h := some_eq h
      subst h
      exact ⟨.inr rfl, retOK_of [(.one (.c (.bool true)))] (by kernel_rfl) ⟨⟨rfl, trivial⟩, trivial⟩ (of_decide_eq_true (by kernel_rfl))⟩

/-! laws.eqRootKeyS -/
def laws_eqRootKeyS_l1 (K : Nat) (a0 : (List RootKey)) (a1 : (List RootKey)) : Nat → Int → Option (Bool)
  | 0, _ => none
  | k + 1, x3 => ite2 ((decide (x3 < (a0.length : Int)))) (chk (0 ≤ x3 ∧ x3 < (a0.length : Int)) (chk (0 ≤ x3 ∧ x3 < (a1.length : Int)) ((laws_eqRootKey K (a0.getD x3.toNat default) (a1.getD x3.toNat default)).bind fun v7 => ite2 ((!v7)) (some false) (laws_eqRootKeyS_l1 K a0 a1 k (IntKind.i64.wrap (x3 + (1 : Int))))))) (some true)

def laws_eqRootKeyS (K : Nat) (a0 : (List RootKey)) (a1 : (List RootKey)) : Option (Bool) :=
  ite2 (((a0.length : Int) != (a1.length : Int))) (some false) (laws_eqRootKeyS_l1 K a0 a1 K (0 : Int))

theorem ok_laws_eqRootKeyS (K : Nat) (a0 : (List RootKey)) (a1 : (List RootKey)) (o : (Bool)) (h : laws_eqRootKeyS K a0 a1 = some o) : CallOK Try.prog 69 [.one (sl 4 cs_RootKey a0), .one (sl 4 cs_RootKey a1)] [.one (.bool o)] := by
  refine callOK_of_AW Try.func69 rfl (by kernel_rfl) (Nat.le_of_ble_eq_true (by kernel_rfl)) ?_
  intro w0
  unfold laws_eqRootKeyS at h
  refine AW.seq ?_
  refine AW.regionA [] [0, 1] [] (s' := ⟨[(0, (.v (.one (.c (sl 4 cs_RootKey a0))))), (1, (.v (.one (.c (sl 4 cs_RootKey a1)))))], []⟩) (ob := True ∧ True) (by kernel_rfl) ⟨trivial, trivial⟩ ?_
  refine thenQ_normal ?_
  refine AW.seq ?_
  refine AW.seq ?_
  refine AW.regionA [] [0, 1, 10] [] (s' := ⟨[(0, (.v (.one (.c (sl 4 cs_RootKey a0))))), (1, (.v (.one (.c (sl 4 cs_RootKey a1))))), (10, (.v (.one (.c (.bool ((a0.length : Int) != (a1.length : Int)))))))], []⟩) (ob := True ∧ True ∧ True ∧ True ∧ True ∧ True) (by kernel_rfl) ⟨trivial, trivial, trivial, trivial, trivial, trivial⟩ ?_
  refine thenQ_normal ?_
  rcases ite2_cases h with ⟨b1, h⟩ | ⟨b1, h⟩
  · refine AW.cond_t rfl b1 ?_
    refine AW.seq ?_
    refine AW.regionA [] [4] [] (s' := ⟨[(4, (.v (.one (.c (.bool false)))))], []⟩) (ob := True ∧ True) (by kernel_rfl) ⟨trivial, trivial⟩ ?_
    refine thenQ_normal ?_
    refine AW.ret ?_
    refine thenQ_ret ?_
    replace h := some_eq h
    subst h
    exact ⟨.inr rfl, retOK_of [(.one (.c (.bool false)))] (by kernel_rfl) ⟨⟨rfl, trivial⟩, trivial⟩ (of_decide_eq_true (by kernel_rfl))⟩
  · refine AW.cond_f rfl b1 ?_
    refine AW.skip ?_
    refine thenQ_normal ?_
    refine AW.seq ?_
    refine AW.seq ?_
    refine AW.regionA [] [0, 1, 5] [] (s' := ⟨[(0, (.v (.one (.c (sl 4 cs_RootKey a0))))), (1, (.v (.one (.c (sl 4 cs_RootKey a1))))), (5, (.v (.one (.c (.int .i64 (0 : Int))))))], []⟩) (ob := True ∧ True) (by kernel_rfl) ⟨trivial, trivial⟩ ?_
    refine thenQ_normal ?_
    refine AW.block ?_
    refine AW.loopQ (σ := Nat × Int) (fun p => ⟨[(0, (.v (.one (.c (sl 4 cs_RootKey a0))))), (1, (.v (.one (.c (sl 4 cs_RootKey a1))))), (5, (.v (.one (.c (.int .i64 p.2)))))], []⟩) (fun p => laws_eqRootKeyS_l1 K a0 a1 p.1 p.2 = some o) (fun p => p.1) (K, (0 : Int)) h ?_
    clear h
    rintro ⟨k, x3⟩ h
    replace h : laws_eqRootKeyS_l1 K a0 a1 k x3 = some o := h
    show AW _ _ (⟨[(0, (.v (.one (.c (sl 4 cs_RootKey a0))))), (1, (.v (.one (.c (sl 4 cs_RootKey a1))))), (5, (.v (.one (.c (.int .i64 x3)))))], []⟩ : St) _
    obtain _ | k := k
    · rw [laws_eqRootKeyS_l1] at h; cases h
    rw [laws_eqRootKeyS_l1] at h
    refine AW.seq ?_
    refine AW.seq ?_
    refine AW.regionA [] [0, 1, 5, 14] [] (s' := ⟨[(0, (.v (.one (.c (sl 4 cs_RootKey a0))))), (1, (.v (.one (.c (sl 4 cs_RootKey a1))))), (5, (.v (.one (.c (.int .i64 x3))))), (14, (.v (.one (.c (.bool (decide (x3 < (a0.length : Int))))))))], []⟩) (ob := True ∧ True ∧ True ∧ True ∧ True) (by kernel_rfl) ⟨trivial, trivial, trivial, trivial, trivial⟩ ?_
    refine thenQ_normal ?_
    rcases ite2_cases h with ⟨b4, h⟩ | ⟨b4, h⟩
    · refine AW.cond_t rfl b4 ?_
      refine AW.skip ?_
      refine thenQ_normal ?_
      refine AW.seq ?_
      refine AW.block ?_
      refine AW.seq ?_
      obtain ⟨c5, h⟩ := chk_some h
      obtain ⟨c6, h⟩ := chk_some h
      obtain ⟨v7, e8, h⟩ := bind_some h
      refine AW.drawnA (by kernel_rfl) 10 [.no, .no, .no, .no, .no, .no, .no, .no, .call [.agg (cs_RootKey (a0.getD x3.toNat default)), .agg (cs_RootKey (a1.getD x3.toNat default))] [.one (.bool v7)] [[.view]]] [0, 1, 5, 26] [] (s' := ⟨[(0, (.v (.one (.c (sl 4 cs_RootKey a0))))), (1, (.v (.one (.c (sl 4 cs_RootKey a1))))), (5, (.v (.one (.c (.int .i64 x3))))), (26, (.v (.one (.c (.bool (!v7))))))], []⟩) (ob := (True ∧ True ∧ (0 ≤ x3 ∧ x3 < (a0.length : Int)) ∧ True ∧ True ∧ True ∧ (0 ≤ x3 ∧ x3 < (a1.length : Int)) ∧ True ∧ ((((((.int .i64 ((a0.getD x3.toNat default).At)) : C) = (.int .i64 ((a0.getD x3.toNat default).At))) ∧ (((.flt .f32 (((a0.getD x3.toNat default).Place).X).bits) : C) = (.flt .f32 (((a0.getD x3.toNat default).Place).X).bits)) ∧ (((.flt .f32 (((a0.getD x3.toNat default).Place).Y).bits) : C) = (.flt .f32 (((a0.getD x3.toNat default).Place).Y).bits)) ∧ (((.flt .f32 (((a0.getD x3.toNat default).Place).Z).bits) : C) = (.flt .f32 (((a0.getD x3.toNat default).Place).Z).bits)) ∧ True) ∧ ((((.int .i64 ((a1.getD x3.toNat default).At)) : C) = (.int .i64 ((a1.getD x3.toNat default).At))) ∧ (((.flt .f32 (((a1.getD x3.toNat default).Place).X).bits) : C) = (.flt .f32 (((a1.getD x3.toNat default).Place).X).bits)) ∧ (((.flt .f32 (((a1.getD x3.toNat default).Place).Y).bits) : C) = (.flt .f32 (((a1.getD x3.toNat default).Place).Y).bits)) ∧ (((.flt .f32 (((a1.getD x3.toNat default).Place).Z).bits) : C) = (.flt .f32 (((a1.getD x3.toNat default).Place).Z).bits)) ∧ True) ∧ True) ∧ CallOK Try.prog 143 [.agg (cs_RootKey (a0.getD x3.toNat default)), .agg (cs_RootKey (a1.getD x3.toNat default))] [.one (.bool v7)]) ∧ True ∧ True) ∧ (True)) (by kernel_rfl) ⟨⟨trivial, trivial, c5, trivial, trivial, trivial, c6, trivial, ⟨⟨⟨rfl, rfl, rfl, rfl, trivial⟩, ⟨rfl, rfl, rfl, rfl, trivial⟩, trivial⟩, ok_laws_eqRootKey K (a0.getD x3.toNat default) (a1.getD x3.toNat default) v7 e8⟩, trivial, trivial⟩, trivial⟩ ?_
      refine thenQ_normal ?_
      rcases ite2_cases h with ⟨b9, h⟩ | ⟨b9, h⟩
      · refine AW.cond_t rfl b9 ?_
        refine AW.seq ?_
        refine AW.regionA [] [4] [] (s' := ⟨[(4, (.v (.one (.c (.bool false)))))], []⟩) (ob := True ∧ True) (by kernel_rfl) ⟨trivial, trivial⟩ ?_
        refine thenQ_normal ?_
        refine AW.ret ?_
        refine blockQ_ret ?_
        refine thenQ_ret ?_
        refine loopQ_ret ?_
        refine blockQ_ret ?_
        refine thenQ_ret ?_
        replace h := some_eq h
        subst h
        exact ⟨.inr rfl, retOK_of [(.one (.c (.bool false)))] (by kernel_rfl) ⟨⟨rfl, trivial⟩, trivial⟩ (of_decide_eq_true (by kernel_rfl))⟩
      · refine AW.cond_f rfl b9 ?_
        refine AW.skip ?_
        refine blockQ_normal ?_
        refine thenQ_normal ?_
        refine AW.regionA [] [0, 1, 5] [] (s' := ⟨[(0, (.v (.one (.c (sl 4 cs_RootKey a0))))), (1, (.v (.one (.c (sl 4 cs_RootKey a1))))), (5, (.v (.one (.c (.int .i64 (IntKind.i64.wrap (x3 + (1 : Int))))))))], []⟩) (ob := True ∧ True ∧ True ∧ True) (by kernel_rfl) ⟨trivial, trivial, trivial, trivial⟩ ?_
        exact loopQ_normal (k, (IntKind.i64.wrap (x3 + (1 : Int)))) h (Nat.lt_succ_self k) (Sub.keep [0, 1, 5] [] (by kernel_rfl) (by kernel_rfl))
    · refine AW.cond_f rfl b4 ?_
      refine AW.exit ?_
      refine thenQ_exit ?_
      refine loopQ_exit ?_
      refine blockQ_exit ?_
      refine thenQ_normal ?_
      refine AW.seq ?_
      refine AW.regionA [] [4] [] (s' := ⟨[(4, (.v (.one (.c (.bool true)))))], []⟩) (ob := True ∧ True) (by kernel_rfl) ⟨trivial, trivial⟩ ?_
      refine thenQ_normal ?_
      refine AW.ret ?_
      replace h := some_eq h
      subst h
      exact ⟨.inr rfl, retOK_of [(.one (.c (.bool true)))] (by kernel_rfl) ⟨⟨rfl, trivial⟩, trivial⟩ (of_decide_eq_true (by kernel_rfl))⟩

/-! laws.eqClip -/
def laws_eqClip (K : Nat) (a0 : Clip) (a1 : Clip) : Option (Bool) :=
  ite2 ((a0.Length != a1.Length)) (some false) (ite2 ((a0.Kind != a1.Kind)) (some false) ((laws_eqKeySS K a0.Tracks a1.Tracks).bind fun v3 => ite2 ((!v3)) (some false) ((laws_eqRootKeyS K a0.Roots a1.Roots).bind fun v6 => ite2 ((!v6)) (some false) (some true))))

theorem ok_laws_eqClip (K : Nat) (a0 : Clip) (a1 : Clip) (o : (Bool)) (h : laws_eqClip K a0 a1 = some o) : CallOK Try.prog 15 [.agg (cs_Clip a0), .agg (cs_Clip a1)] [.one (.bool o)] := by
  refine callOK_of_AW Try.func15 rfl (by kernel_rfl) (Nat.le_of_ble_eq_true (by kernel_rfl)) ?_
  intro w0
  unfold laws_eqClip at h
  refine AW.seq ?_
  refine AW.regionA [.box 1, .box 2] [2, 3] [1, 2] (s' := ⟨[(2, (.v (.one (.ptr 1 0)))), (3, (.v (.one (.ptr 2 0))))], [(1, (.box [(.c (.int .i64 a0.Length)), (.c (.int .i64 a0.Kind)), (.c (sl 1 (csL 5 cs_Key) a0.Tracks)), (.c (sl 4 cs_RootKey a0.Roots))])), (2, (.box [(.c (.int .i64 a1.Length)), (.c (.int .i64 a1.Kind)), (.c (sl 1 (csL 5 cs_Key) a1.Tracks)), (.c (sl 4 cs_RootKey a1.Roots))]))]⟩) (ob := True ∧ True ∧ True ∧ True) (by kernel_rfl) ⟨trivial, trivial, trivial, trivial⟩ ?_
  refine thenQ_normal ?_
  refine AW.seq ?_
  refine AW.seq ?_
  refine AW.regionA [] [2, 3, 9] [1, 2] (s' := ⟨[(2, (.v (.one (.ptr 1 0)))), (3, (.v (.one (.ptr 2 0)))), (9, (.v (.one (.c (.bool (a0.Length != a1.Length))))))], [(1, (.box [(.c (.int .i64 a0.Length)), (.c (.int .i64 a0.Kind)), (.c (sl 1 (csL 5 cs_Key) a0.Tracks)), (.c (sl 4 cs_RootKey a0.Roots))])), (2, (.box [(.c (.int .i64 a1.Length)), (.c (.int .i64 a1.Kind)), (.c (sl 1 (csL 5 cs_Key) a1.Tracks)), (.c (sl 4 cs_RootKey a1.Roots))]))]⟩) (ob := True ∧ True ∧ True ∧ True ∧ True ∧ True) (by kernel_rfl) ⟨trivial, trivial, trivial, trivial, trivial, trivial⟩ ?_
  refine thenQ_normal ?_
  rcases ite2_cases h with ⟨b1, h⟩ | ⟨b1, h⟩
  · refine AW.cond_t rfl b1 ?_
    refine AW.seq ?_
    refine AW.regionA [] [4] [] (s' := ⟨[(4, (.v (.one (.c (.bool false)))))], []⟩) (ob := True ∧ True) (by kernel_rfl) ⟨trivial, trivial⟩ ?_
    refine thenQ_normal ?_
    refine AW.ret ?_
    refine thenQ_ret ?_
    replace h := some_eq h
    subst h
    exact ⟨.inr rfl, retOK_of [(.one (.c (.bool false)))] (by kernel_rfl) ⟨⟨rfl, trivial⟩, trivial⟩ (of_decide_eq_true (by kernel_rfl))⟩
  · refine AW.cond_f rfl b1 ?_
    refine AW.skip ?_
    refine thenQ_normal ?_
    refine AW.seq ?_
    refine AW.seq ?_
    refine AW.regionA [] [2, 3, 14] [1, 2] (s' := ⟨[(2, (.v (.one (.ptr 1 0)))), (3, (.v (.one (.ptr 2 0)))), (14, (.v (.one (.c (.bool (a0.Kind != a1.Kind))))))], [(1, (.box [(.c (.int .i64 a0.Length)), (.c (.int .i64 a0.Kind)), (.c (sl 1 (csL 5 cs_Key) a0.Tracks)), (.c (sl 4 cs_RootKey a0.Roots))])), (2, (.box [(.c (.int .i64 a1.Length)), (.c (.int .i64 a1.Kind)), (.c (sl 1 (csL 5 cs_Key) a1.Tracks)), (.c (sl 4 cs_RootKey a1.Roots))]))]⟩) (ob := True ∧ True ∧ True ∧ True ∧ True ∧ True) (by kernel_rfl) ⟨trivial, trivial, trivial, trivial, trivial, trivial⟩ ?_
    refine thenQ_normal ?_
    rcases ite2_cases h with ⟨b2, h⟩ | ⟨b2, h⟩
    · refine AW.cond_t rfl b2 ?_
      refine AW.seq ?_
      refine AW.regionA [] [4] [] (s' := ⟨[(4, (.v (.one (.c (.bool false)))))], []⟩) (ob := True ∧ True) (by kernel_rfl) ⟨trivial, trivial⟩ ?_
      refine thenQ_normal ?_
      refine AW.ret ?_
      refine thenQ_ret ?_
      replace h := some_eq h
      subst h
      exact ⟨.inr rfl, retOK_of [(.one (.c (.bool false)))] (by kernel_rfl) ⟨⟨rfl, trivial⟩, trivial⟩ (of_decide_eq_true (by kernel_rfl))⟩
    · refine AW.cond_f rfl b2 ?_
      refine AW.skip ?_
      refine thenQ_normal ?_
      refine AW.seq ?_
      refine AW.seq ?_
      obtain ⟨v3, e4, h⟩ := bind_some h
      refine AW.regionA [.no, .no, .no, .no, .call [.one (sl 1 (csL 5 cs_Key) a0.Tracks), .one (sl 1 (csL 5 cs_Key) a1.Tracks)] [.one (.bool v3)] [[.view]]] [2, 3, 20] [1, 2] (s' := ⟨[(2, (.v (.one (.ptr 1 0)))), (3, (.v (.one (.ptr 2 0)))), (20, (.v (.one (.c (.bool (!v3))))))], [(1, (.box [(.c (.int .i64 a0.Length)), (.c (.int .i64 a0.Kind)), (.c (sl 1 (csL 5 cs_Key) a0.Tracks)), (.c (sl 4 cs_RootKey a0.Roots))])), (2, (.box [(.c (.int .i64 a1.Length)), (.c (.int .i64 a1.Kind)), (.c (sl 1 (csL 5 cs_Key) a1.Tracks)), (.c (sl 4 cs_RootKey a1.Roots))]))]⟩) (ob := True ∧ True ∧ True ∧ True ∧ (((((sl 1 (csL 5 cs_Key) a0.Tracks) : C) = (sl 1 (csL 5 cs_Key) a0.Tracks)) ∧ (((sl 1 (csL 5 cs_Key) a1.Tracks) : C) = (sl 1 (csL 5 cs_Key) a1.Tracks)) ∧ True) ∧ CallOK Try.prog 68 [.one (sl 1 (csL 5 cs_Key) a0.Tracks), .one (sl 1 (csL 5 cs_Key) a1.Tracks)] [.one (.bool v3)]) ∧ True ∧ True) (by kernel_rfl) ⟨trivial, trivial, trivial, trivial, ⟨⟨rfl, rfl, trivial⟩, ok_laws_eqKeySS K a0.Tracks a1.Tracks v3 e4⟩, trivial, trivial⟩ ?_
      refine thenQ_normal ?_
      rcases ite2_cases h with ⟨b5, h⟩ | ⟨b5, h⟩
      · refine AW.cond_t rfl b5 ?_
        refine AW.seq ?_
        refine AW.regionA [] [4] [] (s' := ⟨[(4, (.v (.one (.c (.bool false)))))], []⟩) (ob := True ∧ True) (by kernel_rfl) ⟨trivial, trivial⟩ ?_
        refine thenQ_normal ?_
        refine AW.ret ?_
        refine thenQ_ret ?_
        replace h := some_eq h
        subst h
        exact ⟨.inr rfl, retOK_of [(.one (.c (.bool false)))] (by kernel_rfl) ⟨⟨rfl, trivial⟩, trivial⟩ (of_decide_eq_true (by kernel_rfl))⟩
      · refine AW.cond_f rfl b5 ?_
        refine AW.skip ?_
        refine thenQ_normal ?_
        refine AW.seq ?_
        refine AW.seq ?_
        obtain ⟨v6, e7, h⟩ := bind_some h
        refine AW.regionA [.no, .no, .no, .no, .call [.one (sl 4 cs_RootKey a0.Roots), .one (sl 4 cs_RootKey a1.Roots)] [.one (.bool v6)] [[.view]]] [26] [] (s' := ⟨[(26, (.v (.one (.c (.bool (!v6))))))], []⟩) (ob := True ∧ True ∧ True ∧ True ∧ (((((sl 4 cs_RootKey a0.Roots) : C) = (sl 4 cs_RootKey a0.Roots)) ∧ (((sl 4 cs_RootKey a1.Roots) : C) = (sl 4 cs_RootKey a1.Roots)) ∧ True) ∧ CallOK Try.prog 69 [.one (sl 4 cs_RootKey a0.Roots), .one (sl 4 cs_RootKey a1.Roots)] [.one (.bool v6)]) ∧ True ∧ True) (by kernel_rfl) ⟨trivial, trivial, trivial, trivial, ⟨⟨rfl, rfl, trivial⟩, ok_laws_eqRootKeyS K a0.Roots a1.Roots v6 e7⟩, trivial, trivial⟩ ?_
        refine thenQ_normal ?_
        rcases ite2_cases h with ⟨b8, h⟩ | ⟨b8, h⟩
        · refine AW.cond_t rfl b8 ?_
          refine AW.seq ?_
          refine AW.regionA [] [4] [] (s' := ⟨[(4, (.v (.one (.c (.bool false)))))], []⟩) (ob := True ∧ True) (by kernel_rfl) ⟨trivial, trivial⟩ ?_
          refine thenQ_normal ?_
          refine AW.ret ?_
          refine thenQ_ret ?_
          replace h := some_eq h
          subst h
          exact ⟨.inr rfl, retOK_of [(.one (.c (.bool false)))] (by kernel_rfl) ⟨⟨rfl, trivial⟩, trivial⟩ (of_decide_eq_true (by kernel_rfl))⟩
        · refine AW.cond_f rfl b8 ?_
          refine AW.skip ?_
          refine thenQ_normal ?_
          refine AW.seq ?_
          refine AW.regionA [] [4] [] (s' := ⟨[(4, (.v (.one (.c (.bool true)))))], []⟩) (ob := True ∧ True) (by kernel_rfl) ⟨trivial, trivial⟩ ?_
          refine thenQ_normal ?_
          refine AW.ret ?_
          replace h := some_eq h
          subst h
          exact ⟨.inr rfl, retOK_of [(.one (.c (.bool true)))] (by kernel_rfl) ⟨⟨rfl, trivial⟩, trivial⟩ (of_decide_eq_true (by kernel_rfl))⟩

/-! laws.eqBone -/
def laws_eqBone (K : Nat) (a0 : Bone) (a1 : Bone) : Option (Bool) :=
  ite2 ((a0.Parent != a1.Parent)) (some false) ((laws_eqVector K a0.Offset a1.Offset).bind fun v2 => ite2 ((!v2)) (some false) (some true))

theorem ok_laws_eqBone (K : Nat) (a0 : Bone) (a1 : Bone) (o : (Bool)) (h : laws_eqBone K a0 a1 = some o) : CallOK Try.prog 163 [.agg (cs_Bone a0), .agg (cs_Bone a1)] [.one (.bool o)] := by
  refine callOK_of_AW Try.func163 rfl (by kernel_rfl) (Nat.le_of_ble_eq_true (by kernel_rfl)) ?_
  intro w0
  unfold laws_eqBone at h
  refine AW.seq ?_
  refine AW.regionA [.box 1, .box 2] [2, 3] [1, 2] (s' := ⟨[(2, (.v (.one (.ptr 1 0)))), (3, (.v (.one (.ptr 2 0))))], [(1, (.box [(.c (.int .i64 a0.Parent)), (.c (.flt .f32 a0.Offset.X.bits)), (.c (.flt .f32 a0.Offset.Y.bits)), (.c (.flt .f32 a0.Offset.Z.bits))])), (2, (.box [(.c (.int .i64 a1.Parent)), (.c (.flt .f32 a1.Offset.X.bits)), (.c (.flt .f32 a1.Offset.Y.bits)), (.c (.flt .f32 a1.Offset.Z.bits))]))]⟩) (ob := True ∧ True ∧ True ∧ True) (by kernel_rfl) ⟨trivial, trivial, trivial, trivial⟩ ?_
  refine thenQ_normal ?_
  refine AW.seq ?_
  refine AW.seq ?_
  refine AW.regionA [] [2, 3, 9] [1, 2] (s' := ⟨[(2, (.v (.one (.ptr 1 0)))), (3, (.v (.one (.ptr 2 0)))), (9, (.v (.one (.c (.bool (a0.Parent != a1.Parent))))))], [(1, (.box [(.c (.int .i64 a0.Parent)), (.c (.flt .f32 a0.Offset.X.bits)), (.c (.flt .f32 a0.Offset.Y.bits)), (.c (.flt .f32 a0.Offset.Z.bits))])), (2, (.box [(.c (.int .i64 a1.Parent)), (.c (.flt .f32 a1.Offset.X.bits)), (.c (.flt .f32 a1.Offset.Y.bits)), (.c (.flt .f32 a1.Offset.Z.bits))]))]⟩) (ob := True ∧ True ∧ True ∧ True ∧ True ∧ True) (by kernel_rfl) ⟨trivial, trivial, trivial, trivial, trivial, trivial⟩ ?_
  refine thenQ_normal ?_
  rcases ite2_cases h with ⟨b1, h⟩ | ⟨b1, h⟩
  · refine AW.cond_t rfl b1 ?_
    refine AW.seq ?_
    refine AW.regionA [] [4] [] (s' := ⟨[(4, (.v (.one (.c (.bool false)))))], []⟩) (ob := True ∧ True) (by kernel_rfl) ⟨trivial, trivial⟩ ?_
    refine thenQ_normal ?_
    refine AW.ret ?_
    refine thenQ_ret ?_
    replace h := some_eq h
    subst h
    exact ⟨.inr rfl, retOK_of [(.one (.c (.bool false)))] (by kernel_rfl) ⟨⟨rfl, trivial⟩, trivial⟩ (of_decide_eq_true (by kernel_rfl))⟩
  · refine AW.cond_f rfl b1 ?_
    refine AW.skip ?_
    refine thenQ_normal ?_
    refine AW.seq ?_
    refine AW.seq ?_
    obtain ⟨v2, e3, h⟩ := bind_some h
    refine AW.regionA [.no, .no, .no, .no, .call [.agg (cs_Vector a0.Offset), .agg (cs_Vector a1.Offset)] [.one (.bool v2)] [[.view]]] [15] [] (s' := ⟨[(15, (.v (.one (.c (.bool (!v2))))))], []⟩) (ob := True ∧ True ∧ True ∧ True ∧ ((((((.flt .f32 a0.Offset.X.bits) : C) = (.flt .f32 a0.Offset.X.bits)) ∧ (((.flt .f32 a0.Offset.Y.bits) : C) = (.flt .f32 a0.Offset.Y.bits)) ∧ (((.flt .f32 a0.Offset.Z.bits) : C) = (.flt .f32 a0.Offset.Z.bits)) ∧ True) ∧ ((((.flt .f32 a1.Offset.X.bits) : C) = (.flt .f32 a1.Offset.X.bits)) ∧ (((.flt .f32 a1.Offset.Y.bits) : C) = (.flt .f32 a1.Offset.Y.bits)) ∧ (((.flt .f32 a1.Offset.Z.bits) : C) = (.flt .f32 a1.Offset.Z.bits)) ∧ True) ∧ True) ∧ CallOK Try.prog 186 [.agg (cs_Vector a0.Offset), .agg (cs_Vector a1.Offset)] [.one (.bool v2)]) ∧ True ∧ True) (by kernel_rfl) ⟨trivial, trivial, trivial, trivial, ⟨⟨⟨rfl, rfl, rfl, trivial⟩, ⟨rfl, rfl, rfl, trivial⟩, trivial⟩, ok_laws_eqVector K a0.Offset a1.Offset v2 e3⟩, trivial, trivial⟩ ?_
    refine thenQ_normal ?_
    rcases ite2_cases h with ⟨b4, h⟩ | ⟨b4, h⟩
    · refine AW.cond_t rfl b4 ?_
      refine AW.seq ?_
      refine AW.regionA [] [4] [] (s' := ⟨[(4, (.v (.one (.c (.bool false)))))], []⟩) (ob := True ∧ True) (by kernel_rfl) ⟨trivial, trivial⟩ ?_
      refine thenQ_normal ?_
      refine AW.ret ?_
      refine thenQ_ret ?_
      replace h := some_eq h
      subst h
      exact ⟨.inr rfl, retOK_of [(.one (.c (.bool false)))] (by kernel_rfl) ⟨⟨rfl, trivial⟩, trivial⟩ (of_decide_eq_true (by kernel_rfl))⟩
    · refine AW.cond_f rfl b4 ?_
      refine AW.skip ?_
      refine thenQ_normal ?_
      refine AW.seq ?_
      refine AW.regionA [] [4] [] (s' := ⟨[(4, (.v (.one (.c (.bool true)))))], []⟩) (ob := True ∧ True) (by kernel_rfl) ⟨trivial, trivial⟩ ?_
      refine thenQ_normal ?_
      refine AW.ret ?_
      replace h := some_eq h
      subst h
      exact ⟨.inr rfl, retOK_of [(.one (.c (.bool true)))] (by kernel_rfl) ⟨⟨rfl, trivial⟩, trivial⟩ (of_decide_eq_true (by kernel_rfl))⟩

/-! laws.eqBoneS -/
def laws_eqBoneS_l1 (K : Nat) (a0 : (List Bone)) (a1 : (List Bone)) : Nat → Int → Option (Bool)
  | 0, _ => none
  | k + 1, x3 => ite2 ((decide (x3 < (a0.length : Int)))) (chk (0 ≤ x3 ∧ x3 < (a0.length : Int)) (chk (0 ≤ x3 ∧ x3 < (a1.length : Int)) ((laws_eqBone K (a0.getD x3.toNat default) (a1.getD x3.toNat default)).bind fun v7 => ite2 ((!v7)) (some false) (laws_eqBoneS_l1 K a0 a1 k (IntKind.i64.wrap (x3 + (1 : Int))))))) (some true)

def laws_eqBoneS (K : Nat) (a0 : (List Bone)) (a1 : (List Bone)) : Option (Bool) :=
  ite2 (((a0.length : Int) != (a1.length : Int))) (some false) (laws_eqBoneS_l1 K a0 a1 K (0 : Int))

theorem ok_laws_eqBoneS (K : Nat) (a0 : (List Bone)) (a1 : (List Bone)) (o : (Bool)) (h : laws_eqBoneS K a0 a1 = some o) : CallOK Try.prog 105 [.one (sl 4 cs_Bone a0), .one (sl 4 cs_Bone a1)] [.one (.bool o)] := by
  refine callOK_of_AW Try.func105 rfl (by kernel_rfl) (Nat.le_of_ble_eq_true (by kernel_rfl)) ?_
  intro w0
  unfold laws_eqBoneS at h
  refine AW.seq ?_
  refine AW.regionA [] [0, 1] [] (s' := ⟨[(0, (.v (.one (.c (sl 4 cs_Bone a0))))), (1, (.v (.one (.c (sl 4 cs_Bone a1)))))], []⟩) (ob := True ∧ True) (by kernel_rfl) ⟨trivial, trivial⟩ ?_
  refine thenQ_normal ?_
  refine AW.seq ?_
  refine AW.seq ?_
  refine AW.regionA [] [0, 1, 10] [] (s' := ⟨[(0, (.v (.one (.c (sl 4 cs_Bone a0))))), (1, (.v (.one (.c (sl 4 cs_Bone a1))))), (10, (.v (.one (.c (.bool ((a0.length : Int) != (a1.length : Int)))))))], []⟩) (ob := True ∧ True ∧ True ∧ True ∧ True ∧ True) (by kernel_rfl) ⟨trivial, trivial, trivial, trivial, trivial, trivial⟩ ?_
  refine thenQ_normal ?_
  rcases ite2_cases h with ⟨b1, h⟩ | ⟨b1, h⟩
  · refine AW.cond_t rfl b1 ?_
    refine AW.seq ?_
    refine AW.regionA [] [4] [] (s' := ⟨[(4, (.v (.one (.c (.bool false)))))], []⟩) (ob := True ∧ True) (by kernel_rfl) ⟨trivial, trivial⟩ ?_
    refine thenQ_normal ?_
    refine AW.ret ?_
    refine thenQ_ret ?_
    replace h := some_eq h
    subst h
    exact ⟨.inr rfl, retOK_of [(.one (.c (.bool false)))] (by kernel_rfl) ⟨⟨rfl, trivial⟩, trivial⟩ (of_decide_eq_true (by kernel_rfl))⟩
  · refine AW.cond_f rfl b1 ?_
    refine AW.skip ?_
    refine thenQ_normal ?_
    refine AW.seq ?_
    refine AW.seq ?_
    refine AW.regionA [] [0, 1, 5] [] (s' := ⟨[(0, (.v (.one (.c (sl 4 cs_Bone a0))))), (1, (.v (.one (.c (sl 4 cs_Bone a1))))), (5, (.v (.one (.c (.int .i64 (0 : Int))))))], []⟩) (ob := True ∧ True) (by kernel_rfl) ⟨trivial, trivial⟩ ?_
    refine thenQ_normal ?_
    refine AW.block ?_
    refine AW.loopQ (σ := Nat × Int) (fun p => ⟨[(0, (.v (.one (.c (sl 4 cs_Bone a0))))), (1, (.v (.one (.c (sl 4 cs_Bone a1))))), (5, (.v (.one (.c (.int .i64 p.2)))))], []⟩) (fun p => laws_eqBoneS_l1 K a0 a1 p.1 p.2 = some o) (fun p => p.1) (K, (0 : Int)) h ?_
    clear h
    rintro ⟨k, x3⟩ h
    replace h : laws_eqBoneS_l1 K a0 a1 k x3 = some o := h
    show AW _ _ (⟨[(0, (.v (.one (.c (sl 4 cs_Bone a0))))), (1, (.v (.one (.c (sl 4 cs_Bone a1))))), (5, (.v (.one (.c (.int .i64 x3)))))], []⟩ : St) _
    obtain _ | k := k
    · rw [laws_eqBoneS_l1] at h; cases h
    rw [laws_eqBoneS_l1] at h
    refine AW.seq ?_
    refine AW.seq ?_
    refine AW.regionA [] [0, 1, 5, 14] [] (s' := ⟨[(0, (.v (.one (.c (sl 4 cs_Bone a0))))), (1, (.v (.one (.c (sl 4 cs_Bone a1))))), (5, (.v (.one (.c (.int .i64 x3))))), (14, (.v (.one (.c (.bool (decide (x3 < (a0.length : Int))))))))], []⟩) (ob := True ∧ True ∧ True ∧ True ∧ True) (by kernel_rfl) ⟨trivial, trivial, trivial, trivial, trivial⟩ ?_
    refine thenQ_normal ?_
    rcases ite2_cases h with ⟨b4, h⟩ | ⟨b4, h⟩
    · refine AW.cond_t rfl b4 ?_
      refine AW.skip ?_
      refine thenQ_normal ?_
      refine AW.seq ?_
      refine AW.block ?_
      refine AW.seq ?_
      obtain ⟨c5, h⟩ := chk_some h
      obtain ⟨c6, h⟩ := chk_some h
      obtain ⟨v7, e8, h⟩ := bind_some h
      refine AW.drawnA (by kernel_rfl) 10 [.no, .no, .no, .no, .no, .no, .no, .no, .call [.agg (cs_Bone (a0.getD x3.toNat default)), .agg (cs_Bone (a1.getD x3.toNat default))] [.one (.bool v7)] [[.view]]] [0, 1, 5, 26] [] (s' := ⟨[(0, (.v (.one (.c (sl 4 cs_Bone a0))))), (1, (.v (.one (.c (sl 4 cs_Bone a1))))), (5, (.v (.one (.c (.int .i64 x3))))), (26, (.v (.one (.c (.bool (!v7))))))], []⟩) (ob := (True ∧ True ∧ (0 ≤ x3 ∧ x3 < (a0.length : Int)) ∧ True ∧ True ∧ True ∧ (0 ≤ x3 ∧ x3 < (a1.length : Int)) ∧ True ∧ ((((((.int .i64 ((a0.getD x3.toNat default).Parent)) : C) = (.int .i64 ((a0.getD x3.toNat default).Parent))) ∧ (((.flt .f32 (((a0.getD x3.toNat default).Offset).X).bits) : C) = (.flt .f32 (((a0.getD x3.toNat default).Offset).X).bits)) ∧ (((.flt .f32 (((a0.getD x3.toNat default).Offset).Y).bits) : C) = (.flt .f32 (((a0.getD x3.toNat default).Offset).Y).bits)) ∧ (((.flt .f32 (((a0.getD x3.toNat default).Offset).Z).bits) : C) = (.flt .f32 (((a0.getD x3.toNat default).Offset).Z).bits)) ∧ True) ∧ ((((.int .i64 ((a1.getD x3.toNat default).Parent)) : C) = (.int .i64 ((a1.getD x3.toNat default).Parent))) ∧ (((.flt .f32 (((a1.getD x3.toNat default).Offset).X).bits) : C) = (.flt .f32 (((a1.getD x3.toNat default).Offset).X).bits)) ∧ (((.flt .f32 (((a1.getD x3.toNat default).Offset).Y).bits) : C) = (.flt .f32 (((a1.getD x3.toNat default).Offset).Y).bits)) ∧ (((.flt .f32 (((a1.getD x3.toNat default).Offset).Z).bits) : C) = (.flt .f32 (((a1.getD x3.toNat default).Offset).Z).bits)) ∧ True) ∧ True) ∧ CallOK Try.prog 163 [.agg (cs_Bone (a0.getD x3.toNat default)), .agg (cs_Bone (a1.getD x3.toNat default))] [.one (.bool v7)]) ∧ True ∧ True) ∧ (True)) (by kernel_rfl) ⟨⟨trivial, trivial, c5, trivial, trivial, trivial, c6, trivial, ⟨⟨⟨rfl, rfl, rfl, rfl, trivial⟩, ⟨rfl, rfl, rfl, rfl, trivial⟩, trivial⟩, ok_laws_eqBone K (a0.getD x3.toNat default) (a1.getD x3.toNat default) v7 e8⟩, trivial, trivial⟩, trivial⟩ ?_
      refine thenQ_normal ?_
      rcases ite2_cases h with ⟨b9, h⟩ | ⟨b9, h⟩
      · refine AW.cond_t rfl b9 ?_
        refine AW.seq ?_
        refine AW.regionA [] [4] [] (s' := ⟨[(4, (.v (.one (.c (.bool false)))))], []⟩) (ob := True ∧ True) (by kernel_rfl) ⟨trivial, trivial⟩ ?_
        refine thenQ_normal ?_
        refine AW.ret ?_
        refine blockQ_ret ?_
        refine thenQ_ret ?_
        refine loopQ_ret ?_
        refine blockQ_ret ?_
        refine thenQ_ret ?_
        replace h := some_eq h
        subst h
        exact ⟨.inr rfl, retOK_of [(.one (.c (.bool false)))] (by kernel_rfl) ⟨⟨rfl, trivial⟩, trivial⟩ (of_decide_eq_true (by kernel_rfl))⟩
      · refine AW.cond_f rfl b9 ?_
        refine AW.skip ?_
        refine blockQ_normal ?_
        refine thenQ_normal ?_
        refine AW.regionA [] [0, 1, 5] [] (s' := ⟨[(0, (.v (.one (.c (sl 4 cs_Bone a0))))), (1, (.v (.one (.c (sl 4 cs_Bone a1))))), (5, (.v (.one (.c (.int .i64 (IntKind.i64.wrap (x3 + (1 : Int))))))))], []⟩) (ob := True ∧ True ∧ True ∧ True) (by kernel_rfl) ⟨trivial, trivial, trivial, trivial⟩ ?_
        exact loopQ_normal (k, (IntKind.i64.wrap (x3 + (1 : Int)))) h (Nat.lt_succ_self k) (Sub.keep [0, 1, 5] [] (by kernel_rfl) (by kernel_rfl))
    · refine AW.cond_f rfl b4 ?_
      refine AW.exit ?_
      refine thenQ_exit ?_
      refine loopQ_exit ?_
      refine blockQ_exit ?_
      refine thenQ_normal ?_
      refine AW.seq ?_
      refine AW.regionA [] [4] [] (s' := ⟨[(4, (.v (.one (.c (.bool true)))))], []⟩) (ob := True ∧ True) (by kernel_rfl) ⟨trivial, trivial⟩ ?_
      refine thenQ_normal ?_
      refine AW.ret ?_
      replace h := some_eq h
      subst h
      exact ⟨.inr rfl, retOK_of [(.one (.c (.bool true)))] (by kernel_rfl) ⟨⟨rfl, trivial⟩, trivial⟩ (of_decide_eq_true (by kernel_rfl))⟩

/-! laws.eqSkeleton -/
def laws_eqSkeleton (K : Nat) (a0 : Skeleton) (a1 : Skeleton) : Option (Bool) :=
  (laws_eqBoneS K a0.Bones a1.Bones).bind fun v1 => ite2 ((!v1)) (some false) (some true)

theorem ok_laws_eqSkeleton (K : Nat) (a0 : Skeleton) (a1 : Skeleton) (o : (Bool)) (h : laws_eqSkeleton K a0 a1 = some o) : CallOK Try.prog 31 [.agg (cs_Skeleton a0), .agg (cs_Skeleton a1)] [.one (.bool o)] := by
  refine callOK_of_AW Try.func31 rfl (by kernel_rfl) (Nat.le_of_ble_eq_true (by kernel_rfl)) ?_
  intro w0
  unfold laws_eqSkeleton at h
  refine AW.seq ?_
  refine AW.regionA [.box 1, .box 2] [2, 3] [1, 2] (s' := ⟨[(2, (.v (.one (.ptr 1 0)))), (3, (.v (.one (.ptr 2 0))))], [(1, (.box [(.c (sl 4 cs_Bone a0.Bones))])), (2, (.box [(.c (sl 4 cs_Bone a1.Bones))]))]⟩) (ob := True ∧ True ∧ True ∧ True) (by kernel_rfl) ⟨trivial, trivial, trivial, trivial⟩ ?_
  refine thenQ_normal ?_
  refine AW.seq ?_
  refine AW.seq ?_
  obtain ⟨v1, e2, h⟩ := bind_some h
  refine AW.regionA [.no, .no, .no, .no, .call [.one (sl 4 cs_Bone a0.Bones), .one (sl 4 cs_Bone a1.Bones)] [.one (.bool v1)] [[.view]]] [10] [] (s' := ⟨[(10, (.v (.one (.c (.bool (!v1))))))], []⟩) (ob := True ∧ True ∧ True ∧ True ∧ (((((sl 4 cs_Bone a0.Bones) : C) = (sl 4 cs_Bone a0.Bones)) ∧ (((sl 4 cs_Bone a1.Bones) : C) = (sl 4 cs_Bone a1.Bones)) ∧ True) ∧ CallOK Try.prog 105 [.one (sl 4 cs_Bone a0.Bones), .one (sl 4 cs_Bone a1.Bones)] [.one (.bool v1)]) ∧ True ∧ True) (by kernel_rfl) ⟨trivial, trivial, trivial, trivial, ⟨⟨rfl, rfl, trivial⟩, ok_laws_eqBoneS K a0.Bones a1.Bones v1 e2⟩, trivial, trivial⟩ ?_
  refine thenQ_normal ?_
  rcases ite2_cases h with ⟨b3, h⟩ | ⟨b3, h⟩
  · refine AW.cond_t rfl b3 ?_
    refine AW.seq ?_
    refine AW.regionA [] [4] [] (s' := ⟨[(4, (.v (.one (.c (.bool false)))))], []⟩) (ob := True ∧ True) (by kernel_rfl) ⟨trivial, trivial⟩ ?_
    refine thenQ_normal ?_
    refine AW.ret ?_
    refine thenQ_ret ?_
    replace h := some_eq h
    subst h
    exact ⟨.inr rfl, retOK_of [(.one (.c (.bool false)))] (by kernel_rfl) ⟨⟨rfl, trivial⟩, trivial⟩ (of_decide_eq_true (by kernel_rfl))⟩
  · refine AW.cond_f rfl b3 ?_
    refine AW.skip ?_
    refine thenQ_normal ?_
    refine AW.seq ?_
    refine AW.regionA [] [4] [] (s' := ⟨[(4, (.v (.one (.c (.bool true)))))], []⟩) (ob := True ∧ True) (by kernel_rfl) ⟨trivial, trivial⟩ ?_
    refine thenQ_normal ?_
    refine AW.ret ?_
    replace h := some_eq h
    subst h
    exact ⟨.inr rfl, retOK_of [(.one (.c (.bool true)))] (by kernel_rfl) ⟨⟨rfl, trivial⟩, trivial⟩ (of_decide_eq_true (by kernel_rfl))⟩

end
end Go.Fw
