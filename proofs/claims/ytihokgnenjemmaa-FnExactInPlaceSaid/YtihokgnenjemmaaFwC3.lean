/- Functions of the program: what each computes, and that it computes just that. -/
import Derived.Test.YtihokgnenjemmaaFwTy
import Derived.Test.YtihokgnenjemmaaFwH
import Derived.Test.YtihokgnenjemmaaFwV
import Derived.Test.YtihokgnenjemmaaFwC31
import Derived.Test.YtihokgnenjemmaaFwUB
import Derived.Test.YtihokgnenjemmaaProg
import Derived.KernelRfl
namespace Go.Fw
open Go Go.Proofs
noncomputable section
set_option maxRecDepth 10000

/-! laws.eqKey -/
def laws_eqKey (K : Nat) (a0 : Key) (a1 : Key) : Option (Bool) :=
  ite2 ((a0.At != a1.At)) (some false) ((laws_eqTurn K a0.Turn a1.Turn).bind fun v2 => ite2 ((!v2)) (some false) (some true))

theorem ok_laws_eqKey (K : Nat) (a0 : Key) (a1 : Key) (o : (Bool)) (h : laws_eqKey K a0 a1 = some o) : CallOK Try.prog 185 [.agg (cs_Key a0), .agg (cs_Key a1)] [.one (.bool o)] := by
  refine callOK_of_AW Try.func185 rfl (by kernel_rfl) (Nat.le_of_ble_eq_true (by kernel_rfl)) ?_
  intro w0
  unfold laws_eqKey at h
  refine AW.seq ?_
  refine AW.regionA [.box 1, .box 2] [2, 3] [1, 2] (s' := ⟨[(2, (.v (.one (.ptr 1 0)))), (3, (.v (.one (.ptr 2 0))))], [(1, (.box [(.c (.int .i64 a0.At)), (.c (.flt .f32 a0.Turn.W.bits)), (.c (.flt .f32 a0.Turn.X.bits)), (.c (.flt .f32 a0.Turn.Y.bits)), (.c (.flt .f32 a0.Turn.Z.bits))])), (2, (.box [(.c (.int .i64 a1.At)), (.c (.flt .f32 a1.Turn.W.bits)), (.c (.flt .f32 a1.Turn.X.bits)), (.c (.flt .f32 a1.Turn.Y.bits)), (.c (.flt .f32 a1.Turn.Z.bits))]))]⟩) (ob := True ∧ True ∧ True ∧ True) (by kernel_rfl) ⟨trivial, trivial, trivial, trivial⟩ ?_
  refine thenQ_normal ?_
  refine AW.seq ?_
  refine AW.seq ?_
  refine AW.regionA [] [2, 3, 9] [1, 2] (s' := ⟨[(2, (.v (.one (.ptr 1 0)))), (3, (.v (.one (.ptr 2 0)))), (9, (.v (.one (.c (.bool (a0.At != a1.At))))))], [(1, (.box [(.c (.int .i64 a0.At)), (.c (.flt .f32 a0.Turn.W.bits)), (.c (.flt .f32 a0.Turn.X.bits)), (.c (.flt .f32 a0.Turn.Y.bits)), (.c (.flt .f32 a0.Turn.Z.bits))])), (2, (.box [(.c (.int .i64 a1.At)), (.c (.flt .f32 a1.Turn.W.bits)), (.c (.flt .f32 a1.Turn.X.bits)), (.c (.flt .f32 a1.Turn.Y.bits)), (.c (.flt .f32 a1.Turn.Z.bits))]))]⟩) (ob := True ∧ True ∧ True ∧ True ∧ True ∧ True) (by kernel_rfl) ⟨trivial, trivial, trivial, trivial, trivial, trivial⟩ ?_
  refine thenQ_normal ?_
  rcases ite2_cases h with ⟨b1, h⟩ | ⟨b1, h⟩
  · refine AW.cond_t rfl b1 ?_
    refine AW.seq ?_
    refine AW.regionA [] [4] [] (s' := ⟨[(4, (.v (.one (.c (.bool false)))))], []⟩) (ob := True ∧ True) (by kernel_rfl) ⟨trivial, trivial⟩ ?_
    refine thenQ_normal ?_
    refine AW.ret ?_
    refine thenQ_ret ?_
    replace h := some_eq h
    subst h
    exact ⟨.inr rfl, retOK_of [(.one (.c (.bool false)))] (by kernel_rfl) ⟨⟨rfl, trivial⟩, trivial⟩ (of_decide_eq_true (by kernel_rfl))⟩
  · refine AW.cond_f rfl b1 ?_
    refine AW.skip ?_
    refine thenQ_normal ?_
    refine AW.seq ?_
    refine AW.seq ?_
    obtain ⟨v2, e3, h⟩ := bind_some h
    refine AW.regionA [.no, .no, .no, .no, .call [.agg (cs_Turn a0.Turn), .agg (cs_Turn a1.Turn)] [.one (.bool v2)] [[.view]]] [15] [] (s' := ⟨[(15, (.v (.one (.c (.bool (!v2))))))], []⟩) (ob := True ∧ True ∧ True ∧ True ∧ ((((((.flt .f32 a0.Turn.W.bits) : C) = (.flt .f32 a0.Turn.W.bits)) ∧ (((.flt .f32 a0.Turn.X.bits) : C) = (.flt .f32 a0.Turn.X.bits)) ∧ (((.flt .f32 a0.Turn.Y.bits) : C) = (.flt .f32 a0.Turn.Y.bits)) ∧ (((.flt .f32 a0.Turn.Z.bits) : C) = (.flt .f32 a0.Turn.Z.bits)) ∧ True) ∧ ((((.flt .f32 a1.Turn.W.bits) : C) = (.flt .f32 a1.Turn.W.bits)) ∧ (((.flt .f32 a1.Turn.X.bits) : C) = (.flt .f32 a1.Turn.X.bits)) ∧ (((.flt .f32 a1.Turn.Y.bits) : C) = (.flt .f32 a1.Turn.Y.bits)) ∧ (((.flt .f32 a1.Turn.Z.bits) : C) = (.flt .f32 a1.Turn.Z.bits)) ∧ True) ∧ True) ∧ CallOK Try.prog 210 [.agg (cs_Turn a0.Turn), .agg (cs_Turn a1.Turn)] [.one (.bool v2)]) ∧ True ∧ True) (by kernel_rfl) ⟨trivial, trivial, trivial, trivial, ⟨⟨⟨rfl, rfl, rfl, rfl, trivial⟩, ⟨rfl, rfl, rfl, rfl, trivial⟩, trivial⟩, ok_laws_eqTurn K a0.Turn a1.Turn v2 e3⟩, trivial, trivial⟩ ?_
    refine thenQ_normal ?_
    rcases ite2_cases h with ⟨b4, h⟩ | ⟨b4, h⟩
    · refine AW.cond_t rfl b4 ?_
      refine AW.seq ?_
      refine AW.regionA [] [4] [] (s' := ⟨[(4, (.v (.one (.c (.bool false)))))], []⟩) (ob := True ∧ True) (by kernel_rfl) ⟨trivial, trivial⟩ ?_
      refine thenQ_normal ?_
      refine AW.ret ?_
      refine thenQ_ret ?_
      replace h := some_eq h
      subst h
      exact ⟨.inr rfl, retOK_of [(.one (.c (.bool false)))] (by kernel_rfl) ⟨⟨rfl, trivial⟩, trivial⟩ (of_decide_eq_true (by kernel_rfl))⟩
    · refine AW.cond_f rfl b4 ?_
      refine AW.skip ?_
      refine thenQ_normal ?_
      refine AW.seq ?_
      refine AW.regionA [] [4] [] (s' := ⟨[(4, (.v (.one (.c (.bool true)))))], []⟩) (ob := True ∧ True) (by kernel_rfl) ⟨trivial, trivial⟩ ?_
      refine thenQ_normal ?_
      refine AW.ret ?_
      replace h := some_eq h
      subst h
      exact ⟨.inr rfl, retOK_of [(.one (.c (.bool true)))] (by kernel_rfl) ⟨⟨rfl, trivial⟩, trivial⟩ (of_decide_eq_true (by kernel_rfl))⟩

/-! laws.eqKeyS -/
def laws_eqKeyS_l1 (K : Nat) (a0 : (List Key)) (a1 : (List Key)) : Nat → Int → Option (Bool)
  | 0, _ => none
  | k + 1, x3 => ite2 ((decide (x3 < (a0.length : Int)))) (chk (0 ≤ x3 ∧ x3 < (a0.length : Int)) (chk (0 ≤ x3 ∧ x3 < (a1.length : Int)) ((laws_eqKey K (a0.getD x3.toNat default) (a1.getD x3.toNat default)).bind fun v7 => ite2 ((!v7)) (some false) (laws_eqKeyS_l1 K a0 a1 k (IntKind.i64.wrap (x3 + (1 : Int))))))) (some true)

def laws_eqKeyS (K : Nat) (a0 : (List Key)) (a1 : (List Key)) : Option (Bool) :=
  ite2 (((a0.length : Int) != (a1.length : Int))) (some false) (laws_eqKeyS_l1 K a0 a1 K (0 : Int))

theorem ok_laws_eqKeyS (K : Nat) (a0 : (List Key)) (a1 : (List Key)) (o : (Bool)) (h : laws_eqKeyS K a0 a1 = some o) : CallOK Try.prog 142 [.one (sl 5 cs_Key a0), .one (sl 5 cs_Key a1)] [.one (.bool o)] := by
  refine callOK_of_AW Try.func142 rfl (by kernel_rfl) (Nat.le_of_ble_eq_true (by kernel_rfl)) ?_
  intro w0
  unfold laws_eqKeyS at h
  refine AW.seq ?_
  refine AW.regionA [] [0, 1] [] (s' := ⟨[(0, (.v (.one (.c (sl 5 cs_Key a0))))), (1, (.v (.one (.c (sl 5 cs_Key a1)))))], []⟩) (ob := True ∧ True) (by kernel_rfl) ⟨trivial, trivial⟩ ?_
  refine thenQ_normal ?_
  refine AW.seq ?_
  refine AW.seq ?_
  refine AW.regionA [] [0, 1, 10] [] (s' := ⟨[(0, (.v (.one (.c (sl 5 cs_Key a0))))), (1, (.v (.one (.c (sl 5 cs_Key a1))))), (10, (.v (.one (.c (.bool ((a0.length : Int) != (a1.length : Int)))))))], []⟩) (ob := True ∧ True ∧ True ∧ True ∧ True ∧ True) (by kernel_rfl) ⟨trivial, trivial, trivial, trivial, trivial, trivial⟩ ?_
  refine thenQ_normal ?_
  rcases ite2_cases h with ⟨b1, h⟩ | ⟨b1, h⟩
  · refine AW.cond_t rfl b1 ?_
    refine AW.seq ?_
    refine AW.regionA [] [4] [] (s' := ⟨[(4, (.v (.one (.c (.bool false)))))], []⟩) (ob := True ∧ True) (by kernel_rfl) ⟨trivial, trivial⟩ ?_
    refine thenQ_normal ?_
    refine AW.ret ?_
    refine thenQ_ret ?_
    replace h := some_eq h
    subst h
    exact ⟨.inr rfl, retOK_of [(.one (.c (.bool false)))] (by kernel_rfl) ⟨⟨rfl, trivial⟩, trivial⟩ (of_decide_eq_true (by kernel_rfl))⟩
  · refine AW.cond_f rfl b1 ?_
    refine AW.skip ?_
    refine thenQ_normal ?_
    refine AW.seq ?_
    refine AW.seq ?_
    refine AW.regionA [] [0, 1, 5] [] (s' := ⟨[(0, (.v (.one (.c (sl 5 cs_Key a0))))), (1, (.v (.one (.c (sl 5 cs_Key a1))))), (5, (.v (.one (.c (.int .i64 (0 : Int))))))], []⟩) (ob := True ∧ True) (by kernel_rfl) ⟨trivial, trivial⟩ ?_
    refine thenQ_normal ?_
    refine AW.block ?_
    refine AW.loopQ (σ := Nat × Int) (fun p => ⟨[(0, (.v (.one (.c (sl 5 cs_Key a0))))), (1, (.v (.one (.c (sl 5 cs_Key a1))))), (5, (.v (.one (.c (.int .i64 p.2)))))], []⟩) (fun p => laws_eqKeyS_l1 K a0 a1 p.1 p.2 = some o) (fun p => p.1) (K, (0 : Int)) h ?_
    clear h
    rintro ⟨k, x3⟩ h
    replace h : laws_eqKeyS_l1 K a0 a1 k x3 = some o := h
    show AW _ _ (⟨[(0, (.v (.one (.c (sl 5 cs_Key a0))))), (1, (.v (.one (.c (sl 5 cs_Key a1))))), (5, (.v (.one (.c (.int .i64 x3)))))], []⟩ : St) _
    obtain _ | k := k
    · rw [laws_eqKeyS_l1] at h; cases h
    rw [laws_eqKeyS_l1] at h
    refine AW.seq ?_
    refine AW.seq ?_
    refine AW.regionA [] [0, 1, 5, 14] [] (s' := ⟨[(0, (.v (.one (.c (sl 5 cs_Key a0))))), (1, (.v (.one (.c (sl 5 cs_Key a1))))), (5, (.v (.one (.c (.int .i64 x3))))), (14, (.v (.one (.c (.bool (decide (x3 < (a0.length : Int))))))))], []⟩) (ob := True ∧ True ∧ True ∧ True ∧ True) (by kernel_rfl) ⟨trivial, trivial, trivial, trivial, trivial⟩ ?_
    refine thenQ_normal ?_
    rcases ite2_cases h with ⟨b4, h⟩ | ⟨b4, h⟩
    · refine AW.cond_t rfl b4 ?_
      refine AW.skip ?_
      refine thenQ_normal ?_
      refine AW.seq ?_
      refine AW.block ?_
      refine AW.seq ?_
      obtain ⟨c5, h⟩ := chk_some h
      obtain ⟨c6, h⟩ := chk_some h
      obtain ⟨v7, e8, h⟩ := bind_some h
      refine AW.drawnA (by kernel_rfl) 10 [.no, .no, .no, .no, .no, .no, .no, .no, .call [.agg (cs_Key (a0.getD x3.toNat default)), .agg (cs_Key (a1.getD x3.toNat default))] [.one (.bool v7)] [[.view]]] [0, 1, 5, 26] [] (s' := ⟨[(0, (.v (.one (.c (sl 5 cs_Key a0))))), (1, (.v (.one (.c (sl 5 cs_Key a1))))), (5, (.v (.one (.c (.int .i64 x3))))), (26, (.v (.one (.c (.bool (!v7))))))], []⟩) (ob := (True ∧ True ∧ (0 ≤ x3 ∧ x3 < (a0.length : Int)) ∧ True ∧ True ∧ True ∧ (0 ≤ x3 ∧ x3 < (a1.length : Int)) ∧ True ∧ ((((((.int .i64 ((a0.getD x3.toNat default).At)) : C) = (.int .i64 ((a0.getD x3.toNat default).At))) ∧ (((.flt .f32 (((a0.getD x3.toNat default).Turn).W).bits) : C) = (.flt .f32 (((a0.getD x3.toNat default).Turn).W).bits)) ∧ (((.flt .f32 (((a0.getD x3.toNat default).Turn).X).bits) : C) = (.flt .f32 (((a0.getD x3.toNat default).Turn).X).bits)) ∧ (((.flt .f32 (((a0.getD x3.toNat default).Turn).Y).bits) : C) = (.flt .f32 (((a0.getD x3.toNat default).Turn).Y).bits)) ∧ (((.flt .f32 (((a0.getD x3.toNat default).Turn).Z).bits) : C) = (.flt .f32 (((a0.getD x3.toNat default).Turn).Z).bits)) ∧ True) ∧ ((((.int .i64 ((a1.getD x3.toNat default).At)) : C) = (.int .i64 ((a1.getD x3.toNat default).At))) ∧ (((.flt .f32 (((a1.getD x3.toNat default).Turn).W).bits) : C) = (.flt .f32 (((a1.getD x3.toNat default).Turn).W).bits)) ∧ (((.flt .f32 (((a1.getD x3.toNat default).Turn).X).bits) : C) = (.flt .f32 (((a1.getD x3.toNat default).Turn).X).bits)) ∧ (((.flt .f32 (((a1.getD x3.toNat default).Turn).Y).bits) : C) = (.flt .f32 (((a1.getD x3.toNat default).Turn).Y).bits)) ∧ (((.flt .f32 (((a1.getD x3.toNat default).Turn).Z).bits) : C) = (.flt .f32 (((a1.getD x3.toNat default).Turn).Z).bits)) ∧ True) ∧ True) ∧ CallOK Try.prog 185 [.agg (cs_Key (a0.getD x3.toNat default)), .agg (cs_Key (a1.getD x3.toNat default))] [.one (.bool v7)]) ∧ True ∧ True) ∧ (True)) (by kernel_rfl) ⟨⟨trivial, trivial, c5, trivial, trivial, trivial, c6, trivial, ⟨⟨⟨rfl, rfl, rfl, rfl, rfl, trivial⟩, ⟨rfl, rfl, rfl, rfl, rfl, trivial⟩, trivial⟩, ok_laws_eqKey K (a0.getD x3.toNat default) (a1.getD x3.toNat default) v7 e8⟩, trivial, trivial⟩, trivial⟩ ?_
      refine thenQ_normal ?_
      rcases ite2_cases h with ⟨b9, h⟩ | ⟨b9, h⟩
      · refine AW.cond_t rfl b9 ?_
        refine AW.seq ?_
        refine AW.regionA [] [4] [] (s' := ⟨[(4, (.v (.one (.c (.bool false)))))], []⟩) (ob := True ∧ True) (by kernel_rfl) ⟨trivial, trivial⟩ ?_
        refine thenQ_normal ?_
        refine AW.ret ?_
        refine blockQ_ret ?_
        refine thenQ_ret ?_
        refine loopQ_ret ?_
        refine blockQ_ret ?_
        refine thenQ_ret ?_
        replace h := some_eq h
        subst h
        exact ⟨.inr rfl, retOK_of [(.one (.c (.bool false)))] (by kernel_rfl) ⟨⟨rfl, trivial⟩, trivial⟩ (of_decide_eq_true (by kernel_rfl))⟩
      · refine AW.cond_f rfl b9 ?_
        refine AW.skip ?_
        refine blockQ_normal ?_
        refine thenQ_normal ?_
        refine AW.regionA [] [0, 1, 5] [] (s' := ⟨[(0, (.v (.one (.c (sl 5 cs_Key a0))))), (1, (.v (.one (.c (sl 5 cs_Key a1))))), (5, (.v (.one (.c (.int .i64 (IntKind.i64.wrap (x3 + (1 : Int))))))))], []⟩) (ob := True ∧ True ∧ True ∧ True) (by kernel_rfl) ⟨trivial, trivial, trivial, trivial⟩ ?_
        exact loopQ_normal (k, (IntKind.i64.wrap (x3 + (1 : Int)))) h (Nat.lt_succ_self k) (Sub.keep [0, 1, 5] [] (by kernel_rfl) (by kernel_rfl))
    · refine AW.cond_f rfl b4 ?_
      refine AW.exit ?_
      refine thenQ_exit ?_
      refine loopQ_exit ?_
      refine blockQ_exit ?_
      refine thenQ_normal ?_
      refine AW.seq ?_
      refine AW.regionA [] [4] [] (s' := ⟨[(4, (.v (.one (.c (.bool true)))))], []⟩) (ob := True ∧ True) (by kernel_rfl) ⟨trivial, trivial⟩ ?_
      refine thenQ_normal ?_
      refine AW.ret ?_
      replace h := some_eq h
      subst h
      exact ⟨.inr rfl, retOK_of [(.one (.c (.bool true)))] (by kernel_rfl) ⟨⟨rfl, trivial⟩, trivial⟩ (of_decide_eq_true (by kernel_rfl))⟩

/-! laws.eqKeySS -/
def laws_eqKeySS_l1 (K : Nat) (a0 : (List (List Key))) (a1 : (List (List Key))) : Nat → Int → Option (Bool)
  | 0, _ => none
  | k + 1, x3 => ite2 ((decide (x3 < (a0.length : Int)))) (chk (0 ≤ x3 ∧ x3 < (a0.length : Int)) (chk (0 ≤ x3 ∧ x3 < (a1.length : Int)) ((laws_eqKeyS K (a0.getD x3.toNat default) (a1.getD x3.toNat default)).bind fun v7 => ite2 ((!v7)) (some false) (laws_eqKeySS_l1 K a0 a1 k (IntKind.i64.wrap (x3 + (1 : Int))))))) (some true)

def laws_eqKeySS (K : Nat) (a0 : (List (List Key))) (a1 : (List (List Key))) : Option (Bool) :=
  ite2 (((a0.length : Int) != (a1.length : Int))) (some false) (laws_eqKeySS_l1 K a0 a1 K (0 : Int))

theorem ok_laws_eqKeySS (K : Nat) (a0 : (List (List Key))) (a1 : (List (List Key))) (o : (Bool)) (h : laws_eqKeySS K a0 a1 = some o) : CallOK Try.prog 68 [.one (sl 1 (csL 5 cs_Key) a0), .one (sl 1 (csL 5 cs_Key) a1)] [.one (.bool o)] := by
  refine callOK_of_AW Try.func68 rfl (by kernel_rfl) (Nat.le_of_ble_eq_true (by kernel_rfl)) ?_
  intro w0
  unfold laws_eqKeySS at h
  refine AW.seq ?_
  refine AW.regionA [] [0, 1] [] (s' := ⟨[(0, (.v (.one (.c (sl 1 (csL 5 cs_Key) a0))))), (1, (.v (.one (.c (sl 1 (csL 5 cs_Key) a1)))))], []⟩) (ob := True ∧ True) (by kernel_rfl) ⟨trivial, trivial⟩ ?_
  refine thenQ_normal ?_
  refine AW.seq ?_
  refine AW.seq ?_
  refine AW.regionA [] [0, 1, 10] [] (s' := ⟨[(0, (.v (.one (.c (sl 1 (csL 5 cs_Key) a0))))), (1, (.v (.one (.c (sl 1 (csL 5 cs_Key) a1))))), (10, (.v (.one (.c (.bool ((a0.length : Int) != (a1.length : Int)))))))], []⟩) (ob := True ∧ True ∧ True ∧ True ∧ True ∧ True) (by kernel_rfl) ⟨trivial, trivial, trivial, trivial, trivial, trivial⟩ ?_
  refine thenQ_normal ?_
  rcases ite2_cases h with ⟨b1, h⟩ | ⟨b1, h⟩
  · refine AW.cond_t rfl b1 ?_
    refine AW.seq ?_
    refine AW.regionA [] [4] [] (s' := ⟨[(4, (.v (.one (.c (.bool false)))))], []⟩) (ob := True ∧ True) (by kernel_rfl) ⟨trivial, trivial⟩ ?_
    refine thenQ_normal ?_
    refine AW.ret ?_
    refine thenQ_ret ?_
    replace h := some_eq h
    subst h
    exact ⟨.inr rfl, retOK_of [(.one (.c (.bool false)))] (by kernel_rfl) ⟨⟨rfl, trivial⟩, trivial⟩ (of_decide_eq_true (by kernel_rfl))⟩
  · refine AW.cond_f rfl b1 ?_
    refine AW.skip ?_
    refine thenQ_normal ?_
    refine AW.seq ?_
    refine AW.seq ?_
    refine AW.regionA [] [0, 1, 5] [] (s' := ⟨[(0, (.v (.one (.c (sl 1 (csL 5 cs_Key) a0))))), (1, (.v (.one (.c (sl 1 (csL 5 cs_Key) a1))))), (5, (.v (.one (.c (.int .i64 (0 : Int))))))], []⟩) (ob := True ∧ True) (by kernel_rfl) ⟨trivial, trivial⟩ ?_
    refine thenQ_normal ?_
    refine AW.block ?_
    refine AW.loopQ (σ := Nat × Int) (fun p => ⟨[(0, (.v (.one (.c (sl 1 (csL 5 cs_Key) a0))))), (1, (.v (.one (.c (sl 1 (csL 5 cs_Key) a1))))), (5, (.v (.one (.c (.int .i64 p.2)))))], []⟩) (fun p => laws_eqKeySS_l1 K a0 a1 p.1 p.2 = some o) (fun p => p.1) (K, (0 : Int)) h ?_
    clear h
    rintro ⟨k, x3⟩ h
    replace h : laws_eqKeySS_l1 K a0 a1 k x3 = some o := h
    show AW _ _ (⟨[(0, (.v (.one (.c (sl 1 (csL 5 cs_Key) a0))))), (1, (.v (.one (.c (sl 1 (csL 5 cs_Key) a1))))), (5, (.v (.one (.c (.int .i64 x3)))))], []⟩ : St) _
    obtain _ | k := k
    · rw [laws_eqKeySS_l1] at h; cases h
    rw [laws_eqKeySS_l1] at h
    refine AW.seq ?_
    refine AW.seq ?_
    refine AW.regionA [] [0, 1, 5, 14] [] (s' := ⟨[(0, (.v (.one (.c (sl 1 (csL 5 cs_Key) a0))))), (1, (.v (.one (.c (sl 1 (csL 5 cs_Key) a1))))), (5, (.v (.one (.c (.int .i64 x3))))), (14, (.v (.one (.c (.bool (decide (x3 < (a0.length : Int))))))))], []⟩) (ob := True ∧ True ∧ True ∧ True ∧ True) (by kernel_rfl) ⟨trivial, trivial, trivial, trivial, trivial⟩ ?_
    refine thenQ_normal ?_
    rcases ite2_cases h with ⟨b4, h⟩ | ⟨b4, h⟩
    · refine AW.cond_t rfl b4 ?_
      refine AW.skip ?_
      refine thenQ_normal ?_
      refine AW.seq ?_
      refine AW.block ?_
      refine AW.seq ?_
      obtain ⟨c5, h⟩ := chk_some h
      obtain ⟨c6, h⟩ := chk_some h
      obtain ⟨v7, e8, h⟩ := bind_some h
      refine AW.drawnA (by kernel_rfl) 10 [.no, .no, .no, .no, .no, .no, .no, .no, .call [.one (sl 5 cs_Key (a0.getD x3.toNat default)), .one (sl 5 cs_Key (a1.getD x3.toNat default))] [.one (.bool v7)] [[.view]]] [0, 1, 5, 26] [] (s' := ⟨[(0, (.v (.one (.c (sl 1 (csL 5 cs_Key) a0))))), (1, (.v (.one (.c (sl 1 (csL 5 cs_Key) a1))))), (5, (.v (.one (.c (.int .i64 x3))))), (26, (.v (.one (.c (.bool (!v7))))))], []⟩) (ob := (True ∧ True ∧ (0 ≤ x3 ∧ x3 < (a0.length : Int)) ∧ True ∧ True ∧ True ∧ (0 ≤ x3 ∧ x3 < (a1.length : Int)) ∧ True ∧ (((((sl 5 cs_Key (a0.getD x3.toNat default)) : C) = (sl 5 cs_Key (a0.getD x3.toNat default))) ∧ (((sl 5 cs_Key (a1.getD x3.toNat default)) : C) = (sl 5 cs_Key (a1.getD x3.toNat default))) ∧ True) ∧ CallOK Try.prog 142 [.one (sl 5 cs_Key (a0.getD x3.toNat default)), .one (sl 5 cs_Key (a1.getD x3.toNat default))] [.one (.bool v7)]) ∧ True ∧ True) ∧ (True)) (by kernel_rfl) ⟨⟨trivial, trivial, c5, trivial, trivial, trivial, c6, trivial, ⟨⟨rfl, rfl, trivial⟩, ok_laws_eqKeyS K (a0.getD x3.toNat default) (a1.getD x3.toNat default) v7 e8⟩, trivial, trivial⟩, trivial⟩ ?_
      refine thenQ_normal ?_
      rcases ite2_cases h with ⟨b9, h⟩ | ⟨b9, h⟩
      · refine AW.cond_t rfl b9 ?_
        refine AW.seq ?_
        refine AW.regionA [] [4] [] (s' := ⟨[(4, (.v (.one (.c (.bool false)))))], []⟩) (ob := True ∧ True) (by kernel_rfl) ⟨trivial, trivial⟩ ?_
        refine thenQ_normal ?_
        refine AW.ret ?_
        refine blockQ_ret ?_
        refine thenQ_ret ?_
        refine loopQ_ret ?_
        refine blockQ_ret ?_
        refine thenQ_ret ?_
        replace h := some_eq h
        subst h
        exact ⟨.inr rfl, retOK_of [(.one (.c (.bool false)))] (by kernel_rfl) ⟨⟨rfl, trivial⟩, trivial⟩ (of_decide_eq_true (by kernel_rfl))⟩
      · refine AW.cond_f rfl b9 ?_
        refine AW.skip ?_
        refine blockQ_normal ?_
        refine thenQ_normal ?_
        refine AW.regionA [] [0, 1, 5] [] (s' := ⟨[(0, (.v (.one (.c (sl 1 (csL 5 cs_Key) a0))))), (1, (.v (.one (.c (sl 1 (csL 5 cs_Key) a1))))), (5, (.v (.one (.c (.int .i64 (IntKind.i64.wrap (x3 + (1 : Int))))))))], []⟩) (ob := True ∧ True ∧ True ∧ True) (by kernel_rfl) ⟨trivial, trivial, trivial, trivial⟩ ?_
        exact loopQ_normal (k, (IntKind.i64.wrap (x3 + (1 : Int)))) h (Nat.lt_succ_self k) (Sub.keep [0, 1, 5] [] (by kernel_rfl) (by kernel_rfl))
    · refine AW.cond_f rfl b4 ?_
      refine AW.exit ?_
      refine thenQ_exit ?_
      refine loopQ_exit ?_
      refine blockQ_exit ?_
      refine thenQ_normal ?_
      refine AW.seq ?_
      refine AW.regionA [] [4] [] (s' := ⟨[(4, (.v (.one (.c (.bool true)))))], []⟩) (ob := True ∧ True) (by kernel_rfl) ⟨trivial, trivial⟩ ?_
      refine thenQ_normal ?_
      refine AW.ret ?_
      replace h := some_eq h
      subst h
      exact ⟨.inr rfl, retOK_of [(.one (.c (.bool true)))] (by kernel_rfl) ⟨⟨rfl, trivial⟩, trivial⟩ (of_decide_eq_true (by kernel_rfl))⟩

/-! laws.eqVector -/
def laws_eqVector (K : Nat) (a0 : Vector) (a1 : Vector) : Option (Bool) :=
  (laws_sameFloat K (Fl.cv .f32 .f64 a0.X) (Fl.cv .f32 .f64 a1.X)).bind fun v1 => ite2 ((!v1)) (some false) ((laws_sameFloat K (Fl.cv .f32 .f64 a0.Y) (Fl.cv .f32 .f64 a1.Y)).bind fun v4 => ite2 ((!v4)) (some false) ((laws_sameFloat K (Fl.cv .f32 .f64 a0.Z) (Fl.cv .f32 .f64 a1.Z)).bind fun v7 => ite2 ((!v7)) (some false) (some true)))

theorem ok_laws_eqVector (K : Nat) (a0 : Vector) (a1 : Vector) (o : (Bool)) (h : laws_eqVector K a0 a1 = some o) : CallOK Try.prog 186 [.agg (cs_Vector a0), .agg (cs_Vector a1)] [.one (.bool o)] := by
  refine callOK_of_AW Try.func186 rfl (by kernel_rfl) (Nat.le_of_ble_eq_true (by kernel_rfl)) ?_
  intro w0
  unfold laws_eqVector at h
  refine AW.seq ?_
  refine AW.regionA [.box 1, .box 2] [2, 3] [1, 2] (s' := ⟨[(2, (.v (.one (.ptr 1 0)))), (3, (.v (.one (.ptr 2 0))))], [(1, (.box [(.c (.flt .f32 a0.X.bits)), (.c (.flt .f32 a0.Y.bits)), (.c (.flt .f32 a0.Z.bits))])), (2, (.box [(.c (.flt .f32 a1.X.bits)), (.c (.flt .f32 a1.Y.bits)), (.c (.flt .f32 a1.Z.bits))]))]⟩) (ob := True ∧ True ∧ True ∧ True) (by kernel_rfl) ⟨trivial, trivial, trivial, trivial⟩ ?_
  refine thenQ_normal ?_
  refine AW.seq ?_
  refine AW.seq ?_
  obtain ⟨v1, e2, h⟩ := bind_some h
  refine AW.regionA [.no, .no, .no, .no, .no, .no, .call [.one (.flt .f64 (Fl.cv .f32 .f64 a0.X).bits), .one (.flt .f64 (Fl.cv .f32 .f64 a1.X).bits)] [.one (.bool v1)] [[.view]]] [2, 3, 12] [1, 2] (s' := ⟨[(2, (.v (.one (.ptr 1 0)))), (3, (.v (.one (.ptr 2 0)))), (12, (.v (.one (.c (.bool (!v1))))))], [(1, (.box [(.c (.flt .f32 a0.X.bits)), (.c (.flt .f32 a0.Y.bits)), (.c (.flt .f32 a0.Z.bits))])), (2, (.box [(.c (.flt .f32 a1.X.bits)), (.c (.flt .f32 a1.Y.bits)), (.c (.flt .f32 a1.Z.bits))]))]⟩) (ob := True ∧ True ∧ ((convBits .f32 a0.X.bits .f64).isSome = true) ∧ True ∧ True ∧ ((convBits .f32 a1.X.bits .f64).isSome = true) ∧ (((((.flt .f64 (Fl.cv .f32 .f64 a0.X).bits) : C) = (.flt .f64 (Fl.cv .f32 .f64 a0.X).bits)) ∧ (((.flt .f64 (Fl.cv .f32 .f64 a1.X).bits) : C) = (.flt .f64 (Fl.cv .f32 .f64 a1.X).bits)) ∧ True) ∧ CallOK Try.prog 211 [.one (.flt .f64 (Fl.cv .f32 .f64 a0.X).bits), .one (.flt .f64 (Fl.cv .f32 .f64 a1.X).bits)] [.one (.bool v1)]) ∧ True ∧ True) (by kernel_rfl) ⟨trivial, trivial, cv_wide a0.X, trivial, trivial, cv_wide a1.X, ⟨⟨rfl, rfl, trivial⟩, ok_laws_sameFloat K (Fl.cv .f32 .f64 a0.X) (Fl.cv .f32 .f64 a1.X) v1 e2⟩, trivial, trivial⟩ ?_
  refine thenQ_normal ?_
  rcases ite2_cases h with ⟨b3, h⟩ | ⟨b3, h⟩
  · refine AW.cond_t rfl b3 ?_
    refine AW.seq ?_
    refine AW.regionA [] [4] [] (s' := ⟨[(4, (.v (.one (.c (.bool false)))))], []⟩) (ob := True ∧ True) (by kernel_rfl) ⟨trivial, trivial⟩ ?_
    refine thenQ_normal ?_
    refine AW.ret ?_
    refine thenQ_ret ?_
    replace h := some_eq h
    subst h
    exact ⟨.inr rfl, retOK_of [(.one (.c (.bool false)))] (by kernel_rfl) ⟨⟨rfl, trivial⟩, trivial⟩ (of_decide_eq_true (by kernel_rfl))⟩
  · refine AW.cond_f rfl b3 ?_
    refine AW.skip ?_
    refine thenQ_normal ?_
    refine AW.seq ?_
    refine AW.seq ?_
    obtain ⟨v4, e5, h⟩ := bind_some h
    refine AW.regionA [.no, .no, .no, .no, .no, .no, .call [.one (.flt .f64 (Fl.cv .f32 .f64 a0.Y).bits), .one (.flt .f64 (Fl.cv .f32 .f64 a1.Y).bits)] [.one (.bool v4)] [[.view]]] [2, 3, 20] [1, 2] (s' := ⟨[(2, (.v (.one (.ptr 1 0)))), (3, (.v (.one (.ptr 2 0)))), (20, (.v (.one (.c (.bool (!v4))))))], [(1, (.box [(.c (.flt .f32 a0.X.bits)), (.c (.flt .f32 a0.Y.bits)), (.c (.flt .f32 a0.Z.bits))])), (2, (.box [(.c (.flt .f32 a1.X.bits)), (.c (.flt .f32 a1.Y.bits)), (.c (.flt .f32 a1.Z.bits))]))]⟩) (ob := True ∧ True ∧ ((convBits .f32 a0.Y.bits .f64).isSome = true) ∧ True ∧ True ∧ ((convBits .f32 a1.Y.bits .f64).isSome = true) ∧ (((((.flt .f64 (Fl.cv .f32 .f64 a0.Y).bits) : C) = (.flt .f64 (Fl.cv .f32 .f64 a0.Y).bits)) ∧ (((.flt .f64 (Fl.cv .f32 .f64 a1.Y).bits) : C) = (.flt .f64 (Fl.cv .f32 .f64 a1.Y).bits)) ∧ True) ∧ CallOK Try.prog 211 [.one (.flt .f64 (Fl.cv .f32 .f64 a0.Y).bits), .one (.flt .f64 (Fl.cv .f32 .f64 a1.Y).bits)] [.one (.bool v4)]) ∧ True ∧ True) (by kernel_rfl) ⟨trivial, trivial, cv_wide a0.Y, trivial, trivial, cv_wide a1.Y, ⟨⟨rfl, rfl, trivial⟩, ok_laws_sameFloat K (Fl.cv .f32 .f64 a0.Y) (Fl.cv .f32 .f64 a1.Y) v4 e5⟩, trivial, trivial⟩ ?_
    refine thenQ_normal ?_
    rcases ite2_cases h with ⟨b6, h⟩ | ⟨b6, h⟩
    · refine AW.cond_t rfl b6 ?_
      refine AW.seq ?_
      refine AW.regionA [] [4] [] (s' := ⟨[(4, (.v (.one (.c (.bool false)))))], []⟩) (ob := True ∧ True) (by kernel_rfl) ⟨trivial, trivial⟩ ?_
      refine thenQ_normal ?_
      refine AW.ret ?_
      refine thenQ_ret ?_
      replace h := some_eq h
      subst h
      exact ⟨.inr rfl, retOK_of [(.one (.c (.bool false)))] (by kernel_rfl) ⟨⟨rfl, trivial⟩, trivial⟩ (of_decide_eq_true (by kernel_rfl))⟩
    · refine AW.cond_f rfl b6 ?_
      refine AW.skip ?_
      refine thenQ_normal ?_
      refine AW.seq ?_
      refine AW.seq ?_
      obtain ⟨v7, e8, h⟩ := bind_some h
      refine AW.regionA [.no, .no, .no, .no, .no, .no, .call [.one (.flt .f64 (Fl.cv .f32 .f64 a0.Z).bits), .one (.flt .f64 (Fl.cv .f32 .f64 a1.Z).bits)] [.one (.bool v7)] [[.view]]] [28] [] (s' := ⟨[(28, (.v (.one (.c (.bool (!v7))))))], []⟩) (ob := True ∧ True ∧ ((convBits .f32 a0.Z.bits .f64).isSome = true) ∧ True ∧ True ∧ ((convBits .f32 a1.Z.bits .f64).isSome = true) ∧ (((((.flt .f64 (Fl.cv .f32 .f64 a0.Z).bits) : C) = (.flt .f64 (Fl.cv .f32 .f64 a0.Z).bits)) ∧ (((.flt .f64 (Fl.cv .f32 .f64 a1.Z).bits) : C) = (.flt .f64 (Fl.cv .f32 .f64 a1.Z).bits)) ∧ True) ∧ CallOK Try.prog 211 [.one (.flt .f64 (Fl.cv .f32 .f64 a0.Z).bits), .one (.flt .f64 (Fl.cv .f32 .f64 a1.Z).bits)] [.one (.bool v7)]) ∧ True ∧ True) (by kernel_rfl) ⟨trivial, trivial, cv_wide a0.Z, trivial, trivial, cv_wide a1.Z, ⟨⟨rfl, rfl, trivial⟩, ok_laws_sameFloat K (Fl.cv .f32 .f64 a0.Z) (Fl.cv .f32 .f64 a1.Z) v7 e8⟩, trivial, trivial⟩ ?_
      refine thenQ_normal ?_
      rcases ite2_cases h with ⟨b9, h⟩ | ⟨b9, h⟩
      · refine AW.cond_t rfl b9 ?_
        refine AW.seq ?_
        refine AW.regionA [] [4] [] (s' := ⟨[(4, (.v (.one (.c (.bool false)))))], []⟩) (ob := True ∧ True) (by kernel_rfl) ⟨trivial, trivial⟩ ?_
        refine thenQ_normal ?_
        refine AW.ret ?_
        refine thenQ_ret ?_
        replace h := some_eq h
        subst h
        exact ⟨.inr rfl, retOK_of [(.one (.c (.bool false)))] (by kernel_rfl) ⟨⟨rfl, trivial⟩, trivial⟩ (of_decide_eq_true (by kernel_rfl))⟩
      · refine AW.cond_f rfl b9 ?_
        refine AW.skip ?_
        refine thenQ_normal ?_
        refine AW.seq ?_
        refine AW.regionA [] [4] [] (s' := ⟨[(4, (.v (.one (.c (.bool true)))))], []⟩) (ob := True ∧ True) (by kernel_rfl) ⟨trivial, trivial⟩ ?_
        refine thenQ_normal ?_
        refine AW.ret ?_
        replace h := some_eq h
        subst h
        exact ⟨.inr rfl, retOK_of [(.one (.c (.bool true)))] (by kernel_rfl) ⟨⟨rfl, trivial⟩, trivial⟩ (of_decide_eq_true (by kernel_rfl))⟩

/-! laws.eqRootKey -/
def laws_eqRootKey (K : Nat) (a0 : RootKey) (a1 : RootKey) : Option (Bool) :=
  ite2 ((a0.At != a1.At)) (some false) ((laws_eqVector K a0.Place a1.Place).bind fun v2 => ite2 ((!v2)) (some false) (some true))

theorem ok_laws_eqRootKey (K : Nat) (a0 : RootKey) (a1 : RootKey) (o : (Bool)) (h : laws_eqRootKey K a0 a1 = some o) : CallOK Try.prog 143 [.agg (cs_RootKey a0), .agg (cs_RootKey a1)] [.one (.bool o)] := by
  refine callOK_of_AW Try.func143 rfl (by kernel_rfl) (Nat.le_of_ble_eq_true (by kernel_rfl)) ?_
  intro w0
  unfold laws_eqRootKey at h
  refine AW.seq ?_
  refine AW.regionA [.box 1, .box 2] [2, 3] [1, 2] (s' := ⟨[(2, (.v (.one (.ptr 1 0)))), (3, (.v (.one (.ptr 2 0))))], [(1, (.box [(.c (.int .i64 a0.At)), (.c (.flt .f32 a0.Place.X.bits)), (.c (.flt .f32 a0.Place.Y.bits)), (.c (.flt .f32 a0.Place.Z.bits))])), (2, (.box [(.c (.int .i64 a1.At)), (.c (.flt .f32 a1.Place.X.bits)), (.c (.flt .f32 a1.Place.Y.bits)), (.c (.flt .f32 a1.Place.Z.bits))]))]⟩) (ob := True ∧ True ∧ True ∧ True) (by kernel_rfl) ⟨trivial, trivial, trivial, trivial⟩ ?_
  refine thenQ_normal ?_
  refine AW.seq ?_
  refine AW.seq ?_
  refine AW.regionA [] [2, 3, 9] [1, 2] (s' := ⟨[(2, (.v (.one (.ptr 1 0)))), (3, (.v (.one (.ptr 2 0)))), (9, (.v (.one (.c (.bool (a0.At != a1.At))))))], [(1, (.box [(.c (.int .i64 a0.At)), (.c (.flt .f32 a0.Place.X.bits)), (.c (.flt .f32 a0.Place.Y.bits)), (.c (.flt .f32 a0.Place.Z.bits))])), (2, (.box [(.c (.int .i64 a1.At)), (.c (.flt .f32 a1.Place.X.bits)), (.c (.flt .f32 a1.Place.Y.bits)), (.c (.flt .f32 a1.Place.Z.bits))]))]⟩) (ob := True ∧ True ∧ True ∧ True ∧ True ∧ True) (by kernel_rfl) ⟨trivial, trivial, trivial, trivial, trivial, trivial⟩ ?_
  refine thenQ_normal ?_
  rcases ite2_cases h with ⟨b1, h⟩ | ⟨b1, h⟩
  · refine AW.cond_t rfl b1 ?_
    refine AW.seq ?_
    refine AW.regionA [] [4] [] (s' := ⟨[(4, (.v (.one (.c (.bool false)))))], []⟩) (ob := True ∧ True) (by kernel_rfl) ⟨trivial, trivial⟩ ?_
    refine thenQ_normal ?_
    refine AW.ret ?_
    refine thenQ_ret ?_
    replace h := some_eq h
    subst h
    exact ⟨.inr rfl, retOK_of [(.one (.c (.bool false)))] (by kernel_rfl) ⟨⟨rfl, trivial⟩, trivial⟩ (of_decide_eq_true (by kernel_rfl))⟩
  · refine AW.cond_f rfl b1 ?_
    refine AW.skip ?_
    refine thenQ_normal ?_
    refine AW.seq ?_
    refine AW.seq ?_
    obtain ⟨v2, e3, h⟩ := bind_some h
    refine AW.regionA [.no, .no, .no, .no, .call [.agg (cs_Vector a0.Place), .agg (cs_Vector a1.Place)] [.one (.bool v2)] [[.view]]] [15] [] (s' := ⟨[(15, (.v (.one (.c (.bool (!v2))))))], []⟩) (ob := True ∧ True ∧ True ∧ True ∧ ((((((.flt .f32 a0.Place.X.bits) : C) = (.flt .f32 a0.Place.X.bits)) ∧ (((.flt .f32 a0.Place.Y.bits) : C) = (.flt .f32 a0.Place.Y.bits)) ∧ (((.flt .f32 a0.Place.Z.bits) : C) = (.flt .f32 a0.Place.Z.bits)) ∧ True) ∧ ((((.flt .f32 a1.Place.X.bits) : C) = (.flt .f32 a1.Place.X.bits)) ∧ (((.flt .f32 a1.Place.Y.bits) : C) = (.flt .f32 a1.Place.Y.bits)) ∧ (((.flt .f32 a1.Place.Z.bits) : C) = (.flt .f32 a1.Place.Z.bits)) ∧ True) ∧ True) ∧ CallOK Try.prog 186 [.agg (cs_Vector a0.Place), .agg (cs_Vector a1.Place)] [.one (.bool v2)]) ∧ True ∧ True) (by kernel_rfl) ⟨trivial, trivial, trivial, trivial, ⟨⟨⟨rfl, rfl, rfl, trivial⟩, ⟨rfl, rfl, rfl, trivial⟩, trivial⟩, ok_laws_eqVector K a0.Place a1.Place v2 e3⟩, trivial, trivial⟩ ?_
    refine thenQ_normal ?_
    rcases ite2_cases h with ⟨b4, h⟩ | ⟨b4, h⟩
    · refine AW.cond_t rfl b4 ?_
      refine AW.seq ?_
      refine AW.regionA [] [4] [] (s' := ⟨[(4, (.v (.one (.c (.bool false)))))], []⟩) (ob := True ∧ True) (by kernel_rfl) ⟨trivial, trivial⟩ ?_
      refine thenQ_normal ?_
      refine AW.ret ?_
      refine thenQ_ret ?_
      replace h := some_eq h
      subst h
      exact ⟨.inr rfl, retOK_of [(.one (.c (.bool false)))] (by kernel_rfl) ⟨⟨rfl, trivial⟩, trivial⟩ (of_decide_eq_true (by kernel_rfl))⟩
    · refine AW.cond_f rfl b4 ?_
      refine AW.skip ?_
      refine thenQ_normal ?_
      refine AW.seq ?_
      refine AW.regionA [] [4] [] (s' := ⟨[(4, (.v (.one (.c (.bool true)))))], []⟩) (ob := True ∧ True) (by kernel_rfl) ⟨trivial, trivial⟩ ?_
      refine thenQ_normal ?_
      refine AW.ret ?_
      replace h := some_eq h
      subst h
      exact ⟨.inr rfl, retOK_of [(.one (.c (.bool true)))] (by kernel_rfl) ⟨⟨rfl, trivial⟩, trivial⟩ (of_decide_eq_true (by kernel_rfl))⟩

/-! laws.eqRootKeyS -/
def laws_eqRootKeyS_l1 (K : Nat) (a0 : (List RootKey)) (a1 : (List RootKey)) : Nat → Int → Option (Bool)
  | 0, _ => none
  | k + 1, x3 => ite2 ((decide (x3 < (a0.length : Int)))) (chk (0 ≤ x3 ∧ x3 < (a0.length : Int)) (chk (0 ≤ x3 ∧ x3 < (a1.length : Int)) ((laws_eqRootKey K (a0.getD x3.toNat default) (a1.getD x3.toNat default)).bind fun v7 => ite2 ((!v7)) (some false) (laws_eqRootKeyS_l1 K a0 a1 k (IntKind.i64.wrap (x3 + (1 : Int))))))) (some true)

def laws_eqRootKeyS (K : Nat) (a0 : (List RootKey)) (a1 : (List RootKey)) : Option (Bool) :=
  ite2 (((a0.length : Int) != (a1.length : Int))) (some false) (laws_eqRootKeyS_l1 K a0 a1 K (0 : Int))

theorem ok_laws_eqRootKeyS (K : Nat) (a0 : (List RootKey)) (a1 : (List RootKey)) (o : (Bool)) (h : laws_eqRootKeyS K a0 a1 = some o) : CallOK Try.prog 69 [.one (sl 4 cs_RootKey a0), .one (sl 4 cs_RootKey a1)] [.one (.bool o)] := by
  refine callOK_of_AW Try.func69 rfl (by kernel_rfl) (Nat.le_of_ble_eq_true (by kernel_rfl)) ?_
  intro w0
  unfold laws_eqRootKeyS at h
  refine AW.seq ?_
  refine AW.regionA [] [0, 1] [] (s' := ⟨[(0, (.v (.one (.c (sl 4 cs_RootKey a0))))), (1, (.v (.one (.c (sl 4 cs_RootKey a1)))))], []⟩) (ob := True ∧ True) (by kernel_rfl) ⟨trivial, trivial⟩ ?_
  refine thenQ_normal ?_
  refine AW.seq ?_
  refine AW.seq ?_
  refine AW.regionA [] [0, 1, 10] [] (s' := ⟨[(0, (.v (.one (.c (sl 4 cs_RootKey a0))))), (1, (.v (.one (.c (sl 4 cs_RootKey a1))))), (10, (.v (.one (.c (.bool ((a0.length : Int) != (a1.length : Int)))))))], []⟩) (ob := True ∧ True ∧ True ∧ True ∧ True ∧ True) (by kernel_rfl) ⟨trivial, trivial, trivial, trivial, trivial, trivial⟩ ?_
  refine thenQ_normal ?_
  rcases ite2_cases h with ⟨b1, h⟩ | ⟨b1, h⟩
  · refine AW.cond_t rfl b1 ?_
    refine AW.seq ?_
    refine AW.regionA [] [4] [] (s' := ⟨[(4, (.v (.one (.c (.bool false)))))], []⟩) (ob := True ∧ True) (by kernel_rfl) ⟨trivial, trivial⟩ ?_
    refine thenQ_normal ?_
    refine AW.ret ?_
    refine thenQ_ret ?_
    replace h := some_eq h
    subst h
    exact ⟨.inr rfl, retOK_of [(.one (.c (.bool false)))] (by kernel_rfl) ⟨⟨rfl, trivial⟩, trivial⟩ (of_decide_eq_true (by kernel_rfl))⟩
  · refine AW.cond_f rfl b1 ?_
    refine AW.skip ?_
    refine thenQ_normal ?_
    refine AW.seq ?_
    refine AW.seq ?_
    refine AW.regionA [] [0, 1, 5] [] (s' := ⟨[(0, (.v (.one (.c (sl 4 cs_RootKey a0))))), (1, (.v (.one (.c (sl 4 cs_RootKey a1))))), (5, (.v (.one (.c (.int .i64 (0 : Int))))))], []⟩) (ob := True ∧ True) (by kernel_rfl) ⟨trivial, trivial⟩ ?_
    refine thenQ_normal ?_
    refine AW.block ?_
    refine AW.loopQ (σ := Nat × Int) (fun p => ⟨[(0, (.v (.one (.c (sl 4 cs_RootKey a0))))), (1, (.v (.one (.c (sl 4 cs_RootKey a1))))), (5, (.v (.one (.c (.int .i64 p.2)))))], []⟩) (fun p => laws_eqRootKeyS_l1 K a0 a1 p.1 p.2 = some o) (fun p => p.1) (K, (0 : Int)) h ?_
    clear h
    rintro ⟨k, x3⟩ h
    replace h : laws_eqRootKeyS_l1 K a0 a1 k x3 = some o := h
    show AW _ _ (⟨[(0, (.v (.one (.c (sl 4 cs_RootKey a0))))), (1, (.v (.one (.c (sl 4 cs_RootKey a1))))), (5, (.v (.one (.c (.int .i64 x3)))))], []⟩ : St) _
    obtain _ | k := k
    · rw [laws_eqRootKeyS_l1] at h; cases h
    rw [laws_eqRootKeyS_l1] at h
    refine AW.seq ?_
    refine AW.seq ?_
    refine AW.regionA [] [0, 1, 5, 14] [] (s' := ⟨[(0, (.v (.one (.c (sl 4 cs_RootKey a0))))), (1, (.v (.one (.c (sl 4 cs_RootKey a1))))), (5, (.v (.one (.c (.int .i64 x3))))), (14, (.v (.one (.c (.bool (decide (x3 < (a0.length : Int))))))))], []⟩) (ob := True ∧ True ∧ True ∧ True ∧ True) (by kernel_rfl) ⟨trivial, trivial, trivial, trivial, trivial⟩ ?_
    refine thenQ_normal ?_
    rcases ite2_cases h with ⟨b4, h⟩ | ⟨b4, h⟩
    · refine AW.cond_t rfl b4 ?_
      refine AW.skip ?_
      refine thenQ_normal ?_
      refine AW.seq ?_
      refine AW.block ?_
      refine AW.seq ?_
      obtain ⟨c5, h⟩ := chk_some h
      obtain ⟨c6, h⟩ := chk_some h
      obtain ⟨v7, e8, h⟩ := bind_some h
      refine AW.drawnA (by kernel_rfl) 10 [.no, .no, .no, .no, .no, .no, .no, .no, .call [.agg (cs_RootKey (a0.getD x3.toNat default)), .agg (cs_RootKey (a1.getD x3.toNat default))] [.one (.bool v7)] [[.view]]] [0, 1, 5, 26] [] (s' := ⟨[(0, (.v (.one (.c (sl 4 cs_RootKey a0))))), (1, (.v (.one (.c (sl 4 cs_RootKey a1))))), (5, (.v (.one (.c (.int .i64 x3))))), (26, (.v (.one (.c (.bool (!v7))))))], []⟩) (ob := (True ∧ True ∧ (0 ≤ x3 ∧ x3 < (a0.length : Int)) ∧ True ∧ True ∧ True ∧ (0 ≤ x3 ∧ x3 < (a1.length : Int)) ∧ True ∧ ((((((.int .i64 ((a0.getD x3.toNat default).At)) : C) = (.int .i64 ((a0.getD x3.toNat default).At))) ∧ (((.flt .f32 (((a0.getD x3.toNat default).Place).X).bits) : C) = (.flt .f32 (((a0.getD x3.toNat default).Place).X).bits)) ∧ (((.flt .f32 (((a0.getD x3.toNat default).Place).Y).bits) : C) = (.flt .f32 (((a0.getD x3.toNat default).Place).Y).bits)) ∧ (((.flt .f32 (((a0.getD x3.toNat default).Place).Z).bits) : C) = (.flt .f32 (((a0.getD x3.toNat default).Place).Z).bits)) ∧ True) ∧ ((((.int .i64 ((a1.getD x3.toNat default).At)) : C) = (.int .i64 ((a1.getD x3.toNat default).At))) ∧ (((.flt .f32 (((a1.getD x3.toNat default).Place).X).bits) : C) = (.flt .f32 (((a1.getD x3.toNat default).Place).X).bits)) ∧ (((.flt .f32 (((a1.getD x3.toNat default).Place).Y).bits) : C) = (.flt .f32 (((a1.getD x3.toNat default).Place).Y).bits)) ∧ (((.flt .f32 (((a1.getD x3.toNat default).Place).Z).bits) : C) = (.flt .f32 (((a1.getD x3.toNat default).Place).Z).bits)) ∧ True) ∧ True) ∧ CallOK Try.prog 143 [.agg (cs_RootKey (a0.getD x3.toNat default)), .agg (cs_RootKey (a1.getD x3.toNat default))] [.one (.bool v7)]) ∧ True ∧ True) ∧ (True)) (by kernel_rfl) ⟨⟨trivial, trivial, c5, trivial, trivial, trivial, c6, trivial, ⟨⟨⟨rfl, rfl, rfl, rfl, trivial⟩, ⟨rfl, rfl, rfl, rfl, trivial⟩, trivial⟩, ok_laws_eqRootKey K (a0.getD x3.toNat default) (a1.getD x3.toNat default) v7 e8⟩, trivial, trivial⟩, trivial⟩ ?_
      refine thenQ_normal ?_
      rcases ite2_cases h with ⟨b9, h⟩ | ⟨b9, h⟩
      · refine AW.cond_t rfl b9 ?_
        refine AW.seq ?_
        refine AW.regionA [] [4] [] (s' := ⟨[(4, (.v (.one (.c (.bool false)))))], []⟩) (ob := True ∧ True) (by kernel_rfl) ⟨trivial, trivial⟩ ?_
        refine thenQ_normal ?_
        refine AW.ret ?_
        refine blockQ_ret ?_
        refine thenQ_ret ?_
        refine loopQ_ret ?_
        refine blockQ_ret ?_
        refine thenQ_ret ?_
        replace h := some_eq h
        subst h
        exact ⟨.inr rfl, retOK_of [(.one (.c (.bool false)))] (by kernel_rfl) ⟨⟨rfl, trivial⟩, trivial⟩ (of_decide_eq_true (by kernel_rfl))⟩
      · refine AW.cond_f rfl b9 ?_
        refine AW.skip ?_
        refine blockQ_normal ?_
        refine thenQ_normal ?_
        refine AW.regionA [] [0, 1, 5] [] (s' := ⟨[(0, (.v (.one (.c (sl 4 cs_RootKey a0))))), (1, (.v (.one (.c (sl 4 cs_RootKey a1))))), (5, (.v (.one (.c (.int .i64 (IntKind.i64.wrap (x3 + (1 : Int))))))))], []⟩) (ob := True ∧ True ∧ True ∧ True) (by kernel_rfl) ⟨trivial, trivial, trivial, trivial⟩ ?_
        exact loopQ_normal (k, (IntKind.i64.wrap (x3 + (1 : Int)))) h (Nat.lt_succ_self k) (Sub.keep [0, 1, 5] [] (by kernel_rfl) (by kernel_rfl))
    · refine AW.cond_f rfl b4 ?_
      refine AW.exit ?_
      refine thenQ_exit ?_
      refine loopQ_exit ?_
      refine blockQ_exit ?_
      refine thenQ_normal ?_
      refine AW.seq ?_
      refine AW.regionA [] [4] [] (s' := ⟨[(4, (.v (.one (.c (.bool true)))))], []⟩) (ob := True ∧ True) (by kernel_rfl) ⟨trivial, trivial⟩ ?_
      refine thenQ_normal ?_
      refine AW.ret ?_
      replace h := some_eq h
      subst h
      exact ⟨.inr rfl, retOK_of [(.one (.c (.bool true)))] (by kernel_rfl) ⟨⟨rfl, trivial⟩, trivial⟩ (of_decide_eq_true (by kernel_rfl))⟩

/-! laws.eqClip -/
def laws_eqClip (K : Nat) (a0 : Clip) (a1 : Clip) : Option (Bool) :=
  ite2 ((a0.Length != a1.Length)) (some false) (ite2 ((a0.Kind != a1.Kind)) (some false) ((laws_eqKeySS K a0.Tracks a1.Tracks).bind fun v3 => ite2 ((!v3)) (some false) ((laws_eqRootKeyS K a0.Roots a1.Roots).bind fun v6 => ite2 ((!v6)) (some false) (some true))))

theorem ok_laws_eqClip (K : Nat) (a0 : Clip) (a1 : Clip) (o : (Bool)) (h : laws_eqClip K a0 a1 = some o) : CallOK Try.prog 15 [.agg (cs_Clip a0), .agg (cs_Clip a1)] [.one (.bool o)] := by
  refine callOK_of_AW Try.func15 rfl (by kernel_rfl) (Nat.le_of_ble_eq_true (by kernel_rfl)) ?_
  intro w0
  unfold laws_eqClip at h
  refine AW.seq ?_
  refine AW.regionA [.box 1, .box 2] [2, 3] [1, 2] (s' := ⟨[(2, (.v (.one (.ptr 1 0)))), (3, (.v (.one (.ptr 2 0))))], [(1, (.box [(.c (.int .i64 a0.Length)), (.c (.int .i64 a0.Kind)), (.c (sl 1 (csL 5 cs_Key) a0.Tracks)), (.c (sl 4 cs_RootKey a0.Roots))])), (2, (.box [(.c (.int .i64 a1.Length)), (.c (.int .i64 a1.Kind)), (.c (sl 1 (csL 5 cs_Key) a1.Tracks)), (.c (sl 4 cs_RootKey a1.Roots))]))]⟩) (ob := True ∧ True ∧ True ∧ True) (by kernel_rfl) ⟨trivial, trivial, trivial, trivial⟩ ?_
  refine thenQ_normal ?_
  refine AW.seq ?_
  refine AW.seq ?_
  refine AW.regionA [] [2, 3, 9] [1, 2] (s' := ⟨[(2, (.v (.one (.ptr 1 0)))), (3, (.v (.one (.ptr 2 0)))), (9, (.v (.one (.c (.bool (a0.Length != a1.Length))))))], [(1, (.box [(.c (.int .i64 a0.Length)), (.c (.int .i64 a0.Kind)), (.c (sl 1 (csL 5 cs_Key) a0.Tracks)), (.c (sl 4 cs_RootKey a0.Roots))])), (2, (.box [(.c (.int .i64 a1.Length)), (.c (.int .i64 a1.Kind)), (.c (sl 1 (csL 5 cs_Key) a1.Tracks)), (.c (sl 4 cs_RootKey a1.Roots))]))]⟩) (ob := True ∧ True ∧ True ∧ True ∧ True ∧ True) (by kernel_rfl) ⟨trivial, trivial, trivial, trivial, trivial, trivial⟩ ?_
  refine thenQ_normal ?_
  rcases ite2_cases h with ⟨b1, h⟩ | ⟨b1, h⟩
  · refine AW.cond_t rfl b1 ?_
    refine AW.seq ?_
    refine AW.regionA [] [4] [] (s' := ⟨[(4, (.v (.one (.c (.bool false)))))], []⟩) (ob := True ∧ True) (by kernel_rfl) ⟨trivial, trivial⟩ ?_
    refine thenQ_normal ?_
    refine AW.ret ?_
    refine thenQ_ret ?_
    replace h := some_eq h
    subst h
    exact ⟨.inr rfl, retOK_of [(.one (.c (.bool false)))] (by kernel_rfl) ⟨⟨rfl, trivial⟩, trivial⟩ (of_decide_eq_true (by kernel_rfl))⟩
  · refine AW.cond_f rfl b1 ?_
    refine AW.skip ?_
    refine thenQ_normal ?_
    refine AW.seq ?_
    refine AW.seq ?_
    refine AW.regionA [] [2, 3, 14] [1, 2] (s' := ⟨[(2, (.v (.one (.ptr 1 0)))), (3, (.v (.one (.ptr 2 0)))), (14, (.v (.one (.c (.bool (a0.Kind != a1.Kind))))))], [(1, (.box [(.c (.int .i64 a0.Length)), (.c (.int .i64 a0.Kind)), (.c (sl 1 (csL 5 cs_Key) a0.Tracks)), (.c (sl 4 cs_RootKey a0.Roots))])), (2, (.box [(.c (.int .i64 a1.Length)), (.c (.int .i64 a1.Kind)), (.c (sl 1 (csL 5 cs_Key) a1.Tracks)), (.c (sl 4 cs_RootKey a1.Roots))]))]⟩) (ob := True ∧ True ∧ True ∧ True ∧ True ∧ True) (by kernel_rfl) ⟨trivial, trivial, trivial, trivial, trivial, trivial⟩ ?_
    refine thenQ_normal ?_
    rcases ite2_cases h with ⟨b2, h⟩ | ⟨b2, h⟩
    · refine AW.cond_t rfl b2 ?_
      refine AW.seq ?_
      refine AW.regionA [] [4] [] (s' := ⟨[(4, (.v (.one (.c (.bool false)))))], []⟩) (ob := True ∧ True) (by kernel_rfl) ⟨trivial, trivial⟩ ?_
      refine thenQ_normal ?_
      refine AW.ret ?_
      refine thenQ_ret ?_
      replace h := some_eq h
      subst h
      exact ⟨.inr rfl, retOK_of [(.one (.c (.bool false)))] (by kernel_rfl) ⟨⟨rfl, trivial⟩, trivial⟩ (of_decide_eq_true (by kernel_rfl))⟩
    · refine AW.cond_f rfl b2 ?_
      refine AW.skip ?_
      refine thenQ_normal ?_
      refine AW.seq ?_
      refine AW.seq ?_
      obtain ⟨v3, e4, h⟩ := bind_some h
      refine AW.regionA [.no, .no, .no, .no, .call [.one (sl 1 (csL 5 cs_Key) a0.Tracks), .one (sl 1 (csL 5 cs_Key) a1.Tracks)] [.one (.bool v3)] [[.view]]] [2, 3, 20] [1, 2] (s' := ⟨[(2, (.v (.one (.ptr 1 0)))), (3, (.v (.one (.ptr 2 0)))), (20, (.v (.one (.c (.bool (!v3))))))], [(1, (.box [(.c (.int .i64 a0.Length)), (.c (.int .i64 a0.Kind)), (.c (sl 1 (csL 5 cs_Key) a0.Tracks)), (.c (sl 4 cs_RootKey a0.Roots))])), (2, (.box [(.c (.int .i64 a1.Length)), (.c (.int .i64 a1.Kind)), (.c (sl 1 (csL 5 cs_Key) a1.Tracks)), (.c (sl 4 cs_RootKey a1.Roots))]))]⟩) (ob := True ∧ True ∧ True ∧ True ∧ (((((sl 1 (csL 5 cs_Key) a0.Tracks) : C) = (sl 1 (csL 5 cs_Key) a0.Tracks)) ∧ (((sl 1 (csL 5 cs_Key) a1.Tracks) : C) = (sl 1 (csL 5 cs_Key) a1.Tracks)) ∧ True) ∧ CallOK Try.prog 68 [.one (sl 1 (csL 5 cs_Key) a0.Tracks), .one (sl 1 (csL 5 cs_Key) a1.Tracks)] [.one (.bool v3)]) ∧ True ∧ True) (by kernel_rfl) ⟨trivial, trivial, trivial, trivial, ⟨⟨rfl, rfl, trivial⟩, ok_laws_eqKeySS K a0.Tracks a1.Tracks v3 e4⟩, trivial, trivial⟩ ?_
      refine thenQ_normal ?_
      rcases ite2_cases h with ⟨b5, h⟩ | ⟨b5, h⟩
      · refine AW.cond_t rfl b5 ?_
        refine AW.seq ?_
        refine AW.regionA [] [4] [] (s' := ⟨[(4, (.v (.one (.c (.bool false)))))], []⟩) (ob := True ∧ True) (by kernel_rfl) ⟨trivial, trivial⟩ ?_
        refine thenQ_normal ?_
        refine AW.ret ?_
        refine thenQ_ret ?_
        replace h := some_eq h
        subst h
        exact ⟨.inr rfl, retOK_of [(.one (.c (.bool false)))] (by kernel_rfl) ⟨⟨rfl, trivial⟩, trivial⟩ (of_decide_eq_true (by kernel_rfl))⟩
      · refine AW.cond_f rfl b5 ?_
        refine AW.skip ?_
        refine thenQ_normal ?_
        refine AW.seq ?_
        refine AW.seq ?_
        obtain ⟨v6, e7, h⟩ := bind_some h
        refine AW.regionA [.no, .no, .no, .no, .call [.one (sl 4 cs_RootKey a0.Roots), .one (sl 4 cs_RootKey a1.Roots)] [.one (.bool v6)] [[.view]]] [26] [] (s' := ⟨[(26, (.v (.one (.c (.bool (!v6))))))], []⟩) (ob := True ∧ True ∧ True ∧ True ∧ (((((sl 4 cs_RootKey a0.Roots) : C) = (sl 4 cs_RootKey a0.Roots)) ∧ (((sl 4 cs_RootKey a1.Roots) : C) = (sl 4 cs_RootKey a1.Roots)) ∧ True) ∧ CallOK Try.prog 69 [.one (sl 4 cs_RootKey a0.Roots), .one (sl 4 cs_RootKey a1.Roots)] [.one (.bool v6)]) ∧ True ∧ True) (by kernel_rfl) ⟨trivial, trivial, trivial, trivial, ⟨⟨rfl, rfl, trivial⟩, ok_laws_eqRootKeyS K a0.Roots a1.Roots v6 e7⟩, trivial, trivial⟩ ?_
        refine thenQ_normal ?_
        rcases ite2_cases h with ⟨b8, h⟩ | ⟨b8, h⟩
        · refine AW.cond_t rfl b8 ?_
          refine AW.seq ?_
          refine AW.regionA [] [4] [] (s' := ⟨[(4, (.v (.one (.c (.bool false)))))], []⟩) (ob := True ∧ True) (by kernel_rfl) ⟨trivial, trivial⟩ ?_
          refine thenQ_normal ?_
          refine AW.ret ?_
          refine thenQ_ret ?_
          replace h := some_eq h
          subst h
          exact ⟨.inr rfl, retOK_of [(.one (.c (.bool false)))] (by kernel_rfl) ⟨⟨rfl, trivial⟩, trivial⟩ (of_decide_eq_true (by kernel_rfl))⟩
        · refine AW.cond_f rfl b8 ?_
          refine AW.skip ?_
          refine thenQ_normal ?_
          refine AW.seq ?_
          refine AW.regionA [] [4] [] (s' := ⟨[(4, (.v (.one (.c (.bool true)))))], []⟩) (ob := True ∧ True) (by kernel_rfl) ⟨trivial, trivial⟩ ?_
          refine thenQ_normal ?_
          refine AW.ret ?_
          replace h := some_eq h
          subst h
          exact ⟨.inr rfl, retOK_of [(.one (.c (.bool true)))] (by kernel_rfl) ⟨⟨rfl, trivial⟩, trivial⟩ (of_decide_eq_true (by kernel_rfl))⟩

/-! laws.markKeyS -/
def laws_markKeyS_l1 (K : Nat) (a0 : (List Key)) : Nat → Int → Int → (List Key) → Option (Int × (List Key))
  | 0, _, _, _ => none
  | k + 1, x4, x5, x6 => ite2 ((decide (x5 < (x6.length : Int)))) (chk (0 ≤ x5 ∧ x5 < (x6.length : Int)) ((some (x6.set x5.toNat (Key.mk x4 ((x6.getD x5.toNat default).Turn)))).bind fun y9 => chk (0 ≤ x5 ∧ x5 < (y9.length : Int)) ((some (y9.set x5.toNat (Key.mk ((y9.getD x5.toNat default).At) (Turn.mk (Fl.ofInt .f32 (IntKind.i64.wrap (x4 + (1 : Int)))) (((y9.getD x5.toNat default).Turn).X) (((y9.getD x5.toNat default).Turn).Y) (((y9.getD x5.toNat default).Turn).Z))))).bind fun y12 => chk (0 ≤ x5 ∧ x5 < (y12.length : Int)) ((some (y12.set x5.toNat (Key.mk ((y12.getD x5.toNat default).At) (Turn.mk (((y12.getD x5.toNat default).Turn).W) (Fl.ofInt .f32 (IntKind.i64.wrap ((IntKind.i64.wrap (x4 + (1 : Int))) + (1 : Int)))) (((y12.getD x5.toNat default).Turn).Y) (((y12.getD x5.toNat default).Turn).Z))))).bind fun y15 => chk (0 ≤ x5 ∧ x5 < (y15.length : Int)) ((some (y15.set x5.toNat (Key.mk ((y15.getD x5.toNat default).At) (Turn.mk (((y15.getD x5.toNat default).Turn).W) (((y15.getD x5.toNat default).Turn).X) (Fl.ofInt .f32 (IntKind.i64.wrap ((IntKind.i64.wrap ((IntKind.i64.wrap (x4 + (1 : Int))) + (1 : Int))) + (1 : Int)))) (((y15.getD x5.toNat default).Turn).Z))))).bind fun y18 => chk (0 ≤ x5 ∧ x5 < (y18.length : Int)) ((some (y18.set x5.toNat (Key.mk ((y18.getD x5.toNat default).At) (Turn.mk (((y18.getD x5.toNat default).Turn).W) (((y18.getD x5.toNat default).Turn).X) (((y18.getD x5.toNat default).Turn).Y) (Fl.ofInt .f32 (IntKind.i64.wrap ((IntKind.i64.wrap ((IntKind.i64.wrap ((IntKind.i64.wrap (x4 + (1 : Int))) + (1 : Int))) + (1 : Int))) + (1 : Int)))))))).bind fun y21 => laws_markKeyS_l1 K a0 k (IntKind.i64.wrap ((IntKind.i64.wrap ((IntKind.i64.wrap ((IntKind.i64.wrap ((IntKind.i64.wrap (x4 + (1 : Int))) + (1 : Int))) + (1 : Int))) + (1 : Int))) + (1 : Int))) (IntKind.i64.wrap (x5 + (1 : Int))) y21)))))) (chk (x6.length = a0.length) (some (x4, x6)))

def laws_markKeyS (K : Nat) (a0 : (List Key)) (a1 : Int) : Option (Int × (List Key)) :=
  laws_markKeyS_l1 K a0 K a1 (0 : Int) a0

theorem ok_laws_markKeyS (K : Nat) (a0 : (List Key)) (a1 : Int) (o : (Int × (List Key))) (h : laws_markKeyS K a0 a1 = some o) : MutOK Try.prog 144 [(.one (.mu (sl 5 cs_Key a0) (sl 5 cs_Key o.2))), (.one (.ro (.int .i64 a1)))] [.one (.int .i64 o.1)] := by
  refine mutOK_of_AW 1 Try.func144 rfl (by kernel_rfl) (Nat.le_of_ble_eq_true (by kernel_rfl)) (by kernel_rfl) (by kernel_rfl) ?_
  intro w0 K0 v0 s0
  unfold laws_markKeyS at h
  refine AW.seq ?_
  refine AW.regionA [] [0, 1] [0] (s' := ⟨[(0, (.v (.one (.arr 0)))), (1, (.v (.one (.c (.int .i64 a1)))))], [(0, (.arr true a0.length 5 (gl cs_Key a0)))]⟩) (ob := True ∧ True) (by kernel_rfl) ⟨trivial, trivial⟩ ?_
  refine thenQ_normal ?_
  refine AW.seq ?_
  refine AW.seq ?_
  refine AW.regionA [] [0, 1, 5] [0] (s' := ⟨[(0, (.v (.one (.arr 0)))), (1, (.v (.one (.c (.int .i64 a1))))), (5, (.v (.one (.c (.int .i64 (0 : Int))))))], [(0, (.arr true a0.length 5 (gl cs_Key a0)))]⟩) (ob := True ∧ True) (by kernel_rfl) ⟨trivial, trivial⟩ ?_
  refine thenQ_normal ?_
  refine AW.block ?_
  refine AW.loopQ (σ := Nat × Int × Int × (List Key)) (fun p => ⟨[(0, (.v (.one (.arr 0)))), (1, (.v (.one (.c (.int .i64 p.2.1))))), (5, (.v (.one (.c (.int .i64 p.2.2.1)))))], [(0, (.arr true p.2.2.2.length 5 (gl cs_Key p.2.2.2)))]⟩) (fun p => laws_markKeyS_l1 K a0 p.1 p.2.1 p.2.2.1 p.2.2.2 = some o) (fun p => p.1) (K, a1, (0 : Int), a0) h ?_
  clear h
  rintro ⟨k, x4, x5, x6⟩ h
  replace h : laws_markKeyS_l1 K a0 k x4 x5 x6 = some o := h
  show AW _ _ (⟨[(0, (.v (.one (.arr 0)))), (1, (.v (.one (.c (.int .i64 x4))))), (5, (.v (.one (.c (.int .i64 x5)))))], [(0, (.arr true x6.length 5 (gl cs_Key x6)))]⟩ : St) _
  obtain _ | k := k
  · rw [laws_markKeyS_l1] at h; cases h
  rw [laws_markKeyS_l1] at h
  refine AW.seq ?_
  refine AW.seq ?_
  refine AW.regionA [] [0, 1, 5, 9] [0] (s' := ⟨[(0, (.v (.one (.arr 0)))), (1, (.v (.one (.c (.int .i64 x4))))), (5, (.v (.one (.c (.int .i64 x5))))), (9, (.v (.one (.c (.bool (decide (x5 < (x6.length : Int))))))))], [(0, (.arr true x6.length 5 (gl cs_Key x6)))]⟩) (ob := True ∧ True ∧ True ∧ True ∧ True) (by kernel_rfl) ⟨trivial, trivial, trivial, trivial, trivial⟩ ?_
  refine thenQ_normal ?_
  rcases ite2_cases h with ⟨b7, h⟩ | ⟨b7, h⟩
  · refine AW.cond_t rfl b7 ?_
    refine AW.skip ?_
    refine thenQ_normal ?_
    refine AW.seq ?_
    refine AW.block ?_
    refine AW.seq ?_
    obtain ⟨c8, h⟩ := chk_some h
    obtain ⟨y9, e10, h⟩ := bind_some h
    refine AW.regionA [.no, .no, .no, .no, .no, .set y9.length (gl cs_Key y9) ((List.range 1).map fun j => (cs_Key (Key.mk x4 ((x6.getD x5.toNat default).Turn))).getD (0 + j) .nilptr)] [0, 1, 5] [0] (s' := ⟨[(0, (.v (.one (.arr 0)))), (1, (.v (.one (.c (.int .i64 x4))))), (5, (.v (.one (.c (.int .i64 x5)))))], [(0, (.arr true y9.length 5 (gl cs_Key y9)))]⟩) (ob := True ∧ True ∧ True ∧ (0 ≤ x5 ∧ x5 < (x6.length : Int)) ∧ True ∧ (y9.length = x6.length ∧ SetOb x6.length 5 x5.toNat 0 1 (gl cs_Key x6) (gl cs_Key y9) ∧ ((List.range 1).map fun j => (cs_Key (Key.mk x4 ((x6.getD x5.toNat default).Turn))).getD (0 + j) .nilptr) = ((List.range 1).map fun j => gl cs_Key y9 x5.toNat (0 + j)) ∧ ((((.int .i64 x4) : C) = (.int .i64 x4) ∧ True) ∧ True) ∧ (true = true → ∀ j, j < 1 → isSeq (gl cs_Key x6 x5.toNat (0 + j)) = false ∧ isSeq (gl cs_Key y9 x5.toNat (0 + j)) = false)) ∧ True) (by kernel_rfl) ⟨trivial, trivial, trivial, c8, trivial, (letP (some_eq e10) (fun z => (z.length = x6.length ∧ SetOb x6.length 5 x5.toNat 0 1 (gl cs_Key x6) (gl cs_Key z) ∧ ((List.range 1).map fun j => (cs_Key (Key.mk x4 ((x6.getD x5.toNat default).Turn))).getD (0 + j) .nilptr) = ((List.range 1).map fun j => gl cs_Key z x5.toNat (0 + j)) ∧ ((((.int .i64 x4) : C) = (.int .i64 x4) ∧ True) ∧ True) ∧ (true = true → ∀ j, j < 1 → isSeq (gl cs_Key x6 x5.toNat (0 + j)) = false ∧ isSeq (gl cs_Key z x5.toNat (0 + j)) = false))) ⟨List.length_set, gl_setp (fun j hj hn => match j, hj, hn with | 0, _, hn => absurd ⟨by decide, by decide⟩ hn | 1, _, _ => rfl | 2, _, _ => rfl | 3, _, _ => rfl | 4, _, _ => rfl) (lt_of_bound c8), (gl_atp (lt_of_bound c8)).symm, ⟨⟨rfl, trivial⟩, trivial⟩, (fun _ j hj => match j, hj with | 0, _ => ⟨rfl, rfl⟩)⟩), trivial⟩ ?_
    refine thenQ_normal ?_
    refine AW.seq ?_
    refine AW.regionA [] [0, 1, 5] [0] (s' := ⟨[(0, (.v (.one (.arr 0)))), (1, (.v (.one (.c (.int .i64 (IntKind.i64.wrap (x4 + (1 : Int)))))))), (5, (.v (.one (.c (.int .i64 x5)))))], [(0, (.arr true y9.length 5 (gl cs_Key y9)))]⟩) (ob := True ∧ True ∧ True ∧ True) (by kernel_rfl) ⟨trivial, trivial, trivial, trivial⟩ ?_
    refine thenQ_normal ?_
    refine AW.seq ?_
    obtain ⟨c11, h⟩ := chk_some h
    obtain ⟨y12, e13, h⟩ := bind_some h
    refine AW.regionA [.no, .no, .no, .no, .no, .no, .no, .set y12.length (gl cs_Key y12) ((List.range 1).map fun j => (cs_Key (Key.mk ((y9.getD x5.toNat default).At) (Turn.mk (Fl.ofInt .f32 (IntKind.i64.wrap (x4 + (1 : Int)))) (((y9.getD x5.toNat default).Turn).X) (((y9.getD x5.toNat default).Turn).Y) (((y9.getD x5.toNat default).Turn).Z)))).getD (1 + j) .nilptr)] [0, 1, 5] [0] (s' := ⟨[(0, (.v (.one (.arr 0)))), (1, (.v (.one (.c (.int .i64 (IntKind.i64.wrap (x4 + (1 : Int)))))))), (5, (.v (.one (.c (.int .i64 x5)))))], [(0, (.arr true y12.length 5 (gl cs_Key y12)))]⟩) (ob := True ∧ True ∧ True ∧ True ∧ (0 ≤ x5 ∧ x5 < (y9.length : Int)) ∧ True ∧ True ∧ (y12.length = y9.length ∧ SetOb y9.length 5 x5.toNat 1 1 (gl cs_Key y9) (gl cs_Key y12) ∧ ((List.range 1).map fun j => (cs_Key (Key.mk ((y9.getD x5.toNat default).At) (Turn.mk (Fl.ofInt .f32 (IntKind.i64.wrap (x4 + (1 : Int)))) (((y9.getD x5.toNat default).Turn).X) (((y9.getD x5.toNat default).Turn).Y) (((y9.getD x5.toNat default).Turn).Z)))).getD (1 + j) .nilptr) = ((List.range 1).map fun j => gl cs_Key y12 x5.toNat (1 + j)) ∧ ((((.flt .f32 (Fl.ofInt .f32 (IntKind.i64.wrap (x4 + (1 : Int)))).bits) : C) = (.flt .f32 (Fl.ofInt .f32 (IntKind.i64.wrap (x4 + (1 : Int)))).bits) ∧ True) ∧ True) ∧ (true = true → ∀ j, j < 1 → isSeq (gl cs_Key y9 x5.toNat (1 + j)) = false ∧ isSeq (gl cs_Key y12 x5.toNat (1 + j)) = false)) ∧ True) (by kernel_rfl) ⟨trivial, trivial, trivial, trivial, c11, trivial, trivial, (letP (some_eq e13) (fun z => (z.length = y9.length ∧ SetOb y9.length 5 x5.toNat 1 1 (gl cs_Key y9) (gl cs_Key z) ∧ ((List.range 1).map fun j => (cs_Key (Key.mk ((y9.getD x5.toNat default).At) (Turn.mk (Fl.ofInt .f32 (IntKind.i64.wrap (x4 + (1 : Int)))) (((y9.getD x5.toNat default).Turn).X) (((y9.getD x5.toNat default).Turn).Y) (((y9.getD x5.toNat default).Turn).Z)))).getD (1 + j) .nilptr) = ((List.range 1).map fun j => gl cs_Key z x5.toNat (1 + j)) ∧ ((((.flt .f32 (Fl.ofInt .f32 (IntKind.i64.wrap (x4 + (1 : Int)))).bits) : C) = (.flt .f32 (Fl.ofInt .f32 (IntKind.i64.wrap (x4 + (1 : Int)))).bits) ∧ True) ∧ True) ∧ (true = true → ∀ j, j < 1 → isSeq (gl cs_Key y9 x5.toNat (1 + j)) = false ∧ isSeq (gl cs_Key z x5.toNat (1 + j)) = false))) ⟨List.length_set, gl_setp (fun j hj hn => match j, hj, hn with | 0, _, _ => rfl | 1, _, hn => absurd ⟨by decide, by decide⟩ hn | 2, _, _ => rfl | 3, _, _ => rfl | 4, _, _ => rfl) (lt_of_bound c11), (gl_atp (lt_of_bound c11)).symm, ⟨⟨rfl, trivial⟩, trivial⟩, (fun _ j hj => match j, hj with | 0, _ => ⟨rfl, rfl⟩)⟩), trivial⟩ ?_
    refine thenQ_normal ?_
    refine AW.seq ?_
    refine AW.regionA [] [0, 1, 5] [0] (s' := ⟨[(0, (.v (.one (.arr 0)))), (1, (.v (.one (.c (.int .i64 (IntKind.i64.wrap ((IntKind.i64.wrap (x4 + (1 : Int))) + (1 : Int)))))))), (5, (.v (.one (.c (.int .i64 x5)))))], [(0, (.arr true y12.length 5 (gl cs_Key y12)))]⟩) (ob := True ∧ True ∧ True ∧ True) (by kernel_rfl) ⟨trivial, trivial, trivial, trivial⟩ ?_
    refine thenQ_normal ?_
    refine AW.seq ?_
    obtain ⟨c14, h⟩ := chk_some h
    obtain ⟨y15, e16, h⟩ := bind_some h
    refine AW.regionA [.no, .no, .no, .no, .no, .no, .no, .set y15.length (gl cs_Key y15) ((List.range 1).map fun j => (cs_Key (Key.mk ((y12.getD x5.toNat default).At) (Turn.mk (((y12.getD x5.toNat default).Turn).W) (Fl.ofInt .f32 (IntKind.i64.wrap ((IntKind.i64.wrap (x4 + (1 : Int))) + (1 : Int)))) (((y12.getD x5.toNat default).Turn).Y) (((y12.getD x5.toNat default).Turn).Z)))).getD (2 + j) .nilptr)] [0, 1, 5] [0] (s' := ⟨[(0, (.v (.one (.arr 0)))), (1, (.v (.one (.c (.int .i64 (IntKind.i64.wrap ((IntKind.i64.wrap (x4 + (1 : Int))) + (1 : Int)))))))), (5, (.v (.one (.c (.int .i64 x5)))))], [(0, (.arr true y15.length 5 (gl cs_Key y15)))]⟩) (ob := True ∧ True ∧ True ∧ True ∧ (0 ≤ x5 ∧ x5 < (y12.length : Int)) ∧ True ∧ True ∧ (y15.length = y12.length ∧ SetOb y12.length 5 x5.toNat 2 1 (gl cs_Key y12) (gl cs_Key y15) ∧ ((List.range 1).map fun j => (cs_Key (Key.mk ((y12.getD x5.toNat default).At) (Turn.mk (((y12.getD x5.toNat default).Turn).W) (Fl.ofInt .f32 (IntKind.i64.wrap ((IntKind.i64.wrap (x4 + (1 : Int))) + (1 : Int)))) (((y12.getD x5.toNat default).Turn).Y) (((y12.getD x5.toNat default).Turn).Z)))).getD (2 + j) .nilptr) = ((List.range 1).map fun j => gl cs_Key y15 x5.toNat (2 + j)) ∧ ((((.flt .f32 (Fl.ofInt .f32 (IntKind.i64.wrap ((IntKind.i64.wrap (x4 + (1 : Int))) + (1 : Int)))).bits) : C) = (.flt .f32 (Fl.ofInt .f32 (IntKind.i64.wrap ((IntKind.i64.wrap (x4 + (1 : Int))) + (1 : Int)))).bits) ∧ True) ∧ True) ∧ (true = true → ∀ j, j < 1 → isSeq (gl cs_Key y12 x5.toNat (2 + j)) = false ∧ isSeq (gl cs_Key y15 x5.toNat (2 + j)) = false)) ∧ True) (by kernel_rfl) ⟨trivial, trivial, trivial, trivial, c14, trivial, trivial, (letP (some_eq e16) (fun z => (z.length = y12.length ∧ SetOb y12.length 5 x5.toNat 2 1 (gl cs_Key y12) (gl cs_Key z) ∧ ((List.range 1).map fun j => (cs_Key (Key.mk ((y12.getD x5.toNat default).At) (Turn.mk (((y12.getD x5.toNat default).Turn).W) (Fl.ofInt .f32 (IntKind.i64.wrap ((IntKind.i64.wrap (x4 + (1 : Int))) + (1 : Int)))) (((y12.getD x5.toNat default).Turn).Y) (((y12.getD x5.toNat default).Turn).Z)))).getD (2 + j) .nilptr) = ((List.range 1).map fun j => gl cs_Key z x5.toNat (2 + j)) ∧ ((((.flt .f32 (Fl.ofInt .f32 (IntKind.i64.wrap ((IntKind.i64.wrap (x4 + (1 : Int))) + (1 : Int)))).bits) : C) = (.flt .f32 (Fl.ofInt .f32 (IntKind.i64.wrap ((IntKind.i64.wrap (x4 + (1 : Int))) + (1 : Int)))).bits) ∧ True) ∧ True) ∧ (true = true → ∀ j, j < 1 → isSeq (gl cs_Key y12 x5.toNat (2 + j)) = false ∧ isSeq (gl cs_Key z x5.toNat (2 + j)) = false))) ⟨List.length_set, gl_setp (fun j hj hn => match j, hj, hn with | 0, _, _ => rfl | 1, _, _ => rfl | 2, _, hn => absurd ⟨by decide, by decide⟩ hn | 3, _, _ => rfl | 4, _, _ => rfl) (lt_of_bound c14), (gl_atp (lt_of_bound c14)).symm, ⟨⟨rfl, trivial⟩, trivial⟩, (fun _ j hj => match j, hj with | 0, _ => ⟨rfl, rfl⟩)⟩), trivial⟩ ?_
    refine thenQ_normal ?_
    refine AW.seq ?_
    refine AW.regionA [] [0, 1, 5] [0] (s' := ⟨[(0, (.v (.one (.arr 0)))), (1, (.v (.one (.c (.int .i64 (IntKind.i64.wrap ((IntKind.i64.wrap ((IntKind.i64.wrap (x4 + (1 : Int))) + (1 : Int))) + (1 : Int)))))))), (5, (.v (.one (.c (.int .i64 x5)))))], [(0, (.arr true y15.length 5 (gl cs_Key y15)))]⟩) (ob := True ∧ True ∧ True ∧ True) (by kernel_rfl) ⟨trivial, trivial, trivial, trivial⟩ ?_
    refine thenQ_normal ?_
    refine AW.seq ?_
    obtain ⟨c17, h⟩ := chk_some h
    obtain ⟨y18, e19, h⟩ := bind_some h
    refine AW.regionA [.no, .no, .no, .no, .no, .no, .no, .set y18.length (gl cs_Key y18) ((List.range 1).map fun j => (cs_Key (Key.mk ((y15.getD x5.toNat default).At) (Turn.mk (((y15.getD x5.toNat default).Turn).W) (((y15.getD x5.toNat default).Turn).X) (Fl.ofInt .f32 (IntKind.i64.wrap ((IntKind.i64.wrap ((IntKind.i64.wrap (x4 + (1 : Int))) + (1 : Int))) + (1 : Int)))) (((y15.getD x5.toNat default).Turn).Z)))).getD (3 + j) .nilptr)] [0, 1, 5] [0] (s' := ⟨[(0, (.v (.one (.arr 0)))), (1, (.v (.one (.c (.int .i64 (IntKind.i64.wrap ((IntKind.i64.wrap ((IntKind.i64.wrap (x4 + (1 : Int))) + (1 : Int))) + (1 : Int)))))))), (5, (.v (.one (.c (.int .i64 x5)))))], [(0, (.arr true y18.length 5 (gl cs_Key y18)))]⟩) (ob := True ∧ True ∧ True ∧ True ∧ (0 ≤ x5 ∧ x5 < (y15.length : Int)) ∧ True ∧ True ∧ (y18.length = y15.length ∧ SetOb y15.length 5 x5.toNat 3 1 (gl cs_Key y15) (gl cs_Key y18) ∧ ((List.range 1).map fun j => (cs_Key (Key.mk ((y15.getD x5.toNat default).At) (Turn.mk (((y15.getD x5.toNat default).Turn).W) (((y15.getD x5.toNat default).Turn).X) (Fl.ofInt .f32 (IntKind.i64.wrap ((IntKind.i64.wrap ((IntKind.i64.wrap (x4 + (1 : Int))) + (1 : Int))) + (1 : Int)))) (((y15.getD x5.toNat default).Turn).Z)))).getD (3 + j) .nilptr) = ((List.range 1).map fun j => gl cs_Key y18 x5.toNat (3 + j)) ∧ ((((.flt .f32 (Fl.ofInt .f32 (IntKind.i64.wrap ((IntKind.i64.wrap ((IntKind.i64.wrap (x4 + (1 : Int))) + (1 : Int))) + (1 : Int)))).bits) : C) = (.flt .f32 (Fl.ofInt .f32 (IntKind.i64.wrap ((IntKind.i64.wrap ((IntKind.i64.wrap (x4 + (1 : Int))) + (1 : Int))) + (1 : Int)))).bits) ∧ True) ∧ True) ∧ (true = true → ∀ j, j < 1 → isSeq (gl cs_Key y15 x5.toNat (3 + j)) = false ∧ isSeq (gl cs_Key y18 x5.toNat (3 + j)) = false)) ∧ True) (by kernel_rfl) ⟨trivial, trivial, trivial, trivial, c17, trivial, trivial, (letP (some_eq e19) (fun z => (z.length = y15.length ∧ SetOb y15.length 5 x5.toNat 3 1 (gl cs_Key y15) (gl cs_Key z) ∧ ((List.range 1).map fun j => (cs_Key (Key.mk ((y15.getD x5.toNat default).At) (Turn.mk (((y15.getD x5.toNat default).Turn).W) (((y15.getD x5.toNat default).Turn).X) (Fl.ofInt .f32 (IntKind.i64.wrap ((IntKind.i64.wrap ((IntKind.i64.wrap (x4 + (1 : Int))) + (1 : Int))) + (1 : Int)))) (((y15.getD x5.toNat default).Turn).Z)))).getD (3 + j) .nilptr) = ((List.range 1).map fun j => gl cs_Key z x5.toNat (3 + j)) ∧ ((((.flt .f32 (Fl.ofInt .f32 (IntKind.i64.wrap ((IntKind.i64.wrap ((IntKind.i64.wrap (x4 + (1 : Int))) + (1 : Int))) + (1 : Int)))).bits) : C) = (.flt .f32 (Fl.ofInt .f32 (IntKind.i64.wrap ((IntKind.i64.wrap ((IntKind.i64.wrap (x4 + (1 : Int))) + (1 : Int))) + (1 : Int)))).bits) ∧ True) ∧ True) ∧ (true = true → ∀ j, j < 1 → isSeq (gl cs_Key y15 x5.toNat (3 + j)) = false ∧ isSeq (gl cs_Key z x5.toNat (3 + j)) = false))) ⟨List.length_set, gl_setp (fun j hj hn => match j, hj, hn with | 0, _, _ => rfl | 1, _, _ => rfl | 2, _, _ => rfl | 3, _, hn => absurd ⟨by decide, by decide⟩ hn | 4, _, _ => rfl) (lt_of_bound c17), (gl_atp (lt_of_bound c17)).symm, ⟨⟨rfl, trivial⟩, trivial⟩, (fun _ j hj => match j, hj with | 0, _ => ⟨rfl, rfl⟩)⟩), trivial⟩ ?_
    refine thenQ_normal ?_
    refine AW.seq ?_
    refine AW.regionA [] [0, 1, 5] [0] (s' := ⟨[(0, (.v (.one (.arr 0)))), (1, (.v (.one (.c (.int .i64 (IntKind.i64.wrap ((IntKind.i64.wrap ((IntKind.i64.wrap ((IntKind.i64.wrap (x4 + (1 : Int))) + (1 : Int))) + (1 : Int))) + (1 : Int)))))))), (5, (.v (.one (.c (.int .i64 x5)))))], [(0, (.arr true y18.length 5 (gl cs_Key y18)))]⟩) (ob := True ∧ True ∧ True ∧ True) (by kernel_rfl) ⟨trivial, trivial, trivial, trivial⟩ ?_
    refine thenQ_normal ?_
    refine AW.seq ?_
    obtain ⟨c20, h⟩ := chk_some h
    obtain ⟨y21, e22, h⟩ := bind_some h
    refine AW.regionA [.no, .no, .no, .no, .no, .no, .no, .set y21.length (gl cs_Key y21) ((List.range 1).map fun j => (cs_Key (Key.mk ((y18.getD x5.toNat default).At) (Turn.mk (((y18.getD x5.toNat default).Turn).W) (((y18.getD x5.toNat default).Turn).X) (((y18.getD x5.toNat default).Turn).Y) (Fl.ofInt .f32 (IntKind.i64.wrap ((IntKind.i64.wrap ((IntKind.i64.wrap ((IntKind.i64.wrap (x4 + (1 : Int))) + (1 : Int))) + (1 : Int))) + (1 : Int))))))).getD (4 + j) .nilptr)] [0, 1, 5] [0] (s' := ⟨[(0, (.v (.one (.arr 0)))), (1, (.v (.one (.c (.int .i64 (IntKind.i64.wrap ((IntKind.i64.wrap ((IntKind.i64.wrap ((IntKind.i64.wrap (x4 + (1 : Int))) + (1 : Int))) + (1 : Int))) + (1 : Int)))))))), (5, (.v (.one (.c (.int .i64 x5)))))], [(0, (.arr true y21.length 5 (gl cs_Key y21)))]⟩) (ob := True ∧ True ∧ True ∧ True ∧ (0 ≤ x5 ∧ x5 < (y18.length : Int)) ∧ True ∧ True ∧ (y21.length = y18.length ∧ SetOb y18.length 5 x5.toNat 4 1 (gl cs_Key y18) (gl cs_Key y21) ∧ ((List.range 1).map fun j => (cs_Key (Key.mk ((y18.getD x5.toNat default).At) (Turn.mk (((y18.getD x5.toNat default).Turn).W) (((y18.getD x5.toNat default).Turn).X) (((y18.getD x5.toNat default).Turn).Y) (Fl.ofInt .f32 (IntKind.i64.wrap ((IntKind.i64.wrap ((IntKind.i64.wrap ((IntKind.i64.wrap (x4 + (1 : Int))) + (1 : Int))) + (1 : Int))) + (1 : Int))))))).getD (4 + j) .nilptr) = ((List.range 1).map fun j => gl cs_Key y21 x5.toNat (4 + j)) ∧ ((((.flt .f32 (Fl.ofInt .f32 (IntKind.i64.wrap ((IntKind.i64.wrap ((IntKind.i64.wrap ((IntKind.i64.wrap (x4 + (1 : Int))) + (1 : Int))) + (1 : Int))) + (1 : Int)))).bits) : C) = (.flt .f32 (Fl.ofInt .f32 (IntKind.i64.wrap ((IntKind.i64.wrap ((IntKind.i64.wrap ((IntKind.i64.wrap (x4 + (1 : Int))) + (1 : Int))) + (1 : Int))) + (1 : Int)))).bits) ∧ True) ∧ True) ∧ (true = true → ∀ j, j < 1 → isSeq (gl cs_Key y18 x5.toNat (4 + j)) = false ∧ isSeq (gl cs_Key y21 x5.toNat (4 + j)) = false)) ∧ True) (by kernel_rfl) ⟨trivial, trivial, trivial, trivial, c20, trivial, trivial, (letP (some_eq e22) (fun z => (z.length = y18.length ∧ SetOb y18.length 5 x5.toNat 4 1 (gl cs_Key y18) (gl cs_Key z) ∧ ((List.range 1).map fun j => (cs_Key (Key.mk ((y18.getD x5.toNat default).At) (Turn.mk (((y18.getD x5.toNat default).Turn).W) (((y18.getD x5.toNat default).Turn).X) (((y18.getD x5.toNat default).Turn).Y) (Fl.ofInt .f32 (IntKind.i64.wrap ((IntKind.i64.wrap ((IntKind.i64.wrap ((IntKind.i64.wrap (x4 + (1 : Int))) + (1 : Int))) + (1 : Int))) + (1 : Int))))))).getD (4 + j) .nilptr) = ((List.range 1).map fun j => gl cs_Key z x5.toNat (4 + j)) ∧ ((((.flt .f32 (Fl.ofInt .f32 (IntKind.i64.wrap ((IntKind.i64.wrap ((IntKind.i64.wrap ((IntKind.i64.wrap (x4 + (1 : Int))) + (1 : Int))) + (1 : Int))) + (1 : Int)))).bits) : C) = (.flt .f32 (Fl.ofInt .f32 (IntKind.i64.wrap ((IntKind.i64.wrap ((IntKind.i64.wrap ((IntKind.i64.wrap (x4 + (1 : Int))) + (1 : Int))) + (1 : Int))) + (1 : Int)))).bits) ∧ True) ∧ True) ∧ (true = true → ∀ j, j < 1 → isSeq (gl cs_Key y18 x5.toNat (4 + j)) = false ∧ isSeq (gl cs_Key z x5.toNat (4 + j)) = false))) ⟨List.length_set, gl_setp (fun j hj hn => match j, hj, hn with | 0, _, _ => rfl | 1, _, _ => rfl | 2, _, _ => rfl | 3, _, _ => rfl | 4, _, hn => absurd ⟨by decide, by decide⟩ hn) (lt_of_bound c20), (gl_atp (lt_of_bound c20)).symm, ⟨⟨rfl, trivial⟩, trivial⟩, (fun _ j hj => match j, hj with | 0, _ => ⟨rfl, rfl⟩)⟩), trivial⟩ ?_
    refine thenQ_normal ?_
    refine AW.regionA [] [0, 1, 5] [0] (s' := ⟨[(0, (.v (.one (.arr 0)))), (1, (.v (.one (.c (.int .i64 (IntKind.i64.wrap ((IntKind.i64.wrap ((IntKind.i64.wrap ((IntKind.i64.wrap ((IntKind.i64.wrap (x4 + (1 : Int))) + (1 : Int))) + (1 : Int))) + (1 : Int))) + (1 : Int)))))))), (5, (.v (.one (.c (.int .i64 x5)))))], [(0, (.arr true y21.length 5 (gl cs_Key y21)))]⟩) (ob := True ∧ True ∧ True ∧ True) (by kernel_rfl) ⟨trivial, trivial, trivial, trivial⟩ ?_
    refine blockQ_normal ?_
    refine thenQ_normal ?_
    refine AW.regionA [] [0, 1, 5] [0] (s' := ⟨[(0, (.v (.one (.arr 0)))), (1, (.v (.one (.c (.int .i64 (IntKind.i64.wrap ((IntKind.i64.wrap ((IntKind.i64.wrap ((IntKind.i64.wrap ((IntKind.i64.wrap (x4 + (1 : Int))) + (1 : Int))) + (1 : Int))) + (1 : Int))) + (1 : Int)))))))), (5, (.v (.one (.c (.int .i64 (IntKind.i64.wrap (x5 + (1 : Int))))))))], [(0, (.arr true y21.length 5 (gl cs_Key y21)))]⟩) (ob := True ∧ True ∧ True ∧ True) (by kernel_rfl) ⟨trivial, trivial, trivial, trivial⟩ ?_
    exact loopQ_normal (k, (IntKind.i64.wrap ((IntKind.i64.wrap ((IntKind.i64.wrap ((IntKind.i64.wrap ((IntKind.i64.wrap (x4 + (1 : Int))) + (1 : Int))) + (1 : Int))) + (1 : Int))) + (1 : Int))), (IntKind.i64.wrap (x5 + (1 : Int))), y21) h (Nat.lt_succ_self k) (Sub.keep [0, 1, 5] [0] (by kernel_rfl) (by kernel_rfl))
  · refine AW.cond_f rfl b7 ?_
    refine AW.exit ?_
    refine thenQ_exit ?_
    refine loopQ_exit ?_
    refine blockQ_exit ?_
    refine thenQ_normal ?_
    refine AW.seq ?_
    refine AW.regionA [] [0, 1, 4] [0] (s' := ⟨[(0, (.v (.one (.arr 0)))), (1, (.v (.one (.c (.int .i64 x4))))), (4, (.v (.one (.c (.int .i64 x4)))))], [(0, (.arr true x6.length 5 (gl cs_Key x6)))]⟩) (ob := True ∧ True ∧ True) (by kernel_rfl) ⟨trivial, trivial, trivial⟩ ?_
    refine thenQ_normal ?_
    refine AW.ret ?_
    obtain ⟨c23, h⟩ := chk_some h
    replace h := some_eq h
    subst h
    exact ⟨.inr rfl, retOK_of [(.one (.c (.int .i64 x4)))] (by kernel_rfl) ⟨⟨rfl, trivial⟩, trivial⟩ (of_decide_eq_true (by kernel_rfl)), by kernel_rfl, ⟨⟨c23, rfl, rfl⟩, trivial, trivial⟩⟩

/-! laws.markKeySS -/
def laws_markKeySS_l1 (K : Nat) (a0 : (List (List Key))) : Nat → Int → Int → (List (List Key)) → Option (Int × (List (List Key)))
  | 0, _, _, _ => none
  | k + 1, x4, x5, x6 => ite2 ((decide (x5 < (x6.length : Int)))) (chk (0 ≤ x5 ∧ x5 < (x6.length : Int)) ((laws_markKeyS K (x6.getD x5.toNat default) x4).bind fun v9 => laws_markKeySS_l1 K a0 k v9.1 (IntKind.i64.wrap (x5 + (1 : Int))) (x6.set x5.toNat v9.2))) (chk (x6.length = a0.length) (some (x4, x6)))

def laws_markKeySS (K : Nat) (a0 : (List (List Key))) (a1 : Int) : Option (Int × (List (List Key))) :=
  laws_markKeySS_l1 K a0 K a1 (0 : Int) a0

theorem ok_laws_markKeySS (K : Nat) (a0 : (List (List Key))) (a1 : Int) (o : (Int × (List (List Key)))) (h : laws_markKeySS K a0 a1 = some o) : MutOK Try.prog 70 [(.one (.mu (sl 1 (csL 5 cs_Key) a0) (sl 1 (csL 5 cs_Key) o.2))), (.one (.ro (.int .i64 a1)))] [.one (.int .i64 o.1)] := by
  refine mutOK_of_AW 1 Try.func70 rfl (by kernel_rfl) (Nat.le_of_ble_eq_true (by kernel_rfl)) (by kernel_rfl) (by kernel_rfl) ?_
  intro w0 K0 v0 s0
  unfold laws_markKeySS at h
  refine AW.seq ?_
  refine AW.regionA [] [0, 1] [0] (s' := ⟨[(0, (.v (.one (.arr 0)))), (1, (.v (.one (.c (.int .i64 a1)))))], [(0, (.arr true a0.length 1 (gl (csL 5 cs_Key) a0)))]⟩) (ob := True ∧ True) (by kernel_rfl) ⟨trivial, trivial⟩ ?_
  refine thenQ_normal ?_
  refine AW.seq ?_
  refine AW.seq ?_
  refine AW.regionA [] [0, 1, 5] [0] (s' := ⟨[(0, (.v (.one (.arr 0)))), (1, (.v (.one (.c (.int .i64 a1))))), (5, (.v (.one (.c (.int .i64 (0 : Int))))))], [(0, (.arr true a0.length 1 (gl (csL 5 cs_Key) a0)))]⟩) (ob := True ∧ True) (by kernel_rfl) ⟨trivial, trivial⟩ ?_
  refine thenQ_normal ?_
  refine AW.block ?_
  refine AW.loopQ (σ := Nat × Int × Int × (List (List Key))) (fun p => ⟨[(0, (.v (.one (.arr 0)))), (1, (.v (.one (.c (.int .i64 p.2.1))))), (5, (.v (.one (.c (.int .i64 p.2.2.1)))))], [(0, (.arr true p.2.2.2.length 1 (gl (csL 5 cs_Key) p.2.2.2)))]⟩) (fun p => laws_markKeySS_l1 K a0 p.1 p.2.1 p.2.2.1 p.2.2.2 = some o) (fun p => p.1) (K, a1, (0 : Int), a0) h ?_
  clear h
  rintro ⟨k, x4, x5, x6⟩ h
  replace h : laws_markKeySS_l1 K a0 k x4 x5 x6 = some o := h
  show AW _ _ (⟨[(0, (.v (.one (.arr 0)))), (1, (.v (.one (.c (.int .i64 x4))))), (5, (.v (.one (.c (.int .i64 x5)))))], [(0, (.arr true x6.length 1 (gl (csL 5 cs_Key) x6)))]⟩ : St) _
  obtain _ | k := k
  · rw [laws_markKeySS_l1] at h; cases h
  rw [laws_markKeySS_l1] at h
  refine AW.seq ?_
  refine AW.seq ?_
  refine AW.regionA [] [0, 1, 5, 9] [0] (s' := ⟨[(0, (.v (.one (.arr 0)))), (1, (.v (.one (.c (.int .i64 x4))))), (5, (.v (.one (.c (.int .i64 x5))))), (9, (.v (.one (.c (.bool (decide (x5 < (x6.length : Int))))))))], [(0, (.arr true x6.length 1 (gl (csL 5 cs_Key) x6)))]⟩) (ob := True ∧ True ∧ True ∧ True ∧ True) (by kernel_rfl) ⟨trivial, trivial, trivial, trivial, trivial⟩ ?_
  refine thenQ_normal ?_
  rcases ite2_cases h with ⟨b7, h⟩ | ⟨b7, h⟩
  · refine AW.cond_t rfl b7 ?_
    refine AW.skip ?_
    refine thenQ_normal ?_
    refine AW.seq ?_
    refine AW.block ?_
    obtain ⟨c8, h⟩ := chk_some h
    obtain ⟨v9, e10, h⟩ := bind_some h
    refine AW.regionA [.no, .no, .no, .no, .no, .callM [(.one (.mu (sl 5 cs_Key (x6.getD x5.toNat default)) (sl 5 cs_Key v9.2))), .one (.ro (.int .i64 x4))] [.one (.int .i64 v9.1)] [[.view]] (some ((x6.set x5.toNat v9.2).length, gl (csL 5 cs_Key) (x6.set x5.toNat v9.2)))] [0, 1, 5] [0] (s' := ⟨[(0, (.v (.one (.arr 0)))), (1, (.v (.one (.c (.int .i64 v9.1))))), (5, (.v (.one (.c (.int .i64 x5)))))], [(0, (.arr true (x6.set x5.toNat v9.2).length 1 (gl (csL 5 cs_Key) (x6.set x5.toNat v9.2))))]⟩) (ob := True ∧ True ∧ (0 ≤ x5 ∧ x5 < (x6.length : Int)) ∧ True ∧ True ∧ ((((x6.set x5.toNat v9.2).length = x6.length ∧ ((sl 5 cs_Key (x6.getD x5.toNat default)) : C) = gl (csL 5 cs_Key) x6 x5.toNat 0 ∧ gl (csL 5 cs_Key) (x6.set x5.toNat v9.2) x5.toNat 0 = ((sl 5 cs_Key v9.2) : C) ∧ isSeq (sl 5 cs_Key v9.2) = true ∧ SetOb x6.length 1 x5.toNat 0 1 (gl (csL 5 cs_Key) x6) (gl (csL 5 cs_Key) (x6.set x5.toNat v9.2))) ∧ (((.int .i64 x4) : C) = (.int .i64 x4)) ∧ True) ∧ MutOK Try.prog 144 [(.one (.mu (sl 5 cs_Key (x6.getD x5.toNat default)) (sl 5 cs_Key v9.2))), .one (.ro (.int .i64 x4))] [.one (.int .i64 v9.1)]) ∧ True ∧ True) (by kernel_rfl) ⟨trivial, trivial, c8, trivial, trivial, ⟨⟨⟨List.length_set, rfl, gl_cell (lt_of_bound c8) rfl, rfl, gl_setp (fun j hj hn => match j, hj, hn with | 0, _, hn => absurd ⟨by decide, by decide⟩ hn) (lt_of_bound c8)⟩, rfl, trivial⟩, ok_laws_markKeyS K (x6.getD x5.toNat default) x4 v9 e10⟩, trivial, trivial⟩ ?_
    refine blockQ_normal ?_
    refine thenQ_normal ?_
    refine AW.regionA [] [0, 1, 5] [0] (s' := ⟨[(0, (.v (.one (.arr 0)))), (1, (.v (.one (.c (.int .i64 v9.1))))), (5, (.v (.one (.c (.int .i64 (IntKind.i64.wrap (x5 + (1 : Int))))))))], [(0, (.arr true (x6.set x5.toNat v9.2).length 1 (gl (csL 5 cs_Key) (x6.set x5.toNat v9.2))))]⟩) (ob := True ∧ True ∧ True ∧ True) (by kernel_rfl) ⟨trivial, trivial, trivial, trivial⟩ ?_
    exact loopQ_normal (k, v9.1, (IntKind.i64.wrap (x5 + (1 : Int))), (x6.set x5.toNat v9.2)) h (Nat.lt_succ_self k) (Sub.keep [0, 1, 5] [0] (by kernel_rfl) (by kernel_rfl))
  · refine AW.cond_f rfl b7 ?_
    refine AW.exit ?_
    refine thenQ_exit ?_
    refine loopQ_exit ?_
    refine blockQ_exit ?_
    refine thenQ_normal ?_
    refine AW.seq ?_
    refine AW.regionA [] [0, 1, 4] [0] (s' := ⟨[(0, (.v (.one (.arr 0)))), (1, (.v (.one (.c (.int .i64 x4))))), (4, (.v (.one (.c (.int .i64 x4)))))], [(0, (.arr true x6.length 1 (gl (csL 5 cs_Key) x6)))]⟩) (ob := True ∧ True ∧ True) (by kernel_rfl) ⟨trivial, trivial, trivial⟩ ?_
    refine thenQ_normal ?_
    refine AW.ret ?_
    obtain ⟨c11, h⟩ := chk_some h
    replace h := some_eq h
    subst h
    exact ⟨.inr rfl, retOK_of [(.one (.c (.int .i64 x4)))] (by kernel_rfl) ⟨⟨rfl, trivial⟩, trivial⟩ (of_decide_eq_true (by kernel_rfl)), by kernel_rfl, ⟨⟨c11, rfl, rfl⟩, trivial, trivial⟩⟩

/-! laws.markRootKeyS -/
def laws_markRootKeyS_l1 (K : Nat) (a0 : (List RootKey)) : Nat → Int → Int → (List RootKey) → Option (Int × (List RootKey))
  | 0, _, _, _ => none
  | k + 1, x4, x5, x6 => ite2 ((decide (x5 < (x6.length : Int)))) (chk (0 ≤ x5 ∧ x5 < (x6.length : Int)) ((some (x6.set x5.toNat (RootKey.mk x4 ((x6.getD x5.toNat default).Place)))).bind fun y9 => chk (0 ≤ x5 ∧ x5 < (y9.length : Int)) ((some (y9.set x5.toNat (RootKey.mk ((y9.getD x5.toNat default).At) (Vector.mk (Fl.ofInt .f32 (IntKind.i64.wrap (x4 + (1 : Int)))) (((y9.getD x5.toNat default).Place).Y) (((y9.getD x5.toNat default).Place).Z))))).bind fun y12 => chk (0 ≤ x5 ∧ x5 < (y12.length : Int)) ((some (y12.set x5.toNat (RootKey.mk ((y12.getD x5.toNat default).At) (Vector.mk (((y12.getD x5.toNat default).Place).X) (Fl.ofInt .f32 (IntKind.i64.wrap ((IntKind.i64.wrap (x4 + (1 : Int))) + (1 : Int)))) (((y12.getD x5.toNat default).Place).Z))))).bind fun y15 => chk (0 ≤ x5 ∧ x5 < (y15.length : Int)) ((some (y15.set x5.toNat (RootKey.mk ((y15.getD x5.toNat default).At) (Vector.mk (((y15.getD x5.toNat default).Place).X) (((y15.getD x5.toNat default).Place).Y) (Fl.ofInt .f32 (IntKind.i64.wrap ((IntKind.i64.wrap ((IntKind.i64.wrap (x4 + (1 : Int))) + (1 : Int))) + (1 : Int)))))))).bind fun y18 => laws_markRootKeyS_l1 K a0 k (IntKind.i64.wrap ((IntKind.i64.wrap ((IntKind.i64.wrap ((IntKind.i64.wrap (x4 + (1 : Int))) + (1 : Int))) + (1 : Int))) + (1 : Int))) (IntKind.i64.wrap (x5 + (1 : Int))) y18))))) (chk (x6.length = a0.length) (some (x4, x6)))

def laws_markRootKeyS (K : Nat) (a0 : (List RootKey)) (a1 : Int) : Option (Int × (List RootKey)) :=
  laws_markRootKeyS_l1 K a0 K a1 (0 : Int) a0

theorem ok_laws_markRootKeyS (K : Nat) (a0 : (List RootKey)) (a1 : Int) (o : (Int × (List RootKey))) (h : laws_markRootKeyS K a0 a1 = some o) : MutOK Try.prog 71 [(.one (.mu (sl 4 cs_RootKey a0) (sl 4 cs_RootKey o.2))), (.one (.ro (.int .i64 a1)))] [.one (.int .i64 o.1)] := by
  refine mutOK_of_AW 1 Try.func71 rfl (by kernel_rfl) (Nat.le_of_ble_eq_true (by kernel_rfl)) (by kernel_rfl) (by kernel_rfl) ?_
  intro w0 K0 v0 s0
  unfold laws_markRootKeyS at h
  refine AW.seq ?_
  refine AW.regionA [] [0, 1] [0] (s' := ⟨[(0, (.v (.one (.arr 0)))), (1, (.v (.one (.c (.int .i64 a1)))))], [(0, (.arr true a0.length 4 (gl cs_RootKey a0)))]⟩) (ob := True ∧ True) (by kernel_rfl) ⟨trivial, trivial⟩ ?_
  refine thenQ_normal ?_
  refine AW.seq ?_
  refine AW.seq ?_
  refine AW.regionA [] [0, 1, 5] [0] (s' := ⟨[(0, (.v (.one (.arr 0)))), (1, (.v (.one (.c (.int .i64 a1))))), (5, (.v (.one (.c (.int .i64 (0 : Int))))))], [(0, (.arr true a0.length 4 (gl cs_RootKey a0)))]⟩) (ob := True ∧ True) (by kernel_rfl) ⟨trivial, trivial⟩ ?_
  refine thenQ_normal ?_
  refine AW.block ?_
  refine AW.loopQ (σ := Nat × Int × Int × (List RootKey)) (fun p => ⟨[(0, (.v (.one (.arr 0)))), (1, (.v (.one (.c (.int .i64 p.2.1))))), (5, (.v (.one (.c (.int .i64 p.2.2.1)))))], [(0, (.arr true p.2.2.2.length 4 (gl cs_RootKey p.2.2.2)))]⟩) (fun p => laws_markRootKeyS_l1 K a0 p.1 p.2.1 p.2.2.1 p.2.2.2 = some o) (fun p => p.1) (K, a1, (0 : Int), a0) h ?_
  clear h
  rintro ⟨k, x4, x5, x6⟩ h
  replace h : laws_markRootKeyS_l1 K a0 k x4 x5 x6 = some o := h
  show AW _ _ (⟨[(0, (.v (.one (.arr 0)))), (1, (.v (.one (.c (.int .i64 x4))))), (5, (.v (.one (.c (.int .i64 x5)))))], [(0, (.arr true x6.length 4 (gl cs_RootKey x6)))]⟩ : St) _
  obtain _ | k := k
  · rw [laws_markRootKeyS_l1] at h; cases h
  rw [laws_markRootKeyS_l1] at h
  refine AW.seq ?_
  refine AW.seq ?_
  refine AW.regionA [] [0, 1, 5, 9] [0] (s' := ⟨[(0, (.v (.one (.arr 0)))), (1, (.v (.one (.c (.int .i64 x4))))), (5, (.v (.one (.c (.int .i64 x5))))), (9, (.v (.one (.c (.bool (decide (x5 < (x6.length : Int))))))))], [(0, (.arr true x6.length 4 (gl cs_RootKey x6)))]⟩) (ob := True ∧ True ∧ True ∧ True ∧ True) (by kernel_rfl) ⟨trivial, trivial, trivial, trivial, trivial⟩ ?_
  refine thenQ_normal ?_
  rcases ite2_cases h with ⟨b7, h⟩ | ⟨b7, h⟩
  · refine AW.cond_t rfl b7 ?_
    refine AW.skip ?_
    refine thenQ_normal ?_
    refine AW.seq ?_
    refine AW.block ?_
    refine AW.seq ?_
    obtain ⟨c8, h⟩ := chk_some h
    obtain ⟨y9, e10, h⟩ := bind_some h
    refine AW.regionA [.no, .no, .no, .no, .no, .set y9.length (gl cs_RootKey y9) ((List.range 1).map fun j => (cs_RootKey (RootKey.mk x4 ((x6.getD x5.toNat default).Place))).getD (0 + j) .nilptr)] [0, 1, 5] [0] (s' := ⟨[(0, (.v (.one (.arr 0)))), (1, (.v (.one (.c (.int .i64 x4))))), (5, (.v (.one (.c (.int .i64 x5)))))], [(0, (.arr true y9.length 4 (gl cs_RootKey y9)))]⟩) (ob := True ∧ True ∧ True ∧ (0 ≤ x5 ∧ x5 < (x6.length : Int)) ∧ True ∧ (y9.length = x6.length ∧ SetOb x6.length 4 x5.toNat 0 1 (gl cs_RootKey x6) (gl cs_RootKey y9) ∧ ((List.range 1).map fun j => (cs_RootKey (RootKey.mk x4 ((x6.getD x5.toNat default).Place))).getD (0 + j) .nilptr) = ((List.range 1).map fun j => gl cs_RootKey y9 x5.toNat (0 + j)) ∧ ((((.int .i64 x4) : C) = (.int .i64 x4) ∧ True) ∧ True) ∧ (true = true → ∀ j, j < 1 → isSeq (gl cs_RootKey x6 x5.toNat (0 + j)) = false ∧ isSeq (gl cs_RootKey y9 x5.toNat (0 + j)) = false)) ∧ True) (by kernel_rfl) ⟨trivial, trivial, trivial, c8, trivial, (letP (some_eq e10) (fun z => (z.length = x6.length ∧ SetOb x6.length 4 x5.toNat 0 1 (gl cs_RootKey x6) (gl cs_RootKey z) ∧ ((List.range 1).map fun j => (cs_RootKey (RootKey.mk x4 ((x6.getD x5.toNat default).Place))).getD (0 + j) .nilptr) = ((List.range 1).map fun j => gl cs_RootKey z x5.toNat (0 + j)) ∧ ((((.int .i64 x4) : C) = (.int .i64 x4) ∧ True) ∧ True) ∧ (true = true → ∀ j, j < 1 → isSeq (gl cs_RootKey x6 x5.toNat (0 + j)) = false ∧ isSeq (gl cs_RootKey z x5.toNat (0 + j)) = false))) ⟨List.length_set, gl_setp (fun j hj hn => match j, hj, hn with | 0, _, hn => absurd ⟨by decide, by decide⟩ hn | 1, _, _ => rfl | 2, _, _ => rfl | 3, _, _ => rfl) (lt_of_bound c8), (gl_atp (lt_of_bound c8)).symm, ⟨⟨rfl, trivial⟩, trivial⟩, (fun _ j hj => match j, hj with | 0, _ => ⟨rfl, rfl⟩)⟩), trivial⟩ ?_
    refine thenQ_normal ?_
    refine AW.seq ?_
    refine AW.regionA [] [0, 1, 5] [0] (s' := ⟨[(0, (.v (.one (.arr 0)))), (1, (.v (.one (.c (.int .i64 (IntKind.i64.wrap (x4 + (1 : Int)))))))), (5, (.v (.one (.c (.int .i64 x5)))))], [(0, (.arr true y9.length 4 (gl cs_RootKey y9)))]⟩) (ob := True ∧ True ∧ True ∧ True) (by kernel_rfl) ⟨trivial, trivial, trivial, trivial⟩ ?_
    refine thenQ_normal ?_
    refine AW.seq ?_
    obtain ⟨c11, h⟩ := chk_some h
    obtain ⟨y12, e13, h⟩ := bind_some h
    refine AW.regionA [.no, .no, .no, .no, .no, .no, .no, .set y12.length (gl cs_RootKey y12) ((List.range 1).map fun j => (cs_RootKey (RootKey.mk ((y9.getD x5.toNat default).At) (Vector.mk (Fl.ofInt .f32 (IntKind.i64.wrap (x4 + (1 : Int)))) (((y9.getD x5.toNat default).Place).Y) (((y9.getD x5.toNat default).Place).Z)))).getD (1 + j) .nilptr)] [0, 1, 5] [0] (s' := ⟨[(0, (.v (.one (.arr 0)))), (1, (.v (.one (.c (.int .i64 (IntKind.i64.wrap (x4 + (1 : Int)))))))), (5, (.v (.one (.c (.int .i64 x5)))))], [(0, (.arr true y12.length 4 (gl cs_RootKey y12)))]⟩) (ob := True ∧ True ∧ True ∧ True ∧ (0 ≤ x5 ∧ x5 < (y9.length : Int)) ∧ True ∧ True ∧ (y12.length = y9.length ∧ SetOb y9.length 4 x5.toNat 1 1 (gl cs_RootKey y9) (gl cs_RootKey y12) ∧ ((List.range 1).map fun j => (cs_RootKey (RootKey.mk ((y9.getD x5.toNat default).At) (Vector.mk (Fl.ofInt .f32 (IntKind.i64.wrap (x4 + (1 : Int)))) (((y9.getD x5.toNat default).Place).Y) (((y9.getD x5.toNat default).Place).Z)))).getD (1 + j) .nilptr) = ((List.range 1).map fun j => gl cs_RootKey y12 x5.toNat (1 + j)) ∧ ((((.flt .f32 (Fl.ofInt .f32 (IntKind.i64.wrap (x4 + (1 : Int)))).bits) : C) = (.flt .f32 (Fl.ofInt .f32 (IntKind.i64.wrap (x4 + (1 : Int)))).bits) ∧ True) ∧ True) ∧ (true = true → ∀ j, j < 1 → isSeq (gl cs_RootKey y9 x5.toNat (1 + j)) = false ∧ isSeq (gl cs_RootKey y12 x5.toNat (1 + j)) = false)) ∧ True) (by kernel_rfl) ⟨trivial, trivial, trivial, trivial, c11, trivial, trivial, (letP (some_eq e13) (fun z => (z.length = y9.length ∧ SetOb y9.length 4 x5.toNat 1 1 (gl cs_RootKey y9) (gl cs_RootKey z) ∧ ((List.range 1).map fun j => (cs_RootKey (RootKey.mk ((y9.getD x5.toNat default).At) (Vector.mk (Fl.ofInt .f32 (IntKind.i64.wrap (x4 + (1 : Int)))) (((y9.getD x5.toNat default).Place).Y) (((y9.getD x5.toNat default).Place).Z)))).getD (1 + j) .nilptr) = ((List.range 1).map fun j => gl cs_RootKey z x5.toNat (1 + j)) ∧ ((((.flt .f32 (Fl.ofInt .f32 (IntKind.i64.wrap (x4 + (1 : Int)))).bits) : C) = (.flt .f32 (Fl.ofInt .f32 (IntKind.i64.wrap (x4 + (1 : Int)))).bits) ∧ True) ∧ True) ∧ (true = true → ∀ j, j < 1 → isSeq (gl cs_RootKey y9 x5.toNat (1 + j)) = false ∧ isSeq (gl cs_RootKey z x5.toNat (1 + j)) = false))) ⟨List.length_set, gl_setp (fun j hj hn => match j, hj, hn with | 0, _, _ => rfl | 1, _, hn => absurd ⟨by decide, by decide⟩ hn | 2, _, _ => rfl | 3, _, _ => rfl) (lt_of_bound c11), (gl_atp (lt_of_bound c11)).symm, ⟨⟨rfl, trivial⟩, trivial⟩, (fun _ j hj => match j, hj with | 0, _ => ⟨rfl, rfl⟩)⟩), trivial⟩ ?_
    refine thenQ_normal ?_
    refine AW.seq ?_
    refine AW.regionA [] [0, 1, 5] [0] (s' := ⟨[(0, (.v (.one (.arr 0)))), (1, (.v (.one (.c (.int .i64 (IntKind.i64.wrap ((IntKind.i64.wrap (x4 + (1 : Int))) + (1 : Int)))))))), (5, (.v (.one (.c (.int .i64 x5)))))], [(0, (.arr true y12.length 4 (gl cs_RootKey y12)))]⟩) (ob := True ∧ True ∧ True ∧ True) (by kernel_rfl) ⟨trivial, trivial, trivial, trivial⟩ ?_
    refine thenQ_normal ?_
    refine AW.seq ?_
    obtain ⟨c14, h⟩ := chk_some h
    obtain ⟨y15, e16, h⟩ := bind_some h
    refine AW.regionA [.no, .no, .no, .no, .no, .no, .no, .set y15.length (gl cs_RootKey y15) ((List.range 1).map fun j => (cs_RootKey (RootKey.mk ((y12.getD x5.toNat default).At) (Vector.mk (((y12.getD x5.toNat default).Place).X) (Fl.ofInt .f32 (IntKind.i64.wrap ((IntKind.i64.wrap (x4 + (1 : Int))) + (1 : Int)))) (((y12.getD x5.toNat default).Place).Z)))).getD (2 + j) .nilptr)] [0, 1, 5] [0] (s' := ⟨[(0, (.v (.one (.arr 0)))), (1, (.v (.one (.c (.int .i64 (IntKind.i64.wrap ((IntKind.i64.wrap (x4 + (1 : Int))) + (1 : Int)))))))), (5, (.v (.one (.c (.int .i64 x5)))))], [(0, (.arr true y15.length 4 (gl cs_RootKey y15)))]⟩) (ob := True ∧ True ∧ True ∧ True ∧ (0 ≤ x5 ∧ x5 < (y12.length : Int)) ∧ True ∧ True ∧ (y15.length = y12.length ∧ SetOb y12.length 4 x5.toNat 2 1 (gl cs_RootKey y12) (gl cs_RootKey y15) ∧ ((List.range 1).map fun j => (cs_RootKey (RootKey.mk ((y12.getD x5.toNat default).At) (Vector.mk (((y12.getD x5.toNat default).Place).X) (Fl.ofInt .f32 (IntKind.i64.wrap ((IntKind.i64.wrap (x4 + (1 : Int))) + (1 : Int)))) (((y12.getD x5.toNat default).Place).Z)))).getD (2 + j) .nilptr) = ((List.range 1).map fun j => gl cs_RootKey y15 x5.toNat (2 + j)) ∧ ((((.flt .f32 (Fl.ofInt .f32 (IntKind.i64.wrap ((IntKind.i64.wrap (x4 + (1 : Int))) + (1 : Int)))).bits) : C) = (.flt .f32 (Fl.ofInt .f32 (IntKind.i64.wrap ((IntKind.i64.wrap (x4 + (1 : Int))) + (1 : Int)))).bits) ∧ True) ∧ True) ∧ (true = true → ∀ j, j < 1 → isSeq (gl cs_RootKey y12 x5.toNat (2 + j)) = false ∧ isSeq (gl cs_RootKey y15 x5.toNat (2 + j)) = false)) ∧ True) (by kernel_rfl) ⟨trivial, trivial, trivial, trivial, c14, trivial, trivial, (letP (some_eq e16) (fun z => (z.length = y12.length ∧ SetOb y12.length 4 x5.toNat 2 1 (gl cs_RootKey y12) (gl cs_RootKey z) ∧ ((List.range 1).map fun j => (cs_RootKey (RootKey.mk ((y12.getD x5.toNat default).At) (Vector.mk (((y12.getD x5.toNat default).Place).X) (Fl.ofInt .f32 (IntKind.i64.wrap ((IntKind.i64.wrap (x4 + (1 : Int))) + (1 : Int)))) (((y12.getD x5.toNat default).Place).Z)))).getD (2 + j) .nilptr) = ((List.range 1).map fun j => gl cs_RootKey z x5.toNat (2 + j)) ∧ ((((.flt .f32 (Fl.ofInt .f32 (IntKind.i64.wrap ((IntKind.i64.wrap (x4 + (1 : Int))) + (1 : Int)))).bits) : C) = (.flt .f32 (Fl.ofInt .f32 (IntKind.i64.wrap ((IntKind.i64.wrap (x4 + (1 : Int))) + (1 : Int)))).bits) ∧ True) ∧ True) ∧ (true = true → ∀ j, j < 1 → isSeq (gl cs_RootKey y12 x5.toNat (2 + j)) = false ∧ isSeq (gl cs_RootKey z x5.toNat (2 + j)) = false))) ⟨List.length_set, gl_setp (fun j hj hn => match j, hj, hn with | 0, _, _ => rfl | 1, _, _ => rfl | 2, _, hn => absurd ⟨by decide, by decide⟩ hn | 3, _, _ => rfl) (lt_of_bound c14), (gl_atp (lt_of_bound c14)).symm, ⟨⟨rfl, trivial⟩, trivial⟩, (fun _ j hj => match j, hj with | 0, _ => ⟨rfl, rfl⟩)⟩), trivial⟩ ?_
    refine thenQ_normal ?_
    refine AW.seq ?_
    refine AW.regionA [] [0, 1, 5] [0] (s' := ⟨[(0, (.v (.one (.arr 0)))), (1, (.v (.one (.c (.int .i64 (IntKind.i64.wrap ((IntKind.i64.wrap ((IntKind.i64.wrap (x4 + (1 : Int))) + (1 : Int))) + (1 : Int)))))))), (5, (.v (.one (.c (.int .i64 x5)))))], [(0, (.arr true y15.length 4 (gl cs_RootKey y15)))]⟩) (ob := True ∧ True ∧ True ∧ True) (by kernel_rfl) ⟨trivial, trivial, trivial, trivial⟩ ?_
    refine thenQ_normal ?_
    refine AW.seq ?_
    obtain ⟨c17, h⟩ := chk_some h
    obtain ⟨y18, e19, h⟩ := bind_some h
    refine AW.regionA [.no, .no, .no, .no, .no, .no, .no, .set y18.length (gl cs_RootKey y18) ((List.range 1).map fun j => (cs_RootKey (RootKey.mk ((y15.getD x5.toNat default).At) (Vector.mk (((y15.getD x5.toNat default).Place).X) (((y15.getD x5.toNat default).Place).Y) (Fl.ofInt .f32 (IntKind.i64.wrap ((IntKind.i64.wrap ((IntKind.i64.wrap (x4 + (1 : Int))) + (1 : Int))) + (1 : Int))))))).getD (3 + j) .nilptr)] [0, 1, 5] [0] (s' := ⟨[(0, (.v (.one (.arr 0)))), (1, (.v (.one (.c (.int .i64 (IntKind.i64.wrap ((IntKind.i64.wrap ((IntKind.i64.wrap (x4 + (1 : Int))) + (1 : Int))) + (1 : Int)))))))), (5, (.v (.one (.c (.int .i64 x5)))))], [(0, (.arr true y18.length 4 (gl cs_RootKey y18)))]⟩) (ob := True ∧ True ∧ True ∧ True ∧ (0 ≤ x5 ∧ x5 < (y15.length : Int)) ∧ True ∧ True ∧ (y18.length = y15.length ∧ SetOb y15.length 4 x5.toNat 3 1 (gl cs_RootKey y15) (gl cs_RootKey y18) ∧ ((List.range 1).map fun j => (cs_RootKey (RootKey.mk ((y15.getD x5.toNat default).At) (Vector.mk (((y15.getD x5.toNat default).Place).X) (((y15.getD x5.toNat default).Place).Y) (Fl.ofInt .f32 (IntKind.i64.wrap ((IntKind.i64.wrap ((IntKind.i64.wrap (x4 + (1 : Int))) + (1 : Int))) + (1 : Int))))))).getD (3 + j) .nilptr) = ((List.range 1).map fun j => gl cs_RootKey y18 x5.toNat (3 + j)) ∧ ((((.flt .f32 (Fl.ofInt .f32 (IntKind.i64.wrap ((IntKind.i64.wrap ((IntKind.i64.wrap (x4 + (1 : Int))) + (1 : Int))) + (1 : Int)))).bits) : C) = (.flt .f32 (Fl.ofInt .f32 (IntKind.i64.wrap ((IntKind.i64.wrap ((IntKind.i64.wrap (x4 + (1 : Int))) + (1 : Int))) + (1 : Int)))).bits) ∧ True) ∧ True) ∧ (true = true → ∀ j, j < 1 → isSeq (gl cs_RootKey y15 x5.toNat (3 + j)) = false ∧ isSeq (gl cs_RootKey y18 x5.toNat (3 + j)) = false)) ∧ True) (by kernel_rfl) ⟨trivial, trivial, trivial, trivial, c17, trivial, trivial, (letP (some_eq e19) (fun z => (z.length = y15.length ∧ SetOb y15.length 4 x5.toNat 3 1 (gl cs_RootKey y15) (gl cs_RootKey z) ∧ ((List.range 1).map fun j => (cs_RootKey (RootKey.mk ((y15.getD x5.toNat default).At) (Vector.mk (((y15.getD x5.toNat default).Place).X) (((y15.getD x5.toNat default).Place).Y) (Fl.ofInt .f32 (IntKind.i64.wrap ((IntKind.i64.wrap ((IntKind.i64.wrap (x4 + (1 : Int))) + (1 : Int))) + (1 : Int))))))).getD (3 + j) .nilptr) = ((List.range 1).map fun j => gl cs_RootKey z x5.toNat (3 + j)) ∧ ((((.flt .f32 (Fl.ofInt .f32 (IntKind.i64.wrap ((IntKind.i64.wrap ((IntKind.i64.wrap (x4 + (1 : Int))) + (1 : Int))) + (1 : Int)))).bits) : C) = (.flt .f32 (Fl.ofInt .f32 (IntKind.i64.wrap ((IntKind.i64.wrap ((IntKind.i64.wrap (x4 + (1 : Int))) + (1 : Int))) + (1 : Int)))).bits) ∧ True) ∧ True) ∧ (true = true → ∀ j, j < 1 → isSeq (gl cs_RootKey y15 x5.toNat (3 + j)) = false ∧ isSeq (gl cs_RootKey z x5.toNat (3 + j)) = false))) ⟨List.length_set, gl_setp (fun j hj hn => match j, hj, hn with | 0, _, _ => rfl | 1, _, _ => rfl | 2, _, _ => rfl | 3, _, hn => absurd ⟨by decide, by decide⟩ hn) (lt_of_bound c17), (gl_atp (lt_of_bound c17)).symm, ⟨⟨rfl, trivial⟩, trivial⟩, (fun _ j hj => match j, hj with | 0, _ => ⟨rfl, rfl⟩)⟩), trivial⟩ ?_
    refine thenQ_normal ?_
    refine AW.regionA [] [0, 1, 5] [0] (s' := ⟨[(0, (.v (.one (.arr 0)))), (1, (.v (.one (.c (.int .i64 (IntKind.i64.wrap ((IntKind.i64.wrap ((IntKind.i64.wrap ((IntKind.i64.wrap (x4 + (1 : Int))) + (1 : Int))) + (1 : Int))) + (1 : Int)))))))), (5, (.v (.one (.c (.int .i64 x5)))))], [(0, (.arr true y18.length 4 (gl cs_RootKey y18)))]⟩) (ob := True ∧ True ∧ True ∧ True) (by kernel_rfl) ⟨trivial, trivial, trivial, trivial⟩ ?_
    refine blockQ_normal ?_
    refine thenQ_normal ?_
    refine AW.regionA [] [0, 1, 5] [0] (s' := ⟨[(0, (.v (.one (.arr 0)))), (1, (.v (.one (.c (.int .i64 (IntKind.i64.wrap ((IntKind.i64.wrap ((IntKind.i64.wrap ((IntKind.i64.wrap (x4 + (1 : Int))) + (1 : Int))) + (1 : Int))) + (1 : Int)))))))), (5, (.v (.one (.c (.int .i64 (IntKind.i64.wrap (x5 + (1 : Int))))))))], [(0, (.arr true y18.length 4 (gl cs_RootKey y18)))]⟩) (ob := True ∧ True ∧ True ∧ True) (by kernel_rfl) ⟨trivial, trivial, trivial, trivial⟩ ?_
    exact loopQ_normal (k, (IntKind.i64.wrap ((IntKind.i64.wrap ((IntKind.i64.wrap ((IntKind.i64.wrap (x4 + (1 : Int))) + (1 : Int))) + (1 : Int))) + (1 : Int))), (IntKind.i64.wrap (x5 + (1 : Int))), y18) h (Nat.lt_succ_self k) (Sub.keep [0, 1, 5] [0] (by kernel_rfl) (by kernel_rfl))
  · refine AW.cond_f rfl b7 ?_
    refine AW.exit ?_
    refine thenQ_exit ?_
    refine loopQ_exit ?_
    refine blockQ_exit ?_
    refine thenQ_normal ?_
    refine AW.seq ?_
    refine AW.regionA [] [0, 1, 4] [0] (s' := ⟨[(0, (.v (.one (.arr 0)))), (1, (.v (.one (.c (.int .i64 x4))))), (4, (.v (.one (.c (.int .i64 x4)))))], [(0, (.arr true x6.length 4 (gl cs_RootKey x6)))]⟩) (ob := True ∧ True ∧ True) (by kernel_rfl) ⟨trivial, trivial, trivial⟩ ?_
    refine thenQ_normal ?_
    refine AW.ret ?_
    obtain ⟨c20, h⟩ := chk_some h
    replace h := some_eq h
    subst h
    exact ⟨.inr rfl, retOK_of [(.one (.c (.int .i64 x4)))] (by kernel_rfl) ⟨⟨rfl, trivial⟩, trivial⟩ (of_decide_eq_true (by kernel_rfl)), by kernel_rfl, ⟨⟨c20, rfl, rfl⟩, trivial, trivial⟩⟩

/-! laws.markClip -/
def laws_markClip (K : Nat) (a0 : Clip) (a1 : Int) : Option (Int × (List (List Key)) × (List RootKey)) :=
  (laws_markKeySS K a0.Tracks a1).bind fun v1 => chk (v1.2.length = a0.Tracks.length) ((laws_markRootKeyS K a0.Roots v1.1).bind fun v4 => chk (v4.2.length = a0.Roots.length) (chk (v1.2.length = a0.Tracks.length) (chk (v4.2.length = a0.Roots.length) (some (v4.1, v1.2, v4.2)))))

theorem ok_laws_markClip (K : Nat) (a0 : Clip) (a1 : Int) (o : (Int × (List (List Key)) × (List RootKey))) (h : laws_markClip K a0 a1 = some o) : MutOK Try.prog 16 [(.agg [(.ro (.int .i64 a0.Length)), (.ro (.int .i64 a0.Kind)), (.mu (sl 1 (csL 5 cs_Key) a0.Tracks) (sl 1 (csL 5 cs_Key) o.2.1)), (.mu (sl 4 cs_RootKey a0.Roots) (sl 4 cs_RootKey o.2.2))]), (.one (.ro (.int .i64 a1)))] [.one (.int .i64 o.1)] := by
  refine mutOK_of_AW 2 Try.func16 rfl (by kernel_rfl) (Nat.le_of_ble_eq_true (by kernel_rfl)) (by kernel_rfl) (by kernel_rfl) ?_
  intro w0 K0 v0 s0
  unfold laws_markClip at h
  refine AW.seq ?_
  refine AW.regionA [.box 2] [0, 1, 2] [0, 1, 2] (s' := ⟨[(0, (.v (.agg [(.c (.int .i64 a0.Length)), (.c (.int .i64 a0.Kind)), (.arr 0), (.arr 1)]))), (1, (.v (.one (.c (.int .i64 a1))))), (2, (.v (.one (.ptr 2 0))))], [(0, (.arr true a0.Tracks.length 1 (gl (csL 5 cs_Key) a0.Tracks))), (1, (.arr true a0.Roots.length 4 (gl cs_RootKey a0.Roots))), (2, (.box [(.c (.int .i64 a0.Length)), (.c (.int .i64 a0.Kind)), (.arr 0), (.arr 1)]))]⟩) (ob := True ∧ True ∧ True) (by kernel_rfl) ⟨trivial, trivial, trivial⟩ ?_
  refine thenQ_normal ?_
  refine AW.seq ?_
  obtain ⟨v1, e2, h⟩ := bind_some h
  obtain ⟨c3, h⟩ := chk_some h
  refine AW.regionA [.no, .no, .no, .callM [(.one (.mu (sl 1 (csL 5 cs_Key) a0.Tracks) (sl 1 (csL 5 cs_Key) v1.2))), .one (.ro (.int .i64 a1))] [.one (.int .i64 v1.1)] [[.view]] none] [0, 1, 2] [0, 1, 2] (s' := ⟨[(0, (.v (.agg [(.c (.int .i64 a0.Length)), (.c (.int .i64 a0.Kind)), (.arr 0), (.arr 1)]))), (1, (.v (.one (.c (.int .i64 v1.1))))), (2, (.v (.one (.ptr 2 0))))], [(0, (.arr true v1.2.length 1 (gl (csL 5 cs_Key) v1.2))), (1, (.arr true a0.Roots.length 4 (gl cs_RootKey a0.Roots))), (2, (.box [(.c (.int .i64 a0.Length)), (.c (.int .i64 a0.Kind)), (.arr 0), (.arr 1)]))]⟩) (ob := True ∧ True ∧ True ∧ (((((sl 1 (csL 5 cs_Key) a0.Tracks) : C) = (sl 1 (csL 5 cs_Key) a0.Tracks) ∧ v1.2.length = a0.Tracks.length ∧ 1 = 1 ∧ ∀ i j, i < a0.Tracks.length → j < 1 → isSeq (gl (csL 5 cs_Key) v1.2 i j) = isSeq (gl (csL 5 cs_Key) a0.Tracks i j)) ∧ (((.int .i64 a1) : C) = (.int .i64 a1)) ∧ True) ∧ MutOK Try.prog 70 [(.one (.mu (sl 1 (csL 5 cs_Key) a0.Tracks) (sl 1 (csL 5 cs_Key) v1.2))), .one (.ro (.int .i64 a1))] [.one (.int .i64 v1.1)]) ∧ True ∧ True) (by kernel_rfl) ⟨trivial, trivial, trivial, ⟨⟨⟨rfl, c3, rfl, gl_seq (sq_slice)⟩, rfl, trivial⟩, ok_laws_markKeySS K a0.Tracks a1 v1 e2⟩, trivial, trivial⟩ ?_
  refine thenQ_normal ?_
  refine AW.seq ?_
  obtain ⟨v4, e5, h⟩ := bind_some h
  obtain ⟨c6, h⟩ := chk_some h
  refine AW.regionA [.no, .no, .no, .callM [(.one (.mu (sl 4 cs_RootKey a0.Roots) (sl 4 cs_RootKey v4.2))), .one (.ro (.int .i64 v1.1))] [.one (.int .i64 v4.1)] [[.view]] none] [0, 1] [0, 1] (s' := ⟨[(0, (.v (.agg [(.c (.int .i64 a0.Length)), (.c (.int .i64 a0.Kind)), (.arr 0), (.arr 1)]))), (1, (.v (.one (.c (.int .i64 v4.1)))))], [(0, (.arr true v1.2.length 1 (gl (csL 5 cs_Key) v1.2))), (1, (.arr true v4.2.length 4 (gl cs_RootKey v4.2)))]⟩) (ob := True ∧ True ∧ True ∧ (((((sl 4 cs_RootKey a0.Roots) : C) = (sl 4 cs_RootKey a0.Roots) ∧ v4.2.length = a0.Roots.length ∧ 4 = 4 ∧ ∀ i j, i < a0.Roots.length → j < 4 → isSeq (gl cs_RootKey v4.2 i j) = isSeq (gl cs_RootKey a0.Roots i j)) ∧ (((.int .i64 v1.1) : C) = (.int .i64 v1.1)) ∧ True) ∧ MutOK Try.prog 71 [(.one (.mu (sl 4 cs_RootKey a0.Roots) (sl 4 cs_RootKey v4.2))), .one (.ro (.int .i64 v1.1))] [.one (.int .i64 v4.1)]) ∧ True ∧ True) (by kernel_rfl) ⟨trivial, trivial, trivial, ⟨⟨⟨rfl, c6, rfl, gl_seq sq_RootKey⟩, rfl, trivial⟩, ok_laws_markRootKeyS K a0.Roots v1.1 v4 e5⟩, trivial, trivial⟩ ?_
  refine thenQ_normal ?_
  refine AW.seq ?_
  refine AW.regionA [] [0, 1, 4] [0, 1] (s' := ⟨[(0, (.v (.agg [(.c (.int .i64 a0.Length)), (.c (.int .i64 a0.Kind)), (.arr 0), (.arr 1)]))), (1, (.v (.one (.c (.int .i64 v4.1))))), (4, (.v (.one (.c (.int .i64 v4.1)))))], [(0, (.arr true v1.2.length 1 (gl (csL 5 cs_Key) v1.2))), (1, (.arr true v4.2.length 4 (gl cs_RootKey v4.2)))]⟩) (ob := True ∧ True ∧ True) (by kernel_rfl) ⟨trivial, trivial, trivial⟩ ?_
  refine thenQ_normal ?_
  refine AW.ret ?_
  obtain ⟨c7, h⟩ := chk_some h
  obtain ⟨c8, h⟩ := chk_some h
  replace h := some_eq h
  subst h
  exact ⟨.inr rfl, retOK_of [(.one (.c (.int .i64 v4.1)))] (by kernel_rfl) ⟨⟨rfl, trivial⟩, trivial⟩ (of_decide_eq_true (by kernel_rfl)), by kernel_rfl, ⟨⟨trivial, trivial, ⟨c7, rfl, rfl⟩, ⟨c8, rfl, rfl⟩, trivial⟩, trivial, trivial⟩⟩

/-! laws.heldKeyS -/
def laws_heldKeyS_l1 (K : Nat) (a0 : (List Key)) : Nat → Int → Int → Option (Int)
  | 0, _, _ => none
  | k + 1, x3, x4 => ite2 ((decide (x4 < (a0.length : Int)))) (chk (0 ≤ x4 ∧ x4 < (a0.length : Int)) (ite2 ((((a0.getD x4.toNat default).At) != x3)) (some ((-1) : Int)) (ite2 (((((a0.getD x4.toNat default).Turn).W).ne (Fl.ofInt .f32 (IntKind.i64.wrap (x3 + (1 : Int)))))) (some ((-1) : Int)) (ite2 (((((a0.getD x4.toNat default).Turn).X).ne (Fl.ofInt .f32 (IntKind.i64.wrap ((IntKind.i64.wrap (x3 + (1 : Int))) + (1 : Int)))))) (some ((-1) : Int)) (ite2 (((((a0.getD x4.toNat default).Turn).Y).ne (Fl.ofInt .f32 (IntKind.i64.wrap ((IntKind.i64.wrap ((IntKind.i64.wrap (x3 + (1 : Int))) + (1 : Int))) + (1 : Int)))))) (some ((-1) : Int)) (ite2 (((((a0.getD x4.toNat default).Turn).Z).ne (Fl.ofInt .f32 (IntKind.i64.wrap ((IntKind.i64.wrap ((IntKind.i64.wrap ((IntKind.i64.wrap (x3 + (1 : Int))) + (1 : Int))) + (1 : Int))) + (1 : Int)))))) (some ((-1) : Int)) (laws_heldKeyS_l1 K a0 k (IntKind.i64.wrap ((IntKind.i64.wrap ((IntKind.i64.wrap ((IntKind.i64.wrap ((IntKind.i64.wrap (x3 + (1 : Int))) + (1 : Int))) + (1 : Int))) + (1 : Int))) + (1 : Int))) (IntKind.i64.wrap (x4 + (1 : Int)))))))))) (some x3)

def laws_heldKeyS (K : Nat) (a0 : (List Key)) (a1 : Int) : Option (Int) :=
  laws_heldKeyS_l1 K a0 K a1 (0 : Int)

theorem ok_laws_heldKeyS (K : Nat) (a0 : (List Key)) (a1 : Int) (o : (Int)) (h : laws_heldKeyS K a0 a1 = some o) : CallOK Try.prog 145 [.one (sl 5 cs_Key a0), .one (.int .i64 a1)] [.one (.int .i64 o)] := by
  refine callOK_of_AW Try.func145 rfl (by kernel_rfl) (Nat.le_of_ble_eq_true (by kernel_rfl)) ?_
  intro w0
  unfold laws_heldKeyS at h
  refine AW.seq ?_
  refine AW.regionA [] [0, 1] [] (s' := ⟨[(0, (.v (.one (.c (sl 5 cs_Key a0))))), (1, (.v (.one (.c (.int .i64 a1)))))], []⟩) (ob := True ∧ True) (by kernel_rfl) ⟨trivial, trivial⟩ ?_
  refine thenQ_normal ?_
  refine AW.seq ?_
  refine AW.seq ?_
  refine AW.regionA [] [0, 1, 5] [] (s' := ⟨[(0, (.v (.one (.c (sl 5 cs_Key a0))))), (1, (.v (.one (.c (.int .i64 a1))))), (5, (.v (.one (.c (.int .i64 (0 : Int))))))], []⟩) (ob := True ∧ True) (by kernel_rfl) ⟨trivial, trivial⟩ ?_
  refine thenQ_normal ?_
  refine AW.block ?_
  refine AW.loopQ (σ := Nat × Int × Int) (fun p => ⟨[(0, (.v (.one (.c (sl 5 cs_Key a0))))), (1, (.v (.one (.c (.int .i64 p.2.1))))), (5, (.v (.one (.c (.int .i64 p.2.2)))))], []⟩) (fun p => laws_heldKeyS_l1 K a0 p.1 p.2.1 p.2.2 = some o) (fun p => p.1) (K, a1, (0 : Int)) h ?_
  clear h
  rintro ⟨k, x3, x4⟩ h
  replace h : laws_heldKeyS_l1 K a0 k x3 x4 = some o := h
  show AW _ _ (⟨[(0, (.v (.one (.c (sl 5 cs_Key a0))))), (1, (.v (.one (.c (.int .i64 x3))))), (5, (.v (.one (.c (.int .i64 x4)))))], []⟩ : St) _
  obtain _ | k := k
  · rw [laws_heldKeyS_l1] at h; cases h
  rw [laws_heldKeyS_l1] at h
  refine AW.seq ?_
  refine AW.seq ?_
  refine AW.regionA [] [0, 1, 5, 9] [] (s' := ⟨[(0, (.v (.one (.c (sl 5 cs_Key a0))))), (1, (.v (.one (.c (.int .i64 x3))))), (5, (.v (.one (.c (.int .i64 x4))))), (9, (.v (.one (.c (.bool (decide (x4 < (a0.length : Int))))))))], []⟩) (ob := True ∧ True ∧ True ∧ True ∧ True) (by kernel_rfl) ⟨trivial, trivial, trivial, trivial, trivial⟩ ?_
  refine thenQ_normal ?_
  rcases ite2_cases h with ⟨b5, h⟩ | ⟨b5, h⟩
  · refine AW.cond_t rfl b5 ?_
    refine AW.skip ?_
    refine thenQ_normal ?_
    refine AW.seq ?_
    refine AW.block ?_
    refine AW.seq ?_
    refine AW.seq ?_
    obtain ⟨c6, h⟩ := chk_some h
    refine AW.regionA [] [0, 1, 5, 18] [] (s' := ⟨[(0, (.v (.one (.c (sl 5 cs_Key a0))))), (1, (.v (.one (.c (.int .i64 x3))))), (5, (.v (.one (.c (.int .i64 x4))))), (18, (.v (.one (.c (.bool (((a0.getD x4.toNat default).At) != x3))))))], []⟩) (ob := True ∧ True ∧ (0 ≤ x4 ∧ x4 < (a0.length : Int)) ∧ True ∧ True ∧ True ∧ True ∧ True) (by kernel_rfl) ⟨trivial, trivial, c6, trivial, trivial, trivial, trivial, trivial⟩ ?_
    refine thenQ_normal ?_
    rcases ite2_cases h with ⟨b7, h⟩ | ⟨b7, h⟩
    · refine AW.cond_t rfl b7 ?_
      refine AW.seq ?_
      refine AW.regionA [] [4] [] (s' := ⟨[(4, (.v (.one (.c (.int .i64 ((-1) : Int))))))], []⟩) (ob := True ∧ True) (by kernel_rfl) ⟨trivial, trivial⟩ ?_
      refine thenQ_normal ?_
      refine AW.ret ?_
      refine thenQ_ret ?_
      refine blockQ_ret ?_
      refine thenQ_ret ?_
      refine loopQ_ret ?_
      refine blockQ_ret ?_
      refine thenQ_ret ?_
      replace h := some_eq h
      subst h
      exact ⟨.inr rfl, retOK_of [(.one (.c (.int .i64 ((-1) : Int))))] (by kernel_rfl) ⟨⟨rfl, trivial⟩, trivial⟩ (of_decide_eq_true (by kernel_rfl))⟩
    · refine AW.cond_f rfl b7 ?_
      refine AW.skip ?_
      refine thenQ_normal ?_
      refine AW.seq ?_
      refine AW.regionA [] [0, 1, 5] [] (s' := ⟨[(0, (.v (.one (.c (sl 5 cs_Key a0))))), (1, (.v (.one (.c (.int .i64 (IntKind.i64.wrap (x3 + (1 : Int)))))))), (5, (.v (.one (.c (.int .i64 x4)))))], []⟩) (ob := True ∧ True ∧ True ∧ True) (by kernel_rfl) ⟨trivial, trivial, trivial, trivial⟩ ?_
      refine thenQ_normal ?_
      refine AW.seq ?_
      refine AW.seq ?_
      refine AW.regionA [] [0, 1, 5, 29] [] (s' := ⟨[(0, (.v (.one (.c (sl 5 cs_Key a0))))), (1, (.v (.one (.c (.int .i64 (IntKind.i64.wrap (x3 + (1 : Int)))))))), (5, (.v (.one (.c (.int .i64 x4))))), (29, (.v (.one (.c (.bool ((((a0.getD x4.toNat default).Turn).W).ne (Fl.ofInt .f32 (IntKind.i64.wrap (x3 + (1 : Int))))))))))], []⟩) (ob := True ∧ True ∧ (0 ≤ x4 ∧ x4 < (a0.length : Int)) ∧ True ∧ True ∧ True ∧ True ∧ True ∧ True ∧ True) (by kernel_rfl) ⟨trivial, trivial, c6, trivial, trivial, trivial, trivial, trivial, trivial, trivial⟩ ?_
      refine thenQ_normal ?_
      rcases ite2_cases h with ⟨b8, h⟩ | ⟨b8, h⟩
      · refine AW.cond_t rfl b8 ?_
        refine AW.seq ?_
        refine AW.regionA [] [4] [] (s' := ⟨[(4, (.v (.one (.c (.int .i64 ((-1) : Int))))))], []⟩) (ob := True ∧ True) (by kernel_rfl) ⟨trivial, trivial⟩ ?_
        refine thenQ_normal ?_
        refine AW.ret ?_
        refine thenQ_ret ?_
        refine blockQ_ret ?_
        refine thenQ_ret ?_
        refine loopQ_ret ?_
        refine blockQ_ret ?_
        refine thenQ_ret ?_
        replace h := some_eq h
        subst h
        exact ⟨.inr rfl, retOK_of [(.one (.c (.int .i64 ((-1) : Int))))] (by kernel_rfl) ⟨⟨rfl, trivial⟩, trivial⟩ (of_decide_eq_true (by kernel_rfl))⟩
      · refine AW.cond_f rfl b8 ?_
        refine AW.skip ?_
        refine thenQ_normal ?_
        refine AW.seq ?_
        refine AW.regionA [] [0, 1, 5] [] (s' := ⟨[(0, (.v (.one (.c (sl 5 cs_Key a0))))), (1, (.v (.one (.c (.int .i64 (IntKind.i64.wrap ((IntKind.i64.wrap (x3 + (1 : Int))) + (1 : Int)))))))), (5, (.v (.one (.c (.int .i64 x4)))))], []⟩) (ob := True ∧ True ∧ True ∧ True) (by kernel_rfl) ⟨trivial, trivial, trivial, trivial⟩ ?_
        refine thenQ_normal ?_
        refine AW.seq ?_
        refine AW.seq ?_
        refine AW.regionA [] [0, 1, 5, 40] [] (s' := ⟨[(0, (.v (.one (.c (sl 5 cs_Key a0))))), (1, (.v (.one (.c (.int .i64 (IntKind.i64.wrap ((IntKind.i64.wrap (x3 + (1 : Int))) + (1 : Int)))))))), (5, (.v (.one (.c (.int .i64 x4))))), (40, (.v (.one (.c (.bool ((((a0.getD x4.toNat default).Turn).X).ne (Fl.ofInt .f32 (IntKind.i64.wrap ((IntKind.i64.wrap (x3 + (1 : Int))) + (1 : Int))))))))))], []⟩) (ob := True ∧ True ∧ (0 ≤ x4 ∧ x4 < (a0.length : Int)) ∧ True ∧ True ∧ True ∧ True ∧ True ∧ True ∧ True) (by kernel_rfl) ⟨trivial, trivial, c6, trivial, trivial, trivial, trivial, trivial, trivial, trivial⟩ ?_
        refine thenQ_normal ?_
        rcases ite2_cases h with ⟨b9, h⟩ | ⟨b9, h⟩
        · refine AW.cond_t rfl b9 ?_
          refine AW.seq ?_
          refine AW.regionA [] [4] [] (s' := ⟨[(4, (.v (.one (.c (.int .i64 ((-1) : Int))))))], []⟩) (ob := True ∧ True) (by kernel_rfl) ⟨trivial, trivial⟩ ?_
          refine thenQ_normal ?_
          refine AW.ret ?_
          refine thenQ_ret ?_
          refine blockQ_ret ?_
          refine thenQ_ret ?_
          refine loopQ_ret ?_
          refine blockQ_ret ?_
          refine thenQ_ret ?_
          replace h := some_eq h
          subst h
          exact ⟨.inr rfl, retOK_of [(.one (.c (.int .i64 ((-1) : Int))))] (by kernel_rfl) ⟨⟨rfl, trivial⟩, trivial⟩ (of_decide_eq_true (by kernel_rfl))⟩
        · refine AW.cond_f rfl b9 ?_
          refine AW.skip ?_
          refine thenQ_normal ?_
          refine AW.seq ?_
          refine AW.regionA [] [0, 1, 5] [] (s' := ⟨[(0, (.v (.one (.c (sl 5 cs_Key a0))))), (1, (.v (.one (.c (.int .i64 (IntKind.i64.wrap ((IntKind.i64.wrap ((IntKind.i64.wrap (x3 + (1 : Int))) + (1 : Int))) + (1 : Int)))))))), (5, (.v (.one (.c (.int .i64 x4)))))], []⟩) (ob := True ∧ True ∧ True ∧ True) (by kernel_rfl) ⟨trivial, trivial, trivial, trivial⟩ ?_
          refine thenQ_normal ?_
          refine AW.seq ?_
          refine AW.seq ?_
          refine AW.regionA [] [0, 1, 5, 51] [] (s' := ⟨[(0, (.v (.one (.c (sl 5 cs_Key a0))))), (1, (.v (.one (.c (.int .i64 (IntKind.i64.wrap ((IntKind.i64.wrap ((IntKind.i64.wrap (x3 + (1 : Int))) + (1 : Int))) + (1 : Int)))))))), (5, (.v (.one (.c (.int .i64 x4))))), (51, (.v (.one (.c (.bool ((((a0.getD x4.toNat default).Turn).Y).ne (Fl.ofInt .f32 (IntKind.i64.wrap ((IntKind.i64.wrap ((IntKind.i64.wrap (x3 + (1 : Int))) + (1 : Int))) + (1 : Int))))))))))], []⟩) (ob := True ∧ True ∧ (0 ≤ x4 ∧ x4 < (a0.length : Int)) ∧ True ∧ True ∧ True ∧ True ∧ True ∧ True ∧ True) (by kernel_rfl) ⟨trivial, trivial, c6, trivial, trivial, trivial, trivial, trivial, trivial, trivial⟩ ?_
          refine thenQ_normal ?_
          rcases ite2_cases h with ⟨b10, h⟩ | ⟨b10, h⟩
          · refine AW.cond_t rfl b10 ?_
            refine AW.seq ?_
            refine AW.regionA [] [4] [] (s' := ⟨[(4, (.v (.one (.c (.int .i64 ((-1) : Int))))))], []⟩) (ob := True ∧ True) (by kernel_rfl) ⟨trivial, trivial⟩ ?_
            refine thenQ_normal ?_
            refine AW.ret ?_
            refine thenQ_ret ?_
            refine blockQ_ret ?_
            refine thenQ_ret ?_
            refine loopQ_ret ?_
            refine blockQ_ret ?_
            refine thenQ_ret ?_
            replace h := some_eq h
            subst h
            exact ⟨.inr rfl, retOK_of [(.one (.c (.int .i64 ((-1) : Int))))] (by kernel_rfl) ⟨⟨rfl, trivial⟩, trivial⟩ (of_decide_eq_true (by kernel_rfl))⟩
          · refine AW.cond_f rfl b10 ?_
            refine AW.skip ?_
            refine thenQ_normal ?_
            refine AW.seq ?_
            refine AW.regionA [] [0, 1, 5] [] (s' := ⟨[(0, (.v (.one (.c (sl 5 cs_Key a0))))), (1, (.v (.one (.c (.int .i64 (IntKind.i64.wrap ((IntKind.i64.wrap ((IntKind.i64.wrap ((IntKind.i64.wrap (x3 + (1 : Int))) + (1 : Int))) + (1 : Int))) + (1 : Int)))))))), (5, (.v (.one (.c (.int .i64 x4)))))], []⟩) (ob := True ∧ True ∧ True ∧ True) (by kernel_rfl) ⟨trivial, trivial, trivial, trivial⟩ ?_
            refine thenQ_normal ?_
            refine AW.seq ?_
            refine AW.seq ?_
            refine AW.regionA [] [0, 1, 5, 62] [] (s' := ⟨[(0, (.v (.one (.c (sl 5 cs_Key a0))))), (1, (.v (.one (.c (.int .i64 (IntKind.i64.wrap ((IntKind.i64.wrap ((IntKind.i64.wrap ((IntKind.i64.wrap (x3 + (1 : Int))) + (1 : Int))) + (1 : Int))) + (1 : Int)))))))), (5, (.v (.one (.c (.int .i64 x4))))), (62, (.v (.one (.c (.bool ((((a0.getD x4.toNat default).Turn).Z).ne (Fl.ofInt .f32 (IntKind.i64.wrap ((IntKind.i64.wrap ((IntKind.i64.wrap ((IntKind.i64.wrap (x3 + (1 : Int))) + (1 : Int))) + (1 : Int))) + (1 : Int))))))))))], []⟩) (ob := True ∧ True ∧ (0 ≤ x4 ∧ x4 < (a0.length : Int)) ∧ True ∧ True ∧ True ∧ True ∧ True ∧ True ∧ True) (by kernel_rfl) ⟨trivial, trivial, c6, trivial, trivial, trivial, trivial, trivial, trivial, trivial⟩ ?_
            refine thenQ_normal ?_
            rcases ite2_cases h with ⟨b11, h⟩ | ⟨b11, h⟩
            · refine AW.cond_t rfl b11 ?_
              refine AW.seq ?_
              refine AW.regionA [] [4] [] (s' := ⟨[(4, (.v (.one (.c (.int .i64 ((-1) : Int))))))], []⟩) (ob := True ∧ True) (by kernel_rfl) ⟨trivial, trivial⟩ ?_
              refine thenQ_normal ?_
              refine AW.ret ?_
              refine thenQ_ret ?_
              refine blockQ_ret ?_
              refine thenQ_ret ?_
              refine loopQ_ret ?_
              refine blockQ_ret ?_
              refine thenQ_ret ?_
              replace h := some_eq h
              subst h
              exact ⟨.inr rfl, retOK_of [(.one (.c (.int .i64 ((-1) : Int))))] (by kernel_rfl) ⟨⟨rfl, trivial⟩, trivial⟩ (of_decide_eq_true (by kernel_rfl))⟩
            · refine AW.cond_f rfl b11 ?_
              refine AW.skip ?_
              refine thenQ_normal ?_
              refine AW.regionA [] [0, 1, 5] [] (s' := ⟨[(0, (.v (.one (.c (sl 5 cs_Key a0))))), (1, (.v (.one (.c (.int .i64 (IntKind.i64.wrap ((IntKind.i64.wrap ((IntKind.i64.wrap ((IntKind.i64.wrap ((IntKind.i64.wrap (x3 + (1 : Int))) + (1 : Int))) + (1 : Int))) + (1 : Int))) + (1 : Int)))))))), (5, (.v (.one (.c (.int .i64 x4)))))], []⟩) (ob := True ∧ True ∧ True ∧ True) (by kernel_rfl) ⟨trivial, trivial, trivial, trivial⟩ ?_
              refine blockQ_normal ?_
              refine thenQ_normal ?_
              refine AW.regionA [] [0, 1, 5] [] (s' := ⟨[(0, (.v (.one (.c (sl 5 cs_Key a0))))), (1, (.v (.one (.c (.int .i64 (IntKind.i64.wrap ((IntKind.i64.wrap ((IntKind.i64.wrap ((IntKind.i64.wrap ((IntKind.i64.wrap (x3 + (1 : Int))) + (1 : Int))) + (1 : Int))) + (1 : Int))) + (1 : Int)))))))), (5, (.v (.one (.c (.int .i64 (IntKind.i64.wrap (x4 + (1 : Int))))))))], []⟩) (ob := True ∧ True ∧ True ∧ True) (by kernel_rfl) ⟨trivial, trivial, trivial, trivial⟩ ?_
              exact loopQ_normal (k, (IntKind.i64.wrap ((IntKind.i64.wrap ((IntKind.i64.wrap ((IntKind.i64.wrap ((IntKind.i64.wrap (x3 + (1 : Int))) + (1 : Int))) + (1 : Int))) + (1 : Int))) + (1 : Int))), (IntKind.i64.wrap (x4 + (1 : Int)))) h (Nat.lt_succ_self k) (Sub.keep [0, 1, 5] [] (by kernel_rfl) (by kernel_rfl))
  · refine AW.cond_f rfl b5 ?_
    refine AW.exit ?_
    refine thenQ_exit ?_
    refine loopQ_exit ?_
    refine blockQ_exit ?_
    refine thenQ_normal ?_
    refine AW.seq ?_
    refine AW.regionA [] [4] [] (s' := ⟨[(4, (.v (.one (.c (.int .i64 x3)))))], []⟩) (ob := True ∧ True ∧ True) (by kernel_rfl) ⟨trivial, trivial, trivial⟩ ?_
    refine thenQ_normal ?_
    refine AW.ret ?_
    replace h := some_eq h
    subst h
    exact ⟨.inr rfl, retOK_of [(.one (.c (.int .i64 x3)))] (by kernel_rfl) ⟨⟨rfl, trivial⟩, trivial⟩ (of_decide_eq_true (by kernel_rfl))⟩

/-! laws.heldKeySS -/
def laws_heldKeySS_l1 (K : Nat) (a0 : (List (List Key))) : Nat → Int → Int → Option (Int)
  | 0, _, _ => none
  | k + 1, x3, x4 => ite2 ((decide (x4 < (a0.length : Int)))) (chk (0 ≤ x4 ∧ x4 < (a0.length : Int)) ((laws_heldKeyS K (a0.getD x4.toNat default) x3).bind fun v7 => ite2 ((decide (v7 < (0 : Int)))) (some ((-1) : Int)) (laws_heldKeySS_l1 K a0 k v7 (IntKind.i64.wrap (x4 + (1 : Int)))))) (some x3)

def laws_heldKeySS (K : Nat) (a0 : (List (List Key))) (a1 : Int) : Option (Int) :=
  laws_heldKeySS_l1 K a0 K a1 (0 : Int)

theorem ok_laws_heldKeySS (K : Nat) (a0 : (List (List Key))) (a1 : Int) (o : (Int)) (h : laws_heldKeySS K a0 a1 = some o) : CallOK Try.prog 72 [.one (sl 1 (csL 5 cs_Key) a0), .one (.int .i64 a1)] [.one (.int .i64 o)] := by
  refine callOK_of_AW Try.func72 rfl (by kernel_rfl) (Nat.le_of_ble_eq_true (by kernel_rfl)) ?_
  intro w0
  unfold laws_heldKeySS at h
  refine AW.seq ?_
  refine AW.regionA [] [0, 1] [] (s' := ⟨[(0, (.v (.one (.c (sl 1 (csL 5 cs_Key) a0))))), (1, (.v (.one (.c (.int .i64 a1)))))], []⟩) (ob := True ∧ True) (by kernel_rfl) ⟨trivial, trivial⟩ ?_
  refine thenQ_normal ?_
  refine AW.seq ?_
  refine AW.seq ?_
  refine AW.regionA [] [0, 1, 5] [] (s' := ⟨[(0, (.v (.one (.c (sl 1 (csL 5 cs_Key) a0))))), (1, (.v (.one (.c (.int .i64 a1))))), (5, (.v (.one (.c (.int .i64 (0 : Int))))))], []⟩) (ob := True ∧ True) (by kernel_rfl) ⟨trivial, trivial⟩ ?_
  refine thenQ_normal ?_
  refine AW.block ?_
  refine AW.loopQ (σ := Nat × Int × Int) (fun p => ⟨[(0, (.v (.one (.c (sl 1 (csL 5 cs_Key) a0))))), (1, (.v (.one (.c (.int .i64 p.2.1))))), (5, (.v (.one (.c (.int .i64 p.2.2)))))], []⟩) (fun p => laws_heldKeySS_l1 K a0 p.1 p.2.1 p.2.2 = some o) (fun p => p.1) (K, a1, (0 : Int)) h ?_
  clear h
  rintro ⟨k, x3, x4⟩ h
  replace h : laws_heldKeySS_l1 K a0 k x3 x4 = some o := h
  show AW _ _ (⟨[(0, (.v (.one (.c (sl 1 (csL 5 cs_Key) a0))))), (1, (.v (.one (.c (.int .i64 x3))))), (5, (.v (.one (.c (.int .i64 x4)))))], []⟩ : St) _
  obtain _ | k := k
  · rw [laws_heldKeySS_l1] at h; cases h
  rw [laws_heldKeySS_l1] at h
  refine AW.seq ?_
  refine AW.seq ?_
  refine AW.regionA [] [0, 1, 5, 9] [] (s' := ⟨[(0, (.v (.one (.c (sl 1 (csL 5 cs_Key) a0))))), (1, (.v (.one (.c (.int .i64 x3))))), (5, (.v (.one (.c (.int .i64 x4))))), (9, (.v (.one (.c (.bool (decide (x4 < (a0.length : Int))))))))], []⟩) (ob := True ∧ True ∧ True ∧ True ∧ True) (by kernel_rfl) ⟨trivial, trivial, trivial, trivial, trivial⟩ ?_
  refine thenQ_normal ?_
  rcases ite2_cases h with ⟨b5, h⟩ | ⟨b5, h⟩
  · refine AW.cond_t rfl b5 ?_
    refine AW.skip ?_
    refine thenQ_normal ?_
    refine AW.seq ?_
    refine AW.block ?_
    refine AW.seq ?_
    obtain ⟨c6, h⟩ := chk_some h
    obtain ⟨v7, e8, h⟩ := bind_some h
    refine AW.regionA [.no, .no, .no, .no, .no, .call [.one (sl 5 cs_Key (a0.getD x4.toNat default)), .one (.int .i64 x3)] [.one (.int .i64 v7)] [[.view]]] [0, 1, 5] [] (s' := ⟨[(0, (.v (.one (.c (sl 1 (csL 5 cs_Key) a0))))), (1, (.v (.one (.c (.int .i64 v7))))), (5, (.v (.one (.c (.int .i64 x4)))))], []⟩) (ob := True ∧ True ∧ (0 ≤ x4 ∧ x4 < (a0.length : Int)) ∧ True ∧ True ∧ (((((sl 5 cs_Key (a0.getD x4.toNat default)) : C) = (sl 5 cs_Key (a0.getD x4.toNat default))) ∧ (((.int .i64 x3) : C) = (.int .i64 x3)) ∧ True) ∧ CallOK Try.prog 145 [.one (sl 5 cs_Key (a0.getD x4.toNat default)), .one (.int .i64 x3)] [.one (.int .i64 v7)]) ∧ True ∧ True) (by kernel_rfl) ⟨trivial, trivial, c6, trivial, trivial, ⟨⟨rfl, rfl, trivial⟩, ok_laws_heldKeyS K (a0.getD x4.toNat default) x3 v7 e8⟩, trivial, trivial⟩ ?_
    refine thenQ_normal ?_
    refine AW.seq ?_
    refine AW.regionA [] [0, 1, 5, 19] [] (s' := ⟨[(0, (.v (.one (.c (sl 1 (csL 5 cs_Key) a0))))), (1, (.v (.one (.c (.int .i64 v7))))), (5, (.v (.one (.c (.int .i64 x4))))), (19, (.v (.one (.c (.bool (decide (v7 < (0 : Int))))))))], []⟩) (ob := True ∧ True ∧ True) (by kernel_rfl) ⟨trivial, trivial, trivial⟩ ?_
    refine thenQ_normal ?_
    rcases ite2_cases h with ⟨b9, h⟩ | ⟨b9, h⟩
    · refine AW.cond_t rfl b9 ?_
      refine AW.seq ?_
      refine AW.regionA [] [4] [] (s' := ⟨[(4, (.v (.one (.c (.int .i64 ((-1) : Int))))))], []⟩) (ob := True ∧ True) (by kernel_rfl) ⟨trivial, trivial⟩ ?_
      refine thenQ_normal ?_
      refine AW.ret ?_
      refine blockQ_ret ?_
      refine thenQ_ret ?_
      refine loopQ_ret ?_
      refine blockQ_ret ?_
      refine thenQ_ret ?_
      replace h := some_eq h
      subst h
      exact ⟨.inr rfl, retOK_of [(.one (.c (.int .i64 ((-1) : Int))))] (by kernel_rfl) ⟨⟨rfl, trivial⟩, trivial⟩ (of_decide_eq_true (by kernel_rfl))⟩
    · refine AW.cond_f rfl b9 ?_
      refine AW.skip ?_
      refine blockQ_normal ?_
      refine thenQ_normal ?_
      refine AW.regionA [] [0, 1, 5] [] (s' := ⟨[(0, (.v (.one (.c (sl 1 (csL 5 cs_Key) a0))))), (1, (.v (.one (.c (.int .i64 v7))))), (5, (.v (.one (.c (.int .i64 (IntKind.i64.wrap (x4 + (1 : Int))))))))], []⟩) (ob := True ∧ True ∧ True ∧ True) (by kernel_rfl) ⟨trivial, trivial, trivial, trivial⟩ ?_
      exact loopQ_normal (k, v7, (IntKind.i64.wrap (x4 + (1 : Int)))) h (Nat.lt_succ_self k) (Sub.keep [0, 1, 5] [] (by kernel_rfl) (by kernel_rfl))
  · refine AW.cond_f rfl b5 ?_
    refine AW.exit ?_
    refine thenQ_exit ?_
    refine loopQ_exit ?_
    refine blockQ_exit ?_
    refine thenQ_normal ?_
    refine AW.seq ?_
    refine AW.regionA [] [4] [] (s' := ⟨[(4, (.v (.one (.c (.int .i64 x3)))))], []⟩) (ob := True ∧ True ∧ True) (by kernel_rfl) ⟨trivial, trivial, trivial⟩ ?_
    refine thenQ_normal ?_
    refine AW.ret ?_
    replace h := some_eq h
    subst h
    exact ⟨.inr rfl, retOK_of [(.one (.c (.int .i64 x3)))] (by kernel_rfl) ⟨⟨rfl, trivial⟩, trivial⟩ (of_decide_eq_true (by kernel_rfl))⟩

/-! laws.heldRootKeyS -/
def laws_heldRootKeyS_l1 (K : Nat) (a0 : (List RootKey)) : Nat → Int → Int → Option (Int)
  | 0, _, _ => none
  | k + 1, x3, x4 => ite2 ((decide (x4 < (a0.length : Int)))) (chk (0 ≤ x4 ∧ x4 < (a0.length : Int)) (ite2 ((((a0.getD x4.toNat default).At) != x3)) (some ((-1) : Int)) (ite2 (((((a0.getD x4.toNat default).Place).X).ne (Fl.ofInt .f32 (IntKind.i64.wrap (x3 + (1 : Int)))))) (some ((-1) : Int)) (ite2 (((((a0.getD x4.toNat default).Place).Y).ne (Fl.ofInt .f32 (IntKind.i64.wrap ((IntKind.i64.wrap (x3 + (1 : Int))) + (1 : Int)))))) (some ((-1) : Int)) (ite2 (((((a0.getD x4.toNat default).Place).Z).ne (Fl.ofInt .f32 (IntKind.i64.wrap ((IntKind.i64.wrap ((IntKind.i64.wrap (x3 + (1 : Int))) + (1 : Int))) + (1 : Int)))))) (some ((-1) : Int)) (laws_heldRootKeyS_l1 K a0 k (IntKind.i64.wrap ((IntKind.i64.wrap ((IntKind.i64.wrap ((IntKind.i64.wrap (x3 + (1 : Int))) + (1 : Int))) + (1 : Int))) + (1 : Int))) (IntKind.i64.wrap (x4 + (1 : Int))))))))) (some x3)

def laws_heldRootKeyS (K : Nat) (a0 : (List RootKey)) (a1 : Int) : Option (Int) :=
  laws_heldRootKeyS_l1 K a0 K a1 (0 : Int)

theorem ok_laws_heldRootKeyS (K : Nat) (a0 : (List RootKey)) (a1 : Int) (o : (Int)) (h : laws_heldRootKeyS K a0 a1 = some o) : CallOK Try.prog 73 [.one (sl 4 cs_RootKey a0), .one (.int .i64 a1)] [.one (.int .i64 o)] := by
  refine callOK_of_AW Try.func73 rfl (by kernel_rfl) (Nat.le_of_ble_eq_true (by kernel_rfl)) ?_
  intro w0
  unfold laws_heldRootKeyS at h
  refine AW.seq ?_
  refine AW.regionA [] [0, 1] [] (s' := ⟨[(0, (.v (.one (.c (sl 4 cs_RootKey a0))))), (1, (.v (.one (.c (.int .i64 a1)))))], []⟩) (ob := True ∧ True) (by kernel_rfl) ⟨trivial, trivial⟩ ?_
  refine thenQ_normal ?_
  refine AW.seq ?_
  refine AW.seq ?_
  refine AW.regionA [] [0, 1, 5] [] (s' := ⟨[(0, (.v (.one (.c (sl 4 cs_RootKey a0))))), (1, (.v (.one (.c (.int .i64 a1))))), (5, (.v (.one (.c (.int .i64 (0 : Int))))))], []⟩) (ob := True ∧ True) (by kernel_rfl) ⟨trivial, trivial⟩ ?_
  refine thenQ_normal ?_
  refine AW.block ?_
  refine AW.loopQ (σ := Nat × Int × Int) (fun p => ⟨[(0, (.v (.one (.c (sl 4 cs_RootKey a0))))), (1, (.v (.one (.c (.int .i64 p.2.1))))), (5, (.v (.one (.c (.int .i64 p.2.2)))))], []⟩) (fun p => laws_heldRootKeyS_l1 K a0 p.1 p.2.1 p.2.2 = some o) (fun p => p.1) (K, a1, (0 : Int)) h ?_
  clear h
  rintro ⟨k, x3, x4⟩ h
  replace h : laws_heldRootKeyS_l1 K a0 k x3 x4 = some o := h
  show AW _ _ (⟨[(0, (.v (.one (.c (sl 4 cs_RootKey a0))))), (1, (.v (.one (.c (.int .i64 x3))))), (5, (.v (.one (.c (.int .i64 x4)))))], []⟩ : St) _
  obtain _ | k := k
  · rw [laws_heldRootKeyS_l1] at h; cases h
  rw [laws_heldRootKeyS_l1] at h
  refine AW.seq ?_
  refine AW.seq ?_
  refine AW.regionA [] [0, 1, 5, 9] [] (s' := ⟨[(0, (.v (.one (.c (sl 4 cs_RootKey a0))))), (1, (.v (.one (.c (.int .i64 x3))))), (5, (.v (.one (.c (.int .i64 x4))))), (9, (.v (.one (.c (.bool (decide (x4 < (a0.length : Int))))))))], []⟩) (ob := True ∧ True ∧ True ∧ True ∧ True) (by kernel_rfl) ⟨trivial, trivial, trivial, trivial, trivial⟩ ?_
  refine thenQ_normal ?_
  rcases ite2_cases h with ⟨b5, h⟩ | ⟨b5, h⟩
  · refine AW.cond_t rfl b5 ?_
    refine AW.skip ?_
    refine thenQ_normal ?_
    refine AW.seq ?_
    refine AW.block ?_
    refine AW.seq ?_
    refine AW.seq ?_
    obtain ⟨c6, h⟩ := chk_some h
    refine AW.regionA [] [0, 1, 5, 18] [] (s' := ⟨[(0, (.v (.one (.c (sl 4 cs_RootKey a0))))), (1, (.v (.one (.c (.int .i64 x3))))), (5, (.v (.one (.c (.int .i64 x4))))), (18, (.v (.one (.c (.bool (((a0.getD x4.toNat default).At) != x3))))))], []⟩) (ob := True ∧ True ∧ (0 ≤ x4 ∧ x4 < (a0.length : Int)) ∧ True ∧ True ∧ True ∧ True ∧ True) (by kernel_rfl) ⟨trivial, trivial, c6, trivial, trivial, trivial, trivial, trivial⟩ ?_
    refine thenQ_normal ?_
    rcases ite2_cases h with ⟨b7, h⟩ | ⟨b7, h⟩
    · refine AW.cond_t rfl b7 ?_
      refine AW.seq ?_
      refine AW.regionA [] [4] [] (s' := ⟨[(4, (.v (.one (.c (.int .i64 ((-1) : Int))))))], []⟩) (ob := True ∧ True) (by kernel_rfl) ⟨trivial, trivial⟩ ?_
      refine thenQ_normal ?_
      refine AW.ret ?_
      refine thenQ_ret ?_
      refine blockQ_ret ?_
      refine thenQ_ret ?_
      refine loopQ_ret ?_
      refine blockQ_ret ?_
      refine thenQ_ret ?_
      replace h := some_eq h
      subst h
      exact ⟨.inr rfl, retOK_of [(.one (.c (.int .i64 ((-1) : Int))))] (by kernel_rfl) ⟨⟨rfl, trivial⟩, trivial⟩ (of_decide_eq_true (by kernel_rfl))⟩
    · refine AW.cond_f rfl b7 ?_
      refine AW.skip ?_
      refine thenQ_normal ?_
      refine AW.seq ?_
      refine AW.regionA [] [0, 1, 5] [] (s' := ⟨[(0, (.v (.one (.c (sl 4 cs_RootKey a0))))), (1, (.v (.one (.c (.int .i64 (IntKind.i64.wrap (x3 + (1 : Int)))))))), (5, (.v (.one (.c (.int .i64 x4)))))], []⟩) (ob := True ∧ True ∧ True ∧ True) (by kernel_rfl) ⟨trivial, trivial, trivial, trivial⟩ ?_
      refine thenQ_normal ?_
      refine AW.seq ?_
      refine AW.seq ?_
      refine AW.regionA [] [0, 1, 5, 29] [] (s' := ⟨[(0, (.v (.one (.c (sl 4 cs_RootKey a0))))), (1, (.v (.one (.c (.int .i64 (IntKind.i64.wrap (x3 + (1 : Int)))))))), (5, (.v (.one (.c (.int .i64 x4))))), (29, (.v (.one (.c (.bool ((((a0.getD x4.toNat default).Place).X).ne (Fl.ofInt .f32 (IntKind.i64.wrap (x3 + (1 : Int))))))))))], []⟩) (ob := True ∧ True ∧ (0 ≤ x4 ∧ x4 < (a0.length : Int)) ∧ True ∧ True ∧ True ∧ True ∧ True ∧ True ∧ True) (by kernel_rfl) ⟨trivial, trivial, c6, trivial, trivial, trivial, trivial, trivial, trivial, trivial⟩ ?_
      refine thenQ_normal ?_
      rcases ite2_cases h with ⟨b8, h⟩ | ⟨b8, h⟩
      · refine AW.cond_t rfl b8 ?_
        refine AW.seq ?_
        refine AW.regionA [] [4] [] (s' := ⟨[(4, (.v (.one (.c (.int .i64 ((-1) : Int))))))], []⟩) (ob := True ∧ True) (by kernel_rfl) ⟨trivial, trivial⟩ ?_
        refine thenQ_normal ?_
        refine AW.ret ?_
        refine thenQ_ret ?_
        refine blockQ_ret ?_
        refine thenQ_ret ?_
        refine loopQ_ret ?_
        refine blockQ_ret ?_
        refine thenQ_ret ?_
        replace h := some_eq h
        subst h
        exact ⟨.inr rfl, retOK_of [(.one (.c (.int .i64 ((-1) : Int))))] (by kernel_rfl) ⟨⟨rfl, trivial⟩, trivial⟩ (of_decide_eq_true (by kernel_rfl))⟩
      · refine AW.cond_f rfl b8 ?_
        refine AW.skip ?_
        refine thenQ_normal ?_
        refine AW.seq ?_
        refine AW.regionA [] [0, 1, 5] [] (s' := ⟨[(0, (.v (.one (.c (sl 4 cs_RootKey a0))))), (1, (.v (.one (.c (.int .i64 (IntKind.i64.wrap ((IntKind.i64.wrap (x3 + (1 : Int))) + (1 : Int)))))))), (5, (.v (.one (.c (.int .i64 x4)))))], []⟩) (ob := True ∧ True ∧ True ∧ True) (by kernel_rfl) ⟨trivial, trivial, trivial, trivial⟩ ?_
        refine thenQ_normal ?_
        refine AW.seq ?_
        refine AW.seq ?_
        refine AW.regionA [] [0, 1, 5, 40] [] (s' := ⟨[(0, (.v (.one (.c (sl 4 cs_RootKey a0))))), (1, (.v (.one (.c (.int .i64 (IntKind.i64.wrap ((IntKind.i64.wrap (x3 + (1 : Int))) + (1 : Int)))))))), (5, (.v (.one (.c (.int .i64 x4))))), (40, (.v (.one (.c (.bool ((((a0.getD x4.toNat default).Place).Y).ne (Fl.ofInt .f32 (IntKind.i64.wrap ((IntKind.i64.wrap (x3 + (1 : Int))) + (1 : Int))))))))))], []⟩) (ob := True ∧ True ∧ (0 ≤ x4 ∧ x4 < (a0.length : Int)) ∧ True ∧ True ∧ True ∧ True ∧ True ∧ True ∧ True) (by kernel_rfl) ⟨trivial, trivial, c6, trivial, trivial, trivial, trivial, trivial, trivial, trivial⟩ ?_
        refine thenQ_normal ?_
        rcases ite2_cases h with ⟨b9, h⟩ | ⟨b9, h⟩
        · refine AW.cond_t rfl b9 ?_
          refine AW.seq ?_
          refine AW.regionA [] [4] [] (s' := ⟨[(4, (.v (.one (.c (.int .i64 ((-1) : Int))))))], []⟩) (ob := True ∧ True) (by kernel_rfl) ⟨trivial, trivial⟩ ?_
          refine thenQ_normal ?_
          refine AW.ret ?_
          refine thenQ_ret ?_
          refine blockQ_ret ?_
          refine thenQ_ret ?_
          refine loopQ_ret ?_
          refine blockQ_ret ?_
          refine thenQ_ret ?_
          replace h := some_eq h
          subst h
          exact ⟨.inr rfl, retOK_of [(.one (.c (.int .i64 ((-1) : Int))))] (by kernel_rfl) ⟨⟨rfl, trivial⟩, trivial⟩ (of_decide_eq_true (by kernel_rfl))⟩
        · refine AW.cond_f rfl b9 ?_
          refine AW.skip ?_
          refine thenQ_normal ?_
          refine AW.seq ?_
          refine AW.regionA [] [0, 1, 5] [] (s' := ⟨[(0, (.v (.one (.c (sl 4 cs_RootKey a0))))), (1, (.v (.one (.c (.int .i64 (IntKind.i64.wrap ((IntKind.i64.wrap ((IntKind.i64.wrap (x3 + (1 : Int))) + (1 : Int))) + (1 : Int)))))))), (5, (.v (.one (.c (.int .i64 x4)))))], []⟩) (ob := True ∧ True ∧ True ∧ True) (by kernel_rfl) ⟨trivial, trivial, trivial, trivial⟩ ?_
          refine thenQ_normal ?_
          refine AW.seq ?_
          refine AW.seq ?_
          refine AW.regionA [] [0, 1, 5, 51] [] (s' := ⟨[(0, (.v (.one (.c (sl 4 cs_RootKey a0))))), (1, (.v (.one (.c (.int .i64 (IntKind.i64.wrap ((IntKind.i64.wrap ((IntKind.i64.wrap (x3 + (1 : Int))) + (1 : Int))) + (1 : Int)))))))), (5, (.v (.one (.c (.int .i64 x4))))), (51, (.v (.one (.c (.bool ((((a0.getD x4.toNat default).Place).Z).ne (Fl.ofInt .f32 (IntKind.i64.wrap ((IntKind.i64.wrap ((IntKind.i64.wrap (x3 + (1 : Int))) + (1 : Int))) + (1 : Int))))))))))], []⟩) (ob := True ∧ True ∧ (0 ≤ x4 ∧ x4 < (a0.length : Int)) ∧ True ∧ True ∧ True ∧ True ∧ True ∧ True ∧ True) (by kernel_rfl) ⟨trivial, trivial, c6, trivial, trivial, trivial, trivial, trivial, trivial, trivial⟩ ?_
          refine thenQ_normal ?_
          rcases ite2_cases h with ⟨b10, h⟩ | ⟨b10, h⟩
          · refine AW.cond_t rfl b10 ?_
            refine AW.seq ?_
            refine AW.regionA [] [4] [] (s' := ⟨[(4, (.v (.one (.c (.int .i64 ((-1) : Int))))))], []⟩) (ob := True ∧ True) (by kernel_rfl) ⟨trivial, trivial⟩ ?_
            refine thenQ_normal ?_
            refine AW.ret ?_
            refine thenQ_ret ?_
            refine blockQ_ret ?_
            refine thenQ_ret ?_
            refine loopQ_ret ?_
            refine blockQ_ret ?_
            refine thenQ_ret ?_
            replace h := some_eq h
            subst h
            exact ⟨.inr rfl, retOK_of [(.one (.c (.int .i64 ((-1) : Int))))] (by kernel_rfl) ⟨⟨rfl, trivial⟩, trivial⟩ (of_decide_eq_true (by kernel_rfl))⟩
          · refine AW.cond_f rfl b10 ?_
            refine AW.skip ?_
            refine thenQ_normal ?_
            refine AW.regionA [] [0, 1, 5] [] (s' := ⟨[(0, (.v (.one (.c (sl 4 cs_RootKey a0))))), (1, (.v (.one (.c (.int .i64 (IntKind.i64.wrap ((IntKind.i64.wrap ((IntKind.i64.wrap ((IntKind.i64.wrap (x3 + (1 : Int))) + (1 : Int))) + (1 : Int))) + (1 : Int)))))))), (5, (.v (.one (.c (.int .i64 x4)))))], []⟩) (ob := True ∧ True ∧ True ∧ True) (by kernel_rfl) ⟨trivial, trivial, trivial, trivial⟩ ?_
            refine blockQ_normal ?_
            refine thenQ_normal ?_
            refine AW.regionA [] [0, 1, 5] [] (s' := ⟨[(0, (.v (.one (.c (sl 4 cs_RootKey a0))))), (1, (.v (.one (.c (.int .i64 (IntKind.i64.wrap ((IntKind.i64.wrap ((IntKind.i64.wrap ((IntKind.i64.wrap (x3 + (1 : Int))) + (1 : Int))) + (1 : Int))) + (1 : Int)))))))), (5, (.v (.one (.c (.int .i64 (IntKind.i64.wrap (x4 + (1 : Int))))))))], []⟩) (ob := True ∧ True ∧ True ∧ True) (by kernel_rfl) ⟨trivial, trivial, trivial, trivial⟩ ?_
            exact loopQ_normal (k, (IntKind.i64.wrap ((IntKind.i64.wrap ((IntKind.i64.wrap ((IntKind.i64.wrap (x3 + (1 : Int))) + (1 : Int))) + (1 : Int))) + (1 : Int))), (IntKind.i64.wrap (x4 + (1 : Int)))) h (Nat.lt_succ_self k) (Sub.keep [0, 1, 5] [] (by kernel_rfl) (by kernel_rfl))
  · refine AW.cond_f rfl b5 ?_
    refine AW.exit ?_
    refine thenQ_exit ?_
    refine loopQ_exit ?_
    refine blockQ_exit ?_
    refine thenQ_normal ?_
    refine AW.seq ?_
    refine AW.regionA [] [4] [] (s' := ⟨[(4, (.v (.one (.c (.int .i64 x3)))))], []⟩) (ob := True ∧ True ∧ True) (by kernel_rfl) ⟨trivial, trivial, trivial⟩ ?_
    refine thenQ_normal ?_
    refine AW.ret ?_
    replace h := some_eq h
    subst h
    exact ⟨.inr rfl, retOK_of [(.one (.c (.int .i64 x3)))] (by kernel_rfl) ⟨⟨rfl, trivial⟩, trivial⟩ (of_decide_eq_true (by kernel_rfl))⟩

/-! laws.heldClip -/
def laws_heldClip (K : Nat) (a0 : Clip) (a1 : Int) : Option (Int) :=
  (laws_heldKeySS K a0.Tracks a1).bind fun v1 => ite2 ((decide (v1 < (0 : Int)))) (some ((-1) : Int)) ((laws_heldRootKeyS K a0.Roots v1).bind fun v4 => ite2 ((decide (v4 < (0 : Int)))) (some ((-1) : Int)) (some v4))

theorem ok_laws_heldClip (K : Nat) (a0 : Clip) (a1 : Int) (o : (Int)) (h : laws_heldClip K a0 a1 = some o) : CallOK Try.prog 17 [.agg (cs_Clip a0), .one (.int .i64 a1)] [.one (.int .i64 o)] := by
  refine callOK_of_AW Try.func17 rfl (by kernel_rfl) (Nat.le_of_ble_eq_true (by kernel_rfl)) ?_
  intro w0
  unfold laws_heldClip at h
  refine AW.seq ?_
  refine AW.regionA [.box 1] [1, 2] [1] (s' := ⟨[(1, (.v (.one (.c (.int .i64 a1))))), (2, (.v (.one (.ptr 1 0))))], [(1, (.box [(.c (.int .i64 a0.Length)), (.c (.int .i64 a0.Kind)), (.c (sl 1 (csL 5 cs_Key) a0.Tracks)), (.c (sl 4 cs_RootKey a0.Roots))]))]⟩) (ob := True ∧ True ∧ True) (by kernel_rfl) ⟨trivial, trivial, trivial⟩ ?_
  refine thenQ_normal ?_
  refine AW.seq ?_
  obtain ⟨v1, e2, h⟩ := bind_some h
  refine AW.regionA [.no, .no, .no, .call [.one (sl 1 (csL 5 cs_Key) a0.Tracks), .one (.int .i64 a1)] [.one (.int .i64 v1)] [[.view]]] [1, 2] [1] (s' := ⟨[(1, (.v (.one (.c (.int .i64 v1))))), (2, (.v (.one (.ptr 1 0))))], [(1, (.box [(.c (.int .i64 a0.Length)), (.c (.int .i64 a0.Kind)), (.c (sl 1 (csL 5 cs_Key) a0.Tracks)), (.c (sl 4 cs_RootKey a0.Roots))]))]⟩) (ob := True ∧ True ∧ True ∧ (((((sl 1 (csL 5 cs_Key) a0.Tracks) : C) = (sl 1 (csL 5 cs_Key) a0.Tracks)) ∧ (((.int .i64 a1) : C) = (.int .i64 a1)) ∧ True) ∧ CallOK Try.prog 72 [.one (sl 1 (csL 5 cs_Key) a0.Tracks), .one (.int .i64 a1)] [.one (.int .i64 v1)]) ∧ True ∧ True) (by kernel_rfl) ⟨trivial, trivial, trivial, ⟨⟨rfl, rfl, trivial⟩, ok_laws_heldKeySS K a0.Tracks a1 v1 e2⟩, trivial, trivial⟩ ?_
  refine thenQ_normal ?_
  refine AW.seq ?_
  refine AW.seq ?_
  refine AW.regionA [] [1, 2, 10] [1] (s' := ⟨[(1, (.v (.one (.c (.int .i64 v1))))), (2, (.v (.one (.ptr 1 0)))), (10, (.v (.one (.c (.bool (decide (v1 < (0 : Int))))))))], [(1, (.box [(.c (.int .i64 a0.Length)), (.c (.int .i64 a0.Kind)), (.c (sl 1 (csL 5 cs_Key) a0.Tracks)), (.c (sl 4 cs_RootKey a0.Roots))]))]⟩) (ob := True ∧ True ∧ True) (by kernel_rfl) ⟨trivial, trivial, trivial⟩ ?_
  refine thenQ_normal ?_
  rcases ite2_cases h with ⟨b3, h⟩ | ⟨b3, h⟩
  · refine AW.cond_t rfl b3 ?_
    refine AW.seq ?_
    refine AW.regionA [] [4] [] (s' := ⟨[(4, (.v (.one (.c (.int .i64 ((-1) : Int))))))], []⟩) (ob := True ∧ True) (by kernel_rfl) ⟨trivial, trivial⟩ ?_
    refine thenQ_normal ?_
    refine AW.ret ?_
    refine thenQ_ret ?_
    replace h := some_eq h
    subst h
    exact ⟨.inr rfl, retOK_of [(.one (.c (.int .i64 ((-1) : Int))))] (by kernel_rfl) ⟨⟨rfl, trivial⟩, trivial⟩ (of_decide_eq_true (by kernel_rfl))⟩
  · refine AW.cond_f rfl b3 ?_
    refine AW.skip ?_
    refine thenQ_normal ?_
    refine AW.seq ?_
    obtain ⟨v4, e5, h⟩ := bind_some h
    refine AW.regionA [.no, .no, .no, .call [.one (sl 4 cs_RootKey a0.Roots), .one (.int .i64 v1)] [.one (.int .i64 v4)] [[.view]]] [1] [] (s' := ⟨[(1, (.v (.one (.c (.int .i64 v4)))))], []⟩) (ob := True ∧ True ∧ True ∧ (((((sl 4 cs_RootKey a0.Roots) : C) = (sl 4 cs_RootKey a0.Roots)) ∧ (((.int .i64 v1) : C) = (.int .i64 v1)) ∧ True) ∧ CallOK Try.prog 73 [.one (sl 4 cs_RootKey a0.Roots), .one (.int .i64 v1)] [.one (.int .i64 v4)]) ∧ True ∧ True) (by kernel_rfl) ⟨trivial, trivial, trivial, ⟨⟨rfl, rfl, trivial⟩, ok_laws_heldRootKeyS K a0.Roots v1 v4 e5⟩, trivial, trivial⟩ ?_
    refine thenQ_normal ?_
    refine AW.seq ?_
    refine AW.seq ?_
    refine AW.regionA [] [1, 16] [] (s' := ⟨[(1, (.v (.one (.c (.int .i64 v4))))), (16, (.v (.one (.c (.bool (decide (v4 < (0 : Int))))))))], []⟩) (ob := True ∧ True ∧ True) (by kernel_rfl) ⟨trivial, trivial, trivial⟩ ?_
    refine thenQ_normal ?_
    rcases ite2_cases h with ⟨b6, h⟩ | ⟨b6, h⟩
    · refine AW.cond_t rfl b6 ?_
      refine AW.seq ?_
      refine AW.regionA [] [4] [] (s' := ⟨[(4, (.v (.one (.c (.int .i64 ((-1) : Int))))))], []⟩) (ob := True ∧ True) (by kernel_rfl) ⟨trivial, trivial⟩ ?_
      refine thenQ_normal ?_
      refine AW.ret ?_
      refine thenQ_ret ?_
      replace h := some_eq h
      subst h
      exact ⟨.inr rfl, retOK_of [(.one (.c (.int .i64 ((-1) : Int))))] (by kernel_rfl) ⟨⟨rfl, trivial⟩, trivial⟩ (of_decide_eq_true (by kernel_rfl))⟩
    · refine AW.cond_f rfl b6 ?_
      refine AW.skip ?_
      refine thenQ_normal ?_
      refine AW.seq ?_
      refine AW.regionA [] [4] [] (s' := ⟨[(4, (.v (.one (.c (.int .i64 v4)))))], []⟩) (ob := True ∧ True ∧ True) (by kernel_rfl) ⟨trivial, trivial, trivial⟩ ?_
      refine thenQ_normal ?_
      refine AW.ret ?_
      replace h := some_eq h
      subst h
      exact ⟨.inr rfl, retOK_of [(.one (.c (.int .i64 v4)))] (by kernel_rfl) ⟨⟨rfl, trivial⟩, trivial⟩ (of_decide_eq_true (by kernel_rfl))⟩

/-! laws.FnExactInPlace -/
def laws_FnExactInPlace (K : Nat) (a0 : Clip) : Option (Bool) :=
  (laws_szClip K a0 (1048576 : Int)).bind fun v1 => ite2 ((decide (v1 < (0 : Int)))) (some true) ((laws_toClip K a0).bind fun v4 => (spec_InPlace K v4).bind fun v6 => (laws_toClip K a0).bind fun v8 => (impl_InPlace K v8).bind fun v10 => (laws_eqClip K v10.1 v6.1).bind fun v12 => (ite2 ((!v12)) (some true) (some (!(v10.2 == v6.2)))).bind fun j15 => ite2 (j15) (some false) ((laws_toClip K a0).bind fun v18 => (laws_eqClip K v8 v18).bind fun v20 => ite2 ((!v20)) (some false) ((laws_markClip K v8 (1 : Int)).bind fun v23 => chk (v23.2.1.length = v8.Tracks.length) (chk (v23.2.2.length = v8.Roots.length) ((ite2 ((decide (v23.1 < (0 : Int)))) (some true) ((laws_eqClip K v10.1 v6.1).bind fun v28 => ite2 ((!v28)) (some true) (some (!(v10.2 == v6.2))))).bind fun j31 => ite2 (j31) (some false) ((laws_markClip K v10.1 (1 : Int)).bind fun v34 => chk (v34.2.1.length = v10.1.Tracks.length) (chk (v34.2.2.length = v10.1.Roots.length) ((laws_heldClip K (Clip.mk v10.1.Length v10.1.Kind v34.2.1 v34.2.2) (1 : Int)).bind fun v38 => ite2 ((decide (v38 < (0 : Int)))) (some false) (ite2 ((v38 != v34.1)) (some false) ((laws_toClip K a0).bind fun v42 => (impl_InPlace K v42).bind fun v44 => (laws_eqClip K v44.1 v6.1).bind fun v46 => (ite2 ((!v46)) (some true) (some (!(v44.2 == v6.2)))).bind fun j49 => ite2 (j49) (some false) ((laws_heldClip K (Clip.mk v10.1.Length v10.1.Kind v34.2.1 v34.2.2) (1 : Int)).bind fun v52 => ite2 ((decide (v52 < (0 : Int)))) (some false) (ite2 ((v52 != v34.1)) (some false) (some true)))))))))))))

theorem ok_laws_FnExactInPlace (K : Nat) (a0 : Clip) (o : (Bool)) (h : laws_FnExactInPlace K a0 = some o) : CallOK Try.prog 3 [.agg (cs_Clip a0)] [.one (.bool o)] := by
  refine callOK_of_AW Try.func3 rfl (by kernel_rfl) (Nat.le_of_ble_eq_true (by kernel_rfl)) ?_
  intro w0
  unfold laws_FnExactInPlace at h
  refine AW.seq ?_
  refine AW.regionA [.box 1] [1] [1] (s' := ⟨[(1, (.v (.one (.ptr 1 0))))], [(1, (.box [(.c (.int .i64 a0.Length)), (.c (.int .i64 a0.Kind)), (.c (sl 1 (csL 5 cs_Key) a0.Tracks)), (.c (sl 4 cs_RootKey a0.Roots))]))]⟩) (ob := True ∧ True ∧ True) (by kernel_rfl) ⟨trivial, trivial, trivial⟩ ?_
  refine thenQ_normal ?_
  refine AW.seq ?_
  refine AW.regionA [] [1, 3] [1] (s' := ⟨[(1, (.v (.one (.ptr 1 0)))), (3, (.v (.one (.c (.int .i64 (1048576 : Int))))))], [(1, (.box [(.c (.int .i64 a0.Length)), (.c (.int .i64 a0.Kind)), (.c (sl 1 (csL 5 cs_Key) a0.Tracks)), (.c (sl 4 cs_RootKey a0.Roots))]))]⟩) (ob := True ∧ True) (by kernel_rfl) ⟨trivial, trivial⟩ ?_
  refine thenQ_normal ?_
  refine AW.seq ?_
  obtain ⟨v1, e2, h⟩ := bind_some h
  refine AW.regionA [.no, .no, .call [.agg (cs_Clip a0), .one (.int .i64 (1048576 : Int))] [.one (.int .i64 v1)] [[.view]]] [1, 3] [1] (s' := ⟨[(1, (.v (.one (.ptr 1 0)))), (3, (.v (.one (.c (.int .i64 v1)))))], [(1, (.box [(.c (.int .i64 a0.Length)), (.c (.int .i64 a0.Kind)), (.c (sl 1 (csL 5 cs_Key) a0.Tracks)), (.c (sl 4 cs_RootKey a0.Roots))]))]⟩) (ob := True ∧ True ∧ ((((((.int .i64 a0.Length) : C) = (.int .i64 a0.Length)) ∧ (((.int .i64 a0.Kind) : C) = (.int .i64 a0.Kind)) ∧ (((sl 1 (csL 5 cs_Key) a0.Tracks) : C) = (sl 1 (csL 5 cs_Key) a0.Tracks)) ∧ (((sl 4 cs_RootKey a0.Roots) : C) = (sl 4 cs_RootKey a0.Roots)) ∧ True) ∧ (((.int .i64 (1048576 : Int)) : C) = (.int .i64 (1048576 : Int))) ∧ True) ∧ CallOK Try.prog 11 [.agg (cs_Clip a0), .one (.int .i64 (1048576 : Int))] [.one (.int .i64 v1)]) ∧ True ∧ True) (by kernel_rfl) ⟨trivial, trivial, ⟨⟨⟨rfl, rfl, rfl, rfl, trivial⟩, rfl, trivial⟩, ok_laws_szClip K a0 (1048576 : Int) v1 e2⟩, trivial, trivial⟩ ?_
  refine thenQ_normal ?_
  refine AW.seq ?_
  refine AW.seq ?_
  refine AW.regionA [] [1, 18] [1] (s' := ⟨[(1, (.v (.one (.ptr 1 0)))), (18, (.v (.one (.c (.bool (decide (v1 < (0 : Int))))))))], [(1, (.box [(.c (.int .i64 a0.Length)), (.c (.int .i64 a0.Kind)), (.c (sl 1 (csL 5 cs_Key) a0.Tracks)), (.c (sl 4 cs_RootKey a0.Roots))]))]⟩) (ob := True ∧ True ∧ True) (by kernel_rfl) ⟨trivial, trivial, trivial⟩ ?_
  refine thenQ_normal ?_
  rcases ite2_cases h with ⟨b3, h⟩ | ⟨b3, h⟩
  · refine AW.cond_t rfl b3 ?_
    refine AW.seq ?_
    refine AW.regionA [] [2] [] (s' := ⟨[(2, (.v (.one (.c (.bool true)))))], []⟩) (ob := True ∧ True) (by kernel_rfl) ⟨trivial, trivial⟩ ?_
    refine thenQ_normal ?_
    refine AW.ret ?_
    refine thenQ_ret ?_
    replace h := some_eq h
    subst h
    exact ⟨.inr rfl, retOK_of [(.one (.c (.bool true)))] (by kernel_rfl) ⟨⟨rfl, trivial⟩, trivial⟩ (of_decide_eq_true (by kernel_rfl))⟩
  · refine AW.cond_f rfl b3 ?_
    refine AW.skip ?_
    refine thenQ_normal ?_
    refine AW.seq ?_
    obtain ⟨v4, e5, h⟩ := bind_some h
    obtain ⟨v6, e7, h⟩ := bind_some h
    refine AW.regionA [.no, .call [.agg (cs_Clip a0)] [.agg (cs_Clip v4)] [[.view, .view, .lst 2, .lst 3]], .call [.agg (cs_Clip v4)] [.agg (cs_Clip v6.1), .one (.bool v6.2)] [[.view, .view, .lst 4, .lst 5], [.view]], .no, .no, .no, .box 6] [1, 4, 5] [1, 4, 5, 6] (s' := ⟨[(1, (.v (.one (.ptr 1 0)))), (4, (.v (.one (.ptr 6 0)))), (5, (.v (.one (.c (.bool v6.2)))))], [(1, (.box [(.c (.int .i64 a0.Length)), (.c (.int .i64 a0.Kind)), (.c (sl 1 (csL 5 cs_Key) a0.Tracks)), (.c (sl 4 cs_RootKey a0.Roots))])), (4, (.lst v6.1.Tracks.length 1 (gl (csL 5 cs_Key) v6.1.Tracks))), (5, (.lst v6.1.Roots.length 4 (gl cs_RootKey v6.1.Roots))), (6, (.box [(.c (.int .i64 v6.1.Length)), (.c (.int .i64 v6.1.Kind)), (.lst 4 v6.1.Tracks.length 1 (gl (csL 5 cs_Key) v6.1.Tracks)), (.lst 5 v6.1.Roots.length 4 (gl cs_RootKey v6.1.Roots))]))]⟩) (ob := True ∧ ((((((.int .i64 a0.Length) : C) = (.int .i64 a0.Length)) ∧ (((.int .i64 a0.Kind) : C) = (.int .i64 a0.Kind)) ∧ (((sl 1 (csL 5 cs_Key) a0.Tracks) : C) = (sl 1 (csL 5 cs_Key) a0.Tracks)) ∧ (((sl 4 cs_RootKey a0.Roots) : C) = (sl 4 cs_RootKey a0.Roots)) ∧ True) ∧ True) ∧ CallOK Try.prog 13 [.agg (cs_Clip a0)] [.agg (cs_Clip v4)]) ∧ ((((((.int .i64 v4.Length) : C) = (.int .i64 v4.Length)) ∧ (((.int .i64 v4.Kind) : C) = (.int .i64 v4.Kind)) ∧ (((sl 1 (csL 5 cs_Key) v4.Tracks) : C) = (sl 1 (csL 5 cs_Key) v4.Tracks)) ∧ (((sl 4 cs_RootKey v4.Roots) : C) = (sl 4 cs_RootKey v4.Roots)) ∧ True) ∧ True) ∧ CallOK Try.prog 12 [.agg (cs_Clip v4)] [.agg (cs_Clip v6.1), .one (.bool v6.2)]) ∧ True ∧ True ∧ True ∧ True ∧ True ∧ True ∧ True) (by kernel_rfl) ⟨trivial, ⟨⟨⟨rfl, rfl, rfl, rfl, trivial⟩, trivial⟩, ok_laws_toClip K a0 v4 e5⟩, ⟨⟨⟨rfl, rfl, rfl, rfl, trivial⟩, trivial⟩, ok_spec_InPlace K v4 v6 e7⟩, trivial, trivial, trivial, trivial, trivial, trivial, trivial⟩ ?_
    refine thenQ_normal ?_
    refine AW.seq ?_
    obtain ⟨v8, e9, h⟩ := bind_some h
    refine AW.regionA [.no, .call [.agg (cs_Clip a0)] [.agg (cs_Clip v8)] [[.view, .view, .own 7, .own 8]], .box 9] [1, 4, 5, 6] [1, 4, 5, 6, 7, 8, 9] (s' := ⟨[(1, (.v (.one (.ptr 1 0)))), (4, (.v (.one (.ptr 6 0)))), (5, (.v (.one (.c (.bool v6.2))))), (6, (.v (.one (.ptr 9 0))))], [(1, (.box [(.c (.int .i64 a0.Length)), (.c (.int .i64 a0.Kind)), (.c (sl 1 (csL 5 cs_Key) a0.Tracks)), (.c (sl 4 cs_RootKey a0.Roots))])), (4, (.lst v6.1.Tracks.length 1 (gl (csL 5 cs_Key) v6.1.Tracks))), (5, (.lst v6.1.Roots.length 4 (gl cs_RootKey v6.1.Roots))), (6, (.box [(.c (.int .i64 v6.1.Length)), (.c (.int .i64 v6.1.Kind)), (.lst 4 v6.1.Tracks.length 1 (gl (csL 5 cs_Key) v6.1.Tracks)), (.lst 5 v6.1.Roots.length 4 (gl cs_RootKey v6.1.Roots))])), (7, (.arr true v8.Tracks.length 1 (gl (csL 5 cs_Key) v8.Tracks))), (8, (.arr true v8.Roots.length 4 (gl cs_RootKey v8.Roots))), (9, (.box [(.c (.int .i64 v8.Length)), (.c (.int .i64 v8.Kind)), (.arr 7), (.arr 8)]))]⟩) (ob := True ∧ ((((((.int .i64 a0.Length) : C) = (.int .i64 a0.Length)) ∧ (((.int .i64 a0.Kind) : C) = (.int .i64 a0.Kind)) ∧ (((sl 1 (csL 5 cs_Key) a0.Tracks) : C) = (sl 1 (csL 5 cs_Key) a0.Tracks)) ∧ (((sl 4 cs_RootKey a0.Roots) : C) = (sl 4 cs_RootKey a0.Roots)) ∧ True) ∧ True) ∧ CallOK Try.prog 13 [.agg (cs_Clip a0)] [.agg (cs_Clip v8)]) ∧ True ∧ True ∧ True) (by kernel_rfl) ⟨trivial, ⟨⟨⟨rfl, rfl, rfl, rfl, trivial⟩, trivial⟩, ok_laws_toClip K a0 v8 e9⟩, trivial, trivial, trivial⟩ ?_
    refine thenQ_normal ?_
    refine AW.seq ?_
    obtain ⟨v10, e11, h⟩ := bind_some h
    refine AW.regionA [.no, .call [.agg (cs_Clip v8)] [.agg (cs_Clip v10.1), .one (.bool v10.2)] [[.view, .view, .own 10, .own 11], [.view]], .no, .no, .no, .box 12] [1, 4, 5, 6, 7, 8] [1, 4, 5, 6, 7, 8, 9, 10, 11, 12] (s' := ⟨[(1, (.v (.one (.ptr 1 0)))), (4, (.v (.one (.ptr 6 0)))), (5, (.v (.one (.c (.bool v6.2))))), (6, (.v (.one (.ptr 9 0)))), (7, (.v (.one (.ptr 12 0)))), (8, (.v (.one (.c (.bool v10.2)))))], [(1, (.box [(.c (.int .i64 a0.Length)), (.c (.int .i64 a0.Kind)), (.c (sl 1 (csL 5 cs_Key) a0.Tracks)), (.c (sl 4 cs_RootKey a0.Roots))])), (4, (.lst v6.1.Tracks.length 1 (gl (csL 5 cs_Key) v6.1.Tracks))), (5, (.lst v6.1.Roots.length 4 (gl cs_RootKey v6.1.Roots))), (6, (.box [(.c (.int .i64 v6.1.Length)), (.c (.int .i64 v6.1.Kind)), (.lst 4 v6.1.Tracks.length 1 (gl (csL 5 cs_Key) v6.1.Tracks)), (.lst 5 v6.1.Roots.length 4 (gl cs_RootKey v6.1.Roots))])), (7, (.arr true v8.Tracks.length 1 (gl (csL 5 cs_Key) v8.Tracks))), (8, (.arr true v8.Roots.length 4 (gl cs_RootKey v8.Roots))), (9, (.box [(.c (.int .i64 v8.Length)), (.c (.int .i64 v8.Kind)), (.arr 7), (.arr 8)])), (10, (.arr true v10.1.Tracks.length 1 (gl (csL 5 cs_Key) v10.1.Tracks))), (11, (.arr true v10.1.Roots.length 4 (gl cs_RootKey v10.1.Roots))), (12, (.box [(.c (.int .i64 v10.1.Length)), (.c (.int .i64 v10.1.Kind)), (.arr 10), (.arr 11)]))]⟩) (ob := True ∧ ((((((.int .i64 v8.Length) : C) = (.int .i64 v8.Length)) ∧ (((.int .i64 v8.Kind) : C) = (.int .i64 v8.Kind)) ∧ (((sl 1 (csL 5 cs_Key) v8.Tracks) : C) = (sl 1 (csL 5 cs_Key) v8.Tracks)) ∧ (((sl 4 cs_RootKey v8.Roots) : C) = (sl 4 cs_RootKey v8.Roots)) ∧ True) ∧ True) ∧ CallOK Try.prog 14 [.agg (cs_Clip v8)] [.agg (cs_Clip v10.1), .one (.bool v10.2)]) ∧ True ∧ True ∧ True ∧ True ∧ True ∧ True ∧ True) (by kernel_rfl) ⟨trivial, ⟨⟨⟨rfl, rfl, rfl, rfl, trivial⟩, trivial⟩, ok_impl_InPlace K v8 v10 e11⟩, trivial, trivial, trivial, trivial, trivial, trivial, trivial⟩ ?_
    refine thenQ_normal ?_
    refine AW.seq ?_
    refine AW.seq ?_
    obtain ⟨v12, e13, h⟩ := bind_some h
    obtain ⟨j15, e16, h⟩ := bind_some h
    refine AW.join1 (s2 := ⟨[(1, (.v (.one (.ptr 1 0)))), (4, (.v (.one (.ptr 6 0)))), (5, (.v (.one (.c (.bool v6.2))))), (6, (.v (.one (.ptr 9 0)))), (7, (.v (.one (.ptr 12 0)))), (8, (.v (.one (.c (.bool v10.2))))), (40, (.v (.one (.c (.bool j15)))))], [(1, (.box [(.c (.int .i64 a0.Length)), (.c (.int .i64 a0.Kind)), (.c (sl 1 (csL 5 cs_Key) a0.Tracks)), (.c (sl 4 cs_RootKey a0.Roots))])), (4, (.lst v6.1.Tracks.length 1 (gl (csL 5 cs_Key) v6.1.Tracks))), (5, (.lst v6.1.Roots.length 4 (gl cs_RootKey v6.1.Roots))), (6, (.box [(.c (.int .i64 v6.1.Length)), (.c (.int .i64 v6.1.Kind)), (.lst 4 v6.1.Tracks.length 1 (gl (csL 5 cs_Key) v6.1.Tracks)), (.lst 5 v6.1.Roots.length 4 (gl cs_RootKey v6.1.Roots))])), (7, (.arr true v8.Tracks.length 1 (gl (csL 5 cs_Key) v8.Tracks))), (8, (.arr true v8.Roots.length 4 (gl cs_RootKey v8.Roots))), (9, (.box [(.c (.int .i64 v8.Length)), (.c (.int .i64 v8.Kind)), (.arr 7), (.arr 8)])), (10, (.arr true v10.1.Tracks.length 1 (gl (csL 5 cs_Key) v10.1.Tracks))), (11, (.arr true v10.1.Roots.length 4 (gl cs_RootKey v10.1.Roots))), (12, (.box [(.c (.int .i64 v10.1.Length)), (.c (.int .i64 v10.1.Kind)), (.arr 10), (.arr 11)]))]⟩) ?_ ?_
    · rcases ite2_cases e16 with ⟨b14, e16⟩ | ⟨b14, e16⟩
      · replace e16 := some_eq e16
        subst e16
        exact AW.regionA [.no, .no, .call [.agg (cs_Clip v10.1), .agg (cs_Clip v6.1)] [.one (.bool v12)] [[.view]], .no, .dec true] [1, 4, 5, 6, 7, 8, 40] [1, 4, 5, 6, 7, 8, 9, 10, 11, 12] (s' := ⟨[(1, (.v (.one (.ptr 1 0)))), (4, (.v (.one (.ptr 6 0)))), (5, (.v (.one (.c (.bool v6.2))))), (6, (.v (.one (.ptr 9 0)))), (7, (.v (.one (.ptr 12 0)))), (8, (.v (.one (.c (.bool v10.2))))), (40, (.v (.one (.c (.bool true)))))], [(1, (.box [(.c (.int .i64 a0.Length)), (.c (.int .i64 a0.Kind)), (.c (sl 1 (csL 5 cs_Key) a0.Tracks)), (.c (sl 4 cs_RootKey a0.Roots))])), (4, (.lst v6.1.Tracks.length 1 (gl (csL 5 cs_Key) v6.1.Tracks))), (5, (.lst v6.1.Roots.length 4 (gl cs_RootKey v6.1.Roots))), (6, (.box [(.c (.int .i64 v6.1.Length)), (.c (.int .i64 v6.1.Kind)), (.lst 4 v6.1.Tracks.length 1 (gl (csL 5 cs_Key) v6.1.Tracks)), (.lst 5 v6.1.Roots.length 4 (gl cs_RootKey v6.1.Roots))])), (7, (.arr true v8.Tracks.length 1 (gl (csL 5 cs_Key) v8.Tracks))), (8, (.arr true v8.Roots.length 4 (gl cs_RootKey v8.Roots))), (9, (.box [(.c (.int .i64 v8.Length)), (.c (.int .i64 v8.Kind)), (.arr 7), (.arr 8)])), (10, (.arr true v10.1.Tracks.length 1 (gl (csL 5 cs_Key) v10.1.Tracks))), (11, (.arr true v10.1.Roots.length 4 (gl cs_RootKey v10.1.Roots))), (12, (.box [(.c (.int .i64 v10.1.Length)), (.c (.int .i64 v10.1.Kind)), (.arr 10), (.arr 11)]))]⟩) (ob := True ∧ True ∧ ((((((.int .i64 v10.1.Length) : C) = (.int .i64 v10.1.Length)) ∧ (((.int .i64 v10.1.Kind) : C) = (.int .i64 v10.1.Kind)) ∧ (((sl 1 (csL 5 cs_Key) v10.1.Tracks) : C) = (sl 1 (csL 5 cs_Key) v10.1.Tracks)) ∧ (((sl 4 cs_RootKey v10.1.Roots) : C) = (sl 4 cs_RootKey v10.1.Roots)) ∧ True) ∧ ((((.int .i64 v6.1.Length) : C) = (.int .i64 v6.1.Length)) ∧ (((.int .i64 v6.1.Kind) : C) = (.int .i64 v6.1.Kind)) ∧ (((sl 1 (csL 5 cs_Key) v6.1.Tracks) : C) = (sl 1 (csL 5 cs_Key) v6.1.Tracks)) ∧ (((sl 4 cs_RootKey v6.1.Roots) : C) = (sl 4 cs_RootKey v6.1.Roots)) ∧ True) ∧ True) ∧ CallOK Try.prog 15 [.agg (cs_Clip v10.1), .agg (cs_Clip v6.1)] [.one (.bool v12)]) ∧ True ∧ (True ∧ (!v12) = true) ∧ True ∧ True ∧ True ∧ True ∧ True) (by kernel_rfl) ⟨trivial, trivial, ⟨⟨⟨rfl, rfl, rfl, rfl, trivial⟩, ⟨rfl, rfl, rfl, rfl, trivial⟩, trivial⟩, ok_laws_eqClip K v10.1 v6.1 v12 e13⟩, trivial, ⟨trivial, b14⟩, trivial, trivial, trivial, trivial, trivial⟩ ⟨rfl, rfl⟩
      · replace e16 := some_eq e16
        subst e16
        exact AW.regionA [.no, .no, .call [.agg (cs_Clip v10.1), .agg (cs_Clip v6.1)] [.one (.bool v12)] [[.view]], .no, .dec false] [1, 4, 5, 6, 7, 8, 40] [1, 4, 5, 6, 7, 8, 9, 10, 11, 12] (s' := ⟨[(1, (.v (.one (.ptr 1 0)))), (4, (.v (.one (.ptr 6 0)))), (5, (.v (.one (.c (.bool v6.2))))), (6, (.v (.one (.ptr 9 0)))), (7, (.v (.one (.ptr 12 0)))), (8, (.v (.one (.c (.bool v10.2))))), (40, (.v (.one (.c (.bool (!(v10.2 == v6.2)))))))], [(1, (.box [(.c (.int .i64 a0.Length)), (.c (.int .i64 a0.Kind)), (.c (sl 1 (csL 5 cs_Key) a0.Tracks)), (.c (sl 4 cs_RootKey a0.Roots))])), (4, (.lst v6.1.Tracks.length 1 (gl (csL 5 cs_Key) v6.1.Tracks))), (5, (.lst v6.1.Roots.length 4 (gl cs_RootKey v6.1.Roots))), (6, (.box [(.c (.int .i64 v6.1.Length)), (.c (.int .i64 v6.1.Kind)), (.lst 4 v6.1.Tracks.length 1 (gl (csL 5 cs_Key) v6.1.Tracks)), (.lst 5 v6.1.Roots.length 4 (gl cs_RootKey v6.1.Roots))])), (7, (.arr true v8.Tracks.length 1 (gl (csL 5 cs_Key) v8.Tracks))), (8, (.arr true v8.Roots.length 4 (gl cs_RootKey v8.Roots))), (9, (.box [(.c (.int .i64 v8.Length)), (.c (.int .i64 v8.Kind)), (.arr 7), (.arr 8)])), (10, (.arr true v10.1.Tracks.length 1 (gl (csL 5 cs_Key) v10.1.Tracks))), (11, (.arr true v10.1.Roots.length 4 (gl cs_RootKey v10.1.Roots))), (12, (.box [(.c (.int .i64 v10.1.Length)), (.c (.int .i64 v10.1.Kind)), (.arr 10), (.arr 11)]))]⟩) (ob := True ∧ True ∧ ((((((.int .i64 v10.1.Length) : C) = (.int .i64 v10.1.Length)) ∧ (((.int .i64 v10.1.Kind) : C) = (.int .i64 v10.1.Kind)) ∧ (((sl 1 (csL 5 cs_Key) v10.1.Tracks) : C) = (sl 1 (csL 5 cs_Key) v10.1.Tracks)) ∧ (((sl 4 cs_RootKey v10.1.Roots) : C) = (sl 4 cs_RootKey v10.1.Roots)) ∧ True) ∧ ((((.int .i64 v6.1.Length) : C) = (.int .i64 v6.1.Length)) ∧ (((.int .i64 v6.1.Kind) : C) = (.int .i64 v6.1.Kind)) ∧ (((sl 1 (csL 5 cs_Key) v6.1.Tracks) : C) = (sl 1 (csL 5 cs_Key) v6.1.Tracks)) ∧ (((sl 4 cs_RootKey v6.1.Roots) : C) = (sl 4 cs_RootKey v6.1.Roots)) ∧ True) ∧ True) ∧ CallOK Try.prog 15 [.agg (cs_Clip v10.1), .agg (cs_Clip v6.1)] [.one (.bool v12)]) ∧ True ∧ (True ∧ (!v12) = false) ∧ True ∧ True ∧ True ∧ True ∧ True) (by kernel_rfl) ⟨trivial, trivial, ⟨⟨⟨rfl, rfl, rfl, rfl, trivial⟩, ⟨rfl, rfl, rfl, rfl, trivial⟩, trivial⟩, ok_laws_eqClip K v10.1 v6.1 v12 e13⟩, trivial, ⟨trivial, b14⟩, trivial, trivial, trivial, trivial, trivial⟩ ⟨rfl, rfl⟩
    refine thenQ_normal ?_
    rcases ite2_cases h with ⟨b17, h⟩ | ⟨b17, h⟩
    · refine AW.cond_t rfl b17 ?_
      refine AW.seq ?_
      refine AW.regionA [] [2] [] (s' := ⟨[(2, (.v (.one (.c (.bool false)))))], []⟩) (ob := True ∧ True) (by kernel_rfl) ⟨trivial, trivial⟩ ?_
      refine thenQ_normal ?_
      refine AW.ret ?_
      refine thenQ_ret ?_
      replace h := some_eq h
      subst h
      exact ⟨.inr rfl, retOK_of [(.one (.c (.bool false)))] (by kernel_rfl) ⟨⟨rfl, trivial⟩, trivial⟩ (of_decide_eq_true (by kernel_rfl))⟩
    · refine AW.cond_f rfl b17 ?_
      refine AW.skip ?_
      refine thenQ_normal ?_
      refine AW.seq ?_
      refine AW.seq ?_
      obtain ⟨v18, e19, h⟩ := bind_some h
      obtain ⟨v20, e21, h⟩ := bind_some h
      refine AW.drawnA (by kernel_rfl) 5 [.no, .no, .call [.agg (cs_Clip a0)] [.agg (cs_Clip v18)] [[.view, .view, .lst 13, .lst 14]], .call [.agg (cs_Clip v8), .agg (cs_Clip v18)] [.one (.bool v20)] [[.view]]] [1, 4, 5, 6, 7, 8, 45] [1, 4, 5, 6, 7, 8, 9, 10, 11, 12] (s' := ⟨[(1, (.v (.one (.ptr 1 0)))), (4, (.v (.one (.ptr 6 0)))), (5, (.v (.one (.c (.bool v6.2))))), (6, (.v (.one (.ptr 9 0)))), (7, (.v (.one (.ptr 12 0)))), (8, (.v (.one (.c (.bool v10.2))))), (45, (.v (.one (.c (.bool (!v20))))))], [(1, (.box [(.c (.int .i64 a0.Length)), (.c (.int .i64 a0.Kind)), (.c (sl 1 (csL 5 cs_Key) a0.Tracks)), (.c (sl 4 cs_RootKey a0.Roots))])), (4, (.lst v6.1.Tracks.length 1 (gl (csL 5 cs_Key) v6.1.Tracks))), (5, (.lst v6.1.Roots.length 4 (gl cs_RootKey v6.1.Roots))), (6, (.box [(.c (.int .i64 v6.1.Length)), (.c (.int .i64 v6.1.Kind)), (.lst 4 v6.1.Tracks.length 1 (gl (csL 5 cs_Key) v6.1.Tracks)), (.lst 5 v6.1.Roots.length 4 (gl cs_RootKey v6.1.Roots))])), (7, (.arr true v8.Tracks.length 1 (gl (csL 5 cs_Key) v8.Tracks))), (8, (.arr true v8.Roots.length 4 (gl cs_RootKey v8.Roots))), (9, (.box [(.c (.int .i64 v8.Length)), (.c (.int .i64 v8.Kind)), (.arr 7), (.arr 8)])), (10, (.arr true v10.1.Tracks.length 1 (gl (csL 5 cs_Key) v10.1.Tracks))), (11, (.arr true v10.1.Roots.length 4 (gl cs_RootKey v10.1.Roots))), (12, (.box [(.c (.int .i64 v10.1.Length)), (.c (.int .i64 v10.1.Kind)), (.arr 10), (.arr 11)]))]⟩) (ob := (True ∧ True ∧ ((((((.int .i64 a0.Length) : C) = (.int .i64 a0.Length)) ∧ (((.int .i64 a0.Kind) : C) = (.int .i64 a0.Kind)) ∧ (((sl 1 (csL 5 cs_Key) a0.Tracks) : C) = (sl 1 (csL 5 cs_Key) a0.Tracks)) ∧ (((sl 4 cs_RootKey a0.Roots) : C) = (sl 4 cs_RootKey a0.Roots)) ∧ True) ∧ True) ∧ CallOK Try.prog 13 [.agg (cs_Clip a0)] [.agg (cs_Clip v18)]) ∧ ((((((.int .i64 v8.Length) : C) = (.int .i64 v8.Length)) ∧ (((.int .i64 v8.Kind) : C) = (.int .i64 v8.Kind)) ∧ (((sl 1 (csL 5 cs_Key) v8.Tracks) : C) = (sl 1 (csL 5 cs_Key) v8.Tracks)) ∧ (((sl 4 cs_RootKey v8.Roots) : C) = (sl 4 cs_RootKey v8.Roots)) ∧ True) ∧ ((((.int .i64 v18.Length) : C) = (.int .i64 v18.Length)) ∧ (((.int .i64 v18.Kind) : C) = (.int .i64 v18.Kind)) ∧ (((sl 1 (csL 5 cs_Key) v18.Tracks) : C) = (sl 1 (csL 5 cs_Key) v18.Tracks)) ∧ (((sl 4 cs_RootKey v18.Roots) : C) = (sl 4 cs_RootKey v18.Roots)) ∧ True) ∧ True) ∧ CallOK Try.prog 15 [.agg (cs_Clip v8), .agg (cs_Clip v18)] [.one (.bool v20)]) ∧ True ∧ True) ∧ (True)) (by kernel_rfl) ⟨⟨trivial, trivial, ⟨⟨⟨rfl, rfl, rfl, rfl, trivial⟩, trivial⟩, ok_laws_toClip K a0 v18 e19⟩, ⟨⟨⟨rfl, rfl, rfl, rfl, trivial⟩, ⟨rfl, rfl, rfl, rfl, trivial⟩, trivial⟩, ok_laws_eqClip K v8 v18 v20 e21⟩, trivial, trivial⟩, trivial⟩ ?_
      refine thenQ_normal ?_
      rcases ite2_cases h with ⟨b22, h⟩ | ⟨b22, h⟩
      · refine AW.cond_t rfl b22 ?_
        refine AW.seq ?_
        refine AW.regionA [] [2] [] (s' := ⟨[(2, (.v (.one (.c (.bool false)))))], []⟩) (ob := True ∧ True) (by kernel_rfl) ⟨trivial, trivial⟩ ?_
        refine thenQ_normal ?_
        refine AW.ret ?_
        refine thenQ_ret ?_
        replace h := some_eq h
        subst h
        exact ⟨.inr rfl, retOK_of [(.one (.c (.bool false)))] (by kernel_rfl) ⟨⟨rfl, trivial⟩, trivial⟩ (of_decide_eq_true (by kernel_rfl))⟩
      · refine AW.cond_f rfl b22 ?_
        refine AW.skip ?_
        refine thenQ_normal ?_
        refine AW.seq ?_
        refine AW.regionA [] [1, 4, 5, 6, 7, 8, 9] [1, 4, 5, 6, 7, 8, 9, 10, 11, 12] (s' := ⟨[(1, (.v (.one (.ptr 1 0)))), (4, (.v (.one (.ptr 6 0)))), (5, (.v (.one (.c (.bool v6.2))))), (6, (.v (.one (.ptr 9 0)))), (7, (.v (.one (.ptr 12 0)))), (8, (.v (.one (.c (.bool v10.2))))), (9, (.v (.one (.c (.int .i64 (1 : Int))))))], [(1, (.box [(.c (.int .i64 a0.Length)), (.c (.int .i64 a0.Kind)), (.c (sl 1 (csL 5 cs_Key) a0.Tracks)), (.c (sl 4 cs_RootKey a0.Roots))])), (4, (.lst v6.1.Tracks.length 1 (gl (csL 5 cs_Key) v6.1.Tracks))), (5, (.lst v6.1.Roots.length 4 (gl cs_RootKey v6.1.Roots))), (6, (.box [(.c (.int .i64 v6.1.Length)), (.c (.int .i64 v6.1.Kind)), (.lst 4 v6.1.Tracks.length 1 (gl (csL 5 cs_Key) v6.1.Tracks)), (.lst 5 v6.1.Roots.length 4 (gl cs_RootKey v6.1.Roots))])), (7, (.arr true v8.Tracks.length 1 (gl (csL 5 cs_Key) v8.Tracks))), (8, (.arr true v8.Roots.length 4 (gl cs_RootKey v8.Roots))), (9, (.box [(.c (.int .i64 v8.Length)), (.c (.int .i64 v8.Kind)), (.arr 7), (.arr 8)])), (10, (.arr true v10.1.Tracks.length 1 (gl (csL 5 cs_Key) v10.1.Tracks))), (11, (.arr true v10.1.Roots.length 4 (gl cs_RootKey v10.1.Roots))), (12, (.box [(.c (.int .i64 v10.1.Length)), (.c (.int .i64 v10.1.Kind)), (.arr 10), (.arr 11)]))]⟩) (ob := True ∧ True) (by kernel_rfl) ⟨trivial, trivial⟩ ?_
        refine thenQ_normal ?_
        refine AW.seq ?_
        obtain ⟨v23, e24, h⟩ := bind_some h
        obtain ⟨c25, h⟩ := chk_some h
        obtain ⟨c26, h⟩ := chk_some h
        refine AW.regionA [.no, .no, .callM [(.agg [(.ro (.int .i64 v8.Length)), (.ro (.int .i64 v8.Kind)), (.mu (sl 1 (csL 5 cs_Key) v8.Tracks) (sl 1 (csL 5 cs_Key) v23.2.1)), (.mu (sl 4 cs_RootKey v8.Roots) (sl 4 cs_RootKey v23.2.2))]), .one (.ro (.int .i64 (1 : Int)))] [.one (.int .i64 v23.1)] [[.view]] none] [1, 4, 5, 7, 8, 9] [1, 4, 5, 6, 10, 11, 12] (s' := ⟨[(1, (.v (.one (.ptr 1 0)))), (4, (.v (.one (.ptr 6 0)))), (5, (.v (.one (.c (.bool v6.2))))), (7, (.v (.one (.ptr 12 0)))), (8, (.v (.one (.c (.bool v10.2))))), (9, (.v (.one (.c (.int .i64 v23.1)))))], [(1, (.box [(.c (.int .i64 a0.Length)), (.c (.int .i64 a0.Kind)), (.c (sl 1 (csL 5 cs_Key) a0.Tracks)), (.c (sl 4 cs_RootKey a0.Roots))])), (4, (.lst v6.1.Tracks.length 1 (gl (csL 5 cs_Key) v6.1.Tracks))), (5, (.lst v6.1.Roots.length 4 (gl cs_RootKey v6.1.Roots))), (6, (.box [(.c (.int .i64 v6.1.Length)), (.c (.int .i64 v6.1.Kind)), (.lst 4 v6.1.Tracks.length 1 (gl (csL 5 cs_Key) v6.1.Tracks)), (.lst 5 v6.1.Roots.length 4 (gl cs_RootKey v6.1.Roots))])), (10, (.arr true v10.1.Tracks.length 1 (gl (csL 5 cs_Key) v10.1.Tracks))), (11, (.arr true v10.1.Roots.length 4 (gl cs_RootKey v10.1.Roots))), (12, (.box [(.c (.int .i64 v10.1.Length)), (.c (.int .i64 v10.1.Kind)), (.arr 10), (.arr 11)]))]⟩) (ob := True ∧ True ∧ ((((((.int .i64 v8.Length) : C) = (.int .i64 v8.Length)) ∧ (((.int .i64 v8.Kind) : C) = (.int .i64 v8.Kind)) ∧ (((sl 1 (csL 5 cs_Key) v8.Tracks) : C) = (sl 1 (csL 5 cs_Key) v8.Tracks) ∧ v23.2.1.length = v8.Tracks.length ∧ 1 = 1 ∧ ∀ i j, i < v8.Tracks.length → j < 1 → isSeq (gl (csL 5 cs_Key) v23.2.1 i j) = isSeq (gl (csL 5 cs_Key) v8.Tracks i j)) ∧ (((sl 4 cs_RootKey v8.Roots) : C) = (sl 4 cs_RootKey v8.Roots) ∧ v23.2.2.length = v8.Roots.length ∧ 4 = 4 ∧ ∀ i j, i < v8.Roots.length → j < 4 → isSeq (gl cs_RootKey v23.2.2 i j) = isSeq (gl cs_RootKey v8.Roots i j)) ∧ True) ∧ (((.int .i64 (1 : Int)) : C) = (.int .i64 (1 : Int))) ∧ True) ∧ MutOK Try.prog 16 [(.agg [(.ro (.int .i64 v8.Length)), (.ro (.int .i64 v8.Kind)), (.mu (sl 1 (csL 5 cs_Key) v8.Tracks) (sl 1 (csL 5 cs_Key) v23.2.1)), (.mu (sl 4 cs_RootKey v8.Roots) (sl 4 cs_RootKey v23.2.2))]), .one (.ro (.int .i64 (1 : Int)))] [.one (.int .i64 v23.1)]) ∧ True ∧ True) (by kernel_rfl) ⟨trivial, trivial, ⟨⟨⟨rfl, rfl, ⟨rfl, c25, rfl, gl_seq (sq_slice)⟩, ⟨rfl, c26, rfl, gl_seq sq_RootKey⟩, trivial⟩, rfl, trivial⟩, ok_laws_markClip K v8 (1 : Int) v23 e24⟩, trivial, trivial⟩ ?_
        refine thenQ_normal ?_
        refine AW.seq ?_
        refine AW.seq ?_
        obtain ⟨j31, e32, h⟩ := bind_some h
        refine AW.join1 (s2 := ⟨[(1, (.v (.one (.ptr 1 0)))), (4, (.v (.one (.ptr 6 0)))), (5, (.v (.one (.c (.bool v6.2))))), (7, (.v (.one (.ptr 12 0)))), (61, (.v (.one (.c (.bool j31)))))], [(1, (.box [(.c (.int .i64 a0.Length)), (.c (.int .i64 a0.Kind)), (.c (sl 1 (csL 5 cs_Key) a0.Tracks)), (.c (sl 4 cs_RootKey a0.Roots))])), (4, (.lst v6.1.Tracks.length 1 (gl (csL 5 cs_Key) v6.1.Tracks))), (5, (.lst v6.1.Roots.length 4 (gl cs_RootKey v6.1.Roots))), (6, (.box [(.c (.int .i64 v6.1.Length)), (.c (.int .i64 v6.1.Kind)), (.lst 4 v6.1.Tracks.length 1 (gl (csL 5 cs_Key) v6.1.Tracks)), (.lst 5 v6.1.Roots.length 4 (gl cs_RootKey v6.1.Roots))])), (10, (.arr true v10.1.Tracks.length 1 (gl (csL 5 cs_Key) v10.1.Tracks))), (11, (.arr true v10.1.Roots.length 4 (gl cs_RootKey v10.1.Roots))), (12, (.box [(.c (.int .i64 v10.1.Length)), (.c (.int .i64 v10.1.Kind)), (.arr 10), (.arr 11)]))]⟩) ?_ ?_
        · rcases ite2_cases e32 with ⟨b27, e32⟩ | ⟨b27, e32⟩
          · replace e32 := some_eq e32
            subst e32
            exact AW.regionA [.no, .no, .dec true] [1, 4, 5, 7, 61] [1, 4, 5, 6, 10, 11, 12] (s' := ⟨[(1, (.v (.one (.ptr 1 0)))), (4, (.v (.one (.ptr 6 0)))), (5, (.v (.one (.c (.bool v6.2))))), (7, (.v (.one (.ptr 12 0)))), (61, (.v (.one (.c (.bool true)))))], [(1, (.box [(.c (.int .i64 a0.Length)), (.c (.int .i64 a0.Kind)), (.c (sl 1 (csL 5 cs_Key) a0.Tracks)), (.c (sl 4 cs_RootKey a0.Roots))])), (4, (.lst v6.1.Tracks.length 1 (gl (csL 5 cs_Key) v6.1.Tracks))), (5, (.lst v6.1.Roots.length 4 (gl cs_RootKey v6.1.Roots))), (6, (.box [(.c (.int .i64 v6.1.Length)), (.c (.int .i64 v6.1.Kind)), (.lst 4 v6.1.Tracks.length 1 (gl (csL 5 cs_Key) v6.1.Tracks)), (.lst 5 v6.1.Roots.length 4 (gl cs_RootKey v6.1.Roots))])), (10, (.arr true v10.1.Tracks.length 1 (gl (csL 5 cs_Key) v10.1.Tracks))), (11, (.arr true v10.1.Roots.length 4 (gl cs_RootKey v10.1.Roots))), (12, (.box [(.c (.int .i64 v10.1.Length)), (.c (.int .i64 v10.1.Kind)), (.arr 10), (.arr 11)]))]⟩) (ob := True ∧ True ∧ (True ∧ (decide (v23.1 < (0 : Int))) = true) ∧ True ∧ True ∧ True ∧ True ∧ True ∧ True ∧ True ∧ True ∧ True ∧ True ∧ True) (by kernel_rfl) ⟨trivial, trivial, ⟨trivial, b27⟩, trivial, trivial, trivial, trivial, trivial, trivial, trivial, trivial, trivial, trivial, trivial⟩ ⟨rfl, rfl⟩
          · obtain ⟨v28, e29, e32⟩ := bind_some e32
            rcases ite2_cases e32 with ⟨b30, e32⟩ | ⟨b30, e32⟩
            · replace e32 := some_eq e32
              subst e32
              exact AW.regionA [.no, .no, .dec false, .no, .no, .call [.agg (cs_Clip v10.1), .agg (cs_Clip v6.1)] [.one (.bool v28)] [[.view]], .no, .no, .dec true] [1, 4, 5, 7, 61] [1, 4, 5, 6, 10, 11, 12] (s' := ⟨[(1, (.v (.one (.ptr 1 0)))), (4, (.v (.one (.ptr 6 0)))), (5, (.v (.one (.c (.bool v6.2))))), (7, (.v (.one (.ptr 12 0)))), (61, (.v (.one (.c (.bool true)))))], [(1, (.box [(.c (.int .i64 a0.Length)), (.c (.int .i64 a0.Kind)), (.c (sl 1 (csL 5 cs_Key) a0.Tracks)), (.c (sl 4 cs_RootKey a0.Roots))])), (4, (.lst v6.1.Tracks.length 1 (gl (csL 5 cs_Key) v6.1.Tracks))), (5, (.lst v6.1.Roots.length 4 (gl cs_RootKey v6.1.Roots))), (6, (.box [(.c (.int .i64 v6.1.Length)), (.c (.int .i64 v6.1.Kind)), (.lst 4 v6.1.Tracks.length 1 (gl (csL 5 cs_Key) v6.1.Tracks)), (.lst 5 v6.1.Roots.length 4 (gl cs_RootKey v6.1.Roots))])), (10, (.arr true v10.1.Tracks.length 1 (gl (csL 5 cs_Key) v10.1.Tracks))), (11, (.arr true v10.1.Roots.length 4 (gl cs_RootKey v10.1.Roots))), (12, (.box [(.c (.int .i64 v10.1.Length)), (.c (.int .i64 v10.1.Kind)), (.arr 10), (.arr 11)]))]⟩) (ob := True ∧ True ∧ (True ∧ (decide (v23.1 < (0 : Int))) = false) ∧ True ∧ True ∧ ((((((.int .i64 v10.1.Length) : C) = (.int .i64 v10.1.Length)) ∧ (((.int .i64 v10.1.Kind) : C) = (.int .i64 v10.1.Kind)) ∧ (((sl 1 (csL 5 cs_Key) v10.1.Tracks) : C) = (sl 1 (csL 5 cs_Key) v10.1.Tracks)) ∧ (((sl 4 cs_RootKey v10.1.Roots) : C) = (sl 4 cs_RootKey v10.1.Roots)) ∧ True) ∧ ((((.int .i64 v6.1.Length) : C) = (.int .i64 v6.1.Length)) ∧ (((.int .i64 v6.1.Kind) : C) = (.int .i64 v6.1.Kind)) ∧ (((sl 1 (csL 5 cs_Key) v6.1.Tracks) : C) = (sl 1 (csL 5 cs_Key) v6.1.Tracks)) ∧ (((sl 4 cs_RootKey v6.1.Roots) : C) = (sl 4 cs_RootKey v6.1.Roots)) ∧ True) ∧ True) ∧ CallOK Try.prog 15 [.agg (cs_Clip v10.1), .agg (cs_Clip v6.1)] [.one (.bool v28)]) ∧ True ∧ True ∧ (True ∧ (!v28) = true) ∧ True ∧ True ∧ True ∧ True ∧ True) (by kernel_rfl) ⟨trivial, trivial, ⟨trivial, b27⟩, trivial, trivial, ⟨⟨⟨rfl, rfl, rfl, rfl, trivial⟩, ⟨rfl, rfl, rfl, rfl, trivial⟩, trivial⟩, ok_laws_eqClip K v10.1 v6.1 v28 e29⟩, trivial, trivial, ⟨trivial, b30⟩, trivial, trivial, trivial, trivial, trivial⟩ ⟨rfl, rfl⟩
            · replace e32 := some_eq e32
              subst e32
              exact AW.regionA [.no, .no, .dec false, .no, .no, .call [.agg (cs_Clip v10.1), .agg (cs_Clip v6.1)] [.one (.bool v28)] [[.view]], .no, .no, .dec false] [1, 4, 5, 7, 61] [1, 4, 5, 6, 10, 11, 12] (s' := ⟨[(1, (.v (.one (.ptr 1 0)))), (4, (.v (.one (.ptr 6 0)))), (5, (.v (.one (.c (.bool v6.2))))), (7, (.v (.one (.ptr 12 0)))), (61, (.v (.one (.c (.bool (!(v10.2 == v6.2)))))))], [(1, (.box [(.c (.int .i64 a0.Length)), (.c (.int .i64 a0.Kind)), (.c (sl 1 (csL 5 cs_Key) a0.Tracks)), (.c (sl 4 cs_RootKey a0.Roots))])), (4, (.lst v6.1.Tracks.length 1 (gl (csL 5 cs_Key) v6.1.Tracks))), (5, (.lst v6.1.Roots.length 4 (gl cs_RootKey v6.1.Roots))), (6, (.box [(.c (.int .i64 v6.1.Length)), (.c (.int .i64 v6.1.Kind)), (.lst 4 v6.1.Tracks.length 1 (gl (csL 5 cs_Key) v6.1.Tracks)), (.lst 5 v6.1.Roots.length 4 (gl cs_RootKey v6.1.Roots))])), (10, (.arr true v10.1.Tracks.length 1 (gl (csL 5 cs_Key) v10.1.Tracks))), (11, (.arr true v10.1.Roots.length 4 (gl cs_RootKey v10.1.Roots))), (12, (.box [(.c (.int .i64 v10.1.Length)), (.c (.int .i64 v10.1.Kind)), (.arr 10), (.arr 11)]))]⟩) (ob := True ∧ True ∧ (True ∧ (decide (v23.1 < (0 : Int))) = false) ∧ True ∧ True ∧ ((((((.int .i64 v10.1.Length) : C) = (.int .i64 v10.1.Length)) ∧ (((.int .i64 v10.1.Kind) : C) = (.int .i64 v10.1.Kind)) ∧ (((sl 1 (csL 5 cs_Key) v10.1.Tracks) : C) = (sl 1 (csL 5 cs_Key) v10.1.Tracks)) ∧ (((sl 4 cs_RootKey v10.1.Roots) : C) = (sl 4 cs_RootKey v10.1.Roots)) ∧ True) ∧ ((((.int .i64 v6.1.Length) : C) = (.int .i64 v6.1.Length)) ∧ (((.int .i64 v6.1.Kind) : C) = (.int .i64 v6.1.Kind)) ∧ (((sl 1 (csL 5 cs_Key) v6.1.Tracks) : C) = (sl 1 (csL 5 cs_Key) v6.1.Tracks)) ∧ (((sl 4 cs_RootKey v6.1.Roots) : C) = (sl 4 cs_RootKey v6.1.Roots)) ∧ True) ∧ True) ∧ CallOK Try.prog 15 [.agg (cs_Clip v10.1), .agg (cs_Clip v6.1)] [.one (.bool v28)]) ∧ True ∧ True ∧ (True ∧ (!v28) = false) ∧ True ∧ True ∧ True ∧ True ∧ True) (by kernel_rfl) ⟨trivial, trivial, ⟨trivial, b27⟩, trivial, trivial, ⟨⟨⟨rfl, rfl, rfl, rfl, trivial⟩, ⟨rfl, rfl, rfl, rfl, trivial⟩, trivial⟩, ok_laws_eqClip K v10.1 v6.1 v28 e29⟩, trivial, trivial, ⟨trivial, b30⟩, trivial, trivial, trivial, trivial, trivial⟩ ⟨rfl, rfl⟩
        refine thenQ_normal ?_
        rcases ite2_cases h with ⟨b33, h⟩ | ⟨b33, h⟩
        · refine AW.cond_t rfl b33 ?_
          refine AW.seq ?_
          refine AW.regionA [] [2] [] (s' := ⟨[(2, (.v (.one (.c (.bool false)))))], []⟩) (ob := True ∧ True) (by kernel_rfl) ⟨trivial, trivial⟩ ?_
          refine thenQ_normal ?_
          refine AW.ret ?_
          refine thenQ_ret ?_
          replace h := some_eq h
          subst h
          exact ⟨.inr rfl, retOK_of [(.one (.c (.bool false)))] (by kernel_rfl) ⟨⟨rfl, trivial⟩, trivial⟩ (of_decide_eq_true (by kernel_rfl))⟩
        · refine AW.cond_f rfl b33 ?_
          refine AW.skip ?_
          refine thenQ_normal ?_
          refine AW.seq ?_
          refine AW.regionA [] [1, 4, 5, 7, 10] [1, 4, 5, 6, 10, 11, 12] (s' := ⟨[(1, (.v (.one (.ptr 1 0)))), (4, (.v (.one (.ptr 6 0)))), (5, (.v (.one (.c (.bool v6.2))))), (7, (.v (.one (.ptr 12 0)))), (10, (.v (.one (.c (.int .i64 (1 : Int))))))], [(1, (.box [(.c (.int .i64 a0.Length)), (.c (.int .i64 a0.Kind)), (.c (sl 1 (csL 5 cs_Key) a0.Tracks)), (.c (sl 4 cs_RootKey a0.Roots))])), (4, (.lst v6.1.Tracks.length 1 (gl (csL 5 cs_Key) v6.1.Tracks))), (5, (.lst v6.1.Roots.length 4 (gl cs_RootKey v6.1.Roots))), (6, (.box [(.c (.int .i64 v6.1.Length)), (.c (.int .i64 v6.1.Kind)), (.lst 4 v6.1.Tracks.length 1 (gl (csL 5 cs_Key) v6.1.Tracks)), (.lst 5 v6.1.Roots.length 4 (gl cs_RootKey v6.1.Roots))])), (10, (.arr true v10.1.Tracks.length 1 (gl (csL 5 cs_Key) v10.1.Tracks))), (11, (.arr true v10.1.Roots.length 4 (gl cs_RootKey v10.1.Roots))), (12, (.box [(.c (.int .i64 v10.1.Length)), (.c (.int .i64 v10.1.Kind)), (.arr 10), (.arr 11)]))]⟩) (ob := True ∧ True) (by kernel_rfl) ⟨trivial, trivial⟩ ?_
          refine thenQ_normal ?_
          refine AW.seq ?_
          obtain ⟨v34, e35, h⟩ := bind_some h
          obtain ⟨c36, h⟩ := chk_some h
          obtain ⟨c37, h⟩ := chk_some h
          refine AW.regionA [.no, .no, .callM [(.agg [(.ro (.int .i64 v10.1.Length)), (.ro (.int .i64 v10.1.Kind)), (.mu (sl 1 (csL 5 cs_Key) v10.1.Tracks) (sl 1 (csL 5 cs_Key) v34.2.1)), (.mu (sl 4 cs_RootKey v10.1.Roots) (sl 4 cs_RootKey v34.2.2))]), .one (.ro (.int .i64 (1 : Int)))] [.one (.int .i64 v34.1)] [[.view]] none] [1, 4, 5, 7, 10] [1, 4, 5, 6, 10, 11, 12] (s' := ⟨[(1, (.v (.one (.ptr 1 0)))), (4, (.v (.one (.ptr 6 0)))), (5, (.v (.one (.c (.bool v6.2))))), (7, (.v (.one (.ptr 12 0)))), (10, (.v (.one (.c (.int .i64 v34.1)))))], [(1, (.box [(.c (.int .i64 a0.Length)), (.c (.int .i64 a0.Kind)), (.c (sl 1 (csL 5 cs_Key) a0.Tracks)), (.c (sl 4 cs_RootKey a0.Roots))])), (4, (.lst v6.1.Tracks.length 1 (gl (csL 5 cs_Key) v6.1.Tracks))), (5, (.lst v6.1.Roots.length 4 (gl cs_RootKey v6.1.Roots))), (6, (.box [(.c (.int .i64 v6.1.Length)), (.c (.int .i64 v6.1.Kind)), (.lst 4 v6.1.Tracks.length 1 (gl (csL 5 cs_Key) v6.1.Tracks)), (.lst 5 v6.1.Roots.length 4 (gl cs_RootKey v6.1.Roots))])), (10, (.arr true v34.2.1.length 1 (gl (csL 5 cs_Key) v34.2.1))), (11, (.arr true v34.2.2.length 4 (gl cs_RootKey v34.2.2))), (12, (.box [(.c (.int .i64 v10.1.Length)), (.c (.int .i64 v10.1.Kind)), (.arr 10), (.arr 11)]))]⟩) (ob := True ∧ True ∧ ((((((.int .i64 v10.1.Length) : C) = (.int .i64 v10.1.Length)) ∧ (((.int .i64 v10.1.Kind) : C) = (.int .i64 v10.1.Kind)) ∧ (((sl 1 (csL 5 cs_Key) v10.1.Tracks) : C) = (sl 1 (csL 5 cs_Key) v10.1.Tracks) ∧ v34.2.1.length = v10.1.Tracks.length ∧ 1 = 1 ∧ ∀ i j, i < v10.1.Tracks.length → j < 1 → isSeq (gl (csL 5 cs_Key) v34.2.1 i j) = isSeq (gl (csL 5 cs_Key) v10.1.Tracks i j)) ∧ (((sl 4 cs_RootKey v10.1.Roots) : C) = (sl 4 cs_RootKey v10.1.Roots) ∧ v34.2.2.length = v10.1.Roots.length ∧ 4 = 4 ∧ ∀ i j, i < v10.1.Roots.length → j < 4 → isSeq (gl cs_RootKey v34.2.2 i j) = isSeq (gl cs_RootKey v10.1.Roots i j)) ∧ True) ∧ (((.int .i64 (1 : Int)) : C) = (.int .i64 (1 : Int))) ∧ True) ∧ MutOK Try.prog 16 [(.agg [(.ro (.int .i64 v10.1.Length)), (.ro (.int .i64 v10.1.Kind)), (.mu (sl 1 (csL 5 cs_Key) v10.1.Tracks) (sl 1 (csL 5 cs_Key) v34.2.1)), (.mu (sl 4 cs_RootKey v10.1.Roots) (sl 4 cs_RootKey v34.2.2))]), .one (.ro (.int .i64 (1 : Int)))] [.one (.int .i64 v34.1)]) ∧ True ∧ True) (by kernel_rfl) ⟨trivial, trivial, ⟨⟨⟨rfl, rfl, ⟨rfl, c36, rfl, gl_seq (sq_slice)⟩, ⟨rfl, c37, rfl, gl_seq sq_RootKey⟩, trivial⟩, rfl, trivial⟩, ok_laws_markClip K v10.1 (1 : Int) v34 e35⟩, trivial, trivial⟩ ?_
          refine thenQ_normal ?_
          refine AW.seq ?_
          refine AW.regionA [] [1, 4, 5, 7, 10, 11] [1, 4, 5, 6, 10, 11, 12] (s' := ⟨[(1, (.v (.one (.ptr 1 0)))), (4, (.v (.one (.ptr 6 0)))), (5, (.v (.one (.c (.bool v6.2))))), (7, (.v (.one (.ptr 12 0)))), (10, (.v (.one (.c (.int .i64 v34.1))))), (11, (.v (.one (.c (.int .i64 (1 : Int))))))], [(1, (.box [(.c (.int .i64 a0.Length)), (.c (.int .i64 a0.Kind)), (.c (sl 1 (csL 5 cs_Key) a0.Tracks)), (.c (sl 4 cs_RootKey a0.Roots))])), (4, (.lst v6.1.Tracks.length 1 (gl (csL 5 cs_Key) v6.1.Tracks))), (5, (.lst v6.1.Roots.length 4 (gl cs_RootKey v6.1.Roots))), (6, (.box [(.c (.int .i64 v6.1.Length)), (.c (.int .i64 v6.1.Kind)), (.lst 4 v6.1.Tracks.length 1 (gl (csL 5 cs_Key) v6.1.Tracks)), (.lst 5 v6.1.Roots.length 4 (gl cs_RootKey v6.1.Roots))])), (10, (.arr true v34.2.1.length 1 (gl (csL 5 cs_Key) v34.2.1))), (11, (.arr true v34.2.2.length 4 (gl cs_RootKey v34.2.2))), (12, (.box [(.c (.int .i64 v10.1.Length)), (.c (.int .i64 v10.1.Kind)), (.arr 10), (.arr 11)]))]⟩) (ob := True ∧ True) (by kernel_rfl) ⟨trivial, trivial⟩ ?_
          refine thenQ_normal ?_
          refine AW.seq ?_
          obtain ⟨v38, e39, h⟩ := bind_some h
          refine AW.regionA [.no, .no, .call [.agg (cs_Clip (Clip.mk v10.1.Length v10.1.Kind v34.2.1 v34.2.2)), .one (.int .i64 (1 : Int))] [.one (.int .i64 v38)] [[.view]]] [1, 4, 5, 7, 10, 11] [1, 4, 5, 6, 10, 11, 12] (s' := ⟨[(1, (.v (.one (.ptr 1 0)))), (4, (.v (.one (.ptr 6 0)))), (5, (.v (.one (.c (.bool v6.2))))), (7, (.v (.one (.ptr 12 0)))), (10, (.v (.one (.c (.int .i64 v34.1))))), (11, (.v (.one (.c (.int .i64 v38)))))], [(1, (.box [(.c (.int .i64 a0.Length)), (.c (.int .i64 a0.Kind)), (.c (sl 1 (csL 5 cs_Key) a0.Tracks)), (.c (sl 4 cs_RootKey a0.Roots))])), (4, (.lst v6.1.Tracks.length 1 (gl (csL 5 cs_Key) v6.1.Tracks))), (5, (.lst v6.1.Roots.length 4 (gl cs_RootKey v6.1.Roots))), (6, (.box [(.c (.int .i64 v6.1.Length)), (.c (.int .i64 v6.1.Kind)), (.lst 4 v6.1.Tracks.length 1 (gl (csL 5 cs_Key) v6.1.Tracks)), (.lst 5 v6.1.Roots.length 4 (gl cs_RootKey v6.1.Roots))])), (10, (.arr true v34.2.1.length 1 (gl (csL 5 cs_Key) v34.2.1))), (11, (.arr true v34.2.2.length 4 (gl cs_RootKey v34.2.2))), (12, (.box [(.c (.int .i64 v10.1.Length)), (.c (.int .i64 v10.1.Kind)), (.arr 10), (.arr 11)]))]⟩) (ob := True ∧ True ∧ ((((((.int .i64 v10.1.Length) : C) = (.int .i64 v10.1.Length)) ∧ (((.int .i64 v10.1.Kind) : C) = (.int .i64 v10.1.Kind)) ∧ (((sl 1 (csL 5 cs_Key) v34.2.1) : C) = (sl 1 (csL 5 cs_Key) v34.2.1)) ∧ (((sl 4 cs_RootKey v34.2.2) : C) = (sl 4 cs_RootKey v34.2.2)) ∧ True) ∧ (((.int .i64 (1 : Int)) : C) = (.int .i64 (1 : Int))) ∧ True) ∧ CallOK Try.prog 17 [.agg (cs_Clip (Clip.mk v10.1.Length v10.1.Kind v34.2.1 v34.2.2)), .one (.int .i64 (1 : Int))] [.one (.int .i64 v38)]) ∧ True ∧ True) (by kernel_rfl) ⟨trivial, trivial, ⟨⟨⟨rfl, rfl, rfl, rfl, trivial⟩, rfl, trivial⟩, ok_laws_heldClip K (Clip.mk v10.1.Length v10.1.Kind v34.2.1 v34.2.2) (1 : Int) v38 e39⟩, trivial, trivial⟩ ?_
          refine thenQ_normal ?_
          refine AW.seq ?_
          refine AW.seq ?_
          refine AW.regionA [] [1, 4, 5, 7, 10, 11, 69] [1, 4, 5, 6, 10, 11, 12] (s' := ⟨[(1, (.v (.one (.ptr 1 0)))), (4, (.v (.one (.ptr 6 0)))), (5, (.v (.one (.c (.bool v6.2))))), (7, (.v (.one (.ptr 12 0)))), (10, (.v (.one (.c (.int .i64 v34.1))))), (11, (.v (.one (.c (.int .i64 v38))))), (69, (.v (.one (.c (.bool (decide (v38 < (0 : Int))))))))], [(1, (.box [(.c (.int .i64 a0.Length)), (.c (.int .i64 a0.Kind)), (.c (sl 1 (csL 5 cs_Key) a0.Tracks)), (.c (sl 4 cs_RootKey a0.Roots))])), (4, (.lst v6.1.Tracks.length 1 (gl (csL 5 cs_Key) v6.1.Tracks))), (5, (.lst v6.1.Roots.length 4 (gl cs_RootKey v6.1.Roots))), (6, (.box [(.c (.int .i64 v6.1.Length)), (.c (.int .i64 v6.1.Kind)), (.lst 4 v6.1.Tracks.length 1 (gl (csL 5 cs_Key) v6.1.Tracks)), (.lst 5 v6.1.Roots.length 4 (gl cs_RootKey v6.1.Roots))])), (10, (.arr true v34.2.1.length 1 (gl (csL 5 cs_Key) v34.2.1))), (11, (.arr true v34.2.2.length 4 (gl cs_RootKey v34.2.2))), (12, (.box [(.c (.int .i64 v10.1.Length)), (.c (.int .i64 v10.1.Kind)), (.arr 10), (.arr 11)]))]⟩) (ob := True ∧ True ∧ True) (by kernel_rfl) ⟨trivial, trivial, trivial⟩ ?_
          refine thenQ_normal ?_
          rcases ite2_cases h with ⟨b40, h⟩ | ⟨b40, h⟩
          · refine AW.cond_t rfl b40 ?_
            refine AW.seq ?_
            refine AW.regionA [] [2] [] (s' := ⟨[(2, (.v (.one (.c (.bool false)))))], []⟩) (ob := True ∧ True) (by kernel_rfl) ⟨trivial, trivial⟩ ?_
            refine thenQ_normal ?_
            refine AW.ret ?_
            refine thenQ_ret ?_
            replace h := some_eq h
            subst h
            exact ⟨.inr rfl, retOK_of [(.one (.c (.bool false)))] (by kernel_rfl) ⟨⟨rfl, trivial⟩, trivial⟩ (of_decide_eq_true (by kernel_rfl))⟩
          · refine AW.cond_f rfl b40 ?_
            refine AW.skip ?_
            refine thenQ_normal ?_
            refine AW.seq ?_
            refine AW.seq ?_
            refine AW.regionA [] [1, 4, 5, 7, 10, 72] [1, 4, 5, 6, 10, 11, 12] (s' := ⟨[(1, (.v (.one (.ptr 1 0)))), (4, (.v (.one (.ptr 6 0)))), (5, (.v (.one (.c (.bool v6.2))))), (7, (.v (.one (.ptr 12 0)))), (10, (.v (.one (.c (.int .i64 v34.1))))), (72, (.v (.one (.c (.bool (v38 != v34.1))))))], [(1, (.box [(.c (.int .i64 a0.Length)), (.c (.int .i64 a0.Kind)), (.c (sl 1 (csL 5 cs_Key) a0.Tracks)), (.c (sl 4 cs_RootKey a0.Roots))])), (4, (.lst v6.1.Tracks.length 1 (gl (csL 5 cs_Key) v6.1.Tracks))), (5, (.lst v6.1.Roots.length 4 (gl cs_RootKey v6.1.Roots))), (6, (.box [(.c (.int .i64 v6.1.Length)), (.c (.int .i64 v6.1.Kind)), (.lst 4 v6.1.Tracks.length 1 (gl (csL 5 cs_Key) v6.1.Tracks)), (.lst 5 v6.1.Roots.length 4 (gl cs_RootKey v6.1.Roots))])), (10, (.arr true v34.2.1.length 1 (gl (csL 5 cs_Key) v34.2.1))), (11, (.arr true v34.2.2.length 4 (gl cs_RootKey v34.2.2))), (12, (.box [(.c (.int .i64 v10.1.Length)), (.c (.int .i64 v10.1.Kind)), (.arr 10), (.arr 11)]))]⟩) (ob := True ∧ True ∧ True ∧ True) (by kernel_rfl) ⟨trivial, trivial, trivial, trivial⟩ ?_
            refine thenQ_normal ?_
            rcases ite2_cases h with ⟨b41, h⟩ | ⟨b41, h⟩
            · refine AW.cond_t rfl b41 ?_
              refine AW.seq ?_
              refine AW.regionA [] [2] [] (s' := ⟨[(2, (.v (.one (.c (.bool false)))))], []⟩) (ob := True ∧ True) (by kernel_rfl) ⟨trivial, trivial⟩ ?_
              refine thenQ_normal ?_
              refine AW.ret ?_
              refine thenQ_ret ?_
              replace h := some_eq h
              subst h
              exact ⟨.inr rfl, retOK_of [(.one (.c (.bool false)))] (by kernel_rfl) ⟨⟨rfl, trivial⟩, trivial⟩ (of_decide_eq_true (by kernel_rfl))⟩
            · refine AW.cond_f rfl b41 ?_
              refine AW.skip ?_
              refine thenQ_normal ?_
              refine AW.seq ?_
              obtain ⟨v42, e43, h⟩ := bind_some h
              obtain ⟨v44, e45, h⟩ := bind_some h
              refine AW.regionA [.no, .call [.agg (cs_Clip a0)] [.agg (cs_Clip v42)] [[.view, .view, .lst 15, .lst 16]], .call [.agg (cs_Clip v42)] [.agg (cs_Clip v44.1), .one (.bool v44.2)] [[.view, .view, .lst 17, .lst 18], [.view]], .no, .no, .no, .box 19] [4, 5, 7, 10, 12, 13] [4, 5, 6, 10, 11, 12, 17, 18, 19] (s' := ⟨[(4, (.v (.one (.ptr 6 0)))), (5, (.v (.one (.c (.bool v6.2))))), (7, (.v (.one (.ptr 12 0)))), (10, (.v (.one (.c (.int .i64 v34.1))))), (12, (.v (.one (.ptr 19 0)))), (13, (.v (.one (.c (.bool v44.2)))))], [(4, (.lst v6.1.Tracks.length 1 (gl (csL 5 cs_Key) v6.1.Tracks))), (5, (.lst v6.1.Roots.length 4 (gl cs_RootKey v6.1.Roots))), (6, (.box [(.c (.int .i64 v6.1.Length)), (.c (.int .i64 v6.1.Kind)), (.lst 4 v6.1.Tracks.length 1 (gl (csL 5 cs_Key) v6.1.Tracks)), (.lst 5 v6.1.Roots.length 4 (gl cs_RootKey v6.1.Roots))])), (10, (.arr true v34.2.1.length 1 (gl (csL 5 cs_Key) v34.2.1))), (11, (.arr true v34.2.2.length 4 (gl cs_RootKey v34.2.2))), (12, (.box [(.c (.int .i64 v10.1.Length)), (.c (.int .i64 v10.1.Kind)), (.arr 10), (.arr 11)])), (17, (.lst v44.1.Tracks.length 1 (gl (csL 5 cs_Key) v44.1.Tracks))), (18, (.lst v44.1.Roots.length 4 (gl cs_RootKey v44.1.Roots))), (19, (.box [(.c (.int .i64 v44.1.Length)), (.c (.int .i64 v44.1.Kind)), (.lst 17 v44.1.Tracks.length 1 (gl (csL 5 cs_Key) v44.1.Tracks)), (.lst 18 v44.1.Roots.length 4 (gl cs_RootKey v44.1.Roots))]))]⟩) (ob := True ∧ ((((((.int .i64 a0.Length) : C) = (.int .i64 a0.Length)) ∧ (((.int .i64 a0.Kind) : C) = (.int .i64 a0.Kind)) ∧ (((sl 1 (csL 5 cs_Key) a0.Tracks) : C) = (sl 1 (csL 5 cs_Key) a0.Tracks)) ∧ (((sl 4 cs_RootKey a0.Roots) : C) = (sl 4 cs_RootKey a0.Roots)) ∧ True) ∧ True) ∧ CallOK Try.prog 13 [.agg (cs_Clip a0)] [.agg (cs_Clip v42)]) ∧ ((((((.int .i64 v42.Length) : C) = (.int .i64 v42.Length)) ∧ (((.int .i64 v42.Kind) : C) = (.int .i64 v42.Kind)) ∧ (((sl 1 (csL 5 cs_Key) v42.Tracks) : C) = (sl 1 (csL 5 cs_Key) v42.Tracks)) ∧ (((sl 4 cs_RootKey v42.Roots) : C) = (sl 4 cs_RootKey v42.Roots)) ∧ True) ∧ True) ∧ CallOK Try.prog 14 [.agg (cs_Clip v42)] [.agg (cs_Clip v44.1), .one (.bool v44.2)]) ∧ True ∧ True ∧ True ∧ True ∧ True ∧ True ∧ True) (by kernel_rfl) ⟨trivial, ⟨⟨⟨rfl, rfl, rfl, rfl, trivial⟩, trivial⟩, ok_laws_toClip K a0 v42 e43⟩, ⟨⟨⟨rfl, rfl, rfl, rfl, trivial⟩, trivial⟩, ok_impl_InPlace K v42 v44 e45⟩, trivial, trivial, trivial, trivial, trivial, trivial, trivial⟩ ?_
              refine thenQ_normal ?_
              refine AW.seq ?_
              refine AW.seq ?_
              obtain ⟨v46, e47, h⟩ := bind_some h
              obtain ⟨j49, e50, h⟩ := bind_some h
              refine AW.join1 (s2 := ⟨[(7, (.v (.one (.ptr 12 0)))), (10, (.v (.one (.c (.int .i64 v34.1))))), (87, (.v (.one (.c (.bool j49)))))], [(10, (.arr true v34.2.1.length 1 (gl (csL 5 cs_Key) v34.2.1))), (11, (.arr true v34.2.2.length 4 (gl cs_RootKey v34.2.2))), (12, (.box [(.c (.int .i64 v10.1.Length)), (.c (.int .i64 v10.1.Kind)), (.arr 10), (.arr 11)]))]⟩) ?_ ?_
              · rcases ite2_cases e50 with ⟨b48, e50⟩ | ⟨b48, e50⟩
                · replace e50 := some_eq e50
                  subst e50
                  exact AW.regionA [.no, .no, .call [.agg (cs_Clip v44.1), .agg (cs_Clip v6.1)] [.one (.bool v46)] [[.view]], .no, .dec true] [7, 10, 87] [10, 11, 12] (s' := ⟨[(7, (.v (.one (.ptr 12 0)))), (10, (.v (.one (.c (.int .i64 v34.1))))), (87, (.v (.one (.c (.bool true)))))], [(10, (.arr true v34.2.1.length 1 (gl (csL 5 cs_Key) v34.2.1))), (11, (.arr true v34.2.2.length 4 (gl cs_RootKey v34.2.2))), (12, (.box [(.c (.int .i64 v10.1.Length)), (.c (.int .i64 v10.1.Kind)), (.arr 10), (.arr 11)]))]⟩) (ob := True ∧ True ∧ ((((((.int .i64 v44.1.Length) : C) = (.int .i64 v44.1.Length)) ∧ (((.int .i64 v44.1.Kind) : C) = (.int .i64 v44.1.Kind)) ∧ (((sl 1 (csL 5 cs_Key) v44.1.Tracks) : C) = (sl 1 (csL 5 cs_Key) v44.1.Tracks)) ∧ (((sl 4 cs_RootKey v44.1.Roots) : C) = (sl 4 cs_RootKey v44.1.Roots)) ∧ True) ∧ ((((.int .i64 v6.1.Length) : C) = (.int .i64 v6.1.Length)) ∧ (((.int .i64 v6.1.Kind) : C) = (.int .i64 v6.1.Kind)) ∧ (((sl 1 (csL 5 cs_Key) v6.1.Tracks) : C) = (sl 1 (csL 5 cs_Key) v6.1.Tracks)) ∧ (((sl 4 cs_RootKey v6.1.Roots) : C) = (sl 4 cs_RootKey v6.1.Roots)) ∧ True) ∧ True) ∧ CallOK Try.prog 15 [.agg (cs_Clip v44.1), .agg (cs_Clip v6.1)] [.one (.bool v46)]) ∧ True ∧ (True ∧ (!v46) = true) ∧ True ∧ True ∧ True ∧ True ∧ True) (by kernel_rfl) ⟨trivial, trivial, ⟨⟨⟨rfl, rfl, rfl, rfl, trivial⟩, ⟨rfl, rfl, rfl, rfl, trivial⟩, trivial⟩, ok_laws_eqClip K v44.1 v6.1 v46 e47⟩, trivial, ⟨trivial, b48⟩, trivial, trivial, trivial, trivial, trivial⟩ ⟨rfl, rfl⟩
                · replace e50 := some_eq e50
                  subst e50
                  exact AW.regionA [.no, .no, .call [.agg (cs_Clip v44.1), .agg (cs_Clip v6.1)] [.one (.bool v46)] [[.view]], .no, .dec false] [7, 10, 87] [10, 11, 12] (s' := ⟨[(7, (.v (.one (.ptr 12 0)))), (10, (.v (.one (.c (.int .i64 v34.1))))), (87, (.v (.one (.c (.bool (!(v44.2 == v6.2)))))))], [(10, (.arr true v34.2.1.length 1 (gl (csL 5 cs_Key) v34.2.1))), (11, (.arr true v34.2.2.length 4 (gl cs_RootKey v34.2.2))), (12, (.box [(.c (.int .i64 v10.1.Length)), (.c (.int .i64 v10.1.Kind)), (.arr 10), (.arr 11)]))]⟩) (ob := True ∧ True ∧ ((((((.int .i64 v44.1.Length) : C) = (.int .i64 v44.1.Length)) ∧ (((.int .i64 v44.1.Kind) : C) = (.int .i64 v44.1.Kind)) ∧ (((sl 1 (csL 5 cs_Key) v44.1.Tracks) : C) = (sl 1 (csL 5 cs_Key) v44.1.Tracks)) ∧ (((sl 4 cs_RootKey v44.1.Roots) : C) = (sl 4 cs_RootKey v44.1.Roots)) ∧ True) ∧ ((((.int .i64 v6.1.Length) : C) = (.int .i64 v6.1.Length)) ∧ (((.int .i64 v6.1.Kind) : C) = (.int .i64 v6.1.Kind)) ∧ (((sl 1 (csL 5 cs_Key) v6.1.Tracks) : C) = (sl 1 (csL 5 cs_Key) v6.1.Tracks)) ∧ (((sl 4 cs_RootKey v6.1.Roots) : C) = (sl 4 cs_RootKey v6.1.Roots)) ∧ True) ∧ True) ∧ CallOK Try.prog 15 [.agg (cs_Clip v44.1), .agg (cs_Clip v6.1)] [.one (.bool v46)]) ∧ True ∧ (True ∧ (!v46) = false) ∧ True ∧ True ∧ True ∧ True ∧ True) (by kernel_rfl) ⟨trivial, trivial, ⟨⟨⟨rfl, rfl, rfl, rfl, trivial⟩, ⟨rfl, rfl, rfl, rfl, trivial⟩, trivial⟩, ok_laws_eqClip K v44.1 v6.1 v46 e47⟩, trivial, ⟨trivial, b48⟩, trivial, trivial, trivial, trivial, trivial⟩ ⟨rfl, rfl⟩
              refine thenQ_normal ?_
              rcases ite2_cases h with ⟨b51, h⟩ | ⟨b51, h⟩
              · refine AW.cond_t rfl b51 ?_
                refine AW.seq ?_
                refine AW.regionA [] [2] [] (s' := ⟨[(2, (.v (.one (.c (.bool false)))))], []⟩) (ob := True ∧ True) (by kernel_rfl) ⟨trivial, trivial⟩ ?_
                refine thenQ_normal ?_
                refine AW.ret ?_
                refine thenQ_ret ?_
                replace h := some_eq h
                subst h
                exact ⟨.inr rfl, retOK_of [(.one (.c (.bool false)))] (by kernel_rfl) ⟨⟨rfl, trivial⟩, trivial⟩ (of_decide_eq_true (by kernel_rfl))⟩
              · refine AW.cond_f rfl b51 ?_
                refine AW.skip ?_
                refine thenQ_normal ?_
                refine AW.seq ?_
                refine AW.regionA [] [7, 10, 11] [10, 11, 12] (s' := ⟨[(7, (.v (.one (.ptr 12 0)))), (10, (.v (.one (.c (.int .i64 v34.1))))), (11, (.v (.one (.c (.int .i64 (1 : Int))))))], [(10, (.arr true v34.2.1.length 1 (gl (csL 5 cs_Key) v34.2.1))), (11, (.arr true v34.2.2.length 4 (gl cs_RootKey v34.2.2))), (12, (.box [(.c (.int .i64 v10.1.Length)), (.c (.int .i64 v10.1.Kind)), (.arr 10), (.arr 11)]))]⟩) (ob := True ∧ True) (by kernel_rfl) ⟨trivial, trivial⟩ ?_
                refine thenQ_normal ?_
                refine AW.seq ?_
                obtain ⟨v52, e53, h⟩ := bind_some h
                refine AW.regionA [.no, .no, .call [.agg (cs_Clip (Clip.mk v10.1.Length v10.1.Kind v34.2.1 v34.2.2)), .one (.int .i64 (1 : Int))] [.one (.int .i64 v52)] [[.view]]] [10, 11] [] (s' := ⟨[(10, (.v (.one (.c (.int .i64 v34.1))))), (11, (.v (.one (.c (.int .i64 v52)))))], []⟩) (ob := True ∧ True ∧ ((((((.int .i64 v10.1.Length) : C) = (.int .i64 v10.1.Length)) ∧ (((.int .i64 v10.1.Kind) : C) = (.int .i64 v10.1.Kind)) ∧ (((sl 1 (csL 5 cs_Key) v34.2.1) : C) = (sl 1 (csL 5 cs_Key) v34.2.1)) ∧ (((sl 4 cs_RootKey v34.2.2) : C) = (sl 4 cs_RootKey v34.2.2)) ∧ True) ∧ (((.int .i64 (1 : Int)) : C) = (.int .i64 (1 : Int))) ∧ True) ∧ CallOK Try.prog 17 [.agg (cs_Clip (Clip.mk v10.1.Length v10.1.Kind v34.2.1 v34.2.2)), .one (.int .i64 (1 : Int))] [.one (.int .i64 v52)]) ∧ True ∧ True) (by kernel_rfl) ⟨trivial, trivial, ⟨⟨⟨rfl, rfl, rfl, rfl, trivial⟩, rfl, trivial⟩, ok_laws_heldClip K (Clip.mk v10.1.Length v10.1.Kind v34.2.1 v34.2.2) (1 : Int) v52 e53⟩, trivial, trivial⟩ ?_
                refine thenQ_normal ?_
                refine AW.seq ?_
                refine AW.seq ?_
                refine AW.regionA [] [10, 11, 92] [] (s' := ⟨[(10, (.v (.one (.c (.int .i64 v34.1))))), (11, (.v (.one (.c (.int .i64 v52))))), (92, (.v (.one (.c (.bool (decide (v52 < (0 : Int))))))))], []⟩) (ob := True ∧ True ∧ True) (by kernel_rfl) ⟨trivial, trivial, trivial⟩ ?_
                refine thenQ_normal ?_
                rcases ite2_cases h with ⟨b54, h⟩ | ⟨b54, h⟩
                · refine AW.cond_t rfl b54 ?_
                  refine AW.seq ?_
                  refine AW.regionA [] [2] [] (s' := ⟨[(2, (.v (.one (.c (.bool false)))))], []⟩) (ob := True ∧ True) (by kernel_rfl) ⟨trivial, trivial⟩ ?_
                  refine thenQ_normal ?_
                  refine AW.ret ?_
                  refine thenQ_ret ?_
                  replace h := some_eq h
                  subst h
                  exact ⟨.inr rfl, retOK_of [(.one (.c (.bool false)))] (by kernel_rfl) ⟨⟨rfl, trivial⟩, trivial⟩ (of_decide_eq_true (by kernel_rfl))⟩
                · refine AW.cond_f rfl b54 ?_
                  refine AW.skip ?_
                  refine thenQ_normal ?_
                  refine AW.seq ?_
                  refine AW.seq ?_
                  refine AW.regionA [] [95] [] (s' := ⟨[(95, (.v (.one (.c (.bool (v52 != v34.1))))))], []⟩) (ob := True ∧ True ∧ True ∧ True) (by kernel_rfl) ⟨trivial, trivial, trivial, trivial⟩ ?_
                  refine thenQ_normal ?_
                  rcases ite2_cases h with ⟨b55, h⟩ | ⟨b55, h⟩
                  · refine AW.cond_t rfl b55 ?_
                    refine AW.seq ?_
                    refine AW.regionA [] [2] [] (s' := ⟨[(2, (.v (.one (.c (.bool false)))))], []⟩) (ob := True ∧ True) (by kernel_rfl) ⟨trivial, trivial⟩ ?_
                    refine thenQ_normal ?_
                    refine AW.ret ?_
                    refine thenQ_ret ?_
                    replace h := some_eq h
                    subst h
                    exact ⟨.inr rfl, retOK_of [(.one (.c (.bool false)))] (by kernel_rfl) ⟨⟨rfl, trivial⟩, trivial⟩ (of_decide_eq_true (by kernel_rfl))⟩
                  · refine AW.cond_f rfl b55 ?_
                    refine AW.skip ?_
                    refine thenQ_normal ?_
                    refine AW.seq ?_
                    refine AW.regionA [] [2] [] (s' := ⟨[(2, (.v (.one (.c (.bool true)))))], []⟩) (ob := True ∧ True) (by kernel_rfl) ⟨trivial, trivial⟩ ?_
                    refine thenQ_normal ?_
                    refine AW.ret ?_
                    replace h := some_eq h
                    subst h
                    exact ⟨.inr rfl, retOK_of [(.one (.c (.bool true)))] (by kernel_rfl) ⟨⟨rfl, trivial⟩, trivial⟩ (of_decide_eq_true (by kernel_rfl))⟩

end
end Go.Fw
