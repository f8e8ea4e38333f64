/- Functions of the program: what each computes, and that it computes just that. -/
import Derived.Test.YtdkidnhddgeboaaDoorFwTy
import Derived.Test.YtdkidnhddgeboaaDoorFwH
import Derived.Test.YtdkidnhddgeboaaDoorFwV
import Derived.Test.YtdkidnhddgeboaaDoorFwLB
import Derived.Test.YtdkidnhddgeboaaDoorFwSh
import Derived.Test.YtdkidnhddgeboaaDoorFwBX
import Derived.Test.YtdkidnhddgeboaaDoorFwBl
import Derived.Test.YtdkidnhddgeboaaDoorProg
import Derived.KernelRfl
namespace Go.Fw
open Go Go.Proofs
noncomputable section
set_option maxRecDepth 10000

/-! laws.szStringS -/
def laws_szStringS_l1 (K : Nat) (a0 : (List ByteArray)) : Nat → Int → Int → Option (Int)
  | 0, _, _ => none
  | k + 1, x4, x5 => ite2 ((decide (x5 < (a0.length : Int)))) (chk (0 ≤ x5 ∧ x5 < (a0.length : Int)) (ite2 ((decide ((IntKind.i64.wrap (x4 - ((a0.getD x5.toNat default).size : Int))) < (0 : Int)))) (some ((-1) : Int)) (laws_szStringS_l1 K a0 k (IntKind.i64.wrap (x4 - ((a0.getD x5.toNat default).size : Int))) (IntKind.i64.wrap (x5 + (1 : Int)))))) (some x4)

def laws_szStringS (K : Nat) (a0 : (List ByteArray)) (a1 : Int) : Option (Int) :=
  ite2 ((decide ((IntKind.i64.wrap (a1 - (a0.length : Int))) < (0 : Int)))) (some ((-1) : Int)) (laws_szStringS_l1 K a0 K (IntKind.i64.wrap (a1 - (a0.length : Int))) (0 : Int))

theorem ok_laws_szStringS (K : Nat) (a0 : (List ByteArray)) (a1 : Int) (o : (Int)) (h : laws_szStringS K a0 a1 = some o) : CallOK Tryd.prog 4 [.one (sl 1 csS a0), .one (.int .i64 a1)] [.one (.int .i64 o)] := by
  refine callOK_of_AW Tryd.func4 rfl (by kernel_rfl) (Nat.le_of_ble_eq_true (by kernel_rfl)) ?_
  intro w0
  unfold laws_szStringS at h
  refine AW.seq ?_
  refine AW.regionA [] [0, 1] [] (s' := ⟨[(0, (.v (.one (.c (sl 1 csS a0))))), (1, (.v (.one (.c (.int .i64 a1)))))], []⟩) (ob := True ∧ True) (by kernel_rfl) ⟨trivial, trivial⟩ ?_
  refine thenQ_normal ?_
  refine AW.seq ?_
  refine AW.regionA [] [0, 1] [] (s' := ⟨[(0, (.v (.one (.c (sl 1 csS a0))))), (1, (.v (.one (.c (.int .i64 (IntKind.i64.wrap (a1 - (a0.length : Int))))))))], []⟩) (ob := True ∧ True ∧ True ∧ True ∧ True ∧ True) (by kernel_rfl) ⟨trivial, trivial, trivial, trivial, trivial, trivial⟩ ?_
  refine thenQ_normal ?_
  refine AW.seq ?_
  refine AW.seq ?_
  refine AW.regionA [] [0, 1, 11] [] (s' := ⟨[(0, (.v (.one (.c (sl 1 csS a0))))), (1, (.v (.one (.c (.int .i64 (IntKind.i64.wrap (a1 - (a0.length : Int)))))))), (11, (.v (.one (.c (.bool (decide ((IntKind.i64.wrap (a1 - (a0.length : Int))) < (0 : Int))))))))], []⟩) (ob := True ∧ True ∧ True) (by kernel_rfl) ⟨trivial, trivial, trivial⟩ ?_
  refine thenQ_normal ?_
  rcases ite2_cases h with ⟨b1, h⟩ | ⟨b1, h⟩
  · refine AW.cond_t rfl b1 ?_
    refine AW.seq ?_
    refine AW.regionA [] [4] [] (s' := ⟨[(4, (.v (.one (.c (.int .i64 ((-1) : Int))))))], []⟩) (ob := True ∧ True) (by kernel_rfl) ⟨trivial, trivial⟩ ?_
    refine thenQ_normal ?_
    refine AW.ret ?_
    refine thenQ_ret ?_
    replace h := some_eq h
    subst h
    exact ⟨.inr rfl, retOK_of [(.one (.c (.int .i64 ((-1) : Int))))] (by kernel_rfl) ⟨⟨rfl, trivial⟩, trivial⟩ (of_decide_eq_true (by kernel_rfl))⟩
  · refine AW.cond_f rfl b1 ?_
    refine AW.skip ?_
    refine thenQ_normal ?_
    refine AW.seq ?_
    refine AW.seq ?_
    refine AW.regionA [] [0, 1, 5] [] (s' := ⟨[(0, (.v (.one (.c (sl 1 csS a0))))), (1, (.v (.one (.c (.int .i64 (IntKind.i64.wrap (a1 - (a0.length : Int)))))))), (5, (.v (.one (.c (.int .i64 (0 : Int))))))], []⟩) (ob := True ∧ True) (by kernel_rfl) ⟨trivial, trivial⟩ ?_
    refine thenQ_normal ?_
    refine AW.block ?_
    refine AW.loopQ (σ := Nat × Int × Int) (fun p => ⟨[(0, (.v (.one (.c (sl 1 csS a0))))), (1, (.v (.one (.c (.int .i64 p.2.1))))), (5, (.v (.one (.c (.int .i64 p.2.2)))))], []⟩) (fun p => laws_szStringS_l1 K a0 p.1 p.2.1 p.2.2 = some o) (fun p => p.1) (K, (IntKind.i64.wrap (a1 - (a0.length : Int))), (0 : Int)) h ?_
    clear h
    rintro ⟨k, x4, x5⟩ h
    replace h : laws_szStringS_l1 K a0 k x4 x5 = some o := h
    show AW _ _ (⟨[(0, (.v (.one (.c (sl 1 csS a0))))), (1, (.v (.one (.c (.int .i64 x4))))), (5, (.v (.one (.c (.int .i64 x5)))))], []⟩ : St) _
    obtain _ | k := k
    · rw [laws_szStringS_l1] at h; cases h
    rw [laws_szStringS_l1] at h
    refine AW.seq ?_
    refine AW.seq ?_
    refine AW.regionA [] [0, 1, 5, 15] [] (s' := ⟨[(0, (.v (.one (.c (sl 1 csS a0))))), (1, (.v (.one (.c (.int .i64 x4))))), (5, (.v (.one (.c (.int .i64 x5))))), (15, (.v (.one (.c (.bool (decide (x5 < (a0.length : Int))))))))], []⟩) (ob := True ∧ True ∧ True ∧ True ∧ True) (by kernel_rfl) ⟨trivial, trivial, trivial, trivial, trivial⟩ ?_
    refine thenQ_normal ?_
    rcases ite2_cases h with ⟨b6, h⟩ | ⟨b6, h⟩
    · refine AW.cond_t rfl b6 ?_
      refine AW.skip ?_
      refine thenQ_normal ?_
      refine AW.seq ?_
      refine AW.block ?_
      refine AW.seq ?_
      obtain ⟨c7, h⟩ := chk_some h
      refine AW.regionA [] [0, 1, 5] [] (s' := ⟨[(0, (.v (.one (.c (sl 1 csS a0))))), (1, (.v (.one (.c (.int .i64 (IntKind.i64.wrap (x4 - ((a0.getD x5.toNat default).size : Int)))))))), (5, (.v (.one (.c (.int .i64 x5)))))], []⟩) (ob := True ∧ True ∧ True ∧ (0 ≤ x5 ∧ x5 < (a0.length : Int)) ∧ True ∧ True ∧ True ∧ True ∧ True) (by kernel_rfl) ⟨trivial, trivial, trivial, c7, trivial, trivial, trivial, trivial, trivial⟩ ?_
      refine thenQ_normal ?_
      refine AW.seq ?_
      refine AW.regionA [] [0, 1, 5, 26] [] (s' := ⟨[(0, (.v (.one (.c (sl 1 csS a0))))), (1, (.v (.one (.c (.int .i64 (IntKind.i64.wrap (x4 - ((a0.getD x5.toNat default).size : Int)))))))), (5, (.v (.one (.c (.int .i64 x5))))), (26, (.v (.one (.c (.bool (decide ((IntKind.i64.wrap (x4 - ((a0.getD x5.toNat default).size : Int))) < (0 : Int))))))))], []⟩) (ob := True ∧ True ∧ True) (by kernel_rfl) ⟨trivial, trivial, trivial⟩ ?_
      refine thenQ_normal ?_
      rcases ite2_cases h with ⟨b8, h⟩ | ⟨b8, h⟩
      · refine AW.cond_t rfl b8 ?_
        refine AW.seq ?_
        refine AW.regionA [] [4] [] (s' := ⟨[(4, (.v (.one (.c (.int .i64 ((-1) : Int))))))], []⟩) (ob := True ∧ True) (by kernel_rfl) ⟨trivial, trivial⟩ ?_
        refine thenQ_normal ?_
        refine AW.ret ?_
        refine blockQ_ret ?_
        refine thenQ_ret ?_
        refine loopQ_ret ?_
        refine blockQ_ret ?_
        refine thenQ_ret ?_
        replace h := some_eq h
        subst h
        exact ⟨.inr rfl, retOK_of [(.one (.c (.int .i64 ((-1) : Int))))] (by kernel_rfl) ⟨⟨rfl, trivial⟩, trivial⟩ (of_decide_eq_true (by kernel_rfl))⟩
      · refine AW.cond_f rfl b8 ?_
        refine AW.skip ?_
        refine blockQ_normal ?_
        refine thenQ_normal ?_
        refine AW.regionA [] [0, 1, 5] [] (s' := ⟨[(0, (.v (.one (.c (sl 1 csS a0))))), (1, (.v (.one (.c (.int .i64 (IntKind.i64.wrap (x4 - ((a0.getD x5.toNat default).size : Int)))))))), (5, (.v (.one (.c (.int .i64 (IntKind.i64.wrap (x5 + (1 : Int))))))))], []⟩) (ob := True ∧ True ∧ True ∧ True) (by kernel_rfl) ⟨trivial, trivial, trivial, trivial⟩ ?_
        exact loopQ_normal (k, (IntKind.i64.wrap (x4 - ((a0.getD x5.toNat default).size : Int))), (IntKind.i64.wrap (x5 + (1 : Int)))) h (Nat.lt_succ_self k) (Sub.keep [0, 1, 5] [] (by kernel_rfl) (by kernel_rfl))
    · refine AW.cond_f rfl b6 ?_
      refine AW.exit ?_
      refine thenQ_exit ?_
      refine loopQ_exit ?_
      refine blockQ_exit ?_
      refine thenQ_normal ?_
      refine AW.seq ?_
      refine AW.regionA [] [4] [] (s' := ⟨[(4, (.v (.one (.c (.int .i64 x4)))))], []⟩) (ob := True ∧ True ∧ True) (by kernel_rfl) ⟨trivial, trivial, trivial⟩ ?_
      refine thenQ_normal ?_
      refine AW.ret ?_
      replace h := some_eq h
      subst h
      exact ⟨.inr rfl, retOK_of [(.one (.c (.int .i64 x4)))] (by kernel_rfl) ⟨⟨rfl, trivial⟩, trivial⟩ (of_decide_eq_true (by kernel_rfl))⟩

/-! laws.toStringS -/
def laws_toStringS_l1 (K : Nat) (a0 : (List ByteArray)) : Nat → Int → (List ByteArray) → Option ((List ByteArray))
  | 0, _, _ => none
  | k + 1, x4, x5 => ite2 ((decide (x4 < (a0.length : Int)))) (chk (0 ≤ x4 ∧ x4 < (a0.length : Int)) (chk (0 ≤ x4 ∧ x4 < (x5.length : Int)) (laws_toStringS_l1 K a0 k (IntKind.i64.wrap (x4 + (1 : Int))) (x5.set x4.toNat (a0.getD x4.toNat default))))) (some x5)

def laws_toStringS (K : Nat) (a0 : (List ByteArray)) : Option ((List ByteArray)) :=
  chk (0 ≤ (a0.length : Int) ∧ (a0.length : Int).toNat * 16 ≤ 140737488355328) (laws_toStringS_l1 K a0 K (0 : Int) (List.replicate (a0.length : Int).toNat (default : ByteArray)))

theorem ok_laws_toStringS (K : Nat) (a0 : (List ByteArray)) (o : ((List ByteArray))) (h : laws_toStringS K a0 = some o) : CallOK Tryd.prog 6 [.one (sl 1 csS a0)] [.one (sl 1 csS o)] := by
  refine callOK_of_AW Tryd.func6 rfl (by kernel_rfl) (Nat.le_of_ble_eq_true (by kernel_rfl)) ?_
  intro w0
  unfold laws_toStringS at h
  refine AW.seq ?_
  refine AW.regionA [] [0] [] (s' := ⟨[(0, (.v (.one (.c (sl 1 csS a0)))))], []⟩) (ob := True ∧ True) (by kernel_rfl) ⟨trivial, trivial⟩ ?_
  refine thenQ_normal ?_
  refine AW.seq ?_
  obtain ⟨c1, h⟩ := chk_some h
  refine AW.regionA [.no, .no, .objA 1 (List.replicate (a0.length : Int).toNat (default : ByteArray)).length (gl csS (List.replicate (a0.length : Int).toNat (default : ByteArray)))] [0, 3] [1] (s' := ⟨[(0, (.v (.one (.c (sl 1 csS a0))))), (3, (.v (.one (.arr 1))))], [(1, (.arr false (List.replicate (a0.length : Int).toNat (default : ByteArray)).length 1 (gl csS (List.replicate (a0.length : Int).toNat (default : ByteArray)))))]⟩) (ob := True ∧ True ∧ (0 ≤ (a0.length : Int) ∧ (a0.length : Int) = (a0.length : Int) ∧ (((List.replicate (a0.length : Int).toNat (default : ByteArray)).length : Nat) : Int) = (a0.length : Int) ∧ (List.replicate (a0.length : Int).toNat (default : ByteArray)).length * 16 ≤ 140737488355328 ∧ ∀ i, i < (List.replicate (a0.length : Int).toNat (default : ByteArray)).length → zeroRow (fun _ => none) [(.c (.str ByteArray.empty))] (gl csS (List.replicate (a0.length : Int).toNat (default : ByteArray)) i)) ∧ True ∧ True) (by kernel_rfl) ⟨trivial, trivial, ⟨c1.1, rfl, len_rep c1.1, rep_bytes c1.2, fun i hi => gl_zero (cs := csS) (zs := [(.c (.str ByteArray.empty))]) (n := (a0.length : Int).toNat) ⟨⟨rfl, trivial⟩, trivial⟩ i (rep_lt hi)⟩, trivial, trivial⟩ ?_
  refine thenQ_normal ?_
  refine AW.seq ?_
  refine AW.seq ?_
  refine AW.regionA [] [0, 3, 4] [1] (s' := ⟨[(0, (.v (.one (.c (sl 1 csS a0))))), (3, (.v (.one (.arr 1)))), (4, (.v (.one (.c (.int .i64 (0 : Int))))))], [(1, (.arr false (List.replicate (a0.length : Int).toNat (default : ByteArray)).length 1 (gl csS (List.replicate (a0.length : Int).toNat (default : ByteArray)))))]⟩) (ob := True ∧ True) (by kernel_rfl) ⟨trivial, trivial⟩ ?_
  refine thenQ_normal ?_
  refine AW.block ?_
  refine AW.loopQ (σ := Nat × Int × (List ByteArray)) (fun p => ⟨[(0, (.v (.one (.c (sl 1 csS a0))))), (3, (.v (.one (.arr 1)))), (4, (.v (.one (.c (.int .i64 p.2.1)))))], [(1, (.arr false p.2.2.length 1 (gl csS p.2.2)))]⟩) (fun p => laws_toStringS_l1 K a0 p.1 p.2.1 p.2.2 = some o) (fun p => p.1) (K, (0 : Int), (List.replicate (a0.length : Int).toNat (default : ByteArray))) h ?_
  clear h
  rintro ⟨k, x4, x5⟩ h
  replace h : laws_toStringS_l1 K a0 k x4 x5 = some o := h
  show AW _ _ (⟨[(0, (.v (.one (.c (sl 1 csS a0))))), (3, (.v (.one (.arr 1)))), (4, (.v (.one (.c (.int .i64 x4)))))], [(1, (.arr false x5.length 1 (gl csS x5)))]⟩ : St) _
  obtain _ | k := k
  · rw [laws_toStringS_l1] at h; cases h
  rw [laws_toStringS_l1] at h
  refine AW.seq ?_
  refine AW.seq ?_
  refine AW.regionA [] [0, 3, 4, 11] [1] (s' := ⟨[(0, (.v (.one (.c (sl 1 csS a0))))), (3, (.v (.one (.arr 1)))), (4, (.v (.one (.c (.int .i64 x4))))), (11, (.v (.one (.c (.bool (decide (x4 < (a0.length : Int))))))))], [(1, (.arr false x5.length 1 (gl csS x5)))]⟩) (ob := True ∧ True ∧ True ∧ True ∧ True) (by kernel_rfl) ⟨trivial, trivial, trivial, trivial, trivial⟩ ?_
  refine thenQ_normal ?_
  rcases ite2_cases h with ⟨b6, h⟩ | ⟨b6, h⟩
  · refine AW.cond_t rfl b6 ?_
    refine AW.skip ?_
    refine thenQ_normal ?_
    refine AW.seq ?_
    refine AW.block ?_
    obtain ⟨c7, h⟩ := chk_some h
    obtain ⟨c8, h⟩ := chk_some h
    refine AW.regionA [.no, .no, .no, .no, .no, .no, .no, .set (x5.set x4.toNat (a0.getD x4.toNat default)).length (gl csS (x5.set x4.toNat (a0.getD x4.toNat default))) ((List.range 1).map fun j => (csS (a0.getD x4.toNat default)).getD (0 + j) .nilptr)] [0, 3, 4] [1] (s' := ⟨[(0, (.v (.one (.c (sl 1 csS a0))))), (3, (.v (.one (.arr 1)))), (4, (.v (.one (.c (.int .i64 x4)))))], [(1, (.arr false (x5.set x4.toNat (a0.getD x4.toNat default)).length 1 (gl csS (x5.set x4.toNat (a0.getD x4.toNat default)))))]⟩) (ob := True ∧ True ∧ True ∧ True ∧ (0 ≤ x4 ∧ x4 < (a0.length : Int)) ∧ True ∧ (0 ≤ x4 ∧ x4 < (x5.length : Int)) ∧ ((x5.set x4.toNat (a0.getD x4.toNat default)).length = x5.length ∧ SetOb x5.length 1 x4.toNat 0 1 (gl csS x5) (gl csS (x5.set x4.toNat (a0.getD x4.toNat default))) ∧ ((List.range 1).map fun j => (csS (a0.getD x4.toNat default)).getD (0 + j) .nilptr) = ((List.range 1).map fun j => gl csS (x5.set x4.toNat (a0.getD x4.toNat default)) x4.toNat (0 + j)) ∧ ((((.str (a0.getD x4.toNat default)) : C) = (.str (a0.getD x4.toNat default)) ∧ True) ∧ True) ∧ (false = true → ∀ j, j < 1 → isSeq (gl csS x5 x4.toNat (0 + j)) = false ∧ isSeq (gl csS (x5.set x4.toNat (a0.getD x4.toNat default)) x4.toNat (0 + j)) = false)) ∧ True) (by kernel_rfl) ⟨trivial, trivial, trivial, trivial, c7, trivial, c8, ⟨List.length_set, gl_set, (gl_atp (lt_of_bound c8)).symm, ⟨⟨rfl, trivial⟩, trivial⟩, (fun h => nomatch h)⟩, trivial⟩ ?_
    refine blockQ_normal ?_
    refine thenQ_normal ?_
    refine AW.regionA [] [0, 3, 4] [1] (s' := ⟨[(0, (.v (.one (.c (sl 1 csS a0))))), (3, (.v (.one (.arr 1)))), (4, (.v (.one (.c (.int .i64 (IntKind.i64.wrap (x4 + (1 : Int))))))))], [(1, (.arr false (x5.set x4.toNat (a0.getD x4.toNat default)).length 1 (gl csS (x5.set x4.toNat (a0.getD x4.toNat default)))))]⟩) (ob := True ∧ True ∧ True ∧ True) (by kernel_rfl) ⟨trivial, trivial, trivial, trivial⟩ ?_
    exact loopQ_normal (k, (IntKind.i64.wrap (x4 + (1 : Int))), (x5.set x4.toNat (a0.getD x4.toNat default))) h (Nat.lt_succ_self k) (Sub.keep [0, 3, 4] [1] (by kernel_rfl) (by kernel_rfl))
  · refine AW.cond_f rfl b6 ?_
    refine AW.exit ?_
    refine thenQ_exit ?_
    refine loopQ_exit ?_
    refine blockQ_exit ?_
    refine thenQ_normal ?_
    refine AW.seq ?_
    refine AW.regionA [] [2] [1] (s' := ⟨[(2, (.v (.one (.arr 1))))], [(1, (.arr false x5.length 1 (gl csS x5)))]⟩) (ob := True ∧ True ∧ True) (by kernel_rfl) ⟨trivial, trivial, trivial⟩ ?_
    refine thenQ_normal ?_
    refine AW.ret ?_
    replace h := some_eq h
    subst h
    exact ⟨.inr rfl, retOK_of [(.one (.arr 1))] (by kernel_rfl) ⟨rfl, trivial⟩ (of_decide_eq_true (by kernel_rfl))⟩

/-! spec.l01Check -/
def spec_l01Check_l1 (K : Nat) (a1 : ByteArray) : Nat → Int → Int → Option (Int)
  | 0, _, _ => none
  | k + 1, x3, x4 => ite2 ((decide (x4 < (a1.size : Int)))) (chk (0 ≤ x4 ∧ x4 < (a1.size : Int)) (chk ((65003 : Int) ≠ 0) (spec_l01Check_l1 K a1 k ((IntKind.i64.wrap ((IntKind.i64.wrap ((IntKind.i64.wrap ((613 : Int) * x3)) + (IntKind.i64.wrap (bt a1 x4.toNat)))) + (23 : Int))).tmod (65003 : Int)) (IntKind.i64.wrap (x4 + (1 : Int)))))) (some x3)

def spec_l01Check (K : Nat) (a0 : Int) (a1 : ByteArray) : Option (Int) :=
  spec_l01Check_l1 K a1 K a0 (0 : Int)

theorem ok_spec_l01Check (K : Nat) (a0 : Int) (a1 : ByteArray) (o : (Int)) (h : spec_l01Check K a0 a1 = some o) : CallOK Tryd.prog 16 [.one (.int .i64 a0), .one (.str a1)] [.one (.int .i64 o)] := by
  refine callOK_of_AW Tryd.func16 rfl (by kernel_rfl) (Nat.le_of_ble_eq_true (by kernel_rfl)) ?_
  intro w0
  unfold spec_l01Check at h
  refine AW.seq ?_
  refine AW.regionA [] [0, 1] [] (s' := ⟨[(0, (.v (.one (.c (.int .i64 a0))))), (1, (.v (.one (.c (.str a1)))))], []⟩) (ob := True ∧ True) (by kernel_rfl) ⟨trivial, trivial⟩ ?_
  refine thenQ_normal ?_
  refine AW.seq ?_
  refine AW.seq ?_
  refine AW.regionA [] [0, 1, 5] [] (s' := ⟨[(0, (.v (.one (.c (.int .i64 a0))))), (1, (.v (.one (.c (.str a1))))), (5, (.v (.one (.c (.int .i64 (0 : Int))))))], []⟩) (ob := True ∧ True) (by kernel_rfl) ⟨trivial, trivial⟩ ?_
  refine thenQ_normal ?_
  refine AW.block ?_
  refine AW.loopQ (σ := Nat × Int × Int) (fun p => ⟨[(0, (.v (.one (.c (.int .i64 p.2.1))))), (1, (.v (.one (.c (.str a1))))), (5, (.v (.one (.c (.int .i64 p.2.2)))))], []⟩) (fun p => spec_l01Check_l1 K a1 p.1 p.2.1 p.2.2 = some o) (fun p => p.1) (K, a0, (0 : Int)) h ?_
  clear h
  rintro ⟨k, x3, x4⟩ h
  replace h : spec_l01Check_l1 K a1 k x3 x4 = some o := h
  show AW _ _ (⟨[(0, (.v (.one (.c (.int .i64 x3))))), (1, (.v (.one (.c (.str a1))))), (5, (.v (.one (.c (.int .i64 x4)))))], []⟩ : St) _
  obtain _ | k := k
  · rw [spec_l01Check_l1] at h; cases h
  rw [spec_l01Check_l1] at h
  refine AW.seq ?_
  refine AW.seq ?_
  refine AW.regionA [] [0, 1, 5, 9] [] (s' := ⟨[(0, (.v (.one (.c (.int .i64 x3))))), (1, (.v (.one (.c (.str a1))))), (5, (.v (.one (.c (.int .i64 x4))))), (9, (.v (.one (.c (.bool (decide (x4 < (a1.size : Int))))))))], []⟩) (ob := True ∧ True ∧ True ∧ True ∧ True) (by kernel_rfl) ⟨trivial, trivial, trivial, trivial, trivial⟩ ?_
  refine thenQ_normal ?_
  rcases ite2_cases h with ⟨b5, h⟩ | ⟨b5, h⟩
  · refine AW.cond_t rfl b5 ?_
    refine AW.skip ?_
    refine thenQ_normal ?_
    refine AW.seq ?_
    refine AW.block ?_
    obtain ⟨c6, h⟩ := chk_some h
    obtain ⟨c7, h⟩ := chk_some h
    refine AW.regionA [] [0, 1, 5] [] (s' := ⟨[(0, (.v (.one (.c (.int .i64 ((IntKind.i64.wrap ((IntKind.i64.wrap ((IntKind.i64.wrap ((613 : Int) * x3)) + (IntKind.i64.wrap (bt a1 x4.toNat)))) + (23 : Int))).tmod (65003 : Int))))))), (1, (.v (.one (.c (.str a1))))), (5, (.v (.one (.c (.int .i64 x4)))))], []⟩) (ob := True ∧ True ∧ True ∧ True ∧ (0 ≤ x4 ∧ x4 < (a1.size : Int)) ∧ True ∧ True ∧ True ∧ ((65003 : Int) ≠ 0) ∧ True ∧ True) (by kernel_rfl) ⟨trivial, trivial, trivial, trivial, c6, trivial, trivial, trivial, c7, trivial, trivial⟩ ?_
    refine blockQ_normal ?_
    refine thenQ_normal ?_
    refine AW.regionA [] [0, 1, 5] [] (s' := ⟨[(0, (.v (.one (.c (.int .i64 ((IntKind.i64.wrap ((IntKind.i64.wrap ((IntKind.i64.wrap ((613 : Int) * x3)) + (IntKind.i64.wrap (bt a1 x4.toNat)))) + (23 : Int))).tmod (65003 : Int))))))), (1, (.v (.one (.c (.str a1))))), (5, (.v (.one (.c (.int .i64 (IntKind.i64.wrap (x4 + (1 : Int))))))))], []⟩) (ob := True ∧ True ∧ True ∧ True) (by kernel_rfl) ⟨trivial, trivial, trivial, trivial⟩ ?_
    exact loopQ_normal (k, ((IntKind.i64.wrap ((IntKind.i64.wrap ((IntKind.i64.wrap ((613 : Int) * x3)) + (IntKind.i64.wrap (bt a1 x4.toNat)))) + (23 : Int))).tmod (65003 : Int)), (IntKind.i64.wrap (x4 + (1 : Int)))) h (Nat.lt_succ_self k) (Sub.keep [0, 1, 5] [] (by kernel_rfl) (by kernel_rfl))
  · refine AW.cond_f rfl b5 ?_
    refine AW.exit ?_
    refine thenQ_exit ?_
    refine loopQ_exit ?_
    refine blockQ_exit ?_
    refine thenQ_normal ?_
    refine AW.seq ?_
    refine AW.regionA [] [4] [] (s' := ⟨[(4, (.v (.one (.c (.int .i64 x3)))))], []⟩) (ob := True ∧ True ∧ True) (by kernel_rfl) ⟨trivial, trivial, trivial⟩ ?_
    refine thenQ_normal ?_
    refine AW.ret ?_
    replace h := some_eq h
    subst h
    exact ⟨.inr rfl, retOK_of [(.one (.c (.int .i64 x3)))] (by kernel_rfl) ⟨⟨rfl, trivial⟩, trivial⟩ (of_decide_eq_true (by kernel_rfl))⟩

/-! spec.l01Dec -/
def spec_l01Dec_l1 (K : Nat) (a0 : Int) : Nat → Int → (List Int) → Option (ByteArray)
  | 0, _, _ => none
  | k + 1, x3, x4 => (ite2 (((x4.length : Int) == (0 : Int))) (some true) (some (x3 != (0 : Int)))).bind fun j6 => ite2 (j6) (chk ((10 : Int) ≠ 0) (ite2 ((decide ((x3.tmod (10 : Int)) < (0 : Int)))) (chk ((([(IntKind.u8.wrap (IntKind.i64.wrap ((48 : Int) + (IntKind.i64.wrap (0 - (x3.tmod (10 : Int)))))))]).length + x4.length) * 1 ≤ 140737488355328) (spec_l01Dec_l1 K a0 k (IntKind.i64.wrap (x3.tdiv (10 : Int))) (([(IntKind.u8.wrap (IntKind.i64.wrap ((48 : Int) + (IntKind.i64.wrap (0 - (x3.tmod (10 : Int)))))))]) ++ x4))) (chk ((([(IntKind.u8.wrap (IntKind.i64.wrap ((48 : Int) + (x3.tmod (10 : Int)))))]).length + x4.length) * 1 ≤ 140737488355328) (spec_l01Dec_l1 K a0 k (IntKind.i64.wrap (x3.tdiv (10 : Int))) (([(IntKind.u8.wrap (IntKind.i64.wrap ((48 : Int) + (x3.tmod (10 : Int)))))]) ++ x4))))) (ite2 ((decide (a0 < (0 : Int)))) (chk ((([(45 : Int)]).length + x4.length) * 1 ≤ 140737488355328) (chk (∀ x ∈ (([(45 : Int)]) ++ x4), 0 ≤ x ∧ x < 256) (some (strOf (([(45 : Int)]) ++ x4))))) (chk (∀ x ∈ x4, 0 ≤ x ∧ x < 256) (some (strOf x4))))

def spec_l01Dec (K : Nat) (a0 : Int) : Option (ByteArray) :=
  spec_l01Dec_l1 K a0 K a0 ([] : List Int)

theorem ok_spec_l01Dec (K : Nat) (a0 : Int) (o : (ByteArray)) (h : spec_l01Dec K a0 = some o) : CallOK Tryd.prog 17 [.one (.int .i64 a0)] [.one (.str o)] := by
  refine callOK_of_AW Tryd.func17 rfl (by kernel_rfl) (Nat.le_of_ble_eq_true (by kernel_rfl)) ?_
  intro w0
  unfold spec_l01Dec at h
  refine AW.seq ?_
  refine AW.regionA [] [0] [] (s' := ⟨[(0, (.v (.one (.c (.int .i64 a0)))))], []⟩) (ob := True ∧ True) (by kernel_rfl) ⟨trivial, trivial⟩ ?_
  refine thenQ_normal ?_
  refine AW.seq ?_
  refine AW.regionA [.obj 1 ([] : List Int).length (gl (csI .u8) ([] : List Int))] [0, 3] [1] (s' := ⟨[(0, (.v (.one (.c (.int .i64 a0))))), (3, (.v (.one (.lst 1 ([] : List Int).length 1 (gl (csI .u8) ([] : List Int))))))], [(1, (.lst ([] : List Int).length 1 (gl (csI .u8) ([] : List Int))))]⟩) (ob := (([] : List Int).length = 0 ∧ True) ∧ True ∧ True) (by kernel_rfl) ⟨⟨rfl, trivial⟩, trivial, trivial⟩ ?_
  refine thenQ_normal ?_
  refine AW.seq ?_
  refine AW.regionA [] [0, 3, 4] [1] (s' := ⟨[(0, (.v (.one (.c (.int .i64 a0))))), (3, (.v (.one (.lst 1 ([] : List Int).length 1 (gl (csI .u8) ([] : List Int)))))), (4, (.v (.one (.c (.int .i64 a0)))))], [(1, (.lst ([] : List Int).length 1 (gl (csI .u8) ([] : List Int))))]⟩) (ob := True ∧ True ∧ True) (by kernel_rfl) ⟨trivial, trivial, trivial⟩ ?_
  refine thenQ_normal ?_
  refine AW.seq ?_
  refine AW.block ?_
  refine AW.loopQ (σ := Nat × Int × (List Int)) (fun p => ⟨[(0, (.v (.one (.c (.int .i64 a0))))), (3, (.v (.one (.lst 1 p.2.2.length 1 (gl (csI .u8) p.2.2))))), (4, (.v (.one (.c (.int .i64 p.2.1)))))], [(1, (.lst p.2.2.length 1 (gl (csI .u8) p.2.2)))]⟩) (fun p => spec_l01Dec_l1 K a0 p.1 p.2.1 p.2.2 = some o) (fun p => p.1) (K, a0, ([] : List Int)) h ?_
  clear h
  rintro ⟨k, x3, x4⟩ h
  replace h : spec_l01Dec_l1 K a0 k x3 x4 = some o := h
  show AW _ _ (⟨[(0, (.v (.one (.c (.int .i64 a0))))), (3, (.v (.one (.lst 1 x4.length 1 (gl (csI .u8) x4))))), (4, (.v (.one (.c (.int .i64 x3)))))], [(1, (.lst x4.length 1 (gl (csI .u8) x4)))]⟩ : St) _
  obtain _ | k := k
  · rw [spec_l01Dec_l1] at h; cases h
  rw [spec_l01Dec_l1] at h
  refine AW.seq ?_
  refine AW.seq ?_
  obtain ⟨j6, e7, h⟩ := bind_some h
  refine AW.join1 (s2 := ⟨[(0, (.v (.one (.c (.int .i64 a0))))), (3, (.v (.one (.lst 1 x4.length 1 (gl (csI .u8) x4))))), (4, (.v (.one (.c (.int .i64 x3))))), (14, (.v (.one (.c (.bool j6)))))], [(1, (.lst x4.length 1 (gl (csI .u8) x4)))]⟩) ?_ ?_
  · rcases ite2_cases e7 with ⟨b5, e7⟩ | ⟨b5, e7⟩
    · replace e7 := some_eq e7
      subst e7
      exact AW.regionA [.no, .no, .no, .dec true] [0, 3, 4, 14] [1] (s' := ⟨[(0, (.v (.one (.c (.int .i64 a0))))), (3, (.v (.one (.lst 1 x4.length 1 (gl (csI .u8) x4))))), (4, (.v (.one (.c (.int .i64 x3))))), (14, (.v (.one (.c (.bool true)))))], [(1, (.lst x4.length 1 (gl (csI .u8) x4)))]⟩) (ob := True ∧ True ∧ True ∧ (True ∧ ((x4.length : Int) == (0 : Int)) = true) ∧ True ∧ True ∧ True ∧ True) (by kernel_rfl) ⟨trivial, trivial, trivial, ⟨trivial, b5⟩, trivial, trivial, trivial, trivial⟩ ⟨rfl, rfl⟩
    · replace e7 := some_eq e7
      subst e7
      exact AW.regionA [.no, .no, .no, .dec false] [0, 3, 4, 14] [1] (s' := ⟨[(0, (.v (.one (.c (.int .i64 a0))))), (3, (.v (.one (.lst 1 x4.length 1 (gl (csI .u8) x4))))), (4, (.v (.one (.c (.int .i64 x3))))), (14, (.v (.one (.c (.bool (x3 != (0 : Int)))))))], [(1, (.lst x4.length 1 (gl (csI .u8) x4)))]⟩) (ob := True ∧ True ∧ True ∧ (True ∧ ((x4.length : Int) == (0 : Int)) = false) ∧ True ∧ True ∧ True ∧ True) (by kernel_rfl) ⟨trivial, trivial, trivial, ⟨trivial, b5⟩, trivial, trivial, trivial, trivial⟩ ⟨rfl, rfl⟩
  refine thenQ_normal ?_
  rcases ite2_cases h with ⟨b8, h⟩ | ⟨b8, h⟩
  · refine AW.cond_t rfl b8 ?_
    refine AW.skip ?_
    refine thenQ_normal ?_
    refine AW.block ?_
    refine AW.seq ?_
    obtain ⟨c9, h⟩ := chk_some h
    refine AW.regionA [] [0, 3, 4, 5] [1] (s' := ⟨[(0, (.v (.one (.c (.int .i64 a0))))), (3, (.v (.one (.lst 1 x4.length 1 (gl (csI .u8) x4))))), (4, (.v (.one (.c (.int .i64 x3))))), (5, (.v (.one (.c (.int .i64 (x3.tmod (10 : Int)))))))], [(1, (.lst x4.length 1 (gl (csI .u8) x4)))]⟩) (ob := True ∧ ((10 : Int) ≠ 0) ∧ True ∧ True) (by kernel_rfl) ⟨trivial, c9, trivial, trivial⟩ ?_
    refine thenQ_normal ?_
    refine AW.seq ?_
    refine AW.seq ?_
    refine AW.regionA [] [0, 3, 4, 5, 18] [1] (s' := ⟨[(0, (.v (.one (.c (.int .i64 a0))))), (3, (.v (.one (.lst 1 x4.length 1 (gl (csI .u8) x4))))), (4, (.v (.one (.c (.int .i64 x3))))), (5, (.v (.one (.c (.int .i64 (x3.tmod (10 : Int))))))), (18, (.v (.one (.c (.bool (decide ((x3.tmod (10 : Int)) < (0 : Int))))))))], [(1, (.lst x4.length 1 (gl (csI .u8) x4)))]⟩) (ob := True ∧ True ∧ True) (by kernel_rfl) ⟨trivial, trivial, trivial⟩ ?_
    refine thenQ_normal ?_
    rcases ite2_cases h with ⟨b10, h⟩ | ⟨b10, h⟩
    · refine AW.cond_t rfl b10 ?_
      refine AW.regionA [] [0, 3, 4, 5] [1] (s' := ⟨[(0, (.v (.one (.c (.int .i64 a0))))), (3, (.v (.one (.lst 1 x4.length 1 (gl (csI .u8) x4))))), (4, (.v (.one (.c (.int .i64 x3))))), (5, (.v (.one (.c (.int .i64 (IntKind.i64.wrap (0 - (x3.tmod (10 : Int)))))))))], [(1, (.lst x4.length 1 (gl (csI .u8) x4)))]⟩) (ob := True ∧ True ∧ True ∧ True) (by kernel_rfl) ⟨trivial, trivial, trivial, trivial⟩ ?_
      refine thenQ_normal ?_
      refine AW.seq ?_
      obtain ⟨c11, h⟩ := chk_some h
      refine AW.regionA [.no, .no, .no, .obj 10 ([(IntKind.u8.wrap (IntKind.i64.wrap ((48 : Int) + (IntKind.i64.wrap (0 - (x3.tmod (10 : Int)))))))]).length (gl (csI .u8) ([(IntKind.u8.wrap (IntKind.i64.wrap ((48 : Int) + (IntKind.i64.wrap (0 - (x3.tmod (10 : Int)))))))])), .no, .objK 11 (([(IntKind.u8.wrap (IntKind.i64.wrap ((48 : Int) + (IntKind.i64.wrap (0 - (x3.tmod (10 : Int)))))))]) ++ x4).length (gl (csI .u8) (([(IntKind.u8.wrap (IntKind.i64.wrap ((48 : Int) + (IntKind.i64.wrap (0 - (x3.tmod (10 : Int)))))))]) ++ x4))] [0, 3, 4] [11] (s' := ⟨[(0, (.v (.one (.c (.int .i64 a0))))), (3, (.v (.one (.lst 11 (([(IntKind.u8.wrap (IntKind.i64.wrap ((48 : Int) + (IntKind.i64.wrap (0 - (x3.tmod (10 : Int)))))))]) ++ x4).length 1 (gl (csI .u8) (([(IntKind.u8.wrap (IntKind.i64.wrap ((48 : Int) + (IntKind.i64.wrap (0 - (x3.tmod (10 : Int)))))))]) ++ x4)))))), (4, (.v (.one (.c (.int .i64 x3)))))], [(11, (.lst (([(IntKind.u8.wrap (IntKind.i64.wrap ((48 : Int) + (IntKind.i64.wrap (0 - (x3.tmod (10 : Int)))))))]) ++ x4).length 1 (gl (csI .u8) (([(IntKind.u8.wrap (IntKind.i64.wrap ((48 : Int) + (IntKind.i64.wrap (0 - (x3.tmod (10 : Int)))))))]) ++ x4))))]⟩) (ob := True ∧ True ∧ True ∧ (([(IntKind.u8.wrap (IntKind.i64.wrap ((48 : Int) + (IntKind.i64.wrap (0 - (x3.tmod (10 : Int)))))))]).length = 1 ∧ (((.int .u8 (IntKind.u8.wrap (IntKind.i64.wrap ((48 : Int) + (IntKind.i64.wrap (0 - (x3.tmod (10 : Int)))))))) : C) = (.int .u8 (IntKind.u8.wrap (IntKind.i64.wrap ((48 : Int) + (IntKind.i64.wrap (0 - (x3.tmod (10 : Int)))))))) ∧ True) ∧ True) ∧ True ∧ ((([(IntKind.u8.wrap (IntKind.i64.wrap ((48 : Int) + (IntKind.i64.wrap (0 - (x3.tmod (10 : Int)))))))]) ++ x4).length = ([(IntKind.u8.wrap (IntKind.i64.wrap ((48 : Int) + (IntKind.i64.wrap (0 - (x3.tmod (10 : Int)))))))]).length + x4.length ∧ AppOb (([(IntKind.u8.wrap (IntKind.i64.wrap ((48 : Int) + (IntKind.i64.wrap (0 - (x3.tmod (10 : Int)))))))]).length) (x4.length) 1 (gl (csI .u8) ([(IntKind.u8.wrap (IntKind.i64.wrap ((48 : Int) + (IntKind.i64.wrap (0 - (x3.tmod (10 : Int)))))))])) (gl (csI .u8) x4) (gl (csI .u8) (([(IntKind.u8.wrap (IntKind.i64.wrap ((48 : Int) + (IntKind.i64.wrap (0 - (x3.tmod (10 : Int)))))))]) ++ x4)) ∧ (∀ i j, i < x4.length → j < 1 → scalarC (gl (csI .u8) x4 i j)) ∧ (([(IntKind.u8.wrap (IntKind.i64.wrap ((48 : Int) + (IntKind.i64.wrap (0 - (x3.tmod (10 : Int)))))))]).length + x4.length) * 1 ≤ 140737488355328) ∧ True ∧ True) (by kernel_rfl) ⟨trivial, trivial, trivial, ⟨rfl, ⟨⟨rfl, trivial⟩, trivial⟩⟩, trivial, ⟨List.length_append, gl_append, gl_scalar scI _, c11⟩, trivial, trivial⟩ ?_
      refine thenQ_normal ?_
      refine AW.regionA [] [0, 3, 4] [11] (s' := ⟨[(0, (.v (.one (.c (.int .i64 a0))))), (3, (.v (.one (.lst 11 (([(IntKind.u8.wrap (IntKind.i64.wrap ((48 : Int) + (IntKind.i64.wrap (0 - (x3.tmod (10 : Int)))))))]) ++ x4).length 1 (gl (csI .u8) (([(IntKind.u8.wrap (IntKind.i64.wrap ((48 : Int) + (IntKind.i64.wrap (0 - (x3.tmod (10 : Int)))))))]) ++ x4)))))), (4, (.v (.one (.c (.int .i64 (IntKind.i64.wrap (x3.tdiv (10 : Int))))))))], [(11, (.lst (([(IntKind.u8.wrap (IntKind.i64.wrap ((48 : Int) + (IntKind.i64.wrap (0 - (x3.tmod (10 : Int)))))))]) ++ x4).length 1 (gl (csI .u8) (([(IntKind.u8.wrap (IntKind.i64.wrap ((48 : Int) + (IntKind.i64.wrap (0 - (x3.tmod (10 : Int)))))))]) ++ x4))))]⟩) (ob := True ∧ ((10 : Int) ≠ 0) ∧ True ∧ True) (by kernel_rfl) ⟨trivial, c9, trivial, trivial⟩ ?_
      refine blockQ_normal ?_
      exact loopQ_normal (k, (IntKind.i64.wrap (x3.tdiv (10 : Int))), (([(IntKind.u8.wrap (IntKind.i64.wrap ((48 : Int) + (IntKind.i64.wrap (0 - (x3.tmod (10 : Int)))))))]) ++ x4)) h (Nat.lt_succ_self k) (Sub.trans (Sub.swap 1 11 _ (by kernel_rfl) (by kernel_rfl)) (Sub.keep [0, 3, 4] [1] (by kernel_rfl) (by kernel_rfl)))
    · refine AW.cond_f rfl b10 ?_
      refine AW.skip ?_
      refine thenQ_normal ?_
      refine AW.seq ?_
      obtain ⟨c12, h⟩ := chk_some h
      refine AW.regionA [.no, .no, .no, .obj 12 ([(IntKind.u8.wrap (IntKind.i64.wrap ((48 : Int) + (x3.tmod (10 : Int)))))]).length (gl (csI .u8) ([(IntKind.u8.wrap (IntKind.i64.wrap ((48 : Int) + (x3.tmod (10 : Int)))))])), .no, .objK 13 (([(IntKind.u8.wrap (IntKind.i64.wrap ((48 : Int) + (x3.tmod (10 : Int)))))]) ++ x4).length (gl (csI .u8) (([(IntKind.u8.wrap (IntKind.i64.wrap ((48 : Int) + (x3.tmod (10 : Int)))))]) ++ x4))] [0, 3, 4] [13] (s' := ⟨[(0, (.v (.one (.c (.int .i64 a0))))), (3, (.v (.one (.lst 13 (([(IntKind.u8.wrap (IntKind.i64.wrap ((48 : Int) + (x3.tmod (10 : Int)))))]) ++ x4).length 1 (gl (csI .u8) (([(IntKind.u8.wrap (IntKind.i64.wrap ((48 : Int) + (x3.tmod (10 : Int)))))]) ++ x4)))))), (4, (.v (.one (.c (.int .i64 x3)))))], [(13, (.lst (([(IntKind.u8.wrap (IntKind.i64.wrap ((48 : Int) + (x3.tmod (10 : Int)))))]) ++ x4).length 1 (gl (csI .u8) (([(IntKind.u8.wrap (IntKind.i64.wrap ((48 : Int) + (x3.tmod (10 : Int)))))]) ++ x4))))]⟩) (ob := True ∧ True ∧ True ∧ (([(IntKind.u8.wrap (IntKind.i64.wrap ((48 : Int) + (x3.tmod (10 : Int)))))]).length = 1 ∧ (((.int .u8 (IntKind.u8.wrap (IntKind.i64.wrap ((48 : Int) + (x3.tmod (10 : Int)))))) : C) = (.int .u8 (IntKind.u8.wrap (IntKind.i64.wrap ((48 : Int) + (x3.tmod (10 : Int)))))) ∧ True) ∧ True) ∧ True ∧ ((([(IntKind.u8.wrap (IntKind.i64.wrap ((48 : Int) + (x3.tmod (10 : Int)))))]) ++ x4).length = ([(IntKind.u8.wrap (IntKind.i64.wrap ((48 : Int) + (x3.tmod (10 : Int)))))]).length + x4.length ∧ AppOb (([(IntKind.u8.wrap (IntKind.i64.wrap ((48 : Int) + (x3.tmod (10 : Int)))))]).length) (x4.length) 1 (gl (csI .u8) ([(IntKind.u8.wrap (IntKind.i64.wrap ((48 : Int) + (x3.tmod (10 : Int)))))])) (gl (csI .u8) x4) (gl (csI .u8) (([(IntKind.u8.wrap (IntKind.i64.wrap ((48 : Int) + (x3.tmod (10 : Int)))))]) ++ x4)) ∧ (∀ i j, i < x4.length → j < 1 → scalarC (gl (csI .u8) x4 i j)) ∧ (([(IntKind.u8.wrap (IntKind.i64.wrap ((48 : Int) + (x3.tmod (10 : Int)))))]).length + x4.length) * 1 ≤ 140737488355328) ∧ True ∧ True) (by kernel_rfl) ⟨trivial, trivial, trivial, ⟨rfl, ⟨⟨rfl, trivial⟩, trivial⟩⟩, trivial, ⟨List.length_append, gl_append, gl_scalar scI _, c12⟩, trivial, trivial⟩ ?_
      refine thenQ_normal ?_
      refine AW.regionA [] [0, 3, 4] [13] (s' := ⟨[(0, (.v (.one (.c (.int .i64 a0))))), (3, (.v (.one (.lst 13 (([(IntKind.u8.wrap (IntKind.i64.wrap ((48 : Int) + (x3.tmod (10 : Int)))))]) ++ x4).length 1 (gl (csI .u8) (([(IntKind.u8.wrap (IntKind.i64.wrap ((48 : Int) + (x3.tmod (10 : Int)))))]) ++ x4)))))), (4, (.v (.one (.c (.int .i64 (IntKind.i64.wrap (x3.tdiv (10 : Int))))))))], [(13, (.lst (([(IntKind.u8.wrap (IntKind.i64.wrap ((48 : Int) + (x3.tmod (10 : Int)))))]) ++ x4).length 1 (gl (csI .u8) (([(IntKind.u8.wrap (IntKind.i64.wrap ((48 : Int) + (x3.tmod (10 : Int)))))]) ++ x4))))]⟩) (ob := True ∧ ((10 : Int) ≠ 0) ∧ True ∧ True) (by kernel_rfl) ⟨trivial, c9, trivial, trivial⟩ ?_
      refine blockQ_normal ?_
      exact loopQ_normal (k, (IntKind.i64.wrap (x3.tdiv (10 : Int))), (([(IntKind.u8.wrap (IntKind.i64.wrap ((48 : Int) + (x3.tmod (10 : Int)))))]) ++ x4)) h (Nat.lt_succ_self k) (Sub.trans (Sub.swap 1 13 _ (by kernel_rfl) (by kernel_rfl)) (Sub.keep [0, 3, 4] [1] (by kernel_rfl) (by kernel_rfl)))
  · refine AW.cond_f rfl b8 ?_
    refine AW.exit ?_
    refine thenQ_exit ?_
    refine loopQ_exit ?_
    refine blockQ_exit ?_
    refine thenQ_normal ?_
    refine AW.seq ?_
    refine AW.seq ?_
    refine AW.regionA [] [3, 30] [1] (s' := ⟨[(3, (.v (.one (.lst 1 x4.length 1 (gl (csI .u8) x4))))), (30, (.v (.one (.c (.bool (decide (a0 < (0 : Int))))))))], [(1, (.lst x4.length 1 (gl (csI .u8) x4)))]⟩) (ob := True ∧ True ∧ True) (by kernel_rfl) ⟨trivial, trivial, trivial⟩ ?_
    refine thenQ_normal ?_
    rcases ite2_cases h with ⟨b13, h⟩ | ⟨b13, h⟩
    · refine AW.cond_t rfl b13 ?_
      obtain ⟨c14, h⟩ := chk_some h
      refine AW.regionA [.obj 14 ([(45 : Int)]).length (gl (csI .u8) ([(45 : Int)])), .no, .objK 15 (([(45 : Int)]) ++ x4).length (gl (csI .u8) (([(45 : Int)]) ++ x4))] [3] [15] (s' := ⟨[(3, (.v (.one (.lst 15 (([(45 : Int)]) ++ x4).length 1 (gl (csI .u8) (([(45 : Int)]) ++ x4))))))], [(15, (.lst (([(45 : Int)]) ++ x4).length 1 (gl (csI .u8) (([(45 : Int)]) ++ x4))))]⟩) (ob := (([(45 : Int)]).length = 1 ∧ (((.int .u8 (45 : Int)) : C) = (.int .u8 (45 : Int)) ∧ True) ∧ True) ∧ True ∧ ((([(45 : Int)]) ++ x4).length = ([(45 : Int)]).length + x4.length ∧ AppOb (([(45 : Int)]).length) (x4.length) 1 (gl (csI .u8) ([(45 : Int)])) (gl (csI .u8) x4) (gl (csI .u8) (([(45 : Int)]) ++ x4)) ∧ (∀ i j, i < x4.length → j < 1 → scalarC (gl (csI .u8) x4 i j)) ∧ (([(45 : Int)]).length + x4.length) * 1 ≤ 140737488355328) ∧ True ∧ True) (by kernel_rfl) ⟨⟨rfl, ⟨⟨rfl, trivial⟩, trivial⟩⟩, trivial, ⟨List.length_append, gl_append, gl_scalar scI _, c14⟩, trivial, trivial⟩ ?_
      refine thenQ_normal ?_
      refine AW.seq ?_
      obtain ⟨c15, h⟩ := chk_some h
      refine AW.regionA [.no, .str (strOf (([(45 : Int)]) ++ x4))] [2] [] (s' := ⟨[(2, (.v (.one (.c (.str (strOf (([(45 : Int)]) ++ x4)))))))], []⟩) (ob := True ∧ (bytesOb (strOf (([(45 : Int)]) ++ x4)) (([(45 : Int)]) ++ x4).length (gl (csI .u8) (([(45 : Int)]) ++ x4))) ∧ True ∧ True) (by kernel_rfl) ⟨trivial, strOf_ob c15, trivial, trivial⟩ ?_
      refine thenQ_normal ?_
      refine AW.ret ?_
      replace h := some_eq h
      subst h
      exact ⟨.inr rfl, retOK_of [(.one (.c (.str (strOf (([(45 : Int)]) ++ x4)))))] (by kernel_rfl) ⟨⟨rfl, trivial⟩, trivial⟩ (of_decide_eq_true (by kernel_rfl))⟩
    · refine AW.cond_f rfl b13 ?_
      refine AW.skip ?_
      refine thenQ_normal ?_
      refine AW.seq ?_
      obtain ⟨c16, h⟩ := chk_some h
      refine AW.regionA [.no, .str (strOf x4)] [2] [] (s' := ⟨[(2, (.v (.one (.c (.str (strOf x4))))))], []⟩) (ob := True ∧ (bytesOb (strOf x4) x4.length (gl (csI .u8) x4)) ∧ True ∧ True) (by kernel_rfl) ⟨trivial, strOf_ob c16, trivial, trivial⟩ ?_
      refine thenQ_normal ?_
      refine AW.ret ?_
      replace h := some_eq h
      subst h
      exact ⟨.inr rfl, retOK_of [(.one (.c (.str (strOf x4))))] (by kernel_rfl) ⟨⟨rfl, trivial⟩, trivial⟩ (of_decide_eq_true (by kernel_rfl))⟩

/-! spec.l11Journal -/
def spec_l11Journal_l1 (K : Nat) (a0 : (List ByteArray)) : Nat → ByteArray → Int → Int → Option (ByteArray)
  | 0, _, _, _ => none
  | k + 1, x4, x5, x6 => ite2 ((decide (x6 < (a0.length : Int)))) (chk (0 ≤ x6 ∧ x6 < (a0.length : Int)) ((spec_l01Check K x5 (a0.getD x6.toNat default)).bind fun v9 => (spec_l01Dec K v9).bind fun v11 => chk (((v11.size + (ByteArray.mk #[32]).size : Nat) : Int) ≤ 9223372036854775807) (chk ((((v11 ++ (ByteArray.mk #[32])).size + (a0.getD x6.toNat default).size : Nat) : Int) ≤ 9223372036854775807) (chk (((((v11 ++ (ByteArray.mk #[32])) ++ (a0.getD x6.toNat default)).size + (ByteArray.mk #[10]).size : Nat) : Int) ≤ 9223372036854775807) (chk (((x4.size + (((v11 ++ (ByteArray.mk #[32])) ++ (a0.getD x6.toNat default)) ++ (ByteArray.mk #[10])).size : Nat) : Int) ≤ 9223372036854775807) (spec_l11Journal_l1 K a0 k (x4 ++ (((v11 ++ (ByteArray.mk #[32])) ++ (a0.getD x6.toNat default)) ++ (ByteArray.mk #[10]))) v9 (IntKind.i64.wrap (x6 + (1 : Int))))))))) (some x4)

def spec_l11Journal (K : Nat) (a0 : (List ByteArray)) : Option (ByteArray) :=
  spec_l11Journal_l1 K a0 K ByteArray.empty (0 : Int) (0 : Int)

theorem ok_spec_l11Journal (K : Nat) (a0 : (List ByteArray)) (o : (ByteArray)) (h : spec_l11Journal K a0 = some o) : CallOK Tryd.prog 9 [.one (sl 1 csS a0)] [.one (.str o)] := by
  refine callOK_of_AW Tryd.func9 rfl (by kernel_rfl) (Nat.le_of_ble_eq_true (by kernel_rfl)) ?_
  intro w0
  unfold spec_l11Journal at h
  refine AW.seq ?_
  refine AW.regionA [] [0] [] (s' := ⟨[(0, (.v (.one (.c (sl 1 csS a0)))))], []⟩) (ob := True ∧ True) (by kernel_rfl) ⟨trivial, trivial⟩ ?_
  refine thenQ_normal ?_
  refine AW.seq ?_
  refine AW.regionA [] [0, 3] [] (s' := ⟨[(0, (.v (.one (.c (sl 1 csS a0))))), (3, (.v (.one (.c (.str ByteArray.empty)))))], []⟩) (ob := True ∧ True) (by kernel_rfl) ⟨trivial, trivial⟩ ?_
  refine thenQ_normal ?_
  refine AW.seq ?_
  refine AW.regionA [] [0, 3, 4] [] (s' := ⟨[(0, (.v (.one (.c (sl 1 csS a0))))), (3, (.v (.one (.c (.str ByteArray.empty))))), (4, (.v (.one (.c (.int .i64 (0 : Int))))))], []⟩) (ob := True ∧ True) (by kernel_rfl) ⟨trivial, trivial⟩ ?_
  refine thenQ_normal ?_
  refine AW.seq ?_
  refine AW.seq ?_
  refine AW.regionA [] [0, 3, 4, 5] [] (s' := ⟨[(0, (.v (.one (.c (sl 1 csS a0))))), (3, (.v (.one (.c (.str ByteArray.empty))))), (4, (.v (.one (.c (.int .i64 (0 : Int)))))), (5, (.v (.one (.c (.int .i64 (0 : Int))))))], []⟩) (ob := True ∧ True) (by kernel_rfl) ⟨trivial, trivial⟩ ?_
  refine thenQ_normal ?_
  refine AW.block ?_
  refine AW.loopQ (σ := Nat × ByteArray × Int × Int) (fun p => ⟨[(0, (.v (.one (.c (sl 1 csS a0))))), (3, (.v (.one (.c (.str p.2.1))))), (4, (.v (.one (.c (.int .i64 p.2.2.1))))), (5, (.v (.one (.c (.int .i64 p.2.2.2)))))], []⟩) (fun p => spec_l11Journal_l1 K a0 p.1 p.2.1 p.2.2.1 p.2.2.2 = some o) (fun p => p.1) (K, ByteArray.empty, (0 : Int), (0 : Int)) h ?_
  clear h
  rintro ⟨k, x4, x5, x6⟩ h
  replace h : spec_l11Journal_l1 K a0 k x4 x5 x6 = some o := h
  show AW _ _ (⟨[(0, (.v (.one (.c (sl 1 csS a0))))), (3, (.v (.one (.c (.str x4))))), (4, (.v (.one (.c (.int .i64 x5))))), (5, (.v (.one (.c (.int .i64 x6)))))], []⟩ : St) _
  obtain _ | k := k
  · rw [spec_l11Journal_l1] at h; cases h
  rw [spec_l11Journal_l1] at h
  refine AW.seq ?_
  refine AW.seq ?_
  refine AW.regionA [] [0, 3, 4, 5, 9] [] (s' := ⟨[(0, (.v (.one (.c (sl 1 csS a0))))), (3, (.v (.one (.c (.str x4))))), (4, (.v (.one (.c (.int .i64 x5))))), (5, (.v (.one (.c (.int .i64 x6))))), (9, (.v (.one (.c (.bool (decide (x6 < (a0.length : Int))))))))], []⟩) (ob := True ∧ True ∧ True ∧ True ∧ True) (by kernel_rfl) ⟨trivial, trivial, trivial, trivial, trivial⟩ ?_
  refine thenQ_normal ?_
  rcases ite2_cases h with ⟨b7, h⟩ | ⟨b7, h⟩
  · refine AW.cond_t rfl b7 ?_
    refine AW.skip ?_
    refine thenQ_normal ?_
    refine AW.seq ?_
    refine AW.block ?_
    refine AW.seq ?_
    obtain ⟨c8, h⟩ := chk_some h
    obtain ⟨v9, e10, h⟩ := bind_some h
    refine AW.regionA [.no, .no, .no, .no, .no, .call [.one (.int .i64 x5), .one (.str (a0.getD x6.toNat default))] [.one (.int .i64 v9)] [[.view]]] [0, 3, 4, 5] [] (s' := ⟨[(0, (.v (.one (.c (sl 1 csS a0))))), (3, (.v (.one (.c (.str x4))))), (4, (.v (.one (.c (.int .i64 v9))))), (5, (.v (.one (.c (.int .i64 x6)))))], []⟩) (ob := True ∧ True ∧ True ∧ (0 ≤ x6 ∧ x6 < (a0.length : Int)) ∧ True ∧ (((((.int .i64 x5) : C) = (.int .i64 x5)) ∧ (((.str (a0.getD x6.toNat default)) : C) = (.str (a0.getD x6.toNat default))) ∧ True) ∧ CallOK Tryd.prog 16 [.one (.int .i64 x5), .one (.str (a0.getD x6.toNat default))] [.one (.int .i64 v9)]) ∧ True ∧ True) (by kernel_rfl) ⟨trivial, trivial, trivial, c8, trivial, ⟨⟨rfl, rfl, trivial⟩, ok_spec_l01Check K x5 (a0.getD x6.toNat default) v9 e10⟩, trivial, trivial⟩ ?_
    refine thenQ_normal ?_
    obtain ⟨v11, e12, h⟩ := bind_some h
    obtain ⟨c13, h⟩ := chk_some h
    obtain ⟨c14, h⟩ := chk_some h
    obtain ⟨c15, h⟩ := chk_some h
    obtain ⟨c16, h⟩ := chk_some h
    refine AW.drawnA (by kernel_rfl) 11 [.no, .no, .call [.one (.int .i64 v9)] [.one (.str v11)] [[.view]]] [0, 3, 4, 5] [] (s' := ⟨[(0, (.v (.one (.c (sl 1 csS a0))))), (3, (.v (.one (.c (.str (x4 ++ (((v11 ++ (ByteArray.mk #[32])) ++ (a0.getD x6.toNat default)) ++ (ByteArray.mk #[10])))))))), (4, (.v (.one (.c (.int .i64 v9))))), (5, (.v (.one (.c (.int .i64 x6)))))], []⟩) (ob := (True ∧ True ∧ (((((.int .i64 v9) : C) = (.int .i64 v9)) ∧ True) ∧ CallOK Tryd.prog 17 [.one (.int .i64 v9)] [.one (.str v11)]) ∧ (((v11.size + (ByteArray.mk #[32]).size : Nat) : Int) ≤ 9223372036854775807) ∧ True ∧ True ∧ (0 ≤ x6 ∧ x6 < (a0.length : Int)) ∧ True ∧ ((((v11 ++ (ByteArray.mk #[32])).size + (a0.getD x6.toNat default).size : Nat) : Int) ≤ 9223372036854775807) ∧ (((((v11 ++ (ByteArray.mk #[32])) ++ (a0.getD x6.toNat default)).size + (ByteArray.mk #[10]).size : Nat) : Int) ≤ 9223372036854775807) ∧ (((x4.size + (((v11 ++ (ByteArray.mk #[32])) ++ (a0.getD x6.toNat default)) ++ (ByteArray.mk #[10])).size : Nat) : Int) ≤ 9223372036854775807) ∧ True) ∧ (True ∧ True)) (by kernel_rfl) ⟨⟨trivial, trivial, ⟨⟨rfl, trivial⟩, ok_spec_l01Dec K v9 v11 e12⟩, c13, trivial, trivial, c8, trivial, c14, c15, c16, trivial⟩, ⟨trivial, trivial⟩⟩ ?_
    refine blockQ_normal ?_
    refine thenQ_normal ?_
    refine AW.regionA [] [0, 3, 4, 5] [] (s' := ⟨[(0, (.v (.one (.c (sl 1 csS a0))))), (3, (.v (.one (.c (.str (x4 ++ (((v11 ++ (ByteArray.mk #[32])) ++ (a0.getD x6.toNat default)) ++ (ByteArray.mk #[10])))))))), (4, (.v (.one (.c (.int .i64 v9))))), (5, (.v (.one (.c (.int .i64 (IntKind.i64.wrap (x6 + (1 : Int))))))))], []⟩) (ob := True ∧ True ∧ True ∧ True) (by kernel_rfl) ⟨trivial, trivial, trivial, trivial⟩ ?_
    exact loopQ_normal (k, (x4 ++ (((v11 ++ (ByteArray.mk #[32])) ++ (a0.getD x6.toNat default)) ++ (ByteArray.mk #[10]))), v9, (IntKind.i64.wrap (x6 + (1 : Int)))) h (Nat.lt_succ_self k) (Sub.keep [0, 3, 4, 5] [] (by kernel_rfl) (by kernel_rfl))
  · refine AW.cond_f rfl b7 ?_
    refine AW.exit ?_
    refine thenQ_exit ?_
    refine loopQ_exit ?_
    refine blockQ_exit ?_
    refine thenQ_normal ?_
    refine AW.seq ?_
    refine AW.regionA [] [2] [] (s' := ⟨[(2, (.v (.one (.c (.str x4)))))], []⟩) (ob := True ∧ True ∧ True) (by kernel_rfl) ⟨trivial, trivial, trivial⟩ ?_
    refine thenQ_normal ?_
    refine AW.ret ?_
    replace h := some_eq h
    subst h
    exact ⟨.inr rfl, retOK_of [(.one (.c (.str x4)))] (by kernel_rfl) ⟨⟨rfl, trivial⟩, trivial⟩ (of_decide_eq_true (by kernel_rfl))⟩

/-! spec.JournalOf -/
def spec_JournalOf_l4 (K : Nat) (a0 : (List ByteArray)) (x4 : Int) : Nat → Int → Option ((Unit) ⊕ (Unit))
  | 0, _ => none
  | k + 1, x19 => chk (0 ≤ x4 ∧ x4 < (a0.length : Int)) (ite2 ((decide (x19 < ((a0.getD x4.toNat default).size : Int)))) (chk (0 ≤ x19 ∧ x19 < ((a0.getD x4.toNat default).size : Int)) (ite2 (((bt (a0.getD x4.toNat default) x19.toNat) == (10 : Int))) (some (.inr ())) (spec_JournalOf_l4 K a0 x4 k (IntKind.i64.wrap (x19 + (1 : Int)))))) (some (.inl ())))

def spec_JournalOf_l3 (K : Nat) (a0 : (List ByteArray)) : Nat → Int → Int → Option (ByteArray × Bool)
  | 0, _, _ => none
  | k + 1, x3, x4 => ite2 ((decide (x4 < (a0.length : Int)))) (chk (0 ≤ x4 ∧ x4 < (a0.length : Int)) (ite2 ((decide ((IntKind.i64.wrap (x3 + (IntKind.i64.wrap (((a0.getD x4.toNat default).size : Int) + (3 : Int))))) > (8000 : Int)))) (some (ByteArray.empty, false)) ((spec_JournalOf_l4 K a0 x4 K (0 : Int)).bind (fun z0 => sumC z0 (fun j16 => spec_JournalOf_l3 K a0 k (IntKind.i64.wrap (x3 + (IntKind.i64.wrap (((a0.getD x4.toNat default).size : Int) + (3 : Int))))) (IntKind.i64.wrap (x4 + (1 : Int)))) (fun j17 => some (ByteArray.empty, false)))))) ((spec_l11Journal K a0).bind fun v24 => ite2 ((decide ((v24.size : Int) > (8000 : Int)))) (some (ByteArray.empty, false)) (some (v24, true)))

def spec_JournalOf (K : Nat) (a0 : (List ByteArray)) : Option (ByteArray × Bool) :=
  spec_JournalOf_l3 K a0 K (0 : Int) (0 : Int)

theorem ok_spec_JournalOf (K : Nat) (a0 : (List ByteArray)) (o : (ByteArray × Bool)) (h : spec_JournalOf K a0 = some o) : CallOK Tryd.prog 5 [.one (sl 1 csS a0)] [.one (.str o.1), .one (.bool o.2)] := by
  refine callOK_of_AW Tryd.func5 rfl (by kernel_rfl) (Nat.le_of_ble_eq_true (by kernel_rfl)) ?_
  intro w0
  unfold spec_JournalOf at h
  refine AW.seq ?_
  refine AW.regionA [] [0] [] (s' := ⟨[(0, (.v (.one (.c (sl 1 csS a0)))))], []⟩) (ob := True ∧ True ∧ True) (by kernel_rfl) ⟨trivial, trivial, trivial⟩ ?_
  refine thenQ_normal ?_
  refine AW.seq ?_
  refine AW.regionA [] [0, 4] [] (s' := ⟨[(0, (.v (.one (.c (sl 1 csS a0))))), (4, (.v (.one (.c (.int .i64 (0 : Int))))))], []⟩) (ob := True ∧ True) (by kernel_rfl) ⟨trivial, trivial⟩ ?_
  refine thenQ_normal ?_
  refine AW.seq ?_
  refine AW.seq ?_
  refine AW.regionA [] [0, 4, 5] [] (s' := ⟨[(0, (.v (.one (.c (sl 1 csS a0))))), (4, (.v (.one (.c (.int .i64 (0 : Int)))))), (5, (.v (.one (.c (.int .i64 (0 : Int))))))], []⟩) (ob := True ∧ True) (by kernel_rfl) ⟨trivial, trivial⟩ ?_
  refine thenQ_normal ?_
  refine AW.block ?_
  refine AW.loopQ (σ := Nat × Int × Int) (fun p => ⟨[(0, (.v (.one (.c (sl 1 csS a0))))), (4, (.v (.one (.c (.int .i64 p.2.1))))), (5, (.v (.one (.c (.int .i64 p.2.2)))))], []⟩) (fun p => spec_JournalOf_l3 K a0 p.1 p.2.1 p.2.2 = some o) (fun p => p.1) (K, (0 : Int), (0 : Int)) h ?_
  clear h
  rintro ⟨k, x3, x4⟩ h
  replace h : spec_JournalOf_l3 K a0 k x3 x4 = some o := h
  show AW _ _ (⟨[(0, (.v (.one (.c (sl 1 csS a0))))), (4, (.v (.one (.c (.int .i64 x3))))), (5, (.v (.one (.c (.int .i64 x4)))))], []⟩ : St) _
  obtain _ | k := k
  · rw [spec_JournalOf_l3] at h; cases h
  rw [spec_JournalOf_l3] at h
  refine AW.seq ?_
  refine AW.seq ?_
  refine AW.regionA [] [0, 4, 5, 11] [] (s' := ⟨[(0, (.v (.one (.c (sl 1 csS a0))))), (4, (.v (.one (.c (.int .i64 x3))))), (5, (.v (.one (.c (.int .i64 x4))))), (11, (.v (.one (.c (.bool (decide (x4 < (a0.length : Int))))))))], []⟩) (ob := True ∧ True ∧ True ∧ True ∧ True) (by kernel_rfl) ⟨trivial, trivial, trivial, trivial, trivial⟩ ?_
  refine thenQ_normal ?_
  rcases ite2_cases h with ⟨b5, h⟩ | ⟨b5, h⟩
  · refine AW.cond_t rfl b5 ?_
    refine AW.skip ?_
    refine thenQ_normal ?_
    refine AW.seq ?_
    refine AW.block ?_
    refine AW.seq ?_
    obtain ⟨c6, h⟩ := chk_some h
    refine AW.regionA [] [0, 4, 5] [] (s' := ⟨[(0, (.v (.one (.c (sl 1 csS a0))))), (4, (.v (.one (.c (.int .i64 (IntKind.i64.wrap (x3 + (IntKind.i64.wrap (((a0.getD x4.toNat default).size : Int) + (3 : Int)))))))))), (5, (.v (.one (.c (.int .i64 x4)))))], []⟩) (ob := True ∧ True ∧ True ∧ (0 ≤ x4 ∧ x4 < (a0.length : Int)) ∧ True ∧ True ∧ True ∧ True ∧ True ∧ True) (by kernel_rfl) ⟨trivial, trivial, trivial, c6, trivial, trivial, trivial, trivial, trivial, trivial⟩ ?_
    refine thenQ_normal ?_
    refine AW.seq ?_
    refine AW.seq ?_
    refine AW.regionA [] [0, 4, 5, 23] [] (s' := ⟨[(0, (.v (.one (.c (sl 1 csS a0))))), (4, (.v (.one (.c (.int .i64 (IntKind.i64.wrap (x3 + (IntKind.i64.wrap (((a0.getD x4.toNat default).size : Int) + (3 : Int)))))))))), (5, (.v (.one (.c (.int .i64 x4))))), (23, (.v (.one (.c (.bool (decide ((IntKind.i64.wrap (x3 + (IntKind.i64.wrap (((a0.getD x4.toNat default).size : Int) + (3 : Int))))) > (8000 : Int))))))))], []⟩) (ob := True ∧ True ∧ True) (by kernel_rfl) ⟨trivial, trivial, trivial⟩ ?_
    refine thenQ_normal ?_
    rcases ite2_cases h with ⟨b7, h⟩ | ⟨b7, h⟩
    · refine AW.cond_t rfl b7 ?_
      refine AW.seq ?_
      refine AW.regionA [] [2, 3] [] (s' := ⟨[(2, (.v (.one (.c (.str ByteArray.empty))))), (3, (.v (.one (.c (.bool false)))))], []⟩) (ob := True ∧ True ∧ True) (by kernel_rfl) ⟨trivial, trivial, trivial⟩ ?_
      refine thenQ_normal ?_
      refine AW.ret ?_
      refine thenQ_ret ?_
      refine blockQ_ret ?_
      refine thenQ_ret ?_
      refine loopQ_ret ?_
      refine blockQ_ret ?_
      refine thenQ_ret ?_
      replace h := some_eq h
      subst h
      exact ⟨.inr rfl, retOK_of [(.one (.c (.str ByteArray.empty))), (.one (.c (.bool false)))] (by kernel_rfl) ⟨⟨rfl, trivial⟩, ⟨rfl, trivial⟩, trivial⟩ (of_decide_eq_true (by kernel_rfl))⟩
    · refine AW.cond_f rfl b7 ?_
      refine AW.skip ?_
      refine thenQ_normal ?_
      refine AW.seq ?_
      refine AW.regionA [] [0, 4, 5, 6] [] (s' := ⟨[(0, (.v (.one (.c (sl 1 csS a0))))), (4, (.v (.one (.c (.int .i64 (IntKind.i64.wrap (x3 + (IntKind.i64.wrap (((a0.getD x4.toNat default).size : Int) + (3 : Int)))))))))), (5, (.v (.one (.c (.int .i64 x4))))), (6, (.v (.one (.c (.int .i64 (0 : Int))))))], []⟩) (ob := True ∧ True) (by kernel_rfl) ⟨trivial, trivial⟩ ?_
      refine thenQ_normal ?_
      obtain ⟨j15, e14, h⟩ := bind_some h
      refine AW.joinM (cx := ?cx) ((fun z0 => sumQ z0 (fun j16 => OnlyE ?cx .normal ⟨[(0, (.v (.one (.c (sl 1 csS a0))))), (4, (.v (.one (.c (.int .i64 (IntKind.i64.wrap (x3 + (IntKind.i64.wrap (((a0.getD x4.toNat default).size : Int) + (3 : Int)))))))))), (5, (.v (.one (.c (.int .i64 x4)))))], []⟩) (fun j17 => OnlyE ?cx .ret ⟨[(2, (.v (.one (.c (.str ByteArray.empty))))), (3, (.v (.one (.c (.bool false)))))], []⟩)) j15) ?_ ?_
      · replace h := e14
        refine AW.block ?_
        refine AW.loopQ (σ := Nat × Int) (fun p => ⟨[(0, (.v (.one (.c (sl 1 csS a0))))), (4, (.v (.one (.c (.int .i64 (IntKind.i64.wrap (x3 + (IntKind.i64.wrap (((a0.getD x4.toNat default).size : Int) + (3 : Int)))))))))), (5, (.v (.one (.c (.int .i64 x4))))), (6, (.v (.one (.c (.int .i64 p.2)))))], []⟩) (fun p => spec_JournalOf_l4 K a0 x4 p.1 p.2 = some j15) (fun p => p.1) (K, (0 : Int)) h ?_
        clear h
        rintro ⟨k, x19⟩ h
        replace h : spec_JournalOf_l4 K a0 x4 k x19 = some j15 := h
        show AW _ _ (⟨[(0, (.v (.one (.c (sl 1 csS a0))))), (4, (.v (.one (.c (.int .i64 (IntKind.i64.wrap (x3 + (IntKind.i64.wrap (((a0.getD x4.toNat default).size : Int) + (3 : Int)))))))))), (5, (.v (.one (.c (.int .i64 x4))))), (6, (.v (.one (.c (.int .i64 x19)))))], []⟩ : St) _
        obtain _ | k := k
        · rw [spec_JournalOf_l4] at h; cases h
        rw [spec_JournalOf_l4] at h
        refine AW.seq ?_
        refine AW.seq ?_
        obtain ⟨c20, h⟩ := chk_some h
        refine AW.regionA [] [0, 4, 5, 6, 30] [] (s' := ⟨[(0, (.v (.one (.c (sl 1 csS a0))))), (4, (.v (.one (.c (.int .i64 (IntKind.i64.wrap (x3 + (IntKind.i64.wrap (((a0.getD x4.toNat default).size : Int) + (3 : Int)))))))))), (5, (.v (.one (.c (.int .i64 x4))))), (6, (.v (.one (.c (.int .i64 x19))))), (30, (.v (.one (.c (.bool (decide (x19 < ((a0.getD x4.toNat default).size : Int))))))))], []⟩) (ob := True ∧ True ∧ True ∧ (0 ≤ x4 ∧ x4 < (a0.length : Int)) ∧ True ∧ True ∧ True ∧ True) (by kernel_rfl) ⟨trivial, trivial, trivial, c20, trivial, trivial, trivial, trivial⟩ ?_
        refine thenQ_normal ?_
        rcases ite2_cases h with ⟨b21, h⟩ | ⟨b21, h⟩
        · refine AW.cond_t rfl b21 ?_
          refine AW.skip ?_
          refine thenQ_normal ?_
          refine AW.seq ?_
          refine AW.block ?_
          refine AW.seq ?_
          obtain ⟨c22, h⟩ := chk_some h
          refine AW.regionA [] [0, 4, 5, 6, 39] [] (s' := ⟨[(0, (.v (.one (.c (sl 1 csS a0))))), (4, (.v (.one (.c (.int .i64 (IntKind.i64.wrap (x3 + (IntKind.i64.wrap (((a0.getD x4.toNat default).size : Int) + (3 : Int)))))))))), (5, (.v (.one (.c (.int .i64 x4))))), (6, (.v (.one (.c (.int .i64 x19))))), (39, (.v (.one (.c (.bool ((bt (a0.getD x4.toNat default) x19.toNat) == (10 : Int)))))))], []⟩) (ob := True ∧ True ∧ (0 ≤ x4 ∧ x4 < (a0.length : Int)) ∧ True ∧ True ∧ (0 ≤ x19 ∧ x19 < ((a0.getD x4.toNat default).size : Int)) ∧ True ∧ True) (by kernel_rfl) ⟨trivial, trivial, c20, trivial, trivial, c22, trivial, trivial⟩ ?_
          refine thenQ_normal ?_
          rcases ite2_cases h with ⟨b23, h⟩ | ⟨b23, h⟩
          · refine AW.cond_t rfl b23 ?_
            refine AW.seq ?_
            refine AW.regionA [] [2, 3] [] (s' := ⟨[(2, (.v (.one (.c (.str ByteArray.empty))))), (3, (.v (.one (.c (.bool false)))))], []⟩) (ob := True ∧ True ∧ True) (by kernel_rfl) ⟨trivial, trivial, trivial⟩ ?_
            refine thenQ_normal ?_
            refine AW.ret ?_
            refine blockQ_ret ?_
            refine thenQ_ret ?_
            refine loopQ_ret ?_
            refine blockQ_ret ?_
            replace h := some_eq h
            subst h
            exact ⟨rfl, Sub.keep [2, 3] [] (by kernel_rfl) (by kernel_rfl)⟩
          · refine AW.cond_f rfl b23 ?_
            refine AW.skip ?_
            refine blockQ_normal ?_
            refine thenQ_normal ?_
            refine AW.regionA [] [0, 4, 5, 6] [] (s' := ⟨[(0, (.v (.one (.c (sl 1 csS a0))))), (4, (.v (.one (.c (.int .i64 (IntKind.i64.wrap (x3 + (IntKind.i64.wrap (((a0.getD x4.toNat default).size : Int) + (3 : Int)))))))))), (5, (.v (.one (.c (.int .i64 x4))))), (6, (.v (.one (.c (.int .i64 (IntKind.i64.wrap (x19 + (1 : Int))))))))], []⟩) (ob := True ∧ True ∧ True ∧ True) (by kernel_rfl) ⟨trivial, trivial, trivial, trivial⟩ ?_
            exact loopQ_normal (k, (IntKind.i64.wrap (x19 + (1 : Int)))) h (Nat.lt_succ_self k) (Sub.keep [0, 4, 5, 6] [] (by kernel_rfl) (by kernel_rfl))
        · refine AW.cond_f rfl b21 ?_
          refine AW.exit ?_
          refine thenQ_exit ?_
          refine loopQ_exit ?_
          refine blockQ_exit ?_
          replace h := some_eq h
          subst h
          exact ⟨rfl, Sub.keep [0, 4, 5] [] (by kernel_rfl) (by kernel_rfl)⟩
      clear e14
      intro ex1 st1 hq
      obtain j16 | j17 := j15
      · replace h := sumC_inl h
        obtain ⟨he, hs⟩ := hq
        subst he
        refine ⟨⟨[(0, (.v (.one (.c (sl 1 csS a0))))), (4, (.v (.one (.c (.int .i64 (IntKind.i64.wrap (x3 + (IntKind.i64.wrap (((a0.getD x4.toNat default).size : Int) + (3 : Int)))))))))), (5, (.v (.one (.c (.int .i64 x4)))))], []⟩, hs, ?_⟩
        clear hs st1
        refine blockQ_normal ?_
        refine thenQ_normal ?_
        refine AW.regionA [] [0, 4, 5] [] (s' := ⟨[(0, (.v (.one (.c (sl 1 csS a0))))), (4, (.v (.one (.c (.int .i64 (IntKind.i64.wrap (x3 + (IntKind.i64.wrap (((a0.getD x4.toNat default).size : Int) + (3 : Int)))))))))), (5, (.v (.one (.c (.int .i64 (IntKind.i64.wrap (x4 + (1 : Int))))))))], []⟩) (ob := True ∧ True ∧ True ∧ True) (by kernel_rfl) ⟨trivial, trivial, trivial, trivial⟩ ?_
        exact loopQ_normal (k, (IntKind.i64.wrap (x3 + (IntKind.i64.wrap (((a0.getD x4.toNat default).size : Int) + (3 : Int))))), (IntKind.i64.wrap (x4 + (1 : Int)))) h (Nat.lt_succ_self k) (Sub.keep [0, 4, 5] [] (by kernel_rfl) (by kernel_rfl))
      · replace h := sumC_inr h
        obtain ⟨he, hs⟩ := hq
        subst he
        refine ⟨⟨[(2, (.v (.one (.c (.str ByteArray.empty))))), (3, (.v (.one (.c (.bool false)))))], []⟩, hs, ?_⟩
        clear hs st1
        refine blockQ_ret ?_
        refine thenQ_ret ?_
        refine loopQ_ret ?_
        refine blockQ_ret ?_
        refine thenQ_ret ?_
        replace h := some_eq h
        subst h
        exact ⟨.inr rfl, retOK_of [(.one (.c (.str ByteArray.empty))), (.one (.c (.bool false)))] (by kernel_rfl) ⟨⟨rfl, trivial⟩, ⟨rfl, trivial⟩, trivial⟩ (of_decide_eq_true (by kernel_rfl))⟩
  · refine AW.cond_f rfl b5 ?_
    refine AW.exit ?_
    refine thenQ_exit ?_
    refine loopQ_exit ?_
    refine blockQ_exit ?_
    refine thenQ_normal ?_
    refine AW.seq ?_
    obtain ⟨v24, e25, h⟩ := bind_some h
    refine AW.regionA [.no, .call [.one (sl 1 csS a0)] [.one (.str v24)] [[.view]]] [7] [] (s' := ⟨[(7, (.v (.one (.c (.str v24)))))], []⟩) (ob := True ∧ (((((sl 1 csS a0) : C) = (sl 1 csS a0)) ∧ True) ∧ CallOK Tryd.prog 9 [.one (sl 1 csS a0)] [.one (.str v24)]) ∧ True ∧ True) (by kernel_rfl) ⟨trivial, ⟨⟨rfl, trivial⟩, ok_spec_l11Journal K a0 v24 e25⟩, trivial, trivial⟩ ?_
    refine thenQ_normal ?_
    refine AW.seq ?_
    refine AW.seq ?_
    refine AW.regionA [] [7, 44] [] (s' := ⟨[(7, (.v (.one (.c (.str v24))))), (44, (.v (.one (.c (.bool (decide ((v24.size : Int) > (8000 : Int))))))))], []⟩) (ob := True ∧ True ∧ True ∧ True) (by kernel_rfl) ⟨trivial, trivial, trivial, trivial⟩ ?_
    refine thenQ_normal ?_
    rcases ite2_cases h with ⟨b26, h⟩ | ⟨b26, h⟩
    · refine AW.cond_t rfl b26 ?_
      refine AW.seq ?_
      refine AW.regionA [] [2, 3] [] (s' := ⟨[(2, (.v (.one (.c (.str ByteArray.empty))))), (3, (.v (.one (.c (.bool false)))))], []⟩) (ob := True ∧ True ∧ True) (by kernel_rfl) ⟨trivial, trivial, trivial⟩ ?_
      refine thenQ_normal ?_
      refine AW.ret ?_
      refine thenQ_ret ?_
      replace h := some_eq h
      subst h
      exact ⟨.inr rfl, retOK_of [(.one (.c (.str ByteArray.empty))), (.one (.c (.bool false)))] (by kernel_rfl) ⟨⟨rfl, trivial⟩, ⟨rfl, trivial⟩, trivial⟩ (of_decide_eq_true (by kernel_rfl))⟩
    · refine AW.cond_f rfl b26 ?_
      refine AW.skip ?_
      refine thenQ_normal ?_
      refine AW.seq ?_
      refine AW.regionA [] [2, 3] [] (s' := ⟨[(2, (.v (.one (.c (.str v24))))), (3, (.v (.one (.c (.bool true)))))], []⟩) (ob := True ∧ True ∧ True ∧ True) (by kernel_rfl) ⟨trivial, trivial, trivial, trivial⟩ ?_
      refine thenQ_normal ?_
      refine AW.ret ?_
      replace h := some_eq h
      subst h
      exact ⟨.inr rfl, retOK_of [(.one (.c (.str v24))), (.one (.c (.bool true)))] (by kernel_rfl) ⟨⟨rfl, trivial⟩, ⟨rfl, trivial⟩, trivial⟩ (of_decide_eq_true (by kernel_rfl))⟩

/-! strings.Contains -/
def strings_Contains (_K : Nat) (a0 : ByteArray) (a1 : ByteArray) : Option (Bool) :=
  has1 a0 a1

theorem ok_strings_Contains (K : Nat) (a0 : ByteArray) (a1 : ByteArray) (o : Bool) (h : strings_Contains K a0 a1 = some o) : CallOK Tryd.prog 10 [.one (.str a0), .one (.str a1)] [.one (.bool o)] :=
  hand_contains Tryd.func10 (by kernel_rfl) (by kernel_rfl) Tryd.strings_Contains_one a0 a1 o h

/-! impl.check -/
def impl_check_l1 (K : Nat) (a1 : ByteArray) : Nat → Int → Int → Option (Int)
  | 0, _, _ => none
  | k + 1, x3, x4 => ite2 ((decide (x4 < (a1.size : Int)))) (chk (0 ≤ x4 ∧ x4 < (a1.size : Int)) (chk ((65003 : Int) ≠ 0) (impl_check_l1 K a1 k ((IntKind.i64.wrap ((IntKind.i64.wrap ((IntKind.i64.wrap ((613 : Int) * x3)) + (IntKind.i64.wrap (bt a1 x4.toNat)))) + (23 : Int))).tmod (65003 : Int)) (IntKind.i64.wrap (x4 + (1 : Int)))))) (some x3)

def impl_check (K : Nat) (a0 : Int) (a1 : ByteArray) : Option (Int) :=
  impl_check_l1 K a1 K a0 (0 : Int)

theorem ok_impl_check (K : Nat) (a0 : Int) (a1 : ByteArray) (o : (Int)) (h : impl_check K a0 a1 = some o) : CallOK Tryd.prog 11 [.one (.int .i64 a0), .one (.str a1)] [.one (.int .i64 o)] := by
  refine callOK_of_AW Tryd.func11 rfl (by kernel_rfl) (Nat.le_of_ble_eq_true (by kernel_rfl)) ?_
  intro w0
  unfold impl_check at h
  refine AW.seq ?_
  refine AW.regionA [] [0, 1] [] (s' := ⟨[(0, (.v (.one (.c (.int .i64 a0))))), (1, (.v (.one (.c (.str a1)))))], []⟩) (ob := True ∧ True) (by kernel_rfl) ⟨trivial, trivial⟩ ?_
  refine thenQ_normal ?_
  refine AW.seq ?_
  refine AW.seq ?_
  refine AW.regionA [] [0, 1, 7, 8] [] (s' := ⟨[(0, (.v (.one (.c (.int .i64 a0))))), (1, (.v (.one (.c (.str a1))))), (7, (.v (.one (.c (.int .i64 (a1.size : Int)))))), (8, (.v (.one (.c (.int .i64 (0 : Int))))))], []⟩) (ob := True ∧ True ∧ True ∧ True) (by kernel_rfl) ⟨trivial, trivial, trivial, trivial⟩ ?_
  refine thenQ_normal ?_
  refine AW.block ?_
  refine AW.loopQ (σ := Nat × Int × Int) (fun p => ⟨[(0, (.v (.one (.c (.int .i64 p.2.1))))), (1, (.v (.one (.c (.str a1))))), (7, (.v (.one (.c (.int .i64 (a1.size : Int)))))), (8, (.v (.one (.c (.int .i64 p.2.2)))))], []⟩) (fun p => impl_check_l1 K a1 p.1 p.2.1 p.2.2 = some o) (fun p => p.1) (K, a0, (0 : Int)) h ?_
  clear h
  rintro ⟨k, x3, x4⟩ h
  replace h : impl_check_l1 K a1 k x3 x4 = some o := h
  show AW _ _ (⟨[(0, (.v (.one (.c (.int .i64 x3))))), (1, (.v (.one (.c (.str a1))))), (7, (.v (.one (.c (.int .i64 (a1.size : Int)))))), (8, (.v (.one (.c (.int .i64 x4)))))], []⟩ : St) _
  obtain _ | k := k
  · rw [impl_check_l1] at h; cases h
  rw [impl_check_l1] at h
  refine AW.seq ?_
  refine AW.regionA [] [0, 1, 7, 8, 9] [] (s' := ⟨[(0, (.v (.one (.c (.int .i64 x3))))), (1, (.v (.one (.c (.str a1))))), (7, (.v (.one (.c (.int .i64 (a1.size : Int)))))), (8, (.v (.one (.c (.int .i64 x4))))), (9, (.v (.one (.c (.bool (decide (x4 < (a1.size : Int))))))))], []⟩) (ob := True ∧ True) (by kernel_rfl) ⟨trivial, trivial⟩ ?_
  refine thenQ_normal ?_
  refine AW.seq ?_
  rcases ite2_cases h with ⟨b5, h⟩ | ⟨b5, h⟩
  · refine AW.cond_t rfl b5 ?_
    refine AW.skip ?_
    refine thenQ_normal ?_
    refine AW.seq ?_
    refine AW.block ?_
    refine AW.seq ?_
    refine AW.regionA [] [0, 1, 5, 7, 8] [] (s' := ⟨[(0, (.v (.one (.c (.int .i64 x3))))), (1, (.v (.one (.c (.str a1))))), (5, (.v (.one (.c (.int .i64 x4))))), (7, (.v (.one (.c (.int .i64 (a1.size : Int)))))), (8, (.v (.one (.c (.int .i64 x4)))))], []⟩) (ob := True ∧ True ∧ True) (by kernel_rfl) ⟨trivial, trivial, trivial⟩ ?_
    refine thenQ_normal ?_
    obtain ⟨c6, h⟩ := chk_some h
    obtain ⟨c7, h⟩ := chk_some h
    refine AW.regionA [] [0, 1, 7, 8] [] (s' := ⟨[(0, (.v (.one (.c (.int .i64 ((IntKind.i64.wrap ((IntKind.i64.wrap ((IntKind.i64.wrap ((613 : Int) * x3)) + (IntKind.i64.wrap (bt a1 x4.toNat)))) + (23 : Int))).tmod (65003 : Int))))))), (1, (.v (.one (.c (.str a1))))), (7, (.v (.one (.c (.int .i64 (a1.size : Int)))))), (8, (.v (.one (.c (.int .i64 x4)))))], []⟩) (ob := True ∧ True ∧ True ∧ True ∧ (0 ≤ x4 ∧ x4 < (a1.size : Int)) ∧ True ∧ True ∧ True ∧ ((65003 : Int) ≠ 0) ∧ True ∧ True) (by kernel_rfl) ⟨trivial, trivial, trivial, trivial, c6, trivial, trivial, trivial, c7, trivial, trivial⟩ ?_
    refine blockQ_normal ?_
    refine thenQ_normal ?_
    refine AW.regionA [] [0, 1, 7, 8] [] (s' := ⟨[(0, (.v (.one (.c (.int .i64 ((IntKind.i64.wrap ((IntKind.i64.wrap ((IntKind.i64.wrap ((613 : Int) * x3)) + (IntKind.i64.wrap (bt a1 x4.toNat)))) + (23 : Int))).tmod (65003 : Int))))))), (1, (.v (.one (.c (.str a1))))), (7, (.v (.one (.c (.int .i64 (a1.size : Int)))))), (8, (.v (.one (.c (.int .i64 (IntKind.i64.wrap (x4 + (1 : Int))))))))], []⟩) (ob := True ∧ True ∧ True) (by kernel_rfl) ⟨trivial, trivial, trivial⟩ ?_
    exact loopQ_normal (k, ((IntKind.i64.wrap ((IntKind.i64.wrap ((IntKind.i64.wrap ((613 : Int) * x3)) + (IntKind.i64.wrap (bt a1 x4.toNat)))) + (23 : Int))).tmod (65003 : Int)), (IntKind.i64.wrap (x4 + (1 : Int)))) h (Nat.lt_succ_self k) (Sub.keep [0, 1, 7, 8] [] (by kernel_rfl) (by kernel_rfl))
  · refine AW.cond_f rfl b5 ?_
    refine AW.exit ?_
    refine thenQ_exit ?_
    refine loopQ_exit ?_
    refine blockQ_exit ?_
    refine thenQ_normal ?_
    refine AW.seq ?_
    refine AW.regionA [] [4] [] (s' := ⟨[(4, (.v (.one (.c (.int .i64 x3)))))], []⟩) (ob := True ∧ True ∧ True) (by kernel_rfl) ⟨trivial, trivial, trivial⟩ ?_
    refine thenQ_normal ?_
    refine AW.ret ?_
    replace h := some_eq h
    subst h
    exact ⟨.inr rfl, retOK_of [(.one (.c (.int .i64 x3)))] (by kernel_rfl) ⟨⟨rfl, trivial⟩, trivial⟩ (of_decide_eq_true (by kernel_rfl))⟩

/-! strconv.FormatInt -/
def strconv_FormatInt (_K : Nat) (a0 : Int) (a1 : Int) : Option (ByteArray) :=
  fmt10 a0 a1

theorem ok_strconv_FormatInt (K : Nat) (a0 : Int) (a1 : Int) (o : ByteArray) (h : strconv_FormatInt K a0 a1 = some o) : CallOK Tryd.prog 20 [.one (.int .i64 a0), .one (.int .i64 a1)] [.one (.str o)] :=
  hand_fmt10 Tryd.func20 (by kernel_rfl) (by kernel_rfl) (fun _ hg => tabIs_of_gd (g := 1) (by unfold gtabs; exact List.mem_cons_self) (by kernel_rfl) hg) Tryd.strconv_FormatInt_10 a0 a1 o h

/-! impl.Decimal -/
def impl_Decimal (K : Nat) (a0 : Int) : Option (ByteArray) :=
  (strconv_FormatInt K a0 (10 : Int)).bind fun v1 => some v1

theorem ok_impl_Decimal (K : Nat) (a0 : Int) (o : (ByteArray)) (h : impl_Decimal K a0 = some o) : CallOK Tryd.prog 13 [.one (.int .i64 a0)] [.one (.str o)] := by
  refine callOK_of_AW Tryd.func13 rfl (by kernel_rfl) (Nat.le_of_ble_eq_true (by kernel_rfl)) ?_
  intro w0
  unfold impl_Decimal at h
  refine AW.seq ?_
  refine AW.regionA [] [0] [] (s' := ⟨[(0, (.v (.one (.c (.int .i64 a0)))))], []⟩) (ob := True ∧ True) (by kernel_rfl) ⟨trivial, trivial⟩ ?_
  refine thenQ_normal ?_
  refine AW.seq ?_
  obtain ⟨v1, e2, h⟩ := bind_some h
  refine AW.regionA [.no, .call [.one (.int .i64 a0), .one (.int .i64 (10 : Int))] [.one (.str v1)] [[.view]]] [2] [] (s' := ⟨[(2, (.v (.one (.c (.str v1)))))], []⟩) (ob := True ∧ (((((.int .i64 a0) : C) = (.int .i64 a0)) ∧ (((.int .i64 (10 : Int)) : C) = (.int .i64 (10 : Int))) ∧ True) ∧ CallOK Tryd.prog 20 [.one (.int .i64 a0), .one (.int .i64 (10 : Int))] [.one (.str v1)]) ∧ True ∧ True) (by kernel_rfl) ⟨trivial, ⟨⟨rfl, rfl, trivial⟩, ok_strconv_FormatInt K a0 (10 : Int) v1 e2⟩, trivial, trivial⟩ ?_
  refine thenQ_normal ?_
  refine AW.ret ?_
  replace h := some_eq h
  subst h
  exact ⟨.inr rfl, retOK_of [(.one (.c (.str v1)))] (by kernel_rfl) ⟨⟨rfl, trivial⟩, trivial⟩ (of_decide_eq_true (by kernel_rfl))⟩

/-! impl.JournalOf -/
def impl_JournalOf_l1 (K : Nat) (a0 : (List ByteArray)) : Nat → Int → Int → ByteArray → Option (ByteArray × Bool)
  | 0, _, _, _ => none
  | k + 1, x4, x5, x6 => ite2 ((decide (x5 < (a0.length : Int)))) (chk (0 ≤ x5 ∧ x5 < (a0.length : Int)) ((strings_Contains K (a0.getD x5.toNat default) (ByteArray.mk #[10])).bind fun v9 => ite2 (v9) (some (ByteArray.empty, false)) ((impl_check K x4 (a0.getD x5.toNat default)).bind fun v12 => (impl_Decimal K v12).bind fun v14 => chk (((v14.size + (ByteArray.mk #[32]).size : Nat) : Int) ≤ 9223372036854775807) (chk ((((v14 ++ (ByteArray.mk #[32])).size + (a0.getD x5.toNat default).size : Nat) : Int) ≤ 9223372036854775807) (chk (((((v14 ++ (ByteArray.mk #[32])) ++ (a0.getD x5.toNat default)).size + (ByteArray.mk #[10]).size : Nat) : Int) ≤ 9223372036854775807) (chk (0 < (((v14 ++ (ByteArray.mk #[32])) ++ (a0.getD x5.toNat default)) ++ (ByteArray.mk #[10])).size ∧ x6.size + (((v14 ++ (ByteArray.mk #[32])) ++ (a0.getD x5.toNat default)) ++ (ByteArray.mk #[10])).size ≤ 140737488355328) (ite2 ((decide (((x6 ++ (((v14 ++ (ByteArray.mk #[32])) ++ (a0.getD x5.toNat default)) ++ (ByteArray.mk #[10]))).size : Int) > (8000 : Int)))) (some (ByteArray.empty, false)) (impl_JournalOf_l1 K a0 k v12 (IntKind.i64.wrap (x5 + (1 : Int))) (x6 ++ (((v14 ++ (ByteArray.mk #[32])) ++ (a0.getD x5.toNat default)) ++ (ByteArray.mk #[10]))))))))))) (some (x6, true))

def impl_JournalOf (K : Nat) (a0 : (List ByteArray)) : Option (ByteArray × Bool) :=
  impl_JournalOf_l1 K a0 K (0 : Int) (0 : Int) ByteArray.empty

theorem ok_impl_JournalOf (K : Nat) (a0 : (List ByteArray)) (o : (ByteArray × Bool)) (h : impl_JournalOf K a0 = some o) : CallOK Tryd.prog 7 [.one (sl 1 csS a0)] [.one (.str o.1), .one (.bool o.2)] := by
  refine callOK_of_AW Tryd.func7 rfl (by kernel_rfl) (Nat.le_of_ble_eq_true (by kernel_rfl)) ?_
  intro w0
  unfold impl_JournalOf at h
  refine AW.seq ?_
  refine AW.regionA [] [0] [] (s' := ⟨[(0, (.v (.one (.c (sl 1 csS a0)))))], []⟩) (ob := True ∧ True ∧ True) (by kernel_rfl) ⟨trivial, trivial, trivial⟩ ?_
  refine thenQ_normal ?_
  refine AW.seq ?_
  refine AW.allocExt (T := 33) (z := .agg #[.pointer none, .slice none 0 0]) (p := Bld 33 5 ByteArray.empty) (s' := ⟨[(0, (.v (.one (.c (sl 1 csS a0))))), (4, (.v (.one (.ptr 1 0))))], [(1, (.ext (Bld 33 5 ByteArray.empty)))]⟩) (ob := True ∧ True ∧ True) 1 [0, 4] [1] (by kernel_rfl) ⟨trivial, trivial, trivial⟩ rfl (by kernel_rfl) (fun _ _ h => bld_new h) ?_
  refine thenQ_normal ?_
  refine AW.seq ?_
  refine AW.regionA [] [0, 4, 5] [1] (s' := ⟨[(0, (.v (.one (.c (sl 1 csS a0))))), (4, (.v (.one (.ptr 1 0)))), (5, (.v (.one (.c (.int .i64 (0 : Int))))))], [(1, (.ext (Bld 33 5 ByteArray.empty)))]⟩) (ob := True ∧ True) (by kernel_rfl) ⟨trivial, trivial⟩ ?_
  refine thenQ_normal ?_
  refine AW.seq ?_
  refine AW.seq ?_
  refine AW.regionA [] [4, 5, 8, 9, 10] [1] (s' := ⟨[(4, (.v (.one (.ptr 1 0)))), (5, (.v (.one (.c (.int .i64 (0 : Int)))))), (8, (.v (.one (.c (sl 1 csS a0))))), (9, (.v (.one (.c (.int .i64 (a0.length : Int)))))), (10, (.v (.one (.c (.int .i64 (0 : Int))))))], [(1, (.ext (Bld 33 5 ByteArray.empty)))]⟩) (ob := True ∧ True ∧ True ∧ True) (by kernel_rfl) ⟨trivial, trivial, trivial, trivial⟩ ?_
  refine thenQ_normal ?_
  refine AW.block ?_
  refine AW.loopQ (σ := Nat × Int × Int × ByteArray) (fun p => ⟨[(4, (.v (.one (.ptr 1 0)))), (5, (.v (.one (.c (.int .i64 p.2.1))))), (8, (.v (.one (.c (sl 1 csS a0))))), (9, (.v (.one (.c (.int .i64 (a0.length : Int)))))), (10, (.v (.one (.c (.int .i64 p.2.2.1)))))], [(1, (.ext (Bld 33 5 p.2.2.2)))]⟩) (fun p => impl_JournalOf_l1 K a0 p.1 p.2.1 p.2.2.1 p.2.2.2 = some o) (fun p => p.1) (K, (0 : Int), (0 : Int), ByteArray.empty) h ?_
  clear h
  rintro ⟨k, x4, x5, x6⟩ h
  replace h : impl_JournalOf_l1 K a0 k x4 x5 x6 = some o := h
  show AW _ _ (⟨[(4, (.v (.one (.ptr 1 0)))), (5, (.v (.one (.c (.int .i64 x4))))), (8, (.v (.one (.c (sl 1 csS a0))))), (9, (.v (.one (.c (.int .i64 (a0.length : Int)))))), (10, (.v (.one (.c (.int .i64 x5)))))], [(1, (.ext (Bld 33 5 x6)))]⟩ : St) _
  obtain _ | k := k
  · rw [impl_JournalOf_l1] at h; cases h
  rw [impl_JournalOf_l1] at h
  refine AW.seq ?_
  refine AW.regionA [] [4, 5, 8, 9, 10, 11] [1] (s' := ⟨[(4, (.v (.one (.ptr 1 0)))), (5, (.v (.one (.c (.int .i64 x4))))), (8, (.v (.one (.c (sl 1 csS a0))))), (9, (.v (.one (.c (.int .i64 (a0.length : Int)))))), (10, (.v (.one (.c (.int .i64 x5))))), (11, (.v (.one (.c (.bool (decide (x5 < (a0.length : Int))))))))], [(1, (.ext (Bld 33 5 x6)))]⟩) (ob := True ∧ True) (by kernel_rfl) ⟨trivial, trivial⟩ ?_
  refine thenQ_normal ?_
  refine AW.seq ?_
  rcases ite2_cases h with ⟨b7, h⟩ | ⟨b7, h⟩
  · refine AW.cond_t rfl b7 ?_
    refine AW.skip ?_
    refine thenQ_normal ?_
    refine AW.seq ?_
    refine AW.block ?_
    refine AW.seq ?_
    obtain ⟨c8, h⟩ := chk_some h
    refine AW.regionA [] [4, 5, 7, 8, 9, 10] [1] (s' := ⟨[(4, (.v (.one (.ptr 1 0)))), (5, (.v (.one (.c (.int .i64 x4))))), (7, (.v (.one (.c (.str (a0.getD x5.toNat default)))))), (8, (.v (.one (.c (sl 1 csS a0))))), (9, (.v (.one (.c (.int .i64 (a0.length : Int)))))), (10, (.v (.one (.c (.int .i64 x5)))))], [(1, (.ext (Bld 33 5 x6)))]⟩) (ob := (0 ≤ x5 ∧ x5 < (a0.length : Int)) ∧ True ∧ True ∧ True) (by kernel_rfl) ⟨c8, trivial, trivial, trivial⟩ ?_
    refine thenQ_normal ?_
    refine AW.seq ?_
    refine AW.seq ?_
    obtain ⟨v9, e10, h⟩ := bind_some h
    refine AW.regionA [.no, .call [.one (.str (a0.getD x5.toNat default)), .one (.str (ByteArray.mk #[10]))] [.one (.bool v9)] [[.view]]] [4, 5, 7, 8, 9, 10, 15] [1] (s' := ⟨[(4, (.v (.one (.ptr 1 0)))), (5, (.v (.one (.c (.int .i64 x4))))), (7, (.v (.one (.c (.str (a0.getD x5.toNat default)))))), (8, (.v (.one (.c (sl 1 csS a0))))), (9, (.v (.one (.c (.int .i64 (a0.length : Int)))))), (10, (.v (.one (.c (.int .i64 x5))))), (15, (.v (.one (.c (.bool v9)))))], [(1, (.ext (Bld 33 5 x6)))]⟩) (ob := True ∧ (((((.str (a0.getD x5.toNat default)) : C) = (.str (a0.getD x5.toNat default))) ∧ (((.str (ByteArray.mk #[10])) : C) = (.str (ByteArray.mk #[10]))) ∧ True) ∧ CallOK Tryd.prog 10 [.one (.str (a0.getD x5.toNat default)), .one (.str (ByteArray.mk #[10]))] [.one (.bool v9)]) ∧ True) (by kernel_rfl) ⟨trivial, ⟨⟨rfl, rfl, trivial⟩, ok_strings_Contains K (a0.getD x5.toNat default) (ByteArray.mk #[10]) v9 e10⟩, trivial⟩ ?_
    refine thenQ_normal ?_
    rcases ite2_cases h with ⟨b11, h⟩ | ⟨b11, h⟩
    · refine AW.cond_t rfl b11 ?_
      refine AW.seq ?_
      refine AW.regionA [] [2, 3] [] (s' := ⟨[(2, (.v (.one (.c (.str ByteArray.empty))))), (3, (.v (.one (.c (.bool false)))))], []⟩) (ob := True ∧ True ∧ True) (by kernel_rfl) ⟨trivial, trivial, trivial⟩ ?_
      refine thenQ_normal ?_
      refine AW.ret ?_
      refine thenQ_ret ?_
      refine blockQ_ret ?_
      refine thenQ_ret ?_
      refine loopQ_ret ?_
      refine blockQ_ret ?_
      refine thenQ_ret ?_
      replace h := some_eq h
      subst h
      exact ⟨.inr rfl, retOK_of [(.one (.c (.str ByteArray.empty))), (.one (.c (.bool false)))] (by kernel_rfl) ⟨⟨rfl, trivial⟩, ⟨rfl, trivial⟩, trivial⟩ (of_decide_eq_true (by kernel_rfl))⟩
    · refine AW.cond_f rfl b11 ?_
      refine AW.skip ?_
      refine thenQ_normal ?_
      refine AW.seq ?_
      obtain ⟨v12, e13, h⟩ := bind_some h
      refine AW.regionA [.no, .no, .call [.one (.int .i64 x4), .one (.str (a0.getD x5.toNat default))] [.one (.int .i64 v12)] [[.view]]] [4, 5, 7, 8, 9, 10] [1] (s' := ⟨[(4, (.v (.one (.ptr 1 0)))), (5, (.v (.one (.c (.int .i64 v12))))), (7, (.v (.one (.c (.str (a0.getD x5.toNat default)))))), (8, (.v (.one (.c (sl 1 csS a0))))), (9, (.v (.one (.c (.int .i64 (a0.length : Int)))))), (10, (.v (.one (.c (.int .i64 x5)))))], [(1, (.ext (Bld 33 5 x6)))]⟩) (ob := True ∧ True ∧ (((((.int .i64 x4) : C) = (.int .i64 x4)) ∧ (((.str (a0.getD x5.toNat default)) : C) = (.str (a0.getD x5.toNat default))) ∧ True) ∧ CallOK Tryd.prog 11 [.one (.int .i64 x4), .one (.str (a0.getD x5.toNat default))] [.one (.int .i64 v12)]) ∧ True ∧ True) (by kernel_rfl) ⟨trivial, trivial, ⟨⟨rfl, rfl, trivial⟩, ok_impl_check K x4 (a0.getD x5.toNat default) v12 e13⟩, trivial, trivial⟩ ?_
      refine thenQ_normal ?_
      refine AW.seq ?_
      obtain ⟨v14, e15, h⟩ := bind_some h
      obtain ⟨c16, h⟩ := chk_some h
      obtain ⟨c17, h⟩ := chk_some h
      obtain ⟨c18, h⟩ := chk_some h
      obtain ⟨c19, h⟩ := chk_some h
      refine AW.regionA [.no, .call [.one (.int .i64 v12)] [.one (.str v14)] [[.view]], .no, .no, .no, .no, .callM [(.ext (Bld 33 5 x6) (Bld 33 5 (x6 ++ (((v14 ++ (ByteArray.mk #[32])) ++ (a0.getD x5.toNat default)) ++ (ByteArray.mk #[10]))))), (.one (.ro (.str (((v14 ++ (ByteArray.mk #[32])) ++ (a0.getD x5.toNat default)) ++ (ByteArray.mk #[10])))))] [.one (.int .i64 ((((v14 ++ (ByteArray.mk #[32])) ++ (a0.getD x5.toNat default)) ++ (ByteArray.mk #[10])).size : Int)), .one .niliface] [[.view], [.view]] none] [4, 5, 8, 9, 10] [1] (s' := ⟨[(4, (.v (.one (.ptr 1 0)))), (5, (.v (.one (.c (.int .i64 v12))))), (8, (.v (.one (.c (sl 1 csS a0))))), (9, (.v (.one (.c (.int .i64 (a0.length : Int)))))), (10, (.v (.one (.c (.int .i64 x5)))))], [(1, (.ext (Bld 33 5 (x6 ++ (((v14 ++ (ByteArray.mk #[32])) ++ (a0.getD x5.toNat default)) ++ (ByteArray.mk #[10]))))))]⟩) (ob := True ∧ (((((.int .i64 v12) : C) = (.int .i64 v12)) ∧ True) ∧ CallOK Tryd.prog 13 [.one (.int .i64 v12)] [.one (.str v14)]) ∧ (((v14.size + (ByteArray.mk #[32]).size : Nat) : Int) ≤ 9223372036854775807) ∧ True ∧ ((((v14 ++ (ByteArray.mk #[32])).size + (a0.getD x5.toNat default).size : Nat) : Int) ≤ 9223372036854775807) ∧ (((((v14 ++ (ByteArray.mk #[32])) ++ (a0.getD x5.toNat default)).size + (ByteArray.mk #[10]).size : Nat) : Int) ≤ 9223372036854775807) ∧ (((Bld 33 5 x6 = Bld 33 5 x6) ∧ ((.str (((v14 ++ (ByteArray.mk #[32])) ++ (a0.getD x5.toNat default)) ++ (ByteArray.mk #[10])) : C) = (.str (((v14 ++ (ByteArray.mk #[32])) ++ (a0.getD x5.toNat default)) ++ (ByteArray.mk #[10])))) ∧ True) ∧ MutOK Tryd.prog 12 [(.ext (Bld 33 5 x6) (Bld 33 5 (x6 ++ (((v14 ++ (ByteArray.mk #[32])) ++ (a0.getD x5.toNat default)) ++ (ByteArray.mk #[10]))))), (.one (.ro (.str (((v14 ++ (ByteArray.mk #[32])) ++ (a0.getD x5.toNat default)) ++ (ByteArray.mk #[10])))))] [.one (.int .i64 ((((v14 ++ (ByteArray.mk #[32])) ++ (a0.getD x5.toNat default)) ++ (ByteArray.mk #[10])).size : Int)), .one .niliface]) ∧ True) (by kernel_rfl) ⟨trivial, ⟨⟨rfl, trivial⟩, ok_impl_Decimal K v12 v14 e15⟩, c16, trivial, c17, c18, ⟨⟨rfl, rfl, trivial⟩, mut_write (ρ := Tryd.bld_ren) Tryd.lays166 Tryd.bldX x6 (((v14 ++ (ByteArray.mk #[32])) ++ (a0.getD x5.toNat default)) ++ (ByteArray.mk #[10])) c19.1 c19.2⟩, trivial⟩ ?_
      refine thenQ_normal ?_
      refine AW.seq ?_
      refine AW.regionA [.callM [(.ext (Bld 33 5 (x6 ++ (((v14 ++ (ByteArray.mk #[32])) ++ (a0.getD x5.toNat default)) ++ (ByteArray.mk #[10])))) (Bld 33 5 (x6 ++ (((v14 ++ (ByteArray.mk #[32])) ++ (a0.getD x5.toNat default)) ++ (ByteArray.mk #[10])))))] [.one (.int .i64 ((x6 ++ (((v14 ++ (ByteArray.mk #[32])) ++ (a0.getD x5.toNat default)) ++ (ByteArray.mk #[10]))).size : Int))] [[.view]] none] [4, 5, 8, 9, 10, 27] [1] (s' := ⟨[(4, (.v (.one (.ptr 1 0)))), (5, (.v (.one (.c (.int .i64 v12))))), (8, (.v (.one (.c (sl 1 csS a0))))), (9, (.v (.one (.c (.int .i64 (a0.length : Int)))))), (10, (.v (.one (.c (.int .i64 x5))))), (27, (.v (.one (.c (.bool (decide (((x6 ++ (((v14 ++ (ByteArray.mk #[32])) ++ (a0.getD x5.toNat default)) ++ (ByteArray.mk #[10]))).size : Int) > (8000 : Int))))))))], [(1, (.ext (Bld 33 5 (x6 ++ (((v14 ++ (ByteArray.mk #[32])) ++ (a0.getD x5.toNat default)) ++ (ByteArray.mk #[10]))))))]⟩) (ob := (((Bld 33 5 (x6 ++ (((v14 ++ (ByteArray.mk #[32])) ++ (a0.getD x5.toNat default)) ++ (ByteArray.mk #[10]))) = Bld 33 5 (x6 ++ (((v14 ++ (ByteArray.mk #[32])) ++ (a0.getD x5.toNat default)) ++ (ByteArray.mk #[10])))) ∧ True) ∧ MutOK Tryd.prog 14 [(.ext (Bld 33 5 (x6 ++ (((v14 ++ (ByteArray.mk #[32])) ++ (a0.getD x5.toNat default)) ++ (ByteArray.mk #[10])))) (Bld 33 5 (x6 ++ (((v14 ++ (ByteArray.mk #[32])) ++ (a0.getD x5.toNat default)) ++ (ByteArray.mk #[10])))))] [.one (.int .i64 ((x6 ++ (((v14 ++ (ByteArray.mk #[32])) ++ (a0.getD x5.toNat default)) ++ (ByteArray.mk #[10]))).size : Int))]) ∧ True ∧ True) (by kernel_rfl) ⟨⟨⟨rfl, trivial⟩, mut_len (ρ := Tryd.lays170_ren) Tryd.lays170 (x6 ++ (((v14 ++ (ByteArray.mk #[32])) ++ (a0.getD x5.toNat default)) ++ (ByteArray.mk #[10])))⟩, trivial, trivial⟩ ?_
      refine thenQ_normal ?_
      rcases ite2_cases h with ⟨b20, h⟩ | ⟨b20, h⟩
      · refine AW.cond_t rfl b20 ?_
        refine AW.seq ?_
        refine AW.regionA [] [2, 3] [] (s' := ⟨[(2, (.v (.one (.c (.str ByteArray.empty))))), (3, (.v (.one (.c (.bool false)))))], []⟩) (ob := True ∧ True ∧ True) (by kernel_rfl) ⟨trivial, trivial, trivial⟩ ?_
        refine thenQ_normal ?_
        refine AW.ret ?_
        refine blockQ_ret ?_
        refine thenQ_ret ?_
        refine loopQ_ret ?_
        refine blockQ_ret ?_
        refine thenQ_ret ?_
        replace h := some_eq h
        subst h
        exact ⟨.inr rfl, retOK_of [(.one (.c (.str ByteArray.empty))), (.one (.c (.bool false)))] (by kernel_rfl) ⟨⟨rfl, trivial⟩, ⟨rfl, trivial⟩, trivial⟩ (of_decide_eq_true (by kernel_rfl))⟩
      · refine AW.cond_f rfl b20 ?_
        refine AW.skip ?_
        refine blockQ_normal ?_
        refine thenQ_normal ?_
        refine AW.regionA [] [4, 5, 8, 9, 10] [1] (s' := ⟨[(4, (.v (.one (.ptr 1 0)))), (5, (.v (.one (.c (.int .i64 v12))))), (8, (.v (.one (.c (sl 1 csS a0))))), (9, (.v (.one (.c (.int .i64 (a0.length : Int)))))), (10, (.v (.one (.c (.int .i64 (IntKind.i64.wrap (x5 + (1 : Int))))))))], [(1, (.ext (Bld 33 5 (x6 ++ (((v14 ++ (ByteArray.mk #[32])) ++ (a0.getD x5.toNat default)) ++ (ByteArray.mk #[10]))))))]⟩) (ob := True ∧ True ∧ True) (by kernel_rfl) ⟨trivial, trivial, trivial⟩ ?_
        exact loopQ_normal (k, v12, (IntKind.i64.wrap (x5 + (1 : Int))), (x6 ++ (((v14 ++ (ByteArray.mk #[32])) ++ (a0.getD x5.toNat default)) ++ (ByteArray.mk #[10])))) h (Nat.lt_succ_self k) (Sub.keep [4, 5, 8, 9, 10] [1] (by kernel_rfl) (by kernel_rfl))
  · refine AW.cond_f rfl b7 ?_
    refine AW.exit ?_
    refine thenQ_exit ?_
    refine loopQ_exit ?_
    refine blockQ_exit ?_
    refine thenQ_normal ?_
    refine AW.seq ?_
    refine AW.regionA [.callM [(.ext (Bld 33 5 x6) (Bld 33 5 x6))] [.one (.str x6)] [[.view]] none] [2, 3] [] (s' := ⟨[(2, (.v (.one (.c (.str x6))))), (3, (.v (.one (.c (.bool true)))))], []⟩) (ob := (((Bld 33 5 x6 = Bld 33 5 x6) ∧ True) ∧ MutOK Tryd.prog 15 [(.ext (Bld 33 5 x6) (Bld 33 5 x6))] [.one (.str x6)]) ∧ True ∧ True ∧ True) (by kernel_rfl) ⟨⟨⟨rfl, trivial⟩, mut_string (ρ := Tryd.lays169_ren) Tryd.lays169 Tryd.Builder_Extra_169 x6⟩, trivial, trivial, trivial⟩ ?_
    refine thenQ_normal ?_
    refine AW.ret ?_
    replace h := some_eq h
    subst h
    exact ⟨.inr rfl, retOK_of [(.one (.c (.str x6))), (.one (.c (.bool true)))] (by kernel_rfl) ⟨⟨rfl, trivial⟩, ⟨rfl, trivial⟩, trivial⟩ (of_decide_eq_true (by kernel_rfl))⟩

/-! laws.eqStringS -/
def laws_eqStringS_l1 (K : Nat) (a0 : (List ByteArray)) (a1 : (List ByteArray)) : Nat → Int → Option (Bool)
  | 0, _ => none
  | k + 1, x3 => ite2 ((decide (x3 < (a0.length : Int)))) (chk (0 ≤ x3 ∧ x3 < (a0.length : Int)) (chk (0 ≤ x3 ∧ x3 < (a1.length : Int)) (ite2 ((!((a0.getD x3.toNat default).toList == (a1.getD x3.toNat default).toList))) (some false) (laws_eqStringS_l1 K a0 a1 k (IntKind.i64.wrap (x3 + (1 : Int))))))) (some true)

def laws_eqStringS (K : Nat) (a0 : (List ByteArray)) (a1 : (List ByteArray)) : Option (Bool) :=
  ite2 (((a0.length : Int) != (a1.length : Int))) (some false) (laws_eqStringS_l1 K a0 a1 K (0 : Int))

theorem ok_laws_eqStringS (K : Nat) (a0 : (List ByteArray)) (a1 : (List ByteArray)) (o : (Bool)) (h : laws_eqStringS K a0 a1 = some o) : CallOK Tryd.prog 8 [.one (sl 1 csS a0), .one (sl 1 csS a1)] [.one (.bool o)] := by
  refine callOK_of_AW Tryd.func8 rfl (by kernel_rfl) (Nat.le_of_ble_eq_true (by kernel_rfl)) ?_
  intro w0
  unfold laws_eqStringS at h
  refine AW.seq ?_
  refine AW.regionA [] [0, 1] [] (s' := ⟨[(0, (.v (.one (.c (sl 1 csS a0))))), (1, (.v (.one (.c (sl 1 csS a1)))))], []⟩) (ob := True ∧ True) (by kernel_rfl) ⟨trivial, trivial⟩ ?_
  refine thenQ_normal ?_
  refine AW.seq ?_
  refine AW.seq ?_
  refine AW.regionA [] [0, 1, 10] [] (s' := ⟨[(0, (.v (.one (.c (sl 1 csS a0))))), (1, (.v (.one (.c (sl 1 csS a1))))), (10, (.v (.one (.c (.bool ((a0.length : Int) != (a1.length : Int)))))))], []⟩) (ob := True ∧ True ∧ True ∧ True ∧ True ∧ True) (by kernel_rfl) ⟨trivial, trivial, trivial, trivial, trivial, trivial⟩ ?_
  refine thenQ_normal ?_
  rcases ite2_cases h with ⟨b1, h⟩ | ⟨b1, h⟩
  · refine AW.cond_t rfl b1 ?_
    refine AW.seq ?_
    refine AW.regionA [] [4] [] (s' := ⟨[(4, (.v (.one (.c (.bool false)))))], []⟩) (ob := True ∧ True) (by kernel_rfl) ⟨trivial, trivial⟩ ?_
    refine thenQ_normal ?_
    refine AW.ret ?_
    refine thenQ_ret ?_
    replace h := some_eq h
    subst h
    exact ⟨.inr rfl, retOK_of [(.one (.c (.bool false)))] (by kernel_rfl) ⟨⟨rfl, trivial⟩, trivial⟩ (of_decide_eq_true (by kernel_rfl))⟩
  · refine AW.cond_f rfl b1 ?_
    refine AW.skip ?_
    refine thenQ_normal ?_
    refine AW.seq ?_
    refine AW.seq ?_
    refine AW.regionA [] [0, 1, 5] [] (s' := ⟨[(0, (.v (.one (.c (sl 1 csS a0))))), (1, (.v (.one (.c (sl 1 csS a1))))), (5, (.v (.one (.c (.int .i64 (0 : Int))))))], []⟩) (ob := True ∧ True) (by kernel_rfl) ⟨trivial, trivial⟩ ?_
    refine thenQ_normal ?_
    refine AW.block ?_
    refine AW.loopQ (σ := Nat × Int) (fun p => ⟨[(0, (.v (.one (.c (sl 1 csS a0))))), (1, (.v (.one (.c (sl 1 csS a1))))), (5, (.v (.one (.c (.int .i64 p.2)))))], []⟩) (fun p => laws_eqStringS_l1 K a0 a1 p.1 p.2 = some o) (fun p => p.1) (K, (0 : Int)) h ?_
    clear h
    rintro ⟨k, x3⟩ h
    replace h : laws_eqStringS_l1 K a0 a1 k x3 = some o := h
    show AW _ _ (⟨[(0, (.v (.one (.c (sl 1 csS a0))))), (1, (.v (.one (.c (sl 1 csS a1))))), (5, (.v (.one (.c (.int .i64 x3)))))], []⟩ : St) _
    obtain _ | k := k
    · rw [laws_eqStringS_l1] at h; cases h
    rw [laws_eqStringS_l1] at h
    refine AW.seq ?_
    refine AW.seq ?_
    refine AW.regionA [] [0, 1, 5, 14] [] (s' := ⟨[(0, (.v (.one (.c (sl 1 csS a0))))), (1, (.v (.one (.c (sl 1 csS a1))))), (5, (.v (.one (.c (.int .i64 x3))))), (14, (.v (.one (.c (.bool (decide (x3 < (a0.length : Int))))))))], []⟩) (ob := True ∧ True ∧ True ∧ True ∧ True) (by kernel_rfl) ⟨trivial, trivial, trivial, trivial, trivial⟩ ?_
    refine thenQ_normal ?_
    rcases ite2_cases h with ⟨b4, h⟩ | ⟨b4, h⟩
    · refine AW.cond_t rfl b4 ?_
      refine AW.skip ?_
      refine thenQ_normal ?_
      refine AW.seq ?_
      refine AW.block ?_
      refine AW.seq ?_
      obtain ⟨c5, h⟩ := chk_some h
      obtain ⟨c6, h⟩ := chk_some h
      refine AW.drawnA (by kernel_rfl) 9 [] [0, 1, 5, 25] [] (s' := ⟨[(0, (.v (.one (.c (sl 1 csS a0))))), (1, (.v (.one (.c (sl 1 csS a1))))), (5, (.v (.one (.c (.int .i64 x3))))), (25, (.v (.one (.c (.bool (!((a0.getD x3.toNat default).toList == (a1.getD x3.toNat default).toList)))))))], []⟩) (ob := (True ∧ True ∧ (0 ≤ x3 ∧ x3 < (a0.length : Int)) ∧ True ∧ True ∧ True ∧ (0 ≤ x3 ∧ x3 < (a1.length : Int)) ∧ True ∧ True ∧ True) ∧ (True)) (by kernel_rfl) ⟨⟨trivial, trivial, c5, trivial, trivial, trivial, c6, trivial, trivial, trivial⟩, trivial⟩ ?_
      refine thenQ_normal ?_
      rcases ite2_cases h with ⟨b7, h⟩ | ⟨b7, h⟩
      · refine AW.cond_t rfl b7 ?_
        refine AW.seq ?_
        refine AW.regionA [] [4] [] (s' := ⟨[(4, (.v (.one (.c (.bool false)))))], []⟩) (ob := True ∧ True) (by kernel_rfl) ⟨trivial, trivial⟩ ?_
        refine thenQ_normal ?_
        refine AW.ret ?_
        refine blockQ_ret ?_
        refine thenQ_ret ?_
        refine loopQ_ret ?_
        refine blockQ_ret ?_
        refine thenQ_ret ?_
        replace h := some_eq h
        subst h
        exact ⟨.inr rfl, retOK_of [(.one (.c (.bool false)))] (by kernel_rfl) ⟨⟨rfl, trivial⟩, trivial⟩ (of_decide_eq_true (by kernel_rfl))⟩
      · refine AW.cond_f rfl b7 ?_
        refine AW.skip ?_
        refine blockQ_normal ?_
        refine thenQ_normal ?_
        refine AW.regionA [] [0, 1, 5] [] (s' := ⟨[(0, (.v (.one (.c (sl 1 csS a0))))), (1, (.v (.one (.c (sl 1 csS a1))))), (5, (.v (.one (.c (.int .i64 (IntKind.i64.wrap (x3 + (1 : Int))))))))], []⟩) (ob := True ∧ True ∧ True ∧ True) (by kernel_rfl) ⟨trivial, trivial, trivial, trivial⟩ ?_
        exact loopQ_normal (k, (IntKind.i64.wrap (x3 + (1 : Int)))) h (Nat.lt_succ_self k) (Sub.keep [0, 1, 5] [] (by kernel_rfl) (by kernel_rfl))
    · refine AW.cond_f rfl b4 ?_
      refine AW.exit ?_
      refine thenQ_exit ?_
      refine loopQ_exit ?_
      refine blockQ_exit ?_
      refine thenQ_normal ?_
      refine AW.seq ?_
      refine AW.regionA [] [4] [] (s' := ⟨[(4, (.v (.one (.c (.bool true)))))], []⟩) (ob := True ∧ True) (by kernel_rfl) ⟨trivial, trivial⟩ ?_
      refine thenQ_normal ?_
      refine AW.ret ?_
      replace h := some_eq h
      subst h
      exact ⟨.inr rfl, retOK_of [(.one (.c (.bool true)))] (by kernel_rfl) ⟨⟨rfl, trivial⟩, trivial⟩ (of_decide_eq_true (by kernel_rfl))⟩

/-! laws.FnExactJournalOf -/
def laws_FnExactJournalOf (K : Nat) (a0 : (List ByteArray)) : Option (Bool) :=
  (laws_szStringS K a0 (1048576 : Int)).bind fun v1 => ite2 ((decide (v1 < (0 : Int)))) (some true) ((laws_toStringS K a0).bind fun v4 => (spec_JournalOf K v4).bind fun v6 => (laws_toStringS K a0).bind fun v8 => (impl_JournalOf K v8).bind fun v10 => (ite2 ((!(v10.1.toList == v6.1.toList))) (some true) (some (!(v10.2 == v6.2)))).bind fun j13 => ite2 (j13) (some false) ((laws_toStringS K a0).bind fun v16 => (laws_eqStringS K v8 v16).bind fun v18 => ite2 ((!v18)) (some false) (some true)))

theorem ok_laws_FnExactJournalOf (K : Nat) (a0 : (List ByteArray)) (o : (Bool)) (h : laws_FnExactJournalOf K a0 = some o) : CallOK Tryd.prog 3 [.one (sl 1 csS a0)] [.one (.bool o)] := by
  refine callOK_of_AW Tryd.func3 rfl (by kernel_rfl) (Nat.le_of_ble_eq_true (by kernel_rfl)) ?_
  intro w0
  unfold laws_FnExactJournalOf at h
  refine AW.seq ?_
  refine AW.regionA [] [0] [] (s' := ⟨[(0, (.v (.one (.c (sl 1 csS a0)))))], []⟩) (ob := True ∧ True) (by kernel_rfl) ⟨trivial, trivial⟩ ?_
  refine thenQ_normal ?_
  refine AW.seq ?_
  refine AW.regionA [] [0, 3] [] (s' := ⟨[(0, (.v (.one (.c (sl 1 csS a0))))), (3, (.v (.one (.c (.int .i64 (1048576 : Int))))))], []⟩) (ob := True ∧ True) (by kernel_rfl) ⟨trivial, trivial⟩ ?_
  refine thenQ_normal ?_
  refine AW.seq ?_
  obtain ⟨v1, e2, h⟩ := bind_some h
  refine AW.regionA [.no, .no, .call [.one (sl 1 csS a0), .one (.int .i64 (1048576 : Int))] [.one (.int .i64 v1)] [[.view]]] [0, 3] [] (s' := ⟨[(0, (.v (.one (.c (sl 1 csS a0))))), (3, (.v (.one (.c (.int .i64 v1)))))], []⟩) (ob := True ∧ True ∧ (((((sl 1 csS a0) : C) = (sl 1 csS a0)) ∧ (((.int .i64 (1048576 : Int)) : C) = (.int .i64 (1048576 : Int))) ∧ True) ∧ CallOK Tryd.prog 4 [.one (sl 1 csS a0), .one (.int .i64 (1048576 : Int))] [.one (.int .i64 v1)]) ∧ True ∧ True) (by kernel_rfl) ⟨trivial, trivial, ⟨⟨rfl, rfl, trivial⟩, ok_laws_szStringS K a0 (1048576 : Int) v1 e2⟩, trivial, trivial⟩ ?_
  refine thenQ_normal ?_
  refine AW.seq ?_
  refine AW.seq ?_
  refine AW.regionA [] [0, 13] [] (s' := ⟨[(0, (.v (.one (.c (sl 1 csS a0))))), (13, (.v (.one (.c (.bool (decide (v1 < (0 : Int))))))))], []⟩) (ob := True ∧ True ∧ True) (by kernel_rfl) ⟨trivial, trivial, trivial⟩ ?_
  refine thenQ_normal ?_
  rcases ite2_cases h with ⟨b3, h⟩ | ⟨b3, h⟩
  · refine AW.cond_t rfl b3 ?_
    refine AW.seq ?_
    refine AW.regionA [] [2] [] (s' := ⟨[(2, (.v (.one (.c (.bool true)))))], []⟩) (ob := True ∧ True) (by kernel_rfl) ⟨trivial, trivial⟩ ?_
    refine thenQ_normal ?_
    refine AW.ret ?_
    refine thenQ_ret ?_
    replace h := some_eq h
    subst h
    exact ⟨.inr rfl, retOK_of [(.one (.c (.bool true)))] (by kernel_rfl) ⟨⟨rfl, trivial⟩, trivial⟩ (of_decide_eq_true (by kernel_rfl))⟩
  · refine AW.cond_f rfl b3 ?_
    refine AW.skip ?_
    refine thenQ_normal ?_
    refine AW.seq ?_
    obtain ⟨v4, e5, h⟩ := bind_some h
    obtain ⟨v6, e7, h⟩ := bind_some h
    refine AW.regionA [.no, .call [.one (sl 1 csS a0)] [.one (sl 1 csS v4)] [[.lst 1]], .call [.one (sl 1 csS v4)] [.one (.str v6.1), .one (.bool v6.2)] [[.view], [.view]]] [0, 4, 5] [] (s' := ⟨[(0, (.v (.one (.c (sl 1 csS a0))))), (4, (.v (.one (.c (.str v6.1))))), (5, (.v (.one (.c (.bool v6.2)))))], []⟩) (ob := True ∧ (((((sl 1 csS a0) : C) = (sl 1 csS a0)) ∧ True) ∧ CallOK Tryd.prog 6 [.one (sl 1 csS a0)] [.one (sl 1 csS v4)]) ∧ (((((sl 1 csS v4) : C) = (sl 1 csS v4)) ∧ True) ∧ CallOK Tryd.prog 5 [.one (sl 1 csS v4)] [.one (.str v6.1), .one (.bool v6.2)]) ∧ True ∧ True ∧ True ∧ True ∧ True ∧ True) (by kernel_rfl) ⟨trivial, ⟨⟨rfl, trivial⟩, ok_laws_toStringS K a0 v4 e5⟩, ⟨⟨rfl, trivial⟩, ok_spec_JournalOf K v4 v6 e7⟩, trivial, trivial, trivial, trivial, trivial, trivial⟩ ?_
    refine thenQ_normal ?_
    refine AW.seq ?_
    obtain ⟨v8, e9, h⟩ := bind_some h
    refine AW.regionA [.no, .call [.one (sl 1 csS a0)] [.one (sl 1 csS v8)] [[.lst 2]]] [0, 4, 5, 6] [2] (s' := ⟨[(0, (.v (.one (.c (sl 1 csS a0))))), (4, (.v (.one (.c (.str v6.1))))), (5, (.v (.one (.c (.bool v6.2))))), (6, (.v (.one (.lst 2 v8.length 1 (gl csS v8)))))], [(2, (.lst v8.length 1 (gl csS v8)))]⟩) (ob := True ∧ (((((sl 1 csS a0) : C) = (sl 1 csS a0)) ∧ True) ∧ CallOK Tryd.prog 6 [.one (sl 1 csS a0)] [.one (sl 1 csS v8)]) ∧ True ∧ True) (by kernel_rfl) ⟨trivial, ⟨⟨rfl, trivial⟩, ok_laws_toStringS K a0 v8 e9⟩, trivial, trivial⟩ ?_
    refine thenQ_normal ?_
    refine AW.seq ?_
    obtain ⟨v10, e11, h⟩ := bind_some h
    refine AW.regionA [.no, .call [.one (sl 1 csS v8)] [.one (.str v10.1), .one (.bool v10.2)] [[.view], [.view]]] [0, 4, 5, 6, 7, 8] [2] (s' := ⟨[(0, (.v (.one (.c (sl 1 csS a0))))), (4, (.v (.one (.c (.str v6.1))))), (5, (.v (.one (.c (.bool v6.2))))), (6, (.v (.one (.lst 2 v8.length 1 (gl csS v8))))), (7, (.v (.one (.c (.str v10.1))))), (8, (.v (.one (.c (.bool v10.2)))))], [(2, (.lst v8.length 1 (gl csS v8)))]⟩) (ob := True ∧ (((((sl 1 csS v8) : C) = (sl 1 csS v8)) ∧ True) ∧ CallOK Tryd.prog 7 [.one (sl 1 csS v8)] [.one (.str v10.1), .one (.bool v10.2)]) ∧ True ∧ True ∧ True ∧ True ∧ True ∧ True) (by kernel_rfl) ⟨trivial, ⟨⟨rfl, trivial⟩, ok_impl_JournalOf K v8 v10 e11⟩, trivial, trivial, trivial, trivial, trivial, trivial⟩ ?_
    refine thenQ_normal ?_
    refine AW.seq ?_
    refine AW.seq ?_
    obtain ⟨j13, e14, h⟩ := bind_some h
    refine AW.join1 (s2 := ⟨[(0, (.v (.one (.c (sl 1 csS a0))))), (6, (.v (.one (.lst 2 v8.length 1 (gl csS v8))))), (34, (.v (.one (.c (.bool j13)))))], [(2, (.lst v8.length 1 (gl csS v8)))]⟩) ?_ ?_
    · rcases ite2_cases e14 with ⟨b12, e14⟩ | ⟨b12, e14⟩
      · replace e14 := some_eq e14
        subst e14
        exact AW.regionA [.no, .no, .no, .dec true] [0, 6, 34] [2] (s' := ⟨[(0, (.v (.one (.c (sl 1 csS a0))))), (6, (.v (.one (.lst 2 v8.length 1 (gl csS v8))))), (34, (.v (.one (.c (.bool true)))))], [(2, (.lst v8.length 1 (gl csS v8)))]⟩) (ob := True ∧ True ∧ True ∧ (True ∧ (!(v10.1.toList == v6.1.toList)) = true) ∧ True ∧ True ∧ True ∧ True ∧ True) (by kernel_rfl) ⟨trivial, trivial, trivial, ⟨trivial, b12⟩, trivial, trivial, trivial, trivial, trivial⟩ ⟨rfl, rfl⟩
      · replace e14 := some_eq e14
        subst e14
        exact AW.regionA [.no, .no, .no, .dec false] [0, 6, 34] [2] (s' := ⟨[(0, (.v (.one (.c (sl 1 csS a0))))), (6, (.v (.one (.lst 2 v8.length 1 (gl csS v8))))), (34, (.v (.one (.c (.bool (!(v10.2 == v6.2)))))))], [(2, (.lst v8.length 1 (gl csS v8)))]⟩) (ob := True ∧ True ∧ True ∧ (True ∧ (!(v10.1.toList == v6.1.toList)) = false) ∧ True ∧ True ∧ True ∧ True ∧ True) (by kernel_rfl) ⟨trivial, trivial, trivial, ⟨trivial, b12⟩, trivial, trivial, trivial, trivial, trivial⟩ ⟨rfl, rfl⟩
    refine thenQ_normal ?_
    rcases ite2_cases h with ⟨b15, h⟩ | ⟨b15, h⟩
    · refine AW.cond_t rfl b15 ?_
      refine AW.seq ?_
      refine AW.regionA [] [2] [] (s' := ⟨[(2, (.v (.one (.c (.bool false)))))], []⟩) (ob := True ∧ True) (by kernel_rfl) ⟨trivial, trivial⟩ ?_
      refine thenQ_normal ?_
      refine AW.ret ?_
      refine thenQ_ret ?_
      replace h := some_eq h
      subst h
      exact ⟨.inr rfl, retOK_of [(.one (.c (.bool false)))] (by kernel_rfl) ⟨⟨rfl, trivial⟩, trivial⟩ (of_decide_eq_true (by kernel_rfl))⟩
    · refine AW.cond_f rfl b15 ?_
      refine AW.skip ?_
      refine thenQ_normal ?_
      refine AW.seq ?_
      refine AW.seq ?_
      obtain ⟨v16, e17, h⟩ := bind_some h
      obtain ⟨v18, e19, h⟩ := bind_some h
      refine AW.regionA [.no, .no, .call [.one (sl 1 csS a0)] [.one (sl 1 csS v16)] [[.lst 3]], .call [.one (sl 1 csS v8), .one (sl 1 csS v16)] [.one (.bool v18)] [[.view]]] [39] [] (s' := ⟨[(39, (.v (.one (.c (.bool (!v18))))))], []⟩) (ob := True ∧ True ∧ (((((sl 1 csS a0) : C) = (sl 1 csS a0)) ∧ True) ∧ CallOK Tryd.prog 6 [.one (sl 1 csS a0)] [.one (sl 1 csS v16)]) ∧ (((((sl 1 csS v8) : C) = (sl 1 csS v8)) ∧ (((sl 1 csS v16) : C) = (sl 1 csS v16)) ∧ True) ∧ CallOK Tryd.prog 8 [.one (sl 1 csS v8), .one (sl 1 csS v16)] [.one (.bool v18)]) ∧ True ∧ True) (by kernel_rfl) ⟨trivial, trivial, ⟨⟨rfl, trivial⟩, ok_laws_toStringS K a0 v16 e17⟩, ⟨⟨rfl, rfl, trivial⟩, ok_laws_eqStringS K v8 v16 v18 e19⟩, trivial, trivial⟩ ?_
      refine thenQ_normal ?_
      rcases ite2_cases h with ⟨b20, h⟩ | ⟨b20, h⟩
      · refine AW.cond_t rfl b20 ?_
        refine AW.seq ?_
        refine AW.regionA [] [2] [] (s' := ⟨[(2, (.v (.one (.c (.bool false)))))], []⟩) (ob := True ∧ True) (by kernel_rfl) ⟨trivial, trivial⟩ ?_
        refine thenQ_normal ?_
        refine AW.ret ?_
        refine thenQ_ret ?_
        replace h := some_eq h
        subst h
        exact ⟨.inr rfl, retOK_of [(.one (.c (.bool false)))] (by kernel_rfl) ⟨⟨rfl, trivial⟩, trivial⟩ (of_decide_eq_true (by kernel_rfl))⟩
      · refine AW.cond_f rfl b20 ?_
        refine AW.skip ?_
        refine thenQ_normal ?_
        refine AW.seq ?_
        refine AW.regionA [] [2] [] (s' := ⟨[(2, (.v (.one (.c (.bool true)))))], []⟩) (ob := True ∧ True) (by kernel_rfl) ⟨trivial, trivial⟩ ?_
        refine thenQ_normal ?_
        refine AW.ret ?_
        replace h := some_eq h
        subst h
        exact ⟨.inr rfl, retOK_of [(.one (.c (.bool true)))] (by kernel_rfl) ⟨⟨rfl, trivial⟩, trivial⟩ (of_decide_eq_true (by kernel_rfl))⟩

end
end Go.Fw
