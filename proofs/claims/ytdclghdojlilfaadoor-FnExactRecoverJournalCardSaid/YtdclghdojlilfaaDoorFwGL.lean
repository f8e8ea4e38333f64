/- Functions of the program: what each computes, and that it computes just that. -/
import Derived.Test.YtdclghdojlilfaaDoorFwTy
import Derived.Test.YtdclghdojlilfaaDoorFwH
import Derived.Test.YtdclghdojlilfaaDoorFwV
import Derived.Test.YtdclghdojlilfaaDoorFwLB
import Derived.Test.YtdclghdojlilfaaDoorFwSh
import Derived.Test.YtdclghdojlilfaaDoorFwCU
import Derived.Test.YtdclghdojlilfaaDoorProg
import Derived.KernelRfl
namespace Go.Fw
open Go Go.Proofs
noncomputable section
set_option maxRecDepth 10000

/-! spec.l01Cut -/
def spec_l01Cut_l1 (K : Nat) (a0 : ByteArray) (a1 : Int) : Nat → Int → Int → (List ByteArray) → Option ((List ByteArray))
  | 0, _, _, _ => none
  | k + 1, x4, x5, x6 => ite2 ((decide (x5 ≤ (a0.size : Int)))) ((ite2 ((x5 == (a0.size : Int))) (some true) (chk (0 ≤ x5 ∧ x5 < (a0.size : Int)) (some ((bt a0 x5.toNat) == a1)))).bind fun j10 => ite2 (j10) (chk (0 ≤ x4 ∧ x4 ≤ x5 ∧ x5 ≤ (a0.size : Int)) (chk ((x6.length + ([(a0.extract x4.toNat x5.toNat)]).length) * 16 ≤ 140737488355328) (spec_l01Cut_l1 K a0 a1 k (IntKind.i64.wrap (x5 + (1 : Int))) (IntKind.i64.wrap (x5 + (1 : Int))) (x6 ++ ([(a0.extract x4.toNat x5.toNat)]))))) (spec_l01Cut_l1 K a0 a1 k x4 (IntKind.i64.wrap (x5 + (1 : Int))) x6)) (some x6)

def spec_l01Cut (K : Nat) (a0 : ByteArray) (a1 : Int) : Option ((List ByteArray)) :=
  spec_l01Cut_l1 K a0 a1 K (0 : Int) (0 : Int) ([] : List ByteArray)

theorem ok_spec_l01Cut (K : Nat) (a0 : ByteArray) (a1 : Int) (o : ((List ByteArray))) (h : spec_l01Cut K a0 a1 = some o) : CallOK Tryd.prog 16 [.one (.str a0), .one (.int .u8 a1)] [.one (sl 1 csS o)] := by
  refine callOK_of_AW Tryd.func16 rfl (by kernel_rfl) (Nat.le_of_ble_eq_true (by kernel_rfl)) ?_
  intro w0
  unfold spec_l01Cut at h
  refine AW.seq ?_
  refine AW.regionA [] [0, 1] [] (s' := ⟨[(0, (.v (.one (.c (.str a0))))), (1, (.v (.one (.c (.int .u8 a1)))))], []⟩) (ob := True ∧ True) (by kernel_rfl) ⟨trivial, trivial⟩ ?_
  refine thenQ_normal ?_
  refine AW.seq ?_
  refine AW.regionA [.obj 1 ([] : List ByteArray).length (gl csS ([] : List ByteArray))] [0, 1, 5] [1] (s' := ⟨[(0, (.v (.one (.c (.str a0))))), (1, (.v (.one (.c (.int .u8 a1))))), (5, (.v (.one (.lst 1 ([] : List ByteArray).length 1 (gl csS ([] : List ByteArray))))))], [(1, (.lst ([] : List ByteArray).length 1 (gl csS ([] : List ByteArray))))]⟩) (ob := (([] : List ByteArray).length = 0 ∧ True) ∧ True ∧ True) (by kernel_rfl) ⟨⟨rfl, trivial⟩, trivial, trivial⟩ ?_
  refine thenQ_normal ?_
  refine AW.seq ?_
  refine AW.regionA [] [0, 1, 5, 6] [1] (s' := ⟨[(0, (.v (.one (.c (.str a0))))), (1, (.v (.one (.c (.int .u8 a1))))), (5, (.v (.one (.lst 1 ([] : List ByteArray).length 1 (gl csS ([] : List ByteArray)))))), (6, (.v (.one (.c (.int .i64 (0 : Int))))))], [(1, (.lst ([] : List ByteArray).length 1 (gl csS ([] : List ByteArray))))]⟩) (ob := True ∧ True) (by kernel_rfl) ⟨trivial, trivial⟩ ?_
  refine thenQ_normal ?_
  refine AW.seq ?_
  refine AW.seq ?_
  refine AW.regionA [] [0, 1, 5, 6, 7] [1] (s' := ⟨[(0, (.v (.one (.c (.str a0))))), (1, (.v (.one (.c (.int .u8 a1))))), (5, (.v (.one (.lst 1 ([] : List ByteArray).length 1 (gl csS ([] : List ByteArray)))))), (6, (.v (.one (.c (.int .i64 (0 : Int)))))), (7, (.v (.one (.c (.int .i64 (0 : Int))))))], [(1, (.lst ([] : List ByteArray).length 1 (gl csS ([] : List ByteArray))))]⟩) (ob := True ∧ True) (by kernel_rfl) ⟨trivial, trivial⟩ ?_
  refine thenQ_normal ?_
  refine AW.block ?_
  refine AW.loopQ (σ := Nat × Int × Int × (List ByteArray)) (fun p => ⟨[(0, (.v (.one (.c (.str a0))))), (1, (.v (.one (.c (.int .u8 a1))))), (5, (.v (.one (.lst 1 p.2.2.2.length 1 (gl csS p.2.2.2))))), (6, (.v (.one (.c (.int .i64 p.2.1))))), (7, (.v (.one (.c (.int .i64 p.2.2.1)))))], [(1, (.lst p.2.2.2.length 1 (gl csS p.2.2.2)))]⟩) (fun p => spec_l01Cut_l1 K a0 a1 p.1 p.2.1 p.2.2.1 p.2.2.2 = some o) (fun p => p.1) (K, (0 : Int), (0 : Int), ([] : List ByteArray)) h ?_
  clear h
  rintro ⟨k, x4, x5, x6⟩ h
  replace h : spec_l01Cut_l1 K a0 a1 k x4 x5 x6 = some o := h
  show AW _ _ (⟨[(0, (.v (.one (.c (.str a0))))), (1, (.v (.one (.c (.int .u8 a1))))), (5, (.v (.one (.lst 1 x6.length 1 (gl csS x6))))), (6, (.v (.one (.c (.int .i64 x4))))), (7, (.v (.one (.c (.int .i64 x5)))))], [(1, (.lst x6.length 1 (gl csS x6)))]⟩ : St) _
  obtain _ | k := k
  · rw [spec_l01Cut_l1] at h; cases h
  rw [spec_l01Cut_l1] at h
  refine AW.seq ?_
  refine AW.seq ?_
  refine AW.regionA [] [0, 1, 5, 6, 7, 12] [1] (s' := ⟨[(0, (.v (.one (.c (.str a0))))), (1, (.v (.one (.c (.int .u8 a1))))), (5, (.v (.one (.lst 1 x6.length 1 (gl csS x6))))), (6, (.v (.one (.c (.int .i64 x4))))), (7, (.v (.one (.c (.int .i64 x5))))), (12, (.v (.one (.c (.bool (decide (x5 ≤ (a0.size : Int))))))))], [(1, (.lst x6.length 1 (gl csS x6)))]⟩) (ob := True ∧ True ∧ True ∧ True ∧ True) (by kernel_rfl) ⟨trivial, trivial, trivial, trivial, trivial⟩ ?_
  refine thenQ_normal ?_
  rcases ite2_cases h with ⟨b7, h⟩ | ⟨b7, h⟩
  · refine AW.cond_t rfl b7 ?_
    refine AW.skip ?_
    refine thenQ_normal ?_
    refine AW.seq ?_
    refine AW.block ?_
    refine AW.seq ?_
    obtain ⟨j10, e11, h⟩ := bind_some h
    refine AW.join1 (s2 := ⟨[(0, (.v (.one (.c (.str a0))))), (1, (.v (.one (.c (.int .u8 a1))))), (5, (.v (.one (.lst 1 x6.length 1 (gl csS x6))))), (6, (.v (.one (.c (.int .i64 x4))))), (7, (.v (.one (.c (.int .i64 x5))))), (25, (.v (.one (.c (.bool j10)))))], [(1, (.lst x6.length 1 (gl csS x6)))]⟩) ?_ ?_
    · rcases ite2_cases e11 with ⟨b8, e11⟩ | ⟨b8, e11⟩
      · replace e11 := some_eq e11
        subst e11
        exact AW.regionA [.no, .no, .no, .no, .dec true] [0, 1, 5, 6, 7, 25] [1] (s' := ⟨[(0, (.v (.one (.c (.str a0))))), (1, (.v (.one (.c (.int .u8 a1))))), (5, (.v (.one (.lst 1 x6.length 1 (gl csS x6))))), (6, (.v (.one (.c (.int .i64 x4))))), (7, (.v (.one (.c (.int .i64 x5))))), (25, (.v (.one (.c (.bool true)))))], [(1, (.lst x6.length 1 (gl csS x6)))]⟩) (ob := True ∧ True ∧ True ∧ True ∧ (True ∧ (x5 == (a0.size : Int)) = true) ∧ True ∧ True ∧ True ∧ True ∧ True ∧ True ∧ True) (by kernel_rfl) ⟨trivial, trivial, trivial, trivial, ⟨trivial, b8⟩, trivial, trivial, trivial, trivial, trivial, trivial, trivial⟩ ⟨rfl, rfl⟩
      · obtain ⟨c9, e11⟩ := chk_some e11
        replace e11 := some_eq e11
        subst e11
        exact AW.regionA [.no, .no, .no, .no, .dec false] [0, 1, 5, 6, 7, 25] [1] (s' := ⟨[(0, (.v (.one (.c (.str a0))))), (1, (.v (.one (.c (.int .u8 a1))))), (5, (.v (.one (.lst 1 x6.length 1 (gl csS x6))))), (6, (.v (.one (.c (.int .i64 x4))))), (7, (.v (.one (.c (.int .i64 x5))))), (25, (.v (.one (.c (.bool ((bt a0 x5.toNat) == a1))))))], [(1, (.lst x6.length 1 (gl csS x6)))]⟩) (ob := True ∧ True ∧ True ∧ True ∧ (True ∧ (x5 == (a0.size : Int)) = false) ∧ True ∧ True ∧ (0 ≤ x5 ∧ x5 < (a0.size : Int)) ∧ True ∧ True ∧ True ∧ True) (by kernel_rfl) ⟨trivial, trivial, trivial, trivial, ⟨trivial, b8⟩, trivial, trivial, c9, trivial, trivial, trivial, trivial⟩ ⟨rfl, rfl⟩
    refine thenQ_normal ?_
    rcases ite2_cases h with ⟨b12, h⟩ | ⟨b12, h⟩
    · refine AW.cond_t rfl b12 ?_
      refine AW.seq ?_
      obtain ⟨c13, h⟩ := chk_some h
      obtain ⟨c14, h⟩ := chk_some h
      refine AW.regionA [.no, .no, .no, .no, .no, .obj 6 ([(a0.extract x4.toNat x5.toNat)]).length (gl csS ([(a0.extract x4.toNat x5.toNat)])), .objK 7 (x6 ++ ([(a0.extract x4.toNat x5.toNat)])).length (gl csS (x6 ++ ([(a0.extract x4.toNat x5.toNat)])))] [0, 1, 5, 7] [7] (s' := ⟨[(0, (.v (.one (.c (.str a0))))), (1, (.v (.one (.c (.int .u8 a1))))), (5, (.v (.one (.lst 7 (x6 ++ ([(a0.extract x4.toNat x5.toNat)])).length 1 (gl csS (x6 ++ ([(a0.extract x4.toNat x5.toNat)]))))))), (7, (.v (.one (.c (.int .i64 x5)))))], [(7, (.lst (x6 ++ ([(a0.extract x4.toNat x5.toNat)])).length 1 (gl csS (x6 ++ ([(a0.extract x4.toNat x5.toNat)])))))]⟩) (ob := True ∧ True ∧ True ∧ True ∧ (0 ≤ x4 ∧ x4 ≤ x5 ∧ x5 ≤ (a0.size : Int)) ∧ (([(a0.extract x4.toNat x5.toNat)]).length = 1 ∧ (((.str (a0.extract x4.toNat x5.toNat)) : C) = (.str (a0.extract x4.toNat x5.toNat)) ∧ True) ∧ True) ∧ ((x6 ++ ([(a0.extract x4.toNat x5.toNat)])).length = x6.length + ([(a0.extract x4.toNat x5.toNat)]).length ∧ AppOb (x6.length) (([(a0.extract x4.toNat x5.toNat)]).length) 1 (gl csS x6) (gl csS ([(a0.extract x4.toNat x5.toNat)])) (gl csS (x6 ++ ([(a0.extract x4.toNat x5.toNat)]))) ∧ (∀ i j, i < ([(a0.extract x4.toNat x5.toNat)]).length → j < 1 → scalarC (gl csS ([(a0.extract x4.toNat x5.toNat)]) i j)) ∧ (x6.length + ([(a0.extract x4.toNat x5.toNat)]).length) * 16 ≤ 140737488355328) ∧ True ∧ True) (by kernel_rfl) ⟨trivial, trivial, trivial, trivial, c13, ⟨rfl, ⟨⟨rfl, trivial⟩, trivial⟩⟩, ⟨List.length_append, gl_append, gl_scalar scS _, c14⟩, trivial, trivial⟩ ?_
      refine thenQ_normal ?_
      refine AW.regionA [] [0, 1, 5, 6, 7] [7] (s' := ⟨[(0, (.v (.one (.c (.str a0))))), (1, (.v (.one (.c (.int .u8 a1))))), (5, (.v (.one (.lst 7 (x6 ++ ([(a0.extract x4.toNat x5.toNat)])).length 1 (gl csS (x6 ++ ([(a0.extract x4.toNat x5.toNat)]))))))), (6, (.v (.one (.c (.int .i64 (IntKind.i64.wrap (x5 + (1 : Int)))))))), (7, (.v (.one (.c (.int .i64 x5)))))], [(7, (.lst (x6 ++ ([(a0.extract x4.toNat x5.toNat)])).length 1 (gl csS (x6 ++ ([(a0.extract x4.toNat x5.toNat)])))))]⟩) (ob := True ∧ True ∧ True ∧ True) (by kernel_rfl) ⟨trivial, trivial, trivial, trivial⟩ ?_
      refine blockQ_normal ?_
      refine thenQ_normal ?_
      refine AW.regionA [] [0, 1, 5, 6, 7] [7] (s' := ⟨[(0, (.v (.one (.c (.str a0))))), (1, (.v (.one (.c (.int .u8 a1))))), (5, (.v (.one (.lst 7 (x6 ++ ([(a0.extract x4.toNat x5.toNat)])).length 1 (gl csS (x6 ++ ([(a0.extract x4.toNat x5.toNat)]))))))), (6, (.v (.one (.c (.int .i64 (IntKind.i64.wrap (x5 + (1 : Int)))))))), (7, (.v (.one (.c (.int .i64 (IntKind.i64.wrap (x5 + (1 : Int))))))))], [(7, (.lst (x6 ++ ([(a0.extract x4.toNat x5.toNat)])).length 1 (gl csS (x6 ++ ([(a0.extract x4.toNat x5.toNat)])))))]⟩) (ob := True ∧ True ∧ True ∧ True) (by kernel_rfl) ⟨trivial, trivial, trivial, trivial⟩ ?_
      exact loopQ_normal (k, (IntKind.i64.wrap (x5 + (1 : Int))), (IntKind.i64.wrap (x5 + (1 : Int))), (x6 ++ ([(a0.extract x4.toNat x5.toNat)]))) h (Nat.lt_succ_self k) (Sub.trans (Sub.swap 1 7 _ (by kernel_rfl) (by kernel_rfl)) (Sub.keep [0, 1, 5, 6, 7] [1] (by kernel_rfl) (by kernel_rfl)))
    · refine AW.cond_f rfl b12 ?_
      refine AW.skip ?_
      refine blockQ_normal ?_
      refine thenQ_normal ?_
      refine AW.regionA [] [0, 1, 5, 6, 7] [1] (s' := ⟨[(0, (.v (.one (.c (.str a0))))), (1, (.v (.one (.c (.int .u8 a1))))), (5, (.v (.one (.lst 1 x6.length 1 (gl csS x6))))), (6, (.v (.one (.c (.int .i64 x4))))), (7, (.v (.one (.c (.int .i64 (IntKind.i64.wrap (x5 + (1 : Int))))))))], [(1, (.lst x6.length 1 (gl csS x6)))]⟩) (ob := True ∧ True ∧ True ∧ True) (by kernel_rfl) ⟨trivial, trivial, trivial, trivial⟩ ?_
      exact loopQ_normal (k, x4, (IntKind.i64.wrap (x5 + (1 : Int))), x6) h (Nat.lt_succ_self k) (Sub.keep [0, 1, 5, 6, 7] [1] (by kernel_rfl) (by kernel_rfl))
  · refine AW.cond_f rfl b7 ?_
    refine AW.exit ?_
    refine thenQ_exit ?_
    refine loopQ_exit ?_
    refine blockQ_exit ?_
    refine thenQ_normal ?_
    refine AW.seq ?_
    refine AW.regionA [] [4] [1] (s' := ⟨[(4, (.v (.one (.lst 1 x6.length 1 (gl csS x6)))))], [(1, (.lst x6.length 1 (gl csS x6)))]⟩) (ob := True ∧ True ∧ True) (by kernel_rfl) ⟨trivial, trivial, trivial⟩ ?_
    refine thenQ_normal ?_
    refine AW.ret ?_
    replace h := some_eq h
    subst h
    exact ⟨.inr rfl, retOK_of [(.one (.lst 1 x6.length 1 (gl csS x6)))] (by kernel_rfl) ⟨rfl, trivial⟩ (of_decide_eq_true (by kernel_rfl))⟩

/-! spec.l11Lines -/
def spec_l11Lines (K : Nat) (a0 : ByteArray) : Option ((List ByteArray) × ByteArray) :=
  (spec_l01Cut K a0 (10 : Int)).bind fun v1 => chk (0 ≤ (0 : Int) ∧ (0 : Int) < (v1.length : Int) ∧ (0 : Int) ≤ (IntKind.i64.wrap ((v1.length : Int) - (1 : Int))) ∧ (IntKind.i64.wrap ((v1.length : Int) - (1 : Int))) ≤ (v1.length : Int)) (chk (0 ≤ (IntKind.i64.wrap ((v1.length : Int) - (1 : Int))) ∧ (IntKind.i64.wrap ((v1.length : Int) - (1 : Int))) < (v1.length : Int)) (some ((v1.take (IntKind.i64.wrap ((v1.length : Int) - (1 : Int))).toNat), (v1.getD ((IntKind.i64.wrap ((v1.length : Int) - (1 : Int))).toNat) default))))

theorem ok_spec_l11Lines (K : Nat) (a0 : ByteArray) (o : ((List ByteArray) × ByteArray)) (h : spec_l11Lines K a0 = some o) : CallOK Tryd.prog 9 [.one (.str a0)] [.one (sl 1 csS o.1), .one (.str o.2)] := by
  refine callOK_of_AW Tryd.func9 rfl (by kernel_rfl) (Nat.le_of_ble_eq_true (by kernel_rfl)) ?_
  intro w0
  unfold spec_l11Lines at h
  refine AW.seq ?_
  refine AW.regionA [] [0] [] (s' := ⟨[(0, (.v (.one (.c (.str a0)))))], []⟩) (ob := True ∧ True ∧ True) (by kernel_rfl) ⟨trivial, trivial, trivial⟩ ?_
  refine thenQ_normal ?_
  refine AW.seq ?_
  obtain ⟨v1, e2, h⟩ := bind_some h
  refine AW.regionA [.no, .call [.one (.str a0), .one (.int .u8 (10 : Int))] [.one (sl 1 csS v1)] [[.arr 1]]] [4] [1] (s' := ⟨[(4, (.v (.one (.arr 1))))], [(1, (.arr false v1.length 1 (gl csS v1)))]⟩) (ob := True ∧ (((((.str a0) : C) = (.str a0)) ∧ (((.int .u8 (10 : Int)) : C) = (.int .u8 (10 : Int))) ∧ True) ∧ CallOK Tryd.prog 16 [.one (.str a0), .one (.int .u8 (10 : Int))] [.one (sl 1 csS v1)]) ∧ True ∧ True) (by kernel_rfl) ⟨trivial, ⟨⟨rfl, rfl, trivial⟩, ok_spec_l01Cut K a0 (10 : Int) v1 e2⟩, trivial, trivial⟩ ?_
  refine thenQ_normal ?_
  refine AW.seq ?_
  obtain ⟨c3, h⟩ := chk_some h
  obtain ⟨c4, h⟩ := chk_some h
  refine AW.drawnA (by kernel_rfl) 13 [] [2, 3] [1] (s' := ⟨[(2, (.prt 1 (0 : Int).toNat ((IntKind.i64.wrap ((v1.length : Int) - (1 : Int))).toNat - (0 : Int).toNat))), (3, (.v (.one (.c (.str (v1.getD ((IntKind.i64.wrap ((v1.length : Int) - (1 : Int))).toNat) default))))))], [(1, (.arr false v1.length 1 (gl csS v1)))]⟩) (ob := (True ∧ True ∧ True ∧ True ∧ (0 ≤ (0 : Int) ∧ (0 : Int) < (v1.length : Int) ∧ (0 : Int) ≤ (IntKind.i64.wrap ((v1.length : Int) - (1 : Int))) ∧ (IntKind.i64.wrap ((v1.length : Int) - (1 : Int))) ≤ (v1.length : Int)) ∧ True ∧ True ∧ True ∧ True ∧ (0 ≤ (IntKind.i64.wrap ((v1.length : Int) - (1 : Int))) ∧ (IntKind.i64.wrap ((v1.length : Int) - (1 : Int))) < (v1.length : Int)) ∧ True ∧ True ∧ True ∧ True) ∧ (True)) (by kernel_rfl) ⟨⟨trivial, trivial, trivial, trivial, c3, trivial, trivial, trivial, trivial, c4, trivial, trivial, trivial, trivial⟩, trivial⟩ ?_
  refine thenQ_normal ?_
  refine AW.weak (s' := ⟨[(2, (.prt 1 (0 : Int).toNat ((IntKind.i64.wrap ((v1.length : Int) - (1 : Int))).toNat - (0 : Int).toNat))), (3, (.v (.one (.c (.str (v1.getD ((IntKind.i64.wrap ((v1.length : Int) - (1 : Int))).toNat) default))))))], [(1, (.arr false v1.length 1 (gl csS v1)))]⟩) (Sub.keep [2, 3] [1] (by kernel_rfl) (by kernel_rfl)) ?_
  refine AW.weak (s' := ⟨[(2, (.v (.one (.arr 1)))), (3, (.v (.one (.c (.str (v1.getD ((IntKind.i64.wrap ((v1.length : Int) - (1 : Int))).toNat) default))))))], [(1, (.arr false (v1.take (IntKind.i64.wrap ((v1.length : Int) - (1 : Int))).toNat).length 1 (gl csS (v1.take (IntKind.i64.wrap ((v1.length : Int) - (1 : Int))).toNat))))]⟩) (subCut (lo := (0 : Int).toNat) (len := (IntKind.i64.wrap ((v1.length : Int) - (1 : Int))).toNat - (0 : Int).toNat) (n := v1.length) (sz := 1) (get := gl csS v1) 1 2 (v1.take (IntKind.i64.wrap ((v1.length : Int) - (1 : Int))).toNat).length (gl csS (v1.take (IntKind.i64.wrap ((v1.length : Int) - (1 : Int))).toNat)) (by kernel_rfl) rfl (cut_ob (cs := csS) (Int.le_trans c3.1 c3.2.2.1) c3.2.2.2)) ?_
  refine AW.ret ?_
  replace h := some_eq h
  subst h
  exact ⟨.inr rfl, retOK_of [(.one (.arr 1)), (.one (.c (.str (v1.getD ((IntKind.i64.wrap ((v1.length : Int) - (1 : Int))).toNat) default))))] (by kernel_rfl) ⟨rfl, ⟨rfl, trivial⟩, trivial⟩ (of_decide_eq_true (by kernel_rfl))⟩

/-! spec.l01Check -/
def spec_l01Check_l1 (K : Nat) (a1 : ByteArray) : Nat → Int → Int → Option (Int)
  | 0, _, _ => none
  | k + 1, x3, x4 => ite2 ((decide (x4 < (a1.size : Int)))) (chk (0 ≤ x4 ∧ x4 < (a1.size : Int)) (chk ((65003 : Int) ≠ 0) (spec_l01Check_l1 K a1 k ((IntKind.i64.wrap ((IntKind.i64.wrap ((IntKind.i64.wrap ((613 : Int) * x3)) + (IntKind.i64.wrap (bt a1 x4.toNat)))) + (23 : Int))).tmod (65003 : Int)) (IntKind.i64.wrap (x4 + (1 : Int)))))) (some x3)

def spec_l01Check (K : Nat) (a0 : Int) (a1 : ByteArray) : Option (Int) :=
  spec_l01Check_l1 K a1 K a0 (0 : Int)

theorem ok_spec_l01Check (K : Nat) (a0 : Int) (a1 : ByteArray) (o : (Int)) (h : spec_l01Check K a0 a1 = some o) : CallOK Tryd.prog 10 [.one (.int .i64 a0), .one (.str a1)] [.one (.int .i64 o)] := by
  refine callOK_of_AW Tryd.func10 rfl (by kernel_rfl) (Nat.le_of_ble_eq_true (by kernel_rfl)) ?_
  intro w0
  unfold spec_l01Check at h
  refine AW.seq ?_
  refine AW.regionA [] [0, 1] [] (s' := ⟨[(0, (.v (.one (.c (.int .i64 a0))))), (1, (.v (.one (.c (.str a1)))))], []⟩) (ob := True ∧ True) (by kernel_rfl) ⟨trivial, trivial⟩ ?_
  refine thenQ_normal ?_
  refine AW.seq ?_
  refine AW.seq ?_
  refine AW.regionA [] [0, 1, 5] [] (s' := ⟨[(0, (.v (.one (.c (.int .i64 a0))))), (1, (.v (.one (.c (.str a1))))), (5, (.v (.one (.c (.int .i64 (0 : Int))))))], []⟩) (ob := True ∧ True) (by kernel_rfl) ⟨trivial, trivial⟩ ?_
  refine thenQ_normal ?_
  refine AW.block ?_
  refine AW.loopQ (σ := Nat × Int × Int) (fun p => ⟨[(0, (.v (.one (.c (.int .i64 p.2.1))))), (1, (.v (.one (.c (.str a1))))), (5, (.v (.one (.c (.int .i64 p.2.2)))))], []⟩) (fun p => spec_l01Check_l1 K a1 p.1 p.2.1 p.2.2 = some o) (fun p => p.1) (K, a0, (0 : Int)) h ?_
  clear h
  rintro ⟨k, x3, x4⟩ h
  replace h : spec_l01Check_l1 K a1 k x3 x4 = some o := h
  show AW _ _ (⟨[(0, (.v (.one (.c (.int .i64 x3))))), (1, (.v (.one (.c (.str a1))))), (5, (.v (.one (.c (.int .i64 x4)))))], []⟩ : St) _
  obtain _ | k := k
  · rw [spec_l01Check_l1] at h; cases h
  rw [spec_l01Check_l1] at h
  refine AW.seq ?_
  refine AW.seq ?_
  refine AW.regionA [] [0, 1, 5, 9] [] (s' := ⟨[(0, (.v (.one (.c (.int .i64 x3))))), (1, (.v (.one (.c (.str a1))))), (5, (.v (.one (.c (.int .i64 x4))))), (9, (.v (.one (.c (.bool (decide (x4 < (a1.size : Int))))))))], []⟩) (ob := True ∧ True ∧ True ∧ True ∧ True) (by kernel_rfl) ⟨trivial, trivial, trivial, trivial, trivial⟩ ?_
  refine thenQ_normal ?_
  rcases ite2_cases h with ⟨b5, h⟩ | ⟨b5, h⟩
  · refine AW.cond_t rfl b5 ?_
    refine AW.skip ?_
    refine thenQ_normal ?_
    refine AW.seq ?_
    refine AW.block ?_
    obtain ⟨c6, h⟩ := chk_some h
    obtain ⟨c7, h⟩ := chk_some h
    refine AW.regionA [] [0, 1, 5] [] (s' := ⟨[(0, (.v (.one (.c (.int .i64 ((IntKind.i64.wrap ((IntKind.i64.wrap ((IntKind.i64.wrap ((613 : Int) * x3)) + (IntKind.i64.wrap (bt a1 x4.toNat)))) + (23 : Int))).tmod (65003 : Int))))))), (1, (.v (.one (.c (.str a1))))), (5, (.v (.one (.c (.int .i64 x4)))))], []⟩) (ob := True ∧ True ∧ True ∧ True ∧ (0 ≤ x4 ∧ x4 < (a1.size : Int)) ∧ True ∧ True ∧ True ∧ ((65003 : Int) ≠ 0) ∧ True ∧ True) (by kernel_rfl) ⟨trivial, trivial, trivial, trivial, c6, trivial, trivial, trivial, c7, trivial, trivial⟩ ?_
    refine blockQ_normal ?_
    refine thenQ_normal ?_
    refine AW.regionA [] [0, 1, 5] [] (s' := ⟨[(0, (.v (.one (.c (.int .i64 ((IntKind.i64.wrap ((IntKind.i64.wrap ((IntKind.i64.wrap ((613 : Int) * x3)) + (IntKind.i64.wrap (bt a1 x4.toNat)))) + (23 : Int))).tmod (65003 : Int))))))), (1, (.v (.one (.c (.str a1))))), (5, (.v (.one (.c (.int .i64 (IntKind.i64.wrap (x4 + (1 : Int))))))))], []⟩) (ob := True ∧ True ∧ True ∧ True) (by kernel_rfl) ⟨trivial, trivial, trivial, trivial⟩ ?_
    exact loopQ_normal (k, ((IntKind.i64.wrap ((IntKind.i64.wrap ((IntKind.i64.wrap ((613 : Int) * x3)) + (IntKind.i64.wrap (bt a1 x4.toNat)))) + (23 : Int))).tmod (65003 : Int)), (IntKind.i64.wrap (x4 + (1 : Int)))) h (Nat.lt_succ_self k) (Sub.keep [0, 1, 5] [] (by kernel_rfl) (by kernel_rfl))
  · refine AW.cond_f rfl b5 ?_
    refine AW.exit ?_
    refine thenQ_exit ?_
    refine loopQ_exit ?_
    refine blockQ_exit ?_
    refine thenQ_normal ?_
    refine AW.seq ?_
    refine AW.regionA [] [4] [] (s' := ⟨[(4, (.v (.one (.c (.int .i64 x3)))))], []⟩) (ob := True ∧ True ∧ True) (by kernel_rfl) ⟨trivial, trivial, trivial⟩ ?_
    refine thenQ_normal ?_
    refine AW.ret ?_
    replace h := some_eq h
    subst h
    exact ⟨.inr rfl, retOK_of [(.one (.c (.int .i64 x3)))] (by kernel_rfl) ⟨⟨rfl, trivial⟩, trivial⟩ (of_decide_eq_true (by kernel_rfl))⟩

/-! spec.l01Dec -/
def spec_l01Dec_l1 (K : Nat) (a0 : Int) : Nat → Int → (List Int) → Option (ByteArray)
  | 0, _, _ => none
  | k + 1, x3, x4 => (ite2 (((x4.length : Int) == (0 : Int))) (some true) (some (x3 != (0 : Int)))).bind fun j6 => ite2 (j6) (chk ((10 : Int) ≠ 0) (ite2 ((decide ((x3.tmod (10 : Int)) < (0 : Int)))) (chk ((([(IntKind.u8.wrap (IntKind.i64.wrap ((48 : Int) + (IntKind.i64.wrap (0 - (x3.tmod (10 : Int)))))))]).length + x4.length) * 1 ≤ 140737488355328) (spec_l01Dec_l1 K a0 k (IntKind.i64.wrap (x3.tdiv (10 : Int))) (([(IntKind.u8.wrap (IntKind.i64.wrap ((48 : Int) + (IntKind.i64.wrap (0 - (x3.tmod (10 : Int)))))))]) ++ x4))) (chk ((([(IntKind.u8.wrap (IntKind.i64.wrap ((48 : Int) + (x3.tmod (10 : Int)))))]).length + x4.length) * 1 ≤ 140737488355328) (spec_l01Dec_l1 K a0 k (IntKind.i64.wrap (x3.tdiv (10 : Int))) (([(IntKind.u8.wrap (IntKind.i64.wrap ((48 : Int) + (x3.tmod (10 : Int)))))]) ++ x4))))) (ite2 ((decide (a0 < (0 : Int)))) (chk ((([(45 : Int)]).length + x4.length) * 1 ≤ 140737488355328) (chk (∀ x ∈ (([(45 : Int)]) ++ x4), 0 ≤ x ∧ x < 256) (some (strOf (([(45 : Int)]) ++ x4))))) (chk (∀ x ∈ x4, 0 ≤ x ∧ x < 256) (some (strOf x4))))

def spec_l01Dec (K : Nat) (a0 : Int) : Option (ByteArray) :=
  spec_l01Dec_l1 K a0 K a0 ([] : List Int)

theorem ok_spec_l01Dec (K : Nat) (a0 : Int) (o : (ByteArray)) (h : spec_l01Dec K a0 = some o) : CallOK Tryd.prog 11 [.one (.int .i64 a0)] [.one (.str o)] := by
  refine callOK_of_AW Tryd.func11 rfl (by kernel_rfl) (Nat.le_of_ble_eq_true (by kernel_rfl)) ?_
  intro w0
  unfold spec_l01Dec at h
  refine AW.seq ?_
  refine AW.regionA [] [0] [] (s' := ⟨[(0, (.v (.one (.c (.int .i64 a0)))))], []⟩) (ob := True ∧ True) (by kernel_rfl) ⟨trivial, trivial⟩ ?_
  refine thenQ_normal ?_
  refine AW.seq ?_
  refine AW.regionA [.obj 1 ([] : List Int).length (gl (csI .u8) ([] : List Int))] [0, 3] [1] (s' := ⟨[(0, (.v (.one (.c (.int .i64 a0))))), (3, (.v (.one (.lst 1 ([] : List Int).length 1 (gl (csI .u8) ([] : List Int))))))], [(1, (.lst ([] : List Int).length 1 (gl (csI .u8) ([] : List Int))))]⟩) (ob := (([] : List Int).length = 0 ∧ True) ∧ True ∧ True) (by kernel_rfl) ⟨⟨rfl, trivial⟩, trivial, trivial⟩ ?_
  refine thenQ_normal ?_
  refine AW.seq ?_
  refine AW.regionA [] [0, 3, 4] [1] (s' := ⟨[(0, (.v (.one (.c (.int .i64 a0))))), (3, (.v (.one (.lst 1 ([] : List Int).length 1 (gl (csI .u8) ([] : List Int)))))), (4, (.v (.one (.c (.int .i64 a0)))))], [(1, (.lst ([] : List Int).length 1 (gl (csI .u8) ([] : List Int))))]⟩) (ob := True ∧ True ∧ True) (by kernel_rfl) ⟨trivial, trivial, trivial⟩ ?_
  refine thenQ_normal ?_
  refine AW.seq ?_
  refine AW.block ?_
  refine AW.loopQ (σ := Nat × Int × (List Int)) (fun p => ⟨[(0, (.v (.one (.c (.int .i64 a0))))), (3, (.v (.one (.lst 1 p.2.2.length 1 (gl (csI .u8) p.2.2))))), (4, (.v (.one (.c (.int .i64 p.2.1)))))], [(1, (.lst p.2.2.length 1 (gl (csI .u8) p.2.2)))]⟩) (fun p => spec_l01Dec_l1 K a0 p.1 p.2.1 p.2.2 = some o) (fun p => p.1) (K, a0, ([] : List Int)) h ?_
  clear h
  rintro ⟨k, x3, x4⟩ h
  replace h : spec_l01Dec_l1 K a0 k x3 x4 = some o := h
  show AW _ _ (⟨[(0, (.v (.one (.c (.int .i64 a0))))), (3, (.v (.one (.lst 1 x4.length 1 (gl (csI .u8) x4))))), (4, (.v (.one (.c (.int .i64 x3)))))], [(1, (.lst x4.length 1 (gl (csI .u8) x4)))]⟩ : St) _
  obtain _ | k := k
  · rw [spec_l01Dec_l1] at h; cases h
  rw [spec_l01Dec_l1] at h
  refine AW.seq ?_
  refine AW.seq ?_
  obtain ⟨j6, e7, h⟩ := bind_some h
  refine AW.join1 (s2 := ⟨[(0, (.v (.one (.c (.int .i64 a0))))), (3, (.v (.one (.lst 1 x4.length 1 (gl (csI .u8) x4))))), (4, (.v (.one (.c (.int .i64 x3))))), (14, (.v (.one (.c (.bool j6)))))], [(1, (.lst x4.length 1 (gl (csI .u8) x4)))]⟩) ?_ ?_
  · rcases ite2_cases e7 with ⟨b5, e7⟩ | ⟨b5, e7⟩
    · replace e7 := some_eq e7
      subst e7
      exact AW.regionA [.no, .no, .no, .dec true] [0, 3, 4, 14] [1] (s' := ⟨[(0, (.v (.one (.c (.int .i64 a0))))), (3, (.v (.one (.lst 1 x4.length 1 (gl (csI .u8) x4))))), (4, (.v (.one (.c (.int .i64 x3))))), (14, (.v (.one (.c (.bool true)))))], [(1, (.lst x4.length 1 (gl (csI .u8) x4)))]⟩) (ob := True ∧ True ∧ True ∧ (True ∧ ((x4.length : Int) == (0 : Int)) = true) ∧ True ∧ True ∧ True ∧ True) (by kernel_rfl) ⟨trivial, trivial, trivial, ⟨trivial, b5⟩, trivial, trivial, trivial, trivial⟩ ⟨rfl, rfl⟩
    · replace e7 := some_eq e7
      subst e7
      exact AW.regionA [.no, .no, .no, .dec false] [0, 3, 4, 14] [1] (s' := ⟨[(0, (.v (.one (.c (.int .i64 a0))))), (3, (.v (.one (.lst 1 x4.length 1 (gl (csI .u8) x4))))), (4, (.v (.one (.c (.int .i64 x3))))), (14, (.v (.one (.c (.bool (x3 != (0 : Int)))))))], [(1, (.lst x4.length 1 (gl (csI .u8) x4)))]⟩) (ob := True ∧ True ∧ True ∧ (True ∧ ((x4.length : Int) == (0 : Int)) = false) ∧ True ∧ True ∧ True ∧ True) (by kernel_rfl) ⟨trivial, trivial, trivial, ⟨trivial, b5⟩, trivial, trivial, trivial, trivial⟩ ⟨rfl, rfl⟩
  refine thenQ_normal ?_
  rcases ite2_cases h with ⟨b8, h⟩ | ⟨b8, h⟩
  · refine AW.cond_t rfl b8 ?_
    refine AW.skip ?_
    refine thenQ_normal ?_
    refine AW.block ?_
    refine AW.seq ?_
    obtain ⟨c9, h⟩ := chk_some h
    refine AW.regionA [] [0, 3, 4, 5] [1] (s' := ⟨[(0, (.v (.one (.c (.int .i64 a0))))), (3, (.v (.one (.lst 1 x4.length 1 (gl (csI .u8) x4))))), (4, (.v (.one (.c (.int .i64 x3))))), (5, (.v (.one (.c (.int .i64 (x3.tmod (10 : Int)))))))], [(1, (.lst x4.length 1 (gl (csI .u8) x4)))]⟩) (ob := True ∧ ((10 : Int) ≠ 0) ∧ True ∧ True) (by kernel_rfl) ⟨trivial, c9, trivial, trivial⟩ ?_
    refine thenQ_normal ?_
    refine AW.seq ?_
    refine AW.seq ?_
    refine AW.regionA [] [0, 3, 4, 5, 18] [1] (s' := ⟨[(0, (.v (.one (.c (.int .i64 a0))))), (3, (.v (.one (.lst 1 x4.length 1 (gl (csI .u8) x4))))), (4, (.v (.one (.c (.int .i64 x3))))), (5, (.v (.one (.c (.int .i64 (x3.tmod (10 : Int))))))), (18, (.v (.one (.c (.bool (decide ((x3.tmod (10 : Int)) < (0 : Int))))))))], [(1, (.lst x4.length 1 (gl (csI .u8) x4)))]⟩) (ob := True ∧ True ∧ True) (by kernel_rfl) ⟨trivial, trivial, trivial⟩ ?_
    refine thenQ_normal ?_
    rcases ite2_cases h with ⟨b10, h⟩ | ⟨b10, h⟩
    · refine AW.cond_t rfl b10 ?_
      refine AW.regionA [] [0, 3, 4, 5] [1] (s' := ⟨[(0, (.v (.one (.c (.int .i64 a0))))), (3, (.v (.one (.lst 1 x4.length 1 (gl (csI .u8) x4))))), (4, (.v (.one (.c (.int .i64 x3))))), (5, (.v (.one (.c (.int .i64 (IntKind.i64.wrap (0 - (x3.tmod (10 : Int)))))))))], [(1, (.lst x4.length 1 (gl (csI .u8) x4)))]⟩) (ob := True ∧ True ∧ True ∧ True) (by kernel_rfl) ⟨trivial, trivial, trivial, trivial⟩ ?_
      refine thenQ_normal ?_
      refine AW.seq ?_
      obtain ⟨c11, h⟩ := chk_some h
      refine AW.regionA [.no, .no, .no, .obj 10 ([(IntKind.u8.wrap (IntKind.i64.wrap ((48 : Int) + (IntKind.i64.wrap (0 - (x3.tmod (10 : Int)))))))]).length (gl (csI .u8) ([(IntKind.u8.wrap (IntKind.i64.wrap ((48 : Int) + (IntKind.i64.wrap (0 - (x3.tmod (10 : Int)))))))])), .no, .objK 11 (([(IntKind.u8.wrap (IntKind.i64.wrap ((48 : Int) + (IntKind.i64.wrap (0 - (x3.tmod (10 : Int)))))))]) ++ x4).length (gl (csI .u8) (([(IntKind.u8.wrap (IntKind.i64.wrap ((48 : Int) + (IntKind.i64.wrap (0 - (x3.tmod (10 : Int)))))))]) ++ x4))] [0, 3, 4] [11] (s' := ⟨[(0, (.v (.one (.c (.int .i64 a0))))), (3, (.v (.one (.lst 11 (([(IntKind.u8.wrap (IntKind.i64.wrap ((48 : Int) + (IntKind.i64.wrap (0 - (x3.tmod (10 : Int)))))))]) ++ x4).length 1 (gl (csI .u8) (([(IntKind.u8.wrap (IntKind.i64.wrap ((48 : Int) + (IntKind.i64.wrap (0 - (x3.tmod (10 : Int)))))))]) ++ x4)))))), (4, (.v (.one (.c (.int .i64 x3)))))], [(11, (.lst (([(IntKind.u8.wrap (IntKind.i64.wrap ((48 : Int) + (IntKind.i64.wrap (0 - (x3.tmod (10 : Int)))))))]) ++ x4).length 1 (gl (csI .u8) (([(IntKind.u8.wrap (IntKind.i64.wrap ((48 : Int) + (IntKind.i64.wrap (0 - (x3.tmod (10 : Int)))))))]) ++ x4))))]⟩) (ob := True ∧ True ∧ True ∧ (([(IntKind.u8.wrap (IntKind.i64.wrap ((48 : Int) + (IntKind.i64.wrap (0 - (x3.tmod (10 : Int)))))))]).length = 1 ∧ (((.int .u8 (IntKind.u8.wrap (IntKind.i64.wrap ((48 : Int) + (IntKind.i64.wrap (0 - (x3.tmod (10 : Int)))))))) : C) = (.int .u8 (IntKind.u8.wrap (IntKind.i64.wrap ((48 : Int) + (IntKind.i64.wrap (0 - (x3.tmod (10 : Int)))))))) ∧ True) ∧ True) ∧ True ∧ ((([(IntKind.u8.wrap (IntKind.i64.wrap ((48 : Int) + (IntKind.i64.wrap (0 - (x3.tmod (10 : Int)))))))]) ++ x4).length = ([(IntKind.u8.wrap (IntKind.i64.wrap ((48 : Int) + (IntKind.i64.wrap (0 - (x3.tmod (10 : Int)))))))]).length + x4.length ∧ AppOb (([(IntKind.u8.wrap (IntKind.i64.wrap ((48 : Int) + (IntKind.i64.wrap (0 - (x3.tmod (10 : Int)))))))]).length) (x4.length) 1 (gl (csI .u8) ([(IntKind.u8.wrap (IntKind.i64.wrap ((48 : Int) + (IntKind.i64.wrap (0 - (x3.tmod (10 : Int)))))))])) (gl (csI .u8) x4) (gl (csI .u8) (([(IntKind.u8.wrap (IntKind.i64.wrap ((48 : Int) + (IntKind.i64.wrap (0 - (x3.tmod (10 : Int)))))))]) ++ x4)) ∧ (∀ i j, i < x4.length → j < 1 → scalarC (gl (csI .u8) x4 i j)) ∧ (([(IntKind.u8.wrap (IntKind.i64.wrap ((48 : Int) + (IntKind.i64.wrap (0 - (x3.tmod (10 : Int)))))))]).length + x4.length) * 1 ≤ 140737488355328) ∧ True ∧ True) (by kernel_rfl) ⟨trivial, trivial, trivial, ⟨rfl, ⟨⟨rfl, trivial⟩, trivial⟩⟩, trivial, ⟨List.length_append, gl_append, gl_scalar scI _, c11⟩, trivial, trivial⟩ ?_
      refine thenQ_normal ?_
      refine AW.regionA [] [0, 3, 4] [11] (s' := ⟨[(0, (.v (.one (.c (.int .i64 a0))))), (3, (.v (.one (.lst 11 (([(IntKind.u8.wrap (IntKind.i64.wrap ((48 : Int) + (IntKind.i64.wrap (0 - (x3.tmod (10 : Int)))))))]) ++ x4).length 1 (gl (csI .u8) (([(IntKind.u8.wrap (IntKind.i64.wrap ((48 : Int) + (IntKind.i64.wrap (0 - (x3.tmod (10 : Int)))))))]) ++ x4)))))), (4, (.v (.one (.c (.int .i64 (IntKind.i64.wrap (x3.tdiv (10 : Int))))))))], [(11, (.lst (([(IntKind.u8.wrap (IntKind.i64.wrap ((48 : Int) + (IntKind.i64.wrap (0 - (x3.tmod (10 : Int)))))))]) ++ x4).length 1 (gl (csI .u8) (([(IntKind.u8.wrap (IntKind.i64.wrap ((48 : Int) + (IntKind.i64.wrap (0 - (x3.tmod (10 : Int)))))))]) ++ x4))))]⟩) (ob := True ∧ ((10 : Int) ≠ 0) ∧ True ∧ True) (by kernel_rfl) ⟨trivial, c9, trivial, trivial⟩ ?_
      refine blockQ_normal ?_
      exact loopQ_normal (k, (IntKind.i64.wrap (x3.tdiv (10 : Int))), (([(IntKind.u8.wrap (IntKind.i64.wrap ((48 : Int) + (IntKind.i64.wrap (0 - (x3.tmod (10 : Int)))))))]) ++ x4)) h (Nat.lt_succ_self k) (Sub.trans (Sub.swap 1 11 _ (by kernel_rfl) (by kernel_rfl)) (Sub.keep [0, 3, 4] [1] (by kernel_rfl) (by kernel_rfl)))
    · refine AW.cond_f rfl b10 ?_
      refine AW.skip ?_
      refine thenQ_normal ?_
      refine AW.seq ?_
      obtain ⟨c12, h⟩ := chk_some h
      refine AW.regionA [.no, .no, .no, .obj 12 ([(IntKind.u8.wrap (IntKind.i64.wrap ((48 : Int) + (x3.tmod (10 : Int)))))]).length (gl (csI .u8) ([(IntKind.u8.wrap (IntKind.i64.wrap ((48 : Int) + (x3.tmod (10 : Int)))))])), .no, .objK 13 (([(IntKind.u8.wrap (IntKind.i64.wrap ((48 : Int) + (x3.tmod (10 : Int)))))]) ++ x4).length (gl (csI .u8) (([(IntKind.u8.wrap (IntKind.i64.wrap ((48 : Int) + (x3.tmod (10 : Int)))))]) ++ x4))] [0, 3, 4] [13] (s' := ⟨[(0, (.v (.one (.c (.int .i64 a0))))), (3, (.v (.one (.lst 13 (([(IntKind.u8.wrap (IntKind.i64.wrap ((48 : Int) + (x3.tmod (10 : Int)))))]) ++ x4).length 1 (gl (csI .u8) (([(IntKind.u8.wrap (IntKind.i64.wrap ((48 : Int) + (x3.tmod (10 : Int)))))]) ++ x4)))))), (4, (.v (.one (.c (.int .i64 x3)))))], [(13, (.lst (([(IntKind.u8.wrap (IntKind.i64.wrap ((48 : Int) + (x3.tmod (10 : Int)))))]) ++ x4).length 1 (gl (csI .u8) (([(IntKind.u8.wrap (IntKind.i64.wrap ((48 : Int) + (x3.tmod (10 : Int)))))]) ++ x4))))]⟩) (ob := True ∧ True ∧ True ∧ (([(IntKind.u8.wrap (IntKind.i64.wrap ((48 : Int) + (x3.tmod (10 : Int)))))]).length = 1 ∧ (((.int .u8 (IntKind.u8.wrap (IntKind.i64.wrap ((48 : Int) + (x3.tmod (10 : Int)))))) : C) = (.int .u8 (IntKind.u8.wrap (IntKind.i64.wrap ((48 : Int) + (x3.tmod (10 : Int)))))) ∧ True) ∧ True) ∧ True ∧ ((([(IntKind.u8.wrap (IntKind.i64.wrap ((48 : Int) + (x3.tmod (10 : Int)))))]) ++ x4).length = ([(IntKind.u8.wrap (IntKind.i64.wrap ((48 : Int) + (x3.tmod (10 : Int)))))]).length + x4.length ∧ AppOb (([(IntKind.u8.wrap (IntKind.i64.wrap ((48 : Int) + (x3.tmod (10 : Int)))))]).length) (x4.length) 1 (gl (csI .u8) ([(IntKind.u8.wrap (IntKind.i64.wrap ((48 : Int) + (x3.tmod (10 : Int)))))])) (gl (csI .u8) x4) (gl (csI .u8) (([(IntKind.u8.wrap (IntKind.i64.wrap ((48 : Int) + (x3.tmod (10 : Int)))))]) ++ x4)) ∧ (∀ i j, i < x4.length → j < 1 → scalarC (gl (csI .u8) x4 i j)) ∧ (([(IntKind.u8.wrap (IntKind.i64.wrap ((48 : Int) + (x3.tmod (10 : Int)))))]).length + x4.length) * 1 ≤ 140737488355328) ∧ True ∧ True) (by kernel_rfl) ⟨trivial, trivial, trivial, ⟨rfl, ⟨⟨rfl, trivial⟩, trivial⟩⟩, trivial, ⟨List.length_append, gl_append, gl_scalar scI _, c12⟩, trivial, trivial⟩ ?_
      refine thenQ_normal ?_
      refine AW.regionA [] [0, 3, 4] [13] (s' := ⟨[(0, (.v (.one (.c (.int .i64 a0))))), (3, (.v (.one (.lst 13 (([(IntKind.u8.wrap (IntKind.i64.wrap ((48 : Int) + (x3.tmod (10 : Int)))))]) ++ x4).length 1 (gl (csI .u8) (([(IntKind.u8.wrap (IntKind.i64.wrap ((48 : Int) + (x3.tmod (10 : Int)))))]) ++ x4)))))), (4, (.v (.one (.c (.int .i64 (IntKind.i64.wrap (x3.tdiv (10 : Int))))))))], [(13, (.lst (([(IntKind.u8.wrap (IntKind.i64.wrap ((48 : Int) + (x3.tmod (10 : Int)))))]) ++ x4).length 1 (gl (csI .u8) (([(IntKind.u8.wrap (IntKind.i64.wrap ((48 : Int) + (x3.tmod (10 : Int)))))]) ++ x4))))]⟩) (ob := True ∧ ((10 : Int) ≠ 0) ∧ True ∧ True) (by kernel_rfl) ⟨trivial, c9, trivial, trivial⟩ ?_
      refine blockQ_normal ?_
      exact loopQ_normal (k, (IntKind.i64.wrap (x3.tdiv (10 : Int))), (([(IntKind.u8.wrap (IntKind.i64.wrap ((48 : Int) + (x3.tmod (10 : Int)))))]) ++ x4)) h (Nat.lt_succ_self k) (Sub.trans (Sub.swap 1 13 _ (by kernel_rfl) (by kernel_rfl)) (Sub.keep [0, 3, 4] [1] (by kernel_rfl) (by kernel_rfl)))
  · refine AW.cond_f rfl b8 ?_
    refine AW.exit ?_
    refine thenQ_exit ?_
    refine loopQ_exit ?_
    refine blockQ_exit ?_
    refine thenQ_normal ?_
    refine AW.seq ?_
    refine AW.seq ?_
    refine AW.regionA [] [3, 30] [1] (s' := ⟨[(3, (.v (.one (.lst 1 x4.length 1 (gl (csI .u8) x4))))), (30, (.v (.one (.c (.bool (decide (a0 < (0 : Int))))))))], [(1, (.lst x4.length 1 (gl (csI .u8) x4)))]⟩) (ob := True ∧ True ∧ True) (by kernel_rfl) ⟨trivial, trivial, trivial⟩ ?_
    refine thenQ_normal ?_
    rcases ite2_cases h with ⟨b13, h⟩ | ⟨b13, h⟩
    · refine AW.cond_t rfl b13 ?_
      obtain ⟨c14, h⟩ := chk_some h
      refine AW.regionA [.obj 14 ([(45 : Int)]).length (gl (csI .u8) ([(45 : Int)])), .no, .objK 15 (([(45 : Int)]) ++ x4).length (gl (csI .u8) (([(45 : Int)]) ++ x4))] [3] [15] (s' := ⟨[(3, (.v (.one (.lst 15 (([(45 : Int)]) ++ x4).length 1 (gl (csI .u8) (([(45 : Int)]) ++ x4))))))], [(15, (.lst (([(45 : Int)]) ++ x4).length 1 (gl (csI .u8) (([(45 : Int)]) ++ x4))))]⟩) (ob := (([(45 : Int)]).length = 1 ∧ (((.int .u8 (45 : Int)) : C) = (.int .u8 (45 : Int)) ∧ True) ∧ True) ∧ True ∧ ((([(45 : Int)]) ++ x4).length = ([(45 : Int)]).length + x4.length ∧ AppOb (([(45 : Int)]).length) (x4.length) 1 (gl (csI .u8) ([(45 : Int)])) (gl (csI .u8) x4) (gl (csI .u8) (([(45 : Int)]) ++ x4)) ∧ (∀ i j, i < x4.length → j < 1 → scalarC (gl (csI .u8) x4 i j)) ∧ (([(45 : Int)]).length + x4.length) * 1 ≤ 140737488355328) ∧ True ∧ True) (by kernel_rfl) ⟨⟨rfl, ⟨⟨rfl, trivial⟩, trivial⟩⟩, trivial, ⟨List.length_append, gl_append, gl_scalar scI _, c14⟩, trivial, trivial⟩ ?_
      refine thenQ_normal ?_
      refine AW.seq ?_
      obtain ⟨c15, h⟩ := chk_some h
      refine AW.regionA [.no, .str (strOf (([(45 : Int)]) ++ x4))] [2] [] (s' := ⟨[(2, (.v (.one (.c (.str (strOf (([(45 : Int)]) ++ x4)))))))], []⟩) (ob := True ∧ (bytesOb (strOf (([(45 : Int)]) ++ x4)) (([(45 : Int)]) ++ x4).length (gl (csI .u8) (([(45 : Int)]) ++ x4))) ∧ True ∧ True) (by kernel_rfl) ⟨trivial, strOf_ob c15, trivial, trivial⟩ ?_
      refine thenQ_normal ?_
      refine AW.ret ?_
      replace h := some_eq h
      subst h
      exact ⟨.inr rfl, retOK_of [(.one (.c (.str (strOf (([(45 : Int)]) ++ x4)))))] (by kernel_rfl) ⟨⟨rfl, trivial⟩, trivial⟩ (of_decide_eq_true (by kernel_rfl))⟩
    · refine AW.cond_f rfl b13 ?_
      refine AW.skip ?_
      refine thenQ_normal ?_
      refine AW.seq ?_
      obtain ⟨c16, h⟩ := chk_some h
      refine AW.regionA [.no, .str (strOf x4)] [2] [] (s' := ⟨[(2, (.v (.one (.c (.str (strOf x4))))))], []⟩) (ob := True ∧ (bytesOb (strOf x4) x4.length (gl (csI .u8) x4)) ∧ True ∧ True) (by kernel_rfl) ⟨trivial, strOf_ob c16, trivial, trivial⟩ ?_
      refine thenQ_normal ?_
      refine AW.ret ?_
      replace h := some_eq h
      subst h
      exact ⟨.inr rfl, retOK_of [(.one (.c (.str (strOf x4))))] (by kernel_rfl) ⟨⟨rfl, trivial⟩, trivial⟩ (of_decide_eq_true (by kernel_rfl))⟩

/-! spec.RecoverJournal -/
def spec_RecoverJournal_l4 (K : Nat) (v2 : ((List ByteArray) × ByteArray)) (x10 : Int) : Nat → Int → Option (Int)
  | 0, _ => none
  | k + 1, x24 => chk (0 ≤ x10 ∧ x10 < (v2.1.length : Int)) ((ite2 ((decide (x24 < ((v2.1.getD x10.toNat default).size : Int)))) (chk (0 ≤ x24 ∧ x24 < ((v2.1.getD x10.toNat default).size : Int)) (some ((bt (v2.1.getD x10.toNat default) x24.toNat) != (32 : Int)))) (some false)).bind fun j28 => ite2 (j28) (spec_RecoverJournal_l4 K v2 x10 k (IntKind.i64.wrap (x24 + (1 : Int)))) (some x24))

def spec_RecoverJournal_l3 (K : Nat) (v2 : ((List ByteArray) × ByteArray)) : Nat → Int → Int → Int → (List ByteArray) → Option ((List ByteArray) × Int × Bool)
  | 0, _, _, _, _ => none
  | k + 1, x8, x9, x10, x11 => ite2 ((decide (x10 < (v2.1.length : Int)))) ((spec_RecoverJournal_l4 K v2 x10 K (0 : Int)).bind fun j22 => chk (0 ≤ x10 ∧ x10 < (v2.1.length : Int)) (ite2 ((j22 == ((v2.1.getD x10.toNat default).size : Int))) (some (x11, x9, true)) (chk (0 ≤ (IntKind.i64.wrap (j22 + (1 : Int))) ∧ (IntKind.i64.wrap (j22 + (1 : Int))) ≤ ((v2.1.getD x10.toNat default).size : Int) ∧ ((v2.1.getD x10.toNat default).size : Int) ≤ ((v2.1.getD x10.toNat default).size : Int)) ((spec_l01Check K x8 ((v2.1.getD x10.toNat default).extract (IntKind.i64.wrap (j22 + (1 : Int))).toNat ((v2.1.getD x10.toNat default).size : Int).toNat)).bind fun v34 => chk (0 ≤ (0 : Int) ∧ (0 : Int) ≤ j22 ∧ j22 ≤ ((v2.1.getD x10.toNat default).size : Int)) ((spec_l01Dec K v34).bind fun v37 => ite2 ((!(((v2.1.getD x10.toNat default).extract (0 : Int).toNat j22.toNat).toList == v37.toList))) (some (x11, x9, true)) (chk ((x11.length + ([((v2.1.getD x10.toNat default).extract (IntKind.i64.wrap (j22 + (1 : Int))).toNat ((v2.1.getD x10.toNat default).size : Int).toNat)]).length) * 16 ≤ 140737488355328) (spec_RecoverJournal_l3 K v2 k v34 (IntKind.i64.wrap (x9 + (IntKind.i64.wrap (((v2.1.getD x10.toNat default).size : Int) + (1 : Int))))) (IntKind.i64.wrap (x10 + (1 : Int))) (x11 ++ ([((v2.1.getD x10.toNat default).extract (IntKind.i64.wrap (j22 + (1 : Int))).toNat ((v2.1.getD x10.toNat default).size : Int).toNat)]))))))))) (some (x11, x9, true))

def spec_RecoverJournal (K : Nat) (a0 : ByteArray) : Option ((List ByteArray) × Int × Bool) :=
  ite2 ((decide ((a0.size : Int) > (8000 : Int)))) (some (([] : (List ByteArray)), (0 : Int), false)) ((spec_l11Lines K a0).bind fun v2 => spec_RecoverJournal_l3 K v2 K (0 : Int) (0 : Int) (0 : Int) ([] : List ByteArray))

theorem ok_spec_RecoverJournal (K : Nat) (a0 : ByteArray) (o : ((List ByteArray) × Int × Bool)) (h : spec_RecoverJournal K a0 = some o) : CallOK Tryd.prog 4 [.one (.str a0)] [.one (sl 1 csS o.1), .one (.int .i64 o.2.1), .one (.bool o.2.2)] := by
  refine callOK_of_AW Tryd.func4 rfl (by kernel_rfl) (Nat.le_of_ble_eq_true (by kernel_rfl)) ?_
  intro w0
  unfold spec_RecoverJournal at h
  refine AW.seq ?_
  refine AW.regionA [] [0] [] (s' := ⟨[(0, (.v (.one (.c (.str a0)))))], []⟩) (ob := True ∧ True ∧ True ∧ True) (by kernel_rfl) ⟨trivial, trivial, trivial, trivial⟩ ?_
  refine thenQ_normal ?_
  refine AW.seq ?_
  refine AW.seq ?_
  refine AW.regionA [] [0, 15] [] (s' := ⟨[(0, (.v (.one (.c (.str a0))))), (15, (.v (.one (.c (.bool (decide ((a0.size : Int) > (8000 : Int))))))))], []⟩) (ob := True ∧ True ∧ True ∧ True) (by kernel_rfl) ⟨trivial, trivial, trivial, trivial⟩ ?_
  refine thenQ_normal ?_
  rcases ite2_cases h with ⟨b1, h⟩ | ⟨b1, h⟩
  · refine AW.cond_t rfl b1 ?_
    refine AW.seq ?_
    refine AW.regionA [] [2, 3, 4] [] (s' := ⟨[(2, (.v (.one .nils))), (3, (.v (.one (.c (.int .i64 (0 : Int)))))), (4, (.v (.one (.c (.bool false)))))], []⟩) (ob := True ∧ True ∧ True ∧ True) (by kernel_rfl) ⟨trivial, trivial, trivial, trivial⟩ ?_
    refine thenQ_normal ?_
    refine AW.ret ?_
    refine thenQ_ret ?_
    replace h := some_eq h
    subst h
    exact ⟨.inr rfl, retOK_of [(.one .nils), (.one (.c (.int .i64 (0 : Int)))), (.one (.c (.bool false)))] (by kernel_rfl) ⟨rfl, ⟨rfl, trivial⟩, ⟨rfl, trivial⟩, trivial⟩ (of_decide_eq_true (by kernel_rfl))⟩
  · refine AW.cond_f rfl b1 ?_
    refine AW.skip ?_
    refine thenQ_normal ?_
    refine AW.seq ?_
    obtain ⟨v2, e3, h⟩ := bind_some h
    refine AW.regionA [.no, .call [.one (.str a0)] [.one (sl 1 csS v2.1), .one (.str v2.2)] [[.lst 1], [.view]]] [5] [1] (s' := ⟨[(5, (.v (.one (.lst 1 v2.1.length 1 (gl csS v2.1)))))], [(1, (.lst v2.1.length 1 (gl csS v2.1)))]⟩) (ob := True ∧ (((((.str a0) : C) = (.str a0)) ∧ True) ∧ CallOK Tryd.prog 9 [.one (.str a0)] [.one (sl 1 csS v2.1), .one (.str v2.2)]) ∧ True ∧ True ∧ True ∧ True ∧ True ∧ True) (by kernel_rfl) ⟨trivial, ⟨⟨rfl, trivial⟩, ok_spec_l11Lines K a0 v2 e3⟩, trivial, trivial, trivial, trivial, trivial, trivial⟩ ?_
    refine thenQ_normal ?_
    refine AW.seq ?_
    refine AW.regionA [.obj 2 ([] : List ByteArray).length (gl csS ([] : List ByteArray))] [5, 7] [1, 2] (s' := ⟨[(5, (.v (.one (.lst 1 v2.1.length 1 (gl csS v2.1))))), (7, (.v (.one (.lst 2 ([] : List ByteArray).length 1 (gl csS ([] : List ByteArray))))))], [(1, (.lst v2.1.length 1 (gl csS v2.1))), (2, (.lst ([] : List ByteArray).length 1 (gl csS ([] : List ByteArray))))]⟩) (ob := (([] : List ByteArray).length = 0 ∧ True) ∧ True ∧ True) (by kernel_rfl) ⟨⟨rfl, trivial⟩, trivial, trivial⟩ ?_
    refine thenQ_normal ?_
    refine AW.seq ?_
    refine AW.regionA [] [5, 7, 8] [1, 2] (s' := ⟨[(5, (.v (.one (.lst 1 v2.1.length 1 (gl csS v2.1))))), (7, (.v (.one (.lst 2 ([] : List ByteArray).length 1 (gl csS ([] : List ByteArray)))))), (8, (.v (.one (.c (.int .i64 (0 : Int))))))], [(1, (.lst v2.1.length 1 (gl csS v2.1))), (2, (.lst ([] : List ByteArray).length 1 (gl csS ([] : List ByteArray))))]⟩) (ob := True ∧ True) (by kernel_rfl) ⟨trivial, trivial⟩ ?_
    refine thenQ_normal ?_
    refine AW.seq ?_
    refine AW.regionA [] [5, 7, 8, 9] [1, 2] (s' := ⟨[(5, (.v (.one (.lst 1 v2.1.length 1 (gl csS v2.1))))), (7, (.v (.one (.lst 2 ([] : List ByteArray).length 1 (gl csS ([] : List ByteArray)))))), (8, (.v (.one (.c (.int .i64 (0 : Int)))))), (9, (.v (.one (.c (.int .i64 (0 : Int))))))], [(1, (.lst v2.1.length 1 (gl csS v2.1))), (2, (.lst ([] : List ByteArray).length 1 (gl csS ([] : List ByteArray))))]⟩) (ob := True ∧ True) (by kernel_rfl) ⟨trivial, trivial⟩ ?_
    refine thenQ_normal ?_
    refine AW.seq ?_
    refine AW.seq ?_
    refine AW.regionA [] [5, 7, 8, 9, 10] [1, 2] (s' := ⟨[(5, (.v (.one (.lst 1 v2.1.length 1 (gl csS v2.1))))), (7, (.v (.one (.lst 2 ([] : List ByteArray).length 1 (gl csS ([] : List ByteArray)))))), (8, (.v (.one (.c (.int .i64 (0 : Int)))))), (9, (.v (.one (.c (.int .i64 (0 : Int)))))), (10, (.v (.one (.c (.int .i64 (0 : Int))))))], [(1, (.lst v2.1.length 1 (gl csS v2.1))), (2, (.lst ([] : List ByteArray).length 1 (gl csS ([] : List ByteArray))))]⟩) (ob := True ∧ True) (by kernel_rfl) ⟨trivial, trivial⟩ ?_
    refine thenQ_normal ?_
    refine AW.block ?_
    refine AW.loopQ (σ := Nat × Int × Int × Int × (List ByteArray)) (fun p => ⟨[(5, (.v (.one (.lst 1 v2.1.length 1 (gl csS v2.1))))), (7, (.v (.one (.lst 2 p.2.2.2.2.length 1 (gl csS p.2.2.2.2))))), (8, (.v (.one (.c (.int .i64 p.2.1))))), (9, (.v (.one (.c (.int .i64 p.2.2.1))))), (10, (.v (.one (.c (.int .i64 p.2.2.2.1)))))], [(1, (.lst v2.1.length 1 (gl csS v2.1))), (2, (.lst p.2.2.2.2.length 1 (gl csS p.2.2.2.2)))]⟩) (fun p => spec_RecoverJournal_l3 K v2 p.1 p.2.1 p.2.2.1 p.2.2.2.1 p.2.2.2.2 = some o) (fun p => p.1) (K, (0 : Int), (0 : Int), (0 : Int), ([] : List ByteArray)) h ?_
    clear h
    rintro ⟨k, x8, x9, x10, x11⟩ h
    replace h : spec_RecoverJournal_l3 K v2 k x8 x9 x10 x11 = some o := h
    show AW _ _ (⟨[(5, (.v (.one (.lst 1 v2.1.length 1 (gl csS v2.1))))), (7, (.v (.one (.lst 2 x11.length 1 (gl csS x11))))), (8, (.v (.one (.c (.int .i64 x8))))), (9, (.v (.one (.c (.int .i64 x9))))), (10, (.v (.one (.c (.int .i64 x10)))))], [(1, (.lst v2.1.length 1 (gl csS v2.1))), (2, (.lst x11.length 1 (gl csS x11)))]⟩ : St) _
    obtain _ | k := k
    · rw [spec_RecoverJournal_l3] at h; cases h
    rw [spec_RecoverJournal_l3] at h
    refine AW.seq ?_
    refine AW.seq ?_
    refine AW.regionA [] [5, 7, 8, 9, 10, 25] [1, 2] (s' := ⟨[(5, (.v (.one (.lst 1 v2.1.length 1 (gl csS v2.1))))), (7, (.v (.one (.lst 2 x11.length 1 (gl csS x11))))), (8, (.v (.one (.c (.int .i64 x8))))), (9, (.v (.one (.c (.int .i64 x9))))), (10, (.v (.one (.c (.int .i64 x10))))), (25, (.v (.one (.c (.bool (decide (x10 < (v2.1.length : Int))))))))], [(1, (.lst v2.1.length 1 (gl csS v2.1))), (2, (.lst x11.length 1 (gl csS x11)))]⟩) (ob := True ∧ True ∧ True ∧ True ∧ True) (by kernel_rfl) ⟨trivial, trivial, trivial, trivial, trivial⟩ ?_
    refine thenQ_normal ?_
    rcases ite2_cases h with ⟨b12, h⟩ | ⟨b12, h⟩
    · refine AW.cond_t rfl b12 ?_
      refine AW.skip ?_
      refine thenQ_normal ?_
      refine AW.seq ?_
      refine AW.block ?_
      refine AW.seq ?_
      refine AW.regionA [] [5, 7, 8, 9, 10, 11] [1, 2] (s' := ⟨[(5, (.v (.one (.lst 1 v2.1.length 1 (gl csS v2.1))))), (7, (.v (.one (.lst 2 x11.length 1 (gl csS x11))))), (8, (.v (.one (.c (.int .i64 x8))))), (9, (.v (.one (.c (.int .i64 x9))))), (10, (.v (.one (.c (.int .i64 x10))))), (11, (.v (.one (.c (.int .i64 (0 : Int))))))], [(1, (.lst v2.1.length 1 (gl csS v2.1))), (2, (.lst x11.length 1 (gl csS x11)))]⟩) (ob := True ∧ True) (by kernel_rfl) ⟨trivial, trivial⟩ ?_
      refine thenQ_normal ?_
      refine AW.seq ?_
      obtain ⟨j22, e21, h⟩ := bind_some h
      refine AW.joinS (s2 := ⟨[(5, (.v (.one (.lst 1 v2.1.length 1 (gl csS v2.1))))), (7, (.v (.one (.lst 2 x11.length 1 (gl csS x11))))), (8, (.v (.one (.c (.int .i64 x8))))), (9, (.v (.one (.c (.int .i64 x9))))), (10, (.v (.one (.c (.int .i64 x10))))), (11, (.v (.one (.c (.int .i64 j22)))))], [(1, (.lst v2.1.length 1 (gl csS v2.1))), (2, (.lst x11.length 1 (gl csS x11)))]⟩) ?_ ?_
      · replace h := e21
        refine AW.block ?_
        refine AW.loopQ (σ := Nat × Int) (fun p => ⟨[(5, (.v (.one (.lst 1 v2.1.length 1 (gl csS v2.1))))), (7, (.v (.one (.lst 2 x11.length 1 (gl csS x11))))), (8, (.v (.one (.c (.int .i64 x8))))), (9, (.v (.one (.c (.int .i64 x9))))), (10, (.v (.one (.c (.int .i64 x10))))), (11, (.v (.one (.c (.int .i64 p.2)))))], [(1, (.lst v2.1.length 1 (gl csS v2.1))), (2, (.lst x11.length 1 (gl csS x11)))]⟩) (fun p => spec_RecoverJournal_l4 K v2 x10 p.1 p.2 = some j22) (fun p => p.1) (K, (0 : Int)) h ?_
        clear h
        rintro ⟨k, x24⟩ h
        replace h : spec_RecoverJournal_l4 K v2 x10 k x24 = some j22 := h
        show AW _ _ (⟨[(5, (.v (.one (.lst 1 v2.1.length 1 (gl csS v2.1))))), (7, (.v (.one (.lst 2 x11.length 1 (gl csS x11))))), (8, (.v (.one (.c (.int .i64 x8))))), (9, (.v (.one (.c (.int .i64 x9))))), (10, (.v (.one (.c (.int .i64 x10))))), (11, (.v (.one (.c (.int .i64 x24)))))], [(1, (.lst v2.1.length 1 (gl csS v2.1))), (2, (.lst x11.length 1 (gl csS x11)))]⟩ : St) _
        obtain _ | k := k
        · rw [spec_RecoverJournal_l4] at h; cases h
        rw [spec_RecoverJournal_l4] at h
        refine AW.seq ?_
        refine AW.seq ?_
        obtain ⟨c25, h⟩ := chk_some h
        obtain ⟨j28, e29, h⟩ := bind_some h
        refine AW.join1 (s2 := ⟨[(5, (.v (.one (.lst 1 v2.1.length 1 (gl csS v2.1))))), (7, (.v (.one (.lst 2 x11.length 1 (gl csS x11))))), (8, (.v (.one (.c (.int .i64 x8))))), (9, (.v (.one (.c (.int .i64 x9))))), (10, (.v (.one (.c (.int .i64 x10))))), (11, (.v (.one (.c (.int .i64 x24))))), (43, (.v (.one (.c (.bool j28)))))], [(1, (.lst v2.1.length 1 (gl csS v2.1))), (2, (.lst x11.length 1 (gl csS x11)))]⟩) ?_ ?_
        · rcases ite2_cases e29 with ⟨b26, e29⟩ | ⟨b26, e29⟩
          · obtain ⟨c27, e29⟩ := chk_some e29
            replace e29 := some_eq e29
            subst e29
            exact AW.regionA [.no, .no, .no, .no, .no, .no, .no, .dec true] [5, 7, 8, 9, 10, 11, 43] [1, 2] (s' := ⟨[(5, (.v (.one (.lst 1 v2.1.length 1 (gl csS v2.1))))), (7, (.v (.one (.lst 2 x11.length 1 (gl csS x11))))), (8, (.v (.one (.c (.int .i64 x8))))), (9, (.v (.one (.c (.int .i64 x9))))), (10, (.v (.one (.c (.int .i64 x10))))), (11, (.v (.one (.c (.int .i64 x24))))), (43, (.v (.one (.c (.bool ((bt (v2.1.getD x10.toNat default) x24.toNat) != (32 : Int)))))))], [(1, (.lst v2.1.length 1 (gl csS v2.1))), (2, (.lst x11.length 1 (gl csS x11)))]⟩) (ob := True ∧ True ∧ True ∧ (0 ≤ x10 ∧ x10 < (v2.1.length : Int)) ∧ True ∧ True ∧ True ∧ (True ∧ (decide (x24 < ((v2.1.getD x10.toNat default).size : Int))) = true) ∧ True ∧ True ∧ (0 ≤ x10 ∧ x10 < (v2.1.length : Int)) ∧ True ∧ True ∧ (0 ≤ x24 ∧ x24 < ((v2.1.getD x10.toNat default).size : Int)) ∧ True ∧ True ∧ True) (by kernel_rfl) ⟨trivial, trivial, trivial, c25, trivial, trivial, trivial, ⟨trivial, b26⟩, trivial, trivial, c25, trivial, trivial, c27, trivial, trivial, trivial⟩ ⟨rfl, rfl⟩
          · replace e29 := some_eq e29
            subst e29
            exact AW.regionA [.no, .no, .no, .no, .no, .no, .no, .dec false] [5, 7, 8, 9, 10, 11, 43] [1, 2] (s' := ⟨[(5, (.v (.one (.lst 1 v2.1.length 1 (gl csS v2.1))))), (7, (.v (.one (.lst 2 x11.length 1 (gl csS x11))))), (8, (.v (.one (.c (.int .i64 x8))))), (9, (.v (.one (.c (.int .i64 x9))))), (10, (.v (.one (.c (.int .i64 x10))))), (11, (.v (.one (.c (.int .i64 x24))))), (43, (.v (.one (.c (.bool false)))))], [(1, (.lst v2.1.length 1 (gl csS v2.1))), (2, (.lst x11.length 1 (gl csS x11)))]⟩) (ob := True ∧ True ∧ True ∧ (0 ≤ x10 ∧ x10 < (v2.1.length : Int)) ∧ True ∧ True ∧ True ∧ (True ∧ (decide (x24 < ((v2.1.getD x10.toNat default).size : Int))) = false) ∧ True ∧ True ∧ True ∧ True ∧ True ∧ True ∧ True ∧ True ∧ True) (by kernel_rfl) ⟨trivial, trivial, trivial, c25, trivial, trivial, trivial, ⟨trivial, b26⟩, trivial, trivial, trivial, trivial, trivial, trivial, trivial, trivial, trivial⟩ ⟨rfl, rfl⟩
        refine thenQ_normal ?_
        rcases ite2_cases h with ⟨b30, h⟩ | ⟨b30, h⟩
        · refine AW.cond_t rfl b30 ?_
          refine AW.skip ?_
          refine thenQ_normal ?_
          refine AW.block ?_
          refine AW.regionA [] [5, 7, 8, 9, 10, 11] [1, 2] (s' := ⟨[(5, (.v (.one (.lst 1 v2.1.length 1 (gl csS v2.1))))), (7, (.v (.one (.lst 2 x11.length 1 (gl csS x11))))), (8, (.v (.one (.c (.int .i64 x8))))), (9, (.v (.one (.c (.int .i64 x9))))), (10, (.v (.one (.c (.int .i64 x10))))), (11, (.v (.one (.c (.int .i64 (IntKind.i64.wrap (x24 + (1 : Int))))))))], [(1, (.lst v2.1.length 1 (gl csS v2.1))), (2, (.lst x11.length 1 (gl csS x11)))]⟩) (ob := True ∧ True ∧ True ∧ True) (by kernel_rfl) ⟨trivial, trivial, trivial, trivial⟩ ?_
          refine blockQ_normal ?_
          exact loopQ_normal (k, (IntKind.i64.wrap (x24 + (1 : Int)))) h (Nat.lt_succ_self k) (Sub.keep [5, 7, 8, 9, 10, 11] [1, 2] (by kernel_rfl) (by kernel_rfl))
        · refine AW.cond_f rfl b30 ?_
          refine AW.exit ?_
          refine thenQ_exit ?_
          refine loopQ_exit ?_
          refine blockQ_exit ?_
          replace h := some_eq h
          subst h
          exact ⟨rfl, Sub.keep [5, 7, 8, 9, 10, 11] [1, 2] (by kernel_rfl) (by kernel_rfl)⟩
      refine thenQ_normal ?_
      refine AW.seq ?_
      refine AW.seq ?_
      obtain ⟨c31, h⟩ := chk_some h
      refine AW.regionA [] [5, 7, 8, 9, 10, 11, 52] [1, 2] (s' := ⟨[(5, (.v (.one (.lst 1 v2.1.length 1 (gl csS v2.1))))), (7, (.v (.one (.lst 2 x11.length 1 (gl csS x11))))), (8, (.v (.one (.c (.int .i64 x8))))), (9, (.v (.one (.c (.int .i64 x9))))), (10, (.v (.one (.c (.int .i64 x10))))), (11, (.v (.one (.c (.int .i64 j22))))), (52, (.v (.one (.c (.bool (j22 == ((v2.1.getD x10.toNat default).size : Int)))))))], [(1, (.lst v2.1.length 1 (gl csS v2.1))), (2, (.lst x11.length 1 (gl csS x11)))]⟩) (ob := True ∧ True ∧ True ∧ (0 ≤ x10 ∧ x10 < (v2.1.length : Int)) ∧ True ∧ True ∧ True ∧ True) (by kernel_rfl) ⟨trivial, trivial, trivial, c31, trivial, trivial, trivial, trivial⟩ ?_
      refine thenQ_normal ?_
      rcases ite2_cases h with ⟨b32, h⟩ | ⟨b32, h⟩
      · refine AW.cond_t rfl b32 ?_
        refine AW.exit ?_
        refine thenQ_exit ?_
        refine blockQ_other rfl ?_
        refine thenQ_exit ?_
        refine loopQ_exit ?_
        refine blockQ_exit ?_
        refine thenQ_normal ?_
        refine AW.seq ?_
        refine AW.regionA [] [2, 3, 4] [2] (s' := ⟨[(2, (.v (.one (.lst 2 x11.length 1 (gl csS x11))))), (3, (.v (.one (.c (.int .i64 x9))))), (4, (.v (.one (.c (.bool true)))))], [(2, (.lst x11.length 1 (gl csS x11)))]⟩) (ob := True ∧ True ∧ True ∧ True ∧ True ∧ True) (by kernel_rfl) ⟨trivial, trivial, trivial, trivial, trivial, trivial⟩ ?_
        refine thenQ_normal ?_
        refine AW.ret ?_
        replace h := some_eq h
        subst h
        exact ⟨.inr rfl, retOK_of [(.one (.lst 2 x11.length 1 (gl csS x11))), (.one (.c (.int .i64 x9))), (.one (.c (.bool true)))] (by kernel_rfl) ⟨rfl, ⟨rfl, trivial⟩, ⟨rfl, trivial⟩, trivial⟩ (of_decide_eq_true (by kernel_rfl))⟩
      · refine AW.cond_f rfl b32 ?_
        refine AW.skip ?_
        refine thenQ_normal ?_
        refine AW.seq ?_
        obtain ⟨c33, h⟩ := chk_some h
        refine AW.regionA [] [5, 7, 8, 9, 10, 11, 12] [1, 2] (s' := ⟨[(5, (.v (.one (.lst 1 v2.1.length 1 (gl csS v2.1))))), (7, (.v (.one (.lst 2 x11.length 1 (gl csS x11))))), (8, (.v (.one (.c (.int .i64 x8))))), (9, (.v (.one (.c (.int .i64 x9))))), (10, (.v (.one (.c (.int .i64 x10))))), (11, (.v (.one (.c (.int .i64 j22))))), (12, (.v (.one (.c (.str ((v2.1.getD x10.toNat default).extract (IntKind.i64.wrap (j22 + (1 : Int))).toNat ((v2.1.getD x10.toNat default).size : Int).toNat))))))], [(1, (.lst v2.1.length 1 (gl csS v2.1))), (2, (.lst x11.length 1 (gl csS x11)))]⟩) (ob := True ∧ True ∧ (0 ≤ x10 ∧ x10 < (v2.1.length : Int)) ∧ True ∧ True ∧ True ∧ (0 ≤ (IntKind.i64.wrap (j22 + (1 : Int))) ∧ (IntKind.i64.wrap (j22 + (1 : Int))) ≤ ((v2.1.getD x10.toNat default).size : Int) ∧ ((v2.1.getD x10.toNat default).size : Int) ≤ ((v2.1.getD x10.toNat default).size : Int)) ∧ True ∧ True) (by kernel_rfl) ⟨trivial, trivial, c31, trivial, trivial, trivial, c33, trivial, trivial⟩ ?_
        refine thenQ_normal ?_
        refine AW.seq ?_
        obtain ⟨v34, e35, h⟩ := bind_some h
        refine AW.regionA [.no, .no, .call [.one (.int .i64 x8), .one (.str ((v2.1.getD x10.toNat default).extract (IntKind.i64.wrap (j22 + (1 : Int))).toNat ((v2.1.getD x10.toNat default).size : Int).toNat))] [.one (.int .i64 v34)] [[.view]]] [5, 7, 8, 9, 10, 11, 12] [1, 2] (s' := ⟨[(5, (.v (.one (.lst 1 v2.1.length 1 (gl csS v2.1))))), (7, (.v (.one (.lst 2 x11.length 1 (gl csS x11))))), (8, (.v (.one (.c (.int .i64 v34))))), (9, (.v (.one (.c (.int .i64 x9))))), (10, (.v (.one (.c (.int .i64 x10))))), (11, (.v (.one (.c (.int .i64 j22))))), (12, (.v (.one (.c (.str ((v2.1.getD x10.toNat default).extract (IntKind.i64.wrap (j22 + (1 : Int))).toNat ((v2.1.getD x10.toNat default).size : Int).toNat))))))], [(1, (.lst v2.1.length 1 (gl csS v2.1))), (2, (.lst x11.length 1 (gl csS x11)))]⟩) (ob := True ∧ True ∧ (((((.int .i64 x8) : C) = (.int .i64 x8)) ∧ (((.str ((v2.1.getD x10.toNat default).extract (IntKind.i64.wrap (j22 + (1 : Int))).toNat ((v2.1.getD x10.toNat default).size : Int).toNat)) : C) = (.str ((v2.1.getD x10.toNat default).extract (IntKind.i64.wrap (j22 + (1 : Int))).toNat ((v2.1.getD x10.toNat default).size : Int).toNat))) ∧ True) ∧ CallOK Tryd.prog 10 [.one (.int .i64 x8), .one (.str ((v2.1.getD x10.toNat default).extract (IntKind.i64.wrap (j22 + (1 : Int))).toNat ((v2.1.getD x10.toNat default).size : Int).toNat))] [.one (.int .i64 v34)]) ∧ True ∧ True) (by kernel_rfl) ⟨trivial, trivial, ⟨⟨rfl, rfl, trivial⟩, ok_spec_l01Check K x8 ((v2.1.getD x10.toNat default).extract (IntKind.i64.wrap (j22 + (1 : Int))).toNat ((v2.1.getD x10.toNat default).size : Int).toNat) v34 e35⟩, trivial, trivial⟩ ?_
        refine thenQ_normal ?_
        refine AW.seq ?_
        refine AW.seq ?_
        obtain ⟨c36, h⟩ := chk_some h
        obtain ⟨v37, e38, h⟩ := bind_some h
        refine AW.drawnA (by kernel_rfl) 9 [.no, .no, .no, .no, .no, .no, .no, .call [.one (.int .i64 v34)] [.one (.str v37)] [[.view]]] [5, 7, 8, 9, 10, 12, 71] [1, 2] (s' := ⟨[(5, (.v (.one (.lst 1 v2.1.length 1 (gl csS v2.1))))), (7, (.v (.one (.lst 2 x11.length 1 (gl csS x11))))), (8, (.v (.one (.c (.int .i64 v34))))), (9, (.v (.one (.c (.int .i64 x9))))), (10, (.v (.one (.c (.int .i64 x10))))), (12, (.v (.one (.c (.str ((v2.1.getD x10.toNat default).extract (IntKind.i64.wrap (j22 + (1 : Int))).toNat ((v2.1.getD x10.toNat default).size : Int).toNat)))))), (71, (.v (.one (.c (.bool (!(((v2.1.getD x10.toNat default).extract (0 : Int).toNat j22.toNat).toList == v37.toList)))))))], [(1, (.lst v2.1.length 1 (gl csS v2.1))), (2, (.lst x11.length 1 (gl csS x11)))]⟩) (ob := (True ∧ True ∧ (0 ≤ x10 ∧ x10 < (v2.1.length : Int)) ∧ True ∧ True ∧ (0 ≤ (0 : Int) ∧ (0 : Int) ≤ j22 ∧ j22 ≤ ((v2.1.getD x10.toNat default).size : Int)) ∧ True ∧ (((((.int .i64 v34) : C) = (.int .i64 v34)) ∧ True) ∧ CallOK Tryd.prog 11 [.one (.int .i64 v34)] [.one (.str v37)]) ∧ True ∧ True) ∧ (True)) (by kernel_rfl) ⟨⟨trivial, trivial, c31, trivial, trivial, c36, trivial, ⟨⟨rfl, trivial⟩, ok_spec_l01Dec K v34 v37 e38⟩, trivial, trivial⟩, trivial⟩ ?_
        refine thenQ_normal ?_
        rcases ite2_cases h with ⟨b39, h⟩ | ⟨b39, h⟩
        · refine AW.cond_t rfl b39 ?_
          refine AW.exit ?_
          refine thenQ_exit ?_
          refine blockQ_other rfl ?_
          refine thenQ_exit ?_
          refine loopQ_exit ?_
          refine blockQ_exit ?_
          refine thenQ_normal ?_
          refine AW.seq ?_
          refine AW.regionA [] [2, 3, 4] [2] (s' := ⟨[(2, (.v (.one (.lst 2 x11.length 1 (gl csS x11))))), (3, (.v (.one (.c (.int .i64 x9))))), (4, (.v (.one (.c (.bool true)))))], [(2, (.lst x11.length 1 (gl csS x11)))]⟩) (ob := True ∧ True ∧ True ∧ True ∧ True ∧ True) (by kernel_rfl) ⟨trivial, trivial, trivial, trivial, trivial, trivial⟩ ?_
          refine thenQ_normal ?_
          refine AW.ret ?_
          replace h := some_eq h
          subst h
          exact ⟨.inr rfl, retOK_of [(.one (.lst 2 x11.length 1 (gl csS x11))), (.one (.c (.int .i64 x9))), (.one (.c (.bool true)))] (by kernel_rfl) ⟨rfl, ⟨rfl, trivial⟩, ⟨rfl, trivial⟩, trivial⟩ (of_decide_eq_true (by kernel_rfl))⟩
        · refine AW.cond_f rfl b39 ?_
          refine AW.skip ?_
          refine thenQ_normal ?_
          refine AW.seq ?_
          obtain ⟨c40, h⟩ := chk_some h
          refine AW.regionA [.no, .no, .obj 7 ([((v2.1.getD x10.toNat default).extract (IntKind.i64.wrap (j22 + (1 : Int))).toNat ((v2.1.getD x10.toNat default).size : Int).toNat)]).length (gl csS ([((v2.1.getD x10.toNat default).extract (IntKind.i64.wrap (j22 + (1 : Int))).toNat ((v2.1.getD x10.toNat default).size : Int).toNat)])), .objK 8 (x11 ++ ([((v2.1.getD x10.toNat default).extract (IntKind.i64.wrap (j22 + (1 : Int))).toNat ((v2.1.getD x10.toNat default).size : Int).toNat)])).length (gl csS (x11 ++ ([((v2.1.getD x10.toNat default).extract (IntKind.i64.wrap (j22 + (1 : Int))).toNat ((v2.1.getD x10.toNat default).size : Int).toNat)])))] [5, 7, 8, 9, 10] [1, 8] (s' := ⟨[(5, (.v (.one (.lst 1 v2.1.length 1 (gl csS v2.1))))), (7, (.v (.one (.lst 8 (x11 ++ ([((v2.1.getD x10.toNat default).extract (IntKind.i64.wrap (j22 + (1 : Int))).toNat ((v2.1.getD x10.toNat default).size : Int).toNat)])).length 1 (gl csS (x11 ++ ([((v2.1.getD x10.toNat default).extract (IntKind.i64.wrap (j22 + (1 : Int))).toNat ((v2.1.getD x10.toNat default).size : Int).toNat)]))))))), (8, (.v (.one (.c (.int .i64 v34))))), (9, (.v (.one (.c (.int .i64 x9))))), (10, (.v (.one (.c (.int .i64 x10)))))], [(1, (.lst v2.1.length 1 (gl csS v2.1))), (8, (.lst (x11 ++ ([((v2.1.getD x10.toNat default).extract (IntKind.i64.wrap (j22 + (1 : Int))).toNat ((v2.1.getD x10.toNat default).size : Int).toNat)])).length 1 (gl csS (x11 ++ ([((v2.1.getD x10.toNat default).extract (IntKind.i64.wrap (j22 + (1 : Int))).toNat ((v2.1.getD x10.toNat default).size : Int).toNat)])))))]⟩) (ob := True ∧ True ∧ (([((v2.1.getD x10.toNat default).extract (IntKind.i64.wrap (j22 + (1 : Int))).toNat ((v2.1.getD x10.toNat default).size : Int).toNat)]).length = 1 ∧ (((.str ((v2.1.getD x10.toNat default).extract (IntKind.i64.wrap (j22 + (1 : Int))).toNat ((v2.1.getD x10.toNat default).size : Int).toNat)) : C) = (.str ((v2.1.getD x10.toNat default).extract (IntKind.i64.wrap (j22 + (1 : Int))).toNat ((v2.1.getD x10.toNat default).size : Int).toNat)) ∧ True) ∧ True) ∧ ((x11 ++ ([((v2.1.getD x10.toNat default).extract (IntKind.i64.wrap (j22 + (1 : Int))).toNat ((v2.1.getD x10.toNat default).size : Int).toNat)])).length = x11.length + ([((v2.1.getD x10.toNat default).extract (IntKind.i64.wrap (j22 + (1 : Int))).toNat ((v2.1.getD x10.toNat default).size : Int).toNat)]).length ∧ AppOb (x11.length) (([((v2.1.getD x10.toNat default).extract (IntKind.i64.wrap (j22 + (1 : Int))).toNat ((v2.1.getD x10.toNat default).size : Int).toNat)]).length) 1 (gl csS x11) (gl csS ([((v2.1.getD x10.toNat default).extract (IntKind.i64.wrap (j22 + (1 : Int))).toNat ((v2.1.getD x10.toNat default).size : Int).toNat)])) (gl csS (x11 ++ ([((v2.1.getD x10.toNat default).extract (IntKind.i64.wrap (j22 + (1 : Int))).toNat ((v2.1.getD x10.toNat default).size : Int).toNat)]))) ∧ (∀ i j, i < ([((v2.1.getD x10.toNat default).extract (IntKind.i64.wrap (j22 + (1 : Int))).toNat ((v2.1.getD x10.toNat default).size : Int).toNat)]).length → j < 1 → scalarC (gl csS ([((v2.1.getD x10.toNat default).extract (IntKind.i64.wrap (j22 + (1 : Int))).toNat ((v2.1.getD x10.toNat default).size : Int).toNat)]) i j)) ∧ (x11.length + ([((v2.1.getD x10.toNat default).extract (IntKind.i64.wrap (j22 + (1 : Int))).toNat ((v2.1.getD x10.toNat default).size : Int).toNat)]).length) * 16 ≤ 140737488355328) ∧ True ∧ True) (by kernel_rfl) ⟨trivial, trivial, ⟨rfl, ⟨⟨rfl, trivial⟩, trivial⟩⟩, ⟨List.length_append, gl_append, gl_scalar scS _, c40⟩, trivial, trivial⟩ ?_
          refine thenQ_normal ?_
          refine AW.regionA [] [5, 7, 8, 9, 10] [1, 8] (s' := ⟨[(5, (.v (.one (.lst 1 v2.1.length 1 (gl csS v2.1))))), (7, (.v (.one (.lst 8 (x11 ++ ([((v2.1.getD x10.toNat default).extract (IntKind.i64.wrap (j22 + (1 : Int))).toNat ((v2.1.getD x10.toNat default).size : Int).toNat)])).length 1 (gl csS (x11 ++ ([((v2.1.getD x10.toNat default).extract (IntKind.i64.wrap (j22 + (1 : Int))).toNat ((v2.1.getD x10.toNat default).size : Int).toNat)]))))))), (8, (.v (.one (.c (.int .i64 v34))))), (9, (.v (.one (.c (.int .i64 (IntKind.i64.wrap (x9 + (IntKind.i64.wrap (((v2.1.getD x10.toNat default).size : Int) + (1 : Int)))))))))), (10, (.v (.one (.c (.int .i64 x10)))))], [(1, (.lst v2.1.length 1 (gl csS v2.1))), (8, (.lst (x11 ++ ([((v2.1.getD x10.toNat default).extract (IntKind.i64.wrap (j22 + (1 : Int))).toNat ((v2.1.getD x10.toNat default).size : Int).toNat)])).length 1 (gl csS (x11 ++ ([((v2.1.getD x10.toNat default).extract (IntKind.i64.wrap (j22 + (1 : Int))).toNat ((v2.1.getD x10.toNat default).size : Int).toNat)])))))]⟩) (ob := True ∧ True ∧ True ∧ (0 ≤ x10 ∧ x10 < (v2.1.length : Int)) ∧ True ∧ True ∧ True ∧ True ∧ True ∧ True) (by kernel_rfl) ⟨trivial, trivial, trivial, c31, trivial, trivial, trivial, trivial, trivial, trivial⟩ ?_
          refine blockQ_normal ?_
          refine thenQ_normal ?_
          refine AW.regionA [] [5, 7, 8, 9, 10] [1, 8] (s' := ⟨[(5, (.v (.one (.lst 1 v2.1.length 1 (gl csS v2.1))))), (7, (.v (.one (.lst 8 (x11 ++ ([((v2.1.getD x10.toNat default).extract (IntKind.i64.wrap (j22 + (1 : Int))).toNat ((v2.1.getD x10.toNat default).size : Int).toNat)])).length 1 (gl csS (x11 ++ ([((v2.1.getD x10.toNat default).extract (IntKind.i64.wrap (j22 + (1 : Int))).toNat ((v2.1.getD x10.toNat default).size : Int).toNat)]))))))), (8, (.v (.one (.c (.int .i64 v34))))), (9, (.v (.one (.c (.int .i64 (IntKind.i64.wrap (x9 + (IntKind.i64.wrap (((v2.1.getD x10.toNat default).size : Int) + (1 : Int)))))))))), (10, (.v (.one (.c (.int .i64 (IntKind.i64.wrap (x10 + (1 : Int))))))))], [(1, (.lst v2.1.length 1 (gl csS v2.1))), (8, (.lst (x11 ++ ([((v2.1.getD x10.toNat default).extract (IntKind.i64.wrap (j22 + (1 : Int))).toNat ((v2.1.getD x10.toNat default).size : Int).toNat)])).length 1 (gl csS (x11 ++ ([((v2.1.getD x10.toNat default).extract (IntKind.i64.wrap (j22 + (1 : Int))).toNat ((v2.1.getD x10.toNat default).size : Int).toNat)])))))]⟩) (ob := True ∧ True ∧ True ∧ True) (by kernel_rfl) ⟨trivial, trivial, trivial, trivial⟩ ?_
          exact loopQ_normal (k, v34, (IntKind.i64.wrap (x9 + (IntKind.i64.wrap (((v2.1.getD x10.toNat default).size : Int) + (1 : Int))))), (IntKind.i64.wrap (x10 + (1 : Int))), (x11 ++ ([((v2.1.getD x10.toNat default).extract (IntKind.i64.wrap (j22 + (1 : Int))).toNat ((v2.1.getD x10.toNat default).size : Int).toNat)]))) h (Nat.lt_succ_self k) (Sub.trans (Sub.swap 2 8 _ (by kernel_rfl) (by kernel_rfl)) (Sub.keep [5, 7, 8, 9, 10] [1, 2] (by kernel_rfl) (by kernel_rfl)))
    · refine AW.cond_f rfl b12 ?_
      refine AW.exit ?_
      refine thenQ_exit ?_
      refine loopQ_exit ?_
      refine blockQ_exit ?_
      refine thenQ_normal ?_
      refine AW.seq ?_
      refine AW.regionA [] [2, 3, 4] [2] (s' := ⟨[(2, (.v (.one (.lst 2 x11.length 1 (gl csS x11))))), (3, (.v (.one (.c (.int .i64 x9))))), (4, (.v (.one (.c (.bool true)))))], [(2, (.lst x11.length 1 (gl csS x11)))]⟩) (ob := True ∧ True ∧ True ∧ True ∧ True ∧ True) (by kernel_rfl) ⟨trivial, trivial, trivial, trivial, trivial, trivial⟩ ?_
      refine thenQ_normal ?_
      refine AW.ret ?_
      replace h := some_eq h
      subst h
      exact ⟨.inr rfl, retOK_of [(.one (.lst 2 x11.length 1 (gl csS x11))), (.one (.c (.int .i64 x9))), (.one (.c (.bool true)))] (by kernel_rfl) ⟨rfl, ⟨rfl, trivial⟩, ⟨rfl, trivial⟩, trivial⟩ (of_decide_eq_true (by kernel_rfl))⟩

/-! internal/stringslite.Index -/
def stringslite_Index (_K : Nat) (a0 : ByteArray) (a1 : ByteArray) : Option (Int) :=
  idx1 a0 a1

theorem ok_stringslite_Index (K : Nat) (a0 : ByteArray) (a1 : ByteArray) (o : Int) (h : stringslite_Index K a0 a1 = some o) : CallOK Tryd.prog 19 [.one (.str a0), .one (.str a1)] [.one (.int .i64 o)] :=
  hand_index Tryd.func19 (by kernel_rfl) (by kernel_rfl) Tryd.stringslite_Index_one a0 a1 o h

/-! internal/stringslite.Cut -/
def stringslite_Cut (K : Nat) (a0 : ByteArray) (a1 : ByteArray) : Option (ByteArray × ByteArray × Bool) :=
  (stringslite_Index K a0 a1).bind fun v1 => ite2 ((decide (v1 ≥ (0 : Int)))) (chk (0 ≤ (0 : Int) ∧ (0 : Int) ≤ v1 ∧ v1 ≤ (a0.size : Int)) (chk (0 ≤ (IntKind.i64.wrap (v1 + (a1.size : Int))) ∧ (IntKind.i64.wrap (v1 + (a1.size : Int))) ≤ (a0.size : Int) ∧ (a0.size : Int) ≤ (a0.size : Int)) (some ((a0.extract (0 : Int).toNat v1.toNat), (a0.extract (IntKind.i64.wrap (v1 + (a1.size : Int))).toNat (a0.size : Int).toNat), true)))) (some (a0, ByteArray.empty, false))

theorem ok_stringslite_Cut (K : Nat) (a0 : ByteArray) (a1 : ByteArray) (o : (ByteArray × ByteArray × Bool)) (h : stringslite_Cut K a0 a1 = some o) : CallOK Tryd.prog 17 [.one (.str a0), .one (.str a1)] [.one (.str o.1), .one (.str o.2.1), .one (.bool o.2.2)] := by
  refine callOK_of_AW Tryd.func17 rfl (by kernel_rfl) (Nat.le_of_ble_eq_true (by kernel_rfl)) ?_
  intro w0
  unfold stringslite_Cut at h
  refine AW.seq ?_
  refine AW.regionA [] [0, 1] [] (s' := ⟨[(0, (.v (.one (.c (.str a0))))), (1, (.v (.one (.c (.str a1)))))], []⟩) (ob := True ∧ True ∧ True ∧ True) (by kernel_rfl) ⟨trivial, trivial, trivial, trivial⟩ ?_
  refine thenQ_normal ?_
  refine AW.seq ?_
  refine AW.seq ?_
  obtain ⟨v1, e2, h⟩ := bind_some h
  refine AW.regionA [.no, .no, .call [.one (.str a0), .one (.str a1)] [.one (.int .i64 v1)] [[.view]]] [0, 1, 7] [] (s' := ⟨[(0, (.v (.one (.c (.str a0))))), (1, (.v (.one (.c (.str a1))))), (7, (.v (.one (.c (.int .i64 v1)))))], []⟩) (ob := True ∧ True ∧ (((((.str a0) : C) = (.str a0)) ∧ (((.str a1) : C) = (.str a1)) ∧ True) ∧ CallOK Tryd.prog 19 [.one (.str a0), .one (.str a1)] [.one (.int .i64 v1)]) ∧ True ∧ True) (by kernel_rfl) ⟨trivial, trivial, ⟨⟨rfl, rfl, trivial⟩, ok_stringslite_Index K a0 a1 v1 e2⟩, trivial, trivial⟩ ?_
  refine thenQ_normal ?_
  refine AW.seq ?_
  refine AW.regionA [] [0, 1, 7, 12] [] (s' := ⟨[(0, (.v (.one (.c (.str a0))))), (1, (.v (.one (.c (.str a1))))), (7, (.v (.one (.c (.int .i64 v1))))), (12, (.v (.one (.c (.bool (decide (v1 ≥ (0 : Int))))))))], []⟩) (ob := True ∧ True ∧ True) (by kernel_rfl) ⟨trivial, trivial, trivial⟩ ?_
  refine thenQ_normal ?_
  rcases ite2_cases h with ⟨b3, h⟩ | ⟨b3, h⟩
  · refine AW.cond_t rfl b3 ?_
    refine AW.seq ?_
    obtain ⟨c4, h⟩ := chk_some h
    obtain ⟨c5, h⟩ := chk_some h
    refine AW.drawnA (by kernel_rfl) 12 [] [4, 5, 6] [] (s' := ⟨[(4, (.v (.one (.c (.str (a0.extract (0 : Int).toNat v1.toNat)))))), (5, (.v (.one (.c (.str (a0.extract (IntKind.i64.wrap (v1 + (a1.size : Int))).toNat (a0.size : Int).toNat)))))), (6, (.v (.one (.c (.bool true)))))], []⟩) (ob := (True ∧ True ∧ (0 ≤ (0 : Int) ∧ (0 : Int) ≤ v1 ∧ v1 ≤ (a0.size : Int)) ∧ True ∧ True ∧ True ∧ True ∧ True ∧ (0 ≤ (IntKind.i64.wrap (v1 + (a1.size : Int))) ∧ (IntKind.i64.wrap (v1 + (a1.size : Int))) ≤ (a0.size : Int) ∧ (a0.size : Int) ≤ (a0.size : Int)) ∧ True ∧ True ∧ True ∧ True) ∧ (True)) (by kernel_rfl) ⟨⟨trivial, trivial, c4, trivial, trivial, trivial, trivial, trivial, c5, trivial, trivial, trivial, trivial⟩, trivial⟩ ?_
    refine thenQ_normal ?_
    refine AW.ret ?_
    refine thenQ_ret ?_
    replace h := some_eq h
    subst h
    exact ⟨.inr rfl, retOK_of [(.one (.c (.str (a0.extract (0 : Int).toNat v1.toNat)))), (.one (.c (.str (a0.extract (IntKind.i64.wrap (v1 + (a1.size : Int))).toNat (a0.size : Int).toNat)))), (.one (.c (.bool true)))] (by kernel_rfl) ⟨⟨rfl, trivial⟩, ⟨rfl, trivial⟩, ⟨rfl, trivial⟩, trivial⟩ (of_decide_eq_true (by kernel_rfl))⟩
  · refine AW.cond_f rfl b3 ?_
    refine AW.skip ?_
    refine thenQ_normal ?_
    refine AW.seq ?_
    refine AW.regionA [] [4, 5, 6] [] (s' := ⟨[(4, (.v (.one (.c (.str a0))))), (5, (.v (.one (.c (.str ByteArray.empty))))), (6, (.v (.one (.c (.bool false)))))], []⟩) (ob := True ∧ True ∧ True ∧ True ∧ True) (by kernel_rfl) ⟨trivial, trivial, trivial, trivial, trivial⟩ ?_
    refine thenQ_normal ?_
    refine AW.ret ?_
    replace h := some_eq h
    subst h
    exact ⟨.inr rfl, retOK_of [(.one (.c (.str a0))), (.one (.c (.str ByteArray.empty))), (.one (.c (.bool false)))] (by kernel_rfl) ⟨⟨rfl, trivial⟩, ⟨rfl, trivial⟩, ⟨rfl, trivial⟩, trivial⟩ (of_decide_eq_true (by kernel_rfl))⟩

/-! strings.Cut -/
def strings_Cut (K : Nat) (a0 : ByteArray) (a1 : ByteArray) : Option (ByteArray × ByteArray × Bool) :=
  (stringslite_Cut K a0 a1).bind fun v1 => some (v1.1, v1.2.1, v1.2.2)

theorem ok_strings_Cut (K : Nat) (a0 : ByteArray) (a1 : ByteArray) (o : (ByteArray × ByteArray × Bool)) (h : strings_Cut K a0 a1 = some o) : CallOK Tryd.prog 12 [.one (.str a0), .one (.str a1)] [.one (.str o.1), .one (.str o.2.1), .one (.bool o.2.2)] := by
  refine callOK_of_AW Tryd.func12 rfl (by kernel_rfl) (Nat.le_of_ble_eq_true (by kernel_rfl)) ?_
  intro w0
  unfold strings_Cut at h
  refine AW.seq ?_
  refine AW.regionA [] [0, 1] [] (s' := ⟨[(0, (.v (.one (.c (.str a0))))), (1, (.v (.one (.c (.str a1)))))], []⟩) (ob := True ∧ True ∧ True ∧ True) (by kernel_rfl) ⟨trivial, trivial, trivial, trivial⟩ ?_
  refine thenQ_normal ?_
  refine AW.seq ?_
  obtain ⟨v1, e2, h⟩ := bind_some h
  refine AW.regionA [.no, .no, .call [.one (.str a0), .one (.str a1)] [.one (.str v1.1), .one (.str v1.2.1), .one (.bool v1.2.2)] [[.view], [.view], [.view]]] [4, 5, 6] [] (s' := ⟨[(4, (.v (.one (.c (.str v1.1))))), (5, (.v (.one (.c (.str v1.2.1))))), (6, (.v (.one (.c (.bool v1.2.2)))))], []⟩) (ob := True ∧ True ∧ (((((.str a0) : C) = (.str a0)) ∧ (((.str a1) : C) = (.str a1)) ∧ True) ∧ CallOK Tryd.prog 17 [.one (.str a0), .one (.str a1)] [.one (.str v1.1), .one (.str v1.2.1), .one (.bool v1.2.2)]) ∧ True ∧ True ∧ True ∧ True ∧ True ∧ True ∧ True) (by kernel_rfl) ⟨trivial, trivial, ⟨⟨rfl, rfl, trivial⟩, ok_stringslite_Cut K a0 a1 v1 e2⟩, trivial, trivial, trivial, trivial, trivial, trivial, trivial⟩ ?_
  refine thenQ_normal ?_
  refine AW.ret ?_
  replace h := some_eq h
  subst h
  exact ⟨.inr rfl, retOK_of [(.one (.c (.str v1.1))), (.one (.c (.str v1.2.1))), (.one (.c (.bool v1.2.2)))] (by kernel_rfl) ⟨⟨rfl, trivial⟩, ⟨rfl, trivial⟩, ⟨rfl, trivial⟩, trivial⟩ (of_decide_eq_true (by kernel_rfl))⟩

/-! impl.check -/
def impl_check_l1 (K : Nat) (a1 : ByteArray) : Nat → Int → Int → Option (Int)
  | 0, _, _ => none
  | k + 1, x3, x4 => ite2 ((decide (x4 < (a1.size : Int)))) (chk (0 ≤ x4 ∧ x4 < (a1.size : Int)) (chk ((65003 : Int) ≠ 0) (impl_check_l1 K a1 k ((IntKind.i64.wrap ((IntKind.i64.wrap ((IntKind.i64.wrap ((613 : Int) * x3)) + (IntKind.i64.wrap (bt a1 x4.toNat)))) + (23 : Int))).tmod (65003 : Int)) (IntKind.i64.wrap (x4 + (1 : Int)))))) (some x3)

def impl_check (K : Nat) (a0 : Int) (a1 : ByteArray) : Option (Int) :=
  impl_check_l1 K a1 K a0 (0 : Int)

theorem ok_impl_check (K : Nat) (a0 : Int) (a1 : ByteArray) (o : (Int)) (h : impl_check K a0 a1 = some o) : CallOK Tryd.prog 13 [.one (.int .i64 a0), .one (.str a1)] [.one (.int .i64 o)] := by
  refine callOK_of_AW Tryd.func13 rfl (by kernel_rfl) (Nat.le_of_ble_eq_true (by kernel_rfl)) ?_
  intro w0
  unfold impl_check at h
  refine AW.seq ?_
  refine AW.regionA [] [0, 1] [] (s' := ⟨[(0, (.v (.one (.c (.int .i64 a0))))), (1, (.v (.one (.c (.str a1)))))], []⟩) (ob := True ∧ True) (by kernel_rfl) ⟨trivial, trivial⟩ ?_
  refine thenQ_normal ?_
  refine AW.seq ?_
  refine AW.seq ?_
  refine AW.regionA [] [0, 1, 7, 8] [] (s' := ⟨[(0, (.v (.one (.c (.int .i64 a0))))), (1, (.v (.one (.c (.str a1))))), (7, (.v (.one (.c (.int .i64 (a1.size : Int)))))), (8, (.v (.one (.c (.int .i64 (0 : Int))))))], []⟩) (ob := True ∧ True ∧ True ∧ True) (by kernel_rfl) ⟨trivial, trivial, trivial, trivial⟩ ?_
  refine thenQ_normal ?_
  refine AW.block ?_
  refine AW.loopQ (σ := Nat × Int × Int) (fun p => ⟨[(0, (.v (.one (.c (.int .i64 p.2.1))))), (1, (.v (.one (.c (.str a1))))), (7, (.v (.one (.c (.int .i64 (a1.size : Int)))))), (8, (.v (.one (.c (.int .i64 p.2.2)))))], []⟩) (fun p => impl_check_l1 K a1 p.1 p.2.1 p.2.2 = some o) (fun p => p.1) (K, a0, (0 : Int)) h ?_
  clear h
  rintro ⟨k, x3, x4⟩ h
  replace h : impl_check_l1 K a1 k x3 x4 = some o := h
  show AW _ _ (⟨[(0, (.v (.one (.c (.int .i64 x3))))), (1, (.v (.one (.c (.str a1))))), (7, (.v (.one (.c (.int .i64 (a1.size : Int)))))), (8, (.v (.one (.c (.int .i64 x4)))))], []⟩ : St) _
  obtain _ | k := k
  · rw [impl_check_l1] at h; cases h
  rw [impl_check_l1] at h
  refine AW.seq ?_
  refine AW.regionA [] [0, 1, 7, 8, 9] [] (s' := ⟨[(0, (.v (.one (.c (.int .i64 x3))))), (1, (.v (.one (.c (.str a1))))), (7, (.v (.one (.c (.int .i64 (a1.size : Int)))))), (8, (.v (.one (.c (.int .i64 x4))))), (9, (.v (.one (.c (.bool (decide (x4 < (a1.size : Int))))))))], []⟩) (ob := True ∧ True) (by kernel_rfl) ⟨trivial, trivial⟩ ?_
  refine thenQ_normal ?_
  refine AW.seq ?_
  rcases ite2_cases h with ⟨b5, h⟩ | ⟨b5, h⟩
  · refine AW.cond_t rfl b5 ?_
    refine AW.skip ?_
    refine thenQ_normal ?_
    refine AW.seq ?_
    refine AW.block ?_
    refine AW.seq ?_
    refine AW.regionA [] [0, 1, 5, 7, 8] [] (s' := ⟨[(0, (.v (.one (.c (.int .i64 x3))))), (1, (.v (.one (.c (.str a1))))), (5, (.v (.one (.c (.int .i64 x4))))), (7, (.v (.one (.c (.int .i64 (a1.size : Int)))))), (8, (.v (.one (.c (.int .i64 x4)))))], []⟩) (ob := True ∧ True ∧ True) (by kernel_rfl) ⟨trivial, trivial, trivial⟩ ?_
    refine thenQ_normal ?_
    obtain ⟨c6, h⟩ := chk_some h
    obtain ⟨c7, h⟩ := chk_some h
    refine AW.regionA [] [0, 1, 7, 8] [] (s' := ⟨[(0, (.v (.one (.c (.int .i64 ((IntKind.i64.wrap ((IntKind.i64.wrap ((IntKind.i64.wrap ((613 : Int) * x3)) + (IntKind.i64.wrap (bt a1 x4.toNat)))) + (23 : Int))).tmod (65003 : Int))))))), (1, (.v (.one (.c (.str a1))))), (7, (.v (.one (.c (.int .i64 (a1.size : Int)))))), (8, (.v (.one (.c (.int .i64 x4)))))], []⟩) (ob := True ∧ True ∧ True ∧ True ∧ (0 ≤ x4 ∧ x4 < (a1.size : Int)) ∧ True ∧ True ∧ True ∧ ((65003 : Int) ≠ 0) ∧ True ∧ True) (by kernel_rfl) ⟨trivial, trivial, trivial, trivial, c6, trivial, trivial, trivial, c7, trivial, trivial⟩ ?_
    refine blockQ_normal ?_
    refine thenQ_normal ?_
    refine AW.regionA [] [0, 1, 7, 8] [] (s' := ⟨[(0, (.v (.one (.c (.int .i64 ((IntKind.i64.wrap ((IntKind.i64.wrap ((IntKind.i64.wrap ((613 : Int) * x3)) + (IntKind.i64.wrap (bt a1 x4.toNat)))) + (23 : Int))).tmod (65003 : Int))))))), (1, (.v (.one (.c (.str a1))))), (7, (.v (.one (.c (.int .i64 (a1.size : Int)))))), (8, (.v (.one (.c (.int .i64 (IntKind.i64.wrap (x4 + (1 : Int))))))))], []⟩) (ob := True ∧ True ∧ True) (by kernel_rfl) ⟨trivial, trivial, trivial⟩ ?_
    exact loopQ_normal (k, ((IntKind.i64.wrap ((IntKind.i64.wrap ((IntKind.i64.wrap ((613 : Int) * x3)) + (IntKind.i64.wrap (bt a1 x4.toNat)))) + (23 : Int))).tmod (65003 : Int)), (IntKind.i64.wrap (x4 + (1 : Int)))) h (Nat.lt_succ_self k) (Sub.keep [0, 1, 7, 8] [] (by kernel_rfl) (by kernel_rfl))
  · refine AW.cond_f rfl b5 ?_
    refine AW.exit ?_
    refine thenQ_exit ?_
    refine loopQ_exit ?_
    refine blockQ_exit ?_
    refine thenQ_normal ?_
    refine AW.seq ?_
    refine AW.regionA [] [4] [] (s' := ⟨[(4, (.v (.one (.c (.int .i64 x3)))))], []⟩) (ob := True ∧ True ∧ True) (by kernel_rfl) ⟨trivial, trivial, trivial⟩ ?_
    refine thenQ_normal ?_
    refine AW.ret ?_
    replace h := some_eq h
    subst h
    exact ⟨.inr rfl, retOK_of [(.one (.c (.int .i64 x3)))] (by kernel_rfl) ⟨⟨rfl, trivial⟩, trivial⟩ (of_decide_eq_true (by kernel_rfl))⟩

/-! strconv.FormatInt -/
def strconv_FormatInt (_K : Nat) (a0 : Int) (a1 : Int) : Option (ByteArray) :=
  fmt10 a0 a1

theorem ok_strconv_FormatInt (K : Nat) (a0 : Int) (a1 : Int) (o : ByteArray) (h : strconv_FormatInt K a0 a1 = some o) : CallOK Tryd.prog 18 [.one (.int .i64 a0), .one (.int .i64 a1)] [.one (.str o)] :=
  hand_fmt10 Tryd.func18 (by kernel_rfl) (by kernel_rfl) (fun _ hg => tabIs_of_gd (g := 1) (by unfold gtabs; exact List.mem_cons_self) (by kernel_rfl) hg) Tryd.strconv_FormatInt_10 a0 a1 o h

/-! impl.Decimal -/
def impl_Decimal (K : Nat) (a0 : Int) : Option (ByteArray) :=
  (strconv_FormatInt K a0 (10 : Int)).bind fun v1 => some v1

theorem ok_impl_Decimal (K : Nat) (a0 : Int) (o : (ByteArray)) (h : impl_Decimal K a0 = some o) : CallOK Tryd.prog 14 [.one (.int .i64 a0)] [.one (.str o)] := by
  refine callOK_of_AW Tryd.func14 rfl (by kernel_rfl) (Nat.le_of_ble_eq_true (by kernel_rfl)) ?_
  intro w0
  unfold impl_Decimal at h
  refine AW.seq ?_
  refine AW.regionA [] [0] [] (s' := ⟨[(0, (.v (.one (.c (.int .i64 a0)))))], []⟩) (ob := True ∧ True) (by kernel_rfl) ⟨trivial, trivial⟩ ?_
  refine thenQ_normal ?_
  refine AW.seq ?_
  obtain ⟨v1, e2, h⟩ := bind_some h
  refine AW.regionA [.no, .call [.one (.int .i64 a0), .one (.int .i64 (10 : Int))] [.one (.str v1)] [[.view]]] [2] [] (s' := ⟨[(2, (.v (.one (.c (.str v1)))))], []⟩) (ob := True ∧ (((((.int .i64 a0) : C) = (.int .i64 a0)) ∧ (((.int .i64 (10 : Int)) : C) = (.int .i64 (10 : Int))) ∧ True) ∧ CallOK Tryd.prog 18 [.one (.int .i64 a0), .one (.int .i64 (10 : Int))] [.one (.str v1)]) ∧ True ∧ True) (by kernel_rfl) ⟨trivial, ⟨⟨rfl, rfl, trivial⟩, ok_strconv_FormatInt K a0 (10 : Int) v1 e2⟩, trivial, trivial⟩ ?_
  refine thenQ_normal ?_
  refine AW.ret ?_
  replace h := some_eq h
  subst h
  exact ⟨.inr rfl, retOK_of [(.one (.c (.str v1)))] (by kernel_rfl) ⟨⟨rfl, trivial⟩, trivial⟩ (of_decide_eq_true (by kernel_rfl))⟩

/-! impl.RecoverJournal -/
def impl_RecoverJournal_l1 (K : Nat) (a0 : ByteArray) : Nat → Int → Int → (List ByteArray) → Option ((List ByteArray) × Int × Bool)
  | 0, _, _, _ => none
  | k + 1, x5, x6, x7 => chk (0 ≤ x5 ∧ x5 ≤ (a0.size : Int) ∧ (a0.size : Int) ≤ (a0.size : Int)) ((strings_Cut K (a0.extract x5.toNat (a0.size : Int).toNat) (ByteArray.mk #[10])).bind fun v9 => (strings_Cut K v9.1 (ByteArray.mk #[32])).bind fun v11 => (impl_check K x6 v11.2.1).bind fun v13 => (ite2 ((!v9.2.2)) (some true) (ite2 ((!v11.2.2)) (some true) ((impl_Decimal K v13).bind fun v17 => some (!(v11.1.toList == v17.toList))))).bind fun j19 => ite2 (j19) (some (x7, x5, true)) (chk ((x7.length + ([v11.2.1]).length) * 16 ≤ 140737488355328) (impl_RecoverJournal_l1 K a0 k (IntKind.i64.wrap (x5 + (IntKind.i64.wrap ((v9.1.size : Int) + (1 : Int))))) v13 (x7 ++ ([v11.2.1])))))

def impl_RecoverJournal (K : Nat) (a0 : ByteArray) : Option ((List ByteArray) × Int × Bool) :=
  ite2 ((decide ((a0.size : Int) > (8000 : Int)))) (some (([] : (List ByteArray)), (0 : Int), false)) (impl_RecoverJournal_l1 K a0 K (0 : Int) (0 : Int) ([] : (List ByteArray)))

theorem ok_impl_RecoverJournal (K : Nat) (a0 : ByteArray) (o : ((List ByteArray) × Int × Bool)) (h : impl_RecoverJournal K a0 = some o) : CallOK Tryd.prog 5 [.one (.str a0)] [.one (sl 1 csS o.1), .one (.int .i64 o.2.1), .one (.bool o.2.2)] := by
  refine callOK_of_AW Tryd.func5 rfl (by kernel_rfl) (Nat.le_of_ble_eq_true (by kernel_rfl)) ?_
  intro w0
  unfold impl_RecoverJournal at h
  refine AW.seq ?_
  refine AW.regionA [] [0] [] (s' := ⟨[(0, (.v (.one (.c (.str a0)))))], []⟩) (ob := True ∧ True ∧ True ∧ True) (by kernel_rfl) ⟨trivial, trivial, trivial, trivial⟩ ?_
  refine thenQ_normal ?_
  refine AW.seq ?_
  refine AW.seq ?_
  refine AW.regionA [] [0, 17] [] (s' := ⟨[(0, (.v (.one (.c (.str a0))))), (17, (.v (.one (.c (.bool (decide ((a0.size : Int) > (8000 : Int))))))))], []⟩) (ob := True ∧ True ∧ True ∧ True) (by kernel_rfl) ⟨trivial, trivial, trivial, trivial⟩ ?_
  refine thenQ_normal ?_
  rcases ite2_cases h with ⟨b1, h⟩ | ⟨b1, h⟩
  · refine AW.cond_t rfl b1 ?_
    refine AW.seq ?_
    refine AW.regionA [] [2, 3, 4] [] (s' := ⟨[(2, (.v (.one .nils))), (3, (.v (.one (.c (.int .i64 (0 : Int)))))), (4, (.v (.one (.c (.bool false)))))], []⟩) (ob := True ∧ True ∧ True ∧ True) (by kernel_rfl) ⟨trivial, trivial, trivial, trivial⟩ ?_
    refine thenQ_normal ?_
    refine AW.ret ?_
    refine thenQ_ret ?_
    replace h := some_eq h
    subst h
    exact ⟨.inr rfl, retOK_of [(.one .nils), (.one (.c (.int .i64 (0 : Int)))), (.one (.c (.bool false)))] (by kernel_rfl) ⟨rfl, ⟨rfl, trivial⟩, ⟨rfl, trivial⟩, trivial⟩ (of_decide_eq_true (by kernel_rfl))⟩
  · refine AW.cond_f rfl b1 ?_
    refine AW.skip ?_
    refine thenQ_normal ?_
    refine AW.seq ?_
    refine AW.regionA [] [0, 5] [] (s' := ⟨[(0, (.v (.one (.c (.str a0))))), (5, (.v (.one .nils)))], []⟩) (ob := True ∧ True) (by kernel_rfl) ⟨trivial, trivial⟩ ?_
    refine thenQ_normal ?_
    refine AW.seq ?_
    refine AW.regionA [] [0, 5, 6, 7] [] (s' := ⟨[(0, (.v (.one (.c (.str a0))))), (5, (.v (.one .nils))), (6, (.v (.one (.c (.int .i64 (0 : Int)))))), (7, (.v (.one (.c (.int .i64 (0 : Int))))))], []⟩) (ob := True ∧ True ∧ True) (by kernel_rfl) ⟨trivial, trivial, trivial⟩ ?_
    refine thenQ_normal ?_
    refine AW.block ?_
    refine AW.weak (s' := ⟨[(0, (.v (.one (.c (.str a0))))), (5, (.v (.one (.lst 3 ([] : (List ByteArray)).length 1 (gl csS ([] : (List ByteArray))))))), (6, (.v (.one (.c (.int .i64 (0 : Int)))))), (7, (.v (.one (.c (.int .i64 (0 : Int))))))], [(3, (.lst ([] : (List ByteArray)).length 1 (gl csS ([] : (List ByteArray)))))]⟩) (Sub.trans (Sub.unnil 3 1 (gl csS ([] : (List ByteArray))) [5] [] _ (by kernel_rfl) (by kernel_rfl)) (Sub.keep [0, 5, 6, 7] [3] (by kernel_rfl) (by kernel_rfl))) ?_
    refine AW.loopQ (σ := Nat × Int × Int × (List ByteArray)) (fun p => ⟨[(0, (.v (.one (.c (.str a0))))), (5, (.v (.one (.lst 3 p.2.2.2.length 1 (gl csS p.2.2.2))))), (6, (.v (.one (.c (.int .i64 p.2.1))))), (7, (.v (.one (.c (.int .i64 p.2.2.1)))))], [(3, (.lst p.2.2.2.length 1 (gl csS p.2.2.2)))]⟩) (fun p => impl_RecoverJournal_l1 K a0 p.1 p.2.1 p.2.2.1 p.2.2.2 = some o) (fun p => p.1) (K, (0 : Int), (0 : Int), ([] : (List ByteArray))) h ?_
    clear h
    rintro ⟨k, x5, x6, x7⟩ h
    replace h : impl_RecoverJournal_l1 K a0 k x5 x6 x7 = some o := h
    show AW _ _ (⟨[(0, (.v (.one (.c (.str a0))))), (5, (.v (.one (.lst 3 x7.length 1 (gl csS x7))))), (6, (.v (.one (.c (.int .i64 x5))))), (7, (.v (.one (.c (.int .i64 x6)))))], [(3, (.lst x7.length 1 (gl csS x7)))]⟩ : St) _
    obtain _ | k := k
    · rw [impl_RecoverJournal_l1] at h; cases h
    rw [impl_RecoverJournal_l1] at h
    refine AW.block ?_
    refine AW.seq ?_
    obtain ⟨c8, h⟩ := chk_some h
    obtain ⟨v9, e10, h⟩ := bind_some h
    refine AW.regionA [.no, .no, .no, .call [.one (.str (a0.extract x5.toNat (a0.size : Int).toNat)), .one (.str (ByteArray.mk #[10]))] [.one (.str v9.1), .one (.str v9.2.1), .one (.bool v9.2.2)] [[.view], [.view], [.view]]] [0, 5, 6, 7, 8, 10] [3] (s' := ⟨[(0, (.v (.one (.c (.str a0))))), (5, (.v (.one (.lst 3 x7.length 1 (gl csS x7))))), (6, (.v (.one (.c (.int .i64 x5))))), (7, (.v (.one (.c (.int .i64 x6))))), (8, (.v (.one (.c (.str v9.1))))), (10, (.v (.one (.c (.bool v9.2.2)))))], [(3, (.lst x7.length 1 (gl csS x7)))]⟩) (ob := True ∧ True ∧ (0 ≤ x5 ∧ x5 ≤ (a0.size : Int) ∧ (a0.size : Int) ≤ (a0.size : Int)) ∧ (((((.str (a0.extract x5.toNat (a0.size : Int).toNat)) : C) = (.str (a0.extract x5.toNat (a0.size : Int).toNat))) ∧ (((.str (ByteArray.mk #[10])) : C) = (.str (ByteArray.mk #[10]))) ∧ True) ∧ CallOK Tryd.prog 12 [.one (.str (a0.extract x5.toNat (a0.size : Int).toNat)), .one (.str (ByteArray.mk #[10]))] [.one (.str v9.1), .one (.str v9.2.1), .one (.bool v9.2.2)]) ∧ True ∧ True ∧ True ∧ True ∧ True ∧ True ∧ True ∧ True) (by kernel_rfl) ⟨trivial, trivial, c8, ⟨⟨rfl, rfl, trivial⟩, ok_strings_Cut K (a0.extract x5.toNat (a0.size : Int).toNat) (ByteArray.mk #[10]) v9 e10⟩, trivial, trivial, trivial, trivial, trivial, trivial, trivial, trivial⟩ ?_
    refine thenQ_normal ?_
    refine AW.seq ?_
    obtain ⟨v11, e12, h⟩ := bind_some h
    refine AW.regionA [.no, .call [.one (.str v9.1), .one (.str (ByteArray.mk #[32]))] [.one (.str v11.1), .one (.str v11.2.1), .one (.bool v11.2.2)] [[.view], [.view], [.view]]] [0, 5, 6, 7, 8, 10, 11, 12, 13] [3] (s' := ⟨[(0, (.v (.one (.c (.str a0))))), (5, (.v (.one (.lst 3 x7.length 1 (gl csS x7))))), (6, (.v (.one (.c (.int .i64 x5))))), (7, (.v (.one (.c (.int .i64 x6))))), (8, (.v (.one (.c (.str v9.1))))), (10, (.v (.one (.c (.bool v9.2.2))))), (11, (.v (.one (.c (.str v11.1))))), (12, (.v (.one (.c (.str v11.2.1))))), (13, (.v (.one (.c (.bool v11.2.2)))))], [(3, (.lst x7.length 1 (gl csS x7)))]⟩) (ob := True ∧ (((((.str v9.1) : C) = (.str v9.1)) ∧ (((.str (ByteArray.mk #[32])) : C) = (.str (ByteArray.mk #[32]))) ∧ True) ∧ CallOK Tryd.prog 12 [.one (.str v9.1), .one (.str (ByteArray.mk #[32]))] [.one (.str v11.1), .one (.str v11.2.1), .one (.bool v11.2.2)]) ∧ True ∧ True ∧ True ∧ True ∧ True ∧ True ∧ True ∧ True) (by kernel_rfl) ⟨trivial, ⟨⟨rfl, rfl, trivial⟩, ok_strings_Cut K v9.1 (ByteArray.mk #[32]) v11 e12⟩, trivial, trivial, trivial, trivial, trivial, trivial, trivial, trivial⟩ ?_
    refine thenQ_normal ?_
    refine AW.seq ?_
    obtain ⟨v13, e14, h⟩ := bind_some h
    refine AW.regionA [.no, .no, .call [.one (.int .i64 x6), .one (.str v11.2.1)] [.one (.int .i64 v13)] [[.view]]] [0, 5, 6, 8, 10, 11, 12, 13, 14] [3] (s' := ⟨[(0, (.v (.one (.c (.str a0))))), (5, (.v (.one (.lst 3 x7.length 1 (gl csS x7))))), (6, (.v (.one (.c (.int .i64 x5))))), (8, (.v (.one (.c (.str v9.1))))), (10, (.v (.one (.c (.bool v9.2.2))))), (11, (.v (.one (.c (.str v11.1))))), (12, (.v (.one (.c (.str v11.2.1))))), (13, (.v (.one (.c (.bool v11.2.2))))), (14, (.v (.one (.c (.int .i64 v13)))))], [(3, (.lst x7.length 1 (gl csS x7)))]⟩) (ob := True ∧ True ∧ (((((.int .i64 x6) : C) = (.int .i64 x6)) ∧ (((.str v11.2.1) : C) = (.str v11.2.1)) ∧ True) ∧ CallOK Tryd.prog 13 [.one (.int .i64 x6), .one (.str v11.2.1)] [.one (.int .i64 v13)]) ∧ True ∧ True) (by kernel_rfl) ⟨trivial, trivial, ⟨⟨rfl, rfl, trivial⟩, ok_impl_check K x6 v11.2.1 v13 e14⟩, trivial, trivial⟩ ?_
    refine thenQ_normal ?_
    refine AW.seq ?_
    refine AW.seq ?_
    obtain ⟨j19, e20, h⟩ := bind_some h
    refine AW.join1 (s2 := ⟨[(0, (.v (.one (.c (.str a0))))), (5, (.v (.one (.lst 3 x7.length 1 (gl csS x7))))), (6, (.v (.one (.c (.int .i64 x5))))), (8, (.v (.one (.c (.str v9.1))))), (12, (.v (.one (.c (.str v11.2.1))))), (14, (.v (.one (.c (.int .i64 v13))))), (46, (.v (.one (.c (.bool j19)))))], [(3, (.lst x7.length 1 (gl csS x7)))]⟩) ?_ ?_
    · rcases ite2_cases e20 with ⟨b15, e20⟩ | ⟨b15, e20⟩
      · replace e20 := some_eq e20
        subst e20
        exact AW.regionA [.no, .no, .dec true] [0, 5, 6, 8, 12, 14, 46] [3] (s' := ⟨[(0, (.v (.one (.c (.str a0))))), (5, (.v (.one (.lst 3 x7.length 1 (gl csS x7))))), (6, (.v (.one (.c (.int .i64 x5))))), (8, (.v (.one (.c (.str v9.1))))), (12, (.v (.one (.c (.str v11.2.1))))), (14, (.v (.one (.c (.int .i64 v13))))), (46, (.v (.one (.c (.bool true)))))], [(3, (.lst x7.length 1 (gl csS x7)))]⟩) (ob := True ∧ True ∧ (True ∧ (!v9.2.2) = true) ∧ True ∧ True ∧ True ∧ True ∧ True ∧ True ∧ True ∧ True ∧ True ∧ True) (by kernel_rfl) ⟨trivial, trivial, ⟨trivial, b15⟩, trivial, trivial, trivial, trivial, trivial, trivial, trivial, trivial, trivial, trivial⟩ ⟨rfl, rfl⟩
      · rcases ite2_cases e20 with ⟨b16, e20⟩ | ⟨b16, e20⟩
        · replace e20 := some_eq e20
          subst e20
          exact AW.regionA [.no, .no, .dec false, .no, .no, .no, .dec true] [0, 5, 6, 8, 12, 14, 46] [3] (s' := ⟨[(0, (.v (.one (.c (.str a0))))), (5, (.v (.one (.lst 3 x7.length 1 (gl csS x7))))), (6, (.v (.one (.c (.int .i64 x5))))), (8, (.v (.one (.c (.str v9.1))))), (12, (.v (.one (.c (.str v11.2.1))))), (14, (.v (.one (.c (.int .i64 v13))))), (46, (.v (.one (.c (.bool true)))))], [(3, (.lst x7.length 1 (gl csS x7)))]⟩) (ob := True ∧ True ∧ (True ∧ (!v9.2.2) = false) ∧ True ∧ True ∧ True ∧ (True ∧ (!v11.2.2) = true) ∧ True ∧ True ∧ True ∧ True ∧ True ∧ True) (by kernel_rfl) ⟨trivial, trivial, ⟨trivial, b15⟩, trivial, trivial, trivial, ⟨trivial, b16⟩, trivial, trivial, trivial, trivial, trivial, trivial⟩ ⟨rfl, rfl⟩
        · obtain ⟨v17, e18, e20⟩ := bind_some e20
          replace e20 := some_eq e20
          subst e20
          exact AW.regionA [.no, .no, .dec false, .no, .no, .no, .dec false, .no, .no, .call [.one (.int .i64 v13)] [.one (.str v17)] [[.view]]] [0, 5, 6, 8, 12, 14, 46] [3] (s' := ⟨[(0, (.v (.one (.c (.str a0))))), (5, (.v (.one (.lst 3 x7.length 1 (gl csS x7))))), (6, (.v (.one (.c (.int .i64 x5))))), (8, (.v (.one (.c (.str v9.1))))), (12, (.v (.one (.c (.str v11.2.1))))), (14, (.v (.one (.c (.int .i64 v13))))), (46, (.v (.one (.c (.bool (!(v11.1.toList == v17.toList)))))))], [(3, (.lst x7.length 1 (gl csS x7)))]⟩) (ob := True ∧ True ∧ (True ∧ (!v9.2.2) = false) ∧ True ∧ True ∧ True ∧ (True ∧ (!v11.2.2) = false) ∧ True ∧ True ∧ (((((.int .i64 v13) : C) = (.int .i64 v13)) ∧ True) ∧ CallOK Tryd.prog 14 [.one (.int .i64 v13)] [.one (.str v17)]) ∧ True ∧ True ∧ True) (by kernel_rfl) ⟨trivial, trivial, ⟨trivial, b15⟩, trivial, trivial, trivial, ⟨trivial, b16⟩, trivial, trivial, ⟨⟨rfl, trivial⟩, ok_impl_Decimal K v13 v17 e18⟩, trivial, trivial, trivial⟩ ⟨rfl, rfl⟩
    refine thenQ_normal ?_
    rcases ite2_cases h with ⟨b21, h⟩ | ⟨b21, h⟩
    · refine AW.cond_t rfl b21 ?_
      refine AW.seq ?_
      refine AW.regionA [] [2, 3, 4] [3] (s' := ⟨[(2, (.v (.one (.lst 3 x7.length 1 (gl csS x7))))), (3, (.v (.one (.c (.int .i64 x5))))), (4, (.v (.one (.c (.bool true)))))], [(3, (.lst x7.length 1 (gl csS x7)))]⟩) (ob := True ∧ True ∧ True ∧ True ∧ True ∧ True) (by kernel_rfl) ⟨trivial, trivial, trivial, trivial, trivial, trivial⟩ ?_
      refine thenQ_normal ?_
      refine AW.ret ?_
      refine thenQ_ret ?_
      refine blockQ_ret ?_
      refine loopQ_ret ?_
      refine blockQ_ret ?_
      replace h := some_eq h
      subst h
      exact ⟨.inr rfl, retOK_of [(.one (.lst 3 x7.length 1 (gl csS x7))), (.one (.c (.int .i64 x5))), (.one (.c (.bool true)))] (by kernel_rfl) ⟨rfl, ⟨rfl, trivial⟩, ⟨rfl, trivial⟩, trivial⟩ (of_decide_eq_true (by kernel_rfl))⟩
    · refine AW.cond_f rfl b21 ?_
      refine AW.skip ?_
      refine thenQ_normal ?_
      refine AW.seq ?_
      obtain ⟨c22, h⟩ := chk_some h
      refine AW.regionA [.no, .no, .obj 8 ([v11.2.1]).length (gl csS ([v11.2.1])), .objK 9 (x7 ++ ([v11.2.1])).length (gl csS (x7 ++ ([v11.2.1])))] [0, 5, 6, 8, 14] [9] (s' := ⟨[(0, (.v (.one (.c (.str a0))))), (5, (.v (.one (.lst 9 (x7 ++ ([v11.2.1])).length 1 (gl csS (x7 ++ ([v11.2.1]))))))), (6, (.v (.one (.c (.int .i64 x5))))), (8, (.v (.one (.c (.str v9.1))))), (14, (.v (.one (.c (.int .i64 v13)))))], [(9, (.lst (x7 ++ ([v11.2.1])).length 1 (gl csS (x7 ++ ([v11.2.1])))))]⟩) (ob := True ∧ True ∧ (([v11.2.1]).length = 1 ∧ (((.str v11.2.1) : C) = (.str v11.2.1) ∧ True) ∧ True) ∧ ((x7 ++ ([v11.2.1])).length = x7.length + ([v11.2.1]).length ∧ AppOb (x7.length) (([v11.2.1]).length) 1 (gl csS x7) (gl csS ([v11.2.1])) (gl csS (x7 ++ ([v11.2.1]))) ∧ (∀ i j, i < ([v11.2.1]).length → j < 1 → scalarC (gl csS ([v11.2.1]) i j)) ∧ (x7.length + ([v11.2.1]).length) * 16 ≤ 140737488355328) ∧ True ∧ True) (by kernel_rfl) ⟨trivial, trivial, ⟨rfl, ⟨⟨rfl, trivial⟩, trivial⟩⟩, ⟨List.length_append, gl_append, gl_scalar scS _, c22⟩, trivial, trivial⟩ ?_
      refine thenQ_normal ?_
      refine AW.seq ?_
      refine AW.regionA [] [0, 5, 6, 14] [9] (s' := ⟨[(0, (.v (.one (.c (.str a0))))), (5, (.v (.one (.lst 9 (x7 ++ ([v11.2.1])).length 1 (gl csS (x7 ++ ([v11.2.1]))))))), (6, (.v (.one (.c (.int .i64 (IntKind.i64.wrap (x5 + (IntKind.i64.wrap ((v9.1.size : Int) + (1 : Int)))))))))), (14, (.v (.one (.c (.int .i64 v13)))))], [(9, (.lst (x7 ++ ([v11.2.1])).length 1 (gl csS (x7 ++ ([v11.2.1])))))]⟩) (ob := True ∧ True ∧ True ∧ True ∧ True ∧ True ∧ True) (by kernel_rfl) ⟨trivial, trivial, trivial, trivial, trivial, trivial, trivial⟩ ?_
      refine thenQ_normal ?_
      refine AW.regionA [] [0, 5, 6, 7] [9] (s' := ⟨[(0, (.v (.one (.c (.str a0))))), (5, (.v (.one (.lst 9 (x7 ++ ([v11.2.1])).length 1 (gl csS (x7 ++ ([v11.2.1]))))))), (6, (.v (.one (.c (.int .i64 (IntKind.i64.wrap (x5 + (IntKind.i64.wrap ((v9.1.size : Int) + (1 : Int)))))))))), (7, (.v (.one (.c (.int .i64 v13)))))], [(9, (.lst (x7 ++ ([v11.2.1])).length 1 (gl csS (x7 ++ ([v11.2.1])))))]⟩) (ob := True ∧ True ∧ True) (by kernel_rfl) ⟨trivial, trivial, trivial⟩ ?_
      refine blockQ_normal ?_
      exact loopQ_normal (k, (IntKind.i64.wrap (x5 + (IntKind.i64.wrap ((v9.1.size : Int) + (1 : Int))))), v13, (x7 ++ ([v11.2.1]))) h (Nat.lt_succ_self k) (Sub.trans (Sub.swap 3 9 _ (by kernel_rfl) (by kernel_rfl)) (Sub.keep [0, 5, 6, 7] [3] (by kernel_rfl) (by kernel_rfl)))

/-! laws.eqStringS -/
def laws_eqStringS_l1 (K : Nat) (a0 : (List ByteArray)) (a1 : (List ByteArray)) : Nat → Int → Option (Bool)
  | 0, _ => none
  | k + 1, x3 => ite2 ((decide (x3 < (a0.length : Int)))) (chk (0 ≤ x3 ∧ x3 < (a0.length : Int)) (chk (0 ≤ x3 ∧ x3 < (a1.length : Int)) (ite2 ((!((a0.getD x3.toNat default).toList == (a1.getD x3.toNat default).toList))) (some false) (laws_eqStringS_l1 K a0 a1 k (IntKind.i64.wrap (x3 + (1 : Int))))))) (some true)

def laws_eqStringS (K : Nat) (a0 : (List ByteArray)) (a1 : (List ByteArray)) : Option (Bool) :=
  ite2 (((a0.length : Int) != (a1.length : Int))) (some false) (laws_eqStringS_l1 K a0 a1 K (0 : Int))

theorem ok_laws_eqStringS (K : Nat) (a0 : (List ByteArray)) (a1 : (List ByteArray)) (o : (Bool)) (h : laws_eqStringS K a0 a1 = some o) : CallOK Tryd.prog 6 [.one (sl 1 csS a0), .one (sl 1 csS a1)] [.one (.bool o)] := by
  refine callOK_of_AW Tryd.func6 rfl (by kernel_rfl) (Nat.le_of_ble_eq_true (by kernel_rfl)) ?_
  intro w0
  unfold laws_eqStringS at h
  refine AW.seq ?_
  refine AW.regionA [] [0, 1] [] (s' := ⟨[(0, (.v (.one (.c (sl 1 csS a0))))), (1, (.v (.one (.c (sl 1 csS a1)))))], []⟩) (ob := True ∧ True) (by kernel_rfl) ⟨trivial, trivial⟩ ?_
  refine thenQ_normal ?_
  refine AW.seq ?_
  refine AW.seq ?_
  refine AW.regionA [] [0, 1, 10] [] (s' := ⟨[(0, (.v (.one (.c (sl 1 csS a0))))), (1, (.v (.one (.c (sl 1 csS a1))))), (10, (.v (.one (.c (.bool ((a0.length : Int) != (a1.length : Int)))))))], []⟩) (ob := True ∧ True ∧ True ∧ True ∧ True ∧ True) (by kernel_rfl) ⟨trivial, trivial, trivial, trivial, trivial, trivial⟩ ?_
  refine thenQ_normal ?_
  rcases ite2_cases h with ⟨b1, h⟩ | ⟨b1, h⟩
  · refine AW.cond_t rfl b1 ?_
    refine AW.seq ?_
    refine AW.regionA [] [4] [] (s' := ⟨[(4, (.v (.one (.c (.bool false)))))], []⟩) (ob := True ∧ True) (by kernel_rfl) ⟨trivial, trivial⟩ ?_
    refine thenQ_normal ?_
    refine AW.ret ?_
    refine thenQ_ret ?_
    replace h := some_eq h
    subst h
    exact ⟨.inr rfl, retOK_of [(.one (.c (.bool false)))] (by kernel_rfl) ⟨⟨rfl, trivial⟩, trivial⟩ (of_decide_eq_true (by kernel_rfl))⟩
  · refine AW.cond_f rfl b1 ?_
    refine AW.skip ?_
    refine thenQ_normal ?_
    refine AW.seq ?_
    refine AW.seq ?_
    refine AW.regionA [] [0, 1, 5] [] (s' := ⟨[(0, (.v (.one (.c (sl 1 csS a0))))), (1, (.v (.one (.c (sl 1 csS a1))))), (5, (.v (.one (.c (.int .i64 (0 : Int))))))], []⟩) (ob := True ∧ True) (by kernel_rfl) ⟨trivial, trivial⟩ ?_
    refine thenQ_normal ?_
    refine AW.block ?_
    refine AW.loopQ (σ := Nat × Int) (fun p => ⟨[(0, (.v (.one (.c (sl 1 csS a0))))), (1, (.v (.one (.c (sl 1 csS a1))))), (5, (.v (.one (.c (.int .i64 p.2)))))], []⟩) (fun p => laws_eqStringS_l1 K a0 a1 p.1 p.2 = some o) (fun p => p.1) (K, (0 : Int)) h ?_
    clear h
    rintro ⟨k, x3⟩ h
    replace h : laws_eqStringS_l1 K a0 a1 k x3 = some o := h
    show AW _ _ (⟨[(0, (.v (.one (.c (sl 1 csS a0))))), (1, (.v (.one (.c (sl 1 csS a1))))), (5, (.v (.one (.c (.int .i64 x3)))))], []⟩ : St) _
    obtain _ | k := k
    · rw [laws_eqStringS_l1] at h; cases h
    rw [laws_eqStringS_l1] at h
    refine AW.seq ?_
    refine AW.seq ?_
    refine AW.regionA [] [0, 1, 5, 14] [] (s' := ⟨[(0, (.v (.one (.c (sl 1 csS a0))))), (1, (.v (.one (.c (sl 1 csS a1))))), (5, (.v (.one (.c (.int .i64 x3))))), (14, (.v (.one (.c (.bool (decide (x3 < (a0.length : Int))))))))], []⟩) (ob := True ∧ True ∧ True ∧ True ∧ True) (by kernel_rfl) ⟨trivial, trivial, trivial, trivial, trivial⟩ ?_
    refine thenQ_normal ?_
    rcases ite2_cases h with ⟨b4, h⟩ | ⟨b4, h⟩
    · refine AW.cond_t rfl b4 ?_
      refine AW.skip ?_
      refine thenQ_normal ?_
      refine AW.seq ?_
      refine AW.block ?_
      refine AW.seq ?_
      obtain ⟨c5, h⟩ := chk_some h
      obtain ⟨c6, h⟩ := chk_some h
      refine AW.drawnA (by kernel_rfl) 9 [] [0, 1, 5, 25] [] (s' := ⟨[(0, (.v (.one (.c (sl 1 csS a0))))), (1, (.v (.one (.c (sl 1 csS a1))))), (5, (.v (.one (.c (.int .i64 x3))))), (25, (.v (.one (.c (.bool (!((a0.getD x3.toNat default).toList == (a1.getD x3.toNat default).toList)))))))], []⟩) (ob := (True ∧ True ∧ (0 ≤ x3 ∧ x3 < (a0.length : Int)) ∧ True ∧ True ∧ True ∧ (0 ≤ x3 ∧ x3 < (a1.length : Int)) ∧ True ∧ True ∧ True) ∧ (True)) (by kernel_rfl) ⟨⟨trivial, trivial, c5, trivial, trivial, trivial, c6, trivial, trivial, trivial⟩, trivial⟩ ?_
      refine thenQ_normal ?_
      rcases ite2_cases h with ⟨b7, h⟩ | ⟨b7, h⟩
      · refine AW.cond_t rfl b7 ?_
        refine AW.seq ?_
        refine AW.regionA [] [4] [] (s' := ⟨[(4, (.v (.one (.c (.bool false)))))], []⟩) (ob := True ∧ True) (by kernel_rfl) ⟨trivial, trivial⟩ ?_
        refine thenQ_normal ?_
        refine AW.ret ?_
        refine blockQ_ret ?_
        refine thenQ_ret ?_
        refine loopQ_ret ?_
        refine blockQ_ret ?_
        refine thenQ_ret ?_
        replace h := some_eq h
        subst h
        exact ⟨.inr rfl, retOK_of [(.one (.c (.bool false)))] (by kernel_rfl) ⟨⟨rfl, trivial⟩, trivial⟩ (of_decide_eq_true (by kernel_rfl))⟩
      · refine AW.cond_f rfl b7 ?_
        refine AW.skip ?_
        refine blockQ_normal ?_
        refine thenQ_normal ?_
        refine AW.regionA [] [0, 1, 5] [] (s' := ⟨[(0, (.v (.one (.c (sl 1 csS a0))))), (1, (.v (.one (.c (sl 1 csS a1))))), (5, (.v (.one (.c (.int .i64 (IntKind.i64.wrap (x3 + (1 : Int))))))))], []⟩) (ob := True ∧ True ∧ True ∧ True) (by kernel_rfl) ⟨trivial, trivial, trivial, trivial⟩ ?_
        exact loopQ_normal (k, (IntKind.i64.wrap (x3 + (1 : Int)))) h (Nat.lt_succ_self k) (Sub.keep [0, 1, 5] [] (by kernel_rfl) (by kernel_rfl))
    · refine AW.cond_f rfl b4 ?_
      refine AW.exit ?_
      refine thenQ_exit ?_
      refine loopQ_exit ?_
      refine blockQ_exit ?_
      refine thenQ_normal ?_
      refine AW.seq ?_
      refine AW.regionA [] [4] [] (s' := ⟨[(4, (.v (.one (.c (.bool true)))))], []⟩) (ob := True ∧ True) (by kernel_rfl) ⟨trivial, trivial⟩ ?_
      refine thenQ_normal ?_
      refine AW.ret ?_
      replace h := some_eq h
      subst h
      exact ⟨.inr rfl, retOK_of [(.one (.c (.bool true)))] (by kernel_rfl) ⟨⟨rfl, trivial⟩, trivial⟩ (of_decide_eq_true (by kernel_rfl))⟩

/-! laws.markText -/
def laws_markText_l1 (K : Nat) : Nat → Int → ByteArray → Option (ByteArray)
  | 0, _, _ => none
  | k + 1, x4, x5 => ite2 ((decide (x4 > (0 : Int)))) (chk ((10 : Int) ≠ 0) (chk (∀ x ∈ ([(IntKind.u8.wrap (IntKind.i64.wrap ((48 : Int) + (x4.tmod (10 : Int)))))]), 0 ≤ x ∧ x < 256) (chk ((((strOf ([(IntKind.u8.wrap (IntKind.i64.wrap ((48 : Int) + (x4.tmod (10 : Int)))))])).size + x5.size : Nat) : Int) ≤ 9223372036854775807) (laws_markText_l1 K k (IntKind.i64.wrap (x4.tdiv (10 : Int))) ((strOf ([(IntKind.u8.wrap (IntKind.i64.wrap ((48 : Int) + (x4.tmod (10 : Int)))))])) ++ x5))))) (chk ((((ByteArray.mk #[109]).size + x5.size : Nat) : Int) ≤ 9223372036854775807) (some ((ByteArray.mk #[109]) ++ x5)))

def laws_markText (K : Nat) (a0 : Int) : Option (ByteArray) :=
  ite2 ((decide (a0 ≤ (0 : Int)))) (some (ByteArray.mk #[109, 48])) (laws_markText_l1 K K a0 ByteArray.empty)

theorem ok_laws_markText (K : Nat) (a0 : Int) (o : (ByteArray)) (h : laws_markText K a0 = some o) : CallOK Tryd.prog 15 [.one (.int .i64 a0)] [.one (.str o)] := by
  refine callOK_of_AW Tryd.func15 rfl (by kernel_rfl) (Nat.le_of_ble_eq_true (by kernel_rfl)) ?_
  intro w0
  unfold laws_markText at h
  refine AW.seq ?_
  refine AW.regionA [] [0] [] (s' := ⟨[(0, (.v (.one (.c (.int .i64 a0)))))], []⟩) (ob := True ∧ True) (by kernel_rfl) ⟨trivial, trivial⟩ ?_
  refine thenQ_normal ?_
  refine AW.seq ?_
  refine AW.seq ?_
  refine AW.regionA [] [0, 5] [] (s' := ⟨[(0, (.v (.one (.c (.int .i64 a0))))), (5, (.v (.one (.c (.bool (decide (a0 ≤ (0 : Int))))))))], []⟩) (ob := True ∧ True ∧ True) (by kernel_rfl) ⟨trivial, trivial, trivial⟩ ?_
  refine thenQ_normal ?_
  rcases ite2_cases h with ⟨b1, h⟩ | ⟨b1, h⟩
  · refine AW.cond_t rfl b1 ?_
    refine AW.seq ?_
    refine AW.regionA [] [2] [] (s' := ⟨[(2, (.v (.one (.c (.str (ByteArray.mk #[109, 48]))))))], []⟩) (ob := True ∧ True) (by kernel_rfl) ⟨trivial, trivial⟩ ?_
    refine thenQ_normal ?_
    refine AW.ret ?_
    refine thenQ_ret ?_
    replace h := some_eq h
    subst h
    exact ⟨.inr rfl, retOK_of [(.one (.c (.str (ByteArray.mk #[109, 48]))))] (by kernel_rfl) ⟨⟨rfl, trivial⟩, trivial⟩ (of_decide_eq_true (by kernel_rfl))⟩
  · refine AW.cond_f rfl b1 ?_
    refine AW.skip ?_
    refine thenQ_normal ?_
    refine AW.seq ?_
    refine AW.regionA [] [0, 3] [] (s' := ⟨[(0, (.v (.one (.c (.int .i64 a0))))), (3, (.v (.one (.c (.str ByteArray.empty)))))], []⟩) (ob := True ∧ True) (by kernel_rfl) ⟨trivial, trivial⟩ ?_
    refine thenQ_normal ?_
    refine AW.seq ?_
    refine AW.block ?_
    refine AW.loopQ (σ := Nat × Int × ByteArray) (fun p => ⟨[(0, (.v (.one (.c (.int .i64 p.2.1))))), (3, (.v (.one (.c (.str p.2.2)))))], []⟩) (fun p => laws_markText_l1 K p.1 p.2.1 p.2.2 = some o) (fun p => p.1) (K, a0, ByteArray.empty) h ?_
    clear h
    rintro ⟨k, x4, x5⟩ h
    replace h : laws_markText_l1 K k x4 x5 = some o := h
    show AW _ _ (⟨[(0, (.v (.one (.c (.int .i64 x4))))), (3, (.v (.one (.c (.str x5)))))], []⟩ : St) _
    obtain _ | k := k
    · rw [laws_markText_l1] at h; cases h
    rw [laws_markText_l1] at h
    refine AW.seq ?_
    refine AW.seq ?_
    refine AW.regionA [] [0, 3, 7] [] (s' := ⟨[(0, (.v (.one (.c (.int .i64 x4))))), (3, (.v (.one (.c (.str x5))))), (7, (.v (.one (.c (.bool (decide (x4 > (0 : Int))))))))], []⟩) (ob := True ∧ True ∧ True) (by kernel_rfl) ⟨trivial, trivial, trivial⟩ ?_
    refine thenQ_normal ?_
    rcases ite2_cases h with ⟨b6, h⟩ | ⟨b6, h⟩
    · refine AW.cond_t rfl b6 ?_
      refine AW.skip ?_
      refine thenQ_normal ?_
      refine AW.block ?_
      refine AW.seq ?_
      obtain ⟨c7, h⟩ := chk_some h
      obtain ⟨c8, h⟩ := chk_some h
      obtain ⟨c9, h⟩ := chk_some h
      refine AW.regionA [.no, .no, .no, .no, .obj 3 ([(IntKind.u8.wrap (IntKind.i64.wrap ((48 : Int) + (x4.tmod (10 : Int)))))]).length (gl (csI .u8) ([(IntKind.u8.wrap (IntKind.i64.wrap ((48 : Int) + (x4.tmod (10 : Int)))))])), .str (strOf ([(IntKind.u8.wrap (IntKind.i64.wrap ((48 : Int) + (x4.tmod (10 : Int)))))]))] [0, 3] [] (s' := ⟨[(0, (.v (.one (.c (.int .i64 x4))))), (3, (.v (.one (.c (.str ((strOf ([(IntKind.u8.wrap (IntKind.i64.wrap ((48 : Int) + (x4.tmod (10 : Int)))))])) ++ x5))))))], []⟩) (ob := True ∧ ((10 : Int) ≠ 0) ∧ True ∧ True ∧ (([(IntKind.u8.wrap (IntKind.i64.wrap ((48 : Int) + (x4.tmod (10 : Int)))))]).length = 1 ∧ (((.int .u8 (IntKind.u8.wrap (IntKind.i64.wrap ((48 : Int) + (x4.tmod (10 : Int)))))) : C) = (.int .u8 (IntKind.u8.wrap (IntKind.i64.wrap ((48 : Int) + (x4.tmod (10 : Int)))))) ∧ True) ∧ True) ∧ (bytesOb (strOf ([(IntKind.u8.wrap (IntKind.i64.wrap ((48 : Int) + (x4.tmod (10 : Int)))))])) ([(IntKind.u8.wrap (IntKind.i64.wrap ((48 : Int) + (x4.tmod (10 : Int)))))]).length (gl (csI .u8) ([(IntKind.u8.wrap (IntKind.i64.wrap ((48 : Int) + (x4.tmod (10 : Int)))))]))) ∧ True ∧ ((((strOf ([(IntKind.u8.wrap (IntKind.i64.wrap ((48 : Int) + (x4.tmod (10 : Int)))))])).size + x5.size : Nat) : Int) ≤ 9223372036854775807) ∧ True ∧ True) (by kernel_rfl) ⟨trivial, c7, trivial, trivial, ⟨rfl, ⟨⟨rfl, trivial⟩, trivial⟩⟩, strOf_ob c8, trivial, c9, trivial, trivial⟩ ?_
      refine thenQ_normal ?_
      refine AW.regionA [] [0, 3] [] (s' := ⟨[(0, (.v (.one (.c (.int .i64 (IntKind.i64.wrap (x4.tdiv (10 : Int)))))))), (3, (.v (.one (.c (.str ((strOf ([(IntKind.u8.wrap (IntKind.i64.wrap ((48 : Int) + (x4.tmod (10 : Int)))))])) ++ x5))))))], []⟩) (ob := True ∧ ((10 : Int) ≠ 0) ∧ True ∧ True) (by kernel_rfl) ⟨trivial, c7, trivial, trivial⟩ ?_
      refine blockQ_normal ?_
      exact loopQ_normal (k, (IntKind.i64.wrap (x4.tdiv (10 : Int))), ((strOf ([(IntKind.u8.wrap (IntKind.i64.wrap ((48 : Int) + (x4.tmod (10 : Int)))))])) ++ x5)) h (Nat.lt_succ_self k) (Sub.keep [0, 3] [] (by kernel_rfl) (by kernel_rfl))
    · refine AW.cond_f rfl b6 ?_
      refine AW.exit ?_
      refine thenQ_exit ?_
      refine loopQ_exit ?_
      refine blockQ_exit ?_
      refine thenQ_normal ?_
      refine AW.seq ?_
      obtain ⟨c10, h⟩ := chk_some h
      refine AW.regionA [] [2] [] (s' := ⟨[(2, (.v (.one (.c (.str ((ByteArray.mk #[109]) ++ x5))))))], []⟩) (ob := True ∧ ((((ByteArray.mk #[109]).size + x5.size : Nat) : Int) ≤ 9223372036854775807) ∧ True ∧ True) (by kernel_rfl) ⟨trivial, c10, trivial, trivial⟩ ?_
      refine thenQ_normal ?_
      refine AW.ret ?_
      replace h := some_eq h
      subst h
      exact ⟨.inr rfl, retOK_of [(.one (.c (.str ((ByteArray.mk #[109]) ++ x5))))] (by kernel_rfl) ⟨⟨rfl, trivial⟩, trivial⟩ (of_decide_eq_true (by kernel_rfl))⟩

/-! laws.markStringS -/
def laws_markStringS_l1 (K : Nat) (a0 : (List ByteArray)) : Nat → Int → Int → (List ByteArray) → Option (Int × (List ByteArray))
  | 0, _, _, _ => none
  | k + 1, x4, x5, x6 => ite2 ((decide (x5 < (x6.length : Int)))) ((laws_markText K x4).bind fun v8 => chk (0 ≤ x5 ∧ x5 < (x6.length : Int)) (laws_markStringS_l1 K a0 k (IntKind.i64.wrap (x4 + (1 : Int))) (IntKind.i64.wrap (x5 + (1 : Int))) (x6.set x5.toNat v8))) (chk (x6.length = a0.length) (some (x4, x6)))

def laws_markStringS (K : Nat) (a0 : (List ByteArray)) (a1 : Int) : Option (Int × (List ByteArray)) :=
  laws_markStringS_l1 K a0 K a1 (0 : Int) a0

theorem ok_laws_markStringS (K : Nat) (a0 : (List ByteArray)) (a1 : Int) (o : (Int × (List ByteArray))) (h : laws_markStringS K a0 a1 = some o) : MutOK Tryd.prog 7 [(.one (.mu (sl 1 csS a0) (sl 1 csS o.2))), (.one (.ro (.int .i64 a1)))] [.one (.int .i64 o.1)] := by
  refine mutOK_of_AW 1 Tryd.func7 rfl (by kernel_rfl) (Nat.le_of_ble_eq_true (by kernel_rfl)) (by kernel_rfl) (by kernel_rfl) ?_
  intro w0 K0 v0 s0
  unfold laws_markStringS at h
  refine AW.seq ?_
  refine AW.regionA [] [0, 1] [0] (s' := ⟨[(0, (.v (.one (.arr 0)))), (1, (.v (.one (.c (.int .i64 a1)))))], [(0, (.arr true a0.length 1 (gl csS a0)))]⟩) (ob := True ∧ True) (by kernel_rfl) ⟨trivial, trivial⟩ ?_
  refine thenQ_normal ?_
  refine AW.seq ?_
  refine AW.seq ?_
  refine AW.regionA [] [0, 1, 5] [0] (s' := ⟨[(0, (.v (.one (.arr 0)))), (1, (.v (.one (.c (.int .i64 a1))))), (5, (.v (.one (.c (.int .i64 (0 : Int))))))], [(0, (.arr true a0.length 1 (gl csS a0)))]⟩) (ob := True ∧ True) (by kernel_rfl) ⟨trivial, trivial⟩ ?_
  refine thenQ_normal ?_
  refine AW.block ?_
  refine AW.loopQ (σ := Nat × Int × Int × (List ByteArray)) (fun p => ⟨[(0, (.v (.one (.arr 0)))), (1, (.v (.one (.c (.int .i64 p.2.1))))), (5, (.v (.one (.c (.int .i64 p.2.2.1)))))], [(0, (.arr true p.2.2.2.length 1 (gl csS p.2.2.2)))]⟩) (fun p => laws_markStringS_l1 K a0 p.1 p.2.1 p.2.2.1 p.2.2.2 = some o) (fun p => p.1) (K, a1, (0 : Int), a0) h ?_
  clear h
  rintro ⟨k, x4, x5, x6⟩ h
  replace h : laws_markStringS_l1 K a0 k x4 x5 x6 = some o := h
  show AW _ _ (⟨[(0, (.v (.one (.arr 0)))), (1, (.v (.one (.c (.int .i64 x4))))), (5, (.v (.one (.c (.int .i64 x5)))))], [(0, (.arr true x6.length 1 (gl csS x6)))]⟩ : St) _
  obtain _ | k := k
  · rw [laws_markStringS_l1] at h; cases h
  rw [laws_markStringS_l1] at h
  refine AW.seq ?_
  refine AW.seq ?_
  refine AW.regionA [] [0, 1, 5, 9] [0] (s' := ⟨[(0, (.v (.one (.arr 0)))), (1, (.v (.one (.c (.int .i64 x4))))), (5, (.v (.one (.c (.int .i64 x5))))), (9, (.v (.one (.c (.bool (decide (x5 < (x6.length : Int))))))))], [(0, (.arr true x6.length 1 (gl csS x6)))]⟩) (ob := True ∧ True ∧ True ∧ True ∧ True) (by kernel_rfl) ⟨trivial, trivial, trivial, trivial, trivial⟩ ?_
  refine thenQ_normal ?_
  rcases ite2_cases h with ⟨b7, h⟩ | ⟨b7, h⟩
  · refine AW.cond_t rfl b7 ?_
    refine AW.skip ?_
    refine thenQ_normal ?_
    refine AW.seq ?_
    refine AW.block ?_
    refine AW.seq ?_
    obtain ⟨v8, e9, h⟩ := bind_some h
    obtain ⟨c10, h⟩ := chk_some h
    refine AW.regionA [.no, .no, .no, .call [.one (.int .i64 x4)] [.one (.str v8)] [[.view]], .no, .set (x6.set x5.toNat v8).length (gl csS (x6.set x5.toNat v8)) ((List.range 1).map fun j => (csS v8).getD (0 + j) .nilptr)] [0, 1, 5] [0] (s' := ⟨[(0, (.v (.one (.arr 0)))), (1, (.v (.one (.c (.int .i64 x4))))), (5, (.v (.one (.c (.int .i64 x5)))))], [(0, (.arr true (x6.set x5.toNat v8).length 1 (gl csS (x6.set x5.toNat v8))))]⟩) (ob := True ∧ True ∧ True ∧ (((((.int .i64 x4) : C) = (.int .i64 x4)) ∧ True) ∧ CallOK Tryd.prog 15 [.one (.int .i64 x4)] [.one (.str v8)]) ∧ (0 ≤ x5 ∧ x5 < (x6.length : Int)) ∧ ((x6.set x5.toNat v8).length = x6.length ∧ SetOb x6.length 1 x5.toNat 0 1 (gl csS x6) (gl csS (x6.set x5.toNat v8)) ∧ ((List.range 1).map fun j => (csS v8).getD (0 + j) .nilptr) = ((List.range 1).map fun j => gl csS (x6.set x5.toNat v8) x5.toNat (0 + j)) ∧ ((((.str v8) : C) = (.str v8) ∧ True) ∧ True) ∧ (true = true → ∀ j, j < 1 → isSeq (gl csS x6 x5.toNat (0 + j)) = false ∧ isSeq (gl csS (x6.set x5.toNat v8) x5.toNat (0 + j)) = false)) ∧ True) (by kernel_rfl) ⟨trivial, trivial, trivial, ⟨⟨rfl, trivial⟩, ok_laws_markText K x4 v8 e9⟩, c10, ⟨List.length_set, gl_set, (gl_atp (lt_of_bound c10)).symm, ⟨⟨rfl, trivial⟩, trivial⟩, (fun _ j hj => match j, hj with | 0, _ => ⟨rfl, rfl⟩)⟩, trivial⟩ ?_
    refine thenQ_normal ?_
    refine AW.regionA [] [0, 1, 5] [0] (s' := ⟨[(0, (.v (.one (.arr 0)))), (1, (.v (.one (.c (.int .i64 (IntKind.i64.wrap (x4 + (1 : Int)))))))), (5, (.v (.one (.c (.int .i64 x5)))))], [(0, (.arr true (x6.set x5.toNat v8).length 1 (gl csS (x6.set x5.toNat v8))))]⟩) (ob := True ∧ True ∧ True ∧ True) (by kernel_rfl) ⟨trivial, trivial, trivial, trivial⟩ ?_
    refine blockQ_normal ?_
    refine thenQ_normal ?_
    refine AW.regionA [] [0, 1, 5] [0] (s' := ⟨[(0, (.v (.one (.arr 0)))), (1, (.v (.one (.c (.int .i64 (IntKind.i64.wrap (x4 + (1 : Int)))))))), (5, (.v (.one (.c (.int .i64 (IntKind.i64.wrap (x5 + (1 : Int))))))))], [(0, (.arr true (x6.set x5.toNat v8).length 1 (gl csS (x6.set x5.toNat v8))))]⟩) (ob := True ∧ True ∧ True ∧ True) (by kernel_rfl) ⟨trivial, trivial, trivial, trivial⟩ ?_
    exact loopQ_normal (k, (IntKind.i64.wrap (x4 + (1 : Int))), (IntKind.i64.wrap (x5 + (1 : Int))), (x6.set x5.toNat v8)) h (Nat.lt_succ_self k) (Sub.keep [0, 1, 5] [0] (by kernel_rfl) (by kernel_rfl))
  · refine AW.cond_f rfl b7 ?_
    refine AW.exit ?_
    refine thenQ_exit ?_
    refine loopQ_exit ?_
    refine blockQ_exit ?_
    refine thenQ_normal ?_
    refine AW.seq ?_
    refine AW.regionA [] [0, 1, 4] [0] (s' := ⟨[(0, (.v (.one (.arr 0)))), (1, (.v (.one (.c (.int .i64 x4))))), (4, (.v (.one (.c (.int .i64 x4)))))], [(0, (.arr true x6.length 1 (gl csS x6)))]⟩) (ob := True ∧ True ∧ True) (by kernel_rfl) ⟨trivial, trivial, trivial⟩ ?_
    refine thenQ_normal ?_
    refine AW.ret ?_
    obtain ⟨c11, h⟩ := chk_some h
    replace h := some_eq h
    subst h
    exact ⟨.inr rfl, retOK_of [(.one (.c (.int .i64 x4)))] (by kernel_rfl) ⟨⟨rfl, trivial⟩, trivial⟩ (of_decide_eq_true (by kernel_rfl)), by kernel_rfl, ⟨⟨c11, rfl, rfl⟩, trivial, trivial⟩⟩

/-! laws.heldStringS -/
def laws_heldStringS_l1 (K : Nat) (a0 : (List ByteArray)) : Nat → Int → Int → Option (Int)
  | 0, _, _ => none
  | k + 1, x3, x4 => ite2 ((decide (x4 < (a0.length : Int)))) (chk (0 ≤ x4 ∧ x4 < (a0.length : Int)) ((laws_markText K x3).bind fun v7 => ite2 ((!((a0.getD x4.toNat default).toList == v7.toList))) (some ((-1) : Int)) (laws_heldStringS_l1 K a0 k (IntKind.i64.wrap (x3 + (1 : Int))) (IntKind.i64.wrap (x4 + (1 : Int)))))) (some x3)

def laws_heldStringS (K : Nat) (a0 : (List ByteArray)) (a1 : Int) : Option (Int) :=
  laws_heldStringS_l1 K a0 K a1 (0 : Int)

theorem ok_laws_heldStringS (K : Nat) (a0 : (List ByteArray)) (a1 : Int) (o : (Int)) (h : laws_heldStringS K a0 a1 = some o) : CallOK Tryd.prog 8 [.one (sl 1 csS a0), .one (.int .i64 a1)] [.one (.int .i64 o)] := by
  refine callOK_of_AW Tryd.func8 rfl (by kernel_rfl) (Nat.le_of_ble_eq_true (by kernel_rfl)) ?_
  intro w0
  unfold laws_heldStringS at h
  refine AW.seq ?_
  refine AW.regionA [] [0, 1] [] (s' := ⟨[(0, (.v (.one (.c (sl 1 csS a0))))), (1, (.v (.one (.c (.int .i64 a1)))))], []⟩) (ob := True ∧ True) (by kernel_rfl) ⟨trivial, trivial⟩ ?_
  refine thenQ_normal ?_
  refine AW.seq ?_
  refine AW.seq ?_
  refine AW.regionA [] [0, 1, 5] [] (s' := ⟨[(0, (.v (.one (.c (sl 1 csS a0))))), (1, (.v (.one (.c (.int .i64 a1))))), (5, (.v (.one (.c (.int .i64 (0 : Int))))))], []⟩) (ob := True ∧ True) (by kernel_rfl) ⟨trivial, trivial⟩ ?_
  refine thenQ_normal ?_
  refine AW.block ?_
  refine AW.loopQ (σ := Nat × Int × Int) (fun p => ⟨[(0, (.v (.one (.c (sl 1 csS a0))))), (1, (.v (.one (.c (.int .i64 p.2.1))))), (5, (.v (.one (.c (.int .i64 p.2.2)))))], []⟩) (fun p => laws_heldStringS_l1 K a0 p.1 p.2.1 p.2.2 = some o) (fun p => p.1) (K, a1, (0 : Int)) h ?_
  clear h
  rintro ⟨k, x3, x4⟩ h
  replace h : laws_heldStringS_l1 K a0 k x3 x4 = some o := h
  show AW _ _ (⟨[(0, (.v (.one (.c (sl 1 csS a0))))), (1, (.v (.one (.c (.int .i64 x3))))), (5, (.v (.one (.c (.int .i64 x4)))))], []⟩ : St) _
  obtain _ | k := k
  · rw [laws_heldStringS_l1] at h; cases h
  rw [laws_heldStringS_l1] at h
  refine AW.seq ?_
  refine AW.seq ?_
  refine AW.regionA [] [0, 1, 5, 9] [] (s' := ⟨[(0, (.v (.one (.c (sl 1 csS a0))))), (1, (.v (.one (.c (.int .i64 x3))))), (5, (.v (.one (.c (.int .i64 x4))))), (9, (.v (.one (.c (.bool (decide (x4 < (a0.length : Int))))))))], []⟩) (ob := True ∧ True ∧ True ∧ True ∧ True) (by kernel_rfl) ⟨trivial, trivial, trivial, trivial, trivial⟩ ?_
  refine thenQ_normal ?_
  rcases ite2_cases h with ⟨b5, h⟩ | ⟨b5, h⟩
  · refine AW.cond_t rfl b5 ?_
    refine AW.skip ?_
    refine thenQ_normal ?_
    refine AW.seq ?_
    refine AW.block ?_
    refine AW.seq ?_
    refine AW.seq ?_
    obtain ⟨c6, h⟩ := chk_some h
    obtain ⟨v7, e8, h⟩ := bind_some h
    refine AW.drawnA (by kernel_rfl) 7 [.no, .no, .no, .no, .no, .call [.one (.int .i64 x3)] [.one (.str v7)] [[.view]]] [0, 1, 5, 18] [] (s' := ⟨[(0, (.v (.one (.c (sl 1 csS a0))))), (1, (.v (.one (.c (.int .i64 x3))))), (5, (.v (.one (.c (.int .i64 x4))))), (18, (.v (.one (.c (.bool (!((a0.getD x4.toNat default).toList == v7.toList)))))))], []⟩) (ob := (True ∧ True ∧ (0 ≤ x4 ∧ x4 < (a0.length : Int)) ∧ True ∧ True ∧ (((((.int .i64 x3) : C) = (.int .i64 x3)) ∧ True) ∧ CallOK Tryd.prog 15 [.one (.int .i64 x3)] [.one (.str v7)]) ∧ True ∧ True) ∧ (True)) (by kernel_rfl) ⟨⟨trivial, trivial, c6, trivial, trivial, ⟨⟨rfl, trivial⟩, ok_laws_markText K x3 v7 e8⟩, trivial, trivial⟩, trivial⟩ ?_
    refine thenQ_normal ?_
    rcases ite2_cases h with ⟨b9, h⟩ | ⟨b9, h⟩
    · refine AW.cond_t rfl b9 ?_
      refine AW.seq ?_
      refine AW.regionA [] [4] [] (s' := ⟨[(4, (.v (.one (.c (.int .i64 ((-1) : Int))))))], []⟩) (ob := True ∧ True) (by kernel_rfl) ⟨trivial, trivial⟩ ?_
      refine thenQ_normal ?_
      refine AW.ret ?_
      refine thenQ_ret ?_
      refine blockQ_ret ?_
      refine thenQ_ret ?_
      refine loopQ_ret ?_
      refine blockQ_ret ?_
      refine thenQ_ret ?_
      replace h := some_eq h
      subst h
      exact ⟨.inr rfl, retOK_of [(.one (.c (.int .i64 ((-1) : Int))))] (by kernel_rfl) ⟨⟨rfl, trivial⟩, trivial⟩ (of_decide_eq_true (by kernel_rfl))⟩
    · refine AW.cond_f rfl b9 ?_
      refine AW.skip ?_
      refine thenQ_normal ?_
      refine AW.regionA [] [0, 1, 5] [] (s' := ⟨[(0, (.v (.one (.c (sl 1 csS a0))))), (1, (.v (.one (.c (.int .i64 (IntKind.i64.wrap (x3 + (1 : Int)))))))), (5, (.v (.one (.c (.int .i64 x4)))))], []⟩) (ob := True ∧ True ∧ True ∧ True) (by kernel_rfl) ⟨trivial, trivial, trivial, trivial⟩ ?_
      refine blockQ_normal ?_
      refine thenQ_normal ?_
      refine AW.regionA [] [0, 1, 5] [] (s' := ⟨[(0, (.v (.one (.c (sl 1 csS a0))))), (1, (.v (.one (.c (.int .i64 (IntKind.i64.wrap (x3 + (1 : Int)))))))), (5, (.v (.one (.c (.int .i64 (IntKind.i64.wrap (x4 + (1 : Int))))))))], []⟩) (ob := True ∧ True ∧ True ∧ True) (by kernel_rfl) ⟨trivial, trivial, trivial, trivial⟩ ?_
      exact loopQ_normal (k, (IntKind.i64.wrap (x3 + (1 : Int))), (IntKind.i64.wrap (x4 + (1 : Int)))) h (Nat.lt_succ_self k) (Sub.keep [0, 1, 5] [] (by kernel_rfl) (by kernel_rfl))
  · refine AW.cond_f rfl b5 ?_
    refine AW.exit ?_
    refine thenQ_exit ?_
    refine loopQ_exit ?_
    refine blockQ_exit ?_
    refine thenQ_normal ?_
    refine AW.seq ?_
    refine AW.regionA [] [4] [] (s' := ⟨[(4, (.v (.one (.c (.int .i64 x3)))))], []⟩) (ob := True ∧ True ∧ True) (by kernel_rfl) ⟨trivial, trivial, trivial⟩ ?_
    refine thenQ_normal ?_
    refine AW.ret ?_
    replace h := some_eq h
    subst h
    exact ⟨.inr rfl, retOK_of [(.one (.c (.int .i64 x3)))] (by kernel_rfl) ⟨⟨rfl, trivial⟩, trivial⟩ (of_decide_eq_true (by kernel_rfl))⟩

/-! laws.FnExactRecoverJournal -/
def laws_FnExactRecoverJournal (K : Nat) (a0 : ByteArray) : Option (Bool) :=
  ite2 ((decide ((a0.size : Int) > (1048576 : Int)))) (some true) ((spec_RecoverJournal K a0).bind fun v2 => (impl_RecoverJournal K a0).bind fun v4 => (laws_eqStringS K v4.1 v2.1).bind fun v6 => (ite2 ((!v6)) (some true) (ite2 ((v4.2.1 != v2.2.1)) (some true) (some (!(v4.2.2 == v2.2.2))))).bind fun j10 => ite2 (j10) (some false) ((laws_markStringS K v4.1 (1 : Int)).bind fun v13 => chk (v13.2.length = v4.1.length) ((laws_heldStringS K v13.2 (1 : Int)).bind fun v16 => ite2 ((decide (v16 < (0 : Int)))) (some false) (ite2 ((v16 != v13.1)) (some false) ((impl_RecoverJournal K a0).bind fun v20 => (laws_eqStringS K v20.1 v2.1).bind fun v22 => (ite2 ((!v22)) (some true) (ite2 ((v20.2.1 != v2.2.1)) (some true) (some (!(v20.2.2 == v2.2.2))))).bind fun j26 => ite2 (j26) (some false) ((laws_heldStringS K v13.2 (1 : Int)).bind fun v29 => ite2 ((decide (v29 < (0 : Int)))) (some false) (ite2 ((v29 != v13.1)) (some false) (some true))))))))

theorem ok_laws_FnExactRecoverJournal (K : Nat) (a0 : ByteArray) (o : (Bool)) (h : laws_FnExactRecoverJournal K a0 = some o) : CallOK Tryd.prog 3 [.one (.str a0)] [.one (.bool o)] := by
  refine callOK_of_AW Tryd.func3 rfl (by kernel_rfl) (Nat.le_of_ble_eq_true (by kernel_rfl)) ?_
  intro w0
  unfold laws_FnExactRecoverJournal at h
  refine AW.seq ?_
  refine AW.regionA [] [0] [] (s' := ⟨[(0, (.v (.one (.c (.str a0)))))], []⟩) (ob := True ∧ True) (by kernel_rfl) ⟨trivial, trivial⟩ ?_
  refine thenQ_normal ?_
  refine AW.seq ?_
  refine AW.seq ?_
  refine AW.regionA [] [0, 16] [] (s' := ⟨[(0, (.v (.one (.c (.str a0))))), (16, (.v (.one (.c (.bool (decide ((a0.size : Int) > (1048576 : Int))))))))], []⟩) (ob := True ∧ True ∧ True ∧ True) (by kernel_rfl) ⟨trivial, trivial, trivial, trivial⟩ ?_
  refine thenQ_normal ?_
  rcases ite2_cases h with ⟨b1, h⟩ | ⟨b1, h⟩
  · refine AW.cond_t rfl b1 ?_
    refine AW.seq ?_
    refine AW.regionA [] [2] [] (s' := ⟨[(2, (.v (.one (.c (.bool true)))))], []⟩) (ob := True ∧ True) (by kernel_rfl) ⟨trivial, trivial⟩ ?_
    refine thenQ_normal ?_
    refine AW.ret ?_
    refine thenQ_ret ?_
    replace h := some_eq h
    subst h
    exact ⟨.inr rfl, retOK_of [(.one (.c (.bool true)))] (by kernel_rfl) ⟨⟨rfl, trivial⟩, trivial⟩ (of_decide_eq_true (by kernel_rfl))⟩
  · refine AW.cond_f rfl b1 ?_
    refine AW.skip ?_
    refine thenQ_normal ?_
    refine AW.seq ?_
    obtain ⟨v2, e3, h⟩ := bind_some h
    refine AW.regionA [.no, .call [.one (.str a0)] [.one (sl 1 csS v2.1), .one (.int .i64 v2.2.1), .one (.bool v2.2.2)] [[.lst 1], [.view], [.view]]] [0, 3, 4, 5] [1] (s' := ⟨[(0, (.v (.one (.c (.str a0))))), (3, (.v (.one (.lst 1 v2.1.length 1 (gl csS v2.1))))), (4, (.v (.one (.c (.int .i64 v2.2.1))))), (5, (.v (.one (.c (.bool v2.2.2)))))], [(1, (.lst v2.1.length 1 (gl csS v2.1)))]⟩) (ob := True ∧ (((((.str a0) : C) = (.str a0)) ∧ True) ∧ CallOK Tryd.prog 4 [.one (.str a0)] [.one (sl 1 csS v2.1), .one (.int .i64 v2.2.1), .one (.bool v2.2.2)]) ∧ True ∧ True ∧ True ∧ True ∧ True ∧ True ∧ True ∧ True) (by kernel_rfl) ⟨trivial, ⟨⟨rfl, trivial⟩, ok_spec_RecoverJournal K a0 v2 e3⟩, trivial, trivial, trivial, trivial, trivial, trivial, trivial, trivial⟩ ?_
    refine thenQ_normal ?_
    refine AW.seq ?_
    obtain ⟨v4, e5, h⟩ := bind_some h
    refine AW.regionA [.no, .call [.one (.str a0)] [.one (sl 1 csS v4.1), .one (.int .i64 v4.2.1), .one (.bool v4.2.2)] [[.own 2], [.view], [.view]]] [0, 3, 4, 5, 6, 7, 8] [1, 2] (s' := ⟨[(0, (.v (.one (.c (.str a0))))), (3, (.v (.one (.lst 1 v2.1.length 1 (gl csS v2.1))))), (4, (.v (.one (.c (.int .i64 v2.2.1))))), (5, (.v (.one (.c (.bool v2.2.2))))), (6, (.v (.one (.arr 2)))), (7, (.v (.one (.c (.int .i64 v4.2.1))))), (8, (.v (.one (.c (.bool v4.2.2)))))], [(1, (.lst v2.1.length 1 (gl csS v2.1))), (2, (.arr true v4.1.length 1 (gl csS v4.1)))]⟩) (ob := True ∧ (((((.str a0) : C) = (.str a0)) ∧ True) ∧ CallOK Tryd.prog 5 [.one (.str a0)] [.one (sl 1 csS v4.1), .one (.int .i64 v4.2.1), .one (.bool v4.2.2)]) ∧ True ∧ True ∧ True ∧ True ∧ True ∧ True ∧ True ∧ True) (by kernel_rfl) ⟨trivial, ⟨⟨rfl, trivial⟩, ok_impl_RecoverJournal K a0 v4 e5⟩, trivial, trivial, trivial, trivial, trivial, trivial, trivial, trivial⟩ ?_
    refine thenQ_normal ?_
    refine AW.seq ?_
    refine AW.seq ?_
    obtain ⟨v6, e7, h⟩ := bind_some h
    obtain ⟨j10, e11, h⟩ := bind_some h
    refine AW.join1 (s2 := ⟨[(0, (.v (.one (.c (.str a0))))), (3, (.v (.one (.lst 1 v2.1.length 1 (gl csS v2.1))))), (4, (.v (.one (.c (.int .i64 v2.2.1))))), (5, (.v (.one (.c (.bool v2.2.2))))), (6, (.v (.one (.arr 2)))), (42, (.v (.one (.c (.bool j10)))))], [(1, (.lst v2.1.length 1 (gl csS v2.1))), (2, (.arr true v4.1.length 1 (gl csS v4.1)))]⟩) ?_ ?_
    · rcases ite2_cases e11 with ⟨b8, e11⟩ | ⟨b8, e11⟩
      · replace e11 := some_eq e11
        subst e11
        exact AW.regionA [.no, .no, .call [.one (sl 1 csS v4.1), .one (sl 1 csS v2.1)] [.one (.bool v6)] [[.view]], .no, .dec true] [0, 3, 4, 5, 6, 42] [1, 2] (s' := ⟨[(0, (.v (.one (.c (.str a0))))), (3, (.v (.one (.lst 1 v2.1.length 1 (gl csS v2.1))))), (4, (.v (.one (.c (.int .i64 v2.2.1))))), (5, (.v (.one (.c (.bool v2.2.2))))), (6, (.v (.one (.arr 2)))), (42, (.v (.one (.c (.bool true)))))], [(1, (.lst v2.1.length 1 (gl csS v2.1))), (2, (.arr true v4.1.length 1 (gl csS v4.1)))]⟩) (ob := True ∧ True ∧ (((((sl 1 csS v4.1) : C) = (sl 1 csS v4.1)) ∧ (((sl 1 csS v2.1) : C) = (sl 1 csS v2.1)) ∧ True) ∧ CallOK Tryd.prog 6 [.one (sl 1 csS v4.1), .one (sl 1 csS v2.1)] [.one (.bool v6)]) ∧ True ∧ (True ∧ (!v6) = true) ∧ True ∧ True ∧ True ∧ True ∧ True ∧ True ∧ True ∧ True ∧ True ∧ True) (by kernel_rfl) ⟨trivial, trivial, ⟨⟨rfl, rfl, trivial⟩, ok_laws_eqStringS K v4.1 v2.1 v6 e7⟩, trivial, ⟨trivial, b8⟩, trivial, trivial, trivial, trivial, trivial, trivial, trivial, trivial, trivial, trivial⟩ ⟨rfl, rfl⟩
      · rcases ite2_cases e11 with ⟨b9, e11⟩ | ⟨b9, e11⟩
        · replace e11 := some_eq e11
          subst e11
          exact AW.regionA [.no, .no, .call [.one (sl 1 csS v4.1), .one (sl 1 csS v2.1)] [.one (.bool v6)] [[.view]], .no, .dec false, .no, .no, .no, .no, .dec true] [0, 3, 4, 5, 6, 42] [1, 2] (s' := ⟨[(0, (.v (.one (.c (.str a0))))), (3, (.v (.one (.lst 1 v2.1.length 1 (gl csS v2.1))))), (4, (.v (.one (.c (.int .i64 v2.2.1))))), (5, (.v (.one (.c (.bool v2.2.2))))), (6, (.v (.one (.arr 2)))), (42, (.v (.one (.c (.bool true)))))], [(1, (.lst v2.1.length 1 (gl csS v2.1))), (2, (.arr true v4.1.length 1 (gl csS v4.1)))]⟩) (ob := True ∧ True ∧ (((((sl 1 csS v4.1) : C) = (sl 1 csS v4.1)) ∧ (((sl 1 csS v2.1) : C) = (sl 1 csS v2.1)) ∧ True) ∧ CallOK Tryd.prog 6 [.one (sl 1 csS v4.1), .one (sl 1 csS v2.1)] [.one (.bool v6)]) ∧ True ∧ (True ∧ (!v6) = false) ∧ True ∧ True ∧ True ∧ True ∧ (True ∧ (v4.2.1 != v2.2.1) = true) ∧ True ∧ True ∧ True ∧ True ∧ True) (by kernel_rfl) ⟨trivial, trivial, ⟨⟨rfl, rfl, trivial⟩, ok_laws_eqStringS K v4.1 v2.1 v6 e7⟩, trivial, ⟨trivial, b8⟩, trivial, trivial, trivial, trivial, ⟨trivial, b9⟩, trivial, trivial, trivial, trivial, trivial⟩ ⟨rfl, rfl⟩
        · replace e11 := some_eq e11
          subst e11
          exact AW.regionA [.no, .no, .call [.one (sl 1 csS v4.1), .one (sl 1 csS v2.1)] [.one (.bool v6)] [[.view]], .no, .dec false, .no, .no, .no, .no, .dec false] [0, 3, 4, 5, 6, 42] [1, 2] (s' := ⟨[(0, (.v (.one (.c (.str a0))))), (3, (.v (.one (.lst 1 v2.1.length 1 (gl csS v2.1))))), (4, (.v (.one (.c (.int .i64 v2.2.1))))), (5, (.v (.one (.c (.bool v2.2.2))))), (6, (.v (.one (.arr 2)))), (42, (.v (.one (.c (.bool (!(v4.2.2 == v2.2.2)))))))], [(1, (.lst v2.1.length 1 (gl csS v2.1))), (2, (.arr true v4.1.length 1 (gl csS v4.1)))]⟩) (ob := True ∧ True ∧ (((((sl 1 csS v4.1) : C) = (sl 1 csS v4.1)) ∧ (((sl 1 csS v2.1) : C) = (sl 1 csS v2.1)) ∧ True) ∧ CallOK Tryd.prog 6 [.one (sl 1 csS v4.1), .one (sl 1 csS v2.1)] [.one (.bool v6)]) ∧ True ∧ (True ∧ (!v6) = false) ∧ True ∧ True ∧ True ∧ True ∧ (True ∧ (v4.2.1 != v2.2.1) = false) ∧ True ∧ True ∧ True ∧ True ∧ True) (by kernel_rfl) ⟨trivial, trivial, ⟨⟨rfl, rfl, trivial⟩, ok_laws_eqStringS K v4.1 v2.1 v6 e7⟩, trivial, ⟨trivial, b8⟩, trivial, trivial, trivial, trivial, ⟨trivial, b9⟩, trivial, trivial, trivial, trivial, trivial⟩ ⟨rfl, rfl⟩
    refine thenQ_normal ?_
    rcases ite2_cases h with ⟨b12, h⟩ | ⟨b12, h⟩
    · refine AW.cond_t rfl b12 ?_
      refine AW.seq ?_
      refine AW.regionA [] [2] [] (s' := ⟨[(2, (.v (.one (.c (.bool false)))))], []⟩) (ob := True ∧ True) (by kernel_rfl) ⟨trivial, trivial⟩ ?_
      refine thenQ_normal ?_
      refine AW.ret ?_
      refine thenQ_ret ?_
      replace h := some_eq h
      subst h
      exact ⟨.inr rfl, retOK_of [(.one (.c (.bool false)))] (by kernel_rfl) ⟨⟨rfl, trivial⟩, trivial⟩ (of_decide_eq_true (by kernel_rfl))⟩
    · refine AW.cond_f rfl b12 ?_
      refine AW.skip ?_
      refine thenQ_normal ?_
      refine AW.seq ?_
      refine AW.regionA [] [0, 3, 4, 5, 6, 9] [1, 2] (s' := ⟨[(0, (.v (.one (.c (.str a0))))), (3, (.v (.one (.lst 1 v2.1.length 1 (gl csS v2.1))))), (4, (.v (.one (.c (.int .i64 v2.2.1))))), (5, (.v (.one (.c (.bool v2.2.2))))), (6, (.v (.one (.arr 2)))), (9, (.v (.one (.c (.int .i64 (1 : Int))))))], [(1, (.lst v2.1.length 1 (gl csS v2.1))), (2, (.arr true v4.1.length 1 (gl csS v4.1)))]⟩) (ob := True ∧ True) (by kernel_rfl) ⟨trivial, trivial⟩ ?_
      refine thenQ_normal ?_
      refine AW.seq ?_
      obtain ⟨v13, e14, h⟩ := bind_some h
      obtain ⟨c15, h⟩ := chk_some h
      refine AW.regionA [.no, .no, .callM [(.one (.mu (sl 1 csS v4.1) (sl 1 csS v13.2))), .one (.ro (.int .i64 (1 : Int)))] [.one (.int .i64 v13.1)] [[.view]] none] [0, 3, 4, 5, 6, 9] [1, 2] (s' := ⟨[(0, (.v (.one (.c (.str a0))))), (3, (.v (.one (.lst 1 v2.1.length 1 (gl csS v2.1))))), (4, (.v (.one (.c (.int .i64 v2.2.1))))), (5, (.v (.one (.c (.bool v2.2.2))))), (6, (.v (.one (.arr 2)))), (9, (.v (.one (.c (.int .i64 v13.1)))))], [(1, (.lst v2.1.length 1 (gl csS v2.1))), (2, (.arr true v13.2.length 1 (gl csS v13.2)))]⟩) (ob := True ∧ True ∧ (((((sl 1 csS v4.1) : C) = (sl 1 csS v4.1) ∧ v13.2.length = v4.1.length ∧ 1 = 1 ∧ ∀ i j, i < v4.1.length → j < 1 → isSeq (gl csS v13.2 i j) = isSeq (gl csS v4.1 i j)) ∧ (((.int .i64 (1 : Int)) : C) = (.int .i64 (1 : Int))) ∧ True) ∧ MutOK Tryd.prog 7 [(.one (.mu (sl 1 csS v4.1) (sl 1 csS v13.2))), .one (.ro (.int .i64 (1 : Int)))] [.one (.int .i64 v13.1)]) ∧ True ∧ True) (by kernel_rfl) ⟨trivial, trivial, ⟨⟨⟨rfl, c15, rfl, gl_seq sqS⟩, rfl, trivial⟩, ok_laws_markStringS K v4.1 (1 : Int) v13 e14⟩, trivial, trivial⟩ ?_
      refine thenQ_normal ?_
      refine AW.seq ?_
      refine AW.regionA [] [0, 3, 4, 5, 6, 9, 10] [1, 2] (s' := ⟨[(0, (.v (.one (.c (.str a0))))), (3, (.v (.one (.lst 1 v2.1.length 1 (gl csS v2.1))))), (4, (.v (.one (.c (.int .i64 v2.2.1))))), (5, (.v (.one (.c (.bool v2.2.2))))), (6, (.v (.one (.arr 2)))), (9, (.v (.one (.c (.int .i64 v13.1))))), (10, (.v (.one (.c (.int .i64 (1 : Int))))))], [(1, (.lst v2.1.length 1 (gl csS v2.1))), (2, (.arr true v13.2.length 1 (gl csS v13.2)))]⟩) (ob := True ∧ True) (by kernel_rfl) ⟨trivial, trivial⟩ ?_
      refine thenQ_normal ?_
      refine AW.seq ?_
      obtain ⟨v16, e17, h⟩ := bind_some h
      refine AW.regionA [.no, .no, .call [.one (sl 1 csS v13.2), .one (.int .i64 (1 : Int))] [.one (.int .i64 v16)] [[.view]]] [0, 3, 4, 5, 6, 9, 10] [1, 2] (s' := ⟨[(0, (.v (.one (.c (.str a0))))), (3, (.v (.one (.lst 1 v2.1.length 1 (gl csS v2.1))))), (4, (.v (.one (.c (.int .i64 v2.2.1))))), (5, (.v (.one (.c (.bool v2.2.2))))), (6, (.v (.one (.arr 2)))), (9, (.v (.one (.c (.int .i64 v13.1))))), (10, (.v (.one (.c (.int .i64 v16)))))], [(1, (.lst v2.1.length 1 (gl csS v2.1))), (2, (.arr true v13.2.length 1 (gl csS v13.2)))]⟩) (ob := True ∧ True ∧ (((((sl 1 csS v13.2) : C) = (sl 1 csS v13.2)) ∧ (((.int .i64 (1 : Int)) : C) = (.int .i64 (1 : Int))) ∧ True) ∧ CallOK Tryd.prog 8 [.one (sl 1 csS v13.2), .one (.int .i64 (1 : Int))] [.one (.int .i64 v16)]) ∧ True ∧ True) (by kernel_rfl) ⟨trivial, trivial, ⟨⟨rfl, rfl, trivial⟩, ok_laws_heldStringS K v13.2 (1 : Int) v16 e17⟩, trivial, trivial⟩ ?_
      refine thenQ_normal ?_
      refine AW.seq ?_
      refine AW.seq ?_
      refine AW.regionA [] [0, 3, 4, 5, 6, 9, 10, 50] [1, 2] (s' := ⟨[(0, (.v (.one (.c (.str a0))))), (3, (.v (.one (.lst 1 v2.1.length 1 (gl csS v2.1))))), (4, (.v (.one (.c (.int .i64 v2.2.1))))), (5, (.v (.one (.c (.bool v2.2.2))))), (6, (.v (.one (.arr 2)))), (9, (.v (.one (.c (.int .i64 v13.1))))), (10, (.v (.one (.c (.int .i64 v16))))), (50, (.v (.one (.c (.bool (decide (v16 < (0 : Int))))))))], [(1, (.lst v2.1.length 1 (gl csS v2.1))), (2, (.arr true v13.2.length 1 (gl csS v13.2)))]⟩) (ob := True ∧ True ∧ True) (by kernel_rfl) ⟨trivial, trivial, trivial⟩ ?_
      refine thenQ_normal ?_
      rcases ite2_cases h with ⟨b18, h⟩ | ⟨b18, h⟩
      · refine AW.cond_t rfl b18 ?_
        refine AW.seq ?_
        refine AW.regionA [] [2] [] (s' := ⟨[(2, (.v (.one (.c (.bool false)))))], []⟩) (ob := True ∧ True) (by kernel_rfl) ⟨trivial, trivial⟩ ?_
        refine thenQ_normal ?_
        refine AW.ret ?_
        refine thenQ_ret ?_
        replace h := some_eq h
        subst h
        exact ⟨.inr rfl, retOK_of [(.one (.c (.bool false)))] (by kernel_rfl) ⟨⟨rfl, trivial⟩, trivial⟩ (of_decide_eq_true (by kernel_rfl))⟩
      · refine AW.cond_f rfl b18 ?_
        refine AW.skip ?_
        refine thenQ_normal ?_
        refine AW.seq ?_
        refine AW.seq ?_
        refine AW.regionA [] [0, 3, 4, 5, 6, 9, 53] [1, 2] (s' := ⟨[(0, (.v (.one (.c (.str a0))))), (3, (.v (.one (.lst 1 v2.1.length 1 (gl csS v2.1))))), (4, (.v (.one (.c (.int .i64 v2.2.1))))), (5, (.v (.one (.c (.bool v2.2.2))))), (6, (.v (.one (.arr 2)))), (9, (.v (.one (.c (.int .i64 v13.1))))), (53, (.v (.one (.c (.bool (v16 != v13.1))))))], [(1, (.lst v2.1.length 1 (gl csS v2.1))), (2, (.arr true v13.2.length 1 (gl csS v13.2)))]⟩) (ob := True ∧ True ∧ True ∧ True) (by kernel_rfl) ⟨trivial, trivial, trivial, trivial⟩ ?_
        refine thenQ_normal ?_
        rcases ite2_cases h with ⟨b19, h⟩ | ⟨b19, h⟩
        · refine AW.cond_t rfl b19 ?_
          refine AW.seq ?_
          refine AW.regionA [] [2] [] (s' := ⟨[(2, (.v (.one (.c (.bool false)))))], []⟩) (ob := True ∧ True) (by kernel_rfl) ⟨trivial, trivial⟩ ?_
          refine thenQ_normal ?_
          refine AW.ret ?_
          refine thenQ_ret ?_
          replace h := some_eq h
          subst h
          exact ⟨.inr rfl, retOK_of [(.one (.c (.bool false)))] (by kernel_rfl) ⟨⟨rfl, trivial⟩, trivial⟩ (of_decide_eq_true (by kernel_rfl))⟩
        · refine AW.cond_f rfl b19 ?_
          refine AW.skip ?_
          refine thenQ_normal ?_
          refine AW.seq ?_
          obtain ⟨v20, e21, h⟩ := bind_some h
          refine AW.regionA [.no, .call [.one (.str a0)] [.one (sl 1 csS v20.1), .one (.int .i64 v20.2.1), .one (.bool v20.2.2)] [[.lst 3], [.view], [.view]]] [3, 4, 5, 6, 9, 11, 12, 13] [1, 2, 3] (s' := ⟨[(3, (.v (.one (.lst 1 v2.1.length 1 (gl csS v2.1))))), (4, (.v (.one (.c (.int .i64 v2.2.1))))), (5, (.v (.one (.c (.bool v2.2.2))))), (6, (.v (.one (.arr 2)))), (9, (.v (.one (.c (.int .i64 v13.1))))), (11, (.v (.one (.lst 3 v20.1.length 1 (gl csS v20.1))))), (12, (.v (.one (.c (.int .i64 v20.2.1))))), (13, (.v (.one (.c (.bool v20.2.2)))))], [(1, (.lst v2.1.length 1 (gl csS v2.1))), (2, (.arr true v13.2.length 1 (gl csS v13.2))), (3, (.lst v20.1.length 1 (gl csS v20.1)))]⟩) (ob := True ∧ (((((.str a0) : C) = (.str a0)) ∧ True) ∧ CallOK Tryd.prog 5 [.one (.str a0)] [.one (sl 1 csS v20.1), .one (.int .i64 v20.2.1), .one (.bool v20.2.2)]) ∧ True ∧ True ∧ True ∧ True ∧ True ∧ True ∧ True ∧ True) (by kernel_rfl) ⟨trivial, ⟨⟨rfl, trivial⟩, ok_impl_RecoverJournal K a0 v20 e21⟩, trivial, trivial, trivial, trivial, trivial, trivial, trivial, trivial⟩ ?_
          refine thenQ_normal ?_
          refine AW.seq ?_
          refine AW.seq ?_
          obtain ⟨v22, e23, h⟩ := bind_some h
          obtain ⟨j26, e27, h⟩ := bind_some h
          refine AW.join1 (s2 := ⟨[(6, (.v (.one (.arr 2)))), (9, (.v (.one (.c (.int .i64 v13.1))))), (73, (.v (.one (.c (.bool j26)))))], [(2, (.arr true v13.2.length 1 (gl csS v13.2)))]⟩) ?_ ?_
          · rcases ite2_cases e27 with ⟨b24, e27⟩ | ⟨b24, e27⟩
            · replace e27 := some_eq e27
              subst e27
              exact AW.regionA [.no, .no, .call [.one (sl 1 csS v20.1), .one (sl 1 csS v2.1)] [.one (.bool v22)] [[.view]], .no, .dec true] [6, 9, 73] [2] (s' := ⟨[(6, (.v (.one (.arr 2)))), (9, (.v (.one (.c (.int .i64 v13.1))))), (73, (.v (.one (.c (.bool true)))))], [(2, (.arr true v13.2.length 1 (gl csS v13.2)))]⟩) (ob := True ∧ True ∧ (((((sl 1 csS v20.1) : C) = (sl 1 csS v20.1)) ∧ (((sl 1 csS v2.1) : C) = (sl 1 csS v2.1)) ∧ True) ∧ CallOK Tryd.prog 6 [.one (sl 1 csS v20.1), .one (sl 1 csS v2.1)] [.one (.bool v22)]) ∧ True ∧ (True ∧ (!v22) = true) ∧ True ∧ True ∧ True ∧ True ∧ True ∧ True ∧ True ∧ True ∧ True ∧ True) (by kernel_rfl) ⟨trivial, trivial, ⟨⟨rfl, rfl, trivial⟩, ok_laws_eqStringS K v20.1 v2.1 v22 e23⟩, trivial, ⟨trivial, b24⟩, trivial, trivial, trivial, trivial, trivial, trivial, trivial, trivial, trivial, trivial⟩ ⟨rfl, rfl⟩
            · rcases ite2_cases e27 with ⟨b25, e27⟩ | ⟨b25, e27⟩
              · replace e27 := some_eq e27
                subst e27
                exact AW.regionA [.no, .no, .call [.one (sl 1 csS v20.1), .one (sl 1 csS v2.1)] [.one (.bool v22)] [[.view]], .no, .dec false, .no, .no, .no, .no, .dec true] [6, 9, 73] [2] (s' := ⟨[(6, (.v (.one (.arr 2)))), (9, (.v (.one (.c (.int .i64 v13.1))))), (73, (.v (.one (.c (.bool true)))))], [(2, (.arr true v13.2.length 1 (gl csS v13.2)))]⟩) (ob := True ∧ True ∧ (((((sl 1 csS v20.1) : C) = (sl 1 csS v20.1)) ∧ (((sl 1 csS v2.1) : C) = (sl 1 csS v2.1)) ∧ True) ∧ CallOK Tryd.prog 6 [.one (sl 1 csS v20.1), .one (sl 1 csS v2.1)] [.one (.bool v22)]) ∧ True ∧ (True ∧ (!v22) = false) ∧ True ∧ True ∧ True ∧ True ∧ (True ∧ (v20.2.1 != v2.2.1) = true) ∧ True ∧ True ∧ True ∧ True ∧ True) (by kernel_rfl) ⟨trivial, trivial, ⟨⟨rfl, rfl, trivial⟩, ok_laws_eqStringS K v20.1 v2.1 v22 e23⟩, trivial, ⟨trivial, b24⟩, trivial, trivial, trivial, trivial, ⟨trivial, b25⟩, trivial, trivial, trivial, trivial, trivial⟩ ⟨rfl, rfl⟩
              · replace e27 := some_eq e27
                subst e27
                exact AW.regionA [.no, .no, .call [.one (sl 1 csS v20.1), .one (sl 1 csS v2.1)] [.one (.bool v22)] [[.view]], .no, .dec false, .no, .no, .no, .no, .dec false] [6, 9, 73] [2] (s' := ⟨[(6, (.v (.one (.arr 2)))), (9, (.v (.one (.c (.int .i64 v13.1))))), (73, (.v (.one (.c (.bool (!(v20.2.2 == v2.2.2)))))))], [(2, (.arr true v13.2.length 1 (gl csS v13.2)))]⟩) (ob := True ∧ True ∧ (((((sl 1 csS v20.1) : C) = (sl 1 csS v20.1)) ∧ (((sl 1 csS v2.1) : C) = (sl 1 csS v2.1)) ∧ True) ∧ CallOK Tryd.prog 6 [.one (sl 1 csS v20.1), .one (sl 1 csS v2.1)] [.one (.bool v22)]) ∧ True ∧ (True ∧ (!v22) = false) ∧ True ∧ True ∧ True ∧ True ∧ (True ∧ (v20.2.1 != v2.2.1) = false) ∧ True ∧ True ∧ True ∧ True ∧ True) (by kernel_rfl) ⟨trivial, trivial, ⟨⟨rfl, rfl, trivial⟩, ok_laws_eqStringS K v20.1 v2.1 v22 e23⟩, trivial, ⟨trivial, b24⟩, trivial, trivial, trivial, trivial, ⟨trivial, b25⟩, trivial, trivial, trivial, trivial, trivial⟩ ⟨rfl, rfl⟩
          refine thenQ_normal ?_
          rcases ite2_cases h with ⟨b28, h⟩ | ⟨b28, h⟩
          · refine AW.cond_t rfl b28 ?_
            refine AW.seq ?_
            refine AW.regionA [] [2] [] (s' := ⟨[(2, (.v (.one (.c (.bool false)))))], []⟩) (ob := True ∧ True) (by kernel_rfl) ⟨trivial, trivial⟩ ?_
            refine thenQ_normal ?_
            refine AW.ret ?_
            refine thenQ_ret ?_
            replace h := some_eq h
            subst h
            exact ⟨.inr rfl, retOK_of [(.one (.c (.bool false)))] (by kernel_rfl) ⟨⟨rfl, trivial⟩, trivial⟩ (of_decide_eq_true (by kernel_rfl))⟩
          · refine AW.cond_f rfl b28 ?_
            refine AW.skip ?_
            refine thenQ_normal ?_
            refine AW.seq ?_
            refine AW.regionA [] [6, 9, 10] [2] (s' := ⟨[(6, (.v (.one (.arr 2)))), (9, (.v (.one (.c (.int .i64 v13.1))))), (10, (.v (.one (.c (.int .i64 (1 : Int))))))], [(2, (.arr true v13.2.length 1 (gl csS v13.2)))]⟩) (ob := True ∧ True) (by kernel_rfl) ⟨trivial, trivial⟩ ?_
            refine thenQ_normal ?_
            refine AW.seq ?_
            obtain ⟨v29, e30, h⟩ := bind_some h
            refine AW.regionA [.no, .no, .call [.one (sl 1 csS v13.2), .one (.int .i64 (1 : Int))] [.one (.int .i64 v29)] [[.view]]] [9, 10] [] (s' := ⟨[(9, (.v (.one (.c (.int .i64 v13.1))))), (10, (.v (.one (.c (.int .i64 v29)))))], []⟩) (ob := True ∧ True ∧ (((((sl 1 csS v13.2) : C) = (sl 1 csS v13.2)) ∧ (((.int .i64 (1 : Int)) : C) = (.int .i64 (1 : Int))) ∧ True) ∧ CallOK Tryd.prog 8 [.one (sl 1 csS v13.2), .one (.int .i64 (1 : Int))] [.one (.int .i64 v29)]) ∧ True ∧ True) (by kernel_rfl) ⟨trivial, trivial, ⟨⟨rfl, rfl, trivial⟩, ok_laws_heldStringS K v13.2 (1 : Int) v29 e30⟩, trivial, trivial⟩ ?_
            refine thenQ_normal ?_
            refine AW.seq ?_
            refine AW.seq ?_
            refine AW.regionA [] [9, 10, 78] [] (s' := ⟨[(9, (.v (.one (.c (.int .i64 v13.1))))), (10, (.v (.one (.c (.int .i64 v29))))), (78, (.v (.one (.c (.bool (decide (v29 < (0 : Int))))))))], []⟩) (ob := True ∧ True ∧ True) (by kernel_rfl) ⟨trivial, trivial, trivial⟩ ?_
            refine thenQ_normal ?_
            rcases ite2_cases h with ⟨b31, h⟩ | ⟨b31, h⟩
            · refine AW.cond_t rfl b31 ?_
              refine AW.seq ?_
              refine AW.regionA [] [2] [] (s' := ⟨[(2, (.v (.one (.c (.bool false)))))], []⟩) (ob := True ∧ True) (by kernel_rfl) ⟨trivial, trivial⟩ ?_
              refine thenQ_normal ?_
              refine AW.ret ?_
              refine thenQ_ret ?_
              replace h := some_eq h
              subst h
              exact ⟨.inr rfl, retOK_of [(.one (.c (.bool false)))] (by kernel_rfl) ⟨⟨rfl, trivial⟩, trivial⟩ (of_decide_eq_true (by kernel_rfl))⟩
            · refine AW.cond_f rfl b31 ?_
              refine AW.skip ?_
              refine thenQ_normal ?_
              refine AW.seq ?_
              refine AW.seq ?_
              refine AW.regionA [] [81] [] (s' := ⟨[(81, (.v (.one (.c (.bool (v29 != v13.1))))))], []⟩) (ob := True ∧ True ∧ True ∧ True) (by kernel_rfl) ⟨trivial, trivial, trivial, trivial⟩ ?_
              refine thenQ_normal ?_
              rcases ite2_cases h with ⟨b32, h⟩ | ⟨b32, h⟩
              · refine AW.cond_t rfl b32 ?_
                refine AW.seq ?_
                refine AW.regionA [] [2] [] (s' := ⟨[(2, (.v (.one (.c (.bool false)))))], []⟩) (ob := True ∧ True) (by kernel_rfl) ⟨trivial, trivial⟩ ?_
                refine thenQ_normal ?_
                refine AW.ret ?_
                refine thenQ_ret ?_
                replace h := some_eq h
                subst h
                exact ⟨.inr rfl, retOK_of [(.one (.c (.bool false)))] (by kernel_rfl) ⟨⟨rfl, trivial⟩, trivial⟩ (of_decide_eq_true (by kernel_rfl))⟩
              · refine AW.cond_f rfl b32 ?_
                refine AW.skip ?_
                refine thenQ_normal ?_
                refine AW.seq ?_
                refine AW.regionA [] [2] [] (s' := ⟨[(2, (.v (.one (.c (.bool true)))))], []⟩) (ob := True ∧ True) (by kernel_rfl) ⟨trivial, trivial⟩ ?_
                refine thenQ_normal ?_
                refine AW.ret ?_
                replace h := some_eq h
                subst h
                exact ⟨.inr rfl, retOK_of [(.one (.c (.bool true)))] (by kernel_rfl) ⟨⟨rfl, trivial⟩, trivial⟩ (of_decide_eq_true (by kernel_rfl))⟩

end
end Go.Fw
