/- Functions of the program: what each computes, and that it computes just that. -/
import Derived.Test.YtdclghdojlilfadDoorFwTy
import Derived.Test.YtdclghdojlilfadDoorFwH
import Derived.Test.YtdclghdojlilfadDoorFwV
import Derived.Test.YtdclghdojlilfadDoorFwMK
import Derived.Test.YtdclghdojlilfadDoorFwLB
import Derived.Test.YtdclghdojlilfadDoorFwSh
import Derived.Test.YtdclghdojlilfadDoorFwLX
import Derived.Test.YtdclghdojlilfadDoorFwHx
import Derived.Test.YtdclghdojlilfadDoorFwLS
import Derived.Test.YtdclghdojlilfadDoorFwPx
import Derived.Test.YtdclghdojlilfadDoorFwPi
import Derived.Test.YtdclghdojlilfadDoorProg
import Derived.KernelRfl
namespace Go.Fw
open Go Go.Proofs
noncomputable section
set_option maxRecDepth 10000

/-! laws.b10Long -/
def laws_b10Long (_K : Nat) (a0 : (List Int)) (a1 : (List Int)) : Option (Bool) :=
  (ite2 ((decide ((a0.length : Int) > (1048576 : Int)))) (some true) (some (decide ((a1.length : Int) > (1048576 : Int))))).bind fun j2 => some j2

theorem ok_laws_b10Long (K : Nat) (a0 : (List Int)) (a1 : (List Int)) (o : (Bool)) (h : laws_b10Long K a0 a1 = some o) : CallOK Tryd.prog 4 [.one (sl 1 (csI .u8) a0), .one (sl 1 (csI .u8) a1)] [.one (.bool o)] := by
  refine callOK_of_AW Tryd.func4 rfl (by kernel_rfl) (Nat.le_of_ble_eq_true (by kernel_rfl)) ?_
  intro w0
  unfold laws_b10Long at h
  refine AW.sA ⟨[(0, (vc (sl 1 (csI .u8) a0))), (1, (vc (sl 1 (csI .u8) a1)))], []⟩ (Tt ∧ Tt) [] [0, 1] [] ⟨tr, tr⟩ ?_
  refine AW.seq ?_
  obtain ⟨j2, e3, h⟩ := bind_some h
  refine AW.join1 (s2 := ⟨[(4, (vB j2))], []⟩) ?_ ?_
  · rcases ite2_cases e3 with ⟨b1, e3⟩ | ⟨b1, e3⟩
    · replace e3 := some_eq e3
      subst e3
      exact AW.rA ⟨[(4, (vB true))], []⟩ (Tt ∧ T2 ((Tt ∧ (decide ((a0.length : Int) > (1048576 : Int))) = true) ∧ Tt ∧ T4 Tt)) [.no, .no, .no, .dec true] [4] [] ⟨tr, tr, tr, ⟨tr, b1⟩, tr, tr, tr, tr, tr, tr⟩ ⟨rfl, rfl⟩
    · replace e3 := some_eq e3
      subst e3
      exact AW.rA ⟨[(4, (vB (decide ((a1.length : Int) > (1048576 : Int)))))], []⟩ (Tt ∧ T2 ((Tt ∧ (decide ((a0.length : Int) > (1048576 : Int))) = false) ∧ Tt ∧ T4 Tt)) [.no, .no, .no, .dec false] [4] [] ⟨tr, tr, tr, ⟨tr, b1⟩, tr, tr, tr, tr, tr, tr⟩ ⟨rfl, rfl⟩
  refine thenQ_normal ?_
  refine AW.ret ?_
  replace h := some_eq h
  subst h
  exact ⟨.inr rfl, retOK_of [(.one (.c (.bool j2)))] (by kernel_rfl) ⟨⟨rfl, tr⟩, tr⟩ (of_decide_eq_true (by kernel_rfl))⟩

/-! laws.b10At -/
def laws_b10At (_K : Nat) (a0 : (List Int)) (a1 : Int) (a2 : Int) : Option (Int) :=
  ite2 ((decide (a2 ≤ (1 : Int)))) (some (0 : Int)) (ite2 ((decide (a1 < (a0.length : Int)))) (chk (0 ≤ a1 ∧ a1 < (a0.length : Int)) (chk (a2 ≠ 0) (some ((IntKind.i64.wrap (a0.getD a1.toNat default)).tmod a2)))) (chk (a2 ≠ 0) (some ((IntKind.i64.wrap ((IntKind.i64.wrap (a1 * (37 : Int))) + (11 : Int))).tmod a2))))

theorem ok_laws_b10At (K : Nat) (a0 : (List Int)) (a1 : Int) (a2 : Int) (o : (Int)) (h : laws_b10At K a0 a1 a2 = some o) : CallOK Tryd.prog 6 [.one (sl 1 (csI .u8) a0), .one (.int .i64 a1), .one (.int .i64 a2)] [.one (.int .i64 o)] := by
  refine callOK_of_AW Tryd.func6 rfl (by kernel_rfl) (Nat.le_of_ble_eq_true (by kernel_rfl)) ?_
  intro w0
  unfold laws_b10At at h
  refine AW.sC (Tt ∧ Tt) [] [0, 1, 2] [] ⟨tr, tr⟩ ?_
  refine AW.seq ?_
  refine AW.sA ⟨[(0, (vc (sl 1 (csI .u8) a0))), (1, (vI a1)), (2, (vI a2)), (8, (vB (decide (a2 ≤ (1 : Int)))))], []⟩ (T2 Tt) [] [0, 1, 2, 8] [] ⟨tr, tr, tr⟩ ?_
  rcases ite2_cases h with ⟨b1, h⟩ | ⟨b1, h⟩
  · refine AW.cond_t rfl b1 ?_
    refine AW.sA ⟨[(6, (vI (0 : Int)))], []⟩ (Tt ∧ Tt) [] [6] [] ⟨tr, tr⟩ ?_
    refine AW.ret ?_
    refine thenQ_ret ?_
    replace h := some_eq h
    subst h
    exact ⟨.inr rfl, retOK_of [(.one (cI (0 : Int)))] (by kernel_rfl) ⟨⟨rfl, tr⟩, tr⟩ (of_decide_eq_true (by kernel_rfl))⟩
  · refine AW.cond_f rfl b1 ?_
    refine AW.skip ?_
    refine thenQ_normal ?_
    refine AW.seq ?_
    refine AW.sA ⟨[(0, (vc (sl 1 (csI .u8) a0))), (1, (vI a1)), (2, (vI a2)), (12, (vB (decide (a1 < (a0.length : Int)))))], []⟩ (T4 Tt) [] [0, 1, 2, 12] [] ⟨tr, tr, tr, tr, tr⟩ ?_
    rcases ite2_cases h with ⟨b2, h⟩ | ⟨b2, h⟩
    · refine AW.cond_t rfl b2 ?_
      refine AW.seq ?_
      obtain ⟨c3, h⟩ := chk_some h
      obtain ⟨c4, h⟩ := chk_some h
      refine AW.tA ⟨[(6, (vI ((IntKind.i64.wrap (a0.getD a1.toNat default)).tmod a2)))], []⟩ (T2 ((0 ≤ a1 ∧ a1 < (a0.length : Int)) ∧ Tt ∧ T2 ((a2 ≠ 0) ∧ Tt ∧ Tt))) [] [6] [] ⟨tr, tr, c3, tr, tr, tr, c4, tr, tr⟩ ?_
      refine AW.ret ?_
      refine thenQ_ret ?_
      replace h := some_eq h
      subst h
      exact ⟨.inr rfl, retOK_of [(.one (cI ((IntKind.i64.wrap (a0.getD a1.toNat default)).tmod a2)))] (by kernel_rfl) ⟨⟨rfl, tr⟩, tr⟩ (of_decide_eq_true (by kernel_rfl))⟩
    · refine AW.cond_f rfl b2 ?_
      refine AW.skip ?_
      refine thenQ_normal ?_
      refine AW.seq ?_
      obtain ⟨c5, h⟩ := chk_some h
      refine AW.tA ⟨[(6, (vI ((IntKind.i64.wrap ((IntKind.i64.wrap (a1 * (37 : Int))) + (11 : Int))).tmod a2)))], []⟩ (T4 ((a2 ≠ 0) ∧ Tt ∧ Tt)) [] [6] [] ⟨tr, tr, tr, tr, c5, tr, tr⟩ ?_
      refine AW.ret ?_
      replace h := some_eq h
      subst h
      exact ⟨.inr rfl, retOK_of [(.one (cI ((IntKind.i64.wrap ((IntKind.i64.wrap (a1 * (37 : Int))) + (11 : Int))).tmod a2)))] (by kernel_rfl) ⟨⟨rfl, tr⟩, tr⟩ (of_decide_eq_true (by kernel_rfl))⟩

/-! spec.l00From -/
theorem mk_spec_l00From : MkOK Tryd.prog 13 53 [(.i64, 0), (.u64, 0)] := by
  refine mkOK_of Tryd.func13 rfl (by kernel_rfl) fun w ad n cap => ?_
  refine wp_seq (wp_region_lit (wpList_val (x := (.pointer none)) (w' := w) rfl (by kernel_rfl) (wpList_nil ?_)))
  refine wp_seq (wp_region_lit (wpList_val (x := (.slice ad n cap)) (w' := w) rfl (by kernel_rfl) (wpList_val (x := (.agg #[(.slice ad n cap), .int .i64 0, .int .u64 0])) (w' := w) rfl (by kernel_rfl) (wpList_val (x := (.pointer (some ⟨w.heap.size, 0, none⟩))) (w' := (w.alloc (.cells #[(.slice ad n cap), .int .i64 0, .int .u64 0] 53))) rfl (by kernel_rfl) (wpList_val (x := (.pointer (some ⟨w.heap.size, 0, none⟩))) (w' := (w.alloc (.cells #[(.slice ad n cap), .int .i64 0, .int .u64 0] 53))) rfl (by kernel_rfl) (wpList_nil ?_))))))
  exact wp_ret ⟨rfl, (.pointer (some ⟨w.heap.size, 0, none⟩)), (by kernel_rfl), _, rfl, rfl, rfl⟩



/-! (*spec.l00Src).next -/
def spec_l00Src_next (_K : Nat) (a0 : l00Src) : Option (Int × Int × Int) :=
  ite2 ((decide (a0.at_ < (a0.code.length : Int)))) (chk (0 ≤ a0.at_ ∧ a0.at_ < (a0.code.length : Int)) (ite2 ((decide ((IntKind.i64.wrap (a0.at_ + (1 : Int))) ≤ (a0.code.length : Int)))) (some ((IntKind.i64.wrap (a0.code.getD a0.at_.toNat default)), (IntKind.i64.wrap (a0.at_ + (1 : Int))), (IntKind.u64.wrap ((IntKind.u64.wrap ((IntKind.u64.wrap (a0.seed * (6364136223846793005 : Int))) + (IntKind.u64.wrap (IntKind.i64.wrap (a0.code.getD a0.at_.toNat default))))) + (1442695040888963407 : Int))))) (chk (0 ≤ (40 : Int)) (some ((IntKind.i64.wrap (bits .and .u64 ((IntKind.u64.wrap ((IntKind.u64.wrap ((IntKind.u64.wrap (a0.seed * (6364136223846793005 : Int))) + (IntKind.u64.wrap (IntKind.i64.wrap (a0.code.getD a0.at_.toNat default))))) + (1442695040888963407 : Int))).fdiv (2 ^ (min (40 : Int).toNat (IntKind.bits .u64)))) (255 : Int))), (IntKind.i64.wrap (a0.at_ + (1 : Int))), (IntKind.u64.wrap ((IntKind.u64.wrap ((IntKind.u64.wrap (a0.seed * (6364136223846793005 : Int))) + (IntKind.u64.wrap (IntKind.i64.wrap (a0.code.getD a0.at_.toNat default))))) + (1442695040888963407 : Int)))))))) (ite2 ((decide ((IntKind.i64.wrap (a0.at_ + (1 : Int))) ≤ (a0.code.length : Int)))) (some ((0 : Int), (IntKind.i64.wrap (a0.at_ + (1 : Int))), (IntKind.u64.wrap ((IntKind.u64.wrap ((IntKind.u64.wrap (a0.seed * (6364136223846793005 : Int))) + (IntKind.u64.wrap (0 : Int)))) + (1442695040888963407 : Int))))) (chk (0 ≤ (40 : Int)) (some ((IntKind.i64.wrap (bits .and .u64 ((IntKind.u64.wrap ((IntKind.u64.wrap ((IntKind.u64.wrap (a0.seed * (6364136223846793005 : Int))) + (IntKind.u64.wrap (0 : Int)))) + (1442695040888963407 : Int))).fdiv (2 ^ (min (40 : Int).toNat (IntKind.bits .u64)))) (255 : Int))), (IntKind.i64.wrap (a0.at_ + (1 : Int))), (IntKind.u64.wrap ((IntKind.u64.wrap ((IntKind.u64.wrap (a0.seed * (6364136223846793005 : Int))) + (IntKind.u64.wrap (0 : Int)))) + (1442695040888963407 : Int)))))))

theorem ok_spec_l00Src_next (K : Nat) (a0 : l00Src) (o : (Int × Int × Int)) (h : spec_l00Src_next K a0 = some o) : MutOK Tryd.prog 45 [(.box 3 (fun j => [true, false, false].getD j true) (fun j => (cs_l00Src a0).getD j .nilptr) (fun j => [.nilptr, (.int .i64 o.2.1), (.int .u64 o.2.2)].getD j .nilptr))] [.one (.int .i64 o.1)] := by
  refine mutOK_of_AW 1 Tryd.func45 rfl (by kernel_rfl) (Nat.le_of_ble_eq_true (by kernel_rfl)) (by kernel_rfl) (by kernel_rfl) ?_
  intro w0 K0 v0 s0
  unfold spec_l00Src_next at h
  refine AW.weak (s' := ⟨[(0, (vp 0 0))], [(0, (.box [(.fx 0 0 (sl 1 (csI .u8) a0.code)), (cI a0.at_), (.c (.int .u64 a0.seed))]))]⟩) (subUnfx 0 [1, 2] (by kernel_rfl)) ?_
  refine AW.sC (Tt ∧ Tt) [] [0] [0] ⟨tr, tr⟩ ?_
  refine AW.sA ⟨[(0, (vp 0 0)), (3, (vI (0 : Int)))], [(0, (.box [(.fx 0 0 (sl 1 (csI .u8) a0.code)), (cI a0.at_), (.c (.int .u64 a0.seed))]))]⟩ (Tt ∧ Tt) [] [0, 3] [0] ⟨tr, tr⟩ ?_
  refine AW.seq ?_
  refine AW.seq (AW.dA ⟨[(0, (vp 0 0)), (3, (vI (0 : Int))), (13, (vB (decide (a0.at_ < (a0.code.length : Int)))))], [(0, (.box [(.fx 0 0 (sl 1 (csI .u8) a0.code)), (cI a0.at_), (.c (.int .u64 a0.seed))]))]⟩ ((T2 (T4 (T4 Tt))) ∧ (Tt)) 10 [] [0, 3, 13] [0] ⟨⟨tr, tr, tr, tr, tr, tr, tr, tr, tr, tr, tr⟩, tr⟩ (thenQ_normal ?_))
  rcases ite2_cases h with ⟨b1, h⟩ | ⟨b1, h⟩
  · refine AW.cond_t rfl b1 ?_
    obtain ⟨c2, h⟩ := chk_some h
    refine AW.dA ⟨[(0, (vp 0 0)), (3, (vI (IntKind.i64.wrap (a0.code.getD a0.at_.toNat default))))], [(0, (.box [(.fx 0 0 (sl 1 (csI .u8) a0.code)), (cI a0.at_), (.c (.int .u64 a0.seed))]))]⟩ ((T4 (T4 ((0 ≤ a0.at_ ∧ a0.at_ < (a0.code.length : Int)) ∧ Tt ∧ T2 Tt))) ∧ (Tt)) 12 [] [0, 3] [0] ⟨⟨tr, tr, tr, tr, tr, tr, tr, tr, c2, tr, tr, tr, tr⟩, tr⟩ ?_
    refine thenQ_normal ?_
    refine AW.sC (T4 (T4 Tt)) [] [0, 3] [0] ⟨tr, tr, tr, tr, tr, tr, tr, tr, tr⟩ ?_
    refine AW.sA ⟨[(0, (vp 0 0)), (3, (vI (IntKind.i64.wrap (a0.code.getD a0.at_.toNat default))))], [(0, (.box [(.fx 0 0 (sl 1 (csI .u8) a0.code)), (cI (IntKind.i64.wrap (a0.at_ + (1 : Int)))), (.c (.int .u64 (IntKind.u64.wrap ((IntKind.u64.wrap ((IntKind.u64.wrap (a0.seed * (6364136223846793005 : Int))) + (IntKind.u64.wrap (IntKind.i64.wrap (a0.code.getD a0.at_.toNat default))))) + (1442695040888963407 : Int)))))]))]⟩ (Tt ∧ T4 (T4 (T4 Tt))) [] [0, 3] [0] ⟨tr, tr, tr, tr, tr, tr, tr, tr, tr, tr, tr, tr, tr, tr⟩ ?_
    refine AW.seq ?_
    refine AW.seq (AW.dA ⟨[(0, (vp 0 0)), (3, (vI (IntKind.i64.wrap (a0.code.getD a0.at_.toNat default)))), (53, (vB (decide ((IntKind.i64.wrap (a0.at_ + (1 : Int))) ≤ (a0.code.length : Int)))))], [(0, (.box [(.fx 0 0 (sl 1 (csI .u8) a0.code)), (cI (IntKind.i64.wrap (a0.at_ + (1 : Int)))), (.c (.int .u64 (IntKind.u64.wrap ((IntKind.u64.wrap ((IntKind.u64.wrap (a0.seed * (6364136223846793005 : Int))) + (IntKind.u64.wrap (IntKind.i64.wrap (a0.code.getD a0.at_.toNat default))))) + (1442695040888963407 : Int)))))]))]⟩ ((T2 (T4 (T4 Tt))) ∧ (Tt)) 10 [] [0, 3, 53] [0] ⟨⟨tr, tr, tr, tr, tr, tr, tr, tr, tr, tr, tr⟩, tr⟩ (thenQ_normal ?_))
    rcases ite2_cases h with ⟨b3, h⟩ | ⟨b3, h⟩
    · refine AW.cond_t rfl b3 ?_
      refine AW.sA ⟨[(0, (vp 0 0)), (2, (vI (IntKind.i64.wrap (a0.code.getD a0.at_.toNat default))))], [(0, (.box [(.fx 0 0 (sl 1 (csI .u8) a0.code)), (cI (IntKind.i64.wrap (a0.at_ + (1 : Int)))), (.c (.int .u64 (IntKind.u64.wrap ((IntKind.u64.wrap ((IntKind.u64.wrap (a0.seed * (6364136223846793005 : Int))) + (IntKind.u64.wrap (IntKind.i64.wrap (a0.code.getD a0.at_.toNat default))))) + (1442695040888963407 : Int)))))]))]⟩ (T2 Tt) [] [0, 2] [0] ⟨tr, tr, tr⟩ ?_
      refine AW.ret ?_
      refine thenQ_ret ?_
      replace h := some_eq h
      subst h
      exact ⟨.inr rfl, retOK_of [(.one (cI (IntKind.i64.wrap (a0.code.getD a0.at_.toNat default))))] (by kernel_rfl) ⟨⟨rfl, tr⟩, tr⟩ (of_decide_eq_true (by kernel_rfl)), by kernel_rfl, ⟨⟨rfl, ⟨⟨rfl, rfl⟩, ⟨rfl, rfl⟩, ⟨rfl, rfl⟩, tr⟩⟩, tr⟩⟩
    · refine AW.cond_f rfl b3 ?_
      refine AW.skip ?_
      refine thenQ_normal ?_
      refine AW.seq ?_
      obtain ⟨c4, h⟩ := chk_some h
      refine AW.tA ⟨[(0, (vp 0 0)), (2, (vI (IntKind.i64.wrap (bits .and .u64 ((IntKind.u64.wrap ((IntKind.u64.wrap ((IntKind.u64.wrap (a0.seed * (6364136223846793005 : Int))) + (IntKind.u64.wrap (IntKind.i64.wrap (a0.code.getD a0.at_.toNat default))))) + (1442695040888963407 : Int))).fdiv (2 ^ (min (40 : Int).toNat (IntKind.bits .u64)))) (255 : Int)))))], [(0, (.box [(.fx 0 0 (sl 1 (csI .u8) a0.code)), (cI (IntKind.i64.wrap (a0.at_ + (1 : Int)))), (.c (.int .u64 (IntKind.u64.wrap ((IntKind.u64.wrap ((IntKind.u64.wrap (a0.seed * (6364136223846793005 : Int))) + (IntKind.u64.wrap (IntKind.i64.wrap (a0.code.getD a0.at_.toNat default))))) + (1442695040888963407 : Int)))))]))]⟩ (T4 ((0 ≤ (40 : Int)) ∧ Tt ∧ T2 Tt)) [] [0, 2] [0] ⟨tr, tr, tr, tr, c4, tr, tr, tr, tr⟩ ?_
      refine AW.ret ?_
      replace h := some_eq h
      subst h
      exact ⟨.inr rfl, retOK_of [(.one (cI (IntKind.i64.wrap (bits .and .u64 ((IntKind.u64.wrap ((IntKind.u64.wrap ((IntKind.u64.wrap (a0.seed * (6364136223846793005 : Int))) + (IntKind.u64.wrap (IntKind.i64.wrap (a0.code.getD a0.at_.toNat default))))) + (1442695040888963407 : Int))).fdiv (2 ^ (min (40 : Int).toNat (IntKind.bits .u64)))) (255 : Int)))))] (by kernel_rfl) ⟨⟨rfl, tr⟩, tr⟩ (of_decide_eq_true (by kernel_rfl)), by kernel_rfl, ⟨⟨rfl, ⟨⟨rfl, rfl⟩, ⟨rfl, rfl⟩, ⟨rfl, rfl⟩, tr⟩⟩, tr⟩⟩
  · refine AW.cond_f rfl b1 ?_
    refine AW.skip ?_
    refine thenQ_normal ?_
    refine AW.sC (T4 (T4 Tt)) [] [0, 3] [0] ⟨tr, tr, tr, tr, tr, tr, tr, tr, tr⟩ ?_
    refine AW.sA ⟨[(0, (vp 0 0)), (3, (vI (0 : Int)))], [(0, (.box [(.fx 0 0 (sl 1 (csI .u8) a0.code)), (cI (IntKind.i64.wrap (a0.at_ + (1 : Int)))), (.c (.int .u64 (IntKind.u64.wrap ((IntKind.u64.wrap ((IntKind.u64.wrap (a0.seed * (6364136223846793005 : Int))) + (IntKind.u64.wrap (0 : Int)))) + (1442695040888963407 : Int)))))]))]⟩ (Tt ∧ T4 (T4 (T4 Tt))) [] [0, 3] [0] ⟨tr, tr, tr, tr, tr, tr, tr, tr, tr, tr, tr, tr, tr, tr⟩ ?_
    refine AW.seq ?_
    refine AW.seq (AW.dA ⟨[(0, (vp 0 0)), (3, (vI (0 : Int))), (53, (vB (decide ((IntKind.i64.wrap (a0.at_ + (1 : Int))) ≤ (a0.code.length : Int)))))], [(0, (.box [(.fx 0 0 (sl 1 (csI .u8) a0.code)), (cI (IntKind.i64.wrap (a0.at_ + (1 : Int)))), (.c (.int .u64 (IntKind.u64.wrap ((IntKind.u64.wrap ((IntKind.u64.wrap (a0.seed * (6364136223846793005 : Int))) + (IntKind.u64.wrap (0 : Int)))) + (1442695040888963407 : Int)))))]))]⟩ ((T2 (T4 (T4 Tt))) ∧ (Tt)) 10 [] [0, 3, 53] [0] ⟨⟨tr, tr, tr, tr, tr, tr, tr, tr, tr, tr, tr⟩, tr⟩ (thenQ_normal ?_))
    rcases ite2_cases h with ⟨b5, h⟩ | ⟨b5, h⟩
    · refine AW.cond_t rfl b5 ?_
      refine AW.sA ⟨[(0, (vp 0 0)), (2, (vI (0 : Int)))], [(0, (.box [(.fx 0 0 (sl 1 (csI .u8) a0.code)), (cI (IntKind.i64.wrap (a0.at_ + (1 : Int)))), (.c (.int .u64 (IntKind.u64.wrap ((IntKind.u64.wrap ((IntKind.u64.wrap (a0.seed * (6364136223846793005 : Int))) + (IntKind.u64.wrap (0 : Int)))) + (1442695040888963407 : Int)))))]))]⟩ (T2 Tt) [] [0, 2] [0] ⟨tr, tr, tr⟩ ?_
      refine AW.ret ?_
      refine thenQ_ret ?_
      replace h := some_eq h
      subst h
      exact ⟨.inr rfl, retOK_of [(.one (cI (0 : Int)))] (by kernel_rfl) ⟨⟨rfl, tr⟩, tr⟩ (of_decide_eq_true (by kernel_rfl)), by kernel_rfl, ⟨⟨rfl, ⟨⟨rfl, rfl⟩, ⟨rfl, rfl⟩, ⟨rfl, rfl⟩, tr⟩⟩, tr⟩⟩
    · refine AW.cond_f rfl b5 ?_
      refine AW.skip ?_
      refine thenQ_normal ?_
      refine AW.seq ?_
      obtain ⟨c6, h⟩ := chk_some h
      refine AW.tA ⟨[(0, (vp 0 0)), (2, (vI (IntKind.i64.wrap (bits .and .u64 ((IntKind.u64.wrap ((IntKind.u64.wrap ((IntKind.u64.wrap (a0.seed * (6364136223846793005 : Int))) + (IntKind.u64.wrap (0 : Int)))) + (1442695040888963407 : Int))).fdiv (2 ^ (min (40 : Int).toNat (IntKind.bits .u64)))) (255 : Int)))))], [(0, (.box [(.fx 0 0 (sl 1 (csI .u8) a0.code)), (cI (IntKind.i64.wrap (a0.at_ + (1 : Int)))), (.c (.int .u64 (IntKind.u64.wrap ((IntKind.u64.wrap ((IntKind.u64.wrap (a0.seed * (6364136223846793005 : Int))) + (IntKind.u64.wrap (0 : Int)))) + (1442695040888963407 : Int)))))]))]⟩ (T4 ((0 ≤ (40 : Int)) ∧ Tt ∧ T2 Tt)) [] [0, 2] [0] ⟨tr, tr, tr, tr, c6, tr, tr, tr, tr⟩ ?_
      refine AW.ret ?_
      replace h := some_eq h
      subst h
      exact ⟨.inr rfl, retOK_of [(.one (cI (IntKind.i64.wrap (bits .and .u64 ((IntKind.u64.wrap ((IntKind.u64.wrap ((IntKind.u64.wrap (a0.seed * (6364136223846793005 : Int))) + (IntKind.u64.wrap (0 : Int)))) + (1442695040888963407 : Int))).fdiv (2 ^ (min (40 : Int).toNat (IntKind.bits .u64)))) (255 : Int)))))] (by kernel_rfl) ⟨⟨rfl, tr⟩, tr⟩ (of_decide_eq_true (by kernel_rfl)), by kernel_rfl, ⟨⟨rfl, ⟨⟨rfl, rfl⟩, ⟨rfl, rfl⟩, ⟨rfl, rfl⟩, tr⟩⟩, tr⟩⟩

/-! (*spec.l00Src).pick -/
def spec_l00Src_pick (K : Nat) (a0 : l00Src) (a1 : Int) : Option (Int × Int × Int) :=
  ite2 ((decide (a1 ≤ (1 : Int)))) (some ((0 : Int), a0.at_, a0.seed)) ((spec_l00Src_next K a0).bind fun v2 => ite2 ((decide (a1 > (200 : Int)))) ((spec_l00Src_next K (l00Src.mk a0.code v2.2.1 v2.2.2)).bind fun v5 => chk (a1 ≠ 0) (some (((IntKind.i64.wrap ((IntKind.i64.wrap (v2.1 * (256 : Int))) + v5.1)).tmod a1), v5.2.1, v5.2.2))) (chk (a1 ≠ 0) (some ((v2.1.tmod a1), v2.2.1, v2.2.2))))

theorem ok_spec_l00Src_pick (K : Nat) (a0 : l00Src) (a1 : Int) (o : (Int × Int × Int)) (h : spec_l00Src_pick K a0 a1 = some o) : MutOK Tryd.prog 33 [(.box 3 (fun j => [true, false, false].getD j true) (fun j => (cs_l00Src a0).getD j .nilptr) (fun j => [.nilptr, (.int .i64 o.2.1), (.int .u64 o.2.2)].getD j .nilptr)), (.one (.ro (.int .i64 a1)))] [.one (.int .i64 o.1)] := by
  refine mutOK_of_AW 1 Tryd.func33 rfl (by kernel_rfl) (Nat.le_of_ble_eq_true (by kernel_rfl)) (by kernel_rfl) (by kernel_rfl) ?_
  intro w0 K0 v0 s0
  unfold spec_l00Src_pick at h
  refine AW.weak (s' := ⟨[(0, (vp 0 0)), (1, (vI a1))], [(0, (.box [(.fx 0 0 (sl 1 (csI .u8) a0.code)), (cI a0.at_), (.c (.int .u64 a0.seed))]))]⟩) (subUnfx 0 [1, 2] (by kernel_rfl)) ?_
  refine AW.sC (Tt ∧ Tt) [] [0, 1] [0] ⟨tr, tr⟩ ?_
  refine AW.seq ?_
  refine AW.sA ⟨[(0, (vp 0 0)), (1, (vI a1)), (7, (vB (decide (a1 ≤ (1 : Int)))))], [(0, (.box [(.fx 0 0 (sl 1 (csI .u8) a0.code)), (cI a0.at_), (.c (.int .u64 a0.seed))]))]⟩ (T2 Tt) [] [0, 1, 7] [0] ⟨tr, tr, tr⟩ ?_
  rcases ite2_cases h with ⟨b1, h⟩ | ⟨b1, h⟩
  · refine AW.cond_t rfl b1 ?_
    refine AW.sA ⟨[(0, (vp 0 0)), (1, (vI a1)), (4, (vI (0 : Int)))], [(0, (.box [(.fx 0 0 (sl 1 (csI .u8) a0.code)), (cI a0.at_), (.c (.int .u64 a0.seed))]))]⟩ (Tt ∧ Tt) [] [0, 1, 4] [0] ⟨tr, tr⟩ ?_
    refine AW.ret ?_
    refine thenQ_ret ?_
    replace h := some_eq h
    subst h
    exact ⟨.inr rfl, retOK_of [(.one (cI (0 : Int)))] (by kernel_rfl) ⟨⟨rfl, tr⟩, tr⟩ (of_decide_eq_true (by kernel_rfl)), by kernel_rfl, ⟨⟨rfl, ⟨⟨rfl, rfl⟩, ⟨rfl, rfl⟩, ⟨rfl, rfl⟩, tr⟩⟩, tr, tr⟩⟩
  · refine AW.cond_f rfl b1 ?_
    refine AW.skip ?_
    refine thenQ_normal ?_
    refine AW.seq ?_
    obtain ⟨v2, e3, h⟩ := bind_some h
    refine AW.tC (Tt ∧ ((((Eqc (sl 1 (csI .u8) a0.code)) ∧ (eI a0.at_) ∧ (Eqc (.int .u64 a0.seed)) ∧ Tt) ∧ Tt) ∧ MutOK Tryd.prog 45 [(.box 3 (fun j => [true, false, false].getD j true) (fun j => (cs_l00Src a0).getD j .nilptr) (fun j => [.nilptr, (.int .i64 v2.2.1), (.int .u64 v2.2.2)].getD j .nilptr))] [.one (.int .i64 v2.1)]) ∧ Tt ∧ Tt) [.no, .callM [(.box 3 (fun j => [true, false, false].getD j true) (fun j => (cs_l00Src a0).getD j .nilptr) (fun j => [.nilptr, (.int .i64 v2.2.1), (.int .u64 v2.2.2)].getD j .nilptr))] [.one (.int .i64 v2.1)] [[.view]] none] [0, 1, 5] [0] ⟨tr, ⟨⟨⟨rfl, rfl, rfl, tr⟩, tr⟩, ok_spec_l00Src_next K a0 v2 e3⟩, tr, tr⟩ ?_
    refine AW.seq ?_
    refine AW.sA ⟨[(0, (vp 0 0)), (1, (vI a1)), (5, (vI v2.1)), (11, (vB (decide (a1 > (200 : Int)))))], [(0, (.box [(.fx 0 0 (sl 1 (csI .u8) a0.code)), (cI v2.2.1), (.c (.int .u64 v2.2.2))]))]⟩ (T2 Tt) [] [0, 1, 5, 11] [0] ⟨tr, tr, tr⟩ ?_
    rcases ite2_cases h with ⟨b4, h⟩ | ⟨b4, h⟩
    · refine AW.cond_t rfl b4 ?_
      obtain ⟨v5, e6, h⟩ := bind_some h
      refine AW.tC (Tt ∧ T2 (((((Eqc (sl 1 (csI .u8) a0.code)) ∧ (eI v2.2.1) ∧ (Eqc (.int .u64 v2.2.2)) ∧ Tt) ∧ Tt) ∧ MutOK Tryd.prog 45 [(.box 3 (fun j => [true, false, false].getD j true) (fun j => (cs_l00Src (l00Src.mk a0.code v2.2.1 v2.2.2)).getD j .nilptr) (fun j => [.nilptr, (.int .i64 v5.2.1), (.int .u64 v5.2.2)].getD j .nilptr))] [.one (.int .i64 v5.1)]) ∧ T2 Tt)) [.no, .no, .no, .callM [(.box 3 (fun j => [true, false, false].getD j true) (fun j => (cs_l00Src (l00Src.mk a0.code v2.2.1 v2.2.2)).getD j .nilptr) (fun j => [.nilptr, (.int .i64 v5.2.1), (.int .u64 v5.2.2)].getD j .nilptr))] [.one (.int .i64 v5.1)] [[.view]] none] [0, 1, 5] [0] ⟨tr, tr, tr, ⟨⟨⟨rfl, rfl, rfl, tr⟩, tr⟩, ok_spec_l00Src_next K (l00Src.mk a0.code v2.2.1 v2.2.2) v5 e6⟩, tr, tr, tr⟩ ?_
      refine AW.seq ?_
      obtain ⟨c7, h⟩ := chk_some h
      refine AW.tA ⟨[(0, (vp 0 0)), (1, (vI a1)), (4, (vI ((IntKind.i64.wrap ((IntKind.i64.wrap (v2.1 * (256 : Int))) + v5.1)).tmod a1)))], [(0, (.box [(.fx 0 0 (sl 1 (csI .u8) a0.code)), (cI v5.2.1), (.c (.int .u64 v5.2.2))]))]⟩ (T2 ((a1 ≠ 0) ∧ Tt ∧ Tt)) [] [0, 1, 4] [0] ⟨tr, tr, c7, tr, tr⟩ ?_
      refine AW.ret ?_
      replace h := some_eq h
      subst h
      exact ⟨.inr rfl, retOK_of [(.one (cI ((IntKind.i64.wrap ((IntKind.i64.wrap (v2.1 * (256 : Int))) + v5.1)).tmod a1)))] (by kernel_rfl) ⟨⟨rfl, tr⟩, tr⟩ (of_decide_eq_true (by kernel_rfl)), by kernel_rfl, ⟨⟨rfl, ⟨⟨rfl, rfl⟩, ⟨rfl, rfl⟩, ⟨rfl, rfl⟩, tr⟩⟩, tr, tr⟩⟩
    · refine AW.cond_f rfl b4 ?_
      refine AW.skip ?_
      refine thenQ_normal ?_
      refine AW.seq ?_
      obtain ⟨c8, h⟩ := chk_some h
      refine AW.tA ⟨[(0, (vp 0 0)), (1, (vI a1)), (4, (vI (v2.1.tmod a1)))], [(0, (.box [(.fx 0 0 (sl 1 (csI .u8) a0.code)), (cI v2.2.1), (.c (.int .u64 v2.2.2))]))]⟩ (T2 ((a1 ≠ 0) ∧ Tt ∧ Tt)) [] [0, 1, 4] [0] ⟨tr, tr, c8, tr, tr⟩ ?_
      refine AW.ret ?_
      replace h := some_eq h
      subst h
      exact ⟨.inr rfl, retOK_of [(.one (cI (v2.1.tmod a1)))] (by kernel_rfl) ⟨⟨rfl, tr⟩, tr⟩ (of_decide_eq_true (by kernel_rfl)), by kernel_rfl, ⟨⟨rfl, ⟨⟨rfl, rfl⟩, ⟨rfl, rfl⟩, ⟨rfl, rfl⟩, tr⟩⟩, tr, tr⟩⟩

/-! (*spec.l00Src).one -/
def spec_l00Src_one (K : Nat) (a0 : l00Src) (a1 : Int) : Option (Bool × Int × Int) :=
  (spec_l00Src_pick K a0 a1).bind fun v1 => some ((v1.1 == (0 : Int)), v1.2.1, v1.2.2)

theorem ok_spec_l00Src_one (K : Nat) (a0 : l00Src) (a1 : Int) (o : (Bool × Int × Int)) (h : spec_l00Src_one K a0 a1 = some o) : MutOK Tryd.prog 22 [(.box 3 (fun j => [true, false, false].getD j true) (fun j => (cs_l00Src a0).getD j .nilptr) (fun j => [.nilptr, (.int .i64 o.2.1), (.int .u64 o.2.2)].getD j .nilptr)), (.one (.ro (.int .i64 a1)))] [.one (.bool o.1)] := by
  refine mutOK_of_AW 1 Tryd.func22 rfl (by kernel_rfl) (Nat.le_of_ble_eq_true (by kernel_rfl)) (by kernel_rfl) (by kernel_rfl) ?_
  intro w0 K0 v0 s0
  unfold spec_l00Src_one at h
  refine AW.weak (s' := ⟨[(0, (vp 0 0)), (1, (vI a1))], [(0, (.box [(.fx 0 0 (sl 1 (csI .u8) a0.code)), (cI a0.at_), (.c (.int .u64 a0.seed))]))]⟩) (subUnfx 0 [1, 2] (by kernel_rfl)) ?_
  refine AW.sC (Tt ∧ Tt) [] [0, 1] [0] ⟨tr, tr⟩ ?_
  refine AW.seq ?_
  obtain ⟨v1, e2, h⟩ := bind_some h
  refine AW.tA ⟨[(0, (vp 0 0)), (1, (vI a1)), (4, (vB (v1.1 == (0 : Int))))], [(0, (.box [(.fx 0 0 (sl 1 (csI .u8) a0.code)), (cI v1.2.1), (.c (.int .u64 v1.2.2))]))]⟩ (T2 (((((Eqc (sl 1 (csI .u8) a0.code)) ∧ (eI a0.at_) ∧ (Eqc (.int .u64 a0.seed)) ∧ Tt) ∧ (eI a1) ∧ Tt) ∧ MutOK Tryd.prog 33 [(.box 3 (fun j => [true, false, false].getD j true) (fun j => (cs_l00Src a0).getD j .nilptr) (fun j => [.nilptr, (.int .i64 v1.2.1), (.int .u64 v1.2.2)].getD j .nilptr)), .one (.ro (.int .i64 a1))] [.one (.int .i64 v1.1)]) ∧ T2 Tt)) [.no, .no, .callM [(.box 3 (fun j => [true, false, false].getD j true) (fun j => (cs_l00Src a0).getD j .nilptr) (fun j => [.nilptr, (.int .i64 v1.2.1), (.int .u64 v1.2.2)].getD j .nilptr)), .one (.ro (.int .i64 a1))] [.one (.int .i64 v1.1)] [[.view]] none] [0, 1, 4] [0] ⟨tr, tr, ⟨⟨⟨rfl, rfl, rfl, tr⟩, rfl, tr⟩, ok_spec_l00Src_pick K a0 a1 v1 e2⟩, tr, tr, tr⟩ ?_
  refine AW.ret ?_
  replace h := some_eq h
  subst h
  exact ⟨.inr rfl, retOK_of [(.one (.c (.bool (v1.1 == (0 : Int)))))] (by kernel_rfl) ⟨⟨rfl, tr⟩, tr⟩ (of_decide_eq_true (by kernel_rfl)), by kernel_rfl, ⟨⟨rfl, ⟨⟨rfl, rfl⟩, ⟨rfl, rfl⟩, ⟨rfl, rfl⟩, tr⟩⟩, tr, tr⟩⟩

/-! spec.l01DrawPlain -/
def spec_l01DrawPlain (K : Nat) (a0 : l00Src) : Option (F32 × Int × Int) :=
  (spec_l00Src_pick K a0 (129 : Int)).bind fun v1 => (spec_l00Src_one K (l00Src.mk a0.code v1.2.1 v1.2.2) (4 : Int)).bind fun v3 => ite2 (v3.1) (some (((Fl.ofInt .f32 (IntKind.i64.wrap (v1.1 - (64 : Int)))).div (Fl.mk (k := .f32) 1088421888 (by decide))), v3.2.1, v3.2.2)) (some (((Fl.ofInt .f32 (IntKind.i64.wrap (v1.1 - (64 : Int)))).div (Fl.mk (k := .f32) 1098907648 (by decide))), v3.2.1, v3.2.2))

theorem ok_spec_l01DrawPlain (K : Nat) (a0 : l00Src) (o : (F32 × Int × Int)) (h : spec_l01DrawPlain K a0 = some o) : MutOK Tryd.prog 24 [(.box 3 (fun j => [true, false, false].getD j true) (fun j => (cs_l00Src a0).getD j .nilptr) (fun j => [.nilptr, (.int .i64 o.2.1), (.int .u64 o.2.2)].getD j .nilptr))] [.one (.flt .f32 o.1.bits)] := by
  refine mutOK_of_AW 1 Tryd.func24 rfl (by kernel_rfl) (Nat.le_of_ble_eq_true (by kernel_rfl)) (by kernel_rfl) (by kernel_rfl) ?_
  intro w0 K0 v0 s0
  unfold spec_l01DrawPlain at h
  refine AW.weak (s' := ⟨[(0, (vp 0 0))], [(0, (.box [(.fx 0 0 (sl 1 (csI .u8) a0.code)), (cI a0.at_), (.c (.int .u64 a0.seed))]))]⟩) (subUnfx 0 [1, 2] (by kernel_rfl)) ?_
  refine AW.sC (Tt ∧ Tt) [] [0] [0] ⟨tr, tr⟩ ?_
  refine AW.seq ?_
  obtain ⟨v1, e2, h⟩ := bind_some h
  refine AW.tC (Tt ∧ ((((Eqc (sl 1 (csI .u8) a0.code)) ∧ (eI a0.at_) ∧ (Eqc (.int .u64 a0.seed)) ∧ Tt) ∧ (eI (129 : Int)) ∧ Tt) ∧ MutOK Tryd.prog 33 [(.box 3 (fun j => [true, false, false].getD j true) (fun j => (cs_l00Src a0).getD j .nilptr) (fun j => [.nilptr, (.int .i64 v1.2.1), (.int .u64 v1.2.2)].getD j .nilptr)), .one (.ro (.int .i64 (129 : Int)))] [.one (.int .i64 v1.1)]) ∧ T2 Tt) [.no, .callM [(.box 3 (fun j => [true, false, false].getD j true) (fun j => (cs_l00Src a0).getD j .nilptr) (fun j => [.nilptr, (.int .i64 v1.2.1), (.int .u64 v1.2.2)].getD j .nilptr)), .one (.ro (.int .i64 (129 : Int)))] [.one (.int .i64 v1.1)] [[.view]] none] [0, 3] [0] ⟨tr, ⟨⟨⟨rfl, rfl, rfl, tr⟩, rfl, tr⟩, ok_spec_l00Src_pick K a0 (129 : Int) v1 e2⟩, tr, tr, tr⟩ ?_
  refine AW.seq ?_
  refine AW.seq ?_
  obtain ⟨v3, e4, h⟩ := bind_some h
  refine AW.tA ⟨[(0, (vp 0 0)), (3, (vI (IntKind.i64.wrap (v1.1 - (64 : Int))))), (8, (vB v3.1))], [(0, (.box [(.fx 0 0 (sl 1 (csI .u8) a0.code)), (cI v3.2.1), (.c (.int .u64 v3.2.2))]))]⟩ (Tt ∧ ((((Eqc (sl 1 (csI .u8) a0.code)) ∧ (eI v1.2.1) ∧ (Eqc (.int .u64 v1.2.2)) ∧ Tt) ∧ (eI (4 : Int)) ∧ Tt) ∧ MutOK Tryd.prog 22 [(.box 3 (fun j => [true, false, false].getD j true) (fun j => (cs_l00Src (l00Src.mk a0.code v1.2.1 v1.2.2)).getD j .nilptr) (fun j => [.nilptr, (.int .i64 v3.2.1), (.int .u64 v3.2.2)].getD j .nilptr)), .one (.ro (.int .i64 (4 : Int)))] [.one (.bool v3.1)]) ∧ Tt) [.no, .callM [(.box 3 (fun j => [true, false, false].getD j true) (fun j => (cs_l00Src (l00Src.mk a0.code v1.2.1 v1.2.2)).getD j .nilptr) (fun j => [.nilptr, (.int .i64 v3.2.1), (.int .u64 v3.2.2)].getD j .nilptr)), .one (.ro (.int .i64 (4 : Int)))] [.one (.bool v3.1)] [[.view]] none] [0, 3, 8] [0] ⟨tr, ⟨⟨⟨rfl, rfl, rfl, tr⟩, rfl, tr⟩, ok_spec_l00Src_one K (l00Src.mk a0.code v1.2.1 v1.2.2) (4 : Int) v3 e4⟩, tr⟩ ?_
  rcases ite2_cases h with ⟨b5, h⟩ | ⟨b5, h⟩
  · refine AW.cond_t rfl b5 ?_
    refine AW.sA ⟨[(0, (vp 0 0)), (2, (vc (.flt .f32 ((Fl.ofInt .f32 (IntKind.i64.wrap (v1.1 - (64 : Int)))).div (Fl.mk (k := .f32) 1088421888 (by decide))).bits)))], [(0, (.box [(.fx 0 0 (sl 1 (csI .u8) a0.code)), (cI v3.2.1), (.c (.int .u64 v3.2.2))]))]⟩ (T4 Tt) [] [0, 2] [0] ⟨tr, tr, tr, tr, tr⟩ ?_
    refine AW.ret ?_
    refine thenQ_ret ?_
    replace h := some_eq h
    subst h
    exact ⟨.inr rfl, retOK_of [(.one (cF ((Fl.ofInt .f32 (IntKind.i64.wrap (v1.1 - (64 : Int)))).div (Fl.mk (k := .f32) 1088421888 (by decide)))))] (by kernel_rfl) ⟨⟨rfl, tr⟩, tr⟩ (of_decide_eq_true (by kernel_rfl)), by kernel_rfl, ⟨⟨rfl, ⟨⟨rfl, rfl⟩, ⟨rfl, rfl⟩, ⟨rfl, rfl⟩, tr⟩⟩, tr⟩⟩
  · refine AW.cond_f rfl b5 ?_
    refine AW.skip ?_
    refine thenQ_normal ?_
    refine AW.sA ⟨[(0, (vp 0 0)), (2, (vc (.flt .f32 ((Fl.ofInt .f32 (IntKind.i64.wrap (v1.1 - (64 : Int)))).div (Fl.mk (k := .f32) 1098907648 (by decide))).bits)))], [(0, (.box [(.fx 0 0 (sl 1 (csI .u8) a0.code)), (cI v3.2.1), (.c (.int .u64 v3.2.2))]))]⟩ (T4 Tt) [] [0, 2] [0] ⟨tr, tr, tr, tr, tr⟩ ?_
    refine AW.ret ?_
    replace h := some_eq h
    subst h
    exact ⟨.inr rfl, retOK_of [(.one (cF ((Fl.ofInt .f32 (IntKind.i64.wrap (v1.1 - (64 : Int)))).div (Fl.mk (k := .f32) 1098907648 (by decide)))))] (by kernel_rfl) ⟨⟨rfl, tr⟩, tr⟩ (of_decide_eq_true (by kernel_rfl)), by kernel_rfl, ⟨⟨rfl, ⟨⟨rfl, rfl⟩, ⟨rfl, rfl⟩, ⟨rfl, rfl⟩, tr⟩⟩, tr⟩⟩

/-! (*spec.l00Src).among -/
def spec_l00Src_among (K : Nat) (a0 : l00Src) (a1 : (List Int)) : Option (Int × Int × Int) :=
  (spec_l00Src_pick K a0 (a1.length : Int)).bind fun v1 => chk (0 ≤ v1.1 ∧ v1.1 < (a1.length : Int)) (some ((a1.getD v1.1.toNat default), v1.2.1, v1.2.2))

theorem ok_spec_l00Src_among (K : Nat) (a0 : l00Src) (a1 : (List Int)) (o : (Int × Int × Int)) (h : spec_l00Src_among K a0 a1 = some o) : MutOK Tryd.prog 35 [(.box 3 (fun j => [true, false, false].getD j true) (fun j => (cs_l00Src a0).getD j .nilptr) (fun j => [.nilptr, (.int .i64 o.2.1), (.int .u64 o.2.2)].getD j .nilptr)), (.one (.ro (sl 1 (csI .i64) a1)))] [.one (.int .i64 o.1)] := by
  refine mutOK_of_AW 1 Tryd.func35 rfl (by kernel_rfl) (Nat.le_of_ble_eq_true (by kernel_rfl)) (by kernel_rfl) (by kernel_rfl) ?_
  intro w0 K0 v0 s0
  unfold spec_l00Src_among at h
  refine AW.weak (s' := ⟨[(0, (vp 0 0)), (1, (vc (sl 1 (csI .i64) a1)))], [(0, (.box [(.fx 0 0 (sl 1 (csI .u8) a0.code)), (cI a0.at_), (.c (.int .u64 a0.seed))]))]⟩) (subUnfx 0 [1, 2] (by kernel_rfl)) ?_
  refine AW.sC (Tt ∧ Tt) [] [0, 1] [0] ⟨tr, tr⟩ ?_
  refine AW.seq ?_
  obtain ⟨v1, e2, h⟩ := bind_some h
  obtain ⟨c3, h⟩ := chk_some h
  refine AW.tA ⟨[(0, (vp 0 0)), (1, (vc (sl 1 (csI .i64) a1))), (4, (vI (a1.getD v1.1.toNat default)))], [(0, (.box [(.fx 0 0 (sl 1 (csI .u8) a0.code)), (cI v1.2.1), (.c (.int .u64 v1.2.2))]))]⟩ (T4 (((((Eqc (sl 1 (csI .u8) a0.code)) ∧ (eI a0.at_) ∧ (Eqc (.int .u64 a0.seed)) ∧ Tt) ∧ (eI (a1.length : Int)) ∧ Tt) ∧ MutOK Tryd.prog 33 [(.box 3 (fun j => [true, false, false].getD j true) (fun j => (cs_l00Src a0).getD j .nilptr) (fun j => [.nilptr, (.int .i64 v1.2.1), (.int .u64 v1.2.2)].getD j .nilptr)), .one (.ro (.int .i64 (a1.length : Int)))] [.one (.int .i64 v1.1)]) ∧ (0 ≤ v1.1 ∧ v1.1 < (a1.length : Int)) ∧ T2 Tt)) [.no, .no, .no, .no, .callM [(.box 3 (fun j => [true, false, false].getD j true) (fun j => (cs_l00Src a0).getD j .nilptr) (fun j => [.nilptr, (.int .i64 v1.2.1), (.int .u64 v1.2.2)].getD j .nilptr)), .one (.ro (.int .i64 (a1.length : Int)))] [.one (.int .i64 v1.1)] [[.view]] none] [0, 1, 4] [0] ⟨tr, tr, tr, tr, ⟨⟨⟨rfl, rfl, rfl, tr⟩, rfl, tr⟩, ok_spec_l00Src_pick K a0 (a1.length : Int) v1 e2⟩, c3, tr, tr, tr⟩ ?_
  refine AW.ret ?_
  replace h := some_eq h
  subst h
  exact ⟨.inr rfl, retOK_of [(.one (cI (a1.getD v1.1.toNat default)))] (by kernel_rfl) ⟨⟨rfl, tr⟩, tr⟩ (of_decide_eq_true (by kernel_rfl)), by kernel_rfl, ⟨⟨rfl, ⟨⟨rfl, rfl⟩, ⟨rfl, rfl⟩, ⟨rfl, rfl⟩, tr⟩⟩, tr, tr⟩⟩

/-! math.Float32frombits -/
def math_Float32frombits (_K : Nat) (a0 : Int) : Option (F32) :=
  Fl.ofBits .f32 a0

theorem ok_math_Float32frombits (K : Nat) (a0 : Int) (o : F32) (h : math_Float32frombits K a0 = some o) : CallOK Tryd.prog 29 [.one (.int .u32 a0)] [.one (.flt .f32 o.bits)] :=
  hand_ofBits (e := Extern.MathFloatBits.float32frombits) Tryd.func29 (by kernel_rfl) (by kernel_rfl) (by kernel_rfl) (by kernel_rfl) (fun _ _ => rfl) a0 o h

/-! spec.l01From -/
def spec_l01From (K : Nat) (a0 : Int) : Option (F32) :=
  (math_Float32frombits K (IntKind.u32.wrap a0)).bind fun v1 => some v1

theorem ok_spec_l01From (K : Nat) (a0 : Int) (o : (F32)) (h : spec_l01From K a0 = some o) : CallOK Tryd.prog 34 [.one (.int .i64 a0)] [.one (.flt .f32 o.bits)] := by
  refine callOK_of_AW Tryd.func34 rfl (by kernel_rfl) (Nat.le_of_ble_eq_true (by kernel_rfl)) ?_
  intro w0
  unfold spec_l01From at h
  refine AW.sC (Tt ∧ Tt) [] [0] [] ⟨tr, tr⟩ ?_
  refine AW.seq ?_
  obtain ⟨v1, e2, h⟩ := bind_some h
  refine AW.tA ⟨[(2, (vc (.flt .f32 v1.bits)))], []⟩ (T2 ((((Eqc (.int .u32 (IntKind.u32.wrap a0))) ∧ Tt) ∧ CallOK Tryd.prog 29 [.one (.int .u32 (IntKind.u32.wrap a0))] [.one (.flt .f32 v1.bits)]) ∧ Tt ∧ Tt)) [.no, .no, .call [.one (.int .u32 (IntKind.u32.wrap a0))] [.one (.flt .f32 v1.bits)] [[.view]]] [2] [] ⟨tr, tr, ⟨⟨rfl, tr⟩, ok_math_Float32frombits K (IntKind.u32.wrap a0) v1 e2⟩, tr, tr⟩ ?_
  refine AW.ret ?_
  replace h := some_eq h
  subst h
  exact ⟨.inr rfl, retOK_of [(.one (cF v1))] (by kernel_rfl) ⟨⟨rfl, tr⟩, tr⟩ (of_decide_eq_true (by kernel_rfl))⟩

/-! spec.l01DrawFloat -/
def spec_l01DrawFloat (K : Nat) (a0 : l00Src) : Option (F32 × Int × Int) :=
  (spec_l00Src_one K a0 (12 : Int)).bind fun v1 => ite2 ((!v1.1)) ((spec_l01DrawPlain K (l00Src.mk a0.code v1.2.1 v1.2.2)).bind fun v4 => some (v4.1, v4.2.1, v4.2.2)) ((spec_l00Src_pick K (l00Src.mk a0.code v1.2.1 v1.2.2) (4 : Int)).bind fun v6 => ite2 ((v6.1 == (0 : Int))) ((spec_l00Src_among K (l00Src.mk a0.code v6.2.1 v6.2.2) ([(0 : Int), (2147483648 : Int), (2139095040 : Int), (4286578688 : Int), (2143289344 : Int), (1 : Int), (2139095039 : Int), (8388608 : Int), (8388607 : Int), (2147483649 : Int)])).bind fun v9 => (spec_l01From K v9.1).bind fun v11 => some (v11, v9.2.1, v9.2.2)) (ite2 ((v6.1 == (1 : Int))) ((spec_l00Src_pick K (l00Src.mk a0.code v6.2.1 v6.2.2) (65536 : Int)).bind fun v14 => (spec_l00Src_pick K (l00Src.mk a0.code v14.2.1 v14.2.2) (65536 : Int)).bind fun v16 => (spec_l01From K (IntKind.i64.wrap ((IntKind.i64.wrap (v14.1 * (65536 : Int))) + v16.1))).bind fun v18 => some (v18, v16.2.1, v16.2.2)) (ite2 ((v6.1 == (2 : Int))) ((spec_l00Src_pick K (l00Src.mk a0.code v6.2.1 v6.2.2) (65536 : Int)).bind fun v21 => (spec_l01From K (IntKind.i64.wrap (v21.1 * (65536 : Int)))).bind fun v23 => some (v23, v21.2.1, v21.2.2)) ((spec_l01DrawPlain K (l00Src.mk a0.code v6.2.1 v6.2.2)).bind fun v25 => (spec_l00Src_among K (l00Src.mk a0.code v25.2.1 v25.2.2) ([(8388608 : Int), (2130706432 : Int), (1610612736 : Int), (536870912 : Int)])).bind fun v27 => (spec_l01From K v27.1).bind fun v29 => some ((v25.1.mul v29), v27.2.1, v27.2.2)))))

theorem ok_spec_l01DrawFloat (K : Nat) (a0 : l00Src) (o : (F32 × Int × Int)) (h : spec_l01DrawFloat K a0 = some o) : MutOK Tryd.prog 23 [(.box 3 (fun j => [true, false, false].getD j true) (fun j => (cs_l00Src a0).getD j .nilptr) (fun j => [.nilptr, (.int .i64 o.2.1), (.int .u64 o.2.2)].getD j .nilptr))] [.one (.flt .f32 o.1.bits)] := by
  refine mutOK_of_AW 1 Tryd.func23 rfl (by kernel_rfl) (Nat.le_of_ble_eq_true (by kernel_rfl)) (by kernel_rfl) (by kernel_rfl) ?_
  intro w0 K0 v0 s0
  unfold spec_l01DrawFloat at h
  refine AW.weak (s' := ⟨[(0, (vp 0 0))], [(0, (.box [(.fx 0 0 (sl 1 (csI .u8) a0.code)), (cI a0.at_), (.c (.int .u64 a0.seed))]))]⟩) (subUnfx 0 [1, 2] (by kernel_rfl)) ?_
  refine AW.sC (Tt ∧ Tt) [] [0] [0] ⟨tr, tr⟩ ?_
  refine AW.seq ?_
  refine AW.seq ?_
  obtain ⟨v1, e2, h⟩ := bind_some h
  refine AW.tA ⟨[(0, (vp 0 0)), (6, (vB (!v1.1)))], [(0, (.box [(.fx 0 0 (sl 1 (csI .u8) a0.code)), (cI v1.2.1), (.c (.int .u64 v1.2.2))]))]⟩ (Tt ∧ ((((Eqc (sl 1 (csI .u8) a0.code)) ∧ (eI a0.at_) ∧ (Eqc (.int .u64 a0.seed)) ∧ Tt) ∧ (eI (12 : Int)) ∧ Tt) ∧ MutOK Tryd.prog 22 [(.box 3 (fun j => [true, false, false].getD j true) (fun j => (cs_l00Src a0).getD j .nilptr) (fun j => [.nilptr, (.int .i64 v1.2.1), (.int .u64 v1.2.2)].getD j .nilptr)), .one (.ro (.int .i64 (12 : Int)))] [.one (.bool v1.1)]) ∧ Tt ∧ Tt) [.no, .callM [(.box 3 (fun j => [true, false, false].getD j true) (fun j => (cs_l00Src a0).getD j .nilptr) (fun j => [.nilptr, (.int .i64 v1.2.1), (.int .u64 v1.2.2)].getD j .nilptr)), .one (.ro (.int .i64 (12 : Int)))] [.one (.bool v1.1)] [[.view]] none] [0, 6] [0] ⟨tr, ⟨⟨⟨rfl, rfl, rfl, tr⟩, rfl, tr⟩, ok_spec_l00Src_one K a0 (12 : Int) v1 e2⟩, tr, tr⟩ ?_
  rcases ite2_cases h with ⟨b3, h⟩ | ⟨b3, h⟩
  · refine AW.cond_t rfl b3 ?_
    refine AW.seq ?_
    obtain ⟨v4, e5, h⟩ := bind_some h
    refine AW.tA ⟨[(0, (vp 0 0)), (2, (vc (.flt .f32 v4.1.bits)))], [(0, (.box [(.fx 0 0 (sl 1 (csI .u8) a0.code)), (cI v4.2.1), (.c (.int .u64 v4.2.2))]))]⟩ (Tt ∧ ((((Eqc (sl 1 (csI .u8) a0.code)) ∧ (eI v1.2.1) ∧ (Eqc (.int .u64 v1.2.2)) ∧ Tt) ∧ Tt) ∧ MutOK Tryd.prog 24 [(.box 3 (fun j => [true, false, false].getD j true) (fun j => (cs_l00Src (l00Src.mk a0.code v1.2.1 v1.2.2)).getD j .nilptr) (fun j => [.nilptr, (.int .i64 v4.2.1), (.int .u64 v4.2.2)].getD j .nilptr))] [.one (.flt .f32 v4.1.bits)]) ∧ Tt ∧ Tt) [.no, .callM [(.box 3 (fun j => [true, false, false].getD j true) (fun j => (cs_l00Src (l00Src.mk a0.code v1.2.1 v1.2.2)).getD j .nilptr) (fun j => [.nilptr, (.int .i64 v4.2.1), (.int .u64 v4.2.2)].getD j .nilptr))] [.one (.flt .f32 v4.1.bits)] [[.view]] none] [0, 2] [0] ⟨tr, ⟨⟨⟨rfl, rfl, rfl, tr⟩, tr⟩, ok_spec_l01DrawPlain K (l00Src.mk a0.code v1.2.1 v1.2.2) v4 e5⟩, tr, tr⟩ ?_
    refine AW.ret ?_
    refine thenQ_ret ?_
    replace h := some_eq h
    subst h
    exact ⟨.inr rfl, retOK_of [(.one (cF v4.1))] (by kernel_rfl) ⟨⟨rfl, tr⟩, tr⟩ (of_decide_eq_true (by kernel_rfl)), by kernel_rfl, ⟨⟨rfl, ⟨⟨rfl, rfl⟩, ⟨rfl, rfl⟩, ⟨rfl, rfl⟩, tr⟩⟩, tr⟩⟩
  · refine AW.cond_f rfl b3 ?_
    refine AW.skip ?_
    refine thenQ_normal ?_
    refine AW.seq ?_
    refine AW.seq ?_
    obtain ⟨v6, e7, h⟩ := bind_some h
    refine AW.tA ⟨[(0, (vp 0 0)), (10, (vI v6.1))], [(0, (.box [(.fx 0 0 (sl 1 (csI .u8) a0.code)), (cI v6.2.1), (.c (.int .u64 v6.2.2))]))]⟩ (Tt ∧ ((((Eqc (sl 1 (csI .u8) a0.code)) ∧ (eI v1.2.1) ∧ (Eqc (.int .u64 v1.2.2)) ∧ Tt) ∧ (eI (4 : Int)) ∧ Tt) ∧ MutOK Tryd.prog 33 [(.box 3 (fun j => [true, false, false].getD j true) (fun j => (cs_l00Src (l00Src.mk a0.code v1.2.1 v1.2.2)).getD j .nilptr) (fun j => [.nilptr, (.int .i64 v6.2.1), (.int .u64 v6.2.2)].getD j .nilptr)), .one (.ro (.int .i64 (4 : Int)))] [.one (.int .i64 v6.1)]) ∧ Tt) [.no, .callM [(.box 3 (fun j => [true, false, false].getD j true) (fun j => (cs_l00Src (l00Src.mk a0.code v1.2.1 v1.2.2)).getD j .nilptr) (fun j => [.nilptr, (.int .i64 v6.2.1), (.int .u64 v6.2.2)].getD j .nilptr)), .one (.ro (.int .i64 (4 : Int)))] [.one (.int .i64 v6.1)] [[.view]] none] [0, 10] [0] ⟨tr, ⟨⟨⟨rfl, rfl, rfl, tr⟩, rfl, tr⟩, ok_spec_l00Src_pick K (l00Src.mk a0.code v1.2.1 v1.2.2) (4 : Int) v6 e7⟩, tr⟩ ?_
    refine AW.block ?_
    refine AW.sA ⟨[(0, (vp 0 0)), (10, (vI v6.1)), (11, (vB (v6.1 == (0 : Int))))], [(0, (.box [(.fx 0 0 (sl 1 (csI .u8) a0.code)), (cI v6.2.1), (.c (.int .u64 v6.2.2))]))]⟩ (T2 Tt) [] [0, 10, 11] [0] ⟨tr, tr, tr⟩ ?_
    rcases ite2_cases h with ⟨b8, h⟩ | ⟨b8, h⟩
    · refine AW.cond_t rfl b8 ?_
      refine AW.seq ?_
      obtain ⟨v9, e10, h⟩ := bind_some h
      obtain ⟨v11, e12, h⟩ := bind_some h
      refine AW.tA ⟨[(0, (vp 0 0)), (2, (vc (.flt .f32 v11.bits)))], [(0, (.box [(.fx 0 0 (sl 1 (csI .u8) a0.code)), (cI v9.2.1), (.c (.int .u64 v9.2.2))]))]⟩ (Tt ∧ (([(0 : Int), (2147483648 : Int), (2139095040 : Int), (4286578688 : Int), (2143289344 : Int), (1 : Int), (2139095039 : Int), (8388608 : Int), (8388607 : Int), (2147483649 : Int)]).length = 10 ∧ (((.int .i64 (0 : Int)) : C) = (.int .i64 (0 : Int)) ∧ Tt) ∧ (((.int .i64 (2147483648 : Int)) : C) = (.int .i64 (2147483648 : Int)) ∧ Tt) ∧ (((.int .i64 (2139095040 : Int)) : C) = (.int .i64 (2139095040 : Int)) ∧ Tt) ∧ (((.int .i64 (4286578688 : Int)) : C) = (.int .i64 (4286578688 : Int)) ∧ Tt) ∧ (((.int .i64 (2143289344 : Int)) : C) = (.int .i64 (2143289344 : Int)) ∧ Tt) ∧ (((.int .i64 (1 : Int)) : C) = (.int .i64 (1 : Int)) ∧ Tt) ∧ (((.int .i64 (2139095039 : Int)) : C) = (.int .i64 (2139095039 : Int)) ∧ Tt) ∧ (((.int .i64 (8388608 : Int)) : C) = (.int .i64 (8388608 : Int)) ∧ Tt) ∧ (((.int .i64 (8388607 : Int)) : C) = (.int .i64 (8388607 : Int)) ∧ Tt) ∧ (((.int .i64 (2147483649 : Int)) : C) = (.int .i64 (2147483649 : Int)) ∧ Tt) ∧ Tt) ∧ ((((Eqc (sl 1 (csI .u8) a0.code)) ∧ (eI v6.2.1) ∧ (Eqc (.int .u64 v6.2.2)) ∧ Tt) ∧ (Eqc (sl 1 (csI .i64) ([(0 : Int), (2147483648 : Int), (2139095040 : Int), (4286578688 : Int), (2143289344 : Int), (1 : Int), (2139095039 : Int), (8388608 : Int), (8388607 : Int), (2147483649 : Int)]))) ∧ Tt) ∧ MutOK Tryd.prog 35 [(.box 3 (fun j => [true, false, false].getD j true) (fun j => (cs_l00Src (l00Src.mk a0.code v6.2.1 v6.2.2)).getD j .nilptr) (fun j => [.nilptr, (.int .i64 v9.2.1), (.int .u64 v9.2.2)].getD j .nilptr)), .one (.ro (sl 1 (csI .i64) ([(0 : Int), (2147483648 : Int), (2139095040 : Int), (4286578688 : Int), (2143289344 : Int), (1 : Int), (2139095039 : Int), (8388608 : Int), (8388607 : Int), (2147483649 : Int)])))] [.one (.int .i64 v9.1)]) ∧ (((eI v9.1) ∧ Tt) ∧ CallOK Tryd.prog 34 [.one (.int .i64 v9.1)] [.one (.flt .f32 v11.bits)]) ∧ Tt ∧ Tt) [.no, .obj 1 ([(0 : Int), (2147483648 : Int), (2139095040 : Int), (4286578688 : Int), (2143289344 : Int), (1 : Int), (2139095039 : Int), (8388608 : Int), (8388607 : Int), (2147483649 : Int)]).length (gl (csI .i64) ([(0 : Int), (2147483648 : Int), (2139095040 : Int), (4286578688 : Int), (2143289344 : Int), (1 : Int), (2139095039 : Int), (8388608 : Int), (8388607 : Int), (2147483649 : Int)])), .callM [(.box 3 (fun j => [true, false, false].getD j true) (fun j => (cs_l00Src (l00Src.mk a0.code v6.2.1 v6.2.2)).getD j .nilptr) (fun j => [.nilptr, (.int .i64 v9.2.1), (.int .u64 v9.2.2)].getD j .nilptr)), .one (.ro (sl 1 (csI .i64) ([(0 : Int), (2147483648 : Int), (2139095040 : Int), (4286578688 : Int), (2143289344 : Int), (1 : Int), (2139095039 : Int), (8388608 : Int), (8388607 : Int), (2147483649 : Int)])))] [.one (.int .i64 v9.1)] [[.view]] none, .call [.one (.int .i64 v9.1)] [.one (.flt .f32 v11.bits)] [[.view]]] [0, 2] [0] ⟨tr, ⟨rfl, ⟨⟨rfl, tr⟩, ⟨rfl, tr⟩, ⟨rfl, tr⟩, ⟨rfl, tr⟩, ⟨rfl, tr⟩, ⟨rfl, tr⟩, ⟨rfl, tr⟩, ⟨rfl, tr⟩, ⟨rfl, tr⟩, ⟨rfl, tr⟩, tr⟩⟩, ⟨⟨⟨rfl, rfl, rfl, tr⟩, rfl, tr⟩, ok_spec_l00Src_among K (l00Src.mk a0.code v6.2.1 v6.2.2) ([(0 : Int), (2147483648 : Int), (2139095040 : Int), (4286578688 : Int), (2143289344 : Int), (1 : Int), (2139095039 : Int), (8388608 : Int), (8388607 : Int), (2147483649 : Int)]) v9 e10⟩, ⟨⟨rfl, tr⟩, ok_spec_l01From K v9.1 v11 e12⟩, tr, tr⟩ ?_
      refine AW.ret ?_
      refine blockQ_ret ?_
      refine thenQ_ret ?_
      replace h := some_eq h
      subst h
      exact ⟨.inr rfl, retOK_of [(.one (cF v11))] (by kernel_rfl) ⟨⟨rfl, tr⟩, tr⟩ (of_decide_eq_true (by kernel_rfl)), by kernel_rfl, ⟨⟨rfl, ⟨⟨rfl, rfl⟩, ⟨rfl, rfl⟩, ⟨rfl, rfl⟩, tr⟩⟩, tr⟩⟩
    · refine AW.cond_f rfl b8 ?_
      refine AW.sA ⟨[(0, (vp 0 0)), (10, (vI v6.1)), (17, (vB (v6.1 == (1 : Int))))], [(0, (.box [(.fx 0 0 (sl 1 (csI .u8) a0.code)), (cI v6.2.1), (.c (.int .u64 v6.2.2))]))]⟩ (T2 Tt) [] [0, 10, 17] [0] ⟨tr, tr, tr⟩ ?_
      rcases ite2_cases h with ⟨b13, h⟩ | ⟨b13, h⟩
      · refine AW.cond_t rfl b13 ?_
        refine AW.seq ?_
        obtain ⟨v14, e15, h⟩ := bind_some h
        refine AW.tC (Tt ∧ ((((Eqc (sl 1 (csI .u8) a0.code)) ∧ (eI v6.2.1) ∧ (Eqc (.int .u64 v6.2.2)) ∧ Tt) ∧ (eI (65536 : Int)) ∧ Tt) ∧ MutOK Tryd.prog 33 [(.box 3 (fun j => [true, false, false].getD j true) (fun j => (cs_l00Src (l00Src.mk a0.code v6.2.1 v6.2.2)).getD j .nilptr) (fun j => [.nilptr, (.int .i64 v14.2.1), (.int .u64 v14.2.2)].getD j .nilptr)), .one (.ro (.int .i64 (65536 : Int)))] [.one (.int .i64 v14.1)]) ∧ T2 Tt) [.no, .callM [(.box 3 (fun j => [true, false, false].getD j true) (fun j => (cs_l00Src (l00Src.mk a0.code v6.2.1 v6.2.2)).getD j .nilptr) (fun j => [.nilptr, (.int .i64 v14.2.1), (.int .u64 v14.2.2)].getD j .nilptr)), .one (.ro (.int .i64 (65536 : Int)))] [.one (.int .i64 v14.1)] [[.view]] none] [0, 3] [0] ⟨tr, ⟨⟨⟨rfl, rfl, rfl, tr⟩, rfl, tr⟩, ok_spec_l00Src_pick K (l00Src.mk a0.code v6.2.1 v6.2.2) (65536 : Int) v14 e15⟩, tr, tr, tr⟩ ?_
        refine AW.seq ?_
        obtain ⟨v16, e17, h⟩ := bind_some h
        obtain ⟨v18, e19, h⟩ := bind_some h
        refine AW.tA ⟨[(0, (vp 0 0)), (2, (vc (.flt .f32 v18.bits)))], [(0, (.box [(.fx 0 0 (sl 1 (csI .u8) a0.code)), (cI v16.2.1), (.c (.int .u64 v16.2.2))]))]⟩ (T2 (((((Eqc (sl 1 (csI .u8) a0.code)) ∧ (eI v14.2.1) ∧ (Eqc (.int .u64 v14.2.2)) ∧ Tt) ∧ (eI (65536 : Int)) ∧ Tt) ∧ MutOK Tryd.prog 33 [(.box 3 (fun j => [true, false, false].getD j true) (fun j => (cs_l00Src (l00Src.mk a0.code v14.2.1 v14.2.2)).getD j .nilptr) (fun j => [.nilptr, (.int .i64 v16.2.1), (.int .u64 v16.2.2)].getD j .nilptr)), .one (.ro (.int .i64 (65536 : Int)))] [.one (.int .i64 v16.1)]) ∧ Tt ∧ (((((.int .i64 (IntKind.i64.wrap ((IntKind.i64.wrap (v14.1 * (65536 : Int))) + v16.1))) : C) = (.int .i64 (IntKind.i64.wrap ((IntKind.i64.wrap (v14.1 * (65536 : Int))) + v16.1)))) ∧ Tt) ∧ CallOK Tryd.prog 34 [.one (.int .i64 (IntKind.i64.wrap ((IntKind.i64.wrap (v14.1 * (65536 : Int))) + v16.1)))] [.one (.flt .f32 v18.bits)]) ∧ Tt ∧ Tt)) [.no, .no, .callM [(.box 3 (fun j => [true, false, false].getD j true) (fun j => (cs_l00Src (l00Src.mk a0.code v14.2.1 v14.2.2)).getD j .nilptr) (fun j => [.nilptr, (.int .i64 v16.2.1), (.int .u64 v16.2.2)].getD j .nilptr)), .one (.ro (.int .i64 (65536 : Int)))] [.one (.int .i64 v16.1)] [[.view]] none, .no, .call [.one (.int .i64 (IntKind.i64.wrap ((IntKind.i64.wrap (v14.1 * (65536 : Int))) + v16.1)))] [.one (.flt .f32 v18.bits)] [[.view]]] [0, 2] [0] ⟨tr, tr, ⟨⟨⟨rfl, rfl, rfl, tr⟩, rfl, tr⟩, ok_spec_l00Src_pick K (l00Src.mk a0.code v14.2.1 v14.2.2) (65536 : Int) v16 e17⟩, tr, ⟨⟨rfl, tr⟩, ok_spec_l01From K (IntKind.i64.wrap ((IntKind.i64.wrap (v14.1 * (65536 : Int))) + v16.1)) v18 e19⟩, tr, tr⟩ ?_
        refine AW.ret ?_
        refine blockQ_ret ?_
        refine thenQ_ret ?_
        replace h := some_eq h
        subst h
        exact ⟨.inr rfl, retOK_of [(.one (cF v18))] (by kernel_rfl) ⟨⟨rfl, tr⟩, tr⟩ (of_decide_eq_true (by kernel_rfl)), by kernel_rfl, ⟨⟨rfl, ⟨⟨rfl, rfl⟩, ⟨rfl, rfl⟩, ⟨rfl, rfl⟩, tr⟩⟩, tr⟩⟩
      · refine AW.cond_f rfl b13 ?_
        refine AW.sA ⟨[(0, (vp 0 0)), (27, (vB (v6.1 == (2 : Int))))], [(0, (.box [(.fx 0 0 (sl 1 (csI .u8) a0.code)), (cI v6.2.1), (.c (.int .u64 v6.2.2))]))]⟩ (T2 Tt) [] [0, 27] [0] ⟨tr, tr, tr⟩ ?_
        rcases ite2_cases h with ⟨b20, h⟩ | ⟨b20, h⟩
        · refine AW.cond_t rfl b20 ?_
          refine AW.seq ?_
          obtain ⟨v21, e22, h⟩ := bind_some h
          obtain ⟨v23, e24, h⟩ := bind_some h
          refine AW.tA ⟨[(0, (vp 0 0)), (2, (vc (.flt .f32 v23.bits)))], [(0, (.box [(.fx 0 0 (sl 1 (csI .u8) a0.code)), (cI v21.2.1), (.c (.int .u64 v21.2.2))]))]⟩ (Tt ∧ ((((Eqc (sl 1 (csI .u8) a0.code)) ∧ (eI v6.2.1) ∧ (Eqc (.int .u64 v6.2.2)) ∧ Tt) ∧ (eI (65536 : Int)) ∧ Tt) ∧ MutOK Tryd.prog 33 [(.box 3 (fun j => [true, false, false].getD j true) (fun j => (cs_l00Src (l00Src.mk a0.code v6.2.1 v6.2.2)).getD j .nilptr) (fun j => [.nilptr, (.int .i64 v21.2.1), (.int .u64 v21.2.2)].getD j .nilptr)), .one (.ro (.int .i64 (65536 : Int)))] [.one (.int .i64 v21.1)]) ∧ Tt ∧ (((eI (IntKind.i64.wrap (v21.1 * (65536 : Int)))) ∧ Tt) ∧ CallOK Tryd.prog 34 [.one (.int .i64 (IntKind.i64.wrap (v21.1 * (65536 : Int))))] [.one (.flt .f32 v23.bits)]) ∧ Tt ∧ Tt) [.no, .callM [(.box 3 (fun j => [true, false, false].getD j true) (fun j => (cs_l00Src (l00Src.mk a0.code v6.2.1 v6.2.2)).getD j .nilptr) (fun j => [.nilptr, (.int .i64 v21.2.1), (.int .u64 v21.2.2)].getD j .nilptr)), .one (.ro (.int .i64 (65536 : Int)))] [.one (.int .i64 v21.1)] [[.view]] none, .no, .call [.one (.int .i64 (IntKind.i64.wrap (v21.1 * (65536 : Int))))] [.one (.flt .f32 v23.bits)] [[.view]]] [0, 2] [0] ⟨tr, ⟨⟨⟨rfl, rfl, rfl, tr⟩, rfl, tr⟩, ok_spec_l00Src_pick K (l00Src.mk a0.code v6.2.1 v6.2.2) (65536 : Int) v21 e22⟩, tr, ⟨⟨rfl, tr⟩, ok_spec_l01From K (IntKind.i64.wrap (v21.1 * (65536 : Int))) v23 e24⟩, tr, tr⟩ ?_
          refine AW.ret ?_
          refine blockQ_ret ?_
          refine thenQ_ret ?_
          replace h := some_eq h
          subst h
          exact ⟨.inr rfl, retOK_of [(.one (cF v23))] (by kernel_rfl) ⟨⟨rfl, tr⟩, tr⟩ (of_decide_eq_true (by kernel_rfl)), by kernel_rfl, ⟨⟨rfl, ⟨⟨rfl, rfl⟩, ⟨rfl, rfl⟩, ⟨rfl, rfl⟩, tr⟩⟩, tr⟩⟩
        · refine AW.cond_f rfl b20 ?_
          refine AW.skip ?_
          refine blockQ_normal ?_
          refine thenQ_normal ?_
          refine AW.seq ?_
          obtain ⟨v25, e26, h⟩ := bind_some h
          obtain ⟨v27, e28, h⟩ := bind_some h
          obtain ⟨v29, e30, h⟩ := bind_some h
          refine AW.tA ⟨[(0, (vp 0 0)), (2, (vc (.flt .f32 (v25.1.mul v29).bits)))], [(0, (.box [(.fx 0 0 (sl 1 (csI .u8) a0.code)), (cI v27.2.1), (.c (.int .u64 v27.2.2))]))]⟩ (Tt ∧ ((((Eqc (sl 1 (csI .u8) a0.code)) ∧ (eI v6.2.1) ∧ (Eqc (.int .u64 v6.2.2)) ∧ Tt) ∧ Tt) ∧ MutOK Tryd.prog 24 [(.box 3 (fun j => [true, false, false].getD j true) (fun j => (cs_l00Src (l00Src.mk a0.code v6.2.1 v6.2.2)).getD j .nilptr) (fun j => [.nilptr, (.int .i64 v25.2.1), (.int .u64 v25.2.2)].getD j .nilptr))] [.one (.flt .f32 v25.1.bits)]) ∧ Tt ∧ (([(8388608 : Int), (2130706432 : Int), (1610612736 : Int), (536870912 : Int)]).length = 4 ∧ (((.int .i64 (8388608 : Int)) : C) = (.int .i64 (8388608 : Int)) ∧ Tt) ∧ (((.int .i64 (2130706432 : Int)) : C) = (.int .i64 (2130706432 : Int)) ∧ Tt) ∧ (((.int .i64 (1610612736 : Int)) : C) = (.int .i64 (1610612736 : Int)) ∧ Tt) ∧ (((.int .i64 (536870912 : Int)) : C) = (.int .i64 (536870912 : Int)) ∧ Tt) ∧ Tt) ∧ ((((Eqc (sl 1 (csI .u8) a0.code)) ∧ (eI v25.2.1) ∧ (Eqc (.int .u64 v25.2.2)) ∧ Tt) ∧ (Eqc (sl 1 (csI .i64) ([(8388608 : Int), (2130706432 : Int), (1610612736 : Int), (536870912 : Int)]))) ∧ Tt) ∧ MutOK Tryd.prog 35 [(.box 3 (fun j => [true, false, false].getD j true) (fun j => (cs_l00Src (l00Src.mk a0.code v25.2.1 v25.2.2)).getD j .nilptr) (fun j => [.nilptr, (.int .i64 v27.2.1), (.int .u64 v27.2.2)].getD j .nilptr)), .one (.ro (sl 1 (csI .i64) ([(8388608 : Int), (2130706432 : Int), (1610612736 : Int), (536870912 : Int)])))] [.one (.int .i64 v27.1)]) ∧ (((eI v27.1) ∧ Tt) ∧ CallOK Tryd.prog 34 [.one (.int .i64 v27.1)] [.one (.flt .f32 v29.bits)]) ∧ T2 Tt) [.no, .callM [(.box 3 (fun j => [true, false, false].getD j true) (fun j => (cs_l00Src (l00Src.mk a0.code v6.2.1 v6.2.2)).getD j .nilptr) (fun j => [.nilptr, (.int .i64 v25.2.1), (.int .u64 v25.2.2)].getD j .nilptr))] [.one (.flt .f32 v25.1.bits)] [[.view]] none, .no, .obj 2 ([(8388608 : Int), (2130706432 : Int), (1610612736 : Int), (536870912 : Int)]).length (gl (csI .i64) ([(8388608 : Int), (2130706432 : Int), (1610612736 : Int), (536870912 : Int)])), .callM [(.box 3 (fun j => [true, false, false].getD j true) (fun j => (cs_l00Src (l00Src.mk a0.code v25.2.1 v25.2.2)).getD j .nilptr) (fun j => [.nilptr, (.int .i64 v27.2.1), (.int .u64 v27.2.2)].getD j .nilptr)), .one (.ro (sl 1 (csI .i64) ([(8388608 : Int), (2130706432 : Int), (1610612736 : Int), (536870912 : Int)])))] [.one (.int .i64 v27.1)] [[.view]] none, .call [.one (.int .i64 v27.1)] [.one (.flt .f32 v29.bits)] [[.view]]] [0, 2] [0] ⟨tr, ⟨⟨⟨rfl, rfl, rfl, tr⟩, tr⟩, ok_spec_l01DrawPlain K (l00Src.mk a0.code v6.2.1 v6.2.2) v25 e26⟩, tr, ⟨rfl, ⟨⟨rfl, tr⟩, ⟨rfl, tr⟩, ⟨rfl, tr⟩, ⟨rfl, tr⟩, tr⟩⟩, ⟨⟨⟨rfl, rfl, rfl, tr⟩, rfl, tr⟩, ok_spec_l00Src_among K (l00Src.mk a0.code v25.2.1 v25.2.2) ([(8388608 : Int), (2130706432 : Int), (1610612736 : Int), (536870912 : Int)]) v27 e28⟩, ⟨⟨rfl, tr⟩, ok_spec_l01From K v27.1 v29 e30⟩, tr, tr, tr⟩ ?_
          refine AW.ret ?_
          replace h := some_eq h
          subst h
          exact ⟨.inr rfl, retOK_of [(.one (cF (v25.1.mul v29)))] (by kernel_rfl) ⟨⟨rfl, tr⟩, tr⟩ (of_decide_eq_true (by kernel_rfl)), by kernel_rfl, ⟨⟨rfl, ⟨⟨rfl, rfl⟩, ⟨rfl, rfl⟩, ⟨rfl, rfl⟩, tr⟩⟩, tr⟩⟩

/-! spec.l01DrawFloats -/
def spec_l01DrawFloats_l1 (K : Nat) (a0 : l00Src) (v1 : (Bool × Int × Int)) : Nat → Int → Int → Int → (List F32) → Option ((List F32) × Int × Int)
  | 0, _, _, _, _ => none
  | k + 1, x7, x8, x9, x10 => ite2 ((decide (x7 > (0 : Int)))) (ite2 (v1.1) ((spec_l01DrawFloat K (l00Src.mk a0.code x8 x9)).bind fun v13 => chk ((x10.length + ([v13.1]).length) * 4 ≤ 140737488355328) (spec_l01DrawFloats_l1 K a0 v1 k (IntKind.i64.wrap (x7 - (1 : Int))) v13.2.1 v13.2.2 (x10 ++ ([v13.1])))) ((spec_l01DrawPlain K (l00Src.mk a0.code x8 x9)).bind fun v16 => chk ((x10.length + ([v16.1]).length) * 4 ≤ 140737488355328) (spec_l01DrawFloats_l1 K a0 v1 k (IntKind.i64.wrap (x7 - (1 : Int))) v16.2.1 v16.2.2 (x10 ++ ([v16.1]))))) (some (x10, x8, x9))

def spec_l01DrawFloats (K : Nat) (a0 : l00Src) (a1 : Int) : Option ((List F32) × Int × Int) :=
  (spec_l00Src_one K a0 (4 : Int)).bind fun v1 => spec_l01DrawFloats_l1 K a0 v1 K a1 v1.2.1 v1.2.2 ([] : List F32)

theorem ok_spec_l01DrawFloats (K : Nat) (a0 : l00Src) (a1 : Int) (o : ((List F32) × Int × Int)) (h : spec_l01DrawFloats K a0 a1 = some o) : MutOK Tryd.prog 14 [(.box 3 (fun j => [true, false, false].getD j true) (fun j => (cs_l00Src a0).getD j .nilptr) (fun j => [.nilptr, (.int .i64 o.2.1), (.int .u64 o.2.2)].getD j .nilptr)), (.one (.ro (.int .i64 a1)))] [.one (sl 1 (csF .f32) o.1)] := by
  refine mutOK_of_AW 1 Tryd.func14 rfl (by kernel_rfl) (Nat.le_of_ble_eq_true (by kernel_rfl)) (by kernel_rfl) (by kernel_rfl) ?_
  intro w0 K0 v0 s0
  unfold spec_l01DrawFloats at h
  refine AW.weak (s' := ⟨[(0, (vp 0 0)), (1, (vI a1))], [(0, (.box [(.fx 0 0 (sl 1 (csI .u8) a0.code)), (cI a0.at_), (.c (.int .u64 a0.seed))]))]⟩) (subUnfx 0 [1, 2] (by kernel_rfl)) ?_
  refine AW.sC (Tt ∧ Tt) [] [0, 1] [0] ⟨tr, tr⟩ ?_
  refine AW.sC ((([] : List F32).length = 0 ∧ Tt) ∧ Tt ∧ Tt) [.obj 1 ([] : List F32).length (gl (csF .f32) ([] : List F32))] [0, 1, 5] [0, 1] ⟨⟨rfl, tr⟩, tr, tr⟩ ?_
  refine AW.seq ?_
  obtain ⟨v1, e2, h⟩ := bind_some h
  refine AW.tA ⟨[(0, (vp 0 0)), (1, (vI a1)), (5, (vL 1 1 (csF .f32) ([] : List F32))), (6, (vB v1.1))], [(0, (.box [(.fx 0 0 (sl 1 (csI .u8) a0.code)), (cI v1.2.1), (.c (.int .u64 v1.2.2))])), (1, (oL 1 (csF .f32) ([] : List F32)))]⟩ (Tt ∧ ((((Eqc (sl 1 (csI .u8) a0.code)) ∧ (eI a0.at_) ∧ (Eqc (.int .u64 a0.seed)) ∧ Tt) ∧ (eI (4 : Int)) ∧ Tt) ∧ MutOK Tryd.prog 22 [(.box 3 (fun j => [true, false, false].getD j true) (fun j => (cs_l00Src a0).getD j .nilptr) (fun j => [.nilptr, (.int .i64 v1.2.1), (.int .u64 v1.2.2)].getD j .nilptr)), .one (.ro (.int .i64 (4 : Int)))] [.one (.bool v1.1)]) ∧ Tt ∧ Tt) [.no, .callM [(.box 3 (fun j => [true, false, false].getD j true) (fun j => (cs_l00Src a0).getD j .nilptr) (fun j => [.nilptr, (.int .i64 v1.2.1), (.int .u64 v1.2.2)].getD j .nilptr)), .one (.ro (.int .i64 (4 : Int)))] [.one (.bool v1.1)] [[.view]] none] [0, 1, 5, 6] [0, 1] ⟨tr, ⟨⟨⟨rfl, rfl, rfl, tr⟩, rfl, tr⟩, ok_spec_l00Src_one K a0 (4 : Int) v1 e2⟩, tr, tr⟩ ?_
  refine AW.seq ?_
  refine AW.block ?_
  refine AW.loopQ (σ := Nat × Int × Int × Int × (List F32)) (fun p => ⟨[(0, (vp 0 0)), (1, (vI p.2.1)), (5, (vL 1 1 (csF .f32) p.2.2.2.2)), (6, (vB v1.1))], [(0, (.box [(.fx 0 0 (sl 1 (csI .u8) a0.code)), (cI p.2.2.1), (.c (.int .u64 p.2.2.2.1))])), (1, (oL 1 (csF .f32) p.2.2.2.2))]⟩) (fun p => spec_l01DrawFloats_l1 K a0 v1 p.1 p.2.1 p.2.2.1 p.2.2.2.1 p.2.2.2.2 = some o) (fun p => p.1) (K, a1, v1.2.1, v1.2.2, ([] : List F32)) h ?_
  clear h
  rintro ⟨k, x7, x8, x9, x10⟩ h
  replace h : spec_l01DrawFloats_l1 K a0 v1 k x7 x8 x9 x10 = some o := h
  show AW _ _ (⟨[(0, (vp 0 0)), (1, (vI x7)), (5, (vL 1 1 (csF .f32) x10)), (6, (vB v1.1))], [(0, (.box [(.fx 0 0 (sl 1 (csI .u8) a0.code)), (cI x8), (.c (.int .u64 x9))])), (1, (oL 1 (csF .f32) x10))]⟩ : St) _
  obtain _ | k := k
  · rw [spec_l01DrawFloats_l1] at h; cases h
  rw [spec_l01DrawFloats_l1] at h
  refine AW.seq ?_
  refine AW.sA ⟨[(0, (vp 0 0)), (1, (vI x7)), (5, (vL 1 1 (csF .f32) x10)), (6, (vB v1.1)), (11, (vB (decide (x7 > (0 : Int)))))], [(0, (.box [(.fx 0 0 (sl 1 (csI .u8) a0.code)), (cI x8), (.c (.int .u64 x9))])), (1, (oL 1 (csF .f32) x10))]⟩ (T2 Tt) [] [0, 1, 5, 6, 11] [0, 1] ⟨tr, tr, tr⟩ ?_
  rcases ite2_cases h with ⟨b11, h⟩ | ⟨b11, h⟩
  · refine AW.cond_t rfl b11 ?_
    refine AW.skip ?_
    refine thenQ_normal ?_
    refine AW.seq ?_
    refine AW.block ?_
    refine AW.sA ⟨[(0, (vp 0 0)), (1, (vI x7)), (5, (vL 1 1 (csF .f32) x10)), (6, (vB v1.1)), (14, (vB v1.1))], [(0, (.box [(.fx 0 0 (sl 1 (csI .u8) a0.code)), (cI x8), (.c (.int .u64 x9))])), (1, (oL 1 (csF .f32) x10))]⟩ (Tt ∧ Tt) [] [0, 1, 5, 6, 14] [0, 1] ⟨tr, tr⟩ ?_
    rcases ite2_cases h with ⟨b12, h⟩ | ⟨b12, h⟩
    · refine AW.cond_t rfl b12 ?_
      obtain ⟨v13, e14, h⟩ := bind_some h
      obtain ⟨c15, h⟩ := chk_some h
      refine AW.rA ⟨[(0, (vp 0 0)), (1, (vI x7)), (5, (vL 11 1 (csF .f32) (x10 ++ ([v13.1])))), (6, (vB v1.1))], [(0, (.box [(.fx 0 0 (sl 1 (csI .u8) a0.code)), (cI v13.2.1), (.c (.int .u64 v13.2.2))])), (11, (oL 1 (csF .f32) (x10 ++ ([v13.1]))))]⟩ (T2 (((((Eqc (sl 1 (csI .u8) a0.code)) ∧ (eI x8) ∧ (Eqc (.int .u64 x9)) ∧ Tt) ∧ Tt) ∧ MutOK Tryd.prog 23 [(.box 3 (fun j => [true, false, false].getD j true) (fun j => (cs_l00Src (l00Src.mk a0.code x8 x9)).getD j .nilptr) (fun j => [.nilptr, (.int .i64 v13.2.1), (.int .u64 v13.2.2)].getD j .nilptr))] [.one (.flt .f32 v13.1.bits)]) ∧ (([v13.1]).length = 1 ∧ (((.flt .f32 v13.1.bits) : C) = (.flt .f32 v13.1.bits) ∧ Tt) ∧ Tt) ∧ ((x10 ++ ([v13.1])).length = x10.length + ([v13.1]).length ∧ AppOb (x10.length) (([v13.1]).length) 1 (gl (csF .f32) x10) (gl (csF .f32) ([v13.1])) (gl (csF .f32) (x10 ++ ([v13.1]))) ∧ (∀ i j, i < ([v13.1]).length → j < 1 → scalarC (gl (csF .f32) ([v13.1]) i j)) ∧ (x10.length + ([v13.1]).length) * 4 ≤ 140737488355328) ∧ Tt ∧ Tt)) [.no, .no, .callM [(.box 3 (fun j => [true, false, false].getD j true) (fun j => (cs_l00Src (l00Src.mk a0.code x8 x9)).getD j .nilptr) (fun j => [.nilptr, (.int .i64 v13.2.1), (.int .u64 v13.2.2)].getD j .nilptr))] [.one (.flt .f32 v13.1.bits)] [[.view]] none, .obj 10 ([v13.1]).length (gl (csF .f32) ([v13.1])), .objK 11 (x10 ++ ([v13.1])).length (gl (csF .f32) (x10 ++ ([v13.1])))] [0, 1, 5, 6] [0, 11] ⟨tr, tr, ⟨⟨⟨rfl, rfl, rfl, tr⟩, tr⟩, ok_spec_l01DrawFloat K (l00Src.mk a0.code x8 x9) v13 e14⟩, ⟨rfl, ⟨⟨rfl, tr⟩, tr⟩⟩, ⟨List.length_append, gl_append, gl_scalar scF _, c15⟩, tr, tr⟩ ?_
      refine blockQ_normal ?_
      refine thenQ_normal ?_
      refine AW.rA ⟨[(0, (vp 0 0)), (1, (vI (IntKind.i64.wrap (x7 - (1 : Int))))), (5, (vL 11 1 (csF .f32) (x10 ++ ([v13.1])))), (6, (vB v1.1))], [(0, (.box [(.fx 0 0 (sl 1 (csI .u8) a0.code)), (cI v13.2.1), (.c (.int .u64 v13.2.2))])), (11, (oL 1 (csF .f32) (x10 ++ ([v13.1]))))]⟩ (Tt ∧ T2 Tt) [] [0, 1, 5, 6] [0, 11] ⟨tr, tr, tr, tr⟩ ?_
      exact loopQ_normal (k, (IntKind.i64.wrap (x7 - (1 : Int))), v13.2.1, v13.2.2, (x10 ++ ([v13.1]))) h (Nat.lt_succ_self k) (Sub.trans (Sub.swap 1 11 _ (by kernel_rfl) (by kernel_rfl)) (Sub.keep [0, 1, 5, 6] [0, 1] (by kernel_rfl) (by kernel_rfl)))
    · refine AW.cond_f rfl b12 ?_
      obtain ⟨v16, e17, h⟩ := bind_some h
      obtain ⟨c18, h⟩ := chk_some h
      refine AW.rA ⟨[(0, (vp 0 0)), (1, (vI x7)), (5, (vL 13 1 (csF .f32) (x10 ++ ([v16.1])))), (6, (vB v1.1))], [(0, (.box [(.fx 0 0 (sl 1 (csI .u8) a0.code)), (cI v16.2.1), (.c (.int .u64 v16.2.2))])), (13, (oL 1 (csF .f32) (x10 ++ ([v16.1]))))]⟩ (T2 (((((Eqc (sl 1 (csI .u8) a0.code)) ∧ (eI x8) ∧ (Eqc (.int .u64 x9)) ∧ Tt) ∧ Tt) ∧ MutOK Tryd.prog 24 [(.box 3 (fun j => [true, false, false].getD j true) (fun j => (cs_l00Src (l00Src.mk a0.code x8 x9)).getD j .nilptr) (fun j => [.nilptr, (.int .i64 v16.2.1), (.int .u64 v16.2.2)].getD j .nilptr))] [.one (.flt .f32 v16.1.bits)]) ∧ (([v16.1]).length = 1 ∧ (((.flt .f32 v16.1.bits) : C) = (.flt .f32 v16.1.bits) ∧ Tt) ∧ Tt) ∧ ((x10 ++ ([v16.1])).length = x10.length + ([v16.1]).length ∧ AppOb (x10.length) (([v16.1]).length) 1 (gl (csF .f32) x10) (gl (csF .f32) ([v16.1])) (gl (csF .f32) (x10 ++ ([v16.1]))) ∧ (∀ i j, i < ([v16.1]).length → j < 1 → scalarC (gl (csF .f32) ([v16.1]) i j)) ∧ (x10.length + ([v16.1]).length) * 4 ≤ 140737488355328) ∧ Tt ∧ Tt)) [.no, .no, .callM [(.box 3 (fun j => [true, false, false].getD j true) (fun j => (cs_l00Src (l00Src.mk a0.code x8 x9)).getD j .nilptr) (fun j => [.nilptr, (.int .i64 v16.2.1), (.int .u64 v16.2.2)].getD j .nilptr))] [.one (.flt .f32 v16.1.bits)] [[.view]] none, .obj 12 ([v16.1]).length (gl (csF .f32) ([v16.1])), .objK 13 (x10 ++ ([v16.1])).length (gl (csF .f32) (x10 ++ ([v16.1])))] [0, 1, 5, 6] [0, 13] ⟨tr, tr, ⟨⟨⟨rfl, rfl, rfl, tr⟩, tr⟩, ok_spec_l01DrawPlain K (l00Src.mk a0.code x8 x9) v16 e17⟩, ⟨rfl, ⟨⟨rfl, tr⟩, tr⟩⟩, ⟨List.length_append, gl_append, gl_scalar scF _, c18⟩, tr, tr⟩ ?_
      refine blockQ_normal ?_
      refine thenQ_normal ?_
      refine AW.rA ⟨[(0, (vp 0 0)), (1, (vI (IntKind.i64.wrap (x7 - (1 : Int))))), (5, (vL 13 1 (csF .f32) (x10 ++ ([v16.1])))), (6, (vB v1.1))], [(0, (.box [(.fx 0 0 (sl 1 (csI .u8) a0.code)), (cI v16.2.1), (.c (.int .u64 v16.2.2))])), (13, (oL 1 (csF .f32) (x10 ++ ([v16.1]))))]⟩ (Tt ∧ T2 Tt) [] [0, 1, 5, 6] [0, 13] ⟨tr, tr, tr, tr⟩ ?_
      exact loopQ_normal (k, (IntKind.i64.wrap (x7 - (1 : Int))), v16.2.1, v16.2.2, (x10 ++ ([v16.1]))) h (Nat.lt_succ_self k) (Sub.trans (Sub.swap 1 13 _ (by kernel_rfl) (by kernel_rfl)) (Sub.keep [0, 1, 5, 6] [0, 1] (by kernel_rfl) (by kernel_rfl)))
  · refine AW.cond_f rfl b11 ?_
    refine AW.exit ?_
    refine thenQ_exit ?_
    refine loopQ_exit ?_
    refine blockQ_exit ?_
    refine thenQ_normal ?_
    refine AW.sA ⟨[(0, (vp 0 0)), (1, (vI x7)), (4, (vL 1 1 (csF .f32) x10))], [(0, (.box [(.fx 0 0 (sl 1 (csI .u8) a0.code)), (cI x8), (.c (.int .u64 x9))])), (1, (oL 1 (csF .f32) x10))]⟩ (T2 Tt) [] [0, 1, 4] [0, 1] ⟨tr, tr, tr⟩ ?_
    refine AW.ret ?_
    replace h := some_eq h
    subst h
    exact ⟨.inr rfl, retOK_of [(.one (xL 1 1 (csF .f32) x10))] (by kernel_rfl) ⟨rfl, tr⟩ (of_decide_eq_true (by kernel_rfl)), by kernel_rfl, ⟨⟨rfl, ⟨⟨rfl, rfl⟩, ⟨rfl, rfl⟩, ⟨rfl, rfl⟩, tr⟩⟩, tr, tr⟩⟩

/-! spec.B10Numbers -/
def spec_B10Numbers (K : Nat) (a0 : (List Int)) (a1 : Int) : Option ((List F32)) :=
  (spec_l01DrawFloats K (l00Src.mk a0 (0 : Int) (0 : Int)) a1).bind fun v1 => some v1.1

theorem ok_spec_B10Numbers (K : Nat) (a0 : (List Int)) (a1 : Int) (o : ((List F32))) (h : spec_B10Numbers K a0 a1 = some o) : CallOK Tryd.prog 5 [.one (sl 1 (csI .u8) a0), .one (.int .i64 a1)] [.one (sl 1 (csF .f32) o)] := by
  refine callOK_of_AW Tryd.func5 rfl (by kernel_rfl) (Nat.le_of_ble_eq_true (by kernel_rfl)) ?_
  intro w0
  unfold spec_B10Numbers at h
  refine AW.sA ⟨[(0, (vc (sl 1 (csI .u8) a0))), (1, (vI a1))], []⟩ (Tt ∧ Tt) [] [0, 1] [] ⟨tr, tr⟩ ?_
  refine AW.seq (AW.mkA 1 1 [(.i64, 0), (.u64, 0)] [.no] [] [1, 5] [1] (s' := ⟨[(1, (vI a1)), (5, (vp 1 0))], [(1, (.box [(.c (sl 1 (csI .u8) a0)), (cI (0 : Int)), (.c (.int .u64 (0 : Int)))]))]⟩) (ob := (Tt ∧ Tt) ∧ Tt ∧ (Tt ∧ Tt)) (by kernel_rfl) ⟨⟨tr, tr⟩, tr, ⟨tr, tr⟩⟩ mk_spec_l00From (thenQ_normal ?_))
  refine AW.seq ?_
  obtain ⟨v1, e2, h⟩ := bind_some h
  refine AW.tA ⟨[(4, (vL 2 1 (csF .f32) v1.1))], [(2, (oL 1 (csF .f32) v1.1))]⟩ (T2 (((((Eqc (sl 1 (csI .u8) a0)) ∧ (eI (0 : Int)) ∧ (Eqc (.int .u64 (0 : Int))) ∧ Tt) ∧ (eI a1) ∧ Tt) ∧ MutOK Tryd.prog 14 [(.box 3 (fun j => [true, false, false].getD j true) (fun j => (cs_l00Src (l00Src.mk a0 (0 : Int) (0 : Int))).getD j .nilptr) (fun j => [.nilptr, (.int .i64 v1.2.1), (.int .u64 v1.2.2)].getD j .nilptr)), .one (.ro (.int .i64 a1))] [.one (sl 1 (csF .f32) v1.1)]) ∧ Tt ∧ Tt)) [.no, .no, .callM [(.box 3 (fun j => [true, false, false].getD j true) (fun j => (cs_l00Src (l00Src.mk a0 (0 : Int) (0 : Int))).getD j .nilptr) (fun j => [.nilptr, (.int .i64 v1.2.1), (.int .u64 v1.2.2)].getD j .nilptr)), .one (.ro (.int .i64 a1))] [.one (sl 1 (csF .f32) v1.1)] [[.lst 2]] none] [4] [2] ⟨tr, tr, ⟨⟨⟨rfl, rfl, rfl, tr⟩, rfl, tr⟩, ok_spec_l01DrawFloats K (l00Src.mk a0 (0 : Int) (0 : Int)) a1 v1 e2⟩, tr, tr⟩ ?_
  refine AW.ret ?_
  replace h := some_eq h
  subst h
  exact ⟨.inr rfl, retOK_of [(.one (xL 2 1 (csF .f32) v1.1))] (by kernel_rfl) ⟨rfl, tr⟩ (of_decide_eq_true (by kernel_rfl))⟩

/-! math.Float32bits -/
def math_Float32bits (_K : Nat) (a0 : F32) : Option (Int) :=
  a0.toBits

theorem ok_math_Float32bits (K : Nat) (a0 : F32) (o : Int) (h : math_Float32bits K a0 = some o) : CallOK Tryd.prog 47 [.one (.flt .f32 a0.bits)] [.one (.int .u32 o)] :=
  hand_toBits (e := Extern.MathFloatBits.float32bits) Tryd.func47 (by kernel_rfl) (by kernel_rfl) (by kernel_rfl) (by kernel_rfl) (fun _ _ => rfl) a0 o h

/-! impl.BitsOf -/
def impl_BitsOf (K : Nat) (a0 : F32) : Option (Int) :=
  ite2 ((a0.ne a0)) (some (2143289344 : Int)) ((math_Float32bits K a0).bind fun v2 => some (IntKind.i64.wrap v2))

theorem ok_impl_BitsOf (K : Nat) (a0 : F32) (o : (Int)) (h : impl_BitsOf K a0 = some o) : CallOK Tryd.prog 37 [.one (.flt .f32 a0.bits)] [.one (.int .i64 o)] := by
  refine callOK_of_AW Tryd.func37 rfl (by kernel_rfl) (Nat.le_of_ble_eq_true (by kernel_rfl)) ?_
  intro w0
  unfold impl_BitsOf at h
  refine AW.sC (Tt ∧ Tt) [] [0] [] ⟨tr, tr⟩ ?_
  refine AW.seq ?_
  refine AW.sA ⟨[(0, (vc (.flt .f32 a0.bits))), (5, (vB (a0.ne a0)))], []⟩ (Tt ∧ T2 Tt) [] [0, 5] [] ⟨tr, tr, tr, tr⟩ ?_
  rcases ite2_cases h with ⟨b1, h⟩ | ⟨b1, h⟩
  · refine AW.cond_t rfl b1 ?_
    refine AW.sA ⟨[(2, (vI (2143289344 : Int)))], []⟩ (Tt ∧ Tt) [] [2] [] ⟨tr, tr⟩ ?_
    refine AW.ret ?_
    refine thenQ_ret ?_
    replace h := some_eq h
    subst h
    exact ⟨.inr rfl, retOK_of [(.one (cI (2143289344 : Int)))] (by kernel_rfl) ⟨⟨rfl, tr⟩, tr⟩ (of_decide_eq_true (by kernel_rfl))⟩
  · refine AW.cond_f rfl b1 ?_
    refine AW.skip ?_
    refine thenQ_normal ?_
    refine AW.seq ?_
    obtain ⟨v2, e3, h⟩ := bind_some h
    refine AW.tA ⟨[(2, (vI (IntKind.i64.wrap v2)))], []⟩ (Tt ∧ (((eF a0) ∧ Tt) ∧ CallOK Tryd.prog 47 [.one (.flt .f32 a0.bits)] [.one (.int .u32 v2)]) ∧ T2 Tt) [.no, .call [.one (.flt .f32 a0.bits)] [.one (.int .u32 v2)] [[.view]]] [2] [] ⟨tr, ⟨⟨rfl, tr⟩, ok_math_Float32bits K a0 v2 e3⟩, tr, tr, tr⟩ ?_
    refine AW.ret ?_
    replace h := some_eq h
    subst h
    exact ⟨.inr rfl, retOK_of [(.one (cI (IntKind.i64.wrap v2)))] (by kernel_rfl) ⟨⟨rfl, tr⟩, tr⟩ (of_decide_eq_true (by kernel_rfl))⟩

/-! strconv.FormatInt -/
def strconv_FormatInt (_K : Nat) (a0 : Int) (a1 : Int) : Option (ByteArray) :=
  fmtI a0 a1

theorem ok_strconv_FormatInt (K : Nat) (a0 : Int) (a1 : Int) (o : ByteArray) (h : strconv_FormatInt K a0 a1 = some o) : CallOK Tryd.prog 36 [(.one (.int .i64 a0)), (.one (.int .i64 a1))] [.one (.str o)] :=
  hand_fmtI Tryd.func36 (by kernel_rfl) (by kernel_rfl) (fun _ hg => tabIs_of_gd (g := 3) (by unfold gtabs; exact List.mem_cons_self) (by kernel_rfl) hg) (g := 8) (fun _ hg => cell_of_gd (by unfold gtabs; exact List.mem_cons_of_mem _ List.mem_cons_self) rfl hg) Tryd.strconv_FormatInt_10 Tryd.formatInt16 a0 a1 o h

/-! strings.Repeat -/
def strings_Repeat (_K : Nat) (a0 : ByteArray) (a1 : Int) : Option (ByteArray) :=
  rep1 a0 a1

theorem ok_strings_Repeat (K : Nat) (a0 : ByteArray) (a1 : Int) (o : ByteArray) (h : strings_Repeat K a0 a1 = some o) : CallOK Tryd.prog 38 [(.one (.str a0)), (.one (.int .i64 a1))] [.one (.str o)] :=
  hand_repeat Tryd.func38 (by kernel_rfl) (by kernel_rfl) (fun s c w => Tryd.strings_Repeat s c w) a0 a1 o h

/-! impl.hexOf -/
def impl_hexOf (K : Nat) (a0 : F32) : Option (ByteArray) :=
  (impl_BitsOf K a0).bind fun v1 => (strconv_FormatInt K v1 (16 : Int)).bind fun v3 => (strings_Repeat K (ByteArray.mk #[48]) (IntKind.i64.wrap ((8 : Int) - (v3.size : Int)))).bind fun v5 => chk (((v5.size + v3.size : Nat) : Int) ≤ 9223372036854775807) (some (v5 ++ v3))

theorem ok_impl_hexOf (K : Nat) (a0 : F32) (o : (ByteArray)) (h : impl_hexOf K a0 = some o) : CallOK Tryd.prog 25 [.one (.flt .f32 a0.bits)] [.one (.str o)] := by
  refine callOK_of_AW Tryd.func25 rfl (by kernel_rfl) (Nat.le_of_ble_eq_true (by kernel_rfl)) ?_
  intro w0
  unfold impl_hexOf at h
  refine AW.sC (Tt ∧ Tt) [] [0] [] ⟨tr, tr⟩ ?_
  refine AW.seq ?_
  obtain ⟨v1, e2, h⟩ := bind_some h
  obtain ⟨v3, e4, h⟩ := bind_some h
  refine AW.tC (Tt ∧ (((eF a0) ∧ Tt) ∧ CallOK Tryd.prog 37 [.one (.flt .f32 a0.bits)] [.one (.int .i64 v1)]) ∧ (((eI v1) ∧ (eI (16 : Int)) ∧ Tt) ∧ CallOK Tryd.prog 36 [.one (.int .i64 v1), .one (.int .i64 (16 : Int))] [.one (.str v3)]) ∧ Tt ∧ Tt) [.no, .call [.one (.flt .f32 a0.bits)] [.one (.int .i64 v1)] [[.view]], .call [.one (.int .i64 v1), .one (.int .i64 (16 : Int))] [.one (.str v3)] [[.view]]] [3] [] ⟨tr, ⟨⟨rfl, tr⟩, ok_impl_BitsOf K a0 v1 e2⟩, ⟨⟨rfl, rfl, tr⟩, ok_strconv_FormatInt K v1 (16 : Int) v3 e4⟩, tr, tr⟩ ?_
  refine AW.seq ?_
  obtain ⟨v5, e6, h⟩ := bind_some h
  obtain ⟨c7, h⟩ := chk_some h
  refine AW.tA ⟨[(2, (vc (.str (v5 ++ v3))))], []⟩ (Tt ∧ T2 ((((Eqc (.str (ByteArray.mk #[48]))) ∧ (eI (IntKind.i64.wrap ((8 : Int) - (v3.size : Int)))) ∧ Tt) ∧ CallOK Tryd.prog 38 [.one (.str (ByteArray.mk #[48])), .one (.int .i64 (IntKind.i64.wrap ((8 : Int) - (v3.size : Int))))] [.one (.str v5)]) ∧ Tt ∧ (((v5.size + v3.size : Nat) : Int) ≤ 9223372036854775807) ∧ Tt ∧ Tt)) [.no, .no, .no, .call [.one (.str (ByteArray.mk #[48])), .one (.int .i64 (IntKind.i64.wrap ((8 : Int) - (v3.size : Int))))] [.one (.str v5)] [[.view]]] [2] [] ⟨tr, tr, tr, ⟨⟨rfl, rfl, tr⟩, ok_strings_Repeat K (ByteArray.mk #[48]) (IntKind.i64.wrap ((8 : Int) - (v3.size : Int))) v5 e6⟩, tr, c7, tr, tr⟩ ?_
  refine AW.ret ?_
  replace h := some_eq h
  subst h
  exact ⟨.inr rfl, retOK_of [(.one (.c (.str (v5 ++ v3))))] (by kernel_rfl) ⟨⟨rfl, tr⟩, tr⟩ (of_decide_eq_true (by kernel_rfl))⟩

/-! strings.Join -/
def strings_Join (_K : Nat) (a0 : (List ByteArray)) (a1 : ByteArray) : Option (ByteArray) :=
  join1 a0 a1

theorem ok_strings_Join (K : Nat) (a0 : (List ByteArray)) (a1 : ByteArray) (o : ByteArray) (h : strings_Join K a0 a1 = some o) : CallOK Tryd.prog 39 [(.one (sl 1 csS a0)), (.one (.str a1))] [.one (.str o)] :=
  hand_join Tryd.func39 (by kernel_rfl) (by kernel_rfl) (fun a c sep w => Tryd.strings_Join_none a c sep w) (fun bk o c xs sep w => Tryd.strings_Join bk o c xs sep w) a0 a1 o h

/-! impl.joined -/
def impl_joined (K : Nat) (a0 : (List ByteArray)) : Option (ByteArray) :=
  ite2 (((a0.length : Int) == (0 : Int))) (some (ByteArray.mk #[110, 111, 110, 101])) ((strings_Join K a0 (ByteArray.mk #[44])).bind fun v2 => some v2)

theorem ok_impl_joined (K : Nat) (a0 : (List ByteArray)) (o : (ByteArray)) (h : impl_joined K a0 = some o) : CallOK Tryd.prog 26 [.one (sl 1 csS a0)] [.one (.str o)] := by
  refine callOK_of_AW Tryd.func26 rfl (by kernel_rfl) (Nat.le_of_ble_eq_true (by kernel_rfl)) ?_
  intro w0
  unfold impl_joined at h
  refine AW.sC (Tt ∧ Tt) [] [0] [] ⟨tr, tr⟩ ?_
  refine AW.seq ?_
  refine AW.sA ⟨[(0, (vc (sl 1 csS a0))), (5, (vB ((a0.length : Int) == (0 : Int))))], []⟩ (Tt ∧ T2 Tt) [] [0, 5] [] ⟨tr, tr, tr, tr⟩ ?_
  rcases ite2_cases h with ⟨b1, h⟩ | ⟨b1, h⟩
  · refine AW.cond_t rfl b1 ?_
    refine AW.sA ⟨[(2, (vc (.str (ByteArray.mk #[110, 111, 110, 101]))))], []⟩ (Tt ∧ Tt) [] [2] [] ⟨tr, tr⟩ ?_
    refine AW.ret ?_
    refine thenQ_ret ?_
    replace h := some_eq h
    subst h
    exact ⟨.inr rfl, retOK_of [(.one (.c (.str (ByteArray.mk #[110, 111, 110, 101]))))] (by kernel_rfl) ⟨⟨rfl, tr⟩, tr⟩ (of_decide_eq_true (by kernel_rfl))⟩
  · refine AW.cond_f rfl b1 ?_
    refine AW.skip ?_
    refine thenQ_normal ?_
    refine AW.seq ?_
    obtain ⟨v2, e3, h⟩ := bind_some h
    refine AW.tA ⟨[(2, (vc (.str v2)))], []⟩ (Tt ∧ (((Eqc (sl 1 csS a0)) ∧ (Eqc (.str (ByteArray.mk #[44]))) ∧ Tt) ∧ CallOK Tryd.prog 39 [.one (sl 1 csS a0), .one (.str (ByteArray.mk #[44]))] [.one (.str v2)]) ∧ Tt ∧ Tt) [.no, .call [.one (sl 1 csS a0), .one (.str (ByteArray.mk #[44]))] [.one (.str v2)] [[.view]]] [2] [] ⟨tr, ⟨⟨rfl, rfl, tr⟩, ok_strings_Join K a0 (ByteArray.mk #[44]) v2 e3⟩, tr, tr⟩ ?_
    refine AW.ret ?_
    replace h := some_eq h
    subst h
    exact ⟨.inr rfl, retOK_of [(.one (.c (.str v2)))] (by kernel_rfl) ⟨⟨rfl, tr⟩, tr⟩ (of_decide_eq_true (by kernel_rfl))⟩

/-! impl.numbersText -/
def impl_numbersText_l1 (K : Nat) (a0 : (List F32)) : Nat → Int → (List ByteArray) → Option (ByteArray)
  | 0, _, _ => none
  | k + 1, x4, x5 => ite2 ((decide (x4 < (a0.length : Int)))) (chk (0 ≤ x4 ∧ x4 < (a0.length : Int)) ((impl_hexOf K (a0.getD x4.toNat default)).bind fun v8 => chk (0 ≤ x4 ∧ x4 < (x5.length : Int)) (impl_numbersText_l1 K a0 k (IntKind.i64.wrap (x4 + (1 : Int))) (x5.set x4.toNat v8)))) ((impl_joined K x5).bind fun v11 => some v11)

def impl_numbersText (K : Nat) (a0 : (List F32)) : Option (ByteArray) :=
  chk (0 ≤ (a0.length : Int) ∧ (a0.length : Int).toNat * 16 ≤ 140737488355328) (impl_numbersText_l1 K a0 K (0 : Int) (List.replicate (a0.length : Int).toNat (default : ByteArray)))

theorem ok_impl_numbersText (K : Nat) (a0 : (List F32)) (o : (ByteArray)) (h : impl_numbersText K a0 = some o) : CallOK Tryd.prog 15 [.one (sl 1 (csF .f32) a0)] [.one (.str o)] := by
  refine callOK_of_AW Tryd.func15 rfl (by kernel_rfl) (Nat.le_of_ble_eq_true (by kernel_rfl)) ?_
  intro w0
  unfold impl_numbersText at h
  refine AW.sC (Tt ∧ Tt) [] [0] [] ⟨tr, tr⟩ ?_
  refine AW.seq ?_
  obtain ⟨c1, h⟩ := chk_some h
  refine AW.tC (T2 ((0 ≤ (a0.length : Int) ∧ (a0.length : Int) = (a0.length : Int) ∧ (((List.replicate (a0.length : Int).toNat (default : ByteArray)).length : Nat) : Int) = (a0.length : Int) ∧ (List.replicate (a0.length : Int).toNat (default : ByteArray)).length * 16 ≤ 140737488355328 ∧ ∀ i, i < (List.replicate (a0.length : Int).toNat (default : ByteArray)).length → zeroRow (fun _ => none) [(.c (.str ByteArray.empty))] (gl csS (List.replicate (a0.length : Int).toNat (default : ByteArray)) i)) ∧ Tt ∧ Tt)) [.no, .no, .objA 1 (List.replicate (a0.length : Int).toNat (default : ByteArray)).length (gl csS (List.replicate (a0.length : Int).toNat (default : ByteArray)))] [0, 3] [1] ⟨tr, tr, ⟨c1.1, rfl, len_rep c1.1, rep_bytes c1.2, fun i hi => gl_zero (cs := csS) (zs := [(.c (.str ByteArray.empty))]) (n := (a0.length : Int).toNat) ⟨⟨rfl, tr⟩, tr⟩ i (rep_lt hi)⟩, tr, tr⟩ ?_
  refine AW.seq ?_
  refine AW.sA ⟨[(3, (.v (.one (.arr 1)))), (9, (vc (sl 1 (csF .f32) a0))), (10, (vI (a0.length : Int))), (11, (vI (0 : Int)))], [(1, (.arr false (List.replicate (a0.length : Int).toNat (default : ByteArray)).length 1 (gl csS (List.replicate (a0.length : Int).toNat (default : ByteArray)))))]⟩ (Tt ∧ T2 Tt) [] [3, 9, 10, 11] [1] ⟨tr, tr, tr, tr⟩ ?_
  refine AW.block ?_
  refine AW.loopQ (σ := Nat × Int × (List ByteArray)) (fun p => ⟨[(3, (.v (.one (.arr 1)))), (9, (vc (sl 1 (csF .f32) a0))), (10, (vI (a0.length : Int))), (11, (vI p.2.1))], [(1, (.arr false p.2.2.length 1 (gl csS p.2.2)))]⟩) (fun p => impl_numbersText_l1 K a0 p.1 p.2.1 p.2.2 = some o) (fun p => p.1) (K, (0 : Int), (List.replicate (a0.length : Int).toNat (default : ByteArray))) h ?_
  clear h
  rintro ⟨k, x4, x5⟩ h
  replace h : impl_numbersText_l1 K a0 k x4 x5 = some o := h
  show AW _ _ (⟨[(3, (.v (.one (.arr 1)))), (9, (vc (sl 1 (csF .f32) a0))), (10, (vI (a0.length : Int))), (11, (vI x4))], [(1, (.arr false x5.length 1 (gl csS x5)))]⟩ : St) _
  obtain _ | k := k
  · rw [impl_numbersText_l1] at h; cases h
  rw [impl_numbersText_l1] at h
  refine AW.sA ⟨[(3, (.v (.one (.arr 1)))), (9, (vc (sl 1 (csF .f32) a0))), (10, (vI (a0.length : Int))), (11, (vI x4)), (12, (vB (decide (x4 < (a0.length : Int)))))], [(1, (.arr false x5.length 1 (gl csS x5)))]⟩ (Tt ∧ Tt) [] [3, 9, 10, 11, 12] [1] ⟨tr, tr⟩ ?_
  refine AW.seq ?_
  rcases ite2_cases h with ⟨b6, h⟩ | ⟨b6, h⟩
  · refine AW.cond_t rfl b6 ?_
    refine AW.skip ?_
    refine thenQ_normal ?_
    refine AW.seq ?_
    refine AW.block ?_
    refine AW.seq ?_
    obtain ⟨c7, h⟩ := chk_some h
    refine AW.tC (Tt ∧ (0 ≤ x4 ∧ x4 < (a0.length : Int)) ∧ Tt ∧ T2 Tt) [] [3, 4, 5, 9, 10, 11] [1] ⟨tr, c7, tr, tr, tr, tr⟩ ?_
    obtain ⟨v8, e9, h⟩ := bind_some h
    obtain ⟨c10, h⟩ := chk_some h
    refine AW.rA ⟨[(3, (.v (.one (.arr 1)))), (9, (vc (sl 1 (csF .f32) a0))), (10, (vI (a0.length : Int))), (11, (vI x4))], [(1, (.arr false (x5.set x4.toNat v8).length 1 (gl csS (x5.set x4.toNat v8))))]⟩ (Tt ∧ T2 ((((eF (a0.getD x4.toNat default)) ∧ Tt) ∧ CallOK Tryd.prog 25 [.one (.flt .f32 (a0.getD x4.toNat default).bits)] [.one (.str v8)]) ∧ (0 ≤ x4 ∧ x4 < (x5.length : Int)) ∧ ((x5.set x4.toNat v8).length = x5.length ∧ SetOb x5.length 1 x4.toNat 0 1 (gl csS x5) (gl csS (x5.set x4.toNat v8)) ∧ ((List.range 1).map fun j => (csS v8).getD (0 + j) .nilptr) = ((List.range 1).map fun j => gl csS (x5.set x4.toNat v8) x4.toNat (0 + j)) ∧ ((((.str v8) : C) = (.str v8) ∧ Tt) ∧ Tt) ∧ (false = true → ∀ j, j < 1 → isSeq (gl csS x5 x4.toNat (0 + j)) = false ∧ isSeq (gl csS (x5.set x4.toNat v8) x4.toNat (0 + j)) = false)) ∧ Tt)) [.no, .no, .no, .call [.one (.flt .f32 (a0.getD x4.toNat default).bits)] [.one (.str v8)] [[.view]], .no, .set (x5.set x4.toNat v8).length (gl csS (x5.set x4.toNat v8)) ((List.range 1).map fun j => (csS v8).getD (0 + j) .nilptr)] [3, 9, 10, 11] [1] ⟨tr, tr, tr, ⟨⟨rfl, tr⟩, ok_impl_hexOf K (a0.getD x4.toNat default) v8 e9⟩, c10, ⟨List.length_set, gl_set, (gl_atp (lt_of_bound c10)).symm, ⟨⟨rfl, tr⟩, tr⟩, (fun h => nomatch h)⟩, tr⟩ ?_
    refine blockQ_normal ?_
    refine thenQ_normal ?_
    refine AW.rA ⟨[(3, (.v (.one (.arr 1)))), (9, (vc (sl 1 (csF .f32) a0))), (10, (vI (a0.length : Int))), (11, (vI (IntKind.i64.wrap (x4 + (1 : Int)))))], [(1, (.arr false (x5.set x4.toNat v8).length 1 (gl csS (x5.set x4.toNat v8))))]⟩ (T2 Tt) [] [3, 9, 10, 11] [1] ⟨tr, tr, tr⟩ ?_
    exact loopQ_normal (k, (IntKind.i64.wrap (x4 + (1 : Int))), (x5.set x4.toNat v8)) h (Nat.lt_succ_self k) (Sub.keep [3, 9, 10, 11] [1] (by kernel_rfl) (by kernel_rfl))
  · refine AW.cond_f rfl b6 ?_
    refine AW.exit ?_
    refine thenQ_exit ?_
    refine loopQ_exit ?_
    refine blockQ_exit ?_
    refine thenQ_normal ?_
    refine AW.seq ?_
    obtain ⟨v11, e12, h⟩ := bind_some h
    refine AW.tA ⟨[(2, (vc (.str v11)))], []⟩ (Tt ∧ (((Eqc (sl 1 csS x5)) ∧ Tt) ∧ CallOK Tryd.prog 26 [.one (sl 1 csS x5)] [.one (.str v11)]) ∧ Tt ∧ Tt) [.no, .call [.one (sl 1 csS x5)] [.one (.str v11)] [[.view]]] [2] [] ⟨tr, ⟨⟨rfl, tr⟩, ok_impl_joined K x5 v11 e12⟩, tr, tr⟩ ?_
    refine AW.ret ?_
    replace h := some_eq h
    subst h
    exact ⟨.inr rfl, retOK_of [(.one (.c (.str v11)))] (by kernel_rfl) ⟨⟨rfl, tr⟩, tr⟩ (of_decide_eq_true (by kernel_rfl))⟩

/-! impl.NumbersText -/
def impl_NumbersText (K : Nat) (a0 : (List F32)) : Option (ByteArray × Bool) :=
  ite2 ((decide ((a0.length : Int) > (256 : Int)))) (some (ByteArray.empty, false)) ((impl_numbersText K a0).bind fun v2 => some (v2, true))

theorem ok_impl_NumbersText (K : Nat) (a0 : (List F32)) (o : (ByteArray × Bool)) (h : impl_NumbersText K a0 = some o) : CallOK Tryd.prog 7 [.one (sl 1 (csF .f32) a0)] [.one (.str o.1), .one (.bool o.2)] := by
  refine callOK_of_AW Tryd.func7 rfl (by kernel_rfl) (Nat.le_of_ble_eq_true (by kernel_rfl)) ?_
  intro w0
  unfold impl_NumbersText at h
  refine AW.sC (T2 Tt) [] [0] [] ⟨tr, tr, tr⟩ ?_
  refine AW.seq ?_
  refine AW.sA ⟨[(0, (vc (sl 1 (csF .f32) a0))), (6, (vB (decide ((a0.length : Int) > (256 : Int)))))], []⟩ (Tt ∧ T2 Tt) [] [0, 6] [] ⟨tr, tr, tr, tr⟩ ?_
  rcases ite2_cases h with ⟨b1, h⟩ | ⟨b1, h⟩
  · refine AW.cond_t rfl b1 ?_
    refine AW.sA ⟨[(2, (vc (.str ByteArray.empty))), (3, (vB false))], []⟩ (T2 Tt) [] [2, 3] [] ⟨tr, tr, tr⟩ ?_
    refine AW.ret ?_
    refine thenQ_ret ?_
    replace h := some_eq h
    subst h
    exact ⟨.inr rfl, retOK_of [(.one (.c (.str ByteArray.empty))), (.one (.c (.bool false)))] (by kernel_rfl) ⟨⟨rfl, tr⟩, ⟨rfl, tr⟩, tr⟩ (of_decide_eq_true (by kernel_rfl))⟩
  · refine AW.cond_f rfl b1 ?_
    refine AW.skip ?_
    refine thenQ_normal ?_
    refine AW.seq ?_
    obtain ⟨v2, e3, h⟩ := bind_some h
    refine AW.tA ⟨[(2, (vc (.str v2))), (3, (vB true))], []⟩ (Tt ∧ (((Eqc (sl 1 (csF .f32) a0)) ∧ Tt) ∧ CallOK Tryd.prog 15 [.one (sl 1 (csF .f32) a0)] [.one (.str v2)]) ∧ T2 Tt) [.no, .call [.one (sl 1 (csF .f32) a0)] [.one (.str v2)] [[.view]]] [2, 3] [] ⟨tr, ⟨⟨rfl, tr⟩, ok_impl_numbersText K a0 v2 e3⟩, tr, tr, tr⟩ ?_
    refine AW.ret ?_
    replace h := some_eq h
    subst h
    exact ⟨.inr rfl, retOK_of [(.one (.c (.str v2))), (.one (.c (.bool true)))] (by kernel_rfl) ⟨⟨rfl, tr⟩, ⟨rfl, tr⟩, tr⟩ (of_decide_eq_true (by kernel_rfl))⟩

/-! strings.Split -/
def strings_Split (_K : Nat) (a0 : ByteArray) (a1 : ByteArray) : Option ((List ByteArray)) :=
  split1 a0 a1

theorem ok_strings_Split (K : Nat) (a0 : ByteArray) (a1 : ByteArray) (o : (List ByteArray)) (h : strings_Split K a0 a1 = some o) : CallOK Tryd.prog 27 [(.one (.str a0)), (.one (.str a1))] [.one (sl 1 csS o)] :=
  hand_split Tryd.func27 (by kernel_rfl) (by kernel_rfl) (fun s c w h => Tryd.split1 s c w h) a0 a1 o h

/-! impl.words -/
def impl_words (K : Nat) (a0 : ByteArray) : Option ((List ByteArray)) :=
  ite2 ((a0.toList == (ByteArray.mk #[110, 111, 110, 101]).toList)) (some ([] : (List ByteArray))) ((strings_Split K a0 (ByteArray.mk #[44])).bind fun v2 => some v2)

theorem ok_impl_words (K : Nat) (a0 : ByteArray) (o : ((List ByteArray))) (h : impl_words K a0 = some o) : CallOK Tryd.prog 16 [.one (.str a0)] [.one (sl 1 csS o)] := by
  refine callOK_of_AW Tryd.func16 rfl (by kernel_rfl) (Nat.le_of_ble_eq_true (by kernel_rfl)) ?_
  intro w0
  unfold impl_words at h
  refine AW.sC (Tt ∧ Tt) [] [0] [] ⟨tr, tr⟩ ?_
  refine AW.seq ?_
  refine AW.sA ⟨[(0, (vc (.str a0))), (4, (vB (a0.toList == (ByteArray.mk #[110, 111, 110, 101]).toList)))], []⟩ (T2 Tt) [] [0, 4] [] ⟨tr, tr, tr⟩ ?_
  rcases ite2_cases h with ⟨b1, h⟩ | ⟨b1, h⟩
  · refine AW.cond_t rfl b1 ?_
    refine AW.sA ⟨[(2, (.v (.one .nils)))], []⟩ (Tt ∧ Tt) [] [2] [] ⟨tr, tr⟩ ?_
    refine AW.ret ?_
    refine thenQ_ret ?_
    replace h := some_eq h
    subst h
    exact ⟨.inr rfl, retOK_of [(.one .nils)] (by kernel_rfl) ⟨rfl, tr⟩ (of_decide_eq_true (by kernel_rfl))⟩
  · refine AW.cond_f rfl b1 ?_
    refine AW.skip ?_
    refine thenQ_normal ?_
    refine AW.seq ?_
    obtain ⟨v2, e3, h⟩ := bind_some h
    refine AW.tA ⟨[(2, (vL 1 1 csS v2))], [(1, (oL 1 csS v2))]⟩ (Tt ∧ (((Eqc (.str a0)) ∧ (Eqc (.str (ByteArray.mk #[44]))) ∧ Tt) ∧ CallOK Tryd.prog 27 [.one (.str a0), .one (.str (ByteArray.mk #[44]))] [.one (sl 1 csS v2)]) ∧ Tt ∧ Tt) [.no, .call [.one (.str a0), .one (.str (ByteArray.mk #[44]))] [.one (sl 1 csS v2)] [[.lst 1]]] [2] [1] ⟨tr, ⟨⟨rfl, rfl, tr⟩, ok_strings_Split K a0 (ByteArray.mk #[44]) v2 e3⟩, tr, tr⟩ ?_
    refine AW.ret ?_
    replace h := some_eq h
    subst h
    exact ⟨.inr rfl, retOK_of [(.one (xL 1 1 csS v2))] (by kernel_rfl) ⟨rfl, tr⟩ (of_decide_eq_true (by kernel_rfl))⟩

/-! strconv.ParseUint -/
def strconv_ParseUint (_K : Nat) (a0 : ByteArray) (a1 : Int) (a2 : Int) : Option ((Int × Unit)) :=
  p16 a0 a1 a2

theorem ok_strconv_ParseUint (K : Nat) (a0 : ByteArray) (a1 : Int) (a2 : Int) (o : (Int × Unit)) (h : strconv_ParseUint K a0 a1 a2 = some o) : CallOK Tryd.prog 28 [(.one (.str a0)), (.one (.int .i64 a1)), (.one (.int .i64 a2))] [.one (.int .u64 o.1), .one .niliface] :=
  hand_p16 Tryd.func28 (by kernel_rfl) (by kernel_rfl) (fun t h1 h2 h3 w => Tryd.parse16 t h1 h2 h3 w) a0 a1 a2 o h

/-! impl.fromHex -/
def impl_fromHex (K : Nat) (a0 : ByteArray) : Option (F32 × Bool) :=
  (strconv_ParseUint K a0 (16 : Int) (32 : Int)).bind fun v1 => ite2 (((a0.size : Int) != (8 : Int))) (some ((Fl.mk (k := .f32) 0 (by decide)), false)) ((math_Float32frombits K (IntKind.u32.wrap v1.1)).bind fun v4 => (impl_hexOf K v4).bind fun v6 => some (v4, (v6.toList == a0.toList)))

theorem ok_impl_fromHex (K : Nat) (a0 : ByteArray) (o : (F32 × Bool)) (h : impl_fromHex K a0 = some o) : CallOK Tryd.prog 17 [.one (.str a0)] [.one (.flt .f32 o.1.bits), .one (.bool o.2)] := by
  refine callOK_of_AW Tryd.func17 rfl (by kernel_rfl) (Nat.le_of_ble_eq_true (by kernel_rfl)) ?_
  intro w0
  unfold impl_fromHex at h
  refine AW.sC (T2 Tt) [] [0] [] ⟨tr, tr, tr⟩ ?_
  refine AW.seq ?_
  obtain ⟨v1, e2, h⟩ := bind_some h
  refine AW.tC (Tt ∧ (((Eqc (.str a0)) ∧ (eI (16 : Int)) ∧ (eI (32 : Int)) ∧ Tt) ∧ CallOK Tryd.prog 28 [.one (.str a0), .one (.int .i64 (16 : Int)), .one (.int .i64 (32 : Int))] [.one (.int .u64 v1.1), .one .niliface]) ∧ Tt ∧ T4 Tt) [.no, .call [.one (.str a0), .one (.int .i64 (16 : Int)), .one (.int .i64 (32 : Int))] [.one (.int .u64 v1.1), .one .niliface] [[.view], [.view]]] [0, 4, 5] [] ⟨tr, ⟨⟨rfl, rfl, rfl, tr⟩, ok_strconv_ParseUint K a0 (16 : Int) (32 : Int) v1 e2⟩, tr, tr, tr, tr, tr, tr⟩ ?_
  refine AW.seq ?_
  refine AW.sA ⟨[(0, (vc (.str a0))), (4, (vc (.int .u64 v1.1))), (18, (vB ((a0.size : Int) != (8 : Int))))], []⟩ (Tt ∧ T2 (T4 Tt)) [] [0, 4, 18] [] ⟨tr, tr, tr, tr, tr, tr, tr, tr⟩ ?_
  rcases ite2_cases h with ⟨b3, h⟩ | ⟨b3, h⟩
  · refine AW.cond_t rfl b3 ?_
    refine AW.sA ⟨[(2, (vc (.flt .f32 (Fl.mk (k := .f32) 0 (by decide)).bits))), (3, (vB false))], []⟩ (T2 Tt) [] [2, 3] [] ⟨tr, tr, tr⟩ ?_
    refine AW.ret ?_
    refine thenQ_ret ?_
    replace h := some_eq h
    subst h
    exact ⟨.inr rfl, retOK_of [(.one (cF (Fl.mk (k := .f32) 0 (by decide)))), (.one (.c (.bool false)))] (by kernel_rfl) ⟨⟨rfl, tr⟩, ⟨rfl, tr⟩, tr⟩ (of_decide_eq_true (by kernel_rfl))⟩
  · refine AW.cond_f rfl b3 ?_
    refine AW.skip ?_
    refine thenQ_normal ?_
    refine AW.seq ?_
    obtain ⟨v4, e5, h⟩ := bind_some h
    refine AW.tC (T2 ((((Eqc (.int .u32 (IntKind.u32.wrap v1.1))) ∧ Tt) ∧ CallOK Tryd.prog 29 [.one (.int .u32 (IntKind.u32.wrap v1.1))] [.one (.flt .f32 v4.bits)]) ∧ Tt ∧ Tt)) [.no, .no, .call [.one (.int .u32 (IntKind.u32.wrap v1.1))] [.one (.flt .f32 v4.bits)] [[.view]]] [0, 6] [] ⟨tr, tr, ⟨⟨rfl, tr⟩, ok_math_Float32frombits K (IntKind.u32.wrap v1.1) v4 e5⟩, tr, tr⟩ ?_
    refine AW.seq ?_
    obtain ⟨v6, e7, h⟩ := bind_some h
    refine AW.tA ⟨[(2, (vc (.flt .f32 v4.bits))), (3, (vB (v6.toList == a0.toList)))], []⟩ (T2 ((((eF v4) ∧ Tt) ∧ CallOK Tryd.prog 25 [.one (.flt .f32 v4.bits)] [.one (.str v6)]) ∧ T4 Tt)) [.no, .no, .call [.one (.flt .f32 v4.bits)] [.one (.str v6)] [[.view]]] [2, 3] [] ⟨tr, tr, ⟨⟨rfl, tr⟩, ok_impl_hexOf K v4 v6 e7⟩, tr, tr, tr, tr, tr⟩ ?_
    refine AW.ret ?_
    replace h := some_eq h
    subst h
    exact ⟨.inr rfl, retOK_of [(.one (cF v4)), (.one (.c (.bool (v6.toList == a0.toList))))] (by kernel_rfl) ⟨⟨rfl, tr⟩, ⟨rfl, tr⟩, tr⟩ (of_decide_eq_true (by kernel_rfl))⟩

/-! impl.ReadNumbers -/
def impl_ReadNumbers_l1 (K : Nat) (v1 : ((List ByteArray))) : Nat → Int → (List F32) → Option ((List F32) × Bool)
  | 0, _, _ => none
  | k + 1, x7, x8 => ite2 ((decide (x7 < (v1.length : Int)))) (chk (0 ≤ x7 ∧ x7 < (v1.length : Int)) ((impl_fromHex K (v1.getD x7.toNat default)).bind fun v11 => ite2 ((!v11.2)) (some (([] : (List F32)), false)) (chk (0 ≤ x7 ∧ x7 < (x8.length : Int)) (impl_ReadNumbers_l1 K v1 k (IntKind.i64.wrap (x7 + (1 : Int))) (x8.set x7.toNat v11.1))))) (some (x8, true))

def impl_ReadNumbers (K : Nat) (a0 : ByteArray) : Option ((List F32) × Bool) :=
  (impl_words K a0).bind fun v1 => ite2 ((decide ((v1.length : Int) > (256 : Int)))) (some (([] : (List F32)), false)) (chk (0 ≤ (v1.length : Int) ∧ (v1.length : Int).toNat * 4 ≤ 140737488355328) (impl_ReadNumbers_l1 K v1 K (0 : Int) (List.replicate (v1.length : Int).toNat (default : F32))))

theorem ok_impl_ReadNumbers (K : Nat) (a0 : ByteArray) (o : ((List F32) × Bool)) (h : impl_ReadNumbers K a0 = some o) : CallOK Tryd.prog 8 [.one (.str a0)] [.one (sl 1 (csF .f32) o.1), .one (.bool o.2)] := by
  refine callOK_of_AW Tryd.func8 rfl (by kernel_rfl) (Nat.le_of_ble_eq_true (by kernel_rfl)) ?_
  intro w0
  unfold impl_ReadNumbers at h
  refine AW.sC (T2 Tt) [] [0] [] ⟨tr, tr, tr⟩ ?_
  refine AW.seq ?_
  obtain ⟨v1, e2, h⟩ := bind_some h
  refine AW.tC (Tt ∧ (((Eqc (.str a0)) ∧ Tt) ∧ CallOK Tryd.prog 16 [.one (.str a0)] [.one (sl 1 csS v1)]) ∧ Tt ∧ Tt) [.no, .call [.one (.str a0)] [.one (sl 1 csS v1)] [[.lst 1]]] [4] [1] ⟨tr, ⟨⟨rfl, tr⟩, ok_impl_words K a0 v1 e2⟩, tr, tr⟩ ?_
  refine AW.seq ?_
  refine AW.sA ⟨[(4, (vL 1 1 csS v1)), (14, (vB (decide ((v1.length : Int) > (256 : Int)))))], [(1, (oL 1 csS v1))]⟩ (Tt ∧ T2 Tt) [] [4, 14] [1] ⟨tr, tr, tr, tr⟩ ?_
  rcases ite2_cases h with ⟨b3, h⟩ | ⟨b3, h⟩
  · refine AW.cond_t rfl b3 ?_
    refine AW.sA ⟨[(2, (.v (.one .nils))), (3, (vB false))], []⟩ (T2 Tt) [] [2, 3] [] ⟨tr, tr, tr⟩ ?_
    refine AW.ret ?_
    refine thenQ_ret ?_
    replace h := some_eq h
    subst h
    exact ⟨.inr rfl, retOK_of [(.one .nils), (.one (.c (.bool false)))] (by kernel_rfl) ⟨rfl, ⟨rfl, tr⟩, tr⟩ (of_decide_eq_true (by kernel_rfl))⟩
  · refine AW.cond_f rfl b3 ?_
    refine AW.skip ?_
    refine thenQ_normal ?_
    refine AW.seq ?_
    obtain ⟨c4, h⟩ := chk_some h
    refine AW.tC (T2 ((0 ≤ (v1.length : Int) ∧ (v1.length : Int) = (v1.length : Int) ∧ (((List.replicate (v1.length : Int).toNat (default : F32)).length : Nat) : Int) = (v1.length : Int) ∧ (List.replicate (v1.length : Int).toNat (default : F32)).length * 4 ≤ 140737488355328 ∧ ∀ i, i < (List.replicate (v1.length : Int).toNat (default : F32)).length → zeroRow (fun _ => none) [(cF (default : F32))] (gl (csF .f32) (List.replicate (v1.length : Int).toNat (default : F32)) i)) ∧ Tt ∧ Tt)) [.no, .no, .objA 2 (List.replicate (v1.length : Int).toNat (default : F32)).length (gl (csF .f32) (List.replicate (v1.length : Int).toNat (default : F32)))] [4, 5] [1, 2] ⟨tr, tr, ⟨c4.1, rfl, len_rep c4.1, rep_bytes c4.2, fun i hi => gl_zero (cs := (csF .f32)) (zs := [(cF (default : F32))]) (n := (v1.length : Int).toNat) ⟨⟨rfl, tr⟩, tr⟩ i (rep_lt hi)⟩, tr, tr⟩ ?_
    refine AW.seq ?_
    refine AW.sA ⟨[(5, (.v (.one (.arr 2)))), (18, (vL 1 1 csS v1)), (19, (vI (v1.length : Int))), (20, (vI (0 : Int)))], [(1, (oL 1 csS v1)), (2, (.arr false (List.replicate (v1.length : Int).toNat (default : F32)).length 1 (gl (csF .f32) (List.replicate (v1.length : Int).toNat (default : F32)))))]⟩ (Tt ∧ T2 Tt) [] [5, 18, 19, 20] [1, 2] ⟨tr, tr, tr, tr⟩ ?_
    refine AW.block ?_
    refine AW.loopQ (σ := Nat × Int × (List F32)) (fun p => ⟨[(5, (.v (.one (.arr 2)))), (18, (vL 1 1 csS v1)), (19, (vI (v1.length : Int))), (20, (vI p.2.1))], [(1, (oL 1 csS v1)), (2, (.arr false p.2.2.length 1 (gl (csF .f32) p.2.2)))]⟩) (fun p => impl_ReadNumbers_l1 K v1 p.1 p.2.1 p.2.2 = some o) (fun p => p.1) (K, (0 : Int), (List.replicate (v1.length : Int).toNat (default : F32))) h ?_
    clear h
    rintro ⟨k, x7, x8⟩ h
    replace h : impl_ReadNumbers_l1 K v1 k x7 x8 = some o := h
    show AW _ _ (⟨[(5, (.v (.one (.arr 2)))), (18, (vL 1 1 csS v1)), (19, (vI (v1.length : Int))), (20, (vI x7))], [(1, (oL 1 csS v1)), (2, (.arr false x8.length 1 (gl (csF .f32) x8)))]⟩ : St) _
    obtain _ | k := k
    · rw [impl_ReadNumbers_l1] at h; cases h
    rw [impl_ReadNumbers_l1] at h
    refine AW.sA ⟨[(5, (.v (.one (.arr 2)))), (18, (vL 1 1 csS v1)), (19, (vI (v1.length : Int))), (20, (vI x7)), (21, (vB (decide (x7 < (v1.length : Int)))))], [(1, (oL 1 csS v1)), (2, (.arr false x8.length 1 (gl (csF .f32) x8)))]⟩ (Tt ∧ Tt) [] [5, 18, 19, 20, 21] [1, 2] ⟨tr, tr⟩ ?_
    refine AW.seq ?_
    rcases ite2_cases h with ⟨b9, h⟩ | ⟨b9, h⟩
    · refine AW.cond_t rfl b9 ?_
      refine AW.skip ?_
      refine thenQ_normal ?_
      refine AW.seq ?_
      refine AW.block ?_
      refine AW.seq ?_
      obtain ⟨c10, h⟩ := chk_some h
      refine AW.tC (Tt ∧ (0 ≤ x7 ∧ x7 < (v1.length : Int)) ∧ Tt ∧ T2 Tt) [] [5, 6, 7, 18, 19, 20] [1, 2] ⟨tr, c10, tr, tr, tr, tr⟩ ?_
      refine AW.seq ?_
      obtain ⟨v11, e12, h⟩ := bind_some h
      refine AW.tC (Tt ∧ (((Eqc (.str (v1.getD x7.toNat default))) ∧ Tt) ∧ CallOK Tryd.prog 17 [.one (.str (v1.getD x7.toNat default))] [.one (.flt .f32 v11.1.bits), .one (.bool v11.2)]) ∧ Tt ∧ T4 Tt) [.no, .call [.one (.str (v1.getD x7.toNat default))] [.one (.flt .f32 v11.1.bits), .one (.bool v11.2)] [[.view], [.view]]] [5, 6, 8, 9, 18, 19, 20] [1, 2] ⟨tr, ⟨⟨rfl, tr⟩, ok_impl_fromHex K (v1.getD x7.toNat default) v11 e12⟩, tr, tr, tr, tr, tr, tr⟩ ?_
      refine AW.seq ?_
      refine AW.sA ⟨[(5, (.v (.one (.arr 2)))), (6, (vI x7)), (8, (vc (.flt .f32 v11.1.bits))), (18, (vL 1 1 csS v1)), (19, (vI (v1.length : Int))), (20, (vI x7)), (31, (vB (!v11.2)))], [(1, (oL 1 csS v1)), (2, (.arr false x8.length 1 (gl (csF .f32) x8)))]⟩ (T2 Tt) [] [5, 6, 8, 18, 19, 20, 31] [1, 2] ⟨tr, tr, tr⟩ ?_
      rcases ite2_cases h with ⟨b13, h⟩ | ⟨b13, h⟩
      · refine AW.cond_t rfl b13 ?_
        refine AW.sA ⟨[(2, (.v (.one .nils))), (3, (vB false))], []⟩ (T2 Tt) [] [2, 3] [] ⟨tr, tr, tr⟩ ?_
        refine AW.ret ?_
        refine thenQ_ret ?_
        refine blockQ_ret ?_
        refine thenQ_ret ?_
        refine loopQ_ret ?_
        refine blockQ_ret ?_
        refine thenQ_ret ?_
        replace h := some_eq h
        subst h
        exact ⟨.inr rfl, retOK_of [(.one .nils), (.one (.c (.bool false)))] (by kernel_rfl) ⟨rfl, ⟨rfl, tr⟩, tr⟩ (of_decide_eq_true (by kernel_rfl))⟩
      · refine AW.cond_f rfl b13 ?_
        refine AW.skip ?_
        refine thenQ_normal ?_
        obtain ⟨c14, h⟩ := chk_some h
        refine AW.rA ⟨[(5, (.v (.one (.arr 2)))), (18, (vL 1 1 csS v1)), (19, (vI (v1.length : Int))), (20, (vI x7))], [(1, (oL 1 csS v1)), (2, (.arr false (x8.set x7.toNat v11.1).length 1 (gl (csF .f32) (x8.set x7.toNat v11.1))))]⟩ (Tt ∧ T2 ((0 ≤ x7 ∧ x7 < (x8.length : Int)) ∧ ((x8.set x7.toNat v11.1).length = x8.length ∧ SetOb x8.length 1 x7.toNat 0 1 (gl (csF .f32) x8) (gl (csF .f32) (x8.set x7.toNat v11.1)) ∧ ((List.range 1).map fun j => ((csF .f32) v11.1).getD (0 + j) .nilptr) = ((List.range 1).map fun j => gl (csF .f32) (x8.set x7.toNat v11.1) x7.toNat (0 + j)) ∧ ((((.flt .f32 v11.1.bits) : C) = (.flt .f32 v11.1.bits) ∧ Tt) ∧ Tt) ∧ (false = true → ∀ j, j < 1 → isSeq (gl (csF .f32) x8 x7.toNat (0 + j)) = false ∧ isSeq (gl (csF .f32) (x8.set x7.toNat v11.1) x7.toNat (0 + j)) = false)) ∧ Tt)) [.no, .no, .no, .no, .set (x8.set x7.toNat v11.1).length (gl (csF .f32) (x8.set x7.toNat v11.1)) ((List.range 1).map fun j => ((csF .f32) v11.1).getD (0 + j) .nilptr)] [5, 18, 19, 20] [1, 2] ⟨tr, tr, tr, c14, ⟨List.length_set, gl_set, (gl_atp (lt_of_bound c14)).symm, ⟨⟨rfl, tr⟩, tr⟩, (fun h => nomatch h)⟩, tr⟩ ?_
        refine blockQ_normal ?_
        refine thenQ_normal ?_
        refine AW.rA ⟨[(5, (.v (.one (.arr 2)))), (18, (vL 1 1 csS v1)), (19, (vI (v1.length : Int))), (20, (vI (IntKind.i64.wrap (x7 + (1 : Int)))))], [(1, (oL 1 csS v1)), (2, (.arr false (x8.set x7.toNat v11.1).length 1 (gl (csF .f32) (x8.set x7.toNat v11.1))))]⟩ (T2 Tt) [] [5, 18, 19, 20] [1, 2] ⟨tr, tr, tr⟩ ?_
        exact loopQ_normal (k, (IntKind.i64.wrap (x7 + (1 : Int))), (x8.set x7.toNat v11.1)) h (Nat.lt_succ_self k) (Sub.keep [5, 18, 19, 20] [1, 2] (by kernel_rfl) (by kernel_rfl))
    · refine AW.cond_f rfl b9 ?_
      refine AW.exit ?_
      refine thenQ_exit ?_
      refine loopQ_exit ?_
      refine blockQ_exit ?_
      refine thenQ_normal ?_
      refine AW.sA ⟨[(2, (.v (.one (.arr 2)))), (3, (vB true))], [(2, (.arr false x8.length 1 (gl (csF .f32) x8)))]⟩ (Tt ∧ T2 Tt) [] [2, 3] [2] ⟨tr, tr, tr, tr⟩ ?_
      refine AW.ret ?_
      replace h := some_eq h
      subst h
      exact ⟨.inr rfl, retOK_of [(.one (.arr 2)), (.one (.c (.bool true)))] (by kernel_rfl) ⟨rfl, ⟨rfl, tr⟩, tr⟩ (of_decide_eq_true (by kernel_rfl))⟩

/-! spec.l01Bits -/
def spec_l01Bits (K : Nat) (a0 : F32) : Option (Int) :=
  ite2 ((a0.ne a0)) (some (2143289344 : Int)) ((math_Float32bits K a0).bind fun v2 => some (IntKind.i64.wrap v2))

theorem ok_spec_l01Bits (K : Nat) (a0 : F32) (o : (Int)) (h : spec_l01Bits K a0 = some o) : CallOK Tryd.prog 43 [.one (.flt .f32 a0.bits)] [.one (.int .i64 o)] := by
  refine callOK_of_AW Tryd.func43 rfl (by kernel_rfl) (Nat.le_of_ble_eq_true (by kernel_rfl)) ?_
  intro w0
  unfold spec_l01Bits at h
  refine AW.sC (Tt ∧ Tt) [] [0] [] ⟨tr, tr⟩ ?_
  refine AW.seq ?_
  refine AW.sA ⟨[(0, (vc (.flt .f32 a0.bits))), (5, (vB (a0.ne a0)))], []⟩ (Tt ∧ T2 Tt) [] [0, 5] [] ⟨tr, tr, tr, tr⟩ ?_
  rcases ite2_cases h with ⟨b1, h⟩ | ⟨b1, h⟩
  · refine AW.cond_t rfl b1 ?_
    refine AW.sA ⟨[(2, (vI (2143289344 : Int)))], []⟩ (Tt ∧ Tt) [] [2] [] ⟨tr, tr⟩ ?_
    refine AW.ret ?_
    refine thenQ_ret ?_
    replace h := some_eq h
    subst h
    exact ⟨.inr rfl, retOK_of [(.one (cI (2143289344 : Int)))] (by kernel_rfl) ⟨⟨rfl, tr⟩, tr⟩ (of_decide_eq_true (by kernel_rfl))⟩
  · refine AW.cond_f rfl b1 ?_
    refine AW.skip ?_
    refine thenQ_normal ?_
    refine AW.seq ?_
    obtain ⟨v2, e3, h⟩ := bind_some h
    refine AW.tA ⟨[(2, (vI (IntKind.i64.wrap v2)))], []⟩ (Tt ∧ (((eF a0) ∧ Tt) ∧ CallOK Tryd.prog 47 [.one (.flt .f32 a0.bits)] [.one (.int .u32 v2)]) ∧ T2 Tt) [.no, .call [.one (.flt .f32 a0.bits)] [.one (.int .u32 v2)] [[.view]]] [2] [] ⟨tr, ⟨⟨rfl, tr⟩, ok_math_Float32bits K a0 v2 e3⟩, tr, tr, tr⟩ ?_
    refine AW.ret ?_
    replace h := some_eq h
    subst h
    exact ⟨.inr rfl, retOK_of [(.one (cI (IntKind.i64.wrap v2)))] (by kernel_rfl) ⟨⟨rfl, tr⟩, tr⟩ (of_decide_eq_true (by kernel_rfl))⟩

/-! spec.l01Same -/
def spec_l01Same (K : Nat) (a0 : F32) (a1 : F32) : Option (Bool) :=
  (spec_l01Bits K a0).bind fun v1 => (spec_l01Bits K a1).bind fun v3 => some (v1 == v3)

theorem ok_spec_l01Same (K : Nat) (a0 : F32) (a1 : F32) (o : (Bool)) (h : spec_l01Same K a0 a1 = some o) : CallOK Tryd.prog 30 [.one (.flt .f32 a0.bits), .one (.flt .f32 a1.bits)] [.one (.bool o)] := by
  refine callOK_of_AW Tryd.func30 rfl (by kernel_rfl) (Nat.le_of_ble_eq_true (by kernel_rfl)) ?_
  intro w0
  unfold spec_l01Same at h
  refine AW.sC (Tt ∧ Tt) [] [0, 1] [] ⟨tr, tr⟩ ?_
  refine AW.seq ?_
  obtain ⟨v1, e2, h⟩ := bind_some h
  obtain ⟨v3, e4, h⟩ := bind_some h
  refine AW.tA ⟨[(4, (vB (v1 == v3)))], []⟩ (Tt ∧ (((eF a0) ∧ Tt) ∧ CallOK Tryd.prog 43 [.one (.flt .f32 a0.bits)] [.one (.int .i64 v1)]) ∧ Tt ∧ (((eF a1) ∧ Tt) ∧ CallOK Tryd.prog 43 [.one (.flt .f32 a1.bits)] [.one (.int .i64 v3)]) ∧ T2 Tt) [.no, .call [.one (.flt .f32 a0.bits)] [.one (.int .i64 v1)] [[.view]], .no, .call [.one (.flt .f32 a1.bits)] [.one (.int .i64 v3)] [[.view]]] [4] [] ⟨tr, ⟨⟨rfl, tr⟩, ok_spec_l01Bits K a0 v1 e2⟩, tr, ⟨⟨rfl, tr⟩, ok_spec_l01Bits K a1 v3 e4⟩, tr, tr, tr⟩ ?_
  refine AW.ret ?_
  replace h := some_eq h
  subst h
  exact ⟨.inr rfl, retOK_of [(.one (.c (.bool (v1 == v3))))] (by kernel_rfl) ⟨⟨rfl, tr⟩, tr⟩ (of_decide_eq_true (by kernel_rfl))⟩

/-! spec.SameNumber -/
def spec_SameNumber (K : Nat) (a0 : F32) (a1 : F32) : Option (Bool) :=
  (spec_l01Same K a0 a1).bind fun v1 => some v1

theorem ok_spec_SameNumber (K : Nat) (a0 : F32) (a1 : F32) (o : (Bool)) (h : spec_SameNumber K a0 a1 = some o) : CallOK Tryd.prog 18 [.one (.flt .f32 a0.bits), .one (.flt .f32 a1.bits)] [.one (.bool o)] := by
  refine callOK_of_AW Tryd.func18 rfl (by kernel_rfl) (Nat.le_of_ble_eq_true (by kernel_rfl)) ?_
  intro w0
  unfold spec_SameNumber at h
  refine AW.sC (Tt ∧ Tt) [] [0, 1] [] ⟨tr, tr⟩ ?_
  refine AW.seq ?_
  obtain ⟨v1, e2, h⟩ := bind_some h
  refine AW.tA ⟨[(4, (vB v1))], []⟩ (T2 ((((eF a0) ∧ (eF a1) ∧ Tt) ∧ CallOK Tryd.prog 30 [.one (.flt .f32 a0.bits), .one (.flt .f32 a1.bits)] [.one (.bool v1)]) ∧ Tt ∧ Tt)) [.no, .no, .call [.one (.flt .f32 a0.bits), .one (.flt .f32 a1.bits)] [.one (.bool v1)] [[.view]]] [4] [] ⟨tr, tr, ⟨⟨rfl, rfl, tr⟩, ok_spec_l01Same K a0 a1 v1 e2⟩, tr, tr⟩ ?_
  refine AW.ret ?_
  replace h := some_eq h
  subst h
  exact ⟨.inr rfl, retOK_of [(.one (.c (.bool v1)))] (by kernel_rfl) ⟨⟨rfl, tr⟩, tr⟩ (of_decide_eq_true (by kernel_rfl))⟩

/-! laws.b10Same -/
def laws_b10Same_l1 (K : Nat) (a0 : (List F32)) (a1 : (List F32)) : Nat → Int → Option (Bool)
  | 0, _ => none
  | k + 1, x3 => ite2 ((decide (x3 < (a0.length : Int)))) (chk (0 ≤ x3 ∧ x3 < (a0.length : Int)) (chk (0 ≤ x3 ∧ x3 < (a1.length : Int)) ((spec_SameNumber K (a0.getD x3.toNat default) (a1.getD x3.toNat default)).bind fun v7 => ite2 ((!v7)) (some false) (laws_b10Same_l1 K a0 a1 k (IntKind.i64.wrap (x3 + (1 : Int))))))) (some true)

def laws_b10Same (K : Nat) (a0 : (List F32)) (a1 : (List F32)) : Option (Bool) :=
  ite2 (((a0.length : Int) != (a1.length : Int))) (some false) (laws_b10Same_l1 K a0 a1 K (0 : Int))

theorem ok_laws_b10Same (K : Nat) (a0 : (List F32)) (a1 : (List F32)) (o : (Bool)) (h : laws_b10Same K a0 a1 = some o) : CallOK Tryd.prog 9 [.one (sl 1 (csF .f32) a0), .one (sl 1 (csF .f32) a1)] [.one (.bool o)] := by
  refine callOK_of_AW Tryd.func9 rfl (by kernel_rfl) (Nat.le_of_ble_eq_true (by kernel_rfl)) ?_
  intro w0
  unfold laws_b10Same at h
  refine AW.sC (Tt ∧ Tt) [] [0, 1] [] ⟨tr, tr⟩ ?_
  refine AW.seq ?_
  refine AW.sA ⟨[(0, (vc (sl 1 (csF .f32) a0))), (1, (vc (sl 1 (csF .f32) a1))), (10, (vB ((a0.length : Int) != (a1.length : Int))))], []⟩ (Tt ∧ T4 Tt) [] [0, 1, 10] [] ⟨tr, tr, tr, tr, tr, tr⟩ ?_
  rcases ite2_cases h with ⟨b1, h⟩ | ⟨b1, h⟩
  · refine AW.cond_t rfl b1 ?_
    refine AW.sA ⟨[(4, (vB false))], []⟩ (Tt ∧ Tt) [] [4] [] ⟨tr, tr⟩ ?_
    refine AW.ret ?_
    refine thenQ_ret ?_
    replace h := some_eq h
    subst h
    exact ⟨.inr rfl, retOK_of [(.one (.c (.bool false)))] (by kernel_rfl) ⟨⟨rfl, tr⟩, tr⟩ (of_decide_eq_true (by kernel_rfl))⟩
  · refine AW.cond_f rfl b1 ?_
    refine AW.skip ?_
    refine thenQ_normal ?_
    refine AW.seq ?_
    refine AW.sA ⟨[(0, (vc (sl 1 (csF .f32) a0))), (1, (vc (sl 1 (csF .f32) a1))), (5, (vI (0 : Int)))], []⟩ (Tt ∧ Tt) [] [0, 1, 5] [] ⟨tr, tr⟩ ?_
    refine AW.block ?_
    refine AW.loopQ (σ := Nat × Int) (fun p => ⟨[(0, (vc (sl 1 (csF .f32) a0))), (1, (vc (sl 1 (csF .f32) a1))), (5, (vI p.2))], []⟩) (fun p => laws_b10Same_l1 K a0 a1 p.1 p.2 = some o) (fun p => p.1) (K, (0 : Int)) h ?_
    clear h
    rintro ⟨k, x3⟩ h
    replace h : laws_b10Same_l1 K a0 a1 k x3 = some o := h
    show AW _ _ (⟨[(0, (vc (sl 1 (csF .f32) a0))), (1, (vc (sl 1 (csF .f32) a1))), (5, (vI x3))], []⟩ : St) _
    obtain _ | k := k
    · rw [laws_b10Same_l1] at h; cases h
    rw [laws_b10Same_l1] at h
    refine AW.seq ?_
    refine AW.sA ⟨[(0, (vc (sl 1 (csF .f32) a0))), (1, (vc (sl 1 (csF .f32) a1))), (5, (vI x3)), (14, (vB (decide (x3 < (a0.length : Int)))))], []⟩ (T4 Tt) [] [0, 1, 5, 14] [] ⟨tr, tr, tr, tr, tr⟩ ?_
    rcases ite2_cases h with ⟨b4, h⟩ | ⟨b4, h⟩
    · refine AW.cond_t rfl b4 ?_
      refine AW.skip ?_
      refine thenQ_normal ?_
      refine AW.seq ?_
      refine AW.block ?_
      refine AW.seq ?_
      obtain ⟨c5, h⟩ := chk_some h
      obtain ⟨c6, h⟩ := chk_some h
      obtain ⟨v7, e8, h⟩ := bind_some h
      refine AW.dA ⟨[(0, (vc (sl 1 (csF .f32) a0))), (1, (vc (sl 1 (csF .f32) a1))), (5, (vI x3)), (26, (vB (!v7)))], []⟩ ((T2 ((0 ≤ x3 ∧ x3 < (a0.length : Int)) ∧ Tt ∧ T2 ((0 ≤ x3 ∧ x3 < (a1.length : Int)) ∧ Tt ∧ (((eF (a0.getD x3.toNat default)) ∧ (eF (a1.getD x3.toNat default)) ∧ Tt) ∧ CallOK Tryd.prog 18 [.one (.flt .f32 (a0.getD x3.toNat default).bits), .one (.flt .f32 (a1.getD x3.toNat default).bits)] [.one (.bool v7)]) ∧ Tt ∧ Tt))) ∧ (Tt)) 10 [.no, .no, .no, .no, .no, .no, .no, .no, .call [.one (.flt .f32 (a0.getD x3.toNat default).bits), .one (.flt .f32 (a1.getD x3.toNat default).bits)] [.one (.bool v7)] [[.view]]] [0, 1, 5, 26] [] ⟨⟨tr, tr, c5, tr, tr, tr, c6, tr, ⟨⟨rfl, rfl, tr⟩, ok_spec_SameNumber K (a0.getD x3.toNat default) (a1.getD x3.toNat default) v7 e8⟩, tr, tr⟩, tr⟩ ?_
      refine thenQ_normal ?_
      rcases ite2_cases h with ⟨b9, h⟩ | ⟨b9, h⟩
      · refine AW.cond_t rfl b9 ?_
        refine AW.sA ⟨[(4, (vB false))], []⟩ (Tt ∧ Tt) [] [4] [] ⟨tr, tr⟩ ?_
        refine AW.ret ?_
        refine blockQ_ret ?_
        refine thenQ_ret ?_
        refine loopQ_ret ?_
        refine blockQ_ret ?_
        refine thenQ_ret ?_
        replace h := some_eq h
        subst h
        exact ⟨.inr rfl, retOK_of [(.one (.c (.bool false)))] (by kernel_rfl) ⟨⟨rfl, tr⟩, tr⟩ (of_decide_eq_true (by kernel_rfl))⟩
      · refine AW.cond_f rfl b9 ?_
        refine AW.skip ?_
        refine blockQ_normal ?_
        refine thenQ_normal ?_
        refine AW.rA ⟨[(0, (vc (sl 1 (csF .f32) a0))), (1, (vc (sl 1 (csF .f32) a1))), (5, (vI (IntKind.i64.wrap (x3 + (1 : Int)))))], []⟩ (Tt ∧ T2 Tt) [] [0, 1, 5] [] ⟨tr, tr, tr, tr⟩ ?_
        exact loopQ_normal (k, (IntKind.i64.wrap (x3 + (1 : Int)))) h (Nat.lt_succ_self k) (Sub.keep [0, 1, 5] [] (by kernel_rfl) (by kernel_rfl))
    · refine AW.cond_f rfl b4 ?_
      refine AW.exit ?_
      refine thenQ_exit ?_
      refine loopQ_exit ?_
      refine blockQ_exit ?_
      refine thenQ_normal ?_
      refine AW.sA ⟨[(4, (vB true))], []⟩ (Tt ∧ Tt) [] [4] [] ⟨tr, tr⟩ ?_
      refine AW.ret ?_
      replace h := some_eq h
      subst h
      exact ⟨.inr rfl, retOK_of [(.one (.c (.bool true)))] (by kernel_rfl) ⟨⟨rfl, tr⟩, tr⟩ (of_decide_eq_true (by kernel_rfl))⟩

/-! impl.isValue -/
def impl_isValue (_K : Nat) (a0 : Int) : Option (Bool) :=
  (ite2 ((decide (a0 ≥ ((-1000000000000000) : Int)))) (some (decide (a0 ≤ (1000000000000000 : Int)))) (some false)).bind fun j2 => some j2

theorem ok_impl_isValue (K : Nat) (a0 : Int) (o : (Bool)) (h : impl_isValue K a0 = some o) : CallOK Tryd.prog 19 [.one (.int .i64 a0)] [.one (.bool o)] := by
  refine callOK_of_AW Tryd.func19 rfl (by kernel_rfl) (Nat.le_of_ble_eq_true (by kernel_rfl)) ?_
  intro w0
  unfold impl_isValue at h
  refine AW.sA ⟨[(0, (vI a0))], []⟩ (Tt ∧ Tt) [] [0] [] ⟨tr, tr⟩ ?_
  refine AW.seq ?_
  obtain ⟨j2, e3, h⟩ := bind_some h
  refine AW.join1 (s2 := ⟨[(2, (vB j2))], []⟩) ?_ ?_
  · rcases ite2_cases e3 with ⟨b1, e3⟩ | ⟨b1, e3⟩
    · replace e3 := some_eq e3
      subst e3
      exact AW.rA ⟨[(2, (vB (decide (a0 ≤ (1000000000000000 : Int)))))], []⟩ (T2 ((Tt ∧ (decide (a0 ≥ ((-1000000000000000) : Int))) = true) ∧ T4 Tt)) [.no, .no, .dec true] [2] [] ⟨tr, tr, ⟨tr, b1⟩, tr, tr, tr, tr, tr⟩ ⟨rfl, rfl⟩
    · replace e3 := some_eq e3
      subst e3
      exact AW.rA ⟨[(2, (vB false))], []⟩ (T2 ((Tt ∧ (decide (a0 ≥ ((-1000000000000000) : Int))) = false) ∧ T4 Tt)) [.no, .no, .dec false] [2] [] ⟨tr, tr, ⟨tr, b1⟩, tr, tr, tr, tr, tr⟩ ⟨rfl, rfl⟩
  refine thenQ_normal ?_
  refine AW.ret ?_
  replace h := some_eq h
  subst h
  exact ⟨.inr rfl, retOK_of [(.one (.c (.bool j2)))] (by kernel_rfl) ⟨⟨rfl, tr⟩, tr⟩ (of_decide_eq_true (by kernel_rfl))⟩

/-! impl.Decimal -/
def impl_Decimal (K : Nat) (a0 : Int) : Option (ByteArray) :=
  (strconv_FormatInt K a0 (10 : Int)).bind fun v1 => some v1

theorem ok_impl_Decimal (K : Nat) (a0 : Int) (o : (ByteArray)) (h : impl_Decimal K a0 = some o) : CallOK Tryd.prog 31 [.one (.int .i64 a0)] [.one (.str o)] := by
  refine callOK_of_AW Tryd.func31 rfl (by kernel_rfl) (Nat.le_of_ble_eq_true (by kernel_rfl)) ?_
  intro w0
  unfold impl_Decimal at h
  refine AW.sC (Tt ∧ Tt) [] [0] [] ⟨tr, tr⟩ ?_
  refine AW.seq ?_
  obtain ⟨v1, e2, h⟩ := bind_some h
  refine AW.tA ⟨[(2, (vc (.str v1)))], []⟩ (Tt ∧ (((eI a0) ∧ (eI (10 : Int)) ∧ Tt) ∧ CallOK Tryd.prog 36 [.one (.int .i64 a0), .one (.int .i64 (10 : Int))] [.one (.str v1)]) ∧ Tt ∧ Tt) [.no, .call [.one (.int .i64 a0), .one (.int .i64 (10 : Int))] [.one (.str v1)] [[.view]]] [2] [] ⟨tr, ⟨⟨rfl, rfl, tr⟩, ok_strconv_FormatInt K a0 (10 : Int) v1 e2⟩, tr, tr⟩ ?_
  refine AW.ret ?_
  replace h := some_eq h
  subst h
  exact ⟨.inr rfl, retOK_of [(.one (.c (.str v1)))] (by kernel_rfl) ⟨⟨rfl, tr⟩, tr⟩ (of_decide_eq_true (by kernel_rfl))⟩

/-! impl.listText -/
def impl_listText_l1 (K : Nat) (a0 : (List Int)) : Nat → Int → (List ByteArray) → Option (ByteArray)
  | 0, _, _ => none
  | k + 1, x4, x5 => ite2 ((decide (x4 < (a0.length : Int)))) (chk (0 ≤ x4 ∧ x4 < (a0.length : Int)) ((impl_Decimal K (a0.getD x4.toNat default)).bind fun v8 => chk (0 ≤ x4 ∧ x4 < (x5.length : Int)) (impl_listText_l1 K a0 k (IntKind.i64.wrap (x4 + (1 : Int))) (x5.set x4.toNat v8)))) ((impl_joined K x5).bind fun v11 => some v11)

def impl_listText (K : Nat) (a0 : (List Int)) : Option (ByteArray) :=
  chk (0 ≤ (a0.length : Int) ∧ (a0.length : Int).toNat * 16 ≤ 140737488355328) (impl_listText_l1 K a0 K (0 : Int) (List.replicate (a0.length : Int).toNat (default : ByteArray)))

theorem ok_impl_listText (K : Nat) (a0 : (List Int)) (o : (ByteArray)) (h : impl_listText K a0 = some o) : CallOK Tryd.prog 20 [.one (sl 1 (csI .i64) a0)] [.one (.str o)] := by
  refine callOK_of_AW Tryd.func20 rfl (by kernel_rfl) (Nat.le_of_ble_eq_true (by kernel_rfl)) ?_
  intro w0
  unfold impl_listText at h
  refine AW.sC (Tt ∧ Tt) [] [0] [] ⟨tr, tr⟩ ?_
  refine AW.seq ?_
  obtain ⟨c1, h⟩ := chk_some h
  refine AW.tC (T2 ((0 ≤ (a0.length : Int) ∧ (a0.length : Int) = (a0.length : Int) ∧ (((List.replicate (a0.length : Int).toNat (default : ByteArray)).length : Nat) : Int) = (a0.length : Int) ∧ (List.replicate (a0.length : Int).toNat (default : ByteArray)).length * 16 ≤ 140737488355328 ∧ ∀ i, i < (List.replicate (a0.length : Int).toNat (default : ByteArray)).length → zeroRow (fun _ => none) [(.c (.str ByteArray.empty))] (gl csS (List.replicate (a0.length : Int).toNat (default : ByteArray)) i)) ∧ Tt ∧ Tt)) [.no, .no, .objA 1 (List.replicate (a0.length : Int).toNat (default : ByteArray)).length (gl csS (List.replicate (a0.length : Int).toNat (default : ByteArray)))] [0, 3] [1] ⟨tr, tr, ⟨c1.1, rfl, len_rep c1.1, rep_bytes c1.2, fun i hi => gl_zero (cs := csS) (zs := [(.c (.str ByteArray.empty))]) (n := (a0.length : Int).toNat) ⟨⟨rfl, tr⟩, tr⟩ i (rep_lt hi)⟩, tr, tr⟩ ?_
  refine AW.seq ?_
  refine AW.sA ⟨[(3, (.v (.one (.arr 1)))), (9, (vc (sl 1 (csI .i64) a0))), (10, (vI (a0.length : Int))), (11, (vI (0 : Int)))], [(1, (.arr false (List.replicate (a0.length : Int).toNat (default : ByteArray)).length 1 (gl csS (List.replicate (a0.length : Int).toNat (default : ByteArray)))))]⟩ (Tt ∧ T2 Tt) [] [3, 9, 10, 11] [1] ⟨tr, tr, tr, tr⟩ ?_
  refine AW.block ?_
  refine AW.loopQ (σ := Nat × Int × (List ByteArray)) (fun p => ⟨[(3, (.v (.one (.arr 1)))), (9, (vc (sl 1 (csI .i64) a0))), (10, (vI (a0.length : Int))), (11, (vI p.2.1))], [(1, (.arr false p.2.2.length 1 (gl csS p.2.2)))]⟩) (fun p => impl_listText_l1 K a0 p.1 p.2.1 p.2.2 = some o) (fun p => p.1) (K, (0 : Int), (List.replicate (a0.length : Int).toNat (default : ByteArray))) h ?_
  clear h
  rintro ⟨k, x4, x5⟩ h
  replace h : impl_listText_l1 K a0 k x4 x5 = some o := h
  show AW _ _ (⟨[(3, (.v (.one (.arr 1)))), (9, (vc (sl 1 (csI .i64) a0))), (10, (vI (a0.length : Int))), (11, (vI x4))], [(1, (.arr false x5.length 1 (gl csS x5)))]⟩ : St) _
  obtain _ | k := k
  · rw [impl_listText_l1] at h; cases h
  rw [impl_listText_l1] at h
  refine AW.sA ⟨[(3, (.v (.one (.arr 1)))), (9, (vc (sl 1 (csI .i64) a0))), (10, (vI (a0.length : Int))), (11, (vI x4)), (12, (vB (decide (x4 < (a0.length : Int)))))], [(1, (.arr false x5.length 1 (gl csS x5)))]⟩ (Tt ∧ Tt) [] [3, 9, 10, 11, 12] [1] ⟨tr, tr⟩ ?_
  refine AW.seq ?_
  rcases ite2_cases h with ⟨b6, h⟩ | ⟨b6, h⟩
  · refine AW.cond_t rfl b6 ?_
    refine AW.skip ?_
    refine thenQ_normal ?_
    refine AW.seq ?_
    refine AW.block ?_
    refine AW.seq ?_
    obtain ⟨c7, h⟩ := chk_some h
    refine AW.tC (Tt ∧ (0 ≤ x4 ∧ x4 < (a0.length : Int)) ∧ Tt ∧ T2 Tt) [] [3, 4, 5, 9, 10, 11] [1] ⟨tr, c7, tr, tr, tr, tr⟩ ?_
    obtain ⟨v8, e9, h⟩ := bind_some h
    obtain ⟨c10, h⟩ := chk_some h
    refine AW.rA ⟨[(3, (.v (.one (.arr 1)))), (9, (vc (sl 1 (csI .i64) a0))), (10, (vI (a0.length : Int))), (11, (vI x4))], [(1, (.arr false (x5.set x4.toNat v8).length 1 (gl csS (x5.set x4.toNat v8))))]⟩ (Tt ∧ T2 ((((eI (a0.getD x4.toNat default)) ∧ Tt) ∧ CallOK Tryd.prog 31 [.one (.int .i64 (a0.getD x4.toNat default))] [.one (.str v8)]) ∧ (0 ≤ x4 ∧ x4 < (x5.length : Int)) ∧ ((x5.set x4.toNat v8).length = x5.length ∧ SetOb x5.length 1 x4.toNat 0 1 (gl csS x5) (gl csS (x5.set x4.toNat v8)) ∧ ((List.range 1).map fun j => (csS v8).getD (0 + j) .nilptr) = ((List.range 1).map fun j => gl csS (x5.set x4.toNat v8) x4.toNat (0 + j)) ∧ ((((.str v8) : C) = (.str v8) ∧ Tt) ∧ Tt) ∧ (false = true → ∀ j, j < 1 → isSeq (gl csS x5 x4.toNat (0 + j)) = false ∧ isSeq (gl csS (x5.set x4.toNat v8) x4.toNat (0 + j)) = false)) ∧ Tt)) [.no, .no, .no, .call [.one (.int .i64 (a0.getD x4.toNat default))] [.one (.str v8)] [[.view]], .no, .set (x5.set x4.toNat v8).length (gl csS (x5.set x4.toNat v8)) ((List.range 1).map fun j => (csS v8).getD (0 + j) .nilptr)] [3, 9, 10, 11] [1] ⟨tr, tr, tr, ⟨⟨rfl, tr⟩, ok_impl_Decimal K (a0.getD x4.toNat default) v8 e9⟩, c10, ⟨List.length_set, gl_set, (gl_atp (lt_of_bound c10)).symm, ⟨⟨rfl, tr⟩, tr⟩, (fun h => nomatch h)⟩, tr⟩ ?_
    refine blockQ_normal ?_
    refine thenQ_normal ?_
    refine AW.rA ⟨[(3, (.v (.one (.arr 1)))), (9, (vc (sl 1 (csI .i64) a0))), (10, (vI (a0.length : Int))), (11, (vI (IntKind.i64.wrap (x4 + (1 : Int)))))], [(1, (.arr false (x5.set x4.toNat v8).length 1 (gl csS (x5.set x4.toNat v8))))]⟩ (T2 Tt) [] [3, 9, 10, 11] [1] ⟨tr, tr, tr⟩ ?_
    exact loopQ_normal (k, (IntKind.i64.wrap (x4 + (1 : Int))), (x5.set x4.toNat v8)) h (Nat.lt_succ_self k) (Sub.keep [3, 9, 10, 11] [1] (by kernel_rfl) (by kernel_rfl))
  · refine AW.cond_f rfl b6 ?_
    refine AW.exit ?_
    refine thenQ_exit ?_
    refine loopQ_exit ?_
    refine blockQ_exit ?_
    refine thenQ_normal ?_
    refine AW.seq ?_
    obtain ⟨v11, e12, h⟩ := bind_some h
    refine AW.tA ⟨[(2, (vc (.str v11)))], []⟩ (Tt ∧ (((Eqc (sl 1 csS x5)) ∧ Tt) ∧ CallOK Tryd.prog 26 [.one (sl 1 csS x5)] [.one (.str v11)]) ∧ Tt ∧ Tt) [.no, .call [.one (sl 1 csS x5)] [.one (.str v11)] [[.view]]] [2] [] ⟨tr, ⟨⟨rfl, tr⟩, ok_impl_joined K x5 v11 e12⟩, tr, tr⟩ ?_
    refine AW.ret ?_
    replace h := some_eq h
    subst h
    exact ⟨.inr rfl, retOK_of [(.one (.c (.str v11)))] (by kernel_rfl) ⟨⟨rfl, tr⟩, tr⟩ (of_decide_eq_true (by kernel_rfl))⟩

/-! impl.ListText -/
def impl_ListText_l1 (K : Nat) (a0 : (List Int)) : Nat → Int → Option (ByteArray × Bool)
  | 0, _ => none
  | k + 1, x3 => ite2 ((decide (x3 < (a0.length : Int)))) (chk (0 ≤ x3 ∧ x3 < (a0.length : Int)) ((impl_isValue K (a0.getD x3.toNat default)).bind fun v6 => ite2 ((!v6)) (some (ByteArray.empty, false)) (impl_ListText_l1 K a0 k (IntKind.i64.wrap (x3 + (1 : Int)))))) ((impl_listText K a0).bind fun v9 => some (v9, true))

def impl_ListText (K : Nat) (a0 : (List Int)) : Option (ByteArray × Bool) :=
  ite2 ((decide ((a0.length : Int) > (64 : Int)))) (some (ByteArray.empty, false)) (impl_ListText_l1 K a0 K (0 : Int))

theorem ok_impl_ListText (K : Nat) (a0 : (List Int)) (o : (ByteArray × Bool)) (h : impl_ListText K a0 = some o) : CallOK Tryd.prog 10 [.one (sl 1 (csI .i64) a0)] [.one (.str o.1), .one (.bool o.2)] := by
  refine callOK_of_AW Tryd.func10 rfl (by kernel_rfl) (Nat.le_of_ble_eq_true (by kernel_rfl)) ?_
  intro w0
  unfold impl_ListText at h
  refine AW.sC (T2 Tt) [] [0] [] ⟨tr, tr, tr⟩ ?_
  refine AW.seq ?_
  refine AW.sA ⟨[(0, (vc (sl 1 (csI .i64) a0))), (8, (vB (decide ((a0.length : Int) > (64 : Int)))))], []⟩ (Tt ∧ T2 Tt) [] [0, 8] [] ⟨tr, tr, tr, tr⟩ ?_
  rcases ite2_cases h with ⟨b1, h⟩ | ⟨b1, h⟩
  · refine AW.cond_t rfl b1 ?_
    refine AW.sA ⟨[(2, (vc (.str ByteArray.empty))), (3, (vB false))], []⟩ (T2 Tt) [] [2, 3] [] ⟨tr, tr, tr⟩ ?_
    refine AW.ret ?_
    refine thenQ_ret ?_
    replace h := some_eq h
    subst h
    exact ⟨.inr rfl, retOK_of [(.one (.c (.str ByteArray.empty))), (.one (.c (.bool false)))] (by kernel_rfl) ⟨⟨rfl, tr⟩, ⟨rfl, tr⟩, tr⟩ (of_decide_eq_true (by kernel_rfl))⟩
  · refine AW.cond_f rfl b1 ?_
    refine AW.skip ?_
    refine thenQ_normal ?_
    refine AW.seq ?_
    refine AW.sA ⟨[(0, (vc (sl 1 (csI .i64) a0))), (9, (vc (sl 1 (csI .i64) a0))), (10, (vI (a0.length : Int))), (11, (vI (0 : Int)))], []⟩ (Tt ∧ T2 Tt) [] [0, 9, 10, 11] [] ⟨tr, tr, tr, tr⟩ ?_
    refine AW.block ?_
    refine AW.loopQ (σ := Nat × Int) (fun p => ⟨[(0, (vc (sl 1 (csI .i64) a0))), (9, (vc (sl 1 (csI .i64) a0))), (10, (vI (a0.length : Int))), (11, (vI p.2))], []⟩) (fun p => impl_ListText_l1 K a0 p.1 p.2 = some o) (fun p => p.1) (K, (0 : Int)) h ?_
    clear h
    rintro ⟨k, x3⟩ h
    replace h : impl_ListText_l1 K a0 k x3 = some o := h
    show AW _ _ (⟨[(0, (vc (sl 1 (csI .i64) a0))), (9, (vc (sl 1 (csI .i64) a0))), (10, (vI (a0.length : Int))), (11, (vI x3))], []⟩ : St) _
    obtain _ | k := k
    · rw [impl_ListText_l1] at h; cases h
    rw [impl_ListText_l1] at h
    refine AW.sA ⟨[(0, (vc (sl 1 (csI .i64) a0))), (9, (vc (sl 1 (csI .i64) a0))), (10, (vI (a0.length : Int))), (11, (vI x3)), (12, (vB (decide (x3 < (a0.length : Int)))))], []⟩ (Tt ∧ Tt) [] [0, 9, 10, 11, 12] [] ⟨tr, tr⟩ ?_
    refine AW.seq ?_
    rcases ite2_cases h with ⟨b4, h⟩ | ⟨b4, h⟩
    · refine AW.cond_t rfl b4 ?_
      refine AW.skip ?_
      refine thenQ_normal ?_
      refine AW.seq ?_
      refine AW.block ?_
      refine AW.seq ?_
      obtain ⟨c5, h⟩ := chk_some h
      refine AW.tC ((0 ≤ x3 ∧ x3 < (a0.length : Int)) ∧ T2 Tt) [] [0, 5, 9, 10, 11] [] ⟨c5, tr, tr, tr⟩ ?_
      refine AW.seq ?_
      obtain ⟨v6, e7, h⟩ := bind_some h
      refine AW.tA ⟨[(0, (vc (sl 1 (csI .i64) a0))), (9, (vc (sl 1 (csI .i64) a0))), (10, (vI (a0.length : Int))), (11, (vI x3)), (17, (vB (!v6)))], []⟩ (Tt ∧ (((eI (a0.getD x3.toNat default)) ∧ Tt) ∧ CallOK Tryd.prog 19 [.one (.int .i64 (a0.getD x3.toNat default))] [.one (.bool v6)]) ∧ Tt ∧ Tt) [.no, .call [.one (.int .i64 (a0.getD x3.toNat default))] [.one (.bool v6)] [[.view]]] [0, 9, 10, 11, 17] [] ⟨tr, ⟨⟨rfl, tr⟩, ok_impl_isValue K (a0.getD x3.toNat default) v6 e7⟩, tr, tr⟩ ?_
      rcases ite2_cases h with ⟨b8, h⟩ | ⟨b8, h⟩
      · refine AW.cond_t rfl b8 ?_
        refine AW.sA ⟨[(2, (vc (.str ByteArray.empty))), (3, (vB false))], []⟩ (T2 Tt) [] [2, 3] [] ⟨tr, tr, tr⟩ ?_
        refine AW.ret ?_
        refine blockQ_ret ?_
        refine thenQ_ret ?_
        refine loopQ_ret ?_
        refine blockQ_ret ?_
        refine thenQ_ret ?_
        replace h := some_eq h
        subst h
        exact ⟨.inr rfl, retOK_of [(.one (.c (.str ByteArray.empty))), (.one (.c (.bool false)))] (by kernel_rfl) ⟨⟨rfl, tr⟩, ⟨rfl, tr⟩, tr⟩ (of_decide_eq_true (by kernel_rfl))⟩
      · refine AW.cond_f rfl b8 ?_
        refine AW.skip ?_
        refine blockQ_normal ?_
        refine thenQ_normal ?_
        refine AW.rA ⟨[(0, (vc (sl 1 (csI .i64) a0))), (9, (vc (sl 1 (csI .i64) a0))), (10, (vI (a0.length : Int))), (11, (vI (IntKind.i64.wrap (x3 + (1 : Int)))))], []⟩ (T2 Tt) [] [0, 9, 10, 11] [] ⟨tr, tr, tr⟩ ?_
        exact loopQ_normal (k, (IntKind.i64.wrap (x3 + (1 : Int)))) h (Nat.lt_succ_self k) (Sub.keep [0, 9, 10, 11] [] (by kernel_rfl) (by kernel_rfl))
    · refine AW.cond_f rfl b4 ?_
      refine AW.exit ?_
      refine thenQ_exit ?_
      refine loopQ_exit ?_
      refine blockQ_exit ?_
      refine thenQ_normal ?_
      refine AW.seq ?_
      obtain ⟨v9, e10, h⟩ := bind_some h
      refine AW.tA ⟨[(2, (vc (.str v9))), (3, (vB true))], []⟩ (Tt ∧ (((Eqc (sl 1 (csI .i64) a0)) ∧ Tt) ∧ CallOK Tryd.prog 20 [.one (sl 1 (csI .i64) a0)] [.one (.str v9)]) ∧ T2 Tt) [.no, .call [.one (sl 1 (csI .i64) a0)] [.one (.str v9)] [[.view]]] [2, 3] [] ⟨tr, ⟨⟨rfl, tr⟩, ok_impl_listText K a0 v9 e10⟩, tr, tr, tr⟩ ?_
      refine AW.ret ?_
      replace h := some_eq h
      subst h
      exact ⟨.inr rfl, retOK_of [(.one (.c (.str v9))), (.one (.c (.bool true)))] (by kernel_rfl) ⟨⟨rfl, tr⟩, ⟨rfl, tr⟩, tr⟩ (of_decide_eq_true (by kernel_rfl))⟩

/-! strconv.ParseInt -/
def strconv_ParseInt (_K : Nat) (a0 : ByteArray) (a1 : Int) (a2 : Int) : Option ((Int × Unit)) :=
  pInt a0 a1 a2

theorem ok_strconv_ParseInt (K : Nat) (a0 : ByteArray) (a1 : Int) (a2 : Int) (o : (Int × Unit)) (h : strconv_ParseInt K a0 a1 a2 = some o) : CallOK Tryd.prog 32 [(.one (.str a0)), (.one (.int .i64 a1)), (.one (.int .i64 a2))] [.one (.int .i64 o.1), .one .niliface] :=
  hand_pInt Tryd.func32 (by kernel_rfl) (by kernel_rfl) (fun t n h w => Tryd.parseInt t n h w) a0 a1 a2 o h

/-! impl.ReadDecimal -/
def impl_ReadDecimal (K : Nat) (a0 : ByteArray) : Option (Int × Bool) :=
  (strconv_ParseInt K a0 (10 : Int) (64 : Int)).bind fun v1 => (impl_isValue K v1.1).bind fun v3 => (ite2 ((!v3)) (some true) ((impl_Decimal K v1.1).bind fun v6 => some (!(v6.toList == a0.toList)))).bind fun j8 => ite2 (j8) (some ((0 : Int), false)) (some (v1.1, true))

theorem ok_impl_ReadDecimal (K : Nat) (a0 : ByteArray) (o : (Int × Bool)) (h : impl_ReadDecimal K a0 = some o) : CallOK Tryd.prog 21 [.one (.str a0)] [.one (.int .i64 o.1), .one (.bool o.2)] := by
  refine callOK_of_AW Tryd.func21 rfl (by kernel_rfl) (Nat.le_of_ble_eq_true (by kernel_rfl)) ?_
  intro w0
  unfold impl_ReadDecimal at h
  refine AW.sC (T2 Tt) [] [0] [] ⟨tr, tr, tr⟩ ?_
  refine AW.seq ?_
  obtain ⟨v1, e2, h⟩ := bind_some h
  refine AW.tA ⟨[(0, (vc (.str a0))), (4, (vI v1.1)), (5, (vc .niliface))], []⟩ (Tt ∧ (((Eqc (.str a0)) ∧ (eI (10 : Int)) ∧ (eI (64 : Int)) ∧ Tt) ∧ CallOK Tryd.prog 32 [.one (.str a0), .one (.int .i64 (10 : Int)), .one (.int .i64 (64 : Int))] [.one (.int .i64 v1.1), .one .niliface]) ∧ Tt ∧ T4 Tt) [.no, .call [.one (.str a0), .one (.int .i64 (10 : Int)), .one (.int .i64 (64 : Int))] [.one (.int .i64 v1.1), .one .niliface] [[.view], [.view]]] [0, 4, 5] [] ⟨tr, ⟨⟨rfl, rfl, rfl, tr⟩, ok_strconv_ParseInt K a0 (10 : Int) (64 : Int) v1 e2⟩, tr, tr, tr, tr, tr, tr⟩ ?_
  refine AW.seq ?_
  refine AW.seq ?_
  obtain ⟨v3, e4, h⟩ := bind_some h
  obtain ⟨j8, e9, h⟩ := bind_some h
  refine AW.join1 (s2 := ⟨[(4, (vI v1.1)), (23, (vB j8))], []⟩) ?_ ?_
  · rcases ite2_cases e9 with ⟨b5, e9⟩ | ⟨b5, e9⟩
    · replace e9 := some_eq e9
      subst e9
      exact AW.rA ⟨[(4, (vI v1.1)), (23, (vB true))], []⟩ (T4 ((((eI v1.1) ∧ Tt) ∧ CallOK Tryd.prog 19 [.one (.int .i64 v1.1)] [.one (.bool v3)]) ∧ T2 ((Tt ∧ (!v3) = true) ∧ Tt ∧ T4 Tt))) [.no, .no, .no, .no, .call [.one (.int .i64 v1.1)] [.one (.bool v3)] [[.view]], .no, .no, .dec true] [4, 23] [] ⟨tr, tr, tr, tr, ⟨⟨rfl, tr⟩, ok_impl_isValue K v1.1 v3 e4⟩, tr, tr, ⟨tr, b5⟩, tr, tr, tr, tr, tr, tr⟩ ⟨rfl, rfl⟩
    · obtain ⟨v6, e7, e9⟩ := bind_some e9
      replace e9 := some_eq e9
      subst e9
      exact AW.rA ⟨[(4, (vI v1.1)), (23, (vB (!(v6.toList == a0.toList))))], []⟩ (T4 ((((eI v1.1) ∧ Tt) ∧ CallOK Tryd.prog 19 [.one (.int .i64 v1.1)] [.one (.bool v3)]) ∧ T2 ((Tt ∧ (!v3) = false) ∧ Tt ∧ (((eI v1.1) ∧ Tt) ∧ CallOK Tryd.prog 31 [.one (.int .i64 v1.1)] [.one (.str v6)]) ∧ Tt ∧ T2 Tt))) [.no, .no, .no, .no, .call [.one (.int .i64 v1.1)] [.one (.bool v3)] [[.view]], .no, .no, .dec false, .no, .call [.one (.int .i64 v1.1)] [.one (.str v6)] [[.view]]] [4, 23] [] ⟨tr, tr, tr, tr, ⟨⟨rfl, tr⟩, ok_impl_isValue K v1.1 v3 e4⟩, tr, tr, ⟨tr, b5⟩, tr, ⟨⟨rfl, tr⟩, ok_impl_Decimal K v1.1 v6 e7⟩, tr, tr, tr, tr⟩ ⟨rfl, rfl⟩
  refine thenQ_normal ?_
  rcases ite2_cases h with ⟨b10, h⟩ | ⟨b10, h⟩
  · refine AW.cond_t rfl b10 ?_
    refine AW.sA ⟨[(2, (vI (0 : Int))), (3, (vB false))], []⟩ (T2 Tt) [] [2, 3] [] ⟨tr, tr, tr⟩ ?_
    refine AW.ret ?_
    refine thenQ_ret ?_
    replace h := some_eq h
    subst h
    exact ⟨.inr rfl, retOK_of [(.one (cI (0 : Int))), (.one (.c (.bool false)))] (by kernel_rfl) ⟨⟨rfl, tr⟩, ⟨rfl, tr⟩, tr⟩ (of_decide_eq_true (by kernel_rfl))⟩
  · refine AW.cond_f rfl b10 ?_
    refine AW.skip ?_
    refine thenQ_normal ?_
    refine AW.sA ⟨[(2, (vI v1.1)), (3, (vB true))], []⟩ (Tt ∧ T2 Tt) [] [2, 3] [] ⟨tr, tr, tr, tr⟩ ?_
    refine AW.ret ?_
    replace h := some_eq h
    subst h
    exact ⟨.inr rfl, retOK_of [(.one (cI v1.1)), (.one (.c (.bool true)))] (by kernel_rfl) ⟨⟨rfl, tr⟩, ⟨rfl, tr⟩, tr⟩ (of_decide_eq_true (by kernel_rfl))⟩

/-! impl.ReadList -/
def impl_ReadList_l1 (K : Nat) (v1 : ((List ByteArray))) : Nat → Int → (List Int) → Option ((List Int) × Bool)
  | 0, _, _ => none
  | k + 1, x7, x8 => ite2 ((decide (x7 < (v1.length : Int)))) (chk (0 ≤ x7 ∧ x7 < (v1.length : Int)) ((impl_ReadDecimal K (v1.getD x7.toNat default)).bind fun v11 => ite2 ((!v11.2)) (some (([] : (List Int)), false)) (chk (0 ≤ x7 ∧ x7 < (x8.length : Int)) (impl_ReadList_l1 K v1 k (IntKind.i64.wrap (x7 + (1 : Int))) (x8.set x7.toNat v11.1))))) (some (x8, true))

def impl_ReadList (K : Nat) (a0 : ByteArray) : Option ((List Int) × Bool) :=
  (impl_words K a0).bind fun v1 => ite2 ((decide ((v1.length : Int) > (64 : Int)))) (some (([] : (List Int)), false)) (chk (0 ≤ (v1.length : Int) ∧ (v1.length : Int).toNat * 8 ≤ 140737488355328) (impl_ReadList_l1 K v1 K (0 : Int) (List.replicate (v1.length : Int).toNat (default : Int))))

theorem ok_impl_ReadList (K : Nat) (a0 : ByteArray) (o : ((List Int) × Bool)) (h : impl_ReadList K a0 = some o) : CallOK Tryd.prog 11 [.one (.str a0)] [.one (sl 1 (csI .i64) o.1), .one (.bool o.2)] := by
  refine callOK_of_AW Tryd.func11 rfl (by kernel_rfl) (Nat.le_of_ble_eq_true (by kernel_rfl)) ?_
  intro w0
  unfold impl_ReadList at h
  refine AW.sC (T2 Tt) [] [0] [] ⟨tr, tr, tr⟩ ?_
  refine AW.seq ?_
  obtain ⟨v1, e2, h⟩ := bind_some h
  refine AW.tC (Tt ∧ (((Eqc (.str a0)) ∧ Tt) ∧ CallOK Tryd.prog 16 [.one (.str a0)] [.one (sl 1 csS v1)]) ∧ Tt ∧ Tt) [.no, .call [.one (.str a0)] [.one (sl 1 csS v1)] [[.lst 1]]] [4] [1] ⟨tr, ⟨⟨rfl, tr⟩, ok_impl_words K a0 v1 e2⟩, tr, tr⟩ ?_
  refine AW.seq ?_
  refine AW.sA ⟨[(4, (vL 1 1 csS v1)), (14, (vB (decide ((v1.length : Int) > (64 : Int)))))], [(1, (oL 1 csS v1))]⟩ (Tt ∧ T2 Tt) [] [4, 14] [1] ⟨tr, tr, tr, tr⟩ ?_
  rcases ite2_cases h with ⟨b3, h⟩ | ⟨b3, h⟩
  · refine AW.cond_t rfl b3 ?_
    refine AW.sA ⟨[(2, (.v (.one .nils))), (3, (vB false))], []⟩ (T2 Tt) [] [2, 3] [] ⟨tr, tr, tr⟩ ?_
    refine AW.ret ?_
    refine thenQ_ret ?_
    replace h := some_eq h
    subst h
    exact ⟨.inr rfl, retOK_of [(.one .nils), (.one (.c (.bool false)))] (by kernel_rfl) ⟨rfl, ⟨rfl, tr⟩, tr⟩ (of_decide_eq_true (by kernel_rfl))⟩
  · refine AW.cond_f rfl b3 ?_
    refine AW.skip ?_
    refine thenQ_normal ?_
    refine AW.seq ?_
    obtain ⟨c4, h⟩ := chk_some h
    refine AW.tC (T2 ((0 ≤ (v1.length : Int) ∧ (v1.length : Int) = (v1.length : Int) ∧ (((List.replicate (v1.length : Int).toNat (default : Int)).length : Nat) : Int) = (v1.length : Int) ∧ (List.replicate (v1.length : Int).toNat (default : Int)).length * 8 ≤ 140737488355328 ∧ ∀ i, i < (List.replicate (v1.length : Int).toNat (default : Int)).length → zeroRow (fun _ => none) [(cI (0 : Int))] (gl (csI .i64) (List.replicate (v1.length : Int).toNat (default : Int)) i)) ∧ Tt ∧ Tt)) [.no, .no, .objA 2 (List.replicate (v1.length : Int).toNat (default : Int)).length (gl (csI .i64) (List.replicate (v1.length : Int).toNat (default : Int)))] [4, 5] [1, 2] ⟨tr, tr, ⟨c4.1, rfl, len_rep c4.1, rep_bytes c4.2, fun i hi => gl_zero (cs := (csI .i64)) (zs := [(cI (0 : Int))]) (n := (v1.length : Int).toNat) ⟨⟨rfl, tr⟩, tr⟩ i (rep_lt hi)⟩, tr, tr⟩ ?_
    refine AW.seq ?_
    refine AW.sA ⟨[(5, (.v (.one (.arr 2)))), (18, (vL 1 1 csS v1)), (19, (vI (v1.length : Int))), (20, (vI (0 : Int)))], [(1, (oL 1 csS v1)), (2, (.arr false (List.replicate (v1.length : Int).toNat (default : Int)).length 1 (gl (csI .i64) (List.replicate (v1.length : Int).toNat (default : Int)))))]⟩ (Tt ∧ T2 Tt) [] [5, 18, 19, 20] [1, 2] ⟨tr, tr, tr, tr⟩ ?_
    refine AW.block ?_
    refine AW.loopQ (σ := Nat × Int × (List Int)) (fun p => ⟨[(5, (.v (.one (.arr 2)))), (18, (vL 1 1 csS v1)), (19, (vI (v1.length : Int))), (20, (vI p.2.1))], [(1, (oL 1 csS v1)), (2, (.arr false p.2.2.length 1 (gl (csI .i64) p.2.2)))]⟩) (fun p => impl_ReadList_l1 K v1 p.1 p.2.1 p.2.2 = some o) (fun p => p.1) (K, (0 : Int), (List.replicate (v1.length : Int).toNat (default : Int))) h ?_
    clear h
    rintro ⟨k, x7, x8⟩ h
    replace h : impl_ReadList_l1 K v1 k x7 x8 = some o := h
    show AW _ _ (⟨[(5, (.v (.one (.arr 2)))), (18, (vL 1 1 csS v1)), (19, (vI (v1.length : Int))), (20, (vI x7))], [(1, (oL 1 csS v1)), (2, (.arr false x8.length 1 (gl (csI .i64) x8)))]⟩ : St) _
    obtain _ | k := k
    · rw [impl_ReadList_l1] at h; cases h
    rw [impl_ReadList_l1] at h
    refine AW.sA ⟨[(5, (.v (.one (.arr 2)))), (18, (vL 1 1 csS v1)), (19, (vI (v1.length : Int))), (20, (vI x7)), (21, (vB (decide (x7 < (v1.length : Int)))))], [(1, (oL 1 csS v1)), (2, (.arr false x8.length 1 (gl (csI .i64) x8)))]⟩ (Tt ∧ Tt) [] [5, 18, 19, 20, 21] [1, 2] ⟨tr, tr⟩ ?_
    refine AW.seq ?_
    rcases ite2_cases h with ⟨b9, h⟩ | ⟨b9, h⟩
    · refine AW.cond_t rfl b9 ?_
      refine AW.skip ?_
      refine thenQ_normal ?_
      refine AW.seq ?_
      refine AW.block ?_
      refine AW.seq ?_
      obtain ⟨c10, h⟩ := chk_some h
      refine AW.tC (Tt ∧ (0 ≤ x7 ∧ x7 < (v1.length : Int)) ∧ Tt ∧ T2 Tt) [] [5, 6, 7, 18, 19, 20] [1, 2] ⟨tr, c10, tr, tr, tr, tr⟩ ?_
      refine AW.seq ?_
      obtain ⟨v11, e12, h⟩ := bind_some h
      refine AW.tC (Tt ∧ (((Eqc (.str (v1.getD x7.toNat default))) ∧ Tt) ∧ CallOK Tryd.prog 21 [.one (.str (v1.getD x7.toNat default))] [.one (.int .i64 v11.1), .one (.bool v11.2)]) ∧ Tt ∧ T4 Tt) [.no, .call [.one (.str (v1.getD x7.toNat default))] [.one (.int .i64 v11.1), .one (.bool v11.2)] [[.view], [.view]]] [5, 6, 8, 9, 18, 19, 20] [1, 2] ⟨tr, ⟨⟨rfl, tr⟩, ok_impl_ReadDecimal K (v1.getD x7.toNat default) v11 e12⟩, tr, tr, tr, tr, tr, tr⟩ ?_
      refine AW.seq ?_
      refine AW.sA ⟨[(5, (.v (.one (.arr 2)))), (6, (vI x7)), (8, (vI v11.1)), (18, (vL 1 1 csS v1)), (19, (vI (v1.length : Int))), (20, (vI x7)), (31, (vB (!v11.2)))], [(1, (oL 1 csS v1)), (2, (.arr false x8.length 1 (gl (csI .i64) x8)))]⟩ (T2 Tt) [] [5, 6, 8, 18, 19, 20, 31] [1, 2] ⟨tr, tr, tr⟩ ?_
      rcases ite2_cases h with ⟨b13, h⟩ | ⟨b13, h⟩
      · refine AW.cond_t rfl b13 ?_
        refine AW.sA ⟨[(2, (.v (.one .nils))), (3, (vB false))], []⟩ (T2 Tt) [] [2, 3] [] ⟨tr, tr, tr⟩ ?_
        refine AW.ret ?_
        refine thenQ_ret ?_
        refine blockQ_ret ?_
        refine thenQ_ret ?_
        refine loopQ_ret ?_
        refine blockQ_ret ?_
        refine thenQ_ret ?_
        replace h := some_eq h
        subst h
        exact ⟨.inr rfl, retOK_of [(.one .nils), (.one (.c (.bool false)))] (by kernel_rfl) ⟨rfl, ⟨rfl, tr⟩, tr⟩ (of_decide_eq_true (by kernel_rfl))⟩
      · refine AW.cond_f rfl b13 ?_
        refine AW.skip ?_
        refine thenQ_normal ?_
        obtain ⟨c14, h⟩ := chk_some h
        refine AW.rA ⟨[(5, (.v (.one (.arr 2)))), (18, (vL 1 1 csS v1)), (19, (vI (v1.length : Int))), (20, (vI x7))], [(1, (oL 1 csS v1)), (2, (.arr false (x8.set x7.toNat v11.1).length 1 (gl (csI .i64) (x8.set x7.toNat v11.1))))]⟩ (Tt ∧ T2 ((0 ≤ x7 ∧ x7 < (x8.length : Int)) ∧ ((x8.set x7.toNat v11.1).length = x8.length ∧ SetOb x8.length 1 x7.toNat 0 1 (gl (csI .i64) x8) (gl (csI .i64) (x8.set x7.toNat v11.1)) ∧ ((List.range 1).map fun j => ((csI .i64) v11.1).getD (0 + j) .nilptr) = ((List.range 1).map fun j => gl (csI .i64) (x8.set x7.toNat v11.1) x7.toNat (0 + j)) ∧ ((((.int .i64 v11.1) : C) = (.int .i64 v11.1) ∧ Tt) ∧ Tt) ∧ (false = true → ∀ j, j < 1 → isSeq (gl (csI .i64) x8 x7.toNat (0 + j)) = false ∧ isSeq (gl (csI .i64) (x8.set x7.toNat v11.1) x7.toNat (0 + j)) = false)) ∧ Tt)) [.no, .no, .no, .no, .set (x8.set x7.toNat v11.1).length (gl (csI .i64) (x8.set x7.toNat v11.1)) ((List.range 1).map fun j => ((csI .i64) v11.1).getD (0 + j) .nilptr)] [5, 18, 19, 20] [1, 2] ⟨tr, tr, tr, c14, ⟨List.length_set, gl_set, (gl_atp (lt_of_bound c14)).symm, ⟨⟨rfl, tr⟩, tr⟩, (fun h => nomatch h)⟩, tr⟩ ?_
        refine blockQ_normal ?_
        refine thenQ_normal ?_
        refine AW.rA ⟨[(5, (.v (.one (.arr 2)))), (18, (vL 1 1 csS v1)), (19, (vI (v1.length : Int))), (20, (vI (IntKind.i64.wrap (x7 + (1 : Int)))))], [(1, (oL 1 csS v1)), (2, (.arr false (x8.set x7.toNat v11.1).length 1 (gl (csI .i64) (x8.set x7.toNat v11.1))))]⟩ (T2 Tt) [] [5, 18, 19, 20] [1, 2] ⟨tr, tr, tr⟩ ?_
        exact loopQ_normal (k, (IntKind.i64.wrap (x7 + (1 : Int))), (x8.set x7.toNat v11.1)) h (Nat.lt_succ_self k) (Sub.keep [5, 18, 19, 20] [1, 2] (by kernel_rfl) (by kernel_rfl))
    · refine AW.cond_f rfl b9 ?_
      refine AW.exit ?_
      refine thenQ_exit ?_
      refine loopQ_exit ?_
      refine blockQ_exit ?_
      refine thenQ_normal ?_
      refine AW.sA ⟨[(2, (.v (.one (.arr 2)))), (3, (vB true))], [(2, (.arr false x8.length 1 (gl (csI .i64) x8)))]⟩ (Tt ∧ T2 Tt) [] [2, 3] [2] ⟨tr, tr, tr, tr⟩ ?_
      refine AW.ret ?_
      replace h := some_eq h
      subst h
      exact ⟨.inr rfl, retOK_of [(.one (.arr 2)), (.one (.c (.bool true)))] (by kernel_rfl) ⟨rfl, ⟨rfl, tr⟩, tr⟩ (of_decide_eq_true (by kernel_rfl))⟩

/-! laws.b10Nums -/
def laws_b10Nums_l1 (K : Nat) (a0 : (List Int)) (a1 : (List Int)) : Nat → Int → Option (Bool)
  | 0, _ => none
  | k + 1, x3 => ite2 ((decide (x3 < (a0.length : Int)))) (chk (0 ≤ x3 ∧ x3 < (a0.length : Int)) (chk (0 ≤ x3 ∧ x3 < (a1.length : Int)) (ite2 (((a0.getD x3.toNat default) != (a1.getD x3.toNat default))) (some false) (laws_b10Nums_l1 K a0 a1 k (IntKind.i64.wrap (x3 + (1 : Int))))))) (some true)

def laws_b10Nums (K : Nat) (a0 : (List Int)) (a1 : (List Int)) : Option (Bool) :=
  ite2 (((a0.length : Int) != (a1.length : Int))) (some false) (laws_b10Nums_l1 K a0 a1 K (0 : Int))

theorem ok_laws_b10Nums (K : Nat) (a0 : (List Int)) (a1 : (List Int)) (o : (Bool)) (h : laws_b10Nums K a0 a1 = some o) : CallOK Tryd.prog 12 [.one (sl 1 (csI .i64) a0), .one (sl 1 (csI .i64) a1)] [.one (.bool o)] := by
  refine callOK_of_AW Tryd.func12 rfl (by kernel_rfl) (Nat.le_of_ble_eq_true (by kernel_rfl)) ?_
  intro w0
  unfold laws_b10Nums at h
  refine AW.sC (Tt ∧ Tt) [] [0, 1] [] ⟨tr, tr⟩ ?_
  refine AW.seq ?_
  refine AW.sA ⟨[(0, (vc (sl 1 (csI .i64) a0))), (1, (vc (sl 1 (csI .i64) a1))), (10, (vB ((a0.length : Int) != (a1.length : Int))))], []⟩ (Tt ∧ T4 Tt) [] [0, 1, 10] [] ⟨tr, tr, tr, tr, tr, tr⟩ ?_
  rcases ite2_cases h with ⟨b1, h⟩ | ⟨b1, h⟩
  · refine AW.cond_t rfl b1 ?_
    refine AW.sA ⟨[(4, (vB false))], []⟩ (Tt ∧ Tt) [] [4] [] ⟨tr, tr⟩ ?_
    refine AW.ret ?_
    refine thenQ_ret ?_
    replace h := some_eq h
    subst h
    exact ⟨.inr rfl, retOK_of [(.one (.c (.bool false)))] (by kernel_rfl) ⟨⟨rfl, tr⟩, tr⟩ (of_decide_eq_true (by kernel_rfl))⟩
  · refine AW.cond_f rfl b1 ?_
    refine AW.skip ?_
    refine thenQ_normal ?_
    refine AW.seq ?_
    refine AW.sA ⟨[(0, (vc (sl 1 (csI .i64) a0))), (1, (vc (sl 1 (csI .i64) a1))), (5, (vI (0 : Int)))], []⟩ (Tt ∧ Tt) [] [0, 1, 5] [] ⟨tr, tr⟩ ?_
    refine AW.block ?_
    refine AW.loopQ (σ := Nat × Int) (fun p => ⟨[(0, (vc (sl 1 (csI .i64) a0))), (1, (vc (sl 1 (csI .i64) a1))), (5, (vI p.2))], []⟩) (fun p => laws_b10Nums_l1 K a0 a1 p.1 p.2 = some o) (fun p => p.1) (K, (0 : Int)) h ?_
    clear h
    rintro ⟨k, x3⟩ h
    replace h : laws_b10Nums_l1 K a0 a1 k x3 = some o := h
    show AW _ _ (⟨[(0, (vc (sl 1 (csI .i64) a0))), (1, (vc (sl 1 (csI .i64) a1))), (5, (vI x3))], []⟩ : St) _
    obtain _ | k := k
    · rw [laws_b10Nums_l1] at h; cases h
    rw [laws_b10Nums_l1] at h
    refine AW.seq ?_
    refine AW.sA ⟨[(0, (vc (sl 1 (csI .i64) a0))), (1, (vc (sl 1 (csI .i64) a1))), (5, (vI x3)), (14, (vB (decide (x3 < (a0.length : Int)))))], []⟩ (T4 Tt) [] [0, 1, 5, 14] [] ⟨tr, tr, tr, tr, tr⟩ ?_
    rcases ite2_cases h with ⟨b4, h⟩ | ⟨b4, h⟩
    · refine AW.cond_t rfl b4 ?_
      refine AW.skip ?_
      refine thenQ_normal ?_
      refine AW.seq ?_
      refine AW.block ?_
      refine AW.seq ?_
      obtain ⟨c5, h⟩ := chk_some h
      obtain ⟨c6, h⟩ := chk_some h
      refine AW.dA ⟨[(0, (vc (sl 1 (csI .i64) a0))), (1, (vc (sl 1 (csI .i64) a1))), (5, (vI x3)), (25, (vB ((a0.getD x3.toNat default) != (a1.getD x3.toNat default))))], []⟩ ((T2 ((0 ≤ x3 ∧ x3 < (a0.length : Int)) ∧ Tt ∧ T2 ((0 ≤ x3 ∧ x3 < (a1.length : Int)) ∧ T2 Tt))) ∧ (Tt)) 9 [] [0, 1, 5, 25] [] ⟨⟨tr, tr, c5, tr, tr, tr, c6, tr, tr, tr⟩, tr⟩ ?_
      refine thenQ_normal ?_
      rcases ite2_cases h with ⟨b7, h⟩ | ⟨b7, h⟩
      · refine AW.cond_t rfl b7 ?_
        refine AW.sA ⟨[(4, (vB false))], []⟩ (Tt ∧ Tt) [] [4] [] ⟨tr, tr⟩ ?_
        refine AW.ret ?_
        refine blockQ_ret ?_
        refine thenQ_ret ?_
        refine loopQ_ret ?_
        refine blockQ_ret ?_
        refine thenQ_ret ?_
        replace h := some_eq h
        subst h
        exact ⟨.inr rfl, retOK_of [(.one (.c (.bool false)))] (by kernel_rfl) ⟨⟨rfl, tr⟩, tr⟩ (of_decide_eq_true (by kernel_rfl))⟩
      · refine AW.cond_f rfl b7 ?_
        refine AW.skip ?_
        refine blockQ_normal ?_
        refine thenQ_normal ?_
        refine AW.rA ⟨[(0, (vc (sl 1 (csI .i64) a0))), (1, (vc (sl 1 (csI .i64) a1))), (5, (vI (IntKind.i64.wrap (x3 + (1 : Int)))))], []⟩ (Tt ∧ T2 Tt) [] [0, 1, 5] [] ⟨tr, tr, tr, tr⟩ ?_
        exact loopQ_normal (k, (IntKind.i64.wrap (x3 + (1 : Int)))) h (Nat.lt_succ_self k) (Sub.keep [0, 1, 5] [] (by kernel_rfl) (by kernel_rfl))
    · refine AW.cond_f rfl b4 ?_
      refine AW.exit ?_
      refine thenQ_exit ?_
      refine loopQ_exit ?_
      refine blockQ_exit ?_
      refine thenQ_normal ?_
      refine AW.sA ⟨[(4, (vB true))], []⟩ (Tt ∧ Tt) [] [4] [] ⟨tr, tr⟩ ?_
      refine AW.ret ?_
      replace h := some_eq h
      subst h
      exact ⟨.inr rfl, retOK_of [(.one (.c (.bool true)))] (by kernel_rfl) ⟨⟨rfl, tr⟩, tr⟩ (of_decide_eq_true (by kernel_rfl))⟩

/-! laws.FnTexts -/
def laws_FnTexts_l1 (K : Nat) (a1 : (List Int)) : Nat → Int → (List Int) → Option (Bool)
  | 0, _, _ => none
  | k + 1, x23, x24 => (laws_b10At K a1 (1 : Int) (8 : Int)).bind fun v25 => ite2 ((decide (x23 < v25))) ((laws_b10At K a1 (IntKind.i64.wrap (x23 + (2 : Int))) (256 : Int)).bind fun v28 => chk ((x24.length + ([(IntKind.i64.wrap ((IntKind.i64.wrap ((1000 : Int) * v28)) - (90000 : Int)))]).length) * 8 ≤ 140737488355328) (laws_FnTexts_l1 K a1 k (IntKind.i64.wrap (x23 + (1 : Int))) (x24 ++ ([(IntKind.i64.wrap ((IntKind.i64.wrap ((1000 : Int) * v28)) - (90000 : Int)))])))) ((impl_ListText K x24).bind fun v31 => (impl_ReadList K v31.1).bind fun v33 => (ite2 (v31.2) (ite2 (v33.2) ((laws_b10Nums K v33.1 x24).bind fun v37 => some v37) (some false)) (some false)).bind fun j39 => some j39)

def laws_FnTexts (K : Nat) (a0 : (List Int)) (a1 : (List Int)) : Option (Bool) :=
  (laws_b10Long K a0 a1).bind fun v1 => ite2 (v1) (some true) ((laws_b10At K a1 (0 : Int) (12 : Int)).bind fun v4 => (spec_B10Numbers K a0 v4).bind fun v6 => (impl_NumbersText K v6).bind fun v8 => (impl_ReadNumbers K v8.1).bind fun v10 => (ite2 ((!v8.2)) (some true) (ite2 ((!v10.2)) (some true) ((laws_b10Same K v10.1 v6).bind fun v14 => ite2 ((!v14)) (some true) (ite2 ((decide ((v6.length : Int) > (0 : Int)))) (some ((v8.1.size : Int) != (IntKind.i64.wrap ((IntKind.i64.wrap ((9 : Int) * (v6.length : Int))) - (1 : Int))))) (some false))))).bind fun j18 => ite2 (j18) (some false) (laws_FnTexts_l1 K a1 K (0 : Int) ([] : List Int)))

theorem ok_laws_FnTexts (K : Nat) (a0 : (List Int)) (a1 : (List Int)) (o : (Bool)) (h : laws_FnTexts K a0 a1 = some o) : CallOK Tryd.prog 3 [.one (sl 1 (csI .u8) a0), .one (sl 1 (csI .u8) a1)] [.one (.bool o)] := by
  refine callOK_of_AW Tryd.func3 rfl (by kernel_rfl) (Nat.le_of_ble_eq_true (by kernel_rfl)) ?_
  intro w0
  unfold laws_FnTexts at h
  refine AW.sC (Tt ∧ Tt) [] [0, 1] [] ⟨tr, tr⟩ ?_
  refine AW.seq ?_
  refine AW.seq ?_
  obtain ⟨v1, e2, h⟩ := bind_some h
  refine AW.tA ⟨[(0, (vc (sl 1 (csI .u8) a0))), (1, (vc (sl 1 (csI .u8) a1))), (18, (vB v1))], []⟩ (T2 ((((Eqc (sl 1 (csI .u8) a0)) ∧ (Eqc (sl 1 (csI .u8) a1)) ∧ Tt) ∧ CallOK Tryd.prog 4 [.one (sl 1 (csI .u8) a0), .one (sl 1 (csI .u8) a1)] [.one (.bool v1)]) ∧ Tt)) [.no, .no, .call [.one (sl 1 (csI .u8) a0), .one (sl 1 (csI .u8) a1)] [.one (.bool v1)] [[.view]]] [0, 1, 18] [] ⟨tr, tr, ⟨⟨rfl, rfl, tr⟩, ok_laws_b10Long K a0 a1 v1 e2⟩, tr⟩ ?_
  rcases ite2_cases h with ⟨b3, h⟩ | ⟨b3, h⟩
  · refine AW.cond_t rfl b3 ?_
    refine AW.sA ⟨[(4, (vB true))], []⟩ (Tt ∧ Tt) [] [4] [] ⟨tr, tr⟩ ?_
    refine AW.ret ?_
    refine thenQ_ret ?_
    replace h := some_eq h
    subst h
    exact ⟨.inr rfl, retOK_of [(.one (.c (.bool true)))] (by kernel_rfl) ⟨⟨rfl, tr⟩, tr⟩ (of_decide_eq_true (by kernel_rfl))⟩
  · refine AW.cond_f rfl b3 ?_
    refine AW.skip ?_
    refine thenQ_normal ?_
    refine AW.seq ?_
    obtain ⟨v4, e5, h⟩ := bind_some h
    obtain ⟨v6, e7, h⟩ := bind_some h
    refine AW.tC (T2 ((((Eqc (sl 1 (csI .u8) a1)) ∧ (eI (0 : Int)) ∧ (eI (12 : Int)) ∧ Tt) ∧ CallOK Tryd.prog 6 [.one (sl 1 (csI .u8) a1), .one (.int .i64 (0 : Int)), .one (.int .i64 (12 : Int))] [.one (.int .i64 v4)]) ∧ (((Eqc (sl 1 (csI .u8) a0)) ∧ (eI v4) ∧ Tt) ∧ CallOK Tryd.prog 5 [.one (sl 1 (csI .u8) a0), .one (.int .i64 v4)] [.one (sl 1 (csF .f32) v6)]) ∧ Tt ∧ Tt)) [.no, .no, .call [.one (sl 1 (csI .u8) a1), .one (.int .i64 (0 : Int)), .one (.int .i64 (12 : Int))] [.one (.int .i64 v4)] [[.view]], .call [.one (sl 1 (csI .u8) a0), .one (.int .i64 v4)] [.one (sl 1 (csF .f32) v6)] [[.lst 1]]] [1, 5] [1] ⟨tr, tr, ⟨⟨rfl, rfl, rfl, tr⟩, ok_laws_b10At K a1 (0 : Int) (12 : Int) v4 e5⟩, ⟨⟨rfl, rfl, tr⟩, ok_spec_B10Numbers K a0 v4 v6 e7⟩, tr, tr⟩ ?_
    refine AW.seq ?_
    obtain ⟨v8, e9, h⟩ := bind_some h
    refine AW.tC (Tt ∧ (((Eqc (sl 1 (csF .f32) v6)) ∧ Tt) ∧ CallOK Tryd.prog 7 [.one (sl 1 (csF .f32) v6)] [.one (.str v8.1), .one (.bool v8.2)]) ∧ Tt ∧ T4 Tt) [.no, .call [.one (sl 1 (csF .f32) v6)] [.one (.str v8.1), .one (.bool v8.2)] [[.view], [.view]]] [1, 5, 6, 7] [1] ⟨tr, ⟨⟨rfl, tr⟩, ok_impl_NumbersText K v6 v8 e9⟩, tr, tr, tr, tr, tr, tr⟩ ?_
    refine AW.seq ?_
    obtain ⟨v10, e11, h⟩ := bind_some h
    refine AW.tA ⟨[(1, (vc (sl 1 (csI .u8) a1))), (5, (vL 1 1 (csF .f32) v6)), (6, (vc (.str v8.1))), (7, (vB v8.2)), (8, (vL 2 1 (csF .f32) v10.1)), (9, (vB v10.2))], [(1, (oL 1 (csF .f32) v6)), (2, (oL 1 (csF .f32) v10.1))]⟩ (Tt ∧ (((Eqc (.str v8.1)) ∧ Tt) ∧ CallOK Tryd.prog 8 [.one (.str v8.1)] [.one (sl 1 (csF .f32) v10.1), .one (.bool v10.2)]) ∧ Tt ∧ T4 Tt) [.no, .call [.one (.str v8.1)] [.one (sl 1 (csF .f32) v10.1), .one (.bool v10.2)] [[.lst 2], [.view]]] [1, 5, 6, 7, 8, 9] [1, 2] ⟨tr, ⟨⟨rfl, tr⟩, ok_impl_ReadNumbers K v8.1 v10 e11⟩, tr, tr, tr, tr, tr, tr⟩ ?_
    refine AW.seq ?_
    refine AW.seq ?_
    obtain ⟨j18, e19, h⟩ := bind_some h
    refine AW.join1 (s2 := ⟨[(1, (vc (sl 1 (csI .u8) a1))), (58, (vB j18))], []⟩) ?_ ?_
    · rcases ite2_cases e19 with ⟨b12, e19⟩ | ⟨b12, e19⟩
      · replace e19 := some_eq e19
        subst e19
        exact AW.rA ⟨[(1, (vc (sl 1 (csI .u8) a1))), (58, (vB true))], []⟩ (T2 ((Tt ∧ (!v8.2) = true) ∧ Tt ∧ T2 (T4 (T4 (T4 (T4 (T4 Tt))))))) [.no, .no, .dec true] [1, 58] [] ⟨tr, tr, ⟨tr, b12⟩, tr, tr, tr, tr, tr, tr, tr, tr, tr, tr, tr, tr, tr, tr, tr, tr, tr, tr, tr, tr, tr, tr, tr, tr⟩ ⟨rfl, rfl⟩
      · rcases ite2_cases e19 with ⟨b13, e19⟩ | ⟨b13, e19⟩
        · replace e19 := some_eq e19
          subst e19
          exact AW.rA ⟨[(1, (vc (sl 1 (csI .u8) a1))), (58, (vB true))], []⟩ (T2 ((Tt ∧ (!v8.2) = false) ∧ Tt ∧ T2 ((Tt ∧ (!v10.2) = true) ∧ Tt ∧ T2 (T4 (T4 (T4 (T4 Tt))))))) [.no, .no, .dec false, .no, .no, .no, .dec true] [1, 58] [] ⟨tr, tr, ⟨tr, b12⟩, tr, tr, tr, ⟨tr, b13⟩, tr, tr, tr, tr, tr, tr, tr, tr, tr, tr, tr, tr, tr, tr, tr, tr, tr, tr, tr, tr⟩ ⟨rfl, rfl⟩
        · obtain ⟨v14, e15, e19⟩ := bind_some e19
          rcases ite2_cases e19 with ⟨b16, e19⟩ | ⟨b16, e19⟩
          · replace e19 := some_eq e19
            subst e19
            exact AW.rA ⟨[(1, (vc (sl 1 (csI .u8) a1))), (58, (vB true))], []⟩ (T2 ((Tt ∧ (!v8.2) = false) ∧ Tt ∧ T2 ((Tt ∧ (!v10.2) = false) ∧ T2 ((((Eqc (sl 1 (csF .f32) v10.1)) ∧ (Eqc (sl 1 (csF .f32) v6)) ∧ Tt) ∧ CallOK Tryd.prog 9 [.one (sl 1 (csF .f32) v10.1), .one (sl 1 (csF .f32) v6)] [.one (.bool v14)]) ∧ T2 ((Tt ∧ (!v14) = true) ∧ Tt ∧ T4 (T4 (T4 Tt))))))) [.no, .no, .dec false, .no, .no, .no, .dec false, .no, .no, .call [.one (sl 1 (csF .f32) v10.1), .one (sl 1 (csF .f32) v6)] [.one (.bool v14)] [[.view]], .no, .no, .dec true] [1, 58] [] ⟨tr, tr, ⟨tr, b12⟩, tr, tr, tr, ⟨tr, b13⟩, tr, tr, ⟨⟨rfl, rfl, tr⟩, ok_laws_b10Same K v10.1 v6 v14 e15⟩, tr, tr, ⟨tr, b16⟩, tr, tr, tr, tr, tr, tr, tr, tr, tr, tr, tr, tr, tr, tr⟩ ⟨rfl, rfl⟩
          · rcases ite2_cases e19 with ⟨b17, e19⟩ | ⟨b17, e19⟩
            · replace e19 := some_eq e19
              subst e19
              exact AW.rA ⟨[(1, (vc (sl 1 (csI .u8) a1))), (58, (vB ((v8.1.size : Int) != (IntKind.i64.wrap ((IntKind.i64.wrap ((9 : Int) * (v6.length : Int))) - (1 : Int))))))], []⟩ (T2 ((Tt ∧ (!v8.2) = false) ∧ Tt ∧ T2 ((Tt ∧ (!v10.2) = false) ∧ T2 ((((Eqc (sl 1 (csF .f32) v10.1)) ∧ (Eqc (sl 1 (csF .f32) v6)) ∧ Tt) ∧ CallOK Tryd.prog 9 [.one (sl 1 (csF .f32) v10.1), .one (sl 1 (csF .f32) v6)] [.one (.bool v14)]) ∧ T2 ((Tt ∧ (!v14) = false) ∧ Tt ∧ T2 ((Tt ∧ (decide ((v6.length : Int) > (0 : Int))) = true) ∧ Tt ∧ T4 (T4 Tt))))))) [.no, .no, .dec false, .no, .no, .no, .dec false, .no, .no, .call [.one (sl 1 (csF .f32) v10.1), .one (sl 1 (csF .f32) v6)] [.one (.bool v14)] [[.view]], .no, .no, .dec false, .no, .no, .no, .dec true] [1, 58] [] ⟨tr, tr, ⟨tr, b12⟩, tr, tr, tr, ⟨tr, b13⟩, tr, tr, ⟨⟨rfl, rfl, tr⟩, ok_laws_b10Same K v10.1 v6 v14 e15⟩, tr, tr, ⟨tr, b16⟩, tr, tr, tr, ⟨tr, b17⟩, tr, tr, tr, tr, tr, tr, tr, tr, tr, tr⟩ ⟨rfl, rfl⟩
            · replace e19 := some_eq e19
              subst e19
              exact AW.rA ⟨[(1, (vc (sl 1 (csI .u8) a1))), (58, (vB false))], []⟩ (T2 ((Tt ∧ (!v8.2) = false) ∧ Tt ∧ T2 ((Tt ∧ (!v10.2) = false) ∧ T2 ((((Eqc (sl 1 (csF .f32) v10.1)) ∧ (Eqc (sl 1 (csF .f32) v6)) ∧ Tt) ∧ CallOK Tryd.prog 9 [.one (sl 1 (csF .f32) v10.1), .one (sl 1 (csF .f32) v6)] [.one (.bool v14)]) ∧ T2 ((Tt ∧ (!v14) = false) ∧ Tt ∧ T2 ((Tt ∧ (decide ((v6.length : Int) > (0 : Int))) = false) ∧ Tt ∧ T4 (T4 Tt))))))) [.no, .no, .dec false, .no, .no, .no, .dec false, .no, .no, .call [.one (sl 1 (csF .f32) v10.1), .one (sl 1 (csF .f32) v6)] [.one (.bool v14)] [[.view]], .no, .no, .dec false, .no, .no, .no, .dec false] [1, 58] [] ⟨tr, tr, ⟨tr, b12⟩, tr, tr, tr, ⟨tr, b13⟩, tr, tr, ⟨⟨rfl, rfl, tr⟩, ok_laws_b10Same K v10.1 v6 v14 e15⟩, tr, tr, ⟨tr, b16⟩, tr, tr, tr, ⟨tr, b17⟩, tr, tr, tr, tr, tr, tr, tr, tr, tr, tr⟩ ⟨rfl, rfl⟩
    refine thenQ_normal ?_
    rcases ite2_cases h with ⟨b20, h⟩ | ⟨b20, h⟩
    · refine AW.cond_t rfl b20 ?_
      refine AW.sA ⟨[(4, (vB false))], []⟩ (Tt ∧ Tt) [] [4] [] ⟨tr, tr⟩ ?_
      refine AW.ret ?_
      refine thenQ_ret ?_
      replace h := some_eq h
      subst h
      exact ⟨.inr rfl, retOK_of [(.one (.c (.bool false)))] (by kernel_rfl) ⟨⟨rfl, tr⟩, tr⟩ (of_decide_eq_true (by kernel_rfl))⟩
    · refine AW.cond_f rfl b20 ?_
      refine AW.skip ?_
      refine thenQ_normal ?_
      refine AW.sC ((([] : List Int).length = 0 ∧ Tt) ∧ Tt ∧ Tt) [.obj 3 ([] : List Int).length (gl (csI .i64) ([] : List Int))] [1, 10] [3] ⟨⟨rfl, tr⟩, tr, tr⟩ ?_
      refine AW.seq ?_
      refine AW.sA ⟨[(1, (vc (sl 1 (csI .u8) a1))), (10, (vL 3 1 (csI .i64) ([] : List Int))), (11, (vI (0 : Int)))], [(3, (oL 1 (csI .i64) ([] : List Int)))]⟩ (Tt ∧ Tt) [] [1, 10, 11] [3] ⟨tr, tr⟩ ?_
      refine AW.block ?_
      refine AW.loopQ (σ := Nat × Int × (List Int)) (fun p => ⟨[(1, (vc (sl 1 (csI .u8) a1))), (10, (vL 3 1 (csI .i64) p.2.2)), (11, (vI p.2.1))], [(3, (oL 1 (csI .i64) p.2.2))]⟩) (fun p => laws_FnTexts_l1 K a1 p.1 p.2.1 p.2.2 = some o) (fun p => p.1) (K, (0 : Int), ([] : List Int)) h ?_
      clear h
      rintro ⟨k, x23, x24⟩ h
      replace h : laws_FnTexts_l1 K a1 k x23 x24 = some o := h
      show AW _ _ (⟨[(1, (vc (sl 1 (csI .u8) a1))), (10, (vL 3 1 (csI .i64) x24)), (11, (vI x23))], [(3, (oL 1 (csI .i64) x24))]⟩ : St) _
      obtain _ | k := k
      · rw [laws_FnTexts_l1] at h; cases h
      rw [laws_FnTexts_l1] at h
      refine AW.seq ?_
      refine AW.seq ?_
      obtain ⟨v25, e26, h⟩ := bind_some h
      refine AW.tA ⟨[(1, (vc (sl 1 (csI .u8) a1))), (10, (vL 3 1 (csI .i64) x24)), (11, (vI x23)), (63, (vB (decide (x23 < v25))))], [(3, (oL 1 (csI .i64) x24))]⟩ (T2 ((((Eqc (sl 1 (csI .u8) a1)) ∧ (eI (1 : Int)) ∧ (eI (8 : Int)) ∧ Tt) ∧ CallOK Tryd.prog 6 [.one (sl 1 (csI .u8) a1), .one (.int .i64 (1 : Int)), .one (.int .i64 (8 : Int))] [.one (.int .i64 v25)]) ∧ Tt ∧ Tt)) [.no, .no, .call [.one (sl 1 (csI .u8) a1), .one (.int .i64 (1 : Int)), .one (.int .i64 (8 : Int))] [.one (.int .i64 v25)] [[.view]]] [1, 10, 11, 63] [3] ⟨tr, tr, ⟨⟨rfl, rfl, rfl, tr⟩, ok_laws_b10At K a1 (1 : Int) (8 : Int) v25 e26⟩, tr, tr⟩ ?_
      rcases ite2_cases h with ⟨b27, h⟩ | ⟨b27, h⟩
      · refine AW.cond_t rfl b27 ?_
        refine AW.skip ?_
        refine thenQ_normal ?_
        refine AW.seq ?_
        refine AW.block ?_
        obtain ⟨v28, e29, h⟩ := bind_some h
        obtain ⟨c30, h⟩ := chk_some h
        refine AW.rA ⟨[(1, (vc (sl 1 (csI .u8) a1))), (10, (vL 9 1 (csI .i64) (x24 ++ ([(IntKind.i64.wrap ((IntKind.i64.wrap ((1000 : Int) * v28)) - (90000 : Int)))])))), (11, (vI x23))], [(9, (oL 1 (csI .i64) (x24 ++ ([(IntKind.i64.wrap ((IntKind.i64.wrap ((1000 : Int) * v28)) - (90000 : Int)))]))))]⟩ (T4 ((((Eqc (sl 1 (csI .u8) a1)) ∧ (eI (IntKind.i64.wrap (x23 + (2 : Int)))) ∧ (eI (256 : Int)) ∧ Tt) ∧ CallOK Tryd.prog 6 [.one (sl 1 (csI .u8) a1), .one (.int .i64 (IntKind.i64.wrap (x23 + (2 : Int)))), .one (.int .i64 (256 : Int))] [.one (.int .i64 v28)]) ∧ T2 ((([(IntKind.i64.wrap ((IntKind.i64.wrap ((1000 : Int) * v28)) - (90000 : Int)))]).length = 1 ∧ (((.int .i64 (IntKind.i64.wrap ((IntKind.i64.wrap ((1000 : Int) * v28)) - (90000 : Int)))) : C) = (.int .i64 (IntKind.i64.wrap ((IntKind.i64.wrap ((1000 : Int) * v28)) - (90000 : Int)))) ∧ Tt) ∧ Tt) ∧ ((x24 ++ ([(IntKind.i64.wrap ((IntKind.i64.wrap ((1000 : Int) * v28)) - (90000 : Int)))])).length = x24.length + ([(IntKind.i64.wrap ((IntKind.i64.wrap ((1000 : Int) * v28)) - (90000 : Int)))]).length ∧ AppOb (x24.length) (([(IntKind.i64.wrap ((IntKind.i64.wrap ((1000 : Int) * v28)) - (90000 : Int)))]).length) 1 (gl (csI .i64) x24) (gl (csI .i64) ([(IntKind.i64.wrap ((IntKind.i64.wrap ((1000 : Int) * v28)) - (90000 : Int)))])) (gl (csI .i64) (x24 ++ ([(IntKind.i64.wrap ((IntKind.i64.wrap ((1000 : Int) * v28)) - (90000 : Int)))]))) ∧ (∀ i j, i < ([(IntKind.i64.wrap ((IntKind.i64.wrap ((1000 : Int) * v28)) - (90000 : Int)))]).length → j < 1 → scalarC (gl (csI .i64) ([(IntKind.i64.wrap ((IntKind.i64.wrap ((1000 : Int) * v28)) - (90000 : Int)))]) i j)) ∧ (x24.length + ([(IntKind.i64.wrap ((IntKind.i64.wrap ((1000 : Int) * v28)) - (90000 : Int)))]).length) * 8 ≤ 140737488355328) ∧ Tt ∧ Tt))) [.no, .no, .no, .no, .call [.one (sl 1 (csI .u8) a1), .one (.int .i64 (IntKind.i64.wrap (x23 + (2 : Int)))), .one (.int .i64 (256 : Int))] [.one (.int .i64 v28)] [[.view]], .no, .no, .obj 8 ([(IntKind.i64.wrap ((IntKind.i64.wrap ((1000 : Int) * v28)) - (90000 : Int)))]).length (gl (csI .i64) ([(IntKind.i64.wrap ((IntKind.i64.wrap ((1000 : Int) * v28)) - (90000 : Int)))])), .objK 9 (x24 ++ ([(IntKind.i64.wrap ((IntKind.i64.wrap ((1000 : Int) * v28)) - (90000 : Int)))])).length (gl (csI .i64) (x24 ++ ([(IntKind.i64.wrap ((IntKind.i64.wrap ((1000 : Int) * v28)) - (90000 : Int)))])))] [1, 10, 11] [9] ⟨tr, tr, tr, tr, ⟨⟨rfl, rfl, rfl, tr⟩, ok_laws_b10At K a1 (IntKind.i64.wrap (x23 + (2 : Int))) (256 : Int) v28 e29⟩, tr, tr, ⟨rfl, ⟨⟨rfl, tr⟩, tr⟩⟩, ⟨List.length_append, gl_append, gl_scalar scI _, c30⟩, tr, tr⟩ ?_
        refine blockQ_normal ?_
        refine thenQ_normal ?_
        refine AW.rA ⟨[(1, (vc (sl 1 (csI .u8) a1))), (10, (vL 9 1 (csI .i64) (x24 ++ ([(IntKind.i64.wrap ((IntKind.i64.wrap ((1000 : Int) * v28)) - (90000 : Int)))])))), (11, (vI (IntKind.i64.wrap (x23 + (1 : Int)))))], [(9, (oL 1 (csI .i64) (x24 ++ ([(IntKind.i64.wrap ((IntKind.i64.wrap ((1000 : Int) * v28)) - (90000 : Int)))]))))]⟩ (Tt ∧ T2 Tt) [] [1, 10, 11] [9] ⟨tr, tr, tr, tr⟩ ?_
        exact loopQ_normal (k, (IntKind.i64.wrap (x23 + (1 : Int))), (x24 ++ ([(IntKind.i64.wrap ((IntKind.i64.wrap ((1000 : Int) * v28)) - (90000 : Int)))]))) h (Nat.lt_succ_self k) (Sub.trans (Sub.swap 3 9 _ (by kernel_rfl) (by kernel_rfl)) (Sub.keep [1, 10, 11] [3] (by kernel_rfl) (by kernel_rfl)))
      · refine AW.cond_f rfl b27 ?_
        refine AW.exit ?_
        refine thenQ_exit ?_
        refine loopQ_exit ?_
        refine blockQ_exit ?_
        refine thenQ_normal ?_
        refine AW.seq ?_
        obtain ⟨v31, e32, h⟩ := bind_some h
        refine AW.tC (Tt ∧ (((Eqc (sl 1 (csI .i64) x24)) ∧ Tt) ∧ CallOK Tryd.prog 10 [.one (sl 1 (csI .i64) x24)] [.one (.str v31.1), .one (.bool v31.2)]) ∧ Tt ∧ T4 Tt) [.no, .call [.one (sl 1 (csI .i64) x24)] [.one (.str v31.1), .one (.bool v31.2)] [[.view], [.view]]] [10, 12, 13] [3] ⟨tr, ⟨⟨rfl, tr⟩, ok_impl_ListText K x24 v31 e32⟩, tr, tr, tr, tr, tr, tr⟩ ?_
        refine AW.seq ?_
        obtain ⟨v33, e34, h⟩ := bind_some h
        refine AW.tA ⟨[(10, (vL 3 1 (csI .i64) x24)), (13, (vB v31.2)), (14, (vL 10 1 (csI .i64) v33.1)), (15, (vB v33.2))], [(3, (oL 1 (csI .i64) x24)), (10, (oL 1 (csI .i64) v33.1))]⟩ (Tt ∧ (((Eqc (.str v31.1)) ∧ Tt) ∧ CallOK Tryd.prog 11 [.one (.str v31.1)] [.one (sl 1 (csI .i64) v33.1), .one (.bool v33.2)]) ∧ Tt ∧ T4 Tt) [.no, .call [.one (.str v31.1)] [.one (sl 1 (csI .i64) v33.1), .one (.bool v33.2)] [[.lst 10], [.view]]] [10, 13, 14, 15] [3, 10] ⟨tr, ⟨⟨rfl, tr⟩, ok_impl_ReadList K v31.1 v33 e34⟩, tr, tr, tr, tr, tr, tr⟩ ?_
        refine AW.seq ?_
        obtain ⟨j39, e40, h⟩ := bind_some h
        refine AW.join1 (s2 := ⟨[(4, (vB j39))], []⟩) ?_ ?_
        · rcases ite2_cases e40 with ⟨b35, e40⟩ | ⟨b35, e40⟩
          · rcases ite2_cases e40 with ⟨b36, e40⟩ | ⟨b36, e40⟩
            · obtain ⟨v37, e38, e40⟩ := bind_some e40
              replace e40 := some_eq e40
              subst e40
              exact AW.rA ⟨[(4, (vB v37))], []⟩ (Tt ∧ (Tt ∧ v31.2 = true) ∧ T2 ((Tt ∧ v33.2 = true) ∧ T2 ((((Eqc (sl 1 (csI .i64) v33.1)) ∧ (Eqc (sl 1 (csI .i64) x24)) ∧ Tt) ∧ CallOK Tryd.prog 12 [.one (sl 1 (csI .i64) v33.1), .one (sl 1 (csI .i64) x24)] [.one (.bool v37)]) ∧ T2 Tt))) [.no, .dec true, .no, .no, .dec true, .no, .no, .call [.one (sl 1 (csI .i64) v33.1), .one (sl 1 (csI .i64) x24)] [.one (.bool v37)] [[.view]]] [4] [] ⟨tr, ⟨tr, b35⟩, tr, tr, ⟨tr, b36⟩, tr, tr, ⟨⟨rfl, rfl, tr⟩, ok_laws_b10Nums K v33.1 x24 v37 e38⟩, tr, tr, tr⟩ ⟨rfl, rfl⟩
            · replace e40 := some_eq e40
              subst e40
              exact AW.rA ⟨[(4, (vB false))], []⟩ (Tt ∧ (Tt ∧ v31.2 = true) ∧ T2 ((Tt ∧ v33.2 = false) ∧ Tt ∧ T4 Tt)) [.no, .dec true, .no, .no, .dec false] [4] [] ⟨tr, ⟨tr, b35⟩, tr, tr, ⟨tr, b36⟩, tr, tr, tr, tr, tr, tr⟩ ⟨rfl, rfl⟩
          · replace e40 := some_eq e40
            subst e40
            exact AW.rA ⟨[(4, (vB false))], []⟩ (Tt ∧ (Tt ∧ v31.2 = false) ∧ T4 (T4 Tt)) [.no, .dec false] [4] [] ⟨tr, ⟨tr, b35⟩, tr, tr, tr, tr, tr, tr, tr, tr, tr⟩ ⟨rfl, rfl⟩
        refine thenQ_normal ?_
        refine AW.ret ?_
        replace h := some_eq h
        subst h
        exact ⟨.inr rfl, retOK_of [(.one (.c (.bool j39)))] (by kernel_rfl) ⟨⟨rfl, tr⟩, tr⟩ (of_decide_eq_true (by kernel_rfl))⟩

end
end Go.Fw
